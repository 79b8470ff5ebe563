/- Contracts and laws on abstract memory, merged. Each holds under its own conditions. -/
import Derived.Test.YtijmkfnmdhpakaaPTermBound02
/- Contracts: valid schemes and deals, of the program and of the reference. Each holds under its own conditions. -/
set_option linter.unusedVariables false
set_option maxRecDepth 20000
namespace Go.Proofs.Ytijmkfnmdhpakaa.Am
open Go Go.RowKit Go.Proofs
structure OkSch (h : Int) (ow : List Int) (p c : Int) (rows : List (List Int)) : Prop where
  h1 : 1 ≤ h
  h7 : h ≤ 7
  mat : OkMat p c rows
  c1 : 1 ≤ c
  len : ow.length = rows.length
  own : ∀ x ∈ ow, 0 ≤ x ∧ x ≤ h - 1
section
variable {S : Ids} {H0 : AH}
theorem validScheme1 (h y : Int) (hh : 1 ≤ h ∧ h ≤ 7) {id : Nat} {b : Blk} {vs : List Value} (hb : b.cells = .int .i64 h :: vs) (hv : S id ∧ H0.m id = some b) : Spec Try.prog S H0 188 [.int .i64 y, .pointer (some ⟨id, 0, none⟩)] (fun v => v = .bool (!decide (0 ≤ y ∧ y ≤ h - 1))) := by
  refine Spec.of1 Try.func188 rfl (by kernel_rfl) rfl (fun H _ => ?_)
  obtain ⟨hS1, hm1⟩ := On.blk (S' := Low H.n) (H' := H) hv.1 hv.2
  obtain ⟨ty, rw, cs⟩ := b
  subst hb
  refine KW.ldP hS1 hm1 rfl rfl rfl rfl rfl rfl ?_
  refine KW.callE rfl rfl rfl rfl rfl (within _ _ _) (fun _ _ => ?_)
  have e : IntKind.i64.wrap (h - 1) = h - 1 := wr (by omega) (by omega)
  refine KW.ret rfl rfl rfl rfl ?_
  rw [e]; rfl
theorem validScheme (h p c : Int) (hp : I64 p) {a1 c1 a2 c2} {ow : List Int} {rows : List (List Int)} (hO : B_Int64S ow) (hB : B_Int64SS rows) (ho : KI.Sl S H0 (.slice a1 ow.length c1) ow) (hs : KI.sl.Sl S H0 (.slice a2 rows.length c2) rows) :
    Spec Try.prog S H0 123 [.agg #[.int .i64 h, .slice a1 ow.length c1, .int .i64 p, .int .i64 c, .slice a2 rows.length c2]] (fun v => v = .bool (tv (OkSch h ow p c rows))) := by
  refine Spec.of1 Try.func123 rfl (by kernel_rfl) rfl (fun H _ => ?_)
  refine KW.callE rfl rfl rfl rfl rfl (within _ _ _) (fun _ _ => ?_)
  refine KW.tstB rfl rfl (fun k1 => ?_) (fun k1 => ?_)
  · have k1 : 1 ≤ h ∧ h ≤ 7 := by simpa using k1
    refine KW.callE rfl rfl rfl rfl rfl (validMatrix p c hp hB hs.up) (fun _ _ => ?_)
    refine KW.tstB rfl rfl (fun k2 => ?_) (fun k2 => ?_)
    · have k2 := tv_iff.1 k2
      refine KW.tst rfl rfl (fun k3 => ?_) (fun k3 => ?_)
      · have k3 : 1 ≤ c := k3
        refine KW.tstB rfl rfl (fun k4 => ?_) (fun k4 => ?_)
        · have k4 : ow.length = rows.length := by simp at k4; omega
          have hO' : ow.length ≤ 1048576 := hO
          refine KW.callV1 rfl rfl rfl rfl rfl (fun H1 g _ => containsFuncI (p := fun y => !decide (0 ≤ y ∧ y ≤ h - 1)) (by omega) ho.up (fun S' H' o y _ => validScheme1 h y k1 rfl (g.var (j := 0) rfl))) (fun _ _ => ?_)
          refine KW.ret rfl rfl rfl rfl ?_
          show Value.bool (!tv (∃ x ∈ ow, (!decide (0 ≤ x ∧ x ≤ h - 1)) = true)) = _
          by_cases hx : OkSch h ow p c rows
          · rw [tv_true hx, tv_false (fun ⟨x, h1, h2⟩ => by have := hx.own x h1; simp at h2; omega)]; rfl
          · rw [tv_false hx, tv_true ?_]; · rfl
            refine Classical.byContradiction fun hc => hx ⟨k1.1, k1.2, k2, k3, k4, fun x h1 => ?_⟩
            refine Classical.byContradiction fun h2 => hc ⟨x, h1, by simp; omega⟩
        · have k4 : ow.length ≠ rows.length := by simp at k4; omega
          repeat first | refine KW.tT rfl rfl rfl ?_ | refine KW.tF rfl rfl rfl ?_
          exact KW.ret rfl rfl rfl rfl (by rw [tv_false (p := OkSch h ow p c rows) (fun hc => k4 hc.len)]; rfl)
      · have k3 : ¬ 1 ≤ c := k3
        repeat first | refine KW.tT rfl rfl rfl ?_ | refine KW.tF rfl rfl rfl ?_
        exact KW.ret rfl rfl rfl rfl (by rw [tv_false (p := OkSch h ow p c rows) (fun hc => k3 hc.c1)]; rfl)
    · repeat first | refine KW.tT rfl rfl rfl ?_ | refine KW.tF rfl rfl rfl ?_
      exact KW.ret rfl rfl rfl rfl (by rw [tv_false (p := OkSch h ow p c rows) (fun hc => by rw [tv_true hc.mat] at k2; cases k2)]; rfl)
  · have k1 : ¬ (1 ≤ h ∧ h ≤ 7) := by simp at k1; omega
    repeat first | refine KW.tT rfl rfl rfl ?_ | refine KW.tF rfl rfl rfl ?_
    exact KW.ret rfl rfl rfl rfl (by rw [tv_false (p := OkSch h ow p c rows) (fun hc => k1 ⟨hc.h1, hc.h7⟩)]; rfl)
theorem Has3.drop {S : Ids} {H : AH} {id k : Nat} {vs ws : List Value} (h : Has3 S H id k (vs ++ ws)) : Has3 S H id (k + vs.length) ws := by
  obtain ⟨h1, b, h2, h3⟩ := h
  exact ⟨h1, b, h2, fun i v hi => by rw [Nat.add_assoc]; exact h3 _ v (by rw [List.getElem?_append_right (by omega)]; simpa using hi)⟩
theorem Has3.take {S : Ids} {H : AH} {id k : Nat} {vs ws : List Value} (h : Has3 S H id k (vs ++ ws)) : Has3 S H id k vs := by
  obtain ⟨h1, b, h2, h3⟩ := h
  exact ⟨h1, b, h2, fun i v hi => h3 i v (by rw [List.getElem?_append_left (List.getElem?_eq_some_iff.1 hi).1]; exact hi)⟩
theorem Good.has {S0 : Ids} {H0 H1 : AH} {T : List Var} {n j id : Nat} {b : Blk} {vs : List Value} (g : Good S0 H0 T n H1) (hj : T[j]? = some (id, b)) (hb : b.cells = vs) : Has3 (Low H1.n) H1 id 0 vs := ⟨(g.blk hj).2, b, (g.blk hj).1, fun i v hi => by rw [hb, Nat.zero_add]; exact hi⟩
theorem l04Ok (h p c : Int) (hp : I64 p) {id k : Nat} {a1 c1 a2 c2} {ow : List Int} {rows : List (List Int)} (hO : B_Int64S ow) (hB : B_Int64SS rows) (hv : Has3 S H0 id k [.int .i64 h, .slice a1 ow.length c1, .int .i64 p, .int .i64 c, .slice a2 rows.length c2]) (ho : KI.Sl S H0 (.slice a1 ow.length c1) ow) (hs : KI.sl.Sl S H0 (.slice a2 rows.length c2) rows) :
    Spec Try.prog S H0 204 [.pointer (some ⟨id, k, none⟩)] (fun v => v = .bool (tv (OkSch h ow p c rows))) := by
  refine Spec.of1 Try.func204 rfl (by kernel_rfl) rfl (fun H _ => ?_)
  have hO' : ow.length ≤ 1048576 := hO
  have hv := hv.up (S' := Low H.n) (H' := H)
  have ho := ho.up (S' := Low H.n) (H' := H)
  have hs := hs.up (S' := Low H.n) (H' := H)
  refine KW.ldF 0 hv rfl rfl rfl rfl rfl rfl rfl rfl rfl ?_
  refine KW.callE rfl rfl rfl rfl rfl (l00In _ _ _) (fun _ _ => ?_)
  refine KW.tstB rfl rfl (fun k1 => ?_) (fun k1 => ?_)
  · have k1 : ¬ (1 ≤ h ∧ h ≤ 7) := by simp at k1; omega
    repeat first | refine KW.tT rfl rfl rfl ?_ | refine KW.tF rfl rfl rfl ?_
    first | refine KW.cT rfl rfl rfl ?_ | refine KW.cF rfl rfl rfl ?_
    exact KW.ret rfl rfl rfl rfl (by rw [tv_false (p := OkSch h ow p c rows) (fun hc => k1 ⟨hc.h1, hc.h7⟩)]; rfl)
  have k1 : 1 ≤ h ∧ h ≤ 7 := by simpa using k1
  refine KW.callE rfl rfl rfl rfl rfl (l03Ok p c hp hB (hv.drop (vs := [_, _])) hs) (fun _ _ => ?_)
  refine KW.tstB rfl rfl (fun k2 => ?_) (fun k2 => ?_)
  · repeat first | refine KW.tT rfl rfl rfl ?_ | refine KW.tF rfl rfl rfl ?_
    first | refine KW.cT rfl rfl rfl ?_ | refine KW.cF rfl rfl rfl ?_
    exact KW.ret rfl rfl rfl rfl (by rw [tv_false (p := OkSch h ow p c rows) (fun hc => by rw [tv_true hc.mat] at k2; cases k2)]; rfl)
  have k2 : OkMat p c rows := tv_iff.1 (by simpa using k2)
  refine KW.ldF 3 hv rfl rfl rfl rfl rfl rfl rfl rfl rfl ?_
  refine KW.tst rfl rfl (fun k3 => ?_) (fun k3 => ?_)
  · have k3 : c < 1 := k3
    repeat first | refine KW.tT rfl rfl rfl ?_ | refine KW.tF rfl rfl rfl ?_
    first | refine KW.cT rfl rfl rfl ?_ | refine KW.cF rfl rfl rfl ?_
    exact KW.ret rfl rfl rfl rfl (by rw [tv_false (p := OkSch h ow p c rows) (fun hc => by have := hc.c1; omega)]; rfl)
  have k3 : ¬ c < 1 := k3
  refine KW.ldF 1 hv rfl rfl rfl rfl rfl rfl rfl rfl rfl ?_
  refine KW.ldF 4 hv rfl rfl rfl rfl rfl rfl rfl rfl rfl ?_
  refine KW.cndB rfl rfl (fun k4 => ?_) (fun k4 => ?_)
  · have k4 : ow.length ≠ rows.length := by simp at k4; omega
    exact KW.ret rfl rfl rfl rfl (by rw [tv_false (p := OkSch h ow p c rows) (fun hc => k4 hc.len)]; rfl)
  have k4 : ow.length = rows.length := by simp at k4; omega
  refine KW.lp rfl rfl (fun i : Nat => [(0, .pointer (some ⟨id, k, none⟩)), (3, .int .i64 i)]) (fun i => i ≤ ow.length ∧ ∀ j, j < i → ∀ x, ow[j]? = some x → 0 ≤ x ∧ x ≤ h - 1) (fun i => ow.length - i) (0) (⟨by omega, fun j h => absurd h (by omega)⟩) ⟨rfl, rfl, trivial⟩ (fun i hi bE n => ?_)
  obtain ⟨hi, hj⟩ := hi
  refine KW.ldF 1 hv rfl rfl rfl rfl rfl rfl rfl rfl rfl ?_
  refine KW.cnd rfl rfl (fun k5 => ?_) (fun k5 => ?_)
  · refine KW.ldF 1 hv rfl rfl rfl rfl rfl rfl rfl rfl rfl ?_
    refine KW.getI ho rfl rfl rfl rfl rfl rfl rfl rfl rfl rfl rfl rfl rfl rfl rfl rfl (by omega) (k5) (fun y hy => ?_)
    have hy : ow[i]? = some y := hy
    refine KW.ldF 0 hv rfl rfl rfl rfl rfl rfl rfl rfl rfl ?_
    refine KW.callE rfl rfl rfl rfl rfl (l00In _ _ _) (fun _ _ => ?_)
    have e : IntKind.i64.wrap (h - 1) = h - 1 := wr (by omega) (by omega)
    rw [e]
    refine KW.cndB rfl rfl (fun k6 => ?_) (fun k6 => ?_)
    · exact KW.ret rfl rfl rfl rfl (by rw [tv_false (p := OkSch h ow p c rows) (fun hc => by have := hc.own y (List.mem_of_getElem? hy); simp at k6; omega)]; rfl)
    · refine KW.nxt rfl rfl (fun H' g => ⟨i + 1, ⟨by omega, upto hj (fun z hz => by rw [hy] at hz; cases hz; simpa using k6)⟩, by first | omega | (simp only; omega), ⟨rfl, congrArg (Value.int .i64) (inc64 (by omega)), trivial⟩, g⟩)
  · exact KW.ret rfl rfl rfl rfl (by rw [tv_true (p := OkSch h ow p c rows) ⟨k1.1, k1.2, k2, by omega, k4, all_of (fun j hjl => hj j (by omega))⟩]; rfl)
end
/-- Keys of an epoch. -/
def KeysOk (p : Int) (n : Nat) (kk : List (List Int)) : Prop := kk.length = n ∧ ∀ y ∈ kk, y.length = 2 ∧ Elems p y
structure OkDeal (h : Int) (ow : List Int) (p c : Int) (rows : List (List Int)) (s : Int) (bs : List (List Int)) (ks : List (List (List Int))) : Prop where
  sch : OkSch h ow p c rows
  sec : 0 ≤ s ∧ s ≤ p - 1
  bl : 1 ≤ bs.length ∧ bs.length ≤ 4
  kl : ks.length = bs.length
  bk : ∀ (e : Nat) b kk, bs[e]? = some b → ks[e]? = some kk → ((b.length : Int) = c - 1 ∧ Elems p b) ∧ KeysOk p rows.length kk
section
variable {S : Ids} {H0 : AH}
theorem validDeal (h p c s : Int) (hp : I64 p) {a1 c1 a2 c2 a3 c3 a4 c4} {ow : List Int} {rows bs : List (List Int)} {ks : List (List (List Int))} (hO : B_Int64S ow) (hB : B_Int64SS rows) (hBb : B_Int64SS bs) (hBk : B_Int64SSS ks)
    (ho : KI.Sl S H0 (.slice a1 ow.length c1) ow) (hs : KI.sl.Sl S H0 (.slice a2 rows.length c2) rows) (hb : KI.sl.Sl S H0 (.slice a3 bs.length c3) bs) (hk : KI.sl.sl.Sl S H0 (.slice a4 ks.length c4) ks) :
    Spec Try.prog S H0 173 [.agg #[.int .i64 h, .slice a1 ow.length c1, .int .i64 p, .int .i64 c, .slice a2 rows.length c2, .int .i64 s, .slice a3 bs.length c3, .slice a4 ks.length c4]] (fun v => v = .bool (tv (OkDeal h ow p c rows s bs ks))) := by
  refine Spec.of1 Try.func173 rfl (by kernel_rfl) rfl (fun H _ => ?_)
  have bl := hBb.len
  have kl := hBk.len
  refine KW.callE rfl rfl rfl rfl rfl (validScheme h p c hp hO hB ho.up hs.up) (fun _ _ => ?_)
  refine KW.tstB rfl rfl (fun k1 => ?_) (fun k1 => ?_)
  · repeat first | refine KW.tT rfl rfl rfl ?_ | refine KW.tF rfl rfl rfl ?_
    first | refine KW.cT rfl rfl rfl ?_ | refine KW.cF rfl rfl rfl ?_
    exact KW.ret rfl rfl rfl rfl (by rw [tv_false (p := OkDeal h ow p c rows s bs ks) (fun hc => by rw [tv_true hc.sch] at k1; cases k1)]; rfl)
  have k1 : OkSch h ow p c rows := tv_iff.1 (by simpa using k1)
  have hc12 := k1.mat.c1
  have hc1 := k1.c1
  refine KW.lit rfl rfl rfl rfl rfl rfl rfl rfl rfl rfl [.int .i64 s] rfl rfl (fun v hv => by simp at hv; subst hv; rfl) rfl ?_
  refine KW.callV1 rfl rfl rfl rfl rfl (fun H1 g _ => areElements p hp (xs := [s]) (by simp) (g.ints (j := 2) rfl rfl (by simp))) (fun _ _ => ?_)
  refine KW.tstB rfl rfl (fun k2 => ?_) (fun k2 => ?_)
  · repeat first | refine KW.tT rfl rfl rfl ?_ | refine KW.tF rfl rfl rfl ?_
    first | refine KW.cT rfl rfl rfl ?_ | refine KW.cF rfl rfl rfl ?_
    exact KW.ret rfl rfl rfl rfl (by rw [tv_false (p := OkDeal h ow p c rows s bs ks) (fun hc => by rw [tv_true ⟨k1.mat.pr, fun x hx => by rw [List.mem_singleton.1 hx]; exact hc.sec⟩] at k2; cases k2)]; rfl)
  have k2 : 0 ≤ s ∧ s ≤ p - 1 := (tv_iff.1 (by simpa using k2) : PrimeP p ∧ Elems p [s]).2 s (by simp)
  refine KW.callE rfl rfl rfl rfl rfl (within _ _ _) (fun _ _ => ?_)
  refine KW.tstB rfl rfl (fun k3 => ?_) (fun k3 => ?_)
  · have k3 : ¬ (1 ≤ bs.length ∧ bs.length ≤ 4) := by simp at k3; omega
    repeat first | refine KW.tT rfl rfl rfl ?_ | refine KW.tF rfl rfl rfl ?_
    first | refine KW.cT rfl rfl rfl ?_ | refine KW.cF rfl rfl rfl ?_
    exact KW.ret rfl rfl rfl rfl (by rw [tv_false (p := OkDeal h ow p c rows s bs ks) (fun hc => k3 hc.bl)]; rfl)
  have k3 : 1 ≤ bs.length ∧ bs.length ≤ 4 := by simp at k3; omega
  refine KW.cndB rfl rfl (fun k4 => ?_) (fun k4 => ?_)
  · exact KW.ret rfl rfl rfl rfl (by rw [tv_false (p := OkDeal h ow p c rows s bs ks) (fun hc => by rw [hc.kl] at k4; simp at k4)]; rfl)
  have k4 : ks.length = bs.length := by simp at k4; omega
  refine KW.lp rfl rfl (fun i : Nat => [(1, .pointer (some ⟨H.n, 0, some 0⟩)), (3, .pointer (some ⟨H.n + 1, 0, some 1⟩)), (41, .slice a3 bs.length c3), (42, .int .i64 bs.length), (43, .int .i64 i)]) (fun i => i ≤ bs.length ∧ ∀ j, j < i → ∀ b kk, bs[j]? = some b → ks[j]? = some kk → ((b.length : Int) = c - 1 ∧ Elems p b) ∧ KeysOk p rows.length kk) (fun i => bs.length - i) (0) (⟨by omega, fun j h => absurd h (by omega)⟩) ⟨rfl, rfl, rfl, rfl, rfl, trivial⟩ (fun i hi bE n => ?_)
  obtain ⟨hi, hj⟩ := hi
  refine KW.cnd rfl rfl (fun k5 => ?_) (fun k5 => ?_)
  · refine KW.getL hb.up rfl rfl rfl rfl rfl rfl rfl rfl rfl rfl rfl rfl rfl rfl rfl rfl (by omega) (k5) (fun y a' m' hy hsy => ?_)
    have hy : bs[i]? = some y := hy
    have hym := hBb.each y (List.mem_of_getElem? hy)
    obtain ⟨kk, hkk⟩ : ∃ kk, ks[i]? = some kk := ⟨ks[i]'(by omega), List.getElem?_eq_getElem (by omega)⟩
    have bad : ¬ (((y.length : Int) = c - 1 ∧ Elems p y) ∧ KeysOk p rows.length kk) → aout [Value.bool false] = .bool (tv (OkDeal h ow p c rows s bs ks)) := fun hx => by rw [tv_false (p := OkDeal h ow p c rows s bs ks) (fun hc => hx (hc.bk i y kk hy hkk))]; rfl
    have e : IntKind.i64.wrap (c - 1) = c - 1 := wr (by omega) (by omega)
    refine KW.tstB rfl rfl (fun k6 => ?_) (fun k6 => ?_)
    · rw [e] at k6
      repeat first | refine KW.tT rfl rfl rfl ?_ | refine KW.tF rfl rfl rfl ?_
      first | refine KW.cT rfl rfl rfl ?_ | refine KW.cF rfl rfl rfl ?_
      exact KW.ret rfl rfl rfl rfl (bad (fun hc => by rw [hc.1.1] at k6; simp at k6))
    rw [e] at k6
    have k6 : (y.length : Int) = c - 1 := by simpa using k6
    refine KW.callE rfl rfl rfl rfl rfl (areElements p hp (by omega) hsy) (fun _ _ => ?_)
    refine KW.tstB rfl rfl (fun k7 => ?_) (fun k7 => ?_)
    · repeat first | refine KW.tT rfl rfl rfl ?_ | refine KW.tF rfl rfl rfl ?_
      first | refine KW.cT rfl rfl rfl ?_ | refine KW.cF rfl rfl rfl ?_
      exact KW.ret rfl rfl rfl rfl (bad (fun hc => by rw [tv_true ⟨k1.mat.pr, hc.1.2⟩] at k7; cases k7))
    have k7 : Elems p y := (tv_iff.1 (by simpa using k7) : PrimeP p ∧ Elems p y).2
    refine KW.getL hk.up rfl rfl rfl rfl rfl rfl rfl rfl rfl rfl rfl rfl rfl rfl rfl rfl (by omega) (by omega) (fun kk1 a'' m'' hkk1 hskk => ?_)
    have hkk1 : ks[i]? = some kk1 := hkk1
    rw [hkk] at hkk1
    cases hkk1
    have hkB := hBk.each kk (List.mem_of_getElem? hkk)
    have hkl := hkB.len
    refine KW.cndB rfl rfl (fun k8 => ?_) (fun k8 => ?_)
    · exact KW.ret rfl rfl rfl rfl (bad (fun hc => by rw [hc.2.1] at k8; simp at k8))
    have k8 : kk.length = rows.length := by simp at k8; omega
    refine KW.getL hk.up rfl rfl rfl rfl rfl rfl rfl rfl rfl rfl rfl rfl rfl rfl rfl rfl (by omega) (by omega) (fun kk1 a'' m'' hkk1 hskk => ?_)
    have hkk1 : ks[i]? = some kk1 := hkk1
    rw [hkk] at hkk1
    cases hkk1
    refine KW.lp rfl rfl (fun q : Nat => [(1, .pointer (some ⟨H.n, 0, some 0⟩)), (3, .pointer (some ⟨H.n + 1, 0, some 1⟩)), (41, .slice a3 bs.length c3), (42, .int .i64 bs.length), (43, .int .i64 i), (77, .slice a'' kk.length m''), (78, .int .i64 kk.length), (79, .int .i64 q)]) (fun q => q ≤ kk.length ∧ ∀ j, j < q → ∀ x, kk[j]? = some x → x.length = 2 ∧ Elems p x) (fun q => kk.length - q) (0) (⟨by omega, fun j h => absurd h (by omega)⟩) ⟨rfl, rfl, rfl, rfl, rfl, rfl, rfl, rfl, trivial⟩ (fun q hi bE n => ?_)
    obtain ⟨hq, hqj⟩ := hi
    refine KW.cnd rfl rfl (fun k9 => ?_) (fun k9 => ?_)
    · refine KW.getL hskk rfl rfl rfl rfl rfl rfl rfl rfl rfl rfl rfl rfl rfl rfl rfl rfl (by omega) (k9) (fun z a3' m3' hz hsz => ?_)
      have hz : kk[q]? = some z := hz
      have hzm := List.mem_of_getElem? hz
      refine KW.tstB rfl rfl (fun k10 => ?_) (fun k10 => ?_)
      · repeat first | refine KW.tT rfl rfl rfl ?_ | refine KW.tF rfl rfl rfl ?_
        first | refine KW.cT rfl rfl rfl ?_ | refine KW.cF rfl rfl rfl ?_
        exact KW.ret rfl rfl rfl rfl (bad (fun hc => by rw [(hc.2.2 z hzm).1] at k10; simp at k10))
      have k10 : z.length = 2 := by simp at k10; omega
      refine KW.callE rfl rfl rfl rfl rfl (areElements p hp (by omega) hsz) (fun _ _ => ?_)
      refine KW.cndB rfl rfl (fun k11 => ?_) (fun k11 => ?_)
      · exact KW.ret rfl rfl rfl rfl (bad (fun hc => by rw [tv_true ⟨k1.mat.pr, (hc.2.2 z hzm).2⟩] at k11; cases k11))
      have k11 : Elems p z := (tv_iff.1 (by simpa using k11) : PrimeP p ∧ Elems p z).2
      refine KW.nxt rfl rfl (fun H' g => ⟨q + 1, ⟨by omega, upto hqj (fun x hx => by rw [hz] at hx; cases hx; exact ⟨k10, k11⟩)⟩, by first | omega | (simp only; omega), ⟨rfl, rfl, rfl, rfl, rfl, rfl, rfl, congrArg (Value.int .i64) (inc64 (by omega)), trivial⟩, g⟩)
    · refine KW.nxt rfl rfl (fun H' g => ⟨i + 1, ⟨by omega, upto hj (fun b kk1 hb1 hk1 => by rw [hy] at hb1; rw [hkk] at hk1; cases hb1; cases hk1; exact ⟨⟨k6, k7⟩, k8, all_of (fun j hjl => hqj j (by omega))⟩)⟩, by first | omega | (simp only; omega), ⟨rfl, rfl, rfl, rfl, congrArg (Value.int .i64) (inc64 (by omega)), trivial⟩, g⟩)
  · exact KW.ret rfl rfl rfl rfl (by rw [tv_true (p := OkDeal h ow p c rows s bs ks) ⟨k1, k2, k3, k4, fun e b kk h1 h2 => hj e (by have := (List.getElem?_eq_some_iff.1 h1).1; omega) b kk h1 h2⟩]; rfl)
theorem l08Keys (p : Int) (hp : PrimeP p) {id k : Nat} {v0 : Value} {a c} {kk : List (List Int)} {vs : List Value} {aw : Option Addr} {cw w : Nat} (hB : B_Int64SS kk) (hv : Has3 S H0 id k (v0 :: .slice aw w cw :: .int .i64 p :: vs)) (hk : KI.sl.Sl S H0 (.slice a kk.length c) kk) :
    Spec Try.prog S H0 206 [.pointer (some ⟨id, k, none⟩), .slice a kk.length c] (fun v => v = .bool (tv (KeysOk p w kk))) := by
  refine Spec.of1 Try.func206 rfl (by kernel_rfl) rfl (fun H _ => ?_)
  have hv := hv.up (S' := Low H.n) (H' := H)
  have kl := hB.len
  refine KW.lp rfl rfl (fun i : Nat => [(0, .pointer (some ⟨id, k, none⟩)), (1, .slice a kk.length c), (5, .int .i64 i)]) (fun i => i ≤ kk.length ∧ ∀ j, j < i → ∀ x, kk[j]? = some x → x.length = 2 ∧ Elems p x) (fun i => kk.length - i) (0) (⟨by omega, fun j h => absurd h (by omega)⟩) ⟨rfl, rfl, rfl, trivial⟩ (fun i hi bE n => ?_)
  obtain ⟨hi, hj⟩ := hi
  refine KW.cnd rfl rfl (fun k1 => ?_) (fun k1 => ?_)
  · refine KW.ldF 2 hv rfl rfl rfl rfl rfl rfl rfl rfl rfl ?_
    refine KW.getL hk.up rfl rfl rfl rfl rfl rfl rfl rfl rfl rfl rfl rfl rfl rfl rfl rfl (by omega) (k1) (fun y a' m' hy hsy => ?_)
    have hy : kk[i]? = some y := hy
    refine KW.callE rfl rfl rfl rfl rfl (l03Row p 2 (by unfold I64; have := hp.1; have := hp.2.1; omega) (hB.each y (List.mem_of_getElem? hy)) hsy) (fun _ _ => ?_)
    refine KW.cndB rfl rfl (fun k2 => ?_) (fun k2 => ?_)
    · exact KW.ret rfl rfl rfl rfl (by rw [tv_false (p := KeysOk p w kk) (fun hc => by rw [tv_true ⟨by have := (hc.2 y (List.mem_of_getElem? hy)).1; omega, (hc.2 y (List.mem_of_getElem? hy)).2⟩] at k2; cases k2)]; rfl)
    have k2 := tv_iff.1 (by simpa using k2)
    refine KW.nxt rfl rfl (fun H' g => ⟨i + 1, ⟨by omega, upto hj (fun x hx => by rw [hy] at hx; cases hx; exact ⟨by have := k2.1; omega, k2.2⟩)⟩, by first | omega | (simp only; omega), ⟨rfl, rfl, congrArg (Value.int .i64) (inc64 (by omega)), trivial⟩, g⟩)
  · refine KW.ldF 1 hv rfl rfl rfl rfl rfl rfl rfl rfl rfl ?_
    refine KW.ret rfl rfl rfl rfl ?_
    show Value.bool (((kk.length : Nat) : Int) == ((w : Nat) : Int)) = _
    congr 1
    by_cases hx : kk.length = w
    · rw [tv_true (p := KeysOk p w kk) ⟨hx, all_of (fun j hjl => hj j (by omega))⟩, hx]; simp
    · rw [tv_false (p := KeysOk p w kk) (fun hc => hx hc.1)]; simp; omega
theorem l08Ok (h p c s : Int) (hp : I64 p) {id k : Nat} {a1 c1 a2 c2 a3 c3 a4 c4} {ow : List Int} {rows bs : List (List Int)} {ks : List (List (List Int))} (hO : B_Int64S ow) (hB : B_Int64SS rows) (hBb : B_Int64SS bs) (hBk : B_Int64SSS ks)
    (hv : Has3 S H0 id k [.int .i64 h, .slice a1 ow.length c1, .int .i64 p, .int .i64 c, .slice a2 rows.length c2, .int .i64 s, .slice a3 bs.length c3, .slice a4 ks.length c4])
    (ho : KI.Sl S H0 (.slice a1 ow.length c1) ow) (hs : KI.sl.Sl S H0 (.slice a2 rows.length c2) rows) (hb : KI.sl.Sl S H0 (.slice a3 bs.length c3) bs) (hk : KI.sl.sl.Sl S H0 (.slice a4 ks.length c4) ks) :
    Spec Try.prog S H0 168 [.pointer (some ⟨id, k, none⟩)] (fun v => v = .bool (tv (OkDeal h ow p c rows s bs ks))) := by
  refine Spec.of1 Try.func168 rfl (by kernel_rfl) rfl (fun H _ => ?_)
  have bl := hBb.len
  have kl := hBk.len
  have hv := hv.up (S' := Low H.n) (H' := H)
  refine KW.callE rfl rfl rfl rfl rfl (l04Ok h p c hp hO hB (hv.take (vs := [_, _, _, _, _])) ho.up hs.up) (fun _ _ => ?_)
  refine KW.tstB rfl rfl (fun k1 => ?_) (fun k1 => ?_)
  · repeat first | refine KW.tT rfl rfl rfl ?_ | refine KW.tF rfl rfl rfl ?_
    first | refine KW.cT rfl rfl rfl ?_ | refine KW.cF rfl rfl rfl ?_
    exact KW.ret rfl rfl rfl rfl (by rw [tv_false (p := OkDeal h ow p c rows s bs ks) (fun hc => by rw [tv_true hc.sch] at k1; cases k1)]; rfl)
  have k1 : OkSch h ow p c rows := tv_iff.1 (by simpa using k1)
  have hc12 := k1.mat.c1
  have hc1 := k1.c1
  have hp31 := k1.mat.pr.2.1
  have hp2 := k1.mat.pr.1
  have ep : IntKind.i64.wrap (p - 1) = p - 1 := wr (by omega) (by omega)
  have ec : IntKind.i64.wrap (c - 1) = c - 1 := wr (by omega) (by omega)
  refine KW.ldF 5 hv rfl rfl rfl rfl rfl rfl rfl rfl rfl ?_
  refine KW.ldF 2 hv rfl rfl rfl rfl rfl rfl rfl rfl rfl ?_
  refine KW.callE rfl rfl rfl rfl rfl (l00In _ _ _) (fun _ _ => ?_)
  rw [ep]
  refine KW.tstB rfl rfl (fun k2 => ?_) (fun k2 => ?_)
  · repeat first | refine KW.tT rfl rfl rfl ?_ | refine KW.tF rfl rfl rfl ?_
    first | refine KW.cT rfl rfl rfl ?_ | refine KW.cF rfl rfl rfl ?_
    exact KW.ret rfl rfl rfl rfl (by rw [tv_false (p := OkDeal h ow p c rows s bs ks) (fun hc => by have := hc.sec; simp at k2; omega)]; rfl)
  have k2 : 0 ≤ s ∧ s ≤ p - 1 := by simpa using k2
  refine KW.ldF 6 hv rfl rfl rfl rfl rfl rfl rfl rfl rfl ?_
  refine KW.callE rfl rfl rfl rfl rfl (l00In _ _ _) (fun _ _ => ?_)
  refine KW.tstB rfl rfl (fun k3 => ?_) (fun k3 => ?_)
  · repeat first | refine KW.tT rfl rfl rfl ?_ | refine KW.tF rfl rfl rfl ?_
    first | refine KW.cT rfl rfl rfl ?_ | refine KW.cF rfl rfl rfl ?_
    exact KW.ret rfl rfl rfl rfl (by rw [tv_false (p := OkDeal h ow p c rows s bs ks) (fun hc => by have := hc.bl; simp at k3; omega)]; rfl)
  have k3 : 1 ≤ bs.length ∧ bs.length ≤ 4 := by simp at k3; omega
  refine KW.ldF 7 hv rfl rfl rfl rfl rfl rfl rfl rfl rfl ?_
  refine KW.ldF 6 hv rfl rfl rfl rfl rfl rfl rfl rfl rfl ?_
  refine KW.cndB rfl rfl (fun k4 => ?_) (fun k4 => ?_)
  · exact KW.ret rfl rfl rfl rfl (by rw [tv_false (p := OkDeal h ow p c rows s bs ks) (fun hc => by rw [hc.kl] at k4; simp at k4)]; rfl)
  have k4 : ks.length = bs.length := by simp at k4; omega
  refine KW.lp rfl rfl (fun i : Nat => [(0, .pointer (some ⟨id, k, none⟩)), (3, .int .i64 i)]) (fun i => i ≤ bs.length ∧ ∀ j, j < i → ∀ b kk, bs[j]? = some b → ks[j]? = some kk → ((b.length : Int) = c - 1 ∧ Elems p b) ∧ KeysOk p rows.length kk) (fun i => bs.length - i) (0) (⟨by omega, fun j h => absurd h (by omega)⟩) ⟨rfl, rfl, trivial⟩ (fun i hi bE n => ?_)
  obtain ⟨hi, hj⟩ := hi
  refine KW.ldF 6 hv rfl rfl rfl rfl rfl rfl rfl rfl rfl ?_
  refine KW.cnd rfl rfl (fun k5 => ?_) (fun k5 => ?_)
  · refine KW.ldF 2 hv rfl rfl rfl rfl rfl rfl rfl rfl rfl ?_
    refine KW.ldF 3 hv rfl rfl rfl rfl rfl rfl rfl rfl rfl ?_
    refine KW.ldF 6 hv rfl rfl rfl rfl rfl rfl rfl rfl rfl ?_
    refine KW.getL hb.up rfl rfl rfl rfl rfl rfl rfl rfl rfl rfl rfl rfl rfl rfl rfl rfl (by omega) (k5) (fun y a' m' hy hsy => ?_)
    have hy : bs[i]? = some y := hy
    have hym := hBb.each y (List.mem_of_getElem? hy)
    obtain ⟨kk, hkk⟩ : ∃ kk, ks[i]? = some kk := ⟨ks[i]'(by omega), List.getElem?_eq_getElem (by omega)⟩
    have bad : ¬ (((y.length : Int) = c - 1 ∧ Elems p y) ∧ KeysOk p rows.length kk) → aout [Value.bool false] = .bool (tv (OkDeal h ow p c rows s bs ks)) := fun hx => by rw [tv_false (p := OkDeal h ow p c rows s bs ks) (fun hc => hx (hc.bk i y kk hy hkk))]; rfl
    refine KW.callE rfl rfl rfl rfl rfl (l03Row p _ (by unfold I64; omega) (by omega) hsy) (fun _ _ => ?_)
    rw [ec]
    refine KW.tstB rfl rfl (fun k6 => ?_) (fun k6 => ?_)
    · repeat first | refine KW.tT rfl rfl rfl ?_ | refine KW.tF rfl rfl rfl ?_
      first | refine KW.cT rfl rfl rfl ?_ | refine KW.cF rfl rfl rfl ?_
      exact KW.ret rfl rfl rfl rfl (bad (fun hc => by rw [tv_true hc.1] at k6; cases k6))
    have k6 := tv_iff.1 (by simpa using k6)
    refine KW.ldF 7 hv rfl rfl rfl rfl rfl rfl rfl rfl rfl ?_
    refine KW.getL hk.up rfl rfl rfl rfl rfl rfl rfl rfl rfl rfl rfl rfl rfl rfl rfl rfl (by omega) (by omega) (fun kk1 a'' m'' hkk1 hskk => ?_)
    have hkk1 : ks[i]? = some kk1 := hkk1
    rw [hkk] at hkk1
    cases hkk1
    refine KW.callE rfl rfl rfl rfl rfl (l08Keys p k1.mat.pr (hBk.each kk (List.mem_of_getElem? hkk)) hv hskk) (fun _ _ => ?_)
    refine KW.cndB rfl rfl (fun k7 => ?_) (fun k7 => ?_)
    · exact KW.ret rfl rfl rfl rfl (by rw [k1.len] at k7; exact bad (fun hc => by rw [tv_true hc.2] at k7; cases k7))
    rw [k1.len] at k7
    have k7 := tv_iff.1 (by simpa using k7)
    refine KW.nxt rfl rfl (fun H' g => ⟨i + 1, ⟨by omega, upto hj (fun b kk1 hb1 hk1 => by rw [hy] at hb1; rw [hkk] at hk1; cases hb1; cases hk1; exact ⟨k6, k7⟩)⟩, by first | omega | (simp only; omega), ⟨rfl, congrArg (Value.int .i64) (inc64 (by omega)), trivial⟩, g⟩)
  · exact KW.ret rfl rfl rfl rfl (by rw [tv_true (p := OkDeal h ow p c rows s bs ks) ⟨k1, k2, k3, k4, fun e b kk h1 h2 => hj e (by have := (List.getElem?_eq_some_iff.1 h1).1; omega) b kk h1 h2⟩]; rfl)
end
end Go.Proofs.Ytijmkfnmdhpakaa.Am
/- Contracts: ValidDeal, as the law asks them. Each holds under its own conditions. -/
set_option linter.unusedVariables false
set_option maxRecDepth 20000
namespace Go.Proofs.Ytijmkfnmdhpakaa.Am
open Go Go.RowKit Go.Proofs
/-- A deal that is valid. -/
def DealOk (x : T_Deal) : Prop := OkDeal x.1.1 x.1.2.1 x.1.2.2.1 x.1.2.2.2.1 x.1.2.2.2.2 x.2.1 x.2.2.1 x.2.2.2
section
variable {S : Ids} {H0 : AH}
theorem split2_Deal {x : T_Deal} {cs : List Value} (h : K_Deal.R S H0 x cs) : ∃ a1 c1 a2 c2 a3 c3 a4 c4, cs = [.int .i64 x.1.1, .slice a1 x.1.2.1.length c1, .int .i64 x.1.2.2.1, .int .i64 x.1.2.2.2.1, .slice a2 x.1.2.2.2.2.length c2, .int .i64 x.2.1, .slice a3 x.2.2.1.length c3, .slice a4 x.2.2.2.length c4] ∧
    KI.Sl S H0 (.slice a1 x.1.2.1.length c1) x.1.2.1 ∧ KI.sl.Sl S H0 (.slice a2 x.1.2.2.2.2.length c2) x.1.2.2.2.2 ∧ KI.sl.Sl S H0 (.slice a3 x.2.2.1.length c3) x.2.2.1 ∧ KI.sl.sl.Sl S H0 (.slice a4 x.2.2.2.length c4) x.2.2.2 := by
  obtain ⟨a1, c1, a2, c2, a3, c3, a4, c4, rfl, h0, h2, h3⟩ := split_Deal h
  obtain ⟨b1, d1, b2, d2, e0, k1, k2⟩ := split_Scheme h0
  cases e0
  obtain ⟨b3, d3, e1, k3⟩ := split_Matrix k2
  cases e1
  exact ⟨a1, c1, a2, c2, a3, c3, a4, c4, rfl, sl1 k1, sl1 k3, sl1 h2, sl1 h3⟩
noncomputable def r0_ValidDeal (x : T_Deal) : Bool := tv (DealOk x)
theorem impl_ValidDeal {x : T_Deal} {cs : List Value} (hB : B_Deal x) (h : K_Deal.R S H0 x cs) : Spec Try.prog S H0 173 [.agg cs.toArray] (fun v => v = .bool (tv (DealOk x))) := by
  obtain ⟨a1, c1, a2, c2, a3, c3, a4, c4, rfl, h1, h2, h3, h4⟩ := split2_Deal h
  exact validDeal _ _ _ _ hB.1.2.2.1 hB.1.2.1 hB.1.2.2.2.2 hB.2.2.1 hB.2.2.2 h1 h2 h3 h4
end
end Go.Proofs.Ytijmkfnmdhpakaa.Am
/- Contracts: rows held, products, shares, values and tags, of the program and of the reference. Each holds under its own conditions. -/
set_option linter.unusedVariables false
set_option maxRecDepth 20000
namespace Go.Proofs.Ytijmkfnmdhpakaa.Am
open Go Go.RowKit Go.Proofs
/-- The places below n of which q tells true. -/
def rowsP (q : Nat → Bool) (n : Nat) : List Int := ((List.range n).filter q).map fun (i : Nat) => (i : Int)
theorem rowsP_next (q : Nat → Bool) (n : Nat) : rowsP q (n + 1) = if q n = true then rowsP q n ++ [(n : Int)] else rowsP q n := by
  unfold rowsP
  rw [List.range_succ, List.filter_append, List.map_append]
  by_cases hc : q n = true
  · simp [hc]
  · have hc : q n = false := by simpa using hc
    simp [hc]
theorem rowsP_len (q : Nat → Bool) (n : Nat) : (rowsP q n).length ≤ n := by
  unfold rowsP
  rw [List.length_map]
  exact Nat.le_trans (List.length_filter_le _ _) (by simp)
theorem rowsP_mem {q : Nat → Bool} {n : Nat} {x : Int} (hx : x ∈ rowsP q n) : 0 ≤ x ∧ x < n := by
  unfold rowsP at hx
  obtain ⟨i, hi, rfl⟩ := List.mem_map.1 hx
  have := List.mem_range.1 (List.mem_filter.1 hi).1
  omega
theorem rowsP_congr {q q' : Nat → Bool} {n : Nat} (h : ∀ i, i < n → q i = q' i) : rowsP q n = rowsP q' n := by
  unfold rowsP
  congr 1
  exact List.filter_congr fun i hi => h i (List.mem_range.1 hi)
abbrev rowsOf (ow : List Int) (h : Int) : List Int := rowsP (fun i => decide (ow.getD i 0 = h)) ow.length
/-- Sums of products. -/
def dotN (a b : List Int) : Nat → Int
  | 0 => 0
  | n + 1 => dotN a b n + a.getD n 0 * b.getD n 0
def dotS (p : Int) (a b : List Int) : Int := dotN a b a.length % p
theorem elem_at {p : Int} {a : List Int} (h : Elems p a) (hp : 2 ≤ p) (i : Nat) : 0 ≤ a.getD i 0 ∧ a.getD i 0 ≤ p - 1 := by
  rcases Nat.lt_or_ge i a.length with hi | hi
  · rw [List.getD_eq_getElem?_getD, List.getElem?_eq_getElem hi]
    exact h _ (List.getElem_mem hi)
  · rw [List.getD_eq_getElem?_getD, List.getElem?_eq_none hi]
    show 0 ≤ (0 : Int) ∧ (0 : Int) ≤ p - 1
    omega
theorem mul_small {p x y : Int} (hp : p ≤ 31) (hx : 0 ≤ x ∧ x ≤ p - 1) (hy : 0 ≤ y ∧ y ≤ p - 1) : 0 ≤ x * y ∧ x * y ≤ 900 := by
  refine ⟨Int.mul_nonneg hx.1 hy.1, ?_⟩
  have h1 : x * y ≤ 30 * 30 := Int.mul_le_mul (by omega) (by omega) hy.1 (by omega)
  omega
theorem dotN_in {p : Int} {a b : List Int} (hp : PrimeP p) (ha : Elems p a) (hb : Elems p b) : ∀ n, 0 ≤ dotN a b n ∧ dotN a b n ≤ 900 * n
  | 0 => by simp [dotN]
  | n + 1 => by
    have h1 := dotN_in hp ha hb n
    have h2 := mul_small hp.2.1 (elem_at ha hp.1 n) (elem_at hb hp.1 n)
    simp only [dotN]
    omega
def shares (p : Int) (rows : List (List Int)) (all : List Int) : List Int := rows.map fun r => dotS p r all
theorem map_take_succ {α β : Type} (f : α → β) {xs : List α} {i : Nat} {x : α} (h : xs[i]? = some x) : (xs.take (i + 1)).map f = (xs.take i).map f ++ [f x] := by
  obtain ⟨hi, rfl⟩ := List.getElem?_eq_some_iff.1 h
  rw [List.take_succ_eq_append_getElem hi, List.map_append]; rfl
section
variable {S : Ids} {H0 : AH}
theorem dot (p : Int) (hp : PrimeP p) {a1 c1 a2 c2} {a b : List Int} (hl : a.length = b.length) (h12 : a.length ≤ 1048576) (ea : Elems p a) (eb : Elems p b) (ha : KI.Sl S H0 (.slice a1 a.length c1) a) (hb : KI.Sl S H0 (.slice a2 b.length c2) b) :
    Spec Try.prog S H0 124 [.int .i64 p, .slice a1 a.length c1, .slice a2 b.length c2] (fun v => v = .int .i64 (dotS p a b)) := by
  refine Spec.of1 Try.func124 rfl (by kernel_rfl) rfl (fun H _ => ?_)
  refine KW.lp rfl rfl (fun i : Nat => [(0, .int .i64 p), (2, .slice a2 b.length c2), (7, .int .i64 (dotN a b i)), (10, .slice a1 a.length c1), (11, .int .i64 a.length), (12, .int .i64 i)]) (fun i => i ≤ a.length) (fun i => a.length - i) (0) (by omega) ⟨rfl, rfl, rfl, rfl, rfl, rfl, trivial⟩ (fun i hi bE n => ?_)
  refine KW.cnd rfl rfl (fun h => ?_) (fun h => ?_)
  · refine KW.getI ha.up rfl rfl rfl rfl rfl rfl rfl rfl rfl rfl rfl rfl rfl rfl rfl rfl (by omega) (h) (fun x hx => ?_)
    refine KW.getI hb.up rfl rfl rfl rfl rfl rfl rfl rfl rfl rfl rfl rfl rfl rfl rfl rfl (by omega) (by omega) (fun y hy => ?_)
    have hx : a.getD i 0 = x := getD_of hx
    have hy : b.getD i 0 = y := getD_of hy
    have h1 := dotN_in hp ea eb i
    have h2 := mul_small hp.2.1 (elem_at ea hp.1 i) (elem_at eb hp.1 i)
    have e : dotN a b (i + 1) = dotN a b i + a.getD i 0 * b.getD i 0 := rfl
    rw [hx, hy] at h2 e
    have e2 : Value.int .i64 (IntKind.i64.wrap (dotN a b i + IntKind.i64.wrap (x * y))) = .int .i64 (dotN a b (i + 1)) := by
      rw [wr (x := x * y) (by omega) (by omega), wr (by omega) (by omega), e]
    refine KW.nxt rfl rfl (fun H' g => ⟨i + 1, by omega, by first | omega | (simp only; omega), ⟨rfl, rfl, e2, rfl, rfl, congrArg (Value.int .i64) (inc64 (by omega)), trivial⟩, g⟩)
  · obtain rfl : i = a.length := by omega
    have h1 := dotN_in hp ea eb a.length
    refine KW.rem rfl rfl rfl rfl rfl rfl (h1.1) (by have := hp.1; omega) ?_
    exact KW.ret rfl rfl rfl rfl (rfl)
theorem l03Dot (p : Int) (hp : PrimeP p) {a1 c1 a2 c2} {a b : List Int} (hl : a.length = b.length) (h12 : a.length ≤ 1048576) (ea : Elems p a) (eb : Elems p b) (ha : KI.Sl S H0 (.slice a1 a.length c1) a) (hb : KI.Sl S H0 (.slice a2 b.length c2) b) :
    Spec Try.prog S H0 263 [.int .i64 p, .slice a1 a.length c1, .slice a2 b.length c2] (fun v => v = .int .i64 (dotS p a b)) := by
  refine Spec.of1 Try.func263 rfl (by kernel_rfl) rfl (fun H _ => ?_)
  refine KW.lp rfl rfl (fun i : Nat => [(0, .int .i64 p), (1, .slice a1 a.length c1), (2, .slice a2 b.length c2), (7, .int .i64 (dotN a b i)), (8, .int .i64 i)]) (fun i => i ≤ a.length) (fun i => a.length - i) (0) (by omega) ⟨rfl, rfl, rfl, rfl, rfl, trivial⟩ (fun i hi bE n => ?_)
  refine KW.cnd rfl rfl (fun h => ?_) (fun h => ?_)
  · refine KW.getI ha.up rfl rfl rfl rfl rfl rfl rfl rfl rfl rfl rfl rfl rfl rfl rfl rfl (by omega) (h) (fun x hx => ?_)
    refine KW.getI hb.up rfl rfl rfl rfl rfl rfl rfl rfl rfl rfl rfl rfl rfl rfl rfl rfl (by omega) (by omega) (fun y hy => ?_)
    have hx : a.getD i 0 = x := getD_of hx
    have hy : b.getD i 0 = y := getD_of hy
    have h1 := dotN_in hp ea eb i
    have h2 := mul_small hp.2.1 (elem_at ea hp.1 i) (elem_at eb hp.1 i)
    have e : dotN a b (i + 1) = dotN a b i + a.getD i 0 * b.getD i 0 := rfl
    rw [hx, hy] at h2 e
    have e2 : Value.int .i64 (IntKind.i64.wrap (dotN a b i + IntKind.i64.wrap (x * y))) = .int .i64 (dotN a b (i + 1)) := by
      rw [wr (x := x * y) (by omega) (by omega), wr (by omega) (by omega), e]
    refine KW.nxt rfl rfl (fun H' g => ⟨i + 1, by omega, by first | omega | (simp only; omega), ⟨rfl, rfl, rfl, e2, congrArg (Value.int .i64) (inc64 (by omega)), trivial⟩, g⟩)
  · obtain rfl : i = a.length := by omega
    have h1 := dotN_in hp ea eb a.length
    refine KW.rem rfl rfl rfl rfl rfl rfl (h1.1) (by have := hp.1; omega) ?_
    exact KW.ret rfl rfl rfl rfl (rfl)
/-- What a maker of a list of numbers yields. -/
def MkL (xs : List Int) (n : Nat) (v : Value) (H1 : AH) : Prop := ∃ a c, v = .slice a xs.length c ∧ KI.Ml (New n H1.n) H1 (.slice a xs.length c) xs
theorem MkL.of {S0 : Ids} {H0 H1 : AH} {T : List Var} {n j id n0 : Nat} {ty : TypeId} {xs : List Int} (g : Good S0 H0 T n H1) (hj : T[j]? = some (id, ⟨ty, true, xs.map (Value.int .i64)⟩)) (hn : n0 ≤ id) : MkL xs n0 (.slice (some ⟨id, 0, some 1⟩) xs.length xs.length) H1 :=
  ⟨_, _, rfl, int_ml ⟨hn, (g.blk hj).2⟩ (g.blk hj).1 rfl rfl (Nat.le_refl _)⟩
theorem rowsHeld (h p c : Int) (x : Nat) (hx : x < 4611686018427387904) {a1 c1} {v2 : Option Addr} {n2 c2 : Nat} {ow : List Int} (hO : B_Int64S ow) (hown : ∀ x ∈ ow, 0 ≤ x ∧ x ≤ h - 1) (hh : h ≤ 7) (ho : KI.Sl S H0 (.slice a1 ow.length c1) ow) :
    SpecM Try.prog S H0 121 [.agg #[.int .i64 h, .slice a1 ow.length c1, .int .i64 p, .int .i64 c, .slice v2 n2 c2], .int .u64 (x : Int)] (MkL (rowsP (fun i => x.testBit (ow.getD i 0).toNat) ow.length)) := by
  refine SpecM.of1 Try.func121 rfl (by kernel_rfl) rfl (fun H _ => ?_)
  have hO' : ow.length ≤ 1048576 := hO
  refine KW.lit rfl rfl rfl rfl rfl rfl rfl rfl rfl rfl [] rfl rfl (fun v hv => by simp at hv) rfl ?_
  refine KW.lpM rfl rfl (fun s : Nat × Nat => [(1, .int .u64 (x : Int)), (5, .slice (some ⟨s.2, 0, some 1⟩) (rowsP (fun i => x.testBit (ow.getD i 0).toNat) s.1).length (rowsP (fun i => x.testBit (ow.getD i 0).toNat) s.1).length), (10, .slice a1 ow.length c1), (11, .int .i64 ow.length), (12, .int .i64 s.1)]) (fun s => Low H.n) (fun s => H) (fun s => [(H.n, ⟨_, true, _⟩), (s.2, ⟨_, true, (rowsP (fun i => x.testBit (ow.getD i 0).toNat) s.1).map (Value.int .i64)⟩)]) (fun s => s.1 ≤ ow.length) (fun s => ow.length - s.1) ((0, H.n + 1)) (by simp) ⟨rfl, rfl, rfl, rfl, rfl, trivial⟩ rfl rfl (rfl) (fun s hi bE n => ?_)
  obtain ⟨q, o⟩ := s
  simp only at hi
  have hq : (rowsP (fun i => x.testBit (ow.getD i 0).toNat) q).length ≤ q := rowsP_len _ q
  refine KW.cnd rfl rfl (fun k1 => ?_) (fun k1 => ?_)
  · refine KW.getI ho.up rfl rfl rfl rfl rfl rfl rfl rfl rfl rfl rfl rfl rfl rfl rfl rfl (by omega) (k1) (fun y hy => ?_)
    have hy' : ow[q]? = some y := hy
    have hyb := hown y (List.mem_of_getElem? hy')
    obtain ⟨z, rfl⟩ : ∃ z : Nat, y = z := ⟨y.toNat, by omega⟩
    have hyd : ow.getD q 0 = z := getD_of hy'
    have e := rowsP_next (fun i => x.testBit (ow.getD i 0).toNat) q
    simp only [hyd, Int.toNat_natCast] at e
    refine KW.callE rfl rfl rfl rfl rfl (has (x := x) (h := z) hx (by omega)) (fun _ _ => ?_)
    refine KW.cndB rfl rfl (fun k2 => ?_) (fun k2 => ?_)
    · rw [if_pos k2] at e
      refine KW.app1 (xs := (rowsP (fun i => x.testBit (ow.getD i 0).toNat) q).map (Value.int .i64)) (v := .int .i64 q) 1 2 rfl rfl rfl rfl rfl rfl rfl rfl rfl rfl rfl rfl rfl rfl rfl rfl rfl rfl rfl rfl rfl rfl rfl (by simp) (by show (_ + 1) * 8 ≤ _; first | omega | (simp only; omega)) (by first | omega | (simp only; omega)) ?_
      refine KW.nxt rfl rfl (fun H' g => ⟨(q + 1, _), by simp only; omega, by first | omega | (simp only; omega), ⟨rfl, by simp only [e, List.length_append, List.length_singleton]; rfl, rfl, rfl, congrArg (Value.int .i64) (inc64 (by omega)), trivial⟩, g.eqT (by simp only [e, List.map_append]; rfl)⟩)
    · rw [if_neg (by rw [k2]; decide)] at e
      refine KW.nxt rfl rfl (fun H' g => ⟨(q + 1, o), by simp only; omega, by first | omega | (simp only; omega), ⟨rfl, by simp only [e]; rfl, rfl, rfl, congrArg (Value.int .i64) (inc64 (by omega)), trivial⟩, g.eqT (by simp only [e])⟩)
  · obtain rfl : q = ow.length := by simp only at k1; omega
    refine KW.retM1 rfl rfl rfl rfl (fun H1 g => MkL.of g (j := 1) rfl (g.ge (H1 := H) (j := 1) rfl))
theorem l00Has (n0 : Int) {a c} {xs : List Int} (hl : xs.length ≤ 1048576) (hs : KI.Sl S H0 (.slice a xs.length c) xs) : Spec Try.prog S H0 264 [.slice a xs.length c, .int .i64 n0] (fun v => v = .bool (decide (n0 ∈ xs))) := by
  refine Spec.of1 Try.func264 rfl (by kernel_rfl) rfl (fun H _ => ?_)
  refine KW.lp rfl rfl (fun i : Nat => [(0, .slice a xs.length c), (1, .int .i64 n0), (5, .int .i64 i)]) (fun i => i ≤ xs.length ∧ ∀ j, j < i → ∀ x, xs[j]? = some x → x ≠ n0) (fun i => xs.length - i) (0) (⟨by omega, fun j h => absurd h (by omega)⟩) ⟨rfl, rfl, rfl, trivial⟩ (fun i hi bE n => ?_)
  obtain ⟨hi, hj⟩ := hi
  refine KW.cnd rfl rfl (fun k1 => ?_) (fun k1 => ?_)
  · refine KW.getI hs.up rfl rfl rfl rfl rfl rfl rfl rfl rfl rfl rfl rfl rfl rfl rfl rfl (by omega) (k1) (fun y hy => ?_)
    have hy : xs[i]? = some y := hy
    refine KW.cndB rfl rfl (fun k2 => ?_) (fun k2 => ?_)
    · have k2 : y = n0 := by simpa using k2
      exact KW.ret rfl rfl rfl rfl (by rw [← k2, decide_eq_true (List.mem_of_getElem? hy)]; rfl)
    · have k2 : y ≠ n0 := by simpa using k2
      refine KW.nxt rfl rfl (fun H' g => ⟨i + 1, ⟨by omega, upto hj (fun z hz => by rw [hy] at hz; cases hz; exact k2)⟩, by first | omega | (simp only; omega), ⟨rfl, rfl, congrArg (Value.int .i64) (inc64 (by omega)), trivial⟩, g⟩)
  · exact KW.ret rfl rfl rfl rfl (by rw [decide_eq_false (fun hm => all_of (fun j hjl => hj j (by omega)) n0 hm rfl)]; rfl)
theorem l04Held (h p c : Int) {id k : Nat} {a1 c1 a c2} {ow g0 : List Int} {v2 : Value} (hO : B_Int64S ow) (hG : g0.length ≤ 1048576) (hv : Has3 S H0 id k [.int .i64 h, .slice a1 ow.length c1, .int .i64 p, .int .i64 c, v2]) (ho : KI.Sl S H0 (.slice a1 ow.length c1) ow) (hg : KI.Sl S H0 (.slice a g0.length c2) g0) :
    SpecM Try.prog S H0 246 [.pointer (some ⟨id, k, none⟩), .slice a g0.length c2] (MkL (rowsP (fun i => decide (ow.getD i 0 ∈ g0)) ow.length)) := by
  refine SpecM.of1 Try.func246 rfl (by kernel_rfl) rfl (fun H _ => ?_)
  have hO' : ow.length ≤ 1048576 := hO
  have hv := hv.up (S' := Low H.n) (H' := H)
  refine KW.lit rfl rfl rfl rfl rfl rfl rfl rfl rfl rfl [] rfl rfl (fun v hv => by simp at hv) rfl ?_
  refine KW.lpM rfl rfl (fun s : Nat × Nat => [(0, .pointer (some ⟨id, k, none⟩)), (1, .slice a g0.length c2), (5, .slice (some ⟨s.2, 0, some 1⟩) (rowsP (fun i => decide (ow.getD i 0 ∈ g0)) s.1).length (rowsP (fun i => decide (ow.getD i 0 ∈ g0)) s.1).length), (6, .int .i64 s.1)]) (fun s => Low H.n) (fun s => H) (fun s => [(s.2, ⟨_, true, (rowsP (fun i => decide (ow.getD i 0 ∈ g0)) s.1).map (Value.int .i64)⟩)]) (fun s => s.1 ≤ ow.length) (fun s => ow.length - s.1) ((0, H.n)) (by simp) ⟨rfl, rfl, rfl, rfl, trivial⟩ rfl rfl (rfl) (fun s hi bE n => ?_)
  obtain ⟨q, o⟩ := s
  simp only at hi
  have hq : (rowsP (fun i => decide (ow.getD i 0 ∈ g0)) q).length ≤ q := rowsP_len _ q
  refine KW.ldF 1 hv rfl rfl rfl rfl rfl rfl rfl rfl rfl ?_
  refine KW.cnd rfl rfl (fun k1 => ?_) (fun k1 => ?_)
  · refine KW.ldF 1 hv rfl rfl rfl rfl rfl rfl rfl rfl rfl ?_
    refine KW.getI ho.up rfl rfl rfl rfl rfl rfl rfl rfl rfl rfl rfl rfl rfl rfl rfl rfl (by omega) (k1) (fun y hy => ?_)
    have hy' : ow[q]? = some y := hy
    have hyd : ow.getD q 0 = y := getD_of hy'
    have e := rowsP_next (fun i => decide (ow.getD i 0 ∈ g0)) q
    simp only [hyd] at e
    refine KW.callE rfl rfl rfl rfl rfl (l00Has y hG hg.up) (fun _ _ => ?_)
    refine KW.cndB rfl rfl (fun k2 => ?_) (fun k2 => ?_)
    · rw [if_pos k2] at e
      refine KW.app1 (xs := (rowsP (fun i => decide (ow.getD i 0 ∈ g0)) q).map (Value.int .i64)) (v := .int .i64 q) 0 1 rfl rfl rfl rfl rfl rfl rfl rfl rfl rfl rfl rfl rfl rfl rfl rfl rfl rfl rfl rfl rfl rfl rfl (by simp) (by show (_ + 1) * 8 ≤ _; first | omega | (simp only; omega)) (by first | omega | (simp only; omega)) ?_
      refine KW.nxt rfl rfl (fun H' g => ⟨(q + 1, _), by simp only; omega, by first | omega | (simp only; omega), ⟨rfl, rfl, by simp only [e, List.length_append, List.length_singleton]; rfl, congrArg (Value.int .i64) (inc64 (by omega)), trivial⟩, g.eqT (by simp only [e, List.map_append]; rfl)⟩)
    · rw [if_neg (by rw [k2]; decide)] at e
      refine KW.nxt rfl rfl (fun H' g => ⟨(q + 1, o), by simp only; omega, by first | omega | (simp only; omega), ⟨rfl, rfl, by simp only [e]; rfl, congrArg (Value.int .i64) (inc64 (by omega)), trivial⟩, g.eqT (by simp only [e])⟩)
  · obtain rfl : q = ow.length := by simp only at k1; omega
    refine KW.retM1 rfl rfl rfl rfl (fun H1 g => MkL.of g (j := 0) rfl (g.ge (H1 := H) (j := 0) rfl))
end
end Go.Proofs.Ytijmkfnmdhpakaa.Am
/- Contracts: shares, values, tags; copies and equality of rows. Each holds under its own conditions. -/
set_option linter.unusedVariables false
set_option maxRecDepth 20000
namespace Go.Proofs.Ytijmkfnmdhpakaa.Am
open Go Go.RowKit Go.Proofs
theorem elems_cons {p s : Int} {bl : List Int} (hs : 0 ≤ s ∧ s ≤ p - 1) (hb : Elems p bl) : Elems p (s :: bl) := fun x hx => by
  rcases List.mem_cons.1 hx with rfl | h
  · exact hs
  · exact hb x h
section
variable {S : Ids} {H0 : AH}
theorem sharesOf (h p c s : Int) {a1 c1 a2 c2 a3 c3} {ow bl : List Int} {rows : List (List Int)} (hO : B_Int64S ow) (hB : B_Int64SS rows) (hk : OkSch h ow p c rows) (hs : 0 ≤ s ∧ s ≤ p - 1) (hbl : (bl.length : Int) = c - 1) (hbe : Elems p bl)
    (h1 : KI.Sl S H0 (.slice a1 ow.length c1) ow) (h2 : KI.sl.Sl S H0 (.slice a2 rows.length c2) rows) (h3 : KI.Sl S H0 (.slice a3 bl.length c3) bl) :
    SpecM Try.prog S H0 52 [.agg #[.int .i64 h, .slice a1 ow.length c1, .int .i64 p, .int .i64 c, .slice a2 rows.length c2], .int .i64 s, .slice a3 bl.length c3] (fun n v H1 => ∃ v', v = .tuple #[v', .int .i64 0] ∧ MkL (shares p rows (s :: bl)) n v' H1) := by
  refine SpecM.of1 Try.func52 rfl (by kernel_rfl) rfl (fun H _ => ?_)
  have hp : I64 p := by unfold I64; have := hk.mat.pr.1; have := hk.mat.pr.2.1; omega
  have hc12 := hk.mat.c1
  have hc1 := hk.c1
  have hrl := hk.mat.len
  have ec : IntKind.i64.wrap (c - 1) = c - 1 := wr (by omega) (by omega)
  refine KW.callE rfl rfl rfl rfl rfl (validScheme h p c hp hO hB h1.up h2.up) (fun _ _ => ?_)
  rw [tv_true hk]
  refine KW.cF rfl rfl (by first | (simp; done) | decide) ?_
  refine KW.lit rfl rfl rfl rfl rfl rfl rfl rfl rfl rfl [.int .i64 s] rfl rfl (fun v hv => by simp at hv; subst hv; rfl) rfl ?_
  refine KW.callV1 rfl rfl rfl rfl rfl (fun H1 g _ => areElements p hp (xs := [s]) (by simp) (g.ints (j := 1) rfl rfl (by simp))) (fun _ _ => ?_)
  rw [tv_true (p := PrimeP p ∧ Elems p [s]) ⟨hk.mat.pr, fun x hx => by rw [List.mem_singleton.1 hx]; exact hs⟩]
  refine KW.tF rfl rfl (by first | (simp; done) | decide) ?_
  refine KW.callE rfl rfl rfl rfl rfl (areElements p hp (by omega) h3.up) (fun _ _ => ?_)
  rw [tv_true (p := PrimeP p ∧ Elems p bl) ⟨hk.mat.pr, hbe⟩]
  refine KW.tF rfl rfl (by first | (simp; done) | decide) ?_
  refine KW.cndB rfl rfl (fun k1 => ?_) (fun k1 => ?_)
  · rw [ec, hbl] at k1; simp at k1
  refine KW.lit rfl rfl rfl rfl rfl rfl rfl rfl rfl rfl [.int .i64 s] rfl rfl (fun v hv => by simp at hv; subst hv; rfl) rfl ?_
  refine KW.appV 2 rfl rfl rfl rfl rfl rfl rfl rfl rfl rfl (fun H1 g => acells_I h3.up g) (by simp) (by simp) (fun v hv => by obtain ⟨_, _, rfl⟩ := List.mem_map.1 hv; rfl) (by show (_ + _) * 8 ≤ _; simp only [List.length_cons, List.length_nil]; omega) (by simp only [List.length_cons, List.length_nil]; omega) (show 1 + bl.length = (s :: bl).length from by simp; omega) (fun oa _ _ => ?_)
  refine KW.lit rfl rfl rfl rfl rfl rfl rfl rfl rfl rfl [] rfl rfl (fun v hv => by simp at hv) rfl ?_
  refine KW.fact (p := ¬ oa < H.n) (fun _ g => (g.vars 2 _ rfl).2.2) (fun hoa => ?_)
  refine KW.lpM rfl rfl (fun q : Nat × Nat => [(3, .pointer (some ⟨H.n, 0, some 0⟩)), (8, .slice (some ⟨oa, 0, some 1⟩) (s :: bl).length (s :: bl).length), (9, .slice (some ⟨q.2, 0, some 1⟩) (shares p (rows.take q.1) (s :: bl)).length (shares p (rows.take q.1) (s :: bl)).length), (46, .slice a2 rows.length c2), (47, .int .i64 rows.length), (48, .int .i64 q.1)]) (fun q => Low H.n) (fun q => H) (fun q => [_, _, (oa, ⟨_, true, (s :: bl).map (Value.int .i64)⟩), (q.2, ⟨_, true, (shares p (rows.take q.1) (s :: bl)).map (Value.int .i64)⟩)]) (fun q => q.1 ≤ rows.length) (fun q => rows.length - q.1) ((0, _)) (by simp) ⟨rfl, rfl, rfl, rfl, rfl, rfl, trivial⟩ rfl rfl (rfl) (fun q hi bE n => ?_)
  obtain ⟨q, o⟩ := q
  simp only at hi
  have hq : (shares p (rows.take q) (s :: bl)).length ≤ q := by unfold shares; rw [List.length_map, List.length_take]; omega
  refine KW.cnd rfl rfl (fun k2 => ?_) (fun k2 => ?_)
  · refine KW.getL h2.up rfl rfl rfl rfl rfl rfl rfl rfl rfl rfl rfl rfl rfl rfl rfl rfl (by omega) (k2) (fun y a' m' hy hsy => ?_)
    have hy : rows[q]? = some y := hy
    have hym := hk.mat.row y (List.mem_of_getElem? hy)
    refine KW.callV1 rfl rfl rfl rfl rfl (fun H1 g _ => dot p hk.mat.pr (by simp; omega) (by omega) hym.2 (elems_cons hs hbe) hsy.up (g.ints (j := 2) rfl rfl (Nat.le_refl _))) (fun _ _ => ?_)
    have e : shares p (rows.take (q + 1)) (s :: bl) = shares p (rows.take q) (s :: bl) ++ [dotS p y (s :: bl)] := map_take_succ _ hy
    refine KW.app1 (xs := (shares p (rows.take q) (s :: bl)).map (Value.int .i64)) (v := .int .i64 (dotS p y (s :: bl))) 3 4 rfl rfl rfl rfl rfl rfl rfl rfl rfl rfl rfl rfl rfl rfl rfl rfl rfl rfl rfl rfl rfl rfl rfl (by simp) (by show (_ + 1) * 8 ≤ _; first | omega | (simp only; omega)) (by first | omega | (simp only; omega)) ?_
    refine KW.nxt rfl rfl (fun H' g => ⟨(q + 1, _), by simp only; omega, by first | omega | (simp only; omega), ⟨rfl, rfl, by simp only [e, List.length_append, List.length_singleton]; rfl, rfl, rfl, congrArg (Value.int .i64) (inc64 (by omega)), trivial⟩, g.eqT (by simp only [e, List.map_append]; rfl)⟩)
  · obtain rfl : q = rows.length := by simp only at k2; omega
    rw [List.take_of_length_le (Nat.le_refl _)]
    refine KW.retM1 rfl rfl rfl rfl (fun H1 g => ⟨_, rfl, MkL.of g (j := 3) rfl (g.ge (H1 := H) (j := 3) rfl)⟩)
theorem l04Shares (h p c s : Int) {id k : Nat} {a1 c1 a2 c2 a3 c3} {ow bl : List Int} {rows : List (List Int)} (hB : B_Int64SS rows) (hk : OkSch h ow p c rows) (hs : 0 ≤ s ∧ s ≤ p - 1) (hbl : (bl.length : Int) = c - 1) (hbe : Elems p bl)
    (hv : Has3 S H0 id k [.int .i64 h, .slice a1 ow.length c1, .int .i64 p, .int .i64 c, .slice a2 rows.length c2]) (h2 : KI.sl.Sl S H0 (.slice a2 rows.length c2) rows) (h3 : KI.Sl S H0 (.slice a3 bl.length c3) bl) :
    SpecM Try.prog S H0 245 [.pointer (some ⟨id, k, none⟩), .int .i64 s, .slice a3 bl.length c3] (MkL (shares p rows (s :: bl))) := by
  refine SpecM.of1 Try.func245 rfl (by kernel_rfl) rfl (fun H _ => ?_)
  have hv := hv.up (S' := Low H.n) (H' := H)
  have hc12 := hk.mat.c1
  have hc1 := hk.c1
  have hrl := hk.mat.len
  refine KW.lit rfl rfl rfl rfl rfl rfl rfl rfl rfl rfl [.int .i64 s] rfl rfl (fun v hv => by simp at hv; subst hv; rfl) rfl ?_
  refine KW.appV 0 rfl rfl rfl rfl rfl rfl rfl rfl rfl rfl (fun H1 g => acells_I h3.up g) (by simp) (by simp) (fun v hv => by obtain ⟨_, _, rfl⟩ := List.mem_map.1 hv; rfl) (by show (_ + _) * 8 ≤ _; simp only [List.length_cons, List.length_nil]; omega) (by simp only [List.length_cons, List.length_nil]; omega) (show 1 + bl.length = (s :: bl).length from by simp; omega) (fun oa _ _ => ?_)
  refine KW.lit rfl rfl rfl rfl rfl rfl rfl rfl rfl rfl [] rfl rfl (fun v hv => by simp at hv) rfl ?_
  refine KW.lpM rfl rfl (fun q : Nat × Nat => [(0, .pointer (some ⟨id, k, none⟩)), (7, .slice (some ⟨oa, 0, some 1⟩) (s :: bl).length (s :: bl).length), (8, .slice (some ⟨q.2, 0, some 1⟩) (shares p (rows.take q.1) (s :: bl)).length (shares p (rows.take q.1) (s :: bl)).length), (9, .int .i64 q.1)]) (fun q => Low H.n) (fun q => H) (fun q => [(oa, ⟨_, true, (s :: bl).map (Value.int .i64)⟩), (q.2, ⟨_, true, (shares p (rows.take q.1) (s :: bl)).map (Value.int .i64)⟩)]) (fun q => q.1 ≤ rows.length) (fun q => rows.length - q.1) ((0, _)) (by simp) ⟨rfl, rfl, rfl, rfl, trivial⟩ rfl rfl (rfl) (fun q hi bE n => ?_)
  obtain ⟨q, o⟩ := q
  simp only at hi
  have hq : (shares p (rows.take q) (s :: bl)).length ≤ q := by unfold shares; rw [List.length_map, List.length_take]; omega
  refine KW.ldF 4 hv rfl rfl rfl rfl rfl rfl rfl rfl rfl ?_
  refine KW.cnd rfl rfl (fun k2 => ?_) (fun k2 => ?_)
  · refine KW.ldF 2 hv rfl rfl rfl rfl rfl rfl rfl rfl rfl ?_
    refine KW.ldF 4 hv rfl rfl rfl rfl rfl rfl rfl rfl rfl ?_
    refine KW.getL h2.up rfl rfl rfl rfl rfl rfl rfl rfl rfl rfl rfl rfl rfl rfl rfl rfl (by omega) (k2) (fun y a' m' hy hsy => ?_)
    have hy : rows[q]? = some y := hy
    have hym := hk.mat.row y (List.mem_of_getElem? hy)
    refine KW.callV1 rfl rfl rfl rfl rfl (fun H1 g _ => l03Dot p hk.mat.pr (by simp; omega) (by omega) hym.2 (elems_cons hs hbe) hsy.up (g.ints (j := 0) rfl rfl (Nat.le_refl _))) (fun _ _ => ?_)
    have e : shares p (rows.take (q + 1)) (s :: bl) = shares p (rows.take q) (s :: bl) ++ [dotS p y (s :: bl)] := map_take_succ _ hy
    refine KW.app1 (xs := (shares p (rows.take q) (s :: bl)).map (Value.int .i64)) (v := .int .i64 (dotS p y (s :: bl))) 1 2 rfl rfl rfl rfl rfl rfl rfl rfl rfl rfl rfl rfl rfl rfl rfl rfl rfl rfl rfl rfl rfl rfl rfl (by simp) (by show (_ + 1) * 8 ≤ _; first | omega | (simp only; omega)) (by first | omega | (simp only; omega)) ?_
    refine KW.nxt rfl rfl (fun H' g => ⟨(q + 1, _), by simp only; omega, by first | omega | (simp only; omega), ⟨rfl, rfl, by simp only [e, List.length_append, List.length_singleton]; rfl, congrArg (Value.int .i64) (inc64 (by omega)), trivial⟩, g.eqT (by simp only [e, List.map_append]; rfl)⟩)
  · obtain rfl : q = rows.length := by simp only at k2; omega
    rw [List.take_of_length_le (Nat.le_refl _)]
    refine KW.retM1 rfl rfl rfl rfl (fun H1 g => MkL.of g (j := 1) rfl (g.ge (H1 := H) (j := 1) rfl))
end
/-- The shares of the rows of a holder. -/
def valsOf (p : Int) (rows : List (List Int)) (ow : List Int) (s : Int) (bl : List Int) (j : Int) : List Int := (rowsOf ow j).map fun i => (shares p rows (s :: bl)).getD i.toNat 0
theorem rows_bit {ow : List Int} (h : ∀ x ∈ ow, 0 ≤ x) (j : Nat) : rowsP (fun i => (2 ^ j : Nat).testBit (ow.getD i 0).toNat) ow.length = rowsOf ow j := rowsP_congr fun i hi => by
  have h1 : 0 ≤ ow.getD i 0 := by rw [List.getD_eq_getElem?_getD, List.getElem?_eq_getElem hi]; exact h _ (List.getElem_mem hi)
  rw [Nat.testBit_two_pow]
  exact decide_eq_decide.2 ⟨fun h => by omega, fun h => by omega⟩
theorem rows_one (ow : List Int) (j : Int) : rowsP (fun i => decide (ow.getD i 0 ∈ [j])) ow.length = rowsOf ow j := rowsP_congr fun i hi => by simp
theorem dotS_in {p : Int} {a b : List Int} (hp : PrimeP p) : 0 ≤ dotS p a b ∧ dotS p a b ≤ p - 1 := by
  unfold dotS
  have h1 := hp.1
  have := Int.emod_nonneg (dotN a b a.length) (show p ≠ 0 by omega)
  have := Int.emod_lt_of_pos (dotN a b a.length) (show 0 < p by omega)
  omega
theorem shares_in {p : Int} {rows : List (List Int)} {all : List Int} (hp : PrimeP p) : Elems p (shares p rows all) := fun x hx => by
  obtain ⟨r, _, rfl⟩ := List.mem_map.1 hx
  exact dotS_in hp
theorem vals_in {p s j : Int} {rows : List (List Int)} {ow bl : List Int} (hp : PrimeP p) : Elems p (valsOf p rows ow s bl j) := fun x hx => by
  obtain ⟨i, _, rfl⟩ := List.mem_map.1 hx
  exact elem_at (shares_in hp) hp.1 _
theorem vals_len {p s j : Int} {rows : List (List Int)} {ow bl : List Int} : (valsOf p rows ow s bl j).length = (rowsOf ow j).length := by simp [valsOf]
/-- The tags of values for the rows R, by the keys kk. -/
def tagAt (p : Int) (kk : List (List Int)) (R vals : List Int) (k : Nat) : Int := ((kk.getD (R.getD k 0).toNat []).getD 0 0 * vals.getD k 0 + (kk.getD (R.getD k 0).toNat []).getD 1 0) % p
def tagsOf (p : Int) (kk : List (List Int)) (R vals : List Int) : List Int := (List.range R.length).map (tagAt p kk R vals)
theorem range_map_succ {α : Type} (f : Nat → α) (n : Nat) : (List.range (n + 1)).map f = (List.range n).map f ++ [f n] := by rw [List.range_succ, List.map_append]; rfl
section
variable {S : Ids} {H0 : AH}
theorem values (h p c s : Int) (e j : Nat) {a1 c1 a2 c2 a3 c3} {a4 : Option Addr} {n4 c4 : Nat} {ow bl : List Int} {rows bs : List (List Int)} (hO : B_Int64S ow) (hB : B_Int64SS rows) (hk : OkSch h ow p c rows) (hs : 0 ≤ s ∧ s ≤ p - 1) (he : bs[e]? = some bl) (hbl : (bl.length : Int) = c - 1) (hbe : Elems p bl) (hj : j ≤ 6)
    (h1 : KI.Sl S H0 (.slice a1 ow.length c1) ow) (h2 : KI.sl.Sl S H0 (.slice a2 rows.length c2) rows) (h3 : KI.sl.Sl S H0 (.slice a3 bs.length c3) bs) :
    SpecM Try.prog S H0 117 [.agg #[.int .i64 h, .slice a1 ow.length c1, .int .i64 p, .int .i64 c, .slice a2 rows.length c2, .int .i64 s, .slice a3 bs.length c3, .slice a4 n4 c4], .int .i64 e, .int .i64 j] (MkL (valsOf p rows ow s bl j)) := by
  refine SpecM.of1 Try.func117 rfl (by kernel_rfl) rfl (fun H _ => ?_)
  have hrl := hk.mat.len
  have hol := hk.len
  have hel := (List.getElem?_eq_some_iff.1 he).1
  refine KW.getL h3.up rfl rfl rfl rfl rfl rfl rfl rfl rfl rfl rfl rfl rfl rfl rfl rfl (by omega) (by omega) (fun y a' m' hy hsy => ?_)
  have hy : bs[e]? = some y := hy
  rw [he] at hy
  cases hy
  refine KW.callN1 rfl rfl rfl rfl rfl (sharesOf h p c s hO hB hk hs hbl hbe h1.up h2.up hsy) (fun v HA SA mA _ _ hv => ?_)
  obtain ⟨v', rfl, a5, c5, rfl, hA⟩ := hv
  refine KW.lit rfl rfl rfl rfl rfl rfl rfl rfl rfl rfl [] rfl rfl (fun v hv => by simp at hv) rfl ?_
  refine KW.shlU rfl rfl rfl rfl rfl rfl j rfl (by omega) ?_
  have hp := small_pow (m := j) (by omega)
  refine KW.callN1 rfl rfl rfl rfl rfl (rowsHeld h p c (2 ^ j) (by omega) hO hk.own hk.h7 h1.up) (fun v HR SR mR _ _ hv => ?_)
  obtain ⟨a6, c6, rfl, hR⟩ := hv
  rw [rows_bit (fun x hx => (hk.own x hx).1)] at hR ⊢
  have hRl : (rowsOf ow j).length ≤ ow.length := rowsP_len _ _
  have hRm : ∀ x ∈ rowsOf ow j, 0 ≤ x ∧ x < ow.length := fun x hx => rowsP_mem hx
  have hval : valsOf p rows ow s bl j = (rowsOf ow j).map fun i => (shares p rows (s :: bl)).getD i.toNat 0 := rfl
  rw [hval]
  have hsl : (shares p rows (s :: bl)).length = rows.length := by simp [shares]
  obtain ⟨R, hRe⟩ : ∃ R, rowsOf ow j = R := ⟨_, rfl⟩
  rw [hRe] at hR hRl hRm ⊢
  obtain ⟨A, hAe⟩ : ∃ A, shares p rows (s :: bl) = A := ⟨_, rfl⟩
  rw [hAe] at hA hsl ⊢
  refine KW.lpM rfl rfl (fun q : Nat × Nat => [(7, .slice a5 A.length c5), (9, .slice (some ⟨q.2, 0, some 1⟩) ((R.take q.1).map fun i => A.getD i.toNat 0).length ((R.take q.1).map fun i => A.getD i.toNat 0).length), (30, .slice a6 R.length c6), (31, .int .i64 R.length), (32, .int .i64 q.1)]) (fun q => SR) (fun q => HR) (fun q => [_, (q.2, ⟨_, true, ((R.take q.1).map fun i => A.getD i.toNat 0).map (Value.int .i64)⟩)]) (fun q => q.1 ≤ R.length) (fun q => R.length - q.1) ((0, _)) (by simp) ⟨rfl, rfl, rfl, rfl, rfl, trivial⟩ rfl rfl (rfl) (fun q hi bE n => ?_)
  obtain ⟨q, o⟩ := q
  simp only at hi
  have hq : ((R.take q).map fun i => A.getD i.toNat 0).length ≤ q := by rw [List.length_map, List.length_take]; omega
  refine KW.cnd rfl rfl (fun k2 => ?_) (fun k2 => ?_)
  · refine KW.getI hR.ups rfl rfl rfl rfl rfl rfl rfl rfl rfl rfl rfl rfl rfl rfl rfl rfl (by omega) (k2) (fun x hx => ?_)
    have hx : R[q]? = some x := hx
    have hxm := hRm x (List.mem_of_getElem? hx)
    refine KW.getI hA.ups rfl rfl rfl rfl rfl rfl rfl rfl rfl rfl rfl rfl rfl rfl rfl rfl (by omega) (by omega) (fun y hy => ?_)
    have hy : A.getD x.toNat 0 = y := getD_of hy
    have e1 := map_take_succ (fun i : Int => A.getD i.toNat 0) hx
    rw [hy] at e1
    refine KW.app1 (xs := ((R.take q).map fun i => A.getD i.toNat 0).map (Value.int .i64)) (v := .int .i64 y) 1 2 rfl rfl rfl rfl rfl rfl rfl rfl rfl rfl rfl rfl rfl rfl rfl rfl rfl rfl rfl rfl rfl rfl rfl (by simp) (by show (_ + 1) * 8 ≤ _; first | omega | (simp only; omega)) (by first | omega | (simp only; omega)) ?_
    refine KW.nxt rfl rfl (fun H' g => ⟨(q + 1, _), by simp only; omega, by first | omega | (simp only; omega), ⟨rfl, by simp only [e1, List.length_append, List.length_singleton]; rfl, rfl, rfl, congrArg (Value.int .i64) (inc64 (by omega)), trivial⟩, g.eqT (by simp only [e1, List.map_append]; rfl)⟩)
  · obtain rfl : q = R.length := by simp only at k2; omega
    rw [List.take_of_length_le (Nat.le_refl _)]
    refine KW.retM1 rfl rfl rfl rfl (fun H1 g => MkL.of g (j := 1) rfl (g.ge (H1 := H) (j := 1) rfl))
theorem l08Values (h p c s : Int) (e j : Nat) {id k : Nat} {a1 c1 a2 c2 a3 c3} {v4 : Value} {ow bl : List Int} {rows bs : List (List Int)} (hO : B_Int64S ow) (hB : B_Int64SS rows) (hk : OkSch h ow p c rows) (hs : 0 ≤ s ∧ s ≤ p - 1) (he : bs[e]? = some bl) (hbl : (bl.length : Int) = c - 1) (hbe : Elems p bl)
    (hv : Has3 S H0 id k [.int .i64 h, .slice a1 ow.length c1, .int .i64 p, .int .i64 c, .slice a2 rows.length c2, .int .i64 s, .slice a3 bs.length c3, v4])
    (h1 : KI.Sl S H0 (.slice a1 ow.length c1) ow) (h2 : KI.sl.Sl S H0 (.slice a2 rows.length c2) rows) (h3 : KI.sl.Sl S H0 (.slice a3 bs.length c3) bs) :
    SpecM Try.prog S H0 210 [.pointer (some ⟨id, k, none⟩), .int .i64 e, .int .i64 j] (MkL (valsOf p rows ow s bl j)) := by
  refine SpecM.of1 Try.func210 rfl (by kernel_rfl) rfl (fun H _ => ?_)
  have hv := hv.up (S' := Low H.n) (H' := H)
  have hrl := hk.mat.len
  have hol := hk.len
  have hel := (List.getElem?_eq_some_iff.1 he).1
  refine KW.ldF 5 hv rfl rfl rfl rfl rfl rfl rfl rfl rfl ?_
  refine KW.ldF 6 hv rfl rfl rfl rfl rfl rfl rfl rfl rfl ?_
  refine KW.getL h3.up rfl rfl rfl rfl rfl rfl rfl rfl rfl rfl rfl rfl rfl rfl rfl rfl (by omega) (by omega) (fun y a' m' hy hsy => ?_)
  have hy : bs[e]? = some y := hy
  rw [he] at hy
  cases hy
  refine KW.callN1 rfl rfl rfl rfl rfl (l04Shares h p c s hB hk hs hbl hbe (hv.take (vs := [_, _, _, _, _])) h2.up hsy) (fun v HA SA mA _ _ hv => ?_)
  obtain ⟨a5, c5, rfl, hA⟩ := hv
  refine KW.lit rfl rfl rfl rfl rfl rfl rfl rfl rfl rfl [.int .i64 j] rfl rfl (fun v hv => by simp at hv; subst hv; rfl) rfl ?_
  refine KW.callNV1 rfl rfl rfl rfl rfl (fun H1 g _ => l04Held h p c (g0 := [(j : Int)]) hO (by simp) ((hv.take (vs := [_, _, _, _, _])).up) h1.up (g.ints (j := 0) rfl rfl (by simp))) (fun v HR SR mR _ _ hv => ?_)
  obtain ⟨a6, c6, rfl, hR⟩ := hv
  rw [rows_one] at hR ⊢
  refine KW.lit rfl rfl rfl rfl rfl rfl rfl rfl rfl rfl [] rfl rfl (fun v hv => by simp at hv) rfl ?_
  have hRl : (rowsOf ow j).length ≤ ow.length := rowsP_len _ _
  have hRm : ∀ x ∈ rowsOf ow j, 0 ≤ x ∧ x < ow.length := fun x hx => rowsP_mem hx
  have hval : valsOf p rows ow s bl j = (rowsOf ow j).map fun i => (shares p rows (s :: bl)).getD i.toNat 0 := rfl
  rw [hval]
  have hsl : (shares p rows (s :: bl)).length = rows.length := by simp [shares]
  obtain ⟨R, hRe⟩ : ∃ R, rowsOf ow j = R := ⟨_, rfl⟩
  rw [hRe] at hR hRl hRm ⊢
  obtain ⟨A, hAe⟩ : ∃ A, shares p rows (s :: bl) = A := ⟨_, rfl⟩
  rw [hAe] at hA hsl ⊢
  refine KW.lpM rfl rfl (fun q : Nat × Nat => [(7, .slice a5 A.length c5), (8, .slice a6 R.length c6), (9, .slice (some ⟨q.2, 0, some 1⟩) ((R.take q.1).map fun i => A.getD i.toNat 0).length ((R.take q.1).map fun i => A.getD i.toNat 0).length), (10, .int .i64 q.1)]) (fun q => SR) (fun q => HR) (fun q => [_, (q.2, ⟨_, true, ((R.take q.1).map fun i => A.getD i.toNat 0).map (Value.int .i64)⟩)]) (fun q => q.1 ≤ R.length) (fun q => R.length - q.1) ((0, _)) (by simp) ⟨rfl, rfl, rfl, rfl, trivial⟩ rfl rfl (rfl) (fun q hi bE n => ?_)
  obtain ⟨q, o⟩ := q
  simp only at hi
  have hq : ((R.take q).map fun i => A.getD i.toNat 0).length ≤ q := by rw [List.length_map, List.length_take]; omega
  refine KW.cnd rfl rfl (fun k2 => ?_) (fun k2 => ?_)
  · refine KW.getI hR.ups rfl rfl rfl rfl rfl rfl rfl rfl rfl rfl rfl rfl rfl rfl rfl rfl (by omega) (k2) (fun x hx => ?_)
    have hx : R[q]? = some x := hx
    have hxm := hRm x (List.mem_of_getElem? hx)
    refine KW.getI hA.ups rfl rfl rfl rfl rfl rfl rfl rfl rfl rfl rfl rfl rfl rfl rfl rfl (by omega) (by omega) (fun y hy => ?_)
    have hy : A.getD x.toNat 0 = y := getD_of hy
    have e1 := map_take_succ (fun i : Int => A.getD i.toNat 0) hx
    rw [hy] at e1
    refine KW.app1 (xs := ((R.take q).map fun i => A.getD i.toNat 0).map (Value.int .i64)) (v := .int .i64 y) 1 2 rfl rfl rfl rfl rfl rfl rfl rfl rfl rfl rfl rfl rfl rfl rfl rfl rfl rfl rfl rfl rfl rfl rfl (by simp) (by show (_ + 1) * 8 ≤ _; first | omega | (simp only; omega)) (by first | omega | (simp only; omega)) ?_
    refine KW.nxt rfl rfl (fun H' g => ⟨(q + 1, _), by simp only; omega, by first | omega | (simp only; omega), ⟨rfl, rfl, by simp only [e1, List.length_append, List.length_singleton]; rfl, congrArg (Value.int .i64) (inc64 (by omega)), trivial⟩, g.eqT (by simp only [e1, List.map_append]; rfl)⟩)
  · obtain rfl : q = R.length := by simp only at k2; omega
    rw [List.take_of_length_le (Nat.le_refl _)]
    refine KW.retM1 rfl rfl rfl rfl (fun H1 g => MkL.of g (j := 1) rfl (g.ge (H1 := H) (j := 1) rfl))
theorem tag_val {p k0 k1 v : Int} (hp : PrimeP p) (h0 : 0 ≤ k0 ∧ k0 ≤ p - 1) (h1 : 0 ≤ k1 ∧ k1 ≤ p - 1) (hv : 0 ≤ v ∧ v ≤ p - 1) : IntKind.i64.wrap (IntKind.i64.wrap (k0 * v) + k1) = k0 * v + k1 ∧ 0 ≤ k0 * v + k1 := by
  have h2 := mul_small hp.2.1 h0 hv
  have h3 := hp.2.1
  rw [wr (x := k0 * v) (by omega) (by omega), wr (by omega) (by omega)]
  exact ⟨rfl, by omega⟩
theorem tags (h p c s : Int) (e j : Nat) {a1 c1 a2 c2 a4 c4 a5 c5} {a3 : Option Addr} {n3 c3 : Nat} {ow vals : List Int} {rows kk : List (List Int)} {ks : List (List (List Int))} (hO : B_Int64S ow) (hBk : B_Int64SSS ks) (hk : OkSch h ow p c rows) (he : ks[e]? = some kk) (hkk : KeysOk p rows.length kk) (hj : j ≤ 6) (hvl : vals.length = (rowsOf ow j).length) (hve : Elems p vals)
    (h1 : KI.Sl S H0 (.slice a1 ow.length c1) ow) (h4 : KI.sl.sl.Sl S H0 (.slice a4 ks.length c4) ks) (h5 : KI.Sl S H0 (.slice a5 vals.length c5) vals) :
    SpecM Try.prog S H0 118 [.agg #[.int .i64 h, .slice a1 ow.length c1, .int .i64 p, .int .i64 c, .slice a2 rows.length c2, .int .i64 s, .slice a3 n3 c3, .slice a4 ks.length c4], .int .i64 e, .int .i64 j, .slice a5 vals.length c5] (MkL (tagsOf p kk (rowsOf ow j) vals)) := by
  refine SpecM.of1 Try.func118 rfl (by kernel_rfl) rfl (fun H _ => ?_)
  have hrl := hk.mat.len
  have hol := hk.len
  have hel := (List.getElem?_eq_some_iff.1 he).1
  have hpr := hk.mat.pr
  refine KW.lit rfl rfl rfl rfl rfl rfl rfl rfl rfl rfl [] rfl rfl (fun v hv => by simp at hv) rfl ?_
  refine KW.shlU rfl rfl rfl rfl rfl rfl j rfl (by omega) ?_
  have hp := small_pow (m := j) (by omega)
  refine KW.callN1 rfl rfl rfl rfl rfl (rowsHeld h p c (2 ^ j) (by omega) hO hk.own hk.h7 h1.up) (fun v HR SR mR _ _ hv => ?_)
  obtain ⟨a6, c6, rfl, hR⟩ := hv
  rw [rows_bit (fun x hx => (hk.own x hx).1)] at hR ⊢
  have hRl : (rowsOf ow j).length ≤ ow.length := rowsP_len _ _
  have hRm : ∀ x ∈ rowsOf ow j, 0 ≤ x ∧ x < ow.length := fun x hx => rowsP_mem hx
  obtain ⟨R, hRe⟩ : ∃ R, rowsOf ow j = R := ⟨_, rfl⟩
  rw [hRe] at hR hRl hRm hvl ⊢
  refine KW.lpM rfl rfl (fun q : Nat × Nat => [(1, .int .i64 e), (3, .slice a5 vals.length c5), (4, .pointer (some ⟨H.n, 0, some 0⟩)), (9, .slice (some ⟨q.2, 0, some 1⟩) ((List.range q.1).map (tagAt p kk R vals)).length ((List.range q.1).map (tagAt p kk R vals)).length), (18, .slice a6 R.length c6), (19, .int .i64 R.length), (20, .int .i64 q.1)]) (fun q => SR) (fun q => HR) (fun q => [(H.n, ⟨71, true, [.int .i64 h, .slice a1 ow.length c1, .int .i64 p, .int .i64 c, .slice a2 rows.length c2, .int .i64 s, .slice a3 n3 c3, .slice a4 ks.length c4]⟩), (q.2, ⟨_, true, ((List.range q.1).map (tagAt p kk R vals)).map (Value.int .i64)⟩)]) (fun q => q.1 ≤ R.length) (fun q => R.length - q.1) ((0, _)) (by simp) ⟨rfl, rfl, rfl, rfl, rfl, rfl, rfl, trivial⟩ rfl rfl (rfl) (fun q hi bE n => ?_)
  obtain ⟨q, o⟩ := q
  simp only at hi
  have hq : ((List.range q).map (tagAt p kk R vals)).length ≤ q := by simp
  refine KW.cnd rfl rfl (fun k2 => ?_) (fun k2 => ?_)
  · refine KW.getI hR.ups rfl rfl rfl rfl rfl rfl rfl rfl rfl rfl rfl rfl rfl rfl rfl rfl (by omega) (k2) (fun x hx => ?_)
    have hx : R[q]? = some x := hx
    have hxm := hRm x (List.mem_of_getElem? hx)
    refine KW.getL h4.up rfl rfl rfl rfl rfl rfl rfl rfl rfl rfl rfl rfl rfl rfl rfl rfl (by omega) (by omega) (fun kk' b1 d1 hk1 hs1 => ?_)
    have hk1 : ks[e]? = some kk' := hk1
    rw [he] at hk1
    cases hk1
    have hkl := hkk.1
    refine KW.getL hs1 rfl rfl rfl rfl rfl rfl rfl rfl rfl rfl rfl rfl rfl rfl rfl rfl (by omega) (by omega) (fun ky b2 d2 hk2 hs2 => ?_)
    have hk2 : kk[x.toNat]? = some ky := hk2
    have hky := hkk.2 ky (List.mem_of_getElem? hk2)
    have hkyl := hky.1
    refine KW.getI hs2 rfl rfl rfl rfl rfl rfl rfl rfl rfl rfl rfl rfl rfl rfl rfl rfl (by omega) (by omega) (fun k0 hk0 => ?_)
    refine KW.getI h5.up rfl rfl rfl rfl rfl rfl rfl rfl rfl rfl rfl rfl rfl rfl rfl rfl (by omega) (by omega) (fun v hv => ?_)
    refine KW.getI hs2 rfl rfl rfl rfl rfl rfl rfl rfl rfl rfl rfl rfl rfl rfl rfl rfl (by omega) (by omega) (fun k1 hk1' => ?_)
    have ek0 : ky.getD 0 0 = k0 := getD_of hk0
    have ek1 : ky.getD 1 0 = k1 := getD_of hk1'
    have ev : vals.getD q 0 = v := getD_of hv
    have eR : R.getD q 0 = x := getD_of hx
    have ekk : kk.getD x.toNat [] = ky := by rw [List.getD_eq_getElem?_getD, hk2]; rfl
    have et : tagAt p kk R vals q = (k0 * v + k1) % p := by unfold tagAt; rw [eR, ekk, ek0, ek1, ev]
    obtain ⟨ew, e0⟩ := tag_val hpr (ek0 ▸ elem_at hky.2 hpr.1 0) (ek1 ▸ elem_at hky.2 hpr.1 1) (ev ▸ elem_at hve hpr.1 q)
    refine KW.rem rfl rfl rfl rfl rfl rfl (by rw [ew]; exact e0) (by have := hpr.1; omega) ?_
    rw [ew, ← et]
    have e1 := range_map_succ (tagAt p kk R vals) q
    refine KW.app1 (xs := ((List.range q).map (tagAt p kk R vals)).map (Value.int .i64)) (v := .int .i64 (tagAt p kk R vals q)) 1 2 rfl rfl rfl rfl rfl rfl rfl rfl rfl rfl rfl rfl rfl rfl rfl rfl rfl rfl rfl rfl rfl rfl rfl (by simp) (by show (_ + 1) * 8 ≤ _; first | omega | (simp only; omega)) (by first | omega | (simp only; omega)) ?_
    refine KW.nxt rfl rfl (fun H' g => ⟨(q + 1, _), by simp only; omega, by first | omega | (simp only; omega), ⟨rfl, rfl, rfl, by simp only [e1, List.length_append, List.length_singleton]; rfl, rfl, rfl, congrArg (Value.int .i64) (inc64 (by omega)), trivial⟩, g.eqT (by simp only [e1, List.map_append]; rfl)⟩)
  · obtain rfl : q = R.length := by simp only at k2; omega
    refine KW.retM1 rfl rfl rfl rfl (fun H1 g => MkL.of g (j := 1) rfl (g.ge (H1 := H) (j := 1) rfl))
theorem l08Tags (h p c s : Int) (e j : Nat) {id k : Nat} {a1 c1 a4 c4 a5 c5} {v2 v3 : Value} {ow vals : List Int} {rows kk : List (List Int)} {ks : List (List (List Int))} (hO : B_Int64S ow) (hBk : B_Int64SSS ks) (hk : OkSch h ow p c rows) (he : ks[e]? = some kk) (hkk : KeysOk p rows.length kk) (hvl : vals.length = (rowsOf ow j).length) (hve : Elems p vals)
    (hv : Has3 S H0 id k [.int .i64 h, .slice a1 ow.length c1, .int .i64 p, .int .i64 c, v2, .int .i64 s, v3, .slice a4 ks.length c4])
    (h1 : KI.Sl S H0 (.slice a1 ow.length c1) ow) (h4 : KI.sl.sl.Sl S H0 (.slice a4 ks.length c4) ks) (h5 : KI.Sl S H0 (.slice a5 vals.length c5) vals) :
    SpecM Try.prog S H0 212 [.pointer (some ⟨id, k, none⟩), .int .i64 e, .int .i64 j, .slice a5 vals.length c5] (MkL (tagsOf p kk (rowsOf ow j) vals)) := by
  refine SpecM.of1 Try.func212 rfl (by kernel_rfl) rfl (fun H _ => ?_)
  have hv := hv.up (S' := Low H.n) (H' := H)
  have hrl := hk.mat.len
  have hol := hk.len
  have hel := (List.getElem?_eq_some_iff.1 he).1
  have hpr := hk.mat.pr
  refine KW.lit rfl rfl rfl rfl rfl rfl rfl rfl rfl rfl [.int .i64 j] rfl rfl (fun v hv => by simp at hv; subst hv; rfl) rfl ?_
  refine KW.callNV1 rfl rfl rfl rfl rfl (fun H1 g _ => l04Held h p c (g0 := [(j : Int)]) hO (by simp) ((hv.take (vs := [_, _, _, _, _])).up) h1.up (g.ints (j := 0) rfl rfl (by simp))) (fun v HR SR mR _ _ hv => ?_)
  obtain ⟨a6, c6, rfl, hR⟩ := hv
  rw [rows_one] at hR ⊢
  refine KW.lit rfl rfl rfl rfl rfl rfl rfl rfl rfl rfl [] rfl rfl (fun v hv => by simp at hv) rfl ?_
  have hRl : (rowsOf ow j).length ≤ ow.length := rowsP_len _ _
  have hRm : ∀ x ∈ rowsOf ow j, 0 ≤ x ∧ x < ow.length := fun x hx => rowsP_mem hx
  obtain ⟨R, hRe⟩ : ∃ R, rowsOf ow j = R := ⟨_, rfl⟩
  rw [hRe] at hR hRl hRm hvl ⊢
  have hv := hv.up (S' := SR) (H' := HR)
  refine KW.lpM rfl rfl (fun q : Nat × Nat => [(0, .pointer (some ⟨id, k, none⟩)), (1, .int .i64 e), (3, .slice a5 vals.length c5), (9, .slice a6 R.length c6), (10, .slice (some ⟨q.2, 0, some 1⟩) ((List.range q.1).map (tagAt p kk R vals)).length ((List.range q.1).map (tagAt p kk R vals)).length), (11, .int .i64 q.1)]) (fun q => SR) (fun q => HR) (fun q => [_, (q.2, ⟨_, true, ((List.range q.1).map (tagAt p kk R vals)).map (Value.int .i64)⟩)]) (fun q => q.1 ≤ R.length) (fun q => R.length - q.1) ((0, _)) (by simp) ⟨rfl, rfl, rfl, rfl, rfl, rfl, trivial⟩ rfl rfl (rfl) (fun q hi bE n => ?_)
  obtain ⟨q, o⟩ := q
  simp only at hi
  have hq : ((List.range q).map (tagAt p kk R vals)).length ≤ q := by simp
  refine KW.cnd rfl rfl (fun k2 => ?_) (fun k2 => ?_)
  · refine KW.ldF 7 hv rfl rfl rfl rfl rfl rfl rfl rfl rfl ?_
    refine KW.getL h4.up rfl rfl rfl rfl rfl rfl rfl rfl rfl rfl rfl rfl rfl rfl rfl rfl (by omega) (by omega) (fun kk' b1 d1 hk1 hs1 => ?_)
    have hk1 : ks[e]? = some kk' := hk1
    rw [he] at hk1
    cases hk1
    have hkl := hkk.1
    refine KW.getI hR.ups rfl rfl rfl rfl rfl rfl rfl rfl rfl rfl rfl rfl rfl rfl rfl rfl (by omega) (k2) (fun x hx => ?_)
    have hx : R[q]? = some x := hx
    have hxm := hRm x (List.mem_of_getElem? hx)
    refine KW.getL hs1 rfl rfl rfl rfl rfl rfl rfl rfl rfl rfl rfl rfl rfl rfl rfl rfl (by omega) (by omega) (fun ky b2 d2 hk2 hs2 => ?_)
    have hk2 : kk[x.toNat]? = some ky := hk2
    have hky := hkk.2 ky (List.mem_of_getElem? hk2)
    have hkyl := hky.1
    refine KW.getI hs2 rfl rfl rfl rfl rfl rfl rfl rfl rfl rfl rfl rfl rfl rfl rfl rfl (by omega) (by omega) (fun k0 hk0 => ?_)
    refine KW.getI h5.up rfl rfl rfl rfl rfl rfl rfl rfl rfl rfl rfl rfl rfl rfl rfl rfl (by omega) (by omega) (fun v hv' => ?_)
    refine KW.getI hs2 rfl rfl rfl rfl rfl rfl rfl rfl rfl rfl rfl rfl rfl rfl rfl rfl (by omega) (by omega) (fun k1 hk1' => ?_)
    refine KW.ldF 2 hv rfl rfl rfl rfl rfl rfl rfl rfl rfl ?_
    have ek0 : ky.getD 0 0 = k0 := getD_of hk0
    have ek1 : ky.getD 1 0 = k1 := getD_of hk1'
    have ev : vals.getD q 0 = v := getD_of hv'
    have eR : R.getD q 0 = x := getD_of hx
    have ekk : kk.getD x.toNat [] = ky := by rw [List.getD_eq_getElem?_getD, hk2]; rfl
    have et : tagAt p kk R vals q = (k0 * v + k1) % p := by unfold tagAt; rw [eR, ekk, ek0, ek1, ev]
    obtain ⟨ew, e0⟩ := tag_val hpr (ek0 ▸ elem_at hky.2 hpr.1 0) (ek1 ▸ elem_at hky.2 hpr.1 1) (ev ▸ elem_at hve hpr.1 q)
    refine KW.rem rfl rfl rfl rfl rfl rfl (by rw [ew]; exact e0) (by have := hpr.1; omega) ?_
    rw [ew, ← et]
    have e1 := range_map_succ (tagAt p kk R vals) q
    refine KW.app1 (xs := ((List.range q).map (tagAt p kk R vals)).map (Value.int .i64)) (v := .int .i64 (tagAt p kk R vals q)) 1 2 rfl rfl rfl rfl rfl rfl rfl rfl rfl rfl rfl rfl rfl rfl rfl rfl rfl rfl rfl rfl rfl rfl rfl (by simp) (by show (_ + 1) * 8 ≤ _; first | omega | (simp only; omega)) (by first | omega | (simp only; omega)) ?_
    refine KW.nxt rfl rfl (fun H' g => ⟨(q + 1, _), by simp only; omega, by first | omega | (simp only; omega), ⟨rfl, rfl, rfl, rfl, by simp only [e1, List.length_append, List.length_singleton]; rfl, congrArg (Value.int .i64) (inc64 (by omega)), trivial⟩, g.eqT (by simp only [e1, List.map_append]; rfl)⟩)
  · obtain rfl : q = R.length := by simp only at k2; omega
    refine KW.retM1 rfl rfl rfl rfl (fun H1 g => MkL.of g (j := 1) rfl (g.ge (H1 := H) (j := 1) rfl))
end
end Go.Proofs.Ytijmkfnmdhpakaa.Am
/- Contracts: values, tags and lies of a deal, of the program and of the reference. Each holds under its own conditions. -/
set_option linter.unusedVariables false
set_option maxRecDepth 20000
namespace Go.Proofs.Ytijmkfnmdhpakaa.Am
open Go Go.RowKit Go.Proofs
/-- The code of a deal, an epoch and a holder. -/
noncomputable def codeD (x : T_Deal) (e j : Int) : Int := if tv (DealOk x) = true then (if (0 ≤ e ∧ e ≤ (x.2.2.1.length : Int) - 1) ∧ (0 ≤ j ∧ j ≤ x.1.1 - 1) then 0 else 2) else 1
abbrev blD (x : T_Deal) (e : Int) : List Int := x.2.2.1.getD e.toNat []
abbrev kkD (x : T_Deal) (e : Int) : List (List Int) := x.2.2.2.getD e.toNat []
/-- A deal at an epoch and a holder. -/
structure DealAt (x : T_Deal) (e j : Int) (E J : Nat) : Prop where
  ee : e = E
  jj : j = J
  j6 : J ≤ 6
  sch : OkSch x.1.1 x.1.2.1 x.1.2.2.1 x.1.2.2.2.1 x.1.2.2.2.2
  sec : 0 ≤ x.2.1 ∧ x.2.1 ≤ x.1.2.2.1 - 1
  hb : x.2.2.1[E]? = some (blD x e)
  hk : x.2.2.2[E]? = some (kkD x e)
  bl : ((blD x e).length : Int) = x.1.2.2.2.1 - 1 ∧ Elems x.1.2.2.1 (blD x e)
  key : KeysOk x.1.2.2.1 x.1.2.2.2.2.length (kkD x e)
theorem codeD_ok {x : T_Deal} {e j : Int} (h : codeD x e j = 0) : ∃ E J, DealAt x e j E J := by
  unfold codeD at h
  split at h
  · rename_i hd
    have hd : DealOk x := tv_iff.1 hd
    split at h
    · rename_i hr
      have hbl := hd.bl
      have hkl := hd.kl
      have h7 := hd.sch.h7
      have h1 : x.2.2.1[e.toNat]? = some (blD x e) := by
        show _ = some (x.2.2.1.getD e.toNat [])
        rw [List.getD_eq_getElem?_getD, List.getElem?_eq_getElem (by omega)]; rfl
      have h2 : x.2.2.2[e.toNat]? = some (kkD x e) := by
        show _ = some (x.2.2.2.getD e.toNat [])
        rw [List.getD_eq_getElem?_getD, List.getElem?_eq_getElem (by omega)]; rfl
      have h3 := hd.bk _ _ _ h1 h2
      exact ⟨e.toNat, j.toNat, by omega, by omega, by omega, hd.sch, hd.sec, h1, h2, h3.1, h3.2⟩
    · cases h
  · cases h
def valsD (x : T_Deal) (e j : Int) : List Int := valsOf x.1.2.2.1 x.1.2.2.2.2 x.1.2.1 x.2.1 (blD x e) j
def tagsD (x : T_Deal) (e j : Int) (vals : List Int) : List Int := tagsOf x.1.2.2.1 (kkD x e) (rowsOf x.1.2.1 j) vals
def lieOf (p : Int) (vals : List Int) (lie : Int) : List Int := match vals with
  | [] => []
  | v :: vs => ((v + lie) % p) :: vs
theorem lie_len {p : Int} {vals : List Int} {lie : Int} : (lieOf p vals lie).length = vals.length := by cases vals <;> rfl
theorem lie_in {p : Int} {vals : List Int} {lie : Int} (hp : PrimeP p) (h : Elems p vals) : Elems p (lieOf p vals lie) := fun x hx => by
  cases vals with
  | nil => exact h x hx
  | cons v vs =>
    rcases List.mem_cons.1 hx with rfl | hx
    · have h1 := hp.1
      have := Int.emod_nonneg (v + lie) (show p ≠ 0 by omega)
      have := Int.emod_lt_of_pos (v + lie) (show 0 < p by omega)
      omega
    · exact h x (List.mem_cons_of_mem _ hx)
section
variable {S : Ids} {H0 : AH}
theorem dealCode (x : T_Deal) (e j : Int) {cs : List Value} (hB : B_Deal x) (h : K_Deal.R S H0 x cs) : Spec Try.prog S H0 116 [.agg cs.toArray, .int .i64 e, .int .i64 j] (fun v => v = .int .i64 (codeD x e j)) := by
  obtain ⟨a1, c1, a2, c2, a3, c3, a4, c4, rfl, h1, h2, h3, h4⟩ := split2_Deal h
  refine Spec.of1 Try.func116 rfl (by kernel_rfl) rfl (fun H _ => ?_)
  have hbl := hB.2.2.1.len
  refine KW.callE rfl rfl rfl rfl rfl (impl_ValidDeal hB (On.R h)) (fun _ _ => ?_)
  by_cases hd : DealOk x
  · rw [tv_true hd]
    refine KW.cF rfl rfl (by first | (simp; done) | decide) ?_
    have h7 := hd.sch.h7
    have h1 := hd.sch.h1
    refine KW.callE rfl rfl rfl rfl rfl (within _ _ _) (fun _ _ => ?_)
    rw [wr (x := (x.2.2.1.length : Int) - 1) (by omega) (by omega)]
    refine KW.tstB rfl rfl (fun k1 => ?_) (fun k1 => ?_)
    · refine KW.cT rfl rfl (by first | (simp; done) | decide) ?_
      exact KW.ret rfl rfl rfl rfl (by unfold codeD; rw [if_pos (tv_true hd), if_neg (fun hc => by simp at k1; omega)]; rfl)
    have k1 : 0 ≤ e ∧ e ≤ (x.2.2.1.length : Int) - 1 := by simpa using k1
    refine KW.callE rfl rfl rfl rfl rfl (within _ _ _) (fun _ _ => ?_)
    rw [wr (x := x.1.1 - 1) (by omega) (by omega)]
    refine KW.cndB rfl rfl (fun k2 => ?_) (fun k2 => ?_)
    · exact KW.ret rfl rfl rfl rfl (by unfold codeD; rw [if_pos (tv_true hd), if_neg (fun hc => by simp at k2; omega)]; rfl)
    have k2 : 0 ≤ j ∧ j ≤ x.1.1 - 1 := by simpa using k2
    exact KW.ret rfl rfl rfl rfl (by unfold codeD; rw [if_pos (tv_true hd), if_pos ⟨k1, k2⟩]; rfl)
  · rw [tv_false hd]
    refine KW.cT rfl rfl (by first | (simp; done) | decide) ?_
    exact KW.ret rfl rfl rfl rfl (by unfold codeD; rw [if_neg (by rw [tv_false hd]; decide)]; rfl)
theorem valuesD (x : T_Deal) (e j : Int) {E J : Nat} (hd : DealAt x e j E J) {cs : List Value} (hB : B_Deal x) (h : K_Deal.R S H0 x cs) : SpecM Try.prog S H0 117 [.agg cs.toArray, .int .i64 e, .int .i64 j] (MkL (valsD x e j)) := by
  obtain ⟨a1, c1, a2, c2, a3, c3, a4, c4, rfl, h1, h2, h3, h4⟩ := split2_Deal h
  have := values x.1.1 x.1.2.2.1 x.1.2.2.2.1 x.2.1 E J (c2 := c2) (a4 := a4) (n4 := x.2.2.2.length) (c4 := c4) hB.1.2.1 hB.1.2.2.2.2 hd.sch hd.sec hd.hb hd.bl.1 hd.bl.2 hd.j6 h1 h2 h3
  rw [hd.ee, hd.jj]
  rw [hd.ee] at this
  exact this
theorem l08ValuesD (x : T_Deal) (e j : Int) {E J : Nat} (hd : DealAt x e j E J) {id k : Nat} {cs : List Value} (hB : B_Deal x) (hv : Has3 S H0 id k cs) (h : K_Deal.R S H0 x cs) : SpecM Try.prog S H0 210 [.pointer (some ⟨id, k, none⟩), .int .i64 e, .int .i64 j] (MkL (valsD x e j)) := by
  obtain ⟨a1, c1, a2, c2, a3, c3, a4, c4, rfl, h1, h2, h3, h4⟩ := split2_Deal h
  have := l08Values x.1.1 x.1.2.2.1 x.1.2.2.2.1 x.2.1 E J hB.1.2.1 hB.1.2.2.2.2 hd.sch hd.sec hd.hb hd.bl.1 hd.bl.2 hv h1 h2 h3
  rw [hd.ee, hd.jj]
  rw [hd.ee] at this
  exact this
theorem tagsDD (x : T_Deal) (e j : Int) {E J : Nat} (hd : DealAt x e j E J) {cs : List Value} (hB : B_Deal x) (h : K_Deal.R S H0 x cs) {vals : List Int} {a c} (hl : vals.length = (rowsOf x.1.2.1 j).length) (he : Elems x.1.2.2.1 vals) (hs : KI.Sl S H0 (.slice a vals.length c) vals) : SpecM Try.prog S H0 118 [.agg cs.toArray, .int .i64 e, .int .i64 j, .slice a vals.length c] (MkL (tagsD x e j vals)) := by
  obtain ⟨a1, c1, a2, c2, a3, c3, a4, c4, rfl, h1, h2, h3, h4⟩ := split2_Deal h
  have := tags x.1.1 x.1.2.2.1 x.1.2.2.2.1 x.2.1 E J (a2 := a2) (c2 := c2) (a3 := a3) (n3 := x.2.2.1.length) (c3 := c3) hB.1.2.1 hB.2.2.2 hd.sch hd.hk hd.key hd.j6 (by rw [← hd.jj]; exact hl) he h1 h4 hs
  unfold tagsD
  rw [hd.ee, hd.jj]
  rw [hd.ee] at this
  exact this
theorem l08TagsD (x : T_Deal) (e j : Int) {E J : Nat} (hd : DealAt x e j E J) {id k : Nat} {cs : List Value} (hB : B_Deal x) (hv : Has3 S H0 id k cs) (h : K_Deal.R S H0 x cs) {vals : List Int} {a c} (hl : vals.length = (rowsOf x.1.2.1 j).length) (he : Elems x.1.2.2.1 vals) (hs : KI.Sl S H0 (.slice a vals.length c) vals) : SpecM Try.prog S H0 212 [.pointer (some ⟨id, k, none⟩), .int .i64 e, .int .i64 j, .slice a vals.length c] (MkL (tagsD x e j vals)) := by
  obtain ⟨a1, c1, a2, c2, a3, c3, a4, c4, rfl, h1, h2, h3, h4⟩ := split2_Deal h
  have := l08Tags x.1.1 x.1.2.2.1 x.1.2.2.2.1 x.2.1 E J hB.1.2.1 hB.2.2.2 hd.sch hd.hk hd.key (by rw [← hd.jj]; exact hl) he hv h1 h4 hs
  unfold tagsD
  rw [hd.ee, hd.jj]
  rw [hd.ee] at this
  exact this
/-- A list and a code. -/
def MkLC (xs : List Int) (code : Int) (n : Nat) (v : Value) (H1 : AH) : Prop := ∃ a c, v = .tuple #[.slice a xs.length c, .int .i64 code] ∧ M_Int64S.R (New n H1.n) H1 xs [.slice a xs.length c]
theorem MkLC.nil {code : Int} {n : Nat} {H1 : AH} {v : Value} (hv : v = .tuple #[.slice none 0 0, .int .i64 code]) : MkLC [] code n v H1 := ⟨none, 0, hv, ml1' (.inl ⟨rfl, _, _, rfl, fun _ => rfl⟩)⟩
theorem MkLC.nil' {code : Int} {n id : Nat} {H1 : AH} {v : Value} (hv : v = .tuple #[.slice (some ⟨id, 0, some 1⟩) 0 0, .int .i64 code]) : MkLC [] code n v H1 := ⟨_, 0, hv, ml1' (.inl ⟨rfl, _, _, rfl, fun h => by cases h⟩)⟩
/-- What a callee has made is handed on. -/
theorem Good.made {S0 : Ids} {H0 H1 H2 : AH} {T : List Var} {n lo m : Nat} {xs : List Int} {a : Option Addr} {c : Nat} (g : Good S0 H0 T n H2) [o : On (New m H1.n) H1 S0 H0] (hm : lo ≤ m) (h : KI.Ml (New m H1.n) H1 (.slice a xs.length c) xs) : KI.Ml (New lo H2.n) H2 (.slice a xs.length c) xs :=
  Kn.Ml.st h (g.out (fun id hid => by have := hid.1; omega)).st
noncomputable def r1_DealValues (x : T_Deal) (e j : Int) : Int := codeD x e j
noncomputable def r1_DealTags (x : T_Deal) (e j : Int) : Int := codeD x e j
noncomputable def r0_DealValues (x : T_Deal) (e j : Int) : List Int := if codeD x e j = 0 then valsD x e j else []
theorem impl_DealValues {x : T_Deal} (e j : Int) (he : I64 e) (hj : I64 j) {cs : List Value} (hB : B_Deal x) (h : K_Deal.R S H0 x cs) : SpecM Try.prog S H0 47 [.agg cs.toArray, .int .i64 e, .int .i64 j] (MkLC (r0_DealValues x e j) (codeD x e j)) := by
  obtain ⟨a1, c1, a2, c2, a3, c3, a4, c4, rfl, h1, h2, h3, h4⟩ := split2_Deal h
  refine SpecM.of1 Try.func47 rfl (by kernel_rfl) rfl (fun H _ => ?_)
  refine KW.callE rfl rfl rfl rfl rfl (dealCode x e j hB (On.R h)) (fun _ _ => ?_)
  unfold r0_DealValues
  by_cases hc : codeD x e j = 0
  · obtain ⟨E, J, hd⟩ := codeD_ok hc
    rw [if_pos hc, hc]
    refine KW.cF rfl rfl (by first | (simp; done) | decide) ?_
    refine KW.callN1 rfl rfl rfl rfl rfl (valuesD x e j hd hB (On.R h)) (fun v HA SA mA _ _ hv => ?_)
    obtain ⟨a5, c5, rfl, hA⟩ := hv
    refine KW.retM1 rfl rfl rfl rfl (fun H1 g => ⟨_, _, rfl, ml1' (g.made (by omega) hA)⟩)
  · rw [if_neg hc]
    refine KW.cndB rfl rfl (fun k1 => ?_) (fun k1 => ?_)
    · refine KW.retM1 rfl rfl rfl rfl (fun H1 g => MkLC.nil rfl)
    · exact absurd (by simpa using k1) hc
noncomputable def r0_DealTags (x : T_Deal) (e j : Int) : List Int := if codeD x e j = 0 then tagsD x e j (valsD x e j) else []
theorem impl_DealTags {x : T_Deal} (e j : Int) (he : I64 e) (hj : I64 j) {cs : List Value} (hB : B_Deal x) (h : K_Deal.R S H0 x cs) : SpecM Try.prog S H0 48 [.agg cs.toArray, .int .i64 e, .int .i64 j] (MkLC (r0_DealTags x e j) (codeD x e j)) := by
  obtain ⟨a1, c1, a2, c2, a3, c3, a4, c4, rfl, h1, h2, h3, h4⟩ := split2_Deal h
  refine SpecM.of1 Try.func48 rfl (by kernel_rfl) rfl (fun H _ => ?_)
  refine KW.callE rfl rfl rfl rfl rfl (dealCode x e j hB (On.R h)) (fun _ _ => ?_)
  unfold r0_DealTags
  by_cases hc : codeD x e j = 0
  · obtain ⟨E, J, hd⟩ := codeD_ok hc
    rw [if_pos hc, hc]
    refine KW.cF rfl rfl (by first | (simp; done) | decide) ?_
    refine KW.fact (fun _ g => g.nle (H1 := H)) (fun hn0 => ?_)
    refine KW.callN1 rfl rfl rfl rfl rfl (valuesD x e j hd hB (On.R h)) (fun v HA SA mA _ _ hv => ?_)
    obtain ⟨a5, c5, rfl, hA⟩ := hv
    refine KW.callN1 rfl rfl rfl rfl rfl (tagsDD x e j hd hB (On.R h) vals_len (vals_in hd.sch.mat.pr) hA.ups) (fun v HC SC mC _ _ hv => ?_)
    obtain ⟨a6, c6, rfl, hC⟩ := hv
    refine KW.retM1 rfl rfl rfl rfl (fun H1 g => ⟨_, _, rfl, ml1' (g.made (by omega) hC)⟩)
  · rw [if_neg hc]
    refine KW.cndB rfl rfl (fun k1 => ?_) (fun k1 => ?_)
    · refine KW.retM1 rfl rfl rfl rfl (fun H1 g => MkLC.nil rfl)
    · exact absurd (by simpa using k1) hc
theorem bound_DealValues {x : T_Deal} (e j : Int) (he : I64 e) (hj : I64 j) (hB : B_Deal x) : B_Int64S (r0_DealValues x e j) := by
  unfold r0_DealValues
  split
  · rename_i hc
    obtain ⟨E, J, hd⟩ := codeD_ok hc
    show (valsD x e j).length ≤ 1048576
    have h1 : (valsD x e j).length = (rowsOf x.1.2.1 j).length := vals_len
    have h2 : (rowsOf x.1.2.1 j).length ≤ x.1.2.1.length := rowsP_len _ _
    have h3 : x.1.2.1.length ≤ 1048576 := hB.1.2.1
    omega
  · show 0 ≤ _; omega
theorem bound_DealTags {x : T_Deal} (e j : Int) (he : I64 e) (hj : I64 j) (hB : B_Deal x) : B_Int64S (r0_DealTags x e j) := by
  unfold r0_DealTags
  split
  · show (tagsD x e j _).length ≤ 1048576
    have h1 : (tagsD x e j (valsD x e j)).length = (rowsOf x.1.2.1 j).length := by simp [tagsD, tagsOf]
    have h2 : (rowsOf x.1.2.1 j).length ≤ x.1.2.1.length := rowsP_len _ _
    have h3 : x.1.2.1.length ≤ 1048576 := hB.1.2.1
    omega
  · show 0 ≤ _; omega
end
end Go.Proofs.Ytijmkfnmdhpakaa.Am
/- Contracts: copies and equality of rows; lies. Each holds under its own conditions. -/
set_option linter.unusedVariables false
set_option linter.unusedSimpArgs false
set_option maxRecDepth 20000
namespace Go.Proofs.Ytijmkfnmdhpakaa.Am
open Go Go.RowKit Go.Proofs
section
variable {S : Ids} {H0 : AH}
theorem l00Own {a c} {xs : List Int} (hl : xs.length ≤ 1048576) (hs : KI.Sl S H0 (.slice a xs.length c) xs) : SpecM Try.prog S H0 214 [.slice a xs.length c] (MkL xs) := by
  refine SpecM.of1 Try.func214 rfl (by kernel_rfl) rfl (fun H _ => ?_)
  refine KW.lit rfl rfl rfl rfl rfl rfl rfl rfl rfl rfl [] rfl rfl (fun v hv => by simp at hv) rfl ?_
  refine KW.appV 0 rfl rfl rfl rfl rfl rfl rfl rfl rfl rfl (fun H1 g => acells_I hs.up g) (by simp) (by simp) (fun v hv => by obtain ⟨_, _, rfl⟩ := List.mem_map.1 hv; rfl) (by show (_ + _) * 8 ≤ _; simp only [List.length_cons, List.length_nil]; omega) (by simp only [List.length_cons, List.length_nil]; omega) (show 0 + xs.length = xs.length from by omega) (fun oa _ _ => ?_)
  refine KW.retM1 rfl rfl rfl rfl (fun H1 g => MkL.of g (j := 0) rfl (g.ge (H1 := H) (j := 0) rfl))
theorem cloneI {a c} {xs : List Int} (hl : xs.length ≤ 1048576) (hs : KI.Sl S H0 (.slice a xs.length c) xs) : SpecM Try.prog S H0 130 [.slice a xs.length c] (MkL xs) := by
  refine SpecM.of1 Try.func130 rfl (by kernel_rfl) rfl (fun H _ => ?_)
  refine KW.cndB rfl rfl (fun h => ?_) (fun h => ?_)
  · have ha : a = none := by cases a with
      | none => rfl
      | some a => simp at h
    have hx : xs = [] := by
      rcases hs with ⟨hx, _⟩ | ⟨id, k, c1, b, h1, _⟩
      · exact hx
      · rw [ha] at h1; cases h1
    subst hx
    refine KW.retM1 rfl rfl rfl rfl (fun H1 g => ⟨none, 0, rfl, .inl ⟨rfl, _, _, rfl, fun _ => rfl⟩⟩)
  · refine KW.lit rfl rfl rfl rfl rfl rfl rfl rfl rfl rfl [] rfl rfl (fun v hv => by simp at hv) rfl ?_
    refine KW.appV 0 rfl rfl rfl rfl rfl rfl rfl rfl rfl rfl (fun H1 g => acells_I hs.up g) (by simp) (by simp) (fun v hv => by obtain ⟨_, _, rfl⟩ := List.mem_map.1 hv; rfl) (by show (_ + _) * 8 ≤ _; simp only [List.length_cons, List.length_nil]; omega) (by simp only [List.length_cons, List.length_nil]; omega) (show 0 + xs.length = xs.length from by omega) (fun oa _ _ => ?_)
    refine KW.retM1 rfl rfl rfl rfl (fun H1 g => MkL.of g (j := 0) rfl (g.ge (H1 := H) (j := 0) rfl))
theorem equalI {a c a' c'} {xs ys : List Int} (hl : xs.length ≤ 1048576) (hs : KI.Sl S H0 (.slice a xs.length c) xs) (hs' : KI.Sl S H0 (.slice a' ys.length c') ys) : Spec Try.prog S H0 119 [.slice a xs.length c, .slice a' ys.length c'] (fun v => v = .bool (tv (xs = ys))) := by
  refine Spec.of1 Try.func119 rfl (by kernel_rfl) rfl (fun H _ => ?_)
  refine KW.cndB rfl rfl (fun h => ?_) (fun h => ?_)
  · exact KW.ret rfl rfl rfl rfl (by rw [tv_false (fun hc => by rw [hc] at h; simp at h)]; rfl)
  have h : xs.length = ys.length := by simp at h; omega
  refine KW.lp rfl rfl (fun i : Nat => [(0, .slice a xs.length c), (1, .slice a' ys.length c'), (12, .int .i64 xs.length), (13, .int .i64 i)]) (fun i => i ≤ xs.length ∧ ∀ j, j < i → xs[j]? = ys[j]?) (fun i => xs.length - i) (0) (⟨by omega, fun j h => absurd h (by omega)⟩) ⟨rfl, rfl, rfl, rfl, trivial⟩ (fun i hi bE n => ?_)
  obtain ⟨hi, hj⟩ := hi
  refine KW.cnd rfl rfl (fun h2 => ?_) (fun h2 => ?_)
  · refine KW.getI hs.up rfl rfl rfl rfl rfl rfl rfl rfl rfl rfl rfl rfl rfl rfl rfl rfl (by omega) (h2) (fun x hx => ?_)
    refine KW.getI hs'.up rfl rfl rfl rfl rfl rfl rfl rfl rfl rfl rfl rfl rfl rfl rfl rfl (by omega) (by omega) (fun y hy => ?_)
    have hx : xs[i]? = some x := hx
    have hy : ys[i]? = some y := hy
    refine KW.cndB rfl rfl (fun h3 => ?_) (fun h3 => ?_)
    · exact KW.ret rfl rfl rfl rfl (by rw [tv_false (fun hc => by subst hc; rw [hx] at hy; cases hy; simp at h3)]; rfl)
    have h3 : x = y := by simpa using h3
    refine KW.nxt rfl rfl (fun H' g => ⟨i + 1, ⟨by omega, upto hj (by rw [hx, hy, h3])⟩, by first | omega | (simp only; omega), ⟨rfl, rfl, rfl, congrArg (Value.int .i64) (inc64 (by omega)), trivial⟩, g⟩)
  · have : xs = ys := List.ext_getElem? fun j => by
      rcases Nat.lt_or_ge j i with h | h
      · exact hj j h
      · rw [List.getElem?_eq_none (by omega), List.getElem?_eq_none (by omega)]
    exact KW.ret rfl rfl rfl rfl (by rw [tv_true this]; rfl)
theorem l00Same {a c a' c'} {xs ys : List Int} (hl : xs.length ≤ 1048576) (hs : KI.Sl S H0 (.slice a xs.length c) xs) (hs' : KI.Sl S H0 (.slice a' ys.length c') ys) : Spec Try.prog S H0 278 [.slice a xs.length c, .slice a' ys.length c'] (fun v => v = .bool (tv (xs = ys))) := by
  refine Spec.of1 Try.func278 rfl (by kernel_rfl) rfl (fun H _ => ?_)
  refine KW.cndB rfl rfl (fun h => ?_) (fun h => ?_)
  · exact KW.ret rfl rfl rfl rfl (by rw [tv_false (fun hc => by rw [hc] at h; simp at h)]; rfl)
  have h : xs.length = ys.length := by simp at h; omega
  refine KW.lp rfl rfl (fun i : Nat => [(0, .slice a xs.length c), (1, .slice a' ys.length c'), (5, .int .i64 i)]) (fun i => i ≤ xs.length ∧ ∀ j, j < i → xs[j]? = ys[j]?) (fun i => xs.length - i) (0) (⟨by omega, fun j h => absurd h (by omega)⟩) ⟨rfl, rfl, rfl, trivial⟩ (fun i hi bE n => ?_)
  obtain ⟨hi, hj⟩ := hi
  refine KW.cnd rfl rfl (fun h2 => ?_) (fun h2 => ?_)
  · refine KW.getI hs.up rfl rfl rfl rfl rfl rfl rfl rfl rfl rfl rfl rfl rfl rfl rfl rfl (by omega) (h2) (fun x hx => ?_)
    refine KW.getI hs'.up rfl rfl rfl rfl rfl rfl rfl rfl rfl rfl rfl rfl rfl rfl rfl rfl (by omega) (by omega) (fun y hy => ?_)
    have hx : xs[i]? = some x := hx
    have hy : ys[i]? = some y := hy
    refine KW.cndB rfl rfl (fun h3 => ?_) (fun h3 => ?_)
    · exact KW.ret rfl rfl rfl rfl (by rw [tv_false (fun hc => by subst hc; rw [hx] at hy; cases hy; simp at h3)]; rfl)
    have h3 : x = y := by simpa using h3
    refine KW.nxt rfl rfl (fun H' g => ⟨i + 1, ⟨by omega, upto hj (by rw [hx, hy, h3])⟩, by first | omega | (simp only; omega), ⟨rfl, rfl, congrArg (Value.int .i64) (inc64 (by omega)), trivial⟩, g⟩)
  · have : xs = ys := List.ext_getElem? fun j => by
      rcases Nat.lt_or_ge j i with h | h
      · exact hj j h
      · rw [List.getElem?_eq_none (by omega), List.getElem?_eq_none (by omega)]
    exact KW.ret rfl rfl rfl rfl (by rw [tv_true this]; rfl)
theorem lie_at {p : Int} {vals : List Int} {lie : Int} {i : Nat} {x : Int} (hi : (lieOf p vals lie)[i]? = some x) : (i = 0 ∧ x = (vals.getD 0 0 + lie) % p) ∨ (0 < i ∧ vals[i]? = some x) := by
  cases vals with
  | nil => simp [lieOf] at hi
  | cons v vs =>
    cases i with
    | zero => exact .inl ⟨rfl, by simpa [lieOf] using hi.symm⟩
    | succ i => exact .inr ⟨by omega, by simpa [lieOf] using hi⟩
theorem lied (h p c s : Int) (hp : PrimeP p) (lie : Int) (hlie : 0 ≤ lie ∧ lie ≤ p) {a1 c1 a2 c2 a3 c3 a4 c4 a5 c5} {n1 n2 n3 n4 : Nat} {vals : List Int} (hl : vals.length ≤ 1048576) (hv : Elems p vals) (hs : KI.Sl S H0 (.slice a5 vals.length c5) vals) :
    SpecM Try.prog S H0 120 [.agg #[.int .i64 h, .slice a1 n1 c1, .int .i64 p, .int .i64 c, .slice a2 n2 c2, .int .i64 s, .slice a3 n3 c3, .slice a4 n4 c4], .slice a5 vals.length c5, .int .i64 lie] (MkL (lieOf p vals lie)) := by
  refine SpecM.of1 Try.func120 rfl (by kernel_rfl) rfl (fun H _ => ?_)
  refine KW.fact (fun _ g => g.nle (H1 := H)) (fun hn0 => ?_)
  refine KW.callN1 rfl rfl rfl rfl rfl (cloneI hl hs.up) (fun v HA SA mA _ _ hv => ?_)
  obtain ⟨a6, c6, rfl, hA⟩ := hv
  refine KW.cnd rfl rfl (fun k1 => ?_) (fun k1 => ?_)
  · have k1 : 0 < vals.length := by have : (0 : Int) < vals.length := k1; omega
    obtain ⟨o, c7, b, e1, e2, e3, e4, e5, e6, e7⟩ := hA.ints (fun hx => by rw [hx] at k1; simp at k1)
    cases e1
    obtain ⟨ty, rw, cells⟩ := b
    obtain rfl : rw = true := e5
    obtain ⟨v0, hv0⟩ : ∃ v, vals[0]? = some v := ⟨vals[0], List.getElem?_eq_getElem k1⟩
    have hvd : vals.getD 0 0 = v0 := getD_of hv0
    have hvb := hv v0 (List.mem_of_getElem? hv0)
    have hp2 := hp.1
    have hp31 := hp.2.1
    have oS := (inferInstance : On (New _ HA.n) HA SA HA).st o e3
    refine KW.thaw o ⟨ty, true, cells⟩ oS.1 e4 ?_
    haveI : On (Low H.n) H (fun id => SA id ∧ id ≠ o) HA := On.thaw (fun id hid => by have : id < H.n := hid; have := e3.1; omega)
    refine KW.idx0 rfl rfl rfl rfl rfl rfl rfl rfl rfl (by omega) (by omega) ?_
    refine KW.ldT 1 rfl rfl rfl rfl rfl rfl (bload_at (e7 0 v0 hv0) rfl rfl) ?_
    refine KW.rem rfl rfl rfl rfl rfl rfl (by rw [wr (by omega) (by omega)]; omega) (by omega) ?_
    rw [wr (by omega) (by omega), ← hvd]
    refine KW.idx0 rfl rfl rfl rfl rfl rfl rfl rfl rfl (by omega) (by omega) ?_
    refine KW.st1 1 rfl rfl rfl rfl rfl rfl rfl rfl rfl rfl rfl rfl (by simp only; simp only at e6; omega) ?_
    refine KW.retM1 rfl rfl rfl rfl (fun H1 g => ?_)
    have hb := g.blk (j := 1) rfl
    have el : (lieOf p vals lie).length = vals.length := lie_len
    refine ⟨_, _, by rw [el]; rfl, ?_⟩
    refine mlI_of ⟨by have := e3.1; omega, hb.2⟩ hb.1 rfl (by rw [el]; exact e2) (by rw [el]; simp only [List.length_set]; exact e6) (fun i x hi => ?_)
    rcases lie_at hi with ⟨rfl, rfl⟩ | ⟨h0, h1⟩
    · show (cells.set 0 (Value.int .i64 _))[0]? = _
      rw [List.getElem?_set_self (by simp only at e6; omega)]
    · show (cells.set 0 (Value.int .i64 _))[i]? = _
      rw [List.getElem?_set_ne (by omega)]; exact e7 i x h1
  · have hx : vals = [] := List.eq_nil_of_length_eq_zero (by have k1 : ¬ (0 : Int) < vals.length := k1; omega)
    subst hx
    refine KW.retM1 rfl rfl rfl rfl (fun H1 g => ⟨_, _, rfl, g.made (by omega) hA⟩)
theorem l08Lying (p : Int) (hp : PrimeP p) (lie : Int) (hlie : 0 ≤ lie ∧ lie ≤ p) {a5 c5} {vals : List Int} (hl : vals.length ≤ 1048576) (hv : Elems p vals) (hs : KI.Sl S H0 (.slice a5 vals.length c5) vals) :
    SpecM Try.prog S H0 213 [.int .i64 p, .slice a5 vals.length c5, .int .i64 lie] (MkL (lieOf p vals lie)) := by
  refine SpecM.of1 Try.func213 rfl (by kernel_rfl) rfl (fun H _ => ?_)
  refine KW.fact (fun _ g => g.nle (H1 := H)) (fun hn0 => ?_)
  refine KW.callN1 rfl rfl rfl rfl rfl (l00Own hl hs.up) (fun v HA SA mA _ _ hv => ?_)
  obtain ⟨a6, c6, rfl, hA⟩ := hv
  refine KW.cnd rfl rfl (fun k1 => ?_) (fun k1 => ?_)
  · have k1 : 0 < vals.length := by have : (0 : Int) < vals.length := k1; omega
    obtain ⟨o, c7, b, e1, e2, e3, e4, e5, e6, e7⟩ := hA.ints (fun hx => by rw [hx] at k1; simp at k1)
    cases e1
    obtain ⟨ty, rw, cells⟩ := b
    obtain rfl : rw = true := e5
    obtain ⟨v0, hv0⟩ : ∃ v, vals[0]? = some v := ⟨vals[0], List.getElem?_eq_getElem k1⟩
    have hvd : vals.getD 0 0 = v0 := getD_of hv0
    have hvb := hv v0 (List.mem_of_getElem? hv0)
    have hp2 := hp.1
    have hp31 := hp.2.1
    have oS := (inferInstance : On (New _ HA.n) HA SA HA).st o e3
    refine KW.thaw o ⟨ty, true, cells⟩ oS.1 e4 ?_
    haveI : On (Low H.n) H (fun id => SA id ∧ id ≠ o) HA := On.thaw (fun id hid => by have : id < H.n := hid; have := e3.1; omega)
    refine KW.idx0 rfl rfl rfl rfl rfl rfl rfl rfl rfl (by omega) (by omega) ?_
    refine KW.ldT 0 rfl rfl rfl rfl rfl rfl (bload_at (e7 0 v0 hv0) rfl rfl) ?_
    refine KW.rem rfl rfl rfl rfl rfl rfl (by rw [wr (by omega) (by omega)]; omega) (by omega) ?_
    rw [wr (by omega) (by omega), ← hvd]
    refine KW.idx0 rfl rfl rfl rfl rfl rfl rfl rfl rfl (by omega) (by omega) ?_
    refine KW.st1 0 rfl rfl rfl rfl rfl rfl rfl rfl rfl rfl rfl rfl (by simp only; simp only at e6; omega) ?_
    refine KW.retM1 rfl rfl rfl rfl (fun H1 g => ?_)
    have hb := g.blk (j := 0) rfl
    have el : (lieOf p vals lie).length = vals.length := lie_len
    refine ⟨_, _, by rw [el]; rfl, ?_⟩
    refine mlI_of ⟨by have := e3.1; omega, hb.2⟩ hb.1 rfl (by rw [el]; exact e2) (by rw [el]; simp only [List.length_set]; exact e6) (fun i x hi => ?_)
    rcases lie_at hi with ⟨rfl, rfl⟩ | ⟨h0, h1⟩
    · show (cells.set 0 (Value.int .i64 _))[0]? = _
      rw [List.getElem?_set_self (by simp only at e6; omega)]
    · show (cells.set 0 (Value.int .i64 _))[i]? = _
      rw [List.getElem?_set_ne (by omega)]; exact e7 i x h1
  · have hx : vals = [] := List.eq_nil_of_length_eq_zero (by have k1 : ¬ (0 : Int) < vals.length := k1; omega)
    subst hx
    refine KW.retM1 rfl rfl rfl rfl (fun H1 g => ⟨_, _, rfl, g.made (by omega) hA⟩)
end
end Go.Proofs.Ytijmkfnmdhpakaa.Am
/- Dual ranks, plain: they are ranks if none is too great. No condition beyond each lemma's own. -/
set_option linter.unusedVariables false
namespace Go.Proofs.Ytijmkfnmdhpakaa.Am
open Go Go.RowKit
def dif (a b : Nat) : Nat := a ^^^ (a &&& b)
theorem dif_bit (a b i : Nat) : (dif a b).testBit i = (a.testBit i && !b.testBit i) := by
  unfold dif
  rw [Nat.testBit_xor, Nat.testBit_and]
  cases a.testBit i <;> cases b.testBit i <;> rfl
theorem dif_lt {a b m : Nat} (ha : a < 2 ^ m) : dif a b < 2 ^ m := by
  refine Nat.lt_pow_two_of_testBit _ fun i hi => ?_
  rw [dif_bit, Nat.testBit_lt_two_pow (Nat.lt_of_lt_of_le ha (Nat.pow_le_pow_right (by decide) hi))]; rfl
theorem dif_or (A a b : Nat) : dif A (a ||| b) = dif A a &&& dif A b := by
  apply Nat.eq_of_testBit_eq; intro i
  rw [Nat.testBit_and, dif_bit, dif_bit, dif_bit, Nat.testBit_or]
  cases A.testBit i <;> cases a.testBit i <;> cases b.testBit i <;> rfl
theorem dif_and (A a b : Nat) : dif A (a &&& b) = dif A a ||| dif A b := by
  apply Nat.eq_of_testBit_eq; intro i
  rw [Nat.testBit_or, dif_bit, dif_bit, dif_bit, Nat.testBit_and]
  cases A.testBit i <;> cases a.testBit i <;> cases b.testBit i <;> rfl
theorem dif_zero (A : Nat) : dif A 0 = A := by
  apply Nat.eq_of_testBit_eq; intro i
  rw [dif_bit]; simp
/-- The sum of the single ranks of the holders below n in a set. -/
def sumH (l : List Int) (c : Nat) : Nat → Int
  | 0 => 0
  | n + 1 => sumH l c n + (if c.testBit n = true then l.getD (2 ^ n) 0 else 0)
theorem sumH_mod (l : List Int) (a b : Nat) : ∀ n, sumH l a n + sumH l b n = sumH l (a ||| b) n + sumH l (a &&& b) n
  | 0 => rfl
  | n + 1 => by
    have h := sumH_mod l a b n
    simp only [sumH, Nat.testBit_or, Nat.testBit_and]
    cases a.testBit n <;> cases b.testBit n <;> simp <;> omega
theorem sumH_zero (l : List Int) : ∀ n, sumH l 0 n = 0
  | 0 => rfl
  | n + 1 => by simp only [sumH, sumH_zero l n, Nat.zero_testBit]; rfl
section
variable {l : List Int} {m : Nat}
theorem getD_nonneg (hw : Within l) (i : Nat) : 0 ≤ l.getD i 0 := by
  rcases Nat.lt_or_ge i l.length with h | h
  · exact (hw i h).1
  · rw [List.getD_eq_getElem?_getD, List.getElem?_eq_none h]; exact Int.le_refl _
theorem meets_at (hM : Meets l) {a b : Nat} (ha : a < l.length) (hb : b < l.length) : l.getD (a ||| b) 0 + l.getD (a &&& b) 0 ≤ l.getD a 0 + l.getD b 0 := by
  have := hM a ha b hb
  unfold Bad at this
  omega
/-- Added holders raise a rank by no more than their own. -/
theorem rank_add (hl : l.length = 2 ^ m) (hw : Within l) (hM : Meets l) {z c : Nat} (hz : z < 2 ^ m) (hc : c < 2 ^ m) : ∀ n, n ≤ m → l.getD (z ||| c % 2 ^ n) 0 ≤ l.getD z 0 + sumH l c n
  | 0, _ => by
    have : c % 2 ^ 0 = 0 := by rw [Nat.pow_zero]; exact Nat.mod_one c
    rw [this, Nat.or_zero]; simp [sumH]
  | n + 1, hn => by
    have ih := rank_add hl hw hM hz hc n (by omega)
    have hlt : c % 2 ^ n < 2 ^ m := Nat.lt_of_le_of_lt (Nat.mod_le _ _) hc
    have hpn : 2 ^ n < 2 ^ m := Nat.pow_lt_pow_right (by decide) (by omega)
    by_cases hb : c.testBit n = true
    · have e : z ||| c % 2 ^ (n + 1) = (z ||| c % 2 ^ n) ||| 2 ^ n := by
        apply Nat.eq_of_testBit_eq; intro i
        rw [Nat.testBit_or, Nat.testBit_or, Nat.testBit_or, Nat.testBit_mod_two_pow, Nat.testBit_mod_two_pow, Nat.testBit_two_pow]
        by_cases h1 : n = i
        · subst h1; simp [hb]
        · by_cases h2 : i < n
          · have : i < n + 1 := by omega
            simp [h2, this, h1]
          · have : ¬ i < n + 1 := by omega
            simp [h2, this, h1]
      have h1 := meets_at hM (a := z ||| c % 2 ^ n) (b := 2 ^ n) (by rw [hl]; exact Nat.or_lt_two_pow hz hlt) (by rw [hl]; exact hpn)
      have h2 := getD_nonneg hw ((z ||| c % 2 ^ n) &&& 2 ^ n)
      rw [e]
      simp only [sumH, if_pos hb]
      omega
    · have e : c % 2 ^ (n + 1) = c % 2 ^ n := by
        apply Nat.eq_of_testBit_eq; intro i
        rw [Nat.testBit_mod_two_pow, Nat.testBit_mod_two_pow]
        by_cases h1 : n = i
        · subst h1; simp at hb; simp [hb]
        · by_cases h2 : i < n
          · have : i < n + 1 := by omega
            simp [h2, this]
          · have : ¬ i < n + 1 := by omega
            simp [h2, this]
      rw [e]
      simp only [sumH, if_neg hb]
      omega
theorem opens_up {gs : List (List Int)} {a b : Nat} (h : Opens gs a) (hab : a &&& b = a) : Opens gs b := by
  obtain ⟨g, hg, h1⟩ := h
  refine ⟨g, hg, ?_⟩
  apply Nat.eq_of_testBit_eq; intro i
  have h2 := congrArg (fun x => x.testBit i) h1
  have h3 := congrArg (fun x => x.testBit i) hab
  simp only [Nat.testBit_and] at h2 h3 ⊢
  revert h2 h3
  cases a.testBit i <;> cases b.testBit i <;> cases (bitsOf g).testBit i <;> simp
end
/-- What the unit adds for a set that does not open. -/
noncomputable def uO (u : Int) (gs : List (List Int)) (x : Nat) : Int := if tv (Opens gs x) = true then 0 else u
noncomputable def dualAt (l : List Int) (u : Int) (gs : List (List Int)) (m c : Nat) : Int := l.getD (dif (2 ^ m - 1) c) 0 - l.getD (2 ^ m - 1) 0 + sumH l c m + uO u gs (dif (2 ^ m - 1) c)
noncomputable def dualL (l : List Int) (u : Int) (gs : List (List Int)) (m n : Nat) : List Int := (List.range n).map (dualAt l u gs m)
theorem dualL_len (l : List Int) (u : Int) (gs : List (List Int)) (m n : Nat) : (dualL l u gs m n).length = n := by simp [dualL]
theorem dualL_at {l : List Int} {u : Int} {gs : List (List Int)} {m n i : Nat} (h : i < n) : (dualL l u gs m n).getD i 0 = dualAt l u gs m i := by
  rw [List.getD_eq_getElem?_getD]
  simp [dualL, h]
section
variable {l : List Int} {u : Int} {gs : List (List Int)} {m : Nat}
theorem uO_mono {a b : Nat} (hu : 0 ≤ u) (hab : a &&& b = a) : uO u gs b ≤ uO u gs a := by
  unfold uO
  by_cases ha : Opens gs a
  · rw [tv_true ha, tv_true (opens_up ha hab)]; exact Int.le_refl _
  · rw [tv_false ha]
    by_cases hb : Opens gs b
    · rw [tv_true hb]; simpa using hu
    · rw [tv_false hb]; exact Int.le_refl _
theorem dual_mono (hl : l.length = 2 ^ m) (hw : Within l) (hM : Meets l) (hu : 0 ≤ u) {a b : Nat} (ha : a < 2 ^ m) (hb : b < 2 ^ m) (hab : a &&& b = a) : dualAt l u gs m a ≤ dualAt l u gs m b := by
  have hA : 2 ^ m - 1 < 2 ^ m := by have := Nat.two_pow_pos m; omega
  have full : ∀ i, (2 ^ m - 1).testBit i = decide (i < m) := fun i => Nat.testBit_two_pow_sub_one m i
  -- what stands outside a is what stands outside b, with d = b without a
  have e1 : dif (2 ^ m - 1) b ||| dif b a % 2 ^ m = dif (2 ^ m - 1) a := by
    have hd : dif b a % 2 ^ m = dif b a := Nat.mod_eq_of_lt (dif_lt hb)
    rw [hd]
    apply Nat.eq_of_testBit_eq; intro i
    have h3 := congrArg (fun x => x.testBit i) hab
    have h4 : i ≥ m → b.testBit i = false := fun hi => Nat.testBit_lt_two_pow (Nat.lt_of_lt_of_le hb (Nat.pow_le_pow_right (by decide) hi))
    simp only [Nat.testBit_and, Nat.testBit_or, dif_bit, full] at h3 ⊢
    by_cases hi : i < m
    · revert h3
      cases a.testBit i <;> cases b.testBit i <;> simp [hi]
    · rw [h4 (by omega)] at h3 ⊢
      revert h3
      cases a.testBit i <;> simp [hi]
  have h1 := rank_add hl hw hM (z := dif (2 ^ m - 1) b) (c := dif b a) (dif_lt hA) (dif_lt hb) m (Nat.le_refl _)
  rw [e1] at h1
  -- the single ranks
  have e2 : sumH l a m + sumH l (dif b a) m = sumH l b m := by
    have h := sumH_mod l a (dif b a) m
    have e3 : a ||| dif b a = b := by
      apply Nat.eq_of_testBit_eq; intro i
      have h3 := congrArg (fun x => x.testBit i) hab
      simp only [Nat.testBit_and, Nat.testBit_or, dif_bit] at h3 ⊢
      revert h3
      cases a.testBit i <;> cases b.testBit i <;> simp
    have e4 : a &&& dif b a = 0 := by
      apply Nat.eq_of_testBit_eq; intro i
      simp only [Nat.testBit_and, dif_bit, Nat.zero_testBit]
      cases a.testBit i <;> cases b.testBit i <;> rfl
    rw [e3, e4, sumH_zero] at h
    omega
  have h2 := uO_mono (gs := gs) hu (a := dif (2 ^ m - 1) b) (b := dif (2 ^ m - 1) a) (by
    apply Nat.eq_of_testBit_eq; intro i
    have h3 := congrArg (fun x => x.testBit i) hab
    simp only [Nat.testBit_and, dif_bit] at h3 ⊢
    revert h3
    cases a.testBit i <;> cases b.testBit i <;> cases (2 ^ m - 1).testBit i <;> simp)
  unfold dualAt
  omega
theorem dual_meets (hl : l.length = 2 ^ m) (hM : Meets l) (hu : 0 ≤ u) (hfit : ∀ a, a < l.length → ∀ b, b < l.length → ¬ Mis l u gs a b) {a b : Nat} (ha : a < 2 ^ m) (hb : b < 2 ^ m) :
    dualAt l u gs m (a ||| b) + dualAt l u gs m (a &&& b) ≤ dualAt l u gs m a + dualAt l u gs m b := by
  have hA : 2 ^ m - 1 < 2 ^ m := by have := Nat.two_pow_pos m; omega
  unfold dualAt
  rw [dif_or, dif_and]
  have hs := sumH_mod l a b m
  have hX : dif (2 ^ m - 1) a < l.length := by rw [hl]; exact dif_lt hA
  have hY : dif (2 ^ m - 1) b < l.length := by rw [hl]; exact dif_lt hA
  generalize dif (2 ^ m - 1) a = X at *
  generalize dif (2 ^ m - 1) b = Y at *
  have h1 := meets_at hM hX hY
  have m1 := uO_mono (gs := gs) hu (a := X &&& Y) (b := X) (by apply Nat.eq_of_testBit_eq; intro i; simp only [Nat.testBit_and]; cases X.testBit i <;> cases Y.testBit i <;> rfl)
  have m2 := uO_mono (gs := gs) hu (a := X) (b := X ||| Y) (by apply Nat.eq_of_testBit_eq; intro i; simp only [Nat.testBit_and, Nat.testBit_or]; cases X.testBit i <;> cases Y.testBit i <;> rfl)
  have m3 := uO_mono (gs := gs) hu (a := X &&& Y) (b := Y) (by apply Nat.eq_of_testBit_eq; intro i; simp only [Nat.testBit_and]; cases X.testBit i <;> cases Y.testBit i <;> rfl)
  have m4 := uO_mono (gs := gs) hu (a := Y) (b := X ||| Y) (by apply Nat.eq_of_testBit_eq; intro i; simp only [Nat.testBit_and, Nat.testBit_or]; cases X.testBit i <;> cases Y.testBit i <;> rfl)
  have v : ∀ z, (uO u gs z = 0 ∧ Opens gs z) ∨ (uO u gs z = u ∧ ¬ Opens gs z) := fun z => by
    unfold uO
    by_cases hz : Opens gs z
    · rw [tv_true hz]; exact .inl ⟨rfl, hz⟩
    · rw [tv_false hz]; exact .inr ⟨rfl, hz⟩
  have hf := hfit X hX Y hY
  rcases v X with ⟨x1, x2⟩ | ⟨x1, x2⟩ <;> rcases v Y with ⟨y1, y2⟩ | ⟨y1, y2⟩ <;> rcases v (X &&& Y) with ⟨z1, z2⟩ | ⟨z1, z2⟩ <;> first
    | omega
    | (have : ¬ (l.getD X 0 + l.getD Y 0 < l.getD (X ||| Y) 0 + l.getD (X &&& Y) 0 + u) := fun hc => hf (.inr ⟨x2, y2, z2, hc⟩)
       omega)
/-- Dual ranks are ranks if none is too great. -/
theorem dual_ok (hr : OkR m u l) (hop : Opens gs (2 ^ m - 1)) (hfit : ∀ a, a < l.length → ∀ b, b < l.length → ¬ Mis l u gs a b) : OkR m u (dualL l u gs m (2 ^ m)) ↔ ∀ x ∈ dualL l u gs m (2 ^ m), x ≤ 100000 := by
  obtain ⟨h1, h2, h3, h4, h5, h6⟩ := hr
  have h3 : l.length = 2 ^ m := by simpa using h3
  have hpos := Nat.two_pow_pos m
  have len := dualL_len l u gs m (2 ^ m)
  have z0 : dualAt l u gs m 0 = 0 := by
    unfold dualAt uO
    rw [dif_zero, sumH_zero, tv_true hop]; simp
  have mono := fun {a b : Nat} (ha : a < 2 ^ m) (hb : b < 2 ^ m) (hab : a &&& b = a) => dual_mono (gs := gs) h3 h5 h6 (by omega : 0 ≤ u) ha hb hab
  constructor
  · intro h x hx
    obtain ⟨i, hi⟩ := List.getElem?_of_mem hx
    have hil := (List.getElem?_eq_some_iff.1 hi).1
    have := (h.2.2.2.2.1 i hil).2
    rw [getD_of hi] at this
    exact this
  · intro h
    refine ⟨h1, h2, by simpa using len, by rw [dualL_at hpos, z0], fun i hi => ?_, fun a ha b hb hbad => ?_⟩
    · rw [len] at hi
      have h7 := mono hpos hi (Nat.zero_and i)
      rw [z0] at h7
      rw [dualL_at hi]
      refine ⟨h7, h _ ?_⟩
      rw [← dualL_at (l := l) (u := u) (gs := gs) (m := m) hi, List.getD_eq_getElem?_getD, List.getElem?_eq_getElem (by omega)]
      exact List.getElem_mem _
    · rw [len] at ha hb
      have hab := Nat.or_lt_two_pow ha hb
      have hcd := Nat.and_lt_two_pow a hb
      unfold Bad at hbad
      rw [dualL_at ha, dualL_at hb, dualL_at hab, dualL_at hcd] at hbad
      have h7 := dual_meets h3 h6 (by omega : 0 ≤ u) hfit ha hb
      rcases hbad with ⟨h8, h9⟩ | h8
      · have := mono ha hb h8; omega
      · omega
end
end Go.Proofs.Ytijmkfnmdhpakaa.Am
/- What the laws' own functions do at Ranks: sizes, copies, equality, marks. Each holds under its own conditions. -/
set_option linter.unusedVariables false
set_option maxRecDepth 20000
namespace Go.Proofs.Ytijmkfnmdhpakaa.Am
open Go Go.RowKit Go.Proofs
abbrev T_Ranks : Type := (Int) × (Int) × (List Int)
abbrev K_Ranks : Kn T_Ranks := Kn.pair (KI) (Kn.pair (KI) (K_Int64S))
abbrev M_Ranks : Kn T_Ranks := Kn.mp (KI) (Kn.mp (KI) (M_Int64S))
theorem le_Ranks : KLe M_Ranks K_Ranks := KLe.pair ((KLe.refl KI)) (KLe.pair ((KLe.refl KI)) (le_Int64S))
abbrev B_Ranks (x : T_Ranks) : Prop := I64 x.1 ∧ I64 x.2.1 ∧ B_Int64S x.2.2
abbrev W_Ranks (x : T_Ranks) : Prop := I64 x.1 ∧ I64 x.2.1 ∧ W_Int64S x.2.2
abbrev sz_Ranks (x : T_Ranks) : Nat := sz_Int64S x.2.2
abbrev mk_Ranks (k : Int) (x : T_Ranks) : T_Ranks := (x.1, x.2.1, mk_Int64S (k) x.2.2)
theorem size_Ranks {x : T_Ranks} (hB : B_Ranks x) : sz_Ranks x ≤ 1048576 := by have := size_Int64S hB.2.2; simp only [sz_Ranks]; omega
section
variable {S : Ids} {H0 : AH} {W : Ids} {left k : Int}
theorem form_Ranks {x : T_Ranks} {cs : List Value} (h : K_Ranks.R S H0 x cs) : ∃ a1 c1, cs = [.int .i64 x.1, .int .i64 x.2.1, .slice a1 x.2.2.length c1] := by
  obtain ⟨e0, d0, rfl, h0, h0_⟩ := h
  obtain ⟨e1, d1, rfl, h1, h1_⟩ := h0_
  have h2 := h1_
  obtain rfl := KI_of h0
  obtain rfl := KI_of h1
  obtain ⟨a1, c1, rfl⟩ := slform h2
  exact ⟨a1, c1, rfl⟩
theorem formM_Ranks {x : T_Ranks} {cs : List Value} (h : M_Ranks.R S H0 x cs) : ∃ a1 c1, cs = [.int .i64 x.1, .int .i64 x.2.1, .slice a1 x.2.2.length c1] := form_Ranks (le_Ranks.2 _ _ _ _ h)
theorem split_Ranks {x : T_Ranks} {cs : List Value} (h : K_Ranks.R S H0 x cs) : ∃ a1 c1, cs = [.int .i64 x.1, .int .i64 x.2.1, .slice a1 x.2.2.length c1] ∧ K_Int64S.R S H0 x.2.2 [.slice a1 x.2.2.length c1] := by
  obtain ⟨e0, d0, rfl, h0, h0_⟩ := h
  obtain ⟨e1, d1, rfl, h1, h1_⟩ := h0_
  have h2 := h1_
  obtain rfl := KI_of h0
  obtain rfl := KI_of h1
  obtain ⟨a1, c1, rfl⟩ := slform h2
  exact ⟨a1, c1, rfl, h2⟩
theorem splitM_Ranks {x : T_Ranks} {cs : List Value} (h : M_Ranks.R S H0 x cs) : ∃ (a1 : Option Addr) (c1 : Nat) (X2 : Ids), cs = [.int .i64 x.1, .int .i64 x.2.1, .slice a1 x.2.2.length c1] ∧ M_Int64S.R X2 H0 x.2.2 [.slice a1 x.2.2.length c1] ∧ (∀ id, X2 id → S id) := by
  obtain ⟨e0, d0, X0, Y0, rfl, i0, j0, q0, h0, h0_⟩ := h
  obtain ⟨e1, d1, X1, Y1, rfl, i1, j1, q1, h1, h1_⟩ := h0_
  have h2 := h1_
  obtain rfl := KI_of h0
  obtain rfl := KI_of h1
  obtain ⟨a1, c1, rfl⟩ := mlform h2
  exact ⟨a1, c1, Y1, rfl, h2, fun _ p => j0 _ (j1 _ p)⟩
theorem eq_Ranks {x : T_Ranks} {cs cs' : List Value} (hB : B_Ranks x) (h : K_Ranks.R S H0 x cs) (h' : K_Ranks.R S H0 x cs') : Spec Try.prog S H0 33 [.agg cs.toArray, .agg cs'.toArray] (fun v => v = .bool true) := by
  obtain ⟨a1, c1, rfl, h2⟩ := split_Ranks h
  obtain ⟨b1, d1, rfl, k2⟩ := split_Ranks h'
  refine Spec.of1 Try.func33 rfl (by kernel_rfl) rfl (fun H _ => ?_)
  refine KW.cF rfl rfl (by first | (simp; done) | decide) ?_
  refine KW.cF rfl rfl (by first | (simp; done) | decide) ?_
  refine KW.callE rfl rfl rfl rfl rfl (eq_Int64S hB.2.2 (On.R h2) (On.R k2)) (fun _ _ => ?_)
  refine KW.cF rfl rfl (by first | (simp; done) | decide) ?_
  exact KW.ret rfl rfl rfl rfl (rfl)
theorem mark_Ranks {x : T_Ranks} {cs : List Value} (hB : B_Ranks x) (hk : Mk k (sz_Ranks x)) (hW : ∀ id, W id → S id) (h : M_Ranks.R W H0 x cs) : SpecW Try.prog S H0 W 34 [.agg cs.toArray, .int .i64 k] (fun n v H1 => v = .int .i64 (k + (sz_Ranks x : Nat)) ∧ M_Ranks.R W H1 (mk_Ranks k x) cs) := by
  obtain ⟨a1, c1, X2, rfl, h2, i2⟩ := splitM_Ranks h
  refine SpecW.of0 Try.func34 rfl (by kernel_rfl) rfl (fun H hfin hfz => ?_)
  have F2 : Fk M_Int64S X2 (Low H.n) H _ _ := ⟨(M_Int64S).same (fun id hid => (hfz id (hW id (i2 id hid))).2) h2, fun id hid => (hfz id (hW id (i2 id hid))).1⟩
  have T : ∀ id, id < H.n → Low H.n id ∧ (¬ W id → H.m id = H.m id) := fun id hid => ⟨hid, fun _ => rfl⟩
  refine KW.callW F2.i rfl rfl rfl rfl rfl (mark_Int64S hB.2.2 (k := k) (by have := hk.1; have := hk.2; simp only [sz_Ranks] at this; constructor <;> omega) F2.i F2.r) (fun v H2 S2 m2 t2 w2 hv => ?_)
  obtain ⟨rfl, g2⟩ := hv
  have F2 : Fk M_Int64S X2 S2 H2 _ _ := ⟨g2, fun id hid => (t2 id (F2.i id hid)).1⟩
  have T : ∀ id, id < H.n → S2 id ∧ (¬ W id → H2.m id = H.m id) := fun id hid => ⟨(t2 id (T id hid).1).1, fun hw => ((t2 id (T id hid).1).2 (fun o => hw (i2 id o))).trans ((T id hid).2 hw)⟩
  refine KW.retW rfl rfl rfl rfl (fun H1 g => by have := g.n_; omega) (fun id hid hw => ⟨(T id hid).1, (T id hid).2 hw⟩) (fun H1 g => ?_)
  refine ⟨rfl, ?_⟩
  have G2 := (M_Int64S).same (H' := H1) (fun id hid => (g.froz id (F2.i id hid)).2) F2.r
  have k2 : M_Int64S.R (fun id => X2 id) H1 (mk_Int64S (k) x.2.2) [.slice a1 x.2.2.length c1] := G2
  have k1 : (Kn.mp (KI) (M_Int64S)).R (fun id => X2 id) H1 (x.2.1, (mk_Int64S (k) x.2.2)) [.int .i64 x.2.1, .slice a1 x.2.2.length c1] := mpR (X := None_) (show KI.R None_ H1 _ [.int .i64 x.2.1] from rfl) k2 (fun _ p => p.elim) (fun _ p => p) (fun _ p _ => p.elim)
  have k0 : (Kn.mp (KI) (Kn.mp (KI) (M_Int64S))).R (fun id => X2 id) H1 (x.1, x.2.1, (mk_Int64S (k) x.2.2)) [.int .i64 x.1, .int .i64 x.2.1, .slice a1 x.2.2.length c1] := mpR (X := None_) (show KI.R None_ H1 _ [.int .i64 x.1] from rfl) k1 (fun _ p => p.elim) (fun _ p => p) (fun _ p _ => p.elim)
  exact (M_Ranks).more (fun id p => i2 id p) k0
theorem held_Ranks {x : T_Ranks} {cs : List Value} (hB : B_Ranks x) (hk : Mk k (sz_Ranks x)) (h : K_Ranks.R S H0 (mk_Ranks k x) cs) : Spec Try.prog S H0 35 [.agg cs.toArray, .int .i64 k] (fun v => v = .int .i64 (k + (sz_Ranks x : Nat))) := by
  obtain ⟨a1, c1, rfl, h2⟩ := split_Ranks h
  refine Spec.of1 Try.func35 rfl (by kernel_rfl) rfl (fun H _ => ?_)
  refine KW.callE rfl rfl rfl rfl rfl (held_Int64S hB.2.2 (k := k) (by have := hk.1; have := hk.2; simp only [sz_Ranks] at this; constructor <;> omega) (On.R h2)) (fun _ _ => ?_)
  refine KW.no rfl rfl (by have := hk.1; omega) ?_
  exact KW.ret rfl rfl rfl rfl (rfl)
end
end Go.Proofs.Ytijmkfnmdhpakaa.Am
/- Contracts: DualRanks, of the program and of the reference. Each holds under its own conditions. -/
set_option linter.unusedVariables false
set_option linter.unusedSimpArgs false
set_option maxRecDepth 20000
namespace Go.Proofs.Ytijmkfnmdhpakaa.Am
open Go Go.RowKit Go.Proofs
theorem andnot_nat (a b i : Nat) : ((BitVec.ofNat 64 a &&& ~~~BitVec.ofNat 64 b).toNat).testBit i = (decide (i < 64) && (a.testBit i && !b.testBit i)) := by
  rw [BitVec.testBit_toNat, BitVec.getLsbD_and, BitVec.getLsbD_not, BitVec.getLsbD_ofNat, BitVec.getLsbD_ofNat]
  by_cases h : i < 64 <;> simp [h]
theorem dif_small {a b : Nat} (ha : a < 4611686018427387904) : dif a b < 4611686018427387904 := dif_lt (m := 62) ha
theorem andnot_eq {a b : Nat} (ha : a < 4611686018427387904) : (BitVec.ofNat 64 a &&& ~~~BitVec.ofNat 64 b).toNat = dif a b := by
  apply Nat.eq_of_testBit_eq; intro i
  rw [andnot_nat, dif_bit]
  by_cases h : i < 64
  · simp [h]
  · have : a.testBit i = false := Nat.testBit_lt_two_pow (Nat.lt_of_lt_of_le (show a < 2 ^ 62 from ha) (Nat.pow_le_pow_right (by decide) (by omega)))
    simp [h, this]
theorem andnot_u64 {a b : Nat} (ha : a < 4611686018427387904) (hb : b < 4611686018427387904) : IntKind.u64.wrap ((BitVec.ofInt IntKind.u64.bits (a : Int) &&& ~~~BitVec.ofInt IntKind.u64.bits (b : Int)).toNat : Int) = ((dif a b : Nat) : Int) := by
  show IntKind.u64.wrap ((BitVec.ofInt 64 (a : Int) &&& ~~~BitVec.ofInt 64 (b : Int)).toNat : Int) = _
  rw [bv_nat ha, bv_nat hb, andnot_eq ha]
  have := dif_small (b := b) ha
  exact wru (by omega) (by omega)
theorem andnot_i64 {a b : Nat} (ha : a < 4611686018427387904) (hb : b < 4611686018427387904) : IntKind.i64.wrap ((BitVec.ofInt IntKind.i64.bits (a : Int) &&& ~~~BitVec.ofInt IntKind.i64.bits (b : Int)).toNat : Int) = ((dif a b : Nat) : Int) := by
  show IntKind.i64.wrap ((BitVec.ofInt 64 (a : Int) &&& ~~~BitVec.ofInt 64 (b : Int)).toNat : Int) = _
  rw [bv_nat ha, bv_nat hb, andnot_eq ha]
  have := dif_small (b := b) ha
  exact wr (by omega) (by omega)
/-- The sum of the single ranks of some holders. -/
def sumL (l : List Int) : List Int → Int
  | [] => 0
  | h :: hs => l.getD (2 ^ h.toNat) 0 + sumL l hs
theorem sumL_app (l : List Int) (xs : List Int) (h : Int) : sumL l (xs ++ [h]) = sumL l xs + l.getD (2 ^ h.toNat) 0 := by
  induction xs with
  | nil => simp [sumL]
  | cons x xs ih => simp only [List.cons_append, sumL, ih]; omega
theorem sumL_hold (l : List Int) (c : Nat) : ∀ n, sumL l (hold c n) = sumH l c n
  | 0 => rfl
  | n + 1 => by
    rw [hold_next]
    simp only [sumH]
    by_cases h : c.testBit n = true
    · rw [if_pos h, if_pos h, sumL_app, sumL_hold l c n]; rfl
    · rw [if_neg h, if_neg h, sumL_hold l c n]; omega
theorem hold_mem {c n : Nat} {x : Int} (h : x ∈ hold c n) : ∃ i : Nat, x = i ∧ i < n ∧ c.testBit i = true := by
  unfold hold at h
  obtain ⟨i, hi, rfl⟩ := List.mem_map.1 h
  obtain ⟨h1, h2⟩ := List.mem_filter.1 hi
  exact ⟨i, rfl, List.mem_range.1 h1, h2⟩
theorem sumL_in {l : List Int} (hw : Within l) : ∀ xs : List Int, 0 ≤ sumL l xs ∧ sumL l xs ≤ 100000 * xs.length
  | [] => by simp [sumL]
  | x :: xs => by
    have h := sumL_in hw xs
    have h1 : 0 ≤ l.getD (2 ^ x.toNat) 0 ∧ l.getD (2 ^ x.toNat) 0 ≤ 100000 := by
      rcases Nat.lt_or_ge (2 ^ x.toNat) l.length with h | h
      · exact hw _ h
      · rw [List.getD_eq_getElem?_getD, List.getElem?_eq_none h]; show 0 ≤ (0 : Int) ∧ (0 : Int) ≤ 100000; omega
    simp only [sumL, List.length_cons]
    omega
theorem getD_in {l : List Int} (hw : Within l) (i : Nat) : 0 ≤ l.getD i 0 ∧ l.getD i 0 ≤ 100000 := by
  rcases Nat.lt_or_ge i l.length with h | h
  · exact hw _ h
  · rw [List.getD_eq_getElem?_getD, List.getElem?_eq_none h]; show 0 ≤ (0 : Int) ∧ (0 : Int) ≤ 100000; omega
theorem sumL_take {l xs : List Int} {i : Nat} {x : Int} (h : xs[i]? = some x) : sumL l (xs.take (i + 1)) = sumL l (xs.take i) + l.getD (2 ^ x.toNat) 0 := by
  obtain ⟨hi, rfl⟩ := List.getElem?_eq_some_iff.1 h
  rw [List.take_succ_eq_append_getElem hi, sumL_app]
theorem sumH_in {l : List Int} (hw : Within l) (c : Nat) : ∀ n, 0 ≤ sumH l c n ∧ sumH l c n ≤ 100000 * n
  | 0 => by simp [sumH]
  | n + 1 => by
    have h := sumH_in hw c n
    have h1 := getD_in hw (2 ^ n)
    simp only [sumH]
    split <;> omega
theorem ranksM {X : Ids} {H : AH} {v : Value} {m u : Int} {xs : List Int} (h : KI.Ml X H v xs) : M_Ranks.R X H (m, u, xs) [.int .i64 m, .int .i64 u, v] :=
  mpR (X := None_) (cs := [.int .i64 m]) (show KI.R None_ H m _ from rfl) (mpR (X := None_) (cs := [.int .i64 u]) (show KI.R None_ H u _ from rfl) (ml1' h) (fun _ p => p.elim) (fun _ p => p) (fun _ p _ => p.elim)) (fun _ p => p.elim) (fun _ p => p) (fun _ p _ => p.elim)
theorem familyOpens {m : Int} {gs : List (List Int)} {q : Nat} (hq : m = q) (h : codeF m gs = 0) : FamOk m gs ∧ Opens gs (2 ^ q - 1) := by
  unfold codeF at h
  split at h
  · rename_i h1
    have h1 := tv_iff.1 h1
    refine ⟨h1, ?_⟩
    have h2 : gs.length ≠ 0 := fun hc => by
      rw [if_pos hc] at h
      split at h <;> cases h
    obtain ⟨g, hg⟩ : ∃ g, gs[0]? = some g := ⟨gs[0]'(by omega), List.getElem?_eq_getElem (by omega)⟩
    have hgm := List.mem_of_getElem? hg
    refine ⟨g, hgm, ?_⟩
    have hb : bitsOf g < 2 ^ q := bitsOf_lt (fun x hx => by have := h1.below g hgm x hx; omega)
    rw [Nat.and_comm, Nat.and_two_pow_sub_one_eq_mod, Nat.mod_eq_of_lt hb]
  · cases h
theorem range_map_succ' {α : Type} (f : Nat → α) (n : Nat) : (List.range (n + 1)).map f = (List.range n).map f ++ [f n] := by rw [List.range_succ, List.map_append]; rfl
/-- The code of dual ranks. -/
noncomputable def r1_DualRanks (x : T_Ranks) (y : T_Family) : Int :=
  if fitC x.1 x.2.1 x.2.2 y.1 y.2 = 0 then (if tv (∀ a, a < x.2.2.length → ∀ b, b < x.2.2.length → ¬ Mis x.2.2 x.2.1 y.2 a b) = true then (if tv (∀ z ∈ dualL x.2.2 x.2.1 y.2 x.1.toNat (2 ^ x.1.toNat), z ≤ 100000) = true then 0 else 3) else 8) else fitC x.1 x.2.1 x.2.2 y.1 y.2
noncomputable def r0_DualRanks (x : T_Ranks) (y : T_Family) : T_Ranks := if r1_DualRanks x y = 0 then (x.1, x.2.1, dualL x.2.2 x.2.1 y.2 x.1.toNat (2 ^ x.1.toNat)) else (0, 0, [])
/-- Ranks and a code. -/
def MkRC (r : T_Ranks) (code : Int) (n : Nat) (v : Value) (H1 : AH) : Prop := ∃ cs : List Value, v = .tuple #[.agg cs.toArray, .int .i64 code] ∧ M_Ranks.R (New n H1.n) H1 r cs
theorem MkRC.nil {code : Int} {n : Nat} {v : Value} {H1 : AH} (hv : v = .tuple #[.agg #[.int .i64 0, .int .i64 0, .slice none 0 0], .int .i64 code]) : MkRC (0, 0, []) code n v H1 := ⟨_, hv, ranksM (.inl ⟨rfl, _, _, rfl, fun _ => rfl⟩)⟩
theorem built_Ranks (a b : Int) : Try.prog.built 50 [(0, .int .i64 a), (1, .int .i64 b)] = some #[.int .i64 a, .int .i64 b, .slice none 0 0] := by kernel_rfl
theorem built_Ranks0 : Try.prog.built 50 [] = some #[.int .i64 0, .int .i64 0, .slice none 0 0] := by kernel_rfl
section
variable {S : Ids} {H0 : AH}
end
end Go.Proofs.Ytijmkfnmdhpakaa.Am
/- Contracts: SequenceFor of the program. Each holds under its own conditions. -/
set_option linter.unusedVariables false
set_option linter.unusedSimpArgs false
set_option maxRecDepth 20000
namespace Go.Proofs.Ytijmkfnmdhpakaa.Am
open Go Go.RowKit Go.Proofs
theorem Least.one {gs : List (List Int)} {k b x w w' : Nat} {ok ok' : Bool} (h : Least gs k b x w ok) (h' : Least gs k b x w' ok') : w = w' ∧ ok = ok' := by
  rcases h with ⟨rfl, h1, h2, h3⟩ | ⟨rfl, rfl, h1⟩ <;> rcases h' with ⟨rfl, k1, k2, k3⟩ | ⟨rfl, rfl, k1⟩
  · rcases Nat.lt_trichotomy w w' with h | h | h
    · exact absurd h2 (k3 w h)
    · exact ⟨h, rfl⟩
    · exact absurd k2 (h3 w' h)
  · exact absurd h2 (k1 w h1)
  · exact absurd k2 (h1 w' (by omega))
  · exact ⟨rfl, rfl⟩
/-- What stands before place i. -/
def bef (ns : List Nat) (i : Nat) : Nat := if i = 0 then 0 else ns.getD (i - 1) 0
open Classical in
noncomputable def leastW (gs : List (List Int)) (k b x : Nat) : Nat := if h : ∃ w, Least gs k b x w true then Classical.choose h else 0
theorem leastW_eq {gs : List (List Int)} {k b x w : Nat} (h : Least gs k b x w true) : leastW gs k b x = w := by
  unfold leastW
  have hx : ∃ w, Least gs k b x w true := ⟨w, h⟩
  rw [dif_pos hx]
  exact ((Classical.choose_spec hx).one h).1
/-- The chain may go on at place i. -/
def OkAt (gs : List (List Int)) (k : Nat) (ns : List Nat) (i : Nat) : Prop := Chd gs k (bef ns i) (ns.getD i 0) ∧ ∃ w, Least gs k (bef ns i) (ns.getD i 0) w true
abbrev nums (chain : List (List Int)) : List Nat := chain.map bitsOf
noncomputable def withAt (gs : List (List Int)) (k : Nat) (ns : List Nat) (i : Nat) : List Int := hold (leastW gs k (bef ns i) (ns.getD i 0)) 7
noncomputable def withs (gs : List (List Int)) (k : Nat) (ns : List Nat) (n : Nat) : List (List Int) := (List.range n).map (withAt gs k ns)
noncomputable def r1_SequenceFor (y : T_Family) (known : List Int) (chain : List (List Int)) : Int :=
  if codeF y.1 y.2 = 0 then (if tv (Rises 0 (y.1 - 1) known ∧ ∀ g ∈ chain, Rises 0 (y.1 - 1) g) = true then (if tv (∀ i, i < chain.length → OkAt y.2 (bitsOf known) (nums chain) i) = true then 0 else 8) else 2) else codeF y.1 y.2
noncomputable def r0_SequenceFor (y : T_Family) (known : List Int) (chain : List (List Int)) : T_Sequence := if r1_SequenceFor y known chain = 0 then (known, chain, withs y.2 (bitsOf known) (nums chain) chain.length) else ([], [], [])
def MkQC (r : T_Sequence) (code : Int) (n : Nat) (v : Value) (H1 : AH) : Prop := ∃ cs : List Value, v = .tuple #[.agg cs.toArray, .int .i64 code] ∧ M_Sequence.R (New n H1.n) H1 r cs
theorem nilM {X : Ids} {H : AH} {α : Type} {d : Kn α} : d.ml.R X H [] [.slice none 0 0] := ml1' (.inl ⟨rfl, _, _, rfl, fun _ => rfl⟩)
theorem seqNil {X : Ids} {H : AH} : M_Sequence.R X H ([], [], []) [.slice none 0 0, .slice none 0 0, .slice none 0 0] :=
  mpR (X := None_) (cs := [.slice none 0 0]) nilM (mpR (X := None_) (Y := None_) (cs := [.slice none 0 0]) nilM nilM (fun _ p => p.elim) (fun _ p => p.elim) (fun _ p _ => p.elim)) (fun _ p => p.elim) (fun _ p => p) (fun _ p _ => p.elim)
theorem MkQC.nil {code : Int} {n : Nat} {v : Value} {H1 : AH} (hv : v = .tuple #[.agg #[.slice none 0 0, .slice none 0 0, .slice none 0 0], .int .i64 code]) : MkQC ([], [], []) code n v H1 := ⟨_, hv, seqNil⟩
theorem built_Seq0 : Try.prog.built 94 [] = some #[.slice none 0 0, .slice none 0 0, .slice none 0 0] := by kernel_rfl
theorem built_Seq1 (a : Option Addr) (n c : Nat) : Try.prog.built 94 [(0, .slice a n c)] = some #[.slice a n c, .slice none 0 0, .slice none 0 0] := by kernel_rfl
theorem built_Seq3 (a1 : Option Addr) (n1 c1 : Nat) (a2 : Option Addr) (n2 c2 : Nat) (a3 : Option Addr) (n3 c3 : Nat) : Try.prog.built 94 [(0, .slice a1 n1 c1), (1, .slice a2 n2 c2), (2, .slice a3 n3 c3)] = some #[.slice a1 n1 c1, .slice a2 n2 c2, .slice a3 n3 c3] := by kernel_rfl
theorem sf_code {y : T_Family} {known : List Int} {chain : List (List Int)} (h : ¬ codeF y.1 y.2 = 0) : r1_SequenceFor y known chain = codeF y.1 y.2 ∧ r0_SequenceFor y known chain = ([], [], []) := by
  have e : r1_SequenceFor y known chain = codeF y.1 y.2 := by unfold r1_SequenceFor; rw [if_neg h]
  exact ⟨e, by unfold r0_SequenceFor; rw [e, if_neg h]⟩
theorem sf_range {y : T_Family} {known : List Int} {chain : List (List Int)} (h : codeF y.1 y.2 = 0) (h2 : ¬ (Rises 0 (y.1 - 1) known ∧ ∀ g ∈ chain, Rises 0 (y.1 - 1) g)) : r1_SequenceFor y known chain = 2 ∧ r0_SequenceFor y known chain = ([], [], []) := by
  have e : r1_SequenceFor y known chain = 2 := by unfold r1_SequenceFor; rw [if_pos h, if_neg (by rw [tv_false h2]; decide)]
  exact ⟨e, by unfold r0_SequenceFor; rw [e]; rfl⟩
theorem sf_proof {y : T_Family} {known : List Int} {chain : List (List Int)} (h : codeF y.1 y.2 = 0) (h2 : Rises 0 (y.1 - 1) known ∧ ∀ g ∈ chain, Rises 0 (y.1 - 1) g) (h3 : ¬ ∀ i, i < chain.length → OkAt y.2 (bitsOf known) (nums chain) i) : r1_SequenceFor y known chain = 8 ∧ r0_SequenceFor y known chain = ([], [], []) := by
  have e : r1_SequenceFor y known chain = 8 := by unfold r1_SequenceFor; rw [if_pos h, if_pos (tv_true h2), if_neg (by rw [tv_false h3]; decide)]
  exact ⟨e, by unfold r0_SequenceFor; rw [e]; rfl⟩
theorem sf_ok {y : T_Family} {known : List Int} {chain : List (List Int)} (h : codeF y.1 y.2 = 0) (h2 : Rises 0 (y.1 - 1) known ∧ ∀ g ∈ chain, Rises 0 (y.1 - 1) g) (h3 : ∀ i, i < chain.length → OkAt y.2 (bitsOf known) (nums chain) i) : r1_SequenceFor y known chain = 0 ∧ r0_SequenceFor y known chain = (known, chain, withs y.2 (bitsOf known) (nums chain) chain.length) := by
  have e : r1_SequenceFor y known chain = 0 := by unfold r1_SequenceFor; rw [if_pos h, if_pos (tv_true h2), if_pos (tv_true h3)]
  exact ⟨e, by unfold r0_SequenceFor; rw [e]; rfl⟩
theorem codeF_ok {m : Int} {gs : List (List Int)} (h : codeF m gs = 0) : FamOk m gs := by
  unfold codeF at h
  split at h
  · rename_i h1; exact tv_iff.1 h1
  · cases h
/-- The state of the loop. -/
structure SqS where
  i : Nat
  S : Ids
  A : AH
  l1 : Value
  l2 : Value
  tail : List Var
  V1 : Ids
  V2 : Ids
  c1 : List Value
  c2 : List Value
structure SqI (gs : List (List Int)) (k : Nat) (chain : List (List Int)) (SA : Ids) (HA : AH) (s : SqS) : Prop where
  le : s.i ≤ chain.length
  old : St SA HA s.S s.A
  b1 : RowsB KI.ml s.S s.A s.V1 (chain.take s.i) s.c1
  b2 : RowsB KI.ml s.S s.A s.V2 (withs gs k (nums chain) s.i) s.c2
  v1 : ∀ id, s.V1 id → HA.n ≤ id
  v2 : ∀ id, s.V2 id → HA.n ≤ id
  dis : ∀ id, s.V1 id → s.V2 id → False
  ok : ∀ j, j < s.i → OkAt gs k (nums chain) j
  form : (s.i = 0 ∧ s.l1 = .slice none 0 0 ∧ s.l2 = .slice none 0 0 ∧ s.tail = [] ∧ s.c1 = [] ∧ s.c2 = []) ∨ (0 < s.i ∧ ∃ o1 o2, s.l1 = .slice (some ⟨o1, 0, some 1⟩) s.i s.i ∧ s.l2 = .slice (some ⟨o2, 0, some 1⟩) s.i s.i ∧ s.tail = [(o1, ⟨28, true, s.c1⟩), (o2, ⟨28, true, s.c2⟩)])
theorem SqI.next {gs : List (List Int)} {k : Nat} {chain : List (List Int)} {SA : Ids} {HA : AH} {s : SqS} (h : SqI gs k chain SA HA s) {SC SG : Ids} {HC HG : AH} {n1 n2 : Nat} {y : List Int} {v1 v2 l1 l2 : Value} {tail : List Var} (t1 : St s.S s.A SC HC) (t2 : St SC HC SG HG) (w1 : On (New n1 HC.n) HC SC HC) (w2 : On (New n2 HG.n) HG SG HG) (low : ∀ id, s.S id → id < n1) (hn : HA.n ≤ n1) (hn2 : HC.n ≤ n2) (hn3 : n1 ≤ HC.n) (hy : chain[s.i]? = some y) (hc : KI.Ml (New n1 HC.n) HC v1 y) (hg : KI.Ml (New n2 HG.n) HG v2 (withAt gs k (nums chain) s.i)) (ok : OkAt gs k (nums chain) s.i)
    (form : 0 < s.i + 1 ∧ ∃ o1 o2, l1 = .slice (some ⟨o1, 0, some 1⟩) (s.i + 1) (s.i + 1) ∧ l2 = .slice (some ⟨o2, 0, some 1⟩) (s.i + 1) (s.i + 1) ∧ tail = [(o1, ⟨28, true, s.c1 ++ [v1]⟩), (o2, ⟨28, true, s.c2 ++ [v2]⟩)]) :
    SqI gs k chain SA HA ⟨s.i + 1, SG, HG, l1, l2, tail, fun id => s.V1 id ∨ New n1 HC.n id, fun id => s.V2 id ∨ New n2 HG.n id, s.c1 ++ [v1], s.c2 ++ [v2]⟩ := by
  obtain ⟨hil, rfl⟩ := List.getElem?_eq_some_iff.1 hy
  haveI o1 : On s.S s.A SC HC := ⟨t1⟩
  haveI o2 : On SC HC SG HG := ⟨t2⟩
  have et : chain.take (s.i + 1) = chain.take s.i ++ [chain[s.i]] := List.take_succ_eq_append_getElem hil
  have ew : withs gs k (nums chain) (s.i + 1) = withs gs k (nums chain) s.i ++ [withAt gs k (nums chain) s.i] := by unfold withs; rw [List.range_succ, List.map_append]; rfl
  have lowV1 : ∀ id, s.V1 id → id < n1 := fun id hid => low id (h.b1.sub id hid)
  have lowV2 : ∀ id, s.V2 id → id < n1 := fun id hid => low id (h.b2.sub id hid)
  have c2 : KI.ml.R (New n1 HC.n) HG chain[s.i] [v1] := ml1' (hc.same (fun id hid => (t2 id (w1.st id hid).1).2))
  refine ⟨by simp only; omega, (h.old.trans t1).trans t2, ?_, ?_, fun id hid => hid.elim (h.v1 id) (fun p => by have := p.1; omega), fun id hid => hid.elim (h.v2 id) (fun p => by have := p.1; omega), fun id p q => ?_, upto h.ok ok, .inr form⟩
  · simp only [et]
    exact ((h.b1.up (S' := SC) (A' := HC)).up (S' := SG) (A' := HG)).snoc c2 (fun id hid => (t2 id (w1.st id hid).1).1) (fun id p q => by have := lowV1 id p; have := q.1; omega)
  · simp only [ew]
    exact ((h.b2.up (S' := SC) (A' := HC)).up (S' := SG) (A' := HG)).snoc (ml1' hg) (fun id hid => (w2.st id hid).1) (fun id p q => by have := lowV2 id p; have := q.1; omega)
  · rcases p with p | p <;> rcases q with q | q
    · exact h.dis id p q
    · have := lowV1 id p; have := q.1; omega
    · have := lowV2 id q; have := p.1; omega
    · have := p.2; have := q.1; omega
theorem rises_lt {m : Int} {q : Nat} (hq : m = q) {g : List Int} (h : Rises 0 (m - 1) g) : ∀ x ∈ g, 0 ≤ x ∧ x < (q : Int) := fun x hx => by have := rises_mem h x hx; omega
theorem bits256 {q : Nat} (hq : q ≤ 8) {g : List Int} (h : ∀ x ∈ g, 0 ≤ x ∧ x < (q : Int)) : bitsOf g < 256 := by
  have h1 : bitsOf g < 2 ^ q := bitsOf_lt (fun x hx => by have := h x hx; omega)
  have := small_pow hq
  omega
section
variable {S : Ids} {H0 : AH}
theorem impl_SequenceFor {y : T_Family} {known : List Int} {chain : List (List Int)} {ds : List Value} {a1 c1 a2 c2} (hF : B_Family y) (hK : B_Int64S known) (hC : B_Int64SS chain) (h : K_Family.R S H0 y ds) (k : K_Int64S.R S H0 known [.slice a1 known.length c1]) (k' : K_Int64SS.R S H0 chain [.slice a2 chain.length c2]) :
    SpecM Try.prog S H0 59 [.agg ds.toArray, .slice a1 known.length c1, .slice a2 chain.length c2] (MkQC (r0_SequenceFor y known chain) (r1_SequenceFor y known chain)) := by
  obtain ⟨a3, c3, rfl, h1⟩ := split_Family h
  have s1 := sl1 h1
  have s2 := sl1 k
  have s3 := sl1 k'
  obtain ⟨m, gs⟩ := y
  simp only at s1 ⊢
  have hsm : Sml gs := hF.2
  have hkl : known.length ≤ 1048576 := hK
  have hcl := hC.len
  refine SpecM.of1 Try.func59 rfl (by kernel_rfl) rfl (fun H _ => ?_)
  refine KW.callE rfl rfl rfl rfl rfl (rankedCode m hsm s1.up) (fun n9 m9 => ?_)
  by_cases hc : codeF m gs = 0
  · rw [hc]
    have hf := codeF_ok hc
    have hm1 := hf.h1
    have hm7 := hf.h2
    obtain ⟨q, hq⟩ : ∃ q : Nat, m = q := ⟨m.toNat, by omega⟩
    have hb : Below' q gs := by have := hf.below; rw [hq] at this; simpa using this
    refine KW.tT rfl rfl (by first | (simp; done) | decide) ?_
    refine KW.lit rfl rfl rfl rfl rfl rfl rfl rfl rfl rfl [.slice a1 known.length c1] rfl rfl (fun v hv => by simp at hv; subst hv; rfl) rfl ?_
    refine KW.callV1 rfl rfl rfl rfl rfl (fun H1 g _ => areGroups m ⟨hm1, hm7⟩ (xs := [known]) (by simp) (fun z hz => by rw [List.mem_singleton.1 hz]; exact hkl) (g.row1 (j := 2) rfl s2.up (by simp))) (fun _ _ => ?_)
    by_cases hk1 : Rises 0 (m - 1) known
    · rw [tv_true (p := ∀ z ∈ [known], Rises 0 (m - 1) z) (fun z hz => by rw [List.mem_singleton.1 hz]; exact hk1)]
      refine KW.tF rfl rfl (by first | (simp; done) | decide) ?_
      refine KW.callE rfl rfl rfl rfl rfl (areGroups m ⟨hm1, hm7⟩ hcl hC.each s3.up) (fun _ _ => ?_)
      by_cases hk2 : ∀ g ∈ chain, Rises 0 (m - 1) g
      · rw [tv_true hk2]
        refine KW.cF rfl rfl (by first | (simp; done) | decide) ?_
        refine KW.cF rfl rfl (by first | (simp; done) | decide) ?_
        have hkb := rises_lt hq hk1
        have hkk := bits256 (q := q) (by omega) hkb
        refine KW.callE rfl rfl rfl rfl rfl (crowdOf (m := q) (by omega) (by omega) hkb s2.up) (fun _ _ => ?_)
        refine KW.callN1 rfl rfl rfl rfl rfl (cloneI hkl s2.up) (fun v HA SA mA _ _ hv => ?_)
        obtain ⟨a5, c5, rfl, hA⟩ := hv
        refine KW.build rfl rfl rfl rfl rfl (built_Seq1 _ _ _) ?_
        have e0 : bef (nums chain) 0 = 0 := rfl
        refine KW.lpM rfl rfl (fun s : SqS => [(3, .pointer (some ⟨H.n, 0, some 0⟩)), (6, .pointer (some ⟨H.n + 1, 0, some 1⟩)), (9, .int .u64 (bitsOf known : Nat)), (10, .int .u64 (bef (nums chain) s.i : Nat)), (11, .pointer (some ⟨HA.n, 0, some 3⟩)), (45, .slice a2 chain.length c2), (46, .int .i64 chain.length), (47, .int .i64 s.i)]) (fun s => s.S) (fun s => s.A) (fun s => [(H.n, ⟨31, true, [.int .i64 m, .slice a3 gs.length c3]⟩), (H.n + 1, ⟨94, true, [.slice none 0 0, .slice none 0 0, .slice none 0 0]⟩), (n9, ⟨28, true, [.slice a1 known.length c1]⟩), (HA.n, ⟨94, true, [.slice a5 known.length c5, s.l1, s.l2]⟩)] ++ s.tail) (fun s => SqI gs (bitsOf known) chain SA HA s) (fun s => chain.length - s.i) (⟨0, SA, HA, .slice none 0 0, .slice none 0 0, [], fun _ => False, fun _ => False, [], []⟩) (⟨Nat.zero_le _, fun id hid => ⟨hid, rfl⟩, RowsB.nil _ _, RowsB.nil _ _, fun _ h => h.elim, fun _ h => h.elim, fun _ h => h.elim, fun j h => absurd h (Nat.not_lt_zero _), .inl ⟨rfl, rfl, rfl, rfl, rfl, rfl⟩⟩) ⟨rfl, rfl, rfl, rfl, rfl, rfl, rfl, rfl, trivial⟩ rfl rfl (rfl) (fun s hi bE n => ?_)
        obtain ⟨i, S', A, l1, l2, tail, V1, V2, cs1, cs2⟩ := s
        obtain ⟨hile, hold', hb1, hb2, hv1, hv2, hdis, hok, hform⟩ := hi
        simp only at hile hold' hb1 hb2 hv1 hv2 hdis hok hform
        haveI : Stp SA HA S' A := ⟨hold'⟩
        have hinv : SqI gs (bitsOf known) chain SA HA ⟨i, S', A, l1, l2, tail, V1, V2, cs1, cs2⟩ := ⟨hile, hold', hb1, hb2, hv1, hv2, hdis, hok, hform⟩
        have hbf : bef (nums chain) i < 256 := by
          unfold bef
          split
          · omega
          · rename_i hi0
            rw [List.getD_eq_getElem?_getD]
            rcases Nat.lt_or_ge (i - 1) chain.length with hlt | hge
            · rw [List.getElem?_map, List.getElem?_eq_getElem hlt]
              exact bits256 (q := q) (by omega) (rises_lt hq (hk2 _ (List.getElem_mem hlt)))
            · rw [List.getElem?_eq_none (by simpa using hge)]; decide
        have hl1 := hb1.len
        have hl2 := hb2.len
        rw [List.length_take] at hl1
        have hl2' : cs2.length = i := by rw [hl2]; simp [withs]
        have hl1' : cs1.length = i := by omega
        rcases hform with ⟨hi0, e1, e2, e3, e4, e5⟩ | ⟨hi0, o1, o2, e1, e2, e3⟩
        case' inl => subst e1 e2 e3 e4 e5
        case' inr => subst e1 e2 e3
        all_goals
          refine KW.cnd rfl rfl (fun j1 => ?gin) (fun j1 => ?gout)
          case gin =>
            refine KW.getL s3.up rfl rfl rfl rfl rfl rfl rfl rfl rfl rfl rfl rfl rfl rfl rfl rfl (by omega) (j1) (fun y ay cy hy hsy => ?_)
            have hy : chain[i]? = some y := hy
            have hym := List.mem_of_getElem? hy
            have hyb := rises_lt hq (hk2 y hym)
            have hyx := bits256 (q := q) (by omega) hyb
            have hyl := hC.each y hym
            have hil := (List.getElem?_eq_some_iff.1 hy).1
            have hnx : (nums chain).getD i 0 = bitsOf y := by rw [List.getD_eq_getElem?_getD, List.getElem?_map, hy]; rfl
            have hnb : bef (nums chain) (i + 1) = bitsOf y := by unfold bef; rw [if_neg (by omega)]; simpa using hnx
            refine KW.callE rfl rfl rfl rfl rfl (crowdOf (m := q) (by omega) (by omega) hyb hsy) (fun _ _ => ?_)
            refine KW.call rfl rfl rfl rfl rfl (least (m := q) (by omega) m hkk hbf hyx hsm hb s1.up) (fun v _ _ hv => ?_)
            obtain ⟨w, ok, rfl, hlw⟩ := hv
            have bad : ¬ OkAt gs (bitsOf known) (nums chain) i → r1_SequenceFor (m, gs) known chain = 8 ∧ r0_SequenceFor (m, gs) known chain = ([], [], []) := fun hx => sf_proof (y := (m, gs)) hc ⟨hk1, hk2⟩ (fun hall => hx (hall i hil))
            cases ok with
            | false =>
              refine KW.tT rfl rfl (by first | (simp; done) | decide) ?_
              refine KW.cT rfl rfl (by first | (simp; done) | decide) ?_
              obtain ⟨e1, e0⟩ := bad (fun hx => by
                obtain ⟨_, w', hw'⟩ := hx
                rw [hnx] at hw'
                have := (hlw.one hw').2
                cases this)
              rw [e1, e0]
              refine KW.build rfl rfl rfl rfl rfl (built_Seq0) ?_
              refine KW.retM1 rfl rfl rfl rfl (fun H1 g => ?_)
              exact MkQC.nil rfl
            | true =>
              refine KW.tF rfl rfl (by first | (simp; done) | decide) ?_
              refine KW.callE rfl rfl rfl rfl rfl (chained (m := q) (by omega) m hkk hbf hyx hsm hb s1.up) (fun _ _ => ?_)
              by_cases hch : Chd gs (bitsOf known) (bef (nums chain) i) (bitsOf y)
              · rw [tv_true hch]
                refine KW.cF rfl rfl (by first | (simp; done) | decide) ?_
                have hoki : OkAt gs (bitsOf known) (nums chain) i := by unfold OkAt; rw [hnx]; exact ⟨hch, w, hlw⟩
                have hwk : w ≤ bitsOf known := by
                  rcases hlw with ⟨_, h, _⟩ | ⟨h, _⟩
                  · exact h
                  · cases h
                have hwa : withAt gs (bitsOf known) (nums chain) i = hold w 7 := by unfold withAt; rw [hnx, leastW_eq hlw]
                refine KW.ids (fun hlow hvar => ?_)
                have hnA := (hvar 3 HA.n _ rfl).1
                refine KW.callN1 rfl rfl rfl rfl rfl (cloneI hyl hsy) (fun v HC SC mC _ _ hv => ?_)
                obtain ⟨a7, c7, rfl, hCl⟩ := hv
                first
                  | (refine KW.app0 (v := .slice a7 y.length c7) 4 rfl rfl rfl rfl rfl rfl rfl rfl rfl rfl rfl rfl rfl rfl rfl rfl rfl rfl rfl rfl rfl rfl (by decide) ?_
                     refine KW.callN1 rfl rfl rfl rfl rfl (group (x := w) (by omega)) (fun v HG SG mG tG wG hv => ?_)
                     obtain ⟨a8, c8, rfl, hG⟩ := hv
                     rw [← hwa] at hG ⊢
                     refine KW.app0 (v := .slice a8 (withAt gs (bitsOf known) (nums chain) i).length c8) 5 rfl rfl rfl rfl rfl rfl rfl rfl rfl rfl rfl rfl rfl rfl rfl rfl rfl rfl rfl rfl rfl rfl (by decide) ?_
                     subst hi0
                     exact KW.nxt rfl rfl (fun H' g => ⟨_, hinv.next (inferInstance : Stp S' A SC HC).st tG.st inferInstance wG hlow (by omega) (by omega) mC hy hCl hG hoki ⟨by omega, _, _, rfl, rfl, rfl⟩, by simp only; omega, ⟨rfl, rfl, rfl, congrArg (Value.int .u64) (by rw [hnb]), rfl, rfl, rfl, rfl, trivial⟩, g⟩))
                  | (refine KW.app1 (xs := cs1) (v := .slice a7 y.length c7) 4 6 rfl rfl rfl rfl rfl rfl rfl rfl rfl rfl rfl rfl rfl rfl rfl rfl rfl rfl rfl rfl rfl rfl rfl hl1' (by show (_ + 1) * 24 ≤ _; omega) (by omega) ?_
                     refine KW.callN1 rfl rfl rfl rfl rfl (group (x := w) (by omega)) (fun v HG SG mG tG wG hv => ?_)
                     obtain ⟨a8, c8, rfl, hG⟩ := hv
                     rw [← hwa] at hG ⊢
                     refine KW.app1 (xs := cs2) (v := .slice a8 (withAt gs (bitsOf known) (nums chain) i).length c8) 5 6 rfl rfl rfl rfl rfl rfl rfl rfl rfl rfl rfl rfl rfl rfl rfl rfl rfl rfl rfl rfl rfl rfl rfl hl2' (by show (_ + 1) * 24 ≤ _; omega) (by omega) ?_
                     exact KW.nxt rfl rfl (fun H' g => ⟨_, hinv.next (inferInstance : Stp S' A SC HC).st tG.st inferInstance wG hlow (by omega) (by omega) mC hy hCl hG hoki ⟨by omega, _, _, rfl, rfl, rfl⟩, by simp only; omega, ⟨rfl, rfl, rfl, congrArg (Value.int .u64) (by rw [hnb]), rfl, rfl, rfl, congrArg (Value.int .i64) (inc64 (by omega)), trivial⟩, g⟩))
              · rw [tv_false hch]
                refine KW.cT rfl rfl (by first | (simp; done) | decide) ?_
                obtain ⟨e1, e0⟩ := bad (fun hx => by
                  have := hx.1
                  rw [hnx] at this
                  exact hch this)
                rw [e1, e0]
                refine KW.build rfl rfl rfl rfl rfl (built_Seq0) ?_
                refine KW.retM1 rfl rfl rfl rfl (fun H1 g => ?_)
                exact MkQC.nil rfl
          case gout =>
            have hin : i = chain.length := by have j1 : ¬ (i : Int) < chain.length := j1; omega
            obtain ⟨e1, e0⟩ := sf_ok (y := (m, gs)) (known := known) (chain := chain) hc ⟨hk1, hk2⟩ (fun j hj => hok j (by omega))
            rw [e1, e0]
            refine KW.retM1 rfl rfl rfl rfl (fun H1 g => ?_)
            subst hin
            rw [List.take_of_length_le (Nat.le_refl _)] at hb1
            have hA' : KI.Ml (New _ HA.n) H1 _ known := ml1 (g.keep (ml1' hA))
            first
              | (have hcn : chain = [] := List.eq_nil_of_length_eq_zero hi0
                 subst hcn
                 exact ⟨_, rfl, mpR (cs := [.slice a5 known.length c5]) (Y := None_) (ml1' hA') (mpR (X := None_) (Y := None_) (cs := [.slice none 0 0]) nilM nilM (fun _ p => p.elim) (fun _ p => p.elim) (fun _ p _ => p.elim)) (g.inn (H := HA) (fun _ p => by have := p.1; omega)) (fun _ p => p.elim) (fun _ _ p => p.elim)⟩)
              | (have hwl : (withs gs (bitsOf known) (nums chain) chain.length).length = chain.length := by simp [withs]
                 have m1 := hb1.ml (X := fun id => V1 id ∨ id = o1) rfl g (j := 4) rfl (.inr rfl) (fun _ p => .inl p)
                 have m2 := hb2.ml (X := fun id => V2 id ∨ id = o2) rfl g (j := 5) rfl (.inr rfl) (fun _ p => .inl p)
                 rw [hwl] at m2
                 have n1 := (g.vars 4 _ rfl).2
                 have n2 := (g.vars 5 _ rfl).2
                 have g1 := g.ge (H1 := H) (j := 4) rfl
                 have g2 := g.ge (H1 := H) (j := 5) rfl
                 have hne : o1 ≠ o2 := fun he => by have := g.dist 4 5 _ _ rfl rfl he; omega
                 have hgn := g.n_
                 refine ⟨_, rfl, mpR (cs := [.slice a5 known.length c5]) (Y := fun id => (V1 id ∨ id = o1) ∨ (V2 id ∨ id = o2)) (ml1' hA') (mpR (cs := [.slice (some ⟨o1, 0, some 1⟩) chain.length chain.length]) (ml1' m1) (ml1' m2) (fun _ p => .inl p) (fun _ p => .inr p) (fun id p r => ?_)) (g.inn (H := HA) (fun _ p => by have := p.1; omega)) (fun id p => ?_) (fun id p r => ?_)⟩
                 · rcases p with p | rfl <;> rcases r with r | rfl
                   · exact hdis id p r
                   · exact n2.2 (hb1.sub _ p)
                   · exact n1.2 (hb2.sub _ r)
                   · exact hne rfl
                 · rcases p with (p | rfl) | (p | rfl)
                   · exact ⟨by have := hv1 id p; omega, by have := (g.froz id (hb1.sub id p)).1; omega⟩
                   · exact ⟨g1, by have := n1.1; omega⟩
                   · exact ⟨by have := hv2 id p; omega, by have := (g.froz id (hb2.sub id p)).1; omega⟩
                   · exact ⟨g2, by have := n2.1; omega⟩
                 · have hpS := ((inferInstance : On (New _ HA.n) HA S' A).st id p).1
                   rcases r with (r | rfl) | (r | rfl)
                   · have := hv1 id r; have := p.2; omega
                   · exact n1.2 hpS
                   · have := hv2 id r; have := p.2; omega
                   · exact n2.2 hpS)
      · rw [tv_false hk2]
        refine KW.cT rfl rfl (by first | (simp; done) | decide) ?_
        refine KW.cT rfl rfl (by first | (simp; done) | decide) ?_
        obtain ⟨e1, e0⟩ := sf_range (y := (m, gs)) (known := known) (chain := chain) hc (fun hx => hk2 hx.2)
        rw [e1, e0]
        refine KW.build rfl rfl rfl rfl rfl (built_Seq0) ?_
        refine KW.retM1 rfl rfl rfl rfl (fun H1 g => ?_)
        exact MkQC.nil rfl
    · rw [tv_false (p := ∀ z ∈ [known], Rises 0 (m - 1) z) (fun hx => hk1 (hx known (by simp)))]
      refine KW.tT rfl rfl (by first | (simp; done) | decide) ?_
      refine KW.cT rfl rfl (by first | (simp; done) | decide) ?_
      refine KW.cT rfl rfl (by first | (simp; done) | decide) ?_
      obtain ⟨e1, e0⟩ := sf_range (y := (m, gs)) (known := known) (chain := chain) hc (fun hx => hk1 hx.1)
      rw [e1, e0]
      refine KW.build rfl rfl rfl rfl rfl (built_Seq0) ?_
      refine KW.retM1 rfl rfl rfl rfl (fun H1 g => ?_)
      exact MkQC.nil rfl
  · refine KW.tF rfl rfl (by simpa using hc) ?_
    refine KW.cF rfl rfl (by first | (simp; done) | decide) ?_
    refine KW.cT rfl rfl (by simpa using hc) ?_
    obtain ⟨e1, e0⟩ := sf_code (y := (m, gs)) (known := known) (chain := chain) hc
    rw [e1, e0]
    refine KW.build rfl rfl rfl rfl rfl (built_Seq0) ?_
    refine KW.retM1 rfl rfl rfl rfl (fun H1 g => ?_)
    exact MkQC.nil rfl
end
end Go.Proofs.Ytijmkfnmdhpakaa.Am
/- Contracts: DualRanks of the reference. Each holds under its own conditions. -/
set_option linter.unusedVariables false
set_option linter.unusedSimpArgs false
set_option maxRecDepth 20000
namespace Go.Proofs.Ytijmkfnmdhpakaa.Am
open Go Go.RowKit Go.Proofs
theorem tabO_get {gs : List (List Int)} {n q : Nat} {j : Int} (hj : j = (q : Int)) (h : q < n) {y : Bool} (hy : (tabO gs n)[j.toNat]? = some y) : y = tv (Opens gs q) := by
  subst hj
  exact tabO_at h (by simpa using hy)
theorem bit1 {x h : Nat} (hx : x < 4611686018427387904) : (IntKind.i64.wrap ((BitVec.ofInt IntKind.i64.bits ((x / 2 ^ h : Nat) : Int) &&& BitVec.ofInt IntKind.i64.bits ((1 : Nat) : Int)).toNat : Int) == ((1 : Nat) : Int)) = x.testBit h := by
  rw [and_i64 (Nat.lt_of_le_of_lt (Nat.div_le_self _ _) hx) (by decide), ← bit_is]
  generalize x / 2 ^ h &&& 1 = q
  by_cases e : q = 1
  · subst e; rfl
  · rw [show (q == 1) = false from by simpa using e]
    simp only [beq_eq_false_iff_ne, ne_eq]
    omega
section
variable {S : Ids} {H0 : AH}
theorem bound_DualRanks {x : T_Ranks} {y : T_Family} (hB : B_Ranks x) (hF : B_Family y) : B_Ranks (r0_DualRanks x y) := by
  unfold r0_DualRanks
  split
  · rename_i h
    refine ⟨hB.1, hB.2.1, ?_⟩
    show (dualL _ _ _ _ _).length ≤ 1048576
    rw [dualL_len]
    have h0 : fitC x.1 x.2.1 x.2.2 y.1 y.2 = 0 := by
      unfold r1_DualRanks at h
      by_cases hc : fitC x.1 x.2.1 x.2.2 y.1 y.2 = 0
      · exact hc
      · rw [if_neg hc] at h; exact h
    have h1 := (fitC_zero h0).1
    rw [← h1.2.2.1]
    exact hB.2.2
  · exact ⟨by unfold I64; simp, by unfold I64; simp, by show 0 ≤ _; omega⟩
end
end Go.Proofs.Ytijmkfnmdhpakaa.Am
/- Contracts: SequenceFor of the reference. Each holds under its own conditions. -/
set_option linter.unusedVariables false
set_option linter.unusedSimpArgs false
set_option maxRecDepth 20000
namespace Go.Proofs.Ytijmkfnmdhpakaa.Am
open Go Go.RowKit Go.Proofs
abbrev numsI (chain : List (List Int)) : List Int := chain.map fun g => ((bitsOf g : Nat) : Int)
theorem numsI_at {chain : List (List Int)} {i : Nat} (h : i < chain.length) : (numsI chain)[i]? = some (((nums chain).getD i 0 : Nat) : Int) := by
  rw [List.getElem?_map, List.getElem?_eq_getElem h, List.getD_eq_getElem?_getD, List.getElem?_map, List.getElem?_eq_getElem h]; rfl
/-- The chain rises, apart from what is known, and its last set does not open. -/
def ChainAt (k : Nat) (ns : List Nat) (i : Nat) : Prop := ns.getD i 0 ≠ bef ns i ∧ ns.getD i 0 &&& bef ns i = bef ns i ∧ ns.getD i 0 &&& k = 0
def ChainC (gs : List (List Int)) (k : Nat) (ns : List Nat) (n : Nat) : Prop := (∀ i, i < n → ChainAt k ns i) ∧ ¬ Opens gs (bef ns n)
theorem bef_succ (ns : List Nat) (i : Nat) : bef ns (i + 1) = ns.getD i 0 := by unfold bef; rw [if_neg (by omega)]; rfl
theorem bef_lt {q : Nat} {ns : List Nat} (h : ∀ i, i < ns.length → ns.getD i 0 < 2 ^ q) (i : Nat) (hi : i ≤ ns.length) : bef ns i < 2 ^ q := by
  unfold bef
  split
  · exact Nat.two_pow_pos q
  · exact h _ (by omega)
section
variable {S : Ids} {H0 : AH}
theorem l07Group (m : Int) (hm : 1 ≤ m ∧ m ≤ 7) {id : Nat} (hv : Has3 S H0 id 0 [.int .i64 m]) {a c} {xs : List Int} (hl : xs.length ≤ 1048576) (hs : KI.Sl S H0 (.slice a xs.length c) xs) : Spec Try.prog S H0 133 [.pointer (some ⟨id, 0, none⟩), .slice a xs.length c] (fun v => v = .bool (tv (Rises 0 (m - 1) xs))) := by
  refine Spec.of1 Try.func133 rfl (by kernel_rfl) rfl (fun H _ => ?_)
  have hv := hv.up (S' := Low H.n) (H' := H)
  refine KW.ldF 0 hv rfl rfl rfl rfl rfl rfl rfl rfl rfl ?_
  have e : IntKind.i64.wrap (m - 1) = m - 1 := wr (by omega) (by omega)
  refine KW.callE rfl rfl rfl rfl rfl ((by show Spec _ _ _ _ [.slice a xs.length c, .int .i64 0, .int .i64 (IntKind.i64.wrap _)] _; rw [e]; exact l00Rises _ _ hl hs.up)) (fun _ _ => ?_)
  exact KW.ret rfl rfl rfl rfl (rfl)
theorem l07Groups (m : Int) (hm : 1 ≤ m ∧ m ≤ 7) {id : Nat} (hv : Has3 S H0 id 0 [.int .i64 m]) {a c} {xs : List (List Int)} (hB : B_Int64SS xs) (hs : KI.sl.Sl S H0 (.slice a xs.length c) xs) : Spec Try.prog S H0 134 [.pointer (some ⟨id, 0, none⟩), .slice a xs.length c] (fun v => v = .bool (tv (∀ g ∈ xs, Rises 0 (m - 1) g))) := by
  refine Spec.of1 Try.func134 rfl (by kernel_rfl) rfl (fun H _ => ?_)
  have hv := hv.up (S' := Low H.n) (H' := H)
  have hl := hB.len
  refine KW.lp rfl rfl (fun i : Nat => [(0, .pointer (some ⟨id, 0, none⟩)), (1, .slice a xs.length c), (5, .int .i64 i)]) (fun i => i ≤ xs.length ∧ ∀ j, j < i → ∀ x, xs[j]? = some x → Rises 0 (m - 1) x) (fun i => xs.length - i) (0) (⟨by omega, fun j h => absurd h (by omega)⟩) ⟨rfl, rfl, rfl, trivial⟩ (fun i hi bE n => ?_)
  obtain ⟨hi, hj⟩ := hi
  refine KW.cnd rfl rfl (fun k1 => ?_) (fun k1 => ?_)
  · refine KW.getL hs.up rfl rfl rfl rfl rfl rfl rfl rfl rfl rfl rfl rfl rfl rfl rfl rfl (by omega) (k1) (fun y ay cy hy hsy => ?_)
    have hy : xs[i]? = some y := hy
    have hym := List.mem_of_getElem? hy
    refine KW.callE rfl rfl rfl rfl rfl (l07Group m hm hv (hB.each y hym) hsy) (fun _ _ => ?_)
    refine KW.cndB rfl rfl (fun k2 => ?_) (fun k2 => ?_)
    · exact KW.ret rfl rfl rfl rfl (by rw [tv_false (p := ∀ g ∈ xs, Rises 0 (m - 1) g) (fun hx => by rw [tv_true (hx y hym)] at k2; cases k2)]; rfl)
    have k2 := tv_iff.1 (by simpa using k2)
    refine KW.nxt rfl rfl (fun H' g => ⟨i + 1, ⟨by omega, upto hj (fun x hx => by rw [hy] at hx; cases hx; exact k2)⟩, by first | omega | (simp only; omega), ⟨rfl, rfl, congrArg (Value.int .i64) (inc64 (by omega)), trivial⟩, g⟩)
  · exact KW.ret rfl rfl rfl rfl (by rw [tv_true (p := ∀ g ∈ xs, Rises 0 (m - 1) g) (all_of (fun j hjl => hj j (by omega)))]; rfl)
theorem l07Numbers {q : Nat} (hq : q ≤ 8) {a c} {xs : List (List Int)} (hB : B_Int64SS xs) (hx : ∀ g ∈ xs, ∀ z ∈ g, 0 ≤ z ∧ z < (q : Int)) (hs : KI.sl.Sl S H0 (.slice a xs.length c) xs) : SpecM Try.prog S H0 135 [.slice a xs.length c] (MkL (numsI xs)) := by
  refine SpecM.of1 Try.func135 rfl (by kernel_rfl) rfl (fun H _ => ?_)
  have hl := hB.len
  refine KW.lit rfl rfl rfl rfl rfl rfl rfl rfl rfl rfl [] rfl rfl (fun v hv => by simp at hv) rfl ?_
  refine KW.lpM rfl rfl (fun s : Nat × Nat => [(0, .slice a xs.length c), (3, .slice (some ⟨s.2, 0, some 1⟩) (numsI (xs.take s.1)).length (numsI (xs.take s.1)).length), (4, .int .i64 s.1)]) (fun s => Low H.n) (fun s => H) (fun s => [(s.2, ⟨_, true, (numsI (xs.take s.1)).map (Value.int .i64)⟩)]) (fun s => s.1 ≤ xs.length) (fun s => xs.length - s.1) ((0, _)) (by simp) ⟨rfl, rfl, rfl, trivial⟩ rfl rfl (rfl) (fun s hi bE n => ?_)
  obtain ⟨i, o⟩ := s
  simp only at hi
  have hil : (numsI (xs.take i)).length ≤ i := by rw [List.length_map, List.length_take]; omega
  refine KW.cnd rfl rfl (fun k1 => ?_) (fun k1 => ?_)
  · refine KW.getL hs.up rfl rfl rfl rfl rfl rfl rfl rfl rfl rfl rfl rfl rfl rfl rfl rfl (by omega) (k1) (fun y ay cy hy hsy => ?_)
    have hy : xs[i]? = some y := hy
    have hym := List.mem_of_getElem? hy
    refine KW.callE rfl rfl rfl rfl rfl (l07Bits (m := q) hq (by have := hB.each y hym; omega) (hx y hym) hsy) (fun _ _ => ?_)
    have e := map_take_succ (fun g : List Int => ((bitsOf g : Nat) : Int)) hy
    refine KW.app1 (xs := (numsI (xs.take i)).map (Value.int .i64)) (v := .int .i64 (bitsOf y : Nat)) 0 1 rfl rfl rfl rfl rfl rfl rfl rfl rfl rfl rfl rfl rfl rfl rfl rfl rfl rfl rfl rfl rfl rfl rfl (by simp) (by show (_ + 1) * 8 ≤ _; first | omega | (simp only; omega)) (by first | omega | (simp only; omega)) ?_
    refine KW.nxt rfl rfl (fun H' g => ⟨(i + 1, _), by simp only; omega, by first | omega | (simp only; omega), ⟨rfl, by simp only [e, List.length_append, List.length_singleton]; rfl, congrArg (Value.int .i64) (inc64 (by omega)), trivial⟩, g.eqT (by simp only [e, List.map_append]; rfl)⟩)
  · obtain rfl : i = xs.length := by simp only at k1; omega
    rw [List.take_of_length_le (Nat.le_refl _)]
    refine KW.retM1 rfl rfl rfl rfl (fun H1 g => MkL.of g (j := 0) rfl (g.ge (H1 := H) (j := 0) rfl))
theorem l07Chain {q k : Nat} (hq : q ≤ 7) (hk : k < 2 ^ q) {gs chain : List (List Int)} (hl : chain.length ≤ 1048576) (hn : ∀ i, i < chain.length → (nums chain).getD i 0 < 2 ^ q) {a c a' c'} (ho : Kn.bool.Sl S H0 (.slice a (tabO gs (2 ^ q)).length c) (tabO gs (2 ^ q))) (hs : KI.Sl S H0 (.slice a' (numsI chain).length c') (numsI chain)) :
    Spec Try.prog S H0 136 [.slice a (tabO gs (2 ^ q)).length c, .int .i64 k, .slice a' (numsI chain).length c'] (fun v => v = .bool (tv (ChainC gs k (nums chain) chain.length))) := by
  refine Spec.of1 Try.func136 rfl (by kernel_rfl) rfl (fun H _ => ?_)
  have hp := small_pow (m := q) (by omega)
  have htl : (tabO gs (2 ^ q)).length = 2 ^ q := tabO_len _ _
  have hnl : (numsI chain).length = chain.length := by simp
  have hnl' : (nums chain).length = chain.length := by simp
  refine KW.lp rfl rfl (fun i : Nat => [(0, .slice a (tabO gs (2 ^ q)).length c), (1, .int .i64 k), (2, .slice a' (numsI chain).length c'), (7, .int .i64 (bef (nums chain) i : Nat)), (8, .int .i64 i)]) (fun i => i ≤ chain.length ∧ ∀ j, j < i → ChainAt k (nums chain) j) (fun i => chain.length - i) (0) (⟨by omega, fun j h => absurd h (by omega)⟩) ⟨rfl, rfl, rfl, rfl, rfl, trivial⟩ (fun i hi bE n => ?_)
  obtain ⟨hi, hj⟩ := hi
  have hb := bef_lt (q := q) (ns := nums chain) (fun i h => hn i (by omega)) i (by omega)
  refine KW.cnd rfl rfl (fun k1 => ?_) (fun k1 => ?_)
  · have k1 : (i : Int) < (numsI chain).length := k1
    have hx := numsI_at (chain := chain) (i := i) (by omega)
    have hxl := hn i (by omega)
    obtain ⟨x, hxe⟩ : ∃ x, (nums chain).getD i 0 = x := ⟨_, rfl⟩
    obtain ⟨b, hbe⟩ : ∃ b, bef (nums chain) i = b := ⟨_, rfl⟩
    rw [hxe] at hx hxl
    rw [hbe] at hb
    have bad : ¬ ChainAt k (nums chain) i → aout [Value.bool false] = .bool (tv (ChainC gs k (nums chain) chain.length)) := fun hc => by rw [tv_false (p := ChainC gs k (nums chain) chain.length) (fun hh => hc (hh.1 i (by omega)))]; rfl
    have e1 := and_i64 (a := x) (b := b) (by omega) (by omega)
    have e2 := and_i64 (a := x) (b := k) (by omega) (by omega)
    rw [hbe]
    refine KW.getI hs.up rfl rfl rfl rfl rfl rfl rfl rfl rfl rfl rfl rfl rfl rfl rfl rfl (by omega) (k1) (fun z1 hz1 => ?_)
    have hz1 : (numsI chain)[i]? = some z1 := hz1
    obtain rfl : ((x : Nat) : Int) = z1 := by rw [hx] at hz1; simpa using hz1
    refine KW.tstB rfl rfl (fun k2 => ?_) (fun k2 => ?_)
    · repeat first | refine KW.tT rfl rfl rfl ?_ | refine KW.tF rfl rfl rfl ?_
      first | refine KW.cT rfl rfl rfl ?_ | refine KW.cF rfl rfl rfl ?_
      exact KW.ret rfl rfl rfl rfl (bad (fun hc => by have := hc.1; rw [hxe, hbe] at this; simp at k2; omega))
    have k2 : x ≠ b := by simp at k2; omega
    refine KW.getI hs.up rfl rfl rfl rfl rfl rfl rfl rfl rfl rfl rfl rfl rfl rfl rfl rfl (by omega) (k1) (fun z2 hz2 => ?_)
    have hz2 : (numsI chain)[i]? = some z2 := hz2
    obtain rfl : ((x : Nat) : Int) = z2 := by rw [hx] at hz2; simpa using hz2
    refine KW.tstB rfl rfl (fun k3 => ?_) (fun k3 => ?_)
    · rw [e1] at k3
      repeat first | refine KW.tT rfl rfl rfl ?_ | refine KW.tF rfl rfl rfl ?_
      first | refine KW.cT rfl rfl rfl ?_ | refine KW.cF rfl rfl rfl ?_
      exact KW.ret rfl rfl rfl rfl (bad (fun hc => by have := hc.2.1; rw [hxe, hbe] at this; rw [this] at k3; simp at k3))
    rw [e1] at k3
    have k3 : x &&& b = b := by simp at k3; omega
    refine KW.getI hs.up rfl rfl rfl rfl rfl rfl rfl rfl rfl rfl rfl rfl rfl rfl rfl rfl (by omega) (k1) (fun z3 hz3 => ?_)
    have hz3 : (numsI chain)[i]? = some z3 := hz3
    obtain rfl : ((x : Nat) : Int) = z3 := by rw [hx] at hz3; simpa using hz3
    refine KW.cndB rfl rfl (fun k4 => ?_) (fun k4 => ?_)
    · rw [e2] at k4
      exact KW.ret rfl rfl rfl rfl (bad (fun hc => by have := hc.2.2; rw [hxe] at this; rw [this] at k4; simp at k4))
    rw [e2] at k4
    have k4 : x &&& k = 0 := by simp at k4; omega
    refine KW.getI hs.up rfl rfl rfl rfl rfl rfl rfl rfl rfl rfl rfl rfl rfl rfl rfl rfl (by omega) (k1) (fun z4 hz4 => ?_)
    have hz4 : (numsI chain)[i]? = some z4 := hz4
    obtain rfl : ((x : Nat) : Int) = z4 := by rw [hx] at hz4; simpa using hz4
    have hbs : bef (nums chain) (i + 1) = x := by rw [bef_succ, hxe]
    refine KW.nxt rfl rfl (fun H' g => ⟨i + 1, ⟨by omega, upto hj ⟨by rw [hxe, hbe]; exact k2, by rw [hxe, hbe]; exact k3, by rw [hxe]; exact k4⟩⟩, by first | omega | (simp only; omega), ⟨rfl, rfl, rfl, congrArg (Value.int .i64) (by rw [hbs]), congrArg (Value.int .i64) (inc64 (by omega)), trivial⟩, g⟩)
  · have k1 : ¬ (i : Int) < (numsI chain).length := k1
    obtain rfl : i = chain.length := by omega
    refine KW.getB ho.up rfl rfl rfl rfl rfl rfl rfl rfl rfl rfl rfl rfl rfl rfl rfl rfl (by omega) (by omega) (fun z hz => ?_)
    obtain rfl := tabO_get (q := bef (nums chain) chain.length) rfl hb hz
    refine KW.ret rfl rfl rfl rfl ?_
    show Value.bool (!tv (Opens gs (bef (nums chain) chain.length))) = _
    by_cases hO : Opens gs (bef (nums chain) chain.length)
    · rw [tv_true hO, tv_false (p := ChainC gs k (nums chain) chain.length) (fun hc => hc.2 hO)]; rfl
    · rw [tv_false hO, tv_true (p := ChainC gs k (nums chain) chain.length) ⟨hj, hO⟩]; rfl
theorem l07Right {q w : Nat} (hq : q ≤ 7) (hw : w < 2 ^ q) {gs chain : List (List Int)} (hl : chain.length ≤ 1048576) (hn : ∀ i, i < chain.length → (nums chain).getD i 0 < 2 ^ q) {i : Nat} (hi : i < chain.length) {a c a' c'} (ho : Kn.bool.Sl S H0 (.slice a (tabO gs (2 ^ q)).length c) (tabO gs (2 ^ q))) (hs : KI.Sl S H0 (.slice a' (numsI chain).length c') (numsI chain)) :
    Spec Try.prog S H0 141 [.slice a (tabO gs (2 ^ q)).length c, .slice a' (numsI chain).length c', .int .i64 i, .int .i64 w] (fun v => v = .bool (tv (Steps gs (bef (nums chain) i) ((nums chain).getD i 0) w))) := by
  refine Spec.of1 Try.func141 rfl (by kernel_rfl) rfl (fun H _ => ?_)
  have hp := small_pow (m := q) (by omega)
  have htl : (tabO gs (2 ^ q)).length = 2 ^ q := tabO_len _ _
  have hnl : (numsI chain).length = chain.length := by simp
  have hnl' : (nums chain).length = chain.length := by simp
  have hb := bef_lt (q := q) (ns := nums chain) (fun i h => hn i (by omega)) i (by omega)
  have hx := numsI_at (chain := chain) hi
  have hxl := hn i hi
  obtain ⟨x, hxe⟩ : ∃ x, (nums chain).getD i 0 = x := ⟨_, rfl⟩
  obtain ⟨b, hbe⟩ : ∃ b, bef (nums chain) i = b := ⟨_, rfl⟩
  rw [hxe] at hx hxl
  rw [hbe] at hb
  rw [hxe, hbe]
  have e1 := or_i64 (a := x) (b := w) (by omega) (by omega)
  have e2 := or_i64 (a := b) (b := w) (by omega) (by omega)
  have l1 : x ||| w < 2 ^ q := Nat.or_lt_two_pow hxl hw
  have l2 : b ||| w < 2 ^ q := Nat.or_lt_two_pow hb hw
  refine KW.cnd rfl rfl (fun k1 => ?g1) (fun k1 => ?g2)
  case' g1 =>
    have k1 : (i : Int) > 0 := k1
    have e0 : IntKind.i64.wrap ((i : Int) - 1) = ((i - 1 : Nat) : Int) := by rw [wr (by omega) (by omega)]; omega
    refine KW.getI hs.up rfl rfl rfl rfl rfl rfl rfl rfl rfl rfl rfl rfl rfl rfl rfl rfl (by rw [e0]; omega) (by rw [e0]; omega) (fun z0 hz0 => ?_)
    rw [e0] at hz0
    have hz0 : (numsI chain)[i - 1]? = some z0 := hz0
    rw [numsI_at (by omega)] at hz0
    have hb0 : bef (nums chain) i = (nums chain).getD (i - 1) 0 := by unfold bef; rw [if_neg (by omega)]
    obtain rfl : z0 = (b : Int) := by rw [← hbe, hb0]; simpa using hz0.symm
    have E2 := e2
  case' g2 =>
    have k1 : ¬ (i : Int) > 0 := k1
    have hb0 : b = 0 := by rw [← hbe]; unfold bef; rw [if_pos (by omega)]
    have E2 : IntKind.i64.wrap ((BitVec.ofInt IntKind.i64.bits (0 : Int) ||| BitVec.ofInt IntKind.i64.bits (w : Int)).toNat : Int) = ((b ||| w : Nat) : Int) := by rw [hb0]; exact or_i64 (a := 0) (b := w) (by omega) (by omega)
  all_goals
    refine KW.getI hs.up rfl rfl rfl rfl rfl rfl rfl rfl rfl rfl rfl rfl rfl rfl rfl rfl (by omega) (by omega) (fun z hz => ?_)
    have hz : (numsI chain)[i]? = some z := hz
    obtain rfl : ((x : Nat) : Int) = z := by rw [hx] at hz; simpa using hz
    refine KW.getB ho.up rfl rfl rfl rfl rfl rfl rfl rfl rfl rfl rfl rfl rfl rfl rfl rfl (by rw [e1]; omega) (by rw [e1]; omega) (fun y hy => ?_)
    obtain rfl := tabO_get e1 l1 hy
    refine KW.tstB rfl rfl (fun k2 => ?_) (fun k2 => ?_)
  all_goals first
    | (refine KW.ret rfl rfl rfl rfl ?_
       rw [tv_false (p := Steps gs b x w) (fun hc => by rw [tv_true hc.1] at k2; cases k2)]; rfl)
    | (refine KW.getB ho.up rfl rfl rfl rfl rfl rfl rfl rfl rfl rfl rfl rfl rfl rfl rfl rfl (by rw [E2]; omega) (by rw [E2]; omega) (fun y2 hy2 => ?_)
       obtain rfl := tabO_get E2 l2 hy2
       refine KW.ret rfl rfl rfl rfl ?_
       show Value.bool (!tv (Opens gs (b ||| w))) = _
       by_cases hO : Opens gs (b ||| w)
       · rw [tv_true hO, tv_false (p := Steps gs b x w) (fun hc => hc.2 hO)]; rfl
       · rw [tv_false hO, tv_true (p := Steps gs b x w) ⟨tv_iff.1 k2, hO⟩]; rfl)
end
/-- The least parts, as numbers. -/
noncomputable def lwI (gs : List (List Int)) (k : Nat) (ns : List Nat) (n : Nat) : List Int := (List.range n).map fun i => ((leastW gs k (bef ns i) (ns.getD i 0) : Nat) : Int)
def Cnd (gs : List (List Int)) (k b x v : Nat) : Prop := k &&& v = v ∧ Steps gs b x v
theorem cnd_tv {gs : List (List Int)} {k b x v : Nat} {t1 t2 : Bool} : True := trivial
section
variable {S : Ids} {H0 : AH}
theorem l07Withs {q k : Nat} (hq : q ≤ 7) (hk : k < 2 ^ q) {gs chain : List (List Int)} (hl : chain.length ≤ 1048576) (hn : ∀ i, i < chain.length → (nums chain).getD i 0 < 2 ^ q) {a c a' c'} (ho : Kn.bool.Sl S H0 (.slice a (tabO gs (2 ^ q)).length c) (tabO gs (2 ^ q))) (hs : KI.Sl S H0 (.slice a' (numsI chain).length c') (numsI chain)) :
    SpecM Try.prog S H0 137 [.slice a (tabO gs (2 ^ q)).length c, .int .i64 k, .slice a' (numsI chain).length c'] (fun n v H1 => ∃ (ok : Bool) (v' : Value), v = .tuple #[v', .bool ok] ∧ ((ok = true ∧ (∀ i, i < chain.length → ∃ w, Least gs k (bef (nums chain) i) ((nums chain).getD i 0) w true) ∧ MkL (lwI gs k (nums chain) chain.length) n v' H1) ∨ (ok = false ∧ (∃ i, i < chain.length ∧ ¬ ∃ w, Least gs k (bef (nums chain) i) ((nums chain).getD i 0) w true) ∧ ∃ a n c, v' = .slice a n c))) := by
  refine SpecM.of1 Try.func137 rfl (by kernel_rfl) rfl (fun H _ => ?_)
  have hp := small_pow (m := q) (by omega)
  have hnl : (numsI chain).length = chain.length := by simp
  refine KW.lit rfl rfl rfl rfl rfl rfl rfl rfl rfl rfl [] rfl rfl (fun v hv => by simp at hv) rfl ?_
  refine KW.lpM rfl rfl (fun s : Nat × Nat => [(0, .slice a (tabO gs (2 ^ q)).length c), (1, .int .i64 k), (2, .slice a' (numsI chain).length c'), (8, .slice (some ⟨s.2, 0, some 1⟩) (lwI gs k (nums chain) s.1).length (lwI gs k (nums chain) s.1).length), (9, .int .i64 s.1)]) (fun s => Low H.n) (fun s => H) (fun s => [(s.2, ⟨_, true, (lwI gs k (nums chain) s.1).map (Value.int .i64)⟩)]) (fun s => s.1 ≤ chain.length ∧ ∀ j, j < s.1 → ∃ w, Least gs k (bef (nums chain) j) ((nums chain).getD j 0) w true) (fun s => chain.length - s.1) ((0, _)) (⟨by simp, fun j h => absurd h (by simp)⟩) ⟨rfl, rfl, rfl, rfl, rfl, trivial⟩ rfl rfl (rfl) (fun s hi bE n => ?_)
  obtain ⟨i, o⟩ := s
  obtain ⟨hi, hj⟩ := hi
  simp only at hi hj
  have hll : (lwI gs k (nums chain) i).length = i := by simp [lwI]
  refine KW.cnd rfl rfl (fun k1 => ?_) (fun k1 => ?_)
  · have k1 : (i : Int) < (numsI chain).length := k1
    have hil : i < chain.length := by omega
    obtain ⟨x, hxe⟩ : ∃ x, (nums chain).getD i 0 = x := ⟨_, rfl⟩
    obtain ⟨b, hbe⟩ : ∃ b, bef (nums chain) i = b := ⟨_, rfl⟩
    -- the search
    refine KW.lp rfl rfl (fun s : Nat × Int => [(0, .slice a (tabO gs (2 ^ q)).length c), (1, .int .i64 k), (2, .slice a' (numsI chain).length c'), (8, .slice (some ⟨o, 0, some 1⟩) (lwI gs k (nums chain) i).length (lwI gs k (nums chain) i).length), (9, .int .i64 i), (10, .int .i64 s.2), (11, .int .i64 s.1)]) (fun s => s.1 ≤ k + 1 ∧ ((s.2 = -1 ∧ ∀ v, v < s.1 → ¬ (k &&& v = v ∧ Steps gs b x v)) ∨ (∃ w : Nat, s.2 = w ∧ Least gs k b x w true))) (fun s => k + 1 - s.1) ((0, -1)) (⟨by simp only; omega, .inl ⟨rfl, fun v hv => absurd hv (by simp)⟩⟩) ⟨rfl, rfl, rfl, rfl, rfl, rfl, rfl, trivial⟩ (fun s hi bE n => ?_)
    obtain ⟨w, f⟩ := s
    obtain ⟨hw, hf⟩ := hi
    simp only at hw hf
    have done : ¬ ((w : Int) ≤ k ∧ f < 0) → (f = -1 ∧ ∀ v, v ≤ k → ¬ (k &&& v = v ∧ Steps gs b x v)) ∨ (∃ w : Nat, f = w ∧ Least gs k b x w true) := fun hc => by
      rcases hf with ⟨h1, h2⟩ | h
      · exact .inl ⟨h1, fun v hv => h2 v (by omega)⟩
      · exact .inr h
    have fin : ((f = -1 ∧ ∀ v, v ≤ k → ¬ (k &&& v = v ∧ Steps gs b x v)) ∨ (∃ w : Nat, f = w ∧ Least gs k b x w true)) → True := fun _ => trivial
    refine KW.tst rfl rfl (fun k2 => ?_) (fun k2 => ?_)
    · have k2 : (w : Int) ≤ k := k2
      refine KW.cnd rfl rfl (fun k3 => ?_) (fun k3 => ?_)
      · have k3 : f < 0 := k3
        rcases hf with ⟨rfl, h2⟩ | ⟨w0, rfl, _⟩
        · have e1 := and_i64 (a := w) (b := k) (by omega) (by omega)
          refine KW.tstB rfl rfl (fun k4 => ?_) (fun k4 => ?_)
          · rw [e1] at k4
            have k4 : k &&& w = w := by rw [Nat.and_comm]; simp at k4; omega
            refine KW.callE rfl rfl rfl rfl rfl (l07Right hq (by omega) hl hn hil ho.up hs.up) (fun _ _ => ?_)
            rw [hxe, hbe]
            refine KW.cndB rfl rfl (fun k5 => ?_) (fun k5 => ?_)
            · have k5 := tv_iff.1 k5
              refine KW.nxt rfl rfl (fun H' g => ⟨(w + 1, (w : Int)), ⟨by simp only; omega, .inr ⟨w, rfl, .inl ⟨rfl, by omega, ⟨k4, k5⟩, h2⟩⟩⟩, by first | omega | (simp only; omega), ⟨rfl, rfl, rfl, rfl, rfl, rfl, congrArg (Value.int .i64) (inc64 (by omega)), trivial⟩, g⟩)
            · have k5 : ¬ Steps gs b x w := fun hx => by rw [tv_true hx] at k5; cases k5
              refine KW.nxt rfl rfl (fun H' g => ⟨(w + 1, -1), ⟨by simp only; omega, .inl ⟨rfl, upto h2 (fun hc => k5 hc.2)⟩⟩, by first | omega | (simp only; omega), ⟨rfl, rfl, rfl, rfl, rfl, rfl, congrArg (Value.int .i64) (inc64 (by omega)), trivial⟩, g⟩)
          · rw [e1] at k4
            have k4 : ¬ k &&& w = w := by rw [Nat.and_comm]; simp at k4; omega
            refine KW.cF rfl rfl (by first | (simp; done) | decide) ?_
            refine KW.nxt rfl rfl (fun H' g => ⟨(w + 1, -1), ⟨by simp only; omega, .inl ⟨rfl, upto h2 (fun hc => k4 hc.1)⟩⟩, by first | omega | (simp only; omega), ⟨rfl, rfl, rfl, rfl, rfl, rfl, congrArg (Value.int .i64) (inc64 (by omega)), trivial⟩, g⟩)
        · omega
      · have k3 : ¬ f < 0 := k3
        have hd := done (fun hc => k3 hc.2)
        rcases hd with ⟨h1, _⟩ | ⟨w0, rfl, hle⟩
        · omega
        · refine KW.no rfl rfl (by omega) ?_
          have e := range_map_succ' (fun i => ((leastW gs k (bef (nums chain) i) ((nums chain).getD i 0) : Nat) : Int)) i
          simp only [hxe, hbe, leastW_eq hle] at e
          refine KW.app1 (xs := (lwI gs k (nums chain) i).map (Value.int .i64)) (v := .int .i64 w0) 0 1 rfl rfl rfl rfl rfl rfl rfl rfl rfl rfl rfl rfl rfl rfl rfl rfl rfl rfl rfl rfl rfl rfl rfl (by simp) (by show (_ + 1) * 8 ≤ _; first | omega | (simp only; omega)) (by first | omega | (simp only; omega)) ?_
          refine KW.nxt rfl rfl (fun H' g => ⟨(i + 1, _), ⟨by simp only; omega, upto hj ⟨w0, by rw [hxe, hbe]; exact hle⟩⟩, by first | omega | (simp only; omega), ⟨rfl, rfl, rfl, by simp only [lwI, e, List.length_append, List.length_singleton]; rfl, congrArg (Value.int .i64) (inc64 (by omega)), trivial⟩, g.eqT (by simp only [lwI, e, List.map_append]; rfl)⟩)
    · have k2 : ¬ (w : Int) ≤ k := k2
      refine KW.cF rfl rfl (by first | (simp; done) | decide) ?_
      have hd := done (fun hc => k2 hc.1)
      rcases hd with ⟨rfl, hno⟩ | ⟨w0, rfl, hle⟩
      · refine KW.yes rfl rfl (show (-1 : Int) < 0 by decide) ?_
        refine KW.retM1 rfl rfl rfl rfl (fun H1 g => ⟨false, _, rfl, .inr ⟨rfl, ⟨i, hil, fun ⟨w, hw⟩ => by rw [hxe, hbe] at hw; rcases hw with ⟨_, h1, h2, _⟩ | ⟨h, _⟩; exact hno w h1 h2; cases h⟩, _, _, _, rfl⟩⟩)
      · refine KW.no rfl rfl (by omega) ?_
        have e := range_map_succ' (fun i => ((leastW gs k (bef (nums chain) i) ((nums chain).getD i 0) : Nat) : Int)) i
        simp only [hxe, hbe, leastW_eq hle] at e
        refine KW.app1 (xs := (lwI gs k (nums chain) i).map (Value.int .i64)) (v := .int .i64 w0) 0 1 rfl rfl rfl rfl rfl rfl rfl rfl rfl rfl rfl rfl rfl rfl rfl rfl rfl rfl rfl rfl rfl rfl rfl (by simp) (by show (_ + 1) * 8 ≤ _; first | omega | (simp only; omega)) (by first | omega | (simp only; omega)) ?_
        refine KW.nxt rfl rfl (fun H' g => ⟨(i + 1, _), ⟨by simp only; omega, upto hj ⟨w0, by rw [hxe, hbe]; exact hle⟩⟩, by first | omega | (simp only; omega), ⟨rfl, rfl, rfl, by simp only [lwI, e, List.length_append, List.length_singleton]; rfl, congrArg (Value.int .i64) (inc64 (by omega)), trivial⟩, g.eqT (by simp only [lwI, e, List.map_append]; rfl)⟩)
  · have k1 : ¬ (i : Int) < (numsI chain).length := k1
    obtain rfl : i = chain.length := by omega
    refine KW.retM1 rfl rfl rfl rfl (fun H1 g => ⟨true, _, rfl, .inl ⟨rfl, hj, MkL.of g (j := 0) rfl (g.ge (H1 := H) (j := 0) rfl)⟩⟩)
end
end Go.Proofs.Ytijmkfnmdhpakaa.Am
/- Contracts: SequenceFor of the reference, its answer. Each holds under its own conditions. -/
set_option linter.unusedVariables false
set_option linter.unusedSimpArgs false
set_option maxRecDepth 20000
namespace Go.Proofs.Ytijmkfnmdhpakaa.Am
open Go Go.RowKit Go.Proofs
section
variable {S : Ids} {H0 : AH}
theorem l07Lists {m : Nat} (hm : m ≤ 63) {a c} {xs : List Int} (hl : xs.length ≤ 1048576) (hx : ∀ x ∈ xs, 0 ≤ x ∧ x < 4611686018427387904) (hs : KI.Sl S H0 (.slice a xs.length c) xs) : SpecM Try.prog S H0 138 [.slice a xs.length c, .int .i64 m] (MkSS (xs.map fun v => hold v.toNat m)) := by
  refine SpecM.of1 Try.func138 rfl (by kernel_rfl) rfl (fun H _ => ?_)
  refine KW.lit rfl rfl rfl rfl rfl rfl rfl rfl rfl rfl [] rfl rfl (fun v hv => by simp at hv) rfl ?_
  refine KW.lpM rfl rfl (fun s : RwS => [(0, .slice a xs.length c), (1, .int .i64 m), (5, .slice (some ⟨s.o, 0, some 1⟩) s.i s.i), (6, .int .i64 s.i)]) (fun s => s.S) (fun s => s.A) (fun s => [(s.o, ⟨_, true, s.cs⟩)]) (fun s => RwI (fun v => hold v.toNat m) xs H (Low H.n) H s) (fun s => xs.length - s.i) (⟨0, Low H.n, H, fun _ => False, [], _⟩) (RwI.start) ⟨rfl, rfl, rfl, rfl, trivial⟩ rfl rfl (rfl) (fun s hi bE n => ?_)
  haveI : Stp (Low H.n) H s.S s.A := ⟨hi.old⟩
  have hle := hi.le
  have hcl := hi.b.len
  rw [List.length_map, List.length_take] at hcl
  refine KW.cnd rfl rfl (fun k1 => ?_) (fun k1 => ?_)
  · refine KW.getI hs.up rfl rfl rfl rfl rfl rfl rfl rfl rfl rfl rfl rfl rfl rfl rfl rfl (by omega) (k1) (fun y hy => ?_)
    have hy : xs[s.i]? = some y := hy
    have hyb := hx y (List.mem_of_getElem? hy)
    refine KW.ids (fun hlow hvar => ?_)
    refine KW.fact (fun _ g => g.nle (H1 := H)) (fun hn0 => ?_)
    obtain ⟨z, rfl⟩ : ∃ z : Nat, y = z := ⟨y.toNat, by omega⟩
    refine KW.callN1 rfl rfl rfl rfl rfl (l06Holders (x := z) (m := m) (by omega) hm) (fun v HC SC mC _ _ hv => ?_)
    obtain ⟨a5, c5, rfl, hC⟩ := hv
    refine KW.app1 (xs := s.cs) (v := .slice a5 (hold z m).length c5) 0 1 rfl rfl rfl rfl rfl rfl rfl rfl rfl rfl rfl rfl rfl rfl rfl rfl rfl rfl rfl rfl rfl rfl rfl (by omega) (by show (_ + 1) * 24 ≤ _; omega) (by first | omega | (simp only; omega)) ?_
    exact KW.nxt rfl rfl (fun H' g => ⟨_, hi.next (inferInstance : Stp s.S s.A SC HC).st inferInstance hlow hn0 hy hC, by simp only; omega, ⟨rfl, rfl, rfl, congrArg (Value.int .i64) (inc64 (by omega)), trivial⟩, g⟩)
  · have he : s.i = xs.length := by omega
    refine KW.retM1 rfl rfl rfl rfl (fun H1 g => ?_)
    have := hi.ml he g (j := 0) rfl (g.ge (H1 := H) (j := 0) rfl)
    rw [← he] at this
    exact ⟨_, _, by rw [List.length_map, ← he]; rfl, by rw [List.length_map, ← he]; exact this⟩
theorem chain_iff {gs : List (List Int)} {k q : Nat} {chain : List (List Int)} (h0 : ¬ Opens gs 0) : (ChainC gs k (nums chain) chain.length ∧ ∀ i, i < chain.length → ∃ w, Least gs k (bef (nums chain) i) ((nums chain).getD i 0) w true) ↔ ∀ i, i < chain.length → OkAt gs k (nums chain) i := by
  constructor
  · rintro ⟨⟨h1, h2⟩, h3⟩ i hi
    -- each set lies in the last one
    have up : ∀ d j, j + d = chain.length → bef (nums chain) j &&& bef (nums chain) chain.length = bef (nums chain) j := fun d => by
      induction d with
      | zero => intro j hj; rw [show j = chain.length by omega]; exact Nat.and_self _
      | succ d ih =>
        intro j hj
        have h4 := ih (j + 1) (by omega)
        have h5 := (h1 j (by omega)).2.1
        rw [bef_succ] at h4
        have h6 : bef (nums chain) j = bef (nums chain) j &&& (nums chain).getD j 0 := by rw [Nat.and_comm]; exact h5.symm
        rw [h6, Nat.and_assoc, h4]
    have h4 := up (chain.length - (i + 1)) (i + 1) (by omega)
    rw [bef_succ] at h4
    have h5 := h1 i hi
    exact ⟨⟨h5.2.2, h5.1, h5.2.1, fun ho => h2 (opens_up ho h4)⟩, h3 i hi⟩
  · intro h
    refine ⟨⟨fun i hi => ⟨(h i hi).1.2.1, (h i hi).1.2.2.1, (h i hi).1.1⟩, ?_⟩, fun i hi => (h i hi).2⟩
    rcases Nat.eq_zero_or_pos chain.length with h4 | h4
    · rw [h4]; exact h0
    · have h5 := (h (chain.length - 1) (by omega)).1.2.2.2
      rw [show chain.length = chain.length - 1 + 1 by omega, bef_succ]
      exact h5
theorem notEmpty {m : Int} {gs : List (List Int)} (h : codeF m gs = 0) : ¬ Opens gs 0 := by
  have hf := codeF_ok h
  rintro ⟨g, hg, hb⟩
  rw [Nat.zero_and] at hb
  -- the group is empty, and so is the first one
  have hge : g = [] := by
    cases g with
    | nil => rfl
    | cons x g =>
      obtain ⟨i, hi⟩ := List.getElem?_of_mem hg
      have hx : 0 ≤ x := (hf.below _ hg x List.mem_cons_self).1
      have := (bitsOf_test (g := x :: g) (fun y hy => (hf.below _ hg y hy).1) x.toNat).2 (by have : ((x.toNat : Nat) : Int) = x := by omega
                                                                                             rw [this]; exact List.mem_cons_self)
      rw [← hb] at this
      simp at this
  subst hge
  obtain ⟨i, hi⟩ := List.getElem?_of_mem hg
  have hil := (List.getElem?_eq_some_iff.1 hi).1
  rcases Nat.eq_zero_or_pos i with h0 | h0
  · subst h0
    unfold codeF at h
    rw [if_pos (tv_true hf)] at h
    have e : gs.getD 0 [] = [] := getDL_of hi
    split at h
    · cases h
    · split at h
      · cases h
      · rw [e] at h; simp at h
  · have := (hf.grp i hil).2 h0
    rw [getDL_of hi] at this
    revert this
    cases gs.getD (i - 1) [] <;> simp [lexB]
theorem holdUp {x q m : Nat} (hx : x < 2 ^ q) (hq : q ≤ m) : hold x m = hold x q := by
  have := hold_up hx (m - q)
  rw [show q + (m - q) = m by omega] at this
  exact this
theorem spec_SequenceFor {y : T_Family} {known : List Int} {chain : List (List Int)} {ds : List Value} {a1 c1 a2 c2} (hF : B_Family y) (hK : B_Int64S known) (hC : B_Int64SS chain) (h : K_Family.R S H0 y ds) (k : K_Int64S.R S H0 known [.slice a1 known.length c1]) (k' : K_Int64SS.R S H0 chain [.slice a2 chain.length c2]) :
    SpecM Try.prog S H0 60 [.agg ds.toArray, .slice a1 known.length c1, .slice a2 chain.length c2] (MkQC (r0_SequenceFor y known chain) (r1_SequenceFor y known chain)) := by
  obtain ⟨a3, c3, rfl, h1⟩ := split_Family h
  have s1 := sl1 h1
  have s2 := sl1 k
  have s3 := sl1 k'
  obtain ⟨m, gs⟩ := y
  simp only at s1 ⊢
  have hsm : Sml gs := hF.2
  have hkl : known.length ≤ 1048576 := hK
  have hcl := hC.len
  refine SpecM.of1 Try.func60 rfl (by kernel_rfl) rfl (fun H _ => ?_)
  refine KW.callV1 rfl rfl rfl rfl rfl (fun H1 g _ => l07Family m hsm (g.blk (j := 0) rfl).2 (g.blk (j := 0) rfl).1 s1.up) (fun _ _ => ?_)
  by_cases hc : codeF m gs = 0
  · rw [hc]
    have hf := codeF_ok hc
    have hm1 := hf.h1
    have hm7 := hf.h2
    obtain ⟨q, hq⟩ : ∃ q : Nat, m = q := ⟨m.toNat, by omega⟩
    have hb : Below' q gs := by have := hf.below; rw [hq] at this; simpa using this
    have h0 := notEmpty hc
    have h5 : ¬ m > 5 := fun hx => by unfold codeF at hc; rw [if_pos (tv_true hf), if_pos hx] at hc; cases hc
    have hp := small_pow (m := q) (by omega)
    refine KW.cF rfl rfl (by first | (simp; done) | decide) ?_
    refine KW.callV1 rfl rfl rfl rfl rfl (fun H1 g _ => l07Group m ⟨hm1, hm7⟩ ((g.has (j := 0) rfl rfl).take (vs := [_])) hkl s2.up) (fun _ _ => ?_)
    by_cases hk1 : Rises 0 (m - 1) known
    · rw [tv_true hk1]
      refine KW.tF rfl rfl (by first | (simp; done) | decide) ?_
      refine KW.callV1 rfl rfl rfl rfl rfl (fun H1 g _ => l07Groups m ⟨hm1, hm7⟩ ((g.has (j := 0) rfl rfl).take (vs := [_])) hC s3.up) (fun _ _ => ?_)
      by_cases hk2 : ∀ g ∈ chain, Rises 0 (m - 1) g
      · rw [tv_true hk2]
        refine KW.cF rfl rfl (by first | (simp; done) | decide) ?_
        have hkb := rises_lt hq hk1
        have hkq : bitsOf known < 2 ^ q := bitsOf_lt (fun x hx => by have := hkb x hx; omega)
        have hnq : ∀ i, i < chain.length → (nums chain).getD i 0 < 2 ^ q := fun i hi => by
          rw [List.getD_eq_getElem?_getD, List.getElem?_map, List.getElem?_eq_getElem hi]
          exact bitsOf_lt (fun x hx => by have := rises_lt hq (hk2 _ (List.getElem_mem hi)) x hx; omega)
        refine KW.callNV1 rfl rfl rfl rfl rfl (fun H1 g _ => l07Open (m := q) (by omega) hsm hb (g.blk (j := 0) rfl).2 (by subst hq; exact (g.blk (j := 0) rfl).1) s1.up) (fun v HO SO mO _ _ hv => ?_)
        obtain ⟨a4, c4, rfl, hO⟩ := hv
        refine KW.callE rfl rfl rfl rfl rfl (l07Bits (m := q) (by omega) (by omega) hkb s2.up) (fun _ _ => ?_)
        refine KW.callN1 rfl rfl rfl rfl rfl (l07Numbers (q := q) (by omega) hC (fun g hg => rises_lt hq (hk2 g hg)) s3.up) (fun v HN SN mN _ _ hv => ?_)
        obtain ⟨a5, c5, rfl, hN⟩ := hv
        refine KW.callE rfl rfl rfl rfl rfl (l07Chain (q := q) (by omega) hkq hcl hnq hO.up hN.ups) (fun _ _ => ?_)
        have hiff := chain_iff (gs := gs) (k := bitsOf known) (q := q) (chain := chain) h0
        by_cases hch : ChainC gs (bitsOf known) (nums chain) chain.length
        · rw [tv_true hch]
          refine KW.cF rfl rfl (by first | (simp; done) | decide) ?_
          refine KW.callN1 rfl rfl rfl rfl rfl (l07Withs (q := q) (by omega) hkq hcl hnq hO.up hN.ups) (fun v HW SW mW _ _ hv => ?_)
          obtain ⟨ok, v', rfl, hW⟩ := hv
          rcases hW with ⟨rfl, hall, a6, c6, rfl, hW⟩ | ⟨rfl, hno, a6, n6, c6, rfl⟩
          · refine KW.cF rfl rfl (by first | (simp; done) | decide) ?_
            obtain ⟨e1, e0⟩ := sf_ok (y := (m, gs)) (known := known) (chain := chain) hc ⟨hk1, hk2⟩ (hiff.1 ⟨hch, hall⟩)
            rw [e1, e0]
            have hm63 : q ≤ 63 := by omega
            subst hq
            refine KW.callN1 rfl rfl rfl rfl rfl (l06Holders (x := bitsOf known) (m := q) (by omega) hm63) (fun v HK SK mK _ _ hv => ?_)
            obtain ⟨a7, c7, rfl, hKk⟩ := hv
            rw [hold_bits q hk1] at hKk ⊢
            refine KW.callN1 rfl rfl rfl rfl rfl (l07Lists (m := q) hm63 (by rw [List.length_map]; exact hcl) (fun x hx => by obtain ⟨g, hg, rfl⟩ := List.mem_map.1 hx; have := bits256 (q := q) (by omega) (rises_lt rfl (hk2 g hg)); omega) hN.ups) (fun v HL SL mL _ _ hv => ?_)
            obtain ⟨a8, c8, rfl, hL⟩ := hv
            have eL : ((numsI chain).map fun v => hold v.toNat q) = chain := by
              rw [List.map_map]
              refine Eq.trans (List.map_congr_left (g := id) fun g hg => ?_) (List.map_id _)
              show hold ((bitsOf g : Nat) : Int).toNat q = g
              rw [Int.toNat_natCast]
              exact hold_bits q (hk2 g hg)
            rw [eL] at hL ⊢
            have lwx : ∀ i, i < chain.length → leastW gs (bitsOf known) (bef (nums chain) i) ((nums chain).getD i 0) < 2 ^ q := fun i hi => by
              obtain ⟨w, hw⟩ := hall i hi
              rw [leastW_eq hw]
              rcases hw with ⟨_, h, _⟩ | ⟨h, _⟩
              · omega
              · cases h
            refine KW.callN1 rfl rfl rfl rfl rfl (l07Lists (m := q) hm63 (by simp [lwI]; exact hcl) (fun x hx => by obtain ⟨i, hi, rfl⟩ := List.mem_map.1 hx; have := lwx i (List.mem_range.1 hi); omega) hW.ups) (fun v HM SM mM _ _ hv => ?_)
            obtain ⟨a9, c9, rfl, hM⟩ := hv
            have eM : ((lwI gs (bitsOf known) (nums chain) chain.length).map fun v => hold v.toNat q) = withs gs (bitsOf known) (nums chain) chain.length := by
              unfold lwI withs withAt
              rw [List.map_map]
              refine List.map_congr_left fun i hi => ?_
              show hold ((leastW _ _ _ _ : Nat) : Int).toNat q = _
              rw [Int.toNat_natCast]
              exact (holdUp (lwx i (List.mem_range.1 hi)) (by omega)).symm
            rw [eM] at hM ⊢
            refine KW.build rfl rfl rfl rfl rfl (built_Seq3 _ _ _ _ _ _ _ _ _) ?_
            refine KW.retM1 rfl rfl rfl rfl (fun H1 g => ?_)
            have r1 : KI.Ml (New _ HK.n) H1 _ known := ml1 (g.keep (ml1' hKk))
            have r2 : KI.ml.Ml (New _ HL.n) H1 _ chain := ml1 (g.keep (ml1' hL))
            have r3 : KI.ml.Ml (New _ HM.n) H1 _ _ := ml1 (g.keep (ml1' hM))
            refine ⟨_, rfl, mpR (cs := [.slice a7 known.length c7]) (Y := New HK.n H1.n) (ml1' r1) (mpR (cs := [.slice a8 chain.length c8]) (ml1' r2) (ml1' r3) (g.inn (H := HL) (fun _ p => by have := p.1; omega)) (g.inn (H := HM) (fun _ p => by have := p.1; omega)) (fun id p r => by have := p.2; have := r.1; omega)) (g.inn (H := HK) (fun _ p => by have := p.1; omega)) (fun id p => ⟨by have := p.1; omega, p.2⟩) (fun id p r => by have := p.2; have := r.1; omega)⟩
          · refine KW.cT rfl rfl (by first | (simp; done) | decide) ?_
            obtain ⟨e1, e0⟩ := sf_proof (y := (m, gs)) (known := known) (chain := chain) hc ⟨hk1, hk2⟩ (fun hall => by obtain ⟨i, hi, hn⟩ := hno; exact hn (hall i hi).2)
            rw [e1, e0]
            refine KW.build rfl rfl rfl rfl rfl (built_Seq0) ?_
            refine KW.retM1 rfl rfl rfl rfl (fun H1 g => ?_)
            exact MkQC.nil rfl
        · rw [tv_false hch]
          refine KW.cT rfl rfl (by first | (simp; done) | decide) ?_
          obtain ⟨e1, e0⟩ := sf_proof (y := (m, gs)) (known := known) (chain := chain) hc ⟨hk1, hk2⟩ (fun hall => hch (hiff.2 hall).1)
          rw [e1, e0]
          refine KW.build rfl rfl rfl rfl rfl (built_Seq0) ?_
          refine KW.retM1 rfl rfl rfl rfl (fun H1 g => ?_)
          exact MkQC.nil rfl
      · rw [tv_false hk2]
        refine KW.cT rfl rfl (by first | (simp; done) | decide) ?_
        obtain ⟨e1, e0⟩ := sf_range (y := (m, gs)) (known := known) (chain := chain) hc (fun hx => hk2 hx.2)
        rw [e1, e0]
        refine KW.build rfl rfl rfl rfl rfl (built_Seq0) ?_
        refine KW.retM1 rfl rfl rfl rfl (fun H1 g => ?_)
        exact MkQC.nil rfl
    · rw [tv_false hk1]
      refine KW.tT rfl rfl (by first | (simp; done) | decide) ?_
      refine KW.cT rfl rfl (by first | (simp; done) | decide) ?_
      obtain ⟨e1, e0⟩ := sf_range (y := (m, gs)) (known := known) (chain := chain) hc (fun hx => hk1 hx.1)
      rw [e1, e0]
      refine KW.build rfl rfl rfl rfl rfl (built_Seq0) ?_
      refine KW.retM1 rfl rfl rfl rfl (fun H1 g => ?_)
      exact MkQC.nil rfl
  · refine KW.cndB rfl rfl (fun k2 => ?_) (fun k2 => ?_)
    · obtain ⟨e1, e0⟩ := sf_code (y := (m, gs)) (known := known) (chain := chain) hc
      rw [e1, e0]
      refine KW.build rfl rfl rfl rfl rfl (built_Seq0) ?_
      refine KW.retM1 rfl rfl rfl rfl (fun H1 g => ?_)
      exact MkQC.nil rfl
    · exact absurd (by simpa using k2) hc
theorem bound_SequenceFor {y : T_Family} {known : List Int} {chain : List (List Int)} (hF : B_Family y) (hK : B_Int64S known) (hC : B_Int64SS chain) : B_Sequence (r0_SequenceFor y known chain) := by
  unfold r0_SequenceFor
  split
  · rename_i h
    unfold r1_SequenceFor at h
    split at h
    · rename_i hc
      split at h
      · rename_i h2
        have h2 := tv_iff.1 h2
        split at h
        · rename_i h3
          have h3 := tv_iff.1 h3
          have hf := codeF_ok hc
          obtain ⟨q, hq⟩ : ∃ q : Nat, y.1 = q := ⟨y.1.toNat, by have := hf.h1; omega⟩
          have hq7 : q ≤ 7 := by have := hf.h2; omega
          have hp := small_pow (m := q) (by omega)
          -- the numbers of the chain rise
          have up : ∀ i, i ≤ chain.length → i ≤ bef (nums chain) i := fun i => by
            induction i with
            | zero => intro _; exact Nat.zero_le _
            | succ i ih =>
              intro hi
              have h4 := ih (by omega)
              have h5 := (h3 i (by omega)).1
              rw [bef_succ]
              have h6 : bef (nums chain) i ≤ (nums chain).getD i 0 := by rw [← h5.2.2.1]; exact Nat.and_le_left
              have h7 := h5.2.1
              omega
          have h8 := up chain.length (Nat.le_refl _)
          have h9 := bef_lt (q := q) (ns := nums chain) (fun i hi => by
            have hi : i < chain.length := by simpa using hi
            rw [List.getD_eq_getElem?_getD, List.getElem?_map, List.getElem?_eq_getElem hi]
            exact bitsOf_lt (fun x hx => by have := rises_lt hq (h2.2 _ (List.getElem_mem hi)) x hx; omega)) chain.length (by simp)
          refine ⟨hK, hC, ⟨?_, ?_⟩⟩
          · show (withs _ _ _ _).length ≤ _
            simp [withs]; omega
          · have hs : ∀ n, sum (lens (withs y.2 (bitsOf known) (nums chain) n)) ≤ 7 * n := fun n => by
              induction n with
              | zero => exact Nat.le_refl _
              | succ n ih =>
                have e : withs y.2 (bitsOf known) (nums chain) (n + 1) = withs y.2 (bitsOf known) (nums chain) n ++ [withAt y.2 (bitsOf known) (nums chain) n] := by unfold withs; rw [List.range_succ, List.map_append]; rfl
                have ha : ∀ (l : List Nat) (x : Nat), sum (l ++ [x]) = sum l + x := fun l x => by
                  induction l with
                  | nil => simp [sum]
                  | cons z l ih => simp only [List.cons_append, sum, ih]; omega
                have hw : (withAt y.2 (bitsOf known) (nums chain) n).length ≤ 7 := hold_len _ _
                rw [e]
                simp only [lens, List.map_append, List.map_cons, List.map_nil] at ih ⊢
                rw [ha]
                omega
            have := hs chain.length
            show sum (lens (withs _ _ _ _)) ≤ _
            omega
        · cases h
      · cases h
    · rename_i hc
      exact absurd h hc
  · exact ⟨by show 0 ≤ _; omega, ⟨by show 0 ≤ _; omega, by show 0 ≤ _; omega⟩, ⟨by show 0 ≤ _; omega, by show 0 ≤ _; omega⟩⟩
end
end Go.Proofs.Ytijmkfnmdhpakaa.Am
/- Groups and their numbers. Each holds under its own conditions. -/
set_option linter.unusedVariables false
set_option linter.unusedSimpArgs false
namespace Go.Proofs.Ytijmkfnmdhpakaa.Am
open Go Go.RowKit Go.Proofs
theorem bits_hold {x q : Nat} (hx : x < 2 ^ q) : bitsOf (hold x q) = x := by
  refine Nat.eq_of_testBit_eq fun i => ?_
  rw [Bool.eq_iff_iff, bitsOf_test (fun y hy => by obtain ⟨j, rfl, _⟩ := hold_mem hy; omega)]
  constructor
  · intro h
    obtain ⟨j, hj, _, hb⟩ := hold_mem h
    rw [show i = j by omega]; exact hb
  · intro h
    refine List.mem_map.2 ⟨i, List.mem_filter.2 ⟨List.mem_range.2 ?_, h⟩, rfl⟩
    rcases Nat.lt_or_ge i q with h1 | h1
    · exact h1
    · rw [Nat.testBit_lt_two_pow (Nat.lt_of_lt_of_le hx (Nat.pow_le_pow_right (by decide) h1))] at h; cases h
theorem hold_rises (x : Nat) : ∀ n : Nat, Rises 0 ((n : Int) - 1) (hold x n)
  | 0 => fun i hi => by simp [hold] at hi
  | n + 1 => by
    have ih := hold_rises x n
    rw [hold_next]
    split
    · intro i hi
      have hi : i < (hold x n).length + 1 := by simpa using hi
      have hl : ∀ j, j < (hold x n).length → (hold x n ++ [(n : Int)]).getD j 0 = (hold x n).getD j 0 := fun j hj => by
        rw [List.getD_eq_getElem?_getD, List.getD_eq_getElem?_getD, List.getElem?_append_left hj]
      have hz : (hold x n ++ [(n : Int)]).getD (hold x n).length 0 = n := by
        rw [List.getD_eq_getElem?_getD]; simp
      unfold RiseAt
      by_cases e : i = (hold x n).length
      · rw [e, hz]
        refine ⟨⟨by omega, by omega⟩, fun h0 => ?_⟩
        rw [hl _ (by omega)]
        have h3 := ih ((hold x n).length - 1) (by omega)
        have := h3.1.2
        omega
      · have h3 := ih i (by omega)
        rw [hl i (by omega)]
        refine ⟨⟨h3.1.1, by have := h3.1.2; omega⟩, fun h0 => ?_⟩
        rw [hl _ (by omega)]
        exact h3.2 h0
    · intro i hi
      have h3 := ih i hi
      exact ⟨⟨h3.1.1, by have := h3.1.2; omega⟩, h3.2⟩
end Go.Proofs.Ytijmkfnmdhpakaa.Am
/- Chains of groups in plain Lean: the longest one behind a set, and the best one of all. Each holds under its own conditions. -/
set_option linter.unusedVariables false
set_option linter.unusedSimpArgs false
set_option maxRecDepth 20000
namespace Go.Proofs.Ytijmkfnmdhpakaa.Am
open Go Go.RowKit Go.Proofs
/-- x may stand behind b. -/
def Lk (gs : List (List Int)) (k b x : Nat) : Prop := Chd gs k b x ∧ ∃ w, Least gs k b x w true
theorem Lk.lt {gs : List (List Int)} {k b x : Nat} (h : Lk gs k b x) : b < x := by
  have h1 := h.1.2.1
  have h2 := h.1.2.2.1
  have h3 : x &&& b ≤ x := Nat.and_le_left
  omega
/-- The first of the longest chains whose first set is one of the n behind b; r tells how it goes on. -/
noncomputable def lngL (gs : List (List Int)) (k b : Nat) (r : Nat → List Nat) : Nat → List Nat
  | 0 => []
  | n + 1 => if tv (Lk gs k b (b + 1 + n)) = true ∧ (lngL gs k b r n).length < (r (b + 1 + n)).length + 1 then (b + 1 + n) :: r (b + 1 + n) else lngL gs k b r n
noncomputable def lng (gs : List (List Int)) (k q : Nat) : Nat → Nat → List Nat
  | 0, _ => []
  | f + 1, b => lngL gs k b (lng gs k q f) (2 ^ q - 1 - b)
/-- A chain that may stand behind b. -/
def Chn (gs : List (List Int)) (k : Nat) : Nat → List Nat → Prop
  | _, [] => True
  | b, x :: r => Lk gs k b x ∧ Chn gs k x r
theorem lngL_ok {gs : List (List Int)} {k b N : Nat} {r : Nat → List Nat} (hr : ∀ x, b < x → x < N → Chn gs k x (r x) ∧ ∀ y ∈ r x, y < N) : ∀ n, b + n < N → Chn gs k b (lngL gs k b r n) ∧ ∀ y ∈ lngL gs k b r n, y < N
  | 0, _ => ⟨trivial, fun y hy => by simp [lngL] at hy⟩
  | n + 1, h => by
    unfold lngL
    split
    · rename_i hc
      have h1 := hr (b + 1 + n) (by omega) (by omega)
      refine ⟨⟨tv_iff.1 hc.1, h1.1⟩, fun y hy => ?_⟩
      rcases List.mem_cons.1 hy with rfl | hy
      · omega
      · exact h1.2 y hy
    · exact lngL_ok hr n (by omega)
theorem lng_ok {gs : List (List Int)} {k q : Nat} : ∀ f b, b < 2 ^ q → Chn gs k b (lng gs k q f b) ∧ ∀ y ∈ lng gs k q f b, y < 2 ^ q
  | 0, b, _ => ⟨trivial, fun y hy => by simp [lng] at hy⟩
  | f + 1, b, h => by
    unfold lng
    exact lngL_ok (fun x _ hx => lng_ok f x hx) _ (by omega)
theorem Chn.len {gs : List (List Int)} {k N : Nat} : ∀ {b : Nat} {xs : List Nat}, Chn gs k b xs → (∀ y ∈ xs, y < N) → b < N → xs.length + b < N
  | b, [], _, _, hb => by simpa using hb
  | b, x :: r, h, hx, hb => by
    have h1 := h.1.lt
    have h2 := h.2.len (fun y hy => hx y (List.mem_cons_of_mem _ hy)) (hx x (List.mem_cons_self ..))
    simp only [List.length_cons]
    omega
/-- The last set of a chain. -/
def lastB (b : Nat) (xs : List Nat) : Nat := if xs.length = 0 then b else xs.getD (xs.length - 1) 0
theorem lastB_cons (b x : Nat) (r : List Nat) : lastB b (x :: r) = lastB x r := by
  unfold lastB
  cases r with
  | nil => simp
  | cons y r => simp
theorem Chn.snoc_iff {gs : List (List Int)} {k x : Nat} : ∀ {b : Nat} {xs : List Nat}, Chn gs k b (xs ++ [x]) ↔ Chn gs k b xs ∧ Lk gs k (lastB b xs) x
  | b, [] => by simp [Chn, lastB]
  | b, y :: r => by
    rw [lastB_cons]
    show (Lk gs k b y ∧ Chn gs k y (r ++ [x])) ↔ (Lk gs k b y ∧ Chn gs k y r) ∧ _
    rw [Chn.snoc_iff, and_assoc]
theorem chn_iff {gs : List (List Int)} {k : Nat} : ∀ {b : Nat} {ns : List Nat}, Chn gs k b ns ↔ ∀ i, i < ns.length → Lk gs k (if i = 0 then b else ns.getD (i - 1) 0) (ns.getD i 0)
  | b, [] => by simp [Chn]
  | b, x :: r => by
    show (Lk gs k b x ∧ Chn gs k x r) ↔ _
    rw [chn_iff]
    constructor
    · rintro ⟨h1, h2⟩ i hi
      cases i with
      | zero => simpa using h1
      | succ i =>
        have h3 := h2 i (by simpa using hi)
        rw [if_neg (by omega)]
        cases i with
        | zero => simpa using h3
        | succ i => simpa using h3
    · intro h
      refine ⟨by simpa using h 0 (by simp), fun i hi => ?_⟩
      have h3 := h (i + 1) (by simpa using hi)
      rw [if_neg (by omega)] at h3
      cases i with
      | zero => simpa using h3
      | succ i => simpa using h3
theorem chn_ok {gs : List (List Int)} {k : Nat} {ns : List Nat} : Chn gs k 0 ns ↔ ∀ i, i < ns.length → OkAt gs k ns i := chn_iff
/-- How many holders a group has. -/
def ones (n : Nat) : Nat := ((List.range 7).filter fun i => n.testBit i).length
theorem ones_step : ∀ b, b < 128 → 0 < b → ones b = 1 + ones (b &&& (b - 1)) := by decide
theorem ones_pos : ∀ b, b < 128 → 0 < b → 0 < ones b := by decide
theorem ones_le (b : Nat) : ones b ≤ 7 := Nat.le_trans (List.length_filter_le _ _) (by simp)
theorem ones_zero : ones 0 = 0 := by decide
/-- The best that has been found: what is known, the chain, its worth; f tells whether something has been found. -/
structure Bst where
  k : Nat
  ch : List Nat
  w : Nat
  f : Bool
noncomputable def worth (gs : List (List Int)) (k n : Nat) : Nat := if tv (Opens gs k) = true then n + 1 else n
theorem worth_le {gs : List (List Int)} {k a b : Nat} (h : a ≤ b) : worth gs k a ≤ worth gs k b := by unfold worth; split <;> omega
theorem worth_lt {gs : List (List Int)} {k a b : Nat} (h : a < b) : worth gs k a < worth gs k b := by unfold worth; split <;> omega
noncomputable def tryS (gs : List (List Int)) (s : Bst) (k : Nat) (ch : List Nat) : Bst :=
  if s.f = true ∧ worth gs k ch.length * ones s.k ≤ s.w * ones k then s else ⟨k, ch, worth gs k ch.length, true⟩
theorem tryS_two {gs : List (List Int)} {s : Bst} {k : Nat} {a b : List Nat} (hk : 0 < ones k) : tryS gs (tryS gs s k a) k b = tryS gs s k (if a.length < b.length then b else a) := by
  by_cases h1 : s.f = true ∧ worth gs k a.length * ones s.k ≤ s.w * ones k
  · have e1 : tryS gs s k a = s := if_pos h1
    rw [e1]
    split
    · rfl
    · rename_i h2
      rw [e1]
      have h3 := worth_le (gs := gs) (k := k) (a := b.length) (b := a.length) (by omega)
      exact if_pos ⟨h1.1, Nat.le_trans (Nat.mul_le_mul_right _ h3) h1.2⟩
  · have e1 : tryS gs s k a = ⟨k, a, worth gs k a.length, true⟩ := if_neg h1
    rw [e1]
    split
    · rename_i h2
      have h3 := worth_lt (gs := gs) (k := k) h2
      have e2 : tryS gs s k b = ⟨k, b, worth gs k b.length, true⟩ := if_neg (fun hc => h1 ⟨hc.1, Nat.le_trans (Nat.mul_le_mul_right _ (Nat.le_of_lt h3)) hc.2⟩)
      rw [e2]
      refine if_neg (fun hc => ?_)
      have h4 : worth gs k b.length * ones k ≤ worth gs k a.length * ones k := hc.2
      exact absurd (Nat.le_of_mul_le_mul_right h4 hk) (by omega)
    · rename_i h2
      rw [e1]
      have h3 := worth_le (gs := gs) (k := k) (a := b.length) (b := a.length) (by omega)
      exact if_pos ⟨rfl, Nat.mul_le_mul_right _ h3⟩
/-- One set more behind a chain. -/
theorem tryS_next {gs : List (List Int)} {s : Bst} {k b n : Nat} {ch : List Nat} {r : Nat → List Nat} (hk : 0 < ones k) (hl : Lk gs k b (b + 1 + n)) : tryS gs (tryS gs s k (ch ++ lngL gs k b r n)) k ((ch ++ [b + 1 + n]) ++ r (b + 1 + n)) = tryS gs s k (ch ++ lngL gs k b r (n + 1)) := by
  rw [tryS_two hk]
  congr 1
  have e : lngL gs k b r (n + 1) = if tv (Lk gs k b (b + 1 + n)) = true ∧ (lngL gs k b r n).length < (r (b + 1 + n)).length + 1 then (b + 1 + n) :: r (b + 1 + n) else lngL gs k b r n := rfl
  rw [e]
  by_cases h : (lngL gs k b r n).length < (r (b + 1 + n)).length + 1
  · rw [if_pos (by simp only [List.length_append, List.length_cons, List.length_nil]; omega), if_pos ⟨tv_true hl, h⟩, List.append_assoc]
    rfl
  · rw [if_neg (by simp only [List.length_append, List.length_cons, List.length_nil]; omega), if_neg (fun hc => h hc.2)]
theorem lngL_skip {gs : List (List Int)} {k b n : Nat} {r : Nat → List Nat} (hl : ¬ Lk gs k b (b + 1 + n)) : lngL gs k b r (n + 1) = lngL gs k b r n := if_neg (fun hc => hl (tv_iff.1 hc.1))
/-- The best when n sets have been taken as known. -/
noncomputable def bestS (gs : List (List Int)) (q : Nat) : Nat → Bst
  | 0 => ⟨0, [], 0, false⟩
  | n + 1 => tryS gs (bestS gs q n) (n + 1) (lng gs (n + 1) q (2 ^ q) 0)
theorem tryS_f {gs : List (List Int)} {s : Bst} {k : Nat} {ch : List Nat} : (tryS gs s k ch).f = true := by
  unfold tryS
  split
  · rename_i h; exact h.1
  · rfl
/-- What is known of the best. -/
structure BOk (gs : List (List Int)) (N : Nat) (s : Bst) : Prop where
  k : s.k < N
  ch : Chn gs s.k 0 s.ch
  lt : ∀ y ∈ s.ch, y < N
  w : s.w ≤ N
  pos : s.f = true → 0 < s.k
theorem tryS_ok {gs : List (List Int)} {s : Bst} {N k : Nat} {ch : List Nat} (h : BOk gs N s) (hk : k < N) (h0 : 0 < k) (hc : Chn gs k 0 ch) (hl : ∀ y ∈ ch, y < N) : BOk gs N (tryS gs s k ch) := by
  unfold tryS
  split
  · exact h
  · refine ⟨hk, hc, hl, ?_, fun _ => h0⟩
    have := hc.len hl (by omega)
    show worth gs k ch.length ≤ N
    unfold worth
    split <;> omega
theorem bestS_ok {gs : List (List Int)} {q : Nat} : ∀ n, n < 2 ^ q → BOk gs (2 ^ q) (bestS gs q n)
  | 0, h => ⟨h, trivial, fun y hy => by simp [bestS] at hy, Nat.zero_le _, fun h => by cases h⟩
  | n + 1, h => by
    have h1 := lng_ok (gs := gs) (k := n + 1) (q := q) (2 ^ q) 0 (by omega)
    exact tryS_ok (bestS_ok n (by omega)) h (by omega) h1.1 h1.2
/-- The groups with some numbers. -/
abbrev grpsQ (q : Nat) (ns : List Nat) : List (List Int) := ns.map fun x => hold x q
theorem nums_grps {q : Nat} : ∀ {ns : List Nat}, (∀ y ∈ ns, y < 2 ^ q) → nums (grpsQ q ns) = ns
  | [], _ => rfl
  | x :: r, h => by
    show bitsOf (hold x q) :: nums (grpsQ q r) = _
    rw [bits_hold (h x (List.mem_cons_self ..)), nums_grps (fun y hy => h y (List.mem_cons_of_mem _ hy))]
end Go.Proofs.Ytijmkfnmdhpakaa.Am
/- Contracts: how many holders a group has, what a chain is worth. Each holds under its own conditions. -/
set_option linter.unusedVariables false
set_option linter.unusedSimpArgs false
set_option maxRecDepth 40000
namespace Go.Proofs.Ytijmkfnmdhpakaa.Am
open Go Go.RowKit Go.Proofs
theorem wrap_u64 (v : Int) : 0 ≤ IntKind.u64.wrap v := Int.emod_nonneg _ (by decide)
section
variable {S : Ids} {H0 : AH}
theorem onesCount64 {x : Nat} (hx : x < 128) : Spec Try.prog S H0 199 [.int .u64 x] (fun v => v = .int .i64 (ones x)) := by
  refine Spec.of1 Try.func199 rfl (by kernel_rfl) rfl (fun H _ => ?_)
  refine KW.ret rfl rfl rfl rfl ?_
  refine congrArg (Value.int .i64) ?_
  revert x
  apply of_decide_eq_true
  kernel_rfl
theorem onesCount {x : Nat} (hx : x < 128) : Spec Try.prog S H0 158 [.int .u64 x] (fun v => v = .int .i64 (ones x)) := by
  refine Spec.of1 Try.func158 rfl (by kernel_rfl) rfl (fun H _ => ?_)
  refine KW.cF rfl rfl (by first | (simp; done) | decide) ?_
  refine KW.callE rfl rfl rfl rfl rfl (onesCount64 hx) (fun _ _ => ?_)
  exact KW.ret rfl rfl rfl rfl (rfl)
theorem size {x : Nat} (hx : x < 128) : Spec Try.prog S H0 87 [.int .u64 x] (fun v => v = .int .i64 (ones x)) := by
  refine Spec.of1 Try.func87 rfl (by kernel_rfl) rfl (fun H _ => ?_)
  refine KW.callE rfl rfl rfl rfl rfl (onesCount hx) (fun _ _ => ?_)
  exact KW.ret rfl rfl rfl rfl (rfl)
theorem number {m : Nat} (hm : m ≤ 7) (h : Int) {k n : Nat} (hk : k < 256) (hn : n ≤ 1000) {gs : List (List Int)} (hsm : Sml gs) (hbe : Below' m gs) {a c} (hs : KI.sl.Sl S H0 (.slice a gs.length c) gs) :
    Spec Try.prog S H0 140 [familyV h (.slice a gs.length c), .int .u64 k, .int .i64 n] (fun v => v = .int .i64 (worth gs k n)) := by
  refine Spec.of1 Try.func140 rfl (by kernel_rfl) rfl (fun H _ => ?_)
  refine KW.callE rfl rfl rfl rfl rfl (opens hm h (q := k) (by omega) hsm hbe hs.up) (fun _ _ => ?_)
  refine KW.cndB rfl rfl (fun k1 => ?_) (fun k1 => ?_)
  · exact KW.ret rfl rfl rfl rfl (by rw [worth, if_pos k1]; exact congrArg (Value.int .i64) (wr (by omega) (by omega)))
  · exact KW.ret rfl rfl rfl rfl (by rw [worth, if_neg (by simpa using k1)]; rfl)
theorem l07Count {x : Nat} (hx : x < 128) : Spec Try.prog S H0 78 [.int .i64 x] (fun v => v = .int .i64 (ones x)) := by
  refine Spec.of1 Try.func78 rfl (by kernel_rfl) rfl (fun H _ => ?_)
  refine KW.lp rfl rfl (fun s : Nat × Nat => [(0, .int .i64 s.1), (3, .int .i64 s.2)]) (fun s => s.1 < 128 ∧ s.2 + ones s.1 = ones x) (fun s => s.1) ((x, 0)) (⟨hx, Nat.zero_add _⟩) ⟨rfl, rfl, trivial⟩ (fun s hi bE n => ?_)
  obtain ⟨b, c⟩ := s
  obtain ⟨h1, h2⟩ := hi
  simp only at h1 h2
  have hc := ones_le x
  refine KW.cnd rfl rfl (fun k1 => ?_) (fun k1 => ?_)
  · have k1 : (b : Int) > 0 := k1
    have h3 := ones_step b h1 (by omega)
    have h4 : b &&& (b - 1) ≤ b - 1 := Nat.and_le_right
    have e1 : IntKind.i64.wrap ((b : Int) - 1) = ((b - 1 : Nat) : Int) := by rw [wr (by omega) (by omega)]; omega
    refine KW.nxt rfl rfl (fun H' g => ⟨(b &&& (b - 1), c + 1), ⟨by simp only; omega, by simp only; omega⟩, by first | omega | (simp only; omega), ⟨by show Value.int .i64 (IntKind.i64.wrap ((BitVec.ofInt IntKind.i64.bits (b : Int) &&& BitVec.ofInt IntKind.i64.bits (IntKind.i64.wrap ((b : Int) - 1))).toNat : Int)) = _; rw [e1, and_i64 (by omega) (by omega)], congrArg (Value.int .i64) (inc64 (by omega)), trivial⟩, g⟩)
  · have k1 : ¬ (b : Int) > 0 := k1
    obtain rfl : b = 0 := by omega
    exact KW.ret rfl rfl rfl rfl (by rw [← h2, ones_zero]; rfl)
theorem l07Worth {q k n : Nat} (hq : q ≤ 7) (hk : k < 2 ^ q) (hn : n ≤ 1000) {gs : List (List Int)} {a c} (ho : Kn.bool.Sl S H0 (.slice a (tabO gs (2 ^ q)).length c) (tabO gs (2 ^ q))) :
    Spec Try.prog S H0 142 [.slice a (tabO gs (2 ^ q)).length c, .int .i64 k, .int .i64 n] (fun v => v = .int .i64 (worth gs k n)) := by
  refine Spec.of1 Try.func142 rfl (by kernel_rfl) rfl (fun H _ => ?_)
  have hp := small_pow (m := q) (by omega)
  have hl := tabO_len gs (2 ^ q)
  refine KW.getB ho.up rfl rfl rfl rfl rfl rfl rfl rfl rfl rfl rfl rfl rfl rfl rfl rfl (by omega) (by rw [hl]; omega) (fun y hy => ?_)
  have hy := tabO_at hk (y := y) (by simpa using hy)
  subst hy
  refine KW.cndB rfl rfl (fun k1 => ?_) (fun k1 => ?_)
  · exact KW.ret rfl rfl rfl rfl (by rw [worth, if_pos k1]; exact congrArg (Value.int .i64) (wr (by omega) (by omega)))
  · exact KW.ret rfl rfl rfl rfl (by rw [worth, if_neg (by simpa using k1)]; rfl)
end
end Go.Proofs.Ytijmkfnmdhpakaa.Am
/- TermBound, plain, and contracts of what it asks of a term. Each holds under its own conditions. -/
set_option linter.unusedVariables false
set_option linter.unusedSimpArgs false
set_option maxRecDepth 20000
namespace Go.Proofs.Ytijmkfnmdhpakaa.Am
open Go Go.RowKit Go.Proofs
/-- A term is one of groups of some holders. -/
structure TermP (m : Int) (t : T_Term) : Prop where
  kd : 1 ≤ t.1 ∧ t.1 ≤ 2
  tm : 1 ≤ t.2.2.2 ∧ t.2.2.2 ≤ 1000
  ga : Rises 0 (m - 1) t.2.1
  gb : Rises 0 (m - 1) t.2.2.1
  su : t.1 = 2 ∨ bitsOf t.2.2.1 &&& bitsOf t.2.1 = bitsOf t.2.1
def addW (F : List Int) (i : Nat) (z : Int) : List Int := F.set i (IntKind.i64.wrap (F.getD i 0 + z))
def subW (F : List Int) (i : Nat) (z : Int) : List Int := F.set i (IntKind.i64.wrap (F.getD i 0 - z))
theorem addW_len (F : List Int) (i : Nat) (z : Int) : (addW F i z).length = F.length := by simp [addW]
theorem subW_len (F : List Int) (i : Nat) (z : Int) : (subW F i z).length = F.length := by simp [subW]
/-- What a term adds. -/
def facS (F : List Int) (t : T_Term) : List Int :=
  if t.1 = 1 then subW (addW F (bitsOf t.2.2.1) t.2.2.2) (bitsOf t.2.1) t.2.2.2
  else subW (subW (addW (addW F (bitsOf t.2.1) t.2.2.2) (bitsOf t.2.2.1) t.2.2.2) (bitsOf t.2.1 ||| bitsOf t.2.2.1) t.2.2.2) (bitsOf t.2.1 &&& bitsOf t.2.2.1) t.2.2.2
def Strict (gs : List (List Int)) (t : T_Term) : Prop :=
  (t.1 = 1 ∧ ¬ Opens gs (bitsOf t.2.1) ∧ Opens gs (bitsOf t.2.2.1)) ∨ (t.1 ≠ 1 ∧ Opens gs (bitsOf t.2.1) ∧ Opens gs (bitsOf t.2.2.1) ∧ ¬ Opens gs (bitsOf t.2.1 &&& bitsOf t.2.2.1))
noncomputable def uniS (gs : List (List Int)) (u : Int) (t : T_Term) : Int := if tv (Strict gs t) = true then IntKind.i64.wrap (u + t.2.2.2) else u
def facT (F : List Int) : List T_Term → List Int
  | [] => F
  | t :: l => facT (facS F t) l
noncomputable def uniT (gs : List (List Int)) (u : Int) : List T_Term → Int
  | [] => u
  | t :: l => uniT gs (uniS gs u t) l
theorem facS_len (F : List Int) (t : T_Term) : (facS F t).length = F.length := by
  unfold facS
  split <;> simp only [addW_len, subW_len]
theorem facT_len : ∀ (l : List T_Term) (F : List Int), (facT F l).length = F.length
  | [], _ => rfl
  | t :: l, F => (facT_len l _).trans (facS_len F t)
theorem facT_snoc : ∀ (l : List T_Term) (F : List Int) (t : T_Term), facT F (l ++ [t]) = facS (facT F l) t
  | [], _, _ => rfl
  | s :: l, F, t => facT_snoc l _ t
theorem uniT_snoc (gs : List (List Int)) : ∀ (l : List T_Term) (u : Int) (t : T_Term), uniT gs u (l ++ [t]) = uniS gs (uniT gs u l) t
  | [], _, _ => rfl
  | s :: l, u, t => uniT_snoc gs l _ t
theorem take_one {α : Type} {l : List α} {i : Nat} {x : α} (h : l[i]? = some x) : l.take (i + 1) = l.take i ++ [x] := by
  obtain ⟨hi, rfl⟩ := List.getElem?_eq_some_iff.1 h
  rw [List.take_succ_eq_append_getElem hi]
/-- The factors of the single holders. -/
def outF (F : List Int) (j : Nat) : List Int := (List.range j).map fun h => F.getD (2 ^ h) 0
theorem outF_len (F : List Int) (j : Nat) : (outF F j).length = j := by simp [outF]
theorem outF_next (F : List Int) (j : Nat) : outF F (j + 1) = outF F j ++ [F.getD (2 ^ j) 0] := by simp [outF, List.range_succ]
/-- There is a factor that has to be 0 and is not. -/
def BadF (F : List Int) : Prop := ∃ c, c < F.length ∧ 0 < c ∧ ones c ≠ 1 ∧ F.getD c 0 ≠ 0
/-- Holders' factors that have been put down, of those below c. -/
def parF (F : List Int) (q c : Nat) : List Int := (List.range q).map fun h => if 2 ^ h < c then F.getD (2 ^ h) 0 else 0
theorem parF_len (F : List Int) (q c : Nat) : (parF F q c).length = q := by simp [parF]
theorem ones_pow : ∀ b, b < 64 → (ones b = 1 ↔ ∃ j, j < 6 ∧ b = 2 ^ j) := by decide
theorem hold_pow : ∀ j : Nat, j < 6 → hold (2 ^ j) 7 = [(j : Int)] := by decide
theorem parF_no {F : List Int} {q c : Nat} (hc : c < 64) (hq : q ≤ 5) (h : ones c ≠ 1) : parF F q (c + 1) = parF F q c := by
  unfold parF
  refine List.map_congr_left fun j hj => ?_
  have hj := List.mem_range.1 hj
  have : 2 ^ j ≠ c := fun e => h ((ones_pow c hc).2 ⟨j, by omega, e.symm⟩)
  by_cases hh : 2 ^ j < c
  · rw [if_pos hh, if_pos (by omega)]
  · rw [if_neg hh, if_neg (by omega)]
theorem parF_one {F : List Int} {q j : Nat} (hj : j < q) : parF F q (2 ^ j + 1) = (parF F q (2 ^ j)).set j (F.getD (2 ^ j) 0) := by
  refine List.ext_getElem? fun i => ?_
  rw [List.getElem?_set]
  unfold parF
  rw [List.getElem?_map]
  rcases Nat.lt_or_ge i q with hi | hi
  · rw [List.getElem?_range hi]
    by_cases e : j = i
    · subst e
      rw [if_pos rfl, if_pos (by simpa using hj)]
      simp
    · rw [if_neg e, List.getElem?_map, List.getElem?_range hi]
      have hne : 2 ^ i ≠ 2 ^ j := by
        rcases Nat.lt_or_gt_of_ne e with h | h
        · have := Nat.pow_lt_pow_right (a := 2) (by decide) h; omega
        · have := Nat.pow_lt_pow_right (a := 2) (by decide) h; omega
      by_cases hh : 2 ^ i < 2 ^ j
      · simp [hh, show 2 ^ i < 2 ^ j + 1 by omega]
      · simp [hh, show ¬ 2 ^ i < 2 ^ j + 1 by omega]
  · rw [List.getElem?_eq_none (by simpa using hi)]
    by_cases e : j = i
    · omega
    · rw [if_neg e, List.getElem?_eq_none (by simpa using hi)]; rfl
theorem parF_zero (F : List Int) (q : Nat) : parF F q 0 = List.replicate q 0 := by
  unfold parF
  refine List.ext_getElem? fun i => ?_
  rw [List.getElem?_map, List.getElem?_replicate]
  split
  · rename_i h; rw [List.getElem?_range h]; simp
  · rename_i h; rw [List.getElem?_eq_none (by simpa using h)]; rfl
theorem parF_all (F : List Int) (q : Nat) : parF F q (2 ^ q) = outF F q := by
  unfold parF outF
  refine List.map_congr_left fun j hj => ?_
  have hj := List.mem_range.1 hj
  rw [if_pos (Nat.pow_lt_pow_right (by decide) hj)]
theorem term_ok {m : Int} {q : Nat} (hm : m = q) {t : T_Term} (h : TermP m t) : (∀ x ∈ t.2.1, 0 ≤ x ∧ x < (q : Nat)) ∧ (∀ x ∈ t.2.2.1, 0 ≤ x ∧ x < (q : Nat)) ∧ bitsOf t.2.1 < 2 ^ q ∧ bitsOf t.2.2.1 < 2 ^ q := by
  have h1 : ∀ x ∈ t.2.1, 0 ≤ x ∧ x < (q : Nat) := fun x hx => by have := rises_mem h.ga x hx; omega
  have h2 : ∀ x ∈ t.2.2.1, 0 ≤ x ∧ x < (q : Nat) := fun x hx => by have := rises_mem h.gb x hx; omega
  exact ⟨h1, h2, bitsOf_lt (fun x hx => by have := h1 x hx; omega), bitsOf_lt (fun x hx => by have := h2 x hx; omega)⟩
section
variable {S : Ids} {H0 : AH}
theorem isTerm (q : Nat) (hq : 1 ≤ q ∧ q ≤ 7) {t : T_Term} {cs : List Value} (hB : B_Term t) (h : K_Term.R S H0 t cs) : Spec Try.prog S H0 84 [.agg cs.toArray, .int .i64 q] (fun v => v = .bool (tv (TermP q t))) := by
  obtain ⟨a1, c1, a2, c2, rfl, h1, h2⟩ := split_Term h
  have s1 := sl1 h1
  have s2 := sl1 h2
  have l1 : t.2.1.length ≤ 1048576 := hB.2.1
  have l2 : t.2.2.1.length ≤ 1048576 := hB.2.2.1
  refine Spec.of1 Try.func84 rfl (by kernel_rfl) rfl (fun H _ => ?_)
  have no : ¬ TermP q t → aout [Value.bool false] = .bool (tv (TermP q t)) := fun h => by rw [tv_false h]; rfl
  refine KW.callE rfl rfl rfl rfl rfl (within _ _ _) (fun _ _ => ?_)
  refine KW.tstB rfl rfl (fun k1 => ?_) (fun k1 => ?_)
  · repeat first | refine KW.tT rfl rfl rfl ?_ | refine KW.tF rfl rfl rfl ?_
    refine KW.cT rfl rfl (by first | (simp; done) | decide) ?_
    exact KW.ret rfl rfl rfl rfl (no (fun hc => by have := hc.kd; simp at k1; omega))
  refine KW.callE rfl rfl rfl rfl rfl (within _ _ _) (fun _ _ => ?_)
  refine KW.tstB rfl rfl (fun k2 => ?_) (fun k2 => ?_)
  · repeat first | refine KW.tT rfl rfl rfl ?_ | refine KW.tF rfl rfl rfl ?_
    refine KW.cT rfl rfl (by first | (simp; done) | decide) ?_
    exact KW.ret rfl rfl rfl rfl (no (fun hc => by have := hc.tm; simp at k2; omega))
  refine KW.callE rfl rfl rfl rfl rfl (isGroup q (by omega) (by omega) s1.up) (fun _ _ => ?_)
  refine KW.tstB rfl rfl (fun k3 => ?_) (fun k3 => ?_)
  · repeat first | refine KW.tT rfl rfl rfl ?_ | refine KW.tF rfl rfl rfl ?_
    refine KW.cT rfl rfl (by first | (simp; done) | decide) ?_
    exact KW.ret rfl rfl rfl rfl (no (fun hc => by rw [tv_true hc.ga] at k3; cases k3))
  refine KW.callE rfl rfl rfl rfl rfl (isGroup q (by omega) (by omega) s2.up) (fun _ _ => ?_)
  refine KW.cndB rfl rfl (fun k4 => ?_) (fun k4 => ?_)
  · exact KW.ret rfl rfl rfl rfl (no (fun hc => by rw [tv_true hc.gb] at k4; cases k4))
  have k1 : 1 ≤ t.1 ∧ t.1 ≤ 2 := by simpa using k1
  have k2 : 1 ≤ t.2.2.2 ∧ t.2.2.2 ≤ 1000 := by simpa using k2
  have k3 : Rises 0 ((q : Int) - 1) t.2.1 := tv_iff.1 (by simpa using k3)
  have k4 : Rises 0 ((q : Int) - 1) t.2.2.1 := tv_iff.1 (by simpa using k4)
  have g1 : ∀ x ∈ t.2.1, 0 ≤ x ∧ x < (q : Nat) := fun x hx => by have := rises_mem k3 x hx; omega
  have g2 : ∀ x ∈ t.2.2.1, 0 ≤ x ∧ x < (q : Nat) := fun x hx => by have := rises_mem k4 x hx; omega
  have b1 : bitsOf t.2.1 < 2 ^ q := bitsOf_lt (fun x hx => by have := g1 x hx; omega)
  have b2 : bitsOf t.2.2.1 < 2 ^ q := bitsOf_lt (fun x hx => by have := g2 x hx; omega)
  have hp := small_pow (m := q) (by omega)
  refine KW.tst rfl rfl (fun k5 => ?_) (fun k5 => ?_)
  · exact KW.ret rfl rfl rfl rfl (by rw [tv_true (p := TermP q t) ⟨k1, k2, k3, k4, .inl k5⟩]; rfl)
  refine KW.callE rfl rfl rfl rfl rfl (crowdOf (m := q) (by omega) (by omega) g2 s2.up) (fun _ _ => ?_)
  refine KW.callE rfl rfl rfl rfl rfl (crowdOf (m := q) (by omega) (by omega) g1 s1.up) (fun _ _ => ?_)
  refine KW.callE rfl rfl rfl rfl rfl (contains (by omega) (by omega)) (fun _ _ => ?_)
  refine KW.ret rfl rfl rfl rfl ?_
  show Value.bool _ = _
  congr 1
  exact tv_congr ⟨fun h => ⟨k1, k2, k3, k4, .inr h⟩, fun h => h.su.resolve_left k5⟩
theorem l07Term (q : Nat) (hq : 1 ≤ q ∧ q ≤ 7) {t : T_Term} {cs : List Value} {id id2 k : Nat} (hv : Has3 S H0 id 0 [.int .i64 q]) (ht : Has3 S H0 id2 k cs) (hB : B_Term t) (h : K_Term.R S H0 t cs) : Spec Try.prog S H0 73 [.pointer (some ⟨id, 0, none⟩), .pointer (some ⟨id2, k, none⟩)] (fun v => v = .bool (tv (TermP q t))) := by
  obtain ⟨a1, c1, a2, c2, rfl, h1, h2⟩ := split_Term h
  have s1 := sl1 h1
  have s2 := sl1 h2
  have l1 : t.2.1.length ≤ 1048576 := hB.2.1
  have l2 : t.2.2.1.length ≤ 1048576 := hB.2.2.1
  refine Spec.of1 Try.func73 rfl (by kernel_rfl) rfl (fun H _ => ?_)
  have hv := hv.up (S' := Low H.n) (H' := H)
  have ht := ht.up (S' := Low H.n) (H' := H)
  have no : ¬ TermP q t → aout [Value.bool false] = .bool (tv (TermP q t)) := fun h => by rw [tv_false h]; rfl
  refine KW.ldF 0 ht rfl rfl rfl rfl rfl rfl rfl rfl rfl ?_
  refine KW.callE rfl rfl rfl rfl rfl (l00In _ _ _) (fun _ _ => ?_)
  refine KW.tstB rfl rfl (fun k1 => ?_) (fun k1 => ?_)
  · repeat first | refine KW.tT rfl rfl rfl ?_ | refine KW.tF rfl rfl rfl ?_
    refine KW.cT rfl rfl (by first | (simp; done) | decide) ?_
    exact KW.ret rfl rfl rfl rfl (no (fun hc => by have := hc.kd; simp at k1; omega))
  refine KW.ldF 3 ht rfl rfl rfl rfl rfl rfl rfl rfl rfl ?_
  refine KW.callE rfl rfl rfl rfl rfl (l00In _ _ _) (fun _ _ => ?_)
  refine KW.tstB rfl rfl (fun k2 => ?_) (fun k2 => ?_)
  · repeat first | refine KW.tT rfl rfl rfl ?_ | refine KW.tF rfl rfl rfl ?_
    refine KW.cT rfl rfl (by first | (simp; done) | decide) ?_
    exact KW.ret rfl rfl rfl rfl (no (fun hc => by have := hc.tm; simp at k2; omega))
  refine KW.ldF 1 ht rfl rfl rfl rfl rfl rfl rfl rfl rfl ?_
  refine KW.callE rfl rfl rfl rfl rfl (l07Group q (by omega) hv.up (by omega) s1.up) (fun _ _ => ?_)
  refine KW.tstB rfl rfl (fun k3 => ?_) (fun k3 => ?_)
  · repeat first | refine KW.tT rfl rfl rfl ?_ | refine KW.tF rfl rfl rfl ?_
    refine KW.cT rfl rfl (by first | (simp; done) | decide) ?_
    exact KW.ret rfl rfl rfl rfl (no (fun hc => by rw [tv_true hc.ga] at k3; cases k3))
  refine KW.ldF 2 ht rfl rfl rfl rfl rfl rfl rfl rfl rfl ?_
  refine KW.callE rfl rfl rfl rfl rfl (l07Group q (by omega) hv.up (by omega) s2.up) (fun _ _ => ?_)
  refine KW.cndB rfl rfl (fun k4 => ?_) (fun k4 => ?_)
  · exact KW.ret rfl rfl rfl rfl (no (fun hc => by rw [tv_true hc.gb] at k4; cases k4))
  have k1 : 1 ≤ t.1 ∧ t.1 ≤ 2 := by simpa using k1
  have k2 : 1 ≤ t.2.2.2 ∧ t.2.2.2 ≤ 1000 := by simpa using k2
  have k3 : Rises 0 ((q : Int) - 1) t.2.1 := tv_iff.1 (by simpa using k3)
  have k4 : Rises 0 ((q : Int) - 1) t.2.2.1 := tv_iff.1 (by simpa using k4)
  have g1 : ∀ x ∈ t.2.1, 0 ≤ x ∧ x < (q : Nat) := fun x hx => by have := rises_mem k3 x hx; omega
  have g2 : ∀ x ∈ t.2.2.1, 0 ≤ x ∧ x < (q : Nat) := fun x hx => by have := rises_mem k4 x hx; omega
  have b1 : bitsOf t.2.1 < 2 ^ q := bitsOf_lt (fun x hx => by have := g1 x hx; omega)
  have b2 : bitsOf t.2.2.1 < 2 ^ q := bitsOf_lt (fun x hx => by have := g2 x hx; omega)
  have hp := small_pow (m := q) (by omega)
  refine KW.ldF 1 ht rfl rfl rfl rfl rfl rfl rfl rfl rfl ?_
  refine KW.callE rfl rfl rfl rfl rfl (l07Bits (m := q) (by omega) (by omega) g1 s1.up) (fun _ _ => ?_)
  refine KW.ldF 0 ht rfl rfl rfl rfl rfl rfl rfl rfl rfl ?_
  refine KW.tst rfl rfl (fun k5 => ?_) (fun k5 => ?_)
  · exact KW.ret rfl rfl rfl rfl (by rw [tv_true (p := TermP q t) ⟨k1, k2, k3, k4, .inl k5⟩]; rfl)
  refine KW.ldF 2 ht rfl rfl rfl rfl rfl rfl rfl rfl rfl ?_
  refine KW.callE rfl rfl rfl rfl rfl (l07Bits (m := q) (by omega) (by omega) g2 s2.up) (fun _ _ => ?_)
  refine KW.ret rfl rfl rfl rfl ?_
  show Value.bool (decide (IntKind.i64.wrap _ = ((bitsOf t.2.1 : Nat) : Int))) = _
  rw [and_i64 (by omega) (by omega), Nat.and_comm, tv_dec]
  congr 1
  exact tv_congr ⟨fun h => ⟨k1, k2, k3, k4, .inr (by exact_mod_cast h)⟩, fun h => by exact_mod_cast h.su.resolve_left k5⟩
/-- A function value that tells something of each term. -/
def TellsT (P : Program) (S : Ids) (H0 : AH) (xs : List T_Term) (g : FuncId) (cap : List Value) (p : T_Term → Bool) : Prop :=
  ∀ S' H', On S H0 S' H' → ∀ y ∈ xs, ∀ cs, K_Term.R S' H' y cs → Spec P S' H' g (.agg cs.toArray :: cap) (fun v => v = .bool (p y))
theorem TellsT.up {P : Program} {S' : Ids} {H' : AH} {xs : List T_Term} {g : FuncId} {cap : List Value} {p : T_Term → Bool} [o : On S H0 S' H'] (h : TellsT P S H0 xs g cap p) : TellsT P S' H' xs g cap p := fun S2 H2 o2 => h S2 H2 ⟨o.st.trans o2.st⟩
theorem indexFuncT {a c} {xs : List T_Term} {g : FuncId} {id k : Nat} {sp : Option Nat} {p : T_Term → Bool} (hl : xs.length ≤ 4611686018427387904) (hs : K_Term.Sl S H0 (.slice a xs.length c) xs) (hp : TellsT Try.prog S H0 xs g [.pointer (some ⟨id, k, none⟩)] p) :
    Spec Try.prog S H0 155 [.slice a xs.length c, .func (.func g) #[] #[.pointer (some ⟨id, k, sp⟩)]] (fun v => ∃ r : Int, v = .int .i64 r ∧ (r ≥ 0 ↔ ∃ x ∈ xs, p x = true)) := by
  refine Spec.of1 Try.func155 rfl (by kernel_rfl) rfl (fun H _ => ?_)
  refine KW.lp rfl rfl (fun i : Nat => [(0, .slice a xs.length c), (1, .func (.func g) #[] #[.pointer (some ⟨id, k, sp⟩)]), (7, .int .i64 xs.length), (8, .int .i64 i)]) (fun i => i ≤ xs.length ∧ ∀ j, j < i → ∀ x, xs[j]? = some x → p x = false) (fun i => xs.length - i) (0) (⟨by omega, fun j h => absurd h (by omega)⟩) ⟨rfl, rfl, rfl, rfl, trivial⟩ (fun i hi bE n => ?_)
  obtain ⟨hi, hj⟩ := hi
  refine KW.cnd rfl rfl (fun h => ?_) (fun h => ?_)
  · refine KW.getS (td := .struct #[]) hs.up rfl rfl rfl rfl rfl rfl rfl rfl rfl rfl rfl rfl rfl rfl rfl rfl rfl (by omega) (h) (fun x cx hx hsx => ?_)
    have hx : xs[i]? = some x := hx
    have hmem := List.mem_of_getElem? hx
    refine KW.callE rfl rfl rfl rfl rfl (hp _ _ inferInstance x hmem _ hsx) (fun _ _ => ?_)
    refine KW.cndB rfl rfl (fun h2 => ?_) (fun h2 => ?_)
    · exact KW.ret rfl rfl rfl rfl (⟨(i : Int), rfl, fun _ => ⟨x, hmem, h2⟩, fun _ => by omega⟩)
    · refine KW.nxt rfl rfl (fun H' g => ⟨i + 1, ⟨by omega, upto hj (fun y hy => by rw [hx] at hy; cases hy; exact h2)⟩, by first | omega | (simp only; omega), ⟨rfl, rfl, rfl, congrArg (Value.int .i64) (inc64 (by omega)), trivial⟩, g⟩)
  · refine KW.ret rfl rfl rfl rfl ⟨-1, rfl, fun h => absurd h (by decide), fun ⟨x, hx, hpx⟩ => ?_⟩
    obtain ⟨j, hjx⟩ := List.getElem?_of_mem hx
    have := hj j (by have := (List.getElem?_eq_some_iff.1 hjx).1; omega) x hjx
    rw [hpx] at this; cases this
theorem containsFuncT {a c} {xs : List T_Term} {g : FuncId} {id k : Nat} {sp : Option Nat} {p : T_Term → Bool} (hl : xs.length ≤ 4611686018427387904) (hs : K_Term.Sl S H0 (.slice a xs.length c) xs) (hp : TellsT Try.prog S H0 xs g [.pointer (some ⟨id, k, none⟩)] p) :
    Spec Try.prog S H0 82 [.slice a xs.length c, .func (.func g) #[] #[.pointer (some ⟨id, k, sp⟩)]] (fun v => v = .bool (tv (∃ x ∈ xs, p x = true))) := by
  refine Spec.of1 Try.func82 rfl (by kernel_rfl) rfl (fun H _ => ?_)
  refine KW.call rfl rfl rfl rfl rfl (indexFuncT hl hs.up hp.up) (fun v _ _ hv => ?_)
  obtain ⟨r, rfl, hr⟩ := hv
  refine KW.ret rfl rfl rfl rfl ?_
  show Value.bool (decide (r ≥ 0)) = _
  rw [tv_dec, tv_congr hr]
theorem termBound1 (q : Nat) (hq : 1 ≤ q ∧ q ≤ 7) {t : T_Term} {cs : List Value} {id : Nat} (hv : Has3 S H0 id 0 [.int .i64 q]) (hB : B_Term t) (h : K_Term.R S H0 t cs) : Spec Try.prog S H0 83 [.agg cs.toArray, .pointer (some ⟨id, 0, none⟩)] (fun v => v = .bool (!tv (TermP q t))) := by
  obtain ⟨a1, c1, a2, c2, rfl, h1, h2⟩ := split_Term h
  refine Spec.of1 Try.func83 rfl (by kernel_rfl) rfl (fun H _ => ?_)
  have hv := hv.up (S' := Low H.n) (H' := H)
  refine KW.ldF 0 hv rfl rfl rfl rfl rfl rfl rfl rfl rfl ?_
  refine KW.callE rfl rfl rfl rfl rfl (isTerm q hq hB (On.R h)) (fun _ _ => ?_)
  exact KW.ret rfl rfl rfl rfl (rfl)
end
end Go.Proofs.Ytijmkfnmdhpakaa.Am
/- Contract: TermBound of the program. Each holds under its own conditions. -/
set_option linter.unusedVariables false
set_option linter.unusedSimpArgs false
set_option maxRecDepth 20000
namespace Go.Proofs.Ytijmkfnmdhpakaa.Am
open Go Go.RowKit Go.Proofs
abbrev facX (x : T_Family) (y : List T_Term) : List Int := facT (List.replicate (2 ^ x.1.toNat) 0) y
noncomputable def r2_TermBound (x : T_Family) (y : List T_Term) : Int :=
  if codeF x.1 x.2 = 0 then (if tv (y.length ≤ 40 ∧ ∀ t ∈ y, TermP x.1 t) = true then (if tv (BadF (facX x y)) = true then 8 else 0) else 2) else codeF x.1 x.2
noncomputable def r0_TermBound (x : T_Family) (y : List T_Term) : List Int := if r2_TermBound x y = 0 then outF (facX x y) x.1.toNat else []
noncomputable def r1_TermBound (x : T_Family) (y : List T_Term) : Int := if r2_TermBound x y = 0 then uniT x.2 0 y else 0
theorem bound_TermBound {x : T_Family} {y : List T_Term} (hF : B_Family x) (hT : B_TermS y) : B_Int64S (r0_TermBound x y) := by
  unfold r0_TermBound
  split
  · rename_i h
    show (outF _ _).length ≤ _
    rw [outF_len]
    unfold r2_TermBound at h
    split at h
    · rename_i h1
      have := (codeF_ok h1).h2
      omega
    · rename_i h1; exact (h1 h).elim
  · simp
def MkTB (xs : List Int) (u code : Int) (n : Nat) (v : Value) (H1 : AH) : Prop := ∃ a c, v = .tuple #[.slice a xs.length c, .int .i64 u, .int .i64 code] ∧ M_Int64S.R (New n H1.n) H1 xs [.slice a xs.length c]
theorem MkTB.nil {code u : Int} {n : Nat} {H1 : AH} {v : Value} (hv : v = .tuple #[.slice none 0 0, .int .i64 u, .int .i64 code]) : MkTB [] u code n v H1 := ⟨none, 0, hv, ml1' (.inl ⟨rfl, _, _, rfl, fun _ => rfl⟩)⟩
theorem MkTB.nil' {code u : Int} {n id : Nat} {H1 : AH} {v : Value} (hv : v = .tuple #[.slice (some ⟨id, 0, some 1⟩) 0 0, .int .i64 u, .int .i64 code]) : MkTB [] u code n v H1 := ⟨_, 0, hv, ml1' (.inl ⟨rfl, _, _, rfl, fun h => by cases h⟩)⟩
theorem tb_err {x : T_Family} {y : List T_Term} (h : r2_TermBound x y ≠ 0) : r0_TermBound x y = [] ∧ r1_TermBound x y = 0 := by
  unfold r0_TermBound r1_TermBound
  rw [if_neg h, if_neg h]; exact ⟨rfl, rfl⟩
theorem facX_len (x : T_Family) (y : List T_Term) : (facX x y).length = 2 ^ x.1.toNat := by simp [facX, facT_len]
section
variable {S : Ids} {H0 : AH}
theorem impl_TermBound {x : T_Family} {y : List T_Term} {ds : List Value} {a2 c2} (hF : B_Family x) (hT : B_TermS y) (h : K_Family.R S H0 x ds) (k : K_TermS.R S H0 y [.slice a2 y.length c2]) :
    SpecM Try.prog S H0 16 [.agg ds.toArray, .slice a2 y.length c2] (MkTB (r0_TermBound x y) (r1_TermBound x y) (r2_TermBound x y)) := by
  obtain ⟨a3, c3, rfl, h1⟩ := split_Family h
  have s1 := sl1 h1
  have s2 := sl1 k
  obtain ⟨m, gs⟩ := x
  simp only at s1 ⊢
  have hsm : Sml gs := hF.2
  have hyl := hT.len
  refine SpecM.of1 Try.func16 rfl (by kernel_rfl) rfl (fun H _ => ?_)
  refine KW.callE rfl rfl rfl rfl rfl (rankedCode m hsm s1.up) (fun _ _ => ?_)
  by_cases hc : codeF m gs = 0
  · rw [hc]
    have hf := codeF_ok hc
    obtain ⟨q, rfl⟩ : ∃ q : Nat, m = q := ⟨m.toNat, by have := hf.h1; omega⟩
    have hq5 : q ≤ 5 := by
      unfold codeF at hc
      rw [if_pos (tv_true hf)] at hc
      split at hc
      · cases hc
      · omega
    have hq1 : 1 ≤ q := by have := hf.h1; omega
    have hp := small_pow (m := q) (by omega)
    have hpq : 2 ^ q ≤ 32 := Nat.le_trans (Nat.pow_le_pow_right (by decide) hq5) (by decide)
    have hb : Below' q gs := by simpa using hf.below
    have bad : ¬ (y.length ≤ 40 ∧ ∀ t ∈ y, TermP q t) → r2_TermBound ((q : Int), gs) y = 2 := fun hx => by unfold r2_TermBound; rw [if_pos hc, tv_false hx]; rfl
    refine KW.tT rfl rfl (by first | (simp; done) | decide) ?_
    refine KW.tst rfl rfl (fun k1 => ?_) (fun k1 => ?_)
    · repeat first | refine KW.tT rfl rfl rfl ?_ | refine KW.tF rfl rfl rfl ?_
      refine KW.cT rfl rfl (by first | (simp; done) | decide) ?_
      repeat first | refine KW.tT rfl rfl rfl ?_ | refine KW.tF rfl rfl rfl ?_
      refine KW.cT rfl rfl (by first | (simp; done) | decide) ?_
      have e2 := bad (fun hx => by have := hx.1; omega)
      have e3 := tb_err (x := ((q : Int), gs)) (y := y) (by rw [e2]; decide)
      rw [e2, e3.1, e3.2]
      refine KW.retM1 rfl rfl rfl rfl (fun H1 g => ?_)
      exact MkTB.nil rfl
    have k1 : y.length ≤ 40 := by omega
    refine KW.callV1 rfl rfl rfl rfl rfl (fun H1 g _ => containsFuncT (p := fun t => !tv (TermP q t)) (by omega) s2.up (fun S' H' o t ht cs hcs => termBound1 q (by omega) ((g.has (j := 0) rfl rfl).take (vs := [.int .i64 q]).up) (hT.each t ht) hcs)) (fun nV mV => ?_)
    by_cases hall : ∀ t ∈ y, TermP q t
    · rw [tv_false (p := ∃ x ∈ y, _) (fun ⟨t, ht, hn⟩ => by rw [tv_true (hall t ht)] at hn; cases hn)]
      refine KW.cF rfl rfl (by first | (simp; done) | decide) ?_
      refine KW.cF rfl rfl (by first | (simp; done) | decide) ?_
      refine KW.shlI rfl rfl rfl rfl rfl rfl q rfl (by omega) ?_
      refine KW.mk1 rfl rfl rfl rfl rfl rfl rfl rfl rfl rfl rfl rfl (2 ^ q) rfl rfl (by omega) (by show 8 * _ ≤ _; omega) ?_
      obtain ⟨F0, hF0⟩ : ∃ F0, List.replicate (2 ^ q) (0 : Int) = F0 := ⟨_, rfl⟩
      have hF0l : F0.length = 2 ^ q := by rw [← hF0]; simp
      refine KW.lpM rfl rfl (fun i : Nat => [(2, .pointer (some ⟨H.n, 0, some 0⟩)), (8, .slice (some ⟨nV, 0, some 1⟩) (2 ^ q) (2 ^ q)), (9, .int .i64 (uniT gs 0 (y.take i))), (39, .slice a2 y.length c2), (40, .int .i64 y.length), (41, .int .i64 i)]) (fun i => Low H.n) (fun i => H) (fun i => [(H.n, ⟨31, true, [.int .i64 q, .slice a3 gs.length c3]⟩), (nV, ⟨2, true, (facT F0 (y.take i)).map (Value.int .i64)⟩)]) (fun i => i ≤ y.length) (fun i => y.length - i) (0) (by omega) ⟨rfl, rfl, rfl, rfl, rfl, rfl, trivial⟩ rfl rfl (by rw [← hF0]; simp only [List.take_zero, facT, List.map_replicate]; rfl) (fun i hi bE n => ?_)
      have hFl := facT_len (y.take i) F0
      refine KW.cnd rfl rfl (fun k3 => ?_) (fun k3 => ?_)
      · refine KW.getS (td := .struct #[]) s2.up rfl rfl rfl rfl rfl rfl rfl rfl rfl rfl rfl rfl rfl rfl rfl rfl rfl (by omega) (k3) (fun t ct ht hst => ?_)
        have ht : y[i]? = some t := ht
        have hp1 := hall t (List.mem_of_getElem? ht)
        have hBt := hT.each t (List.mem_of_getElem? ht)
        have lA : t.2.1.length ≤ 1048576 := hBt.2.1
        have lB : t.2.2.1.length ≤ 1048576 := hBt.2.2.1
        obtain ⟨g1, g2, b1, b2⟩ := term_ok rfl hp1
        obtain ⟨p1, q1, p2, q2, rfl, y1, y2⟩ := split_Term hst
        have y1 := sl1 y1
        have y2 := sl1 y2
        have band : bitsOf t.2.1 &&& bitsOf t.2.2.1 < 2 ^ q := Nat.and_lt_two_pow _ b2
        have bor : bitsOf t.2.1 ||| bitsOf t.2.2.1 < 2 ^ q := Nat.or_lt_two_pow b1 b2
        have eand := and_u64 (a := bitsOf t.2.1) (b := bitsOf t.2.2.1) (by omega) (by omega)
        have eor := or_u64 (a := bitsOf t.2.1) (b := bitsOf t.2.2.1) (by omega) (by omega)
        refine KW.callE rfl rfl rfl rfl rfl (crowdOf (m := q) (by omega) (by omega) g1 y1.up) (fun _ _ => ?_)
        refine KW.callE rfl rfl rfl rfl rfl (crowdOf (m := q) (by omega) (by omega) g2 y2.up) (fun _ _ => ?_)
        have eT := facT_snoc (y.take i) F0 t
        have eU := uniT_snoc gs (y.take i) 0 t
        rw [← take_one ht] at eT eU
        refine KW.cnd rfl rfl (fun k4 => ?_) (fun k4 => ?_)
        · have k4 : t.1 = 1 := k4
          refine KW.idx0 rfl rfl rfl rfl rfl rfl rfl rfl rfl (by omega) (by omega) ?_
          refine KW.ldI 1 (bitsOf t.2.2.1) rfl rfl rfl rfl rfl rfl rfl rfl (by omega) (by omega) ?_
          refine KW.idx0 rfl rfl rfl rfl rfl rfl rfl rfl rfl (by omega) (by omega) ?_
          refine KW.stI 1 (bitsOf t.2.2.1) rfl rfl rfl rfl rfl rfl rfl rfl rfl (by omega) (by omega) ?_
          refine KW.idx0 rfl rfl rfl rfl rfl rfl rfl rfl rfl (by omega) (by omega) ?_
          refine KW.ldI 1 (bitsOf t.2.1) rfl rfl rfl rfl rfl rfl rfl rfl (by omega) (by simp; omega) ?_
          refine KW.idx0 rfl rfl rfl rfl rfl rfl rfl rfl rfl (by omega) (by omega) ?_
          refine KW.stI 1 (bitsOf t.2.1) rfl rfl rfl rfl rfl rfl rfl rfl rfl (by omega) (by simp; omega) ?_
          refine KW.callE rfl rfl rfl rfl rfl (opens (m := q) (by omega) _ (by omega) hsm hb s1.up) (fun _ _ => ?_)
          have eT := eT.trans (show facS (facT F0 (y.take i)) t = subW (addW (facT F0 (y.take i)) (bitsOf t.2.2.1) t.2.2.2) (bitsOf t.2.1) t.2.2.2 from if_pos k4)
          by_cases k5 : Opens gs (bitsOf t.2.1)
          · have hst : uniS gs (uniT gs 0 (y.take i)) t = uniT gs 0 (y.take i) := by unfold uniS; rw [tv_false (p := Strict gs t) (fun hc => by rcases hc with hc | hc; exact hc.2.1 k5; exact hc.1 k4)]; rfl
            rw [tv_true k5]
            refine KW.tF rfl rfl (by first | (simp; done) | decide) ?_
            repeat first | refine KW.tT rfl rfl rfl ?_ | refine KW.tF rfl rfl rfl ?_
            refine KW.cF rfl rfl (by first | (simp; done) | decide) ?_
            refine KW.nxt rfl rfl (fun H' g => ⟨i + 1, by omega, by first | omega | (simp only; omega), ⟨rfl, rfl, congrArg (Value.int .i64) (by rw [eU, hst]), rfl, rfl, congrArg (Value.int .i64) (inc64 (by omega)), trivial⟩, (g.take 2).idT (by rw [eT]; rfl)⟩)
          · rw [tv_false k5]
            refine KW.tT rfl rfl (by first | (simp; done) | decide) ?_
            refine KW.callE rfl rfl rfl rfl rfl (opens (m := q) (by omega) _ (by omega) hsm hb s1.up) (fun _ _ => ?_)
            by_cases k6 : Opens gs (bitsOf t.2.2.1)
            · have hst : uniS gs (uniT gs 0 (y.take i)) t = IntKind.i64.wrap (uniT gs 0 (y.take i) + t.2.2.2) := by unfold uniS; rw [tv_true (p := Strict gs t) (.inl ⟨k4, k5, k6⟩)]; rfl
              rw [tv_true k6]
              refine KW.cT rfl rfl (by first | (simp; done) | decide) ?_
              refine KW.nxt rfl rfl (fun H' g => ⟨i + 1, by omega, by first | omega | (simp only; omega), ⟨rfl, rfl, congrArg (Value.int .i64) (by rw [eU, hst]), rfl, rfl, congrArg (Value.int .i64) (inc64 (by omega)), trivial⟩, (g.take 2).idT (by rw [eT]; rfl)⟩)
            · have hst : uniS gs (uniT gs 0 (y.take i)) t = uniT gs 0 (y.take i) := by unfold uniS; rw [tv_false (p := Strict gs t) (fun hc => by rcases hc with hc | hc; exact k6 hc.2.2; exact hc.1 k4)]; rfl
              rw [tv_false k6]
              refine KW.cF rfl rfl (by first | (simp; done) | decide) ?_
              refine KW.nxt rfl rfl (fun H' g => ⟨i + 1, by omega, by first | omega | (simp only; omega), ⟨rfl, rfl, congrArg (Value.int .i64) (by rw [eU, hst]), rfl, rfl, congrArg (Value.int .i64) (inc64 (by omega)), trivial⟩, (g.take 2).idT (by rw [eT]; rfl)⟩)
        · have k4 : ¬ t.1 = 1 := k4
          refine KW.idx0 rfl rfl rfl rfl rfl rfl rfl rfl rfl (by omega) (by omega) ?_
          refine KW.ldI 1 (bitsOf t.2.1) rfl rfl rfl rfl rfl rfl rfl rfl (by omega) (by omega) ?_
          refine KW.idx0 rfl rfl rfl rfl rfl rfl rfl rfl rfl (by omega) (by omega) ?_
          refine KW.stI 1 (bitsOf t.2.1) rfl rfl rfl rfl rfl rfl rfl rfl rfl (by omega) (by omega) ?_
          refine KW.idx0 rfl rfl rfl rfl rfl rfl rfl rfl rfl (by omega) (by omega) ?_
          refine KW.ldI 1 (bitsOf t.2.2.1) rfl rfl rfl rfl rfl rfl rfl rfl (by omega) (by simp; omega) ?_
          refine KW.idx0 rfl rfl rfl rfl rfl rfl rfl rfl rfl (by omega) (by omega) ?_
          refine KW.stI 1 (bitsOf t.2.2.1) rfl rfl rfl rfl rfl rfl rfl rfl rfl (by omega) (by simp; omega) ?_
          refine KW.idx0 rfl rfl rfl rfl rfl rfl rfl rfl rfl (by rw [eor]; omega) (by rw [eor]; omega) ?_
          refine KW.ldI 1 (bitsOf t.2.1 ||| bitsOf t.2.2.1) rfl rfl rfl rfl rfl rfl rfl rfl (by rw [eor]; omega) (by simp; omega) ?_
          refine KW.idx0 rfl rfl rfl rfl rfl rfl rfl rfl rfl (by rw [eor]; omega) (by rw [eor]; omega) ?_
          refine KW.stI 1 (bitsOf t.2.1 ||| bitsOf t.2.2.1) rfl rfl rfl rfl rfl rfl rfl rfl rfl (by rw [eor]; omega) (by simp; omega) ?_
          refine KW.idx0 rfl rfl rfl rfl rfl rfl rfl rfl rfl (by rw [eand]; omega) (by rw [eand]; omega) ?_
          refine KW.ldI 1 (bitsOf t.2.1 &&& bitsOf t.2.2.1) rfl rfl rfl rfl rfl rfl rfl rfl (by rw [eand]; omega) (by simp; omega) ?_
          refine KW.idx0 rfl rfl rfl rfl rfl rfl rfl rfl rfl (by rw [eand]; omega) (by rw [eand]; omega) ?_
          refine KW.stI 1 (bitsOf t.2.1 &&& bitsOf t.2.2.1) rfl rfl rfl rfl rfl rfl rfl rfl rfl (by rw [eand]; omega) (by simp; omega) ?_
          refine KW.callE rfl rfl rfl rfl rfl (opens (m := q) (by omega) _ (by omega) hsm hb s1.up) (fun _ _ => ?_)
          have eT := eT.trans (show facS (facT F0 (y.take i)) t = subW (subW (addW (addW (facT F0 (y.take i)) (bitsOf t.2.1) t.2.2.2) (bitsOf t.2.2.1) t.2.2.2) (bitsOf t.2.1 ||| bitsOf t.2.2.1) t.2.2.2) (bitsOf t.2.1 &&& bitsOf t.2.2.1) t.2.2.2 from if_neg k4)
          have hno : ¬ (Opens gs (bitsOf t.2.1) ∧ Opens gs (bitsOf t.2.2.1) ∧ ¬ Opens gs (bitsOf t.2.1 &&& bitsOf t.2.2.1)) → uniS gs (uniT gs 0 (y.take i)) t = uniT gs 0 (y.take i) := fun hn => by unfold uniS; rw [tv_false (p := Strict gs t) (fun hc => by rcases hc with hc | hc; exact k4 hc.1; exact hn hc.2)]; rfl
          by_cases k5 : Opens gs (bitsOf t.2.1)
          · rw [tv_true k5]
            refine KW.tT rfl rfl (by first | (simp; done) | decide) ?_
            refine KW.callE rfl rfl rfl rfl rfl (opens (m := q) (by omega) _ (by omega) hsm hb s1.up) (fun _ _ => ?_)
            by_cases k6 : Opens gs (bitsOf t.2.2.1)
            · rw [tv_true k6]
              refine KW.tT rfl rfl (by first | (simp; done) | decide) ?_
              refine KW.callE rfl rfl rfl rfl rfl ((by show Spec _ _ _ _ [_, .int .u64 (IntKind.u64.wrap _)] _; rw [eand]; exact opens (m := q) (by omega) _ (by omega) hsm hb s1.up)) (fun _ _ => ?_)
              by_cases k7 : Opens gs (bitsOf t.2.1 &&& bitsOf t.2.2.1)
              · have hst := hno (fun hc => hc.2.2 k7)
                rw [tv_true k7]
                refine KW.cF rfl rfl (by first | (simp; done) | decide) ?_
                refine KW.nxt rfl rfl (fun H' g => ⟨i + 1, by omega, by first | omega | (simp only; omega), ⟨rfl, rfl, congrArg (Value.int .i64) (by rw [eU, hst]), rfl, rfl, congrArg (Value.int .i64) (inc64 (by omega)), trivial⟩, (g.take 2).idT (by rw [eT]; rfl)⟩)
              · have hst : uniS gs (uniT gs 0 (y.take i)) t = IntKind.i64.wrap (uniT gs 0 (y.take i) + t.2.2.2) := by unfold uniS; rw [tv_true (p := Strict gs t) (.inr ⟨k4, k5, k6, k7⟩)]; rfl
                rw [tv_false k7]
                refine KW.cT rfl rfl (by first | (simp; done) | decide) ?_
                refine KW.nxt rfl rfl (fun H' g => ⟨i + 1, by omega, by first | omega | (simp only; omega), ⟨rfl, rfl, congrArg (Value.int .i64) (by rw [eU, hst]), rfl, rfl, congrArg (Value.int .i64) (inc64 (by omega)), trivial⟩, (g.take 2).idT (by rw [eT]; rfl)⟩)
            · have hst := hno (fun hc => k6 hc.2.1)
              rw [tv_false k6]
              refine KW.tF rfl rfl (by first | (simp; done) | decide) ?_
              repeat first | refine KW.tT rfl rfl rfl ?_ | refine KW.tF rfl rfl rfl ?_
              refine KW.cF rfl rfl (by first | (simp; done) | decide) ?_
              refine KW.nxt rfl rfl (fun H' g => ⟨i + 1, by omega, by first | omega | (simp only; omega), ⟨rfl, rfl, congrArg (Value.int .i64) (by rw [eU, hst]), rfl, rfl, congrArg (Value.int .i64) (inc64 (by omega)), trivial⟩, (g.take 2).idT (by rw [eT]; rfl)⟩)
          · have hst := hno (fun hc => k5 hc.1)
            rw [tv_false k5]
            refine KW.tF rfl rfl (by first | (simp; done) | decide) ?_
            repeat first | refine KW.tT rfl rfl rfl ?_ | refine KW.tF rfl rfl rfl ?_
            refine KW.cF rfl rfl (by first | (simp; done) | decide) ?_
            refine KW.nxt rfl rfl (fun H' g => ⟨i + 1, by omega, by first | omega | (simp only; omega), ⟨rfl, rfl, congrArg (Value.int .i64) (by rw [eU, hst]), rfl, rfl, congrArg (Value.int .i64) (inc64 (by omega)), trivial⟩, (g.take 2).idT (by rw [eT]; rfl)⟩)
      · obtain rfl : i = y.length := by omega
        refine KW.fact (p := nV < n) (fun _ g => (g.vars 1 _ rfl).2.1) (fun hnV => ?_)
        obtain ⟨no, rfl⟩ : ∃ no, no = n := ⟨n, rfl⟩
        refine KW.mk1 rfl rfl rfl rfl rfl rfl rfl rfl rfl rfl rfl rfl (q) rfl rfl (by omega) (by show 8 * _ ≤ _; omega) ?_
        obtain ⟨F, hF⟩ : ∃ F, facT F0 y = F := ⟨_, rfl⟩
        have hFy : F.length = 2 ^ q := by rw [← hF, facT_len]; exact hF0l
        have efx : facX ((q : Int), gs) y = F := by rw [← hF, ← hF0]; rfl
        refine KW.lpM rfl rfl (fun c : Nat => [(9, .int .i64 (uniT gs 0 y)), (15, .slice (some ⟨no, 0, some 1⟩) q q), (140, .slice (some ⟨nV, 0, some 1⟩) (2 ^ q) (2 ^ q)), (141, .int .i64 ((2 ^ q : Nat) : Int)), (142, .int .i64 c)]) (fun c => Low H.n) (fun c => H) (fun c => [(H.n, ⟨31, true, [.int .i64 q, .slice a3 gs.length c3]⟩), (nV, ⟨2, true, F.map (Value.int .i64)⟩), (no, ⟨2, true, (parF F q c).map (Value.int .i64)⟩)]) (fun c => c ≤ 2 ^ q ∧ ∀ c', c' < c → 0 < c' → ones c' ≠ 1 → F.getD c' 0 = 0) (fun c => 2 ^ q - c) (0) (⟨by omega, fun c' h => absurd h (by omega)⟩) ⟨congrArg (Value.int .i64) (by rw [List.take_of_length_le (Nat.le_refl _)]), rfl, rfl, rfl, rfl, trivial⟩ rfl rfl (by rw [List.take_of_length_le (Nat.le_refl _), hF, parF_zero, List.map_replicate]; rfl) (fun c hi bE n => ?_)
        obtain ⟨hi, hz⟩ := hi
        have hpl := parF_len F q c
        refine KW.cnd rfl rfl (fun k4 => ?_) (fun k4 => ?_)
        · have k4 : (c : Int) < ((2 ^ q : Nat) : Int) := k4
          have hc64 : c < 64 := by omega
          have ewr : IntKind.u64.wrap (c : Int) = c := wru (by omega) (by omega)
          refine KW.idx0 rfl rfl rfl rfl rfl rfl rfl rfl rfl (by omega) (by omega) ?_
          refine KW.ldI 1 (c) rfl rfl rfl rfl rfl rfl rfl rfl (by omega) (by omega) ?_
          refine KW.callE rfl rfl rfl rfl rfl ((by show Spec _ _ _ _ [.int .u64 (IntKind.u64.wrap _)] _; rw [ewr]; exact size (by omega))) (fun _ _ => ?_)
          refine KW.cnd rfl rfl (fun k5 => ?_) (fun k5 => ?_)
          · have k5 : (ones c : Int) = 1 := k5
            have k5 : ones c = 1 := by omega
            obtain ⟨j, hj, rfl⟩ := (ones_pow c hc64).1 k5
            have hjq : j < q := by
              rcases Nat.lt_or_ge j q with h | h
              · exact h
              · have := Nat.pow_le_pow_right (n := 2) (by decide) h; omega
            have hhold := hold_pow j hj
            refine KW.callN1 rfl rfl rfl rfl rfl ((by show SpecM _ _ _ _ [.int .u64 (IntKind.u64.wrap _)] _; rw [ewr]; exact group (x := 2 ^ j) (by omega))) (fun v HG SG mG _ _ hv => ?_)
            obtain ⟨a5, c5, rfl, hG⟩ := hv
            refine KW.getI hG.ups rfl rfl rfl rfl rfl rfl rfl rfl rfl rfl rfl rfl rfl rfl rfl rfl (by omega) (by rw [hhold]; simp) (fun z hz2 => ?_)
            have hz2 : (hold (2 ^ j) 7)[0]? = some z := hz2
            rw [hhold] at hz2
            obtain rfl : z = (j : Int) := by simpa using hz2.symm
            refine KW.idx0 rfl rfl rfl rfl rfl rfl rfl rfl rfl (by omega) (by omega) ?_
            refine KW.stI 2 (j) rfl rfl rfl rfl rfl rfl rfl rfl rfl (by omega) (by omega) ?_
            refine KW.nxt rfl rfl (fun H' g => ⟨2 ^ j + 1, ⟨by omega, fun c' h1 h2 h3 => by rcases Nat.lt_or_ge c' (2 ^ j) with h | h; exact hz c' h h2 h3; exact absurd k5 (by rw [show 2 ^ j = c' by omega]; exact h3)⟩, by first | omega | (simp only; omega), ⟨rfl, rfl, rfl, rfl, congrArg (Value.int .i64) (inc64 (by omega)), trivial⟩, (g.back).idT (by rw [parF_one hjq]; rfl)⟩)
          · have k5 : ¬ (ones c : Int) = 1 := k5
            have k5 : ones c ≠ 1 := by omega
            refine KW.tst rfl rfl (fun k6 => ?_) (fun k6 => ?_)
            · have k6 : (c : Int) > 0 := k6
              refine KW.cndB rfl rfl (fun k7 => ?_) (fun k7 => ?_)
              · have k7 : F.getD c 0 ≠ 0 := by simpa using k7
                have e2 : r2_TermBound ((q : Int), gs) y = 8 := by unfold r2_TermBound; rw [if_pos hc, tv_true ⟨k1, hall⟩, efx, tv_true (p := BadF F) ⟨c, by omega, by omega, k5, k7⟩]; rfl
                have e3 := tb_err (x := ((q : Int), gs)) (y := y) (by rw [e2]; decide)
                rw [e2, e3.1, e3.2]
                refine KW.retM1 rfl rfl rfl rfl (fun H1 g => ?_)
                exact MkTB.nil rfl
              · have k7 : F.getD c 0 = 0 := by simpa using k7
                refine KW.nxt rfl rfl (fun H' g => ⟨c + 1, ⟨by omega, fun c' h1 h2 h3 => by rcases Nat.lt_or_ge c' c with h | h; exact hz c' h h2 h3; rw [show c' = c by omega]; exact k7⟩, by first | omega | (simp only; omega), ⟨rfl, rfl, rfl, rfl, congrArg (Value.int .i64) (inc64 (by omega)), trivial⟩, g.idT (by rw [parF_no hc64 hq5 k5])⟩)
            · have k6 : ¬ (c : Int) > 0 := k6
              refine KW.cF rfl rfl (by first | (simp; done) | decide) ?_
              refine KW.nxt rfl rfl (fun H' g => ⟨c + 1, ⟨by omega, fun c' h1 h2 h3 => by omega⟩, by first | omega | (simp only; omega), ⟨rfl, rfl, rfl, rfl, congrArg (Value.int .i64) (inc64 (by omega)), trivial⟩, g.idT (by rw [parF_no hc64 hq5 k5])⟩)
        · have k4 : ¬ (c : Int) < ((2 ^ q : Nat) : Int) := k4
          obtain rfl : c = 2 ^ q := by omega
          have e2 : r2_TermBound ((q : Int), gs) y = 0 := by
            unfold r2_TermBound
            rw [if_pos hc, tv_true ⟨k1, hall⟩, efx, tv_false (p := BadF F) (fun ⟨c', h1, h2, h3, h4⟩ => h4 (hz c' (by omega) h2 h3))]; rfl
          have e0 : r0_TermBound ((q : Int), gs) y = outF F q := by unfold r0_TermBound; rw [if_pos e2, efx]; rfl
          have e1 : r1_TermBound ((q : Int), gs) y = uniT gs 0 y := by unfold r1_TermBound; rw [if_pos e2]
          have hol := outF_len F q
          rw [e2, e1, e0]
          refine KW.retM1 rfl rfl rfl rfl (fun H1 g => ?_)
          refine ⟨some ⟨no, 0, some 1⟩, q, by rw [hol]; rfl, ml1' (int_ml ⟨(by omega : H.n ≤ no), (g.blk (j := 2) rfl).2⟩ (g.blk (j := 2) rfl).1 rfl (by rw [parF_all]) (by omega))⟩
    · rw [tv_true (p := ∃ x ∈ y, _) (Classical.byContradiction fun hn => hall fun t ht => Classical.byContradiction fun ht2 => hn ⟨t, ht, by rw [tv_false ht2]; rfl⟩)]
      refine KW.cT rfl rfl (by first | (simp; done) | decide) ?_
      refine KW.cT rfl rfl (by first | (simp; done) | decide) ?_
      have e2 := bad (fun hx => hall hx.2)
      have e3 := tb_err (x := ((q : Int), gs)) (y := y) (by rw [e2]; decide)
      rw [e2, e3.1, e3.2]
      refine KW.retM1 rfl rfl rfl rfl (fun H1 g => ?_)
      exact MkTB.nil rfl
  · refine KW.tno rfl rfl (hc) ?_
    repeat first | refine KW.tT rfl rfl rfl ?_ | refine KW.tF rfl rfl rfl ?_
    refine KW.cF rfl rfl (by first | (simp; done) | decide) ?_
    refine KW.cT rfl rfl (by simpa using hc) ?_
    have e2 : r2_TermBound (m, gs) y = codeF m gs := by unfold r2_TermBound; rw [if_neg hc]
    have e3 := tb_err (x := (m, gs)) (y := y) (by rw [e2]; exact hc)
    rw [e2, e3.1, e3.2]
    refine KW.retM1 rfl rfl rfl rfl (fun H1 g => ?_)
    exact MkTB.nil rfl
end
end Go.Proofs.Ytijmkfnmdhpakaa.Am
