/- Contracts and laws on abstract memory, merged. Each holds under its own conditions. -/
import Derived.Test.YtaepgfafbnjccaaPLiesThatPass02
/- Contracts: values, tags and lies of a deal, of the program and of the reference. Each holds under its own conditions. -/
set_option linter.unusedVariables false
set_option maxRecDepth 20000
namespace Go.Proofs.Ytaepgfafbnjccaa.Am
open Go Go.RowKit Go.Proofs
/-- The code of a deal, an epoch and a holder. -/
noncomputable def codeD (x : T_Deal) (e j : Int) : Int := if tv (DealOk x) = true then (if (0 ≤ e ∧ e ≤ (x.2.2.1.length : Int) - 1) ∧ (0 ≤ j ∧ j ≤ x.1.1 - 1) then 0 else 2) else 1
abbrev blD (x : T_Deal) (e : Int) : List Int := x.2.2.1.getD e.toNat []
abbrev kkD (x : T_Deal) (e : Int) : List (List Int) := x.2.2.2.getD e.toNat []
/-- A deal at an epoch and a holder. -/
structure DealAt (x : T_Deal) (e j : Int) (E J : Nat) : Prop where
  ee : e = E
  jj : j = J
  j6 : J ≤ 6
  sch : OkSch x.1.1 x.1.2.1 x.1.2.2.1 x.1.2.2.2.1 x.1.2.2.2.2
  sec : 0 ≤ x.2.1 ∧ x.2.1 ≤ x.1.2.2.1 - 1
  hb : x.2.2.1[E]? = some (blD x e)
  hk : x.2.2.2[E]? = some (kkD x e)
  bl : ((blD x e).length : Int) = x.1.2.2.2.1 - 1 ∧ Elems x.1.2.2.1 (blD x e)
  key : KeysOk x.1.2.2.1 x.1.2.2.2.2.length (kkD x e)
theorem codeD_ok {x : T_Deal} {e j : Int} (h : codeD x e j = 0) : ∃ E J, DealAt x e j E J := by
  unfold codeD at h
  split at h
  · rename_i hd
    have hd : DealOk x := tv_iff.1 hd
    split at h
    · rename_i hr
      have hbl := hd.bl
      have hkl := hd.kl
      have h7 := hd.sch.h7
      have h1 : x.2.2.1[e.toNat]? = some (blD x e) := by
        show _ = some (x.2.2.1.getD e.toNat [])
        rw [List.getD_eq_getElem?_getD, List.getElem?_eq_getElem (by omega)]; rfl
      have h2 : x.2.2.2[e.toNat]? = some (kkD x e) := by
        show _ = some (x.2.2.2.getD e.toNat [])
        rw [List.getD_eq_getElem?_getD, List.getElem?_eq_getElem (by omega)]; rfl
      have h3 := hd.bk _ _ _ h1 h2
      exact ⟨e.toNat, j.toNat, by omega, by omega, by omega, hd.sch, hd.sec, h1, h2, h3.1, h3.2⟩
    · cases h
  · cases h
def valsD (x : T_Deal) (e j : Int) : List Int := valsOf x.1.2.2.1 x.1.2.2.2.2 x.1.2.1 x.2.1 (blD x e) j
def tagsD (x : T_Deal) (e j : Int) (vals : List Int) : List Int := tagsOf x.1.2.2.1 (kkD x e) (rowsOf x.1.2.1 j) vals
def lieOf (p : Int) (vals : List Int) (lie : Int) : List Int := match vals with
  | [] => []
  | v :: vs => ((v + lie) % p) :: vs
theorem lie_len {p : Int} {vals : List Int} {lie : Int} : (lieOf p vals lie).length = vals.length := by cases vals <;> rfl
theorem lie_in {p : Int} {vals : List Int} {lie : Int} (hp : PrimeP p) (h : Elems p vals) : Elems p (lieOf p vals lie) := fun x hx => by
  cases vals with
  | nil => exact h x hx
  | cons v vs =>
    rcases List.mem_cons.1 hx with rfl | hx
    · have h1 := hp.1
      have := Int.emod_nonneg (v + lie) (show p ≠ 0 by omega)
      have := Int.emod_lt_of_pos (v + lie) (show 0 < p by omega)
      omega
    · exact h x (List.mem_cons_of_mem _ hx)
section
variable {S : Ids} {H0 : AH}
theorem dealCode (x : T_Deal) (e j : Int) {cs : List Value} (hB : B_Deal x) (h : K_Deal.R S H0 x cs) : Spec Try.prog S H0 82 [.agg cs.toArray, .int .i64 e, .int .i64 j] (fun v => v = .int .i64 (codeD x e j)) := by
  obtain ⟨a1, c1, a2, c2, a3, c3, a4, c4, rfl, h1, h2, h3, h4⟩ := split2_Deal h
  refine Spec.of1 Try.func82 rfl (by kernel_rfl) rfl (fun H _ => ?_)
  have hbl := hB.2.2.1.len
  refine KW.callE rfl rfl rfl rfl rfl (impl_ValidDeal hB (On.R h)) (fun _ _ => ?_)
  by_cases hd : DealOk x
  · rw [tv_true hd]
    refine KW.cF rfl rfl (by first | (simp; done) | decide) ?_
    have h7 := hd.sch.h7
    have h1 := hd.sch.h1
    refine KW.callE rfl rfl rfl rfl rfl (within _ _ _) (fun _ _ => ?_)
    rw [wr (x := (x.2.2.1.length : Int) - 1) (by omega) (by omega)]
    refine KW.tstB rfl rfl (fun k1 => ?_) (fun k1 => ?_)
    · refine KW.cT rfl rfl (by first | (simp; done) | decide) ?_
      exact KW.ret rfl rfl rfl rfl (by unfold codeD; rw [if_pos (tv_true hd), if_neg (fun hc => by simp at k1; omega)]; rfl)
    have k1 : 0 ≤ e ∧ e ≤ (x.2.2.1.length : Int) - 1 := by simpa using k1
    refine KW.callE rfl rfl rfl rfl rfl (within _ _ _) (fun _ _ => ?_)
    rw [wr (x := x.1.1 - 1) (by omega) (by omega)]
    refine KW.cndB rfl rfl (fun k2 => ?_) (fun k2 => ?_)
    · exact KW.ret rfl rfl rfl rfl (by unfold codeD; rw [if_pos (tv_true hd), if_neg (fun hc => by simp at k2; omega)]; rfl)
    have k2 : 0 ≤ j ∧ j ≤ x.1.1 - 1 := by simpa using k2
    exact KW.ret rfl rfl rfl rfl (by unfold codeD; rw [if_pos (tv_true hd), if_pos ⟨k1, k2⟩]; rfl)
  · rw [tv_false hd]
    refine KW.cT rfl rfl (by first | (simp; done) | decide) ?_
    exact KW.ret rfl rfl rfl rfl (by unfold codeD; rw [if_neg (by rw [tv_false hd]; decide)]; rfl)
theorem l08Asked (x : T_Deal) (e j : Int) {id k : Nat} {cs : List Value} (hB : B_Deal x) (hv : Has3 S H0 id k cs) (h : K_Deal.R S H0 x cs) : Spec Try.prog S H0 77 [.pointer (some ⟨id, k, none⟩), .int .i64 e, .int .i64 j] (fun v => v = .int .i64 (codeD x e j)) := by
  obtain ⟨a1, c1, a2, c2, a3, c3, a4, c4, rfl, h1, h2, h3, h4⟩ := split2_Deal h
  refine Spec.of1 Try.func77 rfl (by kernel_rfl) rfl (fun H _ => ?_)
  have hv := hv.up (S' := Low H.n) (H' := H)
  have hbl := hB.2.2.1.len
  refine KW.callE rfl rfl rfl rfl rfl (l08Ok _ _ _ _ hB.1.2.2.1 hB.1.2.1 hB.1.2.2.2.2 hB.2.2.1 hB.2.2.2 hv h1.up h2.up h3.up h4.up) (fun _ _ => ?_)
  by_cases hd : DealOk x
  · rw [tv_true (p := OkDeal _ _ _ _ _ _ _ _) hd]
    refine KW.cF rfl rfl (by first | (simp; done) | decide) ?_
    have h7 := hd.sch.h7
    have h1 := hd.sch.h1
    refine KW.ldF 6 hv rfl rfl rfl rfl rfl rfl rfl rfl rfl ?_
    refine KW.callE rfl rfl rfl rfl rfl (l00In _ _ _) (fun _ _ => ?_)
    rw [wr (x := (x.2.2.1.length : Int) - 1) (by omega) (by omega)]
    refine KW.tstB rfl rfl (fun k1 => ?_) (fun k1 => ?_)
    · refine KW.cT rfl rfl (by first | (simp; done) | decide) ?_
      exact KW.ret rfl rfl rfl rfl (by unfold codeD; rw [if_pos (tv_true hd), if_neg (fun hc => by simp at k1; omega)]; rfl)
    have k1 : 0 ≤ e ∧ e ≤ (x.2.2.1.length : Int) - 1 := by simpa using k1
    refine KW.ldF 0 hv rfl rfl rfl rfl rfl rfl rfl rfl rfl ?_
    refine KW.callE rfl rfl rfl rfl rfl (l00In _ _ _) (fun _ _ => ?_)
    rw [wr (x := x.1.1 - 1) (by omega) (by omega)]
    refine KW.cndB rfl rfl (fun k2 => ?_) (fun k2 => ?_)
    · exact KW.ret rfl rfl rfl rfl (by unfold codeD; rw [if_pos (tv_true hd), if_neg (fun hc => by simp at k2; omega)]; rfl)
    have k2 : 0 ≤ j ∧ j ≤ x.1.1 - 1 := by simpa using k2
    exact KW.ret rfl rfl rfl rfl (by unfold codeD; rw [if_pos (tv_true hd), if_pos ⟨k1, k2⟩]; rfl)
  · rw [tv_false (p := OkDeal _ _ _ _ _ _ _ _) hd]
    refine KW.cT rfl rfl (by first | (simp; done) | decide) ?_
    exact KW.ret rfl rfl rfl rfl (by unfold codeD; rw [if_neg (by rw [tv_false hd]; decide)]; rfl)
theorem valuesD (x : T_Deal) (e j : Int) {E J : Nat} (hd : DealAt x e j E J) {cs : List Value} (hB : B_Deal x) (h : K_Deal.R S H0 x cs) : SpecM Try.prog S H0 87 [.agg cs.toArray, .int .i64 e, .int .i64 j] (MkL (valsD x e j)) := by
  obtain ⟨a1, c1, a2, c2, a3, c3, a4, c4, rfl, h1, h2, h3, h4⟩ := split2_Deal h
  have := values x.1.1 x.1.2.2.1 x.1.2.2.2.1 x.2.1 E J (c2 := c2) (a4 := a4) (n4 := x.2.2.2.length) (c4 := c4) hB.1.2.1 hB.1.2.2.2.2 hd.sch hd.sec hd.hb hd.bl.1 hd.bl.2 hd.j6 h1 h2 h3
  rw [hd.ee, hd.jj]
  rw [hd.ee] at this
  exact this
theorem l08ValuesD (x : T_Deal) (e j : Int) {E J : Nat} (hd : DealAt x e j E J) {id k : Nat} {cs : List Value} (hB : B_Deal x) (hv : Has3 S H0 id k cs) (h : K_Deal.R S H0 x cs) : SpecM Try.prog S H0 86 [.pointer (some ⟨id, k, none⟩), .int .i64 e, .int .i64 j] (MkL (valsD x e j)) := by
  obtain ⟨a1, c1, a2, c2, a3, c3, a4, c4, rfl, h1, h2, h3, h4⟩ := split2_Deal h
  have := l08Values x.1.1 x.1.2.2.1 x.1.2.2.2.1 x.2.1 E J hB.1.2.1 hB.1.2.2.2.2 hd.sch hd.sec hd.hb hd.bl.1 hd.bl.2 hv h1 h2 h3
  rw [hd.ee, hd.jj]
  rw [hd.ee] at this
  exact this
theorem tagsDD (x : T_Deal) (e j : Int) {E J : Nat} (hd : DealAt x e j E J) {cs : List Value} (hB : B_Deal x) (h : K_Deal.R S H0 x cs) {vals : List Int} {a c} (hl : vals.length = (rowsOf x.1.2.1 j).length) (he : Elems x.1.2.2.1 vals) (hs : KI.Sl S H0 (.slice a vals.length c) vals) : SpecM Try.prog S H0 85 [.agg cs.toArray, .int .i64 e, .int .i64 j, .slice a vals.length c] (MkL (tagsD x e j vals)) := by
  obtain ⟨a1, c1, a2, c2, a3, c3, a4, c4, rfl, h1, h2, h3, h4⟩ := split2_Deal h
  have := tags x.1.1 x.1.2.2.1 x.1.2.2.2.1 x.2.1 E J (a2 := a2) (c2 := c2) (a3 := a3) (n3 := x.2.2.1.length) (c3 := c3) hB.1.2.1 hB.2.2.2 hd.sch hd.hk hd.key hd.j6 (by rw [← hd.jj]; exact hl) he h1 h4 hs
  unfold tagsD
  rw [hd.ee, hd.jj]
  rw [hd.ee] at this
  exact this
theorem l08TagsD (x : T_Deal) (e j : Int) {E J : Nat} (hd : DealAt x e j E J) {id k : Nat} {cs : List Value} (hB : B_Deal x) (hv : Has3 S H0 id k cs) (h : K_Deal.R S H0 x cs) {vals : List Int} {a c} (hl : vals.length = (rowsOf x.1.2.1 j).length) (he : Elems x.1.2.2.1 vals) (hs : KI.Sl S H0 (.slice a vals.length c) vals) : SpecM Try.prog S H0 81 [.pointer (some ⟨id, k, none⟩), .int .i64 e, .int .i64 j, .slice a vals.length c] (MkL (tagsD x e j vals)) := by
  obtain ⟨a1, c1, a2, c2, a3, c3, a4, c4, rfl, h1, h2, h3, h4⟩ := split2_Deal h
  have := l08Tags x.1.1 x.1.2.2.1 x.1.2.2.2.1 x.2.1 E J hB.1.2.1 hB.2.2.2 hd.sch hd.hk hd.key (by rw [← hd.jj]; exact hl) he hv h1 h4 hs
  unfold tagsD
  rw [hd.ee, hd.jj]
  rw [hd.ee] at this
  exact this
/-- A list and a code. -/
def MkLC (xs : List Int) (code : Int) (n : Nat) (v : Value) (H1 : AH) : Prop := ∃ a c, v = .tuple #[.slice a xs.length c, .int .i64 code] ∧ M_Int64S.R (New n H1.n) H1 xs [.slice a xs.length c]
theorem MkLC.nil {code : Int} {n : Nat} {H1 : AH} {v : Value} (hv : v = .tuple #[.slice none 0 0, .int .i64 code]) : MkLC [] code n v H1 := ⟨none, 0, hv, ml1' (.inl ⟨rfl, _, _, rfl, fun _ => rfl⟩)⟩
theorem MkLC.nil' {code : Int} {n id : Nat} {H1 : AH} {v : Value} (hv : v = .tuple #[.slice (some ⟨id, 0, some 1⟩) 0 0, .int .i64 code]) : MkLC [] code n v H1 := ⟨_, 0, hv, ml1' (.inl ⟨rfl, _, _, rfl, fun h => by cases h⟩)⟩
/-- What a callee has made is handed on. -/
theorem Good.made {S0 : Ids} {H0 H1 H2 : AH} {T : List Var} {n lo m : Nat} {xs : List Int} {a : Option Addr} {c : Nat} (g : Good S0 H0 T n H2) [o : On (New m H1.n) H1 S0 H0] (hm : lo ≤ m) (h : KI.Ml (New m H1.n) H1 (.slice a xs.length c) xs) : KI.Ml (New lo H2.n) H2 (.slice a xs.length c) xs :=
  Kn.Ml.st h (g.out (fun id hid => by have := hid.1; omega)).st
noncomputable def r1_DealValues (x : T_Deal) (e j : Int) : Int := codeD x e j
noncomputable def r1_DealTags (x : T_Deal) (e j : Int) : Int := codeD x e j
noncomputable def r0_DealValues (x : T_Deal) (e j : Int) : List Int := if codeD x e j = 0 then valsD x e j else []
theorem impl_DealValues {x : T_Deal} (e j : Int) (he : I64 e) (hj : I64 j) {cs : List Value} (hB : B_Deal x) (h : K_Deal.R S H0 x cs) : SpecM Try.prog S H0 31 [.agg cs.toArray, .int .i64 e, .int .i64 j] (MkLC (r0_DealValues x e j) (codeD x e j)) := by
  obtain ⟨a1, c1, a2, c2, a3, c3, a4, c4, rfl, h1, h2, h3, h4⟩ := split2_Deal h
  refine SpecM.of1 Try.func31 rfl (by kernel_rfl) rfl (fun H _ => ?_)
  refine KW.callE rfl rfl rfl rfl rfl (dealCode x e j hB (On.R h)) (fun _ _ => ?_)
  unfold r0_DealValues
  by_cases hc : codeD x e j = 0
  · obtain ⟨E, J, hd⟩ := codeD_ok hc
    rw [if_pos hc, hc]
    refine KW.cF rfl rfl (by first | (simp; done) | decide) ?_
    refine KW.callN1 rfl rfl rfl rfl rfl (valuesD x e j hd hB (On.R h)) (fun v HA SA mA _ _ hv => ?_)
    obtain ⟨a5, c5, rfl, hA⟩ := hv
    refine KW.retM1 rfl rfl rfl rfl (fun H1 g => ⟨_, _, rfl, ml1' (g.made (by omega) hA)⟩)
  · rw [if_neg hc]
    refine KW.cndB rfl rfl (fun k1 => ?_) (fun k1 => ?_)
    · refine KW.retM1 rfl rfl rfl rfl (fun H1 g => MkLC.nil rfl)
    · exact absurd (by simpa using k1) hc
theorem spec_DealValues {x : T_Deal} (e j : Int) (he : I64 e) (hj : I64 j) {cs : List Value} (hB : B_Deal x) (h : K_Deal.R S H0 x cs) : SpecM Try.prog S H0 30 [.agg cs.toArray, .int .i64 e, .int .i64 j] (MkLC (r0_DealValues x e j) (codeD x e j)) := by
  obtain ⟨a1, c1, a2, c2, a3, c3, a4, c4, rfl, h1, h2, h3, h4⟩ := split2_Deal h
  refine SpecM.of1 Try.func30 rfl (by kernel_rfl) rfl (fun H _ => ?_)
  refine KW.callV1 rfl rfl rfl rfl rfl (fun H1 g _ => l08Asked x e j hB (g.has (j := 0) rfl rfl) (On.R h)) (fun _ _ => ?_)
  unfold r0_DealValues
  by_cases hc : codeD x e j = 0
  · obtain ⟨E, J, hd⟩ := codeD_ok hc
    rw [if_pos hc, hc]
    refine KW.cF rfl rfl (by first | (simp; done) | decide) ?_
    refine KW.fact (fun _ g => g.nle (H1 := H)) (fun hn0 => ?_)
    refine KW.callNV1 rfl rfl rfl rfl rfl (fun H1 g _ => l08ValuesD x e j hd hB (g.has (j := 0) rfl rfl) (On.R h)) (fun v HA SA mA _ _ hv => ?_)
    obtain ⟨a5, c5, rfl, hA⟩ := hv
    refine KW.retM1 rfl rfl rfl rfl (fun H1 g => ⟨_, _, rfl, ml1' (g.made (by omega) hA)⟩)
  · rw [if_neg hc]
    refine KW.cndB rfl rfl (fun k1 => ?_) (fun k1 => ?_)
    · refine KW.lit rfl rfl rfl rfl rfl rfl rfl rfl rfl rfl [] rfl rfl (fun v hv => by simp at hv) rfl ?_
      refine KW.retM1 rfl rfl rfl rfl (fun H1 g => MkLC.nil' rfl)
    · exact absurd (by simpa using k1) hc
noncomputable def r0_DealTags (x : T_Deal) (e j : Int) : List Int := if codeD x e j = 0 then tagsD x e j (valsD x e j) else []
theorem impl_DealTags {x : T_Deal} (e j : Int) (he : I64 e) (hj : I64 j) {cs : List Value} (hB : B_Deal x) (h : K_Deal.R S H0 x cs) : SpecM Try.prog S H0 40 [.agg cs.toArray, .int .i64 e, .int .i64 j] (MkLC (r0_DealTags x e j) (codeD x e j)) := by
  obtain ⟨a1, c1, a2, c2, a3, c3, a4, c4, rfl, h1, h2, h3, h4⟩ := split2_Deal h
  refine SpecM.of1 Try.func40 rfl (by kernel_rfl) rfl (fun H _ => ?_)
  refine KW.callE rfl rfl rfl rfl rfl (dealCode x e j hB (On.R h)) (fun _ _ => ?_)
  unfold r0_DealTags
  by_cases hc : codeD x e j = 0
  · obtain ⟨E, J, hd⟩ := codeD_ok hc
    rw [if_pos hc, hc]
    refine KW.cF rfl rfl (by first | (simp; done) | decide) ?_
    refine KW.fact (fun _ g => g.nle (H1 := H)) (fun hn0 => ?_)
    refine KW.callN1 rfl rfl rfl rfl rfl (valuesD x e j hd hB (On.R h)) (fun v HA SA mA _ _ hv => ?_)
    obtain ⟨a5, c5, rfl, hA⟩ := hv
    refine KW.callN1 rfl rfl rfl rfl rfl (tagsDD x e j hd hB (On.R h) vals_len (vals_in hd.sch.mat.pr) hA.ups) (fun v HC SC mC _ _ hv => ?_)
    obtain ⟨a6, c6, rfl, hC⟩ := hv
    refine KW.retM1 rfl rfl rfl rfl (fun H1 g => ⟨_, _, rfl, ml1' (g.made (by omega) hC)⟩)
  · rw [if_neg hc]
    refine KW.cndB rfl rfl (fun k1 => ?_) (fun k1 => ?_)
    · refine KW.retM1 rfl rfl rfl rfl (fun H1 g => MkLC.nil rfl)
    · exact absurd (by simpa using k1) hc
theorem spec_DealTags {x : T_Deal} (e j : Int) (he : I64 e) (hj : I64 j) {cs : List Value} (hB : B_Deal x) (h : K_Deal.R S H0 x cs) : SpecM Try.prog S H0 39 [.agg cs.toArray, .int .i64 e, .int .i64 j] (MkLC (r0_DealTags x e j) (codeD x e j)) := by
  obtain ⟨a1, c1, a2, c2, a3, c3, a4, c4, rfl, h1, h2, h3, h4⟩ := split2_Deal h
  refine SpecM.of1 Try.func39 rfl (by kernel_rfl) rfl (fun H _ => ?_)
  refine KW.callV1 rfl rfl rfl rfl rfl (fun H1 g _ => l08Asked x e j hB (g.has (j := 0) rfl rfl) (On.R h)) (fun _ _ => ?_)
  unfold r0_DealTags
  by_cases hc : codeD x e j = 0
  · obtain ⟨E, J, hd⟩ := codeD_ok hc
    rw [if_pos hc, hc]
    refine KW.cF rfl rfl (by first | (simp; done) | decide) ?_
    refine KW.fact (fun _ g => g.nle (H1 := H)) (fun hn0 => ?_)
    refine KW.callNV1 rfl rfl rfl rfl rfl (fun H1 g _ => l08ValuesD x e j hd hB (g.has (j := 0) rfl rfl) (On.R h)) (fun v HA SA mA _ _ hv => ?_)
    obtain ⟨a5, c5, rfl, hA⟩ := hv
    refine KW.callNV1 rfl rfl rfl rfl rfl (fun H1 g _ => l08TagsD x e j hd hB (g.has (j := 0) rfl rfl) (On.R h) vals_len (vals_in hd.sch.mat.pr) hA.ups) (fun v HC SC mC _ _ hv => ?_)
    obtain ⟨a6, c6, rfl, hC⟩ := hv
    refine KW.retM1 rfl rfl rfl rfl (fun H1 g => ⟨_, _, rfl, ml1' (g.made (by omega) hC)⟩)
  · rw [if_neg hc]
    refine KW.cndB rfl rfl (fun k1 => ?_) (fun k1 => ?_)
    · refine KW.lit rfl rfl rfl rfl rfl rfl rfl rfl rfl rfl [] rfl rfl (fun v hv => by simp at hv) rfl ?_
      refine KW.retM1 rfl rfl rfl rfl (fun H1 g => MkLC.nil' rfl)
    · exact absurd (by simpa using k1) hc
theorem bound_DealValues {x : T_Deal} (e j : Int) (he : I64 e) (hj : I64 j) (hB : B_Deal x) : B_Int64S (r0_DealValues x e j) := by
  unfold r0_DealValues
  split
  · rename_i hc
    obtain ⟨E, J, hd⟩ := codeD_ok hc
    show (valsD x e j).length ≤ 1048576
    have h1 : (valsD x e j).length = (rowsOf x.1.2.1 j).length := vals_len
    have h2 : (rowsOf x.1.2.1 j).length ≤ x.1.2.1.length := rowsP_len _ _
    have h3 : x.1.2.1.length ≤ 1048576 := hB.1.2.1
    omega
  · show 0 ≤ _; omega
theorem bound_DealTags {x : T_Deal} (e j : Int) (he : I64 e) (hj : I64 j) (hB : B_Deal x) : B_Int64S (r0_DealTags x e j) := by
  unfold r0_DealTags
  split
  · show (tagsD x e j _).length ≤ 1048576
    have h1 : (tagsD x e j (valsD x e j)).length = (rowsOf x.1.2.1 j).length := by simp [tagsD, tagsOf]
    have h2 : (rowsOf x.1.2.1 j).length ≤ x.1.2.1.length := rowsP_len _ _
    have h3 : x.1.2.1.length ≤ 1048576 := hB.1.2.1
    omega
  · show 0 ≤ _; omega
end
end Go.Proofs.Ytaepgfafbnjccaa.Am
/- Contracts: copies and equality of rows; lies. Each holds under its own conditions. -/
set_option linter.unusedVariables false
set_option linter.unusedSimpArgs false
set_option maxRecDepth 20000
namespace Go.Proofs.Ytaepgfafbnjccaa.Am
open Go Go.RowKit Go.Proofs
section
variable {S : Ids} {H0 : AH}
theorem l00Own {a c} {xs : List Int} (hl : xs.length ≤ 1048576) (hs : KI.Sl S H0 (.slice a xs.length c) xs) : SpecM Try.prog S H0 155 [.slice a xs.length c] (MkL xs) := by
  refine SpecM.of1 Try.func155 rfl (by kernel_rfl) rfl (fun H _ => ?_)
  refine KW.lit rfl rfl rfl rfl rfl rfl rfl rfl rfl rfl [] rfl rfl (fun v hv => by simp at hv) rfl ?_
  refine KW.appV 0 rfl rfl rfl rfl rfl rfl rfl rfl rfl rfl (fun H1 g => acells_I hs.up g) (by simp) (by simp) (fun v hv => by obtain ⟨_, _, rfl⟩ := List.mem_map.1 hv; rfl) (by show (_ + _) * 8 ≤ _; simp only [List.length_cons, List.length_nil]; omega) (by simp only [List.length_cons, List.length_nil]; omega) (show 0 + xs.length = xs.length from by omega) (fun oa _ _ => ?_)
  refine KW.retM1 rfl rfl rfl rfl (fun H1 g => MkL.of g (j := 0) rfl (g.ge (H1 := H) (j := 0) rfl))
theorem cloneI {a c} {xs : List Int} (hl : xs.length ≤ 1048576) (hs : KI.Sl S H0 (.slice a xs.length c) xs) : SpecM Try.prog S H0 103 [.slice a xs.length c] (MkL xs) := by
  refine SpecM.of1 Try.func103 rfl (by kernel_rfl) rfl (fun H _ => ?_)
  refine KW.cndB rfl rfl (fun h => ?_) (fun h => ?_)
  · have ha : a = none := by cases a with
      | none => rfl
      | some a => simp at h
    have hx : xs = [] := by
      rcases hs with ⟨hx, _⟩ | ⟨id, k, c1, b, h1, _⟩
      · exact hx
      · rw [ha] at h1; cases h1
    subst hx
    refine KW.retM1 rfl rfl rfl rfl (fun H1 g => ⟨none, 0, rfl, .inl ⟨rfl, _, _, rfl, fun _ => rfl⟩⟩)
  · refine KW.lit rfl rfl rfl rfl rfl rfl rfl rfl rfl rfl [] rfl rfl (fun v hv => by simp at hv) rfl ?_
    refine KW.appV 0 rfl rfl rfl rfl rfl rfl rfl rfl rfl rfl (fun H1 g => acells_I hs.up g) (by simp) (by simp) (fun v hv => by obtain ⟨_, _, rfl⟩ := List.mem_map.1 hv; rfl) (by show (_ + _) * 8 ≤ _; simp only [List.length_cons, List.length_nil]; omega) (by simp only [List.length_cons, List.length_nil]; omega) (show 0 + xs.length = xs.length from by omega) (fun oa _ _ => ?_)
    refine KW.retM1 rfl rfl rfl rfl (fun H1 g => MkL.of g (j := 0) rfl (g.ge (H1 := H) (j := 0) rfl))
theorem equalI {a c a' c'} {xs ys : List Int} (hl : xs.length ≤ 1048576) (hs : KI.Sl S H0 (.slice a xs.length c) xs) (hs' : KI.Sl S H0 (.slice a' ys.length c') ys) : Spec Try.prog S H0 84 [.slice a xs.length c, .slice a' ys.length c'] (fun v => v = .bool (tv (xs = ys))) := by
  refine Spec.of1 Try.func84 rfl (by kernel_rfl) rfl (fun H _ => ?_)
  refine KW.cndB rfl rfl (fun h => ?_) (fun h => ?_)
  · exact KW.ret rfl rfl rfl rfl (by rw [tv_false (fun hc => by rw [hc] at h; simp at h)]; rfl)
  have h : xs.length = ys.length := by simp at h; omega
  refine KW.lp rfl rfl (fun i : Nat => [(0, .slice a xs.length c), (1, .slice a' ys.length c'), (12, .int .i64 xs.length), (13, .int .i64 i)]) (fun i => i ≤ xs.length ∧ ∀ j, j < i → xs[j]? = ys[j]?) (fun i => xs.length - i) (0) (⟨by omega, fun j h => absurd h (by omega)⟩) ⟨rfl, rfl, rfl, rfl, trivial⟩ (fun i hi bE n => ?_)
  obtain ⟨hi, hj⟩ := hi
  refine KW.cnd rfl rfl (fun h2 => ?_) (fun h2 => ?_)
  · refine KW.getI hs.up rfl rfl rfl rfl rfl rfl rfl rfl rfl rfl rfl rfl rfl rfl rfl rfl (by omega) (h2) (fun x hx => ?_)
    refine KW.getI hs'.up rfl rfl rfl rfl rfl rfl rfl rfl rfl rfl rfl rfl rfl rfl rfl rfl (by omega) (by omega) (fun y hy => ?_)
    have hx : xs[i]? = some x := hx
    have hy : ys[i]? = some y := hy
    refine KW.cndB rfl rfl (fun h3 => ?_) (fun h3 => ?_)
    · exact KW.ret rfl rfl rfl rfl (by rw [tv_false (fun hc => by subst hc; rw [hx] at hy; cases hy; simp at h3)]; rfl)
    have h3 : x = y := by simpa using h3
    refine KW.nxt rfl rfl (fun H' g => ⟨i + 1, ⟨by omega, upto hj (by rw [hx, hy, h3])⟩, by first | omega | (simp only; omega), ⟨rfl, rfl, rfl, congrArg (Value.int .i64) (inc64 (by omega)), trivial⟩, g⟩)
  · have : xs = ys := List.ext_getElem? fun j => by
      rcases Nat.lt_or_ge j i with h | h
      · exact hj j h
      · rw [List.getElem?_eq_none (by omega), List.getElem?_eq_none (by omega)]
    exact KW.ret rfl rfl rfl rfl (by rw [tv_true this]; rfl)
theorem l00Same {a c a' c'} {xs ys : List Int} (hl : xs.length ≤ 1048576) (hs : KI.Sl S H0 (.slice a xs.length c) xs) (hs' : KI.Sl S H0 (.slice a' ys.length c') ys) : Spec Try.prog S H0 80 [.slice a xs.length c, .slice a' ys.length c'] (fun v => v = .bool (tv (xs = ys))) := by
  refine Spec.of1 Try.func80 rfl (by kernel_rfl) rfl (fun H _ => ?_)
  refine KW.cndB rfl rfl (fun h => ?_) (fun h => ?_)
  · exact KW.ret rfl rfl rfl rfl (by rw [tv_false (fun hc => by rw [hc] at h; simp at h)]; rfl)
  have h : xs.length = ys.length := by simp at h; omega
  refine KW.lp rfl rfl (fun i : Nat => [(0, .slice a xs.length c), (1, .slice a' ys.length c'), (5, .int .i64 i)]) (fun i => i ≤ xs.length ∧ ∀ j, j < i → xs[j]? = ys[j]?) (fun i => xs.length - i) (0) (⟨by omega, fun j h => absurd h (by omega)⟩) ⟨rfl, rfl, rfl, trivial⟩ (fun i hi bE n => ?_)
  obtain ⟨hi, hj⟩ := hi
  refine KW.cnd rfl rfl (fun h2 => ?_) (fun h2 => ?_)
  · refine KW.getI hs.up rfl rfl rfl rfl rfl rfl rfl rfl rfl rfl rfl rfl rfl rfl rfl rfl (by omega) (h2) (fun x hx => ?_)
    refine KW.getI hs'.up rfl rfl rfl rfl rfl rfl rfl rfl rfl rfl rfl rfl rfl rfl rfl rfl (by omega) (by omega) (fun y hy => ?_)
    have hx : xs[i]? = some x := hx
    have hy : ys[i]? = some y := hy
    refine KW.cndB rfl rfl (fun h3 => ?_) (fun h3 => ?_)
    · exact KW.ret rfl rfl rfl rfl (by rw [tv_false (fun hc => by subst hc; rw [hx] at hy; cases hy; simp at h3)]; rfl)
    have h3 : x = y := by simpa using h3
    refine KW.nxt rfl rfl (fun H' g => ⟨i + 1, ⟨by omega, upto hj (by rw [hx, hy, h3])⟩, by first | omega | (simp only; omega), ⟨rfl, rfl, congrArg (Value.int .i64) (inc64 (by omega)), trivial⟩, g⟩)
  · have : xs = ys := List.ext_getElem? fun j => by
      rcases Nat.lt_or_ge j i with h | h
      · exact hj j h
      · rw [List.getElem?_eq_none (by omega), List.getElem?_eq_none (by omega)]
    exact KW.ret rfl rfl rfl rfl (by rw [tv_true this]; rfl)
theorem lie_at {p : Int} {vals : List Int} {lie : Int} {i : Nat} {x : Int} (hi : (lieOf p vals lie)[i]? = some x) : (i = 0 ∧ x = (vals.getD 0 0 + lie) % p) ∨ (0 < i ∧ vals[i]? = some x) := by
  cases vals with
  | nil => simp [lieOf] at hi
  | cons v vs =>
    cases i with
    | zero => exact .inl ⟨rfl, by simpa [lieOf] using hi.symm⟩
    | succ i => exact .inr ⟨by omega, by simpa [lieOf] using hi⟩
theorem lied (h p c s : Int) (hp : PrimeP p) (lie : Int) (hlie : 0 ≤ lie ∧ lie ≤ p) {a1 c1 a2 c2 a3 c3 a4 c4 a5 c5} {n1 n2 n3 n4 : Nat} {vals : List Int} (hl : vals.length ≤ 1048576) (hv : Elems p vals) (hs : KI.Sl S H0 (.slice a5 vals.length c5) vals) :
    SpecM Try.prog S H0 124 [.agg #[.int .i64 h, .slice a1 n1 c1, .int .i64 p, .int .i64 c, .slice a2 n2 c2, .int .i64 s, .slice a3 n3 c3, .slice a4 n4 c4], .slice a5 vals.length c5, .int .i64 lie] (MkL (lieOf p vals lie)) := by
  refine SpecM.of1 Try.func124 rfl (by kernel_rfl) rfl (fun H _ => ?_)
  refine KW.fact (fun _ g => g.nle (H1 := H)) (fun hn0 => ?_)
  refine KW.callN1 rfl rfl rfl rfl rfl (cloneI hl hs.up) (fun v HA SA mA _ _ hv => ?_)
  obtain ⟨a6, c6, rfl, hA⟩ := hv
  refine KW.cnd rfl rfl (fun k1 => ?_) (fun k1 => ?_)
  · have k1 : 0 < vals.length := by have : (0 : Int) < vals.length := k1; omega
    obtain ⟨o, c7, b, e1, e2, e3, e4, e5, e6, e7⟩ := hA.ints (fun hx => by rw [hx] at k1; simp at k1)
    cases e1
    obtain ⟨ty, rw, cells⟩ := b
    obtain rfl : rw = true := e5
    obtain ⟨v0, hv0⟩ : ∃ v, vals[0]? = some v := ⟨vals[0], List.getElem?_eq_getElem k1⟩
    have hvd : vals.getD 0 0 = v0 := getD_of hv0
    have hvb := hv v0 (List.mem_of_getElem? hv0)
    have hp2 := hp.1
    have hp31 := hp.2.1
    have oS := (inferInstance : On (New _ HA.n) HA SA HA).st o e3
    refine KW.thaw o ⟨ty, true, cells⟩ oS.1 e4 ?_
    haveI : On (Low H.n) H (fun id => SA id ∧ id ≠ o) HA := On.thaw (fun id hid => by have : id < H.n := hid; have := e3.1; omega)
    refine KW.idx0 rfl rfl rfl rfl rfl rfl rfl rfl rfl (by omega) (by omega) ?_
    refine KW.ldT 1 rfl rfl rfl rfl rfl rfl (bload_at (e7 0 v0 hv0) rfl rfl) ?_
    refine KW.rem rfl rfl rfl rfl rfl rfl (by rw [wr (by omega) (by omega)]; omega) (by omega) ?_
    rw [wr (by omega) (by omega), ← hvd]
    refine KW.idx0 rfl rfl rfl rfl rfl rfl rfl rfl rfl (by omega) (by omega) ?_
    refine KW.st1 1 rfl rfl rfl rfl rfl rfl rfl rfl rfl rfl rfl rfl (by simp only; simp only at e6; omega) ?_
    refine KW.retM1 rfl rfl rfl rfl (fun H1 g => ?_)
    have hb := g.blk (j := 1) rfl
    have el : (lieOf p vals lie).length = vals.length := lie_len
    refine ⟨_, _, by rw [el]; rfl, ?_⟩
    refine mlI_of ⟨by have := e3.1; omega, hb.2⟩ hb.1 rfl (by rw [el]; exact e2) (by rw [el]; simp only [List.length_set]; exact e6) (fun i x hi => ?_)
    rcases lie_at hi with ⟨rfl, rfl⟩ | ⟨h0, h1⟩
    · show (cells.set 0 (Value.int .i64 _))[0]? = _
      rw [List.getElem?_set_self (by simp only at e6; omega)]
    · show (cells.set 0 (Value.int .i64 _))[i]? = _
      rw [List.getElem?_set_ne (by omega)]; exact e7 i x h1
  · have hx : vals = [] := List.eq_nil_of_length_eq_zero (by have k1 : ¬ (0 : Int) < vals.length := k1; omega)
    subst hx
    refine KW.retM1 rfl rfl rfl rfl (fun H1 g => ⟨_, _, rfl, g.made (by omega) hA⟩)
theorem l08Lying (p : Int) (hp : PrimeP p) (lie : Int) (hlie : 0 ≤ lie ∧ lie ≤ p) {a5 c5} {vals : List Int} (hl : vals.length ≤ 1048576) (hv : Elems p vals) (hs : KI.Sl S H0 (.slice a5 vals.length c5) vals) :
    SpecM Try.prog S H0 123 [.int .i64 p, .slice a5 vals.length c5, .int .i64 lie] (MkL (lieOf p vals lie)) := by
  refine SpecM.of1 Try.func123 rfl (by kernel_rfl) rfl (fun H _ => ?_)
  refine KW.fact (fun _ g => g.nle (H1 := H)) (fun hn0 => ?_)
  refine KW.callN1 rfl rfl rfl rfl rfl (l00Own hl hs.up) (fun v HA SA mA _ _ hv => ?_)
  obtain ⟨a6, c6, rfl, hA⟩ := hv
  refine KW.cnd rfl rfl (fun k1 => ?_) (fun k1 => ?_)
  · have k1 : 0 < vals.length := by have : (0 : Int) < vals.length := k1; omega
    obtain ⟨o, c7, b, e1, e2, e3, e4, e5, e6, e7⟩ := hA.ints (fun hx => by rw [hx] at k1; simp at k1)
    cases e1
    obtain ⟨ty, rw, cells⟩ := b
    obtain rfl : rw = true := e5
    obtain ⟨v0, hv0⟩ : ∃ v, vals[0]? = some v := ⟨vals[0], List.getElem?_eq_getElem k1⟩
    have hvd : vals.getD 0 0 = v0 := getD_of hv0
    have hvb := hv v0 (List.mem_of_getElem? hv0)
    have hp2 := hp.1
    have hp31 := hp.2.1
    have oS := (inferInstance : On (New _ HA.n) HA SA HA).st o e3
    refine KW.thaw o ⟨ty, true, cells⟩ oS.1 e4 ?_
    haveI : On (Low H.n) H (fun id => SA id ∧ id ≠ o) HA := On.thaw (fun id hid => by have : id < H.n := hid; have := e3.1; omega)
    refine KW.idx0 rfl rfl rfl rfl rfl rfl rfl rfl rfl (by omega) (by omega) ?_
    refine KW.ldT 0 rfl rfl rfl rfl rfl rfl (bload_at (e7 0 v0 hv0) rfl rfl) ?_
    refine KW.rem rfl rfl rfl rfl rfl rfl (by rw [wr (by omega) (by omega)]; omega) (by omega) ?_
    rw [wr (by omega) (by omega), ← hvd]
    refine KW.idx0 rfl rfl rfl rfl rfl rfl rfl rfl rfl (by omega) (by omega) ?_
    refine KW.st1 0 rfl rfl rfl rfl rfl rfl rfl rfl rfl rfl rfl rfl (by simp only; simp only at e6; omega) ?_
    refine KW.retM1 rfl rfl rfl rfl (fun H1 g => ?_)
    have hb := g.blk (j := 0) rfl
    have el : (lieOf p vals lie).length = vals.length := lie_len
    refine ⟨_, _, by rw [el]; rfl, ?_⟩
    refine mlI_of ⟨by have := e3.1; omega, hb.2⟩ hb.1 rfl (by rw [el]; exact e2) (by rw [el]; simp only [List.length_set]; exact e6) (fun i x hi => ?_)
    rcases lie_at hi with ⟨rfl, rfl⟩ | ⟨h0, h1⟩
    · show (cells.set 0 (Value.int .i64 _))[0]? = _
      rw [List.getElem?_set_self (by simp only at e6; omega)]
    · show (cells.set 0 (Value.int .i64 _))[i]? = _
      rw [List.getElem?_set_ne (by omega)]; exact e7 i x h1
  · have hx : vals = [] := List.eq_nil_of_length_eq_zero (by have k1 : ¬ (0 : Int) < vals.length := k1; omega)
    subst hx
    refine KW.retM1 rfl rfl rfl rfl (fun H1 g => ⟨_, _, rfl, g.made (by omega) hA⟩)
end
end Go.Proofs.Ytaepgfafbnjccaa.Am
/- Contracts: TagsFit and LiesThatPass, of the program and of the reference. Each holds under its own conditions. -/
set_option linter.unusedVariables false
set_option linter.unusedSimpArgs false
set_option maxRecDepth 20000
namespace Go.Proofs.Ytaepgfafbnjccaa.Am
open Go Go.RowKit Go.Proofs
/-- Values and tags have the right form. -/
def FitOk (x : T_Deal) (j : Int) (vals tg : List Int) : Prop := vals.length = (rowsOf x.1.2.1 j).length ∧ tg.length = (rowsOf x.1.2.1 j).length ∧ Elems x.1.2.2.1 vals ∧ Elems x.1.2.2.1 tg
noncomputable def r0_TagsFit (x : T_Deal) (e j : Int) (vals tg : List Int) : Bool := if codeD x e j = 0 then (if tv (FitOk x j vals tg) = true then tv (tagsD x e j vals = tg) else false) else false
noncomputable def r1_TagsFit (x : T_Deal) (e j : Int) (vals tg : List Int) : Int := if codeD x e j = 0 then (if tv (FitOk x j vals tg) = true then 0 else 2) else codeD x e j
theorem tf_code {x : T_Deal} {e j : Int} {vals tg : List Int} (hc : ¬ codeD x e j = 0) : Value.tuple #[.bool false, .int .i64 (codeD x e j)] = .tuple #[.bool (r0_TagsFit x e j vals tg), .int .i64 (r1_TagsFit x e j vals tg)] := by unfold r0_TagsFit r1_TagsFit; rw [if_neg hc, if_neg hc]
theorem tf_bad {x : T_Deal} {e j : Int} {vals tg : List Int} (hc : codeD x e j = 0) (h : ¬ FitOk x j vals tg) : Value.tuple #[.bool false, .int .i64 2] = .tuple #[.bool (r0_TagsFit x e j vals tg), .int .i64 (r1_TagsFit x e j vals tg)] := by unfold r0_TagsFit r1_TagsFit; rw [if_pos hc, if_pos hc, tv_false h]; rfl
theorem tf_good {x : T_Deal} {e j : Int} {vals tg : List Int} (hc : codeD x e j = 0) (h : FitOk x j vals tg) : Value.tuple #[.bool (tv (tagsD x e j vals = tg)), .int .i64 0] = .tuple #[.bool (r0_TagsFit x e j vals tg), .int .i64 (r1_TagsFit x e j vals tg)] := by unfold r0_TagsFit r1_TagsFit; rw [if_pos hc, if_pos hc, tv_true h]; rfl
theorem tags_len {x : T_Deal} {e j : Int} {vals : List Int} : (tagsD x e j vals).length = (rowsOf x.1.2.1 j).length := by simp [tagsD, tagsOf]
section
variable {S : Ids} {H0 : AH}
theorem impl_TagsFit {x : T_Deal} {vals tg : List Int} (e j : Int) (he : I64 e) (hj : I64 j) {cs : List Value} {a5 c5 a6 c6} (hB : B_Deal x) (hBv : B_Int64S vals) (hBt : B_Int64S tg) (h : K_Deal.R S H0 x cs) (hv : K_Int64S.R S H0 vals [.slice a5 vals.length c5]) (ht : K_Int64S.R S H0 tg [.slice a6 tg.length c6]) :
    Spec Try.prog S H0 28 [.agg cs.toArray, .int .i64 e, .int .i64 j, .slice a5 vals.length c5, .slice a6 tg.length c6] (fun v => v = .tuple #[.bool (r0_TagsFit x e j vals tg), .int .i64 (r1_TagsFit x e j vals tg)]) := by
  obtain ⟨a1, c1, a2, c2, a3, c3, a4, c4, rfl, h1, h2, h3, h4⟩ := split2_Deal h
  have hBv' : vals.length ≤ 1048576 := hBv
  have hBt' : tg.length ≤ 1048576 := hBt
  have hv := sl1 hv
  have ht := sl1 ht
  refine Spec.of1 Try.func28 rfl (by kernel_rfl) rfl (fun H _ => ?_)
  refine KW.callE rfl rfl rfl rfl rfl (dealCode x e j hB (On.R h)) (fun _ _ => ?_)
  by_cases hc : codeD x e j = 0
  · obtain ⟨E, J, hd⟩ := codeD_ok hc
    have hol : (rowsOf x.1.2.1 j).length ≤ x.1.2.1.length := rowsP_len _ _
    have hpr := hd.sch.mat.pr
    have hp : I64 x.1.2.2.1 := hB.1.2.2.1
    have hJ : rowsP (fun i => (2 ^ J : Nat).testBit (x.1.2.1.getD i 0).toNat) x.1.2.1.length = rowsOf x.1.2.1 j := by rw [rows_bit (fun y hy => (hd.sch.own y hy).1), hd.jj]
    have h256 := small_pow (m := J) (by have := hd.j6; omega)
    have hjj := hd.jj
    have bad := tf_bad (vals := vals) (tg := tg) hc
    have good := tf_good (vals := vals) (tg := tg) hc
    rw [hc]
    refine KW.cT rfl rfl (by first | (simp; done) | decide) ?_
    refine KW.shlU rfl rfl rfl rfl rfl rfl J hjj (by have := hd.j6; omega) ?_
    refine KW.callN1 rfl rfl rfl rfl rfl (rowsHeld x.1.1 x.1.2.2.1 x.1.2.2.2.1 (2 ^ J) (by omega) hB.1.2.1 hd.sch.own hd.sch.h7 h1.up) (fun v HR SR mR _ _ hv => ?_)
    obtain ⟨a7, c7, rfl, hR⟩ := hv
    rw [hJ] at hR ⊢
    obtain ⟨R, hRe⟩ : ∃ R, rowsOf x.1.2.1 j = R := ⟨_, rfl⟩
    rw [hRe] at hR ⊢
    refine KW.tstB rfl rfl (fun k1 => ?_) (fun k1 => ?_)
    · have k1 : ¬ vals.length = (rowsOf x.1.2.1 j).length := by rw [hRe]; simp at k1; omega
      repeat first | refine KW.tT rfl rfl rfl ?_ | refine KW.tF rfl rfl rfl ?_
      refine KW.cT rfl rfl (by first | (simp; done) | decide) ?_
      refine KW.cT rfl rfl (by first | (simp; done) | decide) ?_
      refine KW.retM1 rfl rfl rfl rfl (fun H1 g => bad (fun hf => k1 hf.1))
    have k1 : vals.length = (rowsOf x.1.2.1 j).length := by rw [hRe]; simp at k1; omega
    refine KW.tstB rfl rfl (fun k2 => ?_) (fun k2 => ?_)
    · have k2 : ¬ tg.length = (rowsOf x.1.2.1 j).length := by rw [hRe]; simp at k2; omega
      repeat first | refine KW.tT rfl rfl rfl ?_ | refine KW.tF rfl rfl rfl ?_
      refine KW.cT rfl rfl (by first | (simp; done) | decide) ?_
      refine KW.cT rfl rfl (by first | (simp; done) | decide) ?_
      refine KW.retM1 rfl rfl rfl rfl (fun H1 g => bad (fun hf => k2 hf.2.1))
    have k2 : tg.length = (rowsOf x.1.2.1 j).length := by rw [hRe]; simp at k2; omega
    refine KW.callE rfl rfl rfl rfl rfl (areElements x.1.2.2.1 hp (by omega) hv.up) (fun _ _ => ?_)
    refine KW.tstB rfl rfl (fun k3 => ?_) (fun k3 => ?_)
    · have k3 : ¬ Elems x.1.2.2.1 vals := fun hx => by rw [tv_true ⟨hpr, hx⟩] at k3; cases k3
      refine KW.cT rfl rfl (by first | (simp; done) | decide) ?_
      refine KW.cT rfl rfl (by first | (simp; done) | decide) ?_
      refine KW.retM1 rfl rfl rfl rfl (fun H1 g => bad (fun hf => k3 hf.2.2.1))
    have k3 : Elems x.1.2.2.1 vals := (tv_iff.1 (by simpa using k3) : PrimeP _ ∧ Elems _ vals).2
    refine KW.callE rfl rfl rfl rfl rfl (areElements x.1.2.2.1 hp (by omega) ht.up) (fun _ _ => ?_)
    refine KW.cndB rfl rfl (fun k4 => ?_) (fun k4 => ?_)
    · have k4 : ¬ Elems x.1.2.2.1 tg := fun hx => by rw [tv_true ⟨hpr, hx⟩] at k4; cases k4
      refine KW.cT rfl rfl (by first | (simp; done) | decide) ?_
      refine KW.retM1 rfl rfl rfl rfl (fun H1 g => bad (fun hf => k4 hf.2.2.2))
    have k4 : Elems x.1.2.2.1 tg := (tv_iff.1 (by simpa using k4) : PrimeP _ ∧ Elems _ tg).2
    refine KW.cF rfl rfl (by first | (simp; done) | decide) ?_
    refine KW.callN1 rfl rfl rfl rfl rfl (tagsDD x e j hd hB (On.R h) k1 k3 hv.up) (fun v HT ST mT _ _ hv => ?_)
    obtain ⟨a8, c8, rfl, hT⟩ := hv
    refine KW.callE rfl rfl rfl rfl rfl (equalI (by rw [tags_len, ← k1]; exact hBv) hT.ups ht.up) (fun _ _ => ?_)
    refine KW.retM1 rfl rfl rfl rfl (fun H1 g => good ⟨k1, k2, k3, k4⟩)
  · refine KW.cndB rfl rfl (fun k1 => ?_) (fun k1 => ?_)
    · exact absurd (by simpa using k1) hc
    refine KW.cndB rfl rfl (fun k2 => ?_) (fun k2 => ?_)
    · exact KW.ret rfl rfl rfl rfl (tf_code hc)
    · exact absurd (by simpa using k2) hc
theorem spec_TagsFit {x : T_Deal} {vals tg : List Int} (e j : Int) (he : I64 e) (hj : I64 j) {cs : List Value} {a5 c5 a6 c6} (hB : B_Deal x) (hBv : B_Int64S vals) (hBt : B_Int64S tg) (h : K_Deal.R S H0 x cs) (hv : K_Int64S.R S H0 vals [.slice a5 vals.length c5]) (ht : K_Int64S.R S H0 tg [.slice a6 tg.length c6]) :
    Spec Try.prog S H0 26 [.agg cs.toArray, .int .i64 e, .int .i64 j, .slice a5 vals.length c5, .slice a6 tg.length c6] (fun v => v = .tuple #[.bool (r0_TagsFit x e j vals tg), .int .i64 (r1_TagsFit x e j vals tg)]) := by
  obtain ⟨a1, c1, a2, c2, a3, c3, a4, c4, rfl, h1, h2, h3, h4⟩ := split2_Deal h
  have hBv' : vals.length ≤ 1048576 := hBv
  have hBt' : tg.length ≤ 1048576 := hBt
  have hv := sl1 hv
  have ht := sl1 ht
  refine Spec.of1 Try.func26 rfl (by kernel_rfl) rfl (fun H _ => ?_)
  refine KW.callV1 rfl rfl rfl rfl rfl (fun H1 g _ => l08Asked x e j hB (g.has (j := 0) rfl rfl) (On.R h)) (fun _ _ => ?_)
  by_cases hc : codeD x e j = 0
  · obtain ⟨E, J, hd⟩ := codeD_ok hc
    have hpr := hd.sch.mat.pr
    have hp2 := hpr.1
    have hp31 := hpr.2.1
    have bad := tf_bad (vals := vals) (tg := tg) hc
    have good := tf_good (vals := vals) (tg := tg) hc
    rw [hc]
    refine KW.cF rfl rfl (by first | (simp; done) | decide) ?_
    refine KW.lit rfl rfl rfl rfl rfl rfl rfl rfl rfl rfl [.int .i64 j] rfl rfl (fun v hv => by simp at hv; subst hv; rfl) rfl ?_
    refine KW.callNV1 rfl rfl rfl rfl rfl (fun H1 g _ => l04Held x.1.1 x.1.2.2.1 x.1.2.2.2.1 (g0 := [j]) hB.1.2.1 (by simp) ((g.has (j := 0) rfl rfl).take (vs := [_, _, _, _, _])) h1.up (g.ints (j := 1) rfl rfl (by simp))) (fun v HR SR mR _ _ hv => ?_)
    obtain ⟨a7, c7, rfl, hR⟩ := hv
    rw [rows_one] at hR ⊢
    refine KW.callE rfl rfl rfl rfl rfl (l03Row x.1.2.2.1 _ (by unfold I64; omega) hBv' hv.up) (fun _ _ => ?_)
    refine KW.tstB rfl rfl (fun k1 => ?_) (fun k1 => ?_)
    · have k1 : ¬ ((vals.length : Int) = ((rowsOf x.1.2.1 j).length : Nat) ∧ Elems x.1.2.2.1 vals) := fun hx => by rw [tv_true hx] at k1; cases k1
      refine KW.cT rfl rfl (by first | (simp; done) | decide) ?_
      refine KW.retM1 rfl rfl rfl rfl (fun H1 g => bad (fun hf => k1 ⟨by have := hf.1; omega, hf.2.2.1⟩))
    have k1 : (vals.length : Int) = ((rowsOf x.1.2.1 j).length : Nat) ∧ Elems x.1.2.2.1 vals := tv_iff.1 (by simpa using k1)
    refine KW.callE rfl rfl rfl rfl rfl (l03Row x.1.2.2.1 _ (by unfold I64; omega) hBt' ht.up) (fun _ _ => ?_)
    refine KW.cndB rfl rfl (fun k2 => ?_) (fun k2 => ?_)
    · have k2 : ¬ ((tg.length : Int) = ((rowsOf x.1.2.1 j).length : Nat) ∧ Elems x.1.2.2.1 tg) := fun hx => by rw [tv_true hx] at k2; cases k2
      refine KW.retM1 rfl rfl rfl rfl (fun H1 g => bad (fun hf => k2 ⟨by have := hf.2.1; omega, hf.2.2.2⟩))
    have k2 : (tg.length : Int) = ((rowsOf x.1.2.1 j).length : Nat) ∧ Elems x.1.2.2.1 tg := tv_iff.1 (by simpa using k2)
    have hl1 : vals.length = (rowsOf x.1.2.1 j).length := by omega
    refine KW.callNV1 rfl rfl rfl rfl rfl (fun H1 g _ => l08TagsD x e j hd hB (g.has (j := 0) rfl rfl) (On.R h) hl1 k1.2 hv.up) (fun v HT ST mT _ _ hv => ?_)
    obtain ⟨a8, c8, rfl, hT⟩ := hv
    refine KW.callE rfl rfl rfl rfl rfl (l00Same (by rw [tags_len, ← hl1]; exact hBv) hT.ups ht.up) (fun _ _ => ?_)
    refine KW.retM1 rfl rfl rfl rfl (fun H1 g => good ⟨hl1, by omega, k1.2, k2.2⟩)
  · refine KW.cndB rfl rfl (fun k2 => ?_) (fun k2 => ?_)
    · exact KW.ret rfl rfl rfl rfl (tf_code hc)
    · exact absurd (by simpa using k2) hc
end
/-- The lies below n that pass. -/
noncomputable def passN (x : T_Deal) (e j : Int) (n : Nat) : List Int := rowsP (fun i => tv (tagsD x e j (lieOf x.1.2.2.1 (valsD x e j) (i : Int)) = tagsD x e j (valsD x e j))) n
noncomputable def r0_LiesThatPass (x : T_Deal) (e j : Int) : List Int := if codeD x e j = 0 then passN x e j x.1.2.2.1.toNat else []
noncomputable def r1_LiesThatPass (x : T_Deal) (e j : Int) : Int := codeD x e j
theorem bound_LiesThatPass {x : T_Deal} (e j : Int) (he : I64 e) (hj : I64 j) (hB : B_Deal x) : B_Int64S (r0_LiesThatPass x e j) := by
  unfold r0_LiesThatPass
  split
  · rename_i hc
    obtain ⟨E, J, hd⟩ := codeD_ok hc
    show (passN x e j _).length ≤ 1048576
    have h1 : (passN x e j x.1.2.2.1.toNat).length ≤ x.1.2.2.1.toNat := rowsP_len _ _
    have := hd.sch.mat.pr.2.1
    omega
  · show 0 ≤ _; omega
section
variable {S : Ids} {H0 : AH}
theorem impl_LiesThatPass {x : T_Deal} (e j : Int) (he : I64 e) (hj : I64 j) {cs : List Value} (hB : B_Deal x) (h : K_Deal.R S H0 x cs) : SpecM Try.prog S H0 60 [.agg cs.toArray, .int .i64 e, .int .i64 j] (MkLC (r0_LiesThatPass x e j) (codeD x e j)) := by
  obtain ⟨a1, c1, a2, c2, a3, c3, a4, c4, rfl, h1, h2, h3, h4⟩ := split2_Deal h
  refine SpecM.of1 Try.func60 rfl (by kernel_rfl) rfl (fun H _ => ?_)
  refine KW.callE rfl rfl rfl rfl rfl (dealCode x e j hB (On.R h)) (fun _ _ => ?_)
  unfold r0_LiesThatPass
  by_cases hc : codeD x e j = 0
  · obtain ⟨E, J, hd⟩ := codeD_ok hc
    have hpr := hd.sch.mat.pr
    have hp2 := hpr.1
    have hp31 := hpr.2.1
    rw [if_pos hc, hc]
    refine KW.cF rfl rfl (by first | (simp; done) | decide) ?_
    refine KW.fact (fun _ g => g.nle (H1 := H)) (fun hn0 => ?_)
    refine KW.callN1 rfl rfl rfl rfl rfl (valuesD x e j hd hB (On.R h)) (fun v HA SA mA _ _ hv => ?_)
    obtain ⟨a5, c5, rfl, hA⟩ := hv
    refine KW.lit rfl rfl rfl rfl rfl rfl rfl rfl rfl rfl [] rfl rfl (fun v hv => by simp at hv) rfl ?_
    refine KW.callN1 rfl rfl rfl rfl rfl (tagsDD x e j hd hB (On.R h) vals_len (vals_in hpr) hA.ups) (fun v HT ST mT _ _ hv => ?_)
    obtain ⟨a6, c6, rfl, hT⟩ := hv
    have hvl : (valsD x e j).length ≤ 1048576 := by have := bound_DealValues e j he hj hB; unfold r0_DealValues at this; rw [if_pos hc] at this; exact this
    have htl : ∀ vs, (tagsD x e j vs).length ≤ 1048576 := fun vs => by rw [tags_len]; have : (rowsOf x.1.2.1 j).length ≤ x.1.2.1.length := rowsP_len _ _; have h3 : x.1.2.1.length ≤ 1048576 := hB.1.2.1; omega
    refine KW.lpM rfl rfl (fun q : Nat × Nat => [(1, .int .i64 e), (2, .int .i64 j), (3, .pointer (some ⟨H.n, 0, some 0⟩)), (9, .slice a5 (valsD x e j).length c5), (10, .slice (some ⟨q.2, 0, some 1⟩) (passN x e j q.1).length (passN x e j q.1).length), (11, .slice a6 (tagsD x e j (valsD x e j)).length c6), (33, .int .i64 x.1.2.2.1), (34, .int .i64 q.1)]) (fun q => ST) (fun q => HT) (fun q => [(H.n, ⟨37, true, [.int .i64 x.1.1, .slice a1 x.1.2.1.length c1, .int .i64 x.1.2.2.1, .int .i64 x.1.2.2.2.1, .slice a2 x.1.2.2.2.2.length c2, .int .i64 x.2.1, .slice a3 x.2.2.1.length c3, .slice a4 x.2.2.2.length c4]⟩), (q.2, ⟨_, true, (passN x e j q.1).map (Value.int .i64)⟩)]) (fun q => (q.1 : Int) ≤ x.1.2.2.1) (fun q => 32 - q.1) ((0, _)) (by simp only; omega) ⟨rfl, rfl, rfl, rfl, rfl, rfl, rfl, rfl, trivial⟩ rfl rfl rfl (fun q hi bE n => ?_)
    obtain ⟨q, o⟩ := q
    simp only at hi
    have hq : (passN x e j q).length ≤ q := rowsP_len _ _
    refine KW.cnd rfl rfl (fun k1 => ?_) (fun k1 => ?_)
    · have k1 : (q : Int) < x.1.2.2.1 := k1
      refine KW.callN1 rfl rfl rfl rfl rfl (lied x.1.1 x.1.2.2.1 x.1.2.2.2.1 x.2.1 hpr q (by omega) hvl (vals_in hpr) hA.ups) (fun v HL SL mL _ _ hv => ?_)
      obtain ⟨a7, c7, rfl, hL⟩ := hv
      refine KW.callN1 rfl rfl rfl rfl rfl (tagsDD x e j hd hB (On.R h) (by rw [lie_len]; exact vals_len) (lie_in hpr (vals_in hpr)) hL.ups) (fun v HU SU mU _ _ hv => ?_)
      obtain ⟨a8, c8, rfl, hU⟩ := hv
      refine KW.callE rfl rfl rfl rfl rfl (equalI (htl _) hU.ups hT.ups) (fun _ _ => ?_)
      have e1 := rowsP_next (fun i => tv (tagsD x e j (lieOf x.1.2.2.1 (valsD x e j) (i : Int)) = tagsD x e j (valsD x e j))) q
      refine KW.cndB rfl rfl (fun k2 => ?_) (fun k2 => ?_)
      · rw [if_pos k2] at e1
        refine KW.app1 (xs := (passN x e j q).map (Value.int .i64)) (v := .int .i64 q) 1 2 rfl rfl rfl rfl rfl rfl rfl rfl rfl rfl rfl rfl rfl rfl rfl rfl rfl rfl rfl rfl rfl rfl rfl (by simp) (by show (_ + 1) * 8 ≤ _; first | omega | (simp only; omega)) (by first | omega | (simp only; omega)) ?_
        refine KW.nxt rfl rfl (fun H' g => ⟨(q + 1, _), by simp only; omega, by first | omega | (simp only; omega), ⟨rfl, rfl, rfl, rfl, by simp only [passN, e1, List.length_append, List.length_singleton]; rfl, rfl, rfl, congrArg (Value.int .i64) (inc64 (by omega)), trivial⟩, g.back.eqT (by simp only [passN, e1, List.map_append]; rfl)⟩)
      · rw [if_neg (by rw [k2]; decide)] at e1
        refine KW.nxt rfl rfl (fun H' g => ⟨(q + 1, o), by simp only; omega, by first | omega | (simp only; omega), ⟨rfl, rfl, rfl, rfl, by simp only [passN, e1]; rfl, rfl, rfl, congrArg (Value.int .i64) (inc64 (by omega)), trivial⟩, g.back.eqT (by simp only [passN, e1])⟩)
    · have k1 : ¬ (q : Int) < x.1.2.2.1 := k1
      obtain rfl : q = x.1.2.2.1.toNat := by omega
      refine KW.retM1 rfl rfl rfl rfl (fun H1 g => ⟨_, _, rfl, ml1' (int_ml ⟨g.ge (H1 := H) (j := 1) rfl, (g.blk (j := 1) rfl).2⟩ (g.blk (j := 1) rfl).1 rfl rfl (Nat.le_refl _))⟩)
  · rw [if_neg hc]
    refine KW.cndB rfl rfl (fun k1 => ?_) (fun k1 => ?_)
    · refine KW.retM1 rfl rfl rfl rfl (fun H1 g => MkLC.nil rfl)
    · exact absurd (by simpa using k1) hc
theorem spec_LiesThatPass {x : T_Deal} (e j : Int) (he : I64 e) (hj : I64 j) {cs : List Value} (hB : B_Deal x) (h : K_Deal.R S H0 x cs) : SpecM Try.prog S H0 59 [.agg cs.toArray, .int .i64 e, .int .i64 j] (MkLC (r0_LiesThatPass x e j) (codeD x e j)) := by
  obtain ⟨a1, c1, a2, c2, a3, c3, a4, c4, rfl, h1, h2, h3, h4⟩ := split2_Deal h
  refine SpecM.of1 Try.func59 rfl (by kernel_rfl) rfl (fun H _ => ?_)
  refine KW.callV1 rfl rfl rfl rfl rfl (fun H1 g _ => l08Asked x e j hB (g.has (j := 0) rfl rfl) (On.R h)) (fun _ _ => ?_)
  unfold r0_LiesThatPass
  by_cases hc : codeD x e j = 0
  · obtain ⟨E, J, hd⟩ := codeD_ok hc
    have hpr := hd.sch.mat.pr
    have hp2 := hpr.1
    have hp31 := hpr.2.1
    rw [if_pos hc, hc]
    refine KW.cF rfl rfl (by first | (simp; done) | decide) ?_
    refine KW.fact (fun _ g => g.nle (H1 := H)) (fun hn0 => ?_)
    refine KW.callNV1 rfl rfl rfl rfl rfl (fun H1 g _ => l08ValuesD x e j hd hB (g.has (j := 0) rfl rfl) (On.R h)) (fun v HA SA mA _ _ hv => ?_)
    obtain ⟨a5, c5, rfl, hA⟩ := hv
    refine KW.callNV1 rfl rfl rfl rfl rfl (fun H1 g _ => l08TagsD x e j hd hB (g.has (j := 0) rfl rfl) (On.R h) vals_len (vals_in hpr) hA.ups) (fun v HT ST mT _ _ hv => ?_)
    obtain ⟨a6, c6, rfl, hT⟩ := hv
    refine KW.lit rfl rfl rfl rfl rfl rfl rfl rfl rfl rfl [] rfl rfl (fun v hv => by simp at hv) rfl ?_
    have hvl : (valsD x e j).length ≤ 1048576 := by have := bound_DealValues e j he hj hB; unfold r0_DealValues at this; rw [if_pos hc] at this; exact this
    have htl : ∀ vs, (tagsD x e j vs).length ≤ 1048576 := fun vs => by rw [tags_len]; have : (rowsOf x.1.2.1 j).length ≤ x.1.2.1.length := rowsP_len _ _; have h3 : x.1.2.1.length ≤ 1048576 := hB.1.2.1; omega
    refine KW.lpM rfl rfl (fun q : Nat × Nat => [(1, .int .i64 e), (2, .int .i64 j), (3, .pointer (some ⟨H.n, 0, some 0⟩)), (9, .slice a5 (valsD x e j).length c5), (10, .slice a6 (tagsD x e j (valsD x e j)).length c6), (11, .slice (some ⟨q.2, 0, some 1⟩) (passN x e j q.1).length (passN x e j q.1).length), (12, .int .i64 q.1)]) (fun q => ST) (fun q => HT) (fun q => [(H.n, ⟨37, true, [.int .i64 x.1.1, .slice a1 x.1.2.1.length c1, .int .i64 x.1.2.2.1, .int .i64 x.1.2.2.2.1, .slice a2 x.1.2.2.2.2.length c2, .int .i64 x.2.1, .slice a3 x.2.2.1.length c3, .slice a4 x.2.2.2.length c4]⟩), (q.2, ⟨_, true, (passN x e j q.1).map (Value.int .i64)⟩)]) (fun q => (q.1 : Int) ≤ x.1.2.2.1) (fun q => 32 - q.1) ((0, _)) (by simp only; omega) ⟨rfl, rfl, rfl, rfl, rfl, rfl, rfl, trivial⟩ rfl rfl rfl (fun q hi bE n => ?_)
    obtain ⟨q, o⟩ := q
    simp only at hi
    have hq : (passN x e j q).length ≤ q := rowsP_len _ _
    refine KW.cnd rfl rfl (fun k1 => ?_) (fun k1 => ?_)
    · have k1 : (q : Int) < x.1.2.2.1 := k1
      refine KW.callN1 rfl rfl rfl rfl rfl (l08Lying x.1.2.2.1 hpr q (by omega) hvl (vals_in hpr) hA.ups) (fun v HL SL mL _ _ hv => ?_)
      obtain ⟨a7, c7, rfl, hL⟩ := hv
      refine KW.callNV1 rfl rfl rfl rfl rfl (fun H1 g _ => l08TagsD x e j hd hB (g.has (j := 0) rfl rfl) (On.R h) (by rw [lie_len]; exact vals_len) (lie_in hpr (vals_in hpr)) hL.ups) (fun v HU SU mU _ _ hv => ?_)
      obtain ⟨a8, c8, rfl, hU⟩ := hv
      refine KW.callE rfl rfl rfl rfl rfl (l00Same (htl _) hU.ups hT.ups) (fun _ _ => ?_)
      have e1 := rowsP_next (fun i => tv (tagsD x e j (lieOf x.1.2.2.1 (valsD x e j) (i : Int)) = tagsD x e j (valsD x e j))) q
      refine KW.cndB rfl rfl (fun k2 => ?_) (fun k2 => ?_)
      · rw [if_pos k2] at e1
        refine KW.app1 (xs := (passN x e j q).map (Value.int .i64)) (v := .int .i64 q) 1 2 rfl rfl rfl rfl rfl rfl rfl rfl rfl rfl rfl rfl rfl rfl rfl rfl rfl rfl rfl rfl rfl rfl rfl (by simp) (by show (_ + 1) * 8 ≤ _; first | omega | (simp only; omega)) (by first | omega | (simp only; omega)) ?_
        refine KW.nxt rfl rfl (fun H' g => ⟨(q + 1, _), by simp only; omega, by first | omega | (simp only; omega), ⟨rfl, rfl, rfl, rfl, rfl, by simp only [passN, e1, List.length_append, List.length_singleton]; rfl, congrArg (Value.int .i64) (inc64 (by omega)), trivial⟩, g.back.eqT (by simp only [passN, e1, List.map_append]; rfl)⟩)
      · rw [if_neg (by rw [k2]; decide)] at e1
        refine KW.nxt rfl rfl (fun H' g => ⟨(q + 1, o), by simp only; omega, by first | omega | (simp only; omega), ⟨rfl, rfl, rfl, rfl, rfl, by simp only [passN, e1]; rfl, congrArg (Value.int .i64) (inc64 (by omega)), trivial⟩, g.back.eqT (by simp only [passN, e1])⟩)
    · have k1 : ¬ (q : Int) < x.1.2.2.1 := k1
      obtain rfl : q = x.1.2.2.1.toNat := by omega
      refine KW.retM1 rfl rfl rfl rfl (fun H1 g => ⟨_, _, rfl, ml1' (int_ml ⟨g.ge (H1 := H) (j := 1) rfl, (g.blk (j := 1) rfl).2⟩ (g.blk (j := 1) rfl).1 rfl rfl (Nat.le_refl _))⟩)
  · rw [if_neg hc]
    refine KW.cndB rfl rfl (fun k1 => ?_) (fun k1 => ?_)
    · refine KW.lit rfl rfl rfl rfl rfl rfl rfl rfl rfl rfl [] rfl rfl (fun v hv => by simp at hv) rfl ?_
      refine KW.retM1 rfl rfl rfl rfl (fun H1 g => MkLC.nil' rfl)
    · exact absurd (by simpa using k1) hc
end
end Go.Proofs.Ytaepgfafbnjccaa.Am
/- The law FnExactLiesThatPass returns true. No condition beyond the reading of the arguments. -/
set_option linter.unusedVariables false
set_option maxRecDepth 20000
set_option maxHeartbeats 4000000
namespace Go.Proofs.Ytaepgfafbnjccaa.Am
open Go Go.RowKit Go.Proofs
section
variable {S : Ids} {H0 : AH}
theorem lawLiesThatPass {ar0 : T_Deal} (ar1 : Int) (ar2 : Int) {cs0 : List Value} (hx1 : I64 ar1) (hx2 : I64 ar2) (hW0 : W_Deal ar0) (h0 : K_Deal.R S H0 ar0 cs0) : Spec Try.prog S H0 12 [.agg cs0.toArray, .int .i64 ar1, .int .i64 ar2] (fun v => v = .bool true) := by
  obtain ⟨p0_0, q0_0, p0_1, q0_1, p0_2, q0_2, p0_3, q0_3, rfl⟩ := form_Deal h0
  refine Spec.of1 Try.func12 rfl (by kernel_rfl) rfl (fun H _ => ?_)
  have A0 : Fk K_Deal (Low H.n) (Low H.n) H ar0 _ := ⟨On.R h0, fun _ p => p⟩
  refine KW.call rfl rfl rfl rfl rfl (sz_Deal' (left := 1048576) (by decide) (by decide) hW0 A0.all) (fun v n0 _ hv => ?_)
  obtain ⟨r0, rfl, k0⟩ := hv
  refine KW.cnd rfl rfl (fun h => KW.ret rfl rfl rfl rfl rfl) (fun h => ?_)
  have k0 := k0.resolve_left (by omega)
  have hB0 := k0.2.2
  obtain ⟨q0r, eq0r⟩ : ∃ q, r0_LiesThatPass ar0 ar1 ar2 = q := ⟨_, rfl⟩
  obtain ⟨q1r, eq1r⟩ : ∃ q, r1_LiesThatPass ar0 ar1 ar2 = q := ⟨_, rfl⟩
  have cspec : ∀ {S1 : Ids} {H1 : AH} {ca0 : List Value} (_ : K_Deal.R S1 H1 ar0 ca0), SpecM Try.prog S1 H1 59 [.agg ca0.toArray, .int .i64 ar1, .int .i64 ar2] (fun n v H2 => ∃ a c, v = .tuple #[.slice a q0r.length c, .int .i64 q1r] ∧ M_Int64S.R (New n H2.n) H2 q0r [.slice a q0r.length c]) := by
    subst eq0r; subst eq1r
    intros
    exact spec_LiesThatPass ar1 ar2 hx1 hx2 hB0 (by assumption)
  have cimpl : ∀ {S1 : Ids} {H1 : AH} {ca0 : List Value} (_ : K_Deal.R S1 H1 ar0 ca0), SpecM Try.prog S1 H1 60 [.agg ca0.toArray, .int .i64 ar1, .int .i64 ar2] (fun n v H2 => ∃ a c, v = .tuple #[.slice a q0r.length c, .int .i64 q1r] ∧ M_Int64S.R (New n H2.n) H2 q0r [.slice a q0r.length c]) := by
    subst eq0r; subst eq1r
    intros
    exact impl_LiesThatPass ar1 ar2 hx1 hx2 hB0 (by assumption)
  have hBr : B_Int64S q0r := by subst eq0r; exact bound_LiesThatPass ar1 ar2 hx1 hx2 hB0
  refine KW.callN1 rfl rfl rfl rfl rfl (to_Deal hB0 A0.all) (fun v Hb0 Sb0 mb0 _ _ hv => ?_)
  obtain ⟨wb0, rfl, b0⟩ := hv
  obtain ⟨b0_0, b0c_0, b0_1, b0c_1, b0_2, b0c_2, b0_3, b0c_3, rfl⟩ := formM_Deal b0
  refine KW.callN1 rfl rfl rfl rfl rfl (cspec ((le_Deal).2 _ _ _ _ (On.R b0))) (fun v Hw Sw mw _ _ hv => ?_)
  obtain ⟨w_0, wc_0, rfl, w⟩ := hv
  refine KW.callN1 rfl rfl rfl rfl rfl (to_Deal hB0 A0.all) (fun v Hx0 Sx0 mx0 _ _ hv => ?_)
  obtain ⟨wx0, rfl, x0⟩ := hv
  obtain ⟨x0_0, x0c_0, x0_1, x0c_1, x0_2, x0c_2, x0_3, x0c_3, rfl⟩ := formM_Deal x0
  refine KW.callN1 rfl rfl rfl rfl rfl (cimpl ((le_Deal).2 _ _ _ _ (On.R x0))) (fun v Hg Sg mg _ _ hv => ?_)
  obtain ⟨g_0, gc_0, rfl, g⟩ := hv
  refine KW.callE rfl rfl rfl rfl rfl (eq_Int64S hBr ((le_Int64S).2 _ _ _ _ (On.R g)) ((le_Int64S).2 _ _ _ _ (On.R w))) (fun _ _ => ?_)
  refine KW.tF rfl rfl (by first | (simp; done) | decide) ?_
  refine KW.cF rfl rfl (by first | (simp; done) | decide) ?_
  refine KW.callN1 rfl rfl rfl rfl rfl (to_Deal hB0 A0.all) (fun v Hy0 Sy0 my0 _ _ hv => ?_)
  obtain ⟨wy0, rfl, y0⟩ := hv
  obtain ⟨y0_0, y0c_0, y0_1, y0c_1, y0_2, y0c_2, y0_3, y0c_3, rfl⟩ := formM_Deal y0
  refine KW.callE rfl rfl rfl rfl rfl (eq_Deal hB0 ((le_Deal).2 _ _ _ _ (On.R x0)) ((le_Deal).2 _ _ _ _ (On.R y0))) (fun _ _ => ?_)
  refine KW.cF rfl rfl (by first | (simp; done) | decide) ?_
  have A0 : Fk _ _ Sy0 Hy0 _ _ := A0.up
  have X0 : Fk _ _ Sy0 Hy0 _ _ := Fk.on x0
  have W : Fk _ _ Sy0 Hy0 _ _ := Fk.on w
  have G : Fk _ _ Sy0 Hy0 _ _ := Fk.on g
  have T : St (Low H.n) H Sy0 Hy0 := (inferInstance : On (Low H.n) H Sy0 Hy0).st
  refine KW.callW X0.i rfl rfl rfl rfl rfl (mark_Deal hB0 (k := 1) (by have := size_Deal hB0;  constructor <;> omega) X0.i X0.r) (fun v Hk0 Sk0 mk0 tk0 _ hv => ?_)
  obtain ⟨rfl, _⟩ := hv
  have A0 := A0.w tk0 (fun id p q => by have : id < H.n := p; have := q.1; have := q.2; omega)
  have W := W.w tk0 (fun id p q => by have := p.1; have := p.2; have := q.1; have := q.2; omega)
  have G := G.w tk0 (fun id p q => by have := p.1; have := p.2; have := q.1; have := q.2; omega)
  have T := tk0.low T (fun id p q => by have := q.1; omega)
  refine KW.tno rfl rfl (by omega) ?_
  refine KW.callE rfl rfl rfl rfl rfl (eq_Int64S hBr ((le_Int64S).2 _ _ _ _ G.all) ((le_Int64S).2 _ _ _ _ W.all)) (fun _ _ => ?_)
  refine KW.tF rfl rfl (by first | (simp; done) | decide) ?_
  refine KW.cF rfl rfl (by first | (simp; done) | decide) ?_
  refine KW.callW G.i rfl rfl rfl rfl rfl (mark_Int64S hBr (k := 1) (by have := size_Int64S hBr; constructor <;> omega) G.i G.r) (fun v HM SM mM tM _ hv => ?_)
  obtain ⟨rfl, G1⟩ := hv
  have A0 := A0.w tM (fun id p q => by have : id < H.n := p; have := q.1; have := q.2; omega)
  have W := W.w tM (fun id p q => by have := p.1; have := p.2; have := q.1; have := q.2; omega)
  have T := tM.low T (fun id p q => by have := q.1; omega)
  have G1 : Fk _ _ SM HM _ _ := ⟨G1, fun id p => (tM id (G.i id p)).1⟩
  refine KW.callE rfl rfl rfl rfl rfl (held_Int64S' hBr (k := 1) (by have := size_Int64S hBr; constructor <;> omega) ((le_Int64S).2 _ _ _ _ G1.all)) (fun _ _ => ?_)
  refine KW.no rfl rfl (by omega) ?_
  refine KW.cF rfl rfl (by first | (simp; done) | decide) ?_
  refine KW.callN1 rfl rfl rfl rfl rfl (to_Deal hB0 A0.all) (fun v Hu0 Su0 mu0 _ _ hv => ?_)
  obtain ⟨wu0, rfl, u0⟩ := hv
  obtain ⟨u0_0, u0c_0, u0_1, u0c_1, u0_2, u0c_2, u0_3, u0c_3, rfl⟩ := formM_Deal u0
  refine KW.callN1 rfl rfl rfl rfl rfl (cimpl ((le_Deal).2 _ _ _ _ (On.R u0))) (fun v Hh Sh mh _ _ hv => ?_)
  obtain ⟨h_0, hc_0, rfl, h⟩ := hv
  refine KW.callE rfl rfl rfl rfl rfl (eq_Int64S hBr ((le_Int64S).2 _ _ _ _ (On.R h)) ((le_Int64S).2 _ _ _ _ W.all)) (fun _ _ => ?_)
  refine KW.tF rfl rfl (by first | (simp; done) | decide) ?_
  refine KW.cF rfl rfl (by first | (simp; done) | decide) ?_
  refine KW.callE rfl rfl rfl rfl rfl (held_Int64S' hBr (k := 1) (by have := size_Int64S hBr; constructor <;> omega) ((le_Int64S).2 _ _ _ _ G1.all)) (fun _ _ => ?_)
  refine KW.no rfl rfl (by omega) ?_
  refine KW.cF rfl rfl (by first | (simp; done) | decide) ?_
  exact KW.retM rfl rfl rfl rfl (fun id hid => (T.trans (inferInstance : On SM HM _ _).st) id hid) (fun H1 g => rfl)
end
end Go.Proofs.Ytaepgfafbnjccaa.Am
