/- Contracts and laws on abstract memory, merged. Each holds under its own conditions. -/
import Derived.Test.YtmkpfllbmdahkaaPKernel02
/- What the laws' own functions do at Scheme: sizes, copies, equality, marks. Each holds under its own conditions. -/
set_option linter.unusedVariables false
set_option maxRecDepth 20000
namespace Go.Proofs.Ytmkpfllbmdahkaa.Am
open Go Go.RowKit Go.Proofs
abbrev T_Scheme : Type := (Int) × (List Int) × (T_Matrix)
abbrev K_Scheme : Kn T_Scheme := Kn.pair (KI) (Kn.pair (K_Int64S) (K_Matrix))
abbrev M_Scheme : Kn T_Scheme := Kn.mp (KI) (Kn.mp (M_Int64S) (M_Matrix))
theorem le_Scheme : KLe M_Scheme K_Scheme := KLe.pair ((KLe.refl KI)) (KLe.pair (le_Int64S) (le_Matrix))
abbrev B_Scheme (x : T_Scheme) : Prop := I64 x.1 ∧ B_Int64S x.2.1 ∧ B_Matrix x.2.2
abbrev W_Scheme (x : T_Scheme) : Prop := I64 x.1 ∧ W_Int64S x.2.1 ∧ W_Matrix x.2.2
abbrev sz_Scheme (x : T_Scheme) : Nat := sz_Int64S x.2.1 + sz_Matrix x.2.2
abbrev mk_Scheme (k : Int) (x : T_Scheme) : T_Scheme := (x.1, mk_Int64S (k) x.2.1, mk_Matrix (k + (sz_Int64S x.2.1 : Nat)) x.2.2)
theorem size_Scheme {x : T_Scheme} (hB : B_Scheme x) : sz_Scheme x ≤ 2097152 := by have := size_Int64S hB.2.1; have := size_Matrix hB.2.2; simp only [sz_Scheme]; omega
section
variable {S : Ids} {H0 : AH} {W : Ids} {left k : Int}
theorem form_Scheme {x : T_Scheme} {cs : List Value} (h : K_Scheme.R S H0 x cs) : ∃ a1 c1 a2 c2, cs = [.int .i64 x.1, .slice a1 x.2.1.length c1, .int .i64 x.2.2.1, .int .i64 x.2.2.2.1, .slice a2 x.2.2.2.2.length c2] := by
  obtain ⟨e0, d0, rfl, h0, h0_⟩ := h
  obtain ⟨e1, d1, rfl, h1, h1_⟩ := h0_
  have h2 := h1_
  obtain rfl := KI_of h0
  obtain ⟨a1, c1, rfl⟩ := slform h1
  obtain ⟨a2, c2, rfl⟩ := form_Matrix h2
  exact ⟨a1, c1, a2, c2, rfl⟩
theorem formM_Scheme {x : T_Scheme} {cs : List Value} (h : M_Scheme.R S H0 x cs) : ∃ a1 c1 a2 c2, cs = [.int .i64 x.1, .slice a1 x.2.1.length c1, .int .i64 x.2.2.1, .int .i64 x.2.2.2.1, .slice a2 x.2.2.2.2.length c2] := form_Scheme (le_Scheme.2 _ _ _ _ h)
theorem split_Scheme {x : T_Scheme} {cs : List Value} (h : K_Scheme.R S H0 x cs) : ∃ a1 c1 a2 c2, cs = [.int .i64 x.1, .slice a1 x.2.1.length c1, .int .i64 x.2.2.1, .int .i64 x.2.2.2.1, .slice a2 x.2.2.2.2.length c2] ∧ K_Int64S.R S H0 x.2.1 [.slice a1 x.2.1.length c1] ∧ K_Matrix.R S H0 x.2.2 [.int .i64 x.2.2.1, .int .i64 x.2.2.2.1, .slice a2 x.2.2.2.2.length c2] := by
  obtain ⟨e0, d0, rfl, h0, h0_⟩ := h
  obtain ⟨e1, d1, rfl, h1, h1_⟩ := h0_
  have h2 := h1_
  obtain rfl := KI_of h0
  obtain ⟨a1, c1, rfl⟩ := slform h1
  obtain ⟨a2, c2, rfl⟩ := form_Matrix h2
  exact ⟨a1, c1, a2, c2, rfl, h1, h2⟩
theorem splitM_Scheme {x : T_Scheme} {cs : List Value} (h : M_Scheme.R S H0 x cs) : ∃ (a1 : Option Addr) (c1 : Nat) (a2 : Option Addr) (c2 : Nat) (X1 : Ids) (X2 : Ids), cs = [.int .i64 x.1, .slice a1 x.2.1.length c1, .int .i64 x.2.2.1, .int .i64 x.2.2.2.1, .slice a2 x.2.2.2.2.length c2] ∧ M_Int64S.R X1 H0 x.2.1 [.slice a1 x.2.1.length c1] ∧ M_Matrix.R X2 H0 x.2.2 [.int .i64 x.2.2.1, .int .i64 x.2.2.2.1, .slice a2 x.2.2.2.2.length c2] ∧ (∀ id, X1 id → S id) ∧ (∀ id, X2 id → S id) ∧ (∀ id, X1 id → X2 id → False) := by
  obtain ⟨e0, d0, X0, Y0, rfl, i0, j0, q0, h0, h0_⟩ := h
  obtain ⟨e1, d1, X1, Y1, rfl, i1, j1, q1, h1, h1_⟩ := h0_
  have h2 := h1_
  obtain rfl := KI_of h0
  obtain ⟨a1, c1, rfl⟩ := mlform h1
  obtain ⟨a2, c2, rfl⟩ := formM_Matrix h2
  exact ⟨a1, c1, a2, c2, X1, Y1, rfl, h1, h2, fun _ p => j0 _ (i1 _ p), fun _ p => j0 _ (j1 _ p), fun _ o p => q1 _ o (p)⟩
theorem to_Scheme {x : T_Scheme} {cs : List Value} (hB : B_Scheme x) (h : K_Scheme.R S H0 x cs) : SpecM Try.prog S H0 22 [.agg cs.toArray] (fun n v H1 => ∃ cs, v = .agg cs.toArray ∧ M_Scheme.R (New n H1.n) H1 x cs) := by
  obtain ⟨a1, c1, a2, c2, rfl, h1, h2⟩ := split_Scheme h
  refine SpecM.of1 Try.func22 rfl (by kernel_rfl) rfl (fun H _ => ?_)
  refine KW.callN1 rfl rfl rfl rfl rfl (to_Int64S hB.2.1 (On.R h1)) (fun v G1 S1 m1 _ _ hv => ?_)
  obtain ⟨b1, d1, rfl, g1⟩ := hv
  refine KW.callN1 rfl rfl rfl rfl rfl (to_Matrix hB.2.2 (On.R h2)) (fun v G2 S2 m2 _ _ hv => ?_)
  obtain ⟨w2, rfl, g2⟩ := hv
  obtain ⟨b2_0, d2_0, rfl⟩ := formM_Matrix g2
  refine KW.retM1 rfl rfl rfl rfl (fun H1 g => ?_)
  refine ⟨_, rfl, ?_⟩
  have k2 : M_Matrix.R (New G1.n H1.n) H1 x.2.2 [.int .i64 x.2.2.1, .int .i64 x.2.2.2.1, .slice b2_0 x.2.2.2.2.length d2_0] := (M_Matrix).more (g.inn (H := G2) (fun _ p => by have := p.1; omega)) (g.keep g2)
  have k1 : (Kn.mp (M_Int64S) (M_Matrix)).R (New H.n H1.n) H1 (x.2) [.slice b1 x.2.1.length d1, .int .i64 x.2.2.1, .int .i64 x.2.2.2.1, .slice b2_0 x.2.2.2.2.length d2_0] := mpR (g.keep g1) k2 (g.inn (H := G1) (fun _ p => by have := p.1; omega)) (fun _ p => ⟨by have := p.1; have := m1; omega, p.2⟩) (fun _ o p => by have := o.2; have := p.1; omega)
  have k0 : (Kn.mp (KI) (Kn.mp (M_Int64S) (M_Matrix))).R (New H.n H1.n) H1 (x) [.int .i64 x.1, .slice b1 x.2.1.length d1, .int .i64 x.2.2.1, .int .i64 x.2.2.2.1, .slice b2_0 x.2.2.2.2.length d2_0] := mpR (X := None_) (show KI.R None_ H1 _ [.int .i64 x.1] from rfl) k1 (fun _ p => p.elim) (fun _ p => p) (fun _ p _ => p.elim)
  exact k0
theorem eq_Scheme {x : T_Scheme} {cs cs' : List Value} (hB : B_Scheme x) (h : K_Scheme.R S H0 x cs) (h' : K_Scheme.R S H0 x cs') : Spec Try.prog S H0 25 [.agg cs.toArray, .agg cs'.toArray] (fun v => v = .bool true) := by
  obtain ⟨a1, c1, a2, c2, rfl, h1, h2⟩ := split_Scheme h
  obtain ⟨b1, d1, b2, d2, rfl, k1, k2⟩ := split_Scheme h'
  refine Spec.of1 Try.func25 rfl (by kernel_rfl) rfl (fun H _ => ?_)
  refine KW.cF rfl rfl (by first | (simp; done) | decide) ?_
  refine KW.callE rfl rfl rfl rfl rfl (eq_Int64S hB.2.1 (On.R h1) (On.R k1)) (fun _ _ => ?_)
  refine KW.cF rfl rfl (by first | (simp; done) | decide) ?_
  refine KW.callE rfl rfl rfl rfl rfl (eq_Matrix hB.2.2 (On.R h2) (On.R k2)) (fun _ _ => ?_)
  refine KW.cF rfl rfl (by first | (simp; done) | decide) ?_
  exact KW.ret rfl rfl rfl rfl (rfl)
theorem sz_Scheme' {x : T_Scheme} {cs : List Value} (l0 : 0 ≤ left) (l1 : left ≤ 1048576) (hW : W_Scheme x) (h : K_Scheme.R S H0 x cs) : Spec Try.prog S H0 20 [.agg cs.toArray, .int .i64 left] (SzPost left (B_Scheme x)) := by
  obtain ⟨a1, c1, a2, c2, rfl, h1, h2⟩ := split_Scheme h
  refine Spec.of1 Try.func20 rfl (by kernel_rfl) rfl (fun H _ => ?_)
  refine KW.call rfl rfl rfl rfl rfl (sz_Int64S' l0 l1 hW.2.1 (On.R h1)) (fun v _ _ hv => ?_)
  obtain ⟨r1, rfl, k1⟩ := hv
  refine KW.cnd rfl rfl (fun h => KW.ret rfl rfl rfl rfl ⟨-1, rfl, .inl rfl⟩) (fun h => ?_)
  have k1 := k1.resolve_left (by omega)
  refine KW.call rfl rfl rfl rfl rfl (sz_Matrix' k1.1 (by have := k1.2.1; omega) hW.2.2 (On.R h2)) (fun v _ _ hv => ?_)
  obtain ⟨r2, rfl, k2⟩ := hv
  refine KW.cnd rfl rfl (fun h => KW.ret rfl rfl rfl rfl ⟨-1, rfl, .inl rfl⟩) (fun h => ?_)
  have k2 := k2.resolve_left (by omega)
  exact KW.ret rfl rfl rfl rfl (⟨_, rfl, .inr ⟨k2.1, by have := k1.2.1; have := k2.2.1; omega, hW.1, k1.2.2, k2.2.2⟩⟩)
theorem mark_Scheme {x : T_Scheme} {cs : List Value} (hB : B_Scheme x) (hk : Mk k (sz_Scheme x)) (hW : ∀ id, W id → S id) (h : M_Scheme.R W H0 x cs) : SpecW Try.prog S H0 W 26 [.agg cs.toArray, .int .i64 k] (fun n v H1 => v = .int .i64 (k + (sz_Scheme x : Nat)) ∧ M_Scheme.R W H1 (mk_Scheme k x) cs) := by
  obtain ⟨a1, c1, a2, c2, X1, X2, rfl, h1, h2, i1, i2, q1_2⟩ := splitM_Scheme h
  refine SpecW.of0 Try.func26 rfl (by kernel_rfl) rfl (fun H hfin hfz => ?_)
  have F1 : Fk M_Int64S X1 (Low H.n) H _ _ := ⟨(M_Int64S).same (fun id hid => (hfz id (hW id (i1 id hid))).2) h1, fun id hid => (hfz id (hW id (i1 id hid))).1⟩
  have F2 : Fk M_Matrix X2 (Low H.n) H _ _ := ⟨(M_Matrix).same (fun id hid => (hfz id (hW id (i2 id hid))).2) h2, fun id hid => (hfz id (hW id (i2 id hid))).1⟩
  have T : ∀ id, id < H.n → Low H.n id ∧ (¬ W id → H.m id = H.m id) := fun id hid => ⟨hid, fun _ => rfl⟩
  refine KW.callW F1.i rfl rfl rfl rfl rfl (mark_Int64S hB.2.1 (k := k) (by have := hk.1; have := hk.2; simp only [sz_Scheme] at this; constructor <;> omega) F1.i F1.r) (fun v H1 S1 m1 t1 w1 hv => ?_)
  obtain ⟨rfl, g1⟩ := hv
  have F1 : Fk M_Int64S X1 S1 H1 _ _ := ⟨g1, fun id hid => (t1 id (F1.i id hid)).1⟩
  have F2 := F2.w t1 (fun id p o => q1_2 id o p)
  have T : ∀ id, id < H.n → S1 id ∧ (¬ W id → H1.m id = H.m id) := fun id hid => ⟨(t1 id (T id hid).1).1, fun hw => ((t1 id (T id hid).1).2 (fun o => hw (i1 id o))).trans ((T id hid).2 hw)⟩
  refine KW.callW F2.i rfl rfl rfl rfl rfl (mark_Matrix hB.2.2 (k := k + (sz_Int64S x.2.1 : Nat)) (by have := hk.1; have := hk.2; simp only [sz_Scheme] at this; constructor <;> omega) F2.i F2.r) (fun v H2 S2 m2 t2 w2 hv => ?_)
  obtain ⟨rfl, g2⟩ := hv
  have F2 : Fk M_Matrix X2 S2 H2 _ _ := ⟨g2, fun id hid => (t2 id (F2.i id hid)).1⟩
  have F1 := F1.w t2 (fun id p o => q1_2 id p o)
  have T : ∀ id, id < H.n → S2 id ∧ (¬ W id → H2.m id = H.m id) := fun id hid => ⟨(t2 id (T id hid).1).1, fun hw => ((t2 id (T id hid).1).2 (fun o => hw (i2 id o))).trans ((T id hid).2 hw)⟩
  refine KW.retW rfl rfl rfl rfl (fun H1 g => by have := g.n_; omega) (fun id hid hw => ⟨(T id hid).1, (T id hid).2 hw⟩) (fun H1 g => ?_)
  have e : k + (sz_Int64S x.2.1 : Nat) + (sz_Matrix x.2.2 : Nat) = k + ((sz_Scheme x : Nat) : Int) := by simp only [sz_Scheme]; omega
  refine ⟨congrArg (Value.int .i64) e, ?_⟩
  have G1 := (M_Int64S).same (H' := H1) (fun id hid => (g.froz id (F1.i id hid)).2) F1.r
  have G2 := (M_Matrix).same (H' := H1) (fun id hid => (g.froz id (F2.i id hid)).2) F2.r
  have k2 : M_Matrix.R (fun id => X2 id) H1 (mk_Matrix (k + (sz_Int64S x.2.1 : Nat)) x.2.2) [.int .i64 x.2.2.1, .int .i64 x.2.2.2.1, .slice a2 x.2.2.2.2.length c2] := G2
  have k1 : (Kn.mp (M_Int64S) (M_Matrix)).R (fun id => X1 id ∨ X2 id) H1 ((mk_Int64S (k) x.2.1), (mk_Matrix (k + (sz_Int64S x.2.1 : Nat)) x.2.2)) [.slice a1 x.2.1.length c1, .int .i64 x.2.2.1, .int .i64 x.2.2.2.1, .slice a2 x.2.2.2.2.length c2] := mpR G1 k2 (fun _ p => .inl p) (fun _ p => .inr p) (fun _ o p => q1_2 _ o p)
  have k0 : (Kn.mp (KI) (Kn.mp (M_Int64S) (M_Matrix))).R (fun id => X1 id ∨ X2 id) H1 (x.1, (mk_Int64S (k) x.2.1), (mk_Matrix (k + (sz_Int64S x.2.1 : Nat)) x.2.2)) [.int .i64 x.1, .slice a1 x.2.1.length c1, .int .i64 x.2.2.1, .int .i64 x.2.2.2.1, .slice a2 x.2.2.2.2.length c2] := mpR (X := None_) (show KI.R None_ H1 _ [.int .i64 x.1] from rfl) k1 (fun _ p => p.elim) (fun _ p => p) (fun _ p _ => p.elim)
  exact (M_Scheme).more (fun id p => by rcases p with p | p <;> first | exact i1 id p | exact i2 id p) k0
theorem held_Scheme {x : T_Scheme} {cs : List Value} (hB : B_Scheme x) (hk : Mk k (sz_Scheme x)) (h : K_Scheme.R S H0 (mk_Scheme k x) cs) : Spec Try.prog S H0 38 [.agg cs.toArray, .int .i64 k] (fun v => v = .int .i64 (k + (sz_Scheme x : Nat))) := by
  obtain ⟨a1, c1, a2, c2, rfl, h1, h2⟩ := split_Scheme h
  refine Spec.of1 Try.func38 rfl (by kernel_rfl) rfl (fun H _ => ?_)
  refine KW.callE rfl rfl rfl rfl rfl (held_Int64S hB.2.1 (k := k) (by have := hk.1; have := hk.2; simp only [sz_Scheme] at this; constructor <;> omega) (On.R h1)) (fun _ _ => ?_)
  refine KW.no rfl rfl (by have := hk.1; omega) ?_
  refine KW.callE rfl rfl rfl rfl rfl (held_Matrix hB.2.2 (k := k + (sz_Int64S x.2.1 : Nat)) (by have := hk.1; have := hk.2; simp only [sz_Scheme] at this; constructor <;> omega) (On.R h2)) (fun _ _ => ?_)
  refine KW.no rfl rfl (by have := hk.1; omega) ?_
  refine KW.ret rfl rfl rfl rfl (congrArg (Value.int .i64) ?_)
  simp only [sz_Scheme]
  omega
end
end Go.Proofs.Ytmkpfllbmdahkaa.Am
/- What the laws' own functions do at rows of rows of rows of numbers. Each holds under its own conditions. -/
set_option linter.unusedVariables false
set_option maxRecDepth 20000
namespace Go.Proofs.Ytmkpfllbmdahkaa.Am
open Go Go.RowKit Go.Proofs
/-- All cells. -/
abbrev ts_Int64SS (x : List (List Int)) : Nat := x.length + sum (lens x)
theorem sum_le2 {α : Type} {f g : α → Nat} (l : List α) (h : ∀ x, f x ≤ g x) : sum (l.map f) ≤ sum (l.map g) := by
  induction l with
  | nil => exact Nat.le_refl _
  | cons x l ih => have := h x; simp only [List.map_cons, sum]; omega
abbrev K_Int64SSS : Kn (List (List (List Int))) := KI.sl.sl.sl
abbrev M_Int64SSS : Kn (List (List (List Int))) := KI.ml.ml.ml
theorem le_Int64SSS : KLe M_Int64SSS K_Int64SSS := KLe.row le_Int64SS
structure B_Int64SSS (x : List (List (List Int))) : Prop where
  len : x.length ≤ 1048576
  each : ∀ y ∈ x, B_Int64SS y
  tot : sum (x.map sz_Int64SS) ≤ 1048576
abbrev W_Int64SSS (x : List (List (List Int))) : Prop := x.length ≤ 9223372036854775807 ∧ ∀ y ∈ x, W_Int64SS y
abbrev sz_Int64SSS (x : List (List (List Int))) : Nat := sum (x.map sz_Int64SS)
abbrev mk_Int64SSS (k : Int) (x : List (List (List Int))) : List (List (List Int)) := mks mk_Int64SS sz_Int64SS k x
theorem size_Int64SSS {x : List (List (List Int))} (hB : B_Int64SSS x) : sz_Int64SSS x ≤ 1048576 := hB.tot
section
variable {S : Ids} {H0 : AH} {W : Ids} {a a' : Option Addr} {c c' : Nat} {left k : Int}
/-- .. with the very number. -/
theorem szx_Int64SS {x : List (List Int)} (l0 : 0 ≤ left) (l1 : left ≤ 1048576) (hW : W_Int64SS x) (hs : K_Int64SS.R S H0 x [.slice a x.length c]) : Spec Try.prog S H0 99 [.slice a x.length c, .int .i64 left] (fun v => ∃ r : Int, v = .int .i64 r ∧ (r = -1 ∨ (0 ≤ r ∧ r = left - ts_Int64SS x ∧ B_Int64SS x))) := by
  have hs := sl1 hs
  have hx := hW.1
  refine Spec.of1 Try.func99 rfl (by kernel_rfl) rfl (fun H _ => ?_)
  have e : IntKind.i64.wrap (left - (x.length : Int)) = left - (x.length : Int) := wr (by omega) (by omega)
  refine KW.cnd rfl rfl (fun h => KW.ret rfl rfl rfl rfl ⟨-1, rfl, .inl rfl⟩) (fun h => ?_)
  rw [e] at h
  refine KW.lp rfl rfl (fun s : Nat × Int => [(0, .slice a x.length c), (1, .int .i64 s.2), (5, .int .i64 s.1)]) (fun s => s.1 ≤ x.length ∧ 0 ≤ s.2 ∧ s.2 = left - x.length - (sum ((lens x).take s.1) : Nat)) (fun s => x.length - s.1) ((0, left - x.length)) (⟨by omega, by simp only; omega, by simp [sum]⟩) ⟨rfl, congrArg (Value.int .i64) e, rfl, trivial⟩ (fun s hi bE n => ?_)
  obtain ⟨i, r⟩ := s
  obtain ⟨hi, hr0, hr1⟩ := hi
  simp only at hi hr0 hr1
  refine KW.cnd rfl rfl (fun h2 => ?_) (fun h2 => KW.ret rfl rfl rfl rfl ⟨_, rfl, .inr ⟨hr0, ?_, ?_⟩⟩)
  · refine KW.getL hs.up rfl rfl rfl rfl rfl rfl rfl rfl rfl rfl rfl rfl rfl rfl rfl rfl (by omega) (h2) (fun y a' m hy hsy => ?_)
    have hy : x[i]? = some y := hy
    have hyl : (lens x)[i]? = some y.length := by simp [hy]
    have hsum := sum_take hyl
    refine KW.call rfl rfl rfl rfl rfl (szInt64S' hr0 (by omega) (hW.2 y (List.mem_of_getElem? hy))) (fun v _ _ hv => ?_)
    obtain ⟨q, rfl, hq⟩ := hv
    refine KW.cnd rfl rfl (fun h3 => KW.ret rfl rfl rfl rfl ⟨-1, rfl, .inl rfl⟩) (fun h3 => ?_)
    exact KW.nxt rfl rfl (fun H g => ⟨(i + 1, q), ⟨by simp only; omega, by simp only; omega, by simp only [hsum]; omega⟩, by simp only; omega, ⟨rfl, rfl, congrArg (Value.int .i64) (inc64 (by omega)), trivial⟩, g⟩)
  · have : i = x.length := by omega
    subst this
    rw [List.take_of_length_le (by simp)] at hr1
    simp only [ts_Int64SS]; omega
  · have : i = x.length := by omega
    subst this
    rw [List.take_of_length_le (by simp)] at hr1
    exact ⟨by omega, by omega⟩
end
end Go.Proofs.Ytmkpfllbmdahkaa.Am
/- What the laws' own functions do at Deal: sizes, copies, equality, marks. Each holds under its own conditions. -/
set_option linter.unusedVariables false
set_option maxRecDepth 20000
namespace Go.Proofs.Ytmkpfllbmdahkaa.Am
open Go Go.RowKit Go.Proofs
abbrev T_Deal : Type := (T_Scheme) × (Int) × (List (List Int)) × (List (List (List Int)))
abbrev K_Deal : Kn T_Deal := Kn.pair (K_Scheme) (Kn.pair (KI) (Kn.pair (K_Int64SS) (K_Int64SSS)))
abbrev M_Deal : Kn T_Deal := Kn.mp (M_Scheme) (Kn.mp (KI) (Kn.mp (M_Int64SS) (M_Int64SSS)))
theorem le_Deal : KLe M_Deal K_Deal := KLe.pair (le_Scheme) (KLe.pair ((KLe.refl KI)) (KLe.pair (le_Int64SS) (le_Int64SSS)))
abbrev B_Deal (x : T_Deal) : Prop := B_Scheme x.1 ∧ I64 x.2.1 ∧ B_Int64SS x.2.2.1 ∧ B_Int64SSS x.2.2.2
abbrev W_Deal (x : T_Deal) : Prop := W_Scheme x.1 ∧ I64 x.2.1 ∧ W_Int64SS x.2.2.1 ∧ W_Int64SSS x.2.2.2
abbrev sz_Deal (x : T_Deal) : Nat := sz_Scheme x.1 + sz_Int64SS x.2.2.1 + sz_Int64SSS x.2.2.2
abbrev mk_Deal (k : Int) (x : T_Deal) : T_Deal := (mk_Scheme (k) x.1, x.2.1, mk_Int64SS (k + (sz_Scheme x.1 : Nat)) x.2.2.1, mk_Int64SSS (k + (sz_Scheme x.1 : Nat) + (sz_Int64SS x.2.2.1 : Nat)) x.2.2.2)
theorem size_Deal {x : T_Deal} (hB : B_Deal x) : sz_Deal x ≤ 4194304 := by have := size_Scheme hB.1; have := size_Int64SS hB.2.2.1; have := size_Int64SSS hB.2.2.2; simp only [sz_Deal]; omega
section
variable {S : Ids} {H0 : AH} {W : Ids} {left k : Int}
theorem form_Deal {x : T_Deal} {cs : List Value} (h : K_Deal.R S H0 x cs) : ∃ a1 c1 a2 c2 a3 c3 a4 c4, cs = [.int .i64 x.1.1, .slice a1 x.1.2.1.length c1, .int .i64 x.1.2.2.1, .int .i64 x.1.2.2.2.1, .slice a2 x.1.2.2.2.2.length c2, .int .i64 x.2.1, .slice a3 x.2.2.1.length c3, .slice a4 x.2.2.2.length c4] := by
  obtain ⟨e0, d0, rfl, h0, h0_⟩ := h
  obtain ⟨e1, d1, rfl, h1, h1_⟩ := h0_
  obtain ⟨e2, d2, rfl, h2, h2_⟩ := h1_
  have h3 := h2_
  obtain ⟨a1, c1, a2, c2, rfl⟩ := form_Scheme h0
  obtain rfl := KI_of h1
  obtain ⟨a3, c3, rfl⟩ := slform h2
  obtain ⟨a4, c4, rfl⟩ := slform h3
  exact ⟨a1, c1, a2, c2, a3, c3, a4, c4, rfl⟩
theorem formM_Deal {x : T_Deal} {cs : List Value} (h : M_Deal.R S H0 x cs) : ∃ a1 c1 a2 c2 a3 c3 a4 c4, cs = [.int .i64 x.1.1, .slice a1 x.1.2.1.length c1, .int .i64 x.1.2.2.1, .int .i64 x.1.2.2.2.1, .slice a2 x.1.2.2.2.2.length c2, .int .i64 x.2.1, .slice a3 x.2.2.1.length c3, .slice a4 x.2.2.2.length c4] := form_Deal (le_Deal.2 _ _ _ _ h)
theorem split_Deal {x : T_Deal} {cs : List Value} (h : K_Deal.R S H0 x cs) : ∃ a1 c1 a2 c2 a3 c3 a4 c4, cs = [.int .i64 x.1.1, .slice a1 x.1.2.1.length c1, .int .i64 x.1.2.2.1, .int .i64 x.1.2.2.2.1, .slice a2 x.1.2.2.2.2.length c2, .int .i64 x.2.1, .slice a3 x.2.2.1.length c3, .slice a4 x.2.2.2.length c4] ∧ K_Scheme.R S H0 x.1 [.int .i64 x.1.1, .slice a1 x.1.2.1.length c1, .int .i64 x.1.2.2.1, .int .i64 x.1.2.2.2.1, .slice a2 x.1.2.2.2.2.length c2] ∧ K_Int64SS.R S H0 x.2.2.1 [.slice a3 x.2.2.1.length c3] ∧ K_Int64SSS.R S H0 x.2.2.2 [.slice a4 x.2.2.2.length c4] := by
  obtain ⟨e0, d0, rfl, h0, h0_⟩ := h
  obtain ⟨e1, d1, rfl, h1, h1_⟩ := h0_
  obtain ⟨e2, d2, rfl, h2, h2_⟩ := h1_
  have h3 := h2_
  obtain ⟨a1, c1, a2, c2, rfl⟩ := form_Scheme h0
  obtain rfl := KI_of h1
  obtain ⟨a3, c3, rfl⟩ := slform h2
  obtain ⟨a4, c4, rfl⟩ := slform h3
  exact ⟨a1, c1, a2, c2, a3, c3, a4, c4, rfl, h0, h2, h3⟩
theorem splitM_Deal {x : T_Deal} {cs : List Value} (h : M_Deal.R S H0 x cs) : ∃ (a1 : Option Addr) (c1 : Nat) (a2 : Option Addr) (c2 : Nat) (a3 : Option Addr) (c3 : Nat) (a4 : Option Addr) (c4 : Nat) (X0 : Ids) (X2 : Ids) (X3 : Ids), cs = [.int .i64 x.1.1, .slice a1 x.1.2.1.length c1, .int .i64 x.1.2.2.1, .int .i64 x.1.2.2.2.1, .slice a2 x.1.2.2.2.2.length c2, .int .i64 x.2.1, .slice a3 x.2.2.1.length c3, .slice a4 x.2.2.2.length c4] ∧ M_Scheme.R X0 H0 x.1 [.int .i64 x.1.1, .slice a1 x.1.2.1.length c1, .int .i64 x.1.2.2.1, .int .i64 x.1.2.2.2.1, .slice a2 x.1.2.2.2.2.length c2] ∧ M_Int64SS.R X2 H0 x.2.2.1 [.slice a3 x.2.2.1.length c3] ∧ M_Int64SSS.R X3 H0 x.2.2.2 [.slice a4 x.2.2.2.length c4] ∧ (∀ id, X0 id → S id) ∧ (∀ id, X2 id → S id) ∧ (∀ id, X3 id → S id) ∧ (∀ id, X0 id → X2 id → False) ∧ (∀ id, X0 id → X3 id → False) ∧ (∀ id, X2 id → X3 id → False) := by
  obtain ⟨e0, d0, X0, Y0, rfl, i0, j0, q0, h0, h0_⟩ := h
  obtain ⟨e1, d1, X1, Y1, rfl, i1, j1, q1, h1, h1_⟩ := h0_
  obtain ⟨e2, d2, X2, Y2, rfl, i2, j2, q2, h2, h2_⟩ := h1_
  have h3 := h2_
  obtain ⟨a1, c1, a2, c2, rfl⟩ := formM_Scheme h0
  obtain rfl := KI_of h1
  obtain ⟨a3, c3, rfl⟩ := mlform h2
  obtain ⟨a4, c4, rfl⟩ := mlform h3
  exact ⟨a1, c1, a2, c2, a3, c3, a4, c4, X0, X2, Y2, rfl, h0, h2, h3, fun _ p => i0 _ p, fun _ p => j0 _ (j1 _ (i2 _ p)), fun _ p => j0 _ (j1 _ (j2 _ p)), fun _ o p => q0 _ o (j1 _ (i2 _ p)), fun _ o p => q0 _ o (j1 _ (j2 _ p)), fun _ o p => q2 _ o (p)⟩
end
end Go.Proofs.Ytmkpfllbmdahkaa.Am
/- Contracts: valid schemes and deals, of the program and of the reference. Each holds under its own conditions. -/
set_option linter.unusedVariables false
set_option maxRecDepth 20000
namespace Go.Proofs.Ytmkpfllbmdahkaa.Am
open Go Go.RowKit Go.Proofs
structure OkSch (h : Int) (ow : List Int) (p c : Int) (rows : List (List Int)) : Prop where
  h1 : 1 ≤ h
  h7 : h ≤ 7
  mat : OkMat p c rows
  c1 : 1 ≤ c
  len : ow.length = rows.length
  own : ∀ x ∈ ow, 0 ≤ x ∧ x ≤ h - 1
section
variable {S : Ids} {H0 : AH}
theorem validScheme1 (h y : Int) (hh : 1 ≤ h ∧ h ≤ 7) {id : Nat} {b : Blk} {vs : List Value} (hb : b.cells = .int .i64 h :: vs) (hv : S id ∧ H0.m id = some b) : Spec Try.prog S H0 199 [.int .i64 y, .pointer (some ⟨id, 0, none⟩)] (fun v => v = .bool (!decide (0 ≤ y ∧ y ≤ h - 1))) := by
  refine Spec.of1 Try.func199 rfl (by kernel_rfl) rfl (fun H _ => ?_)
  obtain ⟨hS1, hm1⟩ := On.blk (S' := Low H.n) (H' := H) hv.1 hv.2
  obtain ⟨ty, rw, cs⟩ := b
  subst hb
  refine KW.ldP hS1 hm1 rfl rfl rfl rfl rfl rfl ?_
  refine KW.callE rfl rfl rfl rfl rfl (within _ _ _) (fun _ _ => ?_)
  have e : IntKind.i64.wrap (h - 1) = h - 1 := wr (by omega) (by omega)
  refine KW.ret rfl rfl rfl rfl ?_
  rw [e]; rfl
theorem validScheme (h p c : Int) (hp : I64 p) {a1 c1 a2 c2} {ow : List Int} {rows : List (List Int)} (hO : B_Int64S ow) (hB : B_Int64SS rows) (ho : KI.Sl S H0 (.slice a1 ow.length c1) ow) (hs : KI.sl.Sl S H0 (.slice a2 rows.length c2) rows) :
    Spec Try.prog S H0 110 [.agg #[.int .i64 h, .slice a1 ow.length c1, .int .i64 p, .int .i64 c, .slice a2 rows.length c2]] (fun v => v = .bool (tv (OkSch h ow p c rows))) := by
  refine Spec.of1 Try.func110 rfl (by kernel_rfl) rfl (fun H _ => ?_)
  refine KW.callE rfl rfl rfl rfl rfl (within _ _ _) (fun _ _ => ?_)
  refine KW.tstB rfl rfl (fun k1 => ?_) (fun k1 => ?_)
  · have k1 : 1 ≤ h ∧ h ≤ 7 := by simpa using k1
    refine KW.callE rfl rfl rfl rfl rfl (validMatrix p c hp hB hs.up) (fun _ _ => ?_)
    refine KW.tstB rfl rfl (fun k2 => ?_) (fun k2 => ?_)
    · have k2 := tv_iff.1 k2
      refine KW.tst rfl rfl (fun k3 => ?_) (fun k3 => ?_)
      · have k3 : 1 ≤ c := k3
        refine KW.tstB rfl rfl (fun k4 => ?_) (fun k4 => ?_)
        · have k4 : ow.length = rows.length := by simp at k4; omega
          have hO' : ow.length ≤ 1048576 := hO
          refine KW.callV1 rfl rfl rfl rfl rfl (fun H1 g _ => containsFuncI (p := fun y => !decide (0 ≤ y ∧ y ≤ h - 1)) (by omega) ho.up (fun S' H' o y _ => validScheme1 h y k1 rfl (g.var (j := 0) rfl))) (fun _ _ => ?_)
          refine KW.ret rfl rfl rfl rfl ?_
          show Value.bool (!tv (∃ x ∈ ow, (!decide (0 ≤ x ∧ x ≤ h - 1)) = true)) = _
          by_cases hx : OkSch h ow p c rows
          · rw [tv_true hx, tv_false (fun ⟨x, h1, h2⟩ => by have := hx.own x h1; simp at h2; omega)]; rfl
          · rw [tv_false hx, tv_true ?_]; · rfl
            refine Classical.byContradiction fun hc => hx ⟨k1.1, k1.2, k2, k3, k4, fun x h1 => ?_⟩
            refine Classical.byContradiction fun h2 => hc ⟨x, h1, by simp; omega⟩
        · have k4 : ow.length ≠ rows.length := by simp at k4; omega
          repeat first | refine KW.tT rfl rfl rfl ?_ | refine KW.tF rfl rfl rfl ?_
          exact KW.ret rfl rfl rfl rfl (by rw [tv_false (p := OkSch h ow p c rows) (fun hc => k4 hc.len)]; rfl)
      · have k3 : ¬ 1 ≤ c := k3
        repeat first | refine KW.tT rfl rfl rfl ?_ | refine KW.tF rfl rfl rfl ?_
        exact KW.ret rfl rfl rfl rfl (by rw [tv_false (p := OkSch h ow p c rows) (fun hc => k3 hc.c1)]; rfl)
    · repeat first | refine KW.tT rfl rfl rfl ?_ | refine KW.tF rfl rfl rfl ?_
      exact KW.ret rfl rfl rfl rfl (by rw [tv_false (p := OkSch h ow p c rows) (fun hc => by rw [tv_true hc.mat] at k2; cases k2)]; rfl)
  · have k1 : ¬ (1 ≤ h ∧ h ≤ 7) := by simp at k1; omega
    repeat first | refine KW.tT rfl rfl rfl ?_ | refine KW.tF rfl rfl rfl ?_
    exact KW.ret rfl rfl rfl rfl (by rw [tv_false (p := OkSch h ow p c rows) (fun hc => k1 ⟨hc.h1, hc.h7⟩)]; rfl)
theorem Has3.drop {S : Ids} {H : AH} {id k : Nat} {vs ws : List Value} (h : Has3 S H id k (vs ++ ws)) : Has3 S H id (k + vs.length) ws := by
  obtain ⟨h1, b, h2, h3⟩ := h
  exact ⟨h1, b, h2, fun i v hi => by rw [Nat.add_assoc]; exact h3 _ v (by rw [List.getElem?_append_right (by omega)]; simpa using hi)⟩
theorem Has3.take {S : Ids} {H : AH} {id k : Nat} {vs ws : List Value} (h : Has3 S H id k (vs ++ ws)) : Has3 S H id k vs := by
  obtain ⟨h1, b, h2, h3⟩ := h
  exact ⟨h1, b, h2, fun i v hi => h3 i v (by rw [List.getElem?_append_left (List.getElem?_eq_some_iff.1 hi).1]; exact hi)⟩
theorem Good.has {S0 : Ids} {H0 H1 : AH} {T : List Var} {n j id : Nat} {b : Blk} {vs : List Value} (g : Good S0 H0 T n H1) (hj : T[j]? = some (id, b)) (hb : b.cells = vs) : Has3 (Low H1.n) H1 id 0 vs := ⟨(g.blk hj).2, b, (g.blk hj).1, fun i v hi => by rw [hb, Nat.zero_add]; exact hi⟩
theorem l04Ok (h p c : Int) (hp : I64 p) {id k : Nat} {a1 c1 a2 c2} {ow : List Int} {rows : List (List Int)} (hO : B_Int64S ow) (hB : B_Int64SS rows) (hv : Has3 S H0 id k [.int .i64 h, .slice a1 ow.length c1, .int .i64 p, .int .i64 c, .slice a2 rows.length c2]) (ho : KI.Sl S H0 (.slice a1 ow.length c1) ow) (hs : KI.sl.Sl S H0 (.slice a2 rows.length c2) rows) :
    Spec Try.prog S H0 121 [.pointer (some ⟨id, k, none⟩)] (fun v => v = .bool (tv (OkSch h ow p c rows))) := by
  refine Spec.of1 Try.func121 rfl (by kernel_rfl) rfl (fun H _ => ?_)
  have hO' : ow.length ≤ 1048576 := hO
  have hv := hv.up (S' := Low H.n) (H' := H)
  have ho := ho.up (S' := Low H.n) (H' := H)
  have hs := hs.up (S' := Low H.n) (H' := H)
  refine KW.ldF 0 hv rfl rfl rfl rfl rfl rfl rfl rfl rfl ?_
  refine KW.callE rfl rfl rfl rfl rfl (l00In _ _ _) (fun _ _ => ?_)
  refine KW.tstB rfl rfl (fun k1 => ?_) (fun k1 => ?_)
  · have k1 : ¬ (1 ≤ h ∧ h ≤ 7) := by simp at k1; omega
    repeat first | refine KW.tT rfl rfl rfl ?_ | refine KW.tF rfl rfl rfl ?_
    first | refine KW.cT rfl rfl rfl ?_ | refine KW.cF rfl rfl rfl ?_
    exact KW.ret rfl rfl rfl rfl (by rw [tv_false (p := OkSch h ow p c rows) (fun hc => k1 ⟨hc.h1, hc.h7⟩)]; rfl)
  have k1 : 1 ≤ h ∧ h ≤ 7 := by simpa using k1
  refine KW.callE rfl rfl rfl rfl rfl (l03Ok p c hp hB (hv.drop (vs := [_, _])) hs) (fun _ _ => ?_)
  refine KW.tstB rfl rfl (fun k2 => ?_) (fun k2 => ?_)
  · repeat first | refine KW.tT rfl rfl rfl ?_ | refine KW.tF rfl rfl rfl ?_
    first | refine KW.cT rfl rfl rfl ?_ | refine KW.cF rfl rfl rfl ?_
    exact KW.ret rfl rfl rfl rfl (by rw [tv_false (p := OkSch h ow p c rows) (fun hc => by rw [tv_true hc.mat] at k2; cases k2)]; rfl)
  have k2 : OkMat p c rows := tv_iff.1 (by simpa using k2)
  refine KW.ldF 3 hv rfl rfl rfl rfl rfl rfl rfl rfl rfl ?_
  refine KW.tst rfl rfl (fun k3 => ?_) (fun k3 => ?_)
  · have k3 : c < 1 := k3
    repeat first | refine KW.tT rfl rfl rfl ?_ | refine KW.tF rfl rfl rfl ?_
    first | refine KW.cT rfl rfl rfl ?_ | refine KW.cF rfl rfl rfl ?_
    exact KW.ret rfl rfl rfl rfl (by rw [tv_false (p := OkSch h ow p c rows) (fun hc => by have := hc.c1; omega)]; rfl)
  have k3 : ¬ c < 1 := k3
  refine KW.ldF 1 hv rfl rfl rfl rfl rfl rfl rfl rfl rfl ?_
  refine KW.ldF 4 hv rfl rfl rfl rfl rfl rfl rfl rfl rfl ?_
  refine KW.cndB rfl rfl (fun k4 => ?_) (fun k4 => ?_)
  · have k4 : ow.length ≠ rows.length := by simp at k4; omega
    exact KW.ret rfl rfl rfl rfl (by rw [tv_false (p := OkSch h ow p c rows) (fun hc => k4 hc.len)]; rfl)
  have k4 : ow.length = rows.length := by simp at k4; omega
  refine KW.lp rfl rfl (fun i : Nat => [(0, .pointer (some ⟨id, k, none⟩)), (3, .int .i64 i)]) (fun i => i ≤ ow.length ∧ ∀ j, j < i → ∀ x, ow[j]? = some x → 0 ≤ x ∧ x ≤ h - 1) (fun i => ow.length - i) (0) (⟨by omega, fun j h => absurd h (by omega)⟩) ⟨rfl, rfl, trivial⟩ (fun i hi bE n => ?_)
  obtain ⟨hi, hj⟩ := hi
  refine KW.ldF 1 hv rfl rfl rfl rfl rfl rfl rfl rfl rfl ?_
  refine KW.cnd rfl rfl (fun k5 => ?_) (fun k5 => ?_)
  · refine KW.ldF 1 hv rfl rfl rfl rfl rfl rfl rfl rfl rfl ?_
    refine KW.getI ho rfl rfl rfl rfl rfl rfl rfl rfl rfl rfl rfl rfl rfl rfl rfl rfl (by omega) (k5) (fun y hy => ?_)
    have hy : ow[i]? = some y := hy
    refine KW.ldF 0 hv rfl rfl rfl rfl rfl rfl rfl rfl rfl ?_
    refine KW.callE rfl rfl rfl rfl rfl (l00In _ _ _) (fun _ _ => ?_)
    have e : IntKind.i64.wrap (h - 1) = h - 1 := wr (by omega) (by omega)
    rw [e]
    refine KW.cndB rfl rfl (fun k6 => ?_) (fun k6 => ?_)
    · exact KW.ret rfl rfl rfl rfl (by rw [tv_false (p := OkSch h ow p c rows) (fun hc => by have := hc.own y (List.mem_of_getElem? hy); simp at k6; omega)]; rfl)
    · refine KW.nxt rfl rfl (fun H' g => ⟨i + 1, ⟨by omega, upto hj (fun z hz => by rw [hy] at hz; cases hz; simpa using k6)⟩, by first | omega | (simp only; omega), ⟨rfl, congrArg (Value.int .i64) (inc64 (by omega)), trivial⟩, g⟩)
  · exact KW.ret rfl rfl rfl rfl (by rw [tv_true (p := OkSch h ow p c rows) ⟨k1.1, k1.2, k2, by omega, k4, all_of (fun j hjl => hj j (by omega))⟩]; rfl)
end
/-- Keys of an epoch. -/
def KeysOk (p : Int) (n : Nat) (kk : List (List Int)) : Prop := kk.length = n ∧ ∀ y ∈ kk, y.length = 2 ∧ Elems p y
structure OkDeal (h : Int) (ow : List Int) (p c : Int) (rows : List (List Int)) (s : Int) (bs : List (List Int)) (ks : List (List (List Int))) : Prop where
  sch : OkSch h ow p c rows
  sec : 0 ≤ s ∧ s ≤ p - 1
  bl : 1 ≤ bs.length ∧ bs.length ≤ 4
  kl : ks.length = bs.length
  bk : ∀ (e : Nat) b kk, bs[e]? = some b → ks[e]? = some kk → ((b.length : Int) = c - 1 ∧ Elems p b) ∧ KeysOk p rows.length kk
section
variable {S : Ids} {H0 : AH}
theorem validDeal (h p c s : Int) (hp : I64 p) {a1 c1 a2 c2 a3 c3 a4 c4} {ow : List Int} {rows bs : List (List Int)} {ks : List (List (List Int))} (hO : B_Int64S ow) (hB : B_Int64SS rows) (hBb : B_Int64SS bs) (hBk : B_Int64SSS ks)
    (ho : KI.Sl S H0 (.slice a1 ow.length c1) ow) (hs : KI.sl.Sl S H0 (.slice a2 rows.length c2) rows) (hb : KI.sl.Sl S H0 (.slice a3 bs.length c3) bs) (hk : KI.sl.sl.Sl S H0 (.slice a4 ks.length c4) ks) :
    Spec Try.prog S H0 207 [.agg #[.int .i64 h, .slice a1 ow.length c1, .int .i64 p, .int .i64 c, .slice a2 rows.length c2, .int .i64 s, .slice a3 bs.length c3, .slice a4 ks.length c4]] (fun v => v = .bool (tv (OkDeal h ow p c rows s bs ks))) := by
  refine Spec.of1 Try.func207 rfl (by kernel_rfl) rfl (fun H _ => ?_)
  have bl := hBb.len
  have kl := hBk.len
  refine KW.callE rfl rfl rfl rfl rfl (validScheme h p c hp hO hB ho.up hs.up) (fun _ _ => ?_)
  refine KW.tstB rfl rfl (fun k1 => ?_) (fun k1 => ?_)
  · repeat first | refine KW.tT rfl rfl rfl ?_ | refine KW.tF rfl rfl rfl ?_
    first | refine KW.cT rfl rfl rfl ?_ | refine KW.cF rfl rfl rfl ?_
    exact KW.ret rfl rfl rfl rfl (by rw [tv_false (p := OkDeal h ow p c rows s bs ks) (fun hc => by rw [tv_true hc.sch] at k1; cases k1)]; rfl)
  have k1 : OkSch h ow p c rows := tv_iff.1 (by simpa using k1)
  have hc12 := k1.mat.c1
  have hc1 := k1.c1
  refine KW.lit rfl rfl rfl rfl rfl rfl rfl rfl rfl rfl [.int .i64 s] rfl rfl (fun v hv => by simp at hv; subst hv; rfl) rfl ?_
  refine KW.callV1 rfl rfl rfl rfl rfl (fun H1 g _ => areElements p hp (xs := [s]) (by simp) (g.ints (j := 2) rfl rfl (by simp))) (fun _ _ => ?_)
  refine KW.tstB rfl rfl (fun k2 => ?_) (fun k2 => ?_)
  · repeat first | refine KW.tT rfl rfl rfl ?_ | refine KW.tF rfl rfl rfl ?_
    first | refine KW.cT rfl rfl rfl ?_ | refine KW.cF rfl rfl rfl ?_
    exact KW.ret rfl rfl rfl rfl (by rw [tv_false (p := OkDeal h ow p c rows s bs ks) (fun hc => by rw [tv_true ⟨k1.mat.pr, fun x hx => by rw [List.mem_singleton.1 hx]; exact hc.sec⟩] at k2; cases k2)]; rfl)
  have k2 : 0 ≤ s ∧ s ≤ p - 1 := (tv_iff.1 (by simpa using k2) : PrimeP p ∧ Elems p [s]).2 s (by simp)
  refine KW.callE rfl rfl rfl rfl rfl (within _ _ _) (fun _ _ => ?_)
  refine KW.tstB rfl rfl (fun k3 => ?_) (fun k3 => ?_)
  · have k3 : ¬ (1 ≤ bs.length ∧ bs.length ≤ 4) := by simp at k3; omega
    repeat first | refine KW.tT rfl rfl rfl ?_ | refine KW.tF rfl rfl rfl ?_
    first | refine KW.cT rfl rfl rfl ?_ | refine KW.cF rfl rfl rfl ?_
    exact KW.ret rfl rfl rfl rfl (by rw [tv_false (p := OkDeal h ow p c rows s bs ks) (fun hc => k3 hc.bl)]; rfl)
  have k3 : 1 ≤ bs.length ∧ bs.length ≤ 4 := by simp at k3; omega
  refine KW.cndB rfl rfl (fun k4 => ?_) (fun k4 => ?_)
  · exact KW.ret rfl rfl rfl rfl (by rw [tv_false (p := OkDeal h ow p c rows s bs ks) (fun hc => by rw [hc.kl] at k4; simp at k4)]; rfl)
  have k4 : ks.length = bs.length := by simp at k4; omega
  refine KW.lp rfl rfl (fun i : Nat => [(1, .pointer (some ⟨H.n, 0, some 0⟩)), (3, .pointer (some ⟨H.n + 1, 0, some 1⟩)), (41, .slice a3 bs.length c3), (42, .int .i64 bs.length), (43, .int .i64 i)]) (fun i => i ≤ bs.length ∧ ∀ j, j < i → ∀ b kk, bs[j]? = some b → ks[j]? = some kk → ((b.length : Int) = c - 1 ∧ Elems p b) ∧ KeysOk p rows.length kk) (fun i => bs.length - i) (0) (⟨by omega, fun j h => absurd h (by omega)⟩) ⟨rfl, rfl, rfl, rfl, rfl, trivial⟩ (fun i hi bE n => ?_)
  obtain ⟨hi, hj⟩ := hi
  refine KW.cnd rfl rfl (fun k5 => ?_) (fun k5 => ?_)
  · refine KW.getL hb.up rfl rfl rfl rfl rfl rfl rfl rfl rfl rfl rfl rfl rfl rfl rfl rfl (by omega) (k5) (fun y a' m' hy hsy => ?_)
    have hy : bs[i]? = some y := hy
    have hym := hBb.each y (List.mem_of_getElem? hy)
    obtain ⟨kk, hkk⟩ : ∃ kk, ks[i]? = some kk := ⟨ks[i]'(by omega), List.getElem?_eq_getElem (by omega)⟩
    have bad : ¬ (((y.length : Int) = c - 1 ∧ Elems p y) ∧ KeysOk p rows.length kk) → aout [Value.bool false] = .bool (tv (OkDeal h ow p c rows s bs ks)) := fun hx => by rw [tv_false (p := OkDeal h ow p c rows s bs ks) (fun hc => hx (hc.bk i y kk hy hkk))]; rfl
    have e : IntKind.i64.wrap (c - 1) = c - 1 := wr (by omega) (by omega)
    refine KW.tstB rfl rfl (fun k6 => ?_) (fun k6 => ?_)
    · rw [e] at k6
      repeat first | refine KW.tT rfl rfl rfl ?_ | refine KW.tF rfl rfl rfl ?_
      first | refine KW.cT rfl rfl rfl ?_ | refine KW.cF rfl rfl rfl ?_
      exact KW.ret rfl rfl rfl rfl (bad (fun hc => by rw [hc.1.1] at k6; simp at k6))
    rw [e] at k6
    have k6 : (y.length : Int) = c - 1 := by simpa using k6
    refine KW.callE rfl rfl rfl rfl rfl (areElements p hp (by omega) hsy) (fun _ _ => ?_)
    refine KW.tstB rfl rfl (fun k7 => ?_) (fun k7 => ?_)
    · repeat first | refine KW.tT rfl rfl rfl ?_ | refine KW.tF rfl rfl rfl ?_
      first | refine KW.cT rfl rfl rfl ?_ | refine KW.cF rfl rfl rfl ?_
      exact KW.ret rfl rfl rfl rfl (bad (fun hc => by rw [tv_true ⟨k1.mat.pr, hc.1.2⟩] at k7; cases k7))
    have k7 : Elems p y := (tv_iff.1 (by simpa using k7) : PrimeP p ∧ Elems p y).2
    refine KW.getL hk.up rfl rfl rfl rfl rfl rfl rfl rfl rfl rfl rfl rfl rfl rfl rfl rfl (by omega) (by omega) (fun kk1 a'' m'' hkk1 hskk => ?_)
    have hkk1 : ks[i]? = some kk1 := hkk1
    rw [hkk] at hkk1
    cases hkk1
    have hkB := hBk.each kk (List.mem_of_getElem? hkk)
    have hkl := hkB.len
    refine KW.cndB rfl rfl (fun k8 => ?_) (fun k8 => ?_)
    · exact KW.ret rfl rfl rfl rfl (bad (fun hc => by rw [hc.2.1] at k8; simp at k8))
    have k8 : kk.length = rows.length := by simp at k8; omega
    refine KW.getL hk.up rfl rfl rfl rfl rfl rfl rfl rfl rfl rfl rfl rfl rfl rfl rfl rfl (by omega) (by omega) (fun kk1 a'' m'' hkk1 hskk => ?_)
    have hkk1 : ks[i]? = some kk1 := hkk1
    rw [hkk] at hkk1
    cases hkk1
    refine KW.lp rfl rfl (fun q : Nat => [(1, .pointer (some ⟨H.n, 0, some 0⟩)), (3, .pointer (some ⟨H.n + 1, 0, some 1⟩)), (41, .slice a3 bs.length c3), (42, .int .i64 bs.length), (43, .int .i64 i), (77, .slice a'' kk.length m''), (78, .int .i64 kk.length), (79, .int .i64 q)]) (fun q => q ≤ kk.length ∧ ∀ j, j < q → ∀ x, kk[j]? = some x → x.length = 2 ∧ Elems p x) (fun q => kk.length - q) (0) (⟨by omega, fun j h => absurd h (by omega)⟩) ⟨rfl, rfl, rfl, rfl, rfl, rfl, rfl, rfl, trivial⟩ (fun q hi bE n => ?_)
    obtain ⟨hq, hqj⟩ := hi
    refine KW.cnd rfl rfl (fun k9 => ?_) (fun k9 => ?_)
    · refine KW.getL hskk rfl rfl rfl rfl rfl rfl rfl rfl rfl rfl rfl rfl rfl rfl rfl rfl (by omega) (k9) (fun z a3' m3' hz hsz => ?_)
      have hz : kk[q]? = some z := hz
      have hzm := List.mem_of_getElem? hz
      refine KW.tstB rfl rfl (fun k10 => ?_) (fun k10 => ?_)
      · repeat first | refine KW.tT rfl rfl rfl ?_ | refine KW.tF rfl rfl rfl ?_
        first | refine KW.cT rfl rfl rfl ?_ | refine KW.cF rfl rfl rfl ?_
        exact KW.ret rfl rfl rfl rfl (bad (fun hc => by rw [(hc.2.2 z hzm).1] at k10; simp at k10))
      have k10 : z.length = 2 := by simp at k10; omega
      refine KW.callE rfl rfl rfl rfl rfl (areElements p hp (by omega) hsz) (fun _ _ => ?_)
      refine KW.cndB rfl rfl (fun k11 => ?_) (fun k11 => ?_)
      · exact KW.ret rfl rfl rfl rfl (bad (fun hc => by rw [tv_true ⟨k1.mat.pr, (hc.2.2 z hzm).2⟩] at k11; cases k11))
      have k11 : Elems p z := (tv_iff.1 (by simpa using k11) : PrimeP p ∧ Elems p z).2
      refine KW.nxt rfl rfl (fun H' g => ⟨q + 1, ⟨by omega, upto hqj (fun x hx => by rw [hz] at hx; cases hx; exact ⟨k10, k11⟩)⟩, by first | omega | (simp only; omega), ⟨rfl, rfl, rfl, rfl, rfl, rfl, rfl, congrArg (Value.int .i64) (inc64 (by omega)), trivial⟩, g⟩)
    · refine KW.nxt rfl rfl (fun H' g => ⟨i + 1, ⟨by omega, upto hj (fun b kk1 hb1 hk1 => by rw [hy] at hb1; rw [hkk] at hk1; cases hb1; cases hk1; exact ⟨⟨k6, k7⟩, k8, all_of (fun j hjl => hqj j (by omega))⟩)⟩, by first | omega | (simp only; omega), ⟨rfl, rfl, rfl, rfl, congrArg (Value.int .i64) (inc64 (by omega)), trivial⟩, g⟩)
  · exact KW.ret rfl rfl rfl rfl (by rw [tv_true (p := OkDeal h ow p c rows s bs ks) ⟨k1, k2, k3, k4, fun e b kk h1 h2 => hj e (by have := (List.getElem?_eq_some_iff.1 h1).1; omega) b kk h1 h2⟩]; rfl)
end
end Go.Proofs.Ytmkpfllbmdahkaa.Am
/- Contracts: ValidDeal, as the law asks them. Each holds under its own conditions. -/
set_option linter.unusedVariables false
set_option maxRecDepth 20000
namespace Go.Proofs.Ytmkpfllbmdahkaa.Am
open Go Go.RowKit Go.Proofs
/-- A deal that is valid. -/
def DealOk (x : T_Deal) : Prop := OkDeal x.1.1 x.1.2.1 x.1.2.2.1 x.1.2.2.2.1 x.1.2.2.2.2 x.2.1 x.2.2.1 x.2.2.2
section
variable {S : Ids} {H0 : AH}
theorem split2_Deal {x : T_Deal} {cs : List Value} (h : K_Deal.R S H0 x cs) : ∃ a1 c1 a2 c2 a3 c3 a4 c4, cs = [.int .i64 x.1.1, .slice a1 x.1.2.1.length c1, .int .i64 x.1.2.2.1, .int .i64 x.1.2.2.2.1, .slice a2 x.1.2.2.2.2.length c2, .int .i64 x.2.1, .slice a3 x.2.2.1.length c3, .slice a4 x.2.2.2.length c4] ∧
    KI.Sl S H0 (.slice a1 x.1.2.1.length c1) x.1.2.1 ∧ KI.sl.Sl S H0 (.slice a2 x.1.2.2.2.2.length c2) x.1.2.2.2.2 ∧ KI.sl.Sl S H0 (.slice a3 x.2.2.1.length c3) x.2.2.1 ∧ KI.sl.sl.Sl S H0 (.slice a4 x.2.2.2.length c4) x.2.2.2 := by
  obtain ⟨a1, c1, a2, c2, a3, c3, a4, c4, rfl, h0, h2, h3⟩ := split_Deal h
  obtain ⟨b1, d1, b2, d2, e0, k1, k2⟩ := split_Scheme h0
  cases e0
  obtain ⟨b3, d3, e1, k3⟩ := split_Matrix k2
  cases e1
  exact ⟨a1, c1, a2, c2, a3, c3, a4, c4, rfl, sl1 k1, sl1 k3, sl1 h2, sl1 h3⟩
noncomputable def r0_ValidDeal (x : T_Deal) : Bool := tv (DealOk x)
theorem impl_ValidDeal {x : T_Deal} {cs : List Value} (hB : B_Deal x) (h : K_Deal.R S H0 x cs) : Spec Try.prog S H0 207 [.agg cs.toArray] (fun v => v = .bool (tv (DealOk x))) := by
  obtain ⟨a1, c1, a2, c2, a3, c3, a4, c4, rfl, h1, h2, h3, h4⟩ := split2_Deal h
  exact validDeal _ _ _ _ hB.1.2.2.1 hB.1.2.1 hB.1.2.2.2.2 hB.2.2.1 hB.2.2.2 h1 h2 h3 h4
end
end Go.Proofs.Ytmkpfllbmdahkaa.Am
/- Contracts: rows held, products, shares, values and tags, of the program and of the reference. Each holds under its own conditions. -/
set_option linter.unusedVariables false
set_option maxRecDepth 20000
namespace Go.Proofs.Ytmkpfllbmdahkaa.Am
open Go Go.RowKit Go.Proofs
/-- The places below n of which q tells true. -/
def rowsP (q : Nat → Bool) (n : Nat) : List Int := ((List.range n).filter q).map fun (i : Nat) => (i : Int)
theorem rowsP_next (q : Nat → Bool) (n : Nat) : rowsP q (n + 1) = if q n = true then rowsP q n ++ [(n : Int)] else rowsP q n := by
  unfold rowsP
  rw [List.range_succ, List.filter_append, List.map_append]
  by_cases hc : q n = true
  · simp [hc]
  · have hc : q n = false := by simpa using hc
    simp [hc]
theorem rowsP_len (q : Nat → Bool) (n : Nat) : (rowsP q n).length ≤ n := by
  unfold rowsP
  rw [List.length_map]
  exact Nat.le_trans (List.length_filter_le _ _) (by simp)
theorem rowsP_mem {q : Nat → Bool} {n : Nat} {x : Int} (hx : x ∈ rowsP q n) : 0 ≤ x ∧ x < n := by
  unfold rowsP at hx
  obtain ⟨i, hi, rfl⟩ := List.mem_map.1 hx
  have := List.mem_range.1 (List.mem_filter.1 hi).1
  omega
theorem rowsP_congr {q q' : Nat → Bool} {n : Nat} (h : ∀ i, i < n → q i = q' i) : rowsP q n = rowsP q' n := by
  unfold rowsP
  congr 1
  exact List.filter_congr fun i hi => h i (List.mem_range.1 hi)
abbrev rowsOf (ow : List Int) (h : Int) : List Int := rowsP (fun i => decide (ow.getD i 0 = h)) ow.length
/-- Sums of products. -/
def dotN (a b : List Int) : Nat → Int
  | 0 => 0
  | n + 1 => dotN a b n + a.getD n 0 * b.getD n 0
def dotS (p : Int) (a b : List Int) : Int := dotN a b a.length % p
theorem elem_at {p : Int} {a : List Int} (h : Elems p a) (hp : 2 ≤ p) (i : Nat) : 0 ≤ a.getD i 0 ∧ a.getD i 0 ≤ p - 1 := by
  rcases Nat.lt_or_ge i a.length with hi | hi
  · rw [List.getD_eq_getElem?_getD, List.getElem?_eq_getElem hi]
    exact h _ (List.getElem_mem hi)
  · rw [List.getD_eq_getElem?_getD, List.getElem?_eq_none hi]
    show 0 ≤ (0 : Int) ∧ (0 : Int) ≤ p - 1
    omega
theorem mul_small {p x y : Int} (hp : p ≤ 31) (hx : 0 ≤ x ∧ x ≤ p - 1) (hy : 0 ≤ y ∧ y ≤ p - 1) : 0 ≤ x * y ∧ x * y ≤ 900 := by
  refine ⟨Int.mul_nonneg hx.1 hy.1, ?_⟩
  have h1 : x * y ≤ 30 * 30 := Int.mul_le_mul (by omega) (by omega) hy.1 (by omega)
  omega
theorem dotN_in {p : Int} {a b : List Int} (hp : PrimeP p) (ha : Elems p a) (hb : Elems p b) : ∀ n, 0 ≤ dotN a b n ∧ dotN a b n ≤ 900 * n
  | 0 => by simp [dotN]
  | n + 1 => by
    have h1 := dotN_in hp ha hb n
    have h2 := mul_small hp.2.1 (elem_at ha hp.1 n) (elem_at hb hp.1 n)
    simp only [dotN]
    omega
def shares (p : Int) (rows : List (List Int)) (all : List Int) : List Int := rows.map fun r => dotS p r all
theorem map_take_succ {α β : Type} (f : α → β) {xs : List α} {i : Nat} {x : α} (h : xs[i]? = some x) : (xs.take (i + 1)).map f = (xs.take i).map f ++ [f x] := by
  obtain ⟨hi, rfl⟩ := List.getElem?_eq_some_iff.1 h
  rw [List.take_succ_eq_append_getElem hi, List.map_append]; rfl
section
variable {S : Ids} {H0 : AH}
theorem dot (p : Int) (hp : PrimeP p) {a1 c1 a2 c2} {a b : List Int} (hl : a.length = b.length) (h12 : a.length ≤ 1048576) (ea : Elems p a) (eb : Elems p b) (ha : KI.Sl S H0 (.slice a1 a.length c1) a) (hb : KI.Sl S H0 (.slice a2 b.length c2) b) :
    Spec Try.prog S H0 142 [.int .i64 p, .slice a1 a.length c1, .slice a2 b.length c2] (fun v => v = .int .i64 (dotS p a b)) := by
  refine Spec.of1 Try.func142 rfl (by kernel_rfl) rfl (fun H _ => ?_)
  refine KW.lp rfl rfl (fun i : Nat => [(0, .int .i64 p), (2, .slice a2 b.length c2), (7, .int .i64 (dotN a b i)), (10, .slice a1 a.length c1), (11, .int .i64 a.length), (12, .int .i64 i)]) (fun i => i ≤ a.length) (fun i => a.length - i) (0) (by omega) ⟨rfl, rfl, rfl, rfl, rfl, rfl, trivial⟩ (fun i hi bE n => ?_)
  refine KW.cnd rfl rfl (fun h => ?_) (fun h => ?_)
  · refine KW.getI ha.up rfl rfl rfl rfl rfl rfl rfl rfl rfl rfl rfl rfl rfl rfl rfl rfl (by omega) (h) (fun x hx => ?_)
    refine KW.getI hb.up rfl rfl rfl rfl rfl rfl rfl rfl rfl rfl rfl rfl rfl rfl rfl rfl (by omega) (by omega) (fun y hy => ?_)
    have hx : a.getD i 0 = x := getD_of hx
    have hy : b.getD i 0 = y := getD_of hy
    have h1 := dotN_in hp ea eb i
    have h2 := mul_small hp.2.1 (elem_at ea hp.1 i) (elem_at eb hp.1 i)
    have e : dotN a b (i + 1) = dotN a b i + a.getD i 0 * b.getD i 0 := rfl
    rw [hx, hy] at h2 e
    have e2 : Value.int .i64 (IntKind.i64.wrap (dotN a b i + IntKind.i64.wrap (x * y))) = .int .i64 (dotN a b (i + 1)) := by
      rw [wr (x := x * y) (by omega) (by omega), wr (by omega) (by omega), e]
    refine KW.nxt rfl rfl (fun H' g => ⟨i + 1, by omega, by first | omega | (simp only; omega), ⟨rfl, rfl, e2, rfl, rfl, congrArg (Value.int .i64) (inc64 (by omega)), trivial⟩, g⟩)
  · obtain rfl : i = a.length := by omega
    have h1 := dotN_in hp ea eb a.length
    refine KW.rem rfl rfl rfl rfl rfl rfl (h1.1) (by have := hp.1; omega) ?_
    exact KW.ret rfl rfl rfl rfl (rfl)
theorem l03Dot (p : Int) (hp : PrimeP p) {a1 c1 a2 c2} {a b : List Int} (hl : a.length = b.length) (h12 : a.length ≤ 1048576) (ea : Elems p a) (eb : Elems p b) (ha : KI.Sl S H0 (.slice a1 a.length c1) a) (hb : KI.Sl S H0 (.slice a2 b.length c2) b) :
    Spec Try.prog S H0 115 [.int .i64 p, .slice a1 a.length c1, .slice a2 b.length c2] (fun v => v = .int .i64 (dotS p a b)) := by
  refine Spec.of1 Try.func115 rfl (by kernel_rfl) rfl (fun H _ => ?_)
  refine KW.lp rfl rfl (fun i : Nat => [(0, .int .i64 p), (1, .slice a1 a.length c1), (2, .slice a2 b.length c2), (7, .int .i64 (dotN a b i)), (8, .int .i64 i)]) (fun i => i ≤ a.length) (fun i => a.length - i) (0) (by omega) ⟨rfl, rfl, rfl, rfl, rfl, trivial⟩ (fun i hi bE n => ?_)
  refine KW.cnd rfl rfl (fun h => ?_) (fun h => ?_)
  · refine KW.getI ha.up rfl rfl rfl rfl rfl rfl rfl rfl rfl rfl rfl rfl rfl rfl rfl rfl (by omega) (h) (fun x hx => ?_)
    refine KW.getI hb.up rfl rfl rfl rfl rfl rfl rfl rfl rfl rfl rfl rfl rfl rfl rfl rfl (by omega) (by omega) (fun y hy => ?_)
    have hx : a.getD i 0 = x := getD_of hx
    have hy : b.getD i 0 = y := getD_of hy
    have h1 := dotN_in hp ea eb i
    have h2 := mul_small hp.2.1 (elem_at ea hp.1 i) (elem_at eb hp.1 i)
    have e : dotN a b (i + 1) = dotN a b i + a.getD i 0 * b.getD i 0 := rfl
    rw [hx, hy] at h2 e
    have e2 : Value.int .i64 (IntKind.i64.wrap (dotN a b i + IntKind.i64.wrap (x * y))) = .int .i64 (dotN a b (i + 1)) := by
      rw [wr (x := x * y) (by omega) (by omega), wr (by omega) (by omega), e]
    refine KW.nxt rfl rfl (fun H' g => ⟨i + 1, by omega, by first | omega | (simp only; omega), ⟨rfl, rfl, rfl, e2, congrArg (Value.int .i64) (inc64 (by omega)), trivial⟩, g⟩)
  · obtain rfl : i = a.length := by omega
    have h1 := dotN_in hp ea eb a.length
    refine KW.rem rfl rfl rfl rfl rfl rfl (h1.1) (by have := hp.1; omega) ?_
    exact KW.ret rfl rfl rfl rfl (rfl)
/-- What a maker of a list of numbers yields. -/
def MkL (xs : List Int) (n : Nat) (v : Value) (H1 : AH) : Prop := ∃ a c, v = .slice a xs.length c ∧ KI.Ml (New n H1.n) H1 (.slice a xs.length c) xs
theorem MkL.of {S0 : Ids} {H0 H1 : AH} {T : List Var} {n j id n0 : Nat} {ty : TypeId} {xs : List Int} (g : Good S0 H0 T n H1) (hj : T[j]? = some (id, ⟨ty, true, xs.map (Value.int .i64)⟩)) (hn : n0 ≤ id) : MkL xs n0 (.slice (some ⟨id, 0, some 1⟩) xs.length xs.length) H1 :=
  ⟨_, _, rfl, int_ml ⟨hn, (g.blk hj).2⟩ (g.blk hj).1 rfl rfl (Nat.le_refl _)⟩
theorem rowsHeld (h p c : Int) (x : Nat) (hx : x < 4611686018427387904) {a1 c1} {v2 : Option Addr} {n2 c2 : Nat} {ow : List Int} (hO : B_Int64S ow) (hown : ∀ x ∈ ow, 0 ≤ x ∧ x ≤ h - 1) (hh : h ≤ 7) (ho : KI.Sl S H0 (.slice a1 ow.length c1) ow) :
    SpecM Try.prog S H0 149 [.agg #[.int .i64 h, .slice a1 ow.length c1, .int .i64 p, .int .i64 c, .slice v2 n2 c2], .int .u64 (x : Int)] (MkL (rowsP (fun i => x.testBit (ow.getD i 0).toNat) ow.length)) := by
  refine SpecM.of1 Try.func149 rfl (by kernel_rfl) rfl (fun H _ => ?_)
  have hO' : ow.length ≤ 1048576 := hO
  refine KW.lit rfl rfl rfl rfl rfl rfl rfl rfl rfl rfl [] rfl rfl (fun v hv => by simp at hv) rfl ?_
  refine KW.lpM rfl rfl (fun s : Nat × Nat => [(1, .int .u64 (x : Int)), (5, .slice (some ⟨s.2, 0, some 1⟩) (rowsP (fun i => x.testBit (ow.getD i 0).toNat) s.1).length (rowsP (fun i => x.testBit (ow.getD i 0).toNat) s.1).length), (10, .slice a1 ow.length c1), (11, .int .i64 ow.length), (12, .int .i64 s.1)]) (fun s => Low H.n) (fun s => H) (fun s => [(H.n, ⟨_, true, _⟩), (s.2, ⟨_, true, (rowsP (fun i => x.testBit (ow.getD i 0).toNat) s.1).map (Value.int .i64)⟩)]) (fun s => s.1 ≤ ow.length) (fun s => ow.length - s.1) ((0, H.n + 1)) (by simp) ⟨rfl, rfl, rfl, rfl, rfl, trivial⟩ rfl rfl rfl (fun s hi bE n => ?_)
  obtain ⟨q, o⟩ := s
  simp only at hi
  have hq : (rowsP (fun i => x.testBit (ow.getD i 0).toNat) q).length ≤ q := rowsP_len _ q
  refine KW.cnd rfl rfl (fun k1 => ?_) (fun k1 => ?_)
  · refine KW.getI ho.up rfl rfl rfl rfl rfl rfl rfl rfl rfl rfl rfl rfl rfl rfl rfl rfl (by omega) (k1) (fun y hy => ?_)
    have hy' : ow[q]? = some y := hy
    have hyb := hown y (List.mem_of_getElem? hy')
    obtain ⟨z, rfl⟩ : ∃ z : Nat, y = z := ⟨y.toNat, by omega⟩
    have hyd : ow.getD q 0 = z := getD_of hy'
    have e := rowsP_next (fun i => x.testBit (ow.getD i 0).toNat) q
    simp only [hyd, Int.toNat_natCast] at e
    refine KW.callE rfl rfl rfl rfl rfl (has (x := x) (h := z) hx (by omega)) (fun _ _ => ?_)
    refine KW.cndB rfl rfl (fun k2 => ?_) (fun k2 => ?_)
    · rw [if_pos k2] at e
      refine KW.app1 (xs := (rowsP (fun i => x.testBit (ow.getD i 0).toNat) q).map (Value.int .i64)) (v := .int .i64 q) 1 2 rfl rfl rfl rfl rfl rfl rfl rfl rfl rfl rfl rfl rfl rfl rfl rfl rfl rfl rfl rfl rfl rfl rfl (by simp) (by show (_ + 1) * 8 ≤ _; first | omega | (simp only; omega)) (by first | omega | (simp only; omega)) ?_
      refine KW.nxt rfl rfl (fun H' g => ⟨(q + 1, _), by simp only; omega, by first | omega | (simp only; omega), ⟨rfl, by simp only [e, List.length_append, List.length_singleton]; rfl, rfl, rfl, congrArg (Value.int .i64) (inc64 (by omega)), trivial⟩, g.eqT (by simp only [e, List.map_append]; rfl)⟩)
    · rw [if_neg (by rw [k2]; decide)] at e
      refine KW.nxt rfl rfl (fun H' g => ⟨(q + 1, o), by simp only; omega, by first | omega | (simp only; omega), ⟨rfl, by simp only [e]; rfl, rfl, rfl, congrArg (Value.int .i64) (inc64 (by omega)), trivial⟩, g.eqT (by simp only [e])⟩)
  · obtain rfl : q = ow.length := by simp only at k1; omega
    refine KW.retM1 rfl rfl rfl rfl (fun H1 g => MkL.of g (j := 1) rfl (g.ge (H1 := H) (j := 1) rfl))
theorem l00Has (n0 : Int) {a c} {xs : List Int} (hl : xs.length ≤ 1048576) (hs : KI.Sl S H0 (.slice a xs.length c) xs) : Spec Try.prog S H0 240 [.slice a xs.length c, .int .i64 n0] (fun v => v = .bool (decide (n0 ∈ xs))) := by
  refine Spec.of1 Try.func240 rfl (by kernel_rfl) rfl (fun H _ => ?_)
  refine KW.lp rfl rfl (fun i : Nat => [(0, .slice a xs.length c), (1, .int .i64 n0), (5, .int .i64 i)]) (fun i => i ≤ xs.length ∧ ∀ j, j < i → ∀ x, xs[j]? = some x → x ≠ n0) (fun i => xs.length - i) (0) (⟨by omega, fun j h => absurd h (by omega)⟩) ⟨rfl, rfl, rfl, trivial⟩ (fun i hi bE n => ?_)
  obtain ⟨hi, hj⟩ := hi
  refine KW.cnd rfl rfl (fun k1 => ?_) (fun k1 => ?_)
  · refine KW.getI hs.up rfl rfl rfl rfl rfl rfl rfl rfl rfl rfl rfl rfl rfl rfl rfl rfl (by omega) (k1) (fun y hy => ?_)
    have hy : xs[i]? = some y := hy
    refine KW.cndB rfl rfl (fun k2 => ?_) (fun k2 => ?_)
    · have k2 : y = n0 := by simpa using k2
      exact KW.ret rfl rfl rfl rfl (by rw [← k2, decide_eq_true (List.mem_of_getElem? hy)]; rfl)
    · have k2 : y ≠ n0 := by simpa using k2
      refine KW.nxt rfl rfl (fun H' g => ⟨i + 1, ⟨by omega, upto hj (fun z hz => by rw [hy] at hz; cases hz; exact k2)⟩, by first | omega | (simp only; omega), ⟨rfl, rfl, congrArg (Value.int .i64) (inc64 (by omega)), trivial⟩, g⟩)
  · exact KW.ret rfl rfl rfl rfl (by rw [decide_eq_false (fun hm => all_of (fun j hjl => hj j (by omega)) n0 hm rfl)]; rfl)
theorem l04Held (h p c : Int) {id k : Nat} {a1 c1 a c2} {ow g0 : List Int} {v2 : Value} (hO : B_Int64S ow) (hG : g0.length ≤ 1048576) (hv : Has3 S H0 id k [.int .i64 h, .slice a1 ow.length c1, .int .i64 p, .int .i64 c, v2]) (ho : KI.Sl S H0 (.slice a1 ow.length c1) ow) (hg : KI.Sl S H0 (.slice a g0.length c2) g0) :
    SpecM Try.prog S H0 197 [.pointer (some ⟨id, k, none⟩), .slice a g0.length c2] (MkL (rowsP (fun i => decide (ow.getD i 0 ∈ g0)) ow.length)) := by
  refine SpecM.of1 Try.func197 rfl (by kernel_rfl) rfl (fun H _ => ?_)
  have hO' : ow.length ≤ 1048576 := hO
  have hv := hv.up (S' := Low H.n) (H' := H)
  refine KW.lit rfl rfl rfl rfl rfl rfl rfl rfl rfl rfl [] rfl rfl (fun v hv => by simp at hv) rfl ?_
  refine KW.lpM rfl rfl (fun s : Nat × Nat => [(0, .pointer (some ⟨id, k, none⟩)), (1, .slice a g0.length c2), (5, .slice (some ⟨s.2, 0, some 1⟩) (rowsP (fun i => decide (ow.getD i 0 ∈ g0)) s.1).length (rowsP (fun i => decide (ow.getD i 0 ∈ g0)) s.1).length), (6, .int .i64 s.1)]) (fun s => Low H.n) (fun s => H) (fun s => [(s.2, ⟨_, true, (rowsP (fun i => decide (ow.getD i 0 ∈ g0)) s.1).map (Value.int .i64)⟩)]) (fun s => s.1 ≤ ow.length) (fun s => ow.length - s.1) ((0, H.n)) (by simp) ⟨rfl, rfl, rfl, rfl, trivial⟩ rfl rfl rfl (fun s hi bE n => ?_)
  obtain ⟨q, o⟩ := s
  simp only at hi
  have hq : (rowsP (fun i => decide (ow.getD i 0 ∈ g0)) q).length ≤ q := rowsP_len _ q
  refine KW.ldF 1 hv rfl rfl rfl rfl rfl rfl rfl rfl rfl ?_
  refine KW.cnd rfl rfl (fun k1 => ?_) (fun k1 => ?_)
  · refine KW.ldF 1 hv rfl rfl rfl rfl rfl rfl rfl rfl rfl ?_
    refine KW.getI ho.up rfl rfl rfl rfl rfl rfl rfl rfl rfl rfl rfl rfl rfl rfl rfl rfl (by omega) (k1) (fun y hy => ?_)
    have hy' : ow[q]? = some y := hy
    have hyd : ow.getD q 0 = y := getD_of hy'
    have e := rowsP_next (fun i => decide (ow.getD i 0 ∈ g0)) q
    simp only [hyd] at e
    refine KW.callE rfl rfl rfl rfl rfl (l00Has y hG hg.up) (fun _ _ => ?_)
    refine KW.cndB rfl rfl (fun k2 => ?_) (fun k2 => ?_)
    · rw [if_pos k2] at e
      refine KW.app1 (xs := (rowsP (fun i => decide (ow.getD i 0 ∈ g0)) q).map (Value.int .i64)) (v := .int .i64 q) 0 1 rfl rfl rfl rfl rfl rfl rfl rfl rfl rfl rfl rfl rfl rfl rfl rfl rfl rfl rfl rfl rfl rfl rfl (by simp) (by show (_ + 1) * 8 ≤ _; first | omega | (simp only; omega)) (by first | omega | (simp only; omega)) ?_
      refine KW.nxt rfl rfl (fun H' g => ⟨(q + 1, _), by simp only; omega, by first | omega | (simp only; omega), ⟨rfl, rfl, by simp only [e, List.length_append, List.length_singleton]; rfl, congrArg (Value.int .i64) (inc64 (by omega)), trivial⟩, g.eqT (by simp only [e, List.map_append]; rfl)⟩)
    · rw [if_neg (by rw [k2]; decide)] at e
      refine KW.nxt rfl rfl (fun H' g => ⟨(q + 1, o), by simp only; omega, by first | omega | (simp only; omega), ⟨rfl, rfl, by simp only [e]; rfl, congrArg (Value.int .i64) (inc64 (by omega)), trivial⟩, g.eqT (by simp only [e])⟩)
  · obtain rfl : q = ow.length := by simp only at k1; omega
    refine KW.retM1 rfl rfl rfl rfl (fun H1 g => MkL.of g (j := 0) rfl (g.ge (H1 := H) (j := 0) rfl))
end
end Go.Proofs.Ytmkpfllbmdahkaa.Am
/- Contracts: shares, values, tags; copies and equality of rows. Each holds under its own conditions. -/
set_option linter.unusedVariables false
set_option maxRecDepth 20000
namespace Go.Proofs.Ytmkpfllbmdahkaa.Am
open Go Go.RowKit Go.Proofs
theorem elems_cons {p s : Int} {bl : List Int} (hs : 0 ≤ s ∧ s ≤ p - 1) (hb : Elems p bl) : Elems p (s :: bl) := fun x hx => by
  rcases List.mem_cons.1 hx with rfl | h
  · exact hs
  · exact hb x h
section
variable {S : Ids} {H0 : AH}
theorem sharesOf (h p c s : Int) {a1 c1 a2 c2 a3 c3} {ow bl : List Int} {rows : List (List Int)} (hO : B_Int64S ow) (hB : B_Int64SS rows) (hk : OkSch h ow p c rows) (hs : 0 ≤ s ∧ s ≤ p - 1) (hbl : (bl.length : Int) = c - 1) (hbe : Elems p bl)
    (h1 : KI.Sl S H0 (.slice a1 ow.length c1) ow) (h2 : KI.sl.Sl S H0 (.slice a2 rows.length c2) rows) (h3 : KI.Sl S H0 (.slice a3 bl.length c3) bl) :
    SpecM Try.prog S H0 56 [.agg #[.int .i64 h, .slice a1 ow.length c1, .int .i64 p, .int .i64 c, .slice a2 rows.length c2], .int .i64 s, .slice a3 bl.length c3] (fun n v H1 => ∃ v', v = .tuple #[v', .int .i64 0] ∧ MkL (shares p rows (s :: bl)) n v' H1) := by
  refine SpecM.of1 Try.func56 rfl (by kernel_rfl) rfl (fun H _ => ?_)
  have hp : I64 p := by unfold I64; have := hk.mat.pr.1; have := hk.mat.pr.2.1; omega
  have hc12 := hk.mat.c1
  have hc1 := hk.c1
  have hrl := hk.mat.len
  have ec : IntKind.i64.wrap (c - 1) = c - 1 := wr (by omega) (by omega)
  refine KW.callE rfl rfl rfl rfl rfl (validScheme h p c hp hO hB h1.up h2.up) (fun _ _ => ?_)
  rw [tv_true hk]
  refine KW.cF rfl rfl (by first | (simp; done) | decide) ?_
  refine KW.lit rfl rfl rfl rfl rfl rfl rfl rfl rfl rfl [.int .i64 s] rfl rfl (fun v hv => by simp at hv; subst hv; rfl) rfl ?_
  refine KW.callV1 rfl rfl rfl rfl rfl (fun H1 g _ => areElements p hp (xs := [s]) (by simp) (g.ints (j := 1) rfl rfl (by simp))) (fun _ _ => ?_)
  rw [tv_true (p := PrimeP p ∧ Elems p [s]) ⟨hk.mat.pr, fun x hx => by rw [List.mem_singleton.1 hx]; exact hs⟩]
  refine KW.tF rfl rfl (by first | (simp; done) | decide) ?_
  refine KW.callE rfl rfl rfl rfl rfl (areElements p hp (by omega) h3.up) (fun _ _ => ?_)
  rw [tv_true (p := PrimeP p ∧ Elems p bl) ⟨hk.mat.pr, hbe⟩]
  refine KW.tF rfl rfl (by first | (simp; done) | decide) ?_
  refine KW.cndB rfl rfl (fun k1 => ?_) (fun k1 => ?_)
  · rw [ec, hbl] at k1; simp at k1
  refine KW.lit rfl rfl rfl rfl rfl rfl rfl rfl rfl rfl [.int .i64 s] rfl rfl (fun v hv => by simp at hv; subst hv; rfl) rfl ?_
  refine KW.appV 2 rfl rfl rfl rfl rfl rfl rfl rfl rfl rfl (fun H1 g => acells_I h3.up g) (by simp) (by simp) (fun v hv => by obtain ⟨_, _, rfl⟩ := List.mem_map.1 hv; rfl) (by show (_ + _) * 8 ≤ _; simp only [List.length_cons, List.length_nil]; omega) (by simp only [List.length_cons, List.length_nil]; omega) (show 1 + bl.length = (s :: bl).length from by simp; omega) (fun oa _ _ => ?_)
  refine KW.lit rfl rfl rfl rfl rfl rfl rfl rfl rfl rfl [] rfl rfl (fun v hv => by simp at hv) rfl ?_
  refine KW.fact (p := ¬ oa < H.n) (fun _ g => (g.vars 2 _ rfl).2.2) (fun hoa => ?_)
  refine KW.lpM rfl rfl (fun q : Nat × Nat => [(3, .pointer (some ⟨H.n, 0, some 0⟩)), (8, .slice (some ⟨oa, 0, some 1⟩) (s :: bl).length (s :: bl).length), (9, .slice (some ⟨q.2, 0, some 1⟩) (shares p (rows.take q.1) (s :: bl)).length (shares p (rows.take q.1) (s :: bl)).length), (46, .slice a2 rows.length c2), (47, .int .i64 rows.length), (48, .int .i64 q.1)]) (fun q => Low H.n) (fun q => H) (fun q => [_, _, (oa, ⟨_, true, (s :: bl).map (Value.int .i64)⟩), (q.2, ⟨_, true, (shares p (rows.take q.1) (s :: bl)).map (Value.int .i64)⟩)]) (fun q => q.1 ≤ rows.length) (fun q => rows.length - q.1) ((0, _)) (by simp) ⟨rfl, rfl, rfl, rfl, rfl, rfl, trivial⟩ rfl rfl rfl (fun q hi bE n => ?_)
  obtain ⟨q, o⟩ := q
  simp only at hi
  have hq : (shares p (rows.take q) (s :: bl)).length ≤ q := by unfold shares; rw [List.length_map, List.length_take]; omega
  refine KW.cnd rfl rfl (fun k2 => ?_) (fun k2 => ?_)
  · refine KW.getL h2.up rfl rfl rfl rfl rfl rfl rfl rfl rfl rfl rfl rfl rfl rfl rfl rfl (by omega) (k2) (fun y a' m' hy hsy => ?_)
    have hy : rows[q]? = some y := hy
    have hym := hk.mat.row y (List.mem_of_getElem? hy)
    refine KW.callV1 rfl rfl rfl rfl rfl (fun H1 g _ => dot p hk.mat.pr (by simp; omega) (by omega) hym.2 (elems_cons hs hbe) hsy.up (g.ints (j := 2) rfl rfl (Nat.le_refl _))) (fun _ _ => ?_)
    have e : shares p (rows.take (q + 1)) (s :: bl) = shares p (rows.take q) (s :: bl) ++ [dotS p y (s :: bl)] := map_take_succ _ hy
    refine KW.app1 (xs := (shares p (rows.take q) (s :: bl)).map (Value.int .i64)) (v := .int .i64 (dotS p y (s :: bl))) 3 4 rfl rfl rfl rfl rfl rfl rfl rfl rfl rfl rfl rfl rfl rfl rfl rfl rfl rfl rfl rfl rfl rfl rfl (by simp) (by show (_ + 1) * 8 ≤ _; first | omega | (simp only; omega)) (by first | omega | (simp only; omega)) ?_
    refine KW.nxt rfl rfl (fun H' g => ⟨(q + 1, _), by simp only; omega, by first | omega | (simp only; omega), ⟨rfl, rfl, by simp only [e, List.length_append, List.length_singleton]; rfl, rfl, rfl, congrArg (Value.int .i64) (inc64 (by omega)), trivial⟩, g.eqT (by simp only [e, List.map_append]; rfl)⟩)
  · obtain rfl : q = rows.length := by simp only at k2; omega
    rw [List.take_of_length_le (Nat.le_refl _)]
    refine KW.retM1 rfl rfl rfl rfl (fun H1 g => ⟨_, rfl, MkL.of g (j := 3) rfl (g.ge (H1 := H) (j := 3) rfl)⟩)
end
/-- The shares of the rows of a holder. -/
def valsOf (p : Int) (rows : List (List Int)) (ow : List Int) (s : Int) (bl : List Int) (j : Int) : List Int := (rowsOf ow j).map fun i => (shares p rows (s :: bl)).getD i.toNat 0
theorem rows_bit {ow : List Int} (h : ∀ x ∈ ow, 0 ≤ x) (j : Nat) : rowsP (fun i => (2 ^ j : Nat).testBit (ow.getD i 0).toNat) ow.length = rowsOf ow j := rowsP_congr fun i hi => by
  have h1 : 0 ≤ ow.getD i 0 := by rw [List.getD_eq_getElem?_getD, List.getElem?_eq_getElem hi]; exact h _ (List.getElem_mem hi)
  rw [Nat.testBit_two_pow]
  exact decide_eq_decide.2 ⟨fun h => by omega, fun h => by omega⟩
theorem rows_one (ow : List Int) (j : Int) : rowsP (fun i => decide (ow.getD i 0 ∈ [j])) ow.length = rowsOf ow j := rowsP_congr fun i hi => by simp
theorem dotS_in {p : Int} {a b : List Int} (hp : PrimeP p) : 0 ≤ dotS p a b ∧ dotS p a b ≤ p - 1 := by
  unfold dotS
  have h1 := hp.1
  have := Int.emod_nonneg (dotN a b a.length) (show p ≠ 0 by omega)
  have := Int.emod_lt_of_pos (dotN a b a.length) (show 0 < p by omega)
  omega
theorem shares_in {p : Int} {rows : List (List Int)} {all : List Int} (hp : PrimeP p) : Elems p (shares p rows all) := fun x hx => by
  obtain ⟨r, _, rfl⟩ := List.mem_map.1 hx
  exact dotS_in hp
theorem vals_in {p s j : Int} {rows : List (List Int)} {ow bl : List Int} (hp : PrimeP p) : Elems p (valsOf p rows ow s bl j) := fun x hx => by
  obtain ⟨i, _, rfl⟩ := List.mem_map.1 hx
  exact elem_at (shares_in hp) hp.1 _
theorem vals_len {p s j : Int} {rows : List (List Int)} {ow bl : List Int} : (valsOf p rows ow s bl j).length = (rowsOf ow j).length := by simp [valsOf]
/-- The tags of values for the rows R, by the keys kk. -/
def tagAt (p : Int) (kk : List (List Int)) (R vals : List Int) (k : Nat) : Int := ((kk.getD (R.getD k 0).toNat []).getD 0 0 * vals.getD k 0 + (kk.getD (R.getD k 0).toNat []).getD 1 0) % p
def tagsOf (p : Int) (kk : List (List Int)) (R vals : List Int) : List Int := (List.range R.length).map (tagAt p kk R vals)
theorem range_map_succ {α : Type} (f : Nat → α) (n : Nat) : (List.range (n + 1)).map f = (List.range n).map f ++ [f n] := by rw [List.range_succ, List.map_append]; rfl
section
variable {S : Ids} {H0 : AH}
theorem values (h p c s : Int) (e j : Nat) {a1 c1 a2 c2 a3 c3} {a4 : Option Addr} {n4 c4 : Nat} {ow bl : List Int} {rows bs : List (List Int)} (hO : B_Int64S ow) (hB : B_Int64SS rows) (hk : OkSch h ow p c rows) (hs : 0 ≤ s ∧ s ≤ p - 1) (he : bs[e]? = some bl) (hbl : (bl.length : Int) = c - 1) (hbe : Elems p bl) (hj : j ≤ 6)
    (h1 : KI.Sl S H0 (.slice a1 ow.length c1) ow) (h2 : KI.sl.Sl S H0 (.slice a2 rows.length c2) rows) (h3 : KI.sl.Sl S H0 (.slice a3 bs.length c3) bs) :
    SpecM Try.prog S H0 146 [.agg #[.int .i64 h, .slice a1 ow.length c1, .int .i64 p, .int .i64 c, .slice a2 rows.length c2, .int .i64 s, .slice a3 bs.length c3, .slice a4 n4 c4], .int .i64 e, .int .i64 j] (MkL (valsOf p rows ow s bl j)) := by
  refine SpecM.of1 Try.func146 rfl (by kernel_rfl) rfl (fun H _ => ?_)
  have hrl := hk.mat.len
  have hol := hk.len
  have hel := (List.getElem?_eq_some_iff.1 he).1
  refine KW.getL h3.up rfl rfl rfl rfl rfl rfl rfl rfl rfl rfl rfl rfl rfl rfl rfl rfl (by omega) (by omega) (fun y a' m' hy hsy => ?_)
  have hy : bs[e]? = some y := hy
  rw [he] at hy
  cases hy
  refine KW.callN1 rfl rfl rfl rfl rfl (sharesOf h p c s hO hB hk hs hbl hbe h1.up h2.up hsy) (fun v HA SA mA _ _ hv => ?_)
  obtain ⟨v', rfl, a5, c5, rfl, hA⟩ := hv
  refine KW.lit rfl rfl rfl rfl rfl rfl rfl rfl rfl rfl [] rfl rfl (fun v hv => by simp at hv) rfl ?_
  refine KW.shlU rfl rfl rfl rfl rfl rfl j rfl (by omega) ?_
  have hp := small_pow (m := j) (by omega)
  refine KW.callN1 rfl rfl rfl rfl rfl (rowsHeld h p c (2 ^ j) (by omega) hO hk.own hk.h7 h1.up) (fun v HR SR mR _ _ hv => ?_)
  obtain ⟨a6, c6, rfl, hR⟩ := hv
  rw [rows_bit (fun x hx => (hk.own x hx).1)] at hR ⊢
  have hRl : (rowsOf ow j).length ≤ ow.length := rowsP_len _ _
  have hRm : ∀ x ∈ rowsOf ow j, 0 ≤ x ∧ x < ow.length := fun x hx => rowsP_mem hx
  have hval : valsOf p rows ow s bl j = (rowsOf ow j).map fun i => (shares p rows (s :: bl)).getD i.toNat 0 := rfl
  rw [hval]
  have hsl : (shares p rows (s :: bl)).length = rows.length := by simp [shares]
  obtain ⟨R, hRe⟩ : ∃ R, rowsOf ow j = R := ⟨_, rfl⟩
  rw [hRe] at hR hRl hRm ⊢
  obtain ⟨A, hAe⟩ : ∃ A, shares p rows (s :: bl) = A := ⟨_, rfl⟩
  rw [hAe] at hA hsl ⊢
  refine KW.lpM rfl rfl (fun q : Nat × Nat => [(7, .slice a5 A.length c5), (9, .slice (some ⟨q.2, 0, some 1⟩) ((R.take q.1).map fun i => A.getD i.toNat 0).length ((R.take q.1).map fun i => A.getD i.toNat 0).length), (30, .slice a6 R.length c6), (31, .int .i64 R.length), (32, .int .i64 q.1)]) (fun q => SR) (fun q => HR) (fun q => [_, (q.2, ⟨_, true, ((R.take q.1).map fun i => A.getD i.toNat 0).map (Value.int .i64)⟩)]) (fun q => q.1 ≤ R.length) (fun q => R.length - q.1) ((0, _)) (by simp) ⟨rfl, rfl, rfl, rfl, rfl, trivial⟩ rfl rfl rfl (fun q hi bE n => ?_)
  obtain ⟨q, o⟩ := q
  simp only at hi
  have hq : ((R.take q).map fun i => A.getD i.toNat 0).length ≤ q := by rw [List.length_map, List.length_take]; omega
  refine KW.cnd rfl rfl (fun k2 => ?_) (fun k2 => ?_)
  · refine KW.getI hR.ups rfl rfl rfl rfl rfl rfl rfl rfl rfl rfl rfl rfl rfl rfl rfl rfl (by omega) (k2) (fun x hx => ?_)
    have hx : R[q]? = some x := hx
    have hxm := hRm x (List.mem_of_getElem? hx)
    refine KW.getI hA.ups rfl rfl rfl rfl rfl rfl rfl rfl rfl rfl rfl rfl rfl rfl rfl rfl (by omega) (by omega) (fun y hy => ?_)
    have hy : A.getD x.toNat 0 = y := getD_of hy
    have e1 := map_take_succ (fun i : Int => A.getD i.toNat 0) hx
    rw [hy] at e1
    refine KW.app1 (xs := ((R.take q).map fun i => A.getD i.toNat 0).map (Value.int .i64)) (v := .int .i64 y) 1 2 rfl rfl rfl rfl rfl rfl rfl rfl rfl rfl rfl rfl rfl rfl rfl rfl rfl rfl rfl rfl rfl rfl rfl (by simp) (by show (_ + 1) * 8 ≤ _; first | omega | (simp only; omega)) (by first | omega | (simp only; omega)) ?_
    refine KW.nxt rfl rfl (fun H' g => ⟨(q + 1, _), by simp only; omega, by first | omega | (simp only; omega), ⟨rfl, by simp only [e1, List.length_append, List.length_singleton]; rfl, rfl, rfl, congrArg (Value.int .i64) (inc64 (by omega)), trivial⟩, g.eqT (by simp only [e1, List.map_append]; rfl)⟩)
  · obtain rfl : q = R.length := by simp only at k2; omega
    rw [List.take_of_length_le (Nat.le_refl _)]
    refine KW.retM1 rfl rfl rfl rfl (fun H1 g => MkL.of g (j := 1) rfl (g.ge (H1 := H) (j := 1) rfl))
theorem tag_val {p k0 k1 v : Int} (hp : PrimeP p) (h0 : 0 ≤ k0 ∧ k0 ≤ p - 1) (h1 : 0 ≤ k1 ∧ k1 ≤ p - 1) (hv : 0 ≤ v ∧ v ≤ p - 1) : IntKind.i64.wrap (IntKind.i64.wrap (k0 * v) + k1) = k0 * v + k1 ∧ 0 ≤ k0 * v + k1 := by
  have h2 := mul_small hp.2.1 h0 hv
  have h3 := hp.2.1
  rw [wr (x := k0 * v) (by omega) (by omega), wr (by omega) (by omega)]
  exact ⟨rfl, by omega⟩
theorem tags (h p c s : Int) (e j : Nat) {a1 c1 a2 c2 a4 c4 a5 c5} {a3 : Option Addr} {n3 c3 : Nat} {ow vals : List Int} {rows kk : List (List Int)} {ks : List (List (List Int))} (hO : B_Int64S ow) (hBk : B_Int64SSS ks) (hk : OkSch h ow p c rows) (he : ks[e]? = some kk) (hkk : KeysOk p rows.length kk) (hj : j ≤ 6) (hvl : vals.length = (rowsOf ow j).length) (hve : Elems p vals)
    (h1 : KI.Sl S H0 (.slice a1 ow.length c1) ow) (h4 : KI.sl.sl.Sl S H0 (.slice a4 ks.length c4) ks) (h5 : KI.Sl S H0 (.slice a5 vals.length c5) vals) :
    SpecM Try.prog S H0 147 [.agg #[.int .i64 h, .slice a1 ow.length c1, .int .i64 p, .int .i64 c, .slice a2 rows.length c2, .int .i64 s, .slice a3 n3 c3, .slice a4 ks.length c4], .int .i64 e, .int .i64 j, .slice a5 vals.length c5] (MkL (tagsOf p kk (rowsOf ow j) vals)) := by
  refine SpecM.of1 Try.func147 rfl (by kernel_rfl) rfl (fun H _ => ?_)
  have hrl := hk.mat.len
  have hol := hk.len
  have hel := (List.getElem?_eq_some_iff.1 he).1
  have hpr := hk.mat.pr
  refine KW.lit rfl rfl rfl rfl rfl rfl rfl rfl rfl rfl [] rfl rfl (fun v hv => by simp at hv) rfl ?_
  refine KW.shlU rfl rfl rfl rfl rfl rfl j rfl (by omega) ?_
  have hp := small_pow (m := j) (by omega)
  refine KW.callN1 rfl rfl rfl rfl rfl (rowsHeld h p c (2 ^ j) (by omega) hO hk.own hk.h7 h1.up) (fun v HR SR mR _ _ hv => ?_)
  obtain ⟨a6, c6, rfl, hR⟩ := hv
  rw [rows_bit (fun x hx => (hk.own x hx).1)] at hR ⊢
  have hRl : (rowsOf ow j).length ≤ ow.length := rowsP_len _ _
  have hRm : ∀ x ∈ rowsOf ow j, 0 ≤ x ∧ x < ow.length := fun x hx => rowsP_mem hx
  obtain ⟨R, hRe⟩ : ∃ R, rowsOf ow j = R := ⟨_, rfl⟩
  rw [hRe] at hR hRl hRm hvl ⊢
  refine KW.lpM rfl rfl (fun q : Nat × Nat => [(1, .int .i64 e), (3, .slice a5 vals.length c5), (4, .pointer (some ⟨H.n, 0, some 0⟩)), (9, .slice (some ⟨q.2, 0, some 1⟩) ((List.range q.1).map (tagAt p kk R vals)).length ((List.range q.1).map (tagAt p kk R vals)).length), (18, .slice a6 R.length c6), (19, .int .i64 R.length), (20, .int .i64 q.1)]) (fun q => SR) (fun q => HR) (fun q => [(H.n, ⟨71, true, [.int .i64 h, .slice a1 ow.length c1, .int .i64 p, .int .i64 c, .slice a2 rows.length c2, .int .i64 s, .slice a3 n3 c3, .slice a4 ks.length c4]⟩), (q.2, ⟨_, true, ((List.range q.1).map (tagAt p kk R vals)).map (Value.int .i64)⟩)]) (fun q => q.1 ≤ R.length) (fun q => R.length - q.1) ((0, _)) (by simp) ⟨rfl, rfl, rfl, rfl, rfl, rfl, rfl, trivial⟩ rfl rfl rfl (fun q hi bE n => ?_)
  obtain ⟨q, o⟩ := q
  simp only at hi
  have hq : ((List.range q).map (tagAt p kk R vals)).length ≤ q := by simp
  refine KW.cnd rfl rfl (fun k2 => ?_) (fun k2 => ?_)
  · refine KW.getI hR.ups rfl rfl rfl rfl rfl rfl rfl rfl rfl rfl rfl rfl rfl rfl rfl rfl (by omega) (k2) (fun x hx => ?_)
    have hx : R[q]? = some x := hx
    have hxm := hRm x (List.mem_of_getElem? hx)
    refine KW.getL h4.up rfl rfl rfl rfl rfl rfl rfl rfl rfl rfl rfl rfl rfl rfl rfl rfl (by omega) (by omega) (fun kk' b1 d1 hk1 hs1 => ?_)
    have hk1 : ks[e]? = some kk' := hk1
    rw [he] at hk1
    cases hk1
    have hkl := hkk.1
    refine KW.getL hs1 rfl rfl rfl rfl rfl rfl rfl rfl rfl rfl rfl rfl rfl rfl rfl rfl (by omega) (by omega) (fun ky b2 d2 hk2 hs2 => ?_)
    have hk2 : kk[x.toNat]? = some ky := hk2
    have hky := hkk.2 ky (List.mem_of_getElem? hk2)
    have hkyl := hky.1
    refine KW.getI hs2 rfl rfl rfl rfl rfl rfl rfl rfl rfl rfl rfl rfl rfl rfl rfl rfl (by omega) (by omega) (fun k0 hk0 => ?_)
    refine KW.getI h5.up rfl rfl rfl rfl rfl rfl rfl rfl rfl rfl rfl rfl rfl rfl rfl rfl (by omega) (by omega) (fun v hv => ?_)
    refine KW.getI hs2 rfl rfl rfl rfl rfl rfl rfl rfl rfl rfl rfl rfl rfl rfl rfl rfl (by omega) (by omega) (fun k1 hk1' => ?_)
    have ek0 : ky.getD 0 0 = k0 := getD_of hk0
    have ek1 : ky.getD 1 0 = k1 := getD_of hk1'
    have ev : vals.getD q 0 = v := getD_of hv
    have eR : R.getD q 0 = x := getD_of hx
    have ekk : kk.getD x.toNat [] = ky := by rw [List.getD_eq_getElem?_getD, hk2]; rfl
    have et : tagAt p kk R vals q = (k0 * v + k1) % p := by unfold tagAt; rw [eR, ekk, ek0, ek1, ev]
    obtain ⟨ew, e0⟩ := tag_val hpr (ek0 ▸ elem_at hky.2 hpr.1 0) (ek1 ▸ elem_at hky.2 hpr.1 1) (ev ▸ elem_at hve hpr.1 q)
    refine KW.rem rfl rfl rfl rfl rfl rfl (by rw [ew]; exact e0) (by have := hpr.1; omega) ?_
    rw [ew, ← et]
    have e1 := range_map_succ (tagAt p kk R vals) q
    refine KW.app1 (xs := ((List.range q).map (tagAt p kk R vals)).map (Value.int .i64)) (v := .int .i64 (tagAt p kk R vals q)) 1 2 rfl rfl rfl rfl rfl rfl rfl rfl rfl rfl rfl rfl rfl rfl rfl rfl rfl rfl rfl rfl rfl rfl rfl (by simp) (by show (_ + 1) * 8 ≤ _; first | omega | (simp only; omega)) (by first | omega | (simp only; omega)) ?_
    refine KW.nxt rfl rfl (fun H' g => ⟨(q + 1, _), by simp only; omega, by first | omega | (simp only; omega), ⟨rfl, rfl, rfl, by simp only [e1, List.length_append, List.length_singleton]; rfl, rfl, rfl, congrArg (Value.int .i64) (inc64 (by omega)), trivial⟩, g.eqT (by simp only [e1, List.map_append]; rfl)⟩)
  · obtain rfl : q = R.length := by simp only at k2; omega
    refine KW.retM1 rfl rfl rfl rfl (fun H1 g => MkL.of g (j := 1) rfl (g.ge (H1 := H) (j := 1) rfl))
end
end Go.Proofs.Ytmkpfllbmdahkaa.Am
/- Contracts: values, tags and lies of a deal, of the program and of the reference. Each holds under its own conditions. -/
set_option linter.unusedVariables false
set_option maxRecDepth 20000
namespace Go.Proofs.Ytmkpfllbmdahkaa.Am
open Go Go.RowKit Go.Proofs
/-- The code of a deal, an epoch and a holder. -/
noncomputable def codeD (x : T_Deal) (e j : Int) : Int := if tv (DealOk x) = true then (if (0 ≤ e ∧ e ≤ (x.2.2.1.length : Int) - 1) ∧ (0 ≤ j ∧ j ≤ x.1.1 - 1) then 0 else 2) else 1
abbrev blD (x : T_Deal) (e : Int) : List Int := x.2.2.1.getD e.toNat []
abbrev kkD (x : T_Deal) (e : Int) : List (List Int) := x.2.2.2.getD e.toNat []
/-- A deal at an epoch and a holder. -/
structure DealAt (x : T_Deal) (e j : Int) (E J : Nat) : Prop where
  ee : e = E
  jj : j = J
  j6 : J ≤ 6
  sch : OkSch x.1.1 x.1.2.1 x.1.2.2.1 x.1.2.2.2.1 x.1.2.2.2.2
  sec : 0 ≤ x.2.1 ∧ x.2.1 ≤ x.1.2.2.1 - 1
  hb : x.2.2.1[E]? = some (blD x e)
  hk : x.2.2.2[E]? = some (kkD x e)
  bl : ((blD x e).length : Int) = x.1.2.2.2.1 - 1 ∧ Elems x.1.2.2.1 (blD x e)
  key : KeysOk x.1.2.2.1 x.1.2.2.2.2.length (kkD x e)
theorem codeD_ok {x : T_Deal} {e j : Int} (h : codeD x e j = 0) : ∃ E J, DealAt x e j E J := by
  unfold codeD at h
  split at h
  · rename_i hd
    have hd : DealOk x := tv_iff.1 hd
    split at h
    · rename_i hr
      have hbl := hd.bl
      have hkl := hd.kl
      have h7 := hd.sch.h7
      have h1 : x.2.2.1[e.toNat]? = some (blD x e) := by
        show _ = some (x.2.2.1.getD e.toNat [])
        rw [List.getD_eq_getElem?_getD, List.getElem?_eq_getElem (by omega)]; rfl
      have h2 : x.2.2.2[e.toNat]? = some (kkD x e) := by
        show _ = some (x.2.2.2.getD e.toNat [])
        rw [List.getD_eq_getElem?_getD, List.getElem?_eq_getElem (by omega)]; rfl
      have h3 := hd.bk _ _ _ h1 h2
      exact ⟨e.toNat, j.toNat, by omega, by omega, by omega, hd.sch, hd.sec, h1, h2, h3.1, h3.2⟩
    · cases h
  · cases h
def valsD (x : T_Deal) (e j : Int) : List Int := valsOf x.1.2.2.1 x.1.2.2.2.2 x.1.2.1 x.2.1 (blD x e) j
def tagsD (x : T_Deal) (e j : Int) (vals : List Int) : List Int := tagsOf x.1.2.2.1 (kkD x e) (rowsOf x.1.2.1 j) vals
def lieOf (p : Int) (vals : List Int) (lie : Int) : List Int := match vals with
  | [] => []
  | v :: vs => ((v + lie) % p) :: vs
theorem lie_len {p : Int} {vals : List Int} {lie : Int} : (lieOf p vals lie).length = vals.length := by cases vals <;> rfl
theorem lie_in {p : Int} {vals : List Int} {lie : Int} (hp : PrimeP p) (h : Elems p vals) : Elems p (lieOf p vals lie) := fun x hx => by
  cases vals with
  | nil => exact h x hx
  | cons v vs =>
    rcases List.mem_cons.1 hx with rfl | hx
    · have h1 := hp.1
      have := Int.emod_nonneg (v + lie) (show p ≠ 0 by omega)
      have := Int.emod_lt_of_pos (v + lie) (show 0 < p by omega)
      omega
    · exact h x (List.mem_cons_of_mem _ hx)
section
variable {S : Ids} {H0 : AH}
theorem dealCode (x : T_Deal) (e j : Int) {cs : List Value} (hB : B_Deal x) (h : K_Deal.R S H0 x cs) : Spec Try.prog S H0 145 [.agg cs.toArray, .int .i64 e, .int .i64 j] (fun v => v = .int .i64 (codeD x e j)) := by
  obtain ⟨a1, c1, a2, c2, a3, c3, a4, c4, rfl, h1, h2, h3, h4⟩ := split2_Deal h
  refine Spec.of1 Try.func145 rfl (by kernel_rfl) rfl (fun H _ => ?_)
  have hbl := hB.2.2.1.len
  refine KW.callE rfl rfl rfl rfl rfl (impl_ValidDeal hB (On.R h)) (fun _ _ => ?_)
  by_cases hd : DealOk x
  · rw [tv_true hd]
    refine KW.cF rfl rfl (by first | (simp; done) | decide) ?_
    have h7 := hd.sch.h7
    have h1 := hd.sch.h1
    refine KW.callE rfl rfl rfl rfl rfl (within _ _ _) (fun _ _ => ?_)
    rw [wr (x := (x.2.2.1.length : Int) - 1) (by omega) (by omega)]
    refine KW.tstB rfl rfl (fun k1 => ?_) (fun k1 => ?_)
    · refine KW.cT rfl rfl (by first | (simp; done) | decide) ?_
      exact KW.ret rfl rfl rfl rfl (by unfold codeD; rw [if_pos (tv_true hd), if_neg (fun hc => by simp at k1; omega)]; rfl)
    have k1 : 0 ≤ e ∧ e ≤ (x.2.2.1.length : Int) - 1 := by simpa using k1
    refine KW.callE rfl rfl rfl rfl rfl (within _ _ _) (fun _ _ => ?_)
    rw [wr (x := x.1.1 - 1) (by omega) (by omega)]
    refine KW.cndB rfl rfl (fun k2 => ?_) (fun k2 => ?_)
    · exact KW.ret rfl rfl rfl rfl (by unfold codeD; rw [if_pos (tv_true hd), if_neg (fun hc => by simp at k2; omega)]; rfl)
    have k2 : 0 ≤ j ∧ j ≤ x.1.1 - 1 := by simpa using k2
    exact KW.ret rfl rfl rfl rfl (by unfold codeD; rw [if_pos (tv_true hd), if_pos ⟨k1, k2⟩]; rfl)
  · rw [tv_false hd]
    refine KW.cT rfl rfl (by first | (simp; done) | decide) ?_
    exact KW.ret rfl rfl rfl rfl (by unfold codeD; rw [if_neg (by rw [tv_false hd]; decide)]; rfl)
theorem valuesD (x : T_Deal) (e j : Int) {E J : Nat} (hd : DealAt x e j E J) {cs : List Value} (hB : B_Deal x) (h : K_Deal.R S H0 x cs) : SpecM Try.prog S H0 146 [.agg cs.toArray, .int .i64 e, .int .i64 j] (MkL (valsD x e j)) := by
  obtain ⟨a1, c1, a2, c2, a3, c3, a4, c4, rfl, h1, h2, h3, h4⟩ := split2_Deal h
  have := values x.1.1 x.1.2.2.1 x.1.2.2.2.1 x.2.1 E J (c2 := c2) (a4 := a4) (n4 := x.2.2.2.length) (c4 := c4) hB.1.2.1 hB.1.2.2.2.2 hd.sch hd.sec hd.hb hd.bl.1 hd.bl.2 hd.j6 h1 h2 h3
  rw [hd.ee, hd.jj]
  rw [hd.ee] at this
  exact this
theorem tagsDD (x : T_Deal) (e j : Int) {E J : Nat} (hd : DealAt x e j E J) {cs : List Value} (hB : B_Deal x) (h : K_Deal.R S H0 x cs) {vals : List Int} {a c} (hl : vals.length = (rowsOf x.1.2.1 j).length) (he : Elems x.1.2.2.1 vals) (hs : KI.Sl S H0 (.slice a vals.length c) vals) : SpecM Try.prog S H0 147 [.agg cs.toArray, .int .i64 e, .int .i64 j, .slice a vals.length c] (MkL (tagsD x e j vals)) := by
  obtain ⟨a1, c1, a2, c2, a3, c3, a4, c4, rfl, h1, h2, h3, h4⟩ := split2_Deal h
  have := tags x.1.1 x.1.2.2.1 x.1.2.2.2.1 x.2.1 E J (a2 := a2) (c2 := c2) (a3 := a3) (n3 := x.2.2.1.length) (c3 := c3) hB.1.2.1 hB.2.2.2 hd.sch hd.hk hd.key hd.j6 (by rw [← hd.jj]; exact hl) he h1 h4 hs
  unfold tagsD
  rw [hd.ee, hd.jj]
  rw [hd.ee] at this
  exact this
/-- A list and a code. -/
def MkLC (xs : List Int) (code : Int) (n : Nat) (v : Value) (H1 : AH) : Prop := ∃ a c, v = .tuple #[.slice a xs.length c, .int .i64 code] ∧ M_Int64S.R (New n H1.n) H1 xs [.slice a xs.length c]
theorem MkLC.nil {code : Int} {n : Nat} {H1 : AH} {v : Value} (hv : v = .tuple #[.slice none 0 0, .int .i64 code]) : MkLC [] code n v H1 := ⟨none, 0, hv, ml1' (.inl ⟨rfl, _, _, rfl, fun _ => rfl⟩)⟩
theorem MkLC.nil' {code : Int} {n id : Nat} {H1 : AH} {v : Value} (hv : v = .tuple #[.slice (some ⟨id, 0, some 1⟩) 0 0, .int .i64 code]) : MkLC [] code n v H1 := ⟨_, 0, hv, ml1' (.inl ⟨rfl, _, _, rfl, fun h => by cases h⟩)⟩
/-- What a callee has made is handed on. -/
theorem Good.made {S0 : Ids} {H0 H1 H2 : AH} {T : List Var} {n lo m : Nat} {xs : List Int} {a : Option Addr} {c : Nat} (g : Good S0 H0 T n H2) [o : On (New m H1.n) H1 S0 H0] (hm : lo ≤ m) (h : KI.Ml (New m H1.n) H1 (.slice a xs.length c) xs) : KI.Ml (New lo H2.n) H2 (.slice a xs.length c) xs :=
  Kn.Ml.st h (g.out (fun id hid => by have := hid.1; omega)).st
noncomputable def r1_DealValues (x : T_Deal) (e j : Int) : Int := codeD x e j
noncomputable def r1_DealTags (x : T_Deal) (e j : Int) : Int := codeD x e j
noncomputable def r0_DealValues (x : T_Deal) (e j : Int) : List Int := if codeD x e j = 0 then valsD x e j else []
theorem impl_DealValues {x : T_Deal} (e j : Int) (he : I64 e) (hj : I64 j) {cs : List Value} (hB : B_Deal x) (h : K_Deal.R S H0 x cs) : SpecM Try.prog S H0 51 [.agg cs.toArray, .int .i64 e, .int .i64 j] (MkLC (r0_DealValues x e j) (codeD x e j)) := by
  obtain ⟨a1, c1, a2, c2, a3, c3, a4, c4, rfl, h1, h2, h3, h4⟩ := split2_Deal h
  refine SpecM.of1 Try.func51 rfl (by kernel_rfl) rfl (fun H _ => ?_)
  refine KW.callE rfl rfl rfl rfl rfl (dealCode x e j hB (On.R h)) (fun _ _ => ?_)
  unfold r0_DealValues
  by_cases hc : codeD x e j = 0
  · obtain ⟨E, J, hd⟩ := codeD_ok hc
    rw [if_pos hc, hc]
    refine KW.cF rfl rfl (by first | (simp; done) | decide) ?_
    refine KW.callN1 rfl rfl rfl rfl rfl (valuesD x e j hd hB (On.R h)) (fun v HA SA mA _ _ hv => ?_)
    obtain ⟨a5, c5, rfl, hA⟩ := hv
    refine KW.retM1 rfl rfl rfl rfl (fun H1 g => ⟨_, _, rfl, ml1' (g.made (by omega) hA)⟩)
  · rw [if_neg hc]
    refine KW.cndB rfl rfl (fun k1 => ?_) (fun k1 => ?_)
    · refine KW.retM1 rfl rfl rfl rfl (fun H1 g => MkLC.nil rfl)
    · exact absurd (by simpa using k1) hc
noncomputable def r0_DealTags (x : T_Deal) (e j : Int) : List Int := if codeD x e j = 0 then tagsD x e j (valsD x e j) else []
theorem impl_DealTags {x : T_Deal} (e j : Int) (he : I64 e) (hj : I64 j) {cs : List Value} (hB : B_Deal x) (h : K_Deal.R S H0 x cs) : SpecM Try.prog S H0 52 [.agg cs.toArray, .int .i64 e, .int .i64 j] (MkLC (r0_DealTags x e j) (codeD x e j)) := by
  obtain ⟨a1, c1, a2, c2, a3, c3, a4, c4, rfl, h1, h2, h3, h4⟩ := split2_Deal h
  refine SpecM.of1 Try.func52 rfl (by kernel_rfl) rfl (fun H _ => ?_)
  refine KW.callE rfl rfl rfl rfl rfl (dealCode x e j hB (On.R h)) (fun _ _ => ?_)
  unfold r0_DealTags
  by_cases hc : codeD x e j = 0
  · obtain ⟨E, J, hd⟩ := codeD_ok hc
    rw [if_pos hc, hc]
    refine KW.cF rfl rfl (by first | (simp; done) | decide) ?_
    refine KW.fact (fun _ g => g.nle (H1 := H)) (fun hn0 => ?_)
    refine KW.callN1 rfl rfl rfl rfl rfl (valuesD x e j hd hB (On.R h)) (fun v HA SA mA _ _ hv => ?_)
    obtain ⟨a5, c5, rfl, hA⟩ := hv
    refine KW.callN1 rfl rfl rfl rfl rfl (tagsDD x e j hd hB (On.R h) vals_len (vals_in hd.sch.mat.pr) hA.ups) (fun v HC SC mC _ _ hv => ?_)
    obtain ⟨a6, c6, rfl, hC⟩ := hv
    refine KW.retM1 rfl rfl rfl rfl (fun H1 g => ⟨_, _, rfl, ml1' (g.made (by omega) hC)⟩)
  · rw [if_neg hc]
    refine KW.cndB rfl rfl (fun k1 => ?_) (fun k1 => ?_)
    · refine KW.retM1 rfl rfl rfl rfl (fun H1 g => MkLC.nil rfl)
    · exact absurd (by simpa using k1) hc
theorem bound_DealValues {x : T_Deal} (e j : Int) (he : I64 e) (hj : I64 j) (hB : B_Deal x) : B_Int64S (r0_DealValues x e j) := by
  unfold r0_DealValues
  split
  · rename_i hc
    obtain ⟨E, J, hd⟩ := codeD_ok hc
    show (valsD x e j).length ≤ 1048576
    have h1 : (valsD x e j).length = (rowsOf x.1.2.1 j).length := vals_len
    have h2 : (rowsOf x.1.2.1 j).length ≤ x.1.2.1.length := rowsP_len _ _
    have h3 : x.1.2.1.length ≤ 1048576 := hB.1.2.1
    omega
  · show 0 ≤ _; omega
theorem bound_DealTags {x : T_Deal} (e j : Int) (he : I64 e) (hj : I64 j) (hB : B_Deal x) : B_Int64S (r0_DealTags x e j) := by
  unfold r0_DealTags
  split
  · show (tagsD x e j _).length ≤ 1048576
    have h1 : (tagsD x e j (valsD x e j)).length = (rowsOf x.1.2.1 j).length := by simp [tagsD, tagsOf]
    have h2 : (rowsOf x.1.2.1 j).length ≤ x.1.2.1.length := rowsP_len _ _
    have h3 : x.1.2.1.length ≤ 1048576 := hB.1.2.1
    omega
  · show 0 ≤ _; omega
end
end Go.Proofs.Ytmkpfllbmdahkaa.Am
/- Contracts: copies and equality of rows; lies. Each holds under its own conditions. -/
set_option linter.unusedVariables false
set_option linter.unusedSimpArgs false
set_option maxRecDepth 20000
namespace Go.Proofs.Ytmkpfllbmdahkaa.Am
open Go Go.RowKit Go.Proofs
section
variable {S : Ids} {H0 : AH}
theorem l00Own {a c} {xs : List Int} (hl : xs.length ≤ 1048576) (hs : KI.Sl S H0 (.slice a xs.length c) xs) : SpecM Try.prog S H0 125 [.slice a xs.length c] (MkL xs) := by
  refine SpecM.of1 Try.func125 rfl (by kernel_rfl) rfl (fun H _ => ?_)
  refine KW.lit rfl rfl rfl rfl rfl rfl rfl rfl rfl rfl [] rfl rfl (fun v hv => by simp at hv) rfl ?_
  refine KW.appV 0 rfl rfl rfl rfl rfl rfl rfl rfl rfl rfl (fun H1 g => acells_I hs.up g) (by simp) (by simp) (fun v hv => by obtain ⟨_, _, rfl⟩ := List.mem_map.1 hv; rfl) (by show (_ + _) * 8 ≤ _; simp only [List.length_cons, List.length_nil]; omega) (by simp only [List.length_cons, List.length_nil]; omega) (show 0 + xs.length = xs.length from by omega) (fun oa _ _ => ?_)
  refine KW.retM1 rfl rfl rfl rfl (fun H1 g => MkL.of g (j := 0) rfl (g.ge (H1 := H) (j := 0) rfl))
theorem cloneI {a c} {xs : List Int} (hl : xs.length ≤ 1048576) (hs : KI.Sl S H0 (.slice a xs.length c) xs) : SpecM Try.prog S H0 119 [.slice a xs.length c] (MkL xs) := by
  refine SpecM.of1 Try.func119 rfl (by kernel_rfl) rfl (fun H _ => ?_)
  refine KW.cndB rfl rfl (fun h => ?_) (fun h => ?_)
  · have ha : a = none := by cases a with
      | none => rfl
      | some a => simp at h
    have hx : xs = [] := by
      rcases hs with ⟨hx, _⟩ | ⟨id, k, c1, b, h1, _⟩
      · exact hx
      · rw [ha] at h1; cases h1
    subst hx
    refine KW.retM1 rfl rfl rfl rfl (fun H1 g => ⟨none, 0, rfl, .inl ⟨rfl, _, _, rfl, fun _ => rfl⟩⟩)
  · refine KW.lit rfl rfl rfl rfl rfl rfl rfl rfl rfl rfl [] rfl rfl (fun v hv => by simp at hv) rfl ?_
    refine KW.appV 0 rfl rfl rfl rfl rfl rfl rfl rfl rfl rfl (fun H1 g => acells_I hs.up g) (by simp) (by simp) (fun v hv => by obtain ⟨_, _, rfl⟩ := List.mem_map.1 hv; rfl) (by show (_ + _) * 8 ≤ _; simp only [List.length_cons, List.length_nil]; omega) (by simp only [List.length_cons, List.length_nil]; omega) (show 0 + xs.length = xs.length from by omega) (fun oa _ _ => ?_)
    refine KW.retM1 rfl rfl rfl rfl (fun H1 g => MkL.of g (j := 0) rfl (g.ge (H1 := H) (j := 0) rfl))
theorem equalI {a c a' c'} {xs ys : List Int} (hl : xs.length ≤ 1048576) (hs : KI.Sl S H0 (.slice a xs.length c) xs) (hs' : KI.Sl S H0 (.slice a' ys.length c') ys) : Spec Try.prog S H0 126 [.slice a xs.length c, .slice a' ys.length c'] (fun v => v = .bool (tv (xs = ys))) := by
  refine Spec.of1 Try.func126 rfl (by kernel_rfl) rfl (fun H _ => ?_)
  refine KW.cndB rfl rfl (fun h => ?_) (fun h => ?_)
  · exact KW.ret rfl rfl rfl rfl (by rw [tv_false (fun hc => by rw [hc] at h; simp at h)]; rfl)
  have h : xs.length = ys.length := by simp at h; omega
  refine KW.lp rfl rfl (fun i : Nat => [(0, .slice a xs.length c), (1, .slice a' ys.length c'), (12, .int .i64 xs.length), (13, .int .i64 i)]) (fun i => i ≤ xs.length ∧ ∀ j, j < i → xs[j]? = ys[j]?) (fun i => xs.length - i) (0) (⟨by omega, fun j h => absurd h (by omega)⟩) ⟨rfl, rfl, rfl, rfl, trivial⟩ (fun i hi bE n => ?_)
  obtain ⟨hi, hj⟩ := hi
  refine KW.cnd rfl rfl (fun h2 => ?_) (fun h2 => ?_)
  · refine KW.getI hs.up rfl rfl rfl rfl rfl rfl rfl rfl rfl rfl rfl rfl rfl rfl rfl rfl (by omega) (h2) (fun x hx => ?_)
    refine KW.getI hs'.up rfl rfl rfl rfl rfl rfl rfl rfl rfl rfl rfl rfl rfl rfl rfl rfl (by omega) (by omega) (fun y hy => ?_)
    have hx : xs[i]? = some x := hx
    have hy : ys[i]? = some y := hy
    refine KW.cndB rfl rfl (fun h3 => ?_) (fun h3 => ?_)
    · exact KW.ret rfl rfl rfl rfl (by rw [tv_false (fun hc => by subst hc; rw [hx] at hy; cases hy; simp at h3)]; rfl)
    have h3 : x = y := by simpa using h3
    refine KW.nxt rfl rfl (fun H' g => ⟨i + 1, ⟨by omega, upto hj (by rw [hx, hy, h3])⟩, by first | omega | (simp only; omega), ⟨rfl, rfl, rfl, congrArg (Value.int .i64) (inc64 (by omega)), trivial⟩, g⟩)
  · have : xs = ys := List.ext_getElem? fun j => by
      rcases Nat.lt_or_ge j i with h | h
      · exact hj j h
      · rw [List.getElem?_eq_none (by omega), List.getElem?_eq_none (by omega)]
    exact KW.ret rfl rfl rfl rfl (by rw [tv_true this]; rfl)
theorem l00Same {a c a' c'} {xs ys : List Int} (hl : xs.length ≤ 1048576) (hs : KI.Sl S H0 (.slice a xs.length c) xs) (hs' : KI.Sl S H0 (.slice a' ys.length c') ys) : Spec Try.prog S H0 122 [.slice a xs.length c, .slice a' ys.length c'] (fun v => v = .bool (tv (xs = ys))) := by
  refine Spec.of1 Try.func122 rfl (by kernel_rfl) rfl (fun H _ => ?_)
  refine KW.cndB rfl rfl (fun h => ?_) (fun h => ?_)
  · exact KW.ret rfl rfl rfl rfl (by rw [tv_false (fun hc => by rw [hc] at h; simp at h)]; rfl)
  have h : xs.length = ys.length := by simp at h; omega
  refine KW.lp rfl rfl (fun i : Nat => [(0, .slice a xs.length c), (1, .slice a' ys.length c'), (5, .int .i64 i)]) (fun i => i ≤ xs.length ∧ ∀ j, j < i → xs[j]? = ys[j]?) (fun i => xs.length - i) (0) (⟨by omega, fun j h => absurd h (by omega)⟩) ⟨rfl, rfl, rfl, trivial⟩ (fun i hi bE n => ?_)
  obtain ⟨hi, hj⟩ := hi
  refine KW.cnd rfl rfl (fun h2 => ?_) (fun h2 => ?_)
  · refine KW.getI hs.up rfl rfl rfl rfl rfl rfl rfl rfl rfl rfl rfl rfl rfl rfl rfl rfl (by omega) (h2) (fun x hx => ?_)
    refine KW.getI hs'.up rfl rfl rfl rfl rfl rfl rfl rfl rfl rfl rfl rfl rfl rfl rfl rfl (by omega) (by omega) (fun y hy => ?_)
    have hx : xs[i]? = some x := hx
    have hy : ys[i]? = some y := hy
    refine KW.cndB rfl rfl (fun h3 => ?_) (fun h3 => ?_)
    · exact KW.ret rfl rfl rfl rfl (by rw [tv_false (fun hc => by subst hc; rw [hx] at hy; cases hy; simp at h3)]; rfl)
    have h3 : x = y := by simpa using h3
    refine KW.nxt rfl rfl (fun H' g => ⟨i + 1, ⟨by omega, upto hj (by rw [hx, hy, h3])⟩, by first | omega | (simp only; omega), ⟨rfl, rfl, congrArg (Value.int .i64) (inc64 (by omega)), trivial⟩, g⟩)
  · have : xs = ys := List.ext_getElem? fun j => by
      rcases Nat.lt_or_ge j i with h | h
      · exact hj j h
      · rw [List.getElem?_eq_none (by omega), List.getElem?_eq_none (by omega)]
    exact KW.ret rfl rfl rfl rfl (by rw [tv_true this]; rfl)
theorem lie_at {p : Int} {vals : List Int} {lie : Int} {i : Nat} {x : Int} (hi : (lieOf p vals lie)[i]? = some x) : (i = 0 ∧ x = (vals.getD 0 0 + lie) % p) ∨ (0 < i ∧ vals[i]? = some x) := by
  cases vals with
  | nil => simp [lieOf] at hi
  | cons v vs =>
    cases i with
    | zero => exact .inl ⟨rfl, by simpa [lieOf] using hi.symm⟩
    | succ i => exact .inr ⟨by omega, by simpa [lieOf] using hi⟩
theorem lied (h p c s : Int) (hp : PrimeP p) (lie : Int) (hlie : 0 ≤ lie ∧ lie ≤ p) {a1 c1 a2 c2 a3 c3 a4 c4 a5 c5} {n1 n2 n3 n4 : Nat} {vals : List Int} (hl : vals.length ≤ 1048576) (hv : Elems p vals) (hs : KI.Sl S H0 (.slice a5 vals.length c5) vals) :
    SpecM Try.prog S H0 148 [.agg #[.int .i64 h, .slice a1 n1 c1, .int .i64 p, .int .i64 c, .slice a2 n2 c2, .int .i64 s, .slice a3 n3 c3, .slice a4 n4 c4], .slice a5 vals.length c5, .int .i64 lie] (MkL (lieOf p vals lie)) := by
  refine SpecM.of1 Try.func148 rfl (by kernel_rfl) rfl (fun H _ => ?_)
  refine KW.fact (fun _ g => g.nle (H1 := H)) (fun hn0 => ?_)
  refine KW.callN1 rfl rfl rfl rfl rfl (cloneI hl hs.up) (fun v HA SA mA _ _ hv => ?_)
  obtain ⟨a6, c6, rfl, hA⟩ := hv
  refine KW.cnd rfl rfl (fun k1 => ?_) (fun k1 => ?_)
  · have k1 : 0 < vals.length := by have : (0 : Int) < vals.length := k1; omega
    obtain ⟨o, c7, b, e1, e2, e3, e4, e5, e6, e7⟩ := hA.ints (fun hx => by rw [hx] at k1; simp at k1)
    cases e1
    obtain ⟨ty, rw, cells⟩ := b
    obtain rfl : rw = true := e5
    obtain ⟨v0, hv0⟩ : ∃ v, vals[0]? = some v := ⟨vals[0], List.getElem?_eq_getElem k1⟩
    have hvd : vals.getD 0 0 = v0 := getD_of hv0
    have hvb := hv v0 (List.mem_of_getElem? hv0)
    have hp2 := hp.1
    have hp31 := hp.2.1
    have oS := (inferInstance : On (New _ HA.n) HA SA HA).st o e3
    refine KW.thaw o ⟨ty, true, cells⟩ oS.1 e4 ?_
    haveI : On (Low H.n) H (fun id => SA id ∧ id ≠ o) HA := On.thaw (fun id hid => by have : id < H.n := hid; have := e3.1; omega)
    refine KW.idx0 rfl rfl rfl rfl rfl rfl rfl rfl rfl (by omega) (by omega) ?_
    refine KW.ldT 1 rfl rfl rfl rfl rfl rfl (bload_at (e7 0 v0 hv0) rfl rfl) ?_
    refine KW.rem rfl rfl rfl rfl rfl rfl (by rw [wr (by omega) (by omega)]; omega) (by omega) ?_
    rw [wr (by omega) (by omega), ← hvd]
    refine KW.idx0 rfl rfl rfl rfl rfl rfl rfl rfl rfl (by omega) (by omega) ?_
    refine KW.st1 1 rfl rfl rfl rfl rfl rfl rfl rfl rfl rfl rfl rfl (by simp only; simp only at e6; omega) ?_
    refine KW.retM1 rfl rfl rfl rfl (fun H1 g => ?_)
    have hb := g.blk (j := 1) rfl
    have el : (lieOf p vals lie).length = vals.length := lie_len
    refine ⟨_, _, by rw [el]; rfl, ?_⟩
    refine mlI_of ⟨by have := e3.1; omega, hb.2⟩ hb.1 rfl (by rw [el]; exact e2) (by rw [el]; simp only [List.length_set]; exact e6) (fun i x hi => ?_)
    rcases lie_at hi with ⟨rfl, rfl⟩ | ⟨h0, h1⟩
    · show (cells.set 0 (Value.int .i64 _))[0]? = _
      rw [List.getElem?_set_self (by simp only at e6; omega)]
    · show (cells.set 0 (Value.int .i64 _))[i]? = _
      rw [List.getElem?_set_ne (by omega)]; exact e7 i x h1
  · have hx : vals = [] := List.eq_nil_of_length_eq_zero (by have k1 : ¬ (0 : Int) < vals.length := k1; omega)
    subst hx
    refine KW.retM1 rfl rfl rfl rfl (fun H1 g => ⟨_, _, rfl, g.made (by omega) hA⟩)
end
end Go.Proofs.Ytmkpfllbmdahkaa.Am
/- Contracts: SequenceFor of the program. Each holds under its own conditions. -/
set_option linter.unusedVariables false
set_option linter.unusedSimpArgs false
set_option maxRecDepth 20000
namespace Go.Proofs.Ytmkpfllbmdahkaa.Am
open Go Go.RowKit Go.Proofs
theorem Least.one {gs : List (List Int)} {k b x w w' : Nat} {ok ok' : Bool} (h : Least gs k b x w ok) (h' : Least gs k b x w' ok') : w = w' ∧ ok = ok' := by
  rcases h with ⟨rfl, h1, h2, h3⟩ | ⟨rfl, rfl, h1⟩ <;> rcases h' with ⟨rfl, k1, k2, k3⟩ | ⟨rfl, rfl, k1⟩
  · rcases Nat.lt_trichotomy w w' with h | h | h
    · exact absurd h2 (k3 w h)
    · exact ⟨h, rfl⟩
    · exact absurd k2 (h3 w' h)
  · exact absurd h2 (k1 w h1)
  · exact absurd k2 (h1 w' (by omega))
  · exact ⟨rfl, rfl⟩
/-- What stands before place i. -/
def bef (ns : List Nat) (i : Nat) : Nat := if i = 0 then 0 else ns.getD (i - 1) 0
open Classical in
noncomputable def leastW (gs : List (List Int)) (k b x : Nat) : Nat := if h : ∃ w, Least gs k b x w true then Classical.choose h else 0
theorem leastW_eq {gs : List (List Int)} {k b x w : Nat} (h : Least gs k b x w true) : leastW gs k b x = w := by
  unfold leastW
  have hx : ∃ w, Least gs k b x w true := ⟨w, h⟩
  rw [dif_pos hx]
  exact ((Classical.choose_spec hx).one h).1
/-- The chain may go on at place i. -/
def OkAt (gs : List (List Int)) (k : Nat) (ns : List Nat) (i : Nat) : Prop := Chd gs k (bef ns i) (ns.getD i 0) ∧ ∃ w, Least gs k (bef ns i) (ns.getD i 0) w true
abbrev nums (chain : List (List Int)) : List Nat := chain.map bitsOf
noncomputable def withAt (gs : List (List Int)) (k : Nat) (ns : List Nat) (i : Nat) : List Int := hold (leastW gs k (bef ns i) (ns.getD i 0)) 7
noncomputable def withs (gs : List (List Int)) (k : Nat) (ns : List Nat) (n : Nat) : List (List Int) := (List.range n).map (withAt gs k ns)
noncomputable def r1_SequenceFor (y : T_Family) (known : List Int) (chain : List (List Int)) : Int :=
  if codeF y.1 y.2 = 0 then (if tv (Rises 0 (y.1 - 1) known ∧ ∀ g ∈ chain, Rises 0 (y.1 - 1) g) = true then (if tv (∀ i, i < chain.length → OkAt y.2 (bitsOf known) (nums chain) i) = true then 0 else 8) else 2) else codeF y.1 y.2
noncomputable def r0_SequenceFor (y : T_Family) (known : List Int) (chain : List (List Int)) : T_Sequence := if r1_SequenceFor y known chain = 0 then (known, chain, withs y.2 (bitsOf known) (nums chain) chain.length) else ([], [], [])
def MkQC (r : T_Sequence) (code : Int) (n : Nat) (v : Value) (H1 : AH) : Prop := ∃ cs : List Value, v = .tuple #[.agg cs.toArray, .int .i64 code] ∧ M_Sequence.R (New n H1.n) H1 r cs
theorem nilM {X : Ids} {H : AH} {α : Type} {d : Kn α} : d.ml.R X H [] [.slice none 0 0] := ml1' (.inl ⟨rfl, _, _, rfl, fun _ => rfl⟩)
theorem seqNil {X : Ids} {H : AH} : M_Sequence.R X H ([], [], []) [.slice none 0 0, .slice none 0 0, .slice none 0 0] :=
  mpR (X := None_) (cs := [.slice none 0 0]) nilM (mpR (X := None_) (Y := None_) (cs := [.slice none 0 0]) nilM nilM (fun _ p => p.elim) (fun _ p => p.elim) (fun _ p _ => p.elim)) (fun _ p => p.elim) (fun _ p => p) (fun _ p _ => p.elim)
theorem MkQC.nil {code : Int} {n : Nat} {v : Value} {H1 : AH} (hv : v = .tuple #[.agg #[.slice none 0 0, .slice none 0 0, .slice none 0 0], .int .i64 code]) : MkQC ([], [], []) code n v H1 := ⟨_, hv, seqNil⟩
theorem built_Seq0 : Try.prog.built 90 [] = some #[.slice none 0 0, .slice none 0 0, .slice none 0 0] := by kernel_rfl
theorem built_Seq1 (a : Option Addr) (n c : Nat) : Try.prog.built 90 [(0, .slice a n c)] = some #[.slice a n c, .slice none 0 0, .slice none 0 0] := by kernel_rfl
theorem built_Seq3 (a1 : Option Addr) (n1 c1 : Nat) (a2 : Option Addr) (n2 c2 : Nat) (a3 : Option Addr) (n3 c3 : Nat) : Try.prog.built 90 [(0, .slice a1 n1 c1), (1, .slice a2 n2 c2), (2, .slice a3 n3 c3)] = some #[.slice a1 n1 c1, .slice a2 n2 c2, .slice a3 n3 c3] := by kernel_rfl
theorem sf_code {y : T_Family} {known : List Int} {chain : List (List Int)} (h : ¬ codeF y.1 y.2 = 0) : r1_SequenceFor y known chain = codeF y.1 y.2 ∧ r0_SequenceFor y known chain = ([], [], []) := by
  have e : r1_SequenceFor y known chain = codeF y.1 y.2 := by unfold r1_SequenceFor; rw [if_neg h]
  exact ⟨e, by unfold r0_SequenceFor; rw [e, if_neg h]⟩
theorem sf_range {y : T_Family} {known : List Int} {chain : List (List Int)} (h : codeF y.1 y.2 = 0) (h2 : ¬ (Rises 0 (y.1 - 1) known ∧ ∀ g ∈ chain, Rises 0 (y.1 - 1) g)) : r1_SequenceFor y known chain = 2 ∧ r0_SequenceFor y known chain = ([], [], []) := by
  have e : r1_SequenceFor y known chain = 2 := by unfold r1_SequenceFor; rw [if_pos h, if_neg (by rw [tv_false h2]; decide)]
  exact ⟨e, by unfold r0_SequenceFor; rw [e]; rfl⟩
theorem sf_proof {y : T_Family} {known : List Int} {chain : List (List Int)} (h : codeF y.1 y.2 = 0) (h2 : Rises 0 (y.1 - 1) known ∧ ∀ g ∈ chain, Rises 0 (y.1 - 1) g) (h3 : ¬ ∀ i, i < chain.length → OkAt y.2 (bitsOf known) (nums chain) i) : r1_SequenceFor y known chain = 8 ∧ r0_SequenceFor y known chain = ([], [], []) := by
  have e : r1_SequenceFor y known chain = 8 := by unfold r1_SequenceFor; rw [if_pos h, if_pos (tv_true h2), if_neg (by rw [tv_false h3]; decide)]
  exact ⟨e, by unfold r0_SequenceFor; rw [e]; rfl⟩
theorem sf_ok {y : T_Family} {known : List Int} {chain : List (List Int)} (h : codeF y.1 y.2 = 0) (h2 : Rises 0 (y.1 - 1) known ∧ ∀ g ∈ chain, Rises 0 (y.1 - 1) g) (h3 : ∀ i, i < chain.length → OkAt y.2 (bitsOf known) (nums chain) i) : r1_SequenceFor y known chain = 0 ∧ r0_SequenceFor y known chain = (known, chain, withs y.2 (bitsOf known) (nums chain) chain.length) := by
  have e : r1_SequenceFor y known chain = 0 := by unfold r1_SequenceFor; rw [if_pos h, if_pos (tv_true h2), if_pos (tv_true h3)]
  exact ⟨e, by unfold r0_SequenceFor; rw [e]; rfl⟩
theorem codeF_ok {m : Int} {gs : List (List Int)} (h : codeF m gs = 0) : FamOk m gs := by
  unfold codeF at h
  split at h
  · rename_i h1; exact tv_iff.1 h1
  · cases h
/-- The state of the loop. -/
structure SqS where
  i : Nat
  S : Ids
  A : AH
  l1 : Value
  l2 : Value
  tail : List Var
  V1 : Ids
  V2 : Ids
  c1 : List Value
  c2 : List Value
structure SqI (gs : List (List Int)) (k : Nat) (chain : List (List Int)) (SA : Ids) (HA : AH) (s : SqS) : Prop where
  le : s.i ≤ chain.length
  old : St SA HA s.S s.A
  b1 : RowsB KI.ml s.S s.A s.V1 (chain.take s.i) s.c1
  b2 : RowsB KI.ml s.S s.A s.V2 (withs gs k (nums chain) s.i) s.c2
  v1 : ∀ id, s.V1 id → HA.n ≤ id
  v2 : ∀ id, s.V2 id → HA.n ≤ id
  dis : ∀ id, s.V1 id → s.V2 id → False
  ok : ∀ j, j < s.i → OkAt gs k (nums chain) j
  form : (s.i = 0 ∧ s.l1 = .slice none 0 0 ∧ s.l2 = .slice none 0 0 ∧ s.tail = [] ∧ s.c1 = [] ∧ s.c2 = []) ∨ (0 < s.i ∧ ∃ o1 o2, s.l1 = .slice (some ⟨o1, 0, some 1⟩) s.i s.i ∧ s.l2 = .slice (some ⟨o2, 0, some 1⟩) s.i s.i ∧ s.tail = [(o1, ⟨32, true, s.c1⟩), (o2, ⟨32, true, s.c2⟩)])
theorem SqI.next {gs : List (List Int)} {k : Nat} {chain : List (List Int)} {SA : Ids} {HA : AH} {s : SqS} (h : SqI gs k chain SA HA s) {SC SG : Ids} {HC HG : AH} {n1 n2 : Nat} {y : List Int} {v1 v2 l1 l2 : Value} {tail : List Var} (t1 : St s.S s.A SC HC) (t2 : St SC HC SG HG) (w1 : On (New n1 HC.n) HC SC HC) (w2 : On (New n2 HG.n) HG SG HG) (low : ∀ id, s.S id → id < n1) (hn : HA.n ≤ n1) (hn2 : HC.n ≤ n2) (hn3 : n1 ≤ HC.n) (hy : chain[s.i]? = some y) (hc : KI.Ml (New n1 HC.n) HC v1 y) (hg : KI.Ml (New n2 HG.n) HG v2 (withAt gs k (nums chain) s.i)) (ok : OkAt gs k (nums chain) s.i)
    (form : 0 < s.i + 1 ∧ ∃ o1 o2, l1 = .slice (some ⟨o1, 0, some 1⟩) (s.i + 1) (s.i + 1) ∧ l2 = .slice (some ⟨o2, 0, some 1⟩) (s.i + 1) (s.i + 1) ∧ tail = [(o1, ⟨32, true, s.c1 ++ [v1]⟩), (o2, ⟨32, true, s.c2 ++ [v2]⟩)]) :
    SqI gs k chain SA HA ⟨s.i + 1, SG, HG, l1, l2, tail, fun id => s.V1 id ∨ New n1 HC.n id, fun id => s.V2 id ∨ New n2 HG.n id, s.c1 ++ [v1], s.c2 ++ [v2]⟩ := by
  obtain ⟨hil, rfl⟩ := List.getElem?_eq_some_iff.1 hy
  haveI o1 : On s.S s.A SC HC := ⟨t1⟩
  haveI o2 : On SC HC SG HG := ⟨t2⟩
  have et : chain.take (s.i + 1) = chain.take s.i ++ [chain[s.i]] := List.take_succ_eq_append_getElem hil
  have ew : withs gs k (nums chain) (s.i + 1) = withs gs k (nums chain) s.i ++ [withAt gs k (nums chain) s.i] := by unfold withs; rw [List.range_succ, List.map_append]; rfl
  have lowV1 : ∀ id, s.V1 id → id < n1 := fun id hid => low id (h.b1.sub id hid)
  have lowV2 : ∀ id, s.V2 id → id < n1 := fun id hid => low id (h.b2.sub id hid)
  have c2 : KI.ml.R (New n1 HC.n) HG chain[s.i] [v1] := ml1' (hc.same (fun id hid => (t2 id (w1.st id hid).1).2))
  refine ⟨by simp only; omega, (h.old.trans t1).trans t2, ?_, ?_, fun id hid => hid.elim (h.v1 id) (fun p => by have := p.1; omega), fun id hid => hid.elim (h.v2 id) (fun p => by have := p.1; omega), fun id p q => ?_, upto h.ok ok, .inr form⟩
  · simp only [et]
    exact ((h.b1.up (S' := SC) (A' := HC)).up (S' := SG) (A' := HG)).snoc c2 (fun id hid => (t2 id (w1.st id hid).1).1) (fun id p q => by have := lowV1 id p; have := q.1; omega)
  · simp only [ew]
    exact ((h.b2.up (S' := SC) (A' := HC)).up (S' := SG) (A' := HG)).snoc (ml1' hg) (fun id hid => (w2.st id hid).1) (fun id p q => by have := lowV2 id p; have := q.1; omega)
  · rcases p with p | p <;> rcases q with q | q
    · exact h.dis id p q
    · have := lowV1 id p; have := q.1; omega
    · have := lowV2 id q; have := p.1; omega
    · have := p.2; have := q.1; omega
theorem rises_lt {m : Int} {q : Nat} (hq : m = q) {g : List Int} (h : Rises 0 (m - 1) g) : ∀ x ∈ g, 0 ≤ x ∧ x < (q : Int) := fun x hx => by have := rises_mem h x hx; omega
theorem bits256 {q : Nat} (hq : q ≤ 8) {g : List Int} (h : ∀ x ∈ g, 0 ≤ x ∧ x < (q : Int)) : bitsOf g < 256 := by
  have h1 : bitsOf g < 2 ^ q := bitsOf_lt (fun x hx => by have := h x hx; omega)
  have := small_pow hq
  omega
section
variable {S : Ids} {H0 : AH}
theorem impl_SequenceFor {y : T_Family} {known : List Int} {chain : List (List Int)} {ds : List Value} {a1 c1 a2 c2} (hF : B_Family y) (hK : B_Int64S known) (hC : B_Int64SS chain) (h : K_Family.R S H0 y ds) (k : K_Int64S.R S H0 known [.slice a1 known.length c1]) (k' : K_Int64SS.R S H0 chain [.slice a2 chain.length c2]) :
    SpecM Try.prog S H0 83 [.agg ds.toArray, .slice a1 known.length c1, .slice a2 chain.length c2] (MkQC (r0_SequenceFor y known chain) (r1_SequenceFor y known chain)) := by
  obtain ⟨a3, c3, rfl, h1⟩ := split_Family h
  have s1 := sl1 h1
  have s2 := sl1 k
  have s3 := sl1 k'
  obtain ⟨m, gs⟩ := y
  simp only at s1 ⊢
  have hsm : Sml gs := hF.2
  have hkl : known.length ≤ 1048576 := hK
  have hcl := hC.len
  refine SpecM.of1 Try.func83 rfl (by kernel_rfl) rfl (fun H _ => ?_)
  refine KW.callE rfl rfl rfl rfl rfl (rankedCode m hsm s1.up) (fun n9 m9 => ?_)
  by_cases hc : codeF m gs = 0
  · rw [hc]
    have hf := codeF_ok hc
    have hm1 := hf.h1
    have hm7 := hf.h2
    obtain ⟨q, hq⟩ : ∃ q : Nat, m = q := ⟨m.toNat, by omega⟩
    have hb : Below' q gs := by have := hf.below; rw [hq] at this; simpa using this
    refine KW.tT rfl rfl (by first | (simp; done) | decide) ?_
    refine KW.lit rfl rfl rfl rfl rfl rfl rfl rfl rfl rfl [.slice a1 known.length c1] rfl rfl (fun v hv => by simp at hv; subst hv; rfl) rfl ?_
    refine KW.callV1 rfl rfl rfl rfl rfl (fun H1 g _ => areGroups m ⟨hm1, hm7⟩ (xs := [known]) (by simp) (fun z hz => by rw [List.mem_singleton.1 hz]; exact hkl) (g.row1 (j := 2) rfl s2.up (by simp))) (fun _ _ => ?_)
    by_cases hk1 : Rises 0 (m - 1) known
    · rw [tv_true (p := ∀ z ∈ [known], Rises 0 (m - 1) z) (fun z hz => by rw [List.mem_singleton.1 hz]; exact hk1)]
      refine KW.tF rfl rfl (by first | (simp; done) | decide) ?_
      refine KW.callE rfl rfl rfl rfl rfl (areGroups m ⟨hm1, hm7⟩ hcl hC.each s3.up) (fun _ _ => ?_)
      by_cases hk2 : ∀ g ∈ chain, Rises 0 (m - 1) g
      · rw [tv_true hk2]
        refine KW.cF rfl rfl (by first | (simp; done) | decide) ?_
        refine KW.cF rfl rfl (by first | (simp; done) | decide) ?_
        have hkb := rises_lt hq hk1
        have hkk := bits256 (q := q) (by omega) hkb
        refine KW.callE rfl rfl rfl rfl rfl (crowdOf (m := q) (by omega) (by omega) hkb s2.up) (fun _ _ => ?_)
        refine KW.callN1 rfl rfl rfl rfl rfl (cloneI hkl s2.up) (fun v HA SA mA _ _ hv => ?_)
        obtain ⟨a5, c5, rfl, hA⟩ := hv
        refine KW.build rfl rfl rfl rfl rfl (built_Seq1 _ _ _) ?_
        have e0 : bef (nums chain) 0 = 0 := rfl
        refine KW.lpM rfl rfl (fun s : SqS => [(3, .pointer (some ⟨H.n, 0, some 0⟩)), (6, .pointer (some ⟨H.n + 1, 0, some 1⟩)), (9, .int .u64 (bitsOf known : Nat)), (10, .int .u64 (bef (nums chain) s.i : Nat)), (11, .pointer (some ⟨HA.n, 0, some 3⟩)), (45, .slice a2 chain.length c2), (46, .int .i64 chain.length), (47, .int .i64 s.i)]) (fun s => s.S) (fun s => s.A) (fun s => [(H.n, ⟨93, true, [.int .i64 m, .slice a3 gs.length c3]⟩), (H.n + 1, ⟨90, true, [.slice none 0 0, .slice none 0 0, .slice none 0 0]⟩), (n9, ⟨32, true, [.slice a1 known.length c1]⟩), (HA.n, ⟨90, true, [.slice a5 known.length c5, s.l1, s.l2]⟩)] ++ s.tail) (fun s => SqI gs (bitsOf known) chain SA HA s) (fun s => chain.length - s.i) (⟨0, SA, HA, .slice none 0 0, .slice none 0 0, [], fun _ => False, fun _ => False, [], []⟩) (⟨Nat.zero_le _, fun id hid => ⟨hid, rfl⟩, RowsB.nil _ _, RowsB.nil _ _, fun _ h => h.elim, fun _ h => h.elim, fun _ h => h.elim, fun j h => absurd h (Nat.not_lt_zero _), .inl ⟨rfl, rfl, rfl, rfl, rfl, rfl⟩⟩) ⟨rfl, rfl, rfl, rfl, rfl, rfl, rfl, rfl, trivial⟩ rfl rfl rfl (fun s hi bE n => ?_)
        obtain ⟨i, S', A, l1, l2, tail, V1, V2, cs1, cs2⟩ := s
        obtain ⟨hile, hold', hb1, hb2, hv1, hv2, hdis, hok, hform⟩ := hi
        simp only at hile hold' hb1 hb2 hv1 hv2 hdis hok hform
        haveI : Stp SA HA S' A := ⟨hold'⟩
        have hinv : SqI gs (bitsOf known) chain SA HA ⟨i, S', A, l1, l2, tail, V1, V2, cs1, cs2⟩ := ⟨hile, hold', hb1, hb2, hv1, hv2, hdis, hok, hform⟩
        have hbf : bef (nums chain) i < 256 := by
          unfold bef
          split
          · omega
          · rename_i hi0
            rw [List.getD_eq_getElem?_getD]
            rcases Nat.lt_or_ge (i - 1) chain.length with hlt | hge
            · rw [List.getElem?_map, List.getElem?_eq_getElem hlt]
              exact bits256 (q := q) (by omega) (rises_lt hq (hk2 _ (List.getElem_mem hlt)))
            · rw [List.getElem?_eq_none (by simpa using hge)]; decide
        have hl1 := hb1.len
        have hl2 := hb2.len
        rw [List.length_take] at hl1
        have hl2' : cs2.length = i := by rw [hl2]; simp [withs]
        have hl1' : cs1.length = i := by omega
        rcases hform with ⟨hi0, e1, e2, e3, e4, e5⟩ | ⟨hi0, o1, o2, e1, e2, e3⟩
        case' inl => subst e1 e2 e3 e4 e5
        case' inr => subst e1 e2 e3
        all_goals
          refine KW.cnd rfl rfl (fun j1 => ?gin) (fun j1 => ?gout)
          case gin =>
            refine KW.getL s3.up rfl rfl rfl rfl rfl rfl rfl rfl rfl rfl rfl rfl rfl rfl rfl rfl (by omega) (j1) (fun y ay cy hy hsy => ?_)
            have hy : chain[i]? = some y := hy
            have hym := List.mem_of_getElem? hy
            have hyb := rises_lt hq (hk2 y hym)
            have hyx := bits256 (q := q) (by omega) hyb
            have hyl := hC.each y hym
            have hil := (List.getElem?_eq_some_iff.1 hy).1
            have hnx : (nums chain).getD i 0 = bitsOf y := by rw [List.getD_eq_getElem?_getD, List.getElem?_map, hy]; rfl
            have hnb : bef (nums chain) (i + 1) = bitsOf y := by unfold bef; rw [if_neg (by omega)]; simpa using hnx
            refine KW.callE rfl rfl rfl rfl rfl (crowdOf (m := q) (by omega) (by omega) hyb hsy) (fun _ _ => ?_)
            refine KW.call rfl rfl rfl rfl rfl (least (m := q) (by omega) m hkk hbf hyx hsm hb s1.up) (fun v _ _ hv => ?_)
            obtain ⟨w, ok, rfl, hlw⟩ := hv
            have bad : ¬ OkAt gs (bitsOf known) (nums chain) i → r1_SequenceFor (m, gs) known chain = 8 ∧ r0_SequenceFor (m, gs) known chain = ([], [], []) := fun hx => sf_proof (y := (m, gs)) hc ⟨hk1, hk2⟩ (fun hall => hx (hall i hil))
            cases ok with
            | false =>
              refine KW.tT rfl rfl (by first | (simp; done) | decide) ?_
              refine KW.cT rfl rfl (by first | (simp; done) | decide) ?_
              obtain ⟨e1, e0⟩ := bad (fun hx => by
                obtain ⟨_, w', hw'⟩ := hx
                rw [hnx] at hw'
                have := (hlw.one hw').2
                cases this)
              rw [e1, e0]
              refine KW.build rfl rfl rfl rfl rfl (built_Seq0) ?_
              refine KW.retM1 rfl rfl rfl rfl (fun H1 g => ?_)
              exact MkQC.nil rfl
            | true =>
              refine KW.tF rfl rfl (by first | (simp; done) | decide) ?_
              refine KW.callE rfl rfl rfl rfl rfl (chained (m := q) (by omega) m hkk hbf hyx hsm hb s1.up) (fun _ _ => ?_)
              by_cases hch : Chd gs (bitsOf known) (bef (nums chain) i) (bitsOf y)
              · rw [tv_true hch]
                refine KW.cF rfl rfl (by first | (simp; done) | decide) ?_
                have hoki : OkAt gs (bitsOf known) (nums chain) i := by unfold OkAt; rw [hnx]; exact ⟨hch, w, hlw⟩
                have hwk : w ≤ bitsOf known := by
                  rcases hlw with ⟨_, h, _⟩ | ⟨h, _⟩
                  · exact h
                  · cases h
                have hwa : withAt gs (bitsOf known) (nums chain) i = hold w 7 := by unfold withAt; rw [hnx, leastW_eq hlw]
                refine KW.ids (fun hlow hvar => ?_)
                have hnA := (hvar 3 HA.n _ rfl).1
                refine KW.callN1 rfl rfl rfl rfl rfl (cloneI hyl hsy) (fun v HC SC mC _ _ hv => ?_)
                obtain ⟨a7, c7, rfl, hCl⟩ := hv
                first
                  | (refine KW.app0 (v := .slice a7 y.length c7) 4 rfl rfl rfl rfl rfl rfl rfl rfl rfl rfl rfl rfl rfl rfl rfl rfl rfl rfl rfl rfl rfl rfl (by decide) ?_
                     refine KW.callN1 rfl rfl rfl rfl rfl (group (x := w) (by omega)) (fun v HG SG mG tG wG hv => ?_)
                     obtain ⟨a8, c8, rfl, hG⟩ := hv
                     rw [← hwa] at hG ⊢
                     refine KW.app0 (v := .slice a8 (withAt gs (bitsOf known) (nums chain) i).length c8) 5 rfl rfl rfl rfl rfl rfl rfl rfl rfl rfl rfl rfl rfl rfl rfl rfl rfl rfl rfl rfl rfl rfl (by decide) ?_
                     subst hi0
                     exact KW.nxt rfl rfl (fun H' g => ⟨_, hinv.next (inferInstance : Stp S' A SC HC).st tG.st inferInstance wG hlow (by omega) (by omega) mC hy hCl hG hoki ⟨by omega, _, _, rfl, rfl, rfl⟩, by simp only; omega, ⟨rfl, rfl, rfl, congrArg (Value.int .u64) (by rw [hnb]), rfl, rfl, rfl, rfl, trivial⟩, g⟩))
                  | (refine KW.app1 (xs := cs1) (v := .slice a7 y.length c7) 4 6 rfl rfl rfl rfl rfl rfl rfl rfl rfl rfl rfl rfl rfl rfl rfl rfl rfl rfl rfl rfl rfl rfl rfl hl1' (by show (_ + 1) * 24 ≤ _; omega) (by omega) ?_
                     refine KW.callN1 rfl rfl rfl rfl rfl (group (x := w) (by omega)) (fun v HG SG mG tG wG hv => ?_)
                     obtain ⟨a8, c8, rfl, hG⟩ := hv
                     rw [← hwa] at hG ⊢
                     refine KW.app1 (xs := cs2) (v := .slice a8 (withAt gs (bitsOf known) (nums chain) i).length c8) 5 6 rfl rfl rfl rfl rfl rfl rfl rfl rfl rfl rfl rfl rfl rfl rfl rfl rfl rfl rfl rfl rfl rfl rfl hl2' (by show (_ + 1) * 24 ≤ _; omega) (by omega) ?_
                     exact KW.nxt rfl rfl (fun H' g => ⟨_, hinv.next (inferInstance : Stp S' A SC HC).st tG.st inferInstance wG hlow (by omega) (by omega) mC hy hCl hG hoki ⟨by omega, _, _, rfl, rfl, rfl⟩, by simp only; omega, ⟨rfl, rfl, rfl, congrArg (Value.int .u64) (by rw [hnb]), rfl, rfl, rfl, congrArg (Value.int .i64) (inc64 (by omega)), trivial⟩, g⟩))
              · rw [tv_false hch]
                refine KW.cT rfl rfl (by first | (simp; done) | decide) ?_
                obtain ⟨e1, e0⟩ := bad (fun hx => by
                  have := hx.1
                  rw [hnx] at this
                  exact hch this)
                rw [e1, e0]
                refine KW.build rfl rfl rfl rfl rfl (built_Seq0) ?_
                refine KW.retM1 rfl rfl rfl rfl (fun H1 g => ?_)
                exact MkQC.nil rfl
          case gout =>
            have hin : i = chain.length := by have j1 : ¬ (i : Int) < chain.length := j1; omega
            obtain ⟨e1, e0⟩ := sf_ok (y := (m, gs)) (known := known) (chain := chain) hc ⟨hk1, hk2⟩ (fun j hj => hok j (by omega))
            rw [e1, e0]
            refine KW.retM1 rfl rfl rfl rfl (fun H1 g => ?_)
            subst hin
            rw [List.take_of_length_le (Nat.le_refl _)] at hb1
            have hA' : KI.Ml (New _ HA.n) H1 _ known := ml1 (g.keep (ml1' hA))
            first
              | (have hcn : chain = [] := List.eq_nil_of_length_eq_zero hi0
                 subst hcn
                 exact ⟨_, rfl, mpR (cs := [.slice a5 known.length c5]) (Y := None_) (ml1' hA') (mpR (X := None_) (Y := None_) (cs := [.slice none 0 0]) nilM nilM (fun _ p => p.elim) (fun _ p => p.elim) (fun _ p _ => p.elim)) (g.inn (H := HA) (fun _ p => by have := p.1; omega)) (fun _ p => p.elim) (fun _ _ p => p.elim)⟩)
              | (have hwl : (withs gs (bitsOf known) (nums chain) chain.length).length = chain.length := by simp [withs]
                 have m1 := hb1.ml (X := fun id => V1 id ∨ id = o1) rfl g (j := 4) rfl (.inr rfl) (fun _ p => .inl p)
                 have m2 := hb2.ml (X := fun id => V2 id ∨ id = o2) rfl g (j := 5) rfl (.inr rfl) (fun _ p => .inl p)
                 rw [hwl] at m2
                 have n1 := (g.vars 4 _ rfl).2
                 have n2 := (g.vars 5 _ rfl).2
                 have g1 := g.ge (H1 := H) (j := 4) rfl
                 have g2 := g.ge (H1 := H) (j := 5) rfl
                 have hne : o1 ≠ o2 := fun he => by have := g.dist 4 5 _ _ rfl rfl he; omega
                 have hgn := g.n_
                 refine ⟨_, rfl, mpR (cs := [.slice a5 known.length c5]) (Y := fun id => (V1 id ∨ id = o1) ∨ (V2 id ∨ id = o2)) (ml1' hA') (mpR (cs := [.slice (some ⟨o1, 0, some 1⟩) chain.length chain.length]) (ml1' m1) (ml1' m2) (fun _ p => .inl p) (fun _ p => .inr p) (fun id p r => ?_)) (g.inn (H := HA) (fun _ p => by have := p.1; omega)) (fun id p => ?_) (fun id p r => ?_)⟩
                 · rcases p with p | rfl <;> rcases r with r | rfl
                   · exact hdis id p r
                   · exact n2.2 (hb1.sub _ p)
                   · exact n1.2 (hb2.sub _ r)
                   · exact hne rfl
                 · rcases p with (p | rfl) | (p | rfl)
                   · exact ⟨by have := hv1 id p; omega, by have := (g.froz id (hb1.sub id p)).1; omega⟩
                   · exact ⟨g1, by have := n1.1; omega⟩
                   · exact ⟨by have := hv2 id p; omega, by have := (g.froz id (hb2.sub id p)).1; omega⟩
                   · exact ⟨g2, by have := n2.1; omega⟩
                 · have hpS := ((inferInstance : On (New _ HA.n) HA S' A).st id p).1
                   rcases r with (r | rfl) | (r | rfl)
                   · have := hv1 id r; have := p.2; omega
                   · exact n1.2 hpS
                   · have := hv2 id r; have := p.2; omega
                   · exact n2.2 hpS)
      · rw [tv_false hk2]
        refine KW.cT rfl rfl (by first | (simp; done) | decide) ?_
        refine KW.cT rfl rfl (by first | (simp; done) | decide) ?_
        obtain ⟨e1, e0⟩ := sf_range (y := (m, gs)) (known := known) (chain := chain) hc (fun hx => hk2 hx.2)
        rw [e1, e0]
        refine KW.build rfl rfl rfl rfl rfl (built_Seq0) ?_
        refine KW.retM1 rfl rfl rfl rfl (fun H1 g => ?_)
        exact MkQC.nil rfl
    · rw [tv_false (p := ∀ z ∈ [known], Rises 0 (m - 1) z) (fun hx => hk1 (hx known (by simp)))]
      refine KW.tT rfl rfl (by first | (simp; done) | decide) ?_
      refine KW.cT rfl rfl (by first | (simp; done) | decide) ?_
      refine KW.cT rfl rfl (by first | (simp; done) | decide) ?_
      obtain ⟨e1, e0⟩ := sf_range (y := (m, gs)) (known := known) (chain := chain) hc (fun hx => hk1 hx.1)
      rw [e1, e0]
      refine KW.build rfl rfl rfl rfl rfl (built_Seq0) ?_
      refine KW.retM1 rfl rfl rfl rfl (fun H1 g => ?_)
      exact MkQC.nil rfl
  · refine KW.tF rfl rfl (by simpa using hc) ?_
    refine KW.cF rfl rfl (by first | (simp; done) | decide) ?_
    refine KW.cT rfl rfl (by simpa using hc) ?_
    obtain ⟨e1, e0⟩ := sf_code (y := (m, gs)) (known := known) (chain := chain) hc
    rw [e1, e0]
    refine KW.build rfl rfl rfl rfl rfl (built_Seq0) ?_
    refine KW.retM1 rfl rfl rfl rfl (fun H1 g => ?_)
    exact MkQC.nil rfl
end
end Go.Proofs.Ytmkpfllbmdahkaa.Am
/- Contracts: DualRanks of the reference. Each holds under its own conditions. -/
set_option linter.unusedVariables false
set_option linter.unusedSimpArgs false
set_option maxRecDepth 20000
namespace Go.Proofs.Ytmkpfllbmdahkaa.Am
open Go Go.RowKit Go.Proofs
theorem tabO_get {gs : List (List Int)} {n q : Nat} {j : Int} (hj : j = (q : Int)) (h : q < n) {y : Bool} (hy : (tabO gs n)[j.toNat]? = some y) : y = tv (Opens gs q) := by
  subst hj
  exact tabO_at h (by simpa using hy)
theorem bit1 {x h : Nat} (hx : x < 4611686018427387904) : (IntKind.i64.wrap ((BitVec.ofInt IntKind.i64.bits ((x / 2 ^ h : Nat) : Int) &&& BitVec.ofInt IntKind.i64.bits ((1 : Nat) : Int)).toNat : Int) == ((1 : Nat) : Int)) = x.testBit h := by
  rw [and_i64 (Nat.lt_of_le_of_lt (Nat.div_le_self _ _) hx) (by decide), ← bit_is]
  generalize x / 2 ^ h &&& 1 = q
  by_cases e : q = 1
  · subst e; rfl
  · rw [show (q == 1) = false from by simpa using e]
    simp only [beq_eq_false_iff_ne, ne_eq]
    omega
section
variable {S : Ids} {H0 : AH}
theorem bound_DualRanks {x : T_Ranks} {y : T_Family} (hB : B_Ranks x) (hF : B_Family y) : B_Ranks (r0_DualRanks x y) := by
  unfold r0_DualRanks
  split
  · rename_i h
    refine ⟨hB.1, hB.2.1, ?_⟩
    show (dualL _ _ _ _ _).length ≤ 1048576
    rw [dualL_len]
    have h0 : fitC x.1 x.2.1 x.2.2 y.1 y.2 = 0 := by
      unfold r1_DualRanks at h
      by_cases hc : fitC x.1 x.2.1 x.2.2 y.1 y.2 = 0
      · exact hc
      · rw [if_neg hc] at h; exact h
    have h1 := (fitC_zero h0).1
    rw [← h1.2.2.1]
    exact hB.2.2
  · exact ⟨by unfold I64; simp, by unfold I64; simp, by show 0 ≤ _; omega⟩
end
end Go.Proofs.Ytmkpfllbmdahkaa.Am
/- Contracts: SequenceFor of the reference. Each holds under its own conditions. -/
set_option linter.unusedVariables false
set_option linter.unusedSimpArgs false
set_option maxRecDepth 20000
namespace Go.Proofs.Ytmkpfllbmdahkaa.Am
open Go Go.RowKit Go.Proofs
abbrev numsI (chain : List (List Int)) : List Int := chain.map fun g => ((bitsOf g : Nat) : Int)
theorem numsI_at {chain : List (List Int)} {i : Nat} (h : i < chain.length) : (numsI chain)[i]? = some (((nums chain).getD i 0 : Nat) : Int) := by
  rw [List.getElem?_map, List.getElem?_eq_getElem h, List.getD_eq_getElem?_getD, List.getElem?_map, List.getElem?_eq_getElem h]; rfl
/-- The chain rises, apart from what is known, and its last set does not open. -/
def ChainAt (k : Nat) (ns : List Nat) (i : Nat) : Prop := ns.getD i 0 ≠ bef ns i ∧ ns.getD i 0 &&& bef ns i = bef ns i ∧ ns.getD i 0 &&& k = 0
def ChainC (gs : List (List Int)) (k : Nat) (ns : List Nat) (n : Nat) : Prop := (∀ i, i < n → ChainAt k ns i) ∧ ¬ Opens gs (bef ns n)
theorem bef_succ (ns : List Nat) (i : Nat) : bef ns (i + 1) = ns.getD i 0 := by unfold bef; rw [if_neg (by omega)]; rfl
theorem bef_lt {q : Nat} {ns : List Nat} (h : ∀ i, i < ns.length → ns.getD i 0 < 2 ^ q) (i : Nat) (hi : i ≤ ns.length) : bef ns i < 2 ^ q := by
  unfold bef
  split
  · exact Nat.two_pow_pos q
  · exact h _ (by omega)
section
variable {S : Ids} {H0 : AH}
theorem l07Group (m : Int) (hm : 1 ≤ m ∧ m ≤ 7) {id : Nat} (hv : Has3 S H0 id 0 [.int .i64 m]) {a c} {xs : List Int} (hl : xs.length ≤ 1048576) (hs : KI.Sl S H0 (.slice a xs.length c) xs) : Spec Try.prog S H0 178 [.pointer (some ⟨id, 0, none⟩), .slice a xs.length c] (fun v => v = .bool (tv (Rises 0 (m - 1) xs))) := by
  refine Spec.of1 Try.func178 rfl (by kernel_rfl) rfl (fun H _ => ?_)
  have hv := hv.up (S' := Low H.n) (H' := H)
  refine KW.ldF 0 hv rfl rfl rfl rfl rfl rfl rfl rfl rfl ?_
  have e : IntKind.i64.wrap (m - 1) = m - 1 := wr (by omega) (by omega)
  refine KW.callE rfl rfl rfl rfl rfl ((by show Spec _ _ _ _ [.slice a xs.length c, .int .i64 0, .int .i64 (IntKind.i64.wrap _)] _; rw [e]; exact l00Rises _ _ hl hs.up)) (fun _ _ => ?_)
  exact KW.ret rfl rfl rfl rfl (rfl)
theorem l07Groups (m : Int) (hm : 1 ≤ m ∧ m ≤ 7) {id : Nat} (hv : Has3 S H0 id 0 [.int .i64 m]) {a c} {xs : List (List Int)} (hB : B_Int64SS xs) (hs : KI.sl.Sl S H0 (.slice a xs.length c) xs) : Spec Try.prog S H0 179 [.pointer (some ⟨id, 0, none⟩), .slice a xs.length c] (fun v => v = .bool (tv (∀ g ∈ xs, Rises 0 (m - 1) g))) := by
  refine Spec.of1 Try.func179 rfl (by kernel_rfl) rfl (fun H _ => ?_)
  have hv := hv.up (S' := Low H.n) (H' := H)
  have hl := hB.len
  refine KW.lp rfl rfl (fun i : Nat => [(0, .pointer (some ⟨id, 0, none⟩)), (1, .slice a xs.length c), (5, .int .i64 i)]) (fun i => i ≤ xs.length ∧ ∀ j, j < i → ∀ x, xs[j]? = some x → Rises 0 (m - 1) x) (fun i => xs.length - i) (0) (⟨by omega, fun j h => absurd h (by omega)⟩) ⟨rfl, rfl, rfl, trivial⟩ (fun i hi bE n => ?_)
  obtain ⟨hi, hj⟩ := hi
  refine KW.cnd rfl rfl (fun k1 => ?_) (fun k1 => ?_)
  · refine KW.getL hs.up rfl rfl rfl rfl rfl rfl rfl rfl rfl rfl rfl rfl rfl rfl rfl rfl (by omega) (k1) (fun y ay cy hy hsy => ?_)
    have hy : xs[i]? = some y := hy
    have hym := List.mem_of_getElem? hy
    refine KW.callE rfl rfl rfl rfl rfl (l07Group m hm hv (hB.each y hym) hsy) (fun _ _ => ?_)
    refine KW.cndB rfl rfl (fun k2 => ?_) (fun k2 => ?_)
    · exact KW.ret rfl rfl rfl rfl (by rw [tv_false (p := ∀ g ∈ xs, Rises 0 (m - 1) g) (fun hx => by rw [tv_true (hx y hym)] at k2; cases k2)]; rfl)
    have k2 := tv_iff.1 (by simpa using k2)
    refine KW.nxt rfl rfl (fun H' g => ⟨i + 1, ⟨by omega, upto hj (fun x hx => by rw [hy] at hx; cases hx; exact k2)⟩, by first | omega | (simp only; omega), ⟨rfl, rfl, congrArg (Value.int .i64) (inc64 (by omega)), trivial⟩, g⟩)
  · exact KW.ret rfl rfl rfl rfl (by rw [tv_true (p := ∀ g ∈ xs, Rises 0 (m - 1) g) (all_of (fun j hjl => hj j (by omega)))]; rfl)
theorem l07Numbers {q : Nat} (hq : q ≤ 8) {a c} {xs : List (List Int)} (hB : B_Int64SS xs) (hx : ∀ g ∈ xs, ∀ z ∈ g, 0 ≤ z ∧ z < (q : Int)) (hs : KI.sl.Sl S H0 (.slice a xs.length c) xs) : SpecM Try.prog S H0 180 [.slice a xs.length c] (MkL (numsI xs)) := by
  refine SpecM.of1 Try.func180 rfl (by kernel_rfl) rfl (fun H _ => ?_)
  have hl := hB.len
  refine KW.lit rfl rfl rfl rfl rfl rfl rfl rfl rfl rfl [] rfl rfl (fun v hv => by simp at hv) rfl ?_
  refine KW.lpM rfl rfl (fun s : Nat × Nat => [(0, .slice a xs.length c), (3, .slice (some ⟨s.2, 0, some 1⟩) (numsI (xs.take s.1)).length (numsI (xs.take s.1)).length), (4, .int .i64 s.1)]) (fun s => Low H.n) (fun s => H) (fun s => [(s.2, ⟨_, true, (numsI (xs.take s.1)).map (Value.int .i64)⟩)]) (fun s => s.1 ≤ xs.length) (fun s => xs.length - s.1) ((0, _)) (by simp) ⟨rfl, rfl, rfl, trivial⟩ rfl rfl rfl (fun s hi bE n => ?_)
  obtain ⟨i, o⟩ := s
  simp only at hi
  have hil : (numsI (xs.take i)).length ≤ i := by rw [List.length_map, List.length_take]; omega
  refine KW.cnd rfl rfl (fun k1 => ?_) (fun k1 => ?_)
  · refine KW.getL hs.up rfl rfl rfl rfl rfl rfl rfl rfl rfl rfl rfl rfl rfl rfl rfl rfl (by omega) (k1) (fun y ay cy hy hsy => ?_)
    have hy : xs[i]? = some y := hy
    have hym := List.mem_of_getElem? hy
    refine KW.callE rfl rfl rfl rfl rfl (l07Bits (m := q) hq (by have := hB.each y hym; omega) (hx y hym) hsy) (fun _ _ => ?_)
    have e := map_take_succ (fun g : List Int => ((bitsOf g : Nat) : Int)) hy
    refine KW.app1 (xs := (numsI (xs.take i)).map (Value.int .i64)) (v := .int .i64 (bitsOf y : Nat)) 0 1 rfl rfl rfl rfl rfl rfl rfl rfl rfl rfl rfl rfl rfl rfl rfl rfl rfl rfl rfl rfl rfl rfl rfl (by simp) (by show (_ + 1) * 8 ≤ _; first | omega | (simp only; omega)) (by first | omega | (simp only; omega)) ?_
    refine KW.nxt rfl rfl (fun H' g => ⟨(i + 1, _), by simp only; omega, by first | omega | (simp only; omega), ⟨rfl, by simp only [e, List.length_append, List.length_singleton]; rfl, congrArg (Value.int .i64) (inc64 (by omega)), trivial⟩, g.eqT (by simp only [e, List.map_append]; rfl)⟩)
  · obtain rfl : i = xs.length := by simp only at k1; omega
    rw [List.take_of_length_le (Nat.le_refl _)]
    refine KW.retM1 rfl rfl rfl rfl (fun H1 g => MkL.of g (j := 0) rfl (g.ge (H1 := H) (j := 0) rfl))
theorem l07Chain {q k : Nat} (hq : q ≤ 7) (hk : k < 2 ^ q) {gs chain : List (List Int)} (hl : chain.length ≤ 1048576) (hn : ∀ i, i < chain.length → (nums chain).getD i 0 < 2 ^ q) {a c a' c'} (ho : Kn.bool.Sl S H0 (.slice a (tabO gs (2 ^ q)).length c) (tabO gs (2 ^ q))) (hs : KI.Sl S H0 (.slice a' (numsI chain).length c') (numsI chain)) :
    Spec Try.prog S H0 181 [.slice a (tabO gs (2 ^ q)).length c, .int .i64 k, .slice a' (numsI chain).length c'] (fun v => v = .bool (tv (ChainC gs k (nums chain) chain.length))) := by
  refine Spec.of1 Try.func181 rfl (by kernel_rfl) rfl (fun H _ => ?_)
  have hp := small_pow (m := q) (by omega)
  have htl : (tabO gs (2 ^ q)).length = 2 ^ q := tabO_len _ _
  have hnl : (numsI chain).length = chain.length := by simp
  have hnl' : (nums chain).length = chain.length := by simp
  refine KW.lp rfl rfl (fun i : Nat => [(0, .slice a (tabO gs (2 ^ q)).length c), (1, .int .i64 k), (2, .slice a' (numsI chain).length c'), (7, .int .i64 (bef (nums chain) i : Nat)), (8, .int .i64 i)]) (fun i => i ≤ chain.length ∧ ∀ j, j < i → ChainAt k (nums chain) j) (fun i => chain.length - i) (0) (⟨by omega, fun j h => absurd h (by omega)⟩) ⟨rfl, rfl, rfl, rfl, rfl, trivial⟩ (fun i hi bE n => ?_)
  obtain ⟨hi, hj⟩ := hi
  have hb := bef_lt (q := q) (ns := nums chain) (fun i h => hn i (by omega)) i (by omega)
  refine KW.cnd rfl rfl (fun k1 => ?_) (fun k1 => ?_)
  · have k1 : (i : Int) < (numsI chain).length := k1
    have hx := numsI_at (chain := chain) (i := i) (by omega)
    have hxl := hn i (by omega)
    obtain ⟨x, hxe⟩ : ∃ x, (nums chain).getD i 0 = x := ⟨_, rfl⟩
    obtain ⟨b, hbe⟩ : ∃ b, bef (nums chain) i = b := ⟨_, rfl⟩
    rw [hxe] at hx hxl
    rw [hbe] at hb
    have bad : ¬ ChainAt k (nums chain) i → aout [Value.bool false] = .bool (tv (ChainC gs k (nums chain) chain.length)) := fun hc => by rw [tv_false (p := ChainC gs k (nums chain) chain.length) (fun hh => hc (hh.1 i (by omega)))]; rfl
    have e1 := and_i64 (a := x) (b := b) (by omega) (by omega)
    have e2 := and_i64 (a := x) (b := k) (by omega) (by omega)
    rw [hbe]
    refine KW.getI hs.up rfl rfl rfl rfl rfl rfl rfl rfl rfl rfl rfl rfl rfl rfl rfl rfl (by omega) (k1) (fun z1 hz1 => ?_)
    have hz1 : (numsI chain)[i]? = some z1 := hz1
    obtain rfl : ((x : Nat) : Int) = z1 := by rw [hx] at hz1; simpa using hz1
    refine KW.tstB rfl rfl (fun k2 => ?_) (fun k2 => ?_)
    · repeat first | refine KW.tT rfl rfl rfl ?_ | refine KW.tF rfl rfl rfl ?_
      first | refine KW.cT rfl rfl rfl ?_ | refine KW.cF rfl rfl rfl ?_
      exact KW.ret rfl rfl rfl rfl (bad (fun hc => by have := hc.1; rw [hxe, hbe] at this; simp at k2; omega))
    have k2 : x ≠ b := by simp at k2; omega
    refine KW.getI hs.up rfl rfl rfl rfl rfl rfl rfl rfl rfl rfl rfl rfl rfl rfl rfl rfl (by omega) (k1) (fun z2 hz2 => ?_)
    have hz2 : (numsI chain)[i]? = some z2 := hz2
    obtain rfl : ((x : Nat) : Int) = z2 := by rw [hx] at hz2; simpa using hz2
    refine KW.tstB rfl rfl (fun k3 => ?_) (fun k3 => ?_)
    · rw [e1] at k3
      repeat first | refine KW.tT rfl rfl rfl ?_ | refine KW.tF rfl rfl rfl ?_
      first | refine KW.cT rfl rfl rfl ?_ | refine KW.cF rfl rfl rfl ?_
      exact KW.ret rfl rfl rfl rfl (bad (fun hc => by have := hc.2.1; rw [hxe, hbe] at this; rw [this] at k3; simp at k3))
    rw [e1] at k3
    have k3 : x &&& b = b := by simp at k3; omega
    refine KW.getI hs.up rfl rfl rfl rfl rfl rfl rfl rfl rfl rfl rfl rfl rfl rfl rfl rfl (by omega) (k1) (fun z3 hz3 => ?_)
    have hz3 : (numsI chain)[i]? = some z3 := hz3
    obtain rfl : ((x : Nat) : Int) = z3 := by rw [hx] at hz3; simpa using hz3
    refine KW.cndB rfl rfl (fun k4 => ?_) (fun k4 => ?_)
    · rw [e2] at k4
      exact KW.ret rfl rfl rfl rfl (bad (fun hc => by have := hc.2.2; rw [hxe] at this; rw [this] at k4; simp at k4))
    rw [e2] at k4
    have k4 : x &&& k = 0 := by simp at k4; omega
    refine KW.getI hs.up rfl rfl rfl rfl rfl rfl rfl rfl rfl rfl rfl rfl rfl rfl rfl rfl (by omega) (k1) (fun z4 hz4 => ?_)
    have hz4 : (numsI chain)[i]? = some z4 := hz4
    obtain rfl : ((x : Nat) : Int) = z4 := by rw [hx] at hz4; simpa using hz4
    have hbs : bef (nums chain) (i + 1) = x := by rw [bef_succ, hxe]
    refine KW.nxt rfl rfl (fun H' g => ⟨i + 1, ⟨by omega, upto hj ⟨by rw [hxe, hbe]; exact k2, by rw [hxe, hbe]; exact k3, by rw [hxe]; exact k4⟩⟩, by first | omega | (simp only; omega), ⟨rfl, rfl, rfl, congrArg (Value.int .i64) (by rw [hbs]), congrArg (Value.int .i64) (inc64 (by omega)), trivial⟩, g⟩)
  · have k1 : ¬ (i : Int) < (numsI chain).length := k1
    obtain rfl : i = chain.length := by omega
    refine KW.getB ho.up rfl rfl rfl rfl rfl rfl rfl rfl rfl rfl rfl rfl rfl rfl rfl rfl (by omega) (by omega) (fun z hz => ?_)
    obtain rfl := tabO_get (q := bef (nums chain) chain.length) rfl hb hz
    refine KW.ret rfl rfl rfl rfl ?_
    show Value.bool (!tv (Opens gs (bef (nums chain) chain.length))) = _
    by_cases hO : Opens gs (bef (nums chain) chain.length)
    · rw [tv_true hO, tv_false (p := ChainC gs k (nums chain) chain.length) (fun hc => hc.2 hO)]; rfl
    · rw [tv_false hO, tv_true (p := ChainC gs k (nums chain) chain.length) ⟨hj, hO⟩]; rfl
theorem l07Right {q w : Nat} (hq : q ≤ 7) (hw : w < 2 ^ q) {gs chain : List (List Int)} (hl : chain.length ≤ 1048576) (hn : ∀ i, i < chain.length → (nums chain).getD i 0 < 2 ^ q) {i : Nat} (hi : i < chain.length) {a c a' c'} (ho : Kn.bool.Sl S H0 (.slice a (tabO gs (2 ^ q)).length c) (tabO gs (2 ^ q))) (hs : KI.Sl S H0 (.slice a' (numsI chain).length c') (numsI chain)) :
    Spec Try.prog S H0 184 [.slice a (tabO gs (2 ^ q)).length c, .slice a' (numsI chain).length c', .int .i64 i, .int .i64 w] (fun v => v = .bool (tv (Steps gs (bef (nums chain) i) ((nums chain).getD i 0) w))) := by
  refine Spec.of1 Try.func184 rfl (by kernel_rfl) rfl (fun H _ => ?_)
  have hp := small_pow (m := q) (by omega)
  have htl : (tabO gs (2 ^ q)).length = 2 ^ q := tabO_len _ _
  have hnl : (numsI chain).length = chain.length := by simp
  have hnl' : (nums chain).length = chain.length := by simp
  have hb := bef_lt (q := q) (ns := nums chain) (fun i h => hn i (by omega)) i (by omega)
  have hx := numsI_at (chain := chain) hi
  have hxl := hn i hi
  obtain ⟨x, hxe⟩ : ∃ x, (nums chain).getD i 0 = x := ⟨_, rfl⟩
  obtain ⟨b, hbe⟩ : ∃ b, bef (nums chain) i = b := ⟨_, rfl⟩
  rw [hxe] at hx hxl
  rw [hbe] at hb
  rw [hxe, hbe]
  have e1 := or_i64 (a := x) (b := w) (by omega) (by omega)
  have e2 := or_i64 (a := b) (b := w) (by omega) (by omega)
  have l1 : x ||| w < 2 ^ q := Nat.or_lt_two_pow hxl hw
  have l2 : b ||| w < 2 ^ q := Nat.or_lt_two_pow hb hw
  refine KW.cnd rfl rfl (fun k1 => ?g1) (fun k1 => ?g2)
  case' g1 =>
    have k1 : (i : Int) > 0 := k1
    have e0 : IntKind.i64.wrap ((i : Int) - 1) = ((i - 1 : Nat) : Int) := by rw [wr (by omega) (by omega)]; omega
    refine KW.getI hs.up rfl rfl rfl rfl rfl rfl rfl rfl rfl rfl rfl rfl rfl rfl rfl rfl (by rw [e0]; omega) (by rw [e0]; omega) (fun z0 hz0 => ?_)
    rw [e0] at hz0
    have hz0 : (numsI chain)[i - 1]? = some z0 := hz0
    rw [numsI_at (by omega)] at hz0
    have hb0 : bef (nums chain) i = (nums chain).getD (i - 1) 0 := by unfold bef; rw [if_neg (by omega)]
    obtain rfl : z0 = (b : Int) := by rw [← hbe, hb0]; simpa using hz0.symm
    have E2 := e2
  case' g2 =>
    have k1 : ¬ (i : Int) > 0 := k1
    have hb0 : b = 0 := by rw [← hbe]; unfold bef; rw [if_pos (by omega)]
    have E2 : IntKind.i64.wrap ((BitVec.ofInt IntKind.i64.bits (0 : Int) ||| BitVec.ofInt IntKind.i64.bits (w : Int)).toNat : Int) = ((b ||| w : Nat) : Int) := by rw [hb0]; exact or_i64 (a := 0) (b := w) (by omega) (by omega)
  all_goals
    refine KW.getI hs.up rfl rfl rfl rfl rfl rfl rfl rfl rfl rfl rfl rfl rfl rfl rfl rfl (by omega) (by omega) (fun z hz => ?_)
    have hz : (numsI chain)[i]? = some z := hz
    obtain rfl : ((x : Nat) : Int) = z := by rw [hx] at hz; simpa using hz
    refine KW.getB ho.up rfl rfl rfl rfl rfl rfl rfl rfl rfl rfl rfl rfl rfl rfl rfl rfl (by rw [e1]; omega) (by rw [e1]; omega) (fun y hy => ?_)
    obtain rfl := tabO_get e1 l1 hy
    refine KW.tstB rfl rfl (fun k2 => ?_) (fun k2 => ?_)
  all_goals first
    | (refine KW.ret rfl rfl rfl rfl ?_
       rw [tv_false (p := Steps gs b x w) (fun hc => by rw [tv_true hc.1] at k2; cases k2)]; rfl)
    | (refine KW.getB ho.up rfl rfl rfl rfl rfl rfl rfl rfl rfl rfl rfl rfl rfl rfl rfl rfl (by rw [E2]; omega) (by rw [E2]; omega) (fun y2 hy2 => ?_)
       obtain rfl := tabO_get E2 l2 hy2
       refine KW.ret rfl rfl rfl rfl ?_
       show Value.bool (!tv (Opens gs (b ||| w))) = _
       by_cases hO : Opens gs (b ||| w)
       · rw [tv_true hO, tv_false (p := Steps gs b x w) (fun hc => hc.2 hO)]; rfl
       · rw [tv_false hO, tv_true (p := Steps gs b x w) ⟨tv_iff.1 k2, hO⟩]; rfl)
end
/-- The least parts, as numbers. -/
noncomputable def lwI (gs : List (List Int)) (k : Nat) (ns : List Nat) (n : Nat) : List Int := (List.range n).map fun i => ((leastW gs k (bef ns i) (ns.getD i 0) : Nat) : Int)
def Cnd (gs : List (List Int)) (k b x v : Nat) : Prop := k &&& v = v ∧ Steps gs b x v
theorem cnd_tv {gs : List (List Int)} {k b x v : Nat} {t1 t2 : Bool} : True := trivial
section
variable {S : Ids} {H0 : AH}
theorem l07Withs {q k : Nat} (hq : q ≤ 7) (hk : k < 2 ^ q) {gs chain : List (List Int)} (hl : chain.length ≤ 1048576) (hn : ∀ i, i < chain.length → (nums chain).getD i 0 < 2 ^ q) {a c a' c'} (ho : Kn.bool.Sl S H0 (.slice a (tabO gs (2 ^ q)).length c) (tabO gs (2 ^ q))) (hs : KI.Sl S H0 (.slice a' (numsI chain).length c') (numsI chain)) :
    SpecM Try.prog S H0 158 [.slice a (tabO gs (2 ^ q)).length c, .int .i64 k, .slice a' (numsI chain).length c'] (fun n v H1 => ∃ (ok : Bool) (v' : Value), v = .tuple #[v', .bool ok] ∧ ((ok = true ∧ (∀ i, i < chain.length → ∃ w, Least gs k (bef (nums chain) i) ((nums chain).getD i 0) w true) ∧ MkL (lwI gs k (nums chain) chain.length) n v' H1) ∨ (ok = false ∧ (∃ i, i < chain.length ∧ ¬ ∃ w, Least gs k (bef (nums chain) i) ((nums chain).getD i 0) w true) ∧ ∃ a n c, v' = .slice a n c))) := by
  refine SpecM.of1 Try.func158 rfl (by kernel_rfl) rfl (fun H _ => ?_)
  have hp := small_pow (m := q) (by omega)
  have hnl : (numsI chain).length = chain.length := by simp
  refine KW.lit rfl rfl rfl rfl rfl rfl rfl rfl rfl rfl [] rfl rfl (fun v hv => by simp at hv) rfl ?_
  refine KW.lpM rfl rfl (fun s : Nat × Nat => [(0, .slice a (tabO gs (2 ^ q)).length c), (1, .int .i64 k), (2, .slice a' (numsI chain).length c'), (8, .slice (some ⟨s.2, 0, some 1⟩) (lwI gs k (nums chain) s.1).length (lwI gs k (nums chain) s.1).length), (9, .int .i64 s.1)]) (fun s => Low H.n) (fun s => H) (fun s => [(s.2, ⟨_, true, (lwI gs k (nums chain) s.1).map (Value.int .i64)⟩)]) (fun s => s.1 ≤ chain.length ∧ ∀ j, j < s.1 → ∃ w, Least gs k (bef (nums chain) j) ((nums chain).getD j 0) w true) (fun s => chain.length - s.1) ((0, _)) (⟨by simp, fun j h => absurd h (by simp)⟩) ⟨rfl, rfl, rfl, rfl, rfl, trivial⟩ rfl rfl rfl (fun s hi bE n => ?_)
  obtain ⟨i, o⟩ := s
  obtain ⟨hi, hj⟩ := hi
  simp only at hi hj
  have hll : (lwI gs k (nums chain) i).length = i := by simp [lwI]
  refine KW.cnd rfl rfl (fun k1 => ?_) (fun k1 => ?_)
  · have k1 : (i : Int) < (numsI chain).length := k1
    have hil : i < chain.length := by omega
    obtain ⟨x, hxe⟩ : ∃ x, (nums chain).getD i 0 = x := ⟨_, rfl⟩
    obtain ⟨b, hbe⟩ : ∃ b, bef (nums chain) i = b := ⟨_, rfl⟩
    -- the search
    refine KW.lp rfl rfl (fun s : Nat × Int => [(0, .slice a (tabO gs (2 ^ q)).length c), (1, .int .i64 k), (2, .slice a' (numsI chain).length c'), (8, .slice (some ⟨o, 0, some 1⟩) (lwI gs k (nums chain) i).length (lwI gs k (nums chain) i).length), (9, .int .i64 i), (10, .int .i64 s.2), (11, .int .i64 s.1)]) (fun s => s.1 ≤ k + 1 ∧ ((s.2 = -1 ∧ ∀ v, v < s.1 → ¬ (k &&& v = v ∧ Steps gs b x v)) ∨ (∃ w : Nat, s.2 = w ∧ Least gs k b x w true))) (fun s => k + 1 - s.1) ((0, -1)) (⟨by simp only; omega, .inl ⟨rfl, fun v hv => absurd hv (by simp)⟩⟩) ⟨rfl, rfl, rfl, rfl, rfl, rfl, rfl, trivial⟩ (fun s hi bE n => ?_)
    obtain ⟨w, f⟩ := s
    obtain ⟨hw, hf⟩ := hi
    simp only at hw hf
    have done : ¬ ((w : Int) ≤ k ∧ f < 0) → (f = -1 ∧ ∀ v, v ≤ k → ¬ (k &&& v = v ∧ Steps gs b x v)) ∨ (∃ w : Nat, f = w ∧ Least gs k b x w true) := fun hc => by
      rcases hf with ⟨h1, h2⟩ | h
      · exact .inl ⟨h1, fun v hv => h2 v (by omega)⟩
      · exact .inr h
    have fin : ((f = -1 ∧ ∀ v, v ≤ k → ¬ (k &&& v = v ∧ Steps gs b x v)) ∨ (∃ w : Nat, f = w ∧ Least gs k b x w true)) → True := fun _ => trivial
    refine KW.tst rfl rfl (fun k2 => ?_) (fun k2 => ?_)
    · have k2 : (w : Int) ≤ k := k2
      refine KW.cnd rfl rfl (fun k3 => ?_) (fun k3 => ?_)
      · have k3 : f < 0 := k3
        rcases hf with ⟨rfl, h2⟩ | ⟨w0, rfl, _⟩
        · have e1 := and_i64 (a := w) (b := k) (by omega) (by omega)
          refine KW.tstB rfl rfl (fun k4 => ?_) (fun k4 => ?_)
          · rw [e1] at k4
            have k4 : k &&& w = w := by rw [Nat.and_comm]; simp at k4; omega
            refine KW.callE rfl rfl rfl rfl rfl (l07Right hq (by omega) hl hn hil ho.up hs.up) (fun _ _ => ?_)
            rw [hxe, hbe]
            refine KW.cndB rfl rfl (fun k5 => ?_) (fun k5 => ?_)
            · have k5 := tv_iff.1 k5
              refine KW.nxt rfl rfl (fun H' g => ⟨(w + 1, (w : Int)), ⟨by simp only; omega, .inr ⟨w, rfl, .inl ⟨rfl, by omega, ⟨k4, k5⟩, h2⟩⟩⟩, by first | omega | (simp only; omega), ⟨rfl, rfl, rfl, rfl, rfl, rfl, congrArg (Value.int .i64) (inc64 (by omega)), trivial⟩, g⟩)
            · have k5 : ¬ Steps gs b x w := fun hx => by rw [tv_true hx] at k5; cases k5
              refine KW.nxt rfl rfl (fun H' g => ⟨(w + 1, -1), ⟨by simp only; omega, .inl ⟨rfl, upto h2 (fun hc => k5 hc.2)⟩⟩, by first | omega | (simp only; omega), ⟨rfl, rfl, rfl, rfl, rfl, rfl, congrArg (Value.int .i64) (inc64 (by omega)), trivial⟩, g⟩)
          · rw [e1] at k4
            have k4 : ¬ k &&& w = w := by rw [Nat.and_comm]; simp at k4; omega
            refine KW.cF rfl rfl (by first | (simp; done) | decide) ?_
            refine KW.nxt rfl rfl (fun H' g => ⟨(w + 1, -1), ⟨by simp only; omega, .inl ⟨rfl, upto h2 (fun hc => k4 hc.1)⟩⟩, by first | omega | (simp only; omega), ⟨rfl, rfl, rfl, rfl, rfl, rfl, congrArg (Value.int .i64) (inc64 (by omega)), trivial⟩, g⟩)
        · omega
      · have k3 : ¬ f < 0 := k3
        have hd := done (fun hc => k3 hc.2)
        rcases hd with ⟨h1, _⟩ | ⟨w0, rfl, hle⟩
        · omega
        · refine KW.no rfl rfl (by omega) ?_
          have e := range_map_succ' (fun i => ((leastW gs k (bef (nums chain) i) ((nums chain).getD i 0) : Nat) : Int)) i
          simp only [hxe, hbe, leastW_eq hle] at e
          refine KW.app1 (xs := (lwI gs k (nums chain) i).map (Value.int .i64)) (v := .int .i64 w0) 0 1 rfl rfl rfl rfl rfl rfl rfl rfl rfl rfl rfl rfl rfl rfl rfl rfl rfl rfl rfl rfl rfl rfl rfl (by simp) (by show (_ + 1) * 8 ≤ _; first | omega | (simp only; omega)) (by first | omega | (simp only; omega)) ?_
          refine KW.nxt rfl rfl (fun H' g => ⟨(i + 1, _), ⟨by simp only; omega, upto hj ⟨w0, by rw [hxe, hbe]; exact hle⟩⟩, by first | omega | (simp only; omega), ⟨rfl, rfl, rfl, by simp only [lwI, e, List.length_append, List.length_singleton]; rfl, congrArg (Value.int .i64) (inc64 (by omega)), trivial⟩, g.eqT (by simp only [lwI, e, List.map_append]; rfl)⟩)
    · have k2 : ¬ (w : Int) ≤ k := k2
      refine KW.cF rfl rfl (by first | (simp; done) | decide) ?_
      have hd := done (fun hc => k2 hc.1)
      rcases hd with ⟨rfl, hno⟩ | ⟨w0, rfl, hle⟩
      · refine KW.yes rfl rfl (show (-1 : Int) < 0 by decide) ?_
        refine KW.retM1 rfl rfl rfl rfl (fun H1 g => ⟨false, _, rfl, .inr ⟨rfl, ⟨i, hil, fun ⟨w, hw⟩ => by rw [hxe, hbe] at hw; rcases hw with ⟨_, h1, h2, _⟩ | ⟨h, _⟩; exact hno w h1 h2; cases h⟩, _, _, _, rfl⟩⟩)
      · refine KW.no rfl rfl (by omega) ?_
        have e := range_map_succ' (fun i => ((leastW gs k (bef (nums chain) i) ((nums chain).getD i 0) : Nat) : Int)) i
        simp only [hxe, hbe, leastW_eq hle] at e
        refine KW.app1 (xs := (lwI gs k (nums chain) i).map (Value.int .i64)) (v := .int .i64 w0) 0 1 rfl rfl rfl rfl rfl rfl rfl rfl rfl rfl rfl rfl rfl rfl rfl rfl rfl rfl rfl rfl rfl rfl rfl (by simp) (by show (_ + 1) * 8 ≤ _; first | omega | (simp only; omega)) (by first | omega | (simp only; omega)) ?_
        refine KW.nxt rfl rfl (fun H' g => ⟨(i + 1, _), ⟨by simp only; omega, upto hj ⟨w0, by rw [hxe, hbe]; exact hle⟩⟩, by first | omega | (simp only; omega), ⟨rfl, rfl, rfl, by simp only [lwI, e, List.length_append, List.length_singleton]; rfl, congrArg (Value.int .i64) (inc64 (by omega)), trivial⟩, g.eqT (by simp only [lwI, e, List.map_append]; rfl)⟩)
  · have k1 : ¬ (i : Int) < (numsI chain).length := k1
    obtain rfl : i = chain.length := by omega
    refine KW.retM1 rfl rfl rfl rfl (fun H1 g => ⟨true, _, rfl, .inl ⟨rfl, hj, MkL.of g (j := 0) rfl (g.ge (H1 := H) (j := 0) rfl)⟩⟩)
end
end Go.Proofs.Ytmkpfllbmdahkaa.Am
/- Contracts: SequenceFor of the reference, its answer. Each holds under its own conditions. -/
set_option linter.unusedVariables false
set_option linter.unusedSimpArgs false
set_option maxRecDepth 20000
namespace Go.Proofs.Ytmkpfllbmdahkaa.Am
open Go Go.RowKit Go.Proofs
section
variable {S : Ids} {H0 : AH}
theorem l07Lists {m : Nat} (hm : m ≤ 63) {a c} {xs : List Int} (hl : xs.length ≤ 1048576) (hx : ∀ x ∈ xs, 0 ≤ x ∧ x < 4611686018427387904) (hs : KI.Sl S H0 (.slice a xs.length c) xs) : SpecM Try.prog S H0 159 [.slice a xs.length c, .int .i64 m] (MkSS (xs.map fun v => hold v.toNat m)) := by
  refine SpecM.of1 Try.func159 rfl (by kernel_rfl) rfl (fun H _ => ?_)
  refine KW.lit rfl rfl rfl rfl rfl rfl rfl rfl rfl rfl [] rfl rfl (fun v hv => by simp at hv) rfl ?_
  refine KW.lpM rfl rfl (fun s : RwS => [(0, .slice a xs.length c), (1, .int .i64 m), (5, .slice (some ⟨s.o, 0, some 1⟩) s.i s.i), (6, .int .i64 s.i)]) (fun s => s.S) (fun s => s.A) (fun s => [(s.o, ⟨_, true, s.cs⟩)]) (fun s => RwI (fun v => hold v.toNat m) xs H (Low H.n) H s) (fun s => xs.length - s.i) (⟨0, Low H.n, H, fun _ => False, [], _⟩) (RwI.start) ⟨rfl, rfl, rfl, rfl, trivial⟩ rfl rfl rfl (fun s hi bE n => ?_)
  haveI : Stp (Low H.n) H s.S s.A := ⟨hi.old⟩
  have hle := hi.le
  have hcl := hi.b.len
  rw [List.length_map, List.length_take] at hcl
  refine KW.cnd rfl rfl (fun k1 => ?_) (fun k1 => ?_)
  · refine KW.getI hs.up rfl rfl rfl rfl rfl rfl rfl rfl rfl rfl rfl rfl rfl rfl rfl rfl (by omega) (k1) (fun y hy => ?_)
    have hy : xs[s.i]? = some y := hy
    have hyb := hx y (List.mem_of_getElem? hy)
    refine KW.ids (fun hlow hvar => ?_)
    refine KW.fact (fun _ g => g.nle (H1 := H)) (fun hn0 => ?_)
    obtain ⟨z, rfl⟩ : ∃ z : Nat, y = z := ⟨y.toNat, by omega⟩
    refine KW.callN1 rfl rfl rfl rfl rfl (l06Holders (x := z) (m := m) (by omega) hm) (fun v HC SC mC _ _ hv => ?_)
    obtain ⟨a5, c5, rfl, hC⟩ := hv
    refine KW.app1 (xs := s.cs) (v := .slice a5 (hold z m).length c5) 0 1 rfl rfl rfl rfl rfl rfl rfl rfl rfl rfl rfl rfl rfl rfl rfl rfl rfl rfl rfl rfl rfl rfl rfl (by omega) (by show (_ + 1) * 24 ≤ _; omega) (by first | omega | (simp only; omega)) ?_
    exact KW.nxt rfl rfl (fun H' g => ⟨_, hi.next (inferInstance : Stp s.S s.A SC HC).st inferInstance hlow hn0 hy hC, by simp only; omega, ⟨rfl, rfl, rfl, congrArg (Value.int .i64) (inc64 (by omega)), trivial⟩, g⟩)
  · have he : s.i = xs.length := by omega
    refine KW.retM1 rfl rfl rfl rfl (fun H1 g => ?_)
    have := hi.ml he g (j := 0) rfl (g.ge (H1 := H) (j := 0) rfl)
    rw [← he] at this
    exact ⟨_, _, by rw [List.length_map, ← he]; rfl, by rw [List.length_map, ← he]; exact this⟩
theorem chain_iff {gs : List (List Int)} {k q : Nat} {chain : List (List Int)} (h0 : ¬ Opens gs 0) : (ChainC gs k (nums chain) chain.length ∧ ∀ i, i < chain.length → ∃ w, Least gs k (bef (nums chain) i) ((nums chain).getD i 0) w true) ↔ ∀ i, i < chain.length → OkAt gs k (nums chain) i := by
  constructor
  · rintro ⟨⟨h1, h2⟩, h3⟩ i hi
    -- each set lies in the last one
    have up : ∀ d j, j + d = chain.length → bef (nums chain) j &&& bef (nums chain) chain.length = bef (nums chain) j := fun d => by
      induction d with
      | zero => intro j hj; rw [show j = chain.length by omega]; exact Nat.and_self _
      | succ d ih =>
        intro j hj
        have h4 := ih (j + 1) (by omega)
        have h5 := (h1 j (by omega)).2.1
        rw [bef_succ] at h4
        have h6 : bef (nums chain) j = bef (nums chain) j &&& (nums chain).getD j 0 := by rw [Nat.and_comm]; exact h5.symm
        rw [h6, Nat.and_assoc, h4]
    have h4 := up (chain.length - (i + 1)) (i + 1) (by omega)
    rw [bef_succ] at h4
    have h5 := h1 i hi
    exact ⟨⟨h5.2.2, h5.1, h5.2.1, fun ho => h2 (opens_up ho h4)⟩, h3 i hi⟩
  · intro h
    refine ⟨⟨fun i hi => ⟨(h i hi).1.2.1, (h i hi).1.2.2.1, (h i hi).1.1⟩, ?_⟩, fun i hi => (h i hi).2⟩
    rcases Nat.eq_zero_or_pos chain.length with h4 | h4
    · rw [h4]; exact h0
    · have h5 := (h (chain.length - 1) (by omega)).1.2.2.2
      rw [show chain.length = chain.length - 1 + 1 by omega, bef_succ]
      exact h5
theorem notEmpty {m : Int} {gs : List (List Int)} (h : codeF m gs = 0) : ¬ Opens gs 0 := by
  have hf := codeF_ok h
  rintro ⟨g, hg, hb⟩
  rw [Nat.zero_and] at hb
  -- the group is empty, and so is the first one
  have hge : g = [] := by
    cases g with
    | nil => rfl
    | cons x g =>
      obtain ⟨i, hi⟩ := List.getElem?_of_mem hg
      have hx : 0 ≤ x := (hf.below _ hg x List.mem_cons_self).1
      have := (bitsOf_test (g := x :: g) (fun y hy => (hf.below _ hg y hy).1) x.toNat).2 (by have : ((x.toNat : Nat) : Int) = x := by omega
                                                                                             rw [this]; exact List.mem_cons_self)
      rw [← hb] at this
      simp at this
  subst hge
  obtain ⟨i, hi⟩ := List.getElem?_of_mem hg
  have hil := (List.getElem?_eq_some_iff.1 hi).1
  rcases Nat.eq_zero_or_pos i with h0 | h0
  · subst h0
    unfold codeF at h
    rw [if_pos (tv_true hf)] at h
    have e : gs.getD 0 [] = [] := getDL_of hi
    split at h
    · cases h
    · split at h
      · cases h
      · rw [e] at h; simp at h
  · have := (hf.grp i hil).2 h0
    rw [getDL_of hi] at this
    revert this
    cases gs.getD (i - 1) [] <;> simp [lexB]
theorem holdUp {x q m : Nat} (hx : x < 2 ^ q) (hq : q ≤ m) : hold x m = hold x q := by
  have := hold_up hx (m - q)
  rw [show q + (m - q) = m by omega] at this
  exact this
theorem spec_SequenceFor {y : T_Family} {known : List Int} {chain : List (List Int)} {ds : List Value} {a1 c1 a2 c2} (hF : B_Family y) (hK : B_Int64S known) (hC : B_Int64SS chain) (h : K_Family.R S H0 y ds) (k : K_Int64S.R S H0 known [.slice a1 known.length c1]) (k' : K_Int64SS.R S H0 chain [.slice a2 chain.length c2]) :
    SpecM Try.prog S H0 84 [.agg ds.toArray, .slice a1 known.length c1, .slice a2 chain.length c2] (MkQC (r0_SequenceFor y known chain) (r1_SequenceFor y known chain)) := by
  obtain ⟨a3, c3, rfl, h1⟩ := split_Family h
  have s1 := sl1 h1
  have s2 := sl1 k
  have s3 := sl1 k'
  obtain ⟨m, gs⟩ := y
  simp only at s1 ⊢
  have hsm : Sml gs := hF.2
  have hkl : known.length ≤ 1048576 := hK
  have hcl := hC.len
  refine SpecM.of1 Try.func84 rfl (by kernel_rfl) rfl (fun H _ => ?_)
  refine KW.callV1 rfl rfl rfl rfl rfl (fun H1 g _ => l07Family m hsm (g.blk (j := 0) rfl).2 (g.blk (j := 0) rfl).1 s1.up) (fun _ _ => ?_)
  by_cases hc : codeF m gs = 0
  · rw [hc]
    have hf := codeF_ok hc
    have hm1 := hf.h1
    have hm7 := hf.h2
    obtain ⟨q, hq⟩ : ∃ q : Nat, m = q := ⟨m.toNat, by omega⟩
    have hb : Below' q gs := by have := hf.below; rw [hq] at this; simpa using this
    have h0 := notEmpty hc
    have h5 : ¬ m > 5 := fun hx => by unfold codeF at hc; rw [if_pos (tv_true hf), if_pos hx] at hc; cases hc
    have hp := small_pow (m := q) (by omega)
    refine KW.cF rfl rfl (by first | (simp; done) | decide) ?_
    refine KW.callV1 rfl rfl rfl rfl rfl (fun H1 g _ => l07Group m ⟨hm1, hm7⟩ ((g.has (j := 0) rfl rfl).take (vs := [_])) hkl s2.up) (fun _ _ => ?_)
    by_cases hk1 : Rises 0 (m - 1) known
    · rw [tv_true hk1]
      refine KW.tF rfl rfl (by first | (simp; done) | decide) ?_
      refine KW.callV1 rfl rfl rfl rfl rfl (fun H1 g _ => l07Groups m ⟨hm1, hm7⟩ ((g.has (j := 0) rfl rfl).take (vs := [_])) hC s3.up) (fun _ _ => ?_)
      by_cases hk2 : ∀ g ∈ chain, Rises 0 (m - 1) g
      · rw [tv_true hk2]
        refine KW.cF rfl rfl (by first | (simp; done) | decide) ?_
        have hkb := rises_lt hq hk1
        have hkq : bitsOf known < 2 ^ q := bitsOf_lt (fun x hx => by have := hkb x hx; omega)
        have hnq : ∀ i, i < chain.length → (nums chain).getD i 0 < 2 ^ q := fun i hi => by
          rw [List.getD_eq_getElem?_getD, List.getElem?_map, List.getElem?_eq_getElem hi]
          exact bitsOf_lt (fun x hx => by have := rises_lt hq (hk2 _ (List.getElem_mem hi)) x hx; omega)
        refine KW.callNV1 rfl rfl rfl rfl rfl (fun H1 g _ => l07Open (m := q) (by omega) hsm hb (g.blk (j := 0) rfl).2 (by subst hq; exact (g.blk (j := 0) rfl).1) s1.up) (fun v HO SO mO _ _ hv => ?_)
        obtain ⟨a4, c4, rfl, hO⟩ := hv
        refine KW.callE rfl rfl rfl rfl rfl (l07Bits (m := q) (by omega) (by omega) hkb s2.up) (fun _ _ => ?_)
        refine KW.callN1 rfl rfl rfl rfl rfl (l07Numbers (q := q) (by omega) hC (fun g hg => rises_lt hq (hk2 g hg)) s3.up) (fun v HN SN mN _ _ hv => ?_)
        obtain ⟨a5, c5, rfl, hN⟩ := hv
        refine KW.callE rfl rfl rfl rfl rfl (l07Chain (q := q) (by omega) hkq hcl hnq hO.up hN.ups) (fun _ _ => ?_)
        have hiff := chain_iff (gs := gs) (k := bitsOf known) (q := q) (chain := chain) h0
        by_cases hch : ChainC gs (bitsOf known) (nums chain) chain.length
        · rw [tv_true hch]
          refine KW.cF rfl rfl (by first | (simp; done) | decide) ?_
          refine KW.callN1 rfl rfl rfl rfl rfl (l07Withs (q := q) (by omega) hkq hcl hnq hO.up hN.ups) (fun v HW SW mW _ _ hv => ?_)
          obtain ⟨ok, v', rfl, hW⟩ := hv
          rcases hW with ⟨rfl, hall, a6, c6, rfl, hW⟩ | ⟨rfl, hno, a6, n6, c6, rfl⟩
          · refine KW.cF rfl rfl (by first | (simp; done) | decide) ?_
            obtain ⟨e1, e0⟩ := sf_ok (y := (m, gs)) (known := known) (chain := chain) hc ⟨hk1, hk2⟩ (hiff.1 ⟨hch, hall⟩)
            rw [e1, e0]
            have hm63 : q ≤ 63 := by omega
            subst hq
            refine KW.callN1 rfl rfl rfl rfl rfl (l06Holders (x := bitsOf known) (m := q) (by omega) hm63) (fun v HK SK mK _ _ hv => ?_)
            obtain ⟨a7, c7, rfl, hKk⟩ := hv
            rw [hold_bits q hk1] at hKk ⊢
            refine KW.callN1 rfl rfl rfl rfl rfl (l07Lists (m := q) hm63 (by rw [List.length_map]; exact hcl) (fun x hx => by obtain ⟨g, hg, rfl⟩ := List.mem_map.1 hx; have := bits256 (q := q) (by omega) (rises_lt rfl (hk2 g hg)); omega) hN.ups) (fun v HL SL mL _ _ hv => ?_)
            obtain ⟨a8, c8, rfl, hL⟩ := hv
            have eL : ((numsI chain).map fun v => hold v.toNat q) = chain := by
              rw [List.map_map]
              refine Eq.trans (List.map_congr_left (g := id) fun g hg => ?_) (List.map_id _)
              show hold ((bitsOf g : Nat) : Int).toNat q = g
              rw [Int.toNat_natCast]
              exact hold_bits q (hk2 g hg)
            rw [eL] at hL ⊢
            have lwx : ∀ i, i < chain.length → leastW gs (bitsOf known) (bef (nums chain) i) ((nums chain).getD i 0) < 2 ^ q := fun i hi => by
              obtain ⟨w, hw⟩ := hall i hi
              rw [leastW_eq hw]
              rcases hw with ⟨_, h, _⟩ | ⟨h, _⟩
              · omega
              · cases h
            refine KW.callN1 rfl rfl rfl rfl rfl (l07Lists (m := q) hm63 (by simp [lwI]; exact hcl) (fun x hx => by obtain ⟨i, hi, rfl⟩ := List.mem_map.1 hx; have := lwx i (List.mem_range.1 hi); omega) hW.ups) (fun v HM SM mM _ _ hv => ?_)
            obtain ⟨a9, c9, rfl, hM⟩ := hv
            have eM : ((lwI gs (bitsOf known) (nums chain) chain.length).map fun v => hold v.toNat q) = withs gs (bitsOf known) (nums chain) chain.length := by
              unfold lwI withs withAt
              rw [List.map_map]
              refine List.map_congr_left fun i hi => ?_
              show hold ((leastW _ _ _ _ : Nat) : Int).toNat q = _
              rw [Int.toNat_natCast]
              exact (holdUp (lwx i (List.mem_range.1 hi)) (by omega)).symm
            rw [eM] at hM ⊢
            refine KW.build rfl rfl rfl rfl rfl (built_Seq3 _ _ _ _ _ _ _ _ _) ?_
            refine KW.retM1 rfl rfl rfl rfl (fun H1 g => ?_)
            have r1 : KI.Ml (New _ HK.n) H1 _ known := ml1 (g.keep (ml1' hKk))
            have r2 : KI.ml.Ml (New _ HL.n) H1 _ chain := ml1 (g.keep (ml1' hL))
            have r3 : KI.ml.Ml (New _ HM.n) H1 _ _ := ml1 (g.keep (ml1' hM))
            refine ⟨_, rfl, mpR (cs := [.slice a7 known.length c7]) (Y := New HK.n H1.n) (ml1' r1) (mpR (cs := [.slice a8 chain.length c8]) (ml1' r2) (ml1' r3) (g.inn (H := HL) (fun _ p => by have := p.1; omega)) (g.inn (H := HM) (fun _ p => by have := p.1; omega)) (fun id p r => by have := p.2; have := r.1; omega)) (g.inn (H := HK) (fun _ p => by have := p.1; omega)) (fun id p => ⟨by have := p.1; omega, p.2⟩) (fun id p r => by have := p.2; have := r.1; omega)⟩
          · refine KW.cT rfl rfl (by first | (simp; done) | decide) ?_
            obtain ⟨e1, e0⟩ := sf_proof (y := (m, gs)) (known := known) (chain := chain) hc ⟨hk1, hk2⟩ (fun hall => by obtain ⟨i, hi, hn⟩ := hno; exact hn (hall i hi).2)
            rw [e1, e0]
            refine KW.build rfl rfl rfl rfl rfl (built_Seq0) ?_
            refine KW.retM1 rfl rfl rfl rfl (fun H1 g => ?_)
            exact MkQC.nil rfl
        · rw [tv_false hch]
          refine KW.cT rfl rfl (by first | (simp; done) | decide) ?_
          obtain ⟨e1, e0⟩ := sf_proof (y := (m, gs)) (known := known) (chain := chain) hc ⟨hk1, hk2⟩ (fun hall => hch (hiff.2 hall).1)
          rw [e1, e0]
          refine KW.build rfl rfl rfl rfl rfl (built_Seq0) ?_
          refine KW.retM1 rfl rfl rfl rfl (fun H1 g => ?_)
          exact MkQC.nil rfl
      · rw [tv_false hk2]
        refine KW.cT rfl rfl (by first | (simp; done) | decide) ?_
        obtain ⟨e1, e0⟩ := sf_range (y := (m, gs)) (known := known) (chain := chain) hc (fun hx => hk2 hx.2)
        rw [e1, e0]
        refine KW.build rfl rfl rfl rfl rfl (built_Seq0) ?_
        refine KW.retM1 rfl rfl rfl rfl (fun H1 g => ?_)
        exact MkQC.nil rfl
    · rw [tv_false hk1]
      refine KW.tT rfl rfl (by first | (simp; done) | decide) ?_
      refine KW.cT rfl rfl (by first | (simp; done) | decide) ?_
      obtain ⟨e1, e0⟩ := sf_range (y := (m, gs)) (known := known) (chain := chain) hc (fun hx => hk1 hx.1)
      rw [e1, e0]
      refine KW.build rfl rfl rfl rfl rfl (built_Seq0) ?_
      refine KW.retM1 rfl rfl rfl rfl (fun H1 g => ?_)
      exact MkQC.nil rfl
  · refine KW.cndB rfl rfl (fun k2 => ?_) (fun k2 => ?_)
    · obtain ⟨e1, e0⟩ := sf_code (y := (m, gs)) (known := known) (chain := chain) hc
      rw [e1, e0]
      refine KW.build rfl rfl rfl rfl rfl (built_Seq0) ?_
      refine KW.retM1 rfl rfl rfl rfl (fun H1 g => ?_)
      exact MkQC.nil rfl
    · exact absurd (by simpa using k2) hc
theorem bound_SequenceFor {y : T_Family} {known : List Int} {chain : List (List Int)} (hF : B_Family y) (hK : B_Int64S known) (hC : B_Int64SS chain) : B_Sequence (r0_SequenceFor y known chain) := by
  unfold r0_SequenceFor
  split
  · rename_i h
    unfold r1_SequenceFor at h
    split at h
    · rename_i hc
      split at h
      · rename_i h2
        have h2 := tv_iff.1 h2
        split at h
        · rename_i h3
          have h3 := tv_iff.1 h3
          have hf := codeF_ok hc
          obtain ⟨q, hq⟩ : ∃ q : Nat, y.1 = q := ⟨y.1.toNat, by have := hf.h1; omega⟩
          have hq7 : q ≤ 7 := by have := hf.h2; omega
          have hp := small_pow (m := q) (by omega)
          -- the numbers of the chain rise
          have up : ∀ i, i ≤ chain.length → i ≤ bef (nums chain) i := fun i => by
            induction i with
            | zero => intro _; exact Nat.zero_le _
            | succ i ih =>
              intro hi
              have h4 := ih (by omega)
              have h5 := (h3 i (by omega)).1
              rw [bef_succ]
              have h6 : bef (nums chain) i ≤ (nums chain).getD i 0 := by rw [← h5.2.2.1]; exact Nat.and_le_left
              have h7 := h5.2.1
              omega
          have h8 := up chain.length (Nat.le_refl _)
          have h9 := bef_lt (q := q) (ns := nums chain) (fun i hi => by
            have hi : i < chain.length := by simpa using hi
            rw [List.getD_eq_getElem?_getD, List.getElem?_map, List.getElem?_eq_getElem hi]
            exact bitsOf_lt (fun x hx => by have := rises_lt hq (h2.2 _ (List.getElem_mem hi)) x hx; omega)) chain.length (by simp)
          refine ⟨hK, hC, ⟨?_, ?_⟩⟩
          · show (withs _ _ _ _).length ≤ _
            simp [withs]; omega
          · have hs : ∀ n, sum (lens (withs y.2 (bitsOf known) (nums chain) n)) ≤ 7 * n := fun n => by
              induction n with
              | zero => exact Nat.le_refl _
              | succ n ih =>
                have e : withs y.2 (bitsOf known) (nums chain) (n + 1) = withs y.2 (bitsOf known) (nums chain) n ++ [withAt y.2 (bitsOf known) (nums chain) n] := by unfold withs; rw [List.range_succ, List.map_append]; rfl
                have ha : ∀ (l : List Nat) (x : Nat), sum (l ++ [x]) = sum l + x := fun l x => by
                  induction l with
                  | nil => simp [sum]
                  | cons z l ih => simp only [List.cons_append, sum, ih]; omega
                have hw : (withAt y.2 (bitsOf known) (nums chain) n).length ≤ 7 := hold_len _ _
                rw [e]
                simp only [lens, List.map_append, List.map_cons, List.map_nil] at ih ⊢
                rw [ha]
                omega
            have := hs chain.length
            show sum (lens (withs _ _ _ _)) ≤ _
            omega
        · cases h
      · cases h
    · rename_i hc
      exact absurd h hc
  · exact ⟨by show 0 ≤ _; omega, ⟨by show 0 ≤ _; omega, by show 0 ≤ _; omega⟩, ⟨by show 0 ≤ _; omega, by show 0 ≤ _; omega⟩⟩
end
end Go.Proofs.Ytmkpfllbmdahkaa.Am
/- Contracts: the least sets of which something is so, as groups in order; families made of them. Each holds under its own conditions. -/
set_option linter.unusedVariables false
set_option linter.unusedSimpArgs false
set_option maxRecDepth 20000
set_option maxHeartbeats 1000000
namespace Go.Proofs.Ytmkpfllbmdahkaa.Am
open Go Go.RowKit Go.Proofs Go.Proofs.Ytmkpfllbmdahkaa.Pl
theorem Spec.up' {P : Program} {S S' : Ids} {H H' : AH} {f : FuncId} {args : List Value} {post : Value → Prop} [o : On S H S' H'] (h : Spec P S H f args post) : Spec P S' H' f args post := fun H1 hf hz => h H1 hf (fun id hid => ⟨(hz id (o.st id hid).1).1, (hz id (o.st id hid).1).2.trans (o.st id hid).2⟩)
structure CrS where
  j : Nat
  S : Ids
  A : AH
  V : Ids
  cs : List Value
  o : Nat
structure CrI (q : Nat) (op : Nat → Prop) (H : AH) (s : CrS) : Prop where
  le : s.j ≤ 2 ^ q
  old : St (Low H.n) H s.S s.A
  b : RowsB KI.ml s.S s.A s.V (minsU q op s.j) s.cs
  v : ∀ id, s.V id → H.n ≤ id
  o : H.n ≤ s.o
section
variable {S : Ids} {H0 : AH}
theorem crowds {q : Nat} (hq : q ≤ 5) {op : Nat → Prop} (hu : UpC (2 ^ q) op) {g : FuncId} {i1 i2 : Nat} {sp1 sp2 : Option Nat} (tell : ∀ c : Nat, c < 2 ^ q → Spec Try.prog S H0 g [.int .u64 c, .pointer (some ⟨i1, 0, none⟩), .pointer (some ⟨i2, 0, none⟩)] (fun v => v = .bool (tv (Mn q op c)))) :
    SpecM Try.prog S H0 224 [.int .i64 q, .func (.func g) #[] #[.pointer (some ⟨i1, 0, sp1⟩), .pointer (some ⟨i2, 0, sp2⟩)]] (MkSS (isA (minsU q op (2 ^ q)))) := by
  refine SpecM.of1 Try.func224 rfl (by kernel_rfl) rfl (fun H _ => ?_)
  have hp : 2 ^ q ≤ 32 := by
    have := Nat.pow_le_pow_right (n := 2) (by decide) hq
    simpa using this
  have hpos := Nat.two_pow_pos q
  refine KW.lit rfl rfl rfl rfl rfl rfl rfl rfl rfl rfl [] rfl rfl (fun v hv => by simp at hv) rfl ?_
  refine KW.lpM rfl rfl (fun s : CrS => [(0, .int .i64 q), (1, .func (.func g) #[] #[.pointer (some ⟨i1, 0, sp1⟩), .pointer (some ⟨i2, 0, sp2⟩)]), (5, .slice (some ⟨s.o, 0, some 1⟩) (minsU q op s.j).length (minsU q op s.j).length), (6, .int .u64 s.j)]) (fun s => s.S) (fun s => s.A) (fun s => [(s.o, ⟨_, true, s.cs⟩)]) (fun s => CrI q op H s) (fun s => 2 ^ q - s.j) (⟨0, Low H.n, H, fun _ => False, [], H.n⟩) (⟨Nat.zero_le _, fun id hid => ⟨hid, rfl⟩, RowsB.nil _ _, fun _ h => h.elim, Nat.le_refl _⟩) ⟨rfl, rfl, rfl, rfl, trivial⟩ rfl rfl rfl (fun s hi bE n => ?_)
  obtain ⟨j, S1, A1, V, cs, o⟩ := s
  obtain ⟨g1, g2, g3, g4, g5⟩ := hi
  simp only at g1 g2 g3 g4 g5
  haveI : Stp (Low H.n) H S1 A1 := ⟨g2⟩
  have hcl := g3.len
  have hml := minsU_len (q := q) (op := op) (n := j)
  refine KW.callE rfl rfl rfl rfl rfl (everybody (m := q) (by omega)) (fun _ _ => ?_)
  refine KW.cnd rfl rfl (fun k1 => ?_) (fun k1 => ?_)
  · have k1 : (j : Int) ≤ ((2 ^ q - 1 : Nat) : Int) := k1
    have hx : j < 2 ^ q := by omega
    refine KW.callE rfl rfl rfl rfl rfl ((tell j hx).up') (fun _ _ => ?_)
    refine KW.cndB rfl rfl (fun k2 => ?_) (fun k2 => ?_)
    · have eN : minsU q op (j + 1) = minsU q op j ++ [hold j q] := by rw [minsU_next, if_pos k2]
      have eNl : (minsU q op (j + 1)).length = (minsU q op j).length + 1 := by rw [eN, List.length_append, List.length_singleton]
      refine KW.ids (fun hlow hvar => ?_)
      refine KW.fact (fun _ g => g.nle (H1 := H)) (fun hn0 => ?_)
      refine KW.callN1 rfl rfl rfl rfl rfl (group (x := j) (by omega)) (fun v HC SC mC _ _ hv => ?_)
      obtain ⟨a5, c5, rfl, hC⟩ := hv
      rw [holdUp hx (show q ≤ 7 by omega)] at hC ⊢
      refine KW.app1 (xs := cs) (v := .slice a5 (hold j q).length c5) 0 1 rfl rfl rfl rfl rfl rfl rfl rfl rfl rfl rfl rfl rfl rfl rfl rfl rfl rfl rfl rfl rfl rfl rfl (by omega) (by show ((minsU q op j).length + 1) * 24 ≤ _; omega) (by show (minsU q op j).length + 1 ≤ _; omega) ?_
      have wC : On (New _ HC.n) HC SC HC := ‹_›
      have fI := (g3.up (S' := SC) (A' := HC)).snoc (ml1' hC) (fun id hid => (wC.st id hid).1) (fun id p r => by have := hlow id (g3.sub id p); have := r.1; omega)
      have fV : ∀ id, V id ∨ New _ HC.n id → H.n ≤ id := fun id hid => hid.elim (g4 id) (fun p => Nat.le_trans hn0 p.1)
      have tH : St (Low H.n) H SC HC := (inferInstance : On (Low H.n) H SC HC).st
      exact KW.nxt rfl rfl (fun H' g => ⟨⟨j + 1, SC, HC, _, _, _⟩, ⟨hx, tH, by simp only [eN]; exact fI, fV, by simp only; omega⟩, by simp only; omega, ⟨rfl, rfl, congrArg (fun z => Value.slice (some ⟨_, 0, some 1⟩) z z) eNl.symm, congrArg (Value.int .u64) (incu64 (by omega)), trivial⟩, g⟩)
    · have k2 : ¬ tv (Mn q op j) = true := by simpa using k2
      have eN : minsU q op (j + 1) = minsU q op j := by rw [minsU_next, if_neg k2]
      exact KW.nxt rfl rfl (fun H' g => ⟨⟨j + 1, S1, A1, V, cs, o⟩, ⟨by simp only; omega, g2, by simp only [eN]; exact g3, g4, g5⟩, by simp only; omega, ⟨rfl, rfl, congrArg (fun z => Value.slice (some ⟨o, 0, some 1⟩) (List.length z) (List.length z)) eN.symm, congrArg (Value.int .u64) (incu64 (by omega)), trivial⟩, g⟩)
  · have k1 : ¬ (j : Int) ≤ ((2 ^ q - 1 : Nat) : Int) := k1
    obtain rfl : j = 2 ^ q := by have := Nat.two_pow_pos q; omega
    have hten := mins_ten hq hu
    refine KW.freeze 0 rfl (fun A2 S2 hn2 hS2 st2 hm2 ho2 hnS2 hlow2 => ?_)
    have hY : ∀ i, S1 i → S2 i ∧ i ≠ o := fun i hi => ⟨(st2.st i hi).1, fun e => hnS2 (e ▸ hi)⟩
    have g3' : RowsB KI.ml S1 A2 V (minsU q op (2 ^ q)) cs := g3.back g3 (fun i hi => (st2.st i (g3.sub i hi)).2)
    refine KW.callW (W := fun i => i = o) (fun i hi => (hS2 i).2 (.inr hi)) rfl rfl rfl rfl rfl (sortFunc (rows := minsU q op (2 ^ q)) (by omega) (fun x hx => by have := minsU_mem hx; omega) ((hS2 o).2 (.inr rfl)) hm2 hY g3') (fun v H3 S3 hn3 st3 hw3 hp3 => ?_)
    obtain ⟨cs', p1, p2⟩ := hp3
    refine KW.thaw o _ (st3 o ((hS2 o).2 (.inr rfl))).1 p1 ?_
    have t4 : ∀ i, S1 i → (S3 i ∧ i ≠ o) ∧ H3.m i = A1.m i := fun i hi => ⟨⟨(st3 i (hY i hi).1).1, (hY i hi).2⟩, ((st3 i (hY i hi).1).2 (hY i hi).2).trans (st2.st i hi).2⟩
    haveI : Stp S1 A1 (fun i => S3 i ∧ i ≠ o) H3 := ⟨t4⟩
    have p3 : RowsB KI.ml (fun i => S3 i ∧ i ≠ o) H3 V (isA (minsU q op (2 ^ q))) cs' := ⟨p2.len, fun i hi => (t4 i (g3.sub i hi)).1, p2.rows⟩
    refine KW.retM1 rfl rfl rfl rfl (fun H1 g => ?_)
    have hm := p3.ml (X := New H.n H1.n) rfl g (j := 0) rfl ⟨g5, by have h1 : o < H3.n := (g.vars 0 _ rfl).2.1; have := g.n_; omega⟩ (fun i hi => ⟨g4 i hi, by have := (g.froz i (p3.sub i hi)).1; have := g.n_; omega⟩)
    exact ⟨_, _, by rw [isA_len]; rfl, by rw [isA_len] at hm ⊢; exact hm⟩
theorem famIs {q : Nat} (hq : q ≤ 5) {op : Nat → Prop} {g : FuncId} {i1 i2 k1 k2 : Nat} {sp1 sp2 : Option Nat} {ty1 ty2 : TypeId} {w1 w2 : Bool} (h1 : S i1 ∧ H0.m i1 = some ⟨ty1, w1, [.func (.func g) #[] #[.pointer (some ⟨k1, 0, sp1⟩), .pointer (some ⟨k2, 0, sp2⟩)]]⟩) (h2 : S i2 ∧ H0.m i2 = some ⟨ty2, w2, [.int .i64 q]⟩) (tell : ∀ c : Nat, c < 2 ^ q → Spec Try.prog S H0 g [.int .u64 c, .pointer (some ⟨k1, 0, none⟩), .pointer (some ⟨k2, 0, none⟩)] (fun v => v = .bool (tv (op c)))) {c : Nat} (hc : c < 2 ^ q) :
    Spec Try.prog S H0 225 [.int .u64 c, .pointer (some ⟨i1, 0, none⟩), .pointer (some ⟨i2, 0, none⟩)] (fun v => v = .bool (tv (Mn q op c))) := by
  have hp : 2 ^ q ≤ 32 := by
    have := Nat.pow_le_pow_right (n := 2) (by decide) hq
    simpa using this
  refine Spec.of1 Try.func225 rfl (by kernel_rfl) rfl (fun H _ => ?_)
  obtain ⟨a1, b1⟩ := On.blk (S' := Low H.n) (H' := H) h1.1 h1.2
  obtain ⟨a2, b2⟩ := On.blk (S' := Low H.n) (H' := H) h2.1 h2.2
  refine KW.ldP a1 b1 rfl rfl rfl rfl rfl rfl ?_
  refine KW.callE rfl rfl rfl rfl rfl ((tell c hc).up') (fun _ _ => ?_)
  refine KW.cndB rfl rfl (fun k3 => ?_) (fun k3 => ?_)
  · have k3 : ¬ op c := fun hx => by rw [tv_true hx] at k3; cases k3
    exact KW.ret rfl rfl rfl rfl (by rw [tv_false (p := Mn q op c) (fun hx => k3 hx.1)]; rfl)
  · have k3 : op c := Classical.byContradiction fun hx => by rw [tv_false hx] at k3; cases k3
    refine KW.ldP a2 b2 rfl rfl rfl rfl rfl rfl ?_
    refine KW.lp rfl rfl (fun h : Nat => [(0, .int .u64 c), (1, .pointer (some ⟨i1, 0, none⟩)), (2, .pointer (some ⟨i2, 0, none⟩)), (10, .int .i64 q), (11, .int .i64 h)]) (fun h => h ≤ q ∧ ∀ i, i < h → c.testBit i = true → ¬ op (dif c (2 ^ i))) (fun h => q - h) (0) (⟨Nat.zero_le _, fun i hi => absurd hi (Nat.not_lt_zero _)⟩) ⟨rfl, rfl, rfl, rfl, rfl, trivial⟩ (fun h hi bE n => ?_)
    obtain ⟨hh, hj⟩ := hi
    refine KW.cnd rfl rfl (fun k4 => ?_) (fun k4 => ?_)
    · have k4 : (h : Int) < (q : Int) := k4
      refine KW.callE rfl rfl rfl rfl rfl (has (x := c) (h := h) (by omega) (by omega)) (fun _ _ => ?_)
      refine KW.tstB rfl rfl (fun k5 => ?_) (fun k5 => ?_)
      · have k5 : c.testBit h = true := k5
        have hph : 2 ^ h ≤ 32 := by
          have := Nat.pow_le_pow_right (n := 2) (by decide) (show h ≤ 5 by omega)
          simpa using this
        have hd : dif c (2 ^ h) ≤ c := dif_le
        refine KW.ldP a1 b1 rfl rfl rfl rfl rfl rfl ?_
        refine KW.shlU rfl rfl rfl rfl rfl rfl h rfl (by omega) ?_
        refine KW.callE rfl rfl rfl rfl rfl ((by show Spec _ _ _ _ [.int .u64 (IntKind.u64.wrap _), _, _] _; rw [andnot_u64 (by omega) (by omega)]; exact (tell (dif c (2 ^ h)) (by omega)).up')) (fun _ _ => ?_)
        refine KW.cndB rfl rfl (fun k6 => ?_) (fun k6 => ?_)
        · have k6 : op (dif c (2 ^ h)) := tv_iff.1 k6
          exact KW.ret rfl rfl rfl rfl (by rw [tv_false (p := Mn q op c) (fun hx => hx.2 h (by omega) k5 k6)]; rfl)
        · have k6 : ¬ op (dif c (2 ^ h)) := fun hx => by rw [tv_true hx] at k6; cases k6
          refine KW.nxt rfl rfl (fun H' g => ⟨(h + 1), ⟨by omega, upto hj (fun _ => k6)⟩, by first | omega | (simp only; omega), ⟨rfl, rfl, rfl, rfl, congrArg (Value.int .i64) (inc64 (by omega)), trivial⟩, g⟩)
      · refine KW.cF rfl rfl (by first | (simp; done) | decide) ?_
        refine KW.nxt rfl rfl (fun H' g => ⟨(h + 1), ⟨by omega, upto hj (fun hx => by rw [hx] at k5; cases k5)⟩, by first | omega | (simp only; omega), ⟨rfl, rfl, rfl, rfl, congrArg (Value.int .i64) (inc64 (by omega)), trivial⟩, g⟩)
    · have k4 : ¬ (h : Int) < (q : Int) := k4
      exact KW.ret rfl rfl rfl rfl (by rw [tv_true (p := Mn q op c) ⟨k3, fun i hi hb => hj i (by omega) hb⟩]; rfl)
end
end Go.Proofs.Ytmkpfllbmdahkaa.Am
/- Contracts: RanksFamily of the program. Each holds under its own conditions. -/
set_option linter.unusedVariables false
set_option linter.unusedSimpArgs false
set_option maxRecDepth 20000
set_option maxHeartbeats 1000000
namespace Go.Proofs.Ytmkpfllbmdahkaa.Am
open Go Go.RowKit Go.Proofs Go.Proofs.Ytmkpfllbmdahkaa.Pl
theorem built_Fam0 : Try.prog.built 93 [] = some #[.int .i64 0, .slice none 0 0] := by kernel_rfl
theorem built_Fam2 (m : Int) (a : Option Addr) (n c : Nat) : Try.prog.built 93 [(0, .int .i64 m), (1, .slice a n c)] = some #[.int .i64 m, .slice a n c] := by kernel_rfl
/-- A family that has been made. -/
def MkFam (m : Int) (L : List (List Int)) (n : Nat) (v : Value) (H1 : AH) : Prop := ∃ a c, v = .agg #[.int .i64 m, .slice a L.length c] ∧ KI.ml.Ml (New n H1.n) H1 (.slice a L.length c) L
/-- Groups that have all that a whole one has. -/
def RkOp (l : List Int) (w c : Nat) : Prop := l.getD (c ||| w) 0 ≤ l.getD c 0
noncomputable def r1_RanksFamily (x : T_Ranks) (whole : List Int) : Int := if tv (OkR x.1 x.2.1 x.2.2) = true then (if tv (Rises 0 (x.1 - 1) whole) = true then 0 else 2) else 1
noncomputable def r0_RanksFamily (x : T_Ranks) (whole : List Int) : T_Family := if r1_RanksFamily x whole = 0 then (x.1, isA (minsU x.1.toNat (RkOp x.2.2 (bitsOf whole)) (2 ^ x.1.toNat))) else (0, [])
def MkFC (r : T_Family) (code : Int) (n : Nat) (v : Value) (H1 : AH) : Prop := ∃ cs : List Value, v = .tuple #[.agg cs.toArray, .int .i64 code] ∧ M_Family.R (New n H1.n) H1 r cs
theorem famM {X : Ids} {H : AH} {m : Int} {L : List (List Int)} {a : Option Addr} {c : Nat} (h : KI.ml.Ml X H (.slice a L.length c) L) : M_Family.R X H (m, L) [.int .i64 m, .slice a L.length c] :=
  mpR (X := None_) (show KI.R None_ H _ [.int .i64 m] from rfl) (ml1' h) (fun _ p => p.elim) (fun _ p => p) (fun _ p _ => p.elim)
theorem famNil {X : Ids} {H : AH} : M_Family.R X H (0, []) [.int .i64 0, .slice none 0 0] :=
  mpR (X := None_) (show KI.R None_ H _ [.int .i64 0] from rfl) nilM (fun _ p => p.elim) (fun _ p => p) (fun _ p _ => p.elim)
theorem rk_up {m u : Int} {l : List Int} (h : OkR m u l) {w : Nat} (hw : w < 2 ^ m.toNat) : UpC (2 ^ m.toNat) (RkOp l w) := fun a b ha hb hs h1 => by
  obtain ⟨_, _, hl, _, _, hM⟩ := h
  have e1 : b ||| (a ||| w) = b ||| w := Nat.eq_of_testBit_eq fun i => by
    have e : (a &&& b).testBit i = a.testBit i := by rw [hs]
    rw [Nat.testBit_and] at e
    simp only [Nat.testBit_or]
    cases ea : a.testBit i <;> cases eb : b.testBit i <;> simp [ea, eb] at e ⊢
  have e2 : (b &&& (a ||| w)) &&& a = a := Nat.eq_of_testBit_eq fun i => by
    have e : (a &&& b).testBit i = a.testBit i := by rw [hs]
    rw [Nat.testBit_and] at e
    simp only [Nat.testBit_or, Nat.testBit_and]
    cases ea : a.testBit i <;> cases eb : b.testBit i <;> simp [ea, eb] at e ⊢
  have haw : a ||| w < 2 ^ m.toNat := Nat.or_lt_two_pow ha hw
  have hx : b &&& (a ||| w) < 2 ^ m.toNat := Nat.lt_of_le_of_lt Nat.and_le_left hb
  have m1 := hM b (by omega) (a ||| w) (by omega)
  have m2 := hM a (by omega) (b &&& (a ||| w)) (by omega)
  unfold Bad at m1 m2
  rw [e1] at m1
  rw [Nat.and_comm] at m2
  unfold RkOp at h1 ⊢
  by_cases c1 : l.getD a 0 > l.getD (b &&& (a ||| w)) 0
  · exact (m2 (.inl ⟨by rw [Nat.and_comm] at e2 ⊢; exact e2, c1⟩)).elim
  · by_cases c2 : l.getD b 0 + l.getD (a ||| w) 0 < l.getD (b ||| w) 0 + l.getD (b &&& (a ||| w)) 0
    · exact (m1 (.inr c2)).elim
    · omega
section
variable {S : Ids} {H0 : AH}
theorem familyOf {q : Nat} (hq : q ≤ 5) {op : Nat → Prop} (hu : UpC (2 ^ q) op) {g : FuncId} {k1 k2 : Nat} {sp1 sp2 : Option Nat} (tell : ∀ c : Nat, c < 2 ^ q → Spec Try.prog S H0 g [.int .u64 c, .pointer (some ⟨k1, 0, none⟩), .pointer (some ⟨k2, 0, none⟩)] (fun v => v = .bool (tv (op c)))) :
    SpecM Try.prog S H0 171 [.int .i64 q, .func (.func g) #[] #[.pointer (some ⟨k1, 0, sp1⟩), .pointer (some ⟨k2, 0, sp2⟩)]] (MkFam q (isA (minsU q op (2 ^ q)))) := by
  refine SpecM.of1 Try.func171 rfl (by kernel_rfl) rfl (fun H _ => ?_)
  refine KW.callNV1 rfl rfl rfl rfl rfl (fun H1 g _ => crowds (S := Low H1.n) (H0 := H1) hq hu (fun c hc => famIs (S := Low H1.n) (H0 := H1) hq ⟨(g.blk (j := 1) rfl).2, (g.blk (j := 1) rfl).1⟩ ⟨(g.blk (j := 0) rfl).2, (g.blk (j := 0) rfl).1⟩ (fun c hc => (tell c hc).up') hc)) (fun v HC SC mC _ _ hv => ?_)
  obtain ⟨a5, c5, rfl, hC⟩ := hv
  refine KW.build rfl rfl rfl rfl rfl (built_Fam2 _ _ _ _) ?_
  refine KW.retM1 rfl rfl rfl rfl (fun H1 g => ?_)
  exact ⟨_, _, rfl, (ml1 (g.keep (ml1' hC))).more (g.inn (H := HC) (fun _ p => by have := p.1; omega))⟩
theorem rankIs {m u : Int} {q : Nat} {l : List Int} (hl : l.length = 2 ^ q) (hq : q ≤ 5) {w : Nat} (hw : w < 2 ^ q) {i1 i2 : Nat} {a c0} {ty1 ty2 : TypeId} {w1 w2 : Bool} (h1 : S i1 ∧ H0.m i1 = some ⟨ty1, w1, [.int .i64 m, .int .i64 u, .slice a l.length c0]⟩) (h2 : S i2 ∧ H0.m i2 = some ⟨ty2, w2, [.int .u64 w]⟩) (hs : KI.Sl S H0 (.slice a l.length c0) l) {c : Nat} (hc : c < 2 ^ q) :
    Spec Try.prog S H0 172 [.int .u64 c, .pointer (some ⟨i1, 0, none⟩), .pointer (some ⟨i2, 0, none⟩)] (fun v => v = .bool (tv (RkOp l w c))) := by
  have hp : 2 ^ q ≤ 32 := by
    have := Nat.pow_le_pow_right (n := 2) (by decide) hq
    simpa using this
  refine Spec.of1 Try.func172 rfl (by kernel_rfl) rfl (fun H _ => ?_)
  obtain ⟨a1, b1⟩ := On.blk (S' := Low H.n) (H' := H) h1.1 h1.2
  obtain ⟨a2, b2⟩ := On.blk (S' := Low H.n) (H' := H) h2.1 h2.2
  have ho : c ||| w < 2 ^ q := Nat.or_lt_two_pow hc hw
  refine KW.ldP a1 b1 rfl rfl rfl rfl rfl rfl ?_
  refine KW.callE rfl rfl rfl rfl rfl (rank m u c (by omega) hs.up) (fun _ _ => ?_)
  refine KW.ldP a1 b1 rfl rfl rfl rfl rfl rfl ?_
  refine KW.ldP a2 b2 rfl rfl rfl rfl rfl rfl ?_
  refine KW.callE rfl rfl rfl rfl rfl ((by show Spec _ _ _ _ [_, .int .u64 (IntKind.u64.wrap _)] _; rw [or_u64 (by omega) (by omega)]; exact rank m u (c ||| w) (by omega) hs.up)) (fun _ _ => ?_)
  refine KW.ret rfl rfl rfl rfl ?_
  show Value.bool (decide (l.getD c 0 ≥ l.getD (c ||| w) 0)) = _
  rw [tv_dec]
  rfl
theorem impl_RanksFamily {x : T_Ranks} {whole : List Int} {cs : List Value} {a1 c1} (hB0 : B_Ranks x) (hB1 : B_Int64S whole) (h : K_Ranks.R S H0 x cs) (k : K_Int64S.R S H0 whole [.slice a1 whole.length c1]) :
    SpecM Try.prog S H0 78 [.agg cs.toArray, .slice a1 whole.length c1] (MkFC (r0_RanksFamily x whole) (r1_RanksFamily x whole)) := by
  obtain ⟨a3, c3, rfl, h1⟩ := split_Ranks h
  have s1 := sl1 h1
  have s2 := sl1 k
  obtain ⟨m, u, l⟩ := x
  simp only at s1 ⊢
  have hll : l.length ≤ 1048576 := hB0.2.2
  have hwl : whole.length ≤ 1048576 := hB1
  have hm64 : I64 m := hB0.1
  refine SpecM.of1 Try.func78 rfl (by kernel_rfl) rfl (fun H _ => ?_)
  refine KW.callE rfl rfl rfl rfl rfl (validRanks m u hll s1.up) (fun _ _ => ?_)
  by_cases hr : OkR m u l
  · have hq5 := hr.1
    obtain ⟨q, hq⟩ : ∃ q : Nat, m = q := ⟨m.toNat, by omega⟩
    subst hq
    have hl := hr.2.2.1
    rw [Int.toNat_natCast] at hl
    rw [tv_true hr]
    refine KW.cF rfl rfl (by first | (simp; done) | decide) ?_
    refine KW.callE rfl rfl rfl rfl rfl (isGroup (q : Int) (xs := whole) (by omega) (by omega) s2.up) (fun _ _ => ?_)
    by_cases hg : Rises 0 ((q : Int) - 1) whole
    · have e1 : r1_RanksFamily ((q : Int), u, l) whole = 0 := by unfold r1_RanksFamily; rw [if_pos (tv_true hr), if_pos (tv_true hg)]
      have e0 : r0_RanksFamily ((q : Int), u, l) whole = ((q : Int), isA (minsU q (RkOp l (bitsOf whole)) (2 ^ q))) := by unfold r0_RanksFamily; rw [if_pos e1]; rfl
      have hgb := rises_lt rfl hg
      have hw : bitsOf whole < 2 ^ q := bitsOf_lt (fun x hx => by have := hgb x hx; omega)
      have hu : UpC (2 ^ q) (RkOp l (bitsOf whole)) := rk_up hr hw
      rw [tv_true hg, e1, e0]
      refine KW.cF rfl rfl (by first | (simp; done) | decide) ?_
      refine KW.callE rfl rfl rfl rfl rfl (crowdOf (m := q) (by omega) (by omega) hgb s2.up) (fun _ _ => ?_)
      refine KW.callNV1 rfl rfl rfl rfl rfl (fun H1 g _ => familyOf (S := Low H1.n) (H0 := H1) (q := q) (by omega) hu (fun c hc => rankIs (S := Low H1.n) (H0 := H1) hl (by omega) hw ⟨(g.blk (j := 0) rfl).2, (g.blk (j := 0) rfl).1⟩ ⟨(g.blk (j := 2) rfl).2, (g.blk (j := 2) rfl).1⟩ s1.up hc)) (fun v HC SC mC _ _ hv => ?_)
      obtain ⟨a5, c5, rfl, hC⟩ := hv
      refine KW.retM1 rfl rfl rfl rfl (fun H1 g => ?_)
      exact ⟨_, rfl, famM ((ml1 (g.keep (ml1' hC))).more (g.inn (H := HC) (fun _ p => by have := p.1; omega)))⟩
    · have e1 : r1_RanksFamily ((q : Int), u, l) whole = 2 := by unfold r1_RanksFamily; rw [if_pos (tv_true hr), if_neg (by rw [tv_false hg]; decide)]
      have e0 : r0_RanksFamily ((q : Int), u, l) whole = (0, []) := by unfold r0_RanksFamily; rw [if_neg (by rw [e1]; decide)]
      rw [tv_false hg, e1, e0]
      refine KW.cT rfl rfl (by first | (simp; done) | decide) ?_
      refine KW.build rfl rfl rfl rfl rfl (built_Fam0) ?_
      refine KW.retM1 rfl rfl rfl rfl (fun H1 g => ?_)
      exact ⟨_, rfl, famNil⟩
  · have e1 : r1_RanksFamily (m, u, l) whole = 1 := by unfold r1_RanksFamily; rw [if_neg (by rw [tv_false hr]; decide)]
    have e0 : r0_RanksFamily (m, u, l) whole = (0, []) := by unfold r0_RanksFamily; rw [if_neg (by rw [e1]; decide)]
    rw [tv_false hr, e1, e0]
    refine KW.cT rfl rfl (by first | (simp; done) | decide) ?_
    refine KW.build rfl rfl rfl rfl rfl (built_Fam0) ?_
    refine KW.retM1 rfl rfl rfl rfl (fun H1 g => ?_)
    exact ⟨_, rfl, famNil⟩
end
end Go.Proofs.Ytmkpfllbmdahkaa.Am
/- Contracts: the groups of a table, in the reference. Each holds under its own conditions. -/
set_option linter.unusedVariables false
set_option linter.unusedSimpArgs false
set_option maxRecDepth 20000
set_option maxHeartbeats 1000000
namespace Go.Proofs.Ytmkpfllbmdahkaa.Am
open Go Go.RowKit Go.Proofs Go.Proofs.Ytmkpfllbmdahkaa.Pl
theorem bitI {x q : Nat} (hx : x < 4611686018427387904) : (IntKind.i64.wrap ((BitVec.ofInt IntKind.i64.bits ((x / 2 ^ q : Nat) : Int) &&& BitVec.ofInt IntKind.i64.bits ((1 : Nat) : Int)).toNat : Int) == ((1 : Nat) : Int)) = x.testBit q := by
  rw [and_i64 (Nat.lt_of_le_of_lt (Nat.div_le_self _ _) hx) (by decide), ← bit_is]
  generalize x / 2 ^ q &&& 1 = q
  by_cases e : q = 1
  · subst e; rfl
  · rw [show (q == 1) = false from by simpa using e]
    simp only [beq_eq_false_iff_ne, ne_eq]
    omega
section
variable {S : Ids} {H0 : AH}
theorem l01Of {x m : Nat} (hx : x < 2 ^ m) (hm : m ≤ 40) : SpecM Try.prog S H0 254 [.int .i64 x] (MkL (hold x m)) := by
  have hp : 2 ^ m ≤ 2 ^ 40 := Nat.pow_le_pow_right (by decide) hm
  have e40 : (2 : Nat) ^ 40 = 1099511627776 := by decide
  refine SpecM.of1 Try.func254 rfl (by kernel_rfl) rfl (fun H _ => ?_)
  refine KW.lit rfl rfl rfl rfl rfl rfl rfl rfl rfl rfl [] rfl rfl (fun v hv => by simp at hv) rfl ?_
  refine KW.lpM rfl rfl (fun s : Nat × Nat => [(0, .int .i64 x), (3, .slice (some ⟨s.2, 0, some 1⟩) (hold x s.1).length (hold x s.1).length), (4, .int .i64 s.1)]) (fun s => Low H.n) (fun s => H) (fun s => [(s.2, ⟨_, true, (hold x s.1).map (Value.int .i64)⟩)]) (fun s => s.1 ≤ m) (fun s => m + 1 - s.1) ((0, H.n)) (by simp) ⟨rfl, rfl, rfl, trivial⟩ rfl rfl rfl (fun s hi bE n => ?_)
  obtain ⟨q, o⟩ := s
  simp only at hi
  have hl := hold_len x q
  refine KW.shr rfl rfl rfl rfl rfl rfl rfl x q rfl (wru (by omega) (by omega)) (by omega) ?_
  refine KW.cnd rfl rfl (fun k1 => ?_) (fun k1 => ?_)
  · have k1 : ((x / 2 ^ q : Nat) : Int) > 0 := k1
    have hq : q < m := by
      rcases Nat.lt_or_ge q m with h | h
      · exact h
      · have : x / 2 ^ q = 0 := Nat.div_eq_of_lt (Nat.lt_of_lt_of_le hx (Nat.pow_le_pow_right (by decide) h))
        omega
    refine KW.shr rfl rfl rfl rfl rfl rfl rfl x q rfl (wru (by omega) (by omega)) (by omega) ?_
    have eb := bitI (x := x) (q := q) (by omega)
    refine KW.cndB rfl rfl (fun k2 => ?_) (fun k2 => ?_)
    · have k2 : x.testBit q = true := eb.symm.trans k2
      have e := hold_next x q
      rw [if_pos k2] at e
      refine KW.app1 (xs := (hold x q).map (Value.int .i64)) (v := .int .i64 q) 0 1 rfl rfl rfl rfl rfl rfl rfl rfl rfl rfl rfl rfl rfl rfl rfl rfl rfl rfl rfl rfl rfl rfl rfl (by simp) (by show ((hold x q).length + 1) * 8 ≤ _; omega) (by show (hold x q).length + 1 ≤ _; omega) ?_
      refine KW.nxt rfl rfl (fun H g' => ⟨(q + 1, _), by simp only; omega, by simp only; omega, ⟨rfl, by simp only [e, List.length_append, List.length_singleton]; rfl, congrArg (Value.int .i64) (inc64 (by omega)), trivial⟩, g'.eqT (by simp only [e, List.map_append]; rfl)⟩)
    · have k2 : x.testBit q = false := eb.symm.trans k2
      have e := hold_next x q
      rw [if_neg (by rw [k2]; decide)] at e
      exact KW.nxt rfl rfl (fun H g' => ⟨(q + 1, o), by simp only; omega, by simp only; omega, ⟨rfl, by simp only [e]; rfl, congrArg (Value.int .i64) (inc64 (by omega)), trivial⟩, g'.eqT (by simp only [e])⟩)
  · have k1 : ¬ ((x / 2 ^ q : Nat) : Int) > 0 := k1
    have hxq : x < 2 ^ q := by
      rcases Nat.lt_or_ge x (2 ^ q) with h | h
      · exact h
      · have := Nat.div_pos h (Nat.two_pow_pos q); omega
    refine KW.retM1 rfl rfl rfl rfl (fun H1 g => ?_)
    have := MkL.of (xs := hold x q) g (j := 0) rfl (g.ge (H1 := H) (j := 0) rfl)
    rw [holdUp hxq hi]
    exact this
theorem opens_take {gs : List (List Int)} {i b : Nat} {g : List Int} (hg : gs[i]? = some g) : Opens (gs.take (i + 1)) b ↔ Opens (gs.take i) b ∨ b &&& bitsOf g = bitsOf g := by
  have etake : gs.take (i + 1) = gs.take i ++ [g] := by
    obtain ⟨hi', rfl⟩ := List.getElem?_eq_some_iff.1 hg
    exact List.take_succ_eq_append_getElem hi'
  rw [etake]
  constructor
  · rintro ⟨x, hx, h⟩
    rcases List.mem_append.1 hx with hx | hx
    · exact .inl ⟨x, hx, h⟩
    · obtain rfl : x = g := by simpa using hx
      exact .inr h
  · rintro (⟨x, hx, h⟩ | h)
    · exact ⟨x, List.mem_append_left _ hx, h⟩
    · exact ⟨g, List.mem_append_right _ (by simp), h⟩
/-- A table of which so much has been filled in. -/
structure Tb (gs : List (List Int)) (N b : Nat) (cs : List Bool) : Prop where
  len : cs.length = N
  done : ∀ j, j < b → cs[j]? = some (tv (Opens gs j))
  rest : ∀ j, b < j → j < N → cs[j]? = some false
theorem l01Table {q : Nat} (hq : q ≤ 7) {id : Nat} {ty : TypeId} {rw : Bool} {a1 c1} {gs : List (List Int)} (hsm : Sml gs) (hb : Below' q gs) (hS : S id) (hmm : H0.m id = some ⟨ty, rw, [.int .i64 q, .slice a1 gs.length c1]⟩) (hs : KI.sl.Sl S H0 (.slice a1 gs.length c1) gs) :
    SpecM Try.prog S H0 223 [.pointer (some ⟨id, 0, none⟩)] (fun n v H1 => ∃ a c, v = .slice a (tabO gs (2 ^ q)).length c ∧ Kn.bool.Sl (New n H1.n) H1 (.slice a (tabO gs (2 ^ q)).length c) (tabO gs (2 ^ q))) := by
  have hp := small_pow (m := q) (by omega)
  have hgl := hsm.len
  refine SpecM.of1 Try.func223 rfl (by kernel_rfl) rfl (fun H _ => ?_)
  obtain ⟨hS2, hm2⟩ := On.blk (S' := Low H.n) (H' := H) hS hmm
  have hs := hs.up (S' := Low H.n) (H' := H)
  refine KW.ldP hS2 hm2 rfl rfl rfl rfl rfl rfl ?_
  refine KW.shlI rfl rfl rfl rfl rfl rfl q (wru (by omega) (by omega)) (by omega) ?_
  refine KW.mk1 rfl rfl rfl rfl rfl rfl rfl rfl rfl rfl rfl rfl ((2 ^ q)) rfl rfl (by omega) (by show 1 * _ ≤ _; omega) ?_
  rw [show List.replicate (2 ^ q) (Value.bool false) = (List.replicate (2 ^ q) false).map Value.bool from (List.map_replicate ..).symm]
  refine KW.lpM rfl rfl (fun s : Nat × List Bool => [(0, .pointer (some ⟨id, 0, none⟩)), (3, .slice (some ⟨H.n, 0, some 1⟩) (2 ^ q) (2 ^ q)), (4, .int .i64 s.1)]) (fun s => Low H.n) (fun s => H) (fun s => [(H.n, ⟨_, true, s.2.map Value.bool⟩)]) (fun s => s.1 ≤ 2 ^ q ∧ Tb gs (2 ^ q) s.1 s.2 ∧ (s.1 < 2 ^ q → s.2[s.1]? = some false)) (fun s => 2 ^ q - s.1) ((0, List.replicate (2 ^ q) false)) (⟨Nat.zero_le _, ⟨by simp, fun j hj => absurd hj (Nat.not_lt_zero _), fun j _ hj => by simp [hj]⟩, fun hj => by rw [List.getElem?_replicate, if_pos hj]⟩) ⟨rfl, rfl, rfl, trivial⟩ rfl rfl rfl (fun s hi bE n => ?_)
  obtain ⟨b, cs⟩ := s
  obtain ⟨h1, h2, h3⟩ := hi
  simp only at h1 h2 h3
  refine KW.cnd rfl rfl (fun k1 => ?_) (fun k1 => ?_)
  · have k1 : (b : Int) < ((2 ^ q : Nat) : Int) := k1
    have hbq : b < 2 ^ q := by omega
    refine KW.lpM rfl rfl (fun s : Nat × List Bool => [(0, .pointer (some ⟨id, 0, none⟩)), (3, .slice (some ⟨H.n, 0, some 1⟩) (2 ^ q) (2 ^ q)), (4, .int .i64 b), (5, .int .i64 s.1)]) (fun s => Low H.n) (fun s => H) (fun s => [(H.n, ⟨_, true, s.2.map Value.bool⟩)]) (fun s => s.1 ≤ gs.length ∧ Tb gs (2 ^ q) b s.2 ∧ s.2[b]? = some (tv (Opens (gs.take s.1) b))) (fun s => gs.length - s.1) ((0, cs)) (⟨Nat.zero_le _, h2, by rw [h3 hbq, tv_false (fun ⟨g, hg, _⟩ => by simp at hg)]⟩) ⟨rfl, rfl, rfl, rfl, trivial⟩ rfl rfl rfl (fun s hi bE n => ?_)
    obtain ⟨i, cs2⟩ := s
    obtain ⟨g1, g2, g3⟩ := hi
    simp only at g1 g2 g3
    have hcl := g2.len
    have out : tv (Opens (gs.take i) b) = tv (Opens gs b) → Tb gs (2 ^ q) (b + 1) cs2 ∧ (b + 1 < 2 ^ q → cs2[b + 1]? = some false) := fun e => by
      refine ⟨⟨hcl, fun j hj => ?_, fun j hj hj2 => g2.rest j (by omega) hj2⟩, fun hj => g2.rest (b + 1) (by omega) hj⟩
      rcases Nat.lt_or_ge j b with h | h
      · exact g2.done j h
      · obtain rfl : j = b := by omega
        rw [g3, e]
    refine KW.ldP hS2 hm2 rfl rfl rfl rfl rfl rfl ?_
    refine KW.tst rfl rfl (fun k2 => ?_) (fun k2 => ?_)
    · have k2 : (i : Int) < (gs.length : Int) := k2
      refine KW.idx0 rfl rfl rfl rfl rfl rfl rfl rfl rfl (Int.natCast_nonneg _) (k1) ?_
      refine KW.ldT 0 rfl rfl rfl rfl rfl rfl (bload_at (by show (cs2.map Value.bool)[0 + ((b : Int)).toNat * 1]? = _; rw [Int.toNat_natCast, Nat.zero_add, Nat.mul_one, List.getElem?_map, g3]; rfl) rfl rfl) ?_
      refine KW.cndB rfl rfl (fun k3 => ?_) (fun k3 => ?_)
      · have k3 : tv (Opens (gs.take i) b) = false := by simpa using k3
        refine KW.ldP hS2 hm2 rfl rfl rfl rfl rfl rfl ?_
        refine KW.getL hs rfl rfl rfl rfl rfl rfl rfl rfl rfl rfl rfl rfl rfl rfl rfl rfl (by omega) (k2) (fun g ag cg hg hsg => ?_)
        have hg : gs[i]? = some g := hg
        have hmem := List.mem_of_getElem? hg
        have hbs := below_bits hq hb hmem
        refine KW.callE rfl rfl rfl rfl rfl (l01Bits (m := q) (by omega) (hsm.each g hmem) (hb g hmem) hsg) (fun _ _ => ?_)
        refine KW.idx0 rfl rfl rfl rfl rfl rfl rfl rfl rfl (Int.natCast_nonneg _) (k1) ?_
        refine KW.st1 0 rfl rfl rfl rfl rfl rfl rfl rfl rfl rfl rfl rfl (by show 0 + ((b : Int)).toNat * 1 < (cs2.map Value.bool).length; rw [Int.toNat_natCast, List.length_map]; omega) ?_
        have eb : ((IntKind.i64.wrap ((BitVec.ofInt IntKind.i64.bits ((bitsOf g : Nat) : Int) &&& BitVec.ofInt IntKind.i64.bits (b : Int)).toNat : Int)) == ((bitsOf g : Nat) : Int)) = tv (Opens (gs.take (i + 1)) b) := by
          rw [and_i64 (by omega) (by omega), Nat.and_comm, tv_congr (opens_take hg)]
          by_cases e : b &&& bitsOf g = bitsOf g
          · rw [tv_true (p := Opens (gs.take i) b ∨ b &&& bitsOf g = bitsOf g) (.inr e), e]; simp
          · rw [tv_false (p := Opens (gs.take i) b ∨ b &&& bitsOf g = bitsOf g) (fun hx => hx.elim (fun hx => by rw [tv_true hx] at k3; cases k3) e)]
            simp only [beq_eq_false_iff_ne, ne_eq]
            omega
        have fI : Tb gs (2 ^ q) b (cs2.set b (tv (Opens (gs.take (i + 1)) b))) := ⟨by simp [hcl], fun j hj => by rw [List.getElem?_set_ne (by omega)]; exact g2.done j hj, fun j hj hj2 => by rw [List.getElem?_set_ne (by omega)]; exact g2.rest j hj hj2⟩
        refine KW.nxt rfl rfl (fun H' g => ⟨(i + 1, cs2.set b (tv (Opens (gs.take (i + 1)) b))), ⟨by simp only; omega, fI, by simp only; rw [List.getElem?_set_self (by omega)]⟩, by first | omega | (simp only; omega), ⟨rfl, rfl, rfl, congrArg (Value.int .i64) (inc64 (by omega)), trivial⟩, (g.eqT (by rw [List.map_set, ← eb]; show [(H.n, (⟨_, true, (cs2.map Value.bool).set (0 + ((b : Int)).toNat * 1) _⟩ : Blk))] = _; rw [Int.toNat_natCast, Nat.zero_add, Nat.mul_one]; rfl))⟩)
      · have k3 : tv (Opens (gs.take i) b) = true := by simpa using k3
        have e : tv (Opens (gs.take i) b) = tv (Opens gs b) := by
          obtain ⟨x, hx, hx2⟩ := tv_iff.1 k3
          rw [k3, tv_true ⟨x, List.mem_of_mem_take hx, hx2⟩]
        refine KW.nxt rfl rfl (fun H' g => ⟨(b + 1, cs2), ⟨by simp only; omega, out e⟩, by first | omega | (simp only; omega), ⟨rfl, rfl, congrArg (Value.int .i64) (inc64 (by omega)), trivial⟩, g⟩)
    · have k2 : ¬ (i : Int) < (gs.length : Int) := k2
      have e : tv (Opens (gs.take i) b) = tv (Opens gs b) := by rw [List.take_of_length_le (by omega)]
      refine KW.cF rfl rfl (by first | (simp; done) | decide) ?_
      refine KW.nxt rfl rfl (fun H' g => ⟨(b + 1, cs2), ⟨by simp only; omega, out e⟩, by first | omega | (simp only; omega), ⟨rfl, rfl, congrArg (Value.int .i64) (inc64 (by omega)), trivial⟩, g⟩)
  · have k1 : ¬ (b : Int) < ((2 ^ q : Nat) : Int) := k1
    obtain rfl : b = 2 ^ q := by omega
    have ec : cs = tabO gs (2 ^ q) := List.ext_getElem? fun j => by
      rcases Nat.lt_or_ge j (2 ^ q) with h | h
      · rw [h2.done j h]
        unfold tabO
        rw [List.getElem?_map, List.getElem?_range h]
        rfl
      · rw [List.getElem?_eq_none (by rw [h2.len]; exact h), List.getElem?_eq_none (by rw [tabO_len]; exact h)]
    subst ec
    have hl := tabO_len gs (2 ^ q)
    refine KW.retM1 rfl rfl rfl rfl (fun H1 g => ?_)
    refine ⟨_, _, by rw [hl]; rfl, ?_⟩
    have := bool_sl (xs := tabO gs (2 ^ q)) (S := New H.n H1.n) (H := H1) (c := 2 ^ q) ⟨Nat.le_refl _, (g.blk (j := 0) rfl).2⟩ (g.blk (j := 0) rfl).1 rfl (by omega)
    exact this
end
end Go.Proofs.Ytmkpfllbmdahkaa.Am
/- Contracts: families out of a table, and of groups, in the reference. Each holds under its own conditions. -/
set_option linter.unusedVariables false
set_option linter.unusedSimpArgs false
set_option maxRecDepth 20000
set_option maxHeartbeats 1000000
namespace Go.Proofs.Ytmkpfllbmdahkaa.Am
open Go Go.RowKit Go.Proofs Go.Proofs.Ytmkpfllbmdahkaa.Pl
/-- What has been seen of a set's parts. -/
def Mh (op : Nat → Prop) (c h : Nat) : Prop := op c ∧ ∀ i, i < h → c.testBit i = true → ¬ op (dif c (2 ^ i))
theorem mh_next {op : Nat → Prop} {c h : Nat} : Mh op c (h + 1) ↔ Mh op c h ∧ (c.testBit h = true → ¬ op (dif c (2 ^ h))) :=
  ⟨fun p => ⟨⟨p.1, fun i hi => p.2 i (by omega)⟩, p.2 h (by omega)⟩, fun p => ⟨p.1.1, upto p.1.2 p.2⟩⟩
/-- The table of what is so. -/
noncomputable def tabP (op : Nat → Prop) (n : Nat) : List Bool := (List.range n).map fun q => tv (op q)
theorem tabP_len (op : Nat → Prop) (n : Nat) : (tabP op n).length = n := by simp [tabP]
theorem tabP_next (op : Nat → Prop) (n : Nat) : tabP op (n + 1) = tabP op n ++ [tv (op n)] := by simp [tabP, List.range_succ]
theorem tabP_at {op : Nat → Prop} {n q : Nat} (h : q < n) {y : Bool} (hy : (tabP op n)[q]? = some y) : y = tv (op q) := by
  unfold tabP at hy
  rw [List.getElem?_map, List.getElem?_range h] at hy
  cases hy
  rfl
section
variable {S : Ids} {H0 : AH}
theorem l01FromP {q : Nat} (hq : q ≤ 7) {op : Nat → Prop} {a c} (ho : Kn.bool.Sl S H0 (.slice a (tabP op (2 ^ q)).length c) (tabP op (2 ^ q))) :
    SpecM Try.prog S H0 222 [.int .i64 q, .slice a (tabP op (2 ^ q)).length c] (MkFam q (isA (minsU q op (2 ^ q)))) := by
  have hp := small_pow (m := q) (by omega)
  have hpos := Nat.two_pow_pos q
  have htl := tabP_len op (2 ^ q)
  refine SpecM.of1 Try.func222 rfl (by kernel_rfl) rfl (fun H _ => ?_)
  have ho := ho.up (S' := Low H.n) (H' := H)
  refine KW.lit rfl rfl rfl rfl rfl rfl rfl rfl rfl rfl [] rfl rfl (fun v hv => by simp at hv) rfl ?_
  refine KW.lpM rfl rfl (fun s : CrS => [(0, .int .i64 q), (1, .slice a (tabP op (2 ^ q)).length c), (4, .pointer (some ⟨H.n, 0, some 0⟩)), (5, .slice (some ⟨s.o, 0, some 1⟩) (minsU q op s.j).length (minsU q op s.j).length), (6, .int .i64 s.j)]) (fun s => s.S) (fun s => s.A) (fun s => [(H.n, ⟨93, true, [.int .i64 0, .slice none 0 0]⟩), (s.o, ⟨_, true, s.cs⟩)]) (fun s => CrI q op H s) (fun s => 2 ^ q - s.j) (⟨0, Low H.n, H, fun _ => False, [], H.n + 1⟩) (⟨Nat.zero_le _, fun id hid => ⟨hid, rfl⟩, RowsB.nil _ _, fun _ h => h.elim, Nat.le_succ _⟩) ⟨rfl, rfl, rfl, rfl, rfl, trivial⟩ rfl rfl rfl (fun s hi bE n => ?_)
  obtain ⟨j, S1, A1, V, cs, o⟩ := s
  obtain ⟨g1, g2, g3, g4, g5⟩ := hi
  simp only at g1 g2 g3 g4 g5
  haveI : Stp (Low H.n) H S1 A1 := ⟨g2⟩
  have hcl := g3.len
  have hml := minsU_len (q := q) (op := op) (n := j)
  have ho1 := ho.up (S' := S1) (H' := A1)
  refine KW.cnd rfl rfl (fun k1 => ?_) (fun k1 => ?_)
  · have k1 : (j : Int) < ((tabP op (2 ^ q)).length : Int) := k1
    have hx : j < 2 ^ q := by omega
    refine KW.getB ho1 rfl rfl rfl rfl rfl rfl rfl rfl rfl rfl rfl rfl rfl rfl rfl rfl (by omega) (by omega) (fun y hy => ?_)
    have hy := tabP_at hx (y := y) (by simpa using hy)
    subst hy
    refine KW.lp rfl rfl (fun s : Nat × Bool => [(0, .int .i64 q), (1, .slice a (tabP op (2 ^ q)).length c), (4, .pointer (some ⟨H.n, 0, some 0⟩)), (5, .slice (some ⟨o, 0, some 1⟩) (minsU q op j).length (minsU q op j).length), (6, .int .i64 j), (7, .bool s.2), (8, .int .i64 s.1)]) (fun s => s.1 ≤ q ∧ s.2 = tv (Mh op j s.1)) (fun s => q - s.1) ((0, tv (op j))) (⟨Nat.zero_le _, tv_congr ⟨fun p => ⟨p, fun i hi => absurd hi (Nat.not_lt_zero _)⟩, fun p => p.1⟩⟩) ⟨rfl, rfl, rfl, rfl, rfl, rfl, rfl, trivial⟩ (fun s hi bE n => ?_)
    obtain ⟨h, lb⟩ := s
    obtain ⟨m1, m2⟩ := hi
    simp only at m1 m2
    refine KW.tst rfl rfl (fun k2 => ?hin) (fun k2 => ?hout)
    case' hin => refine KW.cndB rfl rfl (fun k3 => ?go) (fun k3 => ?stop)
    case go =>
      have k2 : (h : Int) < (q : Int) := k2
      have k3 : lb = true := k3
      have hmh : Mh op j h := tv_iff.1 (m2.symm.trans k3)
      have hph := small_pow (m := h) (by omega)
      have hd : dif j (2 ^ h) ≤ j := dif_le
      have eb := bitI (x := j) (q := h) (by omega)
      have ed : IntKind.i64.wrap ((BitVec.ofInt IntKind.i64.bits (j : Int) &&& ~~~BitVec.ofInt IntKind.i64.bits ((2 ^ h : Nat) : Int)).toNat : Int) = ((dif j (2 ^ h) : Nat) : Int) := andnot_i64 (by omega) (by omega)
      refine KW.shr rfl rfl rfl rfl rfl rfl rfl j h rfl (wru (by omega) (by omega)) (by omega) ?_
      refine KW.tstB rfl rfl (fun k4 => ?_) (fun k4 => ?_)
      · have k4 : j.testBit h = true := eb.symm.trans k4
        refine KW.shlI rfl rfl rfl rfl rfl rfl h (wru (by omega) (by omega)) (by omega) ?_
        refine KW.getB ho1 rfl rfl rfl rfl rfl rfl rfl rfl rfl rfl rfl rfl rfl rfl rfl rfl (by rw [ed]; omega) (by rw [ed]; omega) (fun y hy => ?_)
        have hy := tabP_at (op := op) (n := 2 ^ q) (q := dif j (2 ^ h)) (by omega) (y := y) (by rw [ed] at hy; simpa using hy)
        subst hy
        refine KW.cndB rfl rfl (fun k5 => ?_) (fun k5 => ?_)
        · have k5 := tv_iff.1 k5
          refine KW.nxt rfl rfl (fun H' g => ⟨(h + 1, false), ⟨by simp only; omega, (tv_false (fun p => (mh_next.1 p).2 k4 k5)).symm⟩, by first | omega | (simp only; omega), ⟨rfl, rfl, rfl, rfl, rfl, rfl, congrArg (Value.int .i64) (inc64 (by omega)), trivial⟩, g⟩)
        · have k5 : ¬ op (dif j (2 ^ h)) := fun p => by rw [tv_true p] at k5; cases k5
          refine KW.nxt rfl rfl (fun H' g => ⟨(h + 1, lb), ⟨by simp only; omega, by simp only; rw [k3, tv_true (mh_next.2 ⟨hmh, fun _ => k5⟩)]⟩, by first | omega | (simp only; omega), ⟨rfl, rfl, rfl, rfl, rfl, rfl, congrArg (Value.int .i64) (inc64 (by omega)), trivial⟩, g⟩)
      · have k4 : j.testBit h = false := eb.symm.trans (by simpa using k4)
        refine KW.cF rfl rfl (by first | (simp; done) | decide) ?_
        refine KW.nxt rfl rfl (fun H' g => ⟨(h + 1, lb), ⟨by simp only; omega, by simp only; rw [k3, tv_true (mh_next.2 ⟨hmh, fun p => by rw [k4] at p; cases p⟩)]⟩, by first | omega | (simp only; omega), ⟨rfl, rfl, rfl, rfl, rfl, rfl, congrArg (Value.int .i64) (inc64 (by omega)), trivial⟩, g⟩)
    case' stop =>
      have elb : lb = tv (Mn q op j) := by
        have k3 : lb = false := by simpa using k3
        rw [k3]
        exact (tv_false (fun p => by
          have : Mh op j h := ⟨p.1, fun i hi => p.2 i (by omega)⟩
          rw [m2, tv_true this] at k3; cases k3)).symm
    case' hout =>
      refine KW.cF rfl rfl rfl ?_
      have elb : lb = tv (Mn q op j) := by
        have k2 : ¬ (h : Int) < (q : Int) := k2
        have : h = q := by omega
        rw [m2, this]
        rfl
    all_goals
      refine KW.cndB rfl rfl (fun k6 => ?_) (fun k6 => ?_)
      · have k6 : tv (Mn q op j) = true := elb.symm.trans k6
        have eN : minsU q op (j + 1) = minsU q op j ++ [hold j q] := by rw [minsU_next, if_pos k6]
        have eNl : (minsU q op (j + 1)).length = (minsU q op j).length + 1 := by rw [eN, List.length_append, List.length_singleton]
        refine KW.ids (fun hlow hvar => ?_)
        refine KW.fact (fun _ g => g.nle (H1 := H)) (fun hn0 => ?_)
        refine KW.callN1 rfl rfl rfl rfl rfl (l01Of (m := q) hx (by omega)) (fun v HC SC mC _ _ hv => ?_)
        obtain ⟨a5, c5, rfl, hC⟩ := hv
        refine KW.app1 (xs := cs) (v := .slice a5 (hold j q).length c5) 1 2 rfl rfl rfl rfl rfl rfl rfl rfl rfl rfl rfl rfl rfl rfl rfl rfl rfl rfl rfl rfl rfl rfl rfl (by omega) (by show ((minsU q op j).length + 1) * 24 ≤ _; omega) (by show (minsU q op j).length + 1 ≤ _; omega) ?_
        have wC : On (New _ HC.n) HC SC HC := ‹_›
        have fI := (g3.up (S' := SC) (A' := HC)).snoc (ml1' hC) (fun id hid => (wC.st id hid).1) (fun id p r => by have := hlow id (g3.sub id p); have := r.1; omega)
        have fV : ∀ id, V id ∨ New _ HC.n id → H.n ≤ id := fun id hid => hid.elim (g4 id) (fun p => Nat.le_trans hn0 p.1)
        have tH : St (Low H.n) H SC HC := (inferInstance : On (Low H.n) H SC HC).st
        exact KW.nxt rfl rfl (fun H' g => ⟨⟨j + 1, SC, HC, _, _, _⟩, ⟨hx, tH, by simp only [eN]; exact fI, fV, by simp only; omega⟩, by simp only; omega, ⟨rfl, rfl, rfl, congrArg (fun z => Value.slice (some ⟨_, 0, some 1⟩) z z) eNl.symm, congrArg (Value.int .i64) (inc64 (by omega)), trivial⟩, g⟩)
      · have k6 : ¬ tv (Mn q op j) = true := by rw [← elb]; simpa using k6
        have eN : minsU q op (j + 1) = minsU q op j := by rw [minsU_next, if_neg k6]
        exact KW.nxt rfl rfl (fun H' g => ⟨⟨j + 1, S1, A1, V, cs, o⟩, ⟨hx, g2, by simp only [eN]; exact g3, g4, g5⟩, by simp only; omega, ⟨rfl, rfl, rfl, congrArg (fun z => Value.slice (some ⟨o, 0, some 1⟩) (List.length z) (List.length z)) eN.symm, congrArg (Value.int .i64) (inc64 (by omega)), trivial⟩, g⟩)
  · have k1 : ¬ (j : Int) < ((tabP op (2 ^ q)).length : Int) := k1
    obtain rfl : j = 2 ^ q := by omega
    refine KW.freeze 1 rfl (fun A2 S2 hn2 hS2 st2 hm2 ho2 hnS2 hlow2 => ?_)
    have hY : ∀ i, S1 i → S2 i ∧ i ≠ o := fun i hi => ⟨(st2.st i hi).1, fun e => hnS2 (e ▸ hi)⟩
    have g3' : RowsB KI.ml S1 A2 V (minsU q op (2 ^ q)) cs := g3.back g3 (fun i hi => (st2.st i (g3.sub i hi)).2)
    refine KW.callW (W := fun i => i = o) (fun i hi => (hS2 i).2 (.inr hi)) rfl rfl rfl rfl rfl (l01Sorted (rows := minsU q op (2 ^ q)) (by omega) (fun x hx => by have := minsU_mem hx; omega) ((hS2 o).2 (.inr rfl)) hm2 hY g3') (fun v H3 S3 hn3 st3 hw3 hp3 => ?_)
    obtain ⟨rfl, cs', p1, p2⟩ := hp3
    refine KW.thaw o _ (st3 o ((hS2 o).2 (.inr rfl))).1 p1 ?_
    have t4 : ∀ i, S1 i → (S3 i ∧ i ≠ o) ∧ H3.m i = A1.m i := fun i hi => ⟨⟨(st3 i (hY i hi).1).1, (hY i hi).2⟩, ((st3 i (hY i hi).1).2 (hY i hi).2).trans (st2.st i hi).2⟩
    haveI : Stp S1 A1 (fun i => S3 i ∧ i ≠ o) H3 := ⟨t4⟩
    have p3 : RowsB KI.ml (fun i => S3 i ∧ i ≠ o) H3 V (isA (minsU q op (2 ^ q))) cs' := ⟨p2.len, fun i hi => (t4 i (g3.sub i hi)).1, p2.rows⟩
    refine KW.build rfl rfl rfl rfl rfl (built_Fam2 _ _ _ _) ?_
    refine KW.retM1 rfl rfl rfl rfl (fun H1 g => ?_)
    have hm := p3.ml (X := New H.n H1.n) rfl g (j := 1) rfl ⟨g5, by have h1 : o < H3.n := (g.vars 1 _ rfl).2.1; have := g.n_; omega⟩ (fun i hi => ⟨g4 i hi, by have := (g.froz i (p3.sub i hi)).1; have := g.n_; omega⟩)
    exact ⟨_, _, by rw [isA_len]; rfl, by rw [isA_len] at hm ⊢; exact hm⟩
theorem l01From {q : Nat} (hq : q ≤ 7) {gs : List (List Int)} {a c} (ho : Kn.bool.Sl S H0 (.slice a (tabO gs (2 ^ q)).length c) (tabO gs (2 ^ q))) :
    SpecM Try.prog S H0 222 [.int .i64 q, .slice a (tabO gs (2 ^ q)).length c] (MkFam q (isA (minsU q (Opens gs) (2 ^ q)))) := l01FromP (op := Opens gs) hq ho
theorem familyOfS {q : Nat} (hq1 : 1 ≤ q) (hq : q ≤ 7) {gs : List (List Int)} (hl : gs.length ≤ 200) (hg : ∀ g ∈ gs, Rises 0 ((q : Int) - 1) g) {a c} (hs : KI.sl.Sl S H0 (.slice a gs.length c) gs) :
    SpecM Try.prog S H0 169 [.int .i64 q, .slice a gs.length c] (MkFC ((q : Int), isA (minsU q (Opens gs) (2 ^ q))) 0) := by
  have hgl : ∀ g ∈ gs, g.length ≤ 7 := fun g hg' => by
    have h := hold_bits q (hg g hg')
    rw [← h]
    exact Nat.le_trans (hold_len _ _) hq
  have hsm : Sml gs := ⟨by omega, by have := sml_short hgl; omega⟩
  have hb : Below' q gs := fun g hg' => rises_lt rfl (hg g hg')
  refine SpecM.of1 Try.func169 rfl (by kernel_rfl) rfl (fun H _ => ?_)
  refine KW.callE rfl rfl rfl rfl rfl (l00In _ _ _) (fun _ _ => ?_)
  rw [decide_eq_true (show (1 : Int) ≤ (q : Int) ∧ (q : Int) ≤ 7 by omega)]
  refine KW.tF rfl rfl (by first | (simp; done) | decide) ?_
  refine KW.no rfl rfl (by omega) ?_
  refine KW.lp rfl rfl (fun i : Nat => [(0, .int .i64 q), (1, .slice a gs.length c), (4, .pointer (some ⟨H.n, 0, some 0⟩)), (6, .int .i64 i)]) (fun i => i ≤ gs.length) (fun i => gs.length - i) (0) (Nat.zero_le _) ⟨rfl, rfl, rfl, rfl, trivial⟩ (fun i hi bE n => ?_)
  refine KW.cnd rfl rfl (fun k1 => ?_) (fun k1 => ?_)
  · have k1 : (i : Int) < (gs.length : Int) := k1
    refine KW.getL hs.up rfl rfl rfl rfl rfl rfl rfl rfl rfl rfl rfl rfl rfl rfl rfl rfl (by omega) (k1) (fun g ag cg hg2 hsg => ?_)
    have hg2 : gs[i]? = some g := hg2
    have hmem := List.mem_of_getElem? hg2
    refine KW.callE rfl rfl rfl rfl rfl (l01Group (q : Int) (hsm.each g hmem) (by omega) hsg) (fun _ _ => ?_)
    rw [tv_true (hg g hmem)]
    refine KW.cF rfl rfl (by first | (simp; done) | decide) ?_
    refine KW.nxt rfl rfl (fun H' g => ⟨(i + 1), (by omega), by first | omega | (simp only; omega), ⟨rfl, rfl, rfl, congrArg (Value.int .i64) (inc64 (by omega)), trivial⟩, g⟩)
  · refine KW.build rfl rfl rfl rfl rfl (built_Fam2 _ _ _ _) ?_
    refine KW.fact (fun _ g => g.nle (H1 := H)) (fun hn0 => ?_)
    refine KW.callNV1 rfl rfl rfl rfl rfl (fun H1 g _ => l01Table (S := Low H1.n) (H0 := H1) hq hsm hb (g.blk (j := 1) rfl).2 (g.blk (j := 1) rfl).1 hs.up) (fun v HT ST mT _ _ hv => ?_)
    obtain ⟨a4, c4, rfl, hT⟩ := hv
    refine KW.callN1 rfl rfl rfl rfl rfl (l01From hq hT.up) (fun v HF SF mF _ _ hv => ?_)
    obtain ⟨a5, c5, rfl, hF⟩ := hv
    refine KW.retM1 rfl rfl rfl rfl (fun H1 g => ?_)
    exact ⟨_, rfl, famM ((ml1 (g.keep (ml1' hF))).more (g.inn (H := HF) (fun _ p => by have := p.1; omega)))⟩
end
end Go.Proofs.Ytmkpfllbmdahkaa.Am
/- Contracts: threshold families of the reference. Each holds under its own conditions. -/
set_option linter.unusedVariables false
set_option linter.unusedSimpArgs false
set_option maxRecDepth 20000
set_option maxHeartbeats 1000000
namespace Go.Proofs.Ytmkpfllbmdahkaa.Am
open Go Go.RowKit Go.Proofs Go.Proofs.Ytmkpfllbmdahkaa.Pl
/-- Sets of so many. -/
def ThOp (q : Nat) (least : Int) (c : Nat) : Prop := least ≤ ((hold c q).length : Int)
theorem hold_next_len (x n : Nat) : (hold x (n + 1)).length = (hold x n).length + (if x.testBit n = true then 1 else 0) := by
  rw [hold_next]
  split <;> simp
theorem th_up {q : Nat} {least : Int} : UpC (2 ^ q) (ThOp q least) := fun a b _ _ hs h => by
  have key : ∀ n, (hold a n).length ≤ (hold b n).length := fun n => by
    induction n with
    | zero => simp [hold]
    | succ n ih =>
      rw [hold_next_len, hold_next_len]
      have e : (a &&& b).testBit n = a.testBit n := by rw [hs]
      rw [Nat.testBit_and] at e
      cases ea : a.testBit n <;> cases eb : b.testBit n <;> simp [ea, eb] at e ⊢ <;> omega
  have := key q
  unfold ThOp at h ⊢
  omega
section
variable {S : Ids} {H0 : AH}
theorem l01Weighted {q : Nat} (hq : q ≤ 7) {least : Int} {ws : List Int} (hwl : ws.length = q) (hw1 : ∀ w ∈ ws, w = 1) {a c} (hs : KI.Sl S H0 (.slice a ws.length c) ws) :
    SpecM Try.prog S H0 257 [.slice a ws.length c, .int .i64 least] (MkFam q (isA (minsU q (ThOp q least) (2 ^ q)))) := by
  have hp := small_pow (m := q) (by omega)
  have hpos := Nat.two_pow_pos q
  refine SpecM.of1 Try.func257 rfl (by kernel_rfl) rfl (fun H _ => ?_)
  have hs := hs.up (S' := Low H.n) (H' := H)
  refine KW.lit rfl rfl rfl rfl rfl rfl rfl rfl rfl rfl [] rfl rfl (fun v hv => by simp at hv) rfl ?_
  refine KW.lpM rfl rfl (fun s : Nat × Nat => [(0, .slice a ws.length c), (1, .int .i64 least), (4, .pointer (some ⟨H.n, 0, some 0⟩)), (5, .slice (some ⟨s.2, 0, some 1⟩) (tabP (ThOp q least) s.1).length (tabP (ThOp q least) s.1).length), (6, .int .i64 s.1)]) (fun s => Low H.n) (fun s => H) (fun s => [(H.n, ⟨93, true, [.int .i64 0, .slice none 0 0]⟩), (s.2, ⟨_, true, (tabP (ThOp q least) s.1).map Value.bool⟩)]) (fun s => s.1 ≤ 2 ^ q) (fun s => 2 ^ q - s.1) ((0, _)) (Nat.zero_le _) ⟨rfl, rfl, rfl, rfl, rfl, trivial⟩ rfl rfl rfl (fun s hi bE n => ?_)
  obtain ⟨b, o⟩ := s
  simp only at hi
  have hl := tabP_len (ThOp q least) b
  have eq1 : IntKind.u64.wrap (ws.length : Int) = (q : Int) := by rw [hwl]; exact wru (by omega) (by omega)
  refine KW.shlI rfl rfl rfl rfl rfl rfl q eq1 (by omega) ?_
  refine KW.cnd rfl rfl (fun k1 => ?_) (fun k1 => ?_)
  · have k1 : (b : Int) < ((2 ^ q : Nat) : Int) := k1
    have hb : b < 2 ^ q := by omega
    refine KW.lp rfl rfl (fun h : Nat => [(0, .slice a ws.length c), (1, .int .i64 least), (4, .pointer (some ⟨H.n, 0, some 0⟩)), (5, .slice (some ⟨o, 0, some 1⟩) (tabP (ThOp q least) b).length (tabP (ThOp q least) b).length), (6, .int .i64 b), (7, .int .i64 ((hold b h).length : Nat)), (8, .int .i64 h)]) (fun h => h ≤ q) (fun h => q - h) (0) (Nat.zero_le _) ⟨rfl, rfl, rfl, rfl, rfl, rfl, rfl, trivial⟩ (fun h hi bE n => ?_)
    have hhl := hold_len b h
    refine KW.cnd rfl rfl (fun k2 => ?_) (fun k2 => ?_)
    · have k2 : (h : Int) < (ws.length : Int) := k2
      refine KW.shr rfl rfl rfl rfl rfl rfl rfl b h rfl (wru (by omega) (by omega)) (by omega) ?_
      have eb := bitI (x := b) (q := h) (by omega)
      have eL := hold_next_len b h
      refine KW.cndB rfl rfl (fun k3 => ?_) (fun k3 => ?_)
      · have k3 : b.testBit h = true := eb.symm.trans k3
        refine KW.getI hs rfl rfl rfl rfl rfl rfl rfl rfl rfl rfl rfl rfl rfl rfl rfl rfl (by omega) (k2) (fun y hy => ?_)
        have hy1 := hw1 y (List.mem_of_getElem? hy)
        subst hy1
        rw [if_pos k3] at eL
        refine KW.nxt rfl rfl (fun H' g => ⟨(h + 1), (by omega), by first | omega | (simp only; omega), ⟨rfl, rfl, rfl, rfl, rfl, (by rw [eL]; exact congrArg (Value.int .i64) (inc64 (by omega))), congrArg (Value.int .i64) (inc64 (by omega)), trivial⟩, g⟩)
      · have k3 : b.testBit h = false := eb.symm.trans (by simpa using k3)
        rw [if_neg (by rw [k3]; decide)] at eL
        refine KW.nxt rfl rfl (fun H' g => ⟨(h + 1), (by omega), by first | omega | (simp only; omega), ⟨rfl, rfl, rfl, rfl, rfl, (by rw [eL]; rfl), congrArg (Value.int .i64) (inc64 (by omega)), trivial⟩, g⟩)
    · have k2 : ¬ (h : Int) < (ws.length : Int) := k2
      obtain rfl : h = q := by omega
      have eN := tabP_next (ThOp h least) b
      have ev : decide (((hold b h).length : Int) ≥ least) = tv (ThOp h least b) := by rw [tv_dec]; rfl
      refine KW.app1 (xs := (tabP (ThOp h least) b).map Value.bool) (v := .bool (decide (((hold b h).length : Int) ≥ least))) 1 2 rfl rfl rfl rfl rfl rfl rfl rfl rfl rfl rfl rfl rfl rfl rfl rfl rfl rfl rfl rfl rfl rfl rfl (by simp) (by show ((tabP (ThOp h least) b).length + 1) * 1 ≤ _; omega) (by show (tabP (ThOp h least) b).length + 1 ≤ _; omega) ?_
      exact KW.nxt rfl rfl (fun H' g => ⟨(b + 1, _), by simp only; omega, by simp only; omega, ⟨rfl, rfl, rfl, by simp only [eN, List.length_append, List.length_singleton]; rfl, congrArg (Value.int .i64) (inc64 (by omega)), trivial⟩, g.eqT (by simp only [eN, List.map_append, ← ev]; rfl)⟩)
  · have k1 : ¬ (b : Int) < ((2 ^ q : Nat) : Int) := k1
    obtain rfl : b = 2 ^ q := by omega
    refine KW.fact (fun _ g => g.nle (H1 := H)) (fun hn0 => ?_)
    refine KW.callNV1 rfl rfl rfl rfl rfl (fun H1 g _ => by
      show SpecM _ _ _ _ [.int .i64 (ws.length : Int), _] _
      rw [hwl]
      exact l01FromP (S := Low H1.n) (H0 := H1) (op := ThOp q least) hq (bool_sl (g.blk (j := 1) rfl).2 (g.blk (j := 1) rfl).1 rfl (Nat.le_refl _))) (fun v HF SF mF _ _ hv => ?_)
    obtain ⟨a5, c5, rfl, hF⟩ := hv
    refine KW.retM1 rfl rfl rfl rfl (fun H1 g => ?_)
    exact ⟨_, _, rfl, (ml1 (g.keep (ml1' hF))).more (g.inn (H := HF) (fun _ p => by have := p.1; omega))⟩
theorem thresholdS {q : Nat} (hq1 : 1 ≤ q) (hq : q ≤ 7) {least : Int} (h0 : 0 ≤ least) (h1 : least ≤ (q : Int) + 1) :
    SpecM Try.prog S H0 226 [.int .i64 q, .int .i64 least] (MkFC ((q : Int), isA (minsU q (ThOp q least) (2 ^ q))) 0) := by
  refine SpecM.of1 Try.func226 rfl (by kernel_rfl) rfl (fun H _ => ?_)
  refine KW.callE rfl rfl rfl rfl rfl (l00In _ _ _) (fun _ _ => ?_)
  rw [decide_eq_true (show (1 : Int) ≤ (q : Int) ∧ (q : Int) ≤ 7 by omega)]
  refine KW.tF rfl rfl (by first | (simp; done) | decide) ?_
  refine KW.callE rfl rfl rfl rfl rfl ((by show Spec _ _ _ _ [_, _, .int .i64 (IntKind.i64.wrap _)] _; rw [inc64 (show q < 4611686018427387904 by omega)]; exact l00In least 0 ((q + 1 : Nat) : Int))) (fun n9 m9 => ?_)
  rw [decide_eq_true (show (0 : Int) ≤ least ∧ least ≤ ((q + 1 : Nat) : Int) by omega)]
  refine KW.cF rfl rfl (by first | (simp; done) | decide) ?_
  refine KW.fact (fun _ g => g.nle (H1 := H)) (fun hn0 => ?_)
  refine KW.lit rfl rfl rfl rfl rfl rfl rfl rfl rfl rfl [] rfl rfl (fun v hv => by simp at hv) rfl ?_
  refine KW.lpM rfl rfl (fun s : Nat × Nat => [(0, .int .i64 q), (1, .int .i64 least), (4, .pointer (some ⟨H.n, 0, some 0⟩)), (6, .slice (some ⟨s.2, 0, some 1⟩) s.1 s.1), (7, .int .i64 s.1)]) (fun s => Low H.n) (fun s => H) (fun s => [(H.n, ⟨93, true, [.int .i64 0, .slice none 0 0]⟩), (s.2, ⟨_, true, (List.replicate s.1 (1 : Int)).map (Value.int .i64)⟩)]) (fun s => s.1 ≤ q) (fun s => q - s.1) ((0, _)) (Nat.zero_le _) ⟨rfl, rfl, rfl, rfl, rfl, trivial⟩ rfl rfl rfl (fun s hi bE n => ?_)
  obtain ⟨b, o⟩ := s
  simp only at hi
  refine KW.cnd rfl rfl (fun k1 => ?_) (fun k1 => ?_)
  · have k1 : (b : Int) < (q : Int) := k1
    refine KW.app1 (xs := (List.replicate b (1 : Int)).map (Value.int .i64)) (v := .int .i64 1) 1 2 rfl rfl rfl rfl rfl rfl rfl rfl rfl rfl rfl rfl rfl rfl rfl rfl rfl rfl rfl rfl rfl rfl rfl (by simp) (by show (b + 1) * 8 ≤ _; omega) (by show b + 1 ≤ _; omega) ?_
    exact KW.nxt rfl rfl (fun H' g => ⟨(b + 1, _), by simp only; omega, by simp only; omega, ⟨rfl, rfl, rfl, rfl, congrArg (Value.int .i64) (inc64 (by omega)), trivial⟩, g.eqT (by simp only [List.replicate_succ', List.map_append]; rfl)⟩)
  · have k1 : ¬ (b : Int) < (q : Int) := k1
    obtain rfl : b = q := by omega
    refine KW.fact (fun _ g => g.nle (H1 := H)) (fun hn1 => ?_)
    refine KW.callNV1 rfl rfl rfl rfl rfl (fun H1 g _ => by
      have h := l01Weighted (S := Low H1.n) (H0 := H1) (q := b) (least := least) (ws := List.replicate b (1 : Int)) (c := b) hq (by simp) (fun w hw => (List.mem_replicate.1 hw).2) (g.ints (j := 1) rfl rfl (by simp))
      rw [show (List.replicate b (1 : Int)).length = b by simp] at h
      exact h) (fun v HF SF mF _ _ hv => ?_)
    obtain ⟨a5, c5, rfl, hF⟩ := hv
    refine KW.retM1 rfl rfl rfl rfl (fun H1 g => ?_)
    exact ⟨_, rfl, famM ((ml1 (g.keep (ml1' hF))).more (g.inn (H := HF) (fun _ p => by have := p.1; omega)))⟩
end
end Go.Proofs.Ytmkpfllbmdahkaa.Am
/- Groups and their numbers. Each holds under its own conditions. -/
set_option linter.unusedVariables false
set_option linter.unusedSimpArgs false
namespace Go.Proofs.Ytmkpfllbmdahkaa.Am
open Go Go.RowKit Go.Proofs
theorem bits_hold {x q : Nat} (hx : x < 2 ^ q) : bitsOf (hold x q) = x := by
  refine Nat.eq_of_testBit_eq fun i => ?_
  rw [Bool.eq_iff_iff, bitsOf_test (fun y hy => by obtain ⟨j, rfl, _⟩ := hold_mem hy; omega)]
  constructor
  · intro h
    obtain ⟨j, hj, _, hb⟩ := hold_mem h
    rw [show i = j by omega]; exact hb
  · intro h
    refine List.mem_map.2 ⟨i, List.mem_filter.2 ⟨List.mem_range.2 ?_, h⟩, rfl⟩
    rcases Nat.lt_or_ge i q with h1 | h1
    · exact h1
    · rw [Nat.testBit_lt_two_pow (Nat.lt_of_lt_of_le hx (Nat.pow_le_pow_right (by decide) h1))] at h; cases h
theorem hold_rises (x : Nat) : ∀ n : Nat, Rises 0 ((n : Int) - 1) (hold x n)
  | 0 => fun i hi => by simp [hold] at hi
  | n + 1 => by
    have ih := hold_rises x n
    rw [hold_next]
    split
    · intro i hi
      have hi : i < (hold x n).length + 1 := by simpa using hi
      have hl : ∀ j, j < (hold x n).length → (hold x n ++ [(n : Int)]).getD j 0 = (hold x n).getD j 0 := fun j hj => by
        rw [List.getD_eq_getElem?_getD, List.getD_eq_getElem?_getD, List.getElem?_append_left hj]
      have hz : (hold x n ++ [(n : Int)]).getD (hold x n).length 0 = n := by
        rw [List.getD_eq_getElem?_getD]; simp
      unfold RiseAt
      by_cases e : i = (hold x n).length
      · rw [e, hz]
        refine ⟨⟨by omega, by omega⟩, fun h0 => ?_⟩
        rw [hl _ (by omega)]
        have h3 := ih ((hold x n).length - 1) (by omega)
        have := h3.1.2
        omega
      · have h3 := ih i (by omega)
        rw [hl i (by omega)]
        refine ⟨⟨h3.1.1, by have := h3.1.2; omega⟩, fun h0 => ?_⟩
        rw [hl _ (by omega)]
        exact h3.2 h0
    · intro i hi
      have h3 := ih i hi
      exact ⟨⟨h3.1.1, by have := h3.1.2; omega⟩, h3.2⟩
end Go.Proofs.Ytmkpfllbmdahkaa.Am
/- Families made of the least sets that open are valid, in plain Lean. Each holds under its own conditions. -/
set_option linter.unusedVariables false
set_option linter.unusedSimpArgs false
set_option maxRecDepth 20000
namespace Go.Proofs.Ytmkpfllbmdahkaa.Am
open Go Go.RowKit Go.Proofs Go.Proofs.Ytmkpfllbmdahkaa.Pl
theorem lexB_irr : ∀ a : List Int, lexB a a = false
  | [] => rfl
  | x :: a => by unfold lexB; rw [if_pos rfl]; exact lexB_irr a
theorem lexB_total : ∀ {a b : List Int}, a ≠ b → lexB a b = false → lexB b a = true
  | [], [], h, _ => (h rfl).elim
  | [], _ :: _, _, h => by cases h
  | _ :: _, [], _, _ => rfl
  | x :: a, y :: b, h, h' => by
    unfold lexB at h' ⊢
    by_cases e : x = y
    · subst e
      rw [if_pos rfl] at h' ⊢
      exact lexB_total (fun hc => h (by rw [hc])) h'
    · rw [if_neg e] at h'
      rw [if_neg (Ne.symm e)]
      simp at h' ⊢
      omega
theorem lexB_trans : ∀ {a b c : List Int}, lexB a b = true → lexB b c = true → lexB a c = true
  | [], [], _, h, _ => by cases h
  | [], _ :: _, [], _, h => by cases h
  | [], _ :: _, _ :: _, _, _ => rfl
  | _ :: _, [], _, h, _ => by cases h
  | _ :: _, _ :: _, [], _, h => by cases h
  | x :: a, y :: b, z :: c, h, h' => by
    unfold lexB at h h' ⊢
    by_cases e : x = y
    · subst e
      rw [if_pos rfl] at h
      by_cases e2 : x = z
      · subst e2
        rw [if_pos rfl] at h' ⊢
        exact lexB_trans h h'
      · rw [if_neg e2] at h' ⊢; exact h'
    · rw [if_neg e] at h
      have h := of_decide_eq_true h
      by_cases e2 : y = z
      · subst e2
        rw [if_neg e]
        exact decide_eq_true h
      · rw [if_neg e2] at h'
        have h' := of_decide_eq_true h'
        rw [if_neg (by omega)]
        exact decide_eq_true (by omega)
theorem sw_getD {L : List (List Int)} {n a i : Nat} (hn : n < L.length) (ha : a < L.length) : (sw L n a).getD i [] = if i = a then L.getD n [] else if i = n then L.getD a [] else L.getD i [] := by
  unfold sw
  rw [List.getD_eq_getElem?_getD, List.getElem?_set]
  by_cases e1 : a = i
  · subst e1
    rw [if_pos rfl, if_pos (by simp; exact ha), if_pos rfl]
    rfl
  · rw [if_neg e1, if_neg (Ne.symm e1), List.getElem?_set]
    by_cases e2 : n = i
    · subst e2
      rw [if_pos rfl, if_pos hn, if_pos rfl]
      rfl
    · rw [if_neg e2, if_neg (Ne.symm e2), List.getD_eq_getElem?_getD]
/-- The first k lists rise. -/
def UpL (L : List (List Int)) (k : Nat) : Prop := ∀ i j, i < j → j < k → lexB (L.getD i []) (L.getD j []) = true
theorem bub_up : ∀ (k : Nat) (L : List (List Int)), k < L.length → UpL L k → (∀ i, i < k → L.getD k [] ≠ L.getD i []) → UpL (bub L k) (k + 1) ∧ (∀ i, k < i → (bub L k).getD i [] = L.getD i []) ∧ ∀ i, i ≤ k → ∃ j, j ≤ k ∧ (bub L k).getD i [] = L.getD j []
  | 0, L, _, _, _ => ⟨fun i j h1 h2 => by omega, fun i _ => rfl, fun i hi => ⟨i, hi, rfl⟩⟩
  | k + 1, L, hk, hu, hd => by
    have e : bub L (k + 1) = if lexB (L.getD (k + 1) []) (L.getD k []) = true then bub (sw L (k + 1) k) k else L := rfl
    by_cases hx : lexB (L.getD (k + 1) []) (L.getD k []) = true
    · rw [e, if_pos hx]
      have at_ := fun i => sw_getD (L := L) (n := k + 1) (a := k) (i := i) hk (by omega)
      obtain ⟨r1, r2, r3⟩ := bub_up k (sw L (k + 1) k) (by rw [sw_len]; omega) (fun i j h1 h2 => by
        rw [at_ i, at_ j, if_neg (by omega), if_neg (by omega), if_neg (by omega), if_neg (by omega)]
        exact hu i j h1 (by omega)) (fun i hi => by
        rw [at_ k, at_ i, if_pos rfl, if_neg (by omega), if_neg (by omega)]
        exact hd i (by omega))
      have top : (bub (sw L (k + 1) k) k).getD (k + 1) [] = L.getD k [] := by
        rw [r2 (k + 1) (by omega), at_, if_neg (by omega), if_pos rfl]
      refine ⟨fun i j h1 h2 => ?_, fun i hi => ?_, fun i hi => ?_⟩
      · by_cases ej : j = k + 1
        · subst ej
          rw [top]
          obtain ⟨m, hm, em⟩ := r3 i (by omega)
          rw [em, at_]
          by_cases e1 : m = k
          · rw [if_pos e1]; exact hx
          · rw [if_neg e1, if_neg (by omega)]
            exact hu m k (by omega) (by omega)
        · exact r1 i j h1 (by omega)
      · rw [r2 i (by omega), at_, if_neg (by omega), if_neg (by omega)]
      · by_cases ei : i = k + 1
        · subst ei
          exact ⟨k, by omega, top⟩
        · obtain ⟨m, hm, em⟩ := r3 i (by omega)
          rw [em, at_]
          by_cases e1 : m = k
          · exact ⟨k + 1, Nat.le_refl _, by rw [if_pos e1]⟩
          · exact ⟨m, by omega, by rw [if_neg e1, if_neg (by omega)]⟩
    · rw [e, if_neg hx]
      have hyx := lexB_total (hd k (by omega)) (by simpa using hx)
      refine ⟨fun i j h1 h2 => ?_, fun i _ => rfl, fun i hi => ⟨i, hi, rfl⟩⟩
      by_cases ej : j = k + 1
      · subst ej
        by_cases ei : i = k
        · subst ei; exact hyx
        · exact lexB_trans (hu i k (by omega) (by omega)) hyx
      · exact hu i j h1 (by omega)
theorem isF_up {L : List (List Int)} (hd : ∀ i j, i < j → j < L.length → L.getD j [] ≠ L.getD i []) : ∀ n, n < L.length → UpL (isF L n) (n + 1) ∧ (∀ i, n < i → (isF L n).getD i [] = L.getD i []) ∧ ∀ i, i ≤ n → ∃ j, j ≤ n ∧ (isF L n).getD i [] = L.getD j []
  | 0, _ => ⟨fun i j h1 h2 => by omega, fun i _ => rfl, fun i hi => ⟨i, hi, rfl⟩⟩
  | n + 1, hn => by
    obtain ⟨r1, r2, r3⟩ := isF_up hd n (by omega)
    obtain ⟨s1, s2, s3⟩ := bub_up (n + 1) (isF L n) (by rw [isF_len]; exact hn) r1 (fun i hi => by
      obtain ⟨j, hj, ej⟩ := r3 i (by omega)
      rw [r2 (n + 1) (by omega), ej]
      exact hd j (n + 1) (by omega) hn)
    refine ⟨s1, fun i hi => (s2 i hi).trans (r2 i (by omega)), fun i hi => ?_⟩
    obtain ⟨j, hj, ej⟩ := s3 i hi
    rw [show isF L (n + 1) = bub (isF L n) (n + 1) from rfl, ej]
    by_cases e : j = n + 1
    · exact ⟨n + 1, Nat.le_refl _, by rw [e, r2 (n + 1) (by omega)]⟩
    · obtain ⟨m, hm, em⟩ := r3 j (by omega)
      exact ⟨m, by omega, em⟩
theorem isA_up {L : List (List Int)} (hd : ∀ i j, i < j → j < L.length → L.getD j [] ≠ L.getD i []) : UpL (isA L) L.length := by
  rcases Nat.eq_zero_or_pos L.length with h | h
  · intro i j h1 h2; omega
  · have := (isF_up hd (L.length - 1) (by omega)).1
    rw [show L.length - 1 + 1 = L.length by omega] at this
    exact this
theorem mins_dist {q : Nat} {op : Nat → Prop} : ∀ i j, i < j → j < (minsU q op (2 ^ q)).length → (minsU q op (2 ^ q)).getD j [] ≠ (minsU q op (2 ^ q)).getD i [] := by
  have h : (minsU q op (2 ^ q)).Pairwise (fun a b => b ≠ a) := by
    unfold minsU
    refine List.pairwise_map.2 ?_
    have h1 : ((List.range (2 ^ q)).filter fun c => tv (Mn q op c)).Pairwise (· < ·) := List.pairwise_lt_range.filter _
    refine h1.imp_of_mem (fun {a b} ha hb hab e => ?_)
    have ha' := List.mem_range.1 (List.mem_filter.1 ha).1
    have hb' := List.mem_range.1 (List.mem_filter.1 hb).1
    have := congrArg bitsOf e
    rw [bits_hold ha', bits_hold hb'] at this
    omega
  intro i j h1 h2
  have := List.pairwise_iff_getElem.1 h i j (by omega) h2 h1
  rw [List.getD_eq_getElem?_getD, List.getD_eq_getElem?_getD, List.getElem?_eq_getElem h2, List.getElem?_eq_getElem (by omega)]
  exact this
theorem mins_of {q : Nat} {op : Nat → Prop} {x : List Int} (h : x ∈ isA (minsU q op (2 ^ q))) : ∃ c, c < 2 ^ q ∧ Mn q op c ∧ hold c q = x := by
  obtain ⟨c, hc, rfl⟩ := List.mem_map.1 (isA_mem x h)
  have h2 := List.mem_filter.1 hc
  exact ⟨c, List.mem_range.1 h2.1, tv_iff.1 h2.2, rfl⟩
theorem fam_made {q : Nat} (hq1 : 1 ≤ q) (hq : q ≤ 7) {op : Nat → Prop} (hu : UpC (2 ^ q) op) : FamOk q (isA (minsU q op (2 ^ q))) := by
  have hup := isA_up (mins_dist (q := q) (op := op))
  have el := isA_len (L := minsU q op (2 ^ q))
  have at_ : ∀ i, i < (isA (minsU q op (2 ^ q))).length → ∃ c, c < 2 ^ q ∧ Mn q op c ∧ hold c q = (isA (minsU q op (2 ^ q))).getD i [] := fun i hi => by
    rw [List.getD_eq_getElem?_getD, List.getElem?_eq_getElem hi]
    exact mins_of (List.getElem_mem hi)
  refine ⟨by omega, by omega, fun i hi => ⟨?_, fun h0 => hup (i - 1) i (by omega) (by omega)⟩, fun i hi j hj hne hs => ?_⟩
  · obtain ⟨c, _, _, e⟩ := at_ i hi
    rw [← e]; exact hold_rises c q
  · obtain ⟨a, ha, ma, ea⟩ := at_ i hi
    obtain ⟨b, hb, mb, eb⟩ := at_ j hj
    unfold Sub at hs
    rw [← ea, ← eb, bits_hold ha, bits_hold hb] at hs
    refine mn_anti hu ha hb (fun e => ?_) hs ma mb
    subst e
    rcases Nat.lt_or_ge i j with h | h
    · have := hup i j h (by omega)
      rw [← ea, ← eb, lexB_irr] at this
      cases this
    · have := hup j i (by omega) (by omega)
      rw [← ea, ← eb, lexB_irr] at this
      cases this
theorem mn_ex {q : Nat} {op : Nat → Prop} : ∀ c, op c → ∃ m, m ≤ c ∧ Mn q op m := fun c => by
  induction c using Nat.strongRecOn with
  | ind c ih =>
    intro h
    by_cases hm : Mn q op c
    · exact ⟨c, Nat.le_refl _, hm⟩
    · obtain ⟨i, hi, hb, ho⟩ : ∃ i, i < q ∧ c.testBit i = true ∧ op (dif c (2 ^ i)) := Classical.byContradiction fun hc => hm ⟨h, fun i hi hb ho => hc ⟨i, hi, hb, ho⟩⟩
      have hlt : dif c (2 ^ i) < c := by
        have h1 : dif c (2 ^ i) ≤ c := dif_le
        have h2 : dif c (2 ^ i) ≠ c := fun e => by
          have := dif_bit c (2 ^ i) i
          rw [e, hb, Nat.testBit_two_pow_self] at this
          cases this
        omega
      obtain ⟨m, h1, h2⟩ := ih _ hlt ho
      exact ⟨m, by omega, h2⟩
theorem code_made {q : Nat} (hq1 : 1 ≤ q) (hq : q ≤ 5) {op : Nat → Prop} (hu : UpC (2 ^ q) op) (h0 : ¬ op 0) (h1 : ∃ c, c < 2 ^ q ∧ op c) : codeF q (isA (minsU q op (2 ^ q))) = 0 := by
  obtain ⟨c, hc, ho⟩ := h1
  obtain ⟨m, hmc, hm⟩ := mn_ex (q := q) c ho
  have hne : (isA (minsU q op (2 ^ q))).length ≠ 0 := by
    rw [isA_len]
    have : hold m q ∈ minsU q op (2 ^ q) := List.mem_map.2 ⟨m, List.mem_filter.2 ⟨List.mem_range.2 (by omega), tv_true hm⟩, rfl⟩
    have := List.length_pos_of_mem this
    omega
  unfold codeF
  rw [if_pos (tv_true (fam_made hq1 (by omega) hu)), if_neg (by omega), if_neg hne]
  rw [if_neg (fun e => ?_)]
  have hlt : 0 < (isA (minsU q op (2 ^ q))).length := by omega
  rw [List.getD_eq_getElem?_getD, List.getElem?_eq_getElem hlt] at e
  obtain ⟨a, ha, ma, ea⟩ := mins_of (List.getElem_mem hlt)
  have e2 : hold a q = [] := List.eq_nil_of_length_eq_zero (by rw [ea]; exact e)
  have e3 := bits_hold ha
  rw [e2] at e3
  have e4 : a = 0 := e3.symm
  subst e4
  exact h0 ma.1
end Go.Proofs.Ytmkpfllbmdahkaa.Am
/- Contracts: families drawn by the reference. Each holds under its own conditions. -/
set_option linter.unusedVariables false
set_option linter.unusedSimpArgs false
set_option maxRecDepth 20000
set_option maxHeartbeats 2000000
namespace Go.Proofs.Ytmkpfllbmdahkaa.Am
open Go Go.RowKit Go.Proofs Go.Proofs.Ytmkpfllbmdahkaa.Pl
theorem RowsB.mv {S S' V : Ids} {A A' : AH} {rows : List (List Int)} {cs : List Value} (h : RowsB KI.ml S A V rows cs) (t : ∀ i, V i → S' i ∧ A'.m i = A.m i) : RowsB KI.ml S' A' V rows cs := by
  obtain ⟨W, h1, h2, h3⟩ := h.rows
  refine ⟨h.len, fun i hi => (t i hi).1, W, h1, h2, fun j x hx => ?_⟩
  obtain ⟨v, h4, h5⟩ := h3 j x hx
  exact ⟨v, h4, KI.ml.same (fun id hid => (t id (h1 j id hid)).2) h5⟩
theorem rises_weak {h h' : Int} (hh : h ≤ h') {g : List Int} (hr : Rises 0 h g) : Rises 0 h' g := fun i hi => by
  have := hr i hi
  exact ⟨⟨this.1.1, by have := this.1.2; omega⟩, this.2⟩
theorem rises_snoc {h : Nat} {g : List Int} (hr : Rises 0 ((h : Int) - 1) g) : Rises 0 (h : Int) (g ++ [(h : Int)]) := fun i hi => by
  have hl : ∀ j, j < g.length → (g ++ [(h : Int)]).getD j 0 = g.getD j 0 := fun j hj => by
    rw [List.getD_eq_getElem?_getD, List.getD_eq_getElem?_getD, List.getElem?_append_left hj]
  have hz : (g ++ [(h : Int)]).getD g.length 0 = h := by rw [List.getD_eq_getElem?_getD]; simp
  have hi : i < g.length + 1 := by simpa using hi
  unfold RiseAt
  by_cases e : i = g.length
  · rw [e, hz]
    refine ⟨⟨by omega, Int.le_refl _⟩, fun h0 => ?_⟩
    rw [hl _ (by omega)]
    have := (hr (g.length - 1) (by omega)).1.2
    omega
  · have h3 := hr i (by omega)
    rw [hl i (by omega)]
    refine ⟨⟨h3.1.1, by have := h3.1.2; omega⟩, fun h0 => ?_⟩
    rw [hl _ (by omega)]
    exact h3.2 h0
/-- A family of groups that are not empty. -/
theorem drawn_ok {q : Nat} (hq1 : 1 ≤ q) (hq : q ≤ 5) {gs : List (List Int)} (hg : ∀ g ∈ gs, Rises 0 ((q : Int) - 1) g ∧ g ≠ []) (hne : gs ≠ []) : codeF q (isA (minsU q (Opens gs) (2 ^ q))) = 0 := by
  refine code_made hq1 hq (fun a b _ _ hs h => ?_) (fun h => ?_) ?_
  · obtain ⟨g, hg, e⟩ := h
    refine ⟨g, hg, ?_⟩
    have e2 : b &&& bitsOf g = b &&& (a &&& bitsOf g) := by rw [e]
    rw [e2, ← Nat.and_assoc, Nat.and_comm b a, hs, e]
  · obtain ⟨g, hg2, e⟩ := h
    rw [Nat.zero_and] at e
    have h1 := hold_bits q (hg g hg2).1
    rw [← e] at h1
    have h2 : hold 0 q = [] := by
      unfold hold
      rw [List.filter_eq_nil_iff.2 (fun i _ => by simp)]
      rfl
    exact (hg g hg2).2 (h1.symm.trans h2)
  · cases gs with
    | nil => exact (hne rfl).elim
    | cons g gs =>
      have hb : bitsOf g < 2 ^ q := bitsOf_lt (fun x hx => by have := rises_mem (hg g (List.mem_cons_self ..)).1 x hx; omega)
      exact ⟨bitsOf g, hb, g, List.mem_cons_self .., Nat.and_self _⟩
theorem th_ok {q : Nat} (hq1 : 1 ≤ q) (hq : q ≤ 5) {least : Int} (h1 : 1 ≤ least) (h2 : least ≤ q) : codeF q (isA (minsU q (ThOp q least) (2 ^ q))) = 0 := by
  refine code_made hq1 hq th_up (fun h => ?_) ⟨2 ^ q - 1, by have := Nat.two_pow_pos q; omega, ?_⟩
  · unfold ThOp at h
    have e : hold 0 q = [] := by
      unfold hold
      rw [List.filter_eq_nil_iff.2 (fun i _ => by simp)]
      rfl
    rw [e] at h
    simp at h
    omega
  · unfold ThOp
    have e : hold (2 ^ q - 1) q = (List.range q).map fun (i : Nat) => (i : Int) := by
      unfold hold
      rw [List.filter_eq_self.2 (fun i hi => by rw [Nat.testBit_two_pow_sub_one]; exact decide_eq_true (List.mem_range.1 hi))]
    rw [e]
    simp
    exact h2
end Go.Proofs.Ytmkpfllbmdahkaa.Am
/- Contract: the family that the reference draws. It holds under its own conditions. -/
set_option linter.unusedVariables false
set_option linter.unusedSimpArgs false
set_option maxRecDepth 20000
set_option maxHeartbeats 4000000
namespace Go.Proofs.Ytmkpfllbmdahkaa.Am
open Go Go.RowKit Go.Proofs Go.Proofs.Ytmkpfllbmdahkaa.Pl
/-- Where a drawer stands: all is as it was, but for its source. -/
structure DwE (H : AH) (id : Nat) (S : Ids) (A : AH) : Prop where
  sid : S id
  old : ∀ i, Low H.n i ∧ i ≠ id → S i ∧ A.m i = H.m i
theorem DwE.w {H : AH} {id : Nat} {S S' : Ids} {A A' : AH} (e : DwE H id S A) (st : StW (fun i => i = id) S A S' A') : DwE H id S' A' :=
  ⟨(st id e.sid).1, fun i hi => ⟨(st i (e.old i hi).1).1, ((st i (e.old i hi).1).2 hi.2).trans (e.old i hi).2⟩⟩
theorem DwE.s {H : AH} {id : Nat} {S S' : Ids} {A A' : AH} (e : DwE H id S A) (st : St S A S' A') : DwE H id S' A' :=
  ⟨(st id e.sid).1, fun i hi => ⟨(st i (e.old i hi).1).1, (st i (e.old i hi).1).2.trans (e.old i hi).2⟩⟩
theorem DwE.kb {H : AH} {id : Nat} {S : Ids} {A : AH} {s : Value} {xs : List Int} (e : DwE H id S A) (h : KB.Sl (fun i => Low H.n i ∧ i ≠ id) H s xs) : KB.Sl (fun i => S i ∧ i ≠ id) A s xs := h.stX (fun i hi => ⟨⟨(e.old i hi).1, hi.2⟩, (e.old i hi).2⟩)
theorem Src.mv {ac : Option Addr} {n cc id at_ : Nat} {A A' : AH} (h : Src ac n cc A id at_) (e : A'.m id = A.m id) : Src ac n cc A' id at_ := by
  obtain ⟨sd, h⟩ := h
  exact ⟨sd, e.trans h⟩
theorem DwE.nle {H : AH} {id n : Nat} {S : Ids} {A : AH} (e : DwE H id S A) (h : ∀ i, S i → i < n) : H.n ≤ n := by
  rcases Nat.lt_or_ge n H.n with h1 | h1
  · by_cases e1 : n = id
    · have := h id e.sid; omega
    · have := h n (e.old n ⟨h1, e1⟩).1; omega
  · exact h1
structure DwS where
  i : Nat
  S : Ids
  A : AH
  at_ : Nat
  V : Ids
  G : List (List Int)
  cs : List Value
  o : Nat
structure DwI (q a0 : Nat) (H : AH) (id : Nat) (ac : Option Addr) (n cc : Nat) (s : DwS) : Prop where
  env : DwE H id s.S s.A
  src : Src ac n cc s.A id s.at_
  at1 : s.at_ ≤ a0 + 20 * s.G.length
  lo : 1 ≤ s.G.length + s.i
  hi : s.G.length + s.i ≤ 4
  b : RowsB KI.ml s.S s.A s.V s.G s.cs
  v : ∀ i, s.V i → H.n ≤ i
  ok : ∀ g ∈ s.G, Rises 0 ((q : Int) - 1) g ∧ g ≠ []
structure DiS where
  h : Nat
  S : Ids
  A : AH
  at_ : Nat
  xs : List Int
  o : Nat
structure DiI (a0 : Nat) (H : AH) (id : Nat) (ac : Option Addr) (n cc : Nat) (V : Ids) (G : List (List Int)) (cs : List Value) (s : DiS) : Prop where
  env : DwE H id s.S s.A
  src : Src ac n cc s.A id s.at_
  at1 : s.at_ ≤ a0 + 2 * s.h
  b : RowsB KI.ml s.S s.A V G cs
  ok : Rises 0 ((s.h : Int) - 1) s.xs
  len : s.xs.length ≤ s.h
section
variable {S : Ids} {H0 : AH}
theorem l07Draw {bs : List Int} (hb : ∀ x ∈ bs, 0 ≤ x ∧ x < 256) (hl : bs.length ≤ 1048576) {ac : Option Addr} {cc id at_ : Nat} {Y : Ids} {most : Nat} (hm1 : 1 ≤ most) (hm5 : most ≤ 5) (hat : at_ ≤ 800000) (hS : S id) (hY : ∀ i, Y i → S i ∧ i ≠ id) (hsrc : Src ac bs.length cc H0 id at_) (hs : KB.Sl Y H0 (.slice ac bs.length cc) bs) :
    SpecW Try.prog S H0 (fun i => i = id) 174 [.pointer (some ⟨id, 0, none⟩), .int .i64 most] (fun n v H1 => ∃ (q : Nat) (gs : List (List Int)) (at' : Nat), 1 ≤ q ∧ q ≤ most ∧ codeF q gs = 0 ∧ at' ≤ at_ + 200 ∧ MkFam q gs n v H1 ∧ Src ac bs.length cc H1 id at') := by
  refine SpecW.of0 Try.func174 rfl (by kernel_rfl) rfl (fun H hfin hfz => ?_)
  have fx : ∀ i, S i → Low H.n i ∧ H.m i = H0.m i := fun i hi => hfz i hi
  have hid : id < H.n := (fx id hS).1
  have hsH := hs.stX (S' := fun i => Low H.n i ∧ i ≠ id) (H' := H) (fun i hi => ⟨⟨(fx i (hY i hi).1).1, (hY i hi).2⟩, (fx i (hY i hi).1).2⟩)
  have E0 : DwE H id (Low H.n) H := ⟨hid, fun i hi => ⟨hi.1, rfl⟩⟩
  refine KW.callW (W := fun i => i = id) (fun i hi => by subst hi; exact E0.sid) rfl rfl rfl rfl rfl (srcPick (S := Low H.n) (H0 := H) hb hl (n := (most : Int)) (by omega) (by omega) E0.sid (fun i hi => hi) (hsrc.mv (fx id hS).2) (E0.kb hsH)) (fun v H1 S1 hn1 st1 hw1 hp => ?_)
  obtain ⟨z1, a1, hz1, l1, u1, rfl, src1⟩ := hp
  have hz1 := hz1 (by omega)
  have E1 := E0.w st1
  obtain ⟨q, hq⟩ : ∃ q, q = z1 + 1 := ⟨_, rfl⟩
  have eq1 : IntKind.i64.wrap (1 + (z1 : Int)) = (q : Int) := by rw [wr (by omega) (by omega)]; omega
  refine KW.lit rfl rfl rfl rfl rfl rfl rfl rfl rfl rfl [] rfl rfl (fun v hv => by simp at hv) rfl ?_
  refine KW.callW (W := fun i => i = id) (fun i hi => by subst hi; exact E1.sid) rfl rfl rfl rfl rfl (srcPick (S := S1) (H0 := H1) hb hl (n := 4) (by omega) (by omega) E1.sid (fun i hi => hi) src1 (E1.kb hsH)) (fun v H2 S2 hn2 st2 hw2 hp => ?_)
  obtain ⟨z2, a2, hz2, l2, u2, rfl, src2⟩ := hp
  have hz2 := hz2 (by omega)
  have E2 := E1.w st2
  have eq2 : IntKind.i64.wrap (1 + (z2 : Int)) = ((z2 + 1 : Nat) : Int) := by rw [wr (by omega) (by omega)]; omega
  refine KW.lpM rfl rfl (fun s : DwS => [(0, .pointer (some ⟨id, 0, none⟩)), (4, .pointer (some ⟨H.n, 0, some 0⟩)), (5, .int .i64 q), (6, .slice (some ⟨s.o, 0, some 1⟩) s.G.length s.G.length), (7, .int .i64 s.i)]) (fun s => s.S) (fun s => s.A) (fun s => [(H.n, ⟨93, true, [.int .i64 0, .slice none 0 0]⟩), (s.o, ⟨_, true, s.cs⟩)]) (fun s => DwI q (at_ + 4) H id ac bs.length cc s) (fun s => s.i) (⟨z2 + 1, S2, H2, a2, fun _ => False, [], [], _⟩) (⟨E2, src2, by simp only [List.length_nil]; omega, by simp only [List.length_nil]; omega, by simp only [List.length_nil]; omega, RowsB.nil _ _, fun _ h => h.elim, fun g hg => by simp at hg⟩) ⟨rfl, rfl, congrArg (Value.int .i64) eq1, rfl, congrArg (Value.int .i64) eq2, trivial⟩ rfl rfl rfl (fun s hi bE n => ?_)
  obtain ⟨i, S3, A3, a3, V, G, cs, o⟩ := s
  obtain ⟨E3, src3, at3, lo3, hi3, b3, v3, ok3⟩ := hi
  simp only at E3 src3 at3 lo3 hi3 b3 v3 ok3
  have hcl := b3.len
  refine KW.ids (fun hlow hvar => ?_)
  have hnn := E3.nle hlow
  refine KW.cnd rfl rfl (fun k1 => ?_) (fun k1 => ?_)
  · have k1 : (i : Int) > 0 := k1
    obtain ⟨i', rfl⟩ : ∃ i', i = i' + 1 := ⟨i - 1, by omega⟩
    have ei' : IntKind.i64.wrap (((i' + 1 : Nat) : Int) - 1) = (i' : Int) := by rw [wr (by omega) (by omega)]; omega
    refine KW.lit rfl rfl rfl rfl rfl rfl rfl rfl rfl rfl [] rfl rfl (fun v hv => by simp at hv) rfl ?_
    refine KW.lpM rfl rfl (fun s : DiS => [(0, .pointer (some ⟨id, 0, none⟩)), (4, .pointer (some ⟨H.n, 0, some 0⟩)), (5, .int .i64 q), (6, .slice (some ⟨o, 0, some 1⟩) G.length G.length), (7, .int .i64 (i' + 1 : Nat)), (8, .slice (some ⟨s.o, 0, some 1⟩) s.xs.length s.xs.length), (9, .int .i64 s.h)]) (fun s => s.S) (fun s => s.A) (fun s => [(H.n, ⟨93, true, [.int .i64 0, .slice none 0 0]⟩), (o, ⟨_, true, cs⟩), (s.o, ⟨_, true, s.xs.map (Value.int .i64)⟩)]) (fun s => s.h ≤ q ∧ DiI a3 H id ac bs.length cc V G cs s) (fun s => q - s.h) (⟨0, S3, A3, a3, [], _⟩) (⟨Nat.zero_le _, E3, src3, by simp only; omega, b3, fun i hi => by simp at hi, by simp⟩) ⟨rfl, rfl, rfl, rfl, rfl, rfl, rfl, trivial⟩ rfl rfl rfl (fun s hi bE n => ?_)
    obtain ⟨h, S4, A4, a4, xs, o4⟩ := s
    obtain ⟨hq4, E4, src4, at4, b4, ok4, len4⟩ := hi
    simp only at hq4 E4 src4 at4 b4 ok4 len4
    have vne : ∀ i, V i → i ≠ id := fun i hi e => by have := v3 i hi; omega
    refine KW.cnd rfl rfl (fun k2 => ?_) (fun k2 => ?_)
    · have k2 : (h : Int) < (q : Int) := k2
      refine KW.callW (W := fun i => i = id) (fun i hi => by subst hi; exact E4.sid) rfl rfl rfl rfl rfl (srcOne (S := S4) (H0 := A4) hb hl (n := 2) (by omega) (by omega) E4.sid (fun i hi => hi) src4 (E4.kb hsH)) (fun v H5 S5 hn5 st5 hw5 hp => ?_)
      obtain ⟨b, a5, l5, u5, rfl, src5⟩ := hp
      have b5 := b4.mv (S' := S5) (A' := H5) (fun i hi => ⟨(st5 i (b4.sub i hi)).1, (st5 i (b4.sub i hi)).2 (vne i hi)⟩)
      refine KW.cndB rfl rfl (fun k3 => ?_) (fun k3 => ?_)
      · refine KW.app1 (xs := xs.map (Value.int .i64)) (v := .int .i64 h) 2 3 rfl rfl rfl rfl rfl rfl rfl rfl rfl rfl rfl rfl rfl rfl rfl rfl rfl rfl rfl rfl rfl rfl rfl (by simp) (by show (xs.length + 1) * 8 ≤ _; omega) (by show xs.length + 1 ≤ _; omega) ?_
        exact KW.nxt rfl rfl (fun H' g => ⟨⟨h + 1, S5, H5, a5, xs ++ [(h : Int)], _⟩, ⟨by simp only; omega, E4.w st5, src5, by simp only; omega, b5, by simp only; rw [show (((h + 1 : Nat) : Int) - 1) = (h : Int) by omega]; exact rises_snoc ok4, by simp only [List.length_append, List.length_singleton]; omega⟩, by simp only; omega, ⟨rfl, rfl, rfl, rfl, rfl, by simp only [List.length_append, List.length_singleton]; rfl, congrArg (Value.int .i64) (inc64 (by omega)), trivial⟩, g.eqT (by simp only [List.map_append]; rfl)⟩)
      · exact KW.nxt rfl rfl (fun H' g => ⟨⟨h + 1, S5, H5, a5, xs, o4⟩, ⟨by simp only; omega, E4.w st5, src5, by simp only; omega, b5, rises_weak (by simp only; omega) ok4, by simp only; omega⟩, by simp only; omega, ⟨rfl, rfl, rfl, rfl, rfl, rfl, congrArg (Value.int .i64) (inc64 (by omega)), trivial⟩, g⟩)
    · have k2 : ¬ (h : Int) < (q : Int) := k2
      obtain rfl : h = q := by omega
      refine KW.cnd rfl rfl (fun k4 => ?gem) (fun k4 => ?gne)
      case gem =>
        have k4 : (xs.length : Int) = 0 := k4
        obtain rfl : xs = [] := List.eq_nil_of_length_eq_zero (by omega)
        refine KW.callW (W := fun i => i = id) (fun i hi => by subst hi; exact E4.sid) rfl rfl rfl rfl rfl (srcPick (S := S4) (H0 := A4) hb hl (n := (h : Int)) (by omega) (by omega) E4.sid (fun i hi => hi) src4 (E4.kb hsH)) (fun v H5 S5 hn5 st5 hw5 hp => ?_)
        obtain ⟨z5, a5, hz5, l5, u5, rfl, src5⟩ := hp
        have hz5 := hz5 (by omega)
        have b5 := b4.mv (S' := S5) (A' := H5) (fun i hi => ⟨(st5 i (b4.sub i hi)).1, (st5 i (b4.sub i hi)).2 (vne i hi)⟩)
        have E5 := E4.w st5
        have okz : Rises 0 ((h : Int) - 1) [(z5 : Int)] := fun i hi => by
          obtain rfl : i = 0 := by simp at hi; omega
          exact ⟨⟨by show 0 ≤ (z5 : Int); omega, by show (z5 : Int) ≤ _; omega⟩, fun h0 => by omega⟩
        refine KW.app1 (xs := ([] : List Int).map (Value.int .i64)) (v := .int .i64 z5) 2 3 rfl rfl rfl rfl rfl rfl rfl rfl rfl rfl rfl rfl rfl rfl rfl rfl rfl rfl rfl rfl rfl rfl rfl (by simp) (by show (0 + 1) * 8 ≤ _; omega) (by show 0 + 1 ≤ _; omega) ?_
        refine KW.ids (fun hlow5 hvar5 => ?_)
        have hnn5 := (E5).nle hlow5
        refine KW.freeze 2 rfl (fun A6 S6 hn6 hS6 st6 hm6 ho6 hnS6 hlow6 => ?_)
        have o6ge : ∀ i, S6 i ∧ ¬ S5 i → H.n ≤ i := fun i hi => by
          rcases Nat.lt_or_ge i H.n with hh | hh
          · by_cases e : i = id
            · exact (hi.2 (e ▸ (E5).sid)).elim
            · exact (hi.2 ((E5).old i ⟨hh, e⟩).1).elim
          · exact hh
        have fI := ((b5).mv (S' := S6) (A' := A6) (fun i hi => st6.st i ((b5).sub i hi))).snoc (ml1' (row_ml (xs := [(z5 : Int)]) hm6)) (fun i hi => (hS6 i).2 (.inr hi)) (fun i p r => hnS6 (r ▸ (b5).sub i p))
        refine KW.app1 (xs := cs) (v := .slice (some ⟨_, 0, some 1⟩) ([(z5 : Int)]).length ([(z5 : Int)]).length) 1 2 rfl rfl rfl rfl rfl rfl rfl rfl rfl rfl rfl rfl rfl rfl rfl rfl rfl rfl rfl rfl rfl rfl rfl (by omega) (by show (_ + 1) * 24 ≤ _; omega) (by omega) ?_
        exact KW.nxt rfl rfl (fun H' g => ⟨⟨i', S6, A6, a5, _, G ++ [[(z5 : Int)]], _, _⟩, ⟨(E5).s st6.st, (src5).mv (st6.st id (E5).sid).2, by simp only [List.length_append, List.length_singleton]; omega, by simp only [List.length_append, List.length_singleton]; omega, by simp only [List.length_append, List.length_singleton]; omega, fI, fun i hi => hi.elim (v3 i) (fun e => o6ge i ⟨(hS6 i).2 (.inr e), fun hx => hnS6 (e ▸ hx)⟩), fun g hg => by
          rcases List.mem_append.1 hg with hg | hg
          · exact ok3 g hg
          · rw [List.mem_singleton.1 hg]; exact ⟨okz, (by simp)⟩⟩, by simp only; omega, ⟨rfl, rfl, rfl, by simp only [List.length_append, List.length_singleton]; rfl, congrArg (Value.int .i64) ei', trivial⟩, g⟩)
      case gne =>
        have k4 : ¬ (xs.length : Int) = 0 := k4
        refine KW.ids (fun hlow5 hvar5 => ?_)
        have hnn5 := (E4).nle hlow5
        refine KW.freeze 2 rfl (fun A6 S6 hn6 hS6 st6 hm6 ho6 hnS6 hlow6 => ?_)
        have o6ge : ∀ i, S6 i ∧ ¬ S4 i → H.n ≤ i := fun i hi => by
          rcases Nat.lt_or_ge i H.n with hh | hh
          · by_cases e : i = id
            · exact (hi.2 (e ▸ (E4).sid)).elim
            · exact (hi.2 ((E4).old i ⟨hh, e⟩).1).elim
          · exact hh
        have fI := ((b4).mv (S' := S6) (A' := A6) (fun i hi => st6.st i ((b4).sub i hi))).snoc (ml1' (row_ml (xs := xs) hm6)) (fun i hi => (hS6 i).2 (.inr hi)) (fun i p r => hnS6 (r ▸ (b4).sub i p))
        refine KW.app1 (xs := cs) (v := .slice (some ⟨_, 0, some 1⟩) (xs).length (xs).length) 1 2 rfl rfl rfl rfl rfl rfl rfl rfl rfl rfl rfl rfl rfl rfl rfl rfl rfl rfl rfl rfl rfl rfl rfl (by omega) (by show (_ + 1) * 24 ≤ _; omega) (by omega) ?_
        exact KW.nxt rfl rfl (fun H' g => ⟨⟨i', S6, A6, a4, _, G ++ [xs], _, _⟩, ⟨(E4).s st6.st, (src4).mv (st6.st id (E4).sid).2, by simp only [List.length_append, List.length_singleton]; omega, by simp only [List.length_append, List.length_singleton]; omega, by simp only [List.length_append, List.length_singleton]; omega, fI, fun i hi => hi.elim (v3 i) (fun e => o6ge i ⟨(hS6 i).2 (.inr e), fun hx => hnS6 (e ▸ hx)⟩), fun g hg => by
          rcases List.mem_append.1 hg with hg | hg
          · exact ok3 g hg
          · rw [List.mem_singleton.1 hg]; exact ⟨ok4, (fun e => k4 (by rw [e]; rfl))⟩⟩, by simp only; omega, ⟨rfl, rfl, rfl, by simp only [List.length_append, List.length_singleton]; rfl, congrArg (Value.int .i64) ei', trivial⟩, g⟩)
  · have k1 : ¬ (i : Int) > 0 := k1
    obtain rfl : i = 0 := by omega
    refine KW.callW (W := fun i => i = id) (fun i hi => by subst hi; exact E3.sid) rfl rfl rfl rfl rfl (srcOne (S := S3) (H0 := A3) hb hl (n := 4) (by omega) (by omega) E3.sid (fun i hi => hi) src3 (E3.kb hsH)) (fun v H5 S5 hn5 st5 hw5 hp => ?_)
    obtain ⟨b, a5, l5, u5, rfl, src5⟩ := hp
    have E5 := E3.w st5
    have b5 := b3.mv (S' := S5) (A' := H5) (fun i hi => ⟨(st5 i (b3.sub i hi)).1, (st5 i (b3.sub i hi)).2 (fun e => by have := v3 i hi; omega)⟩)
    refine KW.cndB rfl rfl (fun k3 => ?_) (fun k3 => ?_)
    · refine KW.callW (W := fun i => i = id) (fun i hi => by subst hi; exact E5.sid) rfl rfl rfl rfl rfl (srcPick (S := S5) (H0 := H5) hb hl (n := (q : Int)) (by omega) (by omega) E5.sid (fun i hi => hi) src5 (E5.kb hsH)) (fun v H6 S6 hn6 st6 hw6 hp => ?_)
      obtain ⟨z6, a6, hz6, l6, u6, rfl, src6⟩ := hp
      have hz6 := hz6 (by omega)
      have E6 := E5.w st6
      have e6 : IntKind.i64.wrap (1 + (z6 : Int)) = ((z6 + 1 : Nat) : Int) := by rw [wr (by omega) (by omega)]; omega
      refine KW.callN1 rfl rfl rfl rfl rfl (by show SpecM _ _ _ _ [_, .int .i64 (IntKind.i64.wrap _)] _; rw [e6]; exact thresholdS (q := q) (by omega) (by omega) (least := ((z6 + 1 : Nat) : Int)) (by omega) (by omega)) (fun v HF SF mF tF wF hv => ?_)
      obtain ⟨cs5, rfl, hF⟩ := hv
      have E7 := (E6).s tF.st
      have src7 := (src6).mv (tF.st id (E6).sid).2
      obtain ⟨b7, d7, X7, rfl, hml, hX⟩ := splitM_Family hF
      refine KW.retW rfl rfl rfl rfl (fun H9 g => by have := g.n_; omega) (fun i hi hw => E7.old i ⟨hi, hw⟩) (fun H9 g => ⟨q, _, a6, by omega, by omega, th_ok (by omega) (by omega) (by omega) (by omega), by omega, ⟨_, _, rfl, ?_⟩, src7.mv (g.froz id E7.sid).2⟩)
      exact ((ml1 hml).same (fun i hi => (g.froz i (wF.st i (hX i hi)).1).2)).more (fun i hi => ⟨by have := (hX i hi).1; omega, by have := (hX i hi).2; have := g.n_; omega⟩)
    · refine KW.callNV1 rfl rfl rfl rfl rfl (fun H1 g _ => familyOfS (S := Low H1.n) (H0 := H1) (q := q) (gs := G) (by omega) (by omega) (by omega) (fun x hx => (ok3 x hx).1) ((b5.ml (X := Low H1.n) rfl g (j := 1) rfl (g.blk (j := 1) rfl).2 (fun i hi => by have h1 := (g.froz i (b5.sub i hi)).1; have h2 := g.n_; show i < H1.n; omega)).to (KLe.row (KLe.refl KI)))) (fun v HF SF mF tF wF hv => ?_)
      obtain ⟨cs5, rfl, hF⟩ := hv
      have E7 := (E5).s tF.st
      have src7 := (src5).mv (tF.st id (E5).sid).2
      obtain ⟨b7, d7, X7, rfl, hml, hX⟩ := splitM_Family hF
      refine KW.retW rfl rfl rfl rfl (fun H9 g => by have := g.n_; omega) (fun i hi hw => E7.old i ⟨hi, hw⟩) (fun H9 g => ⟨q, _, a5, by omega, by omega, drawn_ok (by omega) (by omega) ok3 (fun e => by rw [e] at lo3; simp at lo3), by omega, ⟨_, _, rfl, ?_⟩, src7.mv (g.froz id E7.sid).2⟩)
      exact ((ml1 hml).same (fun i hi => (g.froz i (wF.st i (hX i hi)).1).2)).more (fun i hi => ⟨by have := (hX i hi).1; omega, by have := (hX i hi).2; have := g.n_; omega⟩)
end
end Go.Proofs.Ytmkpfllbmdahkaa.Am
