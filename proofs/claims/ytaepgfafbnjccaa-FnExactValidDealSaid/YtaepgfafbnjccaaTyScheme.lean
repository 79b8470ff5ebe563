/- What the laws' own functions do at Scheme: sizes, copies, equality, marks. Each holds under its own conditions. -/
import Derived.Test.YtaepgfafbnjccaaTyMatrix
set_option linter.unusedVariables false
set_option maxRecDepth 20000
namespace Go.Proofs.Ytaepgfafbnjccaa.Am
open Go Go.RowKit Go.Proofs
abbrev T_Scheme : Type := (Int) × (List Int) × (T_Matrix)
abbrev K_Scheme : Kn T_Scheme := Kn.pair (KI) (Kn.pair (K_Int64S) (K_Matrix))
abbrev M_Scheme : Kn T_Scheme := Kn.mp (KI) (Kn.mp (M_Int64S) (M_Matrix))
theorem le_Scheme : KLe M_Scheme K_Scheme := KLe.pair ((KLe.refl KI)) (KLe.pair (le_Int64S) (le_Matrix))
abbrev B_Scheme (x : T_Scheme) : Prop := I64 x.1 ∧ B_Int64S x.2.1 ∧ B_Matrix x.2.2
abbrev W_Scheme (x : T_Scheme) : Prop := I64 x.1 ∧ W_Int64S x.2.1 ∧ W_Matrix x.2.2
abbrev sz_Scheme (x : T_Scheme) : Nat := sz_Int64S x.2.1 + sz_Matrix x.2.2
abbrev mk_Scheme (k : Int) (x : T_Scheme) : T_Scheme := (x.1, mk_Int64S (k) x.2.1, mk_Matrix (k + (sz_Int64S x.2.1 : Nat)) x.2.2)
theorem size_Scheme {x : T_Scheme} (hB : B_Scheme x) : sz_Scheme x ≤ 2097152 := by have := size_Int64S hB.2.1; have := size_Matrix hB.2.2; simp only [sz_Scheme]; omega
section
variable {S : Ids} {H0 : AH} {W : Ids} {left k : Int}
theorem form_Scheme {x : T_Scheme} {cs : List Value} (h : K_Scheme.R S H0 x cs) : ∃ a1 c1 a2 c2, cs = [.int .i64 x.1, .slice a1 x.2.1.length c1, .int .i64 x.2.2.1, .int .i64 x.2.2.2.1, .slice a2 x.2.2.2.2.length c2] := by
  obtain ⟨e0, d0, rfl, h0, h0_⟩ := h
  obtain ⟨e1, d1, rfl, h1, h1_⟩ := h0_
  have h2 := h1_
  obtain rfl := KI_of h0
  obtain ⟨a1, c1, rfl⟩ := slform h1
  obtain ⟨a2, c2, rfl⟩ := form_Matrix h2
  exact ⟨a1, c1, a2, c2, rfl⟩
theorem formM_Scheme {x : T_Scheme} {cs : List Value} (h : M_Scheme.R S H0 x cs) : ∃ a1 c1 a2 c2, cs = [.int .i64 x.1, .slice a1 x.2.1.length c1, .int .i64 x.2.2.1, .int .i64 x.2.2.2.1, .slice a2 x.2.2.2.2.length c2] := form_Scheme (le_Scheme.2 _ _ _ _ h)
theorem split_Scheme {x : T_Scheme} {cs : List Value} (h : K_Scheme.R S H0 x cs) : ∃ a1 c1 a2 c2, cs = [.int .i64 x.1, .slice a1 x.2.1.length c1, .int .i64 x.2.2.1, .int .i64 x.2.2.2.1, .slice a2 x.2.2.2.2.length c2] ∧ K_Int64S.R S H0 x.2.1 [.slice a1 x.2.1.length c1] ∧ K_Matrix.R S H0 x.2.2 [.int .i64 x.2.2.1, .int .i64 x.2.2.2.1, .slice a2 x.2.2.2.2.length c2] := by
  obtain ⟨e0, d0, rfl, h0, h0_⟩ := h
  obtain ⟨e1, d1, rfl, h1, h1_⟩ := h0_
  have h2 := h1_
  obtain rfl := KI_of h0
  obtain ⟨a1, c1, rfl⟩ := slform h1
  obtain ⟨a2, c2, rfl⟩ := form_Matrix h2
  exact ⟨a1, c1, a2, c2, rfl, h1, h2⟩
theorem splitM_Scheme {x : T_Scheme} {cs : List Value} (h : M_Scheme.R S H0 x cs) : ∃ (a1 : Option Addr) (c1 : Nat) (a2 : Option Addr) (c2 : Nat) (X1 : Ids) (X2 : Ids), cs = [.int .i64 x.1, .slice a1 x.2.1.length c1, .int .i64 x.2.2.1, .int .i64 x.2.2.2.1, .slice a2 x.2.2.2.2.length c2] ∧ M_Int64S.R X1 H0 x.2.1 [.slice a1 x.2.1.length c1] ∧ M_Matrix.R X2 H0 x.2.2 [.int .i64 x.2.2.1, .int .i64 x.2.2.2.1, .slice a2 x.2.2.2.2.length c2] ∧ (∀ id, X1 id → S id) ∧ (∀ id, X2 id → S id) ∧ (∀ id, X1 id → X2 id → False) := by
  obtain ⟨e0, d0, X0, Y0, rfl, i0, j0, q0, h0, h0_⟩ := h
  obtain ⟨e1, d1, X1, Y1, rfl, i1, j1, q1, h1, h1_⟩ := h0_
  have h2 := h1_
  obtain rfl := KI_of h0
  obtain ⟨a1, c1, rfl⟩ := mlform h1
  obtain ⟨a2, c2, rfl⟩ := formM_Matrix h2
  exact ⟨a1, c1, a2, c2, X1, Y1, rfl, h1, h2, fun _ p => j0 _ (i1 _ p), fun _ p => j0 _ (j1 _ p), fun _ o p => q1 _ o (p)⟩
theorem to_Scheme {x : T_Scheme} {cs : List Value} (hB : B_Scheme x) (h : K_Scheme.R S H0 x cs) : SpecM Try.prog S H0 64 [.agg cs.toArray] (fun n v H1 => ∃ cs, v = .agg cs.toArray ∧ M_Scheme.R (New n H1.n) H1 x cs) := by
  obtain ⟨a1, c1, a2, c2, rfl, h1, h2⟩ := split_Scheme h
  refine SpecM.of1 Try.func64 rfl (by kernel_rfl) rfl (fun H _ => ?_)
  refine KW.callN1 rfl rfl rfl rfl rfl (to_Int64S hB.2.1 (On.R h1)) (fun v G1 S1 m1 _ _ hv => ?_)
  obtain ⟨b1, d1, rfl, g1⟩ := hv
  refine KW.callN1 rfl rfl rfl rfl rfl (to_Matrix hB.2.2 (On.R h2)) (fun v G2 S2 m2 _ _ hv => ?_)
  obtain ⟨w2, rfl, g2⟩ := hv
  obtain ⟨b2_0, d2_0, rfl⟩ := formM_Matrix g2
  refine KW.retM1 rfl rfl rfl rfl (fun H1 g => ?_)
  refine ⟨_, rfl, ?_⟩
  have k2 : M_Matrix.R (New G1.n H1.n) H1 x.2.2 [.int .i64 x.2.2.1, .int .i64 x.2.2.2.1, .slice b2_0 x.2.2.2.2.length d2_0] := (M_Matrix).more (g.inn (H := G2) (fun _ p => by have := p.1; omega)) (g.keep g2)
  have k1 : (Kn.mp (M_Int64S) (M_Matrix)).R (New H.n H1.n) H1 (x.2) [.slice b1 x.2.1.length d1, .int .i64 x.2.2.1, .int .i64 x.2.2.2.1, .slice b2_0 x.2.2.2.2.length d2_0] := mpR (g.keep g1) k2 (g.inn (H := G1) (fun _ p => by have := p.1; omega)) (fun _ p => ⟨by have := p.1; have := m1; omega, p.2⟩) (fun _ o p => by have := o.2; have := p.1; omega)
  have k0 : (Kn.mp (KI) (Kn.mp (M_Int64S) (M_Matrix))).R (New H.n H1.n) H1 (x) [.int .i64 x.1, .slice b1 x.2.1.length d1, .int .i64 x.2.2.1, .int .i64 x.2.2.2.1, .slice b2_0 x.2.2.2.2.length d2_0] := mpR (X := None_) (show KI.R None_ H1 _ [.int .i64 x.1] from rfl) k1 (fun _ p => p.elim) (fun _ p => p) (fun _ p _ => p.elim)
  exact k0
theorem eq_Scheme {x : T_Scheme} {cs cs' : List Value} (hB : B_Scheme x) (h : K_Scheme.R S H0 x cs) (h' : K_Scheme.R S H0 x cs') : Spec Try.prog S H0 69 [.agg cs.toArray, .agg cs'.toArray] (fun v => v = .bool true) := by
  obtain ⟨a1, c1, a2, c2, rfl, h1, h2⟩ := split_Scheme h
  obtain ⟨b1, d1, b2, d2, rfl, k1, k2⟩ := split_Scheme h'
  refine Spec.of1 Try.func69 rfl (by kernel_rfl) rfl (fun H _ => ?_)
  refine KW.cndB rfl rfl (fun h => absurd h (by first | decide | simp)) (fun _ => ?_)
  refine KW.callE rfl rfl rfl rfl rfl (eq_Int64S hB.2.1 (On.R h1) (On.R k1)) (fun _ _ => ?_)
  refine KW.cndB rfl rfl (fun h => absurd h (by first | decide | simp)) (fun _ => ?_)
  refine KW.callE rfl rfl rfl rfl rfl (eq_Matrix hB.2.2 (On.R h2) (On.R k2)) (fun _ _ => ?_)
  refine KW.cndB rfl rfl (fun h => absurd h (by first | decide | simp)) (fun _ => ?_)
  exact KW.ret rfl rfl rfl rfl (rfl)
theorem sz_Scheme' {x : T_Scheme} {cs : List Value} (l0 : 0 ≤ left) (l1 : left ≤ 1048576) (hW : W_Scheme x) (h : K_Scheme.R S H0 x cs) : Spec Try.prog S H0 61 [.agg cs.toArray, .int .i64 left] (SzPost left (B_Scheme x)) := by
  obtain ⟨a1, c1, a2, c2, rfl, h1, h2⟩ := split_Scheme h
  refine Spec.of1 Try.func61 rfl (by kernel_rfl) rfl (fun H _ => ?_)
  refine KW.call rfl rfl rfl rfl rfl (sz_Int64S' l0 l1 hW.2.1 (On.R h1)) (fun v _ _ hv => ?_)
  obtain ⟨r1, rfl, k1⟩ := hv
  refine KW.cnd rfl rfl (fun h => KW.ret rfl rfl rfl rfl ⟨-1, rfl, .inl rfl⟩) (fun h => ?_)
  have k1 := k1.resolve_left (by omega)
  refine KW.call rfl rfl rfl rfl rfl (sz_Matrix' k1.1 (by have := k1.2.1; omega) hW.2.2 (On.R h2)) (fun v _ _ hv => ?_)
  obtain ⟨r2, rfl, k2⟩ := hv
  refine KW.cnd rfl rfl (fun h => KW.ret rfl rfl rfl rfl ⟨-1, rfl, .inl rfl⟩) (fun h => ?_)
  have k2 := k2.resolve_left (by omega)
  exact KW.ret rfl rfl rfl rfl (⟨_, rfl, .inr ⟨k2.1, by have := k1.2.1; have := k2.2.1; omega, hW.1, k1.2.2, k2.2.2⟩⟩)
theorem mark_Scheme {x : T_Scheme} {cs : List Value} (hB : B_Scheme x) (hk : Mk k (sz_Scheme x)) (hW : ∀ id, W id → S id) (h : M_Scheme.R W H0 x cs) : SpecW Try.prog S H0 W 88 [.agg cs.toArray, .int .i64 k] (fun n v H1 => v = .int .i64 (k + (sz_Scheme x : Nat)) ∧ M_Scheme.R W H1 (mk_Scheme k x) cs) := by
  obtain ⟨a1, c1, a2, c2, X1, X2, rfl, h1, h2, i1, i2, q1_2⟩ := splitM_Scheme h
  refine SpecW.of0 Try.func88 rfl (by kernel_rfl) rfl (fun H hfin hfz => ?_)
  have F1 : Fk M_Int64S X1 (Low H.n) H _ _ := ⟨(M_Int64S).same (fun id hid => (hfz id (hW id (i1 id hid))).2) h1, fun id hid => (hfz id (hW id (i1 id hid))).1⟩
  have F2 : Fk M_Matrix X2 (Low H.n) H _ _ := ⟨(M_Matrix).same (fun id hid => (hfz id (hW id (i2 id hid))).2) h2, fun id hid => (hfz id (hW id (i2 id hid))).1⟩
  have T : ∀ id, id < H.n → Low H.n id ∧ (¬ W id → H.m id = H.m id) := fun id hid => ⟨hid, fun _ => rfl⟩
  refine KW.callW F1.i rfl rfl rfl rfl rfl (mark_Int64S hB.2.1 (k := k) (by have := hk.1; have := hk.2; simp only [sz_Scheme] at this; constructor <;> omega) F1.i F1.r) (fun v H1 S1 m1 t1 w1 hv => ?_)
  obtain ⟨rfl, g1⟩ := hv
  have F1 : Fk M_Int64S X1 S1 H1 _ _ := ⟨g1, fun id hid => (t1 id (F1.i id hid)).1⟩
  have F2 := F2.w t1 (fun id p o => q1_2 id o p)
  have T : ∀ id, id < H.n → S1 id ∧ (¬ W id → H1.m id = H.m id) := fun id hid => ⟨(t1 id (T id hid).1).1, fun hw => ((t1 id (T id hid).1).2 (fun o => hw (i1 id o))).trans ((T id hid).2 hw)⟩
  refine KW.callW F2.i rfl rfl rfl rfl rfl (mark_Matrix hB.2.2 (k := k + (sz_Int64S x.2.1 : Nat)) (by have := hk.1; have := hk.2; simp only [sz_Scheme] at this; constructor <;> omega) F2.i F2.r) (fun v H2 S2 m2 t2 w2 hv => ?_)
  obtain ⟨rfl, g2⟩ := hv
  have F2 : Fk M_Matrix X2 S2 H2 _ _ := ⟨g2, fun id hid => (t2 id (F2.i id hid)).1⟩
  have F1 := F1.w t2 (fun id p o => q1_2 id p o)
  have T : ∀ id, id < H.n → S2 id ∧ (¬ W id → H2.m id = H.m id) := fun id hid => ⟨(t2 id (T id hid).1).1, fun hw => ((t2 id (T id hid).1).2 (fun o => hw (i2 id o))).trans ((T id hid).2 hw)⟩
  refine KW.retW rfl rfl rfl rfl (fun H1 g => by have := g.n_; omega) (fun id hid hw => ⟨(T id hid).1, (T id hid).2 hw⟩) (fun H1 g => ?_)
  have e : k + (sz_Int64S x.2.1 : Nat) + (sz_Matrix x.2.2 : Nat) = k + ((sz_Scheme x : Nat) : Int) := by simp only [sz_Scheme]; omega
  refine ⟨congrArg (Value.int .i64) e, ?_⟩
  have G1 := (M_Int64S).same (H' := H1) (fun id hid => (g.froz id (F1.i id hid)).2) F1.r
  have G2 := (M_Matrix).same (H' := H1) (fun id hid => (g.froz id (F2.i id hid)).2) F2.r
  have k2 : M_Matrix.R (fun id => X2 id) H1 (mk_Matrix (k + (sz_Int64S x.2.1 : Nat)) x.2.2) [.int .i64 x.2.2.1, .int .i64 x.2.2.2.1, .slice a2 x.2.2.2.2.length c2] := G2
  have k1 : (Kn.mp (M_Int64S) (M_Matrix)).R (fun id => X1 id ∨ X2 id) H1 ((mk_Int64S (k) x.2.1), (mk_Matrix (k + (sz_Int64S x.2.1 : Nat)) x.2.2)) [.slice a1 x.2.1.length c1, .int .i64 x.2.2.1, .int .i64 x.2.2.2.1, .slice a2 x.2.2.2.2.length c2] := mpR G1 k2 (fun _ p => .inl p) (fun _ p => .inr p) (fun _ o p => q1_2 _ o p)
  have k0 : (Kn.mp (KI) (Kn.mp (M_Int64S) (M_Matrix))).R (fun id => X1 id ∨ X2 id) H1 (x.1, (mk_Int64S (k) x.2.1), (mk_Matrix (k + (sz_Int64S x.2.1 : Nat)) x.2.2)) [.int .i64 x.1, .slice a1 x.2.1.length c1, .int .i64 x.2.2.1, .int .i64 x.2.2.2.1, .slice a2 x.2.2.2.2.length c2] := mpR (X := None_) (show KI.R None_ H1 _ [.int .i64 x.1] from rfl) k1 (fun _ p => p.elim) (fun _ p => p) (fun _ p _ => p.elim)
  exact (M_Scheme).more (fun id p => by rcases p with p | p <;> first | exact i1 id p | exact i2 id p) k0
end
end Go.Proofs.Ytaepgfafbnjccaa.Am
