/- What the laws' own functions do at Deal: sizes, copies, equality, marks. Each holds under its own conditions. -/
import Derived.Test.YtaepgfafbnjccaaTyScheme
import Derived.Test.YtaepgfafbnjccaaTyInt64SSS
set_option linter.unusedVariables false
set_option maxRecDepth 20000
namespace Go.Proofs.Ytaepgfafbnjccaa.Am
open Go Go.RowKit Go.Proofs
abbrev T_Deal : Type := (T_Scheme) × (Int) × (List (List Int)) × (List (List (List Int)))
abbrev K_Deal : Kn T_Deal := Kn.pair (K_Scheme) (Kn.pair (KI) (Kn.pair (K_Int64SS) (K_Int64SSS)))
abbrev M_Deal : Kn T_Deal := Kn.mp (M_Scheme) (Kn.mp (KI) (Kn.mp (M_Int64SS) (M_Int64SSS)))
theorem le_Deal : KLe M_Deal K_Deal := KLe.pair (le_Scheme) (KLe.pair ((KLe.refl KI)) (KLe.pair (le_Int64SS) (le_Int64SSS)))
abbrev B_Deal (x : T_Deal) : Prop := B_Scheme x.1 ∧ I64 x.2.1 ∧ B_Int64SS x.2.2.1 ∧ B_Int64SSS x.2.2.2
abbrev W_Deal (x : T_Deal) : Prop := W_Scheme x.1 ∧ I64 x.2.1 ∧ W_Int64SS x.2.2.1 ∧ W_Int64SSS x.2.2.2
abbrev sz_Deal (x : T_Deal) : Nat := sz_Scheme x.1 + sz_Int64SS x.2.2.1 + sz_Int64SSS x.2.2.2
abbrev mk_Deal (k : Int) (x : T_Deal) : T_Deal := (mk_Scheme (k) x.1, x.2.1, mk_Int64SS (k + (sz_Scheme x.1 : Nat)) x.2.2.1, mk_Int64SSS (k + (sz_Scheme x.1 : Nat) + (sz_Int64SS x.2.2.1 : Nat)) x.2.2.2)
theorem size_Deal {x : T_Deal} (hB : B_Deal x) : sz_Deal x ≤ 4194304 := by have := size_Scheme hB.1; have := size_Int64SS hB.2.2.1; have := size_Int64SSS hB.2.2.2; simp only [sz_Deal]; omega
section
variable {S : Ids} {H0 : AH} {W : Ids} {left k : Int}
theorem form_Deal {x : T_Deal} {cs : List Value} (h : K_Deal.R S H0 x cs) : ∃ a1 c1 a2 c2 a3 c3 a4 c4, cs = [.int .i64 x.1.1, .slice a1 x.1.2.1.length c1, .int .i64 x.1.2.2.1, .int .i64 x.1.2.2.2.1, .slice a2 x.1.2.2.2.2.length c2, .int .i64 x.2.1, .slice a3 x.2.2.1.length c3, .slice a4 x.2.2.2.length c4] := by
  obtain ⟨e0, d0, rfl, h0, h0_⟩ := h
  obtain ⟨e1, d1, rfl, h1, h1_⟩ := h0_
  obtain ⟨e2, d2, rfl, h2, h2_⟩ := h1_
  have h3 := h2_
  obtain ⟨a1, c1, a2, c2, rfl⟩ := form_Scheme h0
  obtain rfl := KI_of h1
  obtain ⟨a3, c3, rfl⟩ := slform h2
  obtain ⟨a4, c4, rfl⟩ := slform h3
  exact ⟨a1, c1, a2, c2, a3, c3, a4, c4, rfl⟩
theorem formM_Deal {x : T_Deal} {cs : List Value} (h : M_Deal.R S H0 x cs) : ∃ a1 c1 a2 c2 a3 c3 a4 c4, cs = [.int .i64 x.1.1, .slice a1 x.1.2.1.length c1, .int .i64 x.1.2.2.1, .int .i64 x.1.2.2.2.1, .slice a2 x.1.2.2.2.2.length c2, .int .i64 x.2.1, .slice a3 x.2.2.1.length c3, .slice a4 x.2.2.2.length c4] := form_Deal (le_Deal.2 _ _ _ _ h)
theorem split_Deal {x : T_Deal} {cs : List Value} (h : K_Deal.R S H0 x cs) : ∃ a1 c1 a2 c2 a3 c3 a4 c4, cs = [.int .i64 x.1.1, .slice a1 x.1.2.1.length c1, .int .i64 x.1.2.2.1, .int .i64 x.1.2.2.2.1, .slice a2 x.1.2.2.2.2.length c2, .int .i64 x.2.1, .slice a3 x.2.2.1.length c3, .slice a4 x.2.2.2.length c4] ∧ K_Scheme.R S H0 x.1 [.int .i64 x.1.1, .slice a1 x.1.2.1.length c1, .int .i64 x.1.2.2.1, .int .i64 x.1.2.2.2.1, .slice a2 x.1.2.2.2.2.length c2] ∧ K_Int64SS.R S H0 x.2.2.1 [.slice a3 x.2.2.1.length c3] ∧ K_Int64SSS.R S H0 x.2.2.2 [.slice a4 x.2.2.2.length c4] := by
  obtain ⟨e0, d0, rfl, h0, h0_⟩ := h
  obtain ⟨e1, d1, rfl, h1, h1_⟩ := h0_
  obtain ⟨e2, d2, rfl, h2, h2_⟩ := h1_
  have h3 := h2_
  obtain ⟨a1, c1, a2, c2, rfl⟩ := form_Scheme h0
  obtain rfl := KI_of h1
  obtain ⟨a3, c3, rfl⟩ := slform h2
  obtain ⟨a4, c4, rfl⟩ := slform h3
  exact ⟨a1, c1, a2, c2, a3, c3, a4, c4, rfl, h0, h2, h3⟩
theorem splitM_Deal {x : T_Deal} {cs : List Value} (h : M_Deal.R S H0 x cs) : ∃ (a1 : Option Addr) (c1 : Nat) (a2 : Option Addr) (c2 : Nat) (a3 : Option Addr) (c3 : Nat) (a4 : Option Addr) (c4 : Nat) (X0 : Ids) (X2 : Ids) (X3 : Ids), cs = [.int .i64 x.1.1, .slice a1 x.1.2.1.length c1, .int .i64 x.1.2.2.1, .int .i64 x.1.2.2.2.1, .slice a2 x.1.2.2.2.2.length c2, .int .i64 x.2.1, .slice a3 x.2.2.1.length c3, .slice a4 x.2.2.2.length c4] ∧ M_Scheme.R X0 H0 x.1 [.int .i64 x.1.1, .slice a1 x.1.2.1.length c1, .int .i64 x.1.2.2.1, .int .i64 x.1.2.2.2.1, .slice a2 x.1.2.2.2.2.length c2] ∧ M_Int64SS.R X2 H0 x.2.2.1 [.slice a3 x.2.2.1.length c3] ∧ M_Int64SSS.R X3 H0 x.2.2.2 [.slice a4 x.2.2.2.length c4] ∧ (∀ id, X0 id → S id) ∧ (∀ id, X2 id → S id) ∧ (∀ id, X3 id → S id) ∧ (∀ id, X0 id → X2 id → False) ∧ (∀ id, X0 id → X3 id → False) ∧ (∀ id, X2 id → X3 id → False) := by
  obtain ⟨e0, d0, X0, Y0, rfl, i0, j0, q0, h0, h0_⟩ := h
  obtain ⟨e1, d1, X1, Y1, rfl, i1, j1, q1, h1, h1_⟩ := h0_
  obtain ⟨e2, d2, X2, Y2, rfl, i2, j2, q2, h2, h2_⟩ := h1_
  have h3 := h2_
  obtain ⟨a1, c1, a2, c2, rfl⟩ := formM_Scheme h0
  obtain rfl := KI_of h1
  obtain ⟨a3, c3, rfl⟩ := mlform h2
  obtain ⟨a4, c4, rfl⟩ := mlform h3
  exact ⟨a1, c1, a2, c2, a3, c3, a4, c4, X0, X2, Y2, rfl, h0, h2, h3, fun _ p => i0 _ p, fun _ p => j0 _ (j1 _ (i2 _ p)), fun _ p => j0 _ (j1 _ (j2 _ p)), fun _ o p => q0 _ o (j1 _ (i2 _ p)), fun _ o p => q0 _ o (j1 _ (j2 _ p)), fun _ o p => q2 _ o (p)⟩
theorem to_Deal {x : T_Deal} {cs : List Value} (hB : B_Deal x) (h : K_Deal.R S H0 x cs) : SpecM Try.prog S H0 15 [.agg cs.toArray] (fun n v H1 => ∃ cs, v = .agg cs.toArray ∧ M_Deal.R (New n H1.n) H1 x cs) := by
  obtain ⟨a1, c1, a2, c2, a3, c3, a4, c4, rfl, h0, h2, h3⟩ := split_Deal h
  refine SpecM.of1 Try.func15 rfl (by kernel_rfl) rfl (fun H _ => ?_)
  refine KW.callN1 rfl rfl rfl rfl rfl (to_Scheme hB.1 (On.R h0)) (fun v G0 S0 m0 _ _ hv => ?_)
  obtain ⟨w0, rfl, g0⟩ := hv
  obtain ⟨b0_0, d0_0, b0_1, d0_1, rfl⟩ := formM_Scheme g0
  refine KW.callN1 rfl rfl rfl rfl rfl (to_Int64SS hB.2.2.1 (On.R h2)) (fun v G2 S2 m2 _ _ hv => ?_)
  obtain ⟨b2, d2, rfl, g2⟩ := hv
  refine KW.callN1 rfl rfl rfl rfl rfl (to_Int64SSS hB.2.2.2 (On.R h3)) (fun v G3 S3 m3 _ _ hv => ?_)
  obtain ⟨b3, d3, rfl, g3⟩ := hv
  refine KW.retM1 rfl rfl rfl rfl (fun H1 g => ?_)
  refine ⟨_, rfl, ?_⟩
  have k3 : M_Int64SSS.R (New G2.n H1.n) H1 x.2.2.2 [.slice b3 x.2.2.2.length d3] := (M_Int64SSS).more (g.inn (H := G3) (fun _ p => by have := p.1; omega)) (g.keep g3)
  have k2 : (Kn.mp (M_Int64SS) (M_Int64SSS)).R (New G0.n H1.n) H1 (x.2.2) [.slice b2 x.2.2.1.length d2, .slice b3 x.2.2.2.length d3] := mpR (g.keep g2) k3 (g.inn (H := G2) (fun _ p => by have := p.1; omega)) (fun _ p => ⟨by have := p.1; have := m2; omega, p.2⟩) (fun _ o p => by have := o.2; have := p.1; omega)
  have k1 : (Kn.mp (KI) (Kn.mp (M_Int64SS) (M_Int64SSS))).R (New G0.n H1.n) H1 (x.2) [.int .i64 x.2.1, .slice b2 x.2.2.1.length d2, .slice b3 x.2.2.2.length d3] := mpR (X := None_) (show KI.R None_ H1 _ [.int .i64 x.2.1] from rfl) k2 (fun _ p => p.elim) (fun _ p => p) (fun _ p _ => p.elim)
  have k0 : (Kn.mp (M_Scheme) (Kn.mp (KI) (Kn.mp (M_Int64SS) (M_Int64SSS)))).R (New H.n H1.n) H1 (x) [.int .i64 x.1.1, .slice b0_0 x.1.2.1.length d0_0, .int .i64 x.1.2.2.1, .int .i64 x.1.2.2.2.1, .slice b0_1 x.1.2.2.2.2.length d0_1, .int .i64 x.2.1, .slice b2 x.2.2.1.length d2, .slice b3 x.2.2.2.length d3] := mpR (g.keep g0) k1 (g.inn (H := G0) (fun _ p => by have := p.1; omega)) (fun _ p => ⟨by have := p.1; have := m0; omega, p.2⟩) (fun _ o p => by have := o.2; have := p.1; omega)
  exact k0
theorem eq_Deal {x : T_Deal} {cs cs' : List Value} (hB : B_Deal x) (h : K_Deal.R S H0 x cs) (h' : K_Deal.R S H0 x cs') : Spec Try.prog S H0 17 [.agg cs.toArray, .agg cs'.toArray] (fun v => v = .bool true) := by
  obtain ⟨a1, c1, a2, c2, a3, c3, a4, c4, rfl, h0, h2, h3⟩ := split_Deal h
  obtain ⟨b1, d1, b2, d2, b3, d3, b4, d4, rfl, k0, k2, k3⟩ := split_Deal h'
  refine Spec.of1 Try.func17 rfl (by kernel_rfl) rfl (fun H _ => ?_)
  refine KW.callE rfl rfl rfl rfl rfl (eq_Scheme hB.1 (On.R h0) (On.R k0)) (fun _ _ => ?_)
  refine KW.cndB rfl rfl (fun h => absurd h (by first | decide | simp)) (fun _ => ?_)
  refine KW.cndB rfl rfl (fun h => absurd h (by first | decide | simp)) (fun _ => ?_)
  refine KW.callE rfl rfl rfl rfl rfl (eq_Int64SS hB.2.2.1 (On.R h2) (On.R k2)) (fun _ _ => ?_)
  refine KW.cndB rfl rfl (fun h => absurd h (by first | decide | simp)) (fun _ => ?_)
  refine KW.callE rfl rfl rfl rfl rfl (eq_Int64SSS hB.2.2.2 (On.R h3) (On.R k3)) (fun _ _ => ?_)
  refine KW.cndB rfl rfl (fun h => absurd h (by first | decide | simp)) (fun _ => ?_)
  exact KW.ret rfl rfl rfl rfl (rfl)
theorem sz_Deal' {x : T_Deal} {cs : List Value} (l0 : 0 ≤ left) (l1 : left ≤ 1048576) (hW : W_Deal x) (h : K_Deal.R S H0 x cs) : Spec Try.prog S H0 13 [.agg cs.toArray, .int .i64 left] (SzPost left (B_Deal x)) := by
  obtain ⟨a1, c1, a2, c2, a3, c3, a4, c4, rfl, h0, h2, h3⟩ := split_Deal h
  refine Spec.of1 Try.func13 rfl (by kernel_rfl) rfl (fun H _ => ?_)
  refine KW.call rfl rfl rfl rfl rfl (sz_Scheme' l0 l1 hW.1 (On.R h0)) (fun v _ _ hv => ?_)
  obtain ⟨r0, rfl, k0⟩ := hv
  refine KW.cnd rfl rfl (fun h => KW.ret rfl rfl rfl rfl ⟨-1, rfl, .inl rfl⟩) (fun h => ?_)
  have k0 := k0.resolve_left (by omega)
  refine KW.call rfl rfl rfl rfl rfl (sz_Int64SS' k0.1 (by have := k0.2.1; omega) hW.2.2.1 (On.R h2)) (fun v _ _ hv => ?_)
  obtain ⟨r2, rfl, k2⟩ := hv
  refine KW.cnd rfl rfl (fun h => KW.ret rfl rfl rfl rfl ⟨-1, rfl, .inl rfl⟩) (fun h => ?_)
  have k2 := k2.resolve_left (by omega)
  refine KW.call rfl rfl rfl rfl rfl (sz_Int64SSS' k2.1 (by have := k2.2.1; omega) hW.2.2.2 (On.R h3)) (fun v _ _ hv => ?_)
  obtain ⟨r3, rfl, k3⟩ := hv
  refine KW.cnd rfl rfl (fun h => KW.ret rfl rfl rfl rfl ⟨-1, rfl, .inl rfl⟩) (fun h => ?_)
  have k3 := k3.resolve_left (by omega)
  exact KW.ret rfl rfl rfl rfl (⟨_, rfl, .inr ⟨k3.1, by have := k0.2.1; have := k2.2.1; have := k3.2.1; omega, k0.2.2, hW.2.1, k2.2.2, k3.2.2⟩⟩)
theorem mark_Deal {x : T_Deal} {cs : List Value} (hB : B_Deal x) (hk : Mk k (sz_Deal x)) (hW : ∀ id, W id → S id) (h : M_Deal.R W H0 x cs) : SpecW Try.prog S H0 W 32 [.agg cs.toArray, .int .i64 k] (fun n v H1 => v = .int .i64 (k + (sz_Deal x : Nat)) ∧ M_Deal.R W H1 (mk_Deal k x) cs) := by
  obtain ⟨a1, c1, a2, c2, a3, c3, a4, c4, X0, X2, X3, rfl, h0, h2, h3, i0, i2, i3, q0_2, q0_3, q2_3⟩ := splitM_Deal h
  refine SpecW.of0 Try.func32 rfl (by kernel_rfl) rfl (fun H hfin hfz => ?_)
  have F0 : Fk M_Scheme X0 (Low H.n) H _ _ := ⟨(M_Scheme).same (fun id hid => (hfz id (hW id (i0 id hid))).2) h0, fun id hid => (hfz id (hW id (i0 id hid))).1⟩
  have F2 : Fk M_Int64SS X2 (Low H.n) H _ _ := ⟨(M_Int64SS).same (fun id hid => (hfz id (hW id (i2 id hid))).2) h2, fun id hid => (hfz id (hW id (i2 id hid))).1⟩
  have F3 : Fk M_Int64SSS X3 (Low H.n) H _ _ := ⟨(M_Int64SSS).same (fun id hid => (hfz id (hW id (i3 id hid))).2) h3, fun id hid => (hfz id (hW id (i3 id hid))).1⟩
  have T : ∀ id, id < H.n → Low H.n id ∧ (¬ W id → H.m id = H.m id) := fun id hid => ⟨hid, fun _ => rfl⟩
  refine KW.callW F0.i rfl rfl rfl rfl rfl (mark_Scheme hB.1 (k := k) (by have := hk.1; have := hk.2; simp only [sz_Deal] at this; constructor <;> omega) F0.i F0.r) (fun v H0 S0 m0 t0 w0 hv => ?_)
  obtain ⟨rfl, g0⟩ := hv
  have F0 : Fk M_Scheme X0 S0 H0 _ _ := ⟨g0, fun id hid => (t0 id (F0.i id hid)).1⟩
  have F2 := F2.w t0 (fun id p o => q0_2 id o p)
  have F3 := F3.w t0 (fun id p o => q0_3 id o p)
  have T : ∀ id, id < H.n → S0 id ∧ (¬ W id → H0.m id = H.m id) := fun id hid => ⟨(t0 id (T id hid).1).1, fun hw => ((t0 id (T id hid).1).2 (fun o => hw (i0 id o))).trans ((T id hid).2 hw)⟩
  refine KW.callW F2.i rfl rfl rfl rfl rfl (mark_Int64SS hB.2.2.1 (k := k + (sz_Scheme x.1 : Nat)) (by have := hk.1; have := hk.2; simp only [sz_Deal] at this; constructor <;> omega) F2.i F2.r) (fun v H2 S2 m2 t2 w2 hv => ?_)
  obtain ⟨rfl, g2⟩ := hv
  have F2 : Fk M_Int64SS X2 S2 H2 _ _ := ⟨g2, fun id hid => (t2 id (F2.i id hid)).1⟩
  have F0 := F0.w t2 (fun id p o => q0_2 id p o)
  have F3 := F3.w t2 (fun id p o => q2_3 id o p)
  have T : ∀ id, id < H.n → S2 id ∧ (¬ W id → H2.m id = H.m id) := fun id hid => ⟨(t2 id (T id hid).1).1, fun hw => ((t2 id (T id hid).1).2 (fun o => hw (i2 id o))).trans ((T id hid).2 hw)⟩
  refine KW.callW F3.i rfl rfl rfl rfl rfl (mark_Int64SSS hB.2.2.2 (k := k + (sz_Scheme x.1 : Nat) + (sz_Int64SS x.2.2.1 : Nat)) (by have := hk.1; have := hk.2; simp only [sz_Deal] at this; constructor <;> omega) F3.i F3.r) (fun v H3 S3 m3 t3 w3 hv => ?_)
  obtain ⟨rfl, g3⟩ := hv
  have F3 : Fk M_Int64SSS X3 S3 H3 _ _ := ⟨g3, fun id hid => (t3 id (F3.i id hid)).1⟩
  have F0 := F0.w t3 (fun id p o => q0_3 id p o)
  have F2 := F2.w t3 (fun id p o => q2_3 id p o)
  have T : ∀ id, id < H.n → S3 id ∧ (¬ W id → H3.m id = H.m id) := fun id hid => ⟨(t3 id (T id hid).1).1, fun hw => ((t3 id (T id hid).1).2 (fun o => hw (i3 id o))).trans ((T id hid).2 hw)⟩
  refine KW.retW rfl rfl rfl rfl (fun H1 g => by have := g.n_; omega) (fun id hid hw => ⟨(T id hid).1, (T id hid).2 hw⟩) (fun H1 g => ?_)
  have e : k + (sz_Scheme x.1 : Nat) + (sz_Int64SS x.2.2.1 : Nat) + (sz_Int64SSS x.2.2.2 : Nat) = k + ((sz_Deal x : Nat) : Int) := by simp only [sz_Deal]; omega
  refine ⟨congrArg (Value.int .i64) e, ?_⟩
  have G0 := (M_Scheme).same (H' := H1) (fun id hid => (g.froz id (F0.i id hid)).2) F0.r
  have G2 := (M_Int64SS).same (H' := H1) (fun id hid => (g.froz id (F2.i id hid)).2) F2.r
  have G3 := (M_Int64SSS).same (H' := H1) (fun id hid => (g.froz id (F3.i id hid)).2) F3.r
  have k3 : M_Int64SSS.R (fun id => X3 id) H1 (mk_Int64SSS (k + (sz_Scheme x.1 : Nat) + (sz_Int64SS x.2.2.1 : Nat)) x.2.2.2) [.slice a4 x.2.2.2.length c4] := G3
  have k2 : (Kn.mp (M_Int64SS) (M_Int64SSS)).R (fun id => X2 id ∨ X3 id) H1 ((mk_Int64SS (k + (sz_Scheme x.1 : Nat)) x.2.2.1), (mk_Int64SSS (k + (sz_Scheme x.1 : Nat) + (sz_Int64SS x.2.2.1 : Nat)) x.2.2.2)) [.slice a3 x.2.2.1.length c3, .slice a4 x.2.2.2.length c4] := mpR G2 k3 (fun _ p => .inl p) (fun _ p => .inr p) (fun _ o p => q2_3 _ o p)
  have k1 : (Kn.mp (KI) (Kn.mp (M_Int64SS) (M_Int64SSS))).R (fun id => X2 id ∨ X3 id) H1 (x.2.1, (mk_Int64SS (k + (sz_Scheme x.1 : Nat)) x.2.2.1), (mk_Int64SSS (k + (sz_Scheme x.1 : Nat) + (sz_Int64SS x.2.2.1 : Nat)) x.2.2.2)) [.int .i64 x.2.1, .slice a3 x.2.2.1.length c3, .slice a4 x.2.2.2.length c4] := mpR (X := None_) (show KI.R None_ H1 _ [.int .i64 x.2.1] from rfl) k2 (fun _ p => p.elim) (fun _ p => p) (fun _ p _ => p.elim)
  have k0 : (Kn.mp (M_Scheme) (Kn.mp (KI) (Kn.mp (M_Int64SS) (M_Int64SSS)))).R (fun id => X0 id ∨ X2 id ∨ X3 id) H1 ((mk_Scheme (k) x.1), x.2.1, (mk_Int64SS (k + (sz_Scheme x.1 : Nat)) x.2.2.1), (mk_Int64SSS (k + (sz_Scheme x.1 : Nat) + (sz_Int64SS x.2.2.1 : Nat)) x.2.2.2)) [.int .i64 x.1.1, .slice a1 x.1.2.1.length c1, .int .i64 x.1.2.2.1, .int .i64 x.1.2.2.2.1, .slice a2 x.1.2.2.2.2.length c2, .int .i64 x.2.1, .slice a3 x.2.2.1.length c3, .slice a4 x.2.2.2.length c4] := mpR G0 k1 (fun _ p => .inl p) (fun _ p => .inr p) (fun _ o p => by rcases p with p | p <;> first | exact q0_2 _ o p | exact q0_3 _ o p)
  exact (M_Deal).more (fun id p => by rcases p with p | p | p <;> first | exact i0 id p | exact i2 id p | exact i3 id p) k0
end
end Go.Proofs.Ytaepgfafbnjccaa.Am
