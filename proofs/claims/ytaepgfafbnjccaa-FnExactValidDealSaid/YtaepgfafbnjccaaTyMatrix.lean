/- What the laws' own functions do at Matrix: sizes, copies, equality, marks. Each holds under its own conditions. -/
import Derived.Test.YtaepgfafbnjccaaLw1
set_option linter.unusedVariables false
set_option maxRecDepth 20000
namespace Go.Proofs.Ytaepgfafbnjccaa.Am
open Go Go.RowKit Go.Proofs
abbrev T_Matrix : Type := (Int) × (Int) × (List (List Int))
abbrev K_Matrix : Kn T_Matrix := Kn.pair (KI) (Kn.pair (KI) (K_Int64SS))
abbrev M_Matrix : Kn T_Matrix := Kn.mp (KI) (Kn.mp (KI) (M_Int64SS))
theorem le_Matrix : KLe M_Matrix K_Matrix := KLe.pair ((KLe.refl KI)) (KLe.pair ((KLe.refl KI)) (le_Int64SS))
abbrev B_Matrix (x : T_Matrix) : Prop := I64 x.1 ∧ I64 x.2.1 ∧ B_Int64SS x.2.2
abbrev W_Matrix (x : T_Matrix) : Prop := I64 x.1 ∧ I64 x.2.1 ∧ W_Int64SS x.2.2
abbrev sz_Matrix (x : T_Matrix) : Nat := sz_Int64SS x.2.2
abbrev mk_Matrix (k : Int) (x : T_Matrix) : T_Matrix := (x.1, x.2.1, mk_Int64SS (k) x.2.2)
theorem size_Matrix {x : T_Matrix} (hB : B_Matrix x) : sz_Matrix x ≤ 1048576 := by have := size_Int64SS hB.2.2; simp only [sz_Matrix]; omega
section
variable {S : Ids} {H0 : AH} {W : Ids} {left k : Int}
theorem form_Matrix {x : T_Matrix} {cs : List Value} (h : K_Matrix.R S H0 x cs) : ∃ a1 c1, cs = [.int .i64 x.1, .int .i64 x.2.1, .slice a1 x.2.2.length c1] := by
  obtain ⟨e0, d0, rfl, h0, h0_⟩ := h
  obtain ⟨e1, d1, rfl, h1, h1_⟩ := h0_
  have h2 := h1_
  obtain rfl := KI_of h0
  obtain rfl := KI_of h1
  obtain ⟨a1, c1, rfl⟩ := slform h2
  exact ⟨a1, c1, rfl⟩
theorem formM_Matrix {x : T_Matrix} {cs : List Value} (h : M_Matrix.R S H0 x cs) : ∃ a1 c1, cs = [.int .i64 x.1, .int .i64 x.2.1, .slice a1 x.2.2.length c1] := form_Matrix (le_Matrix.2 _ _ _ _ h)
theorem split_Matrix {x : T_Matrix} {cs : List Value} (h : K_Matrix.R S H0 x cs) : ∃ a1 c1, cs = [.int .i64 x.1, .int .i64 x.2.1, .slice a1 x.2.2.length c1] ∧ K_Int64SS.R S H0 x.2.2 [.slice a1 x.2.2.length c1] := by
  obtain ⟨e0, d0, rfl, h0, h0_⟩ := h
  obtain ⟨e1, d1, rfl, h1, h1_⟩ := h0_
  have h2 := h1_
  obtain rfl := KI_of h0
  obtain rfl := KI_of h1
  obtain ⟨a1, c1, rfl⟩ := slform h2
  exact ⟨a1, c1, rfl, h2⟩
theorem splitM_Matrix {x : T_Matrix} {cs : List Value} (h : M_Matrix.R S H0 x cs) : ∃ (a1 : Option Addr) (c1 : Nat) (X2 : Ids), cs = [.int .i64 x.1, .int .i64 x.2.1, .slice a1 x.2.2.length c1] ∧ M_Int64SS.R X2 H0 x.2.2 [.slice a1 x.2.2.length c1] ∧ (∀ id, X2 id → S id) := by
  obtain ⟨e0, d0, X0, Y0, rfl, i0, j0, q0, h0, h0_⟩ := h
  obtain ⟨e1, d1, X1, Y1, rfl, i1, j1, q1, h1, h1_⟩ := h0_
  have h2 := h1_
  obtain rfl := KI_of h0
  obtain rfl := KI_of h1
  obtain ⟨a1, c1, rfl⟩ := mlform h2
  exact ⟨a1, c1, Y1, rfl, h2, fun _ p => j0 _ (j1 _ p)⟩
theorem to_Matrix {x : T_Matrix} {cs : List Value} (hB : B_Matrix x) (h : K_Matrix.R S H0 x cs) : SpecM Try.prog S H0 129 [.agg cs.toArray] (fun n v H1 => ∃ cs, v = .agg cs.toArray ∧ M_Matrix.R (New n H1.n) H1 x cs) := by
  obtain ⟨a1, c1, rfl, h2⟩ := split_Matrix h
  refine SpecM.of1 Try.func129 rfl (by kernel_rfl) rfl (fun H _ => ?_)
  refine KW.callN1 rfl rfl rfl rfl rfl (to_Int64SS hB.2.2 (On.R h2)) (fun v G2 S2 m2 _ _ hv => ?_)
  obtain ⟨b2, d2, rfl, g2⟩ := hv
  refine KW.retM1 rfl rfl rfl rfl (fun H1 g => ?_)
  refine ⟨_, rfl, ?_⟩
  have k2 : M_Int64SS.R (New H.n H1.n) H1 x.2.2 [.slice b2 x.2.2.length d2] := (M_Int64SS).more (g.inn (H := G2) (fun _ p => by have := p.1; omega)) (g.keep g2)
  have k1 : (Kn.mp (KI) (M_Int64SS)).R (New H.n H1.n) H1 (x.2) [.int .i64 x.2.1, .slice b2 x.2.2.length d2] := mpR (X := None_) (show KI.R None_ H1 _ [.int .i64 x.2.1] from rfl) k2 (fun _ p => p.elim) (fun _ p => p) (fun _ p _ => p.elim)
  have k0 : (Kn.mp (KI) (Kn.mp (KI) (M_Int64SS))).R (New H.n H1.n) H1 (x) [.int .i64 x.1, .int .i64 x.2.1, .slice b2 x.2.2.length d2] := mpR (X := None_) (show KI.R None_ H1 _ [.int .i64 x.1] from rfl) k1 (fun _ p => p.elim) (fun _ p => p) (fun _ p _ => p.elim)
  exact k0
theorem eq_Matrix {x : T_Matrix} {cs cs' : List Value} (hB : B_Matrix x) (h : K_Matrix.R S H0 x cs) (h' : K_Matrix.R S H0 x cs') : Spec Try.prog S H0 135 [.agg cs.toArray, .agg cs'.toArray] (fun v => v = .bool true) := by
  obtain ⟨a1, c1, rfl, h2⟩ := split_Matrix h
  obtain ⟨b1, d1, rfl, k2⟩ := split_Matrix h'
  refine Spec.of1 Try.func135 rfl (by kernel_rfl) rfl (fun H _ => ?_)
  refine KW.cndB rfl rfl (fun h => absurd h (by first | decide | simp)) (fun _ => ?_)
  refine KW.cndB rfl rfl (fun h => absurd h (by first | decide | simp)) (fun _ => ?_)
  refine KW.callE rfl rfl rfl rfl rfl (eq_Int64SS hB.2.2 (On.R h2) (On.R k2)) (fun _ _ => ?_)
  refine KW.cndB rfl rfl (fun h => absurd h (by first | decide | simp)) (fun _ => ?_)
  exact KW.ret rfl rfl rfl rfl (rfl)
theorem sz_Matrix' {x : T_Matrix} {cs : List Value} (l0 : 0 ≤ left) (l1 : left ≤ 1048576) (hW : W_Matrix x) (h : K_Matrix.R S H0 x cs) : Spec Try.prog S H0 125 [.agg cs.toArray, .int .i64 left] (SzPost left (B_Matrix x)) := by
  obtain ⟨a1, c1, rfl, h2⟩ := split_Matrix h
  refine Spec.of1 Try.func125 rfl (by kernel_rfl) rfl (fun H _ => ?_)
  refine KW.call rfl rfl rfl rfl rfl (sz_Int64SS' l0 l1 hW.2.2 (On.R h2)) (fun v _ _ hv => ?_)
  obtain ⟨r2, rfl, k2⟩ := hv
  refine KW.cnd rfl rfl (fun h => KW.ret rfl rfl rfl rfl ⟨-1, rfl, .inl rfl⟩) (fun h => ?_)
  have k2 := k2.resolve_left (by omega)
  exact KW.ret rfl rfl rfl rfl (⟨_, rfl, .inr ⟨k2.1, by have := k2.2.1; omega, hW.1, hW.2.1, k2.2.2⟩⟩)
theorem mark_Matrix {x : T_Matrix} {cs : List Value} (hB : B_Matrix x) (hk : Mk k (sz_Matrix x)) (hW : ∀ id, W id → S id) (h : M_Matrix.R W H0 x cs) : SpecW Try.prog S H0 W 142 [.agg cs.toArray, .int .i64 k] (fun n v H1 => v = .int .i64 (k + (sz_Matrix x : Nat)) ∧ M_Matrix.R W H1 (mk_Matrix k x) cs) := by
  obtain ⟨a1, c1, X2, rfl, h2, i2⟩ := splitM_Matrix h
  refine SpecW.of0 Try.func142 rfl (by kernel_rfl) rfl (fun H hfin hfz => ?_)
  have F2 : Fk M_Int64SS X2 (Low H.n) H _ _ := ⟨(M_Int64SS).same (fun id hid => (hfz id (hW id (i2 id hid))).2) h2, fun id hid => (hfz id (hW id (i2 id hid))).1⟩
  have T : ∀ id, id < H.n → Low H.n id ∧ (¬ W id → H.m id = H.m id) := fun id hid => ⟨hid, fun _ => rfl⟩
  refine KW.callW F2.i rfl rfl rfl rfl rfl (mark_Int64SS hB.2.2 (k := k) (by have := hk.1; have := hk.2; simp only [sz_Matrix] at this; constructor <;> omega) F2.i F2.r) (fun v H2 S2 m2 t2 w2 hv => ?_)
  obtain ⟨rfl, g2⟩ := hv
  have F2 : Fk M_Int64SS X2 S2 H2 _ _ := ⟨g2, fun id hid => (t2 id (F2.i id hid)).1⟩
  have T : ∀ id, id < H.n → S2 id ∧ (¬ W id → H2.m id = H.m id) := fun id hid => ⟨(t2 id (T id hid).1).1, fun hw => ((t2 id (T id hid).1).2 (fun o => hw (i2 id o))).trans ((T id hid).2 hw)⟩
  refine KW.retW rfl rfl rfl rfl (fun H1 g => by have := g.n_; omega) (fun id hid hw => ⟨(T id hid).1, (T id hid).2 hw⟩) (fun H1 g => ?_)
  refine ⟨rfl, ?_⟩
  have G2 := (M_Int64SS).same (H' := H1) (fun id hid => (g.froz id (F2.i id hid)).2) F2.r
  have k2 : M_Int64SS.R (fun id => X2 id) H1 (mk_Int64SS (k) x.2.2) [.slice a1 x.2.2.length c1] := G2
  have k1 : (Kn.mp (KI) (M_Int64SS)).R (fun id => X2 id) H1 (x.2.1, (mk_Int64SS (k) x.2.2)) [.int .i64 x.2.1, .slice a1 x.2.2.length c1] := mpR (X := None_) (show KI.R None_ H1 _ [.int .i64 x.2.1] from rfl) k2 (fun _ p => p.elim) (fun _ p => p) (fun _ p _ => p.elim)
  have k0 : (Kn.mp (KI) (Kn.mp (KI) (M_Int64SS))).R (fun id => X2 id) H1 (x.1, x.2.1, (mk_Int64SS (k) x.2.2)) [.int .i64 x.1, .int .i64 x.2.1, .slice a1 x.2.2.length c1] := mpR (X := None_) (show KI.R None_ H1 _ [.int .i64 x.1] from rfl) k1 (fun _ p => p.elim) (fun _ p => p) (fun _ p _ => p.elim)
  exact (M_Matrix).more (fun id p => i2 id p) k0
end
end Go.Proofs.Ytaepgfafbnjccaa.Am
