/- Structs among the arguments; a contract makes the machine's call; rules for what makes memory. For every program. No condition beyond each theorem's own. -/
import Derived.Test.YtaepgfafbnjccaaAm21
set_option linter.unusedSimpArgs false
set_option linter.unusedVariables false
namespace Go.Proofs.Ytaepgfafbnjccaa.Am
open Go Go.RowKit Go.ChangeShapes Go.WideShapes
section
variable {P : Program}
/-- Fields from an offset on. -/
def OpnF {α : Type} (P : Program) (fs : List Field) (off : Nat) (d : Kn α) (wf : α → Prop) : Prop :=
  ∀ (H : Type) (enc : TypeId × Value → H) (w : World) (base : Nat) (held : Bool) (fuel : Nat) (cs : List Value) (xs : List (DataW H × List MemPlace)),
    (∀ (i : Nat) (f : Field), fs[i]? = some f → DataW.trod enc P w base (fun _ => true) held fuel f.type ((cs.drop f.offset).take (P.cellsOf f.type)) = xs[i]?) → xs.length = fs.length →
    (∀ n ∈ DataW.weightsEach P (fs.map (·.type)) (xs.map (·.1)), n ≤ reachBytes) → ∀ ρ A, Pre w ρ A →
      ∃ (a : α) (ρ' : Ren) (A' : AH) (acs : List Value), Up ρ A ρ' A' ∧ Pre w ρ' A' ∧ CR ρ' acs ((cs.drop off).take d.es) ∧ d.R (Low A'.n) A' a acs ∧ wf a
theorem OpnF.one {α : Type} {f : Field} {d : Kn α} {wf : α → Prop} (hc : P.cellsOf f.type = d.es) (h : Opn P f.type d wf) : OpnF P [f] f.offset d wf := by
  intro H enc w base held fuel cs xs hx hl hw ρ A p
  match xs, hl with
  | [y], _ =>
    have h1 := hx 0 f rfl
    rw [hc] at h1
    exact h H enc w base held fuel _ y h1 (fun n hn => hw n (by simp [DataW.weightsEach]; exact hn)) ρ A p
theorem OpnF.cons {α β : Type} {f : Field} {fs : List Field} {d : Kn α} {d' : Kn β} {wf : α → Prop} {wf' : β → Prop} {off : Nat} (hc : P.cellsOf f.type = d.es) (ho : f.offset + d.es = off) (h : Opn P f.type d wf) (h' : OpnF P fs off d' wf') :
    OpnF P (f :: fs) f.offset (Kn.pair d d') (fun x => wf x.1 ∧ wf' x.2) := by
  intro H enc w base held fuel cs xs hx hl hw ρ A p
  match xs, hl with
  | y :: ys, hl =>
    have h1 := hx 0 f rfl
    rw [hc] at h1
    obtain ⟨a, ρ1, A1, acs, hu, hp, hcr, ha, hwa⟩ := h H enc w base held fuel _ y h1 (fun n hn => hw n (by simp only [List.map_cons, DataW.weightsEach, List.mem_append]; exact .inl hn)) ρ A p
    obtain ⟨b, ρ2, A2, bcs, hu2, hp2, hcr2, hb, hwb⟩ := h' H enc w base held fuel cs ys (fun i g hg => hx (i + 1) g hg) (by simpa using hl) (fun n hn => hw n (by simp only [List.map_cons, DataW.weightsEach, List.mem_append]; exact .inr hn)) ρ1 A1 hp
    refine ⟨(a, b), ρ2, A2, acs ++ bcs, hu.trans hu2, hp2, ?_, ⟨acs, bcs, rfl, Kn.up hu2 ha, hb⟩, hwa, hwb⟩
    have e : (cs.drop f.offset).take (Kn.pair d d').es = (cs.drop f.offset).take d.es ++ (cs.drop off).take d'.es := by
      show (cs.drop f.offset).take (d.es + d'.es) = _
      rw [List.take_add, List.drop_drop, ho]
    rw [e]
    exact (hcr.mono (hu2.le hp)).append hcr2
theorem Opn.struct {α : Type} {t : TypeId} {fs : Array Field} {d : Kn α} {wf : α → Prop} (ht : P.underlying t = some (.struct fs)) (hc : P.cellsOf t = d.es) (h : OpnF P fs.toList 0 d wf) : Opn P t d wf := by
  intro H enc w base held fuel cs x hx hw ρ A p
  obtain ⟨xs, n, _, rfl, hl, hxl, hf⟩ := DataW.trod_struct ht hx
  simp only [DataW.weights, ht] at hw
  obtain ⟨a, ρ1, A1, acs, hu, hp, hcr, ha, hwa⟩ := h H enc w base held n cs xs (fun i f hi => hf i f (by simpa using hi)) (by simpa using hxl) hw ρ A p
  rw [List.drop_zero, List.take_of_length_le (by omega)] at hcr
  exact ⟨a, ρ1, A1, acs, hu, hp, hcr, ha, hwa⟩
/-- An argument, by its place. -/
theorem Opn.arg {α : Type} {t : TypeId} {d : Kn α} {wf : α → Prop} (h : Opn P t d wf) {H : Type} {enc : TypeId × Value → H} {W : World} {base : Nat} {held : Bool} {v : Value} {x : DataW H} {p : List MemPlace} {ts : List TypeId} {ds : List (DataW H)} {j : Nat}
    (hsz : (DataW.weightsEach P ts ds).all (· ≤ reachBytes) = true) (ht : ts[j]? = some t) (hd : ds[j]? = some x) (hx : DataW.Trod enc P W base (fun _ => true) held t v x p) {ρ : Ren} {A : AH} (hp : Pre W ρ A) :
    ∃ (a : α) (ρ' : Ren) (A' : AH) (acs : List Value), Up ρ A ρ' A' ∧ Pre W ρ' A' ∧ CR ρ' acs v.cells.toList ∧ d.R (Low A'.n) A' a acs ∧ wf a := by
  obtain ⟨fuel, hf⟩ := hx
  refine h H enc W base held fuel _ _ hf (fun n hn => ?_) ρ A hp
  have := List.all_eq_true.1 hsz n (DataW.weights_mem_each ht hd n hn)
  simpa using this
theorem CR.single {ρ : Ren} {acs : List Value} {v : Value} (h : CR ρ acs [v]) : ∃ u, acs = [u] ∧ VR ρ u v := by
  obtain ⟨u, hu⟩ := List.length_eq_one_iff.1 (h.1.trans rfl)
  subst hu
  obtain ⟨c, h1, h2⟩ := h.2 0 u rfl
  cases h1
  exact ⟨u, rfl, h2⟩
/-- .. of one cell. -/
theorem Opn.arg1 {α : Type} {t : TypeId} {d : Kn α} {wf : α → Prop} (h : Opn P t d wf) {H : Type} {enc : TypeId × Value → H} {W : World} {base : Nat} {held : Bool} {v : Value} {x : DataW H} {p : List MemPlace} {ts : List TypeId} {ds : List (DataW H)} {j : Nat}
    (hsz : (DataW.weightsEach P ts ds).all (· ≤ reachBytes) = true) (ht : ts[j]? = some t) (hd : ds[j]? = some x) (hx : DataW.Trod enc P W base (fun _ => true) held t v x p) (hv : v.cells = #[v]) {ρ : Ren} {A : AH} (hp : Pre W ρ A) :
    ∃ (a : α) (ρ' : Ren) (A' : AH) (u : Value), Up ρ A ρ' A' ∧ Pre W ρ' A' ∧ VR ρ' u v ∧ d.R (Low A'.n) A' a [u] ∧ wf a := by
  obtain ⟨a, ρ', A', acs, h1, h2, h3, h4, h5⟩ := h.arg hsz ht hd hx hp
  rw [hv] at h3
  obtain ⟨u, rfl, h6⟩ := h3.single
  exact ⟨a, ρ', A', u, h1, h2, h6, h4, h5⟩
/-- .. that is a struct. -/
theorem Opn.argS {α : Type} {t : TypeId} {d : Kn α} {wf : α → Prop} (h : Opn P t d wf) {H : Type} {enc : TypeId × Value → H} {W : World} {base : Nat} {held : Bool} {cs : Array Value} {x : DataW H} {p : List MemPlace} {ts : List TypeId} {ds : List (DataW H)} {j : Nat}
    (hsz : (DataW.weightsEach P ts ds).all (· ≤ reachBytes) = true) (ht : ts[j]? = some t) (hd : ds[j]? = some x) (hx : DataW.Trod enc P W base (fun _ => true) held t (.agg cs) x p) {ρ : Ren} {A : AH} (hp : Pre W ρ A) :
    ∃ (a : α) (ρ' : Ren) (A' : AH) (acs : List Value), Up ρ A ρ' A' ∧ Pre W ρ' A' ∧ VR ρ' (.agg acs.toArray) (.agg cs) ∧ d.R (Low A'.n) A' a acs ∧ wf a := by
  obtain ⟨a, ρ', A', acs, h1, h2, h3, h4, h5⟩ := h.arg hsz ht hd hx hp
  exact ⟨a, ρ', A', acs, h1, h2, CR.agg h3, h4, h5⟩
/-- What a contract says of a call in the abstract holds of the machine's. -/
theorem Spec.calls (hP : P.follows .mixedOrders = true) {W : World} {ρ : Ren} {A : AH} (p : Pre W ρ A) {f : FuncId} {args : List Value} {args' : Array Value} {v : Value} (hv : scal v = true) (ha : VRs ρ args.toArray args') (h : Spec P (Low A.n) A f args (fun u => u = v)) :
    Calls P f args' W (fun en w' => en = .returned v ∧ Below W.heap.size W w') := by
  obtain ⟨n, u, H1, h1, hx, hfin, rfl⟩ := h A p.wr.fin (fun id hid => ⟨hid, rfl⟩)
  refine ((evF_ok hP n).ok f _ A u H1 h1 W ρ W args' p.wr (fun id hid _ => p.free id hid) ha).mono fun en w' hq => ?_
  obtain ⟨ρ', c, rfl, hst, hvr⟩ := hq
  rw [scal_eq hv hvr]
  exact ⟨rfl, hst.wr.below⟩
theorem VRs.two {ρ : Ren} {a b c d : Value} (h : VR ρ a c) (k : VR ρ b d) : VRs ρ [a, b].toArray #[c, d] := CR.vrs (c := [c, d]) ((CR.one h).append (CR.one k))
theorem VRs.cons {ρ : Ren} {a c : Value} {l m : List Value} (h : VR ρ a c) (k : CR ρ l m) : CR ρ (a :: l) (c :: m) := (CR.one h).append k
theorem CR.nil {ρ : Ren} : CR ρ [] [] := ⟨rfl, fun i v h => by simp at h⟩
theorem VR.up {w : World} {ρ ρ' : Ren} {A A' : AH} (u : Up ρ A ρ' A') (p : Pre w ρ A) {v c : Value} (h : VR ρ v c) : VR ρ' v c := h.mono (u.le p)
end
end Go.Proofs.Ytaepgfafbnjccaa.Am
