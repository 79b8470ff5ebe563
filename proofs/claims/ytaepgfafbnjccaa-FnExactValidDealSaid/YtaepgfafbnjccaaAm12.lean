/- A region's order: which operation waits for which; what of it is checked; how it runs in the text's order. For every program. No condition beyond each theorem's own. -/
import Derived.Test.YtaepgfafbnjccaaAm11
set_option linter.unusedSimpArgs false
set_option linter.unusedVariables false
namespace Go.Proofs.Ytaepgfafbnjccaa.Am
open Go Go.RowKit
/-- Operation i waits for operation j. -/
inductive Reach (ops : Array Oper) (j : Nat) : Nat → Prop
  | one (i : Nat) (o : Oper) (ed : Edge) (ho : ops[i]? = some o) (he : ed ∈ o.after) (hb : Region.binds .any ed = true) (hj : ed.on = j) : Reach ops j i
  | more (i : Nat) (o : Oper) (ed : Edge) (ho : ops[i]? = some o) (he : ed ∈ o.after) (hb : Region.binds .any ed = true) (h : Reach ops j ed.on) : Reach ops j i
/-- The operations that an operation waits for, as a number's bits. -/
def dmask (acc : List Nat) : List Edge → Nat
  | [] => 0
  | ed :: l => if Region.binds .any ed = true then 2 ^ ed.on ||| (acc.getD ed.on 0 ||| dmask acc l) else dmask acc l
def depsGo : List Oper → List Nat → List Nat
  | [], acc => acc
  | o :: os, acc => depsGo os (acc ++ [dmask acc o.after.toList])
def deps (ops : List Oper) : List Nat := depsGo ops []
theorem dmask_ok {ops : Array Oper} {acc : List Nat} (hacc : ∀ i j, (acc.getD i 0).testBit j = true → Reach ops j i) {i : Nat} {o : Oper} (ho : ops[i]? = some o) :
    ∀ l : List Edge, (∀ e ∈ l, e ∈ o.after) → ∀ j, (dmask acc l).testBit j = true → Reach ops j i
  | [], _, j, h => by simp [dmask] at h
  | ed :: l, hl, j, h => by
    have ih := dmask_ok hacc ho l (fun e he => hl e (by simp [he])) j
    simp only [dmask] at h
    split at h
    · rename_i hb
      rw [Nat.testBit_or, Nat.testBit_or, Bool.or_eq_true, Bool.or_eq_true] at h
      rcases h with h | h | h
      · rw [Nat.testBit_two_pow] at h
        exact .one i o ed ho (hl ed (by simp)) hb (by simpa using h)
      · exact .more i o ed ho (hl ed (by simp)) hb (hacc _ _ h)
      · exact ih h
    · exact ih h
theorem depsGo_ok {ops : Array Oper} : ∀ (os : List Oper) (acc : List Nat), ops.toList.drop acc.length = os → (∀ i j, (acc.getD i 0).testBit j = true → Reach ops j i) → ∀ i j, ((depsGo os acc).getD i 0).testBit j = true → Reach ops j i
  | [], acc, _, hacc, i, j, h => hacc i j h
  | o :: os, acc, hd, hacc, i, j, h => by
    have ho : ops[acc.length]? = some o := by
      rw [← Array.getElem?_toList]
      have : (ops.toList.drop acc.length)[0]? = some o := by rw [hd]; rfl
      rw [List.getElem?_drop] at this
      simpa using this
    refine depsGo_ok os (acc ++ [dmask acc o.after.toList]) ?_ ?_ i j h
    · rw [List.length_append, List.length_singleton, ← List.drop_drop, hd]
      rfl
    · intro i j h
      rcases Nat.lt_trichotomy i acc.length with hi | hi | hi
      · rw [List.getD_eq_getElem?_getD, List.getElem?_append_left hi, ← List.getD_eq_getElem?_getD] at h
        exact hacc i j h
      · subst hi
        rw [List.getD_eq_getElem?_getD, List.getElem?_append_right (Nat.le_refl _)] at h
        simp at h
        exact dmask_ok hacc ho _ (fun e he => Array.mem_toList_iff.1 he) j h
      · rw [List.getD_eq_getElem?_getD, List.getElem?_eq_none (by simp; omega)] at h
        simp at h
theorem deps_ok {ops : Array Oper} {i j : Nat} (h : ((deps ops.toList).getD i 0).testBit j = true) : Reach ops j i :=
  depsGo_ok ops.toList [] rfl (fun i j h => by simp at h) i j h
/-- i and j wait for each other in the text's order. -/
def ordB (ds : List Nat) (i j : Nat) : Bool := if j < i then (ds.getD i 0).testBit j else (ds.getD j 0).testBit i
/-- What two operations of a region that draws its order have to meet. -/
def pairB (ops : Array Oper) (ds : List Nat) (i j : Nat) (x y : Oper) : Bool :=
  (match y.dst with
   | some t => (x.dst != some t) && (!((x.looksAt ops).contains t) || ordB ds i j)
   | none => true) && (!(opClass x.op == 2) || opClass y.op == 0 || ordB ds i j)
def edgesB (i : Nat) (x : Oper) : Bool := x.after.toList.all fun e => !Region.binds .any e || decide (e.on < i)
/-- A region that draws its order may be run in the text's order. -/
def rOk (ops : Array Oper) : Bool :=
  let ds := deps ops.toList
  let l := ops.toList.zipIdx
  l.all fun x => edgesB x.2 x.1 && l.all fun y => x.2 == y.2 || pairB ops ds x.2 y.2 x.1 y.1
section
variable {ops : Array Oper}
theorem rOk_pair (h : rOk ops = true) {i j : Nat} {x y : Oper} (hx : ops[i]? = some x) (hy : ops[j]? = some y) (hij : i ≠ j) : pairB ops (deps ops.toList) i j x y = true := by
  unfold rOk at h
  have hx' : (x, i) ∈ ops.toList.zipIdx := List.mk_mem_zipIdx_iff_getElem?.2 (by rw [Array.getElem?_toList]; exact hx)
  have hy' : (y, j) ∈ ops.toList.zipIdx := List.mk_mem_zipIdx_iff_getElem?.2 (by rw [Array.getElem?_toList]; exact hy)
  have h1 := List.all_eq_true.1 h _ hx'
  rw [Bool.and_eq_true] at h1
  have h2 := List.all_eq_true.1 h1.2 _ hy'
  simpa [hij] using h2
theorem rOk_edge (h : rOk ops = true) {i : Nat} {x : Oper} (hx : ops[i]? = some x) {e : Edge} (he : e ∈ x.after) (hb : Region.binds .any e = true) : e.on < i := by
  unfold rOk at h
  have hx' : (x, i) ∈ ops.toList.zipIdx := List.mk_mem_zipIdx_iff_getElem?.2 (by rw [Array.getElem?_toList]; exact hx)
  have h1 := List.all_eq_true.1 h _ hx'
  rw [Bool.and_eq_true] at h1
  have h2 := List.all_eq_true.1 h1.1 e (Array.mem_toList_iff.2 he)
  simpa [hb] using h2
theorem ordB_reach {i j : Nat} (hij : i ≠ j) (h : ordB (deps ops.toList) i j = true) : (j < i ∧ Reach ops j i) ∨ (i < j ∧ Reach ops i j) := by
  unfold ordB at h
  split at h
  · rename_i hlt; exact .inl ⟨hlt, deps_ok h⟩
  · rename_i hlt; exact .inr ⟨by omega, deps_ok h⟩
/-- What has been done is closed under waiting. -/
def Closed (ops : Array Oper) (D : Nat → Prop) : Prop := ∀ i o, D i → ops[i]? = some o → ∀ e ∈ o.after, Region.binds .any e = true → D e.on
theorem Closed.reach {D : Nat → Prop} (hD : Closed ops D) {i j : Nat} (h : Reach ops j i) : D i → D j := by
  induction h with
  | one i o ed ho he hb hj => intro hi; rw [← hj]; exact hD i o hi ho ed he hb
  | more i o ed ho he hb _ ih => intro hi; exact ih (hD i o hi ho ed he hb)
theorem Closed.reach_ready {D : Nat → Prop} (hD : Closed ops D) {i j : Nat} {o : Oper} (ho : ops[i]? = some o) (hr : ∀ e ∈ o.after, Region.binds .any e = true → D e.on) (h : Reach ops j i) : D j := by
  cases h with
  | one _ o' ed ho' he hb hj => rw [ho] at ho'; cases ho'; rw [← hj]; exact hr ed he hb
  | more _ o' ed ho' he hb h => rw [ho] at ho'; cases ho'; exact hD.reach h (hr ed he hb)
end
/-- A region in the text's order. -/
def evOps (P : Program) (call : CallS) (dr : Bool) (ops : Array Oper) : List Oper → Env → AH → Env → AH → Prop
  | [], e, H, e', H' => e' = e ∧ H' = H
  | o :: os, e, H, e', H' => if want ops e o = true then ∃ v H1, evOp P call dr o.op e H v H1 ∧ evOps P call dr ops os (put e o.dst v) H1 e' H' else evOps P call dr ops os (put e o.dst undef) H e' H'
section
variable {P : Program} {w0 : World} {call : CallS}
theorem evOps_nle (hcall : CallOK P call) {dr : Bool} {ops : Array Oper} : ∀ (os : List Oper) {e : Env} {H : AH} {e' : Env} {H' : AH}, evOps P call dr ops os e H e' H' → H.n ≤ H'.n
  | [], _, _, _, _, h => by rw [h.2]; exact Nat.le_refl _
  | o :: os, e, H, e', H', h => by
    simp only [evOps] at h
    split at h
    · obtain ⟨v, H1, h1, h2⟩ := h
      exact Nat.le_trans (evOp_nle hcall h1) (evOps_nle hcall os h2)
    · exact evOps_nle hcall os h
theorem Free.left {ρ : Ren} {a b c : Nat} (h : Free ρ a c) (hbc : b ≤ c) : Free ρ a b := fun id h1 h2 => h id h1 (by omega)
theorem Free.right {ρ ρ' : Ren} {H H1 : AH} {w w' : World} {c : Nat} (h : Free ρ H.n c) (s : Step w0 ρ H w ρ' H1 w') (hc : H1.n ≤ c) : Free ρ' H1.n c := fun id h1 h2 => by
  rw [s.ext id (.inr h1)]
  exact h id (by have := s.nle; omega) h2
/-- A region that does not draw its order. -/
theorem ops_ok (hcall : CallOK P call) {ops : Array Oper} {nt : Nat} (hops : ops.all (oOk nt) = true) {Q : Exit → Act → World → Prop} :
    ∀ (os : List Oper), (∀ o ∈ os, oOk nt o = true) → ∀ {e : Env} {H : AH} {e' : Env} {H' : AH} {dr : Bool}, evOps P call dr ops os e H e' H' → ∀ {ρ : Ren} {a : Act} {w : World}, WR w0 ρ H w → Free ρ H.n H'.n → ER ρ e a nt →
      (∀ ρ' a' w', Step w0 ρ H w ρ' H' w' → ER ρ' e' a' nt → a'.defers = a.defers → Q .normal a' w') → wpList P ops Q os a w
  | [], _, e, H, e', H', dr, hv, ρ, a, w, h, hf, hE, hK => by
    obtain ⟨rfl, rfl⟩ := hv
    exact hK ρ a w (Step.refl h) hE rfl
  | o :: os, hos, e, H, e', H', dr, hv, ρ, a, w, h, hf, hE, hK => by
    have ho := hos o (by simp)
    have ho1 : okAll nt o.op = true := by unfold oOk at ho; rw [Bool.and_eq_true] at ho; exact ho.1
    have hdef : ∀ c, (a.put o.dst c).defers = a.defers := fun c => by unfold Act.put; split <;> rfl
    simp only [wpList]
    rw [want_ok hE hops o]
    simp only [evOps] at hv
    split at hv
    · rename_i hw
      rw [if_pos hw]
      obtain ⟨v, H1, h1, h2⟩ := hv
      have n1 := evOp_nle hcall h1
      have n2 := evOps_nle hcall os h2
      refine .inl (op_ok hcall hE h ho1 h1 (hf.left n2) (fun ρ' c w' hst hvc => ?_))
      have hle := hst.le (hf.left n2)
      refine ops_ok hcall hops os (fun o ho => hos o (by simp [ho])) h2 hst.wr (hf.right hst n2) (hE.put hle o.dst hvc) (fun ρ2 a2 w2 hst2 hE2 hd2 => ?_)
      exact hK ρ2 a2 w2 (hst.trans hst2) hE2 (hd2.trans (hdef c))
    · rename_i hw
      rw [if_neg hw]
      exact ops_ok hcall hops os (fun o ho => hos o (by simp [ho])) hv h hf (hE.put (fun _ _ h => h) o.dst (.undef ρ)) (fun ρ2 a2 w2 hst2 hE2 hd2 => hK ρ2 a2 w2 hst2 hE2 (hd2.trans (hdef _)))
end
end Go.Proofs.Ytaepgfafbnjccaa.Am
