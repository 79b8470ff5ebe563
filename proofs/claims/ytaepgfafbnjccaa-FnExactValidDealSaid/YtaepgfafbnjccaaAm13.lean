/- A region that draws its order does, in whatever order, what it does in the text's order. For every program. No condition beyond each theorem's own. -/
import Derived.Test.YtaepgfafbnjccaaAm12
set_option linter.unusedSimpArgs false
set_option linter.unusedVariables false
namespace Go.Proofs.Ytaepgfafbnjccaa.Am
open Go Go.RowKit
/-- One operation in the text's order. -/
def OneStep (P : Program) (call : CallS) (ops : Array Oper) (o : Oper) (e : Env) (H : AH) (v : Value) (e1 : Env) (H1 : AH) : Prop :=
  (if want ops e o = true then evOp P call true o.op e H v H1 else v = undef ∧ H1 = H) ∧ e1 = put e o.dst v
section
variable {P : Program} {w0 : World} {call : CallS} {ops : Array Oper}
def Chained (P : Program) (call : CallS) (ops : Array Oper) (os : List Oper) (e : Env) (H : AH) (e' : Env) (H' : AH) : Prop :=
  ∃ (E : Nat → Env) (Hs : Nat → AH) (V : Nat → Value), E 0 = e ∧ Hs 0 = H ∧ E os.length = e' ∧ Hs os.length = H' ∧
    ∀ i o, os[i]? = some o → OneStep P call ops o (E i) (Hs i) (V i) (E (i + 1)) (Hs (i + 1))
theorem Chained.cons {o : Oper} {os : List Oper} {e : Env} {H : AH} {e' : Env} {H' : AH} (v : Value) (H1 : AH) (h1 : if want ops e o = true then evOp P call true o.op e H v H1 else v = undef ∧ H1 = H) (h2 : Chained P call ops os (put e o.dst v) H1 e' H') : Chained P call ops (o :: os) e H e' H' := by
  obtain ⟨E, Hs, V, hE, hH, hE', hH', hst⟩ := h2
  refine ⟨fun i => match i with | 0 => e | i + 1 => E i, fun i => match i with | 0 => H | i + 1 => Hs i, fun i => match i with | 0 => v | i + 1 => V i, rfl, rfl, hE', hH', ?_⟩
  intro i o' hi
  cases i with
  | zero =>
    simp at hi
    subst hi
    exact ⟨by show (if want ops e o = true then evOp P call true o.op e H v (Hs 0) else v = undef ∧ Hs 0 = H); rw [hH]; exact h1, hE⟩
  | succ i => exact hst i o' (by simpa using hi)
theorem chain_of : ∀ (os : List Oper) {e : Env} {H : AH} {e' : Env} {H' : AH}, evOps P call true ops os e H e' H' → Chained P call ops os e H e' H'
  | [], e, H, e', H', h => ⟨fun _ => e, fun _ => H, fun _ => undef, rfl, rfl, h.1.symm, h.2.symm, fun i o h => by simp at h⟩
  | o :: os, e, H, e', H', h => by
    simp only [evOps] at h
    split at h
    · rename_i hw
      obtain ⟨v, H1, h1, h2⟩ := h
      exact Chained.cons v H1 (by rw [if_pos hw]; exact h1) (chain_of os h2)
    · rename_i hw
      exact Chained.cons undef H (by rw [if_neg hw]; exact ⟨rfl, rfl⟩) (chain_of os h)
/-- A region's run in the text's order, and what it stands on. -/
structure Chain (P : Program) (call : CallS) (ops : Array Oper) (E : Nat → Env) (Hs : Nat → AH) (V : Nat → Value) : Prop where
  calls : CallOK P call
  ok : rOk ops = true
  step : ∀ i o, ops[i]? = some o → OneStep P call ops o (E i) (Hs i) (V i) (E (i + 1)) (Hs (i + 1))
  fin : ∀ i, i ≤ ops.size → ∀ id, (Hs i).n ≤ id → (Hs i).m id = none
variable {E : Nat → Env} {Hs : Nat → AH} {V : Nat → Value}
theorem Chain.get (i : Nat) (hi : i < ops.size) : ∃ o, ops[i]? = some o := ⟨ops[i], Array.getElem?_eq_getElem hi⟩
theorem Chain.lt {i : Nat} {o : Oper} (h : ops[i]? = some o) : i < ops.size := (Array.getElem?_eq_some_iff.1 h).1
/-- What is no writer leaves what was there. -/
theorem Chain.ext1 (c : Chain P call ops E Hs V) {i : Nat} {o : Oper} (ho : ops[i]? = some o) (hw : opClass o.op ≠ 2) : Ext (Hs i) (Hs (i + 1)) := by
  have h := (c.step i o ho).1
  split at h
  · unfold evOp at h
    split at h
    · unfold evCall at h
      split at h
      · obtain ⟨_, _, _, h⟩ := h; exact h rfl
      · exact h.elim
    · split at h
      · rw [h.2]; exact Ext.refl _
      · rename_i hne _ hc
        have : opClass o.op = 1 ∨ opClass o.op = 3 := by
          have hle : opClass o.op ≤ 3 := by unfold opClass; split <;> omega
          have h0 : opClass o.op ≠ 0 := fun h => hc h
          omega
        rcases this with h1 | h3
        · obtain ⟨_, h⟩ := h; exact hop_ext h h1
        · exfalso
          unfold opClass at h3
          split at h3 <;> first | (simp at h3; done) | skip
          rename_i f _ _ heq
          exact hne _ _ _ heq
  · rw [h.2]; exact Ext.refl _
theorem Chain.nle1 (c : Chain P call ops E Hs V) {i : Nat} (hi : i < ops.size) : (Hs i).n ≤ (Hs (i + 1)).n := by
  obtain ⟨o, ho⟩ := Chain.get i hi
  have h := (c.step i o ho).1
  split at h
  · exact evOp_nle c.calls h
  · rw [h.2]; exact Nat.le_refl _
theorem Chain.nle (c : Chain P call ops E Hs V) {i k : Nat} (hik : i ≤ k) (hk : k ≤ ops.size) : (Hs i).n ≤ (Hs k).n := by
  obtain ⟨d, rfl⟩ := Nat.exists_eq_add_of_le hik
  clear hik
  induction d with
  | zero => exact Nat.le_refl _
  | succ d ih => exact Nat.le_trans (ih (by omega)) (c.nle1 (i := i + d) (by omega))
theorem Chain.ext (c : Chain P call ops E Hs V) {i k : Nat} (hik : i ≤ k) (hk : k ≤ ops.size) (hw : ∀ j o, i ≤ j → j < k → ops[j]? = some o → opClass o.op ≠ 2) : Ext (Hs i) (Hs k) := by
  obtain ⟨d, rfl⟩ := Nat.exists_eq_add_of_le hik
  clear hik
  induction d with
  | zero => exact Ext.refl _
  | succ d ih =>
    obtain ⟨o, ho⟩ := Chain.get (ops := ops) (i + d) (by omega)
    exact (ih (by omega) (fun j o h1 h2 => hw j o h1 (by omega))).trans (c.ext1 ho (hw _ _ (by omega) (by omega) ho))
/-- A name of the run was given by one operation. -/
theorem Chain.find (c : Chain P call ops E Hs V) {i k id : Nat} (hik : i ≤ k) (hk : k ≤ ops.size) (h1 : (Hs i).n ≤ id) (h2 : id < (Hs k).n) : ∃ j, i ≤ j ∧ j < k ∧ (Hs j).n ≤ id ∧ id < (Hs (j + 1)).n := by
  obtain ⟨d, rfl⟩ := Nat.exists_eq_add_of_le hik
  clear hik
  induction d with
  | zero => exact absurd h2 (by rw [Nat.add_zero]; omega)
  | succ d ih =>
    by_cases h : id < (Hs (i + d)).n
    · obtain ⟨j, a, b, p, q⟩ := ih (by omega) h
      exact ⟨j, a, by omega, p, q⟩
    · exact ⟨i + d, by omega, by omega, by omega, h2⟩
/-- A slot in the run: what the one operation ahead that yields it has yielded, or what it was. -/
theorem Chain.slot (c : Chain P call ops E Hs V) {t : Nat} : ∀ k, k ≤ ops.size → (∀ j o, j < k → ops[j]? = some o → o.dst = some t → E k t = V j) ∧ ((∀ j o, j < k → ops[j]? = some o → o.dst ≠ some t) → E k t = E 0 t)
  | 0, _ => ⟨fun j o hj => by omega, fun _ => rfl⟩
  | k + 1, hk => by
    obtain ⟨ih1, ih2⟩ := Chain.slot c k (by omega)
    obtain ⟨ok, hok⟩ := Chain.get (ops := ops) k (by omega)
    have he := (c.step k ok hok).2
    refine ⟨fun j o hj ho hd => ?_, fun hno => ?_⟩
    · rw [he]
      by_cases hjk : j = k
      · subst hjk
        rw [hok] at ho
        cases ho
        simp [put, hd]
      · have hp := rOk_pair c.ok hok ho (fun e => hjk e.symm)
        unfold pairB at hp
        rw [hd] at hp
        simp only [Bool.and_eq_true, bne_iff_ne, ne_eq] at hp
        have hne := hp.1.1
        rw [show put (E k) ok.dst (V k) t = E k t from by
          unfold put
          cases hdk : ok.dst with
          | none => rfl
          | some d =>
            simp only
            rw [if_neg]
            intro e
            subst e
            exact hne hdk]
        exact ih1 j o (by omega) ho hd
    · rw [he]
      rw [show put (E k) ok.dst (V k) t = E k t from by
        unfold put
        cases hdk : ok.dst with
        | none => rfl
        | some d =>
          simp only
          rw [if_neg]
          intro e
          subst e
          exact hno k ok (by omega) hok hdk]
      exact ih2 (fun j o hj => hno j o (by omega))
end
end Go.Proofs.Ytaepgfafbnjccaa.Am
