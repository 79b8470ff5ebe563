/- What code does to abstract memory, as a relation; and that an operation of the machine does what carries it. For every program. No condition beyond each theorem's own. -/
import Derived.Test.YtaepgfafbnjccaaAm9
set_option linter.unusedSimpArgs false
set_option linter.unusedVariables false
namespace Go.Proofs.Ytaepgfafbnjccaa.Am
open Go Go.RowKit
abbrev CallS := FuncId → Array Value → AH → Value → AH → Prop
def Fin' (H : AH) : Prop := ∀ id, H.n ≤ id → H.m id = none
def Ext (H H' : AH) : Prop := H.n ≤ H'.n ∧ ∀ id, id < H.n → H'.m id = H.m id
/-- 0: asks nothing of memory; 1: reads or makes memory; 2: writes; 3: a call. -/
def opClass (op : Op) : Nat :=
  match op with
  | .load _ _ => 1
  | .box _ _ => 1
  | .alloc _ => 1
  | .buildSlice _ _ _ => 1
  | .makeSlice _ _ _ => 1
  | .store _ _ _ => 2
  | .call { callee := .builtin .append, .. } => 2
  | .call { callee := .builtin .copy, .. } => 2
  | .call { callee := .builtin .clear, .. } => 2
  | .call { callee := .value _, .. } => 3
  | _ => 0
/-- Tags tell a function its own variables: they don't go over into calls, nor out of them. -/
def untag1 : Value → Value
  | .pointer (some ⟨id, k, _⟩) => .pointer (some ⟨id, k, none⟩)
  | v => v
def untags (a : Array Value) : Array Value := (a.toList.map untag1).toArray
def untag : Value → Value
  | .tuple vs => .tuple (untags vs)
  | v => untag1 v
theorem VR.untag1 {ρ : Ren} {v c : Value} (h : VR ρ v c) : VR ρ (untag1 v) c := by
  cases h with
  | ptr id k sp l h => exact .ptr id k none l h
  | sc _ h =>
    have : Am.untag1 v = v := by
      unfold Am.untag1
      split
      · simp [scal] at h
      · rfl
    rw [this]; exact .sc v h
  | slc id k es n c c' l h hn hc hs => exact .slc id k es n c c' l h hn hc hs
  | sl0 id k a c' => exact .sl0 id k a c'
  | func fn a a' b b' ha hb h k => exact .func fn a a' b b' ha hb h k
  | agg a a' ha h => exact .agg a a' ha h
  | tup a a' ha h => exact .tup a a' ha h
  | iface t v v' h => exact .iface t v v' h
theorem VRs.untags {ρ : Ren} {a a' : Array Value} (h : VRs ρ a a') : VRs ρ (untags a) a' := by
  refine ⟨by simp [Am.untags, h.1], fun i hi => ?_⟩
  have hi' : i < a.size := by simpa [Am.untags] using hi
  have h1 : (Am.untags a).getD i undef = Am.untag1 (a.getD i undef) := by simp [Am.untags, hi']
  rw [h1]
  exact (h.2 i hi').untag1
theorem VR.untag {ρ : Ren} {v c : Value} (h : VR ρ v c) : VR ρ (untag v) c := by
  unfold Am.untag
  split
  · cases h with
    | sc _ h => simp [scal] at h
    | tup a a' ha h => exact .tup _ _ (VRs.untags ⟨ha, h⟩).1 (VRs.untags ⟨ha, h⟩).2
  · exact h.untag1
def evCall (call : CallS) (dr : Bool) (f : Value) (args : Array Value) (H : AH) (v : Value) (H' : AH) : Prop :=
  match f with
  | .func (.func g) first cap => ∃ v0, v = untag v0 ∧ call g (untags (first ++ args ++ cap)) H v0 H' ∧ (dr = true → Ext H H')
  | _ => False
/-- An operation takes abstract memory H to H', and yields v. -/
def evOp (P : Program) (call : CallS) (dr : Bool) (op : Op) (e : Env) (H : AH) (v : Value) (H' : AH) : Prop :=
  match op with
  | .call { callee := .value f, args := xs, argTypes := _ } => evCall call dr (ev e f) (aargs e xs) H v H'
  | op => match opClass op with
    | 0 => pop P op e = some v ∧ H' = H
    | _ => ∃ tag, hop P tag op e H = some (v, H')
def yld (ops : Array Oper) (e : Env) (j : Nat) : Option Bool :=
  match (ops[j]?).bind (·.dst) with
  | some d => match e d with
    | .bool b => some b
    | _ => none
  | none => none
def want (ops : Array Oper) (e : Env) (o : Oper) : Bool :=
  match o.guard with
  | none => true
  | some (j, b) => yld ops e j == some b
def put (e : Env) (d : Option Tmp) (v : Value) : Env :=
  match d with
  | some d => fun t => if t = d then v else e t
  | none => e
def oOk (nt : Nat) (o : Oper) : Bool := okAll nt o.op && (match o.dst with | some d => decide (d < nt) | none => true)
/-- What is known of the calls: they are sound. -/
structure CallOK (P : Program) (call : CallS) : Prop where
  enter : ∀ f args H v H', call f args H v H' → ∃ fn, P.funcs[f]? = some fn ∧ fn.body.isSome = true ∧ (fn.name == "runtime.NumGoroutine") = false
  nle : ∀ f args H v H', call f args H v H' → H.n ≤ H'.n
  fin : ∀ f args H v H', call f args H v H' → Fin' H → Fin' H'
  ok : ∀ f args H v H', call f args H v H' → ∀ w0 ρ w args', WR w0 ρ H w → Free ρ H.n H'.n → VRs ρ args args' →
    Calls P f args' w fun en w' => ∃ ρ' c, en = .returned c ∧ Step w0 ρ H w ρ' H' w' ∧ VR ρ' v c
section
variable {P : Program} {w0 w : World} {ρ : Ren} {H : AH} {call : CallS}
theorem hop_nle {op : Op} {e : Env} {v : Value} {H' : AH} {tag : Option Nat} (h : hop P tag op e H = some (v, H')) : H.n ≤ H'.n := by
  unfold hop at h
  split at h
  · repeat' (split at h)
    all_goals first | (cases h; done) | (cases h; exact Nat.le_refl _)
  · split at h
    · split at h
      · rename_i hs
        cases h
        unfold astore at hs
        repeat' (split at hs)
        all_goals first | (cases hs; done) | (cases hs; exact Nat.le_refl _)
      · cases h
    · cases h
  · cases h; simp [AH.push]
  · unfold aalloc at h
    repeat' (split at h)
    all_goals first | (cases h; done) | (cases h; simp [AH.push])
  · unfold alit at h
    repeat' (split at h)
    all_goals first | (cases h; done) | (cases h; simp [AH.push])
  · unfold amake at h
    repeat' (split at h)
    all_goals first | (cases h; done) | (cases h; simp [AH.push])
  · split at h
    · split at h
      · unfold aappend at h
        repeat' (split at h)
        all_goals first | (cases h; done) | (cases h; first | exact Nat.le_refl _ | (simp [AH.push, AH.kill]))
      · cases h
    · cases h
  · split at h
    · unfold acopy at h
      repeat' (split at h)
      all_goals first | (cases h; done) | (cases h; exact Nat.le_refl _)
    · cases h
  · split at h
    · unfold aclear at h
      repeat' (split at h)
      all_goals first | (cases h; done) | (cases h; exact Nat.le_refl _)
    · cases h
  · cases h
theorem fin_push (h : Fin' H) (b : Blk) : Fin' (H.push b) := fun id hid => by
  simp [AH.push] at hid ⊢
  rw [if_neg (by omega)]
  exact h id (by omega)
theorem fin_kill (h : Fin' H) (k : Nat) : Fin' (H.kill k) := fun id hid => by
  simp [AH.kill] at hid ⊢
  intro _
  exact h id hid
theorem fin_set (h : Fin' H) {k : Nat} {b0 : Blk} (hk : H.m k = some b0) (b : Blk) : Fin' (H.set k b) := fun id hid => by
  simp [AH.set] at hid ⊢
  rw [if_neg]
  · exact h id hid
  · intro e
    subst e
    rw [h id hid] at hk
    cases hk
theorem hop_fin {op : Op} {e : Env} {v : Value} {H' : AH} {tag : Option Nat} (h : hop P tag op e H = some (v, H')) (hf : Fin' H) : Fin' H' := by
  unfold hop at h
  split at h
  · repeat' (split at h)
    all_goals first | (cases h; done) | (cases h; exact hf)
  · split at h
    · split at h
      · rename_i hs
        cases h
        unfold astore at hs
        repeat' (split at hs)
        all_goals first | (cases hs; done) | (cases hs; exact fin_set hf (by assumption) _)
      · cases h
    · cases h
  · cases h; exact fin_push hf _
  · unfold aalloc at h
    repeat' (split at h)
    all_goals first | (cases h; done) | (cases h; exact fin_push hf _)
  · unfold alit at h
    repeat' (split at h)
    all_goals first | (cases h; done) | (cases h; exact fin_push hf _)
  · unfold amake at h
    repeat' (split at h)
    all_goals first | (cases h; done) | (cases h; exact fin_push hf _)
  · split at h
    · split at h
      · unfold aappend at h
        repeat' (split at h)
        all_goals first | (cases h; done) | (cases h; first | exact hf | exact fin_push hf _ | exact fin_push (fin_kill hf _) _)
      · cases h
    · cases h
  · split at h
    · unfold acopy at h
      repeat' (split at h)
      all_goals first | (cases h; done) | (cases h; exact fin_set hf (by assumption) _)
    · cases h
  · split at h
    · unfold aclear at h
      repeat' (split at h)
      all_goals first | (cases h; done) | (cases h; first | exact hf | exact fin_set hf (by assumption) _)
    · cases h
  · cases h
theorem push_ext (H : AH) (b : Blk) : Ext H (H.push b) := ⟨by simp [AH.push], fun id hid => by
  simp only [AH.push]
  rw [if_neg (by omega)]⟩
theorem hop_ext {op : Op} {e : Env} {v : Value} {H' : AH} {tag : Option Nat} (h : hop P tag op e H = some (v, H')) (hc : opClass op = 1) : Ext H H' := by
  unfold hop at h
  split at h
  · repeat' (split at h)
    all_goals first | (cases h; done) | (cases h; exact ⟨Nat.le_refl _, fun _ _ => rfl⟩)
  · simp [opClass] at hc
  · cases h; exact push_ext _ _
  · unfold aalloc at h
    repeat' (split at h)
    all_goals first | (cases h; done) | (cases h; exact push_ext _ _)
  · unfold alit at h
    repeat' (split at h)
    all_goals first | (cases h; done) | (cases h; exact push_ext _ _)
  · unfold amake at h
    repeat' (split at h)
    all_goals first | (cases h; done) | (cases h; exact push_ext _ _)
  · simp [opClass] at hc
  · simp [opClass] at hc
  · simp [opClass] at hc
  · cases h
theorem VRs.append {a a' b b' : Array Value} (h : VRs ρ a a') (k : VRs ρ b b') : VRs ρ (a ++ b) (a' ++ b') := by
  refine ⟨by simp [h.1, k.1], fun i hi => ?_⟩
  simp only [Array.getD_eq_getD_getElem?]
  by_cases hl : i < a.size
  · rw [Array.getElem?_append_left hl, Array.getElem?_append_left (by rw [← h.1]; exact hl)]
    have := h.2 i hl
    simpa [Array.getD_eq_getD_getElem?] using this
  · rw [Array.getElem?_append_right (by omega), Array.getElem?_append_right (by rw [← h.1]; omega)]
    simp at hi
    have := k.2 (i - a.size) (by omega)
    rw [← h.1]
    simpa [Array.getD_eq_getD_getElem?] using this
theorem evOp_nle (hcall : CallOK P call) {dr : Bool} {op : Op} {e : Env} {v : Value} {H' : AH} (h : evOp P call dr op e H v H') : H.n ≤ H'.n := by
  unfold evOp at h
  split at h
  · unfold evCall at h
    split at h
    · obtain ⟨_, _, h, _⟩ := h; exact hcall.nle _ _ _ _ _ h
    · exact h.elim
  · split at h
    · rw [h.2]; exact Nat.le_refl _
    · obtain ⟨_, h⟩ := h; exact hop_nle h
theorem evOp_fin (hcall : CallOK P call) {dr : Bool} {op : Op} {e : Env} {v : Value} {H' : AH} (h : evOp P call dr op e H v H') (hf : Fin' H) : Fin' H' := by
  unfold evOp at h
  split at h
  · unfold evCall at h
    split at h
    · obtain ⟨_, _, h, _⟩ := h; exact hcall.fin _ _ _ _ _ h hf
    · exact h.elim
  · split at h
    · rw [h.2]; exact hf
    · obtain ⟨_, h⟩ := h; exact hop_fin h hf
/-- An operation of the machine does what carries the abstract one. -/
theorem op_ok (hcall : CallOK P call) {e : Env} {a : Act} {nt : Nat} (hE : ER ρ e a nt) (h : WR w0 ρ H w) {dr : Bool} {o : Oper} (ho : okAll nt o.op = true) {v : Value} {H' : AH} (hv : evOp P call dr o.op e H v H') (hf : Free ρ H.n H'.n)
    {K : Act → World → Prop} {Q : Exit → Act → World → Prop} (hK : ∀ ρ' c w', Step w0 ρ H w ρ' H' w' → VR ρ' v c → K (a.put o.dst c) w') : o.wp P a w K Q := by
  unfold evOp at hv
  split at hv
  · rename_i f xs ts hop
    unfold evCall at hv
    split at hv
    · rename_i g first cap hfv
      obtain ⟨v0, rfl, hc, hx⟩ := hv
      rw [hop] at ho
      simp only [okAll, Op.operands, Call.operands, Array.all_append, Bool.and_eq_true] at ho
      have hfr := hE.ev (x := f) (by simpa using ho.1)
      rw [hfv] at hfr
      have hargs := aargs_ok hE ho.2
      cases hef : a.eval f with
      | func fn first' cap' =>
        rw [hef] at hfr
        cases hfr with
        | sc _ hs => simp [scal] at hs
        | func _ _ _ _ _ hs1 hs2 h1 h2 =>
          obtain ⟨fn, hfn, hbody, hname⟩ := hcall.enter _ _ _ _ _ hc
          have hvr : VRs ρ (first ++ aargs e xs ++ cap) (first' ++ xs.map a.eval ++ cap') := (VRs.append ⟨hs1, h1⟩ hargs).append ⟨hs2, h2⟩
          have hcalls := hcall.ok _ _ _ _ _ hc w0 ρ w _ h hf hvr.untags
          unfold Oper.wp
          have hbn : ¬ fn.body = none := by intro hb; simp [hb] at hbody
          have hname' : ¬ fn.name = "runtime.NumGoroutine" := by simpa using hname
          have hr : (execOp a.eval o).run P w = .ok (.enter g (first' ++ xs.map a.eval ++ cap')) w := by
            simp [execOp, hop, resolve, Deferred.ofValue, hef, invoke, callFunc, hfn, hname', hbn]
          rw [hr, Oper.upon_enter]
          exact hcalls.mono fun en w' ⟨ρ', c, he, hst, hvc⟩ => by subst he; exact hK ρ' c w' hst hvc.untag
      | _ => rw [hef] at hfr; cases hfr; try (rename_i hs; simp [scal] at hs)
    · exact hv.elim
  · split at hv
    · obtain ⟨hp, rfl⟩ := hv
      obtain ⟨c, hc, hrun⟩ := pop_ok (P := P) hE ho hp
      unfold Oper.wp
      rw [hrun w, Oper.upon_value]
      exact hK ρ c w (Step.refl h) hc
    · obtain ⟨tag, hv⟩ := hv
      obtain ⟨ρ', c, w', hst, hvr, hrun⟩ := hop_ok (P := P) hE h ho hv hf
      unfold Oper.wp
      rcases hrun with hrun | ⟨hcu, hrun⟩
      · rw [hrun, Oper.upon_value]
        exact hK ρ' c w' hst hvr
      · rw [hrun, Oper.upon_skip, ← hcu]
        exact hK ρ' c w' hst hvr
theorem ER.put {e : Env} {a : Act} {nt : Nat} {ρ' : Ren} (hE : ER ρ e a nt) (hl : Le ρ ρ') (d : Option Tmp) {v c : Value} (hv : VR ρ' v c) : ER ρ' (Am.put e d v) (a.put d c) nt := by
  cases d with
  | none => exact ⟨hE.size, fun t ht => (hE.at_ t ht).mono hl⟩
  | some d =>
    refine ⟨by simp [Act.put, hE.size], fun t ht => ?_⟩
    simp only [Am.put, Act.put]
    by_cases he : t = d
    · subst he
      have hs := hE.size
      rw [if_pos rfl]
      have : (a.tmps.setIfInBounds t c).getD t undef = c := by simp [hs, ht]
      rw [this]
      exact hv
    · rw [if_neg he]
      have := (hE.at_ t ht).mono hl
      simp only [Array.getD_eq_getD_getElem?] at this ⊢
      rw [Array.getElem?_setIfInBounds_ne (Ne.symm he)]
      exact this
theorem ER.mono {e : Env} {a : Act} {nt : Nat} {ρ' : Ren} (hE : ER ρ e a nt) (hl : Le ρ ρ') : ER ρ' e a nt := ⟨hE.size, fun t ht => (hE.at_ t ht).mono hl⟩
/-- The guards read alike. -/
theorem want_ok {ops : Array Oper} {e : Env} {a : Act} {nt : Nat} (hE : ER ρ e a nt) (hops : ops.all (oOk nt) = true) (o : Oper) : Region.wanted o (yielded ops a.tmps) = want ops e o := by
  unfold Region.wanted want
  cases hg : o.guard with
  | none => rfl
  | some jb =>
    obtain ⟨j, b⟩ := jb
    simp only
    congr 1
    unfold yielded yld
    cases hd : (ops[j]?).bind (·.dst) with
    | none => simp
    | some d =>
      have hdn : d < nt := by
        cases ho : ops[j]? with
        | none => rw [ho] at hd; cases hd
        | some oj =>
          rw [ho] at hd
          simp at hd
          have := Array.all_eq_true_iff_forall_mem.1 hops oj (Array.mem_of_getElem? ho)
          simp only [oOk, hd, Bool.and_eq_true, decide_eq_true_eq] at this
          exact this.2
      have hv := hE.at_ d hdn
      have hsz := hE.size
      have hda : d < a.tmps.size := by rw [hsz]; exact hdn
      have hget : a.tmps[d]? = some (a.tmps.getD d undef) := by simp [hda]
      simp only [Option.bind_some, hget]
      generalize a.tmps.getD d undef = c at hv
      cases hev : e d <;> rw [hev] at hv <;> cases hv <;> first | rfl | (rename_i hs; simp [scal] at hs)
end
end Go.Proofs.Ytaepgfafbnjccaa.Am
