/- Contracts and laws on abstract memory, merged. Each holds under its own conditions. -/
import Derived.Test.YtijmkfnmdhpakaaPTags00
/- How a function's abstract run is shown: code as a transformer of what is to hold behind it. For every program. No condition beyond each theorem's own. -/
set_option linter.unusedSimpArgs false
set_option linter.unusedVariables false
namespace Go.Proofs.Ytijmkfnmdhpakaa.Am
open Go Go.RowKit
section
variable {P : Program} {call call' : CallS}
theorem evOp_mono (hc : ∀ f a H v H', call f a H v H' → call' f a H v H') {dr : Bool} {op : Op} {e : Env} {H H' : AH} {v : Value} (h : evOp P call dr op e H v H') : evOp P call' dr op e H v H' := by
  unfold evOp at h ⊢
  split at h
  · unfold evCall at h ⊢
    split at h
    · obtain ⟨v0, h0, h1, h2⟩ := h; exact ⟨v0, h0, hc _ _ _ _ _ h1, h2⟩
    · exact h.elim
  · exact h
theorem evOps_mono (hc : ∀ f a H v H', call f a H v H' → call' f a H v H') {dr : Bool} {ops : Array Oper} : ∀ (os : List Oper) {e : Env} {H : AH} {e' : Env} {H' : AH}, evOps P call dr ops os e H e' H' → evOps P call' dr ops os e H e' H'
  | [], _, _, _, _, h => h
  | o :: os, e, H, e', H', h => by
    simp only [evOps] at h ⊢
    split at h
    · rename_i hw
      rw [if_pos hw]
      obtain ⟨v, H1, h1, h2, h3⟩ := h
      exact ⟨v, H1, evOp_mono hc h1, evOps_mono hc os h2, h3⟩
    · rename_i hw
      rw [if_neg hw]
      exact evOps_mono hc os h
theorem evL_mono {b b' : CodeR} (hb : ∀ e H x e' H', b e H x e' H' → b' e H x e' H') : ∀ (k m : Nat), k ≤ m → ∀ {e H x e' H'}, evL b k e H x e' H' → evL b' m e H x e' H'
  | 0, _, _, _, _, _, _, _, h => h.elim
  | k + 1, 0, hk, _, _, _, _, _, _ => by omega
  | k + 1, m + 1, hk, e, H, x, e', H', h => by
    obtain ⟨x1, e1, H1, h1, h2⟩ := h
    refine ⟨x1, e1, H1, hb _ _ _ _ _ h1, ?_⟩
    split at h2
    · rename_i hx; rw [if_pos hx]; exact evL_mono hb k m (by omega) h2
    · rename_i hx; rw [if_neg hx]; exact h2
theorem evC_mono (hc : ∀ f a H v H', call f a H v H' → call' f a H v H') {n m : Nat} (hn : n ≤ m) (c : Code) : ∀ {e H x e' H'}, evC P call n c e H x e' H' → evC P call' m c e H x e' H' := by
  induction c with
  | region id ops dr => intro e H x e' H' h; exact ⟨h.1, evOps_mono hc _ h.2⟩
  | seq a b iha ihb =>
    intro e H x e' H' h
    obtain ⟨x1, e1, H1, h1, h2⟩ := h
    refine ⟨x1, e1, H1, iha h1, ?_⟩
    split at h2
    · rename_i hx; rw [if_pos hx]; exact ihb h2
    · rename_i hx; rw [if_neg hx]; exact h2
  | cond c a b iha ihb =>
    intro e H x e' H' h
    obtain ⟨t, ht, h2⟩ := h
    refine ⟨t, ht, ?_⟩
    split at h2
    · rename_i hx; rw [if_pos hx]; exact iha h2
    · rename_i hx; rw [if_neg hx]; exact ihb h2
  | block id c ih => intro e H x e' H' h; obtain ⟨x1, h1, h2⟩ := h; exact ⟨x1, ih h1, h2⟩
  | loop c ih => intro e H x e' H' h; exact evL_mono (fun _ _ _ _ _ h => ih h) n m hn h
  | _ => intro e H x e' H' h; exact h
theorem evF_step : ∀ n f a H v H', evF P n f a H v H' → evF P (n + 1) f a H v H'
  | 0, _, _, _, _, _, h => h.elim
  | n + 1, f, a, H, v, H', h => by
    obtain ⟨fn, c, x, e', vs, h1, h2, h3, h4, h5, h6⟩ := h
    exact ⟨fn, c, x, e', vs, h1, h2, h3, h4, evC_mono (evF_step n) (Nat.le_succ n) c h5, h6⟩
theorem evF_mono {n m : Nat} (h : n ≤ m) : ∀ f a H v H', evF P n f a H v H' → evF P m f a H v H' := by
  obtain ⟨d, rfl⟩ := Nat.exists_eq_add_of_le h
  clear h
  induction d with
  | zero => exact fun _ _ _ _ _ h => h
  | succ d ih => exact fun f a H v H' h => evF_step _ _ _ _ _ _ (ih f a H v H' h)
end
/-- The function, called so, comes to an end of which Q holds. -/
def Run (P : Program) (f : FuncId) (args : Array Value) (H : AH) (Q : Value → AH → Prop) : Prop := ∃ n v H', evF P n f args H v H' ∧ Q v H'
theorem Run.mono {P : Program} {f : FuncId} {args : Array Value} {H : AH} {Q Q' : Value → AH → Prop} (h : Run P f args H Q) (hq : ∀ v H', Q v H' → Q' v H') : Run P f args H Q' :=
  let ⟨n, v, H', h1, h2⟩ := h; ⟨n, v, H', h1, hq v H' h2⟩
abbrev PostC := AX → Env → AH → Prop
/-- Code comes to an end of which Q holds. -/
def Wc (P : Program) (c : Code) (Q : PostC) (e : Env) (H : AH) : Prop := ∃ n x e' H', evC P (evF P n) n c e H x e' H' ∧ Q x e' H'
def Wo (P : Program) (dr : Bool) (ops : Array Oper) (os : List Oper) (K : Env → AH → Prop) (e : Env) (H : AH) : Prop := ∃ n e' H', evOps P (evF P n) dr ops os e H e' H' ∧ K e' H'
section
variable {P : Program} {e : Env} {H : AH}
theorem Wc.mono {c : Code} {Q Q' : PostC} (h : Wc P c Q e H) (hq : ∀ x e H, Q x e H → Q' x e H) : Wc P c Q' e H :=
  let ⟨n, x, e', H', h1, h2⟩ := h; ⟨n, x, e', H', h1, hq _ _ _ h2⟩
theorem up {n m : Nat} (h : n ≤ m) {c : Code} {x : AX} {e' : Env} {H' : AH} (k : evC P (evF P n) n c e H x e' H') : evC P (evF P m) m c e H x e' H' := evC_mono (evF_mono h) h c k
theorem Wc.seq {a b : Code} {Q : PostC} (h : Wc P a (fun x e H => match x with | .normal => Wc P b Q e H | x => Q x e H) e H) : Wc P (.seq a b) Q e H := by
  obtain ⟨n, x1, e1, H1, h1, h2⟩ := h
  by_cases hx : x1 = .normal
  · subst hx
    obtain ⟨m, x, e', H', h3, h4⟩ := h2
    exact ⟨max n m, x, e', H', ⟨.normal, e1, H1, up (Nat.le_max_left _ _) h1, by rw [if_pos rfl]; exact up (Nat.le_max_right _ _) h3⟩, h4⟩
  · refine ⟨n, x1, e1, H1, ⟨x1, e1, H1, h1, by rw [if_neg hx]; exact ⟨rfl, rfl, rfl⟩⟩, ?_⟩
    cases x1 <;> first | exact absurd rfl hx | exact h2
theorem Wc.cond {c : Operand} {a b : Code} {Q : PostC} {t : Bool} (ht : ev e c = .bool t) (h1 : t = true → Wc P a Q e H) (h2 : t = false → Wc P b Q e H) : Wc P (.cond c a b) Q e H := by
  cases t with
  | true => obtain ⟨n, x, e', H', h, hq⟩ := h1 rfl; exact ⟨n, x, e', H', ⟨true, ht, h⟩, hq⟩
  | false => obtain ⟨n, x, e', H', h, hq⟩ := h2 rfl; exact ⟨n, x, e', H', ⟨false, ht, h⟩, hq⟩
theorem Wc.block {id : Nat} {c : Code} {Q : PostC} (h : Wc P c (fun x e H => Q (if x = .exit id then .normal else x) e H) e H) : Wc P (.block id c) Q e H := by
  obtain ⟨n, x, e', H', h1, h2⟩ := h
  exact ⟨n, _, e', H', ⟨x, h1, rfl⟩, h2⟩
theorem Wc.skip {Q : PostC} (h : Q .normal e H) : Wc P .skip Q e H := ⟨0, _, _, _, ⟨rfl, rfl, rfl⟩, h⟩
theorem Wc.label {l : Nat} {Q : PostC} (h : Q .normal e H) : Wc P (.label l) Q e H := ⟨0, _, _, _, ⟨rfl, rfl, rfl⟩, h⟩
theorem Wc.exit {id : Nat} {Q : PostC} (h : Q (.exit id) e H) : Wc P (.exit id) Q e H := ⟨0, _, _, _, ⟨rfl, rfl, rfl⟩, h⟩
theorem Wc.ret {Q : PostC} (h : Q .ret e H) : Wc P .ret Q e H := ⟨0, _, _, _, ⟨rfl, rfl, rfl⟩, h⟩
theorem Wc.region {id : Nat} {ops : Array Oper} {dr : Bool} {Q : PostC} (h : Wo P dr ops ops.toList (fun e H => Q .normal e H) e H) : Wc P (.region id ops dr) Q e H := by
  obtain ⟨n, e', H', h1, h2⟩ := h
  exact ⟨n, _, e', H', ⟨rfl, h1⟩, h2⟩
/-- One more round of a loop. -/
theorem Wc.loop {c : Code} {Q : PostC} (h : Wc P c (fun x e H => match x with | .normal => Wc P (.loop c) Q e H | x => Q x e H) e H) : Wc P (.loop c) Q e H := by
  obtain ⟨n, x1, e1, H1, h1, h2⟩ := h
  by_cases hx : x1 = .normal
  · subst hx
    obtain ⟨m, x, e', H', h3, h4⟩ := h2
    refine ⟨max n m + 1, x, e', H', ?_, h4⟩
    refine ⟨.normal, e1, H1, up (by omega) h1, ?_⟩
    rw [if_pos rfl]
    have h3' : evL (evC P (evF P m) m c) m e1 H1 x e' H' := h3
    exact evL_mono (fun _ _ _ _ _ h => evC_mono (evF_mono (by omega)) (by omega) c h) m (max n m) (by omega) h3'
  · refine ⟨n + 1, x1, e1, H1, ⟨x1, e1, H1, up (by omega) h1, by rw [if_neg hx]; exact ⟨rfl, rfl, rfl⟩⟩, ?_⟩
    cases x1 <;> first | exact absurd rfl hx | exact h2
/-- A loop by a measure. -/
theorem Wc.rounds {c : Code} {Q : PostC} (I : Nat → Env → AH → Prop) {k : Nat} (h0 : I k e H) (step : ∀ k e H, I k e H → Wc P c (fun x e H => match x with | .normal => ∃ j, j < k ∧ I j e H | x => Q x e H) e H) : Wc P (.loop c) Q e H := by
  induction k using Nat.strongRecOn generalizing e H with
  | _ k ih =>
    refine Wc.loop ((step k e H h0).mono fun x e H hx => ?_)
    cases x with
    | normal => obtain ⟨j, hj, hi⟩ := hx; exact ih j hj hi
    | exit id => exact hx
    | ret => exact hx
theorem Wo.nil {dr : Bool} {ops : Array Oper} {K : Env → AH → Prop} (h : K e H) : Wo P dr ops [] K e H := ⟨0, e, H, ⟨rfl, rfl⟩, h⟩
theorem Wo.pure {dr : Bool} {ops : Array Oper} {o : Oper} {os : List Oper} {K : Env → AH → Prop} {v : Value} (hw : want ops e o = true) (hc : opClass o.op = 0) (hp : pop P o.op e = some v) (h : Wo P dr ops os K (put e o.dst v) H) : Wo P dr ops (o :: os) K e H := by
  obtain ⟨n, e', H', h1, h2⟩ := h
  refine ⟨n, e', H', ?_, h2⟩
  simp only [evOps]
  rw [if_pos hw]
  refine ⟨v, H, ?_, h1, LOb.cls (by omega) (by omega)⟩
  unfold evOp
  split
  · rename_i hop; rw [hop] at hc; simp [opClass] at hc
  · rw [hc]; exact ⟨hp, rfl⟩
theorem Wo.heap {dr : Bool} {ops : Array Oper} {o : Oper} {os : List Oper} {K : Env → AH → Prop} {v : Value} {H1 : AH} {tag : Option Nat} (hw : want ops e o = true) (hc : opClass o.op = 1 ∨ opClass o.op = 2) (hp : hop P tag o.op e H = some (v, H1)) (hl : LOb dr ops (ops.size - os.length - 1) o e H H1) (h : Wo P dr ops os K (put e o.dst v) H1) : Wo P dr ops (o :: os) K e H := by
  obtain ⟨n, e', H', h1, h2⟩ := h
  refine ⟨n, e', H', ?_, h2⟩
  simp only [evOps]
  rw [if_pos hw]
  refine ⟨v, H1, ?_, h1, hl⟩
  unfold evOp
  split
  · rename_i hop; rw [hop] at hc; simp [opClass] at hc
  · split
    · rename_i h0; omega
    · exact ⟨tag, hp⟩
theorem Wo.off {dr : Bool} {ops : Array Oper} {o : Oper} {os : List Oper} {K : Env → AH → Prop} (hw : want ops e o = false) (h : Wo P dr ops os K (put e o.dst undef) H) : Wo P dr ops (o :: os) K e H := by
  obtain ⟨n, e', H', h1, h2⟩ := h
  refine ⟨n, e', H', ?_, h2⟩
  simp only [evOps]
  rw [if_neg (by simp [hw])]
  exact h1
theorem Wo.call {dr : Bool} {ops : Array Oper} {o : Oper} {os : List Oper} {K : Env → AH → Prop} {f : Operand} {xs : Array Operand} {ts : Array TypeId} {g : FuncId} {first cap : Array Value} (hw : want ops e o = true) (ho : o.op = .call { callee := .value f, args := xs, argTypes := ts })
    (hf : ev e f = .func (.func g) first cap) (h : Run P g (untags (first ++ aargs e xs ++ cap)) H (fun v H1 => (drOf ops dr os = true → Ext H H1) ∧ Wo P dr ops os K (put e o.dst (untag v)) H1)) : Wo P dr ops (o :: os) K e H := by
  obtain ⟨n, v, H1, h1, hx, m, e', H', h2, h3⟩ := h
  refine ⟨max n m, e', H', ?_, h3⟩
  simp only [evOps]
  rw [if_pos hw]
  refine ⟨untag v, H1, ?_, evOps_mono (evF_mono (Nat.le_max_right _ _)) _ h2, LOb.call (by rw [ho]; simp [opClass]) hx⟩
  rw [ho]
  simp only [evOp, evCall, hf]
  exact ⟨v, rfl, evF_mono (Nat.le_max_left _ _) _ _ _ _ _ h1, fun h => hx (drN_drOf h)⟩
/-- A function by its code. -/
theorem Run.of {f : FuncId} {fn : Func} {c : Code} {args : Array Value} {Q : Value → AH → Prop} (hf : P.funcs[f]? = some fn) (hb : fn.body = some c) (hok : fnOk fn = true) (hs : args.size ≤ fn.ntmps)
    (h : Wc P c (fun x e H => match x with | .exit _ => False | _ => match ares P e H fn.results.toList with | some vs => Q (aout vs) H | none => False) (env0 args) H) : Run P f args H Q := by
  obtain ⟨n, x, e', H', h1, h2⟩ := h
  have hx : x = .normal ∨ x = .ret := by cases x <;> simp at h2 ⊢
  have h2' : match ares P e' H' fn.results.toList with | some vs => Q (aout vs) H' | none => False := by cases x <;> first | exact h2 | exact h2.elim
  split at h2'
  · rename_i vs hvs
    exact ⟨n + 1, aout vs, H', ⟨fn, c, x, e', vs, hf, hb, hok, hs, h1, hx, hvs, rfl⟩, h2'⟩
  · exact h2'.elim
end
end Go.Proofs.Ytijmkfnmdhpakaa.Am
