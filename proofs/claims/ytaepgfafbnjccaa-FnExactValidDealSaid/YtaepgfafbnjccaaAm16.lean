/- Code and functions on abstract memory; the machine does what carries them. For every program. No condition beyond each theorem's own. -/
import Derived.Test.YtaepgfafbnjccaaAm15
set_option linter.unusedSimpArgs false
set_option linter.unusedVariables false
namespace Go.Proofs.Ytaepgfafbnjccaa.Am
open Go Go.RowKit
/-- How code is left. -/
inductive AX where
  | normal
  | exit (id : Nat)
  | ret
  deriving DecidableEq
def AX.ex : AX → Exit
  | .normal => .normal
  | .exit id => .exit id
  | .ret => .ret
abbrev CodeR := Env → AH → AX → Env → AH → Prop
/-- A loop, in at most so many rounds. -/
def evL (body : CodeR) : Nat → CodeR
  | 0, _, _, _, _, _ => False
  | k + 1, e, H, x, e', H' => ∃ x1 e1 H1, body e H x1 e1 H1 ∧ if x1 = .normal then evL body k e1 H1 x e' H' else x = x1 ∧ e' = e1 ∧ H' = H1
def evC (P : Program) (call : CallS) (n : Nat) : Code → CodeR
  | .skip, e, H, x, e', H' => x = .normal ∧ e' = e ∧ H' = H
  | .label _, e, H, x, e', H' => x = .normal ∧ e' = e ∧ H' = H
  | .region _ ops dr, e, H, x, e', H' => x = .normal ∧ evOps P call dr ops ops.toList e H e' H'
  | .seq a b, e, H, x, e', H' => ∃ x1 e1 H1, evC P call n a e H x1 e1 H1 ∧ if x1 = .normal then evC P call n b e1 H1 x e' H' else x = x1 ∧ e' = e1 ∧ H' = H1
  | .cond c a b, e, H, x, e', H' => ∃ t, ev e c = .bool t ∧ if t = true then evC P call n a e H x e' H' else evC P call n b e H x e' H'
  | .block id c, e, H, x, e', H' => ∃ x1, evC P call n c e H x1 e' H' ∧ x = if x1 = .exit id then .normal else x1
  | .loop c, e, H, x, e', H' => evL (evC P call n c) n e H x e' H'
  | .exit id, e, H, x, e', H' => x = .exit id ∧ e' = e ∧ H' = H
  | .ret, e, H, x, e', H' => x = .ret ∧ e' = e ∧ H' = H
  | _, _, _, _, _, _ => False
/-- What is checked of code once. -/
def codeOk (nt : Nat) : Code → Bool
  | .region _ ops dr => ops.all (oOk nt) && (!dr || rOk ops)
  | .seq a b => codeOk nt a && codeOk nt b
  | .cond c a b => opOk nt c && codeOk nt a && codeOk nt b
  | .block _ c => codeOk nt c
  | .loop c => codeOk nt c
  | _ => true
def resOk (nt : Nat) : ResultVar → Bool
  | .tmp t => decide (t < nt)
  | .cell a _ => decide (a < nt)
def fnOk (fn : Func) : Bool :=
  !(fn.name == "runtime.NumGoroutine") && (match fn.body with | some c => codeOk fn.ntmps c | none => false) && fn.results.toList.all (resOk fn.ntmps)
def ares (P : Program) (e : Env) (H : AH) : List ResultVar → Option (List Value)
  | [] => some []
  | .tmp t :: l => match ares P e H l with
    | some vs => some (e t :: vs)
    | none => none
  | .cell a t :: l => match e a with
    | .pointer (some ⟨id, k, sp⟩) => match aload P H t id k with
      | some v => match ares P e H l with
        | some vs => some (v :: vs)
        | none => none
      | none => none
    | _ => none
def aout : List Value → Value
  | [v] => v
  | vs => .tuple vs.toArray
def env0 (args : Array Value) : Env := fun t => args.getD t undef
/-- A function of the program, its calls nested at most n deep. -/
def evF (P : Program) : Nat → CallS
  | 0, _, _, _, _, _ => False
  | n + 1, f, args, H, v, H' => ∃ fn c x e' vs, P.funcs[f]? = some fn ∧ fn.body = some c ∧ fnOk fn = true ∧ args.size ≤ fn.ntmps ∧ evC P (evF P n) n c (env0 args) H x e' H' ∧ (x = .normal ∨ x = .ret) ∧ ares P e' H' fn.results.toList = some vs ∧ v = aout vs
section
variable {P : Program} {w0 : World} {call : CallS} {nt : Nat}
theorem evOps_fin (hcall : CallOK P call) {dr : Bool} {ops : Array Oper} : ∀ (os : List Oper) {e : Env} {H : AH} {e' : Env} {H' : AH}, evOps P call dr ops os e H e' H' → Fin' H → Fin' H'
  | [], _, _, _, _, h, hf => by rw [h.2]; exact hf
  | o :: os, e, H, e', H', h, hf => by
    simp only [evOps] at h
    split at h
    · obtain ⟨v, H1, h1, h2⟩ := h
      exact evOps_fin hcall os h2 (evOp_fin hcall h1 hf)
    · exact evOps_fin hcall os h hf
theorem evL_nle {body : CodeR} (hb : ∀ e H x e' H', body e H x e' H' → H.n ≤ H'.n) : ∀ k {e H x e' H'}, evL body k e H x e' H' → H.n ≤ H'.n
  | 0, _, _, _, _, _, h => h.elim
  | k + 1, e, H, x, e', H', h => by
    obtain ⟨x1, e1, H1, h1, h2⟩ := h
    have n1 := hb _ _ _ _ _ h1
    split at h2
    · exact Nat.le_trans n1 (evL_nle hb k h2)
    · rw [h2.2.2]; exact n1
theorem evL_fin {body : CodeR} (hb : ∀ e H x e' H', body e H x e' H' → Fin' H → Fin' H') : ∀ k {e H x e' H'}, evL body k e H x e' H' → Fin' H → Fin' H'
  | 0, _, _, _, _, _, h, _ => h.elim
  | k + 1, e, H, x, e', H', h, hf => by
    obtain ⟨x1, e1, H1, h1, h2⟩ := h
    have n1 := hb _ _ _ _ _ h1 hf
    split at h2
    · exact evL_fin hb k h2 n1
    · rw [h2.2.2]; exact n1
theorem evC_nle (hcall : CallOK P call) {n : Nat} (c : Code) : ∀ {e H x e' H'}, evC P call n c e H x e' H' → H.n ≤ H'.n := by
  induction c with
  | skip => intro e H x e' H' h; rw [h.2.2]; exact Nat.le_refl _
  | label l => intro e H x e' H' h; rw [h.2.2]; exact Nat.le_refl _
  | region id ops dr => intro e H x e' H' h; exact evOps_nle hcall _ h.2
  | seq a b iha ihb =>
    intro e H x e' H' h
    obtain ⟨x1, e1, H1, h1, h2⟩ := h
    split at h2
    · exact Nat.le_trans (iha h1) (ihb h2)
    · rw [h2.2.2]; exact iha h1
  | cond c a b iha ihb =>
    intro e H x e' H' h
    obtain ⟨t, _, h2⟩ := h
    split at h2
    · exact iha h2
    · exact ihb h2
  | block id c ih => intro e H x e' H' h; obtain ⟨x1, h1, _⟩ := h; exact ih h1
  | loop c ih => intro e H x e' H' h; exact evL_nle (fun _ _ _ _ _ h => ih h) n h
  | exit id => intro e H x e' H' h; rw [h.2.2]; exact Nat.le_refl _
  | ret => intro e H x e' H' h; rw [h.2.2]; exact Nat.le_refl _
  | _ => intro e H x e' H' h; exact h.elim
theorem evC_fin (hcall : CallOK P call) {n : Nat} (c : Code) : ∀ {e H x e' H'}, evC P call n c e H x e' H' → Fin' H → Fin' H' := by
  induction c with
  | skip => intro e H x e' H' h hf; rw [h.2.2]; exact hf
  | label l => intro e H x e' H' h hf; rw [h.2.2]; exact hf
  | region id ops dr => intro e H x e' H' h hf; exact evOps_fin hcall _ h.2 hf
  | seq a b iha ihb =>
    intro e H x e' H' h hf
    obtain ⟨x1, e1, H1, h1, h2⟩ := h
    split at h2
    · exact ihb h2 (iha h1 hf)
    · rw [h2.2.2]; exact iha h1 hf
  | cond c a b iha ihb =>
    intro e H x e' H' h hf
    obtain ⟨t, _, h2⟩ := h
    split at h2
    · exact iha h2 hf
    · exact ihb h2 hf
  | block id c ih => intro e H x e' H' h hf; obtain ⟨x1, h1, _⟩ := h; exact ih h1 hf
  | loop c ih => intro e H x e' H' h hf; exact evL_fin (fun _ _ _ _ _ h hf => ih h hf) n h hf
  | exit id => intro e H x e' H' h hf; rw [h.2.2]; exact hf
  | ret => intro e H x e' H' h hf; rw [h.2.2]; exact hf
  | _ => intro e H x e' H' h; exact h.elim
def CodeOK (P : Program) (w0 : World) (nt : Nat) (c : Code) (R : CodeR) : Prop :=
  ∀ {e H x e' H'}, R e H x e' H' → ∀ {ρ : Ren} {a : Act} {w : World}, WR w0 ρ H w → Free ρ H.n H'.n → ER ρ e a nt → ∀ {Q : Exit → Act → World → Prop},
    (∀ ρ' a' w', Step w0 ρ H w ρ' H' w' → ER ρ' e' a' nt → a'.defers = a.defers → Q x.ex a' w') → c.wp P Q a w
theorem loop_ok {c : Code} {R : CodeR} (hn : ∀ e H x e' H', R e H x e' H' → H.n ≤ H'.n) (hR : CodeOK P w0 nt c R) : ∀ k {e H x e' H'}, evL R k e H x e' H' → ∀ (ρ : Ren) (a : Act) (w : World), WR w0 ρ H w → Free ρ H.n H'.n → ER ρ e a nt → ∀ (Q : Exit → Act → World → Prop),
    (∀ ρ' a' w', Step w0 ρ H w ρ' H' w' → ER ρ' e' a' nt → a'.defers = a.defers → Q x.ex a' w') → ∀ (b : Frame) (kk : List Item) (cs : List Frame),
      ∃ ex a' w', Q ex a' w' ∧ Arrives P (lone (b.at a (.code c :: .inLoop c :: kk)) cs w) b kk cs ex a' w'
  | 0, _, _, _, _, _, h => h.elim
  | k + 1, e, H, x, e', H', h => by
    intro ρ a w hw hf hE Q hK b kk cs
    obtain ⟨x1, e1, H1, h1, h2⟩ := h
    have n1 := hn _ _ _ _ _ h1
    have n2 : H1.n ≤ H'.n := by
      split at h2
      · exact evL_nle hn k h2
      · rw [h2.2.2]; exact Nat.le_refl _
    obtain ⟨ex, a1, w1, ⟨ρ1, hex, hst1, hE1, hd1⟩, harr⟩ := hR h1 hw (hf.left n2) hE (Q := fun ex a1 w1 => ∃ ρ1, ex = x1.ex ∧ Step w0 ρ H w ρ1 H1 w1 ∧ ER ρ1 e1 a1 nt ∧ a1.defers = a.defers) (fun ρ' a' w' s he hd => ⟨ρ', rfl, s, he, hd⟩) b (.inLoop c :: kk) cs
    subst hex
    by_cases hx1 : x1 = .normal
    · rw [if_pos hx1] at h2
      subst hx1
      obtain ⟨ex, a', w', hq, harr2⟩ := loop_ok hn hR k h2 _ _ _ hst1.wr (hf.right hst1 n2) hE1 Q (fun ρ' a' w' s he hd => hK ρ' a' w' (hst1.trans s) he (hd.trans hd1)) b kk cs
      exact ⟨ex, a', w', hq, .of_steps (Steps.trans harr (.one step_inLoop)) harr2⟩
    · rw [if_neg hx1] at h2
      obtain ⟨rfl, rfl, rfl⟩ := h2
      refine ⟨x.ex, a1, w1, hK ρ1 a1 w1 hst1 hE1 hd1, .pass (x := .inLoop c) rfl (fun _ _ => .inl ?_) harr⟩
      cases x <;> simp [AX.ex] at hx1 ⊢
theorem code_ok (hcall : CallOK P call) (hm : P.follows .mixedOrders = true) {n : Nat} (c : Code) : codeOk nt c = true → CodeOK P w0 nt c (evC P call n c) := by
  induction c with
  | skip =>
    intro _ e H x e' H' h ρ a w hw hf hE Q hK
    obtain ⟨rfl, rfl, rfl⟩ := h
    exact wp_skip (hK ρ a w (Step.refl hw) hE rfl)
  | label l =>
    intro _ e H x e' H' h ρ a w hw hf hE Q hK
    obtain ⟨rfl, rfl, rfl⟩ := h
    exact wp_label (hK ρ a w (Step.refl hw) hE rfl)
  | region id ops dr =>
    intro hc e H x e' H' h ρ a w hw hf hE Q hK
    obtain ⟨rfl, hv⟩ := h
    simp only [codeOk, Bool.and_eq_true, Bool.or_eq_true, Bool.not_eq_true'] at hc
    cases dr with
    | false => exact wp_region_list (ops_ok hcall hc.1 _ (fun o ho => Array.all_eq_true_iff_forall_mem.1 hc.1 o (Array.mem_toList_iff.1 ho)) hv hw hf hE hK)
    | true =>
      have hr : rOk ops = true := by
        rcases hc.2 with h | h
        · cases h
        · exact h
      exact draw_ok hcall hm hr hc.1 hv hw hf hE hK
  | seq c1 c2 ih1 ih2 =>
    intro hc e H x e' H' h ρ a w hw hf hE Q hK
    simp only [codeOk, Bool.and_eq_true] at hc
    obtain ⟨x1, e1, H1, h1, h2⟩ := h
    have n2 : H1.n ≤ H'.n := by
      split at h2
      · exact evC_nle hcall _ h2
      · rw [h2.2.2]; exact Nat.le_refl _
    refine wp_seq (ih1 hc.1 h1 hw (hf.left n2) hE (fun ρ1 a1 w1 s1 hE1 hd1 => ?_))
    by_cases hx1 : x1 = .normal
    · rw [if_pos hx1] at h2
      subst hx1
      exact ih2 hc.2 h2 s1.wr (hf.right s1 n2) hE1 (fun ρ2 a2 w2 s2 hE2 hd2 => hK ρ2 a2 w2 (s1.trans s2) hE2 (hd2.trans hd1))
    · rw [if_neg hx1] at h2
      obtain ⟨rfl, rfl, rfl⟩ := h2
      have := hK ρ1 a1 w1 s1 hE1 hd1
      cases x <;> first | exact absurd rfl hx1 | exact this
  | cond cnd c1 c2 ih1 ih2 =>
    intro hc e H x e' H' h ρ a w hw hf hE Q hK
    simp only [codeOk, Bool.and_eq_true] at hc
    obtain ⟨t, ht, h2⟩ := h
    have hv := hE.ev hc.1.1
    rw [ht] at hv
    have hb := hv.bool_
    refine wp_cond hb ?_
    cases t with
    | true => exact ih1 hc.1.2 h2 hw hf hE hK
    | false => exact ih2 hc.2 h2 hw hf hE hK
  | block id c ih =>
    intro hc e H x e' H' h ρ a w hw hf hE Q hK
    obtain ⟨x1, h1, rfl⟩ := h
    refine wp_block (ih hc h1 hw hf hE (fun ρ1 a1 w1 s1 hE1 hd1 => ?_))
    have hq := hK ρ1 a1 w1 s1 hE1 hd1
    cases x1 with
    | normal => exact hq
    | ret => exact hq
    | exit id' =>
      show Exit.inBlock id Q (.exit id') a1 w1
      simp only [Exit.inBlock]
      by_cases hid : id' = id
      · subst hid
        simpa [AX.ex] using hq
      · have : ¬ (AX.exit id' = AX.exit id) := fun h => hid (by injection h)
        rw [if_neg this] at hq
        simpa [hid, AX.ex] using hq
  | loop c ih =>
    intro hc e H x e' H' h ρ a w hw hf hE Q hK b kk cs
    obtain ⟨ex, a', w', hq, harr⟩ := loop_ok (fun _ _ _ _ _ h => evC_nle hcall c h) (ih hc) n h _ _ _ hw hf hE _ hK b kk cs
    exact ⟨ex, a', w', hq, .of_steps (.one step_loop) harr⟩
  | exit id =>
    intro _ e H x e' H' h ρ a w hw hf hE Q hK
    obtain ⟨rfl, rfl, rfl⟩ := h
    exact wp_exit (hK ρ a w (Step.refl hw) hE rfl)
  | ret =>
    intro _ e H x e' H' h ρ a w hw hf hE Q hK
    obtain ⟨rfl, rfl, rfl⟩ := h
    exact wp_ret (hK ρ a w (Step.refl hw) hE rfl)
  | _ => intro _ e H x e' H' h; exact h.elim
def resF (tmps : Array Value) : ResultVar → Sem Value
  | .tmp t => pure (tmps.getD t undef)
  | .cell a t => do loadVar t (← asAddr (tmps.getD a undef))
theorem results_eq (fn : Func) (tmps : Array Value) : results fn tmps = (do let vs ← fn.results.mapM (resF tmps); pure (if h : vs.size = 1 then vs[0] else .tuple vs)) := by
  unfold results
  congr 1
theorem ares_ok {ρ : Ren} {e : Env} {a : Act} {H : AH} {w : World} (hE : ER ρ e a nt) (hw : WR w0 ρ H w) : ∀ (l : List ResultVar), l.all (resOk nt) = true → ∀ {vs : List Value}, ares P e H l = some vs →
    ∃ cs : List Value, (l.mapM (resF a.tmps)).run P w = .ok cs w ∧ cs.length = vs.length ∧ ∀ (i : Nat) v, vs[i]? = some v → ∃ c, cs[i]? = some c ∧ VR ρ v c
  | [], _, vs, h => by
    simp only [ares] at h
    cases h
    exact ⟨[], rfl, rfl, fun i v h => by simp at h⟩
  | r :: l, hok, vs, h => by
    simp only [List.all_cons, Bool.and_eq_true] at hok
    have cons : ∀ {v c : Value} {vs' cs' : List Value}, VR ρ v c → cs'.length = vs'.length → (∀ (i : Nat) v, vs'[i]? = some v → ∃ c, cs'[i]? = some c ∧ VR ρ v c) → (c :: cs').length = (v :: vs').length ∧ ∀ (i : Nat) u, (v :: vs')[i]? = some u → ∃ d, (c :: cs')[i]? = some d ∧ VR ρ u d := by
      intro v c vs' cs' hv hl hall
      refine ⟨by simp [hl], fun i u hu => ?_⟩
      cases i with
      | zero => simp at hu; subst hu; exact ⟨c, by simp, hv⟩
      | succ i => exact hall i u (by simpa using hu)
    cases r with
    | tmp t =>
      simp only [ares] at h
      split at h
      · rename_i vs' hvs
        cases h
        obtain ⟨cs, hrun, hl, hall⟩ := ares_ok hE hw l hok.2 hvs
        obtain ⟨h1, h2⟩ := cons (hE.at_ t (by simpa [resOk] using hok.1)) hl hall
        refine ⟨_, ?_, h1, h2⟩
        simp only [List.mapM_cons, resF, Sem.run_bind, Sem.run_pure, Result.andThen_ok, hrun]
      · cases h
    | cell ad t =>
      simp only [ares] at h
      split at h
      · rename_i id k sp hp
        split at h
        · rename_i v hv
          split at h
          · rename_i vs' hvs
            cases h
            have hpr := hE.at_ ad (by simpa [resOk] using hok.1)
            rw [hp] at hpr
            obtain ⟨c, hvc, hload⟩ := aload_ok (P := P) hw hpr hv
            obtain ⟨l', hl', hc'⟩ := hpr.ptr_
            obtain ⟨cs, hrun, hl, hall⟩ := ares_ok hE hw l hok.2 hvs
            obtain ⟨h1, h2⟩ := cons hvc hl hall
            refine ⟨_, ?_, h1, h2⟩
            rw [hc'] at hload
            simp only [Instr.loadAt, Instr.sureAddr, Sem.run_bind, Sem.run_pure, Result.andThen_ok] at hload
            have h1' : (resF a.tmps (.cell ad t)).run P w = .ok c w := by simp only [resF, hc', asAddr, Sem.run_bind, Sem.run_pure, Result.andThen_ok, hload]
            simp only [List.mapM_cons, Sem.run_bind, Sem.run_pure, Result.andThen_ok, h1', hrun]
          · cases h
        · cases h
      · cases h
theorem results_ok {ρ : Ren} {e : Env} {a : Act} {H : AH} {w : World} {fn : Func} (hE : ER ρ e a nt) (hw : WR w0 ρ H w) (hok : fn.results.toList.all (resOk nt) = true) {vs : List Value} (h : ares P e H fn.results.toList = some vs) :
    ∃ c, (results fn a.tmps).run P w = .ok c w ∧ VR ρ (aout vs) c := by
  obtain ⟨cs, hrun, hl, hall⟩ := ares_ok (P := P) hE hw _ hok h
  rw [results_eq, Array.mapM_eq_mapM_toList]
  simp only [Sem.run_bind, Sem.run_map]
  rw [hrun]
  simp only [Result.andThen_ok]
  by_cases h1 : cs.length = 1
  · obtain ⟨c, rfl⟩ : ∃ c, cs = [c] := List.length_eq_one_iff.1 h1
    obtain ⟨v, rfl⟩ : ∃ v, vs = [v] := List.length_eq_one_iff.1 (by rw [← hl]; rfl)
    obtain ⟨d, hd, hv⟩ := hall 0 v rfl
    simp at hd
    subst hd
    exact ⟨c, by simp, hv⟩
  · refine ⟨.tuple cs.toArray, by simp [h1], ?_⟩
    have : aout vs = .tuple vs.toArray := by
      unfold aout
      split
      · rename_i v; simp at hl; exact absurd hl h1
      · rfl
    rw [this]
    refine .tup _ _ (by simp [hl]) (fun i hi => ?_)
    have hi' : i < vs.length := by simpa using hi
    obtain ⟨d, hd, hv⟩ := hall i _ (List.getElem?_eq_getElem hi')
    rw [Array.getD_eq_getD_getElem?, Array.getD_eq_getD_getElem?, List.getElem?_toArray, List.getElem?_toArray, List.getElem?_eq_getElem hi', hd]
    exact hv
/-- Functions of the program do what their abstract text says. -/
theorem evF_ok (hm : P.follows .mixedOrders = true) : ∀ n, CallOK P (evF P n)
  | 0 => ⟨fun _ _ _ _ _ h => h.elim, fun _ _ _ _ _ h => h.elim, fun _ _ _ _ _ h => h.elim, fun _ _ _ _ _ h => h.elim⟩
  | n + 1 => by
    have ih := evF_ok hm n
    refine ⟨?_, ?_, ?_, ?_⟩
    · rintro f args H v H' ⟨fn, c, x, e', vs, hf, hb, hok, _⟩
      unfold fnOk at hok
      simp only [Bool.and_eq_true, Bool.not_eq_true'] at hok
      exact ⟨fn, hf, by simp [hb], hok.1.1⟩
    · rintro f args H v H' ⟨fn, c, x, e', vs, hf, hb, hok, hsz, hc, _⟩
      exact evC_nle ih c hc
    · rintro f args H v H' ⟨fn, c, x, e', vs, hf, hb, hok, hsz, hc, _⟩ hfin
      exact evC_fin ih c hc hfin
    · rintro f args H v H' ⟨fn, c, x, e', vs, hf, hb, hok, hsz, hc, hx, hres, rfl⟩ w0 ρ w args' hw hfr hvr
      unfold fnOk at hok
      simp only [Bool.and_eq_true, Bool.not_eq_true', hb] at hok
      refine calls_of_wp hf hb ?_
      have hE0 : ER ρ (env0 args) { tmps := args' ++ Array.replicate (fn.ntmps - args'.size) undef, defers := [] } fn.ntmps := by
        have hsz' : args'.size ≤ fn.ntmps := by rw [← hvr.1]; exact hsz
        refine ⟨by simp; omega, fun t ht => ?_⟩
        show VR ρ (args.getD t undef) _
        by_cases hlt : t < args'.size
        · have := hvr.get t
          simp only [Array.getD_eq_getD_getElem?] at this ⊢
          rw [Array.getElem?_append_left hlt]
          exact this
        · have h1 : args.getD t undef = undef := by
            rw [Array.getD_eq_getD_getElem?, Array.getElem?_eq_none (by rw [hvr.1]; omega)]; rfl
          have h2 : (args' ++ Array.replicate (fn.ntmps - args'.size) undef).getD t undef = undef := by
            rw [Array.getD_eq_getD_getElem?, Array.getElem?_append_right (by omega), Array.getElem?_replicate]
            split <;> rfl
          rw [h1, h2]
          exact .undef ρ
      refine code_ok ih hm c hok.1.2 hc hw hfr hE0 (fun ρ' a' w' s hE hd => ?_)
      obtain ⟨cv, hrun, hv⟩ := results_ok (P := P) hE s.wr hok.2 hres
      rcases hx with rfl | rfl
      · exact ⟨hd, cv, hrun, ρ', cv, rfl, s, hv⟩
      · exact ⟨hd, cv, hrun, ρ', cv, rfl, s, hv⟩
end
end Go.Proofs.Ytaepgfafbnjccaa.Am
