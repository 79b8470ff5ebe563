/- All operations that ask nothing of memory: one theorem. For every program. No condition beyond the theorem's own. -/
import Derived.Test.YtaepgfafbnjccaaAm4
namespace Go.Proofs.Ytaepgfafbnjccaa.Am
open Go Go.RowKit
def okAll (nt : Nat) (op : Op) : Bool := op.operands.all (opOk nt)
section
variable {P : Program} {ρ : Ren}
theorem amax_ok (w : World) : ∀ (l l' : List Value) (k : IntKind) (x : Int) (v : Value), l.length = l'.length → (∀ (i : Nat) (p q : Value), l[i]? = some p → l'[i]? = some q → VR ρ p q) → amax true (.int k x) l = some v →
    scal v = true ∧ (l'.foldlM Builtin.max2 (.int k x)).run P w = .ok v w
  | [], [], k, x, v, _, _, h => by simp only [amax] at h; cases h; exact ⟨rfl, rfl⟩
  | [], _ :: _, _, _, _, hl, _, _ => by simp at hl
  | _ :: _, [], _, _, _, hl, _, _ => by simp at hl
  | p :: l, q :: l', k, x, v, hl, hp, h => by
    have hpq := hp 0 p q rfl rfl
    cases p <;> try (simp [amax] at h; done)
    rename_i k' y
    obtain rfl := hpq.int_
    simp only [amax, if_true] at h
    obtain ⟨h1, h2⟩ := amax_ok w l l' k _ v (by simpa using hl) (fun i p q hi hj => hp (i + 1) p q (by simpa using hi) (by simpa using hj)) h
    refine ⟨h1, ?_⟩
    simp only [List.foldlM_cons, Builtin.max2, Sem.run_bind, Sem.run_pure, Result.andThen_ok]
    exact h2
theorem amin_ok (w : World) : ∀ (l l' : List Value) (k : IntKind) (x : Int) (v : Value), l.length = l'.length → (∀ (i : Nat) (p q : Value), l[i]? = some p → l'[i]? = some q → VR ρ p q) → amax false (.int k x) l = some v →
    scal v = true ∧ (l'.foldlM Builtin.min2 (.int k x)).run P w = .ok v w
  | [], [], k, x, v, _, _, h => by simp only [amax] at h; cases h; exact ⟨rfl, rfl⟩
  | [], _ :: _, _, _, _, hl, _, _ => by simp at hl
  | _ :: _, [], _, _, _, hl, _, _ => by simp at hl
  | p :: l, q :: l', k, x, v, hl, hp, h => by
    have hpq := hp 0 p q rfl rfl
    cases p <;> try (simp [amax] at h; done)
    rename_i k' y
    obtain rfl := hpq.int_
    simp only [amax, Bool.false_eq_true, if_false] at h
    obtain ⟨h1, h2⟩ := amin_ok w l l' k _ v (by simpa using hl) (fun i p q hi hj => hp (i + 1) p q (by simpa using hi) (by simpa using hj)) h
    refine ⟨h1, ?_⟩
    simp only [List.foldlM_cons, Builtin.min2, Sem.run_bind, Sem.run_pure, Result.andThen_ok]
    exact h2
theorem VRs.list {a a' : Array Value} (h : VRs ρ a a') : a.toList.length = a'.toList.length ∧ ∀ (i : Nat) (p q : Value), a.toList[i]? = some p → a'.toList[i]? = some q → VR ρ p q := by
  refine ⟨by simp [h.1], fun i p q hp hq => ?_⟩
  rw [Array.getElem?_toList] at hp hq
  obtain ⟨c, hc, hv⟩ := h.some_ hp
  rw [hq] at hc
  cases hc
  exact hv
theorem pop_ok {e : Env} {a : Act} {nt : Nat} (hE : ER ρ e a nt) {o : Oper} (ho : okAll nt o.op = true) {v : Value} (h : pop P o.op e = some v) : ∃ c, VR ρ v c ∧ ∀ w, (execOp a.eval o).run P w = .ok (.value c) w := by
  obtain ⟨dst, op, type, pos, after, guard⟩ := o
  simp only at ho h
  cases op <;> try (simp [pop] at h; done)
  case move x => cases h; exact ⟨_, hE.ev (by simpa [okAll, Op.operands] using ho), fun w => rfl⟩
  case assign x => cases h; exact ⟨_, hE.ev (by simpa [okAll, Op.operands] using ho), fun w => rfl⟩
  case pick c x y =>
    simp [okAll, Op.operands] at ho
    simp only [pop] at h
    split at h
    · rename_i t ht
      have hc := hE.ev ho.1
      rw [ht] at hc
      have hc := hc.bool_
      cases h
      refine ⟨if t then a.eval x else a.eval y, ?_, fun w => ?_⟩
      · cases t
        · exact hE.ev ho.2.2
        · exact hE.ev ho.2.1
      · simp only [execOp, hc]; cases t <;> rfl
    · cases h
  case unOp op t x =>
    simp [okAll, Op.operands] at ho
    exact ⟨v, (aun_ok (P := P) default (hE.ev ho) h).1, fun w => by simp [execOp, (aun_ok (P := P) w (hE.ev ho) h).2]⟩
  case binOp op t x y t' =>
    simp [okAll, Op.operands] at ho
    exact ⟨v, (abin_ok (P := P) default (hE.ev ho.1) (hE.ev ho.2) h).1, fun w => by
      simp [execOp, eqGuard_ok (P := P) w (x := x) (y := y) (hE.ev ho.1) (hE.ev ho.2) h, (abin_ok (P := P) w (hE.ev ho.1) (hE.ev ho.2) h).2]⟩
  case convert s d x =>
    simp [okAll, Op.operands] at ho
    exact ⟨v, (aconv_ok (P := P) default (hE.ev ho) h).1, fun w => by simp [execOp, (aconv_ok (P := P) w (hE.ev ho) h).2]⟩
  case extract x i =>
    simp [okAll, Op.operands] at ho
    simp only [pop] at h
    split at h
    · rename_i vs hvs
      have hx := hE.ev ho
      rw [hvs] at hx
      obtain ⟨a', ha, hr⟩ := hx.tup_
      obtain ⟨c, hc, hv⟩ := hr.some_ h
      exact ⟨c, hv, fun w => by simp [execOp, ha, Instr.extract, hc]⟩
    · cases h
  case nilCheck x =>
    simp [okAll, Op.operands] at ho
    simp only [pop] at h
    split at h
    · rename_i ad hvs
      have hx := hE.ev ho
      rw [hvs] at hx
      cases h
      cases hcx : a.eval x <;> rw [hcx] at hx <;> cases hx
      case sc hs => simp [scal] at hs
      case ptr id k sp l hl => exact ⟨_, .ptr _ _ _ _ hl, fun w => by simp [execOp, hcx]⟩
    · cases h
  case fieldAddr s x f =>
    simp [okAll, Op.operands] at ho
    simp only [pop] at h
    split at h
    · rename_i fs id k sp hu hx0
      have hx := hE.ev ho
      rw [hx0] at hx
      obtain ⟨l, hl, hc⟩ := hx.ptr_
      split at h
      · rename_i fd hfd
        split at h
        · rename_i i hi
          split at h
          · cases h
          · rename_i hne
            cases h
            refine ⟨_, .ptr _ _ _ _ hl, fun w => ?_⟩
            simp [execOp, Instr.fieldAt, run_underlying hu, hfd, hc, Instr.sureAddr, fieldPlace, sizeOf, typeInfo, hi, hne, Am.add_at, Nat.add_assoc]
        · cases h
      · cases h
    · cases h
  case field s x f =>
    simp [okAll, Op.operands] at ho
    simp only [pop] at h
    split at h
    · rename_i fs cs hu hx0
      have hx := hE.ev ho
      rw [hx0] at hx
      obtain ⟨a', hc, hr⟩ := hx.agg_
      split at h
      · rename_i fd hfd
        unfold apart at h
        have sub : ∀ (m : Nat), VR ρ (.agg (cs.extract fd.offset m)) (.agg (a'.extract fd.offset m)) := fun m => by
          refine .agg _ _ (by simp [hr.1]) (fun i hi => ?_)
          have := hr.get (fd.offset + i)
          simp only [Array.getD_eq_getD_getElem?, Array.getElem?_extract] at this ⊢
          rw [← hr.1]
          split
          · exact this
          · exact .undef ρ
        split at h
        · rename_i hu2 hi2
          cases h
          exact ⟨_, sub _, fun w => by simp [execOp, Instr.field, run_underlying hu, hfd, hc, asAgg, part, isAgg, run_underlying hu2, sizeOf, typeInfo, hi2]⟩
        · rename_i hu2 hi2
          cases h
          exact ⟨_, sub _, fun w => by simp [execOp, Instr.field, run_underlying hu, hfd, hc, asAgg, part, isAgg, run_underlying hu2, sizeOf, typeInfo, hi2]⟩
        · rename_i d hu2 hn1 hn2
          obtain ⟨c, hcc, hv⟩ := hr.some_ h
          refine ⟨c, hv, fun w => ?_⟩
          cases hi2 : P.info? fd.type with
          | none => simp [Program.underlying, hi2] at hu2
          | some i =>
            cases d <;> first
              | (simp [execOp, Instr.field, run_underlying hu, hfd, hc, asAgg, part, isAgg, run_underlying hu2, hcc]; done)
              | (exfalso; first | exact hn1 _ _ hi2 rfl | exact hn2 _ _ _ hi2 rfl)
        · cases h
      · cases h
    · cases h
  case indexAddr t x i =>
    simp [okAll, Op.operands] at ho
    simp only [pop] at h
    split at h
    · rename_i el id k es n c k' j hu hx0 hi0
      have hx := hE.ev ho.1
      have hi := hE.ev ho.2
      rw [hx0] at hx
      rw [hi0] at hi
      have hi := hi.int_
      split at h
      · rename_i inf hinf
        split at h
        · rename_i hj
          cases h
          cases hcx : a.eval x <;> rw [hcx] at hx <;> cases hx
          case sc hs => simp [scal] at hs
          case slc l hl hn hc hs =>
            refine ⟨_, .ptr _ _ _ _ hl, fun w => ?_⟩
            simp [execOp, Instr.indexAt, run_underlying hu, hcx, hi, asIntOf, hj, sizeOf, typeInfo, hinf, Am.add_at, Nat.add_assoc]
        · cases h
      · cases h
    · cases h
  case index t x i =>
    simp [okAll, Op.operands] at ho
    simp only [pop] at h
    split at h
    · rename_i s k j hu hx0 hi0
      have hx := hE.ev ho.1
      have hi := hE.ev ho.2
      rw [hx0] at hx
      rw [hi0] at hi
      have hi := hi.int_
      have hx := hx.string_
      split at h
      · rename_i hj
        cases hb : s[j.toNat]? with
        | none => simp [hb] at h
        | some b =>
          simp [hb] at h
          subst h
          exact ⟨_, .sc _ rfl, fun w => by simp [execOp, Instr.index, run_underlying hu, hx, hi, asIntOf, hj, hb]⟩
      · cases h
    · cases h
  case slice t x lo hi mx =>
    cases mx with
    | some m => simp [pop] at h
    | none =>
      simp [okAll, Op.operands] at ho
      simp only [pop] at h
      obtain ⟨d, hv, hr⟩ := acut_ok (clo := lo.map a.eval) (chi := hi.map a.eval) (hE.ev ho.1) (fun v hv => by
          cases lo with
          | none => cases hv
          | some y => cases hv; exact ⟨_, rfl, hE.ev (by simpa using ho.2.1)⟩) (fun hn => by cases lo <;> first | rfl | cases hn) (fun v hv => by
          cases hi with
          | none => cases hv
          | some y => cases hv; exact ⟨_, rfl, hE.ev (by simpa using ho.2.2)⟩) (fun hn => by cases hi <;> first | rfl | cases hn) h
      exact ⟨d, hv, fun w => by simp [execOp, hr]⟩
  case makeFunc fn first cap =>
    simp only [okAll, Op.operands, Array.all_append, Bool.and_eq_true] at ho
    cases h
    have h1 := aargs_ok hE ho.1
    have h2 := aargs_ok hE ho.2
    exact ⟨_, .func _ _ _ _ _ h1.1 h2.1 h1.2 h2.2, fun w => rfl⟩
  case makeInterface t x =>
    simp [okAll, Op.operands] at ho
    simp only [pop] at h
    split at h
    · rename_i hc
      cases h
      exact ⟨_, .iface _ _ _ (hE.ev ho), fun w => by simp [execOp, run_makeInterface w t _ hc]⟩
    · cases h
  case build t parts =>
    simp only [okAll, Op.operands] at ho
    simp only [pop] at h
    have hp : Parts ρ (parts.toList.map fun p => (p.1, ev e p.2)) (parts.map fun p => (p.1, a.eval p.2)).toList := by
      rw [Array.toList_map]
      refine Parts.map hE _ (fun p hp => ?_)
      rw [List.all_toArray, List.all_eq_true] at ho
      exact ho _ (List.mem_map.2 ⟨p, hp, rfl⟩)
    obtain ⟨c, hv, hr⟩ := abuild_ok hp h
    rw [Array.toArray_toList] at hr
    exact ⟨c, hv, fun w => by simp [execOp, hr]⟩
  case call c =>
    obtain ⟨callee, args, ts⟩ := c
    cases callee <;> try (simp [pop] at h; done)
    case builtin b =>
      simp [okAll, Op.operands, Call.operands] at ho
      have ha := aargs_ok hE (xs := args) (by simpa using ho)
      cases b <;> try (simp [pop] at h; done)
      case len =>
        simp only [pop] at h
        split at h
        · rename_i s hu hx
          cases h
          obtain ⟨c, hc, hv⟩ := ha.some_ hx
          have := hv.string_
          subst this
          cases ht : ts[0]? with
          | none => simp [ht] at hu
          | some t =>
            simp [ht] at hu
            exact ⟨_, .sc _ rfl, fun w => by simp [execOp, resolve, invoke, builtin, Builtin.len_, ht, hc, run_underlying hu, goInt]⟩
        · rename_i el A n m hu hx
          cases h
          obtain ⟨c, hc, hv⟩ := ha.some_ hx
          obtain ⟨a', m', rfl, _, _⟩ := hv.slice_
          cases ht : ts[0]? with
          | none => simp [ht] at hu
          | some t =>
            simp [ht] at hu
            exact ⟨_, .sc _ rfl, fun w => by simp [execOp, resolve, invoke, builtin, Builtin.len_, ht, hc, run_underlying hu, goInt]⟩
        · cases h
      case max =>
        simp only [pop] at h
        split at h
        · rename_i k x r hr
          obtain ⟨hl, hp⟩ := ha.list
          rw [hr] at hl hp
          cases hq : (args.map a.eval).toList with
          | nil => rw [hq] at hl; simp at hl
          | cons q r' =>
            rw [hq] at hl hp
            have hq0 := hp 0 _ q rfl rfl
            have := hq0.int_
            subst this
            have key := fun w => amax_ok (P := P) (ρ := ρ) w r r' k x v (by simpa using hl) (fun i p q hi hj => hp (i + 1) p q (by simpa using hi) (by simpa using hj)) h
            refine ⟨v, .sc _ (key default).1, fun w => ?_⟩
            simp only [execOp, resolve, invoke, builtin, Builtin.max_, hq, Sem.run_bind, Sem.run_pure, Result.andThen_ok, (key w).2]
        · cases h
      case min =>
        simp only [pop] at h
        split at h
        · rename_i k x r hr
          obtain ⟨hl, hp⟩ := ha.list
          rw [hr] at hl hp
          cases hq : (args.map a.eval).toList with
          | nil => rw [hq] at hl; simp at hl
          | cons q r' =>
            rw [hq] at hl hp
            have hq0 := hp 0 _ q rfl rfl
            have := hq0.int_
            subst this
            have key := fun w => amin_ok (P := P) (ρ := ρ) w r r' k x v (by simpa using hl) (fun i p q hi hj => hp (i + 1) p q (by simpa using hi) (by simpa using hj)) h
            refine ⟨v, .sc _ (key default).1, fun w => ?_⟩
            simp only [execOp, resolve, invoke, builtin, Builtin.min_, hq, Sem.run_bind, Sem.run_pure, Result.andThen_ok, (key w).2]
        · cases h
end
end Go.Proofs.Ytaepgfafbnjccaa.Am
