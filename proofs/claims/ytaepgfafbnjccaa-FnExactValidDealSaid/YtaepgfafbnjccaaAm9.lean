/- What an operation does to abstract memory: the machine does what carries it (one theorem for all). For every program. No condition beyond each theorem's own. -/
import Derived.Test.YtaepgfafbnjccaaAm8
set_option linter.unusedSimpArgs false
set_option linter.unusedVariables false
namespace Go.Proofs.Ytaepgfafbnjccaa.Am
open Go Go.RowKit
section
variable {P : Program} {w0 w : World} {ρ : Ren} {H : AH}
theorem VR.shorter {A : Option Addr} {n m c : Nat} {x' : Value} (h : VR ρ (.slice A n c) x') (hm : m ≤ n) : ∃ A' c', x' = .slice A' n c' ∧ VR ρ (.slice A m c) (.slice A' m c') := by
  cases h with
  | sc v hs =>
    cases A with
    | none => exact ⟨none, c, rfl, .sc _ rfl⟩
    | some a => simp [scal] at hs
  | slc id k es n c c' l hl hn hc hs => exact ⟨_, c', rfl, .slc _ _ _ _ _ _ _ hl (by omega) hc hs⟩
  | sl0 id k a c' =>
    have : m = 0 := by omega
    subst this
    exact ⟨_, c', rfl, .sl0 _ _ _ _⟩
theorem acopy_ok (h : WR w0 ρ H w) {t t' ty : TypeId} {d s d' s' v : Value} {H' : AH} (hd : VR ρ d d') (hs : VR ρ s s') (hv : acopy P H t d s = some (v, H')) :
    ∃ w', Step w0 ρ H w ρ H' w' ∧ VR ρ v v ∧ (Builtin.copy_ #[t, t'] ty #[d', s']).run P w = .ok v w' := by
  unfold acopy at hv
  split at hv
  · rename_i el hu
    split at hv
    · rename_i i hi
      split at hv
      · rename_i id k es n cd A m c
        split at hv
        · rename_i m0 ys hys
          split at hv
          · rename_i b hbm
            split at hv
            · rename_i hcond
              obtain ⟨hrw, hes, hk, hyl0, hone⟩ := hcond
              cases hv
              obtain ⟨A', c', rfl, hs'⟩ := hs.shorter (Nat.min_le_left m n)
              obtain ⟨ds, hyl, hdl, hyd, A2, c2, he, hAn, hAc⟩ := acells_ok h hs' hys
              obtain ⟨rfl, rfl, rfl⟩ : A' = A2 ∧ m0 = min m n ∧ c' = c2 := by simpa [eq_comm] using he
              cases hd with
              | sc v h => simp [scal] at h
              | slc id k es n c c'' l hl hn hcc hss =>
                have hlen : ys.length = ds.length := hyl.trans hdl.symm
                obtain ⟨w', hrun, hst⟩ := put_ok (P := P) h hbm hrw hl (k := k) hk hlen hyd (fun u hu => List.all_eq_true.1 hone u hu)
                have hfc := firstCells_ok (P := P) (w := w) (c := c') hdl hAn hAc
                have hfc' : (Builtin.firstCells i.size (Nat.min m n) (.slice A' m c')).run P w = .ok ds.toArray w := by
                  cases A' <;> simpa [Builtin.firstCells] using hfc
                refine ⟨w', hst, .sc _ rfl, ?_⟩
                simp only [Builtin.copy_, Sem.run_bind]
                simp [run_underlying hu, Builtin.lenOf, sizeOf, typeInfo, hi, hfc', hrun, goInt]
            · cases hv
          · cases hv
        · cases hv
      · cases hv
    · cases hv
  · cases hv
theorem aclear_ok (h : WR w0 ρ H w) {t ty : TypeId} {x x' v : Value} {H' : AH} (hx : VR ρ x x') (hv : aclear P H t x = some (v, H')) :
    ∃ w', Step w0 ρ H w ρ H' w' ∧ v = undef ∧ (Builtin.clear_ #[t] ty #[x']).run P w = .ok v w' := by
  unfold aclear at hv
  split at hv
  · rename_i el hu
    split at hv
    · rename_i i hi
      split at hv
      · rename_i z hz
        split at hv
        · rename_i n c
          cases hv
          have := scal_eq rfl hx
          subst this
          exact ⟨w, Step.refl h, rfl, by simp [Builtin.clear_, run_underlying hu]⟩
        · rename_i id k es n c
          split at hv
          · rename_i hn
            cases hv
            subst hn
            obtain ⟨a', c', rfl, hn', _⟩ := hx.slice_
            refine ⟨w, Step.refl h, rfl, ?_⟩
            cases a' with
            | none => simp at hn'
            | some a => simp [Builtin.clear_, run_underlying hu]
          · rename_i hn
            split at hv
            · rename_i b hbm
              split at hv
              · rename_i hcond
                obtain ⟨hzo, hrw, hes, hzs, hk, hone⟩ := hcond
                cases hv
                cases hx with
                | sc v h => simp [scal] at h
                | slc id k es n c c' l hl hn2 hcc hss =>
                  have hsc := zarr_scal (zeroOk_of hzo hi hz) (n * z.cells.size)
                  have hlen : (zarr z (n * z.cells.size)).toList.length = n * i.size := by simp [zarr, hzs]
                  obtain ⟨w', hrun, hst⟩ := put_ok (P := P) h hbm hrw hl (k := k) (ys := (zarr z (n * z.cells.size)).toList) (ds := (zarr z (n * z.cells.size)).toList) (by rw [hlen]; exact hk) rfl (fun j u hu => ⟨u, hu, .sc _ (Array.all_eq_true_iff_forall_mem.1 hsc u (Array.mem_toList_iff.1 (List.mem_of_getElem? hu)))⟩) (fun u hu => Array.all_eq_true_iff_forall_mem.1 hone u (Array.mem_toList_iff.1 hu))
                  refine ⟨w', hst, rfl, ?_⟩
                  have e : Builtin.zeroCells z.cells n = zarr z (n * z.cells.size) := rfl
                  simp [Builtin.clear_, run_underlying hu, zeroValue, typeInfo, hi, hz, e, hrun, hn]
              · cases hv
            · cases hv
        · cases hv
      · cases hv
    · cases hv
  · cases hv
theorem hop_ok {e : Env} {a : Act} {nt : Nat} (hE : ER ρ e a nt) (h : WR w0 ρ H w) {o : Oper} (ho : okAll nt o.op = true) {v : Value} {H' : AH} {tag : Option Nat} (hv : hop P tag o.op e H = some (v, H')) (hf : Free ρ H.n H'.n) :
    Did P w0 ρ H w v H' ((execOp a.eval o).run P w) := by
  obtain ⟨dst, op, type, pos, after, guard⟩ := o
  simp only at ho hv
  have fr : H'.n = H.n + 1 → ρ H.n = none := fun he => hf H.n (Nat.le_refl _) (by omega)
  cases op <;> try (simp [hop] at hv; done)
  case load t x =>
    simp [okAll, Op.operands] at ho
    simp only [hop] at hv
    split at hv
    · rename_i id k sp hx
      have hp := hE.ev ho
      rw [hx] at hp
      split at hv
      · rename_i u hu
        cases hv
        obtain ⟨d, hd, hrun⟩ := aload_ok h hp hu
        exact ⟨ρ, d, w, Step.refl h, hd, .inl (by simp [execOp, hrun])⟩
      · cases hv
    · cases hv
  case store t x y =>
    simp [okAll, Op.operands] at ho
    simp only [hop] at hv
    split at hv
    · rename_i id k sp hx
      have hp := hE.ev ho.1
      rw [hx] at hp
      split at hv
      · rename_i H1 hu
        cases hv
        obtain ⟨w', hrun, hst⟩ := astore_ok (P := P) h hp (hE.ev ho.2) hu
        exact ⟨ρ, undef, w', hst, .undef ρ, .inr ⟨rfl, by simp [execOp, hrun]⟩⟩
      · cases hv
    · cases hv
  case box t x =>
    simp [okAll, Op.operands] at ho
    simp only [hop] at hv
    cases hv
    have hx := hE.ev ho
    obtain ⟨hl, hc⟩ := vrs_list hx.cells
    obtain ⟨ρ', hst, hn⟩ := new_ok h (fr rfl) t hl hc w.drawn
    refine ⟨ρ', _, _, hst, .ptr _ _ _ _ hn, .inl ?_⟩
    simp [execOp, Instr.box, newVar, newRow]
  case alloc t =>
    simp only [hop] at hv
    unfold aalloc at hv
    split at hv
    · rename_i i hi
      split at hv
      · rename_i z hz
        split at hv
        · rename_i hzo
          cases hv
          obtain ⟨hl, hc⟩ := vrs_list (VRs.refl_ (ρ := ρ) (zeroOk_of hzo hi hz))
          obtain ⟨ρ', hst, hn⟩ := new_ok h (fr rfl) t hl hc w.drawn
          refine ⟨ρ', _, _, hst, .ptr _ _ _ _ hn, .inl ?_⟩
          simp [execOp, Instr.alloc, newVar, newRow, zeroValue, typeInfo, hi, hz]
        · cases hv
      · cases hv
    · cases hv
  case buildSlice t n parts =>
    simp only [okAll, Op.operands] at ho
    simp only [hop] at hv
    have hp : Parts ρ (parts.toList.map fun p => (p.1, ev e p.2)) (parts.map fun p => (p.1, a.eval p.2)).toList := by
      rw [Array.toList_map]
      refine Parts.map hE _ (fun p hp => ?_)
      rw [List.all_toArray, List.all_eq_true] at ho
      exact ho _ (List.mem_map.2 ⟨p, hp, rfl⟩)
    have hn : H'.n = H.n + 1 := by
      unfold alit at hv
      repeat' (split at hv)
      all_goals first | (cases hv; done) | (cases hv; rfl)
    obtain ⟨ρ', c, w', hst, hvr, hrun⟩ := alit_ok h (fr hn) hp hv
    rw [Array.toArray_toList] at hrun
    exact ⟨ρ', c, w', hst, hvr, .inl (by simp [execOp, hrun])⟩
  case makeSlice t l c =>
    simp [okAll, Op.operands] at ho
    simp only [hop] at hv
    have hn : H'.n = H.n + 1 := by
      unfold amake at hv
      repeat' (split at hv)
      all_goals first | (cases hv; done) | (cases hv; rfl)
    obtain ⟨ρ', d, w', hst, hvr, hrun⟩ := amake_ok h (fr hn) (hE.ev ho.1) (hE.ev ho.2) hv
    exact ⟨ρ', d, w', hst, hvr, .inl (by simp [execOp, hrun])⟩
  case call c =>
    obtain ⟨callee, args, ts⟩ := c
    cases callee <;> try (simp [hop] at hv; done)
    case builtin b =>
      simp [okAll, Op.operands, Call.operands] at ho
      cases b <;> try (simp [hop] at hv; done)
      case append =>
        simp only [hop] at hv
        split at hv
        · rename_i s x t t' hargs hts
          split at hv
          · rename_i ht
            subst ht
            have ha : args = #[s, x] := by cases args; simp at hargs; simp [hargs]
            have htt : ts = #[t, t] := by cases ts; simp at hts; simp [hts]
            subst ha
            subst htt
            simp at ho
            have hs := hE.ev (x := s) (ho 0 (by simp))
            have hx := hE.ev (x := x) (ho 1 (by simp))
            obtain ⟨ρ', d, w', hst, hvr, hrun⟩ := aappend_ok (ty := type) h hf hs hx hv
            exact ⟨ρ', d, w', hst, hvr, .inl (by simp [execOp, resolve, invoke, builtin, hrun])⟩
          · cases hv
        · cases hv
      case copy =>
        simp only [hop] at hv
        split at hv
        · rename_i d s t t' hargs hts
          have ha : args = #[d, s] := by cases args; simp at hargs; simp [hargs]
          have htt : ts = #[t, t'] := by cases ts; simp at hts; simp [hts]
          subst ha
          subst htt
          simp at ho
          obtain ⟨w', hst, hvr, hrun⟩ := acopy_ok (ty := type) (t' := t') h (hE.ev (x := d) (ho 0 (by simp))) (hE.ev (x := s) (ho 1 (by simp))) hv
          exact ⟨ρ, v, w', hst, hvr, .inl (by simp [execOp, resolve, invoke, builtin, hrun])⟩
        · cases hv
      case clear =>
        simp only [hop] at hv
        split at hv
        · rename_i x t hargs hts
          have ha : args = #[x] := by cases args; simp at hargs; simp [hargs]
          have htt : ts = #[t] := by cases ts; simp at hts; simp [hts]
          subst ha
          subst htt
          simp at ho
          obtain ⟨w', hst, hvr, hrun⟩ := aclear_ok (ty := type) h (hE.ev ho) hv
          exact ⟨ρ, v, w', hst, by rw [hvr]; exact .undef ρ, .inl (by simp [execOp, resolve, invoke, builtin, hrun])⟩
        · cases hv
end
end Go.Proofs.Ytaepgfafbnjccaa.Am
