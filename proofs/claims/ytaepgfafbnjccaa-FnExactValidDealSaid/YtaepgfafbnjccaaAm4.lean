/- Operations that ask nothing of memory: the machine yields what carries the abstract value. For every program. No condition beyond each theorem's own. -/
import Derived.Test.YtaepgfafbnjccaaAm3
namespace Go.Proofs.Ytaepgfafbnjccaa.Am
open Go Go.RowKit
section
variable {P : Program} {ρ : Ren}
/-- Parts of a struct, value by value. -/
def Parts (ρ : Ren) : List (Nat × Value) → List (Nat × Value) → Prop
  | [], [] => True
  | p :: ps, q :: qs => p.1 = q.1 ∧ VR ρ p.2 q.2 ∧ Parts ρ ps qs
  | _, _ => False
theorem Parts.map {e : Env} {a : Act} {nt : Nat} (hE : ER ρ e a nt) : ∀ (l : List (Nat × Operand)), (∀ p ∈ l, opOk nt p.2 = true) → Parts ρ (l.map fun p => (p.1, ev e p.2)) (l.map fun p => (p.1, a.eval p.2))
  | [], _ => trivial
  | p :: l, h => ⟨rfl, hE.ev (h p (by simp)), Parts.map hE l (fun q hq => h q (by simp [hq]))⟩
theorem VRs.set {a a' : Array Value} (h : VRs ρ a a') (i : Nat) {v c : Value} (hv : VR ρ v c) : VRs ρ (a.setIfInBounds i v) (a'.setIfInBounds i c) := by
  refine ⟨by simp [h.1], fun j hj => ?_⟩
  have hj' : j < a.size := by simpa using hj
  have hj2 : j < a'.size := by rw [← h.1]; exact hj'
  have := h.2 j hj'
  by_cases hij : i = j
  · subst hij; simpa [hj', hj2] using hv
  · simp only [Array.getD_eq_getD_getElem?, Array.getElem?_setIfInBounds_ne hij] at this ⊢
    exact this
theorem VRs.fold (off : Nat) : ∀ (l l' : List (Value × Nat)) (a a' : Array Value), l.length = l'.length → (∀ (i : Nat) (p q : Value × Nat), l[i]? = some p → l'[i]? = some q → p.2 = q.2 ∧ VR ρ p.1 q.1) → VRs ρ a a' →
    VRs ρ (l.foldl (fun cs p => cs.setIfInBounds (off + p.2) p.1) a) (l'.foldl (fun cs p => cs.setIfInBounds (off + p.2) p.1) a')
  | [], [], a, a', _, _, h => h
  | [], _ :: _, _, _, hl, _, _ => by simp at hl
  | _ :: _, [], _, _, hl, _, _ => by simp at hl
  | p :: l, q :: l', a, a', hl, hp, h => by
    obtain ⟨h1, h2⟩ := hp 0 p q rfl rfl
    simp only [List.foldl_cons]
    refine VRs.fold off l l' _ _ (by simpa using hl) (fun i p q hi hj => hp (i + 1) p q (by simpa using hi) (by simpa using hj)) ?_
    rw [h1]
    exact h.set _ h2
theorem fill_ok (place : Nat → Option (Nat × Nat)) : ∀ (l l' : List (Nat × Value)) (a a' b : Array Value), Parts ρ l l' → VRs ρ a a' → Instr.fill place a l = some b → ∃ b', Instr.fill place a' l' = some b' ∧ VRs ρ b b'
  | [], [], a, a', b, _, ha, h => by
    simp only [Instr.fill] at h ⊢
    cases h
    exact ⟨a', rfl, ha⟩
  | [], _ :: _, _, _, _, hp, _, _ => hp.elim
  | _ :: _, [], _, _, _, hp, _, _ => hp.elim
  | (i, v) :: l, (j, c) :: l', a, a', b, hp, ha, h => by
    obtain ⟨hij, hv, hp⟩ := hp
    simp only at hij hv
    subst hij
    have hc := hv.cells
    simp only [Instr.fill] at h ⊢
    cases hpl : place i with
    | none => rw [hpl] at h; cases h
    | some os =>
      obtain ⟨off, size⟩ := os
      rw [hpl] at h
      simp only at h ⊢
      rw [← hc.1, ← ha.1]
      split at h
      · cases h
      · rename_i hcond
        rw [if_neg hcond]
        refine fill_ok place l l' _ _ b hp ?_ h
        rw [← Array.foldl_toList, ← Array.foldl_toList]
        refine VRs.fold off _ _ a a' (by simp [hc.1]) ?_ ha
        intro k p q hk hq
        rw [Array.getElem?_toList, Array.getElem?_zipIdx] at hk hq
        cases h1 : v.cells[k]? with
        | none => rw [h1] at hk; cases hk
        | some u =>
          obtain ⟨d, hd, hud⟩ := hc.some_ h1
          rw [h1] at hk
          rw [hd] at hq
          simp at hk hq
          subst hk
          subst hq
          exact ⟨rfl, hud⟩
theorem VRs.refl_ {a : Array Value} (h : a.all scal = true) : VRs ρ a a := by
  refine ⟨rfl, fun i hi => ?_⟩
  have := Array.all_eq_true.1 h i hi
  rw [show a.getD i undef = a[i] from by simp [hi]]
  exact .sc _ this
theorem abuild_ok {t : TypeId} {l l' : List (Nat × Value)} {v : Value} (hp : Parts ρ l l') (h : abuild P t l = some v) : ∃ c, VR ρ v c ∧ ∀ w, (Instr.build t l'.toArray).run P w = .ok c w := by
  unfold abuild at h
  split at h
  · rename_i hz
    split at h
    · rename_i cs hb
      cases h
      unfold zeroOk at hz
      have key : ∃ cs', P.built t l' = some cs' ∧ VRs ρ cs cs' := by
        unfold Program.built at hb ⊢
        cases hi : P.info? t with
        | none => simp [hi] at hb
        | some it =>
          cases hu : P.underlying t with
          | none => simp [hi, hu] at hb
          | some d =>
            cases hzz : it.zero with
            | none => cases d <;> simp [hi, hu, hzz] at hb
            | some z =>
              simp only [hi, hzz, Bool.and_eq_true] at hz
              have hz := hz.1
              cases d <;> try (simp [hi, hu] at hb; done)
              case array n e =>
                cases hie : P.info? e with
                | none => simp [hi, hu, hzz, hie] at hb
                | some ie =>
                  simp only [hi, hu, hzz, hie] at hb ⊢
                  exact fill_ok _ _ _ _ _ _ hp (VRs.refl_ hz) hb
              case struct fs =>
                cases hm : fs.toList.mapM (fun f => (P.info? f.type).map fun i => (f.offset, i.size)) with
                | none => simp [hi, hu, hzz, hm] at hb
                | some places =>
                  simp only [hi, hu, hzz, hm] at hb ⊢
                  exact fill_ok _ _ _ _ _ _ hp (VRs.refl_ hz) hb
      obtain ⟨cs', hb', hv⟩ := key
      exact ⟨.agg cs', .agg _ _ hv.1 hv.2, fun w => run_build w t l'.toArray cs' hb'⟩
    · cases h
  · cases h
theorem add_at (b o n : Nat) : (⟨b, o, none⟩ : Addr).add n = ⟨b, o + n, none⟩ := by unfold Addr.add; split <;> simp_all
theorem acut_ok {t : TypeId} {x c v : Value} {lo hi clo chi : Option Value} (hx : VR ρ x c) (hlo : ∀ v, lo = some v → ∃ c, clo = some c ∧ VR ρ v c) (hlo' : lo = none → clo = none) (hhi : ∀ v, hi = some v → ∃ c, chi = some c ∧ VR ρ v c) (hhi' : hi = none → chi = none)
    (h : acut P t x lo hi = some v) : ∃ d, VR ρ v d ∧ ∀ w, (Instr.sliceAt t c clo chi none).run P w = .ok d w := by
  unfold acut at h
  split at h
  · rename_i s hu
    obtain rfl := hx.string_
    split at h
    · rename_i hh h1
      split at h
      · rename_i ll h2
        cases h
        have hb := fun w => (sliceBounds_ok (P := P) (ρ := ρ) w (s := false) (n := s.size) (c := s.size) hlo hlo' hhi hhi' (Nat.le_refl _) h1 h2).1
        refine ⟨_, .sc _ rfl, fun w => ?_⟩
        simp [Instr.sliceAt, Instr.slice, run_underlying hu, hb]
      · cases h
    · cases h
  · rename_i el a n m hu
    split at h
    · rename_i inf hinf
      have hsz : ∀ w, (sizeOf el).run P w = .ok inf.size w := by intro w; simp [sizeOf, typeInfo, hinf]
      split at h
      · rename_i hh h1
        split at h
        · rename_i ll h2
          have go : ∀ {m' : Nat}, m ≤ m' → ∀ A : Option Addr, c = .slice A n m' → (∀ w, (Instr.sliceAt t c clo chi none).run P w = .ok (.slice (if m' = ll then A else A.map (·.add (ll * inf.size))) (hh - ll) (m' - ll)) w) ∧ ll ≤ hh := by
            intro m' hm A hc
            subst hc
            have hb := fun w => sliceBounds_ok (P := P) (ρ := ρ) w (s := true) (n := n) hlo hlo' hhi hhi' hm h1 h2
            refine ⟨fun w => ?_, (hb default).2⟩
            have hb := (hb w).1
            simp [Instr.sliceAt, Instr.slice, run_underlying hu, hb, hsz]
          have hhm : hh ≤ m ∨ hi = none := by
            cases hi with
            | none => exact .inr rfl
            | some u => exact .inl (by
                simp only [bHi] at h1
                unfold abound at h1
                split at h1
                · split at h1
                  · cases h1; omega
                  · cases h1
                · cases h1)
          split at h
          · cases h
            cases hx
            obtain ⟨hr, hle⟩ := go (Nat.le_refl _) none rfl
            refine ⟨_, ?_, hr⟩
            have e : (if m = ll then (none : Option Addr) else Option.map (fun x : Addr => x.add (ll * inf.size)) none) = none := by split <;> rfl
            rw [e]
            exact .sc _ rfl
          · rename_i id k es
            split at h
            · rename_i hes
              subst hes
              cases hx with
              | sc v hs => simp [scal] at hs
              | slc id k es n c c' l hl hn hc hs =>
                obtain ⟨hr, hle⟩ := go hc _ rfl
                have hhm' : hh ≤ m := by
                  rcases hhm with hhm | hhm
                  · exact hhm
                  · subst hhm; simp [bHi] at h1; omega
                split at h
                · rename_i hl0
                  subst hl0
                  cases h
                  refine ⟨_, ?_, hr⟩
                  simp only [Nat.zero_mul, Nat.sub_zero, Option.map_some]
                  have e : (if c' = 0 then some (⟨l.blk, l.off + k, none⟩ : Addr) else some ((⟨l.blk, l.off + k, none⟩ : Addr).add 0)) = some ⟨l.blk, l.off + k, none⟩ := by split <;> rfl
                  rw [e]
                  exact .slc _ _ _ _ _ _ _ hl hhm' hc hs
                · rename_i hl0
                  split at h
                  · rename_i hml
                    cases h
                    refine ⟨_, ?_, hr⟩
                    have hz : hh - ll = 0 := by omega
                    rw [hz]
                    split
                    · exact .sl0 _ _ _ _
                    · simp only [Option.map_some, Go.Proofs.Ytaepgfafbnjccaa.Am.add_at]
                      exact .sl0 _ _ _ _
                  · rename_i hml
                    cases h
                    refine ⟨_, ?_, hr⟩
                    rw [if_neg (by omega)]
                    simp only [Option.map_some, Go.Proofs.Ytaepgfafbnjccaa.Am.add_at]
                    have e : l.off + k + ll * inf.size = l.off + (k + ll * inf.size) := by omega
                    rw [e]
                    refine .slc _ _ _ _ _ _ _ hl (by omega) (by omega) ?_
                    have : (c' - ll) * inf.size + ll * inf.size = c' * inf.size := by rw [← Nat.add_mul]; congr 1; omega
                    omega
            · cases h
          · cases h
        · cases h
      · cases h
    · cases h
  · cases h
end
end Go.Proofs.Ytaepgfafbnjccaa.Am
