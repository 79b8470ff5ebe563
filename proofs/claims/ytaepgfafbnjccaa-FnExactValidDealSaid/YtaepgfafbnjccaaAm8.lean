/- What an operation does to abstract memory, and that the machine does what carries it. For every program. No condition beyond each theorem's own. -/
import Derived.Test.YtaepgfafbnjccaaAm7
import Derived.Laws.MakeOwn
set_option linter.unusedSimpArgs false
set_option linter.unusedVariables false
namespace Go.Proofs.Ytaepgfafbnjccaa.Am
open Go Go.RowKit
/-- append(s, x): the old row's name is given up, a new one takes its place. -/
def aappend (P : Program) (H : AH) (t : TypeId) (s x : Value) : Option (Value × AH) :=
  match P.underlying t with
  | some (.slice el) => match P.info? el with
    | some i => match acells H x i.size with
      | some (m, ys) => if zeroOk P el = true ∧ 0 < i.size ∧ ys.all Value.oneCell' = true then (match s with
        | .slice none 0 0 => if m = 0 then some (s, H) else if m ≤ 9223372036854775807 ∧ m * i.bytes ≤ 140737488355328 then some (.slice (some ⟨H.n, 0, some i.size⟩) m m, H.push ⟨el, true, ys⟩) else none
        | .slice (some ⟨id, k, some es⟩) n c => if m = 0 then some (s, H) else (match H.m id with
          | some b => if b.rw = true ∧ b.ty = el ∧ es = i.size ∧ k + n * i.size ≤ b.cells.length ∧ n + m ≤ 9223372036854775807 ∧ (n + m) * i.bytes ≤ 140737488355328 then some (.slice (some ⟨H.n, 0, some i.size⟩) (n + m) (n + m), (H.kill id).push ⟨el, true, (b.cells.drop k).take (n * i.size) ++ ys⟩) else none
          | none => none)
        | _ => none) else none
      | none => none
    | none => none
  | _ => none
/-- copy(d, s). -/
def acopy (P : Program) (H : AH) (t : TypeId) (d s : Value) : Option (Value × AH) :=
  match P.underlying t with
  | some (.slice el) => match P.info? el with
    | some i => match d, s with
      | .slice (some ⟨id, k, some es⟩) n _, .slice A m c => (match acells H (.slice A (Nat.min m n) c) i.size with
        | some (_, ys) => (match H.m id with
          | some b => if b.rw = true ∧ es = i.size ∧ k + ys.length ≤ b.cells.length ∧ ys.length = Nat.min m n * i.size ∧ ys.all Value.oneCell' = true then some (.int .i64 (Nat.min m n : Nat), H.set id ⟨b.ty, b.rw, splice b.cells k ys⟩) else none
          | none => none)
        | none => none)
      | _, _ => none
    | none => none
  | _ => none
def aclear (P : Program) (H : AH) (t : TypeId) (x : Value) : Option (Value × AH) :=
  match P.underlying t with
  | some (.slice el) => match P.info? el with
    | some i => match i.zero with
      | some z => match x with
        | .slice none _ _ => some (.tuple #[], H)
        | .slice (some ⟨id, k, some es⟩) n _ => if n = 0 then some (.tuple #[], H) else (match H.m id with
          | some b => if zeroOk P el = true ∧ b.rw = true ∧ es = i.size ∧ z.cells.size = i.size ∧ k + n * i.size ≤ b.cells.length ∧ (zarr z (n * z.cells.size)).all Value.oneCell' = true then some (.tuple #[], H.set id ⟨b.ty, b.rw, splice b.cells k (zarr z (n * z.cells.size)).toList⟩) else none
          | none => none)
        | _ => none
      | none => none
    | none => none
  | _ => none
def amake (P : Program) (H : AH) (t : TypeId) (l c : Value) : Option (Value × AH) :=
  match P.underlying t, l, c with
  | some (.slice el), .int _ n, .int _ m => match P.info? el with
    | some i => match i.zero with
      | some z => if zeroOk P el = true ∧ n = m ∧ 0 ≤ n ∧ n ≤ 9223372036854775807 ∧ i.bytes * n ≤ 281474976710656 then some (.slice (some ⟨H.n, 0, some i.size⟩) n.toNat n.toNat, H.push ⟨el, true, (zarr z (n.toNat * i.size)).toList⟩) else none
      | none => none
    | none => none
  | _, _, _ => none
def alit (P : Program) (H : AH) (t : TypeId) (n : Nat) (parts : List (Nat × Value)) : Option (Value × AH) :=
  match P.underlying t with
  | some (.slice el) => match P.info? el with
    | some i => match i.zero with
      | some z => if zeroOk P el = true ∧ n * i.size ≤ 16777216 then (match Instr.fill (fun j => some (j * i.size, i.size)) (zarr z (n * i.size)) parts with
        | some cs => if cs.size = n * i.size then some (.slice (some ⟨H.n, 0, some i.size⟩) n n, H.push ⟨el, true, cs.toList⟩) else none
        | none => none) else none
      | none => none
    | none => none
  | _ => none
def aalloc (P : Program) (H : AH) (tag : Option Nat) (t : TypeId) : Option (Value × AH) :=
  match P.info? t with
  | some i => match i.zero with
    | some z => if zeroOk P t = true then some (.pointer (some ⟨H.n, 0, tag⟩), H.push ⟨t, true, z.cells.toList⟩) else none
    | none => none
  | none => none
/-- What an operation yields that reads or makes memory (a call of a function aside); the address of a new variable may bear a tag. -/
def hop (P : Program) (tag : Option Nat) (op : Op) (e : Env) (H : AH) : Option (Value × AH) :=
  match op with
  | .load t x => match ev e x with
    | .pointer (some ⟨id, k, sp⟩) => match aload P H t id k with
      | some v => some (v, H)
      | none => none
    | _ => none
  | .store t x y => match ev e x with
    | .pointer (some ⟨id, k, sp⟩) => match astore P H t id k (ev e y) with
      | some H' => some (undef, H')
      | none => none
    | _ => none
  | .box t x => some (.pointer (some ⟨H.n, 0, tag⟩), H.push ⟨t, true, (ev e x).cells.toList⟩)
  | .alloc t => aalloc P H tag t
  | .buildSlice t n parts => alit P H t n (parts.toList.map fun p => (p.1, ev e p.2))
  | .makeSlice t l c => amake P H t (ev e l) (ev e c)
  | .call { callee := .builtin .append, args := xs, argTypes := ts } => match xs.toList, ts.toList with
    | [s, x], [t, t'] => if t = t' then aappend P H t (ev e s) (ev e x) else none
    | _, _ => none
  | .call { callee := .builtin .copy, args := xs, argTypes := ts } => match xs.toList, ts.toList with
    | [d, s], [t, _] => acopy P H t (ev e d) (ev e s)
    | _, _ => none
  | .call { callee := .builtin .clear, args := xs, argTypes := ts } => match xs.toList, ts.toList with
    | [x], [t] => aclear P H t (ev e x)
    | _, _ => none
  | _ => none
section
variable {P : Program} {w0 w : World} {ρ : Ren} {H : AH}
theorem zeroOk_of {t : TypeId} {i : TypeInfo} {z : Value} (hz : zeroOk P t = true) (hi : P.info? t = some i) (hzz : i.zero = some z) : z.cells.all scal = true := by
  unfold zeroOk at hz
  simp only [hi, hzz, Bool.and_eq_true] at hz
  exact hz.1
theorem zeroOk_size {t : TypeId} {i : TypeInfo} {z : Value} (hz : zeroOk P t = true) (hi : P.info? t = some i) (hzz : i.zero = some z) : z.cells.size = i.size := by
  unfold zeroOk at hz
  simp only [hi, hzz, Bool.and_eq_true, beq_iff_eq] at hz
  exact hz.2
theorem alit_ok (h : WR w0 ρ H w) (hf : ρ H.n = none) {t : TypeId} {n : Nat} {ps qs : List (Nat × Value)} {v : Value} {H' : AH} (hp : Parts ρ ps qs) (hv : alit P H t n ps = some (v, H')) :
    ∃ ρ' c w', Step w0 ρ H w ρ' H' w' ∧ VR ρ' v c ∧ (Instr.buildSlice t n qs.toArray).run P w = .ok c w' := by
  unfold alit at hv
  split at hv
  · rename_i el hu
    split at hv
    · rename_i i hi
      split at hv
      · rename_i z hz
        split at hv
        · rename_i hcond
          obtain ⟨hzo, hbig⟩ := hcond
          split at hv
          · rename_i cs hfill
            split at hv
            · rename_i hsz
              cases hv
              obtain ⟨cs', hfill', hvr⟩ := fill_ok _ _ _ _ _ _ hp (VRs.refl_ (zarr_scal (zeroOk_of hzo hi hz) (n * i.size))) hfill
              obtain ⟨hl, hc⟩ := vrs_list hvr
              obtain ⟨ρ', hst, hn⟩ := new_ok h hf el hl hc w.drawn
              refine ⟨ρ', .slice (some ⟨w.heap.size, 0, none⟩) n n, w.alloc (.cells cs' el), hst, ?_, ?_⟩
              · have := VR.slc (ρ := ρ') H.n 0 i.size n n n _ hn (Nat.le_refl _) (Nat.le_refl _) (by simp [← hvr.1, hsz])
                simpa using this
              · have hb : ¬ (n * i.size > 2 ^ 24) := by omega
                by_cases h0 : n * i.size = 0
                · have e0 : (zarr z (n * i.size)) = #[] := by rw [h0]; simp [zarr]
                  rw [e0] at hfill'
                  have hb' : ¬ (16777216 < n * i.size) := by omega
                  have e1 : n = 0 ∨ i.size = 0 := Nat.mul_eq_zero.1 h0
                  have er : ∀ f : Nat → Value, Array.map f (Array.range 0) = #[] := fun f => by simp
                  simp [Instr.buildSlice, run_underlying hu, sizeOf, typeInfo, zeroValue, hi, hz, h0, e1, newRow, hb', er, hfill']
                · unfold zarr at hfill'
                  have hb' : ¬ (16777216 < n * i.size) := by omega
                  have e1 : ¬ (n = 0 ∨ i.size = 0) := fun h => h0 (Nat.mul_eq_zero.2 h)
                  simp [Instr.buildSlice, run_underlying hu, sizeOf, typeInfo, zeroValue, hi, hz, hb', e1, newRow, hfill']
                  exact fun hc => absurd hc h0
            · cases hv
          · cases hv
        · cases hv
      · cases hv
    · cases hv
  · cases hv
theorem amake_ok (h : WR w0 ρ H w) (hf : ρ H.n = none) {t : TypeId} {l c l' c' v : Value} {H' : AH} (hl : VR ρ l l') (hc : VR ρ c c') (hv : amake P H t l c = some (v, H')) :
    ∃ ρ' d w', Step w0 ρ H w ρ' H' w' ∧ VR ρ' v d ∧ (Instr.makeSlice t l' c').run P w = .ok d w' := by
  unfold amake at hv
  split at hv
  · rename_i el k n k' m hu
    obtain rfl := hl.int_
    obtain rfl := hc.int_
    split at hv
    · rename_i i hi
      split at hv
      · rename_i z hz
        split at hv
        · rename_i hcond
          obtain ⟨hzo, rfl, hn0, hn1, hb⟩ := hcond
          cases hv
          have hvr := VRs.refl_ (ρ := ρ) (zarr_scal (zeroOk_of hzo hi hz) (n.toNat * i.size))
          obtain ⟨hl, hcc⟩ := vrs_list hvr
          obtain ⟨ρ', hst, hn⟩ := new_ok h hf el hl hcc w.drawn
          refine ⟨ρ', _, _, hst, ?_, run_make w t el i z hu hi hz k k' n n hn0 (Int.le_refl _) hb hn1⟩
          have := VR.slc (ρ := ρ') H.n 0 i.size n.toNat n.toNat n.toNat _ hn (Nat.le_refl _) (Nat.le_refl _) (by simp [zarr])
          simpa using this
        · cases hv
      · cases hv
    · cases hv
  · cases hv
theorem acells_ok (h : WR w0 ρ H w) {x x' : Value} {size m : Nat} {ys : List Value} (hx : VR ρ x x') (hv : acells H x size = some (m, ys)) :
    ∃ ds : List Value, ys.length = m * size ∧ ds.length = m * size ∧ (∀ (j : Nat) u, ys[j]? = some u → ∃ d, ds[j]? = some d ∧ VR ρ u d) ∧
      ∃ A c, x' = .slice A m c ∧ (A = none → m = 0) ∧ ∀ a, A = some a → ∀ (j : Nat) d, ds[j]? = some d → w.cell? (a.add j) = some d := by
  unfold acells at hv
  split at hv
  · cases hv
    obtain ⟨a', c', rfl, hn, _⟩ := hx.slice_
    exact ⟨[], by simp, by simp, fun j u hu => by simp at hu, a', c', rfl, fun _ => rfl, fun a ha j d hd => by simp at hd⟩
  · rename_i id k es n c
    split at hv
    · rename_i he
      subst he
      split at hv
      · rename_i b hm
        split at hv
        · rename_i hk
          cases hv
          cases hx with
          | sc v h => simp [scal] at h
          | slc id k es n c c' l hl hn hc hs =>
            obtain ⟨ds, hdl, hcell, hvr⟩ := h.run hm hl hk
            exact ⟨ds, by simp; omega, hdl, hvr, _, c', rfl, fun h => (by cases h), fun a ha j d hd => by cases ha; exact hcell j d hd⟩
        · cases hv
      · cases hv
    · cases hv
  · cases hv
    obtain ⟨a', c', rfl, hn, _⟩ := hx.slice_
    exact ⟨[], by simp, by simp, fun j u hu => by simp at hu, a', c', rfl, fun _ => rfl, fun a ha j d hd => by simp at hd⟩
  · cases hv
theorem firstCells_ok {A : Option Addr} {m c size : Nat} {ds : List Value} (hl : ds.length = m * size) (hn : A = none → m = 0) (hc : ∀ a, A = some a → ∀ (j : Nat) d, ds[j]? = some d → w.cell? (a.add j) = some d) :
    (Builtin.firstCells size m (.slice A m c)).run P w = .ok ds.toArray w := by
  cases A with
  | none =>
    have := hn rfl
    subst this
    have : ds = [] := List.eq_nil_of_length_eq_zero (by simpa using hl)
    subst this
    simp [Builtin.firstCells]
  | some a => exact run_firstCells_some w size m a m c ds hl (hc a rfl)
theorem aappend_ok (h : WR w0 ρ H w) {t ty : TypeId} {s x s' x' v : Value} {H' : AH} (hf0 : Free ρ H.n H'.n) (hs : VR ρ s s') (hx : VR ρ x x') (hv : aappend P H t s x = some (v, H')) :
    ∃ ρ' d w', Step w0 ρ H w ρ' H' w' ∧ VR ρ' v d ∧ (Builtin.append_ #[t, t] ty #[s', x']).run P w = .ok d w' := by
  unfold aappend at hv
  split at hv
  · rename_i el hu
    split at hv
    · rename_i i hi
      split at hv
      · rename_i m ys hys
        split at hv
        · rename_i hcond
          obtain ⟨hzo, hsz, hone⟩ := hcond
          obtain ⟨z, hz⟩ : ∃ z, i.zero = some z := by
            unfold zeroOk at hzo
            cases hzz : i.zero with
            | none => simp [hi, hzz] at hzo
            | some z => exact ⟨z, rfl⟩
          obtain ⟨ds, hyl, hdl, hyd, A, c, rfl, hAn, hAc⟩ := acells_ok h hx hys
          have hdone := all_one (hyl.trans hdl.symm) hyd (fun u hu => List.all_eq_true.1 hone u hu)
          -- nothing is appended
          have zero : m = 0 → ∀ B n C, s' = .slice B n C → n ≤ C → (Builtin.append_ #[t, t] ty #[s', .slice A m c]).run P w = .ok s' w := by
            intro hm B n C hsv hnC
            subst hm
            subst hsv
            have hd0 : ds = [] := List.eq_nil_of_length_eq_zero (by simpa using hdl)
            have hfc := firstCells_ok (P := P) (w := w) (c := c) hdl hAn hAc
            subst hd0
            cases B with
            | none => simp [Builtin.append_, run_underlying hu, sizeOf, typeInfo, hi, Builtin.lenOf, hnC, hfc, storeCells]
            | some a => simp [Builtin.append_, run_underlying hu, sizeOf, typeInfo, hi, Builtin.lenOf, hnC, hfc, storeCells]
          -- a new row
          have fresh : ρ H.n = none → ∀ (B : Option Addr) (n C : Nat) (os xs : List Value) (H1 : AH), s' = .slice B n C → (B = none → n = 0) → C < n + m → n + m ≤ 9223372036854775807 → (n + m) * i.bytes ≤ 140737488355328 → os.length = n * i.size → xs.length = n * i.size → (∀ a, B = some a → ∀ (j : Nat) d, os[j]? = some d → w.cell? (a.add j) = some d) → (∀ (j : Nat) u, xs[j]? = some u → ∃ d, os[j]? = some d ∧ VR ρ u d) →
              H1.n = H.n → Step w0 ρ H w ρ H1 w →
              ∃ ρ' d w', Step w0 ρ H w ρ' (H1.push ⟨el, true, xs ++ ys⟩) w' ∧ VR ρ' (.slice (some ⟨H.n, 0, some i.size⟩) (n + m) (n + m)) d ∧ (Builtin.append_ #[t, t] ty #[s', .slice A m c]).run P w = .ok d w' := by
            intro hf B n C os xs H1 hsv hBn hlt h63 hby hol hxl hoc hxo hHn hst1
            subst hsv
            have hge := grownCap_ge w (n + m) C el
            have ha : ∀ W : World, W.heap = w.heap → (Builtin.firstCells i.size m (.slice A m c)).run P W = .ok ds.toArray W := fun W hW => firstCells_ok hdl hAn (fun a ha j d hd => by have := hAc a ha j d hd; simpa [World.cell?, hW] using this)
            have ho : ∀ W : World, W.heap = w.heap → (Builtin.firstCells i.size n (.slice B n C)).run P W = .ok os.toArray W := fun W hW => firstCells_ok hol hBn (fun a ha j d hd => by have := hoc a ha j d hd; simpa [World.cell?, hW] using this)
            have hrun : (Builtin.append_ #[t, t] ty #[.slice B n C, .slice A m c]).run P w = .ok (.slice (some ⟨w.heap.size, 0, none⟩) (n + m) (grownCap w (n + m) C el)) (w.drew.alloc (.cells (os.toArray ++ ds.toArray ++ Builtin.zeroCells z.cells (grownCap w (n + m) C el - (n + m))) el)) := by
              have hn : ¬ (n + m ≤ C) := by omega
              have h63' : ¬ (9223372036854775807 < ((n : Int) + (m : Int))) := by omega
              have h48' : ¬ (281474976710656 < Builtin.nextslicecap (n + m) C * i.bytes) := by have := growslice_fits (bytes := i.bytes) hlt hby; omega
              simp [Builtin.append_, run_underlying hu, sizeOf, typeInfo, zeroValue, hi, hz, Builtin.lenOf, hn, h63', h48', Question.forced, ha w.drew rfl, ho w.drew rfl, newRow, grownCap]
              congr 2
              apply Array.ext'
              simp [List.append_assoc]
            have hcl : ∀ (j : Nat) u, (xs ++ ys)[j]? = some u → ∃ d, (os.toArray ++ ds.toArray ++ Builtin.zeroCells z.cells (grownCap w (n + m) C el - (n + m)))[j]? = some d ∧ VR ρ u d := by
              intro j u hj
              have hjl : j < (xs ++ ys).length := by
                rcases Nat.lt_or_ge j (xs ++ ys).length with h | h
                · exact h
                · rw [List.getElem?_eq_none h] at hj; cases hj
              have e : (os.toArray ++ ds.toArray ++ Builtin.zeroCells z.cells (grownCap w (n + m) C el - (n + m)))[j]? = (os ++ ds)[j]? := by
                rw [Array.getElem?_append_left (by simp at hjl ⊢; omega)]
                simp
              rw [e]
              rcases Nat.lt_or_ge j xs.length with hx | hx
              · rw [List.getElem?_append_left hx] at hj
                rw [List.getElem?_append_left (by omega)]
                exact hxo j u hj
              · rw [List.getElem?_append_right hx] at hj
                rw [List.getElem?_append_right (by omega)]
                obtain ⟨d, hd, hvd⟩ := hyd _ u hj
                exact ⟨d, by rw [hol, ← hxl]; exact hd, hvd⟩
            have hf1 : ρ H1.n = none := by rw [hHn]; exact hf
            have hst2 := Step.alloc (w := w) hst1.wr hf1 ⟨el, true, xs ++ ys⟩ rfl _ hcl (w.drawn + 1)
            refine ⟨_, _, _, hst1.trans hst2, ?_, hrun⟩
            rw [hHn]
            have := VR.slc (ρ := ρ.upd H.n ⟨w.heap.size, 0, (os.toArray ++ ds.toArray ++ Builtin.zeroCells z.cells (grownCap w (n + m) C el - (n + m))).size⟩) H.n 0 i.size (n + m) (n + m) (grownCap w (n + m) C el) _ (by simp [Ren.upd]; rfl) (Nat.le_refl _) hge ?_
            · simpa using this
            · have hzs := zeroOk_size hzo hi hz
              have e : (os.toArray ++ ds.toArray ++ Builtin.zeroCells z.cells (grownCap w (n + m) C el - (n + m))).size = grownCap w (n + m) C el * i.size := by
                simp only [Array.size_append, List.size_toArray, size_zeroCells, hzs, hol, hdl, ← Nat.add_mul]
                congr 1
                omega
              have e2 : os.length + ds.length + (Builtin.zeroCells z.cells (grownCap w (n + m) C el - (n + m))).size = grownCap w (n + m) C el * i.size := by
                rw [← e]; simp
              simp only [e2]
              omega
          split at hv
          · split at hv
            · rename_i hm
              cases hv
              have := scal_eq rfl hs
              exact ⟨ρ, _, w, Step.refl h, hs, zero hm _ _ _ this (Nat.le_refl _)⟩
            · rename_i hm
              split at hv
              · rename_i hb
                cases hv
                have hf : ρ H.n = none := hf0 H.n (Nat.le_refl _) (by simp [AH.push])
                have hsv := scal_eq rfl hs
                obtain ⟨ρ', d, w', hst, hvr, hrun⟩ := fresh hf none 0 0 [] [] H hsv (fun _ => rfl) (by omega) (by omega) (by simpa using hb.2) (by simp) (by simp) (fun a ha => by cases ha) (fun j u hj => by simp at hj) rfl (Step.refl h)
                exact ⟨ρ', d, w', by simpa using hst, by simpa using hvr, hrun⟩
              · cases hv
          · rename_i id k es n cc
            split at hv
            · rename_i hm
              cases hv
              obtain ⟨a', c', hc', _, hle⟩ := hs.slice_
              cases hs with
              | sc v h => simp [scal] at h
              | slc id k es n c c' l hl hn hcc hss => exact ⟨ρ, _, w, Step.refl h, .slc _ _ _ _ _ _ _ hl hn hcc hss, zero hm _ _ _ rfl (by omega)⟩
            · rename_i hm
              split at hv
              · rename_i b hbm
                split at hv
                · rename_i hcond
                  obtain ⟨hrw, hty, hes, hk, h63, hby⟩ := hcond
                  subst hes
                  cases hv
                  have hf : ρ H.n = none := hf0 H.n (Nat.le_refl _) (by simp [AH.push, AH.kill])
                  cases hs with
                  | sc v h => simp [scal] at h
                  | slc id k es n c c' l hl hn hcc hss =>
                    obtain ⟨os, hosl, hocell, hovr⟩ := h.run hbm hl hk
                    have hxl : ((b.cells.drop k).take (n * i.size)).length = n * i.size := by simp; omega
                    by_cases hroom : n + m ≤ c'
                    · obtain ⟨hbase, cs, hcs, hcsz, hcv⟩ := h.own id b l (h.id_lt hbm) hbm hl hrw
                      have hfit : l.off + k + n * i.size + ds.length ≤ cs.size := by
                        rw [hdl, hcsz]
                        have : (n + m) * i.size ≤ c' * i.size := Nat.mul_le_mul_right _ hroom
                        rw [Nat.add_mul] at this
                        omega
                      have hst := run_storeCells_at P l.blk (l.off + k + n * i.size) b.ty ds 0 cs w hcs (by omega) hdone
                      rw [Nat.add_zero] at hst
                      have hfc := firstCells_ok (P := P) (w := w) (c := c) hdl hAn hAc
                      refine ⟨_, .slice (some ⟨l.blk, l.off + k, none⟩) (n + m) c', _, Step.take h hf hbm hrw hl (l.off + k) ⟨el, true, (b.cells.drop k).take (n * i.size) ++ ys⟩ rfl hty.symm (cs.toList.take (l.off + k + n * i.size) ++ ds ++ cs.toList.drop (l.off + k + n * i.size + ds.length)).toArray ?_ ?_ (SetRow.of w l.blk cs _ b.ty _ hcs), ?_, ?_⟩
                      · simp; omega
                      · intro j u hj
                        rw [List.getElem?_toArray]
                        have e := splice_get cs.toList (l.off + k + n * i.size) ds (by simp; omega) (l.off + k + j)
                        unfold splice at e
                        rw [e]
                        by_cases h1 : j < n * i.size
                        · rw [if_pos (by omega)]
                          rw [List.getElem?_append_left (by omega), List.getElem?_take, if_pos h1, List.getElem?_drop] at hj
                          obtain ⟨d, hd, hvd⟩ := hcv _ u hj
                          exact ⟨d, by rw [Array.getElem?_toList, Nat.add_assoc]; exact hd, hvd⟩
                        · rw [if_neg (by omega)]
                          rw [List.getElem?_append_right (by omega), hxl] at hj
                          obtain ⟨d, hd, hvd⟩ := hyd _ u hj
                          have hjd : j - n * i.size < ds.length := (List.getElem?_eq_some_iff.1 hd).1
                          rw [if_pos (by omega)]
                          exact ⟨d, by rw [show l.off + k + j - (l.off + k + n * i.size) = j - n * i.size by omega]; exact hd, hvd⟩
                      · have := VR.slc (ρ := ρ.upd H.n ⟨l.blk, l.off + k, l.size⟩) H.n 0 i.size (n + m) (n + m) c' _ (by simp [Ren.upd]; rfl) (Nat.le_refl _) hroom (by simp; omega)
                        simpa using this
                      · simp [Builtin.append_, run_underlying hu, sizeOf, typeInfo, hi, Builtin.lenOf, hroom, hfc, Am.add_at, hst]
                    · obtain ⟨ρ', d, w', hst, hvr, hrun⟩ := fresh hf _ n c' os ((b.cells.drop k).take (n * i.size)) (H.kill id) rfl (fun h => by cases h) (by omega) h63 hby hosl hxl (fun a ha => by cases ha; exact hocell) hovr rfl (Step.kill h id)
                      exact ⟨ρ', d, w', hst, hvr, hrun⟩
                · cases hv
              · cases hv
          · cases hv
        · cases hv
      · cases hv
    · cases hv
  · cases hv
end
end Go.Proofs.Ytaepgfafbnjccaa.Am
