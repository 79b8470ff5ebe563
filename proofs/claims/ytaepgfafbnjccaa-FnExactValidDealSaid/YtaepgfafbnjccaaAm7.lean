/- Operations that read and make memory, on abstract memory: what they yield, and that the machine does what carries it. For every program. No condition beyond each theorem's own. -/
import Derived.Test.YtaepgfafbnjccaaAm6
set_option linter.unusedSimpArgs false
set_option linter.unusedVariables false
namespace Go.Proofs.Ytaepgfafbnjccaa.Am
open Go Go.RowKit
def zarr (z : Value) (m : Nat) : Array Value := (Array.range m).map (z.cells[· % z.cells.size]!)
def splice (l : List Value) (k : Nat) (ys : List Value) : List Value := l.take k ++ ys ++ l.drop (k + ys.length)
/-- What stands at a place, as a value of type t. -/
def aload (P : Program) (H : AH) (t : TypeId) (id k : Nat) : Option Value :=
  match H.m id with
  | some b => match P.underlying t with
    | some (.struct _) => match P.info? t with
      | some i => if k + i.size ≤ b.cells.length then some (.agg ((b.cells.drop k).take i.size).toArray) else none
      | none => none
    | some (.array _ _) => none
    | some _ => b.cells[k]?
    | none => none
  | none => none
def astore (P : Program) (H : AH) (t : TypeId) (id k : Nat) (v : Value) : Option AH :=
  match H.m id with
  | some b => match P.info? t with
    | some i => if b.rw = true ∧ v.cells.size = i.size ∧ k + i.size ≤ b.cells.length ∧ v.cells.all Value.oneCell' = true then some (H.set id ⟨b.ty, b.rw, splice b.cells k v.cells.toList⟩) else none
    | none => none
  | none => none
/-- The cells of m elements of a slice's value, out of its block. -/
def acells (H : AH) (x : Value) (size : Nat) : Option (Nat × List Value) :=
  match x with
  | .slice none 0 _ => some (0, [])
  | .slice (some ⟨id, k, some es⟩) m _ => if es = size then (match H.m id with
    | some b => if k + m * size ≤ b.cells.length then some (m, (b.cells.drop k).take (m * size)) else none
    | none => none) else none
  | .slice (some ⟨_, _, none⟩) 0 _ => some (0, [])
  | _ => none
section
variable {P : Program} {w0 w : World} {ρ : Ren} {H : AH}
def Did (P : Program) (w0 : World) (ρ : Ren) (H : AH) (w : World) (v : Value) (H' : AH) (r : Result Next) : Prop :=
  ∃ ρ' c w', Step w0 ρ H w ρ' H' w' ∧ VR ρ' v c ∧ (r = .ok (.value c) w' ∨ (c = undef ∧ r = .ok .skip w'))
theorem pick {p : Nat → Value → Prop} : ∀ n : Nat, (∀ j, j < n → ∃ c, p j c) → ∃ cs : List Value, cs.length = n ∧ ∀ (j : Nat) c, cs[j]? = some c → p j c
  | 0, _ => ⟨[], rfl, fun _ _ h => by simp at h⟩
  | n + 1, h => by
    obtain ⟨cs, hl, hp⟩ := pick n (fun j hj => h j (by omega))
    obtain ⟨c, hc⟩ := h n (by omega)
    refine ⟨cs ++ [c], by simp [hl], fun j d hd => ?_⟩
    rcases Nat.lt_or_ge j cs.length with hj | hj
    · rw [List.getElem?_append_left hj] at hd
      exact hp j d hd
    · rw [List.getElem?_append_right hj] at hd
      have hj2 : j - cs.length = 0 := by
        rcases Nat.eq_zero_or_pos (j - cs.length) with h0 | h0
        · exact h0
        · rw [List.getElem?_eq_none (by simp; omega)] at hd; cases hd
      rw [hj2] at hd
      simp at hd
      subst hd
      have : j = n := by omega
      subst this
      exact hc
theorem one_of {ρ : Ren} {v c : Value} (h : VR ρ v c) (h1 : v.oneCell' = true) : c.oneCell' = true := h.oneCell.trans h1
/-- A run of cells of a live block. -/
theorem WR.run (h : WR w0 ρ H w) {id : Nat} {b : Blk} {l : Loc} (hm : H.m id = some b) (hl : ρ id = some l) {k m : Nat} (hk : k + m ≤ b.cells.length) :
    ∃ cs : List Value, cs.length = m ∧ (∀ (j : Nat) c, cs[j]? = some c → w.cell? ((⟨l.blk, l.off + k, none⟩ : Addr).add j) = some c) ∧ ∀ (j : Nat) v, ((b.cells.drop k).take m)[j]? = some v → ∃ c, cs[j]? = some c ∧ VR ρ v c := by
  obtain ⟨cs, hcl, hp⟩ := pick (p := fun j c => w.cell? ((⟨l.blk, l.off + k, none⟩ : Addr).add j) = some c ∧ VR ρ (b.cells.getD (k + j) undef) c) m (fun j hj => by
    have hi : b.cells[k + j]? = some (b.cells.getD (k + j) undef) := by
      rw [List.getElem?_eq_getElem (by omega)]; simp [List.getD, List.getElem?_eq_getElem (show k + j < b.cells.length by omega)]
    obtain ⟨c, hc, hv⟩ := h.cell (h.id_lt hm) hm hl hi
    exact ⟨c, by rw [Am.add_at, Nat.add_assoc]; exact hc, hv⟩)
  refine ⟨cs, hcl, fun j c hc => (hp j c hc).1, fun j v hv => ?_⟩
  have hj : j < m := by
    rcases Nat.lt_or_ge j m with hj | hj
    · exact hj
    · rw [List.getElem?_eq_none (by simp; omega)] at hv; cases hv
  have hc : cs[j]? = some cs[j] := List.getElem?_eq_getElem (by omega)
  refine ⟨_, hc, ?_⟩
  have := (hp j _ hc).2
  rw [List.getElem?_take, if_pos hj, List.getElem?_drop] at hv
  rw [List.getD_eq_getElem?_getD, hv] at this
  exact this
theorem aload_ok (h : WR w0 ρ H w) {t : TypeId} {id k : Nat} {sp : Option Nat} {v c : Value} (hp : VR ρ (.pointer (some ⟨id, k, sp⟩)) c) (hv : aload P H t id k = some v) : ∃ d, VR ρ v d ∧ (Instr.loadAt t c).run P w = .ok d w := by
  obtain ⟨l, hl, rfl⟩ := hp.ptr_
  unfold aload at hv
  split at hv
  · rename_i b hm
    have one : ∀ {d : TypeDesc}, P.underlying t = some d → (∀ fs, d ≠ .struct fs) → (∀ n el, d ≠ .array n el) → b.cells[k]? = some v → ∃ d, VR ρ v d ∧ (Instr.loadAt t (.pointer (some ⟨l.blk, l.off + k, none⟩))).run P w = .ok d w := by
      intro d hu h1 h2 hi
      obtain ⟨c, hc, hvc⟩ := h.cell (h.id_lt hm) hm hl hi
      refine ⟨c, hvc, ?_⟩
      have hagg : (isAgg t).run P w = .ok false w := by
        cases d <;> first
          | (simp [isAgg, run_underlying hu]; done)
          | (exact absurd rfl (h1 _))
          | (exact absurd rfl (h2 _ _))
      simp [Instr.loadAt, Instr.sureAddr, loadVar, hagg, hc]
    split at hv
    · rename_i fs hu
      split at hv
      · rename_i i hi
        split at hv
        · rename_i hk
          cases hv
          obtain ⟨cs, hcl, hcell, hvr⟩ := h.run hm hl hk
          have hrun := run_loadCells_list (P := P) w ⟨l.blk, l.off + k, none⟩ cs hcell
          rw [hcl] at hrun
          refine ⟨.agg cs.toArray, ?_, ?_⟩
          · refine .agg _ _ (by simp [hcl]; omega) (fun j hj => ?_)
            have hj' : j < ((b.cells.drop k).take i.size).length := by simpa using hj
            obtain ⟨c, hc, hv⟩ := hvr j _ (List.getElem?_eq_getElem hj')
            have e1 : ((b.cells.drop k).take i.size).toArray.getD j undef = ((b.cells.drop k).take i.size)[j] := by
              rw [Array.getD_eq_getD_getElem?, List.getElem?_toArray, List.getElem?_eq_getElem hj']; rfl
            have e2 : cs.toArray.getD j undef = c := by
              rw [Array.getD_eq_getD_getElem?, List.getElem?_toArray, hc]; rfl
            rw [e1, e2]
            exact hv
          · simp [Instr.loadAt, Instr.sureAddr, loadVar, isAgg, run_underlying hu, sizeOf, typeInfo, hi, hrun]
        · cases hv
      · cases hv
    · cases hv
    · rename_i d h1 h2 hu
      exact one hu (fun fs e => h1 fs e) (fun n el e => h2 n el e) hv
    · cases hv
  · cases hv
theorem cellsR {v c : Value} (h : VR ρ v c) : v.cells.toList.length = c.cells.toList.length ∧ ∀ (j : Nat) (u : Value), v.cells.toList[j]? = some u → ∃ d, c.cells.toList[j]? = some d ∧ VR ρ u d := by
  have hc := h.cells
  refine ⟨by simp [hc.1], fun j u hu => ?_⟩
  rw [Array.getElem?_toList] at hu
  obtain ⟨d, hd, hv⟩ := hc.some_ hu
  exact ⟨d, by rw [Array.getElem?_toList]; exact hd, hv⟩
theorem all_one {l l' : List Value} (hl : l.length = l'.length) (h : ∀ (j : Nat) (u : Value), l[j]? = some u → ∃ d, l'[j]? = some d ∧ VR ρ u d) (h1 : ∀ u ∈ l, u.oneCell' = true) : ∀ d ∈ l', d.oneCell' = true := by
  intro d hd
  obtain ⟨j, hj, rfl⟩ := List.mem_iff_getElem.1 hd
  have hj' : j < l.length := by omega
  obtain ⟨c, hc, hv⟩ := h j _ (List.getElem?_eq_getElem hj')
  rw [List.getElem?_eq_getElem hj] at hc
  cases hc
  exact one_of hv (h1 _ (List.getElem_mem hj'))
theorem splice_get (l : List Value) (k : Nat) (ys : List Value) (hk : k + ys.length ≤ l.length) (j : Nat) : (splice l k ys)[j]? = if j < k then l[j]? else if j < k + ys.length then ys[j - k]? else l[j]? := by
  unfold splice
  have hl : (l.take k).length = k := by simp; omega
  rw [List.append_assoc]
  by_cases h1 : j < k
  · rw [if_pos h1, List.getElem?_append_left (by omega), List.getElem?_take, if_pos h1]
  · rw [if_neg h1, List.getElem?_append_right (by omega), hl]
    by_cases h2 : j < k + ys.length
    · rw [if_pos h2, List.getElem?_append_left (by omega)]
    · rw [if_neg h2, List.getElem?_append_right (by omega), List.getElem?_drop]
      congr 1
      omega
theorem splice_length (l : List Value) (k : Nat) (ys : List Value) (hk : k + ys.length ≤ l.length) : (splice l k ys).length = l.length := by
  unfold splice; simp; omega
/-- Cells are written into a block of the call's own. -/
theorem put_ok (h : WR w0 ρ H w) {id k : Nat} {b : Blk} {l : Loc} (hm : H.m id = some b) (hrw : b.rw = true) (hl : ρ id = some l) {ys ds : List Value} (hk : k + ys.length ≤ b.cells.length) (hlen : ys.length = ds.length)
    (hyd : ∀ (j : Nat) (u : Value), ys[j]? = some u → ∃ d, ds[j]? = some d ∧ VR ρ u d) (h1 : ∀ u ∈ ys, u.oneCell' = true) :
    ∃ w', (storeCells ⟨l.blk, l.off + k, none⟩ ds).run P w = .ok () w' ∧ Step w0 ρ H w ρ (H.set id ⟨b.ty, b.rw, splice b.cells k ys⟩) w' := by
  obtain ⟨hbase, cs, hcs, hsz, hcv⟩ := h.own id b l (h.id_lt hm) hm hl hrw
  have hbound : ys.length = 0 ∨ l.off + k + ys.length ≤ cs.size := by
    rcases Nat.eq_zero_or_pos ys.length with h0 | h0
    · exact .inl h0
    · refine .inr ?_
      have hi : k + ys.length - 1 < b.cells.length := by omega
      obtain ⟨c, hc, _⟩ := hcv _ _ (List.getElem?_eq_getElem hi)
      have := (Array.getElem?_eq_some_iff.1 hc).1
      omega
  rcases hbound with h0 | hb
  · have hy : ys = [] := List.eq_nil_of_length_eq_zero h0
    have hd : ds = [] := List.eq_nil_of_length_eq_zero (by omega)
    subst hy
    subst hd
    refine ⟨w, rfl, ?_⟩
    have e : splice b.cells k [] = b.cells := by simp [splice]
    rw [e]
    exact Step.store h hm hrw hl b.cells cs hsz hcv ⟨rfl, rfl, rfl, rfl, hcs, fun _ _ => rfl⟩
  · have hrun := run_storeCells_at P l.blk (l.off + k) b.ty ds 0 cs w hcs (by omega) (all_one hlen hyd h1)
    rw [Nat.add_zero] at hrun
    refine ⟨_, hrun, ?_⟩
    refine Step.store h hm hrw hl _ (cs.toList.take (l.off + k) ++ ds ++ cs.toList.drop (l.off + k + ds.length)).toArray ?_ ?_ (SetRow.of w l.blk cs _ b.ty _ hcs)
    · simp; omega
    · intro i v hv
      rw [List.getElem?_toArray]
      have e := splice_get cs.toList (l.off + k) ds (by simp; omega) (l.off + i)
      unfold splice at e
      rw [e]
      rw [splice_get _ _ _ hk] at hv
      by_cases h1 : i < k
      · rw [if_pos h1] at hv
        rw [if_pos (by omega)]
        obtain ⟨c, hc, hvc⟩ := hcv i v hv
        exact ⟨c, by rw [Array.getElem?_toList]; exact hc, hvc⟩
      · rw [if_neg h1] at hv
        rw [if_neg (by omega)]
        by_cases h2 : i < k + ys.length
        · rw [if_pos h2] at hv
          rw [if_pos (by omega)]
          obtain ⟨d, hd, hvd⟩ := hyd _ v hv
          exact ⟨d, by rw [show l.off + i - (l.off + k) = i - k by omega]; exact hd, hvd⟩
        · rw [if_neg h2] at hv
          rw [if_neg (by omega)]
          obtain ⟨c, hc, hvc⟩ := hcv i v hv
          exact ⟨c, by rw [Array.getElem?_toList]; exact hc, hvc⟩
theorem astore_ok (h : WR w0 ρ H w) {t : TypeId} {id k : Nat} {sp : Option Nat} {v c d : Value} {H' : AH} (hp : VR ρ (.pointer (some ⟨id, k, sp⟩)) c) (hv : VR ρ v d) (hs : astore P H t id k v = some H') : ∃ w', (Instr.storeAt t c d).run P w = .ok () w' ∧ Step w0 ρ H w ρ H' w' := by
  obtain ⟨l, hl, rfl⟩ := hp.ptr_
  unfold astore at hs
  split at hs
  · rename_i b hm
    split at hs
    · rename_i i hi
      split at hs
      · rename_i hcond
        obtain ⟨hrw, hsz, hk, h1⟩ := hcond
        cases hs
        obtain ⟨hlen, hyd⟩ := cellsR hv
        have hsz' : d.cells.size = i.size := by rw [← hv.cells.1]; exact hsz
        obtain ⟨w', hrun, hst⟩ := put_ok (P := P) h hm hrw hl (k := k) (ys := v.cells.toList) (ds := d.cells.toList) (by simp [hsz]; exact hk) hlen hyd (fun u hu => Array.all_eq_true_iff_forall_mem.1 h1 u (Array.mem_toList_iff.1 hu))
        refine ⟨w', ?_, hst⟩
        simp [Instr.storeAt, Instr.sureAddr, storeVar, sizeOf, typeInfo, hi, hsz', hrun]
      · cases hs
    · cases hs
  · cases hs
/-- A new block of cells. -/
theorem new_ok (h : WR w0 ρ H w) (hf : ρ H.n = none) (t : TypeId) {cells : List Value} {cs : Array Value} (hl : cells.length = cs.size) (hc : ∀ (i : Nat) v, cells[i]? = some v → ∃ c, cs[i]? = some c ∧ VR ρ v c) (d : Nat) :
    ∃ ρ', Step w0 ρ H w ρ' (H.push ⟨t, true, cells⟩) ({ w with drawn := d }.alloc (.cells cs t)) ∧ ρ' H.n = some ⟨w.heap.size, 0, cs.size⟩ := by
  refine ⟨_, Step.alloc h hf ⟨t, true, cells⟩ rfl cs hc d, by simp [Ren.upd]⟩
theorem vrs_list {a a' : Array Value} (h : VRs ρ a a') : a.toList.length = a'.size ∧ ∀ (i : Nat) v, a.toList[i]? = some v → ∃ c, a'[i]? = some c ∧ VR ρ v c := by
  refine ⟨by simp [h.1], fun i v hv => ?_⟩
  rw [Array.getElem?_toList] at hv
  exact h.some_ hv
theorem zarr_scal {z : Value} (hz : z.cells.all scal = true) (m : Nat) : (zarr z m).all scal = true := by
  rw [Array.all_eq_true]
  intro i hi
  simp only [zarr, Array.getElem_map, Array.getElem_range]
  by_cases hs : i % z.cells.size < z.cells.size
  · rw [getElem!_pos z.cells _ hs]
    exact Array.all_eq_true.1 hz _ hs
  · rw [getElem!_neg z.cells _ hs]
    rfl
end
end Go.Proofs.Ytaepgfafbnjccaa.Am
