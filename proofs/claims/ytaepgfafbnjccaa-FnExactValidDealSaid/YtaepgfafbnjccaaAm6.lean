/- Steps of abstract memory: a new block, a block written, a block taken over by an append. For every program. No condition beyond each theorem's own. -/
import Derived.Test.YtaepgfafbnjccaaAm5
import Derived.Laws.CopyRow
import Derived.Laws.AppendOwn
namespace Go.Proofs.Ytaepgfafbnjccaa.Am
open Go Go.RowKit
def Ren.upd (ρ : Ren) (id : Nat) (l : Loc) : Ren := fun j => if j = id then some l else ρ j
def AH.push (H : AH) (b : Blk) : AH := ⟨H.n + 1, fun j => if j = H.n then some b else H.m j⟩
def AH.set (H : AH) (id : Nat) (b : Blk) : AH := ⟨H.n, fun j => if j = id then some b else H.m j⟩
def AH.kill (H : AH) (id : Nat) : AH := ⟨H.n, fun j => if j = id then none else H.m j⟩
section
variable {w0 w w' : World} {ρ : Ren} {H : AH}
theorem Ren.le_upd {id : Nat} {l : Loc} (h : ρ id = none) : Le ρ (ρ.upd id l) := fun j l' hj => by
  unfold Ren.upd
  split
  · rename_i e; subst e; rw [h] at hj; cases hj
  · exact hj
/-- A world that makes one more block. -/
theorem Step.alloc (h : WR w0 ρ H w) (hf : ρ H.n = none) (b : Blk) (hrw : b.rw = true) (cs : Array Value) (hc : ∀ (i : Nat) v, b.cells[i]? = some v → ∃ c, cs[i]? = some c ∧ VR ρ v c) (d : Nat) :
    Step w0 ρ H w (ρ.upd H.n ⟨w.heap.size, 0, cs.size⟩) (H.push b) ({ w with drawn := d }.alloc (.cells cs b.ty)) := by
  have hle := Ren.le_upd (ρ := ρ) (l := ⟨w.heap.size, 0, cs.size⟩) hf
  have hsz : ({ w with drawn := d }.alloc (.cells cs b.ty)).heap.size = w.heap.size + 1 := by simp
  have old : ∀ k, k < w.heap.size → ({ w with drawn := d }.alloc (.cells cs b.ty)).heap[k]? = w.heap[k]? := fun k hk => Below.heap_alloc { w with drawn := d } _ _ hk
  have new_ : ({ w with drawn := d }.alloc (.cells cs b.ty)).heap[w.heap.size]? = some (.cells cs b.ty (0, 0)) := by
    show (w.heap.push _)[w.heap.size]? = _
    rw [Array.getElem?_push, if_pos rfl]
  have ne : ∀ {id : Nat} {l : Loc}, id ≠ H.n → (ρ.upd H.n ⟨w.heap.size, 0, cs.size⟩) id = some l → ρ id = some l := fun {id l} hn hl => by
    simpa [Ren.upd, hn] using hl
  have eqn : ∀ {l : Loc}, (ρ.upd H.n ⟨w.heap.size, 0, cs.size⟩) H.n = some l → l = ⟨w.heap.size, 0, cs.size⟩ := fun {l} hl => by
    simpa [Ren.upd, eq_comm] using hl
  have hm' : ∀ {id : Nat} {b' : Blk}, id ≠ H.n → (H.push b).m id = some b' → H.m id = some b' := fun {id b'} hn hb => by
    simpa [AH.push, hn] using hb
  have hmn : ∀ {b' : Blk}, (H.push b).m H.n = some b' → b' = b := fun {b'} hb => by simpa [AH.push, eq_comm] using hb
  refine ⟨⟨?_, ?_, ?_, ?_, ?_, ?_⟩, by simp [AH.push], by omega, ?_, ?_, ?_, ?_⟩
  · have hb0 := h.below
    exact ⟨hb0.os, hb0.tape, hb0.output, by have := hb0.size; omega, fun k hk => (old k (by have := hb0.size; omega)).trans (hb0.block k hk)⟩
  · intro id b' l hid hb hl hr
    by_cases hn : id = H.n
    · subst hn
      obtain rfl := hmn hb
      obtain rfl := eqn hl
      refine ⟨h.below.size, cs, new_, rfl, fun i v hi => ?_⟩
      obtain ⟨c, hc1, hv⟩ := hc i v hi
      exact ⟨c, by simpa using hc1, hv.mono hle⟩
    · have hid' : id < H.n := by simp [AH.push] at hid; omega
      obtain ⟨h1, cs0, h2, h3, h4⟩ := h.own id b' l hid' (hm' hn hb) (ne hn hl) hr
      refine ⟨h1, cs0, by rw [old _ (h.lt _ _ (ne hn hl))]; exact h2, h3, fun i v hi => ?_⟩
      obtain ⟨c, hc1, hv⟩ := h4 i v hi
      exact ⟨c, hc1, hv.mono hle⟩
  · intro id b' l hid hb hl hr
    by_cases hn : id = H.n
    · subst hn
      obtain rfl := hmn hb
      rw [hrw] at hr
      cases hr
    · have hid' : id < H.n := by simp [AH.push] at hid; omega
      obtain ⟨h1, h2⟩ := h.came id b' l hid' (hm' hn hb) (ne hn hl) hr
      refine ⟨h1, fun i v hi => ?_⟩
      obtain ⟨c, hc1, hv⟩ := h2 i v hi
      exact ⟨c, hc1, hv.mono hle⟩
  · intro id id' b1 b2 l1 l2 hid hid' hb1 hb2 hl1 hl2 hr1 hr2 he
    by_cases hn : id = H.n
    · subst hn
      by_cases hn' : id' = H.n
      · exact hn'.symm
      · obtain rfl := eqn hl1
        have := h.lt _ _ (ne hn' hl2)
        simp at he
        omega
    · by_cases hn' : id' = H.n
      · subst hn'
        obtain rfl := eqn hl2
        have := h.lt _ _ (ne hn hl1)
        simp at he
        omega
      · simp [AH.push] at hid hid'
        exact h.inj id id' b1 b2 l1 l2 (by omega) (by omega) (hm' hn hb1) (hm' hn' hb2) (ne hn hl1) (ne hn' hl2) hr1 hr2 he
  · intro id l hl
    by_cases hn : id = H.n
    · subst hn
      obtain rfl := eqn hl
      simp
    · have := h.lt _ _ (ne hn hl)
      omega
  · intro id hid
    simp [AH.push] at hid ⊢
    rw [if_neg (by omega)]
    exact h.fin id (by omega)
  · intro id hid
    simp [AH.push] at hid
    simp [Ren.upd]
    omega
  · intro k hk _
    exact old k hk
  · intro id b' hid hb
    exact ⟨b', hm' (by omega) hb, rfl⟩
  · intro id b' l h1 h2 _ _ hl
    simp [AH.push] at h2
    have : id = H.n := by omega
    subst this
    obtain rfl := eqn hl
    exact .inl (Nat.le_refl _)
/-- The world w' is w but for one block. -/
structure SetRow (w w' : World) (g : Nat) (o : Obj) : Prop where
  os : w'.os = w.os
  tape : w'.tape = w.tape
  output : w'.output = w.output
  size : w'.heap.size = w.heap.size
  at_ : w'.heap[g]? = some o
  other : ∀ k, k ≠ g → w'.heap[k]? = w.heap[k]?
theorem SetRow.of (w : World) (g : Nat) (cs cs' : Array Value) (t : TypeId) (f : Nat × Nat) (h : w.heap[g]? = some (.cells cs t f)) : SetRow w (w.setRow g cs') g (.cells cs' t f) :=
  ⟨rfl, rfl, rfl, by simp [World.setRow], setRow_heap w g cs cs' t f h, fun k hk => setRow_other w g k _ hk⟩
/-- A block of the call's own is written. -/
theorem Step.store (h : WR w0 ρ H w) {id : Nat} {b : Blk} {l : Loc} (hm : H.m id = some b) (hrw : b.rw = true) (hl : ρ id = some l) (cells : List Value) (cs : Array Value) (hs : cs.size = l.size)
    (hc : ∀ (i : Nat) v, cells[i]? = some v → ∃ c, cs[l.off + i]? = some c ∧ VR ρ v c) (hw : SetRow w w' l.blk (.cells cs b.ty (0, 0))) : Step w0 ρ H w ρ (H.set id { b with cells := cells }) w' := by
  have hid := h.id_lt hm
  obtain ⟨hbase, cs0, hcs0, hsz0, _⟩ := h.own id b l hid hm hl hrw
  have live : ∀ {id' : Nat} {b' : Blk}, (H.set id { b with cells := cells }).m id' = some b' → ∃ b0, H.m id' = some b0 ∧ b0.rw = b'.rw ∧ (id' ≠ id → b0 = b') ∧ (id' = id → b' = { b with cells := cells }) := fun {id' b'} hb => by
    by_cases e : id' = id
    · subst e
      simp [AH.set] at hb
      subst hb
      exact ⟨b, hm, rfl, fun h => absurd rfl h, fun _ => rfl⟩
    · simp [AH.set, e] at hb
      exact ⟨b', hb, rfl, fun _ => rfl, fun h => absurd h e⟩
  refine ⟨⟨?_, ?_, ?_, ?_, ?_, ?_⟩, Nat.le_refl _, Nat.le_of_eq hw.size.symm, fun _ _ => rfl, ?_, ?_, ?_⟩
  · have hb0 := h.below
    exact ⟨hw.os.trans hb0.os, hw.tape.trans hb0.tape, hw.output.trans hb0.output, by rw [hw.size]; exact hb0.size, fun k hk => (hw.other k (by omega)).trans (hb0.block k hk)⟩
  · intro id' b' l' hid' hb hl' hr
    obtain ⟨b0, hb0, hr0, hne, heq⟩ := live hb
    by_cases e : id' = id
    · obtain rfl := heq e
      subst e
      rw [hl] at hl'
      cases hl'
      exact ⟨hbase, cs, hw.at_, hs, hc⟩
    · obtain rfl := hne e
      obtain ⟨h1, cs1, h2, h3, h4⟩ := h.own id' b0 l' hid' hb0 hl' hr
      exact ⟨h1, cs1, by rw [hw.other _ (fun he => e (h.inj id' id b0 b l' l hid' hid hb0 hm hl' hl hr hrw he))]; exact h2, h3, h4⟩
  · intro id' b' l' hid' hb hl' hr
    obtain ⟨b0, hb0, hr0, hne, heq⟩ := live hb
    by_cases e : id' = id
    · obtain rfl := heq e
      rw [hrw] at hr
      cases hr
    · obtain rfl := hne e
      exact h.came id' b0 l' hid' hb0 hl' hr
  · intro id1 id2 b1 b2 l1 l2 h1 h2 hb1 hb2 hl1 hl2 hr1 hr2 he
    obtain ⟨c1, hc1, hr1', _⟩ := live hb1
    obtain ⟨c2, hc2, hr2', _⟩ := live hb2
    exact h.inj id1 id2 c1 c2 l1 l2 h1 h2 hc1 hc2 hl1 hl2 (hr1'.trans hr1) (hr2'.trans hr2) he
  · intro id' l' hl'
    rw [hw.size]
    exact h.lt _ _ hl'
  · intro id' hid'
    have hne : id' ≠ id := by simp [AH.set] at hid'; omega
    simp [AH.set, hne]
    exact h.fin id' hid'
  · intro k hk hno
    exact hw.other k (fun e => hno id b l hid hm hrw hl e.symm)
  · intro id' b' hid' hb
    obtain ⟨b0, hb0, hr0, _⟩ := live hb
    exact ⟨b0, hb0, hr0⟩
  · intro id' b' l' h1 h2
    simp [AH.set] at h2
    omega
/-- A block of the call's own is taken over by a new name, and written. -/
theorem Step.take (h : WR w0 ρ H w) (hf : ρ H.n = none) {id : Nat} {b : Blk} {l : Loc} (hm : H.m id = some b) (hrw : b.rw = true) (hl : ρ id = some l) (off : Nat) (b' : Blk) (hrw' : b'.rw = true) (hty : b'.ty = b.ty) (cs : Array Value) (hs : cs.size = l.size)
    (hc : ∀ (i : Nat) v, b'.cells[i]? = some v → ∃ c, cs[off + i]? = some c ∧ VR ρ v c) (hw : SetRow w w' l.blk (.cells cs b.ty (0, 0))) : Step w0 ρ H w (ρ.upd H.n ⟨l.blk, off, l.size⟩) ((H.kill id).push b') w' := by
  have hid := h.id_lt hm
  have hle := Ren.le_upd (ρ := ρ) (l := ⟨l.blk, off, l.size⟩) hf
  obtain ⟨hbase, cs0, hcs0, hsz0, _⟩ := h.own id b l hid hm hl hrw
  have ne : ∀ {id' : Nat} {l' : Loc}, id' ≠ H.n → (ρ.upd H.n ⟨l.blk, off, l.size⟩) id' = some l' → ρ id' = some l' := fun {id' l'} hn hl => by
    simpa [Ren.upd, hn] using hl
  have eqn : ∀ {l' : Loc}, (ρ.upd H.n ⟨l.blk, off, l.size⟩) H.n = some l' → l' = ⟨l.blk, off, l.size⟩ := fun {l'} hl => by
    simpa [Ren.upd, eq_comm] using hl
  have hm' : ∀ {id' : Nat} {b1 : Blk}, id' ≠ H.n → ((H.kill id).push b').m id' = some b1 → H.m id' = some b1 ∧ id' ≠ id := fun {id' b1} hn hb => by
    have e : (H.kill id).n = H.n := rfl
    simp [AH.push, e, hn, AH.kill] at hb
    exact ⟨hb.2, hb.1⟩
  have hmn : ∀ {b1 : Blk}, ((H.kill id).push b').m H.n = some b1 → b1 = b' := fun {b1} hb => by simpa [AH.push, AH.kill, eq_comm] using hb
  refine ⟨⟨?_, ?_, ?_, ?_, ?_, ?_⟩, by simp [AH.push, AH.kill], Nat.le_of_eq hw.size.symm, ?_, ?_, ?_, ?_⟩
  · have hb0 := h.below
    exact ⟨hw.os.trans hb0.os, hw.tape.trans hb0.tape, hw.output.trans hb0.output, by rw [hw.size]; exact hb0.size, fun k hk => (hw.other k (by omega)).trans (hb0.block k hk)⟩
  · intro id' b1 l' hid' hb hl' hr
    by_cases hn : id' = H.n
    · subst hn
      obtain rfl := hmn hb
      obtain rfl := eqn hl'
      refine ⟨hbase, cs, by rw [hty]; exact hw.at_, hs, fun i v hi => ?_⟩
      obtain ⟨c, hc1, hv⟩ := hc i v hi
      exact ⟨c, hc1, hv.mono hle⟩
    · obtain ⟨hb1, hne⟩ := hm' hn hb
      have hid1 : id' < H.n := h.id_lt hb1
      obtain ⟨h1, cs1, h2, h3, h4⟩ := h.own id' b1 l' hid1 hb1 (ne hn hl') hr
      refine ⟨h1, cs1, by rw [hw.other _ (fun he => hne (h.inj id' id b1 b l' l hid1 hid hb1 hm (ne hn hl') hl hr hrw he))]; exact h2, h3, fun i v hi => ?_⟩
      obtain ⟨c, hc1, hv⟩ := h4 i v hi
      exact ⟨c, hc1, hv.mono hle⟩
  · intro id' b1 l' hid' hb hl' hr
    by_cases hn : id' = H.n
    · subst hn
      obtain rfl := hmn hb
      rw [hrw'] at hr
      cases hr
    · obtain ⟨hb1, hne⟩ := hm' hn hb
      obtain ⟨h1, h2⟩ := h.came id' b1 l' (h.id_lt hb1) hb1 (ne hn hl') hr
      refine ⟨h1, fun i v hi => ?_⟩
      obtain ⟨c, hc1, hv⟩ := h2 i v hi
      exact ⟨c, hc1, hv.mono hle⟩
  · intro id1 id2 b1 b2 l1 l2 h1 h2 hb1 hb2 hl1 hl2 hr1 hr2 he
    by_cases hn : id1 = H.n
    · subst hn
      by_cases hn' : id2 = H.n
      · exact hn'.symm
      · obtain rfl := eqn hl1
        obtain ⟨hb2', hne⟩ := hm' hn' hb2
        exact absurd (h.inj id id2 b b2 l l2 hid (h.id_lt hb2') hm hb2' hl (ne hn' hl2) hrw hr2 he).symm hne
    · obtain ⟨hb1', hne⟩ := hm' hn hb1
      by_cases hn' : id2 = H.n
      · subst hn'
        obtain rfl := eqn hl2
        exact absurd (h.inj id id1 b b1 l l1 hid (h.id_lt hb1') hm hb1' hl (ne hn hl1) hrw hr1 he.symm).symm hne
      · obtain ⟨hb2', hne2⟩ := hm' hn' hb2
        exact h.inj id1 id2 b1 b2 l1 l2 (h.id_lt hb1') (h.id_lt hb2') hb1' hb2' (ne hn hl1) (ne hn' hl2) hr1 hr2 he
  · intro id' l' hl'
    rw [hw.size]
    by_cases hn : id' = H.n
    · subst hn
      obtain rfl := eqn hl'
      exact h.lt id l hl
    · exact h.lt _ _ (ne hn hl')
  · intro id' hid'
    have e : (H.kill id).n = H.n := rfl
    simp [AH.push, e] at hid'
    have hn : id' ≠ H.n := by omega
    have hn2 : id' ≠ id := by omega
    simp [AH.push, e, hn, AH.kill, hn2]
    exact h.fin id' (by omega)
  · intro id' hid'
    simp [AH.push, AH.kill] at hid'
    simp [Ren.upd]
    omega
  · intro k hk hno
    exact hw.other k (fun e => hno id b l hid hm hrw hl e.symm)
  · intro id' b1 hid' hb
    obtain ⟨hb1, _⟩ := hm' (by omega) hb
    exact ⟨b1, hb1, rfl⟩
  · intro id' b1 l' h1 h2 _ _ hl'
    simp [AH.push, AH.kill] at h2
    have : id' = H.n := by omega
    subst this
    obtain rfl := eqn hl'
    have e : (H.kill id).n = H.n := rfl
    have hne : id ≠ H.n := by omega
    exact .inr ⟨id, b, l, hid, hm, hrw, hl, rfl, by simp [AH.push, e, hne, AH.kill]⟩
/-- A name is given up. -/
theorem Step.kill (h : WR w0 ρ H w) (id : Nat) : Step w0 ρ H w ρ (H.kill id) w := by
  have hm' : ∀ {id' : Nat} {b1 : Blk}, (H.kill id).m id' = some b1 → H.m id' = some b1 := fun {id' b1} hb => by
    simp [AH.kill] at hb
    exact hb.2
  refine ⟨⟨h.below, ?_, ?_, ?_, h.lt, ?_⟩, Nat.le_refl _, Nat.le_refl _, fun _ _ => rfl, fun _ _ _ => rfl, ?_, ?_⟩
  · intro id' b1 l' hid' hb; exact h.own id' b1 l' hid' (hm' hb)
  · intro id' b1 l' hid' hb; exact h.came id' b1 l' hid' (hm' hb)
  · intro id1 id2 b1 b2 l1 l2 h1 h2 hb1 hb2; exact h.inj id1 id2 b1 b2 l1 l2 h1 h2 (hm' hb1) (hm' hb2)
  · intro id' hid'; simp [AH.kill]; intro _; exact h.fin id' hid'
  · intro id' b1 _ hb; exact ⟨b1, hm' hb, rfl⟩
  · intro id' b1 l' h1 h2; simp [AH.kill] at h2; omega
end
end Go.Proofs.Ytaepgfafbnjccaa.Am
