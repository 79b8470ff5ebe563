/- Abstract memory: blocks named by numbers, what stands in them, and how a world carries them. For every program. No condition beyond each theorem's own. -/
import Derived.Below
import Derived.Laws.Sem
import Derived.Orders
import Derived.Deep.Draws
namespace Go.Proofs.Ytaepgfafbnjccaa.Am
open Go Go.RowKit

/-- Where an abstract block lies: the block, the offset of its begin, the size of the whole. A slice's abstract address bears in its third place how many cells an element has. -/
structure Loc where
  blk : Nat
  off : Nat
  size : Nat
abbrev Ren := Nat → Option Loc
/-- A value that leads to no memory. -/
def scal : Value → Bool
  | .bool _ | .int _ _ | .string _ | .pointer none | .slice none _ _ | .nilFunc | .nilIface => true
  | _ => false
/-- The abstract value v is carried by the value c. -/
inductive VR (ρ : Ren) : Value → Value → Prop
  | sc (v : Value) (h : scal v = true) : VR ρ v v
  | ptr (id k : Nat) (sp : Option Nat) (l : Loc) (h : ρ id = some l) : VR ρ (.pointer (some ⟨id, k, sp⟩)) (.pointer (some ⟨l.blk, l.off + k, none⟩))
  | slc (id k es n c c' : Nat) (l : Loc) (h : ρ id = some l) (hn : n ≤ c) (hc : c ≤ c') (hs : l.off + k + c' * es ≤ l.size) : VR ρ (.slice (some ⟨id, k, some es⟩) n c) (.slice (some ⟨l.blk, l.off + k, none⟩) n c')
  | sl0 (id k : Nat) (a : Addr) (c' : Nat) : VR ρ (.slice (some ⟨id, k, none⟩) 0 0) (.slice (some a) 0 c')
  | func (fn : Fn) (a a' b b' : Array Value) (ha : a.size = a'.size) (hb : b.size = b'.size) (h : ∀ i : Nat, i < a.size → VR ρ (a.getD i undef) (a'.getD i undef)) (k : ∀ i : Nat, i < b.size → VR ρ (b.getD i undef) (b'.getD i undef)) : VR ρ (.func fn a b) (.func fn a' b')
  | agg (a a' : Array Value) (ha : a.size = a'.size) (h : ∀ i : Nat, i < a.size → VR ρ (a.getD i undef) (a'.getD i undef)) : VR ρ (.agg a) (.agg a')
  | tup (a a' : Array Value) (ha : a.size = a'.size) (h : ∀ i : Nat, i < a.size → VR ρ (a.getD i undef) (a'.getD i undef)) : VR ρ (.tuple a) (.tuple a')
  | iface (t : TypeId) (v v' : Value) (h : VR ρ v v') : VR ρ (.iface t v) (.iface t v')
/-- Arrays, value by value. -/
def VRs (ρ : Ren) (a a' : Array Value) : Prop := a.size = a'.size ∧ ∀ i : Nat, i < a.size → VR ρ (a.getD i undef) (a'.getD i undef)
theorem VR.undef (ρ : Ren) : VR ρ undef undef := .tup #[] #[] rfl (fun _ h => by simp at h)
def Le (ρ ρ' : Ren) : Prop := ∀ id l, ρ id = some l → ρ' id = some l
theorem VR.mono {ρ ρ' : Ren} (hl : Le ρ ρ') {v c : Value} (h : VR ρ v c) : VR ρ' v c := by
  induction h with
  | sc v h => exact .sc v h
  | ptr id k sp l h => exact .ptr id k sp l (hl _ _ h)
  | slc id k es n c c' l h hn hc hs => exact .slc id k es n c c' l (hl _ _ h) hn hc hs
  | sl0 id k a c' => exact .sl0 id k a c'
  | func fn a a' b b' ha hb h k ih ik => exact .func fn a a' b b' ha hb ih ik
  | agg a a' ha h ih => exact .agg a a' ha ih
  | tup a a' ha h ih => exact .tup a a' ha ih
  | iface t v v' h ih => exact .iface t v v' ih
theorem VRs.mono {ρ ρ' : Ren} (hl : Le ρ ρ') {a a' : Array Value} (h : VRs ρ a a') : VRs ρ' a a' := ⟨h.1, fun i hi => (h.2 i hi).mono hl⟩
theorem VRs.get {ρ : Ren} {a a' : Array Value} (h : VRs ρ a a') (i : Nat) : VR ρ (a.getD i Go.undef) (a'.getD i Go.undef) := by
  by_cases hi : i < a.size
  · exact h.2 i hi
  · have h1 : a.getD i Go.undef = Go.undef := by simp [hi]
    have h2 : a'.getD i Go.undef = Go.undef := by have := h.1; simp; rw [Array.getElem?_eq_none (by omega)]; rfl
    rw [h1, h2]
    exact .undef ρ
theorem scal_eq {ρ : Ren} {v c : Value} (hs : scal v = true) (h : VR ρ v c) : c = v := by
  cases h <;> first | rfl | (simp [scal] at hs)
/-- One cell. -/
theorem VR.oneCell {ρ : Ren} {v c : Value} (h : VR ρ v c) : c.oneCell' = v.oneCell' := by
  cases h <;> rfl
theorem VR.cells {ρ : Ren} {v c : Value} (h : VR ρ v c) : VRs ρ v.cells c.cells := by
  have one : ∀ {u d : Value}, VR ρ u d → VRs ρ #[u] #[d] := fun {u d} h => ⟨rfl, fun i hi => by
    have : i = 0 := by simp at hi; omega
    subst this
    exact h⟩
  cases h with
  | agg a a' ha h => exact ⟨ha, h⟩
  | sc v h =>
    have : v.cells = #[v] := by cases v <;> first | rfl | simp [scal] at h
    rw [this]
    exact one (.sc v h)
  | ptr id k sp l h => exact one (.ptr id k sp l h)
  | slc id k es n c c' l h hn hc hs => exact one (.slc id k es n c c' l h hn hc hs)
  | sl0 id k a c' => exact one (.sl0 id k a c')
  | func fn a a' b b' ha hb h k => exact one (.func fn a a' b b' ha hb h k)
  | tup a a' ha h => exact one (.tup a a' ha h)
  | iface t v v' h => exact one (.iface t v v' h)

/-- An abstract block: its elements' type, whether it is the call's own, its cells (those that are spoken of). -/
structure Blk where
  ty : Nat
  rw : Bool
  cells : List Value
/-- Abstract memory: how many blocks have been named, and what stands in those that are alive. -/
structure AH where
  n : Nat
  m : Nat → Option Blk
/-- The world w carries the abstract memory H by ρ, since w0. -/
structure WR (w0 : World) (ρ : Ren) (H : AH) (w : World) : Prop where
  below : Below w0.heap.size w0 w
  own : ∀ id b l, id < H.n → H.m id = some b → ρ id = some l → b.rw = true → w0.heap.size ≤ l.blk ∧ ∃ cs : Array Value, w.heap[l.blk]? = some (.cells cs b.ty (0, 0)) ∧ cs.size = l.size ∧ ∀ (i : Nat) v, b.cells[i]? = some v → ∃ c, cs[l.off + i]? = some c ∧ VR ρ v c
  came : ∀ id b l, id < H.n → H.m id = some b → ρ id = some l → b.rw = false → l.blk < w0.heap.size ∧ ∀ (i : Nat) v, b.cells[i]? = some v → ∃ c, w0.cell? ⟨l.blk, l.off + i, none⟩ = some c ∧ VR ρ v c
  inj : ∀ id id' b b' l l', id < H.n → id' < H.n → H.m id = some b → H.m id' = some b' → ρ id = some l → ρ id' = some l' → b.rw = true → b'.rw = true → l.blk = l'.blk → id = id'
  lt : ∀ id l, ρ id = some l → l.blk < w.heap.size
  fin : ∀ id, H.n ≤ id → H.m id = none
/-- From (ρ, H, w) to (ρ', H', w'): what is new is named from H.n on; of what was there only blocks of the call's own may have changed. -/
structure Step (w0 : World) (ρ : Ren) (H : AH) (w : World) (ρ' : Ren) (H' : AH) (w' : World) : Prop where
  wr : WR w0 ρ' H' w'
  nle : H.n ≤ H'.n
  size : w.heap.size ≤ w'.heap.size
  ext : ∀ id, id < H.n ∨ H'.n ≤ id → ρ' id = ρ id
  keep : ∀ b, b < w.heap.size → (∀ id bl l, id < H.n → H.m id = some bl → bl.rw = true → ρ id = some l → l.blk ≠ b) → w'.heap[b]? = w.heap[b]?
  res : ∀ id b', id < H.n → H'.m id = some b' → ∃ b, H.m id = some b ∧ b.rw = b'.rw
  new : ∀ id b l, H.n ≤ id → id < H'.n → H'.m id = some b → b.rw = true → ρ' id = some l → w.heap.size ≤ l.blk ∨ ∃ id0 b0 l0, id0 < H.n ∧ H.m id0 = some b0 ∧ b0.rw = true ∧ ρ id0 = some l0 ∧ l0.blk = l.blk ∧ H'.m id0 = none
def Free (ρ : Ren) (lo hi : Nat) : Prop := ∀ id, lo ≤ id → id < hi → ρ id = none
theorem Step.le {w0 : World} {ρ ρ' : Ren} {H H' : AH} {w w' : World} (h : Step w0 ρ H w ρ' H' w') (hf : Free ρ H.n H'.n) : Le ρ ρ' := by
  intro id l hl
  by_cases hc : id < H.n ∨ H'.n ≤ id
  · rw [h.ext id hc]; exact hl
  · have := hf id (by omega) (by omega)
    rw [this] at hl
    cases hl
theorem Step.refl {w0 : World} {ρ : Ren} {H : AH} {w : World} (h : WR w0 ρ H w) : Step w0 ρ H w ρ H w :=
  ⟨h, Nat.le_refl _, Nat.le_refl _, fun _ _ => rfl, fun _ _ _ => rfl, fun _ b _ h => ⟨b, h, rfl⟩, fun _ _ _ h1 h2 => by omega⟩
theorem Step.trans {w0 : World} {ρ ρ1 ρ2 : Ren} {H H1 H2 : AH} {w w1 w2 : World} (h : Step w0 ρ H w ρ1 H1 w1) (k : Step w0 ρ1 H1 w1 ρ2 H2 w2) : Step w0 ρ H w ρ2 H2 w2 := by
  have hsz := h.size
  have hn := h.nle
  have kn := k.nle
  refine ⟨k.wr, Nat.le_trans h.nle k.nle, Nat.le_trans h.size k.size, ?_, ?_, ?_, ?_⟩
  · intro id hid
    rcases hid with hid | hid
    · rw [k.ext id (.inl (by omega)), h.ext id (.inl hid)]
    · rw [k.ext id (.inr hid), h.ext id (.inr (by omega))]
  · intro b hb hno
    rw [k.keep b (by omega) ?_, h.keep b hb hno]
    intro id bl l hid hm hrw hl
    by_cases hi : id < H.n
    · obtain ⟨b0, hb0, hr⟩ := h.res id bl hi hm
      exact hno id b0 l hi hb0 (hr.trans hrw) (by rw [← h.ext id (.inl hi)]; exact hl)
    · rcases h.new id bl l (by omega) hid hm hrw hl with hge | ⟨id0, b0, l0, hi0, hm0, hr0, hl0, he, _⟩
      · omega
      · rw [← he]; exact hno id0 b0 l0 hi0 hm0 hr0 hl0
  · intro id b' hid hm
    obtain ⟨b1, hb1, hr1⟩ := k.res id b' (by omega) hm
    obtain ⟨b0, hb0, hr0⟩ := h.res id b1 hid hb1
    exact ⟨b0, hb0, hr0.trans hr1⟩
  · intro id b l hlo hhi hm hrw hl
    by_cases hi : id < H1.n
    · obtain ⟨b1, hb1, hr1⟩ := k.res id b hi hm
      have hl1 : ρ1 id = some l := by rw [← k.ext id (.inl hi)]; exact hl
      rcases h.new id b1 l hlo hi hb1 (hr1.trans hrw) hl1 with hge | ⟨id0, b0, l0, hi0, hm0, hr0, hl0, he, hd⟩
      · exact .inl hge
      · refine .inr ⟨id0, b0, l0, hi0, hm0, hr0, hl0, he, ?_⟩
        cases hk : H2.m id0 with
        | none => rfl
        | some b2 =>
          obtain ⟨b3, hb3, _⟩ := k.res id0 b2 (by omega) hk
          rw [hd] at hb3
          cases hb3
    · rcases k.new id b l (by omega) hhi hm hrw hl with hge | ⟨id0, b0, l0, hi0, hm0, hr0, hl0, he, hd⟩
      · exact .inl (by omega)
      · by_cases hi00 : id0 < H.n
        · obtain ⟨b00, hb00, hr00⟩ := h.res id0 b0 hi00 hm0
          exact .inr ⟨id0, b00, l0, hi00, hb00, hr00.trans hr0, by rw [← h.ext id0 (.inl hi00)]; exact hl0, he, hd⟩
        · rcases h.new id0 b0 l0 (by omega) hi0 hm0 hr0 hl0 with hge | ⟨id1, b1, l1, hi1, hm1, hr1, hl1, he1, hd1⟩
          · exact .inl (by omega)
          · refine .inr ⟨id1, b1, l1, hi1, hm1, hr1, hl1, he1.trans he, ?_⟩
            cases hk : H2.m id1 with
            | none => rfl
            | some b2 =>
              obtain ⟨b3, hb3, _⟩ := k.res id1 b2 (by omega) hk
              rw [hd1] at hb3
              cases hb3
theorem WR.id_lt {w0 : World} {ρ : Ren} {H : AH} {w : World} (h : WR w0 ρ H w) {id : Nat} {b : Blk} (hm : H.m id = some b) : id < H.n := by
  rcases Nat.lt_or_ge id H.n with hi | hi
  · exact hi
  · rw [h.fin id hi] at hm; cases hm
/-- A cell of a live block. -/
theorem WR.cell {w0 : World} {ρ : Ren} {H : AH} {w : World} (h : WR w0 ρ H w) {id : Nat} {b : Blk} {l : Loc} (hid : id < H.n) (hm : H.m id = some b) (hl : ρ id = some l) {i : Nat} {v : Value} (hi : b.cells[i]? = some v) :
    ∃ c, w.cell? ⟨l.blk, l.off + i, none⟩ = some c ∧ VR ρ v c := by
  cases hr : b.rw with
  | true =>
    obtain ⟨_, cs, hh, _, hc⟩ := h.own id b l hid hm hl hr
    obtain ⟨c, hc1, hv⟩ := hc i v hi
    refine ⟨c, ?_, hv⟩
    simp [World.cell?, hh, hc1]
  | false =>
    obtain ⟨hlt, hc⟩ := h.came id b l hid hm hl hr
    obtain ⟨c, hc1, hv⟩ := hc i v hi
    exact ⟨c, by rw [h.below.cell (p := ⟨l.blk, l.off + i, none⟩) hlt]; exact hc1, hv⟩
/-- Fewer names: what is spoken of less is still carried. -/
theorem WR.less {w0 : World} {ρ : Ren} {H H' : AH} {w : World} (h : WR w0 ρ H' w) (hn : H.n ≤ H'.n) (he : ∀ id, id < H.n → H'.m id = H.m id) (hfin : ∀ id, H.n ≤ id → H.m id = none) : WR w0 ρ H w where
  below := h.below
  own := fun id b l hid hm => h.own id b l (by omega) (by rw [he id hid]; exact hm)
  came := fun id b l hid hm => h.came id b l (by omega) (by rw [he id hid]; exact hm)
  inj := fun id id' b b' l l' hid hid' hm hm' => h.inj id id' b b' l l' (by omega) (by omega) (by rw [he id hid]; exact hm) (by rw [he id' hid']; exact hm')
  lt := h.lt
  fin := hfin
theorem WR.drawn {w0 : World} {ρ : Ren} {H : AH} {w : World} (h : WR w0 ρ H w) (d : Nat) : WR w0 ρ H { w with drawn := d } :=
  ⟨⟨h.below.os, h.below.tape, h.below.output, h.below.size, h.below.block⟩, h.own, h.came, h.inj, h.lt, h.fin⟩
end Go.Proofs.Ytaepgfafbnjccaa.Am
