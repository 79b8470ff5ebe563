/- A step of abstract memory beside what has been done ahead of it, out of order. For every program. No condition beyond each theorem's own. -/
import Derived.Test.YtaepgfafbnjccaaAm10
set_option linter.unusedSimpArgs false
set_option linter.unusedVariables false
namespace Go.Proofs.Ytaepgfafbnjccaa.Am
open Go Go.RowKit
theorem Ext.refl (H : AH) : Ext H H := ⟨Nat.le_refl _, fun _ _ => rfl⟩
theorem Ext.trans {H H1 H2 : AH} (h : Ext H H1) (k : Ext H1 H2) : Ext H H2 := ⟨Nat.le_trans h.1 k.1, fun id hid => by rw [k.2 id (by have := h.1; omega), h.2 id hid]⟩
/-- What a region has done so far, since it began. -/
structure GS (ρ0 : Ren) (H0 : AH) (wi : World) (N : Nat) (ρ : Ren) (H : AH) (w : World) : Prop where
  ext : ∀ id, id < H0.n ∨ N ≤ id → ρ id = ρ0 id
  size : wi.heap.size ≤ w.heap.size
  keep : ∀ b, b < wi.heap.size → (∀ id bl l, id < H0.n → H0.m id = some bl → bl.rw = true → ρ0 id = some l → l.blk ≠ b) → w.heap[b]? = wi.heap[b]?
  res : ∀ id b', id < H0.n → H.m id = some b' → ∃ b, H0.m id = some b ∧ b.rw = b'.rw
  new : ∀ id b l, H0.n ≤ id → H.m id = some b → b.rw = true → ρ id = some l → wi.heap.size ≤ l.blk ∨ ∃ id0 b0 l0, id0 < H0.n ∧ H0.m id0 = some b0 ∧ b0.rw = true ∧ ρ0 id0 = some l0 ∧ l0.blk = l.blk ∧ H.m id0 = none
section
variable {w0 w w' wi : World} {ρ ρ' ρ0 : Ren} {H0 Hi Hi1 Hm Hm' : AH} {N : Nat}
theorem WR.lift (h : WR w0 ρ Hm w) (s : Step w0 ρ Hi w ρ' Hi1 w') (hle : Le ρ ρ') (e1 : Ext Hi Hm) (e2 : Ext Hi1 Hm') (hfin : ∀ id, Hm'.n ≤ id → Hm'.m id = none)
    (hii : ∀ id b l, Hi1.n ≤ id → ρ' id = some l → Hm'.m id = some b → Hm.m id = some b) : WR w0 ρ' Hm' w' := by
  have sn := s.nle
  have id_lt : ∀ {id b}, Hm'.m id = some b → id < Hm'.n := fun {id b} hb => by
    rcases Nat.lt_or_ge id Hm'.n with hi | hi
    · exact hi
    · rw [hfin id hi] at hb; cases hb
  have low : ∀ {id b}, id < Hi1.n → Hm'.m id = some b → Hi1.m id = some b := fun {id b} hid hb => by rw [← e2.2 id hid]; exact hb
  have up : ∀ {id b}, id < Hi.n → Hi.m id = some b → Hm.m id = some b := fun {id b} hid hb => by rw [e1.2 id hid]; exact hb
  have high : ∀ {id l}, Hi1.n ≤ id → ρ' id = some l → ρ id = some l := fun {id l} hid hl => by rw [← s.ext id (.inr hid)]; exact hl
  refine ⟨s.wr.below, ?_, ?_, ?_, s.wr.lt, hfin⟩
  · intro id b l hid hb hl hr
    by_cases hi : id < Hi1.n
    · exact s.wr.own id b l hi (low hi hb) hl hr
    · have hbm := hii id b l (by omega) hl hb
      have hl0 := high (by omega) hl
      obtain ⟨h1, cs, h2, h3, h4⟩ := h.own id b l (h.id_lt hbm) hbm hl0 hr
      refine ⟨h1, cs, ?_, h3, fun i v hi => ?_⟩
      · rw [s.keep _ (h.lt _ _ hl0) ?_]
        · exact h2
        · intro id' b' l' hid' hb' hr' hl' he
          have := h.inj id' id b' b l' l (h.id_lt (up hid' hb')) (h.id_lt hbm) (up hid' hb') hbm hl' hl0 hr' hr he
          omega
      · obtain ⟨c, hc, hv⟩ := h4 i v hi
        exact ⟨c, hc, hv.mono hle⟩
  · intro id b l hid hb hl hr
    by_cases hi : id < Hi1.n
    · exact s.wr.came id b l hi (low hi hb) hl hr
    · have hbm := hii id b l (by omega) hl hb
      obtain ⟨h1, h2⟩ := h.came id b l (h.id_lt hbm) hbm (high (by omega) hl) hr
      refine ⟨h1, fun i v hi => ?_⟩
      obtain ⟨c, hc, hv⟩ := h2 i v hi
      exact ⟨c, hc, hv.mono hle⟩
  · have mixed : ∀ {id1 id2 b1 b2 l1 l2}, id1 < Hi1.n → Hi1.n ≤ id2 → Hm'.m id1 = some b1 → Hm'.m id2 = some b2 → ρ' id1 = some l1 → ρ' id2 = some l2 → b1.rw = true → b2.rw = true → l1.blk = l2.blk → False := by
      intro id1 id2 b1 b2 l1 l2 h1 h2 hb1 hb2 hl1 hl2 hr1 hr2 he
      have hb2m := hii id2 b2 l2 h2 hl2 hb2
      have hl2' := high h2 hl2
      by_cases hi : id1 < Hi.n
      · obtain ⟨b1', hb1', hr1'⟩ := s.res id1 b1 hi (low h1 hb1)
        have := h.inj id1 id2 b1' b2 l1 l2 (h.id_lt (up hi hb1')) (h.id_lt hb2m) (up hi hb1') hb2m (by rw [← s.ext id1 (.inl hi)]; exact hl1) hl2' (hr1'.trans hr1) hr2 he
        omega
      · rcases s.new id1 b1 l1 (by omega) h1 (low h1 hb1) hr1 hl1 with hge | ⟨id0, b0, l0, hi0, hm0, hr0, hl0, he0, _⟩
        · have := h.lt _ _ hl2'
          omega
        · have := h.inj id0 id2 b0 b2 l0 l2 (h.id_lt (up hi0 hm0)) (h.id_lt hb2m) (up hi0 hm0) hb2m hl0 hl2' hr0 hr2 (he0.trans he)
          omega
    intro id1 id2 b1 b2 l1 l2 h1 h2 hb1 hb2 hl1 hl2 hr1 hr2 he
    by_cases hi1 : id1 < Hi1.n
    · by_cases hi2 : id2 < Hi1.n
      · exact s.wr.inj id1 id2 b1 b2 l1 l2 hi1 hi2 (low hi1 hb1) (low hi2 hb2) hl1 hl2 hr1 hr2 he
      · exact (mixed hi1 (by omega) hb1 hb2 hl1 hl2 hr1 hr2 he).elim
    · by_cases hi2 : id2 < Hi1.n
      · exact (mixed hi2 (by omega) hb2 hb1 hl2 hl1 hr2 hr1 he.symm).elim
      · have hb1m := hii id1 b1 l1 (by omega) hl1 hb1
        have hb2m := hii id2 b2 l2 (by omega) hl2 hb2
        exact h.inj id1 id2 b1 b2 l1 l2 (h.id_lt hb1m) (h.id_lt hb2m) hb1m hb2m (high (by omega) hl1) (high (by omega) hl2) hr1 hr2 he
theorem GS.step (g : GS ρ0 H0 wi N ρ Hm w) (s : Step w0 ρ Hi w ρ' Hi1 w') (e1 : Ext Hi Hm) (e2 : Ext Hi1 Hm') (h0 : H0.n ≤ Hi.n) (hN : Hi1.n ≤ N)
    (hii : ∀ id b l, Hi1.n ≤ id → ρ' id = some l → Hm'.m id = some b → Hm.m id = some b) : GS ρ0 H0 wi N ρ' Hm' w' := by
  have sn := s.nle
  have ss := s.size
  have gs := g.size
  have low : ∀ {id b}, id < Hi1.n → Hm'.m id = some b → Hi1.m id = some b := fun {id b} hid hb => by rw [← e2.2 id hid]; exact hb
  have up : ∀ {id b}, id < Hi.n → Hi.m id = some b → Hm.m id = some b := fun {id b} hid hb => by rw [e1.2 id hid]; exact hb
  have dead : ∀ {id}, id < H0.n → Hm.m id = none → Hm'.m id = none := fun {id} hid hd => by
    cases hc : Hm'.m id with
    | none => rfl
    | some b =>
      obtain ⟨b0, hb0, _⟩ := s.res id b (by omega) (low (by omega) hc)
      rw [up (by omega) hb0] at hd
      cases hd
  refine ⟨?_, by omega, ?_, ?_, ?_⟩
  · intro id hid
    rw [s.ext id (by rcases hid with h | h; exact .inl (by omega); exact .inr (by omega)), g.ext id hid]
  · intro b hb hno
    rw [s.keep b (by omega) ?_, g.keep b hb hno]
    intro id bl l hid hm hr hl
    by_cases hi : id < H0.n
    · obtain ⟨b0, hb0, hr0⟩ := g.res id bl hi (up hid hm)
      exact hno id b0 l hi hb0 (hr0.trans hr) (by rw [← g.ext id (.inl hi)]; exact hl)
    · rcases g.new id bl l (by omega) (up hid hm) hr hl with hge | ⟨id0, b0, l0, hi0, hm0, hr0, hl0, he, _⟩
      · omega
      · rw [← he]; exact hno id0 b0 l0 hi0 hm0 hr0 hl0
  · intro id b' hid hb
    obtain ⟨b1, hb1, hr1⟩ := s.res id b' (by omega) (low (by omega) hb)
    obtain ⟨b0, hb0, hr0⟩ := g.res id b1 hid (up (by omega) hb1)
    exact ⟨b0, hb0, hr0.trans hr1⟩
  · intro id b l hid hb hr hl
    by_cases h1 : id < Hi.n
    · obtain ⟨b1, hb1, hr1⟩ := s.res id b h1 (low (by omega) hb)
      rcases g.new id b1 l hid (up h1 hb1) (hr1.trans hr) (by rw [← s.ext id (.inl h1)]; exact hl) with hge | ⟨id0, b0, l0, hi0, hm0, hr0, hl0, he, hd⟩
      · exact .inl hge
      · exact .inr ⟨id0, b0, l0, hi0, hm0, hr0, hl0, he, dead hi0 hd⟩
    · by_cases h2 : id < Hi1.n
      · rcases s.new id b l (by omega) h2 (low h2 hb) hr hl with hge | ⟨id0, b0, l0, hi0, hm0, hr0, hl0, he, hd⟩
        · exact .inl (by omega)
        · by_cases hi00 : id0 < H0.n
          · obtain ⟨b00, hb00, hr00⟩ := g.res id0 b0 hi00 (up hi0 hm0)
            exact .inr ⟨id0, b00, l0, hi00, hb00, hr00.trans hr0, by rw [← g.ext id0 (.inl hi00)]; exact hl0, he, by rw [e2.2 id0 (by omega)]; exact hd⟩
          · rcases g.new id0 b0 l0 (by omega) (up hi0 hm0) hr0 hl0 with hge | ⟨id1, b1, l1, hi1, hm1, hr1, hl1, he1, hd1⟩
            · exact .inl (by omega)
            · exact .inr ⟨id1, b1, l1, hi1, hm1, hr1, hl1, he1.trans he, dead hi1 hd1⟩
      · have hbm := hii id b l (by omega) hl hb
        rcases g.new id b l hid hbm hr (by rw [← s.ext id (.inr (by omega))]; exact hl) with hge | ⟨id0, b0, l0, hi0, hm0, hr0, hl0, he, hd⟩
        · exact .inl hge
        · exact .inr ⟨id0, b0, l0, hi0, hm0, hr0, hl0, he, dead hi0 hd⟩
end
/-! Operations look at their operands alone. -/
section
variable {P : Program} {call : CallS} {dr : Bool} {H H' : AH} {v : Value}
theorem aargs_congr {e e' : Env} {xs : Array Operand} (h : ∀ x ∈ xs, ev e x = ev e' x) : aargs e xs = aargs e' xs := by
  unfold aargs
  rw [List.map_congr_left (fun x hx => h x (by simpa using hx))]
theorem pairs_congr {e e' : Env} (ps : Array (Nat × Operand)) (h : ∀ x ∈ (ps.toList.map (·.2)).toArray, ev e x = ev e' x) : (ps.toList.map fun p => (p.1, ev e p.2)) = (ps.toList.map fun p => (p.1, ev e' p.2)) :=
  List.map_congr_left fun p hm => by
    have := h p.2 (by simp only [List.mem_toArray, List.mem_map]; exact ⟨p, hm, rfl⟩)
    rw [this]
theorem pop_congr {op : Op} {e e' : Env} (h : ∀ x ∈ op.operands, ev e x = ev e' x) : pop P op e = pop P op e' := by
  cases op <;> simp only [Op.operands] at h <;> try rfl
  case slice t x lo hi mx =>
    cases mx <;> try rfl
    cases lo <;> cases hi <;> simp_all [pop]
  case makeFunc fn first cap =>
    simp only [pop]
    rw [aargs_congr (xs := first) fun x hx => h x (by simp [hx]), aargs_congr (xs := cap) fun x hx => h x (by simp [hx])]
  case build t ps =>
    simp only [pop]
    rw [pairs_congr ps h]
  case call c =>
    obtain ⟨callee, args, ts⟩ := c
    cases callee <;> try rfl
    case builtin b =>
      have ha : aargs e args = aargs e' args := aargs_congr fun x hx => h x (by simp [Call.operands, hx])
      cases b <;> first | rfl | (simp only [pop, ha])
  all_goals (simp_all [pop])
theorem hop_congr {tag : Option Nat} {op : Op} {e e' : Env} (h : ∀ x ∈ op.operands, ev e x = ev e' x) : hop P tag op e H = hop P tag op e' H := by
  cases op <;> simp only [Op.operands] at h <;> try rfl
  case buildSlice t n ps =>
    simp only [hop]
    rw [pairs_congr ps h]
  case call c =>
    obtain ⟨callee, args, ts⟩ := c
    cases callee <;> try rfl
    case builtin b =>
      have ha : ∀ x ∈ args.toList, ev e x = ev e' x := fun x hx => h x (by simp [Call.operands, Array.mem_toList_iff.1 hx])
      cases b <;> try rfl
      all_goals
        simp only [hop]
        split <;> first | rfl | (rename_i h1 h2; rw [h1] at ha; simp_all)
  all_goals (simp_all [hop])
theorem evOp_congr {op : Op} {e e' : Env} (h : ∀ x ∈ op.operands, ev e x = ev e' x) (hv : evOp P call dr op e H v H') : evOp P call dr op e' H v H' := by
  unfold evOp at hv ⊢
  split at hv
  · rename_i f xs ts
    simp only [Op.operands, Call.operands] at h
    rw [← h f (by simp), ← aargs_congr (xs := xs) (e := e) (e' := e') fun x hx => h x (by simp [hx])]
    exact hv
  · rename_i hne
    split at hv
    · rw [← pop_congr h]
      exact hv
    · obtain ⟨tag, hv⟩ := hv
      exact ⟨tag, by rw [← hop_congr h]; exact hv⟩
end
end Go.Proofs.Ytaepgfafbnjccaa.Am
