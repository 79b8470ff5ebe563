/- Regions, code and functions on abstract memory; and that the machine does what carries them. For every program. No condition beyond each theorem's own. -/
import Derived.Test.YtaepgfafbnjccaaAm14
set_option linter.unusedSimpArgs false
set_option linter.unusedVariables false
namespace Go.Proofs.Ytaepgfafbnjccaa.Am
open Go Go.RowKit
section
variable {P : Program} {w0 wi : World} {call : CallS} {ops : Array Oper} {E : Nat → Env} {Hs : Nat → AH} {V : Nat → Value} {nt : Nat} {ρ0 : Ren} {df : List Deferred}
/-- How many operations have not been listed. -/
def left (ops : Array Oper) (listed : Array Bool) : Nat := ((List.range ops.size).filter fun i => !listed.getD i false).length
theorem filter_lt {p q : Nat → Bool} : ∀ (l : List Nat), (∀ i ∈ l, q i = true → p i = true) → ∀ i ∈ l, p i = true → q i = false → (l.filter q).length < (l.filter p).length
  | [], _, i, hi, _, _ => by simp at hi
  | x :: l, h, i, hi, hp, hq => by
    have hle : ∀ (l : List Nat), (∀ i ∈ l, q i = true → p i = true) → (l.filter q).length ≤ (l.filter p).length := by
      intro l
      induction l with
      | nil => intro _; simp
      | cons y l ih =>
        intro h
        have := ih (fun i hi => h i (by simp [hi]))
        simp only [List.filter_cons]
        by_cases hy : q y = true
        · rw [if_pos hy, if_pos (h y (by simp) hy)]; simp; exact this
        · rw [if_neg hy]; split <;> simp <;> omega
    simp only [List.filter_cons]
    rcases List.mem_cons.1 hi with rfl | hi'
    · rw [if_neg (by simp [hq]), if_pos hp]
      have := hle l (fun i hi => h i (by simp [hi]))
      simp; omega
    · have ih := filter_lt l (fun i hi => h i (by simp [hi])) i hi' hp hq
      by_cases hy : q x = true
      · rw [if_pos hy, if_pos (h x (by simp) hy)]; simp; exact ih
      · rw [if_neg hy]; split <;> simp <;> omega
theorem left_lt {listed : Array Bool} (hl : listed.size = ops.size) {i : Nat} (hi : i < ops.size) (hn : ¬ Dn listed i) : left ops (listed.setIfInBounds i true) < left ops listed := by
  unfold left
  refine filter_lt _ (fun j hj hq => ?_) i (by simpa using hi) ?_ ?_
  · simp only [Bool.not_eq_true'] at hq ⊢
    cases h : listed.getD j false with
    | false => rfl
    | true => have := (Dn.set (by omega)).2 (.inr h : j = i ∨ Dn listed j); unfold Dn at this; rw [hq] at this; cases this
  · unfold Dn at hn; simpa using hn
  · have := (Dn.set (i := i) (by omega)).2 (.inl rfl : i = i ∨ Dn listed i); unfold Dn at this; simp [this]
theorem ready_all {listed : Array Bool} (hl : listed.size = ops.size) (hr : rOk ops = true) (h : Region.ready .any ops listed = []) : ∀ i, i < ops.size → Dn listed i := by
  intro i
  induction i using Nat.strongRecOn with
  | _ i ih =>
    intro hi
    refine Classical.byContradiction fun hn => ?_
    obtain ⟨o, ho⟩ := Chain.get (ops := ops) i hi
    have : i ∈ Region.ready .any ops listed := by
      rw [mem_ready]
      refine ⟨?_, o, ho, fun e he hb => ?_⟩
      · unfold Dn at hn
        have hil : i < listed.size := by omega
        simpa [hil] using hn
      · exact ih e.on (rOk_edge hr ho he hb) (by have := rOk_edge hr ho he hb; omega)
    rw [h] at this
    cases this
theorem draw_any (c : Chain P call ops E Hs V) (hops : ops.all (oOk nt) = true) {Q : Exit → Act → World → Prop}
    (hK : ∀ ρ a w, Step w0 ρ0 (Hs 0) wi ρ (Hs ops.size) w → ER ρ (E ops.size) a nt → a.defers = df → Q .normal a w) :
    ∀ fuel listed a w ρ ED m, Inv P w0 wi ops E Hs V nt ρ0 df listed a w ρ ED m → left ops listed ≤ fuel → wpAny P .any ops Q fuel listed a w := by
  have fin : ∀ {listed a w ρ ED m}, Inv P w0 wi ops E Hs V nt ρ0 df listed a w ρ ED m → Region.ready .any ops listed = [] → Q .normal a w := by
    intro listed a w ρ ED m inv hr
    have hall := ready_all inv.lsz c.ok hr
    have hm : m = ops.size := by
      rcases Nat.lt_or_ge m ops.size with h | h
      · obtain ⟨o, ho⟩ := Chain.get (ops := ops) m h
        exact absurd (hall m h) (inv.at_m o ho).2
      · have := inv.m_le; omega
    subst hm
    refine hK ρ a w ⟨inv.wr, c.nle (Nat.zero_le _) (Nat.le_refl _), inv.gs.size, inv.gs.ext, inv.gs.keep, inv.gs.res, fun id b l h1 _ hb hr hl => inv.gs.new id b l h1 hb hr hl⟩ ?_ inv.df_
    refine ⟨inv.env.size, fun t ht => ?_⟩
    have e : ED t = E ops.size t := by
      have hs := Chain.slot c (t := t) ops.size (Nat.le_refl _)
      by_cases hex : ∃ (j : Nat) (x : Oper), ops[j]? = some x ∧ x.dst = some t
      · obtain ⟨j, x, hx, hd⟩ := hex
        have hj := Chain.lt hx
        rw [hs.1 j x hj hx hd]
        exact inv.done j x t (hall j hj) hx hd
      · rw [hs.2 (fun j x _ hx hd => hex ⟨j, x, hx, hd⟩)]
        exact inv.rest t (fun j x _ hx hd => hex ⟨j, x, hx, hd⟩)
    rw [← e]
    exact inv.env.at_ t ht
  intro fuel
  induction fuel with
  | zero =>
    intro listed a w ρ ED m inv hf
    have hr : Region.ready .any ops listed = [] := by
      refine List.eq_nil_iff_forall_not_mem.2 fun i hi => ?_
      rw [mem_ready] at hi
      obtain ⟨h0, o, ho, _⟩ := hi
      have hi := Chain.lt ho
      have hn : ¬ Dn listed i := by
        unfold Dn
        have hil : i < listed.size := by rw [inv.lsz]; exact hi
        simpa [hil] using h0
      have := left_lt inv.lsz hi hn
      omega
    exact ⟨hr, fin inv hr⟩
  | succ fuel ih =>
    intro listed a w ρ ED m inv hf
    refine ⟨fun hr => fin inv hr, fun i hi => ?_⟩
    rw [mem_ready] at hi
    obtain ⟨h0, o, ho, hdeps⟩ := hi
    have hi := Chain.lt ho
    have hn : ¬ Dn listed i := by
      unfold Dn
      have hil : i < listed.size := by rw [inv.lsz]; exact hi
      simpa [hil] using h0
    refine Inv.go c hops inv ho hn hdeps (fun a' w' ρ' ED' m' inv' => ?_)
    have := left_lt inv.lsz hi hn
    exact ih _ a' w' ρ' ED' m' inv' (by omega)
/-- A region that draws its order. -/
theorem draw_ok (hcall : CallOK P call) (hm : P.follows .mixedOrders = true) (hr : rOk ops = true) (hops : ops.all (oOk nt) = true) {id : Nat} {Q : Exit → Act → World → Prop} {e : Env} {H : AH} {e' : Env} {H' : AH} (hv : evOps P call true ops ops.toList e H e' H')
    {ρ : Ren} {a : Act} {w : World} (h : WR w0 ρ H w) (hf : Free ρ H.n H'.n) (hE : ER ρ e a nt)
    (hK : ∀ ρ' a' w', Step w0 ρ H w ρ' H' w' → ER ρ' e' a' nt → a'.defers = a.defers → Q .normal a' w') : (Code.region id ops true).wp P Q a w := by
  obtain ⟨E, Hs, V, hE0, hH0, hEn, hHn, hst⟩ := chain_of ops.toList hv
  have hlen : ops.toList.length = ops.size := by simp
  rw [hlen] at hEn hHn
  have hst' : ∀ i o, ops[i]? = some o → OneStep P call ops o (E i) (Hs i) (V i) (E (i + 1)) (Hs (i + 1)) := fun i o ho => hst i o (by rw [Array.getElem?_toList]; exact ho)
  have hfin : ∀ i, i ≤ ops.size → ∀ id, (Hs i).n ≤ id → (Hs i).m id = none := by
    intro i
    induction i with
    | zero => intro _; rw [hH0]; exact h.fin
    | succ i ih =>
      intro hi
      obtain ⟨o, ho⟩ := Chain.get (ops := ops) i (by omega)
      have h1 := (hst' i o ho).1
      split at h1
      · exact evOp_fin hcall h1 (ih (by omega))
      · rw [h1.2]; exact ih (by omega)
  have c : Chain P call ops E Hs V := ⟨hcall, hr, hst', hfin⟩
  subst hE0
  subst hH0
  subst hEn
  subst hHn
  refine wp_region_any hm ?_
  have hd0 : ∀ i, ¬ Dn (Array.replicate ops.size false) i := fun i h => by
    unfold Dn at h
    simp only [Array.getD_eq_getD_getElem?, Array.getElem?_replicate] at h
    split at h <;> simp at h
  obtain ⟨m, h1, h2, h3, h4⟩ := nxt ops (Dn (Array.replicate ops.size false)) 0 (Nat.zero_le _)
  have nowr : ∀ j o, 0 ≤ j → j < m → ops[j]? = some o → opClass o.op ≠ 2 := fun j o hj1 hj2 ho hc => hd0 j (h3 j o hj1 hj2 ho hc)
  have e2 : Ext (Hs 0) (Hs m) := c.ext (Nat.zero_le _) h2 nowr
  have hdead : ∀ id b l, (Hs 0).n ≤ id → ρ id = some l → (Hs m).m id = some b → (Hs 0).m id = some b := by
    intro id b l hid hl hb
    exfalso
    have hlt : id < (Hs m).n := by
      rcases Nat.lt_or_ge id (Hs m).n with h | h
      · exact h
      · rw [c.fin m h2 id h] at hb; cases hb
    have := hf id hid (by have := c.nle h2 (Nat.le_refl _); omega)
    rw [this] at hl
    cases hl
  have hw1 : WR w0 ρ (Hs 0) { w with drawn := w.drawn + 1 } := h.drawn _
  have s0 : Step w0 ρ (Hs 0) w ρ (Hs 0) { w with drawn := w.drawn + 1 } := ⟨hw1, Nat.le_refl _, Nat.le_refl _, fun _ _ => rfl, fun _ _ _ => rfl, fun _ b _ h => ⟨b, h, rfl⟩, fun _ _ _ h1 h2 => by omega⟩
  have g0 : GS ρ (Hs 0) w (Hs ops.size).n ρ (Hs 0) w := ⟨fun _ _ => rfl, Nat.le_refl _, fun _ _ _ => rfl, fun _ b _ h => ⟨b, h, rfl⟩, fun id b l h1 hb _ _ => by rw [c.fin 0 (Nat.zero_le _) id h1] at hb; cases hb⟩
  refine draw_any (w0 := w0) (wi := w) (ρ0 := ρ) (df := a.defers) c hops hK ops.size _ a _ ρ (E 0) m ⟨by simp, fun i o hi => absurd hi (hd0 i), hE, fun j o t hj => absurd hj (hd0 j), fun t _ => rfl, rfl, h2, h.lift s0 (fun _ _ h => h) (Ext.refl _) e2 (c.fin m h2) hdead, fun j o hj ho hc => h3 j o (Nat.zero_le _) hj ho hc, h4, ?_, g0.step s0 (Ext.refl _) e2 (Nat.le_refl _) (c.nle (Nat.zero_le _) (Nat.le_refl _)) hdead⟩ ?_
  · intro i hi _ id h1 h2
    exact hf id (Nat.le_trans (c.nle (Nat.zero_le _) (by omega)) h1) (by have := c.nle (i := i + 1) (k := ops.size) (by omega) (Nat.le_refl _); omega)
  · unfold left
    have := List.length_filter_le (fun i => !(Array.replicate ops.size false).getD i false) (List.range ops.size)
    simpa using this
end
end Go.Proofs.Ytaepgfafbnjccaa.Am
