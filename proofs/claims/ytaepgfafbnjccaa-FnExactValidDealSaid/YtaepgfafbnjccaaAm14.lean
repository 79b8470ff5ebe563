/- A region that draws its order does, in whatever order, what it does in the text's order: the whole. For every program. No condition beyond each theorem's own. -/
import Derived.Test.YtaepgfafbnjccaaAm13
set_option linter.unusedSimpArgs false
set_option linter.unusedVariables false
namespace Go.Proofs.Ytaepgfafbnjccaa.Am
open Go Go.RowKit
def Dn (listed : Array Bool) (i : Nat) : Prop := listed.getD i false = true
section
variable {P : Program} {w0 wi : World} {call : CallS} {ops : Array Oper} {E : Nat → Env} {Hs : Nat → AH} {V : Nat → Value} {nt : Nat} {ρ0 : Ren} {df : List Deferred}
/-- What holds while the region runs. -/
structure Inv (P : Program) (w0 wi : World) (ops : Array Oper) (E : Nat → Env) (Hs : Nat → AH) (V : Nat → Value) (nt : Nat) (ρ0 : Ren) (df : List Deferred) (listed : Array Bool) (a : Act) (w : World) (ρ : Ren) (ED : Env) (m : Nat) : Prop where
  lsz : listed.size = ops.size
  closed : Closed ops (Dn listed)
  env : ER ρ ED a nt
  done : ∀ j o t, Dn listed j → ops[j]? = some o → o.dst = some t → ED t = V j
  rest : ∀ t, (∀ j o, Dn listed j → ops[j]? = some o → o.dst ≠ some t) → ED t = E 0 t
  df_ : a.defers = df
  m_le : m ≤ ops.size
  wr : WR w0 ρ (Hs m) w
  before : ∀ j o, j < m → ops[j]? = some o → opClass o.op = 2 → Dn listed j
  at_m : ∀ o, ops[m]? = some o → opClass o.op = 2 ∧ ¬ Dn listed m
  free : ∀ i, i < ops.size → ¬ Dn listed i → Free ρ (Hs i).n (Hs (i + 1)).n
  gs : GS ρ0 (Hs 0) wi (Hs ops.size).n ρ (Hs m) w
theorem Dn.set {listed : Array Bool} {i j : Nat} (hi : i < listed.size) : Dn (listed.setIfInBounds i true) j ↔ j = i ∨ Dn listed j := by
  unfold Dn
  by_cases h : i = j
  · subst h; simp [hi]
  · simp only [Array.getD_eq_getD_getElem?, Array.getElem?_setIfInBounds_ne h]
    constructor
    · intro hh; exact .inr hh
    · rintro (hh | hh)
      · exact absurd hh.symm h
      · exact hh
/-- The operation's operands read as in the text's order. -/
theorem Inv.agree (c : Chain P call ops E Hs V) {listed : Array Bool} {a : Act} {w : World} {ρ : Ren} {ED : Env} {m : Nat} (inv : Inv P w0 wi ops E Hs V nt ρ0 df listed a w ρ ED m) {i : Nat} {o : Oper} (ho : ops[i]? = some o) (hn : ¬ Dn listed i)
    (hr : ∀ e ∈ o.after, Region.binds .any e = true → Dn listed e.on) {t : Nat} (ht : t ∈ o.looksAt ops) : ED t = E i t := by
  have hi := Chain.lt ho
  have hsl := Chain.slot c (t := t) i (Nat.le_of_lt hi)
  have wait : ∀ j x, ops[j]? = some x → j ≠ i → x.dst = some t → (j < i ∧ Dn listed j) ∨ (i < j ∧ ¬ Dn listed j) := by
    intro j x hx hji hd
    have hp := rOk_pair c.ok ho hx (Ne.symm hji)
    unfold pairB at hp
    rw [hd] at hp
    simp only [Bool.and_eq_true, Bool.or_eq_true, Bool.not_eq_true'] at hp
    have hc : (o.looksAt ops).contains t = true := by simpa using ht
    rcases hp.1.2 with h | h
    · rw [hc] at h; cases h
    · rcases ordB_reach (Ne.symm hji) h with ⟨hlt, hre⟩ | ⟨hlt, hre⟩
      · exact .inl ⟨hlt, inv.closed.reach_ready ho hr hre⟩
      · exact .inr ⟨hlt, fun hD => hn (inv.closed.reach hre hD)⟩
  by_cases hex : ∃ j x, ops[j]? = some x ∧ j < i ∧ x.dst = some t
  · obtain ⟨j, x, hx, hji, hd⟩ := hex
    rw [hsl.1 j x hji hx hd]
    rcases wait j x hx (by omega) hd with ⟨_, hD⟩ | ⟨h, _⟩
    · exact inv.done j x t hD hx hd
    · omega
  · rw [hsl.2 (fun j x hj hx hd => hex ⟨j, x, hx, hj, hd⟩)]
    refine inv.rest t (fun j x hD hx hd => ?_)
    by_cases hji : j = i
    · subst hji; exact hn hD
    · rcases wait j x hx hji hd with ⟨h, _⟩ | ⟨_, h⟩
      · exact hex ⟨j, x, hx, h, hd⟩
      · exact h hD
theorem nxt (ops : Array Oper) (D : Nat → Prop) (k : Nat) (hk : k ≤ ops.size) : ∃ m, k ≤ m ∧ m ≤ ops.size ∧ (∀ j o, k ≤ j → j < m → ops[j]? = some o → opClass o.op = 2 → D j) ∧ ∀ o, ops[m]? = some o → opClass o.op = 2 ∧ ¬ D m := by
  obtain ⟨d, hd⟩ : ∃ d, ops.size - k = d := ⟨_, rfl⟩
  induction d generalizing k with
  | zero => exact ⟨ops.size, hk, Nat.le_refl _, fun j o h1 h2 => by omega, fun o ho => by simp at ho⟩
  | succ d ih =>
    obtain ⟨o, ho⟩ := Chain.get (ops := ops) k (by omega)
    by_cases h : opClass o.op = 2 ∧ ¬ D k
    · exact ⟨k, Nat.le_refl _, hk, fun j o h1 h2 => by omega, fun o' ho' => by rw [ho] at ho'; cases ho'; exact h⟩
    · obtain ⟨m, h1, h2, h3, h4⟩ := ih (k + 1) (by omega) (by omega)
      refine ⟨m, by omega, h2, fun j o' hj1 hj2 hj3 hj4 => ?_, h4⟩
      by_cases hjk : j = k
      · subst hjk
        rw [ho] at hj3
        cases hj3
        exact Classical.byContradiction fun hn => h ⟨hj4, hn⟩
      · exact h3 j o' (by omega) hj2 hj3 hj4
theorem Inv.next (c : Chain P call ops E Hs V) {listed : Array Bool} {a : Act} {w : World} {ρ : Ren} {ED : Env} {m : Nat} (inv : Inv P w0 wi ops E Hs V nt ρ0 df listed a w ρ ED m) {i : Nat} {o : Oper} (ho : ops[i]? = some o) (hn : ¬ Dn listed i)
    (hr : ∀ e ∈ o.after, Region.binds .any e = true → Dn listed e.on) {ρ' : Ren} {a' : Act} {w' : World} {m' : Nat} (hE : ER ρ' (put ED o.dst (V i)) a' nt) (hd : a'.defers = df) (hm : m' ≤ ops.size) (hwr : WR w0 ρ' (Hs m') w')
    (hgs : GS ρ0 (Hs 0) wi (Hs ops.size).n ρ' (Hs m') w') (hout : ∀ id, id < (Hs i).n ∨ (Hs (i + 1)).n ≤ id → ρ' id = ρ id)
    (hbef : ∀ j o, j < m' → ops[j]? = some o → opClass o.op = 2 → j = i ∨ Dn listed j) (hat : ∀ o, ops[m']? = some o → opClass o.op = 2 ∧ ¬ (m' = i ∨ Dn listed m')) :
    Inv P w0 wi ops E Hs V nt ρ0 df (listed.setIfInBounds i true) a' w' ρ' (put ED o.dst (V i)) m' := by
  have hi := Chain.lt ho
  have hil : i < listed.size := by rw [inv.lsz]; exact hi
  refine ⟨by simp [inv.lsz], ?_, hE, ?_, ?_, hd, hm, hwr, fun j x h1 h2 h3 => (Dn.set hil).2 (hbef j x h1 h2 h3), fun x hx => ⟨(hat x hx).1, fun h => (hat x hx).2 ((Dn.set hil).1 h)⟩, ?_, hgs⟩
  · intro j x hj hx e he hb
    rw [Dn.set hil] at hj ⊢
    rcases hj with rfl | hj
    · rw [ho] at hx; cases hx
      exact .inr (hr e he hb)
    · exact .inr (inv.closed j x hj hx e he hb)
  · intro j x t hj hx hdt
    rw [Dn.set hil] at hj
    by_cases hji : j = i
    · subst hji
      rw [ho] at hx; cases hx
      simp [put, hdt]
    · have hp := rOk_pair c.ok ho hx (Ne.symm hji)
      unfold pairB at hp
      rw [hdt] at hp
      simp only [Bool.and_eq_true, bne_iff_ne, ne_eq] at hp
      have hne := hp.1.1
      have e1 : put ED o.dst (V i) t = ED t := by
        unfold put
        cases hdk : o.dst with
        | none => rfl
        | some d =>
          simp only
          rw [if_neg]
          intro e; subst e
          exact hne hdk
      rw [e1]
      exact inv.done j x t (hj.resolve_left hji) hx hdt
  · intro t ht
    have e1 : put ED o.dst (V i) t = ED t := by
      unfold put
      cases hdk : o.dst with
      | none => rfl
      | some d =>
        simp only
        rw [if_neg]
        intro e; subst e
        exact ht i o ((Dn.set hil).2 (.inl rfl)) ho hdk
    rw [e1]
    exact inv.rest t (fun j x hj => ht j x ((Dn.set hil).2 (.inr hj)))
  · intro j hj hjn
    rw [Dn.set hil] at hjn
    have hji : j ≠ i := fun e => hjn (.inl e)
    intro id h1 h2
    rw [hout id ?_]
    · exact inv.free j hj (fun h => hjn (.inr h)) id h1 h2
    · rcases Nat.lt_or_ge j i with h | h
      · have := c.nle (i := j + 1) (k := i) (by omega) (by omega)
        exact .inl (by omega)
      · have := c.nle (i := i + 1) (k := j) (by omega) (by omega)
        exact .inr (by omega)
theorem Chain.same (c : Chain P call ops E Hs V) {i : Nat} {o : Oper} (ho : ops[i]? = some o) (hc : opClass o.op = 0 ∨ want ops (E i) o = false) : Hs (i + 1) = Hs i := by
  have h := (c.step i o ho).1
  rcases hc with hc | hc
  · split at h
    · unfold evOp at h
      split at h
      · rename_i hop; simp [hop, opClass] at hc
      · rw [hc] at h
        exact h.2
    · exact h.2
  · rw [if_neg (by simp [hc])] at h
    exact h.2
/-- One operation that is ready. -/
theorem Inv.go (c : Chain P call ops E Hs V) (hops : ops.all (oOk nt) = true) {Q : Exit → Act → World → Prop} {listed : Array Bool} {a : Act} {w : World} {ρ : Ren} {ED : Env} {m : Nat} (inv : Inv P w0 wi ops E Hs V nt ρ0 df listed a w ρ ED m) {i : Nat} {o : Oper} (ho : ops[i]? = some o) (hn : ¬ Dn listed i)
    (hr : ∀ e ∈ o.after, Region.binds .any e = true → Dn listed e.on) {K : Act → World → Prop} (hK : ∀ a' w' ρ' ED' m', Inv P w0 wi ops E Hs V nt ρ0 df (listed.setIfInBounds i true) a' w' ρ' ED' m' → K a' w') : wpOp P ops Q i K a w := by
  have hi := Chain.lt ho
  have hag := fun {t} => Inv.agree c inv ho hn hr (t := t)
  have hoo : oOk nt o = true := Array.all_eq_true_iff_forall_mem.1 hops o (Array.mem_of_getElem? ho)
  have ho1 : okAll nt o.op = true := by unfold oOk at hoo; rw [Bool.and_eq_true] at hoo; exact hoo.1
  have hdef : ∀ x, (a.put o.dst x).defers = df := fun x => by
    have : (a.put o.dst x).defers = a.defers := by unfold Act.put; split <;> rfl
    rw [this]; exact inv.df_
  have hw : want ops ED o = want ops (E i) o := by
    unfold want
    cases hg : o.guard with
    | none => rfl
    | some jb =>
      obtain ⟨j, b⟩ := jb
      simp only
      unfold yld
      cases hd : (ops[j]?).bind (·.dst) with
      | none => rfl
      | some d =>
        have : ED d = E i d := hag (by unfold Oper.looksAt; rw [hg]; simp [hd])
        simp only [this]
  have hcong : ∀ x ∈ o.op.operands, ev (E i) x = ev ED x := fun x hx => by
    cases x with
    | tmp t => exact (hag (by unfold Oper.looksAt; rw [List.mem_append]; exact .inl (List.mem_filterMap.2 ⟨.tmp t, by simpa using hx, rfl⟩))).symm
    | _ => rfl
  have hst := (c.step i o ho).1
  unfold wpOp
  simp only [ho]
  rw [want_ok inv.env hops o, hw]
  have n0 := c.nle (i := 0) (k := m) (Nat.zero_le _) inv.m_le
  have nN := c.nle (i := m) (k := ops.size) inv.m_le (Nat.le_refl _)
  -- what follows when nothing that is told of memory has changed
  have still : i ≠ m → (Hs (i + 1) = Hs i) → ∀ ρ' x w', Step w0 ρ (Hs m) w ρ' (Hs m) w' → VR ρ' (V i) x → K (a.put o.dst x) w' := by
    intro him hsame ρ' x w' s hv
    have hle : Le ρ ρ' := s.le (fun id h1 h2 => by omega)
    have hii : ∀ id b l, (Hs m).n ≤ id → ρ' id = some l → (Hs m).m id = some b → (Hs m).m id = some b := fun _ _ _ _ _ h => h
    refine hK _ _ ρ' _ m (Inv.next c inv ho hn hr (inv.env.put hle o.dst hv) (hdef x) inv.m_le s.wr (inv.gs.step s (Ext.refl _) (Ext.refl _) n0 nN hii) (fun id hid => ?_) (fun j x h1 h2 h3 => .inr (inv.before j x h1 h2 h3)) (fun x hx => ⟨(inv.at_m x hx).1, fun h => ?_⟩))
    · by_cases h : id < (Hs m).n
      · exact s.ext id (.inl h)
      · exact s.ext id (.inr (by omega))
    · rcases h with h | h
      · exact him h.symm
      · exact (inv.at_m x hx).2 h
  -- what follows when a writer is done
  have write : i = m → opClass o.op = 2 → ∀ ρ' x w', Step w0 ρ (Hs m) w ρ' (Hs (m + 1)) w' → VR ρ' (V i) x → K (a.put o.dst x) w' := by
    intro him hc2 ρ' x w' s hv
    subst him
    have hle : Le ρ ρ' := s.le (inv.free i hi hn)
    obtain ⟨m', h1, h2, h3, h4⟩ := nxt ops (fun j => j = i ∨ Dn listed j) (i + 1) (by omega)
    have nowr : ∀ j y, i + 1 ≤ j → j < m' → ops[j]? = some y → opClass y.op ≠ 2 := by
      intro j y hj1 hj2 hy hcy
      have hp := rOk_pair c.ok hy ho (by omega)
      unfold pairB at hp
      rw [Bool.and_eq_true] at hp
      have hp2 := hp.2
      simp only [hcy, hc2, beq_self_eq_true, Bool.not_true, Bool.false_or, Bool.or_eq_true] at hp2
      rcases hp2 with h | h
      · cases h
      · rcases ordB_reach (by omega) h with ⟨_, hre⟩ | ⟨hlt, _⟩
        · rcases h3 j y hj1 hj2 hy hcy with h | h
          · omega
          · exact hn (inv.closed.reach hre h)
        · omega
    have e2 : Ext (Hs (i + 1)) (Hs m') := c.ext h1 h2 nowr
    have hii : ∀ id b l, (Hs (i + 1)).n ≤ id → ρ' id = some l → (Hs m').m id = some b → (Hs i).m id = some b := by
      intro id b l hid hl hb
      exfalso
      have hlt : id < (Hs m').n := by
        rcases Nat.lt_or_ge id (Hs m').n with h | h
        · exact h
        · rw [c.fin m' h2 id h] at hb; cases hb
      obtain ⟨j, hj1, hj2, hj3, hj4⟩ := c.find h1 h2 hid hlt
      obtain ⟨y, hy⟩ := Chain.get (ops := ops) j (by omega)
      by_cases hcy : opClass y.op = 0
      · have := c.same hy (.inl hcy)
        rw [this] at hj4
        omega
      · have hnj : ¬ Dn listed j := fun hD => by
          have hp := rOk_pair c.ok ho hy (by omega)
          unfold pairB at hp
          rw [Bool.and_eq_true] at hp
          have hp2 := hp.2
          simp only [hc2, beq_self_eq_true, Bool.not_true, Bool.false_or, Bool.or_eq_true, beq_iff_eq] at hp2
          rcases hp2 with h | h
          · exact hcy h
          · rcases ordB_reach (by omega) h with ⟨hlt, _⟩ | ⟨_, hre⟩
            · omega
            · exact hn (inv.closed.reach hre hD)
        have := inv.free j (by omega) hnj id hj3 hj4
        rw [s.ext id (.inr hid), this] at hl
        cases hl
    have nN2 := c.nle (i := i + 1) (k := ops.size) (by omega) (Nat.le_refl _)
    refine hK _ _ ρ' _ m' (Inv.next c inv ho hn hr (inv.env.put hle o.dst hv) (hdef x) h2 (inv.wr.lift s hle (Ext.refl _) e2 (c.fin m' h2) hii) (inv.gs.step s (Ext.refl _) e2 n0 nN2 hii) (fun id hid => s.ext id hid) (fun j y hj1 hj2 hj3 => ?_) h4)
    by_cases hji : j < i
    · exact .inr (inv.before j y hji hj2 hj3)
    · by_cases hjj : j = i
      · exact .inl hjj
      · exact h3 j y (by omega) hj1 hj2 hj3
  by_cases hwant : want ops (E i) o = true
  · rw [if_pos hwant]
    rw [if_pos hwant] at hst
    refine .inl ?_
    by_cases hc0 : opClass o.op = 0
    · by_cases him : i = m
      · exfalso
        subst him
        have := (inv.at_m o ho).1
        omega
      · have hv0 : evOp P call true o.op ED (Hs m) (V i) (Hs m) := by
          have h := evOp_congr hcong hst
          unfold evOp at h ⊢
          split at h
          · rename_i hop; simp [hop, opClass] at hc0
          · rw [hc0] at h
            simp only [hc0]
            exact ⟨h.1, trivial⟩
        exact op_ok c.calls inv.env inv.wr ho1 hv0 (fun id h1 h2 => by omega) (still him (c.same ho (.inl hc0)))
    · by_cases him : i = m
      · have hc2 : opClass o.op = 2 := by subst him; exact (inv.at_m o ho).1
        have hv0 := evOp_congr hcong hst
        have hwr := inv.wr
        rw [← him] at hwr
        refine op_ok c.calls inv.env hwr ho1 hv0 (inv.free i hi hn) (fun ρ' x w' s hv => ?_)
        rw [him] at s
        exact write him hc2 ρ' x w' s hv
      · have hlt : i < m := by
          rcases Nat.lt_or_ge i m with h | h
          · exact h
          · exfalso
            obtain ⟨y, hy⟩ := Chain.get (ops := ops) m (by omega)
            obtain ⟨hc2, hnm⟩ := inv.at_m y hy
            have hp := rOk_pair c.ok hy ho (Ne.symm him)
            unfold pairB at hp
            rw [Bool.and_eq_true] at hp
            have hp2 := hp.2
            simp only [hc2, beq_self_eq_true, Bool.not_true, Bool.false_or, Bool.or_eq_true, beq_iff_eq] at hp2
            rcases hp2 with h' | h'
            · exact hc0 h'
            · rcases ordB_reach (Ne.symm him) h' with ⟨hlt, _⟩ | ⟨_, hre⟩
              · omega
              · exact hnm (inv.closed.reach_ready ho hr hre)
        have hc2 : opClass o.op ≠ 2 := fun h => hn (inv.before i o hlt ho h)
        have nowr : ∀ j y, i ≤ j → j < m → ops[j]? = some y → opClass y.op ≠ 2 := by
          intro j y hj1 hj2 hy hcy
          by_cases hji : j = i
          · subst hji
            rw [ho] at hy; cases hy
            exact hc2 hcy
          · have hD := inv.before j y hj2 hy hcy
            have hp := rOk_pair c.ok hy ho hji
            unfold pairB at hp
            rw [Bool.and_eq_true] at hp
            have hp2 := hp.2
            simp only [hcy, beq_self_eq_true, Bool.not_true, Bool.false_or, Bool.or_eq_true, beq_iff_eq] at hp2
            rcases hp2 with h' | h'
            · exact hc0 h'
            · rcases ordB_reach hji h' with ⟨_, hre⟩ | ⟨hlt', _⟩
              · exact hn (inv.closed.reach hre hD)
              · omega
        have e1 : Ext (Hs i) (Hs m) := c.ext (by omega) inv.m_le nowr
        have e2 : Ext (Hs (i + 1)) (Hs m) := c.ext hlt inv.m_le (fun j y h1 h2 => nowr j y (by omega) h2)
        have hwr : WR w0 ρ (Hs i) w := inv.wr.less e1.1 (fun id hid => e1.2 id hid) (c.fin i (by omega))
        refine op_ok c.calls inv.env hwr ho1 (evOp_congr hcong hst) (inv.free i hi hn) (fun ρ' x w' s hv => ?_)
        have hle : Le ρ ρ' := s.le (inv.free i hi hn)
        have hii : ∀ id b l, (Hs (i + 1)).n ≤ id → ρ' id = some l → (Hs m).m id = some b → (Hs m).m id = some b := fun _ _ _ _ _ h => h
        have n0' := c.nle (i := 0) (k := i) (Nat.zero_le _) (by omega)
        have nN' := c.nle (i := i + 1) (k := ops.size) (by omega) (Nat.le_refl _)
        refine hK _ _ ρ' _ m (Inv.next c inv ho hn hr (inv.env.put hle o.dst hv) (hdef x) inv.m_le (inv.wr.lift s hle e1 e2 (c.fin m inv.m_le) hii) (inv.gs.step s e1 e2 n0' nN' hii) (fun id hid => s.ext id hid) (fun j x h1 h2 h3 => .inr (inv.before j x h1 h2 h3)) (fun x hx => ⟨(inv.at_m x hx).1, fun h => ?_⟩))
        rcases h with h | h
        · exact him h.symm
        · exact (inv.at_m x hx).2 h
  · rw [if_neg hwant]
    rw [if_neg hwant] at hst
    have hwf : want ops (E i) o = false := by simpa using hwant
    have hvu : VR ρ (V i) undef := by rw [hst.1]; exact .undef ρ
    by_cases him : i = m
    · have hc2 : opClass o.op = 2 := by subst him; exact (inv.at_m o ho).1
      have hs : Hs (m + 1) = Hs m := by rw [← him]; exact hst.2
      refine write him hc2 ρ undef w ?_ hvu
      rw [hs]
      exact Step.refl inv.wr
    · exact still him hst.2 ρ undef w (Step.refl inv.wr) hvu
end
end Go.Proofs.Ytaepgfafbnjccaa.Am
