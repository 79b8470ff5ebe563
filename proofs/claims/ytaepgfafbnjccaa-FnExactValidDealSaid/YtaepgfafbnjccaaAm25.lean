/- Blocks that are made may be written; a function that writes what it is given; rules for them. For every program. No condition beyond each theorem's own. -/
import Derived.Test.YtaepgfafbnjccaaAm23
set_option linter.unusedSimpArgs false
set_option linter.unusedVariables false
namespace Go.Proofs.Ytaepgfafbnjccaa.Am
open Go Go.RowKit
/-- What is new may be written; what was there is as it was in this. -/
def RwX (H H' : AH) : Prop := ∀ id b', H'.m id = some b' → b'.rw = true ∨ ∃ b, H.m id = some b ∧ b.rw = b'.rw
theorem RwX.refl (H : AH) : RwX H H := fun id b h => .inr ⟨b, h, rfl⟩
theorem RwX.trans {H H1 H2 : AH} (h : RwX H H1) (k : RwX H1 H2) : RwX H H2 := fun id b hb => by
  rcases k id b hb with h1 | ⟨b1, h1, h2⟩
  · exact .inl h1
  · rcases h id b1 h1 with h3 | ⟨b0, h3, h4⟩
    · exact .inl (h2 ▸ h3)
    · exact .inr ⟨b0, h3, h4.trans h2⟩
theorem rwx_push (H : AH) {b : Blk} (hb : b.rw = true) : RwX H (H.push b) := fun id b' h => by
  simp only [AH.push] at h
  split at h
  · cases h; exact .inl hb
  · exact .inr ⟨b', h, rfl⟩
theorem rwx_set {H : AH} {k : Nat} {b0 b : Blk} (h0 : H.m k = some b0) (hb : b.rw = b0.rw) : RwX H (H.set k b) := fun id b' h => by
  simp only [AH.set] at h
  split at h
  · rename_i e
    cases h
    subst e
    exact .inr ⟨b0, h0, hb.symm⟩
  · exact .inr ⟨b', h, rfl⟩
theorem rwx_kill (H : AH) (k : Nat) : RwX H (H.kill k) := fun id b' h => by
  simp only [AH.kill] at h
  split at h
  · cases h
  · exact .inr ⟨b', h, rfl⟩
section
variable {P : Program} {H : AH} {call : CallS}
theorem hop_rwx {op : Op} {e : Env} {v : Value} {H' : AH} {tag : Option Nat} (h : hop P tag op e H = some (v, H')) : RwX H H' := by
  unfold hop at h
  split at h
  · repeat' (split at h)
    all_goals first | (cases h; done) | (cases h; exact RwX.refl _)
  · split at h
    · split at h
      · rename_i hs
        cases h
        unfold astore at hs
        repeat' (split at hs)
        all_goals first | (cases hs; done) | (cases hs; (apply rwx_set; assumption; rfl))
      · cases h
    · cases h
  · cases h; exact rwx_push _ rfl
  · unfold aalloc at h
    repeat' (split at h)
    all_goals first | (cases h; done) | (cases h; exact rwx_push _ rfl)
  · unfold alit at h
    repeat' (split at h)
    all_goals first | (cases h; done) | (cases h; exact rwx_push _ rfl)
  · unfold amake at h
    repeat' (split at h)
    all_goals first | (cases h; done) | (cases h; exact rwx_push _ rfl)
  · split at h
    · split at h
      · unfold aappend at h
        repeat' (split at h)
        all_goals first | (cases h; done) | (cases h; first | exact RwX.refl _ | exact rwx_push _ rfl | exact (rwx_kill _ _).trans (rwx_push _ rfl))
      · cases h
    · cases h
  · split at h
    · unfold acopy at h
      repeat' (split at h)
      all_goals first | (cases h; done) | (cases h; (apply rwx_set; assumption; rfl))
    · cases h
  · split at h
    · unfold aclear at h
      repeat' (split at h)
      all_goals first | (cases h; done) | (cases h; first | exact RwX.refl _ | (apply rwx_set; assumption; rfl))
    · cases h
  · cases h
theorem evOp_rwx (hcall : ∀ f a H v H', call f a H v H' → RwX H H') {dr : Bool} {op : Op} {e : Env} {v : Value} {H' : AH} (h : evOp P call dr op e H v H') : RwX H H' := by
  unfold evOp at h
  split at h
  · unfold evCall at h
    split at h
    · obtain ⟨_, _, h, _⟩ := h; exact hcall _ _ _ _ _ h
    · exact h.elim
  · split at h
    · rw [h.2]; exact RwX.refl _
    · obtain ⟨_, h⟩ := h; exact hop_rwx h
theorem evOps_rwx (hcall : ∀ f a H v H', call f a H v H' → RwX H H') {dr : Bool} {ops : Array Oper} : ∀ (os : List Oper) {e : Env} {H : AH} {e' : Env} {H' : AH}, evOps P call dr ops os e H e' H' → RwX H H'
  | [], _, _, _, _, h => by rw [h.2]; exact RwX.refl _
  | o :: os, e, H, e', H', h => by
    simp only [evOps] at h
    split at h
    · obtain ⟨v, H1, h1, h2⟩ := h
      exact (evOp_rwx hcall h1).trans (evOps_rwx hcall os h2)
    · exact evOps_rwx hcall os h
theorem evL_rwx {body : CodeR} (hb : ∀ e H x e' H', body e H x e' H' → RwX H H') : ∀ k {e H x e' H'}, evL body k e H x e' H' → RwX H H'
  | 0, _, _, _, _, _, h => h.elim
  | k + 1, e, H, x, e', H', h => by
    simp only [evL] at h
    obtain ⟨x1, e1, H1, h1, h2⟩ := h
    have n1 := hb _ _ _ _ _ h1
    split at h2
    · exact n1.trans (evL_rwx hb k h2)
    · rw [h2.2.2]; exact n1
theorem evC_rwx (hcall : ∀ f a H v H', call f a H v H' → RwX H H') {n : Nat} (c : Code) : ∀ {e H x e' H'}, evC P call n c e H x e' H' → RwX H H' := by
  induction c with
  | skip => intro e H x e' H' h; rw [h.2.2]; exact RwX.refl _
  | label _ => intro e H x e' H' h; rw [h.2.2]; exact RwX.refl _
  | region id ops dr => intro e H x e' H' h; exact evOps_rwx hcall _ h.2
  | seq a b iha ihb =>
    intro e H x e' H' h
    simp only [evC] at h
    obtain ⟨x1, e1, H1, h1, h2⟩ := h
    split at h2
    · exact (iha h1).trans (ihb h2)
    · rw [h2.2.2]; exact iha h1
  | cond c a b iha ihb =>
    intro e H x e' H' h
    simp only [evC] at h
    obtain ⟨t, _, h⟩ := h
    split at h
    · exact iha h
    · exact ihb h
  | block id c ih =>
    intro e H x e' H' h
    simp only [evC] at h
    obtain ⟨x1, h1, _⟩ := h
    exact ih h1
  | loop c ih => intro e H x e' H' h; exact evL_rwx (fun _ _ _ _ _ h => ih h) n h
  | exit id => intro e H x e' H' h; rw [h.2.2]; exact RwX.refl _
  | ret => intro e H x e' H' h; rw [h.2.2]; exact RwX.refl _
  | _ => intro e H x e' H' h; exact h.elim
theorem evF_rwx : ∀ n f args H v H', evF P n f args H v H' → RwX H H'
  | 0, _, _, _, _, _, h => h.elim
  | n + 1, f, args, H, v, H', ⟨_, c, _, _, _, _, _, _, _, hc, _⟩ => evC_rwx (evF_rwx n) c hc
end
/-- What has been made since H may be written. -/
theorem rw_new {P : Program} {n : Nat} {f : FuncId} {args : Array Value} {H : AH} {v : Value} {H' : AH} (h : evF P n f args H v H') (hf : Fin' H) {id : Nat} {b : Blk} (hid : H.n ≤ id) (hb : H'.m id = some b) : b.rw = true := by
  rcases evF_rwx n f args H v H' h id b hb with h1 | ⟨b0, h1, _⟩
  · exact h1
  · rw [hf id hid] at h1; cases h1
/-- All that S names may be written. -/
def Rw (S : Ids) (H : AH) : Prop := ∀ id b, S id → H.m id = some b → b.rw = true
/-- A function that writes no more than W of what was there. -/
def SpecW (P : Program) (S : Ids) (H0 : AH) (W : Ids) (f : FuncId) (args : List Value) (post : Nat → Value → AH → Prop) : Prop :=
  ∀ H, Fin' H → Fz S H0 H → Run P f args.toArray H (fun v H1 => H.n ≤ H1.n ∧ (∀ id, id < H.n → ¬ W id → H1.m id = H.m id) ∧ Fin' H1 ∧ post H.n v H1)
theorem SpecM.w {P : Program} {S : Ids} {H0 : AH} {W : Ids} {f : FuncId} {args : List Value} {post : Nat → Value → AH → Prop} (h : SpecM P S H0 f args post) : SpecW P S H0 W f args post := fun H hf hz => by
  obtain ⟨n, v, H1, h1, h2, h3, h4⟩ := h H hf hz
  exact ⟨n, v, H1, h1, h2.1, fun id hid _ => h2.2 id hid, h3, h4⟩
section
variable {P : Program} {S : Ids} {H0 : AH} {Q : PostC} {k k1 : List It} {e e1 : Env} {T T1 : List Var} {n n1 : Nat} {l1 r1 : List Nat} {d1 : Tmp}
/-- A writer by its code: the block that it writes is a variable of its own. -/
theorem SpecW.of {W : Ids} {f : FuncId} {fn : Func} {c : Code} {args : List Value} {post : Nat → Value → AH → Prop} {id : Nat} {b : Blk} (hf : P.funcs[f]? = some fn) (hb : fn.body = some c) (hok : fnOk fn = true) (hs : Nat.ble args.length fn.ntmps = true) (hS : S id) (hm : H0.m id = some b)
    (h : ∀ H, Fin' H → Fz S H0 H → KW P (fun i => Low H.n i ∧ i ≠ id) H (Fin1 P fn (fun v H1 => H.n ≤ H1.n ∧ (∀ id, id < H.n → ¬ W id → H1.m id = H.m id) ∧ Fin' H1 ∧ post H.n v H1)) H.n [(id, b)] [.code c] (fun t => args.getD t undef)) : SpecW P S H0 W f args post := by
  intro H hfin hfz
  refine Run.of hf hb hok (by simpa using Nat.le_of_ble_eq_true hs) ?_
  rw [envL_eq]
  obtain ⟨h1, h2⟩ := hfz id hS
  refine (h H hfin hfz).wc ⟨rfl, hfin, fun i hi => ⟨hi.1, rfl⟩, fun j v hj => ?_, fun i j u v hi hj he => ?_⟩
  · cases j with
    | zero => cases hj; exact ⟨h2.trans hm, h1, fun hc => hc.2 rfl⟩
    | succ j => simp at hj
  · cases i with
    | zero => cases j with
      | zero => rfl
      | succ j => simp at hj
    | succ i => simp at hi
/-- .. that writes by others' hands alone. -/
theorem SpecW.of0 {W : Ids} {f : FuncId} {fn : Func} {c : Code} {args : List Value} {post : Nat → Value → AH → Prop} (hf : P.funcs[f]? = some fn) (hb : fn.body = some c) (hok : fnOk fn = true) (hs : Nat.ble args.length fn.ntmps = true)
    (h : ∀ H, Fin' H → Fz S H0 H → KW P (Low H.n) H (Fin1 P fn (fun v H1 => H.n ≤ H1.n ∧ (∀ id, id < H.n → ¬ W id → H1.m id = H.m id) ∧ Fin' H1 ∧ post H.n v H1)) H.n [] [.code c] (fun t => args.getD t undef)) : SpecW P S H0 W f args post := by
  intro H hfin hfz
  refine Run.of hf hb hok (by simpa using Nat.le_of_ble_eq_true hs) ?_
  rw [envL_eq]
  exact (h H hfin hfz).wc (Good.start hfin)
/-- What a writer returns. -/
theorem KW.retW {fn : Func} {H : AH} {W : Ids} {post : Value → AH → Prop} {vs : List Value} {a b : List Nat} (h : Go1 P k e T n (.done .ret) k1 e1 T1 n1 l1 r1) (hlr : l1 = r1) (hr : aresT P e1 T1 fn.results.toList = some (vs, a, b)) (hab : a = b)
    (hn : ∀ H1, Good S H0 T1 n1 H1 → H.n ≤ H1.n) (hS : ∀ id, id < H.n → ¬ W id → S id ∧ H0.m id = H.m id) (hp : ∀ H1, Good S H0 T1 n1 H1 → post (aout vs) H1) :
    KW P S H0 (Fin1 P fn (fun v H1 => H.n ≤ H1.n ∧ (∀ id, id < H.n → ¬ W id → H1.m id = H.m id) ∧ Fin' H1 ∧ post v H1)) n T k e := by
  refine KW.go h hlr (fun H1 g => ?_)
  have hv := aresT_ok (P := P) g _ hr hab
  simp only [Fin1, hv]
  exact ⟨hn H1 g, fun id hid hw => by rw [(g.froz id (hS id hid hw).1).2, (hS id hid hw).2], g.fin, hp H1 g⟩
/-- What stays behind a writer. -/
def StW (W S : Ids) (H0 : AH) (S' : Ids) (H1 : AH) : Prop := ∀ id, S id → S' id ∧ (¬ W id → H1.m id = H0.m id)
/-- A call of a writer. -/
theorem KW.callW {f : Operand} {xs : Array Operand} {ts : Array TypeId} {g : FuncId} {first cap : Array Value} {o : Oper} {W : Ids} {post : Nat → Value → AH → Prop} (hW : ∀ id, W id → S id) (h : Go1 P k e T n (.op o false) k1 e1 T1 n1 l1 r1) (hlr : l1 = r1) (ho : o.op = .call { callee := .value f, args := xs, argTypes := ts }) (hd : o.dst = some d1) (hf : ev e1 f = .func (.func g) first cap)
    (hs : SpecW P S H0 W g (cargs e1 first cap xs) post)
    (hk : ∀ v H1 (S' : Ids), n1 ≤ H1.n → StW W S H0 S' H1 → (∀ id, New n1 H1.n id → S' id) → post n1 v H1 → KW P S' H1 Q H1.n T1 k1 (put1 e1 d1 (untag v))) : KW P S H0 Q n T k e := by
  refine KW.go h hlr (fun H gd => ?_)
  replace gd : Good S H0 T1 n1 H := gd
  obtain ⟨m, v, H1, h1, hx1, hx2, hfin, hp⟩ := hs H gd.fin gd.fz
  have hn : H.n = n1 := gd.n_
  have e : untags (first ++ aargs e1 xs ++ cap) = (cargs e1 first cap xs).toArray := by
    apply Array.ext'
    simp [aargs, untags, cargs]
  refine ⟨m, untag v, H1, ?_, ?_⟩
  · rw [ho]
    simp only [evOp, evCall, hf]
    exact ⟨v, rfl, by rw [e]; exact h1, fun h => by cases h⟩
  · rw [hn] at hp
    rw [hd, put1_eq]
    refine hk v H1 (fun id => S id ∨ New n1 H1.n id) (by rw [← hn]; exact hx1) (fun id hid => ⟨.inl hid, fun hw => ?_⟩) (fun id hid => .inr hid) hp H1 ?_
    · obtain ⟨h2, h3⟩ := gd.froz id hid
      rw [hx2 id (by omega) hw, h3]
    · refine ⟨rfl, hfin, fun id hid => ⟨?_, rfl⟩, fun j w hj => ?_, gd.dist⟩
      · rcases hid with hid | hid
        · have := (gd.froz id hid).1; omega
        · exact hid.2
      · obtain ⟨h2, h3, h4⟩ := gd.vars j w hj
        refine ⟨by rw [hx2 _ (by omega) (fun hw => h4 (hW _ hw))]; exact h2, by omega, fun hh => ?_⟩
        rcases hh with hh | hh
        · exact h4 hh
        · have := hh.1; omega
/-- A call that makes memory: what it makes may be written. -/
theorem KW.callR {dr : Bool} {f : Operand} {xs : Array Operand} {ts : Array TypeId} {g : FuncId} {first cap : Array Value} {o : Oper} {post : Nat → Value → AH → Prop} (h : Go1 P k e T n (.op o dr) k1 e1 T1 n1 l1 r1) (hlr : l1 = r1) (ho : o.op = .call { callee := .value f, args := xs, argTypes := ts }) (hd : o.dst = some d1) (hf : ev e1 f = .func (.func g) first cap)
    (hs : SpecM P S H0 g (cargs e1 first cap xs) post)
    (hk : ∀ v H1 (S' : Ids), n1 ≤ H1.n → St S H0 S' H1 → (∀ id, New n1 H1.n id → S' id) → Rw (New n1 H1.n) H1 → post n1 v H1 → KW P S' H1 Q H1.n T1 k1 (put1 e1 d1 (untag v))) : KW P S H0 Q n T k e := by
  refine KW.go h hlr (KEvt.callG (c := ⟨_, _, _, _, _, _⟩) ho hf (post := fun n v H1 => post n v H1 ∧ Rw (New n H1.n) H1) (fun H gd => ?_) (fun v H1 h1 h2 h3 => by rw [hd, put1_eq]; exact hk v H1 _ h1 (fun id hid => ⟨.inl hid, h2 id hid⟩) (fun id hid => .inr hid) h3.2 h3.1))
  obtain ⟨m, v, H1, h1, h2, h3, h4⟩ := hs H gd.fin gd.fz
  exact ⟨m, v, H1, h1, h2, h3, h4, fun id b hid hb => rw_new h1 gd.fin hid.1 hb⟩
end
end Go.Proofs.Ytaepgfafbnjccaa.Am
