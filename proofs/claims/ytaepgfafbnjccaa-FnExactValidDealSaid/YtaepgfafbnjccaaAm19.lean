/- The rules by which a function is walked: what is read in memory, calls, loops, a function's end. For every program. No condition beyond each theorem's own. -/
import Derived.Test.YtaepgfafbnjccaaAm18
set_option linter.unusedSimpArgs false
set_option linter.unusedVariables false
namespace Go.Proofs.Ytaepgfafbnjccaa.Am
open Go Go.RowKit
abbrev Ids := Nat → Prop
/-- What S names stands in H as in H0. -/
def Fz (S : Ids) (H0 H : AH) : Prop := ∀ id, S id → id < H.n ∧ H.m id = H0.m id
def Low (n : Nat) : Ids := fun id => id < n
def New (n m : Nat) : Ids := fun id => n ≤ id ∧ id < m
/-- How a value of α stands in memory: in how many cells, and in which; S names all blocks that they lead to. -/
structure Kn (α : Type) where
  es : Nat
  R : Ids → AH → α → List Value → Prop
  len : ∀ {S H x cs}, R S H x cs → cs.length = es
  same : ∀ {S H H' x cs}, (∀ id, S id → H'.m id = H.m id) → R S H x cs → R S H' x cs
  more : ∀ {S S' : Ids} {H x cs}, (∀ id, S id → S' id) → R S H x cs → R S' H x cs
namespace Kn
def int (k : IntKind) : Kn Int where
  es := 1
  R := fun _ _ x cs => cs = [.int k x]
  len := fun h => by rw [h]; rfl
  same := fun _ h => h
  more := fun _ h => h
def bool : Kn Bool where
  es := 1
  R := fun _ _ x cs => cs = [.bool x]
  len := fun h => by rw [h]; rfl
  same := fun _ h => h
  more := fun _ h => h
def str : Kn ByteArray where
  es := 1
  R := fun _ _ x cs => cs = [.string x]
  len := fun h => by rw [h]; rfl
  same := fun _ h => h
  more := fun _ h => h
/-- A slice reads as a list. -/
def Sl {α : Type} (d : Kn α) (S : Ids) (H : AH) (s : Value) (xs : List α) : Prop :=
  (xs = [] ∧ ∃ a c, s = .slice a 0 c ∧ (a = none → c = 0)) ∨ ∃ id k c b, s = .slice (some ⟨id, k, some d.es⟩) xs.length c ∧ xs.length ≤ c ∧ S id ∧ H.m id = some b ∧ k + xs.length * d.es ≤ b.cells.length ∧
    ∀ (i : Nat) x, xs[i]? = some x → d.R S H x ((b.cells.drop (k + i * d.es)).take d.es)
theorem Sl.same {α : Type} {d : Kn α} {S : Ids} {H H' : AH} {s : Value} {xs : List α} (hs : ∀ id, S id → H'.m id = H.m id) (h : d.Sl S H s xs) : d.Sl S H' s xs := by
  rcases h with h | ⟨id, k, c, b, h1, h2, h3, h4, h5, h6⟩
  · exact .inl h
  · exact .inr ⟨id, k, c, b, h1, h2, h3, by rw [hs id h3]; exact h4, h5, fun i x hx => d.same hs (h6 i x hx)⟩
theorem Sl.more {α : Type} {d : Kn α} {S S' : Ids} {H : AH} {s : Value} {xs : List α} (hS : ∀ id, S id → S' id) (h : d.Sl S H s xs) : d.Sl S' H s xs := by
  rcases h with h | ⟨id, k, c, b, h1, h2, h3, h4, h5, h6⟩
  · exact .inl h
  · exact .inr ⟨id, k, c, b, h1, h2, hS id h3, h4, h5, fun i x hx => d.more hS (h6 i x hx)⟩
def sl {α : Type} (d : Kn α) : Kn (List α) where
  es := 1
  R := fun S H xs cs => ∃ s, cs = [s] ∧ d.Sl S H s xs
  len := fun ⟨s, h, _⟩ => by rw [h]; rfl
  same := fun hs ⟨s, h, k⟩ => ⟨s, h, Sl.same hs k⟩
  more := fun hS ⟨s, h, k⟩ => ⟨s, h, Sl.more hS k⟩
def pair {α β : Type} (a : Kn α) (b : Kn β) : Kn (α × β) where
  es := a.es + b.es
  R := fun S H x cs => ∃ c d, cs = c ++ d ∧ a.R S H x.1 c ∧ b.R S H x.2 d
  len := fun ⟨c, d, h, h1, h2⟩ => by rw [h, List.length_append, a.len h1, b.len h2]
  same := fun hs ⟨c, d, h, h1, h2⟩ => ⟨c, d, h, a.same hs h1, b.same hs h2⟩
  more := fun hS ⟨c, d, h, h1, h2⟩ => ⟨c, d, h, a.more hS h1, b.more hS h2⟩
end Kn
/-- The address of element j of a slice. -/
def slId : Value → Nat
  | .slice (some ⟨id, _, _⟩) _ _ => id
  | _ => 0
def slOff : Value → Nat
  | .slice (some ⟨_, k, _⟩) _ _ => k
  | _ => 0
def elemAt (s : Value) (j : Int) (es : Nat) : Value := .pointer (some ⟨slId s, slOff s + j.toNat * es, none⟩)
section
variable {P : Program} {α : Type} {d : Kn α} {S S' : Ids} {H H0 : AH} {s : Value} {xs : List α}
theorem Kn.Sl.form (h : d.Sl S H s xs) : ∃ a c, s = .slice a xs.length c := by
  rcases h with ⟨h1, a, c, h2, _⟩ | ⟨id, k, c, b, h1, _⟩
  · exact ⟨a, c, by rw [h2, h1]; rfl⟩
  · exact ⟨_, c, h1⟩
theorem Kn.Sl.at_ (h : d.Sl S H s xs) {j : Int} (h0 : 0 ≤ j) (h1 : j < xs.length) : ∃ id k c b x, s = .slice (some ⟨id, k, some d.es⟩) xs.length c ∧ H.m id = some b ∧ S id ∧ xs[j.toNat]? = some x ∧ k + j.toNat * d.es + d.es ≤ b.cells.length ∧ d.R S H x ((b.cells.drop (k + j.toNat * d.es)).take d.es) := by
  rcases h with ⟨hx, _⟩ | ⟨id, k, c, b, e1, e2, e3, e4, e5, e6⟩
  · subst hx; simp at h1; omega
  · have hj : j.toNat < xs.length := by omega
    refine ⟨id, k, c, b, xs[j.toNat], e1, e4, e3, List.getElem?_eq_getElem hj, ?_, e6 _ _ (List.getElem?_eq_getElem hj)⟩
    have : (j.toNat + 1) * d.es ≤ xs.length * d.es := Nat.mul_le_mul_right _ (by omega)
    rw [Nat.add_mul] at this
    omega
/-- What is frozen reads in the callee's memory as in the caller's. -/
theorem Kn.Sl.to (h : d.Sl S H0 s xs) (hf : Fz S H0 H) : d.Sl (Low H.n) H s xs := Kn.Sl.more (fun id hs => (hf id hs).1) (Kn.Sl.same (fun id hs => (hf id hs).2) h)
/-- .. and over to a later base. -/
theorem Kn.Sl.on {H1 : AH} (h : d.Sl S H0 s xs) (hs : ∀ id, S id → H1.m id = H0.m id) (hS : ∀ id, S id → S' id) : d.Sl S' H1 s xs := Kn.Sl.more hS (Kn.Sl.same hs h)
end
/-- A function that makes no visible memory: called so, it yields a value of which 'post' holds. -/
def Spec (P : Program) (S : Ids) (H0 : AH) (f : FuncId) (args : List Value) (post : Value → Prop) : Prop :=
  ∀ H, Fin' H → Fz S H0 H → Run P f args.toArray H (fun v H1 => Ext H H1 ∧ Fin' H1 ∧ post v)
/-- A function that makes memory: .. what it yields stands in memory named from n on. -/
def SpecM (P : Program) (S : Ids) (H0 : AH) (f : FuncId) (args : List Value) (post : Nat → Value → AH → Prop) : Prop :=
  ∀ H, Fin' H → Fz S H0 H → Run P f args.toArray H (fun v H1 => Ext H H1 ∧ Fin' H1 ∧ post H.n v H1)
/-- A function's results, where variables in memory stand for some. -/
def aresT (P : Program) (e : Env) (T : List Var) : List ResultVar → Option (List Value × List Nat × List Nat)
  | [] => some ([], [], [])
  | .tmp t :: l => match aresT P e T l with
    | some (vs, a, b) => some (e t :: vs, a, b)
    | none => none
  | .cell a t :: l => match e a with
    | .pointer (some ⟨id, k, some j⟩) => match T[j]? with
      | some w => match bload P w.2 t k with
        | some v => match aresT P e T l with
          | some (vs, a, b) => some (v :: vs, id :: a, w.1 :: b)
          | none => none
        | none => none
      | none => none
    | _ => none
section
variable {P : Program} {S : Ids} {H0 : AH} {Q : PostC}
theorem aresT_ok {e : Env} {T : List Var} {n : Nat} {H : AH} (g : Good S H0 T n H) : ∀ (l : List ResultVar) {vs : List Value} {a b : List Nat}, aresT P e T l = some (vs, a, b) → a = b → ares P e H l = some vs
  | [], _, _, _, h, _ => by simp only [aresT] at h; cases h; rfl
  | .tmp t :: l, vs, a, b, h, hab => by
    simp only [aresT] at h
    split at h
    · rename_i vs' a' b' h'
      cases h
      simp only [ares, aresT_ok g l h' hab]
    · cases h
  | .cell ad t :: l, vs, a, b, h, hab => by
    simp only [aresT] at h
    split at h
    · rename_i id k j hp
      split at h
      · rename_i w hw
        split at h
        · rename_i v hv
          split at h
          · rename_i vs' a' b' h'
            cases h
            obtain ⟨h1, h2⟩ := List.cons.inj hab
            subst h1
            simp only [ares, hp, bload_ok (g.vars j w hw).1, hv, aresT_ok g l h' h2]
          · cases h
        · cases h
      · cases h
    · cases h
/-- What is to hold at a function's end. -/
def Fin1 (P : Program) (fn : Func) (post : Value → AH → Prop) : PostC := fun x e H =>
  match x with
  | .exit _ => False
  | _ => match ares P e H fn.results.toList with
    | some vs => post (aout vs) H
    | none => False
theorem Good.start {H : AH} (hf : Fin' H) : Good (Low H.n) H [] H.n H :=
  ⟨rfl, hf, fun id hs => ⟨hs, rfl⟩, fun j v h => by simp at h, fun i j u v h => by simp at h⟩
theorem Good.ext {H H1 : AH} {T : List Var} {n : Nat} (g : Good (Low H.n) H T n H1) : Ext H H1 := by
  have hn := g.n_
  refine ⟨?_, fun id hid => (g.froz id hid).2⟩
  rcases Nat.eq_zero_or_pos H.n with h | h
  · omega
  · have := (g.froz (H.n - 1) (by unfold Low; omega)).1
    omega
theorem Good.fz {H1 : AH} {T : List Var} {n : Nat} (g : Good S H0 T n H1) : Fz S H0 H1 := fun id hs => by
  have hn := g.n_
  obtain ⟨h1, h2⟩ := g.froz id hs
  exact ⟨by omega, h2⟩
theorem Good.weak {H1 : AH} {T : List Var} {n : Nat} {S' : Ids} {H0' : AH} (g : Good S H0 T n H1) (hs : ∀ id, S' id → S id ∧ H0'.m id = H0.m id) : Good S' H0' T n H1 :=
  ⟨g.n_, g.fin, fun id h => ⟨(g.froz id (hs id h).1).1, by rw [(g.froz id (hs id h).1).2, (hs id h).2]⟩, fun j v h => ⟨(g.vars j v h).1, (g.vars j v h).2.1, fun hh => (g.vars j v h).2.2 (hs _ hh).1⟩, g.dist⟩
theorem KW.wc {c : Code} {e : Env} {H : AH} {T : List Var} {n : Nat} (h : KW P S H0 Q n T [.code c] e) (g : Good S H0 T n H) : Wc P c Q e H := by
  have := h H g
  simp only [WK] at this
  exact this.mono fun x e H hx => by cases x <;> exact hx
theorem envL_eq (args : List Value) : env0 args.toArray = fun t => args.getD t undef := by
  funext t
  simp [env0]
/-- A function by its code. -/
theorem SpecM.of {f : FuncId} {fn : Func} {c : Code} {args : List Value} {post : Nat → Value → AH → Prop} (hf : P.funcs[f]? = some fn) (hb : fn.body = some c) (hok : fnOk fn = true) (hs : Nat.ble args.length fn.ntmps = true)
    (h : ∀ H, Fin' H → Fz S H0 H → KW P (Low H.n) H (Fin1 P fn (fun v H1 => Ext H H1 ∧ Fin' H1 ∧ post H.n v H1)) H.n [] [.code c] (fun t => args.getD t undef)) : SpecM P S H0 f args post := by
  intro H hfin hfz
  refine Run.of hf hb hok (by simpa using Nat.le_of_ble_eq_true hs) ?_
  rw [envL_eq]
  exact (h H hfin hfz).wc (Good.start hfin)
theorem Spec.of {f : FuncId} {fn : Func} {c : Code} {args : List Value} {post : Value → Prop} (hf : P.funcs[f]? = some fn) (hb : fn.body = some c) (hok : fnOk fn = true) (hs : Nat.ble args.length fn.ntmps = true)
    (h : ∀ H, Fin' H → Fz S H0 H → KW P (Low H.n) H (Fin1 P fn (fun v H1 => Ext H H1 ∧ Fin' H1 ∧ post v)) H.n [] [.code c] (fun t => args.getD t undef)) : Spec P S H0 f args post :=
  SpecM.of (post := fun _ v _ => post v) hf hb hok hs h
/-- The end of a function whose value alone counts. -/
theorem KEvt.fin {fn : Func} {H : AH} {post : Value → Prop} {x : AX} {c : Cf} {vs : List Value} {a b : List Nat} (hx : x = .normal ∨ x = .ret) (hr : aresT P c.e c.T fn.results.toList = some (vs, a, b)) (hab : a = b) (hp : post (aout vs)) :
    KEvt P (Low H.n) H (Fin1 P fn (fun v H1 => Ext H H1 ∧ Fin' H1 ∧ post v)) (.done x) c := by
  intro H1 g
  have hv := aresT_ok (P := P) g _ hr hab
  rcases hx with rfl | rfl <;> simp only [Fin1, hv] <;> exact ⟨g.ext, g.fin, hp⟩
/-- An operation for which something has been shown. -/
theorem KEvt.pure {o : Oper} {dr : Bool} {c : Cf} (v : Value) (hc : opClass o.op = 0) (hp : pop P o.op c.e = some v) (hk : KW P S H0 Q c.n c.T c.k (put c.e o.dst v)) : KEvt P S H0 Q (.op o dr) c := by
  intro H g
  refine ⟨0, v, H, ?_, hk H g⟩
  unfold evOp
  split
  · rename_i hop; rw [hop] at hc; simp [opClass] at hc
  · rw [hc]; exact ⟨hp, rfl⟩
theorem KEvt.heap {o : Oper} {dr : Bool} {c : Cf} (v : Value) (T' : List Var) (n' : Nat) (hc : opClass o.op = 1 ∨ opClass o.op = 2) (hp : ∀ H, Good S H0 c.T c.n H → ∃ tag H1, hop P tag o.op c.e H = some (v, H1) ∧ Good S H0 T' n' H1) (hk : KW P S H0 Q n' T' c.k (put c.e o.dst v)) : KEvt P S H0 Q (.op o dr) c := by
  intro H g
  obtain ⟨tag, H1, h1, g1⟩ := hp H g
  refine ⟨0, v, H1, ?_, hk H1 g1⟩
  unfold evOp
  split
  · rename_i hop; rw [hop] at hc; simp [opClass] at hc
  · split
    · rename_i h0; omega
    · exact ⟨tag, h1⟩
/-- A call: the arguments without tags. -/
def cargs (e : Env) (first cap : Array Value) (xs : Array Operand) : List Value := (first.toList ++ (xs.toList.map (ev e) ++ cap.toList)).map untag1
theorem KEvt.callG {o : Oper} {dr : Bool} {c : Cf} {f : Operand} {xs : Array Operand} {ts : Array TypeId} {g : FuncId} {first cap : Array Value} (ho : o.op = .call { callee := .value f, args := xs, argTypes := ts }) (hf : ev c.e f = .func (.func g) first cap)
    {post : Nat → Value → AH → Prop} (hs : ∀ H, Good S H0 c.T c.n H → Run P g (cargs c.e first cap xs).toArray H (fun v H1 => Ext H H1 ∧ Fin' H1 ∧ post H.n v H1))
    (hk : ∀ v H1, c.n ≤ H1.n → (∀ id, S id → H1.m id = H0.m id) → post c.n v H1 → KW P (fun id => S id ∨ New c.n H1.n id) H1 Q H1.n c.T c.k (put c.e o.dst (untag v))) : KEvt P S H0 Q (.op o dr) c := by
  intro H gd
  obtain ⟨n, v, H1, h1, hx, hfin, hp⟩ := hs H gd
  have hn := gd.n_
  have e : untags (first ++ aargs c.e xs ++ cap) = (cargs c.e first cap xs).toArray := by
    apply Array.ext'
    simp [aargs, untags, cargs]
  refine ⟨n, untag v, H1, ?_, ?_⟩
  · rw [ho]
    simp only [evOp, evCall, hf]
    exact ⟨v, rfl, by rw [e]; exact h1, fun _ => hx⟩
  · rw [hn] at hp
    refine hk v H1 (by rw [← hn]; exact hx.1) (fun id hs => by obtain ⟨h2, h3⟩ := gd.froz id hs; rw [hx.2 id (by omega), h3]) hp H1 ?_
    refine ⟨rfl, hfin, fun id hid => ⟨?_, rfl⟩, fun j w hj => ?_, gd.dist⟩
    · rcases hid with hid | hid
      · have := (gd.froz id hid).1; have := hx.1; omega
      · exact hid.2
    · obtain ⟨h2, h3, h4⟩ := gd.vars j w hj
      refine ⟨by rw [hx.2 _ (by omega)]; exact h2, by have := hx.1; omega, fun hh => ?_⟩
      rcases hh with hh | hh
      · exact h4 hh
      · have := hh.1; omega
theorem KEvt.callM {o : Oper} {dr : Bool} {c : Cf} {f : Operand} {xs : Array Operand} {ts : Array TypeId} {g : FuncId} {first cap : Array Value} (ho : o.op = .call { callee := .value f, args := xs, argTypes := ts }) (hf : ev c.e f = .func (.func g) first cap)
    {post : Nat → Value → AH → Prop} (hs : SpecM P S H0 g (cargs c.e first cap xs) post)
    (hk : ∀ v H1, c.n ≤ H1.n → (∀ id, S id → H1.m id = H0.m id) → post c.n v H1 → KW P (fun id => S id ∨ New c.n H1.n id) H1 Q H1.n c.T c.k (put c.e o.dst (untag v))) : KEvt P S H0 Q (.op o dr) c :=
  KEvt.callG ho hf (fun H gd => hs H gd.fin gd.fz) hk
theorem KEvt.call {o : Oper} {dr : Bool} {c : Cf} {f : Operand} {xs : Array Operand} {ts : Array TypeId} {g : FuncId} {first cap : Array Value} (ho : o.op = .call { callee := .value f, args := xs, argTypes := ts }) (hf : ev c.e f = .func (.func g) first cap)
    {post : Value → Prop} (hs : Spec P S H0 g (cargs c.e first cap xs) post)
    (hk : ∀ v n', c.n ≤ n' → post v → KW P S H0 Q n' c.T c.k (put c.e o.dst (untag v))) : KEvt P S H0 Q (.op o dr) c := by
  refine KEvt.callM ho hf (post := fun _ v _ => post v) hs (fun v H1 hn hsame hp => ?_)
  intro H gd
  exact hk v H1.n hn hp H (gd.weak (fun id hs => ⟨.inl hs, (hsame id hs).symm⟩))
/-- .. of a function that reads variables of the caller. -/
theorem KEvt.callV {o : Oper} {dr : Bool} {c : Cf} {f : Operand} {xs : Array Operand} {ts : Array TypeId} {g : FuncId} {first cap : Array Value} (ho : o.op = .call { callee := .value f, args := xs, argTypes := ts }) (hf : ev c.e f = .func (.func g) first cap)
    {post : Value → Prop} (hs : ∀ H, Good S H0 c.T c.n H → Spec P (Low H.n) H g (cargs c.e first cap xs) post)
    (hk : ∀ v n', c.n ≤ n' → post v → KW P S H0 Q n' c.T c.k (put c.e o.dst (untag v))) : KEvt P S H0 Q (.op o dr) c := by
  refine KEvt.callG ho hf (post := fun _ v _ => post v) (fun H gd => hs H gd H gd.fin (fun id hid => ⟨hid, rfl⟩)) (fun v H1 hn hsame hp => ?_)
  intro H gd
  exact hk v H1.n hn hp H (gd.weak (fun id hs => ⟨.inl hs, (hsame id hs).symm⟩))
/-- An element's address. -/
theorem KEvt.idx {α : Type} {d : Kn α} {o : Oper} {dr : Bool} {c : Cf} {t el : TypeId} {x i : Operand} {inf : TypeInfo} {s : Value} {xs : List α} {kk : IntKind} {j : Int} (ho : o.op = .indexAddr t x i) (hs : d.Sl S H0 s xs) (h0 : 0 ≤ j) (h1 : j < xs.length)
    (hu : P.underlying t = some (.slice el)) (hi : P.info? el = some inf) (he : inf.size = d.es) (hx : ev c.e x = s) (hj : ev c.e i = .int kk j) (hk : KW P S H0 Q c.n c.T c.k (put c.e o.dst (elemAt s j d.es))) : KEvt P S H0 Q (.op o dr) c := by
  obtain ⟨id, k, cc, b, y, rfl, _⟩ := hs.at_ h0 h1
  refine KEvt.pure _ (by rw [ho]; rfl) ?_ hk
  rw [ho]
  simp only [pop, hu, hx, hj, hi, he]
  rw [if_pos ⟨h0, h1⟩]
  rfl
/-- An element that is one cell. -/
theorem KEvt.ld {α : Type} {d : Kn α} {o : Oper} {dr : Bool} {c : Cf} {t : TypeId} {x : Operand} {s : Value} {xs : List α} {j : Int} {td : TypeDesc} (ho : o.op = .load t x) (hs : d.Sl S H0 s xs) (h0 : 0 ≤ j) (h1 : j < xs.length) (hes : d.es = 1)
    (hu : P.underlying t = some td) (hnot : (match td with | .struct _ => false | .array _ _ => false | _ => true) = true) (hx : ev c.e x = elemAt s j d.es)
    (hk : ∀ y v, xs[j.toNat]? = some y → d.R S H0 y [v] → KW P S H0 Q c.n c.T c.k (put c.e o.dst v)) : KEvt P S H0 Q (.op o dr) c := by
  obtain ⟨id, k, cc, b, y, rfl, hm, hS, hy, hl, hR⟩ := hs.at_ h0 h1
  obtain ⟨v, hv⟩ : ∃ v, (b.cells.drop (k + j.toNat * d.es)).take d.es = [v] := List.length_eq_one_iff.1 (by rw [d.len hR, hes])
  rw [hv] at hR
  have hc : b.cells[k + j.toNat * d.es]? = some v := by
    have : ((b.cells.drop (k + j.toNat * d.es)).take d.es)[0]? = some v := by rw [hv]; rfl
    rw [List.getElem?_take, if_pos (by omega), List.getElem?_drop] at this
    simpa using this
  refine KEvt.heap v c.T c.n (by rw [ho]; exact .inl rfl) (fun H g => ⟨none, H, ?_, g⟩) (hk y v hy hR)
  rw [ho]
  have hb : H.m id = some b := by rw [(g.froz id hS).2]; exact hm
  have hl' : aload P H t id (k + j.toNat * d.es) = some v := by
    unfold aload
    simp only [hb, hu]
    cases td <;> first | exact hc | (simp at hnot)
  simp only [hop, hx, elemAt, slId, slOff, hl']
/-- An element that is a struct. -/
theorem KEvt.ldS {α : Type} {d : Kn α} {o : Oper} {dr : Bool} {c : Cf} {t : TypeId} {x : Operand} {s : Value} {xs : List α} {j : Int} {fs : Array Field} {inf : TypeInfo} (ho : o.op = .load t x) (hs : d.Sl S H0 s xs) (h0 : 0 ≤ j) (h1 : j < xs.length)
    (hu : P.underlying t = some (.struct fs)) (hi : P.info? t = some inf) (hes : inf.size = d.es) (hx : ev c.e x = elemAt s j d.es)
    (hk : ∀ y cs, xs[j.toNat]? = some y → d.R S H0 y cs → KW P S H0 Q c.n c.T c.k (put c.e o.dst (.agg cs.toArray))) : KEvt P S H0 Q (.op o dr) c := by
  obtain ⟨id, k, cc, b, y, rfl, hm, hS, hy, hl, hR⟩ := hs.at_ h0 h1
  refine KEvt.heap _ c.T c.n (by rw [ho]; exact .inl rfl) (fun H g => ⟨none, H, ?_, g⟩) (hk y _ hy hR)
  rw [ho]
  have hb : H.m id = some b := by rw [(g.froz id hS).2]; exact hm
  have hl' : aload P H t id (k + j.toNat * d.es) = some (.agg ((b.cells.drop (k + j.toNat * d.es)).take d.es).toArray) := by
    unfold aload
    simp only [hb, hu, hi, hes]
    rw [if_pos hl]
  simp only [hop, hx, elemAt, slId, slOff, hl']
/-- Slots that are known, over others. -/
def kn (b : Env) : List (Nat × Value) → Env
  | [] => b
  | (t, v) :: l => fun j => if j = t then v else kn b l j
def Has (e : Env) : List (Nat × Value) → Prop
  | [] => True
  | (t, v) :: l => e t = v ∧ Has e l
theorem kn_self : ∀ (l : List (Nat × Value)) {e : Env}, Has e l → kn e l = e
  | [], _, _ => rfl
  | (t, v) :: l, e, h => by
    funext j
    simp only [kn]
    split
    · rename_i hj; subst hj; exact h.1.symm
    · rw [kn_self l h.2]
/-- A loop: its slots, its variables, what is frozen, by a state. -/
theorem KW.loop {σ : Type} {c : Code} {k : List It} {e : Env} {T : List Var} {n : Nat} (L : σ → List (Nat × Value)) (SS : σ → Ids) (HH : σ → AH) (TT : σ → List Var) (I : σ → Prop) (μ : σ → Nat) (s : σ) (h0 : I s) (hL : Has e (L s)) (hS : SS s = S) (hH : HH s = H0) (hT : TT s = T)
    (step : ∀ s, I s → ∀ b n, KW P (SS s) (HH s) Q n (TT s) (.code c :: .rnd (fun e H => ∃ s', I s' ∧ μ s' < μ s ∧ Has e (L s') ∧ Good (SS s') (HH s') (TT s') H.n H) :: k) (kn b (L s))) : KW P S H0 Q n T (.code (.loop c) :: k) e := by
  intro H g
  simp only [WK]
  refine Wc.rounds (fun m e H => ∃ s, μ s = m ∧ I s ∧ Has e (L s) ∧ Good (SS s) (HH s) (TT s) H.n H) (k := μ s) ⟨s, rfl, h0, hL, by rw [hS, hH, hT, g.n_]; exact g⟩ ?_
  rintro m e H ⟨s, rfl, hi, hL, g⟩
  have h := step s hi e H.n H g
  rw [kn_self _ hL] at h
  simp only [WK] at h
  refine h.mono fun x e H hx => ?_
  cases x with
  | normal => obtain ⟨s', h1, h2, h3, h4⟩ := hx; exact ⟨μ s', h2, s', rfl, h1, h3, h4⟩
  | exit id => exact hx
  | ret => exact hx
/-- A loop in which nothing is made that stays. -/
theorem KW.loop0 {σ : Type} {c : Code} {k : List It} {e : Env} {T : List Var} {n : Nat} (L : σ → List (Nat × Value)) (I : σ → Prop) (μ : σ → Nat) (s : σ) (h0 : I s) (hL : Has e (L s))
    (step : ∀ s, I s → ∀ b n, KW P S H0 Q n T (.code c :: .rnd (fun e H => ∃ s', I s' ∧ μ s' < μ s ∧ Has e (L s') ∧ Good S H0 T H.n H) :: k) (kn b (L s))) : KW P S H0 Q n T (.code (.loop c) :: k) e :=
  KW.loop L (fun _ => S) (fun _ => H0) (fun _ => T) I μ s h0 hL rfl rfl rfl step
end
end Go.Proofs.Ytaepgfafbnjccaa.Am
