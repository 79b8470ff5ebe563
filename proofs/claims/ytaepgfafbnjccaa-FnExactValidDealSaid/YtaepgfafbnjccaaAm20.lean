/- The rules by which a function is walked, each with the run up to its event. For every program. No condition beyond each theorem's own. -/
import Derived.Test.YtaepgfafbnjccaaAm19
import Derived.IntWalk
set_option linter.unusedSimpArgs false
set_option linter.unusedVariables false
namespace Go.Proofs.Ytaepgfafbnjccaa.Am
open Go Go.RowKit
section
variable {P : Program} {S : Ids} {H0 : AH} {Q : PostC} {k k1 k2 : List It} {e e1 e2 : Env} {T T1 T2 : List Var} {n n1 n2 : Nat} {l1 r1 l2 r2 : List Nat} {d1 d2 : Tmp}
theorem wr {x : Int} (h : -9223372036854775808 ≤ x) (h' : x ≤ 9223372036854775807) : IntKind.i64.wrap x = x := IntWalk.i64_in x ⟨h, h'⟩
theorem wru {n : Int} (h0 : 0 ≤ n) (h1 : n < 18446744073709551616) : IntKind.u64.wrap n = n := by
  simp [IntKind.wrap, IntKind.bits, IntKind.signed]; omega
/-- A run to its event. -/
abbrev Go1 (P : Program) (k : List It) (e : Env) (T : List Var) (n : Nat) (x : Evt) (k1 : List It) (e1 : Env) (T1 : List Var) (n1 : Nat) (l1 r1 : List Nat) : Prop := runK P none 4000 k e T n [] [] = some (x, ⟨k1, e1, T1, n1, l1, r1⟩)
theorem KW.cnd {p : Prop} [Decidable p] {a b : Code} (h : Go1 P k e T n (.cond (decide p) a b) k1 e1 T1 n1 l1 r1) (hlr : l1 = r1) (h1 : p → KW P S H0 Q n1 T1 (.code a :: k1) e1) (h2 : ¬ p → KW P S H0 Q n1 T1 (.code b :: k1) e1) : KW P S H0 Q n T k e :=
  KW.go h hlr ⟨fun h => h1 (of_decide_eq_true h), fun h => h2 (of_decide_eq_false h)⟩
theorem KW.cndB {t : Bool} {a b : Code} (h : Go1 P k e T n (.cond t a b) k1 e1 T1 n1 l1 r1) (hlr : l1 = r1) (h1 : t = true → KW P S H0 Q n1 T1 (.code a :: k1) e1) (h2 : t = false → KW P S H0 Q n1 T1 (.code b :: k1) e1) : KW P S H0 Q n T k e :=
  KW.go h hlr ⟨h1, h2⟩
theorem KW.tst {p : Prop} [Decidable p] (h : Go1 P k e T n (.test (some d1) (decide p)) k1 e1 T1 n1 l1 r1) (hlr : l1 = r1) (h1 : p → KW P S H0 Q n1 T1 k1 (put1 e1 d1 (.bool true))) (h2 : ¬ p → KW P S H0 Q n1 T1 k1 (put1 e1 d1 (.bool false))) : KW P S H0 Q n T k e :=
  KW.go h hlr ⟨fun h => by rw [put1_eq]; exact h1 (of_decide_eq_true h), fun h => by rw [put1_eq]; exact h2 (of_decide_eq_false h)⟩
theorem KW.tstB {t : Bool} (h : Go1 P k e T n (.test (some d1) t) k1 e1 T1 n1 l1 r1) (hlr : l1 = r1) (h1 : t = true → KW P S H0 Q n1 T1 k1 (put1 e1 d1 (.bool true))) (h2 : t = false → KW P S H0 Q n1 T1 k1 (put1 e1 d1 (.bool false))) : KW P S H0 Q n T k e :=
  KW.go h hlr ⟨fun h => by rw [put1_eq]; exact h1 h, fun h => by rw [put1_eq]; exact h2 h⟩
theorem KW.ret {fn : Func} {H : AH} {post : Value → Prop} {vs : List Value} {a b : List Nat} (h : Go1 P k e T n (.done .ret) k1 e1 T1 n1 l1 r1) (hlr : l1 = r1) (hr : aresT P e1 T1 fn.results.toList = some (vs, a, b)) (hab : a = b) (hp : post (aout vs)) : KW P (Low H.n) H (Fin1 P fn (fun v H1 => Ext H H1 ∧ Fin' H1 ∧ post v)) n T k e :=
  KW.go h hlr (KEvt.fin (.inr rfl) hr hab hp)
theorem KW.end_ {fn : Func} {H : AH} {post : Value → Prop} {vs : List Value} {a b : List Nat} (h : Go1 P k e T n (.done .normal) k1 e1 T1 n1 l1 r1) (hlr : l1 = r1) (hr : aresT P e1 T1 fn.results.toList = some (vs, a, b)) (hab : a = b) (hp : post (aout vs)) : KW P (Low H.n) H (Fin1 P fn (fun v H1 => Ext H H1 ∧ Fin' H1 ∧ post v)) n T k e :=
  KW.go h hlr (KEvt.fin (.inl rfl) hr hab hp)
theorem KW.callM {dr : Bool} {f : Operand} {xs : Array Operand} {ts : Array TypeId} {g : FuncId} {first cap : Array Value} {o : Oper} {post : Nat → Value → AH → Prop} (h : Go1 P k e T n (.op o dr) k1 e1 T1 n1 l1 r1) (hlr : l1 = r1) (ho : o.op = .call { callee := .value f, args := xs, argTypes := ts }) (hd : o.dst = some d1) (hf : ev e1 f = .func (.func g) first cap)
    (hs : SpecM P S H0 g (cargs e1 first cap xs) post)
    (hk : ∀ v H1, n1 ≤ H1.n → (∀ id, S id → H1.m id = H0.m id) → post n1 v H1 → KW P (fun id => S id ∨ New n1 H1.n id) H1 Q H1.n T1 k1 (put1 e1 d1 (untag v))) : KW P S H0 Q n T k e :=
  KW.go h hlr (KEvt.callM (c := ⟨_, _, _, _, _, _⟩) ho hf hs (fun v H1 h1 h2 h3 => by rw [hd, put1_eq]; exact hk v H1 h1 h2 h3))
/-- .. whose value is one that is known. -/
theorem KW.callE {dr : Bool} {f : Operand} {xs : Array Operand} {ts : Array TypeId} {g : FuncId} {first cap : Array Value} {o : Oper} {v : Value} (h : Go1 P k e T n (.op o dr) k1 e1 T1 n1 l1 r1) (hlr : l1 = r1) (ho : o.op = .call { callee := .value f, args := xs, argTypes := ts }) (hd : o.dst = some d1) (hf : ev e1 f = .func (.func g) first cap)
    (hs : Spec P S H0 g (cargs e1 first cap xs) (fun u => u = v))
    (hk : ∀ n', n1 ≤ n' → KW P S H0 Q n' T1 k1 (put1 e1 d1 (untag v))) : KW P S H0 Q n T k e :=
  KW.go h hlr (KEvt.call (c := ⟨_, _, _, _, _, _⟩) ho hf hs (fun v' n' hn hv => by subst hv; rw [hd, put1_eq]; exact hk n' hn))
theorem KW.call {dr : Bool} {f : Operand} {xs : Array Operand} {ts : Array TypeId} {g : FuncId} {first cap : Array Value} {o : Oper} {post : Value → Prop} (h : Go1 P k e T n (.op o dr) k1 e1 T1 n1 l1 r1) (hlr : l1 = r1) (ho : o.op = .call { callee := .value f, args := xs, argTypes := ts }) (hd : o.dst = some d1) (hf : ev e1 f = .func (.func g) first cap)
    (hs : Spec P S H0 g (cargs e1 first cap xs) post)
    (hk : ∀ v n', n1 ≤ n' → post v → KW P S H0 Q n' T1 k1 (put1 e1 d1 (untag v))) : KW P S H0 Q n T k e :=
  KW.go h hlr (KEvt.call (c := ⟨_, _, _, _, _, _⟩) ho hf hs (fun v n' hn hv => by rw [hd, put1_eq]; exact hk v n' hn hv))
/-- .. that reads variables of the caller. -/
theorem KW.callV {dr : Bool} {f : Operand} {xs : Array Operand} {ts : Array TypeId} {g : FuncId} {first cap : Array Value} {o : Oper} {v : Value} (h : Go1 P k e T n (.op o dr) k1 e1 T1 n1 l1 r1) (hlr : l1 = r1) (ho : o.op = .call { callee := .value f, args := xs, argTypes := ts }) (hd : o.dst = some d1) (hf : ev e1 f = .func (.func g) first cap)
    (hs : ∀ H, Good S H0 T1 n1 H → Spec P (Low H.n) H g (cargs e1 first cap xs) (fun u => u = v))
    (hk : ∀ n', n1 ≤ n' → KW P S H0 Q n' T1 k1 (put1 e1 d1 (untag v))) : KW P S H0 Q n T k e :=
  KW.go h hlr (KEvt.callV (c := ⟨_, _, _, _, _, _⟩) ho hf hs (fun v' n' hn hv => by subst hv; rw [hd, put1_eq]; exact hk n' hn))
theorem KW.callVp {dr : Bool} {f : Operand} {xs : Array Operand} {ts : Array TypeId} {g : FuncId} {first cap : Array Value} {o : Oper} {post : Value → Prop} (h : Go1 P k e T n (.op o dr) k1 e1 T1 n1 l1 r1) (hlr : l1 = r1) (ho : o.op = .call { callee := .value f, args := xs, argTypes := ts }) (hd : o.dst = some d1) (hf : ev e1 f = .func (.func g) first cap)
    (hs : ∀ H, Good S H0 T1 n1 H → Spec P (Low H.n) H g (cargs e1 first cap xs) post)
    (hk : ∀ v n', n1 ≤ n' → post v → KW P S H0 Q n' T1 k1 (put1 e1 d1 (untag v))) : KW P S H0 Q n T k e :=
  KW.go h hlr (KEvt.callV (c := ⟨_, _, _, _, _, _⟩) ho hf hs (fun v n' hn hv => by rw [hd, put1_eq]; exact hk v n' hn hv))
/-- A round's end. -/
theorem KW.nxt {R : Env → AH → Prop} (h : Go1 P k e T n (.round R) k1 e1 T1 n1 l1 r1) (hlr : l1 = r1) (hk : ∀ H, Good S H0 T1 H.n H → R e1 H) : KW P S H0 Q n T k e :=
  KW.go h hlr (fun H g => hk H (by have := g.n_; rw [this]; exact g))
/-- A loop in which nothing is made that stays. -/
theorem KW.lp {σ : Type} {a : Code} (h : Go1 P k e T n (.loop a) k1 e1 T1 n1 l1 r1) (hlr : l1 = r1) (L : σ → List (Nat × Value)) (I : σ → Prop) (μ : σ → Nat) (s : σ) (h0 : I s) (hL : Has e1 (L s))
    (step : ∀ s, I s → ∀ b n, KW P S H0 Q n T1 (.code a :: .rnd (fun e H => ∃ s', I s' ∧ μ s' < μ s ∧ Has e (L s') ∧ Good S H0 T1 H.n H) :: k1) (kn b (L s))) : KW P S H0 Q n T k e :=
  KW.go h hlr (KW.loop0 L I μ s h0 hL step)
/-- Paths meet behind a region: what holds there, by a state. -/
theorem KW.mid {σ : Type} {a b : Code} (stop : Nat) (h : runK P (some stop) 4000 k e T n [] [] = some (.cut a b, ⟨k1, e1, T1, n1, l1, r1⟩)) (hlr : l1 = r1) (L : σ → List (Nat × Value)) (I : σ → Prop)
    (h1 : KW P S H0 Q n1 T1 (.code a :: .rnd (fun e H => ∃ s, I s ∧ Has e (L s) ∧ Good S H0 T1 H.n H) :: .code b :: k1) e1)
    (h2 : ∀ s, I s → ∀ b' n, KW P S H0 Q n T1 (.code b :: k1) (kn b' (L s))) : KW P S H0 Q n T k e := by
  refine KW.go h hlr (fun H g => ?_)
  have h3 := h1 H g
  simp only [WK] at h3 ⊢
  refine h3.mono fun x e H hx => ?_
  cases x with
  | normal =>
    obtain ⟨s, hi, hL, g'⟩ := hx
    have := h2 s hi e H.n H g'
    rw [kn_self _ hL] at this
    simpa only [WK] using this
  | exit id => exact hx
  | ret => exact hx
/-- An operation for which something has been shown. -/
theorem KW.pure {o : Oper} {dr : Bool} {op : Op} (h : Go1 P k e T n (.op o dr) k1 e1 T1 n1 l1 r1) (hlr : l1 = r1) (ho : o.op = op) (hd : o.dst = some d1) (hc : opClass op = 0) (v : Value) (hp : pop P op e1 = some v) (hk : KW P S H0 Q n1 T1 k1 (put1 e1 d1 v)) : KW P S H0 Q n T k e :=
  KW.go h hlr (KEvt.pure (c := ⟨_, _, _, _, _, _⟩) v (by rw [ho]; exact hc) (by rw [ho]; exact hp) (by rw [hd, put1_eq]; exact hk))
/-- What stands in a frozen block, by a pointer. -/
theorem KW.ldP {o : Oper} {dr : Bool} {t : TypeId} {x : Operand} {id kk : Nat} {sp : Option Nat} {b : Blk} {v : Value} (hS : S id) (hm : H0.m id = some b) (h : Go1 P k e T n (.op o dr) k1 e1 T1 n1 l1 r1) (hlr : l1 = r1) (ho : o.op = .load t x) (hd : o.dst = some d1) (hx : ev e1 x = .pointer (some ⟨id, kk, sp⟩)) (hv : bload P b t kk = some v)
    (hk : KW P S H0 Q n1 T1 k1 (put1 e1 d1 v)) : KW P S H0 Q n T k e := by
  refine KW.go h hlr (KEvt.heap (c := ⟨_, _, _, _, _, _⟩) v T1 n1 (by rw [ho]; exact .inl rfl) (fun H g => ⟨none, H, ?_, g⟩) (by rw [hd, put1_eq]; exact hk))
  have hb : H.m id = some b := by rw [(g.froz id hS).2]; exact hm
  rw [ho]
  simp only [hop, hx, bload_ok hb, hv]
/-- An element of a slice is read: its address, then what stands there. -/
theorem KW.get {α : Type} {d : Kn α} {xs : List α} {o o' : Oper} {dr dr' : Bool} {t t' el : TypeId} {x x' i : Operand} {inf : TypeInfo} {s : Value} {kk : IntKind} {j : Int} {td : TypeDesc} (hs : d.Sl S H0 s xs) (h : Go1 P k e T n (.op o dr) k1 e1 T1 n1 l1 r1) (hlr : l1 = r1) (ho : o.op = .indexAddr t x i) (hd : o.dst = some d1) (hx : ev e1 x = s) (hj : ev e1 i = .int kk j) (hu : P.underlying t = some (.slice el)) (hi : P.info? el = some inf) (he : inf.size = d.es)
    (h' : Go1 P k1 (put1 e1 d1 (elemAt s j d.es)) T1 n1 (.op o' dr') k2 e2 T2 n2 l2 r2) (hlr' : l2 = r2) (ho' : o'.op = .load t' x') (hd' : o'.dst = some d2) (hx' : ev e2 x' = elemAt s j d.es) (hes : d.es = 1)
    (hu' : P.underlying t' = some td) (hnot : (match td with | .struct _ => false | .array _ _ => false | _ => true) = true) (h0 : 0 ≤ j) (h1 : j < xs.length)
    (hk : ∀ y v, xs[j.toNat]? = some y → d.R S H0 y [v] → KW P S H0 Q n2 T2 k2 (put1 e2 d2 v)) : KW P S H0 Q n T k e :=
  KW.go h hlr (KEvt.idx (c := ⟨_, _, _, _, _, _⟩) ho hs h0 h1 hu hi he hx hj (by rw [hd, put1_eq]; exact KW.go h' hlr' (KEvt.ld (c := ⟨_, _, _, _, _, _⟩) ho' hs h0 h1 hes hu' hnot hx' (fun y v h1 h2 => by rw [hd', put1_eq]; exact hk y v h1 h2))))
theorem KW.getS {α : Type} {d : Kn α} {xs : List α} {fs : Array Field} {inf' : TypeInfo} {o o' : Oper} {dr dr' : Bool} {t t' el : TypeId} {x x' i : Operand} {inf : TypeInfo} {s : Value} {kk : IntKind} {j : Int} {td : TypeDesc} (hs : d.Sl S H0 s xs) (h : Go1 P k e T n (.op o dr) k1 e1 T1 n1 l1 r1) (hlr : l1 = r1) (ho : o.op = .indexAddr t x i) (hd : o.dst = some d1) (hx : ev e1 x = s) (hj : ev e1 i = .int kk j) (hu : P.underlying t = some (.slice el)) (hi : P.info? el = some inf) (he : inf.size = d.es)
    (h' : Go1 P k1 (put1 e1 d1 (elemAt s j d.es)) T1 n1 (.op o' dr') k2 e2 T2 n2 l2 r2) (hlr' : l2 = r2) (ho' : o'.op = .load t' x') (hd' : o'.dst = some d2) (hx' : ev e2 x' = elemAt s j d.es)
    (hu' : P.underlying t' = some (.struct fs)) (hi' : P.info? t' = some inf') (hes : inf'.size = d.es) (h0 : 0 ≤ j) (h1 : j < xs.length)
    (hk : ∀ y cs, xs[j.toNat]? = some y → d.R S H0 y cs → KW P S H0 Q n2 T2 k2 (put1 e2 d2 (.agg cs.toArray))) : KW P S H0 Q n T k e :=
  KW.go h hlr (KEvt.idx (c := ⟨_, _, _, _, _, _⟩) ho hs h0 h1 hu hi he hx hj (by rw [hd, put1_eq]; exact KW.go h' hlr' (KEvt.ldS (c := ⟨_, _, _, _, _, _⟩) ho' hs h0 h1 hu' hi' hes hx' (fun y v h1 h2 => by rw [hd', put1_eq]; exact hk y v h1 h2))))
theorem KW.getI {ik : IntKind} {xs : List Int} {o o' : Oper} {dr dr' : Bool} {t t' el : TypeId} {x x' i : Operand} {inf : TypeInfo} {s : Value} {kk : IntKind} {j : Int} {td : TypeDesc} (hs : (Kn.int ik).Sl S H0 s xs) (h : Go1 P k e T n (.op o dr) k1 e1 T1 n1 l1 r1) (hlr : l1 = r1) (ho : o.op = .indexAddr t x i) (hd : o.dst = some d1) (hx : ev e1 x = s) (hj : ev e1 i = .int kk j) (hu : P.underlying t = some (.slice el)) (hi : P.info? el = some inf) (he : inf.size = 1)
    (h' : Go1 P k1 (put1 e1 d1 (elemAt s j 1)) T1 n1 (.op o' dr') k2 e2 T2 n2 l2 r2) (hlr' : l2 = r2) (ho' : o'.op = .load t' x') (hd' : o'.dst = some d2) (hx' : ev e2 x' = elemAt s j 1)
    (hu' : P.underlying t' = some td) (hnot : (match td with | .struct _ => false | .array _ _ => false | _ => true) = true) (h0 : 0 ≤ j) (h1 : j < xs.length)
    (hk : ∀ y, xs[j.toNat]? = some y → KW P S H0 Q n2 T2 k2 (put1 e2 d2 (Value.int ik y))) : KW P S H0 Q n T k e :=
  KW.get hs h hlr ho hd hx hj hu hi he h' hlr' ho' hd' hx' rfl hu' hnot h0 h1 (fun y v hy hv => by
    have : v = Value.int ik y := by simpa [Kn.int] using hv
    subst this; exact hk y hy)
theorem KW.getB  {xs : List Bool} {o o' : Oper} {dr dr' : Bool} {t t' el : TypeId} {x x' i : Operand} {inf : TypeInfo} {s : Value} {kk : IntKind} {j : Int} {td : TypeDesc} (hs : (Kn.bool).Sl S H0 s xs) (h : Go1 P k e T n (.op o dr) k1 e1 T1 n1 l1 r1) (hlr : l1 = r1) (ho : o.op = .indexAddr t x i) (hd : o.dst = some d1) (hx : ev e1 x = s) (hj : ev e1 i = .int kk j) (hu : P.underlying t = some (.slice el)) (hi : P.info? el = some inf) (he : inf.size = 1)
    (h' : Go1 P k1 (put1 e1 d1 (elemAt s j 1)) T1 n1 (.op o' dr') k2 e2 T2 n2 l2 r2) (hlr' : l2 = r2) (ho' : o'.op = .load t' x') (hd' : o'.dst = some d2) (hx' : ev e2 x' = elemAt s j 1)
    (hu' : P.underlying t' = some td) (hnot : (match td with | .struct _ => false | .array _ _ => false | _ => true) = true) (h0 : 0 ≤ j) (h1 : j < xs.length)
    (hk : ∀ y, xs[j.toNat]? = some y → KW P S H0 Q n2 T2 k2 (put1 e2 d2 (Value.bool y))) : KW P S H0 Q n T k e :=
  KW.get hs h hlr ho hd hx hj hu hi he h' hlr' ho' hd' hx' rfl hu' hnot h0 h1 (fun y v hy hv => by
    have : v = Value.bool y := by simpa [Kn.bool] using hv
    subst this; exact hk y hy)
theorem KW.getT  {xs : List ByteArray} {o o' : Oper} {dr dr' : Bool} {t t' el : TypeId} {x x' i : Operand} {inf : TypeInfo} {s : Value} {kk : IntKind} {j : Int} {td : TypeDesc} (hs : (Kn.str).Sl S H0 s xs) (h : Go1 P k e T n (.op o dr) k1 e1 T1 n1 l1 r1) (hlr : l1 = r1) (ho : o.op = .indexAddr t x i) (hd : o.dst = some d1) (hx : ev e1 x = s) (hj : ev e1 i = .int kk j) (hu : P.underlying t = some (.slice el)) (hi : P.info? el = some inf) (he : inf.size = 1)
    (h' : Go1 P k1 (put1 e1 d1 (elemAt s j 1)) T1 n1 (.op o' dr') k2 e2 T2 n2 l2 r2) (hlr' : l2 = r2) (ho' : o'.op = .load t' x') (hd' : o'.dst = some d2) (hx' : ev e2 x' = elemAt s j 1)
    (hu' : P.underlying t' = some td) (hnot : (match td with | .struct _ => false | .array _ _ => false | _ => true) = true) (h0 : 0 ≤ j) (h1 : j < xs.length)
    (hk : ∀ y, xs[j.toNat]? = some y → KW P S H0 Q n2 T2 k2 (put1 e2 d2 (Value.string y))) : KW P S H0 Q n T k e :=
  KW.get hs h hlr ho hd hx hj hu hi he h' hlr' ho' hd' hx' rfl hu' hnot h0 h1 (fun y v hy hv => by
    have : v = Value.string y := by simpa [Kn.str] using hv
    subst this; exact hk y hy)
theorem KW.getL {α : Type} {d : Kn α} {xs : List (List α)} {o o' : Oper} {dr dr' : Bool} {t t' el : TypeId} {x x' i : Operand} {inf : TypeInfo} {s : Value} {kk : IntKind} {j : Int} {td : TypeDesc} (hs : d.sl.Sl S H0 s xs) (h : Go1 P k e T n (.op o dr) k1 e1 T1 n1 l1 r1) (hlr : l1 = r1) (ho : o.op = .indexAddr t x i) (hd : o.dst = some d1) (hx : ev e1 x = s) (hj : ev e1 i = .int kk j) (hu : P.underlying t = some (.slice el)) (hi : P.info? el = some inf) (he : inf.size = 1)
    (h' : Go1 P k1 (put1 e1 d1 (elemAt s j 1)) T1 n1 (.op o' dr') k2 e2 T2 n2 l2 r2) (hlr' : l2 = r2) (ho' : o'.op = .load t' x') (hd' : o'.dst = some d2) (hx' : ev e2 x' = elemAt s j 1)
    (hu' : P.underlying t' = some td) (hnot : (match td with | .struct _ => false | .array _ _ => false | _ => true) = true) (h0 : 0 ≤ j) (h1 : j < xs.length)
    (hk : ∀ y a m, xs[j.toNat]? = some y → d.Sl S H0 (.slice a y.length m) y → KW P S H0 Q n2 T2 k2 (put1 e2 d2 (.slice a y.length m))) : KW P S H0 Q n T k e :=
  KW.get hs h hlr ho hd hx hj hu hi he h' hlr' ho' hd' hx' rfl hu' hnot h0 h1 (fun y v hy hv => by
    obtain ⟨s', h1, h2⟩ := hv
    obtain rfl : v = s' := by simpa using h1
    obtain ⟨a, m, rfl⟩ := h2.form
    exact hk y a m hy h2)
end
end Go.Proofs.Ytaepgfafbnjccaa.Am
