/- Abstract runs computed: code is run up to where something has to be known. For every program. No condition beyond each theorem's own. -/
import Derived.Test.YtaepgfafbnjccaaAm17
set_option linter.unusedSimpArgs false
set_option linter.unusedVariables false
namespace Go.Proofs.Ytaepgfafbnjccaa.Am
open Go Go.RowKit
/-- What is to be run: code, the rest of a region, the end of a block. -/
inductive It where
  | code (c : Code)
  | ops (dr : Bool) (ops : Array Oper) (i : Nat) (os : List Oper)
  | blk (id : Nat)
  | rnd (R : Env → AH → Prop)
/-- What is to hold where code is left: the blocks' ends catch their exits. -/
def WK (P : Program) : List It → PostC → PostC
  | [], Q => Q
  | .blk id :: k, Q => fun x e H => match x with
    | .exit id' => if id' = id then WK P k Q .normal e H else WK P k Q (.exit id') e H
    | x => WK P k Q x e H
  | .code c :: k, Q => fun x e H => match x with
    | .normal => Wc P c (WK P k Q) e H
    | x => WK P k Q x e H
  | .ops dr ops _ os :: k, Q => fun x e H => match x with
    | .normal => Wo P dr ops os (fun e H => WK P k Q .normal e H) e H
    | x => WK P k Q x e H
  | .rnd R :: k, Q => fun x e H => match x with
    | .normal => R e H
    | x => WK P k Q x e H
/-- Where a block's exit leads. -/
def unwind (id : Nat) : List It → Option (List It)
  | [] => none
  | .blk id' :: k => match Nat.beq id id' with
    | true => some k
    | false => unwind id k
  | _ :: k => unwind id k
theorem unwind_some {P : Program} {Q : PostC} {id : Nat} : ∀ {k k' : List It}, unwind id k = some k' → ∀ {e H}, WK P k' Q .normal e H → WK P k Q (.exit id) e H
  | [], _, h => by simp [unwind] at h
  | .blk id' :: k, k', h => by
    intro hk
    simp only [unwind] at h
    split at h
    · rename_i hb
      cases h
      have := Nat.eq_of_beq_eq_true hb
      simp only [WK]
      rw [if_pos this]
      exact hk
    · rename_i hb
      have hne : ¬ id = id' := fun e => by subst e; rw [Nat.beq_refl] at hb; cases hb
      simp only [WK]
      rw [if_neg hne]
      exact unwind_some h hk
  | .code c :: k, k', h => by intro hk; exact unwind_some (k := k) h hk
  | .ops _ _ _ _ :: k, k', h => by intro hk; exact unwind_some (k := k) h hk
  | .rnd _ :: k, k', h => by intro hk; exact unwind_some (k := k) h hk
theorem unwind_none {P : Program} {Q : PostC} {id : Nat} : ∀ {k : List It}, unwind id k = none → ∀ {e H}, Q (.exit id) e H → WK P k Q (.exit id) e H
  | [], _ => fun h => h
  | .blk id' :: k, h => by
    intro hk
    simp only [unwind] at h
    split at h
    · cases h
    · rename_i hb
      have hne : ¬ id = id' := fun e => by subst e; rw [Nat.beq_refl] at hb; cases hb
      simp only [WK]
      rw [if_neg hne]
      exact unwind_none h hk
  | .code c :: k, h => by intro hk; exact unwind_none (k := k) h hk
  | .ops _ _ _ _ :: k, h => by intro hk; exact unwind_none (k := k) h hk
  | .rnd _ :: k, h => by intro hk; exact unwind_none (k := k) h hk
theorem WK_ret {P : Program} {Q : PostC} : ∀ {k : List It} {e H}, Q .ret e H → WK P k Q .ret e H
  | [], _, _, h => h
  | .blk id' :: k, _, _, h => by simp only [WK]; exact WK_ret (k := k) h
  | .code c :: k, _, _, h => by simp only [WK]; exact WK_ret (k := k) h
  | .ops _ _ _ _ :: k, _, _, h => by simp only [WK]; exact WK_ret (k := k) h
  | .rnd _ :: k, _, _, h => by simp only [WK]; exact WK_ret (k := k) h
/-- A variable in memory: its block's name, what stands in it. -/
abbrev Var := Nat × Blk
/-- The memory H: what is frozen (S) stands as in H0; the variables T stand in blocks of their own; n blocks have been named. -/
structure Good (S : Nat → Prop) (H0 : AH) (T : List Var) (n : Nat) (H : AH) : Prop where
  n_ : H.n = n
  fin : Fin' H
  froz : ∀ id, S id → id < n ∧ H.m id = H0.m id
  vars : ∀ (j : Nat) v, T[j]? = some v → H.m v.1 = some v.2 ∧ v.1 < n ∧ ¬ S v.1
  dist : ∀ (i j : Nat) u v, T[i]? = some u → T[j]? = some v → u.1 = v.1 → i = j
/-- What stands at place k of a block, as a value of type t. -/
def bload (P : Program) (b : Blk) (t : TypeId) (k : Nat) : Option Value :=
  match P.underlying t with
  | some (.struct _) => match P.info? t with
    | some i => if k + i.size ≤ b.cells.length then some (.agg ((b.cells.drop k).take i.size).toArray) else none
    | none => none
  | some (.array _ _) => none
  | some _ => b.cells[k]?
  | none => none
theorem bload_ok {P : Program} {H : AH} {b : Blk} {t : TypeId} {id k : Nat} (h : H.m id = some b) : aload P H t id k = bload P b t k := by
  unfold aload bload
  simp only [h]
  cases P.underlying t with
  | none => rfl
  | some d => cases d <;> rfl
def bstore (P : Program) (b : Blk) (t : TypeId) (k : Nat) (v : Value) : Option Blk :=
  match P.info? t with
  | some i => if b.rw = true ∧ v.cells.size = i.size ∧ k + i.size ≤ b.cells.length ∧ v.cells.toList.all Value.oneCell' = true then some ⟨b.ty, b.rw, splice b.cells k v.cells.toList⟩ else none
  | none => none
theorem bstore_ok {P : Program} {H : AH} {b b' : Blk} {t : TypeId} {id k : Nat} {v : Value} (h : H.m id = some b) (hs : bstore P b t k v = some b') : astore P H t id k v = some (H.set id b') := by
  unfold bstore at hs
  unfold astore
  simp only [h]
  split at hs
  · rename_i i hi
    simp only [hi]
    split at hs
    · rename_i hc
      rw [if_pos ⟨hc.1, hc.2.1, hc.2.2.1, by rw [← Array.all_toList]; exact hc.2.2.2⟩]
      cases hs
      rfl
    · cases hs
  · cases hs
/-- A type's zero is of single cells that lead to no memory. -/
def zeroOkL (P : Program) (t : TypeId) : Bool :=
  match P.info? t with
  | some i => match i.zero with
    | some z => match z.cells.toList.all scal with
      | true => Nat.beq z.cells.toList.length i.size
      | false => false
    | none => false
  | none => false
theorem zeroOkL_ok {P : Program} {t : TypeId} (h : zeroOkL P t = true) : zeroOk P t = true := by
  unfold zeroOkL at h
  unfold zeroOk
  cases hi : P.info? t with
  | none => rw [hi] at h; cases h
  | some i =>
    rw [hi] at h
    simp only at h ⊢
    cases hz : i.zero with
    | none => rw [hz] at h; cases h
    | some z =>
      rw [hz] at h
      simp only at h ⊢
      cases hb : z.cells.toList.all scal with
      | false => rw [hb] at h; cases h
      | true =>
        rw [hb] at h
        simp only [Bool.and_eq_true, beq_iff_eq]
        exact ⟨by rw [← Array.all_toList]; exact hb, by have := Nat.eq_of_beq_eq_true h; simpa using this⟩
/-- Variables in memory, computed: reading and writing by tags, new ones. -/
structure Lr where
  v : Value
  T : List Var
  n : Nat
  l : List Nat
  r : List Nat
def locop (P : Program) (op : Op) (e : Env) (T : List Var) (n : Nat) : Option Lr :=
  match op with
  | .load t x => match ev e x with
    | .pointer (some ⟨id, k, some j⟩) => match T[j]? with
      | some v => match bload P v.2 t k with
        | some u => some ⟨u, T, n, [id], [v.1]⟩
        | none => none
      | none => none
    | _ => none
  | .store t x y => match ev e x with
    | .pointer (some ⟨id, k, some j⟩) => match T[j]? with
      | some v => match bstore P v.2 t k (ev e y) with
        | some b => some ⟨undef, T.set j (v.1, b), n, [id], [v.1]⟩
        | none => none
      | none => none
    | _ => none
  | .box t x => some ⟨.pointer (some ⟨n, 0, some T.length⟩), T ++ [(n, ⟨t, true, (ev e x).cells.toList⟩)], n + 1, [], []⟩
  | .alloc t => match P.info? t with
    | some i => match i.zero with
      | some z => match zeroOkL P t with
        | true => some ⟨.pointer (some ⟨n, 0, some T.length⟩), T ++ [(n, ⟨t, true, z.cells.toList⟩)], n + 1, [], []⟩
        | false => none
      | none => none
    | none => none
  | _ => none
section
variable {P : Program} {S : Nat → Prop} {H0 H : AH} {T : List Var} {n : Nat}
theorem Good.push (g : Good S H0 T n H) (b : Blk) : Good S H0 (T ++ [(n, b)]) (n + 1) (H.push b) := by
  have hn := g.n_
  refine ⟨by simp [AH.push, hn], fin_push g.fin b, ?_, ?_, ?_⟩
  · intro id hs
    obtain ⟨h1, h2⟩ := g.froz id hs
    refine ⟨by omega, ?_⟩
    simp only [AH.push]
    rw [if_neg (by omega)]
    exact h2
  · intro j v hj
    rcases Nat.lt_or_ge j T.length with hl | hl
    · rw [List.getElem?_append_left hl] at hj
      obtain ⟨h1, h2, h3⟩ := g.vars j v hj
      refine ⟨?_, by omega, h3⟩
      simp only [AH.push]
      rw [if_neg (by omega)]
      exact h1
    · rw [List.getElem?_append_right hl] at hj
      have h0 : j - T.length = 0 := by
        rcases Nat.eq_zero_or_pos (j - T.length) with h | h
        · exact h
        · rw [List.getElem?_eq_none (by simp; omega)] at hj; cases hj
      rw [h0] at hj
      simp at hj
      subst hj
      refine ⟨by simp [AH.push, hn], by simp, fun hs => ?_⟩
      have := (g.froz n hs).1
      omega
  · intro i j u v hi hj he
    have lt : ∀ {j : Nat} {v : Var}, (T ++ [(n, b)])[j]? = some v → (j < T.length ∧ T[j]? = some v) ∨ (j = T.length ∧ v.1 = n) := by
      intro j v hj
      rcases Nat.lt_or_ge j T.length with hl | hl
      · rw [List.getElem?_append_left hl] at hj; exact .inl ⟨hl, hj⟩
      · rw [List.getElem?_append_right hl] at hj
        have h0 : j - T.length = 0 := by
          rcases Nat.eq_zero_or_pos (j - T.length) with h | h
          · exact h
          · rw [List.getElem?_eq_none (by simp; omega)] at hj; cases hj
        rw [h0] at hj
        simp at hj
        exact .inr ⟨by omega, by rw [← hj]⟩
    rcases lt hi with ⟨h1, h2⟩ | ⟨h1, h2⟩ <;> rcases lt hj with ⟨h3, h4⟩ | ⟨h3, h4⟩
    · exact g.dist i j u v h2 h4 he
    · have := (g.vars i u h2).2.1; omega
    · have := (g.vars j v h4).2.1; omega
    · omega
theorem Good.set (g : Good S H0 T n H) {j : Nat} {v : Var} (hj : T[j]? = some v) (b : Blk) : Good S H0 (T.set j (v.1, b)) n (H.set v.1 b) := by
  have hjl : j < T.length := (List.getElem?_eq_some_iff.1 hj).1
  obtain ⟨hv1, hv2, hv3⟩ := g.vars j v hj
  have get : ∀ {i : Nat} {u : Var}, (T.set j (v.1, b))[i]? = some u → (i = j ∧ u = (v.1, b)) ∨ (i ≠ j ∧ T[i]? = some u) := by
    intro i u hi
    by_cases h : j = i
    · subst h
      rw [List.getElem?_set_self hjl] at hi
      cases hi
      exact .inl ⟨rfl, rfl⟩
    · rw [List.getElem?_set_ne h] at hi
      exact .inr ⟨Ne.symm h, hi⟩
  refine ⟨g.n_, fin_set g.fin hv1 b, ?_, ?_, ?_⟩
  · intro id hs
    obtain ⟨h1, h2⟩ := g.froz id hs
    refine ⟨h1, ?_⟩
    simp only [AH.set]
    rw [if_neg (fun e => hv3 (by rw [← e]; exact hs))]
    exact h2
  · intro i u hi
    rcases get hi with ⟨_, rfl⟩ | ⟨hne, hi⟩
    · exact ⟨by simp [AH.set], hv2, hv3⟩
    · obtain ⟨h1, h2, h3⟩ := g.vars i u hi
      refine ⟨?_, h2, h3⟩
      simp only [AH.set]
      rw [if_neg (fun e => hne (g.dist i j u v hi hj e))]
      exact h1
  · intro i1 i2 u1 u2 h1 h2 he
    rcases get h1 with ⟨e1, rfl⟩ | ⟨hne1, h1⟩ <;> rcases get h2 with ⟨e2, rfl⟩ | ⟨hne2, h2⟩
    · omega
    · exact absurd (g.dist i2 j u2 v h2 hj he.symm) hne2
    · exact absurd (g.dist i1 j u1 v h1 hj he) hne1
    · exact g.dist i1 i2 u1 u2 h1 h2 he
theorem locop_ok (g : Good S H0 T n H) {op : Op} {e : Env} {r : Lr} (h : locop P op e T n = some r) (hlr : r.l = r.r) : ∃ tag H1, hop P tag op e H = some (r.v, H1) ∧ Good S H0 r.T r.n H1 := by
  have hn := g.n_
  unfold locop at h
  split at h
  · split at h
    · rename_i id k j hx
      split at h
      · rename_i v hv
        split at h
        · rename_i u hu
          cases h
          obtain rfl : id = v.1 := by simpa using hlr
          refine ⟨none, H, ?_, g⟩
          simp only [hop, hx, bload_ok (g.vars j v hv).1, hu]
        · cases h
      · cases h
    · cases h
  · split at h
    · rename_i id k j hx
      split at h
      · rename_i v hv
        split at h
        · rename_i b hb
          cases h
          obtain rfl : id = v.1 := by simpa using hlr
          refine ⟨none, _, ?_, g.set hv b⟩
          simp only [hop, hx, bstore_ok (g.vars j v hv).1 hb]
        · cases h
      · cases h
    · cases h
  · cases h
    refine ⟨some T.length, _, ?_, g.push _⟩
    simp only [hop, hn]
  · rename_i t
    split at h
    · rename_i i hi
      split at h
      · rename_i z hz
        split at h
        · rename_i hzo
          cases h
          refine ⟨some T.length, _, ?_, g.push _⟩
          simp only [hop, aalloc, hi, hz, zeroOkL_ok hzo, if_true, hn]
        · cases h
      · cases h
    · cases h
  · cases h
end
/-- Operations for which something has to be shown. -/
def isConst : Operand → Bool
  | .const _ => true
  | _ => false
def sideB : BinOp → Operand → Bool
  | .quo, y => !isConst y
  | .rem, y => !isConst y
  | .shl, y => !isConst y
  | .shr, y => !isConst y
  | _, _ => false
def sideOp (P : Program) : Op → Bool
  | .indexAddr _ _ _ => true
  | .index _ _ _ => true
  | .slice _ _ _ _ _ => true
  | .binOp op t _ y _ => match P.underlying t with
    | some .string => match op with
      | .add => true
      | _ => false
    | _ => sideB op y
  | _ => false
def asked (i : Nat) : List Oper → Bool
  | [] => false
  | o :: os => match o.guard with
    | some (j, _) => match Nat.beq j i with
      | true => true
      | false => asked i os
    | none => asked i os
inductive Evt where
  | done (x : AX)
  | test (d : Option Tmp) (t : Bool)
  | cond (t : Bool) (a b : Code)
  | op (o : Oper) (dr : Bool)
  | loop (c : Code)
  | cut (a b : Code)
  | round (R : Env → AH → Prop)
structure Cf where
  k : List It
  e : Env
  T : List Var
  n : Nat
  l : List Nat
  r : List Nat
/-- Is the operation performed? -/
def guarded (ops : Array Oper) (e : Env) (o : Oper) : Bool :=
  match o.guard with
  | none => true
  | some (j, b) => match yld ops e j with
    | some t => match t, b with
      | true, true => true
      | false, false => true
      | _, _ => false
    | none => false
theorem guarded_ok (ops : Array Oper) (e : Env) (o : Oper) : guarded ops e o = want ops e o := by
  unfold guarded want
  cases o.guard with
  | none => rfl
  | some jb =>
    obtain ⟨j, b⟩ := jb
    simp only
    cases yld ops e j with
    | none => rfl
    | some t => cases t <;> cases b <;> rfl
/-- A slot takes a value. -/
def put1 (e : Env) (d : Tmp) (v : Value) : Env := fun t => match Nat.beq t d with
  | true => v
  | false => e t
theorem put1_eq (e : Env) (d : Tmp) (v : Value) : put e (some d) v = put1 e d v := by
  funext t
  simp only [put, put1]
  by_cases h : t = d
  · subst h; rw [Nat.beq_refl]; simp
  · have : Nat.beq t d = false := by
      cases hb : Nat.beq t d with
      | false => rfl
      | true => exact absurd (Nat.eq_of_beq_eq_true hb) h
    rw [this]
    simp [h]
def fwd {α : Type} (d : Option Tmp) (e : Env) (v : Value) (K : Env → α) : α :=
  match d with
  | some d => K (put1 e d v)
  | none => K e
theorem fwd_eq {α : Type} (d : Option Tmp) (e : Env) (v : Value) (K : Env → α) : fwd d e v K = K (put e d v) := by
  cases d with
  | none => rfl
  | some d => simp only [fwd, put1_eq]
/-- Is this the region at which to stop? -/
def isStop (stop : Option Nat) (c : Code) : Bool :=
  match stop with
  | none => false
  | some s => match c with
    | .region id _ _ => Nat.beq id s
    | _ => false
def runK (P : Program) (stop : Option Nat) : Nat → List It → Env → List Var → Nat → List Nat → List Nat → Option (Evt × Cf)
  | 0, _, _, _, _, _, _ => none
  | _ + 1, [], e, T, n, l, r => some (.done .normal, ⟨[], e, T, n, l, r⟩)
  | f + 1, it :: k, e, T, n, l, r =>
    match it with
    | .blk _ => runK P stop f k e T n l r
    | .rnd R => some (.round R, ⟨k, e, T, n, l, r⟩)
    | .code c => match c with
      | .skip => runK P stop f k e T n l r
      | .label _ => runK P stop f k e T n l r
      | .seq a b => match isStop stop a with
        | true => some (.cut a b, ⟨k, e, T, n, l, r⟩)
        | false => runK P stop f (.code a :: .code b :: k) e T n l r
      | .block id c => runK P stop f (.code c :: .blk id :: k) e T n l r
      | .exit id => match unwind id k with
        | some k' => runK P stop f k' e T n l r
        | none => some (.done (.exit id), ⟨[], e, T, n, l, r⟩)
      | .ret => some (.done .ret, ⟨[], e, T, n, l, r⟩)
      | .region _ ops dr => runK P stop f (.ops dr ops 0 ops.toList :: k) e T n l r
      | .cond c a b => match ev e c with
        | .bool t => some (.cond t a b, ⟨k, e, T, n, l, r⟩)
        | _ => none
      | .loop c => some (.loop c, ⟨k, e, T, n, l, r⟩)
      | _ => none
    | .ops dr ops i os => match os with
      | [] => runK P stop f k e T n l r
      | o :: os => match guarded ops e o with
        | false => fwd o.dst e undef fun e => runK P stop f (.ops dr ops (i + 1) os :: k) e T n l r
        | true => match opClass o.op with
          | 0 => match sideOp P o.op with
            | true => some (.op o dr, ⟨.ops dr ops (i + 1) os :: k, e, T, n, l, r⟩)
            | false => match pop P o.op e with
              | some v => match v with
                | .bool t => match asked i os with
                  | true => some (.test o.dst t, ⟨.ops dr ops (i + 1) os :: k, e, T, n, l, r⟩)
                  | false => fwd o.dst e (.bool t) fun e => runK P stop f (.ops dr ops (i + 1) os :: k) e T n l r
                | v => fwd o.dst e v fun e => runK P stop f (.ops dr ops (i + 1) os :: k) e T n l r
              | none => none
          | 3 => some (.op o dr, ⟨.ops dr ops (i + 1) os :: k, e, T, n, l, r⟩)
          | _ => match locop P o.op e T n with
            | some q => match q with
              | ⟨v, T', n', l', r'⟩ => fwd o.dst e v fun e => runK P stop f (.ops dr ops (i + 1) os :: k) e T' n' (l' ++ l) (r' ++ r)
            | none => some (.op o dr, ⟨.ops dr ops (i + 1) os :: k, e, T, n, l, r⟩)
/-- From here on, in every good memory, all ends in Q. -/
def KW (P : Program) (S : Nat → Prop) (H0 : AH) (Q : PostC) (n : Nat) (T : List Var) (k : List It) (e : Env) : Prop := ∀ H, Good S H0 T n H → WK P k Q .normal e H
/-- An operation goes, and Q holds behind it. -/
def WOp (P : Program) (dr : Bool) (o : Oper) (K : Value → AH → Prop) (e : Env) (H : AH) : Prop := ∃ n v H1, evOp P (evF P n) dr o.op e H v H1 ∧ K v H1
def KEvt (P : Program) (S : Nat → Prop) (H0 : AH) (Q : PostC) : Evt → Cf → Prop
  | .done x, c => ∀ H, Good S H0 c.T c.n H → Q x c.e H
  | .test d t, c => (t = true → KW P S H0 Q c.n c.T c.k (put c.e d (.bool true))) ∧ (t = false → KW P S H0 Q c.n c.T c.k (put c.e d (.bool false)))
  | .cond t a b, c => (t = true → KW P S H0 Q c.n c.T (.code a :: c.k) c.e) ∧ (t = false → KW P S H0 Q c.n c.T (.code b :: c.k) c.e)
  | .op o dr, c => ∀ H, Good S H0 c.T c.n H → WOp P dr o (fun v H1 => WK P c.k Q .normal (put c.e o.dst v) H1) c.e H
  | .cut a b, c => KW P S H0 Q c.n c.T (.code a :: .code b :: c.k) c.e
  | .loop c0, c => KW P S H0 Q c.n c.T (.code (.loop c0) :: c.k) c.e
  | .round R, c => ∀ H, Good S H0 c.T c.n H → R c.e H
section
variable {P : Program} {S : Nat → Prop} {H0 : AH} {Q : PostC}
theorem WOp.wo {dr : Bool} {ops : Array Oper} {o : Oper} {os : List Oper} {K : Env → AH → Prop} {e : Env} {H : AH} (hw : want ops e o = true) (h : WOp P dr o (fun v H1 => Wo P dr ops os K (put e o.dst v) H1) e H) : Wo P dr ops (o :: os) K e H := by
  obtain ⟨n, v, H1, h1, m, e', H', h2, h3⟩ := h
  refine ⟨max n m, e', H', ?_, h3⟩
  simp only [evOps]
  rw [if_pos hw]
  exact ⟨v, H1, evOp_mono (evF_mono (Nat.le_max_left _ _)) h1, evOps_mono (evF_mono (Nat.le_max_right _ _)) _ h2⟩
theorem KW.run {stop : Option Nat} : ∀ (f : Nat) {k : List It} {e : Env} {T : List Var} {n : Nat} {l r : List Nat} {x : Evt × Cf}, runK P stop f k e T n l r = some x → x.2.l = x.2.r → KEvt P S H0 Q x.1 x.2 → ∃ l' r' : List Nat, (l'.length = r'.length ∧ x.2.l = l' ++ l ∧ x.2.r = r' ++ r) ∧ (l' = r' → KW P S H0 Q n T k e)
  | 0, _, _, _, _, _, _, _, h, _, _ => by simp [runK] at h
  | f + 1, [], e, T, n, l, r, x, h, hlr, hk => by
    simp only [runK] at h
    cases h
    exact ⟨[], [], ⟨rfl, rfl, rfl⟩, fun _ H g => hk H g⟩
  | f + 1, it :: k, e, T, n, l, r, x, h, hlr, hk => by
    -- a step that asks nothing
    have pass : ∀ {k' : List It} {e' : Env}, runK P stop f k' e' T n l r = some x → (KW P S H0 Q n T k' e' → KW P S H0 Q n T (it :: k) e) → ∃ l' r' : List Nat, (l'.length = r'.length ∧ x.2.l = l' ++ l ∧ x.2.r = r' ++ r) ∧ (l' = r' → KW P S H0 Q n T (it :: k) e) := by
      intro k' e' h1 h2
      obtain ⟨l', r', h3, h4⟩ := KW.run f h1 hlr hk
      exact ⟨l', r', h3, fun he => h2 (h4 he)⟩
    have stop' : x.2.l = l → x.2.r = r → KW P S H0 Q n T (it :: k) e → ∃ l' r' : List Nat, (l'.length = r'.length ∧ x.2.l = l' ++ l ∧ x.2.r = r' ++ r) ∧ (l' = r' → KW P S H0 Q n T (it :: k) e) :=
      fun h1 h2 h3 => ⟨[], [], ⟨rfl, h1, h2⟩, fun _ => h3⟩
    simp only [runK] at h
    split at h
    · exact pass h (fun hk' H g => by simp only [WK]; exact hk' H g)
    · cases h
      exact stop' rfl rfl (fun H g => by simp only [WK]; exact hk H g)
    · rename_i c
      split at h
      · exact pass h (fun hk' H g => by simp only [WK]; exact Wc.skip (hk' H g))
      · exact pass h (fun hk' H g => by simp only [WK]; exact Wc.label (hk' H g))
      · rename_i ca cb
        have sq : KW P S H0 Q n T (.code ca :: .code cb :: k) e → KW P S H0 Q n T (.code (.seq ca cb) :: k) e := fun hk' H g => by
          simp only [WK]
          refine Wc.seq ((hk' H g : WK P (.code _ :: .code _ :: k) Q .normal e H).mono ?_)
          intro x e H hx
          cases x <;> exact hx
        split at h
        · cases h
          exact stop' rfl rfl (sq hk)
        · exact pass h sq
      · rename_i bid bc
        refine pass h (fun hk' H g => ?_)
        simp only [WK]
        refine Wc.block ((hk' H g : WK P (.code _ :: .blk _ :: k) Q .normal e H).mono ?_)
        intro x e H hx
        cases x with
        | normal => simpa [WK] using hx
        | ret => simpa [WK] using hx
        | exit id' =>
          simp only [WK] at hx
          by_cases hid : id' = bid
          · rw [if_pos hid] at hx; rw [if_pos (by rw [hid])]; exact hx
          · have : ¬ (AX.exit id' = AX.exit bid) := fun h => hid (by injection h)
            rw [if_neg this]
            rw [if_neg hid] at hx
            exact hx
      · split at h
        · rename_i hu
          exact pass h (fun hk' H g => by simp only [WK]; exact Wc.exit (unwind_some hu (hk' H g)))
        · rename_i hu
          cases h
          exact stop' rfl rfl (fun H g => by simp only [WK]; exact Wc.exit (unwind_none hu (hk H g)))
      · cases h
        exact stop' rfl rfl (fun H g => by simp only [WK]; exact Wc.ret (WK_ret (hk H g)))
      · exact pass h (fun hk' H g => by simp only [WK]; exact Wc.region (hk' H g))
      · split at h
        · rename_i t ht
          cases h
          refine stop' rfl rfl (fun H g => ?_)
          simp only [WK]
          exact Wc.cond ht (fun h => hk.1 h H g) (fun h => hk.2 h H g)
        · cases h
      · cases h
        exact stop' rfl rfl hk
      · cases h
    · rename_i dr ops i os
      split at h
      · exact pass h (fun hk' H g => by simp only [WK]; exact Wo.nil (hk' H g))
      · rename_i o os
        split at h
        · rename_i hg
          rw [guarded_ok] at hg
          rw [fwd_eq] at h
          exact pass h (fun hk' H g => by simp only [WK]; exact Wo.off hg (hk' H g))
        · rename_i hg
          rw [guarded_ok] at hg
          split at h
          · rename_i hc
            split at h
            · cases h
              refine stop' rfl rfl (fun H g => ?_)
              simp only [WK]
              exact WOp.wo hg (hk H g)
            · split at h
              · rename_i v hp
                split at h
                · rename_i t
                  split at h
                  · cases h
                    refine stop' rfl rfl (fun H g => ?_)
                    simp only [WK]
                    refine Wo.pure hg hc hp ?_
                    cases t with
                    | true => exact hk.1 rfl H g
                    | false => exact hk.2 rfl H g
                  · rw [fwd_eq] at h
                    exact pass h (fun hk' H g => by simp only [WK]; exact Wo.pure hg hc hp (hk' H g))
                · rw [fwd_eq] at h
                  exact pass h (fun hk' H g => by simp only [WK]; exact Wo.pure hg hc hp (hk' H g))
              · cases h
          · cases h
            refine stop' rfl rfl (fun H g => ?_)
            simp only [WK]
            exact WOp.wo hg (hk H g)
          · rename_i h0 h3
            have hle : opClass o.op ≤ 3 := by unfold opClass; split <;> omega
            have h0' : opClass o.op ≠ 0 := fun h => h0 h
            have h3' : opClass o.op ≠ 3 := fun h => h3 h
            split at h
            · rename_i q hq
              simp only [fwd_eq] at h
              obtain ⟨l', r', ⟨h4, h5, h6⟩, h7⟩ := KW.run f h hlr hk
              have hql : q.l.length = q.r.length := by
                unfold locop at hq
                repeat' (split at hq)
                all_goals first | (cases hq; done) | (cases hq; rfl)
              refine ⟨l' ++ q.l, r' ++ q.r, ⟨by simp [h4, hql], by rw [h5, List.append_assoc], by rw [h6, List.append_assoc]⟩, fun he H g => ?_⟩
              obtain ⟨he1, he2⟩ := List.append_inj he h4
              obtain ⟨tag, H1, hh, g1⟩ := locop_ok g hq he2
              simp only [WK]
              exact Wo.heap hg (by omega) hh (h7 he1 H1 g1)
            · cases h
              refine stop' rfl rfl (fun H g => ?_)
              simp only [WK]
              exact WOp.wo hg (hk H g)
/-- Run on, to the next event. -/
theorem KW.go {stop : Option Nat} {k : List It} {e : Env} {T : List Var} {n : Nat} {x : Evt} {c : Cf} (h : runK P stop 4000 k e T n [] [] = some (x, c)) (hlr : c.l = c.r) (hk : KEvt P S H0 Q x c) : KW P S H0 Q n T k e := by
  obtain ⟨l', r', ⟨_, h1, h2⟩, h3⟩ := KW.run 4000 h hlr hk
  refine h3 ?_
  simp at h1 h2
  rw [← h1, ← h2]
  exact hlr
end
end Go.Proofs.Ytaepgfafbnjccaa.Am
