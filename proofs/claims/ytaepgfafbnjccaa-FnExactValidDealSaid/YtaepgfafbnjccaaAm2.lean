/- Operations that ask nothing of memory, on abstract values: what they yield, and that the machine yields what carries it. For every program. No condition beyond each theorem's own. -/
import Derived.Test.YtaepgfafbnjccaaAm1
import Derived.Laws.Sem
import Derived.Laws.Tables
import Derived.Laws.Build
import Derived.Tactics
namespace Go.Proofs.Ytaepgfafbnjccaa.Am
open Go Go.RowKit
abbrev Env := Nat → Value
def ev (e : Env) : Operand → Value
  | .tmp t => e t
  | .const v => v
  | .func f => .func (.func f) #[] #[]
  | .global g => .pointer (some ⟨g, 0, none⟩)
/-- The slots of a call carry the abstract slots. -/
structure ER (ρ : Ren) (e : Env) (a : Act) (nt : Nat) : Prop where
  size : a.tmps.size = nt
  at_ : ∀ t, t < nt → VR ρ (e t) (a.tmps.getD t undef)
/-- An operand that can be told: a slot, a plain constant, a function. -/
def opOk (nt : Nat) : Operand → Bool
  | .tmp t => decide (t < nt)
  | .const v => scal v
  | .func _ => true
  | .global _ => false
theorem ER.ev {ρ : Ren} {e : Env} {a : Act} {nt : Nat} (h : ER ρ e a nt) {x : Operand} (hx : opOk nt x = true) : VR ρ (Am.ev e x) (a.eval x) := by
  cases x with
  | tmp t => exact h.at_ t (by simpa [opOk] using hx)
  | const v => exact .sc v hx
  | func f => exact .func _ _ _ _ _ rfl rfl (fun i hi => by simp at hi) (fun i hi => by simp at hi)
  | global g => simp [opOk] at hx
def aun (op : UnOp) (x : Value) : Option Value :=
  match op, x with
  | .neg, .int k n => some (.int k (k.wrap (0 - n)))
  | .not, .bool b => some (.bool !b)
  | .xor, .int k n => some (.int k (k.wrap ((BitVec.ofInt k.bits (if k.signed then -1 else k.max)) ^^^ (BitVec.ofInt k.bits n)).toNat))
  | _, _ => none
def aint (op : BinOp) (k : IntKind) (x y : Int) : Option Value :=
  match op with
  | .add => some (.int k (k.wrap (x + y)))
  | .sub => some (.int k (k.wrap (x - y)))
  | .mul => some (.int k (k.wrap (x * y)))
  | .quo => if y = 0 then none else some (.int k (k.wrap (x.tdiv y)))
  | .rem => if y = 0 then none else some (.int k (x.tmod y))
  | .and => some (.int k (k.wrap (BitVec.ofInt k.bits x &&& BitVec.ofInt k.bits y).toNat))
  | .or => some (.int k (k.wrap (BitVec.ofInt k.bits x ||| BitVec.ofInt k.bits y).toNat))
  | .xor => some (.int k (k.wrap (BitVec.ofInt k.bits x ^^^ BitVec.ofInt k.bits y).toNat))
  | .andNot => some (.int k (k.wrap (BitVec.ofInt k.bits x &&& ~~~BitVec.ofInt k.bits y).toNat))
  | .eql => some (.bool (x == y))
  | .neq => some (.bool (x != y))
  | .lss => some (.bool (x < y))
  | .leq => some (.bool (x ≤ y))
  | .gtr => some (.bool (x > y))
  | .geq => some (.bool (x ≥ y))
  | _ => none
def ashift (op : BinOp) (k : IntKind) (x y : Int) : Option Value :=
  if y < 0 then none
  else match op with
    | .shl => some (.int k (k.wrap (x * 2 ^ min y.toNat k.bits)))
    | .shr => some (.int k (x.fdiv (2 ^ min y.toNat k.bits)))
    | _ => none
def astr (op : BinOp) (x y : ByteArray) : Option Value :=
  match op with
  | .add => if x.size + y.size ≤ 9223372036854775807 then some (.string (x ++ y)) else none
  | .eql => some (.bool (x.toList == y.toList))
  | .neq => some (.bool !(x.toList == y.toList))
  | .lss => some (.bool (Op.bytesLess x.toList y.toList))
  | .leq => some (.bool (Op.bytesLess x.toList y.toList || x.toList == y.toList))
  | .gtr => some (.bool !(Op.bytesLess x.toList y.toList || x.toList == y.toList))
  | .geq => some (.bool !(Op.bytesLess x.toList y.toList))
  | _ => none
def abool (op : BinOp) (x y : Bool) : Option Value :=
  match op with
  | .eql => some (.bool (x == y))
  | .neq => some (.bool !(x == y))
  | _ => none
def abin (P : Program) (op : BinOp) (t : TypeId) (x y : Value) : Option Value :=
  match x, y with
  | .int k a, .int k' b => match op with
    | .shl => ashift .shl k a b
    | .shr => ashift .shr k a b
    | op => if k = k' then aint op k a b else none
  | .string a, .string b => astr op a b
  | .bool a, .bool b => match P.underlying t with
    | some .bool => abool op a b
    | _ => none
  | .slice a _ _, .slice none 0 0 => match P.underlying t with
    | some (.slice _) => abool op a.isNone true
    | _ => none
  | _, _ => none
def aconv (P : Program) (s d : TypeId) (x : Value) : Option Value :=
  match P.underlying s, P.underlying d, x with
  | some _, some (.int k), .int _ n => some (.int k (k.wrap n))
  | some _, some .string, .string b => some (.string b)
  | _, _, _ => none
def abound (v : Value) (top : Nat) : Option Nat :=
  match v with
  | .int _ i => if 0 ≤ i ∧ i ≤ top then some i.toNat else none
  | _ => none
def bHi (hi : Option Value) (n c : Nat) : Option Nat := match hi with | some v => abound v c | none => some n
def bLo (lo : Option Value) (h : Nat) : Option Nat := match lo with | some v => abound v h | none => some 0
/-- x[lo:hi]. -/
def acut (P : Program) (t : TypeId) (x : Value) (lo hi : Option Value) : Option Value :=
  match P.underlying t, x with
  | some .string, .string s =>
    match bHi hi s.size s.size with
    | some h => match bLo lo h with
      | some l => some (.string (s.extract l h))
      | none => none
    | none => none
  | some (.slice el), .slice a n c =>
    match P.info? el with
    | some inf =>
      match bHi hi n c with
      | some h => match bLo lo h with
        | some l => match a with
          | none => some (.slice none (h - l) (c - l))
          | some ⟨id, k, some es⟩ => if es = inf.size then (if l = 0 then some (.slice (some ⟨id, k, some es⟩) h c) else if c = l then some (.slice (some ⟨id, k, none⟩) 0 0) else some (.slice (some ⟨id, k + l * es, some es⟩) (h - l) (c - l))) else none
          | _ => none
        | none => none
      | none => none
    | none => none
  | _, _ => none
def apart (P : Program) (t : TypeId) (cs : Array Value) (off : Nat) : Option Value :=
  match P.underlying t, P.info? t with
  | some (.struct _), some i => some (.agg (cs.extract off (off + i.size)))
  | some (.array _ _), some i => some (.agg (cs.extract off (off + i.size)))
  | some _, _ => cs[off]?
  | none, _ => none
def aargs (e : Env) (xs : Array Operand) : Array Value := (xs.toList.map (ev e)).toArray
def amax (more : Bool) : Value → List Value → Option Value
  | v, [] => some v
  | .int k x, .int _ y :: r => amax more (.int k (if (if more then y > x else y < x) then y else x)) r
  | _, _ => none
def zeroOk (P : Program) (t : TypeId) : Bool :=
  match P.info? t with
  | some i => match i.zero with
    | some z => z.cells.all scal && z.cells.size == i.size
    | none => false
  | none => false
/-- A struct (or array) of parts. -/
def abuild (P : Program) (t : TypeId) (parts : List (Nat × Value)) : Option Value :=
  if zeroOk P t = true then (match P.built t parts with
    | some cs => some (.agg cs)
    | none => none) else none
/-- What an operation yields that asks nothing of memory. -/
def pop (P : Program) (op : Op) (e : Env) : Option Value :=
  match op with
  | .move x => some (ev e x)
  | .assign x => some (ev e x)
  | .pick c a b => match ev e c with
    | .bool t => some (if t then ev e a else ev e b)
    | _ => none
  | .unOp op _ x => aun op (ev e x)
  | .binOp op t x y _ => abin P op t (ev e x) (ev e y)
  | .convert s d x => aconv P s d (ev e x)
  | .extract t i => match ev e t with
    | .tuple vs => vs[i]?
    | _ => none
  | .nilCheck x => match ev e x with
    | .pointer (some a) => some (.pointer (some a))
    | _ => none
  | .fieldAddr s x f => match P.underlying s, ev e x with
    | some (.struct fs), .pointer (some ⟨id, k, sp⟩) => match fs[f]? with
      | some fd => match P.info? fd.type with
        | some i => if i.size = 0 then none else some (.pointer (some ⟨id, k + fd.offset, sp⟩))
        | none => none
      | none => none
    | _, _ => none
  | .field s x f => match P.underlying s, ev e x with
    | some (.struct fs), .agg cs => match fs[f]? with
      | some fd => apart P fd.type cs fd.offset
      | none => none
    | _, _ => none
  | .indexAddr t x i => match P.underlying t, ev e x, ev e i with
    | some (.slice el), .slice (some ⟨id, k, some _⟩) n _, .int _ j => match P.info? el with
      | some inf => if 0 ≤ j ∧ j < n then some (.pointer (some ⟨id, k + j.toNat * inf.size, none⟩)) else none
      | none => none
    | _, _, _ => none
  | .index t x i => match P.underlying t, ev e x, ev e i with
    | some .string, .string s, .int _ j => if 0 ≤ j then (s[j.toNat]?).map fun b => .int .u8 b.toNat else none
    | _, _, _ => none
  | .slice t x lo hi none => acut P t (ev e x) (lo.map (ev e)) (hi.map (ev e))
  | .makeFunc fn first cap => some (.func fn (aargs e first) (aargs e cap))
  | .makeInterface t x => if P.concrete t then some (.iface t (ev e x)) else none
  | .build t parts => abuild P t (parts.toList.map fun p => (p.1, ev e p.2))
  | .call { callee := .builtin .len, args := xs, argTypes := ts } => match ((ts[0]?).bind P.underlying : Option TypeDesc), ((aargs e xs)[0]? : Option Value) with
    | some .string, some (.string s) => some (.int .i64 s.size)
    | some (.slice _), some (.slice _ n _) => some (.int .i64 n)
    | _, _ => none
  | .call { callee := .builtin .max, args := xs, argTypes := _ } => match (aargs e xs).toList with
    | .int k x :: r => amax true (.int k x) r
    | _ => none
  | .call { callee := .builtin .min, args := xs, argTypes := _ } => match (aargs e xs).toList with
    | .int k x :: r => amax false (.int k x) r
    | _ => none
  | _ => none
end Go.Proofs.Ytaepgfafbnjccaa.Am
