/- Contracts and laws on abstract memory, merged. Each holds under its own conditions. -/
import Derived.Below
import Derived.Laws.Sem
import Derived.Orders
import Derived.Deep.Draws
import Derived.Laws.Tables
import Derived.Laws.Build
import Derived.Tactics
import Derived.Laws.Cover3
import Derived.Laws.Concat
import Derived.Laws.Small
import Derived.Laws.CopyRow
import Derived.Laws.AppendOwn
import Derived.Laws.MakeOwn
import Derived.IntWalk
import Derived.SizedLaws
import Derived.ChangeSlices
import Derived.ChangeArms
import Derived.Deep.Slices
import Derived.Test.YtlapbbffoapleaaProg
import Derived.JoinedOf
theorem Go.Proofs.Ytlapbbffoapleaa.U {α : Sort _} {a : α} : a = a := rfl
set_option linter.unusedVariables false
set_option linter.unusedSimpArgs false
set_option maxRecDepth 20000
set_option maxHeartbeats 4000000
namespace Go.Proofs.Ytlapbbffoapleaa.Am
open Go Go.RowKit
structure Loc where
 blk:Nat
 off:Nat
 size:Nat
abbrev Ren:=Nat→Option Loc
def scal:Value→Bool
 | .bool _ | .int _ _ | .string _ | .pointer none | .slice none _ _ | .nilFunc | .nilIface=>true
 | _=>false
inductive VR (ρ:Ren):Value→Value→Prop
 | sc (v:Value) (h:scal v=true):VR ρ v v
 | ptr (id k:Nat) (sp:Option Nat) (l:Loc) (h:ρ id=some l):VR ρ (.pointer (some ⟨id,k,sp⟩)) (.pointer (some ⟨l.blk,l.off+k,none⟩))
 | slc (id k es n c c':Nat) (l:Loc) (h:ρ id=some l) (hn:n≤c) (hc:c≤c') (hs:l.off+k+c'*es≤l.size):VR ρ (.slice (some ⟨id,k,some es⟩) n c) (.slice (some ⟨l.blk,l.off+k,none⟩) n c')
 | sl0 (id k:Nat) (a:Addr) (c':Nat):VR ρ (.slice (some ⟨id,k,none⟩) 0 0) (.slice (some a) 0 c')
 | func (fn:Fn) (a a' b b':Array Value) (ha:a.size=a'.size) (hb:b.size=b'.size) (h:∀i:Nat,i<a.size→VR ρ (a.getD i undef) (a'.getD i undef)) (k:∀i:Nat,i<b.size→VR ρ (b.getD i undef) (b'.getD i undef)):VR ρ (.func fn a b) (.func fn a' b')
 | agg (a a':Array Value) (ha:a.size=a'.size) (h:∀i:Nat,i<a.size→VR ρ (a.getD i undef) (a'.getD i undef)):VR ρ (.agg a) (.agg a')
 | tup (a a':Array Value) (ha:a.size=a'.size) (h:∀i:Nat,i<a.size→VR ρ (a.getD i undef) (a'.getD i undef)):VR ρ (.tuple a) (.tuple a')
 | iface (t:TypeId) (v v':Value) (h:VR ρ v v'):VR ρ (.iface t v) (.iface t v')
def VRs (ρ:Ren) (a a':Array Value):Prop:=a.size=a'.size∧∀i:Nat,i<a.size→VR ρ (a.getD i undef) (a'.getD i undef)
theorem VR.undef (ρ:Ren):VR ρ undef undef:=.tup #[] #[] rfl (fun _ h=>by simp at h)
def Le (ρ ρ':Ren):Prop:=∀id l,ρ id=some l→ρ' id=some l
theorem VR.mono {ρ ρ':Ren} (hl:Le ρ ρ') {v c:Value} (h:VR ρ v c):VR ρ' v c:=by
 induction h with
 | sc v h=>exact .sc v h
 | ptr id k sp l h=>exact .ptr id k sp l (hl _ _ h)
 | slc id k es n c c' l h hn hc hs=>exact .slc id k es n c c' l (hl _ _ h) hn hc hs
 | sl0 id k a c'=>exact .sl0 id k a c'
 | func fn a a' b b' ha hb h k ih ik=>exact .func fn a a' b b' ha hb ih ik
 | agg a a' ha h ih=>exact .agg a a' ha ih
 | tup a a' ha h ih=>exact .tup a a' ha ih
 | iface t v v' h ih=>exact .iface t v v' ih
theorem VRs.mono {ρ ρ':Ren} (hl:Le ρ ρ') {a a':Array Value} (h:VRs ρ a a'):VRs ρ' a a':=⟨h.1,fun i hi=>(h.2 i hi).mono hl⟩
theorem VRs.get {ρ:Ren} {a a':Array Value} (h:VRs ρ a a') (i:Nat):VR ρ (a.getD i Go.undef) (a'.getD i Go.undef):=by
 by_cases hi:i<a.size
 ·exact h.2 i hi
 ·have h1:a.getD i Go.undef=Go.undef:=by simp[hi]
  have h2:a'.getD i Go.undef=Go.undef:=by have:=h.1;simp;rw[Array.getElem?_eq_none (by omega)];rfl
  rw[h1,h2]
  exact .undef ρ
theorem scal_eq {ρ:Ren} {v c:Value} (hs:scal v=true) (h:VR ρ v c):c=v:=by
 cases h<;>first | rfl | (simp[scal] at hs)
theorem VR.oneCell {ρ:Ren} {v c:Value} (h:VR ρ v c):c.oneCell'=v.oneCell':=by
 cases h<;>rfl
theorem VR.cells {ρ:Ren} {v c:Value} (h:VR ρ v c):VRs ρ v.cells c.cells:=by
 have one:∀{u d:Value},VR ρ u d→VRs ρ #[u] #[d]:=fun {u d} h=>⟨rfl,fun i hi=>by
  have:i=0:=by simp at hi;omega
  subst this
  exact h⟩
 cases h with
 | agg a a' ha h=>exact⟨ha,h⟩
 | sc v h=>
  have:v.cells=#[v]:=by cases v<;>first | rfl | simp[scal] at h
  rw[this]
  exact one (.sc v h)
 | ptr id k sp l h=>exact one (.ptr id k sp l h)
 | slc id k es n c c' l h hn hc hs=>exact one (.slc id k es n c c' l h hn hc hs)
 | sl0 id k a c'=>exact one (.sl0 id k a c')
 | func fn a a' b b' ha hb h k=>exact one (.func fn a a' b b' ha hb h k)
 | tup a a' ha h=>exact one (.tup a a' ha h)
 | iface t v v' h=>exact one (.iface t v v' h)
structure Blk where
 ty:Nat
 rw:Bool
 cells:List Value
structure AH where
 n:Nat
 m:Nat→Option Blk
structure WR (w0:World) (ρ:Ren) (H:AH) (w:World):Prop where
 below:Below w0.heap.size w0 w
 own:∀id b l,id<H.n→H.m id=some b→ρ id=some l→b.rw=true→w0.heap.size≤l.blk∧∃cs:Array Value,w.heap[l.blk]?=some (.cells cs b.ty (0,0))∧cs.size=l.size∧∀(i:Nat) v,b.cells[i]?=some v→∃c,cs[l.off+i]?=some c∧VR ρ v c
 came:∀id b l,id<H.n→H.m id=some b→ρ id=some l→b.rw=false→l.blk<w0.heap.size∧∀(i:Nat) v,b.cells[i]?=some v→∃c,w0.cell? ⟨l.blk,l.off+i,none⟩=some c∧VR ρ v c
 inj:∀id id' b b' l l',id<H.n→id'<H.n→H.m id=some b→H.m id'=some b'→ρ id=some l→ρ id'=some l'→b.rw=true→b'.rw=true→l.blk=l'.blk→id=id'
 lt:∀id l,ρ id=some l→l.blk<w.heap.size
 fin:∀id,H.n≤id→H.m id=none
structure Step (w0:World) (ρ:Ren) (H:AH) (w:World) (ρ':Ren) (H':AH) (w':World):Prop where
 wr:WR w0 ρ' H' w'
 nle:H.n≤H'.n
 size:w.heap.size≤w'.heap.size
 ext:∀id,id<H.n∨H'.n≤id→ρ' id=ρ id
 keep:∀b,b<w.heap.size→(∀id bl l,id<H.n→H.m id=some bl→bl.rw=true→ρ id=some l→l.blk≠b)→w'.heap[b]?=w.heap[b]?
 res:∀id b',id<H.n→H'.m id=some b'→∃b,H.m id=some b∧b.rw=b'.rw
 new:∀id b l,H.n≤id→id<H'.n→H'.m id=some b→b.rw=true→ρ' id=some l→w.heap.size≤l.blk∨∃id0 b0 l0,id0<H.n∧H.m id0=some b0∧b0.rw=true∧ρ id0=some l0∧l0.blk=l.blk∧H'.m id0=none
def Free (ρ:Ren) (lo hi:Nat):Prop:=∀id,lo≤id→id<hi→ρ id=none
theorem Step.le {w0:World} {ρ ρ':Ren} {H H':AH} {w w':World} (h:Step w0 ρ H w ρ' H' w') (hf:Free ρ H.n H'.n):Le ρ ρ':=by
 intro id l hl
 by_cases hc:id<H.n∨H'.n≤id
 ·rw[h.ext id hc];exact hl
 ·have:=hf id (by omega) (by omega)
  rw[this] at hl
  cases hl
theorem Step.refl {w0:World} {ρ:Ren} {H:AH} {w:World} (h:WR w0 ρ H w):Step w0 ρ H w ρ H w:=
 ⟨h,Nat.le_refl _,Nat.le_refl _,fun _ _=>rfl,fun _ _ _=>rfl,fun _ b _ h=>⟨b,h,rfl⟩,fun _ _ _ h1 h2=>by omega⟩
theorem Step.trans {w0:World} {ρ ρ1 ρ2:Ren} {H H1 H2:AH} {w w1 w2:World} (h:Step w0 ρ H w ρ1 H1 w1) (k:Step w0 ρ1 H1 w1 ρ2 H2 w2):Step w0 ρ H w ρ2 H2 w2:=by
 have hsz:=h.size
 have hn:=h.nle
 have kn:=k.nle
 refine⟨k.wr,Nat.le_trans h.nle k.nle,Nat.le_trans h.size k.size,?_,?_,?_,?_⟩
 ·intro id hid
  rcases hid with hid | hid
  ·rw[k.ext id (.inl (by omega)),h.ext id (.inl hid)]
  ·rw[k.ext id (.inr hid),h.ext id (.inr (by omega))]
 ·intro b hb hno
  rw[k.keep b (by omega) ?_,h.keep b hb hno]
  intro id bl l hid hm hrw hl
  by_cases hi:id<H.n
  ·obtain⟨b0,hb0,hr⟩:=h.res id bl hi hm
   exact hno id b0 l hi hb0 (hr.trans hrw) (by rw[← h.ext id (.inl hi)];exact hl)
  ·rcases h.new id bl l (by omega) hid hm hrw hl with hge | ⟨id0,b0,l0,hi0,hm0,hr0,hl0,he,_⟩
   ·omega
   ·rw[← he];exact hno id0 b0 l0 hi0 hm0 hr0 hl0
 ·intro id b' hid hm
  obtain⟨b1,hb1,hr1⟩:=k.res id b' (by omega) hm
  obtain⟨b0,hb0,hr0⟩:=h.res id b1 hid hb1
  exact⟨b0,hb0,hr0.trans hr1⟩
 ·intro id b l hlo hhi hm hrw hl
  by_cases hi:id<H1.n
  ·obtain⟨b1,hb1,hr1⟩:=k.res id b hi hm
   have hl1:ρ1 id=some l:=by rw[← k.ext id (.inl hi)];exact hl
   rcases h.new id b1 l hlo hi hb1 (hr1.trans hrw) hl1 with hge | ⟨id0,b0,l0,hi0,hm0,hr0,hl0,he,hd⟩
   ·exact .inl hge
   ·refine .inr ⟨id0,b0,l0,hi0,hm0,hr0,hl0,he,?_⟩
    cases hk:H2.m id0 with
    | none=>rfl
    | some b2=>
     obtain⟨b3,hb3,_⟩:=k.res id0 b2 (by omega) hk
     rw[hd] at hb3
     cases hb3
  ·rcases k.new id b l (by omega) hhi hm hrw hl with hge | ⟨id0,b0,l0,hi0,hm0,hr0,hl0,he,hd⟩
   ·exact .inl (by omega)
   ·by_cases hi00:id0<H.n
    ·obtain⟨b00,hb00,hr00⟩:=h.res id0 b0 hi00 hm0
     exact .inr ⟨id0,b00,l0,hi00,hb00,hr00.trans hr0,by rw[← h.ext id0 (.inl hi00)];exact hl0,he,hd⟩
    ·rcases h.new id0 b0 l0 (by omega) hi0 hm0 hr0 hl0 with hge | ⟨id1,b1,l1,hi1,hm1,hr1,hl1,he1,hd1⟩
     ·exact .inl (by omega)
     ·refine .inr ⟨id1,b1,l1,hi1,hm1,hr1,hl1,he1.trans he,?_⟩
      cases hk:H2.m id1 with
      | none=>rfl
      | some b2=>
       obtain⟨b3,hb3,_⟩:=k.res id1 b2 (by omega) hk
       rw[hd1] at hb3
       cases hb3
theorem WR.id_lt {w0:World} {ρ:Ren} {H:AH} {w:World} (h:WR w0 ρ H w) {id:Nat} {b:Blk} (hm:H.m id=some b):id<H.n:=by
 rcases Nat.lt_or_ge id H.n with hi | hi
 ·exact hi
 ·rw[h.fin id hi] at hm;cases hm
theorem WR.cell {w0:World} {ρ:Ren} {H:AH} {w:World} (h:WR w0 ρ H w) {id:Nat} {b:Blk} {l:Loc} (hid:id<H.n) (hm:H.m id=some b) (hl:ρ id=some l) {i:Nat} {v:Value} (hi:b.cells[i]?=some v):
  ∃c,w.cell? ⟨l.blk,l.off+i,none⟩=some c∧VR ρ v c:=by
 cases hr:b.rw with
 | true=>
  obtain⟨_,cs,hh,_,hc⟩:=h.own id b l hid hm hl hr
  obtain⟨c,hc1,hv⟩:=hc i v hi
  refine⟨c,?_,hv⟩
  simp[World.cell?,hh,hc1]
 | false=>
  obtain⟨hlt,hc⟩:=h.came id b l hid hm hl hr
  obtain⟨c,hc1,hv⟩:=hc i v hi
  exact⟨c,by rw[h.below.cell (p:=⟨l.blk,l.off+i,none⟩) hlt];exact hc1,hv⟩
theorem WR.less {w0:World} {ρ:Ren} {H H':AH} {w:World} (h:WR w0 ρ H' w) (hn:H.n≤H'.n) (he:∀id,id<H.n→H'.m id=H.m id) (hfin:∀id,H.n≤id→H.m id=none):WR w0 ρ H w where
 below:=h.below
 own:=fun id b l hid hm=>h.own id b l (by omega) (by rw[he id hid];exact hm)
 came:=fun id b l hid hm=>h.came id b l (by omega) (by rw[he id hid];exact hm)
 inj:=fun id id' b b' l l' hid hid' hm hm'=>h.inj id id' b b' l l' (by omega) (by omega) (by rw[he id hid];exact hm) (by rw[he id' hid'];exact hm')
 lt:=h.lt
 fin:=hfin
theorem WR.drawn {w0:World} {ρ:Ren} {H:AH} {w:World} (h:WR w0 ρ H w) (d:Nat):WR w0 ρ H {w with drawn:=d}:=
 ⟨⟨h.below.os,h.below.tape,h.below.output,h.below.size,h.below.block⟩,h.own,h.came,h.inj,h.lt,h.fin⟩
abbrev Env:=Nat→Value
def ev (e:Env):Operand→Value
 | .tmp t=>e t
 | .const v=>v
 | .func f=>.func (.func f) #[] #[]
 | .global g=>.pointer (some ⟨g,0,none⟩)
structure ER (ρ:Ren) (e:Env) (a:Act) (nt:Nat):Prop where
 size:a.tmps.size=nt
 at_:∀t,t<nt→VR ρ (e t) (a.tmps.getD t undef)
def opOk (nt:Nat):Operand→Bool
 | .tmp t=>decide (t<nt)
 | .const v=>scal v
 | .func _=>true
 | .global _=>false
theorem ER.ev {ρ:Ren} {e:Env} {a:Act} {nt:Nat} (h:ER ρ e a nt) {x:Operand} (hx:opOk nt x=true):VR ρ (Am.ev e x) (a.eval x):=by
 cases x with
 | tmp t=>exact h.at_ t (by simpa [opOk] using hx)
 | const v=>exact .sc v hx
 | func f=>exact .func _ _ _ _ _ U U (fun i hi=>by simp at hi) (fun i hi=>by simp at hi)
 | global g=>simp[opOk] at hx
def aun (op:UnOp) (x:Value):Option Value:=
 match op,x with
 | .neg,.int k n=>some (.int k (k.wrap (0-n)))
 | .not,.bool b=>some (.bool !b)
 | .xor,.int k n=>some (.int k (k.wrap ((BitVec.ofInt k.bits (if k.signed then -1 else k.max)) ^^^ (BitVec.ofInt k.bits n)).toNat))
 | _,_=>none
def aint (op:BinOp) (k:IntKind) (x y:Int):Option Value:=
 match op with
 | .add=>some (.int k (k.wrap (x+y)))
 | .sub=>some (.int k (k.wrap (x-y)))
 | .mul=>some (.int k (k.wrap (x*y)))
 | .quo=>if y=0 then none else some (.int k (k.wrap (x.tdiv y)))
 | .rem=>if y=0 then none else some (.int k (x.tmod y))
 | .and=>some (.int k (k.wrap (BitVec.ofInt k.bits x &&& BitVec.ofInt k.bits y).toNat))
 | .or=>some (.int k (k.wrap (BitVec.ofInt k.bits x ||| BitVec.ofInt k.bits y).toNat))
 | .xor=>some (.int k (k.wrap (BitVec.ofInt k.bits x ^^^ BitVec.ofInt k.bits y).toNat))
 | .andNot=>some (.int k (k.wrap (BitVec.ofInt k.bits x &&& ~~~BitVec.ofInt k.bits y).toNat))
 | .eql=>some (.bool (x==y))
 | .neq=>some (.bool (x !=y))
 | .lss=>some (.bool (x<y))
 | .leq=>some (.bool (x≤y))
 | .gtr=>some (.bool (x>y))
 | .geq=>some (.bool (x≥y))
 | _=>none
def ashift (op:BinOp) (k:IntKind) (x y:Int):Option Value:=
 if y<0 then none
 else match op with
  | .shl=>some (.int k (k.wrap (x*2 ^ min y.toNat k.bits)))
  | .shr=>some (.int k (x.fdiv (2 ^ min y.toNat k.bits)))
  | _=>none
def astr (op:BinOp) (x y:ByteArray):Option Value:=
 match op with
 | .add=>if x.size+y.size≤9223372036854775807 then some (.string (x++y)) else none
 | .eql=>some (.bool (x.toList==y.toList))
 | .neq=>some (.bool !(x.toList==y.toList))
 | .lss=>some (.bool (Op.bytesLess x.toList y.toList))
 | .leq=>some (.bool (Op.bytesLess x.toList y.toList||x.toList==y.toList))
 | .gtr=>some (.bool !(Op.bytesLess x.toList y.toList||x.toList==y.toList))
 | .geq=>some (.bool !(Op.bytesLess x.toList y.toList))
 | _=>none
def abool (op:BinOp) (x y:Bool):Option Value:=
 match op with
 | .eql=>some (.bool (x==y))
 | .neq=>some (.bool !(x==y))
 | _=>none
def abin (P:Program) (op:BinOp) (t:TypeId) (x y:Value):Option Value:=
 match x,y with
 | .int k a,.int k' b=>match op with
  | .shl=>ashift .shl k a b
  | .shr=>ashift .shr k a b
  | op=>if k=k' then aint op k a b else none
 | .string a,.string b=>astr op a b
 | .bool a,.bool b=>match P.underlying t with
  | some .bool=>abool op a b
  | _=>none
 | .slice a _ _,.slice none 0 0=>match P.underlying t with
  | some (.slice _)=>abool op a.isNone true
  | _=>none
 | _,_=>none
def aconv (P:Program) (s d:TypeId) (x:Value):Option Value:=
 match P.underlying s,P.underlying d,x with
 | some _,some (.int k),.int _ n=>some (.int k (k.wrap n))
 | some _,some .string,.string b=>some (.string b)
 | _,_,_=>none
def abound (v:Value) (top:Nat):Option Nat:=
 match v with
 | .int _ i=>if 0≤i∧i≤top then some i.toNat else none
 | _=>none
def bHi (hi:Option Value) (n c:Nat):Option Nat:=match hi with | some v=>abound v c | none=>some n
def bLo (lo:Option Value) (h:Nat):Option Nat:=match lo with | some v=>abound v h | none=>some 0
def acut (P:Program) (t:TypeId) (x:Value) (lo hi:Option Value):Option Value:=
 match P.underlying t,x with
 | some .string,.string s=>
  match bHi hi s.size s.size with
  | some h=>match bLo lo h with
   | some l=>some (.string (s.extract l h))
   | none=>none
  | none=>none
 | some (.slice el),.slice a n c=>
  match P.info? el with
  | some inf=>
   match bHi hi n c with
   | some h=>match bLo lo h with
    | some l=>match a with
     | none=>some (.slice none (h-l) (c-l))
     | some ⟨id,k,some es⟩=>if es=inf.size then(if l=0 then some (.slice (some ⟨id,k,some es⟩) h c) else if c=l then some (.slice (some ⟨id,k,none⟩) 0 0) else some (.slice (some ⟨id,k+l*es,some es⟩) (h-l) (c-l))) else none
     | _=>none
    | none=>none
   | none=>none
  | none=>none
 | _,_=>none
def acut3 (P:Program) (t:TypeId) (x lo hi mx:Value):Option Value:=
 match P.underlying t,x with
 | some (.slice el),.slice (some ⟨id,k,some es⟩) _ c=>match P.info? el with
  | some inf=>match abound mx c with
   | some m=>match abound hi m with
    | some h=>match abound lo h with
     | some l=>if es=inf.size then(if m=l then some (.slice (some ⟨id,k,none⟩) 0 0) else some (.slice (some ⟨id,k+l*es,some es⟩) (h-l) (m-l))) else none
     | none=>none
    | none=>none
   | none=>none
  | none=>none
 | _,_=>none
def apart (P:Program) (t:TypeId) (cs:Array Value) (off:Nat):Option Value:=
 match P.underlying t,P.info? t with
 | some (.struct _),some i=>some (.agg (cs.extract off (off+i.size)))
 | some (.array _ _),some i=>some (.agg (cs.extract off (off+i.size)))
 | some _,_=>cs[off]?
 | none,_=>none
def aargs (e:Env) (xs:Array Operand):Array Value:=(xs.toList.map (ev e)).toArray
def amax (more:Bool):Value→List Value→Option Value
 | v,[]=>some v
 | .int k x,.int _ y :: r=>amax more (.int k (if(if more then y>x else y<x) then y else x)) r
 | _,_=>none
def zeroOk (P:Program) (t:TypeId):Bool:=
 match P.info? t with
 | some i=>match i.zero with
  | some z=>z.cells.all scal&&z.cells.size==i.size
  | none=>false
 | none=>false
def abuild (P:Program) (t:TypeId) (parts:List (Nat × Value)):Option Value:=
 if zeroOk P t=true then(match P.built t parts with
  | some cs=>some (.agg cs)
  | none=>none) else none
def pop (P:Program) (op:Op) (e:Env):Option Value:=
 match op with
 | .move x=>some (ev e x)
 | .assign x=>some (ev e x)
 | .pick c a b=>match ev e c with
  | .bool t=>some (if t then ev e a else ev e b)
  | _=>none
 | .unOp op _ x=>aun op (ev e x)
 | .binOp op t x y _=>abin P op t (ev e x) (ev e y)
 | .convert s d x=>aconv P s d (ev e x)
 | .extract t i=>match ev e t with
  | .tuple vs=>vs[i]?
  | _=>none
 | .nilCheck x=>match ev e x with
  | .pointer (some a)=>some (.pointer (some a))
  | _=>none
 | .fieldAddr s x f=>match P.underlying s,ev e x with
  | some (.struct fs),.pointer (some ⟨id,k,sp⟩)=>match fs[f]? with
   | some fd=>match P.info? fd.type with
    | some i=>if i.size=0 then none else some (.pointer (some ⟨id,k+fd.offset,sp⟩))
    | none=>none
   | none=>none
  | _,_=>none
 | .field s x f=>match P.underlying s,ev e x with
  | some (.struct fs),.agg cs=>match fs[f]? with
   | some fd=>apart P fd.type cs fd.offset
   | none=>none
  | _,_=>none
 | .indexAddr t x i=>match P.underlying t,ev e x,ev e i with
  | some (.slice el),.slice (some ⟨id,k,some _⟩) n _,.int _ j=>match P.info? el with
   | some inf=>if 0≤j∧j<n then some (.pointer (some ⟨id,k+j.toNat*inf.size,none⟩)) else none
   | none=>none
  | _,_,_=>none
 | .index t x i=>match P.underlying t,ev e x,ev e i with
  | some .string,.string s,.int _ j=>if 0≤j then(s[j.toNat]?).map fun b=>.int .u8 b.toNat else none
  | _,_,_=>none
 | .slice t x lo hi none=>acut P t (ev e x) (lo.map (ev e)) (hi.map (ev e))
 | .slice t x (some lo) (some hi) (some mx)=>acut3 P t (ev e x) (ev e lo) (ev e hi) (ev e mx)
 | .makeFunc fn first cap=>some (.func fn (aargs e first) (aargs e cap))
 | .makeInterface t x=>if P.concrete t then some (.iface t (ev e x)) else none
 | .build t parts=>abuild P t (parts.toList.map fun p=>(p.1,ev e p.2))
 | .call {callee:=.builtin .len,args:=xs,argTypes:=ts}=>match ((ts[0]?).bind P.underlying:Option TypeDesc),((aargs e xs)[0]?:Option Value) with
  | some .string,some (.string s)=>some (.int .i64 s.size)
  | some (.slice _),some (.slice _ n _)=>some (.int .i64 n)
  | _,_=>none
 | .call {callee:=.builtin .max,args:=xs,argTypes:=_}=>match (aargs e xs).toList with
  | .int k x :: r=>amax true (.int k x) r
  | _=>none
 | .call {callee:=.builtin .min,args:=xs,argTypes:=_}=>match (aargs e xs).toList with
  | .int k x :: r=>amax false (.int k x) r
  | _=>none
 | _=>none
section
variable {P:Program} {ρ:Ren}
theorem VR.int_ {k:IntKind} {n:Int} {c:Value} (h:VR ρ (.int k n) c):c=.int k n:=by cases h;rfl
theorem VR.bool_ {b:Bool} {c:Value} (h:VR ρ (.bool b) c):c=.bool b:=by cases h;rfl
theorem VR.string_ {b:ByteArray} {c:Value} (h:VR ρ (.string b) c):c=.string b:=by cases h;rfl
theorem VR.ptr_ {id k:Nat} {sp:Option Nat} {c:Value} (h:VR ρ (.pointer (some ⟨id,k,sp⟩)) c):∃l,ρ id=some l∧c=.pointer (some ⟨l.blk,l.off+k,none⟩):=by
  cases h with
  | sc v h=>simp[scal] at h
  | ptr id k sp l h=>exact⟨l,h,rfl⟩
theorem VR.tup_ {a:Array Value} {c:Value} (h:VR ρ (.tuple a) c):∃a',c=.tuple a'∧VRs ρ a a':=by
  cases h with
  | sc v h=>simp[scal] at h
  | tup a a' ha h=>exact⟨a',rfl,ha,h⟩
theorem VR.agg_ {a:Array Value} {c:Value} (h:VR ρ (.agg a) c):∃a',c=.agg a'∧VRs ρ a a':=by
  cases h with
  | sc v h=>simp[scal] at h
  | agg a a' ha h=>exact⟨a',rfl,ha,h⟩
theorem VR.slice_ {a:Option Addr} {n m:Nat} {c:Value} (h:VR ρ (.slice a n m) c):∃a' m',c=.slice a' n m'∧a'.isNone=a.isNone∧m≤m':=by
  cases h with
  | sc v h=>exact⟨a,m,rfl,rfl,Nat.le_refl _⟩
  | slc id k es n c c' l h hn hc hs=>exact⟨_,c',rfl,rfl,hc⟩
  | sl0 id k a c'=>exact⟨_,c',rfl,rfl,Nat.zero_le _⟩
theorem VRs.some_ {a a':Array Value} (h:VRs ρ a a') {i:Nat} {v:Value} (hv:a[i]?=some v):∃c,a'[i]?=some c∧VR ρ v c:=by
  obtain⟨hi,rfl⟩:=Array.getElem?_eq_some_iff.1 hv
  have hi':i<a'.size:=by rw[← h.1];exact hi
  refine⟨a'[i],by simp[hi'],?_⟩
  have:=h.2 i hi
  simpa [hi,hi'] using this
theorem aargs_ok {e:Env} {a:Act} {nt:Nat} (hE:ER ρ e a nt) {xs:Array Operand} (hx:xs.all (opOk nt)=true):VRs ρ (aargs e xs) (xs.map a.eval):=by
  refine⟨by simp[aargs],fun i hi=>?_⟩
  have hi':i<xs.size:=by simpa [aargs] using hi
  have h1:(aargs e xs).getD i undef=ev e xs[i]:=by simp[aargs,hi']
  have h2:(xs.map a.eval).getD i undef=a.eval xs[i]:=by simp[hi']
  rw[h1,h2]
  exact hE.ev (Array.all_eq_true.1 hx i hi')
theorem aun_ok (w:World) {op:UnOp} {x v:Value} {c:Value} (hx:VR ρ x c) (h:aun op x=some v):VR ρ v v∧(Op.unary op c).run P w=.ok v w:=by
  unfold aun at h
  split at h<;>first | (cases h;done) | skip
  · obtain rfl:=hx.int_;cases h;exact⟨.sc _ rfl,rfl⟩
  · obtain rfl:=hx.bool_;cases h;exact⟨.sc _ rfl,rfl⟩
  · obtain rfl:=hx.int_;cases h;exact⟨.sc _ rfl,rfl⟩
theorem aint_ok (w:World) (t:TypeId) {op:BinOp} {k:IntKind} {x y:Int} {v:Value} (h:aint op k x y=some v) (hs:op≠.shl) (hs':op≠.shr):VR ρ v v∧(binOp op t (.int k x) (.int k y)).run P w=.ok v w:=by
  cases op<;>simp only[aint] at h<;>first
    | (cases h;done)
    | exact absurd rfl hs
    | exact absurd rfl hs'
    | (cases h;exact⟨.sc _ rfl,by simp[binOp,Op.intArith,Op.intBits,Op.intCmp]⟩)
    | (split at h
       · cases h
       · rename_i hy;cases h;exact⟨.sc _ rfl,by simp[binOp,Op.intDiv,hy]⟩)
theorem ashift_ok (w:World) (t:TypeId) {op:BinOp} {k k':IntKind} {x y:Int} {v:Value} (h:ashift op k x y=some v) (ho:op=.shl∨op=.shr):VR ρ v v∧(binOp op t (.int k x) (.int k' y)).run P w=.ok v w:=by
  unfold ashift at h
  split at h
  · cases h
  · rename_i hy
    rcases ho with rfl | rfl<;>(cases h;exact⟨.sc _ rfl,by simp[binOp,Op.shift,hy]⟩)
theorem astr_ok (w:World) (t:TypeId) {op:BinOp} {x y:ByteArray} {v:Value} (h:astr op x y=some v):VR ρ v v∧(binOp op t (.string x) (.string y)).run P w=.ok v w:=by
  cases op<;>simp only[astr] at h<;>first
    | (cases h;done)
    | (cases h;exact⟨.sc _ rfl,by simp[binOp,Op.stringOp]⟩)
    | (split at h
       · rename_i hy;cases h;exact⟨.sc _ rfl,by
           have:=run_string_add_sum (P:=P) w x y hy
           simpa [binOp] using this⟩
       · cases h)
theorem abin_ok (w:World) {op:BinOp} {t:TypeId} {x y v c d:Value} (hx:VR ρ x c) (hy:VR ρ y d) (h:abin P op t x y=some v):VR ρ v v∧(binOp op t c d).run P w=.ok v w:=by
  unfold abin at h
  split at h
  · obtain rfl:=hx.int_
    obtain rfl:=hy.int_
    split at h
    · exact ashift_ok w t h (.inl rfl)
    · exact ashift_ok w t h (.inr rfl)
    · rename_i h1 h2
      split at h
      · rename_i hk
        subst hk
        exact aint_ok w t h (fun e=>h1 e) (fun e=>h2 e)
      · cases h
  · obtain rfl:=hx.string_
    obtain rfl:=hy.string_
    exact astr_ok w t h
  · obtain rfl:=hx.bool_
    obtain rfl:=hy.bool_
    split at h
    · rename_i hu
      cases op<;>simp only[abool] at h<;>first
        | (cases h;done)
        | (cases h;exact⟨.sc _ rfl,run_eql_bool w t _ _ hu⟩)
        | (cases h;exact⟨.sc _ rfl,run_neq_bool w t _ _ hu⟩)
    · cases h
  · obtain⟨a',m',rfl,hn,_⟩:=hx.slice_
    obtain rfl:=scal_eq rfl hy
    split at h
    · rename_i el hu
      have he:=fun l=>run_equal_slice_nil (P:=P) w t el a' l m' hu
      cases op<;>simp only[abool] at h<;>first
        | (cases h;done)
        | (cases h;refine⟨.sc _ rfl,?_⟩;simp only[binOp,Sem.run_bind,he,Result.andThen_ok];simp[hn])
    · cases h
  · cases h
theorem eqGuard_ok (w:World) {op:BinOp} {t:TypeId} {x y:Operand} {u v r c d:Value} (hx:VR ρ u c) (hy:VR ρ v d) (h:abin P op t u v=some r):(eqGuard op t x y c d).run P w=.ok () w:=by
  unfold abin at h
  unfold eqGuard
  split at h
  · obtain rfl:=hx.int_;obtain rfl:=hy.int_;cases op<;>rfl
  · obtain rfl:=hx.string_;obtain rfl:=hy.string_;cases op<;>rfl
  · obtain rfl:=hx.bool_;obtain rfl:=hy.bool_;cases op<;>rfl
  · obtain⟨a',m',rfl,hn,_⟩:=hx.slice_
    obtain rfl:=scal_eq rfl hy
    cases op<;>rfl
  · cases h
theorem aconv_ok (w:World) {s d:TypeId} {x v c:Value} (hx:VR ρ x c) (h:aconv P s d x=some v):VR ρ v v∧(convert s d c).run P w=.ok v w:=by
  unfold aconv at h
  split at h
  · rename_i _ _ _ k k' n hs hd
    obtain rfl:=hx.int_;cases h
    refine⟨.sc _ rfl,?_⟩
    simp[convert,run_underlying hs,run_underlying hd,Conv.intToInt]
  · rename_i _ _ _ b hs hd
    obtain rfl:=hx.string_;cases h
    refine⟨.sc _ rfl,?_⟩
    simp[convert,run_underlying hs,run_underlying hd]
  · cases h
theorem abound_ok (w:World) {v c:Value} {top n:Nat} (code:BoundsCode) (hv:VR ρ v c) (h:abound v top=some n):(Instr.sliceBound c top code).run P w=.ok n w∧n≤top:=by
  unfold abound at h
  split at h
  · obtain rfl:=hv.int_
    split at h
    · rename_i hi
      cases h
      refine⟨by simp[Instr.sliceBound,asIntOf,hi],by omega⟩
    · cases h
  · cases h
theorem sliceBounds_ok (w:World) {s:Bool} {n c h l:Nat} {lo hi clo chi:Option Value} (hlo:∀v,lo=some v→∃c,clo=some c∧VR ρ v c) (hlo':lo=none→clo=none) (hhi:∀v,hi=some v→∃c,chi=some c∧VR ρ v c) (hhi':hi=none→chi=none)
    {c':Nat} (hc:c≤c') (h1:bHi hi n c=some h) (h2:bLo lo h=some l):(Instr.sliceBounds s n c' clo chi none).run P w=.ok (l,h,c') w∧l≤h:=by
  have up:∀{v:Value} {x:Nat},abound v c=some x→abound v c'=some x:=by
    intro v x hv
    unfold abound at hv ⊢
    split at hv
    · split at hv
      · rename_i hi;rw[if_pos (by omega)];exact hv
      · cases hv
    · cases hv
  unfold bHi at h1
  unfold bLo at h2
  cases lo with
  | none=>
    have:=hlo' rfl;subst this
    simp at h2
    subst h2
    cases hi with
    | none=>have:=hhi' rfl;subst this;simp at h1;subst h1;simp[Instr.sliceBounds]
    | some v=>
      obtain⟨d,rfl,hd⟩:=hhi v rfl
      have:=(abound_ok (P:=P) w (if s=true then .sliceAcap else .sliceAlen) hd (up h1)).1
      simp[Instr.sliceBounds,this]
  | some u=>
    obtain⟨d,rfl,hd⟩:=hlo u rfl
    have hb:=abound_ok (P:=P) w .sliceB hd h2
    refine⟨?_,hb.2⟩
    cases hi with
    | none=>have:=hhi' rfl;subst this;simp at h1;subst h1;simp[Instr.sliceBounds,hb.1]
    | some v=>
      obtain⟨d',rfl,hd'⟩:=hhi v rfl
      have:=(abound_ok (P:=P) w (if s=true then .sliceAcap else .sliceAlen) hd' (up h1)).1
      simp[Instr.sliceBounds,this,hb.1]
end
section
variable {P:Program} {ρ:Ren}
def Parts (ρ:Ren):List (Nat × Value)→List (Nat × Value)→Prop
 | [],[]=>True
 | p :: ps,q :: qs=>p.1=q.1∧VR ρ p.2 q.2∧Parts ρ ps qs
 | _,_=>False
theorem Parts.map {e:Env} {a:Act} {nt:Nat} (hE:ER ρ e a nt):∀(l:List (Nat × Operand)),(∀p∈l,opOk nt p.2=true)→Parts ρ (l.map fun p=>(p.1,ev e p.2)) (l.map fun p=>(p.1,a.eval p.2))
 | [],_=>trivial
 | p :: l,h=>⟨rfl,hE.ev (h p (by simp)),Parts.map hE l (fun q hq=>h q (by simp[hq]))⟩
theorem VRs.set {a a':Array Value} (h:VRs ρ a a') (i:Nat) {v c:Value} (hv:VR ρ v c):VRs ρ (a.setIfInBounds i v) (a'.setIfInBounds i c):=by
 refine⟨by simp[h.1],fun j hj=>?_⟩
 have hj':j<a.size:=by simpa using hj
 have hj2:j<a'.size:=by rw[← h.1];exact hj'
 have:=h.2 j hj'
 by_cases hij:i=j
 ·subst hij;simpa [hj',hj2] using hv
 ·simp only[Array.getD_eq_getD_getElem?,Array.getElem?_setIfInBounds_ne hij] at this ⊢
  exact this
theorem VRs.fold (off:Nat):∀(l l':List (Value × Nat)) (a a':Array Value),l.length=l'.length→(∀(i:Nat) (p q:Value × Nat),l[i]?=some p→l'[i]?=some q→p.2=q.2∧VR ρ p.1 q.1)→VRs ρ a a'→
  VRs ρ (l.foldl (fun cs p=>cs.setIfInBounds (off+p.2) p.1) a) (l'.foldl (fun cs p=>cs.setIfInBounds (off+p.2) p.1) a')
 | [],[],a,a',_,_,h=>h
 | [],_ :: _,_,_,hl,_,_=>by simp at hl
 | _ :: _,[],_,_,hl,_,_=>by simp at hl
 | p :: l,q :: l',a,a',hl,hp,h=>by
  obtain⟨h1,h2⟩:=hp 0 p q U U
  simp only[List.foldl_cons]
  refine VRs.fold off l l' _ _ (by simpa using hl) (fun i p q hi hj=>hp (i+1) p q (by simpa using hi) (by simpa using hj)) ?_
  rw[h1]
  exact h.set _ h2
theorem fill_ok (place:Nat→Option (Nat × Nat)):∀(l l':List (Nat × Value)) (a a' b:Array Value),Parts ρ l l'→VRs ρ a a'→Instr.fill place a l=some b→∃b',Instr.fill place a' l'=some b'∧VRs ρ b b'
 | [],[],a,a',b,_,ha,h=>by
  simp only[Instr.fill] at h ⊢
  cases h
  exact⟨a',rfl,ha⟩
 | [],_ :: _,_,_,_,hp,_,_=>hp.elim
 | _ :: _,[],_,_,_,hp,_,_=>hp.elim
 | (i,v) :: l,(j,c) :: l',a,a',b,hp,ha,h=>by
  obtain⟨hij,hv,hp⟩:=hp
  simp only at hij hv
  subst hij
  have hc:=hv.cells
  simp only[Instr.fill] at h ⊢
  cases hpl:place i with
  | none=>rw[hpl] at h;cases h
  | some os=>
   obtain⟨off,size⟩:=os
   rw[hpl] at h
   simp only at h ⊢
   rw[← hc.1,← ha.1]
   split at h
   ·cases h
   ·rename_i hcond
    rw[if_neg hcond]
    refine fill_ok place l l' _ _ b hp ?_ h
    rw[← Array.foldl_toList,← Array.foldl_toList]
    refine VRs.fold off _ _ a a' (by simp[hc.1]) ?_ ha
    intro k p q hk hq
    rw[Array.getElem?_toList,Array.getElem?_zipIdx] at hk hq
    cases h1:v.cells[k]? with
    | none=>rw[h1] at hk;cases hk
    | some u=>
     obtain⟨d,hd,hud⟩:=hc.some_ h1
     rw[h1] at hk
     rw[hd] at hq
     simp at hk hq
     subst hk
     subst hq
     exact⟨rfl,hud⟩
theorem VRs.refl_ {a:Array Value} (h:a.all scal=true):VRs ρ a a:=by
 refine⟨rfl,fun i hi=>?_⟩
 have:=Array.all_eq_true.1 h i hi
 rw[show a.getD i undef=a[i] from by simp[hi]]
 exact .sc _ this
theorem abuild_ok {t:TypeId} {l l':List (Nat × Value)} {v:Value} (hp:Parts ρ l l') (h:abuild P t l=some v):∃c,VR ρ v c∧∀w,(Instr.build t l'.toArray).run P w=.ok c w:=by
 unfold abuild at h
 split at h
 ·rename_i hz
  split at h
  ·rename_i cs hb
   cases h
   unfold zeroOk at hz
   have key:∃cs',P.built t l'=some cs'∧VRs ρ cs cs':=by
    unfold Program.built at hb ⊢
    cases hi:P.info? t with
    | none=>simp[hi] at hb
    | some it=>
     cases hu:P.underlying t with
     | none=>simp[hi,hu] at hb
     | some d=>
      cases hzz:it.zero with
      | none=>cases d<;>simp[hi,hu,hzz] at hb
      | some z=>
       simp only[hi,hzz,Bool.and_eq_true] at hz
       have hz:=hz.1
       cases d<;>try (simp[hi,hu] at hb;done)
       case array n e=>
        cases hie:P.info? e with
        | none=>simp[hi,hu,hzz,hie] at hb
        | some ie=>
         simp only[hi,hu,hzz,hie] at hb ⊢
         exact fill_ok _ _ _ _ _ _ hp (VRs.refl_ hz) hb
       case struct fs=>
        cases hm:fs.toList.mapM (fun f=>(P.info? f.type).map fun i=>(f.offset,i.size)) with
        | none=>simp[hi,hu,hzz,hm] at hb
        | some places=>
         simp only[hi,hu,hzz,hm] at hb ⊢
         exact fill_ok _ _ _ _ _ _ hp (VRs.refl_ hz) hb
   obtain⟨cs',hb',hv⟩:=key
   exact⟨.agg cs',.agg _ _ hv.1 hv.2,fun w=>run_build w t l'.toArray cs' hb'⟩
  ·cases h
 ·cases h
theorem add_at (b o n:Nat):(⟨b,o,none⟩:Addr).add n=⟨b,o+n,none⟩:=by unfold Addr.add;split<;>simp_all
theorem acut_ok {t:TypeId} {x c v:Value} {lo hi clo chi:Option Value} (hx:VR ρ x c) (hlo:∀v,lo=some v→∃c,clo=some c∧VR ρ v c) (hlo':lo=none→clo=none) (hhi:∀v,hi=some v→∃c,chi=some c∧VR ρ v c) (hhi':hi=none→chi=none)
  (h:acut P t x lo hi=some v):∃d,VR ρ v d∧∀w,(Instr.sliceAt t c clo chi none).run P w=.ok d w:=by
 unfold acut at h
 split at h
 ·rename_i s hu
  obtain rfl:=hx.string_
  split at h
  ·rename_i hh h1
   split at h
   ·rename_i ll h2
    cases h
    have hb:=fun w=>(sliceBounds_ok (P:=P) (ρ:=ρ) w (s:=false) (n:=s.size) (c:=s.size) hlo hlo' hhi hhi' (Nat.le_refl _) h1 h2).1
    refine⟨_,.sc _ rfl,fun w=>?_⟩
    simp[Instr.sliceAt,Instr.slice,run_underlying hu,hb]
   ·cases h
  ·cases h
 ·rename_i el a n m hu
  split at h
  ·rename_i inf hinf
   have hsz:∀w,(sizeOf el).run P w=.ok inf.size w:=by intro w;simp[sizeOf,typeInfo,hinf]
   split at h
   ·rename_i hh h1
    split at h
    ·rename_i ll h2
     have go:∀{m':Nat},m≤m'→∀A:Option Addr,c=.slice A n m'→(∀w,(Instr.sliceAt t c clo chi none).run P w=.ok (.slice (if m'=ll then A else A.map (·.add (ll*inf.size))) (hh-ll) (m'-ll)) w)∧ll≤hh:=by
      intro m' hm A hc
      subst hc
      have hb:=fun w=>sliceBounds_ok (P:=P) (ρ:=ρ) w (s:=true) (n:=n) hlo hlo' hhi hhi' hm h1 h2
      refine⟨fun w=>?_,(hb default).2⟩
      have hb:=(hb w).1
      simp[Instr.sliceAt,Instr.slice,run_underlying hu,hb,hsz]
     have hhm:hh≤m∨hi=none:=by
      cases hi with
      | none=>exact .inr rfl
      | some u=>exact .inl (by
        simp only[bHi] at h1
        unfold abound at h1
        split at h1
        ·split at h1
         ·cases h1;omega
         ·cases h1
        ·cases h1)
     split at h
     ·cases h
      cases hx
      obtain⟨hr,hle⟩:=go (Nat.le_refl _) none rfl
      refine⟨_,?_,hr⟩
      have e:(if m=ll then(none:Option Addr) else Option.map (fun x:Addr=>x.add (ll*inf.size)) none)=none:=by split<;>rfl
      rw[e]
      exact .sc _ rfl
     ·rename_i id k es
      split at h
      ·rename_i hes
       subst hes
       cases hx with
       | sc v hs=>simp[scal] at hs
       | slc id k es n c c' l hl hn hc hs=>
        obtain⟨hr,hle⟩:=go hc _ rfl
        have hhm':hh≤m:=by
         rcases hhm with hhm | hhm
         ·exact hhm
         ·subst hhm;simp[bHi] at h1;omega
        split at h
        ·rename_i hl0
         subst hl0
         cases h
         refine⟨_,?_,hr⟩
         simp only[Nat.zero_mul,Nat.sub_zero,Option.map_some]
         have e:(if c'=0 then some (⟨l.blk,l.off+k,none⟩:Addr) else some ((⟨l.blk,l.off+k,none⟩:Addr).add 0))=some ⟨l.blk,l.off+k,none⟩:=by split<;>rfl
         rw[e]
         exact .slc _ _ _ _ _ _ _ hl hhm' hc hs
        ·rename_i hl0
         split at h
         ·rename_i hml
          cases h
          refine⟨_,?_,hr⟩
          have hz:hh-ll=0:=by omega
          rw[hz]
          split
          ·exact .sl0 _ _ _ _
          ·simp only[Option.map_some,Go.Proofs.Ytlapbbffoapleaa.Am.add_at]
           exact .sl0 _ _ _ _
         ·rename_i hml
          cases h
          refine⟨_,?_,hr⟩
          rw[if_neg (by omega)]
          simp only[Option.map_some,Go.Proofs.Ytlapbbffoapleaa.Am.add_at]
          have e:l.off+k+ll*inf.size=l.off+(k+ll*inf.size):=by omega
          rw[e]
          refine .slc _ _ _ _ _ _ _ hl (by omega) (by omega) ?_
          have:(c'-ll)*inf.size+ll*inf.size=c'*inf.size:=by rw[← Nat.add_mul];congr 1;omega
          omega
      ·cases h
     ·cases h
    ·cases h
   ·cases h
  ·cases h
 ·cases h
theorem acut3_ok {t:TypeId} {x c v lo hi mx clo chi cmx:Value} (hx:VR ρ x c) (hlo:VR ρ lo clo) (hhi:VR ρ hi chi) (hmx:VR ρ mx cmx) (h:acut3 P t x lo hi mx=some v):∃d,VR ρ v d∧∀w,(Instr.sliceAt t c (some clo) (some chi) (some cmx)).run P w=.ok d w:=by
 unfold acut3 at h
 split at h
 ·rename_i el id k es n m0 hu
  split at h
  ·rename_i inf hinf
   have hsz:∀w,(sizeOf el).run P w=.ok inf.size w:=by intro w;simp[sizeOf,typeInfo,hinf]
   split at h
   ·rename_i m h1
    split at h
    ·rename_i hh h2
     split at h
     ·rename_i l h3
      split at h
      ·rename_i hes
       subst hes
       cases hx with
       | sc v hs=>simp[scal] at hs
       | slc id k es n c c' lc hl hn hc hs=>
        have b0:m≤m0:=(abound_ok (P:=P) default .sliceB hmx h1).2
        have up:abound mx c'=some m:=by
         unfold abound at h1 ⊢
         split at h1
         ·split at h1
          ·rw[if_pos (by omega)];exact h1
          ·cases h1
         ·cases h1
        have b1:=fun w=>abound_ok (P:=P) w .slice3Acap hmx up
        have b2:=fun w=>abound_ok (P:=P) w .slice3B hhi h2
        have b3:=fun w=>abound_ok (P:=P) w .slice3C hlo h3
        have l1:=(b1 default).2
        have l2:=(b2 default).2
        have l3:=(b3 default).2
        have hr:∀w,(Instr.sliceAt t (.slice (some ⟨lc.blk,lc.off+k,none⟩) n c') (some clo) (some chi) (some cmx)).run P w=.ok (.slice (if m=l then some ⟨lc.blk,lc.off+k,none⟩ else some ((⟨lc.blk,lc.off+k,none⟩:Addr).add (l*inf.size))) (hh-l) (m-l)) w:=fun w=>by
         simp[Instr.sliceAt,Instr.slice,Instr.sliceBounds,run_underlying hu,(b1 w).1,(b2 w).1,(b3 w).1,hsz]
        refine⟨_,?_,hr⟩
        split at h
        ·rename_i hml
         cases h
         rw[if_pos hml,show hh-l=0 by omega]
         exact .sl0 _ _ _ _
        ·rename_i hml
         cases h
         rw[if_neg hml,Am.add_at,show lc.off+k+l*inf.size=lc.off+(k+l*inf.size) by omega]
         refine .slc _ _ _ _ _ _ _ hl (by omega) (Nat.le_refl _) ?_
         have e1:(m-l)*inf.size+l*inf.size=m*inf.size:=by rw[← Nat.add_mul];congr 1;omega
         have e2:m*inf.size≤c'*inf.size:=Nat.mul_le_mul_right _ l1
         omega
      ·cases h
     ·cases h
    ·cases h
   ·cases h
  ·cases h
 ·cases h
end
def okAll (nt:Nat) (op:Op):Bool:=op.operands.all (opOk nt)
section
variable {P:Program} {ρ:Ren}
theorem amax_ok (w:World):∀(l l':List Value) (k:IntKind) (x:Int) (v:Value),l.length=l'.length→(∀(i:Nat) (p q:Value),l[i]?=some p→l'[i]?=some q→VR ρ p q)→amax true (.int k x) l=some v→
  scal v=true∧(l'.foldlM Builtin.max2 (.int k x)).run P w=.ok v w
 | [],[],k,x,v,_,_,h=>by simp only[amax] at h;cases h;exact⟨rfl,rfl⟩
 | [],_ :: _,_,_,_,hl,_,_=>by simp at hl
 | _ :: _,[],_,_,_,hl,_,_=>by simp at hl
 | p :: l,q :: l',k,x,v,hl,hp,h=>by
  have hpq:=hp 0 p q U U
  cases p<;>try (simp[amax] at h;done)
  rename_i k' y
  obtain rfl:=hpq.int_
  simp only[amax,if_true] at h
  obtain⟨h1,h2⟩:=amax_ok w l l' k _ v (by simpa using hl) (fun i p q hi hj=>hp (i+1) p q (by simpa using hi) (by simpa using hj)) h
  refine⟨h1,?_⟩
  simp only[List.foldlM_cons,Builtin.max2,Sem.run_bind,Sem.run_pure,Result.andThen_ok]
  exact h2
theorem amin_ok (w:World):∀(l l':List Value) (k:IntKind) (x:Int) (v:Value),l.length=l'.length→(∀(i:Nat) (p q:Value),l[i]?=some p→l'[i]?=some q→VR ρ p q)→amax false (.int k x) l=some v→
  scal v=true∧(l'.foldlM Builtin.min2 (.int k x)).run P w=.ok v w
 | [],[],k,x,v,_,_,h=>by simp only[amax] at h;cases h;exact⟨rfl,rfl⟩
 | [],_ :: _,_,_,_,hl,_,_=>by simp at hl
 | _ :: _,[],_,_,_,hl,_,_=>by simp at hl
 | p :: l,q :: l',k,x,v,hl,hp,h=>by
  have hpq:=hp 0 p q U U
  cases p<;>try (simp[amax] at h;done)
  rename_i k' y
  obtain rfl:=hpq.int_
  simp only[amax,Bool.false_eq_true,if_false] at h
  obtain⟨h1,h2⟩:=amin_ok w l l' k _ v (by simpa using hl) (fun i p q hi hj=>hp (i+1) p q (by simpa using hi) (by simpa using hj)) h
  refine⟨h1,?_⟩
  simp only[List.foldlM_cons,Builtin.min2,Sem.run_bind,Sem.run_pure,Result.andThen_ok]
  exact h2
theorem VRs.list {a a':Array Value} (h:VRs ρ a a'):a.toList.length=a'.toList.length∧∀(i:Nat) (p q:Value),a.toList[i]?=some p→a'.toList[i]?=some q→VR ρ p q:=by
 refine⟨by simp[h.1],fun i p q hp hq=>?_⟩
 rw[Array.getElem?_toList] at hp hq
 obtain⟨c,hc,hv⟩:=h.some_ hp
 rw[hq] at hc
 cases hc
 exact hv
theorem pop_ok {e:Env} {a:Act} {nt:Nat} (hE:ER ρ e a nt) {o:Oper} (ho:okAll nt o.op=true) {v:Value} (h:pop P o.op e=some v):∃c,VR ρ v c∧∀w,(execOp a.eval o).run P w=.ok (.value c) w:=by
 obtain⟨dst,op,type,pos,after,guard⟩:=o
 simp only at ho h
 cases op<;>try (simp[pop] at h;done)
 case move x=>cases h;exact⟨_,hE.ev (by simpa [okAll,Op.operands] using ho),fun w=>rfl⟩
 case assign x=>cases h;exact⟨_,hE.ev (by simpa [okAll,Op.operands] using ho),fun w=>rfl⟩
 case pick c x y=>
  simp[okAll,Op.operands] at ho
  simp only[pop] at h
  split at h
  ·rename_i t ht
   have hc:=hE.ev ho.1
   rw[ht] at hc
   have hc:=hc.bool_
   cases h
   refine⟨if t then a.eval x else a.eval y,?_,fun w=>?_⟩
   ·cases t
    ·exact hE.ev ho.2.2
    ·exact hE.ev ho.2.1
   ·simp only[execOp,hc];cases t<;>rfl
  ·cases h
 case unOp op t x=>
  simp[okAll,Op.operands] at ho
  exact⟨v,(aun_ok (P:=P) default (hE.ev ho) h).1,fun w=>by simp[execOp,(aun_ok (P:=P) w (hE.ev ho) h).2]⟩
 case binOp op t x y t'=>
  simp[okAll,Op.operands] at ho
  exact⟨v,(abin_ok (P:=P) default (hE.ev ho.1) (hE.ev ho.2) h).1,fun w=>by
   simp[execOp,eqGuard_ok (P:=P) w (x:=x) (y:=y) (hE.ev ho.1) (hE.ev ho.2) h,(abin_ok (P:=P) w (hE.ev ho.1) (hE.ev ho.2) h).2]⟩
 case convert s d x=>
  simp[okAll,Op.operands] at ho
  exact⟨v,(aconv_ok (P:=P) default (hE.ev ho) h).1,fun w=>by simp[execOp,(aconv_ok (P:=P) w (hE.ev ho) h).2]⟩
 case extract x i=>
  simp[okAll,Op.operands] at ho
  simp only[pop] at h
  split at h
  ·rename_i vs hvs
   have hx:=hE.ev ho
   rw[hvs] at hx
   obtain⟨a',ha,hr⟩:=hx.tup_
   obtain⟨c,hc,hv⟩:=hr.some_ h
   exact⟨c,hv,fun w=>by simp[execOp,ha,Instr.extract,hc]⟩
  ·cases h
 case nilCheck x=>
  simp[okAll,Op.operands] at ho
  simp only[pop] at h
  split at h
  ·rename_i ad hvs
   have hx:=hE.ev ho
   rw[hvs] at hx
   cases h
   cases hcx:a.eval x<;>rw[hcx] at hx<;>cases hx
   case sc hs=>simp[scal] at hs
   case ptr id k sp l hl=>exact⟨_,.ptr _ _ _ _ hl,fun w=>by simp[execOp,hcx]⟩
  ·cases h
 case fieldAddr s x f=>
  simp[okAll,Op.operands] at ho
  simp only[pop] at h
  split at h
  ·rename_i fs id k sp hu hx0
   have hx:=hE.ev ho
   rw[hx0] at hx
   obtain⟨l,hl,hc⟩:=hx.ptr_
   split at h
   ·rename_i fd hfd
    split at h
    ·rename_i i hi
     split at h
     ·cases h
     ·rename_i hne
      cases h
      refine⟨_,.ptr _ _ _ _ hl,fun w=>?_⟩
      simp[execOp,Instr.fieldAt,run_underlying hu,hfd,hc,Instr.sureAddr,fieldPlace,sizeOf,typeInfo,hi,hne,Am.add_at,Nat.add_assoc]
    ·cases h
   ·cases h
  ·cases h
 case field s x f=>
  simp[okAll,Op.operands] at ho
  simp only[pop] at h
  split at h
  ·rename_i fs cs hu hx0
   have hx:=hE.ev ho
   rw[hx0] at hx
   obtain⟨a',hc,hr⟩:=hx.agg_
   split at h
   ·rename_i fd hfd
    unfold apart at h
    have sub:∀(m:Nat),VR ρ (.agg (cs.extract fd.offset m)) (.agg (a'.extract fd.offset m)):=fun m=>by
     refine .agg _ _ (by simp[hr.1]) (fun i hi=>?_)
     have:=hr.get (fd.offset+i)
     simp only[Array.getD_eq_getD_getElem?,Array.getElem?_extract] at this ⊢
     rw[← hr.1]
     split
     ·exact this
     ·exact .undef ρ
    split at h
    ·rename_i hu2 hi2
     cases h
     exact⟨_,sub _,fun w=>by simp[execOp,Instr.field,run_underlying hu,hfd,hc,asAgg,part,isAgg,run_underlying hu2,sizeOf,typeInfo,hi2]⟩
    ·rename_i hu2 hi2
     cases h
     exact⟨_,sub _,fun w=>by simp[execOp,Instr.field,run_underlying hu,hfd,hc,asAgg,part,isAgg,run_underlying hu2,sizeOf,typeInfo,hi2]⟩
    ·rename_i d hu2 hn1 hn2
     obtain⟨c,hcc,hv⟩:=hr.some_ h
     refine⟨c,hv,fun w=>?_⟩
     cases hi2:P.info? fd.type with
     | none=>simp[Program.underlying,hi2] at hu2
     | some i=>
      cases d<;>first
       | (simp[execOp,Instr.field,run_underlying hu,hfd,hc,asAgg,part,isAgg,run_underlying hu2,hcc];done)
       | (exfalso;first | exact hn1 _ _ hi2 rfl | exact hn2 _ _ _ hi2 rfl)
    ·cases h
   ·cases h
  ·cases h
 case indexAddr t x i=>
  simp[okAll,Op.operands] at ho
  simp only[pop] at h
  split at h
  ·rename_i el id k es n c k' j hu hx0 hi0
   have hx:=hE.ev ho.1
   have hi:=hE.ev ho.2
   rw[hx0] at hx
   rw[hi0] at hi
   have hi:=hi.int_
   split at h
   ·rename_i inf hinf
    split at h
    ·rename_i hj
     cases h
     cases hcx:a.eval x<;>rw[hcx] at hx<;>cases hx
     case sc hs=>simp[scal] at hs
     case slc l hl hn hc hs=>
      refine⟨_,.ptr _ _ _ _ hl,fun w=>?_⟩
      simp[execOp,Instr.indexAt,run_underlying hu,hcx,hi,asIntOf,hj,sizeOf,typeInfo,hinf,Am.add_at,Nat.add_assoc]
    ·cases h
   ·cases h
  ·cases h
 case index t x i=>
  simp[okAll,Op.operands] at ho
  simp only[pop] at h
  split at h
  ·rename_i s k j hu hx0 hi0
   have hx:=hE.ev ho.1
   have hi:=hE.ev ho.2
   rw[hx0] at hx
   rw[hi0] at hi
   have hi:=hi.int_
   have hx:=hx.string_
   split at h
   ·rename_i hj
    cases hb:s[j.toNat]? with
    | none=>simp[hb] at h
    | some b=>
     simp[hb] at h
     subst h
     exact⟨_,.sc _ rfl,fun w=>by simp[execOp,Instr.index,run_underlying hu,hx,hi,asIntOf,hj,hb]⟩
   ·cases h
  ·cases h
 case slice t x lo hi mx=>
  cases mx with
  | some m=>
   cases lo with
   | none=>simp[pop] at h
   | some lo=>cases hi with
    | none=>simp[pop] at h
    | some hi=>
     simp[okAll,Op.operands] at ho
     simp only[pop] at h
     obtain⟨d,hv,hr⟩:=acut3_ok (hE.ev ho.1.1) (hE.ev ho.1.2.1) (hE.ev ho.1.2.2) (hE.ev ho.2) h
     exact⟨d,hv,fun w=>by simp[execOp,hr]⟩
  | none=>
   simp[okAll,Op.operands] at ho
   simp only[pop] at h
   obtain⟨d,hv,hr⟩:=acut_ok (clo:=lo.map a.eval) (chi:=hi.map a.eval) (hE.ev ho.1) (fun v hv=>by
     cases lo with
     | none=>cases hv
     | some y=>cases hv;exact⟨_,rfl,hE.ev (by simpa using ho.2.1)⟩) (fun hn=>by cases lo<;>first | rfl | cases hn) (fun v hv=>by
     cases hi with
     | none=>cases hv
     | some y=>cases hv;exact⟨_,rfl,hE.ev (by simpa using ho.2.2)⟩) (fun hn=>by cases hi<;>first | rfl | cases hn) h
   exact⟨d,hv,fun w=>by simp[execOp,hr]⟩
 case makeFunc fn first cap=>
  simp only[okAll,Op.operands,Array.all_append,Bool.and_eq_true] at ho
  cases h
  have h1:=aargs_ok hE ho.1
  have h2:=aargs_ok hE ho.2
  exact⟨_,.func _ _ _ _ _ h1.1 h2.1 h1.2 h2.2,fun w=>rfl⟩
 case makeInterface t x=>
  simp[okAll,Op.operands] at ho
  simp only[pop] at h
  split at h
  ·rename_i hc
   cases h
   exact⟨_,.iface _ _ _ (hE.ev ho),fun w=>by simp[execOp,run_makeInterface w t _ hc]⟩
  ·cases h
 case build t parts=>
  simp only[okAll,Op.operands] at ho
  simp only[pop] at h
  have hp:Parts ρ (parts.toList.map fun p=>(p.1,ev e p.2)) (parts.map fun p=>(p.1,a.eval p.2)).toList:=by
   rw[Array.toList_map]
   refine Parts.map hE _ (fun p hp=>?_)
   rw[List.all_toArray,List.all_eq_true] at ho
   exact ho _ (List.mem_map.2 ⟨p,hp,rfl⟩)
  obtain⟨c,hv,hr⟩:=abuild_ok hp h
  rw[Array.toArray_toList] at hr
  exact⟨c,hv,fun w=>by simp[execOp,hr]⟩
 case call c=>
  obtain⟨callee,args,ts⟩:=c
  cases callee<;>try (simp[pop] at h;done)
  case builtin b=>
   simp[okAll,Op.operands,Call.operands] at ho
   have ha:=aargs_ok hE (xs:=args) (by simpa using ho)
   cases b<;>try (simp[pop] at h;done)
   case len=>
    simp only[pop] at h
    split at h
    ·rename_i s hu hx
     cases h
     obtain⟨c,hc,hv⟩:=ha.some_ hx
     have:=hv.string_
     subst this
     cases ht:ts[0]? with
     | none=>simp[ht] at hu
     | some t=>
      simp[ht] at hu
      exact⟨_,.sc _ rfl,fun w=>by simp[execOp,resolve,invoke,builtin,Builtin.len_,ht,hc,run_underlying hu,goInt]⟩
    ·rename_i el A n m hu hx
     cases h
     obtain⟨c,hc,hv⟩:=ha.some_ hx
     obtain⟨a',m',rfl,_,_⟩:=hv.slice_
     cases ht:ts[0]? with
     | none=>simp[ht] at hu
     | some t=>
      simp[ht] at hu
      exact⟨_,.sc _ rfl,fun w=>by simp[execOp,resolve,invoke,builtin,Builtin.len_,ht,hc,run_underlying hu,goInt]⟩
    ·cases h
   case max=>
    simp only[pop] at h
    split at h
    ·rename_i k x r hr
     obtain⟨hl,hp⟩:=ha.list
     rw[hr] at hl hp
     cases hq:(args.map a.eval).toList with
     | nil=>rw[hq] at hl;simp at hl
     | cons q r'=>
      rw[hq] at hl hp
      have hq0:=hp 0 _ q U U
      have:=hq0.int_
      subst this
      have key:=fun w=>amax_ok (P:=P) (ρ:=ρ) w r r' k x v (by simpa using hl) (fun i p q hi hj=>hp (i+1) p q (by simpa using hi) (by simpa using hj)) h
      refine⟨v,.sc _ (key default).1,fun w=>?_⟩
      simp only[execOp,resolve,invoke,builtin,Builtin.max_,hq,Sem.run_bind,Sem.run_pure,Result.andThen_ok,(key w).2]
    ·cases h
   case min=>
    simp only[pop] at h
    split at h
    ·rename_i k x r hr
     obtain⟨hl,hp⟩:=ha.list
     rw[hr] at hl hp
     cases hq:(args.map a.eval).toList with
     | nil=>rw[hq] at hl;simp at hl
     | cons q r'=>
      rw[hq] at hl hp
      have hq0:=hp 0 _ q U U
      have:=hq0.int_
      subst this
      have key:=fun w=>amin_ok (P:=P) (ρ:=ρ) w r r' k x v (by simpa using hl) (fun i p q hi hj=>hp (i+1) p q (by simpa using hi) (by simpa using hj)) h
      refine⟨v,.sc _ (key default).1,fun w=>?_⟩
      simp only[execOp,resolve,invoke,builtin,Builtin.min_,hq,Sem.run_bind,Sem.run_pure,Result.andThen_ok,(key w).2]
    ·cases h
end
def Ren.upd (ρ:Ren) (id:Nat) (l:Loc):Ren:=fun j=>if j=id then some l else ρ j
def AH.push (H:AH) (b:Blk):AH:=⟨H.n+1,fun j=>if j=H.n then some b else H.m j⟩
def AH.set (H:AH) (id:Nat) (b:Blk):AH:=⟨H.n,fun j=>if j=id then some b else H.m j⟩
def AH.kill (H:AH) (id:Nat):AH:=⟨H.n,fun j=>if j=id then none else H.m j⟩
section
variable {w0 w w':World} {ρ:Ren} {H:AH}
theorem Ren.le_upd {id:Nat} {l:Loc} (h:ρ id=none):Le ρ (ρ.upd id l):=fun j l' hj=>by
 unfold Ren.upd
 split
 ·rename_i e;subst e;rw[h] at hj;cases hj
 ·exact hj
theorem Step.alloc (h:WR w0 ρ H w) (hf:ρ H.n=none) (b:Blk) (hrw:b.rw=true) (cs:Array Value) (hc:∀(i:Nat) v,b.cells[i]?=some v→∃c,cs[i]?=some c∧VR ρ v c) (d:Nat):
  Step w0 ρ H w (ρ.upd H.n ⟨w.heap.size,0,cs.size⟩) (H.push b) ({w with drawn:=d}.alloc (.cells cs b.ty)):=by
 have hle:=Ren.le_upd (ρ:=ρ) (l:=⟨w.heap.size,0,cs.size⟩) hf
 have hsz:({w with drawn:=d}.alloc (.cells cs b.ty)).heap.size=w.heap.size+1:=by simp
 have old:∀k,k<w.heap.size→({w with drawn:=d}.alloc (.cells cs b.ty)).heap[k]?=w.heap[k]?:=fun k hk=>Below.heap_alloc {w with drawn:=d} _ _ hk
 have new_:({w with drawn:=d}.alloc (.cells cs b.ty)).heap[w.heap.size]?=some (.cells cs b.ty (0,0)):=by
  show(w.heap.push _)[w.heap.size]?=_
  rw[Array.getElem?_push,if_pos rfl]
 have ne:∀{id:Nat} {l:Loc},id≠H.n→(ρ.upd H.n ⟨w.heap.size,0,cs.size⟩) id=some l→ρ id=some l:=fun {id l} hn hl=>by
  simpa [Ren.upd,hn] using hl
 have eqn:∀{l:Loc},(ρ.upd H.n ⟨w.heap.size,0,cs.size⟩) H.n=some l→l=⟨w.heap.size,0,cs.size⟩:=fun {l} hl=>by
  simpa [Ren.upd,eq_comm] using hl
 have hm':∀{id:Nat} {b':Blk},id≠H.n→(H.push b).m id=some b'→H.m id=some b':=fun {id b'} hn hb=>by
  simpa [AH.push,hn] using hb
 have hmn:∀{b':Blk},(H.push b).m H.n=some b'→b'=b:=fun {b'} hb=>by simpa [AH.push,eq_comm] using hb
 refine⟨⟨?_,?_,?_,?_,?_,?_⟩,by simp[AH.push],by omega,?_,?_,?_,?_⟩
 ·have hb0:=h.below
  exact⟨hb0.os,hb0.tape,hb0.output,by have:=hb0.size;omega,fun k hk=>(old k (by have:=hb0.size;omega)).trans (hb0.block k hk)⟩
 ·intro id b' l hid hb hl hr
  by_cases hn:id=H.n
  ·subst hn
   obtain rfl:=hmn hb
   obtain rfl:=eqn hl
   refine⟨h.below.size,cs,new_,rfl,fun i v hi=>?_⟩
   obtain⟨c,hc1,hv⟩:=hc i v hi
   exact⟨c,by simpa using hc1,hv.mono hle⟩
  ·have hid':id<H.n:=by simp[AH.push] at hid;omega
   obtain⟨h1,cs0,h2,h3,h4⟩:=h.own id b' l hid' (hm' hn hb) (ne hn hl) hr
   refine⟨h1,cs0,by rw[old _ (h.lt _ _ (ne hn hl))];exact h2,h3,fun i v hi=>?_⟩
   obtain⟨c,hc1,hv⟩:=h4 i v hi
   exact⟨c,hc1,hv.mono hle⟩
 ·intro id b' l hid hb hl hr
  by_cases hn:id=H.n
  ·subst hn
   obtain rfl:=hmn hb
   rw[hrw] at hr
   cases hr
  ·have hid':id<H.n:=by simp[AH.push] at hid;omega
   obtain⟨h1,h2⟩:=h.came id b' l hid' (hm' hn hb) (ne hn hl) hr
   refine⟨h1,fun i v hi=>?_⟩
   obtain⟨c,hc1,hv⟩:=h2 i v hi
   exact⟨c,hc1,hv.mono hle⟩
 ·intro id id' b1 b2 l1 l2 hid hid' hb1 hb2 hl1 hl2 hr1 hr2 he
  by_cases hn:id=H.n
  ·subst hn
   by_cases hn':id'=H.n
   ·exact hn'.symm
   ·obtain rfl:=eqn hl1
    have:=h.lt _ _ (ne hn' hl2)
    simp at he
    omega
  ·by_cases hn':id'=H.n
   ·subst hn'
    obtain rfl:=eqn hl2
    have:=h.lt _ _ (ne hn hl1)
    simp at he
    omega
   ·simp[AH.push] at hid hid'
    exact h.inj id id' b1 b2 l1 l2 (by omega) (by omega) (hm' hn hb1) (hm' hn' hb2) (ne hn hl1) (ne hn' hl2) hr1 hr2 he
 ·intro id l hl
  by_cases hn:id=H.n
  ·subst hn
   obtain rfl:=eqn hl
   simp
  ·have:=h.lt _ _ (ne hn hl)
   omega
 ·intro id hid
  simp[AH.push] at hid ⊢
  rw[if_neg (by omega)]
  exact h.fin id (by omega)
 ·intro id hid
  simp[AH.push] at hid
  simp[Ren.upd]
  omega
 ·intro k hk _
  exact old k hk
 ·intro id b' hid hb
  exact⟨b',hm' (by omega) hb,rfl⟩
 ·intro id b' l h1 h2 _ _ hl
  simp[AH.push] at h2
  have:id=H.n:=by omega
  subst this
  obtain rfl:=eqn hl
  exact .inl (Nat.le_refl _)
structure SetRow (w w':World) (g:Nat) (o:Obj):Prop where
 os:w'.os=w.os
 tape:w'.tape=w.tape
 output:w'.output=w.output
 size:w'.heap.size=w.heap.size
 at_:w'.heap[g]?=some o
 other:∀k,k≠g→w'.heap[k]?=w.heap[k]?
theorem SetRow.of (w:World) (g:Nat) (cs cs':Array Value) (t:TypeId) (f:Nat × Nat) (h:w.heap[g]?=some (.cells cs t f)):SetRow w (w.setRow g cs') g (.cells cs' t f):=
 ⟨rfl,rfl,rfl,by simp[World.setRow],setRow_heap w g cs cs' t f h,fun k hk=>setRow_other w g k _ hk⟩
theorem Step.store (h:WR w0 ρ H w) {id:Nat} {b:Blk} {l:Loc} (hm:H.m id=some b) (hrw:b.rw=true) (hl:ρ id=some l) (cells:List Value) (cs:Array Value) (hs:cs.size=l.size)
  (hc:∀(i:Nat) v,cells[i]?=some v→∃c,cs[l.off+i]?=some c∧VR ρ v c) (hw:SetRow w w' l.blk (.cells cs b.ty (0,0))):Step w0 ρ H w ρ (H.set id {b with cells:=cells}) w':=by
 have hid:=h.id_lt hm
 obtain⟨hbase,cs0,hcs0,hsz0,_⟩:=h.own id b l hid hm hl hrw
 have live:∀{id':Nat} {b':Blk},(H.set id {b with cells:=cells}).m id'=some b'→∃b0,H.m id'=some b0∧b0.rw=b'.rw∧(id'≠id→b0=b')∧(id'=id→b'={b with cells:=cells}):=fun {id' b'} hb=>by
  by_cases e:id'=id
  ·subst e
   simp[AH.set] at hb
   subst hb
   exact⟨b,hm,rfl,fun h=>absurd rfl h,fun _=>rfl⟩
  ·simp[AH.set,e] at hb
   exact⟨b',hb,rfl,fun _=>rfl,fun h=>absurd h e⟩
 refine⟨⟨?_,?_,?_,?_,?_,?_⟩,Nat.le_refl _,Nat.le_of_eq hw.size.symm,fun _ _=>rfl,?_,?_,?_⟩
 ·have hb0:=h.below
  exact⟨hw.os.trans hb0.os,hw.tape.trans hb0.tape,hw.output.trans hb0.output,by rw[hw.size];exact hb0.size,fun k hk=>(hw.other k (by omega)).trans (hb0.block k hk)⟩
 ·intro id' b' l' hid' hb hl' hr
  obtain⟨b0,hb0,hr0,hne,heq⟩:=live hb
  by_cases e:id'=id
  ·obtain rfl:=heq e
   subst e
   rw[hl] at hl'
   cases hl'
   exact⟨hbase,cs,hw.at_,hs,hc⟩
  ·obtain rfl:=hne e
   obtain⟨h1,cs1,h2,h3,h4⟩:=h.own id' b0 l' hid' hb0 hl' hr
   exact⟨h1,cs1,by rw[hw.other _ (fun he=>e (h.inj id' id b0 b l' l hid' hid hb0 hm hl' hl hr hrw he))];exact h2,h3,h4⟩
 ·intro id' b' l' hid' hb hl' hr
  obtain⟨b0,hb0,hr0,hne,heq⟩:=live hb
  by_cases e:id'=id
  ·obtain rfl:=heq e
   rw[hrw] at hr
   cases hr
  ·obtain rfl:=hne e
   exact h.came id' b0 l' hid' hb0 hl' hr
 ·intro id1 id2 b1 b2 l1 l2 h1 h2 hb1 hb2 hl1 hl2 hr1 hr2 he
  obtain⟨c1,hc1,hr1',_⟩:=live hb1
  obtain⟨c2,hc2,hr2',_⟩:=live hb2
  exact h.inj id1 id2 c1 c2 l1 l2 h1 h2 hc1 hc2 hl1 hl2 (hr1'.trans hr1) (hr2'.trans hr2) he
 ·intro id' l' hl'
  rw[hw.size]
  exact h.lt _ _ hl'
 ·intro id' hid'
  have hne:id'≠id:=by simp[AH.set] at hid';omega
  simp[AH.set,hne]
  exact h.fin id' hid'
 ·intro k hk hno
  exact hw.other k (fun e=>hno id b l hid hm hrw hl e.symm)
 ·intro id' b' hid' hb
  obtain⟨b0,hb0,hr0,_⟩:=live hb
  exact⟨b0,hb0,hr0⟩
 ·intro id' b' l' h1 h2
  simp[AH.set] at h2
  omega
theorem Step.take (h:WR w0 ρ H w) (hf:ρ H.n=none) {id:Nat} {b:Blk} {l:Loc} (hm:H.m id=some b) (hrw:b.rw=true) (hl:ρ id=some l) (off:Nat) (b':Blk) (hrw':b'.rw=true) (hty:b'.ty=b.ty) (cs:Array Value) (hs:cs.size=l.size)
  (hc:∀(i:Nat) v,b'.cells[i]?=some v→∃c,cs[off+i]?=some c∧VR ρ v c) (hw:SetRow w w' l.blk (.cells cs b.ty (0,0))):Step w0 ρ H w (ρ.upd H.n ⟨l.blk,off,l.size⟩) ((H.kill id).push b') w':=by
 have hid:=h.id_lt hm
 have hle:=Ren.le_upd (ρ:=ρ) (l:=⟨l.blk,off,l.size⟩) hf
 obtain⟨hbase,cs0,hcs0,hsz0,_⟩:=h.own id b l hid hm hl hrw
 have ne:∀{id':Nat} {l':Loc},id'≠H.n→(ρ.upd H.n ⟨l.blk,off,l.size⟩) id'=some l'→ρ id'=some l':=fun {id' l'} hn hl=>by
  simpa [Ren.upd,hn] using hl
 have eqn:∀{l':Loc},(ρ.upd H.n ⟨l.blk,off,l.size⟩) H.n=some l'→l'=⟨l.blk,off,l.size⟩:=fun {l'} hl=>by
  simpa [Ren.upd,eq_comm] using hl
 have hm':∀{id':Nat} {b1:Blk},id'≠H.n→((H.kill id).push b').m id'=some b1→H.m id'=some b1∧id'≠id:=fun {id' b1} hn hb=>by
  have e:(H.kill id).n=H.n:=rfl
  simp[AH.push,e,hn,AH.kill] at hb
  exact⟨hb.2,hb.1⟩
 have hmn:∀{b1:Blk},((H.kill id).push b').m H.n=some b1→b1=b':=fun {b1} hb=>by simpa [AH.push,AH.kill,eq_comm] using hb
 refine⟨⟨?_,?_,?_,?_,?_,?_⟩,by simp[AH.push,AH.kill],Nat.le_of_eq hw.size.symm,?_,?_,?_,?_⟩
 ·have hb0:=h.below
  exact⟨hw.os.trans hb0.os,hw.tape.trans hb0.tape,hw.output.trans hb0.output,by rw[hw.size];exact hb0.size,fun k hk=>(hw.other k (by omega)).trans (hb0.block k hk)⟩
 ·intro id' b1 l' hid' hb hl' hr
  by_cases hn:id'=H.n
  ·subst hn
   obtain rfl:=hmn hb
   obtain rfl:=eqn hl'
   refine⟨hbase,cs,by rw[hty];exact hw.at_,hs,fun i v hi=>?_⟩
   obtain⟨c,hc1,hv⟩:=hc i v hi
   exact⟨c,hc1,hv.mono hle⟩
  ·obtain⟨hb1,hne⟩:=hm' hn hb
   have hid1:id'<H.n:=h.id_lt hb1
   obtain⟨h1,cs1,h2,h3,h4⟩:=h.own id' b1 l' hid1 hb1 (ne hn hl') hr
   refine⟨h1,cs1,by rw[hw.other _ (fun he=>hne (h.inj id' id b1 b l' l hid1 hid hb1 hm (ne hn hl') hl hr hrw he))];exact h2,h3,fun i v hi=>?_⟩
   obtain⟨c,hc1,hv⟩:=h4 i v hi
   exact⟨c,hc1,hv.mono hle⟩
 ·intro id' b1 l' hid' hb hl' hr
  by_cases hn:id'=H.n
  ·subst hn
   obtain rfl:=hmn hb
   rw[hrw'] at hr
   cases hr
  ·obtain⟨hb1,hne⟩:=hm' hn hb
   obtain⟨h1,h2⟩:=h.came id' b1 l' (h.id_lt hb1) hb1 (ne hn hl') hr
   refine⟨h1,fun i v hi=>?_⟩
   obtain⟨c,hc1,hv⟩:=h2 i v hi
   exact⟨c,hc1,hv.mono hle⟩
 ·intro id1 id2 b1 b2 l1 l2 h1 h2 hb1 hb2 hl1 hl2 hr1 hr2 he
  by_cases hn:id1=H.n
  ·subst hn
   by_cases hn':id2=H.n
   ·exact hn'.symm
   ·obtain rfl:=eqn hl1
    obtain⟨hb2',hne⟩:=hm' hn' hb2
    exact absurd (h.inj id id2 b b2 l l2 hid (h.id_lt hb2') hm hb2' hl (ne hn' hl2) hrw hr2 he).symm hne
  ·obtain⟨hb1',hne⟩:=hm' hn hb1
   by_cases hn':id2=H.n
   ·subst hn'
    obtain rfl:=eqn hl2
    exact absurd (h.inj id id1 b b1 l l1 hid (h.id_lt hb1') hm hb1' hl (ne hn hl1) hrw hr1 he.symm).symm hne
   ·obtain⟨hb2',hne2⟩:=hm' hn' hb2
    exact h.inj id1 id2 b1 b2 l1 l2 (h.id_lt hb1') (h.id_lt hb2') hb1' hb2' (ne hn hl1) (ne hn' hl2) hr1 hr2 he
 ·intro id' l' hl'
  rw[hw.size]
  by_cases hn:id'=H.n
  ·subst hn
   obtain rfl:=eqn hl'
   exact h.lt id l hl
  ·exact h.lt _ _ (ne hn hl')
 ·intro id' hid'
  have e:(H.kill id).n=H.n:=rfl
  simp[AH.push,e] at hid'
  have hn:id'≠H.n:=by omega
  have hn2:id'≠id:=by omega
  simp[AH.push,e,hn,AH.kill,hn2]
  exact h.fin id' (by omega)
 ·intro id' hid'
  simp[AH.push,AH.kill] at hid'
  simp[Ren.upd]
  omega
 ·intro k hk hno
  exact hw.other k (fun e=>hno id b l hid hm hrw hl e.symm)
 ·intro id' b1 hid' hb
  obtain⟨hb1,_⟩:=hm' (by omega) hb
  exact⟨b1,hb1,rfl⟩
 ·intro id' b1 l' h1 h2 _ _ hl'
  simp[AH.push,AH.kill] at h2
  have:id'=H.n:=by omega
  subst this
  obtain rfl:=eqn hl'
  have e:(H.kill id).n=H.n:=rfl
  have hne:id≠H.n:=by omega
  exact .inr ⟨id,b,l,hid,hm,hrw,hl,rfl,by simp[AH.push,e,hne,AH.kill]⟩
theorem Step.kill (h:WR w0 ρ H w) (id:Nat):Step w0 ρ H w ρ (H.kill id) w:=by
 have hm':∀{id':Nat} {b1:Blk},(H.kill id).m id'=some b1→H.m id'=some b1:=fun {id' b1} hb=>by
  simp[AH.kill] at hb
  exact hb.2
 refine⟨⟨h.below,?_,?_,?_,h.lt,?_⟩,Nat.le_refl _,Nat.le_refl _,fun _ _=>rfl,fun _ _ _=>rfl,?_,?_⟩
 ·intro id' b1 l' hid' hb;exact h.own id' b1 l' hid' (hm' hb)
 ·intro id' b1 l' hid' hb;exact h.came id' b1 l' hid' (hm' hb)
 ·intro id1 id2 b1 b2 l1 l2 h1 h2 hb1 hb2;exact h.inj id1 id2 b1 b2 l1 l2 h1 h2 (hm' hb1) (hm' hb2)
 ·intro id' hid';simp[AH.kill];intro _;exact h.fin id' hid'
 ·intro id' b1 _ hb;exact⟨b1,hm' hb,rfl⟩
 ·intro id' b1 l' h1 h2;simp[AH.kill] at h2;omega
end
def zarr (z:Value) (m:Nat):Array Value:=(Array.range m).map (z.cells[·%z.cells.size]!)
def splice (l:List Value) (k:Nat) (ys:List Value):List Value:=l.take k++ys++l.drop (k+ys.length)
def aload (P:Program) (H:AH) (t:TypeId) (id k:Nat):Option Value:=
 match H.m id with
 | some b=>match P.underlying t with
  | some (.struct _)=>match P.info? t with
   | some i=>if k+i.size≤b.cells.length then some (.agg ((b.cells.drop k).take i.size).toArray) else none
   | none=>none
  | some (.array _ _)=>none
  | some _=>b.cells[k]?
  | none=>none
 | none=>none
def astore (P:Program) (H:AH) (t:TypeId) (id k:Nat) (v:Value):Option AH:=
 match H.m id with
 | some b=>match P.info? t with
  | some i=>if b.rw=true∧v.cells.size=i.size∧k+i.size≤b.cells.length∧v.cells.all Value.oneCell'=true then some (H.set id ⟨b.ty,b.rw,splice b.cells k v.cells.toList⟩) else none
  | none=>none
 | none=>none
def acells (H:AH) (x:Value) (size:Nat):Option (Nat × List Value):=
 match x with
 | .slice _ 0 _=>some (0,[])
 | .slice (some ⟨id,k,some es⟩) m _=>if es=size then(match H.m id with
  | some b=>if k+m*size≤b.cells.length then some (m,(b.cells.drop k).take (m*size)) else none
  | none=>none) else none
 | _=>none
section
variable {P:Program} {w0 w:World} {ρ:Ren} {H:AH}
def Did (P:Program) (w0:World) (ρ:Ren) (H:AH) (w:World) (v:Value) (H':AH) (r:Result Next):Prop:=
 ∃ρ' c w',Step w0 ρ H w ρ' H' w'∧VR ρ' v c∧(r=.ok (.value c) w'∨(c=undef∧r=.ok .skip w'))
theorem pick {p:Nat→Value→Prop}:∀n:Nat,(∀j,j<n→∃c,p j c)→∃cs:List Value,cs.length=n∧∀(j:Nat) c,cs[j]?=some c→p j c
 | 0,_=>⟨[],rfl,fun _ _ h=>by simp at h⟩
 | n+1,h=>by
  obtain⟨cs,hl,hp⟩:=pick n (fun j hj=>h j (by omega))
  obtain⟨c,hc⟩:=h n (by omega)
  refine⟨cs++[c],by simp[hl],fun j d hd=>?_⟩
  rcases Nat.lt_or_ge j cs.length with hj | hj
  ·rw[List.getElem?_append_left hj] at hd
   exact hp j d hd
  ·rw[List.getElem?_append_right hj] at hd
   have hj2:j-cs.length=0:=by
    rcases Nat.eq_zero_or_pos (j-cs.length) with h0 | h0
    ·exact h0
    ·rw[List.getElem?_eq_none (by simp;omega)] at hd;cases hd
   rw[hj2] at hd
   simp at hd
   subst hd
   have:j=n:=by omega
   subst this
   exact hc
theorem one_of {ρ:Ren} {v c:Value} (h:VR ρ v c) (h1:v.oneCell'=true):c.oneCell'=true:=h.oneCell.trans h1
theorem WR.run (h:WR w0 ρ H w) {id:Nat} {b:Blk} {l:Loc} (hm:H.m id=some b) (hl:ρ id=some l) {k m:Nat} (hk:k+m≤b.cells.length):
  ∃cs:List Value,cs.length=m∧(∀(j:Nat) c,cs[j]?=some c→w.cell? ((⟨l.blk,l.off+k,none⟩:Addr).add j)=some c)∧∀(j:Nat) v,((b.cells.drop k).take m)[j]?=some v→∃c,cs[j]?=some c∧VR ρ v c:=by
 obtain⟨cs,hcl,hp⟩:=pick (p:=fun j c=>w.cell? ((⟨l.blk,l.off+k,none⟩:Addr).add j)=some c∧VR ρ (b.cells.getD (k+j) undef) c) m (fun j hj=>by
  have hi:b.cells[k+j]?=some (b.cells.getD (k+j) undef):=by
   rw[List.getElem?_eq_getElem (by omega)];simp[List.getD,List.getElem?_eq_getElem (show k+j<b.cells.length by omega)]
  obtain⟨c,hc,hv⟩:=h.cell (h.id_lt hm) hm hl hi
  exact⟨c,by rw[Am.add_at,Nat.add_assoc];exact hc,hv⟩)
 refine⟨cs,hcl,fun j c hc=>(hp j c hc).1,fun j v hv=>?_⟩
 have hj:j<m:=by
  rcases Nat.lt_or_ge j m with hj | hj
  ·exact hj
  ·rw[List.getElem?_eq_none (by simp;omega)] at hv;cases hv
 have hc:cs[j]?=some cs[j]:=List.getElem?_eq_getElem (by omega)
 refine⟨_,hc,?_⟩
 have:=(hp j _ hc).2
 rw[List.getElem?_take,if_pos hj,List.getElem?_drop] at hv
 rw[List.getD_eq_getElem?_getD,hv] at this
 exact this
theorem aload_ok (h:WR w0 ρ H w) {t:TypeId} {id k:Nat} {sp:Option Nat} {v c:Value} (hp:VR ρ (.pointer (some ⟨id,k,sp⟩)) c) (hv:aload P H t id k=some v):∃d,VR ρ v d∧(Instr.loadAt t c).run P w=.ok d w:=by
 obtain⟨l,hl,rfl⟩:=hp.ptr_
 unfold aload at hv
 split at hv
 ·rename_i b hm
  have one:∀{d:TypeDesc},P.underlying t=some d→(∀fs,d≠.struct fs)→(∀n el,d≠.array n el)→b.cells[k]?=some v→∃d,VR ρ v d∧(Instr.loadAt t (.pointer (some ⟨l.blk,l.off+k,none⟩))).run P w=.ok d w:=by
   intro d hu h1 h2 hi
   obtain⟨c,hc,hvc⟩:=h.cell (h.id_lt hm) hm hl hi
   refine⟨c,hvc,?_⟩
   have hagg:(isAgg t).run P w=.ok false w:=by
    cases d<;>first
     | (simp[isAgg,run_underlying hu];done)
     | (exact absurd rfl (h1 _))
     | (exact absurd rfl (h2 _ _))
   simp[Instr.loadAt,Instr.sureAddr,loadVar,hagg,hc]
  split at hv
  ·rename_i fs hu
   split at hv
   ·rename_i i hi
    split at hv
    ·rename_i hk
     cases hv
     obtain⟨cs,hcl,hcell,hvr⟩:=h.run hm hl hk
     have hrun:=run_loadCells_list (P:=P) w ⟨l.blk,l.off+k,none⟩ cs hcell
     rw[hcl] at hrun
     refine⟨.agg cs.toArray,?_,?_⟩
     ·refine .agg _ _ (by simp[hcl];omega) (fun j hj=>?_)
      have hj':j<((b.cells.drop k).take i.size).length:=by simpa using hj
      obtain⟨c,hc,hv⟩:=hvr j _ (List.getElem?_eq_getElem hj')
      have e1:((b.cells.drop k).take i.size).toArray.getD j undef=((b.cells.drop k).take i.size)[j]:=by
       rw[Array.getD_eq_getD_getElem?,List.getElem?_toArray,List.getElem?_eq_getElem hj'];rfl
      have e2:cs.toArray.getD j undef=c:=by
       rw[Array.getD_eq_getD_getElem?,List.getElem?_toArray,hc];rfl
      rw[e1,e2]
      exact hv
     ·simp[Instr.loadAt,Instr.sureAddr,loadVar,isAgg,run_underlying hu,sizeOf,typeInfo,hi,hrun]
    ·cases hv
   ·cases hv
  ·cases hv
  ·rename_i d h1 h2 hu
   exact one hu (fun fs e=>h1 fs e) (fun n el e=>h2 n el e) hv
  ·cases hv
 ·cases hv
theorem cellsR {v c:Value} (h:VR ρ v c):v.cells.toList.length=c.cells.toList.length∧∀(j:Nat) (u:Value),v.cells.toList[j]?=some u→∃d,c.cells.toList[j]?=some d∧VR ρ u d:=by
 have hc:=h.cells
 refine⟨by simp[hc.1],fun j u hu=>?_⟩
 rw[Array.getElem?_toList] at hu
 obtain⟨d,hd,hv⟩:=hc.some_ hu
 exact⟨d,by rw[Array.getElem?_toList];exact hd,hv⟩
theorem all_one {l l':List Value} (hl:l.length=l'.length) (h:∀(j:Nat) (u:Value),l[j]?=some u→∃d,l'[j]?=some d∧VR ρ u d) (h1:∀u∈l,u.oneCell'=true):∀d∈l',d.oneCell'=true:=by
 intro d hd
 obtain⟨j,hj,rfl⟩:=List.mem_iff_getElem.1 hd
 have hj':j<l.length:=by omega
 obtain⟨c,hc,hv⟩:=h j _ (List.getElem?_eq_getElem hj')
 rw[List.getElem?_eq_getElem hj] at hc
 cases hc
 exact one_of hv (h1 _ (List.getElem_mem hj'))
theorem splice_get (l:List Value) (k:Nat) (ys:List Value) (hk:k+ys.length≤l.length) (j:Nat):(splice l k ys)[j]?=if j<k then l[j]? else if j<k+ys.length then ys[j-k]? else l[j]?:=by
 unfold splice
 have hl:(l.take k).length=k:=by simp;omega
 rw[List.append_assoc]
 by_cases h1:j<k
 ·rw[if_pos h1,List.getElem?_append_left (by omega),List.getElem?_take,if_pos h1]
 ·rw[if_neg h1,List.getElem?_append_right (by omega),hl]
  by_cases h2:j<k+ys.length
  ·rw[if_pos h2,List.getElem?_append_left (by omega)]
  ·rw[if_neg h2,List.getElem?_append_right (by omega),List.getElem?_drop]
   congr 1
   omega
theorem splice_length (l:List Value) (k:Nat) (ys:List Value) (hk:k+ys.length≤l.length):(splice l k ys).length=l.length:=by
 unfold splice;simp;omega
theorem put_ok (h:WR w0 ρ H w) {id k:Nat} {b:Blk} {l:Loc} (hm:H.m id=some b) (hrw:b.rw=true) (hl:ρ id=some l) {ys ds:List Value} (hk:k+ys.length≤b.cells.length) (hlen:ys.length=ds.length)
  (hyd:∀(j:Nat) (u:Value),ys[j]?=some u→∃d,ds[j]?=some d∧VR ρ u d) (h1:∀u∈ys,u.oneCell'=true):
  ∃w',(storeCells ⟨l.blk,l.off+k,none⟩ ds).run P w=.ok () w'∧Step w0 ρ H w ρ (H.set id ⟨b.ty,b.rw,splice b.cells k ys⟩) w':=by
 obtain⟨hbase,cs,hcs,hsz,hcv⟩:=h.own id b l (h.id_lt hm) hm hl hrw
 have hbound:ys.length=0∨l.off+k+ys.length≤cs.size:=by
  rcases Nat.eq_zero_or_pos ys.length with h0 | h0
  ·exact .inl h0
  ·refine .inr ?_
   have hi:k+ys.length-1<b.cells.length:=by omega
   obtain⟨c,hc,_⟩:=hcv _ _ (List.getElem?_eq_getElem hi)
   have:=(Array.getElem?_eq_some_iff.1 hc).1
   omega
 rcases hbound with h0 | hb
 ·have hy:ys=[]:=List.eq_nil_of_length_eq_zero h0
  have hd:ds=[]:=List.eq_nil_of_length_eq_zero (by omega)
  subst hy
  subst hd
  refine⟨w,rfl,?_⟩
  have e:splice b.cells k []=b.cells:=by simp[splice]
  rw[e]
  exact Step.store h hm hrw hl b.cells cs hsz hcv ⟨rfl,rfl,rfl,rfl,hcs,fun _ _=>rfl⟩
 ·have hrun:=run_storeCells_at P l.blk (l.off+k) b.ty ds 0 cs w hcs (by omega) (all_one hlen hyd h1)
  rw[Nat.add_zero] at hrun
  refine⟨_,hrun,?_⟩
  refine Step.store h hm hrw hl _ (cs.toList.take (l.off+k)++ds++cs.toList.drop (l.off+k+ds.length)).toArray ?_ ?_ (SetRow.of w l.blk cs _ b.ty _ hcs)
  ·simp;omega
  ·intro i v hv
   rw[List.getElem?_toArray]
   have e:=splice_get cs.toList (l.off+k) ds (by simp;omega) (l.off+i)
   unfold splice at e
   rw[e]
   rw[splice_get _ _ _ hk] at hv
   by_cases h1:i<k
   ·rw[if_pos h1] at hv
    rw[if_pos (by omega)]
    obtain⟨c,hc,hvc⟩:=hcv i v hv
    exact⟨c,by rw[Array.getElem?_toList];exact hc,hvc⟩
   ·rw[if_neg h1] at hv
    rw[if_neg (by omega)]
    by_cases h2:i<k+ys.length
    ·rw[if_pos h2] at hv
     rw[if_pos (by omega)]
     obtain⟨d,hd,hvd⟩:=hyd _ v hv
     exact⟨d,by rw[show l.off+i-(l.off+k)=i-k by omega];exact hd,hvd⟩
    ·rw[if_neg h2] at hv
     rw[if_neg (by omega)]
     obtain⟨c,hc,hvc⟩:=hcv i v hv
     exact⟨c,by rw[Array.getElem?_toList];exact hc,hvc⟩
theorem astore_ok (h:WR w0 ρ H w) {t:TypeId} {id k:Nat} {sp:Option Nat} {v c d:Value} {H':AH} (hp:VR ρ (.pointer (some ⟨id,k,sp⟩)) c) (hv:VR ρ v d) (hs:astore P H t id k v=some H'):∃w',(Instr.storeAt t c d).run P w=.ok () w'∧Step w0 ρ H w ρ H' w':=by
 obtain⟨l,hl,rfl⟩:=hp.ptr_
 unfold astore at hs
 split at hs
 ·rename_i b hm
  split at hs
  ·rename_i i hi
   split at hs
   ·rename_i hcond
    obtain⟨hrw,hsz,hk,h1⟩:=hcond
    cases hs
    obtain⟨hlen,hyd⟩:=cellsR hv
    have hsz':d.cells.size=i.size:=by rw[← hv.cells.1];exact hsz
    obtain⟨w',hrun,hst⟩:=put_ok (P:=P) h hm hrw hl (k:=k) (ys:=v.cells.toList) (ds:=d.cells.toList) (by simp[hsz];exact hk) hlen hyd (fun u hu=>Array.all_eq_true_iff_forall_mem.1 h1 u (Array.mem_toList_iff.1 hu))
    refine⟨w',?_,hst⟩
    simp[Instr.storeAt,Instr.sureAddr,storeVar,sizeOf,typeInfo,hi,hsz',hrun]
   ·cases hs
  ·cases hs
 ·cases hs
theorem new_ok (h:WR w0 ρ H w) (hf:ρ H.n=none) (t:TypeId) {cells:List Value} {cs:Array Value} (hl:cells.length=cs.size) (hc:∀(i:Nat) v,cells[i]?=some v→∃c,cs[i]?=some c∧VR ρ v c) (d:Nat):
  ∃ρ',Step w0 ρ H w ρ' (H.push ⟨t,true,cells⟩) ({w with drawn:=d}.alloc (.cells cs t))∧ρ' H.n=some ⟨w.heap.size,0,cs.size⟩:=by
 refine⟨_,Step.alloc h hf ⟨t,true,cells⟩ rfl cs hc d,by simp[Ren.upd]⟩
theorem vrs_list {a a':Array Value} (h:VRs ρ a a'):a.toList.length=a'.size∧∀(i:Nat) v,a.toList[i]?=some v→∃c,a'[i]?=some c∧VR ρ v c:=by
 refine⟨by simp[h.1],fun i v hv=>?_⟩
 rw[Array.getElem?_toList] at hv
 exact h.some_ hv
theorem zarr_scal {z:Value} (hz:z.cells.all scal=true) (m:Nat):(zarr z m).all scal=true:=by
 rw[Array.all_eq_true]
 intro i hi
 simp only[zarr,Array.getElem_map,Array.getElem_range]
 by_cases hs:i%z.cells.size<z.cells.size
 ·rw[getElem!_pos z.cells _ hs]
  exact Array.all_eq_true.1 hz _ hs
 ·rw[getElem!_neg z.cells _ hs]
  rfl
end
def aappend (P:Program) (H:AH) (t:TypeId) (s x:Value):Option (Value × AH):=
 match P.underlying t with
 | some (.slice el)=>match P.info? el with
  | some i=>match acells H x i.size with
   | some (m,ys)=>if zeroOk P el=true∧0<i.size∧ys.all Value.oneCell'=true then(match s with
    | .slice none 0 0=>if m=0 then some (s,H) else if m≤9223372036854775807∧m*i.bytes≤140737488355328 then some (.slice (some ⟨H.n,0,some i.size⟩) m m,H.push ⟨el,true,ys⟩) else none
    | .slice (some ⟨id,k,some es⟩) n c=>if m=0 then some (s,H) else(match H.m id with
     | some b=>if b.rw=true∧b.ty=el∧es=i.size∧k+n*i.size≤b.cells.length∧n+m≤9223372036854775807∧(n+m)*i.bytes≤140737488355328 then some (.slice (some ⟨H.n,0,some i.size⟩) (n+m) (n+m),(H.kill id).push ⟨el,true,(b.cells.drop k).take (n*i.size)++ys⟩) else none
     | none=>none)
    | _=>none) else none
   | none=>none
  | none=>none
 | _=>none
def aappendI (P:Program) (H:AH) (t:TypeId) (s x:Value):Option (Value × AH):=
 match P.underlying t with
 | some (.slice el)=>match P.info? el with
  | some i=>match acells H x i.size with
   | some (m,ys)=>match s with
    | .slice (some ⟨id,k,some es⟩) n c=>(match H.m id with
     | some b=>if b.rw=true∧es=i.size∧n+m≤c∧k+n*i.size+ys.length≤b.cells.length∧ys.all Value.oneCell'=true then some (.slice (some ⟨id,k,some es⟩) (n+m) c,H.set id ⟨b.ty,b.rw,splice b.cells (k+n*i.size) ys⟩) else none
     | none=>none)
    | _=>none
   | none=>none
  | none=>none
 | _=>none
def aapp (P:Program) (H:AH) (tag:Option Nat) (t:TypeId) (s x:Value):Option (Value × AH):=
 match tag with
 | none=>aappend P H t s x
 | some _=>aappendI P H t s x
def acopy (P:Program) (H:AH) (t:TypeId) (d s:Value):Option (Value × AH):=
 match P.underlying t with
 | some (.slice el)=>match P.info? el with
  | some i=>match d,s with
   | .slice (some ⟨id,k,some es⟩) n _,.slice A m c=>(match acells H (.slice A (Nat.min m n) c) i.size with
    | some (_,ys)=>(match H.m id with
     | some b=>if b.rw=true∧es=i.size∧k+ys.length≤b.cells.length∧ys.length=Nat.min m n*i.size∧ys.all Value.oneCell'=true then some (.int .i64 (Nat.min m n:Nat),H.set id ⟨b.ty,b.rw,splice b.cells k ys⟩) else none
     | none=>none)
    | none=>none)
   | _,_=>none
  | none=>none
 | _=>none
def aclear (P:Program) (H:AH) (t:TypeId) (x:Value):Option (Value × AH):=
 match P.underlying t with
 | some (.slice el)=>match P.info? el with
  | some i=>match i.zero with
   | some z=>match x with
    | .slice none _ _=>some (.tuple #[],H)
    | .slice (some ⟨id,k,some es⟩) n _=>if n=0 then some (.tuple #[],H) else(match H.m id with
     | some b=>if zeroOk P el=true∧b.rw=true∧es=i.size∧z.cells.size=i.size∧k+n*i.size≤b.cells.length∧(zarr z (n*z.cells.size)).all Value.oneCell'=true then some (.tuple #[],H.set id ⟨b.ty,b.rw,splice b.cells k (zarr z (n*z.cells.size)).toList⟩) else none
     | none=>none)
    | _=>none
   | none=>none
  | none=>none
 | _=>none
def amake (P:Program) (H:AH) (t:TypeId) (l c:Value):Option (Value × AH):=
 match P.underlying t,l,c with
 | some (.slice el),.int _ n,.int _ m=>match P.info? el with
  | some i=>match i.zero with
   | some z=>if zeroOk P el=true∧n=m∧0≤n∧n≤9223372036854775807∧i.bytes*n≤281474976710656 then some (.slice (some ⟨H.n,0,some i.size⟩) n.toNat n.toNat,H.push ⟨el,true,(zarr z (n.toNat*i.size)).toList⟩) else none
   | none=>none
  | none=>none
 | _,_,_=>none
def alit (P:Program) (H:AH) (t:TypeId) (n:Nat) (parts:List (Nat × Value)):Option (Value × AH):=
 match P.underlying t with
 | some (.slice el)=>match P.info? el with
  | some i=>match i.zero with
   | some z=>if zeroOk P el=true∧n*i.size≤16777216 then(match Instr.fill (fun j=>some (j*i.size,i.size)) (zarr z (n*i.size)) parts with
    | some cs=>if cs.size=n*i.size then some (.slice (some ⟨H.n,0,some i.size⟩) n n,H.push ⟨el,true,cs.toList⟩) else none
    | none=>none) else none
   | none=>none
  | none=>none
 | _=>none
def aalloc (P:Program) (H:AH) (tag:Option Nat) (t:TypeId):Option (Value × AH):=
 match P.info? t with
 | some i=>match i.zero with
  | some z=>if zeroOk P t=true then some (.pointer (some ⟨H.n,0,tag⟩),H.push ⟨t,true,z.cells.toList⟩) else none
  | none=>none
 | none=>none
def hop (P:Program) (tag:Option Nat) (op:Op) (e:Env) (H:AH):Option (Value × AH):=
 match op with
 | .load t x=>match ev e x with
  | .pointer (some ⟨id,k,sp⟩)=>match aload P H t id k with
   | some v=>some (v,H)
   | none=>none
  | _=>none
 | .store t x y=>match ev e x with
  | .pointer (some ⟨id,k,sp⟩)=>match astore P H t id k (ev e y) with
   | some H'=>some (undef,H')
   | none=>none
  | _=>none
 | .box t x=>some (.pointer (some ⟨H.n,0,tag⟩),H.push ⟨t,true,(ev e x).cells.toList⟩)
 | .alloc t=>aalloc P H tag t
 | .buildSlice t n parts=>alit P H t n (parts.toList.map fun p=>(p.1,ev e p.2))
 | .makeSlice t l c=>amake P H t (ev e l) (ev e c)
 | .call {callee:=.builtin .append,args:=xs,argTypes:=ts}=>match xs.toList,ts.toList with
  | [s,x],[t,t']=>if t=t' then aapp P H tag t (ev e s) (ev e x) else none
  | _,_=>none
 | .call {callee:=.builtin .copy,args:=xs,argTypes:=ts}=>match xs.toList,ts.toList with
  | [d,s],[t,_]=>acopy P H t (ev e d) (ev e s)
  | _,_=>none
 | .call {callee:=.builtin .clear,args:=xs,argTypes:=ts}=>match xs.toList,ts.toList with
  | [x],[t]=>aclear P H t (ev e x)
  | _,_=>none
 | _=>none
section
variable {P:Program} {w0 w:World} {ρ:Ren} {H:AH}
theorem zeroOk_of {t:TypeId} {i:TypeInfo} {z:Value} (hz:zeroOk P t=true) (hi:P.info? t=some i) (hzz:i.zero=some z):z.cells.all scal=true:=by
 unfold zeroOk at hz
 simp only[hi,hzz,Bool.and_eq_true] at hz
 exact hz.1
theorem zeroOk_size {t:TypeId} {i:TypeInfo} {z:Value} (hz:zeroOk P t=true) (hi:P.info? t=some i) (hzz:i.zero=some z):z.cells.size=i.size:=by
 unfold zeroOk at hz
 simp only[hi,hzz,Bool.and_eq_true,beq_iff_eq] at hz
 exact hz.2
theorem alit_ok (h:WR w0 ρ H w) (hf:ρ H.n=none) {t:TypeId} {n:Nat} {ps qs:List (Nat × Value)} {v:Value} {H':AH} (hp:Parts ρ ps qs) (hv:alit P H t n ps=some (v,H')):
  ∃ρ' c w',Step w0 ρ H w ρ' H' w'∧VR ρ' v c∧(Instr.buildSlice t n qs.toArray).run P w=.ok c w':=by
 unfold alit at hv
 split at hv
 ·rename_i el hu
  split at hv
  ·rename_i i hi
   split at hv
   ·rename_i z hz
    split at hv
    ·rename_i hcond
     obtain⟨hzo,hbig⟩:=hcond
     split at hv
     ·rename_i cs hfill
      split at hv
      ·rename_i hsz
       cases hv
       obtain⟨cs',hfill',hvr⟩:=fill_ok _ _ _ _ _ _ hp (VRs.refl_ (zarr_scal (zeroOk_of hzo hi hz) (n*i.size))) hfill
       obtain⟨hl,hc⟩:=vrs_list hvr
       obtain⟨ρ',hst,hn⟩:=new_ok h hf el hl hc w.drawn
       refine⟨ρ',.slice (some ⟨w.heap.size,0,none⟩) n n,w.alloc (.cells cs' el),hst,?_,?_⟩
       ·have:=VR.slc (ρ:=ρ') H.n 0 i.size n n n _ hn (Nat.le_refl _) (Nat.le_refl _) (by simp[← hvr.1,hsz])
        simpa using this
       ·have hb:¬(n*i.size>2 ^ 24):=by omega
        by_cases h0:n*i.size=0
        ·have e0:(zarr z (n*i.size))=#[]:=by rw[h0];simp[zarr]
         rw[e0] at hfill'
         have hb':¬(16777216<n*i.size):=by omega
         have e1:n=0∨i.size=0:=Nat.mul_eq_zero.1 h0
         have er:∀f:Nat→Value,Array.map f (Array.range 0)=#[]:=fun f=>by simp
         simp[Instr.buildSlice,run_underlying hu,sizeOf,typeInfo,zeroValue,hi,hz,h0,e1,newRow,hb',er,hfill']
        ·unfold zarr at hfill'
         have hb':¬(16777216<n*i.size):=by omega
         have e1:¬(n=0∨i.size=0):=fun h=>h0 (Nat.mul_eq_zero.2 h)
         simp[Instr.buildSlice,run_underlying hu,sizeOf,typeInfo,zeroValue,hi,hz,hb',e1,newRow,hfill']
         exact fun hc=>absurd hc h0
      ·cases hv
     ·cases hv
    ·cases hv
   ·cases hv
  ·cases hv
 ·cases hv
theorem amake_ok (h:WR w0 ρ H w) (hf:ρ H.n=none) {t:TypeId} {l c l' c' v:Value} {H':AH} (hl:VR ρ l l') (hc:VR ρ c c') (hv:amake P H t l c=some (v,H')):
  ∃ρ' d w',Step w0 ρ H w ρ' H' w'∧VR ρ' v d∧(Instr.makeSlice t l' c').run P w=.ok d w':=by
 unfold amake at hv
 split at hv
 ·rename_i el k n k' m hu
  obtain rfl:=hl.int_
  obtain rfl:=hc.int_
  split at hv
  ·rename_i i hi
   split at hv
   ·rename_i z hz
    split at hv
    ·rename_i hcond
     obtain⟨hzo,rfl,hn0,hn1,hb⟩:=hcond
     cases hv
     have hvr:=VRs.refl_ (ρ:=ρ) (zarr_scal (zeroOk_of hzo hi hz) (n.toNat*i.size))
     obtain⟨hl,hcc⟩:=vrs_list hvr
     obtain⟨ρ',hst,hn⟩:=new_ok h hf el hl hcc w.drawn
     refine⟨ρ',_,_,hst,?_,run_make w t el i z hu hi hz k k' n n hn0 (Int.le_refl _) hb hn1⟩
     have:=VR.slc (ρ:=ρ') H.n 0 i.size n.toNat n.toNat n.toNat _ hn (Nat.le_refl _) (Nat.le_refl _) (by simp[zarr])
     simpa using this
    ·cases hv
   ·cases hv
  ·cases hv
 ·cases hv
theorem acells_ok (h:WR w0 ρ H w) {x x':Value} {size m:Nat} {ys:List Value} (hx:VR ρ x x') (hv:acells H x size=some (m,ys)):
  ∃ds:List Value,ys.length=m*size∧ds.length=m*size∧(∀(j:Nat) u,ys[j]?=some u→∃d,ds[j]?=some d∧VR ρ u d)∧
   ∃A c,x'=.slice A m c∧(A=none→m=0)∧∀a,A=some a→∀(j:Nat) d,ds[j]?=some d→w.cell? (a.add j)=some d:=by
 unfold acells at hv
 split at hv
 ·cases hv
  obtain⟨a',c',rfl,hn,_⟩:=hx.slice_
  exact⟨[],by simp,by simp,fun j u hu=>by simp at hu,a',c',rfl,fun _=>rfl,fun a ha j d hd=>by simp at hd⟩
 ·rename_i id k es n c
  split at hv
  ·rename_i he
   subst he
   split at hv
   ·rename_i b hm
    split at hv
    ·rename_i hk
     cases hv
     cases hx with
     | sc v h=>simp[scal] at h
     | slc id k es n c c' l hl hn hc hs=>
      obtain⟨ds,hdl,hcell,hvr⟩:=h.run hm hl hk
      exact⟨ds,by simp;omega,hdl,hvr,_,c',rfl,fun h=>(by cases h),fun a ha j d hd=>by cases ha;exact hcell j d hd⟩
    ·cases hv
   ·cases hv
  ·cases hv
 ·cases hv
theorem firstCells_ok {A:Option Addr} {m c size:Nat} {ds:List Value} (hl:ds.length=m*size) (hn:A=none→m=0) (hc:∀a,A=some a→∀(j:Nat) d,ds[j]?=some d→w.cell? (a.add j)=some d):
  (Builtin.firstCells size m (.slice A m c)).run P w=.ok ds.toArray w:=by
 cases A with
 | none=>
  have:=hn rfl
  subst this
  have:ds=[]:=List.eq_nil_of_length_eq_zero (by simpa using hl)
  subst this
  simp[Builtin.firstCells]
 | some a=>exact run_firstCells_some w size m a m c ds hl (hc a rfl)
theorem aappend_ok (h:WR w0 ρ H w) {t ty:TypeId} {s x s' x' v:Value} {H':AH} (hf0:Free ρ H.n H'.n) (hs:VR ρ s s') (hx:VR ρ x x') (hv:aappend P H t s x=some (v,H')):
  ∃ρ' d w',Step w0 ρ H w ρ' H' w'∧VR ρ' v d∧(Builtin.append_ #[t,t] ty #[s',x']).run P w=.ok d w':=by
 unfold aappend at hv
 split at hv
 ·rename_i el hu
  split at hv
  ·rename_i i hi
   split at hv
   ·rename_i m ys hys
    split at hv
    ·rename_i hcond
     obtain⟨hzo,hsz,hone⟩:=hcond
     obtain⟨z,hz⟩:∃z,i.zero=some z:=by
      unfold zeroOk at hzo
      cases hzz:i.zero with
      | none=>simp[hi,hzz] at hzo
      | some z=>exact⟨z,rfl⟩
     obtain⟨ds,hyl,hdl,hyd,A,c,rfl,hAn,hAc⟩:=acells_ok h hx hys
     have hdone:=all_one (hyl.trans hdl.symm) hyd (fun u hu=>List.all_eq_true.1 hone u hu)
          -- nothing is appended
     have zero:m=0→∀B n C,s'=.slice B n C→n≤C→(Builtin.append_ #[t,t] ty #[s',.slice A m c]).run P w=.ok s' w:=by
      intro hm B n C hsv hnC
      subst hm
      subst hsv
      have hd0:ds=[]:=List.eq_nil_of_length_eq_zero (by simpa using hdl)
      have hfc:=firstCells_ok (P:=P) (w:=w) (c:=c) hdl hAn hAc
      subst hd0
      cases B with
      | none=>simp[Builtin.append_,run_underlying hu,sizeOf,typeInfo,hi,Builtin.lenOf,hnC,hfc,storeCells]
      | some a=>simp[Builtin.append_,run_underlying hu,sizeOf,typeInfo,hi,Builtin.lenOf,hnC,hfc,storeCells]
          -- a new row
     have fresh:ρ H.n=none→∀(B:Option Addr) (n C:Nat) (os xs:List Value) (H1:AH),s'=.slice B n C→(B=none→n=0)→C<n+m→n+m≤9223372036854775807→(n+m)*i.bytes≤140737488355328→os.length=n*i.size→xs.length=n*i.size→(∀a,B=some a→∀(j:Nat) d,os[j]?=some d→w.cell? (a.add j)=some d)→(∀(j:Nat) u,xs[j]?=some u→∃d,os[j]?=some d∧VR ρ u d)→
       H1.n=H.n→Step w0 ρ H w ρ H1 w→
       ∃ρ' d w',Step w0 ρ H w ρ' (H1.push ⟨el,true,xs++ys⟩) w'∧VR ρ' (.slice (some ⟨H.n,0,some i.size⟩) (n+m) (n+m)) d∧(Builtin.append_ #[t,t] ty #[s',.slice A m c]).run P w=.ok d w':=by
      intro hf B n C os xs H1 hsv hBn hlt h63 hby hol hxl hoc hxo hHn hst1
      subst hsv
      have hge:=grownCap_ge w (n+m) C el
      have ha:∀W:World,W.heap=w.heap→(Builtin.firstCells i.size m (.slice A m c)).run P W=.ok ds.toArray W:=fun W hW=>firstCells_ok hdl hAn (fun a ha j d hd=>by have:=hAc a ha j d hd;simpa [World.cell?,hW] using this)
      have ho:∀W:World,W.heap=w.heap→(Builtin.firstCells i.size n (.slice B n C)).run P W=.ok os.toArray W:=fun W hW=>firstCells_ok hol hBn (fun a ha j d hd=>by have:=hoc a ha j d hd;simpa [World.cell?,hW] using this)
      have hrun:(Builtin.append_ #[t,t] ty #[.slice B n C,.slice A m c]).run P w=.ok (.slice (some ⟨w.heap.size,0,none⟩) (n+m) (grownCap w (n+m) C el)) (w.drew.alloc (.cells (os.toArray++ds.toArray++Builtin.zeroCells z.cells (grownCap w (n+m) C el-(n+m))) el)):=by
       have hn:¬(n+m≤C):=by omega
       have h63':¬(9223372036854775807<((n:Int)+(m:Int))):=by omega
       have h48':¬(281474976710656<Builtin.nextslicecap (n+m) C*i.bytes):=by have:=growslice_fits (bytes:=i.bytes) hlt hby;omega
       simp[Builtin.append_,run_underlying hu,sizeOf,typeInfo,zeroValue,hi,hz,Builtin.lenOf,hn,h63',h48',Question.forced,ha w.drew rfl,ho w.drew rfl,newRow,grownCap]
       congr 2
       apply Array.ext'
       simp[List.append_assoc]
      have hcl:∀(j:Nat) u,(xs++ys)[j]?=some u→∃d,(os.toArray++ds.toArray++Builtin.zeroCells z.cells (grownCap w (n+m) C el-(n+m)))[j]?=some d∧VR ρ u d:=by
       intro j u hj
       have hjl:j<(xs++ys).length:=by
        rcases Nat.lt_or_ge j (xs++ys).length with h | h
        ·exact h
        ·rw[List.getElem?_eq_none h] at hj;cases hj
       have e:(os.toArray++ds.toArray++Builtin.zeroCells z.cells (grownCap w (n+m) C el-(n+m)))[j]?=(os++ds)[j]?:=by
        rw[Array.getElem?_append_left (by simp at hjl ⊢;omega)]
        simp
       rw[e]
       rcases Nat.lt_or_ge j xs.length with hx | hx
       ·rw[List.getElem?_append_left hx] at hj
        rw[List.getElem?_append_left (by omega)]
        exact hxo j u hj
       ·rw[List.getElem?_append_right hx] at hj
        rw[List.getElem?_append_right (by omega)]
        obtain⟨d,hd,hvd⟩:=hyd _ u hj
        exact⟨d,by rw[hol,← hxl];exact hd,hvd⟩
      have hf1:ρ H1.n=none:=by rw[hHn];exact hf
      have hst2:=Step.alloc (w:=w) hst1.wr hf1 ⟨el,true,xs++ys⟩ rfl _ hcl (w.drawn+1)
      refine⟨_,_,_,hst1.trans hst2,?_,hrun⟩
      rw[hHn]
      have:=VR.slc (ρ:=ρ.upd H.n ⟨w.heap.size,0,(os.toArray++ds.toArray++Builtin.zeroCells z.cells (grownCap w (n+m) C el-(n+m))).size⟩) H.n 0 i.size (n+m) (n+m) (grownCap w (n+m) C el) _ (by simp[Ren.upd];rfl) (Nat.le_refl _) hge ?_
      ·simpa using this
      ·have hzs:=zeroOk_size hzo hi hz
       have e:(os.toArray++ds.toArray++Builtin.zeroCells z.cells (grownCap w (n+m) C el-(n+m))).size=grownCap w (n+m) C el*i.size:=by
        simp only[Array.size_append,List.size_toArray,size_zeroCells,hzs,hol,hdl,← Nat.add_mul]
        congr 1
        omega
       have e2:os.length+ds.length+(Builtin.zeroCells z.cells (grownCap w (n+m) C el-(n+m))).size=grownCap w (n+m) C el*i.size:=by
        rw[← e];simp
       simp only[e2]
       omega
     split at hv
     ·split at hv
      ·rename_i hm
       cases hv
       have:=scal_eq rfl hs
       exact⟨ρ,_,w,Step.refl h,hs,zero hm _ _ _ this (Nat.le_refl _)⟩
      ·rename_i hm
       split at hv
       ·rename_i hb
        cases hv
        have hf:ρ H.n=none:=hf0 H.n (Nat.le_refl _) (by simp[AH.push])
        have hsv:=scal_eq rfl hs
        obtain⟨ρ',d,w',hst,hvr,hrun⟩:=fresh hf none 0 0 [] [] H hsv (fun _=>rfl) (by omega) (by omega) (by simpa using hb.2) (by simp) (by simp) (fun a ha=>by cases ha) (fun j u hj=>by simp at hj) rfl (Step.refl h)
        exact⟨ρ',d,w',by simpa using hst,by simpa using hvr,hrun⟩
       ·cases hv
     ·rename_i id k es n cc
      split at hv
      ·rename_i hm
       cases hv
       obtain⟨a',c',hc',_,hle⟩:=hs.slice_
       cases hs with
       | sc v h=>simp[scal] at h
       | slc id k es n c c' l hl hn hcc hss=>exact⟨ρ,_,w,Step.refl h,.slc _ _ _ _ _ _ _ hl hn hcc hss,zero hm _ _ _ rfl (by omega)⟩
      ·rename_i hm
       split at hv
       ·rename_i b hbm
        split at hv
        ·rename_i hcond
         obtain⟨hrw,hty,hes,hk,h63,hby⟩:=hcond
         subst hes
         cases hv
         have hf:ρ H.n=none:=hf0 H.n (Nat.le_refl _) (by simp[AH.push,AH.kill])
         cases hs with
         | sc v h=>simp[scal] at h
         | slc id k es n c c' l hl hn hcc hss=>
          obtain⟨os,hosl,hocell,hovr⟩:=h.run hbm hl hk
          have hxl:((b.cells.drop k).take (n*i.size)).length=n*i.size:=by simp;omega
          by_cases hroom:n+m≤c'
          ·obtain⟨hbase,cs,hcs,hcsz,hcv⟩:=h.own id b l (h.id_lt hbm) hbm hl hrw
           have hfit:l.off+k+n*i.size+ds.length≤cs.size:=by
            rw[hdl,hcsz]
            have:(n+m)*i.size≤c'*i.size:=Nat.mul_le_mul_right _ hroom
            rw[Nat.add_mul] at this
            omega
           have hst:=run_storeCells_at P l.blk (l.off+k+n*i.size) b.ty ds 0 cs w hcs (by omega) hdone
           rw[Nat.add_zero] at hst
           have hfc:=firstCells_ok (P:=P) (w:=w) (c:=c) hdl hAn hAc
           refine⟨_,.slice (some ⟨l.blk,l.off+k,none⟩) (n+m) c',_,Step.take h hf hbm hrw hl (l.off+k) ⟨el,true,(b.cells.drop k).take (n*i.size)++ys⟩ rfl hty.symm (cs.toList.take (l.off+k+n*i.size)++ds++cs.toList.drop (l.off+k+n*i.size+ds.length)).toArray ?_ ?_ (SetRow.of w l.blk cs _ b.ty _ hcs),?_,?_⟩
           ·simp;omega
           ·intro j u hj
            rw[List.getElem?_toArray]
            have e:=splice_get cs.toList (l.off+k+n*i.size) ds (by simp;omega) (l.off+k+j)
            unfold splice at e
            rw[e]
            by_cases h1:j<n*i.size
            ·rw[if_pos (by omega)]
             rw[List.getElem?_append_left (by omega),List.getElem?_take,if_pos h1,List.getElem?_drop] at hj
             obtain⟨d,hd,hvd⟩:=hcv _ u hj
             exact⟨d,by rw[Array.getElem?_toList,Nat.add_assoc];exact hd,hvd⟩
            ·rw[if_neg (by omega)]
             rw[List.getElem?_append_right (by omega),hxl] at hj
             obtain⟨d,hd,hvd⟩:=hyd _ u hj
             have hjd:j-n*i.size<ds.length:=(List.getElem?_eq_some_iff.1 hd).1
             rw[if_pos (by omega)]
             exact⟨d,by rw[show l.off+k+j-(l.off+k+n*i.size)=j-n*i.size by omega];exact hd,hvd⟩
           ·have:=VR.slc (ρ:=ρ.upd H.n ⟨l.blk,l.off+k,l.size⟩) H.n 0 i.size (n+m) (n+m) c' _ (by simp[Ren.upd];rfl) (Nat.le_refl _) hroom (by simp;omega)
            simpa using this
           ·simp[Builtin.append_,run_underlying hu,sizeOf,typeInfo,hi,Builtin.lenOf,hroom,hfc,Am.add_at,hst]
          ·obtain⟨ρ',d,w',hst,hvr,hrun⟩:=fresh hf _ n c' os ((b.cells.drop k).take (n*i.size)) (H.kill id) rfl (fun h=>by cases h) (by omega) h63 hby hosl hxl (fun a ha=>by cases ha;exact hocell) hovr rfl (Step.kill h id)
           exact⟨ρ',d,w',hst,hvr,hrun⟩
        ·cases hv
       ·cases hv
     ·cases hv
    ·cases hv
   ·cases hv
  ·cases hv
 ·cases hv
theorem aappendI_ok (h:WR w0 ρ H w) {t ty:TypeId} {s x s' x' v:Value} {H':AH} (hs:VR ρ s s') (hx:VR ρ x x') (hv:aappendI P H t s x=some (v,H')):
  ∃d w',Step w0 ρ H w ρ H' w'∧VR ρ v d∧(Builtin.append_ #[t,t] ty #[s',x']).run P w=.ok d w':=by
 unfold aappendI at hv
 split at hv
 ·rename_i el hu
  split at hv
  ·rename_i i hi
   split at hv
   ·rename_i m ys hys
    split at hv
    ·rename_i id k es n cc
     split at hv
     ·rename_i b hbm
      split at hv
      ·rename_i hcond
       obtain⟨hrw,hes,hroom,hk,hone⟩:=hcond
       subst hes
       cases hv
       obtain⟨ds,hyl,hdl,hyd,A,c,rfl,hAn,hAc⟩:=acells_ok h hx hys
       cases hs with
       | sc v h=>simp[scal] at h
       | slc id k es n c2 c' l hl hn hcc hss=>
        have hroom':n+m≤c':=by omega
        obtain⟨w',hrun,hst⟩:=put_ok (P:=P) h hbm hrw hl (k:=k+n*i.size) (ys:=ys) (ds:=ds) hk (by omega) hyd (fun u hu=>List.all_eq_true.1 hone u hu)
        have hfc:=firstCells_ok (P:=P) (w:=w) (c:=c) hdl hAn hAc
        refine⟨_,w',hst,.slc _ _ _ _ _ _ _ hl hroom hcc hss,?_⟩
        rw[← Nat.add_assoc] at hrun
        simp[Builtin.append_,run_underlying hu,sizeOf,typeInfo,hi,Builtin.lenOf,hroom',hfc,Am.add_at,hrun]
      ·cases hv
     ·cases hv
    ·cases hv
   ·cases hv
  ·cases hv
 ·cases hv
end
section
variable {P:Program} {w0 w:World} {ρ:Ren} {H:AH}
theorem VR.shorter {A:Option Addr} {n m c:Nat} {x':Value} (h:VR ρ (.slice A n c) x') (hm:m≤n):∃A' c',x'=.slice A' n c'∧VR ρ (.slice A m c) (.slice A' m c'):=by
 cases h with
 | sc v hs=>
  cases A with
  | none=>exact⟨none,c,rfl,.sc _ rfl⟩
  | some a=>simp[scal] at hs
 | slc id k es n c c' l hl hn hc hs=>exact⟨_,c',rfl,.slc _ _ _ _ _ _ _ hl (by omega) hc hs⟩
 | sl0 id k a c'=>
  have:m=0:=by omega
  subst this
  exact⟨_,c',rfl,.sl0 _ _ _ _⟩
theorem acopy_ok (h:WR w0 ρ H w) {t t' ty:TypeId} {d s d' s' v:Value} {H':AH} (hd:VR ρ d d') (hs:VR ρ s s') (hv:acopy P H t d s=some (v,H')):
  ∃w',Step w0 ρ H w ρ H' w'∧VR ρ v v∧(Builtin.copy_ #[t,t'] ty #[d',s']).run P w=.ok v w':=by
 unfold acopy at hv
 split at hv
 ·rename_i el hu
  split at hv
  ·rename_i i hi
   split at hv
   ·rename_i id k es n cd A m c
    split at hv
    ·rename_i m0 ys hys
     split at hv
     ·rename_i b hbm
      split at hv
      ·rename_i hcond
       obtain⟨hrw,hes,hk,hyl0,hone⟩:=hcond
       cases hv
       obtain⟨A',c',rfl,hs'⟩:=hs.shorter (Nat.min_le_left m n)
       obtain⟨ds,hyl,hdl,hyd,A2,c2,he,hAn,hAc⟩:=acells_ok h hs' hys
       obtain⟨rfl,rfl,rfl⟩:A'=A2∧m0=min m n∧c'=c2:=by simpa [eq_comm] using he
       cases hd with
       | sc v h=>simp[scal] at h
       | slc id k es n c c'' l hl hn hcc hss=>
        have hlen:ys.length=ds.length:=hyl.trans hdl.symm
        obtain⟨w',hrun,hst⟩:=put_ok (P:=P) h hbm hrw hl (k:=k) hk hlen hyd (fun u hu=>List.all_eq_true.1 hone u hu)
        have hfc:=firstCells_ok (P:=P) (w:=w) (c:=c') hdl hAn hAc
        have hfc':(Builtin.firstCells i.size (Nat.min m n) (.slice A' m c')).run P w=.ok ds.toArray w:=by
         cases A'<;>simpa [Builtin.firstCells] using hfc
        refine⟨w',hst,.sc _ rfl,?_⟩
        simp only[Builtin.copy_,Sem.run_bind]
        simp[run_underlying hu,Builtin.lenOf,sizeOf,typeInfo,hi,hfc',hrun,goInt]
      ·cases hv
     ·cases hv
    ·cases hv
   ·cases hv
  ·cases hv
 ·cases hv
theorem aclear_ok (h:WR w0 ρ H w) {t ty:TypeId} {x x' v:Value} {H':AH} (hx:VR ρ x x') (hv:aclear P H t x=some (v,H')):
  ∃w',Step w0 ρ H w ρ H' w'∧v=undef∧(Builtin.clear_ #[t] ty #[x']).run P w=.ok v w':=by
 unfold aclear at hv
 split at hv
 ·rename_i el hu
  split at hv
  ·rename_i i hi
   split at hv
   ·rename_i z hz
    split at hv
    ·rename_i n c
     cases hv
     have:=scal_eq rfl hx
     subst this
     exact⟨w,Step.refl h,rfl,by simp[Builtin.clear_,run_underlying hu]⟩
    ·rename_i id k es n c
     split at hv
     ·rename_i hn
      cases hv
      subst hn
      obtain⟨a',c',rfl,hn',_⟩:=hx.slice_
      refine⟨w,Step.refl h,rfl,?_⟩
      cases a' with
      | none=>simp at hn'
      | some a=>simp[Builtin.clear_,run_underlying hu]
     ·rename_i hn
      split at hv
      ·rename_i b hbm
       split at hv
       ·rename_i hcond
        obtain⟨hzo,hrw,hes,hzs,hk,hone⟩:=hcond
        cases hv
        cases hx with
        | sc v h=>simp[scal] at h
        | slc id k es n c c' l hl hn2 hcc hss=>
         have hsc:=zarr_scal (zeroOk_of hzo hi hz) (n*z.cells.size)
         have hlen:(zarr z (n*z.cells.size)).toList.length=n*i.size:=by simp[zarr,hzs]
         obtain⟨w',hrun,hst⟩:=put_ok (P:=P) h hbm hrw hl (k:=k) (ys:=(zarr z (n*z.cells.size)).toList) (ds:=(zarr z (n*z.cells.size)).toList) (by rw[hlen];exact hk) rfl (fun j u hu=>⟨u,hu,.sc _ (Array.all_eq_true_iff_forall_mem.1 hsc u (Array.mem_toList_iff.1 (List.mem_of_getElem? hu)))⟩) (fun u hu=>Array.all_eq_true_iff_forall_mem.1 hone u (Array.mem_toList_iff.1 hu))
         refine⟨w',hst,rfl,?_⟩
         have e:Builtin.zeroCells z.cells n=zarr z (n*z.cells.size):=rfl
         simp[Builtin.clear_,run_underlying hu,zeroValue,typeInfo,hi,hz,e,hrun,hn]
       ·cases hv
      ·cases hv
    ·cases hv
   ·cases hv
  ·cases hv
 ·cases hv
theorem hop_ok {e:Env} {a:Act} {nt:Nat} (hE:ER ρ e a nt) (h:WR w0 ρ H w) {o:Oper} (ho:okAll nt o.op=true) {v:Value} {H':AH} {tag:Option Nat} (hv:hop P tag o.op e H=some (v,H')) (hf:Free ρ H.n H'.n):
  Did P w0 ρ H w v H' ((execOp a.eval o).run P w):=by
 obtain⟨dst,op,type,pos,after,guard⟩:=o
 simp only at ho hv
 have fr:H'.n=H.n+1→ρ H.n=none:=fun he=>hf H.n (Nat.le_refl _) (by omega)
 cases op<;>try (simp[hop] at hv;done)
 case load t x=>
  simp[okAll,Op.operands] at ho
  simp only[hop] at hv
  split at hv
  ·rename_i id k sp hx
   have hp:=hE.ev ho
   rw[hx] at hp
   split at hv
   ·rename_i u hu
    cases hv
    obtain⟨d,hd,hrun⟩:=aload_ok h hp hu
    exact⟨ρ,d,w,Step.refl h,hd,.inl (by simp[execOp,hrun])⟩
   ·cases hv
  ·cases hv
 case store t x y=>
  simp[okAll,Op.operands] at ho
  simp only[hop] at hv
  split at hv
  ·rename_i id k sp hx
   have hp:=hE.ev ho.1
   rw[hx] at hp
   split at hv
   ·rename_i H1 hu
    cases hv
    obtain⟨w',hrun,hst⟩:=astore_ok (P:=P) h hp (hE.ev ho.2) hu
    exact⟨ρ,undef,w',hst,.undef ρ,.inr ⟨rfl,by simp[execOp,hrun]⟩⟩
   ·cases hv
  ·cases hv
 case box t x=>
  simp[okAll,Op.operands] at ho
  simp only[hop] at hv
  cases hv
  have hx:=hE.ev ho
  obtain⟨hl,hc⟩:=vrs_list hx.cells
  obtain⟨ρ',hst,hn⟩:=new_ok h (fr rfl) t hl hc w.drawn
  refine⟨ρ',_,_,hst,.ptr _ _ _ _ hn,.inl ?_⟩
  simp[execOp,Instr.box,newVar,newRow]
 case alloc t=>
  simp only[hop] at hv
  unfold aalloc at hv
  split at hv
  ·rename_i i hi
   split at hv
   ·rename_i z hz
    split at hv
    ·rename_i hzo
     cases hv
     obtain⟨hl,hc⟩:=vrs_list (VRs.refl_ (ρ:=ρ) (zeroOk_of hzo hi hz))
     obtain⟨ρ',hst,hn⟩:=new_ok h (fr rfl) t hl hc w.drawn
     refine⟨ρ',_,_,hst,.ptr _ _ _ _ hn,.inl ?_⟩
     simp[execOp,Instr.alloc,newVar,newRow,zeroValue,typeInfo,hi,hz]
    ·cases hv
   ·cases hv
  ·cases hv
 case buildSlice t n parts=>
  simp only[okAll,Op.operands] at ho
  simp only[hop] at hv
  have hp:Parts ρ (parts.toList.map fun p=>(p.1,ev e p.2)) (parts.map fun p=>(p.1,a.eval p.2)).toList:=by
   rw[Array.toList_map]
   refine Parts.map hE _ (fun p hp=>?_)
   rw[List.all_toArray,List.all_eq_true] at ho
   exact ho _ (List.mem_map.2 ⟨p,hp,rfl⟩)
  have hn:H'.n=H.n+1:=by
   unfold alit at hv
   repeat' (split at hv)
   all_goals first | (cases hv;done) | (cases hv;rfl)
  obtain⟨ρ',c,w',hst,hvr,hrun⟩:=alit_ok h (fr hn) hp hv
  rw[Array.toArray_toList] at hrun
  exact⟨ρ',c,w',hst,hvr,.inl (by simp[execOp,hrun])⟩
 case makeSlice t l c=>
  simp[okAll,Op.operands] at ho
  simp only[hop] at hv
  have hn:H'.n=H.n+1:=by
   unfold amake at hv
   repeat' (split at hv)
   all_goals first | (cases hv;done) | (cases hv;rfl)
  obtain⟨ρ',d,w',hst,hvr,hrun⟩:=amake_ok h (fr hn) (hE.ev ho.1) (hE.ev ho.2) hv
  exact⟨ρ',d,w',hst,hvr,.inl (by simp[execOp,hrun])⟩
 case call c=>
  obtain⟨callee,args,ts⟩:=c
  cases callee<;>try (simp[hop] at hv;done)
  case builtin b=>
   simp[okAll,Op.operands,Call.operands] at ho
   cases b<;>try (simp[hop] at hv;done)
   case append=>
    simp only[hop] at hv
    split at hv
    ·rename_i s x t t' hargs hts
     split at hv
     ·rename_i ht
      subst ht
      have ha:args=#[s,x]:=by cases args;simp at hargs;simp[hargs]
      have htt:ts=#[t,t]:=by cases ts;simp at hts;simp[hts]
      subst ha
      subst htt
      simp at ho
      have hs:=hE.ev (x:=s) (ho 0 (by simp))
      have hx:=hE.ev (x:=x) (ho 1 (by simp))
      cases tag with
      | none=>
       obtain⟨ρ',d,w',hst,hvr,hrun⟩:=aappend_ok (ty:=type) h hf hs hx hv
       exact⟨ρ',d,w',hst,hvr,.inl (by simp[execOp,resolve,invoke,builtin,hrun])⟩
      | some _=>
       obtain⟨d,w',hst,hvr,hrun⟩:=aappendI_ok (ty:=type) h hs hx hv
       exact⟨ρ,d,w',hst,hvr,.inl (by simp[execOp,resolve,invoke,builtin,hrun])⟩
     ·cases hv
    ·cases hv
   case copy=>
    simp only[hop] at hv
    split at hv
    ·rename_i d s t t' hargs hts
     have ha:args=#[d,s]:=by cases args;simp at hargs;simp[hargs]
     have htt:ts=#[t,t']:=by cases ts;simp at hts;simp[hts]
     subst ha
     subst htt
     simp at ho
     obtain⟨w',hst,hvr,hrun⟩:=acopy_ok (ty:=type) (t':=t') h (hE.ev (x:=d) (ho 0 (by simp))) (hE.ev (x:=s) (ho 1 (by simp))) hv
     exact⟨ρ,v,w',hst,hvr,.inl (by simp[execOp,resolve,invoke,builtin,hrun])⟩
    ·cases hv
   case clear=>
    simp only[hop] at hv
    split at hv
    ·rename_i x t hargs hts
     have ha:args=#[x]:=by cases args;simp at hargs;simp[hargs]
     have htt:ts=#[t]:=by cases ts;simp at hts;simp[hts]
     subst ha
     subst htt
     simp at ho
     obtain⟨w',hst,hvr,hrun⟩:=aclear_ok (ty:=type) h (hE.ev ho) hv
     exact⟨ρ,v,w',hst,by rw[hvr];exact .undef ρ,.inl (by simp[execOp,resolve,invoke,builtin,hrun])⟩
    ·cases hv
end
abbrev CallS:=FuncId→Array Value→AH→Value→AH→Prop
def Fin' (H:AH):Prop:=∀id,H.n≤id→H.m id=none
def Ext (H H':AH):Prop:=H.n≤H'.n∧∀id,id<H.n→H'.m id=H.m id
def opClass (op:Op):Nat:=
 match op with
 | .load _ _=>1
 | .box _ _=>1
 | .alloc _=>1
 | .buildSlice _ _ _=>1
 | .makeSlice _ _ _=>1
 | .store _ _ _=>2
 | .call {callee:=.builtin .append,..}=>2
 | .call {callee:=.builtin .copy,..}=>2
 | .call {callee:=.builtin .clear,..}=>2
 | .call {callee:=.value _,..}=>3
 | _=>0
def untag1:Value→Value
 | .pointer (some ⟨id,k,_⟩)=>.pointer (some ⟨id,k,none⟩)
 | v=>v
def untags (a:Array Value):Array Value:=(a.toList.map untag1).toArray
def untag:Value→Value
 | .tuple vs=>.tuple (untags vs)
 | v=>untag1 v
theorem VR.untag1 {ρ:Ren} {v c:Value} (h:VR ρ v c):VR ρ (untag1 v) c:=by
 cases h with
 | ptr id k sp l h=>exact .ptr id k none l h
 | sc _ h=>
  have:Am.untag1 v=v:=by
   unfold Am.untag1
   split
   ·simp[scal] at h
   ·rfl
  rw[this];exact .sc v h
 | slc id k es n c c' l h hn hc hs=>exact .slc id k es n c c' l h hn hc hs
 | sl0 id k a c'=>exact .sl0 id k a c'
 | func fn a a' b b' ha hb h k=>exact .func fn a a' b b' ha hb h k
 | agg a a' ha h=>exact .agg a a' ha h
 | tup a a' ha h=>exact .tup a a' ha h
 | iface t v v' h=>exact .iface t v v' h
theorem VRs.untags {ρ:Ren} {a a':Array Value} (h:VRs ρ a a'):VRs ρ (untags a) a':=by
 refine⟨by simp[Am.untags,h.1],fun i hi=>?_⟩
 have hi':i<a.size:=by simpa [Am.untags] using hi
 have h1:(Am.untags a).getD i undef=Am.untag1 (a.getD i undef):=by simp[Am.untags,hi']
 rw[h1]
 exact(h.2 i hi').untag1
theorem VR.untag {ρ:Ren} {v c:Value} (h:VR ρ v c):VR ρ (untag v) c:=by
 unfold Am.untag
 split
 ·cases h with
  | sc _ h=>simp[scal] at h
  | tup a a' ha h=>exact .tup _ _ (VRs.untags ⟨ha,h⟩).1 (VRs.untags ⟨ha,h⟩).2
 ·exact h.untag1
def evCall (call:CallS) (dr:Bool) (f:Value) (args:Array Value) (H:AH) (v:Value) (H':AH):Prop:=
 match f with
 | .func (.func g) first cap=>∃v0,v=untag v0∧call g (untags (first++args++cap)) H v0 H'∧(dr=true→Ext H H')
 | _=>False
def evOp (P:Program) (call:CallS) (dr:Bool) (op:Op) (e:Env) (H:AH) (v:Value) (H':AH):Prop:=
 match op with
 | .call {callee:=.value f,args:=xs,argTypes:=_}=>evCall call dr (ev e f) (aargs e xs) H v H'
 | op=>match opClass op with
  | 0=>pop P op e=some v∧H'=H
  | _=>∃tag,hop P tag op e H=some (v,H')
def yld (ops:Array Oper) (e:Env) (j:Nat):Option Bool:=
 match (ops[j]?).bind (·.dst) with
 | some d=>match e d with
  | .bool b=>some b
  | _=>none
 | none=>none
def want (ops:Array Oper) (e:Env) (o:Oper):Bool:=
 match o.guard with
 | none=>true
 | some (j,b)=>yld ops e j==some b
def put (e:Env) (d:Option Tmp) (v:Value):Env:=
 match d with
 | some d=>fun t=>if t=d then v else e t
 | none=>e
def oOk (nt:Nat) (o:Oper):Bool:=okAll nt o.op&&(match o.dst with | some d=>decide (d<nt) | none=>true)
structure CallOK (P:Program) (call:CallS):Prop where
 enter:∀f args H v H',call f args H v H'→∃fn,P.funcs[f]?=some fn∧fn.body.isSome=true∧(fn.name== "runtime.NumGoroutine")=false
 nle:∀f args H v H',call f args H v H'→H.n≤H'.n
 fin:∀f args H v H',call f args H v H'→Fin' H→Fin' H'
 ok:∀f args H v H',call f args H v H'→∀w0 ρ w args',WR w0 ρ H w→Free ρ H.n H'.n→VRs ρ args args'→
  Calls P f args' w fun en w'=>∃ρ' c,en=.returned c∧Step w0 ρ H w ρ' H' w'∧VR ρ' v c
section
variable {P:Program} {w0 w:World} {ρ:Ren} {H:AH} {call:CallS}
theorem hop_nle {op:Op} {e:Env} {v:Value} {H':AH} {tag:Option Nat} (h:hop P tag op e H=some (v,H')):H.n≤H'.n:=by
 unfold hop at h
 split at h
 ·repeat' (split at h)
  all_goals first | (cases h;done) | (cases h;exact Nat.le_refl _)
 ·split at h
  ·split at h
   ·rename_i hs
    cases h
    unfold astore at hs
    repeat' (split at hs)
    all_goals first | (cases hs;done) | (cases hs;exact Nat.le_refl _)
   ·cases h
  ·cases h
 ·cases h;simp[AH.push]
 ·unfold aalloc at h
  repeat' (split at h)
  all_goals first | (cases h;done) | (cases h;simp[AH.push])
 ·unfold alit at h
  repeat' (split at h)
  all_goals first | (cases h;done) | (cases h;simp[AH.push])
 ·unfold amake at h
  repeat' (split at h)
  all_goals first | (cases h;done) | (cases h;simp[AH.push])
 ·split at h
  ·split at h
   ·unfold aapp aappend aappendI at h
    repeat' (split at h)
    all_goals first | (cases h;done) | (cases h;first | exact Nat.le_refl _ | (simp[AH.push,AH.kill]))
   ·cases h
  ·cases h
 ·split at h
  ·unfold acopy at h
   repeat' (split at h)
   all_goals first | (cases h;done) | (cases h;exact Nat.le_refl _)
  ·cases h
 ·split at h
  ·unfold aclear at h
   repeat' (split at h)
   all_goals first | (cases h;done) | (cases h;exact Nat.le_refl _)
  ·cases h
 ·cases h
theorem fin_push (h:Fin' H) (b:Blk):Fin' (H.push b):=fun id hid=>by
 simp[AH.push] at hid ⊢
 rw[if_neg (by omega)]
 exact h id (by omega)
theorem fin_kill (h:Fin' H) (k:Nat):Fin' (H.kill k):=fun id hid=>by
 simp[AH.kill] at hid ⊢
 intro _
 exact h id hid
theorem fin_set (h:Fin' H) {k:Nat} {b0:Blk} (hk:H.m k=some b0) (b:Blk):Fin' (H.set k b):=fun id hid=>by
 simp[AH.set] at hid ⊢
 rw[if_neg]
 ·exact h id hid
 ·intro e
  subst e
  rw[h id hid] at hk
  cases hk
theorem hop_fin {op:Op} {e:Env} {v:Value} {H':AH} {tag:Option Nat} (h:hop P tag op e H=some (v,H')) (hf:Fin' H):Fin' H':=by
 unfold hop at h
 split at h
 ·repeat' (split at h)
  all_goals first | (cases h;done) | (cases h;exact hf)
 ·split at h
  ·split at h
   ·rename_i hs
    cases h
    unfold astore at hs
    repeat' (split at hs)
    all_goals first | (cases hs;done) | (cases hs;exact fin_set hf (by assumption) _)
   ·cases h
  ·cases h
 ·cases h;exact fin_push hf _
 ·unfold aalloc at h
  repeat' (split at h)
  all_goals first | (cases h;done) | (cases h;exact fin_push hf _)
 ·unfold alit at h
  repeat' (split at h)
  all_goals first | (cases h;done) | (cases h;exact fin_push hf _)
 ·unfold amake at h
  repeat' (split at h)
  all_goals first | (cases h;done) | (cases h;exact fin_push hf _)
 ·split at h
  ·split at h
   ·unfold aapp aappend aappendI at h
    repeat' (split at h)
    all_goals first | (cases h;done) | (cases h;first | exact hf | exact fin_push hf _ | exact fin_push (fin_kill hf _) _ | exact fin_set hf (by assumption) _)
   ·cases h
  ·cases h
 ·split at h
  ·unfold acopy at h
   repeat' (split at h)
   all_goals first | (cases h;done) | (cases h;exact fin_set hf (by assumption) _)
  ·cases h
 ·split at h
  ·unfold aclear at h
   repeat' (split at h)
   all_goals first | (cases h;done) | (cases h;first | exact hf | exact fin_set hf (by assumption) _)
  ·cases h
 ·cases h
theorem push_ext (H:AH) (b:Blk):Ext H (H.push b):=⟨by simp[AH.push],fun id hid=>by
 simp only[AH.push]
 rw[if_neg (by omega)]⟩
theorem hop_ext {op:Op} {e:Env} {v:Value} {H':AH} {tag:Option Nat} (h:hop P tag op e H=some (v,H')) (hc:opClass op=1):Ext H H':=by
 unfold hop at h
 split at h
 ·repeat' (split at h)
  all_goals first | (cases h;done) | (cases h;exact⟨Nat.le_refl _,fun _ _=>rfl⟩)
 ·simp[opClass] at hc
 ·cases h;exact push_ext _ _
 ·unfold aalloc at h
  repeat' (split at h)
  all_goals first | (cases h;done) | (cases h;exact push_ext _ _)
 ·unfold alit at h
  repeat' (split at h)
  all_goals first | (cases h;done) | (cases h;exact push_ext _ _)
 ·unfold amake at h
  repeat' (split at h)
  all_goals first | (cases h;done) | (cases h;exact push_ext _ _)
 ·simp[opClass] at hc
 ·simp[opClass] at hc
 ·simp[opClass] at hc
 ·cases h
theorem VRs.append {a a' b b':Array Value} (h:VRs ρ a a') (k:VRs ρ b b'):VRs ρ (a++b) (a'++b'):=by
 refine⟨by simp[h.1,k.1],fun i hi=>?_⟩
 simp only[Array.getD_eq_getD_getElem?]
 by_cases hl:i<a.size
 ·rw[Array.getElem?_append_left hl,Array.getElem?_append_left (by rw[← h.1];exact hl)]
  have:=h.2 i hl
  simpa [Array.getD_eq_getD_getElem?] using this
 ·rw[Array.getElem?_append_right (by omega),Array.getElem?_append_right (by rw[← h.1];omega)]
  simp at hi
  have:=k.2 (i-a.size) (by omega)
  rw[← h.1]
  simpa [Array.getD_eq_getD_getElem?] using this
theorem evOp_nle (hcall:CallOK P call) {dr:Bool} {op:Op} {e:Env} {v:Value} {H':AH} (h:evOp P call dr op e H v H'):H.n≤H'.n:=by
 unfold evOp at h
 split at h
 ·unfold evCall at h
  split at h
  ·obtain⟨_,_,h,_⟩:=h;exact hcall.nle _ _ _ _ _ h
  ·exact h.elim
 ·split at h
  ·rw[h.2];exact Nat.le_refl _
  ·obtain⟨_,h⟩:=h;exact hop_nle h
theorem evOp_fin (hcall:CallOK P call) {dr:Bool} {op:Op} {e:Env} {v:Value} {H':AH} (h:evOp P call dr op e H v H') (hf:Fin' H):Fin' H':=by
 unfold evOp at h
 split at h
 ·unfold evCall at h
  split at h
  ·obtain⟨_,_,h,_⟩:=h;exact hcall.fin _ _ _ _ _ h hf
  ·exact h.elim
 ·split at h
  ·rw[h.2];exact hf
  ·obtain⟨_,h⟩:=h;exact hop_fin h hf
theorem op_ok (hcall:CallOK P call) {e:Env} {a:Act} {nt:Nat} (hE:ER ρ e a nt) (h:WR w0 ρ H w) {dr:Bool} {o:Oper} (ho:okAll nt o.op=true) {v:Value} {H':AH} (hv:evOp P call dr o.op e H v H') (hf:Free ρ H.n H'.n)
  {K:Act→World→Prop} {Q:Exit→Act→World→Prop} (hK:∀ρ' c w',Step w0 ρ H w ρ' H' w'→VR ρ' v c→K (a.put o.dst c) w'):o.wp P a w K Q:=by
 unfold evOp at hv
 split at hv
 ·rename_i f xs ts hop
  unfold evCall at hv
  split at hv
  ·rename_i g first cap hfv
   obtain⟨v0,rfl,hc,hx⟩:=hv
   rw[hop] at ho
   simp only[okAll,Op.operands,Call.operands,Array.all_append,Bool.and_eq_true] at ho
   have hfr:=hE.ev (x:=f) (by simpa using ho.1)
   rw[hfv] at hfr
   have hargs:=aargs_ok hE ho.2
   cases hef:a.eval f with
   | func fn first' cap'=>
    rw[hef] at hfr
    cases hfr with
    | sc _ hs=>simp[scal] at hs
    | func _ _ _ _ _ hs1 hs2 h1 h2=>
     obtain⟨fn,hfn,hbody,hname⟩:=hcall.enter _ _ _ _ _ hc
     have hvr:VRs ρ (first++aargs e xs++cap) (first'++xs.map a.eval++cap'):=(VRs.append ⟨hs1,h1⟩ hargs).append ⟨hs2,h2⟩
     have hcalls:=hcall.ok _ _ _ _ _ hc w0 ρ w _ h hf hvr.untags
     unfold Oper.wp
     have hbn:¬fn.body=none:=by intro hb;simp[hb] at hbody
     have hname':¬fn.name= "runtime.NumGoroutine":=by simpa using hname
     have hr:(execOp a.eval o).run P w=.ok (.enter g (first'++xs.map a.eval++cap')) w:=by
      simp[execOp,hop,resolve,Deferred.ofValue,hef,invoke,callFunc,hfn,hname',hbn]
     rw[hr,Oper.upon_enter]
     exact hcalls.mono fun en w' ⟨ρ',c,he,hst,hvc⟩=>by subst he;exact hK ρ' c w' hst hvc.untag
   | _=>rw[hef] at hfr;cases hfr;try (rename_i hs;simp[scal] at hs)
  ·exact hv.elim
 ·split at hv
  ·obtain⟨hp,rfl⟩:=hv
   obtain⟨c,hc,hrun⟩:=pop_ok (P:=P) hE ho hp
   unfold Oper.wp
   rw[hrun w,Oper.upon_value]
   exact hK ρ c w (Step.refl h) hc
  ·obtain⟨tag,hv⟩:=hv
   obtain⟨ρ',c,w',hst,hvr,hrun⟩:=hop_ok (P:=P) hE h ho hv hf
   unfold Oper.wp
   rcases hrun with hrun | ⟨hcu,hrun⟩
   ·rw[hrun,Oper.upon_value]
    exact hK ρ' c w' hst hvr
   ·rw[hrun,Oper.upon_skip,← hcu]
    exact hK ρ' c w' hst hvr
theorem ER.put {e:Env} {a:Act} {nt:Nat} {ρ':Ren} (hE:ER ρ e a nt) (hl:Le ρ ρ') (d:Option Tmp) {v c:Value} (hv:VR ρ' v c):ER ρ' (Am.put e d v) (a.put d c) nt:=by
 cases d with
 | none=>exact⟨hE.size,fun t ht=>(hE.at_ t ht).mono hl⟩
 | some d=>
  refine⟨by simp[Act.put,hE.size],fun t ht=>?_⟩
  simp only[Am.put,Act.put]
  by_cases he:t=d
  ·subst he
   have hs:=hE.size
   rw[if_pos rfl]
   have:(a.tmps.setIfInBounds t c).getD t undef=c:=by simp[hs,ht]
   rw[this]
   exact hv
  ·rw[if_neg he]
   have:=(hE.at_ t ht).mono hl
   simp only[Array.getD_eq_getD_getElem?] at this ⊢
   rw[Array.getElem?_setIfInBounds_ne (Ne.symm he)]
   exact this
theorem ER.mono {e:Env} {a:Act} {nt:Nat} {ρ':Ren} (hE:ER ρ e a nt) (hl:Le ρ ρ'):ER ρ' e a nt:=⟨hE.size,fun t ht=>(hE.at_ t ht).mono hl⟩
theorem want_ok {ops:Array Oper} {e:Env} {a:Act} {nt:Nat} (hE:ER ρ e a nt) (hops:ops.all (oOk nt)=true) (o:Oper):Region.wanted o (yielded ops a.tmps)=want ops e o:=by
 unfold Region.wanted want
 cases hg:o.guard with
 | none=>rfl
 | some jb=>
  obtain⟨j,b⟩:=jb
  simp only
  congr 1
  unfold yielded yld
  cases hd:(ops[j]?).bind (·.dst) with
  | none=>simp
  | some d=>
   have hdn:d<nt:=by
    cases ho:ops[j]? with
    | none=>rw[ho] at hd;cases hd
    | some oj=>
     rw[ho] at hd
     simp at hd
     have:=Array.all_eq_true_iff_forall_mem.1 hops oj (Array.mem_of_getElem? ho)
     simp only[oOk,hd,Bool.and_eq_true,decide_eq_true_eq] at this
     exact this.2
   have hv:=hE.at_ d hdn
   have hsz:=hE.size
   have hda:d<a.tmps.size:=by rw[hsz];exact hdn
   have hget:a.tmps[d]?=some (a.tmps.getD d undef):=by simp[hda]
   simp only[Option.bind_some,hget]
   generalize a.tmps.getD d undef=c at hv
   cases hev:e d<;>rw[hev] at hv<;>cases hv<;>first | rfl | (rename_i hs;simp[scal] at hs)
end
theorem Ext.refl (H:AH):Ext H H:=⟨Nat.le_refl _,fun _ _=>rfl⟩
theorem Ext.trans {H H1 H2:AH} (h:Ext H H1) (k:Ext H1 H2):Ext H H2:=⟨Nat.le_trans h.1 k.1,fun id hid=>by rw[k.2 id (by have:=h.1;omega),h.2 id hid]⟩
structure GS (ρ0:Ren) (H0:AH) (wi:World) (N:Nat) (ρ:Ren) (H:AH) (w:World):Prop where
 ext:∀id,id<H0.n∨N≤id→ρ id=ρ0 id
 size:wi.heap.size≤w.heap.size
 keep:∀b,b<wi.heap.size→(∀id bl l,id<H0.n→H0.m id=some bl→bl.rw=true→ρ0 id=some l→l.blk≠b)→w.heap[b]?=wi.heap[b]?
 res:∀id b',id<H0.n→H.m id=some b'→∃b,H0.m id=some b∧b.rw=b'.rw
 new:∀id b l,H0.n≤id→H.m id=some b→b.rw=true→ρ id=some l→wi.heap.size≤l.blk∨∃id0 b0 l0,id0<H0.n∧H0.m id0=some b0∧b0.rw=true∧ρ0 id0=some l0∧l0.blk=l.blk∧H.m id0=none
section
variable {w0 w w' wi:World} {ρ ρ' ρ0:Ren} {H0 Hi Hi1 Hm Hm':AH} {N:Nat}
theorem WR.lift (h:WR w0 ρ Hm w) (s:Step w0 ρ Hi w ρ' Hi1 w') (hle:Le ρ ρ') (e1:Ext Hi Hm) (e2:Ext Hi1 Hm') (hfin:∀id,Hm'.n≤id→Hm'.m id=none)
  (hii:∀id b l,Hi1.n≤id→ρ' id=some l→Hm'.m id=some b→Hm.m id=some b):WR w0 ρ' Hm' w':=by
 have sn:=s.nle
 have id_lt:∀{id b},Hm'.m id=some b→id<Hm'.n:=fun {id b} hb=>by
  rcases Nat.lt_or_ge id Hm'.n with hi | hi
  ·exact hi
  ·rw[hfin id hi] at hb;cases hb
 have low:∀{id b},id<Hi1.n→Hm'.m id=some b→Hi1.m id=some b:=fun {id b} hid hb=>by rw[← e2.2 id hid];exact hb
 have up:∀{id b},id<Hi.n→Hi.m id=some b→Hm.m id=some b:=fun {id b} hid hb=>by rw[e1.2 id hid];exact hb
 have high:∀{id l},Hi1.n≤id→ρ' id=some l→ρ id=some l:=fun {id l} hid hl=>by rw[← s.ext id (.inr hid)];exact hl
 refine⟨s.wr.below,?_,?_,?_,s.wr.lt,hfin⟩
 ·intro id b l hid hb hl hr
  by_cases hi:id<Hi1.n
  ·exact s.wr.own id b l hi (low hi hb) hl hr
  ·have hbm:=hii id b l (by omega) hl hb
   have hl0:=high (by omega) hl
   obtain⟨h1,cs,h2,h3,h4⟩:=h.own id b l (h.id_lt hbm) hbm hl0 hr
   refine⟨h1,cs,?_,h3,fun i v hi=>?_⟩
   ·rw[s.keep _ (h.lt _ _ hl0) ?_]
    ·exact h2
    ·intro id' b' l' hid' hb' hr' hl' he
     have:=h.inj id' id b' b l' l (h.id_lt (up hid' hb')) (h.id_lt hbm) (up hid' hb') hbm hl' hl0 hr' hr he
     omega
   ·obtain⟨c,hc,hv⟩:=h4 i v hi
    exact⟨c,hc,hv.mono hle⟩
 ·intro id b l hid hb hl hr
  by_cases hi:id<Hi1.n
  ·exact s.wr.came id b l hi (low hi hb) hl hr
  ·have hbm:=hii id b l (by omega) hl hb
   obtain⟨h1,h2⟩:=h.came id b l (h.id_lt hbm) hbm (high (by omega) hl) hr
   refine⟨h1,fun i v hi=>?_⟩
   obtain⟨c,hc,hv⟩:=h2 i v hi
   exact⟨c,hc,hv.mono hle⟩
 ·have mixed:∀{id1 id2 b1 b2 l1 l2},id1<Hi1.n→Hi1.n≤id2→Hm'.m id1=some b1→Hm'.m id2=some b2→ρ' id1=some l1→ρ' id2=some l2→b1.rw=true→b2.rw=true→l1.blk=l2.blk→False:=by
   intro id1 id2 b1 b2 l1 l2 h1 h2 hb1 hb2 hl1 hl2 hr1 hr2 he
   have hb2m:=hii id2 b2 l2 h2 hl2 hb2
   have hl2':=high h2 hl2
   by_cases hi:id1<Hi.n
   ·obtain⟨b1',hb1',hr1'⟩:=s.res id1 b1 hi (low h1 hb1)
    have:=h.inj id1 id2 b1' b2 l1 l2 (h.id_lt (up hi hb1')) (h.id_lt hb2m) (up hi hb1') hb2m (by rw[← s.ext id1 (.inl hi)];exact hl1) hl2' (hr1'.trans hr1) hr2 he
    omega
   ·rcases s.new id1 b1 l1 (by omega) h1 (low h1 hb1) hr1 hl1 with hge | ⟨id0,b0,l0,hi0,hm0,hr0,hl0,he0,_⟩
    ·have:=h.lt _ _ hl2'
     omega
    ·have:=h.inj id0 id2 b0 b2 l0 l2 (h.id_lt (up hi0 hm0)) (h.id_lt hb2m) (up hi0 hm0) hb2m hl0 hl2' hr0 hr2 (he0.trans he)
     omega
  intro id1 id2 b1 b2 l1 l2 h1 h2 hb1 hb2 hl1 hl2 hr1 hr2 he
  by_cases hi1:id1<Hi1.n
  ·by_cases hi2:id2<Hi1.n
   ·exact s.wr.inj id1 id2 b1 b2 l1 l2 hi1 hi2 (low hi1 hb1) (low hi2 hb2) hl1 hl2 hr1 hr2 he
   ·exact(mixed hi1 (by omega) hb1 hb2 hl1 hl2 hr1 hr2 he).elim
  ·by_cases hi2:id2<Hi1.n
   ·exact(mixed hi2 (by omega) hb2 hb1 hl2 hl1 hr2 hr1 he.symm).elim
   ·have hb1m:=hii id1 b1 l1 (by omega) hl1 hb1
    have hb2m:=hii id2 b2 l2 (by omega) hl2 hb2
    exact h.inj id1 id2 b1 b2 l1 l2 (h.id_lt hb1m) (h.id_lt hb2m) hb1m hb2m (high (by omega) hl1) (high (by omega) hl2) hr1 hr2 he
theorem GS.step (g:GS ρ0 H0 wi N ρ Hm w) (s:Step w0 ρ Hi w ρ' Hi1 w') (e1:Ext Hi Hm) (e2:Ext Hi1 Hm') (h0:H0.n≤Hi.n) (hN:Hi1.n≤N)
  (hii:∀id b l,Hi1.n≤id→ρ' id=some l→Hm'.m id=some b→Hm.m id=some b):GS ρ0 H0 wi N ρ' Hm' w':=by
 have sn:=s.nle
 have ss:=s.size
 have gs:=g.size
 have low:∀{id b},id<Hi1.n→Hm'.m id=some b→Hi1.m id=some b:=fun {id b} hid hb=>by rw[← e2.2 id hid];exact hb
 have up:∀{id b},id<Hi.n→Hi.m id=some b→Hm.m id=some b:=fun {id b} hid hb=>by rw[e1.2 id hid];exact hb
 have dead:∀{id},id<H0.n→Hm.m id=none→Hm'.m id=none:=fun {id} hid hd=>by
  cases hc:Hm'.m id with
  | none=>rfl
  | some b=>
   obtain⟨b0,hb0,_⟩:=s.res id b (by omega) (low (by omega) hc)
   rw[up (by omega) hb0] at hd
   cases hd
 refine⟨?_,by omega,?_,?_,?_⟩
 ·intro id hid
  rw[s.ext id (by rcases hid with h | h;exact .inl (by omega);exact .inr (by omega)),g.ext id hid]
 ·intro b hb hno
  rw[s.keep b (by omega) ?_,g.keep b hb hno]
  intro id bl l hid hm hr hl
  by_cases hi:id<H0.n
  ·obtain⟨b0,hb0,hr0⟩:=g.res id bl hi (up hid hm)
   exact hno id b0 l hi hb0 (hr0.trans hr) (by rw[← g.ext id (.inl hi)];exact hl)
  ·rcases g.new id bl l (by omega) (up hid hm) hr hl with hge | ⟨id0,b0,l0,hi0,hm0,hr0,hl0,he,_⟩
   ·omega
   ·rw[← he];exact hno id0 b0 l0 hi0 hm0 hr0 hl0
 ·intro id b' hid hb
  obtain⟨b1,hb1,hr1⟩:=s.res id b' (by omega) (low (by omega) hb)
  obtain⟨b0,hb0,hr0⟩:=g.res id b1 hid (up (by omega) hb1)
  exact⟨b0,hb0,hr0.trans hr1⟩
 ·intro id b l hid hb hr hl
  by_cases h1:id<Hi.n
  ·obtain⟨b1,hb1,hr1⟩:=s.res id b h1 (low (by omega) hb)
   rcases g.new id b1 l hid (up h1 hb1) (hr1.trans hr) (by rw[← s.ext id (.inl h1)];exact hl) with hge | ⟨id0,b0,l0,hi0,hm0,hr0,hl0,he,hd⟩
   ·exact .inl hge
   ·exact .inr ⟨id0,b0,l0,hi0,hm0,hr0,hl0,he,dead hi0 hd⟩
  ·by_cases h2:id<Hi1.n
   ·rcases s.new id b l (by omega) h2 (low h2 hb) hr hl with hge | ⟨id0,b0,l0,hi0,hm0,hr0,hl0,he,hd⟩
    ·exact .inl (by omega)
    ·by_cases hi00:id0<H0.n
     ·obtain⟨b00,hb00,hr00⟩:=g.res id0 b0 hi00 (up hi0 hm0)
      exact .inr ⟨id0,b00,l0,hi00,hb00,hr00.trans hr0,by rw[← g.ext id0 (.inl hi00)];exact hl0,he,by rw[e2.2 id0 (by omega)];exact hd⟩
     ·rcases g.new id0 b0 l0 (by omega) (up hi0 hm0) hr0 hl0 with hge | ⟨id1,b1,l1,hi1,hm1,hr1,hl1,he1,hd1⟩
      ·exact .inl (by omega)
      ·exact .inr ⟨id1,b1,l1,hi1,hm1,hr1,hl1,he1.trans he,dead hi1 hd1⟩
   ·have hbm:=hii id b l (by omega) hl hb
    rcases g.new id b l hid hbm hr (by rw[← s.ext id (.inr (by omega))];exact hl) with hge | ⟨id0,b0,l0,hi0,hm0,hr0,hl0,he,hd⟩
    ·exact .inl hge
    ·exact .inr ⟨id0,b0,l0,hi0,hm0,hr0,hl0,he,dead hi0 hd⟩
end
/-! Operations look at their operands alone. -/
section
variable {P:Program} {call:CallS} {dr:Bool} {H H':AH} {v:Value}
theorem aargs_congr {e e':Env} {xs:Array Operand} (h:∀x∈xs,ev e x=ev e' x):aargs e xs=aargs e' xs:=by
 unfold aargs
 rw[List.map_congr_left (fun x hx=>h x (by simpa using hx))]
theorem pairs_congr {e e':Env} (ps:Array (Nat × Operand)) (h:∀x∈(ps.toList.map (·.2)).toArray,ev e x=ev e' x):(ps.toList.map fun p=>(p.1,ev e p.2))=(ps.toList.map fun p=>(p.1,ev e' p.2)):=
 List.map_congr_left fun p hm=>by
  have:=h p.2 (by simp only[List.mem_toArray,List.mem_map];exact⟨p,hm,rfl⟩)
  rw[this]
theorem pop_congr {op:Op} {e e':Env} (h:∀x∈op.operands,ev e x=ev e' x):pop P op e=pop P op e':=by
 cases op<;>simp only[Op.operands] at h<;>try rfl
 case slice t x lo hi mx=>
  cases mx<;>cases lo<;>cases hi<;>first | rfl | simp_all [pop]
 case makeFunc fn first cap=>
  simp only[pop]
  rw[aargs_congr (xs:=first) fun x hx=>h x (by simp[hx]),aargs_congr (xs:=cap) fun x hx=>h x (by simp[hx])]
 case build t ps=>
  simp only[pop]
  rw[pairs_congr ps h]
 case call c=>
  obtain⟨callee,args,ts⟩:=c
  cases callee<;>try rfl
  case builtin b=>
   have ha:aargs e args=aargs e' args:=aargs_congr fun x hx=>h x (by simp[Call.operands,hx])
   cases b<;>first | rfl | (simp only[pop,ha])
 all_goals (simp_all [pop])
theorem hop_congr {tag:Option Nat} {op:Op} {e e':Env} (h:∀x∈op.operands,ev e x=ev e' x):hop P tag op e H=hop P tag op e' H:=by
 cases op<;>simp only[Op.operands] at h<;>try rfl
 case buildSlice t n ps=>
  simp only[hop]
  rw[pairs_congr ps h]
 case call c=>
  obtain⟨callee,args,ts⟩:=c
  cases callee<;>try rfl
  case builtin b=>
   have ha:∀x∈args.toList,ev e x=ev e' x:=fun x hx=>h x (by simp[Call.operands,Array.mem_toList_iff.1 hx])
   cases b<;>try rfl
   all_goals
    simp only[hop]
    split<;>first | rfl | (rename_i h1 h2;rw[h1] at ha;simp_all)
 all_goals (simp_all [hop])
theorem evOp_congr {op:Op} {e e':Env} (h:∀x∈op.operands,ev e x=ev e' x) (hv:evOp P call dr op e H v H'):evOp P call dr op e' H v H':=by
 unfold evOp at hv ⊢
 split at hv
 ·rename_i f xs ts
  simp only[Op.operands,Call.operands] at h
  rw[← h f (by simp),← aargs_congr (xs:=xs) (e:=e) (e':=e') fun x hx=>h x (by simp[hx])]
  exact hv
 ·rename_i hne
  split at hv
  ·rw[← pop_congr h]
   exact hv
  ·obtain⟨tag,hv⟩:=hv
   exact⟨tag,by rw[← hop_congr h];exact hv⟩
end
inductive Reach (ops:Array Oper) (j:Nat):Nat→Prop
  | one (i:Nat) (o:Oper) (ed:Edge) (ho:ops[i]?=some o) (he:ed∈o.after) (hb:Region.binds .any ed=true) (hj:ed.on=j):Reach ops j i
  | more (i:Nat) (o:Oper) (ed:Edge) (ho:ops[i]?=some o) (he:ed∈o.after) (hb:Region.binds .any ed=true) (h:Reach ops j ed.on):Reach ops j i
def dmask (acc:List Nat):List Edge→Nat
  | []=>0
  | ed :: l=>if Region.binds .any ed=true then 2 ^ ed.on ||| (acc.getD ed.on 0 ||| dmask acc l) else dmask acc l
def depsGo:List Oper→List Nat→List Nat
  | [],acc=>acc
  | o :: os,acc=>depsGo os (acc++[dmask acc o.after.toList])
def deps (ops:List Oper):List Nat:=depsGo ops []
theorem dmask_ok {ops:Array Oper} {acc:List Nat} (hacc:∀i j,(acc.getD i 0).testBit j=true→Reach ops j i) {i:Nat} {o:Oper} (ho:ops[i]?=some o):
    ∀l:List Edge,(∀e∈l,e∈o.after)→∀j,(dmask acc l).testBit j=true→Reach ops j i
  | [],_,j,h=>by simp[dmask] at h
  | ed :: l,hl,j,h=>by
    have ih:=dmask_ok hacc ho l (fun e he=>hl e (by simp[he])) j
    simp only[dmask] at h
    split at h
    · rename_i hb
      rw[Nat.testBit_or,Nat.testBit_or,Bool.or_eq_true,Bool.or_eq_true] at h
      rcases h with h | h | h
      · rw[Nat.testBit_two_pow] at h
        exact .one i o ed ho (hl ed (by simp)) hb (by simpa using h)
      · exact .more i o ed ho (hl ed (by simp)) hb (hacc _ _ h)
      · exact ih h
    · exact ih h
theorem depsGo_ok {ops:Array Oper}:∀(os:List Oper) (acc:List Nat),ops.toList.drop acc.length=os→(∀i j,(acc.getD i 0).testBit j=true→Reach ops j i)→∀i j,((depsGo os acc).getD i 0).testBit j=true→Reach ops j i
  | [],acc,_,hacc,i,j,h=>hacc i j h
  | o :: os,acc,hd,hacc,i,j,h=>by
    have ho:ops[acc.length]?=some o:=by
      rw[← Array.getElem?_toList]
      have:(ops.toList.drop acc.length)[0]?=some o:=by rw[hd];rfl
      rw[List.getElem?_drop] at this
      simpa using this
    refine depsGo_ok os (acc++[dmask acc o.after.toList]) ?_ ?_ i j h
    · rw[List.length_append,List.length_singleton,← List.drop_drop,hd]
      rfl
    · intro i j h
      rcases Nat.lt_trichotomy i acc.length with hi | hi | hi
      · rw[List.getD_eq_getElem?_getD,List.getElem?_append_left hi,← List.getD_eq_getElem?_getD] at h
        exact hacc i j h
      · subst hi
        rw[List.getD_eq_getElem?_getD,List.getElem?_append_right (Nat.le_refl _)] at h
        simp at h
        exact dmask_ok hacc ho _ (fun e he=>Array.mem_toList_iff.1 he) j h
      · rw[List.getD_eq_getElem?_getD,List.getElem?_eq_none (by simp;omega)] at h
        simp at h
theorem deps_ok {ops:Array Oper} {i j:Nat} (h:((deps ops.toList).getD i 0).testBit j=true):Reach ops j i:=
  depsGo_ok ops.toList [] rfl (fun i j h=>by simp at h) i j h
def ordB (ds:List Nat) (i j:Nat):Bool:=if j<i then(ds.getD i 0).testBit j else(ds.getD j 0).testBit i
def ldTmp:Op→Option Tmp
  | .load _ (.tmp t)=>some t
  | _=>none
def noDst (ops:Array Oper) (t:Tmp) (j i:Nat):Bool:=((ops.toList.drop j).take (i-j)).all fun o=>o.dst !=some t
def looseB (ops:Array Oper) (i j:Nat) (y:Oper):Bool:=
  match ldTmp y.op with
  | some t=>decide (j<i)&&noDst ops t j i
  | none=>false
def isAl (op:Op):Bool:=match op with | .alloc _=>true | .buildSlice _ _ _=>true | _=>false
def pairB (ops:Array Oper) (ds:List Nat) (i j:Nat) (x y:Oper):Bool:=
  (match y.dst with
   | some t=>(x.dst !=some t)&&(!((x.looksAt ops).contains t)||ordB ds i j)
   | none=>true)&&(!(opClass x.op==2)||opClass y.op==0||ordB ds i j||(Nat.blt i j&&isAl y.op)||looseB ops i j y)
def pairS (ops:Array Oper) (ds:List Nat) (i j:Nat) (x y:Oper):Bool:=
  (match y.dst with
   | some t=>(x.dst !=some t)&&(!((x.looksAt ops).contains t)||ordB ds i j)
   | none=>true)&&(!(opClass x.op==2)||opClass y.op==0||ordB ds i j||(Nat.blt i j&&isAl y.op))
def edgesB (i:Nat) (x:Oper):Bool:=x.after.toList.all fun e=>!Region.binds .any e||decide (e.on<i)
def rOk (ops:Array Oper):Bool:=
  let ds:=deps ops.toList
  let l:=ops.toList.zipIdx
  l.all fun x=>edgesB x.2 x.1&&l.all fun y=>x.2==y.2||pairB ops ds x.2 y.2 x.1 y.1
def rOkS (ops:Array Oper):Bool:=
  let ds:=deps ops.toList
  let l:=ops.toList.zipIdx
  l.all fun x=>edgesB x.2 x.1&&l.all fun y=>x.2==y.2||pairS ops ds x.2 y.2 x.1 y.1
theorem rOkS_rOk {ops:Array Oper} (h:rOkS ops=true):rOk ops=true:=by
  unfold rOkS at h
  unfold rOk
  refine List.all_eq_true.2 fun x hx=>?_
  have h1:=List.all_eq_true.1 h x hx
  rw[Bool.and_eq_true] at h1 ⊢
  refine⟨h1.1,List.all_eq_true.2 fun y hy=>?_⟩
  have h2:=List.all_eq_true.1 h1.2 y hy
  rw[Bool.or_eq_true] at h2 ⊢
  refine h2.imp id fun h3=>?_
  unfold pairS at h3
  unfold pairB
  rw[Bool.and_eq_true] at h3 ⊢
  exact⟨h3.1,by rw[Bool.or_eq_true];exact .inl h3.2⟩
def looseGo (ds:List Nat) (i:Nat):Nat→List Oper→List Tmp
  | _,[]=>[]
  | j,y :: l=>match Nat.blt j i with
    | true=>match ldTmp y.op with
      | some t=>match (ds.getD i 0).testBit j with
        | true=>looseGo ds i (j+1) l
        | false=>t :: looseGo ds i (j+1) l
      | none=>looseGo ds i (j+1) l
    | false=>[]
def looseAt (ops:Array Oper) (i:Nat):List Tmp:=
  match ops.toList[i]? with
  | some x=>match opClass x.op with
    | 2=>looseGo (deps ops.toList) i 0 ops.toList
    | _=>[]
  | none=>[]
theorem looseGo_mem {ds:List Nat} {i:Nat} {t:Tmp}:∀(l:List Oper) (j0:Nat),(∃(j:Nat) (y:Oper),l[j]?=some y∧j0+j<i∧ldTmp y.op=some t∧(ds.getD i 0).testBit (j0+j)=false)→t∈looseGo ds i j0 l
  | [],_,⟨j,y,h,_⟩=>by simp at h
  | y0 :: l,j0,⟨j,y,hy,hlt,ht,hb⟩=>by
    unfold looseGo
    have hlt0:Nat.blt j0 i=true:=by have:Nat.ble (j0+1) i=true:=Nat.ble_eq_true_of_le (by omega);exact this
    rw[hlt0]
    simp only
    cases j with
    | zero=>
      simp at hy
      subst hy
      rw[ht]
      simp only
      rw[Nat.add_zero] at hb
      rw[hb]
      exact List.mem_cons_self
    | succ j=>
      have ih:t∈looseGo ds i (j0+1) l:=looseGo_mem l (j0+1) ⟨j,y,by simpa using hy,by omega,ht,by rw[show j0+1+j=j0+(j+1) by omega];exact hb⟩
      split
      · split
        · exact ih
        · exact List.mem_cons_of_mem _ ih
      · exact ih
theorem looseGo_of {ds:List Nat} {i:Nat} {t:Tmp}:∀(l:List Oper) (j0:Nat),t∈looseGo ds i j0 l→∃(j:Nat) (y:Oper),l[j]?=some y∧j0+j<i∧ldTmp y.op=some t∧(ds.getD i 0).testBit (j0+j)=false
  | [],_,h=>by simp[looseGo] at h
  | y0 :: l,j0,h=>by
    unfold looseGo at h
    have up:(t∈looseGo ds i (j0+1) l)→∃(j:Nat) (y:Oper),(y0 :: l)[j]?=some y∧j0+j<i∧ldTmp y.op=some t∧(ds.getD i 0).testBit (j0+j)=false:=fun h=>by
      obtain⟨j,y,h1,h2,h3,h4⟩:=looseGo_of l (j0+1) h
      exact⟨j+1,y,by simpa using h1,by omega,h3,by rw[show j0+(j+1)=j0+1+j by omega];exact h4⟩
    split at h
    · rename_i hlt
      have hlt':j0<i:=by have:Nat.ble (j0+1) i=true:=hlt;exact Nat.le_of_ble_eq_true this
      split at h
      · rename_i t0 ht0
        split at h
        · exact up h
        · rename_i hb
          rcases List.mem_cons.1 h with rfl | h
          · exact⟨0,y0,rfl,by omega,ht0,by rw[Nat.add_zero];exact hb⟩
          · exact up h
      · exact up h
    · cases h
theorem rOkS_loose {ops:Array Oper} (h:rOkS ops=true) (i:Nat):looseAt ops i=[]:=by
  unfold looseAt
  cases hx:ops.toList[i]? with
  | none=>rfl
  | some x=>
    simp only
    split
    · rename_i hc
      refine List.eq_nil_iff_forall_not_mem.2 fun t ht=>?_
      obtain⟨j,y,hy,hlt,hld,hb⟩:=looseGo_of _ _ ht
      rw[Nat.zero_add] at hlt hb
      unfold rOkS at h
      have h1:=List.all_eq_true.1 h (x,i) (List.mk_mem_zipIdx_iff_getElem?.2 hx)
      rw[Bool.and_eq_true] at h1
      have h2:=List.all_eq_true.1 h1.2 (y,j) (List.mk_mem_zipIdx_iff_getElem?.2 hy)
      have hne:¬i=j:=by omega
      simp only[Bool.or_eq_true,beq_iff_eq,hne,false_or] at h2
      unfold pairS at h2
      rw[Bool.and_eq_true] at h2
      have h3:=h2.2
      have hyc:opClass y.op=1:=by
        cases hop:y.op with
        | load t x=>rfl
        | _=>rw[hop] at hld;simp[ldTmp] at hld
      unfold ordB at h3
      rw[if_pos hlt,hb,hc,hyc] at h3
      simp at h3
      omega
    · rfl
section
variable {ops:Array Oper}
theorem rOk_pair (h:rOk ops=true) {i j:Nat} {x y:Oper} (hx:ops[i]?=some x) (hy:ops[j]?=some y) (hij:i≠j):pairB ops (deps ops.toList) i j x y=true:=by
  unfold rOk at h
  have hx':(x,i)∈ops.toList.zipIdx:=List.mk_mem_zipIdx_iff_getElem?.2 (by rw[Array.getElem?_toList];exact hx)
  have hy':(y,j)∈ops.toList.zipIdx:=List.mk_mem_zipIdx_iff_getElem?.2 (by rw[Array.getElem?_toList];exact hy)
  have h1:=List.all_eq_true.1 h _ hx'
  rw[Bool.and_eq_true] at h1
  have h2:=List.all_eq_true.1 h1.2 _ hy'
  simpa [hij] using h2
theorem rOk_edge (h:rOk ops=true) {i:Nat} {x:Oper} (hx:ops[i]?=some x) {e:Edge} (he:e∈x.after) (hb:Region.binds .any e=true):e.on<i:=by
  unfold rOk at h
  have hx':(x,i)∈ops.toList.zipIdx:=List.mk_mem_zipIdx_iff_getElem?.2 (by rw[Array.getElem?_toList];exact hx)
  have h1:=List.all_eq_true.1 h _ hx'
  rw[Bool.and_eq_true] at h1
  have h2:=List.all_eq_true.1 h1.1 e (Array.mem_toList_iff.2 he)
  simpa [hb] using h2
theorem ordB_reach {i j:Nat} (hij:i≠j) (h:ordB (deps ops.toList) i j=true):(j<i∧Reach ops j i)∨(i<j∧Reach ops i j):=by
  unfold ordB at h
  split at h
  · rename_i hlt;exact .inl ⟨hlt,deps_ok h⟩
  · rename_i hlt;exact .inr ⟨by omega,deps_ok h⟩
def Closed (ops:Array Oper) (D:Nat→Prop):Prop:=∀i o,D i→ops[i]?=some o→∀e∈o.after,Region.binds .any e=true→D e.on
theorem Closed.reach {D:Nat→Prop} (hD:Closed ops D) {i j:Nat} (h:Reach ops j i):D i→D j:=by
  induction h with
  | one i o ed ho he hb hj=>intro hi;rw[← hj];exact hD i o hi ho ed he hb
  | more i o ed ho he hb _ ih=>intro hi;exact ih (hD i o hi ho ed he hb)
theorem Closed.reach_ready {D:Nat→Prop} (hD:Closed ops D) {i j:Nat} {o:Oper} (ho:ops[i]?=some o) (hr:∀e∈o.after,Region.binds .any e=true→D e.on) (h:Reach ops j i):D j:=by
  cases h with
  | one _ o' ed ho' he hb hj=>rw[ho] at ho';cases ho';rw[← hj];exact hr ed he hb
  | more _ o' ed ho' he hb h=>rw[ho] at ho';cases ho';exact hD.reach h (hr ed he hb)
end
def callOk (ops:Array Oper) (i:Nat):Bool:=
  match ops.toList[i]? with
  | some o=>match opClass o.op with
    | 3=>ops.toList.zipIdx.all fun y=>y.2==i||opClass y.1.op==0||ordB (deps ops.toList) i y.2||(Nat.blt i y.2&&isAl y.1.op)
    | _=>false
  | none=>false
def drOf (ops:Array Oper) (dr:Bool) (os:List Oper):Bool:=dr&&!(callOk ops (ops.size-os.length-1))
def looseL (ops:Array Oper) (i:Nat) (y:Oper) (j:Nat):Bool:=
  match ldTmp y.op with
  | some t=>Nat.blt j i&&noDst ops t j i
  | none=>false
def callLd (ops:Array Oper) (i:Nat):Bool:=
  match ops.toList[i]? with
  | some o=>match opClass o.op with
    | 3=>ops.toList.zipIdx.all fun y=>y.2==i||opClass y.1.op==0||ordB (deps ops.toList) i y.2||(Nat.blt i y.2&&isAl y.1.op)||looseL ops i y.1 y.2
    | _=>false
  | none=>false
def drN (ops:Array Oper) (dr:Bool) (os:List Oper):Bool:=dr&&!(callLd ops (ops.size-os.length-1))
def looseC (ops:Array Oper) (i:Nat):List Tmp:=
  match ops.toList[i]? with
  | some x=>match opClass x.op with
    | 3=>looseGo (deps ops.toList) i 0 ops.toList
    | _=>[]
  | none=>[]
def lO (ops:Array Oper) (i:Nat) (o:Oper):List Tmp:=
  match opClass o.op with
  | 2=>looseAt ops i
  | 3=>match callLd ops i with
    | true=>looseC ops i
    | false=>[]
  | _=>[]
def Wt (ops:Array Oper) (i:Nat) (o:Oper):Prop:=opClass o.op=2∨callLd ops i=true
theorem callLd_of {ops:Array Oper} {i:Nat} (h:callOk ops i=true):callLd ops i=true:=by
  unfold callOk at h
  unfold callLd
  split at h
  · rename_i o ho
    split at h
    · rename_i hc
      refine List.all_eq_true.2 fun y hy=>?_
      have h1:=List.all_eq_true.1 h y hy
      rw[Bool.or_eq_true]
      exact .inl h1
    · cases h
  · cases h
theorem callLd_cls {ops:Array Oper} {i:Nat} {o:Oper} (h:callLd ops i=true) (ho:ops[i]?=some o):opClass o.op=3:=by
  unfold callLd at h
  rw[Array.getElem?_toList,ho] at h
  simp only at h
  split at h
  · assumption
  · cases h
theorem callOk_loose {ops:Array Oper} {i:Nat} (h:callOk ops i=true):looseC ops i=[]:=by
  unfold callOk at h
  unfold looseC
  split at h
  · rename_i x hx
    split at h
    · rename_i hc
      refine List.eq_nil_iff_forall_not_mem.2 fun t ht=>?_
      obtain⟨j,y,hy,hlt,hld,hb⟩:=looseGo_of _ _ ht
      rw[Nat.zero_add] at hlt hb
      have h3:=List.all_eq_true.1 h (y,j) (List.mk_mem_zipIdx_iff_getElem?.2 hy)
      have hyc:opClass y.op=1∧isAl y.op=false:=by
        cases hop:y.op with
        | load t x=>exact⟨rfl,rfl⟩
        | _=>rw[hop] at hld;simp[ldTmp] at hld
      have hne:¬j=i:=by omega
      have ho:ordB (deps ops.toList) i j=false:=by unfold ordB;rw[if_pos hlt];exact hb
      simp[hyc.1,hyc.2,hne,ho] at h3
    · cases h
  · cases h
theorem loose_mem {ops:Array Oper} {i j:Nat} {x y:Oper} {t:Tmp} (hx:ops[i]?=some x) (hc:opClass x.op=2∨opClass x.op=3∧callLd ops i=true) (hy:ops[j]?=some y) (hji:j<i) (ht:ldTmp y.op=some t) (ho:¬ordB (deps ops.toList) i j=true):t∈lO ops i x:=by
  have hg:t∈looseGo (deps ops.toList) i 0 ops.toList:=by
    refine looseGo_mem _ 0 ⟨j,y,by rw[Array.getElem?_toList];exact hy,by omega,ht,?_⟩
    rw[Nat.zero_add]
    cases hb:((deps ops.toList).getD i 0).testBit j with
    | false=>rfl
    | true=>exact absurd (by unfold ordB;rw[if_pos hji];exact hb) ho
  unfold lO
  rcases hc with hc | ⟨hc,hc2⟩
  · simp only[hc]
    unfold looseAt
    rw[Array.getElem?_toList,hx]
    simp only[hc]
    exact hg
  · simp only[hc,hc2]
    unfold looseC
    rw[Array.getElem?_toList,hx]
    simp only[hc]
    exact hg
theorem callLd_pair {ops:Array Oper} {i j:Nat} {x y:Oper} (h:callLd ops i=true) (hx:ops[i]?=some x) (hy:ops[j]?=some y) (hij:i≠j):(opClass y.op=0∨ordB (deps ops.toList) i j=true)∨(i<j∧isAl y.op=true)∨∃t,ldTmp y.op=some t∧j<i∧noDst ops t j i=true:=by
  unfold callLd at h
  rw[Array.getElem?_toList,hx] at h
  simp only at h
  split at h
  · have h3:=List.all_eq_true.1 h (y,j) (List.mk_mem_zipIdx_iff_getElem?.2 (by rw[Array.getElem?_toList];exact hy))
    simp only[Bool.or_eq_true,beq_iff_eq,Bool.and_eq_true] at h3
    rcases h3 with(((h3 | h3) | h3) | h3) | h3
    · exact absurd h3.symm hij
    · exact .inl (.inl h3)
    · exact .inl (.inr h3)
    · exact .inr (.inl ⟨by simpa [Nat.blt_eq] using h3.1,h3.2⟩)
    · unfold looseL at h3
      split at h3
      · rename_i t ht
        rw[Bool.and_eq_true] at h3
        exact .inr (.inr ⟨t,ht,by simpa [Nat.blt_eq] using h3.1,h3.2⟩)
      · cases h3
  · cases h
theorem Wt.pair {ops:Array Oper} {i j:Nat} {x y:Oper} (h:Wt ops i x) (hr:rOk ops=true) (hx:ops[i]?=some x) (hy:ops[j]?=some y) (hij:i≠j):(opClass y.op=0∨ordB (deps ops.toList) i j=true)∨(j<i∧∃t,ldTmp y.op=some t∧t∈lO ops i x∧noDst ops t j i=true)∨(i<j∧isAl y.op=true):=by
  by_cases ho:opClass y.op=0∨ordB (deps ops.toList) i j=true
  · exact .inl ho
  rcases h with h | h
  · have hp:=rOk_pair hr hx hy hij
    unfold pairB at hp
    rw[Bool.and_eq_true] at hp
    have hp2:=hp.2
    simp only[h,beq_self_eq_true,Bool.not_true,Bool.false_or,Bool.or_eq_true,beq_iff_eq,Bool.and_eq_true] at hp2
    rcases hp2 with(hp2 | hp2) | h3
    · exact absurd hp2 ho
    · exact .inr (.inr ⟨by simpa [Nat.blt_eq] using hp2.1,hp2.2⟩)
    unfold looseB at h3
    split at h3
    · rename_i t ht
      rw[Bool.and_eq_true,decide_eq_true_eq] at h3
      exact .inr (.inl ⟨h3.1,t,ht,loose_mem hx (.inl h) hy h3.1 ht (fun h=>ho (.inr h)),h3.2⟩)
    · cases h3
  · rcases callLd_pair h hx hy hij with h' | h' | ⟨t,ht,hji,hno⟩
    · exact .inl h'
    · exact .inr (.inr h')
    · exact .inr (.inl ⟨hji,t,ht,loose_mem hx (.inr ⟨callLd_cls h hx,h⟩) hy hji ht (fun h=>ho (.inr h)),hno⟩)
theorem Wt.pair' {ops:Array Oper} {i j:Nat} {x y:Oper} (h:Wt ops i x) (hr:rOk ops=true) (hx:ops[i]?=some x) (hy:ops[j]?=some y) (hij:i≠j) (hno:i<j∨ldTmp y.op=none):(opClass y.op=0∨ordB (deps ops.toList) i j=true)∨(i<j∧isAl y.op=true):=by
  rcases h.pair hr hx hy hij with h | ⟨h1,t,h2,_⟩ | h
  · exact .inl h
  · rcases hno with h3 | h3
    · omega
    · rw[h3] at h2;cases h2
  · exact .inr h
theorem Wt.cls {ops:Array Oper} {i:Nat} {o:Oper} (h:Wt ops i o) (ho:ops[i]?=some o):opClass o.op≠0:=by
  rcases h with h | h
  · omega
  · have:=callLd_cls h ho;omega
theorem Wt.noLd {ops:Array Oper} {i:Nat} {o:Oper} (h:Wt ops i o) (ho:ops[i]?=some o):ldTmp o.op=none:=by
  have hc:opClass o.op=2∨opClass o.op=3:=h.imp id (fun h=>callLd_cls h ho)
  cases hop:o.op with
  | load t x=>rw[hop] at hc;simp[opClass] at hc
  | _=>rfl
def LOb (dr:Bool) (ops:Array Oper) (i:Nat) (o:Oper) (e:Env) (H H1:AH):Prop:=
  dr=true→∀t∈lO ops i o,∀id k s,e t=.pointer (some ⟨id,k,s⟩)→id<H.n→H1.m id=H.m id
theorem LOb.cls {dr:Bool} {ops:Array Oper} {i:Nat} {o:Oper} {e:Env} {H H1:AH} (h2:opClass o.op≠2) (h3:opClass o.op≠3):LOb dr ops i o e H H1:=fun _ t ht=>by
  unfold lO at ht
  split at ht
  · exact absurd (by assumption) h2
  · exact absurd (by assumption) h3
  · cases ht
theorem drN_drOf {ops:Array Oper} {dr:Bool} {os:List Oper} (h:drN ops dr os=true):drOf ops dr os=true:=by
  unfold drN at h
  unfold drOf
  rw[Bool.and_eq_true,Bool.not_eq_true'] at h ⊢
  refine⟨h.1,?_⟩
  cases ho:callOk ops (ops.size-os.length-1) with
  | false=>rfl
  | true=>rw[callLd_of ho] at h;exact h.2
theorem LOb.call {ops:Array Oper} {dr:Bool} {os:List Oper} {o:Oper} {e:Env} {H H1:AH} (h2:opClass o.op≠2) (hx:drOf ops dr os=true→Ext H H1):LOb dr ops (ops.size-os.length-1) o e H H1:=fun hdr t ht id k s he hid=>by
  cases ho:callOk ops (ops.size-os.length-1) with
  | true=>
    unfold lO at ht
    split at ht
    · exact absurd (by assumption) h2
    · rw[callLd_of ho,callOk_loose ho] at ht;cases ht
    · cases ht
  | false=>exact(hx (by unfold drOf;rw[hdr,ho];rfl)).2 id hid
theorem evOp_dr {P:Program} {call:CallS} {d d':Bool} {o:Op} {e:Env} {H:AH} {v:Value} {H1:AH} (hd:d'=true→d=true) (h:evOp P call d o e H v H1):evOp P call d' o e H v H1:=by
  unfold evOp at h ⊢
  split at h
  · unfold evCall at h ⊢
    split at h
    · obtain⟨v0,h1,h2,h3⟩:=h
      exact⟨v0,h1,h2,fun hh=>h3 (hd hh)⟩
    · exact h
  · exact h
def evOps (P:Program) (call:CallS) (dr:Bool) (ops:Array Oper):List Oper→Env→AH→Env→AH→Prop
  | [],e,H,e',H'=>e'=e∧H'=H
  | o :: os,e,H,e',H'=>if want ops e o=true then ∃v H1,evOp P call (drN ops dr os) o.op e H v H1∧evOps P call dr ops os (put e o.dst v) H1 e' H'∧LOb dr ops (ops.size-os.length-1) o e H H1 else evOps P call dr ops os (put e o.dst undef) H e' H'
section
variable {P:Program} {w0:World} {call:CallS}
theorem evOps_nle (hcall:CallOK P call) {dr:Bool} {ops:Array Oper}:∀(os:List Oper) {e:Env} {H:AH} {e':Env} {H':AH},evOps P call dr ops os e H e' H'→H.n≤H'.n
  | [],_,_,_,_,h=>by rw[h.2];exact Nat.le_refl _
  | o :: os,e,H,e',H',h=>by
    simp only[evOps] at h
    split at h
    · obtain⟨v,H1,h1,h2,_⟩:=h
      exact Nat.le_trans (evOp_nle hcall h1) (evOps_nle hcall os h2)
    · exact evOps_nle hcall os h
theorem Free.left {ρ:Ren} {a b c:Nat} (h:Free ρ a c) (hbc:b≤c):Free ρ a b:=fun id h1 h2=>h id h1 (by omega)
theorem Free.right {ρ ρ':Ren} {H H1:AH} {w w':World} {c:Nat} (h:Free ρ H.n c) (s:Step w0 ρ H w ρ' H1 w') (hc:H1.n≤c):Free ρ' H1.n c:=fun id h1 h2=>by
  rw[s.ext id (.inr h1)]
  exact h id (by have:=s.nle;omega) h2
theorem ops_ok (hcall:CallOK P call) {ops:Array Oper} {nt:Nat} (hops:ops.all (oOk nt)=true) {Q:Exit→Act→World→Prop}:
    ∀(os:List Oper),(∀o∈os,oOk nt o=true)→∀{e:Env} {H:AH} {e':Env} {H':AH} {dr:Bool},evOps P call dr ops os e H e' H'→∀{ρ:Ren} {a:Act} {w:World},WR w0 ρ H w→Free ρ H.n H'.n→ER ρ e a nt→
      (∀ρ' a' w',Step w0 ρ H w ρ' H' w'→ER ρ' e' a' nt→a'.defers=a.defers→Q .normal a' w')→wpList P ops Q os a w
  | [],_,e,H,e',H',dr,hv,ρ,a,w,h,hf,hE,hK=>by
    obtain⟨rfl,rfl⟩:=hv
    exact hK ρ a w (Step.refl h) hE rfl
  | o :: os,hos,e,H,e',H',dr,hv,ρ,a,w,h,hf,hE,hK=>by
    have ho:=hos o (by simp)
    have ho1:okAll nt o.op=true:=by unfold oOk at ho;rw[Bool.and_eq_true] at ho;exact ho.1
    have hdef:∀c,(a.put o.dst c).defers=a.defers:=fun c=>by unfold Act.put;split<;>rfl
    simp only[wpList]
    rw[want_ok hE hops o]
    simp only[evOps] at hv
    split at hv
    · rename_i hw
      rw[if_pos hw]
      obtain⟨v,H1,h1,h2,_⟩:=hv
      have n1:=evOp_nle hcall h1
      have n2:=evOps_nle hcall os h2
      refine .inl (op_ok hcall hE h ho1 h1 (hf.left n2) (fun ρ' c w' hst hvc=>?_))
      have hle:=hst.le (hf.left n2)
      refine ops_ok hcall hops os (fun o ho=>hos o (by simp[ho])) h2 hst.wr (hf.right hst n2) (hE.put hle o.dst hvc) (fun ρ2 a2 w2 hst2 hE2 hd2=>?_)
      exact hK ρ2 a2 w2 (hst.trans hst2) hE2 (hd2.trans (hdef c))
    · rename_i hw
      rw[if_neg hw]
      exact ops_ok hcall hops os (fun o ho=>hos o (by simp[ho])) hv h hf (hE.put (fun _ _ h=>h) o.dst (.undef ρ)) (fun ρ2 a2 w2 hst2 hE2 hd2=>hK ρ2 a2 w2 hst2 hE2 (hd2.trans (hdef _)))
end
def OneStep (P:Program) (call:CallS) (ops:Array Oper) (dr:Bool) (o:Oper) (e:Env) (H:AH) (v:Value) (e1:Env) (H1:AH):Prop:=
 (if want ops e o=true then evOp P call dr o.op e H v H1 else v=undef∧H1=H)∧e1=put e o.dst v
section
variable {P:Program} {w0:World} {call:CallS} {ops:Array Oper}
def Chained (P:Program) (call:CallS) (ops:Array Oper) (os:List Oper) (e:Env) (H:AH) (e':Env) (H':AH):Prop:=
 ∃(E:Nat→Env) (Hs:Nat→AH) (V:Nat→Value),E 0=e∧Hs 0=H∧E os.length=e'∧Hs os.length=H'∧
  ∀i o,os[i]?=some o→OneStep P call ops (drN ops true (os.drop (i+1))) o (E i) (Hs i) (V i) (E (i+1)) (Hs (i+1))∧LOb true ops (ops.size-(os.drop (i+1)).length-1) o (E i) (Hs i) (Hs (i+1))
theorem Chained.cons {o:Oper} {os:List Oper} {e:Env} {H:AH} {e':Env} {H':AH} (v:Value) (H1:AH) (h1:if want ops e o=true then evOp P call (drN ops true os) o.op e H v H1 else v=undef∧H1=H) (h2:Chained P call ops os (put e o.dst v) H1 e' H') (h3:LOb true ops (ops.size-os.length-1) o e H H1):Chained P call ops (o :: os) e H e' H':=by
 obtain⟨E,Hs,V,hE,hH,hE',hH',hst⟩:=h2
 refine⟨fun i=>match i with | 0=>e | i+1=>E i,fun i=>match i with | 0=>H | i+1=>Hs i,fun i=>match i with | 0=>v | i+1=>V i,rfl,rfl,hE',hH',?_⟩
 intro i o' hi
 cases i with
 | zero=>
  simp at hi
  subst hi
  exact⟨⟨by show(if want ops e o=true then evOp P call (drN ops true os) o.op e H v (Hs 0) else v=undef∧Hs 0=H);rw[hH];exact h1,hE⟩,by show LOb true ops (ops.size-os.length-1) o e H (Hs 0);rw[hH];exact h3⟩
 | succ i=>exact hst i o' (by simpa using hi)
theorem chain_of:∀(os:List Oper) {e:Env} {H:AH} {e':Env} {H':AH},evOps P call true ops os e H e' H'→Chained P call ops os e H e' H'
 | [],e,H,e',H',h=>⟨fun _=>e,fun _=>H,fun _=>undef,rfl,rfl,h.1.symm,h.2.symm,fun i o h=>by simp at h⟩
 | o :: os,e,H,e',H',h=>by
  simp only[evOps] at h
  split at h
  ·rename_i hw
   obtain⟨v,H1,h1,h2,h3⟩:=h
   exact Chained.cons v H1 (by rw[if_pos hw];exact h1) (chain_of os h2) h3
  ·rename_i hw
   exact Chained.cons undef H (by rw[if_neg hw];exact⟨rfl,rfl⟩) (chain_of os h) (fun _ _ _ _ _ _ _ _=>rfl)
structure Chain (P:Program) (call:CallS) (ops:Array Oper) (E:Nat→Env) (Hs:Nat→AH) (V:Nat→Value):Prop where
 calls:CallOK P call
 ok:rOk ops=true
 step:∀i o,ops[i]?=some o→OneStep P call ops (drN ops true (ops.toList.drop (i+1))) o (E i) (Hs i) (V i) (E (i+1)) (Hs (i+1))
 fin:∀i,i≤ops.size→∀id,(Hs i).n≤id→(Hs i).m id=none
 lob:∀i o,ops[i]?=some o→LOb true ops i o (E i) (Hs i) (Hs (i+1))
variable {E:Nat→Env} {Hs:Nat→AH} {V:Nat→Value}
theorem Chain.get (i:Nat) (hi:i<ops.size):∃o,ops[i]?=some o:=⟨ops[i],Array.getElem?_eq_getElem hi⟩
theorem Chain.lt {i:Nat} {o:Oper} (h:ops[i]?=some o):i<ops.size:=(Array.getElem?_eq_some_iff.1 h).1
theorem Chain.ext1 (c:Chain P call ops E Hs V) {i:Nat} {o:Oper} (ho:ops[i]?=some o) (hW:¬Wt ops i o):Ext (Hs i) (Hs (i+1)):=by
 have h:=(c.step i o ho).1
 have hw:opClass o.op≠2:=fun h=>hW (.inl h)
 have hd:drN ops true (ops.toList.drop (i+1))=true:=by
  unfold drN
  have hlt:=Chain.lt ho
  rw[List.length_drop,Array.length_toList,show ops.size-(ops.size-(i+1))-1=i by omega]
  cases h1:callLd ops i with
  | false=>rfl
  | true=>exact absurd (.inr h1) hW
 rw[hd] at h
 split at h
 ·unfold evOp at h
  split at h
  ·unfold evCall at h
   split at h
   ·obtain⟨_,_,_,h⟩:=h;exact h rfl
   ·exact h.elim
  ·split at h
   ·rw[h.2];exact Ext.refl _
   ·rename_i hne _ hc
    have:opClass o.op=1∨opClass o.op=3:=by
     have hle:opClass o.op≤3:=by unfold opClass;split<;>omega
     have h0:opClass o.op≠0:=fun h=>hc h
     omega
    rcases this with h1 | h3
    ·obtain⟨_,h⟩:=h;exact hop_ext h h1
    ·exfalso
     unfold opClass at h3
     split at h3<;>first | (simp at h3;done) | skip
     rename_i f _ _ heq
     exact hne _ _ _ heq
 ·rw[h.2];exact Ext.refl _
theorem Chain.nle1 (c:Chain P call ops E Hs V) {i:Nat} (hi:i<ops.size):(Hs i).n≤(Hs (i+1)).n:=by
 obtain⟨o,ho⟩:=Chain.get i hi
 have h:=(c.step i o ho).1
 split at h
 ·exact evOp_nle c.calls h
 ·rw[h.2];exact Nat.le_refl _
theorem Chain.nle (c:Chain P call ops E Hs V) {i k:Nat} (hik:i≤k) (hk:k≤ops.size):(Hs i).n≤(Hs k).n:=by
 obtain⟨d,rfl⟩:=Nat.exists_eq_add_of_le hik
 clear hik
 induction d with
 | zero=>exact Nat.le_refl _
 | succ d ih=>exact Nat.le_trans (ih (by omega)) (c.nle1 (i:=i+d) (by omega))
theorem Chain.ext (c:Chain P call ops E Hs V) {i k:Nat} (hik:i≤k) (hk:k≤ops.size) (hw:∀j o,i≤j→j<k→ops[j]?=some o→¬Wt ops j o):Ext (Hs i) (Hs k):=by
 obtain⟨d,rfl⟩:=Nat.exists_eq_add_of_le hik
 clear hik
 induction d with
 | zero=>exact Ext.refl _
 | succ d ih=>
  obtain⟨o,ho⟩:=Chain.get (ops:=ops) (i+d) (by omega)
  exact(ih (by omega) (fun j o h1 h2=>hw j o h1 (by omega))).trans (c.ext1 ho (hw _ _ (by omega) (by omega) ho))
theorem Chain.find (c:Chain P call ops E Hs V) {i k id:Nat} (hik:i≤k) (hk:k≤ops.size) (h1:(Hs i).n≤id) (h2:id<(Hs k).n):∃j,i≤j∧j<k∧(Hs j).n≤id∧id<(Hs (j+1)).n:=by
 obtain⟨d,rfl⟩:=Nat.exists_eq_add_of_le hik
 clear hik
 induction d with
 | zero=>exact absurd h2 (by rw[Nat.add_zero];omega)
 | succ d ih=>
  by_cases h:id<(Hs (i+d)).n
  ·obtain⟨j,a,b,p,q⟩:=ih (by omega) h
   exact⟨j,a,by omega,p,q⟩
  ·exact⟨i+d,by omega,by omega,by omega,h2⟩
theorem Chain.slot (c:Chain P call ops E Hs V) {t:Nat}:∀k,k≤ops.size→(∀j o,j<k→ops[j]?=some o→o.dst=some t→E k t=V j)∧((∀j o,j<k→ops[j]?=some o→o.dst≠some t)→E k t=E 0 t)
 | 0,_=>⟨fun j o hj=>by omega,fun _=>rfl⟩
 | k+1,hk=>by
  obtain⟨ih1,ih2⟩:=Chain.slot c k (by omega)
  obtain⟨ok,hok⟩:=Chain.get (ops:=ops) k (by omega)
  have he:=(c.step k ok hok).2
  refine⟨fun j o hj ho hd=>?_,fun hno=>?_⟩
  ·rw[he]
   by_cases hjk:j=k
   ·subst hjk
    rw[hok] at ho
    cases ho
    simp[put,hd]
   ·have hp:=rOk_pair c.ok hok ho (fun e=>hjk e.symm)
    unfold pairB at hp
    rw[hd] at hp
    simp only[Bool.and_eq_true,bne_iff_ne,ne_eq] at hp
    have hne:=hp.1.1
    rw[show put (E k) ok.dst (V k) t=E k t from by
     unfold put
     cases hdk:ok.dst with
     | none=>rfl
     | some d=>
      simp only
      rw[if_neg]
      intro e
      subst e
      exact hne hdk]
    exact ih1 j o (by omega) ho hd
  ·rw[he]
   rw[show put (E k) ok.dst (V k) t=E k t from by
    unfold put
    cases hdk:ok.dst with
    | none=>rfl
    | some d=>
     simp only
     rw[if_neg]
     intro e
     subst e
     exact hno k ok (by omega) hok hdk]
   exact ih2 (fun j o hj=>hno j o (by omega))
theorem Chain.keepS (c:Chain P call ops E Hs V) {t:Nat} {i:Nat}:∀d,i+d≤ops.size→noDst ops t i (i+d)=true→E (i+d) t=E i t
 | 0,_,_=>rfl
 | d+1,hd,hno=>by
  unfold noDst at hno
  rw[show i+(d+1)-i=d+1 by omega] at hno
  have hall:=List.all_eq_true.1 hno
  obtain⟨o,ho⟩:=Chain.get (ops:=ops) (i+d) (by omega)
  have ih:=Chain.keepS c (t:=t) (i:=i) d (by omega) (by
   unfold noDst
   rw[show i+d-i=d by omega]
   refine List.all_eq_true.2 fun x hx=>hall x ?_
   exact(List.take_subset_take_left (ops.toList.drop i) (by omega)) hx)
  have hmem:o∈(ops.toList.drop i).take (d+1):=by
   have:((ops.toList.drop i).take (d+1))[d]?=some o:=by
    rw[List.getElem?_take,if_pos (by omega),List.getElem?_drop,Array.getElem?_toList];exact ho
   exact List.mem_of_getElem? this
  have hne:=hall o hmem
  have he:=(c.step (i+d) o ho).2
  rw[show i+(d+1)=i+d+1 by omega,he,← ih]
  unfold put
  cases hdk:o.dst with
  | none=>rfl
  | some x=>
   simp only
   rw[if_neg]
   intro e
   subst e
   rw[hdk] at hne
   simp at hne
end
end Go.Proofs.Ytlapbbffoapleaa.Am
/- A region that draws its order does, in whatever order, what it does in the text's order: the whole. For every program. No condition beyond each theorem's own. -/
set_option linter.unusedSimpArgs false
set_option linter.unusedVariables false
namespace Go.Proofs.Ytlapbbffoapleaa.Am
open Go Go.RowKit
def Dn (listed:Array Bool) (i:Nat):Prop:=listed.getD i false=true
section
variable {P:Program} {w0 wi:World} {call:CallS} {ops:Array Oper} {E:Nat→Env} {Hs:Nat→AH} {V:Nat→Value} {nt:Nat} {ρ0:Ren} {df:List Deferred}
open Classical in
noncomputable def pickE (p:Nat→Prop) (f:Nat→Option Blk):Option Blk:=if h:∃j,p j then f (Classical.choose h) else none
noncomputable def HE (N:Nat) (Hs:Nat→AH) (D:Nat→Prop) (m:Nat):AH:=
 ⟨(Hs N).n,fun id=>if id<(Hs m).n then(Hs m).m id else pickE (fun j=>m≤j∧j<N∧D j∧(Hs j).n≤id∧id<(Hs (j+1)).n) (fun j=>(Hs (j+1)).m id)⟩
theorem HE_low {N m id:Nat} {D:Nat→Prop} (h:id<(Hs m).n):(HE N Hs D m).m id=(Hs m).m id:=by unfold HE;simp only;rw[if_pos h]
theorem HE_none {N m id:Nat} {D:Nat→Prop} (h:(Hs m).n≤id) (hn:¬∃j,m≤j∧j<N∧D j∧(Hs j).n≤id∧id<(Hs (j+1)).n):(HE N Hs D m).m id=none:=by
 unfold HE;simp only;rw[if_neg (by omega)];unfold pickE;rw[dif_neg hn]
theorem Chain.uniq (c:Chain P call ops E Hs V) {i j id:Nat} (hi:i<ops.size) (hj:j<ops.size) (h1:(Hs i).n≤id) (h2:id<(Hs (i+1)).n) (h3:(Hs j).n≤id) (h4:id<(Hs (j+1)).n):i=j:=by
 rcases Nat.lt_trichotomy i j with h | h | h
 ·have:=c.nle (i:=i+1) (k:=j) (by omega) (by omega);omega
 ·exact h
 ·have:=c.nle (i:=j+1) (k:=i) (by omega) (by omega);omega
theorem HE_at (c:Chain P call ops E Hs V) {m j id:Nat} {D:Nat→Prop} (hm:m≤j) (hj:j<ops.size) (hD:D j) (h1:(Hs j).n≤id) (h2:id<(Hs (j+1)).n):(HE ops.size Hs D m).m id=(Hs (j+1)).m id:=by
 have h:∃j,m≤j∧j<ops.size∧D j∧(Hs j).n≤id∧id<(Hs (j+1)).n:=⟨j,hm,hj,hD,h1,h2⟩
 have hs:=Classical.choose_spec h
 have e:Classical.choose h=j:=c.uniq hs.2.1 hj hs.2.2.2.1 hs.2.2.2.2 h1 h2
 have:=c.nle (i:=m) (k:=j) hm (by omega)
 unfold HE;simp only
 rw[if_neg (by omega)];unfold pickE;rw[dif_pos h,e]
theorem HE_more {N m i id:Nat} {D D':Nat→Prop} (hD:∀j,D' j↔j=i∨D j) (hi:¬(m≤i∧(Hs i).n≤id∧id<(Hs (i+1)).n)):(HE N Hs D' m).m id=(HE N Hs D m).m id:=by
 unfold HE
 simp only
 split
 ·rfl
 ·have e:(fun j=>m≤j∧j<N∧D' j∧(Hs j).n≤id∧id<(Hs (j+1)).n)=(fun j=>m≤j∧j<N∧D j∧(Hs j).n≤id∧id<(Hs (j+1)).n):=by
   funext j
   refine propext ⟨fun⟨a,b,d,f,g⟩=>⟨a,b,?_,f,g⟩,fun⟨a,b,d,f,g⟩=>⟨a,b,(hD j).2 (.inr d),f,g⟩⟩
   rcases(hD j).1 d with e | e
   ·subst e;exact absurd ⟨a,f,g⟩ hi
   ·exact e
  simp only[e]
theorem HE_fin {N m:Nat} {D:Nat→Prop} (hn:∀j,j≤N→(Hs j).n≤(Hs N).n) (hm:m≤N):∀id,(HE N Hs D m).n≤id→(HE N Hs D m).m id=none:=fun id h=>by
 have h:(Hs N).n≤id:=h
 refine HE_none (by have:=hn m hm;omega) ?_
 rintro ⟨j,_,h2,_,_,h5⟩
 have:=hn (j+1) (by omega)
 omega
theorem WR.he (c:Chain P call ops E Hs V) {m:Nat} {D:Nat→Prop} {ρ:Ren} {w:World} (hm:m≤ops.size) (h:WR w0 ρ (HE ops.size Hs D m) w):WR w0 ρ (Hs m) w:=
 h.less (c.nle hm (Nat.le_refl _)) (fun id hid=>HE_low hid) (c.fin m hm)
theorem Chain.extHE (c:Chain P call ops E Hs V) {i m:Nat} {D:Nat→Prop} (hm:m≤ops.size) (h:Ext (Hs i) (Hs m)):Ext (Hs i) (HE ops.size Hs D m):=
 ⟨Nat.le_trans h.1 (c.nle hm (Nat.le_refl _)),fun id hid=>by rw[HE_low (by have:=h.1;omega)];exact h.2 id hid⟩
structure Inv (P:Program) (w0 wi:World) (ops:Array Oper) (E:Nat→Env) (Hs:Nat→AH) (V:Nat→Value) (nt:Nat) (ρ0:Ren) (df:List Deferred) (listed:Array Bool) (a:Act) (w:World) (ρ:Ren) (ED:Env) (m:Nat):Prop where
 lsz:listed.size=ops.size
 closed:Closed ops (Dn listed)
 env:ER ρ ED a nt
 done:∀j o t,Dn listed j→ops[j]?=some o→o.dst=some t→ED t=V j
 rest:∀t,(∀j o,Dn listed j→ops[j]?=some o→o.dst≠some t)→ED t=E 0 t
 df_:a.defers=df
 m_le:m≤ops.size
 wr:WR w0 ρ (HE ops.size Hs (Dn listed) m) w
 before:∀j o,j<m→ops[j]?=some o→Wt ops j o→Dn listed j
 at_m:∀o,ops[m]?=some o→Wt ops m o∧¬Dn listed m
 free:∀i,i<ops.size→¬Dn listed i→Free ρ (Hs i).n (Hs (i+1)).n
 gs:GS ρ0 (Hs 0) wi (Hs ops.size).n ρ (HE ops.size Hs (Dn listed) m) w
theorem Dn.set {listed:Array Bool} {i j:Nat} (hi:i<listed.size):Dn (listed.setIfInBounds i true) j↔j=i∨Dn listed j:=by
 unfold Dn
 by_cases h:i=j
 ·subst h;simp[hi]
 ·simp only[Array.getD_eq_getD_getElem?,Array.getElem?_setIfInBounds_ne h]
  constructor
  ·intro hh;exact .inr hh
  ·rintro (hh | hh)
   ·exact absurd hh.symm h
   ·exact hh
theorem Inv.agree (c:Chain P call ops E Hs V) {listed:Array Bool} {a:Act} {w:World} {ρ:Ren} {ED:Env} {m:Nat} (inv:Inv P w0 wi ops E Hs V nt ρ0 df listed a w ρ ED m) {i:Nat} {o:Oper} (ho:ops[i]?=some o) (hn:¬Dn listed i)
  (hr:∀e∈o.after,Region.binds .any e=true→Dn listed e.on) {t:Nat} (ht:t∈o.looksAt ops):ED t=E i t:=by
 have hi:=Chain.lt ho
 have hsl:=Chain.slot c (t:=t) i (Nat.le_of_lt hi)
 have wait:∀j x,ops[j]?=some x→j≠i→x.dst=some t→(j<i∧Dn listed j)∨(i<j∧¬Dn listed j):=by
  intro j x hx hji hd
  have hp:=rOk_pair c.ok ho hx (Ne.symm hji)
  unfold pairB at hp
  rw[hd] at hp
  simp only[Bool.and_eq_true,Bool.or_eq_true,Bool.not_eq_true'] at hp
  have hc:(o.looksAt ops).contains t=true:=by simpa using ht
  rcases hp.1.2 with h | h
  ·rw[hc] at h;cases h
  ·rcases ordB_reach (Ne.symm hji) h with⟨hlt,hre⟩ | ⟨hlt,hre⟩
   ·exact .inl ⟨hlt,inv.closed.reach_ready ho hr hre⟩
   ·exact .inr ⟨hlt,fun hD=>hn (inv.closed.reach hre hD)⟩
 by_cases hex:∃j x,ops[j]?=some x∧j<i∧x.dst=some t
 ·obtain⟨j,x,hx,hji,hd⟩:=hex
  rw[hsl.1 j x hji hx hd]
  rcases wait j x hx (by omega) hd with⟨_,hD⟩ | ⟨h,_⟩
  ·exact inv.done j x t hD hx hd
  ·omega
 ·rw[hsl.2 (fun j x hj hx hd=>hex ⟨j,x,hx,hj,hd⟩)]
  refine inv.rest t (fun j x hD hx hd=>?_)
  by_cases hji:j=i
  ·subst hji;exact hn hD
  ·rcases wait j x hx hji hd with⟨h,_⟩ | ⟨_,h⟩
   ·exact hex ⟨j,x,hx,h,hd⟩
   ·exact h hD
theorem nxt (ops:Array Oper) (D:Nat→Prop) (k:Nat) (hk:k≤ops.size):∃m,k≤m∧m≤ops.size∧(∀j o,k≤j→j<m→ops[j]?=some o→Wt ops j o→D j)∧∀o,ops[m]?=some o→Wt ops m o∧¬D m:=by
 obtain⟨d,hd⟩:∃d,ops.size-k=d:=⟨_,rfl⟩
 induction d generalizing k with
 | zero=>exact⟨ops.size,hk,Nat.le_refl _,fun j o h1 h2=>by omega,fun o ho=>by simp at ho⟩
 | succ d ih=>
  obtain⟨o,ho⟩:=Chain.get (ops:=ops) k (by omega)
  by_cases h:Wt ops k o∧¬D k
  ·exact⟨k,Nat.le_refl _,hk,fun j o h1 h2=>by omega,fun o' ho'=>by rw[ho] at ho';cases ho';exact h⟩
  ·obtain⟨m,h1,h2,h3,h4⟩:=ih (k+1) (by omega) (by omega)
   refine⟨m,by omega,h2,fun j o' hj1 hj2 hj3 hj4=>?_,h4⟩
   by_cases hjk:j=k
   ·subst hjk
    rw[ho] at hj3
    cases hj3
    exact Classical.byContradiction fun hn=>h ⟨hj4,hn⟩
   ·exact h3 j o' (by omega) hj2 hj3 hj4
theorem Inv.next (c:Chain P call ops E Hs V) {listed:Array Bool} {a:Act} {w:World} {ρ:Ren} {ED:Env} {m:Nat} (inv:Inv P w0 wi ops E Hs V nt ρ0 df listed a w ρ ED m) {i:Nat} {o:Oper} (ho:ops[i]?=some o) (hn:¬Dn listed i)
  (hr:∀e∈o.after,Region.binds .any e=true→Dn listed e.on) {ρ':Ren} {a':Act} {w':World} {m':Nat} (hE:ER ρ' (put ED o.dst (V i)) a' nt) (hd:a'.defers=df) (hm:m'≤ops.size) (hwr:WR w0 ρ' (HE ops.size Hs (Dn (listed.setIfInBounds i true)) m') w')
  (hgs:GS ρ0 (Hs 0) wi (Hs ops.size).n ρ' (HE ops.size Hs (Dn (listed.setIfInBounds i true)) m') w') (hout:∀id,id<(Hs i).n∨(Hs (i+1)).n≤id→ρ' id=ρ id)
  (hbef:∀j o,j<m'→ops[j]?=some o→Wt ops j o→j=i∨Dn listed j) (hat:∀o,ops[m']?=some o→Wt ops m' o∧¬(m'=i∨Dn listed m')):
  Inv P w0 wi ops E Hs V nt ρ0 df (listed.setIfInBounds i true) a' w' ρ' (put ED o.dst (V i)) m':=by
 have hi:=Chain.lt ho
 have hil:i<listed.size:=by rw[inv.lsz];exact hi
 refine⟨by simp[inv.lsz],?_,hE,?_,?_,hd,hm,hwr,fun j x h1 h2 h3=>(Dn.set hil).2 (hbef j x h1 h2 h3),fun x hx=>⟨(hat x hx).1,fun h=>(hat x hx).2 ((Dn.set hil).1 h)⟩,?_,hgs⟩
 ·intro j x hj hx e he hb
  rw[Dn.set hil] at hj ⊢
  rcases hj with rfl | hj
  ·rw[ho] at hx;cases hx
   exact .inr (hr e he hb)
  ·exact .inr (inv.closed j x hj hx e he hb)
 ·intro j x t hj hx hdt
  rw[Dn.set hil] at hj
  by_cases hji:j=i
  ·subst hji
   rw[ho] at hx;cases hx
   simp[put,hdt]
  ·have hp:=rOk_pair c.ok ho hx (Ne.symm hji)
   unfold pairB at hp
   rw[hdt] at hp
   simp only[Bool.and_eq_true,bne_iff_ne,ne_eq] at hp
   have hne:=hp.1.1
   have e1:put ED o.dst (V i) t=ED t:=by
    unfold put
    cases hdk:o.dst with
    | none=>rfl
    | some d=>
     simp only
     rw[if_neg]
     intro e;subst e
     exact hne hdk
   rw[e1]
   exact inv.done j x t (hj.resolve_left hji) hx hdt
 ·intro t ht
  have e1:put ED o.dst (V i) t=ED t:=by
   unfold put
   cases hdk:o.dst with
   | none=>rfl
   | some d=>
    simp only
    rw[if_neg]
    intro e;subst e
    exact ht i o ((Dn.set hil).2 (.inl rfl)) ho hdk
  rw[e1]
  exact inv.rest t (fun j x hj=>ht j x ((Dn.set hil).2 (.inr hj)))
 ·intro j hj hjn
  rw[Dn.set hil] at hjn
  have hji:j≠i:=fun e=>hjn (.inl e)
  intro id h1 h2
  rw[hout id ?_]
  ·exact inv.free j hj (fun h=>hjn (.inr h)) id h1 h2
  ·rcases Nat.lt_or_ge j i with h | h
   ·have:=c.nle (i:=j+1) (k:=i) (by omega) (by omega)
    exact .inl (by omega)
   ·have:=c.nle (i:=i+1) (k:=j) (by omega) (by omega)
    exact .inr (by omega)
theorem Chain.same (c:Chain P call ops E Hs V) {i:Nat} {o:Oper} (ho:ops[i]?=some o) (hc:opClass o.op=0∨want ops (E i) o=false):Hs (i+1)=Hs i:=by
 have h:=(c.step i o ho).1
 rcases hc with hc | hc
 ·split at h
  ·unfold evOp at h
   split at h
   ·rename_i hop;simp[hop,opClass] at hc
   ·rw[hc] at h
    exact h.2
  ·exact h.2
 ·rw[if_neg (by simp[hc])] at h
  exact h.2
theorem hop_load {tag:Option Nat} {t:TypeId} {x:Operand} {e:Env} {H:AH}:hop P tag (.load t x) e H=match ev e x with
  | .pointer (some ⟨id,k,_⟩)=>match aload P H t id k with
   | some v=>some (v,H)
   | none=>none
  | _=>none:=rfl
theorem aload_same {H H':AH} {t:TypeId} {id k:Nat} (h:H'.m id=H.m id):aload P H' t id k=aload P H t id k:=by unfold aload;rw[h]
theorem aload_none {H:AH} {t:TypeId} {id k:Nat} (h:H.m id=none):aload P H t id k=none:=by unfold aload;rw[h]
theorem Inv.go (c:Chain P call ops E Hs V) (hops:ops.all (oOk nt)=true) {Q:Exit→Act→World→Prop} {listed:Array Bool} {a:Act} {w:World} {ρ:Ren} {ED:Env} {m:Nat} (inv:Inv P w0 wi ops E Hs V nt ρ0 df listed a w ρ ED m) {i:Nat} {o:Oper} (ho:ops[i]?=some o) (hn:¬Dn listed i)
  (hr:∀e∈o.after,Region.binds .any e=true→Dn listed e.on) {K:Act→World→Prop} (hK:∀a' w' ρ' ED' m',Inv P w0 wi ops E Hs V nt ρ0 df (listed.setIfInBounds i true) a' w' ρ' ED' m'→K a' w'):wpOp P ops Q i K a w:=by
 have hi:=Chain.lt ho
 have hag:=fun {t}=>Inv.agree c inv ho hn hr (t:=t)
 have hoo:oOk nt o=true:=Array.all_eq_true_iff_forall_mem.1 hops o (Array.mem_of_getElem? ho)
 have ho1:okAll nt o.op=true:=by unfold oOk at hoo;rw[Bool.and_eq_true] at hoo;exact hoo.1
 have hdef:∀x,(a.put o.dst x).defers=df:=fun x=>by
  have:(a.put o.dst x).defers=a.defers:=by unfold Act.put;split<;>rfl
  rw[this];exact inv.df_
 have hw:want ops ED o=want ops (E i) o:=by
  unfold want
  cases hg:o.guard with
  | none=>rfl
  | some jb=>
   obtain⟨j,b⟩:=jb
   simp only
   unfold yld
   cases hd:(ops[j]?).bind (·.dst) with
   | none=>rfl
   | some d=>
    have:ED d=E i d:=hag (by unfold Oper.looksAt;rw[hg];simp[hd])
    simp only[this]
 have hcong:∀x∈o.op.operands,ev (E i) x=ev ED x:=fun x hx=>by
  cases x with
  | tmp t=>exact(hag (by unfold Oper.looksAt;rw[List.mem_append];exact .inl (List.mem_filterMap.2 ⟨.tmp t,by simpa using hx,rfl⟩))).symm
  | _=>rfl
 have hst:=(c.step i o ho).1
 unfold wpOp
 simp only[ho]
 rw[want_ok inv.env hops o,hw]
 have n0:=c.nle (i:=0) (k:=m) (Nat.zero_le _) inv.m_le
 have nN:=c.nle (i:=m) (k:=ops.size) inv.m_le (Nat.le_refl _)
 have hil:i<listed.size:=by rw[inv.lsz];exact hi
 have hDs:∀j,Dn (listed.setIfInBounds i true) j↔j=i∨Dn listed j:=fun j=>Dn.set hil
 have hHf:∀(D:Nat→Prop) m',m'≤ops.size→∀id,(HE ops.size Hs D m').n≤id→(HE ops.size Hs D m').m id=none:=fun D m' hm'=>HE_fin (fun j hj=>c.nle hj (Nat.le_refl _)) hm'
  -- what follows when nothing that is told of memory has changed
 have still:i≠m→(Hs (i+1)=Hs i)→∀ρ' x w',Step w0 ρ (HE ops.size Hs (Dn listed) m) w ρ' (HE ops.size Hs (Dn listed) m) w'→VR ρ' (V i) x→K (a.put o.dst x) w':=by
  intro him hsame ρ' x w' s hv
  have hle:Le ρ ρ':=s.le (fun id h1 h2=>by omega)
  have hii:∀id b l,(HE ops.size Hs (Dn listed) m).n≤id→ρ' id=some l→(HE ops.size Hs (Dn listed) m).m id=some b→(HE ops.size Hs (Dn listed) m).m id=some b:=fun _ _ _ _ _ h=>h
  have eH:HE ops.size Hs (Dn (listed.setIfInBounds i true)) m=HE ops.size Hs (Dn listed) m:=by
   have:(HE ops.size Hs (Dn (listed.setIfInBounds i true)) m).m=(HE ops.size Hs (Dn listed) m).m:=funext fun id=>HE_more hDs (fun h=>by rw[hsame] at h;omega)
   unfold HE at this ⊢
   rw[AH.mk.injEq]
   exact⟨rfl,this⟩
  have g1:=inv.gs.step s (Ext.refl _) (Ext.refl _) (c.nle (Nat.zero_le _) (Nat.le_refl _)) (Nat.le_refl _) hii
  refine hK _ _ ρ' _ m (Inv.next c inv ho hn hr (inv.env.put hle o.dst hv) (hdef x) inv.m_le (by rw[eH];exact s.wr) (by rw[eH];exact g1) (fun id hid=>?_) (fun j x h1 h2 h3=>.inr (inv.before j x h1 h2 h3)) (fun x hx=>⟨(inv.at_m x hx).1,fun h=>?_⟩))
  ·by_cases h:id<(Hs ops.size).n
   ·exact s.ext id (.inl h)
   ·exact s.ext id (.inr (by show(Hs ops.size).n≤id;omega))
  ·rcases h with h | h
   ·exact him h.symm
   ·exact(inv.at_m x hx).2 h
  -- what follows when a writer is done
 have write:i=m→Wt ops i o→∀ρ' x w',Step w0 ρ (Hs m) w ρ' (Hs (m+1)) w'→VR ρ' (V i) x→K (a.put o.dst x) w':=by
  intro him hc2 ρ' x w' s hv
  subst him
  have hle:Le ρ ρ':=s.le (inv.free i hi hn)
  obtain⟨m',h1,h2,h3,h4⟩:=nxt ops (fun j=>j=i∨Dn listed j) (i+1) (by omega)
  have nowr:∀j y,i+1≤j→j<m'→ops[j]?=some y→¬Wt ops j y:=by
   intro j y hj1 hj2 hy hcy
   rcases hcy.pair' c.ok hy ho (by omega) (.inr (hc2.noLd ho)) with(h | h) | h
   ·exact hc2.cls ho h
   ·rcases ordB_reach (by omega) h with⟨_,hre⟩ | ⟨hlt,_⟩
    ·rcases h3 j y hj1 hj2 hy hcy with h | h
     ·omega
     ·exact hn (inv.closed.reach hre h)
    ·omega
   ·omega
  have e2:Ext (Hs (i+1)) (Hs m'):=c.ext h1 h2 nowr
  have hii:∀id b l,(Hs (i+1)).n≤id→ρ' id=some l→(HE ops.size Hs (Dn (listed.setIfInBounds i true)) m').m id=some b→(HE ops.size Hs (Dn listed) i).m id=some b:=by
   intro id b l hid hl hb
   by_cases hlt:id<(Hs m').n
   ·rw[HE_low hlt] at hb
    obtain⟨j,hj1,hj2,hj3,hj4⟩:=c.find h1 h2 hid hlt
    obtain⟨y,hy⟩:=Chain.get (ops:=ops) j (by omega)
    by_cases hD:Dn listed j
    ·rw[HE_at c (by omega) (by omega) hD hj3 hj4]
     have e3:Ext (Hs (j+1)) (Hs m'):=c.ext (by omega) h2 (fun j' y' a b=>nowr j' y' (by omega) b)
     rw[← e3.2 id hj4]
     exact hb
    ·exfalso
     have:=inv.free j (by omega) hD id hj3 hj4
     rw[s.ext id (.inr hid),this] at hl
     cases hl
   ·by_cases hex:∃j,m'≤j∧j<ops.size∧Dn (listed.setIfInBounds i true) j∧(Hs j).n≤id∧id<(Hs (j+1)).n
    ·obtain⟨j,hj1,hj2,hj3,hj4,hj5⟩:=hex
     rw[HE_at c hj1 hj2 hj3 hj4 hj5] at hb
     have hD:Dn listed j:=((hDs j).1 hj3).resolve_left (by omega)
     rw[HE_at c (by omega) hj2 hD hj4 hj5]
     exact hb
    ·rw[HE_none (by omega) hex] at hb;cases hb
  have nN2:=c.nle (i:=i+1) (k:=ops.size) (by omega) (Nat.le_refl _)
  have eA:Ext (Hs i) (HE ops.size Hs (Dn listed) i):=c.extHE (by omega) (Ext.refl _)
  have eB:Ext (Hs (i+1)) (HE ops.size Hs (Dn (listed.setIfInBounds i true)) m'):=c.extHE h2 e2
  refine hK _ _ ρ' _ m' (Inv.next c inv ho hn hr (inv.env.put hle o.dst hv) (hdef x) h2 (inv.wr.lift s hle eA eB (hHf _ _ h2) hii) (inv.gs.step s eA eB n0 nN2 hii) (fun id hid=>s.ext id hid) (fun j y hj1 hj2 hj3=>?_) h4)
  by_cases hji:j<i
  ·exact .inr (inv.before j y hji hj2 hj3)
  ·by_cases hjj:j=i
   ·exact .inl hjj
   ·exact h3 j y (by omega) hj1 hj2 hj3
 by_cases hwant:want ops (E i) o=true
 ·rw[if_pos hwant]
  rw[if_pos hwant] at hst
  refine .inl ?_
  by_cases hc0:opClass o.op=0
  ·by_cases him:i=m
   ·exfalso
    subst him
    exact(inv.at_m o ho).1.cls ho hc0
   ·have hv0:evOp P call (drN ops true (ops.toList.drop (i+1))) o.op ED (HE ops.size Hs (Dn listed) m) (V i) (HE ops.size Hs (Dn listed) m):=by
     have h:=evOp_congr hcong hst
     unfold evOp at h ⊢
     split at h
     ·rename_i hop;simp[hop,opClass] at hc0
     ·rw[hc0] at h
      simp only[hc0]
      exact⟨h.1,trivial⟩
    exact op_ok c.calls inv.env inv.wr ho1 hv0 (fun id h1 h2=>by omega) (still him (c.same ho (.inl hc0)))
  ·by_cases him:i=m
   ·have hc2:Wt ops i o:=by subst him;exact(inv.at_m o ho).1
    have hv0:=evOp_congr hcong hst
    have hwr:=inv.wr.he c inv.m_le
    rw[← him] at hwr
    refine op_ok c.calls inv.env hwr ho1 hv0 (inv.free i hi hn) (fun ρ' x w' s hv=>?_)
    rw[him] at s
    exact write him hc2 ρ' x w' s hv
   ·by_cases hlt:i<m
    case neg=>
          -- a new variable, ahead of a call
     obtain⟨y,hy⟩:=Chain.get (ops:=ops) m (by omega)
     obtain⟨hc2,hnm⟩:=inv.at_m y hy
     have hal:isAl o.op=true:=by
      rcases hc2.pair' c.ok hy ho (Ne.symm him) (.inl (by omega)) with(h' | h') | h'
      ·exact absurd h' hc0
      ·rcases ordB_reach (Ne.symm him) h' with⟨hlt,_⟩ | ⟨_,hre⟩
       ·omega
       ·exact absurd (inv.closed.reach_ready ho hr hre) hnm
      ·exact h'.2
     have hstD:=evOp_congr hcong hst
     obtain⟨b,Vf,hV,hHb,hall⟩:∃(b:Blk) (Vf:Nat→Value),V i=Vf (Hs i).n∧Hs (i+1)=(Hs i).push b∧∀G:AH,evOp P call false o.op ED G (Vf G.n) (G.push b):=by
      unfold isAl at hal
      split at hal
      ·rename_i t hop
       rw[hop] at hstD ⊢
       unfold evOp at hstD ⊢
       simp only[opClass] at hstD ⊢
       obtain⟨tag,hh⟩:=hstD
       have hh:aalloc P (Hs i) tag t=some (V i,Hs (i+1)):=hh
       have key:∃b:Blk,V i=.pointer (some ⟨(Hs i).n,0,tag⟩)∧Hs (i+1)=(Hs i).push b∧∀G:AH,aalloc P G tag t=some (.pointer (some ⟨G.n,0,tag⟩),G.push b):=by
        unfold aalloc at hh ⊢
        split at hh
        ·split at hh
         ·split at hh
          ·simp only[Option.some.injEq,Prod.mk.injEq] at hh
           obtain⟨q1,q2⟩:=hh
           exact⟨_,q1.symm,q2.symm,fun G=>by rw[if_pos (by assumption)]⟩
          ·cases hh
         ·cases hh
        ·cases hh
       obtain⟨b,q1,q2,q3⟩:=key
       exact⟨b,fun n=>.pointer (some ⟨n,0,tag⟩),q1,q2,fun G=>⟨tag,q3 G⟩⟩
      ·rename_i t n parts hop
       rw[hop] at hstD ⊢
       unfold evOp at hstD ⊢
       simp only[opClass] at hstD ⊢
       obtain⟨tag,hh⟩:=hstD
       obtain⟨ps,eps⟩:∃ps,(parts.toList.map fun p=>(p.1,ev ED p.2))=ps:=⟨_,rfl⟩
       have hh:alit P (Hs i) t n (parts.toList.map fun p=>(p.1,ev ED p.2))=some (V i,Hs (i+1)):=hh
       rw[eps] at hh
       have key:∃(b:Blk) (es:Nat),V i=.slice (some ⟨(Hs i).n,0,some es⟩) n n∧Hs (i+1)=(Hs i).push b∧∀G:AH,alit P G t n ps=some (.slice (some ⟨G.n,0,some es⟩) n n,G.push b):=by
        unfold alit at hh ⊢
        split at hh
        ·split at hh
         ·split at hh
          ·split at hh
           ·split at hh
            ·split at hh
             ·simp only[Option.some.injEq,Prod.mk.injEq] at hh
              obtain⟨q1,q2⟩:=hh
              refine⟨_,_,q1.symm,q2.symm,fun G=>?_⟩
              rw[if_pos (by assumption)]
              try simp only[]
              rw[if_pos (by assumption)]
             ·cases hh
            ·cases hh
           ·cases hh
          ·cases hh
         ·cases hh
        ·cases hh
       obtain⟨b,es,q1,q2,q3⟩:=key
       refine⟨b,fun m=>.slice (some ⟨m,0,some es⟩) n n,q1,q2,fun G=>⟨tag,?_⟩⟩
       show alit P G t n (parts.toList.map fun p=>(p.1,ev ED p.2))=_
       rw[eps]
       exact q3 G
      ·cases hal
     obtain⟨G,eG⟩:∃G:AH,G=⟨(Hs i).n,fun id=>if id<(Hs i).n then(HE ops.size Hs (Dn listed) m).m id else none⟩:=⟨_,rfl⟩
     have Gn:G.n=(Hs i).n:=by rw[eG]
     have Gm:∀id,id<(Hs i).n→G.m id=(HE ops.size Hs (Dn listed) m).m id:=fun id h=>by rw[eG];simp only;rw[if_pos h]
     have nN3:=c.nle (i:=i+1) (k:=ops.size) (by omega) (Nat.le_refl _)
     have n03:=c.nle (i:=0) (k:=i) (by omega) (by omega)
     have ni:(Hs (i+1)).n=(Hs i).n+1:=by rw[hHb];rfl
     have hwG:WR w0 ρ G w:=inv.wr.less (by rw[Gn];show(Hs i).n≤(Hs ops.size).n;omega) (fun id hid=>(Gm id (by omega)).symm) (fun id hid=>by rw[eG];simp only;rw[if_neg (by omega)])
     have hv0:evOp P call false o.op ED G (V i) (G.push b):=by
      have h9:=hall G
      rw[Gn,← hV] at h9
      exact h9
     have Pn:(G.push b).n=(Hs (i+1)).n:=by show G.n+1=_;omega
     refine op_ok c.calls inv.env hwG ho1 hv0 (by rw[Pn,Gn];exact inv.free i hi hn) (fun ρ' x w' s hv=>?_)
     have hle:Le ρ ρ':=s.le (by rw[Pn,Gn];exact inv.free i hi hn)
     have eA:Ext G (HE ops.size Hs (Dn listed) m):=⟨by rw[Gn];show(Hs i).n≤(Hs ops.size).n;omega,fun id hid=>(Gm id (by omega)).symm⟩
     have eB:Ext (G.push b) (HE ops.size Hs (Dn (listed.setIfInBounds i true)) m):=by
      refine⟨by rw[Pn];show _≤(Hs ops.size).n;omega,fun id hid=>?_⟩
      rw[Pn] at hid
      show _=if id=G.n then some b else G.m id
      by_cases e:id=G.n
      ·rw[if_pos e,HE_at c (by omega) hi ((hDs i).2 (.inl rfl)) (by omega) hid,hHb]
       show(if id=(Hs i).n then some b else(Hs i).m id)=some b
       rw[if_pos (by omega)]
      ·rw[if_neg e,Gm id (by omega)]
       exact HE_more hDs (fun h=>by omega)
     have hii:∀id b' l,(G.push b).n≤id→ρ' id=some l→(HE ops.size Hs (Dn (listed.setIfInBounds i true)) m).m id=some b'→(HE ops.size Hs (Dn listed) m).m id=some b':=fun id b' l hid _ hb'=>by
      rw[Pn] at hid
      rw[← HE_more hDs (fun h=>by omega)]
      exact hb'
     refine hK _ _ ρ' _ m (Inv.next c inv ho hn hr (inv.env.put hle o.dst hv) (hdef x) inv.m_le (inv.wr.lift s hle eA eB (hHf _ _ inv.m_le) hii) (inv.gs.step s eA eB (by omega) (by omega) hii) (fun id hid=>s.ext id (by rw[Pn,Gn];exact hid)) (fun j x h1 h2 h3=>.inr (inv.before j x h1 h2 h3)) (fun x hx=>⟨(inv.at_m x hx).1,fun h=>?_⟩))
     rcases h with h | h
     ·exact him h.symm
     ·exact(inv.at_m x hx).2 h
    have hc2:¬Wt ops i o:=fun h=>hn (inv.before i o hlt ho h)
    by_cases hld:ldTmp o.op=none
    case neg=>
     obtain⟨t,ht⟩:∃t,ldTmp o.op=some t:=by
      cases h:ldTmp o.op with
      | none=>exact absurd h hld
      | some t=>exact⟨t,rfl⟩
     obtain⟨ty,hop⟩:∃ty,o.op=.load ty (.tmp t):=by
      unfold ldTmp at ht
      split at ht
      ·rename_i ty t' hop
       cases ht
       exact⟨ty,hop⟩
      ·cases ht
     rw[hop] at hst
     unfold evOp at hst
     simp only[opClass] at hst
     obtain⟨tag,hh⟩:=hst
     simp only[hop_load,ev] at hh
     split at hh
     ·rename_i id kk sp hE
      split at hh
      ·rename_i u hu
       simp only[Option.some.injEq,Prod.mk.injEq] at hh
       obtain⟨hV,hHs⟩:=hh
              -- the block that is read stands there as it stood
       have hidn:id<(Hs i).n:=by
        rcases Nat.lt_or_ge id (Hs i).n with h | h
        ·exact h
        ·exfalso
         rw[aload_none (c.fin i (by omega) id h)] at hu
         cases hu
       have same:∀d,i+d≤m→(Hs (i+d)).m id=(Hs i).m id:=by
        intro d
        induction d with
        | zero=>intro _;rfl
        | succ d ih=>
         intro hdm
         obtain⟨y,hy⟩:=Chain.get (ops:=ops) (i+d) (by have:=inv.m_le;omega)
         have ih:=ih (by omega)
         rw[show i+(d+1)=i+d+1 by omega]
         by_cases hcy:Wt ops (i+d) y
         ·have hne:i+d≠i:=fun e=>by
           have e0:d=0:=by omega
           subst e0
           rw[Nat.add_zero,ho] at hy
           cases hy
           exact hc2 hcy
          have hD:=inv.before (i+d) y (by omega) hy hcy
          rcases hcy.pair c.ok hy ho hne with h' | ⟨_,t',h2,h3,h4⟩ | h'
          ·rcases h' with h' | h'
           ·exact absurd h' hc0
           ·rcases ordB_reach hne h' with⟨_,hre⟩ | ⟨hlt',_⟩
            ·exact absurd (inv.closed.reach hre hD) hn
            ·omega
          ·rw[ht] at h2
           cases h2
           have hk:=c.keepS (t:=t) (i:=i) d (by have:=inv.m_le;omega) h4
           rw[c.lob (i+d) y hy rfl t h3 id kk sp (by rw[hk];exact hE) (by have:=c.nle (i:=i) (k:=i+d) (by omega) (by have:=inv.m_le;omega);omega),ih]
          ·omega
         ·have hx:=c.ext1 hy hcy
          have hn2:=c.nle (i:=i) (k:=i+d) (by omega) (by have:=inv.m_le;omega)
          rw[hx.2 id (by omega),ih]
       have hsm:=same (m-i) (by omega)
       rw[show i+(m-i)=m by omega] at hsm
       have hEd:ED t=E i t:=hag (by unfold Oper.looksAt;rw[List.mem_append,hop];exact .inl (List.mem_filterMap.2 ⟨.tmp t,by simp[Op.operands],rfl⟩))
       have hv0:evOp P call false o.op ED (HE ops.size Hs (Dn listed) m) (V i) (HE ops.size Hs (Dn listed) m):=by
        rw[hop]
        unfold evOp
        simp only[opClass]
        refine⟨none,?_⟩
        simp only[hop_load,ev]
        rw[hEd,hE]
        simp only
        have nlt:=c.nle (i:=i) (k:=m) (by omega) inv.m_le
        rw[aload_same ((HE_low (by omega)).trans hsm),hu,hV]
       exact op_ok c.calls inv.env inv.wr ho1 hv0 (fun id h1 h2=>by omega) (still him hHs.symm)
      ·cases hh
     ·cases hh
    have nowr:∀j y,i≤j→j<m→ops[j]?=some y→¬Wt ops j y:=by
     intro j y hj1 hj2 hy hcy
     by_cases hji:j=i
     ·subst hji
      rw[ho] at hy;cases hy
      exact hc2 hcy
     ·have hD:=inv.before j y hj2 hy hcy
      rcases hcy.pair' c.ok hy ho hji (.inr hld) with(h' | h') | h'
      ·exact hc0 h'
      ·rcases ordB_reach hji h' with⟨_,hre⟩ | ⟨hlt',_⟩
       ·exact hn (inv.closed.reach hre hD)
       ·omega
      ·omega
    have e1:Ext (Hs i) (HE ops.size Hs (Dn listed) m):=c.extHE inv.m_le (c.ext (by omega) inv.m_le nowr)
    have e2:Ext (Hs (i+1)) (HE ops.size Hs (Dn (listed.setIfInBounds i true)) m):=c.extHE inv.m_le (c.ext hlt inv.m_le (fun j y h1 h2=>nowr j y (by omega) h2))
    have hwr:WR w0 ρ (Hs i) w:=inv.wr.less e1.1 (fun id hid=>e1.2 id hid) (c.fin i (by omega))
    refine op_ok c.calls inv.env hwr ho1 (evOp_congr hcong hst) (inv.free i hi hn) (fun ρ' x w' s hv=>?_)
    have hle:Le ρ ρ':=s.le (inv.free i hi hn)
    have hii:∀id b l,(Hs (i+1)).n≤id→ρ' id=some l→(HE ops.size Hs (Dn (listed.setIfInBounds i true)) m).m id=some b→(HE ops.size Hs (Dn listed) m).m id=some b:=fun id b l _ _ h=>by
     rw[← HE_more hDs (fun h=>by omega)]
     exact h
    have n0':=c.nle (i:=0) (k:=i) (Nat.zero_le _) (by omega)
    have nN':=c.nle (i:=i+1) (k:=ops.size) (by omega) (Nat.le_refl _)
    refine hK _ _ ρ' _ m (Inv.next c inv ho hn hr (inv.env.put hle o.dst hv) (hdef x) inv.m_le (inv.wr.lift s hle e1 e2 (hHf _ _ inv.m_le) hii) (inv.gs.step s e1 e2 n0' nN' hii) (fun id hid=>s.ext id hid) (fun j x h1 h2 h3=>.inr (inv.before j x h1 h2 h3)) (fun x hx=>⟨(inv.at_m x hx).1,fun h=>?_⟩))
    rcases h with h | h
    ·exact him h.symm
    ·exact(inv.at_m x hx).2 h
 ·rw[if_neg hwant]
  rw[if_neg hwant] at hst
  have hwf:want ops (E i) o=false:=by simpa using hwant
  have hvu:VR ρ (V i) undef:=by rw[hst.1];exact .undef ρ
  by_cases him:i=m
  ·have hc2:Wt ops i o:=by subst him;exact(inv.at_m o ho).1
   have hs:Hs (m+1)=Hs m:=by rw[← him];exact hst.2
   refine write him hc2 ρ undef w ?_ hvu
   rw[hs]
   exact Step.refl (inv.wr.he c inv.m_le)
  ·exact still him hst.2 ρ undef w (Step.refl inv.wr) hvu
end
end Go.Proofs.Ytlapbbffoapleaa.Am

namespace Go.Proofs.Ytlapbbffoapleaa.Am
open Go Go.RowKit
section
variable {P:Program} {w0 wi:World} {call:CallS} {ops:Array Oper} {E:Nat→Env} {Hs:Nat→AH} {V:Nat→Value} {nt:Nat} {ρ0:Ren} {df:List Deferred}
def left (ops:Array Oper) (listed:Array Bool):Nat:=((List.range ops.size).filter fun i=>!listed.getD i false).length
theorem filter_lt {p q:Nat→Bool}:∀(l:List Nat),(∀i∈l,q i=true→p i=true)→∀i∈l,p i=true→q i=false→(l.filter q).length<(l.filter p).length
 | [],_,i,hi,_,_=>by simp at hi
 | x :: l,h,i,hi,hp,hq=>by
  have hle:∀(l:List Nat),(∀i∈l,q i=true→p i=true)→(l.filter q).length≤(l.filter p).length:=by
   intro l
   induction l with
   | nil=>intro _;simp
   | cons y l ih=>
    intro h
    have:=ih (fun i hi=>h i (by simp[hi]))
    simp only[List.filter_cons]
    by_cases hy:q y=true
    ·rw[if_pos hy,if_pos (h y (by simp) hy)];simp;exact this
    ·rw[if_neg hy];split<;>simp<;>omega
  simp only[List.filter_cons]
  rcases List.mem_cons.1 hi with rfl | hi'
  ·rw[if_neg (by simp[hq]),if_pos hp]
   have:=hle l (fun i hi=>h i (by simp[hi]))
   simp;omega
  ·have ih:=filter_lt l (fun i hi=>h i (by simp[hi])) i hi' hp hq
   by_cases hy:q x=true
   ·rw[if_pos hy,if_pos (h x (by simp) hy)];simp;exact ih
   ·rw[if_neg hy];split<;>simp<;>omega
theorem left_lt {listed:Array Bool} (hl:listed.size=ops.size) {i:Nat} (hi:i<ops.size) (hn:¬Dn listed i):left ops (listed.setIfInBounds i true)<left ops listed:=by
 unfold left
 refine filter_lt _ (fun j hj hq=>?_) i (by simpa using hi) ?_ ?_
 ·simp only[Bool.not_eq_true'] at hq ⊢
  cases h:listed.getD j false with
  | false=>rfl
  | true=>have:=(Dn.set (by omega)).2 (.inr h:j=i∨Dn listed j);unfold Dn at this;rw[hq] at this;cases this
 ·unfold Dn at hn;simpa using hn
 ·have:=(Dn.set (i:=i) (by omega)).2 (.inl rfl:i=i∨Dn listed i);unfold Dn at this;simp[this]
theorem ready_all {listed:Array Bool} (hl:listed.size=ops.size) (hr:rOk ops=true) (h:Region.ready .any ops listed=[]):∀i,i<ops.size→Dn listed i:=by
 intro i
 induction i using Nat.strongRecOn with
 | _ i ih=>
  intro hi
  refine Classical.byContradiction fun hn=>?_
  obtain⟨o,ho⟩:=Chain.get (ops:=ops) i hi
  have:i∈Region.ready .any ops listed:=by
   rw[mem_ready]
   refine⟨?_,o,ho,fun e he hb=>?_⟩
   ·unfold Dn at hn
    have hil:i<listed.size:=by omega
    simpa [hil] using hn
   ·exact ih e.on (rOk_edge hr ho he hb) (by have:=rOk_edge hr ho he hb;omega)
  rw[h] at this
  cases this
theorem draw_any (c:Chain P call ops E Hs V) (hops:ops.all (oOk nt)=true) {Q:Exit→Act→World→Prop}
  (hK:∀ρ a w,Step w0 ρ0 (Hs 0) wi ρ (Hs ops.size) w→ER ρ (E ops.size) a nt→a.defers=df→Q .normal a w):
  ∀fuel listed a w ρ ED m,Inv P w0 wi ops E Hs V nt ρ0 df listed a w ρ ED m→left ops listed≤fuel→wpAny P .any ops Q fuel listed a w:=by
 have fin:∀{listed a w ρ ED m},Inv P w0 wi ops E Hs V nt ρ0 df listed a w ρ ED m→Region.ready .any ops listed=[]→Q .normal a w:=by
  intro listed a w ρ ED m inv hr
  have hall:=ready_all inv.lsz c.ok hr
  have hm:m=ops.size:=by
   rcases Nat.lt_or_ge m ops.size with h | h
   ·obtain⟨o,ho⟩:=Chain.get (ops:=ops) m h
    exact absurd (hall m h) (inv.at_m o ho).2
   ·have:=inv.m_le;omega
  subst hm
  have eH:HE ops.size Hs (Dn listed) ops.size=Hs ops.size:=by
   have:(HE ops.size Hs (Dn listed) ops.size).m=(Hs ops.size).m:=funext fun id=>by
    rcases Nat.lt_or_ge id (Hs ops.size).n with h | h
    ·exact HE_low h
    ·rw[c.fin _ (Nat.le_refl _) id h]
     exact HE_none h (fun⟨j,h1,h2,_⟩=>by omega)
   obtain⟨q,hq⟩:∃q,Hs ops.size=q:=⟨_,rfl⟩
   obtain⟨n,mm⟩:=q
   rw[hq] at this ⊢
   unfold HE at this ⊢
   rw[AH.mk.injEq]
   exact⟨by rw[hq],this⟩
  have inv_wr:=inv.wr
  have inv_gs:=inv.gs
  rw[eH] at inv_wr inv_gs
  refine hK ρ a w ⟨inv_wr,c.nle (Nat.zero_le _) (Nat.le_refl _),inv_gs.size,inv_gs.ext,inv_gs.keep,inv_gs.res,fun id b l h1 _ hb hr hl=>inv_gs.new id b l h1 hb hr hl⟩ ?_ inv.df_
  refine⟨inv.env.size,fun t ht=>?_⟩
  have e:ED t=E ops.size t:=by
   have hs:=Chain.slot c (t:=t) ops.size (Nat.le_refl _)
   by_cases hex:∃(j:Nat) (x:Oper),ops[j]?=some x∧x.dst=some t
   ·obtain⟨j,x,hx,hd⟩:=hex
    have hj:=Chain.lt hx
    rw[hs.1 j x hj hx hd]
    exact inv.done j x t (hall j hj) hx hd
   ·rw[hs.2 (fun j x _ hx hd=>hex ⟨j,x,hx,hd⟩)]
    exact inv.rest t (fun j x _ hx hd=>hex ⟨j,x,hx,hd⟩)
  rw[← e]
  exact inv.env.at_ t ht
 intro fuel
 induction fuel with
 | zero=>
  intro listed a w ρ ED m inv hf
  have hr:Region.ready .any ops listed=[]:=by
   refine List.eq_nil_iff_forall_not_mem.2 fun i hi=>?_
   rw[mem_ready] at hi
   obtain⟨h0,o,ho,_⟩:=hi
   have hi:=Chain.lt ho
   have hn:¬Dn listed i:=by
    unfold Dn
    have hil:i<listed.size:=by rw[inv.lsz];exact hi
    simpa [hil] using h0
   have:=left_lt inv.lsz hi hn
   omega
  exact⟨hr,fin inv hr⟩
 | succ fuel ih=>
  intro listed a w ρ ED m inv hf
  refine⟨fun hr=>fin inv hr,fun i hi=>?_⟩
  rw[mem_ready] at hi
  obtain⟨h0,o,ho,hdeps⟩:=hi
  have hi:=Chain.lt ho
  have hn:¬Dn listed i:=by
   unfold Dn
   have hil:i<listed.size:=by rw[inv.lsz];exact hi
   simpa [hil] using h0
  refine Inv.go c hops inv ho hn hdeps (fun a' w' ρ' ED' m' inv'=>?_)
  have:=left_lt inv.lsz hi hn
  exact ih _ a' w' ρ' ED' m' inv' (by omega)
theorem draw_all (hcall:CallOK P call) (hr:rOk ops=true) (hops:ops.all (oOk nt)=true) {Q:Exit→Act→World→Prop} {e:Env} {H:AH} {e':Env} {H':AH} (hv:evOps P call true ops ops.toList e H e' H')
  {ρ:Ren} {a:Act} {w:World} (h:WR w0 ρ H w) (hf:Free ρ H.n H'.n) (hE:ER ρ e a nt)
  (hK:∀ρ' a' w',Step w0 ρ H w ρ' H' w'→ER ρ' e' a' nt→a'.defers=a.defers→Q .normal a' w'):wpAny P .any ops Q ops.size (Array.replicate ops.size false) a {w with drawn:=w.drawn+1}:=by
 obtain⟨E,Hs,V,hE0,hH0,hEn,hHn,hst⟩:=chain_of ops.toList hv
 have hlen:ops.toList.length=ops.size:=by simp
 rw[hlen] at hEn hHn
 have hst':∀i o,ops[i]?=some o→OneStep P call ops (drN ops true (ops.toList.drop (i+1))) o (E i) (Hs i) (V i) (E (i+1)) (Hs (i+1)):=fun i o ho=>(hst i o (by rw[Array.getElem?_toList];exact ho)).1
 have hlb:∀i o,ops[i]?=some o→LOb true ops i o (E i) (Hs i) (Hs (i+1)):=fun i o ho=>by
  have h1:=(hst i o (by rw[Array.getElem?_toList];exact ho)).2
  have h2:=Chain.lt ho
  rw[show ops.size-(ops.toList.drop (i+1)).length-1=i by rw[List.length_drop];simp;omega] at h1
  exact h1
 have hfin:∀i,i≤ops.size→∀id,(Hs i).n≤id→(Hs i).m id=none:=by
  intro i
  induction i with
  | zero=>intro _;rw[hH0];exact h.fin
  | succ i ih=>
   intro hi
   obtain⟨o,ho⟩:=Chain.get (ops:=ops) i (by omega)
   have h1:=(hst' i o ho).1
   split at h1
   ·exact evOp_fin hcall h1 (ih (by omega))
   ·rw[h1.2];exact ih (by omega)
 have c:Chain P call ops E Hs V:=⟨hcall,hr,hst',hfin,hlb⟩
 subst hE0
 subst hH0
 subst hEn
 subst hHn
 have hd0:∀i,¬Dn (Array.replicate ops.size false) i:=fun i h=>by
  unfold Dn at h
  simp only[Array.getD_eq_getD_getElem?,Array.getElem?_replicate] at h
  split at h<;>simp at h
 obtain⟨m,h1,h2,h3,h4⟩:=nxt ops (Dn (Array.replicate ops.size false)) 0 (Nat.zero_le _)
 have nowr:∀j o,0≤j→j<m→ops[j]?=some o→¬Wt ops j o:=fun j o hj1 hj2 ho hc=>hd0 j (h3 j o hj1 hj2 ho hc)
 have e2:Ext (Hs 0) (Hs m):=c.ext (Nat.zero_le _) h2 nowr
 have hdead:∀id b l,(Hs 0).n≤id→ρ id=some l→(HE ops.size Hs (Dn (Array.replicate ops.size false)) m).m id=some b→(Hs 0).m id=some b:=by
  intro id b l hid hl hb
  exfalso
  have hlt:id<(Hs m).n:=by
   rcases Nat.lt_or_ge id (Hs m).n with h | h
   ·exact h
   ·rw[HE_none h (fun⟨j,_,_,h3,_⟩=>hd0 j h3)] at hb;cases hb
  have:=hf id hid (by have:=c.nle h2 (Nat.le_refl _);omega)
  rw[this] at hl
  cases hl
 have hw1:WR w0 ρ (Hs 0) {w with drawn:=w.drawn+1}:=h.drawn _
 have s0:Step w0 ρ (Hs 0) w ρ (Hs 0) {w with drawn:=w.drawn+1}:=⟨hw1,Nat.le_refl _,Nat.le_refl _,fun _ _=>rfl,fun _ _ _=>rfl,fun _ b _ h=>⟨b,h,rfl⟩,fun _ _ _ h1 h2=>by omega⟩
 have g0:GS ρ (Hs 0) w (Hs ops.size).n ρ (Hs 0) w:=⟨fun _ _=>rfl,Nat.le_refl _,fun _ _ _=>rfl,fun _ b _ h=>⟨b,h,rfl⟩,fun id b l h1 hb _ _=>by rw[c.fin 0 (Nat.zero_le _) id h1] at hb;cases hb⟩
 refine draw_any (w0:=w0) (wi:=w) (ρ0:=ρ) (df:=a.defers) c hops hK ops.size _ a _ ρ (E 0) m ⟨by simp,fun i o hi=>absurd hi (hd0 i),hE,fun j o t hj=>absurd hj (hd0 j),fun t _=>rfl,rfl,h2,h.lift s0 (fun _ _ h=>h) (Ext.refl _) (c.extHE h2 e2) (HE_fin (fun j hj=>c.nle hj (Nat.le_refl _)) h2) hdead,fun j o hj ho hc=>h3 j o (Nat.zero_le _) hj ho hc,h4,?_,g0.step s0 (Ext.refl _) (c.extHE h2 e2) (Nat.le_refl _) (c.nle (Nat.zero_le _) (Nat.le_refl _)) hdead⟩ ?_
 ·intro i hi _ id h1 h2
  exact hf id (Nat.le_trans (c.nle (Nat.zero_le _) (by omega)) h1) (by have:=c.nle (i:=i+1) (k:=ops.size) (by omega) (Nat.le_refl _);omega)
 ·unfold left
  have:=List.length_filter_le (fun i=>!(Array.replicate ops.size false).getD i false) (List.range ops.size)
  simpa using this
theorem draw_ok (hcall:CallOK P call) (hm:P.follows .mixedOrders=true) (hr:rOk ops=true) (hops:ops.all (oOk nt)=true) {id:Nat} {Q:Exit→Act→World→Prop} {e:Env} {H:AH} {e':Env} {H':AH} (hv:evOps P call true ops ops.toList e H e' H')
  {ρ:Ren} {a:Act} {w:World} (h:WR w0 ρ H w) (hf:Free ρ H.n H'.n) (hE:ER ρ e a nt)
  (hK:∀ρ' a' w',Step w0 ρ H w ρ' H' w'→ER ρ' e' a' nt→a'.defers=a.defers→Q .normal a' w'):(Code.region id ops true).wp P Q a w:=
 wp_region_any hm (draw_all hcall hr hops hv h hf hE hK)
end
def reOp (q:Nat→Nat) (o:Oper):Oper:=⟨o.dst,o.op,o.type,o.pos,(o.after.toList.map fun e=>⟨q e.on,e.ground⟩).toArray,o.guard.map fun g=>(q g.1,g.2)⟩
structure Shuf (ops ops':Array Oper):Prop where
 size:ops'.size=ops.size
 ex:∃p q:Nat→Nat,(∀i,i<ops.size→p i<ops.size∧q (p i)=i)∧(∀i,i<ops.size→q i<ops.size∧p (q i)=i)∧∀(i:Nat) (o:Oper),ops[i]?=some o→ops'[q i]?=some (reOp q o)
 inside:∀(i:Nat) (o:Oper),ops[i]?=some o→(∀e∈o.after,e.on<ops.size)∧∀g∈o.guard,g.1<ops.size
section
variable {P:Program} {w0:World} {call:CallS} {ops ops':Array Oper}
theorem wpOp_shuf {Q:Exit→Act→World→Prop} {q:Nat→Nat} (hat:∀(i:Nat) (o:Oper),ops[i]?=some o→ops'[q i]?=some (reOp q o)) {i:Nat} {o:Oper} (ho:ops[i]?=some o) (hin:∀g∈o.guard,g.1<ops.size) {K K':Act→World→Prop} (hK:∀a w,K' a w→K a w) {a:Act} {w:World} (h:wpOp P ops' Q (q i) K' a w):wpOp P ops Q i K a w:=by
 unfold wpOp at h ⊢
 rw[hat i o ho] at h
 rw[ho]
 simp only at h ⊢
 have hw:Region.wanted (reOp q o) (yielded ops' a.tmps)=Region.wanted o (yielded ops a.tmps):=by
  unfold Region.wanted reOp
  cases hg:o.guard with
  | none=>rfl
  | some g=>
   obtain⟨j,b⟩:=g
   have hj:j<ops.size:=hin (j,b) (by rw[hg];rfl)
   simp only[Option.map_some]
   have e:yielded ops' a.tmps (q j)=yielded ops a.tmps j:=by
    have h1:=hat j ops[j] (Array.getElem?_eq_getElem hj)
    unfold yielded
    rw[h1,Array.getElem?_eq_getElem hj]
    rfl
   rw[e]
 rw[hw] at h
 split
 ·rename_i hwt
  rw[if_pos hwt] at h
  rcases h with h | h
  ·exact .inl (Oper.wp_mono hK h)
  ·exact .inr h
 ·rename_i hwt
  rw[if_neg hwt] at h
  exact hK _ _ h
theorem wpAny_shuf (hs:Shuf ops ops') {Q:Exit→Act→World→Prop} {p q:Nat→Nat} (hp:∀i,i<ops.size→p i<ops.size∧q (p i)=i) (hq:∀i,i<ops.size→q i<ops.size∧p (q i)=i) (hat:∀(i:Nat) (o:Oper),ops[i]?=some o→ops'[q i]?=some (reOp q o)):
  ∀(fuel:Nat) {listed listed':Array Bool} {a:Act} {w:World},listed.size=ops.size→listed'.size=ops.size→(∀i,i<ops.size→listed'.getD (q i) false=listed.getD i false)→wpAny P .any ops' Q fuel listed' a w→wpAny P .any ops Q fuel listed a w:=by
 have gd:∀{l:Array Bool} {i:Nat},i<l.size→l.getD i true=l.getD i false:=fun {l i} h=>by
  simp only[Array.getD_eq_getD_getElem?,Array.getElem?_eq_getElem h,Option.getD_some]
 have rd:∀{listed listed':Array Bool},listed.size=ops.size→listed'.size=ops.size→(∀i,i<ops.size→listed'.getD (q i) false=listed.getD i false)→∀i,i<ops.size→(i∈Region.ready .any ops listed↔q i∈Region.ready .any ops' listed'):=by
  intro listed listed' h1 h2 h3 i hi
  rw[mem_ready,mem_ready,gd (by omega),gd (by have:=(hq i hi).1;omega),h3 i hi]
  have ho:ops[i]?=some ops[i]:=Array.getElem?_eq_getElem hi
  have hin:=(hs.inside i _ ho).1
  constructor
  ·rintro ⟨k1,o,k2,k3⟩
   rw[ho] at k2
   cases k2
   refine⟨k1,_,hat i _ ho,fun e he hb=>?_⟩
   obtain⟨e0,he0,rfl⟩:=List.mem_map.1 (List.mem_toArray.1 (show e∈((ops[i]).after.toList.map (fun e=>(⟨q e.on,e.ground⟩:Edge))).toArray from he))
   have he0:=Array.mem_toList_iff.1 he0
   show listed'.getD (q e0.on) false=true
   rw[h3 _ (hin e0 he0)]
   exact k3 e0 he0 hb
  ·rintro ⟨k1,o,k2,k3⟩
   rw[hat i _ ho] at k2
   cases k2
   refine⟨k1,_,ho,fun e he hb=>?_⟩
   have:=k3 ⟨q e.on,e.ground⟩ (List.mem_toArray.2 (List.mem_map.2 ⟨e,Array.mem_toList_iff.2 he,rfl⟩)) hb
   rw[← h3 _ (hin e he)]
   exact this
 have rn:∀{listed listed':Array Bool},listed.size=ops.size→listed'.size=ops.size→(∀i,i<ops.size→listed'.getD (q i) false=listed.getD i false)→Region.ready .any ops listed=[]→Region.ready .any ops' listed'=[]:=by
  intro listed listed' h1 h2 h3 h
  refine List.eq_nil_iff_forall_not_mem.2 fun j hj=>?_
  have hj2:j<ops.size:=by
   rw[mem_ready] at hj
   obtain⟨_,o,ho,_⟩:=hj
   have:=(Array.getElem?_eq_some_iff.1 ho).1
   have:=hs.size
   omega
  have hpj:=hp j hj2
  have:=(rd h1 h2 h3 (p j) hpj.1).2 (by rw[hpj.2];exact hj)
  rw[h] at this
  cases this
 intro fuel
 induction fuel with
 | zero=>
  intro listed listed' a w h1 h2 h3 h
  refine⟨?_,h.2⟩
  refine List.eq_nil_iff_forall_not_mem.2 fun i hi=>?_
  have hi2:i<ops.size:=by
   rw[mem_ready] at hi
   obtain⟨_,o,ho,_⟩:=hi
   exact(Array.getElem?_eq_some_iff.1 ho).1
  have:=(rd h1 h2 h3 i hi2).1 hi
  rw[h.1] at this
  cases this
 | succ fuel ih=>
  intro listed listed' a w h1 h2 h3 h
  refine⟨fun hr=>h.1 (rn h1 h2 h3 hr),fun i hi=>?_⟩
  have hi2:i<ops.size:=by
   rw[mem_ready] at hi
   obtain⟨_,o,ho,_⟩:=hi
   exact(Array.getElem?_eq_some_iff.1 ho).1
  have ho:ops[i]?=some ops[i]:=Array.getElem?_eq_getElem hi2
  refine wpOp_shuf hat ho (hs.inside i _ ho).2 (fun a w hh=>ih (by simp[h1]) (by simp[h2]) (fun k hk=>?_) hh) (h.2 (q i) ((rd h1 h2 h3 i hi2).1 hi))
  have hqk:=hq k hk
  have hqi:=hq i hi2
  by_cases e:k=i
  ·subst e
   simp[Array.getD_eq_getD_getElem?,h1,h2,hk,hqk.1]
  ·have e2:q i≠q k:=fun hh=>e (by rw[← hqk.2,← hh,hqi.2])
   have h4:=h3 k hk
   simp only[Array.getD_eq_getD_getElem?] at h4 ⊢
   rw[Array.getElem?_setIfInBounds_ne e2,Array.getElem?_setIfInBounds_ne (fun hh=>e hh.symm)]
   exact h4
theorem draw_shuf (hs:Shuf ops ops') (hcall:CallOK P call) (hm:P.follows .mixedOrders=true) (hr:rOk ops'=true) {nt:Nat} (hops:ops.all (oOk nt)=true) {id:Nat} {Q:Exit→Act→World→Prop} {e:Env} {H:AH} {e':Env} {H':AH} (hv:evOps P call true ops' ops'.toList e H e' H')
  {ρ:Ren} {a:Act} {w:World} (h:WR w0 ρ H w) (hf:Free ρ H.n H'.n) (hE:ER ρ e a nt)
  (hK:∀ρ' a' w',Step w0 ρ H w ρ' H' w'→ER ρ' e' a' nt→a'.defers=a.defers→Q .normal a' w'):(Code.region id ops true).wp P Q a w:=by
 obtain⟨p,q,hp,hq,hat⟩:=hs.ex
 have hops':ops'.all (oOk nt)=true:=by
  refine Array.all_eq_true_iff_forall_mem.2 fun o ho=>?_
  obtain⟨j,hj,rfl⟩:=Array.mem_iff_getElem.1 ho
  have hj2:j<ops.size:=by rw[← hs.size];exact hj
  have hpj:=hp j hj2
  obtain⟨o1,ho1⟩:∃o1,ops[p j]?=some o1:=⟨_,Array.getElem?_eq_getElem hpj.1⟩
  have h1:=hat (p j) o1 ho1
  rw[hpj.2,Array.getElem?_eq_getElem hj] at h1
  rw[Option.some.inj h1]
  have hm1:o1∈ops:=Array.mem_of_getElem? ho1
  exact Array.all_eq_true_iff_forall_mem.1 hops o1 hm1
 have h1:=draw_all (w0:=w0) hcall hr hops' hv h hf hE hK
 rw[hs.size] at h1
 refine wp_region_any hm (wpAny_shuf hs hp hq hat ops.size (by simp) (by simp) (fun i hi=>?_) h1)
 have:=(hq i hi).1
 simp[Array.getD_eq_getD_getElem?,hi,this]
theorem Shuf.trans {o1 o2 o3:Array Oper} (h:Shuf o1 o2) (k:Shuf o2 o3):Shuf o1 o3:=by
 obtain⟨p,q,h1,h2,h3⟩:=h.ex
 obtain⟨p',q',k1,k2,k3⟩:=k.ex
 have hz:=h.size
 rw[hz] at k1 k2
 refine⟨k.size.trans h.size,⟨fun i=>p (p' i),fun i=>q' (q i),fun i hi=>?_,fun i hi=>?_,fun i o ho=>?_⟩,h.inside⟩
 ·have a1:=k1 i hi
  have a2:=h1 _ a1.1
  exact⟨a2.1,by show q' (q (p (p' i)))=i;rw[a2.2,a1.2]⟩
 ·have a1:=h2 i hi
  have a2:=k2 _ a1.1
  exact⟨a2.1,by show p (p' (q' (q i)))=i;rw[a2.2,a1.2]⟩
 ·have:=k3 _ _ (h3 i o ho)
  rw[this]
  congr 1
  unfold reOp
  simp only[Oper.mk.injEq,true_and]
  refine⟨by simp[List.map_map],?_⟩
  cases o.guard<;>rfl
end
inductive AX where
 | normal
 | exit (id:Nat)
 | ret
 deriving DecidableEq
def AX.ex:AX→Exit
 | .normal=>.normal
 | .exit id=>.exit id
 | .ret=>.ret
abbrev CodeR:=Env→AH→AX→Env→AH→Prop
def evL (body:CodeR):Nat→CodeR
 | 0,_,_,_,_,_=>False
 | k+1,e,H,x,e',H'=>∃x1 e1 H1,body e H x1 e1 H1∧if x1=.normal then evL body k e1 H1 x e' H' else x=x1∧e'=e1∧H'=H1
def evC (P:Program) (call:CallS) (n:Nat):Code→CodeR
 | .skip,e,H,x,e',H'=>x=.normal∧e'=e∧H'=H
 | .label _,e,H,x,e',H'=>x=.normal∧e'=e∧H'=H
 | .region _ ops dr,e,H,x,e',H'=>x=.normal∧∃ops',(ops=ops'∨(dr=true∧Shuf ops ops'∧rOk ops'=true))∧evOps P call dr ops' ops'.toList e H e' H'
 | .seq a b,e,H,x,e',H'=>∃x1 e1 H1,evC P call n a e H x1 e1 H1∧if x1=.normal then evC P call n b e1 H1 x e' H' else x=x1∧e'=e1∧H'=H1
 | .cond c a b,e,H,x,e',H'=>∃t,ev e c=.bool t∧if t=true then evC P call n a e H x e' H' else evC P call n b e H x e' H'
 | .block id c,e,H,x,e',H'=>∃x1,evC P call n c e H x1 e' H'∧x=if x1=.exit id then .normal else x1
 | .loop c,e,H,x,e',H'=>evL (evC P call n c) n e H x e' H'
 | .exit id,e,H,x,e',H'=>x=.exit id∧e'=e∧H'=H
 | .ret,e,H,x,e',H'=>x=.ret∧e'=e∧H'=H
 | _,_,_,_,_,_=>False
def codeOk (nt:Nat):Code→Bool
 | .region _ ops dr=>ops.all (oOk nt)&&(!dr||rOk ops)
 | .seq a b=>codeOk nt a&&codeOk nt b
 | .cond c a b=>opOk nt c&&codeOk nt a&&codeOk nt b
 | .block _ c=>codeOk nt c
 | .loop c=>codeOk nt c
 | _=>true
def codeOkS (nt:Nat):Code→Bool
 | .region _ ops dr=>ops.all (oOk nt)&&(!dr||rOkS ops)
 | .seq a b=>codeOkS nt a&&codeOkS nt b
 | .cond c a b=>opOk nt c&&codeOkS nt a&&codeOkS nt b
 | .block _ c=>codeOkS nt c
 | .loop c=>codeOkS nt c
 | _=>true
def resOk (nt:Nat):ResultVar→Bool
 | .tmp t=>decide (t<nt)
 | .cell a _=>decide (a<nt)
def fnOk (fn:Func):Bool:=
 !(fn.name== "runtime.NumGoroutine")&&(match fn.body with | some c=>codeOk fn.ntmps c | none=>false)&&fn.results.toList.all (resOk fn.ntmps)
def fnOkS (fn:Func):Bool:=
 !(fn.name== "runtime.NumGoroutine")&&(match fn.body with | some c=>codeOkS fn.ntmps c | none=>false)&&fn.results.toList.all (resOk fn.ntmps)
theorem codeOkS_ok {nt:Nat}:∀{c:Code},codeOkS nt c=true→codeOk nt c=true:=by
 intro c
 induction c with
 | region id ops dr=>
  intro h
  simp only[codeOkS,codeOk,Bool.and_eq_true,Bool.or_eq_true] at h ⊢
  exact⟨h.1,h.2.imp (fun h=>h) rOkS_rOk⟩
 | seq a b iha ihb=>intro h;simp only[codeOkS,codeOk,Bool.and_eq_true] at h ⊢;exact⟨iha h.1,ihb h.2⟩
 | cond c a b iha ihb=>intro h;simp only[codeOkS,codeOk,Bool.and_eq_true] at h ⊢;exact⟨⟨h.1.1,iha h.1.2⟩,ihb h.2⟩
 | block id c ih=>intro h;simp only[codeOkS,codeOk] at h ⊢;exact ih h
 | loop c ih=>intro h;simp only[codeOkS,codeOk] at h ⊢;exact ih h
 | _=>intro h;rfl
theorem fnOkS_ok {fn:Func} (h:fnOkS fn=true):fnOk fn=true:=by
 unfold fnOkS at h
 unfold fnOk
 rw[Bool.and_eq_true,Bool.and_eq_true] at h ⊢
 refine⟨⟨h.1.1,?_⟩,h.2⟩
 have h2:=h.1.2
 split at h2
 ·rename_i c hc;exact codeOkS_ok h2
 ·cases h2
def ares (P:Program) (e:Env) (H:AH):List ResultVar→Option (List Value)
 | []=>some []
 | .tmp t :: l=>match ares P e H l with
  | some vs=>some (e t :: vs)
  | none=>none
 | .cell a t :: l=>match e a with
  | .pointer (some ⟨id,k,sp⟩)=>match aload P H t id k with
   | some v=>match ares P e H l with
    | some vs=>some (v :: vs)
    | none=>none
   | none=>none
  | _=>none
def aout:List Value→Value
 | [v]=>v
 | vs=>.tuple vs.toArray
def env0 (args:Array Value):Env:=fun t=>args.getD t undef
def evF (P:Program):Nat→CallS
 | 0,_,_,_,_,_=>False
 | n+1,f,args,H,v,H'=>∃fn c x e' vs,P.funcs[f]?=some fn∧fn.body=some c∧fnOk fn=true∧args.size≤fn.ntmps∧evC P (evF P n) n c (env0 args) H x e' H'∧(x=.normal∨x=.ret)∧ares P e' H' fn.results.toList=some vs∧v=aout vs
section
variable {P:Program} {w0:World} {call:CallS} {nt:Nat}
theorem evOps_fin (hcall:CallOK P call) {dr:Bool} {ops:Array Oper}:∀(os:List Oper) {e:Env} {H:AH} {e':Env} {H':AH},evOps P call dr ops os e H e' H'→Fin' H→Fin' H'
 | [],_,_,_,_,h,hf=>by rw[h.2];exact hf
 | o :: os,e,H,e',H',h,hf=>by
  simp only[evOps] at h
  split at h
  ·obtain⟨v,H1,h1,h2,_⟩:=h
   exact evOps_fin hcall os h2 (evOp_fin hcall h1 hf)
  ·exact evOps_fin hcall os h hf
theorem evL_nle {body:CodeR} (hb:∀e H x e' H',body e H x e' H'→H.n≤H'.n):∀k {e H x e' H'},evL body k e H x e' H'→H.n≤H'.n
 | 0,_,_,_,_,_,h=>h.elim
 | k+1,e,H,x,e',H',h=>by
  obtain⟨x1,e1,H1,h1,h2⟩:=h
  have n1:=hb _ _ _ _ _ h1
  split at h2
  ·exact Nat.le_trans n1 (evL_nle hb k h2)
  ·rw[h2.2.2];exact n1
theorem evL_fin {body:CodeR} (hb:∀e H x e' H',body e H x e' H'→Fin' H→Fin' H'):∀k {e H x e' H'},evL body k e H x e' H'→Fin' H→Fin' H'
 | 0,_,_,_,_,_,h,_=>h.elim
 | k+1,e,H,x,e',H',h,hf=>by
  obtain⟨x1,e1,H1,h1,h2⟩:=h
  have n1:=hb _ _ _ _ _ h1 hf
  split at h2
  ·exact evL_fin hb k h2 n1
  ·rw[h2.2.2];exact n1
theorem evC_nle (hcall:CallOK P call) {n:Nat} (c:Code):∀{e H x e' H'},evC P call n c e H x e' H'→H.n≤H'.n:=by
 induction c with
 | skip=>intro e H x e' H' h;rw[h.2.2];exact Nat.le_refl _
 | label l=>intro e H x e' H' h;rw[h.2.2];exact Nat.le_refl _
 | region id ops dr=>intro e H x e' H' h;obtain⟨_,_,_,h⟩:=h;exact evOps_nle hcall _ h
 | seq a b iha ihb=>
  intro e H x e' H' h
  obtain⟨x1,e1,H1,h1,h2⟩:=h
  split at h2
  ·exact Nat.le_trans (iha h1) (ihb h2)
  ·rw[h2.2.2];exact iha h1
 | cond c a b iha ihb=>
  intro e H x e' H' h
  obtain⟨t,_,h2⟩:=h
  split at h2
  ·exact iha h2
  ·exact ihb h2
 | block id c ih=>intro e H x e' H' h;obtain⟨x1,h1,_⟩:=h;exact ih h1
 | loop c ih=>intro e H x e' H' h;exact evL_nle (fun _ _ _ _ _ h=>ih h) n h
 | exit id=>intro e H x e' H' h;rw[h.2.2];exact Nat.le_refl _
 | ret=>intro e H x e' H' h;rw[h.2.2];exact Nat.le_refl _
 | _=>intro e H x e' H' h;exact h.elim
theorem evC_fin (hcall:CallOK P call) {n:Nat} (c:Code):∀{e H x e' H'},evC P call n c e H x e' H'→Fin' H→Fin' H':=by
 induction c with
 | skip=>intro e H x e' H' h hf;rw[h.2.2];exact hf
 | label l=>intro e H x e' H' h hf;rw[h.2.2];exact hf
 | region id ops dr=>intro e H x e' H' h hf;obtain⟨_,_,_,h⟩:=h;exact evOps_fin hcall _ h hf
 | seq a b iha ihb=>
  intro e H x e' H' h hf
  obtain⟨x1,e1,H1,h1,h2⟩:=h
  split at h2
  ·exact ihb h2 (iha h1 hf)
  ·rw[h2.2.2];exact iha h1 hf
 | cond c a b iha ihb=>
  intro e H x e' H' h hf
  obtain⟨t,_,h2⟩:=h
  split at h2
  ·exact iha h2 hf
  ·exact ihb h2 hf
 | block id c ih=>intro e H x e' H' h hf;obtain⟨x1,h1,_⟩:=h;exact ih h1 hf
 | loop c ih=>intro e H x e' H' h hf;exact evL_fin (fun _ _ _ _ _ h hf=>ih h hf) n h hf
 | exit id=>intro e H x e' H' h hf;rw[h.2.2];exact hf
 | ret=>intro e H x e' H' h hf;rw[h.2.2];exact hf
 | _=>intro e H x e' H' h;exact h.elim
def CodeOK (P:Program) (w0:World) (nt:Nat) (c:Code) (R:CodeR):Prop:=
 ∀{e H x e' H'},R e H x e' H'→∀{ρ:Ren} {a:Act} {w:World},WR w0 ρ H w→Free ρ H.n H'.n→ER ρ e a nt→∀{Q:Exit→Act→World→Prop},
  (∀ρ' a' w',Step w0 ρ H w ρ' H' w'→ER ρ' e' a' nt→a'.defers=a.defers→Q x.ex a' w')→c.wp P Q a w
theorem loop_ok {c:Code} {R:CodeR} (hn:∀e H x e' H',R e H x e' H'→H.n≤H'.n) (hR:CodeOK P w0 nt c R):∀k {e H x e' H'},evL R k e H x e' H'→∀(ρ:Ren) (a:Act) (w:World),WR w0 ρ H w→Free ρ H.n H'.n→ER ρ e a nt→∀(Q:Exit→Act→World→Prop),
  (∀ρ' a' w',Step w0 ρ H w ρ' H' w'→ER ρ' e' a' nt→a'.defers=a.defers→Q x.ex a' w')→∀(b:Frame) (kk:List Item) (cs:List Frame),
   ∃ex a' w',Q ex a' w'∧Arrives P (lone (b.at a (.code c :: .inLoop c :: kk)) cs w) b kk cs ex a' w'
 | 0,_,_,_,_,_,h=>h.elim
 | k+1,e,H,x,e',H',h=>by
  intro ρ a w hw hf hE Q hK b kk cs
  obtain⟨x1,e1,H1,h1,h2⟩:=h
  have n1:=hn _ _ _ _ _ h1
  have n2:H1.n≤H'.n:=by
   split at h2
   ·exact evL_nle hn k h2
   ·rw[h2.2.2];exact Nat.le_refl _
  obtain⟨ex,a1,w1,⟨ρ1,hex,hst1,hE1,hd1⟩,harr⟩:=hR h1 hw (hf.left n2) hE (Q:=fun ex a1 w1=>∃ρ1,ex=x1.ex∧Step w0 ρ H w ρ1 H1 w1∧ER ρ1 e1 a1 nt∧a1.defers=a.defers) (fun ρ' a' w' s he hd=>⟨ρ',rfl,s,he,hd⟩) b (.inLoop c :: kk) cs
  subst hex
  by_cases hx1:x1=.normal
  ·rw[if_pos hx1] at h2
   subst hx1
   obtain⟨ex,a',w',hq,harr2⟩:=loop_ok hn hR k h2 _ _ _ hst1.wr (hf.right hst1 n2) hE1 Q (fun ρ' a' w' s he hd=>hK ρ' a' w' (hst1.trans s) he (hd.trans hd1)) b kk cs
   exact⟨ex,a',w',hq,.of_steps (Steps.trans harr (.one step_inLoop)) harr2⟩
  ·rw[if_neg hx1] at h2
   obtain⟨rfl,rfl,rfl⟩:=h2
   refine⟨x.ex,a1,w1,hK ρ1 a1 w1 hst1 hE1 hd1,.pass (x:=.inLoop c) rfl (fun _ _=>.inl ?_) harr⟩
   cases x<;>simp[AX.ex] at hx1 ⊢
theorem code_ok (hcall:CallOK P call) (hm:P.follows .mixedOrders=true) {n:Nat} (c:Code):codeOk nt c=true→CodeOK P w0 nt c (evC P call n c):=by
 induction c with
 | skip=>
  intro _ e H x e' H' h ρ a w hw hf hE Q hK
  obtain⟨rfl,rfl,rfl⟩:=h
  exact wp_skip (hK ρ a w (Step.refl hw) hE rfl)
 | label l=>
  intro _ e H x e' H' h ρ a w hw hf hE Q hK
  obtain⟨rfl,rfl,rfl⟩:=h
  exact wp_label (hK ρ a w (Step.refl hw) hE rfl)
 | region id ops dr=>
  intro hc e H x e' H' h ρ a w hw hf hE Q hK
  obtain⟨rfl,ops',hs,hv⟩:=h
  simp only[codeOk,Bool.and_eq_true,Bool.or_eq_true,Bool.not_eq_true'] at hc
  rcases hs with rfl | ⟨rfl,hs,hr⟩
  case inr=>exact draw_shuf hs hcall hm hr hc.1 hv hw hf hE hK
  cases dr with
  | false=>exact wp_region_list (ops_ok hcall hc.1 _ (fun o ho=>Array.all_eq_true_iff_forall_mem.1 hc.1 o (Array.mem_toList_iff.1 ho)) hv hw hf hE hK)
  | true=>
   have hr:rOk ops=true:=by
    rcases hc.2 with h | h
    ·cases h
    ·exact h
   exact draw_ok hcall hm hr hc.1 hv hw hf hE hK
 | seq c1 c2 ih1 ih2=>
  intro hc e H x e' H' h ρ a w hw hf hE Q hK
  simp only[codeOk,Bool.and_eq_true] at hc
  obtain⟨x1,e1,H1,h1,h2⟩:=h
  have n2:H1.n≤H'.n:=by
   split at h2
   ·exact evC_nle hcall _ h2
   ·rw[h2.2.2];exact Nat.le_refl _
  refine wp_seq (ih1 hc.1 h1 hw (hf.left n2) hE (fun ρ1 a1 w1 s1 hE1 hd1=>?_))
  by_cases hx1:x1=.normal
  ·rw[if_pos hx1] at h2
   subst hx1
   exact ih2 hc.2 h2 s1.wr (hf.right s1 n2) hE1 (fun ρ2 a2 w2 s2 hE2 hd2=>hK ρ2 a2 w2 (s1.trans s2) hE2 (hd2.trans hd1))
  ·rw[if_neg hx1] at h2
   obtain⟨rfl,rfl,rfl⟩:=h2
   have:=hK ρ1 a1 w1 s1 hE1 hd1
   cases x<;>first | exact absurd rfl hx1 | exact this
 | cond cnd c1 c2 ih1 ih2=>
  intro hc e H x e' H' h ρ a w hw hf hE Q hK
  simp only[codeOk,Bool.and_eq_true] at hc
  obtain⟨t,ht,h2⟩:=h
  have hv:=hE.ev hc.1.1
  rw[ht] at hv
  have hb:=hv.bool_
  refine wp_cond hb ?_
  cases t with
  | true=>exact ih1 hc.1.2 h2 hw hf hE hK
  | false=>exact ih2 hc.2 h2 hw hf hE hK
 | block id c ih=>
  intro hc e H x e' H' h ρ a w hw hf hE Q hK
  obtain⟨x1,h1,rfl⟩:=h
  refine wp_block (ih hc h1 hw hf hE (fun ρ1 a1 w1 s1 hE1 hd1=>?_))
  have hq:=hK ρ1 a1 w1 s1 hE1 hd1
  cases x1 with
  | normal=>exact hq
  | ret=>exact hq
  | exit id'=>
   show Exit.inBlock id Q (.exit id') a1 w1
   simp only[Exit.inBlock]
   by_cases hid:id'=id
   ·subst hid
    simpa [AX.ex] using hq
   ·have:¬(AX.exit id'=AX.exit id):=fun h=>hid (by injection h)
    rw[if_neg this] at hq
    simpa [hid,AX.ex] using hq
 | loop c ih=>
  intro hc e H x e' H' h ρ a w hw hf hE Q hK b kk cs
  obtain⟨ex,a',w',hq,harr⟩:=loop_ok (fun _ _ _ _ _ h=>evC_nle hcall c h) (ih hc) n h _ _ _ hw hf hE _ hK b kk cs
  exact⟨ex,a',w',hq,.of_steps (.one step_loop) harr⟩
 | exit id=>
  intro _ e H x e' H' h ρ a w hw hf hE Q hK
  obtain⟨rfl,rfl,rfl⟩:=h
  exact wp_exit (hK ρ a w (Step.refl hw) hE rfl)
 | ret=>
  intro _ e H x e' H' h ρ a w hw hf hE Q hK
  obtain⟨rfl,rfl,rfl⟩:=h
  exact wp_ret (hK ρ a w (Step.refl hw) hE rfl)
 | _=>intro _ e H x e' H' h;exact h.elim
def resF (tmps:Array Value):ResultVar→Sem Value
 | .tmp t=>pure (tmps.getD t undef)
 | .cell a t=>do loadVar t (← asAddr (tmps.getD a undef))
theorem results_eq (fn:Func) (tmps:Array Value):results fn tmps=(do let vs ← fn.results.mapM (resF tmps);pure (if h:vs.size=1 then vs[0] else .tuple vs)):=by
 unfold results
 congr 1
theorem ares_ok {ρ:Ren} {e:Env} {a:Act} {H:AH} {w:World} (hE:ER ρ e a nt) (hw:WR w0 ρ H w):∀(l:List ResultVar),l.all (resOk nt)=true→∀{vs:List Value},ares P e H l=some vs→
  ∃cs:List Value,(l.mapM (resF a.tmps)).run P w=.ok cs w∧cs.length=vs.length∧∀(i:Nat) v,vs[i]?=some v→∃c,cs[i]?=some c∧VR ρ v c
 | [],_,vs,h=>by
  simp only[ares] at h
  cases h
  exact⟨[],rfl,rfl,fun i v h=>by simp at h⟩
 | r :: l,hok,vs,h=>by
  simp only[List.all_cons,Bool.and_eq_true] at hok
  have cons:∀{v c:Value} {vs' cs':List Value},VR ρ v c→cs'.length=vs'.length→(∀(i:Nat) v,vs'[i]?=some v→∃c,cs'[i]?=some c∧VR ρ v c)→(c :: cs').length=(v :: vs').length∧∀(i:Nat) u,(v :: vs')[i]?=some u→∃d,(c :: cs')[i]?=some d∧VR ρ u d:=by
   intro v c vs' cs' hv hl hall
   refine⟨by simp[hl],fun i u hu=>?_⟩
   cases i with
   | zero=>simp at hu;subst hu;exact⟨c,by simp,hv⟩
   | succ i=>exact hall i u (by simpa using hu)
  cases r with
  | tmp t=>
   simp only[ares] at h
   split at h
   ·rename_i vs' hvs
    cases h
    obtain⟨cs,hrun,hl,hall⟩:=ares_ok hE hw l hok.2 hvs
    obtain⟨h1,h2⟩:=cons (hE.at_ t (by simpa [resOk] using hok.1)) hl hall
    refine⟨_,?_,h1,h2⟩
    simp only[List.mapM_cons,resF,Sem.run_bind,Sem.run_pure,Result.andThen_ok,hrun]
   ·cases h
  | cell ad t=>
   simp only[ares] at h
   split at h
   ·rename_i id k sp hp
    split at h
    ·rename_i v hv
     split at h
     ·rename_i vs' hvs
      cases h
      have hpr:=hE.at_ ad (by simpa [resOk] using hok.1)
      rw[hp] at hpr
      obtain⟨c,hvc,hload⟩:=aload_ok (P:=P) hw hpr hv
      obtain⟨l',hl',hc'⟩:=hpr.ptr_
      obtain⟨cs,hrun,hl,hall⟩:=ares_ok hE hw l hok.2 hvs
      obtain⟨h1,h2⟩:=cons hvc hl hall
      refine⟨_,?_,h1,h2⟩
      rw[hc'] at hload
      simp only[Instr.loadAt,Instr.sureAddr,Sem.run_bind,Sem.run_pure,Result.andThen_ok] at hload
      have h1':(resF a.tmps (.cell ad t)).run P w=.ok c w:=by simp only[resF,hc',asAddr,Sem.run_bind,Sem.run_pure,Result.andThen_ok,hload]
      simp only[List.mapM_cons,Sem.run_bind,Sem.run_pure,Result.andThen_ok,h1',hrun]
     ·cases h
    ·cases h
   ·cases h
theorem results_ok {ρ:Ren} {e:Env} {a:Act} {H:AH} {w:World} {fn:Func} (hE:ER ρ e a nt) (hw:WR w0 ρ H w) (hok:fn.results.toList.all (resOk nt)=true) {vs:List Value} (h:ares P e H fn.results.toList=some vs):
  ∃c,(results fn a.tmps).run P w=.ok c w∧VR ρ (aout vs) c:=by
 obtain⟨cs,hrun,hl,hall⟩:=ares_ok (P:=P) hE hw _ hok h
 rw[results_eq,Array.mapM_eq_mapM_toList]
 simp only[Sem.run_bind,Sem.run_map]
 rw[hrun]
 simp only[Result.andThen_ok]
 by_cases h1:cs.length=1
 ·obtain⟨c,rfl⟩:∃c,cs=[c]:=List.length_eq_one_iff.1 h1
  obtain⟨v,rfl⟩:∃v,vs=[v]:=List.length_eq_one_iff.1 (by rw[← hl];rfl)
  obtain⟨d,hd,hv⟩:=hall 0 v rfl
  simp at hd
  subst hd
  exact⟨c,by simp,hv⟩
 ·refine⟨.tuple cs.toArray,by simp[h1],?_⟩
  have:aout vs=.tuple vs.toArray:=by
   unfold aout
   split
   ·rename_i v;simp at hl;exact absurd hl h1
   ·rfl
  rw[this]
  refine .tup _ _ (by simp[hl]) (fun i hi=>?_)
  have hi':i<vs.length:=by simpa using hi
  obtain⟨d,hd,hv⟩:=hall i _ (List.getElem?_eq_getElem hi')
  rw[Array.getD_eq_getD_getElem?,Array.getD_eq_getD_getElem?,List.getElem?_toArray,List.getElem?_toArray,List.getElem?_eq_getElem hi',hd]
  exact hv
theorem evF_ok (hm:P.follows .mixedOrders=true):∀n,CallOK P (evF P n)
 | 0=>⟨fun _ _ _ _ _ h=>h.elim,fun _ _ _ _ _ h=>h.elim,fun _ _ _ _ _ h=>h.elim,fun _ _ _ _ _ h=>h.elim⟩
 | n+1=>by
  have ih:=evF_ok hm n
  refine⟨?_,?_,?_,?_⟩
  ·rintro f args H v H' ⟨fn,c,x,e',vs,hf,hb,hok,_⟩
   unfold fnOk at hok
   simp only[Bool.and_eq_true,Bool.not_eq_true'] at hok
   exact⟨fn,hf,by simp[hb],hok.1.1⟩
  ·rintro f args H v H' ⟨fn,c,x,e',vs,hf,hb,hok,hsz,hc,_⟩
   exact evC_nle ih c hc
  ·rintro f args H v H' ⟨fn,c,x,e',vs,hf,hb,hok,hsz,hc,_⟩ hfin
   exact evC_fin ih c hc hfin
  ·rintro f args H v H' ⟨fn,c,x,e',vs,hf,hb,hok,hsz,hc,hx,hres,rfl⟩ w0 ρ w args' hw hfr hvr
   unfold fnOk at hok
   simp only[Bool.and_eq_true,Bool.not_eq_true',hb] at hok
   refine calls_of_wp hf hb ?_
   have hE0:ER ρ (env0 args) {tmps:=args'++Array.replicate (fn.ntmps-args'.size) undef,defers:=[]} fn.ntmps:=by
    have hsz':args'.size≤fn.ntmps:=by rw[← hvr.1];exact hsz
    refine⟨by simp;omega,fun t ht=>?_⟩
    show VR ρ (args.getD t undef) _
    by_cases hlt:t<args'.size
    ·have:=hvr.get t
     simp only[Array.getD_eq_getD_getElem?] at this ⊢
     rw[Array.getElem?_append_left hlt]
     exact this
    ·have h1:args.getD t undef=undef:=by
      rw[Array.getD_eq_getD_getElem?,Array.getElem?_eq_none (by rw[hvr.1];omega)];rfl
     have h2:(args'++Array.replicate (fn.ntmps-args'.size) undef).getD t undef=undef:=by
      rw[Array.getD_eq_getD_getElem?,Array.getElem?_append_right (by omega),Array.getElem?_replicate]
      split<;>rfl
     rw[h1,h2]
     exact .undef ρ
   refine code_ok ih hm c hok.1.2 hc hw hfr hE0 (fun ρ' a' w' s hE hd=>?_)
   obtain⟨cv,hrun,hv⟩:=results_ok (P:=P) hE s.wr hok.2 hres
   rcases hx with rfl | rfl
   ·exact⟨hd,cv,hrun,ρ',cv,rfl,s,hv⟩
   ·exact⟨hd,cv,hrun,ρ',cv,rfl,s,hv⟩
end
section
variable {P:Program} {call call':CallS}
theorem evOp_mono (hc:∀f a H v H',call f a H v H'→call' f a H v H') {dr:Bool} {op:Op} {e:Env} {H H':AH} {v:Value} (h:evOp P call dr op e H v H'):evOp P call' dr op e H v H':=by
 unfold evOp at h ⊢
 split at h
 ·unfold evCall at h ⊢
  split at h
  ·obtain⟨v0,h0,h1,h2⟩:=h;exact⟨v0,h0,hc _ _ _ _ _ h1,h2⟩
  ·exact h.elim
 ·exact h
theorem evOps_mono (hc:∀f a H v H',call f a H v H'→call' f a H v H') {dr:Bool} {ops:Array Oper}:∀(os:List Oper) {e:Env} {H:AH} {e':Env} {H':AH},evOps P call dr ops os e H e' H'→evOps P call' dr ops os e H e' H'
 | [],_,_,_,_,h=>h
 | o :: os,e,H,e',H',h=>by
  simp only[evOps] at h ⊢
  split at h
  ·rename_i hw
   rw[if_pos hw]
   obtain⟨v,H1,h1,h2,h3⟩:=h
   exact⟨v,H1,evOp_mono hc h1,evOps_mono hc os h2,h3⟩
  ·rename_i hw
   rw[if_neg hw]
   exact evOps_mono hc os h
theorem evL_mono {b b':CodeR} (hb:∀e H x e' H',b e H x e' H'→b' e H x e' H'):∀(k m:Nat),k≤m→∀{e H x e' H'},evL b k e H x e' H'→evL b' m e H x e' H'
 | 0,_,_,_,_,_,_,_,h=>h.elim
 | k+1,0,hk,_,_,_,_,_,_=>by omega
 | k+1,m+1,hk,e,H,x,e',H',h=>by
  obtain⟨x1,e1,H1,h1,h2⟩:=h
  refine⟨x1,e1,H1,hb _ _ _ _ _ h1,?_⟩
  split at h2
  ·rename_i hx;rw[if_pos hx];exact evL_mono hb k m (by omega) h2
  ·rename_i hx;rw[if_neg hx];exact h2
theorem evC_mono (hc:∀f a H v H',call f a H v H'→call' f a H v H') {n m:Nat} (hn:n≤m) (c:Code):∀{e H x e' H'},evC P call n c e H x e' H'→evC P call' m c e H x e' H':=by
 induction c with
 | region id ops dr=>intro e H x e' H' h;obtain⟨h1,ops',h2,h3⟩:=h;exact⟨h1,ops',h2,evOps_mono hc _ h3⟩
 | seq a b iha ihb=>
  intro e H x e' H' h
  obtain⟨x1,e1,H1,h1,h2⟩:=h
  refine⟨x1,e1,H1,iha h1,?_⟩
  split at h2
  ·rename_i hx;rw[if_pos hx];exact ihb h2
  ·rename_i hx;rw[if_neg hx];exact h2
 | cond c a b iha ihb=>
  intro e H x e' H' h
  obtain⟨t,ht,h2⟩:=h
  refine⟨t,ht,?_⟩
  split at h2
  ·rename_i hx;rw[if_pos hx];exact iha h2
  ·rename_i hx;rw[if_neg hx];exact ihb h2
 | block id c ih=>intro e H x e' H' h;obtain⟨x1,h1,h2⟩:=h;exact⟨x1,ih h1,h2⟩
 | loop c ih=>intro e H x e' H' h;exact evL_mono (fun _ _ _ _ _ h=>ih h) n m hn h
 | _=>intro e H x e' H' h;exact h
theorem evF_step:∀n f a H v H',evF P n f a H v H'→evF P (n+1) f a H v H'
 | 0,_,_,_,_,_,h=>h.elim
 | n+1,f,a,H,v,H',h=>by
  obtain⟨fn,c,x,e',vs,h1,h2,h3,h4,h5,h6⟩:=h
  exact⟨fn,c,x,e',vs,h1,h2,h3,h4,evC_mono (evF_step n) (Nat.le_succ n) c h5,h6⟩
theorem evF_mono {n m:Nat} (h:n≤m):∀f a H v H',evF P n f a H v H'→evF P m f a H v H':=by
 obtain⟨d,rfl⟩:=Nat.exists_eq_add_of_le h
 clear h
 induction d with
 | zero=>exact fun _ _ _ _ _ h=>h
 | succ d ih=>exact fun f a H v H' h=>evF_step _ _ _ _ _ _ (ih f a H v H' h)
end
def Run (P:Program) (f:FuncId) (args:Array Value) (H:AH) (Q:Value→AH→Prop):Prop:=∃n v H',evF P n f args H v H'∧Q v H'
theorem Run.mono {P:Program} {f:FuncId} {args:Array Value} {H:AH} {Q Q':Value→AH→Prop} (h:Run P f args H Q) (hq:∀v H',Q v H'→Q' v H'):Run P f args H Q':=
 let ⟨n,v,H',h1,h2⟩:=h;⟨n,v,H',h1,hq v H' h2⟩
abbrev PostC:=AX→Env→AH→Prop
def Wc (P:Program) (c:Code) (Q:PostC) (e:Env) (H:AH):Prop:=∃n x e' H',evC P (evF P n) n c e H x e' H'∧Q x e' H'
def Wo (P:Program) (dr:Bool) (ops:Array Oper) (os:List Oper) (K:Env→AH→Prop) (e:Env) (H:AH):Prop:=∃n e' H',evOps P (evF P n) dr ops os e H e' H'∧K e' H'
section
variable {P:Program} {e:Env} {H:AH}
theorem Wc.mono {c:Code} {Q Q':PostC} (h:Wc P c Q e H) (hq:∀x e H,Q x e H→Q' x e H):Wc P c Q' e H:=
 let ⟨n,x,e',H',h1,h2⟩:=h;⟨n,x,e',H',h1,hq _ _ _ h2⟩
theorem up {n m:Nat} (h:n≤m) {c:Code} {x:AX} {e':Env} {H':AH} (k:evC P (evF P n) n c e H x e' H'):evC P (evF P m) m c e H x e' H':=evC_mono (evF_mono h) h c k
theorem Wc.seq {a b:Code} {Q:PostC} (h:Wc P a (fun x e H=>match x with | .normal=>Wc P b Q e H | x=>Q x e H) e H):Wc P (.seq a b) Q e H:=by
 obtain⟨n,x1,e1,H1,h1,h2⟩:=h
 by_cases hx:x1=.normal
 ·subst hx
  obtain⟨m,x,e',H',h3,h4⟩:=h2
  exact⟨max n m,x,e',H',⟨.normal,e1,H1,up (Nat.le_max_left _ _) h1,by rw[if_pos rfl];exact up (Nat.le_max_right _ _) h3⟩,h4⟩
 ·refine⟨n,x1,e1,H1,⟨x1,e1,H1,h1,by rw[if_neg hx];exact⟨rfl,rfl,rfl⟩⟩,?_⟩
  cases x1<;>first | exact absurd rfl hx | exact h2
theorem Wc.cond {c:Operand} {a b:Code} {Q:PostC} {t:Bool} (ht:ev e c=.bool t) (h1:t=true→Wc P a Q e H) (h2:t=false→Wc P b Q e H):Wc P (.cond c a b) Q e H:=by
 cases t with
 | true=>obtain⟨n,x,e',H',h,hq⟩:=h1 rfl;exact⟨n,x,e',H',⟨true,ht,h⟩,hq⟩
 | false=>obtain⟨n,x,e',H',h,hq⟩:=h2 rfl;exact⟨n,x,e',H',⟨false,ht,h⟩,hq⟩
theorem Wc.block {id:Nat} {c:Code} {Q:PostC} (h:Wc P c (fun x e H=>Q (if x=.exit id then .normal else x) e H) e H):Wc P (.block id c) Q e H:=by
 obtain⟨n,x,e',H',h1,h2⟩:=h
 exact⟨n,_,e',H',⟨x,h1,rfl⟩,h2⟩
theorem Wc.skip {Q:PostC} (h:Q .normal e H):Wc P .skip Q e H:=⟨0,_,_,_,⟨rfl,rfl,rfl⟩,h⟩
theorem Wc.label {l:Nat} {Q:PostC} (h:Q .normal e H):Wc P (.label l) Q e H:=⟨0,_,_,_,⟨rfl,rfl,rfl⟩,h⟩
theorem Wc.exit {id:Nat} {Q:PostC} (h:Q (.exit id) e H):Wc P (.exit id) Q e H:=⟨0,_,_,_,⟨rfl,rfl,rfl⟩,h⟩
theorem Wc.ret {Q:PostC} (h:Q .ret e H):Wc P .ret Q e H:=⟨0,_,_,_,⟨rfl,rfl,rfl⟩,h⟩
theorem Wc.region {id:Nat} {ops:Array Oper} {dr:Bool} {Q:PostC} (h:Wo P dr ops ops.toList (fun e H=>Q .normal e H) e H):Wc P (.region id ops dr) Q e H:=by
 obtain⟨n,e',H',h1,h2⟩:=h
 exact⟨n,_,e',H',⟨rfl,ops,.inl rfl,h1⟩,h2⟩
theorem Wc.loop {c:Code} {Q:PostC} (h:Wc P c (fun x e H=>match x with | .normal=>Wc P (.loop c) Q e H | x=>Q x e H) e H):Wc P (.loop c) Q e H:=by
 obtain⟨n,x1,e1,H1,h1,h2⟩:=h
 by_cases hx:x1=.normal
 ·subst hx
  obtain⟨m,x,e',H',h3,h4⟩:=h2
  refine⟨max n m+1,x,e',H',?_,h4⟩
  refine⟨.normal,e1,H1,up (by omega) h1,?_⟩
  rw[if_pos rfl]
  have h3':evL (evC P (evF P m) m c) m e1 H1 x e' H':=h3
  exact evL_mono (fun _ _ _ _ _ h=>evC_mono (evF_mono (by omega)) (by omega) c h) m (max n m) (by omega) h3'
 ·refine⟨n+1,x1,e1,H1,⟨x1,e1,H1,up (by omega) h1,by rw[if_neg hx];exact⟨rfl,rfl,rfl⟩⟩,?_⟩
  cases x1<;>first | exact absurd rfl hx | exact h2
theorem Wc.rounds {c:Code} {Q:PostC} (I:Nat→Env→AH→Prop) {k:Nat} (h0:I k e H) (step:∀k e H,I k e H→Wc P c (fun x e H=>match x with | .normal=>∃j,j<k∧I j e H | x=>Q x e H) e H):Wc P (.loop c) Q e H:=by
 induction k using Nat.strongRecOn generalizing e H with
 | _ k ih=>
  refine Wc.loop ((step k e H h0).mono fun x e H hx=>?_)
  cases x with
  | normal=>obtain⟨j,hj,hi⟩:=hx;exact ih j hj hi
  | exit id=>exact hx
  | ret=>exact hx
theorem Wo.nil {dr:Bool} {ops:Array Oper} {K:Env→AH→Prop} (h:K e H):Wo P dr ops [] K e H:=⟨0,e,H,⟨rfl,rfl⟩,h⟩
theorem Wo.pure {dr:Bool} {ops:Array Oper} {o:Oper} {os:List Oper} {K:Env→AH→Prop} {v:Value} (hw:want ops e o=true) (hc:opClass o.op=0) (hp:pop P o.op e=some v) (h:Wo P dr ops os K (put e o.dst v) H):Wo P dr ops (o :: os) K e H:=by
 obtain⟨n,e',H',h1,h2⟩:=h
 refine⟨n,e',H',?_,h2⟩
 simp only[evOps]
 rw[if_pos hw]
 refine⟨v,H,?_,h1,LOb.cls (by omega) (by omega)⟩
 unfold evOp
 split
 ·rename_i hop;rw[hop] at hc;simp[opClass] at hc
 ·rw[hc];exact⟨hp,rfl⟩
theorem Wo.heap {dr:Bool} {ops:Array Oper} {o:Oper} {os:List Oper} {K:Env→AH→Prop} {v:Value} {H1:AH} {tag:Option Nat} (hw:want ops e o=true) (hc:opClass o.op=1∨opClass o.op=2) (hp:hop P tag o.op e H=some (v,H1)) (hl:LOb dr ops (ops.size-os.length-1) o e H H1) (h:Wo P dr ops os K (put e o.dst v) H1):Wo P dr ops (o :: os) K e H:=by
 obtain⟨n,e',H',h1,h2⟩:=h
 refine⟨n,e',H',?_,h2⟩
 simp only[evOps]
 rw[if_pos hw]
 refine⟨v,H1,?_,h1,hl⟩
 unfold evOp
 split
 ·rename_i hop;rw[hop] at hc;simp[opClass] at hc
 ·split
  ·rename_i h0;omega
  ·exact⟨tag,hp⟩
theorem Wo.off {dr:Bool} {ops:Array Oper} {o:Oper} {os:List Oper} {K:Env→AH→Prop} (hw:want ops e o=false) (h:Wo P dr ops os K (put e o.dst undef) H):Wo P dr ops (o :: os) K e H:=by
 obtain⟨n,e',H',h1,h2⟩:=h
 refine⟨n,e',H',?_,h2⟩
 simp only[evOps]
 rw[if_neg (by simp[hw])]
 exact h1
theorem Wo.call {dr:Bool} {ops:Array Oper} {o:Oper} {os:List Oper} {K:Env→AH→Prop} {f:Operand} {xs:Array Operand} {ts:Array TypeId} {g:FuncId} {first cap:Array Value} (hw:want ops e o=true) (ho:o.op=.call {callee:=.value f,args:=xs,argTypes:=ts})
  (hf:ev e f=.func (.func g) first cap) (h:Run P g (untags (first++aargs e xs++cap)) H (fun v H1=>(drOf ops dr os=true→Ext H H1)∧Wo P dr ops os K (put e o.dst (untag v)) H1)):Wo P dr ops (o :: os) K e H:=by
 obtain⟨n,v,H1,h1,hx,m,e',H',h2,h3⟩:=h
 refine⟨max n m,e',H',?_,h3⟩
 simp only[evOps]
 rw[if_pos hw]
 refine⟨untag v,H1,?_,evOps_mono (evF_mono (Nat.le_max_right _ _)) _ h2,LOb.call (by rw[ho];simp[opClass]) hx⟩
 rw[ho]
 simp only[evOp,evCall,hf]
 exact⟨v,rfl,evF_mono (Nat.le_max_left _ _) _ _ _ _ _ h1,fun h=>hx (drN_drOf h)⟩
theorem Run.of {f:FuncId} {fn:Func} {c:Code} {args:Array Value} {Q:Value→AH→Prop} (hf:P.funcs[f]?=some fn) (hb:fn.body=some c) (hok:fnOk fn=true) (hs:args.size≤fn.ntmps)
  (h:Wc P c (fun x e H=>match x with | .exit _=>False | _=>match ares P e H fn.results.toList with | some vs=>Q (aout vs) H | none=>False) (env0 args) H):Run P f args H Q:=by
 obtain⟨n,x,e',H',h1,h2⟩:=h
 have hx:x=.normal∨x=.ret:=by cases x<;>simp at h2 ⊢
 have h2':match ares P e' H' fn.results.toList with | some vs=>Q (aout vs) H' | none=>False:=by cases x<;>first | exact h2 | exact h2.elim
 split at h2'
 ·rename_i vs hvs
  exact⟨n+1,aout vs,H',⟨fn,c,x,e',vs,hf,hb,hok,hs,h1,hx,hvs,rfl⟩,h2'⟩
 ·exact h2'.elim
end
end Go.Proofs.Ytlapbbffoapleaa.Am
