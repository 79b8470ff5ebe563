/- Contracts and laws on abstract memory, merged. Each holds under its own conditions. -/
import Derived.Test.YtlapbbffoapleaaPCutRanks00
set_option linter.unusedVariables false
set_option linter.unusedSimpArgs false
set_option maxRecDepth 20000
set_option maxHeartbeats 4000000
namespace Go.Proofs.Ytlapbbffoapleaa.Am
open Go Go.RowKit
inductive It where
 | code (c:Code)
 | ops (z dr:Bool) (ops:Array Oper) (i:Nat) (os:List Oper)
 | blk (id:Nat)
 | rnd (R:Env→AH→Prop)
def stC:Code→Bool
 | .region id ops dr=>Nat.ble 1000000 id||!dr||rOkS ops
 | .seq a b=>stC a&&stC b
 | .cond _ a b=>stC a&&stC b
 | .block _ c=>stC c
 | .loop c=>stC c
 | _=>true
def stO (z dr:Bool) (ops:Array Oper):Bool:=z||!dr||rOkS ops
def WK (P:Program):List It→PostC→PostC
 | [],Q=>Q
 | .blk id :: k,Q=>fun x e H=>match x with
  | .exit id'=>if id'=id then WK P k Q .normal e H else WK P k Q (.exit id') e H
  | x=>WK P k Q x e H
 | .code c :: k,Q=>fun x e H=>match x with
  | .normal=>stC c=true→Wc P c (WK P k Q) e H
  | x=>WK P k Q x e H
 | .ops z dr ops _ os :: k,Q=>fun x e H=>match x with
  | .normal=>stO z dr ops=true→Wo P dr ops os (fun e H=>WK P k Q .normal e H) e H
  | x=>WK P k Q x e H
 | .rnd R :: k,Q=>fun x e H=>match x with
  | .normal=>R e H
  | x=>WK P k Q x e H
def unwind (id:Nat):List It→Option (List It)
 | []=>none
 | .blk id' :: k=>match Nat.beq id id' with
  | true=>some k
  | false=>unwind id k
 | _ :: k=>unwind id k
theorem unwind_some {P:Program} {Q:PostC} {id:Nat}:∀{k k':List It},unwind id k=some k'→∀{e H},WK P k' Q .normal e H→WK P k Q (.exit id) e H
 | [],_,h=>by simp[unwind] at h
 | .blk id' :: k,k',h=>by
  intro hk
  simp only[unwind] at h
  split at h
  ·rename_i hb
   cases h
   have:=Nat.eq_of_beq_eq_true hb
   simp only[WK]
   rw[if_pos this]
   exact hk
  ·rename_i hb
   have hne:¬id=id':=fun e=>by subst e;rw[Nat.beq_refl] at hb;cases hb
   simp only[WK]
   rw[if_neg hne]
   exact unwind_some h hk
 | .code c :: k,k',h=>by intro hk;exact unwind_some (k:=k) h hk
 | .ops _ _ _ _ _ :: k,k',h=>by intro hk;exact unwind_some (k:=k) h hk
 | .rnd _ :: k,k',h=>by intro hk;exact unwind_some (k:=k) h hk
theorem unwind_none {P:Program} {Q:PostC} {id:Nat}:∀{k:List It},unwind id k=none→∀{e H},Q (.exit id) e H→WK P k Q (.exit id) e H
 | [],_=>fun h=>h
 | .blk id' :: k,h=>by
  intro hk
  simp only[unwind] at h
  split at h
  ·cases h
  ·rename_i hb
   have hne:¬id=id':=fun e=>by subst e;rw[Nat.beq_refl] at hb;cases hb
   simp only[WK]
   rw[if_neg hne]
   exact unwind_none h hk
 | .code c :: k,h=>by intro hk;exact unwind_none (k:=k) h hk
 | .ops _ _ _ _ _ :: k,h=>by intro hk;exact unwind_none (k:=k) h hk
 | .rnd _ :: k,h=>by intro hk;exact unwind_none (k:=k) h hk
theorem WK_ret {P:Program} {Q:PostC}:∀{k:List It} {e H},Q .ret e H→WK P k Q .ret e H
 | [],_,_,h=>h
 | .blk id' :: k,_,_,h=>by simp only[WK];exact WK_ret (k:=k) h
 | .code c :: k,_,_,h=>by simp only[WK];exact WK_ret (k:=k) h
 | .ops _ _ _ _ _ :: k,_,_,h=>by simp only[WK];exact WK_ret (k:=k) h
 | .rnd _ :: k,_,_,h=>by simp only[WK];exact WK_ret (k:=k) h
abbrev Var:=Nat × Blk
structure Good (S:Nat→Prop) (H0:AH) (T:List Var) (n:Nat) (H:AH):Prop where
 n_:H.n=n
 fin:Fin' H
 froz:∀id,S id→id<n∧H.m id=H0.m id
 vars:∀(j:Nat) v,T[j]?=some v→H.m v.1=some v.2∧v.1<n∧¬S v.1
 dist:∀(i j:Nat) u v,T[i]?=some u→T[j]?=some v→u.1=v.1→i=j
def bload (P:Program) (b:Blk) (t:TypeId) (k:Nat):Option Value:=
 match P.underlying t with
 | some (.struct _)=>match P.info? t with
  | some i=>if k+i.size≤b.cells.length then some (.agg ((b.cells.drop k).take i.size).toArray) else none
  | none=>none
 | some (.array _ _)=>none
 | some _=>b.cells[k]?
 | none=>none
theorem bload_ok {P:Program} {H:AH} {b:Blk} {t:TypeId} {id k:Nat} (h:H.m id=some b):aload P H t id k=bload P b t k:=by
 unfold aload bload
 simp only[h]
 cases P.underlying t with
 | none=>rfl
 | some d=>cases d<;>rfl
def bstore (P:Program) (b:Blk) (t:TypeId) (k:Nat) (v:Value):Option Blk:=
 match P.info? t with
 | some i=>if b.rw=true∧v.cells.size=i.size∧k+i.size≤b.cells.length∧v.cells.toList.all Value.oneCell'=true then some ⟨b.ty,b.rw,splice b.cells k v.cells.toList⟩ else none
 | none=>none
theorem bstore_ok {P:Program} {H:AH} {b b':Blk} {t:TypeId} {id k:Nat} {v:Value} (h:H.m id=some b) (hs:bstore P b t k v=some b'):astore P H t id k v=some (H.set id b'):=by
 unfold bstore at hs
 unfold astore
 simp only[h]
 split at hs
 ·rename_i i hi
  simp only[hi]
  split at hs
  ·rename_i hc
   rw[if_pos ⟨hc.1,hc.2.1,hc.2.2.1,by rw[← Array.all_toList];exact hc.2.2.2⟩]
   cases hs
   rfl
  ·cases hs
 ·cases hs
def zeroOkL (P:Program) (t:TypeId):Bool:=
 match P.info? t with
 | some i=>match i.zero with
  | some z=>match z.cells.toList.all scal with
   | true=>Nat.beq z.cells.toList.length i.size
   | false=>false
  | none=>false
 | none=>false
theorem zeroOkL_ok {P:Program} {t:TypeId} (h:zeroOkL P t=true):zeroOk P t=true:=by
 unfold zeroOkL at h
 unfold zeroOk
 cases hi:P.info? t with
 | none=>rw[hi] at h;cases h
 | some i=>
  rw[hi] at h
  simp only at h ⊢
  cases hz:i.zero with
  | none=>rw[hz] at h;cases h
  | some z=>
   rw[hz] at h
   simp only at h ⊢
   cases hb:z.cells.toList.all scal with
   | false=>rw[hb] at h;cases h
   | true=>
    rw[hb] at h
    simp only[Bool.and_eq_true,beq_iff_eq]
    exact⟨by rw[← Array.all_toList];exact hb,by have:=Nat.eq_of_beq_eq_true h;simpa using this⟩
def force0 {α:Type} (v:Value) (K:Value→α):α:=
 match v with
 | .bool b=>K (.bool b)
 | .int k n=>K (.int k n)
 | .string s=>K (.string s)
 | .pointer p=>K (.pointer p)
 | .slice a n c=>K (.slice a n c)
 | .agg a=>K (.agg a)
 | .tuple a=>K (.tuple a)
 | .func f a b=>K (.func f a b)
 | v=>K v
theorem force0_eq {α:Type} (v:Value) (K:Value→α):force0 v K=K v:=by unfold force0;split<;>rfl
def forceL {α:Type}:List Value→(List Value→α)→α
 | [],K=>K []
 | v :: l,K=>force0 v fun v=>forceL l fun l=>K (v :: l)
theorem forceL_eq {α:Type}:∀(l:List Value) (K:List Value→α),forceL l K=K l
 | [],K=>rfl
 | v :: l,K=>by simp only[forceL,force0_eq,forceL_eq l]
def force {α:Type} (v:Value) (K:Value→α):α:=
 match v with
 | .bool b=>K (.bool b)
 | .int k n=>K (.int k n)
 | .string s=>K (.string s)
 | .pointer p=>K (.pointer p)
 | .slice a n c=>K (.slice a n c)
 | .agg a=>match a with
  | ⟨l⟩=>forceL l fun l=>K (.agg ⟨l⟩)
 | .tuple a=>match a with
  | ⟨l⟩=>forceL l fun l=>K (.tuple ⟨l⟩)
 | .func f a b=>K (.func f a b)
 | v=>K v
theorem force_eq {α:Type} (v:Value) (K:Value→α):force v K=K v:=by
 unfold force
 split<;>first | rfl | exact forceL_eq _ _
def forceT {α:Type}:List Var→(List Var→α)→α
 | [],K=>K []
 | v :: l,K=>match v with
  | (i,b)=>forceT l fun l=>K ((i,b) :: l)
theorem forceT_eq {α:Type}:∀(l:List Var) (K:List Var→α),forceT l K=K l
 | [],K=>rfl
 | v :: l,K=>by simp only[forceT,forceT_eq l]
structure Lr where
 v:Value
 T:List Var
 n:Nat
 l:List Nat
 r:List Nat
def locop (P:Program) (op:Op) (e:Env) (T:List Var) (n:Nat):Option Lr:=
 match op with
 | .load t x=>match ev e x with
  | .pointer (some ⟨id,k,some j⟩)=>match T[j]? with
   | some v=>match bload P v.2 t k with
    | some u=>some ⟨u,T,n,[id],[v.1]⟩
    | none=>none
   | none=>none
  | _=>none
 | .store t x y=>match ev e x with
  | .pointer (some ⟨id,k,some j⟩)=>match T[j]? with
   | some v=>match bstore P v.2 t k (ev e y) with
    | some b=>match b with
     | ⟨ty,rw,cs⟩=>forceL cs fun cs=>some ⟨undef,T.set j (v.1,⟨ty,rw,cs⟩),n,[id],[v.1]⟩
    | none=>none
   | none=>none
  | _=>none
 | .box t x=>forceL (ev e x).cells.toList fun cs=>some ⟨.pointer (some ⟨n,0,some T.length⟩),T++[(n,⟨t,true,cs⟩)],n+1,[],[]⟩
 | .alloc t=>match P.info? t with
  | some i=>match i.zero with
   | some z=>match zeroOkL P t with
    | true=>forceL z.cells.toList fun cs=>some ⟨.pointer (some ⟨n,0,some T.length⟩),T++[(n,⟨t,true,cs⟩)],n+1,[],[]⟩
    | false=>none
   | none=>none
  | none=>none
 | _=>none
section
variable {P:Program} {S:Nat→Prop} {H0 H:AH} {T:List Var} {n:Nat}
theorem Good.push (g:Good S H0 T n H) (b:Blk):Good S H0 (T++[(n,b)]) (n+1) (H.push b):=by
 have hn:=g.n_
 refine⟨by simp[AH.push,hn],fin_push g.fin b,?_,?_,?_⟩
 ·intro id hs
  obtain⟨h1,h2⟩:=g.froz id hs
  refine⟨by omega,?_⟩
  simp only[AH.push]
  rw[if_neg (by omega)]
  exact h2
 ·intro j v hj
  rcases Nat.lt_or_ge j T.length with hl | hl
  ·rw[List.getElem?_append_left hl] at hj
   obtain⟨h1,h2,h3⟩:=g.vars j v hj
   refine⟨?_,by omega,h3⟩
   simp only[AH.push]
   rw[if_neg (by omega)]
   exact h1
  ·rw[List.getElem?_append_right hl] at hj
   have h0:j-T.length=0:=by
    rcases Nat.eq_zero_or_pos (j-T.length) with h | h
    ·exact h
    ·rw[List.getElem?_eq_none (by simp;omega)] at hj;cases hj
   rw[h0] at hj
   simp at hj
   subst hj
   refine⟨by simp[AH.push,hn],by simp,fun hs=>?_⟩
   have:=(g.froz n hs).1
   omega
 ·intro i j u v hi hj he
  have lt:∀{j:Nat} {v:Var},(T++[(n,b)])[j]?=some v→(j<T.length∧T[j]?=some v)∨(j=T.length∧v.1=n):=by
   intro j v hj
   rcases Nat.lt_or_ge j T.length with hl | hl
   ·rw[List.getElem?_append_left hl] at hj;exact .inl ⟨hl,hj⟩
   ·rw[List.getElem?_append_right hl] at hj
    have h0:j-T.length=0:=by
     rcases Nat.eq_zero_or_pos (j-T.length) with h | h
     ·exact h
     ·rw[List.getElem?_eq_none (by simp;omega)] at hj;cases hj
    rw[h0] at hj
    simp at hj
    exact .inr ⟨by omega,by rw[← hj]⟩
  rcases lt hi with⟨h1,h2⟩ | ⟨h1,h2⟩<;>rcases lt hj with⟨h3,h4⟩ | ⟨h3,h4⟩
  ·exact g.dist i j u v h2 h4 he
  ·have:=(g.vars i u h2).2.1;omega
  ·have:=(g.vars j v h4).2.1;omega
  ·omega
theorem Good.set (g:Good S H0 T n H) {j:Nat} {v:Var} (hj:T[j]?=some v) (b:Blk):Good S H0 (T.set j (v.1,b)) n (H.set v.1 b):=by
 have hjl:j<T.length:=(List.getElem?_eq_some_iff.1 hj).1
 obtain⟨hv1,hv2,hv3⟩:=g.vars j v hj
 have get:∀{i:Nat} {u:Var},(T.set j (v.1,b))[i]?=some u→(i=j∧u=(v.1,b))∨(i≠j∧T[i]?=some u):=by
  intro i u hi
  by_cases h:j=i
  ·subst h
   rw[List.getElem?_set_self hjl] at hi
   cases hi
   exact .inl ⟨rfl,rfl⟩
  ·rw[List.getElem?_set_ne h] at hi
   exact .inr ⟨Ne.symm h,hi⟩
 refine⟨g.n_,fin_set g.fin hv1 b,?_,?_,?_⟩
 ·intro id hs
  obtain⟨h1,h2⟩:=g.froz id hs
  refine⟨h1,?_⟩
  simp only[AH.set]
  rw[if_neg (fun e=>hv3 (by rw[← e];exact hs))]
  exact h2
 ·intro i u hi
  rcases get hi with⟨_,rfl⟩ | ⟨hne,hi⟩
  ·exact⟨by simp[AH.set],hv2,hv3⟩
  ·obtain⟨h1,h2,h3⟩:=g.vars i u hi
   refine⟨?_,h2,h3⟩
   simp only[AH.set]
   rw[if_neg (fun e=>hne (g.dist i j u v hi hj e))]
   exact h1
 ·intro i1 i2 u1 u2 h1 h2 he
  rcases get h1 with⟨e1,rfl⟩ | ⟨hne1,h1⟩<;>rcases get h2 with⟨e2,rfl⟩ | ⟨hne2,h2⟩
  ·omega
  ·exact absurd (g.dist i2 j u2 v h2 hj he.symm) hne2
  ·exact absurd (g.dist i1 j u1 v h1 hj he) hne1
  ·exact g.dist i1 i2 u1 u2 h1 h2 he
theorem locop_ok (g:Good S H0 T n H) {op:Op} {e:Env} {r:Lr} (h:locop P op e T n=some r) (hlr:r.l=r.r):∃tag H1,hop P tag op e H=some (r.v,H1)∧Good S H0 r.T r.n H1:=by
 have hn:=g.n_
 unfold locop at h
 simp only[forceL_eq] at h
 split at h
 ·split at h
  ·rename_i id k j hx
   split at h
   ·rename_i v hv
    split at h
    ·rename_i u hu
     cases h
     obtain rfl:id=v.1:=by simpa using hlr
     refine⟨none,H,?_,g⟩
     simp only[hop,hx,bload_ok (g.vars j v hv).1,hu]
    ·cases h
   ·cases h
  ·cases h
 ·split at h
  ·rename_i id k j hx
   split at h
   ·rename_i v hv
    split at h
    ·rename_i b hb
     cases h
     obtain rfl:id=v.1:=by simpa using hlr
     refine⟨none,_,?_,g.set hv b⟩
     simp only[hop,hx,bstore_ok (g.vars j v hv).1 hb]
    ·cases h
   ·cases h
  ·cases h
 ·cases h
  refine⟨some T.length,_,?_,g.push _⟩
  simp only[hop,hn]
 ·rename_i t
  split at h
  ·rename_i i hi
   split at h
   ·rename_i z hz
    split at h
    ·rename_i hzo
     cases h
     refine⟨some T.length,_,?_,g.push _⟩
     simp only[hop,aalloc,hi,hz,zeroOkL_ok hzo,if_true,hn]
    ·cases h
   ·cases h
  ·cases h
 ·cases h
end
def isConst:Operand→Bool
 | .const _=>true
 | _=>false
def sideB:BinOp→Operand→Bool
 | .quo,y=>!isConst y
 | .rem,y=>!isConst y
 | .shl,y=>!isConst y
 | .shr,y=>!isConst y
 | _,_=>false
def sideOp (P:Program):Op→Bool
 | .indexAddr _ _ _=>true
 | .index _ _ _=>true
 | .slice _ _ _ _ _=>true
 | .build _ _=>true
 | .binOp op t _ y _=>match P.underlying t with
  | some .string=>match op with
   | .add=>true
   | _=>false
  | _=>sideB op y
 | _=>false
def asked (i:Nat):List Oper→Bool
 | []=>false
 | o :: os=>match o.guard with
  | some (j,_)=>match Nat.beq j i with
   | true=>true
   | false=>asked i os
  | none=>asked i os
inductive Evt where
 | done (x:AX)
 | test (d:Option Tmp) (t:Bool)
 | cond (t:Bool) (a b:Code)
 | op (o:Oper) (dr:Bool)
 | opL (o:Oper) (dr:Bool) (L:List Tmp)
 | loop (c:Code)
 | cut (a b:Code)
 | round (R:Env→AH→Prop)
structure Cf where
 k:List It
 e:Env
 T:List Var
 n:Nat
 l:List Nat
 r:List Nat
def guarded (ops:Array Oper) (e:Env) (o:Oper):Bool:=
 match o.guard with
 | none=>true
 | some (j,b)=>match yld ops e j with
  | some t=>match t,b with
   | true,true=>true
   | false,false=>true
   | _,_=>false
  | none=>false
theorem guarded_ok (ops:Array Oper) (e:Env) (o:Oper):guarded ops e o=want ops e o:=by
 unfold guarded want
 cases o.guard with
 | none=>rfl
 | some jb=>
  obtain⟨j,b⟩:=jb
  simp only
  cases yld ops e j with
  | none=>rfl
  | some t=>cases t<;>cases b<;>rfl
def put1 (e:Env) (d:Tmp) (v:Value):Env:=fun t=>match Nat.beq t d with
 | true=>v
 | false=>e t
theorem put1_eq (e:Env) (d:Tmp) (v:Value):put e (some d) v=put1 e d v:=by
 funext t
 simp only[put,put1]
 by_cases h:t=d
 ·subst h;rw[Nat.beq_refl];simp
 ·have:Nat.beq t d=false:=by
   cases hb:Nat.beq t d with
   | false=>rfl
   | true=>exact absurd (Nat.eq_of_beq_eq_true hb) h
  rw[this]
  simp[h]
def fwd {α:Type} (d:Option Tmp) (e:Env) (v:Value) (K:Env→α):α:=
 match d with
 | some d=>K (put1 e d v)
 | none=>K e
theorem fwd_eq {α:Type} (d:Option Tmp) (e:Env) (v:Value) (K:Env→α):fwd d e v K=K (put e d v):=by
 cases d with
 | none=>rfl
 | some d=>simp only[fwd,put1_eq]
def isStop (stop:Option Nat) (c:Code):Bool:=
 match stop with
 | none=>false
 | some s=>match c with
  | .region id _ _=>Nat.beq id s
  | _=>false
def lzOf (z dr:Bool) (ops:Array Oper) (os:List Oper) (o:Oper):List Tmp:=
 match z with
 | false=>[]
 | true=>match dr with
  | false=>[]
  | true=>lO ops (ops.toList.length-os.length-1) o
theorem LOb.of {z dr:Bool} {ops:Array Oper} {os:List Oper} {o:Oper} {e:Env} {H H1:AH} (h:stO z dr ops=true) (h3:z=true∨opClass o.op≠3) (hl:∀t∈lzOf z dr ops os o,∀id k s,e t=.pointer (some ⟨id,k,s⟩)→H1.m id=H.m id):LOb dr ops (ops.size-os.length-1) o e H H1:=fun hdr t ht id k s he _=>by
 subst hdr
 cases z with
 | true=>
  refine hl t ?_ id k s he
  unfold lzOf
  simp only[Array.length_toList]
  exact ht
 | false=>
  simp[stO] at h
  unfold lO at ht
  split at ht
  ·rw[rOkS_loose h] at ht;cases ht
  ·rcases h3 with h3 | h3
   ·cases h3
   ·exact absurd (by assumption) h3
  ·cases ht
theorem lzOf_z {z dr:Bool} {ops:Array Oper} {os:List Oper} {o:Oper} {t:Tmp} {L:List Tmp} (h:lzOf z dr ops os o=t :: L):z=true:=by
 cases z with
 | true=>rfl
 | false=>unfold lzOf at h;cases h
def runK (P:Program) (stop:Option Nat):Nat→List It→Env→List Var→Nat→List Nat→List Nat→Option (Evt × Cf)
 | 0,_,_,_,_,_,_=>none
 | _+1,[],e,T,n,l,r=>some (.done .normal,⟨[],e,T,n,l,r⟩)
 | f+1,it :: k,e,T,n,l,r=>
  match it with
  | .blk _=>runK P stop f k e T n l r
  | .rnd R=>some (.round R,⟨k,e,T,n,l,r⟩)
  | .code c=>match c with
   | .skip=>runK P stop f k e T n l r
   | .label _=>runK P stop f k e T n l r
   | .seq a b=>match isStop stop a with
    | true=>some (.cut a b,⟨k,e,T,n,l,r⟩)
    | false=>runK P stop f (.code a :: .code b :: k) e T n l r
   | .block id c=>runK P stop f (.code c :: .blk id :: k) e T n l r
   | .exit id=>match unwind id k with
    | some k'=>runK P stop f k' e T n l r
    | none=>some (.done (.exit id),⟨[],e,T,n,l,r⟩)
   | .ret=>some (.done .ret,⟨[],e,T,n,l,r⟩)
   | .region id ops dr=>runK P stop f (.ops (Nat.ble 1000000 id) dr ops 0 ops.toList :: k) e T n l r
   | .cond c a b=>match ev e c with
    | .bool t=>some (.cond t a b,⟨k,e,T,n,l,r⟩)
    | _=>none
   | .loop c=>some (.loop c,⟨k,e,T,n,l,r⟩)
   | _=>none
  | .ops z dr ops i os=>match os with
   | []=>runK P stop f k e T n l r
   | o :: os=>match guarded ops e o with
    | false=>fwd o.dst e undef fun e=>runK P stop f (.ops z dr ops (i+1) os :: k) e T n l r
    | true=>match opClass o.op with
     | 0=>match sideOp P o.op with
      | true=>some (.op o (drOf ops dr os),⟨.ops z dr ops (i+1) os :: k,e,T,n,l,r⟩)
      | false=>match pop P o.op e with
       | some v=>match v with
        | .bool t=>match asked i os with
         | true=>some (.test o.dst t,⟨.ops z dr ops (i+1) os :: k,e,T,n,l,r⟩)
         | false=>fwd o.dst e (.bool t) fun e=>runK P stop f (.ops z dr ops (i+1) os :: k) e T n l r
        | v=>force v fun v=>fwd o.dst e v fun e=>runK P stop f (.ops z dr ops (i+1) os :: k) e T n l r
       | none=>none
     | 3=>match lzOf z dr ops os o with
      | []=>some (.op o (drOf ops dr os),⟨.ops z dr ops (i+1) os :: k,e,T,n,l,r⟩)
      | t :: L=>some (.opL o (drN ops dr os) (t :: L),⟨.ops z dr ops (i+1) os :: k,e,T,n,l,r⟩)
     | _=>match lzOf z dr ops os o with
      | []=>match locop P o.op e T n with
       | some q=>match q with
        | ⟨v,T',n',l',r'⟩=>forceT T' fun T'=>force v fun v=>fwd o.dst e v fun e=>runK P stop f (.ops z dr ops (i+1) os :: k) e T' n' (l'++l) (r'++r)
       | none=>some (.op o (drOf ops dr os),⟨.ops z dr ops (i+1) os :: k,e,T,n,l,r⟩)
      | t :: L=>some (.opL o (drOf ops dr os) (t :: L),⟨.ops z dr ops (i+1) os :: k,e,T,n,l,r⟩)
def KW (P:Program) (S:Nat→Prop) (H0:AH) (Q:PostC) (n:Nat) (T:List Var) (k:List It) (e:Env):Prop:=∀H,Good S H0 T n H→WK P k Q .normal e H
def WOp (P:Program) (dr:Bool) (o:Oper) (K:Value→AH→Prop) (e:Env) (H:AH):Prop:=∃n v H1,evOp P (evF P n) dr o.op e H v H1∧K v H1
def KEvt (P:Program) (S:Nat→Prop) (H0:AH) (Q:PostC):Evt→Cf→Prop
 | .done x,c=>∀H,Good S H0 c.T c.n H→Q x c.e H
 | .test d t,c=>(t=true→KW P S H0 Q c.n c.T c.k (put c.e d (.bool true)))∧(t=false→KW P S H0 Q c.n c.T c.k (put c.e d (.bool false)))
 | .cond t a b,c=>(t=true→KW P S H0 Q c.n c.T (.code a :: c.k) c.e)∧(t=false→KW P S H0 Q c.n c.T (.code b :: c.k) c.e)
 | .op o dr,c=>∀H,Good S H0 c.T c.n H→WOp P dr o (fun v H1=>WK P c.k Q .normal (put c.e o.dst v) H1) c.e H
 | .opL o dr L,c=>∀H,Good S H0 c.T c.n H→WOp P dr o (fun v H1=>(∀t∈L,∀id k s,c.e t=.pointer (some ⟨id,k,s⟩)→H1.m id=H.m id)∧WK P c.k Q .normal (put c.e o.dst v) H1) c.e H
 | .cut a b,c=>KW P S H0 Q c.n c.T (.code a :: .code b :: c.k) c.e
 | .loop c0,c=>KW P S H0 Q c.n c.T (.code (.loop c0) :: c.k) c.e
 | .round R,c=>∀H,Good S H0 c.T c.n H→R c.e H
section
variable {P:Program} {S:Nat→Prop} {H0:AH} {Q:PostC}
theorem WOp.wo {dr:Bool} {ops:Array Oper} {o:Oper} {os:List Oper} {K:Env→AH→Prop} {e:Env} {H:AH} (hw:want ops e o=true) {d:Bool} (hd:drN ops dr os=true→d=true) (h:WOp P d o (fun v H1=>LOb dr ops (ops.size-os.length-1) o e H H1∧Wo P dr ops os K (put e o.dst v) H1) e H):Wo P dr ops (o :: os) K e H:=by
 obtain⟨n,v,H1,h1,hl,m,e',H',h2,h3⟩:=h
 refine⟨max n m,e',H',?_,h3⟩
 simp only[evOps]
 rw[if_pos hw]
 exact⟨v,H1,evOp_dr hd (evOp_mono (evF_mono (Nat.le_max_left _ _)) h1),evOps_mono (evF_mono (Nat.le_max_right _ _)) _ h2,hl⟩
theorem WOp.wo3 {dr:Bool} {ops:Array Oper} {o:Oper} {os:List Oper} {K:Env→AH→Prop} {e:Env} {H:AH} (hw:want ops e o=true) (hc:opClass o.op=3) (h:WOp P (drOf ops dr os) o (fun v H1=>Wo P dr ops os K (put e o.dst v) H1) e H):Wo P dr ops (o :: os) K e H:=by
 obtain⟨n,v,H1,h1,h2⟩:=h
 have hx:drOf ops dr os=true→Ext H H1:=fun hd=>by
  have h1:=h1
  rw[hd] at h1
  unfold evOp at h1
  split at h1
  ·unfold evCall at h1
   split at h1
   ·obtain⟨_,_,_,h⟩:=h1;exact h rfl
   ·exact h1.elim
  ·rename_i hne
   exfalso
   unfold opClass at hc
   split at hc<;>first | (simp at hc;done) | skip
   rename_i f _ _ heq
   exact hne _ _ _ heq
 exact WOp.wo hw drN_drOf ⟨n,v,H1,h1,LOb.call (by omega) hx,h2⟩
theorem WOp.mono {dr:Bool} {o:Oper} {K K':Value→AH→Prop} {e:Env} {H:AH} (h:WOp P dr o K e H) (hk:∀v H1,K v H1→K' v H1):WOp P dr o K' e H:=
 let ⟨n,v,H1,h1,h2⟩:=h;⟨n,v,H1,h1,hk v H1 h2⟩
theorem KW.run {stop:Option Nat}:∀(f:Nat) {k:List It} {e:Env} {T:List Var} {n:Nat} {l r:List Nat} {x:Evt × Cf},runK P stop f k e T n l r=some x→x.2.l=x.2.r→KEvt P S H0 Q x.1 x.2→∃l' r':List Nat,(l'.length=r'.length∧x.2.l=l'++l∧x.2.r=r'++r)∧(l'=r'→KW P S H0 Q n T k e)
 | 0,_,_,_,_,_,_,_,h,_,_=>by simp[runK] at h
 | f+1,[],e,T,n,l,r,x,h,hlr,hk=>by
  simp only[runK] at h
  cases h
  exact⟨[],[],⟨rfl,rfl,rfl⟩,fun _ H g=>hk H g⟩
 | f+1,it :: k,e,T,n,l,r,x,h,hlr,hk=>by
    -- a step that asks nothing
  have pass:∀{k':List It} {e':Env},runK P stop f k' e' T n l r=some x→(KW P S H0 Q n T k' e'→KW P S H0 Q n T (it :: k) e)→∃l' r':List Nat,(l'.length=r'.length∧x.2.l=l'++l∧x.2.r=r'++r)∧(l'=r'→KW P S H0 Q n T (it :: k) e):=by
   intro k' e' h1 h2
   obtain⟨l',r',h3,h4⟩:=KW.run f h1 hlr hk
   exact⟨l',r',h3,fun he=>h2 (h4 he)⟩
  have stop':x.2.l=l→x.2.r=r→KW P S H0 Q n T (it :: k) e→∃l' r':List Nat,(l'.length=r'.length∧x.2.l=l'++l∧x.2.r=r'++r)∧(l'=r'→KW P S H0 Q n T (it :: k) e):=
   fun h1 h2 h3=>⟨[],[],⟨rfl,h1,h2⟩,fun _=>h3⟩
  simp only[runK] at h
  split at h
  ·exact pass h (fun hk' H g=>by simp only[WK];exact hk' H g)
  ·cases h
   exact stop' U U (fun H g=>by simp only[WK];exact hk H g)
  ·rename_i c
   split at h
   ·exact pass h (fun hk' H g=>by simp only[WK];exact fun _=>Wc.skip (hk' H g))
   ·exact pass h (fun hk' H g=>by simp only[WK];exact fun _=>Wc.label (hk' H g))
   ·rename_i ca cb
    have sq:KW P S H0 Q n T (.code ca :: .code cb :: k) e→KW P S H0 Q n T (.code (.seq ca cb) :: k) e:=fun hk' H g=>by
     simp only[WK]
     intro hst
     simp only[stC,Bool.and_eq_true] at hst
     have hk2:=hk' H g
     simp only[WK] at hk2
     refine Wc.seq ((hk2 hst.1).mono ?_)
     intro x e H hx
     cases x with
     | normal=>exact hx hst.2
     | ret=>exact hx
     | exit id=>exact hx
    split at h
    ·cases h
     exact stop' U U (sq hk)
    ·exact pass h sq
   ·rename_i bid bc
    refine pass h (fun hk' H g=>?_)
    simp only[WK]
    intro hst
    have hk2:=hk' H g
    simp only[WK] at hk2
    refine Wc.block ((hk2 hst).mono ?_)
    intro x e H hx
    cases x with
    | normal=>simpa [WK] using hx
    | ret=>simpa [WK] using hx
    | exit id'=>
     simp only[WK] at hx
     by_cases hid:id'=bid
     ·rw[if_pos hid] at hx;rw[if_pos (by rw[hid])];exact hx
     ·have:¬(AX.exit id'=AX.exit bid):=fun h=>hid (by injection h)
      rw[if_neg this]
      rw[if_neg hid] at hx
      exact hx
   ·split at h
    ·rename_i hu
     exact pass h (fun hk' H g=>by simp only[WK];exact fun _=>Wc.exit (unwind_some hu (hk' H g)))
    ·rename_i hu
     cases h
     exact stop' U U (fun H g=>by simp only[WK];exact fun _=>Wc.exit (unwind_none hu (hk H g)))
   ·cases h
    exact stop' U U (fun H g=>by simp only[WK];exact fun _=>Wc.ret (WK_ret (hk H g)))
   ·exact pass h (fun hk' H g=>by
     have hk2:=hk' H g
     simp only[WK] at hk2 ⊢
     exact fun hst=>Wc.region (hk2 hst))
   ·split at h
    ·rename_i t ht
     cases h
     refine stop' U U (fun H g=>?_)
     simp only[WK]
     intro hst
     simp only[stC,Bool.and_eq_true] at hst
     refine Wc.cond ht (fun h=>?_) (fun h=>?_)
     ·have hk2:=hk.1 h H g
      simp only[WK] at hk2
      exact hk2 hst.1
     ·have hk2:=hk.2 h H g
      simp only[WK] at hk2
      exact hk2 hst.2
    ·cases h
   ·cases h
    exact stop' U U hk
   ·cases h
  ·rename_i z dr ops i os
   split at h
   ·exact pass h (fun hk' H g=>by simp only[WK];exact fun _=>Wo.nil (hk' H g))
   ·rename_i o os
    split at h
    ·rename_i hg
     rw[guarded_ok] at hg
     rw[fwd_eq] at h
     exact pass h (fun hk' H g=>by
      have hk2:=hk' H g
      simp only[WK] at hk2 ⊢
      exact fun hst=>Wo.off hg (hk2 hst))
    ·rename_i hg
     rw[guarded_ok] at hg
     split at h
     ·rename_i hc
      split at h
      ·cases h
       refine stop' U U (fun H g=>?_)
       simp only[WK]
       intro hst
       refine WOp.wo hg drN_drOf ((hk H g).mono fun v H1 hx=>⟨LOb.cls (by omega) (by omega),?_⟩)
       simp only[WK] at hx
       exact hx hst
      ·split at h
       ·rename_i v hp
        split at h
        ·rename_i t
         split at h
         ·cases h
          refine stop' U U (fun H g=>?_)
          simp only[WK]
          intro hst
          refine Wo.pure hg hc hp ?_
          cases t with
          | true=>
           have hk2:=hk.1 rfl H g
           simp only[WK] at hk2
           exact hk2 hst
          | false=>
           have hk2:=hk.2 rfl H g
           simp only[WK] at hk2
           exact hk2 hst
         ·rw[fwd_eq] at h
          exact pass h (fun hk' H g=>by
           have hk2:=hk' H g
           simp only[WK] at hk2 ⊢
           exact fun hst=>Wo.pure hg hc hp (hk2 hst))
        ·rw[force_eq,fwd_eq] at h
         exact pass h (fun hk' H g=>by
          have hk2:=hk' H g
          simp only[WK] at hk2 ⊢
          exact fun hst=>Wo.pure hg hc hp (hk2 hst))
       ·cases h
     ·rename_i hc3
      split at h
      ·cases h
       refine stop' U U (fun H g=>?_)
       simp only[WK]
       intro hst
       refine WOp.wo3 hg hc3 ((hk H g).mono fun v H1 hx=>?_)
       simp only[WK] at hx
       exact hx hst
      ·rename_i t0 L0 hlz
       cases h
       refine stop' U U (fun H g=>?_)
       simp only[WK]
       intro hst
       refine WOp.wo hg (fun h=>h) ((hk H g).mono fun v H1 hx=>⟨LOb.of hst (.inl (lzOf_z hlz)) (by rw[hlz];exact hx.1),?_⟩)
       have hx2:=hx.2
       simp only[WK] at hx2
       exact hx2 hst
     ·rename_i h0 h3
      have hle:opClass o.op≤3:=by unfold opClass;split<;>omega
      have h0':opClass o.op≠0:=fun h=>h0 h
      have h3':opClass o.op≠3:=fun h=>h3 h
      split at h
      ·rename_i hlz
       split at h
       ·rename_i q hq
        simp only[forceT_eq,force_eq,fwd_eq] at h
        obtain⟨l',r',⟨h4,h5,h6⟩,h7⟩:=KW.run f h hlr hk
        have hql:q.l.length=q.r.length:=by
         unfold locop at hq
         simp only[forceL_eq] at hq
         repeat' (split at hq)
         all_goals first | (cases hq;done) | (cases hq;rfl)
        refine⟨l'++q.l,r'++q.r,⟨by simp[h4,hql],by rw[h5,List.append_assoc],by rw[h6,List.append_assoc]⟩,fun he H g=>?_⟩
        obtain⟨he1,he2⟩:=List.append_inj he h4
        obtain⟨tag,H1,hh,g1⟩:=locop_ok g hq he2
        have hk2:=h7 he1 H1 g1
        simp only[WK] at hk2 ⊢
        exact fun hst=>Wo.heap hg (by omega) hh (LOb.of hst (.inr h3') (by rw[hlz];intro t ht;cases ht)) (hk2 hst)
       ·cases h
        refine stop' U U (fun H g=>?_)
        simp only[WK]
        intro hst
        refine WOp.wo hg drN_drOf ((hk H g).mono fun v H1 hx=>⟨LOb.of hst (.inr h3') (by rw[hlz];intro t ht;cases ht),?_⟩)
        simp only[WK] at hx
        exact hx hst
      ·rename_i t0 L0 hlz
       cases h
       refine stop' U U (fun H g=>?_)
       simp only[WK]
       intro hst
       refine WOp.wo hg drN_drOf ((hk H g).mono fun v H1 hx=>⟨LOb.of hst (.inr h3') (by rw[hlz];exact hx.1),?_⟩)
       have hx2:=hx.2
       simp only[WK] at hx2
       exact hx2 hst
theorem KW.go {stop:Option Nat} {k:List It} {e:Env} {T:List Var} {n:Nat} {x:Evt} {c:Cf} (h:runK P stop 4000 k e T n [] []=some (x,c)) (hlr:c.l=c.r) (hk:KEvt P S H0 Q x c):KW P S H0 Q n T k e:=by
 obtain⟨l',r',⟨_,h1,h2⟩,h3⟩:=KW.run 4000 h hlr hk
 refine h3 ?_
 simp at h1 h2
 rw[← h1,← h2]
 exact hlr
end
end Go.Proofs.Ytlapbbffoapleaa.Am
/- The rules by which a function is walked: what is read in memory, calls, loops, a function's end. For every program. No condition beyond each theorem's own. -/
set_option linter.unusedSimpArgs false
set_option linter.unusedVariables false
namespace Go.Proofs.Ytlapbbffoapleaa.Am
open Go Go.RowKit
abbrev Ids:=Nat→Prop
def Fz (S:Ids) (H0 H:AH):Prop:=∀id,S id→id<H.n∧H.m id=H0.m id
def Low (n:Nat):Ids:=fun id=>id<n
def New (n m:Nat):Ids:=fun id=>n≤id∧id<m
structure Kn (α:Type) where
 es:Nat
 R:Ids→AH→α→List Value→Prop
 len:∀{S H x cs},R S H x cs→cs.length=es
 same:∀{S H H' x cs},(∀id,S id→H'.m id=H.m id)→R S H x cs→R S H' x cs
 more:∀{S S':Ids} {H x cs},(∀id,S id→S' id)→R S H x cs→R S' H x cs
namespace Kn
def int (k:IntKind):Kn Int where
 es:=1
 R:=fun _ _ x cs=>cs=[.int k x]
 len:=fun h=>by rw[h];rfl
 same:=fun _ h=>h
 more:=fun _ h=>h
def bool:Kn Bool where
 es:=1
 R:=fun _ _ x cs=>cs=[.bool x]
 len:=fun h=>by rw[h];rfl
 same:=fun _ h=>h
 more:=fun _ h=>h
def str:Kn ByteArray where
 es:=1
 R:=fun _ _ x cs=>cs=[.string x]
 len:=fun h=>by rw[h];rfl
 same:=fun _ h=>h
 more:=fun _ h=>h
def Sl {α:Type} (d:Kn α) (S:Ids) (H:AH) (s:Value) (xs:List α):Prop:=
 (xs=[]∧∃a c,s=.slice a 0 c∧(a=none→c=0))∨∃id k c b,s=.slice (some ⟨id,k,some d.es⟩) xs.length c∧xs.length≤c∧S id∧H.m id=some b∧k+xs.length*d.es≤b.cells.length∧
  ∀(i:Nat) x,xs[i]?=some x→d.R S H x ((b.cells.drop (k+i*d.es)).take d.es)
theorem Sl.same {α:Type} {d:Kn α} {S:Ids} {H H':AH} {s:Value} {xs:List α} (hs:∀id,S id→H'.m id=H.m id) (h:d.Sl S H s xs):d.Sl S H' s xs:=by
 rcases h with h | ⟨id,k,c,b,h1,h2,h3,h4,h5,h6⟩
 ·exact .inl h
 ·exact .inr ⟨id,k,c,b,h1,h2,h3,by rw[hs id h3];exact h4,h5,fun i x hx=>d.same hs (h6 i x hx)⟩
theorem Sl.more {α:Type} {d:Kn α} {S S':Ids} {H:AH} {s:Value} {xs:List α} (hS:∀id,S id→S' id) (h:d.Sl S H s xs):d.Sl S' H s xs:=by
 rcases h with h | ⟨id,k,c,b,h1,h2,h3,h4,h5,h6⟩
 ·exact .inl h
 ·exact .inr ⟨id,k,c,b,h1,h2,hS id h3,h4,h5,fun i x hx=>d.more hS (h6 i x hx)⟩
def sl {α:Type} (d:Kn α):Kn (List α) where
 es:=1
 R:=fun S H xs cs=>∃s,cs=[s]∧d.Sl S H s xs
 len:=fun⟨s,h,_⟩=>by rw[h];rfl
 same:=fun hs ⟨s,h,k⟩=>⟨s,h,Sl.same hs k⟩
 more:=fun hS ⟨s,h,k⟩=>⟨s,h,Sl.more hS k⟩
def pair {α β:Type} (a:Kn α) (b:Kn β):Kn (α × β) where
 es:=a.es+b.es
 R:=fun S H x cs=>∃c d,cs=c++d∧a.R S H x.1 c∧b.R S H x.2 d
 len:=fun⟨c,d,h,h1,h2⟩=>by rw[h,List.length_append,a.len h1,b.len h2]
 same:=fun hs ⟨c,d,h,h1,h2⟩=>⟨c,d,h,a.same hs h1,b.same hs h2⟩
 more:=fun hS ⟨c,d,h,h1,h2⟩=>⟨c,d,h,a.more hS h1,b.more hS h2⟩
end Kn
def slId:Value→Nat
 | .slice (some ⟨id,_,_⟩) _ _=>id
 | _=>0
def slOff:Value→Nat
 | .slice (some ⟨_,k,_⟩) _ _=>k
 | _=>0
def elemAt (s:Value) (j:Int) (es:Nat):Value:=.pointer (some ⟨slId s,slOff s+j.toNat*es,none⟩)
section
variable {P:Program} {α:Type} {d:Kn α} {S S':Ids} {H H0:AH} {s:Value} {xs:List α}
theorem Kn.Sl.form (h:d.Sl S H s xs):∃a c,s=.slice a xs.length c:=by
 rcases h with⟨h1,a,c,h2,_⟩ | ⟨id,k,c,b,h1,_⟩
 ·exact⟨a,c,by rw[h2,h1];rfl⟩
 ·exact⟨_,c,h1⟩
theorem Kn.Sl.at_ (h:d.Sl S H s xs) {j:Int} (h0:0≤j) (h1:j<xs.length):∃id k c b x,s=.slice (some ⟨id,k,some d.es⟩) xs.length c∧H.m id=some b∧S id∧xs[j.toNat]?=some x∧k+j.toNat*d.es+d.es≤b.cells.length∧d.R S H x ((b.cells.drop (k+j.toNat*d.es)).take d.es):=by
 rcases h with⟨hx,_⟩ | ⟨id,k,c,b,e1,e2,e3,e4,e5,e6⟩
 ·subst hx;simp at h1;omega
 ·have hj:j.toNat<xs.length:=by omega
  refine⟨id,k,c,b,xs[j.toNat],e1,e4,e3,List.getElem?_eq_getElem hj,?_,e6 _ _ (List.getElem?_eq_getElem hj)⟩
  have:(j.toNat+1)*d.es≤xs.length*d.es:=Nat.mul_le_mul_right _ (by omega)
  rw[Nat.add_mul] at this
  omega
theorem Kn.Sl.to (h:d.Sl S H0 s xs) (hf:Fz S H0 H):d.Sl (Low H.n) H s xs:=Kn.Sl.more (fun id hs=>(hf id hs).1) (Kn.Sl.same (fun id hs=>(hf id hs).2) h)
theorem Kn.Sl.on {H1:AH} (h:d.Sl S H0 s xs) (hs:∀id,S id→H1.m id=H0.m id) (hS:∀id,S id→S' id):d.Sl S' H1 s xs:=Kn.Sl.more hS (Kn.Sl.same hs h)
end
def Spec (P:Program) (S:Ids) (H0:AH) (f:FuncId) (args:List Value) (post:Value→Prop):Prop:=
 ∀H,Fin' H→Fz S H0 H→Run P f args.toArray H (fun v H1=>Ext H H1∧Fin' H1∧post v)
def SpecM (P:Program) (S:Ids) (H0:AH) (f:FuncId) (args:List Value) (post:Nat→Value→AH→Prop):Prop:=
 ∀H,Fin' H→Fz S H0 H→Run P f args.toArray H (fun v H1=>Ext H H1∧Fin' H1∧post H.n v H1)
def aresT (P:Program) (e:Env) (T:List Var):List ResultVar→Option (List Value × List Nat × List Nat)
 | []=>some ([],[],[])
 | .tmp t :: l=>match aresT P e T l with
  | some (vs,a,b)=>some (e t :: vs,a,b)
  | none=>none
 | .cell a t :: l=>match e a with
  | .pointer (some ⟨id,k,some j⟩)=>match T[j]? with
   | some w=>match bload P w.2 t k with
    | some v=>match aresT P e T l with
     | some (vs,a,b)=>some (v :: vs,id :: a,w.1 :: b)
     | none=>none
    | none=>none
   | none=>none
  | _=>none
section
variable {P:Program} {S:Ids} {H0:AH} {Q:PostC}
theorem aresT_ok {e:Env} {T:List Var} {n:Nat} {H:AH} (g:Good S H0 T n H):∀(l:List ResultVar) {vs:List Value} {a b:List Nat},aresT P e T l=some (vs,a,b)→a=b→ares P e H l=some vs
 | [],_,_,_,h,_=>by simp only[aresT] at h;cases h;rfl
 | .tmp t :: l,vs,a,b,h,hab=>by
  simp only[aresT] at h
  split at h
  ·rename_i vs' a' b' h'
   cases h
   simp only[ares,aresT_ok g l h' hab]
  ·cases h
 | .cell ad t :: l,vs,a,b,h,hab=>by
  simp only[aresT] at h
  split at h
  ·rename_i id k j hp
   split at h
   ·rename_i w hw
    split at h
    ·rename_i v hv
     split at h
     ·rename_i vs' a' b' h'
      cases h
      obtain⟨h1,h2⟩:=List.cons.inj hab
      subst h1
      simp only[ares,hp,bload_ok (g.vars j w hw).1,hv,aresT_ok g l h' h2]
     ·cases h
    ·cases h
   ·cases h
  ·cases h
def Fin1 (P:Program) (fn:Func) (post:Value→AH→Prop):PostC:=fun x e H=>
 match x with
 | .exit _=>False
 | _=>match ares P e H fn.results.toList with
  | some vs=>post (aout vs) H
  | none=>False
theorem Good.start {H:AH} (hf:Fin' H):Good (Low H.n) H [] H.n H:=
 ⟨rfl,hf,fun id hs=>⟨hs,rfl⟩,fun j v h=>by simp at h,fun i j u v h=>by simp at h⟩
theorem Good.ext {H H1:AH} {T:List Var} {n:Nat} (g:Good (Low H.n) H T n H1):Ext H H1:=by
 have hn:=g.n_
 refine⟨?_,fun id hid=>(g.froz id hid).2⟩
 rcases Nat.eq_zero_or_pos H.n with h | h
 ·omega
 ·have:=(g.froz (H.n-1) (by unfold Low;omega)).1
  omega
theorem Good.fz {H1:AH} {T:List Var} {n:Nat} (g:Good S H0 T n H1):Fz S H0 H1:=fun id hs=>by
 have hn:=g.n_
 obtain⟨h1,h2⟩:=g.froz id hs
 exact⟨by omega,h2⟩
theorem Good.weak {H1:AH} {T:List Var} {n:Nat} {S':Ids} {H0':AH} (g:Good S H0 T n H1) (hs:∀id,S' id→S id∧H0'.m id=H0.m id):Good S' H0' T n H1:=
 ⟨g.n_,g.fin,fun id h=>⟨(g.froz id (hs id h).1).1,by rw[(g.froz id (hs id h).1).2,(hs id h).2]⟩,fun j v h=>⟨(g.vars j v h).1,(g.vars j v h).2.1,fun hh=>(g.vars j v h).2.2 (hs _ hh).1⟩,g.dist⟩
theorem KW.wc {c:Code} {e:Env} {H:AH} {T:List Var} {n:Nat} (h:KW P S H0 Q n T [.code c] e) (hst:stC c=true) (g:Good S H0 T n H):Wc P c Q e H:=by
 have:=h H g
 simp only[WK] at this
 exact(this hst).mono fun x e H hx=>by cases x<;>exact hx
theorem codeOkS_st {nt:Nat}:∀{c:Code},codeOkS nt c=true→stC c=true:=by
 intro c
 induction c with
 | region id ops dr=>
  intro h
  simp only[codeOkS,stC,Bool.and_eq_true,Bool.or_eq_true] at h ⊢
  rcases h.2 with h | h
  ·exact .inl (.inr h)
  ·exact .inr h
 | seq a b iha ihb=>intro h;simp only[codeOkS,stC,Bool.and_eq_true] at h ⊢;exact⟨iha h.1,ihb h.2⟩
 | cond c a b iha ihb=>intro h;simp only[codeOkS,stC,Bool.and_eq_true] at h ⊢;exact⟨iha h.1.2,ihb h.2⟩
 | block id c ih=>intro h;simp only[codeOkS,stC] at h ⊢;exact ih h
 | loop c ih=>intro h;simp only[codeOkS,stC] at h ⊢;exact ih h
 | _=>intro h;rfl
theorem fnOkS_st {fn:Func} {c:Code} (h:fnOkS fn=true) (hb:fn.body=some c):stC c=true:=by
 unfold fnOkS at h
 rw[hb,Bool.and_eq_true,Bool.and_eq_true] at h
 exact codeOkS_st h.1.2
theorem envL_eq (args:List Value):env0 args.toArray=fun t=>args.getD t undef:=by
 funext t
 simp[env0]
theorem SpecM.of {f:FuncId} {fn:Func} {c:Code} {args:List Value} {post:Nat→Value→AH→Prop} (hf:P.funcs[f]?=some fn) (hb:fn.body=some c) (hok:fnOkS fn=true) (hs:Nat.ble args.length fn.ntmps=true)
  (h:∀H,Fin' H→Fz S H0 H→KW P (Low H.n) H (Fin1 P fn (fun v H1=>Ext H H1∧Fin' H1∧post H.n v H1)) H.n [] [.code c] (fun t=>args.getD t undef)):SpecM P S H0 f args post:=by
 intro H hfin hfz
 refine Run.of hf hb (fnOkS_ok hok) (by simpa using Nat.le_of_ble_eq_true hs) ?_
 rw[envL_eq]
 exact(h H hfin hfz).wc (fnOkS_st hok hb) (Good.start hfin)
theorem Spec.of {f:FuncId} {fn:Func} {c:Code} {args:List Value} {post:Value→Prop} (hf:P.funcs[f]?=some fn) (hb:fn.body=some c) (hok:fnOkS fn=true) (hs:Nat.ble args.length fn.ntmps=true)
  (h:∀H,Fin' H→Fz S H0 H→KW P (Low H.n) H (Fin1 P fn (fun v H1=>Ext H H1∧Fin' H1∧post v)) H.n [] [.code c] (fun t=>args.getD t undef)):Spec P S H0 f args post:=
 SpecM.of (post:=fun _ v _=>post v) hf hb hok hs h
theorem KEvt.fin {fn:Func} {H:AH} {post:Value→Prop} {x:AX} {c:Cf} {vs:List Value} {a b:List Nat} (hx:x=.normal∨x=.ret) (hr:aresT P c.e c.T fn.results.toList=some (vs,a,b)) (hab:a=b) (hp:post (aout vs)):
  KEvt P (Low H.n) H (Fin1 P fn (fun v H1=>Ext H H1∧Fin' H1∧post v)) (.done x) c:=by
 intro H1 g
 have hv:=aresT_ok (P:=P) g _ hr hab
 rcases hx with rfl | rfl<;>simp only[Fin1,hv]<;>exact⟨g.ext,g.fin,hp⟩
theorem KEvt.pure {o:Oper} {dr:Bool} {c:Cf} (v:Value) (hc:opClass o.op=0) (hp:pop P o.op c.e=some v) (hk:KW P S H0 Q c.n c.T c.k (put c.e o.dst v)):KEvt P S H0 Q (.op o dr) c:=by
 intro H g
 refine⟨0,v,H,?_,hk H g⟩
 unfold evOp
 split
 ·rename_i hop;rw[hop] at hc;simp[opClass] at hc
 ·rw[hc];exact⟨hp,rfl⟩
theorem KEvt.heap {o:Oper} {dr:Bool} {c:Cf} (v:Value) (T':List Var) (n':Nat) (hc:opClass o.op=1∨opClass o.op=2) (hp:∀H,Good S H0 c.T c.n H→∃tag H1,hop P tag o.op c.e H=some (v,H1)∧Good S H0 T' n' H1) (hk:KW P S H0 Q n' T' c.k (put c.e o.dst v)):KEvt P S H0 Q (.op o dr) c:=by
 intro H g
 obtain⟨tag,H1,h1,g1⟩:=hp H g
 refine⟨0,v,H1,?_,hk H1 g1⟩
 unfold evOp
 split
 ·rename_i hop;rw[hop] at hc;simp[opClass] at hc
 ·split
  ·rename_i h0;omega
  ·exact⟨tag,h1⟩
def cargs (e:Env) (first cap:Array Value) (xs:Array Operand):List Value:=(first.toList++(xs.toList.map (ev e)++cap.toList)).map untag1
theorem KEvt.callG {o:Oper} {dr:Bool} {c:Cf} {f:Operand} {xs:Array Operand} {ts:Array TypeId} {g:FuncId} {first cap:Array Value} (ho:o.op=.call {callee:=.value f,args:=xs,argTypes:=ts}) (hf:ev c.e f=.func (.func g) first cap)
  {post:Nat→Value→AH→Prop} (hs:∀H,Good S H0 c.T c.n H→Run P g (cargs c.e first cap xs).toArray H (fun v H1=>Ext H H1∧Fin' H1∧post H.n v H1))
  (hk:∀v H1,c.n≤H1.n→(∀id,S id→H1.m id=H0.m id)→post c.n v H1→KW P (fun id=>S id∨New c.n H1.n id) H1 Q H1.n c.T c.k (put c.e o.dst (untag v))):KEvt P S H0 Q (.op o dr) c:=by
 intro H gd
 obtain⟨n,v,H1,h1,hx,hfin,hp⟩:=hs H gd
 have hn:=gd.n_
 have e:untags (first++aargs c.e xs++cap)=(cargs c.e first cap xs).toArray:=by
  apply Array.ext'
  simp[aargs,untags,cargs]
 refine⟨n,untag v,H1,?_,?_⟩
 ·rw[ho]
  simp only[evOp,evCall,hf]
  exact⟨v,rfl,by rw[e];exact h1,fun _=>hx⟩
 ·rw[hn] at hp
  refine hk v H1 (by rw[← hn];exact hx.1) (fun id hs=>by obtain⟨h2,h3⟩:=gd.froz id hs;rw[hx.2 id (by omega),h3]) hp H1 ?_
  refine⟨rfl,hfin,fun id hid=>⟨?_,rfl⟩,fun j w hj=>?_,gd.dist⟩
  ·rcases hid with hid | hid
   ·have:=(gd.froz id hid).1;have:=hx.1;omega
   ·exact hid.2
  ·obtain⟨h2,h3,h4⟩:=gd.vars j w hj
   refine⟨by rw[hx.2 _ (by omega)];exact h2,by have:=hx.1;omega,fun hh=>?_⟩
   rcases hh with hh | hh
   ·exact h4 hh
   ·have:=hh.1;omega
theorem KEvt.callM {o:Oper} {dr:Bool} {c:Cf} {f:Operand} {xs:Array Operand} {ts:Array TypeId} {g:FuncId} {first cap:Array Value} (ho:o.op=.call {callee:=.value f,args:=xs,argTypes:=ts}) (hf:ev c.e f=.func (.func g) first cap)
  {post:Nat→Value→AH→Prop} (hs:SpecM P S H0 g (cargs c.e first cap xs) post)
  (hk:∀v H1,c.n≤H1.n→(∀id,S id→H1.m id=H0.m id)→post c.n v H1→KW P (fun id=>S id∨New c.n H1.n id) H1 Q H1.n c.T c.k (put c.e o.dst (untag v))):KEvt P S H0 Q (.op o dr) c:=
 KEvt.callG ho hf (fun H gd=>hs H gd.fin gd.fz) hk
theorem KEvt.call {o:Oper} {dr:Bool} {c:Cf} {f:Operand} {xs:Array Operand} {ts:Array TypeId} {g:FuncId} {first cap:Array Value} (ho:o.op=.call {callee:=.value f,args:=xs,argTypes:=ts}) (hf:ev c.e f=.func (.func g) first cap)
  {post:Value→Prop} (hs:Spec P S H0 g (cargs c.e first cap xs) post)
  (hk:∀v n',c.n≤n'→post v→KW P S H0 Q n' c.T c.k (put c.e o.dst (untag v))):KEvt P S H0 Q (.op o dr) c:=by
 refine KEvt.callM ho hf (post:=fun _ v _=>post v) hs (fun v H1 hn hsame hp=>?_)
 intro H gd
 exact hk v H1.n hn hp H (gd.weak (fun id hs=>⟨.inl hs,(hsame id hs).symm⟩))
theorem KEvt.callV {o:Oper} {dr:Bool} {c:Cf} {f:Operand} {xs:Array Operand} {ts:Array TypeId} {g:FuncId} {first cap:Array Value} (ho:o.op=.call {callee:=.value f,args:=xs,argTypes:=ts}) (hf:ev c.e f=.func (.func g) first cap)
  {post:Value→Prop} (hs:∀H,Good S H0 c.T c.n H→Spec P (Low H.n) H g (cargs c.e first cap xs) post)
  (hk:∀v n',c.n≤n'→post v→KW P S H0 Q n' c.T c.k (put c.e o.dst (untag v))):KEvt P S H0 Q (.op o dr) c:=by
 refine KEvt.callG ho hf (post:=fun _ v _=>post v) (fun H gd=>hs H gd H gd.fin (fun id hid=>⟨hid,rfl⟩)) (fun v H1 hn hsame hp=>?_)
 intro H gd
 exact hk v H1.n hn hp H (gd.weak (fun id hs=>⟨.inl hs,(hsame id hs).symm⟩))
theorem KEvt.idx {α:Type} {d:Kn α} {o:Oper} {dr:Bool} {c:Cf} {t el:TypeId} {x i:Operand} {inf:TypeInfo} {s:Value} {xs:List α} {kk:IntKind} {j:Int} (ho:o.op=.indexAddr t x i) (hs:d.Sl S H0 s xs) (h0:0≤j) (h1:j<xs.length)
  (hu:P.underlying t=some (.slice el)) (hi:P.info? el=some inf) (he:inf.size=d.es) (hx:ev c.e x=s) (hj:ev c.e i=.int kk j) (hk:KW P S H0 Q c.n c.T c.k (put c.e o.dst (elemAt s j d.es))):KEvt P S H0 Q (.op o dr) c:=by
 obtain⟨id,k,cc,b,y,rfl,_⟩:=hs.at_ h0 h1
 refine KEvt.pure _ (by rw[ho];rfl) ?_ hk
 rw[ho]
 simp only[pop,hu,hx,hj,hi,he]
 rw[if_pos ⟨h0,h1⟩]
 rfl
theorem KEvt.ld {α:Type} {d:Kn α} {o:Oper} {dr:Bool} {c:Cf} {t:TypeId} {x:Operand} {s:Value} {xs:List α} {j:Int} {td:TypeDesc} (ho:o.op=.load t x) (hs:d.Sl S H0 s xs) (h0:0≤j) (h1:j<xs.length) (hes:d.es=1)
  (hu:P.underlying t=some td) (hnot:(match td with | .struct _=>false | .array _ _=>false | _=>true)=true) (hx:ev c.e x=elemAt s j d.es)
  (hk:∀y v,xs[j.toNat]?=some y→d.R S H0 y [v]→KW P S H0 Q c.n c.T c.k (put c.e o.dst v)):KEvt P S H0 Q (.op o dr) c:=by
 obtain⟨id,k,cc,b,y,rfl,hm,hS,hy,hl,hR⟩:=hs.at_ h0 h1
 obtain⟨v,hv⟩:∃v,(b.cells.drop (k+j.toNat*d.es)).take d.es=[v]:=List.length_eq_one_iff.1 (by rw[d.len hR,hes])
 rw[hv] at hR
 have hc:b.cells[k+j.toNat*d.es]?=some v:=by
  have:((b.cells.drop (k+j.toNat*d.es)).take d.es)[0]?=some v:=by rw[hv];rfl
  rw[List.getElem?_take,if_pos (by omega),List.getElem?_drop] at this
  simpa using this
 refine KEvt.heap v c.T c.n (by rw[ho];exact .inl rfl) (fun H g=>⟨none,H,?_,g⟩) (hk y v hy hR)
 rw[ho]
 have hb:H.m id=some b:=by rw[(g.froz id hS).2];exact hm
 have hl':aload P H t id (k+j.toNat*d.es)=some v:=by
  unfold aload
  simp only[hb,hu]
  cases td<;>first | exact hc | (simp at hnot)
 simp only[hop,hx,elemAt,slId,slOff,hl']
def kn (b:Env):List (Nat × Value)→Env
 | []=>b
 | (t,v) :: l=>fun j=>if j=t then v else kn b l j
def Has (e:Env):List (Nat × Value)→Prop
 | []=>True
 | (t,v) :: l=>e t=v∧Has e l
theorem kn_self:∀(l:List (Nat × Value)) {e:Env},Has e l→kn e l=e
 | [],_,_=>rfl
 | (t,v) :: l,e,h=>by
  funext j
  simp only[kn]
  split
  ·rename_i hj;subst hj;exact h.1.symm
  ·rw[kn_self l h.2]
theorem KW.loop {σ:Type} {c:Code} {k:List It} {e:Env} {T:List Var} {n:Nat} (L:σ→List (Nat × Value)) (SS:σ→Ids) (HH:σ→AH) (TT:σ→List Var) (I:σ→Prop) (μ:σ→Nat) (s:σ) (h0:I s) (hL:Has e (L s)) (hS:SS s=S) (hH:HH s=H0) (hT:TT s=T)
  (step:∀s,I s→∀b n,KW P (SS s) (HH s) Q n (TT s) (.code c :: .rnd (fun e H=>∃s',I s'∧μ s'<μ s∧Has e (L s')∧Good (SS s') (HH s') (TT s') H.n H) :: k) (kn b (L s))):KW P S H0 Q n T (.code (.loop c) :: k) e:=by
 intro H g
 simp only[WK]
 intro hst
 refine Wc.rounds (fun m e H=>∃s,μ s=m∧I s∧Has e (L s)∧Good (SS s) (HH s) (TT s) H.n H) (k:=μ s) ⟨s,rfl,h0,hL,by rw[hS,hH,hT,g.n_];exact g⟩ ?_
 rintro m e H ⟨s,rfl,hi,hL,g⟩
 have h:=step s hi e H.n H g
 rw[kn_self _ hL] at h
 simp only[WK] at h
 refine(h hst).mono fun x e H hx=>?_
 cases x with
 | normal=>obtain⟨s',h1,h2,h3,h4⟩:=hx;exact⟨μ s',h2,s',rfl,h1,h3,h4⟩
 | exit id=>exact hx
 | ret=>exact hx
theorem KW.loop0 {σ:Type} {c:Code} {k:List It} {e:Env} {T:List Var} {n:Nat} (L:σ→List (Nat × Value)) (I:σ→Prop) (μ:σ→Nat) (s:σ) (h0:I s) (hL:Has e (L s))
  (step:∀s,I s→∀b n,KW P S H0 Q n T (.code c :: .rnd (fun e H=>∃s',I s'∧μ s'<μ s∧Has e (L s')∧Good S H0 T H.n H) :: k) (kn b (L s))):KW P S H0 Q n T (.code (.loop c) :: k) e:=
 KW.loop L (fun _=>S) (fun _=>H0) (fun _=>T) I μ s h0 hL U U U step
end
end Go.Proofs.Ytlapbbffoapleaa.Am

namespace Go.Proofs.Ytlapbbffoapleaa.Am
open Go Go.RowKit
section
variable {P:Program} {S:Ids} {H0:AH} {Q:PostC} {k k1 k2:List It} {e e1 e2:Env} {T T1 T2:List Var} {n n1 n2:Nat} {l1 r1 l2 r2:List Nat} {d1 d2:Tmp}
theorem wr {x:Int} (h:-9223372036854775808≤x) (h':x≤9223372036854775807):IntKind.i64.wrap x=x:=IntWalk.i64_in x ⟨h,h'⟩
theorem wru {n:Int} (h0:0≤n) (h1:n<18446744073709551616):IntKind.u64.wrap n=n:=by
 simp[IntKind.wrap,IntKind.bits,IntKind.signed];omega
abbrev Go1 (P:Program) (k:List It) (e:Env) (T:List Var) (n:Nat) (x:Evt) (k1:List It) (e1:Env) (T1:List Var) (n1:Nat) (l1 r1:List Nat):Prop:=runK P none 4000 k e T n [] []=some (x,⟨k1,e1,T1,n1,l1,r1⟩)
theorem KW.cnd {p:Prop} [Decidable p] {a b:Code} (h:Go1 P k e T n (.cond (decide p) a b) k1 e1 T1 n1 l1 r1) (hlr:l1=r1) (h1:p→KW P S H0 Q n1 T1 (.code a :: k1) e1) (h2:¬p→KW P S H0 Q n1 T1 (.code b :: k1) e1):KW P S H0 Q n T k e:=
 KW.go h hlr ⟨fun h=>h1 (of_decide_eq_true h),fun h=>h2 (of_decide_eq_false h)⟩
theorem KW.cndB {t:Bool} {a b:Code} (h:Go1 P k e T n (.cond t a b) k1 e1 T1 n1 l1 r1) (hlr:l1=r1) (h1:t=true→KW P S H0 Q n1 T1 (.code a :: k1) e1) (h2:t=false→KW P S H0 Q n1 T1 (.code b :: k1) e1):KW P S H0 Q n T k e:=
 KW.go h hlr ⟨h1,h2⟩
theorem KW.tst {p:Prop} [Decidable p] (h:Go1 P k e T n (.test (some d1) (decide p)) k1 e1 T1 n1 l1 r1) (hlr:l1=r1) (h1:p→KW P S H0 Q n1 T1 k1 (put1 e1 d1 (.bool true))) (h2:¬p→KW P S H0 Q n1 T1 k1 (put1 e1 d1 (.bool false))):KW P S H0 Q n T k e:=
 KW.go h hlr ⟨fun h=>by rw[put1_eq];exact h1 (of_decide_eq_true h),fun h=>by rw[put1_eq];exact h2 (of_decide_eq_false h)⟩
theorem KW.tstB {t:Bool} (h:Go1 P k e T n (.test (some d1) t) k1 e1 T1 n1 l1 r1) (hlr:l1=r1) (h1:t=true→KW P S H0 Q n1 T1 k1 (put1 e1 d1 (.bool true))) (h2:t=false→KW P S H0 Q n1 T1 k1 (put1 e1 d1 (.bool false))):KW P S H0 Q n T k e:=
 KW.go h hlr ⟨fun h=>by rw[put1_eq];exact h1 h,fun h=>by rw[put1_eq];exact h2 h⟩
theorem KW.ret {fn:Func} {H:AH} {post:Value→Prop} {vs:List Value} {a b:List Nat} (h:Go1 P k e T n (.done .ret) k1 e1 T1 n1 l1 r1) (hlr:l1=r1) (hr:aresT P e1 T1 fn.results.toList=some (vs,a,b)) (hab:a=b) (hp:post (aout vs)):KW P (Low H.n) H (Fin1 P fn (fun v H1=>Ext H H1∧Fin' H1∧post v)) n T k e:=
 KW.go h hlr (KEvt.fin (.inr rfl) hr hab hp)
theorem KW.callM {dr:Bool} {f:Operand} {xs:Array Operand} {ts:Array TypeId} {g:FuncId} {first cap:Array Value} {o:Oper} {post:Nat→Value→AH→Prop} (h:Go1 P k e T n (.op o dr) k1 e1 T1 n1 l1 r1) (hlr:l1=r1) (ho:o.op=.call {callee:=.value f,args:=xs,argTypes:=ts}) (hd:o.dst=some d1) (hf:ev e1 f=.func (.func g) first cap)
  (hs:SpecM P S H0 g (cargs e1 first cap xs) post)
  (hk:∀v H1,n1≤H1.n→(∀id,S id→H1.m id=H0.m id)→post n1 v H1→KW P (fun id=>S id∨New n1 H1.n id) H1 Q H1.n T1 k1 (put1 e1 d1 (untag v))):KW P S H0 Q n T k e:=
 KW.go h hlr (KEvt.callM (c:=⟨_,_,_,_,_,_⟩) ho hf hs (fun v H1 h1 h2 h3=>by rw[hd,put1_eq];exact hk v H1 h1 h2 h3))
theorem KW.callE {dr:Bool} {f:Operand} {xs:Array Operand} {ts:Array TypeId} {g:FuncId} {first cap:Array Value} {o:Oper} {v:Value} (h:Go1 P k e T n (.op o dr) k1 e1 T1 n1 l1 r1) (hlr:l1=r1) (ho:o.op=.call {callee:=.value f,args:=xs,argTypes:=ts}) (hd:o.dst=some d1) (hf:ev e1 f=.func (.func g) first cap)
  (hs:Spec P S H0 g (cargs e1 first cap xs) (fun u=>u=v))
  (hk:∀n',n1≤n'→KW P S H0 Q n' T1 k1 (put1 e1 d1 (untag v))):KW P S H0 Q n T k e:=
 KW.go h hlr (KEvt.call (c:=⟨_,_,_,_,_,_⟩) ho hf hs (fun v' n' hn hv=>by subst hv;rw[hd,put1_eq];exact hk n' hn))
theorem KW.call {dr:Bool} {f:Operand} {xs:Array Operand} {ts:Array TypeId} {g:FuncId} {first cap:Array Value} {o:Oper} {post:Value→Prop} (h:Go1 P k e T n (.op o dr) k1 e1 T1 n1 l1 r1) (hlr:l1=r1) (ho:o.op=.call {callee:=.value f,args:=xs,argTypes:=ts}) (hd:o.dst=some d1) (hf:ev e1 f=.func (.func g) first cap)
  (hs:Spec P S H0 g (cargs e1 first cap xs) post)
  (hk:∀v n',n1≤n'→post v→KW P S H0 Q n' T1 k1 (put1 e1 d1 (untag v))):KW P S H0 Q n T k e:=
 KW.go h hlr (KEvt.call (c:=⟨_,_,_,_,_,_⟩) ho hf hs (fun v n' hn hv=>by rw[hd,put1_eq];exact hk v n' hn hv))
theorem KW.callV {dr:Bool} {f:Operand} {xs:Array Operand} {ts:Array TypeId} {g:FuncId} {first cap:Array Value} {o:Oper} {v:Value} (h:Go1 P k e T n (.op o dr) k1 e1 T1 n1 l1 r1) (hlr:l1=r1) (ho:o.op=.call {callee:=.value f,args:=xs,argTypes:=ts}) (hd:o.dst=some d1) (hf:ev e1 f=.func (.func g) first cap)
  (hs:∀H,Good S H0 T1 n1 H→Spec P (Low H.n) H g (cargs e1 first cap xs) (fun u=>u=v))
  (hk:∀n',n1≤n'→KW P S H0 Q n' T1 k1 (put1 e1 d1 (untag v))):KW P S H0 Q n T k e:=
 KW.go h hlr (KEvt.callV (c:=⟨_,_,_,_,_,_⟩) ho hf hs (fun v' n' hn hv=>by subst hv;rw[hd,put1_eq];exact hk n' hn))
theorem KW.nxt {R:Env→AH→Prop} (h:Go1 P k e T n (.round R) k1 e1 T1 n1 l1 r1) (hlr:l1=r1) (hk:∀H,Good S H0 T1 H.n H→R e1 H):KW P S H0 Q n T k e:=
 KW.go h hlr (fun H g=>hk H (by have:=g.n_;rw[this];exact g))
theorem KW.lp {σ:Type} {a:Code} (h:Go1 P k e T n (.loop a) k1 e1 T1 n1 l1 r1) (hlr:l1=r1) (L:σ→List (Nat × Value)) (I:σ→Prop) (μ:σ→Nat) (s:σ) (h0:I s) (hL:Has e1 (L s))
  (step:∀s,I s→∀b n,KW P S H0 Q n T1 (.code a :: .rnd (fun e H=>∃s',I s'∧μ s'<μ s∧Has e (L s')∧Good S H0 T1 H.n H) :: k1) (kn b (L s))):KW P S H0 Q n T k e:=
 KW.go h hlr (KW.loop0 L I μ s h0 hL step)
theorem KW.mid {σ:Type} {a b:Code} (stop:Nat) (h:runK P (some stop) 4000 k e T n [] []=some (.cut a b,⟨k1,e1,T1,n1,l1,r1⟩)) (hlr:l1=r1) (L:σ→List (Nat × Value)) (I:σ→Prop)
  (h1:KW P S H0 Q n1 T1 (.code a :: .rnd (fun e H=>∃s,I s∧Has e (L s)∧Good S H0 T1 H.n H) :: .code b :: k1) e1)
  (h2:∀s,I s→∀b' n,KW P S H0 Q n T1 (.code b :: k1) (kn b' (L s))):KW P S H0 Q n T k e:=by
 refine KW.go h hlr (fun H g=>?_)
 have h3:=h1 H g
 simp only[WK] at h3 ⊢
 intro hst
 refine(h3 hst).mono fun x e H hx=>?_
 cases x with
 | normal=>
  obtain⟨s,hi,hL,g'⟩:=hx
  have:=h2 s hi e H.n H g'
  rw[kn_self _ hL] at this
  simpa only[WK] using this
 | exit id=>exact hx
 | ret=>exact hx
theorem KW.pure {o:Oper} {dr:Bool} {op:Op} (h:Go1 P k e T n (.op o dr) k1 e1 T1 n1 l1 r1) (hlr:l1=r1) (ho:o.op=op) (hd:o.dst=some d1) (hc:opClass op=0) (v:Value) (hp:pop P op e1=some v) (hk:KW P S H0 Q n1 T1 k1 (put1 e1 d1 v)):KW P S H0 Q n T k e:=
 KW.go h hlr (KEvt.pure (c:=⟨_,_,_,_,_,_⟩) v (by rw[ho];exact hc) (by rw[ho];exact hp) (by rw[hd,put1_eq];exact hk))
theorem KW.ldP {o:Oper} {dr:Bool} {t:TypeId} {x:Operand} {id kk:Nat} {sp:Option Nat} {b:Blk} {v:Value} (hS:S id) (hm:H0.m id=some b) (h:Go1 P k e T n (.op o dr) k1 e1 T1 n1 l1 r1) (hlr:l1=r1) (ho:o.op=.load t x) (hd:o.dst=some d1) (hx:ev e1 x=.pointer (some ⟨id,kk,sp⟩)) (hv:bload P b t kk=some v)
  (hk:KW P S H0 Q n1 T1 k1 (put1 e1 d1 v)):KW P S H0 Q n T k e:=by
 refine KW.go h hlr (KEvt.heap (c:=⟨_,_,_,_,_,_⟩) v T1 n1 (by rw[ho];exact .inl rfl) (fun H g=>⟨none,H,?_,g⟩) (by rw[hd,put1_eq];exact hk))
 have hb:H.m id=some b:=by rw[(g.froz id hS).2];exact hm
 rw[ho]
 simp only[hop,hx,bload_ok hb,hv]
theorem KW.get {α:Type} {d:Kn α} {xs:List α} {o o':Oper} {dr dr':Bool} {t t' el:TypeId} {x x' i:Operand} {inf:TypeInfo} {s:Value} {kk:IntKind} {j:Int} {td:TypeDesc} (hs:d.Sl S H0 s xs) (h:Go1 P k e T n (.op o dr) k1 e1 T1 n1 l1 r1) (hlr:l1=r1) (ho:o.op=.indexAddr t x i) (hd:o.dst=some d1) (hx:ev e1 x=s) (hj:ev e1 i=.int kk j) (hu:P.underlying t=some (.slice el)) (hi:P.info? el=some inf) (he:inf.size=d.es)
  (h':Go1 P k1 (put1 e1 d1 (elemAt s j d.es)) T1 n1 (.op o' dr') k2 e2 T2 n2 l2 r2) (hlr':l2=r2) (ho':o'.op=.load t' x') (hd':o'.dst=some d2) (hx':ev e2 x'=elemAt s j d.es) (hes:d.es=1)
  (hu':P.underlying t'=some td) (hnot:(match td with | .struct _=>false | .array _ _=>false | _=>true)=true) (h0:0≤j) (h1:j<xs.length)
  (hk:∀y v,xs[j.toNat]?=some y→d.R S H0 y [v]→KW P S H0 Q n2 T2 k2 (put1 e2 d2 v)):KW P S H0 Q n T k e:=
 KW.go h hlr (KEvt.idx (c:=⟨_,_,_,_,_,_⟩) ho hs h0 h1 hu hi he hx hj (by rw[hd,put1_eq];exact KW.go h' hlr' (KEvt.ld (c:=⟨_,_,_,_,_,_⟩) ho' hs h0 h1 hes hu' hnot hx' (fun y v h1 h2=>by rw[hd',put1_eq];exact hk y v h1 h2))))
theorem KW.getI {ik:IntKind} {xs:List Int} {o o':Oper} {dr dr':Bool} {t t' el:TypeId} {x x' i:Operand} {inf:TypeInfo} {s:Value} {kk:IntKind} {j:Int} {td:TypeDesc} (hs:(Kn.int ik).Sl S H0 s xs) (h:Go1 P k e T n (.op o dr) k1 e1 T1 n1 l1 r1) (hlr:l1=r1) (ho:o.op=.indexAddr t x i) (hd:o.dst=some d1) (hx:ev e1 x=s) (hj:ev e1 i=.int kk j) (hu:P.underlying t=some (.slice el)) (hi:P.info? el=some inf) (he:inf.size=1)
  (h':Go1 P k1 (put1 e1 d1 (elemAt s j 1)) T1 n1 (.op o' dr') k2 e2 T2 n2 l2 r2) (hlr':l2=r2) (ho':o'.op=.load t' x') (hd':o'.dst=some d2) (hx':ev e2 x'=elemAt s j 1)
  (hu':P.underlying t'=some td) (hnot:(match td with | .struct _=>false | .array _ _=>false | _=>true)=true) (h0:0≤j) (h1:j<xs.length)
  (hk:∀y,xs[j.toNat]?=some y→KW P S H0 Q n2 T2 k2 (put1 e2 d2 (Value.int ik y))):KW P S H0 Q n T k e:=
 KW.get hs h hlr ho hd hx hj hu hi he h' hlr' ho' hd' hx' rfl hu' hnot h0 h1 (fun y v hy hv=>by
  have:v=Value.int ik y:=by simpa [Kn.int] using hv
  subst this;exact hk y hy)
theorem KW.getB {xs:List Bool} {o o':Oper} {dr dr':Bool} {t t' el:TypeId} {x x' i:Operand} {inf:TypeInfo} {s:Value} {kk:IntKind} {j:Int} {td:TypeDesc} (hs:(Kn.bool).Sl S H0 s xs) (h:Go1 P k e T n (.op o dr) k1 e1 T1 n1 l1 r1) (hlr:l1=r1) (ho:o.op=.indexAddr t x i) (hd:o.dst=some d1) (hx:ev e1 x=s) (hj:ev e1 i=.int kk j) (hu:P.underlying t=some (.slice el)) (hi:P.info? el=some inf) (he:inf.size=1)
  (h':Go1 P k1 (put1 e1 d1 (elemAt s j 1)) T1 n1 (.op o' dr') k2 e2 T2 n2 l2 r2) (hlr':l2=r2) (ho':o'.op=.load t' x') (hd':o'.dst=some d2) (hx':ev e2 x'=elemAt s j 1)
  (hu':P.underlying t'=some td) (hnot:(match td with | .struct _=>false | .array _ _=>false | _=>true)=true) (h0:0≤j) (h1:j<xs.length)
  (hk:∀y,xs[j.toNat]?=some y→KW P S H0 Q n2 T2 k2 (put1 e2 d2 (Value.bool y))):KW P S H0 Q n T k e:=
 KW.get hs h hlr ho hd hx hj hu hi he h' hlr' ho' hd' hx' rfl hu' hnot h0 h1 (fun y v hy hv=>by
  have:v=Value.bool y:=by simpa [Kn.bool] using hv
  subst this;exact hk y hy)
theorem KW.getL {α:Type} {d:Kn α} {xs:List (List α)} {o o':Oper} {dr dr':Bool} {t t' el:TypeId} {x x' i:Operand} {inf:TypeInfo} {s:Value} {kk:IntKind} {j:Int} {td:TypeDesc} (hs:d.sl.Sl S H0 s xs) (h:Go1 P k e T n (.op o dr) k1 e1 T1 n1 l1 r1) (hlr:l1=r1) (ho:o.op=.indexAddr t x i) (hd:o.dst=some d1) (hx:ev e1 x=s) (hj:ev e1 i=.int kk j) (hu:P.underlying t=some (.slice el)) (hi:P.info? el=some inf) (he:inf.size=1)
  (h':Go1 P k1 (put1 e1 d1 (elemAt s j 1)) T1 n1 (.op o' dr') k2 e2 T2 n2 l2 r2) (hlr':l2=r2) (ho':o'.op=.load t' x') (hd':o'.dst=some d2) (hx':ev e2 x'=elemAt s j 1)
  (hu':P.underlying t'=some td) (hnot:(match td with | .struct _=>false | .array _ _=>false | _=>true)=true) (h0:0≤j) (h1:j<xs.length)
  (hk:∀y a m,xs[j.toNat]?=some y→d.Sl S H0 (.slice a y.length m) y→KW P S H0 Q n2 T2 k2 (put1 e2 d2 (.slice a y.length m))):KW P S H0 Q n T k e:=
 KW.get hs h hlr ho hd hx hj hu hi he h' hlr' ho' hd' hx' rfl hu' hnot h0 h1 (fun y v hy hv=>by
  obtain⟨s',h1,h2⟩:=hv
  obtain rfl:v=s':=by simpa using h1
  obtain⟨a,m,rfl⟩:=h2.form
  exact hk y a m hy h2)
end
end Go.Proofs.Ytlapbbffoapleaa.Am
namespace Go.Proofs.Ytlapbbffoapleaa.Am
open Go Go.RowKit Go.ChangeShapes Go.WideShapes
structure Pre (w:World) (ρ:Ren) (A:AH):Prop where
 wr:WR w ρ A w
 free:∀id,A.n≤id→ρ id=none
structure Up (ρ:Ren) (A:AH) (ρ':Ren) (A':AH):Prop where
 nle:A.n≤A'.n
 m:∀id,id<A.n→A'.m id=A.m id
 r:∀id,id<A.n→ρ' id=ρ id
theorem Up.refl (ρ:Ren) (A:AH):Up ρ A ρ A:=⟨Nat.le_refl _,fun _ _=>rfl,fun _ _=>rfl⟩
theorem Up.trans {ρ ρ1 ρ2:Ren} {A A1 A2:AH} (h:Up ρ A ρ1 A1) (k:Up ρ1 A1 ρ2 A2):Up ρ A ρ2 A2:=by
 have:=h.nle
 have:=k.nle
 exact⟨by omega,fun id hi=>by rw[k.m id (by omega),h.m id hi],fun id hi=>by rw[k.r id (by omega),h.r id hi]⟩
theorem Up.le {w:World} {ρ ρ':Ren} {A A':AH} (h:Up ρ A ρ' A') (p:Pre w ρ A):Le ρ ρ':=fun id l hl=>by
 rcases Nat.lt_or_ge id A.n with hi | hi
 ·rw[h.r id hi];exact hl
 ·rw[p.free id hi] at hl;cases hl
def CR (ρ:Ren) (acs cs:List Value):Prop:=acs.length=cs.length∧∀(i:Nat) v,acs[i]?=some v→∃c,cs[i]?=some c∧VR ρ v c
theorem CR.mono {ρ ρ':Ren} (hl:Le ρ ρ') {acs cs:List Value} (h:CR ρ acs cs):CR ρ' acs cs:=⟨h.1,fun i v hv=>by
 obtain⟨c,h1,h2⟩:=h.2 i v hv
 exact⟨c,h1,h2.mono hl⟩⟩
theorem CR.one {ρ:Ren} {v c:Value} (h:VR ρ v c):CR ρ [v] [c]:=⟨rfl,fun i u hu=>by
 cases i with
 | zero=>cases hu;exact⟨c,rfl,h⟩
 | succ i=>simp at hu⟩
theorem CR.append {ρ:Ren} {a b c d:List Value} (h:CR ρ a c) (k:CR ρ b d):CR ρ (a++b) (c++d):=by
 refine⟨by simp[h.1,k.1],fun i v hv=>?_⟩
 rcases Nat.lt_or_ge i a.length with hi | hi
 ·rw[List.getElem?_append_left hi] at hv
  obtain⟨u,h1,h2⟩:=h.2 i v hv
  exact⟨u,by rw[List.getElem?_append_left (by rw[← h.1];exact hi)];exact h1,h2⟩
 ·rw[List.getElem?_append_right hi] at hv
  obtain⟨u,h1,h2⟩:=k.2 _ v hv
  exact⟨u,by rw[List.getElem?_append_right (by rw[← h.1];exact hi),← h.1];exact h1,h2⟩
theorem CR.vrs {ρ:Ren} {a c:List Value} (h:CR ρ a c):VRs ρ a.toArray c.toArray:=by
 refine⟨by simp[h.1],fun i hi=>?_⟩
 have hi':i<a.length:=by simpa using hi
 obtain⟨u,h1,h2⟩:=h.2 i a[i] (List.getElem?_eq_getElem hi')
 simpa [List.getD_eq_getElem?_getD,h1,List.getElem?_eq_getElem hi'] using h2
theorem CR.agg {ρ:Ren} {a:List Value} {c:Array Value} (h:CR ρ a c.toList):VR ρ (.agg a.toArray) (.agg c):=by
 have:=h.vrs
 simp only[Array.toArray_toList] at this
 exact .agg _ _ this.1 this.2
theorem Pre.push {w:World} {ρ:Ren} {A:AH} (p:Pre w ρ A) {ty:Nat} {F:List Value} {l:Loc} (hb:l.blk<w.heap.size) (hF:∀(q:Nat) v,F[q]?=some v→∃c,w.cell? ⟨l.blk,l.off+q,none⟩=some c∧VR ρ v c):
  Pre w (fun id=>if id=A.n then some l else ρ id) ⟨A.n+1,fun id=>if id=A.n then some ⟨ty,false,F⟩ else A.m id⟩∧Up ρ A (fun id=>if id=A.n then some l else ρ id) ⟨A.n+1,fun id=>if id=A.n then some ⟨ty,false,F⟩ else A.m id⟩:=by
 have up:Up ρ A (fun id=>if id=A.n then some l else ρ id) ⟨A.n+1,fun id=>if id=A.n then some ⟨ty,false,F⟩ else A.m id⟩:=⟨Nat.le_succ _,fun id hi=>if_neg (by omega),fun id hi=>if_neg (by omega)⟩
 have le:=up.le p
 refine⟨⟨⟨p.wr.below,?_,?_,?_,?_,?_⟩,fun id hi=>by have hi:A.n+1≤id:=hi;rw[if_neg (by omega)];exact p.free id (by omega)⟩,up⟩
 ·intro id b l' hi hm hr hrw
  simp only at hi hm hr
  split at hm
  ·cases hm;cases hrw
  ·rename_i hne
   rw[if_neg hne] at hr
   obtain⟨h1,cs,h2,h3,h4⟩:=p.wr.own id b l' (by omega) hm hr hrw
   exact⟨h1,cs,h2,h3,fun i v hv=>by obtain⟨c,h5,h6⟩:=h4 i v hv;exact⟨c,h5,h6.mono le⟩⟩
 ·intro id b l' hi hm hr hrw
  simp only at hi hm hr
  split at hm
  ·rename_i he
   cases hm
   rw[if_pos he] at hr
   cases hr
   exact⟨hb,fun i v hv=>by obtain⟨c,h5,h6⟩:=hF i v hv;exact⟨c,h5,h6.mono le⟩⟩
  ·rename_i hne
   rw[if_neg hne] at hr
   obtain⟨h1,h4⟩:=p.wr.came id b l' (by omega) hm hr hrw
   exact⟨h1,fun i v hv=>by obtain⟨c,h5,h6⟩:=h4 i v hv;exact⟨c,h5,h6.mono le⟩⟩
 ·intro id id' b b' l1 l2 hi hi' hm hm' hr hr' hrw hrw' he
  simp only at hi hi' hm hm' hr hr'
  split at hm
  ·cases hm;cases hrw
  ·rename_i hne
   split at hm'
   ·cases hm';cases hrw'
   ·rename_i hne'
    rw[if_neg hne] at hr
    rw[if_neg hne'] at hr'
    exact p.wr.inj id id' b b' l1 l2 (by omega) (by omega) hm hm' hr hr' hrw hrw' he
 ·intro id l' hr
  have hr:(if id=A.n then some l else ρ id)=some l':=hr
  split at hr
  ·cases hr;exact hb
  ·exact p.wr.lt id l' hr
 ·intro id hi
  have hi:A.n+1≤id:=hi
  show(if id=A.n then _ else _)=_
  rw[if_neg (by omega)]
  exact p.wr.fin id (by omega)
theorem Pre.start (w:World):Pre w (fun _=>none) ⟨0,fun _=>none⟩:=
 ⟨⟨Below.refl _ _,fun _ _ _ h=>by simp at h,fun _ _ _ h=>by simp at h,fun _ _ _ _ _ _ h=>by simp at h,fun _ _ h=>by simp at h,fun _ _=>rfl⟩,fun _ _=>rfl⟩
def Opn {α:Type} (P:Program) (t:TypeId) (d:Kn α) (wf:α→Prop):Prop:=
 ∀(H:Type) (enc:TypeId × Value→H) (w:World) (base:Nat) (held:Bool) (fuel:Nat) (cs:List Value) (x:DataW H × List MemPlace),
  DataW.trod enc P w base (fun _=>true) held fuel t cs=some x→(∀n∈x.1.weights P t,n≤reachBytes)→∀ρ A,Pre w ρ A→
   ∃(a:α) (ρ':Ren) (A':AH) (acs:List Value),Up ρ A ρ' A'∧Pre w ρ' A'∧CR ρ' acs cs∧d.R (Low A'.n) A' a acs∧wf a
section
variable {P:Program} {t:TypeId}
theorem Opn.int {k:IntKind} (ht:P.underlying t=some (.int k)):Opn P t (Kn.int k) (fun a=>(Lit.int k a).wf=true):=by
 intro H enc w base held fuel cs x h _ ρ A p
 obtain⟨n,rfl,rfl,hw⟩:=DataW.trod_int ht h
 exact⟨n,ρ,A,_,Up.refl _ _,p,CR.one (.sc _ rfl),rfl,hw⟩
theorem Opn.bool (ht:P.underlying t=some .bool):Opn P t Kn.bool (fun _=>True):=by
 intro H enc w base held fuel cs x h _ ρ A p
 obtain⟨b,rfl,rfl⟩:=DataW.trod_bool ht h
 exact⟨b,ρ,A,_,Up.refl _ _,p,CR.one (.sc _ rfl),rfl,trivial⟩
theorem Opn.string (ht:P.underlying t=some .string):Opn P t Kn.str (fun a=>a.size≤140737488351232):=by
 intro H enc w base held fuel cs x h hw ρ A p
 obtain⟨s,rfl,rfl,hs⟩:=DataW.trod_string ht h
 refine⟨s,ρ,A,_,Up.refl _ _,p,CR.one (.sc _ rfl),rfl,?_⟩
 have:=hw s.data.toList.length (by simp[DataW.weights])
 simpa [reachBytes] using this
theorem Kn.up {α:Type} {d:Kn α} {ρ ρ':Ren} {A A':AH} (u:Up ρ A ρ' A') {x:α} {cs:List Value} (h:d.R (Low A.n) A x cs):d.R (Low A'.n) A' x cs:=
 d.more (fun id hi=>Nat.lt_of_lt_of_le hi u.nle) (d.same (fun id hi=>u.m id hi) h)
theorem grow {α:Type} {w:World} {d:Kn α} {wf:α→Prop} (p:Nat→List Value→Prop):∀n,(∀i,i<n→∀ρ A,Pre w ρ A→∃(a:α) (ρ':Ren) (A':AH) (acs cs:List Value),p i cs∧Up ρ A ρ' A'∧Pre w ρ' A'∧CR ρ' acs cs∧d.R (Low A'.n) A' a acs∧wf a)→∀ρ A,Pre w ρ A→
  ∃(xs:List α) (ρ':Ren) (A':AH) (F:List Value),xs.length=n∧Up ρ A ρ' A'∧Pre w ρ' A'∧F.length=n*d.es∧(∀(i:Nat) x,xs[i]?=some x→d.R (Low A'.n) A' x ((F.drop (i*d.es)).take d.es)∧wf x)∧(∀i,i<n→∃cs,p i cs∧CR ρ' ((F.drop (i*d.es)).take d.es) cs)
 | 0,_,ρ,A,hp=>⟨[],ρ,A,[],rfl,Up.refl _ _,hp,by simp,fun i x h=>by simp at h,fun i h=>by omega⟩
 | n+1,h,ρ,A,hp=>by
  obtain⟨xs,ρ1,A1,F,hxl,hu,hp1,hFl,hR,hC⟩:=grow p n (fun i hi=>h i (by omega)) ρ A hp
  obtain⟨a,ρ2,A2,acs,cs,hpc,hu2,hp2,hcr,hRa,hwa⟩:=h n (by omega) ρ1 A1 hp1
  have hal:acs.length=d.es:=d.len hRa
  have cut:∀i,i<n→((F++acs).drop (i*d.es)).take d.es=(F.drop (i*d.es)).take d.es:=fun i hi=>by
   have h1:(i+1)*d.es≤n*d.es:=Nat.mul_le_mul_right _ (by omega)
   rw[Nat.add_mul] at h1
   rw[List.drop_append_of_le_length (by omega),List.take_append_of_le_length (by rw[List.length_drop];omega)]
  have last:((F++acs).drop (n*d.es)).take d.es=acs:=by
   rw[← hFl,List.drop_left,List.take_of_length_le (by omega)]
  refine⟨xs++[a],ρ2,A2,F++acs,by simp[hxl],hu.trans hu2,hp2,by rw[List.length_append,hFl,hal,Nat.add_mul];omega,fun i x hx=>?_,fun i hi=>?_⟩
  ·rcases Nat.lt_or_ge i xs.length with hi | hi
   ·rw[List.getElem?_append_left hi] at hx
    rw[cut i (by omega)]
    exact⟨Kn.up hu2 (hR i x hx).1,(hR i x hx).2⟩
   ·have hi':i=n:=by
     have:=(List.getElem?_eq_some_iff.1 hx).1
     rw[List.length_append,List.length_singleton] at this
     omega
    subst hi'
    rw[← hxl,List.getElem?_append_right (Nat.le_refl _)] at hx
    simp at hx
    subst hx
    rw[last]
    exact⟨hRa,hwa⟩
  ·rcases Nat.lt_or_ge i n with hi' | hi'
   ·rw[cut i hi']
    obtain⟨cs',h1,h2⟩:=hC i hi'
    exact⟨cs',h1,h2.mono (hu2.le hp1)⟩
   ·obtain rfl:i=n:=by omega
    rw[last]
    exact⟨cs,hpc,hcr⟩
theorem cell_spot {w:World} {a:Addr} {v:Value} (h:w.cell? a=some v):a.spot=none∧a.block<w.heap.size:=by
 unfold World.cell? at h
 split at h
 ·rename_i c _ _ hc
  split at h
  ·cases h
  ·rename_i hs
   refine⟨by cases e:a.spot with | none=>rfl | some _=>simp[e] at hs,(Array.getElem?_eq_some_iff.1 hc).1⟩
 ·cases h
theorem Opn.slice {α:Type} {el:TypeId} {d:Kn α} {wf:α→Prop} {B:Nat} (ht:P.underlying t=some (.slice el)) (hc:P.cellsOf el=d.es) (hB:P.bytesOf el=B) (hpos:0<d.es) (he:Opn P el d wf):
  Opn P t d.sl (fun xs=>xs.length≤maxLen∧xs.length*B≤140737488351232∧∀x∈xs,wf x):=by
 intro H enc w base held fuel cs x h hw ρ A p
 rcases DataW.trod_slice ht h with⟨rfl,rfl⟩ | ⟨a,len,cap,elems,rest,n,_,rfl,rfl,hb,hl,hm,hlen,hel,hsp,hns⟩
 ·exact⟨[],ρ,A,[.slice none 0 0],Up.refl _ _,p,CR.one (.sc _ rfl),⟨_,rfl,.inl ⟨rfl,none,0,rfl,fun _=>rfl⟩⟩,by simp,by simp,by simp⟩
 ·simp only[DataW.weights,ht] at hw
  have hwt:=hw _ List.mem_cons_self
  have hml:maxLen=9223372036854775807:=by first | rfl | simp[maxLen]
  have each:∀i,i<len→∀ρ A,Pre w ρ A→∃(y:α) (ρ':Ren) (A':AH) (acs cs:List Value),(cs.length=d.es∧∀(j:Nat) u,cs[j]?=some u→w.cell? (a.add (i*d.es+j))=some u)∧Up ρ A ρ' A'∧Pre w ρ' A'∧CR ρ' acs cs∧d.R (Low A'.n) A' y acs∧wf y:=by
   intro i hi ρ A hp
   have h1:=hel i hi
   obtain⟨y,hy⟩:∃y,elems[i]?=some y:=⟨elems[i]'(by omega),List.getElem?_eq_getElem (by omega)⟩
   rw[hy,Option.bind_eq_some_iff] at h1
   obtain⟨c,hcs,hy'⟩:=h1
   have hmem:y.1∈elems.map (·.1):=List.mem_map_of_mem (List.mem_of_getElem? hy)
   have hmw:∀n∈y.1.weights P el,n∈DataW.weightsAll P el (elems.map (·.1)):=by
    intro n hn
    generalize elems.map (·.1)=l at hmem
    induction l with
    | nil=>simp at hmem
    | cons z l ih=>
     rw[DataW.weightsAll,List.mem_append]
     rcases List.mem_cons.1 hmem with rfl | h
     ·exact .inl hn
     ·exact .inr (ih h)
   obtain⟨q,ρ',A',acs,hu,hp',hcr,hR,hwf⟩:=he H enc w base held n c y hy' (fun n hn=>hw n (List.mem_cons_of_mem _ (List.mem_append_left _ (hmw n hn)))) ρ A hp
   obtain⟨_,hcl,hcell⟩:=World.cells?_some hcs
   refine⟨q,ρ',A',acs,c,⟨by rw[hcl,hc],fun j u hu=>?_⟩,hu,hp',hcr,hR,hwf⟩
   have hj:j<P.cellsOf el:=by rw[← hcl];exact(List.getElem?_eq_some_iff.1 hu).1
   have:=hcell j hj
   rw[hu,Go.Deep.add_add,hc] at this
   exact this
  obtain⟨xs,ρ1,A1,F,hxl,hu,hp1,hFl,hR,hC⟩:=grow (wf:=wf) _ len each ρ A p
  have sz:xs.length*B≤140737488351232:=by
   rw[hxl,← hB]
   have h1:(elems.map (·.1)).length=len:=by simp[hlen]
   rw[h1] at hwt
   have h2:len*P.bytesOf el≤(len+(rest.map (·.1)).length)*P.bytesOf el:=Nat.mul_le_mul_right _ (by omega)
   have h3:reachBytes=140737488351232:=by rfl
   omega
  have wfs:∀x∈xs,wf x:=fun x hx=>by
   obtain⟨i,hi⟩:=List.getElem?_of_mem hx
   exact(hR i x hi).2
  rcases Nat.eq_zero_or_pos len with h0 | h0
  ·subst h0
   have hx0:xs=[]:=List.eq_nil_of_length_eq_zero hxl
   subst hx0
   exact⟨[],ρ1,A1,[.slice (some ⟨0,0,none⟩) 0 0],hu,hp1,CR.one (.sl0 _ _ _ _),⟨_,rfl,.inl ⟨rfl,_,0,rfl,fun h=>by cases h⟩⟩,by simp,by simp,by simp⟩
  ·have hcell:∀(q:Nat) v,F[q]?=some v→∃c,w.cell? (a.add q)=some c∧VR ρ1 v c:=fun q v hv=>by
    have hq:q<len*d.es:=by rw[← hFl];exact(List.getElem?_eq_some_iff.1 hv).1
    have hi:q / d.es<len:=Nat.div_lt_of_lt_mul (by rw[Nat.mul_comm];exact hq)
    obtain⟨cs,⟨_,h1⟩,h2⟩:=hC _ hi
    have hmod:=Nat.mod_lt q hpos
    have hdm:q / d.es*d.es+q%d.es=q:=by rw[Nat.mul_comm];exact Nat.div_add_mod q d.es
    obtain⟨c,h3,h4⟩:=h2.2 (q%d.es) v (by rw[List.getElem?_take,if_pos hmod,List.getElem?_drop,hdm];exact hv)
    have:=h1 _ c h3
    rw[hdm] at this
    exact⟨c,this,h4⟩
   have hF0:0<F.length:=by rw[hFl];exact Nat.mul_pos h0 hpos
   obtain⟨c0,hc0,_⟩:=hcell 0 F[0] (List.getElem?_eq_getElem hF0)
   obtain⟨hspot,hblk⟩:=cell_spot hc0
   obtain⟨b,o,sp⟩:=a
   have hsp0:sp=none:=hspot
   have hblk:b<w.heap.size:=hblk
   subst hsp0
   have hcell:∀(q:Nat) v,F[q]?=some v→∃c,w.cell? ⟨b,o+q,none⟩=some c∧VR ρ1 v c:=fun q v hv=>by
    obtain⟨c,h1,h2⟩:=hcell q v hv
    refine⟨c,?_,h2⟩
    rw[← h1]
    unfold Addr.add
    split
    ·rename_i h;rw[h];rfl
    ·rfl
   obtain⟨hp2,hu2⟩:=hp1.push (ty:=el) (F:=F) (l:=⟨b,o,o+cap*d.es⟩) hblk hcell
   refine⟨xs,_,_,[.slice (some ⟨A1.n,0,some d.es⟩) len cap],hu.trans hu2,hp2,CR.one ?_,⟨_,rfl,.inr ⟨A1.n,0,cap,⟨el,false,F⟩,by rw[hxl],by omega,by show A1.n<A1.n+1;omega,by simp,by simp only;rw[hxl];omega,fun i x hx=>?_⟩⟩,by rw[hxl];omega,sz,wfs⟩
   ·exact .slc A1.n 0 d.es len cap cap ⟨b,o,o+cap*d.es⟩ (by simp) hl (Nat.le_refl _) (by simp)
   ·have:=Kn.up hu2 (hR i x hx).1
    simpa using this
end
section
variable {P:Program}
def OpnF {α:Type} (P:Program) (fs:List Field) (off:Nat) (d:Kn α) (wf:α→Prop):Prop:=
 ∀(H:Type) (enc:TypeId × Value→H) (w:World) (base:Nat) (held:Bool) (fuel:Nat) (cs:List Value) (xs:List (DataW H × List MemPlace)),
  (∀(i:Nat) (f:Field),fs[i]?=some f→DataW.trod enc P w base (fun _=>true) held fuel f.type ((cs.drop f.offset).take (P.cellsOf f.type))=xs[i]?)→xs.length=fs.length→
  (∀n∈DataW.weightsEach P (fs.map (·.type)) (xs.map (·.1)),n≤reachBytes)→∀ρ A,Pre w ρ A→
   ∃(a:α) (ρ':Ren) (A':AH) (acs:List Value),Up ρ A ρ' A'∧Pre w ρ' A'∧CR ρ' acs ((cs.drop off).take d.es)∧d.R (Low A'.n) A' a acs∧wf a
theorem OpnF.one {α:Type} {f:Field} {d:Kn α} {wf:α→Prop} (hc:P.cellsOf f.type=d.es) (h:Opn P f.type d wf):OpnF P [f] f.offset d wf:=by
 intro H enc w base held fuel cs xs hx hl hw ρ A p
 match xs,hl with
 | [y],_=>
  have h1:=hx 0 f rfl
  rw[hc] at h1
  exact h H enc w base held fuel _ y h1 (fun n hn=>hw n (by simp[DataW.weightsEach];exact hn)) ρ A p
theorem OpnF.cons {α β:Type} {f:Field} {fs:List Field} {d:Kn α} {d':Kn β} {wf:α→Prop} {wf':β→Prop} {off:Nat} (hc:P.cellsOf f.type=d.es) (ho:f.offset+d.es=off) (h:Opn P f.type d wf) (h':OpnF P fs off d' wf'):
  OpnF P (f :: fs) f.offset (Kn.pair d d') (fun x=>wf x.1∧wf' x.2):=by
 intro H enc w base held fuel cs xs hx hl hw ρ A p
 match xs,hl with
 | y :: ys,hl=>
  have h1:=hx 0 f rfl
  rw[hc] at h1
  obtain⟨a,ρ1,A1,acs,hu,hp,hcr,ha,hwa⟩:=h H enc w base held fuel _ y h1 (fun n hn=>hw n (by simp only[List.map_cons,DataW.weightsEach,List.mem_append];exact .inl hn)) ρ A p
  obtain⟨b,ρ2,A2,bcs,hu2,hp2,hcr2,hb,hwb⟩:=h' H enc w base held fuel cs ys (fun i g hg=>hx (i+1) g hg) (by simpa using hl) (fun n hn=>hw n (by simp only[List.map_cons,DataW.weightsEach,List.mem_append];exact .inr hn)) ρ1 A1 hp
  refine⟨(a,b),ρ2,A2,acs++bcs,hu.trans hu2,hp2,?_,⟨acs,bcs,rfl,Kn.up hu2 ha,hb⟩,hwa,hwb⟩
  have e:(cs.drop f.offset).take (Kn.pair d d').es=(cs.drop f.offset).take d.es++(cs.drop off).take d'.es:=by
   show(cs.drop f.offset).take (d.es+d'.es)=_
   rw[List.take_add,List.drop_drop,ho]
  rw[e]
  exact(hcr.mono (hu2.le hp)).append hcr2
theorem Opn.struct {α:Type} {t:TypeId} {fs:Array Field} {d:Kn α} {wf:α→Prop} (ht:P.underlying t=some (.struct fs)) (hc:P.cellsOf t=d.es) (h:OpnF P fs.toList 0 d wf):Opn P t d wf:=by
 intro H enc w base held fuel cs x hx hw ρ A p
 obtain⟨xs,n,_,rfl,hl,hxl,hf⟩:=DataW.trod_struct ht hx
 simp only[DataW.weights,ht] at hw
 obtain⟨a,ρ1,A1,acs,hu,hp,hcr,ha,hwa⟩:=h H enc w base held n cs xs (fun i f hi=>hf i f (by simpa using hi)) (by simpa using hxl) hw ρ A p
 rw[List.drop_zero,List.take_of_length_le (by omega)] at hcr
 exact⟨a,ρ1,A1,acs,hu,hp,hcr,ha,hwa⟩
theorem Opn.arg {α:Type} {t:TypeId} {d:Kn α} {wf:α→Prop} (h:Opn P t d wf) {H:Type} {enc:TypeId × Value→H} {W:World} {base:Nat} {held:Bool} {v:Value} {x:DataW H} {p:List MemPlace} {ts:List TypeId} {ds:List (DataW H)} {j:Nat}
  (hsz:(DataW.weightsEach P ts ds).all (·≤reachBytes)=true) (ht:ts[j]?=some t) (hd:ds[j]?=some x) (hx:DataW.Trod enc P W base (fun _=>true) held t v x p) {ρ:Ren} {A:AH} (hp:Pre W ρ A):
  ∃(a:α) (ρ':Ren) (A':AH) (acs:List Value),Up ρ A ρ' A'∧Pre W ρ' A'∧CR ρ' acs v.cells.toList∧d.R (Low A'.n) A' a acs∧wf a:=by
 obtain⟨fuel,hf⟩:=hx
 refine h H enc W base held fuel _ _ hf (fun n hn=>?_) ρ A hp
 have:=List.all_eq_true.1 hsz n (DataW.weights_mem_each ht hd n hn)
 simpa using this
theorem CR.single {ρ:Ren} {acs:List Value} {v:Value} (h:CR ρ acs [v]):∃u,acs=[u]∧VR ρ u v:=by
 obtain⟨u,hu⟩:=List.length_eq_one_iff.1 (h.1.trans rfl)
 subst hu
 obtain⟨c,h1,h2⟩:=h.2 0 u rfl
 cases h1
 exact⟨u,rfl,h2⟩
theorem Opn.arg1 {α:Type} {t:TypeId} {d:Kn α} {wf:α→Prop} (h:Opn P t d wf) {H:Type} {enc:TypeId × Value→H} {W:World} {base:Nat} {held:Bool} {v:Value} {x:DataW H} {p:List MemPlace} {ts:List TypeId} {ds:List (DataW H)} {j:Nat}
  (hsz:(DataW.weightsEach P ts ds).all (·≤reachBytes)=true) (ht:ts[j]?=some t) (hd:ds[j]?=some x) (hx:DataW.Trod enc P W base (fun _=>true) held t v x p) (hv:v.cells=#[v]) {ρ:Ren} {A:AH} (hp:Pre W ρ A):
  ∃(a:α) (ρ':Ren) (A':AH) (u:Value),Up ρ A ρ' A'∧Pre W ρ' A'∧VR ρ' u v∧d.R (Low A'.n) A' a [u]∧wf a:=by
 obtain⟨a,ρ',A',acs,h1,h2,h3,h4,h5⟩:=h.arg hsz ht hd hx hp
 rw[hv] at h3
 obtain⟨u,rfl,h6⟩:=h3.single
 exact⟨a,ρ',A',u,h1,h2,h6,h4,h5⟩
theorem Spec.calls (hP:P.follows .mixedOrders=true) {W:World} {ρ:Ren} {A:AH} (p:Pre W ρ A) {f:FuncId} {args:List Value} {args':Array Value} {v:Value} (hv:scal v=true) (ha:VRs ρ args.toArray args') (h:Spec P (Low A.n) A f args (fun u=>u=v)):
  Calls P f args' W (fun en w'=>en=.returned v∧Below W.heap.size W w'):=by
 obtain⟨n,u,H1,h1,hx,hfin,rfl⟩:=h A p.wr.fin (fun id hid=>⟨hid,rfl⟩)
 refine((evF_ok hP n).ok f _ A u H1 h1 W ρ W args' p.wr (fun id hid _=>p.free id hid) ha).mono fun en w' hq=>?_
 obtain⟨ρ',c,rfl,hst,hvr⟩:=hq
 rw[scal_eq hv hvr]
 exact⟨rfl,hst.wr.below⟩
theorem VRs.two {ρ:Ren} {a b c d:Value} (h:VR ρ a c) (k:VR ρ b d):VRs ρ [a,b].toArray #[c,d]:=CR.vrs (c:=[c,d]) ((CR.one h).append (CR.one k))
theorem VRs.cons {ρ:Ren} {a c:Value} {l m:List Value} (h:VR ρ a c) (k:CR ρ l m):CR ρ (a :: l) (c :: m):=(CR.one h).append k
theorem CR.nil {ρ:Ren}:CR ρ [] []:=⟨rfl,fun i v h=>by simp at h⟩
theorem VR.up {w:World} {ρ ρ':Ren} {A A':AH} (u:Up ρ A ρ' A') (p:Pre w ρ A) {v c:Value} (h:VR ρ v c):VR ρ' v c:=h.mono (u.le p)
end
end Go.Proofs.Ytlapbbffoapleaa.Am
namespace Go.Proofs.Ytlapbbffoapleaa.Am
open Go Go.RowKit
section
variable {P:Program} {S:Ids} {H0:AH} {Q:PostC} {k k1 k2:List It} {e e1 e2:Env} {T T1 T2:List Var} {n n1 n2:Nat} {l1 r1 l2 r2:List Nat} {d1 d2:Tmp}
theorem fill_seq (z:Value):∀(vs pre:List Value),(∀v∈vs,v.cells=#[v])→Instr.fill (fun j=>some (j*1,1)) (pre++List.replicate vs.length z).toArray ((vs.zipIdx pre.length).map fun p=>(p.2,p.1))=some (pre++vs).toArray
 | [],pre,_=>by simp[Instr.fill]
 | v :: vs,pre,h=>by
  have hv:=h v List.mem_cons_self
  have ih:=fill_seq z vs (pre++[v]) (fun u hu=>h u (List.mem_cons_of_mem _ hu))
  simp only[List.zipIdx_cons,List.map_cons,Instr.fill,hv]
  rw[if_neg (by simp)]
  have e1:(Array.foldl (fun cs x=>cs.setIfInBounds (pre.length*1+x.2) x.1) (pre++List.replicate (v :: vs).length z).toArray (#[v]:Array Value).zipIdx)=(pre++[v]++List.replicate vs.length z).toArray:=by
   have e0:(#[v]:Array Value).zipIdx=#[(v,0)]:=rfl
   rw[e0]
   simp[List.replicate_succ]
  rw[e1]
  simpa using ih
theorem zarr_one (z:Value) (hz:z.cells=#[z]) (m:Nat):zarr z m=(List.replicate m z).toArray:=by
 apply Array.ext
 ·simp[zarr]
 ·intro i h1 h2
  simp[zarr,hz,Nat.mod_one]
theorem alit_seq {H:AH} {t el:TypeId} {i:TypeInfo} {z:Value} (hu:P.underlying t=some (.slice el)) (hi:P.info? el=some i) (hs:i.size=1) (hz:i.zero=some z) (hz1:z.cells=#[z]) (hzo:zeroOk P el=true) (vs:List Value) (hl:vs.length≤16777216) (hv:∀v∈vs,v.cells=#[v]):
  alit P H t vs.length (vs.zipIdx.map fun p=>(p.2,p.1))=some (.slice (some ⟨H.n,0,some 1⟩) vs.length vs.length,H.push ⟨el,true,vs⟩):=by
 have h0:=fill_seq z vs [] hv
 simp only[List.nil_append,List.length_nil] at h0
 unfold alit
 simp only[hu,hi,hz,hs]
 rw[if_pos ⟨hzo,by omega⟩,Nat.mul_one,zarr_one z hz1,h0]
 simp
theorem KW.fact {p:Prop} (h:∀H,Good S H0 T n H→p) (hk:p→KW P S H0 Q n T k e):KW P S H0 Q n T k e:=fun H g=>hk (h H g) H g
theorem Good.take {S:Ids} {H0 H:AH} {T:List Var} {n:Nat} (g:Good S H0 T n H) (m:Nat):Good S H0 (T.take m) n H:=by
 have h:∀{j:Nat} {v:Var},(T.take m)[j]?=some v→T[j]?=some v:=fun {j v} hj=>by
  rw[List.getElem?_take] at hj
  split at hj
  ·exact hj
  ·cases hj
 exact⟨g.n_,g.fin,g.froz,fun j v hj=>g.vars j v (h hj),fun i j u v hi hj=>g.dist i j u v (h hi) (h hj)⟩
theorem Good.move {S:Ids} {H0 H:AH} {T:List Var} {n:Nat} (g:Good S H0 T n H) {j:Nat} {v:Var} (hj:T[j]?=some v) (b:Blk):Good S H0 (T.set j (n,b)) (n+1) ((H.kill v.1).push b):=by
 have hn:=g.n_
 have hjl:j<T.length:=(List.getElem?_eq_some_iff.1 hj).1
 obtain⟨hv1,hv2,hv3⟩:=g.vars j v hj
 have get:∀{i:Nat} {u:Var},(T.set j (n,b))[i]?=some u→(i=j∧u=(n,b))∨(i≠j∧T[i]?=some u):=by
  intro i u hi
  by_cases h:j=i
  ·subst h
   rw[List.getElem?_set_self hjl] at hi
   cases hi
   exact .inl ⟨rfl,rfl⟩
  ·rw[List.getElem?_set_ne h] at hi
   exact .inr ⟨Ne.symm h,hi⟩
 have hm:∀id,id≠n→id≠v.1→((H.kill v.1).push b).m id=H.m id:=fun id h1 h2=>by
  have:¬id=H.n:=by omega
  simp[AH.push,AH.kill,this,h2]
 refine⟨by simp[AH.push,AH.kill,hn],fin_push (fin_kill g.fin _) b,?_,?_,?_⟩
 ·intro id hs
  obtain⟨h1,h2⟩:=g.froz id hs
  refine⟨by omega,?_⟩
  rw[hm id (by omega) (fun e=>hv3 (by rw[← e];exact hs))]
  exact h2
 ·intro i u hi
  rcases get hi with⟨_,rfl⟩ | ⟨hne,hi⟩
  ·refine⟨by simp[AH.push,AH.kill,hn],by simp,fun hs=>?_⟩
   have:=(g.froz n hs).1
   omega
  ·obtain⟨h1,h2,h3⟩:=g.vars i u hi
   refine⟨?_,by omega,h3⟩
   rw[hm u.1 (by omega) (fun e=>hne (g.dist i j u v hi hj e))]
   exact h1
 ·intro i1 i2 u1 u2 h1 h2 he
  rcases get h1 with⟨e1,rfl⟩ | ⟨hne1,h1⟩<;>rcases get h2 with⟨e2,rfl⟩ | ⟨hne2,h2⟩
  ·omega
  ·have:=(g.vars i2 u2 h2).2.1
   simp only at he
   omega
  ·have:=(g.vars i1 u1 h1).2.1
   simp only at he
   omega
  ·exact g.dist i1 i2 u1 u2 h1 h2 he
theorem Good.blk {S:Ids} {H0 H:AH} {T:List Var} {n:Nat} (g:Good S H0 T n H) {j:Nat} {id:Nat} {b:Blk} (hj:T[j]?=some (id,b)):H.m id=some b∧id<H.n:=⟨(g.vars j _ hj).1,by rw[g.n_];exact(g.vars j _ hj).2.1⟩
theorem KW.mk1 {o:Oper} {dr:Bool} {t el:TypeId} {l c:Operand} {inf:TypeInfo} {z:Value} {kk kk':IntKind} {i i':Int} (h:Go1 P k e T n (.op o dr) k1 e1 T1 n1 l1 r1) (hlr:l1=r1) (ho:o.op=.makeSlice t l c) (hd:o.dst=some d1)
  (hu:P.underlying t=some (.slice el)) (hi:P.info? el=some inf) (hs:inf.size=1) (hz:inf.zero=some z) (hz1:z.cells=#[z]) (hzo:zeroOkL P el=true) (hl:ev e1 l=.int kk i) (hc:ev e1 c=.int kk' i') (m:Nat) (hi1:i=m) (hi2:i'=m) (hm:m≤9223372036854775807) (hb:inf.bytes*m≤281474976710656)
  (hk:KW P S H0 Q (n1+1) (T1++[(n1,⟨el,true,List.replicate m z⟩)]) k1 (put1 e1 d1 (.slice (some ⟨n1,0,some 1⟩) m m))):KW P S H0 Q n T k e:=by
 refine KW.go h hlr (KEvt.heap (c:=⟨_,_,_,_,_,_⟩) _ _ _ (by rw[ho];exact .inl rfl) (fun H g=>⟨none,_,?_,g.push _⟩) (by rw[hd,put1_eq];exact hk))
 subst hi1 hi2
 rw[ho]
 simp only[hop,hl,hc,amake,hu,hi,hz,hs]
 rw[if_pos ⟨zeroOkL_ok hzo,trivial,by omega,by omega,by rw[← Int.natCast_mul];omega⟩]
 simp only[Int.toNat_natCast,Nat.mul_one,zarr_one z hz1,g.n_]
theorem KW.lit {o:Oper} {dr:Bool} {t el:TypeId} {m:Nat} {parts:Array (Nat × Operand)} {inf:TypeInfo} {z:Value} (h:Go1 P k e T n (.op o dr) k1 e1 T1 n1 l1 r1) (hlr:l1=r1) (ho:o.op=.buildSlice t m parts) (hd:o.dst=some d1)
  (hu:P.underlying t=some (.slice el)) (hi:P.info? el=some inf) (hs:inf.size=1) (hz:inf.zero=some z) (hz1:z.cells=#[z]) (hzo:zeroOkL P el=true) (vs:List Value) (hp:(parts.toList.map fun p=>(p.1,ev e1 p.2))=vs.zipIdx.map fun p=>(p.2,p.1)) (hm:m=vs.length) (hv:∀v∈vs,v.cells=#[v]) (hle:Nat.ble vs.length 16777216=true)
  (hk:KW P S H0 Q (n1+1) (T1++[(n1,⟨el,true,vs⟩)]) k1 (put1 e1 d1 (.slice (some ⟨n1,0,some 1⟩) vs.length vs.length))):KW P S H0 Q n T k e:=by
 refine KW.go h hlr (KEvt.heap (c:=⟨_,_,_,_,_,_⟩) _ _ _ (by rw[ho];exact .inl rfl) (fun H g=>⟨none,_,?_,g.push _⟩) (by rw[hd,put1_eq];exact hk))
 rw[ho]
 simp only[hop,hp,hm]
 rw[alit_seq hu hi hs hz hz1 (zeroOkL_ok hzo) vs (Nat.le_of_ble_eq_true hle) hv,g.n_]
theorem KW.idx0 {o:Oper} {dr:Bool} {t el:TypeId} {x i:Operand} {inf:TypeInfo} {kk:IntKind} {j:Int} {id off es len c:Nat} (h:Go1 P k e T n (.op o dr) k1 e1 T1 n1 l1 r1) (hlr:l1=r1) (ho:o.op=.indexAddr t x i) (hd:o.dst=some d1) (hx:ev e1 x=.slice (some ⟨id,off,some es⟩) len c) (hj:ev e1 i=.int kk j)
  (hu:P.underlying t=some (.slice el)) (hi:P.info? el=some inf) (he:inf.size=es) (h0:0≤j) (h1:j<len) (hk:KW P S H0 Q n1 T1 k1 (put1 e1 d1 (.pointer (some ⟨id,off+j.toNat*es,none⟩)))):KW P S H0 Q n T k e:=by
 refine KW.pure h hlr ho hd rfl _ ?_ hk
 simp only[pop,hu,hx,hj,hi,he]
 rw[if_pos ⟨h0,h1⟩]
theorem KW.st1 {o:Oper} {dr:Bool} {t:TypeId} {x y:Operand} {inf:TypeInfo} {id kk:Nat} {sp:Option Nat} {b:Blk} {v:Value} (j:Nat) (h:Go1 P k e T n (.op o dr) k1 e1 T1 n1 l1 r1) (hlr:l1=r1) (ho:o.op=.store t x y) (hd:o.dst=none) (hx:ev e1 x=.pointer (some ⟨id,kk,sp⟩)) (hT:T1[j]?=some (id,b))
  (hy:ev e1 y=v) (hi:P.info? t=some inf) (hs:inf.size=1) (hv:v.cells=#[v]) (ho1:v.oneCell'=true) (hrw:b.rw=true) (hlt:kk<b.cells.length)
  (hk:KW P S H0 Q n1 (T1.set j (id,⟨b.ty,true,b.cells.set kk v⟩)) k1 e1):KW P S H0 Q n T k e:=by
 refine KW.go h hlr (KEvt.heap (c:=⟨_,_,_,_,_,_⟩) undef (T1.set j (id,⟨b.ty,true,b.cells.set kk v⟩)) n1 (by rw[ho];exact .inr rfl) (fun H g=>⟨none,H.set id ⟨b.ty,true,b.cells.set kk v⟩,?_,g.set hT _⟩) (by rw[hd];exact hk))
 rw[ho]
 have hb:=(g.blk hT).1
 have hst:astore P H t id kk v=some (H.set id ⟨b.ty,true,b.cells.set kk v⟩):=by
  unfold astore
  simp only[hb,hi,hs,hv]
  rw[if_pos ⟨hrw,rfl,by omega,by simp[ho1]⟩]
  congr 2
  rw[hrw]
  congr 1
  simp only[splice]
  rw[List.set_eq_take_append_cons_drop,if_pos hlt]
  simp
 simp only[hop,hx,hy,hst]
theorem KW.ldT {o:Oper} {dr:Bool} {t:TypeId} {x:Operand} {id kk:Nat} {sp:Option Nat} {b:Blk} {v:Value} (j:Nat) (h:Go1 P k e T n (.op o dr) k1 e1 T1 n1 l1 r1) (hlr:l1=r1) (ho:o.op=.load t x) (hd:o.dst=some d1) (hx:ev e1 x=.pointer (some ⟨id,kk,sp⟩)) (hT:T1[j]?=some (id,b)) (hv:bload P b t kk=some v)
  (hk:KW P S H0 Q n1 T1 k1 (put1 e1 d1 v)):KW P S H0 Q n T k e:=by
 refine KW.go h hlr (KEvt.heap (c:=⟨_,_,_,_,_,_⟩) v T1 n1 (by rw[ho];exact .inl rfl) (fun H g=>⟨none,H,?_,g⟩) (by rw[hd,put1_eq];exact hk))
 rw[ho]
 simp only[hop,hx,bload_ok (g.blk hT).1,hv]
theorem KW.appN {o:Oper} {dr:Bool} {t el:TypeId} {x y:Operand} {inf:TypeInfo} {m:Nat} {ys:List Value} (h:Go1 P k e T n (.op o dr) k1 e1 T1 n1 l1 r1) (hlr:l1=r1) (ho:o.op=.call {callee:=.builtin .append,args:=#[x,y],argTypes:=#[t,t]}) (hd:o.dst=some d1) (hx:ev e1 x=.slice none 0 0)
  (hu:P.underlying t=some (.slice el)) (hi:P.info? el=some inf) (hs:inf.size=1) (hzo:zeroOkL P el=true) (hy:∀H,Good S H0 T1 n1 H→acells H (ev e1 y) 1=some (m,ys)) (hone:∀v∈ys,v.oneCell'=true) (hm:m≠0) (hb:m*inf.bytes≤140737488355328) (hml:m≤9223372036854775807)
  (hk:KW P S H0 Q (n1+1) (T1++[(n1,⟨el,true,ys⟩)]) k1 (put1 e1 d1 (.slice (some ⟨n1,0,some 1⟩) m m))):KW P S H0 Q n T k e:=by
 refine KW.go h hlr (KEvt.heap (c:=⟨_,_,_,_,_,_⟩) _ _ _ (by rw[ho];exact .inr rfl) (fun H g=>⟨none,_,?_,g.push _⟩) (by rw[hd,put1_eq];exact hk))
 rw[ho]
 have h1:=hy H g
 simp only[hop,aapp,aappend,hu,hi,hs,hx,h1]
 rw[if_pos trivial,if_pos ⟨zeroOkL_ok hzo,by omega,List.all_eq_true.2 hone⟩,if_neg hm,if_pos ⟨hml,hb⟩,g.n_]
theorem KW.appT {o:Oper} {dr:Bool} {t el:TypeId} {x y:Operand} {inf:TypeInfo} {m len c id:Nat} {xs ys:List Value} (j:Nat) (h:Go1 P k e T n (.op o dr) k1 e1 T1 n1 l1 r1) (hlr:l1=r1) (ho:o.op=.call {callee:=.builtin .append,args:=#[x,y],argTypes:=#[t,t]}) (hd:o.dst=some d1) (hx:ev e1 x=.slice (some ⟨id,0,some 1⟩) len c) (hT:T1[j]?=some (id,⟨el,true,xs⟩))
  (hu:P.underlying t=some (.slice el)) (hi:P.info? el=some inf) (hs:inf.size=1) (hzo:zeroOkL P el=true) (hy:∀H,Good S H0 T1 n1 H→acells H (ev e1 y) 1=some (m,ys)) (hlen:xs.length=len) (hone:∀v∈ys,v.oneCell'=true) (hm:m≠0) (hb:(len+m)*inf.bytes≤140737488355328) (hml:len+m≤9223372036854775807)
  (hk:KW P S H0 Q (n1+1) (T1.set j (n1,⟨el,true,xs++ys⟩)) k1 (put1 e1 d1 (.slice (some ⟨n1,0,some 1⟩) (len+m) (len+m)))):KW P S H0 Q n T k e:=by
 refine KW.go h hlr (KEvt.heap (c:=⟨_,_,_,_,_,_⟩) _ _ _ (by rw[ho];exact .inr rfl) (fun H g=>⟨none,_,?_,g.move hT _⟩) (by rw[hd,put1_eq];exact hk))
 rw[ho]
 have h1:=hy H g
 have h2:=(g.blk hT).1
 simp only[hop,aapp,aappend,hu,hi,hs,hx,h1,h2]
 rw[if_pos trivial,if_pos ⟨zeroOkL_ok hzo,by omega,List.all_eq_true.2 hone⟩,if_neg hm,if_pos ⟨trivial,trivial,trivial,by omega,hml,hb⟩]
 simp only[List.drop_zero,Nat.mul_one,AH.kill,g.n_]
 rw[List.take_of_length_le (by omega)]
theorem acells_T {H:AH} {id m c:Nat} {ys:List Value} {b:Blk} (hb:H.m id=some b) (hc:b.cells=ys) (hl:ys.length=m):acells H (.slice (some ⟨id,0,some 1⟩) m c) 1=some (m,ys):=by
 cases m with
 | zero=>simp[acells,List.eq_nil_of_length_eq_zero hl]
 | succ m=>
  simp only[acells,if_true,hb]
  rw[if_pos (by rw[hc];omega),List.drop_zero,Nat.mul_one,hc,List.take_of_length_le (by omega)]
theorem KW.lpM {σ:Type} {a:Code} (h:Go1 P k e T n (.loop a) k1 e1 T1 n1 l1 r1) (hlr:l1=r1) (L:σ→List (Nat × Value)) (SS:σ→Ids) (HH:σ→AH) (TT:σ→List Var) (I:σ→Prop) (μ:σ→Nat) (s:σ) (h0:I s) (hL:Has e1 (L s)) (hS:SS s=S) (hH:HH s=H0) (hT:TT s=T1)
  (step:∀s,I s→∀b n,KW P (SS s) (HH s) Q n (TT s) (.code a :: .rnd (fun e H=>∃s',I s'∧μ s'<μ s∧Has e (L s')∧Good (SS s') (HH s') (TT s') H.n H) :: k1) (kn b (L s))):KW P S H0 Q n T k e:=
 KW.go h hlr (KW.loop L SS HH TT I μ s h0 hL hS hH hT step)
theorem KW.retM {fn:Func} {H:AH} {post:Value→AH→Prop} {vs:List Value} {a b:List Nat} (h:Go1 P k e T n (.done .ret) k1 e1 T1 n1 l1 r1) (hlr:l1=r1) (hr:aresT P e1 T1 fn.results.toList=some (vs,a,b)) (hab:a=b) (hS:∀id,id<H.n→S id∧H0.m id=H.m id)
  (hp:∀H1,Good S H0 T1 n1 H1→post (aout vs) H1):
  KW P S H0 (Fin1 P fn (fun v H1=>Ext H H1∧Fin' H1∧post v H1)) n T k e:=by
 refine KW.go h hlr (fun H1 g=>?_)
 have hv:=aresT_ok (P:=P) g _ hr hab
 have hn:=g.n_
 have hx:Ext H H1:=by
  refine⟨?_,fun id hid=>by rw[(g.froz id (hS id hid).1).2,(hS id hid).2]⟩
  rcases Nat.eq_zero_or_pos H.n with h | h
  ·omega
  ·have:=(g.froz (H.n-1) (hS _ (by omega)).1).1
   omega
 simp only[Fin1,hv]
 exact⟨hx,g.fin,hp H1 g⟩
theorem KW.callMV {dr:Bool} {f:Operand} {xs:Array Operand} {ts:Array TypeId} {g:FuncId} {first cap:Array Value} {o:Oper} {post:Nat→Value→AH→Prop} (h:Go1 P k e T n (.op o dr) k1 e1 T1 n1 l1 r1) (hlr:l1=r1) (ho:o.op=.call {callee:=.value f,args:=xs,argTypes:=ts}) (hd:o.dst=some d1) (hf:ev e1 f=.func (.func g) first cap)
  (hs:∀H,Good S H0 T1 n1 H→SpecM P (Low H.n) H g (cargs e1 first cap xs) post)
  (hk:∀v H1,n1≤H1.n→(∀id,S id→H1.m id=H0.m id)→post n1 v H1→KW P (fun id=>S id∨New n1 H1.n id) H1 Q H1.n T1 k1 (put1 e1 d1 (untag v))):KW P S H0 Q n T k e:=
 KW.go h hlr (KEvt.callG (c:=⟨_,_,_,_,_,_⟩) ho hf (fun H gd=>hs H gd H gd.fin (fun id hid=>⟨hid,rfl⟩)) (fun v H1 h1 h2 h3=>by rw[hd,put1_eq];exact hk v H1 h1 h2 h3))
theorem Good.sl {α:Type} {d:Kn α} {S S1:Ids} {H0 H2:AH} {T:List Var} {n lo:Nat} {v:Value} {xs:List α} (g:Good S H0 T n H2) (h:d.Sl S1 H0 v xs) (hS:∀id,S1 id→S id∧lo≤id):d.Sl (New lo H2.n) H2 v xs:=
 Kn.Sl.more (fun id hid=>⟨(hS id hid).2,by have:=(g.froz id (hS id hid).1).1;have:=g.n_;omega⟩) (Kn.Sl.same (fun id hid=>(g.froz id (hS id hid).1).2) h)
def St (S:Ids) (H0:AH) (S':Ids) (H1:AH):Prop:=∀id,S id→S' id∧H1.m id=H0.m id
theorem St.trans {S S1 S2:Ids} {H0 H1 H2:AH} (h:St S H0 S1 H1) (k:St S1 H1 S2 H2):St S H0 S2 H2:=fun id hid=>⟨(k id (h id hid).1).1,((k id (h id hid).1).2).trans (h id hid).2⟩
theorem Kn.Sl.st {α:Type} {d:Kn α} {S S':Ids} {H0 H1:AH} {v:Value} {xs:List α} (h:d.Sl S H0 v xs) (st:St S H0 S' H1):d.Sl S' H1 v xs:=h.on (fun id hid=>(st id hid).2) (fun id hid=>(st id hid).1)
theorem KW.callN {dr:Bool} {f:Operand} {xs:Array Operand} {ts:Array TypeId} {g:FuncId} {first cap:Array Value} {o:Oper} {post:Nat→Value→AH→Prop} (h:Go1 P k e T n (.op o dr) k1 e1 T1 n1 l1 r1) (hlr:l1=r1) (ho:o.op=.call {callee:=.value f,args:=xs,argTypes:=ts}) (hd:o.dst=some d1) (hf:ev e1 f=.func (.func g) first cap)
  (hs:SpecM P S H0 g (cargs e1 first cap xs) post)
  (hk:∀v H1 (S':Ids),n1≤H1.n→St S H0 S' H1→(∀id,New n1 H1.n id→S' id)→post n1 v H1→KW P S' H1 Q H1.n T1 k1 (put1 e1 d1 (untag v))):KW P S H0 Q n T k e:=
 KW.callM h hlr ho hd hf hs (fun v H1 h1 h2 h3=>hk v H1 _ h1 (fun id hid=>⟨.inl hid,h2 id hid⟩) (fun id hid=>.inr hid) h3)
theorem KW.callNV {dr:Bool} {f:Operand} {xs:Array Operand} {ts:Array TypeId} {g:FuncId} {first cap:Array Value} {o:Oper} {post:Nat→Value→AH→Prop} (h:Go1 P k e T n (.op o dr) k1 e1 T1 n1 l1 r1) (hlr:l1=r1) (ho:o.op=.call {callee:=.value f,args:=xs,argTypes:=ts}) (hd:o.dst=some d1) (hf:ev e1 f=.func (.func g) first cap)
  (hs:∀H,Good S H0 T1 n1 H→SpecM P (Low H.n) H g (cargs e1 first cap xs) post)
  (hk:∀v H1 (S':Ids),n1≤H1.n→St S H0 S' H1→(∀id,New n1 H1.n id→S' id)→post n1 v H1→KW P S' H1 Q H1.n T1 k1 (put1 e1 d1 (untag v))):KW P S H0 Q n T k e:=
 KW.callMV h hlr ho hd hf hs (fun v H1 h1 h2 h3=>hk v H1 _ h1 (fun id hid=>⟨.inl hid,h2 id hid⟩) (fun id hid=>.inr hid) h3)
theorem Good.st {S:Ids} {H0 H:AH} {T:List Var} {n:Nat} (g:Good S H0 T n H):St S H0 (Low H.n) H:=fun id hid=>⟨by have:=(g.froz id hid).1;have:=g.n_;show id<H.n;omega,(g.froz id hid).2⟩
theorem int_at {ik:IntKind} {xs:List Int} {S:Ids} {H:AH} {i:Nat} {x:Int} (h:xs[i]?=some x):(Kn.int ik).R S H x (((xs.map (Value.int ik)).drop (0+i*1)).take 1):=by
 obtain⟨hi,rfl⟩:=List.getElem?_eq_some_iff.1 h
 show _=_
 rw[List.take_one,Nat.zero_add,Nat.mul_one,List.head?_drop]
 simp[hi]
theorem int_sl {ik:IntKind} {xs:List Int} {S:Ids} {H:AH} {id c:Nat} {b:Blk} (hS:S id) (hb:H.m id=some b) (hc:b.cells=xs.map (Value.int ik)) (hl:xs.length≤c):(Kn.int ik).Sl S H (.slice (some ⟨id,0,some 1⟩) xs.length c) xs:=
 .inr ⟨id,0,c,b,rfl,hl,hS,hb,by rw[hc];simp[Kn.int],fun i x hx=>by rw[hc];exact int_at hx⟩
end
def RwX (H H':AH):Prop:=∀id b',H'.m id=some b'→b'.rw=true∨∃b,H.m id=some b∧b.rw=b'.rw
theorem RwX.refl (H:AH):RwX H H:=fun id b h=>.inr ⟨b,h,rfl⟩
theorem RwX.trans {H H1 H2:AH} (h:RwX H H1) (k:RwX H1 H2):RwX H H2:=fun id b hb=>by
 rcases k id b hb with h1 | ⟨b1,h1,h2⟩
 ·exact .inl h1
 ·rcases h id b1 h1 with h3 | ⟨b0,h3,h4⟩
  ·exact .inl (h2 ▸ h3)
  ·exact .inr ⟨b0,h3,h4.trans h2⟩
section
variable {P:Program} {H:AH} {call:CallS}
end
def SpecW (P:Program) (S:Ids) (H0:AH) (W:Ids) (f:FuncId) (args:List Value) (post:Nat→Value→AH→Prop):Prop:=
 ∀H,Fin' H→Fz S H0 H→Run P f args.toArray H (fun v H1=>H.n≤H1.n∧(∀id,id<H.n→¬W id→H1.m id=H.m id)∧Fin' H1∧post H.n v H1)
theorem SpecM.w {P:Program} {S:Ids} {H0:AH} {W:Ids} {f:FuncId} {args:List Value} {post:Nat→Value→AH→Prop} (h:SpecM P S H0 f args post):SpecW P S H0 W f args post:=fun H hf hz=>by
 obtain⟨n,v,H1,h1,h2,h3,h4⟩:=h H hf hz
 exact⟨n,v,H1,h1,h2.1,fun id hid _=>h2.2 id hid,h3,h4⟩
section
variable {P:Program} {S:Ids} {H0:AH} {Q:PostC} {k k1:List It} {e e1:Env} {T T1:List Var} {n n1:Nat} {l1 r1:List Nat} {d1:Tmp}
theorem SpecW.of {W:Ids} {f:FuncId} {fn:Func} {c:Code} {args:List Value} {post:Nat→Value→AH→Prop} {id:Nat} {b:Blk} (hf:P.funcs[f]?=some fn) (hb:fn.body=some c) (hok:fnOkS fn=true) (hs:Nat.ble args.length fn.ntmps=true) (hS:S id) (hm:H0.m id=some b)
  (h:∀H,Fin' H→Fz S H0 H→KW P (fun i=>Low H.n i∧i≠id) H (Fin1 P fn (fun v H1=>H.n≤H1.n∧(∀id,id<H.n→¬W id→H1.m id=H.m id)∧Fin' H1∧post H.n v H1)) H.n [(id,b)] [.code c] (fun t=>args.getD t undef)):SpecW P S H0 W f args post:=by
 intro H hfin hfz
 refine Run.of hf hb (fnOkS_ok hok) (by simpa using Nat.le_of_ble_eq_true hs) ?_
 rw[envL_eq]
 obtain⟨h1,h2⟩:=hfz id hS
 refine(h H hfin hfz).wc (fnOkS_st hok hb) ⟨rfl,hfin,fun i hi=>⟨hi.1,rfl⟩,fun j v hj=>?_,fun i j u v hi hj he=>?_⟩
 ·cases j with
  | zero=>cases hj;exact⟨h2.trans hm,h1,fun hc=>hc.2 rfl⟩
  | succ j=>simp at hj
 ·cases i with
  | zero=>cases j with
   | zero=>rfl
   | succ j=>simp at hj
  | succ i=>simp at hi
theorem SpecW.of0 {W:Ids} {f:FuncId} {fn:Func} {c:Code} {args:List Value} {post:Nat→Value→AH→Prop} (hf:P.funcs[f]?=some fn) (hb:fn.body=some c) (hok:fnOkS fn=true) (hs:Nat.ble args.length fn.ntmps=true)
  (h:∀H,Fin' H→Fz S H0 H→KW P (Low H.n) H (Fin1 P fn (fun v H1=>H.n≤H1.n∧(∀id,id<H.n→¬W id→H1.m id=H.m id)∧Fin' H1∧post H.n v H1)) H.n [] [.code c] (fun t=>args.getD t undef)):SpecW P S H0 W f args post:=by
 intro H hfin hfz
 refine Run.of hf hb (fnOkS_ok hok) (by simpa using Nat.le_of_ble_eq_true hs) ?_
 rw[envL_eq]
 exact(h H hfin hfz).wc (fnOkS_st hok hb) (Good.start hfin)
theorem KW.retW {fn:Func} {H:AH} {W:Ids} {post:Value→AH→Prop} {vs:List Value} {a b:List Nat} (h:Go1 P k e T n (.done .ret) k1 e1 T1 n1 l1 r1) (hlr:l1=r1) (hr:aresT P e1 T1 fn.results.toList=some (vs,a,b)) (hab:a=b)
  (hn:∀H1,Good S H0 T1 n1 H1→H.n≤H1.n) (hS:∀id,id<H.n→¬W id→S id∧H0.m id=H.m id) (hp:∀H1,Good S H0 T1 n1 H1→post (aout vs) H1):
  KW P S H0 (Fin1 P fn (fun v H1=>H.n≤H1.n∧(∀id,id<H.n→¬W id→H1.m id=H.m id)∧Fin' H1∧post v H1)) n T k e:=by
 refine KW.go h hlr (fun H1 g=>?_)
 have hv:=aresT_ok (P:=P) g _ hr hab
 simp only[Fin1,hv]
 exact⟨hn H1 g,fun id hid hw=>by rw[(g.froz id (hS id hid hw).1).2,(hS id hid hw).2],g.fin,hp H1 g⟩
def StW (W S:Ids) (H0:AH) (S':Ids) (H1:AH):Prop:=∀id,S id→S' id∧(¬W id→H1.m id=H0.m id)
theorem KW.callW {f:Operand} {xs:Array Operand} {ts:Array TypeId} {g:FuncId} {first cap:Array Value} {o:Oper} {W:Ids} {post:Nat→Value→AH→Prop} (hW:∀id,W id→S id) (h:Go1 P k e T n (.op o false) k1 e1 T1 n1 l1 r1) (hlr:l1=r1) (ho:o.op=.call {callee:=.value f,args:=xs,argTypes:=ts}) (hd:o.dst=some d1) (hf:ev e1 f=.func (.func g) first cap)
  (hs:SpecW P S H0 W g (cargs e1 first cap xs) post)
  (hk:∀v H1 (S':Ids),n1≤H1.n→StW W S H0 S' H1→(∀id,New n1 H1.n id→S' id)→post n1 v H1→KW P S' H1 Q H1.n T1 k1 (put1 e1 d1 (untag v))):KW P S H0 Q n T k e:=by
 refine KW.go h hlr (fun H gd=>?_)
 replace gd:Good S H0 T1 n1 H:=gd
 obtain⟨m,v,H1,h1,hx1,hx2,hfin,hp⟩:=hs H gd.fin gd.fz
 have hn:H.n=n1:=gd.n_
 have e:untags (first++aargs e1 xs++cap)=(cargs e1 first cap xs).toArray:=by
  apply Array.ext'
  simp[aargs,untags,cargs]
 refine⟨m,untag v,H1,?_,?_⟩
 ·rw[ho]
  simp only[evOp,evCall,hf]
  exact⟨v,rfl,by rw[e];exact h1,fun h=>by cases h⟩
 ·rw[hn] at hp
  rw[hd,put1_eq]
  refine hk v H1 (fun id=>S id∨New n1 H1.n id) (by rw[← hn];exact hx1) (fun id hid=>⟨.inl hid,fun hw=>?_⟩) (fun id hid=>.inr hid) hp H1 ?_
  ·obtain⟨h2,h3⟩:=gd.froz id hid
   rw[hx2 id (by omega) hw,h3]
  ·refine⟨rfl,hfin,fun id hid=>⟨?_,rfl⟩,fun j w hj=>?_,gd.dist⟩
   ·rcases hid with hid | hid
    ·have:=(gd.froz id hid).1;omega
    ·exact hid.2
   ·obtain⟨h2,h3,h4⟩:=gd.vars j w hj
    refine⟨by rw[hx2 _ (by omega) (fun hw=>h4 (hW _ hw))];exact h2,by omega,fun hh=>?_⟩
    rcases hh with hh | hh
    ·exact h4 hh
    ·have:=hh.1;omega
end
def Kn.Ml {α:Type} (d:Kn α) (S:Ids) (H:AH) (s:Value) (xs:List α):Prop:=
 (xs=[]∧∃a c,s=.slice a 0 c∧(a=none→c=0))∨∃(o c:Nat) (b:Blk) (W:Nat→Ids),s=.slice (some ⟨o,0,some d.es⟩) xs.length c∧xs.length≤c∧S o∧H.m o=some b∧b.rw=true∧xs.length*d.es≤b.cells.length∧
  (∀i id,W i id→S id∧id≠o)∧(∀i j id,W i id→W j id→i=j)∧∀(i:Nat) x,xs[i]?=some x→d.R (W i) H x ((b.cells.drop (0+i*d.es)).take d.es)
theorem Kn.Ml.same {α:Type} {d:Kn α} {S:Ids} {H H':AH} {s:Value} {xs:List α} (hs:∀id,S id→H'.m id=H.m id) (h:d.Ml S H s xs):d.Ml S H' s xs:=by
 rcases h with h | ⟨o,c,b,W,h1,h2,h3,h4,h5,h6,h7,h8,h9⟩
 ·exact .inl h
 ·exact .inr ⟨o,c,b,W,h1,h2,h3,by rw[hs o h3];exact h4,h5,h6,h7,h8,fun i x hx=>d.same (fun id hid=>hs id (h7 i id hid).1) (h9 i x hx)⟩
theorem Kn.Ml.more {α:Type} {d:Kn α} {S S':Ids} {H:AH} {s:Value} {xs:List α} (h:d.Ml S H s xs) (hS:∀id,S id→S' id):d.Ml S' H s xs:=by
 rcases h with h | ⟨o,c,b,W,h1,h2,h3,h4,h5,h6,h7,h8,h9⟩
 ·exact .inl h
 ·exact .inr ⟨o,c,b,W,h1,h2,hS o h3,h4,h5,h6,fun i id hid=>⟨hS id (h7 i id hid).1,(h7 i id hid).2⟩,h8,h9⟩
def Kn.ml {α:Type} (d:Kn α):Kn (List α) where
 es:=1
 R:=fun S H xs cs=>∃s,cs=[s]∧d.Ml S H s xs
 len:=fun⟨s,h,_⟩=>by rw[h];rfl
 same:=fun hs ⟨s,h,k⟩=>⟨s,h,k.same hs⟩
 more:=fun hS ⟨s,h,k⟩=>⟨s,h,k.more hS⟩
def Kn.mp {α β:Type} (a:Kn α) (b:Kn β):Kn (α × β) where
 es:=a.es+b.es
 R:=fun S H x cs=>∃(c d:List Value) (S1 S2:Ids),cs=c++d∧(∀id,S1 id→S id)∧(∀id,S2 id→S id)∧(∀id,S1 id→S2 id→False)∧a.R S1 H x.1 c∧b.R S2 H x.2 d
 len:=fun⟨c,d,_,_,h,_,_,_,h1,h2⟩=>by rw[h,List.length_append,a.len h1,b.len h2]
 same:=fun hs ⟨c,d,S1,S2,h,i1,i2,hd,h1,h2⟩=>⟨c,d,S1,S2,h,i1,i2,hd,a.same (fun id hid=>hs id (i1 id hid)) h1,b.same (fun id hid=>hs id (i2 id hid)) h2⟩
 more:=fun hS ⟨c,d,S1,S2,h,i1,i2,hd,h1,h2⟩=>⟨c,d,S1,S2,h,fun id hid=>hS id (i1 id hid),fun id hid=>hS id (i2 id hid),hd,h1,h2⟩
def KLe {α:Type} (d d':Kn α):Prop:=d.es=d'.es∧∀S H x cs,d.R S H x cs→d'.R S H x cs
theorem KLe.refl {α:Type} (d:Kn α):KLe d d:=⟨rfl,fun _ _ _ _ h=>h⟩
theorem Kn.Ml.to {α:Type} {d d':Kn α} (k:KLe d d') {S:Ids} {H:AH} {s:Value} {xs:List α} (h:d.Ml S H s xs):d'.Sl S H s xs:=by
 rcases h with h | ⟨o,c,b,W,h1,h2,h3,h4,h5,h6,h7,h8,h9⟩
 ·exact .inl h
 ·rw[k.1] at h1 h6 h9
  exact .inr ⟨o,0,c,b,h1,h2,h3,h4,by omega,fun i x hx=>d'.more (fun id hid=>(h7 i id hid).1) (k.2 _ _ _ _ (h9 i x hx))⟩
theorem KLe.row {α:Type} {d d':Kn α} (k:KLe d d'):KLe d.ml d'.sl:=⟨rfl,fun S H x cs ⟨s,h,hm⟩=>⟨s,h,hm.to k⟩⟩
theorem KLe.pair {α β:Type} {a a':Kn α} {b b':Kn β} (h:KLe a a') (k:KLe b b'):KLe (Kn.mp a b) (Kn.pair a' b'):=⟨by show a.es+b.es=a'.es+b'.es;rw[h.1,k.1],fun S H x cs ⟨c,d,S1,S2,e,i1,i2,_,h1,h2⟩=>⟨c,d,e,a'.more i1 (h.2 _ _ _ _ h1),b'.more i2 (k.2 _ _ _ _ h2)⟩⟩
section
variable {α:Type} {d:Kn α} {S S':Ids} {H H1:AH} {s:Value} {xs:List α}
theorem Kn.Ml.sl (h:d.Ml S H s xs):d.Sl S H s xs:=h.to (KLe.refl d)
theorem Kn.Ml.form (h:d.Ml S H s xs):∃a c,s=.slice a xs.length c:=h.sl.form
theorem Kn.Ml.st {H0:AH} (h:d.Ml S H0 s xs) (st:St S H0 S' H1):d.Ml S' H1 s xs:=(h.same (fun id hid=>(st id hid).2)).more (fun id hid=>(st id hid).1)
theorem Kn.Ml.apart {W S1:Ids} {H0:AH} (h:d.Ml S1 H0 s xs) (hi:∀id,S1 id→S id) (st:StW W S H0 S' H1) (hd:∀id,S1 id→¬W id):d.Ml S1 H1 s xs∧∀id,S1 id→S' id:=
 ⟨h.same (fun id hid=>(st id (hi id hid)).2 (hd id hid)),fun id hid=>(st id (hi id hid)).1⟩
theorem Kn.Sl.apart {W S1:Ids} {H0:AH} (h:d.Sl S1 H0 s xs) (hi:∀id,S1 id→S id) (st:StW W S H0 S' H1) (hd:∀id,S1 id→¬W id):d.Sl S1 H1 s xs∧∀id,S1 id→S' id:=
 ⟨h.same (fun id hid=>(st id (hi id hid)).2 (hd id hid)),fun id hid=>(st id (hi id hid)).1⟩
theorem int_ml {ik:IntKind} {ys:List Int} {id c:Nat} {b:Blk} (hS:S id) (hb:H.m id=some b) (hrw:b.rw=true) (hc:b.cells=ys.map (Value.int ik)) (hl:ys.length≤c):(Kn.int ik).Ml S H (.slice (some ⟨id,0,some 1⟩) ys.length c) ys:=
 .inr ⟨id,c,b,fun _ _=>False,rfl,hl,hS,hb,hrw,by rw[hc];simp[Kn.int],fun _ _ h=>h.elim,fun _ _ _ h=>h.elim,fun i x hx=>by rw[hc];exact int_at hx⟩
end
theorem Good.ml {α:Type} {d:Kn α} {S S1:Ids} {H0 H2:AH} {T:List Var} {n lo:Nat} {v:Value} {xs:List α} (g:Good S H0 T n H2) (h:d.Ml S1 H0 v xs) (hS:∀id,S1 id→S id∧lo≤id):d.Ml (New lo H2.n) H2 v xs:=
 (h.same (fun id hid=>(g.froz id (hS id hid).1).2)).more (fun id hid=>⟨(hS id hid).2,by have:=(g.froz id (hS id hid).1).1;have:=g.n_;omega⟩)
structure MkS where
 i:Nat
 S:Ids
 A:AH
 W:Nat→Ids
 cs:List Value
structure MkI {α:Type} (d:Kn α) (xs:List α) (H:AH) (s:MkS):Prop where
 le:s.i≤xs.length
 len:s.cs.length=xs.length
 old:St (Low H.n) H s.S s.A
 own:∀j id,s.W j id→s.S id∧H.n<id
 dis:∀i j id,s.W i id→s.W j id→i=j
 row:∀j,j<s.i→∀x,xs[j]?=some x→∃v,s.cs[j]?=some v∧d.R (s.W j) s.A x [v]
theorem MkI.start {α:Type} {d:Kn α} {xs:List α} {H:AH} {cs:List Value} (hl:cs.length=xs.length):MkI d xs H ⟨0,Low H.n,H,fun _ _=>False,cs⟩:=
 ⟨by simp only;omega,hl,fun id hid=>⟨hid,rfl⟩,fun _ _ h=>h.elim,fun _ _ _ h=>h.elim,fun j hj=>absurd hj (by simp)⟩
theorem MkI.next {α:Type} {d:Kn α} {xs:List α} {H H1:AH} {s:MkS} {S':Ids} {n:Nat} (h:MkI d xs H s) (hn:H.n<n) (hlt:∀id,s.S id→id<n) (st:St s.S s.A S' H1) (hw:∀id,New n H1.n id→S' id) {y:α} {v:Value} (hy:xs[s.i]?=some y) (hv:d.R (New n H1.n) H1 y [v]):
  MkI d xs H ⟨s.i+1,S',H1,fun j id=>if j=s.i then New n H1.n id else s.W j id,s.cs.set (0+s.i*1) v⟩:=by
 have hi:=(List.getElem?_eq_some_iff.1 hy).1
 have hl:=h.len
 refine⟨by simp only;omega,by simp[h.len],h.old.trans st,fun j id hid=>?_,fun i j id hi hj=>?_,fun j hj x hx=>?_⟩
 ·simp only at hid
  split at hid
  ·exact⟨hw id hid,by have:=hid.1;omega⟩
  ·exact⟨(st id (h.own j id hid).1).1,(h.own j id hid).2⟩
 ·simp only at hi hj
  split at hi<;>split at hj
  ·omega
  ·have:=hlt id (h.own j id hj).1;have:=hi.1;omega
  ·have:=hlt id (h.own i id hi).1;have:=hj.1;omega
  ·exact h.dis i j id hi hj
 ·simp only at hj
  rw[Nat.zero_add,Nat.mul_one]
  by_cases e:s.i=j
  ·subst e
   rw[hy] at hx
   cases hx
   refine⟨v,by simp only;rw[List.getElem?_set_self (by omega)],?_⟩
   simp only[if_true]
   exact hv
  ·obtain⟨u,h1,h2⟩:=h.row j (by omega) x hx
   refine⟨u,by simp only;rw[List.getElem?_set_ne e];exact h1,?_⟩
   simp only
   rw[show(fun id=>if j=s.i then New n H1.n id else s.W j id)=s.W j from by funext id;rw[if_neg (Ne.symm e)]]
   exact d.same (fun id hid=>(st id (h.own j id hid).1).2) h2
theorem MkI.ml {α:Type} {d:Kn α} {xs:List α} {H H1:AH} {s:MkS} {n1:Nat} {ty:TypeId} {T:List Var} (h:MkI d xs H s) (he:s.i=xs.length) (hes:d.es=1) (hT:T[0]?=some (H.n,⟨ty,true,s.cs⟩)) (g:Good s.S s.A T n1 H1):
  d.Ml (New H.n H1.n) H1 (.slice (some ⟨H.n,0,some 1⟩) xs.length xs.length) xs:=by
 have hb:=g.blk hT
 have hn:=g.n_
 refine .inr ⟨H.n,xs.length,_,s.W,by rw[hes],Nat.le_refl _,⟨Nat.le_refl _,hb.2⟩,hb.1,rfl,by simp only[hes,h.len];omega,fun i id hid=>⟨⟨Nat.le_of_lt (h.own i id hid).2,?_⟩,Nat.ne_of_gt (h.own i id hid).2⟩,h.dis,fun i x hx=>?_⟩
 ·have:=(g.froz id (h.own i id hid).1).1
  omega
 have hi:=(List.getElem?_eq_some_iff.1 hx).1
 obtain⟨v,h1,h2⟩:=h.row i (by omega) x hx
 have e:((s.cs.drop (0+i*d.es)).take d.es)=[v]:=by
  rw[hes,Nat.zero_add,Nat.mul_one,List.take_one,List.head?_drop,h1]
  rfl
 simp only
 rw[e]
 exact d.same (fun id hid=>(g.froz id (h.own i id hid).1).2) h2
theorem cell_of {l:List Value} {m:Nat} {v:Value} (h:(l.drop m).take 1=[v]):l[m]?=some v:=by
 have:((l.drop m).take 1)[0]?=some v:=by rw[h];rfl
 rw[List.getElem?_take,if_pos (by omega),List.getElem?_drop] at this
 simpa using this
section
variable {P:Program} {S:Ids} {H0:AH} {Q:PostC} {k k1:List It} {e e1:Env} {T T1:List Var} {n n1:Nat} {l1 r1:List Nat} {d1:Tmp}
end
structure Fc {α:Type} (d:Kn α) (X S:Ids) (H:AH) (s:Value) (xs:List α):Prop where
 r:d.Sl X H s xs
 i:∀id,X id→S id
structure Fm {α:Type} (d:Kn α) (X S:Ids) (H:AH) (s:Value) (xs:List α):Prop where
 r:d.Ml X H s xs
 i:∀id,X id→S id
section
variable {α:Type} {d:Kn α} {X S S':Ids} {H H1:AH} {s:Value} {xs:List α}
theorem Fc.st (h:Fc d X S H s xs) (t:St S H S' H1):Fc d X S' H1 s xs:=⟨h.r.same (fun id hid=>(t id (h.i id hid)).2),fun id hid=>(t id (h.i id hid)).1⟩
theorem Fm.st (h:Fm d X S H s xs) (t:St S H S' H1):Fm d X S' H1 s xs:=⟨h.r.same (fun id hid=>(t id (h.i id hid)).2),fun id hid=>(t id (h.i id hid)).1⟩
theorem Fc.w {W:Ids} (h:Fc d X S H s xs) (t:StW W S H S' H1) (hd:∀id,X id→W id→False):Fc d X S' H1 s xs:=⟨h.r.same (fun id hid=>(t id (h.i id hid)).2 (hd id hid)),fun id hid=>(t id (h.i id hid)).1⟩
theorem Fm.w {W:Ids} (h:Fm d X S H s xs) (t:StW W S H S' H1) (hd:∀id,X id→W id→False):Fm d X S' H1 s xs:=⟨h.r.same (fun id hid=>(t id (h.i id hid)).2 (hd id hid)),fun id hid=>(t id (h.i id hid)).1⟩
theorem Fc.sl (h:Fc d X S H s xs):d.Sl S H s xs:=h.r.more h.i
theorem Fm.ml (h:Fm d X S H s xs):d.Ml S H s xs:=h.r.more h.i
theorem Fm.sl (h:Fm d X S H s xs):d.Sl S H s xs:=h.ml.sl
end
theorem StW.low {W S S':Ids} {H H1:AH} {m:Nat} {H0:AH} (t:StW W S H S' H1) (h:St (Low m) H0 S H) (hd:∀id,id<m→W id→False):St (Low m) H0 S' H1:=fun id hid=>⟨(t id (h id hid).1).1,((t id (h id hid).1).2 (hd id hid)).trans (h id hid).2⟩
theorem Opn.weak {α:Type} {P:Program} {t:TypeId} {d:Kn α} {wf wf':α→Prop} (h:Opn P t d wf) (hw:∀a,wf a→wf' a):Opn P t d wf':=by
 intro H enc w base held fuel cs x hx hwt ρ A p
 obtain⟨a,ρ',A',acs,h1,h2,h3,h4,h5⟩:=h H enc w base held fuel cs x hx hwt ρ A p
 exact⟨a,ρ',A',acs,h1,h2,h3,h4,hw a h5⟩
def I64 (a:Int):Prop:=-9223372036854775808≤a∧a≤9223372036854775807
def RowOf {α:Type} (w:α→Prop) (xs:List α):Prop:=xs.length≤9223372036854775807∧∀x∈xs,w x
abbrev KI:Kn Int:=Kn.int .i64
theorem OpnRow {α:Type} {P:Program} {t el:TypeId} {d:Kn α} {w:α→Prop} (ht:P.underlying t=some (.slice el)) (hc:P.cellsOf el=d.es) (hpos:0<d.es) (he:Opn P el d w):Opn P t d.sl (RowOf w):=
 (Opn.slice ht hc rfl hpos he).weak fun xs h=>⟨by have:=h.1;have:maxLen=9223372036854775807:=(by first | rfl | simp[maxLen]);omega,h.2.2⟩
section
variable {S:Ids} {H:AH}
theorem KI_of {x:Int} {cs:List Value} (h:KI.R S H x cs):cs=[.int .i64 x]:=h
end
section
variable {P:Program}
end
class Stp (S:outParam Ids) (H:outParam AH) (S':Ids) (H':AH):Prop where
 st:St S H S' H'
class On (S:Ids) (H:AH) (S':Ids) (H':AH):Prop where
 st:St S H S' H'
instance On.refl (S:Ids) (H:AH):On S H S H:=⟨fun id hid=>⟨hid,rfl⟩⟩
instance On.step {S S1 S2:Ids} {H H1 H2:AH} [t:Stp S1 H1 S2 H2] [o:On S H S1 H1]:On S H S2 H2:=⟨o.st.trans t.st⟩
section
variable {α:Type} {d:Kn α} {X S S':Ids} {H H':AH} {s:Value} {xs:List α} {x:α} {cs:List Value}
theorem Kn.Sl.up [o:On S H S' H'] (h:d.Sl S H s xs):d.Sl S' H' s xs:=h.st o.st
theorem Kn.Ml.up [o:On S H S' H'] (h:d.Ml S H s xs):d.Ml S' H' s xs:=Kn.Ml.st h o.st
theorem Kn.Ml.ups [o:On S H S' H'] (h:d.Ml S H s xs):d.Sl S' H' s xs:=(Kn.Ml.st h o.st).sl
theorem Kn.Ml.upS [o:On S H S' H'] {xs:List (List α)} (h:d.ml.Ml S H s xs):d.sl.Sl S' H' s xs:=(Kn.Ml.st h o.st).to (KLe.row (KLe.refl d))
theorem On.R [o:On S H S' H'] (h:d.R S H x cs):d.R S' H' x cs:=d.more (fun id hid=>(o.st id hid).1) (d.same (fun id hid=>(o.st id hid).2) h)
theorem On.blk [o:On S H S' H'] {id:Nat} {b:Blk} (hS:S id) (hm:H.m id=some b):S' id∧H'.m id=some b:=⟨(o.st id hS).1,((o.st id hS).2).trans hm⟩
theorem Good.out {S0:Ids} {H0 H2:AH} {T:List Var} {n lo:Nat} (g:Good S0 H0 T n H2) [o:On X H S0 H0] (hX:∀id,X id→lo≤id):On X H (New lo H2.n) H2:=
 ⟨fun id hid=>by
  obtain⟨h1,h2⟩:=o.st id hid
  obtain⟨h3,h4⟩:=g.froz id h1
  have:=g.n_
  exact⟨⟨hX id hid,by omega⟩,h4.trans h2⟩⟩
theorem Good.back {S0 S1:Ids} {H0 H1 H2:AH} {T:List Var} {n:Nat} [o:On S0 H0 S1 H1] (g:Good S1 H1 T n H2):Good S0 H0 T n H2:=g.weak (fun id hid=>⟨(o.st id hid).1,((o.st id hid).2).symm⟩)
theorem Good.stp {S0:Ids} {H0 H2:AH} {T:List Var} {n:Nat} (g:Good S0 H0 T n H2):Stp S0 H0 (Low H2.n) H2:=⟨g.st⟩
theorem Good.var {S0:Ids} {H0 H1:AH} {T:List Var} {n j id:Nat} {b:Blk} (g:Good S0 H0 T n H1) (hj:T[j]?=some (id,b)) [o:On (Low H1.n) H1 S' H']:S' id∧H'.m id=some b:=by
 obtain⟨h1,h2⟩:=g.blk hj
 obtain⟨h3,h4⟩:=o.st id h2
 exact⟨h3,h4.trans h1⟩
theorem Good.nle {S0:Ids} {H0 H1 H2:AH} {T:List Var} {n:Nat} [o:On (Low H1.n) H1 S0 H0] (g:Good S0 H0 T n H2):H1.n≤n:=by
 rcases Nat.eq_zero_or_pos H1.n with h | h
 ·omega
 ·have:=(g.froz (H1.n-1) (o.st _ (by show _<_;omega)).1).1;omega
end
section
variable {P:Program} {S:Ids} {H0:AH} {Q:PostC} {k k1 k2:List It} {e e1 e2:Env} {T T1 T2:List Var} {n n1 n2:Nat} {l1 r1 l2 r2:List Nat} {d1 d2:Tmp}
theorem Spec.of1 {f:FuncId} {fn:Func} {c:Code} {args:List Value} {post:Value→Prop} (hf:P.funcs[f]?=some fn) (hb:fn.body=some c) (hok:fnOkS fn=true) (hs:Nat.ble args.length fn.ntmps=true)
  (h:∀H,Stp S H0 (Low H.n) H→KW P (Low H.n) H (Fin1 P fn (fun v H1=>Ext H H1∧Fin' H1∧post v)) H.n [] [.code c] (fun t=>args.getD t undef)):Spec P S H0 f args post:=
 Spec.of hf hb hok hs (fun H _ hfz=>h H ⟨fun id hid=>hfz id hid⟩)
theorem SpecM.of1 {f:FuncId} {fn:Func} {c:Code} {args:List Value} {post:Nat→Value→AH→Prop} (hf:P.funcs[f]?=some fn) (hb:fn.body=some c) (hok:fnOkS fn=true) (hs:Nat.ble args.length fn.ntmps=true)
  (h:∀H,Stp S H0 (Low H.n) H→KW P (Low H.n) H (Fin1 P fn (fun v H1=>Ext H H1∧Fin' H1∧post H.n v H1)) H.n [] [.code c] (fun t=>args.getD t undef)):SpecM P S H0 f args post:=
 SpecM.of hf hb hok hs (fun H _ hfz=>h H ⟨fun id hid=>hfz id hid⟩)
theorem KW.callN1 {dr:Bool} {f:Operand} {xs:Array Operand} {ts:Array TypeId} {g:FuncId} {first cap:Array Value} {o:Oper} {post:Nat→Value→AH→Prop} (h:Go1 P k e T n (.op o dr) k1 e1 T1 n1 l1 r1) (hlr:l1=r1) (ho:o.op=.call {callee:=.value f,args:=xs,argTypes:=ts}) (hd:o.dst=some d1) (hf:ev e1 f=.func (.func g) first cap)
  (hs:SpecM P S H0 g (cargs e1 first cap xs) post)
  (hk:∀v H1 (S':Ids),n1≤H1.n→Stp S H0 S' H1→On (New n1 H1.n) H1 S' H1→post n1 v H1→KW P S' H1 Q H1.n T1 k1 (put1 e1 d1 (untag v))):KW P S H0 Q n T k e:=
 KW.callN h hlr ho hd hf hs (fun v H1 S' h1 h2 h3 h4=>hk v H1 S' h1 ⟨h2⟩ ⟨fun id hid=>⟨h3 id hid,rfl⟩⟩ h4)
theorem KW.callNV1 {dr:Bool} {f:Operand} {xs:Array Operand} {ts:Array TypeId} {g:FuncId} {first cap:Array Value} {o:Oper} {post:Nat→Value→AH→Prop} (h:Go1 P k e T n (.op o dr) k1 e1 T1 n1 l1 r1) (hlr:l1=r1) (ho:o.op=.call {callee:=.value f,args:=xs,argTypes:=ts}) (hd:o.dst=some d1) (hf:ev e1 f=.func (.func g) first cap)
  (hs:∀H,Good S H0 T1 n1 H→Stp S H0 (Low H.n) H→SpecM P (Low H.n) H g (cargs e1 first cap xs) post)
  (hk:∀v H1 (S':Ids),n1≤H1.n→Stp S H0 S' H1→On (New n1 H1.n) H1 S' H1→post n1 v H1→KW P S' H1 Q H1.n T1 k1 (put1 e1 d1 (untag v))):KW P S H0 Q n T k e:=
 KW.callNV h hlr ho hd hf (fun H g=>hs H g g.stp) (fun v H1 S' h1 h2 h3 h4=>hk v H1 S' h1 ⟨h2⟩ ⟨fun id hid=>⟨h3 id hid,rfl⟩⟩ h4)
theorem KW.callV1 {dr:Bool} {f:Operand} {xs:Array Operand} {ts:Array TypeId} {g:FuncId} {first cap:Array Value} {o:Oper} {v:Value} (h:Go1 P k e T n (.op o dr) k1 e1 T1 n1 l1 r1) (hlr:l1=r1) (ho:o.op=.call {callee:=.value f,args:=xs,argTypes:=ts}) (hd:o.dst=some d1) (hf:ev e1 f=.func (.func g) first cap)
  (hs:∀H,Good S H0 T1 n1 H→Stp S H0 (Low H.n) H→Spec P (Low H.n) H g (cargs e1 first cap xs) (fun u=>u=v))
  (hk:∀n',n1≤n'→KW P S H0 Q n' T1 k1 (put1 e1 d1 (untag v))):KW P S H0 Q n T k e:=
 KW.callV h hlr ho hd hf (fun H g=>hs H g g.stp) hk
theorem KW.retM1 {fn:Func} {H:AH} {post:Value→AH→Prop} {vs:List Value} {a b:List Nat} [o:On (Low H.n) H S H0] (h:Go1 P k e T n (.done .ret) k1 e1 T1 n1 l1 r1) (hlr:l1=r1) (hr:aresT P e1 T1 fn.results.toList=some (vs,a,b)) (hab:a=b)
  (hp:∀H1,Good S H0 T1 n1 H1→post (aout vs) H1):
  KW P S H0 (Fin1 P fn (fun v H1=>Ext H H1∧Fin' H1∧post v H1)) n T k e:=
 KW.retM h hlr hr hab (fun id hid=>o.st id hid) hp
theorem KW.take (m:Nat) (h:KW P S H0 Q n (T.take m) k e):KW P S H0 Q n T k e:=fun H g=>h H (g.take m)
theorem acells_S {α:Type} {d:Kn α} {a:Option Addr} {c:Nat} {xs:List α} {H:AH} (hd:d.es=1) (h:d.Sl S H0 (.slice a xs.length c) xs) (g:Good S H0 T n H):∃ys:List Value,acells H (.slice a xs.length c) 1=some (xs.length,ys)∧ys.length=xs.length∧∀(i:Nat) x,xs[i]?=some x→∃v,ys[i]?=some v∧d.R S H0 x [v]:=by
 rcases h with⟨rfl,_⟩ | ⟨id,k,c1,b,h1,h2,h3,h4,h5,h6⟩
 ·exact⟨[],by simp[acells],rfl,fun i x h=>by simp at h⟩
 ·cases xs with
  | nil=>exact⟨[],by simp[acells],rfl,fun i x h=>by simp at h⟩
  | cons y xs=>
   cases h1
   have hb:H.m id=some b:=((g.froz id h3).2).trans h4
   rw[hd] at h5 h6
   refine⟨(b.cells.drop k).take (xs.length+1),?_,by simp at h5 ⊢;omega,fun i x hx=>?_⟩
   ·simp only[List.length_cons,acells,hd,if_true,hb]
    rw[if_pos (by simp at h5;omega),Nat.mul_one]
   ·have hi:=(List.getElem?_eq_some_iff.1 hx).1
    simp only[List.length_cons] at hi h5
    obtain⟨v,hv⟩:∃v,b.cells[k+i*1]?=some v:=⟨b.cells[k+i*1]'(by omega),List.getElem?_eq_getElem (by omega)⟩
    have h7:=h6 i x hx
    have e:(b.cells.drop (k+i*1)).take 1=[v]:=by rw[List.take_one,List.head?_drop,hv];rfl
    rw[e] at h7
    exact⟨v,by rw[List.getElem?_take,if_pos (by omega),List.getElem?_drop];simpa using hv,h7⟩
theorem acells_I {ik:IntKind} {a:Option Addr} {c:Nat} {xs:List Int} {H:AH} (h:(Kn.int ik).Sl S H0 (.slice a xs.length c) xs) (g:Good S H0 T n H):acells H (.slice a xs.length c) 1=some (xs.length,xs.map (Value.int ik)):=by
 obtain⟨ys,h1,h2,h3⟩:=acells_S rfl h g
 rw[h1]
 congr 2
 refine List.ext_getElem? fun i=>?_
 rcases Nat.lt_or_ge i xs.length with hi | hi
 ·obtain⟨v,h4,h5⟩:=h3 i xs[i] (List.getElem?_eq_getElem hi)
  have h5:[v]=[Value.int ik xs[i]]:=h5
  rw[h4,List.getElem?_map,List.getElem?_eq_getElem hi]
  simpa using h5
 ·rw[List.getElem?_eq_none (by omega),List.getElem?_eq_none (by simpa using hi)]
theorem KW.appZ {o:Oper} {dr:Bool} {t el:TypeId} {x y:Operand} {inf:TypeInfo} {id len c:Nat} (h:Go1 P k e T n (.op o dr) k1 e1 T1 n1 l1 r1) (hlr:l1=r1) (ho:o.op=.call {callee:=.builtin .append,args:=#[x,y],argTypes:=#[t,t]}) (hd:o.dst=some d1) (hx:ev e1 x=.slice (some ⟨id,0,some 1⟩) len c)
  (hu:P.underlying t=some (.slice el)) (hi:P.info? el=some inf) (hs:inf.size=1) (hzo:zeroOkL P el=true) (hy:∀H,Good S H0 T1 n1 H→acells H (ev e1 y) 1=some (0,[]))
  (hk:KW P S H0 Q n1 T1 k1 (put1 e1 d1 (.slice (some ⟨id,0,some 1⟩) len c))):KW P S H0 Q n T k e:=by
 refine KW.go h hlr (KEvt.heap (c:=⟨_,_,_,_,_,_⟩) _ _ _ (by rw[ho];exact .inr rfl) (fun H g=>⟨none,_,?_,g⟩) (by rw[hd,put1_eq];exact hk))
 rw[ho]
 have h1:=hy H g
 simp only[hop,aapp,aappend,hu,hi,hs,hx,h1]
 rw[if_pos trivial,if_pos ⟨zeroOkL_ok hzo,by omega,by simp⟩]
 simp
theorem KW.appV {o:Oper} {dr:Bool} {t el:TypeId} {x y:Operand} {inf:TypeInfo} {id len m L:Nat} {zs ys:List Value} (j:Nat) (h:Go1 P k e T n (.op o dr) k1 e1 T1 n1 l1 r1) (hlr:l1=r1) (ho:o.op=.call {callee:=.builtin .append,args:=#[x,y],argTypes:=#[t,t]}) (hd:o.dst=some d1) (hx:ev e1 x=.slice (some ⟨id,0,some 1⟩) len len) (hT:T1[j]?=some (id,⟨el,true,zs⟩))
  (hu:P.underlying t=some (.slice el)) (hi:P.info? el=some inf) (hs:inf.size=1) (hzo:zeroOkL P el=true) (hy:∀H,Good S H0 T1 n1 H→acells H (ev e1 y) 1=some (m,ys)) (hyl:ys.length=m) (hlen:zs.length=len) (hone:∀v∈ys,v.oneCell'=true) (hb:(len+m)*inf.bytes≤140737488355328) (hml:len+m≤9223372036854775807) (hL:len+m=L)
  (hk:∀o n',n1≤n'→KW P S H0 Q n' (T1.set j (o,⟨el,true,zs++ys⟩)) k1 (put1 e1 d1 (.slice (some ⟨o,0,some 1⟩) L L))):KW P S H0 Q n T k e:=by
 subst hL
 rcases Nat.eq_zero_or_pos m with hm | hm
 ·subst hm
  have hys:ys=[]:=List.eq_nil_of_length_eq_zero hyl
  subst hys
  refine KW.appZ h hlr ho hd hx hu hi hs hzo hy ?_
  have h1:=hk id n1 (Nat.le_refl _)
  have e1:T1.set j (id,⟨el,true,zs++[]⟩)=T1:=by
   rw[List.append_nil]
   refine List.ext_getElem? fun i=>?_
   by_cases hij:j=i
   ·subst hij
    rw[List.getElem?_set_self (List.getElem?_eq_some_iff.1 hT).1,hT]
   ·rw[List.getElem?_set_ne hij]
  rw[e1] at h1
  exact h1
 ·exact KW.appT j h hlr ho hd hx hT hu hi hs hzo hy hlen hone (by omega) hb hml (hk _ _ (Nat.le_succ _))
theorem KW.app1 (j m0:Nat) {o o':Oper} {dr dr':Bool} {t el t':TypeId} {m:Nat} {parts:Array (Nat × Operand)} {inf:TypeInfo} {z:Value} {x y:Operand} {len c id:Nat} {xs:List Value} {v:Value} (h:Go1 P k e T n (.op o dr) k1 e1 T1 n1 l1 r1) (hlr:l1=r1) (ho:o.op=.buildSlice t m parts) (hd:o.dst=some d1)
  (hu:P.underlying t=some (.slice el)) (hi:P.info? el=some inf) (hs:inf.size=1) (hz:inf.zero=some z) (hz1:z.cells=#[z]) (hzo:zeroOkL P el=true) (hp:(parts.toList.map fun p=>(p.1,ev e1 p.2))=[(0,v)]) (hm:m=1) (hv:v.cells=#[v]) (ho1:v.oneCell'=true)
  (h':Go1 P k1 (put1 e1 d1 (.slice (some ⟨n1,0,some 1⟩) 1 1)) (T1++[(n1,⟨el,true,[v]⟩)]) (n1+1) (.op o' dr') k2 e2 T2 n2 l2 r2) (hlr':l2=r2) (ho':o'.op=.call {callee:=.builtin .append,args:=#[x,y],argTypes:=#[t',t']}) (hd':o'.dst=some d2) (hx':ev e2 x=.slice (some ⟨id,0,some 1⟩) len c) (hT:T2[j]?=some (id,⟨el,true,xs⟩))
  (hu':P.underlying t'=some (.slice el)) (hy':ev e2 y=.slice (some ⟨n1,0,some 1⟩) 1 1) (hT2:T2[m0]?=some (n1,⟨el,true,[v]⟩)) (hlen:xs.length=len) (hb:(len+1)*inf.bytes≤140737488355328) (hml:len+1≤9223372036854775807)
  (hk:KW P S H0 Q (n2+1) ((T2.set j (n2,⟨el,true,xs++[v]⟩)).take m0) k2 (put1 e2 d2 (.slice (some ⟨n2,0,some 1⟩) (len+1) (len+1)))):KW P S H0 Q n T k e:=
 KW.lit h hlr ho hd hu hi hs hz hz1 hzo [v] (by rw[hp];rfl) hm (fun u hu=>by rw[List.mem_singleton.1 hu];exact hv) rfl
  (KW.appT (ys:=[v]) (m:=1) j h' hlr' ho' hd' hx' hT hu' hi hs hzo (fun H g=>by rw[hy'];exact acells_T (g.blk hT2).1 U U) hlen (fun u hu=>by rw[List.mem_singleton.1 hu];exact ho1) (by decide) hb hml (KW.take m0 hk))
theorem KW.app0 (m0:Nat) {o o':Oper} {dr dr':Bool} {t el t':TypeId} {m:Nat} {parts:Array (Nat × Operand)} {inf:TypeInfo} {z:Value} {x y:Operand} {v:Value} (h:Go1 P k e T n (.op o dr) k1 e1 T1 n1 l1 r1) (hlr:l1=r1) (ho:o.op=.buildSlice t m parts) (hd:o.dst=some d1)
  (hu:P.underlying t=some (.slice el)) (hi:P.info? el=some inf) (hs:inf.size=1) (hz:inf.zero=some z) (hz1:z.cells=#[z]) (hzo:zeroOkL P el=true) (hp:(parts.toList.map fun p=>(p.1,ev e1 p.2))=[(0,v)]) (hm:m=1) (hv:v.cells=#[v]) (ho1:v.oneCell'=true)
  (h':Go1 P k1 (put1 e1 d1 (.slice (some ⟨n1,0,some 1⟩) 1 1)) (T1++[(n1,⟨el,true,[v]⟩)]) (n1+1) (.op o' dr') k2 e2 T2 n2 l2 r2) (hlr':l2=r2) (ho':o'.op=.call {callee:=.builtin .append,args:=#[x,y],argTypes:=#[t',t']}) (hd':o'.dst=some d2) (hx':ev e2 x=.slice none 0 0)
  (hu':P.underlying t'=some (.slice el)) (hy':ev e2 y=.slice (some ⟨n1,0,some 1⟩) 1 1) (hT2:T2[m0]?=some (n1,⟨el,true,[v]⟩)) (hb:inf.bytes≤140737488355328)
  (hk:KW P S H0 Q (n2+1) (T2.take m0++[(n2,⟨el,true,[v]⟩)]) k2 (put1 e2 d2 (.slice (some ⟨n2,0,some 1⟩) 1 1))):KW P S H0 Q n T k e:=
 KW.lit h hlr ho hd hu hi hs hz hz1 hzo [v] (by rw[hp];rfl) hm (fun u hu=>by rw[List.mem_singleton.1 hu];exact hv) rfl
  (KW.appN (ys:=[v]) (m:=1) h' hlr' ho' hd' hx' hu' hi hs hzo (fun H g=>by rw[hy'];exact acells_T (g.blk hT2).1 U U) (fun u hu=>by rw[List.mem_singleton.1 hu];exact ho1) (by decide) (by omega) (by decide) (fun H g=>hk H
   ⟨g.n_,g.fin,g.froz,fun i w hi=>by
    rw[List.getElem?_append] at hi
    split at hi
    ·rename_i hlt
     rw[List.getElem?_take] at hi
     split at hi
     ·exact g.vars i w (by rw[List.getElem?_append_left (List.getElem?_eq_some_iff.1 hi).1];exact hi)
     ·cases hi
    ·rename_i hge
     obtain⟨h1,h2⟩:=List.getElem?_eq_some_iff.1 hi
     simp at h1 h2
     subst h2
     exact g.vars T2.length _ (by simp),
   fun i i' u w hi hi' he=>by
    have hm0:=(List.getElem?_eq_some_iff.1 hT2).1
    have get:∀{i:Nat} {u:Var},(T2.take m0++[(n2,⟨el,true,[v]⟩)])[i]?=some u→(i=m0∧u=(n2,⟨el,true,[v]⟩))∨(i<m0∧(T2++[(n2,(⟨el,true,[v]⟩:Blk))])[i]?=some u):=fun {i u} hi=>by
     have hl:(T2.take m0).length=m0:=by rw[List.length_take];omega
     rw[List.getElem?_append] at hi
     split at hi
     ·rename_i hlt
      rw[List.getElem?_take] at hi
      split at hi
      ·exact .inr ⟨by omega,by rw[List.getElem?_append_left (by omega)];exact hi⟩
      ·cases hi
     ·obtain⟨h1,h2⟩:=List.getElem?_eq_some_iff.1 hi
      simp at h1 h2
      exact .inl ⟨by omega,h2.symm⟩
    have lst:(T2++[(n2,(⟨el,true,[v]⟩:Blk))])[T2.length]?=some (n2,⟨el,true,[v]⟩):=by simp
    rcases get hi with⟨e1,rfl⟩ | ⟨e1,k1⟩<;>rcases get hi' with⟨e2,rfl⟩ | ⟨e2,k2⟩
    ·omega
    ·have:=g.dist _ _ _ _ lst k2 he;omega
    ·have:=g.dist _ _ _ _ k1 lst he;omega
    ·exact g.dist _ _ _ _ k1 k2 he⟩))
theorem KW.build {o:Oper} {dr:Bool} {t:TypeId} {parts:Array (Nat × Operand)} {cs:Array Value} (h:Go1 P k e T n (.op o dr) k1 e1 T1 n1 l1 r1) (hlr:l1=r1) (ho:o.op=.build t parts) (hd:o.dst=some d1) (hz:zeroOkL P t=true) (hb:P.built t (parts.toList.map fun p=>(p.1,ev e1 p.2))=some cs) (hk:KW P S H0 Q n1 T1 k1 (put1 e1 d1 (.agg cs))):KW P S H0 Q n T k e:=by
 refine KW.pure h hlr ho hd rfl _ ?_ hk
 simp only[pop,abuild,hb]
 rw[if_pos (zeroOkL_ok hz)]
theorem KW.tT {t:Bool} (h:Go1 P k e T n (.test (some d1) t) k1 e1 T1 n1 l1 r1) (hlr:l1=r1) (ht:t=true) (hk:KW P S H0 Q n1 T1 k1 (put1 e1 d1 (.bool true))):KW P S H0 Q n T k e:=
 KW.tstB h hlr (fun _=>hk) (fun h=>by rw[ht] at h;cases h)
theorem KW.tF {t:Bool} (h:Go1 P k e T n (.test (some d1) t) k1 e1 T1 n1 l1 r1) (hlr:l1=r1) (ht:t=false) (hk:KW P S H0 Q n1 T1 k1 (put1 e1 d1 (.bool false))):KW P S H0 Q n T k e:=
 KW.tstB h hlr (fun h=>by rw[ht] at h;cases h) (fun _=>hk)
theorem KW.cT {t:Bool} {a b:Code} (h:Go1 P k e T n (.cond t a b) k1 e1 T1 n1 l1 r1) (hlr:l1=r1) (ht:t=true) (hk:KW P S H0 Q n1 T1 (.code a :: k1) e1):KW P S H0 Q n T k e:=
 KW.cndB h hlr (fun _=>hk) (fun h=>by rw[ht] at h;cases h)
theorem KW.cF {t:Bool} {a b:Code} (h:Go1 P k e T n (.cond t a b) k1 e1 T1 n1 l1 r1) (hlr:l1=r1) (ht:t=false) (hk:KW P S H0 Q n1 T1 (.code b :: k1) e1):KW P S H0 Q n T k e:=
 KW.cndB h hlr (fun h=>by rw[ht] at h;cases h) (fun _=>hk)
theorem KW.yes {p:Prop} [Decidable p] {a b:Code} (h:Go1 P k e T n (.cond (decide p) a b) k1 e1 T1 n1 l1 r1) (hlr:l1=r1) (ht:p) (hk:KW P S H0 Q n1 T1 (.code a :: k1) e1):KW P S H0 Q n T k e:=
 KW.cnd h hlr (fun _=>hk) (fun h=>(h ht).elim)
theorem KW.no {p:Prop} [Decidable p] {a b:Code} (h:Go1 P k e T n (.cond (decide p) a b) k1 e1 T1 n1 l1 r1) (hlr:l1=r1) (ht:¬p) (hk:KW P S H0 Q n1 T1 (.code b :: k1) e1):KW P S H0 Q n T k e:=
 KW.cnd h hlr (fun h=>(ht h).elim) (fun _=>hk)
end
theorem bload_at {P:Program} {b:Blk} {t:TypeId} {k:Nat} {v:Value} {td:TypeDesc} (hc:b.cells[k]?=some v) (hu:P.underlying t=some td) (hnot:(match td with | .struct _=>false | .array _ _=>false | _=>true)=true):bload P b t k=some v:=by
 unfold bload
 simp only[hu]
 cases td<;>first | exact hc | (simp at hnot)
theorem KW.thaw {P:Program} {S:Ids} {H0:AH} {Q:PostC} {k:List It} {e:Env} {T:List Var} {n:Nat} (o:Nat) (b:Blk) (hS:S o) (hm:H0.m o=some b) (hk:KW P (fun id=>S id∧id≠o) H0 Q n (T++[(o,b)]) k e):KW P S H0 Q n T k e:=fun H g=>by
 have get:∀{i:Nat} {u:Var},(T++[(o,b)])[i]?=some u→(i=T.length∧u=(o,b))∨(T[i]?=some u):=fun {i u} hi=>by
  rw[List.getElem?_append] at hi
  split at hi
  ·exact .inr hi
  ·obtain⟨h1,h2⟩:=List.getElem?_eq_some_iff.1 hi
   simp at h1 h2
   exact .inl ⟨by omega,h2.symm⟩
 refine hk H ⟨g.n_,g.fin,fun id hid=>g.froz id hid.1,fun i u hi=>?_,fun i j u w hi hj he=>?_⟩
 ·rcases get hi with⟨_,rfl⟩ | h
  ·obtain⟨h1,h2⟩:=g.froz o hS
   exact⟨h2.trans hm,h1,fun h=>h.2 rfl⟩
  ·exact⟨(g.vars i u h).1,(g.vars i u h).2.1,fun hh=>(g.vars i u h).2.2 hh.1⟩
 ·rcases get hi with⟨e1,rfl⟩ | h1<;>rcases get hj with⟨e2,rfl⟩ | h2
  ·omega
  ·exact absurd (by rw[← he];exact hS) (g.vars j w h2).2.2
  ·exact absurd (by rw[he];exact hS) (g.vars i u h1).2.2
  ·exact g.dist i j u w h1 h2 he
theorem On.thaw {X S:Ids} {H H0:AH} {o:Nat} [t:On X H S H0] (h:∀id,X id→id≠o):On X H (fun id=>S id∧id≠o) H0:=⟨fun id hid=>⟨⟨(t.st id hid).1,h id hid⟩,(t.st id hid).2⟩⟩
theorem Kn.Ml.ints {ik:IntKind} {X:Ids} {H:AH} {v:Value} {xs:List Int} (h:(Kn.int ik).Ml X H v xs) (hx:xs≠[]):∃(o c:Nat) (b:Blk),v=.slice (some ⟨o,0,some 1⟩) xs.length c∧xs.length≤c∧X o∧H.m o=some b∧b.rw=true∧xs.length≤b.cells.length∧∀(i:Nat) x,xs[i]?=some x→b.cells[i]?=some (.int ik x):=by
 rcases h with⟨h,_⟩ | ⟨o,c,b,W,h1,h2,h3,h4,h5,h6,h7,h8,h9⟩
 ·exact absurd h hx
 ·refine⟨o,c,b,h1,h2,h3,h4,h5,by have:xs.length*1≤b.cells.length:=h6;omega,fun i x hi=>?_⟩
  have:((b.cells.drop (0+i*1)).take 1)=[.int ik x]:=h9 i x hi
  have:=cell_of this
  simpa using this
theorem mlI_of {ik:IntKind} {X:Ids} {H:AH} {o c:Nat} {b:Blk} {ys:List Int} (hX:X o) (hm:H.m o=some b) (hrw:b.rw=true) (hc:ys.length≤c) (hl:ys.length≤b.cells.length) (h:∀(i:Nat) x,ys[i]?=some x→b.cells[i]?=some (.int ik x)):(Kn.int ik).Ml X H (.slice (some ⟨o,0,some 1⟩) ys.length c) ys:=
 .inr ⟨o,c,b,fun _ _=>False,rfl,hc,hX,hm,hrw,by show ys.length*1≤_;omega,fun _ _ h=>h.elim,fun _ _ _ h=>h.elim,fun i x hi=>by
  show(b.cells.drop (0+i*1)).take 1=[_]
  rw[List.take_one,Nat.zero_add,Nat.mul_one,List.head?_drop,h i x hi];rfl⟩
theorem Good.ints {S0:Ids} {H0 H1:AH} {T:List Var} {n j id c:Nat} {b:Blk} {ik:IntKind} {xs:List Int} (g:Good S0 H0 T n H1) (hj:T[j]?=some (id,b)) (hb:b.cells=xs.map (Value.int ik)) (hl:xs.length≤c):(Kn.int ik).Sl (Low H1.n) H1 (.slice (some ⟨id,0,some 1⟩) xs.length c) xs:=
 int_sl (g.blk hj).2 (g.blk hj).1 hb hl
theorem Good.ge {S0:Ids} {H0 H1 H2:AH} {T:List Var} {n j id:Nat} {b:Blk} [o:On (Low H1.n) H1 S0 H0] (g:Good S0 H0 T n H2) (hj:T[j]?=some (id,b)):H1.n≤id:=by
 rcases Nat.lt_or_ge id H1.n with h | h
 ·exact absurd (o.st id h).1 (g.vars j _ hj).2.2
 ·exact h
def RiseAt (lo hi:Int) (g:List Int) (i:Nat):Prop:=(lo≤g.getD i 0∧g.getD i 0≤hi)∧(0<i→g.getD (i-1) 0<g.getD i 0)
def Rises (lo hi:Int) (g:List Int):Prop:=∀i,i<g.length→RiseAt lo hi g i
noncomputable def tv (p:Prop):Bool:=@decide p (Classical.propDecidable _)
theorem tv_iff {p:Prop}:tv p=true↔p:=by unfold tv;exact @decide_eq_true_iff _ (Classical.propDecidable _)
theorem tv_true {p:Prop} (h:p):tv p=true:=tv_iff.2 h
theorem tv_false {p:Prop} (h:¬p):tv p=false:=by cases e:tv p with | false=>rfl | true=>exact absurd (tv_iff.1 e) h
theorem tv_congr {p q:Prop} (h:p↔q):tv p=tv q:=by
 by_cases hp:p
 ·rw[tv_true hp,tv_true (h.1 hp)]
 ·rw[tv_false hp,tv_false (fun hq=>hp (h.2 hq))]
theorem tv_dec {p:Prop} [Decidable p]:decide p=tv p:=by
 by_cases h:p
 ·rw[tv_true h];simp[h]
 ·rw[tv_false h];simp[h]
theorem getD_of {g:List Int} {i:Nat} {y:Int} (h:g[i]?=some y):g.getD i 0=y:=by rw[List.getD_eq_getElem?_getD,h];rfl
theorem pow_small {h:Nat} (hh:h≤40):∃m:Nat,2 ^ h=m∧m≤1099511627776∧(2:Int) ^ h=(m:Int):=
 ⟨2 ^ h,rfl,by
  have h1:(2:Nat) ^ h≤2 ^ 40:=Nat.pow_le_pow_right (by decide) hh
  have h2:(2:Nat) ^ 40=1099511627776:=by decide
  omega,(Int.natCast_pow 2 h).symm⟩
theorem bv_nat {a:Nat} (ha:a<4611686018427387904):BitVec.ofInt 64 (a:Int)=BitVec.ofNat 64 a:=by
 apply BitVec.eq_of_toNat_eq
 simp only[BitVec.toNat_ofInt,BitVec.toNat_ofNat]
 omega
theorem bv_toNat {a:Nat} (ha:a<4611686018427387904):(BitVec.ofInt 64 (a:Int)).toNat=a:=by
 rw[bv_nat ha,BitVec.toNat_ofNat]
 exact Nat.mod_eq_of_lt (by omega)
theorem or_lt {a b:Nat} (ha:a<4611686018427387904) (hb:b<4611686018427387904):a ||| b<4611686018427387904:=
 Nat.or_lt_two_pow (n:=62) ha hb
theorem or_i64 {a b:Nat} (ha:a<4611686018427387904) (hb:b<4611686018427387904):IntKind.i64.wrap ((BitVec.ofInt IntKind.i64.bits (a:Int) ||| BitVec.ofInt IntKind.i64.bits (b:Int)).toNat:Int)=((a ||| b:Nat):Int):=by
 show IntKind.i64.wrap ((BitVec.ofInt 64 (a:Int) ||| BitVec.ofInt 64 (b:Int)).toNat:Int)=_
 rw[BitVec.toNat_or,bv_toNat ha,bv_toNat hb]
 have:=or_lt ha hb
 exact wr (by omega) (by omega)
theorem or_u64 {a b:Nat} (ha:a<4611686018427387904) (hb:b<4611686018427387904):IntKind.u64.wrap ((BitVec.ofInt IntKind.u64.bits (a:Int) ||| BitVec.ofInt IntKind.u64.bits (b:Int)).toNat:Int)=((a ||| b:Nat):Int):=by
 show IntKind.u64.wrap ((BitVec.ofInt 64 (a:Int) ||| BitVec.ofInt 64 (b:Int)).toNat:Int)=_
 rw[BitVec.toNat_or,bv_toNat ha,bv_toNat hb]
 have:=or_lt ha hb
 exact wru (by omega) (by omega)
theorem and_i64 {a b:Nat} (ha:a<4611686018427387904) (hb:b<4611686018427387904):IntKind.i64.wrap ((BitVec.ofInt IntKind.i64.bits (a:Int) &&& BitVec.ofInt IntKind.i64.bits (b:Int)).toNat:Int)=((a &&& b:Nat):Int):=by
 show IntKind.i64.wrap ((BitVec.ofInt 64 (a:Int) &&& BitVec.ofInt 64 (b:Int)).toNat:Int)=_
 rw[BitVec.toNat_and,bv_toNat ha,bv_toNat hb]
 have:a &&& b≤a:=Nat.and_le_left
 exact wr (by omega) (by omega)
theorem and_u64 {a b:Nat} (ha:a<4611686018427387904) (hb:b<4611686018427387904):IntKind.u64.wrap ((BitVec.ofInt IntKind.u64.bits (a:Int) &&& BitVec.ofInt IntKind.u64.bits (b:Int)).toNat:Int)=((a &&& b:Nat):Int):=by
 show IntKind.u64.wrap ((BitVec.ofInt 64 (a:Int) &&& BitVec.ofInt 64 (b:Int)).toNat:Int)=_
 rw[BitVec.toNat_and,bv_toNat ha,bv_toNat hb]
 have:a &&& b≤a:=Nat.and_le_left
 exact wru (by omega) (by omega)
theorem shl_i64 {P:Program} {t:TypeId} {k:IntKind} {h:Nat} (hh:h≤40):abin P .shl t (.int .i64 1) (.int k (h:Int))=some (.int .i64 ((2 ^ h:Nat):Int)):=by
 obtain⟨m,h1,h2,h3⟩:=pow_small hh
 have e:min (h:Int).toNat IntKind.i64.bits=h:=by
  show min (h:Int).toNat 64=h
  omega
 simp only[abin,ashift]
 rw[if_neg (by omega),e,Int.one_mul,h3,h1,wr (by omega) (by omega)]
theorem shl_u64 {P:Program} {t:TypeId} {k:IntKind} {h:Nat} (hh:h≤40):abin P .shl t (.int .u64 1) (.int k (h:Int))=some (.int .u64 ((2 ^ h:Nat):Int)):=by
 obtain⟨m,h1,h2,h3⟩:=pow_small hh
 have e:min (h:Int).toNat IntKind.u64.bits=h:=by
  show min (h:Int).toNat 64=h
  omega
 simp only[abin,ashift]
 rw[if_neg (by omega),e,Int.one_mul,h3,h1,wru (by omega) (by omega)]
section
variable {P:Program} {S:Ids} {H0:AH} {Q:PostC} {k k1:List It} {e e1:Env} {T T1:List Var} {n n1:Nat} {l1 r1:List Nat} {d1:Tmp}
theorem KW.shlU {o:Oper} {dr:Bool} {t u:TypeId} {x y:Operand} {kk:IntKind} {j:Int} (h:Go1 P k e T n (.op o dr) k1 e1 T1 n1 l1 r1) (hlr:l1=r1) (ho:o.op=.binOp .shl t x y u) (hd:o.dst=some d1) (hx:ev e1 x=.int .u64 1) (hy:ev e1 y=.int kk j) (m:Nat) (hj:j=m) (hm:m≤40)
  (hk:KW P S H0 Q n1 T1 k1 (put1 e1 d1 (.int .u64 ((2 ^ m:Nat):Int)))):KW P S H0 Q n T k e:=
 KW.pure h hlr ho hd rfl _ (by subst hj;simp only[pop,hx,hy];exact shl_u64 hm) hk
theorem KW.shlI {o:Oper} {dr:Bool} {t u:TypeId} {x y:Operand} {kk:IntKind} {j:Int} (h:Go1 P k e T n (.op o dr) k1 e1 T1 n1 l1 r1) (hlr:l1=r1) (ho:o.op=.binOp .shl t x y u) (hd:o.dst=some d1) (hx:ev e1 x=.int .i64 1) (hy:ev e1 y=.int kk j) (m:Nat) (hj:j=m) (hm:m≤40)
  (hk:KW P S H0 Q n1 T1 k1 (put1 e1 d1 (.int .i64 ((2 ^ m:Nat):Int)))):KW P S H0 Q n T k e:=
 KW.pure h hlr ho hd rfl _ (by subst hj;simp only[pop,hx,hy];exact shl_i64 hm) hk
end
def bitsOf (g:List Int):Nat:=g.foldl (fun a x=>a ||| 2 ^ x.toNat) 0
theorem bits_lt {m:Nat}:∀(g:List Int) (a:Nat),a<2 ^ m→(∀x∈g,x.toNat<m)→g.foldl (fun a x=>a ||| 2 ^ x.toNat) a<2 ^ m
 | [],a,ha,_=>ha
 | x :: g,a,ha,hg=>by
  refine bits_lt g _ (Nat.or_lt_two_pow ha ?_) (fun y hy=>hg y (List.mem_cons_of_mem _ hy))
  exact Nat.pow_lt_pow_right (by decide) (hg x List.mem_cons_self)
theorem bitsOf_lt {m:Nat} {g:List Int} (hg:∀x∈g,x.toNat<m):bitsOf g<2 ^ m:=bits_lt g 0 (Nat.two_pow_pos m) hg
theorem rises_mem {lo hi:Int} {g:List Int} (h:Rises lo hi g):∀x∈g,lo≤x∧x≤hi:=fun x hx=>by
 obtain⟨i,hi',rfl⟩:=List.getElem_of_mem hx
 have:=(h i hi').1
 simpa [List.getD_eq_getElem?_getD,List.getElem?_eq_getElem hi'] using this
theorem bits_take (g:List Int) (i:Nat) (h:i<g.length):bitsOf (g.take (i+1))=bitsOf (g.take i) ||| 2 ^ (g.getD i 0).toNat:=by
 unfold bitsOf
 rw[List.take_succ_eq_append_getElem h,List.foldl_append]
 simp[List.getD_eq_getElem?_getD,List.getElem?_eq_getElem h]
theorem small_pow {m:Nat} (hm:m≤8):2 ^ m≤256:=by
 have h1:(2:Nat) ^ m≤2 ^ 8:=Nat.pow_le_pow_right (by decide) hm
 have h2:(2:Nat) ^ 8=256:=by decide
 omega
theorem step_small {g:List Int} {m:Nat} (hm:m≤8) (hg:∀x∈g,0≤x∧x<m) (i:Nat) (hi:i<g.length):∃n:Nat,g.getD i 0=(n:Int)∧n<m∧bitsOf (g.take i)<256∧2 ^ n<256:=by
 have h1:g.getD i 0∈g:=by
  rw[List.getD_eq_getElem?_getD,List.getElem?_eq_getElem hi]
  exact List.getElem_mem hi
 obtain⟨h2,h3⟩:=hg _ h1
 refine⟨(g.getD i 0).toNat,by omega,by omega,?_,?_⟩
 ·have:bitsOf (g.take i)<2 ^ m:=bitsOf_lt (fun x hx=>by have:=hg x (List.mem_of_mem_take hx);omega)
  have:=small_pow hm
  omega
 ·have:2 ^ (g.getD i 0).toNat<2 ^ m:=Nat.pow_lt_pow_right (by decide) (by omega)
  have:=small_pow hm
  omega
end Go.Proofs.Ytlapbbffoapleaa.Am
namespace Go.Proofs.Ytlapbbffoapleaa.Am
open Go Go.RowKit Go.Proofs
section
variable {S:Ids} {H0:AH}
theorem within (n lo hi:Int):Spec Try.prog S H0 132 [.int .i64 n,.int .i64 lo,.int .i64 hi] (fun v=>v=.bool (decide (lo≤n∧n≤hi))):=by
 refine Spec.of Try.func132 rfl (by kernel_rfl) rfl (fun H hfin hfz=>?_)
 refine KW.tst U U (fun h=>KW.ret U U U U ?_) (fun h=>KW.ret U U U U ?_)
 ·show Value.bool (decide (n≤hi))=_
  have h:lo≤n:=h
  simp[h]
 ·show Value.bool false=_
  have h:¬lo≤n:=h
  simp[h]
theorem l00In (n lo hi:Int):Spec Try.prog S H0 135 [.int .i64 n,.int .i64 lo,.int .i64 hi] (fun v=>v=.bool (decide (lo≤n∧n≤hi))):=by
 refine Spec.of Try.func135 rfl (by kernel_rfl) rfl (fun H hfin hfz=>?_)
 refine KW.tst U U (fun h=>KW.ret U U U U ?_) (fun h=>KW.ret U U U U ?_)
 ·show Value.bool (decide (n≤hi))=_
  have h:lo≤n:=h
  simp[h]
 ·show Value.bool false=_
  have h:¬lo≤n:=h
  simp[h]
theorem isGroup (m:Int) {a c} {xs:List Int} (hl:xs.length≤4611686018427387904) (hm:-9223372036854775807≤m∧m≤9223372036854775807) (hs:(Kn.int .i64).Sl S H0 (.slice a xs.length c) xs):Spec Try.prog S H0 130 [.int .i64 m,.slice a xs.length c] (fun v=>v=.bool (tv (Rises 0 (m-1) xs))):=by
 refine Spec.of Try.func130 rfl (by kernel_rfl) rfl (fun H hfin hfz=>?_)
 have hs:=hs.to hfz
 refine KW.lp U U (fun i:Nat=>[(0,.int .i64 m),(1,.slice a xs.length c),(7,.slice a xs.length c),(8,.int .i64 xs.length),(9,.int .i64 i)]) (fun i=>i≤xs.length∧∀j,j<i→RiseAt 0 (m-1) xs j) (fun i=>xs.length-i) 0 ⟨by omega,fun j h=>absurd h (by omega)⟩ ⟨rfl,rfl,rfl,rfl,rfl,trivial⟩ (fun i hi b n=>?_)
 obtain⟨hi,hr⟩:=hi
 refine KW.cnd U U (fun h=>?_) (fun h=>KW.ret U U U U ?_)
 ·refine KW.getI hs U U U U U U U U U U U U U U U U (by omega) h (fun y hy=>?_)
  have hy:xs.getD i 0=y:=getD_of hy
  refine KW.callE U U U U U (within _ _ _) (fun n' _=>?_)
  rw[wr (by omega) (by omega)]
  have e1:IntKind.i64.wrap ((i:Int)+1)=((i+1:Nat):Int):=by rw[wr (by omega) (by omega)];rfl
  have next:RiseAt 0 (m-1) xs i→(i+1≤xs.length∧∀j,j<i+1→RiseAt 0 (m-1) xs j):=fun hx=>⟨by omega,fun j hj=>by
   rcases Nat.lt_or_ge j i with h | h
   ·exact hr j h
   ·obtain rfl:j=i:=by omega
    exact hx⟩
  have bad:¬RiseAt 0 (m-1) xs i→aout [Value.bool false]=.bool (tv (Rises 0 (m-1) xs)):=fun hx=>by
   rw[tv_false (fun hc=>hx (hc i (by omega)))];rfl
  refine KW.tstB U U (fun h1=>?_) (fun h1=>?_)
  ·simp at h1
   refine KW.cndB U U (fun h=>?_) (fun h=>absurd h (by decide))
   refine KW.ret U U U U (bad (fun hx=>?_))
   have:=hx.1;omega
  ·have h1:0≤y∧y≤m-1:=by simpa using h1
   refine KW.tst U U (fun h2=>?_) (fun h2=>?_)
   ·have e2:IntKind.i64.wrap ((i:Int)-1)=((i-1:Nat):Int):=by rw[wr (by omega) (by omega)];omega
    refine KW.getI hs U U U U U U U U U U U U U U U U (by rw[e2];omega) (by rw[e2];omega) (fun z hz=>?_)
    rw[e2] at hz
    have hz:xs.getD (i-1) 0=z:=getD_of hz
    refine KW.cnd U U (fun h3=>?_) (fun h3=>?_)
    ·refine KW.ret U U U U (bad (fun hx=>?_))
     have:=hx.2 (by omega);omega
    ·refine KW.nxt U U (fun H g=>⟨i+1,next ⟨by omega,fun _=>by omega⟩,by omega,⟨rfl,rfl,rfl,rfl,congrArg (Value.int .i64) e1,trivial⟩,g⟩)
   ·refine KW.cndB U U (fun h=>absurd h (by decide)) (fun _=>?_)
    refine KW.nxt U U (fun H g=>⟨i+1,next ⟨by omega,fun _=>by omega⟩,by omega,⟨rfl,rfl,rfl,rfl,congrArg (Value.int .i64) e1,trivial⟩,g⟩)
 ·rw[tv_true (p:=Rises 0 (m-1) xs) (fun j hj=>hr j (by omega))];rfl
theorem crowdOf {m:Nat} (hm:m≤8) {a c} {xs:List Int} (hl:xs.length≤4611686018427387904) (hx:∀x∈xs,0≤x∧x<m) (hs:(Kn.int .i64).Sl S H0 (.slice a xs.length c) xs):Spec Try.prog S H0 78 [.slice a xs.length c] (fun v=>v=.int .u64 (bitsOf xs:Nat)):=by
 refine Spec.of Try.func78 rfl (by kernel_rfl) rfl (fun H hfin hfz=>?_)
 have hs:=hs.to hfz
 refine KW.lp U U (fun i:Nat=>[(3,.int .u64 (bitsOf (xs.take i):Nat)),(6,.slice a xs.length c),(7,.int .i64 xs.length),(8,.int .i64 i)]) (fun i=>i≤xs.length) (fun i=>xs.length-i) 0 (by omega) ⟨rfl,rfl,rfl,rfl,trivial⟩ (fun i hi b n=>?_)
 refine KW.cnd U U (fun h=>?_) (fun h=>KW.ret U U U U ?_)
 ·obtain⟨r,e,hr,hb,hp⟩:=step_small hm hx i (by omega)
  refine KW.getI hs U U U U U U U U U U U U U U U U (by omega) h (fun y hy=>?_)
  obtain rfl:y=(r:Int):=by rw[← e];exact(getD_of hy).symm
  refine KW.shlU U U U U U U r rfl (by omega) ?_
  have e1:IntKind.i64.wrap ((i:Int)+1)=((i+1:Nat):Int):=by rw[wr (by omega) (by omega)];rfl
  have e2:IntKind.u64.wrap ((BitVec.ofInt IntKind.u64.bits ((bitsOf (xs.take i):Nat):Int) ||| BitVec.ofInt IntKind.u64.bits ((2 ^ r:Nat):Int)).toNat:Int)=((bitsOf (xs.take (i+1)):Nat):Int):=by
   rw[or_u64 (by omega) (by omega),bits_take xs i (by omega),e];rfl
  exact KW.nxt U U (fun H g=>⟨i+1,by omega,by omega,⟨congrArg (Value.int .u64) e2,rfl,rfl,congrArg (Value.int .i64) e1,trivial⟩,g⟩)
 ·show Value.int .u64 (bitsOf (xs.take i):Nat)=_
  rw[List.take_of_length_le (by omega)]
theorem l07Bits {m:Nat} (hm:m≤8) {a c} {xs:List Int} (hl:xs.length≤4611686018427387904) (hx:∀x∈xs,0≤x∧x<m) (hs:(Kn.int .i64).Sl S H0 (.slice a xs.length c) xs):Spec Try.prog S H0 117 [.slice a xs.length c] (fun v=>v=.int .i64 (bitsOf xs:Nat)):=by
 refine Spec.of Try.func117 rfl (by kernel_rfl) rfl (fun H hfin hfz=>?_)
 have hs:=hs.to hfz
 refine KW.lp U U (fun i:Nat=>[(0,.slice a xs.length c),(3,.int .i64 (bitsOf (xs.take i):Nat)),(4,.int .i64 i)]) (fun i=>i≤xs.length) (fun i=>xs.length-i) 0 (by omega) ⟨rfl,rfl,rfl,trivial⟩ (fun i hi b n=>?_)
 refine KW.cnd U U (fun h=>?_) (fun h=>KW.ret U U U U ?_)
 ·obtain⟨r,e,hr,hb,hp⟩:=step_small hm hx i (by omega)
  refine KW.getI hs U U U U U U U U U U U U U U U U (by omega) h (fun y hy=>?_)
  obtain rfl:y=(r:Int):=by rw[← e];exact(getD_of hy).symm
  have e3:IntKind.u64.wrap (r:Int)=r:=wru (by omega) (by omega)
  refine KW.shlI U U U U U U r e3 (by omega) ?_
  have e1:IntKind.i64.wrap ((i:Int)+1)=((i+1:Nat):Int):=by rw[wr (by omega) (by omega)];rfl
  have e2:IntKind.i64.wrap ((BitVec.ofInt IntKind.i64.bits ((bitsOf (xs.take i):Nat):Int) ||| BitVec.ofInt IntKind.i64.bits ((2 ^ r:Nat):Int)).toNat:Int)=((bitsOf (xs.take (i+1)):Nat):Int):=by
   rw[or_i64 (by omega) (by omega),bits_take xs i (by omega),e];rfl
  exact KW.nxt U U (fun H g=>⟨i+1,by omega,by omega,⟨rfl,congrArg (Value.int .i64) e2,congrArg (Value.int .i64) e1,trivial⟩,g⟩)
 ·show Value.int .i64 (bitsOf (xs.take i):Nat)=_
  rw[List.take_of_length_le (by omega)]
theorem contains {x y:Nat} (hx:x<4611686018427387904) (hy:y<4611686018427387904):Spec Try.prog S H0 114 [.int .u64 x,.int .u64 y] (fun v=>v=.bool (tv (x &&& y=y))):=by
 refine Spec.of Try.func114 rfl (by kernel_rfl) rfl (fun H hfin hfz=>?_)
 refine KW.ret U U U U ?_
 show Value.bool (IntKind.u64.wrap ((BitVec.ofInt IntKind.u64.bits (x:Int) &&& BitVec.ofInt IntKind.u64.bits (y:Int)).toNat:Int)==(y:Int))=_
 rw[and_u64 hx hy]
 congr 1
 by_cases h:x &&& y=y
 ·rw[tv_true h,h];simp
 ·rw[tv_false h];simp;omega
theorem everybody {m:Nat} (hm:m≤40):Spec Try.prog S H0 100 [.int .i64 m] (fun v=>v=.int .u64 ((2 ^ m-1:Nat):Int)):=by
 refine Spec.of Try.func100 rfl (by kernel_rfl) rfl (fun H hfin hfz=>?_)
 refine KW.shlU U U U U U U m rfl hm ?_
 refine KW.ret U U U U ?_
 show Value.int .u64 (IntKind.u64.wrap (((2 ^ m:Nat):Int)-1))=_
 obtain⟨q,h1,h2,h3⟩:=pow_small hm
 have:=Nat.two_pow_pos m
 rw[h1] at this ⊢
 rw[wru (by omega) (by omega)]
 congr 1
 omega
end
section
variable {S:Ids} {H0:AH}
abbrev ranksV (m u:Int) (s:Value):Value:=.agg #[.int .i64 m,.int .i64 u,s]
theorem rank (m u:Int) {a c} {xs:List Int} (j:Nat) (hj:j<xs.length) (hs:(Kn.int .i64).Sl S H0 (.slice a xs.length c) xs):Spec Try.prog S H0 131 [ranksV m u (.slice a xs.length c),.int .u64 j] (fun v=>v=.int .i64 (xs.getD j 0)):=by
 refine Spec.of Try.func131 rfl (by kernel_rfl) rfl (fun H hfin hfz=>?_)
 have hs:=hs.to hfz
 refine KW.getI hs U U U U U U U U U U U U U U U U (by omega) (by omega) (fun y hy=>?_)
 refine KW.ret U U U U ?_
 have hy:xs.getD j 0=y:=getD_of hy
 show Value.int .i64 y=_
 rw[hy]
def Bad (l:List Int) (a b:Nat):Prop:=(a &&& b=a∧l.getD a 0>l.getD b 0)∨l.getD a 0+l.getD b 0<l.getD (a ||| b) 0+l.getD (a &&& b) 0
def Within (l:List Int):Prop:=∀i,i<l.length→0≤l.getD i 0∧l.getD i 0≤100000
def Meets (l:List Int):Prop:=∀a,a<l.length→∀b,b<l.length→¬Bad l a b
theorem inc64 {i:Nat} (h:i<4611686018427387904):IntKind.i64.wrap ((i:Int)+1)=((i+1:Nat):Int):=by rw[wr (by omega) (by omega)];rfl
theorem incu64 {i:Nat} (h:i<4611686018427387904):IntKind.u64.wrap ((i:Int)+1)=((i+1:Nat):Int):=by rw[wru (by omega) (by omega)];rfl
theorem upto {p:Nat→Prop} {i:Nat} (h:∀j,j<i→p j) (hi:p i):∀j,j<i+1→p j:=fun j hj=>by
 rcases Nat.lt_or_ge j i with h1 | h1
 ·exact h j h1
 ·obtain rfl:j=i:=by omega
  exact hi
section
variable {m:Nat} {l:List Int} (hm:m≤8) (hl:l.length=2 ^ m)
include hm hl
theorem len_le:l.length≤256:=by rw[hl];exact small_pow hm
omit hm in
theorem and_in {a b:Nat} (hb:b<l.length):a &&& b<l.length:=by rw[hl] at *;exact Nat.and_lt_two_pow _ hb
omit hm in
theorem or_in {a b:Nat} (ha:a<l.length) (hb:b<l.length):a ||| b<l.length:=by rw[hl] at *;exact Nat.or_lt_two_pow ha hb
end
theorem l07Meets {m:Nat} (hm:m≤8) {s c} {l:List Int} (hl:l.length=2 ^ m) (hw:Within l) (hs:(Kn.int .i64).Sl S H0 (.slice s l.length c) l):Spec Try.prog S H0 187 [.slice s l.length c] (fun v=>v=.bool (tv (Meets l))):=by
 refine Spec.of Try.func187 rfl (by kernel_rfl) rfl (fun H hfin hfz=>?_)
 have hs:=hs.to hfz
 have h256:=len_le hm hl
 refine KW.lp U U (fun a:Nat=>[(0,.slice s l.length c),(3,.int .i64 a)]) (fun a=>a≤l.length∧∀a',a'<a→∀b,b<l.length→¬Bad l a' b) (fun a=>l.length-a) 0 ⟨by omega,fun j h=>absurd h (by omega)⟩ ⟨rfl,rfl,trivial⟩ (fun a ha e n=>?_)
 obtain⟨ha0,ha⟩:=ha
 refine KW.cnd U U (fun h=>?_) (fun h=>KW.ret U U U U ?_)
 ·have hal:a<l.length:=by omega
  refine KW.lp U U (fun b:Nat=>[(0,.slice s l.length c),(3,.int .i64 a),(4,.int .i64 b)]) (fun b=>b≤l.length∧∀b',b'<b→¬Bad l a b') (fun b=>l.length-b) 0 ⟨by omega,fun j h=>absurd h (by omega)⟩ ⟨rfl,rfl,rfl,trivial⟩ (fun b hb e n=>?_)
  obtain⟨hb0,hb⟩:=hb
  refine KW.cnd U U (fun h=>?_) (fun h=>?_)
  ·have hbl:b<l.length:=by omega
   have eo:=or_i64 (a:=a) (b:=b) (by omega) (by omega)
   have ea:=and_i64 (a:=a) (b:=b) (by omega) (by omega)
   have ho:=or_in hl hal hbl
   have hn:=and_in (a:=a) hl hbl
   have w1:=hw a hal
   have w2:=hw b hbl
   have w3:=hw _ ho
   have w4:=hw _ hn
   have bad:Bad l a b→aout [Value.bool false]=.bool (tv (Meets l)):=fun hx=>by rw[tv_false (fun hc=>hc a hal b hbl hx)];rfl
   refine KW.tstB U U (fun h1=>?g1) (fun h1=>?g2)
   case' g1=>
    have h1:a &&& b=a:=by rw[ea] at h1;simp at h1;omega
    refine KW.getI hs U U U U U U U U U U U U U U U U (by omega) (by omega) (fun x hx=>?_)
    have hx:l.getD a 0=x:=getD_of hx
    refine KW.getI hs U U U U U U U U U U U U U U U U (by omega) (by omega) (fun y hy=>?_)
    have hy:l.getD b 0=y:=getD_of hy
    refine KW.tst U U (fun h2=>KW.cndB U U (fun _=>KW.ret U U U U (bad (.inl ⟨h1,by rw[hx,hy];exact h2⟩))) (fun h=>absurd h (by decide))) (fun h2=>?_)
    have h0:¬(a &&& b=a∧l.getD a 0>l.getD b 0):=fun hc=>h2 (by rw[hx,hy] at hc;exact hc.2)
    clear h1 h2 hx hy
   case' g2=>
    have h0:¬(a &&& b=a∧l.getD a 0>l.getD b 0):=fun hc=>by rw[ea,hc.1] at h1;simp at h1
    refine KW.tstB U U (fun h=>absurd h (by decide)) (fun _=>?_)
   all_goals
    refine KW.getI hs U U U U U U U U U U U U U U U U (by omega) (by omega) (fun x hx=>?_)
    have hx:l.getD a 0=x:=getD_of hx
    refine KW.getI hs U U U U U U U U U U U U U U U U (by omega) (by omega) (fun y hy=>?_)
    have hy:l.getD b 0=y:=getD_of hy
    refine KW.getI hs U U U U U U U U U U U U U U U U (by rw[eo];omega) (by rw[eo];omega) (fun z hz=>?_)
    rw[eo] at hz
    have hz:l.getD (a ||| b) 0=z:=getD_of hz
    refine KW.getI hs U U U U U U U U U U U U U U U U (by rw[ea];omega) (by rw[ea];omega) (fun w hw'=>?_)
    rw[ea] at hw'
    have hw':l.getD (a &&& b) 0=w:=getD_of hw'
    rw[hx] at w1;rw[hy] at w2;rw[hz] at w3;rw[hw'] at w4
    have e5:IntKind.i64.wrap (x+y)=x+y:=wr (by omega) (by omega)
    have e6:IntKind.i64.wrap (z+w)=z+w:=wr (by omega) (by omega)
    refine KW.cnd U U (fun h2=>KW.ret U U U U (bad (.inr ?_))) (fun h2=>?_)
    ·rw[hx,hy,hz,hw',← e5,← e6];exact h2
    ·rw[e5,e6] at h2
     refine KW.nxt U U (fun H g=>⟨b+1,⟨by omega,upto hb (fun hc=>?_)⟩,by omega,⟨rfl,rfl,congrArg (Value.int .i64) (inc64 (by omega)),trivial⟩,g⟩)
     rcases hc with hc | hc
     ·exact h0 hc
     ·rw[hx,hy,hz,hw'] at hc;exact h2 hc
  ·refine KW.nxt U U (fun H g=>⟨a+1,⟨by omega,upto ha (fun b' hb'=>hb b' (by omega))⟩,by omega,⟨rfl,congrArg (Value.int .i64) (inc64 (by omega)),trivial⟩,g⟩)
 ·rw[tv_true (p:=Meets l) (fun a' ha'=>ha a' (by omega))];rfl
def OkR (h u:Int) (l:List Int):Prop:=(1≤h∧h≤5)∧(1≤u∧u≤100000)∧l.length=2 ^ h.toNat∧l.getD 0 0=0∧Within l∧Meets l
theorem l07Ok (h u:Int) {id:Nat} {ty:TypeId} {rw:Bool} {s c} {l:List Int} (hlen:l.length≤1048576) (hS:S id) (hm:H0.m id=some ⟨ty,rw,[.int .i64 h,.int .i64 u,.slice s l.length c]⟩) (hs:(Kn.int .i64).Sl S H0 (.slice s l.length c) l):
  Spec Try.prog S H0 134 [.pointer (some ⟨id,0,none⟩)] (fun v=>v=.bool (tv (OkR h u l))):=by
 refine Spec.of Try.func134 rfl (by kernel_rfl) rfl (fun H hfin hfz=>?_)
 have hs:=hs.to hfz
 have hm:=((hfz id hS).2).trans hm
 have hS:Low H.n id:=(hfz id hS).1
 have bad:¬OkR h u l→aout [Value.bool false]=.bool (tv (OkR h u l)):=fun hx=>by rw[tv_false hx];rfl
 refine KW.ldP hS hm U U U U U U ?_
 refine KW.callE U U U U U (l00In _ _ _) (fun _ _=>?_)
 refine KW.tstB U U (fun h1=>?_) (fun h1=>?_)
 ·refine KW.tstB U U (fun _=>?_) (fun h=>absurd h (by decide))
  refine KW.tstB U U (fun _=>?_) (fun h=>absurd h (by decide))
  refine KW.cndB U U (fun _=>KW.ret U U U U (bad (fun hc=>?_))) (fun h=>absurd h (by decide))
  have:=hc.1;simp at h1;omega
 have h1:1≤h∧h≤5:=by simpa using h1
 refine KW.ldP hS hm U U U U U U ?_
 refine KW.callE U U U U U (l00In _ _ _) (fun _ _=>?_)
 refine KW.tstB U U (fun h2=>?_) (fun h2=>?_)
 ·refine KW.tstB U U (fun _=>?_) (fun h=>absurd h (by decide))
  refine KW.cndB U U (fun _=>KW.ret U U U U (bad (fun hc=>?_))) (fun h=>absurd h (by decide))
  have:=hc.2.1;simp at h2;omega
 have h2:1≤u∧u≤100000:=by simpa using h2
 obtain⟨m,rfl⟩:∃m:Nat,h=m:=⟨h.toNat,by omega⟩
 refine KW.ldP hS hm U U U U U U ?_
 refine KW.ldP hS hm U U U U U U ?_
 refine KW.shlI U U U U U U m (wru (by omega) (by omega)) (by omega) ?_
 obtain⟨q,hq,hq1,hq2⟩:=pow_small (h:=m) (by omega)
 refine KW.tstB U U (fun h3=>?_) (fun h3=>?_)
 ·refine KW.cndB U U (fun _=>KW.ret U U U U (bad (fun hc=>?_))) (fun h=>absurd h (by decide))
  have:=hc.2.2.1
  simp at this
  rw[this] at h3
  simp at h3
 have h3:l.length=2 ^ m:=by rw[hq] at h3 ⊢;simp at h3;omega
 have h256:=len_le (m:=m) (by omega) h3
 have hpos:=Nat.two_pow_pos m
 refine KW.ldP hS hm U U U U U U ?_
 refine KW.getI hs U U U U U U U U U U U U U U U U (by omega) (by omega) (fun z hz=>?_)
 have hz:l.getD 0 0=z:=getD_of hz
 refine KW.cndB U U (fun h4=>KW.ret U U U U (bad (fun hc=>?_))) (fun h4=>?_)
 ·have:=hc.2.2.2.1
  rw[hz] at this;subst this;simp at h4
 have h4:z=0:=by simpa using h4
 refine KW.lp U U (fun i:Nat=>[(0,.pointer (some ⟨id,0,none⟩)),(3,.int .i64 i)]) (fun i=>i≤l.length∧∀j,j<i→0≤l.getD j 0∧l.getD j 0≤100000) (fun i=>l.length-i) 0 ⟨by omega,fun j h=>absurd h (by omega)⟩ ⟨rfl,rfl,trivial⟩ (fun i hi b n=>?_)
 obtain⟨hi0,hi⟩:=hi
 refine KW.ldP hS hm U U U U U U ?_
 refine KW.cnd U U (fun h5=>?_) (fun h5=>?_)
 ·refine KW.ldP hS hm U U U U U U ?_
  refine KW.getI hs U U U U U U U U U U U U U U U U (by omega) h5 (fun y hy=>?_)
  have hy:l.getD i 0=y:=getD_of hy
  refine KW.callE U U U U U (l00In _ _ _) (fun _ _=>?_)
  refine KW.cndB U U (fun h6=>KW.ret U U U U (bad (fun hc=>?_))) (fun h6=>?_)
  ·have:=hc.2.2.2.2.1 i (by omega)
   rw[hy] at this;simp at h6;omega
  ·have h6:0≤y∧y≤100000:=by simpa using h6
   exact KW.nxt U U (fun H g=>⟨i+1,⟨by omega,upto hi (by rw[hy];exact h6)⟩,by omega,⟨rfl,congrArg (Value.int .i64) (inc64 (by omega)),trivial⟩,g⟩)
 ·have hw:Within l:=fun j hj=>hi j (by omega)
  refine KW.ldP hS hm U U U U U U ?_
  refine KW.callE U U U U U (l07Meets (m:=m) (by omega) h3 hw hs) (fun _ _=>?_)
  refine KW.ret U U U U ?_
  show Value.bool (tv (Meets l))=_
  congr 1
  refine tv_congr ⟨fun hM=>⟨h1,h2,by simpa using h3,by rw[hz];exact h4,hw,hM⟩,fun hO=>hO.2.2.2.2.2⟩
theorem validRanks (h u:Int) {s c} {l:List Int} (hlen:l.length≤1048576) (hs:(Kn.int .i64).Sl S H0 (.slice s l.length c) l):
  Spec Try.prog S H0 56 [ranksV h u (.slice s l.length c)] (fun v=>v=.bool (tv (OkR h u l))):=by
 refine Spec.of Try.func56 rfl (by kernel_rfl) rfl (fun H hfin hfz=>?_)
 have hs:=hs.to hfz
 have bad:¬OkR h u l→aout [Value.bool false]=.bool (tv (OkR h u l)):=fun hx=>by rw[tv_false hx];rfl
 refine KW.callE U U U U U (within _ _ _) (fun _ _=>?_)
 refine KW.tstB U U (fun h1=>?_) (fun h1=>?_)
 ·refine KW.tstB U U (fun _=>?_) (fun h=>absurd h (by decide))
  refine KW.tstB U U (fun _=>?_) (fun h=>absurd h (by decide))
  refine KW.cndB U U (fun _=>KW.ret U U U U (bad (fun hc=>?_))) (fun h=>absurd h (by decide))
  have:=hc.1;simp at h1;omega
 have h1:1≤h∧h≤5:=by simpa using h1
 refine KW.callE U U U U U (within _ _ _) (fun _ _=>?_)
 refine KW.tstB U U (fun h2=>?_) (fun h2=>?_)
 ·refine KW.tstB U U (fun _=>?_) (fun h=>absurd h (by decide))
  refine KW.cndB U U (fun _=>KW.ret U U U U (bad (fun hc=>?_))) (fun h=>absurd h (by decide))
  have:=hc.2.1;simp at h2;omega
 have h2:1≤u∧u≤100000:=by simpa using h2
 obtain⟨m,rfl⟩:∃m:Nat,h=m:=⟨h.toNat,by omega⟩
 refine KW.shlI U U U U U U m rfl (by omega) ?_
 obtain⟨q,hq,hq1,hq2⟩:=pow_small (h:=m) (by omega)
 refine KW.tstB U U (fun h3=>?_) (fun h3=>?_)
 ·refine KW.cndB U U (fun _=>KW.ret U U U U (bad (fun hc=>?_))) (fun h=>absurd h (by decide))
  have:=hc.2.2.1
  simp at this
  rw[this] at h3
  simp at h3
 have h3:l.length=2 ^ m:=by rw[hq] at h3 ⊢;simp at h3;omega
 have hm8:m≤8:=by omega
 have h256:=len_le hm8 h3
 have hpos:=Nat.two_pow_pos m
 refine KW.getI hs U U U U U U U U U U U U U U U U (by omega) (by omega) (fun z hz=>?_)
 have hz:l.getD 0 0=z:=getD_of hz
 refine KW.cndB U U (fun h4=>KW.ret U U U U (bad (fun hc=>?_))) (fun h4=>?_)
 ·have:=hc.2.2.2.1
  rw[hz] at this;subst this;simp at h4
 have h4:z=0:=by simpa using h4
 refine KW.lp U U (fun i:Nat=>[(1,.pointer (some ⟨H.n,0,some 0⟩)),(34,.slice s l.length c),(35,.int .i64 l.length),(36,.int .i64 i)]) (fun i=>i≤l.length∧∀j,j<i→0≤l.getD j 0∧l.getD j 0≤100000) (fun i=>l.length-i) 0 ⟨by omega,fun j h=>absurd h (by omega)⟩ ⟨rfl,rfl,rfl,rfl,trivial⟩ (fun i hi b n=>?_)
 obtain⟨hi0,hi⟩:=hi
 refine KW.cnd U U (fun h5=>?_) (fun h5=>?_)
 ·refine KW.getI hs U U U U U U U U U U U U U U U U (by omega) h5 (fun y hy=>?_)
  have hy:l.getD i 0=y:=getD_of hy
  refine KW.callE U U U U U (within _ _ _) (fun _ _=>?_)
  refine KW.cndB U U (fun h6=>KW.ret U U U U (bad (fun hc=>?_))) (fun h6=>?_)
  ·have:=hc.2.2.2.2.1 i (by omega)
   rw[hy] at this;simp at h6;omega
  ·have h6:0≤y∧y≤100000:=by simpa using h6
   exact KW.nxt U U (fun H g=>⟨i+1,⟨by omega,upto hi (by rw[hy];exact h6)⟩,by omega,⟨rfl,rfl,rfl,congrArg (Value.int .i64) (inc64 (by omega)),trivial⟩,g⟩)
 have hw:Within l:=fun j hj=>hi j (by omega)
 refine KW.lp U U (fun a:Nat=>[(1,.pointer (some ⟨H.n,0,some 0⟩)),(5,.int .u64 a)]) (fun a=>a≤l.length∧∀a',a'<a→∀b,b<l.length→¬Bad l a' b) (fun a=>l.length-a) 0 ⟨by omega,fun j h=>absurd h (by omega)⟩ ⟨rfl,rfl,trivial⟩ (fun a ha e n=>?_)
 obtain⟨ha0,ha⟩:=ha
 refine KW.callE U U U U U (everybody (m:=m) (by omega)) (fun _ _=>?_)
 refine KW.cnd U U (fun h=>?_) (fun h=>KW.ret U U U U ?_)
 ·have hal:a<l.length:=by rw[h3];omega
  refine KW.lp U U (fun b:Nat=>[(1,.pointer (some ⟨H.n,0,some 0⟩)),(5,.int .u64 a),(6,.int .u64 b)]) (fun b=>b≤l.length∧∀b',b'<b→¬Bad l a b') (fun b=>l.length-b) 0 ⟨by omega,fun j h=>absurd h (by omega)⟩ ⟨rfl,rfl,rfl,trivial⟩ (fun b hb e n=>?_)
  obtain⟨hb0,hb⟩:=hb
  refine KW.callE U U U U U (everybody (m:=m) (by omega)) (fun _ _=>?_)
  refine KW.cnd U U (fun h=>?_) (fun h=>?_)
  ·have hbl:b<l.length:=by rw[h3];omega
   have eo:=or_u64 (a:=a) (b:=b) (by omega) (by omega)
   have ea:=and_u64 (a:=a) (b:=b) (by omega) (by omega)
   have ho:=or_in h3 hal hbl
   have hn:=and_in (a:=a) h3 hbl
   have w1:=hw a hal
   have w2:=hw b hbl
   have w3:=hw _ ho
   have w4:=hw _ hn
   have bad':Bad l a b→aout [Value.bool false]=.bool (tv (OkR m u l)):=fun hx=>bad (fun hc=>hc.2.2.2.2.2 a hal b hbl hx)
   refine KW.callE U U U U U (contains (x:=b) (y:=a) (by omega) (by omega)) (fun _ _=>?_)
   refine KW.tstB U U (fun h1=>?g1) (fun h1=>?g2)
   case' g1=>
    have h1:a &&& b=a:=by rw[Nat.and_comm];exact tv_iff.1 h1
    refine KW.callE U U U U U (rank _ _ b hbl hs) (fun _ _=>?_)
    refine KW.callE U U U U U (rank _ _ a hal hs) (fun _ _=>?_)
    refine KW.tst U U (fun h2=>KW.cndB U U (fun _=>KW.ret U U U U (bad' (.inl ⟨h1,h2⟩))) (fun h=>absurd h (by decide))) (fun h2=>?_)
    have h0:¬(a &&& b=a∧l.getD a 0>l.getD b 0):=fun hc=>h2 hc.2
    clear h1 h2
   case' g2=>
    have h0:¬(a &&& b=a∧l.getD a 0>l.getD b 0):=fun hc=>by rw[tv_true (show b &&& a=a by rw[Nat.and_comm];exact hc.1)] at h1;cases h1
    refine KW.tstB U U (fun h=>absurd h (by decide)) (fun _=>?_)
   all_goals
    refine KW.callE U U U U U (rank _ _ a hal hs) (fun _ _=>?_)
    refine KW.callE U U U U U (rank _ _ b hbl hs) (fun _ _=>?_)
    refine KW.callE U U U U U (by show Spec _ _ _ _ [ranksV m u (.slice s l.length c),.int .u64 (IntKind.u64.wrap _)] _;rw[eo];exact rank _ _ _ ho hs) (fun _ _=>?_)
    refine KW.callE U U U U U (by show Spec _ _ _ _ [ranksV m u (.slice s l.length c),.int .u64 (IntKind.u64.wrap _)] _;rw[ea];exact rank _ _ _ hn hs) (fun _ _=>?_)
    have e5:IntKind.i64.wrap (l.getD a 0+l.getD b 0)=l.getD a 0+l.getD b 0:=wr (by omega) (by omega)
    have e6:IntKind.i64.wrap (l.getD (a ||| b) 0+l.getD (a &&& b) 0)=l.getD (a ||| b) 0+l.getD (a &&& b) 0:=wr (by omega) (by omega)
    refine KW.cnd U U (fun h2=>KW.ret U U U U (bad' (.inr ?_))) (fun h2=>?_)
    ·rw[← e5,← e6];exact h2
    ·rw[e5,e6] at h2
     refine KW.nxt U U (fun H g=>⟨b+1,⟨by omega,upto hb (fun hc=>?_)⟩,by omega,⟨rfl,rfl,congrArg (Value.int .u64) (incu64 (by omega)),trivial⟩,g⟩)
     rcases hc with hc | hc
     ·exact h0 hc
     ·exact h2 hc
  ·refine KW.nxt U U (fun H g=>⟨a+1,⟨by omega,upto ha (fun b' hb'=>hb b' (by rw[h3] at hb';omega))⟩,by omega,⟨rfl,congrArg (Value.int .u64) (incu64 (by omega)),trivial⟩,g⟩)
 ·have hM:Meets l:=fun a' ha'=>ha a' (by rw[h3] at ha';omega)
  rw[tv_true (p:=OkR m u l) ⟨h1,h2,by simpa using h3,by rw[hz];exact h4,hw,hM⟩];rfl
end
def sum:List Nat→Nat
 | []=>0
 | n :: l=>n+sum l
abbrev lens (xs:List (List Int)):List Nat:=xs.map List.length
theorem sum_mem {l:List Nat} {n:Nat} (h:n∈l):n≤sum l:=by
 induction l with
 | nil=>simp at h
 | cons m l ih=>
  simp only[sum]
  rcases List.mem_cons.1 h with rfl | h
  ·omega
  ·have:=ih h;omega
section
variable {S:Ids} {H0:AH}
theorem Good.eqT {S:Ids} {H0 H:AH} {T T':List Var} {n:Nat} (g:Good S H0 T n H) (h:T=T'):Good S H0 T' n H:=h ▸ g
end
section
variable {S:Ids} {H0:AH}
abbrev familyV (m:Int) (s:Value):Value:=.agg #[.int .i64 m,s]
end
end Go.Proofs.Ytlapbbffoapleaa.Am
namespace Go.Proofs.Ytlapbbffoapleaa.Am
open Go Go.RowKit
def lexB:List Int→List Int→Bool
 | [],[]=>false
 | [],_ :: _=>true
 | _ :: _,[]=>false
 | a :: xs,b :: ys=>if a=b then lexB xs ys else decide (a<b)
theorem drop_at {α:Type} {l:List α} {i:Nat} {x:α} (h:l[i]?=some x):l.drop i=x :: l.drop (i+1):=by
 obtain⟨hi,rfl⟩:=List.getElem?_eq_some_iff.1 h
 exact List.drop_eq_getElem_cons hi
theorem lexB_self_step {a b:List Int} {i:Nat} {x y:Int} (hx:a[i]?=some x) (hy:b[i]?=some y):lexB (a.drop i) (b.drop i)=if x=y then lexB (a.drop (i+1)) (b.drop (i+1)) else decide (x<y):=by
 rw[drop_at hx,drop_at hy];rfl
theorem lexB_end {a b:List Int} {i:Nat} (h:i=a.length∨i=b.length) (ha:i≤a.length) (hb:i≤b.length):lexB (a.drop i) (b.drop i)=decide (a.length<b.length):=by
 rcases h with rfl | rfl
 ·rw[List.drop_length]
  rcases Nat.lt_or_ge a.length b.length with h | h
  ·rw[drop_at (List.getElem?_eq_getElem h)];simp[lexB,h]
  ·rw[List.drop_eq_nil_of_le h];simp[lexB];omega
 ·rw[List.drop_length]
  rcases Nat.lt_or_ge b.length a.length with h | h
  ·rw[drop_at (List.getElem?_eq_getElem h)];simp[lexB];omega
  ·rw[List.drop_eq_nil_of_le h];simp[lexB];omega
def GrpAt (h:Int) (gs:List (List Int)) (i:Nat):Prop:=Rises 0 (h-1) (gs.getD i [])∧(0<i→lexB (gs.getD (i-1) []) (gs.getD i [])=true)
def Sub (gs:List (List Int)) (i j:Nat):Prop:=bitsOf (gs.getD i []) &&& bitsOf (gs.getD j [])=bitsOf (gs.getD i [])
structure FamOk (h:Int) (gs:List (List Int)):Prop where
 h1:1≤h
 h2:h≤7
 grp:∀i,i<gs.length→GrpAt h gs i
 free:∀i,i<gs.length→∀j,j<gs.length→i≠j→¬Sub gs i j
structure Sml (gs:List (List Int)):Prop where
 len:gs.length≤1048576
 tot:sum (lens gs)≤1048576
theorem Sml.each {gs:List (List Int)} (h:Sml gs):∀x∈gs,x.length≤1048576:=fun x hx=>Nat.le_trans (sum_mem (List.mem_map_of_mem hx)) h.tot
theorem getDL_of {g:List (List Int)} {i:Nat} {y:List Int} (h:g[i]?=some y):g.getD i []=y:=by rw[List.getD_eq_getElem?_getD,h];rfl
theorem rises_bound {h:Int} {g:List Int} (h1:1≤h) (hr:Rises 0 (h-1) g):∀x∈g,0≤x∧x<(h.toNat:Nat):=fun x hx=>by
 have:=rises_mem hr x hx
 omega
section
variable {P:Program} {S:Ids} {H0:AH} {Q:PostC} {k k1:List It} {e e1:Env} {T T1:List Var} {n n1:Nat} {l1 r1:List Nat} {d1:Tmp}
end
end Go.Proofs.Ytlapbbffoapleaa.Am
namespace Go.Proofs.Ytlapbbffoapleaa.Am
open Go Go.RowKit Go.Proofs
theorem Kn.Sl.stX {α:Type} {d:Kn α} {S S':Ids} {H H':AH} {s:Value} {xs:List α} (h:d.Sl S H s xs) (t:∀id,S id→S' id∧H'.m id=H.m id):d.Sl S' H' s xs:=(h.same fun id hid=>(t id hid).2).more fun id hid=>(t id hid).1
theorem sml_short:∀{xs:List (List Int)},(∀g∈xs,g.length≤7)→sum (lens xs)≤7*xs.length
 | [],_=>Nat.le_refl _
 | x :: xs,h=>by
  have h1:=sml_short (fun g hg=>h g (List.mem_cons_of_mem _ hg))
  have h2:=h x (List.mem_cons_self ..)
  simp only[lens,List.map_cons,sum,List.length_cons] at h1 ⊢
  omega
end Go.Proofs.Ytlapbbffoapleaa.Am
namespace Go.Proofs.Ytlapbbffoapleaa.Am
open Go Go.RowKit
structure RowsB {α:Type} (d:Kn α) (S:Ids) (A:AH) (V:Ids) (rows:List α) (cs:List Value):Prop where
 len:cs.length=rows.length
 sub:∀id,V id→S id
 rows:∃W:Nat→Ids,(∀j id,W j id→V id)∧(∀i j id,W i id→W j id→i=j)∧∀(j:Nat) x,rows[j]?=some x→∃v,cs[j]?=some v∧d.R (W j) A x [v]
section
variable {α:Type} {d:Kn α} {S S' V:Ids} {A A':AH} {rows:List α} {cs:List Value}
theorem RowsB.nil (S:Ids) (A:AH):RowsB d S A (fun _=>False) [] []:=⟨rfl,fun _ h=>h.elim,fun _ _=>False,fun _ _ h=>h.elim,fun _ _ _ h=>h.elim,fun j x h=>by simp at h⟩
theorem RowsB.up [o:On S A S' A'] (h:RowsB d S A V rows cs):RowsB d S' A' V rows cs:=by
 obtain⟨W,h1,h2,h3⟩:=h.rows
 refine⟨h.len,fun id hid=>(o.st id (h.sub id hid)).1,W,h1,h2,fun j x hx=>?_⟩
 obtain⟨v,h4,h5⟩:=h3 j x hx
 exact⟨v,h4,d.same (fun id hid=>(o.st id (h.sub id (h1 j id hid))).2) h5⟩
theorem RowsB.snoc {X:Ids} {x:α} {v:Value} (h:RowsB d S A V rows cs) (hx:d.R X A x [v]) (hS:∀id,X id→S id) (hd:∀id,V id→X id→False):RowsB d S A (fun id=>V id∨X id) (rows++[x]) (cs++[v]):=by
 obtain⟨W,h1,h2,h3⟩:=h.rows
 refine⟨by simp[h.len],fun id hid=>hid.elim (h.sub id) (hS id),fun j id=>if j=rows.length then X id else W j id,fun j id hid=>?_,fun i j id hi hj=>?_,fun j y hy=>?_⟩
 ·simp only at hid
  split at hid
  ·exact .inr hid
  ·exact .inl (h1 j id hid)
 ·simp only at hi hj
  split at hi<;>split at hj
  ·omega
  ·exact(hd id (h1 j id hj) hi).elim
  ·exact(hd id (h1 i id hi) hj).elim
  ·exact h2 i j id hi hj
 ·rcases Nat.lt_or_ge j rows.length with hj | hj
  ·rw[List.getElem?_append_left hj] at hy
   obtain⟨u,h4,h5⟩:=h3 j y hy
   refine⟨u,by rw[List.getElem?_append_left (by rw[h.len];exact hj)];exact h4,?_⟩
   show d.R (fun id=>if j=rows.length then X id else W j id) A y [u]
   rw[show(fun id=>if j=rows.length then X id else W j id)=W j from by funext id;rw[if_neg (by omega)]]
   exact h5
  ·have hjl:=(List.getElem?_eq_some_iff.1 hy).1
   simp at hjl
   obtain rfl:j=rows.length:=by omega
   simp at hy
   subst hy
   refine⟨v,by rw[← h.len];simp,?_⟩
   show d.R (fun id=>if rows.length=rows.length then X id else W rows.length id) A x [v]
   rw[show(fun id=>if rows.length=rows.length then X id else W rows.length id)=X from by funext id;simp]
   exact hx
theorem RowsB.ml {T:List Var} {n j o:Nat} {ty:TypeId} {H2:AH} {X:Ids} (h:RowsB d S A V rows cs) (hd:d.es=1) (g:Good S A T n H2) (hT:T[j]?=some (o,⟨ty,true,cs⟩)) (hX:X o) (hV:∀id,V id→X id):d.Ml X H2 (.slice (some ⟨o,0,some 1⟩) rows.length rows.length) rows:=by
 obtain⟨W,h1,h2,h3⟩:=h.rows
 have hb:=g.blk hT
 have hno:=(g.vars j _ hT).2.2
 refine .inr ⟨o,rows.length,_,W,by rw[hd],Nat.le_refl _,hX,hb.1,rfl,by simp only[hd,h.len];omega,fun i id hid=>⟨hV id (h1 i id hid),fun e=>hno (e ▸ h.sub id (h1 i id hid))⟩,h2,fun i x hx=>?_⟩
 obtain⟨v,h4,h5⟩:=h3 i x hx
 have e:((cs.drop (0+i*d.es)).take d.es)=[v]:=by
  rw[hd,Nat.zero_add,Nat.mul_one,List.take_one,List.head?_drop,h4];rfl
 simp only
 rw[e]
 exact d.same (fun id hid=>(g.froz id (h.sub id (h1 i id hid))).2) h5
end
def MkSS (xs:List (List Int)) (n:Nat) (v:Value) (H1:AH):Prop:=∃a c,v=.slice a xs.length c∧(Kn.int .i64).ml.Ml (New n H1.n) H1 (.slice a xs.length c) xs
theorem KW.ids {P:Program} {S:Ids} {H0:AH} {Q:PostC} {k:List It} {e:Env} {T:List Var} {n:Nat} (hk:(∀id,S id→id<n)→(∀(j:Nat) o b,T[j]?=some (o,b)→o<n∧¬S o)→KW P S H0 Q n T k e):KW P S H0 Q n T k e:=
 fun H g=>hk (fun id hid=>(g.froz id hid).1) (fun j o b hj=>⟨(g.vars j _ hj).2.1,(g.vars j _ hj).2.2⟩) H g
end Go.Proofs.Ytlapbbffoapleaa.Am
namespace Go.Proofs.Ytlapbbffoapleaa.Pl
def nz (L:List (List Int)) (c a:Nat):Nat:=if h:a<L.length then(if(L[a]).getD c 0=0 then nz L c (a+1) else a) else a
termination_by L.length-a
theorem nz_step {L:List (List Int)} {c a:Nat} {r:List Int} (h:L[a]?=some r) (hz:r.getD c 0=0):nz L c (a+1)=nz L c a:=by
 obtain⟨h1,rfl⟩:=List.getElem?_eq_some_iff.1 h
 rw[nz.eq_1 L c a,dif_pos h1,if_pos hz]
theorem nz_stop {L:List (List Int)} {c a:Nat} {r:List Int} (h:L[a]?=some r) (hz:r.getD c 0≠0):nz L c a=a:=by
 obtain⟨h1,rfl⟩:=List.getElem?_eq_some_iff.1 h
 rw[nz.eq_1 L c a,dif_pos h1,if_neg hz]
theorem nz_end {L:List (List Int)} {c a:Nat} (h:L.length≤a):nz L c a=a:=by
 rw[nz.eq_1 L c a,dif_neg (by omega)]
theorem nz_le {L:List (List Int)} {c:Nat}:∀(d a:Nat),a+d=L.length→a≤nz L c a∧nz L c a≤L.length
 | 0,a,h=>by rw[nz_end (by omega)];omega
 | d+1,a,h=>by
  rw[nz.eq_1,dif_pos (by omega)]
  split
  ·have:=nz_le (L:=L) (c:=c) d (a+1) (by omega);omega
  ·omega
def sc (p b:Int) (r:List Int):List Int:=r.map fun x=>x*b%p
def tk (p t:Int) (a b:List Int):List Int:=List.zipWith (fun x y=>(x+(p-t)*y)%p) a b
def pw (p a:Int):Nat→Int
 | 0=>1
 | n+1=>pw p a n*a%p
def sw (L:List (List Int)) (n a:Nat):List (List Int):=(L.set n (L.getD a [])).set a (L.getD n [])
def tks (p:Int) (c n:Nat) (r:List Int) (L:List (List Int)) (i:Nat):List (List Int):=L.mapIdx fun j w=>if j<i∧j≠n then tk p (w.getD c 0) w r else w
def lead (p:Int) (L:List (List Int)) (c n:Nat):List Int:=sc p (pw p (((sw L n (nz L c n)).getD n []).getD c 0) (p-2).toNat) ((sw L n (nz L c n)).getD n [])
def rnd (p:Int) (L:List (List Int)) (c n:Nat):Option (List (List Int)):=
 if nz L c n=L.length then none else some (tks p c n (lead p L c n) ((sw L n (nz L c n)).set n (lead p L c n)) L.length)
def ech (p:Int) (L:List (List Int)):Nat→List (List Int) × List Nat
 | 0=>(L,[])
 | c+1=>match rnd p (ech p L c).1 c (ech p L c).2.length with
  | none=>ech p L c
  | some L'=>(L',(ech p L c).2++[c])
def Rect (p:Int) (k:Nat) (L:List (List Int)):Prop:=∀r∈L,r.length=k∧∀x∈r,0≤x∧x<p
theorem Rect.at {p:Int} {k:Nat} {L:List (List Int)} (h:Rect p k L) {i:Nat} {r:List Int} (hi:L[i]?=some r):r.length=k∧∀x∈r,0≤x∧x<p:=h r (List.mem_of_getElem? hi)
theorem Rect.set {p:Int} {k:Nat} {L:List (List Int)} (h:Rect p k L) {i:Nat} {r:List Int} (hr:r.length=k∧∀x∈r,0≤x∧x<p):Rect p k (L.set i r):=fun s hs=>by
 rcases List.mem_or_eq_of_mem_set hs with h1 | h1
 ·exact h s h1
 ·exact h1 ▸ hr
theorem Rect.getD {p:Int} {k:Nat} {L:List (List Int)} (h:Rect p k L) {i:Nat} (hi:i<L.length):(L.getD i []).length=k∧∀x∈L.getD i [],0≤x∧x<p:=by
 rw[List.getD_eq_getElem?_getD,List.getElem?_eq_getElem hi]
 exact h _ (List.getElem_mem hi)
theorem Rect.sw {p:Int} {k:Nat} {L:List (List Int)} (h:Rect p k L) {n a:Nat} (hn:n<L.length) (ha:a<L.length):Rect p k (sw L n a):=(h.set (h.getD ha)).set (h.getD hn)
theorem sc_ok {p b:Int} {k:Nat} {r:List Int} (hp:0<p) (h:r.length=k∧∀x∈r,0≤x∧x<p):(sc p b r).length=k∧∀x∈sc p b r,0≤x∧x<p:=⟨by simp[sc,h.1],fun x hx=>by
 obtain⟨y,_,rfl⟩:=List.mem_map.1 hx
 exact⟨Int.emod_nonneg _ (by omega),Int.emod_lt_of_pos _ hp⟩⟩
theorem tk_ok {p t:Int} {k:Nat} {a b:List Int} (hp:0<p) (ha:a.length=k) (hb:b.length=k):(tk p t a b).length=k∧∀x∈tk p t a b,0≤x∧x<p:=⟨by simp[tk,ha,hb],fun x hx=>by
 obtain⟨i,hi,rfl⟩:=List.mem_iff_getElem.1 hx
 simp only[tk,List.getElem_zipWith]
 exact⟨Int.emod_nonneg _ (by omega),Int.emod_lt_of_pos _ hp⟩⟩
theorem pw_ok {p a:Int} (hp:2≤p):∀n,0≤pw p a n∧pw p a n<p
 | 0=>⟨by simp[pw],by simp only[pw];omega⟩
 | n+1=>⟨Int.emod_nonneg _ (by omega),Int.emod_lt_of_pos _ (by omega)⟩
theorem sw_len {L:List (List Int)} {n a:Nat}:(sw L n a).length=L.length:=by simp[sw]
theorem tks_len {p:Int} {c n:Nat} {r:List Int} {L:List (List Int)} {i:Nat}:(tks p c n r L i).length=L.length:=by simp[tks]
theorem tks_get {p:Int} {c n:Nat} {r:List Int} {L:List (List Int)} {i j:Nat}:(tks p c n r L i)[j]?=L[j]?.map fun w=>if j<i∧j≠n then tk p (w.getD c 0) w r else w:=by simp[tks]
theorem tks_zero {p:Int} {c n:Nat} {r:List Int} {L:List (List Int)}:tks p c n r L 0=L:=by
 apply List.ext_getElem?
 intro j
 rw[tks_get]
 cases L[j]?<;>simp
theorem tks_skip {p:Int} {c n:Nat} {r:List Int} {L:List (List Int)}:tks p c n r L (n+1)=tks p c n r L n:=by
 apply List.ext_getElem?
 intro j
 rw[tks_get,tks_get]
 cases L[j]? with
 | none=>rfl
 | some w=>
  simp only[Option.map_some]
  by_cases h:j<n
  ·rw[if_pos ⟨by omega,by omega⟩,if_pos ⟨h,by omega⟩]
  ·rw[if_neg (by omega),if_neg (by omega)]
theorem tks_next {p:Int} {c n:Nat} {r:List Int} {L:List (List Int)} {i:Nat} {w:List Int} (hi:i≠n) (hw:L[i]?=some w):tks p c n r L (i+1)=(tks p c n r L i).set i (tk p (w.getD c 0) w r):=by
 apply List.ext_getElem?
 intro j
 have hl:=(List.getElem?_eq_some_iff.1 hw).1
 rw[tks_get,List.getElem?_set,tks_get]
 by_cases h:i=j
 ·subst h
  rw[if_pos rfl,if_pos (by rw[tks_len];exact hl),hw,Option.map_some,if_pos ⟨by omega,hi⟩]
 ·rw[if_neg h]
  cases L[j]? with
  | none=>rfl
  | some v=>
   simp only[Option.map_some]
   by_cases h2:j<i∧j≠n
   ·rw[if_pos ⟨by omega,h2.2⟩,if_pos h2]
   ·rw[if_neg (by omega),if_neg h2]
theorem tks_old {p:Int} {c n:Nat} {r:List Int} {L:List (List Int)} {i j:Nat} (h:i≤j∨j=n):(tks p c n r L i)[j]?=L[j]?:=by
 rw[tks_get]
 cases L[j]? with
 | none=>rfl
 | some v=>simp only[Option.map_some];rw[if_neg (by omega)]
theorem tks_rect {p:Int} {c n k:Nat} {r:List Int} {L:List (List Int)} {i:Nat} (hp:0<p) (h:Rect p k L) (hr:r.length=k):Rect p k (tks p c n r L i):=fun s hs=>by
 obtain⟨j,hj⟩:=List.mem_iff_getElem?.1 hs
 rw[tks_get] at hj
 obtain⟨w,h1,rfl⟩:=Option.map_eq_some_iff.1 hj
 split
 ·exact tk_ok hp (h.at h1).1 hr
 ·exact h.at h1
theorem lead_ok {p:Int} {k c n:Nat} {L:List (List Int)} (hp:0<p) (h:Rect p k L) (hn:n<L.length) (hz:nz L c n<L.length):(lead p L c n).length=k∧∀x∈lead p L c n,0≤x∧x<p:=
 sc_ok hp ((h.sw hn hz).getD (by rw[sw_len];exact hn))
theorem rnd_ok {p:Int} {k c n:Nat} {L L':List (List Int)} (hp:0<p) (h:Rect p k L) (hn:n≤L.length) (hr:rnd p L c n=some L'):Rect p k L'∧L'.length=L.length∧n<L.length:=by
 unfold rnd at hr
 have h1:=nz_le (L:=L) (c:=c) (L.length-n) n (by omega)
 split at hr
 ·cases hr
 ·cases hr
  have h2:n<L.length:=by omega
  have h3:=lead_ok (c:=c) hp h h2 (by omega)
  exact⟨tks_rect hp ((h.sw h2 (by omega)).set h3) h3.1,by rw[tks_len,List.length_set,sw_len],h2⟩
theorem ech_ok {p:Int} {k:Nat} {L:List (List Int)} (hp:0<p) (h:Rect p k L):∀c,Rect p k (ech p L c).1∧(ech p L c).1.length=L.length∧(ech p L c).2.length≤L.length∧(ech p L c).2.length≤c
 | 0=>⟨h,rfl,Nat.zero_le _,Nat.le_refl _⟩
 | c+1=>by
  have ih:=ech_ok hp h c
  rw[ech]
  split
  ·exact⟨ih.1,ih.2.1,ih.2.2.1,by omega⟩
  ·rename_i L' hr
   have h1:=rnd_ok hp ih.1 (by omega) hr
   exact⟨h1.1,h1.2.1.trans ih.2.1,by simp only[List.length_append,List.length_singleton];omega,by simp only[List.length_append,List.length_singleton];omega⟩
end Go.Proofs.Ytlapbbffoapleaa.Pl
namespace Go.Proofs.Ytlapbbffoapleaa.Am
open Go Go.RowKit Go.Proofs
theorem Good.nle1 {m o n:Nat} {b:Blk} {j:Nat} {H0 H1:AH} {T:List Var} (g:Good (fun i=>Low m i∧i≠o) H0 T n H1) (hT:T[j]?=some (o,b)):m≤H1.n:=by
 have h1:=(g.blk hT).2
 have hn:=g.n_
 rcases Nat.eq_zero_or_pos m with h | h
 ·omega
 ·by_cases e:m-1=o
  ·omega
  ·have:=(g.froz (m-1) ⟨by show m-1<m;omega,e⟩).1
   omega
section
variable {S:Ids} {H0:AH}
end
def None_:Ids:=fun _=>False
section
variable {α β:Type} {d:Kn α} {S S' X Y Z:Ids} {H H':AH} {v:Value} {xs:List α} {x:α} {y:β} {cs ds:List Value}
theorem sl1 (h:d.sl.R S H xs [v]):d.Sl S H v xs:=by
 obtain⟨s,h1,h2⟩:=h
 obtain rfl:v=s:=by simpa using h1
 exact h2
theorem sl1' (h:d.Sl S H v xs):d.sl.R S H xs [v]:=⟨v,rfl,h⟩
theorem ml1 (h:d.ml.R S H xs [v]):d.Ml S H v xs:=by
 obtain⟨s,h1,h2⟩:=h
 obtain rfl:v=s:=by simpa using h1
 exact h2
theorem ml1' (h:d.Ml S H v xs):d.ml.R S H xs [v]:=⟨v,rfl,h⟩
theorem mlform (h:d.ml.R S H xs cs):∃a c,cs=[.slice a xs.length c]:=by
 obtain⟨s,rfl,h2⟩:=h
 obtain⟨a,c,rfl⟩:=h2.form
 exact⟨a,c,rfl⟩
theorem slform (h:d.sl.R S H xs cs):∃a c,cs=[.slice a xs.length c]:=by
 obtain⟨s,rfl,h2⟩:=h
 obtain⟨a,c,rfl⟩:=h2.form
 exact⟨a,c,rfl⟩
theorem mpR {a:Kn α} {b:Kn β} (h:a.R X H x cs) (k:b.R Y H y ds) (hX:∀id,X id→Z id) (hY:∀id,Y id→Z id) (hd:∀id,X id→Y id→False):(Kn.mp a b).R Z H (x,y) (cs++ds):=⟨cs,ds,X,Y,rfl,hX,hY,hd,h,k⟩
theorem Good.keep {S0:Ids} {H0 H2:AH} {T:List Var} {n:Nat} (g:Good S0 H0 T n H2) [o:On X H S0 H0] (h:d.R X H x cs):d.R X H2 x cs:=
 d.same (fun id hid=>((g.froz id (o.st id hid).1).2).trans (o.st id hid).2) h
theorem Good.inn {S0:Ids} {H0 H2:AH} {T:List Var} {n lo:Nat} (g:Good S0 H0 T n H2) [o:On X H S0 H0] (hX:∀id,X id→lo≤id):∀id,X id→New lo H2.n id:=fun id hid=>⟨hX id hid,by have:=(g.froz id (o.st id hid).1).1;have:=g.n_;omega⟩
end
structure Fk {α:Type} (d:Kn α) (X S:Ids) (H:AH) (x:α) (cs:List Value):Prop where
 r:d.R X H x cs
 i:∀id,X id→S id
section
variable {α:Type} {d:Kn α} {X X' S S' W:Ids} {H H1:AH} {x:α} {cs:List Value}
theorem Fk.up [o:On S H S' H1] (h:Fk d X S H x cs):Fk d X S' H1 x cs:=⟨d.same (fun id hid=>(o.st id (h.i id hid)).2) h.r,fun id hid=>(o.st id (h.i id hid)).1⟩
theorem Fk.all [o:On S H S' H1] (h:Fk d X S H x cs):d.R S' H1 x cs:=d.more (fun id hid=>(o.st id (h.i id hid)).1) (d.same (fun id hid=>(o.st id (h.i id hid)).2) h.r)
theorem Fk.w (h:Fk d X S H x cs) (t:StW W S H S' H1) (hd:∀id,X id→W id→False):Fk d X S' H1 x cs:=⟨d.same (fun id hid=>(t id (h.i id hid)).2 (hd id hid)) h.r,fun id hid=>(t id (h.i id hid)).1⟩
theorem Fk.on [o:On X H S H1] (h:d.R X H x cs):Fk d X S H1 x cs:=⟨d.same (fun id hid=>(o.st id hid).2) h,fun id hid=>(o.st id hid).1⟩
theorem Fk.st (h:Fk d X S H x cs):d.R S H x cs:=d.more h.i h.r
theorem Fk.le {d':Kn α} (k:KLe d d') (h:Fk d X S H x cs):Fk d' X S H x cs:=⟨k.2 _ _ _ _ h.r,h.i⟩
end
abbrev K_Int64S:Kn (List Int):=KI.sl
abbrev M_Int64S:Kn (List Int):=KI.ml
abbrev B_Int64S (x:List Int):Prop:=x.length≤1048576
abbrev K_Int64SS:Kn (List (List Int)):=KI.sl.sl
abbrev M_Int64SS:Kn (List (List Int)):=KI.ml.ml
abbrev B_Int64SS (x:List (List Int)):Prop:=Sml x
abbrev sz_Int64SS (x:List (List Int)):Nat:=sum (lens x)
theorem le_Int64S:KLe M_Int64S K_Int64S:=KLe.row (KLe.refl KI)
theorem le_Int64SS:KLe M_Int64SS K_Int64SS:=KLe.row le_Int64S
section
variable {S:Ids} {H0:AH} {W:Ids} {a a':Option Addr} {c c':Nat} {left k:Int}
end
end Go.Proofs.Ytlapbbffoapleaa.Am
namespace Go.Proofs.Ytlapbbffoapleaa.Am
open Go Go.RowKit Go.Proofs Go.Proofs.Ytlapbbffoapleaa.Pl
section
variable {S S' V:Ids} {A A':AH} {rows:List (List Int)} {cs:List Value}
theorem RowsB.row1 (h:RowsB KI.ml S A V rows cs) {j:Nat} {x:List Int} (hx:rows[j]?=some x):
  ∃v W,cs[j]?=some v∧KI.Ml W A v x∧(∀id,W id→V id)∧(∀(k:Nat) y,k≠j→rows[k]?=some y→∃u X,cs[k]?=some u∧KI.Ml X A u y∧(∀id,X id→V id∧¬W id))∧
   ∀(S':Ids) (A':AH) x',StW W S A S' A'→KI.Ml W A' v x'→RowsB KI.ml S' A' V (rows.set j x') cs:=by
 obtain⟨W,h1,h2,h3⟩:=h.rows
 obtain⟨v,h4,w,h5,h6⟩:=h3 j x hx
 obtain rfl:v=w:=by simpa using h5
 refine⟨v,W j,h4,h6,h1 j,fun k y hk hy=>?_,fun S' A' x' st hm=>⟨by rw[List.length_set];exact h.len,fun id hid=>(st id (h.sub id hid)).1,W,h1,h2,fun k y hy=>?_⟩⟩
 ·obtain⟨u,h7,w,h8,h9⟩:=h3 k y hy
  obtain rfl:u=w:=by simpa using h8
  exact⟨u,W k,h7,h9,fun id hid=>⟨h1 k id hid,fun hc=>hk (h2 k j id hid hc)⟩⟩
 ·rw[List.getElem?_set] at hy
  split at hy
  ·rename_i e
   subst e
   split at hy
   ·cases hy
    exact⟨v,h4,v,rfl,hm⟩
   ·cases hy
  ·rename_i e
   obtain⟨u,h7,h8⟩:=h3 k y hy
   exact⟨u,h7,KI.ml.same (fun id hid=>(st id (h.sub id (h1 k id hid))).2 (fun hc=>e (h2 j k id hc hid))) h8⟩
theorem RowsB.swap (h:RowsB KI.ml S A V rows cs) {n a:Nat} (hn:n<rows.length) (ha:a<rows.length) {v w:Value} (hv:cs[n]?=some v) (hw:cs[a]?=some w):RowsB KI.ml S A V (sw rows n a) ((cs.set n w).set a v):=by
 obtain⟨W,h1,h2,h3⟩:=h.rows
 have hl:=h.len
 refine⟨by simp[sw,hl],h.sub,fun j=>if j=a then W n else if j=n then W a else W j,fun j id hid=>?_,fun i j id hi hj=>?_,fun j x hx=>?_⟩
 ·simp only at hid
  split at hid
  ·exact h1 _ _ hid
  ·split at hid<;>exact h1 _ _ hid
 ·simp only at hi hj
  split at hi<;>split at hj
  ·omega
  ·split at hj
   ·have:=h2 _ _ _ hi hj;omega
   ·have:=h2 _ _ _ hi hj;omega
  ·split at hi
   ·have:=h2 _ _ _ hi hj;omega
   ·have:=h2 _ _ _ hi hj;omega
  ·split at hi<;>split at hj
   ·omega
   ·have:=h2 _ _ _ hi hj;omega
   ·have:=h2 _ _ _ hi hj;omega
   ·exact h2 _ _ _ hi hj
 ·have gn:rows[n]?=some (rows.getD n []):=by rw[List.getD_eq_getElem?_getD,List.getElem?_eq_getElem hn];rfl
  have ga:rows[a]?=some (rows.getD a []):=by rw[List.getD_eq_getElem?_getD,List.getElem?_eq_getElem ha];rfl
  obtain⟨vn,n1,n2⟩:=h3 n _ gn
  obtain⟨va,a1,a2⟩:=h3 a _ ga
  rw[hv] at n1;cases n1
  rw[hw] at a1;cases a1
  unfold sw at hx
  simp only
  rw[List.getElem?_set] at hx ⊢
  by_cases e:a=j
  ·subst e
   rw[if_pos rfl,if_pos (by simp;exact ha)] at hx
   cases hx
   rw[if_pos rfl,if_pos (by simp;omega)]
   exact⟨_,rfl,by simpa using n2⟩
  ·rw[if_neg e] at hx ⊢
   rw[List.getElem?_set] at hx ⊢
   by_cases e2:n=j
   ·subst e2
    rw[if_pos rfl,if_pos hn] at hx
    cases hx
    rw[if_pos rfl,if_pos (by omega)]
    refine⟨_,rfl,?_⟩
    rw[if_neg (Ne.symm e),if_pos rfl]
    exact a2
   ·rw[if_neg e2] at hx ⊢
    obtain⟨u,h7,h8⟩:=h3 j x hx
    refine⟨u,h7,?_⟩
    rw[if_neg (Ne.symm e),if_neg (Ne.symm e2)]
    exact h8
end
section
variable {P:Program} {S:Ids} {H0:AH} {k k1:List It} {e e1:Env} {T T1:List Var} {n n1:Nat} {l1 r1:List Nat}
theorem KW.endW {fn:Func} {H:AH} {W:Ids} {post:Value→AH→Prop} {vs:List Value} {a b:List Nat} (h:Go1 P k e T n (.done .normal) k1 e1 T1 n1 l1 r1) (hlr:l1=r1) (hr:aresT P e1 T1 fn.results.toList=some (vs,a,b)) (hab:a=b)
  (hn:∀H1,Good S H0 T1 n1 H1→H.n≤H1.n) (hS:∀id,id<H.n→¬W id→S id∧H0.m id=H.m id) (hp:∀H1,Good S H0 T1 n1 H1→post (aout vs) H1):
  KW P S H0 (Fin1 P fn (fun v H1=>H.n≤H1.n∧(∀id,id<H.n→¬W id→H1.m id=H.m id)∧Fin' H1∧post v H1)) n T k e:=by
 refine KW.go h hlr (fun H1 g=>?_)
 have hv:=aresT_ok (P:=P) g _ hr hab
 simp only[Fin1,hv]
 exact⟨hn H1 g,fun id hid hw=>by rw[(g.froz id (hS id hid hw).1).2,(hS id hid hw).2],g.fin,hp H1 g⟩
theorem KW.endM {fn:Func} {H:AH} {post:Value→AH→Prop} {vs:List Value} {a b:List Nat} (h:Go1 P k e T n (.done .normal) k1 e1 T1 n1 l1 r1) (hlr:l1=r1) (hr:aresT P e1 T1 fn.results.toList=some (vs,a,b)) (hab:a=b) (hS:∀id,id<H.n→S id∧H0.m id=H.m id)
  (hp:∀H1,Good S H0 T1 n1 H1→post (aout vs) H1):
  KW P S H0 (Fin1 P fn (fun v H1=>Ext H H1∧Fin' H1∧post v H1)) n T k e:=by
 refine KW.go h hlr (fun H1 g=>?_)
 have hv:=aresT_ok (P:=P) g _ hr hab
 have hn:=g.n_
 have hx:Ext H H1:=by
  refine⟨?_,fun id hid=>by rw[(g.froz id (hS id hid).1).2,(hS id hid).2]⟩
  rcases Nat.eq_zero_or_pos H.n with h | h
  ·omega
  ·have:=(g.froz (H.n-1) (hS _ (by omega)).1).1
   omega
 simp only[Fin1,hv]
 exact⟨hx,g.fin,hp H1 g⟩
end
structure RwS where
 i:Nat
 S:Ids
 A:AH
 V:Ids
 cs:List Value
 o:Nat
structure RwI {α:Type} (f:α→List Int) (xs:List α) (H:AH) (SB:Ids) (HB:AH) (s:RwS):Prop where
 le:s.i≤xs.length
 old:St SB HB s.S s.A
 b:RowsB KI.ml s.S s.A s.V ((xs.take s.i).map f) s.cs
 v:∀id,s.V id→H.n≤id
theorem RwI.start {α:Type} {f:α→List Int} {xs:List α} {H HB:AH} {SB:Ids} {o:Nat}:RwI f xs H SB HB ⟨0,SB,HB,fun _=>False,[],o⟩:=⟨Nat.zero_le _,fun id hid=>⟨hid,rfl⟩,RowsB.nil _ _,fun _ h=>h.elim⟩
theorem RwI.next {α:Type} {f:α→List Int} {xs:List α} {H HB HC:AH} {SB SC:Ids} {s:RwS} {n1 o':Nat} {y:α} {v:Value} (h:RwI f xs H SB HB s) (t:St s.S s.A SC HC) (w:On (New n1 HC.n) HC SC HC) (low:∀id,s.S id→id<n1) (hn:H.n≤n1) (hy:xs[s.i]?=some y) (hc:KI.Ml (New n1 HC.n) HC v (f y)):RwI f xs H SB HB ⟨s.i+1,SC,HC,fun id=>s.V id∨New n1 HC.n id,s.cs++[v],o'⟩:=by
 obtain⟨hil,rfl⟩:=List.getElem?_eq_some_iff.1 hy
 haveI o1:On s.S s.A SC HC:=⟨t⟩
 refine⟨by simp only;omega,h.old.trans t,?_,fun id hid=>hid.elim (h.v id) (fun p=>by have:=p.1;omega)⟩
 simp only
 rw[List.take_succ_eq_append_getElem hil,List.map_append]
 exact(h.b.up (S':=SC) (A':=HC)).snoc (ml1' hc) (fun id hid=>(w.st id hid).1) (fun id p q=>by have:=low id (h.b.sub id p);have:=q.1;omega)
theorem RwI.ml {α:Type} {f:α→List Int} {xs:List α} {H HB H1:AH} {SB:Ids} {s:RwS} {T:List Var} {n j:Nat} {ty:TypeId} (h:RwI f xs H SB HB s) (he:s.i=xs.length) (g:Good s.S s.A T n H1) (hT:T[j]?=some (s.o,⟨ty,true,s.cs⟩)) (ho:H.n≤s.o):KI.ml.Ml (New H.n H1.n) H1 (.slice (some ⟨s.o,0,some 1⟩) xs.length xs.length) (xs.map f):=by
 have hb:=h.b
 rw[he,List.take_of_length_le (Nat.le_refl _)] at hb
 have:=hb.ml rfl g hT (X:=New H.n H1.n) ⟨ho,(g.blk hT).2⟩ (fun id hid=>⟨h.v id hid,by have:=(g.froz id (hb.sub id hid)).1;have:=g.n_;omega⟩)
 simpa using this
section
variable {P:Program} {S:Ids} {H0:AH} {Q:PostC} {k k1:List It} {e e1:Env} {T T1:List Var} {n n1:Nat} {l1 r1:List Nat} {d1:Tmp}
theorem KW.slTo {o:Oper} {dr:Bool} {t el:TypeId} {x y:Operand} {inf:TypeInfo} {id es len c m:Nat} (h:Go1 P k e T n (.op o dr) k1 e1 T1 n1 l1 r1) (hlr:l1=r1) (ho:o.op=.slice t x none (some y) none) (hd:o.dst=some d1) (hx:ev e1 x=.slice (some ⟨id,0,some es⟩) len c) (hy:ev e1 y=.int .i64 (m:Nat))
  (hu:P.underlying t=some (.slice el)) (hi:P.info? el=some inf) (he:inf.size=es) (hm:m≤c) (hk:KW P S H0 Q n1 T1 k1 (put1 e1 d1 (.slice (some ⟨id,0,some es⟩) m c))):KW P S H0 Q n T k e:=by
 refine KW.pure h hlr ho hd rfl _ ?_ hk
 simp only[pop,acut,hu,hx,hi,Option.map,hy,bHi,bLo,abound]
 rw[if_pos ⟨by omega,by omega⟩]
 simp[he]
end
theorem RowsB.mlTo {S V X:Ids} {A H2:AH} {rows:List (List Int)} {cs:List Value} {T:List Var} {n j o:Nat} {ty:TypeId} {m c:Nat} (h:RowsB KI.ml S A V rows cs) (g:Good S A T n H2) (hT:T[j]?=some (o,⟨ty,true,cs⟩)) (hX:X o) (hV:∀id,V id→X id) (hm:m≤rows.length) (hc:m≤c):KI.ml.Ml X H2 (.slice (some ⟨o,0,some 1⟩) m c) (rows.take m):=by
 obtain⟨W,h1,h2,h3⟩:=h.rows
 have hb:=g.blk hT
 have hno:=(g.vars j _ hT).2.2
 have hl:=h.len
 have el:(rows.take m).length=m:=by rw[List.length_take];omega
 refine .inr ⟨o,c,_,W,by rw[el];rfl,by rw[el];exact hc,hX,hb.1,rfl,by rw[el];show m*1≤cs.length;omega,fun i id hid=>⟨hV id (h1 i id hid),fun e=>hno (e ▸ h.sub id (h1 i id hid))⟩,h2,fun i x hx=>?_⟩
 have hx':rows[i]?=some x:=by
  rw[List.getElem?_take] at hx
  split at hx
  ·exact hx
  ·cases hx
 obtain⟨v,h4,h5⟩:=h3 i x hx'
 have e:((cs.drop (0+i*1)).take 1)=[v]:=by
  rw[Nat.zero_add,Nat.mul_one,List.take_one,List.head?_drop,h4];rfl
 show KI.ml.R (W i) H2 x ((cs.drop (0+i*1)).take 1)
 rw[e]
 exact KI.ml.same (fun id hid=>(g.froz id (h.sub id (h1 i id hid))).2) h5
end Go.Proofs.Ytlapbbffoapleaa.Am
namespace Go.Proofs.Ytlapbbffoapleaa.Am
open Go Go.RowKit Go.Proofs
section
variable {S:Ids} {H0:AH}
def TellsI (P:Program) (S:Ids) (H0:AH) (xs:List Int) (g:FuncId) (cap:List Value) (p:Int→Bool):Prop:=
 ∀S' H',On S H0 S' H'→∀y∈xs,Spec P S' H' g (.int .i64 y :: cap) (fun v=>v=.bool (p y))
theorem TellsI.up {P:Program} {S':Ids} {H':AH} {xs:List Int} {g:FuncId} {cap:List Value} {p:Int→Bool} [o:On S H0 S' H'] (h:TellsI P S H0 xs g cap p):TellsI P S' H' xs g cap p:=fun S2 H2 o2=>h S2 H2 ⟨o.st.trans o2.st⟩
theorem indexFuncI {a c} {xs:List Int} {g:FuncId} {id k:Nat} {sp:Option Nat} {p:Int→Bool} (hl:xs.length≤4611686018427387904) (hs:KI.Sl S H0 (.slice a xs.length c) xs) (hp:TellsI Try.prog S H0 xs g [.pointer (some ⟨id,k,none⟩)] p):
  Spec Try.prog S H0 196 [.slice a xs.length c,.func (.func g) #[] #[.pointer (some ⟨id,k,sp⟩)]] (fun v=>∃r:Int,v=.int .i64 r∧(r≥0↔∃x∈xs,p x=true)):=by
 refine Spec.of1 Try.func196 rfl (by kernel_rfl) rfl (fun H _=>?_)
 refine KW.lp U U (fun i:Nat=>[(0,.slice a xs.length c),(1,.func (.func g) #[] #[.pointer (some ⟨id,k,sp⟩)]),(7,.int .i64 xs.length),(8,.int .i64 i)]) (fun i=>i≤xs.length∧∀j,j<i→∀x,xs[j]?=some x→p x=false) (fun i=>xs.length-i) (0) (⟨by omega,fun j h=>absurd h (by omega)⟩) ⟨rfl,rfl,rfl,rfl,trivial⟩ (fun i hi bE n=>?_)
 obtain⟨hi,hj⟩:=hi
 refine KW.cnd U U (fun h=>?_) (fun h=>?_)
 ·refine KW.getI hs.up U U U U U U U U U U U U U U U U (by omega) (h) (fun x hx=>?_)
  have hx:xs[i]?=some x:=hx
  have hmem:=List.mem_of_getElem? hx
  refine KW.callE U U U U U (hp _ _ inferInstance x hmem) (fun _ _=>?_)
  refine KW.cndB U U (fun h2=>?_) (fun h2=>?_)
  ·exact KW.ret U U U U (⟨(i:Int),rfl,fun _=>⟨x,hmem,h2⟩,fun _=>by omega⟩)
  ·refine KW.nxt U U (fun H' g=>⟨i+1,⟨by omega,upto hj (fun y hy=>by rw[hx] at hy;cases hy;exact h2)⟩,by first | omega | (simp only;omega),⟨rfl,rfl,rfl,congrArg (Value.int .i64) (inc64 (by omega)),trivial⟩,g⟩)
 ·refine KW.ret U U U U ⟨-1,rfl,fun h=>absurd h (by decide),fun⟨x,hx,hpx⟩=>?_⟩
  obtain⟨j,hjx⟩:=List.getElem?_of_mem hx
  have:=hj j (by have:=(List.getElem?_eq_some_iff.1 hjx).1;omega) x hjx
  rw[hpx] at this;cases this
theorem containsFuncI {a c} {xs:List Int} {g:FuncId} {id k:Nat} {sp:Option Nat} {p:Int→Bool} (hl:xs.length≤4611686018427387904) (hs:KI.Sl S H0 (.slice a xs.length c) xs) (hp:TellsI Try.prog S H0 xs g [.pointer (some ⟨id,k,none⟩)] p):
  Spec Try.prog S H0 146 [.slice a xs.length c,.func (.func g) #[] #[.pointer (some ⟨id,k,sp⟩)]] (fun v=>v=.bool (tv (∃x∈xs,p x=true))):=by
 refine Spec.of1 Try.func146 rfl (by kernel_rfl) rfl (fun H _=>?_)
 refine KW.call U U U U U (indexFuncI hl hs.up hp.up) (fun v _ _ hv=>?_)
 obtain⟨r,rfl,hr⟩:=hv
 refine KW.ret U U U U ?_
 show Value.bool (decide (r≥0))=_
 rw[tv_dec,tv_congr hr]
def TellsL (P:Program) (S:Ids) (H0:AH) (xs:List (List Int)) (g:FuncId) (cap:List Value) (p:List Int→Bool):Prop:=
 ∀S' H',On S H0 S' H'→∀y∈xs,∀a c,KI.Sl S' H' (.slice a y.length c) y→Spec P S' H' g (.slice a y.length c :: cap) (fun v=>v=.bool (p y))
theorem TellsL.up {P:Program} {S':Ids} {H':AH} {xs:List (List Int)} {g:FuncId} {cap:List Value} {p:List Int→Bool} [o:On S H0 S' H'] (h:TellsL P S H0 xs g cap p):TellsL P S' H' xs g cap p:=fun S2 H2 o2=>h S2 H2 ⟨o.st.trans o2.st⟩
theorem indexFuncL {a c} {xs:List (List Int)} {g:FuncId} {id k:Nat} {sp:Option Nat} {p:List Int→Bool} (hl:xs.length≤4611686018427387904) (hs:KI.sl.Sl S H0 (.slice a xs.length c) xs) (hp:TellsL Try.prog S H0 xs g [.pointer (some ⟨id,k,none⟩)] p):
  Spec Try.prog S H0 195 [.slice a xs.length c,.func (.func g) #[] #[.pointer (some ⟨id,k,sp⟩)]] (fun v=>∃r:Int,v=.int .i64 r∧(r≥0↔∃x∈xs,p x=true)):=by
 refine Spec.of1 Try.func195 rfl (by kernel_rfl) rfl (fun H _=>?_)
 refine KW.lp U U (fun i:Nat=>[(0,.slice a xs.length c),(1,.func (.func g) #[] #[.pointer (some ⟨id,k,sp⟩)]),(7,.int .i64 xs.length),(8,.int .i64 i)]) (fun i=>i≤xs.length∧∀j,j<i→∀x,xs[j]?=some x→p x=false) (fun i=>xs.length-i) (0) (⟨by omega,fun j h=>absurd h (by omega)⟩) ⟨rfl,rfl,rfl,rfl,trivial⟩ (fun i hi bE n=>?_)
 obtain⟨hi,hj⟩:=hi
 refine KW.cnd U U (fun h=>?_) (fun h=>?_)
 ·refine KW.getL hs.up U U U U U U U U U U U U U U U U (by omega) (h) (fun x ax cx hx hsx=>?_)
  have hx:xs[i]?=some x:=hx
  have hmem:=List.mem_of_getElem? hx
  refine KW.callE U U U U U (hp _ _ inferInstance x hmem _ _ hsx) (fun _ _=>?_)
  refine KW.cndB U U (fun h2=>?_) (fun h2=>?_)
  ·exact KW.ret U U U U (⟨(i:Int),rfl,fun _=>⟨x,hmem,h2⟩,fun _=>by omega⟩)
  ·refine KW.nxt U U (fun H' g=>⟨i+1,⟨by omega,upto hj (fun y hy=>by rw[hx] at hy;cases hy;exact h2)⟩,by first | omega | (simp only;omega),⟨rfl,rfl,rfl,congrArg (Value.int .i64) (inc64 (by omega)),trivial⟩,g⟩)
 ·refine KW.ret U U U U ⟨-1,rfl,fun h=>absurd h (by decide),fun⟨x,hx,hpx⟩=>?_⟩
  obtain⟨j,hjx⟩:=List.getElem?_of_mem hx
  have:=hj j (by have:=(List.getElem?_eq_some_iff.1 hjx).1;omega) x hjx
  rw[hpx] at this;cases this
theorem containsFuncL {a c} {xs:List (List Int)} {g:FuncId} {id k:Nat} {sp:Option Nat} {p:List Int→Bool} (hl:xs.length≤4611686018427387904) (hs:KI.sl.Sl S H0 (.slice a xs.length c) xs) (hp:TellsL Try.prog S H0 xs g [.pointer (some ⟨id,k,none⟩)] p):
  Spec Try.prog S H0 143 [.slice a xs.length c,.func (.func g) #[] #[.pointer (some ⟨id,k,sp⟩)]] (fun v=>v=.bool (tv (∃x∈xs,p x=true))):=by
 refine Spec.of1 Try.func143 rfl (by kernel_rfl) rfl (fun H _=>?_)
 refine KW.call U U U U U (indexFuncL hl hs.up hp.up) (fun v _ _ hv=>?_)
 obtain⟨r,rfl,hr⟩:=hv
 refine KW.ret U U U U ?_
 show Value.bool (decide (r≥0))=_
 rw[tv_dec,tv_congr hr]
end
section
variable {P:Program} {S:Ids} {H0:AH} {Q:PostC} {k k1:List It} {e e1:Env} {T T1:List Var} {n n1:Nat} {l1 r1:List Nat} {d1:Tmp}
theorem KW.rem {o:Oper} {dr:Bool} {t u:TypeId} {x y:Operand} {ik:IntKind} {a b:Int} (h:Go1 P k e T n (.op o dr) k1 e1 T1 n1 l1 r1) (hlr:l1=r1) (ho:o.op=.binOp .rem t x y u) (hd:o.dst=some d1) (hx:ev e1 x=.int ik a) (hy:ev e1 y=.int ik b) (ha:0≤a) (hb:b≠0)
  (hk:KW P S H0 Q n1 T1 k1 (put1 e1 d1 (.int ik (a%b)))):KW P S H0 Q n T k e:=by
 refine KW.pure h hlr ho hd rfl _ ?_ hk
 simp only[pop,hx,hy,abin,aint,if_true]
 rw[if_neg hb,Int.tmod_eq_emod_of_nonneg ha]
theorem KW.quo {o:Oper} {dr:Bool} {t u:TypeId} {x y:Operand} {a b:Int} (h:Go1 P k e T n (.op o dr) k1 e1 T1 n1 l1 r1) (hlr:l1=r1) (ho:o.op=.binOp .quo t x y u) (hd:o.dst=some d1) (hx:ev e1 x=.int .i64 a) (hy:ev e1 y=.int .i64 b) (ha:0≤a∧a≤9223372036854775807) (hb:0<b)
  (hk:KW P S H0 Q n1 T1 k1 (put1 e1 d1 (.int .i64 (a / b)))):KW P S H0 Q n T k e:=by
 refine KW.pure h hlr ho hd rfl _ ?_ hk
 simp only[pop,hx,hy,abin,aint,if_true]
 rw[if_neg (by omega),Int.tdiv_eq_ediv_of_nonneg ha.1]
 have h1:0≤a / b:=Int.ediv_nonneg ha.1 (by omega)
 have h2:a / b≤a:=Int.ediv_le_self _ ha.1
 rw[wr (by omega) (by omega)]
end
def PrimeP (p:Int):Prop:=2≤p∧p≤31∧∀d:Nat,2≤d→(d:Int)<p→¬p%d=0
theorem prime_of {p:Int} {d:Nat} (h2:2≤p) (h31:p≤31) (hd:2≤d) (hdd:¬(d:Int)*d≤p) (h:∀j:Nat,2≤j→j<d→¬p%j=0):PrimeP p:=by
 refine⟨h2,h31,fun q hq hqp hm=>?_⟩
 rcases Nat.lt_or_ge q d with hlt | hge
 ·exact h q hq hlt hm
 ·obtain⟨r,hr⟩:=Int.dvd_of_emod_eq_zero hm
  have hr1:1<r:=by
   rcases Int.lt_or_le 1 r with h | h
   ·exact h
   ·have:(q:Int)*r≤q*1:=Int.mul_le_mul_of_nonneg_left h (by omega)
    omega
  obtain⟨s,rfl⟩:∃s:Nat,r=s:=⟨r.toNat,by omega⟩
  have hs:(s:Int)<d:=by
   rcases Int.lt_or_le (s:Int) d with h | h
   ·exact h
   ·have h1:(d:Int)*d≤q*s:=Int.mul_le_mul (by omega) h (by omega) (by omega)
    omega
  refine h s (by omega) (by omega) ?_
  rw[hr,Int.mul_emod_left]
theorem upto2 {d:Nat} {Q:Nat→Prop} (h:∀j,2≤j→j<d→Q j) (hd:Q d):∀j,2≤j→j<d+1→Q j:=fun j h2 hj=>by
 rcases Nat.lt_or_ge j d with hl | hg
 ·exact h j h2 hl
 ·obtain rfl:j=d:=by omega
  exact hd
section
variable {S:Ids} {H0:AH}
theorem isPrime (p:Int):Spec Try.prog S H0 142 [.int .i64 p] (fun v=>v=.bool (tv (PrimeP p))):=by
 refine Spec.of1 Try.func142 rfl (by kernel_rfl) rfl (fun H _=>?_)
 refine KW.lp U U (fun d:Nat=>[(0,.int .i64 p),(3,.int .i64 d)]) (fun d=>(2≤d∧d≤6)∧∀j:Nat,2≤j→j<d→¬p%j=0) (fun d=>6-d) (2) (⟨by omega,fun j h h'=>by omega⟩) ⟨rfl,rfl,trivial⟩ (fun d hi bE n=>?_)
 obtain⟨hd,hi⟩:=hi
 have hdd:(d:Int)*d≤36:=by
  have:(d:Int)*d≤6*6:=Int.mul_le_mul (by omega) (by omega) (by omega) (by omega)
  omega
 have hdd':0≤(d:Int)*d:=Int.mul_nonneg (by omega) (by omega)
 have ew:IntKind.i64.wrap ((d:Int)*d)=d*d:=wr (by omega) (by omega)
 have fin:¬(d:Int)*d≤p∨¬p≤31→(decide (2≤p∧p≤31):Bool)=tv (PrimeP p):=fun hx=>by
  rw[tv_dec]
  refine tv_congr ⟨fun h=>?_,fun h=>⟨h.1,h.2.1⟩⟩
  exact prime_of h.1 h.2 hd.1 (hx.resolve_right (fun hc=>hc h.2)) hi
 refine KW.tst U U (fun h=>?_) (fun h=>?_)
 ·rw[ew] at h
  refine KW.cnd U U (fun h1=>?_) (fun h1=>?_)
  ·refine KW.rem U U U U U U (by omega) (by omega) ?_
   refine KW.cndB U U (fun h2=>?_) (fun h2=>?_)
   ·have hdp:(d:Int)<p:=by
     have:(d:Int)*2≤d*d:=Int.mul_le_mul_of_nonneg_left (by omega) (by omega)
     omega
    exact KW.ret U U U U (by rw[tv_false (fun hp=>hp.2.2 d hd.1 hdp (by simpa using h2))];rfl)
   ·have h2:¬p%(d:Int)=0:=by simpa using h2
    have hd5:d≤5:=by
     rcases Nat.lt_or_ge d 6 with h | h
     ·omega
     ·have:(6:Int)*6≤d*d:=Int.mul_le_mul (by omega) (by omega) (by omega) (by omega)
      omega
    refine KW.nxt U U (fun H' g=>⟨d+1,⟨by omega,upto2 hi h2⟩,by first | omega | (simp only;omega),⟨rfl,congrArg (Value.int .i64) (inc64 (by omega)),trivial⟩,g⟩)
  ·refine KW.callE U U U U U (within _ _ _) (fun _ _=>?_)
   exact KW.ret U U U U (congrArg Value.bool (fin (.inr h1)))
 ·rw[ew] at h
  refine KW.cF U U (by first | (simp;done) | decide) ?_
  refine KW.callE U U U U U (within _ _ _) (fun _ _=>?_)
  exact KW.ret U U U U (congrArg Value.bool (fin (.inl h)))
def Elems (p:Int) (xs:List Int):Prop:=∀x∈xs,0≤x∧x≤p-1
theorem areElements1 (p y:Int) (hp:I64 p) (hy:p≠-9223372036854775808) {id:Nat} {b:Blk} (hb:b.cells=[.int .i64 p]) (hv:S id∧H0.m id=some b):Spec Try.prog S H0 147 [.int .i64 y,.pointer (some ⟨id,0,none⟩)] (fun v=>v=.bool (!decide (0≤y∧y≤p-1))):=by
 refine Spec.of1 Try.func147 rfl (by kernel_rfl) rfl (fun H _=>?_)
 obtain⟨hS1,hm1⟩:=On.blk (S':=Low H.n) (H':=H) hv.1 hv.2
 obtain⟨ty,rw,cs⟩:=b
 subst hb
 refine KW.ldP hS1 hm1 U U U U U U ?_
 refine KW.callE U U U U U (within _ _ _) (fun _ _=>?_)
 have e:IntKind.i64.wrap (p-1)=p-1:=wr (by have:=hp.1;omega) (by have:=hp.2;omega)
 refine KW.ret U U U U ?_
 rw[e];rfl
theorem areElements (p:Int) (hp:I64 p) {a c} {xs:List Int} (hl:xs.length≤4611686018427387904) (hs:KI.Sl S H0 (.slice a xs.length c) xs):Spec Try.prog S H0 73 [.int .i64 p,.slice a xs.length c] (fun v=>v=.bool (tv (PrimeP p∧Elems p xs))):=by
 refine Spec.of1 Try.func73 rfl (by kernel_rfl) rfl (fun H _=>?_)
 refine KW.callE U U U U U (isPrime p) (fun _ _=>?_)
 refine KW.tstB U U (fun h=>?_) (fun h=>?_)
 ·have h:=tv_iff.1 h
  refine KW.callV1 U U U U U (fun H1 g _=>containsFuncI (p:=fun y=>!decide (0≤y∧y≤p-1)) hl hs.up (fun S' H' o y _=>areElements1 p y hp (by have:=h.1;omega) rfl (g.var (j:=0) rfl))) (fun _ _=>?_)
  refine KW.ret U U U U ?_
  show Value.bool (!tv (∃x∈xs,(!decide (0≤x∧x≤p-1))=true))=_
  by_cases hx:Elems p xs
  ·rw[tv_true (p:=PrimeP p∧Elems p xs) ⟨h,hx⟩,tv_false (fun⟨x,h1,h2⟩=>by have:=hx x h1;simp at h2;omega)];rfl
  ·rw[tv_false (p:=PrimeP p∧Elems p xs) (fun hc=>hx hc.2),tv_true ?_];· rfl
   refine Classical.byContradiction fun hc=>hx fun x h1=>?_
   refine Classical.byContradiction fun h2=>hc ⟨x,h1,by simp;omega⟩
 ·exact KW.ret U U U U (by rw[tv_false (p:=PrimeP p∧Elems p xs) (fun hc=>by rw[tv_true hc.1] at h;cases h)];rfl)
end
structure OkMat (p c:Int) (rows:List (List Int)):Prop where
 pr:PrimeP p
 c0:0≤c
 c1:c≤12
 len:rows.length≤20
 row:∀r∈rows,(r.length:Int)=c∧Elems p r
section
variable {S:Ids} {H0:AH}
theorem validMatrix1 (p c:Int) (hp:I64 p) {y:List Int} (hl:y.length≤1048576) {a m} (hs:KI.Sl S H0 (.slice a y.length m) y) {id:Nat} {b:Blk} {v:Value} (hb:b.cells=[.int .i64 p,.int .i64 c,v]) (hv:S id∧H0.m id=some b):
  Spec Try.prog S H0 144 [.slice a y.length m,.pointer (some ⟨id,0,none⟩)] (fun v=>v=.bool (!tv ((y.length:Int)=c∧(PrimeP p∧Elems p y)))):=by
 refine Spec.of1 Try.func144 rfl (by kernel_rfl) rfl (fun H _=>?_)
 obtain⟨hS1,hm1⟩:=On.blk (S':=Low H.n) (H':=H) hv.1 hv.2
 obtain⟨ty,rw,cs⟩:=b
 subst hb
 refine KW.ldP hS1 hm1 U U U U U U ?_
 refine KW.tstB U U (fun h=>?_) (fun h=>?_)
 ·exact KW.ret U U U U (by rw[tv_false (p:=(y.length:Int)=c∧(PrimeP p∧Elems p y)) (fun hc=>by rw[hc.1] at h;simp at h)];rfl)
 ·have h:(y.length:Int)=c:=by simpa using h
  refine KW.ldP hS1 hm1 U U U U U U ?_
  refine KW.callE U U U U U (areElements p hp (by omega) hs.up) (fun _ _=>?_)
  refine KW.ret U U U U ?_
  rw[tv_congr (q:=(y.length:Int)=c∧(PrimeP p∧Elems p y)) ⟨fun hx=>⟨h,hx⟩,fun hx=>hx.2⟩];rfl
theorem validMatrix (p c:Int) (hp:I64 p) {a m} {rows:List (List Int)} (hB:B_Int64SS rows) (hs:KI.sl.Sl S H0 (.slice a rows.length m) rows):
  Spec Try.prog S H0 62 [.agg #[.int .i64 p,.int .i64 c,.slice a rows.length m]] (fun v=>v=.bool (tv (OkMat p c rows))):=by
 refine Spec.of1 Try.func62 rfl (by kernel_rfl) rfl (fun H _=>?_)
 refine KW.callE U U U U U (isPrime p) (fun _ _=>?_)
 refine KW.tstB U U (fun h1=>?_) (fun h1=>?_)
 ·have k1:=tv_iff.1 h1
  refine KW.callE U U U U U (within _ _ _) (fun _ _=>?_)
  refine KW.tstB U U (fun h2=>?_) (fun h2=>?_)
  ·have k2:0≤c∧c≤12:=by simpa using h2
   refine KW.tst U U (fun h3=>?_) (fun h3=>?_)
   ·have h3:(rows.length:Int)≤20:=h3
    refine KW.callV1 U U U U U (fun H1 g _=>containsFuncL (p:=fun y=>!tv ((y.length:Int)=c∧(PrimeP p∧Elems p y))) (by omega) hs.up (fun S' H' o y hy a c hsy=>validMatrix1 p _ hp (hB.each y hy) hsy rfl (g.var (j:=0) rfl))) (fun _ _=>?_)
    refine KW.ret U U U U ?_
    show Value.bool (!tv (∃x∈rows,(!tv ((x.length:Int)=c∧(PrimeP p∧Elems p x)))=true))=_
    by_cases hx:OkMat p c rows
    ·rw[tv_true hx,tv_false (fun⟨x,h1,h2⟩=>by rw[tv_true ⟨(hx.row x h1).1,k1,(hx.row x h1).2⟩] at h2;cases h2)];rfl
    ·rw[tv_false hx,tv_true ?_];· rfl
     refine Classical.byContradiction fun hc=>hx ⟨k1,k2.1,k2.2,by omega,fun x h1=>?_⟩
     refine Classical.byContradiction fun h2=>hc ⟨x,h1,by rw[tv_false (fun h=>h2 ⟨h.1,h.2.2⟩)];rfl⟩
   ·have h3:¬(rows.length:Int)≤20:=h3
    exact KW.ret U U U U (by rw[tv_false (p:=OkMat p c rows) (fun hc=>by have:=hc.len;omega)];rfl)
  ·have k2:¬(0≤c∧c≤12):=by simpa using h2
   repeat first | refine KW.tT U U U ?_ | refine KW.tF U U U ?_
   exact KW.ret U U U U (by rw[tv_false (p:=OkMat p c rows) (fun hc=>k2 ⟨hc.c0,hc.c1⟩)];rfl)
 ·repeat first | refine KW.tT U U U ?_ | refine KW.tF U U U ?_
  exact KW.ret U U U U (by rw[tv_false (p:=OkMat p c rows) (fun hc=>by rw[tv_true hc.pr] at h1;cases h1)];rfl)
end
def Has3 (S:Ids) (H:AH) (id k:Nat) (vs:List Value):Prop:=S id∧∃b,H.m id=some b∧∀i v,vs[i]?=some v→b.cells[k+i]?=some v
theorem Has3.up {S S':Ids} {H H':AH} {id k:Nat} {vs:List Value} [o:On S H S' H'] (h:Has3 S H id k vs):Has3 S' H' id k vs:=by
 obtain⟨h1,b,h2,h3⟩:=h
 obtain⟨h4,h5⟩:=On.blk (S':=S') (H':=H') h1 h2
 exact⟨h4,b,h5,h3⟩
section
variable {P:Program} {S:Ids} {H0:AH} {Q:PostC} {k k1:List It} {e e1:Env} {T T1:List Var} {n n1:Nat} {l1 r1:List Nat} {d1:Tmp}
theorem KW.ldF {o:Oper} {dr:Bool} {t:TypeId} {x:Operand} {id kk k0:Nat} {vs:List Value} {sp:Option Nat} {v:Value} {td:TypeDesc} (i:Nat) (hv:Has3 S H0 id k0 vs) (h:Go1 P k e T n (.op o dr) k1 e1 T1 n1 l1 r1) (hlr:l1=r1) (ho:o.op=.load t x) (hd:o.dst=some d1) (hx:ev e1 x=.pointer (some ⟨id,kk,sp⟩)) (hk0:kk=k0+i) (hi:vs[i]?=some v)
  (hu:P.underlying t=some td) (hnot:(match td with | .struct _=>false | .array _ _=>false | _=>true)=true) (hk:KW P S H0 Q n1 T1 k1 (put1 e1 d1 v)):KW P S H0 Q n T k e:=by
 obtain⟨hS,b,hm,hc⟩:=hv
 exact KW.ldP hS hm h hlr ho hd hx (bload_at (by rw[hk0];exact hc i v hi) hu hnot) hk
end
section
variable {S:Ids} {H0:AH}
end
abbrev KB:Kn Int:=Kn.int .u8
def Src (ac:Option Addr) (n cc:Nat) (A:AH) (id at_:Nat):Prop:=∃sd:Int,A.m id=some ⟨200,true,[.slice ac n cc,.int .i64 at_,.int .u64 sd]⟩
theorem srcOf {ac:Option Addr} {n cc:Nat} {A:AH} {id at_:Nat} {w sd:Int} (h:A.m id=some ⟨200,true,[.slice ac n cc,.int .i64 w,.int .u64 sd]⟩) (e:w=(at_:Nat)):Src ac n cc A id at_:=⟨sd,by rw[h,e]⟩
theorem and255 (x:Int):(BitVec.ofInt IntKind.u64.bits x &&& BitVec.ofInt IntKind.u64.bits 255).toNat≤255:=by
 rw[BitVec.toNat_and]
 exact Nat.le_trans Nat.and_le_right (by decide)
theorem last255 (x:Int):∃z:Nat,z<256∧Value.int .i64 (IntKind.i64.wrap (IntKind.u64.wrap ((BitVec.ofInt IntKind.u64.bits x &&& BitVec.ofInt IntKind.u64.bits 255).toNat:Int)))=.int .i64 z:=by
 have h:=and255 x
 exact⟨_,Nat.lt_succ_of_le h,congrArg (Value.int .i64) (by rw[wru (by omega) (by omega),wr (by omega) (by omega)])⟩
section
variable {S:Ids} {H0:AH}
theorem srcNext {bs:List Int} (hb:∀x∈bs,0≤x∧x<256) (hl:bs.length≤1048576) {ac:Option Addr} {cc id at_:Nat} {Y:Ids} (hat:at_≤1000000) (hS:S id) (hY:∀i,Y i→S i∧i≠id) (hsrc:Src ac bs.length cc H0 id at_) (hs:KB.Sl Y H0 (.slice ac bs.length cc) bs):
  SpecW Try.prog S H0 (fun i=>i=id) 154 [.pointer (some ⟨id,0,none⟩)] (fun n v H1=>∃z:Nat,z<256∧v=.int .i64 z∧Src ac bs.length cc H1 id (at_+1)):=by
 obtain⟨sd,hm⟩:=hsrc
 refine SpecW.of Try.func154 rfl (by kernel_rfl) rfl hS hm (fun H hfin hfz=>?_)
 have hs:=hs.stX (S':=fun i=>Low H.n i∧i≠id) (H':=H) (fun i hi=>⟨⟨(hfz i (hY i hi).1).1,(hY i hi).2⟩,(hfz i (hY i hi).1).2⟩)
 refine KW.ldT 0 U U U U U U U ?_
 refine KW.ldT 0 U U U U U U U ?_
 refine KW.cnd U U (fun k1=>?gin) (fun k1=>?gout)
 case' gin=>
  have k1:(at_:Int)<(bs.length:Int):=k1
  refine KW.ldT 0 U U U U U U U ?_
  refine KW.ldT 0 U U U U U U U ?_
  refine KW.getI hs U U U U U U U U U U U U U U U U (by omega) (k1) (fun y hy=>?_)
  have hyb:=hb y (List.mem_of_getElem? hy)
 case' gout=>
  have k1:¬(at_:Int)<(bs.length:Int):=k1
 all_goals
  have ei:IntKind.i64.wrap ((at_:Int)+1)=((at_+1:Nat):Int):=inc64 (by omega)
  refine KW.ldT 0 U U U U U U U ?_
  refine KW.st1 0 U U U U U U U U U U U U (by simp) ?_
  refine KW.ldT 0 U U U U U U U ?_
  refine KW.st1 0 U U U U U U U U U U U U (by simp) ?_
  refine KW.ldT 0 U U U U U U U ?_
  refine KW.ldT 0 U U U U U U U ?_
 case gin=>
  refine KW.yes U U (by rw[ei];omega) ?_
  have e0:IntKind.i64.wrap y=y:=wr (by omega) (by omega)
  refine KW.retW U U U U (fun H1 g=>by have:=g.n_;omega) (fun i hi hw=>⟨⟨hi,hw⟩,rfl⟩) (fun H1 g=>⟨y.toNat,by omega,?_,?_⟩)
  ·show Value.int .i64 (IntKind.i64.wrap y)=_
   rw[e0,Int.toNat_of_nonneg hyb.1]
  ·have h:=(g.blk (j:=0) rfl).1
   exact srcOf h ei
 case gout=>
  refine KW.no U U (by rw[ei];omega) ?_
  refine KW.ldT 0 U U U U U U U ?_
  refine KW.retW U U U U (fun H1 g=>by have:=g.n_;omega) (fun i hi hw=>⟨⟨hi,hw⟩,rfl⟩) (fun H1 g=>?_)
  have h:=(g.blk (j:=0) rfl).1
  have hsrc:Src ac bs.length cc H1 id (at_+1):=by
   exact srcOf h ei
  exact Exists.imp (fun z hz=>⟨hz.1,hz.2,hsrc⟩) (last255 _)
def SrcP (ac:Option Addr) (n cc id at_:Nat) (p:Nat→Prop) (v:Value) (H1:AH):Prop:=∃z at':Nat,p z∧at_≤at'∧at'≤at_+2∧v=.int .i64 z∧Src ac n cc H1 id at'
theorem srcPick {bs:List Int} (hb:∀x∈bs,0≤x∧x<256) (hl:bs.length≤1048576) {ac:Option Addr} {cc id at_:Nat} {Y:Ids} {n:Int} (hn:n≤1000000) (hat:at_≤900000) (hS:S id) (hY:∀i,Y i→S i∧i≠id) (hsrc:Src ac bs.length cc H0 id at_) (hs:KB.Sl Y H0 (.slice ac bs.length cc) bs):
  SpecW Try.prog S H0 (fun i=>i=id) 80 [.pointer (some ⟨id,0,none⟩),.int .i64 n] (fun _ v H1=>SrcP ac bs.length cc id at_ (fun z=>1≤n→(z:Int)<n) v H1):=by
 refine SpecW.of0 Try.func80 rfl (by kernel_rfl) rfl (fun H hfin hfz=>?_)
 have fx:∀i,S i→Low H.n i∧H.m i=H0.m i:=fun i hi=>hfz i hi
 have hid:id<H.n:=(fx id hS).1
 have hsrcH:Src ac bs.length cc H id at_:=by obtain⟨sd,h⟩:=hsrc;exact⟨sd,(fx id hS).2.trans h⟩
 have hsH:=hs.stX (S':=fun i=>Low H.n i∧i≠id) (H':=H) (fun i hi=>⟨⟨(fx i (hY i hi).1).1,(hY i hi).2⟩,(fx i (hY i hi).1).2⟩)
 refine KW.cnd U U (fun k1=>?_) (fun k1=>?_)
 ·have k1:n≤1:=k1
  refine KW.retW U U U U (fun H1 g=>by have:=g.n_;omega) (fun i hi hw=>⟨hi,rfl⟩) (fun H1 g=>⟨0,at_,fun h=>by omega,Nat.le_refl _,by omega,rfl,?_⟩)
  obtain⟨sd,h⟩:=hsrcH
  exact⟨sd,(g.froz id hid).2.trans h⟩
 ·have k1:¬n≤1:=k1
  obtain⟨m,rfl⟩:∃m:Nat,n=m:=⟨n.toNat,by omega⟩
  refine KW.callW (W:=fun i=>i=id) (fun i hi=>by subst hi;exact hid) U U U U U (srcNext (S:=Low H.n) (H0:=H) hb hl (by omega) hid (fun i hi=>hi) hsrcH hsH) (fun v H1 S1 hn1 st1 hw1 hp=>?_)
  obtain⟨z1,hz1,rfl,hsrc1⟩:=hp
  refine KW.cnd U U (fun k2=>?_) (fun k2=>?_)
  ·have t1:∀i,Low H.n i∧i≠id→(S1 i∧i≠id)∧H1.m i=H.m i:=fun i hi=>⟨⟨(st1 i hi.1).1,hi.2⟩,(st1 i hi.1).2 hi.2⟩
   refine KW.callW (W:=fun i=>i=id) (fun i hi=>by subst hi;exact(st1 i hid).1) U U U U U (srcNext (S:=S1) (H0:=H1) hb hl (by omega) (st1 id hid).1 (fun i hi=>hi) hsrc1 (hsH.stX t1)) (fun v H2 S2 hn2 st2 hw2 hp=>?_)
   obtain⟨z2,hz2,rfl,hsrc2⟩:=hp
   have e1:IntKind.i64.wrap (IntKind.i64.wrap ((z1:Int)*256)+(z2:Int))=((z1*256+z2:Nat):Int):=by rw[wr (x:=(z1:Int)*256) (by omega) (by omega),wr (by omega) (by omega)];omega
   refine KW.rem U U U U U U (by rw[e1];omega) (by omega) ?_
   refine KW.retW U U U U (fun H3 g=>by have:=g.n_;omega) (fun i hi hw=>⟨(st2 i (st1 i hi).1).1,((st2 i (st1 i hi).1).2 hw).trans ((st1 i hi).2 hw)⟩) (fun H3 g=>⟨((z1*256+z2:Nat)%m),at_+2,fun h=>?_,by omega,by omega,?_,?_⟩)
   ·have:=Nat.mod_lt (z1*256+z2) (show 0<m by omega)
    omega
   ·show Value.int .i64 (IntKind.i64.wrap (IntKind.i64.wrap ((z1:Int)*256)+(z2:Int))%(m:Int))=_
    rw[e1]
    rfl
   ·obtain⟨sd,h⟩:=hsrc2
    exact⟨sd,(g.froz id (st2 id (st1 id hid).1).1).2.trans h⟩
  ·refine KW.rem U U U U U U (by omega) (by omega) ?_
   refine KW.retW U U U U (fun H3 g=>by have:=g.n_;omega) (fun i hi hw=>⟨(st1 i hi).1,(st1 i hi).2 hw⟩) (fun H3 g=>⟨z1%m,at_+1,fun h=>?_,by omega,by omega,?_,?_⟩)
   ·have:=Nat.mod_lt z1 (show 0<m by omega)
    omega
   ·rfl
   ·obtain⟨sd,h⟩:=hsrc1
    exact⟨sd,(g.froz id (st1 id hid).1).2.trans h⟩
theorem srcOne {bs:List Int} (hb:∀x∈bs,0≤x∧x<256) (hl:bs.length≤1048576) {ac:Option Addr} {cc id at_:Nat} {Y:Ids} {n:Int} (hn:n≤1000000) (hat:at_≤900000) (hS:S id) (hY:∀i,Y i→S i∧i≠id) (hsrc:Src ac bs.length cc H0 id at_) (hs:KB.Sl Y H0 (.slice ac bs.length cc) bs):
  SpecW Try.prog S H0 (fun i=>i=id) 75 [.pointer (some ⟨id,0,none⟩),.int .i64 n] (fun _ v H1=>∃(b:Bool) (at':Nat),at_≤at'∧at'≤at_+2∧v=.bool b∧Src ac bs.length cc H1 id at'):=by
 refine SpecW.of0 Try.func75 rfl (by kernel_rfl) rfl (fun H hfin hfz=>?_)
 have fx:∀i,S i→Low H.n i∧H.m i=H0.m i:=fun i hi=>hfz i hi
 have hid:id<H.n:=(fx id hS).1
 have hsrcH:Src ac bs.length cc H id at_:=by obtain⟨sd,h⟩:=hsrc;exact⟨sd,(fx id hS).2.trans h⟩
 have hsH:=hs.stX (S':=fun i=>Low H.n i∧i≠id) (H':=H) (fun i hi=>⟨⟨(fx i (hY i hi).1).1,(hY i hi).2⟩,(fx i (hY i hi).1).2⟩)
 refine KW.callW (W:=fun i=>i=id) (fun i hi=>by subst hi;exact hid) U U U U U (srcPick (S:=Low H.n) (H0:=H) hb hl hn hat hid (fun i hi=>hi) hsrcH hsH) (fun v H1 S1 hn1 st1 hw1 hp=>?_)
 obtain⟨z,at',_,h1,h2,rfl,sd,hm⟩:=hp
 refine KW.retW U U U U (fun H3 g=>by have:=g.n_;omega) (fun i hi hw=>⟨(st1 i hi).1,(st1 i hi).2 hw⟩) (fun H3 g=>⟨_,at',h1,h2,rfl,sd,(g.froz id (st1 id hid).1).2.trans hm⟩)
theorem built_Src (a:Option Addr) (n c:Nat):Try.prog.built 200 [(0,.slice a n c)]=some #[.slice a n c,.int .i64 0,.int .u64 0]:=by kernel_rfl
theorem srcFrom {a:Option Addr} {n c:Nat}:SpecM Try.prog S H0 60 [.slice a n c] (fun m v H1=>∃(o:Nat) (sp:Option Nat),v=.pointer (some ⟨o,0,sp⟩)∧New m H1.n o∧Src a n c H1 o 0):=by
 refine SpecM.of1 Try.func60 rfl (by kernel_rfl) rfl (fun H _=>?_)
 refine KW.build U U U U U (built_Src _ _ _) ?_
 refine KW.retM1 U U U U (fun H1 g=>?_)
 exact⟨_,_,rfl,⟨g.ge (H1:=H) (j:=0) rfl,(g.blk (j:=0) rfl).2⟩,_,(g.blk (j:=0) rfl).1⟩
end
section
variable {S:Ids} {H0:AH}
theorem l01Before {a c a' c'} {xs ys:List Int} (hl:xs.length≤1048576) (hs:(Kn.int .i64).Sl S H0 (.slice a xs.length c) xs) (hs':(Kn.int .i64).Sl S H0 (.slice a' ys.length c') ys):
  Spec Try.prog S H0 234 [.slice a xs.length c,.slice a' ys.length c'] (fun v=>v=.bool (lexB xs ys)):=by
 refine Spec.of Try.func234 rfl (by kernel_rfl) rfl (fun H hfin hfz=>?_)
 have hs:=hs.to hfz
 have hs':=hs'.to hfz
 refine KW.lp U U (fun i:Nat=>[(0,.slice a xs.length c),(1,.slice a' ys.length c'),(5,.int .i64 i)]) (fun i=>i≤xs.length∧i≤ys.length∧lexB xs ys=lexB (xs.drop i) (ys.drop i)) (fun i=>xs.length-i) 0 ⟨by omega,by omega,rfl⟩ ⟨rfl,rfl,rfl,trivial⟩ (fun i hi b n=>?_)
 obtain⟨hi,hi',hj⟩:=hi
 have fin:(i=xs.length∨i=ys.length)→aout [Value.bool (decide ((xs.length:Int)<ys.length))]=.bool (lexB xs ys):=fun h=>by
  rw[hj,lexB_end h hi hi']
  show Value.bool _=_
  congr 1
  simp
 refine KW.tst U U (fun h=>?_) (fun h=>?_)
 ·refine KW.cnd U U (fun h2=>?_) (fun h2=>KW.ret U U U U (fin (.inr (by omega))))
  refine KW.getI hs U U U U U U U U U U U U U U U U (by omega) (by omega) (fun x hx=>?_)
  have hx:xs[i]?=some x:=hx
  refine KW.getI hs' U U U U U U U U U U U U U U U U (by omega) (by omega) (fun y hy=>?_)
  have hy:ys[i]?=some y:=hy
  have e:=lexB_self_step hx hy
  refine KW.cndB U U (fun h3=>?_) (fun h3=>?_)
  ·refine KW.getI hs U U U U U U U U U U U U U U U U (by omega) (by omega) (fun x1 hx1=>?_)
   obtain rfl:x=x1:=by have:xs[i]?=some x1:=hx1;rw[hx] at this;cases this;rfl
   refine KW.getI hs' U U U U U U U U U U U U U U U U (by omega) (by omega) (fun y1 hy1=>?_)
   obtain rfl:y=y1:=by have:ys[i]?=some y1:=hy1;rw[hy] at this;cases this;rfl
   refine KW.ret U U U U ?_
   have h3:¬x=y:=by simpa using h3
   show Value.bool (decide (x<y))=_
   rw[hj,e,if_neg h3]
  ·have h3:x=y:=by simpa using h3
   exact KW.nxt U U (fun H g=>⟨i+1,⟨by omega,by omega,by rw[hj,e,if_pos h3]⟩,by omega,⟨rfl,rfl,congrArg (Value.int .i64) (inc64 (by omega)),trivial⟩,g⟩)
 ·exact KW.cndB U U (fun h=>absurd h (by decide)) (fun _=>KW.ret U U U U (fin (.inl (by omega))))
theorem isNaN (x:Int):Spec Try.prog S H0 254 [.int .i64 x] (fun v=>v=.bool false):=by
 refine Spec.of Try.func254 rfl (by kernel_rfl) rfl (fun H hfin hfz=>?_)
 refine KW.ret U U U U ?_
 show Value.bool (x !=x)=_
 simp
theorem cmpCompare (x y:Int):Spec Try.prog S H0 245 [.int .i64 x,.int .i64 y] (fun v=>v=.int .i64 (if x<y then -1 else if x>y then 1 else 0)):=by
 refine Spec.of Try.func245 rfl (by kernel_rfl) rfl (fun H hfin hfz=>?_)
 refine KW.callE U U U U U (isNaN _) (fun _ _=>?_)
 refine KW.callE U U U U U (isNaN _) (fun _ _=>?_)
 refine KW.cndB U U (fun h=>absurd h (by decide)) (fun _=>?_)
 refine KW.cndB U U (fun h=>absurd h (by decide)) (fun _=>?_)
 refine KW.cnd U U (fun h=>KW.ret U U U U ?_) (fun h=>?_)
 ·rw[if_pos h];rfl
 refine KW.cnd U U (fun h2=>KW.ret U U U U ?_) (fun h2=>KW.ret U U U U ?_)
 ·rw[if_neg h,if_pos h2];rfl
 ·rw[if_neg h,if_neg h2];rfl
theorem slicesCompare {a c a' c'} {xs ys:List Int} (hl:xs.length≤1048576) (hs:(Kn.int .i64).Sl S H0 (.slice a xs.length c) xs) (hs':(Kn.int .i64).Sl S H0 (.slice a' ys.length c') ys):
  Spec Try.prog S H0 225 [.slice a xs.length c,.slice a' ys.length c'] (fun v=>∃r:Int,v=.int .i64 r∧(r≥0↔lexB xs ys=false)):=by
 refine Spec.of Try.func225 rfl (by kernel_rfl) rfl (fun H hfin hfz=>?_)
 have hs:=hs.to hfz
 have hs':=hs'.to hfz
 refine KW.lp U U (fun i:Nat=>[(0,.slice a xs.length c),(1,.slice a' ys.length c'),(9,.slice a xs.length c),(10,.int .i64 xs.length),(11,.int .i64 i)]) (fun i=>i≤xs.length∧i≤ys.length∧lexB xs ys=lexB (xs.drop i) (ys.drop i)) (fun i=>xs.length-i) 0 ⟨by omega,by omega,rfl⟩ ⟨rfl,rfl,rfl,rfl,rfl,trivial⟩ (fun i hi b n=>?_)
 obtain⟨hi,hi',hj⟩:=hi
 refine KW.cnd U U (fun h=>?_) (fun h=>?_)
 ·refine KW.getI hs U U U U U U U U U U U U U U U U (by omega) (by omega) (fun x hx=>?_)
  have hx:xs[i]?=some x:=hx
  refine KW.cnd U U (fun h2=>KW.ret U U U U ⟨1,rfl,?_⟩) (fun h2=>?_)
  ·rw[hj,lexB_end (.inr (by omega)) hi hi']
   simp
   omega
  refine KW.getI hs' U U U U U U U U U U U U U U U U (by omega) (by omega) (fun y hy=>?_)
  have hy:ys[i]?=some y:=hy
  have e:=lexB_self_step hx hy
  refine KW.callE U U U U U (cmpCompare _ _) (fun _ _=>?_)
  refine KW.cndB U U (fun h3=>KW.ret U U U U ⟨_,rfl,?_⟩) (fun h3=>?_)
  ·rw[hj,e]
   by_cases h4:x=y
   ·subst h4;simp at h3
   ·rw[if_neg h4]
    by_cases h5:x<y
    ·rw[if_pos h5];simp[h5]
    ·rw[if_neg h5,if_pos (by omega)];simp;omega
  ·have h3:x=y:=by
    by_cases h5:x<y
    ·rw[if_pos h5] at h3;simp at h3
    ·rw[if_neg h5] at h3
     by_cases h6:x>y
     ·rw[if_pos h6] at h3;simp at h3
     ·omega
   exact KW.nxt U U (fun H g=>⟨i+1,⟨by omega,by omega,by rw[hj,e,if_pos h3]⟩,by omega,⟨rfl,rfl,rfl,rfl,congrArg (Value.int .i64) (inc64 (by omega)),trivial⟩,g⟩)
 ·have e:=lexB_end (a:=xs) (b:=ys) (i:=i) (.inl (by omega)) hi hi'
  refine KW.cnd U U (fun h2=>KW.ret U U U U ⟨-1,rfl,?_⟩) (fun h2=>KW.ret U U U U ⟨0,rfl,?_⟩)
  ·rw[hj,e];simp;omega
  ·rw[hj,e];simp;omega
theorem l00Rises (lo hi:Int) {a c} {xs:List Int} (hl:xs.length≤1048576) (hs:(Kn.int .i64).Sl S H0 (.slice a xs.length c) xs):Spec Try.prog S H0 138 [.slice a xs.length c,.int .i64 lo,.int .i64 hi] (fun v=>v=.bool (tv (Rises lo hi xs))):=by
 refine Spec.of Try.func138 rfl (by kernel_rfl) rfl (fun H hfin hfz=>?_)
 have hs:=hs.to hfz
 refine KW.lp U U (fun i:Nat=>[(0,.slice a xs.length c),(1,.int .i64 lo),(2,.int .i64 hi),(7,.int .i64 i)]) (fun i=>i≤xs.length∧∀j,j<i→RiseAt lo hi xs j) (fun i=>xs.length-i) 0 ⟨by omega,fun j h=>absurd h (by omega)⟩ ⟨rfl,rfl,rfl,rfl,trivial⟩ (fun i hi' b n=>?_)
 obtain⟨hi',hr⟩:=hi'
 have e1:=inc64 (i:=i) (by omega)
 have bad:i<xs.length→¬RiseAt lo hi xs i→aout [Value.bool false]=.bool (tv (Rises lo hi xs)):=fun hi hx=>by
  rw[tv_false (fun hc=>hx (hc i (by omega)))];rfl
 refine KW.cnd U U (fun h=>?_) (fun h=>KW.ret U U U U ?_)
 ·refine KW.getI hs U U U U U U U U U U U U U U U U (by omega) h (fun y hy=>?_)
  have hy:xs.getD i 0=y:=getD_of hy
  refine KW.callE U U U U U (l00In _ _ _) (fun n' _=>?_)
  refine KW.tstB U U (fun h1=>?_) (fun h1=>?_)
  ·simp at h1
   refine KW.cndB U U (fun h=>KW.ret U U U U (bad (by omega) (fun hx=>?_))) (fun h=>absurd h (by decide))
   have:=hx.1;omega
  ·have h1:lo≤y∧y≤hi:=by simpa using h1
   refine KW.tst U U (fun h2=>?_) (fun h2=>?_)
   ·have e2:IntKind.i64.wrap ((i:Int)-1)=((i-1:Nat):Int):=by rw[wr (by omega) (by omega)];omega
    refine KW.getI hs U U U U U U U U U U U U U U U U (by rw[e2];omega) (by rw[e2];omega) (fun z hz=>?_)
    rw[e2] at hz
    have hz:xs.getD (i-1) 0=z:=getD_of hz
    refine KW.getI hs U U U U U U U U U U U U U U U U (by omega) (by omega) (fun y1 hy1=>?_)
    obtain rfl:y=y1:=hy.symm.trans (getD_of hy1)
    refine KW.cnd U U (fun h3=>KW.ret U U U U (bad (by omega) (fun hx=>?_))) (fun h3=>?_)
    ·have:=hx.2 (by omega);omega
    ·exact KW.nxt U U (fun H g=>⟨i+1,⟨by omega,upto hr ⟨by omega,fun _=>by omega⟩⟩,by omega,⟨rfl,rfl,rfl,congrArg (Value.int .i64) e1,trivial⟩,g⟩)
   ·refine KW.cndB U U (fun h=>absurd h (by decide)) (fun _=>?_)
    exact KW.nxt U U (fun H g=>⟨i+1,⟨by omega,upto hr ⟨by omega,fun _=>by omega⟩⟩,by omega,⟨rfl,rfl,rfl,congrArg (Value.int .i64) e1,trivial⟩,g⟩)
 ·rw[tv_true (p:=Rises lo hi xs) (fun j hj=>hr j (by omega))];rfl
theorem l01Group (m:Int) {a c} {xs:List Int} (hl:xs.length≤1048576) (hm:-9223372036854775807≤m∧m≤9223372036854775807) (hs:(Kn.int .i64).Sl S H0 (.slice a xs.length c) xs):Spec Try.prog S H0 190 [.int .i64 m,.slice a xs.length c] (fun v=>v=.bool (tv (Rises 0 (m-1) xs))):=by
 refine Spec.of Try.func190 rfl (by kernel_rfl) rfl (fun H hfin hfz=>?_)
 have e:IntKind.i64.wrap (m-1)=m-1:=wr (by omega) (by omega)
 refine KW.callE U U U U U (by have:=l00Rises 0 (IntKind.i64.wrap (m-1)) hl (hs.to hfz);rw[e] at this ⊢;exact this) (fun n' _=>?_)
 exact KW.ret U U U U U
theorem l01Bits {m:Nat} (hm:m≤8) {a c} {xs:List Int} (hl:xs.length≤1048576) (hx:∀x∈xs,0≤x∧x<m) (hs:(Kn.int .i64).Sl S H0 (.slice a xs.length c) xs):Spec Try.prog S H0 194 [.slice a xs.length c] (fun v=>v=.int .i64 (bitsOf xs:Nat)):=by
 refine Spec.of Try.func194 rfl (by kernel_rfl) rfl (fun H hfin hfz=>?_)
 have hs:=hs.to hfz
 refine KW.lp U U (fun i:Nat=>[(0,.slice a xs.length c),(3,.int .i64 (bitsOf (xs.take i):Nat)),(4,.int .i64 i)]) (fun i=>i≤xs.length) (fun i=>xs.length-i) 0 (by omega) ⟨rfl,rfl,rfl,trivial⟩ (fun i hi b n=>?_)
 refine KW.cnd U U (fun h=>?_) (fun h=>KW.ret U U U U ?_)
 ·obtain⟨r,e,hr,hb,hp⟩:=step_small hm hx i (by omega)
  refine KW.getI hs U U U U U U U U U U U U U U U U (by omega) h (fun y hy=>?_)
  obtain rfl:y=(r:Int):=by rw[← e];exact(getD_of hy).symm
  refine KW.shlI U U U U U U r (wru (by omega) (by omega)) (by omega) ?_
  have e2:IntKind.i64.wrap ((BitVec.ofInt IntKind.i64.bits ((bitsOf (xs.take i):Nat):Int) ||| BitVec.ofInt IntKind.i64.bits ((2 ^ r:Nat):Int)).toNat:Int)=((bitsOf (xs.take (i+1)):Nat):Int):=by
   rw[or_i64 (by omega) (by omega),bits_take xs i (by omega),e];rfl
  exact KW.nxt U U (fun H g=>⟨i+1,by omega,by omega,⟨rfl,congrArg (Value.int .i64) e2,congrArg (Value.int .i64) (inc64 (by omega)),trivial⟩,g⟩)
 ·show Value.int .i64 (bitsOf (xs.take i):Nat)=_
  rw[List.take_of_length_le (by omega)]
theorem l01Within {m:Nat} (hm:m≤7) {a c a' c'} {xs ys:List Int} (hl:xs.length≤1048576) (hl':ys.length≤1048576) (hx:∀x∈xs,0≤x∧x<m) (hy:∀x∈ys,0≤x∧x<m) (hs:(Kn.int .i64).Sl S H0 (.slice a xs.length c) xs) (hs':(Kn.int .i64).Sl S H0 (.slice a' ys.length c') ys):
  Spec Try.prog S H0 235 [.slice a xs.length c,.slice a' ys.length c'] (fun v=>v=.bool (tv (bitsOf xs &&& bitsOf ys=bitsOf xs))):=by
 refine Spec.of Try.func235 rfl (by kernel_rfl) rfl (fun H hfin hfz=>?_)
 have b1:bitsOf xs<2 ^ m:=bitsOf_lt (fun x h=>by have:=hx x h;omega)
 have b2:bitsOf ys<2 ^ m:=bitsOf_lt (fun x h=>by have:=hy x h;omega)
 have hp:=small_pow (m:=m) (by omega)
 refine KW.callE U U U U U (l01Bits (by omega) hl hx (hs.to hfz)) (fun n' _=>?_)
 refine KW.callE U U U U U (l01Bits (by omega) hl' hy (hs'.to hfz)) (fun n' _=>?_)
 refine KW.ret U U U U ?_
 show Value.bool (IntKind.i64.wrap ((BitVec.ofInt IntKind.i64.bits ((bitsOf xs:Nat):Int) &&& BitVec.ofInt IntKind.i64.bits ((bitsOf ys:Nat):Int)).toNat:Int)==((bitsOf xs:Nat):Int))=_
 rw[and_i64 (by omega) (by omega)]
 congr 1
 by_cases h:bitsOf xs &&& bitsOf ys=bitsOf xs
 ·rw[tv_true h,h];simp
 ·rw[tv_false h];simp;omega
end
section
variable {S:Ids} {H0:AH}
theorem Sml.at_ {gs:List (List Int)} (h:Sml gs) {i:Nat} {g:List Int} (hg:gs[i]?=some g):g.length≤1048576:=h.each g (List.mem_of_getElem? hg)
theorem l01Ok (m:Int) {id:Nat} {ty:TypeId} {rw:Bool} {s c} {gs:List (List Int)} (hsm:Sml gs) (hS:S id) (hm:H0.m id=some ⟨ty,rw,[.int .i64 m,.slice s gs.length c]⟩) (hs:(Kn.int .i64).sl.Sl S H0 (.slice s gs.length c) gs):
  Spec Try.prog S H0 193 [.pointer (some ⟨id,0,none⟩)] (fun v=>v=.bool (tv (FamOk m gs))):=by
 refine Spec.of Try.func193 rfl (by kernel_rfl) rfl (fun H hfin hfz=>?_)
 have hs:=hs.to hfz
 have hm:=((hfz id hS).2).trans hm
 have hS:Low H.n id:=(hfz id hS).1
 have hgl:=hsm.len
 have bad:¬FamOk m gs→aout [Value.bool false]=.bool (tv (FamOk m gs)):=fun hx=>by rw[tv_false hx];rfl
 refine KW.ldP hS hm U U U U U U ?_
 refine KW.callE U U U U U (l00In _ _ _) (fun _ _=>?_)
 refine KW.cndB U U (fun h1=>KW.ret U U U U (bad (fun hc=>?_))) (fun h1=>?_)
 ·have:=hc.h1;have:=hc.h2;simp at h1;omega
 have h1:1≤m∧m≤7:=by simpa using h1
 refine KW.lp U U (fun i:Nat=>[(0,.pointer (some ⟨id,0,none⟩)),(3,.int .i64 i)]) (fun i=>i≤gs.length∧∀j,j<i→GrpAt m gs j) (fun i=>gs.length-i) 0 ⟨by omega,fun j h=>absurd h (by omega)⟩ ⟨rfl,rfl,trivial⟩ (fun i hi b n=>?_)
 obtain⟨hi,hr⟩:=hi
 refine KW.ldP hS hm U U U U U U ?_
 refine KW.cnd U U (fun h=>?_) (fun h=>?_)
 ·have hil:i<gs.length:=by omega
  have bad':¬GrpAt m gs i→aout [Value.bool false]=.bool (tv (FamOk m gs)):=fun hx=>bad (fun hc=>hx (hc.grp i hil))
  refine KW.ldP hS hm U U U U U U ?_
  refine KW.ldP hS hm U U U U U U ?_
  refine KW.getL hs U U U U U U U U U U U U U U U U (by omega) h (fun g ag cg hg hsg=>?_)
  have hg:gs[i]?=some g:=hg
  have hgd:=getDL_of hg
  refine KW.callE U U U U U (l01Group _ (hsm.at_ hg) (by omega) hsg) (fun _ _=>?_)
  refine KW.tstB U U (fun h2=>?_) (fun h2=>?_)
  ·refine KW.cndB U U (fun _=>KW.ret U U U U (bad' (fun hx=>?_))) (fun h=>absurd h (by decide))
   have:=hx.1;rw[hgd] at this;rw[tv_true this] at h2;cases h2
  have h2:Rises 0 (m-1) g:=tv_iff.1 (by simpa using h2)
  refine KW.tst U U (fun h3=>?_) (fun h3=>?_)
  ·have e2:IntKind.i64.wrap ((i:Int)-1)=((i-1:Nat):Int):=by rw[wr (by omega) (by omega)];omega
   refine KW.ldP hS hm U U U U U U ?_
   refine KW.getL hs U U U U U U U U U U U U U U U U (by rw[e2];omega) (by rw[e2];omega) (fun p ap cp hp hsp=>?_)
   rw[e2] at hp
   have hp:gs[i-1]?=some p:=hp
   have hpd:=getDL_of hp
   refine KW.ldP hS hm U U U U U U ?_
   refine KW.getL hs U U U U U U U U U U U U U U U U (by omega) h (fun g1 ag1 cg1 hg1 hsg1=>?_)
   obtain rfl:g=g1:=by have:gs[i]?=some g1:=hg1;rw[hg] at this;cases this;rfl
   refine KW.callE U U U U U (l01Before (hsm.at_ hp) hsp hsg1) (fun _ _=>?_)
   refine KW.cndB U U (fun h4=>KW.ret U U U U (bad' (fun hx=>?_))) (fun h4=>?_)
   ·have:=hx.2 (by omega);rw[hgd,hpd] at this;rw[this] at h4;cases h4
   ·exact KW.nxt U U (fun H g'=>⟨i+1,⟨by omega,upto hr ⟨by rw[hgd];exact h2,fun _=>by rw[hgd,hpd];simpa using h4⟩⟩,by omega,⟨rfl,congrArg (Value.int .i64) (inc64 (by omega)),trivial⟩,g'⟩)
  ·refine KW.cndB U U (fun h=>absurd h (by decide)) (fun _=>?_)
   exact KW.nxt U U (fun H g'=>⟨i+1,⟨by omega,upto hr ⟨by rw[hgd];exact h2,fun h=>absurd h (by omega)⟩⟩,by omega,⟨rfl,congrArg (Value.int .i64) (inc64 (by omega)),trivial⟩,g'⟩)
 have hG:∀j,j<gs.length→GrpAt m gs j:=fun j hj=>hr j (by omega)
 have hB:∀{j:Nat} {g:List Int},gs[j]?=some g→∀x∈g,0≤x∧x<(m.toNat:Nat):=fun {j g} hj=>by
  have:=(hG j (List.getElem?_eq_some_iff.1 hj).1).1
  rw[getDL_of hj] at this
  exact rises_bound h1.1 this
 refine KW.lp U U (fun i:Nat=>[(0,.pointer (some ⟨id,0,none⟩)),(4,.int .i64 i)]) (fun i=>i≤gs.length∧∀i',i'<i→∀j,j<gs.length→i'≠j→¬Sub gs i' j) (fun i=>gs.length-i) 0 ⟨by omega,fun j h=>absurd h (by omega)⟩ ⟨rfl,rfl,trivial⟩ (fun i hi b n=>?_)
 obtain⟨hi,hf⟩:=hi
 refine KW.ldP hS hm U U U U U U ?_
 refine KW.cnd U U (fun h=>?_) (fun h=>KW.ret U U U U ?_)
 ·have hil:i<gs.length:=by omega
  refine KW.lp U U (fun j:Nat=>[(0,.pointer (some ⟨id,0,none⟩)),(4,.int .i64 i),(5,.int .i64 j)]) (fun j=>j≤gs.length∧∀j',j'<j→i≠j'→¬Sub gs i j') (fun j=>gs.length-j) 0 ⟨by omega,fun j h=>absurd h (by omega)⟩ ⟨rfl,rfl,rfl,trivial⟩ (fun j hj b n=>?_)
  obtain⟨hj,hf2⟩:=hj
  refine KW.ldP hS hm U U U U U U ?_
  refine KW.cnd U U (fun h=>?_) (fun h=>?_)
  ·have hjl:j<gs.length:=by omega
   refine KW.tstB U U (fun h2=>?_) (fun h2=>?_)
   ·have hne:i≠j:=by intro e;subst e;simp at h2
    refine KW.ldP hS hm U U U U U U ?_
    refine KW.getL hs U U U U U U U U U U U U U U U U (by omega) (by omega) (fun g ag cg hg hsg=>?_)
    have hg:gs[i]?=some g:=hg
    refine KW.ldP hS hm U U U U U U ?_
    refine KW.getL hs U U U U U U U U U U U U U U U U (by omega) (by omega) (fun q aq cq hq hsq=>?_)
    have hq:gs[j]?=some q:=hq
    have hsub:Sub gs i j↔bitsOf g &&& bitsOf q=bitsOf g:=by unfold Sub;rw[getDL_of hg,getDL_of hq]
    refine KW.callE U U U U U (l01Within (m:=m.toNat) (by omega) (hsm.at_ hg) (hsm.at_ hq) (hB hg) (hB hq) hsg hsq) (fun _ _=>?_)
    refine KW.cndB U U (fun h4=>KW.ret U U U U (bad (fun hx=>hx.free i hil j hjl hne (hsub.2 (tv_iff.1 h4))))) (fun h4=>?_)
    exact KW.nxt U U (fun H g'=>⟨j+1,⟨by omega,upto hf2 (fun _ hc=>by rw[tv_true (hsub.1 hc)] at h4;cases h4)⟩,by omega,⟨rfl,rfl,congrArg (Value.int .i64) (inc64 (by omega)),trivial⟩,g'⟩)
   ·refine KW.cndB U U (fun h=>absurd h (by decide)) (fun _=>?_)
    exact KW.nxt U U (fun H g'=>⟨j+1,⟨by omega,upto hf2 (fun hne=>absurd (by simp at h2;omega) hne)⟩,by omega,⟨rfl,rfl,congrArg (Value.int .i64) (inc64 (by omega)),trivial⟩,g'⟩)
  ·exact KW.nxt U U (fun H g'=>⟨i+1,⟨by omega,upto hf (fun j' hj'=>hf2 j' (by omega))⟩,by omega,⟨rfl,congrArg (Value.int .i64) (inc64 (by omega)),trivial⟩,g'⟩)
 ·rw[tv_true (p:=FamOk m gs) ⟨h1.1,h1.2,hG,fun i' hi'=>hf i' (by omega)⟩];rfl
theorem specValidFamily (m:Int) {s c} {gs:List (List Int)} (hsm:Sml gs) (hs:(Kn.int .i64).sl.Sl S H0 (.slice s gs.length c) gs):
  Spec Try.prog S H0 175 [familyV m (.slice s gs.length c)] (fun v=>v=.bool (tv (FamOk m gs))):=by
 refine Spec.of Try.func175 rfl (by kernel_rfl) rfl (fun H hfin hfz=>?_)
 refine KW.callV U U U U U (fun H1 g=>l01Ok m hsm (g.blk (j:=0) rfl).2 (g.blk (j:=0) rfl).1 ((hs.to hfz).on (fun id hid=>(g.froz id hid).2) (fun id hid=>by have:=(g.froz id hid).1;have:=g.n_;show id<H1.n;omega))) (fun _ _=>?_)
 exact KW.ret U U U U U
end
section
variable {S:Ids} {H0:AH}
noncomputable def codeF (h:Int) (gs:List (List Int)):Int:=if tv (FamOk h gs)=true then(if h>5 then 3 else if gs.length=0 then 4 else if(gs.getD 0 []).length=0 then 4 else 0) else 1
theorem l07Family (m:Int) {id:Nat} {ty:TypeId} {rw:Bool} {s c} {gs:List (List Int)} (hsm:Sml gs) (hS:S id) (hm:H0.m id=some ⟨ty,rw,[.int .i64 m,.slice s gs.length c]⟩) (hs:(Kn.int .i64).sl.Sl S H0 (.slice s gs.length c) gs):
  Spec Try.prog S H0 106 [.pointer (some ⟨id,0,none⟩)] (fun v=>v=.int .i64 (codeF m gs)):=by
 refine Spec.of Try.func106 rfl (by kernel_rfl) rfl (fun H hfin hfz=>?_)
 have hs:=hs.to hfz
 have hm:=((hfz id hS).2).trans hm
 have hS:Low H.n id:=(hfz id hS).1
 refine KW.ldP hS hm U U U U U U ?_
 refine KW.callE U U U U U (specValidFamily m hsm hs) (fun _ _=>?_)
 refine KW.cndB U U (fun h1=>KW.ret U U U U ?_) (fun h1=>?_)
 ·have h1:tv (FamOk m gs)=false:=by simpa using h1
  unfold codeF;rw[h1];rfl
 have h1:tv (FamOk m gs)=true:=by simpa using h1
 refine KW.ldP hS hm U U U U U U ?_
 refine KW.cnd U U (fun h2=>KW.ret U U U U ?_) (fun h2=>?_)
 ·unfold codeF;rw[if_pos h1,if_pos h2];rfl
 refine KW.ldP hS hm U U U U U U ?_
 refine KW.tstB U U (fun h3=>?_) (fun h3=>?_)
 ·refine KW.cndB U U (fun _=>KW.ret U U U U ?_) (fun h=>absurd h (by decide))
  unfold codeF;rw[if_pos h1,if_neg h2,if_pos (by simp at h3;simp[h3])];rfl
 have h3:¬gs.length=0:=by simp at h3;simp[h3]
 refine KW.ldP hS hm U U U U U U ?_
 refine KW.getL hs U U U U U U U U U U U U U U U U (by omega) (by omega) (fun g ag cg hg hsg=>?_)
 have hgd:gs.getD 0 []=g:=getDL_of hg
 refine KW.cndB U U (fun h4=>KW.ret U U U U ?_) (fun h4=>KW.ret U U U U ?_)
 ·unfold codeF;rw[if_pos h1,if_neg h2,if_neg h3,hgd,if_pos (by simp at h4;simp[h4])];rfl
 ·unfold codeF;rw[if_pos h1,if_neg h2,if_neg h3,hgd,if_neg (by simp at h4;simp[h4])];rfl
noncomputable def fitC (m u:Int) (l:List Int) (h:Int) (gs:List (List Int)):Int:=if tv (OkR m u l)=true then(if codeF h gs=0 then(if m=h then 0 else 2) else codeF h gs) else 1
end
end Go.Proofs.Ytlapbbffoapleaa.Am
