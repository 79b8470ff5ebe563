/- Contracts and laws on abstract memory, merged. Each holds under its own conditions. -/
import Derived.Test.YtlapbbffoapleaaPPackets02
set_option linter.unusedVariables false
set_option linter.unusedSimpArgs false
set_option maxRecDepth 20000
set_option maxHeartbeats 4000000
namespace Go.Proofs.Ytlapbbffoapleaa.Am
open Go Go.RowKit Go.Proofs
def Steps (gs:List (List Int)) (b x w:Nat):Prop:=Opens gs (x ||| w)∧¬Opens gs (b ||| w)
def Chd (gs:List (List Int)) (k b x:Nat):Prop:=x &&& k=0∧x≠b∧x &&& b=b∧¬Opens gs x
def Least (gs:List (List Int)) (k b x w:Nat) (ok:Bool):Prop:=
 (ok=true∧w≤k∧(k &&& w=w∧Steps gs b x w)∧∀v,v < w→¬(k &&& v=v∧Steps gs b x v))∨(ok=false∧w=0∧∀v,v≤k→¬(k &&& v=v∧Steps gs b x v))
section
variable {S:Ids} {H0:AH}
theorem steps {m:Nat} (hm:m≤7) (h:Int) {b x w:Nat} (hb:b < 256) (hx:x < 256) (hw:w < 256) {gs:List (List Int)} (hsm:Sml gs) (hbe:Below' m gs) {a c} (hs:KI.sl.Sl S H0 (.slice a gs.length c) gs):
  Spec Try.prog S H0 115 [familyV h (.slice a gs.length c),.int .u64 b,.int .u64 x,.int .u64 w] (fun v=>v=.bool (tv (Steps gs b x w))):=by
 refine Spec.of1 Try.func115 rfl (by kernel_rfl) rfl (fun H _=>?_)
 have o1:x ||| w < 2 ^ 8:=Nat.or_lt_two_pow (by omega) (by omega)
 have o2:b ||| w < 2 ^ 8:=Nat.or_lt_two_pow (by omega) (by omega)
 have e8:(2:Nat) ^ 8=256:=by decide
 have e1:=or_u64 (a:=x) (b:=w) (by omega) (by omega)
 have e2:=or_u64 (a:=b) (b:=w) (by omega) (by omega)
 refine KW.callE rfl rfl rfl rfl rfl ((by show Spec _ _ _ _ [familyV h (.slice a gs.length c),.int .u64 (IntKind.u64.wrap _)] _; rw [e1]; exact opens hm h (by omega) hsm hbe hs.up)) (fun _ _=>?_)
 refine KW.tstB rfl rfl (fun k1=>?_) (fun k1=>?_)
 ·have k1:=tv_iff.1 k1
  refine KW.callE rfl rfl rfl rfl rfl ((by show Spec _ _ _ _ [familyV h (.slice a gs.length c),.int .u64 (IntKind.u64.wrap _)] _; rw [e2]; exact opens hm h (by omega) hsm hbe hs.up)) (fun _ _=>?_)
  refine KW.ret rfl rfl rfl rfl ?_
  show Value.bool (!tv (Opens gs (b ||| w)))=_
  by_cases k2:Opens gs (b ||| w)
  ·rw [tv_true k2,tv_false (p:=Steps gs b x w) (fun hc=>hc.2 k2)]; rfl
  ·rw [tv_false k2,tv_true (p:=Steps gs b x w) ⟨k1,k2⟩]; rfl
 ·exact KW.ret rfl rfl rfl rfl (by rw [tv_false (p:=Steps gs b x w) (fun hc=>by rw [tv_true hc.1] at k1; cases k1)]; rfl)
theorem least {m:Nat} (hm:m≤7) (h:Int) {k b x:Nat} (hk:k < 256) (hb:b < 256) (hx:x < 256) {gs:List (List Int)} (hsm:Sml gs) (hbe:Below' m gs) {a c} (hs:KI.sl.Sl S H0 (.slice a gs.length c) gs):
  Spec Try.prog S H0 173 [familyV h (.slice a gs.length c),.int .u64 k,.int .u64 b,.int .u64 x] (fun v=>∃(w:Nat) (ok:Bool),v=.tuple #[.int .u64 w,.bool ok]∧Least gs k b x w ok):=by
 refine Spec.of1 Try.func173 rfl (by kernel_rfl) rfl (fun H _=>?_)
 refine KW.lp rfl rfl (fun w:Nat=>[(1,.int .u64 k),(2,.int .u64 b),(3,.int .u64 x),(4,.pointer (some ⟨H.n,0,some 0⟩)),(10,.int .u64 w)]) (fun w=>w≤k+1∧∀v,v < w→¬(k &&& v=v∧Steps gs b x v)) (fun w=>k+1 - w) (0) (⟨by omega,fun v hv=>absurd hv (by omega)⟩) ⟨rfl,rfl,rfl,rfl,rfl,trivial⟩ (fun w hi bE n=>?_)
 obtain ⟨hw,hv⟩:=hi
 refine KW.cnd rfl rfl (fun k1=>?_) (fun k1=>?_)
 ·have k1:(w:Int)≤k:=k1
  refine KW.callE rfl rfl rfl rfl rfl (contains (x:=k) (y:=w) (by omega) (by omega)) (fun _ _=>?_)
  refine KW.tstB rfl rfl (fun k2=>?_) (fun k2=>?_)
  ·have k2:=tv_iff.1 k2
   refine KW.callE rfl rfl rfl rfl rfl (steps hm h (b:=b) (x:=x) (w:=w) hb hx (by omega) hsm hbe hs.up) (fun _ _=>?_)
   refine KW.cndB rfl rfl (fun k3=>?_) (fun k3=>?_)
   ·exact KW.ret rfl rfl rfl rfl (⟨w,true,rfl,.inl ⟨rfl,by omega,⟨k2,tv_iff.1 k3⟩,hv⟩⟩)
   ·refine KW.nxt rfl rfl (fun H' g=>⟨w+1,⟨by omega,upto hv (fun hc=>by rw [tv_true hc.2] at k3; cases k3)⟩,by first | omega | (simp only; omega),⟨rfl,rfl,rfl,rfl,congrArg (Value.int .u64) (incu64 (by omega)),trivial⟩,g⟩)
  ·refine KW.cF rfl rfl (by first | (simp; done) | decide) ?_
   refine KW.nxt rfl rfl (fun H' g=>⟨w+1,⟨by omega,upto hv (fun hc=>by rw [tv_true hc.1] at k2; cases k2)⟩,by first | omega | (simp only; omega),⟨rfl,rfl,rfl,rfl,congrArg (Value.int .u64) (incu64 (by omega)),trivial⟩,g⟩)
 ·have k1:¬(w:Int)≤k:=k1
  exact KW.ret rfl rfl rfl rfl (⟨0,false,rfl,.inr ⟨rfl,rfl,fun v hv'=>hv v (by omega)⟩⟩)
theorem Good.row1 {S0:Ids} {T:List Var} {n j id c:Nat} {H1 H2:AH} {ty:TypeId} {a:Option Addr} {c':Nat} {xs:List Int} (g:Good S0 H1 T n H2) (hT:T[j]?=some (id,⟨ty,true,[.slice a xs.length c']⟩)) (h:KI.Sl (Low H2.n) H2 (.slice a xs.length c') xs) (hc:1≤c):KI.sl.Sl (Low H2.n) H2 (.slice (some ⟨id,0,some 1⟩) [xs].length c) [xs]:=by
 have hb:=g.blk hT
 refine .inr ⟨id,0,c,_,rfl,hc,hb.2,hb.1,by simp [Kn.sl],fun i x hx=>?_⟩
 cases i with
 | zero=>cases hx; exact ⟨_,rfl,h⟩
 | succ i=>simp at hx
end
end Go.Proofs.Ytlapbbffoapleaa.Am
/- Contracts: SequenceFor of the program. Each holds under its own conditions. -/
set_option linter.unusedVariables false
set_option linter.unusedSimpArgs false
set_option maxRecDepth 20000
namespace Go.Proofs.Ytlapbbffoapleaa.Am
open Go Go.RowKit Go.Proofs
theorem Least.one {gs:List (List Int)} {k b x w w':Nat} {ok ok':Bool} (h:Least gs k b x w ok) (h':Least gs k b x w' ok'):w=w'∧ok=ok':=by
 rcases h with ⟨rfl,h1,h2,h3⟩ | ⟨rfl,rfl,h1⟩ <;> rcases h' with ⟨rfl,k1,k2,k3⟩ | ⟨rfl,rfl,k1⟩
 ·rcases Nat.lt_trichotomy w w' with h | h | h
  ·exact absurd h2 (k3 w h)
  ·exact ⟨h,rfl⟩
  ·exact absurd k2 (h3 w' h)
 ·exact absurd h2 (k1 w h1)
 ·exact absurd k2 (h1 w' (by omega))
 ·exact ⟨rfl,rfl⟩
def bef (ns:List Nat) (i:Nat):Nat:=if i=0 then 0 else ns.getD (i - 1) 0
open Classical in
noncomputable def leastW (gs:List (List Int)) (k b x:Nat):Nat:=if h:∃w,Least gs k b x w true then Classical.choose h else 0
def OkAt (gs:List (List Int)) (k:Nat) (ns:List Nat) (i:Nat):Prop:=Chd gs k (bef ns i) (ns.getD i 0)∧∃w,Least gs k (bef ns i) (ns.getD i 0) w true
abbrev nums (chain:List (List Int)):List Nat:=chain.map bitsOf
noncomputable def withAt (gs:List (List Int)) (k:Nat) (ns:List Nat) (i:Nat):List Int:=hold (leastW gs k (bef ns i) (ns.getD i 0)) 7
noncomputable def withs (gs:List (List Int)) (k:Nat) (ns:List Nat) (n:Nat):List (List Int):=(List.range n).map (withAt gs k ns)
def MkQC (r:T_Sequence) (code:Int) (n:Nat) (v:Value) (H1:AH):Prop:=∃cs:List Value,v=.tuple #[.agg cs.toArray,.int .i64 code]∧M_Sequence.R (New n H1.n) H1 r cs
theorem nilM {X:Ids} {H:AH} {α:Type} {d:Kn α}:d.ml.R X H [] [.slice none 0 0]:=ml1' (.inl ⟨rfl,_,_,rfl,fun _=>rfl⟩)
theorem seqNil {X:Ids} {H:AH}:M_Sequence.R X H ([],[],[]) [.slice none 0 0,.slice none 0 0,.slice none 0 0]:=
 mpR (X:=None_) (cs:=[.slice none 0 0]) nilM (mpR (X:=None_) (Y:=None_) (cs:=[.slice none 0 0]) nilM nilM (fun _ p=>p.elim) (fun _ p=>p.elim) (fun _ p _=>p.elim)) (fun _ p=>p.elim) (fun _ p=>p) (fun _ p _=>p.elim)
theorem MkQC.nil {code:Int} {n:Nat} {v:Value} {H1:AH} (hv:v=.tuple #[.agg #[.slice none 0 0,.slice none 0 0,.slice none 0 0],.int .i64 code]):MkQC ([],[],[]) code n v H1:=⟨_,hv,seqNil⟩
structure SqS where
 i:Nat
 S:Ids
 A:AH
 l1:Value
 l2:Value
 tail:List Var
 V1:Ids
 V2:Ids
 c1:List Value
 c2:List Value
structure SqI (gs:List (List Int)) (k:Nat) (chain:List (List Int)) (SA:Ids) (HA:AH) (s:SqS):Prop where
 le:s.i≤chain.length
 old:St SA HA s.S s.A
 b1:RowsB KI.ml s.S s.A s.V1 (chain.take s.i) s.c1
 b2:RowsB KI.ml s.S s.A s.V2 (withs gs k (nums chain) s.i) s.c2
 v1:∀id,s.V1 id→HA.n≤id
 v2:∀id,s.V2 id→HA.n≤id
 dis:∀id,s.V1 id→s.V2 id→False
 ok:∀j,j < s.i→OkAt gs k (nums chain) j
 form:(s.i=0∧s.l1=.slice none 0 0∧s.l2=.slice none 0 0∧s.tail=[]∧s.c1=[]∧s.c2=[])∨(0 < s.i∧∃o1 o2,s.l1=.slice (some ⟨o1,0,some 1⟩) s.i s.i∧s.l2=.slice (some ⟨o2,0,some 1⟩) s.i s.i∧s.tail=[(o1,⟨36,true,s.c1⟩),(o2,⟨36,true,s.c2⟩)])
theorem SqI.next {gs:List (List Int)} {k:Nat} {chain:List (List Int)} {SA:Ids} {HA:AH} {s:SqS} (h:SqI gs k chain SA HA s) {SC SG:Ids} {HC HG:AH} {n1 n2:Nat} {y:List Int} {v1 v2 l1 l2:Value} {tail:List Var} (t1:St s.S s.A SC HC) (t2:St SC HC SG HG) (w1:On (New n1 HC.n) HC SC HC) (w2:On (New n2 HG.n) HG SG HG) (low:∀id,s.S id→id < n1) (hn:HA.n≤n1) (hn2:HC.n≤n2) (hn3:n1≤HC.n) (hy:chain[s.i]?=some y) (hc:KI.Ml (New n1 HC.n) HC v1 y) (hg:KI.Ml (New n2 HG.n) HG v2 (withAt gs k (nums chain) s.i)) (ok:OkAt gs k (nums chain) s.i)
  (form:0 < s.i+1∧∃o1 o2,l1=.slice (some ⟨o1,0,some 1⟩) (s.i+1) (s.i+1)∧l2=.slice (some ⟨o2,0,some 1⟩) (s.i+1) (s.i+1)∧tail=[(o1,⟨36,true,s.c1++[v1]⟩),(o2,⟨36,true,s.c2++[v2]⟩)]):
  SqI gs k chain SA HA ⟨s.i+1,SG,HG,l1,l2,tail,fun id=>s.V1 id∨New n1 HC.n id,fun id=>s.V2 id∨New n2 HG.n id,s.c1++[v1],s.c2++[v2]⟩:=by
 obtain ⟨hil,rfl⟩:=List.getElem?_eq_some_iff.1 hy
 haveI o1:On s.S s.A SC HC:=⟨t1⟩
 haveI o2:On SC HC SG HG:=⟨t2⟩
 have et:chain.take (s.i+1)=chain.take s.i++[chain[s.i]]:=List.take_succ_eq_append_getElem hil
 have ew:withs gs k (nums chain) (s.i+1)=withs gs k (nums chain) s.i++[withAt gs k (nums chain) s.i]:=by unfold withs; rw [List.range_succ,List.map_append]; rfl
 have lowV1:∀id,s.V1 id→id < n1:=fun id hid=>low id (h.b1.sub id hid)
 have lowV2:∀id,s.V2 id→id < n1:=fun id hid=>low id (h.b2.sub id hid)
 have c2:KI.ml.R (New n1 HC.n) HG chain[s.i] [v1]:=ml1' (hc.same (fun id hid=>(t2 id (w1.st id hid).1).2))
 refine ⟨by simp only; omega,(h.old.trans t1).trans t2,?_,?_,fun id hid=>hid.elim (h.v1 id) (fun p=>by have:=p.1; omega),fun id hid=>hid.elim (h.v2 id) (fun p=>by have:=p.1; omega),fun id p q=>?_,upto h.ok ok,.inr form⟩
 ·simp only [et]
  exact ((h.b1.up (S':=SC) (A':=HC)).up (S':=SG) (A':=HG)).snoc c2 (fun id hid=>(t2 id (w1.st id hid).1).1) (fun id p q=>by have:=lowV1 id p; have:=q.1; omega)
 ·simp only [ew]
  exact ((h.b2.up (S':=SC) (A':=HC)).up (S':=SG) (A':=HG)).snoc (ml1' hg) (fun id hid=>(w2.st id hid).1) (fun id p q=>by have:=lowV2 id p; have:=q.1; omega)
 ·rcases p with p | p <;> rcases q with q | q
  ·exact h.dis id p q
  ·have:=lowV1 id p; have:=q.1; omega
  ·have:=lowV2 id q; have:=p.1; omega
  ·have:=p.2; have:=q.1; omega
section
variable {S:Ids} {H0:AH}
end
end Go.Proofs.Ytlapbbffoapleaa.Am

namespace Go.Proofs.Ytlapbbffoapleaa.Am
open Go Go.RowKit Go.Proofs
section
variable {S:Ids} {H0:AH}
end
section
variable {S:Ids} {H0:AH}
end
section
variable {S:Ids} {H0:AH}
end
section
variable {S:Ids} {H0:AH}
end
end Go.Proofs.Ytlapbbffoapleaa.Am
namespace Go.Proofs.Ytlapbbffoapleaa.Am
open Go Go.RowKit Go.Proofs Go.Proofs.Ytlapbbffoapleaa.Pl
structure CrS where
 j:Nat
 S:Ids
 A:AH
 V:Ids
 cs:List Value
 o:Nat
structure CrI (q:Nat) (op:Nat→Prop) (H:AH) (s:CrS):Prop where
 le:s.j≤2 ^ q
 old:St (Low H.n) H s.S s.A
 b:RowsB KI.ml s.S s.A s.V (minsU q op s.j) s.cs
 v:∀id,s.V id→H.n≤id
 o:H.n≤s.o
section
variable {S:Ids} {H0:AH}
end
section
variable {S:Ids} {H0:AH}
end
section
variable {S:Ids} {H0:AH}
structure Tb (gs:List (List Int)) (N b:Nat) (cs:List Bool):Prop where
 len:cs.length=N
 done:∀j,j < b→cs[j]?=some (tv (Opens gs j))
 rest:∀j,b < j→j < N→cs[j]?=some false
end
section
variable {S:Ids} {H0:AH}
end
section
variable {S:Ids} {H0:AH}
end
end Go.Proofs.Ytlapbbffoapleaa.Am
namespace Go.Proofs.Ytlapbbffoapleaa.Am
open Go Go.RowKit Go.Proofs

end Go.Proofs.Ytlapbbffoapleaa.Am
namespace Go.Proofs.Ytlapbbffoapleaa.Am
open Go Go.RowKit Go.Proofs Go.Proofs.Ytlapbbffoapleaa.Pl

theorem RowsB.mv {S S' V:Ids} {A A':AH} {rows:List (List Int)} {cs:List Value} (h:RowsB KI.ml S A V rows cs) (t:∀i,V i→S' i∧A'.m i=A.m i):RowsB KI.ml S' A' V rows cs:=by
 obtain ⟨W,h1,h2,h3⟩:=h.rows
 refine ⟨h.len,fun i hi=>(t i hi).1,W,h1,h2,fun j x hx=>?_⟩
 obtain ⟨v,h4,h5⟩:=h3 j x hx
 exact ⟨v,h4,KI.ml.same (fun id hid=>(t id (h1 j id hid)).2) h5⟩
structure DwE (H:AH) (id:Nat) (S:Ids) (A:AH):Prop where
 sid:S id
 old:∀i,Low H.n i∧i≠id→S i∧A.m i=H.m i
theorem DwE.w {H:AH} {id:Nat} {S S':Ids} {A A':AH} (e:DwE H id S A) (st:StW (fun i=>i=id) S A S' A'):DwE H id S' A':=
 ⟨(st id e.sid).1,fun i hi=>⟨(st i (e.old i hi).1).1,((st i (e.old i hi).1).2 hi.2).trans (e.old i hi).2⟩⟩
theorem DwE.s {H:AH} {id:Nat} {S S':Ids} {A A':AH} (e:DwE H id S A) (st:St S A S' A'):DwE H id S' A':=
 ⟨(st id e.sid).1,fun i hi=>⟨(st i (e.old i hi).1).1,(st i (e.old i hi).1).2.trans (e.old i hi).2⟩⟩
theorem DwE.kb {H:AH} {id:Nat} {S:Ids} {A:AH} {s:Value} {xs:List Int} (e:DwE H id S A) (h:KB.Sl (fun i=>Low H.n i∧i≠id) H s xs):KB.Sl (fun i=>S i∧i≠id) A s xs:=h.stX (fun i hi=>⟨⟨(e.old i hi).1,hi.2⟩,(e.old i hi).2⟩)
theorem Src.mv {ac:Option Addr} {n cc id at_:Nat} {A A':AH} (h:Src ac n cc A id at_) (e:A'.m id=A.m id):Src ac n cc A' id at_:=by
 obtain ⟨sd,h⟩:=h
 exact ⟨sd,e.trans h⟩
theorem DwE.nle {H:AH} {id n:Nat} {S:Ids} {A:AH} (e:DwE H id S A) (h:∀i,S i→i < n):H.n≤n:=by
 rcases Nat.lt_or_ge n H.n with h1 | h1
 ·by_cases e1:n=id
  ·have:=h id e.sid; omega
  ·have:=h n (e.old n ⟨h1,e1⟩).1; omega
 ·exact h1
structure DwS where
 i:Nat
 S:Ids
 A:AH
 at_:Nat
 V:Ids
 G:List (List Int)
 cs:List Value
 o:Nat
structure DwI (q a0:Nat) (H:AH) (id:Nat) (ac:Option Addr) (n cc:Nat) (s:DwS):Prop where
 env:DwE H id s.S s.A
 src:Src ac n cc s.A id s.at_
 at1:s.at_≤a0+20*s.G.length
 lo:1≤s.G.length+s.i
 hi:s.G.length+s.i≤4
 b:RowsB KI.ml s.S s.A s.V s.G s.cs
 v:∀i,s.V i→H.n≤i
 ok:∀g∈s.G,Rises 0 ((q:Int) - 1) g∧g≠[]
structure DiS where
 h:Nat
 S:Ids
 A:AH
 at_:Nat
 xs:List Int
 o:Nat
structure DiI (a0:Nat) (H:AH) (id:Nat) (ac:Option Addr) (n cc:Nat) (V:Ids) (G:List (List Int)) (cs:List Value) (s:DiS):Prop where
 env:DwE H id s.S s.A
 src:Src ac n cc s.A id s.at_
 at1:s.at_≤a0+2*s.h
 b:RowsB KI.ml s.S s.A V G cs
 ok:Rises 0 ((s.h:Int) - 1) s.xs
 len:s.xs.length≤s.h
section
variable {S:Ids} {H0:AH}
end
section
variable {S:Ids} {H0:AH}
theorem srcAmong {bs:List Int} (hb:∀x∈bs,0≤x∧x < 256) (hl:bs.length≤1048576) {ac:Option Addr} {cc id at_:Nat} {Y:Ids} {ls:List Int} {a c} (hn:ls.length≤1000) (hn1:1≤ls.length) (hat:at_≤800000) (hS:S id) (hY:∀i,Y i→S i∧i≠id) (hsrc:Src ac bs.length cc H0 id at_) (hs:KB.Sl Y H0 (.slice ac bs.length cc) bs) (hls:KI.Sl Y H0 (.slice a ls.length c) ls):
  SpecW Try.prog S H0 (fun i=>i=id) 151 [.pointer (some ⟨id,0,none⟩),.slice a ls.length c] (fun _ v H1=>∃(y:Int) (at':Nat),y∈ls∧at_≤at'∧at'≤at_+2∧v=.int .i64 y∧Src ac bs.length cc H1 id at'):=by
 refine SpecW.of0 Try.func151 rfl (by kernel_rfl) rfl (fun H hfin hfz=>?_)
 have fx:∀i,S i→Low H.n i∧H.m i=H0.m i:=fun i hi=>hfz i hi
 have hid:id < H.n:=(fx id hS).1
 have t0:∀i,Y i→(Low H.n i∧i≠id)∧H.m i=H0.m i:=fun i hi=>⟨⟨(fx i (hY i hi).1).1,(hY i hi).2⟩,(fx i (hY i hi).1).2⟩
 have hsH:=hs.stX t0
 have hlH:=hls.stX t0
 have E0:DwE H id (Low H.n) H:=⟨hid,fun i hi=>⟨hi.1,rfl⟩⟩
 refine KW.callW (W:=fun i=>i=id) (fun i hi=>by subst hi; exact E0.sid) rfl rfl rfl rfl rfl (srcPick (S:=Low H.n) (H0:=H) hb hl (n:=(ls.length:Int)) (by omega) (by omega) E0.sid (fun i hi=>hi) (hsrc.mv (fx id hS).2) (E0.kb hsH)) (fun v H1 S1 hn1 st1 hw1 hp=>?_)
 obtain ⟨z1,a1,hz1,l1,u1,rfl,src1⟩:=hp
 have hz1:=hz1 (by omega)
 have E1:=E0.w st1
 refine KW.getI ((hlH.stX (S':=S1) (H':=H1) (fun i hi=>E1.old i hi))) rfl rfl rfl rfl rfl rfl rfl rfl rfl rfl rfl rfl rfl rfl rfl rfl (by omega) (hz1) (fun y hy=>?_)
 refine KW.retW rfl rfl rfl rfl (fun H9 g=>by have:=g.n_; omega) (fun i hi hw=>E1.old i ⟨hi,hw⟩) (fun H9 g=>⟨y,a1,List.mem_of_getElem? hy,l1,u1,rfl,src1.mv (g.froz id E1.sid).2⟩)
end
end Go.Proofs.Ytlapbbffoapleaa.Am
namespace Go.Proofs.Ytlapbbffoapleaa.Am
open Go Go.RowKit Go.Proofs
section
variable {P:Program} {S:Ids} {H0:AH} {Q:PostC} {k k1:List It} {e e1:Env} {T T1:List Var} {n n1:Nat} {l1 r1:List Nat} {d1:Tmp}
theorem KW.appU {o:Oper} {dr:Bool} {t el:TypeId} {x y:Operand} {inf:TypeInfo} {m len id:Nat} {xs ys:List Value} (j:Nat) (h:Go1 P k e T n (.op o dr) k1 e1 T1 n1 l1 r1) (hlr:l1=r1) (ho:o.op=.call {callee:=.builtin .append,args:=#[x,y],argTypes:=#[t,t]}) (hd:o.dst=some d1) (hu:P.underlying t=some (.slice el)) (hi:P.info? el=some inf) (hx:ev e1 x=.slice (some ⟨id,0,some inf.size⟩) len len) (hT:T1[j]?=some (id,⟨el,true,xs⟩))
  (hs:0 < inf.size) (hzo:zeroOkL P el=true) (hxs:xs.length=len*inf.size) (hys:ys.length=m*inf.size) (hy:∀H,Good S H0 T1 n1 H→acells H (ev e1 y) inf.size=some (m,ys)) (hone:ys.all Value.oneCell'=true) (hb:(len+m)*inf.bytes≤140737488355328) (hml:len+m≤9223372036854775807)
  (hk:∀o2 n2,(o2=id∨n1≤o2)→n1≤n2→KW P S H0 Q n2 (T1.set j (o2,⟨el,true,xs++ys⟩)) k1 (put1 e1 d1 (.slice (some ⟨o2,0,some inf.size⟩) (len+m) (len+m)))):KW P S H0 Q n T k e:=by
 by_cases hm:m=0
 ·subst hm
  have hys:ys=[]:=List.eq_nil_of_length_eq_zero (by omega)
  subst hys
  have hk:=hk id n1 (.inl rfl) (Nat.le_refl _)
  rw [List.append_nil,Nat.add_zero] at hk
  have e:T1.set j (id,⟨el,true,xs⟩)=T1:=by
   refine List.ext_getElem? fun i=>?_
   rw [List.getElem?_set]
   split
   ·rename_i e
    subst e
    split
    ·exact hT.symm
    ·rw [List.getElem?_eq_none (by omega)]
   ·rfl
  rw [e] at hk
  exact KW.appZS h hlr ho hd hx (.inl ⟨_,_,_,rfl⟩) hu hi hs hzo hy hk
 ·refine KW.appTS j h hlr ho hd hu hi hx hT hs hzo hy (by omega) hone hm hb hml ?_
  have hk:=hk n1 (n1+1) (.inr (Nat.le_refl _)) (by omega)
  have e:(xs.drop 0).take (len*inf.size)=xs:=by rw [List.drop_zero,← hxs,List.take_length]
  rw [e]
  exact hk
theorem KW.callWF (j:Nat) {f:Operand} {xs:Array Operand} {ts:Array TypeId} {g:FuncId} {first cap:Array Value} {o:Oper} {o2:Nat} {b:Blk} (h:Go1 P k e T n (.op o false) k1 e1 T1 n1 l1 r1) (hlr:l1=r1) (ho:o.op=.call {callee:=.value f,args:=xs,argTypes:=ts}) (hd:o.dst=some d1) (hf:ev e1 f=.func (.func g) first cap) (hj:T1[j]?=some (o2,b))
  (hk:∀(A':AH) (S':Ids),A'.n=n1→(∀id,S' id↔S id∨id=o2)→Stp S H0 S' A'→A'.m o2=some b→o2 < n1→¬S o2→(∀id,S id→id < n1)→∃(W:Ids) (post:Nat→Value→AH→Prop),(∀id,W id→S' id)∧SpecW P S' A' W g (cargs e1 first cap xs) post∧∀v H1 (S'':Ids),n1≤H1.n→StW W S' A' S'' H1→(∀id,New n1 H1.n id→S'' id)→post n1 v H1→KW P S'' H1 Q H1.n (T1.take j) k1 (put1 e1 d1 (untag v))):KW P S H0 Q n T k e:=by
 refine KW.go h hlr (fun H gd=>?_)
 replace gd:Good S H0 T1 n1 H:=gd
 have hv:=gd.vars j _ hj
 have get:∀{i:Nat} {u:Var},(T1.take j)[i]?=some u→i < j∧T1[i]?=some u:=fun {i u} hi=>by
  rw [List.getElem?_take] at hi
  split at hi
  ·exact ⟨by assumption,hi⟩
  ·cases hi
 obtain ⟨S2,hS2⟩:∃S2:Ids,S2=fun id=>S id∨id=o2:=⟨_,rfl⟩
 obtain ⟨W,post,hW,hs,hk⟩:=hk H S2 gd.n_ (fun id=>by rw [hS2]) ⟨fun id hid=>⟨by rw [hS2]; exact .inl hid,(gd.froz id hid).2⟩⟩ hv.1 hv.2.1 hv.2.2 (fun id hid=>(gd.froz id hid).1)
 have gd:Good S2 H (T1.take j) n1 H:=by
  subst hS2
  refine ⟨gd.n_,gd.fin,fun id hid=>⟨?_,rfl⟩,fun i u hi=>?_,fun i1 i2 u w h1 h2 he=>gd.dist i1 i2 u w (get h1).2 (get h2).2 he⟩
  ·rcases hid with hid | rfl
   ·exact (gd.froz id hid).1
   ·exact hv.2.1
  ·obtain ⟨h1,h2⟩:=get hi
   have h3:=gd.vars i u h2
   refine ⟨h3.1,h3.2.1,fun h=>?_⟩
   rcases h with h | h
   ·exact h3.2.2 h
   ·have:=gd.dist i j u _ h2 hj h; omega
 clear get hv
 clear hS2
 obtain ⟨m,v,H1,h1,hx1,hx2,hfin,hp⟩:=hs H gd.fin gd.fz
 have hn:H.n=n1:=gd.n_
 have e:untags (first++aargs e1 xs++cap)=(cargs e1 first cap xs).toArray:=by
  apply Array.ext'
  simp [aargs,untags,cargs]
 refine ⟨m,untag v,H1,?_,?_⟩
 ·rw [ho]
  simp only [evOp,evCall,hf]
  exact ⟨v,rfl,by rw [e]; exact h1,fun h=>by cases h⟩
 ·rw [hn] at hp
  rw [hd,put1_eq]
  refine hk v H1 (fun id=>S2 id∨New n1 H1.n id) (by rw [← hn]; exact hx1) (fun id hid=>⟨.inl hid,fun hw=>?_⟩) (fun id hid=>.inr hid) hp H1 ?_
  ·obtain ⟨h2,h3⟩:=gd.froz id hid
   rw [hx2 id (by omega) hw]
  ·refine ⟨rfl,hfin,fun id hid=>⟨?_,rfl⟩,fun j w hj=>?_,gd.dist⟩
   ·rcases hid with hid | hid
    ·have:=(gd.froz id hid).1; omega
    ·exact hid.2
   ·obtain ⟨h2,h3,h4⟩:=gd.vars j w hj
    refine ⟨by rw [hx2 _ (by omega) (fun hw=>h4 (hW _ hw))]; exact h2,by omega,fun hh=>?_⟩
    rcases hh with hh | hh
    ·exact h4 hh
    ·have:=hh.1; omega
end
theorem SpecW.of0R {P:Program} {S:Ids} {H0:AH} {W:Ids} (Z:List Nat) {f:FuncId} {fn:Func} {c:Code} {args:List Value} {post:Nat→Value→AH→Prop} (hf:P.funcs[f]?=some fn) (hb:fn.body=some c) (hok:fnOk fn=true) (hst:stC (relab Z c)=true) (hs:Nat.ble args.length fn.ntmps=true)
  (h:∀H,Fin' H→Fz S H0 H→KW P (Low H.n) H (Fin1 P fn (fun v H1=>H.n≤H1.n∧(∀id,id < H.n→¬W id→H1.m id=H.m id)∧Fin' H1∧post H.n v H1)) H.n [] [.code (relab Z c)] (fun t=>args.getD t undef)):SpecW P S H0 W f args post:=by
 intro H hfin hfz
 refine Run.of hf hb hok (by simpa using Nat.le_of_ble_eq_true hs) ?_
 rw [envL_eq]
 exact ((h H hfin hfz).wc hst (Good.start hfin)).relab
theorem SpecW.of0P {P:Program} {S:Ids} {H0:AH} {W:Ids} (M:List (Nat × List Nat)) (Z:List Nat) {f:FuncId} {fn:Func} {c:Code} {args:List Value} {post:Nat→Value→AH→Prop} (hf:P.funcs[f]?=some fn) (hb:fn.body=some c) (hok:fnOk fn=true) (hsh:shufOk M c=true) (hst:stC (relab Z (shufC M c))=true) (hs:Nat.ble args.length fn.ntmps=true)
  (h:∀H,Fin' H→Fz S H0 H→KW P (Low H.n) H (Fin1 P fn (fun v H1=>H.n≤H1.n∧(∀id,id < H.n→¬W id→H1.m id=H.m id)∧Fin' H1∧post H.n v H1)) H.n [] [.code (relab Z (shufC M c))] (fun t=>args.getD t undef)):SpecW P S H0 W f args post:=by
 intro H hfin hfz
 refine Run.of hf hb hok (by simpa using Nat.le_of_ble_eq_true hs) ?_
 rw [envL_eq]
 exact (((h H hfin hfz).wc hst (Good.start hfin)).relab).shuf hsh
section
variable {P:Program} {S:Ids} {H0:AH} {Q:PostC} {k k1:List It} {e e1:Env} {T T1:List Var} {n n1:Nat} {l1 r1:List Nat} {d1:Tmp}
def AllW (S W:Ids) (T:List Var) (e:Env):List Tmp→Prop
 | []=>True
 | u :: L=>((∃(i:Nat) (b:Blk) (id k:Nat) (s:Option Nat),e u=.pointer (some ⟨id,k,s⟩)∧T[i]?=some (id,b))∨∃(id k:Nat) (s:Option Nat),e u=.pointer (some ⟨id,k,s⟩)∧S id∧¬W id)∧AllW S W T e L
theorem KW.callWL {f:Operand} {xs:Array Operand} {ts:Array TypeId} {g:FuncId} {first cap:Array Value} {o:Oper} {W:Ids} {L:List Tmp} {post:Nat→Value→AH→Prop} (hW:∀id,W id→S id) (h:Go1 P k e T n (.opL o false L) k1 e1 T1 n1 l1 r1) (hlr:l1=r1) (ho:o.op=.call {callee:=.value f,args:=xs,argTypes:=ts}) (hd:o.dst=some d1) (hf:ev e1 f=.func (.func g) first cap) (hL:AllW S W T1 e1 L)
  (hs:SpecW P S H0 W g (cargs e1 first cap xs) post)
  (hk:∀v H1 (S':Ids),n1≤H1.n→StW W S H0 S' H1→(∀id,New n1 H1.n id→S' id)→post n1 v H1→KW P S' H1 Q H1.n T1 k1 (put1 e1 d1 (untag v))):KW P S H0 Q n T k e:=by
 refine KW.go h hlr (fun H gd=>?_)
 replace gd:Good S H0 T1 n1 H:=gd
 obtain ⟨m,v,H1,h1,hx1,hx2,hfin,hp⟩:=hs H gd.fin gd.fz
 have hn:H.n=n1:=gd.n_
 have e:untags (first++aargs e1 xs++cap)=(cargs e1 first cap xs).toArray:=by
  apply Array.ext'
  simp [aargs,untags,cargs]
 refine ⟨m,untag v,H1,?_,?_,?_⟩
 ·rw [ho]
  simp only [evOp,evCall,hf]
  exact ⟨v,rfl,by rw [e]; exact h1,fun h=>by cases h⟩
 ·have hAll:∀(L:List Tmp),AllW S W T1 e1 L→∀t∈L,∀id k s,e1 t=.pointer (some ⟨id,k,s⟩)→H1.m id=H.m id:=by
   intro L
   induction L with
   | nil=>intro _ t ht; cases ht
   | cons u L ih=>
    intro hL t ht id k s he
    rcases List.mem_cons.1 ht with rfl | ht
    ·rcases hL.1 with ⟨i,b,id',k',s',h1,h2⟩ | ⟨id',k',s',h1,h2,h3⟩
     ·rw [h1] at he
      cases he
      have hv:=gd.vars i _ h2
      exact hx2 _ (by omega) (fun hw=>hv.2.2 (hW _ hw))
     ·rw [h1] at he
      cases he
      exact hx2 _ (by have:=(gd.froz _ h2).1; omega) h3
    ·exact ih hL.2 t ht id k s he
  exact hAll L hL
 ·rw [hn] at hp
  rw [hd,put1_eq]
  refine hk v H1 (fun id=>S id∨New n1 H1.n id) (by rw [← hn]; exact hx1) (fun id hid=>⟨.inl hid,fun hw=>?_⟩) (fun id hid=>.inr hid) hp H1 ?_
  ·obtain ⟨h2,h3⟩:=gd.froz id hid
   rw [hx2 id (by omega) hw,h3]
  ·refine ⟨rfl,hfin,fun id hid=>⟨?_,rfl⟩,fun j w hj=>?_,gd.dist⟩
   ·rcases hid with hid | hid
    ·have:=(gd.froz id hid).1; omega
    ·exact hid.2
   ·obtain ⟨h2,h3,h4⟩:=gd.vars j w hj
    refine ⟨by rw [hx2 _ (by omega) (fun hw=>h4 (hW _ hw))]; exact h2,by omega,fun hh=>?_⟩
    rcases hh with hh | hh
    ·exact h4 hh
    ·have:=hh.1; omega
end
structure SrcB (bs:List Int) (ac:Option Addr) (cc id:Nat) (Y S:Ids) (A:AH) (B:Nat):Prop where
 hb:∀x∈bs,0≤x∧x < 256
 hl:bs.length≤1048576
 sid:S id
 y:∀i,Y i→S i∧i≠id
 src:∃at_,at_≤B∧Src ac bs.length cc A id at_
 kb:KB.Sl Y A (.slice ac bs.length cc) bs
section
variable {bs:List Int} {ac:Option Addr} {cc id B B':Nat} {Y W S S':Ids} {A A':AH}
theorem SrcB.w (h:SrcB bs ac cc id Y S A B) (st:StW W S A S' A') (hW:∀i,Y i→¬W i) (hs:∃at_,at_≤B'∧Src ac bs.length cc A' id at_):SrcB bs ac cc id Y S' A' B':=
 ⟨h.hb,h.hl,(st id h.sid).1,fun i hi=>⟨(st i (h.y i hi).1).1,(h.y i hi).2⟩,hs,h.kb.stX (fun i hi=>⟨hi,(st i (h.y i hi).1).2 (hW i hi)⟩)⟩
theorem SrcB.s (h:SrcB bs ac cc id Y S A B) (st:St S A S' A') (hB:B≤B'):SrcB bs ac cc id Y S' A' B':=
 ⟨h.hb,h.hl,(st id h.sid).1,fun i hi=>⟨(st i (h.y i hi).1).1,(h.y i hi).2⟩,by obtain ⟨q,h1,h2⟩:=h.src; exact ⟨q,by omega,h2.mv (st id h.sid).2⟩,h.kb.stX (fun i hi=>⟨hi,(st i (h.y i hi).1).2⟩)⟩
theorem SrcB.w1 (h:SrcB bs ac cc id Y S A B) (st:StW (fun i=>i=id) S A S' A') (hs:∃at_,at_≤B'∧Src ac bs.length cc A' id at_):SrcB bs ac cc id Y S' A' B':=h.w st (fun i hi e=>(h.y i hi).2 e) hs
end
structure GwE (H:AH) (W:Ids) (S:Ids) (A:AH):Prop where
 wid:∀i,W i→S i
 old:∀i,i < H.n→¬W i→S i∧A.m i=H.m i
theorem GwE.w {H:AH} {W W' S S':Ids} {A A':AH} (e:GwE H W S A) (st:StW W' S A S' A') (hW:∀i,W' i→W i∨H.n≤i):GwE H W S' A':=
 ⟨fun i hi=>(st i (e.wid i hi)).1,fun i h1 h2=>⟨(st i (e.old i h1 h2).1).1,((st i (e.old i h1 h2).1).2 (fun hh=>by rcases hW i hh with h | h; exact h2 h; omega)).trans (e.old i h1 h2).2⟩⟩
theorem GwE.s {H:AH} {W S S':Ids} {A A':AH} (e:GwE H W S A) (st:St S A S' A'):GwE H W S' A':=
 ⟨fun i hi=>(st i (e.wid i hi)).1,fun i h1 h2=>⟨(st i (e.old i h1 h2).1).1,((st i (e.old i h1 h2).1).2).trans (e.old i h1 h2).2⟩⟩
section
variable {S:Ids} {H0:AH} {bs:List Int} {ac:Option Addr} {cc id B:Nat} {Y:Ids}
theorem pickB {n:Int} (h:SrcB bs ac cc id Y S H0 B) (hB:B≤900000) (hn:n≤1000000):SpecW Try.prog S H0 (fun i=>i=id) 80 [.pointer (some ⟨id,0,none⟩),.int .i64 n] (fun _ v H1=>∃z:Nat,(1≤n→(z:Int) < n)∧v=.int .i64 z∧∃at_,at_≤B+2∧Src ac bs.length cc H1 id at_):=fun H hf hz=>by
 obtain ⟨q,h1,h2⟩:=h.src
 obtain ⟨m,v,H1,k1,k2,k3,k4,z,at',k5,k6,k7,k8,k9⟩:=srcPick h.hb h.hl hn (show q≤900000 by omega) h.sid h.y h2 h.kb H hf hz
 exact ⟨m,v,H1,k1,k2,k3,k4,z,k5,k8,at',by omega,k9⟩
theorem oneB {n:Int} (h:SrcB bs ac cc id Y S H0 B) (hB:B≤900000) (hn:n≤1000000):SpecW Try.prog S H0 (fun i=>i=id) 75 [.pointer (some ⟨id,0,none⟩),.int .i64 n] (fun _ v H1=>∃b:Bool,v=.bool b∧∃at_,at_≤B+2∧Src ac bs.length cc H1 id at_):=fun H hf hz=>by
 obtain ⟨q,h1,h2⟩:=h.src
 obtain ⟨m,v,H1,k1,k2,k3,k4,b,at',k6,k7,k8,k9⟩:=srcOne h.hb h.hl hn (show q≤900000 by omega) h.sid h.y h2 h.kb H hf hz
 exact ⟨m,v,H1,k1,k2,k3,k4,b,k8,at',by omega,k9⟩
theorem built_Leaf (h:Int):Try.prog.built 206 [(0,.int .i64 h)]=some #[.int .i64 h,.int .i64 0,.slice none 0 0]:=by kernel_rfl
theorem built_Gate (h l:Int) (a:Option Addr) (n c:Nat):Try.prog.built 206 [(0,.int .i64 h),(1,.int .i64 l),(2,.slice a n c)]=some #[.int .i64 h,.int .i64 l,.slice a n c]:=by kernel_rfl
theorem l02Leaf (h:Int):Spec Try.prog S H0 238 [.int .i64 h] (fun v=>v=.agg #[.int .i64 h,.int .i64 0,.slice none 0 0]):=by
 refine Spec.of1 Try.func238 rfl (by kernel_rfl) rfl (fun H _=>?_)
 refine KW.build rfl rfl rfl rfl rfl (built_Leaf _) ?_
 exact KW.ret rfl rfl rfl rfl (rfl)
theorem l02Gate (l:Int) (a:Option Addr) (n c:Nat):Spec Try.prog S H0 249 [.int .i64 l,.slice a n c] (fun v=>v=.agg #[.int .i64 (-1),.int .i64 l,.slice a n c]):=by
 refine Spec.of1 Try.func249 rfl (by kernel_rfl) rfl (fun H _=>?_)
 refine KW.build rfl rfl rfl rfl rfl (built_Gate _ _ _ _ _) ?_
 exact KW.ret rfl rfl rfl rfl (rfl)
end
def lcG:Nat→Nat
 | 0=>1
 | d+1=>1+4*lcG d
def scG:Nat→Nat
 | 0=>4
 | d+1=>8+4*scG d
theorem rg_leaf {S:Ids} {A:AH} {h:Int}:∀d,RG d S A (.mk h 0 []) [.int .i64 h,.int .i64 0,.slice none 0 0]
 | 0=>⟨rfl,none,0,rfl,fun _=>rfl⟩
 | d+1=>⟨_,rfl,.inl ⟨rfl,none,0,rfl,fun _=>rfl⟩⟩
theorem gf_leaf {n h:Int} (h0:0≤h) (h1:h < n):∀d,GF n d (.mk h 0 [])
 | 0=>⟨rfl,rfl,h0,h1⟩
 | d+1=>.inl ⟨rfl,rfl,h0,h1⟩
def GrP (n:Int) (d:Nat) (bs:List Int) (ac:Option Addr) (cc id lid B:Nat) (left:Int) (m:Nat) (v:Value) (H1:AH):Prop:=
 ∃(g:Gt) (cs:List Value),v=.agg cs.toArray∧RG d (New m H1.n) H1 g cs∧GF n d g∧(∃at_,at_≤B+scG d∧Src ac bs.length cc H1 id at_)∧∃l':Int,H1.m lid=some ⟨2,true,[.int .i64 l']⟩∧left - lcG d≤l'∧l'≤100
structure GrS where
 m:Nat
 G:List Gt
 S:Ids
 A:AH
 V:Ids
 o:Nat
 cs:List Value
 lf:Int
structure GrI (n:Int) (d:Nat) (bs:List Int) (ac:Option Addr) (cc id lid:Nat) (Y:Ids) (B:Nat) (left:Int) (H:AH) (s:GrS):Prop where
 le:s.G.length+s.m≤4
 ge:1≤s.G.length+s.m
 src:SrcB bs ac cc id Y s.S s.A (B+4+s.G.length*scG d)
 E:GwE H (fun i=>i=id∨i=lid) s.S s.A
 lS:s.S lid
 lm:s.A.m lid=some ⟨2,true,[.int .i64 s.lf]⟩
 l1:left - 1 - (s.G.length*lcG d:Nat)≤s.lf
 l2:s.lf≤100
 cl:Cl (KG d) s.V s.A s.G s.cs
 cl3:s.cs.length=s.G.length*3
 v:∀i,s.V i→s.S i∧H.n≤i
 gf:∀g∈s.G,GF n d g
section
variable {bs:List Int} {ac:Option Addr} {cc id lid:Nat} {Y:Ids} {N:Int}
theorem l02Grown (hN:1≤N∧N≤7) (hid:id≠lid) (hYl:∀i,Y i→i≠lid):∀(d:Nat) {S:Ids} {H0:AH} {B:Nat} {left:Int},d≤4→SrcB bs ac cc id Y S H0 B→B+scG d≤800000→S lid→H0.m lid=some ⟨2,true,[.int .i64 left]⟩→(-100000≤left - lcG d∧left≤100)→
  SpecW Try.prog S H0 (fun i=>i=id∨i=lid) 236 [.pointer (some ⟨id,0,none⟩),.int .i64 N,.int .i64 d,.pointer (some ⟨lid,0,none⟩)] (GrP N d bs ac cc id lid B left):=by
 intro d
 induction d with
 | zero=>
  intro S H0 B left hd hsrc hB hlS hlm hlb
  simp only [scG,lcG] at hB hlb
  refine SpecW.of0 Try.func236 rfl (by kernel_rfl) rfl (fun H hfin hfz=>?_)
  have SB0:SrcB bs ac cc id Y (Low H.n) H B:=hsrc.s (fun i hi=>hfz i hi) (Nat.le_refl _)
  have hlL:lid < H.n:=(hfz lid hlS).1
  have hlm0:H.m lid=some ⟨2,true,[.int .i64 left]⟩:=(hfz lid hlS).2.trans hlm
  have hL:Has3 (Low H.n) H lid 0 [.int .i64 left]:=⟨hlL,_,hlm0,fun i v hv=>by rw [Nat.zero_add]; exact hv⟩
  have E0:GwE H (fun i=>i=id∨i=lid) (Low H.n) H:=⟨fun i hi=>by rcases hi with h | h; rw [h]; exact SB0.sid; rw [h]; exact hlL,fun i h _=>⟨h,rfl⟩⟩
  have ew:IntKind.i64.wrap (left - 1)=left - 1:=wr (by omega) (by omega)
  refine KW.ldF 0 hL rfl rfl rfl rfl rfl rfl rfl rfl rfl ?_
  refine KW.thaw lid _ hlL hlm0 ?_
  refine KW.st1 1 rfl rfl rfl rfl rfl rfl rfl rfl rfl rfl rfl rfl (by simp) ?_
  refine KW.freeze 1 rfl (fun A1 S1 hn1 hS1 st1 hm1 hlt1 hno1 hlow1=>?_)
  have w01:StW (fun i=>i=lid) (Low H.n) H S1 A1:=fun i hi=>by
   by_cases e:i=lid
   ·exact ⟨(hS1 i).2 (.inr e),fun hh=>absurd e hh⟩
   ·exact ⟨(st1.st i ⟨hi,e⟩).1,fun _=>(st1.st i ⟨hi,e⟩).2⟩
  have hlm1:A1.m lid=some ⟨2,true,[.int .i64 (left - 1)]⟩:=by
   have h:A1.m lid=some ⟨2,true,[.int .i64 (IntKind.i64.wrap (left - 1))]⟩:=hm1
   rw [ew] at h
   exact h
  have hl1S:S1 lid:=(hS1 _).2 (.inr rfl)
  have SB1:SrcB bs ac cc id Y S1 A1 B:=SB0.w w01 (fun i hi e=>hYl i hi e) (by obtain ⟨q,h1,h2⟩:=SB0.src; exact ⟨q,h1,h2.mv ((w01 id SB0.sid).2 hid)⟩)
  have E1:=E0.w w01 (fun i hi=>.inl (.inr hi))
  have hL1:Has3 S1 A1 lid 0 [.int .i64 (left - 1)]:=⟨hl1S,_,hlm1,fun i v hv=>by rw [Nat.zero_add]; exact hv⟩
  refine KW.tyes rfl rfl (by decide) ?_
  repeat first | refine KW.tT rfl rfl rfl ?_ | refine KW.tF rfl rfl rfl ?_
  refine KW.cT rfl rfl (by first | (simp; done) | decide) ?_
  ·have SX:=SB1
   have EX:=E1
   have hlSX:=hl1S
   have hlmX:=hlm1
   refine KW.callW (W:=fun i=>i=id) (fun i hi=>by subst hi; exact SX.sid) rfl rfl rfl rfl rfl (pickB (n:=N) SX (by omega) (by omega)) (fun v H7 S7 n7 st7 w7 hv7=>?_)
   obtain ⟨z7,hz7,rfl,src7⟩:=hv7
   have hz7:=hz7 (by omega)
   have E7:=EX.w st7 (fun i hi=>.inl (.inl hi))
   have hlm7:H7.m lid=some ⟨2,true,[.int .i64 (left - 1)]⟩:=((st7 lid hlSX).2 (fun e=>hid e.symm)).trans hlmX
   refine KW.callE rfl rfl rfl rfl rfl (l02Leaf (z7:Int)) (fun _ _=>?_)
   refine KW.retW rfl rfl rfl rfl (fun H9 g=>by have:=(g.vars 0 _ rfl).2.1; have:=g.n_; omega) (fun i h1 h2=>E7.old i h1 h2) (fun H9 g=>?_)
   obtain ⟨q7,u7,src7⟩:=src7
   exact ⟨.mk z7 0 [],_,rfl,rg_leaf _,gf_leaf (Int.natCast_nonneg _) hz7 _,⟨q7,by simp only [scG]; omega,src7.mv (g.froz id (st7 id SX.sid).1).2⟩,left - 1,(g.froz lid (st7 lid hlSX).1).2.trans hlm7,by simp only [lcG]; omega,by omega⟩
 | succ d ih=>
  intro S H0 B left hd hsrc hB hlS hlm hlb
  have hsc:4≤scG d:=by cases d <;> simp only [scG] <;> omega
  simp only [scG,lcG] at hB hlb
  refine SpecW.of0 Try.func236 rfl (by kernel_rfl) rfl (fun H hfin hfz=>?_)
  have SB0:SrcB bs ac cc id Y (Low H.n) H B:=hsrc.s (fun i hi=>hfz i hi) (Nat.le_refl _)
  have hlL:lid < H.n:=(hfz lid hlS).1
  have hlm0:H.m lid=some ⟨2,true,[.int .i64 left]⟩:=(hfz lid hlS).2.trans hlm
  have hL:Has3 (Low H.n) H lid 0 [.int .i64 left]:=⟨hlL,_,hlm0,fun i v hv=>by rw [Nat.zero_add]; exact hv⟩
  have E0:GwE H (fun i=>i=id∨i=lid) (Low H.n) H:=⟨fun i hi=>by rcases hi with h | h; rw [h]; exact SB0.sid; rw [h]; exact hlL,fun i h _=>⟨h,rfl⟩⟩
  have ew:IntKind.i64.wrap (left - 1)=left - 1:=wr (by omega) (by omega)
  refine KW.ldF 0 hL rfl rfl rfl rfl rfl rfl rfl rfl rfl ?_
  refine KW.thaw lid _ hlL hlm0 ?_
  refine KW.st1 1 rfl rfl rfl rfl rfl rfl rfl rfl rfl rfl rfl rfl (by simp) ?_
  refine KW.freeze 1 rfl (fun A1 S1 hn1 hS1 st1 hm1 hlt1 hno1 hlow1=>?_)
  have w01:StW (fun i=>i=lid) (Low H.n) H S1 A1:=fun i hi=>by
   by_cases e:i=lid
   ·exact ⟨(hS1 i).2 (.inr e),fun hh=>absurd e hh⟩
   ·exact ⟨(st1.st i ⟨hi,e⟩).1,fun _=>(st1.st i ⟨hi,e⟩).2⟩
  have hlm1:A1.m lid=some ⟨2,true,[.int .i64 (left - 1)]⟩:=by
   have h:A1.m lid=some ⟨2,true,[.int .i64 (IntKind.i64.wrap (left - 1))]⟩:=hm1
   rw [ew] at h
   exact h
  have hl1S:S1 lid:=(hS1 _).2 (.inr rfl)
  have SB1:SrcB bs ac cc id Y S1 A1 B:=SB0.w w01 (fun i hi e=>hYl i hi e) (by obtain ⟨q,h1,h2⟩:=SB0.src; exact ⟨q,h1,h2.mv ((w01 id SB0.sid).2 hid)⟩)
  have E1:=E0.w w01 (fun i hi=>.inl (.inr hi))
  have hL1:Has3 S1 A1 lid 0 [.int .i64 (left - 1)]:=⟨hl1S,_,hlm1,fun i v hv=>by rw [Nat.zero_add]; exact hv⟩
  refine KW.tno rfl rfl (by omega) ?_
  refine KW.ldF 0 hL1 rfl rfl rfl rfl rfl rfl rfl rfl rfl ?_
  refine KW.tst rfl rfl (fun k1=>?_) (fun k1=>?_)
  ·repeat first | refine KW.tT rfl rfl rfl ?_ | refine KW.tF rfl rfl rfl ?_
   refine KW.cT rfl rfl (by first | (simp; done) | decide) ?_
   have SX:=SB1
   have EX:=E1
   have hlSX:=hl1S
   have hlmX:=hlm1
   refine KW.callW (W:=fun i=>i=id) (fun i hi=>by subst hi; exact SX.sid) rfl rfl rfl rfl rfl (pickB (n:=N) SX (by omega) (by omega)) (fun v H7 S7 n7 st7 w7 hv7=>?_)
   obtain ⟨z7,hz7,rfl,src7⟩:=hv7
   have hz7:=hz7 (by omega)
   have E7:=EX.w st7 (fun i hi=>.inl (.inl hi))
   have hlm7:H7.m lid=some ⟨2,true,[.int .i64 (left - 1)]⟩:=((st7 lid hlSX).2 (fun e=>hid e.symm)).trans hlmX
   refine KW.callE rfl rfl rfl rfl rfl (l02Leaf (z7:Int)) (fun _ _=>?_)
   refine KW.retW rfl rfl rfl rfl (fun H9 g=>by have:=(g.vars 0 _ rfl).2.1; have:=g.n_; omega) (fun i h1 h2=>E7.old i h1 h2) (fun H9 g=>?_)
   obtain ⟨q7,u7,src7⟩:=src7
   exact ⟨.mk z7 0 [],_,rfl,rg_leaf _,gf_leaf (Int.natCast_nonneg _) hz7 _,⟨q7,by simp only [scG]; omega,src7.mv (g.froz id (st7 id SX.sid).1).2⟩,left - 1,(g.froz lid (st7 lid hlSX).1).2.trans hlm7,by simp only [lcG]; omega,by omega⟩
  refine KW.callW (W:=fun i=>i=id) (fun i hi=>by subst hi; exact SB1.sid) rfl rfl rfl rfl rfl (oneB (n:=3) SB1 (by omega) (by omega)) (fun v H2 S2 n2 st2 w2 hv2=>?_)
  obtain ⟨b2,rfl,src2⟩:=hv2
  have SB2:=SB1.w1 st2 src2
  have E2:=E1.w st2 (fun i hi=>.inl (.inl hi))
  have hl2S:=(st2 lid hl1S).1
  have hlm2:H2.m lid=some ⟨2,true,[.int .i64 (left - 1)]⟩:=((st2 lid hl1S).2 (fun e=>hid e.symm)).trans hlm1
  refine KW.cndB rfl rfl (fun k2=>?_) (fun k2=>?_)
  ·have SX:=SB2
   have EX:=E2
   have hlSX:=hl2S
   have hlmX:=hlm2
   refine KW.callW (W:=fun i=>i=id) (fun i hi=>by subst hi; exact SX.sid) rfl rfl rfl rfl rfl (pickB (n:=N) SX (by omega) (by omega)) (fun v H7 S7 n7 st7 w7 hv7=>?_)
   obtain ⟨z7,hz7,rfl,src7⟩:=hv7
   have hz7:=hz7 (by omega)
   have E7:=EX.w st7 (fun i hi=>.inl (.inl hi))
   have hlm7:H7.m lid=some ⟨2,true,[.int .i64 (left - 1)]⟩:=((st7 lid hlSX).2 (fun e=>hid e.symm)).trans hlmX
   refine KW.callE rfl rfl rfl rfl rfl (l02Leaf (z7:Int)) (fun _ _=>?_)
   refine KW.retW rfl rfl rfl rfl (fun H9 g=>by have:=(g.vars 0 _ rfl).2.1; have:=g.n_; omega) (fun i h1 h2=>E7.old i h1 h2) (fun H9 g=>?_)
   obtain ⟨q7,u7,src7⟩:=src7
   exact ⟨.mk z7 0 [],_,rfl,rg_leaf _,gf_leaf (Int.natCast_nonneg _) hz7 _,⟨q7,by simp only [scG]; omega,src7.mv (g.froz id (st7 id SX.sid).1).2⟩,left - 1,(g.froz lid (st7 lid hlSX).1).2.trans hlm7,by simp only [lcG]; omega,by omega⟩
  refine KW.litS0 rfl rfl rfl rfl rfl rfl rfl rfl rfl rfl ?_
  refine KW.callW (W:=fun i=>i=id) (fun i hi=>by subst hi; exact SB2.sid) rfl rfl rfl rfl rfl (pickB (n:=4) SB2 (by omega) (by omega)) (fun v H3 S3 n3 st3 w3 hv3=>?_)
  obtain ⟨z3,hz3,rfl,src3⟩:=hv3
  have hz3:=hz3 (by omega)
  have SB3:=SB2.w1 st3 src3
  have E3:=E2.w st3 (fun i hi=>.inl (.inl hi))
  have hl3S:=(st3 lid hl2S).1
  have hlm3:H3.m lid=some ⟨2,true,[.int .i64 (left - 1)]⟩:=((st3 lid hl2S).2 (fun e=>hid e.symm)).trans hlm2
  have e1z:IntKind.i64.wrap (1+(z3:Int))=((1+z3:Nat):Int):=by rw [wr (by omega) (by omega)]; omega
  have hidL:id < H.n:=SB0.sid
  refine KW.lpM rfl rfl (fun s:GrS=>[(0,.pointer (some ⟨id,0,none⟩)),(1,.int .i64 N),(2,.int .i64 (d+1:Nat)),(3,.pointer (some ⟨lid,0,none⟩)),(8,.pointer (some ⟨H.n,0,some 0⟩)),(9,.slice (some ⟨s.o,0,some 3⟩) s.G.length s.G.length),(10,.int .i64 s.m)]) (fun s=>s.S) (fun s=>s.A) (fun s=>[(H.n,⟨206,true,[.int .i64 0,.int .i64 0,.slice none 0 0]⟩),(s.o,⟨206,true,s.cs⟩)]) (fun s=>GrI N d bs ac cc id lid Y B left H s) (fun s=>s.m) (⟨1+z3,[],S3,H3,fun _=>False,_,[],left - 1⟩) (⟨by simp only [List.length_nil]; omega,by simp only [List.length_nil]; omega,SB3.s (fun i hi=>⟨hi,rfl⟩) (by simp only [List.length_nil]; omega),E3,hl3S,hlm3,by simp only [List.length_nil]; omega,by simp only; omega,Cl.nil _ _ _ _,rfl,fun _ h=>h.elim,fun g hg=>by cases hg⟩) ⟨rfl,rfl,rfl,rfl,rfl,rfl,congrArg (Value.int .i64) e1z,trivial⟩ rfl rfl (rfl) (fun s hi bE n=>?_)
  obtain ⟨m,G,S4,A4,V,o,cs,lf⟩:=s
  refine KW.fact (p:=H.n < n) (fun H1 g=>(g.vars 0 _ rfl).2.1) (fun hfn=>?_)
  obtain ⟨ile,ige,SB4,E4,l4S,lm4,b41,b42,cl4,cl3,hV,gf⟩:=hi
  simp only at ile ige SB4 E4 l4S lm4 b41 b42 cl4 cl3 hV gf
  have hmul:G.length*scG d≤4*scG d:=Nat.mul_le_mul_right _ (by omega)
  have hmul2:G.length*lcG d≤4*lcG d:=Nat.mul_le_mul_right _ (by omega)
  have hVW:∀i,V i→¬(i=id∨i=lid):=fun i hi hh=>by have:=(hV i hi).2; rcases hh with h | h <;> omega
  refine KW.cnd rfl rfl (fun k4=>?_) (fun k4=>?_)
  ·have k4:(m:Int) > 0:=k4
   have hG3:(G.length+1)*scG d=G.length*scG d+scG d:=Nat.succ_mul _ _
   have hG4:(G.length+1)*lcG d=G.length*lcG d+lcG d:=Nat.succ_mul _ _
   have hG5:(G.length+1)*scG d≤4*scG d:=Nat.mul_le_mul_right _ (by omega)
   have hG6:(G.length+1)*lcG d≤4*lcG d:=Nat.mul_le_mul_right _ (by omega)
   have ed:IntKind.i64.wrap (((d+1:Nat):Int) - 1)=(d:Int):=by rw [wr (by omega) (by omega)]; omega
   have key:=ih (S:=S4) (H0:=A4) (B:=B+4+G.length*scG d) (left:=lf) (by omega) SB4 (by omega) l4S lm4 ⟨by omega,b42⟩
   rw [← ed] at key
   refine KW.callW (W:=fun i=>i=id∨i=lid) (fun i hi=>E4.wid i hi) rfl rfl rfl rfl rfl key (fun v H5 S5 n5 st5 w5 hv5=>?_)
   obtain ⟨g5,cs5,rfl,hR5,hg5,src5,l5,hlm5,b51,b52⟩:=hv5
   obtain ⟨ag,cg,rfl,_⟩:=hR5.form
   refine KW.litS1 rfl rfl rfl rfl rfl rfl rfl rfl rfl rfl rfl rfl ?_
   refine KW.appTS (m:=1) (ys:=[.int .i64 g5.h,.int .i64 g5.l,.slice ag g5.ks.length cg]) 1 rfl rfl rfl rfl rfl rfl rfl rfl (by decide) rfl (fun H1 g=>acells_seg (g.blk (j:=2) rfl).1 (by show 0+1*3≤3; decide)) (by show 0+G.length*3≤cs.length; omega) rfl (by decide) (by show (G.length+1)*40≤_; omega) (by show G.length+1≤_; omega) ?_
   have clm:Cl (KG d) (fun i=>V i∨New n H5.n i) H5 G cs:=cl4.mv (fun i hi=>(st5 i (hV i hi).1).2 (hVW i hi)) (fun i hi=>.inl hi)
   have cln:=clm.snoc (y:=g5) ((KG d).more (fun i hi=>.inr hi) hR5)
   have inv5:∀o9,GrI N d bs ac cc id lid Y B left H ⟨m - 1,G++[g5],S5,H5,fun i=>V i∨New n H5.n i,o9,(cs.drop 0).take (G.length*3)++([.int .i64 g5.h,.int .i64 g5.l,.slice ag g5.ks.length cg]:List Value),l5⟩:=fun o9=>by
    refine ⟨by simp only [List.length_append,List.length_singleton]; omega,by simp only [List.length_append,List.length_singleton]; omega,?_,E4.w st5 (fun i hi=>.inl hi),(st5 lid l4S).1,hlm5,?_,b52,cln,?_,fun i hi=>?_,fun g hg=>?_⟩
    ·refine SB4.w st5 (fun i hi hh=>hh.elim (SB4.y i hi).2 (hYl i hi)) ?_
     obtain ⟨q,u,r⟩:=src5
     exact ⟨q,by simp only [List.length_append,List.length_singleton]; omega,r⟩
    ·simp only [List.length_append,List.length_singleton]; omega
    ·simp only [List.length_append,List.length_singleton,List.length_take,List.length_drop,List.length_cons,List.length_nil]; omega
    ·rcases hi with hi | hi
     ·exact ⟨(st5 i (hV i hi).1).1,(hV i hi).2⟩
     ·exact ⟨w5 i hi,by have:=hi.1; omega⟩
    ·rcases List.mem_append.1 hg with hg | hg
     ·exact gf g hg
     ·rw [List.mem_singleton.1 hg]; exact hg5
   have em:IntKind.i64.wrap ((m:Int) - 1)=((m - 1:Nat):Int):=by rw [wr (by omega) (by omega)]; omega
   refine KW.nxt rfl rfl (fun H' g=>⟨⟨m - 1,G++[g5],S5,H5,fun i=>V i∨New n H5.n i,_,(cs.drop 0).take (G.length*3)++([.int .i64 g5.h,.int .i64 g5.l,.slice ag g5.ks.length cg]:List Value),l5⟩,inv5 _,by first | omega | (simp only; omega),⟨rfl,rfl,rfl,rfl,rfl,by simp only [List.length_append,List.length_singleton]; rfl,congrArg (Value.int .i64) em,trivial⟩,(g.take 2).eqT rfl⟩)
  ·have k4:¬(m:Int) > 0:=k4
   refine KW.callW (W:=fun i=>i=id) (fun i hi=>by subst hi; exact SB4.sid) rfl rfl rfl rfl rfl (pickB (n:=(G.length:Int)) SB4 (by omega) (by omega)) (fun v H5 S5 n5 st5 w5 hv5=>?_)
   obtain ⟨z5,hz5,rfl,q5,u5,src5⟩:=hv5
   have hz5:=hz5 (by omega)
   have e5:IntKind.i64.wrap (1+(z5:Int))=1+(z5:Int):=wr (by omega) (by omega)
   refine KW.callE rfl rfl rfl rfl rfl (l02Gate (IntKind.i64.wrap (1+(z5:Int))) (some ⟨o,0,some 3⟩) G.length G.length) (fun _ _=>?_)
   refine KW.freeze 1 rfl (fun A6 S6 hn6 hS6 st6 hm6 hlt6 hno6 hlow6=>?_)
   have E5:=E4.w st5 (fun i hi=>.inl (.inl hi))
   have E6:=E5.s st6.st
   have ogeH:H.n≤o:=by
    rcases Nat.lt_or_ge o H.n with h | h
    ·by_cases e:o=id∨o=lid
     ·exact absurd (E5.wid o e) hno6
     ·exact absurd (E5.old o h e).1 hno6
    ·exact h
   refine KW.retW rfl rfl rfl rfl (fun H9 g=>by have:=(g.vars 0 _ rfl).2.1; have:=g.n_; omega) (fun i h1 h2=>E6.old i h1 h2) (fun H9 g=>?_)
   have fz:∀i,S4 i→i≠id→H9.m i=A4.m i∧i < H9.n:=fun i hi he=>by
    have h1:=st5 i hi
    have h2:=st6.st i h1.1
    have h3:=g.froz i h2.1
    have:=g.n_
    exact ⟨h3.2.trans (h2.2.trans (h1.2 he)),by omega⟩
   have ho9:=g.froz o ((hS6 o).2 (.inr rfl))
   have hn9:=g.n_
   refine ⟨.mk (-1) (IntKind.i64.wrap (1+(z5:Int))) G,_,rfl,⟨_,rfl,?_⟩,.inr ⟨fun h=>by have h:G=[]:=h; rw [h] at ige; simp at ige; omega,rfl,by show 1≤IntKind.i64.wrap _; rw [e5]; omega,by show IntKind.i64.wrap _≤(G.length:Int); rw [e5]; omega,by show G.length≤4; omega,gf⟩,⟨q5,by simp only [scG]; omega,?_⟩,lf,?_,by simp only [lcG]; omega,b42⟩
   ·have h1:(KG d).Sl (New H.n H9.n) H9 (.slice (some ⟨o,0,some 3⟩) G.length G.length) G:=Cl.sl (cl4.mv (fun i hi=>(fz i (hV i hi).1 (fun e=>hVW i hi (.inl e))).1) (fun i hi=>hi)) ⟨ogeH,by omega⟩ (ho9.2.trans hm6) rfl (fun i hi=>⟨(hV i hi).2,(fz i (hV i hi).1 (fun e=>hVW i hi (.inl e))).2⟩) (Nat.le_refl _)
    exact h1
   ·exact src5.mv ((g.froz id (st6.st id (st5 id SB4.sid).1).1).2.trans (st6.st id (st5 id SB4.sid).1).2)
   ·exact (fz lid l4S (fun e=>hid e.symm)).1.trans lm4
theorem l02Drawn (hN:1≤N∧N≤7) {S:Ids} {H0:AH} {B:Nat} (hsrc:SrcB bs ac cc id Y S H0 B) (hB:B≤700000):
  SpecW Try.prog S H0 (fun i=>i=id) 197 [.pointer (some ⟨id,0,none⟩),.int .i64 N,.int .i64 8] (fun m v H1=>∃(g:Gt) (cs:List Value),v=.agg cs.toArray∧RG 4 (New m H1.n) H1 g cs∧GF N 4 g∧∃at_,at_≤B+2000∧Src ac bs.length cc H1 id at_):=by
 refine SpecW.of0 Try.func197 rfl (by kernel_rfl) rfl (fun H hfin hfz=>?_)
 have SB0:SrcB bs ac cc id Y (Low H.n) H B:=hsrc.s (fun i hi=>hfz i hi) (Nat.le_refl _)
 have E0:GwE H (fun i=>i=id) (Low H.n) H:=⟨fun i hi=>by rw [hi]; exact SB0.sid,fun i h _=>⟨h,rfl⟩⟩
 have hidL:id < H.n:=SB0.sid
 refine KW.callWF 1 rfl rfl rfl rfl rfl rfl (fun A9 S9 hn9 hS9 t9 hm9 ho9 hno9 hlt9=>?_)
 have SB9:=SB0.s (B':=B) t9.st (Nat.le_refl _)
 have E9:=E0.s t9.st
 have hYL:∀i,Y i→i < H.n:=fun i hi=>(SB0.y i hi).1
 refine ⟨fun i=>i=id∨i=H.n+1,_,fun i hi=>by rcases hi with h | h; rw [h]; exact SB9.sid; rw [h]; exact (hS9 _).2 (.inr rfl),l02Grown (lid:=H.n+1) hN (by omega) (fun i hi=>by have:=hYL i hi; omega) 4 (B:=B) (left:=8) (by omega) SB9 (by simp only [scG]; omega) ((hS9 _).2 (.inr rfl)) hm9 (by simp only [lcG]; omega),fun v H1 S1 m1 t1 w1 hv=>?_⟩
 obtain ⟨g,cs,rfl,hR,hg,src1,_⟩:=hv
 obtain ⟨ag,cg,rfl,_⟩:=hR.form
 have E1:=E9.w t1 (fun i hi=>by rcases hi with h | h; exact .inl h; exact .inr (by omega))
 have SB1:=SB9.w t1 (fun i hi hh=>by rcases hh with h | h; exact (SB9.y i hi).2 h; have:=hYL i hi; omega) src1
 have hR1:RG 4 S1 H1 g _:=RG.more 4 (fun i hi=>w1 i hi) hR
 refine KW.callVp1 rfl rfl rfl rfl rfl (fun H1 g _=>l02Ok (S:=Low H1.n) (H0:=H1) hN (d:=4) (by omega) hg (On.R (d:=KG 4) hR1) (g.has (j:=1) rfl rfl)) (fun v _ _ hv=>?_)
 obtain ⟨b,rfl⟩:=hv
 obtain ⟨q1,u1,src1⟩:=src1
 refine KW.cndB rfl rfl (fun k1=>?_) (fun k1=>?_)
 ·refine KW.callE rfl rfl rfl rfl rfl (l02Leaf 0) (fun _ _=>?_)
  refine KW.retW rfl rfl rfl rfl (fun H9 g=>by have:=(g.vars 0 _ rfl).2.1; have:=g.n_; omega) (fun i h1 h2=>E1.old i h1 h2) (fun H9 g=>?_)
  exact ⟨.mk 0 0 [],_,rfl,rg_leaf _,gf_leaf (Int.le_refl 0) (by omega) _,q1,by simp only [scG] at u1; omega,src1.mv (g.froz id SB1.sid).2⟩
 ·refine KW.retW rfl rfl rfl rfl (fun H9 g=>by have:=(g.vars 0 _ rfl).2.1; have:=g.n_; omega) (fun i h1 h2=>E1.old i h1 h2) (fun H9 gg=>?_)
  refine ⟨g,_,rfl,?_,hg,q1,by simp only [scG] at u1; omega,src1.mv (gg.froz id SB1.sid).2⟩
  refine RG.more 4 (fun i hi=>⟨by have:=hi.1; omega,by have:=(gg.froz i (w1 i hi)).1; have:=gg.n_; omega⟩) (RG.same 4 (fun i hi=>(gg.froz i (w1 i hi)).2) hR)
end
end Go.Proofs.Ytlapbbffoapleaa.Am
namespace Go.Proofs.Ytlapbbffoapleaa.Pl

end Go.Proofs.Ytlapbbffoapleaa.Pl
namespace Go.Proofs.Ytlapbbffoapleaa.Am
open Go Go.RowKit
def Ap (S:Ids) (T:List Var) (e:Env) (j:Nat) (u:Tmp):Prop:=(∃i b id k s,e u=.pointer (some ⟨id,k,s⟩)∧T[i]?=some (id,b)∧i≠j)∨∃id k s,e u=.pointer (some ⟨id,k,s⟩)∧S id
def AllL (S:Ids) (T:List Var) (e:Env) (j:Nat):List Tmp→Prop
 | []=>True
 | u :: L=>Ap S T e j u∧AllL S T e j L
section
variable {P:Program} {S:Ids} {H0:AH} {Q:PostC} {k k1 k2:List It} {e e1 e2:Env} {T T1 T2:List Var} {n n1 n2:Nat} {l1 r1 l2 r2:List Nat} {d1 d2:Tmp}
theorem AllL.out {L:List Tmp} {j:Nat} {H H1:AH} {v0:Var} (g:Good S H0 T n H) (hj:T[j]?=some v0∨j=T.length) (hL:AllL S T e j L) (hH:∀id,id < n→(∀v,T[j]?=some v→id≠v.1)→H1.m id=H.m id):∀t∈L,∀id k s,e t=.pointer (some ⟨id,k,s⟩)→H1.m id=H.m id:=by
 induction L with
 | nil=>intro t ht; cases ht
 | cons u L ih=>
  intro t ht id k s he
  rcases List.mem_cons.1 ht with rfl | ht
  ·rcases hL.1 with ⟨i,b,id',k',s',h1,h2,h3⟩ | ⟨id',k',s',h1,h2⟩
   ·rw [h1] at he
    cases he
    exact hH id (g.vars i _ h2).2.1 (fun v hv heq=>h3 (g.dist i j _ v h2 hv heq))
   ·rw [h1] at he
    cases he
    exact hH id (g.froz id h2).1 (fun v hv heq=>(g.vars j v hv).2.2 (heq ▸ h2))
  ·exact ih hL.2 t ht id k s he
theorem KEvt.heapL {o:Oper} {dr:Bool} {c:Cf} {L:List Tmp} (v:Value) (T':List Var) (n':Nat) (hc:opClass o.op=1∨opClass o.op=2) (hp:∀H,Good S H0 c.T c.n H→∃tag H1,hop P tag o.op c.e H=some (v,H1)∧Good S H0 T' n' H1∧∀t∈L,∀id k s,c.e t=.pointer (some ⟨id,k,s⟩)→H1.m id=H.m id) (hk:KW P S H0 Q n' T' c.k (put c.e o.dst v)):KEvt P S H0 Q (.opL o dr L) c:=by
 intro H g
 obtain ⟨tag,H1,h1,g1,h2⟩:=hp H g
 refine ⟨0,v,H1,?_,h2,hk H1 g1⟩
 unfold evOp
 split
 ·rename_i hop; rw [hop] at hc; simp [opClass] at hc
 ·split
  ·rename_i h0; omega
  ·exact ⟨tag,h1⟩
theorem KW.stZ {o:Oper} {dr:Bool} {L:List Tmp} {t:TypeId} {x y:Operand} {id kk:Nat} {sp:Option Nat} {b b':Blk} (j:Nat) (h:Go1 P k e T n (.opL o dr L) k1 e1 T1 n1 l1 r1) (hlr:l1=r1) (ho:o.op=.store t x y) (hd:o.dst=none) (hx:ev e1 x=.pointer (some ⟨id,kk,sp⟩)) (hT:T1[j]?=some (id,b)) (hs:bstore P b t kk (ev e1 y)=some b') (hL:AllL S T1 e1 j L)
  (hk:KW P S H0 Q n1 (T1.set j (id,b')) k1 e1):KW P S H0 Q n T k e:=by
 refine KW.go h hlr (KEvt.heapL (c:=⟨_,_,_,_,_,_⟩) undef (T1.set j (id,b')) n1 (by rw [ho]; exact .inr rfl) (fun H g=>⟨none,H.set id b',?_,g.set hT _,AllL.out g (.inl hT) hL (fun i hi hne=>?_)⟩) (by rw [hd]; exact hk))
 ·rw [ho]
  simp only [hop,hx,bstore_ok (g.blk hT).1 hs]
 ·have:=hne _ hT
  simp [AH.set,this]
end
end Go.Proofs.Ytlapbbffoapleaa.Am
namespace Go.Proofs.Ytlapbbffoapleaa.Am
open Go Go.RowKit Go.Proofs Go.Proofs.Ytlapbbffoapleaa.Pl
section
variable {S:Ids} {H0:AH}
end
section
variable {S:Ids} {H0:AH}
theorem l00OwnC {a c} {xs:List Int} (hl:xs.length≤1048576) (hs:KI.Sl S H0 (.slice a xs.length c) xs):SpecM Try.prog S H0 160 [.slice a xs.length c] (fun n v H1=>∃o,v=.slice (some ⟨o,0,some 1⟩) xs.length xs.length∧New n H1.n o∧H1.m o=some ⟨2,true,xs.map (Value.int .i64)⟩):=by
 refine SpecM.of1 Try.func160 rfl (by kernel_rfl) rfl (fun H _=>?_)
 refine KW.lit rfl rfl rfl rfl rfl rfl rfl rfl rfl rfl [] rfl rfl (fun v hv=>by simp at hv) rfl ?_
 refine KW.appV 0 rfl rfl rfl rfl rfl rfl rfl rfl rfl rfl (fun H1 g=>acells_I hs.up g) (by simp) (by simp) (fun v hv=>by obtain ⟨_,_,rfl⟩:=List.mem_map.1 hv; rfl) (by show (_+_)*8≤_; simp only [List.length_cons,List.length_nil]; omega) (by simp only [List.length_cons,List.length_nil]; omega) (show 0+xs.length=xs.length from by omega) (fun oa _ _=>?_)
 refine KW.retM1 rfl rfl rfl rfl (fun H1 g=>⟨_,rfl,⟨g.ge (H1:=H) (j:=0) rfl,(g.blk (j:=0) rfl).2⟩,(g.blk (j:=0) rfl).1⟩)
end
section
variable {P:Program} {S:Ids} {H0:AH} {Q:PostC} {k k1:List It} {e e1:Env} {T T1:List Var} {n n1:Nat} {l1 r1:List Nat} {d1:Tmp}
theorem KW.adX {α:Type} {d:Kn α} {X:Ids} {xs:List α} {o:Oper} {dr:Bool} {t el:TypeId} {x i:Operand} {inf:TypeInfo} {s:Value} {kk:IntKind} {j:Int} (hs:d.Sl X H0 s xs) (hX:∀id,X id→S id) (h:Go1 P k e T n (.op o dr) k1 e1 T1 n1 l1 r1) (hlr:l1=r1) (ho:o.op=.indexAddr t x i) (hd:o.dst=some d1) (hx:ev e1 x=s) (hj:ev e1 i=.int kk j) (hu:P.underlying t=some (.slice el)) (hi:P.info? el=some inf) (he:inf.size=d.es) (h0:0≤j) (h1:j < xs.length)
  (hk:∀y cs id q,xs[j.toNat]?=some y→d.R X H0 y cs→Has3 X H0 id q cs→KW P S H0 Q n1 T1 k1 (put1 e1 d1 (.pointer (some ⟨id,q,none⟩)))):KW P S H0 Q n T k e:=by
 obtain ⟨id,off,c,b,y,e1_,e2,e3,e4,e5,e6⟩:=hs.at_ h0 h1
 refine KW.go h hlr (KEvt.idx (c:=⟨_,_,_,_,_,_⟩) ho (hs.more hX) h0 h1 hu hi he hx hj ?_)
 rw [hd,put1_eq]
 subst e1_
 exact hk y _ id (off+j.toNat*d.es) e4 e6 ⟨e3,b,e2,fun q v hq=>seg_at rfl hq⟩
end
def MkV (mid:Nat) (oo:Option (Nat × Nat)):Ids:=fun i=>i=mid∨∃a b,oo=some (a,b)∧(i=a∨i=b)
def mkO (oo:Option (Nat × Nat)) (n:Nat):Value:=match oo with | none=>.slice none 0 0 | some (a,_)=>.slice (some ⟨a,0,some 1⟩) n n
def mkR (oo:Option (Nat × Nat)) (n:Nat):Value:=match oo with | none=>.slice none 0 0 | some (_,b)=>.slice (some ⟨b,0,some 1⟩) n n
abbrev RwT:=Nat × List Int
def rowV (x:RwT):Value:=.slice (some ⟨x.1,0,some 1⟩) x.2.length x.2.length
def RV (rr:List RwT):Ids:=fun i=>∃x∈rr,x.1=i
structure MkrI (p cols:Int) (ow:List Int) (rr:List RwT) (mid:Nat) (S:Ids) (A:AH) (oo:Option (Nat × Nat)):Prop where
 mS:S mid
 mm:A.m mid=some ⟨249,true,[.int .i64 p,.int .i64 cols,mkO oo ow.length,mkR oo rr.length]⟩
 len:ow.length=rr.length
 none_:oo=none→rr=[]
 some_:∀a b,oo=some (a,b)→S a∧S b∧a≠mid∧b≠mid∧a≠b∧A.m a=some ⟨2,true,ow.map (Value.int .i64)⟩∧A.m b=some ⟨36,true,rr.map rowV⟩
 rb:∀x∈rr,S x.1∧A.m x.1=some ⟨2,true,x.2.map (Value.int .i64)⟩∧¬MkV mid oo x.1
 nd:(rr.map Prod.fst).Nodup
theorem MkrI.wS {p cols:Int} {ow:List Int} {rr:List RwT} {mid:Nat} {S:Ids} {A:AH} {oo:Option (Nat × Nat)} (h:MkrI p cols ow rr mid S A oo):∀j,MkV mid oo j∨RV rr j→S j:=fun j hj=>by
 rcases hj with (hj | ⟨a,b,e,hj⟩) | ⟨x,hx,hj⟩
 ·rw [hj]; exact h.mS
 ·obtain ⟨h1,h2,_⟩:=h.some_ a b e
  rcases hj with hj | hj
  ·rw [hj]; exact h1
  ·rw [hj]; exact h2
 ·rw [← hj]; exact (h.rb x hx).1
theorem MkrI.mv {p cols:Int} {ow:List Int} {rr:List RwT} {mid:Nat} {S S':Ids} {A A':AH} {oo:Option (Nat × Nat)} (h:MkrI p cols ow rr mid S A oo) (k:∀j,MkV mid oo j∨RV rr j→S' j∧A'.m j=A.m j):MkrI p cols ow rr mid S' A' oo:=by
 refine ⟨(k mid (.inl (.inl rfl))).1,(k mid (.inl (.inl rfl))).2.trans h.mm,h.len,h.none_,fun a b e=>?_,fun x hx=>?_,h.nd⟩
 ·obtain ⟨h1,h2,h3,h4,h5,h6,h7⟩:=h.some_ a b e
  have ka:=k a (.inl (.inr ⟨a,b,e,.inl rfl⟩))
  have kb:=k b (.inl (.inr ⟨a,b,e,.inr rfl⟩))
  exact ⟨ka.1,kb.1,h3,h4,h5,ka.2.trans h6,kb.2.trans h7⟩
 ·have kx:=k x.1 (.inr ⟨x,hx,rfl⟩)
  obtain ⟨h1,h2,h3⟩:=h.rb x hx
  exact ⟨kx.1,kx.2.trans h2,h3⟩
def RowsOk (p cols:Int) (rr:List RwT):Prop:=∀r∈rr,(1≤r.2.length∧(r.2.length:Int)≤cols)∧∀x∈r.2,0≤x∧x < p
def cgG:Nat→Nat
 | 0=>0
 | d+1=>3+4*cgG d
def rgG:Nat→Nat
 | 0=>1
 | d+1=>1+4*rgG d
theorem rgG_pos:∀d,1≤rgG d
 | 0=>Nat.le_refl _
 | d+1=>by simp only [rgG]; omega
def NdP (p cols:Int) (mid d:Nat) (rr:List RwT) (oo:Option (Nat × Nat)) (lid n:Nat) (H1:AH):Prop:=
 ∃(cols':Int) (ow':List Int) (rr':List RwT) (oo':Option (Nat × Nat)),MkrI p cols' ow' rr' mid (fun i=>MkV mid oo i∨RV rr i∨i=lid∨New n H1.n i) H1 oo'∧cols≤cols'∧cols'≤cols+cgG d∧rr'.length≤rr.length+rgG d∧RowsOk p cols' rr'∧(∀i,RV rr' i→RV rr i∨i=lid∨New n H1.n i)∧(∀i,MkV mid oo' i→MkV mid oo i∨New n H1.n i)
section
variable {p N:Int} {mid:Nat}
theorem nodeLeaf {S:Ids} {H0:AH} {h cols:Int} {ow L:List Int} {rr:List RwT} {GS:Ids} {oo:Option (Nat × Nat)} {gid gk d lid:Nat} {ga:Option Addr} {gc:Nat} (hgv:Has3 GS H0 gid gk [.int .i64 h,.int .i64 0,.slice ga 0 gc]) (hGS:∀i,GS i→S i∧¬MkV mid oo i) (hM:MkrI p cols ow rr mid S H0 oo) (hLS:S lid∧¬MkV mid oo lid∧¬RV rr lid) (hL:H0.m lid=some ⟨2,true,L.map (Value.int .i64)⟩) (hLc:1≤L.length∧(L.length:Int)≤cols) (hLp:∀x∈L,0≤x∧x < p) (hr':RowsOk p cols rr) (hrl:rr.length≤10000):
  SpecW Try.prog S H0 (MkV mid oo) 199 [.pointer (some ⟨mid,0,none⟩),.pointer (some ⟨gid,gk,none⟩),rowV (lid,L)] (fun n v H1=>NdP p cols mid d rr oo lid n H1):=by
 refine SpecW.of0 Try.func199 rfl (by kernel_rfl) rfl (fun H hfin hfz=>?_)
 have hM0:MkrI p cols ow rr mid (Low H.n) H oo:=hM.mv fun j hj=>hfz j (hM.wS j hj)
 have hgv0:Has3 (Low H.n) H gid gk [.int .i64 h,.int .i64 0,.slice ga 0 gc]:=by
  obtain ⟨q0,b,q1,q2⟩:=hgv
  exact ⟨(hfz gid (hGS gid q0).1).1,b,((hfz gid (hGS gid q0).1).2).trans q1,q2⟩
 have hgW:¬MkV mid oo gid:=(hGS gid hgv.1).2
 have hXl:lid < H.n:=(hfz lid hLS.1).1
 have hL0:H.m lid=some ⟨2,true,L.map (Value.int .i64)⟩:=(hfz lid hLS.1).2.trans hL
 obtain ⟨_,hlW,hlV⟩:=hLS
 have hmL:mid < H.n:=hM0.mS
 have hrg:=rgG_pos d
 refine KW.ldF 2 hgv0 rfl rfl rfl rfl rfl rfl rfl rfl rfl ?_
 refine KW.yes rfl rfl (by simp) ?_
 cases oo with
 | none=>
  obtain rfl:rr=[]:=hM0.none_ rfl
  obtain rfl:ow=[]:=List.eq_nil_of_length_eq_zero hM0.len
  have hgm:gid≠mid:=fun e=>hgW (.inl e)
  have hlm:lid≠mid:=fun e=>hlW (.inl e)
  refine KW.thaw mid _ hM0.mS hM0.mm ?_
  have hgv1:Has3 (fun i=>Low H.n i∧i≠mid) H gid gk [.int .i64 h,.int .i64 0,.slice ga 0 gc]:=⟨⟨hgv0.1,hgm⟩,hgv0.2⟩
  refine KW.ldT 0 rfl rfl rfl rfl rfl rfl rfl ?_
  refine KW.ldF 0 hgv1 rfl rfl rfl rfl rfl rfl rfl rfl rfl ?_
  refine KW.app0 (v:=.int .i64 h) 1 rfl rfl rfl rfl rfl rfl rfl rfl rfl rfl rfl rfl rfl rfl rfl rfl rfl rfl rfl rfl rfl rfl (by decide) ?_
  refine KW.st1 0 rfl rfl rfl rfl rfl rfl rfl rfl rfl rfl rfl rfl (by simp) ?_
  refine KW.ldT 0 rfl rfl rfl rfl rfl rfl rfl ?_
  refine KW.app0 (v:=rowV (lid,L)) 2 rfl rfl rfl rfl rfl rfl rfl rfl rfl rfl rfl rfl rfl rfl rfl rfl rfl rfl rfl rfl rfl rfl (by decide) ?_
  refine KW.st1 0 rfl rfl rfl rfl rfl rfl rfl rfl rfl rfl rfl rfl (by simp) ?_
  refine KW.retW rfl rfl rfl rfl (fun H9 g=>by have:=g.n_; omega) (fun i h1 h2=>⟨⟨h1,fun e=>h2 (.inl e)⟩,rfl⟩) (fun H9 g=>?_)
  have hn9:=g.n_
  have b0:=(g.blk (j:=0) rfl).1
  have b1:=g.blk (j:=1) rfl
  have b2:=g.blk (j:=2) rfl
  have hL9:H9.m lid=some ⟨2,true,L.map (Value.int .i64)⟩:=(g.froz lid ⟨hXl,hlm⟩).2.trans hL0
  have n1:New H.n H9.n (H.n+1):=⟨by omega,by omega⟩
  have n3:New H.n H9.n (H.n+3):=⟨by omega,by omega⟩
  refine ⟨cols,[h],[(lid,L)],some (H.n+1,H.n+3),⟨.inl (.inl rfl),b0,rfl,fun e=>(by cases e),fun a b e=>?_,fun x hx=>?_,by simp⟩,Int.le_refl _,by omega,by simp only [List.length_nil,List.length_singleton]; omega,fun r hr=>by rw [List.mem_singleton.1 hr]; exact ⟨hLc,hLp⟩,fun i hi=>?_,fun i hi=>?_⟩
  ·cases e
   exact ⟨.inr (.inr (.inr n1)),.inr (.inr (.inr n3)),by omega,by omega,by omega,b1.1,b2.1⟩
  ·rw [List.mem_singleton.1 hx]
   refine ⟨.inr (.inr (.inl rfl)),hL9,fun hw=>?_⟩
   rcases hw with hw | ⟨a,b,e,hw⟩
   ·exact hlm hw
   ·cases e
    have hw:lid=H.n+1∨lid=H.n+3:=hw
    omega
  ·obtain ⟨x,hx,e⟩:=hi
   rw [List.mem_singleton.1 hx] at e
   exact .inr (.inl e.symm)
  ·rcases hi with hi | ⟨a,b,e,hi⟩
   ·exact .inl (.inl hi)
   ·cases e
    rcases hi with hi | hi
    ·rw [hi]; exact .inr n1
    ·rw [hi]; exact .inr n3
 | some ab=>
  obtain ⟨a,b⟩:=ab
  obtain ⟨a1,a2,a3,a4,a5,a6,a7⟩:=hM0.some_ a b rfl
  have hgm:gid≠mid:=fun e=>hgW (.inl e)
  have hga:gid≠a:=fun e=>hgW (.inr ⟨a,b,rfl,.inl e⟩)
  have hgb:gid≠b:=fun e=>hgW (.inr ⟨a,b,rfl,.inr e⟩)
  refine KW.thaw mid _ hM0.mS hM0.mm ?_
  refine KW.thaw a _ ⟨a1,a3⟩ a6 ?_
  refine KW.thaw b _ ⟨⟨a2,a4⟩,fun e=>a5 e.symm⟩ a7 ?_
  have hgv1:Has3 (fun i=>((Low H.n i∧i≠mid)∧i≠a)∧i≠b) H gid gk [.int .i64 h,.int .i64 0,.slice ga 0 gc]:=⟨⟨⟨⟨hgv0.1,hgm⟩,hga⟩,hgb⟩,hgv0.2⟩
  have hol:=hM0.len
  refine KW.ldT 0 rfl rfl rfl rfl rfl rfl rfl ?_
  refine KW.ldF 0 hgv1 rfl rfl rfl rfl rfl rfl rfl rfl rfl ?_
  refine KW.app1 (xs:=ow.map (Value.int .i64)) (v:=.int .i64 h) 1 3 rfl rfl rfl rfl rfl rfl rfl rfl rfl rfl rfl rfl rfl rfl rfl rfl rfl rfl rfl rfl rfl rfl rfl (by simp) (by show (ow.length+1)*8≤_; omega) (by omega) ?_
  refine KW.st1 0 rfl rfl rfl rfl rfl rfl rfl rfl rfl rfl rfl rfl (by simp) ?_
  refine KW.ldT 0 rfl rfl rfl rfl rfl rfl rfl ?_
  refine KW.app1 (xs:=rr.map rowV) (v:=rowV (lid,L)) 2 3 rfl rfl rfl rfl rfl rfl rfl rfl rfl rfl rfl rfl rfl rfl rfl rfl rfl rfl rfl rfl rfl rfl rfl (by simp) (by show (rr.length+1)*24≤_; omega) (by omega) ?_
  refine KW.st1 0 rfl rfl rfl rfl rfl rfl rfl rfl rfl rfl rfl rfl (by simp) ?_
  refine KW.retW rfl rfl rfl rfl (fun H9 g=>by have:=g.n_; omega) (fun i h1 h2=>⟨⟨⟨⟨h1,fun e=>h2 (.inl e)⟩,fun e=>h2 (.inr ⟨a,b,rfl,.inl e⟩)⟩,fun e=>h2 (.inr ⟨a,b,rfl,.inr e⟩)⟩,rfl⟩) (fun H9 g=>?_)
  have hn9:=g.n_
  have b0:=(g.blk (j:=0) rfl).1
  have b1:=g.blk (j:=1) rfl
  have b2:=g.blk (j:=2) rfl
  have fz:∀i,i < H.n→¬MkV mid (some (a,b)) i→H9.m i=H.m i:=fun i h1 h2=>(g.froz i ⟨⟨⟨h1,fun e=>h2 (.inl e)⟩,fun e=>h2 (.inr ⟨a,b,rfl,.inl e⟩)⟩,fun e=>h2 (.inr ⟨a,b,rfl,.inr e⟩)⟩).2
  have n1:New H.n H9.n (H.n+1):=⟨by omega,by omega⟩
  have n3:New H.n H9.n (H.n+3):=⟨by omega,by omega⟩
  have nW:∀i,i < H.n→¬MkV mid (some (a,b)) i→¬MkV mid (some (H.n+1,H.n+3)) i:=fun i h1 h2 hw=>by
   rcases hw with hw | ⟨a',b',e,hw⟩
   ·exact h2 (.inl hw)
   ·cases e
    omega
  refine ⟨cols,ow++[h],rr++[(lid,L)],some (H.n+1,H.n+3),⟨.inl (.inl rfl),b0.trans (by simp only [mkO,mkR,List.length_append,List.length_singleton]; rfl),by simp only [List.length_append,List.length_singleton]; omega,fun e=>(by cases e),fun a' b' e=>?_,fun x hx=>?_,?_⟩,Int.le_refl _,by omega,by simp only [List.length_append,List.length_singleton]; omega,fun r hr=>(List.mem_append.1 hr).elim (hr' r) (fun hr=>by rw [List.mem_singleton.1 hr]; exact ⟨hLc,hLp⟩),fun i hi=>?_,fun i hi=>?_⟩
  ·cases e
   exact ⟨.inr (.inr (.inr n1)),.inr (.inr (.inr n3)),by omega,by omega,by omega,b1.1.trans (by rw [List.map_append]; rfl),b2.1.trans (by rw [List.map_append]; rfl)⟩
  ·rcases List.mem_append.1 hx with hx | hx
   ·obtain ⟨h1,h2,h3⟩:=hM0.rb x hx
    exact ⟨.inr (.inl ⟨x,hx,rfl⟩),(fz x.1 h1 h3).trans h2,nW x.1 h1 h3⟩
   ·rw [List.mem_singleton.1 hx]
    exact ⟨.inr (.inr (.inl rfl)),(fz lid hXl hlW).trans hL0,nW lid hXl hlW⟩
  ·rw [List.map_append]
   refine List.nodup_append.2 ⟨hM0.nd,by simp,fun y hy z hz=>?_⟩
   have hz:z=lid:=by simpa using hz
   obtain ⟨x,hx,rfl⟩:=List.mem_map.1 hy
   rw [hz]
   exact fun e=>hlV ⟨x,hx,e⟩
  ·obtain ⟨x,hx,e⟩:=hi
   rcases List.mem_append.1 hx with hx | hx
   ·exact .inl ⟨x,hx,e⟩
   ·rw [List.mem_singleton.1 hx] at e
    exact .inr (.inl e.symm)
  ·rcases hi with hi | ⟨a',b',e,hi⟩
   ·exact .inl (.inl hi)
   ·cases e
    rcases hi with hi | hi
    ·rw [hi]; exact .inr n1
    ·rw [hi]; exact .inr n3
end
structure NdS where
 i:Nat
 S:Ids
 A:AH
 cols:Int
 ow:List Int
 rr:List RwT
 oo:Option (Nat × Nat)
structure NdI (p c1:Int) (mid d ks r0:Nat) (H:AH) (W V0:Ids) (s:NdS):Prop where
 le:s.i≤ks
 mk_:MkrI p s.cols s.ow s.rr mid s.S s.A s.oo
 E:GwE H W s.S s.A
 b1:c1≤s.cols
 b2:s.cols≤c1+(s.i*cgG d:Nat)
 r:s.rr.length≤r0+s.i*rgG d
 ok:RowsOk p s.cols s.rr
 v:∀j,RV s.rr j→V0 j∨H.n≤j
 w:∀j,MkV mid s.oo j→W j∨H.n≤j
theorem RowsOk.up {p c c':Int} {rr:List RwT} (h:RowsOk p c rr) (hc:c≤c'):RowsOk p c' rr:=fun r hr=>⟨⟨(h r hr).1.1,by have:=(h r hr).1.2; omega⟩,(h r hr).2⟩
section
variable {p N:Int} {mid:Nat}
theorem node (hp31:2≤p∧p≤31):∀(d:Nat) {S:Ids} {H0:AH} {g:Gt} {cs:List Value} {gid gk:Nat} {cols:Int} {ow L:List Int} {rr:List RwT} {GS:Ids} {oo:Option (Nat × Nat)} {lid:Nat},d≤4→GF N d g→NW p d g→RG d GS H0 g cs→Has3 GS H0 gid gk cs→(∀i,GS i→S i∧¬MkV mid oo i)→MkrI p cols ow rr mid S H0 oo→(S lid∧¬MkV mid oo lid∧¬RV rr lid)→H0.m lid=some ⟨2,true,L.map (Value.int .i64)⟩→(1≤L.length∧(L.length:Int)≤cols)→(∀x∈L,0≤x∧x < p)→cols+cgG d≤1000→RowsOk p cols rr→rr.length+rgG d≤10000→
  SpecW Try.prog S H0 (MkV mid oo) 199 [.pointer (some ⟨mid,0,none⟩),.pointer (some ⟨gid,gk,none⟩),rowV (lid,L)] (fun n v H1=>NdP p cols mid d rr oo lid n H1):=by
 intro d
 induction d with
 | zero=>
  intro S H0 g cs gid gk cols ow L rr GS oo lid hd hg hw hR hgv hGS hM hLS hL hLc hLp hcb hr hrl
  obtain ⟨a,c,rfl,hk⟩:=hR.form
  rw [hg.1,hg.2.1] at hgv
  exact nodeLeaf hgv hGS hM hLS hL hLc hLp hr (by omega)
 | succ d ih=>
  intro S H0 g cs gid gk cols ow L rr GS oo lid hd hg hw hR hgv hGS hM hLS hL hLc hLp hcb hr hrl
  obtain ⟨ga,gc,rfl,hk⟩:=hR.form
  rcases hg with hg0 | hg1
  ·rw [hg0.1,hg0.2.1] at hgv
   exact nodeLeaf hgv hGS hM hLS hL hLc hLp hr (by omega)
  obtain ⟨g1,g2,g3,g4,g5,g6⟩:=hg1
  obtain ⟨w1,w2⟩:=hw
  have hpos:0 < g.ks.length:=List.length_pos_iff.2 g1
  rcases hk with hk | ⟨d',e,hk⟩
  ·exact absurd hk g1
  obtain rfl:d'=d:=by omega
  simp only [cgG,rgG] at hcb hrl
  refine SpecW.of0 Try.func199 rfl (by kernel_rfl) rfl (fun H hfin hfz=>?_)
  have hM0:MkrI p cols ow rr mid (Low H.n) H oo:=hM.mv fun j hj=>hfz j (hM.wS j hj)
  have hGL:∀i,GS i→i < H.n∧H.m i=H0.m i:=fun i hi=>hfz i (hGS i hi).1
  have hgv0:Has3 GS H gid gk [.int .i64 g.h,.int .i64 g.l,.slice ga g.ks.length gc]:=by
   obtain ⟨q0,b,q1,q2⟩:=hgv
   exact ⟨q0,b,((hGL gid q0).2).trans q1,q2⟩
  have hk0:(KG d').Sl GS H (.slice ga g.ks.length gc) g.ks:=hk.same fun i hi=>(hGL i hi).2
  have hlL:lid < H.n:=(hfz lid hLS.1).1
  have hL0:H.m lid=some ⟨2,true,L.map (Value.int .i64)⟩:=(hfz lid hLS.1).2.trans hL
  have hmL:mid < H.n:=hM0.mS
  have E0:GwE H (MkV mid oo) (Low H.n) H:=⟨fun i hi=>hM0.wS i (.inl hi),fun i h _=>⟨h,rfl⟩⟩
  have hgS:∀{S':Ids} {A':AH},GwE H (MkV mid oo) S' A'→Has3 S' A' gid gk [.int .i64 g.h,.int .i64 g.l,.slice ga g.ks.length gc]:=fun E=>by
   obtain ⟨q0,b,q1,q2⟩:=hgv0
   have h:=E.old gid (hGL gid q0).1 (hGS gid q0).2
   exact ⟨h.1,b,h.2.trans q1,q2⟩
  have hmS:∀{S':Ids} {A':AH} {cols':Int} {ow':List Int} {rr':List RwT} {oo':Option (Nat × Nat)},MkrI p cols' ow' rr' mid S' A' oo'→Has3 S' A' mid 0 [.int .i64 p,.int .i64 cols',mkO oo' ow'.length,mkR oo' rr'.length]:=fun h=>⟨h.mS,_,h.mm,fun i v hv=>by rw [Nat.zero_add]; exact hv⟩
  have hLl:(L.length:Int)≤1000:=by omega
  have hc0:0≤cols:=by omega
  refine KW.ldF 2 ((hgS E0)) rfl rfl rfl rfl rfl rfl rfl rfl rfl ?_
  refine KW.no rfl rfl (by omega) ?_
  refine KW.ldF 1 ((hmS hM0)) rfl rfl rfl rfl rfl rfl rfl rfl rfl ?_
  refine KW.ldF 1 ((hmS hM0)) rfl rfl rfl rfl rfl rfl rfl rfl rfl ?_
  refine KW.ldF 1 ((hgS E0)) rfl rfl rfl rfl rfl rfl rfl rfl rfl ?_
  refine KW.thaw mid _ hM0.mS hM0.mm ?_
  refine KW.st1 0 rfl rfl rfl rfl rfl rfl rfl rfl rfl rfl rfl rfl (by simp) ?_
  refine KW.freeze 0 rfl (fun A1 S1 hn1 hS1 st1 hm1 hlt1 hno1 hlow1=>?_)
  have ewc:IntKind.i64.wrap (cols+IntKind.i64.wrap (g.l - 1))=cols+(g.l - 1):=by rw [wr (x:=g.l - 1) (by omega) (by omega),wr (by omega) (by omega)]
  have w01:StW (fun i=>i=mid) (Low H.n) H S1 A1:=fun i hi=>by
   by_cases e:i=mid
   ·exact ⟨(hS1 i).2 (.inr e),fun hh=>absurd e hh⟩
   ·exact ⟨(st1.st i ⟨hi,e⟩).1,fun _=>(st1.st i ⟨hi,e⟩).2⟩
  have E1:=E0.w w01 (fun i hi=>.inl (.inl hi))
  have hM1:MkrI p (cols+(g.l - 1)) ow rr mid S1 A1 oo:=by
   have hmm:A1.m mid=some ⟨249,true,[.int .i64 p,.int .i64 (cols+(g.l - 1)),mkO oo ow.length,mkR oo rr.length]⟩:=by
    have h:A1.m mid=some ⟨249,true,[.int .i64 p,.int .i64 (IntKind.i64.wrap (cols+IntKind.i64.wrap (g.l - 1))),mkO oo ow.length,mkR oo rr.length]⟩:=hm1
    rw [ewc] at h
    exact h
   have kk:∀j,MkV mid oo j∨RV rr j→j≠mid→S1 j∧A1.m j=H.m j:=fun j hj e=>⟨(w01 j (hM0.wS j hj)).1,(w01 j (hM0.wS j hj)).2 e⟩
   refine ⟨(hS1 _).2 (.inr rfl),hmm,hM0.len,hM0.none_,fun a b e=>?_,fun x hx=>?_,hM0.nd⟩
   ·obtain ⟨h1,h2,h3,h4,h5,h6,h7⟩:=hM0.some_ a b e
    have ka:=kk a (.inl (.inr ⟨a,b,e,.inl rfl⟩)) h3
    have kb:=kk b (.inl (.inr ⟨a,b,e,.inr rfl⟩)) h4
    exact ⟨ka.1,kb.1,h3,h4,h5,ka.2.trans h6,kb.2.trans h7⟩
   ·obtain ⟨h1,h2,h3⟩:=hM0.rb x hx
    have kx:=kk x.1 (.inr ⟨x,hx,rfl⟩) (fun e=>h3 (.inl e))
    exact ⟨kx.1,kx.2.trans h2,h3⟩
  refine KW.lpM rfl rfl (fun s:NdS=>[(0,.pointer (some ⟨mid,0,none⟩)),(1,.pointer (some ⟨gid,gk,none⟩)),(2,rowV (lid,L)),(6,.int .i64 cols),(7,.int .i64 s.i)]) (fun s=>s.S) (fun s=>s.A) (fun s=>[]) (fun s=>NdI p (cols+(g.l - 1)) mid d' g.ks.length rr.length H (MkV mid oo) (RV rr) s) (fun s=>g.ks.length - s.i) (⟨0,S1,A1,cols+(g.l - 1),ow,rr,oo⟩) (⟨Nat.zero_le _,hM1,E1,Int.le_refl _,by show cols+(g.l - 1)≤cols+(g.l - 1)+((0*cgG d':Nat):Int); omega,by simp only; omega,hr.up (by show cols≤cols+(g.l - 1); omega),fun j hj=>.inl hj,fun j hj=>.inl hj⟩) ⟨rfl,rfl,rfl,rfl,rfl,trivial⟩ rfl rfl (rfl) (fun s hi bE n=>?_)
  obtain ⟨i,S2,A2,cols2,ow2,rr2,oo2⟩:=s
  obtain ⟨ile,hM2,E2,b1,b2,hr2,ok2,hV2,hW2⟩:=hi
  simp only at ile hM2 E2 b1 b2 hr2 ok2 hV2 hW2
  have hmulc:i*cgG d'≤4*cgG d':=Nat.mul_le_mul_right _ (by omega)
  have hmulr:i*rgG d'≤4*rgG d':=Nat.mul_le_mul_right _ (by omega)
  refine KW.ids (fun hlow hvar=>?_)
  have hnn:H.n≤n:=by
   rcases Nat.lt_or_ge n H.n with h | h
   ·have:n < n:=hlow n (by
     by_cases hw:MkV mid oo n
     ·exact E2.wid n hw
     ·exact (E2.old n h hw).1)
    omega
   ·exact h
  refine KW.ldF 2 ((hgS E2)) rfl rfl rfl rfl rfl rfl rfl rfl rfl ?_
  refine KW.cnd rfl rfl (fun k1=>?_) (fun k1=>?_)
  ·have k1:(i:Int) < (g.ks.length:Int):=k1
   have hsucc:(i+1)*cgG d'=i*cgG d'+cgG d':=Nat.succ_mul _ _
   have hsuccr:(i+1)*rgG d'=i*rgG d'+rgG d':=Nat.succ_mul _ _
   have hsucc4:(i+1)*cgG d'≤4*cgG d':=Nat.mul_le_mul_right _ (by omega)
   have hsuccr4:(i+1)*rgG d'≤4*rgG d':=Nat.mul_le_mul_right _ (by omega)
   have hl2:=E2.old lid hlL hLS.2.1
   have hL2:KI.Sl S2 A2 (.slice (some ⟨lid,0,some 1⟩) L.length L.length) L:=(row_ml (hl2.2.trans hL0)).sl.more (fun j hj=>by rw [hj]; exact hl2.1)
   refine KW.callN1 rfl rfl rfl rfl rfl (l00OwnC (by show L.length≤_; omega) hL2) (fun v HC SC mC _ _ hv=>?_)
   obtain ⟨o3,rfl,hno3,hmo3⟩:=hv
   have tC:=(inferInstance:Stp S2 A2 SC HC).st
   have hSo3:SC o3:=(inferInstance:On (New _ HC.n) HC SC HC).st o3 hno3 |>.1
   have ho3:n≤o3:=hno3.1
   refine KW.thaw o3 _ hSo3 hmo3 ?_
   have t2:St S2 A2 (fun j=>SC j∧j≠o3) HC:=fun j h=>⟨⟨(tC j h).1,fun e=>by have:=hlow j h; omega⟩,(tC j h).2⟩
   have E3:=E2.s t2
   have hM3:=hM2.mv (S':=fun j=>SC j∧j≠o3) (A':=HC) (fun j hj=>t2 j (hM2.wS j hj))
   refine KW.lpM rfl rfl (fun s:List Int × Nat=>[(0,.pointer (some ⟨mid,0,none⟩)),(1,.pointer (some ⟨gid,gk,none⟩)),(2,rowV (lid,L)),(6,.int .i64 cols),(7,.int .i64 i),(8,.slice (some ⟨s.2,0,some 1⟩) s.1.length s.1.length)]) (fun s=>fun j=>SC j∧j≠o3) (fun s=>HC) (fun s=>[(s.2,⟨2,true,s.1.map (Value.int .i64)⟩)]) (fun s=>(1≤s.1.length∧(s.1.length:Int)≤cols)∧∀x∈s.1,0≤x∧x < p) (fun s=>cols.toNat - s.1.length) ((L,o3)) (⟨hLc,hLp⟩) ⟨rfl,rfl,rfl,rfl,rfl,rfl,trivial⟩ rfl rfl (rfl) (fun s hi bE n=>?_)
   obtain ⟨xs,o4⟩:=s
   obtain ⟨⟨x0,x1⟩,x2⟩:=hi
   simp only at x0 x1 x2
   refine KW.cnd rfl rfl (fun k2=>?_) (fun k2=>?_)
   ·have k2:(xs.length:Int) < cols:=k2
    refine KW.app1 (xs:=xs.map (Value.int .i64)) (v:=.int .i64 0) 0 1 rfl rfl rfl rfl rfl rfl rfl rfl rfl rfl rfl rfl rfl rfl rfl rfl rfl rfl rfl rfl rfl rfl rfl (by simp) (by show (xs.length+1)*8≤_; omega) (by omega) ?_
    exact KW.nxt rfl rfl (fun H' g=>⟨(xs++[0],_),⟨by simp only [List.length_append,List.length_singleton]; omega,fun x hx=>(List.mem_append.1 hx).elim (x2 x) (fun hx=>by rw [List.mem_singleton.1 hx]; omega)⟩,by simp only [List.length_append,List.length_singleton]; omega,⟨rfl,rfl,rfl,rfl,rfl,by simp only [List.length_append,List.length_singleton]; rfl,trivial⟩,g.eqT (by simp only [List.map_append]; rfl)⟩)
   ·have k2:¬(xs.length:Int) < cols:=k2
    refine KW.lpM rfl rfl (fun s:Nat × List Int × Nat=>[(0,.pointer (some ⟨mid,0,none⟩)),(1,.pointer (some ⟨gid,gk,none⟩)),(2,rowV (lid,L)),(6,.int .i64 cols),(7,.int .i64 i),(8,.slice (some ⟨s.2.2,0,some 1⟩) s.2.1.length s.2.1.length),(9,.int .i64 s.1)]) (fun s=>fun j=>SC j∧j≠o3) (fun s=>HC) (fun s=>[(s.2.2,⟨2,true,s.2.1.map (Value.int .i64)⟩)]) (fun s=>(1≤s.1∧(s.1:Int)≤g.l)∧(s.2.1.length:Int)=cols+(s.1 - 1)∧∀x∈s.2.1,0≤x∧x < p) (fun s=>g.l.toNat - s.1) ((1,xs,o4)) (⟨⟨Nat.le_refl _,g3⟩,by simp only; omega,x2⟩) ⟨rfl,rfl,rfl,rfl,rfl,rfl,rfl,trivial⟩ rfl rfl (rfl) (fun s hi bE n=>?_)
    obtain ⟨k,ys,o5⟩:=s
    obtain ⟨⟨y0,y1⟩,y2,y3⟩:=hi
    simp only at y0 y1 y2 y3
    refine KW.ldF 1 ((hgS E3)) rfl rfl rfl rfl rfl rfl rfl rfl rfl ?_
    refine KW.cnd rfl rfl (fun k3=>?_) (fun k3=>?_)
    ·have k3:(k:Int) < g.l:=k3
     have e_i:IntKind.i64.wrap ((i:Int)+1)=(i:Int)+1:=wr (by omega) (by omega)
     refine KW.ldF 0 ((hmS hM3)) rfl rfl rfl rfl rfl rfl rfl rfl rfl ?_
     refine KW.callE rfl rfl rfl rfl rfl (l03Power p (IntKind.i64.wrap ((i:Int)+1)) (k:Int) hp31 (by rw [e_i]; omega) (by omega)) (fun _ _=>?_)
     have hpw:=pw_ok hp31.1 (p:=p) (a:=IntKind.i64.wrap ((i:Int)+1)) (k:Int).toNat
     refine KW.app1 (xs:=ys.map (Value.int .i64)) (v:=.int .i64 (pw p (IntKind.i64.wrap ((i:Int)+1)) (k:Int).toNat)) 0 1 rfl rfl rfl rfl rfl rfl rfl rfl rfl rfl rfl rfl rfl rfl rfl rfl rfl rfl rfl rfl rfl rfl rfl (by simp) (by show (ys.length+1)*8≤_; omega) (by show ys.length+1≤_; omega) ?_
     refine KW.nxt rfl rfl (fun H' g=>⟨(k+1,ys++[pw p (IntKind.i64.wrap ((i:Int)+1)) (k:Int).toNat],_),⟨⟨by simp only; omega,by simp only; omega⟩,by simp only [List.length_append,List.length_singleton]; omega,fun x hx=>(List.mem_append.1 hx).elim (y3 x) (fun hx=>by rw [List.mem_singleton.1 hx]; exact hpw)⟩,by first | omega | (simp only; omega),⟨rfl,rfl,rfl,rfl,rfl,by simp only [List.length_append,List.length_singleton]; rfl,congrArg (Value.int .i64) (inc64 (by omega)),trivial⟩,g.eqT (by simp only [List.map_append]; rfl)⟩)
    ·have k3:¬(k:Int) < g.l:=k3
     have ykl:(ys.length:Int)=cols+(g.l - 1):=by omega
     refine KW.ldF 2 ((hgS E3)) rfl rfl rfl rfl rfl rfl rfl rfl rfl ?_
     refine KW.adX (hk0.same (H':=HC) (fun j hj=>(E3.old j (hGL j hj).1 (hGS j hj).2).2)) (fun j hj=>(E3.old j (hGL j hj).1 (hGS j hj).2).1) rfl rfl rfl rfl rfl rfl rfl rfl rfl (by omega) k1 (fun y cy id2 q hy hRy hat=>?_)
     have hy:g.ks[i]?=some y:=hy
     have hym:=List.mem_of_getElem? hy
     refine KW.callWF 0 rfl rfl rfl rfl rfl rfl (fun A9 S9 hn9 hS9 t9 hm9 ho9 hno9 hlt9=>?_)
     have ho9:o5 < _:=ho9
     have E9:=E3.s t9.st
     have hM9:=hM3.mv (S':=S9) (A':=A9) (fun j hj=>t9.st j (hM3.wS j hj))
     have hG9:∀j,GS j→S9 j∧A9.m j=H.m j:=fun j hj=>E9.old j (hGL j hj).1 (hGS j hj).2
     have hGC:∀j,GS j→HC.m j=H.m j:=fun j hj=>(E3.old j (hGL j hj).1 (hGS j hj).2).2
     have hG2:∀j,GS j→¬MkV mid oo2 j:=fun j hj hw=>by
      rcases hW2 j hw with h | h
      ·exact (hGS j hj).2 h
      ·have:=(hGL j hj).1; omega
     have hat9:Has3 GS A9 id2 q cy:=by
      obtain ⟨q0,b,q1,q2⟩:=hat
      exact ⟨q0,b,((hG9 id2 q0).2.trans (hGC id2 q0).symm).trans q1,q2⟩
     have o5n:H.n≤o5:=by
      rcases Nat.lt_or_ge o5 H.n with h | h
      ·by_cases hw:MkV mid oo o5
       ·exact absurd (E3.wid o5 hw) hno9
       ·exact absurd (E3.old o5 h hw).1 hno9
      ·exact h
     have key:=ih (S:=S9) (H0:=A9) (g:=y) (cs:=cy) (gid:=id2) (gk:=q) (cols:=cols2) (ow:=ow2) (L:=ys) (rr:=rr2) (GS:=GS) (oo:=oo2) (lid:=o5) (by omega) (g6 y hym) (w2 y hym) (RG.same d' (fun j hj=>(hG9 j hj).2.trans (hGC j hj).symm) hRy) hat9 (fun j hj=>⟨(hG9 j hj).1,hG2 j hj⟩) hM9 ⟨(hS9 _).2 (.inr rfl),fun hw=>hno9 (hM3.wS _ (.inl hw)),fun hv=>hno9 (hM3.wS _ (.inr hv))⟩ hm9 ⟨by omega,by omega⟩ y3 (by omega) ok2 (by omega)
     refine ⟨_,_,fun j hj=>(t9.st j (hM3.wS j (.inl hj))).1,key,fun v H6 S6 m6 t6 w6 hv6=>?_⟩
     obtain ⟨cols',ow',rr',oo',hM',c1',c2',r',ok',hV',hW'⟩:=hv6
     have E6:=E9.w t6 (fun j hj=>hW2 j hj)
     have hin:∀j,(MkV mid oo2 j∨RV rr2 j∨j=o5∨New _ H6.n j)→S6 j:=fun j hj=>by
      rcases hj with h | h | h | h
      ·exact (t6 j (hM9.wS j (.inl h))).1
      ·exact (t6 j (hM9.wS j (.inr h))).1
      ·rw [h]; exact (t6 o5 ((hS9 _).2 (.inr rfl))).1
      ·exact w6 j h
     have hM6:MkrI p cols' ow' rr' mid S6 H6 oo':=hM'.mv fun j hj=>⟨hin j (hM'.wS j hj),rfl⟩
     refine KW.nxt rfl rfl (fun H' g=>⟨⟨i+1,S6,H6,cols',ow',rr',oo'⟩,⟨by simp only; omega,hM6,E6,by simp only; omega,by simp only; omega,by simp only; omega,ok',fun j hj=>by rcases hV' j hj with h | h | h; exact hV2 j h; exact .inr (by omega); exact .inr (by have:=h.1; omega),fun j hj=>by rcases hW' j hj with h | h; exact hW2 j h; exact .inr (by have:=h.1; omega)⟩,by first | omega | (simp only; omega),⟨rfl,rfl,rfl,rfl,congrArg (Value.int .i64) (inc64 (by omega)),trivial⟩,g⟩)
  ·refine KW.endW rfl rfl rfl rfl (fun H9 g=>by have:=g.n_; omega) (fun j h1 h2=>E2.old j h1 h2) (fun H9 gg=>?_)
   have hn9:=gg.n_
   have hf9:∀j,MkV mid oo2 j∨RV rr2 j→j < H9.n∧H9.m j=A2.m j:=fun j hj=>by
    have hf:=gg.froz j (hM2.wS j hj)
    exact ⟨by omega,hf.2⟩
   refine ⟨cols2,ow2,rr2,oo2,hM2.mv (fun j hj=>⟨?_,(hf9 j hj).2⟩),by omega,by simp only [cgG]; omega,by simp only [rgG]; omega,ok2,fun j hj=>?_,fun j hj=>?_⟩
   ·rcases hj with hj | hj
    ·rcases hW2 j hj with h | h
     ·exact .inl h
     ·exact .inr (.inr (.inr ⟨h,(hf9 j (.inl hj)).1⟩))
    ·rcases hV2 j hj with h | h
     ·exact .inr (.inl h)
     ·exact .inr (.inr (.inr ⟨h,(hf9 j (.inr hj)).1⟩))
   ·rcases hV2 j hj with h | h
    ·exact .inl h
    ·exact .inr (.inr ⟨h,(hf9 j (.inr hj)).1⟩)
   ·rcases hW2 j hj with h | h
    ·exact .inl h
    ·exact .inr ⟨h,(hf9 j (.inl hj)).1⟩
end
theorem rows_sl {X:Ids} {A:AH} {o:Nat} {ty:TypeId} {out:List RwT} (ho:X o) (hm:A.m o=some ⟨ty,true,out.map rowV⟩) (hr:∀x∈out,X x.1∧A.m x.1=some ⟨2,true,x.2.map (Value.int .i64)⟩):KI.sl.Sl X A (.slice (some ⟨o,0,some 1⟩) out.length out.length) (out.map Prod.snd):=by
  refine .inr ⟨o,0,out.length,_,by rw [List.length_map]; rfl,by rw [List.length_map]; exact Nat.le_refl _,ho,hm,by simp [Kn.sl],fun i x hx=>?_⟩
  rw [List.getElem?_map] at hx
  obtain ⟨y,hy,rfl⟩:=Option.map_eq_some_iff.1 hx
  obtain ⟨h1,h2⟩:=hr y (List.mem_of_getElem? hy)
  refine ⟨rowV y,?_,(row_ml h2).sl.more (fun id h=>by rw [h]; exact h1)⟩
  show ((out.map rowV).drop (0+i*1)).take 1=[rowV y]
  rw [List.take_one,Nat.zero_add,Nat.mul_one,List.head?_drop,List.getElem?_map,hy]; rfl
def ShP (N p:Int) (n:Nat) (v:Value) (H1:AH):Prop:=
  ∃(h p' c:Int) (a1 a2:Option Addr) (n1 c1 n2 c2:Nat) (code:Int),v=.tuple #[.agg #[.int .i64 h,.slice a1 n1 c1,.int .i64 p',.int .i64 c,.slice a2 n2 c2],.int .i64 code]∧(code=0→∃(ow:List Int) (rows:List (List Int)),n1=ow.length∧n2=rows.length∧OkSch h ow p' c rows∧h=N∧p'=p∧KI.Sl (New n H1.n) H1 (.slice a1 ow.length c1) ow∧KI.sl.Sl (New n H1.n) H1 (.slice a2 rows.length c2) rows)
section
variable {S:Ids} {H0:AH}
theorem l04Told (h p c:Int) (hp:I64 p) {a1 c1 a2 c2} {ow:List Int} {rows:List (List Int)} (hO:B_Int64S ow) (hB:B_Int64SS rows) (ho:KI.Sl S H0 (.slice a1 ow.length c1) ow) (hs:KI.sl.Sl S H0 (.slice a2 rows.length c2) rows):
    Spec Try.prog S H0 200 [.agg #[.int .i64 h,.slice a1 ow.length c1,.int .i64 p,.int .i64 c,.slice a2 rows.length c2]] (fun v=>(OkSch h ow p c rows∧v=.tuple #[.agg #[.int .i64 h,.slice a1 ow.length c1,.int .i64 p,.int .i64 c,.slice a2 rows.length c2],.int .i64 0])∨v=.tuple #[.agg #[.int .i64 0,.slice none 0 0,.int .i64 0,.int .i64 0,.slice none 0 0],.int .i64 3]):=by
  refine Spec.of1 Try.func200 rfl (by kernel_rfl) rfl (fun H _=>?_)
  refine KW.callV1 rfl rfl rfl rfl rfl (fun H1 g _=>l04Ok (S:=Low H1.n) (H0:=H1) h p c hp hO hB (g.has (j:=0) rfl rfl) ho.up hs.up) (fun n1 m1=>?_)
  by_cases hk:OkSch h ow p c rows
  · rw [tv_true hk]
    refine KW.cF rfl rfl (by first | (simp; done) | decide) ?_
    exact KW.ret rfl rfl rfl rfl (.inl ⟨hk,rfl⟩)
  · rw [tv_false hk]
    refine KW.cT rfl rfl (by first | (simp; done) | decide) ?_
    refine KW.build rfl rfl rfl rfl rfl (built_Scheme0) ?_
    exact KW.ret rfl rfl rfl rfl (.inr rfl)
structure LgS where
  i:Nat
  S:Ids
  A:AH
  out:List RwT
  l:Value
  tail:List Var
structure LgI (p cols:Int) (oo:Option (Nat × Nat)) (ow:List Int) (rr:List RwT) (H:AH) (s:LgS):Prop where
  le:s.i≤rr.length
  old:∀j,j < H.n→s.S j∧s.A.m j=H.m j
  ab:∀a b,oo=some (a,b)→s.S a∧s.S b∧s.A.m a=some ⟨2,true,ow.map (Value.int .i64)⟩∧s.A.m b=some ⟨36,true,rr.map rowV⟩∧H.n≤a
  rest:∀j x,s.i≤j→rr[j]?=some x→s.S x.1∧s.A.m x.1=some ⟨2,true,x.2.map (Value.int .i64)⟩
  out_:∀x∈s.out,s.S x.1∧s.A.m x.1=some ⟨2,true,x.2.map (Value.int .i64)⟩∧H.n≤x.1∧((x.2.length:Int)=cols∧∀y∈x.2,0≤y∧y < p)∧(∀j z,s.i≤j→rr[j]?=some z→z.1≠x.1)∧∀a b,oo=some (a,b)→a≠x.1∧b≠x.1
  ol:s.out.length=s.i
  form:(s.i=0∧s.l=.slice none 0 0∧s.tail=[])∨(0 < s.i∧∃o,s.l=.slice (some ⟨o,0,some 1⟩) s.i s.i∧s.tail=[(o,⟨36,true,s.out.map rowV⟩)])
theorem built_Maker (p:Int):Try.prog.built 249 [(0,.int .i64 p),(1,.int .i64 1)]=some #[.int .i64 p,.int .i64 1,.slice none 0 0,.slice none 0 0]:=by kernel_rfl
theorem l04Gate {N p:Int} (hN:1≤N∧N≤7) (hp31:2≤p∧p≤31) {g:Gt} {gcs:List Value} {gid gk:Nat} (hg:GF N 4 g) (hR:RG 4 S H0 g gcs) (hgv:Has3 S H0 gid gk gcs):
    SpecM Try.prog S H0 149 [.int .i64 p,.int .i64 N,.pointer (some ⟨gid,gk,none⟩)] (ShP N p):=by
  refine SpecM.of1 Try.func149 rfl (by kernel_rfl) rfl (fun H _=>?_)
  have hgv0:=hgv.up (S':=Low H.n) (H':=H)
  have hR0:RG 4 (Low H.n) H g gcs:=On.R (d:=KG 4) hR
  refine KW.call rfl rfl rfl rfl rfl (l04Wide 4 hg hR0 hgv0) (fun v nw hnw hv=>?_)
  obtain ⟨b,rfl,hb⟩:=hv
  refine KW.cndB rfl rfl (fun k1=>?_) (fun k1=>?_)
  · refine KW.build rfl rfl rfl rfl rfl (built_Scheme0) ?_
    refine KW.retM1 rfl rfl rfl rfl (fun H1 g=>⟨0,0,0,none,none,0,0,0,0,4,rfl,fun h=>by cases h⟩)
  have hw:=hb k1
  refine KW.build rfl rfl rfl rfl rfl (built_Maker _) ?_
  refine KW.lit rfl rfl rfl rfl rfl rfl rfl rfl rfl rfl [.int .i64 1] rfl rfl (fun v hv=>by simp at hv; subst hv; rfl) rfl ?_
  refine KW.freeze 2 rfl (fun A1 S1 hn1 hS1 st1 hm1 hlt1 hno1 hlow1=>?_)
  refine KW.freeze 1 rfl (fun A2 S2 hn2 hS2 st2 hm2 hlt2 hno2 hlow2=>?_)
  have t02:∀j,j < H.n→S2 j∧A2.m j=H.m j:=fun j hj=>by
    have h1:=st1.st j hj
    have h2:=st2.st j h1.1
    exact ⟨h2.1,h2.2.trans h1.2⟩
  have hn1':H.n+1≤nw:=hnw
  have hlit:S2 (nw+1)∧A2.m (nw+1)=some ⟨2,true,[1].map (Value.int .i64)⟩:=by
    have h:=st2.st (nw+1) ((hS1 _).2 (.inr rfl))
    exact ⟨h.1,h.2.trans hm1⟩
  have hM2:MkrI p 1 [] [] nw S2 A2 none:=⟨(hS2 _).2 (.inr rfl),hm2,rfl,fun _=>rfl,fun a b e=>(by cases e),fun x hx=>(by cases hx),by simp⟩
  have hMkv:∀j,MkV nw none j→j=nw:=fun j hj=>hj.elim id (fun ⟨a,b,e,_⟩=>by cases e)
  have key:=node (N:=N) (mid:=nw) hp31 4 (S:=S2) (H0:=A2) (g:=g) (cs:=gcs) (gid:=gid) (gk:=gk) (cols:=1) (ow:=[]) (L:=[1]) (rr:=[]) (GS:=Low H.n) (oo:=none) (lid:=nw+1) (by omega) hg hw (RG.same 4 (fun j hj=>(t02 j hj).2) hR0) (by
    obtain ⟨q0,b,q1,q2⟩:=hgv0
    exact ⟨q0,b,(t02 gid q0).2.trans q1,q2⟩) (fun j hj=>⟨(t02 j hj).1,fun hw=>by have:=hMkv j hw; have hj:j < H.n:=hj; omega⟩) hM2 ⟨hlit.1,fun hw=>by have:=hMkv _ hw; omega,fun ⟨x,hx,_⟩=>by cases hx⟩ hlit.2 ⟨by simp,by simp⟩ (fun x hx=>by rw [List.mem_singleton.1 hx]; omega) (by simp only [cgG]; omega) (fun r hr=>by cases hr) (by simp only [rgG,List.length_nil]; omega)
  refine KW.callW (W:=MkV nw none) (fun j hj=>by rw [hMkv j hj]; exact hM2.mS) rfl rfl rfl rfl rfl key (fun v H6 S6 n6 t6 w6 hv6=>?_)
  obtain ⟨cols,ow,rr,oo,hM,c1,c2,hrl,ok,hV,hW⟩:=hv6
  simp only [cgG,rgG,List.length_nil] at c2 hrl
  have hin:∀j,(MkV nw none j∨RV [] j∨j=nw+1∨New _ H6.n j)→S6 j:=fun j hj=>by
    rcases hj with h | ⟨x,hx,_⟩ | h | h
    · rw [hMkv j h]; exact (t6 nw hM2.mS).1
    · cases hx
    · rw [h]; exact (t6 _ hlit.1).1
    · exact w6 j h
  have hM6:MkrI p cols ow rr nw S6 H6 oo:=hM.mv fun j hj=>⟨hin j (hM.wS j hj),rfl⟩
  have hge:∀j,MkV nw oo j∨RV rr j→nw≤j:=fun j hj=>by
    rcases hj with h | h
    · rcases hW j h with h | h
      · rw [hMkv j h]; exact Nat.le_refl _
      · have:=h.1; omega
    · rcases hV j h with ⟨x,hx,_⟩ | h | h
      · cases hx
      · omega
      · have:=h.1; omega
  have old6:∀j,j < H.n→S6 j∧H6.m j=H.m j:=fun j hj=>by
    have h1:=t02 j hj
    exact ⟨(t6 j h1.1).1,((t6 j h1.1).2 (fun hw=>by have:=hMkv j hw; omega)).trans h1.2⟩
  obtain ⟨a1,d1,e1⟩:∃a1 d1,mkO oo ow.length=.slice a1 ow.length d1:=by
    cases oo with
    | none=>rw [show ow=[] from List.eq_nil_of_length_eq_zero (by rw [hM.len,hM.none_ rfl]; rfl)]; exact ⟨none,0,rfl⟩
    | some ab=>exact ⟨_,_,rfl⟩
  obtain ⟨a2,d2,e2⟩:∃a2 d2,mkR oo rr.length=.slice a2 rr.length d2:=by
    cases oo with
    | none=>rw [hM.none_ rfl]; exact ⟨none,0,rfl⟩
    | some ab=>exact ⟨_,_,rfl⟩
  have hmm:H6.m nw=some ⟨249,true,[.int .i64 p,.int .i64 cols,.slice a1 ow.length d1,.slice a2 rr.length d2]⟩:=by rw [← e1,← e2]; exact hM.mm
  refine KW.thaw nw _ hM6.mS hmm ?_
  refine KW.build rfl rfl rfl rfl rfl (built_Matrix2 _ _) ?_
  refine KW.build rfl rfl rfl rfl rfl (built_Scheme3 _ _ _ _ _ _ _ _ _) ?_
  have hrr:∀(j:Nat) x,rr[j]?=some x→x.1≠nw:=fun j x hx e=>(hM.rb x (List.mem_of_getElem? hx)).2.2 (.inl e)
  refine KW.lpM rfl rfl (fun s:LgS=>[(0,.int .i64 p),(1,.int .i64 N),(6,.pointer (some ⟨H.n,0,some 0⟩)),(7,.int .i64 0),(8,.pointer (some ⟨nw,0,some 1⟩)),(9,.pointer (some ⟨H6.n,0,some 2⟩)),(10,.int .i64 s.i)]) (fun s=>s.S) (fun s=>s.A) (fun s=>[(H.n,⟨38,true,[.int .i64 0,.slice none 0 0,.int .i64 0,.int .i64 0,.slice none 0 0]⟩),(nw,⟨249,true,[.int .i64 p,.int .i64 cols,.slice a1 ow.length d1,.slice a2 rr.length d2]⟩),(H6.n,⟨38,true,[.int .i64 N,.slice a1 ow.length d1,.int .i64 p,.int .i64 cols,s.l]⟩)]++s.tail) (fun s=>LgI p cols oo ow rr H s) (fun s=>rr.length - s.i) (⟨0,fun j=>S6 j∧j≠nw,H6,[],.slice none 0 0,[]⟩) (⟨Nat.zero_le _,fun j hj=>⟨⟨(old6 j hj).1,by omega⟩,(old6 j hj).2⟩,fun a b e=>by obtain ⟨h1,h2,h3,h4,h5,h6,h7⟩:=hM6.some_ a b e; exact ⟨⟨h1,h3⟩,⟨h2,h4⟩,h6,h7,by have:=hge a (.inl (.inr ⟨a,b,e,.inl rfl⟩)); omega⟩,fun j x _ hx=>by obtain ⟨h1,h2,h3⟩:=hM6.rb x (List.mem_of_getElem? hx); exact ⟨⟨h1,hrr j x hx⟩,h2⟩,fun x hx=>(by cases hx),rfl,.inl ⟨rfl,rfl,rfl⟩⟩) ⟨rfl,rfl,rfl,rfl,rfl,rfl,rfl,trivial⟩ rfl rfl (rfl) (fun s hi bE n=>?_)
  obtain ⟨i,S7,A7,out,l,tail⟩:=s
  obtain ⟨ile,old7,ab7,rest7,out7,ol,hform⟩:=hi
  simp only at ile old7 ab7 rest7 out7 ol hform
  haveI o7:On (Low H.n) H S7 A7:=⟨fun j hj=>old7 j hj⟩
  have hcolN:((cols.toNat:Nat):Int)=cols:=Int.toNat_of_nonneg (by omega)
  have hRect:Rect p cols.toNat (out.map Prod.snd):=fun r hr=>by
    obtain ⟨x,hx,rfl⟩:=List.mem_map.1 hr
    obtain ⟨_,_,_,⟨h1,h2⟩,_⟩:=out7 x hx
    exact ⟨by omega,h2⟩
  rcases hform with ⟨hi0,el,et⟩ | ⟨hi0,o,el,et⟩
  case' inl=>subst el et
  case' inr=>subst el et
  all_goals
    refine KW.cnd rfl rfl (fun k2=>?gin) (fun k2=>?gout)
    case gin=>
      have k2:(i:Int) < (rr.length:Int):=k2
      obtain ⟨a,b,eoo⟩:∃a b,oo=some (a,b):=by
        cases h:oo with
        | none=>rw [hM.none_ h] at k2; simp at k2; omega
        | some ab=>exact ⟨ab.1,ab.2,rfl⟩
      obtain ⟨q1,q2,q3,q4,q5⟩:=ab7 a b eoo
      have e2':mkR (some (a,b)) rr.length=.slice a2 rr.length d2:=by rw [← eoo]; exact e2
      cases e2'
      obtain ⟨x,hx⟩:∃x,rr[i]?=some x:=⟨rr[i]'(by omega),List.getElem?_eq_getElem (by omega)⟩
      obtain ⟨x1,x2⟩:=rest7 i x (Nat.le_refl _) hx
      have okx:=ok x (List.mem_of_getElem? hx)
      obtain ⟨xo,xr⟩:=x
      simp only at x1 x2 okx
      refine KW.idx0 rfl rfl rfl rfl rfl rfl rfl rfl rfl (by omega) (k2) ?_
      refine KW.ldP q2 q4 rfl rfl rfl rfl rfl (bload_at (v:=rowV (xo,xr)) (by show (rr.map rowV)[0+((i:Nat):Int).toNat*1]?=_; rw [Int.toNat_natCast,Nat.zero_add,Nat.mul_one,List.getElem?_map,hx]; rfl) rfl rfl) ?_
      refine KW.thaw xo _ x1 x2 ?_
      first
        | (refine KW.lpM rfl rfl (fun s:List Int × Nat=>[(0,.int .i64 p),(1,.int .i64 N),(6,.pointer (some ⟨H.n,0,some 0⟩)),(7,.int .i64 0),(8,.pointer (some ⟨nw,0,some 1⟩)),(9,.pointer (some ⟨H6.n,0,some 2⟩)),(10,.int .i64 i),(11,.slice (some ⟨s.2,0,some 1⟩) s.1.length s.1.length)]) (fun _=>fun j=>S7 j∧j≠xo) (fun _=>A7) (fun s=>[(H.n,⟨38,true,[.int .i64 0,.slice none 0 0,.int .i64 0,.int .i64 0,.slice none 0 0]⟩),(nw,⟨249,true,[.int .i64 p,.int .i64 cols,.slice a1 ow.length d1,.slice (some ⟨b,0,some 1⟩) rr.length rr.length]⟩),(H6.n,⟨38,true,[.int .i64 N,.slice a1 ow.length d1,.int .i64 p,.int .i64 cols,.slice (some ⟨o,0,some 1⟩) i i]⟩),(o,⟨36,true,out.map rowV⟩),(s.2,⟨2,true,s.1.map (Value.int .i64)⟩)]) (fun s=>(1≤s.1.length∧(s.1.length:Int)≤cols)∧∀y∈s.1,0≤y∧y < p) (fun s=>cols.toNat - s.1.length) (xr,xo) ⟨okx.1,okx.2⟩ ⟨rfl,rfl,rfl,rfl,rfl,rfl,rfl,rfl,trivial⟩ rfl rfl rfl (fun s hi bE n=>?_))
        | (refine KW.lpM rfl rfl (fun s:List Int × Nat=>[(0,.int .i64 p),(1,.int .i64 N),(6,.pointer (some ⟨H.n,0,some 0⟩)),(7,.int .i64 0),(8,.pointer (some ⟨nw,0,some 1⟩)),(9,.pointer (some ⟨H6.n,0,some 2⟩)),(10,.int .i64 i),(11,.slice (some ⟨s.2,0,some 1⟩) s.1.length s.1.length)]) (fun _=>fun j=>S7 j∧j≠xo) (fun _=>A7) (fun s=>[(H.n,⟨38,true,[.int .i64 0,.slice none 0 0,.int .i64 0,.int .i64 0,.slice none 0 0]⟩),(nw,⟨249,true,[.int .i64 p,.int .i64 cols,.slice a1 ow.length d1,.slice (some ⟨b,0,some 1⟩) rr.length rr.length]⟩),(H6.n,⟨38,true,[.int .i64 N,.slice a1 ow.length d1,.int .i64 p,.int .i64 cols,.slice none 0 0]⟩),(s.2,⟨2,true,s.1.map (Value.int .i64)⟩)]) (fun s=>(1≤s.1.length∧(s.1.length:Int)≤cols)∧∀y∈s.1,0≤y∧y < p) (fun s=>cols.toNat - s.1.length) (xr,xo) ⟨okx.1,okx.2⟩ ⟨rfl,rfl,rfl,rfl,rfl,rfl,rfl,rfl,trivial⟩ rfl rfl rfl (fun s hi bE n=>?_))
      obtain ⟨xs,o4⟩:=s
      obtain ⟨⟨x0,x3⟩,x4⟩:=hi
      simp only at x0 x3 x4
      refine KW.cnd rfl rfl (fun k3=>?_) (fun k3=>?_)
      · have k3:(xs.length:Int) < cols:=k3
        first
          | (refine KW.app1 (xs:=xs.map (Value.int .i64)) (v:=.int .i64 0) 4 5 rfl rfl rfl rfl rfl rfl rfl rfl rfl rfl rfl rfl rfl rfl rfl rfl rfl rfl rfl rfl rfl rfl rfl (by simp) (by show (xs.length+1)*8≤_; omega) (by omega) ?_
             exact KW.nxt rfl rfl (fun H' g=>⟨(xs++[0],_),⟨⟨by simp only [List.length_append,List.length_singleton]; omega,by simp only [List.length_append,List.length_singleton]; omega⟩,fun y hy=>(List.mem_append.1 hy).elim (x4 y) (fun hy=>by rw [List.mem_singleton.1 hy]; omega)⟩,by simp only [List.length_append,List.length_singleton]; omega,⟨rfl,rfl,rfl,rfl,rfl,rfl,rfl,by simp only [List.length_append,List.length_singleton]; rfl,trivial⟩,g.eqT (by simp only [List.map_append]; rfl)⟩))
          | (refine KW.app1 (xs:=xs.map (Value.int .i64)) (v:=.int .i64 0) 3 4 rfl rfl rfl rfl rfl rfl rfl rfl rfl rfl rfl rfl rfl rfl rfl rfl rfl rfl rfl rfl rfl rfl rfl (by simp) (by show (xs.length+1)*8≤_; omega) (by omega) ?_
             exact KW.nxt rfl rfl (fun H' g=>⟨(xs++[0],_),⟨⟨by simp only [List.length_append,List.length_singleton]; omega,by simp only [List.length_append,List.length_singleton]; omega⟩,fun y hy=>(List.mem_append.1 hy).elim (x4 y) (fun hy=>by rw [List.mem_singleton.1 hy]; omega)⟩,by simp only [List.length_append,List.length_singleton]; omega,⟨rfl,rfl,rfl,rfl,rfl,rfl,rfl,by simp only [List.length_append,List.length_singleton]; rfl,trivial⟩,g.eqT (by simp only [List.map_append]; rfl)⟩))
      · have k3:¬(xs.length:Int) < cols:=k3
        have hxm:=List.mem_of_getElem? hx
        have hxW:=(hM.rb _ hxm).2.2
        simp only at hxW
        have hxn:nw≤xo:=hge xo (.inr ⟨_,hxm,rfl⟩)
        have hdiff:∀j z,i+1≤j→rr[j]?=some z→z.1≠xo:=fun j z hj hz e=>by
          have h1:(rr.map Prod.fst)[i]?=some xo:=by rw [List.getElem?_map,hx]; rfl
          have h2:(rr.map Prod.fst)[j]?=some xo:=by rw [List.getElem?_map,hz]; exact congrArg some e
          have:=(List.getElem?_inj (by rw [List.length_map]; omega) hM.nd).1 (h1.trans h2.symm)
          omega
        have step:∀(A':AH) (S':Ids),(∀id,S' id↔(S7 id∧id≠xo)∨id=o4)→St (fun j=>S7 j∧j≠xo) A7 S' A'→¬(S7 o4∧o4≠xo)→A'.m o4=some ⟨2,true,xs.map (Value.int .i64)⟩→∀(l':Value) (tl':List Var),((i+1=0∧l'=.slice none 0 0∧tl'=[])∨(0 < i+1∧∃o,l'=.slice (some ⟨o,0,some 1⟩) (i+1) (i+1)∧tl'=[(o,⟨36,true,(out++[(o4,xs)]).map rowV⟩)]))→LgI p cols oo ow rr H ⟨i+1,S',A',out++[(o4,xs)],l',tl'⟩:=fun A' S' h1 h2 h3 h4 l' tl' h5=>by
          have mv:∀j,S7 j→j≠xo→S' j∧A'.m j=A7.m j:=fun j hj he=>h2 j ⟨hj,he⟩
          refine ⟨by simp only; omega,fun j hj=>?_,fun a' b' e=>?_,fun j z hj hz=>?_,fun z hz=>?_,by simp only [List.length_append,List.length_singleton]; omega,h5⟩
          · have:=mv j (old7 j hj).1 (by omega)
            exact ⟨this.1,this.2.trans (old7 j hj).2⟩
          · obtain ⟨r1,r2,r3,r4,r5⟩:=ab7 a' b' e
            have m1:=mv a' r1 (fun e'=>hxW (.inr ⟨a',b',e,.inl e'.symm⟩))
            have m2:=mv b' r2 (fun e'=>hxW (.inr ⟨a',b',e,.inr e'.symm⟩))
            exact ⟨m1.1,m2.1,m1.2.trans r3,m2.2.trans r4,r5⟩
          · have hj:i+1≤j:=hj
            obtain ⟨r1,r2⟩:=rest7 j z (by omega) hz
            have m1:=mv z.1 r1 (hdiff j z hj hz)
            exact ⟨m1.1,m1.2.trans r2⟩
          · rcases List.mem_append.1 hz with hz | hz
            · obtain ⟨r1,r2,r3,r4,r5,r6⟩:=out7 z hz
              have m1:=mv z.1 r1 (fun e=>r5 i _ (Nat.le_refl _) hx e.symm)
              exact ⟨m1.1,m1.2.trans r2,r3,r4,fun j y hj hy=>r5 j y (by have hj:i+1≤j:=hj; omega) hy,r6⟩
            · rw [List.mem_singleton.1 hz]
              refine ⟨(h1 _).2 (.inr rfl),h4,?_,⟨by show (xs.length:Int)=cols; omega,x4⟩,fun j y hj hy e=>?_,fun a' b' e=>?_⟩
              · rcases Nat.lt_or_ge o4 H.n with h | h
                · exact absurd ⟨(old7 o4 h).1,by omega⟩ h3
                · exact h
              · have hj:i+1≤j:=hj
                have e:y.1=o4:=e
                obtain ⟨r1,_⟩:=rest7 j y (by omega) hy
                exact h3 (e ▸ ⟨r1,hdiff j y hj hy⟩)
              · obtain ⟨r1,r2,_⟩:=ab7 a' b' e
                exact ⟨fun e'=>h3 (by have e':a'=o4:=e'; rw [← e']; exact ⟨r1,fun e''=>hxW (.inr ⟨a',b',e,.inl e''.symm⟩)⟩),fun e'=>h3 (by have e':b'=o4:=e'; rw [← e']; exact ⟨r2,fun e''=>hxW (.inr ⟨a',b',e,.inr e''.symm⟩)⟩)⟩
        first
          | (refine KW.freeze 4 rfl (fun A' S' hnA hSA stA hmA hoA hnS hlow2=>?_)
             have key9:=step A' S' hSA stA.st hnS hmA
             refine KW.app1 (xs:=out.map rowV) (v:=rowV (o4,xs)) 3 4 rfl rfl rfl rfl rfl rfl rfl rfl rfl rfl rfl rfl rfl rfl rfl rfl rfl rfl rfl rfl rfl rfl rfl (by simp [ol]) (by show (_+1)*24≤_; omega) (by omega) ?_
             exact KW.nxt rfl rfl (fun H' g=>⟨⟨i+1,S',A',out++[(o4,xs)],.slice (some ⟨n+1,0,some 1⟩) (i+1) (i+1),[(n+1,⟨36,true,(out++[(o4,xs)]).map rowV⟩)]⟩,key9 _ _ (.inr ⟨by omega,_,rfl,rfl⟩),by simp only; omega,⟨rfl,rfl,rfl,rfl,rfl,rfl,congrArg (Value.int .i64) (inc64 (by omega)),trivial⟩,g.eqT (by simp only [List.map_append]; rfl)⟩))
          | (refine KW.freeze 3 rfl (fun A' S' hnA hSA stA hmA hoA hnS hlow2=>?_)
             have key9:=step A' S' hSA stA.st hnS hmA
             have ho0:out=[]:=List.eq_nil_of_length_eq_zero (by omega)
             subst ho0
             subst hi0
             refine KW.app0 (v:=rowV (o4,xs)) 3 rfl rfl rfl rfl rfl rfl rfl rfl rfl rfl rfl rfl rfl rfl rfl rfl rfl rfl rfl rfl rfl rfl (by decide) ?_
             exact KW.nxt rfl rfl (fun H' g=>⟨⟨1,S',A',[(o4,xs)],.slice (some ⟨n+1,0,some 1⟩) (1) (1),[(n+1,⟨36,true,([(o4,xs)]).map rowV⟩)]⟩,key9 _ _ (.inr ⟨by omega,_,rfl,rfl⟩),by simp only; omega,⟨rfl,rfl,rfl,rfl,rfl,rfl,rfl,trivial⟩,g.eqT (by simp only [List.map_append]; rfl)⟩))
    case gout=>
      have k2:¬(i:Int) < (rr.length:Int):=k2
      have hl:(out.map Prod.snd).length=i:=by rw [List.length_map]; exact ol
      have hown:∀{X:Ids} {H9:AH},(∀j,S7 j→H.n≤j→X j∧H9.m j=A7.m j)→KI.Sl X H9 (.slice a1 ow.length d1) ow:=fun {X H9} hf=>by
        cases hoo:oo with
        | none=>
          have h0:ow=[]:=List.eq_nil_of_length_eq_zero (by rw [hM.len,hM.none_ hoo]; rfl)
          rw [hoo] at e1
          subst h0
          cases e1
          exact .inl ⟨rfl,none,0,rfl,fun _=>rfl⟩
        | some ab=>
          obtain ⟨a,b⟩:=ab
          obtain ⟨r1,r2,r3,r4,r5⟩:=ab7 a b hoo
          rw [hoo] at e1
          cases e1
          have h1:=hf a r1 r5
          exact (row_ml (h1.2.trans r3)).sl.more (fun j hj=>by rw [hj]; exact h1.1)
      have hB2:B_Int64SS (out.map Prod.snd):=rect_sml hRect (by omega) (by rw [hl]; omega)
      have hO2:B_Int64S ow:=by show ow.length≤_; rw [hM.len]; omega
      have hp64:I64 p:=⟨by omega,by omega⟩
      first
        | (have key:=fun (H1:AH) (T9:List Var) (n9:Nat) (g:Good S7 A7 T9 n9 H1) (hb:H1.m o=some ⟨36,true,out.map rowV⟩∧o < H1.n)=>l04Told (S:=Low H1.n) (H0:=H1) N p cols hp64 (a1:=a1) (c1:=d1) (ow:=ow) (a2:=some ⟨o,0,some 1⟩) (c2:=out.length) (rows:=out.map Prod.snd) hO2 hB2 (hown (fun j hj _=>⟨by have:=(g.froz j hj).1; have:=g.n_; show j < H1.n; omega,(g.froz j hj).2⟩)) (by rw [List.length_map]; exact rows_sl (X:=Low H1.n) hb.2 hb.1 (fun x hx=>by obtain ⟨r1,r2,_⟩:=out7 x hx; exact ⟨by have:=(g.froz x.1 r1).1; have:=g.n_; show x.1 < H1.n; omega,(g.froz x.1 r1).2.trans r2⟩))
           rw [hl] at key
           rw [ol] at key
           refine KW.callVp1 rfl rfl rfl rfl rfl (fun H1 g _=>key H1 _ _ g (g.blk (j:=3) rfl)) (fun v n9 m9 hv=>?_)
           rcases hv with ⟨hk,rfl⟩ | rfl
           · refine KW.retM1 rfl rfl rfl rfl (fun H9 g=>?_)
             refine ⟨N,p,cols,a1,some ⟨o,0,some 1⟩,ow.length,d1,i,i,0,rfl,fun _=>⟨ow,out.map Prod.snd,rfl,hl.symm,hk,rfl,rfl,hown (fun j hj hjn=>⟨⟨hjn,by have:=(g.froz j hj).1; have:=g.n_; omega⟩,(g.froz j hj).2⟩),?_⟩⟩
             have hb:=g.blk (j:=3) rfl
             have hgv:=(g.vars 3 _ rfl).2.2
             have ogeH:H.n≤o:=by
               rcases Nat.lt_or_ge o H.n with h | h
               · exact absurd (old7 o h).1 hgv
               · exact h
             have h9:=rows_sl (X:=New H.n H9.n) (A:=H9) (o:=o) (out:=out) ⟨ogeH,hb.2⟩ hb.1 (fun x hx=>by obtain ⟨r1,r2,r3,_⟩:=out7 x hx; exact ⟨⟨r3,by have:=(g.froz x.1 r1).1; have:=g.n_; omega⟩,(g.froz x.1 r1).2.trans r2⟩)
             rw [ol] at h9
             rw [hl]
             exact h9
           · refine KW.retM1 rfl rfl rfl rfl (fun H9 g=>?_)
             exact ⟨0,0,0,none,none,0,0,0,0,3,rfl,fun h=>by cases h⟩)
        | (have ho0:out=[]:=List.eq_nil_of_length_eq_zero (by omega)
           subst ho0
           have key:=fun (H1:AH) (T9:List Var) (n9:Nat) (g:Good S7 A7 T9 n9 H1)=>l04Told (S:=Low H1.n) (H0:=H1) N p cols hp64 (a1:=a1) (c1:=d1) (ow:=ow) (a2:=none) (c2:=0) (rows:=[]) hO2 hB2 (hown (fun j hj _=>⟨by have:=(g.froz j hj).1; have:=g.n_; show j < H1.n; omega,(g.froz j hj).2⟩)) (.inl ⟨rfl,none,0,rfl,fun _=>rfl⟩)
           refine KW.callVp1 rfl rfl rfl rfl rfl (fun H1 g _=>key H1 _ _ g) (fun v n9 m9 hv=>?_)
           rcases hv with ⟨hk,rfl⟩ | rfl
           · refine KW.retM1 rfl rfl rfl rfl (fun H9 g=>?_)
             exact ⟨N,p,cols,a1,none,ow.length,d1,0,0,0,rfl,fun _=>⟨ow,[],rfl,rfl,hk,rfl,rfl,hown (fun j hj hjn=>⟨⟨hjn,by have:=(g.froz j hj).1; have:=g.n_; omega⟩,(g.froz j hj).2⟩),.inl ⟨rfl,none,0,rfl,fun _=>rfl⟩⟩⟩
           · refine KW.retM1 rfl rfl rfl rfl (fun H9 g=>?_)
             exact ⟨0,0,0,none,none,0,0,0,0,3,rfl,fun h=>by cases h⟩)
end
def powR (p x:Int) (c:Nat):List Int:=(List.range c).map fun k=>pw p x k
theorem powR_len {p x:Int} {c:Nat}:(powR p x c).length=c:=by simp [powR]
theorem powR_next {p x:Int} {c:Nat}:powR p x (c+1)=powR p x c++[pw p x c]:=by simp [powR,List.range_succ]
theorem powR_rect {p:Int} (hp:2≤p) {c:Nat} {xs:List Int}:Rect p c (xs.map fun x=>powR p x c):=fun r hr=>by
  obtain ⟨x,_,rfl⟩:=List.mem_map.1 hr
  refine ⟨powR_len,fun y hy=>?_⟩
  obtain ⟨k,_,rfl⟩:=List.mem_map.1 hy
  exact pw_ok hp k
section
variable {S:Ids} {H0:AH}
theorem l03Powers {p:Int} (hp31:2≤p∧p≤31) {c:Nat} (hc:c≤20) {xs:List Int} (hxl:xs.length≤20) (hx:∀x∈xs,0≤x∧x < p) {a1 c1} (hs0:KI.Sl S H0 (.slice a1 xs.length c1) xs):SpecM Try.prog S H0 202 [.int .i64 p,.slice a1 xs.length c1,.int .i64 c] (MkMx p c (xs.map fun x=>powR p x c)):=by
  refine SpecM.of1 Try.func202 rfl (by kernel_rfl) rfl (fun H _=>?_)
  have hs:=hs0.up (S':=Low H.n) (H':=H)
  refine KW.build rfl rfl rfl rfl rfl (built_Matrix2 _ _) ?_
  refine KW.lpM rfl rfl (fun s:CpS=>[(0,.int .i64 p),(1,.slice a1 xs.length c1),(2,.int .i64 c),(6,.pointer (some ⟨H.n,0,some 0⟩)),(7,.pointer (some ⟨H.n+1,0,some 1⟩)),(8,.int .i64 s.i)]) (fun s=>s.S) (fun s=>s.A) (fun s=>[(H.n,⟨26,true,[.int .i64 0,.int .i64 0,.slice none 0 0]⟩),(H.n+1,⟨26,true,[.int .i64 p,.int .i64 c,s.l]⟩)]++s.tail) (fun s=>CqI (fun x=>powR p x c) xs H H (Low H.n) s) (fun s=>xs.length - s.i) (⟨0,Low H.n,H,fun _=>False,[],.slice none 0 0,[]⟩) (⟨RwI.start,.inl ⟨rfl,rfl,rfl,rfl⟩⟩) ⟨rfl,rfl,rfl,rfl,rfl,rfl,trivial⟩ rfl rfl (rfl) (fun s hi bE n=>?_)
  obtain ⟨i,S1,A1,V,cs,l,tail⟩:=s
  obtain ⟨hq,hform⟩:=hi
  simp only at hq hform
  haveI:Stp (Low H.n) H S1 A1:=⟨hq.old⟩
  have hle:=hq.le
  have hcl:=hq.b.len
  rw [List.length_map,List.length_take] at hcl
  simp only at hle hcl
  have hs1:=hs.up (S':=S1) (H':=A1)
  rcases hform with ⟨hi0,e1,e2,e3⟩ | ⟨hi0,o,e1,e2⟩
  case' inl=>subst e1 e2 e3
  case' inr=>subst e1 e2
  all_goals
    refine KW.cnd rfl rfl (fun j1=>?gin) (fun j1=>?gout)
    case gin=>
      have j1:(i:Int) < (xs.length:Int):=j1
      obtain ⟨y,hy⟩:∃y,xs[i]?=some y:=⟨xs[i]'(by omega),List.getElem?_eq_getElem (by omega)⟩
      have hyb:=hx y (List.mem_of_getElem? hy)
      refine KW.lit rfl rfl rfl rfl rfl rfl rfl rfl rfl rfl [] rfl rfl (fun v hv=>by simp at hv) rfl ?_
      first
        | (refine KW.lpM rfl rfl (fun s:Nat × Nat=>[(0,.int .i64 p),(1,.slice a1 xs.length c1),(2,.int .i64 c),(6,.pointer (some ⟨H.n,0,some 0⟩)),(7,.pointer (some ⟨H.n+1,0,some 1⟩)),(8,.int .i64 i),(9,.slice (some ⟨s.2,0,some 1⟩) s.1 s.1),(10,.int .i64 s.1)]) (fun _=>S1) (fun _=>A1) (fun s=>[(H.n,⟨26,true,[.int .i64 0,.int .i64 0,.slice none 0 0]⟩),(H.n+1,⟨26,true,[.int .i64 p,.int .i64 c,.slice (some ⟨o,0,some 1⟩) i i]⟩),(o,⟨36,true,cs⟩),(s.2,⟨2,true,(powR p y s.1).map (Value.int .i64)⟩)]) (fun s=>s.1≤c) (fun s=>c - s.1) (0,_) (Nat.zero_le _) ⟨rfl,rfl,rfl,rfl,rfl,rfl,rfl,rfl,trivial⟩ rfl rfl rfl (fun s hi bE n=>?_))
        | (refine KW.lpM rfl rfl (fun s:Nat × Nat=>[(0,.int .i64 p),(1,.slice a1 xs.length c1),(2,.int .i64 c),(6,.pointer (some ⟨H.n,0,some 0⟩)),(7,.pointer (some ⟨H.n+1,0,some 1⟩)),(8,.int .i64 i),(9,.slice (some ⟨s.2,0,some 1⟩) s.1 s.1),(10,.int .i64 s.1)]) (fun _=>S1) (fun _=>A1) (fun s=>[(H.n,⟨26,true,[.int .i64 0,.int .i64 0,.slice none 0 0]⟩),(H.n+1,⟨26,true,[.int .i64 p,.int .i64 c,.slice none 0 0]⟩),(s.2,⟨2,true,(powR p y s.1).map (Value.int .i64)⟩)]) (fun s=>s.1≤c) (fun s=>c - s.1) (0,_) (Nat.zero_le _) ⟨rfl,rfl,rfl,rfl,rfl,rfl,rfl,rfl,trivial⟩ rfl rfl rfl (fun s hi bE n=>?_))
      obtain ⟨k,o4⟩:=s
      simp only at hi
      refine KW.cnd rfl rfl (fun k2=>?_) (fun k2=>?_)
      · have k2:(k:Int) < (c:Int):=k2
        refine KW.getI hs1 rfl rfl rfl rfl rfl rfl rfl rfl rfl rfl rfl rfl rfl rfl rfl rfl (by omega) (j1) (fun y2 hy2=>?_)
        have hy2:xs[i]?=some y2:=hy2
        rw [hy] at hy2
        cases hy2
        refine KW.callE rfl rfl rfl rfl rfl (l03Power p y (k:Int) hp31 hyb (by omega)) (fun _ _=>?_)
        rw [Int.toNat_natCast]
        first
          | (refine KW.app1 (xs:=(powR p y k).map (Value.int .i64)) (v:=.int .i64 (pw p y k)) 3 4 rfl rfl rfl rfl rfl rfl rfl rfl rfl rfl rfl rfl rfl rfl rfl rfl rfl rfl rfl rfl rfl rfl rfl (by simp [powR_len]) (by show (k+1)*8≤_; omega) (by show k+1≤_; omega) ?_
             exact KW.nxt rfl rfl (fun H' g=>⟨(k+1,_),by simp only; omega,by simp only; omega,⟨rfl,rfl,rfl,rfl,rfl,rfl,rfl,congrArg (Value.int .i64) (inc64 (by omega)),trivial⟩,g.eqT (by rw [powR_next,List.map_append]; rfl)⟩))
          | (refine KW.app1 (xs:=(powR p y k).map (Value.int .i64)) (v:=.int .i64 (pw p y k)) 2 3 rfl rfl rfl rfl rfl rfl rfl rfl rfl rfl rfl rfl rfl rfl rfl rfl rfl rfl rfl rfl rfl rfl rfl (by simp [powR_len]) (by show (k+1)*8≤_; omega) (by show k+1≤_; omega) ?_
             exact KW.nxt rfl rfl (fun H' g=>⟨(k+1,_),by simp only; omega,by simp only; omega,⟨rfl,rfl,rfl,rfl,rfl,rfl,rfl,congrArg (Value.int .i64) (inc64 (by omega)),trivial⟩,g.eqT (by rw [powR_next,List.map_append]; rfl)⟩))
      · have k2:¬(k:Int) < (c:Int):=k2
        obtain rfl:k=c:=by omega
        have fin:∀(A':AH) (S':Ids) (o9:Nat),(∀id,S' id↔S1 id∨id=o9)→St S1 A1 S' A'→¬S1 o9→St S1 A1 S' A'∧(∀id,id=o9→S' id∧H.n≤id∧¬S1 id):=fun A' S' o9 h1 h2 h3=>by
          refine ⟨h2,fun id e=>?_⟩
          subst e
          refine ⟨(h1 _).2 (.inr rfl),?_,h3⟩
          rcases Nat.lt_or_ge id H.n with h | h
          · exact absurd (hq.old id h).1 h3
          · exact h
        have epl:(powR p y k).length=k:=powR_len
        first
          | (refine KW.freeze 3 rfl (fun A' S' hnA hSA stA hmA hoA hnS hlow2=>?_)
             obtain ⟨f1,f2⟩:=fin A' S' _ hSA stA.st hnS
             have hrow:=row_ml (xs:=powR p y k) hmA
             rw [epl] at hrow
             refine KW.app1 (xs:=cs) (v:=.slice (some ⟨o4,0,some 1⟩) k k) 2 3 rfl rfl rfl rfl rfl rfl rfl rfl rfl rfl rfl rfl rfl rfl rfl rfl rfl rfl rfl rfl rfl rfl rfl (by omega) (by show (_+1)*24≤_; omega) (by omega) ?_
             exact KW.nxt rfl rfl (fun H' g=>⟨⟨i+1,S',A',_,_,_,_⟩,⟨hq.nextX (o':=0) f1 f2 hy hrow,.inr ⟨by simp only; omega,_,rfl,rfl⟩⟩,by simp only; omega,⟨rfl,rfl,rfl,rfl,rfl,congrArg (Value.int .i64) (inc64 (by omega)),trivial⟩,g⟩))
          | (refine KW.freeze 2 rfl (fun A' S' hnA hSA stA hmA hoA hnS hlow2=>?_)
             obtain ⟨f1,f2⟩:=fin A' S' _ hSA stA.st hnS
             have hrow:=row_ml (xs:=powR p y k) hmA
             rw [epl] at hrow
             refine KW.app0 (v:=.slice (some ⟨o4,0,some 1⟩) k k) 2 rfl rfl rfl rfl rfl rfl rfl rfl rfl rfl rfl rfl rfl rfl rfl rfl rfl rfl rfl rfl rfl rfl (by decide) ?_
             subst hi0
             exact KW.nxt rfl rfl (fun H' g=>⟨⟨1,S',A',_,_,_,_⟩,⟨hq.nextX (o':=0) f1 f2 hy hrow,.inr ⟨by simp only; omega,_,rfl,rfl⟩⟩,by simp only; omega,⟨rfl,rfl,rfl,rfl,rfl,rfl,trivial⟩,g⟩))
    case gout=>
      have j1:¬(i:Int) < (xs.length:Int):=j1
      have he:i=xs.length:=by omega
      have el:(xs.map fun x=>powR p x c).length=xs.length:=List.length_map ..
      refine KW.retM1 rfl rfl rfl rfl (fun H1 g=>?_)
      first
        | (have h0:xs=[]:=List.eq_nil_of_length_eq_zero (by omega)
           subst h0
           exact ⟨none,0,rfl,.inl ⟨rfl,_,_,rfl,fun _=>rfl⟩⟩)
        | (refine ⟨some ⟨o,0,some 1⟩,i,by rw [el,← he]; rfl,?_⟩
           have hm:=((⟨hq.le,hq.old,hq.b,hq.v⟩:RwI (fun x=>powR p x c) xs H (Low H.n) H ⟨i,S1,A1,V,cs,o⟩).ml he g (j:=2) rfl (g.ge (H1:=H) (j:=2) rfl)).to (KLe.row (KLe.refl KI))
           rw [el]
           rw [← he] at hm ⊢
           exact hm)
def upI (b:Int) (c:Nat):List Int:=(List.range c).map fun (k:Nat)=>b+(k:Int)
theorem upI_len {b:Int} {c:Nat}:(upI b c).length=c:=by simp [upI]
theorem upI_next {b:Int} {c:Nat}:upI b (c+1)=upI b c++[b+(c:Int)]:=by simp [upI,List.range_succ]
theorem upI_in {b:Int} {c:Nat} {x:Int} (h:x∈upI b c):b≤x∧x < b+c:=by
  obtain ⟨k,hk,rfl⟩:=List.mem_map.1 h
  have:=List.mem_range.1 hk
  omega
def ScP (m:Nat) (H1:AH) (cs:List Value):Prop:=
  ∃(h p c:Int) (ow:List Int) (rows:List (List Int)) (a1 a2:Option Addr) (c1 c2:Nat),cs=[.int .i64 h,.slice a1 ow.length c1,.int .i64 p,.int .i64 c,.slice a2 rows.length c2]∧OkSch h ow p c rows∧KI.Sl (New m H1.n) H1 (.slice a1 ow.length c1) ow∧KI.sl.Sl (New m H1.n) H1 (.slice a2 rows.length c2) rows
theorem prime_small {p:Int} (hp:p=2∨p=3∨p=5∨p=7∨p=11):PrimeP p:=by
  rcases hp with rfl | rfl | rfl | rfl | rfl
  · exact ⟨by decide,by decide,fun d h2 hd=>by omega⟩
  · exact ⟨by decide,by decide,fun d h2 hd=>(by decide:∀d:Nat,d < 11→2≤d→(d:Int) < 3→¬(3:Int)%(d:Int)=0) d (by omega) h2 hd⟩
  · exact ⟨by decide,by decide,fun d h2 hd=>(by decide:∀d:Nat,d < 11→2≤d→(d:Int) < 5→¬(5:Int)%(d:Int)=0) d (by omega) h2 hd⟩
  · exact ⟨by decide,by decide,fun d h2 hd=>(by decide:∀d:Nat,d < 11→2≤d→(d:Int) < 7→¬(7:Int)%(d:Int)=0) d (by omega) h2 hd⟩
  · exact ⟨by decide,by decide,fun d h2 hd=>(by decide:∀d:Nat,d < 11→2≤d→(d:Int) < 11→¬(11:Int)%(d:Int)=0) d (by omega) h2 hd⟩
theorem curve {p:Int} (hp:p=5∨p=7∨p=11) {q least:Nat} (hn:1≤q∧q≤4) (hl:1≤least∧least≤q):SpecM Try.prog S H0 150 [.int .i64 p,.int .i64 q,.int .i64 least] (fun m v H1=>∃cs:List Value,v=.tuple #[.agg cs.toArray,.int .i64 0]∧ScP m H1 cs):=by
  have hpr:PrimeP p:=prime_small (by omega)
  have hp31:2≤p∧p≤31:=⟨hpr.1,hpr.2.1⟩
  refine SpecM.of1 Try.func150 rfl (by kernel_rfl) rfl (fun H _=>?_)
  refine KW.callE rfl rfl rfl rfl rfl (specIsPrime p) (fun _ _=>?_)
  rw [tv_true hpr]
  refine KW.tF rfl rfl (by first | (simp; done) | decide) ?_
  refine KW.callE rfl rfl rfl rfl rfl (l00In _ _ _) (fun _ _=>?_)
  refine KW.tF rfl rfl (by simp; omega) ?_
  refine KW.callE rfl rfl rfl rfl rfl (l00In _ _ _) (fun _ _=>?_)
  refine KW.cF rfl rfl (by simp; omega) ?_
  refine KW.no rfl rfl (by omega) ?_
  refine KW.lit rfl rfl rfl rfl rfl rfl rfl rfl rfl rfl [] rfl rfl (fun v hv=>by simp at hv) rfl ?_
  refine KW.lit rfl rfl rfl rfl rfl rfl rfl rfl rfl rfl [] rfl rfl (fun v hv=>by simp at hv) rfl ?_
  refine KW.lpM rfl rfl (fun s:Nat × Nat × Nat=>[(0,.int .i64 p),(1,.int .i64 q),(2,.int .i64 least),(6,.pointer (some ⟨H.n,0,some 0⟩)),(8,.slice (some ⟨s.2.1,0,some 1⟩) s.1 s.1),(9,.slice (some ⟨s.2.2,0,some 1⟩) s.1 s.1),(10,.int .i64 s.1)]) (fun s=>Low H.n) (fun s=>H) (fun s=>[(H.n,⟨38,true,[.int .i64 0,.slice none 0 0,.int .i64 0,.int .i64 0,.slice none 0 0]⟩),(s.2.1,⟨2,true,(upI 1 s.1).map (Value.int .i64)⟩),(s.2.2,⟨2,true,(upI 0 s.1).map (Value.int .i64)⟩)]) (fun s=>s.1≤q) (fun s=>q - s.1) ((0,_,_)) (Nat.zero_le _) ⟨rfl,rfl,rfl,rfl,rfl,rfl,rfl,trivial⟩ rfl rfl (rfl) (fun s hi bE n=>?_)
  obtain ⟨i,o1,o2⟩:=s
  simp only at hi
  refine KW.fact (p:=H.n < n) (fun H1 g=>(g.vars 0 _ rfl).2.1) (fun hfn=>?_)
  refine KW.cnd rfl rfl (fun k1=>?_) (fun k1=>?_)
  · have k1:(i:Int) < (q:Int):=k1
    have e1:IntKind.i64.wrap ((i:Int)+1)=1+(i:Int):=by rw [wr (by omega) (by omega)]; omega
    refine KW.app1 (xs:=(upI 1 i).map (Value.int .i64)) (v:=.int .i64 (IntKind.i64.wrap ((i:Int)+1))) 1 3 rfl rfl rfl rfl rfl rfl rfl rfl rfl rfl rfl rfl rfl rfl rfl rfl rfl rfl rfl rfl rfl rfl rfl (by simp [upI_len]) (by show (i+1)*8≤_; omega) (by show i+1≤_; omega) ?_
    refine KW.app1 (xs:=(upI 0 i).map (Value.int .i64)) (v:=.int .i64 i) 2 3 rfl rfl rfl rfl rfl rfl rfl rfl rfl rfl rfl rfl rfl rfl rfl rfl rfl rfl rfl rfl rfl rfl rfl (by simp [upI_len]) (by show (i+1)*8≤_; omega) (by show i+1≤_; omega) ?_
    refine KW.nxt rfl rfl (fun H' g=>⟨(i+1,_,_),by simp only; omega,by first | omega | (simp only; omega),⟨rfl,rfl,rfl,rfl,rfl,rfl,congrArg (Value.int .i64) (inc64 (by omega)),trivial⟩,g.eqT (by simp only [upI_next,List.map_append,e1,Int.zero_add]; rfl)⟩)
  · have k1:¬(i:Int) < (q:Int):=k1
    have e:i=q:=by omega
    have hup:∀x∈upI 1 i,0≤x∧x < p:=fun x hx=>by have:=upI_in hx; omega
    have key:=fun (H1:AH) (hb:H1.m o1=some ⟨2,true,(upI 1 i).map (Value.int .i64)⟩∧o1 < H1.n)=>l03Powers (S:=Low H1.n) (H0:=H1) (p:=p) hp31 (c:=least) (by omega) (xs:=upI 1 i) (by rw [upI_len]; omega) hup (a1:=some ⟨o1,0,some 1⟩) (c1:=(upI 1 i).length) ((row_ml hb.1).sl.more (fun id h=>by rw [h]; exact hb.2))
    rw [upI_len] at key
    refine KW.callNV1 rfl rfl rfl rfl rfl (fun H1 g _=>key H1 (g.blk (j:=1) rfl)) (fun v HP SP mP tP wP hv=>?_)
    obtain ⟨a5,c5,rfl,hP⟩:=hv
    have hlen:((upI 1 i).map fun x=>powR p x least).length=i:=by rw [List.length_map,upI_len]
    rw [hlen] at hP ⊢
    have hR:Rect p least ((upI 1 i).map fun x=>powR p x least):=powR_rect hp31.1
    have hok:OkSch (q:Int) (upI 0 i) p least ((upI 1 i).map fun x=>powR p x least):=⟨by omega,by omega,⟨hpr,by omega,by omega,by rw [hlen]; omega,fun r hr=>⟨by have:=(hR r hr).1; omega,fun y hy=>by have:=(hR r hr).2 y hy; omega⟩⟩,by omega,by rw [upI_len,hlen],fun y hy=>by have:=upI_in hy; omega⟩
    refine KW.build rfl rfl rfl rfl rfl (built_Scheme3 _ _ _ _ _ _ _ _ _) ?_
    refine KW.retM1 rfl rfl rfl rfl (fun H1 g=>?_)
    have hb:=g.blk (j:=2) rfl
    have hnv:=(g.vars 2 _ rfl).2.2
    have oge:H.n≤o2:=by
      rcases Nat.lt_or_ge o2 H.n with h | h
      · exact absurd (tP.st o2 h).1 hnv
      · exact h
    haveI:=g.out (X:=New n HP.n) (H:=HP) (lo:=H.n) (fun id hid=>by have:=hid.1; omega)
    have h1:KI.Sl (New H.n H1.n) H1 (.slice (some ⟨o2,0,some 1⟩) (upI 0 i).length (upI 0 i).length) (upI 0 i):=(row_ml hb.1).sl.more (fun id h=>by rw [h]; exact ⟨oge,hb.2⟩)
    refine ⟨_,rfl,q,p,least,upI 0 i,(upI 1 i).map (fun x=>powR p x least),some ⟨o2,0,some 1⟩,a5,(upI 0 i).length,c5,by rw [upI_len,hlen]; rfl,hok,h1,?_⟩
    rw [hlen]
    exact hP.up
end
structure FlS where
 i:Nat
 S:Ids
 A:AH
 at_:Nat
 V:Ids
 G:List (List Int)
 cs:List Value
 l:Value
 tail:List Var
structure FlI (p:Int) (k a0:Nat) (H:AH) (id:Nat) (ac:Option Addr) (n cc:Nat) (s:FlS):Prop where
 env:DwE H id s.S s.A
 src:Src ac n cc s.A id s.at_
 at1:s.at_≤a0+20*s.i
 len:s.G.length=s.i
 b:RowsB KI.ml s.S s.A s.V s.G s.cs
 v:∀i,s.V i→H.n≤i
 ok:Rect p k s.G
 form:(s.i=0∧s.l=.slice none 0 0∧s.tail=[]∧s.cs=[])∨(0 < s.i∧∃o,s.l=.slice (some ⟨o,0,some 1⟩) s.i s.i∧s.tail=[(o,⟨36,true,s.cs⟩)])
structure FiI (p:Int) (a0:Nat) (H:AH) (id:Nat) (ac:Option Addr) (n cc:Nat) (V:Ids) (G:List (List Int)) (cs:List Value) (s:DiS):Prop where
 env:DwE H id s.S s.A
 src:Src ac n cc s.A id s.at_
 at1:s.at_≤a0+2*s.h
 b:RowsB KI.ml s.S s.A V G cs
 ok:∀x∈s.xs,0≤x∧x < p
 len:s.xs.length=s.h
section
variable {S:Ids} {H0:AH}
theorem l03Filled {bs:List Int} (hb:∀x∈bs,0≤x∧x < 256) (hl:bs.length≤1048576) {ac:Option Addr} {cc id at_:Nat} {Y:Ids} {p:Int} (hp:2≤p∧p≤31) {rs k:Nat} (hrs:rs≤6) (hk:k≤6) (hat:at_≤700000) (hS:S id) (hY:∀i,Y i→S i∧i≠id) (hsrc:Src ac bs.length cc H0 id at_) (hs:KB.Sl Y H0 (.slice ac bs.length cc) bs):
  SpecW Try.prog S H0 (fun i=>i=id) 61 [.pointer (some ⟨id,0,none⟩),.int .i64 p,.int .i64 rs,.int .i64 k] (fun n v H1=>∃(L:List (List Int)) (at':Nat),L.length=rs∧Rect p k L∧at'≤at_+200∧MkMo p k L n v H1∧Src ac bs.length cc H1 id at'):=by
 refine SpecW.of0 Try.func61 rfl (by kernel_rfl) rfl (fun H hfin hfz=>?_)
 have fx:∀i,S i→Low H.n i∧H.m i=H0.m i:=fun i hi=>hfz i hi
 have hid:id < H.n:=(fx id hS).1
 have hsH:=hs.stX (S':=fun i=>Low H.n i∧i≠id) (H':=H) (fun i hi=>⟨⟨(fx i (hY i hi).1).1,(hY i hi).2⟩,(fx i (hY i hi).1).2⟩)
 have E0:DwE H id (Low H.n) H:=⟨hid,fun i hi=>⟨hi.1,rfl⟩⟩
 refine KW.build rfl rfl rfl rfl rfl (built_Matrix2 _ _) ?_
 refine KW.lpM rfl rfl (fun s:FlS=>[(0,.pointer (some ⟨id,0,none⟩)),(1,.int .i64 p),(2,.int .i64 rs),(3,.int .i64 k),(8,.pointer (some ⟨H.n,0,some 0⟩)),(9,.pointer (some ⟨H.n+1,0,some 1⟩)),(10,.int .i64 s.i)]) (fun s=>s.S) (fun s=>s.A) (fun s=>[(H.n,⟨26,true,[.int .i64 0,.int .i64 0,.slice none 0 0]⟩),(H.n+1,⟨26,true,[.int .i64 p,.int .i64 k,s.l]⟩)]++s.tail) (fun s=>s.i≤rs∧FlI p k at_ H id ac bs.length cc s) (fun s=>rs - s.i) (⟨0,Low H.n,H,at_,fun _=>False,[],[],.slice none 0 0,[]⟩) (⟨Nat.zero_le _,E0,hsrc.mv (fx id hS).2,Nat.le_refl _,rfl,RowsB.nil _ _,fun _ h=>h.elim,fun r hr=>by simp at hr,.inl ⟨rfl,rfl,rfl,rfl⟩⟩) ⟨rfl,rfl,rfl,rfl,rfl,rfl,rfl,trivial⟩ rfl rfl (rfl) (fun s hi bE n=>?_)
 obtain ⟨i,S1,A1,a1,V,G,cs,l,tail⟩:=s
 obtain ⟨hil,E1,src1,at1,lenG,b1,v1,okG,hform⟩:=hi
 simp only at hil E1 src1 at1 lenG b1 v1 okG hform
 have hcl:=b1.len
 have vne:∀i,V i→i≠id:=fun i hi e=>by have:=v1 i hi; omega
 rcases hform with ⟨hi0,e1,e2,e3⟩ | ⟨hi0,o,e1,e2⟩
 case inl=>
  subst e1 e2 e3
  refine KW.cnd rfl rfl (fun k1=>?gin) (fun k1=>?gout)
  case gin=>
   have k1:(i:Int) < (rs:Int):=k1
   refine KW.ids (fun hlow hvar=>?_)
   have hnn:=E1.nle hlow
   refine KW.lit rfl rfl rfl rfl rfl rfl rfl rfl rfl rfl [] rfl rfl (fun v hv=>by simp at hv) rfl ?_
   refine KW.lpM rfl rfl (fun s:DiS=>[(0,.pointer (some ⟨id,0,none⟩)),(1,.int .i64 p),(2,.int .i64 rs),(3,.int .i64 k),(8,.pointer (some ⟨H.n,0,some 0⟩)),(9,.pointer (some ⟨H.n+1,0,some 1⟩)),(10,.int .i64 i),(11,.slice (some ⟨s.o,0,some 1⟩) s.xs.length s.xs.length),(12,.int .i64 s.h)]) (fun s=>s.S) (fun s=>s.A) (fun s=>[(H.n,⟨26,true,[.int .i64 0,.int .i64 0,.slice none 0 0]⟩),(H.n+1,⟨26,true,[.int .i64 p,.int .i64 k,.slice none 0 0]⟩)]++[(s.o,(⟨2,true,s.xs.map (Value.int .i64)⟩:Blk))]) (fun s=>s.h≤k∧FiI p a1 H id ac bs.length cc V G [] s) (fun s=>k - s.h) ⟨0,S1,A1,a1,[],_⟩ ⟨Nat.zero_le _,E1,src1,Nat.le_refl _,b1,fun x hx=>by simp at hx,rfl⟩ ⟨rfl,rfl,rfl,rfl,rfl,rfl,rfl,rfl,rfl,trivial⟩ rfl rfl rfl (fun s hi bE n=>?_)
   obtain ⟨h,S4,A4,a4,xs,o4⟩:=s
   obtain ⟨hq4,E4,src4,at4,b4,ok4,len4⟩:=hi
   simp only at hq4 E4 src4 at4 b4 ok4 len4
   refine KW.cnd rfl rfl (fun k2=>?hin) (fun k2=>?hout)
   case hin=>
    have k2:(h:Int) < (k:Int):=k2
    refine KW.callW (W:=fun i=>i=id) (fun i hi=>by subst hi; exact E4.sid) rfl rfl rfl rfl rfl (srcPick (S:=S4) (H0:=A4) hb hl (n:=p) (by omega) (by omega) E4.sid (fun i hi=>hi) src4 (E4.kb hsH)) (fun v H5 S5 hn5 st5 hw5 hp=>?_)
    obtain ⟨z5,a5,hz5,l5,u5,rfl,src5⟩:=hp
    have hz5:=hz5 (by omega)
    have b5:=b4.mv (S':=S5) (A':=H5) (fun i hi=>⟨(st5 i (b4.sub i hi)).1,(st5 i (b4.sub i hi)).2 (vne i hi)⟩)
    refine KW.app1 (xs:=xs.map (Value.int .i64)) (v:=.int .i64 z5) 2 3 rfl rfl rfl rfl rfl rfl rfl rfl rfl rfl rfl rfl rfl rfl rfl rfl rfl rfl rfl rfl rfl rfl rfl (by simp) (by show (xs.length+1)*8≤_; omega) (by show xs.length+1≤_; omega) ?_
    exact KW.nxt rfl rfl (fun H' g=>⟨⟨h+1,S5,H5,a5,xs++[(z5:Int)],_⟩,⟨by simp only; omega,E4.w st5,src5,by simp only; omega,b5,fun x hx=>(List.mem_append.1 hx).elim (ok4 x) (fun hx=>by rw [List.mem_singleton.1 hx]; omega),by simp only [List.length_append,List.length_singleton]; omega⟩,by simp only; omega,⟨rfl,rfl,rfl,rfl,rfl,rfl,rfl,by simp only [List.length_append,List.length_singleton]; rfl,congrArg (Value.int .i64) (inc64 (by omega)),trivial⟩,g.eqT (by simp only [List.map_append]; rfl)⟩)
   case hout=>
    have k2:¬(h:Int) < (k:Int):=k2
    have ehk:h=k:=by omega
    refine KW.freeze 2 rfl (fun A6 S6 hn6 hS6 st6 hm6 ho6 hnS6 hlow6=>?_)
    have o6ge:∀i,S6 i∧¬S4 i→H.n≤i:=fun i hi=>by
     rcases Nat.lt_or_ge i H.n with hh | hh
     ·by_cases e:i=id
      ·exact (hi.2 (e ▸ E4.sid)).elim
      ·exact (hi.2 (E4.old i ⟨hh,e⟩).1).elim
     ·exact hh
    have fI:=(b4.mv (S':=S6) (A':=A6) (fun i hi=>st6.st i (b4.sub i hi))).snoc (ml1' (row_ml (xs:=xs) hm6)) (fun i hi=>(hS6 i).2 (.inr hi)) (fun i p r=>hnS6 (r ▸ b4.sub i p))
    have fok:Rect p k (G++[xs]):=fun r hr=>(List.mem_append.1 hr).elim (okG r) (fun hr=>by rw [List.mem_singleton.1 hr]; exact ⟨len4.trans ehk,ok4⟩)
    have fV:∀j,V j∨j=o4→H.n≤j:=fun j hj=>hj.elim (v1 j) (fun e=>o6ge j ⟨(hS6 j).2 (.inr e),fun hx=>hnS6 (e ▸ hx)⟩)
    subst hi0
    refine KW.app0 (v:=.slice (some ⟨o4,0,some 1⟩) xs.length xs.length) 2 rfl rfl rfl rfl rfl rfl rfl rfl rfl rfl rfl rfl rfl rfl rfl rfl rfl rfl rfl rfl rfl rfl (by decide) ?_
    exact KW.nxt rfl rfl (fun H' g=>⟨⟨1,S6,A6,a4,_,G++[xs],_,_,_⟩,⟨by simp only; omega,E4.s st6.st,src4.mv (st6.st id E4.sid).2,by simp only; omega,by simp only [List.length_append,List.length_singleton]; omega,fI,fV,fok,.inr ⟨by simp only; omega,_,rfl,rfl⟩⟩,by simp only; omega,⟨rfl,rfl,rfl,rfl,rfl,rfl,rfl,trivial⟩,g⟩)
  case gout=>
   have k1:¬(i:Int) < (rs:Int):=k1
   have er:rs=0:=by omega
   subst er
   refine KW.ids (fun hlow hvar=>?_)
   have hnn:=E1.nle hlow
   refine KW.tno rfl rfl (by omega) ?_
   refine KW.cF rfl rfl (by first | (simp; done) | decide) ?_
   refine KW.retW rfl rfl rfl rfl (fun H9 g=>by have:=g.n_; omega) (fun i hi hw=>E1.old i ⟨hi,hw⟩) (fun H9 g=>⟨[],a1,rfl,fun r hr=>by simp at hr,by omega,⟨none,0,rfl,.inl ⟨rfl,_,_,rfl,fun _=>rfl⟩⟩,src1.mv (g.froz id E1.sid).2⟩)
 case inr=>
  subst e1 e2
  refine KW.cnd rfl rfl (fun k1=>?gin) (fun k1=>?gout)
  case gin=>
   have k1:(i:Int) < (rs:Int):=k1
   refine KW.ids (fun hlow hvar=>?_)
   have hnn:=E1.nle hlow
   refine KW.lit rfl rfl rfl rfl rfl rfl rfl rfl rfl rfl [] rfl rfl (fun v hv=>by simp at hv) rfl ?_
   refine KW.lpM rfl rfl (fun s:DiS=>[(0,.pointer (some ⟨id,0,none⟩)),(1,.int .i64 p),(2,.int .i64 rs),(3,.int .i64 k),(8,.pointer (some ⟨H.n,0,some 0⟩)),(9,.pointer (some ⟨H.n+1,0,some 1⟩)),(10,.int .i64 i),(11,.slice (some ⟨s.o,0,some 1⟩) s.xs.length s.xs.length),(12,.int .i64 s.h)]) (fun s=>s.S) (fun s=>s.A) (fun s=>[(H.n,⟨26,true,[.int .i64 0,.int .i64 0,.slice none 0 0]⟩),(H.n+1,⟨26,true,[.int .i64 p,.int .i64 k,.slice (some ⟨o,0,some 1⟩) i i]⟩),(o,⟨36,true,cs⟩)]++[(s.o,(⟨2,true,s.xs.map (Value.int .i64)⟩:Blk))]) (fun s=>s.h≤k∧FiI p a1 H id ac bs.length cc V G cs s) (fun s=>k - s.h) ⟨0,S1,A1,a1,[],_⟩ ⟨Nat.zero_le _,E1,src1,Nat.le_refl _,b1,fun x hx=>by simp at hx,rfl⟩ ⟨rfl,rfl,rfl,rfl,rfl,rfl,rfl,rfl,rfl,trivial⟩ rfl rfl rfl (fun s hi bE n=>?_)
   obtain ⟨h,S4,A4,a4,xs,o4⟩:=s
   obtain ⟨hq4,E4,src4,at4,b4,ok4,len4⟩:=hi
   simp only at hq4 E4 src4 at4 b4 ok4 len4
   refine KW.cnd rfl rfl (fun k2=>?hin) (fun k2=>?hout)
   case hin=>
    have k2:(h:Int) < (k:Int):=k2
    refine KW.callW (W:=fun i=>i=id) (fun i hi=>by subst hi; exact E4.sid) rfl rfl rfl rfl rfl (srcPick (S:=S4) (H0:=A4) hb hl (n:=p) (by omega) (by omega) E4.sid (fun i hi=>hi) src4 (E4.kb hsH)) (fun v H5 S5 hn5 st5 hw5 hp=>?_)
    obtain ⟨z5,a5,hz5,l5,u5,rfl,src5⟩:=hp
    have hz5:=hz5 (by omega)
    have b5:=b4.mv (S':=S5) (A':=H5) (fun i hi=>⟨(st5 i (b4.sub i hi)).1,(st5 i (b4.sub i hi)).2 (vne i hi)⟩)
    refine KW.app1 (xs:=xs.map (Value.int .i64)) (v:=.int .i64 z5) 3 4 rfl rfl rfl rfl rfl rfl rfl rfl rfl rfl rfl rfl rfl rfl rfl rfl rfl rfl rfl rfl rfl rfl rfl (by simp) (by show (xs.length+1)*8≤_; omega) (by show xs.length+1≤_; omega) ?_
    exact KW.nxt rfl rfl (fun H' g=>⟨⟨h+1,S5,H5,a5,xs++[(z5:Int)],_⟩,⟨by simp only; omega,E4.w st5,src5,by simp only; omega,b5,fun x hx=>(List.mem_append.1 hx).elim (ok4 x) (fun hx=>by rw [List.mem_singleton.1 hx]; omega),by simp only [List.length_append,List.length_singleton]; omega⟩,by simp only; omega,⟨rfl,rfl,rfl,rfl,rfl,rfl,rfl,by simp only [List.length_append,List.length_singleton]; rfl,congrArg (Value.int .i64) (inc64 (by omega)),trivial⟩,g.eqT (by simp only [List.map_append]; rfl)⟩)
   case hout=>
    have k2:¬(h:Int) < (k:Int):=k2
    have ehk:h=k:=by omega
    refine KW.freeze 3 rfl (fun A6 S6 hn6 hS6 st6 hm6 ho6 hnS6 hlow6=>?_)
    have o6ge:∀i,S6 i∧¬S4 i→H.n≤i:=fun i hi=>by
     rcases Nat.lt_or_ge i H.n with hh | hh
     ·by_cases e:i=id
      ·exact (hi.2 (e ▸ E4.sid)).elim
      ·exact (hi.2 (E4.old i ⟨hh,e⟩).1).elim
     ·exact hh
    have fI:=(b4.mv (S':=S6) (A':=A6) (fun i hi=>st6.st i (b4.sub i hi))).snoc (ml1' (row_ml (xs:=xs) hm6)) (fun i hi=>(hS6 i).2 (.inr hi)) (fun i p r=>hnS6 (r ▸ b4.sub i p))
    have fok:Rect p k (G++[xs]):=fun r hr=>(List.mem_append.1 hr).elim (okG r) (fun hr=>by rw [List.mem_singleton.1 hr]; exact ⟨len4.trans ehk,ok4⟩)
    have fV:∀j,V j∨j=o4→H.n≤j:=fun j hj=>hj.elim (v1 j) (fun e=>o6ge j ⟨(hS6 j).2 (.inr e),fun hx=>hnS6 (e ▸ hx)⟩)
    refine KW.app1 (xs:=cs) (v:=.slice (some ⟨o4,0,some 1⟩) xs.length xs.length) 2 3 rfl rfl rfl rfl rfl rfl rfl rfl rfl rfl rfl rfl rfl rfl rfl rfl rfl rfl rfl rfl rfl rfl rfl (by omega) (by show (_+1)*24≤_; omega) (by omega) ?_
    exact KW.nxt rfl rfl (fun H' g=>⟨⟨i+1,S6,A6,a4,_,G++[xs],_,_,_⟩,⟨by simp only; omega,E4.s st6.st,src4.mv (st6.st id E4.sid).2,by simp only; omega,by simp only [List.length_append,List.length_singleton]; omega,fI,fV,fok,.inr ⟨by simp only; omega,_,rfl,rfl⟩⟩,by simp only; omega,⟨rfl,rfl,rfl,rfl,rfl,rfl,congrArg (Value.int .i64) (inc64 (by omega)),trivial⟩,g⟩)
  case gout=>
   have k1:¬(i:Int) < (rs:Int):=k1
   have er:i=rs:=by omega
   subst er
   refine KW.ids (fun hlow hvar=>?_)
   have hnn:=E1.nle hlow
   have oge:H.n≤o:=by
    have h2:=(hvar 2 o _ rfl).2
    rcases Nat.lt_or_ge o H.n with hh | hh
    ·by_cases e:o=id
     ·exact (h2 (e ▸ E1.sid)).elim
     ·exact (h2 (E1.old o ⟨hh,e⟩).1).elim
    ·exact hh
   have fin:∀{S9:Ids} {A9:AH} {n9:Nat} {e9:Env} {G9:List (List Int)} {a9:Nat},True:=fun {_ _ _ _ _ _}=>trivial
   refine KW.tst rfl rfl (fun k3=>?_) (fun k3=>?_)
   ·have k3:(i:Int) > 1:=k3
    have mvb:∀{S S':Ids} {A A':AH},RowsB KI.ml S A V G cs→StW (fun i=>i=id) S A S' A'→RowsB KI.ml S' A' V G cs:=fun b st=>b.mv (fun i hi=>⟨(st i (b.sub i hi)).1,(st i (b.sub i hi)).2 (vne i hi)⟩)
    refine KW.callW (W:=fun i=>i=id) (fun i hi=>by subst hi; exact E1.sid) rfl rfl rfl rfl rfl (srcOne (S:=S1) (H0:=A1) hb hl (n:=3) (by omega) (by omega) E1.sid (fun i hi=>hi) src1 (E1.kb hsH)) (fun v H5 S5 hn5 st5 hw5 hp=>?_)
    obtain ⟨b0,a5,l5,u5,rfl,src5⟩:=hp
    have E5:=E1.w st5
    have b5:=mvb b1 st5
    refine KW.cndB rfl rfl (fun k4=>?_) (fun k4=>?_)
    ·refine KW.callW (W:=fun i=>i=id) (fun i hi=>by subst hi; exact E5.sid) rfl rfl rfl rfl rfl (srcPick (S:=S5) (H0:=H5) hb hl (n:=(i:Int)) (by omega) (by omega) E5.sid (fun i hi=>hi) src5 (E5.kb hsH)) (fun v H6 S6 hn6 st6 hw6 hp=>?_)
     obtain ⟨z6,a6,hz6,l6,u6,rfl,src6⟩:=hp
     have hz6:=hz6 (by omega)
     have E6:=E5.w st6
     have b6:=mvb b5 st6
     refine KW.callW (W:=fun i=>i=id) (fun i hi=>by subst hi; exact E6.sid) rfl rfl rfl rfl rfl (srcPick (S:=S6) (H0:=H6) hb hl (n:=(i:Int)) (by omega) (by omega) E6.sid (fun i hi=>hi) src6 (E6.kb hsH)) (fun v H7 S7 hn7 st7 hw7 hp=>?_)
     obtain ⟨z7,a7,hz7,l7,u7,rfl,src7⟩:=hp
     have hz7:=hz7 (by omega)
     have E7:=E6.w st7
     have b7:=mvb b6 st7
     obtain ⟨x6,hx6,_⟩:=at_of (L:=G) (k:=z6) (by omega)
     obtain ⟨x7,hx7,_⟩:=at_of (L:=G) (k:=z7) (by omega)
     obtain ⟨v6,W,hv6,hm6,hWV,hrest,hclose⟩:=b7.row1 hx6
     have ok6:=okG.at hx6
     have ok7:=okG.at hx7
     rcases hm6 with ⟨hx0,a0,c0,rfl,_⟩ | ⟨o8,c8,bb,Ws,rfl,h2,h3,h4,h5,h6,h7,h8,h9⟩
     ·have hk0:k=0:=by rw [← ok6.1,hx0]; rfl
      subst hk0
      refine KW.lp rfl rfl (fun _:Unit=>[(3,.int .i64 (0:Nat)),(8,.pointer (some ⟨H.n,0,some 0⟩)),(9,.pointer (some ⟨H.n+1,0,some 1⟩)),(15,.int .i64 0)]) (fun _=>True) (fun _=>0) (()) (trivial) ⟨rfl,rfl,rfl,rfl,trivial⟩ (fun _ hi bE n=>?_)
      refine KW.cF rfl rfl (by first | (simp; done) | decide) ?_
      refine KW.ids (fun hlow9 hvar9=>?_)
      have hnn9:=E7.nle hlow9
      refine KW.retW rfl rfl rfl rfl (fun H9 g=>by have:=g.n_; omega) (fun i hi hw=>(E7).old i ⟨hi,hw⟩) (fun H9 g=>⟨G,a7,lenG,okG,by omega,⟨some ⟨o,0,some 1⟩,i,by rw [lenG]; rfl,?_⟩,(src7).mv (g.froz id (E7).sid).2⟩)
      have hm:=(b7).ml (X:=New H.n H9.n) rfl g (j:=2) rfl ⟨oge,by have h1:o < _:=(g.vars 2 _ rfl).2.1; have:=g.n_; omega⟩ (fun i hi=>⟨v1 i hi,by have:=(g.froz i ((b7).sub i hi)).1; have:=g.n_; omega⟩)
      rw [lenG] at hm ⊢
      exact hm
     ·have ho8V:=hWV o8 h3
      have ho8S:=b7.sub o8 ho8V
      have ho8g:=v1 o8 ho8V
      obtain ⟨ty8,rw8,cells8⟩:=bb
      obtain rfl:rw8=true:=h5
      have h6:x6.length*1≤cells8.length:=h6
      have hget:∀(q:Nat) y,x6[q]?=some y→cells8[q]?=some (.int .i64 y):=fun q y hq=>by
       have h:=cell_of (m:=0+q*1) (h9 q y hq)
       rw [Nat.zero_add,Nat.mul_one] at h
       exact h
      refine KW.thaw o8 _ ho8S h4 ?_
      have E8:DwE H id (fun i=>S7 i∧i≠o8) H7:=⟨⟨E7.sid,fun e=>by omega⟩,fun i hi=>⟨⟨(E7.old i hi).1,fun e=>by have h1:i < H.n:=hi.1; omega⟩,(E7.old i hi).2⟩⟩
      have row7:z7≠z6→∃a c,cs[z7]?=some (.slice a x7.length c)∧KI.Sl (fun i=>S7 i∧i≠o8) H7 (.slice a x7.length c) x7:=fun hne=>by
       obtain ⟨u,X,hu,hmu,hXV⟩:=hrest z7 x7 hne hx7
       obtain ⟨a,c,rfl⟩:=sl_form hmu.sl
       exact ⟨a,c,hu,hmu.sl.stX (fun i hi=>⟨⟨b7.sub i (hXV i hi).1,fun e=>(hXV i hi).2 (e ▸ h3)⟩,rfl⟩)⟩
      refine KW.lpM rfl rfl (fun s:Nat × List Int × List Value=>[(1,.int .i64 p),(3,.int .i64 k),(8,.pointer (some ⟨H.n,0,some 0⟩)),(9,.pointer (some ⟨H.n+1,0,some 1⟩)),(13,.int .i64 z6),(14,.int .i64 z7),(15,.int .i64 s.1)]) (fun s=>fun i=>S7 i∧i≠o8) (fun s=>H7) (fun s=>[(H.n,⟨26,true,[.int .i64 0,.int .i64 0,.slice none 0 0]⟩),(H.n+1,⟨26,true,[.int .i64 p,.int .i64 k,.slice (some ⟨o,0,some 1⟩) i i]⟩),(o,⟨36,true,cs⟩),(o8,⟨ty8,true,s.2.2⟩)]) (fun s=>s.1≤k∧s.2.1.length=k∧(∀y∈s.2.1,0≤y∧y < p)∧s.2.2.length=cells8.length∧∀(q:Nat) y,s.2.1[q]?=some y→s.2.2[q]?=some (.int .i64 y)) (fun s=>k - s.1) ((0,x6,cells8)) (⟨Nat.zero_le _,ok6.1,ok6.2,rfl,hget⟩) ⟨rfl,rfl,rfl,rfl,rfl,rfl,rfl,trivial⟩ rfl rfl (rfl) (fun s hi bE n=>?_)
      obtain ⟨x,ys,cy⟩:=s
      obtain ⟨m1,m2,m3,m4,m5⟩:=hi
      simp only at m1 m2 m3 m4 m5
      refine KW.cnd rfl rfl (fun k5=>?win) (fun k5=>?wout)
      case win=>
       have k5:(x:Int) < (k:Int):=k5
       refine KW.idx0 rfl rfl rfl rfl rfl rfl rfl rfl rfl (Int.natCast_nonneg _) (hz6) ?_
       refine KW.ldT 2 rfl rfl rfl rfl rfl rfl (bload_at (by show cs[0+((z6:Int)).toNat*1]?=_; rw [Int.toNat_natCast,Nat.zero_add,Nat.mul_one]; exact hv6) rfl rfl) ?_
       refine KW.idx0 rfl rfl rfl rfl rfl rfl rfl rfl rfl (Int.natCast_nonneg _) (hz7) ?_
       by_cases hz:z7=z6
       ·subst hz
        refine KW.ldT 2 rfl rfl rfl rfl rfl rfl (bload_at (by show cs[0+((z7:Int)).toNat*1]?=_; rw [Int.toNat_natCast,Nat.zero_add,Nat.mul_one]; exact hv6) rfl rfl) ?_
        refine KW.idx0 rfl rfl rfl rfl rfl rfl rfl rfl rfl (Int.natCast_nonneg _) (by rw [ok6.1]; exact k5) ?_
        obtain ⟨yv,hyv⟩:∃yv,ys[x]?=some yv:=⟨ys[x]'(by omega),List.getElem?_eq_getElem (by omega)⟩
        have hyb:=m3 yv (List.mem_of_getElem? hyv)
        refine KW.ldT 3 rfl rfl rfl rfl rfl rfl (bload_at (by show cy[0+((x:Int)).toNat*1]?=_; rw [Int.toNat_natCast,Nat.zero_add,Nat.mul_one]; exact m5 x yv hyv) rfl rfl) ?_
        have ew:IntKind.i64.wrap (yv*2)=yv*2:=wr (by omega) (by omega)
        refine KW.rem rfl rfl rfl rfl rfl rfl (by rw [ew]; omega) (by omega) ?_
        refine KW.idx0 rfl rfl rfl rfl rfl rfl rfl rfl rfl (Int.natCast_nonneg _) (by rw [ok6.1]; exact k5) ?_
        refine KW.st1 3 rfl rfl rfl rfl rfl rfl rfl rfl rfl rfl rfl rfl (by show 0+((x:Int)).toNat*1 < cy.length; rw [Int.toNat_natCast]; omega) ?_
        have hb1:0≤IntKind.i64.wrap (yv*2)%p∧IntKind.i64.wrap (yv*2)%p < p:=⟨Int.emod_nonneg _ (by omega),Int.emod_lt_of_pos _ (by omega)⟩
        exact KW.nxt rfl rfl (fun H' g=>⟨(x+1,ys.set x (IntKind.i64.wrap (yv*2)%p),cy.set x (.int .i64 (IntKind.i64.wrap (yv*2)%p))),⟨by simp only; omega,by simp only [List.length_set]; exact m2,fun y hy=>(List.mem_or_eq_of_mem_set hy).elim (m3 y) (fun e=>by rw [e]; exact hb1),by simp only [List.length_set]; exact m4,fun q y hq=>by
         simp only [List.getElem?_set] at hq ⊢
         split at hq
         ·rename_i e
          subst e
          rw [if_pos (by omega)] at hq
          cases hq
          rw [if_pos rfl,if_pos (by omega)]
         ·rename_i e
          rw [if_neg e]
          exact m5 q y hq⟩,by simp only; omega,⟨rfl,rfl,rfl,rfl,rfl,rfl,congrArg (Value.int .i64) (inc64 (by omega)),trivial⟩,g.eqT (by
         show [(H.n,(⟨26,true,[.int .i64 0,.int .i64 0,.slice none 0 0]⟩:Blk)),(H.n+1,⟨26,true,[.int .i64 p,.int .i64 k,.slice (some ⟨o,0,some 1⟩) i i]⟩),(o,⟨36,true,cs⟩),(o8,⟨ty8,true,cy.set (0+((x:Int)).toNat*1) _⟩)]=_
         rw [Int.toNat_natCast,Nat.zero_add,Nat.mul_one]
         rfl)⟩)
       ·obtain ⟨ay,cy7,hcy,hsy⟩:=row7 hz
        refine KW.ldT 2 rfl rfl rfl rfl rfl rfl (bload_at (by show cs[0+((z7:Int)).toNat*1]?=_; rw [Int.toNat_natCast,Nat.zero_add,Nat.mul_one]; exact hcy) rfl rfl) ?_
        refine KW.getI hsy rfl rfl rfl rfl rfl rfl rfl rfl rfl rfl rfl rfl rfl rfl rfl rfl (by omega) (by rw [ok7.1]; exact k5) (fun yv hyv=>?_)
        have hyb:=ok7.2 yv (List.mem_of_getElem? hyv)
        have ew:IntKind.i64.wrap (yv*2)=yv*2:=wr (by omega) (by omega)
        refine KW.rem rfl rfl rfl rfl rfl rfl (by rw [ew]; omega) (by omega) ?_
        refine KW.idx0 rfl rfl rfl rfl rfl rfl rfl rfl rfl (Int.natCast_nonneg _) (by rw [ok6.1]; exact k5) ?_
        refine KW.st1 3 rfl rfl rfl rfl rfl rfl rfl rfl rfl rfl rfl rfl (by show 0+((x:Int)).toNat*1 < cy.length; rw [Int.toNat_natCast]; omega) ?_
        have hb1:0≤IntKind.i64.wrap (yv*2)%p∧IntKind.i64.wrap (yv*2)%p < p:=⟨Int.emod_nonneg _ (by omega),Int.emod_lt_of_pos _ (by omega)⟩
        exact KW.nxt rfl rfl (fun H' g=>⟨(x+1,ys.set x (IntKind.i64.wrap (yv*2)%p),cy.set x (.int .i64 (IntKind.i64.wrap (yv*2)%p))),⟨by simp only; omega,by simp only [List.length_set]; exact m2,fun y hy=>(List.mem_or_eq_of_mem_set hy).elim (m3 y) (fun e=>by rw [e]; exact hb1),by simp only [List.length_set]; exact m4,fun q y hq=>by
         simp only [List.getElem?_set] at hq ⊢
         split at hq
         ·rename_i e
          subst e
          rw [if_pos (by omega)] at hq
          cases hq
          rw [if_pos rfl,if_pos (by omega)]
         ·rename_i e
          rw [if_neg e]
          exact m5 q y hq⟩,by simp only; omega,⟨rfl,rfl,rfl,rfl,rfl,rfl,congrArg (Value.int .i64) (inc64 (by omega)),trivial⟩,g.eqT (by
         show [(H.n,(⟨26,true,[.int .i64 0,.int .i64 0,.slice none 0 0]⟩:Blk)),(H.n+1,⟨26,true,[.int .i64 p,.int .i64 k,.slice (some ⟨o,0,some 1⟩) i i]⟩),(o,⟨36,true,cs⟩),(o8,⟨ty8,true,cy.set (0+((x:Int)).toNat*1) _⟩)]=_
         rw [Int.toNat_natCast,Nat.zero_add,Nat.mul_one]
         rfl)⟩)
      case wout=>
       have k5:¬(x:Int) < (k:Int):=k5
       refine KW.freeze 3 rfl (fun A9 S9 hn9 hS9 st9 hm9 ho9 hnS9 hlow9=>?_)
       have E9:=E8.s st9.st
       have src9:=src7.mv (st9.st id E8.sid).2
       have b9:RowsB KI.ml S9 A9 V (G.set z6 ys) cs:=hclose S9 A9 ys (fun j hj=>by
        by_cases e:j=o8
        ·exact ⟨(hS9 j).2 (.inr e),fun hw=>(hw (e ▸ h3)).elim⟩
        ·exact ⟨(st9.st j ⟨hj,e⟩).1,fun _=>(st9.st j ⟨hj,e⟩).2⟩) (by
        rw [ok6.1,← m2]
        exact mlI_of h3 hm9 rfl (by rw [m2,← ok6.1]; exact h2) (by simp only; omega) m5)
       have ok9:Rect p k (G.set z6 ys):=okG.set ⟨m2,m3⟩
       have len9:(G.set z6 ys).length=i:=by rw [List.length_set]; exact lenG
       refine KW.ids (fun hlow8 hvar8=>?_)
       have hnn8:=E9.nle hlow8
       refine KW.retW rfl rfl rfl rfl (fun H9 g=>by have:=g.n_; omega) (fun i hi hw=>(E9).old i ⟨hi,hw⟩) (fun H9 g=>⟨(G.set z6 ys),a7,len9,ok9,by omega,⟨some ⟨o,0,some 1⟩,i,by rw [len9]; rfl,?_⟩,(src9).mv (g.froz id (E9).sid).2⟩)
       have hm:=(b9).ml (X:=New H.n H9.n) rfl g (j:=2) rfl ⟨oge,by have h1:o < _:=(g.vars 2 _ rfl).2.1; have:=g.n_; omega⟩ (fun i hi=>⟨v1 i hi,by have:=(g.froz i ((b9).sub i hi)).1; have:=g.n_; omega⟩)
       rw [len9] at hm ⊢
       exact hm
    ·refine KW.retW rfl rfl rfl rfl (fun H9 g=>by have:=g.n_; omega) (fun i hi hw=>(E5).old i ⟨hi,hw⟩) (fun H9 g=>⟨G,a5,lenG,okG,by omega,⟨some ⟨o,0,some 1⟩,i,by rw [lenG]; rfl,?_⟩,(src5).mv (g.froz id (E5).sid).2⟩)
     have hm:=(b5).ml (X:=New H.n H9.n) rfl g (j:=2) rfl ⟨oge,by have h1:o < _:=(g.vars 2 _ rfl).2.1; have:=g.n_; omega⟩ (fun i hi=>⟨v1 i hi,by have:=(g.froz i ((b5).sub i hi)).1; have:=g.n_; omega⟩)
     rw [lenG] at hm ⊢
     exact hm
   ·refine KW.cF rfl rfl (by first | (simp; done) | decide) ?_
    refine KW.retW rfl rfl rfl rfl (fun H9 g=>by have:=g.n_; omega) (fun i hi hw=>E1.old i ⟨hi,hw⟩) (fun H9 g=>⟨G,a1,lenG,okG,by omega,⟨some ⟨o,0,some 1⟩,i,by rw [lenG]; rfl,?_⟩,src1.mv (g.froz id E1.sid).2⟩)
    have hm:=b1.ml (X:=New H.n H9.n) rfl g (j:=2) rfl ⟨oge,by have h1:o < _:=(g.vars 2 _ rfl).2.1; have:=g.n_; omega⟩ (fun i hi=>⟨v1 i hi,by have:=(g.froz i (b1.sub i hi)).1; have:=g.n_; omega⟩)
    rw [lenG] at hm ⊢
    exact hm
end
theorem GwE.nle {H:AH} {W S:Ids} {A:AH} {n:Nat} (e:GwE H W S A) (h:∀i,S i→i < n):H.n≤n:=by
  rcases Nat.lt_or_ge n H.n with h1 | h1
  · by_cases hw:W n
    · have:=h n (e.wid n hw); omega
    · have:=h n (e.old n h1 hw).1; omega
  · exact h1
section
variable {S:Ids} {H0:AH} {bs:List Int} {ac:Option Addr} {cc id B:Nat} {Y:Ids}
theorem amongB {ls:List Int} {a c} (h:SrcB bs ac cc id Y S H0 B) (hB:B≤790000) (hn:ls.length≤1000) (hn1:1≤ls.length) (hls:KI.Sl (fun i=>S i∧i≠id) H0 (.slice a ls.length c) ls):SpecW Try.prog S H0 (fun i=>i=id) 151 [.pointer (some ⟨id,0,none⟩),.slice a ls.length c] (fun _ v H1=>∃y:Int,y∈ls∧v=.int .i64 y∧∃at_,at_≤B+2∧Src ac bs.length cc H1 id at_):=fun H hf hz=>by
  obtain ⟨q,h1,h2⟩:=h.src
  obtain ⟨m,v,H1,k1,k2,k3,k4,y,at',k5,k6,k7,k8,k9⟩:=srcAmong h.hb h.hl hn hn1 (show q≤800000 by omega) h.sid (fun i hi=>hi) h2 (h.kb.more (fun i hi=>h.y i hi)) hls H hf hz
  exact ⟨m,v,H1,k1,k2,k3,k4,y,k5,k8,at',by omega,k9⟩
theorem filledB {p:Int} (hp:2≤p∧p≤31) {rs k:Nat} (hrs:rs≤6) (hk:k≤6) (h:SrcB bs ac cc id Y S H0 B) (hB:B≤690000):SpecW Try.prog S H0 (fun i=>i=id) 61 [.pointer (some ⟨id,0,none⟩),.int .i64 p,.int .i64 rs,.int .i64 k] (fun n v H1=>∃L:List (List Int),L.length=rs∧Rect p k L∧MkMo p k L n v H1∧∃at_,at_≤B+200∧Src ac bs.length cc H1 id at_):=fun H hf hz=>by
  obtain ⟨q,h1,h2⟩:=h.src
  obtain ⟨m,v,H1,k1,k2,k3,k4,L,at',k5,k6,k7,k8,k9⟩:=l03Filled h.hb h.hl hp hrs hk (show q≤700000 by omega) h.sid (fun i hi=>hi) h2 (h.kb.more (fun i hi=>h.y i hi)) H hf hz
  exact ⟨m,v,H1,k1,k2,k3,k4,L,k5,k6,k8,at',by omega,k9⟩
theorem litSl {A:AH} {S S':Ids} {o:Nat} {ls:List Int} {ty:TypeId} (hm:A.m o=some ⟨ty,true,ls.map (Value.int .i64)⟩) (hS:∀i,S' i↔S i∨i=o) (hno:¬S o) (hid:S id):KI.Sl (fun i=>S' i∧i≠id) A (.slice (some ⟨o,0,some 1⟩) ls.length ls.length) ls:=
  (row_ml hm).sl.stX (fun i hi=>by
    have hi:i=o:=hi
    exact ⟨⟨(hS i).2 (.inr hi),fun e=>hno (by rw [← hi,e]; exact hid)⟩,rfl⟩)
theorem l04Gated (hsrc:SrcB bs ac cc id Y S H0 B) (hB:B≤600000):
    SpecW Try.prog S H0 (fun i=>i=id) 148 [.pointer (some ⟨id,0,none⟩)] (fun m v H1=>∃(p N:Int) (g:Gt) (cs:List Value),v=.tuple #[.int .i64 p,.int .i64 N,.agg cs.toArray]∧p∈[5,5,7,3,2,11]∧(1≤N∧N≤4)∧RG 4 (New m H1.n) H1 g cs∧GF N 4 g∧∃at_,at_≤B+2010∧Src ac bs.length cc H1 id at_):=by
  refine SpecW.of0 Try.func148 rfl (by kernel_rfl) rfl (fun H hfin hfz=>?_)
  have SB0:SrcB bs ac cc id Y (Low H.n) H B:=hsrc.s (fun i hi=>hfz i hi) (Nat.le_refl _)
  have E0:GwE H (fun i=>i=id) (Low H.n) H:=⟨fun i hi=>by rw [hi]; exact SB0.sid,fun i h _=>⟨h,rfl⟩⟩
  refine KW.lit rfl rfl rfl rfl rfl rfl rfl rfl rfl rfl (([5,5,7,3,2,11]:List Int).map (Value.int .i64)) rfl rfl (fun v hv=>by obtain ⟨x,_,rfl⟩:=List.mem_map.1 hv; rfl) rfl ?_
  refine KW.freeze 1 rfl (fun A1 S1 hn1 hS1 st1 hm1 ho1 hno1 hlow1=>?_)
  have SB1:=SB0.s (B':=B) st1.st (Nat.le_refl _)
  have E1:=E0.s st1.st
  refine KW.callW (W:=fun i=>i=id) (fun i hi=>by subst hi; exact SB1.sid) rfl rfl rfl rfl rfl (amongB SB1 (by omega) (ls:=[5,5,7,3,2,11]) (by decide) (by decide) (litSl hm1 hS1 hno1 SB0.sid)) (fun v H2 S2 n2 st2 w2 hv2=>?_)
  obtain ⟨p,hp,rfl,src2⟩:=hv2
  have SB2:=SB1.w1 st2 src2
  have E2:=E1.w st2 (fun i hi=>.inl hi)
  refine KW.callW (W:=fun i=>i=id) (fun i hi=>by subst hi; exact SB2.sid) rfl rfl rfl rfl rfl (pickB (n:=4) SB2 (by omega) (by omega)) (fun v H3 S3 n3 st3 w3 hv3=>?_)
  obtain ⟨z3,hz3,rfl,src3⟩:=hv3
  have hz3:=hz3 (by omega)
  have SB3:=SB2.w1 st3 src3
  have E3:=E2.w st3 (fun i hi=>.inl hi)
  have e3:IntKind.i64.wrap (1+(z3:Int))=1+z3:=wr (by omega) (by omega)
  refine KW.callW (W:=fun i=>i=id) (fun i hi=>by subst hi; exact SB3.sid) rfl rfl rfl rfl rfl (l02Drawn (N:=IntKind.i64.wrap (1+(z3:Int))) ⟨by omega,by omega⟩ SB3 (by omega)) (fun v H4 S4 n4 st4 w4 hv4=>?_)
  obtain ⟨g,cs,rfl,hR,hg,q4,u4,src4⟩:=hv4
  obtain ⟨ag,cg,rfl,_⟩:=hR.form
  have E4:=E3.w st4 (fun i hi=>.inl hi)
  refine KW.retW rfl rfl rfl rfl (fun H9 g=>by have:=(g.vars 0 _ rfl).2.1; have:=g.n_; omega) (fun i h1 h2=>E4.old i h1 h2) (fun H9 gg=>?_)
  refine ⟨p,_,g,_,rfl,hp,⟨by omega,by omega⟩,RG.more 4 (fun i hi=>⟨by have:=hi.1; omega,by have:=(gg.froz i (w4 i hi)).1; have:=gg.n_; omega⟩) (RG.same 4 (fun i hi=>(gg.froz i (w4 i hi)).2) hR),hg,q4,by omega,src4.mv (gg.froz id (st4 id SB3.sid).1).2⟩
theorem built_SchemeR (h p c:Int) (a:Option Addr) (n m:Nat):Try.prog.built 38 [(0,.int .i64 h),(2,.agg #[.int .i64 p,.int .i64 c,.slice a n m])]=some #[.int .i64 h,.slice none 0 0,.int .i64 p,.int .i64 c,.slice a n m]:=by kernel_rfl
structure OwS where
  i:Nat
  S:Ids
  A:AH
  xs:List Int
  l:Value
  tail:List Var
structure OwI (bs:List Int) (ac:Option Addr) (cc id:Nat) (Y:Ids) (N:Int) (B z:Nat) (V:Ids) (A4 H:AH) (s:OwS):Prop where
  le:s.i≤z
  src:SrcB bs ac cc id Y s.S s.A (B+2*s.i)
  E:GwE H (fun i=>i=id) s.S s.A
  v:∀j,V j→s.S j∧s.A.m j=A4.m j
  xl:s.xs.length=s.i
  xb:∀x∈s.xs,0≤x∧x≤N - 1
  form:(s.i=0∧s.l=.slice none 0 0∧s.tail=[])∨(0 < s.i∧∃o,s.l=.slice (some ⟨o,0,some 1⟩) s.i s.i∧s.tail=[(o,⟨2,true,s.xs.map (Value.int .i64)⟩)])
theorem l04Drawn (hsrc:SrcB bs ac cc id Y S H0 B) (hB:B≤500000):
    SpecW Try.prog S H0 (fun i=>i=id) 74 [.pointer (some ⟨id,0,none⟩)] (fun m v H1=>(∃cs:List Value,v=.agg cs.toArray∧ScP m H1 cs)∧∃at_,at_≤B+3000∧Src ac bs.length cc H1 id at_):=by
  refine SpecW.of0R [15] Try.func74 rfl (by kernel_rfl) (by kernel_rfl) rfl (fun H hfin hfz=>?_)
  have SB0:SrcB bs ac cc id Y (Low H.n) H B:=hsrc.s (fun i hi=>hfz i hi) (Nat.le_refl _)
  have E0:GwE H (fun i=>i=id) (Low H.n) H:=⟨fun i hi=>by rw [hi]; exact SB0.sid,fun i h _=>⟨h,rfl⟩⟩
  refine KW.callW (W:=fun i=>i=id) (fun i hi=>by subst hi; exact SB0.sid) rfl rfl rfl rfl rfl (oneB (n:=3) SB0 (by omega) (by omega)) (fun v H1 S1 n1 st1 w1 hv1=>?_)
  obtain ⟨b1,rfl,src1⟩:=hv1
  have SB1:=SB0.w1 st1 src1
  have E1:=E0.w st1 (fun i hi=>.inl hi)
  refine KW.cndB rfl rfl (fun k1=>?gt) (fun k1=>?ot)
  case' gt=>
    refine KW.callW (W:=fun i=>i=id) (fun i hi=>by subst hi; exact SB1.sid) rfl rfl rfl rfl rfl (l04Gated SB1 (by omega)) (fun v H2 S2 n2 st2 w2 hv2=>?_)
    obtain ⟨p,N,g,cs,rfl,hp,hN,hR,hg,src2⟩:=hv2
    obtain ⟨ag,cg,rfl,_⟩:=hR.form
    have SB2:=SB1.w1 st2 (B':=B+2012) (by obtain ⟨q,h1,h2⟩:=src2; exact ⟨q,by omega,h2⟩)
    have E2:=E1.w st2 (fun i hi=>.inl hi)
    have hR2:=RG.more 4 (fun i hi=>w2 i hi) hR
    have hp31:2≤p∧p≤31:=by simp at hp; omega
    refine KW.callNV1 rfl rfl rfl rfl rfl (fun H1 g _=>l04Gate (S:=Low H1.n) (H0:=H1) (by omega) hp31 hg (On.R (d:=KG 4) hR2) (g.has (j:=1) rfl rfl)) (fun v HG SG mG _ _ hv=>?_)
    obtain ⟨h9,p9,c9,a1,a2,m1,d1,m2,d2,code,rfl,hok⟩:=hv
    have tG:=(inferInstance:Stp S2 H2 SG HG).st
    have E3:=E2.s tG
    have SB3:=SB2.s (B':=B+2012) tG (Nat.le_refl _)
    refine KW.cnd rfl rfl (fun k2=>?gy) (fun k2=>?gn)
    case gy=>
      have k2:code=0:=k2
      obtain ⟨ow,rows,rfl,rfl,hk,rfl,rfl,ho,hs⟩:=hok k2
      refine KW.retW rfl rfl rfl rfl (fun H9 g=>by have:=(g.vars 0 _ rfl).2.1; have:=g.n_; omega) (fun i h1 h2=>E3.old i h1 h2) (fun H9 gg=>?_)
      have hw:∀i,New (H2.n+1) HG.n i→SG i:=fun i hi=>((inferInstance:On (New (H2.n+1) HG.n) HG SG HG).st i hi).1
      have mv:∀i,New (H2.n+1) HG.n i→New H.n H9.n i∧H9.m i=HG.m i:=fun i hi=>⟨⟨by have:=hi.1; omega,by have:=(gg.froz i (hw i hi)).1; have:=gg.n_; omega⟩,(gg.froz i (hw i hi)).2⟩
      obtain ⟨q3,u3,src3⟩:=SB3.src
      exact ⟨⟨_,rfl,h9,p9,c9,ow,rows,a1,a2,d1,d2,rfl,hk,ho.stX mv,hs.stX mv⟩,q3,by omega,src3.mv (gg.froz id SB3.sid).2⟩
    case' gn=>
      refine KW.take 1 ?_
      have SX:=SB3
      have EX:=E3
  case' ot=>
    have SX:=SB1.s (B':=B+2012) (fun i hi=>⟨hi,rfl⟩) (by omega)
    have EX:=E1
  all_goals
    refine KW.callW (W:=fun i=>i=id) (fun i hi=>by subst hi; exact SX.sid) rfl rfl rfl rfl rfl (oneB (n:=4) SX (by omega) (by omega)) (fun v H4 S4 n4 st4 w4 hv4=>?_)
    obtain ⟨b4,rfl,src4⟩:=hv4
    have SB4:=SX.w1 st4 src4
    have E4:=EX.w st4 (fun i hi=>.inl hi)
    refine KW.cndB rfl rfl (fun k4=>?cv) (fun k4=>?fl)
    case cv=>
      refine KW.callW (W:=fun i=>i=id) (fun i hi=>by subst hi; exact SB4.sid) rfl rfl rfl rfl rfl (pickB (n:=4) SB4 (by omega) (by omega)) (fun v H5 S5 n5 st5 w5 hv5=>?_)
      obtain ⟨z5,hz5,rfl,src5⟩:=hv5
      have hz5:=hz5 (by omega)
      have SB5:=SB4.w1 st5 src5
      have E5:=E4.w st5 (fun i hi=>.inl hi)
      have e5:IntKind.i64.wrap (1+(z5:Int))=((1+z5:Nat):Int):=by rw [wr (by omega) (by omega)]; omega
      refine KW.lit rfl rfl rfl rfl rfl rfl rfl rfl rfl rfl (([5,7,11]:List Int).map (Value.int .i64)) rfl rfl (fun v hv=>by obtain ⟨x,_,rfl⟩:=List.mem_map.1 hv; rfl) rfl ?_
      refine KW.freeze 1 rfl (fun A6 S6 hn6 hS6 st6 hm6 ho6 hno6 hlow6=>?_)
      have SB6:=SB5.s (B':=B+2012+2+2) st6.st (Nat.le_refl _)
      have E6:=E5.s st6.st
      refine KW.callW (W:=fun i=>i=id) (fun i hi=>by subst hi; exact SB6.sid) rfl rfl rfl rfl rfl (amongB SB6 (by omega) (ls:=[5,7,11]) (by decide) (by decide) (litSl hm6 hS6 hno6 SB5.sid)) (fun v H7 S7 n7 st7 w7 hv7=>?_)
      obtain ⟨p,hp,rfl,src7⟩:=hv7
      have SB7:=SB6.w1 st7 src7
      have E7:=E6.w st7 (fun i hi=>.inl hi)
      refine KW.callW (W:=fun i=>i=id) (fun i hi=>by subst hi; exact SB7.sid) rfl rfl rfl rfl rfl (pickB (n:=IntKind.i64.wrap (1+(z5:Int))) SB7 (by omega) (by omega)) (fun v H8 S8 n8 st8 w8 hv8=>?_)
      obtain ⟨z8,hz8,rfl,src8⟩:=hv8
      have hz8:=hz8 (by omega)
      have SB8:=SB7.w1 st8 src8
      have E8:=E7.w st8 (fun i hi=>.inl hi)
      have e8:IntKind.i64.wrap (1+(z8:Int))=((1+z8:Nat):Int):=by rw [wr (by omega) (by omega)]; omega
      have key:=curve (S:=S8) (H0:=H8) (p:=p) (by simp at hp; omega) (q:=1+z5) (least:=1+z8) (by omega) (by omega)
      rw [← e5,← e8] at key
      refine KW.ids (fun hlow8 hvar8=>?_)
      have hnn8:=E8.nle hlow8
      refine KW.callN1 rfl rfl rfl rfl rfl key (fun v H9 S9 n9 t9 w9 hv9=>?_)
      obtain ⟨cs,rfl,h9,p9,c9,ow,rows,a1,a2,d1,d2,rfl,hk,ho,hs⟩:=hv9
      have SB9:=SB8.s (B':=B+2500) t9.st (by omega)
      have E9:=E8.s t9.st
      refine KW.retW rfl rfl rfl rfl (fun H9 g=>by have:=(g.vars 0 _ rfl).2.1; have:=g.n_; omega) (fun i h1 h2=>E9.old i h1 h2) (fun HE gg=>?_)
      have mv:∀i,New _ H9.n i→New H.n HE.n i∧HE.m i=H9.m i:=fun i hi=>⟨⟨by have:=hi.1; omega,by have:=(gg.froz i (w9.st i hi).1).1; have:=gg.n_; omega⟩,(gg.froz i (w9.st i hi).1).2⟩
      obtain ⟨q9,u9,src9⟩:=SB9.src
      exact ⟨⟨_,rfl,h9,p9,c9,ow,rows,a1,a2,d1,d2,rfl,hk,ho.stX mv,hs.stX mv⟩,q9,by omega,src9.mv (gg.froz id SB9.sid).2⟩
    case fl=>
      refine KW.callW (W:=fun i=>i=id) (fun i hi=>by subst hi; exact SB4.sid) rfl rfl rfl rfl rfl (pickB (n:=4) SB4 (by omega) (by omega)) (fun v H5 S5 n5 st5 w5 hv5=>?_)
      obtain ⟨z5,hz5,rfl,src5⟩:=hv5
      have hz5:=hz5 (by omega)
      have SB5:=SB4.w1 st5 src5
      have E5:=E4.w st5 (fun i hi=>.inl hi)
      have e5:IntKind.i64.wrap (1+(z5:Int))=1+(z5:Int):=wr (by omega) (by omega)
      refine KW.lit rfl rfl rfl rfl rfl rfl rfl rfl rfl rfl (([2,3,5]:List Int).map (Value.int .i64)) rfl rfl (fun v hv=>by obtain ⟨x,_,rfl⟩:=List.mem_map.1 hv; rfl) rfl ?_
      refine KW.freeze 1 rfl (fun A6 S6 hn6 hS6 st6 hm6 ho6 hno6 hlow6=>?_)
      have SB6:=SB5.s (B':=B+2012+2+2) st6.st (Nat.le_refl _)
      have E6:=E5.s st6.st
      refine KW.callW (W:=fun i=>i=id) (fun i hi=>by subst hi; exact SB6.sid) rfl rfl rfl rfl rfl (amongB SB6 (by omega) (ls:=[2,3,5]) (by decide) (by decide) (litSl hm6 hS6 hno6 SB5.sid)) (fun v H7 S7 n7 st7 w7 hv7=>?_)
      obtain ⟨p,hp,rfl,src7⟩:=hv7
      have hp5:p=2∨p=3∨p=5∨p=7∨p=11:=by simp at hp; omega
      have SB7:=SB6.w1 st7 src7
      have E7:=E6.w st7 (fun i hi=>.inl hi)
      refine KW.callW (W:=fun i=>i=id) (fun i hi=>by subst hi; exact SB7.sid) rfl rfl rfl rfl rfl (pickB (n:=6) SB7 (by omega) (by omega)) (fun v H8 S8 n8 st8 w8 hv8=>?_)
      obtain ⟨z8,hz8,rfl,src8⟩:=hv8
      have hz8:=hz8 (by omega)
      have SB8:=SB7.w1 st8 src8
      have E8:=E7.w st8 (fun i hi=>.inl hi)
      refine KW.callW (W:=fun i=>i=id) (fun i hi=>by subst hi; exact SB8.sid) rfl rfl rfl rfl rfl (pickB (n:=4) SB8 (by omega) (by omega)) (fun v H9 S9 n9 st9 w9 hv9=>?_)
      obtain ⟨z9,hz9,rfl,src9⟩:=hv9
      have hz9:=hz9 (by omega)
      have SB9:=SB8.w1 st9 src9
      have E9:=E8.w st9 (fun i hi=>.inl hi)
      have e9:IntKind.i64.wrap (1+(z9:Int))=((1+z9:Nat):Int):=by rw [wr (by omega) (by omega)]; omega
      refine KW.ids (fun hlow9 hvar9=>?_)
      have hnn9:=E9.nle hlow9
      have key:=filledB (S:=S9) (H0:=H9) (p:=p) (by omega) (rs:=z8) (k:=1+z9) (by omega) (by omega) SB9 (by omega)
      rw [← e9] at key
      refine KW.callW (W:=fun i=>i=id) (fun i hi=>by subst hi; exact SB9.sid) rfl rfl rfl rfl rfl key (fun v HF SF nF stF wF hvF=>?_)
      obtain ⟨L,hL1,hL2,⟨b4,d4,rfl,hml⟩,srcF⟩:=hvF
      have SBF:=SB9.w1 stF srcF
      have EF:=E9.w stF (fun i hi=>.inl hi)
      have hsF:KI.sl.Sl (New H9.n HF.n) HF (.slice b4 L.length d4) L:=hml.to (KLe.row (KLe.refl KI))
      refine KW.build rfl rfl rfl rfl rfl (built_SchemeR _ _ _ _ _ _) ?_
      refine KW.lpM rfl rfl (fun s:OwS=>[(0,.pointer (some ⟨id,0,none⟩)),(2,.pointer (some ⟨H.n,0,some 0⟩)),(11,.int .i64 (IntKind.i64.wrap (1+(z5:Int)))),(12,.pointer (some ⟨HF.n,0,some 1⟩)),(13,.int .i64 s.i)]) (fun s=>s.S) (fun s=>s.A) (fun s=>[(H.n,⟨38,true,[.int .i64 0,.slice none 0 0,.int .i64 0,.int .i64 0,.slice none 0 0]⟩),(HF.n,⟨38,true,[.int .i64 (IntKind.i64.wrap (1+(z5:Int))),s.l,.int .i64 p,.int .i64 (IntKind.i64.wrap (1+(z9:Int))),.slice b4 L.length d4]⟩)]++s.tail) (fun s=>OwI bs ac cc id Y (1+z5) (B+2012+2+2+2+2+2+200) L.length (New H9.n HF.n) HF H s) (fun s=>L.length - s.i) (⟨0,SF,HF,[],.slice none 0 0,[]⟩) (⟨Nat.zero_le _,SBF.s (fun i hi=>⟨hi,rfl⟩) (by simp only; omega),EF,fun j hj=>⟨wF j hj,rfl⟩,rfl,fun x hx=>(by cases hx),.inl ⟨rfl,rfl,rfl⟩⟩) ⟨rfl,rfl,rfl,rfl,rfl,trivial⟩ rfl rfl (rfl) (fun s hi bE n=>?_)
      obtain ⟨i,S10,A10,xs,l,tail⟩:=s
      obtain ⟨ile,SB10,E10,v10,xl,xb,hform⟩:=hi
      simp only at ile SB10 E10 v10 xl xb hform
      rcases hform with ⟨hi0,el,et⟩ | ⟨hi0,o,el,et⟩
      case' inl=>subst el et
      case' inr=>subst el et
      all_goals
        refine KW.cnd rfl rfl (fun k5=>?gin) (fun k5=>?gout)
        case gin=>
          have k5:(i:Int) < (L.length:Int):=k5
          refine KW.callWL (W:=fun i=>i=id) (fun i hi=>by subst hi; exact SB10.sid) rfl rfl rfl rfl rfl ⟨.inl ⟨1,_,_,_,_,rfl,rfl⟩,trivial⟩ (pickB (n:=IntKind.i64.wrap (1+(z5:Int))) SB10 (by omega) (by omega)) (fun v H11 S11 n11 st11 w11 hv11=>?_)
          obtain ⟨z11,hz11,rfl,src11⟩:=hv11
          have hz11:=hz11 (by omega)
          have SB11:=SB10.w1 st11 src11
          have E11:=E10.w st11 (fun i hi=>.inl hi)
          have hne:∀j,New H9.n HF.n j→j≠id:=fun j hj e=>by have:=hj.1; have:=SB0.sid; have h0:id < H.n:=SB0.sid; omega
          have v11:∀j,New H9.n HF.n j→S11 j∧H11.m j=HF.m j:=fun j hj=>⟨(st11 j (v10 j hj).1).1,((st11 j (v10 j hj).1).2 (hne j hj)).trans (v10 j hj).2⟩
          have xb11:∀x∈xs++[(z11:Int)],0≤x∧x≤1+(z5:Int) - 1:=fun x hx=>(List.mem_append.1 hx).elim (xb x) (fun hx=>by rw [List.mem_singleton.1 hx]; omega)
          have SB12:=SB11.s (B':=B+2012+2+2+2+2+2+200+2*(i+1)) (fun i hi=>⟨hi,rfl⟩) (by omega)
          first
            | (refine KW.app1 (xs:=xs.map (Value.int .i64)) (v:=.int .i64 z11) 2 3 rfl rfl rfl rfl rfl rfl rfl rfl rfl rfl rfl rfl rfl rfl rfl rfl rfl rfl rfl rfl rfl rfl rfl (by rw [List.length_map]; exact xl) (by show (i+1)*8≤_; omega) (by show i+1≤_; omega) ?_
               exact KW.nxt rfl rfl (fun H' g=>⟨⟨i+1,S11,H11,xs++[(z11:Int)],.slice (some ⟨H11.n+1,0,some 1⟩) (i+1) (i+1),[(H11.n+1,⟨2,true,(xs++[(z11:Int)]).map (Value.int .i64)⟩)]⟩,⟨by simp only; omega,SB12,E11,v11,by simp only [List.length_append,List.length_singleton]; omega,xb11,.inr ⟨by simp only; omega,_,rfl,rfl⟩⟩,by simp only; omega,⟨rfl,rfl,rfl,rfl,congrArg (Value.int .i64) (inc64 (by omega)),trivial⟩,g.eqT (by simp only [List.map_append]; rfl)⟩))
            | (refine KW.app0 (v:=.int .i64 z11) 2 rfl rfl rfl rfl rfl rfl rfl rfl rfl rfl rfl rfl rfl rfl rfl rfl rfl rfl rfl rfl rfl rfl (by decide) ?_
               subst hi0
               obtain rfl:xs=[]:=List.eq_nil_of_length_eq_zero xl
               exact KW.nxt rfl rfl (fun H' g=>⟨⟨1,S11,H11,[(z11:Int)],_,_⟩,⟨by simp only; omega,SB12,E11,v11,rfl,xb11,.inr ⟨by simp only; omega,_,rfl,rfl⟩⟩,by simp only; omega,⟨rfl,rfl,rfl,rfl,rfl,trivial⟩,g⟩))
        case gout=>
          have k5:¬(i:Int) < (L.length:Int):=k5
          have ei:i=L.length:=by omega
          have hpr:=prime_small hp5
          have hk:OkSch (IntKind.i64.wrap (1+(z5:Int))) xs p (IntKind.i64.wrap (1+(z9:Int))) L:=⟨by omega,by omega,⟨hpr,by omega,by omega,by omega,fun r hr=>⟨by have:=(hL2 r hr).1; omega,fun y hy=>by have:=(hL2 r hr).2 y hy; omega⟩⟩,by omega,by omega,fun y hy=>by have:=xb y hy; omega⟩
          refine KW.retW rfl rfl rfl rfl (fun H9 g=>by have:=(g.vars 0 _ rfl).2.1; have:=g.n_; omega) (fun i h1 h2=>E10.old i h1 h2) (fun HE gg=>?_)
          have hnE:=gg.n_
          have mv:∀j,New H9.n HF.n j→New H.n HE.n j∧HE.m j=HF.m j:=fun j hj=>⟨⟨by have:=hj.1; omega,by have:=(gg.froz j (v10 j hj).1).1; omega⟩,(gg.froz j (v10 j hj).1).2.trans (v10 j hj).2⟩
          obtain ⟨q9,u9,src9⟩:=SB10.src
          first
            | (have hb:=gg.blk (j:=2) rfl
               have hgv:=(gg.vars 2 _ rfl).2.2
               have oge:H.n≤o:=by
                 rcases Nat.lt_or_ge o H.n with h | h
                 · by_cases e:o=id
                   · exact absurd (e ▸ SB10.sid) hgv
                   · exact absurd (E10.old o h e).1 hgv
                 · exact h
               have h1:KI.Sl (New H.n HE.n) HE (.slice (some ⟨o,0,some 1⟩) xs.length xs.length) xs:=(row_ml hb.1).sl.more (fun j h=>by rw [h]; exact ⟨oge,hb.2⟩)
               refine ⟨⟨_,rfl,_,p,_,xs,L,some ⟨o,0,some 1⟩,b4,xs.length,d4,by rw [xl]; rfl,hk,h1,hsF.stX mv⟩,q9,by omega,src9.mv (gg.froz id SB10.sid).2⟩)
            | (obtain rfl:xs=[]:=List.eq_nil_of_length_eq_zero (by omega)
               exact ⟨⟨_,rfl,_,p,_,[],L,none,b4,0,d4,rfl,hk,.inl ⟨rfl,none,0,rfl,fun _=>rfl⟩,hsF.stX mv⟩,q9,by omega,src9.mv (gg.froz id SB10.sid).2⟩)
end
theorem GwE.ge {H:AH} {W S:Ids} {A:AH} {o:Nat} (e:GwE H W S A) (h:¬S o):H.n≤o:=by
 rcases Nat.lt_or_ge o H.n with h1 | h1
 ·by_cases hw:W o
  ·exact absurd (e.wid o hw) h
  ·exact absurd (e.old o h1 hw).1 h
 ·exact h1
theorem Cl.app1 {α:Type} {d:Kn α} {X:Ids} {A:AH} {xs:List α} {cs:List Value} {y:α} {v:Value} (h:Cl d X A xs cs) (he:d.es=1) (hl:cs.length=xs.length) (hy:d.R X A y [v]):Cl d X A (xs++[y]) (cs++[v]):=by
 have h2:=h.snoc hy
 rw [he,Nat.mul_one,List.drop_zero,← hl,List.take_length] at h2
 exact h2
theorem built_Deal0 (h p c:Int) (a1:Option Addr) (n1 c1:Nat) (a2:Option Addr) (n2 c2:Nat):Try.prog.built 54 [(0,.agg #[.int .i64 h,.slice a1 n1 c1,.int .i64 p,.int .i64 c,.slice a2 n2 c2])]=some #[.int .i64 h,.slice a1 n1 c1,.int .i64 p,.int .i64 c,.slice a2 n2 c2,.int .i64 0,.slice none 0 0,.slice none 0 0]:=by kernel_rfl
structure DlS where
 m:Nat
 S:Ids
 A:AH
 V:Ids
 bl:List (List Int)
 ks:List (List (List Int))
 bcs:List Value
 kcs:List Value
 l1:Value
 l2:Value
structure DlI (bs:List Int) (ac:Option Addr) (cc id:Nat) (Y:Ids) (B:Nat) (p c:Int) (rn:Nat) (VS:Ids) (A1 H:AH) (s:DlS):Prop where
 le:s.bl.length+s.m≤3
 ge:1≤s.bl.length+s.m
 src:SrcB bs ac cc id Y s.S s.A (B+s.bl.length*200)
 E:GwE H (fun i=>i=id) s.S s.A
 vs:∀j,VS j→s.S j∧s.A.m j=A1.m j
 v:∀j,s.V j→s.S j∧H.n≤j
 clb:Cl KI.sl s.V s.A s.bl s.bcs
 bcl:s.bcs.length=s.bl.length
 clk:Cl KI.sl.sl s.V s.A s.ks s.kcs
 kcl:s.kcs.length=s.ks.length
 kl:s.ks.length=s.bl.length
 ok:∀(e:Nat) b kk,s.bl[e]?=some b→s.ks[e]?=some kk→((b.length:Int)=c - 1∧Elems p b)∧KeysOk p rn kk
 form:(s.bl.length=0∧s.l1=.slice none 0 0∧s.l2=.slice none 0 0)∨(0 < s.bl.length∧∃o1 o2,s.l1=.slice (some ⟨o1,0,some 1⟩) s.bl.length s.bl.length∧s.l2=.slice (some ⟨o2,0,some 1⟩) s.bl.length s.bl.length∧(s.S o1∧H.n≤o1∧¬s.V o1∧¬VS o1∧s.A.m o1=some ⟨36,true,s.bcs⟩)∧(s.S o2∧H.n≤o2∧¬s.V o2∧¬VS o2∧s.A.m o2=some ⟨24,true,s.kcs⟩)∧o1≠o2)
structure BldS where
 h:Nat
 S:Ids
 A:AH
 xs:List Int
 o:Nat
structure BldI (bs:List Int) (ac:Option Addr) (cc id:Nat) (Y:Ids) (B:Nat) (p c:Int) (S3:Ids) (A3 H:AH) (s:BldS):Prop where
 h1:s.xs.length+1=s.h
 h2:(s.h:Int)≤c
 src:SrcB bs ac cc id Y s.S s.A (B+2*s.xs.length)
 E:GwE H (fun i=>i=id) s.S s.A
 keep:StW (fun i=>i=id) S3 A3 s.S s.A
 xb:Elems p s.xs
structure KyS where
 i:Nat
 S:Ids
 A:AH
 V:Ids
 kk:List (List Int)
 kc:List Value
 o:Nat
structure KyI (bs:List Int) (ac:Option Addr) (cc id:Nat) (Y:Ids) (B:Nat) (p:Int) (rn:Nat) (S3:Ids) (A3 H:AH) (s:KyS):Prop where
 le:s.i≤rn
 kl:s.kk.length=s.i
 kc:s.kc.length=s.i
 src:SrcB bs ac cc id Y s.S s.A (B+6*s.i)
 E:GwE H (fun i=>i=id) s.S s.A
 keep:StW (fun i=>i=id) S3 A3 s.S s.A
 v:∀j,s.V j→s.S j∧H.n≤j∧¬S3 j
 cl:Cl KI.sl s.V s.A s.kk s.kc
 ok:∀y∈s.kk,y.length=2∧Elems p y
section
variable {S:Ids} {H0:AH} {bs:List Int} {ac:Option Addr} {cc id B:Nat} {Y:Ids}
theorem l08Drawn (hsrc:SrcB bs ac cc id Y S H0 B) (hB:B≤400000):
  SpecW Try.prog S H0 (fun i=>i=id) 92 [.pointer (some ⟨id,0,none⟩)] (fun m v H1=>(∃(x:T_Deal) (cs:List Value),v=.agg cs.toArray∧DealOk x∧K_Deal.R (New m H1.n) H1 x cs)∧∃at_,at_≤B+4000∧Src ac bs.length cc H1 id at_):=by
 refine SpecW.of0 Try.func92 rfl (by kernel_rfl) rfl (fun H hfin hfz=>?_)
 have SB0:SrcB bs ac cc id Y (Low H.n) H B:=hsrc.s (fun i hi=>hfz i hi) (Nat.le_refl _)
 have E0:GwE H (fun i=>i=id) (Low H.n) H:=⟨fun i hi=>by rw [hi]; exact SB0.sid,fun i h _=>⟨h,rfl⟩⟩
 have hidL:id < H.n:=SB0.sid
 refine KW.callW (W:=fun i=>i=id) (fun i hi=>by subst hi; exact SB0.sid) rfl rfl rfl rfl rfl (l04Drawn SB0 (by omega)) (fun v H1 S1 n1 st1 w1 hv1=>?_)
 obtain ⟨⟨cs,rfl,h,p,c,ow,rows,a1,a2,d1,d2,rfl,hk,ho,hs⟩,q1,u1,src1⟩:=hv1
 have SB1:=SB0.w1 (B':=B+3000) st1 ⟨q1,u1,src1⟩
 have E1:=E0.w st1 (fun i hi=>.inl hi)
 have hpr:=hk.mat.pr
 have hp2:=hpr.1
 have hp31:=hpr.2.1
 have hc1:=hk.c1
 have hc12:=hk.mat.c1
 have hrl:=hk.mat.len
 have hol:=hk.len
 refine KW.build rfl rfl rfl rfl rfl (built_Deal0 _ _ _ _ _ _ _ _ _) ?_
 refine KW.callW (W:=fun i=>i=id) (fun i hi=>by subst hi; exact SB1.sid) rfl rfl rfl rfl rfl (pickB (n:=p) SB1 (by omega) (by omega)) (fun v H2 S2 n2 st2 w2 hv2=>?_)
 obtain ⟨z2,hz2,rfl,src2⟩:=hv2
 have hz2:=hz2 (by omega)
 have SB2:=SB1.w1 st2 src2
 have E2:=E1.w st2 (fun i hi=>.inl hi)
 refine KW.callW (W:=fun i=>i=id) (fun i hi=>by subst hi; exact SB2.sid) rfl rfl rfl rfl rfl (pickB (n:=3) SB2 (by omega) (by omega)) (fun v H4 S4 n4 st4 w4 hv4=>?_)
 obtain ⟨z4,hz4,rfl,src4⟩:=hv4
 have hz4:=hz4 (by omega)
 have SB4:=SB2.w1 st4 src4
 have E4:=E2.w st4 (fun i hi=>.inl hi)
 have e4:IntKind.i64.wrap (1+(z4:Int))=((1+z4:Nat):Int):=by rw [wr (by omega) (by omega)]; omega
 have vs4:∀j,New (H.n+1) H1.n j→S4 j∧H4.m j=H1.m j:=fun j hj=>by
  have hne:j≠id:=by have:=hj.1; omega
  have h1:=st2 j (w1 j hj)
  have h2:=st4 j h1.1
  exact ⟨h2.1,(h2.2 hne).trans (h1.2 hne)⟩
 refine KW.lpM rfl rfl (fun s:DlS=>[(0,.pointer (some ⟨id,0,none⟩)),(2,.pointer (some ⟨H.n,0,some 0⟩)),(3,.pointer (some ⟨H1.n,0,some 1⟩)),(4,.int .i64 p),(5,.int .i64 s.m)]) (fun s=>s.S) (fun s=>s.A) (fun s=>[(H.n,⟨54,true,[.int .i64 0,.slice none 0 0,.int .i64 0,.int .i64 0,.slice none 0 0,.int .i64 0,.slice none 0 0,.slice none 0 0]⟩),(H1.n,⟨54,true,[.int .i64 h,.slice a1 ow.length d1,.int .i64 p,.int .i64 c,.slice a2 rows.length d2,.int .i64 z2,s.l1,s.l2]⟩)]) (fun s=>DlI bs ac cc id Y (B+3004) p c rows.length (New (H.n+1) H1.n) H1 H s) (fun s=>s.m) (⟨1+z4,S4,H4,fun _=>False,[],[],[],[],.slice none 0 0,.slice none 0 0⟩) (⟨by simp only [List.length_nil]; omega,by simp only [List.length_nil]; omega,SB4.s (fun i hi=>⟨hi,rfl⟩) (by simp only [List.length_nil]; omega),E4,vs4,fun _ h=>h.elim,Cl.nil _ _ _ _,rfl,Cl.nil _ _ _ _,rfl,rfl,fun e b kk h=>(by simp at h),.inl ⟨rfl,rfl,rfl⟩⟩) ⟨rfl,rfl,rfl,rfl,congrArg (Value.int .i64) e4,trivial⟩ rfl rfl (rfl) (fun s hi bE n=>?_)
 obtain ⟨m,S3,A3,V,bl,ks,bcs,kcs,l1,l2⟩:=s
 obtain ⟨ile,ige,SB3,E3,vs3,v3,clb,bcl,clk,kcl,kl,ok3,hform⟩:=hi
 simp only at ile ige SB3 E3 vs3 v3 clb bcl clk kcl kl ok3 hform
 refine KW.cnd rfl rfl (fun k1=>?_) (fun k1=>?_)
 ·have k1:(m:Int) > 0:=k1
  refine KW.lit rfl rfl rfl rfl rfl rfl rfl rfl rfl rfl [] rfl rfl (fun v hv=>by simp at hv) rfl ?_
  refine KW.lpM rfl rfl (fun s:BldS=>[(0,.pointer (some ⟨id,0,none⟩)),(2,.pointer (some ⟨H.n,0,some 0⟩)),(3,.pointer (some ⟨H1.n,0,some 1⟩)),(4,.int .i64 p),(5,.int .i64 m),(6,.slice (some ⟨s.o,0,some 1⟩) s.xs.length s.xs.length),(7,.int .i64 s.h)]) (fun s=>s.S) (fun s=>s.A) (fun s=>[(H.n,⟨54,true,[.int .i64 0,.slice none 0 0,.int .i64 0,.int .i64 0,.slice none 0 0,.int .i64 0,.slice none 0 0,.slice none 0 0]⟩),(H1.n,⟨54,true,[.int .i64 h,.slice a1 ow.length d1,.int .i64 p,.int .i64 c,.slice a2 rows.length d2,.int .i64 z2,l1,l2]⟩),(s.o,⟨2,true,s.xs.map (Value.int .i64)⟩)]) (fun s=>BldI bs ac cc id Y (B+3004+bl.length*200) p c S3 A3 H s) (fun s=>c.toNat - s.h) (⟨1,S3,A3,[],_⟩) (⟨rfl,by simp only; omega,SB3.s (fun i hi=>⟨hi,rfl⟩) (by simp only [List.length_nil]; omega),E3,fun j hj=>⟨hj,fun _=>rfl⟩,fun x hx=>(by cases hx)⟩) ⟨rfl,rfl,rfl,rfl,rfl,rfl,rfl,trivial⟩ rfl rfl (rfl) (fun s hi bE n=>?_)
  obtain ⟨hh,S5,A5,xs,o5⟩:=s
  obtain ⟨x1,x2,SB5,E5,keep5,xb⟩:=hi
  simp only at x1 x2 SB5 E5 keep5 xb
  refine KW.cnd rfl rfl (fun k2=>?_) (fun k2=>?_)
  ·have k2:(hh:Int) < c:=k2
   refine KW.callW (W:=fun i=>i=id) (fun i hi=>by subst hi; exact SB5.sid) rfl rfl rfl rfl rfl (pickB (n:=p) SB5 (by omega) (by omega)) (fun v H6 S6 n6 st6 w6 hv6=>?_)
   obtain ⟨z6,hz6,rfl,src6⟩:=hv6
   have hz6:=hz6 (by omega)
   have SB6:=SB5.w1 st6 src6
   have E6:=E5.w st6 (fun i hi=>.inl hi)
   have keep6:StW (fun i=>i=id) S3 A3 S6 H6:=fun j hj=>⟨(st6 j (keep5 j hj).1).1,fun hne=>((st6 j (keep5 j hj).1).2 hne).trans ((keep5 j hj).2 hne)⟩
   have xb6:Elems p (xs++[(z6:Int)]):=fun x hx=>(List.mem_append.1 hx).elim (xb x) (fun hx=>by rw [List.mem_singleton.1 hx]; omega)
   refine KW.app1 (xs:=xs.map (Value.int .i64)) (v:=.int .i64 z6) 2 3 rfl rfl rfl rfl rfl rfl rfl rfl rfl rfl rfl rfl rfl rfl rfl rfl rfl rfl rfl rfl rfl rfl rfl (by simp) (by show (xs.length+1)*8≤_; omega) (by show xs.length+1≤_; omega) ?_
   exact KW.nxt rfl rfl (fun H' g=>⟨⟨hh+1,S6,H6,xs++[(z6:Int)],_⟩,⟨by simp only [List.length_append,List.length_singleton]; omega,by simp only; omega,SB6.s (fun i hi=>⟨hi,rfl⟩) (by simp only [List.length_append,List.length_singleton]; omega),E6,keep6,xb6⟩,by simp only; omega,⟨rfl,rfl,rfl,rfl,rfl,by simp only [List.length_append,List.length_singleton]; rfl,congrArg (Value.int .i64) (inc64 (by omega)),trivial⟩,g.eqT (by simp only [List.map_append]; rfl)⟩)
  ·have k2:¬(hh:Int) < c:=k2
   have hxl:(xs.length:Int)=c - 1:=by omega
   refine KW.lit rfl rfl rfl rfl rfl rfl rfl rfl rfl rfl [] rfl rfl (fun v hv=>by simp at hv) rfl ?_
   refine KW.lpM rfl rfl (fun s:KyS=>[(0,.pointer (some ⟨id,0,none⟩)),(2,.pointer (some ⟨H.n,0,some 0⟩)),(3,.pointer (some ⟨H1.n,0,some 1⟩)),(4,.int .i64 p),(5,.int .i64 m),(6,.slice (some ⟨o5,0,some 1⟩) xs.length xs.length),(8,.slice (some ⟨s.o,0,some 1⟩) s.i s.i),(9,.int .i64 s.i)]) (fun s=>s.S) (fun s=>s.A) (fun s=>[(H.n,⟨54,true,[.int .i64 0,.slice none 0 0,.int .i64 0,.int .i64 0,.slice none 0 0,.int .i64 0,.slice none 0 0,.slice none 0 0]⟩),(H1.n,⟨54,true,[.int .i64 h,.slice a1 ow.length d1,.int .i64 p,.int .i64 c,.slice a2 rows.length d2,.int .i64 z2,l1,l2]⟩),(o5,⟨2,true,xs.map (Value.int .i64)⟩),(s.o,⟨36,true,s.kc⟩)]) (fun s=>KyI bs ac cc id Y (B+3004+bl.length*200+2*xs.length) p rows.length S3 A3 H s) (fun s=>rows.length - s.i) (⟨0,S5,A5,fun _=>False,[],[],_⟩) (⟨Nat.zero_le _,rfl,rfl,SB5.s (fun i hi=>⟨hi,rfl⟩) (by simp only; omega),E5,keep5,fun _ h=>h.elim,Cl.nil _ _ _ _,fun y hy=>(by cases hy)⟩) ⟨rfl,rfl,rfl,rfl,rfl,rfl,rfl,rfl,trivial⟩ rfl rfl (rfl) (fun s hi bE n=>?_)
   obtain ⟨i,S6,A6,V6,kk,kc,o6⟩:=s
   obtain ⟨y1,y2,y3,SB6,E6,keep6,v6,cl6,ok6⟩:=hi
   simp only at y1 y2 y3 SB6 E6 keep6 v6 cl6 ok6
   refine KW.cnd rfl rfl (fun k3=>?_) (fun k3=>?_)
   ·have k3:(i:Int) < (ow.length:Int):=k3
    refine KW.callW (W:=fun i=>i=id) (fun i hi=>by subst hi; exact SB6.sid) rfl rfl rfl rfl rfl (pickB (n:=IntKind.i64.wrap (p - 1)) SB6 (by omega) (by rw [wr (by omega) (by omega)]; omega)) (fun v H7 S7 n7 st7 w7 hv7=>?_)
    obtain ⟨z7,hz7,rfl,src7⟩:=hv7
    have ep:IntKind.i64.wrap (p - 1)=p - 1:=wr (by omega) (by omega)
    rw [ep] at hz7
    have hz7:=hz7 (by omega)
    have SB7:=SB6.w1 st7 src7
    have E7:=E6.w st7 (fun i hi=>.inl hi)
    have e7:IntKind.i64.wrap (1+(z7:Int))=1+(z7:Int):=wr (by omega) (by omega)
    refine KW.callW (W:=fun i=>i=id) (fun i hi=>by subst hi; exact SB7.sid) rfl rfl rfl rfl rfl (oneB (n:=12) SB7 (by omega) (by omega)) (fun v H8 S8 n8 st8 w8 hv8=>?_)
    obtain ⟨b8,rfl,src8⟩:=hv8
    have SB8:=SB7.w1 st8 src8
    have E8:=E7.w st8 (fun i hi=>.inl hi)
    refine KW.cndB rfl rfl (fun k4=>?ty) (fun k4=>?tn)
    case' ty=>have hav:0≤(0:Int)∧(0:Int)≤p - 1:=by omega
    case' tn=>have hav:0≤IntKind.i64.wrap (1+(z7:Int))∧IntKind.i64.wrap (1+(z7:Int))≤p - 1:=by omega
    all_goals
     refine KW.callW (W:=fun i=>i=id) (fun i hi=>by subst hi; exact SB8.sid) rfl rfl rfl rfl rfl (pickB (n:=p) SB8 (by omega) (by omega)) (fun v H9 S9 n9 st9 w9 hv9=>?_)
     obtain ⟨z9,hz9,rfl,src9⟩:=hv9
     have hz9:=hz9 (by omega)
     have SB9:=SB8.w1 st9 src9
     have E9:=E8.w st9 (fun i hi=>.inl hi)
     have k79:StW (fun i=>i=id) S6 A6 S9 H9:=fun j hj=>by
      have h1:=st7 j hj
      have h2:=st8 j h1.1
      have h3:=st9 j h2.1
      exact ⟨h3.1,fun hne=>(h3.2 hne).trans ((h2.2 hne).trans (h1.2 hne))⟩
     refine KW.lit rfl rfl rfl rfl rfl rfl rfl rfl rfl rfl [.int .i64 _,.int .i64 z9] rfl rfl (fun v hv=>by simp only [List.mem_cons,List.not_mem_nil,or_false] at hv; rcases hv with rfl | rfl <;> rfl) rfl ?_
     refine KW.freeze 4 rfl (fun AA SA hnA hSA stA hmA hoA hnoA hlowA=>?_)
     have SBA:=SB9.s (B':=B+3004+bl.length*200+2*xs.length+6*(i+1)) stA.st (by omega)
     have EA:=E9.s stA.st
     obtain ⟨yv,hyv,hyl,hye⟩:∃yv:List Int,KI.Sl (fun j=>j=_) AA (.slice (some ⟨_,0,some 1⟩) 2 2) yv∧yv.length=2∧Elems p yv:=⟨_,(row_ml (xs:=[_,(z9:Int)]) hmA).sl,rfl,fun x hx=>by
      simp only [List.mem_cons,List.not_mem_nil,or_false] at hx
      rcases hx with rfl | rfl
      ·exact hav
      ·omega⟩
     have kA:StW (fun i=>i=id) S6 A6 SA AA:=fun j hj=>⟨(stA.st j (k79 j hj).1).1,fun hne=>((stA.st j (k79 j hj).1).2).trans ((k79 j hj).2 hne)⟩
     have keepA:StW (fun i=>i=id) S3 A3 SA AA:=fun j hj=>⟨(kA j (keep6 j hj).1).1,fun hne=>((kA j (keep6 j hj).1).2 hne).trans ((keep6 j hj).2 hne)⟩
     have clA:=(cl6.mv (X':=fun j=>V6 j∨j=_) (A':=AA) (fun j hj=>(kA j (v6 j hj).1).2 (fun e=>by have:=(v6 j hj).2.1; omega)) (fun j hj=>.inl hj)).app1 rfl (by omega) (sl1' (hyv.more (fun j hj=>.inr hj)))
     have vA:∀j,(V6 j∨j=_)→SA j∧H.n≤j∧¬S3 j:=fun j hj=>by
      rcases hj with hj | hj
      ·exact ⟨(kA j (v6 j hj).1).1,(v6 j hj).2⟩
      ·rw [hj]
       exact ⟨(hSA _).2 (.inr rfl),E9.ge hnoA,fun h3=>hnoA ((k79 _ (keep6 _ h3).1).1)⟩
     have okA:∀y∈kk++[yv],y.length=2∧Elems p y:=fun y hy=>(List.mem_append.1 hy).elim (ok6 y) (fun hy=>by rw [List.mem_singleton.1 hy]; exact ⟨hyl,hye⟩)
     refine KW.app1 (xs:=kc) (v:=.slice (some ⟨_,0,some 1⟩) 2 2) 3 4 rfl rfl rfl rfl rfl rfl rfl rfl rfl rfl rfl rfl rfl rfl rfl rfl rfl rfl rfl rfl rfl rfl rfl (by omega) (by show (i+1)*24≤_; omega) (by show i+1≤_; omega) ?_
     exact KW.nxt rfl rfl (fun H' g=>⟨⟨i+1,SA,AA,_,kk++[yv],_,_⟩,⟨by simp only; omega,by simp only [List.length_append,List.length_singleton]; omega,by simp only [List.length_append,List.length_singleton]; omega,SBA,EA,keepA,vA,clA,okA⟩,by simp only; omega,⟨rfl,rfl,rfl,rfl,rfl,rfl,rfl,congrArg (Value.int .i64) (inc64 (by omega)),trivial⟩,g⟩)
   ·have k3:¬(i:Int) < (ow.length:Int):=k3
    have ei:i=rows.length:=by omega
    refine KW.freeze 3 rfl (fun A7 S7 hn7 hS7 st7 hm7 ho7 hno7 hlow7=>?_)
    refine KW.freeze 2 rfl (fun A8 S8 hn8 hS8 st8 hm8 ho8 hno8 hlow8=>?_)
    have st68:St S6 A6 S8 A8:=fun j hj=>⟨(st8.st j (st7.st j hj).1).1,((st8.st j (st7.st j hj).1).2).trans (st7.st j hj).2⟩
    have E8:=E6.s st68
    have SB8:=SB6.s (B':=B+3004+(bl.length+1)*200) st68 (by omega)
    have keep8:StW (fun i=>i=id) S3 A3 S8 A8:=fun j hj=>⟨(st68 j (keep6 j hj).1).1,fun hne=>((st68 j (keep6 j hj).1).2).trans ((keep6 j hj).2 hne)⟩
    have h67:=st8.st o6 ((hS7 _).2 (.inr rfl))
    have ho6:¬S3 o6:=fun h=>hno7 (keep6 o6 h).1
    have ho5:¬S3 o5:=fun h=>hno8 ((st7.st o5 (keep6 o5 h).1).1)
    have hg6:H.n≤o6:=E6.ge hno7
    have hg5:H.n≤o5:=(E6.s st7.st).ge hno8
    obtain ⟨V8,eV8⟩:∃V8:Ids,V8=fun j=>V j∨V6 j∨j=o5∨j=o6:=⟨_,rfl⟩
    have v8:∀j,V8 j→S8 j∧H.n≤j:=fun j hj=>by
     rw [eV8] at hj
     rcases hj with hj | hj | hj | hj
     ·exact ⟨(keep8 j (v3 j hj).1).1,(v3 j hj).2⟩
     ·exact ⟨(st68 j (v6 j hj).1).1,(v6 j hj).2.1⟩
     ·rw [hj]; exact ⟨(hS8 _).2 (.inr rfl),hg5⟩
     ·rw [hj]; exact ⟨h67.1,hg6⟩
    have rb:KI.sl.R V8 A8 xs [.slice (some ⟨o5,0,some 1⟩) xs.length xs.length]:=sl1' ((row_ml hm8).sl.more (fun j hj=>by rw [eV8]; exact .inr (.inr (.inl hj))))
    have rk:KI.sl.sl.R V8 A8 kk [.slice (some ⟨o6,0,some 1⟩) i i]:=by
     have h:=Cl.sl (cl6.mv (X':=V6) (A':=A8) (fun j hj=>(st68 j (v6 j hj).1).2) (fun j hj=>hj)) (S:=V8) (id:=o6) (c:=kk.length) (by rw [eV8]; exact .inr (.inr (.inr rfl))) (h67.2.trans hm7) rfl (fun j hj=>by rw [eV8]; exact .inr (.inl hj)) (Nat.le_refl _)
     rw [y2] at h
     exact sl1' h
    have hne:∀j,V j→j≠id:=fun j hj e=>by have:=(v3 j hj).2; omega
    have clb8:=(clb.mv (X':=V8) (A':=A8) (fun j hj=>(keep8 j (v3 j hj).1).2 (hne j hj)) (fun j hj=>by rw [eV8]; exact .inl hj)).app1 rfl bcl rb
    have clk8:=(clk.mv (X':=V8) (A':=A8) (fun j hj=>(keep8 j (v3 j hj).1).2 (hne j hj)) (fun j hj=>by rw [eV8]; exact .inl hj)).app1 rfl kcl rk
    have vs8:∀j,New (H.n+1) H1.n j→S8 j∧A8.m j=H1.m j:=fun j hj=>⟨(keep8 j (vs3 j hj).1).1,((keep8 j (vs3 j hj).1).2 (by have:=hj.1; omega)).trans (vs3 j hj).2⟩
    have ok8:∀(e:Nat) b k9,(bl++[xs])[e]?=some b→(ks++[kk])[e]?=some k9→((b.length:Int)=c - 1∧Elems p b)∧KeysOk p rows.length k9:=fun e b k9 h1 h2=>by
     rcases Nat.lt_or_ge e bl.length with hlt | hge
     ·rw [List.getElem?_append_left hlt] at h1
      rw [List.getElem?_append_left (by omega)] at h2
      exact ok3 e b k9 h1 h2
     ·have hlt:=(List.getElem?_eq_some_iff.1 h1).1
      simp only [List.length_append,List.length_singleton] at hlt
      obtain rfl:e=bl.length:=by omega
      rw [List.getElem?_append_right (Nat.le_refl _),Nat.sub_self] at h1
      rw [List.getElem?_append_right (by omega),kl,Nat.sub_self] at h2
      cases h1
      cases h2
      exact ⟨⟨hxl,xb⟩,by omega,ok6⟩
    have em:IntKind.i64.wrap ((m:Int) - 1)=((m - 1:Nat):Int):=by rw [wr (by omega) (by omega)]; omega
    have fin:∀(S9:Ids) (A9:AH) (o1 o2:Nat),(∀j,(V8 j∨New (H.n+1) H1.n j∨j=id∨Y j∨(j < H.n∧j≠id))→S9 j∧A9.m j=A8.m j)→(S9 o1∧H.n≤o1∧¬V8 o1∧¬New (H.n+1) H1.n o1∧A9.m o1=some ⟨36,true,bcs++[.slice (some ⟨o5,0,some 1⟩) xs.length xs.length]⟩)→(S9 o2∧H.n≤o2∧¬V8 o2∧¬New (H.n+1) H1.n o2∧A9.m o2=some ⟨24,true,kcs++[.slice (some ⟨o6,0,some 1⟩) i i]⟩)→o1≠o2→
      DlI bs ac cc id Y (B+3004) p c rows.length (New (H.n+1) H1.n) H1 H ⟨m - 1,S9,A9,V8,bl++[xs],ks++[kk],bcs++[.slice (some ⟨o5,0,some 1⟩) xs.length xs.length],kcs++[.slice (some ⟨o6,0,some 1⟩) i i],.slice (some ⟨o1,0,some 1⟩) (bl.length+1) (bl.length+1),.slice (some ⟨o2,0,some 1⟩) (bl.length+1) (bl.length+1)⟩:=fun S9 A9 o1 o2 h1 h2 h3 h4=>by
     have hl1:(bl++[xs]).length=bl.length+1:=by simp
     obtain ⟨q8,w8,src8⟩:=SB8.src
     refine ⟨by simp only [hl1]; omega,by simp only [hl1]; omega,⟨SB8.hb,SB8.hl,(h1 id (.inr (.inr (.inl rfl)))).1,fun j hj=>⟨(h1 j (.inr (.inr (.inr (.inl hj))))).1,(SB8.y j hj).2⟩,⟨q8,by simp only [hl1]; omega,src8.mv (h1 id (.inr (.inr (.inl rfl)))).2⟩,SB8.kb.stX (fun j hj=>⟨hj,(h1 j (.inr (.inr (.inr (.inl hj))))).2⟩)⟩,⟨fun j hj=>(h1 j (.inr (.inr (.inl hj)))).1,fun j hj hne=>⟨(h1 j (.inr (.inr (.inr (.inr ⟨hj,hne⟩))))).1,(h1 j (.inr (.inr (.inr (.inr ⟨hj,hne⟩))))).2.trans (E8.old j hj hne).2⟩⟩,fun j hj=>⟨(h1 j (.inr (.inl hj))).1,(h1 j (.inr (.inl hj))).2.trans (vs8 j hj).2⟩,fun j hj=>⟨(h1 j (.inl hj)).1,(v8 j hj).2⟩,clb8.mv (fun j hj=>(h1 j (.inl hj)).2) (fun j hj=>hj),by simp [bcl],clk8.mv (fun j hj=>(h1 j (.inl hj)).2) (fun j hj=>hj),by simp [kcl],by simp [kl],ok8,.inr ⟨by simp,o1,o2,by simp only [hl1],by simp only [hl1],h2,h3,h4⟩⟩
    rcases hform with ⟨hb0,el1,el2⟩ | ⟨hb0,o1,o2,el1,el2,⟨f1,f2,f3,f4,f5⟩,⟨f6,f7,f8,f9,f10⟩,f11⟩
    ·subst el1 el2
     obtain rfl:bl=[]:=List.eq_nil_of_length_eq_zero hb0
     obtain rfl:ks=[]:=List.eq_nil_of_length_eq_zero (by rw [kl]; rfl)
     obtain rfl:bcs=[]:=List.eq_nil_of_length_eq_zero bcl
     obtain rfl:kcs=[]:=List.eq_nil_of_length_eq_zero kcl
     refine KW.app0 (v:=.slice (some ⟨o5,0,some 1⟩) xs.length xs.length) 2 rfl rfl rfl rfl rfl rfl rfl rfl rfl rfl rfl rfl rfl rfl rfl rfl rfl rfl rfl rfl rfl rfl (by decide) ?_
     refine KW.app0 (v:=.slice (some ⟨o6,0,some 1⟩) i i) 3 rfl rfl rfl rfl rfl rfl rfl rfl rfl rfl rfl rfl rfl rfl rfl rfl rfl rfl rfl rfl rfl rfl (by decide) ?_
     refine KW.freeze 3 rfl (fun A9 S9 hn9 hS9 st9 hm9 ho9 hno9 hlow9=>?_)
     refine KW.freeze 2 rfl (fun AX SX hnX hSX stX hmX hoX hnoX hlowX=>?_)
     have s8X:St S8 A8 SX AX:=fun j hj=>⟨(stX.st j (st9.st j hj).1).1,((stX.st j (st9.st j hj).1).2).trans (st9.st j hj).2⟩
     have h9X:=stX.st _ ((hS9 _).2 (.inr rfl))
     have hno8X:∀j,S8 j→(¬SX j→False):=fun j hj h=>h (s8X j hj).1
     refine KW.nxt rfl rfl (fun H' g=>⟨⟨m - 1,SX,AX,V8,[xs],[kk],_,_,_,_⟩,fin SX AX _ _ (fun j hj=>s8X j ?_) ⟨(hSX _).2 (.inr rfl),?_,?_,?_,hmX⟩ ⟨h9X.1,?_,?_,?_,h9X.2.trans hm9⟩ ?_,by simp only; omega,⟨rfl,rfl,rfl,rfl,congrArg (Value.int .i64) em,trivial⟩,g⟩)
     ·rcases hj with hj | hj | hj | hj | hj
      ·exact (v8 j hj).1
      ·exact (vs8 j hj).1
      ·rw [hj]; exact SB8.sid
      ·exact (SB8.y j hj).1
      ·exact (E8.old j hj.1 hj.2).1
     ·exact E8.ge (fun h=>hnoX (st9.st _ h).1)
     ·exact fun h=>hnoX (st9.st _ (v8 _ h).1).1
     ·exact fun h=>hnoX (st9.st _ (vs8 _ h).1).1
     ·exact E8.ge hno9
     ·exact fun h=>hno9 (v8 _ h).1
     ·exact fun h=>hno9 (vs8 _ h).1
     ·exact fun e=>hnoX (by rw [e]; exact (hS9 _).2 (.inr rfl))
    ·subst el1 el2
     have q1:=keep8 o1 f1
     have q2:=keep8 o2 f6
     have q1m:=(q1.2 (by omega)).trans f5
     have q2m:=(q2.2 (by omega)).trans f10
     have n15:o1≠o5:=fun e=>ho5 (e ▸ f1)
     have n16:o1≠o6:=fun e=>ho6 (e ▸ f1)
     have n25:o2≠o5:=fun e=>ho5 (e ▸ f6)
     have n26:o2≠o6:=fun e=>ho6 (e ▸ f6)
     refine KW.thaw o1 _ q1.1 q1m ?_
     refine KW.thaw o2 _ ⟨q2.1,fun e=>f11 e.symm⟩ q2m ?_
     have vn:∀j,V8 j→j≠o1∧j≠o2:=fun j hj=>by
      rw [eV8] at hj
      rcases hj with hj | hj | hj | hj
      ·exact ⟨fun e=>f3 (e ▸ hj),fun e=>f8 (e ▸ hj)⟩
      ·exact ⟨fun e=>(v6 j hj).2.2 (e ▸ f1),fun e=>(v6 j hj).2.2 (e ▸ f6)⟩
      ·rw [hj]; exact ⟨fun e=>n15 e.symm,fun e=>n25 e.symm⟩
      ·rw [hj]; exact ⟨fun e=>n16 e.symm,fun e=>n26 e.symm⟩
     have yn:∀j,Y j→j≠o1∧j≠o2:=fun j hj=>by
      have:j < H.n:=(SB0.y j hj).1
      exact ⟨by omega,by omega⟩
     refine KW.app1 (xs:=bcs) (v:=.slice (some ⟨o5,0,some 1⟩) xs.length xs.length) 2 4 rfl rfl rfl rfl rfl rfl rfl rfl rfl rfl rfl rfl rfl rfl rfl rfl rfl rfl rfl rfl rfl rfl rfl bcl (by show (bl.length+1)*24≤_; omega) (by show bl.length+1≤_; omega) ?_
     refine KW.app1 (xs:=kcs) (v:=.slice (some ⟨o6,0,some 1⟩) i i) 3 4 rfl rfl rfl rfl rfl rfl rfl rfl rfl rfl rfl rfl rfl rfl rfl rfl rfl rfl rfl rfl rfl rfl rfl (by omega) (by show (bl.length+1)*24≤_; omega) (by show bl.length+1≤_; omega) ?_
     refine KW.freeze 3 rfl (fun A9 S9 hn9 hS9 st9 hm9 ho9 hno9 hlow9=>?_)
     refine KW.freeze 2 rfl (fun AX SX hnX hSX stX hmX hoX hnoX hlowX=>?_)
     have s8X:∀j,S8 j∧j≠o1∧j≠o2→SX j∧AX.m j=A8.m j:=fun j hj=>by
      have h9:=st9.st j ⟨⟨hj.1,hj.2.1⟩,hj.2.2⟩
      exact ⟨(stX.st j h9.1).1,((stX.st j h9.1).2).trans h9.2⟩
     have h9X:=stX.st _ ((hS9 _).2 (.inr rfl))
     have hin9:∀j,S8 j∧j≠o1∧j≠o2→S9 j:=fun j hj=>(st9.st j ⟨⟨hj.1,hj.2.1⟩,hj.2.2⟩).1
     have hlowS:∀j,(V8 j∨New (H.n+1) H1.n j∨j=id∨Y j∨(j < H.n∧j≠id))→S8 j∧j≠o1∧j≠o2:=fun j hj=>by
      rcases hj with hj | hj | hj | hj | hj
      ·exact ⟨(v8 j hj).1,vn j hj⟩
      ·exact ⟨(vs8 j hj).1,fun e=>f4 (e ▸ hj),fun e=>f9 (e ▸ hj)⟩
      ·rw [hj]; exact ⟨SB8.sid,by omega,by omega⟩
      ·exact ⟨(SB8.y j hj).1,yn j hj⟩
      ·exact ⟨(E8.old j hj.1 hj.2).1,by omega,by omega⟩
     have EN:∀{o:Nat} {SS:Ids},¬SS o→(∀j,S8 j∧j≠o1∧j≠o2→SS j)→H.n≤o:=fun {o SS} hno hs=>by
      rcases Nat.lt_or_ge o H.n with h | h
      ·refine absurd (hs o ?_) hno
       by_cases e:o=id
       ·rw [e]; exact hlowS id (.inr (.inr (.inl rfl)))
       ·exact hlowS o (.inr (.inr (.inr (.inr ⟨h,e⟩))))
      ·exact h
     refine KW.nxt rfl rfl (fun H' g=>⟨⟨m - 1,SX,AX,V8,bl++[xs],ks++[kk],_,_,_,_⟩,fin SX AX _ _ (fun j hj=>s8X j (hlowS j hj)) ⟨(hSX _).2 (.inr rfl),?_,?_,?_,hmX⟩ ⟨h9X.1,?_,?_,?_,h9X.2.trans hm9⟩ ?_,by simp only; omega,⟨rfl,rfl,rfl,rfl,congrArg (Value.int .i64) em,trivial⟩,g⟩)
     ·exact EN hnoX hin9
     ·exact fun h=>hnoX (hin9 _ (hlowS _ (.inl h)))
     ·exact fun h=>hnoX (hin9 _ (hlowS _ (.inr (.inl h))))
     ·exact EN (SS:=fun j=>(S8 j∧j≠o1)∧j≠o2) hno9 (fun j hj=>⟨⟨hj.1,hj.2.1⟩,hj.2.2⟩)
     ·exact fun h=>hno9 (by have:=hlowS _ (.inl h); exact ⟨⟨this.1,this.2.1⟩,this.2.2⟩)
     ·exact fun h=>hno9 (by have:=hlowS _ (.inr (.inl h)); exact ⟨⟨this.1,this.2.1⟩,this.2.2⟩)
     ·exact fun e=>hnoX (by rw [e]; exact (hS9 _).2 (.inr rfl))
 ·have k1:¬(m:Int) > 0:=k1
  rcases hform with ⟨hb0,_⟩ | ⟨hb0,o1,o2,el1,el2,⟨f1,f2,f3,f4,f5⟩,⟨f6,f7,f8,f9,f10⟩,f11⟩
  ·omega
  ·subst el1 el2
   refine KW.retW rfl rfl rfl rfl (fun H9 g=>by have:=(g.vars 0 _ rfl).2.1; have:=g.n_; omega) (fun i h1 h2=>E3.old i h1 h2) (fun H9 gg=>?_)
   have hn9:=gg.n_
   obtain ⟨q3,u3,src3⟩:=SB3.src
   have hX:∀j,S3 j∧H.n≤j→New H.n H9.n j∧H9.m j=A3.m j:=fun j hj=>⟨⟨hj.2,by have:=(gg.froz j hj.1).1; omega⟩,(gg.froz j hj.1).2⟩
   have hmv:∀j,New (H.n+1) H1.n j→New H.n H9.n j∧H9.m j=H1.m j:=fun j hj=>by
    have h1:=hX j ⟨(vs3 j hj).1,by have:=hj.1; omega⟩
    exact ⟨h1.1,h1.2.trans (vs3 j hj).2⟩
   have g1:=hX o1 ⟨f1,f2⟩
   have g2:=hX o2 ⟨f6,f7⟩
   have hb:=Cl.sl (clb.mv (X':=New H.n H9.n) (A':=H9) (fun j hj=>(hX j (v3 j hj)).2) (fun j hj=>(hX j (v3 j hj)).1)) (S:=New H.n H9.n) (id:=o1) (c:=bl.length) g1.1 (g1.2.trans f5) rfl (fun j hj=>hj) (Nat.le_refl _)
   have hkk:=Cl.sl (clk.mv (X':=New H.n H9.n) (A':=H9) (fun j hj=>(hX j (v3 j hj)).2) (fun j hj=>(hX j (v3 j hj)).1)) (S:=New H.n H9.n) (id:=o2) (c:=ks.length) g2.1 (g2.2.trans f10) rfl (fun j hj=>hj) (Nat.le_refl _)
   have hR:K_Deal.R (New H.n H9.n) H9 ((h,ow,p,c,rows),(z2:Int),bl,ks) _:=prR (a:=K_Scheme) (prR (a:=KI) (cs:=[.int .i64 h]) rfl (prR (sl1' (ho.stX hmv)) (prR (a:=KI) (cs:=[.int .i64 p]) rfl (prR (a:=KI) (cs:=[.int .i64 c]) rfl (sl1' (hs.stX hmv)))))) (prR (a:=KI) (cs:=[.int .i64 z2]) rfl (prR (sl1' hb) (sl1' hkk)))
   refine ⟨⟨((h,ow,p,c,rows),(z2:Int),bl,ks),_,?_,⟨hk,⟨by show 0≤(z2:Int); omega,by show (z2:Int)≤p - 1; omega⟩,⟨by show 1≤bl.length; omega,by show bl.length≤4; omega⟩,kl,ok3⟩,hR⟩,q3,by omega,src3.mv (gg.froz id SB3.sid).2⟩
   rw [kl]
   rfl
theorem a2Deal (hb:∀x∈bs,0≤x∧x < 256) (hl:bs.length≤1048576) (hs:KB.Sl S H0 (.slice ac bs.length cc) bs):
  SpecM Try.prog S H0 30 [.slice ac bs.length cc] (fun m v H1=>∃(x:T_Deal) (cs:List Value),v=.agg cs.toArray∧DealOk x∧K_Deal.R (New m H1.n) H1 x cs):=by
 refine SpecM.of1 Try.func30 rfl (by kernel_rfl) rfl (fun H _=>?_)
 refine KW.callN1 rfl rfl rfl rfl rfl (srcFrom) (fun v HS SS mS _ _ hv=>?_)
 obtain ⟨o,sp,rfl,hnew,hsrc⟩:=hv
 have wS:On (New _ HS.n) HS SS HS:=‹_›
 have tS:On (Low H.n) H SS HS:=inferInstance
 have hso:=(wS.st o hnew).1
 have hbs:=(hs.up (S':=Low H.n) (H':=H)).stX (S':=fun i=>SS i∧i≠o) (H':=HS) (fun i hi=>⟨⟨(tS.st i hi).1,fun e=>by have h1:i < H.n:=hi; have:=hnew.1; omega⟩,(tS.st i hi).2⟩)
 have SB:SrcB bs ac cc o (fun i=>SS i∧i≠o) SS HS 0:=⟨hb,hl,hso,fun i hi=>hi,⟨0,Nat.le_refl _,hsrc⟩,hbs⟩
 refine KW.callW (W:=fun i=>i=o) (fun i hi=>by subst hi; exact hso) rfl rfl rfl rfl rfl (l08Drawn SB (by omega)) (fun v H4 S4 hn4 st4 hw4 hp=>?_)
 obtain ⟨⟨x,cs,rfl,hok,hR⟩,_⟩:=hp
 haveI:On (Low H.n) H S4 H4:=⟨fun i hi=>⟨(st4 i (tS.st i hi).1).1,((st4 i (tS.st i hi).1).2 (fun e=>by have h1:i < H.n:=hi; have h2:i=o:=e; have:=hnew.1; omega)).trans (tS.st i hi).2⟩⟩
 obtain ⟨b1,c1,b2,c2,b3,c3,b4,c4,rfl⟩:=form_Deal hR
 refine KW.retM1 rfl rfl rfl rfl (fun H1 g=>?_)
 exact ⟨x,_,rfl,hok,K_Deal.more (fun i hi=>⟨by have:=hi.1; omega,by have:=(g.froz i (hw4 i hi)).1; have:=g.n_; omega⟩) (K_Deal.same (fun i hi=>(g.froz i (hw4 i hi)).2) hR)⟩
end
end Go.Proofs.Ytlapbbffoapleaa.Am
namespace Go.Proofs.Ytlapbbffoapleaa.Am
open Go Go.RowKit Go.Proofs
section
variable {S:Ids} {H0:AH}
theorem deedWord1:Spec Try.prog S H0 215 [.int .i64 1] (fun v=>v=.tuple #[.string ⟨#[103,105,118,101]⟩,.int .i64 1]):=by
 refine Spec.of1 Try.func215 rfl (by kernel_rfl) rfl (fun H _=>?_)
 refine KW.cT rfl rfl (by first | (simp; done) | decide) ?_
 exact KW.ret rfl rfl rfl rfl (rfl)
theorem deedWord2:Spec Try.prog S H0 215 [.int .i64 2] (fun v=>v=.tuple #[.string ⟨#[104,97,110,100]⟩,.int .i64 1]):=by
 refine Spec.of1 Try.func215 rfl (by kernel_rfl) rfl (fun H _=>?_)
 refine KW.cF rfl rfl (by first | (simp; done) | decide) ?_
 refine KW.cT rfl rfl (by first | (simp; done) | decide) ?_
 exact KW.ret rfl rfl rfl rfl (rfl)
theorem deedWord3:Spec Try.prog S H0 215 [.int .i64 3] (fun v=>v=.tuple #[.string ⟨#[100,101,108,105,118,101,114]⟩,.int .i64 1]):=by
 refine Spec.of1 Try.func215 rfl (by kernel_rfl) rfl (fun H _=>?_)
 refine KW.cF rfl rfl (by first | (simp; done) | decide) ?_
 refine KW.cF rfl rfl (by first | (simp; done) | decide) ?_
 refine KW.cT rfl rfl (by first | (simp; done) | decide) ?_
 exact KW.ret rfl rfl rfl rfl (rfl)
theorem deedWord4:Spec Try.prog S H0 215 [.int .i64 4] (fun v=>v=.tuple #[.string ⟨#[99,111,112,121]⟩,.int .i64 1]):=by
 refine Spec.of1 Try.func215 rfl (by kernel_rfl) rfl (fun H _=>?_)
 refine KW.cF rfl rfl (by first | (simp; done) | decide) ?_
 refine KW.cF rfl rfl (by first | (simp; done) | decide) ?_
 refine KW.cF rfl rfl (by first | (simp; done) | decide) ?_
 refine KW.cT rfl rfl (by first | (simp; done) | decide) ?_
 exact KW.ret rfl rfl rfl rfl (rfl)
theorem deedWord5:Spec Try.prog S H0 215 [.int .i64 5] (fun v=>v=.tuple #[.string ⟨#[100,114,111,112]⟩,.int .i64 1]):=by
 refine Spec.of1 Try.func215 rfl (by kernel_rfl) rfl (fun H _=>?_)
 refine KW.cF rfl rfl (by first | (simp; done) | decide) ?_
 refine KW.cF rfl rfl (by first | (simp; done) | decide) ?_
 refine KW.cF rfl rfl (by first | (simp; done) | decide) ?_
 refine KW.cF rfl rfl (by first | (simp; done) | decide) ?_
 refine KW.cT rfl rfl (by first | (simp; done) | decide) ?_
 exact KW.ret rfl rfl rfl rfl (rfl)
theorem deedWord6:Spec Try.prog S H0 215 [.int .i64 6] (fun v=>v=.tuple #[.string ⟨#[108,105,101]⟩,.int .i64 2]):=by
 refine Spec.of1 Try.func215 rfl (by kernel_rfl) rfl (fun H _=>?_)
 refine KW.cF rfl rfl (by first | (simp; done) | decide) ?_
 refine KW.cF rfl rfl (by first | (simp; done) | decide) ?_
 refine KW.cF rfl rfl (by first | (simp; done) | decide) ?_
 refine KW.cF rfl rfl (by first | (simp; done) | decide) ?_
 refine KW.cF rfl rfl (by first | (simp; done) | decide) ?_
 refine KW.cT rfl rfl (by first | (simp; done) | decide) ?_
 exact KW.ret rfl rfl rfl rfl (rfl)
theorem deedWord7:Spec Try.prog S H0 215 [.int .i64 7] (fun v=>v=.tuple #[.string ⟨#[115,97,118,101]⟩,.int .i64 1]):=by
 refine Spec.of1 Try.func215 rfl (by kernel_rfl) rfl (fun H _=>?_)
 refine KW.cF rfl rfl (by first | (simp; done) | decide) ?_
 refine KW.cF rfl rfl (by first | (simp; done) | decide) ?_
 refine KW.cF rfl rfl (by first | (simp; done) | decide) ?_
 refine KW.cF rfl rfl (by first | (simp; done) | decide) ?_
 refine KW.cF rfl rfl (by first | (simp; done) | decide) ?_
 refine KW.cF rfl rfl (by first | (simp; done) | decide) ?_
 refine KW.cT rfl rfl (by first | (simp; done) | decide) ?_
 exact KW.ret rfl rfl rfl rfl (rfl)
theorem deedWord8:Spec Try.prog S H0 215 [.int .i64 8] (fun v=>v=.tuple #[.string ⟨#[99,114,97,115,104]⟩,.int .i64 1]):=by
 refine Spec.of1 Try.func215 rfl (by kernel_rfl) rfl (fun H _=>?_)
 refine KW.cF rfl rfl (by first | (simp; done) | decide) ?_
 refine KW.cF rfl rfl (by first | (simp; done) | decide) ?_
 refine KW.cF rfl rfl (by first | (simp; done) | decide) ?_
 refine KW.cF rfl rfl (by first | (simp; done) | decide) ?_
 refine KW.cF rfl rfl (by first | (simp; done) | decide) ?_
 refine KW.cF rfl rfl (by first | (simp; done) | decide) ?_
 refine KW.cF rfl rfl (by first | (simp; done) | decide) ?_
 refine KW.cT rfl rfl (by first | (simp; done) | decide) ?_
 exact KW.ret rfl rfl rfl rfl (rfl)
theorem deedWord9:Spec Try.prog S H0 215 [.int .i64 9] (fun v=>v=.tuple #[.string ⟨#[114,101,110,101,119]⟩,.int .i64 0]):=by
 refine Spec.of1 Try.func215 rfl (by kernel_rfl) rfl (fun H _=>?_)
 refine KW.cF rfl rfl (by first | (simp; done) | decide) ?_
 refine KW.cF rfl rfl (by first | (simp; done) | decide) ?_
 refine KW.cF rfl rfl (by first | (simp; done) | decide) ?_
 refine KW.cF rfl rfl (by first | (simp; done) | decide) ?_
 refine KW.cF rfl rfl (by first | (simp; done) | decide) ?_
 refine KW.cF rfl rfl (by first | (simp; done) | decide) ?_
 refine KW.cF rfl rfl (by first | (simp; done) | decide) ?_
 refine KW.cF rfl rfl (by first | (simp; done) | decide) ?_
 refine KW.cT rfl rfl (by first | (simp; done) | decide) ?_
 exact KW.ret rfl rfl rfl rfl (rfl)
theorem deedWordN {k:Int} (h:¬(1≤k∧k≤9)):Spec Try.prog S H0 215 [.int .i64 k] (fun v=>v=.tuple #[.string ⟨#[]⟩,.int .i64 0]):=by
 refine Spec.of1 Try.func215 rfl (by kernel_rfl) rfl (fun H _=>?_)
 refine KW.no rfl rfl (by omega) ?_
 refine KW.no rfl rfl (by omega) ?_
 refine KW.no rfl rfl (by omega) ?_
 refine KW.no rfl rfl (by omega) ?_
 refine KW.no rfl rfl (by omega) ?_
 refine KW.no rfl rfl (by omega) ?_
 refine KW.no rfl rfl (by omega) ?_
 refine KW.no rfl rfl (by omega) ?_
 refine KW.no rfl rfl (by omega) ?_
 exact KW.ret rfl rfl rfl rfl (rfl)
theorem validDeedN {k A B:Int} (h:¬(1≤k∧k≤9)):Spec Try.prog S H0 166 [.agg [.int .i64 k,.int .i64 A,.int .i64 B].toArray] (fun v=>v=.bool (tv (DeedP (k,A,B)))):=by
 refine Spec.of1 Try.func166 rfl (by kernel_rfl) rfl (fun H _=>?_)
 refine KW.callE rfl rfl rfl rfl rfl (deedWordN h) (fun _ _=>?_)
 refine KW.tF rfl rfl (by simp [ByteArray.toList,ByteArray.toList.loop,ByteArray.size,ByteArray.get!]) ?_
 repeat first | refine KW.tT rfl rfl rfl ?_ | refine KW.tF rfl rfl rfl ?_
 rw [tv_false (fun p=>h p.1)]
 exact KW.ret rfl rfl rfl rfl (rfl)
theorem validDeed1 {A B:Int}:Spec Try.prog S H0 166 [.agg [.int .i64 1,.int .i64 A,.int .i64 B].toArray] (fun v=>v=.bool (tv (DeedP (1,A,B)))):=by
 have e:DeedP (1,A,B)↔((0≤A∧A≤999)∧(0≤B∧B≤999)∧B=0):=by simp [DeedP,cntD]
 rw [tv_congr e]
 refine Spec.of1 Try.func166 rfl (by kernel_rfl) rfl (fun H _=>?_)
 refine KW.callE rfl rfl rfl rfl rfl (deedWord1) (fun _ _=>?_)
 refine KW.tT rfl rfl (by simp [ByteArray.toList,ByteArray.toList.loop,ByteArray.size,ByteArray.get!]) ?_
 refine KW.callE rfl rfl rfl rfl rfl (within _ _ _) (fun _ _=>?_)
 refine KW.tst rfl rfl (fun h1=>?_) (fun h1=>?_)
 ·refine KW.callE rfl rfl rfl rfl rfl (within _ _ _) (fun _ _=>?_)
  refine KW.tst rfl rfl (fun h2=>?_) (fun h2=>?_)
  ·repeat first | refine KW.tT rfl rfl rfl ?_ | refine KW.tF rfl rfl rfl ?_
   refine KW.ret rfl rfl rfl rfl ?_
   by_cases h3:B=0
   ·rw [tv_true ⟨h1,h2,h3⟩,h3]; rfl
   ·rw [tv_false (fun p=>h3 p.2.2)]; show Value.bool (decide (B=0))=_; rw [decide_eq_false h3]
  ·repeat first | refine KW.tT rfl rfl rfl ?_ | refine KW.tF rfl rfl rfl ?_
   rw [tv_false (fun p=>h2 p.2.1)]
   exact KW.ret rfl rfl rfl rfl (rfl)
 ·repeat first | refine KW.tT rfl rfl rfl ?_ | refine KW.tF rfl rfl rfl ?_
  rw [tv_false (fun p=>h1 p.1)]
  exact KW.ret rfl rfl rfl rfl (rfl)
theorem validDeed2 {A B:Int}:Spec Try.prog S H0 166 [.agg [.int .i64 2,.int .i64 A,.int .i64 B].toArray] (fun v=>v=.bool (tv (DeedP (2,A,B)))):=by
 have e:DeedP (2,A,B)↔((0≤A∧A≤999)∧(0≤B∧B≤999)∧B=0):=by simp [DeedP,cntD]
 rw [tv_congr e]
 refine Spec.of1 Try.func166 rfl (by kernel_rfl) rfl (fun H _=>?_)
 refine KW.callE rfl rfl rfl rfl rfl (deedWord2) (fun _ _=>?_)
 refine KW.tT rfl rfl (by simp [ByteArray.toList,ByteArray.toList.loop,ByteArray.size,ByteArray.get!]) ?_
 refine KW.callE rfl rfl rfl rfl rfl (within _ _ _) (fun _ _=>?_)
 refine KW.tst rfl rfl (fun h1=>?_) (fun h1=>?_)
 ·refine KW.callE rfl rfl rfl rfl rfl (within _ _ _) (fun _ _=>?_)
  refine KW.tst rfl rfl (fun h2=>?_) (fun h2=>?_)
  ·repeat first | refine KW.tT rfl rfl rfl ?_ | refine KW.tF rfl rfl rfl ?_
   refine KW.ret rfl rfl rfl rfl ?_
   by_cases h3:B=0
   ·rw [tv_true ⟨h1,h2,h3⟩,h3]; rfl
   ·rw [tv_false (fun p=>h3 p.2.2)]; show Value.bool (decide (B=0))=_; rw [decide_eq_false h3]
  ·repeat first | refine KW.tT rfl rfl rfl ?_ | refine KW.tF rfl rfl rfl ?_
   rw [tv_false (fun p=>h2 p.2.1)]
   exact KW.ret rfl rfl rfl rfl (rfl)
 ·repeat first | refine KW.tT rfl rfl rfl ?_ | refine KW.tF rfl rfl rfl ?_
  rw [tv_false (fun p=>h1 p.1)]
  exact KW.ret rfl rfl rfl rfl (rfl)
theorem validDeed3 {A B:Int}:Spec Try.prog S H0 166 [.agg [.int .i64 3,.int .i64 A,.int .i64 B].toArray] (fun v=>v=.bool (tv (DeedP (3,A,B)))):=by
 have e:DeedP (3,A,B)↔((0≤A∧A≤999)∧(0≤B∧B≤999)∧B=0):=by simp [DeedP,cntD]
 rw [tv_congr e]
 refine Spec.of1 Try.func166 rfl (by kernel_rfl) rfl (fun H _=>?_)
 refine KW.callE rfl rfl rfl rfl rfl (deedWord3) (fun _ _=>?_)
 refine KW.tT rfl rfl (by simp [ByteArray.toList,ByteArray.toList.loop,ByteArray.size,ByteArray.get!]) ?_
 refine KW.callE rfl rfl rfl rfl rfl (within _ _ _) (fun _ _=>?_)
 refine KW.tst rfl rfl (fun h1=>?_) (fun h1=>?_)
 ·refine KW.callE rfl rfl rfl rfl rfl (within _ _ _) (fun _ _=>?_)
  refine KW.tst rfl rfl (fun h2=>?_) (fun h2=>?_)
  ·repeat first | refine KW.tT rfl rfl rfl ?_ | refine KW.tF rfl rfl rfl ?_
   refine KW.ret rfl rfl rfl rfl ?_
   by_cases h3:B=0
   ·rw [tv_true ⟨h1,h2,h3⟩,h3]; rfl
   ·rw [tv_false (fun p=>h3 p.2.2)]; show Value.bool (decide (B=0))=_; rw [decide_eq_false h3]
  ·repeat first | refine KW.tT rfl rfl rfl ?_ | refine KW.tF rfl rfl rfl ?_
   rw [tv_false (fun p=>h2 p.2.1)]
   exact KW.ret rfl rfl rfl rfl (rfl)
 ·repeat first | refine KW.tT rfl rfl rfl ?_ | refine KW.tF rfl rfl rfl ?_
  rw [tv_false (fun p=>h1 p.1)]
  exact KW.ret rfl rfl rfl rfl (rfl)
theorem validDeed4 {A B:Int}:Spec Try.prog S H0 166 [.agg [.int .i64 4,.int .i64 A,.int .i64 B].toArray] (fun v=>v=.bool (tv (DeedP (4,A,B)))):=by
 have e:DeedP (4,A,B)↔((0≤A∧A≤999)∧(0≤B∧B≤999)∧B=0):=by simp [DeedP,cntD]
 rw [tv_congr e]
 refine Spec.of1 Try.func166 rfl (by kernel_rfl) rfl (fun H _=>?_)
 refine KW.callE rfl rfl rfl rfl rfl (deedWord4) (fun _ _=>?_)
 refine KW.tT rfl rfl (by simp [ByteArray.toList,ByteArray.toList.loop,ByteArray.size,ByteArray.get!]) ?_
 refine KW.callE rfl rfl rfl rfl rfl (within _ _ _) (fun _ _=>?_)
 refine KW.tst rfl rfl (fun h1=>?_) (fun h1=>?_)
 ·refine KW.callE rfl rfl rfl rfl rfl (within _ _ _) (fun _ _=>?_)
  refine KW.tst rfl rfl (fun h2=>?_) (fun h2=>?_)
  ·repeat first | refine KW.tT rfl rfl rfl ?_ | refine KW.tF rfl rfl rfl ?_
   refine KW.ret rfl rfl rfl rfl ?_
   by_cases h3:B=0
   ·rw [tv_true ⟨h1,h2,h3⟩,h3]; rfl
   ·rw [tv_false (fun p=>h3 p.2.2)]; show Value.bool (decide (B=0))=_; rw [decide_eq_false h3]
  ·repeat first | refine KW.tT rfl rfl rfl ?_ | refine KW.tF rfl rfl rfl ?_
   rw [tv_false (fun p=>h2 p.2.1)]
   exact KW.ret rfl rfl rfl rfl (rfl)
 ·repeat first | refine KW.tT rfl rfl rfl ?_ | refine KW.tF rfl rfl rfl ?_
  rw [tv_false (fun p=>h1 p.1)]
  exact KW.ret rfl rfl rfl rfl (rfl)
theorem validDeed5 {A B:Int}:Spec Try.prog S H0 166 [.agg [.int .i64 5,.int .i64 A,.int .i64 B].toArray] (fun v=>v=.bool (tv (DeedP (5,A,B)))):=by
 have e:DeedP (5,A,B)↔((0≤A∧A≤999)∧(0≤B∧B≤999)∧B=0):=by simp [DeedP,cntD]
 rw [tv_congr e]
 refine Spec.of1 Try.func166 rfl (by kernel_rfl) rfl (fun H _=>?_)
 refine KW.callE rfl rfl rfl rfl rfl (deedWord5) (fun _ _=>?_)
 refine KW.tT rfl rfl (by simp [ByteArray.toList,ByteArray.toList.loop,ByteArray.size,ByteArray.get!]) ?_
 refine KW.callE rfl rfl rfl rfl rfl (within _ _ _) (fun _ _=>?_)
 refine KW.tst rfl rfl (fun h1=>?_) (fun h1=>?_)
 ·refine KW.callE rfl rfl rfl rfl rfl (within _ _ _) (fun _ _=>?_)
  refine KW.tst rfl rfl (fun h2=>?_) (fun h2=>?_)
  ·repeat first | refine KW.tT rfl rfl rfl ?_ | refine KW.tF rfl rfl rfl ?_
   refine KW.ret rfl rfl rfl rfl ?_
   by_cases h3:B=0
   ·rw [tv_true ⟨h1,h2,h3⟩,h3]; rfl
   ·rw [tv_false (fun p=>h3 p.2.2)]; show Value.bool (decide (B=0))=_; rw [decide_eq_false h3]
  ·repeat first | refine KW.tT rfl rfl rfl ?_ | refine KW.tF rfl rfl rfl ?_
   rw [tv_false (fun p=>h2 p.2.1)]
   exact KW.ret rfl rfl rfl rfl (rfl)
 ·repeat first | refine KW.tT rfl rfl rfl ?_ | refine KW.tF rfl rfl rfl ?_
  rw [tv_false (fun p=>h1 p.1)]
  exact KW.ret rfl rfl rfl rfl (rfl)
theorem validDeed6 {A B:Int}:Spec Try.prog S H0 166 [.agg [.int .i64 6,.int .i64 A,.int .i64 B].toArray] (fun v=>v=.bool (tv (DeedP (6,A,B)))):=by
 have e:DeedP (6,A,B)↔((0≤A∧A≤999)∧(0≤B∧B≤999)):=by simp [DeedP,cntD]
 rw [tv_congr e]
 refine Spec.of1 Try.func166 rfl (by kernel_rfl) rfl (fun H _=>?_)
 refine KW.callE rfl rfl rfl rfl rfl (deedWord6) (fun _ _=>?_)
 refine KW.tT rfl rfl (by simp [ByteArray.toList,ByteArray.toList.loop,ByteArray.size,ByteArray.get!]) ?_
 refine KW.callE rfl rfl rfl rfl rfl (within _ _ _) (fun _ _=>?_)
 refine KW.tst rfl rfl (fun h1=>?_) (fun h1=>?_)
 ·refine KW.callE rfl rfl rfl rfl rfl (within _ _ _) (fun _ _=>?_)
  refine KW.tst rfl rfl (fun h2=>?_) (fun h2=>?_)
  ·repeat first | refine KW.tT rfl rfl rfl ?_ | refine KW.tF rfl rfl rfl ?_
   refine KW.ret rfl rfl rfl rfl ?_
   rw [tv_true ⟨h1,h2⟩]
   rfl
  ·repeat first | refine KW.tT rfl rfl rfl ?_ | refine KW.tF rfl rfl rfl ?_
   rw [tv_false (fun p=>h2 p.2)]
   exact KW.ret rfl rfl rfl rfl (rfl)
 ·repeat first | refine KW.tT rfl rfl rfl ?_ | refine KW.tF rfl rfl rfl ?_
  rw [tv_false (fun p=>h1 p.1)]
  exact KW.ret rfl rfl rfl rfl (rfl)
theorem validDeed7 {A B:Int}:Spec Try.prog S H0 166 [.agg [.int .i64 7,.int .i64 A,.int .i64 B].toArray] (fun v=>v=.bool (tv (DeedP (7,A,B)))):=by
 have e:DeedP (7,A,B)↔((0≤A∧A≤999)∧(0≤B∧B≤999)∧B=0):=by simp [DeedP,cntD]
 rw [tv_congr e]
 refine Spec.of1 Try.func166 rfl (by kernel_rfl) rfl (fun H _=>?_)
 refine KW.callE rfl rfl rfl rfl rfl (deedWord7) (fun _ _=>?_)
 refine KW.tT rfl rfl (by simp [ByteArray.toList,ByteArray.toList.loop,ByteArray.size,ByteArray.get!]) ?_
 refine KW.callE rfl rfl rfl rfl rfl (within _ _ _) (fun _ _=>?_)
 refine KW.tst rfl rfl (fun h1=>?_) (fun h1=>?_)
 ·refine KW.callE rfl rfl rfl rfl rfl (within _ _ _) (fun _ _=>?_)
  refine KW.tst rfl rfl (fun h2=>?_) (fun h2=>?_)
  ·repeat first | refine KW.tT rfl rfl rfl ?_ | refine KW.tF rfl rfl rfl ?_
   refine KW.ret rfl rfl rfl rfl ?_
   by_cases h3:B=0
   ·rw [tv_true ⟨h1,h2,h3⟩,h3]; rfl
   ·rw [tv_false (fun p=>h3 p.2.2)]; show Value.bool (decide (B=0))=_; rw [decide_eq_false h3]
  ·repeat first | refine KW.tT rfl rfl rfl ?_ | refine KW.tF rfl rfl rfl ?_
   rw [tv_false (fun p=>h2 p.2.1)]
   exact KW.ret rfl rfl rfl rfl (rfl)
 ·repeat first | refine KW.tT rfl rfl rfl ?_ | refine KW.tF rfl rfl rfl ?_
  rw [tv_false (fun p=>h1 p.1)]
  exact KW.ret rfl rfl rfl rfl (rfl)
theorem validDeed8 {A B:Int}:Spec Try.prog S H0 166 [.agg [.int .i64 8,.int .i64 A,.int .i64 B].toArray] (fun v=>v=.bool (tv (DeedP (8,A,B)))):=by
 have e:DeedP (8,A,B)↔((0≤A∧A≤999)∧(0≤B∧B≤999)∧B=0):=by simp [DeedP,cntD]
 rw [tv_congr e]
 refine Spec.of1 Try.func166 rfl (by kernel_rfl) rfl (fun H _=>?_)
 refine KW.callE rfl rfl rfl rfl rfl (deedWord8) (fun _ _=>?_)
 refine KW.tT rfl rfl (by simp [ByteArray.toList,ByteArray.toList.loop,ByteArray.size,ByteArray.get!]) ?_
 refine KW.callE rfl rfl rfl rfl rfl (within _ _ _) (fun _ _=>?_)
 refine KW.tst rfl rfl (fun h1=>?_) (fun h1=>?_)
 ·refine KW.callE rfl rfl rfl rfl rfl (within _ _ _) (fun _ _=>?_)
  refine KW.tst rfl rfl (fun h2=>?_) (fun h2=>?_)
  ·repeat first | refine KW.tT rfl rfl rfl ?_ | refine KW.tF rfl rfl rfl ?_
   refine KW.ret rfl rfl rfl rfl ?_
   by_cases h3:B=0
   ·rw [tv_true ⟨h1,h2,h3⟩,h3]; rfl
   ·rw [tv_false (fun p=>h3 p.2.2)]; show Value.bool (decide (B=0))=_; rw [decide_eq_false h3]
  ·repeat first | refine KW.tT rfl rfl rfl ?_ | refine KW.tF rfl rfl rfl ?_
   rw [tv_false (fun p=>h2 p.2.1)]
   exact KW.ret rfl rfl rfl rfl (rfl)
 ·repeat first | refine KW.tT rfl rfl rfl ?_ | refine KW.tF rfl rfl rfl ?_
  rw [tv_false (fun p=>h1 p.1)]
  exact KW.ret rfl rfl rfl rfl (rfl)
theorem validDeed9 {A B:Int}:Spec Try.prog S H0 166 [.agg [.int .i64 9,.int .i64 A,.int .i64 B].toArray] (fun v=>v=.bool (tv (DeedP (9,A,B)))):=by
 have e:DeedP (9,A,B)↔((0≤A∧A≤999)∧(0≤B∧B≤999)∧A=0∧B=0):=by simp [DeedP,cntD]
 rw [tv_congr e]
 refine Spec.of1 Try.func166 rfl (by kernel_rfl) rfl (fun H _=>?_)
 refine KW.callE rfl rfl rfl rfl rfl (deedWord9) (fun _ _=>?_)
 refine KW.tT rfl rfl (by simp [ByteArray.toList,ByteArray.toList.loop,ByteArray.size,ByteArray.get!]) ?_
 refine KW.callE rfl rfl rfl rfl rfl (within _ _ _) (fun _ _=>?_)
 refine KW.tst rfl rfl (fun h1=>?_) (fun h1=>?_)
 ·refine KW.callE rfl rfl rfl rfl rfl (within _ _ _) (fun _ _=>?_)
  refine KW.tst rfl rfl (fun h2=>?_) (fun h2=>?_)
  ·repeat first | refine KW.tT rfl rfl rfl ?_ | refine KW.tF rfl rfl rfl ?_
   refine KW.tst rfl rfl (fun h3=>?_) (fun h3=>?_)
   ·repeat first | refine KW.tT rfl rfl rfl ?_ | refine KW.tF rfl rfl rfl ?_
    refine KW.ret rfl rfl rfl rfl ?_
    by_cases h4:B=0
    ·rw [tv_true ⟨h1,h2,h3,h4⟩,h4]; rfl
    ·rw [tv_false (fun p=>h4 p.2.2.2)]; show Value.bool (decide (B=0))=_; rw [decide_eq_false h4]
   ·repeat first | refine KW.tT rfl rfl rfl ?_ | refine KW.tF rfl rfl rfl ?_
    rw [tv_false (fun p=>h3 p.2.2.1)]
    exact KW.ret rfl rfl rfl rfl (rfl)
  ·repeat first | refine KW.tT rfl rfl rfl ?_ | refine KW.tF rfl rfl rfl ?_
   rw [tv_false (fun p=>h2 p.2.1)]
   exact KW.ret rfl rfl rfl rfl (rfl)
 ·repeat first | refine KW.tT rfl rfl rfl ?_ | refine KW.tF rfl rfl rfl ?_
  rw [tv_false (fun p=>h1 p.1)]
  exact KW.ret rfl rfl rfl rfl (rfl)
theorem validDeed (d:T_Deed):Spec Try.prog S H0 166 [.agg [.int .i64 d.1,.int .i64 d.2.1,.int .i64 d.2.2].toArray] (fun v=>v=.bool (tv (DeedP d))):=by
 obtain ⟨k,A,B⟩:=d
 by_cases h:1≤k∧k≤9
 ·have:k=1∨k=2∨k=3∨k=4∨k=5∨k=6∨k=7∨k=8∨k=9:=by omega
  rcases this with rfl | rfl | rfl | rfl | rfl | rfl | rfl | rfl | rfl
  ·exact validDeed1
  ·exact validDeed2
  ·exact validDeed3
  ·exact validDeed4
  ·exact validDeed5
  ·exact validDeed6
  ·exact validDeed7
  ·exact validDeed8
  ·exact validDeed9
 ·exact validDeedN h
end
abbrev HTI:HT:=⟨151,73,36,4,153⟩
theorem send_full {c:Cer} {p:T_Packet} (h:c.wire.length=12):send c p=(c,3):=by unfold send; rw [if_pos h]
theorem send_ok {c:Cer} {p:T_Packet} (h:¬c.wire.length=12):send c p=(⟨c.ep,c.seats,c.oe,c.got,c.has,c.named,c.wire++[p]⟩,0):=by unfold send; rw [if_neg h]
def HlRes (t:HT) (pre post:List Value) (X:Ids) (d:HD) (r:Cer × Int) (n:Nat) (v:Value) (H1:AH):Prop:=v=.int .i64 r.2∧HlPost t pre post X d r.1 n H1
theorem HlPost.same {t:HT} {pre post:List Value} {X X0:Ids} {d:HD} {c:Cer} {H H1:AH} (h:Hl t pre post (Low H.n) H X0 d c) (hX:∀id,X0 id→X id) (hA:∀id,id < H.n→H1.m id=H.m id):HlPost t pre post X d c H.n H1:=
 ⟨X0,d,h.mv (fun id hid=>⟨hid.imp (fun p=>p) (fun p=>.inl (hX id p)),hA id (hid.elim (h.w id) (h.sx id))⟩),rfl,fun id p=>.inl (hX id p),fun id p=>.inl p⟩
theorem HD.nodup {d:HD} (h:d.L.Nodup):(d.hid≠d.sid∧d.hid≠d.gid∧d.hid≠d.bid∧d.hid≠d.nid)∧(d.sid≠d.gid∧d.sid≠d.bid∧d.sid≠d.nid)∧(d.gid≠d.bid∧d.gid≠d.nid)∧d.bid≠d.nid∧∀i q,d.w=some (i,q)→i≠d.hid∧i≠d.sid∧i≠d.gid∧i≠d.bid∧i≠d.nid:=by
 obtain ⟨a,b,c,e,f,w⟩:=d
 cases w with
 | none=>
  simp [HD.L] at h
  refine ⟨⟨h.1.1,h.1.2.1,h.1.2.2.1,h.1.2.2.2⟩,⟨h.2.1.1,h.2.1.2.1,h.2.1.2.2⟩,⟨h.2.2.1.1,h.2.2.1.2⟩,h.2.2.2,fun i q hw=>by cases hw⟩
 | some p=>
  simp [HD.L] at h
  refine ⟨⟨h.1.1,h.1.2.1,h.1.2.2.1,h.1.2.2.2.1⟩,⟨h.2.1.1,h.2.1.2.1,h.2.1.2.2.1⟩,⟨h.2.2.1.1,h.2.2.1.2.1⟩,h.2.2.2.1.1,fun i q hw=>?_⟩
  cases hw
  exact ⟨fun e=>h.1.2.2.2.2 e.symm,fun e=>h.2.1.2.2.2 e.symm,fun e=>h.2.2.1.2.2 e.symm,fun e=>h.2.2.2.1.2 e.symm,fun e=>h.2.2.2.2 e.symm⟩
theorem HD.nodup_w {d:HD} (h:d.L.Nodup) {i q:Nat} (hi:i∉d.L):(⟨d.hid,d.sid,d.gid,d.bid,d.nid,some (i,q)⟩:HD).L.Nodup:=by
 obtain ⟨h1,h2,h3,h4,_⟩:=HD.nodup h
 have:i≠d.hid∧i≠d.sid∧i≠d.gid∧i≠d.bid∧i≠d.nid:=by
  simp only [HD.L,List.mem_append,List.mem_cons,List.not_mem_nil,or_false,not_or] at hi
  exact ⟨hi.1.1,hi.1.2.1,hi.1.2.2.1,hi.1.2.2.2.1,hi.1.2.2.2.2⟩
 simp only [HD.L,List.cons_append,List.nil_append,List.nodup_cons,List.mem_cons,List.not_mem_nil,or_false,not_or,List.nodup_nil]
 refine ⟨⟨h1.1,h1.2.1,h1.2.2.1,h1.2.2.2,this.1.symm⟩,⟨h2.1,h2.2.1,h2.2.2,this.2.1.symm⟩,⟨h3.1,h3.2,this.2.2.1.symm⟩,⟨h4,this.2.2.2.1.symm⟩,this.2.2.2.2.symm,by simp,trivial⟩
theorem Hl.reWireK {t:HT} {pre post:List Value} {X PX:Ids} {d:HD} {c:Cer} {H H1:AH} (h:Hl t pre post (Low H.n) H X d c) (hPX:∀id,PX id→id < H.n∧¬d.W id) {i q:Nat} {cs:List Value} {ps:List T_Packet} (hn:H.n≤H1.n) (hi:(H.n≤i∧i < H1.n)∨∃q0,d.w=some (i,q0))
  (keep:∀id,id < H.n→(d.W id∨X id∨PX id)→id≠d.hid→(∀i q,d.w=some (i,q)→id≠i)→H1.m id=H.m id) (m:Nat) (hlen:ps.length=m) (hh:H1.m d.hid=some ⟨t.h,true,pre++([.int .i64 c.ep,.slice (some ⟨d.sid,0,some 7⟩) c.seats.length c.seats.length,.int .i64 c.oe,.slice (some ⟨d.gid,0,some 1⟩) c.got.length c.got.length,.slice (some ⟨d.bid,0,some 1⟩) c.has.length c.has.length,.slice (some ⟨d.nid,0,some 1⟩) c.named.length c.named.length,.slice (some ⟨i,0,some 5⟩) m q]++post)⟩)
  (hw:H1.m i=some ⟨t.p,true,cs⟩) (hcl:Cl K_Packet (fun id=>X id∨PX id) H ps cs) (hq:ps.length≤q):HlPost t pre post (fun id=>X id∨PX id) d ⟨c.ep,c.seats,c.oe,c.got,c.has,c.named,ps⟩ H.n H1:=by
 subst hlen
 obtain ⟨l1,l2,l3,l4,l5,l6⟩:=HD.Win (d:=d)
 obtain ⟨n1,n2,n3,n4,n5⟩:=HD.nodup h.dist
 have lw:=fun id (p:d.W id)=>h.w id p
 have xw:∀id,(X id∨PX id)→id < H.n∧¬d.W id:=fun id p=>p.elim (fun p=>⟨h.sx id p,h.out id p⟩) (hPX id)
 have xk:∀id,(X id∨PX id)→H1.m id=H.m id:=fun id p=>keep id (xw id p).1 (.inr p) (fun e=>(xw id p).2 (e ▸ l1)) (fun i q e e2=>(xw id p).2 (e2 ▸ l6 i q e))
 have k2:H1.m d.sid=H.m d.sid:=keep _ (lw _ l2) (.inl l2) n1.1.symm (fun i q e=>(n5 i q e).2.1.symm)
 have k3:H1.m d.gid=H.m d.gid:=keep _ (lw _ l3) (.inl l3) n1.2.1.symm (fun i q e=>(n5 i q e).2.2.1.symm)
 have k4:H1.m d.bid=H.m d.bid:=keep _ (lw _ l4) (.inl l4) n1.2.2.1.symm (fun i q e=>(n5 i q e).2.2.2.1.symm)
 have k5:H1.m d.nid=H.m d.nid:=keep _ (lw _ l5) (.inl l5) n1.2.2.2.symm (fun i q e=>(n5 i q e).2.2.2.2.symm)
 have iw:d.W i∨New H.n H1.n i:=hi.elim .inr (fun ⟨q0,e⟩=>.inl (l6 i q0 e))
 have hd:(⟨d.hid,d.sid,d.gid,d.bid,d.nid,some (i,q)⟩:HD).L.Nodup:=by
  rcases hi with hi | ⟨q0,e⟩
  ·exact HD.nodup_w h.dist (fun p=>by have:i < H.n:=lw i p; omega)
  ·have:=h.dist
   simp only [HD.L,e] at this
   exact this
 refine ⟨fun id=>X id∨PX id,⟨d.hid,d.sid,d.gid,d.bid,d.nid,some (i,q)⟩,⟨fun id p=>.inr (.inl p),⟨.inl l1,hh⟩,h.seats.mv ⟨.inl l2,k2⟩ (fun id p=>xk id (.inl p)) (fun id p=>.inl p),h.got.mv ⟨.inl l3,k3⟩ (fun id p=>xk id (.inl p)) (fun id p=>.inl p),h.has.mv ⟨.inl l4,k4⟩,h.named.mv ⟨.inl l5,k5⟩,⟨iw.elim .inl (fun p=>.inr (.inr p)),hq,cs,hw,hcl.mv xk (fun _ p=>p)⟩,hd,fun id p q=>?_⟩,rfl,fun id p=>.inl p,fun id p=>?_⟩
 ·have hx:=xw id p
  have q:id∈(⟨d.hid,d.sid,d.gid,d.bid,d.nid,some _⟩:HD).L:=q
  simp only [HD.L,List.mem_append,List.mem_cons,List.not_mem_nil,or_false] at q
  rcases q with (e | e | e | e | e) | e
  ·exact hx.2 (e ▸ l1)
  ·exact hx.2 (e ▸ l2)
  ·exact hx.2 (e ▸ l3)
  ·exact hx.2 (e ▸ l4)
  ·exact hx.2 (e ▸ l5)
  ·rcases hi with hi | ⟨q0,e2⟩
   ·omega
   ·exact hx.2 (e ▸ l6 i q0 e2)
 ·have p:id∈(⟨d.hid,d.sid,d.gid,d.bid,d.nid,some _⟩:HD).L:=p
  simp only [HD.L,List.mem_append,List.mem_cons,List.not_mem_nil,or_false] at p
  rcases p with (e | e | e | e | e) | e
  ·rw [e]; exact .inl l1
  ·rw [e]; exact .inl l2
  ·rw [e]; exact .inl l3
  ·rw [e]; exact .inl l4
  ·rw [e]; exact .inl l5
  ·rw [e]; exact iw
theorem Hl.reWire {t:HT} {pre post:List Value} {X PX:Ids} {d:HD} {c:Cer} {H H1:AH} (h:Hl t pre post (Low H.n) H X d c) (hPX:∀id,PX id→id < H.n∧¬d.W id) {i q:Nat} {cs:List Value} {ps:List T_Packet} (hn:H.n≤H1.n) (hi:(H.n≤i∧i < H1.n)∨∃q0,d.w=some (i,q0))
  (keep:∀id,id < H.n→id≠d.hid→(∀i q,d.w=some (i,q)→id≠i)→H1.m id=H.m id) (m:Nat) (hlen:ps.length=m) (hh:H1.m d.hid=some ⟨t.h,true,pre++([.int .i64 c.ep,.slice (some ⟨d.sid,0,some 7⟩) c.seats.length c.seats.length,.int .i64 c.oe,.slice (some ⟨d.gid,0,some 1⟩) c.got.length c.got.length,.slice (some ⟨d.bid,0,some 1⟩) c.has.length c.has.length,.slice (some ⟨d.nid,0,some 1⟩) c.named.length c.named.length,.slice (some ⟨i,0,some 5⟩) m q]++post)⟩)
  (hw:H1.m i=some ⟨t.p,true,cs⟩) (hcl:Cl K_Packet (fun id=>X id∨PX id) H ps cs) (hq:ps.length≤q):HlPost t pre post (fun id=>X id∨PX id) d ⟨c.ep,c.seats,c.oe,c.got,c.has,c.named,ps⟩ H.n H1:=
 h.reWireK hPX hn hi (fun id a _ b c=>keep id a b c) m hlen hh hw hcl hq
theorem Hl.reSeats {t:HT} {pre post:List Value} {X PX:Ids} {d:HD} {c:Cer} {H H1:AH} (h:Hl t pre post (Low H.n) H X d c) (hPX:∀id,PX id→id < H.n∧¬d.W id) {cs:List Value} {ss:List T_Seat} (hl:ss.length=c.seats.length)
  (keep:∀id,id < H.n→id≠d.sid→H1.m id=H.m id) (hs:H1.m d.sid=some ⟨t.s,true,cs⟩) (hcl:Cl K_Seat (fun id=>X id∨PX id) H ss cs):HlPost t pre post (fun id=>X id∨PX id) d ⟨c.ep,ss,c.oe,c.got,c.has,c.named,c.wire⟩ H.n H1:=by
 obtain ⟨l1,l2,l3,l4,l5,l6⟩:=HD.Win (d:=d)
 obtain ⟨n1,n2,n3,n4,n5⟩:=HD.nodup h.dist
 have lw:=fun id (p:d.W id)=>h.w id p
 have xw:∀id,(X id∨PX id)→id < H.n∧¬d.W id:=fun id p=>p.elim (fun p=>⟨h.sx id p,h.out id p⟩) (hPX id)
 have xk:∀id,(X id∨PX id)→H1.m id=H.m id:=fun id p=>keep id (xw id p).1 (fun e=>(xw id p).2 (e ▸ l2))
 have k1:H1.m d.hid=H.m d.hid:=keep _ (lw _ l1) n1.1
 have k3:H1.m d.gid=H.m d.gid:=keep _ (lw _ l3) n2.1.symm
 have k4:H1.m d.bid=H.m d.bid:=keep _ (lw _ l4) n2.2.1.symm
 have k5:H1.m d.nid=H.m d.nid:=keep _ (lw _ l5) n2.2.2.symm
 have hh:=h.hall.2
 refine ⟨fun id=>X id∨PX id,d,⟨fun id p=>.inr (.inl p),⟨.inl l1,?_⟩,⟨.inl l2,cs,hs,hcl.mv xk (fun _ p=>p)⟩,h.got.mv ⟨.inl l3,k3⟩ (fun id p=>xk id (.inl p)) (fun id p=>.inl p),h.has.mv ⟨.inl l4,k4⟩,h.named.mv ⟨.inl l5,k5⟩,h.wire.mv (fun i q e=>⟨.inl (l6 i q e),keep _ (lw _ (l6 i q e)) (n5 i q e).2.1⟩) (fun id p=>xk id (.inl p)) (fun id p=>.inl p),h.dist,fun id p=>(xw id p).2⟩,rfl,fun id p=>.inl p,fun id p=>.inl p⟩
 rw [k1,hh]
 simp only [HD.cells,hl]
theorem Hl.reOpen {t:HT} {pre post:List Value} {X PX:Ids} {d:HD} {c c':Cer} {H H1:AH} (h:Hl t pre post (Low H.n) H X d c) (hPX:∀id,PX id→id < H.n∧¬d.W id) {gcs:List Value} (hc:c'.seats=c.seats∧c'.wire=c.wire)
  (keep:∀id,id < H.n→id≠d.hid→id≠d.gid→id≠d.bid→id≠d.nid→H1.m id=H.m id) (hh:H1.m d.hid=some ⟨t.h,true,d.cells pre post c'⟩) (hg:H1.m d.gid=some ⟨t.g,true,gcs⟩) (gl:gcs.length=c'.got.length) (hgc:Cl KI.sl (fun id=>X id∨PX id) H c'.got gcs)
  (hb:H1.m d.bid=some ⟨t.b,true,c'.has.map Value.bool⟩) (hn:H1.m d.nid=some ⟨t.b,true,c'.named.map Value.bool⟩):HlPost t pre post (fun id=>X id∨PX id) d c' H.n H1:=by
 obtain ⟨l1,l2,l3,l4,l5,l6⟩:=HD.Win (d:=d)
 obtain ⟨n1,n2,n3,n4,n5⟩:=HD.nodup h.dist
 have lw:=fun id (p:d.W id)=>h.w id p
 have xw:∀id,(X id∨PX id)→id < H.n∧¬d.W id:=fun id p=>p.elim (fun p=>⟨h.sx id p,h.out id p⟩) (hPX id)
 have xk:∀id,(X id∨PX id)→H1.m id=H.m id:=fun id p=>keep id (xw id p).1 (fun e=>(xw id p).2 (e ▸ l1)) (fun e=>(xw id p).2 (e ▸ l3)) (fun e=>(xw id p).2 (e ▸ l4)) (fun e=>(xw id p).2 (e ▸ l5))
 have k2:H1.m d.sid=H.m d.sid:=keep _ (lw _ l2) n1.1.symm n2.1 n2.2.1 n2.2.2
 obtain ⟨e1,e2⟩:=hc
 refine ⟨fun id=>X id∨PX id,d,⟨fun id p=>.inr (.inl p),⟨.inl l1,hh⟩,?_,⟨.inl l3,gcs,hg,gl,hgc.mv xk (fun _ p=>p)⟩,⟨.inl l4,hb⟩,⟨.inl l5,hn⟩,?_,h.dist,fun id p=>(xw id p).2⟩,rfl,fun id p=>.inl p,fun id p=>.inl p⟩
 ·rw [e1]
  exact h.seats.mv ⟨.inl l2,k2⟩ (fun id p=>xk id (.inl p)) (fun id p=>.inl p)
 ·rw [e2]
  exact h.wire.mv (fun i q e=>⟨.inl (l6 i q e),keep _ (lw _ (l6 i q e)) (n5 i q e).1 (n5 i q e).2.2.1 (n5 i q e).2.2.2.1 (n5 i q e).2.2.2.2⟩) (fun id p=>xk id (.inl p)) (fun id p=>.inl p)
theorem Hl.reHall {t:HT} {pre post:List Value} {X:Ids} {d:HD} {c c':Cer} {H H1:AH} (h:Hl t pre post (Low H.n) H X d c) (hc:c'.seats=c.seats∧c'.got=c.got∧c'.has=c.has∧c'.named=c.named∧c'.wire=c.wire)
  (keep:∀id,id < H.n→id≠d.hid→H1.m id=H.m id) (hh:H1.m d.hid=some ⟨t.h,true,d.cells pre post c'⟩):HlPost t pre post X d c' H.n H1:=by
 obtain ⟨l1,l2,l3,l4,l5,l6⟩:=HD.Win (d:=d)
 obtain ⟨n1,n2,n3,n4,n5⟩:=HD.nodup h.dist
 have lw:=fun id (p:d.W id)=>h.w id p
 have xk:∀id,X id→H1.m id=H.m id:=fun id p=>keep id (h.sx id p) (fun e=>h.out id p (e ▸ l1))
 obtain ⟨e1,e2,e3,e4,e5⟩:=hc
 refine ⟨X,d,⟨fun id p=>.inr (.inl p),⟨.inl l1,hh⟩,?_,?_,?_,?_,?_,h.dist,h.out⟩,rfl,fun id p=>.inl p,fun id p=>.inl p⟩
 ·rw [e1]; exact h.seats.mv ⟨.inl l2,keep _ (lw _ l2) n1.1.symm⟩ xk (fun _ p=>p)
 ·rw [e2]; exact h.got.mv ⟨.inl l3,keep _ (lw _ l3) n1.2.1.symm⟩ xk (fun _ p=>p)
 ·rw [e3]; exact h.has.mv ⟨.inl l4,keep _ (lw _ l4) n1.2.2.1.symm⟩
 ·rw [e4]; exact h.named.mv ⟨.inl l5,keep _ (lw _ l5) n1.2.2.2.symm⟩
 ·rw [e5]; exact h.wire.mv (fun i q e=>⟨.inl (l6 i q e),keep _ (lw _ (l6 i q e)) (n5 i q e).1⟩) xk (fun _ p=>p)
theorem HlPost.weak {t:HT} {pre post:List Value} {X X':Ids} {d:HD} {c:Cer} {n:Nat} {H1:AH} (h:HlPost t pre post X d c n H1) (hX:∀id,X id→X' id):HlPost t pre post X' d c n H1:=by
 obtain ⟨Y,d',h1,h2,h3,h4⟩:=h
 exact ⟨Y,d',h1.mv (fun id hid=>⟨(hid.elim (h1.w id) (h1.sx id)).imp (fun p=>p) (fun p=>p.imp (hX id) (fun p=>p)),rfl⟩),h2,fun id p=>(h3 id p).imp (hX id) (fun p=>p),h4⟩
theorem KW.idT {P:Program} {S:Ids} {H0:AH} {Q:PostC} {k:List It} {e:Env} {T T':List Var} {n:Nat} (h:T=T') (hk:KW P S H0 Q n T' k e):KW P S H0 Q n T k e:=h ▸ hk
theorem SpecW.of0L {P:Program} {S:Ids} {H0:AH} (Z:List Nat) {W:Ids} {f:FuncId} {fn:Func} {c:Code} {args:List Value} {post:Nat→Value→AH→Prop} (hf:P.funcs[f]?=some fn) (hb:fn.body=some c) (hok:fnOk fn=true) (hst:stC (relab Z c)=true) (hs:Nat.ble args.length fn.ntmps=true)
  (h:∀H,Fin' H→Fz S H0 H→KW P (Low H.n) H (Fin1 P fn (fun v H1=>H.n≤H1.n∧(∀id,id < H.n→¬W id→H1.m id=H.m id)∧Fin' H1∧post H.n v H1)) H.n [] [.code (relab Z c)] (fun t=>args.getD t undef)):SpecW P S H0 W f args post:=by
 intro H hfin hfz
 refine Run.of hf hb hok (by simpa using Nat.le_of_ble_eq_true hs) ?_
 rw [envL_eq]
 exact ((h H hfin hfz).wc hst (Good.start hfin)).relab
theorem splice_one {l:List Value} {k:Nat} {v:Value} (h:k < l.length):splice l k [v]=l.set k v:=by
 simp only [splice]
 rw [List.set_eq_take_append_cons_drop,if_pos h]
 simp
theorem sl_mk {α:Type} {d:Kn α} {S S':Ids} {A A':AH} {v:Value} {xs:List α} (h:d.Sl S A v xs) (hA:∀id,S id→S' id∧A'.m id=A.m id):d.Sl S' A' v xs:=Kn.Sl.more (fun id p=>(hA id p).1) (Kn.Sl.same (fun id p=>(hA id p).2) h)
theorem HlPost.lift {t:HT} {pre post:List Value} {X X2:Ids} {d d2:HD} {c:Cer} {n n2:Nat} {H1:AH} (h:HlPost t pre post X2 d2 c n2 H1) (hn:n≤n2) (hn2:n2≤H1.n) (hh:d2.hid=d.hid) (hX:∀id,X2 id→X id∨New n n2 id) (hd:∀id,d2.W id→d.W id∨New n n2 id):HlPost t pre post X d c n H1:=by
 obtain ⟨Y,d',h1,h2,h3,h4⟩:=h
 have nw:∀id,New n n2 id→New n H1.n id:=fun id p=>⟨p.1,by have:=p.2; omega⟩
 have nw2:∀id,New n2 H1.n id→New n H1.n id:=fun id p=>⟨by have:=p.1; omega,p.2⟩
 have big:∀id,(d2.W id∨X2 id∨New n2 H1.n id)→d.W id∨X id∨New n H1.n id:=fun id p=>by
  rcases p with p | p | p
  ·exact (hd id p).imp (fun p=>p) (fun p=>.inr (nw id p))
  ·exact .inr ((hX id p).imp (fun p=>p) (nw id))
  ·exact .inr (.inr (nw2 id p))
 refine ⟨Y,d',h1.mv (fun id hid=>⟨big id (hid.elim (h1.w id) (h1.sx id)),rfl⟩),h2.trans hh,fun id p=>?_,fun id p=>?_⟩
 ·rcases h3 id p with p | p
  ·exact (hX id p).imp (fun p=>p) (nw id)
  ·exact .inr (nw2 id p)
 ·rcases h4 id p with p | p
  ·exact (hd id p).imp (fun p=>p) (nw id)
  ·exact .inr (nw2 id p)
theorem HlRes.lift {t:HT} {pre post:List Value} {X X2:Ids} {d d2:HD} {r:Cer × Int} {n n2:Nat} {v:Value} {H1:AH} (h:HlRes t pre post X2 d2 r n2 v H1) (hn:n≤n2) (hn2:n2≤H1.n) (hh:d2.hid=d.hid) (hX:∀id,X2 id→X id∨New n n2 id) (hd:∀id,d2.W id→d.W id∨New n n2 id):HlRes t pre post X d r n v H1:=
 ⟨h.1,h.2.lift hn hn2 hh hX hd⟩
theorem bload_seg {P:Program} {b:Blk} {t:TypeId} {k:Nat} {ps:List Value} {fs:Array Field} {i:TypeInfo} (hu:P.underlying t=some (.struct fs)) (hi:P.info? t=some i) (hs:i.size=ps.length) (hk:k+ps.length≤b.cells.length) (h:(b.cells.drop k).take ps.length=ps):bload P b t k=some (.agg ps.toArray):=by
 unfold bload
 simp only [hu,hi]
 rw [if_pos (by omega),hs,h]
theorem HlPost.mem {t:HT} {pre post:List Value} {X:Ids} {d:HD} {c:Cer} {n:Nat} {H5 H1:AH} (h:HlPost t pre post X d c n H5) (hA:∀id,(d.W id∨X id∨New n H5.n id)→H1.m id=H5.m id) (hn:H5.n≤H1.n):HlPost t pre post X d c n H1:=by
 obtain ⟨Y,d',h1,h2,h3,h4⟩:=h
 have nw:∀id,New n H5.n id→New n H1.n id:=fun id p=>⟨p.1,by have:=p.2; omega⟩
 refine ⟨Y,d',h1.mv (fun id hid=>?_),h2,fun id p=>(h3 id p).imp (fun p=>p) (nw id),fun id p=>(h4 id p).imp (fun p=>p) (nw id)⟩
 have hs:=hid.elim (h1.w id) (h1.sx id)
 exact ⟨hs.imp (fun p=>p) (fun p=>p.imp (fun p=>p) (nw id)),hA id hs⟩
section
variable {S:Ids} {H0:AH} {X PX:Ids} {d:HD} {c:Cer} {post:List Value}
theorem implPost {p:T_Packet} {pcs:List Value} (h:Hl HTI [] post S H0 X d c) (hp:K_Packet.R PX H0 p pcs) (hPX:∀id,PX id→S id∧¬d.W id) (hw:c.wire.length≤12):
  SpecW Try.prog S H0 d.W 221 [.pointer (some ⟨d.hid,0,none⟩),.agg pcs.toArray] (HlRes HTI [] post (fun id=>X id∨PX id) d (send c p)):=by
 obtain ⟨pa1,pc1,pa2,pc2,rfl,hp1,hp2⟩:=split_Packet hp
 refine SpecW.of0 Try.func221 rfl (by kernel_rfl) rfl (fun H hfin hfz=>?_)
 haveI o:On S H0 (Low H.n) H:=⟨fun id hs=>⟨(hfz id hs).1,(hfz id hs).2⟩⟩
 have h:=h.on (S':=Low H.n) (A':=H)
 have hp:K_Packet.R PX H p _:=K_Packet.same (fun id hid=>(hfz id (hPX id hid).1).2) hp
 have hPX:∀id,PX id→id < H.n∧¬d.W id:=fun id hid=>⟨(hfz id (hPX id hid).1).1,(hPX id hid).2⟩
 obtain ⟨hid,sid,gid,bid,nid,w⟩:=d
 have hc:=h.cellsH
 have hh:=h.hall
 have hwi:=h.wire
 have lh:hid < H.n:=hh.1
 by_cases hf:c.wire.length=12
 ·rw [send_full hf]
  cases w with
  | none=>have e:c.wire=[]:=hwi; rw [e] at hf; cases hf
  | some iq=>
   obtain ⟨i,q⟩:=iq
   refine KW.ldF 6 hc rfl rfl rfl rfl rfl rfl rfl rfl rfl ?_
   refine KW.yes rfl rfl (by omega) ?_
   exact KW.retW rfl rfl rfl rfl (fun H1 g=>by have:=g.n_; omega) (fun id hid _=>⟨hid,rfl⟩) (fun H1 g=>⟨rfl,HlPost.same h (fun id p=>.inl p) (fun id hid=>(g.froz id hid).2)⟩)
 ·rw [send_ok hf]
  cases w with
  | none=>
   have e:c.wire=[]:=hwi
   refine KW.ldF 6 hc rfl rfl rfl rfl rfl rfl rfl rfl rfl ?_
   refine KW.no rfl rfl (by omega) ?_
   refine KW.thaw hid _ hh.1 hh.2 ?_
   refine KW.ldT 1 rfl rfl rfl rfl rfl rfl rfl ?_
   refine KW.litS1 rfl rfl rfl rfl rfl rfl rfl rfl rfl rfl rfl rfl ?_
   refine KW.appNS rfl rfl rfl rfl rfl rfl rfl (by decide) rfl (fun H1 g=>acells_seg (g.blk (j:=2) rfl).1 (by show 0+1*5≤5; decide)) rfl (by decide) (by decide) (by decide) ?_
   refine KW.st1 1 rfl rfl rfl rfl rfl rfl rfl rfl rfl rfl rfl rfl (by show 6 < ([_,_,_,_,_,_,_]++post).length; simp) ?_
   refine KW.retW rfl rfl rfl rfl (fun H1 g=>by have:=g.n_; omega) (fun id hid hw=>⟨⟨hid,fun e=>hw (e ▸ HD.Win.1)⟩,rfl⟩) (fun H1 g=>⟨rfl,?_⟩)
   have hn:=g.n_
   refine h.reWire hPX (i:=H.n+2) (q:=1) (by omega) (.inl ⟨by omega,by omega⟩) (fun id h1 h2 _=>(g.froz id ⟨h1,h2⟩).2) 1 (by rw [e]; rfl) (g.blk (j:=1) rfl).1 (g.blk (j:=3) rfl).1 (by rw [e]; exact Cl.one ((K_Packet).more (fun id p=>.inr p) hp)) (by rw [e]; simp)
  | some iq=>
   obtain ⟨i,q⟩:=iq
   obtain ⟨hi1,hq,wcs,hi2,hcl⟩:=hwi
   have li:i < H.n:=hi1
   obtain ⟨n1,n2,n3,n4,n5⟩:=HD.nodup h.dist
   have nh:i≠hid:=(n5 i q rfl).1
   refine KW.ldF 6 hc rfl rfl rfl rfl rfl rfl rfl rfl rfl ?_
   refine KW.no rfl rfl (by omega) ?_
   refine KW.thaw hid _ hh.1 hh.2 ?_
   refine KW.thaw i _ ⟨hi1,nh⟩ hi2 ?_
   refine KW.ldT 1 rfl rfl rfl rfl rfl rfl rfl ?_
   refine KW.litS1 rfl rfl rfl rfl rfl rfl rfl rfl rfl rfl rfl rfl ?_
   refine KW.appTS 2 rfl rfl rfl rfl rfl rfl rfl rfl (by decide) rfl (fun H1 g=>acells_seg (g.blk (j:=3) rfl).1 (by show 0+1*5≤5; decide)) (by have:=hcl.1; show 0+c.wire.length*5≤wcs.length; have:c.wire.length*5≤wcs.length:=this; omega) rfl (by decide) (by show (c.wire.length+1)*72≤_; omega) (by omega) ?_
   refine KW.st1 1 rfl rfl rfl rfl rfl rfl rfl rfl rfl rfl rfl rfl (by show 6 < ([_,_,_,_,_,_,_]++post).length; simp) ?_
   refine KW.retW rfl rfl rfl rfl (fun H1 g=>by have:=g.n_; omega) (fun id hid hw=>⟨⟨⟨hid,fun e=>hw (e ▸ HD.Win.1)⟩,fun e=>hw (by rw [e]; exact HD.Win.2.2.2.2.2 i q rfl)⟩,rfl⟩) (fun H1 g=>⟨rfl,?_⟩)
   have hn:=g.n_
   refine h.reWire hPX (i:=H.n+2) (q:=c.wire.length+1) (by omega) (.inl ⟨by omega,by omega⟩) (fun id h1 h2 h3=>(g.froz id ⟨⟨h1,h2⟩,h3 i q rfl⟩).2) (c.wire.length+1) (by simp) (g.blk (j:=1) rfl).1 (g.blk (j:=2) rfl).1 (Cl.snoc (hcl.mv (fun _ _=>rfl) (fun id p=>.inl p)) ((K_Packet).more (fun id p=>.inr p) hp)) (by simp)
end
section
variable {S:Ids} {H0:AH}
end
section
variable {S:Ids} {H0:AH}
end
theorem built_Purse (a:Int) (o1 o2:Option Addr) (n1 c1 n2 c2:Nat):Try.prog.built 71 [(0,.int .i64 a),(1,.slice o1 n1 c1),(2,.slice o2 n2 c2)]=some #[.int .i64 a,.slice o1 n1 c1,.slice o2 n2 c2]:=by kernel_rfl
theorem T5 {i0 i1 i2 i3 i4:Nat} {a b b' c c' d d' e e':Blk} (h1:b=b') (h2:c=c') (h3:d=d') (h4:e=e'):([(i0,a),(i1,b),(i2,c),(i3,d),(i4,e)]:List Var)=[(i0,a),(i1,b'),(i2,c'),(i3,d'),(i4,e')]:=by subst h1 h2 h3 h4; rfl
theorem bcong {ty:TypeId} {r:Bool} {a b:List Value} (h:a=b):(⟨ty,r,a⟩:Blk)=⟨ty,r,b⟩:=by rw [h]
theorem bstore_one {P:Program} {b:Blk} {t:TypeId} {k:Nat} {v:Value} {i:TypeInfo} (hi:P.info? t=some i) (hs:i.size=1) (hv:v.cells=#[v]) (h1:v.oneCell'=true) (hrw:b.rw=true) (hlt:k < b.cells.length):bstore P b t k v=some ⟨b.ty,true,b.cells.set k v⟩:=by
 unfold bstore
 simp only [hi,hs,hv]
 rw [if_pos ⟨hrw,rfl,by omega,by simp [h1]⟩]
 congr 2
 simp only [splice]
 rw [List.set_eq_take_append_cons_drop,if_pos hlt]
 simp
theorem zarr_all {z:Value} (hz:z.cells=#[z]) (h1:z.oneCell'=true) (m:Nat):(zarr z m).all Value.oneCell'=true:=by
 rw [zarr_one z hz]
 exact Array.all_eq_true_iff_forall_mem.2 (fun x hx=>by have e:=List.eq_of_mem_replicate (show x∈List.replicate m z by simpa using hx); rw [e]; exact h1)
theorem splice_all {l ys:List Value} (h:ys.length=l.length):splice l 0 ys=ys:=by
 unfold splice
 simp [h]
theorem Cl.repN (X:Ids) (A:AH) (n:Nat):Cl KI.sl X A (List.replicate n ([]:List Int)) (List.replicate n (.slice none 0 0)):=by
 refine ⟨by simp [Kn.sl],fun i x hx=>?_⟩
 have hi:=(List.getElem?_eq_some_iff.1 hx).1
 rw [List.length_replicate] at hi
 obtain rfl:=List.eq_of_mem_replicate (List.mem_of_getElem? hx)
 refine ⟨.slice none 0 0,?_,.inl ⟨rfl,none,0,rfl,fun _=>rfl⟩⟩
 show ((List.replicate n (Value.slice none 0 0)).drop (i*1)).take 1=_
 rw [List.take_one,Nat.mul_one,List.head?_drop,List.getElem?_replicate,if_pos hi]
 rfl
section
variable {S:Ids} {H0:AH} {X PX D:Ids} {d:HD} {c:Cer} {dcs:List Value} {x:T_Deal}
theorem implCome {p:T_Packet} {pcs:List Value} (hd:DealOk x) (hB:B_Deal x) (hok:CerOk x c) (hpk:PkOk x p) (h:Hl HTI [] dcs S H0 X d c) (hD:K_Deal.R D H0 x dcs) (hDD:∀id,D id→S id∧¬d.W id) (hp:K_Packet.R PX H0 p pcs) (hPX:∀id,PX id→S id∧¬d.W id):
  SpecW Try.prog S H0 d.W 218 [.pointer (some ⟨d.hid,0,none⟩),.agg pcs.toArray] (fun n v H1=>HlPost HTI [] dcs (fun id=>X id∨PX id) d (come x c p) n H1):=by
 obtain ⟨pa1,pc1,pa2,pc2,rfl,hp1,hp2⟩:=split_Packet hp
 obtain ⟨pb,ph,pe,pv,pt⟩:=p
 simp only at hp1 hp2 ⊢
 refine SpecW.of0L [12] Try.func218 rfl (by kernel_rfl) (by kernel_rfl) rfl (fun H hfin hfz=>?_)
 haveI o:On S H0 (Low H.n) H:=⟨fun id hs=>⟨(hfz id hs).1,(hfz id hs).2⟩⟩
 have h:=h.on (S':=Low H.n) (A':=H)
 have hp1:KI.Sl PX H _ _:=Kn.Sl.same (fun id hid=>(hfz id (hPX id hid).1).2) hp1
 have hp2:KI.Sl PX H _ _:=Kn.Sl.same (fun id hid=>(hfz id (hPX id hid).1).2) hp2
 have hD:K_Deal.R D H x dcs:=K_Deal.same (fun id hid=>(hfz id (hDD id hid).1).2) hD
 have hPX:∀id,PX id→id < H.n∧¬d.W id:=fun id hid=>⟨(hfz id (hPX id hid).1).1,(hPX id hid).2⟩
 have hDD:∀id,D id→id < H.n∧¬d.W id:=fun id hid=>⟨(hfz id (hDD id hid).1).1,(hDD id hid).2⟩
 obtain ⟨hid,sid,gid,bid,nid,w⟩:=d
 have hc:=h.cellsH
 have hh:=h.hall
 obtain ⟨hs0,scs,hs1,hscl⟩:=h.seats
 obtain ⟨hg0,gcs,hg1,hgl,hgcl⟩:=h.got
 obtain ⟨hb0,hb1⟩:=h.has
 obtain ⟨hn0,hn1⟩:=h.named
 obtain ⟨n1,n2,n3,n4,n5⟩:=HD.nodup h.dist
 simp only at n1 n2 n3 n4 n5 hs0 hs1 hg0 hg1 hb0 hb1 hn0 hn1
 have hho:0≤ph∧ph < x.1.1:=hpk.ho
 have hsl:=hok.sl
 cases pb with
 | false=>
  have ecome:come x c (false,ph,pe,pv,pt)=comeS c (false,ph,pe,pv,pt):=rfl
  rw [ecome]
  obtain ⟨hse,hsok⟩:=hok.seat hpk.ho
  simp only at hse
  obtain ⟨s,hs⟩:∃s,c.seat ph=s:=⟨_,rfl⟩
  have ecS:comeS c (false,ph,pe,pv,pt)=if s.1.1 < pe then ⟨c.ep,c.seats.set ph.toNat ((pe,pv,pt),s.2),c.oe,c.got,c.has,c.named,c.wire⟩ else c:=by unfold comeS; rw [← hs]
  rw [ecS]
  rw [hs] at hse
  have hR:=hscl.2 _ _ hse
  obtain ⟨ps,qs,hseg,hR1,hR2⟩:=split_Seat hR
  obtain ⟨b1,e1,b2,e2,rfl,hR3,hR4⟩:=split_Purse hR1
  have f0:scs[0+ph.toNat*7]?=some (.int .i64 s.1.1):=by
   have:=seg_at (q:=0) hseg rfl
   rw [Nat.zero_add]; exact this
  refine KW.cT rfl rfl (by first | (simp; done) | decide) ?_
  refine KW.ldF 1 hc rfl rfl rfl rfl rfl rfl rfl rfl rfl ?_
  refine KW.idx0 rfl rfl rfl rfl rfl rfl rfl rfl rfl (by omega) (by omega) ?_
  refine KW.ldC hs0 hs1 f0 rfl rfl rfl rfl rfl rfl rfl ?_
  refine KW.cnd rfl rfl (fun k1=>?_) (fun k1=>?_)
  ·have k1:pe > s.1.1:=k1
   rw [if_pos (show s.1.1 < pe by omega)]
   refine KW.build rfl rfl rfl rfl rfl (built_Purse _ _ _ _ _ _ _) ?_
   refine KW.thaw sid _ hs0 hs1 ?_
   have hle:ph.toNat*7+7≤scs.length:=by have:=hscl.1; have h2:=mul_le' (e:=7) (List.getElem?_eq_some_iff.1 hse).1; have:c.seats.length*7≤scs.length:=this; omega
   refine KW.stB 1 rfl rfl rfl rfl rfl rfl (bstore_agg rfl rfl rfl (by show 0+ph.toNat*7+3≤scs.length; omega) rfl) ?_
   refine KW.retW rfl rfl rfl rfl (fun H1 g=>by have:=g.n_; omega) (fun id hid hw=>⟨⟨hid,fun e=>hw (by rw [e]; exact HD.Win.2.1)⟩,rfl⟩) (fun H1 g=>?_)
   have hnew:=(g.blk (j:=1) rfl).1
   have hcl:=hscl.part (y:=((pe,pv,pt),s.2)) (a:=[]) (b:=[.int .i64 s.1.1,.slice b1 s.1.2.1.length e1,.slice b2 s.1.2.2.length e2]) (r:=qs++[.int .i64 s.2.2]) (b':=[.int .i64 pe,.slice pa1 pv.length pc1,.slice pa2 pt.length pc2]) (X':=fun id=>X id∨PX id) hse hseg rfl (fun id p=>.inl p) (show K_Seat.R (fun id=>X id∨PX id) H ((pe,pv,pt),s.2) ([.int .i64 pe,.slice pa1 pv.length pc1,.slice pa2 pt.length pc2]++(qs++[.int .i64 s.2.2])) from mk_Seat (x:=((pe,pv,pt),s.2)) (mk_Purse (x:=(pe,pv,pt)) (hp1.more (fun id p=>.inr p)) (hp2.more (fun id p=>.inr p))) (K_Purse.more (fun id p=>.inl p) hR2))
   have e0:0+ph.toNat*7=ph.toNat*K_Seat.es+([]:List Value).length:=by show 0+ph.toNat*7=ph.toNat*7+0; omega
   refine h.reSeats (fun id p=>⟨(hPX id p).1,(hPX id p).2⟩) (by simp) (fun id h1 h2=>(g.froz id ⟨h1,h2⟩).2) (cs:=splice scs (ph.toNat*K_Seat.es+([]:List Value).length) _) ?_ hcl.1
   rw [← e0]
   exact hnew
  ·have k1:¬pe > s.1.1:=k1
   rw [if_neg (show ¬s.1.1 < pe by omega)]
   exact KW.retW rfl rfl rfl rfl (fun H1 g=>by have:=g.n_; omega) (fun id hid _=>⟨hid,rfl⟩) (fun H1 g=>HlPost.same h (fun id p=>.inl p) (fun id hid=>(g.froz id hid).2))
 | true=>
  have ecome:come x c (true,ph,pe,pv,pt)=comeO x (fresh c pe) (true,ph,pe,pv,pt):=rfl
  rw [ecome]
  obtain ⟨d1,d2,d3,d4,d5,d6,d7,d8,rfl⟩:=form_Deal hD
  obtain ⟨E,J,hat⟩:=HoOk.at hd hpk.ho hpk.ep
  have hvl:=hpk.rw.vl
  have hve:=hpk.rw.ve
  have hrl:=rowsOf_len x.1.2.1 ph
  have hol:x.1.2.1.length≤1048576:=hB.1.2.1
  have hpt:pt.length≤1048576:=by have:pt.length=(rowsOf x.1.2.1 ph).length:=hpk.rw.tl; omega
  have hpv:pv.length=(rowsOf x.1.2.1 ph).length:=hvl
  have gl1:c.got.length=c.seats.length:=hok.gl
  have hl1:c.has.length=c.seats.length:=hok.hl
  have nl1:c.named.length=c.seats.length:=hok.nl
  refine KW.cF rfl rfl (by first | (simp; done) | decide) ?_
  refine KW.thaw hid _ hh.1 hh.2 ?_
  refine KW.thaw gid _ ⟨hg0,n1.2.1.symm⟩ hg1 ?_
  refine KW.thaw bid _ ⟨⟨hb0,n1.2.2.1.symm⟩,n3.1.symm⟩ hb1 ?_
  refine KW.thaw nid _ ⟨⟨⟨hn0,n1.2.2.2.symm⟩,n3.2.symm⟩,n4.symm⟩ hn1 ?_
  obtain ⟨TH,hTH⟩:∃TH:Cer→List Value→List Var,TH=fun c1 gcs1=>[(H.n,⟨153,true,[.bool true,.int .i64 ph,.int .i64 pe,.slice pa1 pv.length pc1,.slice pa2 pt.length pc2]⟩),(hid,⟨151,true,HD.cells ⟨hid,sid,gid,bid,nid,w⟩ [] [.int .i64 x.1.1,.slice d1 x.1.2.1.length d2,.int .i64 x.1.2.2.1,.int .i64 x.1.2.2.2.1,.slice d3 x.1.2.2.2.2.length d4,.int .i64 x.2.1,.slice d5 x.2.2.1.length d6,.slice d7 x.2.2.2.length d8] c1⟩),(gid,⟨36,true,gcs1⟩),(bid,⟨4,true,c1.has.map Value.bool⟩),(nid,⟨4,true,c1.named.map Value.bool⟩)]:=⟨_,rfl⟩
  refine KW.ldT 1 rfl rfl rfl rfl rfl rfl rfl ?_
  refine KW.cnd rfl rfl (fun k1=>?ga) (fun k1=>?gb)
  case' ga=>
   have k1:pe > c.oe:=k1
   refine KW.st1 1 rfl rfl rfl rfl rfl rfl rfl rfl rfl rfl rfl rfl (by show 2 < ([_,_,_,_,_,_,_]++_).length; simp) ?_
   refine KW.ldT 1 rfl rfl rfl rfl rfl rfl rfl ?_
   refine KW.clr 2 rfl rfl rfl rfl rfl rfl rfl rfl rfl rfl rfl (by omega) (by show 0+c.got.length*1≤gcs.length; omega) (zarr_all rfl rfl _) ?_
   refine KW.ldT 1 rfl rfl rfl rfl rfl rfl rfl ?_
   refine KW.clr 3 rfl rfl rfl rfl rfl rfl rfl rfl rfl rfl rfl (by omega) (by show 0+c.has.length*1≤(c.has.map Value.bool).length; simp) (zarr_all rfl rfl _) ?_
   obtain ⟨c1,hc1⟩:∃c1,fresh c pe=c1:=⟨_,rfl⟩
   have ec1:c1=⟨c.ep,c.seats,pe,List.replicate c.got.length [],List.replicate c.has.length false,c.named,c.wire⟩:=by rw [← hc1]; unfold fresh; rw [if_pos (show c.oe < pe by omega)]
   obtain ⟨gcs1,hgc1⟩:∃gcs1:List Value,gcs1=List.replicate c.got.length (.slice none 0 0):=⟨_,rfl⟩
   have hcl1:Cl KI.sl X H c1.got gcs1:=by rw [hgc1,ec1]; exact Cl.repN X H _
   have hgl1:gcs1.length=c1.got.length:=by rw [hgc1,ec1]; simp
   have z1:splice gcs 0 (zarr (.slice none 0 0) (c.got.length*1)).toList=gcs1:=by rw [zarr_one _ rfl,hgc1,Nat.mul_one]; exact splice_all (by simp [hgl])
   have z2:splice (c.has.map Value.bool) 0 (zarr (.bool false) (c.has.length*1)).toList=c1.has.map Value.bool:=by rw [zarr_one _ rfl,ec1,Nat.mul_one,List.map_replicate]; exact splice_all (by simp)
   refine KW.idT (T':=TH c1 gcs1) (by
    rw [hTH]
    refine T5 (bcong ?_) (bcong z1) (bcong z2) (bcong ?_)
    ·rw [ec1]
     simp only [HD.cells,List.length_replicate]
     rfl
    ·rw [ec1]) ?_
  case' gb=>
   have k1:¬pe > c.oe:=k1
   obtain ⟨c1,hc1⟩:∃c1,fresh c pe=c1:=⟨_,rfl⟩
   have ec1:c1=c:=by rw [← hc1]; unfold fresh; rw [if_neg (show ¬c.oe < pe by omega)]
   obtain ⟨gcs1,hgc1⟩:∃gcs1:List Value,gcs1=gcs:=⟨_,rfl⟩
   have hcl1:Cl KI.sl X H c1.got gcs1:=by rw [hgc1,ec1]; exact hgcl
   have hgl1:gcs1.length=c1.got.length:=by rw [hgc1,ec1]; exact hgl
   refine KW.idT (T':=TH c1 gcs1) (by rw [hTH,ec1,hgc1]) ?_
  all_goals
   subst hTH
   rw [hc1]
   have hok1:CerOk x c1:=by rw [← hc1]; exact hok.fresh hpk.ep
   have hsw:c1.seats=c.seats∧c1.wire=c.wire:=by rw [ec1]; exact ⟨rfl,rfl⟩
   have gl2:c1.got.length=c1.seats.length:=hok1.gl
   have hl2:c1.has.length=c1.seats.length:=hok1.hl
   have nl2:c1.named.length=c1.seats.length:=hok1.nl
   have sl2:=hok1.sl
   refine KW.ldT 1 rfl rfl rfl rfl rfl rfl rfl ?_
   have low:∀id,id < H.n→¬HD.W ⟨hid,sid,gid,bid,nid,w⟩ id→((((Low H.n id∧id≠hid)∧id≠gid)∧id≠bid)∧id≠nid):=fun id h1 hw=>⟨⟨⟨⟨h1,fun e=>hw (by rw [e]; exact HD.Win.1)⟩,fun e=>hw (by rw [e]; exact HD.Win.2.2.1)⟩,fun e=>hw (by rw [e]; exact HD.Win.2.2.2.1)⟩,fun e=>hw (by rw [e]; exact HD.Win.2.2.2.2.1)⟩
   have same:comeO x c1 (true,ph,pe,pv,pt)=c1→∀{n:Nat} {H1:AH},Good (fun id=>(((Low H.n id∧id≠hid)∧id≠gid)∧id≠bid)∧id≠nid) H ([(H.n,⟨153,true,[.bool true,.int .i64 ph,.int .i64 pe,.slice pa1 pv.length pc1,.slice pa2 pt.length pc2]⟩),(hid,⟨151,true,HD.cells ⟨hid,sid,gid,bid,nid,w⟩ [] [.int .i64 x.1.1,.slice d1 x.1.2.1.length d2,.int .i64 x.1.2.2.1,.int .i64 x.1.2.2.2.1,.slice d3 x.1.2.2.2.2.length d4,.int .i64 x.2.1,.slice d5 x.2.2.1.length d6,.slice d7 x.2.2.2.length d8] c1⟩),(gid,⟨36,true,gcs1⟩),(bid,⟨4,true,c1.has.map Value.bool⟩),(nid,⟨4,true,c1.named.map Value.bool⟩)]) n H1→HlPost HTI [] _ (fun id=>X id∨PX id) ⟨hid,sid,gid,bid,nid,w⟩ (comeO x c1 (true,ph,pe,pv,pt)) H.n H1:=fun e n H1 g=>by
    rw [e]
    exact h.reOpen hPX hsw (fun id h1 h2 h3 h4 h5=>(g.froz id ⟨⟨⟨⟨h1,h2⟩,h3⟩,h4⟩,h5⟩).2) (g.blk (j:=1) rfl).1 (g.blk (j:=2) rfl).1 hgl1 (hcl1.mv (fun _ _=>rfl) (fun id p=>.inl p)) (g.blk (j:=3) rfl).1 (g.blk (j:=4) rfl).1
   have noO:¬(pe=c1.oe∧c1.named.getD ph.toNat false=false∧c1.has.getD ph.toNat false=false)→comeO x c1 (true,ph,pe,pv,pt)=c1:=fun hx=>by unfold comeO; rw [if_neg hx]
   refine KW.tstB rfl rfl (fun k2=>?_) (fun k2=>?_)
   ·have k2:¬pe=c1.oe:=by simpa using k2
    repeat first | refine KW.tT rfl rfl rfl ?_ | refine KW.tF rfl rfl rfl ?_
    refine KW.cT rfl rfl (by first | (simp; done) | decide) ?_
    exact KW.retW rfl rfl rfl rfl (fun H1 g=>by have:=g.n_; omega) (fun id h1 hw=>⟨low id h1 hw,rfl⟩) (fun H1 g=>same (noO fun hx=>k2 hx.1) g)
   have k2:pe=c1.oe:=by simpa using k2
   refine KW.ldT 1 rfl rfl rfl rfl rfl rfl rfl ?_
   refine KW.idx0 rfl rfl rfl rfl rfl rfl rfl rfl rfl (by omega) (by omega) ?_
   refine KW.ldB 4 (ph.toNat) rfl rfl rfl rfl rfl rfl rfl rfl (by omega) (by omega) ?_
   refine KW.tstB rfl rfl (fun k3=>?_) (fun k3=>?_)
   ·have k3:c1.named.getD ph.toNat false=true:=k3
    repeat first | refine KW.tT rfl rfl rfl ?_ | refine KW.tF rfl rfl rfl ?_
    refine KW.cT rfl rfl (by first | (simp; done) | decide) ?_
    exact KW.retW rfl rfl rfl rfl (fun H1 g=>by have:=g.n_; omega) (fun id h1 hw=>⟨low id h1 hw,rfl⟩) (fun H1 g=>same (noO fun hx=>by rw [hx.2.1] at k3; cases k3) g)
   have k3:c1.named.getD ph.toNat false=false:=k3
   refine KW.ldT 1 rfl rfl rfl rfl rfl rfl rfl ?_
   refine KW.idx0 rfl rfl rfl rfl rfl rfl rfl rfl rfl (by omega) (by omega) ?_
   refine KW.ldB 3 (ph.toNat) rfl rfl rfl rfl rfl rfl rfl rfl (by omega) (by omega) ?_
   refine KW.cndB rfl rfl (fun k4=>?_) (fun k4=>?_)
   ·have k4:c1.has.getD ph.toNat false=true:=k4
    exact KW.retW rfl rfl rfl rfl (fun H1 g=>by have:=g.n_; omega) (fun id h1 hw=>⟨low id h1 hw,rfl⟩) (fun H1 g=>same (noO fun hx=>by rw [hx.2.2] at k4; cases k4) g)
   have k4:c1.has.getD ph.toNat false=false:=k4
   refine KW.ldT 1 rfl rfl rfl rfl rfl rfl rfl ?_
   have hDS:K_Deal.R (fun id=>(((Low H.n id∧id≠hid)∧id≠gid)∧id≠bid)∧id≠nid) H x _:=K_Deal.more (fun id p=>low id (hDD id p).1 (hDD id p).2) hD
   have hq1:KI.Sl (fun id=>(((Low H.n id∧id≠hid)∧id≠gid)∧id≠bid)∧id≠nid) H _ _:=hp1.more (fun id p=>low id (hPX id p).1 (hPX id p).2)
   have hq2:KI.Sl (fun id=>(((Low H.n id∧id≠hid)∧id≠gid)∧id≠bid)∧id≠nid) H _ _:=hp2.more (fun id p=>low id (hPX id p).1 (hPX id p).2)
   refine KW.callN1 rfl rfl rfl rfl rfl (tagsDD x pe ph hat hB hDS hpv hve hq1) (fun v H2 S2 m2 _ _ hv=>?_)
   obtain ⟨a9,q9,rfl,hT⟩:=hv
   have htl:(tagsD x pe ph pv).length≤1048576:=by simp only [tagsD,tagsOf,List.length_map,List.length_range]; omega
   refine KW.callE rfl rfl rfl rfl rfl (equalI htl hT.ups hq2.up) (fun _ _=>?_)
   have eO:comeO x c1 (true,ph,pe,pv,pt)=if tv (tagsD x pe ph pv=pt)=true then ⟨c1.ep,c1.seats,c1.oe,c1.got.set ph.toNat pv,c1.has.set ph.toNat true,c1.named,c1.wire⟩ else ⟨c1.ep,c1.seats,c1.oe,c1.got,c1.has,c1.named.set ph.toNat true,c1.wire⟩:=by unfold comeO; rw [if_pos ⟨k2,k3,k4⟩]
   by_cases k5:tagsD x pe ph pv=pt
   ·rw [tv_true k5]
    rw [tv_true k5,if_pos rfl] at eO
    rw [eO]
    refine KW.cT rfl rfl (by first | (simp; done) | decide) ?_
    refine KW.ldT 1 rfl rfl rfl rfl rfl rfl rfl ?_
    refine KW.ldT 1 rfl rfl rfl rfl rfl rfl rfl ?_
    refine KW.idx0 rfl rfl rfl rfl rfl rfl rfl rfl rfl (by omega) (by omega) ?_
    refine KW.stZ 2 rfl rfl rfl rfl rfl rfl (bstore_one rfl rfl rfl rfl rfl (by show 0+ph.toNat*1 < gcs1.length; omega)) (by repeat (first | exact trivial | refine ⟨(by first | exact .inl ⟨1,_,_,_,_,rfl,rfl,by decide⟩ | exact .inl ⟨0,_,_,_,_,rfl,rfl,by decide⟩),?_⟩)) ?_
    refine KW.idx0 rfl rfl rfl rfl rfl rfl rfl rfl rfl (by omega) (by omega) ?_
    refine KW.stBo 3 (ph.toNat) rfl rfl rfl rfl rfl rfl rfl rfl rfl (by omega) (by omega) ?_
    refine KW.endW rfl rfl rfl rfl (fun H1 g=>?_) (fun id h1 hw=>(inferInstance:On (fun id=>(((Low H.n id∧id≠hid)∧id≠gid)∧id≠bid)∧id≠nid) H S2 H2).st id (low id h1 hw)) (fun H1 g=>?_)
    ·have:=g.n_; omega
    have g:=g.back (S0:=fun id=>(((Low H.n id∧id≠hid)∧id≠gid)∧id≠bid)∧id≠nid) (H0:=H)
    have e0:0+ph.toNat*1=ph.toNat:=by omega
    have hcl3:=hcl1.mv (fun _ _=>rfl) (X':=fun id=>X id∨PX id) (A':=H) (fun id p=>.inl p)
    have hset:=hcl3.set (i:=ph.toNat) (y:=pv) (ys:=[.slice pa1 pv.length pc1]) (by omega) (sl1' (hp1.more (fun id p=>.inr p)))
    have esp:splice gcs1 (ph.toNat*KI.sl.es) [.slice pa1 pv.length pc1]=gcs1.set ph.toNat (.slice pa1 pv.length pc1):=by
     show splice gcs1 (ph.toNat*1) _=_
     rw [Nat.mul_one]
     simp only [splice]
     rw [List.set_eq_take_append_cons_drop,if_pos (by omega)]
     simp
    rw [esp] at hset
    refine h.reOpen hPX hsw (fun id h1 h2 h3 h4 h5=>(g.froz id ⟨⟨⟨⟨h1,h2⟩,h3⟩,h4⟩,h5⟩).2) ?_ (gcs:=gcs1.set ph.toNat (.slice pa1 pv.length pc1)) ?_ (by simp [hgl1]) hset.1 ?_ (g.blk (j:=4) rfl).1
    ·have:=(g.blk (j:=1) rfl).1
     simp only [HD.cells,List.length_set] at this ⊢
     exact this
    ·have:=(g.blk (j:=2) rfl).1
     rw [← e0]
     exact this
    ·have:=(g.blk (j:=3) rfl).1
     exact this
   ·rw [tv_false k5]
    rw [tv_false k5,if_neg (by decide)] at eO
    rw [eO]
    refine KW.cF rfl rfl (by first | (simp; done) | decide) ?_
    refine KW.ldT 1 rfl rfl rfl rfl rfl rfl rfl ?_
    refine KW.idx0 rfl rfl rfl rfl rfl rfl rfl rfl rfl (by omega) (by omega) ?_
    refine KW.stBo 4 (ph.toNat) rfl rfl rfl rfl rfl rfl rfl rfl rfl (by omega) (by omega) ?_
    refine KW.endW rfl rfl rfl rfl (fun H1 g=>?_) (fun id h1 hw=>(inferInstance:On (fun id=>(((Low H.n id∧id≠hid)∧id≠gid)∧id≠bid)∧id≠nid) H S2 H2).st id (low id h1 hw)) (fun H1 g=>?_)
    ·have:=g.n_; omega
    have g:=g.back (S0:=fun id=>(((Low H.n id∧id≠hid)∧id≠gid)∧id≠bid)∧id≠nid) (H0:=H)
    exact h.reOpen hPX hsw (fun id h1 h2 h3 h4 h5=>(g.froz id ⟨⟨⟨⟨h1,h2⟩,h3⟩,h4⟩,h5⟩).2) (by have:=(g.blk (j:=1) rfl).1; simp only [HD.cells,List.length_set] at this ⊢; exact this) (g.blk (j:=2) rfl).1 hgl1 (hcl1.mv (fun _ _=>rfl) (fun id p=>.inl p)) (g.blk (j:=3) rfl).1 (g.blk (j:=4) rfl).1
end
end Go.Proofs.Ytlapbbffoapleaa.Am
