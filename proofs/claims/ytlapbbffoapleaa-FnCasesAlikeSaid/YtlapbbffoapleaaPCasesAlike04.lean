/- Contracts and laws on abstract memory, merged. Each holds under its own conditions. -/
import Derived.Test.YtlapbbffoapleaaPCasesAlike03
set_option linter.unusedVariables false
set_option linter.unusedSimpArgs false
set_option maxRecDepth 20000
set_option maxHeartbeats 4000000
/- What rows span, plain; where a row is not spanned, some list makes all rows 0 and it 1. Each holds under its own conditions. -/
set_option linter.unusedVariables false
set_option linter.unusedSimpArgs false
set_option maxRecDepth 20000
namespace Go.Proofs.Ytlapbbffoapleaa.Pl
def Spn (p:Int) (L:List (List Int)) (v:List Int):Prop:=∃cs:List Int,cs.length=L.length∧∀j,Cg p (lcS L cs j) (v.getD j 0)
theorem Spn.row {p:Int} {L:List (List Int)} {i:Nat} {r:List Int} (h:L[i]?=some r):Spn p L r:=by
 have hi:=(List.getElem?_eq_some_iff.1 h).1
 refine⟨(List.replicate L.length 0).set i 1,by simp,fun j=>?_⟩
 rw[lcS_unit L i L.length hi hi,List.getD_eq_getElem?_getD (l:=L),h]
 exact Cg.rfl'
theorem Spn.sc {p b:Int} {L:List (List Int)} {v:List Int} (h:Spn p L v):Spn p L (sc p b v):=by
 obtain⟨cs,h1,h2⟩:=h
 refine⟨Pl.sc p b cs,by simp[Pl.sc,h1],fun j=>?_⟩
 exact(lcS_sc L cs).trans ((Cg.rfl'.mul (h2 j)).trans (sc_cg (w:=v)).symm)
theorem Spn.tk {p s:Int} {L:List (List Int)} {v w:List Int} (h:Spn p L v) (h':Spn p L w) (hl:v.length=w.length):Spn p L (tk p s v w):=by
 obtain⟨cs,h1,h2⟩:=h
 obtain⟨ds,h3,h4⟩:=h'
 refine⟨Pl.tk p s cs ds,by simp[Pl.tk,h1,h3],fun j=>?_⟩
 exact(lcS_tk L cs ds (by omega)).trans (((h2 j).sub (Cg.rfl'.mul (h4 j))).trans (tk_cg hl).symm)
theorem rnd_span {p:Int} {K c n:Nat} {L0 L L':List (List Int)} (hf:Fer p) (hL:Rect p K L) (hn:n≤L.length) (h:rnd p L c n=some L') (hs:∀r∈L,Spn p L0 r):∀r∈L',Spn p L0 r:=by
 obtain⟨a,u,w,b,h1,h2,hu,hw,hw0,hq,hlen,hln,hz,hrest⟩:=rnd_rows hf hL hn h
 intro r hr
 obtain⟨j,hj⟩:=List.getElem?_of_mem hr
 have sw:=(hs w (List.mem_of_getElem? hw)).sc (b:=b)
 have lw:(Pl.sc p b w).length=K:=by simp[Pl.sc,(hL w (List.mem_of_getElem? hw)).1]
 by_cases e:j=n
 ·subst e
  rw[hln] at hj
  cases hj
  exact sw
 ·rw[hrest j e] at hj
  obtain⟨v,hv,rfl⟩:=Option.map_eq_some_iff.1 hj
  have hvm:v∈L:=by
   split at hv
   ·cases hv;exact List.mem_of_getElem? hu
   ·exact List.mem_of_getElem? hv
  exact(hs v hvm).tk sw (by rw[lw,(hL v hvm).1])
theorem ech_span {p:Int} {K:Nat} {L:List (List Int)} (hf:Fer p) (hL:Rect p K L):∀c,∀r∈(ech p L c).1,Spn p L r
 | 0,r,hr=>by
  obtain⟨i,hi⟩:=List.getElem?_of_mem hr
  exact Spn.row hi
 | c+1,r,hr=>by
  have ih:=ech_span hf hL c
  have sh:=ech_shape hf hL c
  simp only[ech] at hr
  split at hr
  ·exact ih r hr
  ·rename_i L' hrd
   exact rnd_span hf sh.rect sh.le hrd ih r hr
theorem lcS_app {j:Nat}:∀(A B:List (List Int)) (a b:List Int),a.length=A.length→lcS (A++B) (a++b) j=lcS A a j+lcS B b j
 | [],B,[],b,_=>by simp[lcS]
 | r :: A,B,c :: a,b,h=>by
  have ih:=lcS_app (j:=j) A B a b (by simpa using h)
  simp only[List.cons_append,lcS,ih]
  omega
 | [],_,_ :: _,_,h=>by simp at h
 | _ :: _,_,[],_,h=>by simp at h
theorem lcS_pad {k j:Nat}:∀(L:List (List Int)) (cs:List Int),(∀r∈L,r.length=k)→lcS (L.map fun r=>r++[0]) cs j=lcS L cs j
 | [],_,_=>by simp[lcS]
 | _ :: _,[],_=>by simp[lcS]
 | r :: L,c :: cs,h=>by
  have ih:=lcS_pad (j:=j) L cs fun r hr=>h r (List.mem_cons_of_mem _ hr)
  simp only[List.map_cons,lcS,ih]
  congr 2
  rw[List.getD_eq_getElem?_getD,List.getD_eq_getElem?_getD]
  rcases Nat.lt_or_ge j r.length with hj | hj
  ·rw[List.getElem?_append_left hj]
  ·rw[List.getElem?_append_right hj,List.getElem?_eq_none hj]
   cases hd:j-r.length with
   | zero=>rfl
   | succ n=>rfl
theorem dF_comm {a b:List Int} (h:a.length=b.length):dF a 0 b=dF b 0 a:=by
 have e1:=dF_dL a b [] h
 have e2:=dF_dL b a [] h.symm
 simp only[List.nil_append,List.length_nil] at e1 e2
 rw[e1,e2]
 have key:∀(a b:List Int),dL a b=dL b a:=fun a=>by
  induction a with
  | nil=>intro b;cases b<;>rfl
  | cons x a ih=>
   intro b
   cases b with
   | nil=>rfl
   | cons y b=>simp only[dL,ih b,Int.mul_comm]
 exact key a b
end Go.Proofs.Ytlapbbffoapleaa.Pl
namespace Go.Proofs.Ytlapbbffoapleaa.Am
open Go Go.RowKit Go.Proofs Go.Proofs.Ytlapbbffoapleaa.Pl
theorem unit_dF0 {k:Nat} {all:List Int} (hl:all.length=k+1):dF (unitL (k+1)) 0 all=all.getD 0 0:=by
 cases all with
 | nil=>simp at hl
 | cons a t=>
  show 1*a+dF (unitL (k+1)) 1 t=a
  have:dF (unitL (k+1)) 1 t=0:=dF_zero t 1 fun j h1 h2=>by
   unfold unitL
   obtain⟨j',rfl⟩:∃j',j=j'+1:=⟨j-1,by omega⟩
   rw[List.getD_cons_succ,List.getD_eq_getElem?_getD,List.getElem?_replicate]
   split<;>rfl
  omega
theorem alt {p:Int} {k:Nat} {L:List (List Int)} {t:List Int} (hf:Fer p) (hL:Rect p k L) (ht:t.length=k∧∀a∈t,0≤a∧a<p) (h:comb p L t=none):
  ∃z:List Int,(z.length=k∧∀a∈z,0≤a∧a<p)∧(∀r∈L,Cg p (dF r 0 z) 0)∧Cg p (dF t 0 z) 1:=by
 have hp2:=hf.1
 obtain⟨W,eW⟩:∃W,(L.map fun r=>r++[0])++[t++[1]]=W:=⟨_,rfl⟩
 have hW:Rect p (k+1) W:=fun w hw=>by
  rw[← eW] at hw
  rcases List.mem_append.1 hw with hw | hw
  ·obtain⟨r,hr,rfl⟩:=List.mem_map.1 hw
   refine⟨by simp[(hL r hr).1],fun a ha=>?_⟩
   rcases List.mem_append.1 ha with ha | ha
   ·exact(hL r hr).2 a ha
   ·rw[List.mem_singleton.1 ha];omega
  ·rw[List.mem_singleton.1 hw]
   refine⟨by simp[ht.1],fun a ha=>?_⟩
   rcases List.mem_append.1 ha with ha | ha
   ·exact ht.2 a ha
   ·rw[List.mem_singleton.1 ha];omega
 by_cases hs:k∈(ech p W (k+1)).2
 ·exfalso
  have sh:=ech_shape hf hW (k+1)
  obtain⟨i,hi⟩:=List.getElem?_of_mem hs
  have hil:i<(ech p W (k+1)).1.length:=by have:=(List.getElem?_eq_some_iff.1 hi).1;have:=sh.le;omega
  obtain⟨r,hr⟩:∃r,(ech p W (k+1)).1[i]?=some r:=⟨_,List.getElem?_eq_getElem hil⟩
  obtain⟨_,q1,q2⟩:=sh.piv i k r hi hr
  obtain⟨cs,c1,c2⟩:=ech_span hf hW (k+1) r (List.mem_of_getElem? hr)
  have hWl:W.length=L.length+1:=by rw[← eW];simp
  obtain⟨ds,e,rfl⟩:∃ds e,cs=ds++[e]:=by
   have:=List.dropLast_concat_getLast (l:=cs) (by intro h0;rw[h0] at c1;simp at c1;omega)
   exact⟨_,_,this.symm⟩
  have dl:ds.length=L.length:=by simp at c1;omega
  have col:∀j,lcS W (ds++[e]) j=lcS L ds j+e*(t++[1]).getD j 0:=fun j=>by
   rw[← eW,lcS_app _ _ _ _ (by simp[dl]),lcS_pad L ds fun r hr=>(hL r hr).1]
   show _+(e*_+0)=_
   omega
  have ck:=c2 k
  rw[col k,lcS_big hL ds (Nat.le_refl k),q1] at ck
  have e1:(t++[1]).getD k 0=1:=by
   rw[List.getD_eq_getElem?_getD,List.getElem?_append_right (by omega),ht.1,Nat.sub_self];rfl
  rw[e1] at ck
  refine comb_complete hf hL ht (cs:=sc p (-1) ds) (fun j=>?_) h
  rcases Nat.lt_or_ge j k with hj | hj
  ·have cj:=c2 j
   rw[col j,q2 j hj] at cj
   have e2:(t++[1]).getD j 0=t.getD j 0:=by
    rw[List.getD_eq_getElem?_getD,List.getElem?_append_left (by omega),← List.getD_eq_getElem?_getD]
   rw[e2] at cj
   refine(lcS_sc L ds).trans ?_
   obtain⟨m,hm⟩:=cj
   obtain⟨n,hn⟩:=ck
   have he:e=1+p*n:=by omega
   rw[he] at hm
   exact⟨n*t.getD j 0-m,by grind⟩
  ·rw[lcS_big hL _ hj,getD_big ht.1 hj];exact Cg.rfl'
 ·have hz:=setF_sol hf hW hs
  have hl:=setF_len (E:=(ech p W (k+1)).1) (P:=(ech p W (k+1)).2) (k:=k) (ech p W (k+1)).2.length
  have hin:=setF_in (p:=p) (k:=k) (P:=(ech p W (k+1)).2) (by omega) (ech_shape hf hW (k+1)).rect (ech p W (k+1)).2.length
  obtain⟨z,ez⟩:∃z,setF (ech p W (k+1)).1 (ech p W (k+1)).2 k (ech p W (k+1)).2.length=z:=⟨_,rfl⟩
  rw[ez] at hz hl hin
  refine⟨z,⟨hl,hin⟩,fun r hr=>?_,?_⟩
  ·obtain⟨i,hi⟩:=List.getElem?_of_mem hr
   have hil:=(List.getElem?_eq_some_iff.1 hi).1
   exact(sat_aug (hL r hr).1 hl).1 (hz i (r++[0]) (by rw[← eW,List.getElem?_append_left (by simpa using hil),List.getElem?_map,hi];rfl))
  ·exact(sat_aug ht.1 hl).1 (hz L.length (t++[1]) (by rw[← eW,List.getElem?_append_right (by simp)];simp))
theorem other_secret {p:Int} {k:Nat} {L:List (List Int)} {held y:List Int} (hf:Fer p) (hL:Rect p (k+1) L) (h:comb p L (unitL (k+1))=none) (hy:y.length=k+1) (hfit:∀(i:Nat) r v,L[i]?=some r→held[i]?=some v→Cg p (dF r 0 y) v) {s':Int} (hs':0≤s'∧s'<p):
  ∃y':List Int,(y'.length=k+1∧∀a∈y',0≤a∧a<p)∧(∀(i:Nat) r v,L[i]?=some r→held[i]?=some v→Cg p (dF r 0 y') v)∧y'.getD 0 0=s':=by
 have hp2:=hf.1
 have hu:=unitL_in (p:=p) hp2 (show 1≤k+1 by omega)
 obtain⟨z,hz,z0,z1⟩:=alt hf hL hu h
 have hyz:y.length=z.length:=by rw[hy,hz.1]
 have ok:=tk_ok (p:=p) (t:=y.getD 0 0-s') (k:=k+1) (by omega) hy hz.1
 refine⟨tk p (y.getD 0 0-s') y z,ok,fun i r v hr hv=>?_,?_⟩
 ·have hrl:=(hL r (List.mem_of_getElem? hr)).1
  have h1:=hfit i r v hr hv
  have h2:=z0 r (List.mem_of_getElem? hr)
  rw[dF_comm (by omega)] at h1 h2 ⊢
  obtain⟨m,hm⟩:=dF_tk (p:=p) (s:=y.getD 0 0-s') hyz r 0
  have h3:Cg p (dF (tk p (y.getD 0 0-s') y z) 0 r) (dF y 0 r-(y.getD 0 0-s')*dF z 0 r):=⟨m,hm⟩
  refine h3.trans ((h1.sub (Cg.rfl'.mul h2)).trans ?_)
  exact⟨0,by simp⟩
 ·have h1:Cg p ((tk p (y.getD 0 0-s') y z).getD 0 0) (y.getD 0 0-(y.getD 0 0-s')*z.getD 0 0):=tk_cg hyz
  rw[unit_dF0 hz.1] at z1
  have h2:Cg p ((tk p (y.getD 0 0-s') y z).getD 0 0) s':=h1.trans ((Cg.rfl'.sub (Cg.rfl'.mul z1)).trans ⟨0,by grind⟩)
  exact h2.eq (el_ok (by omega) ok 0) hs'
end Go.Proofs.Ytlapbbffoapleaa.Am

namespace Go.Proofs.Ytlapbbffoapleaa.Am
open Go Go.RowKit Go.Proofs
section
variable {S:Ids} {H0:AH}
end
def HlRes (t:HT) (pre post:List Value) (X:Ids) (d:HD) (r:Cer × Int) (n:Nat) (v:Value) (H1:AH):Prop:=v=.int .i64 r.2∧HlPost t pre post X d r.1 n H1
theorem HlPost.same {t:HT} {pre post:List Value} {X X0:Ids} {d:HD} {c:Cer} {H H1:AH} (h:Hl t pre post (Low H.n) H X0 d c) (hX:∀id,X0 id→X id) (hA:∀id,id<H.n→H1.m id=H.m id):HlPost t pre post X d c H.n H1:=
 ⟨X0,d,h.mv (fun id hid=>⟨hid.imp (fun p=>p) (fun p=>.inl (hX id p)),hA id (hid.elim (h.w id) (h.sx id))⟩),rfl,fun id p=>.inl (hX id p),fun id p=>.inl p⟩
theorem HlPost.weak {t:HT} {pre post:List Value} {X X':Ids} {d:HD} {c:Cer} {n:Nat} {H1:AH} (h:HlPost t pre post X d c n H1) (hX:∀id,X id→X' id):HlPost t pre post X' d c n H1:=by
 obtain⟨Y,d',h1,h2,h3,h4⟩:=h
 exact⟨Y,d',h1.mv (fun id hid=>⟨(hid.elim (h1.w id) (h1.sx id)).imp (fun p=>p) (fun p=>p.imp (hX id) (fun p=>p)),rfl⟩),h2,fun id p=>(h3 id p).imp (hX id) (fun p=>p),h4⟩
theorem HlPost.lift {t:HT} {pre post:List Value} {X X2:Ids} {d d2:HD} {c:Cer} {n n2:Nat} {H1:AH} (h:HlPost t pre post X2 d2 c n2 H1) (hn:n≤n2) (hn2:n2≤H1.n) (hh:d2.hid=d.hid) (hX:∀id,X2 id→X id∨New n n2 id) (hd:∀id,d2.W id→d.W id∨New n n2 id):HlPost t pre post X d c n H1:=by
 obtain⟨Y,d',h1,h2,h3,h4⟩:=h
 have nw:∀id,New n n2 id→New n H1.n id:=fun id p=>⟨p.1,by have:=p.2;omega⟩
 have nw2:∀id,New n2 H1.n id→New n H1.n id:=fun id p=>⟨by have:=p.1;omega,p.2⟩
 have big:∀id,(d2.W id∨X2 id∨New n2 H1.n id)→d.W id∨X id∨New n H1.n id:=fun id p=>by
  rcases p with p | p | p
  ·exact(hd id p).imp (fun p=>p) (fun p=>.inr (nw id p))
  ·exact .inr ((hX id p).imp (fun p=>p) (nw id))
  ·exact .inr (.inr (nw2 id p))
 refine⟨Y,d',h1.mv (fun id hid=>⟨big id (hid.elim (h1.w id) (h1.sx id)),rfl⟩),h2.trans hh,fun id p=>?_,fun id p=>?_⟩
 ·rcases h3 id p with p | p
  ·exact(hX id p).imp (fun p=>p) (nw id)
  ·exact .inr (nw2 id p)
 ·rcases h4 id p with p | p
  ·exact(hd id p).imp (fun p=>p) (nw id)
  ·exact .inr (nw2 id p)
theorem HlRes.lift {t:HT} {pre post:List Value} {X X2:Ids} {d d2:HD} {r:Cer × Int} {n n2:Nat} {v:Value} {H1:AH} (h:HlRes t pre post X2 d2 r n2 v H1) (hn:n≤n2) (hn2:n2≤H1.n) (hh:d2.hid=d.hid) (hX:∀id,X2 id→X id∨New n n2 id) (hd:∀id,d2.W id→d.W id∨New n n2 id):HlRes t pre post X d r n v H1:=
 ⟨h.1,h.2.lift hn hn2 hh hX hd⟩
section
variable {S:Ids} {H0:AH} {X PX:Ids} {d:HD} {c:Cer} {post:List Value}
end
section
variable {S:Ids} {H0:AH}
end
section
variable {S:Ids} {H0:AH}
end
section
variable {S:Ids} {H0:AH} {X PX D:Ids} {d:HD} {c:Cer} {dcs:List Value} {x:T_Deal}
end
section
variable {S:Ids} {H0:AH} {X PX:Ids} {d:HD} {c:Cer} {dp:Value}
end
section
variable {S:Ids} {H0:AH} {X PX D:Ids} {d:HD} {c:Cer} {dcs:List Value} {x:T_Deal}
end
section
variable {S:Ids} {H0:AH}
end
section
variable {S:Ids} {H0:AH} {X PX D:Ids} {d:HD} {c:Cer} {dcs:List Value} {x:T_Deal}
end
theorem Cl.cell1 {X:Ids} {A:AH} {ps:List T_Packet} {cs:List Value} (h:Cl K_Packet X A ps cs) {j:Nat} (hj:j<ps.length*5):∃v,cs[j]?=some v∧v.oneCell'=true:=by
 have hi:j / 5<ps.length:=Nat.div_lt_of_lt_mul (by omega)
 have hR:=h.2 (j / 5) _ (List.getElem?_eq_getElem hi)
 obtain⟨a1,c1,a2,c2,hseg,_,_⟩:=split_Packet hR
 have hm:=Nat.mod_lt j (show 0<5 by decide)
 have e:j / 5*K_Packet.es+j%5=j:=by show j / 5*5+j%5=j;omega
 have at_:∀(q:Nat) v,q=j%5→([.bool ps[j / 5].1,.int .i64 ps[j / 5].2.1,.int .i64 ps[j / 5].2.2.1,.slice a1 ps[j / 5].2.2.2.1.length c1,.slice a2 ps[j / 5].2.2.2.2.length c2]:List Value)[q]?=some v→cs[j]?=some v:=fun q v hq hv=>by
  have:=seg_at hseg hv
  rw[hq,e] at this
  exact this
 rcases(by omega:j%5=0∨j%5=1∨j%5=2∨j%5=3∨j%5=4) with h | h | h | h | h
 ·exact⟨_,at_ 0 _ h.symm rfl,rfl⟩
 ·exact⟨_,at_ 1 _ h.symm rfl,rfl⟩
 ·exact⟨_,at_ 2 _ h.symm rfl,rfl⟩
 ·exact⟨_,at_ 3 _ h.symm rfl,rfl⟩
 ·exact⟨_,at_ 4 _ h.symm rfl,rfl⟩
theorem Cl.ones {X:Ids} {A:AH} {ps:List T_Packet} {cs:List Value} (h:Cl K_Packet X A ps cs) {k m:Nat} (hk:k+m≤ps.length*5):((cs.drop k).take m).all Value.oneCell'=true:=by
 refine List.all_eq_true.2 fun v hv=>?_
 obtain⟨j,hj⟩:=List.getElem?_of_mem hv
 rw[List.getElem?_take] at hj
 split at hj
 ·rename_i hjm
  rw[List.getElem?_drop] at hj
  obtain⟨u,h1,h2⟩:=h.cell1 (j:=k+j) (by omega)
  rw[h1] at hj
  cases hj
  exact h2
 ·cases hj
section
variable {S:Ids} {H0:AH} {X:Ids}
end
section
variable {P:Program} {S:Ids} {H0:AH} {Q:PostC} {k k1:List It} {e e1:Env} {T T1:List Var} {n n1:Nat} {l1 r1:List Nat} {d1:Tmp}
theorem KW.callWF (j:Nat) {f:Operand} {xs:Array Operand} {ts:Array TypeId} {g:FuncId} {first cap:Array Value} {o:Oper} {o2:Nat} {b:Blk} (h:Go1 P k e T n (.op o false) k1 e1 T1 n1 l1 r1) (hlr:l1=r1) (ho:o.op=.call {callee:=.value f,args:=xs,argTypes:=ts}) (hd:o.dst=some d1) (hf:ev e1 f=.func (.func g) first cap) (hj:T1[j]?=some (o2,b))
  (hk:∀(A':AH) (S':Ids),A'.n=n1→(∀id,S' id↔S id∨id=o2)→Stp S H0 S' A'→A'.m o2=some b→o2<n1→¬S o2→(∀id,S id→id<n1)→∃(W:Ids) (post:Nat→Value→AH→Prop),(∀id,W id→S' id)∧SpecW P S' A' W g (cargs e1 first cap xs) post∧∀v H1 (S'':Ids),n1≤H1.n→StW W S' A' S'' H1→(∀id,New n1 H1.n id→S'' id)→post n1 v H1→KW P S'' H1 Q H1.n (T1.take j) k1 (put1 e1 d1 (untag v))):KW P S H0 Q n T k e:=by
 refine KW.go h hlr (fun H gd=>?_)
 replace gd:Good S H0 T1 n1 H:=gd
 have hv:=gd.vars j _ hj
 have get:∀{i:Nat} {u:Var},(T1.take j)[i]?=some u→i<j∧T1[i]?=some u:=fun {i u} hi=>by
  rw[List.getElem?_take] at hi
  split at hi
  ·exact⟨by assumption,hi⟩
  ·cases hi
 obtain⟨S2,hS2⟩:∃S2:Ids,S2=fun id=>S id∨id=o2:=⟨_,rfl⟩
 obtain⟨W,post,hW,hs,hk⟩:=hk H S2 gd.n_ (fun id=>by rw[hS2]) ⟨fun id hid=>⟨by rw[hS2];exact .inl hid,(gd.froz id hid).2⟩⟩ hv.1 hv.2.1 hv.2.2 (fun id hid=>(gd.froz id hid).1)
 have gd:Good S2 H (T1.take j) n1 H:=by
  subst hS2
  refine⟨gd.n_,gd.fin,fun id hid=>⟨?_,rfl⟩,fun i u hi=>?_,fun i1 i2 u w h1 h2 he=>gd.dist i1 i2 u w (get h1).2 (get h2).2 he⟩
  ·rcases hid with hid | rfl
   ·exact(gd.froz id hid).1
   ·exact hv.2.1
  ·obtain⟨h1,h2⟩:=get hi
   have h3:=gd.vars i u h2
   refine⟨h3.1,h3.2.1,fun h=>?_⟩
   rcases h with h | h
   ·exact h3.2.2 h
   ·have:=gd.dist i j u _ h2 hj h;omega
 clear get hv
 clear hS2
 obtain⟨m,v,H1,h1,hx1,hx2,hfin,hp⟩:=hs H gd.fin gd.fz
 have hn:H.n=n1:=gd.n_
 have e:untags (first++aargs e1 xs++cap)=(cargs e1 first cap xs).toArray:=by
  apply Array.ext'
  simp[aargs,untags,cargs]
 refine⟨m,untag v,H1,?_,?_⟩
 ·rw[ho]
  simp only[evOp,evCall,hf]
  exact⟨v,rfl,by rw[e];exact h1,fun h=>by cases h⟩
 ·rw[hn] at hp
  rw[hd,put1_eq]
  refine hk v H1 (fun id=>S2 id∨New n1 H1.n id) (by rw[← hn];exact hx1) (fun id hid=>⟨.inl hid,fun hw=>?_⟩) (fun id hid=>.inr hid) hp H1 ?_
  ·obtain⟨h2,h3⟩:=gd.froz id hid
   rw[hx2 id (by omega) hw]
  ·refine⟨rfl,hfin,fun id hid=>⟨?_,rfl⟩,fun j w hj=>?_,gd.dist⟩
   ·rcases hid with hid | hid
    ·have:=(gd.froz id hid).1;omega
    ·exact hid.2
   ·obtain⟨h2,h3,h4⟩:=gd.vars j w hj
    refine⟨by rw[hx2 _ (by omega) (fun hw=>h4 (hW _ hw))];exact h2,by omega,fun hh=>?_⟩
    rcases hh with hh | hh
    ·exact h4 hh
    ·have:=hh.1;omega
end
theorem SpecW.of0R {P:Program} {S:Ids} {H0:AH} {W:Ids} (Z:List Nat) {f:FuncId} {fn:Func} {c:Code} {args:List Value} {post:Nat→Value→AH→Prop} (hf:P.funcs[f]?=some fn) (hb:fn.body=some c) (hok:fnOk fn=true) (hst:stC (relab Z c)=true) (hs:Nat.ble args.length fn.ntmps=true)
  (h:∀H,Fin' H→Fz S H0 H→KW P (Low H.n) H (Fin1 P fn (fun v H1=>H.n≤H1.n∧(∀id,id<H.n→¬W id→H1.m id=H.m id)∧Fin' H1∧post H.n v H1)) H.n [] [.code (relab Z c)] (fun t=>args.getD t undef)):SpecW P S H0 W f args post:=by
 intro H hfin hfz
 refine Run.of hf hb hok (by simpa using Nat.le_of_ble_eq_true hs) ?_
 rw[envL_eq]
 exact((h H hfin hfz).wc hst (Good.start hfin)).relab
section
variable {P:Program} {S:Ids} {H0:AH} {Q:PostC} {k k1:List It} {e e1:Env} {T T1:List Var} {n n1:Nat} {l1 r1:List Nat} {d1:Tmp}
def AllW (S W:Ids) (T:List Var) (e:Env):List Tmp→Prop
 | []=>True
 | u :: L=>((∃(i:Nat) (b:Blk) (id k:Nat) (s:Option Nat),e u=.pointer (some ⟨id,k,s⟩)∧T[i]?=some (id,b))∨∃(id k:Nat) (s:Option Nat),e u=.pointer (some ⟨id,k,s⟩)∧S id∧¬W id)∧AllW S W T e L
theorem KW.callWL {f:Operand} {xs:Array Operand} {ts:Array TypeId} {g:FuncId} {first cap:Array Value} {o:Oper} {W:Ids} {L:List Tmp} {post:Nat→Value→AH→Prop} (hW:∀id,W id→S id) (h:Go1 P k e T n (.opL o false L) k1 e1 T1 n1 l1 r1) (hlr:l1=r1) (ho:o.op=.call {callee:=.value f,args:=xs,argTypes:=ts}) (hd:o.dst=some d1) (hf:ev e1 f=.func (.func g) first cap) (hL:AllW S W T1 e1 L)
  (hs:SpecW P S H0 W g (cargs e1 first cap xs) post)
  (hk:∀v H1 (S':Ids),n1≤H1.n→StW W S H0 S' H1→(∀id,New n1 H1.n id→S' id)→post n1 v H1→KW P S' H1 Q H1.n T1 k1 (put1 e1 d1 (untag v))):KW P S H0 Q n T k e:=by
 refine KW.go h hlr (fun H gd=>?_)
 replace gd:Good S H0 T1 n1 H:=gd
 obtain⟨m,v,H1,h1,hx1,hx2,hfin,hp⟩:=hs H gd.fin gd.fz
 have hn:H.n=n1:=gd.n_
 have e:untags (first++aargs e1 xs++cap)=(cargs e1 first cap xs).toArray:=by
  apply Array.ext'
  simp[aargs,untags,cargs]
 refine⟨m,untag v,H1,?_,?_,?_⟩
 ·rw[ho]
  simp only[evOp,evCall,hf]
  exact⟨v,rfl,by rw[e];exact h1,fun h=>by cases h⟩
 ·have hAll:∀(L:List Tmp),AllW S W T1 e1 L→∀t∈L,∀id k s,e1 t=.pointer (some ⟨id,k,s⟩)→H1.m id=H.m id:=by
   intro L
   induction L with
   | nil=>intro _ t ht;cases ht
   | cons u L ih=>
    intro hL t ht id k s he
    rcases List.mem_cons.1 ht with rfl | ht
    ·rcases hL.1 with⟨i,b,id',k',s',h1,h2⟩ | ⟨id',k',s',h1,h2,h3⟩
     ·rw[h1] at he
      cases he
      have hv:=gd.vars i _ h2
      exact hx2 _ (by omega) (fun hw=>hv.2.2 (hW _ hw))
     ·rw[h1] at he
      cases he
      exact hx2 _ (by have:=(gd.froz _ h2).1;omega) h3
    ·exact ih hL.2 t ht id k s he
  exact hAll L hL
 ·rw[hn] at hp
  rw[hd,put1_eq]
  refine hk v H1 (fun id=>S id∨New n1 H1.n id) (by rw[← hn];exact hx1) (fun id hid=>⟨.inl hid,fun hw=>?_⟩) (fun id hid=>.inr hid) hp H1 ?_
  ·obtain⟨h2,h3⟩:=gd.froz id hid
   rw[hx2 id (by omega) hw,h3]
  ·refine⟨rfl,hfin,fun id hid=>⟨?_,rfl⟩,fun j w hj=>?_,gd.dist⟩
   ·rcases hid with hid | hid
    ·have:=(gd.froz id hid).1;omega
    ·exact hid.2
   ·obtain⟨h2,h3,h4⟩:=gd.vars j w hj
    refine⟨by rw[hx2 _ (by omega) (fun hw=>h4 (hW _ hw))];exact h2,by omega,fun hh=>?_⟩
    rcases hh with hh | hh
    ·exact h4 hh
    ·have:=hh.1;omega
end
theorem Cl.less {X:Ids} {A:AH} {ps:List T_Packet} {cs:List Value} (h:Cl K_Packet X A ps cs) {i:Nat} (hi:i<ps.length):Cl K_Packet X A (ps.eraseIdx i) (([]++(cs.drop 0).take (i*5))++([]++(cs.drop (0+(i+1)*5)).take ((ps.length-(i+1))*5))):=by
 have hl:ps.length*5≤cs.length:=h.1
 have l1:((cs.drop 0).take (i*5)).length=i*5:=by simp;omega
 have l2:((cs.drop (0+(i+1)*5)).take ((ps.length-(i+1))*5)).length=(ps.length-(i+1))*5:=by simp;omega
 rw[List.nil_append,List.nil_append]
 refine h.erase hi (by show(ps.length-1)*5≤_;rw[List.length_append,l1,l2];omega) (fun j hj=>?_) (fun j h1 h2=>?_)
 ·show(_:List Value)=(cs.drop (j*5)).take 5
  show List.take 5 (List.drop (j*5) _)=_
  rw[List.drop_append_of_le_length (by omega),List.take_append_of_le_length (by rw[List.length_drop,l1];omega)]
  rw[List.drop_zero,List.drop_take,List.take_take,Nat.min_eq_left (by omega)]
 ·show List.take 5 (List.drop (j*5) _)=(cs.drop ((j+1)*5)).take 5
  rw[List.drop_append,List.drop_eq_nil_of_le (by omega),List.nil_append,l1,List.drop_take,List.take_take,Nat.min_eq_left (by omega),List.drop_drop]
  congr 2
  omega
section
variable {S:Ids} {H0:AH} {X PX D:Ids} {d:HD} {c:Cer} {dcs:List Value} {x:T_Deal}
end
section
variable {S:Ids} {H0:AH} {X D:Ids} {d:HD} {c:Cer} {dcs:List Value} {x:T_Deal}
end
theorem Good.sub {S:Ids} {H0 H:AH} {T T':List Var} {n:Nat} (g:Good S H0 T n H) (f:Nat→Nat) (hf:∀i j,f i=f j→i=j) (h:∀i u,T'[i]?=some u→T[f i]?=some u):Good S H0 T' n H:=
 ⟨g.n_,g.fin,g.froz,fun i u hi=>g.vars (f i) u (h i u hi),fun i j u w hi hj e=>hf i j (g.dist (f i) (f j) u w (h i u hi) (h j w hj) e)⟩
section
variable {S:Ids} {H0:AH} {x:T_Deal} {dcs:List Value}
end
section
variable {S:Ids} {H0:AH} {D:Ids} {x:T_Deal} {dcs:List Value}
end
section
variable {S:Ids} {H0:AH} {X D:Ids} {d:HD} {c:Cer} {dcs:List Value} {x:T_Deal}
end
abbrev B_Deed (x:T_Deed):Prop:=I64 x.1∧I64 x.2.1∧I64 x.2.2
section
variable {S:Ids} {H0:AH} {W:Ids} {left k:Int}
end
abbrev T_DeedS:Type:=List T_Deed
abbrev szE_Deed (x:T_Deed):Nat:=1+1+1
structure B_DeedS (x:List T_Deed):Prop where
 len:x.length≤1048576
 each:∀y∈x,B_Deed y
 tot:sum (x.map szE_Deed)≤16777216
section
variable {S:Ids} {H0:AH} {W:Ids} {a a':Option Addr} {c c':Nat} {left k:Int}
end
section
variable {S:Ids} {H0:AH} {x:T_Deal} {ds:List T_Deed} {dcs:List Value}
end
section
variable {S:Ids} {H0:AH} {X D:Ids} {d:HD} {c:Cer} {dcs:List Value} {x:T_Deal}
end
structure RT where
 i:Nat
 S:Ids
 A:AH
 X:Ids
 d:HD
 c:Cer
 o:Nat
 cs:List Int
structure RunJ (t:HT) (pre post:List Value) (x:T_Deal) (ds:List T_Deed) (H:AH) (hid:Nat) (s:RT):Prop where
 hl:Hl t pre post s.S s.A s.X s.d s.c
 hd:s.d.hid=hid
 ok:CerOk x s.c
 old:St (Low H.n) H s.S s.A
 new:∀id,s.d.W id→H.n≤id
 newX:∀id,s.X id→H.n≤id
 le:s.i≤ds.length
 pl:play x s.c (ds.drop s.i)=play x (cer0 x.1.1.toNat) ds
 cl:s.cs.length=s.i
 co:s.cs++codes x s.c (ds.drop s.i)=codes x (cer0 x.1.1.toNat) ds
theorem RunJ.next {t:HT} {pre post:List Value} {x:T_Deal} {ds:List T_Deed} {H A':AH} {S':Ids} {hid n1:Nat} {s:RT} {dd:T_Deed} (h:RunJ t pre post x ds H hid s) (hd:DealOk x) (hdd:DeedP dd) (hy:ds[s.i]?=some dd) (t5:StW s.d.W s.S s.A S' A') (w5:∀id,New n1 A'.n id→S' id) (hn:H.n≤n1) (hp:HlPost t pre post s.X s.d (doIt x s.c dd).1 n1 A') (o:Nat):
  ∃X' d',RunJ t pre post x ds H hid ⟨s.i+1,S',A',X',d',(doIt x s.c dd).1,o,s.cs++[(doIt x s.c dd).2]⟩:=by
 obtain⟨X',d',h1,h2,h3,h4⟩:=hp
 have inS:∀id,(s.d.W id∨s.X id∨New n1 A'.n id)→S' id:=fun id p=>by
  rcases p with p | p | p
  ·exact(t5 id (h.hl.w id p)).1
  ·exact(t5 id (h.hl.sx id p)).1
  ·exact w5 id p
 have edr:ds.drop s.i=dd :: ds.drop (s.i+1):=by
  rw[List.drop_eq_getElem_cons (List.getElem?_eq_some_iff.1 hy).1]
  rw[(List.getElem?_eq_some_iff.1 hy).2]
 have hpl:=h.pl
 have hco:=h.co
 rw[edr] at hpl hco
 refine⟨X',d',h1.mv fun id p=>⟨inS id (p.elim (h1.w id) (h1.sx id)),rfl⟩,h2.trans h.hd,h.ok.doIt hd hdd,fun id p=>?_,fun id p=>?_,fun id p=>?_,(List.getElem?_eq_some_iff.1 hy).1,hpl,by simp[h.cl],?_⟩
 ·have q:=h.old id p
  have r:=t5 id q.1
  refine⟨r.1,(r.2 fun w=>?_).trans q.2⟩
  have:=h.new id w
  have:id<H.n:=p
  omega
 ·rcases h4 id p with p | p
  ·exact h.new id p
  ·have:=p.1;omega
 ·rcases h3 id p with p | p
  ·exact h.newX id p
  ·have:=p.1;omega
 ·rw[← hco]
  conv=>{rhs;unfold codes}
  simp
theorem RunJ.done {t:HT} {pre post:List Value} {x:T_Deal} {ds:List T_Deed} {H H1:AH} {hid n:Nat} {s:RT} {T:List Var} (h:RunJ t pre post x ds H hid s) (he:s.i=ds.length) (g:Good s.S s.A T n H1):
  Hl t pre post (New H.n H1.n) H1 s.X s.d (play x (cer0 x.1.1.toNat) ds)∧s.cs=codes x (cer0 x.1.1.toNat) ds:=by
 have hpl:=h.pl
 have hco:=h.co
 rw[he,List.drop_length] at hpl hco
 have hpl:s.c=play x (cer0 x.1.1.toNat) ds:=hpl
 have hco:s.cs=codes x (cer0 x.1.1.toNat) ds:=by rw[← hco];simp[codes]
 refine⟨?_,hco⟩
 rw[← hpl]
 refine h.hl.mv fun id p=>?_
 have hn:=g.n_
 have hS:s.S id:=p.elim (h.hl.w id) (h.hl.sx id)
 have hf:=g.froz id hS
 exact⟨⟨p.elim (h.new id) (h.newX id),by omega⟩,hf.2⟩
section
variable {S:Ids} {H0:AH} {D:Ids} {x:T_Deal} {ds:List T_Deed} {dcs:List Value}
end
section
variable {S:Ids} {H0:AH} {l:List Bool}
end
noncomputable def behind (x:T_Deal) (ds:List T_Deed):Cer:=play x (cer0 x.1.1.toNat) ds
section
variable {S:Ids} {H0:AH} {x:T_Deal} {ds:T_DeedS} {dcs:List Value}
end

end Go.Proofs.Ytlapbbffoapleaa.Am
namespace Go.Proofs.Ytlapbbffoapleaa.Am
open Go Go.RowKit Go.Proofs Go.Proofs.Ytlapbbffoapleaa.Pl
section
variable {S:Ids} {H0:AH}
end
section
variable {S:Ids} {H0:AH}
end
end Go.Proofs.Ytlapbbffoapleaa.Am
namespace Go.Proofs.Ytlapbbffoapleaa.Am
open Go Go.RowKit Go.Proofs
theorem Kn.Sl.stX {α:Type} {d:Kn α} {S S':Ids} {H H':AH} {s:Value} {xs:List α} (h:d.Sl S H s xs) (t:∀id,S id→S' id∧H'.m id=H.m id):d.Sl S' H' s xs:=(h.same fun id hid=>(t id hid).2).more fun id hid=>(t id hid).1
abbrev KB:Kn Int:=Kn.int .u8
def Src (ac:Option Addr) (n cc:Nat) (A:AH) (id at_:Nat):Prop:=∃sd:Int,A.m id=some ⟨200,true,[.slice ac n cc,.int .i64 at_,.int .u64 sd]⟩
theorem srcOf {ac:Option Addr} {n cc:Nat} {A:AH} {id at_:Nat} {w sd:Int} (h:A.m id=some ⟨200,true,[.slice ac n cc,.int .i64 w,.int .u64 sd]⟩) (e:w=(at_:Nat)):Src ac n cc A id at_:=⟨sd,by rw[h,e]⟩
theorem and255 (x:Int):(BitVec.ofInt IntKind.u64.bits x &&& BitVec.ofInt IntKind.u64.bits 255).toNat≤255:=by
 rw[BitVec.toNat_and]
 exact Nat.le_trans Nat.and_le_right (by decide)
theorem last255 (x:Int):∃z:Nat,z<256∧Value.int .i64 (IntKind.i64.wrap (IntKind.u64.wrap ((BitVec.ofInt IntKind.u64.bits x &&& BitVec.ofInt IntKind.u64.bits 255).toNat:Int)))=.int .i64 z:=by
 have h:=and255 x
 exact⟨_,Nat.lt_succ_of_le h,congrArg (Value.int .i64) (by rw[wru (by omega) (by omega),wr (by omega) (by omega)])⟩
section
variable {S:Ids} {H0:AH}
theorem srcNext {bs:List Int} (hb:∀x∈bs,0≤x∧x<256) (hl:bs.length≤1048576) {ac:Option Addr} {cc id at_:Nat} {Y:Ids} (hat:at_≤1000000) (hS:S id) (hY:∀i,Y i→S i∧i≠id) (hsrc:Src ac bs.length cc H0 id at_) (hs:KB.Sl Y H0 (.slice ac bs.length cc) bs):
  SpecW Try.prog S H0 (fun i=>i=id) 154 [.pointer (some ⟨id,0,none⟩)] (fun n v H1=>∃z:Nat,z<256∧v=.int .i64 z∧Src ac bs.length cc H1 id (at_+1)):=by
 obtain⟨sd,hm⟩:=hsrc
 refine SpecW.of Try.func154 rfl (by kernel_rfl) rfl hS hm (fun H hfin hfz=>?_)
 have hs:=hs.stX (S':=fun i=>Low H.n i∧i≠id) (H':=H) (fun i hi=>⟨⟨(hfz i (hY i hi).1).1,(hY i hi).2⟩,(hfz i (hY i hi).1).2⟩)
 refine KW.ldT 0 U U U U U U U ?_
 refine KW.ldT 0 U U U U U U U ?_
 refine KW.cnd U U (fun k1=>?gin) (fun k1=>?gout)
 case' gin=>
  have k1:(at_:Int)<(bs.length:Int):=k1
  refine KW.ldT 0 U U U U U U U ?_
  refine KW.ldT 0 U U U U U U U ?_
  refine KW.getI hs U U U U U U U U U U U U U U U U (by omega) (k1) (fun y hy=>?_)
  have hyb:=hb y (List.mem_of_getElem? hy)
 case' gout=>
  have k1:¬(at_:Int)<(bs.length:Int):=k1
 all_goals
  have ei:IntKind.i64.wrap ((at_:Int)+1)=((at_+1:Nat):Int):=inc64 (by omega)
  refine KW.ldT 0 U U U U U U U ?_
  refine KW.st1 0 U U U U U U U U U U U U (by simp) ?_
  refine KW.ldT 0 U U U U U U U ?_
  refine KW.st1 0 U U U U U U U U U U U U (by simp) ?_
  refine KW.ldT 0 U U U U U U U ?_
  refine KW.ldT 0 U U U U U U U ?_
 case gin=>
  refine KW.yes U U (by rw[ei];omega) ?_
  have e0:IntKind.i64.wrap y=y:=wr (by omega) (by omega)
  refine KW.retW U U U U (fun H1 g=>by have:=g.n_;omega) (fun i hi hw=>⟨⟨hi,hw⟩,rfl⟩) (fun H1 g=>⟨y.toNat,by omega,?_,?_⟩)
  ·show Value.int .i64 (IntKind.i64.wrap y)=_
   rw[e0,Int.toNat_of_nonneg hyb.1]
  ·have h:=(g.blk (j:=0) rfl).1
   exact srcOf h ei
 case gout=>
  refine KW.no U U (by rw[ei];omega) ?_
  refine KW.ldT 0 U U U U U U U ?_
  refine KW.retW U U U U (fun H1 g=>by have:=g.n_;omega) (fun i hi hw=>⟨⟨hi,hw⟩,rfl⟩) (fun H1 g=>?_)
  have h:=(g.blk (j:=0) rfl).1
  have hsrc:Src ac bs.length cc H1 id (at_+1):=by
   exact srcOf h ei
  exact Exists.imp (fun z hz=>⟨hz.1,hz.2,hsrc⟩) (last255 _)
def SrcP (ac:Option Addr) (n cc id at_:Nat) (p:Nat→Prop) (v:Value) (H1:AH):Prop:=∃z at':Nat,p z∧at_≤at'∧at'≤at_+2∧v=.int .i64 z∧Src ac n cc H1 id at'
theorem srcPick {bs:List Int} (hb:∀x∈bs,0≤x∧x<256) (hl:bs.length≤1048576) {ac:Option Addr} {cc id at_:Nat} {Y:Ids} {n:Int} (hn:n≤1000000) (hat:at_≤900000) (hS:S id) (hY:∀i,Y i→S i∧i≠id) (hsrc:Src ac bs.length cc H0 id at_) (hs:KB.Sl Y H0 (.slice ac bs.length cc) bs):
  SpecW Try.prog S H0 (fun i=>i=id) 80 [.pointer (some ⟨id,0,none⟩),.int .i64 n] (fun _ v H1=>SrcP ac bs.length cc id at_ (fun z=>1≤n→(z:Int)<n) v H1):=by
 refine SpecW.of0 Try.func80 rfl (by kernel_rfl) rfl (fun H hfin hfz=>?_)
 have fx:∀i,S i→Low H.n i∧H.m i=H0.m i:=fun i hi=>hfz i hi
 have hid:id<H.n:=(fx id hS).1
 have hsrcH:Src ac bs.length cc H id at_:=by obtain⟨sd,h⟩:=hsrc;exact⟨sd,(fx id hS).2.trans h⟩
 have hsH:=hs.stX (S':=fun i=>Low H.n i∧i≠id) (H':=H) (fun i hi=>⟨⟨(fx i (hY i hi).1).1,(hY i hi).2⟩,(fx i (hY i hi).1).2⟩)
 refine KW.cnd U U (fun k1=>?_) (fun k1=>?_)
 ·have k1:n≤1:=k1
  refine KW.retW U U U U (fun H1 g=>by have:=g.n_;omega) (fun i hi hw=>⟨hi,rfl⟩) (fun H1 g=>⟨0,at_,fun h=>by omega,Nat.le_refl _,by omega,rfl,?_⟩)
  obtain⟨sd,h⟩:=hsrcH
  exact⟨sd,(g.froz id hid).2.trans h⟩
 ·have k1:¬n≤1:=k1
  obtain⟨m,rfl⟩:∃m:Nat,n=m:=⟨n.toNat,by omega⟩
  refine KW.callW (W:=fun i=>i=id) (fun i hi=>by subst hi;exact hid) U U U U U (srcNext (S:=Low H.n) (H0:=H) hb hl (by omega) hid (fun i hi=>hi) hsrcH hsH) (fun v H1 S1 hn1 st1 hw1 hp=>?_)
  obtain⟨z1,hz1,rfl,hsrc1⟩:=hp
  refine KW.cnd U U (fun k2=>?_) (fun k2=>?_)
  ·have t1:∀i,Low H.n i∧i≠id→(S1 i∧i≠id)∧H1.m i=H.m i:=fun i hi=>⟨⟨(st1 i hi.1).1,hi.2⟩,(st1 i hi.1).2 hi.2⟩
   refine KW.callW (W:=fun i=>i=id) (fun i hi=>by subst hi;exact(st1 i hid).1) U U U U U (srcNext (S:=S1) (H0:=H1) hb hl (by omega) (st1 id hid).1 (fun i hi=>hi) hsrc1 (hsH.stX t1)) (fun v H2 S2 hn2 st2 hw2 hp=>?_)
   obtain⟨z2,hz2,rfl,hsrc2⟩:=hp
   have e1:IntKind.i64.wrap (IntKind.i64.wrap ((z1:Int)*256)+(z2:Int))=((z1*256+z2:Nat):Int):=by rw[wr (x:=(z1:Int)*256) (by omega) (by omega),wr (by omega) (by omega)];omega
   refine KW.rem U U U U U U (by rw[e1];omega) (by omega) ?_
   refine KW.retW U U U U (fun H3 g=>by have:=g.n_;omega) (fun i hi hw=>⟨(st2 i (st1 i hi).1).1,((st2 i (st1 i hi).1).2 hw).trans ((st1 i hi).2 hw)⟩) (fun H3 g=>⟨((z1*256+z2:Nat)%m),at_+2,fun h=>?_,by omega,by omega,?_,?_⟩)
   ·have:=Nat.mod_lt (z1*256+z2) (show 0<m by omega)
    omega
   ·show Value.int .i64 (IntKind.i64.wrap (IntKind.i64.wrap ((z1:Int)*256)+(z2:Int))%(m:Int))=_
    rw[e1]
    rfl
   ·obtain⟨sd,h⟩:=hsrc2
    exact⟨sd,(g.froz id (st2 id (st1 id hid).1).1).2.trans h⟩
  ·refine KW.rem U U U U U U (by omega) (by omega) ?_
   refine KW.retW U U U U (fun H3 g=>by have:=g.n_;omega) (fun i hi hw=>⟨(st1 i hi).1,(st1 i hi).2 hw⟩) (fun H3 g=>⟨z1%m,at_+1,fun h=>?_,by omega,by omega,?_,?_⟩)
   ·have:=Nat.mod_lt z1 (show 0<m by omega)
    omega
   ·rfl
   ·obtain⟨sd,h⟩:=hsrc1
    exact⟨sd,(g.froz id (st1 id hid).1).2.trans h⟩
theorem srcOne {bs:List Int} (hb:∀x∈bs,0≤x∧x<256) (hl:bs.length≤1048576) {ac:Option Addr} {cc id at_:Nat} {Y:Ids} {n:Int} (hn:n≤1000000) (hat:at_≤900000) (hS:S id) (hY:∀i,Y i→S i∧i≠id) (hsrc:Src ac bs.length cc H0 id at_) (hs:KB.Sl Y H0 (.slice ac bs.length cc) bs):
  SpecW Try.prog S H0 (fun i=>i=id) 75 [.pointer (some ⟨id,0,none⟩),.int .i64 n] (fun _ v H1=>∃(b:Bool) (at':Nat),at_≤at'∧at'≤at_+2∧v=.bool b∧Src ac bs.length cc H1 id at'):=by
 refine SpecW.of0 Try.func75 rfl (by kernel_rfl) rfl (fun H hfin hfz=>?_)
 have fx:∀i,S i→Low H.n i∧H.m i=H0.m i:=fun i hi=>hfz i hi
 have hid:id<H.n:=(fx id hS).1
 have hsrcH:Src ac bs.length cc H id at_:=by obtain⟨sd,h⟩:=hsrc;exact⟨sd,(fx id hS).2.trans h⟩
 have hsH:=hs.stX (S':=fun i=>Low H.n i∧i≠id) (H':=H) (fun i hi=>⟨⟨(fx i (hY i hi).1).1,(hY i hi).2⟩,(fx i (hY i hi).1).2⟩)
 refine KW.callW (W:=fun i=>i=id) (fun i hi=>by subst hi;exact hid) U U U U U (srcPick (S:=Low H.n) (H0:=H) hb hl hn hat hid (fun i hi=>hi) hsrcH hsH) (fun v H1 S1 hn1 st1 hw1 hp=>?_)
 obtain⟨z,at',_,h1,h2,rfl,sd,hm⟩:=hp
 refine KW.retW U U U U (fun H3 g=>by have:=g.n_;omega) (fun i hi hw=>⟨(st1 i hi).1,(st1 i hi).2 hw⟩) (fun H3 g=>⟨_,at',h1,h2,rfl,sd,(g.froz id (st1 id hid).1).2.trans hm⟩)
theorem built_Src (a:Option Addr) (n c:Nat):Try.prog.built 200 [(0,.slice a n c)]=some #[.slice a n c,.int .i64 0,.int .u64 0]:=by kernel_rfl
theorem srcFrom {a:Option Addr} {n c:Nat}:SpecM Try.prog S H0 60 [.slice a n c] (fun m v H1=>∃(o:Nat) (sp:Option Nat),v=.pointer (some ⟨o,0,sp⟩)∧New m H1.n o∧Src a n c H1 o 0):=by
 refine SpecM.of1 Try.func60 rfl (by kernel_rfl) rfl (fun H _=>?_)
 refine KW.build U U U U U (built_Src _ _ _) ?_
 refine KW.retM1 U U U U (fun H1 g=>?_)
 exact⟨_,_,rfl,⟨g.ge (H1:=H) (j:=0) rfl,(g.blk (j:=0) rfl).2⟩,_,(g.blk (j:=0) rfl).1⟩
end
end Go.Proofs.Ytlapbbffoapleaa.Am
namespace Go.Proofs.Ytlapbbffoapleaa.Am
open Go Go.RowKit Go.Proofs Go.Proofs.Ytlapbbffoapleaa.Pl
def heldV (ow vs g:List Int):List Int:=(rowsP (fun i=>decide (ow.getD i 0∈g)) ow.length).map fun i=>vs.getD i.toNat 0
section
variable {S:Ids} {H0:AH}
theorem a2At {bs:List Int} (hb:∀x∈bs,0≤x∧x<256) {a:Option Addr} {cc:Nat} {at_ n:Int} (hat:0≤at_) (hn:1≤n∧n≤1000000) (hs:KB.Sl S H0 (.slice a bs.length cc) bs):Spec Try.prog S H0 11 [.slice a bs.length cc,.int .i64 at_,.int .i64 n] (fun v=>∃r:Int,v=.int .i64 r∧0≤r∧r<n):=by
 refine Spec.of1 Try.func11 rfl (by kernel_rfl) rfl (fun H _=>?_)
 refine KW.tst U U (fun k1=>?_) (fun k1=>?_)
 ·refine KW.cT U U (by first | (simp;done) | decide) ?_
  exact KW.ret U U U U (⟨0,rfl,Int.le_refl _,by omega⟩)
 ·have k1:¬at_≥(bs.length:Int):=k1
  refine KW.no U U (by omega) ?_
  refine KW.getI hs.up U U U U U U U U U U U U U U U U (by omega) (by omega) (fun y hy=>?_)
  have hyb:=hb y (List.mem_of_getElem? hy)
  have ey:IntKind.i64.wrap y=y:=wr (by omega) (by omega)
  refine KW.rem U U U U U U (by rw[ey];omega) (by omega) ?_
  exact KW.ret U U U U (⟨_,rfl,by rw[ey];exact Int.emod_nonneg _ (by omega),by rw[ey];exact Int.emod_lt_of_pos _ (by omega)⟩)
theorem a2Has {xs:List Int} {w:Int} {a:Option Addr} {c:Nat} (hl:xs.length≤1048576) (hs:KI.Sl S H0 (.slice a xs.length c) xs):Spec Try.prog S H0 81 [.slice a xs.length c,.int .i64 w] (fun v=>v=.bool (decide (w∈xs))):=by
 refine Spec.of1 Try.func81 rfl (by kernel_rfl) rfl (fun H _=>?_)
 refine KW.lp U U (fun i:Nat=>[(0,.slice a xs.length c),(1,.int .i64 w),(5,.int .i64 i)]) (fun i=>i≤xs.length∧∀j,j<i→∀y,xs[j]?=some y→¬y=w) (fun i=>xs.length-i) (0) (⟨Nat.zero_le _,fun j hj=>absurd hj (Nat.not_lt_zero _)⟩) ⟨rfl,rfl,rfl,trivial⟩ (fun i hi bE n=>?_)
 obtain⟨i1,i2⟩:=hi
 refine KW.cnd U U (fun k1=>?_) (fun k1=>?_)
 ·have k1:(i:Int)<(xs.length:Int):=k1
  refine KW.getI hs.up U U U U U U U U U U U U U U U U (by omega) (k1) (fun y hy=>?_)
  have hy:xs[i]?=some y:=hy
  refine KW.cnd U U (fun k2=>?_) (fun k2=>?_)
  ·have k2:y=w:=k2
   exact KW.ret U U U U (by rw[decide_eq_true (show w∈xs from k2 ▸ List.mem_of_getElem? hy)];rfl)
  ·have k2:¬y=w:=k2
   refine KW.nxt U U (fun H' g=>⟨i+1,⟨by omega,upto i2 (fun z hz=>by rw[hy] at hz;cases hz;exact k2)⟩,by first | omega | (simp only;omega),⟨rfl,rfl,congrArg (Value.int .i64) (inc64 (by omega)),trivial⟩,g⟩)
 ·have k1:¬(i:Int)<(xs.length:Int):=k1
  exact KW.ret U U U U (by rw[decide_eq_false (show ¬w∈xs from fun hw=>(by obtain⟨j,hj⟩:=List.getElem?_of_mem hw;exact i2 j (by have:=(List.getElem?_eq_some_iff.1 hj).1;omega) w hj rfl))];rfl)
theorem a2Same {xs ys:List Int} {a b:Option Addr} {c d:Nat} (hl:xs.length≤1048576) (hs:KI.Sl S H0 (.slice a xs.length c) xs) (ht:KI.Sl S H0 (.slice b ys.length d) ys):Spec Try.prog S H0 29 [.slice a xs.length c,.slice b ys.length d] (fun v=>v=.bool (decide (xs=ys))):=by
 refine Spec.of1 Try.func29 rfl (by kernel_rfl) rfl (fun H _=>?_)
 refine KW.cndB U U (fun k0=>?_) (fun k0=>?_)
 ·have k0:¬xs.length=ys.length:=by simp at k0;omega
  exact KW.ret U U U U (by rw[decide_eq_false (show ¬xs=ys from fun e=>k0 (by rw[e]))];rfl)
 have k0:xs.length=ys.length:=by simp at k0;omega
 refine KW.lp U U (fun i:Nat=>[(0,.slice a xs.length c),(1,.slice b ys.length d),(5,.int .i64 i)]) (fun i=>i≤xs.length∧∀j,j<i→∀y,xs[j]?=some y→ys[j]?=some y) (fun i=>xs.length-i) (0) (⟨Nat.zero_le _,fun j hj=>absurd hj (Nat.not_lt_zero _)⟩) ⟨rfl,rfl,rfl,trivial⟩ (fun i hi bE n=>?_)
 obtain⟨i1,i2⟩:=hi
 refine KW.cnd U U (fun k1=>?_) (fun k1=>?_)
 ·have k1:(i:Int)<(xs.length:Int):=k1
  refine KW.getI hs.up U U U U U U U U U U U U U U U U (by omega) (k1) (fun y hy=>?_)
  have hy:xs[i]?=some y:=hy
  refine KW.getI ht.up U U U U U U U U U U U U U U U U (by omega) (by omega) (fun z hz=>?_)
  have hz:ys[i]?=some z:=hz
  refine KW.cndB U U (fun k2=>?_) (fun k2=>?_)
  ·have k2:¬y=z:=by simpa using k2
   exact KW.ret U U U U (by rw[decide_eq_false (show ¬xs=ys from fun e=>k2 (by rw[e,hz] at hy;cases hy;rfl))];rfl)
  ·have k2:y=z:=by simpa using k2
   refine KW.nxt U U (fun H' g=>⟨i+1,⟨by omega,upto i2 (fun w hw=>by rw[hy] at hw;cases hw;rw[k2];exact hz)⟩,by first | omega | (simp only;omega),⟨rfl,rfl,congrArg (Value.int .i64) (inc64 (by omega)),trivial⟩,g⟩)
 ·have k1:¬(i:Int)<(xs.length:Int):=k1
  have hxy:xs=ys:=List.ext_getElem? fun j=>by
   rcases Nat.lt_or_ge j xs.length with h | h
   ·rw[List.getElem?_eq_getElem h];exact(i2 j (by omega) _ (List.getElem?_eq_getElem h)).symm
   ·rw[List.getElem?_eq_none h,List.getElem?_eq_none (by omega)]
  exact KW.ret U U U U (by rw[decide_eq_true hxy];rfl)
end
noncomputable def opensF (x:T_Scheme) (g:List Int):Bool:=(comb x.2.2.1 (heldR x.2.1 x.2.2.2.2 (bitsOf g)) (unitL x.2.2.2.1.toNat)).isSome
theorem shares_at {p:Int} {rows:List (List Int)} {all:List Int} {i:Nat} (h:i<rows.length):(shares p rows all).getD i 0=dotS p (rows.getD i []) all:=by
 unfold shares
 rw[List.getD_eq_getElem?_getD,List.getD_eq_getElem?_getD,List.getElem?_map,List.getElem?_eq_getElem h]
 rfl
theorem codeH_of {x:T_Scheme} {g held:List Int} (hk:SchOk x) (hg:Rises 0 (x.1-1) g) (hl:held.length=(rowsG x.2.1 g).length) (he:Elems x.2.2.1 held):codeH x g held=0:=by
 have hs:codeS x g=0:=by unfold codeS;rw[if_pos (tv_true hk),if_pos (tv_true hg)]
 unfold codeH
 rw[if_pos hs,if_pos (tv_true ⟨hl,he⟩)]
section
variable {x:T_Deal} {c:Cer}
end
section
variable {S:Ids} {H0:AH}
theorem opensS {x:T_Scheme} {b:Nat} (hb:b<256) (hk:SchOk x) (hB:B_Scheme x) {a1 c1 a2 c2} (h1:KI.Sl S H0 (.slice a1 x.2.1.length c1) x.2.1) (h2:KI.sl.Sl S H0 (.slice a2 x.2.2.2.2.length c2) x.2.2.2.2):
  Spec Try.prog S H0 82 [.agg #[.int .i64 x.1,.slice a1 x.2.1.length c1,.int .i64 x.2.2.1,.int .i64 x.2.2.2.1,.slice a2 x.2.2.2.2.length c2],.int .u64 (b:Int)] (fun v=>v=.bool (comb x.2.2.1 (heldR x.2.1 x.2.2.2.2 b) (unitL x.2.2.2.1.toNat)).isSome):=by
 obtain⟨h',ow,p,c,rows⟩:=x
 refine Spec.of1 Try.func82 rfl (by kernel_rfl) rfl (fun H _=>?_)
 have s1:KI.Sl (Low H.n) H (.slice a1 ow.length c1) ow:=h1.up
 have s2:KI.sl.Sl (Low H.n) H (.slice a2 rows.length c2) rows:=h2.up
 have hk:OkSch h' ow p c rows:=hk
 obtain⟨k,rfl⟩:∃k:Nat,c=((k+1:Nat):Int):=⟨c.toNat-1,by have:=hk.c1;omega⟩
 have hpr:=hk.mat.pr
 have hp2:=hpr.1
 have hk12:=hk.mat.c1
 have hO:B_Int64S ow:=hB.2.1
 have hBr:B_Int64SS rows:=hB.2.2.2.2
 refine KW.callN1 U U U U U (Am.held h' p ((k+1:Nat):Int) b (by omega) hO hBr hk s1 s2) (fun v HM SM mM _ _ hv=>?_)
 obtain⟨am,cm,rfl,hM⟩:=hv
 have hM:=hM.up (S':=SM) (H':=HM)
 have hLr:Rect p (k+1) (heldR ow rows b):=held_rect hk rfl
 have hLl:(heldR ow rows b).length≤20:=held_len hk
 show KW _ _ _ _ _ _ _ _
 obtain⟨L,eL⟩:∃L,heldR ow rows b=L:=⟨_,rfl⟩
 rw[eL] at hM hLr hLl ⊢
 have hui:=unitL_in (p:=p) hp2 (show 1≤k+1 by omega)
 refine KW.callN1 U U U U U (unit (k+1) (by omega) (by omega)) (fun v HU SU mU _ _ hv=>?_)
 obtain⟨au,cu,rfl,hU⟩:=hv
 have hM2:=hM.up (S':=SU) (H':=HU)
 refine KW.callN1 U U U U U (combination hpr (by omega) (by omega) (by omega) hLr hui hM2 hU.ups) (fun v HC SC mC _ _ hv=>?_)
 cases hcb:comb p L (unitL (k+1)) with
 | none=>
  rw[hcb] at hv
  obtain rfl:=hv
  refine KW.retM1 U U U U (fun H1 g=>by show Value.bool false=Value.bool (comb p L (unitL ((k+1:Nat):Int).toNat)).isSome;rw[Int.toNat_natCast,hcb];rfl)
 | some cs=>
  rw[hcb] at hv
  obtain⟨ac,cc,rfl,hC⟩:=hv
  refine KW.retM1 U U U U (fun H1 g=>by show Value.bool true=Value.bool (comb p L (unitL ((k+1:Nat):Int).toNat)).isSome;rw[Int.toNat_natCast,hcb];rfl)
theorem schemeOpens {x:T_Scheme} {g:List Int} (hk:SchOk x) (hg:Rises 0 (x.1-1) g) (hB:B_Scheme x) (hG:B_Int64S g) {a1 c1 a2 c2 a3 c3} (h1:KI.Sl S H0 (.slice a1 x.2.1.length c1) x.2.1) (h2:KI.sl.Sl S H0 (.slice a2 x.2.2.2.2.length c2) x.2.2.2.2) (h3:KI.Sl S H0 (.slice a3 g.length c3) g):
  Spec Try.prog S H0 24 [.agg #[.int .i64 x.1,.slice a1 x.2.1.length c1,.int .i64 x.2.2.1,.int .i64 x.2.2.2.1,.slice a2 x.2.2.2.2.length c2],.slice a3 g.length c3] (fun v=>v=.tuple #[.bool (opensF x g),.int .i64 0]):=by
 refine Spec.of1 Try.func24 rfl (by kernel_rfl) rfl (fun H _=>?_)
 have hk':OkSch x.1 x.2.1 x.2.2.1 x.2.2.2.1 x.2.2.2.2:=hk
 have hs:codeS x g=0:=by unfold codeS;rw[if_pos (tv_true hk),if_pos (tv_true hg)]
 have hG':g.length≤1048576:=hG
 refine KW.callE U U U U U (schemeCode x g hB hG h1.up h2.up h3.up) (fun _ _=>?_)
 refine KW.cF U U (by simp[hs]) ?_
 obtain⟨q,hq⟩:∃q:Nat,x.1=q:=⟨x.1.toNat,by have:=hk'.h1;omega⟩
 have hq7:=hk'.h7
 rw[hq] at hg
 have hgs:=rises_small hg
 have hbt:bitsOf g<256:=Nat.lt_of_lt_of_le (bitsOf_lt (m:=q) (fun x hx=>by have:=hgs x hx;omega)) (Nat.pow_le_pow_right (by decide) (show q≤8 by omega))
 refine KW.callE U U U U U (crowdOf (m:=q) (by omega) (by omega) hgs h3.up) (fun _ _=>?_)
 refine KW.callE U U U U U (opensS hbt hk hB h1.up h2.up) (fun _ _=>?_)
 refine KW.retM1 U U U U (fun H1 g=>by rfl)
end
def blR (L:List (List Int)):List (List Int):=L.map (List.drop 1)
def restL (p:Int) (L:List (List Int)) (held:List Int) (s:Int):List Int:=List.zipWith (fun r v=>(v+(p-s)*r.getD 0 0)%p) L held
theorem restL_len {p s:Int} {L:List (List Int)} {held:List Int} (h:held.length=L.length):(restL p L held s).length=L.length:=by simp[restL,h]
theorem restL_at {p s:Int} {L:List (List Int)} {held:List Int} {i:Nat} {r:List Int} {v:Int} (h:L[i]?=some r) (h':held[i]?=some v):(restL p L held s)[i]?=some ((v+(p-s)*r.getD 0 0)%p):=by simp[restL,List.getElem?_zipWith,h,h']
theorem restL_in {p s:Int} {L:List (List Int)} {held:List Int} (hp:0<p):∀v∈restL p L held s,0≤v∧v<p:=fun v hv=>by
  obtain⟨i,hi⟩:=List.getElem?_of_mem hv
  simp only[restL,List.getElem?_zipWith] at hi
  split at hi
  · simp only[Option.some.injEq] at hi
    subst hi
    exact⟨Int.emod_nonneg _ (by omega),Int.emod_lt_of_pos _ hp⟩
  · cases hi
theorem blR_rect {p:Int} {k:Nat} {L:List (List Int)} (h:Rect p (k+1) L):Rect p k (blR L):=fun r hr=>by
  obtain⟨w,hw,rfl⟩:=List.mem_map.1 hr
  have h1:=h w hw
  exact⟨by rw[List.length_drop];omega,fun x hx=>h1.2 x (List.mem_of_mem_drop hx)⟩
theorem blR_len {L:List (List Int)}:(blR L).length=L.length:=by simp[blR]
def csAt (p:Int) (k:Nat) (L:List (List Int)) (held:List Int) (s:Nat):Int:=if decide (k∉(ech p (augW (blR L) (restL p L held s)) (k+1)).2)=true then tmN p (k-(ech p (blR L) k).2.length) else 0
def csL (p:Int) (k:Nat) (L:List (List Int)) (held:List Int) (n:Nat):List Int:=(List.range n).map (csAt p k L held)
theorem csL_len {p:Int} {k n:Nat} {L:List (List Int)} {held:List Int}:(csL p k L held n).length=n:=by simp[csL]
theorem csL_next {p:Int} {k n:Nat} {L:List (List Int)} {held:List Int}:csL p k L held (n+1)=csL p k L held n++[csAt p k L held n]:=by simp[csL,List.range_succ]
noncomputable def r1_CasesBySecret (x:T_Scheme) (g held:List Int):Int:=if codeH x g held=0 then(if 20000<x.2.2.1 ^ x.2.2.2.1.toNat then 3 else 0) else codeH x g held
noncomputable def r0_CasesBySecret (x:T_Scheme) (g held:List Int):List Int:=if r1_CasesBySecret x g held=0 then csL x.2.2.1 (x.2.2.2.1.toNat-1) (heldR x.2.1 x.2.2.2.2 (bitsOf g)) held x.2.2.1.toNat else []
theorem Wr.all {xs ys:List Int} {n:Nat} {cs:List Value} (h:Wr xs ys n n cs) (hl:ys.length=n):cs=ys.map (Value.int .i64):=by
  refine List.ext_getElem? fun i=>?_
  rcases Nat.lt_or_ge i n with hi | hi
  · rw[List.getElem?_map,List.getElem?_eq_getElem (show i<ys.length by omega),h.done i _ hi (List.getElem?_eq_getElem (by omega))]
    rfl
  · rw[List.getElem?_eq_none (by rw[h.len];omega),List.getElem?_eq_none (by rw[List.length_map];omega)]
theorem Good.rowsV {S0:Ids} {H0 H1:AH} {T:List Var} {n j o:Nat} {ty:TypeId} {cs:List Value} {xs:List (List Int)} (g:Good S0 H0 T n H1) (hT:T[j]?=some (o,⟨ty,true,cs⟩)) (hl:cs.length=xs.length) (h:∀(i:Nat) x,xs[i]?=some x→∃v,cs[i]?=some v∧KI.Sl (Low H1.n) H1 v x):KI.sl.Sl (Low H1.n) H1 (.slice (some ⟨o,0,some 1⟩) xs.length xs.length) xs:=
  .inr ⟨o,0,xs.length,_,rfl,Nat.le_refl _,(g.blk hT).2,(g.blk hT).1,by show 0+xs.length*1≤cs.length;omega,fun i x hx=>by
    obtain⟨v,h1,h2⟩:=h i x hx
    have e:((cs.drop (0+i*1)).take 1)=[v]:=by rw[Nat.zero_add,Nat.mul_one,List.take_one,List.head?_drop,h1];rfl
    show KI.sl.R (Low H1.n) H1 x ((cs.drop (0+i*1)).take 1)
    rw[e]
    exact sl1' h2⟩
structure BlS where
  i:Nat
  l:Value
  tail:List Var
  cs:List Value
structure BlI (L:List (List Int)) (S:Ids) (A:AH) (s:BlS):Prop where
  le:s.i≤L.length
  len:s.cs.length=s.i
  row:∀(j:Nat) r,j<s.i→L[j]?=some r→∃v,s.cs[j]?=some v∧KI.Sl S A v (r.drop 1)
  form:(s.i=0∧s.l=.slice none 0 0∧s.tail=[])∨(0<s.i∧∃o,s.l=.slice (some ⟨o,0,some 1⟩) s.i s.i∧s.tail=[(o,⟨36,true,s.cs⟩)])
section
variable {S:Ids} {H0:AH}
theorem impl_CasesBySecret {x:T_Scheme} {g held:List Int} {cs:List Value} {a3 c3 a4 c4} (hB:B_Scheme x) (hG:B_Int64S g) (hH:B_Int64S held) (h:K_Scheme.R S H0 x cs) (kg:K_Int64S.R S H0 g [.slice a3 g.length c3]) (kh:K_Int64S.R S H0 held [.slice a4 held.length c4]):
    SpecM Try.prog S H0 27 [.agg cs.toArray,.slice a3 g.length c3,.slice a4 held.length c4] (MkLC (r0_CasesBySecret x g held) (r1_CasesBySecret x g held)):=by
  obtain⟨a1,c1,a2,c2,rfl,s1,s2⟩:=split2_Scheme h
  have s3:=sl1 kg
  have s4:=sl1 kh
  obtain⟨h',ow,p,c,rows⟩:=x
  simp only at s1 s2 ⊢
  have hO:B_Int64S ow:=hB.2.1
  have hBr:B_Int64SS rows:=hB.2.2.2.2
  have hG':g.length≤1048576:=hG
  have hH':held.length≤1048576:=hH
  refine SpecM.of1 Try.func27 rfl (by kernel_rfl) rfl (fun H _=>?_)
  refine KW.callE U U U U U (Am.heldCode (h',ow,p,c,rows) g held hB hG hH s1.up s2.up s3.up s4.up) (fun n8 m8=>?_)
  by_cases hc:codeH (h',ow,p,c,rows) g held=0
  · obtain⟨hk,hg,hhl,hhe⟩:=codeH_ok hc
    have hk:OkSch h' ow p c rows:=hk
    simp only at hg hhl hhe
    refine KW.cF U U (by simp[hc]) ?_
    obtain⟨q,hq⟩:∃q:Nat,h'=q:=⟨h'.toNat,by have:=hk.h1;omega⟩
    have hq7:=hk.h7
    rw[hq] at hg
    have hgs:=rises_small hg
    have hbt:bitsOf g<256:=Nat.lt_of_lt_of_le (bitsOf_lt (m:=q) (fun x hx=>by have:=hgs x hx;omega)) (Nat.pow_le_pow_right (by decide) (show q≤8 by omega))
    obtain⟨k,rfl⟩:∃k:Nat,c=((k+1:Nat):Int):=⟨c.toNat-1,by have:=hk.c1;omega⟩
    have hpr:=hk.mat.pr
    have hp2:=hpr.1
    have hp31:=hpr.2.1
    have hk12:=hk.mat.c1
    refine KW.callE U U U U U (crowdOf (m:=q) (by omega) (by omega) hgs s3.up) (fun _ _=>?_)
    refine KW.callN1 U U U U U (Am.held h' p ((k+1:Nat):Int) (bitsOf g) (by omega) hO hBr hk s1.up s2.up) (fun v HM SM mM _ _ hv=>?_)
    obtain⟨am,cm,rfl,hM⟩:=hv
    have hM:=hM.up (S':=SM) (H':=HM)
    have hLr:Rect p (k+1) (heldR ow rows (bitsOf g)):=held_rect hk rfl
    have hLl:(heldR ow rows (bitsOf g)).length≤20:=held_len hk
    have hhL:held.length=(heldR ow rows (bitsOf g)).length:=by rw[hhl];unfold heldR rowsG;rw[selR_len]
    refine KW.callE U U U U U (times p (k+1) ⟨hp2,hp31⟩ (by omega)) (fun n9 m9=>?_)
    by_cases hbig:20000<p ^ (k+1)
    · have e1:r1_CasesBySecret (h',ow,p,((k+1:Nat):Int),rows) g held=3:=by
        unfold r1_CasesBySecret
        rw[if_pos hc]
        simp only[Int.toNat_natCast]
        rw[if_pos hbig]
      have e0:r0_CasesBySecret (h',ow,p,((k+1:Nat):Int),rows) g held=[]:=by unfold r0_CasesBySecret;rw[e1];rfl
      rw[e0,e1]
      have:=tmN_gt ⟨hp2,hp31⟩ (k+1) hbig
      refine KW.yes U U (by omega) ?_
      refine KW.retM1 U U U U (fun H1 g=>MkLC.nil rfl)
    · have e1:r1_CasesBySecret (h',ow,p,((k+1:Nat):Int),rows) g held=0:=by
        unfold r1_CasesBySecret
        rw[if_pos hc]
        simp only[Int.toNat_natCast]
        rw[if_neg hbig]
      have e0:r0_CasesBySecret (h',ow,p,((k+1:Nat):Int),rows) g held=csL p k (heldR ow rows (bitsOf g)) held p.toNat:=by
        unfold r0_CasesBySecret
        rw[if_pos e1]
        simp only[Int.toNat_natCast,Nat.add_sub_cancel]
      rw[e0,e1]
      have htm:=tmN_le ⟨hp2,hp31⟩ (k+1) (by omega)
      generalize hLd:heldR ow rows (bitsOf g)=L at *
      refine KW.no U U (by omega) ?_
      have ek:IntKind.i64.wrap (((k+1:Nat):Int)-1)=(k:Int):=by rw[wr (by omega) (by omega)];omega
      refine KW.build U U U U U (built_MatrixW _ ek) ?_
      refine KW.lpM U U (fun s:BlS=>[(2,.slice a4 held.length c4),(9,.pointer (some ⟨HM.n,0,some 1⟩)),(10,.pointer (some ⟨n9,0,some 2⟩)),(45,.slice am L.length cm),(46,.int .i64 L.length),(47,.int .i64 s.i)]) (fun s=>SM) (fun s=>HM) (fun s=>[(H.n,⟨38,true,[.int .i64 h',.slice a1 ow.length c1,.int .i64 p,.int .i64 (k+1:Nat),.slice a2 rows.length c2]⟩),(HM.n,⟨26,true,[.int .i64 p,.int .i64 (k+1:Nat),.slice am L.length cm]⟩),(n9,⟨26,true,[.int .i64 p,.int .i64 k,s.l]⟩)]++s.tail) (fun s=>BlI L SM HM s) (fun s=>L.length-s.i) (⟨0,.slice none 0 0,[],[]⟩) (⟨by simp,rfl,fun j r hj=>absurd hj (Nat.not_lt_zero _),.inl ⟨rfl,rfl,rfl⟩⟩) ⟨rfl,rfl,rfl,rfl,rfl,rfl,trivial⟩ U U (rfl) (fun s hi bE n=>?_)
      obtain⟨i,l,tail,cs⟩:=s
      obtain⟨hle,hlen,hrow,hform⟩:=hi
      simp only at hle hlen hrow hform
      rcases hform with⟨hi0,e2,e3⟩ | ⟨hi0,o,e2,e3⟩
      case' inl=>subst e2 e3
      case' inr=>subst e2 e3
      all_goals
        refine KW.cnd U U (fun j1=>?_) (fun j1=>?_)
        · have j1:(i:Int)<(L.length:Int):=j1
          refine KW.getL hM U U U U U U U U U U U U U U U U (by omega) (j1) (fun y ay cy hy hsy=>?_)
          have hy:L[i]?=some y:=hy
          have hym:=hLr y (List.mem_of_getElem? hy)
          refine KW.slFrom (m:=1) hsy (by omega) (by omega) U U U U U U U U U (fun a' c' hs'=>?_)
          have hnext:∀(j:Nat) r,j<i+1→L[j]?=some r→∃v,(cs++[.slice a' (y.drop 1).length c'])[j]?=some v∧KI.Sl SM HM v (r.drop 1):=fun j r hj hr=>by
            rcases Nat.lt_or_ge j i with h | h
            · obtain⟨v,h1,h2⟩:=hrow j r h hr
              exact⟨v,by rw[List.getElem?_append_left (by omega)];exact h1,h2⟩
            · obtain rfl:j=i:=by omega
              rw[hy] at hr
              cases hr
              exact⟨_,by rw[← hlen];simp,hs'⟩
          first
            | (refine KW.app1 (xs:=cs) (v:=.slice a' (y.drop 1).length c') 3 4 U U U U U U U U U U U U U U U U U U U U U U U (by omega) (by show(_+1)*24≤_;omega) (by omega) ?_
               exact KW.nxt U U (fun H' g=>⟨⟨i+1,_,_,_⟩,⟨by simp only;omega,by simp[hlen],hnext,.inr ⟨by simp only;omega,_,rfl,rfl⟩⟩,by simp only;omega,⟨rfl,rfl,rfl,rfl,rfl,congrArg (Value.int .i64) (inc64 (by omega)),trivial⟩,g⟩))
            | (refine KW.app0 (v:=.slice a' (y.drop 1).length c') 3 U U U U U U U U U U U U U U U U U U U U U U (by decide) ?_
               subst hi0
               have hcs0:cs=[]:=List.eq_nil_of_length_eq_zero hlen
               subst hcs0
               exact KW.nxt U U (fun H' g=>⟨⟨1,_,_,[_]⟩,⟨by simp only;omega,rfl,hnext,.inr ⟨by simp only;omega,_,rfl,rfl⟩⟩,by simp only;omega,⟨rfl,rfl,rfl,rfl,rfl,rfl,trivial⟩,g⟩))
      · have j1:¬(i:Int)<(L.length:Int):=j1
        have hBR:=blR_rect hLr
        have hBl:(blR L).length=L.length:=blR_len
        have hBB:B_Int64SS (blR L):=rect_sml hBR (by omega) (by omega)
        have hei:i=(blR L).length:=by omega
        have hrowB:∀(j:Nat) r,(blR L)[j]?=some r→∃v,cs[j]?=some v∧KI.Sl SM HM v r:=fun j r hr=>by
          simp only[blR,List.getElem?_map,Option.map_eq_some_iff] at hr
          obtain⟨w,hw,rfl⟩:=hr
          exact hrow j w (by have:=(List.getElem?_eq_some_iff.1 hw).1;omega) hw
        have hrkle:=ech_piv p (blR L) k
        have hrk:IntKind.i64.wrap ((k:Int)-rkM p k (blR L))=((k-(ech p (blR L) k).2.length:Nat):Int):=by
          have:rkM p k (blR L)=((ech p (blR L) k).2.length:Nat):=rfl
          rw[this,wr (by omega) (by omega)]
          omega
        have hpn:((p.toNat:Nat):Int)=p:=by omega
        subst hei
        refine KW.callNV1 U U U U U (fun H1 g t=>rankM (S:=Low H1.n) (H0:=H1) (k:=k) ⟨hp2,hp31⟩ (by omega) hBB hBR (g.rowsV (j:=3) rfl hlen (fun j r hr=>by obtain⟨v,h1,h2⟩:=hrowB j r hr;exact⟨v,h1,(haveI:=t;h2.up)⟩))) (fun v HR SR mR _ _ hv=>?_)
        subst hv
        refine KW.callE U U U U U ((by show Spec _ _ _ _ [.int .i64 p,.int .i64 (IntKind.i64.wrap _),.int .i64 20000] _;rw[hrk];exact times p (k-_) ⟨hp2,hp31⟩ (by omega))) (fun n7 m7=>?_)
        have hMR:=hM.up (S':=SR) (H':=HR)
        have hRB:∀(j:Nat) r,(blR L)[j]?=some r→∃v,cs[j]?=some v∧KI.Sl SR HR v r:=fun j r hr=>by obtain⟨v,h1,h2⟩:=hrowB j r hr;exact⟨v,h1,h2.up⟩
        have hheld:=s4.up (S':=SR) (H':=HR)
        refine KW.lit U U U U U U U U U U [] U U (fun v hv=>by simp at hv) rfl ?_
        refine KW.lpM U U (fun s:Nat × Nat=>[(2,.slice a4 held.length c4),(9,.pointer (some ⟨HM.n,0,some 1⟩)),(10,.pointer (some ⟨n9,0,some 2⟩)),(13,.int .i64 (tmN p (k-(ech p (blR L) k).2.length))),(14,.slice (some ⟨s.2,0,some 1⟩) (csL p k L held s.1).length (csL p k L held s.1).length),(69,.int .i64 p),(70,.int .i64 s.1)]) (fun _=>SR) (fun _=>HR) (fun s=>[(H.n,⟨38,true,[.int .i64 h',.slice a1 ow.length c1,.int .i64 p,.int .i64 (k+1:Nat),.slice a2 rows.length c2]⟩),(HM.n,⟨26,true,[.int .i64 p,.int .i64 (k+1:Nat),.slice am L.length cm]⟩),(n9,⟨26,true,[.int .i64 p,.int .i64 k,.slice (some ⟨o,0,some 1⟩) (blR L).length (blR L).length]⟩),(o,⟨36,true,cs⟩),(s.2,⟨_,true,(csL p k L held s.1).map (Value.int .i64)⟩)]) (fun s=>s.1≤p.toNat) (fun s=>p.toNat-s.1) (0,_) (by simp) ⟨rfl,rfl,rfl,rfl,rfl,rfl,rfl,trivial⟩ U U U (fun s hi bE n=>?_)
        obtain⟨sc,oo⟩:=s
        simp only at hi
        have hol:(csL p k L held sc).length=sc:=csL_len
        have onx:=csL_next (p:=p) (k:=k) (n:=sc) (L:=L) (held:=held)
        refine KW.cnd U U (fun j3=>?_) (fun j3=>?_)
        · have j3:(sc:Int)<p:=j3
          refine KW.ids (fun hlow hvar=>?_)
          refine KW.callN1 U U U U U (cloneB hH' hheld) (fun v HC SC mC _ _ hv=>?_)
          obtain hv:=hv
          have t1:=(inferInstance:Stp SR HR SC HC).st
          rcases hv with⟨hy0,rfl⟩ | ⟨o3,rfl,hno3,hmo3⟩
          · subst hy0
            exfalso
            simp at hhL
            omega
          · have hSo3:SC o3:=(inferInstance:On (New _ HC.n) HC SC HC).st o3 hno3 |>.1
            refine KW.thaw o3 _ hSo3 hmo3 ?_
            have t2:St SR HR (fun id=>SC id∧id≠o3) HC:=fun id h=>⟨⟨(t1 id h).1,fun e=>by have:=hlow id h;have:=hno3.1;omega⟩,(t1 id h).2⟩
            haveI t2i:On SR HR (fun id=>SC id∧id≠o3) HC:=⟨t2⟩
            have hM2:=hMR.up (S':=(fun id=>SC id∧id≠o3)) (H':=HC)
            refine KW.lpM U U (fun u:Nat × List Value=>[(2,.slice a4 held.length c4),(9,.pointer (some ⟨HM.n,0,some 1⟩)),(10,.pointer (some ⟨n9,0,some 2⟩)),(13,.int .i64 (tmN p (k-(ech p (blR L) k).2.length))),(14,.slice (some ⟨oo,0,some 1⟩) (csL p k L held sc).length (csL p k L held sc).length),(15,.int .i64 sc),(16,.slice (some ⟨o3,0,some 1⟩) held.length held.length),(69,.int .i64 p),(70,.int .i64 sc),(76,.slice am L.length cm),(77,.int .i64 L.length),(78,.int .i64 u.1)]) (fun _=>(fun id=>SC id∧id≠o3)) (fun _=>HC) (fun u=>[(H.n,⟨38,true,[.int .i64 h',.slice a1 ow.length c1,.int .i64 p,.int .i64 (k+1:Nat),.slice a2 rows.length c2]⟩),(HM.n,⟨26,true,[.int .i64 p,.int .i64 (k+1:Nat),.slice am L.length cm]⟩),(n9,⟨26,true,[.int .i64 p,.int .i64 k,.slice (some ⟨o,0,some 1⟩) (blR L).length (blR L).length]⟩),(o,⟨36,true,cs⟩),(oo,⟨_,true,(csL p k L held sc).map (Value.int .i64)⟩),(o3,⟨2,true,u.2⟩)]) (fun u=>u.1≤L.length∧Wr held (restL p L held sc) held.length u.1 u.2) (fun u=>L.length-u.1) (0,held.map (Value.int .i64)) ⟨by omega,by simp,fun j y hj=>absurd hj (Nat.not_lt_zero _),fun j x _ hx=>by rw[List.getElem?_map,hx];rfl⟩ ⟨rfl,rfl,rfl,rfl,rfl,rfl,rfl,rfl,rfl,rfl,rfl,rfl,trivial⟩ U U U (fun u hu bE n=>?_)
            obtain⟨i3,cc⟩:=u
            obtain⟨hi3,hw3⟩:=hu
            simp only at hi3 hw3
            have hcl:=hw3.len
            refine KW.cnd U U (fun j4=>?_) (fun j4=>?_)
            · have j4:(i3:Int)<(L.length:Int):=j4
              refine KW.getL hM2 U U U U U U U U U U U U U U U U (by omega) (j4) (fun y ay cy hy hsy=>?_)
              have hy:L[i3]?=some y:=hy
              have hym:=hLr y (List.mem_of_getElem? hy)
              obtain⟨w,hw⟩:∃w,held[i3]?=some w:=⟨held[i3]'(by omega),List.getElem?_eq_getElem (by omega)⟩
              have hwb:=hhe w (List.mem_of_getElem? hw)
              refine KW.idx0 U U U U U U U U U (by omega) (by omega) ?_
              refine KW.ldT 5 U U U U U U (bload_at (by rw[Nat.zero_add,Nat.mul_one];exact hw3.rest i3 w (Nat.le_refl _) hw) U U) ?_
              refine KW.getI hsy U U U U U U U U U U U U U U U U (by omega) (by omega) (fun z hz=>?_)
              have hz:y[0]?=some z:=hz
              have hzd:y.getD 0 0=z:=getD_of hz
              have hzb:=hym.2 z (List.mem_of_getElem? hz)
              have hm:=mul_in (x:=p-sc) (y:=z) (by omega) (by omega)
              have ev1:IntKind.i64.wrap (w+IntKind.i64.wrap (IntKind.i64.wrap (p-sc)*z))=w+(p-sc)*z:=by rw[wr (x:=p-sc) (by omega) (by omega),wr (x:=(p-sc)*z) (by omega) (by omega),wr (by omega) (by omega)]
              refine KW.rem U U U U U U (by rw[ev1];omega) (by omega) ?_
              refine KW.idx0 U U U U U U U U U (by omega) (by omega) ?_
              refine KW.st1 5 U U U U U U U U U U U U (by simp only;omega) ?_
              exact KW.nxt U U (fun H' g=>⟨(i3+1,_),⟨by simp only;omega,hw3.next (by omega) (restL_at hy hw) (by rw[ev1,hzd];rfl)⟩,by simp only;omega,⟨rfl,rfl,rfl,rfl,rfl,rfl,rfl,rfl,rfl,rfl,rfl,congrArg (Value.int .i64) (inc64 (by omega)),trivial⟩,g⟩)
            · have hi4:i3=held.length:=by have j4:¬(i3:Int)<(L.length:Int):=j4;omega
              subst hi4
              have hrl:=restL_len (p:=p) (s:=sc) hhL
              have hcc:=hw3.all (by omega)
              subst hcc
              have hri:=restL_in (p:=p) (s:=sc) (L:=L) (held:=held) (by omega)
              have hrh:held.length=(restL p L held sc).length:=by omega
              refine KW.callNV1 U U U U U (fun H1 g t=>by
                have hrs:=g.ints (j:=5) (xs:=restL p L held sc) (c:=held.length) U U (by omega)
                rw[← hrh] at hrs
                have hbs:=g.rowsV (j:=3) rfl hlen (fun j r hr=>by obtain⟨v,h1,h2⟩:=hRB j r hr;exact⟨v,h1,(haveI:=t;h2.up)⟩)
                have hsol:=solve (S:=Low H1.n) (H0:=H1) (k:=k) (vals:=restL p L held sc) (a2:=some ⟨o3,0,some 1⟩) (c2:=held.length) hpr (by omega) (by omega) hBR (by omega) hri hbs (by rw[← hrh];exact hrs)
                rw[← hrh] at hsol
                exact hsol) (fun v HS SS mS _ _ hv=>?_)
              obtain⟨a9,ns,cs2,rfl⟩:=hv
              have hat:csAt p k L held sc=if decide (k∉(ech p (augW (blR L) (restL p L held sc)) (k+1)).2)=true then tmN p (k-(ech p (blR L) k).2.length) else 0:=rfl
              refine KW.cndB U U (fun b=>?_) (fun b=>?_)
              · have hvv:csAt p k L held sc=tmN p (k-(ech p (blR L) k).2.length):=hat.trans (if_pos b)
                refine KW.take 5 ?_
                refine KW.app1 (xs:=(csL p k L held sc).map (Value.int .i64)) (v:=.int .i64 (tmN p (k-(ech p (blR L) k).2.length))) 4 5 U U U U U U U U U U U U U U U U U U U U U U U (by simp) (by show(_+1)*8≤_;first | omega | (simp only;omega)) (by first | omega | (simp only;omega)) ?_
                exact KW.nxt U U (fun H' g=>⟨(sc+1,_),by first | omega | (simp only;omega),by first | omega | (simp only;omega),⟨rfl,rfl,rfl,rfl,by simp only[onx,List.length_append,List.length_singleton];rfl,rfl,congrArg (Value.int .i64) (inc64 (by omega)),trivial⟩,(g.weak (fun id hid=>⟨((inferInstance:Stp _ _ SS HS).st id (t2i.st id hid).1).1,by rw[((inferInstance:Stp _ _ SS HS).st id (t2i.st id hid).1).2,(t2i.st id hid).2]⟩)).eqT (by simp only[onx,hvv,List.map_append];rfl)⟩)
              · have hvv:csAt p k L held sc=0:=hat.trans (if_neg (fun h=>Bool.noConfusion (h.symm.trans b)))
                refine KW.take 5 ?_
                refine KW.app1 (xs:=(csL p k L held sc).map (Value.int .i64)) (v:=.int .i64 0) 4 5 U U U U U U U U U U U U U U U U U U U U U U U (by simp) (by show(_+1)*8≤_;first | omega | (simp only;omega)) (by first | omega | (simp only;omega)) ?_
                exact KW.nxt U U (fun H' g=>⟨(sc+1,_),by first | omega | (simp only;omega),by first | omega | (simp only;omega),⟨rfl,rfl,rfl,rfl,by simp only[onx,List.length_append,List.length_singleton];rfl,rfl,congrArg (Value.int .i64) (inc64 (by omega)),trivial⟩,(g.weak (fun id hid=>⟨((inferInstance:Stp _ _ SS HS).st id (t2i.st id hid).1).1,by rw[((inferInstance:Stp _ _ SS HS).st id (t2i.st id hid).1).2,(t2i.st id hid).2]⟩)).eqT (by simp only[onx,hvv,List.map_append];rfl)⟩)
        · have hsn:sc=p.toNat:=by have j3:¬(sc:Int)<p:=j3;omega
          subst hsn
          refine KW.retM1 U U U U (fun H1 g=>⟨_,_,rfl,ml1' (int_ml ⟨g.ge (H1:=H) (j:=4) rfl,(g.blk (j:=4) rfl).2⟩ (g.blk (j:=4) rfl).1 U U (Nat.le_refl _))⟩)
      · have j1:¬(i:Int)<(L.length:Int):=j1
        have hBR:=blR_rect hLr
        have hBl:(blR L).length=L.length:=blR_len
        have hBB:B_Int64SS (blR L):=rect_sml hBR (by omega) (by omega)
        have hei:i=(blR L).length:=by omega
        have hrowB:∀(j:Nat) r,(blR L)[j]?=some r→∃v,cs[j]?=some v∧KI.Sl SM HM v r:=fun j r hr=>by
          simp only[blR,List.getElem?_map,Option.map_eq_some_iff] at hr
          obtain⟨w,hw,rfl⟩:=hr
          exact hrow j w (by have:=(List.getElem?_eq_some_iff.1 hw).1;omega) hw
        have hrkle:=ech_piv p (blR L) k
        have hrk:IntKind.i64.wrap ((k:Int)-rkM p k (blR L))=((k-(ech p (blR L) k).2.length:Nat):Int):=by
          have:rkM p k (blR L)=((ech p (blR L) k).2.length:Nat):=rfl
          rw[this,wr (by omega) (by omega)]
          omega
        have hpn:((p.toNat:Nat):Int)=p:=by omega
        have hL0:L=[]:=List.eq_nil_of_length_eq_zero (by omega)
        have hcs0:cs=[]:=List.eq_nil_of_length_eq_zero (by omega)
        subst hL0
        subst hcs0
        have hH0:held=[]:=List.eq_nil_of_length_eq_zero (by simpa using hhL)
        refine KW.callNV1 U U U U U (fun H1 g t=>rankM (S:=Low H1.n) (H0:=H1) (k:=k) ⟨hp2,hp31⟩ (by omega) hBB hBR (.inl ⟨rfl,none,0,rfl,fun _=>rfl⟩)) (fun v HR SR mR _ _ hv=>?_)
        subst hv
        refine KW.callE U U U U U ((by show Spec _ _ _ _ [.int .i64 p,.int .i64 (IntKind.i64.wrap _),.int .i64 20000] _;rw[hrk];exact times p (k-_) ⟨hp2,hp31⟩ (by omega))) (fun n7 m7=>?_)
        have hMR:=hM.up (S':=SR) (H':=HR)
        have hheld:=s4.up (S':=SR) (H':=HR)
        refine KW.lit U U U U U U U U U U [] U U (fun v hv=>by simp at hv) rfl ?_
        refine KW.lpM U U (fun s:Nat × Nat=>[(2,.slice a4 held.length c4),(9,.pointer (some ⟨HM.n,0,some 1⟩)),(10,.pointer (some ⟨n9,0,some 2⟩)),(13,.int .i64 (tmN p (k-(ech p (blR ([]:List (List Int))) k).2.length))),(14,.slice (some ⟨s.2,0,some 1⟩) (csL p k [] held s.1).length (csL p k [] held s.1).length),(69,.int .i64 p),(70,.int .i64 s.1)]) (fun _=>SR) (fun _=>HR) (fun s=>[(H.n,⟨38,true,[.int .i64 h',.slice a1 ow.length c1,.int .i64 p,.int .i64 (k+1:Nat),.slice a2 rows.length c2]⟩),(HM.n,⟨26,true,[.int .i64 p,.int .i64 (k+1:Nat),.slice am ([]:List (List Int)).length cm]⟩),(n9,⟨26,true,[.int .i64 p,.int .i64 k,.slice none 0 0]⟩),(s.2,⟨_,true,(csL p k [] held s.1).map (Value.int .i64)⟩)]) (fun s=>s.1≤p.toNat) (fun s=>p.toNat-s.1) (0,_) (by simp) ⟨rfl,rfl,rfl,rfl,rfl,rfl,rfl,trivial⟩ U U U (fun s hi bE n=>?_)
        obtain⟨sc,oo⟩:=s
        simp only at hi
        have hol:(csL p k [] held sc).length=sc:=csL_len
        have onx:=csL_next (p:=p) (k:=k) (n:=sc) (L:=[]) (held:=held)
        refine KW.cnd U U (fun j3=>?_) (fun j3=>?_)
        · have j3:(sc:Int)<p:=j3
          refine KW.ids (fun hlow hvar=>?_)
          refine KW.callN1 U U U U U (cloneB hH' hheld) (fun v HC SC mC _ _ hv=>?_)
          obtain hv:=hv
          have t1:=(inferInstance:Stp SR HR SC HC).st
          rcases hv with⟨hy0,rfl⟩ | ⟨o3,rfl,hno3,hmo3⟩
          · haveI t2i:On SR HR SC HC:=⟨t1⟩
            have hM2:=hMR.up (S':=SC) (H':=HC)
            refine KW.lpM U U (fun u:Nat × List Value=>[(2,.slice a4 held.length c4),(9,.pointer (some ⟨HM.n,0,some 1⟩)),(10,.pointer (some ⟨n9,0,some 2⟩)),(13,.int .i64 (tmN p (k-(ech p (blR ([]:List (List Int))) k).2.length))),(14,.slice (some ⟨oo,0,some 1⟩) (csL p k [] held sc).length (csL p k [] held sc).length),(15,.int .i64 sc),(16,.slice none 0 0),(69,.int .i64 p),(70,.int .i64 sc),(76,.slice am ([]:List (List Int)).length cm),(77,.int .i64 ([]:List (List Int)).length),(78,.int .i64 u.1)]) (fun _=>SC) (fun _=>HC) (fun u=>[(H.n,⟨38,true,[.int .i64 h',.slice a1 ow.length c1,.int .i64 p,.int .i64 (k+1:Nat),.slice a2 rows.length c2]⟩),(HM.n,⟨26,true,[.int .i64 p,.int .i64 (k+1:Nat),.slice am ([]:List (List Int)).length cm]⟩),(n9,⟨26,true,[.int .i64 p,.int .i64 k,.slice none 0 0]⟩),(oo,⟨_,true,(csL p k [] held sc).map (Value.int .i64)⟩)]) (fun u=>u.1=0∧u.2=[]) (fun u=>0) (0,[]) ⟨rfl,rfl⟩ ⟨rfl,rfl,rfl,rfl,rfl,rfl,rfl,rfl,rfl,rfl,rfl,rfl,trivial⟩ U U U (fun u hu bE n=>?_)
            obtain⟨i3,cc⟩:=u
            obtain⟨hi3,hw3⟩:=hu
            simp only at hi3 hw3
            subst hi3
            subst hw3
            refine KW.cF U U (by first | (simp;done) | decide) ?_
            refine KW.callNV1 U U U U U (fun H1 g t=>solve (S:=Low H1.n) (H0:=H1) (k:=k) (L:=[]) (vals:=[]) hpr (by omega) (by simp) (fun r hr=>by cases hr) rfl (fun v hv=>by cases hv) (.inl ⟨rfl,none,0,rfl,fun _=>rfl⟩) (.inl ⟨rfl,none,0,rfl,fun _=>rfl⟩)) (fun v HS SS mS _ _ hv=>?_)
            obtain⟨a9,ns,cs2,rfl⟩:=hv
            have hat:csAt p k [] held sc=if decide (k∉(ech p (augW (blR []) (restL p [] held sc)) (k+1)).2)=true then tmN p (k-(ech p (blR ([]:List (List Int))) k).2.length) else 0:=rfl
            refine KW.cndB U U (fun b=>?_) (fun b=>?_)
            · have hvv:csAt p k [] held sc=tmN p (k-(ech p (blR ([]:List (List Int))) k).2.length):=hat.trans (if_pos b)
              refine KW.take 4 ?_
              refine KW.app1 (xs:=(csL p k [] held sc).map (Value.int .i64)) (v:=.int .i64 (tmN p (k-(ech p (blR ([]:List (List Int))) k).2.length))) 3 4 U U U U U U U U U U U U U U U U U U U U U U U (by simp) (by show(_+1)*8≤_;first | omega | (simp only;omega)) (by first | omega | (simp only;omega)) ?_
              exact KW.nxt U U (fun H' g=>⟨(sc+1,_),by first | omega | (simp only;omega),by first | omega | (simp only;omega),⟨rfl,rfl,rfl,rfl,by simp only[onx,List.length_append,List.length_singleton];rfl,rfl,congrArg (Value.int .i64) (inc64 (by omega)),trivial⟩,(g.weak (fun id hid=>⟨((inferInstance:Stp _ _ SS HS).st id (t2i.st id hid).1).1,by rw[((inferInstance:Stp _ _ SS HS).st id (t2i.st id hid).1).2,(t2i.st id hid).2]⟩)).eqT (by simp only[onx,hvv,List.map_append];rfl)⟩)
            · have hvv:csAt p k [] held sc=0:=hat.trans (if_neg (fun h=>Bool.noConfusion (h.symm.trans b)))
              refine KW.take 4 ?_
              refine KW.app1 (xs:=(csL p k [] held sc).map (Value.int .i64)) (v:=.int .i64 0) 3 4 U U U U U U U U U U U U U U U U U U U U U U U (by simp) (by show(_+1)*8≤_;first | omega | (simp only;omega)) (by first | omega | (simp only;omega)) ?_
              exact KW.nxt U U (fun H' g=>⟨(sc+1,_),by first | omega | (simp only;omega),by first | omega | (simp only;omega),⟨rfl,rfl,rfl,rfl,by simp only[onx,List.length_append,List.length_singleton];rfl,rfl,congrArg (Value.int .i64) (inc64 (by omega)),trivial⟩,(g.weak (fun id hid=>⟨((inferInstance:Stp _ _ SS HS).st id (t2i.st id hid).1).1,by rw[((inferInstance:Stp _ _ SS HS).st id (t2i.st id hid).1).2,(t2i.st id hid).2]⟩)).eqT (by simp only[onx,hvv,List.map_append];rfl)⟩)
          · have hSo3:SC o3:=(inferInstance:On (New _ HC.n) HC SC HC).st o3 hno3 |>.1
            refine KW.thaw o3 _ hSo3 hmo3 ?_
            have t2:St SR HR (fun id=>SC id∧id≠o3) HC:=fun id h=>⟨⟨(t1 id h).1,fun e=>by have:=hlow id h;have:=hno3.1;omega⟩,(t1 id h).2⟩
            haveI t2i:On SR HR (fun id=>SC id∧id≠o3) HC:=⟨t2⟩
            have hM2:=hMR.up (S':=(fun id=>SC id∧id≠o3)) (H':=HC)
            refine KW.lpM U U (fun u:Nat × List Value=>[(2,.slice a4 held.length c4),(9,.pointer (some ⟨HM.n,0,some 1⟩)),(10,.pointer (some ⟨n9,0,some 2⟩)),(13,.int .i64 (tmN p (k-(ech p (blR ([]:List (List Int))) k).2.length))),(14,.slice (some ⟨oo,0,some 1⟩) (csL p k [] held sc).length (csL p k [] held sc).length),(15,.int .i64 sc),(16,.slice (some ⟨o3,0,some 1⟩) held.length held.length),(69,.int .i64 p),(70,.int .i64 sc),(76,.slice am ([]:List (List Int)).length cm),(77,.int .i64 ([]:List (List Int)).length),(78,.int .i64 u.1)]) (fun _=>(fun id=>SC id∧id≠o3)) (fun _=>HC) (fun u=>[(H.n,⟨38,true,[.int .i64 h',.slice a1 ow.length c1,.int .i64 p,.int .i64 (k+1:Nat),.slice a2 rows.length c2]⟩),(HM.n,⟨26,true,[.int .i64 p,.int .i64 (k+1:Nat),.slice am ([]:List (List Int)).length cm]⟩),(n9,⟨26,true,[.int .i64 p,.int .i64 k,.slice none 0 0]⟩),(oo,⟨_,true,(csL p k [] held sc).map (Value.int .i64)⟩),(o3,⟨2,true,u.2⟩)]) (fun u=>u.1=0∧u.2=held.map (Value.int .i64)) (fun u=>0) (0,held.map (Value.int .i64)) ⟨rfl,rfl⟩ ⟨rfl,rfl,rfl,rfl,rfl,rfl,rfl,rfl,rfl,rfl,rfl,rfl,trivial⟩ U U U (fun u hu bE n=>?_)
            obtain⟨i3,cc⟩:=u
            obtain⟨hi3,hw3⟩:=hu
            simp only at hi3 hw3
            subst hi3
            subst hw3
            refine KW.cF U U (by first | (simp;done) | decide) ?_
            refine KW.callNV1 U U U U U (fun H1 g t=>solve (S:=Low H1.n) (H0:=H1) (k:=k) (L:=[]) (vals:=held) hpr (by omega) (by simp) (fun r hr=>by cases hr) (by simpa using hhL) (fun v hv=>by rw[hH0] at hv;cases hv) (.inl ⟨rfl,none,0,rfl,fun _=>rfl⟩) (g.ints (j:=4) U U (Nat.le_refl _))) (fun v HS SS mS _ _ hv=>?_)
            obtain⟨a9,ns,cs2,rfl⟩:=hv
            have hat:csAt p k [] held sc=if decide (k∉(ech p (augW (blR []) (restL p [] held sc)) (k+1)).2)=true then tmN p (k-(ech p (blR ([]:List (List Int))) k).2.length) else 0:=rfl
            refine KW.cndB U U (fun b=>?_) (fun b=>?_)
            · have hvv:csAt p k [] held sc=tmN p (k-(ech p (blR ([]:List (List Int))) k).2.length):=hat.trans (if_pos b)
              refine KW.take 4 ?_
              refine KW.app1 (xs:=(csL p k [] held sc).map (Value.int .i64)) (v:=.int .i64 (tmN p (k-(ech p (blR ([]:List (List Int))) k).2.length))) 3 4 U U U U U U U U U U U U U U U U U U U U U U U (by simp) (by show(_+1)*8≤_;first | omega | (simp only;omega)) (by first | omega | (simp only;omega)) ?_
              exact KW.nxt U U (fun H' g=>⟨(sc+1,_),by first | omega | (simp only;omega),by first | omega | (simp only;omega),⟨rfl,rfl,rfl,rfl,by simp only[onx,List.length_append,List.length_singleton];rfl,rfl,congrArg (Value.int .i64) (inc64 (by omega)),trivial⟩,(g.weak (fun id hid=>⟨((inferInstance:Stp _ _ SS HS).st id (t2i.st id hid).1).1,by rw[((inferInstance:Stp _ _ SS HS).st id (t2i.st id hid).1).2,(t2i.st id hid).2]⟩)).eqT (by simp only[onx,hvv,List.map_append];rfl)⟩)
            · have hvv:csAt p k [] held sc=0:=hat.trans (if_neg (fun h=>Bool.noConfusion (h.symm.trans b)))
              refine KW.take 4 ?_
              refine KW.app1 (xs:=(csL p k [] held sc).map (Value.int .i64)) (v:=.int .i64 0) 3 4 U U U U U U U U U U U U U U U U U U U U U U U (by simp) (by show(_+1)*8≤_;first | omega | (simp only;omega)) (by first | omega | (simp only;omega)) ?_
              exact KW.nxt U U (fun H' g=>⟨(sc+1,_),by first | omega | (simp only;omega),by first | omega | (simp only;omega),⟨rfl,rfl,rfl,rfl,by simp only[onx,List.length_append,List.length_singleton];rfl,rfl,congrArg (Value.int .i64) (inc64 (by omega)),trivial⟩,(g.weak (fun id hid=>⟨((inferInstance:Stp _ _ SS HS).st id (t2i.st id hid).1).1,by rw[((inferInstance:Stp _ _ SS HS).st id (t2i.st id hid).1).2,(t2i.st id hid).2]⟩)).eqT (by simp only[onx,hvv,List.map_append];rfl)⟩)
        · have hsn:sc=p.toNat:=by have j3:¬(sc:Int)<p:=j3;omega
          subst hsn
          refine KW.retM1 U U U U (fun H1 g=>⟨_,_,rfl,ml1' (int_ml ⟨g.ge (H1:=H) (j:=3) rfl,(g.blk (j:=3) rfl).2⟩ (g.blk (j:=3) rfl).1 U U (Nat.le_refl _))⟩)
  · have e1:r1_CasesBySecret (h',ow,p,c,rows) g held=codeH (h',ow,p,c,rows) g held:=by unfold r1_CasesBySecret;rw[if_neg hc]
    have e0:r0_CasesBySecret (h',ow,p,c,rows) g held=[]:=by unfold r0_CasesBySecret;rw[e1,if_neg hc]
    rw[e0,e1]
    refine KW.cT U U (by simpa using hc) ?_
    refine KW.retM1 U U U U (fun H1 g=>MkLC.nil rfl)
end
theorem dF_drop {r:List Int}:∀(t:List Int) (c:Nat),dF (r.drop 1) c t=dF r (c+1) t
 | [],_=>rfl
 | a :: t,c=>by
  simp only[dF]
  rw[dF_drop t (c+1)]
  congr 2
  simp[List.getD_eq_getElem?_getD,List.getElem?_drop,Nat.add_comm]
theorem dF_app {r:List Int} {v:Int}:∀(t:List Int) (c:Nat),c+t.length≤r.length→dF (r++[v]) c t=dF r c t
 | [],_,_=>rfl
 | a :: t,c,h=>by
  simp only[List.length_cons] at h
  simp only[dF]
  rw[dF_app t (c+1) (by omega)]
  congr 2
  simp only[List.getD_eq_getElem?_getD]
  rw[List.getElem?_append_left (by omega)]
theorem dotN_dF {r:List Int}:∀(x:List Int) (c:Nat),dotN (r.drop c) x x.length=dF r c x:=by
 have key:∀(x:List Int) (a:Int) (c n:Nat),dotN (r.drop c) (a :: x) (n+1)=r.getD c 0*a+dotN (r.drop (c+1)) x n:=by
  intro x a c n
  induction n with
  | zero=>simp[dotN,List.getD_eq_getElem?_getD,List.getElem?_drop]
  | succ n ih=>
   rw[dotN,ih,dotN]
   simp only[List.getD_eq_getElem?_getD,List.getElem?_cons_succ,List.getElem?_drop]
   rw[show c+(n+1)=c+1+n by omega]
   omega
 intro x
 induction x with
 | nil=>intro c;rfl
 | cons a x ih=>
  intro c
  rw[List.length_cons,key,ih (c+1)]
  rfl
def Fits (p:Int) (L:List (List Int)) (held x:List Int):Prop:=∀(j:Nat) r v,L[j]?=some r→held[j]?=some v→dotS p r x=v
theorem mod_zero_iff {p a b v:Int} (hv:0≤v∧v<p) (h:∃m,b=a+p*m):a%p=v↔(b-v)%p=0:=by
 obtain⟨m,rfl⟩:=h
 constructor
 ·intro h
  rw[show a+p*m-v=(a-v)+p*m by omega,Int.add_mul_emod_self_left,← h]
  exact Int.emod_eq_zero_of_dvd (Int.dvd_self_sub_emod)
 ·intro h
  rw[show a+p*m-v=(a-v)+p*m by omega,Int.add_mul_emod_self_left] at h
  have:=Int.emod_eq_emod_iff_emod_sub_eq_zero.2 h
  rw[this]
  exact Int.emod_eq_of_lt hv.1 hv.2
theorem fits_iff {p s:Int} {k:Nat} {L:List (List Int)} {held t:List Int} (hp:0<p) (hL:Rect p (k+1) L) (hl:held.length=L.length) (hh:∀v∈held,0≤v∧v<p) (ht:t.length=k):Fits p L held (s :: t)↔AllS p k (augW (blR L) (restL p L held s)) t:=by
 have one:∀(j:Nat) r v,L[j]?=some r→held[j]?=some v→(dotS p r (s :: t)=v↔Sat p k (r.drop 1++[(v+(p-s)*r.getD 0 0)%p]) t):=fun j r v hr hv=>by
  have hrl:=(hL r (List.mem_of_getElem? hr)).1
  have hd:(r.drop 1).length=k:=by rw[List.length_drop];omega
  rw[sat_iff,dF_app t 0 (by omega),dF_drop]
  have e1:(r.drop 1++[(v+(p-s)*r.getD 0 0)%p]).getD k 0=(v+(p-s)*r.getD 0 0)%p:=by
   simp only[List.getD_eq_getElem?_getD]
   rw[List.getElem?_append_right (by omega),hd,Nat.sub_self]
   rfl
  rw[e1]
  have e2:dotS p r (s :: t)=(r.getD 0 0*s+dF r 1 t)%p:=by
   unfold dotS
   have h:=dotN_dF (r:=r) (s :: t) 0
   rw[List.drop_zero,List.length_cons] at h
   rw[hrl,← ht,h]
   rfl
  obtain⟨m,hm⟩:=mod_eq (v+(p-s)*r.getD 0 0) p
  rw[e2,mod_zero_iff (hh v (List.mem_of_getElem? hv)) (b:=dF r 1 t-((v+(p-s)*r.getD 0 0)%p)+v) ⟨m-r.getD 0 0,by rw[hm];grind⟩]
  rw[show dF r 1 t-(v+(p-s)*r.getD 0 0)%p+v-v=dF r 1 t-(v+(p-s)*r.getD 0 0)%p by omega]
 constructor
 ·intro hF j w hw
  simp only[augW,restL,blR,List.getElem?_zipWith,List.getElem?_map] at hw
  cases hr:L[j]? with
  | none=>rw[hr] at hw;simp at hw
  | some r=>
   cases hv:held[j]? with
   | none=>rw[hr,hv] at hw;simp at hw
   | some v=>
    rw[hr,hv] at hw
    simp only[Option.map_some,Option.some.injEq] at hw
    subst hw
    exact(one j r v hr hv).1 (hF j r v hr hv)
 ·intro hA j r v hr hv
  refine(one j r v hr hv).2 (hA j _ ?_)
  exact augW_at (by simp[blR,hr]) (restL_at hr hv)
theorem aug_take {k:Nat} {B:List (List Int)} {vals:List Int} (hB:∀r∈B,r.length=k) (hl:vals.length=B.length):(augW B vals).map (List.take k)=B:=by
 refine List.ext_getElem? fun i=>?_
 rw[List.getElem?_map]
 rcases Nat.lt_or_ge i B.length with hi | hi
 ·have h1:B[i]?=some B[i]:=List.getElem?_eq_getElem hi
  have h2:vals[i]?=some (vals[i]'(by omega)):=List.getElem?_eq_getElem (by omega)
  rw[augW_at h1 h2,h1,Option.map_some]
  congr 1
  have:=hB B[i] (List.getElem_mem hi)
  rw[List.take_append_of_le_length (by omega),List.take_of_length_le (by omega)]
 ·rw[List.getElem?_eq_none (by rw[augW_len hl];exact hi),List.getElem?_eq_none hi];rfl
noncomputable def cntN (p:Int) (k:Nat) (L:List (List Int)) (held:List Int) (s n:Nat):Nat:=(List.range n).countP fun m=>decide (m%p.toNat=s)&&tv (Fits p L held (dig p.toNat (k+1) m))
theorem cnt_eq {p:Int} {k:Nat} {L:List (List Int)} {held:List Int} (hp:PrimeP p) (hL:Rect p (k+1) L) (hl:held.length=L.length) (hh:∀v∈held,0≤v∧v<p) (hbig:p ^ (k+1)≤20000) {s:Nat} (hs:s<p.toNat):((cntN p k L held s (p.toNat ^ (k+1)):Nat):Int)=csAt p k L held s:=by
 have hf:=fer hp
 have hp0:0<p:=by have:=hp.1;omega
 have hpn:0<p.toNat:=by omega
 have hB:=blR_rect hL
 have hrl:=restL_len (p:=p) (s:=s) hl
 have hW:Rect p (k+1) (augW (blR L) (restL p L held s)):=augW_rect hB (restL_in hp0)
 have h1:=count_low hpn (m:=k) hs (fun x=>tv (Fits p L held x))
 unfold cntN
 rw[h1]
 have h2:(vec p.toNat k).countP (fun t=>tv (Fits p L held ((s:Int) :: t)))=(vec p.toNat k).countP (fun x=>@decide _ (Classical.propDecidable (AllS p k (augW (blR L) (restL p L held s)) x))):=List.countP_congr fun t ht=>by
  rw[tv_iff]
  exact(fits_iff hp0 hL hl hh (vec_len k ht)).trans (@decide_eq_true_iff _ (Classical.propDecidable _)).symm
 rw[h2,count_sol hf hW (D2:=Classical.propDecidable _)]
 have hrk:(ech p (augW (blR L) (restL p L held s)) k).2=(ech p (blR L) k).2:=by
  have h3:=ech_take (k:=k) hf hW k (Nat.le_refl k)
  rw[aug_take (fun r hr=>(hB r hr).1) (by rw[hrl,blR_len])] at h3
  rw[h3]
 rw[hrk]
 unfold csAt
 by_cases hS:Solv p k (augW (blR L) (restL p L held s))
 ·rw[if_pos hS,if_pos (decide_eq_true ((solv_iff hf hW).1 hS))]
  have h4:p ^ (k-(ech p (blR L) k).2.length)≤p ^ (k+1):=Int.pow_le_of_le ⟨hp.1,hp.2.1⟩ (by omega)
  rw[tmN_le ⟨hp.1,hp.2.1⟩ _ (by omega)]
  rw[Int.natCast_pow,Int.toNat_of_nonneg (by omega)]
 ·rw[if_neg hS,if_neg (by rw[decide_eq_true_eq];exact fun h=>hS ((solv_iff hf hW).2 h))]
  rfl
theorem dig_at {p:Nat}:∀(m n j:Nat),j<m→(dig p m n)[j]?=some ((n / p ^ j%p:Nat):Int)
 | 0,n,j,h=>by omega
 | m+1,n,0,_=>by simp[dig]
 | m+1,n,j+1,h=>by
  simp only[dig,List.getElem?_cons_succ]
  rw[dig_at m (n / p) j (by omega),Nat.div_div_eq_div_mul,Nat.pow_succ,Nat.mul_comm (p ^ j) p]
theorem dig_len {p:Nat}:∀(m n:Nat),(dig p m n).length=m
 | 0,n=>rfl
 | m+1,n=>by simp[dig,dig_len m]
theorem dig_in {p:Nat} (hp:0<p) {m n:Nat}:∀x∈dig p m n,0≤x∧x<(p:Int):=fun x hx=>by
 obtain⟨j,hj⟩:=List.getElem?_of_mem hx
 have hjl:=(List.getElem?_eq_some_iff.1 hj).1
 rw[dig_len] at hjl
 rw[dig_at m n j hjl] at hj
 cases hj
 have:=Nat.mod_lt (n / p ^ j) hp
 omega
theorem cntN_next {p:Int} {k:Nat} {L:List (List Int)} {held:List Int} {s n:Nat}:cntN p k L held s (n+1)=cntN p k L held s n+(if n%p.toNat=s∧tv (Fits p L held (dig p.toNat (k+1) n))=true then 1 else 0):=by
 unfold cntN
 rw[List.range_succ,List.countP_append,List.countP_cons,List.countP_nil]
 congr 1
 simp only[Bool.and_eq_true,decide_eq_true_eq,Nat.zero_add]
theorem cntN_le {p:Int} {k:Nat} {L:List (List Int)} {held:List Int} {s n:Nat}:cntN p k L held s n≤n:=by
 unfold cntN
 exact Nat.le_trans List.countP_le_length (by simp)
structure CnI (p:Int) (k:Nat) (L:List (List Int)) (held:List Int) (n:Nat) (cs:List Value):Prop where
 len:cs.length=p.toNat
 at_:∀s,s<p.toNat→cs[s]?=some (.int .i64 (cntN p k L held s n:Nat))
theorem CnI.miss {p:Int} {k n:Nat} {L:List (List Int)} {held:List Int} {cs:List Value} (h:CnI p k L held n cs) (hf:¬Fits p L held (dig p.toNat (k+1) n)):CnI p k L held (n+1) cs:=⟨h.len,fun s hs=>by
 rw[h.at_ s hs,cntN_next,if_neg (fun hc=>hf (tv_iff.1 hc.2))]
 rfl⟩
theorem CnI.hit {p:Int} {k n s0:Nat} {L:List (List Int)} {held:List Int} {cs:List Value} {v:Value} (h:CnI p k L held n cs) (hf:Fits p L held (dig p.toNat (k+1) n)) (hs0:n%p.toNat=s0) (hp:0<p.toNat) (hv:v=.int .i64 ((cntN p k L held s0 n+1:Nat):Int)):CnI p k L held (n+1) (cs.set s0 v):=⟨by rw[List.length_set];exact h.len,fun s hs=>by
 have hl:=h.len
 by_cases e:s0=s
 ·rw[← e,List.getElem?_set_self (by rw[hl,← hs0];exact Nat.mod_lt _ hp),hv,cntN_next,if_pos ⟨hs0,tv_true hf⟩]
 ·rw[List.getElem?_set_ne e,h.at_ s hs,cntN_next,if_neg (fun hc=>e (hs0.symm.trans hc.1))]
  rfl⟩
theorem CnI.all {p:Int} {k:Nat} {L:List (List Int)} {held:List Int} {cs:List Value} {n:Nat} (h:CnI p k L held n cs) (he:∀s,s<p.toNat→((cntN p k L held s n:Nat):Int)=csAt p k L held s):cs=(csL p k L held p.toNat).map (Value.int .i64):=by
 refine List.ext_getElem? fun i=>?_
 rcases Nat.lt_or_ge i p.toNat with hi | hi
 ·rw[h.at_ i hi,he i hi,List.getElem?_map,csL,List.getElem?_map,List.getElem?_range hi]
  rfl
 ·rw[List.getElem?_eq_none (by rw[h.len];exact hi),List.getElem?_eq_none (by rw[List.length_map,csL_len];exact hi)]
section
variable {S:Ids} {H0:AH}
theorem spec_CasesBySecret {x:T_Scheme} {gg held:List Int} {cs:List Value} {a3 c3 a4 c4} (hB:B_Scheme x) (hG:B_Int64S gg) (hH:B_Int64S held) (h:K_Scheme.R S H0 x cs) (kg:K_Int64S.R S H0 gg [.slice a3 gg.length c3]) (kh:K_Int64S.R S H0 held [.slice a4 held.length c4]):
  SpecM Try.prog S H0 26 [.agg cs.toArray,.slice a3 gg.length c3,.slice a4 held.length c4] (MkLC (r0_CasesBySecret x gg held) (r1_CasesBySecret x gg held)):=by
 obtain⟨a1,c1,a2,c2,rfl,s1,s2⟩:=split2_Scheme h
 have s3:=sl1 kg
 have s4:=sl1 kh
 obtain⟨h',ow,p,c,rows⟩:=x
 simp only at s1 s2 ⊢
 have hO:B_Int64S ow:=hB.2.1
 have hBr:B_Int64SS rows:=hB.2.2.2.2
 have hG':gg.length≤1048576:=hG
 have hH':held.length≤1048576:=hH
 refine SpecM.of1 Try.func26 rfl (by kernel_rfl) rfl (fun H _=>?_)
 refine KW.callV1 U U U U U (fun H1 g _=>l04With (S:=Low H1.n) (H0:=H1) (h',ow,p,c,rows) gg held hB hG hH (g.has (j:=0) U U) s1.up s2.up s3.up s4.up) (fun n8 m8=>?_)
 by_cases hc:codeH (h',ow,p,c,rows) gg held=0
 ·obtain⟨hk,hg,hhl,hhe⟩:=codeH_ok hc
  have hk:OkSch h' ow p c rows:=hk
  simp only at hg hhl hhe
  refine KW.cF U U (by simp[hc]) ?_
  obtain⟨k,rfl⟩:∃k:Nat,c=((k+1:Nat):Int):=⟨c.toNat-1,by have:=hk.c1;omega⟩
  have hpr:=hk.mat.pr
  have hp2:=hpr.1
  have hp31:=hpr.2.1
  have hk12:=hk.mat.c1
  have hrg:=rowsG_spec hk hg
  refine KW.call U U U U U (l04Cases p (k+1) ⟨hp2,hp31⟩ (by omega)) (fun v n9 _ hv=>?_)
  obtain⟨r,rfl,hr1,hr2,hr3⟩:=hv
  by_cases hbig:20000<p ^ (k+1)
  ·have e1:r1_CasesBySecret (h',ow,p,((k+1:Nat):Int),rows) gg held=3:=by
    unfold r1_CasesBySecret
    rw[if_pos hc]
    simp only[Int.toNat_natCast]
    rw[if_pos hbig]
   have e0:r0_CasesBySecret (h',ow,p,((k+1:Nat):Int),rows) gg held=[]:=by unfold r0_CasesBySecret;rw[e1];rfl
   rw[e0,e1]
   have:=hr3 hbig
   refine KW.yes U U (by omega) ?_
   refine KW.lit U U U U U U U U U U [] U U (fun v hv=>by simp at hv) rfl ?_
   refine KW.retM1 U U U U (fun H1 g=>MkLC.nil' rfl)
  ·have e1:r1_CasesBySecret (h',ow,p,((k+1:Nat):Int),rows) gg held=0:=by
    unfold r1_CasesBySecret
    rw[if_pos hc]
    simp only[Int.toNat_natCast]
    rw[if_neg hbig]
   have e0:r0_CasesBySecret (h',ow,p,((k+1:Nat):Int),rows) gg held=csL p k (heldR ow rows (bitsOf gg)) held p.toNat:=by
    unfold r0_CasesBySecret
    rw[if_pos e1]
    simp only[Int.toNat_natCast,Nat.add_sub_cancel]
   rw[e0,e1]
   have hr:=hr2 (by omega)
   refine KW.no U U (by omega) ?_
   refine KW.callNV1 U U U U U (fun H1 g _=>l04Part (S:=Low H1.n) (H0:=H1) h' p ((k+1:Nat):Int) (id:=H.n) (kk:=0) hO hBr hk hG' (g.has (j:=0) U U) s1.up s2.up s3.up) (fun v HM SM mM _ _ hv=>?_)
   obtain⟨am,cm,rfl,hM⟩:=hv
   have hM:=hM.up (S':=SM) (H':=HM)
   have esel:selR rows (rowsP (fun i=>decide (ow.getD i 0∈gg)) ow.length)=heldR ow rows (bitsOf gg):=by rw[hrg];rfl
   rw[esel] at hM ⊢
   have hLr:Rect p (k+1) (heldR ow rows (bitsOf gg)):=held_rect hk rfl
   have hLl:(heldR ow rows (bitsOf gg)).length≤20:=held_len hk
   have hhL:held.length=(heldR ow rows (bitsOf gg)).length:=by rw[hhl];unfold heldR rowsG;rw[selR_len]
   generalize hLd:heldR ow rows (bitsOf gg)=L at *
   obtain⟨P,rfl⟩:∃P:Nat,p=P:=⟨p.toNat,by omega⟩
   have hP0:0<P:=by omega
   have hheld:=s4.up (S':=SM) (H':=HM)
   have hcnt:∀s,s<P→((cntN (P:Int) k L held s (P ^ (k+1)):Nat):Int)=csAt P k L held s:=fun s hs=>by
    have:=cnt_eq hpr hLr hhL (fun v hv=>by have:=hhe v hv;omega) (by omega) (s:=s) (by simpa using hs)
    simpa using this
   have hpN:((P ^ (k+1):Nat):Int)=(P:Int) ^ (k+1):=by rw[Int.natCast_pow]
   have hN20:P ^ (k+1)≤20000:=by omega
   refine KW.mk1 U U U U U U U U U U U U (P) U U (by omega) (by show 8*_≤_;omega) ?_
   refine KW.lpM U U (fun s:Nat × List Value=>[(2,.slice a4 held.length c4),(3,.pointer (some ⟨H.n,0,some 0⟩)),(9,.int .i64 P),(10,.pointer (some ⟨HM.n,0,some 1⟩)),(11,.slice (some ⟨HM.n+1,0,some 1⟩) P P),(12,.int .i64 s.1)]) (fun s=>SM) (fun s=>HM) (fun s=>[(H.n,⟨38,true,[.int .i64 h',.slice a1 ow.length c1,.int .i64 P,.int .i64 (k+1:Nat),.slice a2 rows.length c2]⟩),(HM.n,⟨26,true,[.int .i64 P,.int .i64 (k+1:Nat),.slice am L.length cm]⟩),(HM.n+1,⟨_,true,s.2⟩)]) (fun s=>s.1≤P ^ (k+1)∧CnI P k L held s.1 s.2) (fun s=>P ^ (k+1)-s.1) ((0,_)) (⟨by simp,by simp,fun s hs=>by rw[List.getElem?_replicate,if_pos (by simpa using hs)];simp[cntN]⟩) ⟨rfl,rfl,rfl,rfl,rfl,rfl,trivial⟩ U U (rfl) (fun s hi bE n=>?_)
   obtain⟨N,cs⟩:=s
   obtain⟨hN,hcs⟩:=hi
   simp only at hN hcs
   refine KW.call U U U U U (l04Cases P (k+1) ⟨hp2,hp31⟩ (by omega)) (fun v n7 _ hv=>?_)
   obtain⟨r',rfl,hr1',hr2',hr3'⟩:=hv
   have hr':=hr2' (by omega)
   refine KW.cnd U U (fun j1=>?_) (fun j1=>?_)
   ·have j1:(N:Int)<r':=j1
    have hNlt:N<P ^ (k+1):=by omega
    refine KW.lit U U U U U U U U U U [] U U (fun v hv=>by simp at hv) rfl ?_
    refine KW.lpM U U (fun s:Nat × Nat=>[(2,.slice a4 held.length c4),(3,.pointer (some ⟨H.n,0,some 0⟩)),(9,.int .i64 P),(10,.pointer (some ⟨HM.n,0,some 1⟩)),(11,.slice (some ⟨HM.n+1,0,some 1⟩) P P),(12,.int .i64 N),(13,.slice (some ⟨s.2,0,some 1⟩) ((dig P (k+1) N).take s.1).length ((dig P (k+1) N).take s.1).length),(14,.int .i64 (N / P ^ s.1:Nat))]) (fun s=>SM) (fun s=>HM) (fun s=>[(H.n,⟨38,true,[.int .i64 h',.slice a1 ow.length c1,.int .i64 P,.int .i64 (k+1:Nat),.slice a2 rows.length c2]⟩),(HM.n,⟨26,true,[.int .i64 P,.int .i64 (k+1:Nat),.slice am L.length cm]⟩),(HM.n+1,⟨_,true,cs⟩),(s.2,⟨_,true,((dig P (k+1) N).take s.1).map (Value.int .i64)⟩)]) (fun s=>s.1≤k+1) (fun s=>k+1-s.1) ((0,_)) (by simp) ⟨rfl,rfl,rfl,rfl,rfl,rfl,rfl,congrArg (Value.int .i64) (by simp),trivial⟩ U U (rfl) (fun s hi bE n=>?_)
    obtain⟨j,oo⟩:=s
    simp only at hi
    have hdl:=dig_len (p:=P) (k+1) N
    refine KW.cnd U U (fun j2=>?_) (fun j2=>?_)
    ·have j2:(((dig P (k+1) N).take j).length:Int)<((k+1:Nat):Int):=j2
     have htl:((dig P (k+1) N).take j).length=j:=by rw[List.length_take];omega
     have hjk:j<k+1:=by omega
     have hdj:=dig_at (p:=P) (k+1) N j hjk
     have hdq:N / P ^ j≤N:=Nat.div_le_self _ _
     have htk:(dig P (k+1) N).take (j+1)=(dig P (k+1) N).take j++[((N / P ^ j%P:Nat):Int)]:=by
      obtain⟨hlt,he⟩:=List.getElem?_eq_some_iff.1 hdj
      rw[List.take_succ_eq_append_getElem hlt,he]
     refine KW.rem U U U U U U (Int.natCast_nonneg _) (by omega) ?_
     refine KW.app1 (xs:=((dig P (k+1) N).take j).map (Value.int .i64)) (v:=.int .i64 ((N / P ^ j%P:Nat):Int)) 3 4 U U U U U U U U U U U U U U U U U U U U U U U (by simp) (by show(_+1)*8≤_;first | omega | (simp only;omega)) (by first | omega | (simp only;omega)) ?_
     refine KW.quo U U U U U U (⟨Int.natCast_nonneg _,by simp only;omega⟩) (by omega) ?_
     refine KW.nxt U U (fun H' g=>⟨(j+1,_),by simp only;omega,by first | omega | (simp only;omega),⟨rfl,rfl,rfl,rfl,rfl,rfl,by simp only[htk,List.length_append,List.length_singleton];rfl,congrArg (Value.int .i64) (by show((N / P ^ j:Nat):Int) / (P:Int)=((N / P ^ (j+1):Nat):Int);rw[Nat.pow_succ,← Nat.div_div_eq_div_mul];first | done | rfl),trivial⟩,g.eqT (by simp only[htk,List.map_append];rfl)⟩)
    ·have hjk:j=k+1:=by
      have j2:¬(((dig P (k+1) N).take j).length:Int)<((k+1:Nat):Int):=j2
      rw[List.length_take] at j2
      omega
     subst hjk
     rw[List.take_of_length_le (by omega)]
     have hdin:=dig_in hP0 (m:=k+1) (n:=N)
     have hD0:(dig P (k+1) N)[0]?=some ((N%P:Nat):Int):=by have:=dig_at (p:=P) (k+1) N 0 (by omega);simpa using this
     generalize hD:dig P (k+1) N=D at *
     have hDe:Elems (P:Int) D:=fun x hx=>by have:=hdin x hx;omega
     refine KW.lp U U (fun s:Nat × Bool=>[(2,.slice a4 held.length c4),(3,.pointer (some ⟨H.n,0,some 0⟩)),(9,.int .i64 P),(10,.pointer (some ⟨HM.n,0,some 1⟩)),(11,.slice (some ⟨HM.n+1,0,some 1⟩) P P),(12,.int .i64 N),(13,.slice (some ⟨oo,0,some 1⟩) D.length D.length),(15,.bool s.2),(16,.int .i64 s.1)]) (fun s=>s.1≤L.length∧((s.2=true∧∀j,j<s.1→∀r v,L[j]?=some r→held[j]?=some v→dotS P r D=v)∨(s.2=false∧¬Fits P L held D))) (fun s=>L.length-s.1) ((0,true)) (⟨by simp,.inl ⟨rfl,fun j hj=>absurd hj (Nat.not_lt_zero _)⟩⟩) ⟨rfl,rfl,rfl,rfl,rfl,rfl,rfl,rfl,rfl,trivial⟩ (fun s hi bE n=>?_)
     obtain⟨i3,fb⟩:=s
     obtain⟨hi3,hfb⟩:=hi
     simp only at hi3 hfb
     refine KW.tst U U (fun j3=>?_) (fun j3=>?_)
     ·have j3:(i3:Int)<(L.length:Int):=j3
      cases fb with
      | true=>
       obtain⟨_,hfit⟩:True∧∀j,j<i3→∀r v,L[j]?=some r→held[j]?=some v→dotS P r D=v:=by
        rcases hfb with⟨_,h⟩ | ⟨h,_⟩
        ·exact⟨trivial,h⟩
        ·cases h
       refine KW.cT U U (by first | (simp;done) | decide) ?_
       refine KW.getL hM U U U U U U U U U U U U U U U U (by omega) (j3) (fun y ay cy hy hsy=>?_)
       have hy:L[i3]?=some y:=hy
       have hym:=hLr y (List.mem_of_getElem? hy)
       refine KW.callV1 U U U U U (fun H1 g _=>l03Dot (S:=Low H1.n) (H0:=H1) (P:Int) hpr (by omega) (by omega) (fun x hx=>by have:=hym.2 x hx;omega) hDe hsy.up (g.ints (j:=3) U U (Nat.le_refl _))) (fun _ _=>?_)
       refine KW.getI hheld U U U U U U U U U U U U U U U U (by omega) (by omega) (fun w hw=>?_)
       have hw:held[i3]?=some w:=hw
       by_cases hfw:dotS P y D=w
       ·refine KW.nxt U U (fun H' g=>⟨(i3+1,true),⟨by simp only;omega,.inl ⟨rfl,upto hfit (fun r v hr hv=>by rw[hy] at hr;cases hr;rw[hw] at hv;cases hv;exact hfw)⟩⟩,by first | omega | (simp only;omega),⟨rfl,rfl,rfl,rfl,rfl,rfl,rfl,congrArg Value.bool (by simp[hfw]),congrArg (Value.int .i64) (inc64 (by omega)),trivial⟩,g⟩)
       ·refine KW.nxt U U (fun H' g=>⟨(i3+1,false),⟨by simp only;omega,.inr ⟨rfl,fun hc=>hfw (hc i3 y w hy hw)⟩⟩,by first | omega | (simp only;omega),⟨rfl,rfl,rfl,rfl,rfl,rfl,rfl,congrArg Value.bool (by simp[hfw]),congrArg (Value.int .i64) (inc64 (by omega)),trivial⟩,g⟩)
      | false=>
       have hnf:¬Fits (P:Int) L held D:=by
        rcases hfb with⟨h,_⟩ | ⟨_,h⟩
        ·cases h
        ·exact h
       refine KW.cF U U (by first | (simp;done) | decide) ?_
       refine KW.cF U U (by first | (simp;done) | decide) ?_
       refine KW.take 3 ?_
       refine KW.nxt U U (fun H' g=>⟨(N+1,cs),⟨by simp only;omega,hcs.miss (by show ¬Fits _ _ _ (dig P (k+1) N);rw[hD];exact hnf)⟩,by first | omega | (simp only;omega),⟨rfl,rfl,rfl,rfl,rfl,congrArg (Value.int .i64) (inc64 (by omega)),trivial⟩,g⟩)
     ·have hi4:i3=L.length:=by have j3:¬(i3:Int)<(L.length:Int):=j3;omega
      subst hi4
      refine KW.cF U U (by first | (simp;done) | decide) ?_
      cases fb with
      | true=>
       have hft:Fits (P:Int) L held D:=by
        rcases hfb with⟨_,h⟩ | ⟨h,_⟩
        ·exact fun j r v hr hv=>h j (List.getElem?_eq_some_iff.1 hr).1 r v hr hv
        ·cases h
       have hmod:=Nat.mod_lt N hP0
       have hcl:=hcs.len
       have hca:=hcs.at_ (N%P) (by simpa using hmod)
       have hcle:=cntN_le (p:=(P:Int)) (k:=k) (L:=L) (held:=held) (s:=N%P) (n:=N)
       refine KW.cT U U (by first | (simp;done) | decide) ?_
       refine KW.idx0 U U U U U U U U U (by omega) (by omega) ?_
       refine KW.ldT 3 U U U U U U (bload_at (show(D.map (Value.int .i64))[0]?=some (.int .i64 ((N%P:Nat):Int)) from by rw[List.getElem?_map,hD0];rfl) U U) ?_
       refine KW.idx0 U U U U U U U U U (by omega) (by omega) ?_
       refine KW.ldT 2 U U U U U U (bload_at (by rw[Nat.zero_add,Nat.mul_one];exact hca) U U) ?_
       refine KW.idx0 U U U U U U U U U (by omega) (by omega) ?_
       refine KW.st1 2 U U U U U U U U U U U U (by simp only;rw[hcl];simp;omega) ?_
       refine KW.take 3 ?_
       refine KW.nxt U U (fun H' g=>⟨(N+1,_),⟨by simp only;omega,by rw[Nat.zero_add,Nat.mul_one];exact hcs.hit (s0:=N%P) (by show Fits _ _ _ (dig P (k+1) N);rw[hD];exact hft) (by simp) (by simpa using hP0) (congrArg (Value.int .i64) (by rw[wr (by omega) (by omega)];omega))⟩,by first | omega | (simp only;omega),⟨rfl,rfl,rfl,rfl,rfl,congrArg (Value.int .i64) (inc64 (by omega)),trivial⟩,g⟩)
      | false=>
       have hnf:¬Fits (P:Int) L held D:=by
        rcases hfb with⟨h,_⟩ | ⟨_,h⟩
        ·cases h
        ·exact h
       refine KW.cF U U (by first | (simp;done) | decide) ?_
       refine KW.take 3 ?_
       refine KW.nxt U U (fun H' g=>⟨(N+1,cs),⟨by simp only;omega,hcs.miss (by show ¬Fits _ _ _ (dig P (k+1) N);rw[hD];exact hnf)⟩,by first | omega | (simp only;omega),⟨rfl,rfl,rfl,rfl,rfl,congrArg (Value.int .i64) (inc64 (by omega)),trivial⟩,g⟩)
   ·have hNe:N=P ^ (k+1):=by have j1:¬(N:Int)<r':=j1;omega
    subst hNe
    have hce:=hcs.all (fun s hs=>hcnt s (by simpa using hs))
    subst hce
    refine KW.retM1 U U U U (fun H1 g=>?_)
    have hb:=g.blk (j:=2) rfl
    have hll:(csL P k L held (P:Int).toNat).length=P:=by rw[csL_len];simp
    exact⟨some ⟨HM.n+1,0,some 1⟩,P,by rw[hll];rfl,ml1' (int_ml ⟨g.ge (H1:=H) (j:=2) rfl,hb.2⟩ hb.1 U U (by rw[hll];exact Nat.le_refl _))⟩
 ·have e1:r1_CasesBySecret (h',ow,p,c,rows) gg held=codeH (h',ow,p,c,rows) gg held:=by unfold r1_CasesBySecret;rw[if_neg hc]
  have e0:r0_CasesBySecret (h',ow,p,c,rows) gg held=[]:=by unfold r0_CasesBySecret;rw[e1,if_neg hc]
  rw[e0,e1]
  refine KW.cT U U (by simpa using hc) ?_
  refine KW.lit U U U U U U U U U U [] U U (fun v hv=>by simp at hv) rfl ?_
  refine KW.retM1 U U U U (fun H1 g=>MkLC.nil' rfl)
end

def VecOk (p:Int) (k:Nat) (y:List Int):Prop:=y.length=k∧∀a∈y,0≤a∧a<p
def FitX (p:Int) (L:List (List Int)) (held y:List Int):Prop:=∀(i:Nat) r v,L[i]?=some r→held[i]?=some v→Cg p (dF r 0 y) v
section
variable {p:Int} {k:Nat} {L:List (List Int)} {held y:List Int}
theorem fitX_fits (hL:Rect p k L) (hh:∀v∈held,0≤v∧v<p) (hp:0<p) (hy:y.length=k):FitX p L held y↔Fits p L held y:=by
 constructor
 ·intro h i r v hr hv
  have h1:=h i r v hr hv
  have hrl:=(hL r (List.mem_of_getElem? hr)).1
  rw[dotS_dF (by omega)]
  have h2:=hh v (List.mem_of_getElem? hv)
  rw[h1.emod]
  exact Int.emod_eq_of_lt h2.1 h2.2
 ·intro h i r v hr hv
  have h1:=h i r v hr hv
  have hrl:=(hL r (List.mem_of_getElem? hr)).1
  rw[dotS_dF (by omega)] at h1
  rw[← h1]
  exact Cg.mod.symm
theorem fit_cons (hf:Fer p) (hL:Rect p k L) (hl:held.length=L.length) (hh:∀v∈held,0≤v∧v<p):k∉(ech p (augW L held) (k+1)).2↔∃y,VecOk p k y∧FitX p L held y:=by
 have hp2:=hf.1
 have hW:=augW_rect hL hh
 constructor
 ·intro h
  have hl2:=setF_len (E:=(ech p (augW L held) (k+1)).1) (P:=(ech p (augW L held) (k+1)).2) (k:=k) (ech p (augW L held) (k+1)).2.length
  exact⟨_,⟨hl2,setF_in (p:=p) (by omega) (ech_shape hf hW (k+1)).rect _⟩,(allS_aug (fun r hr=>(hL r hr).1) hl hl2).1 (setF_sol hf hW h)⟩
 ·rintro ⟨y,hy,h⟩
  exact sol_none hf hW hy.1 ((allS_aug (fun r hr=>(hL r hr).1) hl hy.1).2 h)
theorem fit_unit {s:Int} (hl:held.length=L.length) (hy:VecOk p (k+1) y) (hs:0≤s∧s<p) (hp:0<p):FitX p (L++[unitL (k+1)]) (held++[s]) y↔FitX p L held y∧y.getD 0 0=s:=by
 constructor
 ·intro h
  refine⟨fun i r v hr hv=>?_,?_⟩
  ·have hi:=(List.getElem?_eq_some_iff.1 hr).1
   exact h i r v (by rw[List.getElem?_append_left hi];exact hr) (by rw[List.getElem?_append_left (by omega)];exact hv)
  ·have h1:=h L.length (unitL (k+1)) s (by rw[List.getElem?_append_right (Nat.le_refl _),Nat.sub_self];rfl) (by rw[List.getElem?_append_right (by omega),hl,Nat.sub_self];rfl)
   rw[unit_dF0 hy.1] at h1
   exact h1.eq (el_ok hp hy 0) hs
 ·rintro ⟨h,h0⟩ i r v hr hv
  rcases Nat.lt_or_ge i L.length with hi | hi
  ·rw[List.getElem?_append_left hi] at hr
   rw[List.getElem?_append_left (by omega)] at hv
   exact h i r v hr hv
  ·have hi2:i<(L++[unitL (k+1)]).length:=(List.getElem?_eq_some_iff.1 hr).1
   simp at hi2
   obtain rfl:i=L.length:=by omega
   rw[List.getElem?_append_right (Nat.le_refl _),Nat.sub_self] at hr
   rw[List.getElem?_append_right (by omega),hl,Nat.sub_self] at hv
   have hr:unitL (k+1)=r:=Option.some.inj hr
   have hv:s=v:=Option.some.inj hv
   rw[← hr,← hv,unit_dF0 hy.1,h0]
   exact Cg.rfl'
def SecOk (p:Int) (k:Nat) (L:List (List Int)) (held:List Int) (s:Int):Prop:=∃y,VecOk p (k+1) y∧FitX p L held y∧y.getD 0 0=s
theorem compl_iff {s:Int} (hf:Fer p) (hL:Rect p (k+1) L) (hl:held.length=L.length) (hh:∀v∈held,0≤v∧v<p) (hs:0≤s∧s<p):k+1∉(ech p (augW (L++[unitL (k+1)]) (held++[s])) (k+1+1)).2↔SecOk p k L held s:=by
 have hp2:=hf.1
 have hu:=unitL_in (p:=p) hp2 (show 1≤k+1 by omega)
 rw[fit_cons hf (L:=L++[unitL (k+1)]) (fun r hr=>by
  rcases List.mem_append.1 hr with h | h
  ·exact hL r h
  ·rw[List.mem_singleton.1 h];exact hu) (by simp[hl]) (fun v hv=>by
  rcases List.mem_append.1 hv with h | h
  ·exact hh v h
  ·rw[List.mem_singleton.1 h];exact hs)]
 constructor
 ·rintro ⟨y,hy,h⟩
  exact⟨y,hy,(fit_unit hl hy hs (by omega)).1 h⟩
 ·rintro ⟨y,hy,h⟩
  exact⟨y,hy,(fit_unit hl hy hs (by omega)).2 h⟩
theorem case_iff {s:Nat} (hf:Fer p) (hL:Rect p (k+1) L) (hl:held.length=L.length) (hh:∀v∈held,0≤v∧v<p) (hs:(s:Int)<p):k∉(ech p (augW (blR L) (restL p L held s)) (k+1)).2↔SecOk p k L held s:=by
 have hp2:=hf.1
 have hp:0<p:=by omega
 have hB:=blR_rect hL
 have hrl:(restL p L held s).length=(blR L).length:=by rw[restL_len hl,blR_len]
 constructor
 ·intro h
  have hW:=augW_rect hB (restL_in (p:=p) (s:=s) (L:=L) (held:=held) hp)
  have hl2:=setF_len (E:=(ech p (augW (blR L) (restL p L held s)) (k+1)).1) (P:=(ech p (augW (blR L) (restL p L held s)) (k+1)).2) (k:=k) (ech p (augW (blR L) (restL p L held s)) (k+1)).2.length
  have hin:=setF_in (p:=p) (k:=k) (P:=(ech p (augW (blR L) (restL p L held s)) (k+1)).2) hp (ech_shape hf hW (k+1)).rect (ech p (augW (blR L) (restL p L held s)) (k+1)).2.length
  have hfit:=(fits_iff hp hL hl hh hl2).2 (setF_sol hf hW h)
  refine⟨_,⟨by simp[hl2],fun a ha=>?_⟩,(fitX_fits hL hh hp (by simp[hl2])).2 hfit,rfl⟩
  rcases List.mem_cons.1 ha with rfl | ha
  ·omega
  ·exact hin a ha
 ·rintro ⟨y,hy,h,h0⟩
  cases y with
  | nil=>have:=hy.1;simp at this
  | cons a t=>
   have h0:a=(s:Int):=h0
   subst h0
   have ht:t.length=k:=by have:=hy.1;simpa using this
   have hfit:=(fitX_fits hL hh hp hy.1).1 h
   exact sol_none hf (augW_rect hB (restL_in hp)) ht ((fits_iff hp hL hl hh ht).1 hfit)
theorem sec_any {s s':Int} (hf:Fer p) (hL:Rect p (k+1) L) (h:comb p L (unitL (k+1))=none) (hs:SecOk p k L held s) (hs':0≤s'∧s'<p):SecOk p k L held s':=by
 obtain⟨y,hy,hfit,h0⟩:=hs
 obtain⟨y',h1,h2,h3⟩:=other_secret hf hL h hy.1 hfit hs'
 exact⟨y',h1,h2,h3⟩
theorem sec_one {s s':Int} {cs:List Int} (hf:Fer p) (hL:Rect p (k+1) L) (hl:held.length=L.length) (h:comb p L (unitL (k+1))=some cs) (hs:SecOk p k L held s) (hs':SecOk p k L held s'):s=s':=by
 have hp2:=hf.1
 have hu:=unitL_in (p:=p) hp2 (show 1≤k+1 by omega)
 obtain⟨⟨h1,h2⟩,h3⟩:=comb_sound hf hL hu h
 have key:∀{s},SecOk p k L held s→(0≤s∧s<p)∧Cg p (dL cs held) s:=fun {s} hs=>by
  obtain⟨y,hy,hfit,h0⟩:=hs
  rw[← h0]
  refine⟨el_ok (by omega) hy 0,(val_lc L cs held hl.symm hfit).trans ?_⟩
  rw[← unit_dF0 hy.1,wS_dF]
  exact wS_cg (fun j=>h3 j) y 0
 have k1:=key hs
 have k2:=key hs'
 exact(k1.2.symm.trans k2.2).eq k1.1 k2.1
theorem sec_in {s:Int} (hp:0<p) (hs:SecOk p k L held s):0≤s∧s<p:=by
 obtain⟨y,hy,hfit,h0⟩:=hs
 rw[← h0]
 exact el_ok hp hy 0
end
section
variable {S:Ids} {H0:AH}
theorem a2Held (h p c:Int) {a1 c1 a3 c3 a4 c4} {v2:Option Addr} {n2 c2:Nat} {ow vs gr:List Int} (hO:B_Int64S ow) (hl:vs.length=ow.length) (hg:gr.length≤1048576) (h1:KI.Sl S H0 (.slice a1 ow.length c1) ow) (h3:KI.Sl S H0 (.slice a3 vs.length c3) vs) (h4:KI.Sl S H0 (.slice a4 gr.length c4) gr):
  SpecM Try.prog S H0 23 [.agg #[.int .i64 h,.slice a1 ow.length c1,.int .i64 p,.int .i64 c,.slice v2 n2 c2],.slice a3 vs.length c3,.slice a4 gr.length c4] (MkL (heldV ow vs gr)):=by
 refine SpecM.of1 Try.func23 rfl (by kernel_rfl) rfl (fun H _=>?_)
 have hO':ow.length≤1048576:=hO
 refine KW.lit U U U U U U U U U U [] U U (fun v hv=>by simp at hv) rfl ?_
 refine KW.lpM U U (fun q:Nat × Nat=>[(1,.slice a3 vs.length c3),(2,.slice a4 gr.length c4),(3,.pointer (some ⟨H.n,0,some 0⟩)),(7,.slice (some ⟨q.2,0,some 1⟩) (rowsP (fun i=>decide (ow.getD i 0∈gr)) q.1).length (rowsP (fun i=>decide (ow.getD i 0∈gr)) q.1).length),(8,.int .i64 q.1)]) (fun q=>Low H.n) (fun q=>H) (fun q=>[(H.n,⟨38,true,[.int .i64 h,.slice a1 ow.length c1,.int .i64 p,.int .i64 c,.slice v2 n2 c2]⟩),(q.2,⟨_,true,((rowsP (fun i=>decide (ow.getD i 0∈gr)) q.1).map fun i=>vs.getD i.toNat 0).map (Value.int .i64)⟩)]) (fun q=>q.1≤ow.length) (fun q=>ow.length-q.1) ((0,_)) (Nat.zero_le _) ⟨rfl,rfl,rfl,rfl,rfl,trivial⟩ U U (rfl) (fun q hi bE n=>?_)
 obtain⟨i,o⟩:=q
 simp only at hi
 have hrl:(rowsP (fun i=>decide (ow.getD i 0∈gr)) i).length≤i:=rowsP_len _ _
 refine KW.tst U U (fun k1=>?_) (fun k1=>?_)
 ·have k1:(i:Int)<(ow.length:Int):=k1
  refine KW.yes U U (by omega) ?_
  refine KW.getI h1.up U U U U U U U U U U U U U U U U (by omega) (k1) (fun y hy=>?_)
  have hy:ow[i]?=some y:=hy
  have eo:ow.getD i 0=y:=by rw[List.getD_eq_getElem?_getD,hy];rfl
  refine KW.callE U U U U U (a2Has hg h4.up) (fun _ _=>?_)
  by_cases hm:y∈gr
  ·rw[decide_eq_true hm]
   refine KW.cT U U (by first | (simp;done) | decide) ?_
   refine KW.getI h3.up U U U U U U U U U U U U U U U U (by omega) (by omega) (fun z hz=>?_)
   have hz:vs[i]?=some z:=hz
   have e:rowsP (fun i=>decide (ow.getD i 0∈gr)) (i+1)=rowsP (fun i=>decide (ow.getD i 0∈gr)) i++[(i:Int)]:=by rw[rowsP_next,eo,decide_eq_true hm,if_pos rfl]
   have ez:vs.getD (i:Int).toNat 0=z:=by rw[Int.toNat_natCast,List.getD_eq_getElem?_getD,hz];rfl
   refine KW.app1 (xs:=((rowsP (fun i=>decide (ow.getD i 0∈gr)) i).map fun i=>vs.getD i.toNat 0).map (Value.int .i64)) (v:=.int .i64 z) 1 2 U U U U U U U U U U U U U U U U U U U U U U U (by simp) (by show((rowsP (fun i=>decide (ow.getD i 0∈gr)) i).length+1)*8≤_;omega) (by show(rowsP (fun i=>decide (ow.getD i 0∈gr)) i).length+1≤_;omega) ?_
   refine KW.nxt U U (fun H' g=>⟨(i+1,_),by simp only;omega,by first | omega | (simp only;omega),⟨rfl,rfl,rfl,by simp only[e,List.length_append,List.length_singleton];rfl,congrArg (Value.int .i64) (inc64 (by omega)),trivial⟩,g.eqT (by simp only[e,List.map_append,List.map_cons,List.map_nil,ez];rfl)⟩)
  ·rw[decide_eq_false hm]
   refine KW.cF U U (by first | (simp;done) | decide) ?_
   have e:rowsP (fun i=>decide (ow.getD i 0∈gr)) (i+1)=rowsP (fun i=>decide (ow.getD i 0∈gr)) i:=by rw[rowsP_next,eo,decide_eq_false hm,if_neg (by decide)]
   refine KW.nxt U U (fun H' g=>⟨(i+1,o),by simp only;omega,by first | omega | (simp only;omega),⟨rfl,rfl,rfl,by simp only[e];rfl,congrArg (Value.int .i64) (inc64 (by omega)),trivial⟩,g.eqT (by simp only[e])⟩)
 ·have k1:¬(i:Int)<(ow.length:Int):=k1
  refine KW.cF U U (by first | (simp;done) | decide) ?_
  have eq:i=ow.length:=by omega
  subst eq
  have el:(heldV ow vs gr).length=(rowsP (fun i=>decide (ow.getD i 0∈gr)) ow.length).length:=by unfold heldV;rw[List.length_map]
  refine KW.retM1 U U U U (fun H1 g=>?_)
  have hm:=MkL.of (xs:=heldV ow vs gr) g (j:=1) rfl (g.ge (H1:=H) (j:=1) rfl)
  rw[el] at hm
  exact hm
end
end Go.Proofs.Ytlapbbffoapleaa.Am
namespace Go.Proofs.Ytlapbbffoapleaa.Am
open Go Go.RowKit Go.Proofs
inductive Gt where
 | mk (h l:Int) (ks:List Gt)
def Gt.h:Gt→Int | .mk h _ _=>h
def Gt.l:Gt→Int | .mk _ l _=>l
def Gt.ks:Gt→List Gt | .mk _ _ ks=>ks
def SlR {α:Type} (es:Nat) (R:Ids→AH→α→List Value→Prop) (S:Ids) (H:AH) (s:Value) (xs:List α):Prop:=
 (xs=[]∧∃a c,s=.slice a 0 c∧(a=none→c=0))∨∃id k c b,s=.slice (some ⟨id,k,some es⟩) xs.length c∧xs.length≤c∧S id∧H.m id=some b∧k+xs.length*es≤b.cells.length∧
  ∀(i:Nat) x,xs[i]?=some x→R S H x ((b.cells.drop (k+i*es)).take es)
def RG:Nat→Ids→AH→Gt→List Value→Prop
 | 0,_,_,g,cs=>g.ks=[]∧∃a c,cs=[.int .i64 g.h,.int .i64 g.l,.slice a 0 c]∧(a=none→c=0)
 | d+1,S,H,g,cs=>∃s,cs=[.int .i64 g.h,.int .i64 g.l,s]∧SlR 3 (RG d) S H s g.ks
theorem RG.len:∀(d:Nat) {S:Ids} {H:AH} {g:Gt} {cs:List Value},RG d S H g cs→cs.length=3
 | 0,_,_,_,_,⟨_,_,_,h,_⟩=>by rw[h];rfl
 | d+1,_,_,_,_,⟨_,h,_⟩=>by rw[h];rfl
theorem RG.same:∀(d:Nat) {S:Ids} {H H':AH} {g:Gt} {cs:List Value},(∀id,S id→H'.m id=H.m id)→RG d S H g cs→RG d S H' g cs
 | 0,_,_,_,_,_,_,h=>h
 | d+1,_,_,_,_,_,hs,⟨s,h,h2⟩=>⟨s,h,by
  rcases h2 with h2 | ⟨id,k,c,b,e1,e2,e3,e4,e5,e6⟩
  ·exact .inl h2
  ·exact .inr ⟨id,k,c,b,e1,e2,e3,by rw[hs id e3];exact e4,e5,fun i x hx=>RG.same d hs (e6 i x hx)⟩⟩
theorem RG.more:∀(d:Nat) {S S':Ids} {H:AH} {g:Gt} {cs:List Value},(∀id,S id→S' id)→RG d S H g cs→RG d S' H g cs
 | 0,_,_,_,_,_,_,h=>h
 | d+1,_,_,_,_,_,hS,⟨s,h,h2⟩=>⟨s,h,by
  rcases h2 with h2 | ⟨id,k,c,b,e1,e2,e3,e4,e5,e6⟩
  ·exact .inl h2
  ·exact .inr ⟨id,k,c,b,e1,e2,hS id e3,e4,e5,fun i x hx=>RG.more d hS (e6 i x hx)⟩⟩
def KG (d:Nat):Kn Gt where
 es:=3
 R:=RG d
 len:=RG.len d
 same:=RG.same d
 more:=RG.more d
theorem RG.form {d:Nat} {S:Ids} {H:AH} {g:Gt} {cs:List Value} (h:RG d S H g cs):∃a c,cs=[.int .i64 g.h,.int .i64 g.l,.slice a g.ks.length c]∧(g.ks=[]∨∃d',d=d'+1∧(KG d').Sl S H (.slice a g.ks.length c) g.ks):=by
 cases d with
 | zero=>
  obtain⟨h0,a,c,h1,_⟩:=h
  exact⟨a,c,by rw[h1,h0];rfl,.inl h0⟩
 | succ d=>
  obtain⟨s,h1,h2⟩:=h
  have h2:(KG d).Sl S H s g.ks:=h2
  obtain⟨a,c,rfl⟩:=h2.form
  exact⟨a,c,h1,.inr ⟨d,rfl,h2⟩⟩
def GF (n:Int):Nat→Gt→Prop
 | 0,g=>g.ks=[]∧g.l=0∧0≤g.h∧g.h<n
 | d+1,g=>(g.ks=[]∧g.l=0∧0≤g.h∧g.h<n)∨(g.ks≠[]∧g.h=-1∧1≤g.l∧g.l≤g.ks.length∧g.ks.length≤4∧∀k∈g.ks,GF n d k)
theorem GF.kids {n:Int} {d:Nat} {g:Gt} (h:GF n d g):g.ks.length≤4:=by
 cases d with
 | zero=>rw[h.1];exact Nat.zero_le _
 | succ d=>
  rcases h with h | h
  ·rw[h.1];exact Nat.zero_le _
  ·exact h.2.2.2.2.1
theorem GF.least {n:Int} {d:Nat} {g:Gt} (h:GF n d g):0≤g.l∧g.l≤4:=by
 cases d with
 | zero=>rw[h.2.1];decide
 | succ d=>
  rcases h with h | h
  ·rw[h.2.1];decide
  ·have:=h.2.2.2.2.1;have:=h.2.2.2.1;have:=h.2.2.1;omega
theorem GF.kid {n:Int} {d:Nat} {g k:Gt} (h:GF n (d+1) g) (hk:k∈g.ks):GF n d k:=by
 rcases h with h | h
 ·rw[h.1] at hk;cases hk
 ·exact h.2.2.2.2.2 k hk
def NW (p:Int):Nat→Gt→Prop
 | 0,g=>(g.ks.length:Int)<p
 | d+1,g=>(g.ks.length:Int)<p∧∀k∈g.ks,NW p d k
section
variable {S:Ids} {H0:AH}
theorem l02Left {n:Int}:∀(d:Nat) {S:Ids} {H0:AH} {g:Gt} {cs:List Value} {id k:Nat} {left:Int},GF n d g→RG d S H0 g cs→Has3 S H0 id k cs→(0≤left∧left≤100)→
  Spec Try.prog S H0 250 [.pointer (some ⟨id,k,none⟩),.int .i64 left] (fun v=>∃r:Int,v=.int .i64 r∧-1≤r∧r≤left-1):=by
 intro d
 induction d with
 | zero=>
  intro S H0 g cs id k left hg hR hv hl
  obtain⟨a,c,rfl,hk⟩:=hR.form
  have hk0:=hg.1
  refine Spec.of1 Try.func250 rfl (by kernel_rfl) rfl (fun H _=>?_)
  have hv:=hv.up (S':=Low H.n) (H':=H)
  have ew:IntKind.i64.wrap (left-1)=left-1:=wr (by omega) (by omega)
  refine KW.lp U U (fun _:Unit=>[(0,.pointer (some ⟨id,k,none⟩)),(1,.int .i64 (left-1)),(5,.int .i64 0)]) (fun _=>True) (fun _=>0) (()) (trivial) ⟨rfl,congrArg (Value.int .i64) ew,rfl,trivial⟩ (fun _ hi bE n=>?_)
  refine KW.ldF 2 hv U U U U U U U U U ?_
  refine KW.tno U U (by rw[hk0];simp) ?_
  refine KW.cF U U (by first | (simp;done) | decide) ?_
  exact KW.ret U U U U (⟨_,rfl,by omega,Int.le_refl _⟩)
 | succ d ih=>
  intro S H0 g cs id k left hg hR hv hl
  obtain⟨a,c,rfl,hk⟩:=hR.form
  have h4:=hg.kids
  refine Spec.of1 Try.func250 rfl (by kernel_rfl) rfl (fun H _=>?_)
  have hv:=hv.up (S':=Low H.n) (H':=H)
  have ew:IntKind.i64.wrap (left-1)=left-1:=wr (by omega) (by omega)
  refine KW.lp U U (fun s:Nat × Int=>[(0,.pointer (some ⟨id,k,none⟩)),(1,.int .i64 s.2),(5,.int .i64 s.1)]) (fun s=>s.1≤g.ks.length∧-1≤s.2∧s.2≤left-1) (fun s=>g.ks.length-s.1) ((0,left-1)) (⟨Nat.zero_le _,by simp only;omega,Int.le_refl _⟩) ⟨rfl,congrArg (Value.int .i64) ew,rfl,trivial⟩ (fun s hi bE n=>?_)
  obtain⟨i,lf⟩:=s
  obtain⟨i1,i2,i3⟩:=hi
  simp only at i1 i2 i3
  refine KW.ldF 2 hv U U U U U U U U U ?_
  refine KW.tst U U (fun k1=>?_) (fun k1=>?_)
  ·have k1:(i:Int)<(g.ks.length:Int):=k1
   refine KW.cnd U U (fun k2=>?_) (fun k2=>?_)
   ·have k2:lf≥0:=k2
    rcases hk with hk | ⟨d',e,hk⟩
    ·rw[hk] at k1;simp at k1;omega
    obtain rfl:d'=d:=by omega
    refine KW.ldF 2 hv U U U U U U U U U ?_
    refine KW.adS hk.up U U U U U U U U U (by omega) (k1) (fun y cy id2 q hy hRy hat=>?_)
    have hy:g.ks[i]?=some y:=hy
    have hgy:=hg.kid (List.mem_of_getElem? hy)
    refine KW.call U U U U U (ih hgy hRy hat ⟨k2,by omega⟩) (fun v _ _ hv=>?_)
    obtain⟨r,rfl,r1,r2⟩:=hv
    refine KW.nxt U U (fun H' g=>⟨(i+1,r),⟨by simp only;omega,r1,by simp only;omega⟩,by first | omega | (simp only;omega),⟨rfl,rfl,congrArg (Value.int .i64) (inc64 (by omega)),trivial⟩,g⟩)
   ·exact KW.ret U U U U (⟨_,rfl,i2,i3⟩)
  ·refine KW.cF U U (by first | (simp;done) | decide) ?_
   exact KW.ret U U U U (⟨_,rfl,i2,i3⟩)
theorem l00Max (a b:Int):Spec Try.prog S H0 183 [.int .i64 a,.int .i64 b] (fun v=>v=.int .i64 (if a>b then a else b)):=by
 refine Spec.of1 Try.func183 rfl (by kernel_rfl) rfl (fun H _=>?_)
 refine KW.cnd U U (fun h=>?_) (fun h=>?_)
 ·exact KW.ret U U U U (by rw[if_pos h];rfl)
 ·exact KW.ret U U U U (by rw[if_neg h];rfl)
theorem l02Depth {n:Int}:∀(d:Nat) {S:Ids} {H0:AH} {g:Gt} {cs:List Value} {id k:Nat},d≤100→GF n d g→RG d S H0 g cs→Has3 S H0 id k cs→
  Spec Try.prog S H0 251 [.pointer (some ⟨id,k,none⟩)] (fun v=>∃r:Int,v=.int .i64 r∧1≤r∧r≤d+1):=by
 intro d
 induction d with
 | zero=>
  intro S H0 g cs id k hd hg hR hv
  obtain⟨a,c,rfl,hk⟩:=hR.form
  have hk0:=hg.1
  refine Spec.of1 Try.func251 rfl (by kernel_rfl) rfl (fun H _=>?_)
  have hv:=hv.up (S':=Low H.n) (H':=H)
  refine KW.lp U U (fun _:Unit=>[(0,.pointer (some ⟨id,k,none⟩)),(3,.int .i64 0),(4,.int .i64 0)]) (fun _=>True) (fun _=>0) (()) (trivial) ⟨rfl,rfl,rfl,trivial⟩ (fun _ hi bE n=>?_)
  refine KW.ldF 2 hv U U U U U U U U U ?_
  refine KW.no U U (by rw[hk0];simp) ?_
  exact KW.ret U U U U (⟨1,rfl,by omega,by omega⟩)
 | succ d ih=>
  intro S H0 g cs id k hd hg hR hv
  obtain⟨a,c,rfl,hk⟩:=hR.form
  have h4:=hg.kids
  refine Spec.of1 Try.func251 rfl (by kernel_rfl) rfl (fun H _=>?_)
  have hv:=hv.up (S':=Low H.n) (H':=H)
  refine KW.lp U U (fun s:Nat × Int=>[(0,.pointer (some ⟨id,k,none⟩)),(3,.int .i64 s.2),(4,.int .i64 s.1)]) (fun s=>s.1≤g.ks.length∧0≤s.2∧s.2≤d+1) (fun s=>g.ks.length-s.1) ((0,0)) (⟨Nat.zero_le _,Int.le_refl _,by simp only;omega⟩) ⟨rfl,rfl,rfl,trivial⟩ (fun s hi bE n=>?_)
  obtain⟨i,m⟩:=s
  obtain⟨i1,i2,i3⟩:=hi
  simp only at i1 i2 i3
  refine KW.ldF 2 hv U U U U U U U U U ?_
  refine KW.cnd U U (fun k1=>?_) (fun k1=>?_)
  ·have k1:(i:Int)<(g.ks.length:Int):=k1
   rcases hk with hk | ⟨d',e,hk⟩
   ·rw[hk] at k1;simp at k1;omega
   obtain rfl:d'=d:=by omega
   refine KW.ldF 2 hv U U U U U U U U U ?_
   refine KW.adS hk.up U U U U U U U U U (by omega) (k1) (fun y cy id2 q hy hRy hat=>?_)
   have hy:g.ks[i]?=some y:=hy
   have hgy:=hg.kid (List.mem_of_getElem? hy)
   refine KW.call U U U U U (ih (by omega) hgy hRy hat) (fun v _ _ hv=>?_)
   obtain⟨r,rfl,r1,r2⟩:=hv
   refine KW.callE U U U U U (l00Max m r) (fun _ _=>?_)
   refine KW.nxt U U (fun H' g=>⟨(i+1,if m>r then m else r),⟨by simp only;omega,by simp only;split<;>omega,by simp only;split<;>omega⟩,by first | omega | (simp only;omega),⟨rfl,rfl,congrArg (Value.int .i64) (inc64 (by omega)),trivial⟩,g⟩)
  ·have ew:IntKind.i64.wrap (m+1)=m+1:=wr (by omega) (by omega)
   exact KW.ret U U U U (⟨m+1,congrArg (Value.int .i64) ew,by omega,by omega⟩)
end
section
variable {S:Ids} {H0:AH}
theorem l02FormLeaf {n h:Int} (hn:0≤n∧n≤1000) {id k:Nat} {a:Option Addr} {c:Nat} (hv:Has3 S H0 id k [.int .i64 h,.int .i64 0,.slice a 0 c]):
  Spec Try.prog S H0 252 [.int .i64 n,.pointer (some ⟨id,k,none⟩)] (fun v=>∃b:Bool,v=.bool b):=by
 refine Spec.of1 Try.func252 rfl (by kernel_rfl) rfl (fun H _=>?_)
 have hv:=hv.up (S':=Low H.n) (H':=H)
 refine KW.ldF 2 hv U U U U U U U U U ?_
 refine KW.yes U U (by simp) ?_
 refine KW.ldF 1 hv U U U U U U U U U ?_
 refine KW.tT U U (by simp) ?_
 refine KW.ldF 0 hv U U U U U U U U U ?_
 refine KW.callE U U U U U (l00In _ _ _) (fun _ _=>?_)
 exact KW.ret U U U U (⟨_,rfl⟩)
theorem l02Form {n:Int} (hn:0≤n∧n≤1000):∀(d:Nat) {S:Ids} {H0:AH} {g:Gt} {cs:List Value} {id k:Nat},GF n d g→RG d S H0 g cs→Has3 S H0 id k cs→
  Spec Try.prog S H0 252 [.int .i64 n,.pointer (some ⟨id,k,none⟩)] (fun v=>∃b:Bool,v=.bool b):=by
 intro d
 induction d with
 | zero=>
  intro S H0 g cs id k hg hR hv
  obtain⟨a,c,rfl,hk⟩:=hR.form
  rw[hg.1,hg.2.1] at hv
  exact l02FormLeaf hn hv
 | succ d ih=>
  intro S H0 g cs id k hg hR hv
  obtain⟨a,c,rfl,hk⟩:=hR.form
  rcases hg with hg0 | hg1
  ·rw[hg0.1,hg0.2.1] at hv
   exact l02FormLeaf hn hv
  obtain⟨g1,g2,g3,g4,g5,g6⟩:=hg1
  have hpos:0<g.ks.length:=List.length_pos_iff.2 g1
  rcases hk with hk | ⟨d',e,hk⟩
  ·exact absurd hk g1
  obtain rfl:d'=d:=by omega
  refine Spec.of1 Try.func252 rfl (by kernel_rfl) rfl (fun H _=>?_)
  have hv:=hv.up (S':=Low H.n) (H':=H)
  refine KW.ldF 2 hv U U U U U U U U U ?_
  refine KW.no U U (by omega) ?_
  refine KW.lp U U (fun i:Nat=>[(0,.int .i64 n),(1,.pointer (some ⟨id,k,none⟩)),(5,.int .i64 i)]) (fun i=>i≤g.ks.length) (fun i=>g.ks.length-i) (0) (Nat.zero_le _) ⟨rfl,rfl,rfl,trivial⟩ (fun i hi bE n=>?_)
  refine KW.ldF 2 hv U U U U U U U U U ?_
  refine KW.cnd U U (fun k1=>?_) (fun k1=>?_)
  ·have k1:(i:Int)<(g.ks.length:Int):=k1
   refine KW.ldF 2 hv U U U U U U U U U ?_
   refine KW.adS hk.up U U U U U U U U U (by omega) (k1) (fun y cy id2 q hy hRy hat=>?_)
   have hy:g.ks[i]?=some y:=hy
   refine KW.call U U U U U (ih (g6 y (List.mem_of_getElem? hy)) hRy hat) (fun v _ _ hv=>?_)
   obtain⟨b,rfl⟩:=hv
   refine KW.cndB U U (fun k2=>?_) (fun k2=>?_)
   ·exact KW.ret U U U U (⟨_,rfl⟩)
   ·refine KW.nxt U U (fun H' g=>⟨i+1,by omega,by first | omega | (simp only;omega),⟨rfl,rfl,congrArg (Value.int .i64) (inc64 (by omega)),trivial⟩,g⟩)
  ·refine KW.ldF 0 hv U U U U U U U U U ?_
   refine KW.tT U U (by rw[g2];rfl) ?_
   refine KW.ldF 1 hv U U U U U U U U U ?_
   refine KW.ldF 2 hv U U U U U U U U U ?_
   refine KW.callE U U U U U (l00In _ _ _) (fun _ _=>?_)
   exact KW.ret U U U U (⟨_,rfl⟩)
theorem l02Ok {n:Int} (hn:1≤n∧n≤7) {d:Nat} (hd:d≤50) {g:Gt} {cs:List Value} {id k:Nat} (hg:GF n d g) (hR:RG d S H0 g cs) (hv:Has3 S H0 id k cs):
  Spec Try.prog S H0 237 [.int .i64 n,.pointer (some ⟨id,k,none⟩)] (fun v=>∃b:Bool,v=.bool b):=by
 refine Spec.of1 Try.func237 rfl (by kernel_rfl) rfl (fun H _=>?_)
 refine KW.callE U U U U U (l00In _ _ _) (fun _ _=>?_)
 refine KW.tT U U (by simp;omega) ?_
 refine KW.call U U U U U (l02Left d hg (RG.more d (fun i h=>h) (On.R (d:=KG d) hR)) hv.up ⟨by decide,by decide⟩) (fun v _ _ hv=>?_)
 obtain⟨r,rfl,r1,r2⟩:=hv
 refine KW.tst U U (fun k1=>?_) (fun k1=>?_)
 ·refine KW.call U U U U U (l02Depth d (by omega) hg (On.R (d:=KG d) hR) hv.up) (fun v _ _ hv=>?_)
  obtain⟨m,rfl,m1,m2⟩:=hv
  refine KW.tst U U (fun k2=>?_) (fun k2=>?_)
  ·refine KW.call U U U U U (l02Form ⟨by omega,by omega⟩ d hg (On.R (d:=KG d) hR) hv.up) (fun v _ _ hv=>?_)
   obtain⟨b,rfl⟩:=hv
   exact KW.ret U U U U (⟨_,rfl⟩)
  ·exact KW.ret U U U U (⟨_,rfl⟩)
 ·refine KW.tF U U (by first | (simp;done) | decide) ?_
  exact KW.ret U U U U (⟨_,rfl⟩)
theorem l04Wide {n p:Int}:∀(d:Nat) {S:Ids} {H0:AH} {g:Gt} {cs:List Value} {id k:Nat},GF n d g→RG d S H0 g cs→Has3 S H0 id k cs→
  Spec Try.prog S H0 198 [.pointer (some ⟨id,k,none⟩),.int .i64 p] (fun v=>∃b:Bool,v=.bool b∧(b=false→NW p d g)):=by
 intro d
 induction d with
 | zero=>
  intro S H0 g cs id k hg hR hv
  obtain⟨a,c,rfl,hk⟩:=hR.form
  have hk0:=hg.1
  refine Spec.of1 Try.func198 rfl (by kernel_rfl) rfl (fun H _=>?_)
  have hv:=hv.up (S':=Low H.n) (H':=H)
  refine KW.ldF 2 hv U U U U U U U U U ?_
  refine KW.cnd U U (fun k1=>?_) (fun k1=>?_)
  ·exact KW.ret U U U U (⟨true,rfl,fun h=>by cases h⟩)
  have k1:¬(g.ks.length:Int)≥p:=k1
  refine KW.lp U U (fun _:Unit=>[(0,.pointer (some ⟨id,k,none⟩)),(1,.int .i64 p),(5,.int .i64 0)]) (fun _=>True) (fun _=>0) (()) (trivial) ⟨rfl,rfl,rfl,trivial⟩ (fun _ hi bE n=>?_)
  refine KW.ldF 2 hv U U U U U U U U U ?_
  refine KW.no U U (by rw[hk0];simp) ?_
  exact KW.ret U U U U (⟨false,rfl,fun _=>by show(g.ks.length:Int)<p;omega⟩)
 | succ d ih=>
  intro S H0 g cs id k hg hR hv
  obtain⟨a,c,rfl,hk⟩:=hR.form
  have h4:=hg.kids
  refine Spec.of1 Try.func198 rfl (by kernel_rfl) rfl (fun H _=>?_)
  have hv:=hv.up (S':=Low H.n) (H':=H)
  refine KW.ldF 2 hv U U U U U U U U U ?_
  refine KW.cnd U U (fun k1=>?_) (fun k1=>?_)
  ·exact KW.ret U U U U (⟨true,rfl,fun h=>by cases h⟩)
  have k1:¬(g.ks.length:Int)≥p:=k1
  refine KW.lp U U (fun i:Nat=>[(0,.pointer (some ⟨id,k,none⟩)),(1,.int .i64 p),(5,.int .i64 i)]) (fun i=>i≤g.ks.length∧∀j,j<i→∀y,g.ks[j]?=some y→NW p d y) (fun i=>g.ks.length-i) (0) (⟨Nat.zero_le _,fun j hj=>absurd hj (Nat.not_lt_zero _)⟩) ⟨rfl,rfl,rfl,trivial⟩ (fun i hi bE n=>?_)
  obtain⟨i1,i2⟩:=hi
  refine KW.ldF 2 hv U U U U U U U U U ?_
  refine KW.cnd U U (fun k2=>?_) (fun k2=>?_)
  ·have k2:(i:Int)<(g.ks.length:Int):=k2
   rcases hk with hk | ⟨d',e,hk⟩
   ·rw[hk] at k2;simp at k2;omega
   obtain rfl:d'=d:=by omega
   refine KW.ldF 2 hv U U U U U U U U U ?_
   refine KW.adS hk.up U U U U U U U U U (by omega) (k2) (fun y cy id2 q hy hRy hat=>?_)
   have hy:g.ks[i]?=some y:=hy
   refine KW.call U U U U U (ih (hg.kid (List.mem_of_getElem? hy)) hRy hat) (fun v _ _ hv=>?_)
   obtain⟨b,rfl,hb⟩:=hv
   refine KW.cndB U U (fun k3=>?_) (fun k3=>?_)
   ·exact KW.ret U U U U (⟨true,rfl,fun h=>by cases h⟩)
   ·refine KW.nxt U U (fun H' g=>⟨i+1,⟨by omega,upto i2 (fun z hz=>by rw[hy] at hz;cases hz;exact hb k3)⟩,by first | omega | (simp only;omega),⟨rfl,rfl,congrArg (Value.int .i64) (inc64 (by omega)),trivial⟩,g⟩)
  ·have k2:¬(i:Int)<(g.ks.length:Int):=k2
   have hw:NW p (d+1) g:=⟨by omega,fun y hy=>by
    obtain⟨j,hj⟩:=List.getElem?_of_mem hy
    exact i2 j (by have:=(List.getElem?_eq_some_iff.1 hj).1;omega) y hj⟩
   exact KW.ret U U U U (⟨false,rfl,fun _=>hw⟩)
end
end Go.Proofs.Ytlapbbffoapleaa.Am
namespace Go.Proofs.Ytlapbbffoapleaa.Am
open Go Go.RowKit Go.Proofs Go.Proofs.Ytlapbbffoapleaa.Pl
theorem sw_len {L:List (List Int)} {n a:Nat}:(sw L n a).length=L.length:=by simp[sw]
def Mn (q:Nat) (op:Nat→Prop) (c:Nat):Prop:=op c∧∀h,h<q→c.testBit h=true→¬op (dif c (2 ^ h))
noncomputable def minsU (q:Nat) (op:Nat→Prop) (n:Nat):List (List Int):=((List.range n).filter fun c=>tv (Mn q op c)).map fun c=>hold c q
theorem sl_form {S:Ids} {A:AH} {v:Value} {x:List Int} (h:KI.Sl S A v x):∃a c,v=.slice a x.length c:=by
 rcases h with⟨rfl,a,c,e,_⟩ | ⟨id,k,c,b,e,_⟩
 ·exact⟨a,c,e⟩
 ·exact⟨_,c,e⟩
theorem RowsB.at_ {S V:Ids} {A:AH} {rows:List (List Int)} {cs:List Value} (h:RowsB KI.ml S A V rows cs) {j:Nat} {x:List Int} (hx:rows[j]?=some x):∃a c,cs[j]?=some (.slice a x.length c)∧KI.Sl S A (.slice a x.length c) x:=by
 obtain⟨v,W,h1,h2,h3,_⟩:=h.row1 hx
 obtain⟨a,c,rfl⟩:=sl_form h2.sl
 exact⟨a,c,h1,h2.sl.stX (fun i hi=>⟨h.sub i (h3 i hi),rfl⟩)⟩
theorem at_of {L:List (List Int)} {k:Nat} (h:k<L.length):∃x,L[k]?=some x∧L.getD k []=x:=⟨L[k],List.getElem?_eq_getElem h,by rw[List.getD_eq_getElem?_getD,List.getElem?_eq_getElem h];rfl⟩
theorem RowsB.back {S V Y:Ids} {A A1 A2:AH} {rows rows0:List (List Int)} {cs cs0:List Value} (h:RowsB KI.ml S A V rows cs) (h0:RowsB KI.ml Y A2 V rows0 cs0) (t:∀i,V i→A1.m i=A.m i):RowsB KI.ml Y A1 V rows cs:=by
 obtain⟨W,h1,h2,h3⟩:=h.rows
 refine⟨h.len,h0.sub,W,h1,h2,fun j x hx=>?_⟩
 obtain⟨v,h4,h5⟩:=h3 j x hx
 exact⟨v,h4,KI.ml.same (fun id hid=>t id (h1 j id hid)) h5⟩
structure IsS where
 k:Nat
 L:List (List Int)
 cs:List Value
section
variable {S:Ids} {H0:AH}
end
section
variable {S:Ids} {H0:AH}
end
end Go.Proofs.Ytlapbbffoapleaa.Am
namespace Go.Proofs.Ytlapbbffoapleaa.Am
open Go Go.RowKit Go.Proofs
abbrev T_Sequence:Type:=(List Int) × (List (List Int)) × (List (List Int))
abbrev M_Sequence:Kn T_Sequence:=Kn.mp (M_Int64S) (Kn.mp (M_Int64SS) (M_Int64SS))
section
variable {S:Ids} {H0:AH} {W:Ids} {left k:Int}
end
def Steps (gs:List (List Int)) (b x w:Nat):Prop:=Opens gs (x ||| w)∧¬Opens gs (b ||| w)
def Chd (gs:List (List Int)) (k b x:Nat):Prop:=x &&& k=0∧x≠b∧x &&& b=b∧¬Opens gs x
def Least (gs:List (List Int)) (k b x w:Nat) (ok:Bool):Prop:=
 (ok=true∧w≤k∧(k &&& w=w∧Steps gs b x w)∧∀v,v<w→¬(k &&& v=v∧Steps gs b x v))∨(ok=false∧w=0∧∀v,v≤k→¬(k &&& v=v∧Steps gs b x v))
section
variable {S:Ids} {H0:AH}
theorem steps {m:Nat} (hm:m≤7) (h:Int) {b x w:Nat} (hb:b<256) (hx:x<256) (hw:w<256) {gs:List (List Int)} (hsm:Sml gs) (hbe:Below' m gs) {a c} (hs:KI.sl.Sl S H0 (.slice a gs.length c) gs):
  Spec Try.prog S H0 115 [familyV h (.slice a gs.length c),.int .u64 b,.int .u64 x,.int .u64 w] (fun v=>v=.bool (tv (Steps gs b x w))):=by
 refine Spec.of1 Try.func115 rfl (by kernel_rfl) rfl (fun H _=>?_)
 have o1:x ||| w<2 ^ 8:=Nat.or_lt_two_pow (by omega) (by omega)
 have o2:b ||| w<2 ^ 8:=Nat.or_lt_two_pow (by omega) (by omega)
 have e8:(2:Nat) ^ 8=256:=by decide
 have e1:=or_u64 (a:=x) (b:=w) (by omega) (by omega)
 have e2:=or_u64 (a:=b) (b:=w) (by omega) (by omega)
 refine KW.callE U U U U U ((by show Spec _ _ _ _ [familyV h (.slice a gs.length c),.int .u64 (IntKind.u64.wrap _)] _;rw[e1];exact opens hm h (by omega) hsm hbe hs.up)) (fun _ _=>?_)
 refine KW.tstB U U (fun k1=>?_) (fun k1=>?_)
 ·have k1:=tv_iff.1 k1
  refine KW.callE U U U U U ((by show Spec _ _ _ _ [familyV h (.slice a gs.length c),.int .u64 (IntKind.u64.wrap _)] _;rw[e2];exact opens hm h (by omega) hsm hbe hs.up)) (fun _ _=>?_)
  refine KW.ret U U U U ?_
  show Value.bool (!tv (Opens gs (b ||| w)))=_
  by_cases k2:Opens gs (b ||| w)
  ·rw[tv_true k2,tv_false (p:=Steps gs b x w) (fun hc=>hc.2 k2)];rfl
  ·rw[tv_false k2,tv_true (p:=Steps gs b x w) ⟨k1,k2⟩];rfl
 ·exact KW.ret U U U U (by rw[tv_false (p:=Steps gs b x w) (fun hc=>by rw[tv_true hc.1] at k1;cases k1)];rfl)
theorem least {m:Nat} (hm:m≤7) (h:Int) {k b x:Nat} (hk:k<256) (hb:b<256) (hx:x<256) {gs:List (List Int)} (hsm:Sml gs) (hbe:Below' m gs) {a c} (hs:KI.sl.Sl S H0 (.slice a gs.length c) gs):
  Spec Try.prog S H0 173 [familyV h (.slice a gs.length c),.int .u64 k,.int .u64 b,.int .u64 x] (fun v=>∃(w:Nat) (ok:Bool),v=.tuple #[.int .u64 w,.bool ok]∧Least gs k b x w ok):=by
 refine Spec.of1 Try.func173 rfl (by kernel_rfl) rfl (fun H _=>?_)
 refine KW.lp U U (fun w:Nat=>[(1,.int .u64 k),(2,.int .u64 b),(3,.int .u64 x),(4,.pointer (some ⟨H.n,0,some 0⟩)),(10,.int .u64 w)]) (fun w=>w≤k+1∧∀v,v<w→¬(k &&& v=v∧Steps gs b x v)) (fun w=>k+1-w) (0) (⟨by omega,fun v hv=>absurd hv (by omega)⟩) ⟨rfl,rfl,rfl,rfl,rfl,trivial⟩ (fun w hi bE n=>?_)
 obtain⟨hw,hv⟩:=hi
 refine KW.cnd U U (fun k1=>?_) (fun k1=>?_)
 ·have k1:(w:Int)≤k:=k1
  refine KW.callE U U U U U (contains (x:=k) (y:=w) (by omega) (by omega)) (fun _ _=>?_)
  refine KW.tstB U U (fun k2=>?_) (fun k2=>?_)
  ·have k2:=tv_iff.1 k2
   refine KW.callE U U U U U (steps hm h (b:=b) (x:=x) (w:=w) hb hx (by omega) hsm hbe hs.up) (fun _ _=>?_)
   refine KW.cndB U U (fun k3=>?_) (fun k3=>?_)
   ·exact KW.ret U U U U (⟨w,true,rfl,.inl ⟨rfl,by omega,⟨k2,tv_iff.1 k3⟩,hv⟩⟩)
   ·refine KW.nxt U U (fun H' g=>⟨w+1,⟨by omega,upto hv (fun hc=>by rw[tv_true hc.2] at k3;cases k3)⟩,by first | omega | (simp only;omega),⟨rfl,rfl,rfl,rfl,congrArg (Value.int .u64) (incu64 (by omega)),trivial⟩,g⟩)
  ·refine KW.cF U U (by first | (simp;done) | decide) ?_
   refine KW.nxt U U (fun H' g=>⟨w+1,⟨by omega,upto hv (fun hc=>by rw[tv_true hc.1] at k2;cases k2)⟩,by first | omega | (simp only;omega),⟨rfl,rfl,rfl,rfl,congrArg (Value.int .u64) (incu64 (by omega)),trivial⟩,g⟩)
 ·have k1:¬(w:Int)≤k:=k1
  exact KW.ret U U U U (⟨0,false,rfl,.inr ⟨rfl,rfl,fun v hv'=>hv v (by omega)⟩⟩)
theorem Good.row1 {S0:Ids} {T:List Var} {n j id c:Nat} {H1 H2:AH} {ty:TypeId} {a:Option Addr} {c':Nat} {xs:List Int} (g:Good S0 H1 T n H2) (hT:T[j]?=some (id,⟨ty,true,[.slice a xs.length c']⟩)) (h:KI.Sl (Low H2.n) H2 (.slice a xs.length c') xs) (hc:1≤c):KI.sl.Sl (Low H2.n) H2 (.slice (some ⟨id,0,some 1⟩) [xs].length c) [xs]:=by
 have hb:=g.blk hT
 refine .inr ⟨id,0,c,_,rfl,hc,hb.2,hb.1,by simp[Kn.sl],fun i x hx=>?_⟩
 cases i with
 | zero=>cases hx;exact⟨_,rfl,h⟩
 | succ i=>simp at hx
end
end Go.Proofs.Ytlapbbffoapleaa.Am
/- Contracts: SequenceFor of the program. Each holds under its own conditions. -/
set_option linter.unusedVariables false
set_option linter.unusedSimpArgs false
set_option maxRecDepth 20000
namespace Go.Proofs.Ytlapbbffoapleaa.Am
open Go Go.RowKit Go.Proofs
theorem Least.one {gs:List (List Int)} {k b x w w':Nat} {ok ok':Bool} (h:Least gs k b x w ok) (h':Least gs k b x w' ok'):w=w'∧ok=ok':=by
 rcases h with⟨rfl,h1,h2,h3⟩ | ⟨rfl,rfl,h1⟩<;>rcases h' with⟨rfl,k1,k2,k3⟩ | ⟨rfl,rfl,k1⟩
 ·rcases Nat.lt_trichotomy w w' with h | h | h
  ·exact absurd h2 (k3 w h)
  ·exact⟨h,rfl⟩
  ·exact absurd k2 (h3 w' h)
 ·exact absurd h2 (k1 w h1)
 ·exact absurd k2 (h1 w' (by omega))
 ·exact⟨rfl,rfl⟩
def bef (ns:List Nat) (i:Nat):Nat:=if i=0 then 0 else ns.getD (i-1) 0
open Classical in
noncomputable def leastW (gs:List (List Int)) (k b x:Nat):Nat:=if h:∃w,Least gs k b x w true then Classical.choose h else 0
def OkAt (gs:List (List Int)) (k:Nat) (ns:List Nat) (i:Nat):Prop:=Chd gs k (bef ns i) (ns.getD i 0)∧∃w,Least gs k (bef ns i) (ns.getD i 0) w true
abbrev nums (chain:List (List Int)):List Nat:=chain.map bitsOf
noncomputable def withAt (gs:List (List Int)) (k:Nat) (ns:List Nat) (i:Nat):List Int:=hold (leastW gs k (bef ns i) (ns.getD i 0)) 7
noncomputable def withs (gs:List (List Int)) (k:Nat) (ns:List Nat) (n:Nat):List (List Int):=(List.range n).map (withAt gs k ns)
def MkQC (r:T_Sequence) (code:Int) (n:Nat) (v:Value) (H1:AH):Prop:=∃cs:List Value,v=.tuple #[.agg cs.toArray,.int .i64 code]∧M_Sequence.R (New n H1.n) H1 r cs
theorem nilM {X:Ids} {H:AH} {α:Type} {d:Kn α}:d.ml.R X H [] [.slice none 0 0]:=ml1' (.inl ⟨rfl,_,_,rfl,fun _=>rfl⟩)
theorem seqNil {X:Ids} {H:AH}:M_Sequence.R X H ([],[],[]) [.slice none 0 0,.slice none 0 0,.slice none 0 0]:=
 mpR (X:=None_) (cs:=[.slice none 0 0]) nilM (mpR (X:=None_) (Y:=None_) (cs:=[.slice none 0 0]) nilM nilM (fun _ p=>p.elim) (fun _ p=>p.elim) (fun _ p _=>p.elim)) (fun _ p=>p.elim) (fun _ p=>p) (fun _ p _=>p.elim)
theorem MkQC.nil {code:Int} {n:Nat} {v:Value} {H1:AH} (hv:v=.tuple #[.agg #[.slice none 0 0,.slice none 0 0,.slice none 0 0],.int .i64 code]):MkQC ([],[],[]) code n v H1:=⟨_,hv,seqNil⟩
structure SqS where
 i:Nat
 S:Ids
 A:AH
 l1:Value
 l2:Value
 tail:List Var
 V1:Ids
 V2:Ids
 c1:List Value
 c2:List Value
structure SqI (gs:List (List Int)) (k:Nat) (chain:List (List Int)) (SA:Ids) (HA:AH) (s:SqS):Prop where
 le:s.i≤chain.length
 old:St SA HA s.S s.A
 b1:RowsB KI.ml s.S s.A s.V1 (chain.take s.i) s.c1
 b2:RowsB KI.ml s.S s.A s.V2 (withs gs k (nums chain) s.i) s.c2
 v1:∀id,s.V1 id→HA.n≤id
 v2:∀id,s.V2 id→HA.n≤id
 dis:∀id,s.V1 id→s.V2 id→False
 ok:∀j,j<s.i→OkAt gs k (nums chain) j
 form:(s.i=0∧s.l1=.slice none 0 0∧s.l2=.slice none 0 0∧s.tail=[]∧s.c1=[]∧s.c2=[])∨(0<s.i∧∃o1 o2,s.l1=.slice (some ⟨o1,0,some 1⟩) s.i s.i∧s.l2=.slice (some ⟨o2,0,some 1⟩) s.i s.i∧s.tail=[(o1,⟨36,true,s.c1⟩),(o2,⟨36,true,s.c2⟩)])
theorem SqI.next {gs:List (List Int)} {k:Nat} {chain:List (List Int)} {SA:Ids} {HA:AH} {s:SqS} (h:SqI gs k chain SA HA s) {SC SG:Ids} {HC HG:AH} {n1 n2:Nat} {y:List Int} {v1 v2 l1 l2:Value} {tail:List Var} (t1:St s.S s.A SC HC) (t2:St SC HC SG HG) (w1:On (New n1 HC.n) HC SC HC) (w2:On (New n2 HG.n) HG SG HG) (low:∀id,s.S id→id<n1) (hn:HA.n≤n1) (hn2:HC.n≤n2) (hn3:n1≤HC.n) (hy:chain[s.i]?=some y) (hc:KI.Ml (New n1 HC.n) HC v1 y) (hg:KI.Ml (New n2 HG.n) HG v2 (withAt gs k (nums chain) s.i)) (ok:OkAt gs k (nums chain) s.i)
  (form:0<s.i+1∧∃o1 o2,l1=.slice (some ⟨o1,0,some 1⟩) (s.i+1) (s.i+1)∧l2=.slice (some ⟨o2,0,some 1⟩) (s.i+1) (s.i+1)∧tail=[(o1,⟨36,true,s.c1++[v1]⟩),(o2,⟨36,true,s.c2++[v2]⟩)]):
  SqI gs k chain SA HA ⟨s.i+1,SG,HG,l1,l2,tail,fun id=>s.V1 id∨New n1 HC.n id,fun id=>s.V2 id∨New n2 HG.n id,s.c1++[v1],s.c2++[v2]⟩:=by
 obtain⟨hil,rfl⟩:=List.getElem?_eq_some_iff.1 hy
 haveI o1:On s.S s.A SC HC:=⟨t1⟩
 haveI o2:On SC HC SG HG:=⟨t2⟩
 have et:chain.take (s.i+1)=chain.take s.i++[chain[s.i]]:=List.take_succ_eq_append_getElem hil
 have ew:withs gs k (nums chain) (s.i+1)=withs gs k (nums chain) s.i++[withAt gs k (nums chain) s.i]:=by unfold withs;rw[List.range_succ,List.map_append];rfl
 have lowV1:∀id,s.V1 id→id<n1:=fun id hid=>low id (h.b1.sub id hid)
 have lowV2:∀id,s.V2 id→id<n1:=fun id hid=>low id (h.b2.sub id hid)
 have c2:KI.ml.R (New n1 HC.n) HG chain[s.i] [v1]:=ml1' (hc.same (fun id hid=>(t2 id (w1.st id hid).1).2))
 refine⟨by simp only;omega,(h.old.trans t1).trans t2,?_,?_,fun id hid=>hid.elim (h.v1 id) (fun p=>by have:=p.1;omega),fun id hid=>hid.elim (h.v2 id) (fun p=>by have:=p.1;omega),fun id p q=>?_,upto h.ok ok,.inr form⟩
 ·simp only[et]
  exact((h.b1.up (S':=SC) (A':=HC)).up (S':=SG) (A':=HG)).snoc c2 (fun id hid=>(t2 id (w1.st id hid).1).1) (fun id p q=>by have:=lowV1 id p;have:=q.1;omega)
 ·simp only[ew]
  exact((h.b2.up (S':=SC) (A':=HC)).up (S':=SG) (A':=HG)).snoc (ml1' hg) (fun id hid=>(w2.st id hid).1) (fun id p q=>by have:=lowV2 id p;have:=q.1;omega)
 ·rcases p with p | p<;>rcases q with q | q
  ·exact h.dis id p q
  ·have:=lowV1 id p;have:=q.1;omega
  ·have:=lowV2 id q;have:=p.1;omega
  ·have:=p.2;have:=q.1;omega
section
variable {S:Ids} {H0:AH}
end
end Go.Proofs.Ytlapbbffoapleaa.Am

namespace Go.Proofs.Ytlapbbffoapleaa.Am
open Go Go.RowKit Go.Proofs
section
variable {S:Ids} {H0:AH}
end
section
variable {S:Ids} {H0:AH}
end
section
variable {S:Ids} {H0:AH}
end
section
variable {S:Ids} {H0:AH}
end
end Go.Proofs.Ytlapbbffoapleaa.Am
namespace Go.Proofs.Ytlapbbffoapleaa.Am
open Go Go.RowKit Go.Proofs Go.Proofs.Ytlapbbffoapleaa.Pl
structure CrS where
 j:Nat
 S:Ids
 A:AH
 V:Ids
 cs:List Value
 o:Nat
structure CrI (q:Nat) (op:Nat→Prop) (H:AH) (s:CrS):Prop where
 le:s.j≤2 ^ q
 old:St (Low H.n) H s.S s.A
 b:RowsB KI.ml s.S s.A s.V (minsU q op s.j) s.cs
 v:∀id,s.V id→H.n≤id
 o:H.n≤s.o
section
variable {S:Ids} {H0:AH}
end
section
variable {S:Ids} {H0:AH}
end
section
variable {S:Ids} {H0:AH}
structure Tb (gs:List (List Int)) (N b:Nat) (cs:List Bool):Prop where
 len:cs.length=N
 done:∀j,j<b→cs[j]?=some (tv (Opens gs j))
 rest:∀j,b<j→j<N→cs[j]?=some false
end
section
variable {S:Ids} {H0:AH}
end
section
variable {S:Ids} {H0:AH}
end
end Go.Proofs.Ytlapbbffoapleaa.Am
namespace Go.Proofs.Ytlapbbffoapleaa.Am
open Go Go.RowKit Go.Proofs

end Go.Proofs.Ytlapbbffoapleaa.Am
namespace Go.Proofs.Ytlapbbffoapleaa.Am
open Go Go.RowKit Go.Proofs Go.Proofs.Ytlapbbffoapleaa.Pl

theorem RowsB.mv {S S' V:Ids} {A A':AH} {rows:List (List Int)} {cs:List Value} (h:RowsB KI.ml S A V rows cs) (t:∀i,V i→S' i∧A'.m i=A.m i):RowsB KI.ml S' A' V rows cs:=by
 obtain⟨W,h1,h2,h3⟩:=h.rows
 refine⟨h.len,fun i hi=>(t i hi).1,W,h1,h2,fun j x hx=>?_⟩
 obtain⟨v,h4,h5⟩:=h3 j x hx
 exact⟨v,h4,KI.ml.same (fun id hid=>(t id (h1 j id hid)).2) h5⟩
theorem rises_weak {h h':Int} (hh:h≤h') {g:List Int} (hr:Rises 0 h g):Rises 0 h' g:=fun i hi=>by
 have:=hr i hi
 exact⟨⟨this.1.1,by have:=this.1.2;omega⟩,this.2⟩
theorem rises_snoc {h:Nat} {g:List Int} (hr:Rises 0 ((h:Int)-1) g):Rises 0 (h:Int) (g++[(h:Int)]):=fun i hi=>by
 have hl:∀j,j<g.length→(g++[(h:Int)]).getD j 0=g.getD j 0:=fun j hj=>by
  rw[List.getD_eq_getElem?_getD,List.getD_eq_getElem?_getD,List.getElem?_append_left hj]
 have hz:(g++[(h:Int)]).getD g.length 0=h:=by rw[List.getD_eq_getElem?_getD];simp
 have hi:i<g.length+1:=by simpa using hi
 unfold RiseAt
 by_cases e:i=g.length
 ·rw[e,hz]
  refine⟨⟨by omega,Int.le_refl _⟩,fun h0=>?_⟩
  rw[hl _ (by omega)]
  have:=(hr (g.length-1) (by omega)).1.2
  omega
 ·have h3:=hr i (by omega)
  rw[hl i (by omega)]
  refine⟨⟨h3.1.1,by have:=h3.1.2;omega⟩,fun h0=>?_⟩
  rw[hl _ (by omega)]
  exact h3.2 h0
structure DwE (H:AH) (id:Nat) (S:Ids) (A:AH):Prop where
 sid:S id
 old:∀i,Low H.n i∧i≠id→S i∧A.m i=H.m i
theorem DwE.w {H:AH} {id:Nat} {S S':Ids} {A A':AH} (e:DwE H id S A) (st:StW (fun i=>i=id) S A S' A'):DwE H id S' A':=
 ⟨(st id e.sid).1,fun i hi=>⟨(st i (e.old i hi).1).1,((st i (e.old i hi).1).2 hi.2).trans (e.old i hi).2⟩⟩
theorem DwE.s {H:AH} {id:Nat} {S S':Ids} {A A':AH} (e:DwE H id S A) (st:St S A S' A'):DwE H id S' A':=
 ⟨(st id e.sid).1,fun i hi=>⟨(st i (e.old i hi).1).1,(st i (e.old i hi).1).2.trans (e.old i hi).2⟩⟩
theorem DwE.kb {H:AH} {id:Nat} {S:Ids} {A:AH} {s:Value} {xs:List Int} (e:DwE H id S A) (h:KB.Sl (fun i=>Low H.n i∧i≠id) H s xs):KB.Sl (fun i=>S i∧i≠id) A s xs:=h.stX (fun i hi=>⟨⟨(e.old i hi).1,hi.2⟩,(e.old i hi).2⟩)
theorem Src.mv {ac:Option Addr} {n cc id at_:Nat} {A A':AH} (h:Src ac n cc A id at_) (e:A'.m id=A.m id):Src ac n cc A' id at_:=by
 obtain⟨sd,h⟩:=h
 exact⟨sd,e.trans h⟩
theorem DwE.nle {H:AH} {id n:Nat} {S:Ids} {A:AH} (e:DwE H id S A) (h:∀i,S i→i<n):H.n≤n:=by
 rcases Nat.lt_or_ge n H.n with h1 | h1
 ·by_cases e1:n=id
  ·have:=h id e.sid;omega
  ·have:=h n (e.old n ⟨h1,e1⟩).1;omega
 ·exact h1
structure DwS where
 i:Nat
 S:Ids
 A:AH
 at_:Nat
 V:Ids
 G:List (List Int)
 cs:List Value
 o:Nat
structure DwI (q a0:Nat) (H:AH) (id:Nat) (ac:Option Addr) (n cc:Nat) (s:DwS):Prop where
 env:DwE H id s.S s.A
 src:Src ac n cc s.A id s.at_
 at1:s.at_≤a0+20*s.G.length
 lo:1≤s.G.length+s.i
 hi:s.G.length+s.i≤4
 b:RowsB KI.ml s.S s.A s.V s.G s.cs
 v:∀i,s.V i→H.n≤i
 ok:∀g∈s.G,Rises 0 ((q:Int)-1) g∧g≠[]
structure DiS where
 h:Nat
 S:Ids
 A:AH
 at_:Nat
 xs:List Int
 o:Nat
structure DiI (a0:Nat) (H:AH) (id:Nat) (ac:Option Addr) (n cc:Nat) (V:Ids) (G:List (List Int)) (cs:List Value) (s:DiS):Prop where
 env:DwE H id s.S s.A
 src:Src ac n cc s.A id s.at_
 at1:s.at_≤a0+2*s.h
 b:RowsB KI.ml s.S s.A V G cs
 ok:Rises 0 ((s.h:Int)-1) s.xs
 len:s.xs.length≤s.h
section
variable {S:Ids} {H0:AH}
end
section
variable {S:Ids} {H0:AH}
theorem srcAmong {bs:List Int} (hb:∀x∈bs,0≤x∧x<256) (hl:bs.length≤1048576) {ac:Option Addr} {cc id at_:Nat} {Y:Ids} {ls:List Int} {a c} (hn:ls.length≤1000) (hn1:1≤ls.length) (hat:at_≤800000) (hS:S id) (hY:∀i,Y i→S i∧i≠id) (hsrc:Src ac bs.length cc H0 id at_) (hs:KB.Sl Y H0 (.slice ac bs.length cc) bs) (hls:KI.Sl Y H0 (.slice a ls.length c) ls):
  SpecW Try.prog S H0 (fun i=>i=id) 151 [.pointer (some ⟨id,0,none⟩),.slice a ls.length c] (fun _ v H1=>∃(y:Int) (at':Nat),y∈ls∧at_≤at'∧at'≤at_+2∧v=.int .i64 y∧Src ac bs.length cc H1 id at'):=by
 refine SpecW.of0 Try.func151 rfl (by kernel_rfl) rfl (fun H hfin hfz=>?_)
 have fx:∀i,S i→Low H.n i∧H.m i=H0.m i:=fun i hi=>hfz i hi
 have hid:id<H.n:=(fx id hS).1
 have t0:∀i,Y i→(Low H.n i∧i≠id)∧H.m i=H0.m i:=fun i hi=>⟨⟨(fx i (hY i hi).1).1,(hY i hi).2⟩,(fx i (hY i hi).1).2⟩
 have hsH:=hs.stX t0
 have hlH:=hls.stX t0
 have E0:DwE H id (Low H.n) H:=⟨hid,fun i hi=>⟨hi.1,rfl⟩⟩
 refine KW.callW (W:=fun i=>i=id) (fun i hi=>by subst hi;exact E0.sid) U U U U U (srcPick (S:=Low H.n) (H0:=H) hb hl (n:=(ls.length:Int)) (by omega) (by omega) E0.sid (fun i hi=>hi) (hsrc.mv (fx id hS).2) (E0.kb hsH)) (fun v H1 S1 hn1 st1 hw1 hp=>?_)
 obtain⟨z1,a1,hz1,l1,u1,rfl,src1⟩:=hp
 have hz1:=hz1 (by omega)
 have E1:=E0.w st1
 refine KW.getI ((hlH.stX (S':=S1) (H':=H1) (fun i hi=>E1.old i hi))) U U U U U U U U U U U U U U U U (by omega) (hz1) (fun y hy=>?_)
 refine KW.retW U U U U (fun H9 g=>by have:=g.n_;omega) (fun i hi hw=>E1.old i ⟨hi,hw⟩) (fun H9 g=>⟨y,a1,List.mem_of_getElem? hy,l1,u1,rfl,src1.mv (g.froz id E1.sid).2⟩)
end
end Go.Proofs.Ytlapbbffoapleaa.Am
namespace Go.Proofs.Ytlapbbffoapleaa.Am
open Go Go.RowKit Go.Proofs
structure SrcB (bs:List Int) (ac:Option Addr) (cc id:Nat) (Y S:Ids) (A:AH) (B:Nat):Prop where
 hb:∀x∈bs,0≤x∧x<256
 hl:bs.length≤1048576
 sid:S id
 y:∀i,Y i→S i∧i≠id
 src:∃at_,at_≤B∧Src ac bs.length cc A id at_
 kb:KB.Sl Y A (.slice ac bs.length cc) bs
section
variable {bs:List Int} {ac:Option Addr} {cc id B B':Nat} {Y W S S':Ids} {A A':AH}
theorem SrcB.w (h:SrcB bs ac cc id Y S A B) (st:StW W S A S' A') (hW:∀i,Y i→¬W i) (hs:∃at_,at_≤B'∧Src ac bs.length cc A' id at_):SrcB bs ac cc id Y S' A' B':=
 ⟨h.hb,h.hl,(st id h.sid).1,fun i hi=>⟨(st i (h.y i hi).1).1,(h.y i hi).2⟩,hs,h.kb.stX (fun i hi=>⟨hi,(st i (h.y i hi).1).2 (hW i hi)⟩)⟩
theorem SrcB.s (h:SrcB bs ac cc id Y S A B) (st:St S A S' A') (hB:B≤B'):SrcB bs ac cc id Y S' A' B':=
 ⟨h.hb,h.hl,(st id h.sid).1,fun i hi=>⟨(st i (h.y i hi).1).1,(h.y i hi).2⟩,by obtain⟨q,h1,h2⟩:=h.src;exact⟨q,by omega,h2.mv (st id h.sid).2⟩,h.kb.stX (fun i hi=>⟨hi,(st i (h.y i hi).1).2⟩)⟩
theorem SrcB.w1 (h:SrcB bs ac cc id Y S A B) (st:StW (fun i=>i=id) S A S' A') (hs:∃at_,at_≤B'∧Src ac bs.length cc A' id at_):SrcB bs ac cc id Y S' A' B':=h.w st (fun i hi e=>(h.y i hi).2 e) hs
end
structure GwE (H:AH) (W:Ids) (S:Ids) (A:AH):Prop where
 wid:∀i,W i→S i
 old:∀i,i<H.n→¬W i→S i∧A.m i=H.m i
theorem GwE.w {H:AH} {W W' S S':Ids} {A A':AH} (e:GwE H W S A) (st:StW W' S A S' A') (hW:∀i,W' i→W i∨H.n≤i):GwE H W S' A':=
 ⟨fun i hi=>(st i (e.wid i hi)).1,fun i h1 h2=>⟨(st i (e.old i h1 h2).1).1,((st i (e.old i h1 h2).1).2 (fun hh=>by rcases hW i hh with h | h;exact h2 h;omega)).trans (e.old i h1 h2).2⟩⟩
theorem GwE.s {H:AH} {W S S':Ids} {A A':AH} (e:GwE H W S A) (st:St S A S' A'):GwE H W S' A':=
 ⟨fun i hi=>(st i (e.wid i hi)).1,fun i h1 h2=>⟨(st i (e.old i h1 h2).1).1,((st i (e.old i h1 h2).1).2).trans (e.old i h1 h2).2⟩⟩
section
variable {S:Ids} {H0:AH} {bs:List Int} {ac:Option Addr} {cc id B:Nat} {Y:Ids}
theorem pickB {n:Int} (h:SrcB bs ac cc id Y S H0 B) (hB:B≤900000) (hn:n≤1000000):SpecW Try.prog S H0 (fun i=>i=id) 80 [.pointer (some ⟨id,0,none⟩),.int .i64 n] (fun _ v H1=>∃z:Nat,(1≤n→(z:Int)<n)∧v=.int .i64 z∧∃at_,at_≤B+2∧Src ac bs.length cc H1 id at_):=fun H hf hz=>by
 obtain⟨q,h1,h2⟩:=h.src
 obtain⟨m,v,H1,k1,k2,k3,k4,z,at',k5,k6,k7,k8,k9⟩:=srcPick h.hb h.hl hn (show q≤900000 by omega) h.sid h.y h2 h.kb H hf hz
 exact⟨m,v,H1,k1,k2,k3,k4,z,k5,k8,at',by omega,k9⟩
theorem oneB {n:Int} (h:SrcB bs ac cc id Y S H0 B) (hB:B≤900000) (hn:n≤1000000):SpecW Try.prog S H0 (fun i=>i=id) 75 [.pointer (some ⟨id,0,none⟩),.int .i64 n] (fun _ v H1=>∃b:Bool,v=.bool b∧∃at_,at_≤B+2∧Src ac bs.length cc H1 id at_):=fun H hf hz=>by
 obtain⟨q,h1,h2⟩:=h.src
 obtain⟨m,v,H1,k1,k2,k3,k4,b,at',k6,k7,k8,k9⟩:=srcOne h.hb h.hl hn (show q≤900000 by omega) h.sid h.y h2 h.kb H hf hz
 exact⟨m,v,H1,k1,k2,k3,k4,b,k8,at',by omega,k9⟩
theorem built_Leaf (h:Int):Try.prog.built 206 [(0,.int .i64 h)]=some #[.int .i64 h,.int .i64 0,.slice none 0 0]:=by kernel_rfl
theorem built_Gate (h l:Int) (a:Option Addr) (n c:Nat):Try.prog.built 206 [(0,.int .i64 h),(1,.int .i64 l),(2,.slice a n c)]=some #[.int .i64 h,.int .i64 l,.slice a n c]:=by kernel_rfl
theorem l02Leaf (h:Int):Spec Try.prog S H0 238 [.int .i64 h] (fun v=>v=.agg #[.int .i64 h,.int .i64 0,.slice none 0 0]):=by
 refine Spec.of1 Try.func238 rfl (by kernel_rfl) rfl (fun H _=>?_)
 refine KW.build U U U U U (built_Leaf _) ?_
 exact KW.ret U U U U (rfl)
theorem l02Gate (l:Int) (a:Option Addr) (n c:Nat):Spec Try.prog S H0 249 [.int .i64 l,.slice a n c] (fun v=>v=.agg #[.int .i64 (-1),.int .i64 l,.slice a n c]):=by
 refine Spec.of1 Try.func249 rfl (by kernel_rfl) rfl (fun H _=>?_)
 refine KW.build U U U U U (built_Gate _ _ _ _ _) ?_
 exact KW.ret U U U U (rfl)
end
def lcG:Nat→Nat
 | 0=>1
 | d+1=>1+4*lcG d
def scG:Nat→Nat
 | 0=>4
 | d+1=>8+4*scG d
theorem rg_leaf {S:Ids} {A:AH} {h:Int}:∀d,RG d S A (.mk h 0 []) [.int .i64 h,.int .i64 0,.slice none 0 0]
 | 0=>⟨rfl,none,0,rfl,fun _=>rfl⟩
 | d+1=>⟨_,rfl,.inl ⟨rfl,none,0,rfl,fun _=>rfl⟩⟩
theorem gf_leaf {n h:Int} (h0:0≤h) (h1:h<n):∀d,GF n d (.mk h 0 [])
 | 0=>⟨rfl,rfl,h0,h1⟩
 | d+1=>.inl ⟨rfl,rfl,h0,h1⟩
def GrP (n:Int) (d:Nat) (bs:List Int) (ac:Option Addr) (cc id lid B:Nat) (left:Int) (m:Nat) (v:Value) (H1:AH):Prop:=
 ∃(g:Gt) (cs:List Value),v=.agg cs.toArray∧RG d (New m H1.n) H1 g cs∧GF n d g∧(∃at_,at_≤B+scG d∧Src ac bs.length cc H1 id at_)∧∃l':Int,H1.m lid=some ⟨2,true,[.int .i64 l']⟩∧left-lcG d≤l'∧l'≤100
structure GrS where
 m:Nat
 G:List Gt
 S:Ids
 A:AH
 V:Ids
 o:Nat
 cs:List Value
 lf:Int
structure GrI (n:Int) (d:Nat) (bs:List Int) (ac:Option Addr) (cc id lid:Nat) (Y:Ids) (B:Nat) (left:Int) (H:AH) (s:GrS):Prop where
 le:s.G.length+s.m≤4
 ge:1≤s.G.length+s.m
 src:SrcB bs ac cc id Y s.S s.A (B+4+s.G.length*scG d)
 E:GwE H (fun i=>i=id∨i=lid) s.S s.A
 lS:s.S lid
 lm:s.A.m lid=some ⟨2,true,[.int .i64 s.lf]⟩
 l1:left-1-(s.G.length*lcG d:Nat)≤s.lf
 l2:s.lf≤100
 cl:Cl (KG d) s.V s.A s.G s.cs
 cl3:s.cs.length=s.G.length*3
 v:∀i,s.V i→s.S i∧H.n≤i
 gf:∀g∈s.G,GF n d g
section
variable {bs:List Int} {ac:Option Addr} {cc id lid:Nat} {Y:Ids} {N:Int}
theorem l02Grown (hN:1≤N∧N≤7) (hid:id≠lid) (hYl:∀i,Y i→i≠lid):∀(d:Nat) {S:Ids} {H0:AH} {B:Nat} {left:Int},d≤4→SrcB bs ac cc id Y S H0 B→B+scG d≤800000→S lid→H0.m lid=some ⟨2,true,[.int .i64 left]⟩→(-100000≤left-lcG d∧left≤100)→
  SpecW Try.prog S H0 (fun i=>i=id∨i=lid) 236 [.pointer (some ⟨id,0,none⟩),.int .i64 N,.int .i64 d,.pointer (some ⟨lid,0,none⟩)] (GrP N d bs ac cc id lid B left):=by
 intro d
 induction d with
 | zero=>
  intro S H0 B left hd hsrc hB hlS hlm hlb
  simp only[scG,lcG] at hB hlb
  refine SpecW.of0 Try.func236 rfl (by kernel_rfl) rfl (fun H hfin hfz=>?_)
  have SB0:SrcB bs ac cc id Y (Low H.n) H B:=hsrc.s (fun i hi=>hfz i hi) (Nat.le_refl _)
  have hlL:lid<H.n:=(hfz lid hlS).1
  have hlm0:H.m lid=some ⟨2,true,[.int .i64 left]⟩:=(hfz lid hlS).2.trans hlm
  have hL:Has3 (Low H.n) H lid 0 [.int .i64 left]:=⟨hlL,_,hlm0,fun i v hv=>by rw[Nat.zero_add];exact hv⟩
  have E0:GwE H (fun i=>i=id∨i=lid) (Low H.n) H:=⟨fun i hi=>by rcases hi with h | h;rw[h];exact SB0.sid;rw[h];exact hlL,fun i h _=>⟨h,rfl⟩⟩
  have ew:IntKind.i64.wrap (left-1)=left-1:=wr (by omega) (by omega)
  refine KW.ldF 0 hL U U U U U U U U U ?_
  refine KW.thaw lid _ hlL hlm0 ?_
  refine KW.st1 1 U U U U U U U U U U U U (by simp) ?_
  refine KW.freeze 1 rfl (fun A1 S1 hn1 hS1 st1 hm1 hlt1 hno1 hlow1=>?_)
  have w01:StW (fun i=>i=lid) (Low H.n) H S1 A1:=fun i hi=>by
   by_cases e:i=lid
   ·exact⟨(hS1 i).2 (.inr e),fun hh=>absurd e hh⟩
   ·exact⟨(st1.st i ⟨hi,e⟩).1,fun _=>(st1.st i ⟨hi,e⟩).2⟩
  have hlm1:A1.m lid=some ⟨2,true,[.int .i64 (left-1)]⟩:=by
   have h:A1.m lid=some ⟨2,true,[.int .i64 (IntKind.i64.wrap (left-1))]⟩:=hm1
   rw[ew] at h
   exact h
  have hl1S:S1 lid:=(hS1 _).2 (.inr rfl)
  have SB1:SrcB bs ac cc id Y S1 A1 B:=SB0.w w01 (fun i hi e=>hYl i hi e) (by obtain⟨q,h1,h2⟩:=SB0.src;exact⟨q,h1,h2.mv ((w01 id SB0.sid).2 hid)⟩)
  have E1:=E0.w w01 (fun i hi=>.inl (.inr hi))
  have hL1:Has3 S1 A1 lid 0 [.int .i64 (left-1)]:=⟨hl1S,_,hlm1,fun i v hv=>by rw[Nat.zero_add];exact hv⟩
  refine KW.tyes U U (by decide) ?_
  repeat first | refine KW.tT U U U ?_ | refine KW.tF U U U ?_
  refine KW.cT U U (by first | (simp;done) | decide) ?_
  ·have SX:=SB1
   have EX:=E1
   have hlSX:=hl1S
   have hlmX:=hlm1
   refine KW.callW (W:=fun i=>i=id) (fun i hi=>by subst hi;exact SX.sid) U U U U U (pickB (n:=N) SX (by omega) (by omega)) (fun v H7 S7 n7 st7 w7 hv7=>?_)
   obtain⟨z7,hz7,rfl,src7⟩:=hv7
   have hz7:=hz7 (by omega)
   have E7:=EX.w st7 (fun i hi=>.inl (.inl hi))
   have hlm7:H7.m lid=some ⟨2,true,[.int .i64 (left-1)]⟩:=((st7 lid hlSX).2 (fun e=>hid e.symm)).trans hlmX
   refine KW.callE U U U U U (l02Leaf (z7:Int)) (fun _ _=>?_)
   refine KW.retW U U U U (fun H9 g=>by have:=(g.vars 0 _ rfl).2.1;have:=g.n_;omega) (fun i h1 h2=>E7.old i h1 h2) (fun H9 g=>?_)
   obtain⟨q7,u7,src7⟩:=src7
   exact⟨.mk z7 0 [],_,rfl,rg_leaf _,gf_leaf (Int.natCast_nonneg _) hz7 _,⟨q7,by simp only[scG];omega,src7.mv (g.froz id (st7 id SX.sid).1).2⟩,left-1,(g.froz lid (st7 lid hlSX).1).2.trans hlm7,by simp only[lcG];omega,by omega⟩
 | succ d ih=>
  intro S H0 B left hd hsrc hB hlS hlm hlb
  have hsc:4≤scG d:=by cases d<;>simp only[scG]<;>omega
  simp only[scG,lcG] at hB hlb
  refine SpecW.of0 Try.func236 rfl (by kernel_rfl) rfl (fun H hfin hfz=>?_)
  have SB0:SrcB bs ac cc id Y (Low H.n) H B:=hsrc.s (fun i hi=>hfz i hi) (Nat.le_refl _)
  have hlL:lid<H.n:=(hfz lid hlS).1
  have hlm0:H.m lid=some ⟨2,true,[.int .i64 left]⟩:=(hfz lid hlS).2.trans hlm
  have hL:Has3 (Low H.n) H lid 0 [.int .i64 left]:=⟨hlL,_,hlm0,fun i v hv=>by rw[Nat.zero_add];exact hv⟩
  have E0:GwE H (fun i=>i=id∨i=lid) (Low H.n) H:=⟨fun i hi=>by rcases hi with h | h;rw[h];exact SB0.sid;rw[h];exact hlL,fun i h _=>⟨h,rfl⟩⟩
  have ew:IntKind.i64.wrap (left-1)=left-1:=wr (by omega) (by omega)
  refine KW.ldF 0 hL U U U U U U U U U ?_
  refine KW.thaw lid _ hlL hlm0 ?_
  refine KW.st1 1 U U U U U U U U U U U U (by simp) ?_
  refine KW.freeze 1 rfl (fun A1 S1 hn1 hS1 st1 hm1 hlt1 hno1 hlow1=>?_)
  have w01:StW (fun i=>i=lid) (Low H.n) H S1 A1:=fun i hi=>by
   by_cases e:i=lid
   ·exact⟨(hS1 i).2 (.inr e),fun hh=>absurd e hh⟩
   ·exact⟨(st1.st i ⟨hi,e⟩).1,fun _=>(st1.st i ⟨hi,e⟩).2⟩
  have hlm1:A1.m lid=some ⟨2,true,[.int .i64 (left-1)]⟩:=by
   have h:A1.m lid=some ⟨2,true,[.int .i64 (IntKind.i64.wrap (left-1))]⟩:=hm1
   rw[ew] at h
   exact h
  have hl1S:S1 lid:=(hS1 _).2 (.inr rfl)
  have SB1:SrcB bs ac cc id Y S1 A1 B:=SB0.w w01 (fun i hi e=>hYl i hi e) (by obtain⟨q,h1,h2⟩:=SB0.src;exact⟨q,h1,h2.mv ((w01 id SB0.sid).2 hid)⟩)
  have E1:=E0.w w01 (fun i hi=>.inl (.inr hi))
  have hL1:Has3 S1 A1 lid 0 [.int .i64 (left-1)]:=⟨hl1S,_,hlm1,fun i v hv=>by rw[Nat.zero_add];exact hv⟩
  refine KW.tno U U (by omega) ?_
  refine KW.ldF 0 hL1 U U U U U U U U U ?_
  refine KW.tst U U (fun k1=>?_) (fun k1=>?_)
  ·repeat first | refine KW.tT U U U ?_ | refine KW.tF U U U ?_
   refine KW.cT U U (by first | (simp;done) | decide) ?_
   have SX:=SB1
   have EX:=E1
   have hlSX:=hl1S
   have hlmX:=hlm1
   refine KW.callW (W:=fun i=>i=id) (fun i hi=>by subst hi;exact SX.sid) U U U U U (pickB (n:=N) SX (by omega) (by omega)) (fun v H7 S7 n7 st7 w7 hv7=>?_)
   obtain⟨z7,hz7,rfl,src7⟩:=hv7
   have hz7:=hz7 (by omega)
   have E7:=EX.w st7 (fun i hi=>.inl (.inl hi))
   have hlm7:H7.m lid=some ⟨2,true,[.int .i64 (left-1)]⟩:=((st7 lid hlSX).2 (fun e=>hid e.symm)).trans hlmX
   refine KW.callE U U U U U (l02Leaf (z7:Int)) (fun _ _=>?_)
   refine KW.retW U U U U (fun H9 g=>by have:=(g.vars 0 _ rfl).2.1;have:=g.n_;omega) (fun i h1 h2=>E7.old i h1 h2) (fun H9 g=>?_)
   obtain⟨q7,u7,src7⟩:=src7
   exact⟨.mk z7 0 [],_,rfl,rg_leaf _,gf_leaf (Int.natCast_nonneg _) hz7 _,⟨q7,by simp only[scG];omega,src7.mv (g.froz id (st7 id SX.sid).1).2⟩,left-1,(g.froz lid (st7 lid hlSX).1).2.trans hlm7,by simp only[lcG];omega,by omega⟩
  refine KW.callW (W:=fun i=>i=id) (fun i hi=>by subst hi;exact SB1.sid) U U U U U (oneB (n:=3) SB1 (by omega) (by omega)) (fun v H2 S2 n2 st2 w2 hv2=>?_)
  obtain⟨b2,rfl,src2⟩:=hv2
  have SB2:=SB1.w1 st2 src2
  have E2:=E1.w st2 (fun i hi=>.inl (.inl hi))
  have hl2S:=(st2 lid hl1S).1
  have hlm2:H2.m lid=some ⟨2,true,[.int .i64 (left-1)]⟩:=((st2 lid hl1S).2 (fun e=>hid e.symm)).trans hlm1
  refine KW.cndB U U (fun k2=>?_) (fun k2=>?_)
  ·have SX:=SB2
   have EX:=E2
   have hlSX:=hl2S
   have hlmX:=hlm2
   refine KW.callW (W:=fun i=>i=id) (fun i hi=>by subst hi;exact SX.sid) U U U U U (pickB (n:=N) SX (by omega) (by omega)) (fun v H7 S7 n7 st7 w7 hv7=>?_)
   obtain⟨z7,hz7,rfl,src7⟩:=hv7
   have hz7:=hz7 (by omega)
   have E7:=EX.w st7 (fun i hi=>.inl (.inl hi))
   have hlm7:H7.m lid=some ⟨2,true,[.int .i64 (left-1)]⟩:=((st7 lid hlSX).2 (fun e=>hid e.symm)).trans hlmX
   refine KW.callE U U U U U (l02Leaf (z7:Int)) (fun _ _=>?_)
   refine KW.retW U U U U (fun H9 g=>by have:=(g.vars 0 _ rfl).2.1;have:=g.n_;omega) (fun i h1 h2=>E7.old i h1 h2) (fun H9 g=>?_)
   obtain⟨q7,u7,src7⟩:=src7
   exact⟨.mk z7 0 [],_,rfl,rg_leaf _,gf_leaf (Int.natCast_nonneg _) hz7 _,⟨q7,by simp only[scG];omega,src7.mv (g.froz id (st7 id SX.sid).1).2⟩,left-1,(g.froz lid (st7 lid hlSX).1).2.trans hlm7,by simp only[lcG];omega,by omega⟩
  refine KW.litS0 U U U U U U U U U U ?_
  refine KW.callW (W:=fun i=>i=id) (fun i hi=>by subst hi;exact SB2.sid) U U U U U (pickB (n:=4) SB2 (by omega) (by omega)) (fun v H3 S3 n3 st3 w3 hv3=>?_)
  obtain⟨z3,hz3,rfl,src3⟩:=hv3
  have hz3:=hz3 (by omega)
  have SB3:=SB2.w1 st3 src3
  have E3:=E2.w st3 (fun i hi=>.inl (.inl hi))
  have hl3S:=(st3 lid hl2S).1
  have hlm3:H3.m lid=some ⟨2,true,[.int .i64 (left-1)]⟩:=((st3 lid hl2S).2 (fun e=>hid e.symm)).trans hlm2
  have e1z:IntKind.i64.wrap (1+(z3:Int))=((1+z3:Nat):Int):=by rw[wr (by omega) (by omega)];omega
  have hidL:id<H.n:=SB0.sid
  refine KW.lpM U U (fun s:GrS=>[(0,.pointer (some ⟨id,0,none⟩)),(1,.int .i64 N),(2,.int .i64 (d+1:Nat)),(3,.pointer (some ⟨lid,0,none⟩)),(8,.pointer (some ⟨H.n,0,some 0⟩)),(9,.slice (some ⟨s.o,0,some 3⟩) s.G.length s.G.length),(10,.int .i64 s.m)]) (fun s=>s.S) (fun s=>s.A) (fun s=>[(H.n,⟨206,true,[.int .i64 0,.int .i64 0,.slice none 0 0]⟩),(s.o,⟨206,true,s.cs⟩)]) (fun s=>GrI N d bs ac cc id lid Y B left H s) (fun s=>s.m) (⟨1+z3,[],S3,H3,fun _=>False,_,[],left-1⟩) (⟨by simp only[List.length_nil];omega,by simp only[List.length_nil];omega,SB3.s (fun i hi=>⟨hi,rfl⟩) (by simp only[List.length_nil];omega),E3,hl3S,hlm3,by simp only[List.length_nil];omega,by simp only;omega,Cl.nil _ _ _ _,rfl,fun _ h=>h.elim,fun g hg=>by cases hg⟩) ⟨rfl,rfl,rfl,rfl,rfl,rfl,congrArg (Value.int .i64) e1z,trivial⟩ U U (rfl) (fun s hi bE n=>?_)
  obtain⟨m,G,S4,A4,V,o,cs,lf⟩:=s
  refine KW.fact (p:=H.n<n) (fun H1 g=>(g.vars 0 _ rfl).2.1) (fun hfn=>?_)
  obtain⟨ile,ige,SB4,E4,l4S,lm4,b41,b42,cl4,cl3,hV,gf⟩:=hi
  simp only at ile ige SB4 E4 l4S lm4 b41 b42 cl4 cl3 hV gf
  have hmul:G.length*scG d≤4*scG d:=Nat.mul_le_mul_right _ (by omega)
  have hmul2:G.length*lcG d≤4*lcG d:=Nat.mul_le_mul_right _ (by omega)
  have hVW:∀i,V i→¬(i=id∨i=lid):=fun i hi hh=>by have:=(hV i hi).2;rcases hh with h | h<;>omega
  refine KW.cnd U U (fun k4=>?_) (fun k4=>?_)
  ·have k4:(m:Int)>0:=k4
   have hG3:(G.length+1)*scG d=G.length*scG d+scG d:=Nat.succ_mul _ _
   have hG4:(G.length+1)*lcG d=G.length*lcG d+lcG d:=Nat.succ_mul _ _
   have hG5:(G.length+1)*scG d≤4*scG d:=Nat.mul_le_mul_right _ (by omega)
   have hG6:(G.length+1)*lcG d≤4*lcG d:=Nat.mul_le_mul_right _ (by omega)
   have ed:IntKind.i64.wrap (((d+1:Nat):Int)-1)=(d:Int):=by rw[wr (by omega) (by omega)];omega
   have key:=ih (S:=S4) (H0:=A4) (B:=B+4+G.length*scG d) (left:=lf) (by omega) SB4 (by omega) l4S lm4 ⟨by omega,b42⟩
   rw[← ed] at key
   refine KW.callW (W:=fun i=>i=id∨i=lid) (fun i hi=>E4.wid i hi) U U U U U key (fun v H5 S5 n5 st5 w5 hv5=>?_)
   obtain⟨g5,cs5,rfl,hR5,hg5,src5,l5,hlm5,b51,b52⟩:=hv5
   obtain⟨ag,cg,rfl,_⟩:=hR5.form
   refine KW.litS1 U U U U U U U U U U U U ?_
   refine KW.appTS (m:=1) (ys:=[.int .i64 g5.h,.int .i64 g5.l,.slice ag g5.ks.length cg]) 1 U U U U U U U U (by decide) rfl (fun H1 g=>acells_seg (g.blk (j:=2) rfl).1 (by show 0+1*3≤3;decide)) (by show 0+G.length*3≤cs.length;omega) rfl (by decide) (by show(G.length+1)*40≤_;omega) (by show G.length+1≤_;omega) ?_
   have clm:Cl (KG d) (fun i=>V i∨New n H5.n i) H5 G cs:=cl4.mv (fun i hi=>(st5 i (hV i hi).1).2 (hVW i hi)) (fun i hi=>.inl hi)
   have cln:=clm.snoc (y:=g5) ((KG d).more (fun i hi=>.inr hi) hR5)
   have inv5:∀o9,GrI N d bs ac cc id lid Y B left H ⟨m-1,G++[g5],S5,H5,fun i=>V i∨New n H5.n i,o9,(cs.drop 0).take (G.length*3)++([.int .i64 g5.h,.int .i64 g5.l,.slice ag g5.ks.length cg]:List Value),l5⟩:=fun o9=>by
    refine⟨by simp only[List.length_append,List.length_singleton];omega,by simp only[List.length_append,List.length_singleton];omega,?_,E4.w st5 (fun i hi=>.inl hi),(st5 lid l4S).1,hlm5,?_,b52,cln,?_,fun i hi=>?_,fun g hg=>?_⟩
    ·refine SB4.w st5 (fun i hi hh=>hh.elim (SB4.y i hi).2 (hYl i hi)) ?_
     obtain⟨q,u,r⟩:=src5
     exact⟨q,by simp only[List.length_append,List.length_singleton];omega,r⟩
    ·simp only[List.length_append,List.length_singleton];omega
    ·simp only[List.length_append,List.length_singleton,List.length_take,List.length_drop,List.length_cons,List.length_nil];omega
    ·rcases hi with hi | hi
     ·exact⟨(st5 i (hV i hi).1).1,(hV i hi).2⟩
     ·exact⟨w5 i hi,by have:=hi.1;omega⟩
    ·rcases List.mem_append.1 hg with hg | hg
     ·exact gf g hg
     ·rw[List.mem_singleton.1 hg];exact hg5
   have em:IntKind.i64.wrap ((m:Int)-1)=((m-1:Nat):Int):=by rw[wr (by omega) (by omega)];omega
   refine KW.nxt U U (fun H' g=>⟨⟨m-1,G++[g5],S5,H5,fun i=>V i∨New n H5.n i,_,(cs.drop 0).take (G.length*3)++([.int .i64 g5.h,.int .i64 g5.l,.slice ag g5.ks.length cg]:List Value),l5⟩,inv5 _,by first | omega | (simp only;omega),⟨rfl,rfl,rfl,rfl,rfl,by simp only[List.length_append,List.length_singleton];rfl,congrArg (Value.int .i64) em,trivial⟩,(g.take 2).eqT rfl⟩)
  ·have k4:¬(m:Int)>0:=k4
   refine KW.callW (W:=fun i=>i=id) (fun i hi=>by subst hi;exact SB4.sid) U U U U U (pickB (n:=(G.length:Int)) SB4 (by omega) (by omega)) (fun v H5 S5 n5 st5 w5 hv5=>?_)
   obtain⟨z5,hz5,rfl,q5,u5,src5⟩:=hv5
   have hz5:=hz5 (by omega)
   have e5:IntKind.i64.wrap (1+(z5:Int))=1+(z5:Int):=wr (by omega) (by omega)
   refine KW.callE U U U U U (l02Gate (IntKind.i64.wrap (1+(z5:Int))) (some ⟨o,0,some 3⟩) G.length G.length) (fun _ _=>?_)
   refine KW.freeze 1 rfl (fun A6 S6 hn6 hS6 st6 hm6 hlt6 hno6 hlow6=>?_)
   have E5:=E4.w st5 (fun i hi=>.inl (.inl hi))
   have E6:=E5.s st6.st
   have ogeH:H.n≤o:=by
    rcases Nat.lt_or_ge o H.n with h | h
    ·by_cases e:o=id∨o=lid
     ·exact absurd (E5.wid o e) hno6
     ·exact absurd (E5.old o h e).1 hno6
    ·exact h
   refine KW.retW U U U U (fun H9 g=>by have:=(g.vars 0 _ rfl).2.1;have:=g.n_;omega) (fun i h1 h2=>E6.old i h1 h2) (fun H9 g=>?_)
   have fz:∀i,S4 i→i≠id→H9.m i=A4.m i∧i<H9.n:=fun i hi he=>by
    have h1:=st5 i hi
    have h2:=st6.st i h1.1
    have h3:=g.froz i h2.1
    have:=g.n_
    exact⟨h3.2.trans (h2.2.trans (h1.2 he)),by omega⟩
   have ho9:=g.froz o ((hS6 o).2 (.inr rfl))
   have hn9:=g.n_
   refine⟨.mk (-1) (IntKind.i64.wrap (1+(z5:Int))) G,_,rfl,⟨_,rfl,?_⟩,.inr ⟨fun h=>by have h:G=[]:=h;rw[h] at ige;simp at ige;omega,rfl,by show 1≤IntKind.i64.wrap _;rw[e5];omega,by show IntKind.i64.wrap _≤(G.length:Int);rw[e5];omega,by show G.length≤4;omega,gf⟩,⟨q5,by simp only[scG];omega,?_⟩,lf,?_,by simp only[lcG];omega,b42⟩
   ·have h1:(KG d).Sl (New H.n H9.n) H9 (.slice (some ⟨o,0,some 3⟩) G.length G.length) G:=Cl.sl (cl4.mv (fun i hi=>(fz i (hV i hi).1 (fun e=>hVW i hi (.inl e))).1) (fun i hi=>hi)) ⟨ogeH,by omega⟩ (ho9.2.trans hm6) rfl (fun i hi=>⟨(hV i hi).2,(fz i (hV i hi).1 (fun e=>hVW i hi (.inl e))).2⟩) (Nat.le_refl _)
    exact h1
   ·exact src5.mv ((g.froz id (st6.st id (st5 id SB4.sid).1).1).2.trans (st6.st id (st5 id SB4.sid).1).2)
   ·exact(fz lid l4S (fun e=>hid e.symm)).1.trans lm4
theorem l02Drawn (hN:1≤N∧N≤7) {S:Ids} {H0:AH} {B:Nat} (hsrc:SrcB bs ac cc id Y S H0 B) (hB:B≤700000):
  SpecW Try.prog S H0 (fun i=>i=id) 197 [.pointer (some ⟨id,0,none⟩),.int .i64 N,.int .i64 8] (fun m v H1=>∃(g:Gt) (cs:List Value),v=.agg cs.toArray∧RG 4 (New m H1.n) H1 g cs∧GF N 4 g∧∃at_,at_≤B+2000∧Src ac bs.length cc H1 id at_):=by
 refine SpecW.of0 Try.func197 rfl (by kernel_rfl) rfl (fun H hfin hfz=>?_)
 have SB0:SrcB bs ac cc id Y (Low H.n) H B:=hsrc.s (fun i hi=>hfz i hi) (Nat.le_refl _)
 have E0:GwE H (fun i=>i=id) (Low H.n) H:=⟨fun i hi=>by rw[hi];exact SB0.sid,fun i h _=>⟨h,rfl⟩⟩
 have hidL:id<H.n:=SB0.sid
 refine KW.callWF 1 U U U U U U (fun A9 S9 hn9 hS9 t9 hm9 ho9 hno9 hlt9=>?_)
 have SB9:=SB0.s (B':=B) t9.st (Nat.le_refl _)
 have E9:=E0.s t9.st
 have hYL:∀i,Y i→i<H.n:=fun i hi=>(SB0.y i hi).1
 refine⟨fun i=>i=id∨i=H.n+1,_,fun i hi=>by rcases hi with h | h;rw[h];exact SB9.sid;rw[h];exact(hS9 _).2 (.inr rfl),l02Grown (lid:=H.n+1) hN (by omega) (fun i hi=>by have:=hYL i hi;omega) 4 (B:=B) (left:=8) (by omega) SB9 (by simp only[scG];omega) ((hS9 _).2 (.inr rfl)) hm9 (by simp only[lcG];omega),fun v H1 S1 m1 t1 w1 hv=>?_⟩
 obtain⟨g,cs,rfl,hR,hg,src1,_⟩:=hv
 obtain⟨ag,cg,rfl,_⟩:=hR.form
 have E1:=E9.w t1 (fun i hi=>by rcases hi with h | h;exact .inl h;exact .inr (by omega))
 have SB1:=SB9.w t1 (fun i hi hh=>by rcases hh with h | h;exact(SB9.y i hi).2 h;have:=hYL i hi;omega) src1
 have hR1:RG 4 S1 H1 g _:=RG.more 4 (fun i hi=>w1 i hi) hR
 refine KW.callVp1 U U U U U (fun H1 g _=>l02Ok (S:=Low H1.n) (H0:=H1) hN (d:=4) (by omega) hg (On.R (d:=KG 4) hR1) (g.has (j:=1) U U)) (fun v _ _ hv=>?_)
 obtain⟨b,rfl⟩:=hv
 obtain⟨q1,u1,src1⟩:=src1
 refine KW.cndB U U (fun k1=>?_) (fun k1=>?_)
 ·refine KW.callE U U U U U (l02Leaf 0) (fun _ _=>?_)
  refine KW.retW U U U U (fun H9 g=>by have:=(g.vars 0 _ rfl).2.1;have:=g.n_;omega) (fun i h1 h2=>E1.old i h1 h2) (fun H9 g=>?_)
  exact⟨.mk 0 0 [],_,rfl,rg_leaf _,gf_leaf (Int.le_refl 0) (by omega) _,q1,by simp only[scG] at u1;omega,src1.mv (g.froz id SB1.sid).2⟩
 ·refine KW.retW U U U U (fun H9 g=>by have:=(g.vars 0 _ rfl).2.1;have:=g.n_;omega) (fun i h1 h2=>E1.old i h1 h2) (fun H9 gg=>?_)
  refine⟨g,_,rfl,?_,hg,q1,by simp only[scG] at u1;omega,src1.mv (gg.froz id SB1.sid).2⟩
  refine RG.more 4 (fun i hi=>⟨by have:=hi.1;omega,by have:=(gg.froz i (w1 i hi)).1;have:=gg.n_;omega⟩) (RG.same 4 (fun i hi=>(gg.froz i (w1 i hi)).2) hR)
end
end Go.Proofs.Ytlapbbffoapleaa.Am
namespace Go.Proofs.Ytlapbbffoapleaa.Am
open Go Go.RowKit Go.Proofs Go.Proofs.Ytlapbbffoapleaa.Pl
section
variable {P:Program} {S:Ids} {H0:AH} {Q:PostC} {k k1:List It} {e e1:Env} {T T1:List Var} {n n1:Nat} {l1 r1:List Nat} {d1:Tmp}
theorem KW.adX {α:Type} {d:Kn α} {X:Ids} {xs:List α} {o:Oper} {dr:Bool} {t el:TypeId} {x i:Operand} {inf:TypeInfo} {s:Value} {kk:IntKind} {j:Int} (hs:d.Sl X H0 s xs) (hX:∀id,X id→S id) (h:Go1 P k e T n (.op o dr) k1 e1 T1 n1 l1 r1) (hlr:l1=r1) (ho:o.op=.indexAddr t x i) (hd:o.dst=some d1) (hx:ev e1 x=s) (hj:ev e1 i=.int kk j) (hu:P.underlying t=some (.slice el)) (hi:P.info? el=some inf) (he:inf.size=d.es) (h0:0≤j) (h1:j<xs.length)
  (hk:∀y cs id q,xs[j.toNat]?=some y→d.R X H0 y cs→Has3 X H0 id q cs→KW P S H0 Q n1 T1 k1 (put1 e1 d1 (.pointer (some ⟨id,q,none⟩)))):KW P S H0 Q n T k e:=by
 obtain⟨id,off,c,b,y,e1_,e2,e3,e4,e5,e6⟩:=hs.at_ h0 h1
 refine KW.go h hlr (KEvt.idx (c:=⟨_,_,_,_,_,_⟩) ho (hs.more hX) h0 h1 hu hi he hx hj ?_)
 rw[hd,put1_eq]
 subst e1_
 exact hk y _ id (off+j.toNat*d.es) e4 e6 ⟨e3,b,e2,fun q v hq=>seg_at rfl hq⟩
end
def MkV (mid:Nat) (oo:Option (Nat × Nat)):Ids:=fun i=>i=mid∨∃a b,oo=some (a,b)∧(i=a∨i=b)
def mkO (oo:Option (Nat × Nat)) (n:Nat):Value:=match oo with | none=>.slice none 0 0 | some (a,_)=>.slice (some ⟨a,0,some 1⟩) n n
def mkR (oo:Option (Nat × Nat)) (n:Nat):Value:=match oo with | none=>.slice none 0 0 | some (_,b)=>.slice (some ⟨b,0,some 1⟩) n n
abbrev RwT:=Nat × List Int
def rowV (x:RwT):Value:=.slice (some ⟨x.1,0,some 1⟩) x.2.length x.2.length
def RV (rr:List RwT):Ids:=fun i=>∃x∈rr,x.1=i
structure MkrI (p cols:Int) (ow:List Int) (rr:List RwT) (mid:Nat) (S:Ids) (A:AH) (oo:Option (Nat × Nat)):Prop where
 mS:S mid
 mm:A.m mid=some ⟨249,true,[.int .i64 p,.int .i64 cols,mkO oo ow.length,mkR oo rr.length]⟩
 len:ow.length=rr.length
 none_:oo=none→rr=[]
 some_:∀a b,oo=some (a,b)→S a∧S b∧a≠mid∧b≠mid∧a≠b∧A.m a=some ⟨2,true,ow.map (Value.int .i64)⟩∧A.m b=some ⟨36,true,rr.map rowV⟩
 rb:∀x∈rr,S x.1∧A.m x.1=some ⟨2,true,x.2.map (Value.int .i64)⟩∧¬MkV mid oo x.1
 nd:(rr.map Prod.fst).Nodup
theorem MkrI.wS {p cols:Int} {ow:List Int} {rr:List RwT} {mid:Nat} {S:Ids} {A:AH} {oo:Option (Nat × Nat)} (h:MkrI p cols ow rr mid S A oo):∀j,MkV mid oo j∨RV rr j→S j:=fun j hj=>by
 rcases hj with(hj | ⟨a,b,e,hj⟩) | ⟨x,hx,hj⟩
 ·rw[hj];exact h.mS
 ·obtain⟨h1,h2,_⟩:=h.some_ a b e
  rcases hj with hj | hj
  ·rw[hj];exact h1
  ·rw[hj];exact h2
 ·rw[← hj];exact(h.rb x hx).1
theorem MkrI.mv {p cols:Int} {ow:List Int} {rr:List RwT} {mid:Nat} {S S':Ids} {A A':AH} {oo:Option (Nat × Nat)} (h:MkrI p cols ow rr mid S A oo) (k:∀j,MkV mid oo j∨RV rr j→S' j∧A'.m j=A.m j):MkrI p cols ow rr mid S' A' oo:=by
 refine⟨(k mid (.inl (.inl rfl))).1,(k mid (.inl (.inl rfl))).2.trans h.mm,h.len,h.none_,fun a b e=>?_,fun x hx=>?_,h.nd⟩
 ·obtain⟨h1,h2,h3,h4,h5,h6,h7⟩:=h.some_ a b e
  have ka:=k a (.inl (.inr ⟨a,b,e,.inl rfl⟩))
  have kb:=k b (.inl (.inr ⟨a,b,e,.inr rfl⟩))
  exact⟨ka.1,kb.1,h3,h4,h5,ka.2.trans h6,kb.2.trans h7⟩
 ·have kx:=k x.1 (.inr ⟨x,hx,rfl⟩)
  obtain⟨h1,h2,h3⟩:=h.rb x hx
  exact⟨kx.1,kx.2.trans h2,h3⟩
def RowsOk (p cols:Int) (rr:List RwT):Prop:=∀r∈rr,(1≤r.2.length∧(r.2.length:Int)≤cols)∧∀x∈r.2,0≤x∧x<p
def cgG:Nat→Nat
 | 0=>0
 | d+1=>3+4*cgG d
def rgG:Nat→Nat
 | 0=>1
 | d+1=>1+4*rgG d
theorem rgG_pos:∀d,1≤rgG d
 | 0=>Nat.le_refl _
 | d+1=>by simp only[rgG];omega
def NdP (p cols:Int) (mid d:Nat) (rr:List RwT) (oo:Option (Nat × Nat)) (lid n:Nat) (H1:AH):Prop:=
 ∃(cols':Int) (ow':List Int) (rr':List RwT) (oo':Option (Nat × Nat)),MkrI p cols' ow' rr' mid (fun i=>MkV mid oo i∨RV rr i∨i=lid∨New n H1.n i) H1 oo'∧cols≤cols'∧cols'≤cols+cgG d∧rr'.length≤rr.length+rgG d∧RowsOk p cols' rr'∧(∀i,RV rr' i→RV rr i∨i=lid∨New n H1.n i)∧(∀i,MkV mid oo' i→MkV mid oo i∨New n H1.n i)
section
variable {p N:Int} {mid:Nat}
theorem nodeLeaf {S:Ids} {H0:AH} {h cols:Int} {ow L:List Int} {rr:List RwT} {GS:Ids} {oo:Option (Nat × Nat)} {gid gk d lid:Nat} {ga:Option Addr} {gc:Nat} (hgv:Has3 GS H0 gid gk [.int .i64 h,.int .i64 0,.slice ga 0 gc]) (hGS:∀i,GS i→S i∧¬MkV mid oo i) (hM:MkrI p cols ow rr mid S H0 oo) (hLS:S lid∧¬MkV mid oo lid∧¬RV rr lid) (hL:H0.m lid=some ⟨2,true,L.map (Value.int .i64)⟩) (hLc:1≤L.length∧(L.length:Int)≤cols) (hLp:∀x∈L,0≤x∧x<p) (hr':RowsOk p cols rr) (hrl:rr.length≤10000):
  SpecW Try.prog S H0 (MkV mid oo) 199 [.pointer (some ⟨mid,0,none⟩),.pointer (some ⟨gid,gk,none⟩),rowV (lid,L)] (fun n v H1=>NdP p cols mid d rr oo lid n H1):=by
 refine SpecW.of0 Try.func199 rfl (by kernel_rfl) rfl (fun H hfin hfz=>?_)
 have hM0:MkrI p cols ow rr mid (Low H.n) H oo:=hM.mv fun j hj=>hfz j (hM.wS j hj)
 have hgv0:Has3 (Low H.n) H gid gk [.int .i64 h,.int .i64 0,.slice ga 0 gc]:=by
  obtain⟨q0,b,q1,q2⟩:=hgv
  exact⟨(hfz gid (hGS gid q0).1).1,b,((hfz gid (hGS gid q0).1).2).trans q1,q2⟩
 have hgW:¬MkV mid oo gid:=(hGS gid hgv.1).2
 have hXl:lid<H.n:=(hfz lid hLS.1).1
 have hL0:H.m lid=some ⟨2,true,L.map (Value.int .i64)⟩:=(hfz lid hLS.1).2.trans hL
 obtain⟨_,hlW,hlV⟩:=hLS
 have hmL:mid<H.n:=hM0.mS
 have hrg:=rgG_pos d
 refine KW.ldF 2 hgv0 U U U U U U U U U ?_
 refine KW.yes U U (by simp) ?_
 cases oo with
 | none=>
  obtain rfl:rr=[]:=hM0.none_ rfl
  obtain rfl:ow=[]:=List.eq_nil_of_length_eq_zero hM0.len
  have hgm:gid≠mid:=fun e=>hgW (.inl e)
  have hlm:lid≠mid:=fun e=>hlW (.inl e)
  refine KW.thaw mid _ hM0.mS hM0.mm ?_
  have hgv1:Has3 (fun i=>Low H.n i∧i≠mid) H gid gk [.int .i64 h,.int .i64 0,.slice ga 0 gc]:=⟨⟨hgv0.1,hgm⟩,hgv0.2⟩
  refine KW.ldT 0 U U U U U U U ?_
  refine KW.ldF 0 hgv1 U U U U U U U U U ?_
  refine KW.app0 (v:=.int .i64 h) 1 U U U U U U U U U U U U U U U U U U U U U U (by decide) ?_
  refine KW.st1 0 U U U U U U U U U U U U (by simp) ?_
  refine KW.ldT 0 U U U U U U U ?_
  refine KW.app0 (v:=rowV (lid,L)) 2 U U U U U U U U U U U U U U U U U U U U U U (by decide) ?_
  refine KW.st1 0 U U U U U U U U U U U U (by simp) ?_
  refine KW.retW U U U U (fun H9 g=>by have:=g.n_;omega) (fun i h1 h2=>⟨⟨h1,fun e=>h2 (.inl e)⟩,rfl⟩) (fun H9 g=>?_)
  have hn9:=g.n_
  have b0:=(g.blk (j:=0) rfl).1
  have b1:=g.blk (j:=1) rfl
  have b2:=g.blk (j:=2) rfl
  have hL9:H9.m lid=some ⟨2,true,L.map (Value.int .i64)⟩:=(g.froz lid ⟨hXl,hlm⟩).2.trans hL0
  have n1:New H.n H9.n (H.n+1):=⟨by omega,by omega⟩
  have n3:New H.n H9.n (H.n+3):=⟨by omega,by omega⟩
  refine⟨cols,[h],[(lid,L)],some (H.n+1,H.n+3),⟨.inl (.inl rfl),b0,rfl,fun e=>(by cases e),fun a b e=>?_,fun x hx=>?_,by simp⟩,Int.le_refl _,by omega,by simp only[List.length_nil,List.length_singleton];omega,fun r hr=>by rw[List.mem_singleton.1 hr];exact⟨hLc,hLp⟩,fun i hi=>?_,fun i hi=>?_⟩
  ·cases e
   exact⟨.inr (.inr (.inr n1)),.inr (.inr (.inr n3)),by omega,by omega,by omega,b1.1,b2.1⟩
  ·rw[List.mem_singleton.1 hx]
   refine⟨.inr (.inr (.inl rfl)),hL9,fun hw=>?_⟩
   rcases hw with hw | ⟨a,b,e,hw⟩
   ·exact hlm hw
   ·cases e
    have hw:lid=H.n+1∨lid=H.n+3:=hw
    omega
  ·obtain⟨x,hx,e⟩:=hi
   rw[List.mem_singleton.1 hx] at e
   exact .inr (.inl e.symm)
  ·rcases hi with hi | ⟨a,b,e,hi⟩
   ·exact .inl (.inl hi)
   ·cases e
    rcases hi with hi | hi
    ·rw[hi];exact .inr n1
    ·rw[hi];exact .inr n3
 | some ab=>
  obtain⟨a,b⟩:=ab
  obtain⟨a1,a2,a3,a4,a5,a6,a7⟩:=hM0.some_ a b rfl
  have hgm:gid≠mid:=fun e=>hgW (.inl e)
  have hga:gid≠a:=fun e=>hgW (.inr ⟨a,b,rfl,.inl e⟩)
  have hgb:gid≠b:=fun e=>hgW (.inr ⟨a,b,rfl,.inr e⟩)
  refine KW.thaw mid _ hM0.mS hM0.mm ?_
  refine KW.thaw a _ ⟨a1,a3⟩ a6 ?_
  refine KW.thaw b _ ⟨⟨a2,a4⟩,fun e=>a5 e.symm⟩ a7 ?_
  have hgv1:Has3 (fun i=>((Low H.n i∧i≠mid)∧i≠a)∧i≠b) H gid gk [.int .i64 h,.int .i64 0,.slice ga 0 gc]:=⟨⟨⟨⟨hgv0.1,hgm⟩,hga⟩,hgb⟩,hgv0.2⟩
  have hol:=hM0.len
  refine KW.ldT 0 U U U U U U U ?_
  refine KW.ldF 0 hgv1 U U U U U U U U U ?_
  refine KW.app1 (xs:=ow.map (Value.int .i64)) (v:=.int .i64 h) 1 3 U U U U U U U U U U U U U U U U U U U U U U U (by simp) (by show(ow.length+1)*8≤_;omega) (by omega) ?_
  refine KW.st1 0 U U U U U U U U U U U U (by simp) ?_
  refine KW.ldT 0 U U U U U U U ?_
  refine KW.app1 (xs:=rr.map rowV) (v:=rowV (lid,L)) 2 3 U U U U U U U U U U U U U U U U U U U U U U U (by simp) (by show(rr.length+1)*24≤_;omega) (by omega) ?_
  refine KW.st1 0 U U U U U U U U U U U U (by simp) ?_
  refine KW.retW U U U U (fun H9 g=>by have:=g.n_;omega) (fun i h1 h2=>⟨⟨⟨⟨h1,fun e=>h2 (.inl e)⟩,fun e=>h2 (.inr ⟨a,b,rfl,.inl e⟩)⟩,fun e=>h2 (.inr ⟨a,b,rfl,.inr e⟩)⟩,rfl⟩) (fun H9 g=>?_)
  have hn9:=g.n_
  have b0:=(g.blk (j:=0) rfl).1
  have b1:=g.blk (j:=1) rfl
  have b2:=g.blk (j:=2) rfl
  have fz:∀i,i<H.n→¬MkV mid (some (a,b)) i→H9.m i=H.m i:=fun i h1 h2=>(g.froz i ⟨⟨⟨h1,fun e=>h2 (.inl e)⟩,fun e=>h2 (.inr ⟨a,b,rfl,.inl e⟩)⟩,fun e=>h2 (.inr ⟨a,b,rfl,.inr e⟩)⟩).2
  have n1:New H.n H9.n (H.n+1):=⟨by omega,by omega⟩
  have n3:New H.n H9.n (H.n+3):=⟨by omega,by omega⟩
  have nW:∀i,i<H.n→¬MkV mid (some (a,b)) i→¬MkV mid (some (H.n+1,H.n+3)) i:=fun i h1 h2 hw=>by
   rcases hw with hw | ⟨a',b',e,hw⟩
   ·exact h2 (.inl hw)
   ·cases e
    omega
  refine⟨cols,ow++[h],rr++[(lid,L)],some (H.n+1,H.n+3),⟨.inl (.inl rfl),b0.trans (by simp only[mkO,mkR,List.length_append,List.length_singleton];rfl),by simp only[List.length_append,List.length_singleton];omega,fun e=>(by cases e),fun a' b' e=>?_,fun x hx=>?_,?_⟩,Int.le_refl _,by omega,by simp only[List.length_append,List.length_singleton];omega,fun r hr=>(List.mem_append.1 hr).elim (hr' r) (fun hr=>by rw[List.mem_singleton.1 hr];exact⟨hLc,hLp⟩),fun i hi=>?_,fun i hi=>?_⟩
  ·cases e
   exact⟨.inr (.inr (.inr n1)),.inr (.inr (.inr n3)),by omega,by omega,by omega,b1.1.trans (by rw[List.map_append];rfl),b2.1.trans (by rw[List.map_append];rfl)⟩
  ·rcases List.mem_append.1 hx with hx | hx
   ·obtain⟨h1,h2,h3⟩:=hM0.rb x hx
    exact⟨.inr (.inl ⟨x,hx,rfl⟩),(fz x.1 h1 h3).trans h2,nW x.1 h1 h3⟩
   ·rw[List.mem_singleton.1 hx]
    exact⟨.inr (.inr (.inl rfl)),(fz lid hXl hlW).trans hL0,nW lid hXl hlW⟩
  ·rw[List.map_append]
   refine List.nodup_append.2 ⟨hM0.nd,by simp,fun y hy z hz=>?_⟩
   have hz:z=lid:=by simpa using hz
   obtain⟨x,hx,rfl⟩:=List.mem_map.1 hy
   rw[hz]
   exact fun e=>hlV ⟨x,hx,e⟩
  ·obtain⟨x,hx,e⟩:=hi
   rcases List.mem_append.1 hx with hx | hx
   ·exact .inl ⟨x,hx,e⟩
   ·rw[List.mem_singleton.1 hx] at e
    exact .inr (.inl e.symm)
  ·rcases hi with hi | ⟨a',b',e,hi⟩
   ·exact .inl (.inl hi)
   ·cases e
    rcases hi with hi | hi
    ·rw[hi];exact .inr n1
    ·rw[hi];exact .inr n3
end
structure NdS where
 i:Nat
 S:Ids
 A:AH
 cols:Int
 ow:List Int
 rr:List RwT
 oo:Option (Nat × Nat)
structure NdI (p c1:Int) (mid d ks r0:Nat) (H:AH) (W V0:Ids) (s:NdS):Prop where
 le:s.i≤ks
 mk_:MkrI p s.cols s.ow s.rr mid s.S s.A s.oo
 E:GwE H W s.S s.A
 b1:c1≤s.cols
 b2:s.cols≤c1+(s.i*cgG d:Nat)
 r:s.rr.length≤r0+s.i*rgG d
 ok:RowsOk p s.cols s.rr
 v:∀j,RV s.rr j→V0 j∨H.n≤j
 w:∀j,MkV mid s.oo j→W j∨H.n≤j
theorem RowsOk.up {p c c':Int} {rr:List RwT} (h:RowsOk p c rr) (hc:c≤c'):RowsOk p c' rr:=fun r hr=>⟨⟨(h r hr).1.1,by have:=(h r hr).1.2;omega⟩,(h r hr).2⟩
section
variable {p N:Int} {mid:Nat}
theorem node (hp31:2≤p∧p≤31):∀(d:Nat) {S:Ids} {H0:AH} {g:Gt} {cs:List Value} {gid gk:Nat} {cols:Int} {ow L:List Int} {rr:List RwT} {GS:Ids} {oo:Option (Nat × Nat)} {lid:Nat},d≤4→GF N d g→NW p d g→RG d GS H0 g cs→Has3 GS H0 gid gk cs→(∀i,GS i→S i∧¬MkV mid oo i)→MkrI p cols ow rr mid S H0 oo→(S lid∧¬MkV mid oo lid∧¬RV rr lid)→H0.m lid=some ⟨2,true,L.map (Value.int .i64)⟩→(1≤L.length∧(L.length:Int)≤cols)→(∀x∈L,0≤x∧x<p)→cols+cgG d≤1000→RowsOk p cols rr→rr.length+rgG d≤10000→
  SpecW Try.prog S H0 (MkV mid oo) 199 [.pointer (some ⟨mid,0,none⟩),.pointer (some ⟨gid,gk,none⟩),rowV (lid,L)] (fun n v H1=>NdP p cols mid d rr oo lid n H1):=by
 intro d
 induction d with
 | zero=>
  intro S H0 g cs gid gk cols ow L rr GS oo lid hd hg hw hR hgv hGS hM hLS hL hLc hLp hcb hr hrl
  obtain⟨a,c,rfl,hk⟩:=hR.form
  rw[hg.1,hg.2.1] at hgv
  exact nodeLeaf hgv hGS hM hLS hL hLc hLp hr (by omega)
 | succ d ih=>
  intro S H0 g cs gid gk cols ow L rr GS oo lid hd hg hw hR hgv hGS hM hLS hL hLc hLp hcb hr hrl
  obtain⟨ga,gc,rfl,hk⟩:=hR.form
  rcases hg with hg0 | hg1
  ·rw[hg0.1,hg0.2.1] at hgv
   exact nodeLeaf hgv hGS hM hLS hL hLc hLp hr (by omega)
  obtain⟨g1,g2,g3,g4,g5,g6⟩:=hg1
  obtain⟨w1,w2⟩:=hw
  have hpos:0<g.ks.length:=List.length_pos_iff.2 g1
  rcases hk with hk | ⟨d',e,hk⟩
  ·exact absurd hk g1
  obtain rfl:d'=d:=by omega
  simp only[cgG,rgG] at hcb hrl
  refine SpecW.of0 Try.func199 rfl (by kernel_rfl) rfl (fun H hfin hfz=>?_)
  have hM0:MkrI p cols ow rr mid (Low H.n) H oo:=hM.mv fun j hj=>hfz j (hM.wS j hj)
  have hGL:∀i,GS i→i<H.n∧H.m i=H0.m i:=fun i hi=>hfz i (hGS i hi).1
  have hgv0:Has3 GS H gid gk [.int .i64 g.h,.int .i64 g.l,.slice ga g.ks.length gc]:=by
   obtain⟨q0,b,q1,q2⟩:=hgv
   exact⟨q0,b,((hGL gid q0).2).trans q1,q2⟩
  have hk0:(KG d').Sl GS H (.slice ga g.ks.length gc) g.ks:=hk.same fun i hi=>(hGL i hi).2
  have hlL:lid<H.n:=(hfz lid hLS.1).1
  have hL0:H.m lid=some ⟨2,true,L.map (Value.int .i64)⟩:=(hfz lid hLS.1).2.trans hL
  have hmL:mid<H.n:=hM0.mS
  have E0:GwE H (MkV mid oo) (Low H.n) H:=⟨fun i hi=>hM0.wS i (.inl hi),fun i h _=>⟨h,rfl⟩⟩
  have hgS:∀{S':Ids} {A':AH},GwE H (MkV mid oo) S' A'→Has3 S' A' gid gk [.int .i64 g.h,.int .i64 g.l,.slice ga g.ks.length gc]:=fun E=>by
   obtain⟨q0,b,q1,q2⟩:=hgv0
   have h:=E.old gid (hGL gid q0).1 (hGS gid q0).2
   exact⟨h.1,b,h.2.trans q1,q2⟩
  have hmS:∀{S':Ids} {A':AH} {cols':Int} {ow':List Int} {rr':List RwT} {oo':Option (Nat × Nat)},MkrI p cols' ow' rr' mid S' A' oo'→Has3 S' A' mid 0 [.int .i64 p,.int .i64 cols',mkO oo' ow'.length,mkR oo' rr'.length]:=fun h=>⟨h.mS,_,h.mm,fun i v hv=>by rw[Nat.zero_add];exact hv⟩
  have hLl:(L.length:Int)≤1000:=by omega
  have hc0:0≤cols:=by omega
  refine KW.ldF 2 ((hgS E0)) U U U U U U U U U ?_
  refine KW.no U U (by omega) ?_
  refine KW.ldF 1 ((hmS hM0)) U U U U U U U U U ?_
  refine KW.ldF 1 ((hmS hM0)) U U U U U U U U U ?_
  refine KW.ldF 1 ((hgS E0)) U U U U U U U U U ?_
  refine KW.thaw mid _ hM0.mS hM0.mm ?_
  refine KW.st1 0 U U U U U U U U U U U U (by simp) ?_
  refine KW.freeze 0 rfl (fun A1 S1 hn1 hS1 st1 hm1 hlt1 hno1 hlow1=>?_)
  have ewc:IntKind.i64.wrap (cols+IntKind.i64.wrap (g.l-1))=cols+(g.l-1):=by rw[wr (x:=g.l-1) (by omega) (by omega),wr (by omega) (by omega)]
  have w01:StW (fun i=>i=mid) (Low H.n) H S1 A1:=fun i hi=>by
   by_cases e:i=mid
   ·exact⟨(hS1 i).2 (.inr e),fun hh=>absurd e hh⟩
   ·exact⟨(st1.st i ⟨hi,e⟩).1,fun _=>(st1.st i ⟨hi,e⟩).2⟩
  have E1:=E0.w w01 (fun i hi=>.inl (.inl hi))
  have hM1:MkrI p (cols+(g.l-1)) ow rr mid S1 A1 oo:=by
   have hmm:A1.m mid=some ⟨249,true,[.int .i64 p,.int .i64 (cols+(g.l-1)),mkO oo ow.length,mkR oo rr.length]⟩:=by
    have h:A1.m mid=some ⟨249,true,[.int .i64 p,.int .i64 (IntKind.i64.wrap (cols+IntKind.i64.wrap (g.l-1))),mkO oo ow.length,mkR oo rr.length]⟩:=hm1
    rw[ewc] at h
    exact h
   have kk:∀j,MkV mid oo j∨RV rr j→j≠mid→S1 j∧A1.m j=H.m j:=fun j hj e=>⟨(w01 j (hM0.wS j hj)).1,(w01 j (hM0.wS j hj)).2 e⟩
   refine⟨(hS1 _).2 (.inr rfl),hmm,hM0.len,hM0.none_,fun a b e=>?_,fun x hx=>?_,hM0.nd⟩
   ·obtain⟨h1,h2,h3,h4,h5,h6,h7⟩:=hM0.some_ a b e
    have ka:=kk a (.inl (.inr ⟨a,b,e,.inl rfl⟩)) h3
    have kb:=kk b (.inl (.inr ⟨a,b,e,.inr rfl⟩)) h4
    exact⟨ka.1,kb.1,h3,h4,h5,ka.2.trans h6,kb.2.trans h7⟩
   ·obtain⟨h1,h2,h3⟩:=hM0.rb x hx
    have kx:=kk x.1 (.inr ⟨x,hx,rfl⟩) (fun e=>h3 (.inl e))
    exact⟨kx.1,kx.2.trans h2,h3⟩
  refine KW.lpM U U (fun s:NdS=>[(0,.pointer (some ⟨mid,0,none⟩)),(1,.pointer (some ⟨gid,gk,none⟩)),(2,rowV (lid,L)),(6,.int .i64 cols),(7,.int .i64 s.i)]) (fun s=>s.S) (fun s=>s.A) (fun s=>[]) (fun s=>NdI p (cols+(g.l-1)) mid d' g.ks.length rr.length H (MkV mid oo) (RV rr) s) (fun s=>g.ks.length-s.i) (⟨0,S1,A1,cols+(g.l-1),ow,rr,oo⟩) (⟨Nat.zero_le _,hM1,E1,Int.le_refl _,by show cols+(g.l-1)≤cols+(g.l-1)+((0*cgG d':Nat):Int);omega,by simp only;omega,hr.up (by show cols≤cols+(g.l-1);omega),fun j hj=>.inl hj,fun j hj=>.inl hj⟩) ⟨rfl,rfl,rfl,rfl,rfl,trivial⟩ U U (rfl) (fun s hi bE n=>?_)
  obtain⟨i,S2,A2,cols2,ow2,rr2,oo2⟩:=s
  obtain⟨ile,hM2,E2,b1,b2,hr2,ok2,hV2,hW2⟩:=hi
  simp only at ile hM2 E2 b1 b2 hr2 ok2 hV2 hW2
  have hmulc:i*cgG d'≤4*cgG d':=Nat.mul_le_mul_right _ (by omega)
  have hmulr:i*rgG d'≤4*rgG d':=Nat.mul_le_mul_right _ (by omega)
  refine KW.ids (fun hlow hvar=>?_)
  have hnn:H.n≤n:=by
   rcases Nat.lt_or_ge n H.n with h | h
   ·have:n<n:=hlow n (by
     by_cases hw:MkV mid oo n
     ·exact E2.wid n hw
     ·exact(E2.old n h hw).1)
    omega
   ·exact h
  refine KW.ldF 2 ((hgS E2)) U U U U U U U U U ?_
  refine KW.cnd U U (fun k1=>?_) (fun k1=>?_)
  ·have k1:(i:Int)<(g.ks.length:Int):=k1
   have hsucc:(i+1)*cgG d'=i*cgG d'+cgG d':=Nat.succ_mul _ _
   have hsuccr:(i+1)*rgG d'=i*rgG d'+rgG d':=Nat.succ_mul _ _
   have hsucc4:(i+1)*cgG d'≤4*cgG d':=Nat.mul_le_mul_right _ (by omega)
   have hsuccr4:(i+1)*rgG d'≤4*rgG d':=Nat.mul_le_mul_right _ (by omega)
   have hl2:=E2.old lid hlL hLS.2.1
   have hL2:KI.Sl S2 A2 (.slice (some ⟨lid,0,some 1⟩) L.length L.length) L:=(row_ml (hl2.2.trans hL0)).sl.more (fun j hj=>by rw[hj];exact hl2.1)
   refine KW.callN1 U U U U U (l00OwnC (by show L.length≤_;omega) hL2) (fun v HC SC mC _ _ hv=>?_)
   obtain⟨o3,rfl,hno3,hmo3⟩:=hv
   have tC:=(inferInstance:Stp S2 A2 SC HC).st
   have hSo3:SC o3:=(inferInstance:On (New _ HC.n) HC SC HC).st o3 hno3 |>.1
   have ho3:n≤o3:=hno3.1
   refine KW.thaw o3 _ hSo3 hmo3 ?_
   have t2:St S2 A2 (fun j=>SC j∧j≠o3) HC:=fun j h=>⟨⟨(tC j h).1,fun e=>by have:=hlow j h;omega⟩,(tC j h).2⟩
   have E3:=E2.s t2
   have hM3:=hM2.mv (S':=fun j=>SC j∧j≠o3) (A':=HC) (fun j hj=>t2 j (hM2.wS j hj))
   refine KW.lpM U U (fun s:List Int × Nat=>[(0,.pointer (some ⟨mid,0,none⟩)),(1,.pointer (some ⟨gid,gk,none⟩)),(2,rowV (lid,L)),(6,.int .i64 cols),(7,.int .i64 i),(8,.slice (some ⟨s.2,0,some 1⟩) s.1.length s.1.length)]) (fun s=>fun j=>SC j∧j≠o3) (fun s=>HC) (fun s=>[(s.2,⟨2,true,s.1.map (Value.int .i64)⟩)]) (fun s=>(1≤s.1.length∧(s.1.length:Int)≤cols)∧∀x∈s.1,0≤x∧x<p) (fun s=>cols.toNat-s.1.length) ((L,o3)) (⟨hLc,hLp⟩) ⟨rfl,rfl,rfl,rfl,rfl,rfl,trivial⟩ U U (rfl) (fun s hi bE n=>?_)
   obtain⟨xs,o4⟩:=s
   obtain⟨⟨x0,x1⟩,x2⟩:=hi
   simp only at x0 x1 x2
   refine KW.cnd U U (fun k2=>?_) (fun k2=>?_)
   ·have k2:(xs.length:Int)<cols:=k2
    refine KW.app1 (xs:=xs.map (Value.int .i64)) (v:=.int .i64 0) 0 1 U U U U U U U U U U U U U U U U U U U U U U U (by simp) (by show(xs.length+1)*8≤_;omega) (by omega) ?_
    exact KW.nxt U U (fun H' g=>⟨(xs++[0],_),⟨by simp only[List.length_append,List.length_singleton];omega,fun x hx=>(List.mem_append.1 hx).elim (x2 x) (fun hx=>by rw[List.mem_singleton.1 hx];omega)⟩,by simp only[List.length_append,List.length_singleton];omega,⟨rfl,rfl,rfl,rfl,rfl,by simp only[List.length_append,List.length_singleton];rfl,trivial⟩,g.eqT (by simp only[List.map_append];rfl)⟩)
   ·have k2:¬(xs.length:Int)<cols:=k2
    refine KW.lpM U U (fun s:Nat × List Int × Nat=>[(0,.pointer (some ⟨mid,0,none⟩)),(1,.pointer (some ⟨gid,gk,none⟩)),(2,rowV (lid,L)),(6,.int .i64 cols),(7,.int .i64 i),(8,.slice (some ⟨s.2.2,0,some 1⟩) s.2.1.length s.2.1.length),(9,.int .i64 s.1)]) (fun s=>fun j=>SC j∧j≠o3) (fun s=>HC) (fun s=>[(s.2.2,⟨2,true,s.2.1.map (Value.int .i64)⟩)]) (fun s=>(1≤s.1∧(s.1:Int)≤g.l)∧(s.2.1.length:Int)=cols+(s.1-1)∧∀x∈s.2.1,0≤x∧x<p) (fun s=>g.l.toNat-s.1) ((1,xs,o4)) (⟨⟨Nat.le_refl _,g3⟩,by simp only;omega,x2⟩) ⟨rfl,rfl,rfl,rfl,rfl,rfl,rfl,trivial⟩ U U (rfl) (fun s hi bE n=>?_)
    obtain⟨k,ys,o5⟩:=s
    obtain⟨⟨y0,y1⟩,y2,y3⟩:=hi
    simp only at y0 y1 y2 y3
    refine KW.ldF 1 ((hgS E3)) U U U U U U U U U ?_
    refine KW.cnd U U (fun k3=>?_) (fun k3=>?_)
    ·have k3:(k:Int)<g.l:=k3
     have e_i:IntKind.i64.wrap ((i:Int)+1)=(i:Int)+1:=wr (by omega) (by omega)
     refine KW.ldF 0 ((hmS hM3)) U U U U U U U U U ?_
     refine KW.callE U U U U U (l03Power p (IntKind.i64.wrap ((i:Int)+1)) (k:Int) hp31 (by rw[e_i];omega) (by omega)) (fun _ _=>?_)
     have hpw:=pw_ok hp31.1 (p:=p) (a:=IntKind.i64.wrap ((i:Int)+1)) (k:Int).toNat
     refine KW.app1 (xs:=ys.map (Value.int .i64)) (v:=.int .i64 (pw p (IntKind.i64.wrap ((i:Int)+1)) (k:Int).toNat)) 0 1 U U U U U U U U U U U U U U U U U U U U U U U (by simp) (by show(ys.length+1)*8≤_;omega) (by show ys.length+1≤_;omega) ?_
     refine KW.nxt U U (fun H' g=>⟨(k+1,ys++[pw p (IntKind.i64.wrap ((i:Int)+1)) (k:Int).toNat],_),⟨⟨by simp only;omega,by simp only;omega⟩,by simp only[List.length_append,List.length_singleton];omega,fun x hx=>(List.mem_append.1 hx).elim (y3 x) (fun hx=>by rw[List.mem_singleton.1 hx];exact hpw)⟩,by first | omega | (simp only;omega),⟨rfl,rfl,rfl,rfl,rfl,by simp only[List.length_append,List.length_singleton];rfl,congrArg (Value.int .i64) (inc64 (by omega)),trivial⟩,g.eqT (by simp only[List.map_append];rfl)⟩)
    ·have k3:¬(k:Int)<g.l:=k3
     have ykl:(ys.length:Int)=cols+(g.l-1):=by omega
     refine KW.ldF 2 ((hgS E3)) U U U U U U U U U ?_
     refine KW.adX (hk0.same (H':=HC) (fun j hj=>(E3.old j (hGL j hj).1 (hGS j hj).2).2)) (fun j hj=>(E3.old j (hGL j hj).1 (hGS j hj).2).1) U U U U U U U U U (by omega) k1 (fun y cy id2 q hy hRy hat=>?_)
     have hy:g.ks[i]?=some y:=hy
     have hym:=List.mem_of_getElem? hy
     refine KW.callWF 0 U U U U U U (fun A9 S9 hn9 hS9 t9 hm9 ho9 hno9 hlt9=>?_)
     have ho9:o5<_:=ho9
     have E9:=E3.s t9.st
     have hM9:=hM3.mv (S':=S9) (A':=A9) (fun j hj=>t9.st j (hM3.wS j hj))
     have hG9:∀j,GS j→S9 j∧A9.m j=H.m j:=fun j hj=>E9.old j (hGL j hj).1 (hGS j hj).2
     have hGC:∀j,GS j→HC.m j=H.m j:=fun j hj=>(E3.old j (hGL j hj).1 (hGS j hj).2).2
     have hG2:∀j,GS j→¬MkV mid oo2 j:=fun j hj hw=>by
      rcases hW2 j hw with h | h
      ·exact(hGS j hj).2 h
      ·have:=(hGL j hj).1;omega
     have hat9:Has3 GS A9 id2 q cy:=by
      obtain⟨q0,b,q1,q2⟩:=hat
      exact⟨q0,b,((hG9 id2 q0).2.trans (hGC id2 q0).symm).trans q1,q2⟩
     have o5n:H.n≤o5:=by
      rcases Nat.lt_or_ge o5 H.n with h | h
      ·by_cases hw:MkV mid oo o5
       ·exact absurd (E3.wid o5 hw) hno9
       ·exact absurd (E3.old o5 h hw).1 hno9
      ·exact h
     have key:=ih (S:=S9) (H0:=A9) (g:=y) (cs:=cy) (gid:=id2) (gk:=q) (cols:=cols2) (ow:=ow2) (L:=ys) (rr:=rr2) (GS:=GS) (oo:=oo2) (lid:=o5) (by omega) (g6 y hym) (w2 y hym) (RG.same d' (fun j hj=>(hG9 j hj).2.trans (hGC j hj).symm) hRy) hat9 (fun j hj=>⟨(hG9 j hj).1,hG2 j hj⟩) hM9 ⟨(hS9 _).2 (.inr rfl),fun hw=>hno9 (hM3.wS _ (.inl hw)),fun hv=>hno9 (hM3.wS _ (.inr hv))⟩ hm9 ⟨by omega,by omega⟩ y3 (by omega) ok2 (by omega)
     refine⟨_,_,fun j hj=>(t9.st j (hM3.wS j (.inl hj))).1,key,fun v H6 S6 m6 t6 w6 hv6=>?_⟩
     obtain⟨cols',ow',rr',oo',hM',c1',c2',r',ok',hV',hW'⟩:=hv6
     have E6:=E9.w t6 (fun j hj=>hW2 j hj)
     have hin:∀j,(MkV mid oo2 j∨RV rr2 j∨j=o5∨New _ H6.n j)→S6 j:=fun j hj=>by
      rcases hj with h | h | h | h
      ·exact(t6 j (hM9.wS j (.inl h))).1
      ·exact(t6 j (hM9.wS j (.inr h))).1
      ·rw[h];exact(t6 o5 ((hS9 _).2 (.inr rfl))).1
      ·exact w6 j h
     have hM6:MkrI p cols' ow' rr' mid S6 H6 oo':=hM'.mv fun j hj=>⟨hin j (hM'.wS j hj),rfl⟩
     refine KW.nxt U U (fun H' g=>⟨⟨i+1,S6,H6,cols',ow',rr',oo'⟩,⟨by simp only;omega,hM6,E6,by simp only;omega,by simp only;omega,by simp only;omega,ok',fun j hj=>by rcases hV' j hj with h | h | h;exact hV2 j h;exact .inr (by omega);exact .inr (by have:=h.1;omega),fun j hj=>by rcases hW' j hj with h | h;exact hW2 j h;exact .inr (by have:=h.1;omega)⟩,by first | omega | (simp only;omega),⟨rfl,rfl,rfl,rfl,congrArg (Value.int .i64) (inc64 (by omega)),trivial⟩,g⟩)
  ·refine KW.endW U U U U (fun H9 g=>by have:=g.n_;omega) (fun j h1 h2=>E2.old j h1 h2) (fun H9 gg=>?_)
   have hn9:=gg.n_
   have hf9:∀j,MkV mid oo2 j∨RV rr2 j→j<H9.n∧H9.m j=A2.m j:=fun j hj=>by
    have hf:=gg.froz j (hM2.wS j hj)
    exact⟨by omega,hf.2⟩
   refine⟨cols2,ow2,rr2,oo2,hM2.mv (fun j hj=>⟨?_,(hf9 j hj).2⟩),by omega,by simp only[cgG];omega,by simp only[rgG];omega,ok2,fun j hj=>?_,fun j hj=>?_⟩
   ·rcases hj with hj | hj
    ·rcases hW2 j hj with h | h
     ·exact .inl h
     ·exact .inr (.inr (.inr ⟨h,(hf9 j (.inl hj)).1⟩))
    ·rcases hV2 j hj with h | h
     ·exact .inr (.inl h)
     ·exact .inr (.inr (.inr ⟨h,(hf9 j (.inr hj)).1⟩))
   ·rcases hV2 j hj with h | h
    ·exact .inl h
    ·exact .inr (.inr ⟨h,(hf9 j (.inr hj)).1⟩)
   ·rcases hW2 j hj with h | h
    ·exact .inl h
    ·exact .inr ⟨h,(hf9 j (.inl hj)).1⟩
end
theorem rows_sl {X:Ids} {A:AH} {o:Nat} {ty:TypeId} {out:List RwT} (ho:X o) (hm:A.m o=some ⟨ty,true,out.map rowV⟩) (hr:∀x∈out,X x.1∧A.m x.1=some ⟨2,true,x.2.map (Value.int .i64)⟩):KI.sl.Sl X A (.slice (some ⟨o,0,some 1⟩) out.length out.length) (out.map Prod.snd):=by
  refine .inr ⟨o,0,out.length,_,by rw[List.length_map];rfl,by rw[List.length_map];exact Nat.le_refl _,ho,hm,by simp[Kn.sl],fun i x hx=>?_⟩
  rw[List.getElem?_map] at hx
  obtain⟨y,hy,rfl⟩:=Option.map_eq_some_iff.1 hx
  obtain⟨h1,h2⟩:=hr y (List.mem_of_getElem? hy)
  refine⟨rowV y,?_,(row_ml h2).sl.more (fun id h=>by rw[h];exact h1)⟩
  show((out.map rowV).drop (0+i*1)).take 1=[rowV y]
  rw[List.take_one,Nat.zero_add,Nat.mul_one,List.head?_drop,List.getElem?_map,hy];rfl
def ShP (N p:Int) (n:Nat) (v:Value) (H1:AH):Prop:=
  ∃(h p' c:Int) (a1 a2:Option Addr) (n1 c1 n2 c2:Nat) (code:Int),v=.tuple #[.agg #[.int .i64 h,.slice a1 n1 c1,.int .i64 p',.int .i64 c,.slice a2 n2 c2],.int .i64 code]∧(code=0→∃(ow:List Int) (rows:List (List Int)),n1=ow.length∧n2=rows.length∧OkSch h ow p' c rows∧h=N∧p'=p∧KI.Sl (New n H1.n) H1 (.slice a1 ow.length c1) ow∧KI.sl.Sl (New n H1.n) H1 (.slice a2 rows.length c2) rows)
section
variable {S:Ids} {H0:AH}
theorem l04Told (h p c:Int) (hp:I64 p) {a1 c1 a2 c2} {ow:List Int} {rows:List (List Int)} (hO:B_Int64S ow) (hB:B_Int64SS rows) (ho:KI.Sl S H0 (.slice a1 ow.length c1) ow) (hs:KI.sl.Sl S H0 (.slice a2 rows.length c2) rows):
    Spec Try.prog S H0 200 [.agg #[.int .i64 h,.slice a1 ow.length c1,.int .i64 p,.int .i64 c,.slice a2 rows.length c2]] (fun v=>(OkSch h ow p c rows∧v=.tuple #[.agg #[.int .i64 h,.slice a1 ow.length c1,.int .i64 p,.int .i64 c,.slice a2 rows.length c2],.int .i64 0])∨v=.tuple #[.agg #[.int .i64 0,.slice none 0 0,.int .i64 0,.int .i64 0,.slice none 0 0],.int .i64 3]):=by
  refine Spec.of1 Try.func200 rfl (by kernel_rfl) rfl (fun H _=>?_)
  refine KW.callV1 U U U U U (fun H1 g _=>l04Ok (S:=Low H1.n) (H0:=H1) h p c hp hO hB (g.has (j:=0) U U) ho.up hs.up) (fun n1 m1=>?_)
  by_cases hk:OkSch h ow p c rows
  · rw[tv_true hk]
    refine KW.cF U U (by first | (simp;done) | decide) ?_
    exact KW.ret U U U U (.inl ⟨hk,rfl⟩)
  · rw[tv_false hk]
    refine KW.cT U U (by first | (simp;done) | decide) ?_
    refine KW.build U U U U U (built_Scheme0) ?_
    exact KW.ret U U U U (.inr rfl)
structure LgS where
  i:Nat
  S:Ids
  A:AH
  out:List RwT
  l:Value
  tail:List Var
structure LgI (p cols:Int) (oo:Option (Nat × Nat)) (ow:List Int) (rr:List RwT) (H:AH) (s:LgS):Prop where
  le:s.i≤rr.length
  old:∀j,j<H.n→s.S j∧s.A.m j=H.m j
  ab:∀a b,oo=some (a,b)→s.S a∧s.S b∧s.A.m a=some ⟨2,true,ow.map (Value.int .i64)⟩∧s.A.m b=some ⟨36,true,rr.map rowV⟩∧H.n≤a
  rest:∀j x,s.i≤j→rr[j]?=some x→s.S x.1∧s.A.m x.1=some ⟨2,true,x.2.map (Value.int .i64)⟩
  out_:∀x∈s.out,s.S x.1∧s.A.m x.1=some ⟨2,true,x.2.map (Value.int .i64)⟩∧H.n≤x.1∧((x.2.length:Int)=cols∧∀y∈x.2,0≤y∧y<p)∧(∀j z,s.i≤j→rr[j]?=some z→z.1≠x.1)∧∀a b,oo=some (a,b)→a≠x.1∧b≠x.1
  ol:s.out.length=s.i
  form:(s.i=0∧s.l=.slice none 0 0∧s.tail=[])∨(0<s.i∧∃o,s.l=.slice (some ⟨o,0,some 1⟩) s.i s.i∧s.tail=[(o,⟨36,true,s.out.map rowV⟩)])
theorem built_Maker (p:Int):Try.prog.built 249 [(0,.int .i64 p),(1,.int .i64 1)]=some #[.int .i64 p,.int .i64 1,.slice none 0 0,.slice none 0 0]:=by kernel_rfl
theorem l04Gate {N p:Int} (hN:1≤N∧N≤7) (hp31:2≤p∧p≤31) {g:Gt} {gcs:List Value} {gid gk:Nat} (hg:GF N 4 g) (hR:RG 4 S H0 g gcs) (hgv:Has3 S H0 gid gk gcs):
    SpecM Try.prog S H0 149 [.int .i64 p,.int .i64 N,.pointer (some ⟨gid,gk,none⟩)] (ShP N p):=by
  refine SpecM.of1 Try.func149 rfl (by kernel_rfl) rfl (fun H _=>?_)
  have hgv0:=hgv.up (S':=Low H.n) (H':=H)
  have hR0:RG 4 (Low H.n) H g gcs:=On.R (d:=KG 4) hR
  refine KW.call U U U U U (l04Wide 4 hg hR0 hgv0) (fun v nw hnw hv=>?_)
  obtain⟨b,rfl,hb⟩:=hv
  refine KW.cndB U U (fun k1=>?_) (fun k1=>?_)
  · refine KW.build U U U U U (built_Scheme0) ?_
    refine KW.retM1 U U U U (fun H1 g=>⟨0,0,0,none,none,0,0,0,0,4,rfl,fun h=>by cases h⟩)
  have hw:=hb k1
  refine KW.build U U U U U (built_Maker _) ?_
  refine KW.lit U U U U U U U U U U [.int .i64 1] U U (fun v hv=>by simp at hv;subst hv;rfl) rfl ?_
  refine KW.freeze 2 rfl (fun A1 S1 hn1 hS1 st1 hm1 hlt1 hno1 hlow1=>?_)
  refine KW.freeze 1 rfl (fun A2 S2 hn2 hS2 st2 hm2 hlt2 hno2 hlow2=>?_)
  have t02:∀j,j<H.n→S2 j∧A2.m j=H.m j:=fun j hj=>by
    have h1:=st1.st j hj
    have h2:=st2.st j h1.1
    exact⟨h2.1,h2.2.trans h1.2⟩
  have hn1':H.n+1≤nw:=hnw
  have hlit:S2 (nw+1)∧A2.m (nw+1)=some ⟨2,true,[1].map (Value.int .i64)⟩:=by
    have h:=st2.st (nw+1) ((hS1 _).2 (.inr rfl))
    exact⟨h.1,h.2.trans hm1⟩
  have hM2:MkrI p 1 [] [] nw S2 A2 none:=⟨(hS2 _).2 (.inr rfl),hm2,rfl,fun _=>rfl,fun a b e=>(by cases e),fun x hx=>(by cases hx),by simp⟩
  have hMkv:∀j,MkV nw none j→j=nw:=fun j hj=>hj.elim id (fun⟨a,b,e,_⟩=>by cases e)
  have key:=node (N:=N) (mid:=nw) hp31 4 (S:=S2) (H0:=A2) (g:=g) (cs:=gcs) (gid:=gid) (gk:=gk) (cols:=1) (ow:=[]) (L:=[1]) (rr:=[]) (GS:=Low H.n) (oo:=none) (lid:=nw+1) (by omega) hg hw (RG.same 4 (fun j hj=>(t02 j hj).2) hR0) (by
    obtain⟨q0,b,q1,q2⟩:=hgv0
    exact⟨q0,b,(t02 gid q0).2.trans q1,q2⟩) (fun j hj=>⟨(t02 j hj).1,fun hw=>by have:=hMkv j hw;have hj:j<H.n:=hj;omega⟩) hM2 ⟨hlit.1,fun hw=>by have:=hMkv _ hw;omega,fun⟨x,hx,_⟩=>by cases hx⟩ hlit.2 ⟨by simp,by simp⟩ (fun x hx=>by rw[List.mem_singleton.1 hx];omega) (by simp only[cgG];omega) (fun r hr=>by cases hr) (by simp only[rgG,List.length_nil];omega)
  refine KW.callW (W:=MkV nw none) (fun j hj=>by rw[hMkv j hj];exact hM2.mS) U U U U U key (fun v H6 S6 n6 t6 w6 hv6=>?_)
  obtain⟨cols,ow,rr,oo,hM,c1,c2,hrl,ok,hV,hW⟩:=hv6
  simp only[cgG,rgG,List.length_nil] at c2 hrl
  have hin:∀j,(MkV nw none j∨RV [] j∨j=nw+1∨New _ H6.n j)→S6 j:=fun j hj=>by
    rcases hj with h | ⟨x,hx,_⟩ | h | h
    · rw[hMkv j h];exact(t6 nw hM2.mS).1
    · cases hx
    · rw[h];exact(t6 _ hlit.1).1
    · exact w6 j h
  have hM6:MkrI p cols ow rr nw S6 H6 oo:=hM.mv fun j hj=>⟨hin j (hM.wS j hj),rfl⟩
  have hge:∀j,MkV nw oo j∨RV rr j→nw≤j:=fun j hj=>by
    rcases hj with h | h
    · rcases hW j h with h | h
      · rw[hMkv j h];exact Nat.le_refl _
      · have:=h.1;omega
    · rcases hV j h with⟨x,hx,_⟩ | h | h
      · cases hx
      · omega
      · have:=h.1;omega
  have old6:∀j,j<H.n→S6 j∧H6.m j=H.m j:=fun j hj=>by
    have h1:=t02 j hj
    exact⟨(t6 j h1.1).1,((t6 j h1.1).2 (fun hw=>by have:=hMkv j hw;omega)).trans h1.2⟩
  obtain⟨a1,d1,e1⟩:∃a1 d1,mkO oo ow.length=.slice a1 ow.length d1:=by
    cases oo with
    | none=>rw[show ow=[] from List.eq_nil_of_length_eq_zero (by rw[hM.len,hM.none_ rfl];rfl)];exact⟨none,0,rfl⟩
    | some ab=>exact⟨_,_,rfl⟩
  obtain⟨a2,d2,e2⟩:∃a2 d2,mkR oo rr.length=.slice a2 rr.length d2:=by
    cases oo with
    | none=>rw[hM.none_ rfl];exact⟨none,0,rfl⟩
    | some ab=>exact⟨_,_,rfl⟩
  have hmm:H6.m nw=some ⟨249,true,[.int .i64 p,.int .i64 cols,.slice a1 ow.length d1,.slice a2 rr.length d2]⟩:=by rw[← e1,← e2];exact hM.mm
  refine KW.thaw nw _ hM6.mS hmm ?_
  refine KW.build U U U U U (built_Matrix2 _ _) ?_
  refine KW.build U U U U U (built_Scheme3 _ _ _ _ _ _ _ _ _) ?_
  have hrr:∀(j:Nat) x,rr[j]?=some x→x.1≠nw:=fun j x hx e=>(hM.rb x (List.mem_of_getElem? hx)).2.2 (.inl e)
  refine KW.lpM U U (fun s:LgS=>[(0,.int .i64 p),(1,.int .i64 N),(6,.pointer (some ⟨H.n,0,some 0⟩)),(7,.int .i64 0),(8,.pointer (some ⟨nw,0,some 1⟩)),(9,.pointer (some ⟨H6.n,0,some 2⟩)),(10,.int .i64 s.i)]) (fun s=>s.S) (fun s=>s.A) (fun s=>[(H.n,⟨38,true,[.int .i64 0,.slice none 0 0,.int .i64 0,.int .i64 0,.slice none 0 0]⟩),(nw,⟨249,true,[.int .i64 p,.int .i64 cols,.slice a1 ow.length d1,.slice a2 rr.length d2]⟩),(H6.n,⟨38,true,[.int .i64 N,.slice a1 ow.length d1,.int .i64 p,.int .i64 cols,s.l]⟩)]++s.tail) (fun s=>LgI p cols oo ow rr H s) (fun s=>rr.length-s.i) (⟨0,fun j=>S6 j∧j≠nw,H6,[],.slice none 0 0,[]⟩) (⟨Nat.zero_le _,fun j hj=>⟨⟨(old6 j hj).1,by omega⟩,(old6 j hj).2⟩,fun a b e=>by obtain⟨h1,h2,h3,h4,h5,h6,h7⟩:=hM6.some_ a b e;exact⟨⟨h1,h3⟩,⟨h2,h4⟩,h6,h7,by have:=hge a (.inl (.inr ⟨a,b,e,.inl rfl⟩));omega⟩,fun j x _ hx=>by obtain⟨h1,h2,h3⟩:=hM6.rb x (List.mem_of_getElem? hx);exact⟨⟨h1,hrr j x hx⟩,h2⟩,fun x hx=>(by cases hx),rfl,.inl ⟨rfl,rfl,rfl⟩⟩) ⟨rfl,rfl,rfl,rfl,rfl,rfl,rfl,trivial⟩ U U (rfl) (fun s hi bE n=>?_)
  obtain⟨i,S7,A7,out,l,tail⟩:=s
  obtain⟨ile,old7,ab7,rest7,out7,ol,hform⟩:=hi
  simp only at ile old7 ab7 rest7 out7 ol hform
  haveI o7:On (Low H.n) H S7 A7:=⟨fun j hj=>old7 j hj⟩
  have hcolN:((cols.toNat:Nat):Int)=cols:=Int.toNat_of_nonneg (by omega)
  have hRect:Rect p cols.toNat (out.map Prod.snd):=fun r hr=>by
    obtain⟨x,hx,rfl⟩:=List.mem_map.1 hr
    obtain⟨_,_,_,⟨h1,h2⟩,_⟩:=out7 x hx
    exact⟨by omega,h2⟩
  rcases hform with⟨hi0,el,et⟩ | ⟨hi0,o,el,et⟩
  case' inl=>subst el et
  case' inr=>subst el et
  all_goals
    refine KW.cnd U U (fun k2=>?gin) (fun k2=>?gout)
    case gin=>
      have k2:(i:Int)<(rr.length:Int):=k2
      obtain⟨a,b,eoo⟩:∃a b,oo=some (a,b):=by
        cases h:oo with
        | none=>rw[hM.none_ h] at k2;simp at k2;omega
        | some ab=>exact⟨ab.1,ab.2,rfl⟩
      obtain⟨q1,q2,q3,q4,q5⟩:=ab7 a b eoo
      have e2':mkR (some (a,b)) rr.length=.slice a2 rr.length d2:=by rw[← eoo];exact e2
      cases e2'
      obtain⟨x,hx⟩:∃x,rr[i]?=some x:=⟨rr[i]'(by omega),List.getElem?_eq_getElem (by omega)⟩
      obtain⟨x1,x2⟩:=rest7 i x (Nat.le_refl _) hx
      have okx:=ok x (List.mem_of_getElem? hx)
      obtain⟨xo,xr⟩:=x
      simp only at x1 x2 okx
      refine KW.idx0 U U U U U U U U U (by omega) (k2) ?_
      refine KW.ldP q2 q4 U U U U U (bload_at (v:=rowV (xo,xr)) (by show(rr.map rowV)[0+((i:Nat):Int).toNat*1]?=_;rw[Int.toNat_natCast,Nat.zero_add,Nat.mul_one,List.getElem?_map,hx];rfl) U U) ?_
      refine KW.thaw xo _ x1 x2 ?_
      first
        | (refine KW.lpM U U (fun s:List Int × Nat=>[(0,.int .i64 p),(1,.int .i64 N),(6,.pointer (some ⟨H.n,0,some 0⟩)),(7,.int .i64 0),(8,.pointer (some ⟨nw,0,some 1⟩)),(9,.pointer (some ⟨H6.n,0,some 2⟩)),(10,.int .i64 i),(11,.slice (some ⟨s.2,0,some 1⟩) s.1.length s.1.length)]) (fun _=>fun j=>S7 j∧j≠xo) (fun _=>A7) (fun s=>[(H.n,⟨38,true,[.int .i64 0,.slice none 0 0,.int .i64 0,.int .i64 0,.slice none 0 0]⟩),(nw,⟨249,true,[.int .i64 p,.int .i64 cols,.slice a1 ow.length d1,.slice (some ⟨b,0,some 1⟩) rr.length rr.length]⟩),(H6.n,⟨38,true,[.int .i64 N,.slice a1 ow.length d1,.int .i64 p,.int .i64 cols,.slice (some ⟨o,0,some 1⟩) i i]⟩),(o,⟨36,true,out.map rowV⟩),(s.2,⟨2,true,s.1.map (Value.int .i64)⟩)]) (fun s=>(1≤s.1.length∧(s.1.length:Int)≤cols)∧∀y∈s.1,0≤y∧y<p) (fun s=>cols.toNat-s.1.length) (xr,xo) ⟨okx.1,okx.2⟩ ⟨rfl,rfl,rfl,rfl,rfl,rfl,rfl,rfl,trivial⟩ U U U (fun s hi bE n=>?_))
        | (refine KW.lpM U U (fun s:List Int × Nat=>[(0,.int .i64 p),(1,.int .i64 N),(6,.pointer (some ⟨H.n,0,some 0⟩)),(7,.int .i64 0),(8,.pointer (some ⟨nw,0,some 1⟩)),(9,.pointer (some ⟨H6.n,0,some 2⟩)),(10,.int .i64 i),(11,.slice (some ⟨s.2,0,some 1⟩) s.1.length s.1.length)]) (fun _=>fun j=>S7 j∧j≠xo) (fun _=>A7) (fun s=>[(H.n,⟨38,true,[.int .i64 0,.slice none 0 0,.int .i64 0,.int .i64 0,.slice none 0 0]⟩),(nw,⟨249,true,[.int .i64 p,.int .i64 cols,.slice a1 ow.length d1,.slice (some ⟨b,0,some 1⟩) rr.length rr.length]⟩),(H6.n,⟨38,true,[.int .i64 N,.slice a1 ow.length d1,.int .i64 p,.int .i64 cols,.slice none 0 0]⟩),(s.2,⟨2,true,s.1.map (Value.int .i64)⟩)]) (fun s=>(1≤s.1.length∧(s.1.length:Int)≤cols)∧∀y∈s.1,0≤y∧y<p) (fun s=>cols.toNat-s.1.length) (xr,xo) ⟨okx.1,okx.2⟩ ⟨rfl,rfl,rfl,rfl,rfl,rfl,rfl,rfl,trivial⟩ U U U (fun s hi bE n=>?_))
      obtain⟨xs,o4⟩:=s
      obtain⟨⟨x0,x3⟩,x4⟩:=hi
      simp only at x0 x3 x4
      refine KW.cnd U U (fun k3=>?_) (fun k3=>?_)
      · have k3:(xs.length:Int)<cols:=k3
        first
          | (refine KW.app1 (xs:=xs.map (Value.int .i64)) (v:=.int .i64 0) 4 5 U U U U U U U U U U U U U U U U U U U U U U U (by simp) (by show(xs.length+1)*8≤_;omega) (by omega) ?_
             exact KW.nxt U U (fun H' g=>⟨(xs++[0],_),⟨⟨by simp only[List.length_append,List.length_singleton];omega,by simp only[List.length_append,List.length_singleton];omega⟩,fun y hy=>(List.mem_append.1 hy).elim (x4 y) (fun hy=>by rw[List.mem_singleton.1 hy];omega)⟩,by simp only[List.length_append,List.length_singleton];omega,⟨rfl,rfl,rfl,rfl,rfl,rfl,rfl,by simp only[List.length_append,List.length_singleton];rfl,trivial⟩,g.eqT (by simp only[List.map_append];rfl)⟩))
          | (refine KW.app1 (xs:=xs.map (Value.int .i64)) (v:=.int .i64 0) 3 4 U U U U U U U U U U U U U U U U U U U U U U U (by simp) (by show(xs.length+1)*8≤_;omega) (by omega) ?_
             exact KW.nxt U U (fun H' g=>⟨(xs++[0],_),⟨⟨by simp only[List.length_append,List.length_singleton];omega,by simp only[List.length_append,List.length_singleton];omega⟩,fun y hy=>(List.mem_append.1 hy).elim (x4 y) (fun hy=>by rw[List.mem_singleton.1 hy];omega)⟩,by simp only[List.length_append,List.length_singleton];omega,⟨rfl,rfl,rfl,rfl,rfl,rfl,rfl,by simp only[List.length_append,List.length_singleton];rfl,trivial⟩,g.eqT (by simp only[List.map_append];rfl)⟩))
      · have k3:¬(xs.length:Int)<cols:=k3
        have hxm:=List.mem_of_getElem? hx
        have hxW:=(hM.rb _ hxm).2.2
        simp only at hxW
        have hxn:nw≤xo:=hge xo (.inr ⟨_,hxm,rfl⟩)
        have hdiff:∀j z,i+1≤j→rr[j]?=some z→z.1≠xo:=fun j z hj hz e=>by
          have h1:(rr.map Prod.fst)[i]?=some xo:=by rw[List.getElem?_map,hx];rfl
          have h2:(rr.map Prod.fst)[j]?=some xo:=by rw[List.getElem?_map,hz];exact congrArg some e
          have:=(List.getElem?_inj (by rw[List.length_map];omega) hM.nd).1 (h1.trans h2.symm)
          omega
        have step:∀(A':AH) (S':Ids),(∀id,S' id↔(S7 id∧id≠xo)∨id=o4)→St (fun j=>S7 j∧j≠xo) A7 S' A'→¬(S7 o4∧o4≠xo)→A'.m o4=some ⟨2,true,xs.map (Value.int .i64)⟩→∀(l':Value) (tl':List Var),((i+1=0∧l'=.slice none 0 0∧tl'=[])∨(0<i+1∧∃o,l'=.slice (some ⟨o,0,some 1⟩) (i+1) (i+1)∧tl'=[(o,⟨36,true,(out++[(o4,xs)]).map rowV⟩)]))→LgI p cols oo ow rr H ⟨i+1,S',A',out++[(o4,xs)],l',tl'⟩:=fun A' S' h1 h2 h3 h4 l' tl' h5=>by
          have mv:∀j,S7 j→j≠xo→S' j∧A'.m j=A7.m j:=fun j hj he=>h2 j ⟨hj,he⟩
          refine⟨by simp only;omega,fun j hj=>?_,fun a' b' e=>?_,fun j z hj hz=>?_,fun z hz=>?_,by simp only[List.length_append,List.length_singleton];omega,h5⟩
          · have:=mv j (old7 j hj).1 (by omega)
            exact⟨this.1,this.2.trans (old7 j hj).2⟩
          · obtain⟨r1,r2,r3,r4,r5⟩:=ab7 a' b' e
            have m1:=mv a' r1 (fun e'=>hxW (.inr ⟨a',b',e,.inl e'.symm⟩))
            have m2:=mv b' r2 (fun e'=>hxW (.inr ⟨a',b',e,.inr e'.symm⟩))
            exact⟨m1.1,m2.1,m1.2.trans r3,m2.2.trans r4,r5⟩
          · have hj:i+1≤j:=hj
            obtain⟨r1,r2⟩:=rest7 j z (by omega) hz
            have m1:=mv z.1 r1 (hdiff j z hj hz)
            exact⟨m1.1,m1.2.trans r2⟩
          · rcases List.mem_append.1 hz with hz | hz
            · obtain⟨r1,r2,r3,r4,r5,r6⟩:=out7 z hz
              have m1:=mv z.1 r1 (fun e=>r5 i _ (Nat.le_refl _) hx e.symm)
              exact⟨m1.1,m1.2.trans r2,r3,r4,fun j y hj hy=>r5 j y (by have hj:i+1≤j:=hj;omega) hy,r6⟩
            · rw[List.mem_singleton.1 hz]
              refine⟨(h1 _).2 (.inr rfl),h4,?_,⟨by show(xs.length:Int)=cols;omega,x4⟩,fun j y hj hy e=>?_,fun a' b' e=>?_⟩
              · rcases Nat.lt_or_ge o4 H.n with h | h
                · exact absurd ⟨(old7 o4 h).1,by omega⟩ h3
                · exact h
              · have hj:i+1≤j:=hj
                have e:y.1=o4:=e
                obtain⟨r1,_⟩:=rest7 j y (by omega) hy
                exact h3 (e ▸ ⟨r1,hdiff j y hj hy⟩)
              · obtain⟨r1,r2,_⟩:=ab7 a' b' e
                exact⟨fun e'=>h3 (by have e':a'=o4:=e';rw[← e'];exact⟨r1,fun e''=>hxW (.inr ⟨a',b',e,.inl e''.symm⟩)⟩),fun e'=>h3 (by have e':b'=o4:=e';rw[← e'];exact⟨r2,fun e''=>hxW (.inr ⟨a',b',e,.inr e''.symm⟩)⟩)⟩
        first
          | (refine KW.freeze 4 rfl (fun A' S' hnA hSA stA hmA hoA hnS hlow2=>?_)
             have key9:=step A' S' hSA stA.st hnS hmA
             refine KW.app1 (xs:=out.map rowV) (v:=rowV (o4,xs)) 3 4 U U U U U U U U U U U U U U U U U U U U U U U (by simp[ol]) (by show(_+1)*24≤_;omega) (by omega) ?_
             exact KW.nxt U U (fun H' g=>⟨⟨i+1,S',A',out++[(o4,xs)],.slice (some ⟨n+1,0,some 1⟩) (i+1) (i+1),[(n+1,⟨36,true,(out++[(o4,xs)]).map rowV⟩)]⟩,key9 _ _ (.inr ⟨by omega,_,rfl,rfl⟩),by simp only;omega,⟨rfl,rfl,rfl,rfl,rfl,rfl,congrArg (Value.int .i64) (inc64 (by omega)),trivial⟩,g.eqT (by simp only[List.map_append];rfl)⟩))
          | (refine KW.freeze 3 rfl (fun A' S' hnA hSA stA hmA hoA hnS hlow2=>?_)
             have key9:=step A' S' hSA stA.st hnS hmA
             have ho0:out=[]:=List.eq_nil_of_length_eq_zero (by omega)
             subst ho0
             subst hi0
             refine KW.app0 (v:=rowV (o4,xs)) 3 U U U U U U U U U U U U U U U U U U U U U U (by decide) ?_
             exact KW.nxt U U (fun H' g=>⟨⟨1,S',A',[(o4,xs)],.slice (some ⟨n+1,0,some 1⟩) (1) (1),[(n+1,⟨36,true,([(o4,xs)]).map rowV⟩)]⟩,key9 _ _ (.inr ⟨by omega,_,rfl,rfl⟩),by simp only;omega,⟨rfl,rfl,rfl,rfl,rfl,rfl,rfl,trivial⟩,g.eqT (by simp only[List.map_append];rfl)⟩))
    case gout=>
      have k2:¬(i:Int)<(rr.length:Int):=k2
      have hl:(out.map Prod.snd).length=i:=by rw[List.length_map];exact ol
      have hown:∀{X:Ids} {H9:AH},(∀j,S7 j→H.n≤j→X j∧H9.m j=A7.m j)→KI.Sl X H9 (.slice a1 ow.length d1) ow:=fun {X H9} hf=>by
        cases hoo:oo with
        | none=>
          have h0:ow=[]:=List.eq_nil_of_length_eq_zero (by rw[hM.len,hM.none_ hoo];rfl)
          rw[hoo] at e1
          subst h0
          cases e1
          exact .inl ⟨rfl,none,0,rfl,fun _=>rfl⟩
        | some ab=>
          obtain⟨a,b⟩:=ab
          obtain⟨r1,r2,r3,r4,r5⟩:=ab7 a b hoo
          rw[hoo] at e1
          cases e1
          have h1:=hf a r1 r5
          exact(row_ml (h1.2.trans r3)).sl.more (fun j hj=>by rw[hj];exact h1.1)
      have hB2:B_Int64SS (out.map Prod.snd):=rect_sml hRect (by omega) (by rw[hl];omega)
      have hO2:B_Int64S ow:=by show ow.length≤_;rw[hM.len];omega
      have hp64:I64 p:=⟨by omega,by omega⟩
      first
        | (have key:=fun(H1:AH) (T9:List Var) (n9:Nat) (g:Good S7 A7 T9 n9 H1) (hb:H1.m o=some ⟨36,true,out.map rowV⟩∧o<H1.n)=>l04Told (S:=Low H1.n) (H0:=H1) N p cols hp64 (a1:=a1) (c1:=d1) (ow:=ow) (a2:=some ⟨o,0,some 1⟩) (c2:=out.length) (rows:=out.map Prod.snd) hO2 hB2 (hown (fun j hj _=>⟨by have:=(g.froz j hj).1;have:=g.n_;show j<H1.n;omega,(g.froz j hj).2⟩)) (by rw[List.length_map];exact rows_sl (X:=Low H1.n) hb.2 hb.1 (fun x hx=>by obtain⟨r1,r2,_⟩:=out7 x hx;exact⟨by have:=(g.froz x.1 r1).1;have:=g.n_;show x.1<H1.n;omega,(g.froz x.1 r1).2.trans r2⟩))
           rw[hl] at key
           rw[ol] at key
           refine KW.callVp1 U U U U U (fun H1 g _=>key H1 _ _ g (g.blk (j:=3) rfl)) (fun v n9 m9 hv=>?_)
           rcases hv with⟨hk,rfl⟩ | rfl
           · refine KW.retM1 U U U U (fun H9 g=>?_)
             refine⟨N,p,cols,a1,some ⟨o,0,some 1⟩,ow.length,d1,i,i,0,rfl,fun _=>⟨ow,out.map Prod.snd,rfl,hl.symm,hk,rfl,rfl,hown (fun j hj hjn=>⟨⟨hjn,by have:=(g.froz j hj).1;have:=g.n_;omega⟩,(g.froz j hj).2⟩),?_⟩⟩
             have hb:=g.blk (j:=3) rfl
             have hgv:=(g.vars 3 _ rfl).2.2
             have ogeH:H.n≤o:=by
               rcases Nat.lt_or_ge o H.n with h | h
               · exact absurd (old7 o h).1 hgv
               · exact h
             have h9:=rows_sl (X:=New H.n H9.n) (A:=H9) (o:=o) (out:=out) ⟨ogeH,hb.2⟩ hb.1 (fun x hx=>by obtain⟨r1,r2,r3,_⟩:=out7 x hx;exact⟨⟨r3,by have:=(g.froz x.1 r1).1;have:=g.n_;omega⟩,(g.froz x.1 r1).2.trans r2⟩)
             rw[ol] at h9
             rw[hl]
             exact h9
           · refine KW.retM1 U U U U (fun H9 g=>?_)
             exact⟨0,0,0,none,none,0,0,0,0,3,rfl,fun h=>by cases h⟩)
        | (have ho0:out=[]:=List.eq_nil_of_length_eq_zero (by omega)
           subst ho0
           have key:=fun(H1:AH) (T9:List Var) (n9:Nat) (g:Good S7 A7 T9 n9 H1)=>l04Told (S:=Low H1.n) (H0:=H1) N p cols hp64 (a1:=a1) (c1:=d1) (ow:=ow) (a2:=none) (c2:=0) (rows:=[]) hO2 hB2 (hown (fun j hj _=>⟨by have:=(g.froz j hj).1;have:=g.n_;show j<H1.n;omega,(g.froz j hj).2⟩)) (.inl ⟨rfl,none,0,rfl,fun _=>rfl⟩)
           refine KW.callVp1 U U U U U (fun H1 g _=>key H1 _ _ g) (fun v n9 m9 hv=>?_)
           rcases hv with⟨hk,rfl⟩ | rfl
           · refine KW.retM1 U U U U (fun H9 g=>?_)
             exact⟨N,p,cols,a1,none,ow.length,d1,0,0,0,rfl,fun _=>⟨ow,[],rfl,rfl,hk,rfl,rfl,hown (fun j hj hjn=>⟨⟨hjn,by have:=(g.froz j hj).1;have:=g.n_;omega⟩,(g.froz j hj).2⟩),.inl ⟨rfl,none,0,rfl,fun _=>rfl⟩⟩⟩
           · refine KW.retM1 U U U U (fun H9 g=>?_)
             exact⟨0,0,0,none,none,0,0,0,0,3,rfl,fun h=>by cases h⟩)
end
def powR (p x:Int) (c:Nat):List Int:=(List.range c).map fun k=>pw p x k
theorem powR_len {p x:Int} {c:Nat}:(powR p x c).length=c:=by simp[powR]
theorem powR_next {p x:Int} {c:Nat}:powR p x (c+1)=powR p x c++[pw p x c]:=by simp[powR,List.range_succ]
theorem powR_rect {p:Int} (hp:2≤p) {c:Nat} {xs:List Int}:Rect p c (xs.map fun x=>powR p x c):=fun r hr=>by
  obtain⟨x,_,rfl⟩:=List.mem_map.1 hr
  refine⟨powR_len,fun y hy=>?_⟩
  obtain⟨k,_,rfl⟩:=List.mem_map.1 hy
  exact pw_ok hp k
section
variable {S:Ids} {H0:AH}
theorem l03Powers {p:Int} (hp31:2≤p∧p≤31) {c:Nat} (hc:c≤20) {xs:List Int} (hxl:xs.length≤20) (hx:∀x∈xs,0≤x∧x<p) {a1 c1} (hs0:KI.Sl S H0 (.slice a1 xs.length c1) xs):SpecM Try.prog S H0 202 [.int .i64 p,.slice a1 xs.length c1,.int .i64 c] (MkMx p c (xs.map fun x=>powR p x c)):=by
  refine SpecM.of1 Try.func202 rfl (by kernel_rfl) rfl (fun H _=>?_)
  have hs:=hs0.up (S':=Low H.n) (H':=H)
  refine KW.build U U U U U (built_Matrix2 _ _) ?_
  refine KW.lpM U U (fun s:CpS=>[(0,.int .i64 p),(1,.slice a1 xs.length c1),(2,.int .i64 c),(6,.pointer (some ⟨H.n,0,some 0⟩)),(7,.pointer (some ⟨H.n+1,0,some 1⟩)),(8,.int .i64 s.i)]) (fun s=>s.S) (fun s=>s.A) (fun s=>[(H.n,⟨26,true,[.int .i64 0,.int .i64 0,.slice none 0 0]⟩),(H.n+1,⟨26,true,[.int .i64 p,.int .i64 c,s.l]⟩)]++s.tail) (fun s=>CqI (fun x=>powR p x c) xs H H (Low H.n) s) (fun s=>xs.length-s.i) (⟨0,Low H.n,H,fun _=>False,[],.slice none 0 0,[]⟩) (⟨RwI.start,.inl ⟨rfl,rfl,rfl,rfl⟩⟩) ⟨rfl,rfl,rfl,rfl,rfl,rfl,trivial⟩ U U (rfl) (fun s hi bE n=>?_)
  obtain⟨i,S1,A1,V,cs,l,tail⟩:=s
  obtain⟨hq,hform⟩:=hi
  simp only at hq hform
  haveI:Stp (Low H.n) H S1 A1:=⟨hq.old⟩
  have hle:=hq.le
  have hcl:=hq.b.len
  rw[List.length_map,List.length_take] at hcl
  simp only at hle hcl
  have hs1:=hs.up (S':=S1) (H':=A1)
  rcases hform with⟨hi0,e1,e2,e3⟩ | ⟨hi0,o,e1,e2⟩
  case' inl=>subst e1 e2 e3
  case' inr=>subst e1 e2
  all_goals
    refine KW.cnd U U (fun j1=>?gin) (fun j1=>?gout)
    case gin=>
      have j1:(i:Int)<(xs.length:Int):=j1
      obtain⟨y,hy⟩:∃y,xs[i]?=some y:=⟨xs[i]'(by omega),List.getElem?_eq_getElem (by omega)⟩
      have hyb:=hx y (List.mem_of_getElem? hy)
      refine KW.lit U U U U U U U U U U [] U U (fun v hv=>by simp at hv) rfl ?_
      first
        | (refine KW.lpM U U (fun s:Nat × Nat=>[(0,.int .i64 p),(1,.slice a1 xs.length c1),(2,.int .i64 c),(6,.pointer (some ⟨H.n,0,some 0⟩)),(7,.pointer (some ⟨H.n+1,0,some 1⟩)),(8,.int .i64 i),(9,.slice (some ⟨s.2,0,some 1⟩) s.1 s.1),(10,.int .i64 s.1)]) (fun _=>S1) (fun _=>A1) (fun s=>[(H.n,⟨26,true,[.int .i64 0,.int .i64 0,.slice none 0 0]⟩),(H.n+1,⟨26,true,[.int .i64 p,.int .i64 c,.slice (some ⟨o,0,some 1⟩) i i]⟩),(o,⟨36,true,cs⟩),(s.2,⟨2,true,(powR p y s.1).map (Value.int .i64)⟩)]) (fun s=>s.1≤c) (fun s=>c-s.1) (0,_) (Nat.zero_le _) ⟨rfl,rfl,rfl,rfl,rfl,rfl,rfl,rfl,trivial⟩ U U U (fun s hi bE n=>?_))
        | (refine KW.lpM U U (fun s:Nat × Nat=>[(0,.int .i64 p),(1,.slice a1 xs.length c1),(2,.int .i64 c),(6,.pointer (some ⟨H.n,0,some 0⟩)),(7,.pointer (some ⟨H.n+1,0,some 1⟩)),(8,.int .i64 i),(9,.slice (some ⟨s.2,0,some 1⟩) s.1 s.1),(10,.int .i64 s.1)]) (fun _=>S1) (fun _=>A1) (fun s=>[(H.n,⟨26,true,[.int .i64 0,.int .i64 0,.slice none 0 0]⟩),(H.n+1,⟨26,true,[.int .i64 p,.int .i64 c,.slice none 0 0]⟩),(s.2,⟨2,true,(powR p y s.1).map (Value.int .i64)⟩)]) (fun s=>s.1≤c) (fun s=>c-s.1) (0,_) (Nat.zero_le _) ⟨rfl,rfl,rfl,rfl,rfl,rfl,rfl,rfl,trivial⟩ U U U (fun s hi bE n=>?_))
      obtain⟨k,o4⟩:=s
      simp only at hi
      refine KW.cnd U U (fun k2=>?_) (fun k2=>?_)
      · have k2:(k:Int)<(c:Int):=k2
        refine KW.getI hs1 U U U U U U U U U U U U U U U U (by omega) (j1) (fun y2 hy2=>?_)
        have hy2:xs[i]?=some y2:=hy2
        rw[hy] at hy2
        cases hy2
        refine KW.callE U U U U U (l03Power p y (k:Int) hp31 hyb (by omega)) (fun _ _=>?_)
        rw[Int.toNat_natCast]
        first
          | (refine KW.app1 (xs:=(powR p y k).map (Value.int .i64)) (v:=.int .i64 (pw p y k)) 3 4 U U U U U U U U U U U U U U U U U U U U U U U (by simp[powR_len]) (by show(k+1)*8≤_;omega) (by show k+1≤_;omega) ?_
             exact KW.nxt U U (fun H' g=>⟨(k+1,_),by simp only;omega,by simp only;omega,⟨rfl,rfl,rfl,rfl,rfl,rfl,rfl,congrArg (Value.int .i64) (inc64 (by omega)),trivial⟩,g.eqT (by rw[powR_next,List.map_append];rfl)⟩))
          | (refine KW.app1 (xs:=(powR p y k).map (Value.int .i64)) (v:=.int .i64 (pw p y k)) 2 3 U U U U U U U U U U U U U U U U U U U U U U U (by simp[powR_len]) (by show(k+1)*8≤_;omega) (by show k+1≤_;omega) ?_
             exact KW.nxt U U (fun H' g=>⟨(k+1,_),by simp only;omega,by simp only;omega,⟨rfl,rfl,rfl,rfl,rfl,rfl,rfl,congrArg (Value.int .i64) (inc64 (by omega)),trivial⟩,g.eqT (by rw[powR_next,List.map_append];rfl)⟩))
      · have k2:¬(k:Int)<(c:Int):=k2
        obtain rfl:k=c:=by omega
        have fin:∀(A':AH) (S':Ids) (o9:Nat),(∀id,S' id↔S1 id∨id=o9)→St S1 A1 S' A'→¬S1 o9→St S1 A1 S' A'∧(∀id,id=o9→S' id∧H.n≤id∧¬S1 id):=fun A' S' o9 h1 h2 h3=>by
          refine⟨h2,fun id e=>?_⟩
          subst e
          refine⟨(h1 _).2 (.inr rfl),?_,h3⟩
          rcases Nat.lt_or_ge id H.n with h | h
          · exact absurd (hq.old id h).1 h3
          · exact h
        have epl:(powR p y k).length=k:=powR_len
        first
          | (refine KW.freeze 3 rfl (fun A' S' hnA hSA stA hmA hoA hnS hlow2=>?_)
             obtain⟨f1,f2⟩:=fin A' S' _ hSA stA.st hnS
             have hrow:=row_ml (xs:=powR p y k) hmA
             rw[epl] at hrow
             refine KW.app1 (xs:=cs) (v:=.slice (some ⟨o4,0,some 1⟩) k k) 2 3 U U U U U U U U U U U U U U U U U U U U U U U (by omega) (by show(_+1)*24≤_;omega) (by omega) ?_
             exact KW.nxt U U (fun H' g=>⟨⟨i+1,S',A',_,_,_,_⟩,⟨hq.nextX (o':=0) f1 f2 hy hrow,.inr ⟨by simp only;omega,_,rfl,rfl⟩⟩,by simp only;omega,⟨rfl,rfl,rfl,rfl,rfl,congrArg (Value.int .i64) (inc64 (by omega)),trivial⟩,g⟩))
          | (refine KW.freeze 2 rfl (fun A' S' hnA hSA stA hmA hoA hnS hlow2=>?_)
             obtain⟨f1,f2⟩:=fin A' S' _ hSA stA.st hnS
             have hrow:=row_ml (xs:=powR p y k) hmA
             rw[epl] at hrow
             refine KW.app0 (v:=.slice (some ⟨o4,0,some 1⟩) k k) 2 U U U U U U U U U U U U U U U U U U U U U U (by decide) ?_
             subst hi0
             exact KW.nxt U U (fun H' g=>⟨⟨1,S',A',_,_,_,_⟩,⟨hq.nextX (o':=0) f1 f2 hy hrow,.inr ⟨by simp only;omega,_,rfl,rfl⟩⟩,by simp only;omega,⟨rfl,rfl,rfl,rfl,rfl,rfl,trivial⟩,g⟩))
    case gout=>
      have j1:¬(i:Int)<(xs.length:Int):=j1
      have he:i=xs.length:=by omega
      have el:(xs.map fun x=>powR p x c).length=xs.length:=List.length_map ..
      refine KW.retM1 U U U U (fun H1 g=>?_)
      first
        | (have h0:xs=[]:=List.eq_nil_of_length_eq_zero (by omega)
           subst h0
           exact⟨none,0,rfl,.inl ⟨rfl,_,_,rfl,fun _=>rfl⟩⟩)
        | (refine⟨some ⟨o,0,some 1⟩,i,by rw[el,← he];rfl,?_⟩
           have hm:=((⟨hq.le,hq.old,hq.b,hq.v⟩:RwI (fun x=>powR p x c) xs H (Low H.n) H ⟨i,S1,A1,V,cs,o⟩).ml he g (j:=2) rfl (g.ge (H1:=H) (j:=2) rfl)).to (KLe.row (KLe.refl KI))
           rw[el]
           rw[← he] at hm ⊢
           exact hm)
def upI (b:Int) (c:Nat):List Int:=(List.range c).map fun(k:Nat)=>b+(k:Int)
theorem upI_len {b:Int} {c:Nat}:(upI b c).length=c:=by simp[upI]
theorem upI_next {b:Int} {c:Nat}:upI b (c+1)=upI b c++[b+(c:Int)]:=by simp[upI,List.range_succ]
theorem upI_in {b:Int} {c:Nat} {x:Int} (h:x∈upI b c):b≤x∧x<b+c:=by
  obtain⟨k,hk,rfl⟩:=List.mem_map.1 h
  have:=List.mem_range.1 hk
  omega
def ScP (m:Nat) (H1:AH) (cs:List Value):Prop:=
  ∃(h p c:Int) (ow:List Int) (rows:List (List Int)) (a1 a2:Option Addr) (c1 c2:Nat),cs=[.int .i64 h,.slice a1 ow.length c1,.int .i64 p,.int .i64 c,.slice a2 rows.length c2]∧OkSch h ow p c rows∧KI.Sl (New m H1.n) H1 (.slice a1 ow.length c1) ow∧KI.sl.Sl (New m H1.n) H1 (.slice a2 rows.length c2) rows
theorem prime_small {p:Int} (hp:p=2∨p=3∨p=5∨p=7∨p=11):PrimeP p:=by
  rcases hp with rfl | rfl | rfl | rfl | rfl
  · exact⟨by decide,by decide,fun d h2 hd=>by omega⟩
  · exact⟨by decide,by decide,fun d h2 hd=>(by decide:∀d:Nat,d<11→2≤d→(d:Int)<3→¬(3:Int)%(d:Int)=0) d (by omega) h2 hd⟩
  · exact⟨by decide,by decide,fun d h2 hd=>(by decide:∀d:Nat,d<11→2≤d→(d:Int)<5→¬(5:Int)%(d:Int)=0) d (by omega) h2 hd⟩
  · exact⟨by decide,by decide,fun d h2 hd=>(by decide:∀d:Nat,d<11→2≤d→(d:Int)<7→¬(7:Int)%(d:Int)=0) d (by omega) h2 hd⟩
  · exact⟨by decide,by decide,fun d h2 hd=>(by decide:∀d:Nat,d<11→2≤d→(d:Int)<11→¬(11:Int)%(d:Int)=0) d (by omega) h2 hd⟩
theorem curve {p:Int} (hp:p=5∨p=7∨p=11) {q least:Nat} (hn:1≤q∧q≤4) (hl:1≤least∧least≤q):SpecM Try.prog S H0 150 [.int .i64 p,.int .i64 q,.int .i64 least] (fun m v H1=>∃cs:List Value,v=.tuple #[.agg cs.toArray,.int .i64 0]∧ScP m H1 cs):=by
  have hpr:PrimeP p:=prime_small (by omega)
  have hp31:2≤p∧p≤31:=⟨hpr.1,hpr.2.1⟩
  refine SpecM.of1 Try.func150 rfl (by kernel_rfl) rfl (fun H _=>?_)
  refine KW.callE U U U U U (specIsPrime p) (fun _ _=>?_)
  rw[tv_true hpr]
  refine KW.tF U U (by first | (simp;done) | decide) ?_
  refine KW.callE U U U U U (l00In _ _ _) (fun _ _=>?_)
  refine KW.tF U U (by simp;omega) ?_
  refine KW.callE U U U U U (l00In _ _ _) (fun _ _=>?_)
  refine KW.cF U U (by simp;omega) ?_
  refine KW.no U U (by omega) ?_
  refine KW.lit U U U U U U U U U U [] U U (fun v hv=>by simp at hv) rfl ?_
  refine KW.lit U U U U U U U U U U [] U U (fun v hv=>by simp at hv) rfl ?_
  refine KW.lpM U U (fun s:Nat × Nat × Nat=>[(0,.int .i64 p),(1,.int .i64 q),(2,.int .i64 least),(6,.pointer (some ⟨H.n,0,some 0⟩)),(8,.slice (some ⟨s.2.1,0,some 1⟩) s.1 s.1),(9,.slice (some ⟨s.2.2,0,some 1⟩) s.1 s.1),(10,.int .i64 s.1)]) (fun s=>Low H.n) (fun s=>H) (fun s=>[(H.n,⟨38,true,[.int .i64 0,.slice none 0 0,.int .i64 0,.int .i64 0,.slice none 0 0]⟩),(s.2.1,⟨2,true,(upI 1 s.1).map (Value.int .i64)⟩),(s.2.2,⟨2,true,(upI 0 s.1).map (Value.int .i64)⟩)]) (fun s=>s.1≤q) (fun s=>q-s.1) ((0,_,_)) (Nat.zero_le _) ⟨rfl,rfl,rfl,rfl,rfl,rfl,rfl,trivial⟩ U U (rfl) (fun s hi bE n=>?_)
  obtain⟨i,o1,o2⟩:=s
  simp only at hi
  refine KW.fact (p:=H.n<n) (fun H1 g=>(g.vars 0 _ rfl).2.1) (fun hfn=>?_)
  refine KW.cnd U U (fun k1=>?_) (fun k1=>?_)
  · have k1:(i:Int)<(q:Int):=k1
    have e1:IntKind.i64.wrap ((i:Int)+1)=1+(i:Int):=by rw[wr (by omega) (by omega)];omega
    refine KW.app1 (xs:=(upI 1 i).map (Value.int .i64)) (v:=.int .i64 (IntKind.i64.wrap ((i:Int)+1))) 1 3 U U U U U U U U U U U U U U U U U U U U U U U (by simp[upI_len]) (by show(i+1)*8≤_;omega) (by show i+1≤_;omega) ?_
    refine KW.app1 (xs:=(upI 0 i).map (Value.int .i64)) (v:=.int .i64 i) 2 3 U U U U U U U U U U U U U U U U U U U U U U U (by simp[upI_len]) (by show(i+1)*8≤_;omega) (by show i+1≤_;omega) ?_
    refine KW.nxt U U (fun H' g=>⟨(i+1,_,_),by simp only;omega,by first | omega | (simp only;omega),⟨rfl,rfl,rfl,rfl,rfl,rfl,congrArg (Value.int .i64) (inc64 (by omega)),trivial⟩,g.eqT (by simp only[upI_next,List.map_append,e1,Int.zero_add];rfl)⟩)
  · have k1:¬(i:Int)<(q:Int):=k1
    have e:i=q:=by omega
    have hup:∀x∈upI 1 i,0≤x∧x<p:=fun x hx=>by have:=upI_in hx;omega
    have key:=fun(H1:AH) (hb:H1.m o1=some ⟨2,true,(upI 1 i).map (Value.int .i64)⟩∧o1<H1.n)=>l03Powers (S:=Low H1.n) (H0:=H1) (p:=p) hp31 (c:=least) (by omega) (xs:=upI 1 i) (by rw[upI_len];omega) hup (a1:=some ⟨o1,0,some 1⟩) (c1:=(upI 1 i).length) ((row_ml hb.1).sl.more (fun id h=>by rw[h];exact hb.2))
    rw[upI_len] at key
    refine KW.callNV1 U U U U U (fun H1 g _=>key H1 (g.blk (j:=1) rfl)) (fun v HP SP mP tP wP hv=>?_)
    obtain⟨a5,c5,rfl,hP⟩:=hv
    have hlen:((upI 1 i).map fun x=>powR p x least).length=i:=by rw[List.length_map,upI_len]
    rw[hlen] at hP ⊢
    have hR:Rect p least ((upI 1 i).map fun x=>powR p x least):=powR_rect hp31.1
    have hok:OkSch (q:Int) (upI 0 i) p least ((upI 1 i).map fun x=>powR p x least):=⟨by omega,by omega,⟨hpr,by omega,by omega,by rw[hlen];omega,fun r hr=>⟨by have:=(hR r hr).1;omega,fun y hy=>by have:=(hR r hr).2 y hy;omega⟩⟩,by omega,by rw[upI_len,hlen],fun y hy=>by have:=upI_in hy;omega⟩
    refine KW.build U U U U U (built_Scheme3 _ _ _ _ _ _ _ _ _) ?_
    refine KW.retM1 U U U U (fun H1 g=>?_)
    have hb:=g.blk (j:=2) rfl
    have hnv:=(g.vars 2 _ rfl).2.2
    have oge:H.n≤o2:=by
      rcases Nat.lt_or_ge o2 H.n with h | h
      · exact absurd (tP.st o2 h).1 hnv
      · exact h
    haveI:=g.out (X:=New n HP.n) (H:=HP) (lo:=H.n) (fun id hid=>by have:=hid.1;omega)
    have h1:KI.Sl (New H.n H1.n) H1 (.slice (some ⟨o2,0,some 1⟩) (upI 0 i).length (upI 0 i).length) (upI 0 i):=(row_ml hb.1).sl.more (fun id h=>by rw[h];exact⟨oge,hb.2⟩)
    refine⟨_,rfl,q,p,least,upI 0 i,(upI 1 i).map (fun x=>powR p x least),some ⟨o2,0,some 1⟩,a5,(upI 0 i).length,c5,by rw[upI_len,hlen];rfl,hok,h1,?_⟩
    rw[hlen]
    exact hP.up
end
end Go.Proofs.Ytlapbbffoapleaa.Am
