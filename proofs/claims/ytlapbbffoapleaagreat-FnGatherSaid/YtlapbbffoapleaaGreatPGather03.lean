/- Contracts and laws on abstract memory, merged. Each holds under its own conditions. -/
import Derived.Test.YtlapbbffoapleaaGreatPGather02
set_option linter.unusedVariables false
set_option linter.unusedSimpArgs false
set_option maxRecDepth 20000
set_option maxHeartbeats 4000000
namespace Go.Proofs.YtlapbbffoapleaaGreat.Am
open Go Go.RowKit Go.Proofs Go.Proofs.YtlapbbffoapleaaGreat.Pl
noncomputable def codeS (x:T_Scheme) (g:List Int):Int:=if tv (SchOk x)=true then(if tv (Rises 0 (x.1-1) g)=true then 0 else 2) else 1
noncomputable def rowsG (ow:List Int) (g:List Int):List Int:=rowsP (fun i=>(bitsOf g).testBit (ow.getD i 0).toNat) ow.length
noncomputable def codeH (x:T_Scheme) (g held:List Int):Int:=if codeS x g=0 then(if tv (held.length=(rowsG x.2.1 g).length∧Elems x.2.2.1 held)=true then 0 else 2) else codeS x g
theorem codeS_ok {x:T_Scheme} {g:List Int} (h:codeS x g=0):SchOk x∧Rises 0 (x.1-1) g:=by
 unfold codeS at h
 split at h
 ·rename_i h1
  split at h
  ·rename_i h2;exact⟨tv_iff.1 h1,tv_iff.1 h2⟩
  ·cases h
 ·cases h
theorem codeH_ok {x:T_Scheme} {g held:List Int} (h:codeH x g held=0):SchOk x∧Rises 0 (x.1-1) g∧held.length=(rowsG x.2.1 g).length∧Elems x.2.2.1 held:=by
 unfold codeH at h
 split at h
 ·rename_i h1
  split at h
  ·rename_i h2
   exact⟨(codeS_ok h1).1,(codeS_ok h1).2,(tv_iff.1 h2).1,(tv_iff.1 h2).2⟩
  ·cases h
 ·rename_i h1;exact absurd h h1
theorem rises_small {q:Nat} {g:List Int} (h:Rises 0 ((q:Int)-1) g):∀x∈g,0≤x∧x<(q:Int):=fun x hx=>by have:=rises_mem h x hx;omega
theorem group_bits {q:Nat} {g:List Int} (h:Rises 0 ((q:Int)-1) g) {y:Int} (h0:0≤y) (h1:y<q):decide (y∈g)=(bitsOf g).testBit y.toNat:=by
 rw[← hold_has h0 h1,hold_bits q h]
section
variable {S:Ids} {H0:AH}
theorem schemeCode (x:T_Scheme) (g:List Int) {a1 c1 a2 c2 a3 c3} (hB:B_Scheme x) (hG:B_Int64S g) (h1:KI.Sl S H0 (.slice a1 x.2.1.length c1) x.2.1) (h2:KI.sl.Sl S H0 (.slice a2 x.2.2.2.2.length c2) x.2.2.2.2) (h3:KI.Sl S H0 (.slice a3 g.length c3) g):
  Spec Tryz.prog S H0 63 [.agg #[.int .i64 x.1,.slice a1 x.2.1.length c1,.int .i64 x.2.2.1,.int .i64 x.2.2.2.1,.slice a2 x.2.2.2.2.length c2],.slice a3 g.length c3] (fun v=>v=.int .i64 (codeS x g)):=by
 refine Spec.of1 Tryz.func63 rfl (by kernel_rfl) rfl (fun H _=>?_)
 have hG':g.length≤1048576:=hG
 refine KW.callE U U U U U (validScheme x.1 x.2.2.1 x.2.2.2.1 hB.2.2.1 hB.2.1 hB.2.2.2.2 h1.up h2.up) (fun _ _=>?_)
 by_cases hk:SchOk x
 ·rw[show tv (OkSch x.1 x.2.1 x.2.2.1 x.2.2.2.1 x.2.2.2.2)=true from tv_true hk]
  refine KW.cF U U (by first | (simp;done) | decide) ?_
  refine KW.callE U U U U U (isGroup x.1 (by omega) (by have:=hk.h1;have:=hk.h7;omega) h3.up) (fun _ _=>?_)
  by_cases hg:Rises 0 (x.1-1) g
  ·rw[tv_true hg]
   refine KW.cF U U (by first | (simp;done) | decide) ?_
   exact KW.ret U U U U (by unfold codeS;rw[if_pos (tv_true hk),if_pos (tv_true hg)];rfl)
  ·rw[tv_false hg]
   refine KW.cT U U (by first | (simp;done) | decide) ?_
   exact KW.ret U U U U (by unfold codeS;rw[if_pos (tv_true hk),if_neg (by rw[tv_false hg];decide)];rfl)
 ·rw[show tv (OkSch x.1 x.2.1 x.2.2.1 x.2.2.2.1 x.2.2.2.2)=false from tv_false hk]
  refine KW.cT U U (by first | (simp;done) | decide) ?_
  exact KW.ret U U U U (by unfold codeS;rw[if_neg (by rw[tv_false hk];decide)];rfl)
theorem heldCode (x:T_Scheme) (g held:List Int) {a1 c1 a2 c2 a3 c3 a4 c4} (hB:B_Scheme x) (hG:B_Int64S g) (hH:B_Int64S held) (h1:KI.Sl S H0 (.slice a1 x.2.1.length c1) x.2.1) (h2:KI.sl.Sl S H0 (.slice a2 x.2.2.2.2.length c2) x.2.2.2.2) (h3:KI.Sl S H0 (.slice a3 g.length c3) g) (h4:KI.Sl S H0 (.slice a4 held.length c4) held):
  Spec Tryz.prog S H0 124 [.agg #[.int .i64 x.1,.slice a1 x.2.1.length c1,.int .i64 x.2.2.1,.int .i64 x.2.2.2.1,.slice a2 x.2.2.2.2.length c2],.slice a3 g.length c3,.slice a4 held.length c4] (fun v=>v=.int .i64 (codeH x g held)):=by
 refine Spec.of1 Tryz.func124 rfl (by kernel_rfl) rfl (fun H _=>?_)
 have hG':g.length≤1048576:=hG
 have hH':held.length≤1048576:=hH
 refine KW.callE U U U U U (schemeCode x g hB hG h1.up h2.up h3.up) (fun _ _=>?_)
 by_cases hs:codeS x g=0
 ·obtain⟨hk,hg⟩:=codeS_ok hs
  have hk':OkSch x.1 x.2.1 x.2.2.1 x.2.2.2.1 x.2.2.2.2:=hk
  obtain⟨q,hq⟩:∃q:Nat,x.1=q:=⟨x.1.toNat,by have:=hk'.h1;omega⟩
  have hq7:=hk'.h7
  rw[hq] at hg
  have hgs:=rises_small hg
  have hbt:bitsOf g<256:=Nat.lt_of_lt_of_le (bitsOf_lt (m:=q) (fun x hx=>by have:=hgs x hx;omega)) (Nat.pow_le_pow_right (by decide) (show q≤8 by omega))
  rw[hs]
  refine KW.tT U U (by first | (simp;done) | decide) ?_
  refine KW.callE U U U U U (crowdOf (m:=q) (by omega) (by omega) hgs h3.up) (fun _ _=>?_)
  refine KW.callN1 U U U U U (rowsHeld x.1 x.2.2.1 x.2.2.2.1 (bitsOf g) (by omega) hB.2.1 hk'.own hk'.h7 h1.up) (fun v HR SR mR _ _ hv=>?_)
  obtain⟨a5,c5,rfl,hR⟩:=hv
  rw[show rowsP (fun i=>(bitsOf g).testBit (x.2.1.getD i 0).toNat) x.2.1.length=rowsG x.2.1 g from rfl]
  by_cases hl:held.length=(rowsG x.2.1 g).length
  ·refine KW.tF U U (by simp[hl]) ?_
   refine KW.callE U U U U U (areElements x.2.2.1 hB.2.2.1 (by omega) h4.up) (fun _ _=>?_)
   by_cases he:Elems x.2.2.1 held
   ·rw[tv_true (p:=PrimeP x.2.2.1∧Elems x.2.2.1 held) ⟨hk'.mat.pr,he⟩]
    refine KW.cF U U (by first | (simp;done) | decide) ?_
    refine KW.retM1 U U U U (fun H1 g=>by unfold codeH;rw[if_pos hs,if_pos (tv_true ⟨hl,he⟩)];rfl)
   ·rw[tv_false (p:=PrimeP x.2.2.1∧Elems x.2.2.1 held) (fun hc=>he hc.2)]
    refine KW.cT U U (by first | (simp;done) | decide) ?_
    refine KW.retM1 U U U U (fun H1 g=>by unfold codeH;rw[if_pos hs,if_neg (by rw[tv_false (fun hc=>he hc.2)];decide)];rfl)
  ·refine KW.tT U U (by simp;omega) ?_
   refine KW.cT U U (by first | (simp;done) | decide) ?_
   refine KW.retM1 U U U U (fun H1 g=>by unfold codeH;rw[if_pos hs,if_neg (by rw[tv_false (fun hc=>hl hc.1)];decide)];rfl)
 ·refine KW.tF U U (by simpa using hs) ?_
  refine KW.cF U U (by first | (simp;done) | decide) ?_
  exact KW.ret U U U U (by unfold codeH;rw[if_neg hs];rfl)
end
theorem fer_all:((List.range 32).all fun p=>(List.range p).all fun a=>Nat.beq a 0||!((List.range p).all fun d=>Nat.ble d 1||!Nat.beq (p%d) 0)||Nat.ble p 1||((a:Int)*pw p a (p-2)-1)%p==0)=true:=by decide+kernel
theorem fer {p:Int} (h:PrimeP p):Fer p:=by
 obtain⟨h2,h31,hd⟩:=h
 refine⟨h2,fun a h0 h1=>?_⟩
 obtain⟨q,rfl⟩:∃q:Nat,p=q:=⟨p.toNat,by omega⟩
 obtain⟨b,rfl⟩:∃b:Nat,a=b:=⟨a.toNat,by omega⟩
 have h3:=List.all_eq_true.1 (List.all_eq_true.1 fer_all q (List.mem_range.2 (by omega))) b (List.mem_range.2 (by omega))
 have h4:((List.range q).all fun d=>Nat.ble d 1||!Nat.beq (q%d) 0)=true:=by
  refine List.all_eq_true.2 fun d hdm=>?_
  have hdq:=List.mem_range.1 hdm
  by_cases hd1:d≤1
  ·rw[Nat.ble_eq_true_of_le hd1];rfl
  ·have h5:=hd d (by omega) (by omega)
   have h6:Nat.beq (q%d) 0=false:=by
    cases hb:Nat.beq (q%d) 0 with
    | false=>rfl
    | true=>exact absurd (by have:=Nat.eq_of_beq_eq_true hb;omega) h5
   rw[h6];simp
 rw[h4] at h3
 have hb0:Nat.beq b 0=false:=by
  cases hb:Nat.beq b 0 with
  | false=>rfl
  | true=>have:=Nat.eq_of_beq_eq_true hb;omega
 have hp1:Nat.ble q 1=false:=by
  cases hb:Nat.ble q 1 with
  | false=>rfl
  | true=>have:=Nat.le_of_ble_eq_true hb;omega
 rw[hb0,hp1] at h3
 simp only[Bool.not_true,Bool.false_or,beq_iff_eq] at h3
 have e:((q:Int)-2).toNat=q-2:=by omega
 rw[e]
 obtain⟨k,hk⟩:=Int.dvd_of_emod_eq_zero h3
 exact⟨k,by omega⟩
section
variable {P:Program} {S:Ids} {H0:AH} {Q:PostC} {k k1:List It} {e e1:Env} {T T1:List Var} {n n1:Nat} {l1 r1:List Nat} {d1:Tmp}
end
def MkB (xs:List Int) (n:Nat) (v:Value) (H1:AH):Prop:=(xs=[]∧v=.slice none 0 0)∨∃o,v=.slice (some ⟨o,0,some 1⟩) xs.length xs.length∧New n H1.n o∧H1.m o=some ⟨2,true,xs.map (Value.int .i64)⟩
section
variable {S:Ids} {H0:AH}
theorem cloneB {a c} {xs:List Int} (hl:xs.length≤1048576) (hs:KI.Sl S H0 (.slice a xs.length c) xs):SpecM Tryz.prog S H0 89 [.slice a xs.length c] (MkB xs):=by
 refine SpecM.of1 Tryz.func89 rfl (by kernel_rfl) rfl (fun H _=>?_)
 refine KW.cndB U U (fun h=>?_) (fun h=>?_)
 ·have ha:a=none:=by cases a with
   | none=>rfl
   | some a=>simp at h
  have hx:xs=[]:=by
   rcases hs with⟨hx,_⟩ | ⟨id,k,c1,b,h1,_⟩
   ·exact hx
   ·rw[ha] at h1;cases h1
  subst hx
  refine KW.retM1 U U U U (fun H1 g=>.inl ⟨rfl,rfl⟩)
 ·refine KW.lit U U U U U U U U U U [] U U (fun v hv=>by simp at hv) rfl ?_
  refine KW.appV 0 U U U U U U U U U U (fun H1 g=>acells_I hs.up g) (by simp) (by simp) (fun v hv=>by obtain⟨_,_,rfl⟩:=List.mem_map.1 hv;rfl) (by show(_+_)*8≤_;simp only[List.length_cons,List.length_nil];omega) (by simp only[List.length_cons,List.length_nil];omega) (show 0+xs.length=xs.length from by omega) (fun oa _ _=>?_)
  refine KW.retM1 U U U U (fun H1 g=>.inr ⟨_,rfl,⟨g.ge (H1:=H) (j:=0) rfl,(g.blk (j:=0) rfl).2⟩,(g.blk (j:=0) rfl).1⟩)
end
def augW (L:List (List Int)) (vals:List Int):List (List Int):=List.zipWith (fun r v=>r++[v]) L vals
theorem augW_at {L:List (List Int)} {vals:List Int} {i:Nat} {r:List Int} {v:Int} (h:L[i]?=some r) (h':vals[i]?=some v):(augW L vals)[i]?=some (r++[v]):=by
 simp[augW,List.getElem?_zipWith,h,h']
theorem augW_len {L:List (List Int)} {vals:List Int} (h:vals.length=L.length):(augW L vals).length=L.length:=by simp[augW,h]
theorem augW_rect {p:Int} {k:Nat} {L:List (List Int)} {vals:List Int} (hL:Rect p k L) (hv:∀v∈vals,0≤v∧v<p):Rect p (k+1) (augW L vals):=fun w hw=>by
 obtain⟨i,hi⟩:=List.getElem?_of_mem hw
 simp only[augW,List.getElem?_zipWith] at hi
 split at hi
 ·rename_i r v hr hv'
  simp only[Option.some.injEq] at hi
  subst hi
  have h1:=hL r (List.mem_of_getElem? hr)
  refine⟨by simp[h1.1],fun x hx=>?_⟩
  rcases List.mem_append.1 hx with h | h
  ·exact h1.2 x h
  ·rw[List.mem_singleton.1 h];exact hv v (List.mem_of_getElem? hv')
 ·cases hi
theorem RowsB.slV {S V:Ids} {A H1:AH} {rows:List (List Int)} {cs:List Value} {T:List Var} {n j o:Nat} {ty:TypeId} (h:RowsB KI.ml S A V rows cs) (g:Good S A T n H1) (hT:T[j]?=some (o,⟨ty,true,cs⟩)):KI.sl.Sl (Low H1.n) H1 (.slice (some ⟨o,0,some 1⟩) rows.length rows.length) rows:=
 (h.ml rfl g hT (X:=Low H1.n) (g.blk hT).2 (fun id hid=>by have:=(g.froz id (h.sub id hid)).1;have:=g.n_;show id<_;omega)).to (KLe.row (KLe.refl KI))
section
variable {P:Program} {S:Ids} {H0:AH} {Q:PostC} {k k1:List It} {e e1:Env} {T T1:List Var} {n n1:Nat} {l1 r1:List Nat} {d1:Tmp}
theorem KW.callWV {f:Operand} {xs:Array Operand} {ts:Array TypeId} {g:FuncId} {first cap:Array Value} {o:Oper} {W:Ids} {post:Nat→Value→AH→Prop} (hW:∀id,W id→S id) (h:Go1 P k e T n (.op o false) k1 e1 T1 n1 l1 r1) (hlr:l1=r1) (ho:o.op=.call {callee:=.value f,args:=xs,argTypes:=ts}) (hd:o.dst=some d1) (hf:ev e1 f=.func (.func g) first cap)
  (hs:∀H,Good S H0 T1 n1 H→Stp S H0 (Low H.n) H→SpecW P (Low H.n) H W g (cargs e1 first cap xs) post)
  (hk:∀v H1 (S':Ids),n1≤H1.n→StW W S H0 S' H1→(∀id,New n1 H1.n id→S' id)→post n1 v H1→KW P S' H1 Q H1.n T1 k1 (put1 e1 d1 (untag v))):KW P S H0 Q n T k e:=by
 refine KW.go h hlr (fun H gd=>?_)
 replace gd:Good S H0 T1 n1 H:=gd
 obtain⟨m,v,H1,h1,hx1,hx2,hfin,hp⟩:=hs H gd gd.stp H gd.fin (fun id hid=>⟨hid,rfl⟩)
 have hn:H.n=n1:=gd.n_
 have e:untags (first++aargs e1 xs++cap)=(cargs e1 first cap xs).toArray:=by
  apply Array.ext'
  simp[aargs,untags,cargs]
 refine⟨m,untag v,H1,?_,?_⟩
 ·rw[ho]
  simp only[evOp,evCall,hf]
  exact⟨v,rfl,by rw[e];exact h1,fun h=>by cases h⟩
 ·rw[hn] at hp
  rw[hd,put1_eq]
  refine hk v H1 (fun id=>S id∨New n1 H1.n id) (by rw[← hn];exact hx1) (fun id hid=>⟨.inl hid,fun hw=>?_⟩) (fun id hid=>.inr hid) hp H1 ?_
  ·obtain⟨h2,h3⟩:=gd.froz id hid
   rw[hx2 id (by omega) hw,h3]
  ·refine⟨rfl,hfin,fun id hid=>⟨?_,rfl⟩,fun j w hj=>?_,gd.dist⟩
   ·rcases hid with hid | hid
    ·have:=(gd.froz id hid).1;omega
    ·exact hid.2
   ·obtain⟨h2,h3,h4⟩:=gd.vars j w hj
    refine⟨by rw[hx2 _ (by omega) (fun hw=>h4 (hW _ hw))];exact h2,by omega,fun hh=>?_⟩
    rcases hh with hh | hh
    ·exact h4 hh
    ·have:=hh.1;omega
end
section
variable {S:Ids} {H0:AH}
theorem first1 (a:Int):Spec Tryz.prog S H0 247 [.int .i64 a] (fun v=>v=.bool (!decide (a=0))):=by
 refine Spec.of1 Tryz.func247 rfl (by kernel_rfl) rfl (fun H _=>?_)
 exact KW.ret U U U U (rfl)
theorem indexFunc0 {a c} {xs:List Int} (hl:xs.length≤4611686018427387904) (hs:KI.Sl S H0 (.slice a xs.length c) xs):
  Spec Tryz.prog S H0 215 [.slice a xs.length c,.func (.func 247) #[] #[]] (fun v=>v=.int .i64 (if fz xs<xs.length then(fz xs:Int) else -1)):=by
 refine Spec.of1 Tryz.func215 rfl (by kernel_rfl) rfl (fun H _=>?_)
 refine KW.lp U U (fun i:Nat=>[(0,.slice a xs.length c),(1,.func (.func 247) #[] #[]),(7,.int .i64 xs.length),(8,.int .i64 i)]) (fun i=>i≤xs.length∧∀j,j<i→xs.getD j 0=0) (fun i=>xs.length-i) (0) (⟨by omega,fun j h=>absurd h (by omega)⟩) ⟨rfl,rfl,rfl,rfl,trivial⟩ (fun i hi bE n=>?_)
 obtain⟨hi,hj⟩:=hi
 refine KW.cnd U U (fun h=>?_) (fun h=>?_)
 ·refine KW.getI hs.up U U U U U U U U U U U U U U U U (by omega) (h) (fun x hx=>?_)
  have hx:xs[i]?=some x:=hx
  have hxD:xs.getD i 0=x:=by rw[List.getD_eq_getElem?_getD,hx];rfl
  refine KW.callE U U U U U (first1 x) (fun _ _=>?_)
  refine KW.cndB U U (fun h2=>?_) (fun h2=>?_)
  ·have h2:x≠0:=by simpa using h2
   have e:fz xs=i:=fz_eq (by rw[hxD];exact h2) hj
   exact KW.ret U U U U (by rw[e,if_pos (by omega)];rfl)
  ·have h2:x=0:=by simpa using h2
   refine KW.nxt U U (fun H' g=>⟨i+1,⟨by omega,fun j hj'=>by rcases Nat.lt_or_ge j i with h3 | h3;exact hj j h3;rw[show j=i by omega,hxD];exact h2⟩,by first | omega | (simp only;omega),⟨rfl,rfl,rfl,congrArg (Value.int .i64) (inc64 (by omega)),trivial⟩,g⟩)
 ·have e:fz xs=xs.length:=fz_of_zero fun j=>by
   rcases Nat.lt_or_ge j i with h3 | h3
   ·exact hj j h3
   ·rw[List.getD_eq_getElem?_getD,List.getElem?_eq_none (by omega)];rfl
  exact KW.ret U U U U (by rw[e,if_neg (by omega)];rfl)
theorem first {a c} {xs:List Int} (hl:xs.length≤4611686018427387904) (hs:KI.Sl S H0 (.slice a xs.length c) xs):
  Spec Tryz.prog S H0 190 [.slice a xs.length c] (fun v=>v=.int .i64 (if fz xs<xs.length then(fz xs:Int) else -1)):=by
 refine Spec.of1 Tryz.func190 rfl (by kernel_rfl) rfl (fun H _=>?_)
 refine KW.callE U U U U U (indexFunc0 hl hs.up) (fun _ _=>?_)
 exact KW.ret U U U U (rfl)
end
def Kn.inX {α:Type} (d:Kn α) (X:Ids):Kn α where
 es:=d.es
 R:=fun S A x cs=>(∀id,X id→S id)∧d.R X A x cs
 len:=fun h=>d.len h.2
 same:=fun hs h=>⟨h.1,d.same (fun id hid=>hs id (h.1 id hid)) h.2⟩
 more:=fun hS h=>⟨fun id hid=>hS id (h.1 id hid),h.2⟩
theorem Kn.Sl.inX {α:Type} {d:Kn α} {X S:Ids} {A:AH} {s:Value} {xs:List α} (h:d.Sl X A s xs) (hX:∀id,X id→S id):(d.inX X).Sl S A s xs:=by
 rcases h with h | ⟨id,k,c,b,e1,e2,e3,e4,e5,e6⟩
 ·exact .inl h
 ·exact .inr ⟨id,k,c,b,e1,e2,hX id e3,e4,e5,fun i x hx=>⟨hX,e6 i x hx⟩⟩
abbrev K_Prt:Kn PrT:=Kn.pair KI.sl KI.sl
theorem form_Prt {S:Ids} {A:AH} {x:PrT} {cs:List Value} (h:K_Prt.R S A x cs):∃a1 c1 a2 c2,cs=[.slice a1 x.1.length c1,.slice a2 x.2.length c2]∧KI.Sl S A (.slice a1 x.1.length c1) x.1∧KI.Sl S A (.slice a2 x.2.length c2) x.2:=by
 obtain⟨e0,d0,rfl,h0,h1⟩:=h
 obtain⟨a1,c1,rfl⟩:=slform h0
 obtain⟨a2,c2,rfl⟩:=slform h1
 exact⟨a1,c1,a2,c2,rfl,sl1 h0,sl1 h1⟩
structure LsI (p:Int) (B:List PrT) (x:PrT) (W1 W2:Ids) (H:AH) (v1 v2:Value) (i:Nat) (S:Ids) (A:AH):Prop where
 le:i≤B.length
 low:∀id,id<H.n→S id∧(¬(W1 id∨W2 id)→A.m id=H.m id)
 r1:KI.Ml W1 A v1 (less p (B.take i) x).1
 r2:KI.Ml W2 A v2 (less p (B.take i) x).2
structure LsS where
 i:Nat
 S:Ids
 A:AH
section
variable {S:Ids} {H0:AH}
theorem lessC {p:Int} {k q:Nat} (hp:PrimeP p) (hk:k≤100) (hq:q≤100) {B:List PrT} {x:PrT} (hB:∀b∈B,PrOk p k q b∧fz b.1<k) (hx:PrOk p k q x) (hBl:B.length≤100)
  {W1 W2 X:Ids} {bid mid:Nat} {a1 c1 a2 c2 ab cb} {mv1 mv2:Value} (hM:Has3 S H0 mid 0 [.int .i64 p,mv1,mv2]) (hMW:¬(W1 mid∨W2 mid)) (hb:Has3 S H0 bid 0 [.slice ab B.length cb]) (hbW:¬(W1 bid∨W2 bid)) (hBs:K_Prt.Sl X H0 (.slice ab B.length cb) B) (hX:∀id,X id→S id∧¬(W1 id∨W2 id))
  (hW:∀id,W1 id∨W2 id→S id) (hd:∀id,W1 id→W2 id→False) (h1:KI.Ml W1 H0 (.slice a1 x.1.length c1) x.1) (h2:KI.Ml W2 H0 (.slice a2 x.2.length c2) x.2):
  SpecW Tryz.prog S H0 (fun id=>W1 id∨W2 id) 189 [.agg #[.slice a1 x.1.length c1,.slice a2 x.2.length c2],.pointer (some ⟨bid,0,none⟩),.pointer (some ⟨mid,0,none⟩)]
   (fun _ v H1=>v=.agg #[.slice a1 x.1.length c1,.slice a2 x.2.length c2]∧KI.Ml W1 H1 (.slice a1 x.1.length c1) (less p B x).1∧KI.Ml W2 H1 (.slice a2 x.2.length c2) (less p B x).2):=by
 have hp31:2≤p∧p≤31:=⟨hp.1,hp.2.1⟩
 have hp0:0<p:=by omega
 refine SpecW.of0 Tryz.func189 rfl (by kernel_rfl) rfl (fun H hfin hfz=>?_)
 haveI o:On S H0 (Low H.n) H:=⟨fun id hs=>⟨(hfz id hs).1,(hfz id hs).2⟩⟩
 have hM0:Has3 (Low H.n) H mid 0 _:=hM.up
 have hb0:Has3 (Low H.n) H bid 0 _:=hb.up
 have hBs0:K_Prt.Sl X H (.slice ab B.length cb) B:=hBs.same fun id hid=>(hfz id (hX id hid).1).2
 have hXl:∀id,X id→id<H.n:=fun id hid=>(hfz id (hX id hid).1).1
 have h10:KI.Ml W1 H (.slice a1 x.1.length c1) x.1:=Kn.Ml.same (fun id hid=>(hfz id (hW id (.inl hid))).2) h1
 have h20:KI.Ml W2 H (.slice a2 x.2.length c2) x.2:=Kn.Ml.same (fun id hid=>(hfz id (hW id (.inr hid))).2) h2
 have hWl:∀id,W1 id∨W2 id→id<H.n:=fun id hid=>(hfz id (hW id hid)).1
 have hXW:∀id,X id→¬(W1 id∨W2 id):=fun id hid=>(hX id hid).2
 refine KW.ldF 0 hb0 U U U U U U U U U ?_
 refine KW.lpM U U (fun s:LsS=>[(2,.pointer (some ⟨mid,0,none⟩)),(3,.pointer (some ⟨H.n,0,some 0⟩)),(4,.pointer (some ⟨H.n+1,0,some 1⟩)),(9,.slice ab B.length cb),(10,.int .i64 B.length),(11,.int .i64 s.i)]) (fun s=>s.S) (fun s=>s.A) (fun s=>[(H.n,⟨241,true,[.slice a1 x.1.length c1,.slice a2 x.2.length c2]⟩),(H.n+1,⟨241,true,[.slice none 0 0,.slice none 0 0]⟩)]) (fun s=>LsI p B x W1 W2 H (.slice a1 x.1.length c1) (.slice a2 x.2.length c2) s.i s.S s.A) (fun s=>B.length-s.i) (⟨0,Low H.n,H⟩) (⟨Nat.zero_le _,fun id h=>⟨h,fun _=>rfl⟩,h10,h20⟩) ⟨rfl,rfl,rfl,rfl,rfl,rfl,trivial⟩ U U (rfl) (fun s hi bE n=>?_)
 obtain⟨i,S1,A1⟩:=s
 obtain⟨ile,low,r1,r2⟩:=hi
 simp only at ile low r1 r2
 have hM1:Has3 S1 A1 mid 0 [.int .i64 p,mv1,mv2]:=by
  obtain⟨q0,b,q1,q2⟩:=hM0
  exact⟨(low mid q0).1,b,((low mid q0).2 hMW).trans q1,q2⟩
 have hBs1:K_Prt.Sl X A1 (.slice ab B.length cb) B:=hBs0.same fun id hid=>(low id (hXl id hid)).2 (hXW id hid)
 have hXS:∀id,X id→S1 id:=fun id hid=>(low id (hXl id hid)).1
 have hy:PrOk p k q (less p (B.take i) x):=less_ok hp0 _ _ (fun b hb=>(hB b (List.mem_of_mem_take hb)).1) hx
 obtain⟨y,ey⟩:∃y,less p (B.take i) x=y:=⟨_,rfl⟩
 rw[ey] at r1 r2 hy
 have l1:x.1.length=y.1.length:=hx.1.1.trans hy.1.1.symm
 have l2:x.2.length=y.2.length:=hx.2.1.trans hy.2.1.symm
 rw[l1] at r1 ⊢
 rw[l2] at r2 ⊢
 refine KW.cnd U U (fun k1=>?_) (fun k1=>?_)
 ·have k1:(i:Int)<(B.length:Int):=k1
  refine KW.getS (td:=.struct #[]) ((hBs1.inX hXS)) U U U U U U U U U U U U U U U U U (by omega) (k1) (fun b cy hb1 hRb=>?_)
  have hb1:B[i]?=some b:=hb1
  obtain⟨b1,e1,b2,e2,rfl,s1,s2⟩:=form_Prt hRb.2
  obtain⟨bok,bfz⟩:=hB b (List.mem_of_getElem? hb1)
  have et:less p (B.take (i+1)) x=stp p y b:=by
   rw[List.take_add_one,hb1]
   show less p (B.take i++[b]) x=_
   rw[less_snoc,ey]
  have hbl:=bok.1.1
  have hbl2:=bok.2.1
  have hyl:=hy.1.1
  have hyl2:=hy.2.1
  refine KW.callE U U U U U (first (by omega) (s1.more hXS)) (fun _ _=>?_)
  rw[if_pos (by omega)]
  have hyk:=el_ok hp0 hy.1 (fz b.1)
  refine KW.getI ((r1.sl.more (fun id hid=>(low id (hWl id (.inl hid))).1))) U U U U U U U U U U U U U U U U (by omega) (by omega) (fun z hz=>?_)
  have hz:y.1[fz b.1]?=some z:=hz
  have hzD:y.1.getD (fz b.1) 0=z:=by rw[List.getD_eq_getElem?_getD,hz];rfl
  rw[hzD] at hyk
  refine KW.cndB U U (fun k2=>?_) (fun k2=>?_)
  ·have k2:z≠0:=by simpa using k2
   have es:stp p y b=(tk p z y.1 b.1,tk p z y.2 b.2):=by
    unfold stp
    rw[hzD,if_pos k2]
   refine KW.getI ((r1.sl.more (fun id hid=>(low id (hWl id (.inl hid))).1))) U U U U U U U U U U U U U U U U (by omega) (by omega) (fun z2 hz2=>?_)
   have hz2:y.1[fz b.1]?=some z2:=hz2
   obtain rfl:z2=z:=by rw[hz] at hz2;exact(Option.some.inj hz2).symm
   refine KW.ldF 0 hM1 U U U U U U U U U ?_
   refine KW.callW (W:=W1) (fun id hid=>(low id (hWl id (.inl hid))).1) U U U U U (takeOff (W:=W1) (X:=X) hp31 hyk (hyl.trans hbl.symm) bok.1.2 (fun id hid=>⟨hXS id hid,fun hh=>hXW id hid (.inl hh)⟩) s1 (by omega) hy.1.2 (fun id hid=>(low id (hWl id (.inl hid))).1) r1) (fun v A2 S2 m2 t2 w2 hv=>?_)
   have hM2:Has3 S2 A2 mid 0 [.int .i64 p,mv1,mv2]:=by
    obtain⟨q0,b,q1,q2⟩:=hM1
    exact⟨(t2 mid q0).1,b,((t2 mid q0).2 (fun hh=>hMW (.inl hh))).trans q1,q2⟩
   have r22:KI.Ml W2 A2 (.slice a2 y.2.length c2) y.2:=Kn.Ml.same (fun id hid=>(t2 id (low id (hWl id (.inr hid))).1).2 (fun hh=>hd id hh hid)) r2
   have s22:KI.Sl X A2 (.slice b2 b.2.length e2) b.2:=s2.same fun id hid=>(t2 id (hXS id hid)).2 (fun hh=>hXW id hid (.inl hh))
   refine KW.ldF 0 hM2 U U U U U U U U U ?_
   refine KW.callW (W:=W2) (fun id hid=>(t2 id (low id (hWl id (.inr hid))).1).1) U U U U U (takeOff (W:=W2) (X:=X) hp31 hyk (hyl2.trans hbl2.symm) bok.2.2 (fun id hid=>⟨(t2 id (hXS id hid)).1,fun hh=>hXW id hid (.inr hh)⟩) s22 (by omega) hy.2.2 (fun id hid=>(t2 id (low id (hWl id (.inr hid))).1).1) r22) (fun v3 A3 S3 m3 t3 w3 hv3=>?_)
   have hv1:KI.Ml W1 A3 (.slice a1 y.1.length c1) (tk p z2 y.1 b.1):=Kn.Ml.same (fun id hid=>(t3 id (t2 id (low id (hWl id (.inl hid))).1).1).2 (fun hh=>hd id hid hh)) hv
   refine KW.nxt U U (fun H' g=>⟨⟨i+1,S3,A3⟩,⟨by simp only;omega,fun id hid=>⟨(t3 id (t2 id (low id hid).1).1).1,fun hh=>((t3 id (t2 id (low id hid).1).1).2 (fun h=>hh (.inr h))).trans (((t2 id (low id hid).1).2 (fun h=>hh (.inl h))).trans ((low id hid).2 hh))⟩,by simp only[et,es];exact hv1,by simp only[et,es];exact hv3⟩,by first | omega | (simp only;omega),⟨rfl,rfl,rfl,rfl,rfl,congrArg (Value.int .i64) (inc64 (by omega)),trivial⟩,g.take 2⟩)
  ·have k2:z=0:=by simpa using k2
   have es:stp p y b=y:=by
    unfold stp
    rw[hzD,if_neg (by rw[k2];simp)]
   refine KW.nxt U U (fun H' g=>⟨⟨i+1,S1,A1⟩,⟨by simp only;omega,low,by simp only[et,es];exact r1,by simp only[et,es];exact r2⟩,by first | omega | (simp only;omega),⟨rfl,rfl,rfl,rfl,rfl,congrArg (Value.int .i64) (inc64 (by omega)),trivial⟩,g.take 2⟩)
 ·have k1:¬(i:Int)<(B.length:Int):=k1
  obtain rfl:i=B.length:=by omega
  rw[List.take_length] at ey
  rw[ey]
  refine KW.retW U U U U (fun H1 g=>by have:=(g.vars 1 _ rfl).2.1;have:=g.n_;omega) (fun id hid hw=>⟨(low id hid).1,(low id hid).2 hw⟩) (fun H1 g=>⟨rfl,?_,?_⟩)
  ·exact Kn.Ml.same (fun id hid=>(g.froz id (low id (hWl id (.inl hid))).1).2) r1
  ·exact Kn.Ml.same (fun id hid=>(g.froz id (low id (hWl id (.inr hid))).1).2) r2
end
end Go.Proofs.YtlapbbffoapleaaGreat.Am
namespace Go.Proofs.YtlapbbffoapleaaGreat.Am
open Go Go.RowKit Go.Proofs
inductive Gt where
 | mk (h l:Int) (ks:List Gt)
def Gt.h:Gt→Int | .mk h _ _=>h
def Gt.l:Gt→Int | .mk _ l _=>l
def Gt.ks:Gt→List Gt | .mk _ _ ks=>ks
def SlR {α:Type} (es:Nat) (R:Ids→AH→α→List Value→Prop) (S:Ids) (H:AH) (s:Value) (xs:List α):Prop:=
 (xs=[]∧∃a c,s=.slice a 0 c∧(a=none→c=0))∨∃id k c b,s=.slice (some ⟨id,k,some es⟩) xs.length c∧xs.length≤c∧S id∧H.m id=some b∧k+xs.length*es≤b.cells.length∧
  ∀(i:Nat) x,xs[i]?=some x→R S H x ((b.cells.drop (k+i*es)).take es)
def RG:Nat→Ids→AH→Gt→List Value→Prop
 | 0,_,_,g,cs=>g.ks=[]∧∃a c,cs=[.int .i64 g.h,.int .i64 g.l,.slice a 0 c]∧(a=none→c=0)
 | d+1,S,H,g,cs=>∃s,cs=[.int .i64 g.h,.int .i64 g.l,s]∧SlR 3 (RG d) S H s g.ks
theorem RG.len:∀(d:Nat) {S:Ids} {H:AH} {g:Gt} {cs:List Value},RG d S H g cs→cs.length=3
 | 0,_,_,_,_,⟨_,_,_,h,_⟩=>by rw[h];rfl
 | d+1,_,_,_,_,⟨_,h,_⟩=>by rw[h];rfl
theorem RG.same:∀(d:Nat) {S:Ids} {H H':AH} {g:Gt} {cs:List Value},(∀id,S id→H'.m id=H.m id)→RG d S H g cs→RG d S H' g cs
 | 0,_,_,_,_,_,_,h=>h
 | d+1,_,_,_,_,_,hs,⟨s,h,h2⟩=>⟨s,h,by
  rcases h2 with h2 | ⟨id,k,c,b,e1,e2,e3,e4,e5,e6⟩
  ·exact .inl h2
  ·exact .inr ⟨id,k,c,b,e1,e2,e3,by rw[hs id e3];exact e4,e5,fun i x hx=>RG.same d hs (e6 i x hx)⟩⟩
theorem RG.more:∀(d:Nat) {S S':Ids} {H:AH} {g:Gt} {cs:List Value},(∀id,S id→S' id)→RG d S H g cs→RG d S' H g cs
 | 0,_,_,_,_,_,_,h=>h
 | d+1,_,_,_,_,_,hS,⟨s,h,h2⟩=>⟨s,h,by
  rcases h2 with h2 | ⟨id,k,c,b,e1,e2,e3,e4,e5,e6⟩
  ·exact .inl h2
  ·exact .inr ⟨id,k,c,b,e1,e2,hS id e3,e4,e5,fun i x hx=>RG.more d hS (e6 i x hx)⟩⟩
def KG (d:Nat):Kn Gt where
 es:=3
 R:=RG d
 len:=RG.len d
 same:=RG.same d
 more:=RG.more d
theorem RG.form {d:Nat} {S:Ids} {H:AH} {g:Gt} {cs:List Value} (h:RG d S H g cs):∃a c,cs=[.int .i64 g.h,.int .i64 g.l,.slice a g.ks.length c]∧(g.ks=[]∨∃d',d=d'+1∧(KG d').Sl S H (.slice a g.ks.length c) g.ks):=by
 cases d with
 | zero=>
  obtain⟨h0,a,c,h1,_⟩:=h
  exact⟨a,c,by rw[h1,h0];rfl,.inl h0⟩
 | succ d=>
  obtain⟨s,h1,h2⟩:=h
  have h2:(KG d).Sl S H s g.ks:=h2
  obtain⟨a,c,rfl⟩:=h2.form
  exact⟨a,c,h1,.inr ⟨d,rfl,h2⟩⟩
def GF (n:Int):Nat→Gt→Prop
 | 0,g=>g.ks=[]∧g.l=0∧0≤g.h∧g.h<n
 | d+1,g=>(g.ks=[]∧g.l=0∧0≤g.h∧g.h<n)∨(g.ks≠[]∧g.h=-1∧1≤g.l∧g.l≤g.ks.length∧g.ks.length≤4∧∀k∈g.ks,GF n d k)
theorem GF.kids {n:Int} {d:Nat} {g:Gt} (h:GF n d g):g.ks.length≤4:=by
 cases d with
 | zero=>rw[h.1];exact Nat.zero_le _
 | succ d=>
  rcases h with h | h
  ·rw[h.1];exact Nat.zero_le _
  ·exact h.2.2.2.2.1
theorem GF.least {n:Int} {d:Nat} {g:Gt} (h:GF n d g):0≤g.l∧g.l≤4:=by
 cases d with
 | zero=>rw[h.2.1];decide
 | succ d=>
  rcases h with h | h
  ·rw[h.2.1];decide
  ·have:=h.2.2.2.2.1;have:=h.2.2.2.1;have:=h.2.2.1;omega
theorem GF.kid {n:Int} {d:Nat} {g k:Gt} (h:GF n (d+1) g) (hk:k∈g.ks):GF n d k:=by
 rcases h with h | h
 ·rw[h.1] at hk;cases hk
 ·exact h.2.2.2.2.2 k hk
def NW (p:Int):Nat→Gt→Prop
 | 0,g=>(g.ks.length:Int)<p
 | d+1,g=>(g.ks.length:Int)<p∧∀k∈g.ks,NW p d k
section
variable {S:Ids} {H0:AH}
theorem l02Left {n:Int}:∀(d:Nat) {S:Ids} {H0:AH} {g:Gt} {cs:List Value} {id k:Nat} {left:Int},GF n d g→RG d S H0 g cs→Has3 S H0 id k cs→(0≤left∧left≤100)→
  Spec Tryz.prog S H0 253 [.pointer (some ⟨id,k,none⟩),.int .i64 left] (fun v=>∃r:Int,v=.int .i64 r∧-1≤r∧r≤left-1):=by
 intro d
 induction d with
 | zero=>
  intro S H0 g cs id k left hg hR hv hl
  obtain⟨a,c,rfl,hk⟩:=hR.form
  have hk0:=hg.1
  refine Spec.of1 Tryz.func253 rfl (by kernel_rfl) rfl (fun H _=>?_)
  have hv:=hv.up (S':=Low H.n) (H':=H)
  have ew:IntKind.i64.wrap (left-1)=left-1:=wr (by omega) (by omega)
  refine KW.lp U U (fun _:Unit=>[(0,.pointer (some ⟨id,k,none⟩)),(1,.int .i64 (left-1)),(5,.int .i64 0)]) (fun _=>True) (fun _=>0) (()) (trivial) ⟨rfl,congrArg (Value.int .i64) ew,rfl,trivial⟩ (fun _ hi bE n=>?_)
  refine KW.ldF 2 hv U U U U U U U U U ?_
  refine KW.tno U U (by rw[hk0];simp) ?_
  refine KW.cF U U (by first | (simp;done) | decide) ?_
  exact KW.ret U U U U (⟨_,rfl,by omega,Int.le_refl _⟩)
 | succ d ih=>
  intro S H0 g cs id k left hg hR hv hl
  obtain⟨a,c,rfl,hk⟩:=hR.form
  have h4:=hg.kids
  refine Spec.of1 Tryz.func253 rfl (by kernel_rfl) rfl (fun H _=>?_)
  have hv:=hv.up (S':=Low H.n) (H':=H)
  have ew:IntKind.i64.wrap (left-1)=left-1:=wr (by omega) (by omega)
  refine KW.lp U U (fun s:Nat × Int=>[(0,.pointer (some ⟨id,k,none⟩)),(1,.int .i64 s.2),(5,.int .i64 s.1)]) (fun s=>s.1≤g.ks.length∧-1≤s.2∧s.2≤left-1) (fun s=>g.ks.length-s.1) ((0,left-1)) (⟨Nat.zero_le _,by simp only;omega,Int.le_refl _⟩) ⟨rfl,congrArg (Value.int .i64) ew,rfl,trivial⟩ (fun s hi bE n=>?_)
  obtain⟨i,lf⟩:=s
  obtain⟨i1,i2,i3⟩:=hi
  simp only at i1 i2 i3
  refine KW.ldF 2 hv U U U U U U U U U ?_
  refine KW.tst U U (fun k1=>?_) (fun k1=>?_)
  ·have k1:(i:Int)<(g.ks.length:Int):=k1
   refine KW.cnd U U (fun k2=>?_) (fun k2=>?_)
   ·have k2:lf≥0:=k2
    rcases hk with hk | ⟨d',e,hk⟩
    ·rw[hk] at k1;simp at k1;omega
    obtain rfl:d'=d:=by omega
    refine KW.ldF 2 hv U U U U U U U U U ?_
    refine KW.adS hk.up U U U U U U U U U (by omega) (k1) (fun y cy id2 q hy hRy hat=>?_)
    have hy:g.ks[i]?=some y:=hy
    have hgy:=hg.kid (List.mem_of_getElem? hy)
    refine KW.call U U U U U (ih hgy hRy hat ⟨k2,by omega⟩) (fun v _ _ hv=>?_)
    obtain⟨r,rfl,r1,r2⟩:=hv
    refine KW.nxt U U (fun H' g=>⟨(i+1,r),⟨by simp only;omega,r1,by simp only;omega⟩,by first | omega | (simp only;omega),⟨rfl,rfl,congrArg (Value.int .i64) (inc64 (by omega)),trivial⟩,g⟩)
   ·exact KW.ret U U U U (⟨_,rfl,i2,i3⟩)
  ·refine KW.cF U U (by first | (simp;done) | decide) ?_
   exact KW.ret U U U U (⟨_,rfl,i2,i3⟩)
theorem l00Max (a b:Int):Spec Tryz.prog S H0 275 [.int .i64 a,.int .i64 b] (fun v=>v=.int .i64 (if a>b then a else b)):=by
 refine Spec.of1 Tryz.func275 rfl (by kernel_rfl) rfl (fun H _=>?_)
 refine KW.cnd U U (fun h=>?_) (fun h=>?_)
 ·exact KW.ret U U U U (by rw[if_pos h];rfl)
 ·exact KW.ret U U U U (by rw[if_neg h];rfl)
theorem l02Depth {n:Int}:∀(d:Nat) {S:Ids} {H0:AH} {g:Gt} {cs:List Value} {id k:Nat},d≤100→GF n d g→RG d S H0 g cs→Has3 S H0 id k cs→
  Spec Tryz.prog S H0 254 [.pointer (some ⟨id,k,none⟩)] (fun v=>∃r:Int,v=.int .i64 r∧1≤r∧r≤d+1):=by
 intro d
 induction d with
 | zero=>
  intro S H0 g cs id k hd hg hR hv
  obtain⟨a,c,rfl,hk⟩:=hR.form
  have hk0:=hg.1
  refine Spec.of1 Tryz.func254 rfl (by kernel_rfl) rfl (fun H _=>?_)
  have hv:=hv.up (S':=Low H.n) (H':=H)
  refine KW.lp U U (fun _:Unit=>[(0,.pointer (some ⟨id,k,none⟩)),(3,.int .i64 0),(4,.int .i64 0)]) (fun _=>True) (fun _=>0) (()) (trivial) ⟨rfl,rfl,rfl,trivial⟩ (fun _ hi bE n=>?_)
  refine KW.ldF 2 hv U U U U U U U U U ?_
  refine KW.no U U (by rw[hk0];simp) ?_
  exact KW.ret U U U U (⟨1,rfl,by omega,by omega⟩)
 | succ d ih=>
  intro S H0 g cs id k hd hg hR hv
  obtain⟨a,c,rfl,hk⟩:=hR.form
  have h4:=hg.kids
  refine Spec.of1 Tryz.func254 rfl (by kernel_rfl) rfl (fun H _=>?_)
  have hv:=hv.up (S':=Low H.n) (H':=H)
  refine KW.lp U U (fun s:Nat × Int=>[(0,.pointer (some ⟨id,k,none⟩)),(3,.int .i64 s.2),(4,.int .i64 s.1)]) (fun s=>s.1≤g.ks.length∧0≤s.2∧s.2≤d+1) (fun s=>g.ks.length-s.1) ((0,0)) (⟨Nat.zero_le _,Int.le_refl _,by simp only;omega⟩) ⟨rfl,rfl,rfl,trivial⟩ (fun s hi bE n=>?_)
  obtain⟨i,m⟩:=s
  obtain⟨i1,i2,i3⟩:=hi
  simp only at i1 i2 i3
  refine KW.ldF 2 hv U U U U U U U U U ?_
  refine KW.cnd U U (fun k1=>?_) (fun k1=>?_)
  ·have k1:(i:Int)<(g.ks.length:Int):=k1
   rcases hk with hk | ⟨d',e,hk⟩
   ·rw[hk] at k1;simp at k1;omega
   obtain rfl:d'=d:=by omega
   refine KW.ldF 2 hv U U U U U U U U U ?_
   refine KW.adS hk.up U U U U U U U U U (by omega) (k1) (fun y cy id2 q hy hRy hat=>?_)
   have hy:g.ks[i]?=some y:=hy
   have hgy:=hg.kid (List.mem_of_getElem? hy)
   refine KW.call U U U U U (ih (by omega) hgy hRy hat) (fun v _ _ hv=>?_)
   obtain⟨r,rfl,r1,r2⟩:=hv
   refine KW.callE U U U U U (l00Max m r) (fun _ _=>?_)
   refine KW.nxt U U (fun H' g=>⟨(i+1,if m>r then m else r),⟨by simp only;omega,by simp only;split<;>omega,by simp only;split<;>omega⟩,by first | omega | (simp only;omega),⟨rfl,rfl,congrArg (Value.int .i64) (inc64 (by omega)),trivial⟩,g⟩)
  ·have ew:IntKind.i64.wrap (m+1)=m+1:=wr (by omega) (by omega)
   exact KW.ret U U U U (⟨m+1,congrArg (Value.int .i64) ew,by omega,by omega⟩)
end
section
variable {S:Ids} {H0:AH}
theorem l02FormLeaf {n h:Int} (hn:0≤n∧n≤1000) {id k:Nat} {a:Option Addr} {c:Nat} (hv:Has3 S H0 id k [.int .i64 h,.int .i64 0,.slice a 0 c]):
  Spec Tryz.prog S H0 255 [.int .i64 n,.pointer (some ⟨id,k,none⟩)] (fun v=>∃b:Bool,v=.bool b):=by
 refine Spec.of1 Tryz.func255 rfl (by kernel_rfl) rfl (fun H _=>?_)
 have hv:=hv.up (S':=Low H.n) (H':=H)
 refine KW.ldF 2 hv U U U U U U U U U ?_
 refine KW.yes U U (by simp) ?_
 refine KW.ldF 1 hv U U U U U U U U U ?_
 refine KW.tT U U (by simp) ?_
 refine KW.ldF 0 hv U U U U U U U U U ?_
 refine KW.callE U U U U U (l00In _ _ _) (fun _ _=>?_)
 exact KW.ret U U U U (⟨_,rfl⟩)
theorem l02Form {n:Int} (hn:0≤n∧n≤1000):∀(d:Nat) {S:Ids} {H0:AH} {g:Gt} {cs:List Value} {id k:Nat},GF n d g→RG d S H0 g cs→Has3 S H0 id k cs→
  Spec Tryz.prog S H0 255 [.int .i64 n,.pointer (some ⟨id,k,none⟩)] (fun v=>∃b:Bool,v=.bool b):=by
 intro d
 induction d with
 | zero=>
  intro S H0 g cs id k hg hR hv
  obtain⟨a,c,rfl,hk⟩:=hR.form
  rw[hg.1,hg.2.1] at hv
  exact l02FormLeaf hn hv
 | succ d ih=>
  intro S H0 g cs id k hg hR hv
  obtain⟨a,c,rfl,hk⟩:=hR.form
  rcases hg with hg0 | hg1
  ·rw[hg0.1,hg0.2.1] at hv
   exact l02FormLeaf hn hv
  obtain⟨g1,g2,g3,g4,g5,g6⟩:=hg1
  have hpos:0<g.ks.length:=List.length_pos_iff.2 g1
  rcases hk with hk | ⟨d',e,hk⟩
  ·exact absurd hk g1
  obtain rfl:d'=d:=by omega
  refine Spec.of1 Tryz.func255 rfl (by kernel_rfl) rfl (fun H _=>?_)
  have hv:=hv.up (S':=Low H.n) (H':=H)
  refine KW.ldF 2 hv U U U U U U U U U ?_
  refine KW.no U U (by omega) ?_
  refine KW.lp U U (fun i:Nat=>[(0,.int .i64 n),(1,.pointer (some ⟨id,k,none⟩)),(5,.int .i64 i)]) (fun i=>i≤g.ks.length) (fun i=>g.ks.length-i) (0) (Nat.zero_le _) ⟨rfl,rfl,rfl,trivial⟩ (fun i hi bE n=>?_)
  refine KW.ldF 2 hv U U U U U U U U U ?_
  refine KW.cnd U U (fun k1=>?_) (fun k1=>?_)
  ·have k1:(i:Int)<(g.ks.length:Int):=k1
   refine KW.ldF 2 hv U U U U U U U U U ?_
   refine KW.adS hk.up U U U U U U U U U (by omega) (k1) (fun y cy id2 q hy hRy hat=>?_)
   have hy:g.ks[i]?=some y:=hy
   refine KW.call U U U U U (ih (g6 y (List.mem_of_getElem? hy)) hRy hat) (fun v _ _ hv=>?_)
   obtain⟨b,rfl⟩:=hv
   refine KW.cndB U U (fun k2=>?_) (fun k2=>?_)
   ·exact KW.ret U U U U (⟨_,rfl⟩)
   ·refine KW.nxt U U (fun H' g=>⟨i+1,by omega,by first | omega | (simp only;omega),⟨rfl,rfl,congrArg (Value.int .i64) (inc64 (by omega)),trivial⟩,g⟩)
  ·refine KW.ldF 0 hv U U U U U U U U U ?_
   refine KW.tT U U (by rw[g2];rfl) ?_
   refine KW.ldF 1 hv U U U U U U U U U ?_
   refine KW.ldF 2 hv U U U U U U U U U ?_
   refine KW.callE U U U U U (l00In _ _ _) (fun _ _=>?_)
   exact KW.ret U U U U (⟨_,rfl⟩)
theorem l02Ok {n:Int} (hn:1≤n∧n≤7) {d:Nat} (hd:d≤50) {g:Gt} {cs:List Value} {id k:Nat} (hg:GF n d g) (hR:RG d S H0 g cs) (hv:Has3 S H0 id k cs):
  Spec Tryz.prog S H0 223 [.int .i64 n,.pointer (some ⟨id,k,none⟩)] (fun v=>∃b:Bool,v=.bool b):=by
 refine Spec.of1 Tryz.func223 rfl (by kernel_rfl) rfl (fun H _=>?_)
 refine KW.callE U U U U U (l00In _ _ _) (fun _ _=>?_)
 refine KW.tT U U (by simp;omega) ?_
 refine KW.call U U U U U (l02Left d hg (RG.more d (fun i h=>h) (On.R (d:=KG d) hR)) hv.up ⟨by decide,by decide⟩) (fun v _ _ hv=>?_)
 obtain⟨r,rfl,r1,r2⟩:=hv
 refine KW.tst U U (fun k1=>?_) (fun k1=>?_)
 ·refine KW.call U U U U U (l02Depth d (by omega) hg (On.R (d:=KG d) hR) hv.up) (fun v _ _ hv=>?_)
  obtain⟨m,rfl,m1,m2⟩:=hv
  refine KW.tst U U (fun k2=>?_) (fun k2=>?_)
  ·refine KW.call U U U U U (l02Form ⟨by omega,by omega⟩ d hg (On.R (d:=KG d) hR) hv.up) (fun v _ _ hv=>?_)
   obtain⟨b,rfl⟩:=hv
   exact KW.ret U U U U (⟨_,rfl⟩)
  ·exact KW.ret U U U U (⟨_,rfl⟩)
 ·refine KW.tF U U (by first | (simp;done) | decide) ?_
  exact KW.ret U U U U (⟨_,rfl⟩)
theorem l04Wide {n p:Int}:∀(d:Nat) {S:Ids} {H0:AH} {g:Gt} {cs:List Value} {id k:Nat},GF n d g→RG d S H0 g cs→Has3 S H0 id k cs→
  Spec Tryz.prog S H0 169 [.pointer (some ⟨id,k,none⟩),.int .i64 p] (fun v=>∃b:Bool,v=.bool b∧(b=false→NW p d g)):=by
 intro d
 induction d with
 | zero=>
  intro S H0 g cs id k hg hR hv
  obtain⟨a,c,rfl,hk⟩:=hR.form
  have hk0:=hg.1
  refine Spec.of1 Tryz.func169 rfl (by kernel_rfl) rfl (fun H _=>?_)
  have hv:=hv.up (S':=Low H.n) (H':=H)
  refine KW.ldF 2 hv U U U U U U U U U ?_
  refine KW.cnd U U (fun k1=>?_) (fun k1=>?_)
  ·exact KW.ret U U U U (⟨true,rfl,fun h=>by cases h⟩)
  have k1:¬(g.ks.length:Int)≥p:=k1
  refine KW.lp U U (fun _:Unit=>[(0,.pointer (some ⟨id,k,none⟩)),(1,.int .i64 p),(5,.int .i64 0)]) (fun _=>True) (fun _=>0) (()) (trivial) ⟨rfl,rfl,rfl,trivial⟩ (fun _ hi bE n=>?_)
  refine KW.ldF 2 hv U U U U U U U U U ?_
  refine KW.no U U (by rw[hk0];simp) ?_
  exact KW.ret U U U U (⟨false,rfl,fun _=>by show(g.ks.length:Int)<p;omega⟩)
 | succ d ih=>
  intro S H0 g cs id k hg hR hv
  obtain⟨a,c,rfl,hk⟩:=hR.form
  have h4:=hg.kids
  refine Spec.of1 Tryz.func169 rfl (by kernel_rfl) rfl (fun H _=>?_)
  have hv:=hv.up (S':=Low H.n) (H':=H)
  refine KW.ldF 2 hv U U U U U U U U U ?_
  refine KW.cnd U U (fun k1=>?_) (fun k1=>?_)
  ·exact KW.ret U U U U (⟨true,rfl,fun h=>by cases h⟩)
  have k1:¬(g.ks.length:Int)≥p:=k1
  refine KW.lp U U (fun i:Nat=>[(0,.pointer (some ⟨id,k,none⟩)),(1,.int .i64 p),(5,.int .i64 i)]) (fun i=>i≤g.ks.length∧∀j,j<i→∀y,g.ks[j]?=some y→NW p d y) (fun i=>g.ks.length-i) (0) (⟨Nat.zero_le _,fun j hj=>absurd hj (Nat.not_lt_zero _)⟩) ⟨rfl,rfl,rfl,trivial⟩ (fun i hi bE n=>?_)
  obtain⟨i1,i2⟩:=hi
  refine KW.ldF 2 hv U U U U U U U U U ?_
  refine KW.cnd U U (fun k2=>?_) (fun k2=>?_)
  ·have k2:(i:Int)<(g.ks.length:Int):=k2
   rcases hk with hk | ⟨d',e,hk⟩
   ·rw[hk] at k2;simp at k2;omega
   obtain rfl:d'=d:=by omega
   refine KW.ldF 2 hv U U U U U U U U U ?_
   refine KW.adS hk.up U U U U U U U U U (by omega) (k2) (fun y cy id2 q hy hRy hat=>?_)
   have hy:g.ks[i]?=some y:=hy
   refine KW.call U U U U U (ih (hg.kid (List.mem_of_getElem? hy)) hRy hat) (fun v _ _ hv=>?_)
   obtain⟨b,rfl,hb⟩:=hv
   refine KW.cndB U U (fun k3=>?_) (fun k3=>?_)
   ·exact KW.ret U U U U (⟨true,rfl,fun h=>by cases h⟩)
   ·refine KW.nxt U U (fun H' g=>⟨i+1,⟨by omega,upto i2 (fun z hz=>by rw[hy] at hz;cases hz;exact hb k3)⟩,by first | omega | (simp only;omega),⟨rfl,rfl,congrArg (Value.int .i64) (inc64 (by omega)),trivial⟩,g⟩)
  ·have k2:¬(i:Int)<(g.ks.length:Int):=k2
   have hw:NW p (d+1) g:=⟨by omega,fun y hy=>by
    obtain⟨j,hj⟩:=List.getElem?_of_mem hy
    exact i2 j (by have:=(List.getElem?_eq_some_iff.1 hj).1;omega) y hj⟩
   exact KW.ret U U U U (⟨false,rfl,fun _=>hw⟩)
end
theorem Kn.Sl.stX {α:Type} {d:Kn α} {S S':Ids} {H H':AH} {s:Value} {xs:List α} (h:d.Sl S H s xs) (t:∀id,S id→S' id∧H'.m id=H.m id):d.Sl S' H' s xs:=(h.same fun id hid=>(t id hid).2).more fun id hid=>(t id hid).1
abbrev KB:Kn Int:=Kn.int .u8
def Src (ac:Option Addr) (n cc:Nat) (A:AH) (id at_:Nat):Prop:=∃sd:Int,A.m id=some ⟨187,true,[.slice ac n cc,.int .i64 at_,.int .u64 sd]⟩
theorem srcOf {ac:Option Addr} {n cc:Nat} {A:AH} {id at_:Nat} {w sd:Int} (h:A.m id=some ⟨187,true,[.slice ac n cc,.int .i64 w,.int .u64 sd]⟩) (e:w=(at_:Nat)):Src ac n cc A id at_:=⟨sd,by rw[h,e]⟩
theorem and255 (x:Int):(BitVec.ofInt IntKind.u64.bits x &&& BitVec.ofInt IntKind.u64.bits 255).toNat≤255:=by
 rw[BitVec.toNat_and]
 exact Nat.le_trans Nat.and_le_right (by decide)
theorem last255 (x:Int):∃z:Nat,z<256∧Value.int .i64 (IntKind.i64.wrap (IntKind.u64.wrap ((BitVec.ofInt IntKind.u64.bits x &&& BitVec.ofInt IntKind.u64.bits 255).toNat:Int)))=.int .i64 z:=by
 have h:=and255 x
 exact⟨_,Nat.lt_succ_of_le h,congrArg (Value.int .i64) (by rw[wru (by omega) (by omega),wr (by omega) (by omega)])⟩
section
variable {S:Ids} {H0:AH}
theorem srcNext {bs:List Int} (hb:∀x∈bs,0≤x∧x<256) (hl:bs.length≤1048576) {ac:Option Addr} {cc id at_:Nat} {Y:Ids} (hat:at_≤1000000) (hS:S id) (hY:∀i,Y i→S i∧i≠id) (hsrc:Src ac bs.length cc H0 id at_) (hs:KB.Sl Y H0 (.slice ac bs.length cc) bs):
  SpecW Tryz.prog S H0 (fun i=>i=id) 149 [.pointer (some ⟨id,0,none⟩)] (fun n v H1=>∃z:Nat,z<256∧v=.int .i64 z∧Src ac bs.length cc H1 id (at_+1)):=by
 obtain⟨sd,hm⟩:=hsrc
 refine SpecW.of Tryz.func149 rfl (by kernel_rfl) rfl hS hm (fun H hfin hfz=>?_)
 have hs:=hs.stX (S':=fun i=>Low H.n i∧i≠id) (H':=H) (fun i hi=>⟨⟨(hfz i (hY i hi).1).1,(hY i hi).2⟩,(hfz i (hY i hi).1).2⟩)
 refine KW.ldT 0 U U U U U U U ?_
 refine KW.ldT 0 U U U U U U U ?_
 refine KW.cnd U U (fun k1=>?gin) (fun k1=>?gout)
 case' gin=>
  have k1:(at_:Int)<(bs.length:Int):=k1
  refine KW.ldT 0 U U U U U U U ?_
  refine KW.ldT 0 U U U U U U U ?_
  refine KW.getI hs U U U U U U U U U U U U U U U U (by omega) (k1) (fun y hy=>?_)
  have hyb:=hb y (List.mem_of_getElem? hy)
 case' gout=>
  have k1:¬(at_:Int)<(bs.length:Int):=k1
 all_goals
  have ei:IntKind.i64.wrap ((at_:Int)+1)=((at_+1:Nat):Int):=inc64 (by omega)
  refine KW.ldT 0 U U U U U U U ?_
  refine KW.st1 0 U U U U U U U U U U U U (by simp) ?_
  refine KW.ldT 0 U U U U U U U ?_
  refine KW.st1 0 U U U U U U U U U U U U (by simp) ?_
  refine KW.ldT 0 U U U U U U U ?_
  refine KW.ldT 0 U U U U U U U ?_
 case gin=>
  refine KW.yes U U (by rw[ei];omega) ?_
  have e0:IntKind.i64.wrap y=y:=wr (by omega) (by omega)
  refine KW.retW U U U U (fun H1 g=>by have:=g.n_;omega) (fun i hi hw=>⟨⟨hi,hw⟩,rfl⟩) (fun H1 g=>⟨y.toNat,by omega,?_,?_⟩)
  ·show Value.int .i64 (IntKind.i64.wrap y)=_
   rw[e0,Int.toNat_of_nonneg hyb.1]
  ·have h:=(g.blk (j:=0) rfl).1
   exact srcOf h ei
 case gout=>
  refine KW.no U U (by rw[ei];omega) ?_
  refine KW.ldT 0 U U U U U U U ?_
  refine KW.retW U U U U (fun H1 g=>by have:=g.n_;omega) (fun i hi hw=>⟨⟨hi,hw⟩,rfl⟩) (fun H1 g=>?_)
  have h:=(g.blk (j:=0) rfl).1
  have hsrc:Src ac bs.length cc H1 id (at_+1):=by
   exact srcOf h ei
  exact Exists.imp (fun z hz=>⟨hz.1,hz.2,hsrc⟩) (last255 _)
def SrcP (ac:Option Addr) (n cc id at_:Nat) (p:Nat→Prop) (v:Value) (H1:AH):Prop:=∃z at':Nat,p z∧at_≤at'∧at'≤at_+2∧v=.int .i64 z∧Src ac n cc H1 id at'
theorem srcPick {bs:List Int} (hb:∀x∈bs,0≤x∧x<256) (hl:bs.length≤1048576) {ac:Option Addr} {cc id at_:Nat} {Y:Ids} {n:Int} (hn:n≤1000000) (hat:at_≤900000) (hS:S id) (hY:∀i,Y i→S i∧i≠id) (hsrc:Src ac bs.length cc H0 id at_) (hs:KB.Sl Y H0 (.slice ac bs.length cc) bs):
  SpecW Tryz.prog S H0 (fun i=>i=id) 70 [.pointer (some ⟨id,0,none⟩),.int .i64 n] (fun _ v H1=>SrcP ac bs.length cc id at_ (fun z=>1≤n→(z:Int)<n) v H1):=by
 refine SpecW.of0 Tryz.func70 rfl (by kernel_rfl) rfl (fun H hfin hfz=>?_)
 have fx:∀i,S i→Low H.n i∧H.m i=H0.m i:=fun i hi=>hfz i hi
 have hid:id<H.n:=(fx id hS).1
 have hsrcH:Src ac bs.length cc H id at_:=by obtain⟨sd,h⟩:=hsrc;exact⟨sd,(fx id hS).2.trans h⟩
 have hsH:=hs.stX (S':=fun i=>Low H.n i∧i≠id) (H':=H) (fun i hi=>⟨⟨(fx i (hY i hi).1).1,(hY i hi).2⟩,(fx i (hY i hi).1).2⟩)
 refine KW.cnd U U (fun k1=>?_) (fun k1=>?_)
 ·have k1:n≤1:=k1
  refine KW.retW U U U U (fun H1 g=>by have:=g.n_;omega) (fun i hi hw=>⟨hi,rfl⟩) (fun H1 g=>⟨0,at_,fun h=>by omega,Nat.le_refl _,by omega,rfl,?_⟩)
  obtain⟨sd,h⟩:=hsrcH
  exact⟨sd,(g.froz id hid).2.trans h⟩
 ·have k1:¬n≤1:=k1
  obtain⟨m,rfl⟩:∃m:Nat,n=m:=⟨n.toNat,by omega⟩
  refine KW.callW (W:=fun i=>i=id) (fun i hi=>by subst hi;exact hid) U U U U U (srcNext (S:=Low H.n) (H0:=H) hb hl (by omega) hid (fun i hi=>hi) hsrcH hsH) (fun v H1 S1 hn1 st1 hw1 hp=>?_)
  obtain⟨z1,hz1,rfl,hsrc1⟩:=hp
  refine KW.cnd U U (fun k2=>?_) (fun k2=>?_)
  ·have t1:∀i,Low H.n i∧i≠id→(S1 i∧i≠id)∧H1.m i=H.m i:=fun i hi=>⟨⟨(st1 i hi.1).1,hi.2⟩,(st1 i hi.1).2 hi.2⟩
   refine KW.callW (W:=fun i=>i=id) (fun i hi=>by subst hi;exact(st1 i hid).1) U U U U U (srcNext (S:=S1) (H0:=H1) hb hl (by omega) (st1 id hid).1 (fun i hi=>hi) hsrc1 (hsH.stX t1)) (fun v H2 S2 hn2 st2 hw2 hp=>?_)
   obtain⟨z2,hz2,rfl,hsrc2⟩:=hp
   have e1:IntKind.i64.wrap (IntKind.i64.wrap ((z1:Int)*256)+(z2:Int))=((z1*256+z2:Nat):Int):=by rw[wr (x:=(z1:Int)*256) (by omega) (by omega),wr (by omega) (by omega)];omega
   refine KW.rem U U U U U U (by rw[e1];omega) (by omega) ?_
   refine KW.retW U U U U (fun H3 g=>by have:=g.n_;omega) (fun i hi hw=>⟨(st2 i (st1 i hi).1).1,((st2 i (st1 i hi).1).2 hw).trans ((st1 i hi).2 hw)⟩) (fun H3 g=>⟨((z1*256+z2:Nat)%m),at_+2,fun h=>?_,by omega,by omega,?_,?_⟩)
   ·have:=Nat.mod_lt (z1*256+z2) (show 0<m by omega)
    omega
   ·show Value.int .i64 (IntKind.i64.wrap (IntKind.i64.wrap ((z1:Int)*256)+(z2:Int))%(m:Int))=_
    rw[e1]
    rfl
   ·obtain⟨sd,h⟩:=hsrc2
    exact⟨sd,(g.froz id (st2 id (st1 id hid).1).1).2.trans h⟩
  ·refine KW.rem U U U U U U (by omega) (by omega) ?_
   refine KW.retW U U U U (fun H3 g=>by have:=g.n_;omega) (fun i hi hw=>⟨(st1 i hi).1,(st1 i hi).2 hw⟩) (fun H3 g=>⟨z1%m,at_+1,fun h=>?_,by omega,by omega,?_,?_⟩)
   ·have:=Nat.mod_lt z1 (show 0<m by omega)
    omega
   ·rfl
   ·obtain⟨sd,h⟩:=hsrc1
    exact⟨sd,(g.froz id (st1 id hid).1).2.trans h⟩
theorem srcOne {bs:List Int} (hb:∀x∈bs,0≤x∧x<256) (hl:bs.length≤1048576) {ac:Option Addr} {cc id at_:Nat} {Y:Ids} {n:Int} (hn:n≤1000000) (hat:at_≤900000) (hS:S id) (hY:∀i,Y i→S i∧i≠id) (hsrc:Src ac bs.length cc H0 id at_) (hs:KB.Sl Y H0 (.slice ac bs.length cc) bs):
  SpecW Tryz.prog S H0 (fun i=>i=id) 54 [.pointer (some ⟨id,0,none⟩),.int .i64 n] (fun _ v H1=>∃(b:Bool) (at':Nat),at_≤at'∧at'≤at_+2∧v=.bool b∧Src ac bs.length cc H1 id at'):=by
 refine SpecW.of0 Tryz.func54 rfl (by kernel_rfl) rfl (fun H hfin hfz=>?_)
 have fx:∀i,S i→Low H.n i∧H.m i=H0.m i:=fun i hi=>hfz i hi
 have hid:id<H.n:=(fx id hS).1
 have hsrcH:Src ac bs.length cc H id at_:=by obtain⟨sd,h⟩:=hsrc;exact⟨sd,(fx id hS).2.trans h⟩
 have hsH:=hs.stX (S':=fun i=>Low H.n i∧i≠id) (H':=H) (fun i hi=>⟨⟨(fx i (hY i hi).1).1,(hY i hi).2⟩,(fx i (hY i hi).1).2⟩)
 refine KW.callW (W:=fun i=>i=id) (fun i hi=>by subst hi;exact hid) U U U U U (srcPick (S:=Low H.n) (H0:=H) hb hl hn hat hid (fun i hi=>hi) hsrcH hsH) (fun v H1 S1 hn1 st1 hw1 hp=>?_)
 obtain⟨z,at',_,h1,h2,rfl,sd,hm⟩:=hp
 refine KW.retW U U U U (fun H3 g=>by have:=g.n_;omega) (fun i hi hw=>⟨(st1 i hi).1,(st1 i hi).2 hw⟩) (fun H3 g=>⟨_,at',h1,h2,rfl,sd,(g.froz id (st1 id hid).1).2.trans hm⟩)
theorem built_Src (a:Option Addr) (n c:Nat):Tryz.prog.built 187 [(0,.slice a n c)]=some #[.slice a n c,.int .i64 0,.int .u64 0]:=by kernel_rfl
theorem srcFrom {a:Option Addr} {n c:Nat}:SpecM Tryz.prog S H0 52 [.slice a n c] (fun m v H1=>∃(o:Nat) (sp:Option Nat),v=.pointer (some ⟨o,0,sp⟩)∧New m H1.n o∧Src a n c H1 o 0):=by
 refine SpecM.of1 Tryz.func52 rfl (by kernel_rfl) rfl (fun H _=>?_)
 refine KW.build U U U U U (built_Src _ _ _) ?_
 refine KW.retM1 U U U U (fun H1 g=>?_)
 exact⟨_,_,rfl,⟨g.ge (H1:=H) (j:=0) rfl,(g.blk (j:=0) rfl).2⟩,_,(g.blk (j:=0) rfl).1⟩
end
end Go.Proofs.YtlapbbffoapleaaGreat.Am
namespace Go.Proofs.YtlapbbffoapleaaGreat.Am
open Go Go.RowKit Go.Proofs Go.Proofs.YtlapbbffoapleaaGreat.Pl
theorem sw_len {L:List (List Int)} {n a:Nat}:(sw L n a).length=L.length:=by simp[sw]
def Mn (q:Nat) (op:Nat→Prop) (c:Nat):Prop:=op c∧∀h,h<q→c.testBit h=true→¬op (dif c (2 ^ h))
noncomputable def minsU (q:Nat) (op:Nat→Prop) (n:Nat):List (List Int):=((List.range n).filter fun c=>tv (Mn q op c)).map fun c=>hold c q
theorem sl_form {S:Ids} {A:AH} {v:Value} {x:List Int} (h:KI.Sl S A v x):∃a c,v=.slice a x.length c:=by
 rcases h with⟨rfl,a,c,e,_⟩ | ⟨id,k,c,b,e,_⟩
 ·exact⟨a,c,e⟩
 ·exact⟨_,c,e⟩
theorem RowsB.at_ {S V:Ids} {A:AH} {rows:List (List Int)} {cs:List Value} (h:RowsB KI.ml S A V rows cs) {j:Nat} {x:List Int} (hx:rows[j]?=some x):∃a c,cs[j]?=some (.slice a x.length c)∧KI.Sl S A (.slice a x.length c) x:=by
 obtain⟨v,W,h1,h2,h3,_⟩:=h.row1 hx
 obtain⟨a,c,rfl⟩:=sl_form h2.sl
 exact⟨a,c,h1,h2.sl.stX (fun i hi=>⟨h.sub i (h3 i hi),rfl⟩)⟩
theorem at_of {L:List (List Int)} {k:Nat} (h:k<L.length):∃x,L[k]?=some x∧L.getD k []=x:=⟨L[k],List.getElem?_eq_getElem h,by rw[List.getD_eq_getElem?_getD,List.getElem?_eq_getElem h];rfl⟩
theorem RowsB.back {S V Y:Ids} {A A1 A2:AH} {rows rows0:List (List Int)} {cs cs0:List Value} (h:RowsB KI.ml S A V rows cs) (h0:RowsB KI.ml Y A2 V rows0 cs0) (t:∀i,V i→A1.m i=A.m i):RowsB KI.ml Y A1 V rows cs:=by
 obtain⟨W,h1,h2,h3⟩:=h.rows
 refine⟨h.len,h0.sub,W,h1,h2,fun j x hx=>?_⟩
 obtain⟨v,h4,h5⟩:=h3 j x hx
 exact⟨v,h4,KI.ml.same (fun id hid=>t id (h1 j id hid)) h5⟩
structure IsS where
 k:Nat
 L:List (List Int)
 cs:List Value
section
variable {S:Ids} {H0:AH}
end
section
variable {S:Ids} {H0:AH}
end
end Go.Proofs.YtlapbbffoapleaaGreat.Am
namespace Go.Proofs.YtlapbbffoapleaaGreat.Am
open Go Go.RowKit Go.Proofs
abbrev T_Sequence:Type:=(List Int) × (List (List Int)) × (List (List Int))
abbrev M_Sequence:Kn T_Sequence:=Kn.mp (M_Int64S) (Kn.mp (M_Int64SS) (M_Int64SS))
section
variable {S:Ids} {H0:AH} {W:Ids} {left k:Int}
end
def Steps (gs:List (List Int)) (b x w:Nat):Prop:=Opens gs (x ||| w)∧¬Opens gs (b ||| w)
def Chd (gs:List (List Int)) (k b x:Nat):Prop:=x &&& k=0∧x≠b∧x &&& b=b∧¬Opens gs x
def Least (gs:List (List Int)) (k b x w:Nat) (ok:Bool):Prop:=
 (ok=true∧w≤k∧(k &&& w=w∧Steps gs b x w)∧∀v,v<w→¬(k &&& v=v∧Steps gs b x v))∨(ok=false∧w=0∧∀v,v≤k→¬(k &&& v=v∧Steps gs b x v))
section
variable {S:Ids} {H0:AH}
theorem steps {m:Nat} (hm:m≤7) (h:Int) {b x w:Nat} (hb:b<256) (hx:x<256) (hw:w<256) {gs:List (List Int)} (hsm:Sml gs) (hbe:Below' m gs) {a c} (hs:KI.sl.Sl S H0 (.slice a gs.length c) gs):
  Spec Tryz.prog S H0 93 [familyV h (.slice a gs.length c),.int .u64 b,.int .u64 x,.int .u64 w] (fun v=>v=.bool (tv (Steps gs b x w))):=by
 refine Spec.of1 Tryz.func93 rfl (by kernel_rfl) rfl (fun H _=>?_)
 have o1:x ||| w<2 ^ 8:=Nat.or_lt_two_pow (by omega) (by omega)
 have o2:b ||| w<2 ^ 8:=Nat.or_lt_two_pow (by omega) (by omega)
 have e8:(2:Nat) ^ 8=256:=by decide
 have e1:=or_u64 (a:=x) (b:=w) (by omega) (by omega)
 have e2:=or_u64 (a:=b) (b:=w) (by omega) (by omega)
 refine KW.callE U U U U U ((by show Spec _ _ _ _ [familyV h (.slice a gs.length c),.int .u64 (IntKind.u64.wrap _)] _;rw[e1];exact opens hm h (by omega) hsm hbe hs.up)) (fun _ _=>?_)
 refine KW.tstB U U (fun k1=>?_) (fun k1=>?_)
 ·have k1:=tv_iff.1 k1
  refine KW.callE U U U U U ((by show Spec _ _ _ _ [familyV h (.slice a gs.length c),.int .u64 (IntKind.u64.wrap _)] _;rw[e2];exact opens hm h (by omega) hsm hbe hs.up)) (fun _ _=>?_)
  refine KW.ret U U U U ?_
  show Value.bool (!tv (Opens gs (b ||| w)))=_
  by_cases k2:Opens gs (b ||| w)
  ·rw[tv_true k2,tv_false (p:=Steps gs b x w) (fun hc=>hc.2 k2)];rfl
  ·rw[tv_false k2,tv_true (p:=Steps gs b x w) ⟨k1,k2⟩];rfl
 ·exact KW.ret U U U U (by rw[tv_false (p:=Steps gs b x w) (fun hc=>by rw[tv_true hc.1] at k1;cases k1)];rfl)
theorem least {m:Nat} (hm:m≤7) (h:Int) {k b x:Nat} (hk:k<256) (hb:b<256) (hx:x<256) {gs:List (List Int)} (hsm:Sml gs) (hbe:Below' m gs) {a c} (hs:KI.sl.Sl S H0 (.slice a gs.length c) gs):
  Spec Tryz.prog S H0 90 [familyV h (.slice a gs.length c),.int .u64 k,.int .u64 b,.int .u64 x] (fun v=>∃(w:Nat) (ok:Bool),v=.tuple #[.int .u64 w,.bool ok]∧Least gs k b x w ok):=by
 refine Spec.of1 Tryz.func90 rfl (by kernel_rfl) rfl (fun H _=>?_)
 refine KW.lp U U (fun w:Nat=>[(1,.int .u64 k),(2,.int .u64 b),(3,.int .u64 x),(4,.pointer (some ⟨H.n,0,some 0⟩)),(10,.int .u64 w)]) (fun w=>w≤k+1∧∀v,v<w→¬(k &&& v=v∧Steps gs b x v)) (fun w=>k+1-w) (0) (⟨by omega,fun v hv=>absurd hv (by omega)⟩) ⟨rfl,rfl,rfl,rfl,rfl,trivial⟩ (fun w hi bE n=>?_)
 obtain⟨hw,hv⟩:=hi
 refine KW.cnd U U (fun k1=>?_) (fun k1=>?_)
 ·have k1:(w:Int)≤k:=k1
  refine KW.callE U U U U U (contains (x:=k) (y:=w) (by omega) (by omega)) (fun _ _=>?_)
  refine KW.tstB U U (fun k2=>?_) (fun k2=>?_)
  ·have k2:=tv_iff.1 k2
   refine KW.callE U U U U U (steps hm h (b:=b) (x:=x) (w:=w) hb hx (by omega) hsm hbe hs.up) (fun _ _=>?_)
   refine KW.cndB U U (fun k3=>?_) (fun k3=>?_)
   ·exact KW.ret U U U U (⟨w,true,rfl,.inl ⟨rfl,by omega,⟨k2,tv_iff.1 k3⟩,hv⟩⟩)
   ·refine KW.nxt U U (fun H' g=>⟨w+1,⟨by omega,upto hv (fun hc=>by rw[tv_true hc.2] at k3;cases k3)⟩,by first | omega | (simp only;omega),⟨rfl,rfl,rfl,rfl,congrArg (Value.int .u64) (incu64 (by omega)),trivial⟩,g⟩)
  ·refine KW.cF U U (by first | (simp;done) | decide) ?_
   refine KW.nxt U U (fun H' g=>⟨w+1,⟨by omega,upto hv (fun hc=>by rw[tv_true hc.1] at k2;cases k2)⟩,by first | omega | (simp only;omega),⟨rfl,rfl,rfl,rfl,congrArg (Value.int .u64) (incu64 (by omega)),trivial⟩,g⟩)
 ·have k1:¬(w:Int)≤k:=k1
  exact KW.ret U U U U (⟨0,false,rfl,.inr ⟨rfl,rfl,fun v hv'=>hv v (by omega)⟩⟩)
theorem Good.row1 {S0:Ids} {T:List Var} {n j id c:Nat} {H1 H2:AH} {ty:TypeId} {a:Option Addr} {c':Nat} {xs:List Int} (g:Good S0 H1 T n H2) (hT:T[j]?=some (id,⟨ty,true,[.slice a xs.length c']⟩)) (h:KI.Sl (Low H2.n) H2 (.slice a xs.length c') xs) (hc:1≤c):KI.sl.Sl (Low H2.n) H2 (.slice (some ⟨id,0,some 1⟩) [xs].length c) [xs]:=by
 have hb:=g.blk hT
 refine .inr ⟨id,0,c,_,rfl,hc,hb.2,hb.1,by simp[Kn.sl],fun i x hx=>?_⟩
 cases i with
 | zero=>cases hx;exact⟨_,rfl,h⟩
 | succ i=>simp at hx
end
end Go.Proofs.YtlapbbffoapleaaGreat.Am
/- Contracts: SequenceFor of the program. Each holds under its own conditions. -/
set_option linter.unusedVariables false
set_option linter.unusedSimpArgs false
set_option maxRecDepth 20000
namespace Go.Proofs.YtlapbbffoapleaaGreat.Am
open Go Go.RowKit Go.Proofs
theorem Least.one {gs:List (List Int)} {k b x w w':Nat} {ok ok':Bool} (h:Least gs k b x w ok) (h':Least gs k b x w' ok'):w=w'∧ok=ok':=by
 rcases h with⟨rfl,h1,h2,h3⟩ | ⟨rfl,rfl,h1⟩<;>rcases h' with⟨rfl,k1,k2,k3⟩ | ⟨rfl,rfl,k1⟩
 ·rcases Nat.lt_trichotomy w w' with h | h | h
  ·exact absurd h2 (k3 w h)
  ·exact⟨h,rfl⟩
  ·exact absurd k2 (h3 w' h)
 ·exact absurd h2 (k1 w h1)
 ·exact absurd k2 (h1 w' (by omega))
 ·exact⟨rfl,rfl⟩
def bef (ns:List Nat) (i:Nat):Nat:=if i=0 then 0 else ns.getD (i-1) 0
open Classical in
noncomputable def leastW (gs:List (List Int)) (k b x:Nat):Nat:=if h:∃w,Least gs k b x w true then Classical.choose h else 0
def OkAt (gs:List (List Int)) (k:Nat) (ns:List Nat) (i:Nat):Prop:=Chd gs k (bef ns i) (ns.getD i 0)∧∃w,Least gs k (bef ns i) (ns.getD i 0) w true
abbrev nums (chain:List (List Int)):List Nat:=chain.map bitsOf
noncomputable def withAt (gs:List (List Int)) (k:Nat) (ns:List Nat) (i:Nat):List Int:=hold (leastW gs k (bef ns i) (ns.getD i 0)) 7
noncomputable def withs (gs:List (List Int)) (k:Nat) (ns:List Nat) (n:Nat):List (List Int):=(List.range n).map (withAt gs k ns)
def MkQC (r:T_Sequence) (code:Int) (n:Nat) (v:Value) (H1:AH):Prop:=∃cs:List Value,v=.tuple #[.agg cs.toArray,.int .i64 code]∧M_Sequence.R (New n H1.n) H1 r cs
theorem nilM {X:Ids} {H:AH} {α:Type} {d:Kn α}:d.ml.R X H [] [.slice none 0 0]:=ml1' (.inl ⟨rfl,_,_,rfl,fun _=>rfl⟩)
theorem seqNil {X:Ids} {H:AH}:M_Sequence.R X H ([],[],[]) [.slice none 0 0,.slice none 0 0,.slice none 0 0]:=
 mpR (X:=None_) (cs:=[.slice none 0 0]) nilM (mpR (X:=None_) (Y:=None_) (cs:=[.slice none 0 0]) nilM nilM (fun _ p=>p.elim) (fun _ p=>p.elim) (fun _ p _=>p.elim)) (fun _ p=>p.elim) (fun _ p=>p) (fun _ p _=>p.elim)
theorem MkQC.nil {code:Int} {n:Nat} {v:Value} {H1:AH} (hv:v=.tuple #[.agg #[.slice none 0 0,.slice none 0 0,.slice none 0 0],.int .i64 code]):MkQC ([],[],[]) code n v H1:=⟨_,hv,seqNil⟩
structure SqS where
 i:Nat
 S:Ids
 A:AH
 l1:Value
 l2:Value
 tail:List Var
 V1:Ids
 V2:Ids
 c1:List Value
 c2:List Value
structure SqI (gs:List (List Int)) (k:Nat) (chain:List (List Int)) (SA:Ids) (HA:AH) (s:SqS):Prop where
 le:s.i≤chain.length
 old:St SA HA s.S s.A
 b1:RowsB KI.ml s.S s.A s.V1 (chain.take s.i) s.c1
 b2:RowsB KI.ml s.S s.A s.V2 (withs gs k (nums chain) s.i) s.c2
 v1:∀id,s.V1 id→HA.n≤id
 v2:∀id,s.V2 id→HA.n≤id
 dis:∀id,s.V1 id→s.V2 id→False
 ok:∀j,j<s.i→OkAt gs k (nums chain) j
 form:(s.i=0∧s.l1=.slice none 0 0∧s.l2=.slice none 0 0∧s.tail=[]∧s.c1=[]∧s.c2=[])∨(0<s.i∧∃o1 o2,s.l1=.slice (some ⟨o1,0,some 1⟩) s.i s.i∧s.l2=.slice (some ⟨o2,0,some 1⟩) s.i s.i∧s.tail=[(o1,⟨24,true,s.c1⟩),(o2,⟨24,true,s.c2⟩)])
theorem SqI.next {gs:List (List Int)} {k:Nat} {chain:List (List Int)} {SA:Ids} {HA:AH} {s:SqS} (h:SqI gs k chain SA HA s) {SC SG:Ids} {HC HG:AH} {n1 n2:Nat} {y:List Int} {v1 v2 l1 l2:Value} {tail:List Var} (t1:St s.S s.A SC HC) (t2:St SC HC SG HG) (w1:On (New n1 HC.n) HC SC HC) (w2:On (New n2 HG.n) HG SG HG) (low:∀id,s.S id→id<n1) (hn:HA.n≤n1) (hn2:HC.n≤n2) (hn3:n1≤HC.n) (hy:chain[s.i]?=some y) (hc:KI.Ml (New n1 HC.n) HC v1 y) (hg:KI.Ml (New n2 HG.n) HG v2 (withAt gs k (nums chain) s.i)) (ok:OkAt gs k (nums chain) s.i)
  (form:0<s.i+1∧∃o1 o2,l1=.slice (some ⟨o1,0,some 1⟩) (s.i+1) (s.i+1)∧l2=.slice (some ⟨o2,0,some 1⟩) (s.i+1) (s.i+1)∧tail=[(o1,⟨24,true,s.c1++[v1]⟩),(o2,⟨24,true,s.c2++[v2]⟩)]):
  SqI gs k chain SA HA ⟨s.i+1,SG,HG,l1,l2,tail,fun id=>s.V1 id∨New n1 HC.n id,fun id=>s.V2 id∨New n2 HG.n id,s.c1++[v1],s.c2++[v2]⟩:=by
 obtain⟨hil,rfl⟩:=List.getElem?_eq_some_iff.1 hy
 haveI o1:On s.S s.A SC HC:=⟨t1⟩
 haveI o2:On SC HC SG HG:=⟨t2⟩
 have et:chain.take (s.i+1)=chain.take s.i++[chain[s.i]]:=List.take_succ_eq_append_getElem hil
 have ew:withs gs k (nums chain) (s.i+1)=withs gs k (nums chain) s.i++[withAt gs k (nums chain) s.i]:=by unfold withs;rw[List.range_succ,List.map_append];rfl
 have lowV1:∀id,s.V1 id→id<n1:=fun id hid=>low id (h.b1.sub id hid)
 have lowV2:∀id,s.V2 id→id<n1:=fun id hid=>low id (h.b2.sub id hid)
 have c2:KI.ml.R (New n1 HC.n) HG chain[s.i] [v1]:=ml1' (hc.same (fun id hid=>(t2 id (w1.st id hid).1).2))
 refine⟨by simp only;omega,(h.old.trans t1).trans t2,?_,?_,fun id hid=>hid.elim (h.v1 id) (fun p=>by have:=p.1;omega),fun id hid=>hid.elim (h.v2 id) (fun p=>by have:=p.1;omega),fun id p q=>?_,upto h.ok ok,.inr form⟩
 ·simp only[et]
  exact((h.b1.up (S':=SC) (A':=HC)).up (S':=SG) (A':=HG)).snoc c2 (fun id hid=>(t2 id (w1.st id hid).1).1) (fun id p q=>by have:=lowV1 id p;have:=q.1;omega)
 ·simp only[ew]
  exact((h.b2.up (S':=SC) (A':=HC)).up (S':=SG) (A':=HG)).snoc (ml1' hg) (fun id hid=>(w2.st id hid).1) (fun id p q=>by have:=lowV2 id p;have:=q.1;omega)
 ·rcases p with p | p<;>rcases q with q | q
  ·exact h.dis id p q
  ·have:=lowV1 id p;have:=q.1;omega
  ·have:=lowV2 id q;have:=p.1;omega
  ·have:=p.2;have:=q.1;omega
section
variable {S:Ids} {H0:AH}
end
end Go.Proofs.YtlapbbffoapleaaGreat.Am

namespace Go.Proofs.YtlapbbffoapleaaGreat.Am
open Go Go.RowKit Go.Proofs
section
variable {S:Ids} {H0:AH}
end
section
variable {S:Ids} {H0:AH}
end
section
variable {S:Ids} {H0:AH}
end
section
variable {S:Ids} {H0:AH}
end
end Go.Proofs.YtlapbbffoapleaaGreat.Am
namespace Go.Proofs.YtlapbbffoapleaaGreat.Am
open Go Go.RowKit Go.Proofs Go.Proofs.YtlapbbffoapleaaGreat.Pl
structure CrS where
 j:Nat
 S:Ids
 A:AH
 V:Ids
 cs:List Value
 o:Nat
structure CrI (q:Nat) (op:Nat→Prop) (H:AH) (s:CrS):Prop where
 le:s.j≤2 ^ q
 old:St (Low H.n) H s.S s.A
 b:RowsB KI.ml s.S s.A s.V (minsU q op s.j) s.cs
 v:∀id,s.V id→H.n≤id
 o:H.n≤s.o
section
variable {S:Ids} {H0:AH}
end
section
variable {S:Ids} {H0:AH}
end
section
variable {S:Ids} {H0:AH}
structure Tb (gs:List (List Int)) (N b:Nat) (cs:List Bool):Prop where
 len:cs.length=N
 done:∀j,j<b→cs[j]?=some (tv (Opens gs j))
 rest:∀j,b<j→j<N→cs[j]?=some false
end
section
variable {S:Ids} {H0:AH}
end
section
variable {S:Ids} {H0:AH}
end
end Go.Proofs.YtlapbbffoapleaaGreat.Am
namespace Go.Proofs.YtlapbbffoapleaaGreat.Am
open Go Go.RowKit Go.Proofs

end Go.Proofs.YtlapbbffoapleaaGreat.Am
namespace Go.Proofs.YtlapbbffoapleaaGreat.Am
open Go Go.RowKit Go.Proofs Go.Proofs.YtlapbbffoapleaaGreat.Pl

theorem RowsB.mv {S S' V:Ids} {A A':AH} {rows:List (List Int)} {cs:List Value} (h:RowsB KI.ml S A V rows cs) (t:∀i,V i→S' i∧A'.m i=A.m i):RowsB KI.ml S' A' V rows cs:=by
 obtain⟨W,h1,h2,h3⟩:=h.rows
 refine⟨h.len,fun i hi=>(t i hi).1,W,h1,h2,fun j x hx=>?_⟩
 obtain⟨v,h4,h5⟩:=h3 j x hx
 exact⟨v,h4,KI.ml.same (fun id hid=>(t id (h1 j id hid)).2) h5⟩
theorem rises_weak {h h':Int} (hh:h≤h') {g:List Int} (hr:Rises 0 h g):Rises 0 h' g:=fun i hi=>by
 have:=hr i hi
 exact⟨⟨this.1.1,by have:=this.1.2;omega⟩,this.2⟩
theorem rises_snoc {h:Nat} {g:List Int} (hr:Rises 0 ((h:Int)-1) g):Rises 0 (h:Int) (g++[(h:Int)]):=fun i hi=>by
 have hl:∀j,j<g.length→(g++[(h:Int)]).getD j 0=g.getD j 0:=fun j hj=>by
  rw[List.getD_eq_getElem?_getD,List.getD_eq_getElem?_getD,List.getElem?_append_left hj]
 have hz:(g++[(h:Int)]).getD g.length 0=h:=by rw[List.getD_eq_getElem?_getD];simp
 have hi:i<g.length+1:=by simpa using hi
 unfold RiseAt
 by_cases e:i=g.length
 ·rw[e,hz]
  refine⟨⟨by omega,Int.le_refl _⟩,fun h0=>?_⟩
  rw[hl _ (by omega)]
  have:=(hr (g.length-1) (by omega)).1.2
  omega
 ·have h3:=hr i (by omega)
  rw[hl i (by omega)]
  refine⟨⟨h3.1.1,by have:=h3.1.2;omega⟩,fun h0=>?_⟩
  rw[hl _ (by omega)]
  exact h3.2 h0
structure DwE (H:AH) (id:Nat) (S:Ids) (A:AH):Prop where
 sid:S id
 old:∀i,Low H.n i∧i≠id→S i∧A.m i=H.m i
theorem DwE.w {H:AH} {id:Nat} {S S':Ids} {A A':AH} (e:DwE H id S A) (st:StW (fun i=>i=id) S A S' A'):DwE H id S' A':=
 ⟨(st id e.sid).1,fun i hi=>⟨(st i (e.old i hi).1).1,((st i (e.old i hi).1).2 hi.2).trans (e.old i hi).2⟩⟩
theorem DwE.s {H:AH} {id:Nat} {S S':Ids} {A A':AH} (e:DwE H id S A) (st:St S A S' A'):DwE H id S' A':=
 ⟨(st id e.sid).1,fun i hi=>⟨(st i (e.old i hi).1).1,(st i (e.old i hi).1).2.trans (e.old i hi).2⟩⟩
theorem DwE.kb {H:AH} {id:Nat} {S:Ids} {A:AH} {s:Value} {xs:List Int} (e:DwE H id S A) (h:KB.Sl (fun i=>Low H.n i∧i≠id) H s xs):KB.Sl (fun i=>S i∧i≠id) A s xs:=h.stX (fun i hi=>⟨⟨(e.old i hi).1,hi.2⟩,(e.old i hi).2⟩)
theorem Src.mv {ac:Option Addr} {n cc id at_:Nat} {A A':AH} (h:Src ac n cc A id at_) (e:A'.m id=A.m id):Src ac n cc A' id at_:=by
 obtain⟨sd,h⟩:=h
 exact⟨sd,e.trans h⟩
theorem DwE.nle {H:AH} {id n:Nat} {S:Ids} {A:AH} (e:DwE H id S A) (h:∀i,S i→i<n):H.n≤n:=by
 rcases Nat.lt_or_ge n H.n with h1 | h1
 ·by_cases e1:n=id
  ·have:=h id e.sid;omega
  ·have:=h n (e.old n ⟨h1,e1⟩).1;omega
 ·exact h1
structure DwS where
 i:Nat
 S:Ids
 A:AH
 at_:Nat
 V:Ids
 G:List (List Int)
 cs:List Value
 o:Nat
structure DwI (q a0:Nat) (H:AH) (id:Nat) (ac:Option Addr) (n cc:Nat) (s:DwS):Prop where
 env:DwE H id s.S s.A
 src:Src ac n cc s.A id s.at_
 at1:s.at_≤a0+20*s.G.length
 lo:1≤s.G.length+s.i
 hi:s.G.length+s.i≤4
 b:RowsB KI.ml s.S s.A s.V s.G s.cs
 v:∀i,s.V i→H.n≤i
 ok:∀g∈s.G,Rises 0 ((q:Int)-1) g∧g≠[]
structure DiS where
 h:Nat
 S:Ids
 A:AH
 at_:Nat
 xs:List Int
 o:Nat
structure DiI (a0:Nat) (H:AH) (id:Nat) (ac:Option Addr) (n cc:Nat) (V:Ids) (G:List (List Int)) (cs:List Value) (s:DiS):Prop where
 env:DwE H id s.S s.A
 src:Src ac n cc s.A id s.at_
 at1:s.at_≤a0+2*s.h
 b:RowsB KI.ml s.S s.A V G cs
 ok:Rises 0 ((s.h:Int)-1) s.xs
 len:s.xs.length≤s.h
section
variable {S:Ids} {H0:AH}
end
section
variable {S:Ids} {H0:AH}
theorem srcAmong {bs:List Int} (hb:∀x∈bs,0≤x∧x<256) (hl:bs.length≤1048576) {ac:Option Addr} {cc id at_:Nat} {Y:Ids} {ls:List Int} {a c} (hn:ls.length≤1000) (hn1:1≤ls.length) (hat:at_≤800000) (hS:S id) (hY:∀i,Y i→S i∧i≠id) (hsrc:Src ac bs.length cc H0 id at_) (hs:KB.Sl Y H0 (.slice ac bs.length cc) bs) (hls:KI.Sl Y H0 (.slice a ls.length c) ls):
  SpecW Tryz.prog S H0 (fun i=>i=id) 67 [.pointer (some ⟨id,0,none⟩),.slice a ls.length c] (fun _ v H1=>∃(y:Int) (at':Nat),y∈ls∧at_≤at'∧at'≤at_+2∧v=.int .i64 y∧Src ac bs.length cc H1 id at'):=by
 refine SpecW.of0 Tryz.func67 rfl (by kernel_rfl) rfl (fun H hfin hfz=>?_)
 have fx:∀i,S i→Low H.n i∧H.m i=H0.m i:=fun i hi=>hfz i hi
 have hid:id<H.n:=(fx id hS).1
 have t0:∀i,Y i→(Low H.n i∧i≠id)∧H.m i=H0.m i:=fun i hi=>⟨⟨(fx i (hY i hi).1).1,(hY i hi).2⟩,(fx i (hY i hi).1).2⟩
 have hsH:=hs.stX t0
 have hlH:=hls.stX t0
 have E0:DwE H id (Low H.n) H:=⟨hid,fun i hi=>⟨hi.1,rfl⟩⟩
 refine KW.callW (W:=fun i=>i=id) (fun i hi=>by subst hi;exact E0.sid) U U U U U (srcPick (S:=Low H.n) (H0:=H) hb hl (n:=(ls.length:Int)) (by omega) (by omega) E0.sid (fun i hi=>hi) (hsrc.mv (fx id hS).2) (E0.kb hsH)) (fun v H1 S1 hn1 st1 hw1 hp=>?_)
 obtain⟨z1,a1,hz1,l1,u1,rfl,src1⟩:=hp
 have hz1:=hz1 (by omega)
 have E1:=E0.w st1
 refine KW.getI ((hlH.stX (S':=S1) (H':=H1) (fun i hi=>E1.old i hi))) U U U U U U U U U U U U U U U U (by omega) (hz1) (fun y hy=>?_)
 refine KW.retW U U U U (fun H9 g=>by have:=g.n_;omega) (fun i hi hw=>E1.old i ⟨hi,hw⟩) (fun H9 g=>⟨y,a1,List.mem_of_getElem? hy,l1,u1,rfl,src1.mv (g.froz id E1.sid).2⟩)
end
end Go.Proofs.YtlapbbffoapleaaGreat.Am
namespace Go.Proofs.YtlapbbffoapleaaGreat.Am
open Go Go.RowKit Go.Proofs
section
variable {P:Program} {S:Ids} {H0:AH} {Q:PostC} {k k1:List It} {e e1:Env} {T T1:List Var} {n n1:Nat} {l1 r1:List Nat} {d1:Tmp}
theorem KW.appU {o:Oper} {dr:Bool} {t el:TypeId} {x y:Operand} {inf:TypeInfo} {m len id:Nat} {xs ys:List Value} (j:Nat) (h:Go1 P k e T n (.op o dr) k1 e1 T1 n1 l1 r1) (hlr:l1=r1) (ho:o.op=.call {callee:=.builtin .append,args:=#[x,y],argTypes:=#[t,t]}) (hd:o.dst=some d1) (hu:P.underlying t=some (.slice el)) (hi:P.info? el=some inf) (hx:ev e1 x=.slice (some ⟨id,0,some inf.size⟩) len len) (hT:T1[j]?=some (id,⟨el,true,xs⟩))
  (hs:0<inf.size) (hzo:zeroOkL P el=true) (hxs:xs.length=len*inf.size) (hys:ys.length=m*inf.size) (hy:∀H,Good S H0 T1 n1 H→acells H (ev e1 y) inf.size=some (m,ys)) (hone:ys.all Value.oneCell'=true) (hb:(len+m)*inf.bytes≤140737488355328) (hml:len+m≤9223372036854775807)
  (hk:∀o2 n2,(o2=id∨n1≤o2)→n1≤n2→KW P S H0 Q n2 (T1.set j (o2,⟨el,true,xs++ys⟩)) k1 (put1 e1 d1 (.slice (some ⟨o2,0,some inf.size⟩) (len+m) (len+m)))):KW P S H0 Q n T k e:=by
 by_cases hm:m=0
 ·subst hm
  have hys:ys=[]:=List.eq_nil_of_length_eq_zero (by omega)
  subst hys
  have hk:=hk id n1 (.inl rfl) (Nat.le_refl _)
  rw[List.append_nil,Nat.add_zero] at hk
  have e:T1.set j (id,⟨el,true,xs⟩)=T1:=by
   refine List.ext_getElem? fun i=>?_
   rw[List.getElem?_set]
   split
   ·rename_i e
    subst e
    split
    ·exact hT.symm
    ·rw[List.getElem?_eq_none (by omega)]
   ·rfl
  rw[e] at hk
  exact KW.appZS h hlr ho hd hx (.inl ⟨_,_,_,rfl⟩) hu hi hs hzo hy hk
 ·refine KW.appTS j h hlr ho hd hu hi hx hT hs hzo hy (by omega) hone hm hb hml ?_
  have hk:=hk n1 (n1+1) (.inr (Nat.le_refl _)) (by omega)
  have e:(xs.drop 0).take (len*inf.size)=xs:=by rw[List.drop_zero,← hxs,List.take_length]
  rw[e]
  exact hk
theorem KW.callWF (j:Nat) {f:Operand} {xs:Array Operand} {ts:Array TypeId} {g:FuncId} {first cap:Array Value} {o:Oper} {o2:Nat} {b:Blk} (h:Go1 P k e T n (.op o false) k1 e1 T1 n1 l1 r1) (hlr:l1=r1) (ho:o.op=.call {callee:=.value f,args:=xs,argTypes:=ts}) (hd:o.dst=some d1) (hf:ev e1 f=.func (.func g) first cap) (hj:T1[j]?=some (o2,b))
  (hk:∀(A':AH) (S':Ids),A'.n=n1→(∀id,S' id↔S id∨id=o2)→Stp S H0 S' A'→A'.m o2=some b→o2<n1→¬S o2→(∀id,S id→id<n1)→∃(W:Ids) (post:Nat→Value→AH→Prop),(∀id,W id→S' id)∧SpecW P S' A' W g (cargs e1 first cap xs) post∧∀v H1 (S'':Ids),n1≤H1.n→StW W S' A' S'' H1→(∀id,New n1 H1.n id→S'' id)→post n1 v H1→KW P S'' H1 Q H1.n (T1.take j) k1 (put1 e1 d1 (untag v))):KW P S H0 Q n T k e:=by
 refine KW.go h hlr (fun H gd=>?_)
 replace gd:Good S H0 T1 n1 H:=gd
 have hv:=gd.vars j _ hj
 have get:∀{i:Nat} {u:Var},(T1.take j)[i]?=some u→i<j∧T1[i]?=some u:=fun {i u} hi=>by
  rw[List.getElem?_take] at hi
  split at hi
  ·exact⟨by assumption,hi⟩
  ·cases hi
 obtain⟨S2,hS2⟩:∃S2:Ids,S2=fun id=>S id∨id=o2:=⟨_,rfl⟩
 obtain⟨W,post,hW,hs,hk⟩:=hk H S2 gd.n_ (fun id=>by rw[hS2]) ⟨fun id hid=>⟨by rw[hS2];exact .inl hid,(gd.froz id hid).2⟩⟩ hv.1 hv.2.1 hv.2.2 (fun id hid=>(gd.froz id hid).1)
 have gd:Good S2 H (T1.take j) n1 H:=by
  subst hS2
  refine⟨gd.n_,gd.fin,fun id hid=>⟨?_,rfl⟩,fun i u hi=>?_,fun i1 i2 u w h1 h2 he=>gd.dist i1 i2 u w (get h1).2 (get h2).2 he⟩
  ·rcases hid with hid | rfl
   ·exact(gd.froz id hid).1
   ·exact hv.2.1
  ·obtain⟨h1,h2⟩:=get hi
   have h3:=gd.vars i u h2
   refine⟨h3.1,h3.2.1,fun h=>?_⟩
   rcases h with h | h
   ·exact h3.2.2 h
   ·have:=gd.dist i j u _ h2 hj h;omega
 clear get hv
 clear hS2
 obtain⟨m,v,H1,h1,hx1,hx2,hfin,hp⟩:=hs H gd.fin gd.fz
 have hn:H.n=n1:=gd.n_
 have e:untags (first++aargs e1 xs++cap)=(cargs e1 first cap xs).toArray:=by
  apply Array.ext'
  simp[aargs,untags,cargs]
 refine⟨m,untag v,H1,?_,?_⟩
 ·rw[ho]
  simp only[evOp,evCall,hf]
  exact⟨v,rfl,by rw[e];exact h1,fun h=>by cases h⟩
 ·rw[hn] at hp
  rw[hd,put1_eq]
  refine hk v H1 (fun id=>S2 id∨New n1 H1.n id) (by rw[← hn];exact hx1) (fun id hid=>⟨.inl hid,fun hw=>?_⟩) (fun id hid=>.inr hid) hp H1 ?_
  ·obtain⟨h2,h3⟩:=gd.froz id hid
   rw[hx2 id (by omega) hw]
  ·refine⟨rfl,hfin,fun id hid=>⟨?_,rfl⟩,fun j w hj=>?_,gd.dist⟩
   ·rcases hid with hid | hid
    ·have:=(gd.froz id hid).1;omega
    ·exact hid.2
   ·obtain⟨h2,h3,h4⟩:=gd.vars j w hj
    refine⟨by rw[hx2 _ (by omega) (fun hw=>h4 (hW _ hw))];exact h2,by omega,fun hh=>?_⟩
    rcases hh with hh | hh
    ·exact h4 hh
    ·have:=hh.1;omega
end
theorem SpecW.of0R {P:Program} {S:Ids} {H0:AH} {W:Ids} (Z:List Nat) {f:FuncId} {fn:Func} {c:Code} {args:List Value} {post:Nat→Value→AH→Prop} (hf:P.funcs[f]?=some fn) (hb:fn.body=some c) (hok:fnOk fn=true) (hst:stC (relab Z c)=true) (hs:Nat.ble args.length fn.ntmps=true)
  (h:∀H,Fin' H→Fz S H0 H→KW P (Low H.n) H (Fin1 P fn (fun v H1=>H.n≤H1.n∧(∀id,id<H.n→¬W id→H1.m id=H.m id)∧Fin' H1∧post H.n v H1)) H.n [] [.code (relab Z c)] (fun t=>args.getD t undef)):SpecW P S H0 W f args post:=by
 intro H hfin hfz
 refine Run.of hf hb hok (by simpa using Nat.le_of_ble_eq_true hs) ?_
 rw[envL_eq]
 exact((h H hfin hfz).wc hst (Good.start hfin)).relab
theorem SpecW.of0P {P:Program} {S:Ids} {H0:AH} {W:Ids} (M:List (Nat × List Nat)) (Z:List Nat) {f:FuncId} {fn:Func} {c:Code} {args:List Value} {post:Nat→Value→AH→Prop} (hf:P.funcs[f]?=some fn) (hb:fn.body=some c) (hok:fnOk fn=true) (hsh:shufOk M c=true) (hst:stC (relab Z (shufC M c))=true) (hs:Nat.ble args.length fn.ntmps=true)
  (h:∀H,Fin' H→Fz S H0 H→KW P (Low H.n) H (Fin1 P fn (fun v H1=>H.n≤H1.n∧(∀id,id<H.n→¬W id→H1.m id=H.m id)∧Fin' H1∧post H.n v H1)) H.n [] [.code (relab Z (shufC M c))] (fun t=>args.getD t undef)):SpecW P S H0 W f args post:=by
 intro H hfin hfz
 refine Run.of hf hb hok (by simpa using Nat.le_of_ble_eq_true hs) ?_
 rw[envL_eq]
 exact(((h H hfin hfz).wc hst (Good.start hfin)).relab).shuf hsh
section
variable {P:Program} {S:Ids} {H0:AH} {Q:PostC} {k k1:List It} {e e1:Env} {T T1:List Var} {n n1:Nat} {l1 r1:List Nat} {d1:Tmp}
def AllW (S W:Ids) (T:List Var) (e:Env):List Tmp→Prop
 | []=>True
 | u :: L=>((∃(i:Nat) (b:Blk) (id k:Nat) (s:Option Nat),e u=.pointer (some ⟨id,k,s⟩)∧T[i]?=some (id,b))∨∃(id k:Nat) (s:Option Nat),e u=.pointer (some ⟨id,k,s⟩)∧S id∧¬W id)∧AllW S W T e L
theorem KW.callWL {f:Operand} {xs:Array Operand} {ts:Array TypeId} {g:FuncId} {first cap:Array Value} {o:Oper} {W:Ids} {L:List Tmp} {post:Nat→Value→AH→Prop} (hW:∀id,W id→S id) (h:Go1 P k e T n (.opL o false L) k1 e1 T1 n1 l1 r1) (hlr:l1=r1) (ho:o.op=.call {callee:=.value f,args:=xs,argTypes:=ts}) (hd:o.dst=some d1) (hf:ev e1 f=.func (.func g) first cap) (hL:AllW S W T1 e1 L)
  (hs:SpecW P S H0 W g (cargs e1 first cap xs) post)
  (hk:∀v H1 (S':Ids),n1≤H1.n→StW W S H0 S' H1→(∀id,New n1 H1.n id→S' id)→post n1 v H1→KW P S' H1 Q H1.n T1 k1 (put1 e1 d1 (untag v))):KW P S H0 Q n T k e:=by
 refine KW.go h hlr (fun H gd=>?_)
 replace gd:Good S H0 T1 n1 H:=gd
 obtain⟨m,v,H1,h1,hx1,hx2,hfin,hp⟩:=hs H gd.fin gd.fz
 have hn:H.n=n1:=gd.n_
 have e:untags (first++aargs e1 xs++cap)=(cargs e1 first cap xs).toArray:=by
  apply Array.ext'
  simp[aargs,untags,cargs]
 refine⟨m,untag v,H1,?_,?_,?_⟩
 ·rw[ho]
  simp only[evOp,evCall,hf]
  exact⟨v,rfl,by rw[e];exact h1,fun h=>by cases h⟩
 ·have hAll:∀(L:List Tmp),AllW S W T1 e1 L→∀t∈L,∀id k s,e1 t=.pointer (some ⟨id,k,s⟩)→H1.m id=H.m id:=by
   intro L
   induction L with
   | nil=>intro _ t ht;cases ht
   | cons u L ih=>
    intro hL t ht id k s he
    rcases List.mem_cons.1 ht with rfl | ht
    ·rcases hL.1 with⟨i,b,id',k',s',h1,h2⟩ | ⟨id',k',s',h1,h2,h3⟩
     ·rw[h1] at he
      cases he
      have hv:=gd.vars i _ h2
      exact hx2 _ (by omega) (fun hw=>hv.2.2 (hW _ hw))
     ·rw[h1] at he
      cases he
      exact hx2 _ (by have:=(gd.froz _ h2).1;omega) h3
    ·exact ih hL.2 t ht id k s he
  exact hAll L hL
 ·rw[hn] at hp
  rw[hd,put1_eq]
  refine hk v H1 (fun id=>S id∨New n1 H1.n id) (by rw[← hn];exact hx1) (fun id hid=>⟨.inl hid,fun hw=>?_⟩) (fun id hid=>.inr hid) hp H1 ?_
  ·obtain⟨h2,h3⟩:=gd.froz id hid
   rw[hx2 id (by omega) hw,h3]
  ·refine⟨rfl,hfin,fun id hid=>⟨?_,rfl⟩,fun j w hj=>?_,gd.dist⟩
   ·rcases hid with hid | hid
    ·have:=(gd.froz id hid).1;omega
    ·exact hid.2
   ·obtain⟨h2,h3,h4⟩:=gd.vars j w hj
    refine⟨by rw[hx2 _ (by omega) (fun hw=>h4 (hW _ hw))];exact h2,by omega,fun hh=>?_⟩
    rcases hh with hh | hh
    ·exact h4 hh
    ·have:=hh.1;omega
end
structure SrcB (bs:List Int) (ac:Option Addr) (cc id:Nat) (Y S:Ids) (A:AH) (B:Nat):Prop where
 hb:∀x∈bs,0≤x∧x<256
 hl:bs.length≤1048576
 sid:S id
 y:∀i,Y i→S i∧i≠id
 src:∃at_,at_≤B∧Src ac bs.length cc A id at_
 kb:KB.Sl Y A (.slice ac bs.length cc) bs
section
variable {bs:List Int} {ac:Option Addr} {cc id B B':Nat} {Y W S S':Ids} {A A':AH}
theorem SrcB.w (h:SrcB bs ac cc id Y S A B) (st:StW W S A S' A') (hW:∀i,Y i→¬W i) (hs:∃at_,at_≤B'∧Src ac bs.length cc A' id at_):SrcB bs ac cc id Y S' A' B':=
 ⟨h.hb,h.hl,(st id h.sid).1,fun i hi=>⟨(st i (h.y i hi).1).1,(h.y i hi).2⟩,hs,h.kb.stX (fun i hi=>⟨hi,(st i (h.y i hi).1).2 (hW i hi)⟩)⟩
theorem SrcB.s (h:SrcB bs ac cc id Y S A B) (st:St S A S' A') (hB:B≤B'):SrcB bs ac cc id Y S' A' B':=
 ⟨h.hb,h.hl,(st id h.sid).1,fun i hi=>⟨(st i (h.y i hi).1).1,(h.y i hi).2⟩,by obtain⟨q,h1,h2⟩:=h.src;exact⟨q,by omega,h2.mv (st id h.sid).2⟩,h.kb.stX (fun i hi=>⟨hi,(st i (h.y i hi).1).2⟩)⟩
theorem SrcB.w1 (h:SrcB bs ac cc id Y S A B) (st:StW (fun i=>i=id) S A S' A') (hs:∃at_,at_≤B'∧Src ac bs.length cc A' id at_):SrcB bs ac cc id Y S' A' B':=h.w st (fun i hi e=>(h.y i hi).2 e) hs
end
structure GwE (H:AH) (W:Ids) (S:Ids) (A:AH):Prop where
 wid:∀i,W i→S i
 old:∀i,i<H.n→¬W i→S i∧A.m i=H.m i
theorem GwE.w {H:AH} {W W' S S':Ids} {A A':AH} (e:GwE H W S A) (st:StW W' S A S' A') (hW:∀i,W' i→W i∨H.n≤i):GwE H W S' A':=
 ⟨fun i hi=>(st i (e.wid i hi)).1,fun i h1 h2=>⟨(st i (e.old i h1 h2).1).1,((st i (e.old i h1 h2).1).2 (fun hh=>by rcases hW i hh with h | h;exact h2 h;omega)).trans (e.old i h1 h2).2⟩⟩
theorem GwE.s {H:AH} {W S S':Ids} {A A':AH} (e:GwE H W S A) (st:St S A S' A'):GwE H W S' A':=
 ⟨fun i hi=>(st i (e.wid i hi)).1,fun i h1 h2=>⟨(st i (e.old i h1 h2).1).1,((st i (e.old i h1 h2).1).2).trans (e.old i h1 h2).2⟩⟩
section
variable {S:Ids} {H0:AH} {bs:List Int} {ac:Option Addr} {cc id B:Nat} {Y:Ids}
theorem pickB {n:Int} (h:SrcB bs ac cc id Y S H0 B) (hB:B≤900000) (hn:n≤1000000):SpecW Tryz.prog S H0 (fun i=>i=id) 70 [.pointer (some ⟨id,0,none⟩),.int .i64 n] (fun _ v H1=>∃z:Nat,(1≤n→(z:Int)<n)∧v=.int .i64 z∧∃at_,at_≤B+2∧Src ac bs.length cc H1 id at_):=fun H hf hz=>by
 obtain⟨q,h1,h2⟩:=h.src
 obtain⟨m,v,H1,k1,k2,k3,k4,z,at',k5,k6,k7,k8,k9⟩:=srcPick h.hb h.hl hn (show q≤900000 by omega) h.sid h.y h2 h.kb H hf hz
 exact⟨m,v,H1,k1,k2,k3,k4,z,k5,k8,at',by omega,k9⟩
theorem oneB {n:Int} (h:SrcB bs ac cc id Y S H0 B) (hB:B≤900000) (hn:n≤1000000):SpecW Tryz.prog S H0 (fun i=>i=id) 54 [.pointer (some ⟨id,0,none⟩),.int .i64 n] (fun _ v H1=>∃b:Bool,v=.bool b∧∃at_,at_≤B+2∧Src ac bs.length cc H1 id at_):=fun H hf hz=>by
 obtain⟨q,h1,h2⟩:=h.src
 obtain⟨m,v,H1,k1,k2,k3,k4,b,at',k6,k7,k8,k9⟩:=srcOne h.hb h.hl hn (show q≤900000 by omega) h.sid h.y h2 h.kb H hf hz
 exact⟨m,v,H1,k1,k2,k3,k4,b,k8,at',by omega,k9⟩
theorem built_Leaf (h:Int):Tryz.prog.built 157 [(0,.int .i64 h)]=some #[.int .i64 h,.int .i64 0,.slice none 0 0]:=by kernel_rfl
theorem built_Gate (h l:Int) (a:Option Addr) (n c:Nat):Tryz.prog.built 157 [(0,.int .i64 h),(1,.int .i64 l),(2,.slice a n c)]=some #[.int .i64 h,.int .i64 l,.slice a n c]:=by kernel_rfl
theorem l02Leaf (h:Int):Spec Tryz.prog S H0 166 [.int .i64 h] (fun v=>v=.agg #[.int .i64 h,.int .i64 0,.slice none 0 0]):=by
 refine Spec.of1 Tryz.func166 rfl (by kernel_rfl) rfl (fun H _=>?_)
 refine KW.build U U U U U (built_Leaf _) ?_
 exact KW.ret U U U U (rfl)
theorem l02Gate (l:Int) (a:Option Addr) (n c:Nat):Spec Tryz.prog S H0 167 [.int .i64 l,.slice a n c] (fun v=>v=.agg #[.int .i64 (-1),.int .i64 l,.slice a n c]):=by
 refine Spec.of1 Tryz.func167 rfl (by kernel_rfl) rfl (fun H _=>?_)
 refine KW.build U U U U U (built_Gate _ _ _ _ _) ?_
 exact KW.ret U U U U (rfl)
end
def lcG:Nat→Nat
 | 0=>1
 | d+1=>1+4*lcG d
def scG:Nat→Nat
 | 0=>4
 | d+1=>8+4*scG d
theorem rg_leaf {S:Ids} {A:AH} {h:Int}:∀d,RG d S A (.mk h 0 []) [.int .i64 h,.int .i64 0,.slice none 0 0]
 | 0=>⟨rfl,none,0,rfl,fun _=>rfl⟩
 | d+1=>⟨_,rfl,.inl ⟨rfl,none,0,rfl,fun _=>rfl⟩⟩
theorem gf_leaf {n h:Int} (h0:0≤h) (h1:h<n):∀d,GF n d (.mk h 0 [])
 | 0=>⟨rfl,rfl,h0,h1⟩
 | d+1=>.inl ⟨rfl,rfl,h0,h1⟩
def GrP (n:Int) (d:Nat) (bs:List Int) (ac:Option Addr) (cc id lid B:Nat) (left:Int) (m:Nat) (v:Value) (H1:AH):Prop:=
 ∃(g:Gt) (cs:List Value),v=.agg cs.toArray∧RG d (New m H1.n) H1 g cs∧GF n d g∧(∃at_,at_≤B+scG d∧Src ac bs.length cc H1 id at_)∧∃l':Int,H1.m lid=some ⟨2,true,[.int .i64 l']⟩∧left-lcG d≤l'∧l'≤100
structure GrS where
 m:Nat
 G:List Gt
 S:Ids
 A:AH
 V:Ids
 o:Nat
 cs:List Value
 lf:Int
structure GrI (n:Int) (d:Nat) (bs:List Int) (ac:Option Addr) (cc id lid:Nat) (Y:Ids) (B:Nat) (left:Int) (H:AH) (s:GrS):Prop where
 le:s.G.length+s.m≤4
 ge:1≤s.G.length+s.m
 src:SrcB bs ac cc id Y s.S s.A (B+4+s.G.length*scG d)
 E:GwE H (fun i=>i=id∨i=lid) s.S s.A
 lS:s.S lid
 lm:s.A.m lid=some ⟨2,true,[.int .i64 s.lf]⟩
 l1:left-1-(s.G.length*lcG d:Nat)≤s.lf
 l2:s.lf≤100
 cl:Cl (KG d) s.V s.A s.G s.cs
 cl3:s.cs.length=s.G.length*3
 v:∀i,s.V i→s.S i∧H.n≤i
 gf:∀g∈s.G,GF n d g
section
variable {bs:List Int} {ac:Option Addr} {cc id lid:Nat} {Y:Ids} {N:Int}
theorem l02Grown (hN:1≤N∧N≤7) (hid:id≠lid) (hYl:∀i,Y i→i≠lid):∀(d:Nat) {S:Ids} {H0:AH} {B:Nat} {left:Int},d≤4→SrcB bs ac cc id Y S H0 B→B+scG d≤800000→S lid→H0.m lid=some ⟨2,true,[.int .i64 left]⟩→(-100000≤left-lcG d∧left≤100)→
  SpecW Tryz.prog S H0 (fun i=>i=id∨i=lid) 264 [.pointer (some ⟨id,0,none⟩),.int .i64 N,.int .i64 d,.pointer (some ⟨lid,0,none⟩)] (GrP N d bs ac cc id lid B left):=by
 intro d
 induction d with
 | zero=>
  intro S H0 B left hd hsrc hB hlS hlm hlb
  simp only[scG,lcG] at hB hlb
  refine SpecW.of0 Tryz.func264 rfl (by kernel_rfl) rfl (fun H hfin hfz=>?_)
  have SB0:SrcB bs ac cc id Y (Low H.n) H B:=hsrc.s (fun i hi=>hfz i hi) (Nat.le_refl _)
  have hlL:lid<H.n:=(hfz lid hlS).1
  have hlm0:H.m lid=some ⟨2,true,[.int .i64 left]⟩:=(hfz lid hlS).2.trans hlm
  have hL:Has3 (Low H.n) H lid 0 [.int .i64 left]:=⟨hlL,_,hlm0,fun i v hv=>by rw[Nat.zero_add];exact hv⟩
  have E0:GwE H (fun i=>i=id∨i=lid) (Low H.n) H:=⟨fun i hi=>by rcases hi with h | h;rw[h];exact SB0.sid;rw[h];exact hlL,fun i h _=>⟨h,rfl⟩⟩
  have ew:IntKind.i64.wrap (left-1)=left-1:=wr (by omega) (by omega)
  refine KW.ldF 0 hL U U U U U U U U U ?_
  refine KW.thaw lid _ hlL hlm0 ?_
  refine KW.st1 1 U U U U U U U U U U U U (by simp) ?_
  refine KW.freeze 1 rfl (fun A1 S1 hn1 hS1 st1 hm1 hlt1 hno1 hlow1=>?_)
  have w01:StW (fun i=>i=lid) (Low H.n) H S1 A1:=fun i hi=>by
   by_cases e:i=lid
   ·exact⟨(hS1 i).2 (.inr e),fun hh=>absurd e hh⟩
   ·exact⟨(st1.st i ⟨hi,e⟩).1,fun _=>(st1.st i ⟨hi,e⟩).2⟩
  have hlm1:A1.m lid=some ⟨2,true,[.int .i64 (left-1)]⟩:=by
   have h:A1.m lid=some ⟨2,true,[.int .i64 (IntKind.i64.wrap (left-1))]⟩:=hm1
   rw[ew] at h
   exact h
  have hl1S:S1 lid:=(hS1 _).2 (.inr rfl)
  have SB1:SrcB bs ac cc id Y S1 A1 B:=SB0.w w01 (fun i hi e=>hYl i hi e) (by obtain⟨q,h1,h2⟩:=SB0.src;exact⟨q,h1,h2.mv ((w01 id SB0.sid).2 hid)⟩)
  have E1:=E0.w w01 (fun i hi=>.inl (.inr hi))
  have hL1:Has3 S1 A1 lid 0 [.int .i64 (left-1)]:=⟨hl1S,_,hlm1,fun i v hv=>by rw[Nat.zero_add];exact hv⟩
  refine KW.tyes U U (by decide) ?_
  repeat first | refine KW.tT U U U ?_ | refine KW.tF U U U ?_
  refine KW.cT U U (by first | (simp;done) | decide) ?_
  ·have SX:=SB1
   have EX:=E1
   have hlSX:=hl1S
   have hlmX:=hlm1
   refine KW.callW (W:=fun i=>i=id) (fun i hi=>by subst hi;exact SX.sid) U U U U U (pickB (n:=N) SX (by omega) (by omega)) (fun v H7 S7 n7 st7 w7 hv7=>?_)
   obtain⟨z7,hz7,rfl,src7⟩:=hv7
   have hz7:=hz7 (by omega)
   have E7:=EX.w st7 (fun i hi=>.inl (.inl hi))
   have hlm7:H7.m lid=some ⟨2,true,[.int .i64 (left-1)]⟩:=((st7 lid hlSX).2 (fun e=>hid e.symm)).trans hlmX
   refine KW.callE U U U U U (l02Leaf (z7:Int)) (fun _ _=>?_)
   refine KW.retW U U U U (fun H9 g=>by have:=(g.vars 0 _ rfl).2.1;have:=g.n_;omega) (fun i h1 h2=>E7.old i h1 h2) (fun H9 g=>?_)
   obtain⟨q7,u7,src7⟩:=src7
   exact⟨.mk z7 0 [],_,rfl,rg_leaf _,gf_leaf (Int.natCast_nonneg _) hz7 _,⟨q7,by simp only[scG];omega,src7.mv (g.froz id (st7 id SX.sid).1).2⟩,left-1,(g.froz lid (st7 lid hlSX).1).2.trans hlm7,by simp only[lcG];omega,by omega⟩
 | succ d ih=>
  intro S H0 B left hd hsrc hB hlS hlm hlb
  have hsc:4≤scG d:=by cases d<;>simp only[scG]<;>omega
  simp only[scG,lcG] at hB hlb
  refine SpecW.of0 Tryz.func264 rfl (by kernel_rfl) rfl (fun H hfin hfz=>?_)
  have SB0:SrcB bs ac cc id Y (Low H.n) H B:=hsrc.s (fun i hi=>hfz i hi) (Nat.le_refl _)
  have hlL:lid<H.n:=(hfz lid hlS).1
  have hlm0:H.m lid=some ⟨2,true,[.int .i64 left]⟩:=(hfz lid hlS).2.trans hlm
  have hL:Has3 (Low H.n) H lid 0 [.int .i64 left]:=⟨hlL,_,hlm0,fun i v hv=>by rw[Nat.zero_add];exact hv⟩
  have E0:GwE H (fun i=>i=id∨i=lid) (Low H.n) H:=⟨fun i hi=>by rcases hi with h | h;rw[h];exact SB0.sid;rw[h];exact hlL,fun i h _=>⟨h,rfl⟩⟩
  have ew:IntKind.i64.wrap (left-1)=left-1:=wr (by omega) (by omega)
  refine KW.ldF 0 hL U U U U U U U U U ?_
  refine KW.thaw lid _ hlL hlm0 ?_
  refine KW.st1 1 U U U U U U U U U U U U (by simp) ?_
  refine KW.freeze 1 rfl (fun A1 S1 hn1 hS1 st1 hm1 hlt1 hno1 hlow1=>?_)
  have w01:StW (fun i=>i=lid) (Low H.n) H S1 A1:=fun i hi=>by
   by_cases e:i=lid
   ·exact⟨(hS1 i).2 (.inr e),fun hh=>absurd e hh⟩
   ·exact⟨(st1.st i ⟨hi,e⟩).1,fun _=>(st1.st i ⟨hi,e⟩).2⟩
  have hlm1:A1.m lid=some ⟨2,true,[.int .i64 (left-1)]⟩:=by
   have h:A1.m lid=some ⟨2,true,[.int .i64 (IntKind.i64.wrap (left-1))]⟩:=hm1
   rw[ew] at h
   exact h
  have hl1S:S1 lid:=(hS1 _).2 (.inr rfl)
  have SB1:SrcB bs ac cc id Y S1 A1 B:=SB0.w w01 (fun i hi e=>hYl i hi e) (by obtain⟨q,h1,h2⟩:=SB0.src;exact⟨q,h1,h2.mv ((w01 id SB0.sid).2 hid)⟩)
  have E1:=E0.w w01 (fun i hi=>.inl (.inr hi))
  have hL1:Has3 S1 A1 lid 0 [.int .i64 (left-1)]:=⟨hl1S,_,hlm1,fun i v hv=>by rw[Nat.zero_add];exact hv⟩
  refine KW.tno U U (by omega) ?_
  refine KW.ldF 0 hL1 U U U U U U U U U ?_
  refine KW.tst U U (fun k1=>?_) (fun k1=>?_)
  ·repeat first | refine KW.tT U U U ?_ | refine KW.tF U U U ?_
   refine KW.cT U U (by first | (simp;done) | decide) ?_
   have SX:=SB1
   have EX:=E1
   have hlSX:=hl1S
   have hlmX:=hlm1
   refine KW.callW (W:=fun i=>i=id) (fun i hi=>by subst hi;exact SX.sid) U U U U U (pickB (n:=N) SX (by omega) (by omega)) (fun v H7 S7 n7 st7 w7 hv7=>?_)
   obtain⟨z7,hz7,rfl,src7⟩:=hv7
   have hz7:=hz7 (by omega)
   have E7:=EX.w st7 (fun i hi=>.inl (.inl hi))
   have hlm7:H7.m lid=some ⟨2,true,[.int .i64 (left-1)]⟩:=((st7 lid hlSX).2 (fun e=>hid e.symm)).trans hlmX
   refine KW.callE U U U U U (l02Leaf (z7:Int)) (fun _ _=>?_)
   refine KW.retW U U U U (fun H9 g=>by have:=(g.vars 0 _ rfl).2.1;have:=g.n_;omega) (fun i h1 h2=>E7.old i h1 h2) (fun H9 g=>?_)
   obtain⟨q7,u7,src7⟩:=src7
   exact⟨.mk z7 0 [],_,rfl,rg_leaf _,gf_leaf (Int.natCast_nonneg _) hz7 _,⟨q7,by simp only[scG];omega,src7.mv (g.froz id (st7 id SX.sid).1).2⟩,left-1,(g.froz lid (st7 lid hlSX).1).2.trans hlm7,by simp only[lcG];omega,by omega⟩
  refine KW.callW (W:=fun i=>i=id) (fun i hi=>by subst hi;exact SB1.sid) U U U U U (oneB (n:=3) SB1 (by omega) (by omega)) (fun v H2 S2 n2 st2 w2 hv2=>?_)
  obtain⟨b2,rfl,src2⟩:=hv2
  have SB2:=SB1.w1 st2 src2
  have E2:=E1.w st2 (fun i hi=>.inl (.inl hi))
  have hl2S:=(st2 lid hl1S).1
  have hlm2:H2.m lid=some ⟨2,true,[.int .i64 (left-1)]⟩:=((st2 lid hl1S).2 (fun e=>hid e.symm)).trans hlm1
  refine KW.cndB U U (fun k2=>?_) (fun k2=>?_)
  ·have SX:=SB2
   have EX:=E2
   have hlSX:=hl2S
   have hlmX:=hlm2
   refine KW.callW (W:=fun i=>i=id) (fun i hi=>by subst hi;exact SX.sid) U U U U U (pickB (n:=N) SX (by omega) (by omega)) (fun v H7 S7 n7 st7 w7 hv7=>?_)
   obtain⟨z7,hz7,rfl,src7⟩:=hv7
   have hz7:=hz7 (by omega)
   have E7:=EX.w st7 (fun i hi=>.inl (.inl hi))
   have hlm7:H7.m lid=some ⟨2,true,[.int .i64 (left-1)]⟩:=((st7 lid hlSX).2 (fun e=>hid e.symm)).trans hlmX
   refine KW.callE U U U U U (l02Leaf (z7:Int)) (fun _ _=>?_)
   refine KW.retW U U U U (fun H9 g=>by have:=(g.vars 0 _ rfl).2.1;have:=g.n_;omega) (fun i h1 h2=>E7.old i h1 h2) (fun H9 g=>?_)
   obtain⟨q7,u7,src7⟩:=src7
   exact⟨.mk z7 0 [],_,rfl,rg_leaf _,gf_leaf (Int.natCast_nonneg _) hz7 _,⟨q7,by simp only[scG];omega,src7.mv (g.froz id (st7 id SX.sid).1).2⟩,left-1,(g.froz lid (st7 lid hlSX).1).2.trans hlm7,by simp only[lcG];omega,by omega⟩
  refine KW.litS0 U U U U U U U U U U ?_
  refine KW.callW (W:=fun i=>i=id) (fun i hi=>by subst hi;exact SB2.sid) U U U U U (pickB (n:=4) SB2 (by omega) (by omega)) (fun v H3 S3 n3 st3 w3 hv3=>?_)
  obtain⟨z3,hz3,rfl,src3⟩:=hv3
  have hz3:=hz3 (by omega)
  have SB3:=SB2.w1 st3 src3
  have E3:=E2.w st3 (fun i hi=>.inl (.inl hi))
  have hl3S:=(st3 lid hl2S).1
  have hlm3:H3.m lid=some ⟨2,true,[.int .i64 (left-1)]⟩:=((st3 lid hl2S).2 (fun e=>hid e.symm)).trans hlm2
  have e1z:IntKind.i64.wrap (1+(z3:Int))=((1+z3:Nat):Int):=by rw[wr (by omega) (by omega)];omega
  have hidL:id<H.n:=SB0.sid
  refine KW.lpM U U (fun s:GrS=>[(0,.pointer (some ⟨id,0,none⟩)),(1,.int .i64 N),(2,.int .i64 (d+1:Nat)),(3,.pointer (some ⟨lid,0,none⟩)),(8,.pointer (some ⟨H.n,0,some 0⟩)),(9,.slice (some ⟨s.o,0,some 3⟩) s.G.length s.G.length),(10,.int .i64 s.m)]) (fun s=>s.S) (fun s=>s.A) (fun s=>[(H.n,⟨157,true,[.int .i64 0,.int .i64 0,.slice none 0 0]⟩),(s.o,⟨157,true,s.cs⟩)]) (fun s=>GrI N d bs ac cc id lid Y B left H s) (fun s=>s.m) (⟨1+z3,[],S3,H3,fun _=>False,_,[],left-1⟩) (⟨by simp only[List.length_nil];omega,by simp only[List.length_nil];omega,SB3.s (fun i hi=>⟨hi,rfl⟩) (by simp only[List.length_nil];omega),E3,hl3S,hlm3,by simp only[List.length_nil];omega,by simp only;omega,Cl.nil _ _ _ _,rfl,fun _ h=>h.elim,fun g hg=>by cases hg⟩) ⟨rfl,rfl,rfl,rfl,rfl,rfl,congrArg (Value.int .i64) e1z,trivial⟩ U U (rfl) (fun s hi bE n=>?_)
  obtain⟨m,G,S4,A4,V,o,cs,lf⟩:=s
  refine KW.fact (p:=H.n<n) (fun H1 g=>(g.vars 0 _ rfl).2.1) (fun hfn=>?_)
  obtain⟨ile,ige,SB4,E4,l4S,lm4,b41,b42,cl4,cl3,hV,gf⟩:=hi
  simp only at ile ige SB4 E4 l4S lm4 b41 b42 cl4 cl3 hV gf
  have hmul:G.length*scG d≤4*scG d:=Nat.mul_le_mul_right _ (by omega)
  have hmul2:G.length*lcG d≤4*lcG d:=Nat.mul_le_mul_right _ (by omega)
  have hVW:∀i,V i→¬(i=id∨i=lid):=fun i hi hh=>by have:=(hV i hi).2;rcases hh with h | h<;>omega
  refine KW.cnd U U (fun k4=>?_) (fun k4=>?_)
  ·have k4:(m:Int)>0:=k4
   have hG3:(G.length+1)*scG d=G.length*scG d+scG d:=Nat.succ_mul _ _
   have hG4:(G.length+1)*lcG d=G.length*lcG d+lcG d:=Nat.succ_mul _ _
   have hG5:(G.length+1)*scG d≤4*scG d:=Nat.mul_le_mul_right _ (by omega)
   have hG6:(G.length+1)*lcG d≤4*lcG d:=Nat.mul_le_mul_right _ (by omega)
   have ed:IntKind.i64.wrap (((d+1:Nat):Int)-1)=(d:Int):=by rw[wr (by omega) (by omega)];omega
   have key:=ih (S:=S4) (H0:=A4) (B:=B+4+G.length*scG d) (left:=lf) (by omega) SB4 (by omega) l4S lm4 ⟨by omega,b42⟩
   rw[← ed] at key
   refine KW.callW (W:=fun i=>i=id∨i=lid) (fun i hi=>E4.wid i hi) U U U U U key (fun v H5 S5 n5 st5 w5 hv5=>?_)
   obtain⟨g5,cs5,rfl,hR5,hg5,src5,l5,hlm5,b51,b52⟩:=hv5
   obtain⟨ag,cg,rfl,_⟩:=hR5.form
   refine KW.litS1 U U U U U U U U U U U U ?_
   refine KW.appTS (m:=1) (ys:=[.int .i64 g5.h,.int .i64 g5.l,.slice ag g5.ks.length cg]) 1 U U U U U U U U (by decide) rfl (fun H1 g=>acells_seg (g.blk (j:=2) rfl).1 (by show 0+1*3≤3;decide)) (by show 0+G.length*3≤cs.length;omega) rfl (by decide) (by show(G.length+1)*40≤_;omega) (by show G.length+1≤_;omega) ?_
   have clm:Cl (KG d) (fun i=>V i∨New n H5.n i) H5 G cs:=cl4.mv (fun i hi=>(st5 i (hV i hi).1).2 (hVW i hi)) (fun i hi=>.inl hi)
   have cln:=clm.snoc (y:=g5) ((KG d).more (fun i hi=>.inr hi) hR5)
   have inv5:∀o9,GrI N d bs ac cc id lid Y B left H ⟨m-1,G++[g5],S5,H5,fun i=>V i∨New n H5.n i,o9,(cs.drop 0).take (G.length*3)++([.int .i64 g5.h,.int .i64 g5.l,.slice ag g5.ks.length cg]:List Value),l5⟩:=fun o9=>by
    refine⟨by simp only[List.length_append,List.length_singleton];omega,by simp only[List.length_append,List.length_singleton];omega,?_,E4.w st5 (fun i hi=>.inl hi),(st5 lid l4S).1,hlm5,?_,b52,cln,?_,fun i hi=>?_,fun g hg=>?_⟩
    ·refine SB4.w st5 (fun i hi hh=>hh.elim (SB4.y i hi).2 (hYl i hi)) ?_
     obtain⟨q,u,r⟩:=src5
     exact⟨q,by simp only[List.length_append,List.length_singleton];omega,r⟩
    ·simp only[List.length_append,List.length_singleton];omega
    ·simp only[List.length_append,List.length_singleton,List.length_take,List.length_drop,List.length_cons,List.length_nil];omega
    ·rcases hi with hi | hi
     ·exact⟨(st5 i (hV i hi).1).1,(hV i hi).2⟩
     ·exact⟨w5 i hi,by have:=hi.1;omega⟩
    ·rcases List.mem_append.1 hg with hg | hg
     ·exact gf g hg
     ·rw[List.mem_singleton.1 hg];exact hg5
   have em:IntKind.i64.wrap ((m:Int)-1)=((m-1:Nat):Int):=by rw[wr (by omega) (by omega)];omega
   refine KW.nxt U U (fun H' g=>⟨⟨m-1,G++[g5],S5,H5,fun i=>V i∨New n H5.n i,_,(cs.drop 0).take (G.length*3)++([.int .i64 g5.h,.int .i64 g5.l,.slice ag g5.ks.length cg]:List Value),l5⟩,inv5 _,by first | omega | (simp only;omega),⟨rfl,rfl,rfl,rfl,rfl,by simp only[List.length_append,List.length_singleton];rfl,congrArg (Value.int .i64) em,trivial⟩,(g.take 2).eqT rfl⟩)
  ·have k4:¬(m:Int)>0:=k4
   refine KW.callW (W:=fun i=>i=id) (fun i hi=>by subst hi;exact SB4.sid) U U U U U (pickB (n:=(G.length:Int)) SB4 (by omega) (by omega)) (fun v H5 S5 n5 st5 w5 hv5=>?_)
   obtain⟨z5,hz5,rfl,q5,u5,src5⟩:=hv5
   have hz5:=hz5 (by omega)
   have e5:IntKind.i64.wrap (1+(z5:Int))=1+(z5:Int):=wr (by omega) (by omega)
   refine KW.callE U U U U U (l02Gate (IntKind.i64.wrap (1+(z5:Int))) (some ⟨o,0,some 3⟩) G.length G.length) (fun _ _=>?_)
   refine KW.freeze 1 rfl (fun A6 S6 hn6 hS6 st6 hm6 hlt6 hno6 hlow6=>?_)
   have E5:=E4.w st5 (fun i hi=>.inl (.inl hi))
   have E6:=E5.s st6.st
   have ogeH:H.n≤o:=by
    rcases Nat.lt_or_ge o H.n with h | h
    ·by_cases e:o=id∨o=lid
     ·exact absurd (E5.wid o e) hno6
     ·exact absurd (E5.old o h e).1 hno6
    ·exact h
   refine KW.retW U U U U (fun H9 g=>by have:=(g.vars 0 _ rfl).2.1;have:=g.n_;omega) (fun i h1 h2=>E6.old i h1 h2) (fun H9 g=>?_)
   have fz:∀i,S4 i→i≠id→H9.m i=A4.m i∧i<H9.n:=fun i hi he=>by
    have h1:=st5 i hi
    have h2:=st6.st i h1.1
    have h3:=g.froz i h2.1
    have:=g.n_
    exact⟨h3.2.trans (h2.2.trans (h1.2 he)),by omega⟩
   have ho9:=g.froz o ((hS6 o).2 (.inr rfl))
   have hn9:=g.n_
   refine⟨.mk (-1) (IntKind.i64.wrap (1+(z5:Int))) G,_,rfl,⟨_,rfl,?_⟩,.inr ⟨fun h=>by have h:G=[]:=h;rw[h] at ige;simp at ige;omega,rfl,by show 1≤IntKind.i64.wrap _;rw[e5];omega,by show IntKind.i64.wrap _≤(G.length:Int);rw[e5];omega,by show G.length≤4;omega,gf⟩,⟨q5,by simp only[scG];omega,?_⟩,lf,?_,by simp only[lcG];omega,b42⟩
   ·have h1:(KG d).Sl (New H.n H9.n) H9 (.slice (some ⟨o,0,some 3⟩) G.length G.length) G:=Cl.sl (cl4.mv (fun i hi=>(fz i (hV i hi).1 (fun e=>hVW i hi (.inl e))).1) (fun i hi=>hi)) ⟨ogeH,by omega⟩ (ho9.2.trans hm6) rfl (fun i hi=>⟨(hV i hi).2,(fz i (hV i hi).1 (fun e=>hVW i hi (.inl e))).2⟩) (Nat.le_refl _)
    exact h1
   ·exact src5.mv ((g.froz id (st6.st id (st5 id SB4.sid).1).1).2.trans (st6.st id (st5 id SB4.sid).1).2)
   ·exact(fz lid l4S (fun e=>hid e.symm)).1.trans lm4
theorem l02Drawn (hN:1≤N∧N≤7) {S:Ids} {H0:AH} {B:Nat} (hsrc:SrcB bs ac cc id Y S H0 B) (hB:B≤700000):
  SpecW Tryz.prog S H0 (fun i=>i=id) 248 [.pointer (some ⟨id,0,none⟩),.int .i64 N,.int .i64 8] (fun m v H1=>∃(g:Gt) (cs:List Value),v=.agg cs.toArray∧RG 4 (New m H1.n) H1 g cs∧GF N 4 g∧∃at_,at_≤B+2000∧Src ac bs.length cc H1 id at_):=by
 refine SpecW.of0 Tryz.func248 rfl (by kernel_rfl) rfl (fun H hfin hfz=>?_)
 have SB0:SrcB bs ac cc id Y (Low H.n) H B:=hsrc.s (fun i hi=>hfz i hi) (Nat.le_refl _)
 have E0:GwE H (fun i=>i=id) (Low H.n) H:=⟨fun i hi=>by rw[hi];exact SB0.sid,fun i h _=>⟨h,rfl⟩⟩
 have hidL:id<H.n:=SB0.sid
 refine KW.callWF 1 U U U U U U (fun A9 S9 hn9 hS9 t9 hm9 ho9 hno9 hlt9=>?_)
 have SB9:=SB0.s (B':=B) t9.st (Nat.le_refl _)
 have E9:=E0.s t9.st
 have hYL:∀i,Y i→i<H.n:=fun i hi=>(SB0.y i hi).1
 refine⟨fun i=>i=id∨i=H.n+1,_,fun i hi=>by rcases hi with h | h;rw[h];exact SB9.sid;rw[h];exact(hS9 _).2 (.inr rfl),l02Grown (lid:=H.n+1) hN (by omega) (fun i hi=>by have:=hYL i hi;omega) 4 (B:=B) (left:=8) (by omega) SB9 (by simp only[scG];omega) ((hS9 _).2 (.inr rfl)) hm9 (by simp only[lcG];omega),fun v H1 S1 m1 t1 w1 hv=>?_⟩
 obtain⟨g,cs,rfl,hR,hg,src1,_⟩:=hv
 obtain⟨ag,cg,rfl,_⟩:=hR.form
 have E1:=E9.w t1 (fun i hi=>by rcases hi with h | h;exact .inl h;exact .inr (by omega))
 have SB1:=SB9.w t1 (fun i hi hh=>by rcases hh with h | h;exact(SB9.y i hi).2 h;have:=hYL i hi;omega) src1
 have hR1:RG 4 S1 H1 g _:=RG.more 4 (fun i hi=>w1 i hi) hR
 refine KW.callVp1 U U U U U (fun H1 g _=>l02Ok (S:=Low H1.n) (H0:=H1) hN (d:=4) (by omega) hg (On.R (d:=KG 4) hR1) (g.has (j:=1) U U)) (fun v _ _ hv=>?_)
 obtain⟨b,rfl⟩:=hv
 obtain⟨q1,u1,src1⟩:=src1
 refine KW.cndB U U (fun k1=>?_) (fun k1=>?_)
 ·refine KW.callE U U U U U (l02Leaf 0) (fun _ _=>?_)
  refine KW.retW U U U U (fun H9 g=>by have:=(g.vars 0 _ rfl).2.1;have:=g.n_;omega) (fun i h1 h2=>E1.old i h1 h2) (fun H9 g=>?_)
  exact⟨.mk 0 0 [],_,rfl,rg_leaf _,gf_leaf (Int.le_refl 0) (by omega) _,q1,by simp only[scG] at u1;omega,src1.mv (g.froz id SB1.sid).2⟩
 ·refine KW.retW U U U U (fun H9 g=>by have:=(g.vars 0 _ rfl).2.1;have:=g.n_;omega) (fun i h1 h2=>E1.old i h1 h2) (fun H9 gg=>?_)
  refine⟨g,_,rfl,?_,hg,q1,by simp only[scG] at u1;omega,src1.mv (gg.froz id SB1.sid).2⟩
  refine RG.more 4 (fun i hi=>⟨by have:=hi.1;omega,by have:=(gg.froz i (w1 i hi)).1;have:=gg.n_;omega⟩) (RG.same 4 (fun i hi=>(gg.froz i (w1 i hi)).2) hR)
end
end Go.Proofs.YtlapbbffoapleaaGreat.Am
namespace Go.Proofs.YtlapbbffoapleaaGreat.Pl
def setF (E:List (List Int)) (P:List Nat) (k:Nat):Nat→List Int
 | 0=>List.replicate k 0
 | n+1=>(setF E P k n).set (P.getD n 0) ((E.getD n []).getD k 0)
theorem setF_len {E:List (List Int)} {P:List Nat} {k:Nat}:∀n,(setF E P k n).length=k
 | 0=>by simp[setF]
 | n+1=>by simp[setF,setF_len n]
theorem sol_none {p:Int} {k:Nat} {W:List (List Int)} {x:List Int} (hf:Fer p) (hW:Rect p (k+1) W) (hx:x.length=k) (h:AllS p k W x):k∉(ech p W (k+1)).2:=by
 refine(solv_iff hf hW).1 fun i r hi hr=>?_
 have hp:=hf.1
 have sh:=ech_shape hf hW k
 have h1:=sat_iff.1 ((ech_sat hf hW k).2 h i r hr)
 rw[dF_zero x 0 (fun j _ hj=>sh.zero i r hi hr j (by omega))] at h1
 have h2:=sh.rect.el (by omega) hr k
 have h3:r.getD k 0%p=0:=by
  have:=Int.dvd_of_emod_eq_zero h1
  exact Int.emod_eq_zero_of_dvd (by have h4:=Int.dvd_neg.2 this;rwa [show -(0-r.getD k 0)=r.getD k 0 by omega] at h4)
 rwa [small_mod h2] at h3
end Go.Proofs.YtlapbbffoapleaaGreat.Pl
namespace Go.Proofs.YtlapbbffoapleaaGreat.Am
open Go Go.RowKit
def Ap (S:Ids) (T:List Var) (e:Env) (j:Nat) (u:Tmp):Prop:=(∃i b id k s,e u=.pointer (some ⟨id,k,s⟩)∧T[i]?=some (id,b)∧i≠j)∨∃id k s,e u=.pointer (some ⟨id,k,s⟩)∧S id
def AllL (S:Ids) (T:List Var) (e:Env) (j:Nat):List Tmp→Prop
 | []=>True
 | u :: L=>Ap S T e j u∧AllL S T e j L
section
variable {P:Program} {S:Ids} {H0:AH} {Q:PostC} {k k1 k2:List It} {e e1 e2:Env} {T T1 T2:List Var} {n n1 n2:Nat} {l1 r1 l2 r2:List Nat} {d1 d2:Tmp}
theorem AllL.out {L:List Tmp} {j:Nat} {H H1:AH} {v0:Var} (g:Good S H0 T n H) (hj:T[j]?=some v0∨j=T.length) (hL:AllL S T e j L) (hH:∀id,id<n→(∀v,T[j]?=some v→id≠v.1)→H1.m id=H.m id):∀t∈L,∀id k s,e t=.pointer (some ⟨id,k,s⟩)→H1.m id=H.m id:=by
 induction L with
 | nil=>intro t ht;cases ht
 | cons u L ih=>
  intro t ht id k s he
  rcases List.mem_cons.1 ht with rfl | ht
  ·rcases hL.1 with⟨i,b,id',k',s',h1,h2,h3⟩ | ⟨id',k',s',h1,h2⟩
   ·rw[h1] at he
    cases he
    exact hH id (g.vars i _ h2).2.1 (fun v hv heq=>h3 (g.dist i j _ v h2 hv heq))
   ·rw[h1] at he
    cases he
    exact hH id (g.froz id h2).1 (fun v hv heq=>(g.vars j v hv).2.2 (heq ▸ h2))
  ·exact ih hL.2 t ht id k s he
theorem KEvt.heapL {o:Oper} {dr:Bool} {c:Cf} {L:List Tmp} (v:Value) (T':List Var) (n':Nat) (hc:opClass o.op=1∨opClass o.op=2) (hp:∀H,Good S H0 c.T c.n H→∃tag H1,hop P tag o.op c.e H=some (v,H1)∧Good S H0 T' n' H1∧∀t∈L,∀id k s,c.e t=.pointer (some ⟨id,k,s⟩)→H1.m id=H.m id) (hk:KW P S H0 Q n' T' c.k (put c.e o.dst v)):KEvt P S H0 Q (.opL o dr L) c:=by
 intro H g
 obtain⟨tag,H1,h1,g1,h2⟩:=hp H g
 refine⟨0,v,H1,?_,h2,hk H1 g1⟩
 unfold evOp
 split
 ·rename_i hop;rw[hop] at hc;simp[opClass] at hc
 ·split
  ·rename_i h0;omega
  ·exact⟨tag,h1⟩
theorem KW.stZ {o:Oper} {dr:Bool} {L:List Tmp} {t:TypeId} {x y:Operand} {id kk:Nat} {sp:Option Nat} {b b':Blk} (j:Nat) (h:Go1 P k e T n (.opL o dr L) k1 e1 T1 n1 l1 r1) (hlr:l1=r1) (ho:o.op=.store t x y) (hd:o.dst=none) (hx:ev e1 x=.pointer (some ⟨id,kk,sp⟩)) (hT:T1[j]?=some (id,b)) (hs:bstore P b t kk (ev e1 y)=some b') (hL:AllL S T1 e1 j L)
  (hk:KW P S H0 Q n1 (T1.set j (id,b')) k1 e1):KW P S H0 Q n T k e:=by
 refine KW.go h hlr (KEvt.heapL (c:=⟨_,_,_,_,_,_⟩) undef (T1.set j (id,b')) n1 (by rw[ho];exact .inr rfl) (fun H g=>⟨none,H.set id b',?_,g.set hT _,AllL.out g (.inl hT) hL (fun i hi hne=>?_)⟩) (by rw[hd];exact hk))
 ·rw[ho]
  simp only[hop,hx,bstore_ok (g.blk hT).1 hs]
 ·have:=hne _ hT
  simp[AH.set,this]
theorem KW.appNL {o:Oper} {dr:Bool} {L:List Tmp} {t el:TypeId} {x y:Operand} {inf:TypeInfo} {m:Nat} {ys:List Value} (h:Go1 P k e T n (.opL o dr L) k1 e1 T1 n1 l1 r1) (hlr:l1=r1) (ho:o.op=.call {callee:=.builtin .append,args:=#[x,y],argTypes:=#[t,t]}) (hd:o.dst=some d1) (hx:ev e1 x=.slice none 0 0)
  (hu:P.underlying t=some (.slice el)) (hi:P.info? el=some inf) (hs:inf.size=1) (hzo:zeroOkL P el=true) (hy:∀H,Good S H0 T1 n1 H→acells H (ev e1 y) 1=some (m,ys)) (hone:∀v∈ys,v.oneCell'=true) (hm:m≠0) (hb:m*inf.bytes≤140737488355328) (hml:m≤9223372036854775807) (hL:AllL S T1 e1 T1.length L)
  (hk:KW P S H0 Q (n1+1) (T1++[(n1,⟨el,true,ys⟩)]) k1 (put1 e1 d1 (.slice (some ⟨n1,0,some 1⟩) m m))):KW P S H0 Q n T k e:=by
 refine KW.go h hlr (KEvt.heapL (c:=⟨_,_,_,_,_,_⟩) _ _ _ (by rw[ho];exact .inr rfl) (fun H g=>⟨none,_,?_,g.push _,AllL.out (v0:=(0,⟨0,true,[]⟩)) g (.inr rfl) hL (fun i hi _=>?_)⟩) (by rw[hd,put1_eq];exact hk))
 ·rw[ho]
  have h1:=hy H g
  simp only[hop,aapp,aappend,hu,hi,hs,hx,h1]
  rw[if_pos trivial,if_pos ⟨zeroOkL_ok hzo,by omega,List.all_eq_true.2 hone⟩,if_neg hm,if_pos ⟨hml,hb⟩,g.n_]
 ·have hn:=g.n_
  have hi:i<n1:=hi
  have:¬i=H.n:=by omega
  simp[AH.push,this]
theorem KW.appTL {o:Oper} {dr:Bool} {L:List Tmp} {t el:TypeId} {x y:Operand} {inf:TypeInfo} {m len c id:Nat} {xs ys:List Value} (j:Nat) (h:Go1 P k e T n (.opL o dr L) k1 e1 T1 n1 l1 r1) (hlr:l1=r1) (ho:o.op=.call {callee:=.builtin .append,args:=#[x,y],argTypes:=#[t,t]}) (hd:o.dst=some d1) (hx:ev e1 x=.slice (some ⟨id,0,some 1⟩) len c) (hT:T1[j]?=some (id,⟨el,true,xs⟩))
  (hu:P.underlying t=some (.slice el)) (hi:P.info? el=some inf) (hs:inf.size=1) (hzo:zeroOkL P el=true) (hy:∀H,Good S H0 T1 n1 H→acells H (ev e1 y) 1=some (m,ys)) (hlen:xs.length=len) (hone:∀v∈ys,v.oneCell'=true) (hm:m≠0) (hb:(len+m)*inf.bytes≤140737488355328) (hml:len+m≤9223372036854775807) (hL:AllL S T1 e1 j L)
  (hk:KW P S H0 Q (n1+1) (T1.set j (n1,⟨el,true,xs++ys⟩)) k1 (put1 e1 d1 (.slice (some ⟨n1,0,some 1⟩) (len+m) (len+m)))):KW P S H0 Q n T k e:=by
 refine KW.go h hlr (KEvt.heapL (c:=⟨_,_,_,_,_,_⟩) _ _ _ (by rw[ho];exact .inr rfl) (fun H g=>⟨none,_,?_,g.move hT _,AllL.out g (.inl hT) hL (fun i hi hne=>?_)⟩) (by rw[hd,put1_eq];exact hk))
 ·rw[ho]
  have h1:=hy H g
  have h2:=(g.blk hT).1
  simp only[hop,aapp,aappend,hu,hi,hs,hx,h1,h2]
  rw[if_pos trivial,if_pos ⟨zeroOkL_ok hzo,by omega,List.all_eq_true.2 hone⟩,if_neg hm,if_pos ⟨trivial,trivial,trivial,by omega,hml,hb⟩]
  simp only[List.drop_zero,Nat.mul_one,AH.kill,g.n_]
  rw[List.take_of_length_le (by omega)]
 ·have hn:=g.n_
  have hi:i<n1:=hi
  have h3:¬i=H.n:=by omega
  have h4:=hne _ hT
  simp[AH.push,AH.kill,h3,h4]
theorem KW.app1L (j m0:Nat) {o o':Oper} {dr dr':Bool} {L:List Tmp} {t el t':TypeId} {m:Nat} {parts:Array (Nat × Operand)} {inf:TypeInfo} {z:Value} {x y:Operand} {len c id:Nat} {xs:List Value} {v:Value} (h:Go1 P k e T n (.op o dr) k1 e1 T1 n1 l1 r1) (hlr:l1=r1) (ho:o.op=.buildSlice t m parts) (hd:o.dst=some d1)
  (hu:P.underlying t=some (.slice el)) (hi:P.info? el=some inf) (hs:inf.size=1) (hz:inf.zero=some z) (hz1:z.cells=#[z]) (hzo:zeroOkL P el=true) (hp:(parts.toList.map fun p=>(p.1,ev e1 p.2))=[(0,v)]) (hm:m=1) (hv:v.cells=#[v]) (ho1:v.oneCell'=true)
  (h':Go1 P k1 (put1 e1 d1 (.slice (some ⟨n1,0,some 1⟩) 1 1)) (T1++[(n1,⟨el,true,[v]⟩)]) (n1+1) (.opL o' dr' L) k2 e2 T2 n2 l2 r2) (hlr':l2=r2) (ho':o'.op=.call {callee:=.builtin .append,args:=#[x,y],argTypes:=#[t',t']}) (hd':o'.dst=some d2) (hx':ev e2 x=.slice (some ⟨id,0,some 1⟩) len c) (hT:T2[j]?=some (id,⟨el,true,xs⟩))
  (hu':P.underlying t'=some (.slice el)) (hy':ev e2 y=.slice (some ⟨n1,0,some 1⟩) 1 1) (hT2:T2[m0]?=some (n1,⟨el,true,[v]⟩)) (hlen:xs.length=len) (hb:(len+1)*inf.bytes≤140737488355328) (hml:len+1≤9223372036854775807) (hL:AllL S T2 e2 j L)
  (hk:KW P S H0 Q (n2+1) ((T2.set j (n2,⟨el,true,xs++[v]⟩)).take m0) k2 (put1 e2 d2 (.slice (some ⟨n2,0,some 1⟩) (len+1) (len+1)))):KW P S H0 Q n T k e:=
 KW.lit h hlr ho hd hu hi hs hz hz1 hzo [v] (by rw[hp];rfl) hm (fun u hu=>by rw[List.mem_singleton.1 hu];exact hv) rfl
  (KW.appTL (ys:=[v]) (m:=1) j h' hlr' ho' hd' hx' hT hu' hi hs hzo (fun H g=>by rw[hy'];exact acells_T (g.blk hT2).1 U U) hlen (fun u hu=>by rw[List.mem_singleton.1 hu];exact ho1) (by decide) hb hml hL (KW.take m0 hk))
theorem KW.app0L {o o':Oper} {dr dr':Bool} {L:List Tmp} {t el t':TypeId} {m:Nat} {parts:Array (Nat × Operand)} {inf:TypeInfo} {z:Value} {x y:Operand} {v:Value} (m0:Nat) (h:Go1 P k e T n (.op o dr) k1 e1 T1 n1 l1 r1) (hlr:l1=r1) (ho:o.op=.buildSlice t m parts) (hd:o.dst=some d1)
  (hu:P.underlying t=some (.slice el)) (hi:P.info? el=some inf) (hs:inf.size=1) (hz:inf.zero=some z) (hz1:z.cells=#[z]) (hzo:zeroOkL P el=true) (hp:(parts.toList.map fun p=>(p.1,ev e1 p.2))=[(0,v)]) (hm:m=1) (hv:v.cells=#[v]) (ho1:v.oneCell'=true)
  (h':Go1 P k1 (put1 e1 d1 (.slice (some ⟨n1,0,some 1⟩) 1 1)) (T1++[(n1,⟨el,true,[v]⟩)]) (n1+1) (.opL o' dr' L) k2 e2 T2 n2 l2 r2) (hlr':l2=r2) (ho':o'.op=.call {callee:=.builtin .append,args:=#[x,y],argTypes:=#[t',t']}) (hd':o'.dst=some d2) (hx':ev e2 x=.slice none 0 0)
  (hu':P.underlying t'=some (.slice el)) (hy':ev e2 y=.slice (some ⟨n1,0,some 1⟩) 1 1) (hT2:T2[m0]?=some (n1,⟨el,true,[v]⟩)) (hb:inf.bytes≤140737488355328) (hL:AllL S T2 e2 T2.length L)
  (hk:KW P S H0 Q (n2+1) (T2++[(n2,⟨el,true,[v]⟩)]) k2 (put1 e2 d2 (.slice (some ⟨n2,0,some 1⟩) 1 1))):KW P S H0 Q n T k e:=
 KW.lit h hlr ho hd hu hi hs hz hz1 hzo [v] (by rw[hp];rfl) hm (fun u hu=>by rw[List.mem_singleton.1 hu];exact hv) rfl
  (KW.appNL (ys:=[v]) (m:=1) h' hlr' ho' hd' hx' hu' hi hs hzo (fun H g=>by rw[hy'];exact acells_T (g.blk hT2).1 U U) (fun u hu=>by rw[List.mem_singleton.1 hu];exact ho1) (by decide) (by omega) (by decide) hL hk)
end
end Go.Proofs.YtlapbbffoapleaaGreat.Am
namespace Go.Proofs.YtlapbbffoapleaaGreat.Am
open Go Go.RowKit Go.Proofs Go.Proofs.YtlapbbffoapleaaGreat.Pl
theorem built_MatrixW (p:Int) {x c:Int} (h:x=c):Tryz.prog.built 27 [(0,.int .i64 p),(1,.int .i64 x)]=some #[.int .i64 p,.int .i64 c,.slice none 0 0]:=by subst h;exact built_Matrix2 _ _
def SoX (p:Int) (k:Nat) (W:List (List Int)) (n:Nat) (v:Value) (H1:AH):Prop:=∃(a:Option Addr) (m c:Nat),v=.tuple #[.slice a m c,.bool (decide (k∉(ech p W (k+1)).2))]∧(k∉(ech p W (k+1)).2→m=k∧KI.Sl (New n H1.n) H1 (.slice a m c) (setF (ech p W (k+1)).1 (ech p W (k+1)).2 k (ech p W (k+1)).2.length))
section
variable {S:Ids} {H0:AH}
theorem solveX {p:Int} {k:Nat} (hp:PrimeP p) (hk:k≤100) {L:List (List Int)} {vals:List Int} (hLl:L.length≤100) (hL:Rect p k L) (hvl:vals.length=L.length) (hv:∀v∈vals,0≤v∧v<p) {a1 c1 a2 c2} (hs0:KI.sl.Sl S H0 (.slice a1 L.length c1) L) (hv0:KI.Sl S H0 (.slice a2 vals.length c2) vals):
    SpecM Tryz.prog S H0 114 [.agg #[.int .i64 p,.int .i64 k,.slice a1 L.length c1],.slice a2 vals.length c2] (SoX p k (augW L vals)):=by
  refine SpecM.of1L [5] Tryz.func114 rfl (by kernel_rfl) (by kernel_rfl) rfl (fun H _=>?_)
  have hs:=hs0.up (S':=Low H.n) (H':=H)
  have hvs:=hv0.up (S':=Low H.n) (H':=H)
  have hWl:=augW_len (L:=L) (vals:=vals) hvl
  have hWR:=augW_rect hL hv
  have hf:=fer hp
  have ek:IntKind.i64.wrap ((k:Int)+1)=((k+1:Nat):Int):=by rw[wr (by omega) (by omega)];omega
  refine KW.build U U U U U (built_MatrixW _ ek) ?_
  refine KW.lpM U U (fun s:CpS=>[(1,.slice a2 vals.length c2),(2,.pointer (some ⟨H.n,0,some 0⟩)),(6,.pointer (some ⟨H.n+1,0,some 1⟩)),(21,.slice a1 L.length c1),(22,.int .i64 L.length),(23,.int .i64 s.i)]) (fun s=>s.S) (fun s=>s.A) (fun s=>[(H.n,⟨27,true,[.int .i64 p,.int .i64 k,.slice a1 L.length c1]⟩),(H.n+1,⟨27,true,[.int .i64 p,.int .i64 (k+1:Nat),s.l]⟩)]++s.tail) (fun s=>CqI (fun x=>x) (augW L vals) H H (Low H.n) s) (fun s=>L.length-s.i) (⟨0,Low H.n,H,fun _=>False,[],.slice none 0 0,[]⟩) (⟨RwI.start,.inl ⟨rfl,rfl,rfl,rfl⟩⟩) ⟨rfl,rfl,rfl,rfl,rfl,rfl,trivial⟩ U U (rfl) (fun s hi bE n=>?_)
  obtain⟨i,S1,A1,V,cs,l,tail⟩:=s
  obtain⟨hq,hform⟩:=hi
  simp only at hq hform
  haveI:Stp (Low H.n) H S1 A1:=⟨hq.old⟩
  have hle:=hq.le
  have hcl:=hq.b.len
  rw[List.length_map,List.length_take] at hcl
  simp only at hle hcl
  have hs1:=hs.up (S':=S1) (H':=A1)
  have hvs1:=hvs.up (S':=S1) (H':=A1)
  rcases hform with⟨hi0,e1,e2,e3⟩ | ⟨hi0,o,e1,e2⟩
  case' inl=>subst e1 e2 e3
  case' inr=>subst e1 e2
  all_goals
    refine KW.cnd U U (fun j1=>?gin) (fun j1=>?gout)
    case gin=>
      have j1:(i:Int)<(L.length:Int):=j1
      refine KW.getL hs1 U U U U U U U U U U U U U U U U (by omega) (j1) (fun y ay cy hy hsy=>?_)
      have hy:L[i]?=some y:=hy
      have hym:=hL y (List.mem_of_getElem? hy)
      obtain⟨w,hw⟩:∃w,vals[i]?=some w:=⟨vals[i]'(by omega),List.getElem?_eq_getElem (by omega)⟩
      have hWi:=augW_at hy hw
      refine KW.ids (fun hlow hvar=>?_)
      refine KW.fact (fun _ g=>g.nle (H1:=H)) (fun hn0=>?_)
      refine KW.callN1 U U U U U (cloneB (by omega) hsy) (fun v HC SC mC _ _ hv=>?_)
      obtain hv:=hv
      have t1:=(inferInstance:Stp S1 A1 SC HC).st
      have hvs2:=hvs1.up (S':=SC) (H':=HC)
      rcases hv with⟨hy0,rfl⟩ | ⟨o3,rfl,hno3,hmo3⟩
      · refine KW.getI hvs2 U U U U U U U U U U U U U U U U (by omega) (by omega) (fun w2 hw2=>?_)
        have hw2:vals[i]?=some w2:=hw2
        rw[hw] at hw2
        cases hw2
        subst hy0
        have fin:∀(A':AH) (S':Ids) (o9:Nat),(∀id,S' id↔SC id∨id=o9)→St SC HC S' A'→¬SC o9→St S1 A1 S' A'∧(∀id,id=o9→S' id∧H.n≤id∧¬S1 id):=fun A' S' o9 h1 h2 h3=>by
          refine⟨t1.trans h2,fun id e=>?_⟩
          subst e
          refine⟨(h1 _).2 (.inr rfl),?_,fun h=>h3 (t1 _ h).1⟩
          rcases Nat.lt_or_ge id H.n with h | h
          · exact absurd (t1 id (hq.old id h).1).1 h3
          · exact h
        first
          | (refine KW.app0L (v:=.int .i64 w) 3 U U U U U U U U U U U U U U U U U U U U U U (by decide) ⟨.inl ⟨1,_,_,_,_,rfl,rfl,by simp⟩,trivial⟩ ?_
             refine KW.freeze 4 rfl (fun A' S' hnA hSA stA hmA hoA hnS hlow2=>?_)
             obtain⟨f1,f2⟩:=fin A' S' _ hSA stA.st hnS
             refine KW.take 3 ?_
             refine KW.app1 (xs:=cs) (v:=.slice (some ⟨_,0,some 1⟩) 1 1) 2 3 U U U U U U U U U U U U U U U U U U U U U U U (by omega) (by show(_+1)*24≤_;omega) (by omega) ?_
             exact KW.nxt U U (fun H' g=>⟨⟨i+1,S',A',_,_,_,_⟩,⟨hq.nextX (o':=0) f1 f2 hWi (row_ml (xs:=[w]) hmA),.inr ⟨by simp only;omega,_,rfl,rfl⟩⟩,by simp only;omega,⟨rfl,rfl,rfl,rfl,rfl,congrArg (Value.int .i64) (inc64 (by omega)),trivial⟩,g⟩))
          | (refine KW.app0L (v:=.int .i64 w) 2 U U U U U U U U U U U U U U U U U U U U U U (by decide) ⟨.inl ⟨1,_,_,_,_,rfl,rfl,by simp⟩,trivial⟩ ?_
             refine KW.freeze 3 rfl (fun A' S' hnA hSA stA hmA hoA hnS hlow2=>?_)
             obtain⟨f1,f2⟩:=fin A' S' _ hSA stA.st hnS
             refine KW.take 2 ?_
             refine KW.app0 (v:=.slice (some ⟨_,0,some 1⟩) 1 1) 2 U U U U U U U U U U U U U U U U U U U U U U (by decide) ?_
             subst hi0
             exact KW.nxt U U (fun H' g=>⟨⟨1,S',A',_,_,_,_⟩,⟨hq.nextX (o':=0) f1 f2 hWi (row_ml (xs:=[w]) hmA),.inr ⟨by simp only;omega,_,rfl,rfl⟩⟩,by simp only;omega,⟨rfl,rfl,rfl,rfl,rfl,rfl,trivial⟩,g⟩))
      · have hSo3:SC o3:=(inferInstance:On (New _ HC.n) HC SC HC).st o3 hno3 |>.1
        refine KW.thaw o3 _ hSo3 hmo3 ?_
        have t2:St S1 A1 (fun id=>SC id∧id≠o3) HC:=fun id h=>⟨⟨(t1 id h).1,fun e=>by have:=hlow id h;have:=hno3.1;omega⟩,(t1 id h).2⟩
        haveI:On S1 A1 (fun id=>SC id∧id≠o3) HC:=⟨t2⟩
        have hvs2:=hvs1.up (S':=fun id=>SC id∧id≠o3) (H':=HC)
        refine KW.getI hvs2 U U U U U U U U U U U U U U U U (by omega) (by omega) (fun w2 hw2=>?_)
        have hw2:vals[i]?=some w2:=hw2
        rw[hw] at hw2
        cases hw2
        have fin:∀(A':AH) (S':Ids) (o9:Nat),(∀id,S' id↔(SC id∧id≠o3)∨id=o9)→St (fun id=>SC id∧id≠o3) HC S' A'→¬(SC o9∧o9≠o3)→St S1 A1 S' A'∧(∀id,id=o9→S' id∧H.n≤id∧¬S1 id):=fun A' S' o9 h1 h2 h3=>by
          refine⟨t2.trans h2,fun id e=>?_⟩
          subst e
          refine⟨(h1 _).2 (.inr rfl),?_,fun h=>h3 (t2 _ h).1⟩
          rcases Nat.lt_or_ge id H.n with h | h
          · exact absurd (t2 id (hq.old id h).1).1 h3
          · exact h
        have hyw:(y++[w]).length=y.length+1:=by simp
        have hyc:y.map (Value.int .i64)++[.int .i64 w]=(y++[w]).map (Value.int .i64):=by simp
        first
          | (refine KW.app1L (xs:=y.map (Value.int .i64)) (v:=.int .i64 w) 3 4 U U U U U U U U U U U U U U U U U U U U U U U (by simp) (by show(_+1)*8≤_;omega) (by omega) ⟨.inl ⟨1,_,_,_,_,rfl,rfl,by decide⟩,trivial⟩ ?_
             refine KW.freeze 3 rfl (fun A' S' hnA hSA stA hmA hoA hnS hlow2=>?_)
             obtain⟨f1,f2⟩:=fin A' S' _ hSA stA.st hnS
             rw[hyc] at hmA
             rw[← hyw]
             refine KW.app1 (xs:=cs) (v:=.slice (some ⟨_,0,some 1⟩) (y++[w]).length (y++[w]).length) 2 3 U U U U U U U U U U U U U U U U U U U U U U U (by omega) (by show(_+1)*24≤_;omega) (by omega) ?_
             exact KW.nxt U U (fun H' g=>⟨⟨i+1,S',A',_,_,_,_⟩,⟨hq.nextX (o':=0) f1 f2 hWi (row_ml hmA),.inr ⟨by simp only;omega,_,rfl,rfl⟩⟩,by simp only;omega,⟨rfl,rfl,rfl,rfl,rfl,congrArg (Value.int .i64) (inc64 (by omega)),trivial⟩,g⟩))
          | (refine KW.app1L (xs:=y.map (Value.int .i64)) (v:=.int .i64 w) 2 3 U U U U U U U U U U U U U U U U U U U U U U U (by simp) (by show(_+1)*8≤_;omega) (by omega) ⟨.inl ⟨1,_,_,_,_,rfl,rfl,by decide⟩,trivial⟩ ?_
             refine KW.freeze 2 rfl (fun A' S' hnA hSA stA hmA hoA hnS hlow2=>?_)
             obtain⟨f1,f2⟩:=fin A' S' _ hSA stA.st hnS
             rw[hyc] at hmA
             rw[← hyw]
             refine KW.app0 (v:=.slice (some ⟨_,0,some 1⟩) (y++[w]).length (y++[w]).length) 2 U U U U U U U U U U U U U U U U U U U U U U (by decide) ?_
             subst hi0
             exact KW.nxt U U (fun H' g=>⟨⟨1,S',A',_,_,_,_⟩,⟨hq.nextX (o':=0) f1 f2 hWi (row_ml hmA),.inr ⟨by simp only;omega,_,rfl,rfl⟩⟩,by simp only;omega,⟨rfl,rfl,rfl,rfl,rfl,rfl,trivial⟩,g⟩))
    case gout=>
      have j1:¬(i:Int)<(L.length:Int):=j1
      have ei:i=(augW L vals).length:=by omega
      have hb:=hq.b
      simp only at hb
      rw[ei,List.take_of_length_le (Nat.le_refl _),List.map_id'] at hb
      have hBW:B_Int64SS (augW L vals):=rect_sml hWR (by omega) (by omega)
      have sh:=ech_shape hf hWR (k+1)
      have hll:=(ech_ok (p:=p) (by have:=hf.1;omega) hWR (k+1)).2.1
      generalize hW:augW L vals=W at *
      first
        | (subst ei
           refine KW.callNV1 U U U U U (fun H1 g _=>echelon (S:=Low H1.n) (H0:=H1) (k:=k+1) ⟨hp.1,hp.2.1⟩ (by omega) hBW hWR (hb.slV g (j:=2) rfl)) (fun v HE SE mE _ _ hv=>?_))
        | (have hW0:W=[]:=List.eq_nil_of_length_eq_zero (by omega)
           subst hW0
           refine KW.callNV1 U U U U U (fun H1 g _=>echelon (S:=Low H1.n) (H0:=H1) (k:=k+1) ⟨hp.1,hp.2.1⟩ (by omega) hBW hWR (.inl ⟨rfl,none,0,rfl,fun _=>rfl⟩)) (fun v HE SE mE _ _ hv=>?_))
      all_goals
        obtain⟨a3,c3,a4,c4,rfl,hE,hP⟩:=hv
        generalize he:ech p _ (k+1)=ee at *
        obtain⟨E,P⟩:=ee
        simp only at hE hP sh hll
        have hPE:=sh.le
        have hE20:E.length≤100:=by first | omega | (simp only[List.length_nil] at hll;omega)
        refine KW.mk1 U U U U U U U U U U U U (k) U U (by omega) (by show 8*_≤_;omega) ?_
        first
          | (refine KW.lpM U U (fun s:Nat × List Value=>[(2,.pointer (some ⟨H.n,0,some 0⟩)),(9,.pointer (some ⟨HE.n,0,some 3⟩)),(11,.slice (some ⟨HE.n+1,0,some 1⟩) k k),(50,.slice a4 P.length c4),(51,.int .i64 P.length),(52,.int .i64 s.1)]) (fun _=>SE) (fun _=>HE) (fun s=>[(H.n,⟨27,true,[.int .i64 p,.int .i64 k,.slice a1 L.length c1]⟩),(H.n+1,⟨27,true,[.int .i64 p,.int .i64 (k+1:Nat),.slice (some ⟨o,0,some 1⟩) W.length W.length]⟩),(o,⟨24,true,cs⟩),(HE.n,⟨27,true,[.int .i64 p,.int .i64 (k+1:Nat),.slice a3 P.length c3]⟩),(HE.n+1,⟨_,true,s.2⟩)]) (fun s=>s.2.length=k∧s.1≤P.length∧(∀j,j<s.1→∀q,P[j]?=some q→q≠k)∧s.2=(setF E P k s.1).map (Value.int .i64)) (fun s=>P.length-s.1) (0,List.replicate k (.int .i64 0)) ⟨by simp,by simp,fun j hj=>absurd hj (Nat.not_lt_zero _),by simp only[setF,List.map_replicate]⟩ ⟨rfl,rfl,rfl,rfl,rfl,rfl,trivial⟩ U U U (fun s hi bE n=>?_))
          | (refine KW.lpM U U (fun s:Nat × List Value=>[(2,.pointer (some ⟨H.n,0,some 0⟩)),(9,.pointer (some ⟨HE.n,0,some 2⟩)),(11,.slice (some ⟨HE.n+1,0,some 1⟩) k k),(50,.slice a4 P.length c4),(51,.int .i64 P.length),(52,.int .i64 s.1)]) (fun _=>SE) (fun _=>HE) (fun s=>[(H.n,⟨27,true,[.int .i64 p,.int .i64 k,.slice a1 L.length c1]⟩),(H.n+1,⟨27,true,[.int .i64 p,.int .i64 (k+1:Nat),.slice none 0 0]⟩),(HE.n,⟨27,true,[.int .i64 p,.int .i64 (k+1:Nat),.slice a3 P.length c3]⟩),(HE.n+1,⟨_,true,s.2⟩)]) (fun s=>s.2.length=k∧s.1≤P.length∧(∀j,j<s.1→∀q,P[j]?=some q→q≠k)∧s.2=(setF E P k s.1).map (Value.int .i64)) (fun s=>P.length-s.1) (0,List.replicate k (.int .i64 0)) ⟨by simp,by simp,fun j hj=>absurd hj (Nat.not_lt_zero _),by simp only[setF,List.map_replicate]⟩ ⟨rfl,rfl,rfl,rfl,rfl,rfl,trivial⟩ U U U (fun s hi bE n=>?_))
        obtain⟨j,cc⟩:=s
        obtain⟨hcc,hjP,hjn,hset⟩:=hi
        simp only at hcc hjP hjn hset
        refine KW.cnd U U (fun j2=>?gin2) (fun j2=>?gout2)
        case gin2=>
          have j2:(j:Int)<(P.length:Int):=j2
          obtain⟨q,hq2⟩:∃q,P[j]?=some q:=⟨P[j]'(by omega),List.getElem?_eq_getElem (by omega)⟩
          obtain⟨r,hr⟩:∃r,E[j]?=some r:=⟨E[j]'(by have:=sh.le;omega),List.getElem?_eq_getElem (by have:=sh.le;omega)⟩
          have hpv:=sh.piv j q r hq2 hr
          have hrl:=sh.rect r (List.mem_of_getElem? hr)
          have hmap:(P.map fun(i:Nat)=>(i:Int))[j]?=some (q:Int):=by rw[List.getElem?_map,hq2];rfl
          refine KW.getI hP.ups U U U U U U U U U U U U U U U U (by omega) (by simp;omega) (fun x hx=>?_)
          have hx:(P.map fun(i:Nat)=>(i:Int))[j]?=some x:=hx
          rw[hmap] at hx
          cases hx
          by_cases hqk:q=k
          · have hd:decide (¬k∈P)=false:=decide_eq_false (fun hc=>hc (hqk ▸ List.mem_of_getElem? hq2))
            refine KW.cT U U (by simp[hqk]) ?_
            refine KW.retM1 U U U U (fun H1 g=>?_)
            unfold SoX
            simp only[he]
            refine⟨_,_,_,by rw[hd];rfl,fun hn=>absurd (hqk ▸ List.mem_of_getElem? hq2) hn⟩
          · refine KW.cF U U (by simp;omega) ?_
            have htk:(E.take P.length)[j]?=some r:=by rw[List.getElem?_take,if_pos (by omega)];exact hr
            refine KW.getL hE.upS U U U U U U U U U U U U U U U U (by omega) (by rw[List.length_take];have:=sh.le;omega) (fun y2 ay cy hy2 hsy2=>?_)
            have hy2:(E.take P.length)[j]?=some y2:=hy2
            rw[htk] at hy2
            cases hy2
            refine KW.getI hsy2 U U U U U U U U U U U U U U U U (by omega) (by omega) (fun z hz=>?_)
            have hz:r[k]?=some z:=hz
            have e9:setF E P k (j+1)=(setF E P k j).set q z:=by
              have e1:P.getD j 0=q:=by rw[List.getD_eq_getElem?_getD,hq2];rfl
              have e2:E.getD j []=r:=by rw[List.getD_eq_getElem?_getD,hr];rfl
              have e3:r.getD k 0=z:=by rw[List.getD_eq_getElem?_getD,hz];rfl
              simp only[setF,e1,e2,e3]
            have hset9:cc.set (0+(q:Int).toNat*1) (.int .i64 z)=(setF E P k (j+1)).map (Value.int .i64):=by
              rw[e9,List.map_set,hset,show 0+(q:Int).toNat*1=q by omega]
            refine KW.idx0 U U U U U U U U U (by omega) (by omega) ?_
            first | (refine KW.st1 4 U U U U U U U U U U U U (by simp only;omega) ?_) | (refine KW.st1 3 U U U U U U U U U U U U (by simp only;omega) ?_)
            exact KW.nxt U U (fun H' g=>⟨(j+1,_),⟨by simp only[List.length_set];omega,by simp only;omega,upto hjn (fun q' hq'=>by rw[hq2] at hq';cases hq';exact hqk),hset9⟩,by simp only;omega,⟨rfl,rfl,rfl,rfl,rfl,congrArg (Value.int .i64) (inc64 (by omega)),trivial⟩,g⟩)
        case gout2=>
          have hjl:j=P.length:=by have j2:¬(j:Int)<(P.length:Int):=j2;omega
          subst hjl
          have hd:decide (¬k∈P)=true:=decide_eq_true (fun hm=>by obtain⟨i',hi'⟩:=List.getElem?_of_mem hm;exact hjn i' (List.getElem?_eq_some_iff.1 hi').1 k hi' rfl)
          refine KW.retM1 U U U U (fun H1 g=>?_)
          unfold SoX
          simp only[he]
          refine⟨_,_,_,by rw[hd];rfl,fun _=>⟨rfl,?_⟩⟩
          have el:=setF_len (E:=E) (P:=P) (k:=k) P.length
          have hb:(H1.m (HE.n+1)=some ⟨2,true,cc⟩)∧HE.n+1<H1.n:=by first | exact g.blk (j:=4) rfl | exact g.blk (j:=3) rfl
          have hge:H.n≤HE.n+1:=by first | exact g.ge (H1:=H) (j:=4) rfl | exact g.ge (H1:=H) (j:=3) rfl
          rw[hset] at hb
          have h1:=(row_ml (o:=HE.n+1) hb.1).sl
          rw[el] at h1
          exact h1.more (fun id h=>by
            have:=hb.2
            rw[h]
            exact⟨by omega,by omega⟩)
theorem solve {p:Int} {k:Nat} (hp:PrimeP p) (hk:k≤100) {L:List (List Int)} {vals:List Int} (hLl:L.length≤100) (hL:Rect p k L) (hvl:vals.length=L.length) (hv:∀v∈vals,0≤v∧v<p) {a1 c1 a2 c2} (hs0:KI.sl.Sl S H0 (.slice a1 L.length c1) L) (hv0:KI.Sl S H0 (.slice a2 vals.length c2) vals):
    SpecM Tryz.prog S H0 114 [.agg #[.int .i64 p,.int .i64 k,.slice a1 L.length c1],.slice a2 vals.length c2] (fun n v H1=>∃(a:Option Addr) (n c:Nat),v=.tuple #[.slice a n c,.bool (decide (k∉(ech p (augW L vals) (k+1)).2))]):=fun H hf hz=>by
  obtain⟨m,v,H1,k1,k2,k3,a,n,c,e,_⟩:=solveX hp hk hLl hL hvl hv hs0 hv0 H hf hz
  exact⟨m,v,H1,k1,k2,k3,a,n,c,e⟩
end
section
variable {S:Ids} {H0:AH}
theorem l00OwnC {a c} {xs:List Int} (hl:xs.length≤1048576) (hs:KI.Sl S H0 (.slice a xs.length c) xs):SpecM Tryz.prog S H0 113 [.slice a xs.length c] (fun n v H1=>∃o,v=.slice (some ⟨o,0,some 1⟩) xs.length xs.length∧New n H1.n o∧H1.m o=some ⟨2,true,xs.map (Value.int .i64)⟩):=by
 refine SpecM.of1 Tryz.func113 rfl (by kernel_rfl) rfl (fun H _=>?_)
 refine KW.lit U U U U U U U U U U [] U U (fun v hv=>by simp at hv) rfl ?_
 refine KW.appV 0 U U U U U U U U U U (fun H1 g=>acells_I hs.up g) (by simp) (by simp) (fun v hv=>by obtain⟨_,_,rfl⟩:=List.mem_map.1 hv;rfl) (by show(_+_)*8≤_;simp only[List.length_cons,List.length_nil];omega) (by simp only[List.length_cons,List.length_nil];omega) (show 0+xs.length=xs.length from by omega) (fun oa _ _=>?_)
 refine KW.retM1 U U U U (fun H1 g=>⟨_,rfl,⟨g.ge (H1:=H) (j:=0) rfl,(g.blk (j:=0) rfl).2⟩,(g.blk (j:=0) rfl).1⟩)
end
section
variable {P:Program} {S:Ids} {H0:AH} {Q:PostC} {k k1:List It} {e e1:Env} {T T1:List Var} {n n1:Nat} {l1 r1:List Nat} {d1:Tmp}
theorem KW.adX {α:Type} {d:Kn α} {X:Ids} {xs:List α} {o:Oper} {dr:Bool} {t el:TypeId} {x i:Operand} {inf:TypeInfo} {s:Value} {kk:IntKind} {j:Int} (hs:d.Sl X H0 s xs) (hX:∀id,X id→S id) (h:Go1 P k e T n (.op o dr) k1 e1 T1 n1 l1 r1) (hlr:l1=r1) (ho:o.op=.indexAddr t x i) (hd:o.dst=some d1) (hx:ev e1 x=s) (hj:ev e1 i=.int kk j) (hu:P.underlying t=some (.slice el)) (hi:P.info? el=some inf) (he:inf.size=d.es) (h0:0≤j) (h1:j<xs.length)
  (hk:∀y cs id q,xs[j.toNat]?=some y→d.R X H0 y cs→Has3 X H0 id q cs→KW P S H0 Q n1 T1 k1 (put1 e1 d1 (.pointer (some ⟨id,q,none⟩)))):KW P S H0 Q n T k e:=by
 obtain⟨id,off,c,b,y,e1_,e2,e3,e4,e5,e6⟩:=hs.at_ h0 h1
 refine KW.go h hlr (KEvt.idx (c:=⟨_,_,_,_,_,_⟩) ho (hs.more hX) h0 h1 hu hi he hx hj ?_)
 rw[hd,put1_eq]
 subst e1_
 exact hk y _ id (off+j.toNat*d.es) e4 e6 ⟨e3,b,e2,fun q v hq=>seg_at rfl hq⟩
end
def MkV (mid:Nat) (oo:Option (Nat × Nat)):Ids:=fun i=>i=mid∨∃a b,oo=some (a,b)∧(i=a∨i=b)
def mkO (oo:Option (Nat × Nat)) (n:Nat):Value:=match oo with | none=>.slice none 0 0 | some (a,_)=>.slice (some ⟨a,0,some 1⟩) n n
def mkR (oo:Option (Nat × Nat)) (n:Nat):Value:=match oo with | none=>.slice none 0 0 | some (_,b)=>.slice (some ⟨b,0,some 1⟩) n n
abbrev RwT:=Nat × List Int
def rowV (x:RwT):Value:=.slice (some ⟨x.1,0,some 1⟩) x.2.length x.2.length
def RV (rr:List RwT):Ids:=fun i=>∃x∈rr,x.1=i
structure MkrI (p cols:Int) (ow:List Int) (rr:List RwT) (mid:Nat) (S:Ids) (A:AH) (oo:Option (Nat × Nat)):Prop where
 mS:S mid
 mm:A.m mid=some ⟨222,true,[.int .i64 p,.int .i64 cols,mkO oo ow.length,mkR oo rr.length]⟩
 len:ow.length=rr.length
 none_:oo=none→rr=[]
 some_:∀a b,oo=some (a,b)→S a∧S b∧a≠mid∧b≠mid∧a≠b∧A.m a=some ⟨2,true,ow.map (Value.int .i64)⟩∧A.m b=some ⟨24,true,rr.map rowV⟩
 rb:∀x∈rr,S x.1∧A.m x.1=some ⟨2,true,x.2.map (Value.int .i64)⟩∧¬MkV mid oo x.1
 nd:(rr.map Prod.fst).Nodup
theorem MkrI.wS {p cols:Int} {ow:List Int} {rr:List RwT} {mid:Nat} {S:Ids} {A:AH} {oo:Option (Nat × Nat)} (h:MkrI p cols ow rr mid S A oo):∀j,MkV mid oo j∨RV rr j→S j:=fun j hj=>by
 rcases hj with(hj | ⟨a,b,e,hj⟩) | ⟨x,hx,hj⟩
 ·rw[hj];exact h.mS
 ·obtain⟨h1,h2,_⟩:=h.some_ a b e
  rcases hj with hj | hj
  ·rw[hj];exact h1
  ·rw[hj];exact h2
 ·rw[← hj];exact(h.rb x hx).1
theorem MkrI.mv {p cols:Int} {ow:List Int} {rr:List RwT} {mid:Nat} {S S':Ids} {A A':AH} {oo:Option (Nat × Nat)} (h:MkrI p cols ow rr mid S A oo) (k:∀j,MkV mid oo j∨RV rr j→S' j∧A'.m j=A.m j):MkrI p cols ow rr mid S' A' oo:=by
 refine⟨(k mid (.inl (.inl rfl))).1,(k mid (.inl (.inl rfl))).2.trans h.mm,h.len,h.none_,fun a b e=>?_,fun x hx=>?_,h.nd⟩
 ·obtain⟨h1,h2,h3,h4,h5,h6,h7⟩:=h.some_ a b e
  have ka:=k a (.inl (.inr ⟨a,b,e,.inl rfl⟩))
  have kb:=k b (.inl (.inr ⟨a,b,e,.inr rfl⟩))
  exact⟨ka.1,kb.1,h3,h4,h5,ka.2.trans h6,kb.2.trans h7⟩
 ·have kx:=k x.1 (.inr ⟨x,hx,rfl⟩)
  obtain⟨h1,h2,h3⟩:=h.rb x hx
  exact⟨kx.1,kx.2.trans h2,h3⟩
def RowsOk (p cols:Int) (rr:List RwT):Prop:=∀r∈rr,(1≤r.2.length∧(r.2.length:Int)≤cols)∧∀x∈r.2,0≤x∧x<p
def cgG:Nat→Nat
 | 0=>0
 | d+1=>3+4*cgG d
def rgG:Nat→Nat
 | 0=>1
 | d+1=>1+4*rgG d
theorem rgG_pos:∀d,1≤rgG d
 | 0=>Nat.le_refl _
 | d+1=>by simp only[rgG];omega
def NdP (p cols:Int) (mid d:Nat) (rr:List RwT) (oo:Option (Nat × Nat)) (lid n:Nat) (H1:AH):Prop:=
 ∃(cols':Int) (ow':List Int) (rr':List RwT) (oo':Option (Nat × Nat)),MkrI p cols' ow' rr' mid (fun i=>MkV mid oo i∨RV rr i∨i=lid∨New n H1.n i) H1 oo'∧cols≤cols'∧cols'≤cols+cgG d∧rr'.length≤rr.length+rgG d∧RowsOk p cols' rr'∧(∀i,RV rr' i→RV rr i∨i=lid∨New n H1.n i)∧(∀i,MkV mid oo' i→MkV mid oo i∨New n H1.n i)
section
variable {p N:Int} {mid:Nat}
theorem nodeLeaf {S:Ids} {H0:AH} {h cols:Int} {ow L:List Int} {rr:List RwT} {GS:Ids} {oo:Option (Nat × Nat)} {gid gk d lid:Nat} {ga:Option Addr} {gc:Nat} (hgv:Has3 GS H0 gid gk [.int .i64 h,.int .i64 0,.slice ga 0 gc]) (hGS:∀i,GS i→S i∧¬MkV mid oo i) (hM:MkrI p cols ow rr mid S H0 oo) (hLS:S lid∧¬MkV mid oo lid∧¬RV rr lid) (hL:H0.m lid=some ⟨2,true,L.map (Value.int .i64)⟩) (hLc:1≤L.length∧(L.length:Int)≤cols) (hLp:∀x∈L,0≤x∧x<p) (hr':RowsOk p cols rr) (hrl:rr.length≤10000):
  SpecW Tryz.prog S H0 (MkV mid oo) 170 [.pointer (some ⟨mid,0,none⟩),.pointer (some ⟨gid,gk,none⟩),rowV (lid,L)] (fun n v H1=>NdP p cols mid d rr oo lid n H1):=by
 refine SpecW.of0 Tryz.func170 rfl (by kernel_rfl) rfl (fun H hfin hfz=>?_)
 have hM0:MkrI p cols ow rr mid (Low H.n) H oo:=hM.mv fun j hj=>hfz j (hM.wS j hj)
 have hgv0:Has3 (Low H.n) H gid gk [.int .i64 h,.int .i64 0,.slice ga 0 gc]:=by
  obtain⟨q0,b,q1,q2⟩:=hgv
  exact⟨(hfz gid (hGS gid q0).1).1,b,((hfz gid (hGS gid q0).1).2).trans q1,q2⟩
 have hgW:¬MkV mid oo gid:=(hGS gid hgv.1).2
 have hXl:lid<H.n:=(hfz lid hLS.1).1
 have hL0:H.m lid=some ⟨2,true,L.map (Value.int .i64)⟩:=(hfz lid hLS.1).2.trans hL
 obtain⟨_,hlW,hlV⟩:=hLS
 have hmL:mid<H.n:=hM0.mS
 have hrg:=rgG_pos d
 refine KW.ldF 2 hgv0 U U U U U U U U U ?_
 refine KW.yes U U (by simp) ?_
 cases oo with
 | none=>
  obtain rfl:rr=[]:=hM0.none_ rfl
  obtain rfl:ow=[]:=List.eq_nil_of_length_eq_zero hM0.len
  have hgm:gid≠mid:=fun e=>hgW (.inl e)
  have hlm:lid≠mid:=fun e=>hlW (.inl e)
  refine KW.thaw mid _ hM0.mS hM0.mm ?_
  have hgv1:Has3 (fun i=>Low H.n i∧i≠mid) H gid gk [.int .i64 h,.int .i64 0,.slice ga 0 gc]:=⟨⟨hgv0.1,hgm⟩,hgv0.2⟩
  refine KW.ldT 0 U U U U U U U ?_
  refine KW.ldF 0 hgv1 U U U U U U U U U ?_
  refine KW.app0 (v:=.int .i64 h) 1 U U U U U U U U U U U U U U U U U U U U U U (by decide) ?_
  refine KW.st1 0 U U U U U U U U U U U U (by simp) ?_
  refine KW.ldT 0 U U U U U U U ?_
  refine KW.app0 (v:=rowV (lid,L)) 2 U U U U U U U U U U U U U U U U U U U U U U (by decide) ?_
  refine KW.st1 0 U U U U U U U U U U U U (by simp) ?_
  refine KW.retW U U U U (fun H9 g=>by have:=g.n_;omega) (fun i h1 h2=>⟨⟨h1,fun e=>h2 (.inl e)⟩,rfl⟩) (fun H9 g=>?_)
  have hn9:=g.n_
  have b0:=(g.blk (j:=0) rfl).1
  have b1:=g.blk (j:=1) rfl
  have b2:=g.blk (j:=2) rfl
  have hL9:H9.m lid=some ⟨2,true,L.map (Value.int .i64)⟩:=(g.froz lid ⟨hXl,hlm⟩).2.trans hL0
  have n1:New H.n H9.n (H.n+1):=⟨by omega,by omega⟩
  have n3:New H.n H9.n (H.n+3):=⟨by omega,by omega⟩
  refine⟨cols,[h],[(lid,L)],some (H.n+1,H.n+3),⟨.inl (.inl rfl),b0,rfl,fun e=>(by cases e),fun a b e=>?_,fun x hx=>?_,by simp⟩,Int.le_refl _,by omega,by simp only[List.length_nil,List.length_singleton];omega,fun r hr=>by rw[List.mem_singleton.1 hr];exact⟨hLc,hLp⟩,fun i hi=>?_,fun i hi=>?_⟩
  ·cases e
   exact⟨.inr (.inr (.inr n1)),.inr (.inr (.inr n3)),by omega,by omega,by omega,b1.1,b2.1⟩
  ·rw[List.mem_singleton.1 hx]
   refine⟨.inr (.inr (.inl rfl)),hL9,fun hw=>?_⟩
   rcases hw with hw | ⟨a,b,e,hw⟩
   ·exact hlm hw
   ·cases e
    have hw:lid=H.n+1∨lid=H.n+3:=hw
    omega
  ·obtain⟨x,hx,e⟩:=hi
   rw[List.mem_singleton.1 hx] at e
   exact .inr (.inl e.symm)
  ·rcases hi with hi | ⟨a,b,e,hi⟩
   ·exact .inl (.inl hi)
   ·cases e
    rcases hi with hi | hi
    ·rw[hi];exact .inr n1
    ·rw[hi];exact .inr n3
 | some ab=>
  obtain⟨a,b⟩:=ab
  obtain⟨a1,a2,a3,a4,a5,a6,a7⟩:=hM0.some_ a b rfl
  have hgm:gid≠mid:=fun e=>hgW (.inl e)
  have hga:gid≠a:=fun e=>hgW (.inr ⟨a,b,rfl,.inl e⟩)
  have hgb:gid≠b:=fun e=>hgW (.inr ⟨a,b,rfl,.inr e⟩)
  refine KW.thaw mid _ hM0.mS hM0.mm ?_
  refine KW.thaw a _ ⟨a1,a3⟩ a6 ?_
  refine KW.thaw b _ ⟨⟨a2,a4⟩,fun e=>a5 e.symm⟩ a7 ?_
  have hgv1:Has3 (fun i=>((Low H.n i∧i≠mid)∧i≠a)∧i≠b) H gid gk [.int .i64 h,.int .i64 0,.slice ga 0 gc]:=⟨⟨⟨⟨hgv0.1,hgm⟩,hga⟩,hgb⟩,hgv0.2⟩
  have hol:=hM0.len
  refine KW.ldT 0 U U U U U U U ?_
  refine KW.ldF 0 hgv1 U U U U U U U U U ?_
  refine KW.app1 (xs:=ow.map (Value.int .i64)) (v:=.int .i64 h) 1 3 U U U U U U U U U U U U U U U U U U U U U U U (by simp) (by show(ow.length+1)*8≤_;omega) (by omega) ?_
  refine KW.st1 0 U U U U U U U U U U U U (by simp) ?_
  refine KW.ldT 0 U U U U U U U ?_
  refine KW.app1 (xs:=rr.map rowV) (v:=rowV (lid,L)) 2 3 U U U U U U U U U U U U U U U U U U U U U U U (by simp) (by show(rr.length+1)*24≤_;omega) (by omega) ?_
  refine KW.st1 0 U U U U U U U U U U U U (by simp) ?_
  refine KW.retW U U U U (fun H9 g=>by have:=g.n_;omega) (fun i h1 h2=>⟨⟨⟨⟨h1,fun e=>h2 (.inl e)⟩,fun e=>h2 (.inr ⟨a,b,rfl,.inl e⟩)⟩,fun e=>h2 (.inr ⟨a,b,rfl,.inr e⟩)⟩,rfl⟩) (fun H9 g=>?_)
  have hn9:=g.n_
  have b0:=(g.blk (j:=0) rfl).1
  have b1:=g.blk (j:=1) rfl
  have b2:=g.blk (j:=2) rfl
  have fz:∀i,i<H.n→¬MkV mid (some (a,b)) i→H9.m i=H.m i:=fun i h1 h2=>(g.froz i ⟨⟨⟨h1,fun e=>h2 (.inl e)⟩,fun e=>h2 (.inr ⟨a,b,rfl,.inl e⟩)⟩,fun e=>h2 (.inr ⟨a,b,rfl,.inr e⟩)⟩).2
  have n1:New H.n H9.n (H.n+1):=⟨by omega,by omega⟩
  have n3:New H.n H9.n (H.n+3):=⟨by omega,by omega⟩
  have nW:∀i,i<H.n→¬MkV mid (some (a,b)) i→¬MkV mid (some (H.n+1,H.n+3)) i:=fun i h1 h2 hw=>by
   rcases hw with hw | ⟨a',b',e,hw⟩
   ·exact h2 (.inl hw)
   ·cases e
    omega
  refine⟨cols,ow++[h],rr++[(lid,L)],some (H.n+1,H.n+3),⟨.inl (.inl rfl),b0.trans (by simp only[mkO,mkR,List.length_append,List.length_singleton];rfl),by simp only[List.length_append,List.length_singleton];omega,fun e=>(by cases e),fun a' b' e=>?_,fun x hx=>?_,?_⟩,Int.le_refl _,by omega,by simp only[List.length_append,List.length_singleton];omega,fun r hr=>(List.mem_append.1 hr).elim (hr' r) (fun hr=>by rw[List.mem_singleton.1 hr];exact⟨hLc,hLp⟩),fun i hi=>?_,fun i hi=>?_⟩
  ·cases e
   exact⟨.inr (.inr (.inr n1)),.inr (.inr (.inr n3)),by omega,by omega,by omega,b1.1.trans (by rw[List.map_append];rfl),b2.1.trans (by rw[List.map_append];rfl)⟩
  ·rcases List.mem_append.1 hx with hx | hx
   ·obtain⟨h1,h2,h3⟩:=hM0.rb x hx
    exact⟨.inr (.inl ⟨x,hx,rfl⟩),(fz x.1 h1 h3).trans h2,nW x.1 h1 h3⟩
   ·rw[List.mem_singleton.1 hx]
    exact⟨.inr (.inr (.inl rfl)),(fz lid hXl hlW).trans hL0,nW lid hXl hlW⟩
  ·rw[List.map_append]
   refine List.nodup_append.2 ⟨hM0.nd,by simp,fun y hy z hz=>?_⟩
   have hz:z=lid:=by simpa using hz
   obtain⟨x,hx,rfl⟩:=List.mem_map.1 hy
   rw[hz]
   exact fun e=>hlV ⟨x,hx,e⟩
  ·obtain⟨x,hx,e⟩:=hi
   rcases List.mem_append.1 hx with hx | hx
   ·exact .inl ⟨x,hx,e⟩
   ·rw[List.mem_singleton.1 hx] at e
    exact .inr (.inl e.symm)
  ·rcases hi with hi | ⟨a',b',e,hi⟩
   ·exact .inl (.inl hi)
   ·cases e
    rcases hi with hi | hi
    ·rw[hi];exact .inr n1
    ·rw[hi];exact .inr n3
end
structure NdS where
 i:Nat
 S:Ids
 A:AH
 cols:Int
 ow:List Int
 rr:List RwT
 oo:Option (Nat × Nat)
structure NdI (p c1:Int) (mid d ks r0:Nat) (H:AH) (W V0:Ids) (s:NdS):Prop where
 le:s.i≤ks
 mk_:MkrI p s.cols s.ow s.rr mid s.S s.A s.oo
 E:GwE H W s.S s.A
 b1:c1≤s.cols
 b2:s.cols≤c1+(s.i*cgG d:Nat)
 r:s.rr.length≤r0+s.i*rgG d
 ok:RowsOk p s.cols s.rr
 v:∀j,RV s.rr j→V0 j∨H.n≤j
 w:∀j,MkV mid s.oo j→W j∨H.n≤j
theorem RowsOk.up {p c c':Int} {rr:List RwT} (h:RowsOk p c rr) (hc:c≤c'):RowsOk p c' rr:=fun r hr=>⟨⟨(h r hr).1.1,by have:=(h r hr).1.2;omega⟩,(h r hr).2⟩
section
variable {p N:Int} {mid:Nat}
theorem node (hp31:2≤p∧p≤31):∀(d:Nat) {S:Ids} {H0:AH} {g:Gt} {cs:List Value} {gid gk:Nat} {cols:Int} {ow L:List Int} {rr:List RwT} {GS:Ids} {oo:Option (Nat × Nat)} {lid:Nat},d≤4→GF N d g→NW p d g→RG d GS H0 g cs→Has3 GS H0 gid gk cs→(∀i,GS i→S i∧¬MkV mid oo i)→MkrI p cols ow rr mid S H0 oo→(S lid∧¬MkV mid oo lid∧¬RV rr lid)→H0.m lid=some ⟨2,true,L.map (Value.int .i64)⟩→(1≤L.length∧(L.length:Int)≤cols)→(∀x∈L,0≤x∧x<p)→cols+cgG d≤1000→RowsOk p cols rr→rr.length+rgG d≤10000→
  SpecW Tryz.prog S H0 (MkV mid oo) 170 [.pointer (some ⟨mid,0,none⟩),.pointer (some ⟨gid,gk,none⟩),rowV (lid,L)] (fun n v H1=>NdP p cols mid d rr oo lid n H1):=by
 intro d
 induction d with
 | zero=>
  intro S H0 g cs gid gk cols ow L rr GS oo lid hd hg hw hR hgv hGS hM hLS hL hLc hLp hcb hr hrl
  obtain⟨a,c,rfl,hk⟩:=hR.form
  rw[hg.1,hg.2.1] at hgv
  exact nodeLeaf hgv hGS hM hLS hL hLc hLp hr (by omega)
 | succ d ih=>
  intro S H0 g cs gid gk cols ow L rr GS oo lid hd hg hw hR hgv hGS hM hLS hL hLc hLp hcb hr hrl
  obtain⟨ga,gc,rfl,hk⟩:=hR.form
  rcases hg with hg0 | hg1
  ·rw[hg0.1,hg0.2.1] at hgv
   exact nodeLeaf hgv hGS hM hLS hL hLc hLp hr (by omega)
  obtain⟨g1,g2,g3,g4,g5,g6⟩:=hg1
  obtain⟨w1,w2⟩:=hw
  have hpos:0<g.ks.length:=List.length_pos_iff.2 g1
  rcases hk with hk | ⟨d',e,hk⟩
  ·exact absurd hk g1
  obtain rfl:d'=d:=by omega
  simp only[cgG,rgG] at hcb hrl
  refine SpecW.of0 Tryz.func170 rfl (by kernel_rfl) rfl (fun H hfin hfz=>?_)
  have hM0:MkrI p cols ow rr mid (Low H.n) H oo:=hM.mv fun j hj=>hfz j (hM.wS j hj)
  have hGL:∀i,GS i→i<H.n∧H.m i=H0.m i:=fun i hi=>hfz i (hGS i hi).1
  have hgv0:Has3 GS H gid gk [.int .i64 g.h,.int .i64 g.l,.slice ga g.ks.length gc]:=by
   obtain⟨q0,b,q1,q2⟩:=hgv
   exact⟨q0,b,((hGL gid q0).2).trans q1,q2⟩
  have hk0:(KG d').Sl GS H (.slice ga g.ks.length gc) g.ks:=hk.same fun i hi=>(hGL i hi).2
  have hlL:lid<H.n:=(hfz lid hLS.1).1
  have hL0:H.m lid=some ⟨2,true,L.map (Value.int .i64)⟩:=(hfz lid hLS.1).2.trans hL
  have hmL:mid<H.n:=hM0.mS
  have E0:GwE H (MkV mid oo) (Low H.n) H:=⟨fun i hi=>hM0.wS i (.inl hi),fun i h _=>⟨h,rfl⟩⟩
  have hgS:∀{S':Ids} {A':AH},GwE H (MkV mid oo) S' A'→Has3 S' A' gid gk [.int .i64 g.h,.int .i64 g.l,.slice ga g.ks.length gc]:=fun E=>by
   obtain⟨q0,b,q1,q2⟩:=hgv0
   have h:=E.old gid (hGL gid q0).1 (hGS gid q0).2
   exact⟨h.1,b,h.2.trans q1,q2⟩
  have hmS:∀{S':Ids} {A':AH} {cols':Int} {ow':List Int} {rr':List RwT} {oo':Option (Nat × Nat)},MkrI p cols' ow' rr' mid S' A' oo'→Has3 S' A' mid 0 [.int .i64 p,.int .i64 cols',mkO oo' ow'.length,mkR oo' rr'.length]:=fun h=>⟨h.mS,_,h.mm,fun i v hv=>by rw[Nat.zero_add];exact hv⟩
  have hLl:(L.length:Int)≤1000:=by omega
  have hc0:0≤cols:=by omega
  refine KW.ldF 2 ((hgS E0)) U U U U U U U U U ?_
  refine KW.no U U (by omega) ?_
  refine KW.ldF 1 ((hmS hM0)) U U U U U U U U U ?_
  refine KW.ldF 1 ((hmS hM0)) U U U U U U U U U ?_
  refine KW.ldF 1 ((hgS E0)) U U U U U U U U U ?_
  refine KW.thaw mid _ hM0.mS hM0.mm ?_
  refine KW.st1 0 U U U U U U U U U U U U (by simp) ?_
  refine KW.freeze 0 rfl (fun A1 S1 hn1 hS1 st1 hm1 hlt1 hno1 hlow1=>?_)
  have ewc:IntKind.i64.wrap (cols+IntKind.i64.wrap (g.l-1))=cols+(g.l-1):=by rw[wr (x:=g.l-1) (by omega) (by omega),wr (by omega) (by omega)]
  have w01:StW (fun i=>i=mid) (Low H.n) H S1 A1:=fun i hi=>by
   by_cases e:i=mid
   ·exact⟨(hS1 i).2 (.inr e),fun hh=>absurd e hh⟩
   ·exact⟨(st1.st i ⟨hi,e⟩).1,fun _=>(st1.st i ⟨hi,e⟩).2⟩
  have E1:=E0.w w01 (fun i hi=>.inl (.inl hi))
  have hM1:MkrI p (cols+(g.l-1)) ow rr mid S1 A1 oo:=by
   have hmm:A1.m mid=some ⟨222,true,[.int .i64 p,.int .i64 (cols+(g.l-1)),mkO oo ow.length,mkR oo rr.length]⟩:=by
    have h:A1.m mid=some ⟨222,true,[.int .i64 p,.int .i64 (IntKind.i64.wrap (cols+IntKind.i64.wrap (g.l-1))),mkO oo ow.length,mkR oo rr.length]⟩:=hm1
    rw[ewc] at h
    exact h
   have kk:∀j,MkV mid oo j∨RV rr j→j≠mid→S1 j∧A1.m j=H.m j:=fun j hj e=>⟨(w01 j (hM0.wS j hj)).1,(w01 j (hM0.wS j hj)).2 e⟩
   refine⟨(hS1 _).2 (.inr rfl),hmm,hM0.len,hM0.none_,fun a b e=>?_,fun x hx=>?_,hM0.nd⟩
   ·obtain⟨h1,h2,h3,h4,h5,h6,h7⟩:=hM0.some_ a b e
    have ka:=kk a (.inl (.inr ⟨a,b,e,.inl rfl⟩)) h3
    have kb:=kk b (.inl (.inr ⟨a,b,e,.inr rfl⟩)) h4
    exact⟨ka.1,kb.1,h3,h4,h5,ka.2.trans h6,kb.2.trans h7⟩
   ·obtain⟨h1,h2,h3⟩:=hM0.rb x hx
    have kx:=kk x.1 (.inr ⟨x,hx,rfl⟩) (fun e=>h3 (.inl e))
    exact⟨kx.1,kx.2.trans h2,h3⟩
  refine KW.lpM U U (fun s:NdS=>[(0,.pointer (some ⟨mid,0,none⟩)),(1,.pointer (some ⟨gid,gk,none⟩)),(2,rowV (lid,L)),(6,.int .i64 cols),(7,.int .i64 s.i)]) (fun s=>s.S) (fun s=>s.A) (fun s=>[]) (fun s=>NdI p (cols+(g.l-1)) mid d' g.ks.length rr.length H (MkV mid oo) (RV rr) s) (fun s=>g.ks.length-s.i) (⟨0,S1,A1,cols+(g.l-1),ow,rr,oo⟩) (⟨Nat.zero_le _,hM1,E1,Int.le_refl _,by show cols+(g.l-1)≤cols+(g.l-1)+((0*cgG d':Nat):Int);omega,by simp only;omega,hr.up (by show cols≤cols+(g.l-1);omega),fun j hj=>.inl hj,fun j hj=>.inl hj⟩) ⟨rfl,rfl,rfl,rfl,rfl,trivial⟩ U U (rfl) (fun s hi bE n=>?_)
  obtain⟨i,S2,A2,cols2,ow2,rr2,oo2⟩:=s
  obtain⟨ile,hM2,E2,b1,b2,hr2,ok2,hV2,hW2⟩:=hi
  simp only at ile hM2 E2 b1 b2 hr2 ok2 hV2 hW2
  have hmulc:i*cgG d'≤4*cgG d':=Nat.mul_le_mul_right _ (by omega)
  have hmulr:i*rgG d'≤4*rgG d':=Nat.mul_le_mul_right _ (by omega)
  refine KW.ids (fun hlow hvar=>?_)
  have hnn:H.n≤n:=by
   rcases Nat.lt_or_ge n H.n with h | h
   ·have:n<n:=hlow n (by
     by_cases hw:MkV mid oo n
     ·exact E2.wid n hw
     ·exact(E2.old n h hw).1)
    omega
   ·exact h
  refine KW.ldF 2 ((hgS E2)) U U U U U U U U U ?_
  refine KW.cnd U U (fun k1=>?_) (fun k1=>?_)
  ·have k1:(i:Int)<(g.ks.length:Int):=k1
   have hsucc:(i+1)*cgG d'=i*cgG d'+cgG d':=Nat.succ_mul _ _
   have hsuccr:(i+1)*rgG d'=i*rgG d'+rgG d':=Nat.succ_mul _ _
   have hsucc4:(i+1)*cgG d'≤4*cgG d':=Nat.mul_le_mul_right _ (by omega)
   have hsuccr4:(i+1)*rgG d'≤4*rgG d':=Nat.mul_le_mul_right _ (by omega)
   have hl2:=E2.old lid hlL hLS.2.1
   have hL2:KI.Sl S2 A2 (.slice (some ⟨lid,0,some 1⟩) L.length L.length) L:=(row_ml (hl2.2.trans hL0)).sl.more (fun j hj=>by rw[hj];exact hl2.1)
   refine KW.callN1 U U U U U (l00OwnC (by show L.length≤_;omega) hL2) (fun v HC SC mC _ _ hv=>?_)
   obtain⟨o3,rfl,hno3,hmo3⟩:=hv
   have tC:=(inferInstance:Stp S2 A2 SC HC).st
   have hSo3:SC o3:=(inferInstance:On (New _ HC.n) HC SC HC).st o3 hno3 |>.1
   have ho3:n≤o3:=hno3.1
   refine KW.thaw o3 _ hSo3 hmo3 ?_
   have t2:St S2 A2 (fun j=>SC j∧j≠o3) HC:=fun j h=>⟨⟨(tC j h).1,fun e=>by have:=hlow j h;omega⟩,(tC j h).2⟩
   have E3:=E2.s t2
   have hM3:=hM2.mv (S':=fun j=>SC j∧j≠o3) (A':=HC) (fun j hj=>t2 j (hM2.wS j hj))
   refine KW.lpM U U (fun s:List Int × Nat=>[(0,.pointer (some ⟨mid,0,none⟩)),(1,.pointer (some ⟨gid,gk,none⟩)),(2,rowV (lid,L)),(6,.int .i64 cols),(7,.int .i64 i),(8,.slice (some ⟨s.2,0,some 1⟩) s.1.length s.1.length)]) (fun s=>fun j=>SC j∧j≠o3) (fun s=>HC) (fun s=>[(s.2,⟨2,true,s.1.map (Value.int .i64)⟩)]) (fun s=>(1≤s.1.length∧(s.1.length:Int)≤cols)∧∀x∈s.1,0≤x∧x<p) (fun s=>cols.toNat-s.1.length) ((L,o3)) (⟨hLc,hLp⟩) ⟨rfl,rfl,rfl,rfl,rfl,rfl,trivial⟩ U U (rfl) (fun s hi bE n=>?_)
   obtain⟨xs,o4⟩:=s
   obtain⟨⟨x0,x1⟩,x2⟩:=hi
   simp only at x0 x1 x2
   refine KW.cnd U U (fun k2=>?_) (fun k2=>?_)
   ·have k2:(xs.length:Int)<cols:=k2
    refine KW.app1 (xs:=xs.map (Value.int .i64)) (v:=.int .i64 0) 0 1 U U U U U U U U U U U U U U U U U U U U U U U (by simp) (by show(xs.length+1)*8≤_;omega) (by omega) ?_
    exact KW.nxt U U (fun H' g=>⟨(xs++[0],_),⟨by simp only[List.length_append,List.length_singleton];omega,fun x hx=>(List.mem_append.1 hx).elim (x2 x) (fun hx=>by rw[List.mem_singleton.1 hx];omega)⟩,by simp only[List.length_append,List.length_singleton];omega,⟨rfl,rfl,rfl,rfl,rfl,by simp only[List.length_append,List.length_singleton];rfl,trivial⟩,g.eqT (by simp only[List.map_append];rfl)⟩)
   ·have k2:¬(xs.length:Int)<cols:=k2
    refine KW.lpM U U (fun s:Nat × List Int × Nat=>[(0,.pointer (some ⟨mid,0,none⟩)),(1,.pointer (some ⟨gid,gk,none⟩)),(2,rowV (lid,L)),(6,.int .i64 cols),(7,.int .i64 i),(8,.slice (some ⟨s.2.2,0,some 1⟩) s.2.1.length s.2.1.length),(9,.int .i64 s.1)]) (fun s=>fun j=>SC j∧j≠o3) (fun s=>HC) (fun s=>[(s.2.2,⟨2,true,s.2.1.map (Value.int .i64)⟩)]) (fun s=>(1≤s.1∧(s.1:Int)≤g.l)∧(s.2.1.length:Int)=cols+(s.1-1)∧∀x∈s.2.1,0≤x∧x<p) (fun s=>g.l.toNat-s.1) ((1,xs,o4)) (⟨⟨Nat.le_refl _,g3⟩,by simp only;omega,x2⟩) ⟨rfl,rfl,rfl,rfl,rfl,rfl,rfl,trivial⟩ U U (rfl) (fun s hi bE n=>?_)
    obtain⟨k,ys,o5⟩:=s
    obtain⟨⟨y0,y1⟩,y2,y3⟩:=hi
    simp only at y0 y1 y2 y3
    refine KW.ldF 1 ((hgS E3)) U U U U U U U U U ?_
    refine KW.cnd U U (fun k3=>?_) (fun k3=>?_)
    ·have k3:(k:Int)<g.l:=k3
     have e_i:IntKind.i64.wrap ((i:Int)+1)=(i:Int)+1:=wr (by omega) (by omega)
     refine KW.ldF 0 ((hmS hM3)) U U U U U U U U U ?_
     refine KW.callE U U U U U (l03Power p (IntKind.i64.wrap ((i:Int)+1)) (k:Int) hp31 (by rw[e_i];omega) (by omega)) (fun _ _=>?_)
     have hpw:=pw_ok hp31.1 (p:=p) (a:=IntKind.i64.wrap ((i:Int)+1)) (k:Int).toNat
     refine KW.app1 (xs:=ys.map (Value.int .i64)) (v:=.int .i64 (pw p (IntKind.i64.wrap ((i:Int)+1)) (k:Int).toNat)) 0 1 U U U U U U U U U U U U U U U U U U U U U U U (by simp) (by show(ys.length+1)*8≤_;omega) (by show ys.length+1≤_;omega) ?_
     refine KW.nxt U U (fun H' g=>⟨(k+1,ys++[pw p (IntKind.i64.wrap ((i:Int)+1)) (k:Int).toNat],_),⟨⟨by simp only;omega,by simp only;omega⟩,by simp only[List.length_append,List.length_singleton];omega,fun x hx=>(List.mem_append.1 hx).elim (y3 x) (fun hx=>by rw[List.mem_singleton.1 hx];exact hpw)⟩,by first | omega | (simp only;omega),⟨rfl,rfl,rfl,rfl,rfl,by simp only[List.length_append,List.length_singleton];rfl,congrArg (Value.int .i64) (inc64 (by omega)),trivial⟩,g.eqT (by simp only[List.map_append];rfl)⟩)
    ·have k3:¬(k:Int)<g.l:=k3
     have ykl:(ys.length:Int)=cols+(g.l-1):=by omega
     refine KW.ldF 2 ((hgS E3)) U U U U U U U U U ?_
     refine KW.adX (hk0.same (H':=HC) (fun j hj=>(E3.old j (hGL j hj).1 (hGS j hj).2).2)) (fun j hj=>(E3.old j (hGL j hj).1 (hGS j hj).2).1) U U U U U U U U U (by omega) k1 (fun y cy id2 q hy hRy hat=>?_)
     have hy:g.ks[i]?=some y:=hy
     have hym:=List.mem_of_getElem? hy
     refine KW.callWF 0 U U U U U U (fun A9 S9 hn9 hS9 t9 hm9 ho9 hno9 hlt9=>?_)
     have ho9:o5<_:=ho9
     have E9:=E3.s t9.st
     have hM9:=hM3.mv (S':=S9) (A':=A9) (fun j hj=>t9.st j (hM3.wS j hj))
     have hG9:∀j,GS j→S9 j∧A9.m j=H.m j:=fun j hj=>E9.old j (hGL j hj).1 (hGS j hj).2
     have hGC:∀j,GS j→HC.m j=H.m j:=fun j hj=>(E3.old j (hGL j hj).1 (hGS j hj).2).2
     have hG2:∀j,GS j→¬MkV mid oo2 j:=fun j hj hw=>by
      rcases hW2 j hw with h | h
      ·exact(hGS j hj).2 h
      ·have:=(hGL j hj).1;omega
     have hat9:Has3 GS A9 id2 q cy:=by
      obtain⟨q0,b,q1,q2⟩:=hat
      exact⟨q0,b,((hG9 id2 q0).2.trans (hGC id2 q0).symm).trans q1,q2⟩
     have o5n:H.n≤o5:=by
      rcases Nat.lt_or_ge o5 H.n with h | h
      ·by_cases hw:MkV mid oo o5
       ·exact absurd (E3.wid o5 hw) hno9
       ·exact absurd (E3.old o5 h hw).1 hno9
      ·exact h
     have key:=ih (S:=S9) (H0:=A9) (g:=y) (cs:=cy) (gid:=id2) (gk:=q) (cols:=cols2) (ow:=ow2) (L:=ys) (rr:=rr2) (GS:=GS) (oo:=oo2) (lid:=o5) (by omega) (g6 y hym) (w2 y hym) (RG.same d' (fun j hj=>(hG9 j hj).2.trans (hGC j hj).symm) hRy) hat9 (fun j hj=>⟨(hG9 j hj).1,hG2 j hj⟩) hM9 ⟨(hS9 _).2 (.inr rfl),fun hw=>hno9 (hM3.wS _ (.inl hw)),fun hv=>hno9 (hM3.wS _ (.inr hv))⟩ hm9 ⟨by omega,by omega⟩ y3 (by omega) ok2 (by omega)
     refine⟨_,_,fun j hj=>(t9.st j (hM3.wS j (.inl hj))).1,key,fun v H6 S6 m6 t6 w6 hv6=>?_⟩
     obtain⟨cols',ow',rr',oo',hM',c1',c2',r',ok',hV',hW'⟩:=hv6
     have E6:=E9.w t6 (fun j hj=>hW2 j hj)
     have hin:∀j,(MkV mid oo2 j∨RV rr2 j∨j=o5∨New _ H6.n j)→S6 j:=fun j hj=>by
      rcases hj with h | h | h | h
      ·exact(t6 j (hM9.wS j (.inl h))).1
      ·exact(t6 j (hM9.wS j (.inr h))).1
      ·rw[h];exact(t6 o5 ((hS9 _).2 (.inr rfl))).1
      ·exact w6 j h
     have hM6:MkrI p cols' ow' rr' mid S6 H6 oo':=hM'.mv fun j hj=>⟨hin j (hM'.wS j hj),rfl⟩
     refine KW.nxt U U (fun H' g=>⟨⟨i+1,S6,H6,cols',ow',rr',oo'⟩,⟨by simp only;omega,hM6,E6,by simp only;omega,by simp only;omega,by simp only;omega,ok',fun j hj=>by rcases hV' j hj with h | h | h;exact hV2 j h;exact .inr (by omega);exact .inr (by have:=h.1;omega),fun j hj=>by rcases hW' j hj with h | h;exact hW2 j h;exact .inr (by have:=h.1;omega)⟩,by first | omega | (simp only;omega),⟨rfl,rfl,rfl,rfl,congrArg (Value.int .i64) (inc64 (by omega)),trivial⟩,g⟩)
  ·refine KW.endW U U U U (fun H9 g=>by have:=g.n_;omega) (fun j h1 h2=>E2.old j h1 h2) (fun H9 gg=>?_)
   have hn9:=gg.n_
   have hf9:∀j,MkV mid oo2 j∨RV rr2 j→j<H9.n∧H9.m j=A2.m j:=fun j hj=>by
    have hf:=gg.froz j (hM2.wS j hj)
    exact⟨by omega,hf.2⟩
   refine⟨cols2,ow2,rr2,oo2,hM2.mv (fun j hj=>⟨?_,(hf9 j hj).2⟩),by omega,by simp only[cgG];omega,by simp only[rgG];omega,ok2,fun j hj=>?_,fun j hj=>?_⟩
   ·rcases hj with hj | hj
    ·rcases hW2 j hj with h | h
     ·exact .inl h
     ·exact .inr (.inr (.inr ⟨h,(hf9 j (.inl hj)).1⟩))
    ·rcases hV2 j hj with h | h
     ·exact .inr (.inl h)
     ·exact .inr (.inr (.inr ⟨h,(hf9 j (.inr hj)).1⟩))
   ·rcases hV2 j hj with h | h
    ·exact .inl h
    ·exact .inr (.inr ⟨h,(hf9 j (.inr hj)).1⟩)
   ·rcases hW2 j hj with h | h
    ·exact .inl h
    ·exact .inr ⟨h,(hf9 j (.inl hj)).1⟩
end
theorem rows_sl {X:Ids} {A:AH} {o:Nat} {ty:TypeId} {out:List RwT} (ho:X o) (hm:A.m o=some ⟨ty,true,out.map rowV⟩) (hr:∀x∈out,X x.1∧A.m x.1=some ⟨2,true,x.2.map (Value.int .i64)⟩):KI.sl.Sl X A (.slice (some ⟨o,0,some 1⟩) out.length out.length) (out.map Prod.snd):=by
  refine .inr ⟨o,0,out.length,_,by rw[List.length_map];rfl,by rw[List.length_map];exact Nat.le_refl _,ho,hm,by simp[Kn.sl],fun i x hx=>?_⟩
  rw[List.getElem?_map] at hx
  obtain⟨y,hy,rfl⟩:=Option.map_eq_some_iff.1 hx
  obtain⟨h1,h2⟩:=hr y (List.mem_of_getElem? hy)
  refine⟨rowV y,?_,(row_ml h2).sl.more (fun id h=>by rw[h];exact h1)⟩
  show((out.map rowV).drop (0+i*1)).take 1=[rowV y]
  rw[List.take_one,Nat.zero_add,Nat.mul_one,List.head?_drop,List.getElem?_map,hy];rfl
def ShP (N p:Int) (n:Nat) (v:Value) (H1:AH):Prop:=
  ∃(h p' c:Int) (a1 a2:Option Addr) (n1 c1 n2 c2:Nat) (code:Int),v=.tuple #[.agg #[.int .i64 h,.slice a1 n1 c1,.int .i64 p',.int .i64 c,.slice a2 n2 c2],.int .i64 code]∧(code=0→∃(ow:List Int) (rows:List (List Int)),n1=ow.length∧n2=rows.length∧OkSch h ow p' c rows∧h=N∧p'=p∧KI.Sl (New n H1.n) H1 (.slice a1 ow.length c1) ow∧KI.sl.Sl (New n H1.n) H1 (.slice a2 rows.length c2) rows)
section
variable {S:Ids} {H0:AH}
theorem l04Told (h p c:Int) (hp:I64 p) {a1 c1 a2 c2} {ow:List Int} {rows:List (List Int)} (hO:B_Int64S ow) (hB:B_Int64SS rows) (ho:KI.Sl S H0 (.slice a1 ow.length c1) ow) (hs:KI.sl.Sl S H0 (.slice a2 rows.length c2) rows):
    Spec Tryz.prog S H0 112 [.agg #[.int .i64 h,.slice a1 ow.length c1,.int .i64 p,.int .i64 c,.slice a2 rows.length c2]] (fun v=>(OkSch h ow p c rows∧v=.tuple #[.agg #[.int .i64 h,.slice a1 ow.length c1,.int .i64 p,.int .i64 c,.slice a2 rows.length c2],.int .i64 0])∨v=.tuple #[.agg #[.int .i64 0,.slice none 0 0,.int .i64 0,.int .i64 0,.slice none 0 0],.int .i64 3]):=by
  refine Spec.of1 Tryz.func112 rfl (by kernel_rfl) rfl (fun H _=>?_)
  refine KW.callV1 U U U U U (fun H1 g _=>l04Ok (S:=Low H1.n) (H0:=H1) h p c hp hO hB (g.has (j:=0) U U) ho.up hs.up) (fun n1 m1=>?_)
  by_cases hk:OkSch h ow p c rows
  · rw[tv_true hk]
    refine KW.cF U U (by first | (simp;done) | decide) ?_
    exact KW.ret U U U U (.inl ⟨hk,rfl⟩)
  · rw[tv_false hk]
    refine KW.cT U U (by first | (simp;done) | decide) ?_
    refine KW.build U U U U U (built_Scheme0) ?_
    exact KW.ret U U U U (.inr rfl)
structure LgS where
  i:Nat
  S:Ids
  A:AH
  out:List RwT
  l:Value
  tail:List Var
structure LgI (p cols:Int) (oo:Option (Nat × Nat)) (ow:List Int) (rr:List RwT) (H:AH) (s:LgS):Prop where
  le:s.i≤rr.length
  old:∀j,j<H.n→s.S j∧s.A.m j=H.m j
  ab:∀a b,oo=some (a,b)→s.S a∧s.S b∧s.A.m a=some ⟨2,true,ow.map (Value.int .i64)⟩∧s.A.m b=some ⟨24,true,rr.map rowV⟩∧H.n≤a
  rest:∀j x,s.i≤j→rr[j]?=some x→s.S x.1∧s.A.m x.1=some ⟨2,true,x.2.map (Value.int .i64)⟩
  out_:∀x∈s.out,s.S x.1∧s.A.m x.1=some ⟨2,true,x.2.map (Value.int .i64)⟩∧H.n≤x.1∧((x.2.length:Int)=cols∧∀y∈x.2,0≤y∧y<p)∧(∀j z,s.i≤j→rr[j]?=some z→z.1≠x.1)∧∀a b,oo=some (a,b)→a≠x.1∧b≠x.1
  ol:s.out.length=s.i
  form:(s.i=0∧s.l=.slice none 0 0∧s.tail=[])∨(0<s.i∧∃o,s.l=.slice (some ⟨o,0,some 1⟩) s.i s.i∧s.tail=[(o,⟨24,true,s.out.map rowV⟩)])
theorem built_Maker (p:Int):Tryz.prog.built 222 [(0,.int .i64 p),(1,.int .i64 1)]=some #[.int .i64 p,.int .i64 1,.slice none 0 0,.slice none 0 0]:=by kernel_rfl
theorem l04Gate {N p:Int} (hN:1≤N∧N≤7) (hp31:2≤p∧p≤31) {g:Gt} {gcs:List Value} {gid gk:Nat} (hg:GF N 4 g) (hR:RG 4 S H0 g gcs) (hgv:Has3 S H0 gid gk gcs):
    SpecM Tryz.prog S H0 98 [.int .i64 p,.int .i64 N,.pointer (some ⟨gid,gk,none⟩)] (ShP N p):=by
  refine SpecM.of1 Tryz.func98 rfl (by kernel_rfl) rfl (fun H _=>?_)
  have hgv0:=hgv.up (S':=Low H.n) (H':=H)
  have hR0:RG 4 (Low H.n) H g gcs:=On.R (d:=KG 4) hR
  refine KW.call U U U U U (l04Wide 4 hg hR0 hgv0) (fun v nw hnw hv=>?_)
  obtain⟨b,rfl,hb⟩:=hv
  refine KW.cndB U U (fun k1=>?_) (fun k1=>?_)
  · refine KW.build U U U U U (built_Scheme0) ?_
    refine KW.retM1 U U U U (fun H1 g=>⟨0,0,0,none,none,0,0,0,0,4,rfl,fun h=>by cases h⟩)
  have hw:=hb k1
  refine KW.build U U U U U (built_Maker _) ?_
  refine KW.lit U U U U U U U U U U [.int .i64 1] U U (fun v hv=>by simp at hv;subst hv;rfl) rfl ?_
  refine KW.freeze 2 rfl (fun A1 S1 hn1 hS1 st1 hm1 hlt1 hno1 hlow1=>?_)
  refine KW.freeze 1 rfl (fun A2 S2 hn2 hS2 st2 hm2 hlt2 hno2 hlow2=>?_)
  have t02:∀j,j<H.n→S2 j∧A2.m j=H.m j:=fun j hj=>by
    have h1:=st1.st j hj
    have h2:=st2.st j h1.1
    exact⟨h2.1,h2.2.trans h1.2⟩
  have hn1':H.n+1≤nw:=hnw
  have hlit:S2 (nw+1)∧A2.m (nw+1)=some ⟨2,true,[1].map (Value.int .i64)⟩:=by
    have h:=st2.st (nw+1) ((hS1 _).2 (.inr rfl))
    exact⟨h.1,h.2.trans hm1⟩
  have hM2:MkrI p 1 [] [] nw S2 A2 none:=⟨(hS2 _).2 (.inr rfl),hm2,rfl,fun _=>rfl,fun a b e=>(by cases e),fun x hx=>(by cases hx),by simp⟩
  have hMkv:∀j,MkV nw none j→j=nw:=fun j hj=>hj.elim id (fun⟨a,b,e,_⟩=>by cases e)
  have key:=node (N:=N) (mid:=nw) hp31 4 (S:=S2) (H0:=A2) (g:=g) (cs:=gcs) (gid:=gid) (gk:=gk) (cols:=1) (ow:=[]) (L:=[1]) (rr:=[]) (GS:=Low H.n) (oo:=none) (lid:=nw+1) (by omega) hg hw (RG.same 4 (fun j hj=>(t02 j hj).2) hR0) (by
    obtain⟨q0,b,q1,q2⟩:=hgv0
    exact⟨q0,b,(t02 gid q0).2.trans q1,q2⟩) (fun j hj=>⟨(t02 j hj).1,fun hw=>by have:=hMkv j hw;have hj:j<H.n:=hj;omega⟩) hM2 ⟨hlit.1,fun hw=>by have:=hMkv _ hw;omega,fun⟨x,hx,_⟩=>by cases hx⟩ hlit.2 ⟨by simp,by simp⟩ (fun x hx=>by rw[List.mem_singleton.1 hx];omega) (by simp only[cgG];omega) (fun r hr=>by cases hr) (by simp only[rgG,List.length_nil];omega)
  refine KW.callW (W:=MkV nw none) (fun j hj=>by rw[hMkv j hj];exact hM2.mS) U U U U U key (fun v H6 S6 n6 t6 w6 hv6=>?_)
  obtain⟨cols,ow,rr,oo,hM,c1,c2,hrl,ok,hV,hW⟩:=hv6
  simp only[cgG,rgG,List.length_nil] at c2 hrl
  have hin:∀j,(MkV nw none j∨RV [] j∨j=nw+1∨New _ H6.n j)→S6 j:=fun j hj=>by
    rcases hj with h | ⟨x,hx,_⟩ | h | h
    · rw[hMkv j h];exact(t6 nw hM2.mS).1
    · cases hx
    · rw[h];exact(t6 _ hlit.1).1
    · exact w6 j h
  have hM6:MkrI p cols ow rr nw S6 H6 oo:=hM.mv fun j hj=>⟨hin j (hM.wS j hj),rfl⟩
  have hge:∀j,MkV nw oo j∨RV rr j→nw≤j:=fun j hj=>by
    rcases hj with h | h
    · rcases hW j h with h | h
      · rw[hMkv j h];exact Nat.le_refl _
      · have:=h.1;omega
    · rcases hV j h with⟨x,hx,_⟩ | h | h
      · cases hx
      · omega
      · have:=h.1;omega
  have old6:∀j,j<H.n→S6 j∧H6.m j=H.m j:=fun j hj=>by
    have h1:=t02 j hj
    exact⟨(t6 j h1.1).1,((t6 j h1.1).2 (fun hw=>by have:=hMkv j hw;omega)).trans h1.2⟩
  obtain⟨a1,d1,e1⟩:∃a1 d1,mkO oo ow.length=.slice a1 ow.length d1:=by
    cases oo with
    | none=>rw[show ow=[] from List.eq_nil_of_length_eq_zero (by rw[hM.len,hM.none_ rfl];rfl)];exact⟨none,0,rfl⟩
    | some ab=>exact⟨_,_,rfl⟩
  obtain⟨a2,d2,e2⟩:∃a2 d2,mkR oo rr.length=.slice a2 rr.length d2:=by
    cases oo with
    | none=>rw[hM.none_ rfl];exact⟨none,0,rfl⟩
    | some ab=>exact⟨_,_,rfl⟩
  have hmm:H6.m nw=some ⟨222,true,[.int .i64 p,.int .i64 cols,.slice a1 ow.length d1,.slice a2 rr.length d2]⟩:=by rw[← e1,← e2];exact hM.mm
  refine KW.thaw nw _ hM6.mS hmm ?_
  refine KW.build U U U U U (built_Matrix2 _ _) ?_
  refine KW.build U U U U U (built_Scheme3 _ _ _ _ _ _ _ _ _) ?_
  have hrr:∀(j:Nat) x,rr[j]?=some x→x.1≠nw:=fun j x hx e=>(hM.rb x (List.mem_of_getElem? hx)).2.2 (.inl e)
  refine KW.lpM U U (fun s:LgS=>[(0,.int .i64 p),(1,.int .i64 N),(6,.pointer (some ⟨H.n,0,some 0⟩)),(7,.int .i64 0),(8,.pointer (some ⟨nw,0,some 1⟩)),(9,.pointer (some ⟨H6.n,0,some 2⟩)),(10,.int .i64 s.i)]) (fun s=>s.S) (fun s=>s.A) (fun s=>[(H.n,⟨29,true,[.int .i64 0,.slice none 0 0,.int .i64 0,.int .i64 0,.slice none 0 0]⟩),(nw,⟨222,true,[.int .i64 p,.int .i64 cols,.slice a1 ow.length d1,.slice a2 rr.length d2]⟩),(H6.n,⟨29,true,[.int .i64 N,.slice a1 ow.length d1,.int .i64 p,.int .i64 cols,s.l]⟩)]++s.tail) (fun s=>LgI p cols oo ow rr H s) (fun s=>rr.length-s.i) (⟨0,fun j=>S6 j∧j≠nw,H6,[],.slice none 0 0,[]⟩) (⟨Nat.zero_le _,fun j hj=>⟨⟨(old6 j hj).1,by omega⟩,(old6 j hj).2⟩,fun a b e=>by obtain⟨h1,h2,h3,h4,h5,h6,h7⟩:=hM6.some_ a b e;exact⟨⟨h1,h3⟩,⟨h2,h4⟩,h6,h7,by have:=hge a (.inl (.inr ⟨a,b,e,.inl rfl⟩));omega⟩,fun j x _ hx=>by obtain⟨h1,h2,h3⟩:=hM6.rb x (List.mem_of_getElem? hx);exact⟨⟨h1,hrr j x hx⟩,h2⟩,fun x hx=>(by cases hx),rfl,.inl ⟨rfl,rfl,rfl⟩⟩) ⟨rfl,rfl,rfl,rfl,rfl,rfl,rfl,trivial⟩ U U (rfl) (fun s hi bE n=>?_)
  obtain⟨i,S7,A7,out,l,tail⟩:=s
  obtain⟨ile,old7,ab7,rest7,out7,ol,hform⟩:=hi
  simp only at ile old7 ab7 rest7 out7 ol hform
  haveI o7:On (Low H.n) H S7 A7:=⟨fun j hj=>old7 j hj⟩
  have hcolN:((cols.toNat:Nat):Int)=cols:=Int.toNat_of_nonneg (by omega)
  have hRect:Rect p cols.toNat (out.map Prod.snd):=fun r hr=>by
    obtain⟨x,hx,rfl⟩:=List.mem_map.1 hr
    obtain⟨_,_,_,⟨h1,h2⟩,_⟩:=out7 x hx
    exact⟨by omega,h2⟩
  rcases hform with⟨hi0,el,et⟩ | ⟨hi0,o,el,et⟩
  case' inl=>subst el et
  case' inr=>subst el et
  all_goals
    refine KW.cnd U U (fun k2=>?gin) (fun k2=>?gout)
    case gin=>
      have k2:(i:Int)<(rr.length:Int):=k2
      obtain⟨a,b,eoo⟩:∃a b,oo=some (a,b):=by
        cases h:oo with
        | none=>rw[hM.none_ h] at k2;simp at k2;omega
        | some ab=>exact⟨ab.1,ab.2,rfl⟩
      obtain⟨q1,q2,q3,q4,q5⟩:=ab7 a b eoo
      have e2':mkR (some (a,b)) rr.length=.slice a2 rr.length d2:=by rw[← eoo];exact e2
      cases e2'
      obtain⟨x,hx⟩:∃x,rr[i]?=some x:=⟨rr[i]'(by omega),List.getElem?_eq_getElem (by omega)⟩
      obtain⟨x1,x2⟩:=rest7 i x (Nat.le_refl _) hx
      have okx:=ok x (List.mem_of_getElem? hx)
      obtain⟨xo,xr⟩:=x
      simp only at x1 x2 okx
      refine KW.idx0 U U U U U U U U U (by omega) (k2) ?_
      refine KW.ldP q2 q4 U U U U U (bload_at (v:=rowV (xo,xr)) (by show(rr.map rowV)[0+((i:Nat):Int).toNat*1]?=_;rw[Int.toNat_natCast,Nat.zero_add,Nat.mul_one,List.getElem?_map,hx];rfl) U U) ?_
      refine KW.thaw xo _ x1 x2 ?_
      first
        | (refine KW.lpM U U (fun s:List Int × Nat=>[(0,.int .i64 p),(1,.int .i64 N),(6,.pointer (some ⟨H.n,0,some 0⟩)),(7,.int .i64 0),(8,.pointer (some ⟨nw,0,some 1⟩)),(9,.pointer (some ⟨H6.n,0,some 2⟩)),(10,.int .i64 i),(11,.slice (some ⟨s.2,0,some 1⟩) s.1.length s.1.length)]) (fun _=>fun j=>S7 j∧j≠xo) (fun _=>A7) (fun s=>[(H.n,⟨29,true,[.int .i64 0,.slice none 0 0,.int .i64 0,.int .i64 0,.slice none 0 0]⟩),(nw,⟨222,true,[.int .i64 p,.int .i64 cols,.slice a1 ow.length d1,.slice (some ⟨b,0,some 1⟩) rr.length rr.length]⟩),(H6.n,⟨29,true,[.int .i64 N,.slice a1 ow.length d1,.int .i64 p,.int .i64 cols,.slice (some ⟨o,0,some 1⟩) i i]⟩),(o,⟨24,true,out.map rowV⟩),(s.2,⟨2,true,s.1.map (Value.int .i64)⟩)]) (fun s=>(1≤s.1.length∧(s.1.length:Int)≤cols)∧∀y∈s.1,0≤y∧y<p) (fun s=>cols.toNat-s.1.length) (xr,xo) ⟨okx.1,okx.2⟩ ⟨rfl,rfl,rfl,rfl,rfl,rfl,rfl,rfl,trivial⟩ U U U (fun s hi bE n=>?_))
        | (refine KW.lpM U U (fun s:List Int × Nat=>[(0,.int .i64 p),(1,.int .i64 N),(6,.pointer (some ⟨H.n,0,some 0⟩)),(7,.int .i64 0),(8,.pointer (some ⟨nw,0,some 1⟩)),(9,.pointer (some ⟨H6.n,0,some 2⟩)),(10,.int .i64 i),(11,.slice (some ⟨s.2,0,some 1⟩) s.1.length s.1.length)]) (fun _=>fun j=>S7 j∧j≠xo) (fun _=>A7) (fun s=>[(H.n,⟨29,true,[.int .i64 0,.slice none 0 0,.int .i64 0,.int .i64 0,.slice none 0 0]⟩),(nw,⟨222,true,[.int .i64 p,.int .i64 cols,.slice a1 ow.length d1,.slice (some ⟨b,0,some 1⟩) rr.length rr.length]⟩),(H6.n,⟨29,true,[.int .i64 N,.slice a1 ow.length d1,.int .i64 p,.int .i64 cols,.slice none 0 0]⟩),(s.2,⟨2,true,s.1.map (Value.int .i64)⟩)]) (fun s=>(1≤s.1.length∧(s.1.length:Int)≤cols)∧∀y∈s.1,0≤y∧y<p) (fun s=>cols.toNat-s.1.length) (xr,xo) ⟨okx.1,okx.2⟩ ⟨rfl,rfl,rfl,rfl,rfl,rfl,rfl,rfl,trivial⟩ U U U (fun s hi bE n=>?_))
      obtain⟨xs,o4⟩:=s
      obtain⟨⟨x0,x3⟩,x4⟩:=hi
      simp only at x0 x3 x4
      refine KW.cnd U U (fun k3=>?_) (fun k3=>?_)
      · have k3:(xs.length:Int)<cols:=k3
        first
          | (refine KW.app1 (xs:=xs.map (Value.int .i64)) (v:=.int .i64 0) 4 5 U U U U U U U U U U U U U U U U U U U U U U U (by simp) (by show(xs.length+1)*8≤_;omega) (by omega) ?_
             exact KW.nxt U U (fun H' g=>⟨(xs++[0],_),⟨⟨by simp only[List.length_append,List.length_singleton];omega,by simp only[List.length_append,List.length_singleton];omega⟩,fun y hy=>(List.mem_append.1 hy).elim (x4 y) (fun hy=>by rw[List.mem_singleton.1 hy];omega)⟩,by simp only[List.length_append,List.length_singleton];omega,⟨rfl,rfl,rfl,rfl,rfl,rfl,rfl,by simp only[List.length_append,List.length_singleton];rfl,trivial⟩,g.eqT (by simp only[List.map_append];rfl)⟩))
          | (refine KW.app1 (xs:=xs.map (Value.int .i64)) (v:=.int .i64 0) 3 4 U U U U U U U U U U U U U U U U U U U U U U U (by simp) (by show(xs.length+1)*8≤_;omega) (by omega) ?_
             exact KW.nxt U U (fun H' g=>⟨(xs++[0],_),⟨⟨by simp only[List.length_append,List.length_singleton];omega,by simp only[List.length_append,List.length_singleton];omega⟩,fun y hy=>(List.mem_append.1 hy).elim (x4 y) (fun hy=>by rw[List.mem_singleton.1 hy];omega)⟩,by simp only[List.length_append,List.length_singleton];omega,⟨rfl,rfl,rfl,rfl,rfl,rfl,rfl,by simp only[List.length_append,List.length_singleton];rfl,trivial⟩,g.eqT (by simp only[List.map_append];rfl)⟩))
      · have k3:¬(xs.length:Int)<cols:=k3
        have hxm:=List.mem_of_getElem? hx
        have hxW:=(hM.rb _ hxm).2.2
        simp only at hxW
        have hxn:nw≤xo:=hge xo (.inr ⟨_,hxm,rfl⟩)
        have hdiff:∀j z,i+1≤j→rr[j]?=some z→z.1≠xo:=fun j z hj hz e=>by
          have h1:(rr.map Prod.fst)[i]?=some xo:=by rw[List.getElem?_map,hx];rfl
          have h2:(rr.map Prod.fst)[j]?=some xo:=by rw[List.getElem?_map,hz];exact congrArg some e
          have:=(List.getElem?_inj (by rw[List.length_map];omega) hM.nd).1 (h1.trans h2.symm)
          omega
        have step:∀(A':AH) (S':Ids),(∀id,S' id↔(S7 id∧id≠xo)∨id=o4)→St (fun j=>S7 j∧j≠xo) A7 S' A'→¬(S7 o4∧o4≠xo)→A'.m o4=some ⟨2,true,xs.map (Value.int .i64)⟩→∀(l':Value) (tl':List Var),((i+1=0∧l'=.slice none 0 0∧tl'=[])∨(0<i+1∧∃o,l'=.slice (some ⟨o,0,some 1⟩) (i+1) (i+1)∧tl'=[(o,⟨24,true,(out++[(o4,xs)]).map rowV⟩)]))→LgI p cols oo ow rr H ⟨i+1,S',A',out++[(o4,xs)],l',tl'⟩:=fun A' S' h1 h2 h3 h4 l' tl' h5=>by
          have mv:∀j,S7 j→j≠xo→S' j∧A'.m j=A7.m j:=fun j hj he=>h2 j ⟨hj,he⟩
          refine⟨by simp only;omega,fun j hj=>?_,fun a' b' e=>?_,fun j z hj hz=>?_,fun z hz=>?_,by simp only[List.length_append,List.length_singleton];omega,h5⟩
          · have:=mv j (old7 j hj).1 (by omega)
            exact⟨this.1,this.2.trans (old7 j hj).2⟩
          · obtain⟨r1,r2,r3,r4,r5⟩:=ab7 a' b' e
            have m1:=mv a' r1 (fun e'=>hxW (.inr ⟨a',b',e,.inl e'.symm⟩))
            have m2:=mv b' r2 (fun e'=>hxW (.inr ⟨a',b',e,.inr e'.symm⟩))
            exact⟨m1.1,m2.1,m1.2.trans r3,m2.2.trans r4,r5⟩
          · have hj:i+1≤j:=hj
            obtain⟨r1,r2⟩:=rest7 j z (by omega) hz
            have m1:=mv z.1 r1 (hdiff j z hj hz)
            exact⟨m1.1,m1.2.trans r2⟩
          · rcases List.mem_append.1 hz with hz | hz
            · obtain⟨r1,r2,r3,r4,r5,r6⟩:=out7 z hz
              have m1:=mv z.1 r1 (fun e=>r5 i _ (Nat.le_refl _) hx e.symm)
              exact⟨m1.1,m1.2.trans r2,r3,r4,fun j y hj hy=>r5 j y (by have hj:i+1≤j:=hj;omega) hy,r6⟩
            · rw[List.mem_singleton.1 hz]
              refine⟨(h1 _).2 (.inr rfl),h4,?_,⟨by show(xs.length:Int)=cols;omega,x4⟩,fun j y hj hy e=>?_,fun a' b' e=>?_⟩
              · rcases Nat.lt_or_ge o4 H.n with h | h
                · exact absurd ⟨(old7 o4 h).1,by omega⟩ h3
                · exact h
              · have hj:i+1≤j:=hj
                have e:y.1=o4:=e
                obtain⟨r1,_⟩:=rest7 j y (by omega) hy
                exact h3 (e ▸ ⟨r1,hdiff j y hj hy⟩)
              · obtain⟨r1,r2,_⟩:=ab7 a' b' e
                exact⟨fun e'=>h3 (by have e':a'=o4:=e';rw[← e'];exact⟨r1,fun e''=>hxW (.inr ⟨a',b',e,.inl e''.symm⟩)⟩),fun e'=>h3 (by have e':b'=o4:=e';rw[← e'];exact⟨r2,fun e''=>hxW (.inr ⟨a',b',e,.inr e''.symm⟩)⟩)⟩
        first
          | (refine KW.freeze 4 rfl (fun A' S' hnA hSA stA hmA hoA hnS hlow2=>?_)
             have key9:=step A' S' hSA stA.st hnS hmA
             refine KW.app1 (xs:=out.map rowV) (v:=rowV (o4,xs)) 3 4 U U U U U U U U U U U U U U U U U U U U U U U (by simp[ol]) (by show(_+1)*24≤_;omega) (by omega) ?_
             exact KW.nxt U U (fun H' g=>⟨⟨i+1,S',A',out++[(o4,xs)],.slice (some ⟨n+1,0,some 1⟩) (i+1) (i+1),[(n+1,⟨24,true,(out++[(o4,xs)]).map rowV⟩)]⟩,key9 _ _ (.inr ⟨by omega,_,rfl,rfl⟩),by simp only;omega,⟨rfl,rfl,rfl,rfl,rfl,rfl,congrArg (Value.int .i64) (inc64 (by omega)),trivial⟩,g.eqT (by simp only[List.map_append];rfl)⟩))
          | (refine KW.freeze 3 rfl (fun A' S' hnA hSA stA hmA hoA hnS hlow2=>?_)
             have key9:=step A' S' hSA stA.st hnS hmA
             have ho0:out=[]:=List.eq_nil_of_length_eq_zero (by omega)
             subst ho0
             subst hi0
             refine KW.app0 (v:=rowV (o4,xs)) 3 U U U U U U U U U U U U U U U U U U U U U U (by decide) ?_
             exact KW.nxt U U (fun H' g=>⟨⟨1,S',A',[(o4,xs)],.slice (some ⟨n+1,0,some 1⟩) (1) (1),[(n+1,⟨24,true,([(o4,xs)]).map rowV⟩)]⟩,key9 _ _ (.inr ⟨by omega,_,rfl,rfl⟩),by simp only;omega,⟨rfl,rfl,rfl,rfl,rfl,rfl,rfl,trivial⟩,g.eqT (by simp only[List.map_append];rfl)⟩))
    case gout=>
      have k2:¬(i:Int)<(rr.length:Int):=k2
      have hl:(out.map Prod.snd).length=i:=by rw[List.length_map];exact ol
      have hown:∀{X:Ids} {H9:AH},(∀j,S7 j→H.n≤j→X j∧H9.m j=A7.m j)→KI.Sl X H9 (.slice a1 ow.length d1) ow:=fun {X H9} hf=>by
        cases hoo:oo with
        | none=>
          have h0:ow=[]:=List.eq_nil_of_length_eq_zero (by rw[hM.len,hM.none_ hoo];rfl)
          rw[hoo] at e1
          subst h0
          cases e1
          exact .inl ⟨rfl,none,0,rfl,fun _=>rfl⟩
        | some ab=>
          obtain⟨a,b⟩:=ab
          obtain⟨r1,r2,r3,r4,r5⟩:=ab7 a b hoo
          rw[hoo] at e1
          cases e1
          have h1:=hf a r1 r5
          exact(row_ml (h1.2.trans r3)).sl.more (fun j hj=>by rw[hj];exact h1.1)
      have hB2:B_Int64SS (out.map Prod.snd):=rect_sml hRect (by omega) (by rw[hl];omega)
      have hO2:B_Int64S ow:=by show ow.length≤_;rw[hM.len];omega
      have hp64:I64 p:=⟨by omega,by omega⟩
      first
        | (have key:=fun(H1:AH) (T9:List Var) (n9:Nat) (g:Good S7 A7 T9 n9 H1) (hb:H1.m o=some ⟨24,true,out.map rowV⟩∧o<H1.n)=>l04Told (S:=Low H1.n) (H0:=H1) N p cols hp64 (a1:=a1) (c1:=d1) (ow:=ow) (a2:=some ⟨o,0,some 1⟩) (c2:=out.length) (rows:=out.map Prod.snd) hO2 hB2 (hown (fun j hj _=>⟨by have:=(g.froz j hj).1;have:=g.n_;show j<H1.n;omega,(g.froz j hj).2⟩)) (by rw[List.length_map];exact rows_sl (X:=Low H1.n) hb.2 hb.1 (fun x hx=>by obtain⟨r1,r2,_⟩:=out7 x hx;exact⟨by have:=(g.froz x.1 r1).1;have:=g.n_;show x.1<H1.n;omega,(g.froz x.1 r1).2.trans r2⟩))
           rw[hl] at key
           rw[ol] at key
           refine KW.callVp1 U U U U U (fun H1 g _=>key H1 _ _ g (g.blk (j:=3) rfl)) (fun v n9 m9 hv=>?_)
           rcases hv with⟨hk,rfl⟩ | rfl
           · refine KW.retM1 U U U U (fun H9 g=>?_)
             refine⟨N,p,cols,a1,some ⟨o,0,some 1⟩,ow.length,d1,i,i,0,rfl,fun _=>⟨ow,out.map Prod.snd,rfl,hl.symm,hk,rfl,rfl,hown (fun j hj hjn=>⟨⟨hjn,by have:=(g.froz j hj).1;have:=g.n_;omega⟩,(g.froz j hj).2⟩),?_⟩⟩
             have hb:=g.blk (j:=3) rfl
             have hgv:=(g.vars 3 _ rfl).2.2
             have ogeH:H.n≤o:=by
               rcases Nat.lt_or_ge o H.n with h | h
               · exact absurd (old7 o h).1 hgv
               · exact h
             have h9:=rows_sl (X:=New H.n H9.n) (A:=H9) (o:=o) (out:=out) ⟨ogeH,hb.2⟩ hb.1 (fun x hx=>by obtain⟨r1,r2,r3,_⟩:=out7 x hx;exact⟨⟨r3,by have:=(g.froz x.1 r1).1;have:=g.n_;omega⟩,(g.froz x.1 r1).2.trans r2⟩)
             rw[ol] at h9
             rw[hl]
             exact h9
           · refine KW.retM1 U U U U (fun H9 g=>?_)
             exact⟨0,0,0,none,none,0,0,0,0,3,rfl,fun h=>by cases h⟩)
        | (have ho0:out=[]:=List.eq_nil_of_length_eq_zero (by omega)
           subst ho0
           have key:=fun(H1:AH) (T9:List Var) (n9:Nat) (g:Good S7 A7 T9 n9 H1)=>l04Told (S:=Low H1.n) (H0:=H1) N p cols hp64 (a1:=a1) (c1:=d1) (ow:=ow) (a2:=none) (c2:=0) (rows:=[]) hO2 hB2 (hown (fun j hj _=>⟨by have:=(g.froz j hj).1;have:=g.n_;show j<H1.n;omega,(g.froz j hj).2⟩)) (.inl ⟨rfl,none,0,rfl,fun _=>rfl⟩)
           refine KW.callVp1 U U U U U (fun H1 g _=>key H1 _ _ g) (fun v n9 m9 hv=>?_)
           rcases hv with⟨hk,rfl⟩ | rfl
           · refine KW.retM1 U U U U (fun H9 g=>?_)
             exact⟨N,p,cols,a1,none,ow.length,d1,0,0,0,rfl,fun _=>⟨ow,[],rfl,rfl,hk,rfl,rfl,hown (fun j hj hjn=>⟨⟨hjn,by have:=(g.froz j hj).1;have:=g.n_;omega⟩,(g.froz j hj).2⟩),.inl ⟨rfl,none,0,rfl,fun _=>rfl⟩⟩⟩
           · refine KW.retM1 U U U U (fun H9 g=>?_)
             exact⟨0,0,0,none,none,0,0,0,0,3,rfl,fun h=>by cases h⟩)
end
def powR (p x:Int) (c:Nat):List Int:=(List.range c).map fun k=>pw p x k
theorem powR_len {p x:Int} {c:Nat}:(powR p x c).length=c:=by simp[powR]
theorem powR_next {p x:Int} {c:Nat}:powR p x (c+1)=powR p x c++[pw p x c]:=by simp[powR,List.range_succ]
theorem powR_rect {p:Int} (hp:2≤p) {c:Nat} {xs:List Int}:Rect p c (xs.map fun x=>powR p x c):=fun r hr=>by
  obtain⟨x,_,rfl⟩:=List.mem_map.1 hr
  refine⟨powR_len,fun y hy=>?_⟩
  obtain⟨k,_,rfl⟩:=List.mem_map.1 hy
  exact pw_ok hp k
section
variable {S:Ids} {H0:AH}
theorem l03Powers {p:Int} (hp31:2≤p∧p≤31) {c:Nat} (hc:c≤20) {xs:List Int} (hxl:xs.length≤20) (hx:∀x∈xs,0≤x∧x<p) {a1 c1} (hs0:KI.Sl S H0 (.slice a1 xs.length c1) xs):SpecM Tryz.prog S H0 148 [.int .i64 p,.slice a1 xs.length c1,.int .i64 c] (MkMx p c (xs.map fun x=>powR p x c)):=by
  refine SpecM.of1 Tryz.func148 rfl (by kernel_rfl) rfl (fun H _=>?_)
  have hs:=hs0.up (S':=Low H.n) (H':=H)
  refine KW.build U U U U U (built_Matrix2 _ _) ?_
  refine KW.lpM U U (fun s:CpS=>[(0,.int .i64 p),(1,.slice a1 xs.length c1),(2,.int .i64 c),(6,.pointer (some ⟨H.n,0,some 0⟩)),(7,.pointer (some ⟨H.n+1,0,some 1⟩)),(8,.int .i64 s.i)]) (fun s=>s.S) (fun s=>s.A) (fun s=>[(H.n,⟨27,true,[.int .i64 0,.int .i64 0,.slice none 0 0]⟩),(H.n+1,⟨27,true,[.int .i64 p,.int .i64 c,s.l]⟩)]++s.tail) (fun s=>CqI (fun x=>powR p x c) xs H H (Low H.n) s) (fun s=>xs.length-s.i) (⟨0,Low H.n,H,fun _=>False,[],.slice none 0 0,[]⟩) (⟨RwI.start,.inl ⟨rfl,rfl,rfl,rfl⟩⟩) ⟨rfl,rfl,rfl,rfl,rfl,rfl,trivial⟩ U U (rfl) (fun s hi bE n=>?_)
  obtain⟨i,S1,A1,V,cs,l,tail⟩:=s
  obtain⟨hq,hform⟩:=hi
  simp only at hq hform
  haveI:Stp (Low H.n) H S1 A1:=⟨hq.old⟩
  have hle:=hq.le
  have hcl:=hq.b.len
  rw[List.length_map,List.length_take] at hcl
  simp only at hle hcl
  have hs1:=hs.up (S':=S1) (H':=A1)
  rcases hform with⟨hi0,e1,e2,e3⟩ | ⟨hi0,o,e1,e2⟩
  case' inl=>subst e1 e2 e3
  case' inr=>subst e1 e2
  all_goals
    refine KW.cnd U U (fun j1=>?gin) (fun j1=>?gout)
    case gin=>
      have j1:(i:Int)<(xs.length:Int):=j1
      obtain⟨y,hy⟩:∃y,xs[i]?=some y:=⟨xs[i]'(by omega),List.getElem?_eq_getElem (by omega)⟩
      have hyb:=hx y (List.mem_of_getElem? hy)
      refine KW.lit U U U U U U U U U U [] U U (fun v hv=>by simp at hv) rfl ?_
      first
        | (refine KW.lpM U U (fun s:Nat × Nat=>[(0,.int .i64 p),(1,.slice a1 xs.length c1),(2,.int .i64 c),(6,.pointer (some ⟨H.n,0,some 0⟩)),(7,.pointer (some ⟨H.n+1,0,some 1⟩)),(8,.int .i64 i),(9,.slice (some ⟨s.2,0,some 1⟩) s.1 s.1),(10,.int .i64 s.1)]) (fun _=>S1) (fun _=>A1) (fun s=>[(H.n,⟨27,true,[.int .i64 0,.int .i64 0,.slice none 0 0]⟩),(H.n+1,⟨27,true,[.int .i64 p,.int .i64 c,.slice (some ⟨o,0,some 1⟩) i i]⟩),(o,⟨24,true,cs⟩),(s.2,⟨2,true,(powR p y s.1).map (Value.int .i64)⟩)]) (fun s=>s.1≤c) (fun s=>c-s.1) (0,_) (Nat.zero_le _) ⟨rfl,rfl,rfl,rfl,rfl,rfl,rfl,rfl,trivial⟩ U U U (fun s hi bE n=>?_))
        | (refine KW.lpM U U (fun s:Nat × Nat=>[(0,.int .i64 p),(1,.slice a1 xs.length c1),(2,.int .i64 c),(6,.pointer (some ⟨H.n,0,some 0⟩)),(7,.pointer (some ⟨H.n+1,0,some 1⟩)),(8,.int .i64 i),(9,.slice (some ⟨s.2,0,some 1⟩) s.1 s.1),(10,.int .i64 s.1)]) (fun _=>S1) (fun _=>A1) (fun s=>[(H.n,⟨27,true,[.int .i64 0,.int .i64 0,.slice none 0 0]⟩),(H.n+1,⟨27,true,[.int .i64 p,.int .i64 c,.slice none 0 0]⟩),(s.2,⟨2,true,(powR p y s.1).map (Value.int .i64)⟩)]) (fun s=>s.1≤c) (fun s=>c-s.1) (0,_) (Nat.zero_le _) ⟨rfl,rfl,rfl,rfl,rfl,rfl,rfl,rfl,trivial⟩ U U U (fun s hi bE n=>?_))
      obtain⟨k,o4⟩:=s
      simp only at hi
      refine KW.cnd U U (fun k2=>?_) (fun k2=>?_)
      · have k2:(k:Int)<(c:Int):=k2
        refine KW.getI hs1 U U U U U U U U U U U U U U U U (by omega) (j1) (fun y2 hy2=>?_)
        have hy2:xs[i]?=some y2:=hy2
        rw[hy] at hy2
        cases hy2
        refine KW.callE U U U U U (l03Power p y (k:Int) hp31 hyb (by omega)) (fun _ _=>?_)
        rw[Int.toNat_natCast]
        first
          | (refine KW.app1 (xs:=(powR p y k).map (Value.int .i64)) (v:=.int .i64 (pw p y k)) 3 4 U U U U U U U U U U U U U U U U U U U U U U U (by simp[powR_len]) (by show(k+1)*8≤_;omega) (by show k+1≤_;omega) ?_
             exact KW.nxt U U (fun H' g=>⟨(k+1,_),by simp only;omega,by simp only;omega,⟨rfl,rfl,rfl,rfl,rfl,rfl,rfl,congrArg (Value.int .i64) (inc64 (by omega)),trivial⟩,g.eqT (by rw[powR_next,List.map_append];rfl)⟩))
          | (refine KW.app1 (xs:=(powR p y k).map (Value.int .i64)) (v:=.int .i64 (pw p y k)) 2 3 U U U U U U U U U U U U U U U U U U U U U U U (by simp[powR_len]) (by show(k+1)*8≤_;omega) (by show k+1≤_;omega) ?_
             exact KW.nxt U U (fun H' g=>⟨(k+1,_),by simp only;omega,by simp only;omega,⟨rfl,rfl,rfl,rfl,rfl,rfl,rfl,congrArg (Value.int .i64) (inc64 (by omega)),trivial⟩,g.eqT (by rw[powR_next,List.map_append];rfl)⟩))
      · have k2:¬(k:Int)<(c:Int):=k2
        obtain rfl:k=c:=by omega
        have fin:∀(A':AH) (S':Ids) (o9:Nat),(∀id,S' id↔S1 id∨id=o9)→St S1 A1 S' A'→¬S1 o9→St S1 A1 S' A'∧(∀id,id=o9→S' id∧H.n≤id∧¬S1 id):=fun A' S' o9 h1 h2 h3=>by
          refine⟨h2,fun id e=>?_⟩
          subst e
          refine⟨(h1 _).2 (.inr rfl),?_,h3⟩
          rcases Nat.lt_or_ge id H.n with h | h
          · exact absurd (hq.old id h).1 h3
          · exact h
        have epl:(powR p y k).length=k:=powR_len
        first
          | (refine KW.freeze 3 rfl (fun A' S' hnA hSA stA hmA hoA hnS hlow2=>?_)
             obtain⟨f1,f2⟩:=fin A' S' _ hSA stA.st hnS
             have hrow:=row_ml (xs:=powR p y k) hmA
             rw[epl] at hrow
             refine KW.app1 (xs:=cs) (v:=.slice (some ⟨o4,0,some 1⟩) k k) 2 3 U U U U U U U U U U U U U U U U U U U U U U U (by omega) (by show(_+1)*24≤_;omega) (by omega) ?_
             exact KW.nxt U U (fun H' g=>⟨⟨i+1,S',A',_,_,_,_⟩,⟨hq.nextX (o':=0) f1 f2 hy hrow,.inr ⟨by simp only;omega,_,rfl,rfl⟩⟩,by simp only;omega,⟨rfl,rfl,rfl,rfl,rfl,congrArg (Value.int .i64) (inc64 (by omega)),trivial⟩,g⟩))
          | (refine KW.freeze 2 rfl (fun A' S' hnA hSA stA hmA hoA hnS hlow2=>?_)
             obtain⟨f1,f2⟩:=fin A' S' _ hSA stA.st hnS
             have hrow:=row_ml (xs:=powR p y k) hmA
             rw[epl] at hrow
             refine KW.app0 (v:=.slice (some ⟨o4,0,some 1⟩) k k) 2 U U U U U U U U U U U U U U U U U U U U U U (by decide) ?_
             subst hi0
             exact KW.nxt U U (fun H' g=>⟨⟨1,S',A',_,_,_,_⟩,⟨hq.nextX (o':=0) f1 f2 hy hrow,.inr ⟨by simp only;omega,_,rfl,rfl⟩⟩,by simp only;omega,⟨rfl,rfl,rfl,rfl,rfl,rfl,trivial⟩,g⟩))
    case gout=>
      have j1:¬(i:Int)<(xs.length:Int):=j1
      have he:i=xs.length:=by omega
      have el:(xs.map fun x=>powR p x c).length=xs.length:=List.length_map ..
      refine KW.retM1 U U U U (fun H1 g=>?_)
      first
        | (have h0:xs=[]:=List.eq_nil_of_length_eq_zero (by omega)
           subst h0
           exact⟨none,0,rfl,.inl ⟨rfl,_,_,rfl,fun _=>rfl⟩⟩)
        | (refine⟨some ⟨o,0,some 1⟩,i,by rw[el,← he];rfl,?_⟩
           have hm:=((⟨hq.le,hq.old,hq.b,hq.v⟩:RwI (fun x=>powR p x c) xs H (Low H.n) H ⟨i,S1,A1,V,cs,o⟩).ml he g (j:=2) rfl (g.ge (H1:=H) (j:=2) rfl)).to (KLe.row (KLe.refl KI))
           rw[el]
           rw[← he] at hm ⊢
           exact hm)
def upI (b:Int) (c:Nat):List Int:=(List.range c).map fun(k:Nat)=>b+(k:Int)
theorem upI_len {b:Int} {c:Nat}:(upI b c).length=c:=by simp[upI]
theorem upI_next {b:Int} {c:Nat}:upI b (c+1)=upI b c++[b+(c:Int)]:=by simp[upI,List.range_succ]
theorem upI_in {b:Int} {c:Nat} {x:Int} (h:x∈upI b c):b≤x∧x<b+c:=by
  obtain⟨k,hk,rfl⟩:=List.mem_map.1 h
  have:=List.mem_range.1 hk
  omega
def ScP (m:Nat) (H1:AH) (cs:List Value):Prop:=
  ∃(h p c:Int) (ow:List Int) (rows:List (List Int)) (a1 a2:Option Addr) (c1 c2:Nat),cs=[.int .i64 h,.slice a1 ow.length c1,.int .i64 p,.int .i64 c,.slice a2 rows.length c2]∧OkSch h ow p c rows∧KI.Sl (New m H1.n) H1 (.slice a1 ow.length c1) ow∧KI.sl.Sl (New m H1.n) H1 (.slice a2 rows.length c2) rows
theorem prime_small {p:Int} (hp:p=2∨p=3∨p=5∨p=7∨p=11):PrimeP p:=by
  rcases hp with rfl | rfl | rfl | rfl | rfl
  · exact⟨by decide,by decide,fun d h2 hd=>by omega⟩
  · exact⟨by decide,by decide,fun d h2 hd=>(by decide:∀d:Nat,d<11→2≤d→(d:Int)<3→¬(3:Int)%(d:Int)=0) d (by omega) h2 hd⟩
  · exact⟨by decide,by decide,fun d h2 hd=>(by decide:∀d:Nat,d<11→2≤d→(d:Int)<5→¬(5:Int)%(d:Int)=0) d (by omega) h2 hd⟩
  · exact⟨by decide,by decide,fun d h2 hd=>(by decide:∀d:Nat,d<11→2≤d→(d:Int)<7→¬(7:Int)%(d:Int)=0) d (by omega) h2 hd⟩
  · exact⟨by decide,by decide,fun d h2 hd=>(by decide:∀d:Nat,d<11→2≤d→(d:Int)<11→¬(11:Int)%(d:Int)=0) d (by omega) h2 hd⟩
theorem curve {p:Int} (hp:p=5∨p=7∨p=11) {q least:Nat} (hn:1≤q∧q≤4) (hl:1≤least∧least≤q):SpecM Tryz.prog S H0 69 [.int .i64 p,.int .i64 q,.int .i64 least] (fun m v H1=>∃cs:List Value,v=.tuple #[.agg cs.toArray,.int .i64 0]∧ScP m H1 cs):=by
  have hpr:PrimeP p:=prime_small (by omega)
  have hp31:2≤p∧p≤31:=⟨hpr.1,hpr.2.1⟩
  refine SpecM.of1 Tryz.func69 rfl (by kernel_rfl) rfl (fun H _=>?_)
  refine KW.callE U U U U U (specIsPrime p) (fun _ _=>?_)
  rw[tv_true hpr]
  refine KW.tF U U (by first | (simp;done) | decide) ?_
  refine KW.callE U U U U U (l00In _ _ _) (fun _ _=>?_)
  refine KW.tF U U (by simp;omega) ?_
  refine KW.callE U U U U U (l00In _ _ _) (fun _ _=>?_)
  refine KW.cF U U (by simp;omega) ?_
  refine KW.no U U (by omega) ?_
  refine KW.lit U U U U U U U U U U [] U U (fun v hv=>by simp at hv) rfl ?_
  refine KW.lit U U U U U U U U U U [] U U (fun v hv=>by simp at hv) rfl ?_
  refine KW.lpM U U (fun s:Nat × Nat × Nat=>[(0,.int .i64 p),(1,.int .i64 q),(2,.int .i64 least),(6,.pointer (some ⟨H.n,0,some 0⟩)),(8,.slice (some ⟨s.2.1,0,some 1⟩) s.1 s.1),(9,.slice (some ⟨s.2.2,0,some 1⟩) s.1 s.1),(10,.int .i64 s.1)]) (fun s=>Low H.n) (fun s=>H) (fun s=>[(H.n,⟨29,true,[.int .i64 0,.slice none 0 0,.int .i64 0,.int .i64 0,.slice none 0 0]⟩),(s.2.1,⟨2,true,(upI 1 s.1).map (Value.int .i64)⟩),(s.2.2,⟨2,true,(upI 0 s.1).map (Value.int .i64)⟩)]) (fun s=>s.1≤q) (fun s=>q-s.1) ((0,_,_)) (Nat.zero_le _) ⟨rfl,rfl,rfl,rfl,rfl,rfl,rfl,trivial⟩ U U (rfl) (fun s hi bE n=>?_)
  obtain⟨i,o1,o2⟩:=s
  simp only at hi
  refine KW.fact (p:=H.n<n) (fun H1 g=>(g.vars 0 _ rfl).2.1) (fun hfn=>?_)
  refine KW.cnd U U (fun k1=>?_) (fun k1=>?_)
  · have k1:(i:Int)<(q:Int):=k1
    have e1:IntKind.i64.wrap ((i:Int)+1)=1+(i:Int):=by rw[wr (by omega) (by omega)];omega
    refine KW.app1 (xs:=(upI 1 i).map (Value.int .i64)) (v:=.int .i64 (IntKind.i64.wrap ((i:Int)+1))) 1 3 U U U U U U U U U U U U U U U U U U U U U U U (by simp[upI_len]) (by show(i+1)*8≤_;omega) (by show i+1≤_;omega) ?_
    refine KW.app1 (xs:=(upI 0 i).map (Value.int .i64)) (v:=.int .i64 i) 2 3 U U U U U U U U U U U U U U U U U U U U U U U (by simp[upI_len]) (by show(i+1)*8≤_;omega) (by show i+1≤_;omega) ?_
    refine KW.nxt U U (fun H' g=>⟨(i+1,_,_),by simp only;omega,by first | omega | (simp only;omega),⟨rfl,rfl,rfl,rfl,rfl,rfl,congrArg (Value.int .i64) (inc64 (by omega)),trivial⟩,g.eqT (by simp only[upI_next,List.map_append,e1,Int.zero_add];rfl)⟩)
  · have k1:¬(i:Int)<(q:Int):=k1
    have e:i=q:=by omega
    have hup:∀x∈upI 1 i,0≤x∧x<p:=fun x hx=>by have:=upI_in hx;omega
    have key:=fun(H1:AH) (hb:H1.m o1=some ⟨2,true,(upI 1 i).map (Value.int .i64)⟩∧o1<H1.n)=>l03Powers (S:=Low H1.n) (H0:=H1) (p:=p) hp31 (c:=least) (by omega) (xs:=upI 1 i) (by rw[upI_len];omega) hup (a1:=some ⟨o1,0,some 1⟩) (c1:=(upI 1 i).length) ((row_ml hb.1).sl.more (fun id h=>by rw[h];exact hb.2))
    rw[upI_len] at key
    refine KW.callNV1 U U U U U (fun H1 g _=>key H1 (g.blk (j:=1) rfl)) (fun v HP SP mP tP wP hv=>?_)
    obtain⟨a5,c5,rfl,hP⟩:=hv
    have hlen:((upI 1 i).map fun x=>powR p x least).length=i:=by rw[List.length_map,upI_len]
    rw[hlen] at hP ⊢
    have hR:Rect p least ((upI 1 i).map fun x=>powR p x least):=powR_rect hp31.1
    have hok:OkSch (q:Int) (upI 0 i) p least ((upI 1 i).map fun x=>powR p x least):=⟨by omega,by omega,⟨hpr,by omega,by omega,by rw[hlen];omega,fun r hr=>⟨by have:=(hR r hr).1;omega,fun y hy=>by have:=(hR r hr).2 y hy;omega⟩⟩,by omega,by rw[upI_len,hlen],fun y hy=>by have:=upI_in hy;omega⟩
    refine KW.build U U U U U (built_Scheme3 _ _ _ _ _ _ _ _ _) ?_
    refine KW.retM1 U U U U (fun H1 g=>?_)
    have hb:=g.blk (j:=2) rfl
    have hnv:=(g.vars 2 _ rfl).2.2
    have oge:H.n≤o2:=by
      rcases Nat.lt_or_ge o2 H.n with h | h
      · exact absurd (tP.st o2 h).1 hnv
      · exact h
    haveI:=g.out (X:=New n HP.n) (H:=HP) (lo:=H.n) (fun id hid=>by have:=hid.1;omega)
    have h1:KI.Sl (New H.n H1.n) H1 (.slice (some ⟨o2,0,some 1⟩) (upI 0 i).length (upI 0 i).length) (upI 0 i):=(row_ml hb.1).sl.more (fun id h=>by rw[h];exact⟨oge,hb.2⟩)
    refine⟨_,rfl,q,p,least,upI 0 i,(upI 1 i).map (fun x=>powR p x least),some ⟨o2,0,some 1⟩,a5,(upI 0 i).length,c5,by rw[upI_len,hlen];rfl,hok,h1,?_⟩
    rw[hlen]
    exact hP.up
end
structure FlS where
 i:Nat
 S:Ids
 A:AH
 at_:Nat
 V:Ids
 G:List (List Int)
 cs:List Value
 l:Value
 tail:List Var
structure FlI (p:Int) (k a0:Nat) (H:AH) (id:Nat) (ac:Option Addr) (n cc:Nat) (s:FlS):Prop where
 env:DwE H id s.S s.A
 src:Src ac n cc s.A id s.at_
 at1:s.at_≤a0+20*s.i
 len:s.G.length=s.i
 b:RowsB KI.ml s.S s.A s.V s.G s.cs
 v:∀i,s.V i→H.n≤i
 ok:Rect p k s.G
 form:(s.i=0∧s.l=.slice none 0 0∧s.tail=[]∧s.cs=[])∨(0<s.i∧∃o,s.l=.slice (some ⟨o,0,some 1⟩) s.i s.i∧s.tail=[(o,⟨24,true,s.cs⟩)])
structure FiI (p:Int) (a0:Nat) (H:AH) (id:Nat) (ac:Option Addr) (n cc:Nat) (V:Ids) (G:List (List Int)) (cs:List Value) (s:DiS):Prop where
 env:DwE H id s.S s.A
 src:Src ac n cc s.A id s.at_
 at1:s.at_≤a0+2*s.h
 b:RowsB KI.ml s.S s.A V G cs
 ok:∀x∈s.xs,0≤x∧x<p
 len:s.xs.length=s.h
section
variable {S:Ids} {H0:AH}
theorem l03Filled {bs:List Int} (hb:∀x∈bs,0≤x∧x<256) (hl:bs.length≤1048576) {ac:Option Addr} {cc id at_:Nat} {Y:Ids} {p:Int} (hp:2≤p∧p≤31) {rs k:Nat} (hrs:rs≤6) (hk:k≤6) (hat:at_≤700000) (hS:S id) (hY:∀i,Y i→S i∧i≠id) (hsrc:Src ac bs.length cc H0 id at_) (hs:KB.Sl Y H0 (.slice ac bs.length cc) bs):
  SpecW Tryz.prog S H0 (fun i=>i=id) 195 [.pointer (some ⟨id,0,none⟩),.int .i64 p,.int .i64 rs,.int .i64 k] (fun n v H1=>∃(L:List (List Int)) (at':Nat),L.length=rs∧Rect p k L∧at'≤at_+200∧MkMo p k L n v H1∧Src ac bs.length cc H1 id at'):=by
 refine SpecW.of0 Tryz.func195 rfl (by kernel_rfl) rfl (fun H hfin hfz=>?_)
 have fx:∀i,S i→Low H.n i∧H.m i=H0.m i:=fun i hi=>hfz i hi
 have hid:id<H.n:=(fx id hS).1
 have hsH:=hs.stX (S':=fun i=>Low H.n i∧i≠id) (H':=H) (fun i hi=>⟨⟨(fx i (hY i hi).1).1,(hY i hi).2⟩,(fx i (hY i hi).1).2⟩)
 have E0:DwE H id (Low H.n) H:=⟨hid,fun i hi=>⟨hi.1,rfl⟩⟩
 refine KW.build U U U U U (built_Matrix2 _ _) ?_
 refine KW.lpM U U (fun s:FlS=>[(0,.pointer (some ⟨id,0,none⟩)),(1,.int .i64 p),(2,.int .i64 rs),(3,.int .i64 k),(8,.pointer (some ⟨H.n,0,some 0⟩)),(9,.pointer (some ⟨H.n+1,0,some 1⟩)),(10,.int .i64 s.i)]) (fun s=>s.S) (fun s=>s.A) (fun s=>[(H.n,⟨27,true,[.int .i64 0,.int .i64 0,.slice none 0 0]⟩),(H.n+1,⟨27,true,[.int .i64 p,.int .i64 k,s.l]⟩)]++s.tail) (fun s=>s.i≤rs∧FlI p k at_ H id ac bs.length cc s) (fun s=>rs-s.i) (⟨0,Low H.n,H,at_,fun _=>False,[],[],.slice none 0 0,[]⟩) (⟨Nat.zero_le _,E0,hsrc.mv (fx id hS).2,Nat.le_refl _,rfl,RowsB.nil _ _,fun _ h=>h.elim,fun r hr=>by simp at hr,.inl ⟨rfl,rfl,rfl,rfl⟩⟩) ⟨rfl,rfl,rfl,rfl,rfl,rfl,rfl,trivial⟩ U U (rfl) (fun s hi bE n=>?_)
 obtain⟨i,S1,A1,a1,V,G,cs,l,tail⟩:=s
 obtain⟨hil,E1,src1,at1,lenG,b1,v1,okG,hform⟩:=hi
 simp only at hil E1 src1 at1 lenG b1 v1 okG hform
 have hcl:=b1.len
 have vne:∀i,V i→i≠id:=fun i hi e=>by have:=v1 i hi;omega
 rcases hform with⟨hi0,e1,e2,e3⟩ | ⟨hi0,o,e1,e2⟩
 case inl=>
  subst e1 e2 e3
  refine KW.cnd U U (fun k1=>?gin) (fun k1=>?gout)
  case gin=>
   have k1:(i:Int)<(rs:Int):=k1
   refine KW.ids (fun hlow hvar=>?_)
   have hnn:=E1.nle hlow
   refine KW.lit U U U U U U U U U U [] U U (fun v hv=>by simp at hv) rfl ?_
   refine KW.lpM U U (fun s:DiS=>[(0,.pointer (some ⟨id,0,none⟩)),(1,.int .i64 p),(2,.int .i64 rs),(3,.int .i64 k),(8,.pointer (some ⟨H.n,0,some 0⟩)),(9,.pointer (some ⟨H.n+1,0,some 1⟩)),(10,.int .i64 i),(11,.slice (some ⟨s.o,0,some 1⟩) s.xs.length s.xs.length),(12,.int .i64 s.h)]) (fun s=>s.S) (fun s=>s.A) (fun s=>[(H.n,⟨27,true,[.int .i64 0,.int .i64 0,.slice none 0 0]⟩),(H.n+1,⟨27,true,[.int .i64 p,.int .i64 k,.slice none 0 0]⟩)]++[(s.o,(⟨2,true,s.xs.map (Value.int .i64)⟩:Blk))]) (fun s=>s.h≤k∧FiI p a1 H id ac bs.length cc V G [] s) (fun s=>k-s.h) ⟨0,S1,A1,a1,[],_⟩ ⟨Nat.zero_le _,E1,src1,Nat.le_refl _,b1,fun x hx=>by simp at hx,rfl⟩ ⟨rfl,rfl,rfl,rfl,rfl,rfl,rfl,rfl,rfl,trivial⟩ U U U (fun s hi bE n=>?_)
   obtain⟨h,S4,A4,a4,xs,o4⟩:=s
   obtain⟨hq4,E4,src4,at4,b4,ok4,len4⟩:=hi
   simp only at hq4 E4 src4 at4 b4 ok4 len4
   refine KW.cnd U U (fun k2=>?hin) (fun k2=>?hout)
   case hin=>
    have k2:(h:Int)<(k:Int):=k2
    refine KW.callW (W:=fun i=>i=id) (fun i hi=>by subst hi;exact E4.sid) U U U U U (srcPick (S:=S4) (H0:=A4) hb hl (n:=p) (by omega) (by omega) E4.sid (fun i hi=>hi) src4 (E4.kb hsH)) (fun v H5 S5 hn5 st5 hw5 hp=>?_)
    obtain⟨z5,a5,hz5,l5,u5,rfl,src5⟩:=hp
    have hz5:=hz5 (by omega)
    have b5:=b4.mv (S':=S5) (A':=H5) (fun i hi=>⟨(st5 i (b4.sub i hi)).1,(st5 i (b4.sub i hi)).2 (vne i hi)⟩)
    refine KW.app1 (xs:=xs.map (Value.int .i64)) (v:=.int .i64 z5) 2 3 U U U U U U U U U U U U U U U U U U U U U U U (by simp) (by show(xs.length+1)*8≤_;omega) (by show xs.length+1≤_;omega) ?_
    exact KW.nxt U U (fun H' g=>⟨⟨h+1,S5,H5,a5,xs++[(z5:Int)],_⟩,⟨by simp only;omega,E4.w st5,src5,by simp only;omega,b5,fun x hx=>(List.mem_append.1 hx).elim (ok4 x) (fun hx=>by rw[List.mem_singleton.1 hx];omega),by simp only[List.length_append,List.length_singleton];omega⟩,by simp only;omega,⟨rfl,rfl,rfl,rfl,rfl,rfl,rfl,by simp only[List.length_append,List.length_singleton];rfl,congrArg (Value.int .i64) (inc64 (by omega)),trivial⟩,g.eqT (by simp only[List.map_append];rfl)⟩)
   case hout=>
    have k2:¬(h:Int)<(k:Int):=k2
    have ehk:h=k:=by omega
    refine KW.freeze 2 rfl (fun A6 S6 hn6 hS6 st6 hm6 ho6 hnS6 hlow6=>?_)
    have o6ge:∀i,S6 i∧¬S4 i→H.n≤i:=fun i hi=>by
     rcases Nat.lt_or_ge i H.n with hh | hh
     ·by_cases e:i=id
      ·exact(hi.2 (e ▸ E4.sid)).elim
      ·exact(hi.2 (E4.old i ⟨hh,e⟩).1).elim
     ·exact hh
    have fI:=(b4.mv (S':=S6) (A':=A6) (fun i hi=>st6.st i (b4.sub i hi))).snoc (ml1' (row_ml (xs:=xs) hm6)) (fun i hi=>(hS6 i).2 (.inr hi)) (fun i p r=>hnS6 (r ▸ b4.sub i p))
    have fok:Rect p k (G++[xs]):=fun r hr=>(List.mem_append.1 hr).elim (okG r) (fun hr=>by rw[List.mem_singleton.1 hr];exact⟨len4.trans ehk,ok4⟩)
    have fV:∀j,V j∨j=o4→H.n≤j:=fun j hj=>hj.elim (v1 j) (fun e=>o6ge j ⟨(hS6 j).2 (.inr e),fun hx=>hnS6 (e ▸ hx)⟩)
    subst hi0
    refine KW.app0 (v:=.slice (some ⟨o4,0,some 1⟩) xs.length xs.length) 2 U U U U U U U U U U U U U U U U U U U U U U (by decide) ?_
    exact KW.nxt U U (fun H' g=>⟨⟨1,S6,A6,a4,_,G++[xs],_,_,_⟩,⟨by simp only;omega,E4.s st6.st,src4.mv (st6.st id E4.sid).2,by simp only;omega,by simp only[List.length_append,List.length_singleton];omega,fI,fV,fok,.inr ⟨by simp only;omega,_,rfl,rfl⟩⟩,by simp only;omega,⟨rfl,rfl,rfl,rfl,rfl,rfl,rfl,trivial⟩,g⟩)
  case gout=>
   have k1:¬(i:Int)<(rs:Int):=k1
   have er:rs=0:=by omega
   subst er
   refine KW.ids (fun hlow hvar=>?_)
   have hnn:=E1.nle hlow
   refine KW.tno U U (by omega) ?_
   refine KW.cF U U (by first | (simp;done) | decide) ?_
   refine KW.retW U U U U (fun H9 g=>by have:=g.n_;omega) (fun i hi hw=>E1.old i ⟨hi,hw⟩) (fun H9 g=>⟨[],a1,rfl,fun r hr=>by simp at hr,by omega,⟨none,0,rfl,.inl ⟨rfl,_,_,rfl,fun _=>rfl⟩⟩,src1.mv (g.froz id E1.sid).2⟩)
 case inr=>
  subst e1 e2
  refine KW.cnd U U (fun k1=>?gin) (fun k1=>?gout)
  case gin=>
   have k1:(i:Int)<(rs:Int):=k1
   refine KW.ids (fun hlow hvar=>?_)
   have hnn:=E1.nle hlow
   refine KW.lit U U U U U U U U U U [] U U (fun v hv=>by simp at hv) rfl ?_
   refine KW.lpM U U (fun s:DiS=>[(0,.pointer (some ⟨id,0,none⟩)),(1,.int .i64 p),(2,.int .i64 rs),(3,.int .i64 k),(8,.pointer (some ⟨H.n,0,some 0⟩)),(9,.pointer (some ⟨H.n+1,0,some 1⟩)),(10,.int .i64 i),(11,.slice (some ⟨s.o,0,some 1⟩) s.xs.length s.xs.length),(12,.int .i64 s.h)]) (fun s=>s.S) (fun s=>s.A) (fun s=>[(H.n,⟨27,true,[.int .i64 0,.int .i64 0,.slice none 0 0]⟩),(H.n+1,⟨27,true,[.int .i64 p,.int .i64 k,.slice (some ⟨o,0,some 1⟩) i i]⟩),(o,⟨24,true,cs⟩)]++[(s.o,(⟨2,true,s.xs.map (Value.int .i64)⟩:Blk))]) (fun s=>s.h≤k∧FiI p a1 H id ac bs.length cc V G cs s) (fun s=>k-s.h) ⟨0,S1,A1,a1,[],_⟩ ⟨Nat.zero_le _,E1,src1,Nat.le_refl _,b1,fun x hx=>by simp at hx,rfl⟩ ⟨rfl,rfl,rfl,rfl,rfl,rfl,rfl,rfl,rfl,trivial⟩ U U U (fun s hi bE n=>?_)
   obtain⟨h,S4,A4,a4,xs,o4⟩:=s
   obtain⟨hq4,E4,src4,at4,b4,ok4,len4⟩:=hi
   simp only at hq4 E4 src4 at4 b4 ok4 len4
   refine KW.cnd U U (fun k2=>?hin) (fun k2=>?hout)
   case hin=>
    have k2:(h:Int)<(k:Int):=k2
    refine KW.callW (W:=fun i=>i=id) (fun i hi=>by subst hi;exact E4.sid) U U U U U (srcPick (S:=S4) (H0:=A4) hb hl (n:=p) (by omega) (by omega) E4.sid (fun i hi=>hi) src4 (E4.kb hsH)) (fun v H5 S5 hn5 st5 hw5 hp=>?_)
    obtain⟨z5,a5,hz5,l5,u5,rfl,src5⟩:=hp
    have hz5:=hz5 (by omega)
    have b5:=b4.mv (S':=S5) (A':=H5) (fun i hi=>⟨(st5 i (b4.sub i hi)).1,(st5 i (b4.sub i hi)).2 (vne i hi)⟩)
    refine KW.app1 (xs:=xs.map (Value.int .i64)) (v:=.int .i64 z5) 3 4 U U U U U U U U U U U U U U U U U U U U U U U (by simp) (by show(xs.length+1)*8≤_;omega) (by show xs.length+1≤_;omega) ?_
    exact KW.nxt U U (fun H' g=>⟨⟨h+1,S5,H5,a5,xs++[(z5:Int)],_⟩,⟨by simp only;omega,E4.w st5,src5,by simp only;omega,b5,fun x hx=>(List.mem_append.1 hx).elim (ok4 x) (fun hx=>by rw[List.mem_singleton.1 hx];omega),by simp only[List.length_append,List.length_singleton];omega⟩,by simp only;omega,⟨rfl,rfl,rfl,rfl,rfl,rfl,rfl,by simp only[List.length_append,List.length_singleton];rfl,congrArg (Value.int .i64) (inc64 (by omega)),trivial⟩,g.eqT (by simp only[List.map_append];rfl)⟩)
   case hout=>
    have k2:¬(h:Int)<(k:Int):=k2
    have ehk:h=k:=by omega
    refine KW.freeze 3 rfl (fun A6 S6 hn6 hS6 st6 hm6 ho6 hnS6 hlow6=>?_)
    have o6ge:∀i,S6 i∧¬S4 i→H.n≤i:=fun i hi=>by
     rcases Nat.lt_or_ge i H.n with hh | hh
     ·by_cases e:i=id
      ·exact(hi.2 (e ▸ E4.sid)).elim
      ·exact(hi.2 (E4.old i ⟨hh,e⟩).1).elim
     ·exact hh
    have fI:=(b4.mv (S':=S6) (A':=A6) (fun i hi=>st6.st i (b4.sub i hi))).snoc (ml1' (row_ml (xs:=xs) hm6)) (fun i hi=>(hS6 i).2 (.inr hi)) (fun i p r=>hnS6 (r ▸ b4.sub i p))
    have fok:Rect p k (G++[xs]):=fun r hr=>(List.mem_append.1 hr).elim (okG r) (fun hr=>by rw[List.mem_singleton.1 hr];exact⟨len4.trans ehk,ok4⟩)
    have fV:∀j,V j∨j=o4→H.n≤j:=fun j hj=>hj.elim (v1 j) (fun e=>o6ge j ⟨(hS6 j).2 (.inr e),fun hx=>hnS6 (e ▸ hx)⟩)
    refine KW.app1 (xs:=cs) (v:=.slice (some ⟨o4,0,some 1⟩) xs.length xs.length) 2 3 U U U U U U U U U U U U U U U U U U U U U U U (by omega) (by show(_+1)*24≤_;omega) (by omega) ?_
    exact KW.nxt U U (fun H' g=>⟨⟨i+1,S6,A6,a4,_,G++[xs],_,_,_⟩,⟨by simp only;omega,E4.s st6.st,src4.mv (st6.st id E4.sid).2,by simp only;omega,by simp only[List.length_append,List.length_singleton];omega,fI,fV,fok,.inr ⟨by simp only;omega,_,rfl,rfl⟩⟩,by simp only;omega,⟨rfl,rfl,rfl,rfl,rfl,rfl,congrArg (Value.int .i64) (inc64 (by omega)),trivial⟩,g⟩)
  case gout=>
   have k1:¬(i:Int)<(rs:Int):=k1
   have er:i=rs:=by omega
   subst er
   refine KW.ids (fun hlow hvar=>?_)
   have hnn:=E1.nle hlow
   have oge:H.n≤o:=by
    have h2:=(hvar 2 o _ rfl).2
    rcases Nat.lt_or_ge o H.n with hh | hh
    ·by_cases e:o=id
     ·exact(h2 (e ▸ E1.sid)).elim
     ·exact(h2 (E1.old o ⟨hh,e⟩).1).elim
    ·exact hh
   have fin:∀{S9:Ids} {A9:AH} {n9:Nat} {e9:Env} {G9:List (List Int)} {a9:Nat},True:=fun {_ _ _ _ _ _}=>trivial
   refine KW.tst U U (fun k3=>?_) (fun k3=>?_)
   ·have k3:(i:Int)>1:=k3
    have mvb:∀{S S':Ids} {A A':AH},RowsB KI.ml S A V G cs→StW (fun i=>i=id) S A S' A'→RowsB KI.ml S' A' V G cs:=fun b st=>b.mv (fun i hi=>⟨(st i (b.sub i hi)).1,(st i (b.sub i hi)).2 (vne i hi)⟩)
    refine KW.callW (W:=fun i=>i=id) (fun i hi=>by subst hi;exact E1.sid) U U U U U (srcOne (S:=S1) (H0:=A1) hb hl (n:=3) (by omega) (by omega) E1.sid (fun i hi=>hi) src1 (E1.kb hsH)) (fun v H5 S5 hn5 st5 hw5 hp=>?_)
    obtain⟨b0,a5,l5,u5,rfl,src5⟩:=hp
    have E5:=E1.w st5
    have b5:=mvb b1 st5
    refine KW.cndB U U (fun k4=>?_) (fun k4=>?_)
    ·refine KW.callW (W:=fun i=>i=id) (fun i hi=>by subst hi;exact E5.sid) U U U U U (srcPick (S:=S5) (H0:=H5) hb hl (n:=(i:Int)) (by omega) (by omega) E5.sid (fun i hi=>hi) src5 (E5.kb hsH)) (fun v H6 S6 hn6 st6 hw6 hp=>?_)
     obtain⟨z6,a6,hz6,l6,u6,rfl,src6⟩:=hp
     have hz6:=hz6 (by omega)
     have E6:=E5.w st6
     have b6:=mvb b5 st6
     refine KW.callW (W:=fun i=>i=id) (fun i hi=>by subst hi;exact E6.sid) U U U U U (srcPick (S:=S6) (H0:=H6) hb hl (n:=(i:Int)) (by omega) (by omega) E6.sid (fun i hi=>hi) src6 (E6.kb hsH)) (fun v H7 S7 hn7 st7 hw7 hp=>?_)
     obtain⟨z7,a7,hz7,l7,u7,rfl,src7⟩:=hp
     have hz7:=hz7 (by omega)
     have E7:=E6.w st7
     have b7:=mvb b6 st7
     obtain⟨x6,hx6,_⟩:=at_of (L:=G) (k:=z6) (by omega)
     obtain⟨x7,hx7,_⟩:=at_of (L:=G) (k:=z7) (by omega)
     obtain⟨v6,W,hv6,hm6,hWV,hrest,hclose⟩:=b7.row1 hx6
     have ok6:=okG.at hx6
     have ok7:=okG.at hx7
     rcases hm6 with⟨hx0,a0,c0,rfl,_⟩ | ⟨o8,c8,bb,Ws,rfl,h2,h3,h4,h5,h6,h7,h8,h9⟩
     ·have hk0:k=0:=by rw[← ok6.1,hx0];rfl
      subst hk0
      refine KW.lp U U (fun _:Unit=>[(3,.int .i64 (0:Nat)),(8,.pointer (some ⟨H.n,0,some 0⟩)),(9,.pointer (some ⟨H.n+1,0,some 1⟩)),(15,.int .i64 0)]) (fun _=>True) (fun _=>0) (()) (trivial) ⟨rfl,rfl,rfl,rfl,trivial⟩ (fun _ hi bE n=>?_)
      refine KW.cF U U (by first | (simp;done) | decide) ?_
      refine KW.ids (fun hlow9 hvar9=>?_)
      have hnn9:=E7.nle hlow9
      refine KW.retW U U U U (fun H9 g=>by have:=g.n_;omega) (fun i hi hw=>(E7).old i ⟨hi,hw⟩) (fun H9 g=>⟨G,a7,lenG,okG,by omega,⟨some ⟨o,0,some 1⟩,i,by rw[lenG];rfl,?_⟩,(src7).mv (g.froz id (E7).sid).2⟩)
      have hm:=(b7).ml (X:=New H.n H9.n) rfl g (j:=2) rfl ⟨oge,by have h1:o<_:=(g.vars 2 _ rfl).2.1;have:=g.n_;omega⟩ (fun i hi=>⟨v1 i hi,by have:=(g.froz i ((b7).sub i hi)).1;have:=g.n_;omega⟩)
      rw[lenG] at hm ⊢
      exact hm
     ·have ho8V:=hWV o8 h3
      have ho8S:=b7.sub o8 ho8V
      have ho8g:=v1 o8 ho8V
      obtain⟨ty8,rw8,cells8⟩:=bb
      obtain rfl:rw8=true:=h5
      have h6:x6.length*1≤cells8.length:=h6
      have hget:∀(q:Nat) y,x6[q]?=some y→cells8[q]?=some (.int .i64 y):=fun q y hq=>by
       have h:=cell_of (m:=0+q*1) (h9 q y hq)
       rw[Nat.zero_add,Nat.mul_one] at h
       exact h
      refine KW.thaw o8 _ ho8S h4 ?_
      have E8:DwE H id (fun i=>S7 i∧i≠o8) H7:=⟨⟨E7.sid,fun e=>by omega⟩,fun i hi=>⟨⟨(E7.old i hi).1,fun e=>by have h1:i<H.n:=hi.1;omega⟩,(E7.old i hi).2⟩⟩
      have row7:z7≠z6→∃a c,cs[z7]?=some (.slice a x7.length c)∧KI.Sl (fun i=>S7 i∧i≠o8) H7 (.slice a x7.length c) x7:=fun hne=>by
       obtain⟨u,X,hu,hmu,hXV⟩:=hrest z7 x7 hne hx7
       obtain⟨a,c,rfl⟩:=sl_form hmu.sl
       exact⟨a,c,hu,hmu.sl.stX (fun i hi=>⟨⟨b7.sub i (hXV i hi).1,fun e=>(hXV i hi).2 (e ▸ h3)⟩,rfl⟩)⟩
      refine KW.lpM U U (fun s:Nat × List Int × List Value=>[(1,.int .i64 p),(3,.int .i64 k),(8,.pointer (some ⟨H.n,0,some 0⟩)),(9,.pointer (some ⟨H.n+1,0,some 1⟩)),(13,.int .i64 z6),(14,.int .i64 z7),(15,.int .i64 s.1)]) (fun s=>fun i=>S7 i∧i≠o8) (fun s=>H7) (fun s=>[(H.n,⟨27,true,[.int .i64 0,.int .i64 0,.slice none 0 0]⟩),(H.n+1,⟨27,true,[.int .i64 p,.int .i64 k,.slice (some ⟨o,0,some 1⟩) i i]⟩),(o,⟨24,true,cs⟩),(o8,⟨ty8,true,s.2.2⟩)]) (fun s=>s.1≤k∧s.2.1.length=k∧(∀y∈s.2.1,0≤y∧y<p)∧s.2.2.length=cells8.length∧∀(q:Nat) y,s.2.1[q]?=some y→s.2.2[q]?=some (.int .i64 y)) (fun s=>k-s.1) ((0,x6,cells8)) (⟨Nat.zero_le _,ok6.1,ok6.2,rfl,hget⟩) ⟨rfl,rfl,rfl,rfl,rfl,rfl,rfl,trivial⟩ U U (rfl) (fun s hi bE n=>?_)
      obtain⟨x,ys,cy⟩:=s
      obtain⟨m1,m2,m3,m4,m5⟩:=hi
      simp only at m1 m2 m3 m4 m5
      refine KW.cnd U U (fun k5=>?win) (fun k5=>?wout)
      case win=>
       have k5:(x:Int)<(k:Int):=k5
       refine KW.idx0 U U U U U U U U U (Int.natCast_nonneg _) (hz6) ?_
       refine KW.ldT 2 U U U U U U (bload_at (by show cs[0+((z6:Int)).toNat*1]?=_;rw[Int.toNat_natCast,Nat.zero_add,Nat.mul_one];exact hv6) U U) ?_
       refine KW.idx0 U U U U U U U U U (Int.natCast_nonneg _) (hz7) ?_
       by_cases hz:z7=z6
       ·subst hz
        refine KW.ldT 2 U U U U U U (bload_at (by show cs[0+((z7:Int)).toNat*1]?=_;rw[Int.toNat_natCast,Nat.zero_add,Nat.mul_one];exact hv6) U U) ?_
        refine KW.idx0 U U U U U U U U U (Int.natCast_nonneg _) (by rw[ok6.1];exact k5) ?_
        obtain⟨yv,hyv⟩:∃yv,ys[x]?=some yv:=⟨ys[x]'(by omega),List.getElem?_eq_getElem (by omega)⟩
        have hyb:=m3 yv (List.mem_of_getElem? hyv)
        refine KW.ldT 3 U U U U U U (bload_at (by show cy[0+((x:Int)).toNat*1]?=_;rw[Int.toNat_natCast,Nat.zero_add,Nat.mul_one];exact m5 x yv hyv) U U) ?_
        have ew:IntKind.i64.wrap (yv*2)=yv*2:=wr (by omega) (by omega)
        refine KW.rem U U U U U U (by rw[ew];omega) (by omega) ?_
        refine KW.idx0 U U U U U U U U U (Int.natCast_nonneg _) (by rw[ok6.1];exact k5) ?_
        refine KW.st1 3 U U U U U U U U U U U U (by show 0+((x:Int)).toNat*1<cy.length;rw[Int.toNat_natCast];omega) ?_
        have hb1:0≤IntKind.i64.wrap (yv*2)%p∧IntKind.i64.wrap (yv*2)%p<p:=⟨Int.emod_nonneg _ (by omega),Int.emod_lt_of_pos _ (by omega)⟩
        exact KW.nxt U U (fun H' g=>⟨(x+1,ys.set x (IntKind.i64.wrap (yv*2)%p),cy.set x (.int .i64 (IntKind.i64.wrap (yv*2)%p))),⟨by simp only;omega,by simp only[List.length_set];exact m2,fun y hy=>(List.mem_or_eq_of_mem_set hy).elim (m3 y) (fun e=>by rw[e];exact hb1),by simp only[List.length_set];exact m4,fun q y hq=>by
         simp only[List.getElem?_set] at hq ⊢
         split at hq
         ·rename_i e
          subst e
          rw[if_pos (by omega)] at hq
          cases hq
          rw[if_pos rfl,if_pos (by omega)]
         ·rename_i e
          rw[if_neg e]
          exact m5 q y hq⟩,by simp only;omega,⟨rfl,rfl,rfl,rfl,rfl,rfl,congrArg (Value.int .i64) (inc64 (by omega)),trivial⟩,g.eqT (by
         show [(H.n,(⟨27,true,[.int .i64 0,.int .i64 0,.slice none 0 0]⟩:Blk)),(H.n+1,⟨27,true,[.int .i64 p,.int .i64 k,.slice (some ⟨o,0,some 1⟩) i i]⟩),(o,⟨24,true,cs⟩),(o8,⟨ty8,true,cy.set (0+((x:Int)).toNat*1) _⟩)]=_
         rw[Int.toNat_natCast,Nat.zero_add,Nat.mul_one]
         rfl)⟩)
       ·obtain⟨ay,cy7,hcy,hsy⟩:=row7 hz
        refine KW.ldT 2 U U U U U U (bload_at (by show cs[0+((z7:Int)).toNat*1]?=_;rw[Int.toNat_natCast,Nat.zero_add,Nat.mul_one];exact hcy) U U) ?_
        refine KW.getI hsy U U U U U U U U U U U U U U U U (by omega) (by rw[ok7.1];exact k5) (fun yv hyv=>?_)
        have hyb:=ok7.2 yv (List.mem_of_getElem? hyv)
        have ew:IntKind.i64.wrap (yv*2)=yv*2:=wr (by omega) (by omega)
        refine KW.rem U U U U U U (by rw[ew];omega) (by omega) ?_
        refine KW.idx0 U U U U U U U U U (Int.natCast_nonneg _) (by rw[ok6.1];exact k5) ?_
        refine KW.st1 3 U U U U U U U U U U U U (by show 0+((x:Int)).toNat*1<cy.length;rw[Int.toNat_natCast];omega) ?_
        have hb1:0≤IntKind.i64.wrap (yv*2)%p∧IntKind.i64.wrap (yv*2)%p<p:=⟨Int.emod_nonneg _ (by omega),Int.emod_lt_of_pos _ (by omega)⟩
        exact KW.nxt U U (fun H' g=>⟨(x+1,ys.set x (IntKind.i64.wrap (yv*2)%p),cy.set x (.int .i64 (IntKind.i64.wrap (yv*2)%p))),⟨by simp only;omega,by simp only[List.length_set];exact m2,fun y hy=>(List.mem_or_eq_of_mem_set hy).elim (m3 y) (fun e=>by rw[e];exact hb1),by simp only[List.length_set];exact m4,fun q y hq=>by
         simp only[List.getElem?_set] at hq ⊢
         split at hq
         ·rename_i e
          subst e
          rw[if_pos (by omega)] at hq
          cases hq
          rw[if_pos rfl,if_pos (by omega)]
         ·rename_i e
          rw[if_neg e]
          exact m5 q y hq⟩,by simp only;omega,⟨rfl,rfl,rfl,rfl,rfl,rfl,congrArg (Value.int .i64) (inc64 (by omega)),trivial⟩,g.eqT (by
         show [(H.n,(⟨27,true,[.int .i64 0,.int .i64 0,.slice none 0 0]⟩:Blk)),(H.n+1,⟨27,true,[.int .i64 p,.int .i64 k,.slice (some ⟨o,0,some 1⟩) i i]⟩),(o,⟨24,true,cs⟩),(o8,⟨ty8,true,cy.set (0+((x:Int)).toNat*1) _⟩)]=_
         rw[Int.toNat_natCast,Nat.zero_add,Nat.mul_one]
         rfl)⟩)
      case wout=>
       have k5:¬(x:Int)<(k:Int):=k5
       refine KW.freeze 3 rfl (fun A9 S9 hn9 hS9 st9 hm9 ho9 hnS9 hlow9=>?_)
       have E9:=E8.s st9.st
       have src9:=src7.mv (st9.st id E8.sid).2
       have b9:RowsB KI.ml S9 A9 V (G.set z6 ys) cs:=hclose S9 A9 ys (fun j hj=>by
        by_cases e:j=o8
        ·exact⟨(hS9 j).2 (.inr e),fun hw=>(hw (e ▸ h3)).elim⟩
        ·exact⟨(st9.st j ⟨hj,e⟩).1,fun _=>(st9.st j ⟨hj,e⟩).2⟩) (by
        rw[ok6.1,← m2]
        exact mlI_of h3 hm9 rfl (by rw[m2,← ok6.1];exact h2) (by simp only;omega) m5)
       have ok9:Rect p k (G.set z6 ys):=okG.set ⟨m2,m3⟩
       have len9:(G.set z6 ys).length=i:=by rw[List.length_set];exact lenG
       refine KW.ids (fun hlow8 hvar8=>?_)
       have hnn8:=E9.nle hlow8
       refine KW.retW U U U U (fun H9 g=>by have:=g.n_;omega) (fun i hi hw=>(E9).old i ⟨hi,hw⟩) (fun H9 g=>⟨(G.set z6 ys),a7,len9,ok9,by omega,⟨some ⟨o,0,some 1⟩,i,by rw[len9];rfl,?_⟩,(src9).mv (g.froz id (E9).sid).2⟩)
       have hm:=(b9).ml (X:=New H.n H9.n) rfl g (j:=2) rfl ⟨oge,by have h1:o<_:=(g.vars 2 _ rfl).2.1;have:=g.n_;omega⟩ (fun i hi=>⟨v1 i hi,by have:=(g.froz i ((b9).sub i hi)).1;have:=g.n_;omega⟩)
       rw[len9] at hm ⊢
       exact hm
    ·refine KW.retW U U U U (fun H9 g=>by have:=g.n_;omega) (fun i hi hw=>(E5).old i ⟨hi,hw⟩) (fun H9 g=>⟨G,a5,lenG,okG,by omega,⟨some ⟨o,0,some 1⟩,i,by rw[lenG];rfl,?_⟩,(src5).mv (g.froz id (E5).sid).2⟩)
     have hm:=(b5).ml (X:=New H.n H9.n) rfl g (j:=2) rfl ⟨oge,by have h1:o<_:=(g.vars 2 _ rfl).2.1;have:=g.n_;omega⟩ (fun i hi=>⟨v1 i hi,by have:=(g.froz i ((b5).sub i hi)).1;have:=g.n_;omega⟩)
     rw[lenG] at hm ⊢
     exact hm
   ·refine KW.cF U U (by first | (simp;done) | decide) ?_
    refine KW.retW U U U U (fun H9 g=>by have:=g.n_;omega) (fun i hi hw=>E1.old i ⟨hi,hw⟩) (fun H9 g=>⟨G,a1,lenG,okG,by omega,⟨some ⟨o,0,some 1⟩,i,by rw[lenG];rfl,?_⟩,src1.mv (g.froz id E1.sid).2⟩)
    have hm:=b1.ml (X:=New H.n H9.n) rfl g (j:=2) rfl ⟨oge,by have h1:o<_:=(g.vars 2 _ rfl).2.1;have:=g.n_;omega⟩ (fun i hi=>⟨v1 i hi,by have:=(g.froz i (b1.sub i hi)).1;have:=g.n_;omega⟩)
    rw[lenG] at hm ⊢
    exact hm
end
theorem GwE.nle {H:AH} {W S:Ids} {A:AH} {n:Nat} (e:GwE H W S A) (h:∀i,S i→i<n):H.n≤n:=by
  rcases Nat.lt_or_ge n H.n with h1 | h1
  · by_cases hw:W n
    · have:=h n (e.wid n hw);omega
    · have:=h n (e.old n h1 hw).1;omega
  · exact h1
section
variable {S:Ids} {H0:AH} {bs:List Int} {ac:Option Addr} {cc id B:Nat} {Y:Ids}
theorem amongB {ls:List Int} {a c} (h:SrcB bs ac cc id Y S H0 B) (hB:B≤790000) (hn:ls.length≤1000) (hn1:1≤ls.length) (hls:KI.Sl (fun i=>S i∧i≠id) H0 (.slice a ls.length c) ls):SpecW Tryz.prog S H0 (fun i=>i=id) 67 [.pointer (some ⟨id,0,none⟩),.slice a ls.length c] (fun _ v H1=>∃y:Int,y∈ls∧v=.int .i64 y∧∃at_,at_≤B+2∧Src ac bs.length cc H1 id at_):=fun H hf hz=>by
  obtain⟨q,h1,h2⟩:=h.src
  obtain⟨m,v,H1,k1,k2,k3,k4,y,at',k5,k6,k7,k8,k9⟩:=srcAmong h.hb h.hl hn hn1 (show q≤800000 by omega) h.sid (fun i hi=>hi) h2 (h.kb.more (fun i hi=>h.y i hi)) hls H hf hz
  exact⟨m,v,H1,k1,k2,k3,k4,y,k5,k8,at',by omega,k9⟩
theorem filledB {p:Int} (hp:2≤p∧p≤31) {rs k:Nat} (hrs:rs≤6) (hk:k≤6) (h:SrcB bs ac cc id Y S H0 B) (hB:B≤690000):SpecW Tryz.prog S H0 (fun i=>i=id) 195 [.pointer (some ⟨id,0,none⟩),.int .i64 p,.int .i64 rs,.int .i64 k] (fun n v H1=>∃L:List (List Int),L.length=rs∧Rect p k L∧MkMo p k L n v H1∧∃at_,at_≤B+200∧Src ac bs.length cc H1 id at_):=fun H hf hz=>by
  obtain⟨q,h1,h2⟩:=h.src
  obtain⟨m,v,H1,k1,k2,k3,k4,L,at',k5,k6,k7,k8,k9⟩:=l03Filled h.hb h.hl hp hrs hk (show q≤700000 by omega) h.sid (fun i hi=>hi) h2 (h.kb.more (fun i hi=>h.y i hi)) H hf hz
  exact⟨m,v,H1,k1,k2,k3,k4,L,k5,k6,k8,at',by omega,k9⟩
theorem litSl {A:AH} {S S':Ids} {o:Nat} {ls:List Int} {ty:TypeId} (hm:A.m o=some ⟨ty,true,ls.map (Value.int .i64)⟩) (hS:∀i,S' i↔S i∨i=o) (hno:¬S o) (hid:S id):KI.Sl (fun i=>S' i∧i≠id) A (.slice (some ⟨o,0,some 1⟩) ls.length ls.length) ls:=
  (row_ml hm).sl.stX (fun i hi=>by
    have hi:i=o:=hi
    exact⟨⟨(hS i).2 (.inr hi),fun e=>hno (by rw[← hi,e];exact hid)⟩,rfl⟩)
theorem l04Gated (hsrc:SrcB bs ac cc id Y S H0 B) (hB:B≤600000):
    SpecW Tryz.prog S H0 (fun i=>i=id) 194 [.pointer (some ⟨id,0,none⟩)] (fun m v H1=>∃(p N:Int) (g:Gt) (cs:List Value),v=.tuple #[.int .i64 p,.int .i64 N,.agg cs.toArray]∧p∈[5,5,7,3,2,11]∧(1≤N∧N≤4)∧RG 4 (New m H1.n) H1 g cs∧GF N 4 g∧∃at_,at_≤B+2010∧Src ac bs.length cc H1 id at_):=by
  refine SpecW.of0 Tryz.func194 rfl (by kernel_rfl) rfl (fun H hfin hfz=>?_)
  have SB0:SrcB bs ac cc id Y (Low H.n) H B:=hsrc.s (fun i hi=>hfz i hi) (Nat.le_refl _)
  have E0:GwE H (fun i=>i=id) (Low H.n) H:=⟨fun i hi=>by rw[hi];exact SB0.sid,fun i h _=>⟨h,rfl⟩⟩
  refine KW.lit U U U U U U U U U U (([5,5,7,3,2,11]:List Int).map (Value.int .i64)) U U (fun v hv=>by obtain⟨x,_,rfl⟩:=List.mem_map.1 hv;rfl) rfl ?_
  refine KW.freeze 1 rfl (fun A1 S1 hn1 hS1 st1 hm1 ho1 hno1 hlow1=>?_)
  have SB1:=SB0.s (B':=B) st1.st (Nat.le_refl _)
  have E1:=E0.s st1.st
  refine KW.callW (W:=fun i=>i=id) (fun i hi=>by subst hi;exact SB1.sid) U U U U U (amongB SB1 (by omega) (ls:=[5,5,7,3,2,11]) (by decide) (by decide) (litSl hm1 hS1 hno1 SB0.sid)) (fun v H2 S2 n2 st2 w2 hv2=>?_)
  obtain⟨p,hp,rfl,src2⟩:=hv2
  have SB2:=SB1.w1 st2 src2
  have E2:=E1.w st2 (fun i hi=>.inl hi)
  refine KW.callW (W:=fun i=>i=id) (fun i hi=>by subst hi;exact SB2.sid) U U U U U (pickB (n:=4) SB2 (by omega) (by omega)) (fun v H3 S3 n3 st3 w3 hv3=>?_)
  obtain⟨z3,hz3,rfl,src3⟩:=hv3
  have hz3:=hz3 (by omega)
  have SB3:=SB2.w1 st3 src3
  have E3:=E2.w st3 (fun i hi=>.inl hi)
  have e3:IntKind.i64.wrap (1+(z3:Int))=1+z3:=wr (by omega) (by omega)
  refine KW.callW (W:=fun i=>i=id) (fun i hi=>by subst hi;exact SB3.sid) U U U U U (l02Drawn (N:=IntKind.i64.wrap (1+(z3:Int))) ⟨by omega,by omega⟩ SB3 (by omega)) (fun v H4 S4 n4 st4 w4 hv4=>?_)
  obtain⟨g,cs,rfl,hR,hg,q4,u4,src4⟩:=hv4
  obtain⟨ag,cg,rfl,_⟩:=hR.form
  have E4:=E3.w st4 (fun i hi=>.inl hi)
  refine KW.retW U U U U (fun H9 g=>by have:=(g.vars 0 _ rfl).2.1;have:=g.n_;omega) (fun i h1 h2=>E4.old i h1 h2) (fun H9 gg=>?_)
  refine⟨p,_,g,_,rfl,hp,⟨by omega,by omega⟩,RG.more 4 (fun i hi=>⟨by have:=hi.1;omega,by have:=(gg.froz i (w4 i hi)).1;have:=gg.n_;omega⟩) (RG.same 4 (fun i hi=>(gg.froz i (w4 i hi)).2) hR),hg,q4,by omega,src4.mv (gg.froz id (st4 id SB3.sid).1).2⟩
theorem built_SchemeR (h p c:Int) (a:Option Addr) (n m:Nat):Tryz.prog.built 29 [(0,.int .i64 h),(2,.agg #[.int .i64 p,.int .i64 c,.slice a n m])]=some #[.int .i64 h,.slice none 0 0,.int .i64 p,.int .i64 c,.slice a n m]:=by kernel_rfl
structure OwS where
  i:Nat
  S:Ids
  A:AH
  xs:List Int
  l:Value
  tail:List Var
structure OwI (bs:List Int) (ac:Option Addr) (cc id:Nat) (Y:Ids) (N:Int) (B z:Nat) (V:Ids) (A4 H:AH) (s:OwS):Prop where
  le:s.i≤z
  src:SrcB bs ac cc id Y s.S s.A (B+2*s.i)
  E:GwE H (fun i=>i=id) s.S s.A
  v:∀j,V j→s.S j∧s.A.m j=A4.m j
  xl:s.xs.length=s.i
  xb:∀x∈s.xs,0≤x∧x≤N-1
  form:(s.i=0∧s.l=.slice none 0 0∧s.tail=[])∨(0<s.i∧∃o,s.l=.slice (some ⟨o,0,some 1⟩) s.i s.i∧s.tail=[(o,⟨2,true,s.xs.map (Value.int .i64)⟩)])
theorem l04Drawn (hsrc:SrcB bs ac cc id Y S H0 B) (hB:B≤500000):
    SpecW Tryz.prog S H0 (fun i=>i=id) 132 [.pointer (some ⟨id,0,none⟩)] (fun m v H1=>(∃cs:List Value,v=.agg cs.toArray∧ScP m H1 cs)∧∃at_,at_≤B+3000∧Src ac bs.length cc H1 id at_):=by
  refine SpecW.of0R [15] Tryz.func132 rfl (by kernel_rfl) (by kernel_rfl) rfl (fun H hfin hfz=>?_)
  have SB0:SrcB bs ac cc id Y (Low H.n) H B:=hsrc.s (fun i hi=>hfz i hi) (Nat.le_refl _)
  have E0:GwE H (fun i=>i=id) (Low H.n) H:=⟨fun i hi=>by rw[hi];exact SB0.sid,fun i h _=>⟨h,rfl⟩⟩
  refine KW.callW (W:=fun i=>i=id) (fun i hi=>by subst hi;exact SB0.sid) U U U U U (oneB (n:=3) SB0 (by omega) (by omega)) (fun v H1 S1 n1 st1 w1 hv1=>?_)
  obtain⟨b1,rfl,src1⟩:=hv1
  have SB1:=SB0.w1 st1 src1
  have E1:=E0.w st1 (fun i hi=>.inl hi)
  refine KW.cndB U U (fun k1=>?gt) (fun k1=>?ot)
  case' gt=>
    refine KW.callW (W:=fun i=>i=id) (fun i hi=>by subst hi;exact SB1.sid) U U U U U (l04Gated SB1 (by omega)) (fun v H2 S2 n2 st2 w2 hv2=>?_)
    obtain⟨p,N,g,cs,rfl,hp,hN,hR,hg,src2⟩:=hv2
    obtain⟨ag,cg,rfl,_⟩:=hR.form
    have SB2:=SB1.w1 st2 (B':=B+2012) (by obtain⟨q,h1,h2⟩:=src2;exact⟨q,by omega,h2⟩)
    have E2:=E1.w st2 (fun i hi=>.inl hi)
    have hR2:=RG.more 4 (fun i hi=>w2 i hi) hR
    have hp31:2≤p∧p≤31:=by simp at hp;omega
    refine KW.callNV1 U U U U U (fun H1 g _=>l04Gate (S:=Low H1.n) (H0:=H1) (by omega) hp31 hg (On.R (d:=KG 4) hR2) (g.has (j:=1) U U)) (fun v HG SG mG _ _ hv=>?_)
    obtain⟨h9,p9,c9,a1,a2,m1,d1,m2,d2,code,rfl,hok⟩:=hv
    have tG:=(inferInstance:Stp S2 H2 SG HG).st
    have E3:=E2.s tG
    have SB3:=SB2.s (B':=B+2012) tG (Nat.le_refl _)
    refine KW.cnd U U (fun k2=>?gy) (fun k2=>?gn)
    case gy=>
      have k2:code=0:=k2
      obtain⟨ow,rows,rfl,rfl,hk,rfl,rfl,ho,hs⟩:=hok k2
      refine KW.retW U U U U (fun H9 g=>by have:=(g.vars 0 _ rfl).2.1;have:=g.n_;omega) (fun i h1 h2=>E3.old i h1 h2) (fun H9 gg=>?_)
      have hw:∀i,New (H2.n+1) HG.n i→SG i:=fun i hi=>((inferInstance:On (New (H2.n+1) HG.n) HG SG HG).st i hi).1
      have mv:∀i,New (H2.n+1) HG.n i→New H.n H9.n i∧H9.m i=HG.m i:=fun i hi=>⟨⟨by have:=hi.1;omega,by have:=(gg.froz i (hw i hi)).1;have:=gg.n_;omega⟩,(gg.froz i (hw i hi)).2⟩
      obtain⟨q3,u3,src3⟩:=SB3.src
      exact⟨⟨_,rfl,h9,p9,c9,ow,rows,a1,a2,d1,d2,rfl,hk,ho.stX mv,hs.stX mv⟩,q3,by omega,src3.mv (gg.froz id SB3.sid).2⟩
    case' gn=>
      refine KW.take 1 ?_
      have SX:=SB3
      have EX:=E3
  case' ot=>
    have SX:=SB1.s (B':=B+2012) (fun i hi=>⟨hi,rfl⟩) (by omega)
    have EX:=E1
  all_goals
    refine KW.callW (W:=fun i=>i=id) (fun i hi=>by subst hi;exact SX.sid) U U U U U (oneB (n:=4) SX (by omega) (by omega)) (fun v H4 S4 n4 st4 w4 hv4=>?_)
    obtain⟨b4,rfl,src4⟩:=hv4
    have SB4:=SX.w1 st4 src4
    have E4:=EX.w st4 (fun i hi=>.inl hi)
    refine KW.cndB U U (fun k4=>?cv) (fun k4=>?fl)
    case cv=>
      refine KW.callW (W:=fun i=>i=id) (fun i hi=>by subst hi;exact SB4.sid) U U U U U (pickB (n:=4) SB4 (by omega) (by omega)) (fun v H5 S5 n5 st5 w5 hv5=>?_)
      obtain⟨z5,hz5,rfl,src5⟩:=hv5
      have hz5:=hz5 (by omega)
      have SB5:=SB4.w1 st5 src5
      have E5:=E4.w st5 (fun i hi=>.inl hi)
      have e5:IntKind.i64.wrap (1+(z5:Int))=((1+z5:Nat):Int):=by rw[wr (by omega) (by omega)];omega
      refine KW.lit U U U U U U U U U U (([5,7,11]:List Int).map (Value.int .i64)) U U (fun v hv=>by obtain⟨x,_,rfl⟩:=List.mem_map.1 hv;rfl) rfl ?_
      refine KW.freeze 1 rfl (fun A6 S6 hn6 hS6 st6 hm6 ho6 hno6 hlow6=>?_)
      have SB6:=SB5.s (B':=B+2012+2+2) st6.st (Nat.le_refl _)
      have E6:=E5.s st6.st
      refine KW.callW (W:=fun i=>i=id) (fun i hi=>by subst hi;exact SB6.sid) U U U U U (amongB SB6 (by omega) (ls:=[5,7,11]) (by decide) (by decide) (litSl hm6 hS6 hno6 SB5.sid)) (fun v H7 S7 n7 st7 w7 hv7=>?_)
      obtain⟨p,hp,rfl,src7⟩:=hv7
      have SB7:=SB6.w1 st7 src7
      have E7:=E6.w st7 (fun i hi=>.inl hi)
      refine KW.callW (W:=fun i=>i=id) (fun i hi=>by subst hi;exact SB7.sid) U U U U U (pickB (n:=IntKind.i64.wrap (1+(z5:Int))) SB7 (by omega) (by omega)) (fun v H8 S8 n8 st8 w8 hv8=>?_)
      obtain⟨z8,hz8,rfl,src8⟩:=hv8
      have hz8:=hz8 (by omega)
      have SB8:=SB7.w1 st8 src8
      have E8:=E7.w st8 (fun i hi=>.inl hi)
      have e8:IntKind.i64.wrap (1+(z8:Int))=((1+z8:Nat):Int):=by rw[wr (by omega) (by omega)];omega
      have key:=curve (S:=S8) (H0:=H8) (p:=p) (by simp at hp;omega) (q:=1+z5) (least:=1+z8) (by omega) (by omega)
      rw[← e5,← e8] at key
      refine KW.ids (fun hlow8 hvar8=>?_)
      have hnn8:=E8.nle hlow8
      refine KW.callN1 U U U U U key (fun v H9 S9 n9 t9 w9 hv9=>?_)
      obtain⟨cs,rfl,h9,p9,c9,ow,rows,a1,a2,d1,d2,rfl,hk,ho,hs⟩:=hv9
      have SB9:=SB8.s (B':=B+2500) t9.st (by omega)
      have E9:=E8.s t9.st
      refine KW.retW U U U U (fun H9 g=>by have:=(g.vars 0 _ rfl).2.1;have:=g.n_;omega) (fun i h1 h2=>E9.old i h1 h2) (fun HE gg=>?_)
      have mv:∀i,New _ H9.n i→New H.n HE.n i∧HE.m i=H9.m i:=fun i hi=>⟨⟨by have:=hi.1;omega,by have:=(gg.froz i (w9.st i hi).1).1;have:=gg.n_;omega⟩,(gg.froz i (w9.st i hi).1).2⟩
      obtain⟨q9,u9,src9⟩:=SB9.src
      exact⟨⟨_,rfl,h9,p9,c9,ow,rows,a1,a2,d1,d2,rfl,hk,ho.stX mv,hs.stX mv⟩,q9,by omega,src9.mv (gg.froz id SB9.sid).2⟩
    case fl=>
      refine KW.callW (W:=fun i=>i=id) (fun i hi=>by subst hi;exact SB4.sid) U U U U U (pickB (n:=4) SB4 (by omega) (by omega)) (fun v H5 S5 n5 st5 w5 hv5=>?_)
      obtain⟨z5,hz5,rfl,src5⟩:=hv5
      have hz5:=hz5 (by omega)
      have SB5:=SB4.w1 st5 src5
      have E5:=E4.w st5 (fun i hi=>.inl hi)
      have e5:IntKind.i64.wrap (1+(z5:Int))=1+(z5:Int):=wr (by omega) (by omega)
      refine KW.lit U U U U U U U U U U (([2,3,5]:List Int).map (Value.int .i64)) U U (fun v hv=>by obtain⟨x,_,rfl⟩:=List.mem_map.1 hv;rfl) rfl ?_
      refine KW.freeze 1 rfl (fun A6 S6 hn6 hS6 st6 hm6 ho6 hno6 hlow6=>?_)
      have SB6:=SB5.s (B':=B+2012+2+2) st6.st (Nat.le_refl _)
      have E6:=E5.s st6.st
      refine KW.callW (W:=fun i=>i=id) (fun i hi=>by subst hi;exact SB6.sid) U U U U U (amongB SB6 (by omega) (ls:=[2,3,5]) (by decide) (by decide) (litSl hm6 hS6 hno6 SB5.sid)) (fun v H7 S7 n7 st7 w7 hv7=>?_)
      obtain⟨p,hp,rfl,src7⟩:=hv7
      have hp5:p=2∨p=3∨p=5∨p=7∨p=11:=by simp at hp;omega
      have SB7:=SB6.w1 st7 src7
      have E7:=E6.w st7 (fun i hi=>.inl hi)
      refine KW.callW (W:=fun i=>i=id) (fun i hi=>by subst hi;exact SB7.sid) U U U U U (pickB (n:=6) SB7 (by omega) (by omega)) (fun v H8 S8 n8 st8 w8 hv8=>?_)
      obtain⟨z8,hz8,rfl,src8⟩:=hv8
      have hz8:=hz8 (by omega)
      have SB8:=SB7.w1 st8 src8
      have E8:=E7.w st8 (fun i hi=>.inl hi)
      refine KW.callW (W:=fun i=>i=id) (fun i hi=>by subst hi;exact SB8.sid) U U U U U (pickB (n:=4) SB8 (by omega) (by omega)) (fun v H9 S9 n9 st9 w9 hv9=>?_)
      obtain⟨z9,hz9,rfl,src9⟩:=hv9
      have hz9:=hz9 (by omega)
      have SB9:=SB8.w1 st9 src9
      have E9:=E8.w st9 (fun i hi=>.inl hi)
      have e9:IntKind.i64.wrap (1+(z9:Int))=((1+z9:Nat):Int):=by rw[wr (by omega) (by omega)];omega
      refine KW.ids (fun hlow9 hvar9=>?_)
      have hnn9:=E9.nle hlow9
      have key:=filledB (S:=S9) (H0:=H9) (p:=p) (by omega) (rs:=z8) (k:=1+z9) (by omega) (by omega) SB9 (by omega)
      rw[← e9] at key
      refine KW.callW (W:=fun i=>i=id) (fun i hi=>by subst hi;exact SB9.sid) U U U U U key (fun v HF SF nF stF wF hvF=>?_)
      obtain⟨L,hL1,hL2,⟨b4,d4,rfl,hml⟩,srcF⟩:=hvF
      have SBF:=SB9.w1 stF srcF
      have EF:=E9.w stF (fun i hi=>.inl hi)
      have hsF:KI.sl.Sl (New H9.n HF.n) HF (.slice b4 L.length d4) L:=hml.to (KLe.row (KLe.refl KI))
      refine KW.build U U U U U (built_SchemeR _ _ _ _ _ _) ?_
      refine KW.lpM U U (fun s:OwS=>[(0,.pointer (some ⟨id,0,none⟩)),(2,.pointer (some ⟨H.n,0,some 0⟩)),(11,.int .i64 (IntKind.i64.wrap (1+(z5:Int)))),(12,.pointer (some ⟨HF.n,0,some 1⟩)),(13,.int .i64 s.i)]) (fun s=>s.S) (fun s=>s.A) (fun s=>[(H.n,⟨29,true,[.int .i64 0,.slice none 0 0,.int .i64 0,.int .i64 0,.slice none 0 0]⟩),(HF.n,⟨29,true,[.int .i64 (IntKind.i64.wrap (1+(z5:Int))),s.l,.int .i64 p,.int .i64 (IntKind.i64.wrap (1+(z9:Int))),.slice b4 L.length d4]⟩)]++s.tail) (fun s=>OwI bs ac cc id Y (1+z5) (B+2012+2+2+2+2+2+200) L.length (New H9.n HF.n) HF H s) (fun s=>L.length-s.i) (⟨0,SF,HF,[],.slice none 0 0,[]⟩) (⟨Nat.zero_le _,SBF.s (fun i hi=>⟨hi,rfl⟩) (by simp only;omega),EF,fun j hj=>⟨wF j hj,rfl⟩,rfl,fun x hx=>(by cases hx),.inl ⟨rfl,rfl,rfl⟩⟩) ⟨rfl,rfl,rfl,rfl,rfl,trivial⟩ U U (rfl) (fun s hi bE n=>?_)
      obtain⟨i,S10,A10,xs,l,tail⟩:=s
      obtain⟨ile,SB10,E10,v10,xl,xb,hform⟩:=hi
      simp only at ile SB10 E10 v10 xl xb hform
      rcases hform with⟨hi0,el,et⟩ | ⟨hi0,o,el,et⟩
      case' inl=>subst el et
      case' inr=>subst el et
      all_goals
        refine KW.cnd U U (fun k5=>?gin) (fun k5=>?gout)
        case gin=>
          have k5:(i:Int)<(L.length:Int):=k5
          refine KW.callWL (W:=fun i=>i=id) (fun i hi=>by subst hi;exact SB10.sid) U U U U U ⟨.inl ⟨1,_,_,_,_,rfl,rfl⟩,trivial⟩ (pickB (n:=IntKind.i64.wrap (1+(z5:Int))) SB10 (by omega) (by omega)) (fun v H11 S11 n11 st11 w11 hv11=>?_)
          obtain⟨z11,hz11,rfl,src11⟩:=hv11
          have hz11:=hz11 (by omega)
          have SB11:=SB10.w1 st11 src11
          have E11:=E10.w st11 (fun i hi=>.inl hi)
          have hne:∀j,New H9.n HF.n j→j≠id:=fun j hj e=>by have:=hj.1;have:=SB0.sid;have h0:id<H.n:=SB0.sid;omega
          have v11:∀j,New H9.n HF.n j→S11 j∧H11.m j=HF.m j:=fun j hj=>⟨(st11 j (v10 j hj).1).1,((st11 j (v10 j hj).1).2 (hne j hj)).trans (v10 j hj).2⟩
          have xb11:∀x∈xs++[(z11:Int)],0≤x∧x≤1+(z5:Int)-1:=fun x hx=>(List.mem_append.1 hx).elim (xb x) (fun hx=>by rw[List.mem_singleton.1 hx];omega)
          have SB12:=SB11.s (B':=B+2012+2+2+2+2+2+200+2*(i+1)) (fun i hi=>⟨hi,rfl⟩) (by omega)
          first
            | (refine KW.app1 (xs:=xs.map (Value.int .i64)) (v:=.int .i64 z11) 2 3 U U U U U U U U U U U U U U U U U U U U U U U (by rw[List.length_map];exact xl) (by show(i+1)*8≤_;omega) (by show i+1≤_;omega) ?_
               exact KW.nxt U U (fun H' g=>⟨⟨i+1,S11,H11,xs++[(z11:Int)],.slice (some ⟨H11.n+1,0,some 1⟩) (i+1) (i+1),[(H11.n+1,⟨2,true,(xs++[(z11:Int)]).map (Value.int .i64)⟩)]⟩,⟨by simp only;omega,SB12,E11,v11,by simp only[List.length_append,List.length_singleton];omega,xb11,.inr ⟨by simp only;omega,_,rfl,rfl⟩⟩,by simp only;omega,⟨rfl,rfl,rfl,rfl,congrArg (Value.int .i64) (inc64 (by omega)),trivial⟩,g.eqT (by simp only[List.map_append];rfl)⟩))
            | (refine KW.app0 (v:=.int .i64 z11) 2 U U U U U U U U U U U U U U U U U U U U U U (by decide) ?_
               subst hi0
               obtain rfl:xs=[]:=List.eq_nil_of_length_eq_zero xl
               exact KW.nxt U U (fun H' g=>⟨⟨1,S11,H11,[(z11:Int)],_,_⟩,⟨by simp only;omega,SB12,E11,v11,rfl,xb11,.inr ⟨by simp only;omega,_,rfl,rfl⟩⟩,by simp only;omega,⟨rfl,rfl,rfl,rfl,rfl,trivial⟩,g⟩))
        case gout=>
          have k5:¬(i:Int)<(L.length:Int):=k5
          have ei:i=L.length:=by omega
          have hpr:=prime_small hp5
          have hk:OkSch (IntKind.i64.wrap (1+(z5:Int))) xs p (IntKind.i64.wrap (1+(z9:Int))) L:=⟨by omega,by omega,⟨hpr,by omega,by omega,by omega,fun r hr=>⟨by have:=(hL2 r hr).1;omega,fun y hy=>by have:=(hL2 r hr).2 y hy;omega⟩⟩,by omega,by omega,fun y hy=>by have:=xb y hy;omega⟩
          refine KW.retW U U U U (fun H9 g=>by have:=(g.vars 0 _ rfl).2.1;have:=g.n_;omega) (fun i h1 h2=>E10.old i h1 h2) (fun HE gg=>?_)
          have hnE:=gg.n_
          have mv:∀j,New H9.n HF.n j→New H.n HE.n j∧HE.m j=HF.m j:=fun j hj=>⟨⟨by have:=hj.1;omega,by have:=(gg.froz j (v10 j hj).1).1;omega⟩,(gg.froz j (v10 j hj).1).2.trans (v10 j hj).2⟩
          obtain⟨q9,u9,src9⟩:=SB10.src
          first
            | (have hb:=gg.blk (j:=2) rfl
               have hgv:=(gg.vars 2 _ rfl).2.2
               have oge:H.n≤o:=by
                 rcases Nat.lt_or_ge o H.n with h | h
                 · by_cases e:o=id
                   · exact absurd (e ▸ SB10.sid) hgv
                   · exact absurd (E10.old o h e).1 hgv
                 · exact h
               have h1:KI.Sl (New H.n HE.n) HE (.slice (some ⟨o,0,some 1⟩) xs.length xs.length) xs:=(row_ml hb.1).sl.more (fun j h=>by rw[h];exact⟨oge,hb.2⟩)
               refine⟨⟨_,rfl,_,p,_,xs,L,some ⟨o,0,some 1⟩,b4,xs.length,d4,by rw[xl];rfl,hk,h1,hsF.stX mv⟩,q9,by omega,src9.mv (gg.froz id SB10.sid).2⟩)
            | (obtain rfl:xs=[]:=List.eq_nil_of_length_eq_zero (by omega)
               exact⟨⟨_,rfl,_,p,_,[],L,none,b4,0,d4,rfl,hk,.inl ⟨rfl,none,0,rfl,fun _=>rfl⟩,hsF.stX mv⟩,q9,by omega,src9.mv (gg.froz id SB10.sid).2⟩)
end
end Go.Proofs.YtlapbbffoapleaaGreat.Am
