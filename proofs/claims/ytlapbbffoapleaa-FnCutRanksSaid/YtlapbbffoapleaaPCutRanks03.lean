/- Contracts and laws on abstract memory, merged. Each holds under its own conditions. -/
import Derived.Test.YtlapbbffoapleaaPCutRanks02
set_option linter.unusedVariables false
set_option linter.unusedSimpArgs false
set_option maxRecDepth 20000
set_option maxHeartbeats 4000000
namespace Go.Proofs.Ytlapbbffoapleaa.Am
open Go Go.RowKit Go.Proofs Go.Proofs.Ytlapbbffoapleaa.Pl
def MkG (xs:List (List Int)) (ty:TypeId) (n:Nat) (v:Value) (H1:AH):Prop:=∃o cs V,v=.slice (some ⟨o,0,some 1⟩) xs.length xs.length∧New n H1.n o∧H1.m o=some ⟨ty,true,cs⟩∧(∀id,V id→New n H1.n id∧id≠o)∧RowsB KI.ml V H1 V xs cs
theorem RowsB.on {S S' V:Ids} {A A':AH} {rows:List (List Int)} {cs:List Value} (h:RowsB KI.ml S A V rows cs) (hs:∀id,V id→S' id∧A'.m id=A.m id):RowsB KI.ml S' A' V rows cs:=by
 obtain⟨W,h1,h2,h3⟩:=h.rows
 refine⟨h.len,fun id hid=>(hs id hid).1,W,h1,h2,fun j x hx=>?_⟩
 obtain⟨v,h4,h5⟩:=h3 j x hx
 exact⟨v,h4,KI.ml.same (fun id hid=>(hs id (h1 j id hid)).2) h5⟩
theorem RwI.mkG {xs:List (List Int)} {H HB H1:AH} {SB:Ids} {s:RwS} {T:List Var} {n j:Nat} {ty:TypeId} (h:RwI (fun x=>x) xs H SB HB s) (he:s.i=xs.length) (g:Good s.S s.A T n H1) (hT:T[j]?=some (s.o,⟨ty,true,s.cs⟩)) (ho:H.n≤s.o):MkG xs ty H.n (.slice (some ⟨s.o,0,some 1⟩) xs.length xs.length) H1:=by
 have hb:=h.b
 rw[he,List.take_of_length_le (Nat.le_refl _),List.map_id'] at hb
 have hno:=(g.vars j _ hT).2.2
 have hn:=g.n_
 refine⟨s.o,s.cs,s.V,rfl,⟨ho,(g.blk hT).2⟩,(g.blk hT).1,fun id hid=>⟨⟨h.v id hid,?_⟩,fun e=>hno (e ▸ hb.sub id hid)⟩,hb.on (fun id hid=>⟨hid,(g.froz id (hb.sub id hid)).2⟩)⟩
 have:=(g.froz id (hb.sub id hid)).1
 omega
section
variable {S:Ids} {H0:AH}
theorem copyRows {a c} {xs:List (List Int)} (hB:B_Int64SS xs) (hs:KI.sl.Sl S H0 (.slice a xs.length c) xs):SpecM Try.prog S H0 66 [.slice a xs.length c] (MkG xs 36):=by
 have hxl:=hB.len
 refine SpecM.of1 Try.func66 rfl (by kernel_rfl) rfl (fun H _=>?_)
 refine KW.lit U U U U U U U U U U [] U U (fun v hv=>by simp at hv) rfl ?_
 refine KW.lpM U U (fun s:RwS=>[(3,.slice (some ⟨s.o,0,some 1⟩) s.i s.i),(7,.slice a xs.length c),(8,.int .i64 xs.length),(9,.int .i64 s.i)]) (fun s=>s.S) (fun s=>s.A) (fun s=>[(s.o,⟨_,true,s.cs⟩)]) (fun s=>RwI (fun x=>x) xs H (Low H.n) H s) (fun s=>xs.length-s.i) (⟨0,Low H.n,H,fun _=>False,[],_⟩) (RwI.start) ⟨rfl,rfl,rfl,rfl,trivial⟩ U U (rfl) (fun s hi bE n=>?_)
 haveI:Stp (Low H.n) H s.S s.A:=⟨hi.old⟩
 have hle:=hi.le
 have hcl:=hi.b.len
 rw[List.length_map,List.length_take] at hcl
 refine KW.cnd U U (fun k1=>?_) (fun k1=>?_)
 ·have k1:(s.i:Int)<xs.length:=k1
  refine KW.getL hs.up U U U U U U U U U U U U U U U U (by omega) (k1) (fun y ay cy hy hsy=>?_)
  have hy:xs[s.i]?=some y:=hy
  have hyl:=hB.each y (List.mem_of_getElem? hy)
  refine KW.ids (fun hlow hvar=>?_)
  refine KW.fact (fun _ g=>g.nle (H1:=H)) (fun hn0=>?_)
  refine KW.callN1 U U U U U (cloneI hyl hsy) (fun v HC SC mC _ _ hv=>?_)
  obtain⟨a5,c5,rfl,hC⟩:=hv
  refine KW.app1 (xs:=s.cs) (v:=.slice a5 y.length c5) 0 1 U U U U U U U U U U U U U U U U U U U U U U U (by omega) (by show(_+1)*24≤_;omega) (by first | omega | (simp only;omega)) ?_
  exact KW.nxt U U (fun H' g=>⟨_,hi.next (inferInstance:Stp s.S s.A SC HC).st inferInstance hlow hn0 hy hC,by simp only;omega,⟨rfl,rfl,rfl,congrArg (Value.int .i64) (inc64 (by omega)),trivial⟩,g⟩)
 ·have k1:¬(s.i:Int)<xs.length:=k1
  have he:s.i=xs.length:=by omega
  refine KW.retM1 U U U U (fun H1 g=>?_)
  rw[he]
  exact hi.mkG he g (j:=0) rfl (g.ge (H1:=H) (j:=0) rfl)
end
def MkE (p:Int) (k:Nat) (e:List (List Int) × List Nat) (n:Nat) (v:Value) (H1:AH):Prop:=∃a1 c1 a2 c2,v=.tuple #[.agg #[.int .i64 p,.int .i64 k,.slice a1 e.2.length c1],.slice a2 e.2.length c2]∧KI.ml.Ml (New n H1.n) H1 (.slice a1 e.2.length c1) (e.1.take e.2.length)∧KI.Ml (New n H1.n) H1 (.slice a2 e.2.length c2) (e.2.map fun(i:Nat)=>(i:Int))
structure EcS where
 c:Nat
 S:Ids
 A:AH
 cs:List Value
 po:Nat
structure EcI (p:Int) (k:Nat) (L:List (List Int)) (H:AH) (V:Ids) (s:EcS):Prop where
 le:s.c≤k
 old:St (Low H.n) H s.S s.A
 b:RowsB KI.ml s.S s.A V (ech p L s.c).1 s.cs
theorem ech_none {p:Int} {L:List (List Int)} {c:Nat} (h:nz (ech p L c).1 c (ech p L c).2.length=(ech p L c).1.length):ech p L (c+1)=ech p L c:=by
 rw[ech]
 have:rnd p (ech p L c).1 c (ech p L c).2.length=none:=by unfold rnd;rw[if_pos h]
 rw[this]
theorem ech_some {p:Int} {L:List (List Int)} {c:Nat} (h:nz (ech p L c).1 c (ech p L c).2.length≠(ech p L c).1.length):ech p L (c+1)=(tks p c (ech p L c).2.length (lead p (ech p L c).1 c (ech p L c).2.length) ((sw (ech p L c).1 (ech p L c).2.length (nz (ech p L c).1 c (ech p L c).2.length)).set (ech p L c).2.length (lead p (ech p L c).1 c (ech p L c).2.length)) (ech p L c).1.length,(ech p L c).2++[c]):=by
 rw[ech]
 unfold rnd
 rw[if_neg h]
theorem built_Matrix (p c:Int) (a:Option Addr) (n m:Nat):Try.prog.built 26 [(0,.int .i64 p),(1,.int .i64 c),(2,.slice a n m)]=some #[.int .i64 p,.int .i64 c,.slice a n m]:=by kernel_rfl
theorem cell0 {l:List Value} {q:Nat} {v:Value} (h:l[q]?=some v):l[0+q*1]?=some v:=by rw[Nat.zero_add,Nat.mul_one];exact h
section
variable {S:Ids} {H0:AH}
theorem echelon {p:Int} {k:Nat} (hp:2≤p∧p≤31) (hk:k≤1000) {L:List (List Int)} (hB:B_Int64SS L) (hL:Rect p k L) {a c} (hs:KI.sl.Sl S H0 (.slice a L.length c) L):SpecM Try.prog S H0 65 [.agg #[.int .i64 p,.int .i64 k,.slice a L.length c]] (MkE p k (ech p L k)):=by
 have hLl:=hB.len
 have hok:=ech_ok (p:=p) (by omega) hL
 refine SpecM.of1 Try.func65 rfl (by kernel_rfl) rfl (fun H _=>?_)
 refine KW.callN1 U U U U U (copyRows hB hs.up) (fun v HC SC mC _ _ hv=>?_)
 obtain⟨o,cs0,V,rfl,ho,hom,hV,hb0⟩:=hv
 have oS:=(inferInstance:On (New (H.n+2) HC.n) HC SC HC).st
 refine KW.thaw o ⟨_,true,cs0⟩ (oS o ho).1 hom ?_
 haveI oH:On (Low H.n) H (fun id=>SC id∧id≠o) HC:=On.thaw (fun id hid=>by have:id<H.n:=hid;have:=ho.1;omega)
 have hb1:RowsB KI.ml (fun id=>SC id∧id≠o) HC V L cs0:=hb0.on (fun id hid=>⟨⟨(oS id (hV id hid).1).1,(hV id hid).2⟩,rfl⟩)
 have hVl:∀id,V id→H.n≤id:=fun id hid=>by have:=(hV id hid).1.1;omega
 refine KW.lit U U U U U U U U U U [] U U (fun v hv=>by simp at hv) rfl ?_
 refine KW.lpM U U (fun s:EcS=>[(1,.pointer (some ⟨H.n,0,some 0⟩)),(2,.pointer (some ⟨H.n+1,0,some 1⟩)),(4,.slice (some ⟨o,0,some 1⟩) L.length L.length),(5,.slice (some ⟨s.po,0,some 1⟩) (ech p L s.c).2.length (ech p L s.c).2.length),(16,.int .i64 k),(17,.int .i64 s.c)]) (fun s=>s.S) (fun s=>s.A) (fun s=>[(H.n,⟨26,true,[.int .i64 p,.int .i64 k,.slice a L.length c]⟩),(H.n+1,⟨26,true,[.int .i64 0,.int .i64 0,.slice none 0 0]⟩),(o,⟨36,true,s.cs⟩),(s.po,⟨_,true,(ech p L s.c).2.map fun(i:Nat)=>Value.int .i64 i⟩)]) (fun s=>EcI p k L H V s) (fun s=>k-s.c) (⟨0,_,HC,cs0,_⟩) (⟨Nat.zero_le _,oH.st,hb1⟩) ⟨rfl,rfl,rfl,rfl,rfl,rfl,trivial⟩ U U (rfl) (fun s hi bE n=>?_)
 obtain⟨ci,S1,A1,cs,po⟩:=s
 obtain⟨hle,hold,hb⟩:=hi
 simp only at hle hold hb
 have hoc:=hok ci
 haveI oc:Stp (Low H.n) H S1 A1:=⟨hold⟩
 obtain⟨q,hn⟩:∃q,(ech p L ci).2.length=q:=⟨_,rfl⟩
 obtain⟨M,hM⟩:∃M,(ech p L ci).1=M:=⟨_,rfl⟩
 rw[hM] at hb
 have hcs:=hb.len
 have hMl:M.length=L.length:=by rw[← hM];exact hoc.2.1
 have hMr:Rect p k M:=by rw[← hM];exact hoc.1
 have hnL:q≤L.length:=by rw[← hn];exact hoc.2.2.1
 have e5:Value.slice (some ⟨po,0,some 1⟩) (ech p L ci).2.length (ech p L ci).2.length=Value.slice (some ⟨po,0,some 1⟩) q q:=by rw[hn]
 have e7:Value.int .i64 ((ech p L ci).2.length:Nat)=Value.int .i64 q:=by rw[hn]
 refine KW.cnd U U (fun h=>?_) (fun h=>?_)
 ·have h:(ci:Int)<k:=h
  refine KW.lp U U (fun r:Nat=>[(1,.pointer (some ⟨H.n,0,some 0⟩)),(2,.pointer (some ⟨H.n+1,0,some 1⟩)),(4,.slice (some ⟨o,0,some 1⟩) L.length L.length),(5,.slice (some ⟨po,0,some 1⟩) q q),(6,.int .i64 ci),(7,.int .i64 q),(8,.int .i64 r),(16,.int .i64 k),(17,.int .i64 ci)]) (fun r=>q≤r∧r≤L.length∧nz M ci r=nz M ci q) (fun r=>L.length-r) (q) (⟨Nat.le_refl _,hnL,rfl⟩) ⟨rfl,rfl,rfl,e5,rfl,e7,e7,rfl,rfl,trivial⟩ (fun r hi bE n=>?_)
  obtain⟨hr1,hr2,hr3⟩:=hi
  refine KW.tst U U (fun h1=>?_) (fun h1=>?_)
  ·have h1:(r:Int)<L.length:=h1
   obtain⟨w,hw⟩:∃w,M[r]?=some w:=⟨M[r]'(by omega),List.getElem?_eq_getElem (by omega)⟩
   obtain⟨v,W,hv,hm,hWV,_,_⟩:=hb.row1 hw
   obtain⟨ra,rc,rfl⟩:=hm.form
   have hwk:=hMr.at hw
   refine KW.idx0 U U U U U U U U U (by omega) (h1) ?_
   refine KW.ldT 2 U U U U U U (bload_at (cell0 hv) U U) ?_
   refine KW.getI ((hm.sl.more (fun id hid=>hb.sub id (hWV id hid)))) U U U U U U U U U U U U U U U U (by omega) (by omega) (fun x hx=>?_)
   have hx:w[ci]?=some x:=hx
   refine KW.cnd U U (fun k2=>?_) (fun k2=>?_)
   ·have k2:x=0:=k2
    refine KW.nxt U U (fun H' g=>⟨r+1,⟨by omega,by omega,by rw[nz_step hw (by rw[List.getD_eq_getElem?_getD,hx];exact k2)];exact hr3⟩,by first | omega | (simp only;omega),⟨rfl,rfl,rfl,rfl,rfl,rfl,congrArg (Value.int .i64) (inc64 (by omega)),rfl,rfl,trivial⟩,g⟩)
   ·have k2:¬x=0:=k2
    refine KW.no U U (by omega) ?_
    have e1:nz M ci q=r:=by rw[← hr3];exact nz_stop hw (by rw[List.getD_eq_getElem?_getD,hx];exact k2)
    have hrn:q≤r:=by omega
    have hrL:r<L.length:=by omega
    obtain⟨wn,hwn⟩:∃w,M[q]?=some w:=⟨M[q]'(by omega),List.getElem?_eq_getElem (by omega)⟩
    obtain⟨vn,Wn,hvn,hmn,_,_,_⟩:=hb.row1 hwn
    obtain⟨na,nc,rfl⟩:=hmn.form
    refine KW.idx0 U U U U U U U U U (by omega) (by omega) ?_
    refine KW.ldT 2 U U U U U U (bload_at (cell0 hv) U U) ?_
    refine KW.idx0 U U U U U U U U U (by omega) (by omega) ?_
    refine KW.ldT 2 U U U U U U (bload_at (cell0 hvn) U U) ?_
    refine KW.idx0 U U U U U U U U U (by omega) (by omega) ?_
    refine KW.st1 2 U U U U U U U U U U U U (by simp only;omega) ?_
    refine KW.idx0 U U U U U U U U U (by omega) (by omega) ?_
    refine KW.st1 2 U U U U U U U U U U U U (by simp only[List.length_set];omega) ?_
    have hb2:RowsB KI.ml S1 A1 V (sw M q r) ((cs.set (0+q*1) (.slice ra w.length rc)).set (0+r*1) (.slice na wn.length nc)):=by
     rw[Nat.zero_add,Nat.zero_add,Nat.mul_one,Nat.mul_one]
     exact hb.swap (by omega) (by omega) hvn hv
    have hM1:Rect p k (sw M q r):=hMr.sw (by omega) (by omega)
    obtain⟨w1,hw1⟩:∃w,(sw M q r)[q]?=some w:=⟨(sw M q r)[q]'(by rw[sw_len];omega),List.getElem?_eq_getElem (by rw[sw_len];omega)⟩
    have hw1d:(sw M q r).getD q []=w1:=by rw[List.getD_eq_getElem?_getD,hw1];rfl
    have hw1k:=hM1.at hw1
    obtain⟨v1,W1,hv1,hm1,hW1,_,hset⟩:=hb2.row1 hw1
    obtain⟨a1,c1,rfl⟩:=hm1.form
    have hw1l:w1.length=k:=hw1k.1
    refine KW.idx0 U U U U U U U U U (by omega) (by omega) ?_
    refine KW.ldT 2 U U U U U U (bload_at (cell0 hv1) U U) ?_
    refine KW.idx0 U U U U U U U U U (by omega) (by omega) ?_
    refine KW.ldT 2 U U U U U U (bload_at (cell0 hv1) U U) ?_
    refine KW.getI ((hm1.sl.more (fun id hid=>hb2.sub id (hW1 id hid)))) U U U U U U U U U U U U U U U U (by omega) (by omega) (fun x1 hx1=>?_)
    have hx1:w1[ci]?=some x1:=hx1
    have hx1k:=hw1k.2 x1 (List.mem_of_getElem? hx1)
    refine KW.callE U U U U U (inverse p x1 hp hx1k) (fun _ _=>?_)
    have hpk:=pw_ok (a:=x1) hp.1 (p-2).toNat
    have hsub1:∀id,W1 id→S1 id:=fun id hid=>hb2.sub id (hW1 id hid)
    refine KW.callW hsub1 U U U U U (scaled hp hpk (by omega) hw1k.2 hsub1 hm1) (fun v2 H2 S2 hn2 st2 hw2 hv2=>?_)
    obtain⟨ld,hld⟩:∃ld,sc p (pw p x1 (p-2).toNat) w1=ld:=⟨_,rfl⟩
    have hlead:lead p M ci q=ld:=by
     unfold lead
     rw[e1,hw1d,← hld,List.getD_eq_getElem?_getD,hx1]
     rfl
    have hldk:ld.length=k∧∀x∈ld,0≤x∧x<p:=by rw[← hld];exact sc_ok (by omega) hw1k
    have hb3:=hset S2 H2 _ st2 hv2
    rw[hld] at hb3
    have hold2:St (Low H.n) H S2 H2:=fun id hid=>⟨(st2 id (hold id hid).1).1,by rw[(st2 id (hold id hid).1).2 (fun hw=>by have:=hVl id (hW1 id hw);have:id<H.n:=hid;omega)];exact(hold id hid).2⟩
    obtain⟨M2,hM2⟩:∃M2,(sw M q r).set q ld=M2:=⟨_,rfl⟩
    rw[hM2] at hb3
    have hM2l:M2.length=L.length:=by rw[← hM2,List.length_set,sw_len];exact hMl
    have hM2r:Rect p k M2:=by rw[← hM2];exact hM1.set hldk
    have hM2q:M2[q]?=some ld:=by rw[← hM2,List.getElem?_set_self (by rw[sw_len];omega)]
    obtain⟨cs1,hcs1⟩:∃cs1,(cs.set (0+q*1) (.slice ra w.length rc)).set (0+r*1) (.slice na wn.length nc)=cs1:=⟨_,rfl⟩
    rw[hcs1] at hb3
    refine KW.lpM U U (fun s:(Nat × Ids × AH)=>[(1,.pointer (some ⟨H.n,0,some 0⟩)),(2,.pointer (some ⟨H.n+1,0,some 1⟩)),(4,.slice (some ⟨o,0,some 1⟩) L.length L.length),(5,.slice (some ⟨po,0,some 1⟩) q q),(6,.int .i64 ci),(7,.int .i64 q),(16,.int .i64 k),(17,.int .i64 ci),(74,.slice (some ⟨o,0,some 1⟩) L.length L.length),(75,.int .i64 L.length),(76,.int .i64 s.1)]) (fun s=>s.2.1) (fun s=>s.2.2) (fun s=>[(H.n,⟨26,true,[.int .i64 p,.int .i64 k,.slice a L.length c]⟩),(H.n+1,⟨26,true,[.int .i64 0,.int .i64 0,.slice none 0 0]⟩),(o,⟨36,true,(cs.set (0+q*1) (.slice ra w.length rc)).set (0+r*1) (.slice na wn.length nc)⟩),(po,⟨_,true,(ech p L ci).2.map fun(i:Nat)=>Value.int .i64 i⟩)]) (fun s=>s.1≤L.length∧St (Low H.n) H s.2.1 s.2.2∧RowsB KI.ml s.2.1 s.2.2 V (tks p ci q ld M2 s.1) cs1) (fun s=>L.length-s.1) ((0,S2,H2)) (⟨Nat.zero_le _,hold2,by simp only[tks_zero];exact hb3⟩) ⟨rfl,rfl,rfl,rfl,rfl,rfl,rfl,rfl,rfl,rfl,rfl,trivial⟩ U U (rfl) (fun s hi bE n=>?_)
    obtain⟨i,S3,A3⟩:=s
    obtain⟨hi1,hold3,hb4⟩:=hi
    simp only at hi1 hold3 hb4
    haveI oc3:Stp (Low H.n) H S3 A3:=⟨hold3⟩
    rw[← hcs1] at hb4
    refine KW.cnd U U (fun h3=>?_) (fun h3=>?_)
    ·have h3:(i:Int)<L.length:=h3
     obtain⟨wi,hwi⟩:∃w,M2[i]?=some w:=⟨M2[i]'(by omega),List.getElem?_eq_getElem (by omega)⟩
     have hwik:=hM2r.at hwi
     obtain⟨vi,Wi,hvi,hmi,hWi,hoth,hseti⟩:=hb4.row1 ((tks_old (.inl (Nat.le_refl i))).trans hwi)
     obtain⟨ai,ic,rfl⟩:=hmi.form
     refine KW.idx0 U U U U U U U U U (by omega) (h3) ?_
     refine KW.ldT 2 U U U U U U (bload_at (cell0 hvi) U U) ?_
     refine KW.cndB U U (fun h4=>?_) (fun h4=>?_)
     ·have h4:i≠q:=by simp at h4;omega
      obtain⟨vq,Xq,hvq,hmq,hXq⟩:=hoth q ld (Ne.symm h4) ((tks_old (.inr rfl)).trans hM2q)
      obtain⟨aq,qc,rfl⟩:=hmq.form
      refine KW.idx0 U U U U U U U U U (by omega) (by omega) ?_
      refine KW.ldT 2 U U U U U U (bload_at (cell0 hvq) U U) ?_
      refine KW.getI ((hmi.sl.more (fun id hid=>hb4.sub id (hWi id hid)))) U U U U U U U U U U U U U U U U (by omega) (by omega) (fun xi hxi=>?_)
      have hxi:wi[ci]?=some xi:=hxi
      have hxik:=hwik.2 xi (List.mem_of_getElem? hxi)
      have hsubi:∀id,Wi id→S3 id:=fun id hid=>hb4.sub id (hWi id hid)
      refine KW.callW hsubi U U U U U (takeOff hp hxik (by omega) hldk.2 (fun id hid=>⟨hb4.sub id (hXq id hid).1,(hXq id hid).2⟩) hmq.sl (by omega) hwik.2 hsubi hmi) (fun v5 H5 S5 hn5 st5 hw5 hv5=>?_)
      have hb5:=hseti S5 H5 _ st5 hv5
      have hold5:St (Low H.n) H S5 H5:=fun id hid=>⟨(st5 id (hold3 id hid).1).1,by rw[(st5 id (hold3 id hid).1).2 (fun hw=>by have:=hVl id (hWi id hw);have:id<H.n:=hid;omega)];exact(hold3 id hid).2⟩
      have et:tks p ci q ld M2 (i+1)=(tks p ci q ld M2 i).set i (tk p xi wi ld):=by
       rw[tks_next h4 hwi,List.getD_eq_getElem?_getD,hxi]
       rfl
      rw[← et,hcs1] at hb5
      refine KW.nxt U U (fun H' g=>⟨(i+1,S5,H5),⟨by simp only;omega,hold5,hb5⟩,by first | omega | (simp only;omega),⟨rfl,rfl,rfl,rfl,rfl,rfl,rfl,rfl,rfl,rfl,congrArg (Value.int .i64) (inc64 (by omega)),trivial⟩,g⟩)
     ·have h4:i=q:=by simp at h4;omega
      subst h4
      rw[← tks_skip,hcs1] at hb4
      refine KW.nxt U U (fun H' g=>⟨(i+1,S3,A3),⟨by simp only;omega,hold3,hb4⟩,by first | omega | (simp only;omega),⟨rfl,rfl,rfl,rfl,rfl,rfl,rfl,rfl,rfl,rfl,congrArg (Value.int .i64) (inc64 (by omega)),trivial⟩,g⟩)
    ·have h3:¬(i:Int)<L.length:=h3
     have hiL:i=L.length:=by omega
     have eE:ech p L (ci+1)=(tks p ci q ld M2 L.length,(ech p L ci).2++[ci]):=by
      rw[ech_some (by rw[hM,hn,e1];omega),hM,hn,hlead,e1,hM2,hMl]
     have e8:∀x:Nat,Value.slice (some ⟨x,0,some 1⟩) (q+1) (q+1)=Value.slice (some ⟨x,0,some 1⟩) (ech p L (ci+1)).2.length (ech p L (ci+1)).2.length:=fun x=>by rw[eE];simp[hn]
     refine KW.app1 (xs:=(ech p L ci).2.map fun(i:Nat)=>Value.int .i64 i) (v:=.int .i64 ci) 3 4 U U U U U U U U U U U U U U U U U U U U U U U (by simp[hn]) (by show(_+1)*8≤_;omega) (by first | omega | (simp only;omega)) ?_
     refine KW.nxt U U (fun H' g=>⟨⟨ci+1,S3,A3,_,_⟩,⟨by simp only;omega,hold3,by simp only;rw[eE,← hiL];exact hb4⟩,by first | omega | (simp only;omega),⟨rfl,rfl,rfl,e8 _,rfl,congrArg (Value.int .i64) (inc64 (by omega)),trivial⟩,g.eqT (by simp only[eE,List.map_append];rfl)⟩)
  ·have h1:¬(r:Int)<L.length:=h1
   refine KW.cF U U (by first | (simp;done) | decide) ?_
   refine KW.yes U U (by omega) ?_
   have e1:nz (ech p L ci).1 ci (ech p L ci).2.length=(ech p L ci).1.length:=by rw[hM,hn,← hr3,nz_end (by omega)];omega
   have e2:=ech_none e1
   have e3:Value.slice (some ⟨po,0,some 1⟩) q q=Value.slice (some ⟨po,0,some 1⟩) (ech p L (ci+1)).2.length (ech p L (ci+1)).2.length:=by rw[e2,hn]
   refine KW.nxt U U (fun H' g=>⟨⟨ci+1,S1,A1,cs,po⟩,⟨by simp only;omega,hold,by simp only;rw[e2,hM];exact hb⟩,by first | omega | (simp only;omega),⟨rfl,rfl,rfl,e3,rfl,congrArg (Value.int .i64) (inc64 (by omega)),trivial⟩,g.eqT (by simp only[e2])⟩)
 ·have hck:ci=k:=by have h:¬(ci:Int)<k:=h;omega
  refine KW.slTo (m:=(ech p L ci).2.length) U U U U U U U U U (by omega) ?_
  refine KW.build U U U U U (built_Matrix _ _ _ _ _) ?_
  subst hck
  refine KW.retM1 U U U U (fun H1 g=>?_)
  have hno:=g.n_
  have hbo:=g.blk (j:=2) rfl
  have hbp:=g.blk (j:=3) rfl
  have hpo:=g.ge (H1:=H) (j:=3) rfl
  refine⟨_,_,_,_,rfl,?_,?_⟩
  ·rw[hM]
   exact hb.mlTo g (j:=2) rfl ⟨by have:=ho.1;omega,hbo.2⟩ (fun id hid=>⟨hVl id hid,by have:=(g.froz id (hb.sub id hid)).1;omega⟩) (by omega) (by omega)
  ·have el:((ech p L ci).2.map fun(i:Nat)=>(i:Int)).length=(ech p L ci).2.length:=by simp
   have:=mlI_of (ik:=.i64) (X:=New H.n H1.n) (c:=(ech p L ci).2.length) (ys:=(ech p L ci).2.map fun(i:Nat)=>(i:Int)) ⟨hpo,hbp.2⟩ hbp.1 rfl (by rw[el];exact Nat.le_refl _) (by simp) (fun j x hx=>by
    rw[List.getElem?_map] at hx ⊢
    cases hj:(ech p L ci).2[j]? with
    | none=>rw[hj] at hx;cases hx
    | some z=>rw[hj] at hx;cases hx;rfl)
   rw[el] at this
   exact this
end
theorem OkMat.rect {p c:Int} {L:List (List Int)} (h:OkMat p c L) {k:Nat} (hk:c=k):Rect p k L:=fun r hr=>by
 have h1:=h.row r hr
 exact⟨by have:=h1.1;omega,fun x hx=>by have:=h1.2 x hx;omega⟩
section
variable {S:Ids} {H0:AH}
end
theorem built_Matrix2 (p c:Int):Try.prog.built 26 [(0,.int .i64 p),(1,.int .i64 c)]=some #[.int .i64 p,.int .i64 c,.slice none 0 0]:=by kernel_rfl
structure CpS where
 i:Nat
 S:Ids
 A:AH
 V:Ids
 cs:List Value
 l:Value
 tail:List Var
structure CpI (xs:List (List Int)) (H HB:AH) (SB:Ids) (s:CpS):Prop where
 rw:RwI (fun x=>x) xs H SB HB ⟨s.i,s.S,s.A,s.V,s.cs,0⟩
 form:(s.i=0∧s.l=.slice none 0 0∧s.tail=[]∧s.cs=[])∨(0<s.i∧∃o,s.l=.slice (some ⟨o,0,some 1⟩) s.i s.i∧s.tail=[(o,⟨36,true,s.cs⟩)])
section
variable {S:Ids} {H0:AH}
end
section
variable {S:Ids} {H0:AH}
end
section
variable {S:Ids} {H0:AH}
end
def selR (L:List (List Int)) (R:List Int):List (List Int):=R.map fun i=>L.getD i.toNat []
theorem selR_len {L:List (List Int)} {R:List Int}:(selR L R).length=R.length:=by simp[selR]
def MkMx (p c:Int) (xs:List (List Int)) (n:Nat) (v:Value) (H1:AH):Prop:=∃a m,v=.agg #[.int .i64 p,.int .i64 c,.slice a xs.length m]∧KI.sl.Sl (New n H1.n) H1 (.slice a xs.length m) xs
def MkMxO (p c:Int) (xs:List (List Int)) (n:Nat) (v:Value) (H1:AH):Prop:=(xs=[]∧v=.agg #[.int .i64 p,.int .i64 c,.slice none 0 0])∨(xs≠[]∧∃(o:Nat) (cs:List Value),v=.agg #[.int .i64 p,.int .i64 c,.slice (some ⟨o,0,some 1⟩) xs.length xs.length]∧KI.sl.Sl (New n H1.n) H1 (.slice (some ⟨o,0,some 1⟩) xs.length xs.length) xs∧New n H1.n o∧H1.m o=some ⟨36,true,cs⟩∧cs.length=xs.length∧∀(i:Nat) x,xs[i]?=some x→∃v,cs[i]?=some v∧KI.Sl (fun id=>New n H1.n id∧id≠o) H1 v x)
theorem MkMxO.mx {p c:Int} {xs:List (List Int)} {n:Nat} {v:Value} {H1:AH} (h:MkMxO p c xs n v H1):MkMx p c xs n v H1:=by
  rcases h with⟨rfl,rfl⟩ | ⟨_,o,cs,rfl,h,_⟩
  · exact⟨none,0,rfl,.inl ⟨rfl,_,_,rfl,fun _=>rfl⟩⟩
  · exact⟨_,_,rfl,h⟩
structure CqI {α:Type} (f:α→List Int) (xs:List α) (H HB:AH) (SB:Ids) (s:CpS):Prop where
  rw:RwI f xs H SB HB ⟨s.i,s.S,s.A,s.V,s.cs,0⟩
  form:(s.i=0∧s.l=.slice none 0 0∧s.tail=[]∧s.cs=[])∨(0<s.i∧∃o,s.l=.slice (some ⟨o,0,some 1⟩) s.i s.i∧s.tail=[(o,⟨36,true,s.cs⟩)])
section
variable {S:Ids} {H0:AH}
theorem rowsAtO {p c:Int} {a1 c1 a2 c2} {L:List (List Int)} {R:List Int} (hB:B_Int64SS L) (hR:∀x∈R,0≤x∧x<L.length) (hRl:R.length≤1048576) (hs:KI.sl.Sl S H0 (.slice a1 L.length c1) L) (hr:KI.Sl S H0 (.slice a2 R.length c2) R):SpecM Try.prog S H0 156 [.agg #[.int .i64 p,.int .i64 c,.slice a1 L.length c1],.slice a2 R.length c2] (MkMxO p c (selR L R)):=by
  refine SpecM.of1 Try.func156 rfl (by kernel_rfl) rfl (fun H _=>?_)
  have hs:=hs.up (S':=Low H.n) (H':=H)
  have hr:=hr.up (S':=Low H.n) (H':=H)
  refine KW.build U U U U U (built_Matrix2 _ _) ?_
  refine KW.lpM U U (fun s:CpS=>[(2,.pointer (some ⟨H.n,0,some 0⟩)),(4,.pointer (some ⟨H.n+1,0,some 1⟩)),(5,.pointer (some ⟨H.n+2,0,some 2⟩)),(13,.slice a2 R.length c2),(14,.int .i64 R.length),(15,.int .i64 s.i)]) (fun s=>s.S) (fun s=>s.A) (fun s=>[(H.n,⟨26,true,[.int .i64 p,.int .i64 c,.slice a1 L.length c1]⟩),(H.n+1,⟨26,true,[.int .i64 0,.int .i64 0,.slice none 0 0]⟩),(H.n+2,⟨26,true,[.int .i64 p,.int .i64 c,s.l]⟩)]++s.tail) (fun s=>CqI (fun(i:Int)=>L.getD i.toNat []) R H H (Low H.n) s) (fun s=>R.length-s.i) (⟨0,Low H.n,H,fun _=>False,[],.slice none 0 0,[]⟩) (⟨RwI.start,.inl ⟨rfl,rfl,rfl,rfl⟩⟩) ⟨rfl,rfl,rfl,rfl,rfl,rfl,trivial⟩ U U (rfl) (fun s hi bE n=>?_)
  obtain⟨i,S1,A1,V,cs,l,tail⟩:=s
  obtain⟨hq,hform⟩:=hi
  simp only at hq hform
  haveI:Stp (Low H.n) H S1 A1:=⟨hq.old⟩
  have hle:=hq.le
  have hcl:=hq.b.len
  rw[List.length_map,List.length_take] at hcl
  simp only at hle hcl
  have hs1:=hs.up (S':=S1) (H':=A1)
  have hr1:=hr.up (S':=S1) (H':=A1)
  rcases hform with⟨hi0,e1,e2,e3⟩ | ⟨hi0,o,e1,e2⟩
  case' inl=>subst e1 e2 e3
  case' inr=>subst e1 e2
  all_goals
    refine KW.cnd U U (fun j1=>?gin) (fun j1=>?gout)
    case gin=>
      have j1:(i:Int)<R.length:=j1
      refine KW.getI hr1 U U U U U U U U U U U U U U U U (by omega) (j1) (fun x hx=>?_)
      have hx:R[i]?=some x:=hx
      have hxb:=hR x (List.mem_of_getElem? hx)
      refine KW.getL hs1 U U U U U U U U U U U U U U U U (hxb.1) (hxb.2) (fun y ay cy hy hsy=>?_)
      have hyl:=hB.each y (List.mem_of_getElem? hy)
      have hyd:L.getD x.toNat []=y:=by rw[List.getD_eq_getElem?_getD,hy];rfl
      refine KW.ids (fun hlow hvar=>?_)
      have hnA:=(hvar 2 (H.n+2) _ rfl).1
      refine KW.callN1 U U U U U (cloneI hyl hsy) (fun v HC SC mC _ _ hv=>?_)
      obtain⟨a5,c5,rfl,hC⟩:=hv
      rw[← hyd] at hC ⊢
      first
        | (refine KW.app0 (v:=.slice a5 (L.getD x.toNat []).length c5) 3 U U U U U U U U U U U U U U U U U U U U U U (by decide) ?_
           subst hi0
           exact KW.nxt U U (fun H' g=>⟨⟨1,SC,HC,_,_,_,_⟩,⟨hq.next (o':=0) (inferInstance:Stp S1 A1 SC HC).st inferInstance hlow (by omega) hx hC,.inr ⟨by simp only;omega,_,rfl,rfl⟩⟩,by simp only;omega,⟨rfl,rfl,rfl,rfl,rfl,rfl,trivial⟩,g⟩))
        | (refine KW.app1 (xs:=cs) (v:=.slice a5 (L.getD x.toNat []).length c5) 3 4 U U U U U U U U U U U U U U U U U U U U U U U (by omega) (by show(_+1)*24≤_;omega) (by omega) ?_
           exact KW.nxt U U (fun H' g=>⟨⟨i+1,SC,HC,_,_,_,_⟩,⟨hq.next (o':=0) (inferInstance:Stp S1 A1 SC HC).st inferInstance hlow (by omega) hx hC,.inr ⟨by simp only;omega,_,rfl,rfl⟩⟩,by simp only;omega,⟨rfl,rfl,rfl,rfl,rfl,congrArg (Value.int .i64) (inc64 (by omega)),trivial⟩,g⟩))
    case gout=>
      have j1:¬(i:Int)<R.length:=j1
      have he:i=R.length:=by omega
      have el:(selR L R).length=R.length:=selR_len
      refine KW.retM1 U U U U (fun H1 g=>?_)
      first
        | (have h0:R=[]:=List.eq_nil_of_length_eq_zero (by omega)
           subst h0
           exact .inl ⟨rfl,rfl⟩)
        | (have hm:=((⟨hq.le,hq.old,hq.b,hq.v⟩:RwI (fun(i:Int)=>L.getD i.toNat []) R H (Low H.n) H ⟨i,S1,A1,V,cs,o⟩).ml he g (j:=3) rfl (g.ge (H1:=H) (j:=3) rfl)).to (KLe.row (KLe.refl KI))
           have hb:=g.blk (j:=3) rfl
           have hge:=g.ge (H1:=H) (j:=3) rfl
           have hno:=(g.vars 3 _ rfl).2.2
           refine .inr ⟨fun h9=>by rw[h9] at el;simp at el;omega,o,cs,by rw[el,he];rfl,by rw[el];exact hm,⟨hge,hb.2⟩,hb.1,by rw[el,hcl];omega,fun z x hx=>?_⟩
           obtain⟨W,w1,w2,w3⟩:=hq.b.rows
           have hx2:((R.take i).map fun(i:Int)=>L.getD i.toNat [])[z]?=some x:=by rw[he,List.take_length];exact hx
           obtain⟨v,v1,v2⟩:=w3 z x hx2
           refine⟨v,v1,?_⟩
           have v3:KI.Sl (W z) A1 v x:=(ml1 v2).sl
           have inS:∀id,W z id→S1 id:=fun id h=>hq.b.sub id (w1 z id h)
           exact Kn.Sl.more (fun id h=>⟨⟨hq.v id (w1 z id h),by have:=(g.froz id (inS id h)).1;have:=g.n_;omega⟩,fun e=>hno (e ▸ inS id h)⟩) (Kn.Sl.same (fun id h=>(g.froz id (inS id h)).2) v3))
end
def heldR (ow:List Int) (rows:List (List Int)) (x:Nat):List (List Int):=selR rows (rowsP (fun i=>x.testBit (ow.getD i 0).toNat) ow.length)
theorem held_in {h p c:Int} {ow:List Int} {rows:List (List Int)} (hk:OkSch h ow p c rows) {q:Nat→Bool}:∀x∈rowsP q ow.length,0≤x∧x<rows.length:=fun x hx=>by
 have:=rowsP_mem hx
 have:=hk.len
 omega
section
variable {S:Ids} {H0:AH}
theorem heldO (h p c:Int) (x:Nat) (hx:x<4611686018427387904) {a1 c1 a2 c2} {ow:List Int} {rows:List (List Int)} (hO:B_Int64S ow) (hB:B_Int64SS rows) (hk:OkSch h ow p c rows) (ho:KI.Sl S H0 (.slice a1 ow.length c1) ow) (hs:KI.sl.Sl S H0 (.slice a2 rows.length c2) rows):
  SpecM Try.prog S H0 84 [.agg #[.int .i64 h,.slice a1 ow.length c1,.int .i64 p,.int .i64 c,.slice a2 rows.length c2],.int .u64 (x:Int)] (MkMxO p c (heldR ow rows x)):=by
 refine SpecM.of1 Try.func84 rfl (by kernel_rfl) rfl (fun H _=>?_)
 refine KW.callN1 U U U U U (rowsHeld h p c x hx hO hk.own hk.h7 ho.up) (fun v HR SR mR _ _ hv=>?_)
 obtain⟨a5,c5,rfl,hR⟩:=hv
 refine KW.callN1 U U U U U (rowsAtO hB (held_in hk) (by have:=rowsP_len (fun i=>x.testBit (ow.getD i 0).toNat) ow.length;have:ow.length≤1048576:=hO;omega) hs.up hR.ups) (fun v HM SM mM _ _ hv=>?_)
 rcases hv with⟨h0,rfl⟩ | ⟨h0,o,cs,rfl,hM,q1,q2,q3,q4⟩
 ·refine KW.retM1 U U U U (fun H1 g=>.inl ⟨h0,rfl⟩)
 ·refine KW.retM1 U U U U (fun H1 g=>?_)
  haveI o9:=g.out (X:=New HR.n HM.n) (H:=HM) (lo:=H.n) (fun id p=>by have:=p.1;omega)
  refine .inr ⟨h0,o,cs,rfl,hM.up,(o9.st o q1).1,(o9.st o q1).2.trans q2,q3,fun i x hx=>?_⟩
  obtain⟨v,v1,v2⟩:=q4 i x hx
  exact⟨v,v1,Kn.Sl.more (fun id h=>⟨(o9.st id h.1).1,h.2⟩) (Kn.Sl.same (fun id h=>(o9.st id h.1).2) v2)⟩
theorem held (h p c:Int) (x:Nat) (hx:x<4611686018427387904) {a1 c1 a2 c2} {ow:List Int} {rows:List (List Int)} (hO:B_Int64S ow) (hB:B_Int64SS rows) (hk:OkSch h ow p c rows) (ho:KI.Sl S H0 (.slice a1 ow.length c1) ow) (hs:KI.sl.Sl S H0 (.slice a2 rows.length c2) rows):
  SpecM Try.prog S H0 84 [.agg #[.int .i64 h,.slice a1 ow.length c1,.int .i64 p,.int .i64 c,.slice a2 rows.length c2],.int .u64 (x:Int)] (MkMx p c (heldR ow rows x)):=fun H hf hz=>by
 obtain⟨m,v,H1,k1,k2,k3,h9⟩:=heldO h p c x hx hO hB hk ho hs H hf hz
 exact⟨m,v,H1,k1,k2,k3,h9.mx⟩
end
section
variable {S:Ids} {H0:AH}
end
section
variable {S:Ids} {H0:AH}
end
section
variable {S:Ids} {H0:AH}
end
section
variable {S:Ids} {H0:AH}
end
def MkSC (r:T_Scheme) (code:Int) (n:Nat) (v:Value) (H1:AH):Prop:=∃cs:List Value,v=.tuple #[.agg cs.toArray,.int .i64 code]∧M_Scheme.R (New n H1.n) H1 r cs
theorem schemeM {X X1 X2:Ids} {H:AH} {h p c:Int} {v w:Value} {ow:List Int} {rows:List (List Int)} (h1:KI.Ml X1 H v ow) (h2:KI.ml.Ml X2 H w rows) (i1:∀id,X1 id→X id) (i2:∀id,X2 id→X id) (hd:∀id,X1 id→X2 id→False):M_Scheme.R X H (h,ow,(p,c,rows)) [.int .i64 h,v,.int .i64 p,.int .i64 c,w]:=
 have k2:M_Matrix.R X2 H (p,c,rows) [.int .i64 p,.int .i64 c,w]:=mpR (X:=None_) (cs:=[.int .i64 p]) (show KI.R None_ H p _ from rfl) (mpR (X:=None_) (cs:=[.int .i64 c]) (show KI.R None_ H c _ from rfl) (ml1' h2) (fun _ p=>p.elim) (fun _ p=>p) (fun _ p _=>p.elim)) (fun _ p=>p.elim) (fun _ p=>p) (fun _ p _=>p.elim)
 mpR (X:=None_) (cs:=[.int .i64 h]) (show KI.R None_ H h _ from rfl) (mpR (cs:=[v]) (ml1' h1) k2 i1 i2 hd) (fun _ p=>p.elim) (fun _ p=>p) (fun _ p _=>p.elim)
theorem MkSC.nil {code:Int} {n:Nat} {v:Value} {H1:AH} (hv:v=.tuple #[.agg #[.int .i64 0,.slice none 0 0,.int .i64 0,.int .i64 0,.slice none 0 0],.int .i64 code]):MkSC (0,[],(0,0,[])) code n v H1:=
 ⟨_,hv,schemeM (X1:=None_) (X2:=None_) (.inl ⟨rfl,_,_,rfl,fun _=>rfl⟩) (.inl ⟨rfl,_,_,rfl,fun _=>rfl⟩) (fun _ p=>p.elim) (fun _ p=>p.elim) (fun _ p _=>p.elim)⟩
section
variable {S:Ids} {H0:AH}
end
end Go.Proofs.Ytlapbbffoapleaa.Am
namespace Go.Proofs.Ytlapbbffoapleaa.Pl
def fr (P:List Nat):Nat→Nat
 | 0=>0
 | c+1=>fr P c+if c∈P then 0 else 1

end Go.Proofs.Ytlapbbffoapleaa.Pl
namespace Go.Proofs.Ytlapbbffoapleaa.Am
open Go Go.RowKit Go.Proofs Go.Proofs.Ytlapbbffoapleaa.Pl
section
variable {S:Ids} {H0:AH}
def tmN (p:Int):Nat→Int
 | 0=>1
 | n+1=>if tmN p n*p<20001 then tmN p n*p else 20001
theorem tmN_in {p:Int} (hp:2≤p∧p≤31):∀n,1≤tmN p n∧tmN p n≤20001
 | 0=>by simp[tmN]
 | n+1=>by
  have h:=tmN_in hp n
  have h1:1*2≤tmN p n*p:=Int.mul_le_mul h.1 hp.1 (by omega) (by omega)
  simp only[tmN]
  split<;>omega
theorem times (p:Int) (c:Nat) (hp:2≤p∧p≤31) (hn:c≤1000):Spec Try.prog S H0 90 [.int .i64 p,.int .i64 c,.int .i64 20000] (fun v=>v=.int .i64 (tmN p c)):=by
 refine Spec.of1 Try.func90 rfl (by kernel_rfl) rfl (fun H _=>?_)
 refine KW.lp U U (fun i:Nat=>[(0,.int .i64 p),(2,.int .i64 20000),(7,.int .i64 (tmN p i)),(8,.int .i64 c),(9,.int .i64 i)]) (fun i=>i≤c) (fun i=>c-i) (0) (by omega) ⟨rfl,rfl,rfl,rfl,rfl,trivial⟩ (fun i hi bE n=>?_)
 have ht:=tmN_in hp i
 have h2:tmN p i*p≤20001*31:=Int.mul_le_mul ht.2 hp.2 (by omega) (by omega)
 have h3:0≤tmN p i*p:=Int.mul_nonneg (by omega) (by omega)
 refine KW.cnd U U (fun k1=>?_) (fun k1=>?_)
 ·have k1:(i:Int)<c:=k1
  refine KW.nxt U U (fun H' g=>⟨i+1,?_,?_,?_,g⟩)
  ·omega
  ·omega
  ·refine⟨rfl,rfl,?_,rfl,?_,trivial⟩
   ·refine Eq.trans (b:=Value.int .i64 (if IntKind.i64.wrap (tmN p i*p)<20001 then IntKind.i64.wrap (tmN p i*p) else 20001)) rfl ?_
    rw[wr (by omega) (by omega)]
    rfl
   ·exact congrArg (Value.int .i64) (inc64 (by omega))
 ·obtain rfl:i=c:=by have k1:¬(i:Int)<c:=k1;omega
  exact KW.ret U U U U (rfl)
end
section
variable {P:Program} {S:Ids} {H0:AH} {Q:PostC} {k k1:List It} {e e1:Env} {T T1:List Var} {n n1:Nat} {l1 r1:List Nat} {d1:Tmp}
end
section
variable {S:Ids} {H0:AH}
end
section
variable {P:Program} {S:Ids} {H0:AH} {Q:PostC} {k k1:List It} {e e1:Env} {T T1:List Var} {n n1:Nat} {l1 r1:List Nat} {d1:Tmp}
theorem KW.callWV {f:Operand} {xs:Array Operand} {ts:Array TypeId} {g:FuncId} {first cap:Array Value} {o:Oper} {W:Ids} {post:Nat→Value→AH→Prop} (hW:∀id,W id→S id) (h:Go1 P k e T n (.op o false) k1 e1 T1 n1 l1 r1) (hlr:l1=r1) (ho:o.op=.call {callee:=.value f,args:=xs,argTypes:=ts}) (hd:o.dst=some d1) (hf:ev e1 f=.func (.func g) first cap)
  (hs:∀H,Good S H0 T1 n1 H→Stp S H0 (Low H.n) H→SpecW P (Low H.n) H W g (cargs e1 first cap xs) post)
  (hk:∀v H1 (S':Ids),n1≤H1.n→StW W S H0 S' H1→(∀id,New n1 H1.n id→S' id)→post n1 v H1→KW P S' H1 Q H1.n T1 k1 (put1 e1 d1 (untag v))):KW P S H0 Q n T k e:=by
 refine KW.go h hlr (fun H gd=>?_)
 replace gd:Good S H0 T1 n1 H:=gd
 obtain⟨m,v,H1,h1,hx1,hx2,hfin,hp⟩:=hs H gd gd.stp H gd.fin (fun id hid=>⟨hid,rfl⟩)
 have hn:H.n=n1:=gd.n_
 have e:untags (first++aargs e1 xs++cap)=(cargs e1 first cap xs).toArray:=by
  apply Array.ext'
  simp[aargs,untags,cargs]
 refine⟨m,untag v,H1,?_,?_⟩
 ·rw[ho]
  simp only[evOp,evCall,hf]
  exact⟨v,rfl,by rw[e];exact h1,fun h=>by cases h⟩
 ·rw[hn] at hp
  rw[hd,put1_eq]
  refine hk v H1 (fun id=>S id∨New n1 H1.n id) (by rw[← hn];exact hx1) (fun id hid=>⟨.inl hid,fun hw=>?_⟩) (fun id hid=>.inr hid) hp H1 ?_
  ·obtain⟨h2,h3⟩:=gd.froz id hid
   rw[hx2 id (by omega) hw,h3]
  ·refine⟨rfl,hfin,fun id hid=>⟨?_,rfl⟩,fun j w hj=>?_,gd.dist⟩
   ·rcases hid with hid | hid
    ·have:=(gd.froz id hid).1;omega
    ·exact hid.2
   ·obtain⟨h2,h3,h4⟩:=gd.vars j w hj
    refine⟨by rw[hx2 _ (by omega) (fun hw=>h4 (hW _ hw))];exact h2,by omega,fun hh=>?_⟩
    rcases hh with hh | hh
    ·exact h4 hh
    ·have:=hh.1;omega
end
section
variable {S:Ids} {H0:AH}
theorem first1 (a:Int):Spec Try.prog S H0 240 [.int .i64 a] (fun v=>v=.bool (!decide (a=0))):=by
 refine Spec.of1 Try.func240 rfl (by kernel_rfl) rfl (fun H _=>?_)
 exact KW.ret U U U U (rfl)
theorem indexFunc0 {a c} {xs:List Int} (hl:xs.length≤4611686018427387904) (hs:KI.Sl S H0 (.slice a xs.length c) xs):
  Spec Try.prog S H0 196 [.slice a xs.length c,.func (.func 240) #[] #[]] (fun v=>v=.int .i64 (if fz xs<xs.length then(fz xs:Int) else -1)):=by
 refine Spec.of1 Try.func196 rfl (by kernel_rfl) rfl (fun H _=>?_)
 refine KW.lp U U (fun i:Nat=>[(0,.slice a xs.length c),(1,.func (.func 240) #[] #[]),(7,.int .i64 xs.length),(8,.int .i64 i)]) (fun i=>i≤xs.length∧∀j,j<i→xs.getD j 0=0) (fun i=>xs.length-i) (0) (⟨by omega,fun j h=>absurd h (by omega)⟩) ⟨rfl,rfl,rfl,rfl,trivial⟩ (fun i hi bE n=>?_)
 obtain⟨hi,hj⟩:=hi
 refine KW.cnd U U (fun h=>?_) (fun h=>?_)
 ·refine KW.getI hs.up U U U U U U U U U U U U U U U U (by omega) (h) (fun x hx=>?_)
  have hx:xs[i]?=some x:=hx
  have hxD:xs.getD i 0=x:=by rw[List.getD_eq_getElem?_getD,hx];rfl
  refine KW.callE U U U U U (first1 x) (fun _ _=>?_)
  refine KW.cndB U U (fun h2=>?_) (fun h2=>?_)
  ·have h2:x≠0:=by simpa using h2
   have e:fz xs=i:=fz_eq (by rw[hxD];exact h2) hj
   exact KW.ret U U U U (by rw[e,if_pos (by omega)];rfl)
  ·have h2:x=0:=by simpa using h2
   refine KW.nxt U U (fun H' g=>⟨i+1,⟨by omega,fun j hj'=>by rcases Nat.lt_or_ge j i with h3 | h3;exact hj j h3;rw[show j=i by omega,hxD];exact h2⟩,by first | omega | (simp only;omega),⟨rfl,rfl,rfl,congrArg (Value.int .i64) (inc64 (by omega)),trivial⟩,g⟩)
 ·have e:fz xs=xs.length:=fz_of_zero fun j=>by
   rcases Nat.lt_or_ge j i with h3 | h3
   ·exact hj j h3
   ·rw[List.getD_eq_getElem?_getD,List.getElem?_eq_none (by omega)];rfl
  exact KW.ret U U U U (by rw[e,if_neg (by omega)];rfl)
theorem first {a c} {xs:List Int} (hl:xs.length≤4611686018427387904) (hs:KI.Sl S H0 (.slice a xs.length c) xs):
  Spec Try.prog S H0 204 [.slice a xs.length c] (fun v=>v=.int .i64 (if fz xs<xs.length then(fz xs:Int) else -1)):=by
 refine Spec.of1 Try.func204 rfl (by kernel_rfl) rfl (fun H _=>?_)
 refine KW.callE U U U U U (indexFunc0 hl hs.up) (fun _ _=>?_)
 exact KW.ret U U U U (rfl)
end
structure LsI (p:Int) (B:List PrT) (x:PrT) (W1 W2:Ids) (H:AH) (v1 v2:Value) (i:Nat) (S:Ids) (A:AH):Prop where
 le:i≤B.length
 low:∀id,id<H.n→S id∧(¬(W1 id∨W2 id)→A.m id=H.m id)
 r1:KI.Ml W1 A v1 (less p (B.take i) x).1
 r2:KI.Ml W2 A v2 (less p (B.take i) x).2
structure LsS where
 i:Nat
 S:Ids
 A:AH
section
variable {S:Ids} {H0:AH}
end
end Go.Proofs.Ytlapbbffoapleaa.Am
namespace Go.Proofs.Ytlapbbffoapleaa.Am
open Go Go.RowKit Go.Proofs
inductive Gt where
 | mk (h l:Int) (ks:List Gt)
def Gt.h:Gt→Int | .mk h _ _=>h
def Gt.l:Gt→Int | .mk _ l _=>l
def Gt.ks:Gt→List Gt | .mk _ _ ks=>ks
def SlR {α:Type} (es:Nat) (R:Ids→AH→α→List Value→Prop) (S:Ids) (H:AH) (s:Value) (xs:List α):Prop:=
 (xs=[]∧∃a c,s=.slice a 0 c∧(a=none→c=0))∨∃id k c b,s=.slice (some ⟨id,k,some es⟩) xs.length c∧xs.length≤c∧S id∧H.m id=some b∧k+xs.length*es≤b.cells.length∧
  ∀(i:Nat) x,xs[i]?=some x→R S H x ((b.cells.drop (k+i*es)).take es)
def RG:Nat→Ids→AH→Gt→List Value→Prop
 | 0,_,_,g,cs=>g.ks=[]∧∃a c,cs=[.int .i64 g.h,.int .i64 g.l,.slice a 0 c]∧(a=none→c=0)
 | d+1,S,H,g,cs=>∃s,cs=[.int .i64 g.h,.int .i64 g.l,s]∧SlR 3 (RG d) S H s g.ks
theorem RG.len:∀(d:Nat) {S:Ids} {H:AH} {g:Gt} {cs:List Value},RG d S H g cs→cs.length=3
 | 0,_,_,_,_,⟨_,_,_,h,_⟩=>by rw[h];rfl
 | d+1,_,_,_,_,⟨_,h,_⟩=>by rw[h];rfl
theorem RG.same:∀(d:Nat) {S:Ids} {H H':AH} {g:Gt} {cs:List Value},(∀id,S id→H'.m id=H.m id)→RG d S H g cs→RG d S H' g cs
 | 0,_,_,_,_,_,_,h=>h
 | d+1,_,_,_,_,_,hs,⟨s,h,h2⟩=>⟨s,h,by
  rcases h2 with h2 | ⟨id,k,c,b,e1,e2,e3,e4,e5,e6⟩
  ·exact .inl h2
  ·exact .inr ⟨id,k,c,b,e1,e2,e3,by rw[hs id e3];exact e4,e5,fun i x hx=>RG.same d hs (e6 i x hx)⟩⟩
theorem RG.more:∀(d:Nat) {S S':Ids} {H:AH} {g:Gt} {cs:List Value},(∀id,S id→S' id)→RG d S H g cs→RG d S' H g cs
 | 0,_,_,_,_,_,_,h=>h
 | d+1,_,_,_,_,_,hS,⟨s,h,h2⟩=>⟨s,h,by
  rcases h2 with h2 | ⟨id,k,c,b,e1,e2,e3,e4,e5,e6⟩
  ·exact .inl h2
  ·exact .inr ⟨id,k,c,b,e1,e2,hS id e3,e4,e5,fun i x hx=>RG.more d hS (e6 i x hx)⟩⟩
def KG (d:Nat):Kn Gt where
 es:=3
 R:=RG d
 len:=RG.len d
 same:=RG.same d
 more:=RG.more d
theorem RG.form {d:Nat} {S:Ids} {H:AH} {g:Gt} {cs:List Value} (h:RG d S H g cs):∃a c,cs=[.int .i64 g.h,.int .i64 g.l,.slice a g.ks.length c]∧(g.ks=[]∨∃d',d=d'+1∧(KG d').Sl S H (.slice a g.ks.length c) g.ks):=by
 cases d with
 | zero=>
  obtain⟨h0,a,c,h1,_⟩:=h
  exact⟨a,c,by rw[h1,h0];rfl,.inl h0⟩
 | succ d=>
  obtain⟨s,h1,h2⟩:=h
  have h2:(KG d).Sl S H s g.ks:=h2
  obtain⟨a,c,rfl⟩:=h2.form
  exact⟨a,c,h1,.inr ⟨d,rfl,h2⟩⟩
def GF (n:Int):Nat→Gt→Prop
 | 0,g=>g.ks=[]∧g.l=0∧0≤g.h∧g.h<n
 | d+1,g=>(g.ks=[]∧g.l=0∧0≤g.h∧g.h<n)∨(g.ks≠[]∧g.h=-1∧1≤g.l∧g.l≤g.ks.length∧g.ks.length≤4∧∀k∈g.ks,GF n d k)
theorem GF.kids {n:Int} {d:Nat} {g:Gt} (h:GF n d g):g.ks.length≤4:=by
 cases d with
 | zero=>rw[h.1];exact Nat.zero_le _
 | succ d=>
  rcases h with h | h
  ·rw[h.1];exact Nat.zero_le _
  ·exact h.2.2.2.2.1
theorem GF.least {n:Int} {d:Nat} {g:Gt} (h:GF n d g):0≤g.l∧g.l≤4:=by
 cases d with
 | zero=>rw[h.2.1];decide
 | succ d=>
  rcases h with h | h
  ·rw[h.2.1];decide
  ·have:=h.2.2.2.2.1;have:=h.2.2.2.1;have:=h.2.2.1;omega
section
variable {S:Ids} {H0:AH}
theorem l00Max (a b:Int):Spec Try.prog S H0 183 [.int .i64 a,.int .i64 b] (fun v=>v=.int .i64 (if a>b then a else b)):=by
 refine Spec.of1 Try.func183 rfl (by kernel_rfl) rfl (fun H _=>?_)
 refine KW.cnd U U (fun h=>?_) (fun h=>?_)
 ·exact KW.ret U U U U (by rw[if_pos h];rfl)
 ·exact KW.ret U U U U (by rw[if_neg h];rfl)
end
section
variable {S:Ids} {H0:AH}
theorem onesCount64 {x:Nat} (hx:x<128):Spec Try.prog S H0 227 [.int .u64 x] (fun v=>v=.int .i64 (ones x)):=by
 refine Spec.of1 Try.func227 rfl (by kernel_rfl) rfl (fun H _=>?_)
 refine KW.ret U U U U ?_
 refine congrArg (Value.int .i64) ?_
 revert x
 apply of_decide_eq_true
 kernel_rfl
theorem onesCount {x:Nat} (hx:x<128):Spec Try.prog S H0 174 [.int .u64 x] (fun v=>v=.int .i64 (ones x)):=by
 refine Spec.of1 Try.func174 rfl (by kernel_rfl) rfl (fun H _=>?_)
 refine KW.cF U U (by first | (simp;done) | decide) ?_
 refine KW.callE U U U U U (onesCount64 hx) (fun _ _=>?_)
 exact KW.ret U U U U (rfl)
theorem size {x:Nat} (hx:x<128):Spec Try.prog S H0 103 [.int .u64 x] (fun v=>v=.int .i64 (ones x)):=by
 refine Spec.of1 Try.func103 rfl (by kernel_rfl) rfl (fun H _=>?_)
 refine KW.callE U U U U U (onesCount hx) (fun _ _=>?_)
 exact KW.ret U U U U (rfl)
theorem number {m:Nat} (hm:m≤7) (h:Int) {k n:Nat} (hk:k<256) (hn:n≤1000) {gs:List (List Int)} (hsm:Sml gs) (hbe:Below' m gs) {a c} (hs:KI.sl.Sl S H0 (.slice a gs.length c) gs):
  Spec Try.prog S H0 102 [familyV h (.slice a gs.length c),.int .u64 k,.int .i64 n] (fun v=>v=.int .i64 (worth gs k n)):=by
 refine Spec.of1 Try.func102 rfl (by kernel_rfl) rfl (fun H _=>?_)
 refine KW.callE U U U U U (opens hm h (q:=k) (by omega) hsm hbe hs.up) (fun _ _=>?_)
 refine KW.cndB U U (fun k1=>?_) (fun k1=>?_)
 ·exact KW.ret U U U U (by rw[worth,if_pos k1];exact congrArg (Value.int .i64) (wr (by omega) (by omega)))
 ·exact KW.ret U U U U (by rw[worth,if_neg (by simpa using k1)];rfl)
theorem l07Count {x:Nat} (hx:x<128):Spec Try.prog S H0 126 [.int .i64 x] (fun v=>v=.int .i64 (ones x)):=by
 refine Spec.of1 Try.func126 rfl (by kernel_rfl) rfl (fun H _=>?_)
 refine KW.lp U U (fun s:Nat × Nat=>[(0,.int .i64 s.1),(3,.int .i64 s.2)]) (fun s=>s.1<128∧s.2+ones s.1=ones x) (fun s=>s.1) ((x,0)) (⟨hx,Nat.zero_add _⟩) ⟨rfl,rfl,trivial⟩ (fun s hi bE n=>?_)
 obtain⟨b,c⟩:=s
 obtain⟨h1,h2⟩:=hi
 simp only at h1 h2
 have hc:=ones_le x
 refine KW.cnd U U (fun k1=>?_) (fun k1=>?_)
 ·have k1:(b:Int)>0:=k1
  have h3:=ones_step b h1 (by omega)
  have h4:b &&& (b-1)≤b-1:=Nat.and_le_right
  have e1:IntKind.i64.wrap ((b:Int)-1)=((b-1:Nat):Int):=by rw[wr (by omega) (by omega)];omega
  refine KW.nxt U U (fun H' g=>⟨(b &&& (b-1),c+1),⟨by simp only;omega,by simp only;omega⟩,by first | omega | (simp only;omega),⟨by show Value.int .i64 (IntKind.i64.wrap ((BitVec.ofInt IntKind.i64.bits (b:Int) &&& BitVec.ofInt IntKind.i64.bits (IntKind.i64.wrap ((b:Int)-1))).toNat:Int))=_;rw[e1,and_i64 (by omega) (by omega)],congrArg (Value.int .i64) (inc64 (by omega)),trivial⟩,g⟩)
 ·have k1:¬(b:Int)>0:=k1
  obtain rfl:b=0:=by omega
  exact KW.ret U U U U (by rw[← h2,ones_zero];rfl)
end
end Go.Proofs.Ytlapbbffoapleaa.Am
namespace Go.Proofs.Ytlapbbffoapleaa.Am
open Go Go.RowKit Go.Proofs Go.Proofs.Ytlapbbffoapleaa.Pl
def nI (l:List Nat):List Int:=l.map fun(i:Nat)=>(i:Int)
theorem nI_len {l:List Nat}:(nI l).length=l.length:=by simp[nI]
theorem nI_at {l:List Nat} {i:Nat} {z:Int} (h:(nI l)[i]?=some z):∃x:Nat,l[i]?=some x∧z=x:=by
 unfold nI at h
 rw[List.getElem?_map] at h
 obtain⟨x,h1,h2⟩:=Option.map_eq_some_iff.1 h
 exact⟨x,h1,h2.symm⟩
theorem nI_snoc {l:List Nat} {x:Nat}:nI (l++[x])=nI l++[(x:Int)]:=by simp[nI]
def stL (n:Nat) (l:List Nat) (i:Nat):List Nat × Bool:=(l.take i).foldl (stepP n) ([],false)
theorem stL_next {n:Nat} {l:List Nat} {i x:Nat} (h:l[i]?=some x):stL n l (i+1)=stepP n (stL n l i) x:=by
 obtain⟨hi,rfl⟩:=List.getElem?_eq_some_iff.1 h
 unfold stL
 rw[List.take_succ_eq_append_getElem hi,List.foldl_append]
 rfl
theorem putN_st {n:Nat} {l:List Nat}:putN n l=if(stL n l l.length).2 then(stL n l l.length).1 else(stL n l l.length).1++[n]:=by unfold putN stL;rw[List.take_length]
theorem stL_mem {n:Nat} {l:List Nat}:∀i,∀x∈(stL n l i).1,x=n∨x∈l
 | 0,x,h=>by simp[stL] at h
 | i+1,x,h=>by
  rcases Nat.lt_or_ge i l.length with hi | hi
  ·rw[stL_next (List.getElem?_eq_getElem hi)] at h
   have ih:=stL_mem (n:=n) (l:=l) i
   unfold stepP at h
   split at h
   ·simp only at h
    rcases List.mem_append.1 h with h | h
    ·split at h
     ·rcases List.mem_append.1 h with h | h
      ·exact ih x h
      ·exact .inl (List.mem_singleton.1 h)
     ·exact ih x h
    ·rw[List.mem_singleton.1 h];exact .inr (List.getElem_mem hi)
   ·simp only at h
    rcases List.mem_append.1 h with h | h
    ·exact ih x h
    ·rw[List.mem_singleton.1 h];exact .inr (List.getElem_mem hi)
  ·have e:stL n l (i+1)=stL n l i:=by unfold stL;rw[List.take_of_length_le (by omega),List.take_of_length_le (by omega)]
   rw[e] at h
   exact stL_mem i x h
theorem putN_mem {n:Nat} {l:List Nat}:∀x∈putN n l,x=n∨x∈l:=fun x h=>by
 rw[putN_st] at h
 split at h
 ·exact stL_mem _ x h
 ·rcases List.mem_append.1 h with h | h
  ·exact stL_mem _ x h
  ·exact .inl (List.mem_singleton.1 h)
theorem stL_len {n:Nat} {l:List Nat}:∀i,(stL n l i).1.length≤i+(if(stL n l i).2 then 1 else 0)
 | 0=>by simp[stL]
 | i+1=>by
  have ih:=stL_len (n:=n) (l:=l) i
  rcases Nat.lt_or_ge i l.length with hi | hi
  ·rw[stL_next (List.getElem?_eq_getElem hi)]
   unfold stepP
   split
   ·rename_i h
    have h2:(stL n l i).2=false:=h.1
    rw[h2] at ih
    simp at ih
    split<;>simp<;>omega
   ·simp;omega
  ·have e:stL n l (i+1)=stL n l i:=by unfold stL;rw[List.take_of_length_le (by omega),List.take_of_length_le (by omega)]
   rw[e];omega
theorem putN_len {n:Nat} {l:List Nat}:(putN n l).length≤l.length+1:=by
 have h:=stL_len (n:=n) (l:=l) l.length
 rw[putN_st]
 split
 ·rename_i h1;rw[h1] at h;simpa using h
 ·rename_i h1;simp[h1] at h ⊢;omega
theorem MkL.ofE {S0:Ids} {H0 H1:AH} {T:List Var} {n j id n0 m:Nat} {ty:TypeId} {cs:List Value} {xs:List Int} (g:Good S0 H0 T n H1) (hj:T[j]?=some (id,⟨ty,true,cs⟩)) (hc:cs=xs.map (Value.int .i64)) (hm:m=xs.length) (hn:n0≤id):MkL xs n0 (.slice (some ⟨id,0,some 1⟩) m m) H1:=by
 subst hc hm
 exact MkL.of g hj hn
structure PuS where
 i:Nat
 o:Nat
 out:List Nat
 done:Bool
section
variable {S:Ids} {H0:AH}
theorem l00Put {m:Nat} {a c} {l:List Nat} (hl:l.length≤1000) (hs:KI.Sl S H0 (.slice a (nI l).length c) (nI l)):SpecM Try.prog S H0 255 [.slice a (nI l).length c,.int .i64 m] (MkL (nI (putN m l))):=by
 have el:(nI l).length=l.length:=nI_len
 refine SpecM.of1 Try.func255 rfl (by kernel_rfl) rfl (fun H _=>?_)
 refine KW.lit U U U U U U U U U U [] U U (fun v hv=>by simp at hv) rfl ?_
 refine KW.lpM U U (fun s:PuS=>[(0,.slice a (nI l).length c),(1,.int .i64 m),(5,.slice (some ⟨s.o,0,some 1⟩) (nI s.out).length (nI s.out).length),(6,.bool s.done),(7,.int .i64 s.i)]) (fun s=>Low H.n) (fun s=>H) (fun s=>[(s.o,⟨_,true,(nI s.out).map (Value.int .i64)⟩)]) (fun s=>s.i≤l.length∧(s.out,s.done)=stL m l s.i) (fun s=>l.length-s.i) (⟨0,_,[],false⟩) (⟨Nat.zero_le _,rfl⟩) ⟨rfl,rfl,rfl,rfl,rfl,trivial⟩ U U (rfl) (fun s hi bE n=>?_)
 obtain⟨i,o,out,done⟩:=s
 obtain⟨hi1,hst⟩:=hi
 simp only at hi1 hst
 have hol:=stL_len (n:=m) (l:=l) i
 rw[← hst] at hol
 have hol:(nI out).length≤i+1:=by rw[nI_len];simp only at hol;split at hol<;>omega
 refine KW.cnd U U (fun k1=>?_) (fun k1=>?_)
 ·have k1:(i:Int)<(nI l).length:=k1
  obtain⟨x,hx⟩:∃x,l[i]?=some x:=⟨_,List.getElem?_eq_getElem (by omega)⟩
  have hnx:=stL_next (n:=m) hx
  rw[← hst] at hnx
  have rd:∀z,(nI l)[i]?=some z→z=x:=fun z hz=>by
   obtain⟨y,h1,h2⟩:=nI_at hz
   rw[hx] at h1;cases h1;exact h2
  cases done with
  | false=>
   refine KW.tT U U (by first | (simp;done) | decide) ?_
   refine KW.getI hs.up U U U U U U U U U U U U U U U U (by omega) (k1) (fun z hz=>?_)
   obtain rfl:=rd z hz
   refine KW.cnd U U (fun k2=>?_) (fun k2=>?_)
   ·have k2:(x:Int)≥m:=k2
    refine KW.getI hs.up U U U U U U U U U U U U U U U U (by omega) (k1) (fun z2 hz2=>?_)
    obtain rfl:=rd z2 hz2
    refine KW.cnd U U (fun k3=>?_) (fun k3=>?_)
    ·have k3:(x:Int)>m:=k3
     refine KW.app1 (xs:=(nI out).map (Value.int .i64)) (v:=.int .i64 m) 0 1 U U U U U U U U U U U U U U U U U U U U U U U (by simp) (by show(_+1)*8≤_;first | omega | (simp only;omega)) (by first | omega | (simp only;omega)) ?_
     refine KW.getI hs.up U U U U U U U U U U U U U U U U (by omega) (k1) (fun z3 hz3=>?_)
     obtain rfl:=rd z3 hz3
     refine KW.app1 (xs:=(nI out).map (Value.int .i64)++[.int .i64 m]) (v:=.int .i64 x) 0 1 U U U U U U U U U U U U U U U U U U U U U U U (by simp) (by show(_+1)*8≤_;first | omega | (simp only;omega)) (by first | omega | (simp only;omega)) ?_
     have e:stL m l (i+1)=(out++[m]++[x],true):=by rw[hnx];unfold stepP;rw[if_pos ⟨rfl,by omega⟩,if_pos (by omega)]
     refine KW.nxt U U (fun H' g=>⟨⟨i+1,_,out++[m]++[x],true⟩,⟨by simp only;omega,by rw[e]⟩,by first | omega | (simp only;omega),⟨rfl,rfl,by simp only[nI_snoc,List.length_append,List.length_singleton];rfl,rfl,congrArg (Value.int .i64) (inc64 (by omega)),trivial⟩,g.eqT (by simp only[nI_snoc,List.map_append];rfl)⟩)
    ·have k3:¬(x:Int)>m:=k3
     refine KW.getI hs.up U U U U U U U U U U U U U U U U (by omega) (k1) (fun z3 hz3=>?_)
     obtain rfl:=rd z3 hz3
     refine KW.app1 (xs:=(nI out).map (Value.int .i64)) (v:=.int .i64 x) 0 1 U U U U U U U U U U U U U U U U U U U U U U U (by simp) (by show(_+1)*8≤_;first | omega | (simp only;omega)) (by first | omega | (simp only;omega)) ?_
     have e:stL m l (i+1)=(out++[x],true):=by rw[hnx];unfold stepP;rw[if_pos ⟨rfl,by omega⟩,if_neg (by omega)]
     refine KW.nxt U U (fun H' g=>⟨⟨i+1,_,out++[x],true⟩,⟨by simp only;omega,by rw[e]⟩,by first | omega | (simp only;omega),⟨rfl,rfl,by simp only[nI_snoc,List.length_append,List.length_singleton];rfl,rfl,congrArg (Value.int .i64) (inc64 (by omega)),trivial⟩,g.eqT (by simp only[nI_snoc,List.map_append];rfl)⟩)
   ·have k2:¬(x:Int)≥m:=k2
    refine KW.getI hs.up U U U U U U U U U U U U U U U U (by omega) (k1) (fun z3 hz3=>?_)
    obtain rfl:=rd z3 hz3
    refine KW.app1 (xs:=(nI out).map (Value.int .i64)) (v:=.int .i64 x) 0 1 U U U U U U U U U U U U U U U U U U U U U U U (by simp) (by show(_+1)*8≤_;first | omega | (simp only;omega)) (by first | omega | (simp only;omega)) ?_
    have e:stL m l (i+1)=(out++[x],false):=by rw[hnx];unfold stepP;rw[if_neg (fun h=>by have:=h.2;omega)]
    refine KW.nxt U U (fun H' g=>⟨⟨i+1,_,out++[x],false⟩,⟨by simp only;omega,by rw[e]⟩,by first | omega | (simp only;omega),⟨rfl,rfl,by simp only[nI_snoc,List.length_append,List.length_singleton];rfl,rfl,congrArg (Value.int .i64) (inc64 (by omega)),trivial⟩,g.eqT (by simp only[nI_snoc,List.map_append];rfl)⟩)
  | true=>
   refine KW.tF U U (by first | (simp;done) | decide) ?_
   refine KW.cF U U (by first | (simp;done) | decide) ?_
   refine KW.getI hs.up U U U U U U U U U U U U U U U U (by omega) (k1) (fun z3 hz3=>?_)
   obtain rfl:=rd z3 hz3
   refine KW.app1 (xs:=(nI out).map (Value.int .i64)) (v:=.int .i64 x) 0 1 U U U U U U U U U U U U U U U U U U U U U U U (by simp) (by show(_+1)*8≤_;first | omega | (simp only;omega)) (by first | omega | (simp only;omega)) ?_
   have e:stL m l (i+1)=(out++[x],true):=by rw[hnx];unfold stepP;rw[if_neg (fun h=>by simp at h)]
   refine KW.nxt U U (fun H' g=>⟨⟨i+1,_,out++[x],true⟩,⟨by simp only;omega,by rw[e]⟩,by first | omega | (simp only;omega),⟨rfl,rfl,by simp only[nI_snoc,List.length_append,List.length_singleton];rfl,rfl,congrArg (Value.int .i64) (inc64 (by omega)),trivial⟩,g.eqT (by simp only[nI_snoc,List.map_append];rfl)⟩)
 ·have k1:¬(i:Int)<(nI l).length:=k1
  obtain rfl:i=l.length:=by omega
  have hp:=putN_st (n:=m) (l:=l)
  rw[← hst] at hp
  simp only at hp
  cases done with
  | false=>
   refine KW.cT U U (by first | (simp;done) | decide) ?_
   refine KW.app1 (xs:=(nI out).map (Value.int .i64)) (v:=.int .i64 m) 0 1 U U U U U U U U U U U U U U U U U U U U U U U (by simp) (by show(_+1)*8≤_;first | omega | (simp only;omega)) (by first | omega | (simp only;omega)) ?_
   have hp:putN m l=out++[m]:=hp
   refine KW.retM1 U U U U (fun H1 g=>MkL.ofE g (j:=0) rfl (by rw[hp];simp[nI]) (by rw[hp];simp[nI]) (g.ge (H1:=H) (j:=0) rfl))
  | true=>
   refine KW.cF U U (by first | (simp;done) | decide) ?_
   have hp:putN m l=out:=hp
   rw[hp]
   refine KW.retM1 U U U U (fun H1 g=>MkL.of g (j:=0) rfl (g.ge (H1:=H) (j:=0) rfl))
theorem l00PutZ {m:Nat} {z:Int} (hz:z=m) {a c} {l:List Nat} (hl:l.length≤1000) (hs:KI.Sl S H0 (.slice a (nI l).length c) (nI l)):SpecM Try.prog S H0 255 [.slice a (nI l).length c,.int .i64 z] (MkL (nI (putN m l))):=by
 subst hz
 exact l00Put hl hs
theorem l07Within {m:Nat} (hm:m<4611686018427387904) {a c} {l:List Nat} (hl:l.length≤1000) (hlt:∀x∈l,x<4611686018427387904) (hs:KI.Sl S H0 (.slice a (nI l).length c) (nI l)):Spec Try.prog S H0 230 [.slice a (nI l).length c,.int .i64 m] (fun v=>v=.bool (withinB l m)):=by
 have el:(nI l).length=l.length:=nI_len
 refine Spec.of1 Try.func230 rfl (by kernel_rfl) rfl (fun H _=>?_)
 refine KW.lp U U (fun i:Nat=>[(0,.slice a (nI l).length c),(1,.int .i64 m),(5,.int .i64 i)]) (fun i=>i≤l.length∧withinB (l.take i) m=false) (fun i=>l.length-i) (0) (⟨Nat.zero_le _,rfl⟩) ⟨rfl,rfl,rfl,trivial⟩ (fun i hi bE n=>?_)
 obtain⟨hi1,hw⟩:=hi
 refine KW.cnd U U (fun k1=>?_) (fun k1=>?_)
 ·have k1:(i:Int)<(nI l).length:=k1
  obtain⟨x,hx⟩:∃x,l[i]?=some x:=⟨_,List.getElem?_eq_getElem (by omega)⟩
  have hxl:=hlt x (List.mem_of_getElem? hx)
  have rd:∀z,(nI l)[i]?=some z→z=x:=fun z hz=>by
   obtain⟨y,h1,h2⟩:=nI_at hz
   rw[hx] at h1;cases h1;exact h2
  refine KW.getI hs.up U U U U U U U U U U U U U U U U (by omega) (k1) (fun z hz=>?_)
  obtain rfl:=rd z hz
  refine KW.getI hs.up U U U U U U U U U U U U U U U U (by omega) (k1) (fun z2 hz2=>?_)
  obtain rfl:=rd z2 hz2
  have hmem:=List.mem_of_getElem? hx
  refine KW.cnd U U (fun k2=>?_) (fun k2=>?_)
  ·have k2:IntKind.i64.wrap ((BitVec.ofInt IntKind.i64.bits (x:Int) &&& BitVec.ofInt IntKind.i64.bits (m:Int)).toNat:Int)=(x:Int):=k2
   rw[and_i64 hxl hm] at k2
   have hwt:withinB l m=true:=List.any_eq_true.2 ⟨x,hmem,by simp;omega⟩
   exact KW.ret U U U U (by rw[hwt];rfl)
  ·have k2:¬IntKind.i64.wrap ((BitVec.ofInt IntKind.i64.bits (x:Int) &&& BitVec.ofInt IntKind.i64.bits (m:Int)).toNat:Int)=(x:Int):=k2
   rw[and_i64 hxl hm] at k2
   have e:withinB (l.take (i+1)) m=false:=by
    obtain⟨hi2,rfl⟩:=List.getElem?_eq_some_iff.1 hx
    rw[List.take_succ_eq_append_getElem hi2]
    unfold withinB at hw ⊢
    rw[List.any_append,hw]
    simp
    omega
   refine KW.nxt U U (fun H' g=>⟨i+1,⟨by omega,e⟩,by first | omega | (simp only;omega),⟨rfl,rfl,congrArg (Value.int .i64) (inc64 (by omega)),trivial⟩,g⟩)
 ·have k1:¬(i:Int)<(nI l).length:=k1
  obtain rfl:i=l.length:=by omega
  rw[List.take_length] at hw
  exact KW.ret U U U U (by rw[hw];rfl)
theorem l07WithinZ {m:Nat} {z:Int} (hz:z=m) (hm:m<4611686018427387904) {a c} {l:List Nat} (hl:l.length≤1000) (hlt:∀x∈l,x<4611686018427387904) (hs:KI.Sl S H0 (.slice a (nI l).length c) (nI l)):Spec Try.prog S H0 230 [.slice a (nI l).length c,.int .i64 z] (fun v=>v=.bool (withinB l m)):=by
 subst hz
 exact l07Within hm hl hlt hs
end
theorem take_snoc {α:Type} {l:List α} {i:Nat} {x:α} (h:l[i]?=some x):l.take (i+1)=l.take i++[x]:=by
 obtain⟨hi,rfl⟩:=List.getElem?_eq_some_iff.1 h
 exact List.take_succ_eq_append_getElem hi
theorem comN_next {gs:List Nat} {both j g:Nat} (h:gs[j]?=some g):comN (gs.take (j+1)) both=if g &&& both=g then comN (gs.take j) both &&& g else comN (gs.take j) both:=by
 rw[take_snoc h]
 unfold comN
 rw[List.foldl_append]
 rfl
theorem comN_sub (gs:List Nat) (both:Nat):comN gs both &&& both=comN gs both:=by
 unfold comN
 have key:∀(l:List Nat) (c:Nat),c &&& both=c→(l.foldl (fun c g=>if g &&& both=g then c &&& g else c) c) &&& both=l.foldl (fun c g=>if g &&& both=g then c &&& g else c) c:=fun l=>by
  induction l with
  | nil=>intro c h;exact h
  | cons g l ih=>
   intro c h
   simp only[List.foldl_cons]
   refine ih _ ?_
   split
   ·rw[Nat.and_assoc,Nat.and_comm g both,← Nat.and_assoc,h]
   ·exact h
 exact key gs both (Nat.and_self _)
theorem comN_le (gs:List Nat) (both:Nat):comN gs both≤both:=by rw[← comN_sub];exact Nat.and_le_right
theorem cirK_next {gs:List Nat} {gi k g:Nat} {all:List Nat} {ks:List Nat} (h:ks[k]?=some g):cirK gs gi all (ks.take (k+1))=if(gi ||| g)≠comN gs (gi ||| g) then putN (dif (gi ||| g) (comN gs (gi ||| g))) (cirK gs gi all (ks.take k)) else cirK gs gi all (ks.take k):=by
 rw[take_snoc h]
 unfold cirK
 rw[List.foldl_append]
 rfl
theorem cirA_next {top:Nat} {gs:List Nat} {i:Nat}:cirA top gs (i+1)=cirK gs (gs.getD i 0) (putN (gs.getD i 0 ||| top) (cirA top gs i)) (gs.take i):=by
 unfold cirA
 rw[List.range_succ,List.foldl_append]
 rfl
theorem cirK_len {gs:List Nat} {gi:Nat}:∀(ks all:List Nat),(cirK gs gi all ks).length≤all.length+ks.length
 | [],all=>by simp[cirK]
 | g :: ks,all=>by
  have ih:=fun a=>cirK_len (gs:=gs) (gi:=gi) ks a
  show(cirK gs gi (if(gi ||| g)≠comN gs (gi ||| g) then putN (dif (gi ||| g) (comN gs (gi ||| g))) all else all) ks).length≤_
  split
  ·have h1:=ih (putN (dif (gi ||| g) (comN gs (gi ||| g))) all)
   have h2:=putN_len (n:=dif (gi ||| g) (comN gs (gi ||| g))) (l:=all)
   simp;omega
  ·have h1:=ih all
   simp;omega
theorem cirA_len {top:Nat} {gs:List Nat}:∀i,(cirA top gs i).length≤i+i*gs.length
 | 0=>by simp[cirA]
 | i+1=>by
  have ih:=cirA_len (top:=top) (gs:=gs) i
  rw[cirA_next]
  have h1:=cirK_len (gs:=gs) (gi:=gs.getD i 0) (gs.take i) (putN (gs.getD i 0 ||| top) (cirA top gs i))
  have h2:=putN_len (n:=gs.getD i 0 ||| top) (l:=cirA top gs i)
  have h3:(gs.take i).length≤gs.length:=List.length_take_le' i gs
  rw[Nat.add_mul]
  omega
theorem cirK_lt {m:Nat} {gs:List Nat} {gi:Nat} (hgi:gi<2 ^ m):∀(ks all:List Nat),(∀x∈ks,x<2 ^ m)→(∀x∈all,x<2 ^ m)→∀x∈cirK gs gi all ks,x<2 ^ m
 | [],all,_,h=>h
 | g :: ks,all,hk,h=>by
  show ∀x∈cirK gs gi (if(gi ||| g)≠comN gs (gi ||| g) then putN (dif (gi ||| g) (comN gs (gi ||| g))) all else all) ks,x<2 ^ m
  have hg:(gi ||| g)<2 ^ m:=Nat.or_lt_two_pow hgi (hk g (List.mem_cons_self ..))
  refine cirK_lt hgi ks _ (fun x hx=>hk x (List.mem_cons_of_mem _ hx)) ?_
  split
  ·intro x hx
   rcases putN_mem x hx with rfl | hx
   ·exact dif_lt hg
   ·exact h x hx
  ·exact h
theorem cirA_lt {m top:Nat} {gs:List Nat} (ht:top<2 ^ m) (hg:∀x∈gs,x<2 ^ m):∀i,∀x∈cirA top gs i,x<2 ^ m
 | 0=>by simp[cirA]
 | i+1=>by
  rw[cirA_next]
  have h0:gs.getD i 0<2 ^ m:=by
   rw[List.getD_eq_getElem?_getD]
   cases h:gs[i]? with
   | none=>exact Nat.two_pow_pos m
   | some x=>exact hg x (List.mem_of_getElem? h)
  refine cirK_lt h0 _ _ (fun x hx=>hg x (List.mem_of_mem_take hx)) fun x hx=>?_
  rcases putN_mem x hx with rfl | hx
  ·exact Nat.or_lt_two_pow h0 ht
  ·exact cirA_lt ht hg i x hx
theorem cirO_next {all:List Nat} {i:Nat}:cirO all (i+1)=if leastB all i then cirO all i++[all.getD i 0] else cirO all i:=by
 unfold cirO
 rw[List.range_succ,List.filter_append,List.map_append]
 cases h:leastB all i<;>simp[h]
theorem cirW_next {top:Nat} {all:List Nat} {i:Nat}:cirW top all (i+1)=(cirW top all i&&(leastB all i||(all.getD i 0 &&& top)==0)):=by
 unfold cirW
 rw[List.range_succ,List.all_append]
 simp
def leastK (all:List Nat) (i k:Nat):Bool:=(List.range k).all fun k=>k==i||(all.getD k 0 &&& all.getD i 0) !=all.getD k 0
theorem leastK_next {all:List Nat} {i k:Nat}:leastK all i (k+1)=(leastK all i k&&(k==i||(all.getD k 0 &&& all.getD i 0) !=all.getD k 0)):=by
 unfold leastK
 rw[List.range_succ,List.all_append]
 simp
theorem leastK_false {all:List Nat} {i k:Nat} (h:leastK all i k=false) (hk:k≤all.length):leastB all i=false:=by
 obtain⟨x,h1,h2⟩:=List.all_eq_false.1 h
 exact List.all_eq_false.2 ⟨x,List.mem_range.2 (by have:=List.mem_range.1 h1;omega),h2⟩
structure CiS where
 i:Nat
 S:Ids
 A:AH
 a:Option Addr
 c:Nat
 all:List Nat
structure CiI (H:AH) (all:List Nat) (s:CiS):Prop where
 old:St (Low H.n) H s.S s.A
 sl:KI.Sl s.S s.A (.slice s.a (nI s.all).length s.c) (nI s.all)
 eq:s.all=all
def MkCi (l:List Nat) (w:Bool) (n:Nat) (v:Value) (H1:AH):Prop:=∃v1,v=.tuple #[v1,.bool w]∧MkL (nI l) n v1 H1
section
variable {S:Ids} {H0:AH}
theorem l07Circuits {q:Nat} (hq1:1≤q) (hq:q≤5) {id:Nat} {a c} {gs:List (List Int)} (hB:B_Int64SS gs) (hgl:gs.length≤30) (hx:∀g∈gs,∀z∈g,0≤z∧z<(q:Int)) (hv:Has3 S H0 id 0 [.int .i64 q,.slice a gs.length c]) (hs:KI.sl.Sl S H0 (.slice a gs.length c) gs):
  SpecM Try.prog S H0 246 [.pointer (some ⟨id,0,none⟩)] (MkCi (cirO (cirA (2 ^ q) (nums gs) gs.length) (cirA (2 ^ q) (nums gs) gs.length).length) (cirW (2 ^ q) (cirA (2 ^ q) (nums gs) gs.length) (cirA (2 ^ q) (nums gs) gs.length).length)):=by
 refine SpecM.of1 Try.func246 rfl (by kernel_rfl) rfl (fun H _=>?_)
 have hv:=hv.up (S':=Low H.n) (H':=H)
 refine KW.ldF 0 hv U U U U U U U U U ?_
 refine KW.shlI U U U U U U q (wru (by omega) (by omega)) (by omega) ?_
 refine KW.ldF 1 hv U U U U U U U U U ?_
 refine KW.callN1 U U U U U (l07Numbers (q:=q) (by omega) hB hx hs.up) (fun v HN SN mN _ _ hv=>?_)
 obtain⟨aB,cB,rfl,hBm⟩:=hv
 have eB:numsI gs=nI (nums gs):=by simp[nI,nums]
 rw[eB] at hBm ⊢
 obtain⟨B,hBe⟩:∃B,nums gs=B:=⟨_,rfl⟩
 have hBl:B.length=gs.length:=by rw[← hBe];simp
 have hBq:∀x∈B,x<2 ^ q:=fun x hx'=>by
  rw[← hBe] at hx'
  obtain⟨g,hg,rfl⟩:=List.mem_map.1 hx'
  exact bitsOf_lt (fun z hz=>by have:=hx g hg z hz;omega)
 rw[hBe] at hBm ⊢
 rw[← hBl] at hgl ⊢
 have hq32:2 ^ q≤32:=Nat.pow_le_pow_right (by decide) (show q≤5 by omega)
 have hq33:2 ^ (q+1)≤64:=Nat.pow_le_pow_right (by decide) (show q+1≤6 by omega)
 have hqq:2 ^ q<2 ^ (q+1):=Nat.pow_lt_pow_right (by decide) (by omega)
 have hBw:∀x∈B,x<2 ^ (q+1):=fun x hx'=>by have:=hBq x hx';omega
 have hAl:∀i,i≤B.length→(cirA (2 ^ q) B i).length≤930:=fun i hi=>by
  have h1:=cirA_len (top:=2 ^ q) (gs:=B) i
  have h2:i*B.length≤30*30:=Nat.mul_le_mul (by omega) (by omega)
  omega
 have hAw:=cirA_lt (m:=q+1) (top:=2 ^ q) hqq hBw
 have hel:(nI B).length=B.length:=nI_len
 have hB0:=hBm.sl.more (fun id hid=>((inferInstance:On (New _ HN.n) HN SN HN).st id hid).1)
 haveI oN:Stp (Low H.n) H SN HN:=inferInstance
 refine KW.lit U U U U U U U U U U [] U U (fun v hv=>by simp at hv) rfl ?_
 refine KW.take 0 ?_
 refine KW.lpM U U (fun s:CiS=>[(0,.pointer (some ⟨id,0,none⟩)),(4,.int .i64 (2 ^ q:Nat)),(5,.slice aB (nI B).length cB),(6,.slice s.a (nI s.all).length s.c),(7,.int .i64 s.i)]) (fun s=>s.S) (fun s=>s.A) (fun s=>[]) (fun s=>s.i≤B.length∧CiI H (cirA (2 ^ q) B s.i) s∧St SN HN s.S s.A) (fun s=>B.length-s.i) (⟨0,SN,HN,_,_,[]⟩) (⟨Nat.zero_le _,⟨oN.st,.inl ⟨rfl,_,_,rfl,fun h=>by cases h⟩,rfl⟩,fun id h=>⟨h,rfl⟩⟩) ⟨rfl,rfl,rfl,rfl,rfl,trivial⟩ U U (rfl) (fun s hi bE n=>?_)
 obtain⟨i,S1,A1,a1,c1,all⟩:=s
 obtain⟨hi1,hi2,hi3⟩:=hi
 have hold1:=hi2.old
 have hsl1:=hi2.sl
 have eall:=hi2.eq
 simp only at hi1 hi3 hold1 hsl1 eall
 haveI o1:Stp SN HN S1 A1:=⟨hi3⟩
 haveI o1':Stp (Low H.n) H S1 A1:=⟨hold1⟩
 refine KW.cnd U U (fun k1=>?_) (fun k1=>?_)
 ·have k1:(i:Int)<(nI B).length:=k1
  obtain⟨g,hg⟩:∃g,B[i]?=some g:=⟨_,List.getElem?_eq_getElem (by omega)⟩
  have hgd:B.getD i 0=g:=by rw[List.getD_eq_getElem?_getD,hg];rfl
  have hgq:=hBq g (List.mem_of_getElem? hg)
  have rd:∀(i:Nat) x z,B[i]?=some x→(nI B)[i]?=some z→z=x:=fun i x z hx hz=>by
   obtain⟨y,h1,h2⟩:=nI_at hz
   rw[hx] at h1;cases h1;exact h2
  have hall:=hAl i (by omega)
  rw[← eall] at hall
  have hB1:=hB0.up (S':=S1) (H':=A1)
  refine KW.getI hB1 U U U U U U U U U U U U U U U U (by omega) (k1) (fun z hz=>?_)
  obtain rfl:=rd i g z hg hz
  have eog:=or_i64 (a:=g) (b:=2 ^ q) (by omega) (by omega)
  refine KW.callN1 U U U U U (l00PutZ (l:=all) (m:=g ||| 2 ^ q) eog (by omega) (hsl1.up)) (fun v H2 S2 m2 _ _ hv=>?_)
  obtain⟨a2,c2,rfl,hm2⟩:=hv
  have o2:On S1 A1 S2 H2:=inferInstance
  have hs2:=hm2.sl.more (fun id hid=>((inferInstance:On (New _ H2.n) H2 S2 H2).st id hid).1)
  obtain⟨P0,hP0⟩:∃P0,putN (g ||| 2 ^ q) all=P0:=⟨_,rfl⟩
  have hP0l:P0.length≤931:=by have:=putN_len (n:=g ||| 2 ^ q) (l:=all);rw[hP0] at this;omega
  rw[hP0] at hs2 ⊢
  have hKl:∀k,(cirK B g P0 ((B.take i).take k)).length≤961:=fun k=>by
   have h1:=cirK_len (gs:=B) (gi:=g) ((B.take i).take k) P0
   have h2:((B.take i).take k).length≤30:=by rw[List.length_take,List.length_take];omega
   omega
  refine KW.lpM U U (fun s:CiS=>[(0,.pointer (some ⟨id,0,none⟩)),(4,.int .i64 (2 ^ q:Nat)),(5,.slice aB (nI B).length cB),(6,.slice s.a (nI s.all).length s.c),(7,.int .i64 i),(8,.int .i64 s.i)]) (fun s=>s.S) (fun s=>s.A) (fun s=>[]) (fun s=>s.i≤i∧CiI H (cirK B g P0 ((B.take i).take s.i)) s∧St SN HN s.S s.A) (fun s=>i-s.i) (⟨0,S2,H2,_,_,P0⟩) (⟨Nat.zero_le _,⟨hold1.trans o2.st,hs2,rfl⟩,hi3.trans o2.st⟩) ⟨rfl,rfl,rfl,rfl,rfl,rfl,trivial⟩ U U (rfl) (fun s hi bE n=>?_)
  obtain⟨k,S3,A3,a3,c3,all3⟩:=s
  obtain⟨hk1,hk2,hk3⟩:=hi
  have hold3:=hk2.old
  have hsl3:=hk2.sl
  have eall3:=hk2.eq
  simp only at hk1 hk3 hold3 hsl3 eall3
  haveI o3:Stp SN HN S3 A3:=⟨hk3⟩
  haveI o3':Stp (Low H.n) H S3 A3:=⟨hold3⟩
  have hB3:=hB0.up (S':=S3) (H':=A3)
  have hal3:=hKl k
  rw[← eall3] at hal3
  refine KW.cnd U U (fun k2=>?_) (fun k2=>?_)
  ·have k2:(k:Int)<(i:Int):=k2
   obtain⟨gk,hgk⟩:∃g,B[k]?=some g:=⟨_,List.getElem?_eq_getElem (by omega)⟩
   have hgkq:=hBq gk (List.mem_of_getElem? hgk)
   have hgk':(B.take i)[k]?=some gk:=by rw[List.getElem?_take,if_pos (by omega)];exact hgk
   have hnx:=cirK_next (gs:=B) (gi:=g) (all:=P0) hgk'
   rw[← eall3] at hnx
   refine KW.getI hB3 U U U U U U U U U U U U U U U U (by omega) (by omega) (fun z hz=>?_)
   obtain rfl:=rd i g z hg hz
   refine KW.getI hB3 U U U U U U U U U U U U U U U U (by omega) (by omega) (fun z2 hz2=>?_)
   obtain rfl:=rd k gk z2 hgk hz2
   have hbq:(g ||| gk)<2 ^ q:=Nat.or_lt_two_pow hgq hgkq
   obtain⟨both,hbo⟩:∃both,(g ||| gk)=both:=⟨_,rfl⟩
   have eor:IntKind.i64.wrap ((BitVec.ofInt IntKind.i64.bits (g:Int) ||| BitVec.ofInt IntKind.i64.bits (gk:Int)).toNat:Int)=(both:Int):=by rw[or_i64 (by omega) (by omega),hbo]
   rw[hbo] at hbq hnx
   refine KW.lp U U (fun j:Nat=>[(0,.pointer (some ⟨id,0,none⟩)),(4,.int .i64 (2 ^ q:Nat)),(5,.slice aB (nI B).length cB),(6,.slice a3 (nI all3).length c3),(7,.int .i64 i),(8,.int .i64 k),(9,.int .i64 both),(10,.int .i64 (comN (B.take j) both:Nat)),(11,.int .i64 j)]) (fun j=>j≤B.length) (fun j=>B.length-j) (0) (Nat.zero_le _) ⟨rfl,rfl,rfl,rfl,rfl,rfl,congrArg (Value.int .i64) eor,congrArg (Value.int .i64) eor,rfl,trivial⟩ (fun j hi bE n=>?_)
   have hcl:=comN_le (B.take j) both
   refine KW.cnd U U (fun k3=>?_) (fun k3=>?_)
   ·have k3:(j:Int)<(nI B).length:=k3
    obtain⟨gj,hgj⟩:∃g,B[j]?=some g:=⟨_,List.getElem?_eq_getElem (by omega)⟩
    have hgjq:=hBq gj (List.mem_of_getElem? hgj)
    refine KW.getI hB3 U U U U U U U U U U U U U U U U (by omega) (by omega) (fun z3 hz3=>?_)
    obtain rfl:=rd j gj z3 hgj hz3
    refine KW.getI hB3 U U U U U U U U U U U U U U U U (by omega) (by omega) (fun z4 hz4=>?_)
    obtain rfl:=rd j gj z4 hgj hz4
    have hcn:=comN_next (both:=both) hgj
    have ea:IntKind.i64.wrap ((BitVec.ofInt IntKind.i64.bits (gj:Int) &&& BitVec.ofInt IntKind.i64.bits (both:Int)).toNat:Int)=((gj &&& both:Nat):Int):=and_i64 (by omega) (by omega)
    refine KW.cnd U U (fun k4=>?_) (fun k4=>?_)
    ·have k4:IntKind.i64.wrap ((BitVec.ofInt IntKind.i64.bits (gj:Int) &&& BitVec.ofInt IntKind.i64.bits (both:Int)).toNat:Int)=(gj:Int):=k4
     rw[ea] at k4
     rw[if_pos (by omega)] at hcn
     refine KW.getI hB3 U U U U U U U U U U U U U U U U (by omega) (by omega) (fun z5 hz5=>?_)
     obtain rfl:=rd j gj z5 hgj hz5
     refine KW.nxt U U (fun H' g=>⟨j+1,by omega,by first | omega | (simp only;omega),⟨rfl,rfl,rfl,rfl,rfl,rfl,rfl,congrArg (Value.int .i64) (by rw[hcn];exact and_i64 (by omega) (by omega)),congrArg (Value.int .i64) (inc64 (by omega)),trivial⟩,g⟩)
    ·have k4:¬IntKind.i64.wrap ((BitVec.ofInt IntKind.i64.bits (gj:Int) &&& BitVec.ofInt IntKind.i64.bits (both:Int)).toNat:Int)=(gj:Int):=k4
     rw[ea] at k4
     rw[if_neg (by omega)] at hcn
     refine KW.nxt U U (fun H' g=>⟨j+1,by omega,by first | omega | (simp only;omega),⟨rfl,rfl,rfl,rfl,rfl,rfl,rfl,congrArg (Value.int .i64) (by rw[hcn]),congrArg (Value.int .i64) (inc64 (by omega)),trivial⟩,g⟩)
   ·have k3:¬(j:Int)<(nI B).length:=k3
    obtain rfl:j=B.length:=by omega
    rw[List.take_length] at hcl
    have et:comN (B.take B.length) both=comN B both:=by rw[List.take_length]
    refine KW.cndB U U (fun k4=>?_) (fun k4=>?_)
    ·have k4:both≠comN B both:=by rw[et] at k4;simp at k4;omega
     rw[if_pos k4] at hnx
     refine KW.callN1 U U U U U (l00PutZ (l:=all3) (m:=dif both (comN B both)) (by rw[et];exact andnot_i64 (by omega) (by omega)) (by omega) (hsl3.up)) (fun v H5 S5 m5 _ _ hv=>?_)
     obtain⟨a5,c5,rfl,hm5⟩:=hv
     have o5:On S3 A3 S5 H5:=inferInstance
     have hs5:=hm5.sl.more (fun id hid=>((inferInstance:On (New _ H5.n) H5 S5 H5).st id hid).1)
     refine KW.nxt U U (fun H' g=>⟨⟨k+1,S5,H5,a5,c5,_⟩,⟨by simp only;omega,⟨hold3.trans o5.st,hs5,hnx.symm⟩,hk3.trans o5.st⟩,by first | omega | (simp only;omega),⟨rfl,rfl,rfl,rfl,rfl,congrArg (Value.int .i64) (inc64 (by omega)),trivial⟩,g⟩)
    ·have k4:both=comN B both:=by rw[et] at k4;simp at k4;omega
     rw[if_neg (fun h=>h k4)] at hnx
     refine KW.nxt U U (fun H' g=>⟨⟨k+1,S3,A3,a3,c3,all3⟩,⟨by simp only;omega,⟨hold3,hsl3,hnx.symm⟩,hk3⟩,by first | omega | (simp only;omega),⟨rfl,rfl,rfl,rfl,rfl,congrArg (Value.int .i64) (inc64 (by omega)),trivial⟩,g⟩)
  ·have k2:¬(k:Int)<(i:Int):=k2
   obtain rfl:k=i:=by omega
   have e9:all3=cirA (2 ^ q) B (k+1):=by
    rw[eall3,cirA_next,hgd,← eall,hP0]
    congr 1
    rw[List.take_take,Nat.min_self]
   refine KW.nxt U U (fun H' g=>⟨⟨k+1,S3,A3,a3,c3,all3⟩,⟨by simp only;omega,⟨hold3,hsl3,e9⟩,hk3⟩,by first | omega | (simp only;omega),⟨rfl,rfl,rfl,rfl,congrArg (Value.int .i64) (inc64 (by omega)),trivial⟩,g⟩)
 ·have k1:¬(i:Int)<(nI B).length:=k1
  obtain rfl:i=B.length:=by omega
  obtain⟨A,hA⟩:∃A,cirA (2 ^ q) B B.length=A:=⟨_,rfl⟩
  rw[hA] at eall ⊢
  have eall2:=eall.symm
  subst eall2
  have hAl1:=hAl B.length (Nat.le_refl _)
  have hAw1:=hAw B.length
  rw[hA] at hAl1 hAw1
  have hAe:(nI A).length=A.length:=nI_len
  have rdA:∀(i:Nat) x z,A[i]?=some x→(nI A)[i]?=some z→z=x:=fun i x z hx hz=>by
   obtain⟨y,h1,h2⟩:=nI_at hz
   rw[hx] at h1;cases h1;exact h2
  have hOl:∀i,(nI (cirO A i)).length≤i:=fun i=>by
   rw[nI_len];unfold cirO;rw[List.length_map]
   exact Nat.le_trans (List.length_filter_le _ _) (by simp)
  refine KW.lit U U U U U U U U U U [] U U (fun v hv=>by simp at hv) rfl ?_
  refine KW.lpM U U (fun s:Nat × Nat=>[(4,.int .i64 (2 ^ q:Nat)),(6,.slice a1 (nI A).length c1),(12,.slice (some ⟨s.2,0,some 1⟩) (nI (cirO A s.1)).length (nI (cirO A s.1)).length),(13,.bool (cirW (2 ^ q) A s.1)),(14,.int .i64 s.1)]) (fun s=>S1) (fun s=>A1) (fun s=>[(s.2,⟨_,true,(nI (cirO A s.1)).map (Value.int .i64)⟩)]) (fun s=>s.1≤A.length) (fun s=>A.length-s.1) ((0,_)) (Nat.zero_le _) ⟨rfl,rfl,rfl,rfl,rfl,trivial⟩ U U (rfl) (fun s hi bE n=>?_)
  obtain⟨i,o⟩:=s
  simp only at hi
  have hA1:KI.Sl S1 A1 (.slice a1 (nI A).length c1) (nI A):=hsl1
  have hoi:=hOl i
  refine KW.cnd U U (fun j1=>?_) (fun j1=>?_)
  ·have j1:(i:Int)<(nI A).length:=j1
   obtain⟨x,hx⟩:∃x,A[i]?=some x:=⟨_,List.getElem?_eq_getElem (by omega)⟩
   have hxd:A.getD i 0=x:=by rw[List.getD_eq_getElem?_getD,hx];rfl
   have hxw:=hAw1 x (List.mem_of_getElem? hx)
   have eax:IntKind.i64.wrap ((BitVec.ofInt IntKind.i64.bits (x:Int) &&& BitVec.ofInt IntKind.i64.bits ((2 ^ q:Nat):Int)).toNat:Int)=((x &&& 2 ^ q:Nat):Int):=and_i64 (by omega) (by omega)
   refine KW.lpM U U (fun k:Nat=>[(4,.int .i64 (2 ^ q:Nat)),(6,.slice a1 (nI A).length c1),(12,.slice (some ⟨o,0,some 1⟩) (nI (cirO A i)).length (nI (cirO A i)).length),(13,.bool (cirW (2 ^ q) A i)),(14,.int .i64 i),(15,.bool (leastK A i k)),(16,.int .i64 k)]) (fun k=>S1) (fun k=>A1) (fun k=>[(o,⟨2,true,(nI (cirO A i)).map (Value.int .i64)⟩)]) (fun k=>k≤A.length) (fun k=>A.length-k) (0) (Nat.zero_le _) ⟨rfl,rfl,rfl,rfl,rfl,rfl,rfl,trivial⟩ U U (rfl) (fun k hi bE n=>?_)
   have hk:k≤A.length:=hi
   have hkn:=leastK_next (all:=A) (i:=i) (k:=k)
   refine KW.tst U U (fun h1=>?_) (fun h1=>?_)
   ·have h1:(k:Int)<(nI A).length:=h1
    refine KW.cndB U U (fun h2=>?_) (fun h2=>?_)
    ·have h2:leastK A i k=true:=h2
     rw[h2,Bool.true_and] at hkn
     obtain⟨y,hy⟩:∃y,A[k]?=some y:=⟨_,List.getElem?_eq_getElem (by omega)⟩
     have hyd:A.getD k 0=y:=by rw[List.getD_eq_getElem?_getD,hy];rfl
     have hyw:=hAw1 y (List.mem_of_getElem? hy)
     rw[hyd,hxd] at hkn
     refine KW.tst U U (fun h3=>?_) (fun h3=>?_)
     ·have h3:(k:Int)=(i:Int):=h3
      have h4:leastK A i (k+1)=true:=by rw[hkn,show(k==i)=true by simp;omega];rfl
      refine KW.nxt U U (fun H' g=>⟨(k+1),by omega,by first | omega | (simp only;omega),⟨rfl,rfl,rfl,rfl,rfl,by rw[h4];rfl,congrArg (Value.int .i64) (inc64 (by omega)),trivial⟩,g⟩)
     ·have h3:¬(k:Int)=(i:Int):=h3
      refine KW.getI hA1 U U U U U U U U U U U U U U U U (by omega) (by omega) (fun z1 hz1=>?_)
      obtain rfl:=rdA k y z1 hy hz1
      refine KW.getI hA1 U U U U U U U U U U U U U U U U (by omega) (by omega) (fun z2 hz2=>?_)
      obtain rfl:=rdA i x z2 hx hz2
      refine KW.getI hA1 U U U U U U U U U U U U U U U U (by omega) (by omega) (fun z3 hz3=>?_)
      obtain rfl:=rdA k y z3 hy hz3
      have h4:leastK A i (k+1)=(!(IntKind.i64.wrap ((BitVec.ofInt IntKind.i64.bits (y:Int) &&& BitVec.ofInt IntKind.i64.bits (x:Int)).toNat:Int)==(y:Int))):=by
       rw[and_i64 (by omega) (by omega),hkn,show(k==i)=false by simp;omega,Bool.false_or]
       cases h9:((y &&& x) !=y)
       ·have:(y &&& x)=y:=by simpa using h9
        rw[this];simp
       ·have:(y &&& x)≠y:=by simpa using h9
        have h10:(((y &&& x:Nat):Int)==(y:Int))=false:=beq_eq_false_iff_ne.2 (by omega)
        rw[h10];rfl
      refine KW.nxt U U (fun H' g=>⟨(k+1),by omega,by first | omega | (simp only;omega),⟨rfl,rfl,rfl,rfl,rfl,by rw[h4];rfl,congrArg (Value.int .i64) (inc64 (by omega)),trivial⟩,g⟩)
    ·have h2:leastK A i k=false:=h2
     have hlb:=leastK_false h2 hk
     refine KW.cndB U U (fun h5=>?_) (fun h5=>?_)
     ·have h5:leastK A i k=true:=h5
      rw[h2] at h5;cases h5
     ·refine KW.getI hA1 U U U U U U U U U U U U U U U U (by omega) (by omega) (fun z6 hz6=>?_)
      obtain rfl:=rdA i x z6 hx hz6
      have ho1:cirO A (i+1)=cirO A i:=by rw[cirO_next,if_neg (by rw[hlb];simp)]
      refine KW.cndB U U (fun k6=>?_) (fun k6=>?_)
      ·have k6:((x &&& 2 ^ q)==0)=false:=by
        have k6:(!(IntKind.i64.wrap ((BitVec.ofInt IntKind.i64.bits (x:Int) &&& BitVec.ofInt IntKind.i64.bits ((2 ^ q:Nat):Int)).toNat:Int)==0))=true:=k6
        rw[eax] at k6
        simp at k6 ⊢
        omega
       have hw1:cirW (2 ^ q) A (i+1)=false:=by rw[cirW_next,hlb,hxd,k6];simp
       refine KW.nxt U U (fun H' g=>⟨(i+1,o),by simp only;omega,by first | omega | (simp only;omega),⟨rfl,rfl,by simp only[ho1];try rfl,by simp only[hw1];try rfl,congrArg (Value.int .i64) (inc64 (by omega)),trivial⟩,g.eqT (by simp only[ho1];try rfl)⟩)
      ·have k6:((x &&& 2 ^ q)==0)=true:=by
        have k6:(!(IntKind.i64.wrap ((BitVec.ofInt IntKind.i64.bits (x:Int) &&& BitVec.ofInt IntKind.i64.bits ((2 ^ q:Nat):Int)).toNat:Int)==0))=false:=k6
        rw[eax] at k6
        simp at k6 ⊢
        omega
       have hw1:cirW (2 ^ q) A (i+1)=cirW (2 ^ q) A i:=by rw[cirW_next,hlb,hxd,k6];simp
       refine KW.nxt U U (fun H' g=>⟨(i+1,o),by simp only;omega,by first | omega | (simp only;omega),⟨rfl,rfl,by simp only[ho1];try rfl,by simp only[hw1];try rfl,congrArg (Value.int .i64) (inc64 (by omega)),trivial⟩,g.eqT (by simp only[ho1];try rfl)⟩)
   ·have h1:¬(k:Int)<(nI A).length:=h1
    obtain rfl:k=A.length:=by omega
    refine KW.cF U U (by first | (simp;done) | decide) ?_
    refine KW.cndB U U (fun h5=>?_) (fun h5=>?_)
    ·have hlb:leastB A i=true:=h5
     refine KW.getI hA1 U U U U U U U U U U U U U U U U (by omega) (by omega) (fun z6 hz6=>?_)
     obtain rfl:=rdA i x z6 hx hz6
     have ho1:cirO A (i+1)=cirO A i++[x]:=by rw[cirO_next,if_pos hlb,hxd]
     have hw1:cirW (2 ^ q) A (i+1)=cirW (2 ^ q) A i:=by rw[cirW_next,hlb];simp
     refine KW.app1 (xs:=(nI (cirO A i)).map (Value.int .i64)) (v:=.int .i64 x) 0 1 U U U U U U U U U U U U U U U U U U U U U U U (by simp) (by show(_+1)*8≤_;first | omega | (simp only;omega)) (by first | omega | (simp only;omega)) ?_
     refine KW.nxt U U (fun H' g=>⟨(i+1,_),by simp only;omega,by first | omega | (simp only;omega),⟨rfl,rfl,by simp only[ho1,nI_snoc,List.length_append,List.length_singleton];rfl,by simp only[hw1];try rfl,congrArg (Value.int .i64) (inc64 (by omega)),trivial⟩,g.eqT (by simp only[ho1,nI_snoc,List.map_append];rfl)⟩)
    ·have hlb:leastB A i=false:=h5
     refine KW.getI hA1 U U U U U U U U U U U U U U U U (by omega) (by omega) (fun z6 hz6=>?_)
     obtain rfl:=rdA i x z6 hx hz6
     have ho1:cirO A (i+1)=cirO A i:=by rw[cirO_next,if_neg (by rw[hlb];simp)]
     refine KW.cndB U U (fun k6=>?_) (fun k6=>?_)
     ·have k6:((x &&& 2 ^ q)==0)=false:=by
       have k6:(!(IntKind.i64.wrap ((BitVec.ofInt IntKind.i64.bits (x:Int) &&& BitVec.ofInt IntKind.i64.bits ((2 ^ q:Nat):Int)).toNat:Int)==0))=true:=k6
       rw[eax] at k6
       simp at k6 ⊢
       omega
      have hw1:cirW (2 ^ q) A (i+1)=false:=by rw[cirW_next,hlb,hxd,k6];simp
      refine KW.nxt U U (fun H' g=>⟨(i+1,o),by simp only;omega,by first | omega | (simp only;omega),⟨rfl,rfl,by simp only[ho1];try rfl,by simp only[hw1];try rfl,congrArg (Value.int .i64) (inc64 (by omega)),trivial⟩,g.eqT (by simp only[ho1];try rfl)⟩)
     ·have k6:((x &&& 2 ^ q)==0)=true:=by
       have k6:(!(IntKind.i64.wrap ((BitVec.ofInt IntKind.i64.bits (x:Int) &&& BitVec.ofInt IntKind.i64.bits ((2 ^ q:Nat):Int)).toNat:Int)==0))=false:=k6
       rw[eax] at k6
       simp at k6 ⊢
       omega
      have hw1:cirW (2 ^ q) A (i+1)=cirW (2 ^ q) A i:=by rw[cirW_next,hlb,hxd,k6];simp
      refine KW.nxt U U (fun H' g=>⟨(i+1,o),by simp only;omega,by first | omega | (simp only;omega),⟨rfl,rfl,by simp only[ho1];try rfl,by simp only[hw1];try rfl,congrArg (Value.int .i64) (inc64 (by omega)),trivial⟩,g.eqT (by simp only[ho1];try rfl)⟩)
  ·have j1:¬(i:Int)<(nI A).length:=j1
   obtain rfl:i=A.length:=by omega
   refine KW.retM1 U U U U (fun H1 g=>⟨_,rfl,MkL.of g (j:=0) rfl (g.ge (H1:=H) (j:=0) rfl)⟩)
end
def cirL (q:Nat) (B:List Nat):List Nat:=cirO (cirA (2 ^ q) B B.length) (cirA (2 ^ q) B B.length).length
def cirOk (q:Nat) (B:List Nat):Bool:=cirW (2 ^ q) (cirA (2 ^ q) B B.length) (cirA (2 ^ q) B B.length).length
def pC (list:List Nat) (i k e:Nat):Bool:=(list.getD i 0 &&& list.getD k 0 &&& 2 ^ e)==0||withinB list (dif (list.getD i 0 ||| list.getD k 0) (2 ^ e))
def pE (list:List Nat) (i k e:Nat):Bool:=(List.range e).all (pC list i k)
def pK (h:Nat) (list:List Nat) (i k:Nat):Bool:=(List.range k).all fun k=>pE list i k (h+1)
def pI (h:Nat) (list:List Nat) (ok:Bool) (i:Nat):Bool:=ok&&(List.range i).all fun i=>pK h list i i
theorem all_next {f:Nat→Bool} {n:Nat}:(List.range (n+1)).all f=((List.range n).all f&&f n):=by
  rw[List.range_succ,List.all_append];simp
theorem all_less {f:Nat→Bool} {n m:Nat} (h:(List.range n).all f=false) (hm:n≤m):(List.range m).all f=false:=by
  obtain⟨x,h1,h2⟩:=List.all_eq_false.1 h
  exact List.all_eq_false.2 ⟨x,List.mem_range.2 (by have:=List.mem_range.1 h1;omega),h2⟩
theorem pE_next {list:List Nat} {i k e:Nat}:pE list i k (e+1)=(pE list i k e&&pC list i k e):=all_next
theorem pK_next {h:Nat} {list:List Nat} {i k:Nat}:pK h list i (k+1)=(pK h list i k&&pE list i k (h+1)):=all_next
theorem pI_next {h:Nat} {list:List Nat} {ok:Bool} {i:Nat}:pI h list ok (i+1)=(pI h list ok i&&pK h list i i):=by unfold pI;rw[all_next,Bool.and_assoc]
theorem pI_less {h:Nat} {list:List Nat} {ok:Bool} {n m:Nat} (hp:pI h list ok n=false) (hm:n≤m):pI h list ok m=false:=by
  unfold pI at hp ⊢
  cases ok with
  | false=>rfl
  | true=>exact all_less hp hm
theorem port_pI {h:Nat} {list:List Nat} {ok:Bool}:portB h list ok=pI h list ok list.length:=rfl
theorem cirL_lt {q:Nat} {B:List Nat} (hB:∀x∈B,x<2 ^ q):∀x∈cirL q B,x<2 ^ (q+1):=fun x hx=>by
  have hp:2 ^ q<2 ^ (q+1):=Nat.pow_lt_pow_right (by decide) (by omega)
  obtain⟨i,hi,rfl⟩:=List.mem_map.1 hx
  have hi:=List.mem_range.1 (List.mem_filter.1 hi).1
  have h:=cirA_lt (m:=q+1) (top:=2 ^ q) hp (fun y hy=>by have:=hB y hy;omega) B.length (cirA (2 ^ q) B B.length)[i] (List.getElem_mem hi)
  rw[List.getD_eq_getElem?_getD,List.getElem?_eq_getElem hi]
  exact h
theorem cirL_len {q:Nat} {B:List Nat} (hB:B.length≤30):(cirL q B).length≤930:=by
  have h1:=cirA_len (top:=2 ^ q) (gs:=B) B.length
  have h2:B.length*B.length≤30*30:=Nat.mul_le_mul hB hB
  have h3:(cirL q B).length≤(cirA (2 ^ q) B B.length).length:=by
    unfold cirL cirO;rw[List.length_map]
    exact Nat.le_trans (List.length_filter_le _ _) (by simp)
  omega
section
variable {S:Ids} {H0:AH}
theorem l07Port {q:Nat} (hq1:1≤q) (hq:q≤5) {id:Nat} {a c} {gs:List (List Int)} (hB:B_Int64SS gs) (hgl:gs.length≤30) (hx:∀g∈gs,∀z∈g,0≤z∧z<(q:Int)) (hv:Has3 S H0 id 0 [.int .i64 q,.slice a gs.length c]) (hs:KI.sl.Sl S H0 (.slice a gs.length c) gs):
    SpecM Try.prog S H0 229 [.pointer (some ⟨id,0,none⟩)] (MkCi (cirL q (nums gs)) (portB q (cirL q (nums gs)) (cirOk q (nums gs)))):=by
  have hBq:∀x∈nums gs,x<2 ^ q:=fun x hx'=>by
    obtain⟨g,hg,rfl⟩:=List.mem_map.1 hx'
    exact bitsOf_lt (fun z hz=>by have:=hx g hg z hz;omega)
  have hLlt:=cirL_lt hBq
  have hLl:=cirL_len (q:=q) (B:=nums gs) (by simpa using hgl)
  have hq33:2 ^ (q+1)≤64:=Nat.pow_le_pow_right (by decide) (show q+1≤6 by omega)
  refine SpecM.of1 Try.func229 rfl (by kernel_rfl) rfl (fun H _=>?_)
  have hv:=hv.up (S':=Low H.n) (H':=H)
  refine KW.callN1 U U U U U (l07Circuits hq1 hq hB hgl hx hv hs.up) (fun v HC SC mC _ _ hv=>?_)
  obtain⟨v1,rfl,aL,cL,rfl,hm⟩:=hv
  have e1:cirO (cirA (2 ^ q) (nums gs) gs.length) (cirA (2 ^ q) (nums gs) gs.length).length=cirL q (nums gs):=by unfold cirL;simp
  have e2:cirW (2 ^ q) (cirA (2 ^ q) (nums gs) gs.length) (cirA (2 ^ q) (nums gs) gs.length).length=cirOk q (nums gs):=by unfold cirOk;simp
  rw[e1] at hm ⊢
  rw[e2]
  obtain⟨L,hL⟩:∃L,cirL q (nums gs)=L:=⟨_,rfl⟩
  obtain⟨w,hw⟩:∃w,cirOk q (nums gs)=w:=⟨_,rfl⟩
  rw[hL] at hm hLlt hLl ⊢
  rw[hw]
  have hLe:(nI L).length=L.length:=nI_len
  have wC:=(inferInstance:On (New H.n HC.n) HC SC HC).st
  have hs1:=hm.sl.more (fun id hid=>(wC id hid).1)
  have hv1:=hv.up (S':=SC) (H':=HC)
  have rdL:∀(i:Nat) x z,L[i]?=some x→(nI L)[i]?=some z→z=x:=fun i x z hx hz=>by
    obtain⟨y,h1,h2⟩:=nI_at hz
    rw[hx] at h1;cases h1;exact h2
  have ep0:pI q L w 0=w:=by simp[pI]
  refine KW.lpM U U (fun i:Nat=>[(0,.pointer (some ⟨id,0,none⟩)),(4,.slice aL (nI L).length cL),(5,.bool (pI q L w i)),(6,.int .i64 i)]) (fun i=>SC) (fun i=>HC) (fun i=>[]) (fun i=>i≤L.length) (fun i=>L.length-i) (0) (Nat.zero_le _) ⟨rfl,rfl,congrArg Value.bool ep0.symm,rfl,trivial⟩ U U (rfl) (fun i hi bE n=>?_)
  have fin:∀{T:List Var} {n:Nat} {H1:AH},Good SC HC T n H1→MkL (nI L) H.n (.slice aL (nI L).length cL) H1:=fun {T n H1} g=>⟨aL,cL,rfl,(hm.same (fun i hi=>(g.froz i (wC i hi).1).2)).more (fun i hi=>⟨hi.1,by have:=(g.froz i (wC i hi).1).1;have:=g.n_;omega⟩)⟩
  refine KW.tst U U (fun h1=>?_) (fun h1=>?_)
  · have h1:(i:Int)<(nI L).length:=h1
    refine KW.cndB U U (fun h2=>?_) (fun h2=>?_)
    · have h2:pI q L w i=true:=h2
      obtain⟨x,hx⟩:∃x,L[i]?=some x:=⟨_,List.getElem?_eq_getElem (by omega)⟩
      have hxd:L.getD i 0=x:=by rw[List.getD_eq_getElem?_getD,hx];rfl
      have hxl:=hLlt x (List.mem_of_getElem? hx)
      refine KW.lp U U (fun k:Nat=>[(0,.pointer (some ⟨id,0,none⟩)),(4,.slice aL (nI L).length cL),(5,.bool (pK q L i k)),(6,.int .i64 i),(7,.int .i64 k)]) (fun k=>k≤i) (fun k=>i-k) (0) (Nat.zero_le _) ⟨rfl,rfl,congrArg Value.bool h2,rfl,rfl,trivial⟩ (fun k hi bE n=>?_)
      have hin:=pI_next (h:=q) (list:=L) (ok:=w) (i:=i)
      rw[h2,Bool.true_and] at hin
      refine KW.tst U U (fun h3=>?_) (fun h3=>?_)
      · have h3:(k:Int)<i:=h3
        refine KW.cndB U U (fun h4=>?_) (fun h4=>?_)
        · have h4:pK q L i k=true:=h4
          obtain⟨y,hy⟩:∃y,L[k]?=some y:=⟨_,List.getElem?_eq_getElem (by omega)⟩
          have hyd:L.getD k 0=y:=by rw[List.getD_eq_getElem?_getD,hy];rfl
          have hyl:=hLlt y (List.mem_of_getElem? hy)
          refine KW.lp U U (fun e:Nat=>[(0,.pointer (some ⟨id,0,none⟩)),(4,.slice aL (nI L).length cL),(5,.bool (pE L i k e)),(6,.int .i64 i),(7,.int .i64 k),(8,.int .i64 e)]) (fun e=>e≤q+1) (fun e=>q+1-e) (0) (Nat.zero_le _) ⟨rfl,rfl,congrArg Value.bool h4,rfl,rfl,rfl,trivial⟩ (fun e hi bE n=>?_)
          have hkn:=pK_next (h:=q) (list:=L) (i:=i) (k:=k)
          rw[h4,Bool.true_and] at hkn
          refine KW.ldF 0 hv1 U U U U U U U U U ?_
          refine KW.tst U U (fun h5=>?_) (fun h5=>?_)
          · have h5:(e:Int)≤q:=h5
            refine KW.cndB U U (fun h6=>?_) (fun h6=>?_)
            · have h6:pE L i k e=true:=h6
              have hen:=pE_next (list:=L) (i:=i) (k:=k) (e:=e)
              rw[h6,Bool.true_and] at hen
              unfold pC at hen
              rw[hxd,hyd] at hen
              have he32:2 ^ e≤32:=Nat.pow_le_pow_right (by decide) (show e≤5 by omega)
              refine KW.shlI U U U U U U e (wru (by omega) (by omega)) (by omega) ?_
              refine KW.getI hs1 U U U U U U U U U U U U U U U U (by omega) (by omega) (fun z1 hz1=>?_)
              obtain rfl:=rdL i x z1 hx hz1
              refine KW.getI hs1 U U U U U U U U U U U U U U U U (by omega) (by omega) (fun z2 hz2=>?_)
              obtain rfl:=rdL k y z2 hy hz2
              have ea:IntKind.i64.wrap ((BitVec.ofInt IntKind.i64.bits (x:Int) &&& BitVec.ofInt IntKind.i64.bits (y:Int)).toNat:Int)=((x &&& y:Nat):Int):=and_i64 (by omega) (by omega)
              have hxy:x &&& y≤x:=Nat.and_le_left
              have eb:IntKind.i64.wrap ((BitVec.ofInt IntKind.i64.bits ((x &&& y:Nat):Int) &&& BitVec.ofInt IntKind.i64.bits ((2 ^ e:Nat):Int)).toNat:Int)=((x &&& y &&& 2 ^ e:Nat):Int):=and_i64 (by omega) (by omega)
              refine KW.cndB U U (fun h7=>?_) (fun h7=>?_)
              · have h7:(!(IntKind.i64.wrap ((BitVec.ofInt IntKind.i64.bits (IntKind.i64.wrap ((BitVec.ofInt IntKind.i64.bits (x:Int) &&& BitVec.ofInt IntKind.i64.bits (y:Int)).toNat:Int)) &&& BitVec.ofInt IntKind.i64.bits ((2 ^ e:Nat):Int)).toNat:Int)==0))=true:=h7
                rw[ea,eb] at h7
                have h8:((x &&& y &&& 2 ^ e)==0)=false:=by simp at h7 ⊢;omega
                rw[h8,Bool.false_or] at hen
                refine KW.getI hs1 U U U U U U U U U U U U U U U U (by omega) (by omega) (fun z3 hz3=>?_)
                obtain rfl:=rdL i x z3 hx hz3
                refine KW.getI hs1 U U U U U U U U U U U U U U U U (by omega) (by omega) (fun z4 hz4=>?_)
                obtain rfl:=rdL k y z4 hy hz4
                have eo:IntKind.i64.wrap ((BitVec.ofInt IntKind.i64.bits (x:Int) ||| BitVec.ofInt IntKind.i64.bits (y:Int)).toNat:Int)=((x ||| y:Nat):Int):=or_i64 (by omega) (by omega)
                have hor:x ||| y<2 ^ (q+1):=Nat.or_lt_two_pow hxl hyl
                have ed:IntKind.i64.wrap ((BitVec.ofInt IntKind.i64.bits ((x ||| y:Nat):Int) &&& ~~~BitVec.ofInt IntKind.i64.bits ((2 ^ e:Nat):Int)).toNat:Int)=((dif (x ||| y) (2 ^ e):Nat):Int):=andnot_i64 (by omega) (by omega)
                have hdl:dif (x ||| y) (2 ^ e)<2 ^ (q+1):=dif_lt hor
                refine KW.callE U U U U U (l07WithinZ (l:=L) (m:=dif (x ||| y) (2 ^ e)) (by rw[eo,ed]) (by omega) (by omega) (fun x hx=>by have:=hLlt x hx;omega) hs1) (fun _ _=>?_)
                refine KW.nxt U U (fun H' g=>⟨e+1,by omega,by first | omega | (simp only;omega),⟨rfl,rfl,congrArg Value.bool hen.symm,rfl,rfl,congrArg (Value.int .i64) (inc64 (by omega)),trivial⟩,g⟩)
              · have h7:(!(IntKind.i64.wrap ((BitVec.ofInt IntKind.i64.bits (IntKind.i64.wrap ((BitVec.ofInt IntKind.i64.bits (x:Int) &&& BitVec.ofInt IntKind.i64.bits (y:Int)).toNat:Int)) &&& BitVec.ofInt IntKind.i64.bits ((2 ^ e:Nat):Int)).toNat:Int)==0))=false:=h7
                rw[ea,eb] at h7
                have h8:((x &&& y &&& 2 ^ e)==0)=true:=by simp at h7 ⊢;omega
                rw[h8,Bool.true_or] at hen
                refine KW.nxt U U (fun H' g=>⟨e+1,by omega,by first | omega | (simp only;omega),⟨rfl,rfl,congrArg Value.bool (h6.trans hen.symm),rfl,rfl,congrArg (Value.int .i64) (inc64 (by omega)),trivial⟩,g⟩)
            · have h6:pE L i k e=false:=h6
              have h9:pK q L i (k+1)=false:=by rw[hkn];exact all_less h6 (by omega)
              refine KW.nxt U U (fun H' g=>⟨k+1,by omega,by first | omega | (simp only;omega),⟨rfl,rfl,congrArg Value.bool (h6.trans h9.symm),rfl,congrArg (Value.int .i64) (inc64 (by omega)),trivial⟩,g⟩)
          · have h5:¬(e:Int)≤q:=h5
            obtain rfl:e=q+1:=by omega
            refine KW.cF U U (by first | (simp;done) | decide) ?_
            refine KW.nxt U U (fun H' g=>⟨k+1,by omega,by first | omega | (simp only;omega),⟨rfl,rfl,congrArg Value.bool hkn.symm,rfl,congrArg (Value.int .i64) (inc64 (by omega)),trivial⟩,g⟩)
        · have h4:pK q L i k=false:=h4
          have h9:pI q L w (i+1)=false:=by rw[hin];exact all_less h4 (by omega)
          refine KW.nxt U U (fun H' g=>⟨i+1,by omega,by first | omega | (simp only;omega),⟨rfl,rfl,congrArg Value.bool (h4.trans h9.symm),congrArg (Value.int .i64) (inc64 (by omega)),trivial⟩,g⟩)
      · have h3:¬(k:Int)<i:=h3
        obtain rfl:k=i:=by omega
        refine KW.cF U U (by first | (simp;done) | decide) ?_
        refine KW.nxt U U (fun H' g=>⟨k+1,by omega,by first | omega | (simp only;omega),⟨rfl,rfl,congrArg Value.bool hin.symm,congrArg (Value.int .i64) (inc64 (by omega)),trivial⟩,g⟩)
    · have h2:pI q L w i=false:=h2
      have h9:portB q L w=pI q L w i:=by rw[port_pI,h2];exact pI_less h2 (by omega)
      rw[h9]
      refine KW.retM1 U U U U (fun H1 g=>⟨_,rfl,fin g⟩)
  · have h1:¬(i:Int)<(nI L).length:=h1
    obtain rfl:i=L.length:=by omega
    refine KW.cF U U (by first | (simp;done) | decide) ?_
    refine KW.retM1 U U U U (fun H1 g=>⟨_,rfl,fin g⟩)
end
theorem built_RanksU (p u:Int):Try.prog.built 91 [(0,.int .i64 p),(1,.int .i64 u)]=some #[.int .i64 p,.int .i64 u,.slice none 0 0]:=by kernel_rfl
theorem mostN_next {list:List Nat} {b n:Nat}:mostN list b (n+1)=if(n &&& b)=n∧withinB list n=false then max (mostN list b n) (ones n) else mostN list b n:=by
  unfold mostN
  rw[List.range_succ,List.foldl_append]
  rfl
theorem mostN_le {list:List Nat} {b:Nat}:∀n,mostN list b n≤7
  | 0=>by simp[mostN]
  | n+1=>by
    have ih:=mostN_le (list:=list) (b:=b) n
    have h:=ones_le n
    rw[mostN_next]
    split<;>omega
theorem max_int (a b:Nat):(if(a:Int)>(b:Int) then(a:Int) else(b:Int))=((max a b:Nat):Int):=by
  split<;>omega
def portN (list:List Nat) (n:Nat):List Nat:=(List.range n).map fun b=>mostN list b (b+1)
theorem portN_next {list:List Nat} {n:Nat}:portN list (n+1)=portN list n++[mostN list n (n+1)]:=by
  unfold portN
  rw[List.range_succ,List.map_append];rfl
theorem portN_len {list:List Nat} {n:Nat}:(portN list n).length=n:=by simp[portN]
structure PrS where
  b:Nat
  l:Value
  tail:List Var
structure PrI (R:Nat→List Nat) (n:Nat) (s:PrS):Prop where
  le:s.b≤n
  form:(s.b=0∧s.l=.slice none 0 0∧s.tail=[])∨(0<s.b∧∃o,s.l=.slice (some ⟨o,0,some 1⟩) s.b s.b∧s.tail=[(o,⟨2,true,(nI (R s.b)).map (Value.int .i64)⟩)])
def MkRk (h u:Int) (R:List Nat) (n:Nat) (v:Value) (H1:AH):Prop:=∃a c,v=.agg #[.int .i64 h,.int .i64 u,.slice a (nI R).length c]∧KI.Ml (New n H1.n) H1 (.slice a (nI R).length c) (nI R)
def MkPr (q:Nat) (B:List Nat) (n:Nat) (v:Value) (H1:AH):Prop:=
  (portB q (cirL q B) (cirOk q B)=false∧v=.tuple #[.agg #[.int .i64 0,.int .i64 0,.slice none 0 0],.int .i64 8])∨(portB q (cirL q B) (cirOk q B)=true∧∃v1,v=.tuple #[v1,.int .i64 0]∧MkRk q 1 (portR q (cirL q B)) n v1 H1)
section
variable {S:Ids} {H0:AH}
theorem specPortRanks {q:Nat} (hq1:1≤q) (hq:q≤5) {a c} {gs:List (List Int)} (hB:B_Int64SS gs) (hgl:gs.length≤30) (hx:∀g∈gs,∀z∈g,0≤z∧z<(q:Int)) (hcode:codeF q gs=0) (hs:KI.sl.Sl S H0 (.slice a gs.length c) gs):
    SpecM Try.prog S H0 186 [familyV q (.slice a gs.length c)] (MkPr q (nums gs)):=by
  have hBq:∀x∈nums gs,x<2 ^ q:=fun x hx'=>by
    obtain⟨g,hg,rfl⟩:=List.mem_map.1 hx'
    exact bitsOf_lt (fun z hz=>by have:=hx g hg z hz;omega)
  have hLlt:=cirL_lt hBq
  have hLl:=cirL_len (q:=q) (B:=nums gs) (by simpa using hgl)
  have hq32:2 ^ q≤32:=Nat.pow_le_pow_right (by decide) (show q≤5 by omega)
  have hq33:2 ^ (q+1)≤64:=Nat.pow_le_pow_right (by decide) (show q+1≤6 by omega)
  refine SpecM.of1 Try.func186 rfl (by kernel_rfl) rfl (fun H _=>?_)
  have hs:=hs.up (S':=Low H.n) (H':=H)
  refine KW.callV1 U U U U U (fun H1 g _=>l07Family q hB (g.blk (j:=0) rfl).2 (g.blk (j:=0) rfl).1 hs.up) (fun n1 m1=>?_)
  rw[hcode]
  refine KW.cF U U (by first | (simp;done) | decide) ?_
  refine KW.callNV1 U U U U U (fun H1 g _=>l07Port hq1 hq hB hgl hx ⟨(g.blk (j:=0) rfl).2,_,(g.blk (j:=0) rfl).1,fun i v h=>by rw[Nat.zero_add];exact h⟩ hs.up) (fun v HP SP mP _ _ hv=>?_)
  obtain⟨v1,rfl,aL,cL,rfl,hm⟩:=hv
  obtain⟨L,hL⟩:∃L,cirL q (nums gs)=L:=⟨_,rfl⟩
  obtain⟨w,hw⟩:∃w,cirOk q (nums gs)=w:=⟨_,rfl⟩
  unfold MkPr
  rw[hL] at hm hLlt hLl
  rw[hL,hw]
  have hLe:(nI L).length=L.length:=nI_len
  have wC:=(inferInstance:On (New n1 HP.n) HP SP HP).st
  have hs1:=hm.sl.more (fun id hid=>(wC id hid).1)
  refine KW.cndB U U (fun h2=>?_) (fun h2=>?_)
  · have h2:portB q L w=false:=by have h2:(!portB q L w)=true:=h2;simpa using h2
    refine KW.build U U U U U (built_Ranks0) ?_
    refine KW.retM1 U U U U (fun H1 g=>.inl ⟨h2,rfl⟩)
  have h2:portB q L w=true:=by have h2:(!portB q L w)=false:=h2;simpa using h2
  refine KW.build U U U U U (built_RanksU _ _) ?_
  refine KW.lpM U U (fun s:PrS=>[(1,.pointer (some ⟨H.n,0,some 0⟩)),(2,.pointer (some ⟨H.n+1,0,some 1⟩)),(5,.slice aL (nI L).length cL),(7,.pointer (some ⟨HP.n,0,some 2⟩)),(8,.int .i64 s.b)]) (fun s=>SP) (fun s=>HP) (fun s=>[(H.n,⟨78,true,[.int .i64 q,.slice a gs.length c]⟩),(H.n+1,⟨91,true,[.int .i64 0,.int .i64 0,.slice none 0 0]⟩),(HP.n,⟨91,true,[.int .i64 q,.int .i64 1,s.l]⟩)]++s.tail) (fun s=>PrI (portN L) (2 ^ q) s) (fun s=>2 ^ q-s.b) (⟨0,.slice none 0 0,[]⟩) (⟨Nat.zero_le _,.inl ⟨rfl,rfl,rfl⟩⟩) ⟨rfl,rfl,rfl,rfl,rfl,trivial⟩ U U (rfl) (fun s hi bE n=>?_)
  obtain⟨b,l,tail⟩:=s
  have hbq:=hi.le
  have hform:=hi.form
  simp only at hbq hform
  rcases hform with⟨hb0,e1,e2⟩ | ⟨hb0,o,e1,e2⟩
  case' inl=>subst e1 e2
  case' inr=>subst e1 e2
  all_goals
    refine KW.shlI U U U U U U q (wru (by omega) (by omega)) (by omega) ?_
    refine KW.cnd U U (fun k1=>?gin) (fun k1=>?gout)
    case gin=>
      have k1:(b:Int)<((2 ^ q:Nat):Int):=k1
      refine KW.lp U U (fun x:Nat=>[(1,.pointer (some ⟨H.n,0,some 0⟩)),(2,.pointer (some ⟨H.n+1,0,some 1⟩)),(5,.slice aL (nI L).length cL),(7,.pointer (some ⟨HP.n,0,some 2⟩)),(8,.int .i64 b),(9,.int .i64 (mostN L b x:Nat)),(10,.int .i64 x)]) (fun x=>x≤b+1) (fun x=>b+1-x) (0) (Nat.zero_le _) ⟨rfl,rfl,rfl,rfl,rfl,rfl,rfl,trivial⟩ (fun x hi bE n=>?_)
      have hmx:=mostN_le (list:=L) (b:=b) x
      have hmn:=mostN_next (list:=L) (b:=b) (n:=x)
      refine KW.cnd U U (fun k2=>?_) (fun k2=>?_)
      · have k2:(x:Int)≤(b:Int):=k2
        have ea:IntKind.i64.wrap ((BitVec.ofInt IntKind.i64.bits (x:Int) &&& BitVec.ofInt IntKind.i64.bits (b:Int)).toNat:Int)=((x &&& b:Nat):Int):=and_i64 (by omega) (by omega)
        refine KW.tst U U (fun k3=>?_) (fun k3=>?_)
        · have k3:IntKind.i64.wrap ((BitVec.ofInt IntKind.i64.bits (x:Int) &&& BitVec.ofInt IntKind.i64.bits (b:Int)).toNat:Int)=(x:Int):=k3
          rw[ea] at k3
          refine KW.callE U U U U U (l07Within (l:=L) (m:=x) (by omega) (by omega) (fun x hx=>by have:=hLlt x hx;omega) hs1) (fun _ _=>?_)
          refine KW.cndB U U (fun h4=>?_) (fun h4=>?_)
          · have h4:withinB L x=false:=by have h4:(!withinB L x)=true:=h4;simpa using h4
            rw[if_pos ⟨by omega,h4⟩] at hmn
            refine KW.callE U U U U U (l07Count (x:=x) (by omega)) (fun _ _=>?_)
            refine KW.callE U U U U U (l00Max (mostN L b x:Nat) (ones x:Nat)) (fun _ _=>?_)
            refine KW.nxt U U (fun H' g=>⟨x+1,by omega,by first | omega | (simp only;omega),⟨rfl,rfl,rfl,rfl,rfl,congrArg (Value.int .i64) ((max_int _ _).trans (by rw[hmn])),congrArg (Value.int .i64) (inc64 (by omega)),trivial⟩,g⟩)
          · have h4:withinB L x=true:=by have h4:(!withinB L x)=false:=h4;simpa using h4
            rw[if_neg (fun h=>by rw[h4] at h;exact absurd h.2 (by simp))] at hmn
            refine KW.nxt U U (fun H' g=>⟨x+1,by omega,by first | omega | (simp only;omega),⟨rfl,rfl,rfl,rfl,rfl,congrArg (Value.int .i64) (by rw[hmn]),congrArg (Value.int .i64) (inc64 (by omega)),trivial⟩,g⟩)
        · have k3:¬IntKind.i64.wrap ((BitVec.ofInt IntKind.i64.bits (x:Int) &&& BitVec.ofInt IntKind.i64.bits (b:Int)).toNat:Int)=(x:Int):=k3
          rw[ea] at k3
          rw[if_neg (fun h=>k3 (by rw[h.1]))] at hmn
          refine KW.cF U U (by first | (simp;done) | decide) ?_
          refine KW.nxt U U (fun H' g=>⟨x+1,by omega,by first | omega | (simp only;omega),⟨rfl,rfl,rfl,rfl,rfl,congrArg (Value.int .i64) (by rw[hmn]),congrArg (Value.int .i64) (inc64 (by omega)),trivial⟩,g⟩)
      · have k2:¬(x:Int)≤(b:Int):=k2
        obtain rfl:x=b+1:=by omega
        have hpn:=portN_next (list:=L) (n:=b)
        first
          | (refine KW.app0 (v:=.int .i64 (mostN L b (b+1):Nat)) 3 U U U U U U U U U U U U U U U U U U U U U U (by decide) ?_
             subst hb0
             exact KW.nxt U U (fun H' g=>⟨⟨1,_,_⟩,⟨by simp only;omega,.inr ⟨by simp only;omega,_,rfl,rfl⟩⟩,by simp only;omega,⟨rfl,rfl,rfl,rfl,rfl,trivial⟩,g⟩))
          | (refine KW.app1 (xs:=(nI (portN L b)).map (Value.int .i64)) (v:=.int .i64 (mostN L b (b+1):Nat)) 3 4 U U U U U U U U U U U U U U U U U U U U U U U (by rw[List.length_map,nI_len,portN_len]) (by show(b+1)*8≤_;omega) (by omega) ?_
             exact KW.nxt U U (fun H' g=>⟨⟨b+1,_,_⟩,⟨by simp only;omega,.inr ⟨by simp only;omega,_,rfl,by simp only[hpn,nI_snoc,List.map_append];rfl⟩⟩,by simp only;omega,⟨rfl,rfl,rfl,rfl,congrArg (Value.int .i64) (inc64 (by omega)),trivial⟩,g⟩))
    case gout=>
      have k1:¬(b:Int)<((2 ^ q:Nat):Int):=k1
      have hbe:b=2 ^ q:=by omega
      have hp0:=Nat.two_pow_pos q
      first
        | omega
        | (refine KW.retM1 U U U U (fun H1 g=>.inr ⟨h2,_,rfl,?_⟩)
           have hb:=g.blk (j:=3) rfl
           have hge:=g.ge (H1:=H) (j:=3) rfl
           have el:(nI (portR q L)).length=b:=by rw[nI_len,portR,List.length_map,List.length_range,hbe]
           have ep:portN L b=portR q L:=by rw[hbe];rfl
           refine⟨some ⟨o,0,some 1⟩,b,by rw[el];rfl,?_⟩
           rw[el]
           have hml:=int_ml (S:=New H.n H1.n) (ys:=nI (portR q L)) (c:=b) ⟨hge,hb.2⟩ hb.1 rfl (by show(nI (portN L b)).map _=_;rw[ep]) (by rw[el];exact Nat.le_refl _)
           rw[el] at hml
           exact hml)
end
structure DwE (H:AH) (id:Nat) (S:Ids) (A:AH):Prop where
 sid:S id
 old:∀i,Low H.n i∧i≠id→S i∧A.m i=H.m i
theorem DwE.w {H:AH} {id:Nat} {S S':Ids} {A A':AH} (e:DwE H id S A) (st:StW (fun i=>i=id) S A S' A'):DwE H id S' A':=
 ⟨(st id e.sid).1,fun i hi=>⟨(st i (e.old i hi).1).1,((st i (e.old i hi).1).2 hi.2).trans (e.old i hi).2⟩⟩
theorem DwE.s {H:AH} {id:Nat} {S S':Ids} {A A':AH} (e:DwE H id S A) (st:St S A S' A'):DwE H id S' A':=
 ⟨(st id e.sid).1,fun i hi=>⟨(st i (e.old i hi).1).1,(st i (e.old i hi).1).2.trans (e.old i hi).2⟩⟩
theorem DwE.kb {H:AH} {id:Nat} {S:Ids} {A:AH} {s:Value} {xs:List Int} (e:DwE H id S A) (h:KB.Sl (fun i=>Low H.n i∧i≠id) H s xs):KB.Sl (fun i=>S i∧i≠id) A s xs:=h.stX (fun i hi=>⟨⟨(e.old i hi).1,hi.2⟩,(e.old i hi).2⟩)
theorem Src.mv {ac:Option Addr} {n cc id at_:Nat} {A A':AH} (h:Src ac n cc A id at_) (e:A'.m id=A.m id):Src ac n cc A' id at_:=by
 obtain⟨sd,h⟩:=h
 exact⟨sd,e.trans h⟩
theorem DwE.nle {H:AH} {id n:Nat} {S:Ids} {A:AH} (e:DwE H id S A) (h:∀i,S i→i<n):H.n≤n:=by
 rcases Nat.lt_or_ge n H.n with h1 | h1
 ·by_cases e1:n=id
  ·have:=h id e.sid;omega
  ·have:=h n (e.old n ⟨h1,e1⟩).1;omega
 ·exact h1
structure DwS where
 i:Nat
 S:Ids
 A:AH
 at_:Nat
 V:Ids
 G:List (List Int)
 cs:List Value
 o:Nat
structure DwI (q a0:Nat) (H:AH) (id:Nat) (ac:Option Addr) (n cc:Nat) (s:DwS):Prop where
 env:DwE H id s.S s.A
 src:Src ac n cc s.A id s.at_
 at1:s.at_≤a0+20*s.G.length
 lo:1≤s.G.length+s.i
 hi:s.G.length+s.i≤4
 b:RowsB KI.ml s.S s.A s.V s.G s.cs
 v:∀i,s.V i→H.n≤i
 ok:∀g∈s.G,Rises 0 ((q:Int)-1) g∧g≠[]
structure DiS where
 h:Nat
 S:Ids
 A:AH
 at_:Nat
 xs:List Int
 o:Nat
structure DiI (a0:Nat) (H:AH) (id:Nat) (ac:Option Addr) (n cc:Nat) (V:Ids) (G:List (List Int)) (cs:List Value) (s:DiS):Prop where
 env:DwE H id s.S s.A
 src:Src ac n cc s.A id s.at_
 at1:s.at_≤a0+2*s.h
 b:RowsB KI.ml s.S s.A V G cs
 ok:Rises 0 ((s.h:Int)-1) s.xs
 len:s.xs.length≤s.h
section
variable {S:Ids} {H0:AH}
theorem l07Draw {bs:List Int} (hb:∀x∈bs,0≤x∧x<256) (hl:bs.length≤1048576) {ac:Option Addr} {cc id at_:Nat} {Y:Ids} {most:Nat} (hm1:1≤most) (hm5:most≤5) (hat:at_≤800000) (hS:S id) (hY:∀i,Y i→S i∧i≠id) (hsrc:Src ac bs.length cc H0 id at_) (hs:KB.Sl Y H0 (.slice ac bs.length cc) bs):
  SpecW Try.prog S H0 (fun i=>i=id) 98 [.pointer (some ⟨id,0,none⟩),.int .i64 most] (fun n v H1=>∃(q:Nat) (gs:List (List Int)) (at':Nat),1≤q∧q≤most∧codeF q gs=0∧at'≤at_+200∧MkFam q gs n v H1∧Src ac bs.length cc H1 id at'):=by
 refine SpecW.of0 Try.func98 rfl (by kernel_rfl) rfl (fun H hfin hfz=>?_)
 have fx:∀i,S i→Low H.n i∧H.m i=H0.m i:=fun i hi=>hfz i hi
 have hid:id<H.n:=(fx id hS).1
 have hsH:=hs.stX (S':=fun i=>Low H.n i∧i≠id) (H':=H) (fun i hi=>⟨⟨(fx i (hY i hi).1).1,(hY i hi).2⟩,(fx i (hY i hi).1).2⟩)
 have E0:DwE H id (Low H.n) H:=⟨hid,fun i hi=>⟨hi.1,rfl⟩⟩
 refine KW.callW (W:=fun i=>i=id) (fun i hi=>by subst hi;exact E0.sid) U U U U U (srcPick (S:=Low H.n) (H0:=H) hb hl (n:=(most:Int)) (by omega) (by omega) E0.sid (fun i hi=>hi) (hsrc.mv (fx id hS).2) (E0.kb hsH)) (fun v H1 S1 hn1 st1 hw1 hp=>?_)
 obtain⟨z1,a1,hz1,l1,u1,rfl,src1⟩:=hp
 have hz1:=hz1 (by omega)
 have E1:=E0.w st1
 obtain⟨q,hq⟩:∃q,q=z1+1:=⟨_,rfl⟩
 have eq1:IntKind.i64.wrap (1+(z1:Int))=(q:Int):=by rw[wr (by omega) (by omega)];omega
 refine KW.lit U U U U U U U U U U [] U U (fun v hv=>by simp at hv) rfl ?_
 refine KW.callW (W:=fun i=>i=id) (fun i hi=>by subst hi;exact E1.sid) U U U U U (srcPick (S:=S1) (H0:=H1) hb hl (n:=4) (by omega) (by omega) E1.sid (fun i hi=>hi) src1 (E1.kb hsH)) (fun v H2 S2 hn2 st2 hw2 hp=>?_)
 obtain⟨z2,a2,hz2,l2,u2,rfl,src2⟩:=hp
 have hz2:=hz2 (by omega)
 have E2:=E1.w st2
 have eq2:IntKind.i64.wrap (1+(z2:Int))=((z2+1:Nat):Int):=by rw[wr (by omega) (by omega)];omega
 refine KW.lpM U U (fun s:DwS=>[(0,.pointer (some ⟨id,0,none⟩)),(4,.pointer (some ⟨H.n,0,some 0⟩)),(5,.int .i64 q),(6,.slice (some ⟨s.o,0,some 1⟩) s.G.length s.G.length),(7,.int .i64 s.i)]) (fun s=>s.S) (fun s=>s.A) (fun s=>[(H.n,⟨78,true,[.int .i64 0,.slice none 0 0]⟩),(s.o,⟨_,true,s.cs⟩)]) (fun s=>DwI q (at_+4) H id ac bs.length cc s) (fun s=>s.i) (⟨z2+1,S2,H2,a2,fun _=>False,[],[],_⟩) (⟨E2,src2,by simp only[List.length_nil];omega,by simp only[List.length_nil];omega,by simp only[List.length_nil];omega,RowsB.nil _ _,fun _ h=>h.elim,fun g hg=>by simp at hg⟩) ⟨rfl,rfl,congrArg (Value.int .i64) eq1,rfl,congrArg (Value.int .i64) eq2,trivial⟩ U U (rfl) (fun s hi bE n=>?_)
 obtain⟨i,S3,A3,a3,V,G,cs,o⟩:=s
 obtain⟨E3,src3,at3,lo3,hi3,b3,v3,ok3⟩:=hi
 simp only at E3 src3 at3 lo3 hi3 b3 v3 ok3
 have hcl:=b3.len
 refine KW.ids (fun hlow hvar=>?_)
 have hnn:=E3.nle hlow
 refine KW.cnd U U (fun k1=>?_) (fun k1=>?_)
 ·have k1:(i:Int)>0:=k1
  obtain⟨i',rfl⟩:∃i',i=i'+1:=⟨i-1,by omega⟩
  have ei':IntKind.i64.wrap (((i'+1:Nat):Int)-1)=(i':Int):=by rw[wr (by omega) (by omega)];omega
  refine KW.lit U U U U U U U U U U [] U U (fun v hv=>by simp at hv) rfl ?_
  refine KW.lpM U U (fun s:DiS=>[(0,.pointer (some ⟨id,0,none⟩)),(4,.pointer (some ⟨H.n,0,some 0⟩)),(5,.int .i64 q),(6,.slice (some ⟨o,0,some 1⟩) G.length G.length),(7,.int .i64 (i'+1:Nat)),(8,.slice (some ⟨s.o,0,some 1⟩) s.xs.length s.xs.length),(9,.int .i64 s.h)]) (fun s=>s.S) (fun s=>s.A) (fun s=>[(H.n,⟨78,true,[.int .i64 0,.slice none 0 0]⟩),(o,⟨_,true,cs⟩),(s.o,⟨_,true,s.xs.map (Value.int .i64)⟩)]) (fun s=>s.h≤q∧DiI a3 H id ac bs.length cc V G cs s) (fun s=>q-s.h) (⟨0,S3,A3,a3,[],_⟩) (⟨Nat.zero_le _,E3,src3,by simp only;omega,b3,fun i hi=>by simp at hi,by simp⟩) ⟨rfl,rfl,rfl,rfl,rfl,rfl,rfl,trivial⟩ U U (rfl) (fun s hi bE n=>?_)
  obtain⟨h,S4,A4,a4,xs,o4⟩:=s
  obtain⟨hq4,E4,src4,at4,b4,ok4,len4⟩:=hi
  simp only at hq4 E4 src4 at4 b4 ok4 len4
  have vne:∀i,V i→i≠id:=fun i hi e=>by have:=v3 i hi;omega
  refine KW.cnd U U (fun k2=>?_) (fun k2=>?_)
  ·have k2:(h:Int)<(q:Int):=k2
   refine KW.callW (W:=fun i=>i=id) (fun i hi=>by subst hi;exact E4.sid) U U U U U (srcOne (S:=S4) (H0:=A4) hb hl (n:=2) (by omega) (by omega) E4.sid (fun i hi=>hi) src4 (E4.kb hsH)) (fun v H5 S5 hn5 st5 hw5 hp=>?_)
   obtain⟨b,a5,l5,u5,rfl,src5⟩:=hp
   have b5:=b4.mv (S':=S5) (A':=H5) (fun i hi=>⟨(st5 i (b4.sub i hi)).1,(st5 i (b4.sub i hi)).2 (vne i hi)⟩)
   refine KW.cndB U U (fun k3=>?_) (fun k3=>?_)
   ·refine KW.app1 (xs:=xs.map (Value.int .i64)) (v:=.int .i64 h) 2 3 U U U U U U U U U U U U U U U U U U U U U U U (by simp) (by show(xs.length+1)*8≤_;omega) (by show xs.length+1≤_;omega) ?_
    exact KW.nxt U U (fun H' g=>⟨⟨h+1,S5,H5,a5,xs++[(h:Int)],_⟩,⟨by simp only;omega,E4.w st5,src5,by simp only;omega,b5,by simp only;rw[show(((h+1:Nat):Int)-1)=(h:Int) by omega];exact rises_snoc ok4,by simp only[List.length_append,List.length_singleton];omega⟩,by simp only;omega,⟨rfl,rfl,rfl,rfl,rfl,by simp only[List.length_append,List.length_singleton];rfl,congrArg (Value.int .i64) (inc64 (by omega)),trivial⟩,g.eqT (by simp only[List.map_append];rfl)⟩)
   ·exact KW.nxt U U (fun H' g=>⟨⟨h+1,S5,H5,a5,xs,o4⟩,⟨by simp only;omega,E4.w st5,src5,by simp only;omega,b5,rises_weak (by simp only;omega) ok4,by simp only;omega⟩,by simp only;omega,⟨rfl,rfl,rfl,rfl,rfl,rfl,congrArg (Value.int .i64) (inc64 (by omega)),trivial⟩,g⟩)
  ·have k2:¬(h:Int)<(q:Int):=k2
   obtain rfl:h=q:=by omega
   refine KW.cnd U U (fun k4=>?gem) (fun k4=>?gne)
   case gem=>
    have k4:(xs.length:Int)=0:=k4
    obtain rfl:xs=[]:=List.eq_nil_of_length_eq_zero (by omega)
    refine KW.callW (W:=fun i=>i=id) (fun i hi=>by subst hi;exact E4.sid) U U U U U (srcPick (S:=S4) (H0:=A4) hb hl (n:=(h:Int)) (by omega) (by omega) E4.sid (fun i hi=>hi) src4 (E4.kb hsH)) (fun v H5 S5 hn5 st5 hw5 hp=>?_)
    obtain⟨z5,a5,hz5,l5,u5,rfl,src5⟩:=hp
    have hz5:=hz5 (by omega)
    have b5:=b4.mv (S':=S5) (A':=H5) (fun i hi=>⟨(st5 i (b4.sub i hi)).1,(st5 i (b4.sub i hi)).2 (vne i hi)⟩)
    have E5:=E4.w st5
    have okz:Rises 0 ((h:Int)-1) [(z5:Int)]:=fun i hi=>by
     obtain rfl:i=0:=by simp at hi;omega
     exact⟨⟨by show 0≤(z5:Int);omega,by show(z5:Int)≤_;omega⟩,fun h0=>by omega⟩
    refine KW.app1 (xs:=([]:List Int).map (Value.int .i64)) (v:=.int .i64 z5) 2 3 U U U U U U U U U U U U U U U U U U U U U U U (by simp) (by show(0+1)*8≤_;omega) (by show 0+1≤_;omega) ?_
    refine KW.ids (fun hlow5 hvar5=>?_)
    have hnn5:=(E5).nle hlow5
    refine KW.freeze 2 rfl (fun A6 S6 hn6 hS6 st6 hm6 ho6 hnS6 hlow6=>?_)
    have o6ge:∀i,S6 i∧¬S5 i→H.n≤i:=fun i hi=>by
     rcases Nat.lt_or_ge i H.n with hh | hh
     ·by_cases e:i=id
      ·exact(hi.2 (e ▸ (E5).sid)).elim
      ·exact(hi.2 ((E5).old i ⟨hh,e⟩).1).elim
     ·exact hh
    have fI:=((b5).mv (S':=S6) (A':=A6) (fun i hi=>st6.st i ((b5).sub i hi))).snoc (ml1' (row_ml (xs:=[(z5:Int)]) hm6)) (fun i hi=>(hS6 i).2 (.inr hi)) (fun i p r=>hnS6 (r ▸ (b5).sub i p))
    refine KW.app1 (xs:=cs) (v:=.slice (some ⟨_,0,some 1⟩) ([(z5:Int)]).length ([(z5:Int)]).length) 1 2 U U U U U U U U U U U U U U U U U U U U U U U (by omega) (by show(_+1)*24≤_;omega) (by omega) ?_
    exact KW.nxt U U (fun H' g=>⟨⟨i',S6,A6,a5,_,G++[[(z5:Int)]],_,_⟩,⟨(E5).s st6.st,(src5).mv (st6.st id (E5).sid).2,by simp only[List.length_append,List.length_singleton];omega,by simp only[List.length_append,List.length_singleton];omega,by simp only[List.length_append,List.length_singleton];omega,fI,fun i hi=>hi.elim (v3 i) (fun e=>o6ge i ⟨(hS6 i).2 (.inr e),fun hx=>hnS6 (e ▸ hx)⟩),fun g hg=>by
     rcases List.mem_append.1 hg with hg | hg
     ·exact ok3 g hg
     ·rw[List.mem_singleton.1 hg];exact⟨okz,(by simp)⟩⟩,by simp only;omega,⟨rfl,rfl,rfl,by simp only[List.length_append,List.length_singleton];rfl,congrArg (Value.int .i64) ei',trivial⟩,g⟩)
   case gne=>
    have k4:¬(xs.length:Int)=0:=k4
    refine KW.ids (fun hlow5 hvar5=>?_)
    have hnn5:=(E4).nle hlow5
    refine KW.freeze 2 rfl (fun A6 S6 hn6 hS6 st6 hm6 ho6 hnS6 hlow6=>?_)
    have o6ge:∀i,S6 i∧¬S4 i→H.n≤i:=fun i hi=>by
     rcases Nat.lt_or_ge i H.n with hh | hh
     ·by_cases e:i=id
      ·exact(hi.2 (e ▸ (E4).sid)).elim
      ·exact(hi.2 ((E4).old i ⟨hh,e⟩).1).elim
     ·exact hh
    have fI:=((b4).mv (S':=S6) (A':=A6) (fun i hi=>st6.st i ((b4).sub i hi))).snoc (ml1' (row_ml (xs:=xs) hm6)) (fun i hi=>(hS6 i).2 (.inr hi)) (fun i p r=>hnS6 (r ▸ (b4).sub i p))
    refine KW.app1 (xs:=cs) (v:=.slice (some ⟨_,0,some 1⟩) (xs).length (xs).length) 1 2 U U U U U U U U U U U U U U U U U U U U U U U (by omega) (by show(_+1)*24≤_;omega) (by omega) ?_
    exact KW.nxt U U (fun H' g=>⟨⟨i',S6,A6,a4,_,G++[xs],_,_⟩,⟨(E4).s st6.st,(src4).mv (st6.st id (E4).sid).2,by simp only[List.length_append,List.length_singleton];omega,by simp only[List.length_append,List.length_singleton];omega,by simp only[List.length_append,List.length_singleton];omega,fI,fun i hi=>hi.elim (v3 i) (fun e=>o6ge i ⟨(hS6 i).2 (.inr e),fun hx=>hnS6 (e ▸ hx)⟩),fun g hg=>by
     rcases List.mem_append.1 hg with hg | hg
     ·exact ok3 g hg
     ·rw[List.mem_singleton.1 hg];exact⟨ok4,(fun e=>k4 (by rw[e];rfl))⟩⟩,by simp only;omega,⟨rfl,rfl,rfl,by simp only[List.length_append,List.length_singleton];rfl,congrArg (Value.int .i64) ei',trivial⟩,g⟩)
 ·have k1:¬(i:Int)>0:=k1
  obtain rfl:i=0:=by omega
  refine KW.callW (W:=fun i=>i=id) (fun i hi=>by subst hi;exact E3.sid) U U U U U (srcOne (S:=S3) (H0:=A3) hb hl (n:=4) (by omega) (by omega) E3.sid (fun i hi=>hi) src3 (E3.kb hsH)) (fun v H5 S5 hn5 st5 hw5 hp=>?_)
  obtain⟨b,a5,l5,u5,rfl,src5⟩:=hp
  have E5:=E3.w st5
  have b5:=b3.mv (S':=S5) (A':=H5) (fun i hi=>⟨(st5 i (b3.sub i hi)).1,(st5 i (b3.sub i hi)).2 (fun e=>by have:=v3 i hi;omega)⟩)
  refine KW.cndB U U (fun k3=>?_) (fun k3=>?_)
  ·refine KW.callW (W:=fun i=>i=id) (fun i hi=>by subst hi;exact E5.sid) U U U U U (srcPick (S:=S5) (H0:=H5) hb hl (n:=(q:Int)) (by omega) (by omega) E5.sid (fun i hi=>hi) src5 (E5.kb hsH)) (fun v H6 S6 hn6 st6 hw6 hp=>?_)
   obtain⟨z6,a6,hz6,l6,u6,rfl,src6⟩:=hp
   have hz6:=hz6 (by omega)
   have E6:=E5.w st6
   have e6:IntKind.i64.wrap (1+(z6:Int))=((z6+1:Nat):Int):=by rw[wr (by omega) (by omega)];omega
   refine KW.callN1 U U U U U (by show SpecM _ _ _ _ [_,.int .i64 (IntKind.i64.wrap _)] _;rw[e6];exact thresholdS (q:=q) (by omega) (by omega) (least:=((z6+1:Nat):Int)) (by omega) (by omega)) (fun v HF SF mF tF wF hv=>?_)
   obtain⟨cs5,rfl,hF⟩:=hv
   have E7:=(E6).s tF.st
   have src7:=(src6).mv (tF.st id (E6).sid).2
   obtain⟨b7,d7,X7,rfl,hml,hX⟩:=splitM_Family hF
   refine KW.retW U U U U (fun H9 g=>by have:=g.n_;omega) (fun i hi hw=>E7.old i ⟨hi,hw⟩) (fun H9 g=>⟨q,_,a6,by omega,by omega,th_ok (by omega) (by omega) (by omega) (by omega),by omega,⟨_,_,rfl,?_⟩,src7.mv (g.froz id E7.sid).2⟩)
   exact((ml1 hml).same (fun i hi=>(g.froz i (wF.st i (hX i hi)).1).2)).more (fun i hi=>⟨by have:=(hX i hi).1;omega,by have:=(hX i hi).2;have:=g.n_;omega⟩)
  ·refine KW.callNV1 U U U U U (fun H1 g _=>familyOfS (S:=Low H1.n) (H0:=H1) (q:=q) (gs:=G) (by omega) (by omega) (by omega) (fun x hx=>(ok3 x hx).1) ((b5.ml (X:=Low H1.n) rfl g (j:=1) rfl (g.blk (j:=1) rfl).2 (fun i hi=>by have h1:=(g.froz i (b5.sub i hi)).1;have h2:=g.n_;show i<H1.n;omega)).to (KLe.row (KLe.refl KI)))) (fun v HF SF mF tF wF hv=>?_)
   obtain⟨cs5,rfl,hF⟩:=hv
   have E7:=(E5).s tF.st
   have src7:=(src5).mv (tF.st id (E5).sid).2
   obtain⟨b7,d7,X7,rfl,hml,hX⟩:=splitM_Family hF
   refine KW.retW U U U U (fun H9 g=>by have:=g.n_;omega) (fun i hi hw=>E7.old i ⟨hi,hw⟩) (fun H9 g=>⟨q,_,a5,by omega,by omega,drawn_ok (by omega) (by omega) ok3 (fun e=>by rw[e] at lo3;simp at lo3),by omega,⟨_,_,rfl,?_⟩,src7.mv (g.froz id E7.sid).2⟩)
   exact((ml1 hml).same (fun i hi=>(g.froz i (wF.st i (hX i hi)).1).2)).more (fun i hi=>⟨by have:=(hX i hi).1;omega,by have:=(hX i hi).2;have:=g.n_;omega⟩)
end
theorem built_RanksW (p:Int) {x u:Int} (h:x=u):Try.prog.built 91 [(0,.int .i64 p),(1,.int .i64 x)]=some #[.int .i64 p,.int .i64 u,.slice none 0 0]:=by subst h;exact built_RanksU _ _
def covN (ts ws:List Nat) (b:Nat):Nat→Nat
  | 0=>0
  | i+1=>covN ts ws b i+(if ts.getD i 0 &&& b=0 then 0 else ws.getD i 0)
def covL (ts ws:List Nat) (n:Nat):List Nat:=(List.range n).map fun b=>covN ts ws b ts.length
theorem covL_next {ts ws:List Nat} {n:Nat}:covL ts ws (n+1)=covL ts ws n++[covN ts ws n ts.length]:=by
  unfold covL
  rw[List.range_succ,List.map_append];rfl
theorem covL_len {ts ws:List Nat} {n:Nat}:(covL ts ws n).length=n:=by simp[covL]
theorem getD_small {l:List Nat} {m:Nat} (h:∀x∈l,x≤m) (i:Nat):l.getD i 0≤m:=by
  rw[List.getD_eq_getElem?_getD]
  cases hi:l[i]? with
  | none=>exact Nat.zero_le _
  | some x=>exact h x (List.mem_of_getElem? hi)
theorem covN_le {ts ws:List Nat} {b:Nat} (h:∀x∈ws,x≤3):∀i,covN ts ws b i≤3*i
  | 0=>by simp[covN]
  | i+1=>by
    have ih:=covN_le (ts:=ts) (b:=b) h i
    have h1:=getD_small h i
    simp only[covN]
    split<;>omega
theorem covN_mono {ts ws:List Nat} {a b:Nat} (hab:a &&& b=a):∀i,covN ts ws a i≤covN ts ws b i
  | 0=>by simp[covN]
  | i+1=>by
    have ih:=covN_mono (ts:=ts) (ws:=ws) hab i
    simp only[covN]
    by_cases h1:ts.getD i 0 &&& b=0
    · have h2:ts.getD i 0 &&& a=0:=by rw[← hab,Nat.and_comm a b,← Nat.and_assoc,h1,Nat.zero_and]
      rw[if_pos h1,if_pos h2];omega
    · rw[if_neg h1]
      split<;>omega
theorem and_or_zero {t a b:Nat}:t &&& (a ||| b)=0↔t &&& a=0∧t &&& b=0:=by
  rw[Nat.and_or_distrib_left]
  constructor
  · intro h
    have h1:=Nat.left_le_or (n:=t &&& a) (m:=t &&& b)
    have h2:=Nat.right_le_or (n:=t &&& a) (m:=t &&& b)
    omega
  · intro h;rw[h.1,h.2];rfl
theorem covN_sub {ts ws:List Nat} {a b:Nat}:∀i,covN ts ws (a ||| b) i+covN ts ws (a &&& b) i≤covN ts ws a i+covN ts ws b i
  | 0=>by simp[covN]
  | i+1=>by
    have ih:=covN_sub (ts:=ts) (ws:=ws) (a:=a) (b:=b) i
    simp only[covN]
    obtain⟨t,ht⟩:∃t,ts.getD i 0=t:=⟨_,rfl⟩
    rw[ht]
    have ha:t &&& a=0→t &&& (a &&& b)=0:=fun h=>by rw[← Nat.and_assoc,h,Nat.zero_and]
    have hb:t &&& b=0→t &&& (a &&& b)=0:=fun h=>by rw[Nat.and_comm a b,← Nat.and_assoc,h,Nat.zero_and]
    by_cases h1:t &&& a=0
    · by_cases h2:t &&& b=0
      · rw[if_pos h1,if_pos h2,if_pos (and_or_zero.2 ⟨h1,h2⟩),if_pos (ha h1)];omega
      · rw[if_pos h1,if_neg h2,if_neg (fun h=>h2 (and_or_zero.1 h).2),if_pos (ha h1)];omega
    · by_cases h2:t &&& b=0
      · rw[if_neg h1,if_pos h2,if_neg (fun h=>h1 (and_or_zero.1 h).1),if_pos (hb h2)];omega
      · rw[if_neg h1,if_neg h2,if_neg (fun h=>h1 (and_or_zero.1 h).1)]
        split<;>omega
theorem covN_nil {ts ws:List Nat}:∀i,covN ts ws 0 i=0
  | 0=>rfl
  | i+1=>by simp only[covN,covN_nil i,Nat.and_zero,if_true]
theorem nI_getD {l:List Nat} {i:Nat}:(nI l).getD i 0=(l.getD i 0:Nat):=by
  unfold nI
  rw[List.getD_eq_getElem?_getD,List.getD_eq_getElem?_getD,List.getElem?_map]
  cases l[i]?<;>rfl
theorem okR_of {q u:Nat} (hq1:1≤q) (hq:q≤5) (hu:1≤u∧u≤100000) {R:List Nat} (hl:R.length=2 ^ q) (h0:R.getD 0 0=0) (hw:∀x∈R,x≤100000) (hm:∀a b,a<2 ^ q→b<2 ^ q→a &&& b=a→R.getD a 0≤R.getD b 0) (hs:∀a b,a<2 ^ q→b<2 ^ q→R.getD (a ||| b) 0+R.getD (a &&& b) 0≤R.getD a 0+R.getD b 0):OkR q u (nI R):=by
  refine⟨⟨by omega,by omega⟩,⟨by omega,by omega⟩,by rw[nI_len,hl,Int.toNat_natCast],by rw[nI_getD,h0];rfl,fun i _=>?_,fun a ha b hb hbad=>?_⟩
  · rw[nI_getD]
    have:=getD_small hw i
    omega
  · rw[nI_len,hl] at ha hb
    unfold Bad at hbad
    rw[nI_getD,nI_getD,nI_getD,nI_getD] at hbad
    rcases hbad with⟨h1,h2⟩ | h2
    · have:=hm a b ha hb h1;omega
    · have:=hs a b ha hb;omega
theorem covL_at {ts ws:List Nat} {n b:Nat} (hb:b<n):(covL ts ws n).getD b 0=covN ts ws b ts.length:=by
  unfold covL
  rw[List.getD_eq_getElem?_getD,List.getElem?_map,List.getElem?_range hb];rfl
theorem covL_ok {q u:Nat} (hq1:1≤q) (hq:q≤5) (hu:1≤u∧u≤100000) {ts ws:List Nat} (hw:∀x∈ws,x≤3) (hl:ts.length≤6):OkR q u (nI (covL ts ws (2 ^ q))):=by
  have hp:=Nat.two_pow_pos q
  refine okR_of hq1 hq hu covL_len (by rw[covL_at hp];exact covN_nil _) (fun x hx=>?_) (fun a b ha hb hab=>?_) (fun a b ha hb=>?_)
  · obtain⟨b,_,rfl⟩:=List.mem_map.1 hx
    have:=covN_le (ts:=ts) (b:=b) hw ts.length
    omega
  · rw[covL_at ha,covL_at hb];exact covN_mono hab _
  · rw[covL_at ha,covL_at hb,covL_at (Nat.or_lt_two_pow ha hb),covL_at (Nat.lt_of_le_of_lt Nat.and_le_left ha)];exact covN_sub _
structure SzS where
  i:Nat
  S:Ids
  A:AH
  at_:Nat
  ts:List Nat
  ws:List Nat
  o1:Nat
  o2:Nat
structure SzI (q a0:Nat) (H:AH) (id:Nat) (ac:Option Addr) (n cc:Nat) (s:SzS):Prop where
  env:DwE H id s.S s.A
  src:Src ac n cc s.A id s.at_
  at1:s.at_≤a0+4*s.ts.length
  hi:s.ts.length+s.i≤6
  eq:s.ws.length=s.ts.length
  t:∀x∈s.ts,x<2 ^ q
  w:∀x∈s.ws,x≤3
section
variable {S:Ids} {H0:AH}
theorem l07Sized {q:Nat} (hq1:1≤q) (hq:q≤5) {bs:List Int} (hb:∀x∈bs,0≤x∧x<256) (hl:bs.length≤1048576) {ac:Option Addr} {cc id at_:Nat} {Y:Ids} (hat:at_≤800000) (hS:S id) (hY:∀i,Y i→S i∧i≠id) (hsrc:Src ac bs.length cc H0 id at_) (hs:KB.Sl Y H0 (.slice ac bs.length cc) bs):
    SpecW Try.prog S H0 (fun i=>i=id) 185 [.pointer (some ⟨id,0,none⟩),.int .i64 q] (fun n v H1=>∃(u at':Nat) (ts ws:List Nat),(1≤u∧u≤3)∧ts.length≤6∧(∀x∈ws,x≤3)∧at'≤at_+100∧MkRk q u (covL ts ws (2 ^ q)) n v H1∧Src ac bs.length cc H1 id at'):=by
  have hq32:2 ^ q≤32:=Nat.pow_le_pow_right (by decide) (show q≤5 by omega)
  have hp0:=Nat.two_pow_pos q
  refine SpecW.of0 Try.func185 rfl (by kernel_rfl) rfl (fun H hfin hfz=>?_)
  have fx:∀i,S i→Low H.n i∧H.m i=H0.m i:=fun i hi=>hfz i hi
  have hid:id<H.n:=(fx id hS).1
  have hsH:=hs.stX (S':=fun i=>Low H.n i∧i≠id) (H':=H) (fun i hi=>⟨⟨(fx i (hY i hi).1).1,(hY i hi).2⟩,(fx i (hY i hi).1).2⟩)
  have E0:DwE H id (Low H.n) H:=⟨hid,fun i hi=>⟨hi.1,rfl⟩⟩
  refine KW.callW (W:=fun i=>i=id) (fun i hi=>by subst hi;exact E0.sid) U U U U U (srcPick (S:=Low H.n) (H0:=H) hb hl (n:=3) (by omega) (by omega) E0.sid (fun i hi=>hi) (hsrc.mv (fx id hS).2) (E0.kb hsH)) (fun v H1 S1 hn1 st1 hw1 hp=>?_)
  obtain⟨z1,a1,hz1,l1,u1,rfl,src1⟩:=hp
  have hz1:=hz1 (by omega)
  have E1:=E0.w st1
  have eu:IntKind.i64.wrap (1+(z1:Int))=((z1+1:Nat):Int):=by rw[wr (by omega) (by omega)];omega
  refine KW.build U U U U U (built_RanksW _ eu) ?_
  refine KW.lit U U U U U U U U U U [] U U (fun v hv=>by simp at hv) rfl ?_
  refine KW.lit U U U U U U U U U U [] U U (fun v hv=>by simp at hv) rfl ?_
  refine KW.callW (W:=fun i=>i=id) (fun i hi=>by subst hi;exact E1.sid) U U U U U (srcPick (S:=S1) (H0:=H1) hb hl (n:=6) (by omega) (by omega) E1.sid (fun i hi=>hi) src1 (E1.kb hsH)) (fun v H2 S2 hn2 st2 hw2 hp=>?_)
  obtain⟨z2,a2,hz2,l2,u2,rfl,src2⟩:=hp
  have hz2:=hz2 (by omega)
  have E2:=E1.w st2
  have e2:IntKind.i64.wrap (1+(z2:Int))=((z2+1:Nat):Int):=by rw[wr (by omega) (by omega)];omega
  refine KW.lpM U U (fun s:SzS=>[(0,.pointer (some ⟨id,0,none⟩)),(1,.int .i64 q),(4,.pointer (some ⟨H.n,0,some 0⟩)),(5,.pointer (some ⟨H1.n,0,some 1⟩)),(6,.slice (some ⟨s.o1,0,some 1⟩) s.ts.length s.ts.length),(7,.slice (some ⟨s.o2,0,some 1⟩) s.ws.length s.ws.length),(8,.int .i64 s.i)]) (fun s=>s.S) (fun s=>s.A) (fun s=>[(H.n,⟨91,true,[.int .i64 0,.int .i64 0,.slice none 0 0]⟩),(H1.n,⟨91,true,[.int .i64 q,.int .i64 (z1+1:Nat),.slice none 0 0]⟩),(s.o1,⟨_,true,(nI s.ts).map (Value.int .i64)⟩),(s.o2,⟨_,true,(nI s.ws).map (Value.int .i64)⟩)]) (fun s=>SzI q (at_+4) H id ac bs.length cc s) (fun s=>s.i) (⟨z2+1,S2,H2,a2,[],[],_,_⟩) (⟨E2,src2,by simp only[List.length_nil];omega,by simp only[List.length_nil];omega,rfl,fun x hx=>by simp at hx,fun x hx=>by simp at hx⟩) ⟨rfl,rfl,rfl,rfl,rfl,rfl,congrArg (Value.int .i64) e2,trivial⟩ U U (rfl) (fun s hi bE n=>?_)
  obtain⟨i,S3,A3,a3,ts,ws,o1,o2⟩:=s
  obtain⟨E3,src3,at3,hi3,eq3,ht3,hw3⟩:=hi
  simp only at E3 src3 at3 hi3 eq3 ht3 hw3
  refine KW.cnd U U (fun k1=>?gin) (fun k1=>?gout)
  case gin=>
    have k1:(i:Int)>0:=k1
    obtain⟨i',rfl⟩:∃i',i=i'+1:=⟨i-1,by omega⟩
    have ei':IntKind.i64.wrap (((i'+1:Nat):Int)-1)=(i':Int):=by rw[wr (by omega) (by omega)];omega
    refine KW.shlI U U U U U U q (wru (by omega) (by omega)) (by omega) ?_
    refine KW.callW (W:=fun i=>i=id) (fun i hi=>by subst hi;exact E3.sid) U U U U U (srcPick (S:=S3) (H0:=A3) hb hl (n:=((2 ^ q:Nat):Int)) (by omega) (by omega) E3.sid (fun i hi=>hi) src3 (E3.kb hsH)) (fun v H4 S4 hn4 st4 hw4 hp=>?_)
    obtain⟨z4,a4,hz4,l4,u4,rfl,src4⟩:=hp
    have hz4:=hz4 (by omega)
    have E4:=E3.w st4
    refine KW.app1 (xs:=(nI ts).map (Value.int .i64)) (v:=.int .i64 z4) 2 4 U U U U U U U U U U U U U U U U U U U U U U U (by simp[nI]) (by show(ts.length+1)*8≤_;omega) (by show ts.length+1≤_;omega) ?_
    refine KW.callW (W:=fun i=>i=id) (fun i hi=>by subst hi;exact E4.sid) U U U U U (srcPick (S:=S4) (H0:=H4) hb hl (n:=3) (by omega) (by omega) E4.sid (fun i hi=>hi) src4 (E4.kb hsH)) (fun v H5 S5 hn5 st5 hw5 hp=>?_)
    obtain⟨z5,a5,hz5,l5,u5,rfl,src5⟩:=hp
    have hz5:=hz5 (by omega)
    have E5:=E4.w st5
    have e5:IntKind.i64.wrap (1+(z5:Int))=((z5+1:Nat):Int):=by rw[wr (by omega) (by omega)];omega
    refine KW.app1 (xs:=(nI ws).map (Value.int .i64)) (v:=.int .i64 (IntKind.i64.wrap (1+(z5:Int)))) 3 4 U U U U U U U U U U U U U U U U U U U U U U U (by simp[nI]) (by show(ws.length+1)*8≤_;omega) (by show ws.length+1≤_;omega) ?_
    exact KW.nxt U U (fun H' g=>⟨⟨i',S5,H5,a5,ts++[z4],ws++[z5+1],_,_⟩,⟨E5,src5,by simp only[List.length_append,List.length_singleton];omega,by simp only[List.length_append,List.length_singleton];omega,by simp only[List.length_append,List.length_singleton];omega,fun x hx=>(List.mem_append.1 hx).elim (ht3 x) (fun hx=>by rw[List.mem_singleton.1 hx];omega),fun x hx=>(List.mem_append.1 hx).elim (hw3 x) (fun hx=>by rw[List.mem_singleton.1 hx];omega)⟩,by simp only;omega,⟨rfl,rfl,rfl,rfl,by simp only[List.length_append,List.length_singleton];rfl,by simp only[List.length_append,List.length_singleton];rfl,congrArg (Value.int .i64) ei',trivial⟩,g.eqT (by simp only[nI_snoc,List.map_append,e5];rfl)⟩)
  case gout=>
    have k1:¬(i:Int)>0:=k1
    obtain rfl:i=0:=by omega
    refine KW.freeze 3 rfl (fun A6 S6 hn6 hS6 st6 hm6 ho6 hnS6 hlow6=>?_)
    refine KW.freeze 2 rfl (fun A7 S7 hn7 hS7 st7 hm7 ho7 hnS7 hlow7=>?_)
    have hmw:A7.m o2=some ⟨2,true,(nI ws).map (Value.int .i64)⟩:=((st7.st o2 ((hS6 o2).2 (.inr rfl))).2).trans hm6
    have hsW:KI.Sl S7 A7 (.slice (some ⟨o2,0,some 1⟩) (nI ws).length (nI ws).length) (nI ws):=(int_ml (S:=S7) (st7.st o2 ((hS6 o2).2 (.inr rfl))).1 hmw U U (Nat.le_refl _)).sl
    have hsT:KI.Sl S7 A7 (.slice (some ⟨o1,0,some 1⟩) (nI ts).length (nI ts).length) (nI ts):=(int_ml (S:=S7) ((hS7 o1).2 (.inr rfl)) hm7 U U (Nat.le_refl _)).sl
    have E7:=(E3.s st6.st).s st7.st
    have src7:Src ac bs.length cc A7 id a3:=(src3.mv (st6.st id E3.sid).2).mv (st7.st id (E3.s st6.st).sid).2
    have tl:(nI ts).length=ts.length:=nI_len
    have wl:(nI ws).length=ws.length:=nI_len
    have rd:∀(l:List Nat) (i:Nat) z,i<l.length→(nI l)[i]?=some z→z=(l.getD i 0:Nat):=fun l i z hi hz=>by
      obtain⟨y,h1,h2⟩:=nI_at hz
      rw[List.getD_eq_getElem?_getD,h1];exact h2
    refine KW.lpM U U (fun s:PrS=>[(0,.pointer (some ⟨id,0,none⟩)),(1,.int .i64 q),(4,.pointer (some ⟨H.n,0,some 0⟩)),(5,.pointer (some ⟨H1.n,0,some 1⟩)),(6,.slice (some ⟨o1,0,some 1⟩) (nI ts).length (nI ts).length),(7,.slice (some ⟨o2,0,some 1⟩) (nI ws).length (nI ws).length),(9,.int .i64 s.b)]) (fun s=>S7) (fun s=>A7) (fun s=>[(H.n,⟨91,true,[.int .i64 0,.int .i64 0,.slice none 0 0]⟩),(H1.n,⟨91,true,[.int .i64 q,.int .i64 (z1+1:Nat),s.l]⟩)]++s.tail) (fun s=>PrI (covL ts ws) (2 ^ q) s) (fun s=>2 ^ q-s.b) (⟨0,.slice none 0 0,[]⟩) (⟨Nat.zero_le _,.inl ⟨rfl,rfl,rfl⟩⟩) ⟨rfl,rfl,rfl,rfl,by rw[tl];rfl,by rw[wl];rfl,rfl,trivial⟩ U U (rfl) (fun s hi bE n=>?_)
    obtain⟨b,l,tail⟩:=s
    have hbq:=hi.le
    have hform:=hi.form
    simp only at hbq hform
    rcases hform with⟨hb0,e1,e2⟩ | ⟨hb0,o,e1,e2⟩
    case' inl=>subst e1 e2
    case' inr=>subst e1 e2
    all_goals
      refine KW.shlI U U U U U U q (wru (by omega) (by omega)) (by omega) ?_
      refine KW.cnd U U (fun k1=>?gin) (fun k1=>?gout)
      case gin=>
        have k1:(b:Int)<((2 ^ q:Nat):Int):=k1
        refine KW.lp U U (fun x:Nat=>[(0,.pointer (some ⟨id,0,none⟩)),(1,.int .i64 q),(4,.pointer (some ⟨H.n,0,some 0⟩)),(5,.pointer (some ⟨H1.n,0,some 1⟩)),(6,.slice (some ⟨o1,0,some 1⟩) (nI ts).length (nI ts).length),(7,.slice (some ⟨o2,0,some 1⟩) (nI ws).length (nI ws).length),(9,.int .i64 b),(10,.int .i64 (covN ts ws b x:Nat)),(11,.int .i64 x)]) (fun x=>x≤ts.length) (fun x=>ts.length-x) (0) (Nat.zero_le _) ⟨rfl,rfl,rfl,rfl,rfl,rfl,rfl,rfl,rfl,trivial⟩ (fun x hi bE n=>?_)
        have hcx:=covN_le (ts:=ts) (b:=b) hw3 x
        have hcn:covN ts ws b (x+1)=covN ts ws b x+(if ts.getD x 0 &&& b=0 then 0 else ws.getD x 0):=rfl
        refine KW.cnd U U (fun k2=>?_) (fun k2=>?_)
        · have k2:(x:Int)<(nI ts).length:=k2
          refine KW.getI hsT U U U U U U U U U U U U U U U U (by omega) (by omega) (fun z8 hz8=>?_)
          obtain rfl:=rd ts x z8 (by omega) hz8
          have htx:ts.getD x 0<2 ^ q:=by
            rw[List.getD_eq_getElem?_getD,List.getElem?_eq_getElem (by omega)]
            exact ht3 _ (List.getElem_mem _)
          have hwx:=getD_small hw3 x
          have ea:IntKind.i64.wrap ((BitVec.ofInt IntKind.i64.bits ((ts.getD x 0:Nat):Int) &&& BitVec.ofInt IntKind.i64.bits (b:Int)).toNat:Int)=((ts.getD x 0 &&& b:Nat):Int):=and_i64 (by omega) (by omega)
          refine KW.cndB U U (fun k3=>?_) (fun k3=>?_)
          · have k3:(!(IntKind.i64.wrap ((BitVec.ofInt IntKind.i64.bits ((ts.getD x 0:Nat):Int) &&& BitVec.ofInt IntKind.i64.bits (b:Int)).toNat:Int)==0))=true:=k3
            rw[ea] at k3
            have k4:¬ts.getD x 0 &&& b=0:=fun h=>by rw[h] at k3;simp at k3
            rw[if_neg k4] at hcn
            refine KW.getI hsW U U U U U U U U U U U U U U U U (by omega) (by omega) (fun z9 hz9=>?_)
            obtain rfl:=rd ws x z9 (by omega) hz9
            refine KW.nxt U U (fun H' g=>⟨x+1,by omega,by first | omega | (simp only;omega),⟨rfl,rfl,rfl,rfl,rfl,rfl,rfl,congrArg (Value.int .i64) (by rw[wr (by omega) (by omega),hcn];omega),congrArg (Value.int .i64) (inc64 (by omega)),trivial⟩,g⟩)
          · have k3:(!(IntKind.i64.wrap ((BitVec.ofInt IntKind.i64.bits ((ts.getD x 0:Nat):Int) &&& BitVec.ofInt IntKind.i64.bits (b:Int)).toNat:Int)==0))=false:=k3
            rw[ea] at k3
            have k4:ts.getD x 0 &&& b=0:=by
              have k5:(((ts.getD x 0 &&& b:Nat):Int)==0)=true:=by simpa using k3
              have k6:=eq_of_beq k5
              omega
            rw[if_pos k4] at hcn
            refine KW.nxt U U (fun H' g=>⟨x+1,by omega,by first | omega | (simp only;omega),⟨rfl,rfl,rfl,rfl,rfl,rfl,rfl,congrArg (Value.int .i64) (by rw[hcn];omega),congrArg (Value.int .i64) (inc64 (by omega)),trivial⟩,g⟩)
        · have k2:¬(x:Int)<(nI ts).length:=k2
          obtain rfl:x=ts.length:=by omega
          have hpn:=covL_next (ts:=ts) (ws:=ws) (n:=b)
          first
            | (refine KW.app0 (v:=.int .i64 (covN ts ws b ts.length:Nat)) 2 U U U U U U U U U U U U U U U U U U U U U U (by decide) ?_
               subst hb0
               exact KW.nxt U U (fun H' g=>⟨⟨1,_,_⟩,⟨by simp only;omega,.inr ⟨by simp only;omega,_,rfl,rfl⟩⟩,by simp only;omega,⟨rfl,rfl,rfl,rfl,rfl,rfl,rfl,trivial⟩,g⟩))
            | (refine KW.app1 (xs:=(nI (covL ts ws b)).map (Value.int .i64)) (v:=.int .i64 (covN ts ws b ts.length:Nat)) 2 3 U U U U U U U U U U U U U U U U U U U U U U U (by rw[List.length_map,nI_len,covL_len]) (by show(b+1)*8≤_;omega) (by omega) ?_
               exact KW.nxt U U (fun H' g=>⟨⟨b+1,_,_⟩,⟨by simp only;omega,.inr ⟨by simp only;omega,_,rfl,by simp only[hpn,nI_snoc,List.map_append];rfl⟩⟩,by simp only;omega,⟨rfl,rfl,rfl,rfl,rfl,rfl,congrArg (Value.int .i64) (inc64 (by omega)),trivial⟩,g⟩))
      case gout=>
        have k1:¬(b:Int)<((2 ^ q:Nat):Int):=k1
        have hbe:b=2 ^ q:=by omega
        first
          | omega
          | (refine KW.ids (fun hlow9 hvar9=>?_)
             have hnn9:=E7.nle hlow9
             have oge:H.n≤o:=by
               have h2:=(hvar9 2 o _ rfl).2
               refine Nat.le_of_not_lt fun hh=>?_
               by_cases e:o=id
               · exact h2 (e ▸ E7.sid)
               · exact h2 (E7.old o ⟨hh,e⟩).1
             refine KW.retW U U U U (fun H9 g=>by have:=g.n_;omega) (fun i hi hw=>E7.old i ⟨hi,hw⟩) (fun H9 g=>⟨z1+1,a3,ts,ws,by omega,by omega,hw3,by omega,?_,src7.mv (g.froz id E7.sid).2⟩)
             have hb:=g.blk (j:=2) rfl
             have el:(nI (covL ts ws (2 ^ q))).length=b:=by rw[nI_len,covL_len,hbe]
             refine⟨some ⟨o,0,some 1⟩,b,by rw[el];rfl,?_⟩
             rw[el]
             have hml:=int_ml (S:=New H.n H9.n) (ys:=nI (covL ts ws (2 ^ q))) (c:=b) ⟨oge,hb.2⟩ hb.1 rfl (by show(nI (covL ts ws b)).map _=_;rw[hbe]) (by rw[el];exact Nat.le_refl _)
             rw[el] at hml
             exact hml)
end
end Go.Proofs.Ytlapbbffoapleaa.Am
namespace Go.Proofs.Ytlapbbffoapleaa.Am
open Go Go.RowKit Go.Proofs
section
variable {P:Program} {S:Ids} {H0:AH} {Q:PostC} {k k1:List It} {e e1:Env} {T T1:List Var} {n n1:Nat} {l1 r1:List Nat} {d1:Tmp}
end
section
variable {P:Program} {S:Ids} {H0:AH} {Q:PostC} {k k1:List It} {e e1:Env} {T T1:List Var} {n n1:Nat} {l1 r1:List Nat} {d1:Tmp}
end
end Go.Proofs.Ytlapbbffoapleaa.Am
namespace Go.Proofs.Ytlapbbffoapleaa.Am
open Go Go.RowKit
def Ap (S:Ids) (T:List Var) (e:Env) (j:Nat) (u:Tmp):Prop:=(∃i b id k s,e u=.pointer (some ⟨id,k,s⟩)∧T[i]?=some (id,b)∧i≠j)∨∃id k s,e u=.pointer (some ⟨id,k,s⟩)∧S id
def AllL (S:Ids) (T:List Var) (e:Env) (j:Nat):List Tmp→Prop
 | []=>True
 | u :: L=>Ap S T e j u∧AllL S T e j L
section
variable {P:Program} {S:Ids} {H0:AH} {Q:PostC} {k k1 k2:List It} {e e1 e2:Env} {T T1 T2:List Var} {n n1 n2:Nat} {l1 r1 l2 r2:List Nat} {d1 d2:Tmp}
theorem AllL.out {L:List Tmp} {j:Nat} {H H1:AH} {v0:Var} (g:Good S H0 T n H) (hj:T[j]?=some v0∨j=T.length) (hL:AllL S T e j L) (hH:∀id,id<n→(∀v,T[j]?=some v→id≠v.1)→H1.m id=H.m id):∀t∈L,∀id k s,e t=.pointer (some ⟨id,k,s⟩)→H1.m id=H.m id:=by
 induction L with
 | nil=>intro t ht;cases ht
 | cons u L ih=>
  intro t ht id k s he
  rcases List.mem_cons.1 ht with rfl | ht
  ·rcases hL.1 with⟨i,b,id',k',s',h1,h2,h3⟩ | ⟨id',k',s',h1,h2⟩
   ·rw[h1] at he
    cases he
    exact hH id (g.vars i _ h2).2.1 (fun v hv heq=>h3 (g.dist i j _ v h2 hv heq))
   ·rw[h1] at he
    cases he
    exact hH id (g.froz id h2).1 (fun v hv heq=>(g.vars j v hv).2.2 (heq ▸ h2))
  ·exact ih hL.2 t ht id k s he
end
end Go.Proofs.Ytlapbbffoapleaa.Am
namespace Go.Proofs.Ytlapbbffoapleaa.Am
open Go Go.RowKit Go.Proofs
section
variable {P:Program} {S:Ids} {H0:AH} {Q:PostC} {k k1:List It} {e e1:Env} {T T1:List Var} {n n1:Nat} {l1 r1:List Nat} {d1:Tmp}
end
theorem bload_has {P:Program} {b:Blk} {t:TypeId} {k:Nat} {fs:Array Field} {inf:TypeInfo} {ps:List Value} (hu:P.underlying t=some (.struct fs)) (hi:P.info? t=some inf) (hs:inf.size=ps.length) (h0:0<ps.length) (hc:∀i v,ps[i]?=some v→b.cells[k+i]?=some v):bload P b t k=some (.agg ps.toArray):=by
 unfold bload
 simp only[hu,hi,hs]
 have hlen:k+ps.length≤b.cells.length:=by
  have h1:=hc (ps.length-1) _ (List.getElem?_eq_getElem (show ps.length-1<ps.length by omega))
  have:=(List.getElem?_eq_some_iff.1 h1).1
  omega
 rw[if_pos hlen]
 have e:(b.cells.drop k).take ps.length=ps:=by
  refine List.ext_getElem? fun i=>?_
  rw[List.getElem?_take]
  split
  ·rename_i h
   rw[List.getElem?_drop,hc i _ (List.getElem?_eq_getElem h),List.getElem?_eq_getElem h]
  ·rename_i h
   rw[List.getElem?_eq_none (by omega)]
 rw[e]
section
variable {P:Program} {S:Ids} {H0:AH} {Q:PostC} {k k1:List It} {e e1:Env} {T T1:List Var} {n n1:Nat} {l1 r1:List Nat} {d1:Tmp}
theorem KW.ldFs {o:Oper} {dr:Bool} {t:TypeId} {x:Operand} {id kk k0:Nat} {vs:List Value} {sp:Option Nat} {fs:Array Field} {inf:TypeInfo} (i:Nat) (ps:List Value) (hv:Has3 S H0 id k0 vs) (h:Go1 P k e T n (.op o dr) k1 e1 T1 n1 l1 r1) (hlr:l1=r1) (ho:o.op=.load t x) (hd:o.dst=some d1) (hx:ev e1 x=.pointer (some ⟨id,kk,sp⟩)) (hk0:kk=k0+i) (hi:(vs.drop i).take ps.length=ps)
  (hu:P.underlying t=some (.struct fs)) (hif:P.info? t=some inf) (hs:inf.size=ps.length) (h0:0<ps.length) (hk:KW P S H0 Q n1 T1 k1 (put1 e1 d1 (.agg ps.toArray))):KW P S H0 Q n T k e:=by
 obtain⟨hS,b,hm,hc⟩:=hv
 refine KW.ldP hS hm h hlr ho hd hx (bload_has hu hif hs h0 (fun j v hj=>?_)) hk
 rw[hk0,Nat.add_assoc]
 refine hc (i+j) v ?_
 have hj2:((vs.drop i).take ps.length)[j]?=some v:=by rw[hi];exact hj
 rw[List.getElem?_take] at hj2
 split at hj2
 ·rw[List.getElem?_drop] at hj2;exact hj2
 ·cases hj2
end
end Go.Proofs.Ytlapbbffoapleaa.Am
namespace Go.Proofs.Ytlapbbffoapleaa.Am
open Go Go.RowKit Go.Proofs Go.Proofs.Ytlapbbffoapleaa.Pl
def hasN (B:List Nat) (b i:Nat):Nat:=((B.take i).map fun g=>ones (g &&& b)).sum
def whoN (B:List Nat) (b i:Nat):Nat:=((B.take i).filter fun g=>(g &&& b)==g).length
theorem hasN_next {B:List Nat} {b i g:Nat} (h:B[i]?=some g):hasN B b (i+1)=hasN B b i+ones (g &&& b):=by
 unfold hasN;rw[take_snoc h];simp
theorem whoN_next {B:List Nat} {b i g:Nat} (h:B[i]?=some g):whoN B b (i+1)=if g &&& b=g then whoN B b i+1 else whoN B b i:=by
 unfold whoN
 rw[take_snoc h,List.filter_append]
 by_cases h1:g &&& b=g
 ·rw[if_pos h1];simp[h1]
 ·rw[if_neg h1];simp[h1]
theorem hasN_le {B:List Nat} {b:Nat}:∀i,hasN B b i≤7*i
 | 0=>by simp[hasN]
 | i+1=>by
  have ih:=hasN_le (B:=B) (b:=b) i
  cases h:B[i]? with
  | none=>
   have e:hasN B b (i+1)=hasN B b i:=by
    have:=List.getElem?_eq_none_iff.1 h
    unfold hasN;rw[List.take_of_length_le (by omega),List.take_of_length_le (by omega)]
   omega
  | some g=>rw[hasN_next h];have:=ones_le (g &&& b);omega
theorem who_has {B:List Nat} {b:Nat} (h0:∀x∈B,x≠0∧x<128):∀i,whoN B b i≤hasN B b i
 | 0=>by simp[whoN]
 | i+1=>by
  have ih:=who_has (b:=b) h0 i
  cases h:B[i]? with
  | none=>
   have hl:=List.getElem?_eq_none_iff.1 h
   have e:hasN B b (i+1)=hasN B b i:=by unfold hasN;rw[List.take_of_length_le (by omega),List.take_of_length_le (by omega)]
   have e2:whoN B b (i+1)=whoN B b i:=by unfold whoN;rw[List.take_of_length_le (by omega),List.take_of_length_le (by omega)]
   omega
  | some g=>
   rw[hasN_next h,whoN_next h]
   have hg:=h0 g (List.mem_of_getElem? h)
   split
   ·rename_i h1
    have:=ones_pos g hg.2 (by omega)
    rw[h1];omega
   ·omega
theorem sumR1_eq {B:List Nat} {b:Nat}:sumR1 B b=hasN B b B.length-(whoN B b B.length-1):=by unfold sumR1 hasN whoN;rw[List.take_length]
def sgmL (B:List Nat) (n:Nat):List Nat:=(List.range n).map (sumR1 B)
theorem sgmL_next {B:List Nat} {n:Nat}:sgmL B (n+1)=sgmL B n++[sumR1 B n]:=by unfold sgmL;rw[List.range_succ,List.map_append];rfl
theorem sgmL_len {B:List Nat} {n:Nat}:(sgmL B n).length=n:=by simp[sgmL]
section
variable {S:Ids} {H0:AH}
theorem l00MinL {a b:Int} (h:a≤b):Spec Try.prog S H0 184 [.int .i64 a,.int .i64 b] (fun v=>v=.int .i64 a):=by
 refine Spec.of1 Try.func184 rfl (by kernel_rfl) rfl (fun H _=>?_)
 refine KW.cnd U U (fun k=>?_) (fun k=>?_)
 ·exact KW.ret U U U U (rfl)
 ·have k:¬a<b:=k
  obtain rfl:a=b:=by omega
  exact KW.ret U U U U (rfl)
theorem l00MaxR {a b:Int} (h:a≤b):Spec Try.prog S H0 183 [.int .i64 a,.int .i64 b] (fun v=>v=.int .i64 b):=by
 refine Spec.of1 Try.func183 rfl (by kernel_rfl) rfl (fun H _=>?_)
 refine KW.cnd U U (fun k=>?_) (fun k=>?_)
 ·have k:a>b:=k
  omega
 ·exact KW.ret U U U U (rfl)
theorem l07CountZ {x:Nat} {z:Int} (hz:z=x) (hx:x<128):Spec Try.prog S H0 126 [.int .i64 z] (fun v=>v=.int .i64 (ones x)):=by subst hz;exact l07Count hx
theorem kr_w {id n0:Nat} {S S':Ids} {A A':AH} {v:Value} {xs:List Int} (hid:id<n0) (h:KI.Ml (fun i=>S i∧n0≤i) A v xs) (st:StW (fun i=>i=id) S A S' A'):KI.Ml (fun i=>S' i∧n0≤i) A' v xs:=(h.same (fun i hi=>(st i hi.1).2 (fun e=>by have h1:i=id:=e;have:=hi.2;omega))).more (fun i hi=>⟨(st i hi.1).1,hi.2⟩)
theorem kr_s {n0:Nat} {S S':Ids} {A A':AH} {v:Value} {xs:List Int} (h:KI.Ml (fun i=>S i∧n0≤i) A v xs) (st:St S A S' A'):KI.Ml (fun i=>S' i∧n0≤i) A' v xs:=(h.same (fun i hi=>(st i hi.1).2)).more (fun i hi=>⟨(st i hi.1).1,hi.2⟩)
theorem kr_end {n0 n:Nat} {S:Ids} {A H9:AH} {T:List Var} {v:Value} {xs:List Int} (g:Good S A T n H9) (h:KI.Ml (fun i=>S i∧n0≤i) A v xs):KI.Ml (New n0 H9.n) H9 v xs:=(h.same (fun i hi=>(g.froz i hi.1).2)).more (fun i hi=>⟨hi.2,by have:=(g.froz i hi.1).1;have:=g.n_;omega⟩)
def MkOk (q:Nat) (n:Nat) (v:Value) (H1:AH):Prop:=∃(u:Nat) (R:List Nat),OkR q u (nI R)∧MkRk q u R n v H1
theorem l07For {q:Nat} (hq1:1≤q) (hq:q≤5) {bs:List Int} (hb:∀x∈bs,0≤x∧x<256) (hl:bs.length≤1048576) {ac:Option Addr} {cc id at_:Nat} {Y:Ids} (hat:at_≤700000) (hS:S id) (hY:∀i,Y i→S i∧i≠id) (hsrc:Src ac bs.length cc H0 id at_) (hs:KB.Sl Y H0 (.slice ac bs.length cc) bs)
  {idf:Nat} {ty:TypeId} {rw_:Bool} {a c} {gs:List (List Int)} (hB:B_Int64SS gs) (hgl:gs.length≤30) (hx:∀g∈gs,∀z∈g,0≤z∧z<(q:Int)) (hcode:codeF q gs=0) (h0:∀x∈nums gs,x≠0)
  (hsum:OkR q 1 (nI (sumR q (nums gs)))) (hport:portB q (cirL q (nums gs)) (cirOk q (nums gs))=true→OkR q 1 (nI (portR q (cirL q (nums gs)))))
  (hf:S idf∧idf≠id) (hfm:H0.m idf=some ⟨ty,rw_,[.int .i64 q,.slice a gs.length c]⟩) (hg:KI.sl.Sl (fun i=>S i∧i≠id) H0 (.slice a gs.length c) gs):
  SpecW Try.prog S H0 (fun i=>i=id) 127 [.pointer (some ⟨id,0,none⟩),.pointer (some ⟨idf,0,none⟩)] (fun n v H1=>MkOk q n v H1):=by
 have hq32:2 ^ q≤32:=Nat.pow_le_pow_right (by decide) (show q≤5 by omega)
 have hp0:=Nat.two_pow_pos q
 refine SpecW.of0 Try.func127 rfl (by kernel_rfl) rfl (fun H hfin hfz=>?_)
 have fx:∀i,S i→Low H.n i∧H.m i=H0.m i:=fun i hi=>hfz i hi
 have hid:id<H.n:=(fx id hS).1
 have hsH:=hs.stX (S':=fun i=>Low H.n i∧i≠id) (H':=H) (fun i hi=>⟨⟨(fx i (hY i hi).1).1,(hY i hi).2⟩,(fx i (hY i hi).1).2⟩)
 have hgH:=hg.stX (S':=fun i=>Low H.n i∧i≠id) (H':=H) (fun i hi=>⟨⟨(fx i hi.1).1,hi.2⟩,(fx i hi.1).2⟩)
 have hfH:(Low H.n idf∧idf≠id)∧H.m idf=some ⟨ty,rw_,[.int .i64 q,.slice a gs.length c]⟩:=⟨⟨(fx idf hf.1).1,hf.2⟩,(fx idf hf.1).2.trans hfm⟩
 have E0:DwE H id (Low H.n) H:=⟨hid,fun i hi=>⟨hi.1,rfl⟩⟩
 have ef:∀{S':Ids} {A':AH},DwE H id S' A'→S' idf∧A'.m idf=some ⟨ty,rw_,[.int .i64 q,.slice a gs.length c]⟩:=fun E=>⟨(E.old idf hfH.1).1,(E.old idf hfH.1).2.trans hfH.2⟩
 have ev3:∀{S':Ids} {A':AH},DwE H id S' A'→Has3 S' A' idf 0 [.int .i64 q,.slice a gs.length c]:=fun E=>⟨(ef E).1,_,(ef E).2,fun i v h=>by rw[Nat.zero_add];exact h⟩
 have eg:∀{S':Ids} {A':AH},DwE H id S' A'→KI.sl.Sl S' A' (.slice a gs.length c) gs:=fun E=>hgH.stX (fun i hi=>E.old i hi)
 have eB:numsI gs=nI (nums gs):=by simp[nI,nums]
 have hBq:∀x∈nums gs,x<2 ^ q:=fun x hx'=>by
  obtain⟨g,hg,rfl⟩:=List.mem_map.1 hx'
  exact bitsOf_lt (fun z hz=>by have:=hx g hg z hz;omega)
 have hBl:(nums gs).length≤30:=by simpa using hgl
 obtain⟨B,hBe⟩:∃B,nums gs=B:=⟨_,rfl⟩
 rw[hBe] at eB
 refine KW.ldF 0 ((ev3 E0)) U U U U U U U U U ?_
 refine KW.callE U U U U U (l00MinL (show(q:Int)≤5 by omega)) (fun _ _=>?_)
 refine KW.callE U U U U U (l00MaxR (show(1:Int)≤q by omega)) (fun _ _=>?_)
 refine KW.callW (W:=fun i=>i=id) (fun i hi=>by subst hi;exact E0.sid) U U U U U (l07Sized (S:=Low H.n) (H0:=H) hq1 hq hb hl (by omega) E0.sid (fun i hi=>hi) (hsrc.mv (fx id hS).2) (E0.kb hsH)) (fun v H1 S1 hn1 st1 hw1 hp=>?_)
 obtain⟨u,a1,ts,ws,hu,htl,hws,l1,⟨aR,cR,rfl,hmR⟩,src1⟩:=hp
 have E1:=E0.w st1
 have okC:OkR q u (nI (covL ts ws (2 ^ q))):=covL_ok hq1 hq (by omega) hws htl
 refine KW.callE U U U U U (l07Family q hB (ef E1).1 (ef E1).2 (eg E1)) (fun _ _=>?_)
 rw[hcode]
 refine KW.tF U U (by first | (simp;done) | decide) ?_
 have kr1:KI.Ml (fun i=>S1 i∧H.n≤i) H1 (.slice aR (nI (covL ts ws (2 ^ q))).length cR) (nI (covL ts ws (2 ^ q))):=hmR.more (fun i hi=>⟨hw1 i hi,by have:=hi.1;omega⟩)
 refine KW.callW (W:=fun i=>i=id) (fun i hi=>by subst hi;exact E1.sid) U U U U U (srcOne (S:=S1) (H0:=H1) hb hl (n:=3) (by omega) (by omega) E1.sid (fun i hi=>hi) src1 (E1.kb hsH)) (fun v H2 S2 hn2 st2 hw2 hp=>?_)
 obtain⟨b2,a2,l2,u2,rfl,src2⟩:=hp
 have E2:=E1.w st2
 have kr2:KI.Ml (fun i=>S2 i∧H.n≤i) H2 (.slice aR (nI (covL ts ws (2 ^ q))).length cR) (nI (covL ts ws (2 ^ q))):=kr_w hid kr1 st2
 refine KW.cndB U U (fun k2=>?_) (fun k2=>?_)
 ·refine KW.ids (fun hlow hvar=>?_)
  have hnn:=E2.nle hlow
  exact KW.retW U U U U (fun H9 g=>by have:=g.n_;omega) (fun i hi hw=>E2.old i ⟨hi,hw⟩) (fun H9 g=>⟨u,_,okC,aR,cR,rfl,kr_end g kr2⟩)
 refine KW.ldFs 0 [.int .i64 q,.slice a gs.length c] ((ev3 E2)) U U U U U U U U U U (Nat.succ_pos _) ?_
 refine KW.callN1 U U U U U (specPortRanks hq1 hq hB hgl hx hcode (eg E2)) (fun v HP SP mP tP wP hp=>?_)
 have E9:=E2.s tP.st
 have kr9:=kr_s kr2 tP.st
 have src9:=src2.mv (tP.st id E2.sid).2
 have hnH:H.n≤H2.n:=by
  refine Nat.le_of_not_lt fun hh=>?_
  have:=hn2;have:=hn1
  omega
 obtain⟨h9,u9,a9,l9,c9,cd,rfl,hcd⟩:∃(h9 u9:Int) (a9:Option Addr) (l9 c9:Nat) (cd:Int),v=.tuple #[.agg #[.int .i64 h9,.int .i64 u9,.slice a9 l9 c9],.int .i64 cd]∧(cd=8∨(cd=0∧portB q (cirL q (nums gs)) (cirOk q (nums gs))=true∧h9=q∧u9=1∧l9=(nI (portR q (cirL q (nums gs)))).length∧KI.Ml (fun i=>SP i∧H.n≤i) HP (.slice a9 l9 c9) (nI (portR q (cirL q (nums gs)))))):=by
  rcases hp with⟨_,h2⟩ | ⟨h1,v',h2,a9,c9,h3,h4⟩
  ·exact⟨0,0,none,0,0,8,h2,.inl rfl⟩
  ·subst h3
   exact⟨q,1,a9,_,c9,0,h2,.inr ⟨rfl,h1,rfl,rfl,rfl,h4.more (fun i hi=>⟨(wP.st i hi).1,by have:=hi.1;omega⟩)⟩⟩
 refine KW.tst U U (fun k3=>?ga) (fun k3=>?gb)
 case' ga=>
  have k3:cd=0:=k3
  refine KW.callW (W:=fun i=>i=id) (fun i hi=>by subst hi;exact E9.sid) U U U U U (srcOne (S:=SP) (H0:=HP) hb hl (n:=2) (by omega) (by omega) E9.sid (fun i hi=>hi) src9 (E9.kb hsH)) (fun v H4 S4 hn4 st4 hw4 hp=>?_)
  obtain⟨b4,a4,l4,u4,rfl,src4⟩:=hp
  refine KW.cndB U U (fun k4=>?gr) (fun k4=>?gc)
  case gr=>
   rcases hcd with h8 | ⟨_,h1,rfl,rfl,rfl,h2⟩
   ·omega
   have kp:=kr_w hid h2 st4
   have E4:=E9.w st4
   refine KW.ids (fun hlow hvar=>?_)
   have hnn:=E4.nle hlow
   exact KW.retW U U U U (fun H9 g=>by have:=g.n_;omega) (fun i hi hw=>E4.old i ⟨hi,hw⟩) (fun H9 g=>⟨1,_,hport h1,a9,c9,rfl,kr_end g kp⟩)
  replace kr9:=kr_w hid kr9 st4
  replace E9:=E9.w st4
  clear src9 hcd wP hp tP mP
 case' gb=>
  refine KW.cF U U (by first | (simp;done) | decide) ?_
 all_goals
  refine KW.ldF 1 ((ev3 E9)) U U U U U U U U U ?_
  refine KW.callN1 U U U U U (l07Numbers (q:=q) (by omega) hB hx (eg E9)) (fun v HN SN mN tN wN hp=>?_)
  obtain⟨aB,cB,rfl,hBm⟩:=hp
  replace E9:=E9.s tN.st
  replace kr9:=kr_s kr9 tN.st
  have hBs:=hBm.sl.more (fun id hid=>(wN.st id hid).1)
  rw[eB] at hBs ⊢
  refine KW.lit U U U U U U U U U U [] U U (fun v hv=>by simp at hv) rfl ?_
  refine KW.lpM U U (fun s:Nat × Nat=>[(4,.pointer (some ⟨H.n,0,some 0⟩)),(5,.int .i64 q),(6,.pointer (some ⟨H1.n,0,some 1⟩)),(9,.slice aB (nI B).length cB),(10,.int .i64 s.1)]) (fun s=>SN) (fun s=>HN) (fun s=>[(H.n,⟨91,true,[.int .i64 0,.int .i64 0,.slice none 0 0]⟩),(H1.n,⟨91,true,[.int .i64 q,.int .i64 1,.slice (some ⟨s.2,0,some 1⟩) s.1 s.1]⟩),(_,⟨91,true,[.int .i64 h9,.int .i64 u9,.slice a9 l9 c9]⟩),(s.2,⟨_,true,(nI (sgmL B s.1)).map (Value.int .i64)⟩)]) (fun s=>s.1≤2 ^ q) (fun s=>2 ^ q-s.1) ((0,_)) (Nat.zero_le _) ⟨rfl,rfl,rfl,rfl,rfl,trivial⟩ U U (rfl) (fun s hi bE n=>?_)
  obtain⟨b,o⟩:=s
  simp only at hi
  have hpn:=sgmL_next (B:=B) (n:=b)
  have hpl:=sgmL_len (B:=B) (n:=b)
  rw[hBe] at hBq hBl h0 hsum
  have hBe2:(nI B).length=B.length:=nI_len
  have rd:∀(i:Nat) x z,B[i]?=some x→(nI B)[i]?=some z→z=x:=fun i x z hx hz=>by
   obtain⟨y,h1,h2⟩:=nI_at hz
   rw[hx] at h1;cases h1;exact h2
  refine KW.shlI U U U U U U q (wru (by omega) (by omega)) (by omega) ?_
  refine KW.cnd U U (fun k5=>?gin) (fun k5=>?gout)
  case gin=>
   have k5:(b:Int)<((2 ^ q:Nat):Int):=k5
   refine KW.lp U U (fun x:Nat=>[(4,.pointer (some ⟨H.n,0,some 0⟩)),(5,.int .i64 q),(6,.pointer (some ⟨H1.n,0,some 1⟩)),(9,.slice aB (nI B).length cB),(10,.int .i64 b),(11,.int .i64 (hasN B b x:Nat)),(12,.int .i64 (whoN B b x:Nat)),(13,.int .i64 x)]) (fun x=>x≤B.length) (fun x=>B.length-x) (0) (Nat.zero_le _) ⟨rfl,rfl,rfl,rfl,rfl,rfl,rfl,rfl,trivial⟩ (fun x hi bE n=>?_)
   have hcx:=hasN_le (B:=B) (b:=b) x
   have hwx:=who_has (B:=B) (b:=b) (fun y hy=>⟨h0 y hy,by have:=hBq y hy;omega⟩) x
   refine KW.cnd U U (fun k6=>?gin2) (fun k6=>?gout2)
   case gin2=>
    have k6:(x:Int)<(nI B).length:=k6
    obtain⟨y,hy⟩:∃y,B[x]?=some y:=⟨_,List.getElem?_eq_getElem (by omega)⟩
    have hyq:=hBq y (List.mem_of_getElem? hy)
    have hhn:=hasN_next (b:=b) hy
    have hwn:=whoN_next (b:=b) hy
    have ea:IntKind.i64.wrap ((BitVec.ofInt IntKind.i64.bits (y:Int) &&& BitVec.ofInt IntKind.i64.bits (b:Int)).toNat:Int)=((y &&& b:Nat):Int):=and_i64 (by omega) (by omega)
    have hyb:y &&& b≤y:=Nat.and_le_left
    have hoy:=ones_le (y &&& b)
    refine KW.getI hBs U U U U U U U U U U U U U U U U (by omega) (by omega) (fun z1 hz1=>?_)
    obtain rfl:=rd x y z1 hy hz1
    refine KW.callE U U U U U (l07CountZ (x:=y &&& b) ea (by omega)) (fun _ _=>?_)
    refine KW.getI hBs U U U U U U U U U U U U U U U U (by omega) (by omega) (fun z2 hz2=>?_)
    obtain rfl:=rd x y z2 hy hz2
    refine KW.getI hBs U U U U U U U U U U U U U U U U (by omega) (by omega) (fun z3 hz3=>?_)
    obtain rfl:=rd x y z3 hy hz3
    have eh:IntKind.i64.wrap ((hasN B b x:Nat)+(ones (y &&& b):Nat):Int)=(hasN B b (x+1):Nat):=by rw[wr (by omega) (by omega),hhn];omega
    refine KW.cnd U U (fun k7=>?_) (fun k7=>?_)
    ·have k7:IntKind.i64.wrap ((BitVec.ofInt IntKind.i64.bits (y:Int) &&& BitVec.ofInt IntKind.i64.bits (b:Int)).toNat:Int)=(y:Int):=k7
     rw[ea] at k7
     rw[if_pos (by omega)] at hwn
     refine KW.nxt U U (fun H' g=>⟨x+1,by omega,by first | omega | (simp only;omega),⟨rfl,rfl,rfl,rfl,rfl,congrArg (Value.int .i64) eh,congrArg (Value.int .i64) (by rw[hwn];exact inc64 (by omega)),congrArg (Value.int .i64) (inc64 (by omega)),trivial⟩,g⟩)
    ·have k7:¬IntKind.i64.wrap ((BitVec.ofInt IntKind.i64.bits (y:Int) &&& BitVec.ofInt IntKind.i64.bits (b:Int)).toNat:Int)=(y:Int):=k7
     rw[ea] at k7
     rw[if_neg (fun h=>k7 (by rw[h]))] at hwn
     refine KW.nxt U U (fun H' g=>⟨x+1,by omega,by first | omega | (simp only;omega),⟨rfl,rfl,rfl,rfl,rfl,congrArg (Value.int .i64) eh,congrArg (Value.int .i64) (by rw[hwn]),congrArg (Value.int .i64) (inc64 (by omega)),trivial⟩,g⟩)
   case gout2=>
    have k6:¬(x:Int)<(nI B).length:=k6
    obtain rfl:x=B.length:=by omega
    have hs1:=sumR1_eq (B:=B) (b:=b)
    have em:IntKind.i64.wrap ((hasN B b B.length:Nat)-(if IntKind.i64.wrap ((whoN B b B.length:Nat)-1:Int)>0 then IntKind.i64.wrap ((whoN B b B.length:Nat)-1:Int) else 0))=(sumR1 B b:Nat):=by
     rw[wr (x:=(whoN B b B.length:Nat)-1) (by omega) (by omega)]
     split
     ·rw[wr (by omega) (by omega),hs1];omega
     ·rw[wr (by omega) (by omega),hs1];omega
    refine KW.callE U U U U U (l00Max (IntKind.i64.wrap ((whoN B b B.length:Nat)-1:Int)) 0) (fun _ _=>?_)
    refine KW.app1 (xs:=(nI (sgmL B b)).map (Value.int .i64)) (v:=.int .i64 (IntKind.i64.wrap ((hasN B b B.length:Nat)-(if IntKind.i64.wrap ((whoN B b B.length:Nat)-1:Int)>0 then IntKind.i64.wrap ((whoN B b B.length:Nat)-1:Int) else 0)))) 3 4 U U U U U U U U U U U U U U U U U U U U U U U (by rw[List.length_map,nI_len,hpl]) (by show(b+1)*8≤_;omega) (by show b+1≤_;omega) ?_
    exact KW.nxt U U (fun H' g=>⟨(b+1,_),by simp only;omega,by simp only;omega,⟨rfl,rfl,rfl,rfl,congrArg (Value.int .i64) (inc64 (by omega)),trivial⟩,g.eqT (by simp only[hpn,nI_snoc,List.map_append,em];rfl)⟩)
  case gout=>
   have k5:¬(b:Int)<((2 ^ q:Nat):Int):=k5
   have hbe:b=2 ^ q:=by omega
   refine KW.ids (fun hlow9 hvar9=>?_)
   have hnn9:=E9.nle hlow9
   have oge:H.n≤o:=by
    have h2:=(hvar9 3 o _ rfl).2
    refine Nat.le_of_not_lt fun hh=>?_
    by_cases e:o=id
    ·exact h2 (e ▸ E9.sid)
    ·exact h2 (E9.old o ⟨hh,e⟩).1
   refine KW.retW U U U U (fun H9 g=>by have:=g.n_;omega) (fun i hi hw=>E9.old i ⟨hi,hw⟩) (fun H9 g=>⟨1,sumR q B,hsum,?_⟩)
   have hb:=g.blk (j:=3) rfl
   have el:(nI (sumR q B)).length=b:=by rw[nI_len,hbe];simp[sumR]
   refine⟨some ⟨o,0,some 1⟩,b,by rw[el];rfl,?_⟩
   rw[el]
   have hml:=int_ml (S:=New H.n H9.n) (ys:=nI (sumR q B)) (c:=b) ⟨oge,hb.2⟩ hb.1 rfl (by show(nI (sgmL B b)).map _=_;rw[hbe];rfl) (by rw[el];exact Nat.le_refl _)
   rw[el] at hml
   exact hml
end
end Go.Proofs.Ytlapbbffoapleaa.Am
namespace Go.Proofs.Ytlapbbffoapleaa.Am
open Go Go.RowKit Go.Proofs
abbrev W_B (x:List Int):Prop:=x.length≤9223372036854775807∧∀y∈x,0≤y∧y<256
abbrev K_B:Kn (List Int):=KB.sl
section
variable {S:Ids} {H0:AH}
end
theorem sum_bound {l:List Nat} {b:Nat} (h:∀x∈l,x≤b):sum l≤l.length*b:=by
 induction l with
 | nil=>simp[sum]
 | cons x l ih=>
  have h1:=h x (List.mem_cons_self ..)
  have h2:=ih (fun y hy=>h y (List.mem_cons_of_mem _ hy))
  simp only[sum,List.length_cons,Nat.succ_mul]
  omega
theorem sml_small {L:List (List Int)} (hl:L.length≤1000) (h:∀r∈L,r.length≤1000):B_Int64SS L:=by
 refine⟨by omega,?_⟩
 have h1:=sum_bound (l:=lens L) (b:=1000) (fun x hx=>by
  obtain⟨r,hr,rfl⟩:=List.mem_map.1 hx
  exact h r hr)
 have h2:(lens L).length=L.length:=by simp[lens]
 have h3:(lens L).length*1000≤1000*1000:=Nat.mul_le_mul_right _ (by omega)
 omega
end Go.Proofs.Ytlapbbffoapleaa.Am
namespace Go.Proofs.Ytlapbbffoapleaa.Am
open Go Go.RowKit Go.Proofs Go.Proofs.Ytlapbbffoapleaa.Pl
theorem mem_enF {m l:List Nat} (h:l.Sublist m) (hp:l.Pairwise fun x y=>x &&& y≠x∧x &&& y≠y):l∈enF m:=by
 induction h with
 | slnil=>exact List.mem_singleton.2 rfl
 | cons x h ih=>exact List.mem_append_left _ (ih hp)
 | cons_cons x h ih=>
  obtain⟨h1,h2⟩:=List.pairwise_cons.1 hp
  refine List.mem_append_right _ (List.mem_map.2 ⟨_,List.mem_filter.2 ⟨ih h2,List.all_eq_true.2 fun y hy=>?_⟩,rfl⟩)
  have:=h1 y hy
  simp[this.1,this.2]
theorem sub_of {f:Nat→Nat}:∀(m l:List Nat),m.Pairwise (fun a b=>f a<f b)→l.Pairwise (fun a b=>f a<f b)→(∀x∈l,x∈m)→l.Sublist m
 | _,[],_,_,_=>List.nil_sublist _
 | [],x :: l,_,_,h=>absurd (h x (List.mem_cons_self ..)) (by simp)
 | y :: m,x :: l,hm,hl,h=>by
  obtain⟨m1,m2⟩:=List.pairwise_cons.1 hm
  obtain⟨l1,l2⟩:=List.pairwise_cons.1 hl
  by_cases e:x=y
  ·subst e
   refine List.Sublist.cons_cons x (sub_of m l m2 l2 fun z hz=>?_)
   rcases List.mem_cons.1 (h z (List.mem_cons_of_mem _ hz)) with h1 | h1
   ·have:=l1 z hz;rw[h1] at this;omega
   ·exact h1
  ·have hx:x∈m:=(List.mem_cons.1 (h x (List.mem_cons_self ..))).resolve_left e
   refine List.Sublist.cons y (sub_of m (x :: l) m2 hl fun z hz=>?_)
   rcases List.mem_cons.1 (h z hz) with h1 | h1
   ·rcases List.mem_cons.1 hz with h2 | h2
    ·exact absurd (h2.symm.trans h1) e
    ·have h3:=l1 z h2
     have h4:=m1 x hx
     rw[h1] at h3
     omega
   ·exact h1
theorem lex_idx:∀a,a<16→∀b,b<16→lexB (hold a 4) (hold b 4)=true→mas.idxOf a<mas.idxOf b∨a=0:=by decide
theorem mas_all:∀x,x<16→x≠0→x∈mas:=by decide
theorem mas_up:mas.Pairwise (fun a b=>mas.idxOf a<mas.idxOf b):=by decide
theorem chk1:∀gs∈enF (mas.filter (· < 2 ^ 1)),gs=[]∨chkF 1 gs=true:=by decide+kernel
theorem chk2:∀gs∈enF (mas.filter (· < 2 ^ 2)),gs=[]∨chkF 2 gs=true:=by decide+kernel
theorem chk3:∀gs∈enF (mas.filter (· < 2 ^ 3)),gs=[]∨chkF 3 gs=true:=by decide+kernel
theorem chk4a:∀gs∈((enF mas).drop 0).take 42,gs=[]∨chkF 4 gs=true:=by decide+kernel
theorem chk4b:∀gs∈((enF mas).drop 42).take 42,gs=[]∨chkF 4 gs=true:=by decide+kernel
theorem chk4c:∀gs∈((enF mas).drop 84).take 42,gs=[]∨chkF 4 gs=true:=by decide+kernel
theorem chk4d:∀gs∈((enF mas).drop 126).take 42,gs=[]∨chkF 4 gs=true:=by decide+kernel
theorem enF_len:(enF mas).length≤168:=by decide+kernel
theorem mem_part {α:Type} {l:List α} {x:α} (hx:x∈l) {k:Nat}:x∈l.take k∨x∈l.drop k:=by
 rw[← List.take_append_drop k l] at hx
 exact List.mem_append.1 hx
theorem chk4:∀gs∈enF (mas.filter (· < 2 ^ 4)),gs=[]∨chkF 4 gs=true:=fun gs hgs=>by
 have e:mas.filter (· < 2 ^ 4)=mas:=by decide
 rw[e] at hgs
 rcases mem_part hgs (k:=42) with h | h
 ·exact chk4a gs h
 rcases mem_part h (k:=42) with h | h
 ·exact chk4b gs h
 rw[List.drop_drop] at h
 rcases mem_part h (k:=42) with h | h
 ·exact chk4c gs h
 rw[List.drop_drop] at h
 rcases mem_part h (k:=42) with h | h
 ·exact chk4d gs h
 rw[List.drop_drop,List.drop_eq_nil_of_le enF_len] at h
 simp at h
theorem okT_ok {q:Nat} (hq1:1≤q) (hq:q≤5) {l:List Nat} (h:okT q l=true):OkR q 1 (nI l):=by
 unfold okT at h
 simp only[Bool.and_eq_true,beq_iff_eq,List.all_eq_true,decide_eq_true_eq,List.mem_range] at h
 obtain⟨⟨⟨h1,h2⟩,h3⟩,h4⟩:=h
 refine okR_of (u:=1) hq1 hq (by omega) h1 h2 h3 (fun a b ha hb hab=>?_) (fun a b ha hb=>(h4 a ha b hb).2)
 have h5:=(h4 a ha b hb).1
 rw[hab] at h5
 simp at h5
 exact h5
structure FamF (q:Nat) (gs:List (List Int)):Prop where
 sml:B_Int64SS gs
 len:gs.length≤15
 ne:gs≠[]
 el:∀g∈gs,∀z∈g,0≤z∧z<(q:Int)
 nz:∀x∈nums gs,x≠0
 mem:nums gs∈enF (mas.filter (· < 2 ^ q))
theorem famF {q:Nat} (hq1:1≤q) (hq:q≤4) {gs:List (List Int)} (h:codeF q gs=0):FamF q gs:=by
 have hf:=codeF_ok h
 have hq16:2 ^ q≤16:=Nat.pow_le_pow_right (by decide) (show q≤4 by omega)
 have hne:gs≠[]∧(gs.getD 0 []).length≠0:=by
  unfold codeF at h
  rw[if_pos (tv_true hf)] at h
  split at h
  ·omega
  ·split at h
   ·omega
   ·split at h
    ·omega
    ·rename_i h1 h2
     exact⟨fun e=>h1 (by rw[e];rfl),h2⟩
 have at_:∀i (hi:i<gs.length),gs.getD i []=gs[i]:=fun i hi=>by rw[List.getD_eq_getElem?_getD,List.getElem?_eq_getElem hi];rfl
 have rs:∀i (hi:i<gs.length),Rises 0 ((q:Int)-1) gs[i]:=fun i hi=>by have:=(hf.grp i hi).1;rw[at_ i hi] at this;exact this
 have el:∀g∈gs,∀z∈g,0≤z∧z<(q:Int):=fun g hg z hz=>by
  obtain⟨i,hi⟩:=List.getElem?_of_mem hg
  obtain⟨hil,rfl⟩:=List.getElem?_eq_some_iff.1 hi
  have:=rises_mem (rs i hil) z hz
  omega
 have bl:∀g∈gs,bitsOf g<2 ^ q:=fun g hg=>bitsOf_lt (fun z hz=>by have:=el g hg z hz;omega)
 have hh:∀i (hi:i<gs.length),hold (bitsOf gs[i]) 4=gs[i]:=fun i hi=>hold_bits 4 (rises_weak (by omega) (rs i hi))
 have hsub:∀i (hi:i<gs.length) j (hj:j<gs.length),i≠j→¬bitsOf gs[i] &&& bitsOf gs[j]=bitsOf gs[i]:=fun i hi j hj hij=>by
  have:=hf.free i hi j hj hij
  unfold Sub at this
  rw[at_ i hi,at_ j hj] at this
  exact this
 have nz:∀i (hi:i<gs.length),bitsOf gs[i]≠0:=fun i hi e=>by
  rcases Nat.lt_or_ge 1 gs.length with h1 | h1
  ·have h2:∃j,j<gs.length∧i≠j:=by
    by_cases h3:i=0
    ·exact⟨1,h1,by omega⟩
    ·exact⟨0,by omega,by omega⟩
   obtain⟨j,hj,hij⟩:=h2
   exact hsub i hi j hj hij (by rw[e,Nat.zero_and])
  ·obtain rfl:i=0:=by omega
   have h4:=hh 0 hi
   rw[e] at h4
   have h5:hold 0 4=[]:=by decide
   rw[h5] at h4
   exact hne.2 (by rw[at_ 0 hi,← h4];rfl)
 have hnl:(nums gs).length=gs.length:=by simp
 have hnat:∀i (hi:i<(nums gs).length),(nums gs)[i]=bitsOf (gs[i]'(by omega)):=fun i hi=>by simp
 have step:∀i (hi:i+1<gs.length),mas.idxOf (bitsOf gs[i])<mas.idxOf (bitsOf gs[i+1]):=fun i hi=>by
  have h1:=(hf.grp (i+1) hi).2 (by omega)
  rw[Nat.add_sub_cancel,at_ i (by omega),at_ (i+1) hi,← hh i (by omega),← hh (i+1) hi] at h1
  have h2:=bl _ (List.getElem_mem (show i<gs.length by omega))
  have h3:=bl _ (List.getElem_mem hi)
  rcases lex_idx _ (by omega) _ (by omega) h1 with h4 | h4
  ·exact h4
  ·exact absurd h4 (nz i (by omega))
 have up:∀j i (hj:j<gs.length) (hi:i<j),mas.idxOf (bitsOf (gs[i]'(by omega)))<mas.idxOf (bitsOf gs[j]):=fun j=>by
  induction j with
  | zero=>intro i hj hi;omega
  | succ j ih=>
   intro i hj hi
   have h1:=step j hj
   by_cases e:i=j
   ·subst e;exact h1
   ·have:=ih i (by omega) (by omega);omega
 have hpw:(nums gs).Pairwise (fun a b=>mas.idxOf a<mas.idxOf b):=List.pairwise_iff_getElem.2 fun i j hi hj hij=>by
  rw[hnat i hi,hnat j hj];exact up j i (by omega) hij
 have hall:∀x∈nums gs,x<2 ^ q∧x≠0:=fun x hx=>by
  obtain⟨i,hi⟩:=List.getElem?_of_mem hx
  obtain⟨hil,rfl⟩:=List.getElem?_eq_some_iff.1 hi
  rw[hnat i hil]
  exact⟨bl _ (List.getElem_mem _),nz i (by omega)⟩
 have hfm:(mas.filter (· < 2 ^ q)).Pairwise (fun a b=>mas.idxOf a<mas.idxOf b):=mas_up.sublist List.filter_sublist
 have hsl:(nums gs).Sublist (mas.filter (· < 2 ^ q)):=sub_of _ _ hfm hpw fun x hx=>List.mem_filter.2 ⟨mas_all x (by have:=hall x hx;omega) (hall x hx).2,by simpa using (hall x hx).1⟩
 have hlen:gs.length≤15:=by
  have h1:=(hsl.trans List.filter_sublist).length_le
  rw[hnl] at h1
  exact h1
 refine⟨sml_small (by omega) fun g hg=>?_,hlen,hne.1,el,fun x hx=>(hall x hx).2,mem_enF hsl (List.pairwise_iff_getElem.2 fun i j hi hj hij=>?_)⟩
 ·obtain⟨i,hi⟩:=List.getElem?_of_mem hg
  obtain⟨hil,rfl⟩:=List.getElem?_eq_some_iff.1 hi
  rw[← hh i hil]
  unfold hold
  rw[List.length_map]
  exact Nat.le_trans (List.length_filter_le _ _) (by simp)
 ·rw[hnat i hi,hnat j hj]
  refine⟨hsub i (by omega) j (by omega) (by omega),fun e=>?_⟩
  refine hsub j (by omega) i (by omega) (by omega) ?_
  rw[Nat.and_comm];exact e
theorem FamF.chk {q:Nat} (hq1:1≤q) (hq:q≤4) {gs:List (List Int)} (h:FamF q gs):chkF q (nums gs)=true:=by
 have hne:nums gs≠[]:=fun e=>h.ne (by simpa using e)
 have hm:=h.mem
 obtain rfl | rfl | rfl | rfl:q=1∨q=2∨q=3∨q=4:=by omega
 ·exact(chk1 _ hm).resolve_left hne
 ·exact(chk2 _ hm).resolve_left hne
 ·exact(chk3 _ hm).resolve_left hne
 ·exact(chk4 _ hm).resolve_left hne
theorem FamF.sum {q:Nat} (hq1:1≤q) (hq:q≤4) {gs:List (List Int)} (h:FamF q gs):OkR q 1 (nI (sumR q (nums gs))):=by
 have hc:=h.chk hq1 hq
 unfold chkF at hc
 exact okT_ok hq1 (by omega) (Bool.and_eq_true_iff.1 hc).2
theorem FamF.port {q:Nat} (hq1:1≤q) (hq:q≤4) {gs:List (List Int)} (h:FamF q gs) (hp:portB q (cirL q (nums gs)) (cirOk q (nums gs))=true):OkR q 1 (nI (portR q (cirL q (nums gs)))):=by
 have hc:=h.chk hq1 hq
 unfold chkF at hc
 have h1:=(Bool.and_eq_true_iff.1 hc).1
 have hp':portB q (cirO (cirA (2 ^ q) (nums gs) (nums gs).length) (cirA (2 ^ q) (nums gs) (nums gs).length).length) (cirW (2 ^ q) (cirA (2 ^ q) (nums gs) (nums gs).length) (cirA (2 ^ q) (nums gs) (nums gs).length).length)=true:=hp
 simp only[hp',Bool.not_true,Bool.false_or] at h1
 exact okT_ok hq1 (by omega) h1
section
variable {S:Ids} {H0:AH}
theorem f6big {p0:Option Addr} {n0 q0:Nat}:Spec Try.prog S H0 36 [.slice p0 n0 q0] (fun v=>∃b:Bool,v=.bool b∧(b=false→n0≤4096)):=by
 refine Spec.of1 Try.func36 rfl (by kernel_rfl) rfl (fun H _=>?_)
 exact KW.ret U U U U (⟨decide ((n0:Int)>4096),rfl,fun h2=>by simp at h2;omega⟩)
theorem p6Family {bs:List Int} (hb:∀x∈bs,0≤x∧x<256) (hl:bs.length≤1048576) {ac:Option Addr} {cc:Nat} (hs:KB.Sl S H0 (.slice ac bs.length cc) bs):
  SpecM Try.prog S H0 37 [.slice ac bs.length cc] (fun n v H1=>∃(q:Nat) (gs:List (List Int)),1≤q∧q≤4∧codeF q gs=0∧MkFam q gs n v H1):=by
 refine SpecM.of1 Try.func37 rfl (by kernel_rfl) rfl (fun H _=>?_)
 refine KW.callN1 U U U U U (srcFrom) (fun v HS SS mS _ _ hv=>?_)
 obtain⟨o,sp,rfl,hnew,hsrc⟩:=hv
 have wS:On (New _ HS.n) HS SS HS:=‹_›
 have tS:On (Low H.n) H SS HS:=inferInstance
 have hso:=(wS.st o hnew).1
 have hbs:=(hs.up (S':=Low H.n) (H':=H)).stX (S':=fun i=>SS i∧i≠o) (H':=HS) (fun i hi=>⟨⟨(tS.st i hi).1,fun e=>by have h1:i<H.n:=hi;have:=hnew.1;omega⟩,(tS.st i hi).2⟩)
 refine KW.callW (W:=fun i=>i=o) (fun i hi=>by subst hi;exact hso) U U U U U (l07Draw (S:=SS) (H0:=HS) (most:=4) hb hl (by omega) (by omega) (by omega) hso (fun i hi=>hi) hsrc hbs) (fun v H4 S4 hn4 st4 hw4 hp=>?_)
 obtain⟨q,gs,a4,h1,h2,h3,u4,⟨b4,d4,rfl,hml⟩,src4⟩:=hp
 haveI:On (Low H.n) H S4 H4:=⟨fun i hi=>⟨(st4 i (tS.st i hi).1).1,((st4 i (tS.st i hi).1).2 (fun e=>by have h1:i<H.n:=hi;have h2:i=o:=e;have:=hnew.1;omega)).trans (tS.st i hi).2⟩⟩
 refine KW.retM1 U U U U (fun H1 g=>?_)
 exact⟨q,gs,h1,h2,h3,_,_,rfl,(hml.same (fun i hi=>(g.froz i (hw4 i hi)).2)).more (fun i hi=>⟨by have:=hi.1;omega,by have:=hi.2;have:=g.n_;omega⟩)⟩
theorem p6Ranks {q:Nat} (hq1:1≤q) (hq:q≤4) {bs:List Int} (hb:∀x∈bs,0≤x∧x<256) (hl:bs.length≤1048576) {ac:Option Addr} {cc:Nat} (hs:KB.Sl S H0 (.slice ac bs.length cc) bs)
  {a c} {gs:List (List Int)} (hcode:codeF q gs=0) (hg:KI.sl.Sl S H0 (.slice a gs.length c) gs):
  SpecM Try.prog S H0 46 [.slice ac bs.length cc,familyV q (.slice a gs.length c)] (MkOk q):=by
 have F:=famF hq1 hq hcode
 refine SpecM.of1 Try.func46 rfl (by kernel_rfl) rfl (fun H _=>?_)
 have hs:=hs.up (S':=Low H.n) (H':=H)
 have hg:=hg.up (S':=Low H.n) (H':=H)
 refine KW.callN1 U U U U U srcFrom (fun v HS SS mS tS wS hp=>?_)
 obtain⟨o,sp,rfl,hnew,hsrc⟩:=hp
 have hso:=(wS.st o hnew).1
 have hoH:∀i,Low H.n i→i≠o:=fun i hi e=>by have h1:i<H.n:=hi;have:=hnew.1;omega
 refine KW.callWV (W:=fun i=>i=o) (fun i hi=>by subst hi;exact hso) U U U U U (fun H1 g st1=>l07For (S:=Low H1.n) (H0:=H1) (Y:=fun i=>Low H1.n i∧i≠o) hq1 (by omega) hb hl (by omega) (st1.st o hso).1 (fun i hi=>hi) (hsrc.mv (st1.st o hso).2)
   (hs.stX (fun i hi=>⟨⟨(st1.st i (tS.st i hi).1).1,hoH i hi⟩,(st1.st i (tS.st i hi).1).2.trans (tS.st i hi).2⟩)) F.sml (by have:=F.len;omega) F.el hcode F.nz (F.sum hq1 hq) (F.port hq1 hq) ⟨(g.blk (j:=0) rfl).2,fun e=>(g.vars 0 _ rfl).2.2 (e ▸ hso)⟩ (g.blk (j:=0) rfl).1
   (hg.stX (fun i hi=>⟨⟨(st1.st i (tS.st i hi).1).1,hoH i hi⟩,(st1.st i (tS.st i hi).1).2.trans (tS.st i hi).2⟩))) (fun v H4 S4 hn4 st4 hw4 hp=>?_)
 obtain⟨u,R,okR,a4,c4,rfl,hml⟩:=hp
 haveI:On (Low H.n) H S4 H4:=⟨fun i hi=>⟨(st4 i (tS.st i hi).1).1,((st4 i (tS.st i hi).1).2 (fun e=>hoH i hi e)).trans (tS.st i hi).2⟩⟩
 refine KW.retM1 U U U U (fun H1 g=>?_)
 exact⟨u,R,okR,_,_,rfl,(hml.same (fun i hi=>(g.froz i (hw4 i hi)).2)).more (fun i hi=>⟨by have:=hi.1;omega,by have:=hi.2;have:=g.n_;omega⟩)⟩
theorem p6Pick {bs:List Int} (hb:∀x∈bs,0≤x∧x<256) (hl:bs.length≤1048576) {m:Nat} (h1:1≤m) (hm:m≤1000) {ac:Option Addr} {cc:Nat} (hs:KB.Sl S H0 (.slice ac bs.length cc) bs):
  SpecM Try.prog S H0 49 [.slice ac bs.length cc,.int .i64 m] (fun n v H1=>∃z:Nat,z<m∧v=.int .i64 z):=by
 refine SpecM.of1 Try.func49 rfl (by kernel_rfl) rfl (fun H _=>?_)
 refine KW.callN1 U U U U U (srcFrom) (fun v HS SS mS _ _ hv=>?_)
 obtain⟨o,sp,rfl,hnew,hsrc⟩:=hv
 have wS:On (New _ HS.n) HS SS HS:=‹_›
 have tS:On (Low H.n) H SS HS:=inferInstance
 have hso:=(wS.st o hnew).1
 have hbs:=(hs.up (S':=Low H.n) (H':=H)).stX (S':=fun i=>SS i∧i≠o) (H':=HS) (fun i hi=>⟨⟨(tS.st i hi).1,fun e=>by have h1:i<H.n:=hi;have:=hnew.1;omega⟩,(tS.st i hi).2⟩)
 refine KW.callW (W:=fun i=>i=o) (fun i hi=>by subst hi;exact hso) U U U U U (srcPick (S:=SS) (H0:=HS) hb hl (n:=(m:Int)) (by omega) (by omega) hso (fun i hi=>hi) hsrc hbs) (fun v H4 S4 hn4 st4 hw4 hp=>?_)
 obtain⟨z,a4,hz,l4,u4,rfl,src4⟩:=hp
 have hz:=hz (by omega)
 haveI:On (Low H.n) H S4 H4:=⟨fun i hi=>⟨(st4 i (tS.st i hi).1).1,((st4 i (tS.st i hi).1).2 (fun e=>by have h1:i<H.n:=hi;have h2:i=o:=e;have:=hnew.1;omega)).trans (tS.st i hi).2⟩⟩
 refine KW.retM1 U U U U (fun H1 g=>⟨z,by omega,rfl⟩)
theorem p6Group {bs:List Int} (hb:∀x∈bs,0≤x∧x<256) (hl:bs.length≤1048576) {q:Nat} (hq:q≤5) {z:Int} (hz:z=q) {ac:Option Addr} {cc:Nat} (hs:KB.Sl S H0 (.slice ac bs.length cc) bs):
  SpecM Try.prog S H0 53 [.slice ac bs.length cc,.int .i64 z] (fun n v H1=>∃x:Nat,x<2 ^ q∧MkL (hold x q) n v H1):=by
 subst hz
 have hq32:2 ^ q≤32:=Nat.pow_le_pow_right (by decide) (show q≤5 by omega)
 have hp0:=Nat.two_pow_pos q
 refine SpecM.of1 Try.func53 rfl (by kernel_rfl) rfl (fun H _=>?_)
 refine KW.callN1 U U U U U (srcFrom) (fun v HS SS mS _ _ hv=>?_)
 obtain⟨o,sp,rfl,hnew,hsrc⟩:=hv
 have wS:On (New _ HS.n) HS SS HS:=‹_›
 have tS:On (Low H.n) H SS HS:=inferInstance
 have hso:=(wS.st o hnew).1
 have hbs:=(hs.up (S':=Low H.n) (H':=H)).stX (S':=fun i=>SS i∧i≠o) (H':=HS) (fun i hi=>⟨⟨(tS.st i hi).1,fun e=>by have h1:i<H.n:=hi;have:=hnew.1;omega⟩,(tS.st i hi).2⟩)
 refine KW.shlI U U U U U U q (wru (by omega) (by omega)) (by omega) ?_
 refine KW.callW (W:=fun i=>i=o) (fun i hi=>by subst hi;exact hso) U U U U U (srcPick (S:=SS) (H0:=HS) hb hl (n:=((2 ^ q:Nat):Int)) (by omega) (by omega) hso (fun i hi=>hi) hsrc hbs) (fun v H4 S4 hn4 st4 hw4 hp=>?_)
 obtain⟨z,a4,hz,l4,u4,rfl,src4⟩:=hp
 have hz:=hz (by omega)
 haveI o4:On (Low H.n) H S4 H4:=⟨fun i hi=>⟨(st4 i (tS.st i hi).1).1,((st4 i (tS.st i hi).1).2 (fun e=>by have h1:i<H.n:=hi;have h2:i=o:=e;have:=hnew.1;omega)).trans (tS.st i hi).2⟩⟩
 refine KW.callN1 U U U U U (l06Holders (x:=z) (m:=q) (by omega) (by omega)) (fun v H5 S5 m5 t5 w5 hp=>?_)
 obtain⟨a5,c5,rfl,hm5⟩:=hp
 haveI:On (Low H.n) H S5 H5:=⟨fun i hi=>⟨(t5.st i (o4.st i hi).1).1,(t5.st i (o4.st i hi).1).2.trans (o4.st i hi).2⟩⟩
 have hnn:H.n≤H4.n:=by have:=hnew.1;have:=mS;omega
 refine KW.retM1 U U U U (fun H1 g=>⟨z,by omega,a5,c5,rfl,(hm5.same (fun i hi=>(g.froz i (w5.st i hi).1).2)).more (fun i hi=>⟨by have:=hi.1;omega,by have:=(g.froz i (w5.st i hi).1).1;have:=g.n_;omega⟩)⟩)
end
def cutN (R:List Nat) (h b:Nat):List Nat:=((List.range b).filter fun i=>!i.testBit h).map fun i=>R.getD i 0
def wideN (x h:Nat):Nat:=(x &&& (2 ^ h-1)) ||| (dif x (2 ^ h-1)*2)
def cutW (R:List Nat) (h n:Nat):List Nat:=(List.range n).map fun x=>R.getD (wideN x h) 0
theorem cutN_next {R:List Nat} {h b:Nat}:cutN R h (b+1)=if b.testBit h then cutN R h b else cutN R h b++[R.getD b 0]:=by
  unfold cutN
  rw[List.range_succ,List.filter_append,List.map_append]
  cases hb:b.testBit h<;>simp[hb]
theorem cutN_len {R:List Nat} {h b:Nat}:(cutN R h b).length≤b:=by
  unfold cutN
  rw[List.length_map]
  exact Nat.le_trans (List.length_filter_le _ _) (by simp)
theorem cut_idx:∀q,q<5→∀h,h<q→((List.range (2 ^ q)).filter fun i=>!i.testBit h)=(List.range (2 ^ (q-1))).map (fun x=>wideN x h):=by decide
theorem wide_lt:∀q,q<5→∀h,h<q→∀x,x<2 ^ (q-1)→wideN x h<2 ^ q:=by decide
theorem cut_same {R:List Nat} {q h:Nat} (hq:q≤4) (hh:h<q):cutN R h (2 ^ q)=cutW R h (2 ^ (q-1)):=by
  unfold cutN cutW
  rw[cut_idx q (by omega) h hh,List.map_map];rfl
theorem built_RanksW2 {p p' u:Int} (h:p=p'):Try.prog.built 91 [(0,.int .i64 p),(1,.int .i64 u)]=some #[.int .i64 p',.int .i64 u,.slice none 0 0]:=by subst h;exact built_RanksU _ _
theorem bit0 {x h:Nat} (hx:x<4611686018427387904):(IntKind.i64.wrap ((BitVec.ofInt IntKind.i64.bits ((x / 2 ^ h:Nat):Int) &&& BitVec.ofInt IntKind.i64.bits ((1:Nat):Int)).toNat:Int)==((0:Nat):Int))=!x.testBit h:=by
  rw[and_i64 (Nat.lt_of_le_of_lt (Nat.div_le_self _ _) hx) (by decide),← bit_is]
  have hq:x / 2 ^ h &&& 1≤1:=Nat.and_le_right
  generalize x / 2 ^ h &&& 1=q at hq
  obtain rfl | rfl:q=0∨q=1:=by omega
  · rfl
  · rfl
structure CuI (R:List Nat) (h n:Nat) (s:PrS):Prop where
  le:s.b≤n
  form:(s.b=0∧s.l=.slice none 0 0∧s.tail=[])∨(0<s.b∧∃o,s.l=.slice (some ⟨o,0,some 1⟩) (cutN R h s.b).length (cutN R h s.b).length∧s.tail=[(o,⟨2,true,(nI (cutN R h s.b)).map (Value.int .i64)⟩)])
def MkCu (q u:Nat) (R:List Nat) (h:Nat) (n:Nat) (v:Value) (H1:AH):Prop:=∃v1,v=.tuple #[v1,.int .i64 0]∧MkRk ((q-1:Nat):Int) u (cutW R h (2 ^ (q-1))) n v1 H1
theorem okR_len {q:Nat} {u:Int} {R:List Nat} (h:OkR q u (nI R)):R.length=2 ^ q:=by have:=h.2.2.1;rw[nI_len,Int.toNat_natCast] at this;exact this
theorem okR_le {q:Nat} {u:Int} {R:List Nat} (h:OkR q u (nI R)) (i:Nat):R.getD i 0≤100000:=by
  rcases Nat.lt_or_ge i R.length with hi | hi
  · have:=(h.2.2.2.2.1 i (by rw[nI_len];exact hi)).2
    rw[nI_getD] at this
    omega
  · rw[List.getD_eq_getElem?_getD,List.getElem?_eq_none hi];exact Nat.zero_le _
section
variable {S:Ids} {H0:AH}
theorem specCutRanks {q u h:Nat} (hq2:2≤q) (hq:q≤4) (hh:h<q) {R:List Nat} (ok:OkR q u (nI R)) {a c} (hs:KI.Sl S H0 (.slice a (nI R).length c) (nI R)):
    SpecM Try.prog S H0 51 [ranksV q u (.slice a (nI R).length c),.int .i64 h] (MkCu q u R h):=by
  have hRl:=okR_len ok
  have hRe:(nI R).length=R.length:=nI_len
  have hq16:2 ^ q≤16:=Nat.pow_le_pow_right (by decide) (show q≤4 by omega)
  have hp0:=Nat.two_pow_pos q
  refine SpecM.of1 Try.func51 rfl (by kernel_rfl) rfl (fun H _=>?_)
  have hs:=hs.up (S':=Low H.n) (H':=H)
  refine KW.callV1 U U U U U (fun H1 g _=>l07Ok q u (by omega) (g.blk (j:=0) rfl).2 (g.blk (j:=0) rfl).1 hs.up) (fun n1 m1=>?_)
  rw[tv_true ok]
  refine KW.cF U U (by first | (simp;done) | decide) ?_
  refine KW.callE U U U U U (l00In h 0 (IntKind.i64.wrap ((q:Int)-1))) (fun n2 m2=>?_)
  have ew:IntKind.i64.wrap ((q:Int)-1)=((q-1:Nat):Int):=by rw[wr (by omega) (by omega)];omega
  refine KW.tF U U (by show(!decide ((0:Int)≤(h:Int)∧(h:Int)≤IntKind.i64.wrap ((q:Int)-1)))=false;rw[ew,decide_eq_true ⟨by omega,by omega⟩];rfl) ?_
  refine KW.cF U U (by show((q:Int)==1)=false;exact beq_eq_false_iff_ne.2 (by omega)) ?_
  refine KW.build U U U U U (built_RanksW2 (u:=(u:Int)) ew) ?_
  refine KW.lpM U U (fun s:PrS=>[(1,.int .i64 h),(2,.pointer (some ⟨H.n,0,some 0⟩)),(4,.pointer (some ⟨H.n+1,0,some 1⟩)),(6,.pointer (some ⟨n2,0,some 2⟩)),(7,.int .i64 s.b)]) (fun s=>Low H.n) (fun s=>H) (fun s=>[(H.n,⟨91,true,[.int .i64 q,.int .i64 u,.slice a (nI R).length c]⟩),(H.n+1,⟨91,true,[.int .i64 0,.int .i64 0,.slice none 0 0]⟩),(n2,⟨91,true,[.int .i64 (q-1:Nat),.int .i64 u,s.l]⟩)]++s.tail) (fun s=>CuI R h (2 ^ q) s) (fun s=>2 ^ q-s.b) (⟨0,.slice none 0 0,[]⟩) (⟨Nat.zero_le _,.inl ⟨rfl,rfl,rfl⟩⟩) ⟨rfl,rfl,rfl,rfl,rfl,trivial⟩ U U (rfl) (fun s hi bE n=>?_)
  obtain⟨b,l,tail⟩:=s
  have hbq:=hi.le
  have hform:=hi.form
  simp only at hbq hform
  have hcn:=cutN_next (R:=R) (h:=h) (b:=b)
  have hcl:=cutN_len (R:=R) (h:=h) (b:=b)
  rcases hform with⟨hb0,e1,e2⟩ | ⟨hb0,o,e1,e2⟩
  case' inl=>subst e1 e2
  case' inr=>subst e1 e2
  all_goals
      refine KW.cnd U U (fun k1=>?gin) (fun k1=>?gout)
      case gin=>
        have k1:(b:Int)<(nI R).length:=k1
        refine KW.shr U U U U U U U b h rfl (wru (by omega) (by omega)) (by omega) ?_
        have hb1:=bit1 (x:=b) (h:=h) (by omega)
        have hb2:=bit0 (x:=b) (h:=h) (by omega)
        refine KW.cndB U U (fun k4=>?_) (fun k4=>?_)
        · have k4:b.testBit h=false:=by have:=hb2.symm.trans k4;simpa using this
          rw[k4] at hcn
          refine KW.getI hs U U U U U U U U U U U U U U U U (by omega) (by omega) (fun z hz=>?_)
          obtain⟨y,hy,rfl⟩:=nI_at hz
          have hyd:R.getD b 0=y:=by rw[List.getD_eq_getElem?_getD];rw[Int.toNat_natCast] at hy;rw[hy];rfl
          rw[hyd] at hcn
          have hcn:cutN R h (b+1)=cutN R h b++[y]:=hcn
          first
            | (refine KW.app0 (v:=.int .i64 (y:Nat)) 3 U U U U U U U U U U U U U U U U U U U U U U (by decide) ?_
               subst hb0
               have hcn0:cutN R h 1=[y]:=hcn
               exact KW.nxt U U (fun H' g=>⟨⟨1,_,_⟩,⟨by simp only;omega,.inr ⟨by simp only;omega,_,by simp only[hcn0];rfl,by simp only[hcn0];rfl⟩⟩,by simp only;omega,⟨rfl,rfl,rfl,rfl,rfl,trivial⟩,g⟩))
            | (refine KW.app1 (xs:=(nI (cutN R h b)).map (Value.int .i64)) (v:=.int .i64 (y:Nat)) 3 4 U U U U U U U U U U U U U U U U U U U U U U U (by rw[List.length_map,nI_len]) (by show(_+1)*8≤_;omega) (by omega) ?_
               exact KW.nxt U U (fun H' g=>⟨⟨b+1,_,_⟩,⟨by simp only;omega,.inr ⟨by simp only;omega,_,by simp only[hcn,List.length_append,List.length_singleton];rfl,by simp only[hcn,nI_snoc,List.map_append];rfl⟩⟩,by simp only;omega,⟨rfl,rfl,rfl,rfl,congrArg (Value.int .i64) (inc64 (by omega)),trivial⟩,g⟩))
        · have k4:b.testBit h=true:=by have:=hb2.symm.trans k4;simpa using this
          rw[k4] at hcn
          have hcn:cutN R h (b+1)=cutN R h b:=hcn
          first
            | (subst hb0;simp at k4;done)
            | exact KW.nxt U U (fun H' g=>⟨⟨b+1,.slice (some ⟨o,0,some 1⟩) (cutN R h b).length (cutN R h b).length,[(o,⟨2,true,(nI (cutN R h b)).map (Value.int .i64)⟩)]⟩,⟨by simp only;omega,.inr ⟨by simp only;omega,o,by simp only[hcn],by simp only[hcn]⟩⟩,by simp only;omega,⟨rfl,rfl,rfl,rfl,congrArg (Value.int .i64) (inc64 (by omega)),trivial⟩,g⟩)
      case gout=>
        have k1:¬(b:Int)<(nI R).length:=k1
        have hbe:b=2 ^ q:=by omega
        first
          | omega
          | (refine KW.retM1 U U U U (fun H1 g=>⟨_,rfl,?_⟩)
             have hb:=g.blk (j:=3) rfl
             have hge:=g.ge (H1:=H) (j:=3) rfl
             have es:=cut_same (R:=R) hq hh
             rw[← hbe] at es
             have el:(nI (cutW R h (2 ^ (q-1)))).length=(cutN R h b).length:=by rw[nI_len,es]
             refine⟨some ⟨o,0,some 1⟩,(cutN R h b).length,by rw[el];rfl,?_⟩
             rw[el]
             have hml:=int_ml (S:=New H.n H1.n) (ys:=nI (cutW R h (2 ^ (q-1)))) (c:=(cutN R h b).length) ⟨hge,hb.2⟩ hb.1 rfl (by show(nI (cutN R h b)).map _=_;rw[es]) (by rw[el];exact Nat.le_refl _)
             rw[el] at hml
             exact hml)
theorem everybodyZ {m:Nat} {z:Int} (hz:z=m) (hm:m≤40):Spec Try.prog S H0 100 [.int .i64 z] (fun v=>v=.int .u64 ((2 ^ m-1:Nat):Int)):=by subst hz;exact everybody hm
theorem widened {x h:Nat} (hx:x<1073741824) (hh:h≤40):Spec Try.prog S H0 133 [.int .u64 x,.int .i64 h] (fun v=>v=.int .u64 (wideN x h:Nat)):=by
  have hp:2 ^ h<4611686018427387904:=Nat.lt_of_le_of_lt (Nat.pow_le_pow_right (by decide) hh) (by decide)
  have hp0:=Nat.two_pow_pos h
  have hd:=dif_le (a:=x) (b:=2 ^ h-1)
  refine Spec.of1 Try.func133 rfl (by kernel_rfl) rfl (fun H _=>?_)
  refine KW.callE U U U U U (everybody hh) (fun _ _=>?_)
  have ha:x &&& (2 ^ h-1)≤x:=Nat.and_le_left
  have e1:IntKind.u64.wrap (((dif x (2 ^ h-1):Nat):Int)*2 ^ min (1:Int).toNat IntKind.u64.bits)=((dif x (2 ^ h-1)*2:Nat):Int):=by
    have e2:(2:Int) ^ min (1:Int).toNat IntKind.u64.bits=2:=by decide
    rw[e2,wru (by omega) (by omega)];omega
  exact KW.ret U U U U (by show Value.int .u64 (IntKind.u64.wrap ((BitVec.ofInt IntKind.u64.bits (IntKind.u64.wrap ((BitVec.ofInt IntKind.u64.bits (x:Int) &&& BitVec.ofInt IntKind.u64.bits ((2 ^ h-1:Nat):Int)).toNat:Int)) ||| BitVec.ofInt IntKind.u64.bits (IntKind.u64.wrap (IntKind.u64.wrap ((BitVec.ofInt IntKind.u64.bits (x:Int) &&& ~~~BitVec.ofInt IntKind.u64.bits ((2 ^ h-1:Nat):Int)).toNat:Int)*2 ^ min (1:Int).toNat IntKind.u64.bits))).toNat:Int))=_;rw[and_u64 (by omega) (by omega),andnot_u64 (by omega) (by omega),e1,or_u64 (by omega) (by omega)];rfl)
theorem cutW_next {R:List Nat} {h n:Nat}:cutW R h (n+1)=cutW R h n++[R.getD (wideN n h) 0]:=by
  unfold cutW
  rw[List.range_succ,List.map_append];rfl
theorem cutW_len {R:List Nat} {h n:Nat}:(cutW R h n).length=n:=by simp[cutW]
theorem implCutRanks {q u h:Nat} (hq2:2≤q) (hq:q≤4) (hh:h<q) {R:List Nat} (ok:OkR q u (nI R)) {a c} (hs:KI.Sl S H0 (.slice a (nI R).length c) (nI R)):
    SpecM Try.prog S H0 50 [ranksV q u (.slice a (nI R).length c),.int .i64 h] (MkCu q u R h):=by
  have hRl:=okR_len ok
  have hRe:(nI R).length=R.length:=nI_len
  have hq8:2 ^ (q-1)≤8:=Nat.pow_le_pow_right (by decide) (show q-1≤3 by omega)
  have hq16:2 ^ q≤16:=Nat.pow_le_pow_right (by decide) (show q≤4 by omega)
  have hp0:=Nat.two_pow_pos (q-1)
  refine SpecM.of1 Try.func50 rfl (by kernel_rfl) rfl (fun H _=>?_)
  have hs:=hs.up (S':=Low H.n) (H':=H)
  refine KW.callE U U U U U (validRanks q u (by omega) hs) (fun n1 m1=>?_)
  rw[tv_true ok]
  refine KW.cF U U (by first | (simp;done) | decide) ?_
  refine KW.callE U U U U U (within h 0 (IntKind.i64.wrap ((q:Int)-1))) (fun n2 m2=>?_)
  have ew:IntKind.i64.wrap ((q:Int)-1)=((q-1:Nat):Int):=by rw[wr (by omega) (by omega)];omega
  refine KW.tF U U (by show(!decide ((0:Int)≤(h:Int)∧(h:Int)≤IntKind.i64.wrap ((q:Int)-1)))=false;rw[ew,decide_eq_true ⟨by omega,by omega⟩];rfl) ?_
  refine KW.cF U U (by show((q:Int)==1)=false;exact beq_eq_false_iff_ne.2 (by omega)) ?_
  refine KW.build U U U U U (built_RanksW2 (u:=(u:Int)) ew) ?_
  refine KW.lpM U U (fun s:PrS=>[(1,.int .i64 h),(2,.pointer (some ⟨H.n,0,some 0⟩)),(4,.pointer (some ⟨H.n+1,0,some 1⟩)),(6,.pointer (some ⟨n2,0,some 2⟩)),(7,.int .u64 s.b)]) (fun s=>Low H.n) (fun s=>H) (fun s=>[(H.n,⟨91,true,[.int .i64 q,.int .i64 u,.slice a (nI R).length c]⟩),(H.n+1,⟨91,true,[.int .i64 0,.int .i64 0,.slice none 0 0]⟩),(n2,⟨91,true,[.int .i64 (q-1:Nat),.int .i64 u,s.l]⟩)]++s.tail) (fun s=>PrI (cutW R h) (2 ^ (q-1)) s) (fun s=>2 ^ (q-1)-s.b) (⟨0,.slice none 0 0,[]⟩) (⟨Nat.zero_le _,.inl ⟨rfl,rfl,rfl⟩⟩) ⟨rfl,rfl,rfl,rfl,rfl,trivial⟩ U U (rfl) (fun s hi bE n=>?_)
  obtain⟨b,l,tail⟩:=s
  have hbq:=hi.le
  have hform:=hi.form
  simp only at hbq hform
  have hcn:=cutW_next (R:=R) (h:=h) (n:=b)
  have hcl:=cutW_len (R:=R) (h:=h) (n:=b)
  rcases hform with⟨hb0,e1,e2⟩ | ⟨hb0,o,e1,e2⟩
  case' inl=>subst e1 e2
  case' inr=>subst e1 e2
  all_goals
      refine KW.callE U U U U U (everybodyZ (m:=q-1) ew (by omega)) (fun _ _=>?_)
      refine KW.cnd U U (fun k1=>?gin) (fun k1=>?gout)
      case gin=>
        have k1:(b:Int)≤((2 ^ (q-1)-1:Nat):Int):=k1
        have hw:=wide_lt q (by omega) h hh b (by omega)
        refine KW.callE U U U U U (widened (x:=b) (h:=h) (by omega) (by omega)) (fun _ _=>?_)
        refine KW.callE U U U U U (rank q u (wideN b h) (by omega) hs) (fun _ _=>?_)
        rw[nI_getD]
        first
          | (refine KW.app0 (v:=.int .i64 (R.getD (wideN b h) 0:Nat)) 3 U U U U U U U U U U U U U U U U U U U U U U (by decide) ?_
             subst hb0
             exact KW.nxt U U (fun H' g=>⟨⟨1,_,_⟩,⟨by simp only;omega,.inr ⟨by simp only;omega,_,rfl,rfl⟩⟩,by simp only;omega,⟨rfl,rfl,rfl,rfl,rfl,trivial⟩,g⟩))
          | (refine KW.app1 (xs:=(nI (cutW R h b)).map (Value.int .i64)) (v:=.int .i64 (R.getD (wideN b h) 0:Nat)) 3 4 U U U U U U U U U U U U U U U U U U U U U U U (by rw[List.length_map,nI_len,hcl]) (by show(b+1)*8≤_;omega) (by omega) ?_
             exact KW.nxt U U (fun H' g=>⟨⟨b+1,_,_⟩,⟨by simp only;omega,.inr ⟨by simp only;omega,_,rfl,by simp only[hcn,nI_snoc,List.map_append];rfl⟩⟩,by simp only;omega,⟨rfl,rfl,rfl,rfl,congrArg (Value.int .u64) (incu64 (by omega)),trivial⟩,g⟩))
      case gout=>
        have k1:¬(b:Int)≤((2 ^ (q-1)-1:Nat):Int):=k1
        have hbe:b=2 ^ (q-1):=by omega
        first
          | omega
          | (refine KW.retM1 U U U U (fun H1 g=>⟨_,rfl,?_⟩)
             have hb:=g.blk (j:=3) rfl
             have hge:=g.ge (H1:=H) (j:=3) rfl
             have el:(nI (cutW R h (2 ^ (q-1)))).length=b:=by rw[nI_len,cutW_len,hbe]
             refine⟨some ⟨o,0,some 1⟩,b,by rw[el];rfl,?_⟩
             rw[el]
             have hml:=int_ml (S:=New H.n H1.n) (ys:=nI (cutW R h (2 ^ (q-1)))) (c:=b) ⟨hge,hb.2⟩ hb.1 rfl (by show(nI (cutW R h b)).map _=_;rw[hbe]) (by rw[el];exact Nat.le_refl _)
             rw[el] at hml
             exact hml)
end
noncomputable def rkL (q:Nat) (l:List Int) (w n:Nat):List (List Int):=((List.range n).filter fun c=>tv (l.getD (c ||| w) 0=l.getD c 0)).map fun c=>hold c q
theorem rkL_next {q:Nat} {l:List Int} {w n:Nat}:rkL q l w (n+1)=if tv (l.getD (n ||| w) 0=l.getD n 0)=true then rkL q l w n++[hold n q] else rkL q l w n:=by
 unfold rkL
 rw[List.range_succ,List.filter_append,List.map_append,List.filter_cons,List.filter_nil]
 by_cases h:tv (l.getD (n ||| w) 0=l.getD n 0)=true
 ·rw[if_pos h,if_pos h];rfl
 ·rw[if_neg h,if_neg h];exact List.append_nil _
theorem rkL_len {q:Nat} {l:List Int} {w n:Nat}:(rkL q l w n).length≤n:=by
 unfold rkL
 rw[List.length_map]
 exact Nat.le_trans (List.length_filter_le _ _) (by simp)
theorem rkL_mem {q:Nat} {l:List Int} {w n:Nat} {g:List Int}:g∈rkL q l w n↔∃c,c<n∧l.getD (c ||| w) 0=l.getD c 0∧hold c q=g:=by
 unfold rkL
 constructor
 ·intro h
  obtain⟨c,hc,rfl⟩:=List.mem_map.1 h
  have h2:=List.mem_filter.1 hc
  exact⟨c,List.mem_range.1 h2.1,tv_iff.1 h2.2,rfl⟩
 ·rintro ⟨c,h1,h2,rfl⟩
  exact List.mem_map.2 ⟨c,List.mem_filter.2 ⟨List.mem_range.2 h1,tv_true h2⟩,rfl⟩
theorem rk_opens {m u:Int} {q:Nat} (hq:m=q) {l:List Int} (h:OkR m u l) {w:Nat} (hw:w<2 ^ q) {c:Nat} (hc:c<2 ^ q):Opens (rkL q l w (2 ^ q)) c↔RkOp l w c:=by
 subst hq
 have hu:=rk_up h (w:=w) (by rw[Int.toNat_natCast];exact hw)
 rw[Int.toNat_natCast] at hu
 constructor
 ·rintro ⟨g,hg,hs⟩
  obtain⟨b,hb,he,rfl⟩:=rkL_mem.1 hg
  rw[bits_hold hb] at hs
  exact hu b c hb hc (by rw[Nat.and_comm];exact hs) (Int.le_of_eq he)
 ·intro hr
  have hl:l.length=2 ^ q:=by have:=h.2.2.1;rwa [Int.toNat_natCast] at this
  have ho:c ||| w<2 ^ q:=Nat.or_lt_two_pow hc hw
  have m1:=h.2.2.2.2.2 c (by omega) (c ||| w) (by omega)
  unfold Bad at m1
  unfold RkOp at hr
  have e:c &&& (c ||| w)=c:=Nat.eq_of_testBit_eq fun i=>by rw[Nat.testBit_and,Nat.testBit_or];cases c.testBit i<;>simp
  have m2:¬l.getD c 0>l.getD (c ||| w) 0:=fun hx=>m1 (.inl ⟨by rw[Nat.and_comm] at e ⊢;first | exact e | (rw[Nat.and_comm];exact e),hx⟩)
  refine⟨hold c q,rkL_mem.2 ⟨c,hc,by omega,rfl⟩,?_⟩
  rw[bits_hold hc,Nat.and_self]
structure RfI (q:Nat) (l:List Int) (w:Nat) (H:AH) (s:CrS):Prop where
 le:s.j≤2 ^ q
 old:St (Low H.n) H s.S s.A
 b:RowsB KI.ml s.S s.A s.V (rkL q l w s.j) s.cs
 v:∀id,s.V id→H.n≤id
 o:H.n≤s.o
section
variable {S:Ids} {H0:AH}
theorem spec_RanksFamily {x:T_Ranks} {whole:List Int} {cs:List Value} {a1 c1} (hB0:B_Ranks x) (hB1:B_Int64S whole) (h:K_Ranks.R S H0 x cs) (k:K_Int64S.R S H0 whole [.slice a1 whole.length c1]):
  SpecM Try.prog S H0 55 [.agg cs.toArray,.slice a1 whole.length c1] (MkFC (r0_RanksFamily x whole) (r1_RanksFamily x whole)):=by
 obtain⟨a3,c3,rfl,h1⟩:=split_Ranks h
 have s1:=sl1 h1
 have s2:=sl1 k
 obtain⟨m,u,l⟩:=x
 simp only at s1 ⊢
 have hll:l.length≤1048576:=hB0.2.2
 have hwl:whole.length≤1048576:=hB1
 refine SpecM.of1 Try.func55 rfl (by kernel_rfl) rfl (fun H _=>?_)
 refine KW.callV1 U U U U U (fun H1 g _=>l07Ok m u hll (g.blk (j:=0) rfl).2 (g.blk (j:=0) rfl).1 s1.up) (fun _ _=>?_)
 by_cases hr:OkR m u l
 ·have hq5:=hr.1
  obtain⟨q,hq⟩:∃q:Nat,m=q:=⟨m.toNat,by omega⟩
  subst hq
  have hl:=hr.2.2.1
  rw[Int.toNat_natCast] at hl
  have hp:2 ^ q≤32:=by
   have:=Nat.pow_le_pow_right (n:=2) (by decide) (show q≤5 by omega)
   simpa using this
  have hpos:=Nat.two_pow_pos q
  rw[tv_true hr]
  refine KW.cF U U (by first | (simp;done) | decide) ?_
  refine KW.callE U U U U U ((by show Spec _ _ _ _ [_,_,.int .i64 (IntKind.i64.wrap _)] _;rw[wr (by omega) (by omega)];exact l00Rises 0 ((q:Int)-1) hwl s2.up)) (fun _ _=>?_)
  by_cases hg:Rises 0 ((q:Int)-1) whole
  ·have e1:r1_RanksFamily ((q:Int),u,l) whole=0:=by unfold r1_RanksFamily;rw[if_pos (tv_true hr),if_pos (tv_true hg)]
   have e0:r0_RanksFamily ((q:Int),u,l) whole=((q:Int),isA (minsU q (RkOp l (bitsOf whole)) (2 ^ q))):=by unfold r0_RanksFamily;rw[if_pos e1];rfl
   have hgb:=rises_lt rfl hg
   have hw:bitsOf whole<2 ^ q:=bitsOf_lt (fun x hx=>by have:=hgb x hx;omega)
   rw[tv_true hg,e1,e0,← minsU_congr (Nat.le_refl _) (fun c hc=>rk_opens rfl hr hw hc)]
   refine KW.cF U U (by first | (simp;done) | decide) ?_
   refine KW.callE U U U U U (l07Bits (m:=q) (by omega) (by omega) hgb s2.up) (fun n9 m9=>?_)
   generalize bitsOf whole=w at *
   refine KW.fact (fun _ g=>g.nle (H1:=H)) (fun hn9=>?_)
   refine KW.lit U U U U U U U U U U [] U U (fun v hv=>by simp at hv) rfl ?_
   refine KW.lpM U U (fun s:CrS=>[(2,.pointer (some ⟨H.n,0,some 0⟩)),(4,.pointer (some ⟨H.n+1,0,some 1⟩)),(6,.int .i64 w),(7,.slice (some ⟨s.o,0,some 1⟩) (rkL q l w s.j).length (rkL q l w s.j).length),(8,.int .i64 s.j)]) (fun s=>s.S) (fun s=>s.A) (fun s=>[(H.n,⟨91,true,[.int .i64 q,.int .i64 u,.slice a3 l.length c3]⟩),(H.n+1,⟨78,true,[.int .i64 0,.slice none 0 0]⟩),(s.o,⟨_,true,s.cs⟩)]) (fun s=>RfI q l w H s) (fun s=>2 ^ q-s.j) (⟨0,Low H.n,H,fun _=>False,[],n9⟩) (⟨Nat.zero_le _,fun id hid=>⟨hid,rfl⟩,RowsB.nil _ _,fun _ h=>h.elim,hn9⟩) ⟨rfl,rfl,rfl,rfl,rfl,trivial⟩ U U (rfl) (fun s hi bE n=>?_)
   obtain⟨j,S1,A1,V,cs,o⟩:=s
   obtain⟨g1,g2,g3,g4,g5⟩:=hi
   simp only at g1 g2 g3 g4 g5
   haveI:Stp (Low H.n) H S1 A1:=⟨g2⟩
   have hcl:=g3.len
   have hml:=rkL_len (q:=q) (l:=l) (w:=w) (n:=j)
   refine KW.cnd U U (fun k1=>?_) (fun k1=>?_)
   ·have k1:(j:Int)<(l.length:Int):=k1
    have hx:j<2 ^ q:=by omega
    have ho:j ||| w<2 ^ q:=Nat.or_lt_two_pow hx hw
    have eo:IntKind.i64.wrap ((BitVec.ofInt IntKind.i64.bits (j:Int) ||| BitVec.ofInt IntKind.i64.bits (w:Int)).toNat:Int)=((j ||| w:Nat):Int):=or_i64 (by omega) (by omega)
    refine KW.getI s1.up U U U U U U U U U U U U U U U U (by rw[eo];omega) (by rw[eo];omega) (fun y hy=>?_)
    have hy:l.getD (j ||| w) 0=y:=by rw[eo] at hy;exact getD_of hy
    refine KW.getI s1.up U U U U U U U U U U U U U U U U (by omega) (k1) (fun z hz=>?_)
    have hz:l.getD j 0=z:=getD_of hz
    refine KW.cndB U U (fun k2=>?_) (fun k2=>?_)
    ·have k2:y=z:=by simpa using k2
     have eN:rkL q l w (j+1)=rkL q l w j++[hold j q]:=by rw[rkL_next,if_pos (tv_true (by rw[hy,hz];exact k2))]
     have eNl:(rkL q l w (j+1)).length=(rkL q l w j).length+1:=by rw[eN,List.length_append,List.length_singleton]
     refine KW.ids (fun hlow hvar=>?_)
     refine KW.fact (fun _ g=>g.nle (H1:=H)) (fun hn0=>?_)
     refine KW.callN1 U U U U U (l06Holders (x:=j) (m:=q) (by omega) (by omega)) (fun v HC SC mC _ _ hv=>?_)
     obtain⟨a5,c5,rfl,hC⟩:=hv
     refine KW.app1 (xs:=cs) (v:=.slice a5 (hold j q).length c5) 2 3 U U U U U U U U U U U U U U U U U U U U U U U (by omega) (by show((rkL q l w j).length+1)*24≤_;omega) (by show(rkL q l w j).length+1≤_;omega) ?_
     have wC:On (New _ HC.n) HC SC HC:=‹_›
     have fI:=(g3.up (S':=SC) (A':=HC)).snoc (ml1' hC) (fun id hid=>(wC.st id hid).1) (fun id p r=>by have:=hlow id (g3.sub id p);have:=r.1;omega)
     have fV:∀id,V id∨New _ HC.n id→H.n≤id:=fun id hid=>hid.elim (g4 id) (fun p=>Nat.le_trans hn0 p.1)
     have tH:St (Low H.n) H SC HC:=(inferInstance:On (Low H.n) H SC HC).st
     exact KW.nxt U U (fun H' g=>⟨⟨j+1,SC,HC,_,_,_⟩,⟨hx,tH,by simp only[eN];exact fI,fV,by simp only;omega⟩,by simp only;omega,⟨rfl,rfl,rfl,congrArg (fun z=>Value.slice (some ⟨_,0,some 1⟩) z z) eNl.symm,congrArg (Value.int .i64) (inc64 (by omega)),trivial⟩,g⟩)
    ·have k2:¬y=z:=by simpa using k2
     have eN:rkL q l w (j+1)=rkL q l w j:=by rw[rkL_next,if_neg (by rw[tv_false (by rw[hy,hz];exact k2)];decide)]
     exact KW.nxt U U (fun H' g=>⟨⟨j+1,S1,A1,V,cs,o⟩,⟨hx,g2,by simp only[eN];exact g3,g4,g5⟩,by simp only;omega,⟨rfl,rfl,rfl,congrArg (fun z=>Value.slice (some ⟨o,0,some 1⟩) (List.length z) (List.length z)) eN.symm,congrArg (Value.int .i64) (inc64 (by omega)),trivial⟩,g⟩)
   ·have k1:¬(j:Int)<(l.length:Int):=k1
    obtain rfl:j=2 ^ q:=by omega
    refine KW.fact (fun _ g=>g.nle (H1:=H)) (fun hn0=>?_)
    refine KW.callNV1 U U U U U (fun H1 g _=>familyOfS (S:=Low H1.n) (H0:=H1) (q:=q) (gs:=rkL q l w (2 ^ q)) (by omega) (by omega) (by omega) (fun x hx=>by obtain⟨c,_,_,rfl⟩:=rkL_mem.1 hx;exact hold_rises c q) ((g3.ml (X:=Low H1.n) rfl g (j:=2) rfl (g.blk (j:=2) rfl).2 (fun i hi=>by have h1:=(g.froz i (g3.sub i hi)).1;have h2:=g.n_;show i<H1.n;omega)).to (KLe.row (KLe.refl KI)))) (fun v HF SF mF _ _ hv=>?_)
    obtain⟨cs5,rfl,hF⟩:=hv
    obtain⟨b5,d5,rfl⟩:=formM_Family hF
    refine KW.retM1 U U U U (fun H1 g=>?_)
    exact⟨_,rfl,(M_Family).more (g.inn (H:=HF) (fun _ p=>by have:=p.1;omega)) (g.keep hF)⟩
  ·have e1:r1_RanksFamily ((q:Int),u,l) whole=2:=by unfold r1_RanksFamily;rw[if_pos (tv_true hr),if_neg (by rw[tv_false hg];decide)]
   have e0:r0_RanksFamily ((q:Int),u,l) whole=(0,[]):=by unfold r0_RanksFamily;rw[if_neg (by rw[e1];decide)]
   rw[tv_false hg,e1,e0]
   refine KW.cT U U (by first | (simp;done) | decide) ?_
   refine KW.build U U U U U (built_Fam0) ?_
   refine KW.retM1 U U U U (fun H1 g=>?_)
   exact⟨_,rfl,famNil⟩
 ·have e1:r1_RanksFamily (m,u,l) whole=1:=by unfold r1_RanksFamily;rw[if_neg (by rw[tv_false hr];decide)]
  have e0:r0_RanksFamily (m,u,l) whole=(0,[]):=by unfold r0_RanksFamily;rw[if_neg (by rw[e1];decide)]
  rw[tv_false hr,e1,e0]
  refine KW.cT U U (by first | (simp;done) | decide) ?_
  refine KW.build U U U U U (built_Fam0) ?_
  refine KW.retM1 U U U U (fun H1 g=>?_)
  exact⟨_,rfl,famNil⟩
end
section
variable {S:Ids} {H0:AH}
theorem sameRanksEq {q u:Int} {R:List Int} {a c a' c'} (hl:R.length≤1048576) (hs:KI.Sl S H0 (.slice a R.length c) R) (hs':KI.Sl S H0 (.slice a' R.length c') R):Spec Try.prog S H0 52 [ranksV q u (.slice a R.length c),ranksV q u (.slice a' R.length c')] (fun v=>v=.bool true):=by
 refine Spec.of1 Try.func52 rfl (by kernel_rfl) rfl (fun H _=>?_)
 refine KW.tT U U (by simp) ?_
 refine KW.tT U U (by simp) ?_
 refine KW.callE U U U U U (l00Same hl hs.up hs'.up) (fun _ _=>?_)
 rw[tv_true (p:=R=R) rfl]
 exact KW.ret U U U U (rfl)
theorem sameFamilyEq {q:Int} {gs:List (List Int)} {a c a' c'} (hB:B_Int64SS gs) (hs:KI.sl.Sl S H0 (.slice a gs.length c) gs) (hs':KI.sl.Sl S H0 (.slice a' gs.length c') gs):Spec Try.prog S H0 57 [familyV q (.slice a gs.length c),familyV q (.slice a' gs.length c')] (fun v=>v=.bool true):=by
 have hl:=hB.len
 refine Spec.of1 Try.func57 rfl (by kernel_rfl) rfl (fun H _=>?_)
 refine KW.tF U U (by simp) ?_
 refine KW.cF U U (by simp) ?_
 refine KW.lp U U (fun i:Nat=>[(2,.pointer (some ⟨H.n,0,some 0⟩)),(3,.pointer (some ⟨H.n+1,0,some 1⟩)),(5,.int .i64 i)]) (fun i=>i≤gs.length) (fun i=>gs.length-i) (0) (Nat.zero_le _) ⟨rfl,rfl,rfl,trivial⟩ (fun i hi bE n=>?_)
 refine KW.cnd U U (fun k1=>?_) (fun k1=>?_)
 ·have k1:(i:Int)<gs.length:=k1
  refine KW.getL hs.up U U U U U U U U U U U U U U U U (by omega) (k1) (fun y ay cy hy hsy=>?_)
  have hy:gs[i]?=some y:=hy
  refine KW.getL hs'.up U U U U U U U U U U U U U U U U (by omega) (k1) (fun y2 ay2 cy2 hy2 hsy2=>?_)
  obtain rfl:y=y2:=by have hy2:gs[i]?=some y2:=hy2;rw[hy] at hy2;cases hy2;rfl
  refine KW.callE U U U U U (l00Same (hB.each y (List.mem_of_getElem? hy)) hsy hsy2) (fun _ _=>?_)
  rw[tv_true (p:=y=y) rfl]
  refine KW.cF U U (by first | (simp;done) | decide) ?_
  refine KW.nxt U U (fun H' g=>⟨i+1,by omega,by first | omega | (simp only;omega),⟨rfl,rfl,congrArg (Value.int .i64) (inc64 (by omega)),trivial⟩,g⟩)
 ·exact KW.ret U U U U (rfl)
theorem rankAt {q u:Nat} (hq:q≤5) {R:List Nat} (ok:OkR q u (nI R)) {g:List Int} (hr:Rises 0 ((q:Int)-1) g) (hgl:g.length≤1048576) {a c a' c'} (hs:KI.Sl S H0 (.slice a (nI R).length c) (nI R)) (hg:KI.Sl S H0 (.slice a' g.length c') g):Spec Try.prog S H0 48 [ranksV q u (.slice a (nI R).length c),.slice a' g.length c'] (fun v=>v=.tuple #[.int .i64 (R.getD (bitsOf g) 0:Nat),.int .i64 0]):=by
 have hRl:=okR_len ok
 have hRe:(nI R).length=R.length:=nI_len
 have hq32:2 ^ q≤32:=Nat.pow_le_pow_right (by decide) (show q≤5 by omega)
 have hgm:∀x∈g,0≤x∧x<(q:Int):=fun x hx=>by have:=rises_mem hr x hx;omega
 have hb:bitsOf g<2 ^ q:=bitsOf_lt (fun z hz=>by have:=hgm z hz;omega)
 refine Spec.of1 Try.func48 rfl (by kernel_rfl) rfl (fun H _=>?_)
 refine KW.callE U U U U U (validRanks q u (by omega) hs.up) (fun _ _=>?_)
 rw[tv_true ok]
 refine KW.cF U U (by first | (simp;done) | decide) ?_
 refine KW.callE U U U U U (isGroup q (by omega) (by omega) hg.up) (fun _ _=>?_)
 rw[tv_true hr]
 refine KW.cF U U (by first | (simp;done) | decide) ?_
 refine KW.callE U U U U U (crowdOf (m:=q) (by omega) (by omega) hgm hg.up) (fun _ _=>?_)
 refine KW.callE U U U U U (rank q u (bitsOf g) (by omega) hs.up) (fun _ _=>?_)
 exact KW.ret U U U U (by rw[nI_getD];rfl)
theorem mayOpenS {q:Nat} (hq:q≤5) {gs:List (List Int)} (hf:FamOk q gs) (hB:B_Int64SS gs) {g:List Int} (hr:Rises 0 ((q:Int)-1) g) (hgl:g.length≤1048576) {a c a' c'} (hs:KI.sl.Sl S H0 (.slice a gs.length c) gs) (hg:KI.Sl S H0 (.slice a' g.length c') g):SpecM Try.prog S H0 140 [familyV q (.slice a gs.length c),.slice a' g.length c'] (fun _ v _=>v=.tuple #[.bool (tv (Opens gs (bitsOf g))),.int .i64 0]):=by
 have hgm:∀x∈g,0≤x∧x<(q:Int):=fun x hx=>by have:=rises_mem hr x hx;omega
 have hb:bitsOf g<2 ^ q:=bitsOf_lt (fun z hz=>by have:=hgm z hz;omega)
 have hbe:Below' q gs:=fun x hx z hz=>by
  obtain⟨i,hi⟩:=List.getElem?_of_mem hx
  obtain⟨hil,rfl⟩:=List.getElem?_eq_some_iff.1 hi
  have h1:=(hf.grp i hil).1
  rw[List.getD_eq_getElem?_getD,hi] at h1
  have:=rises_mem h1 z hz
  omega
 refine SpecM.of1 Try.func140 rfl (by kernel_rfl) rfl (fun H _=>?_)
 have hs:=hs.up (S':=Low H.n) (H':=H)
 have hg:=hg.up (S':=Low H.n) (H':=H)
 refine KW.callV1 U U U U U (fun H1 g _=>l01Ok q hB (g.blk (j:=0) rfl).2 (g.blk (j:=0) rfl).1 hs.up) (fun _ _=>?_)
 rw[tv_true hf]
 refine KW.cF U U (by first | (simp;done) | decide) ?_
 refine KW.callE U U U U U (l01Group q hgl (by omega) hg) (fun _ _=>?_)
 rw[tv_true hr]
 refine KW.cF U U (by first | (simp;done) | decide) ?_
 refine KW.callNV1 U U U U U (fun H1 g _=>l01Table (by omega) hB hbe (g.blk (j:=0) rfl).2 (g.blk (j:=0) rfl).1 hs.up) (fun v HT ST mT _ _ hv=>?_)
 obtain⟨aT,cT,rfl,hT⟩:=hv
 refine KW.callE U U U U U (l01Bits (m:=q) (by omega) hgl hgm hg.up) (fun _ _=>?_)
 refine KW.getB hT.up U U U U U U U U U U U U U U U U (by omega) (by rw[tabO_len];omega) (fun y hy=>?_)
 have hy:=tabO_at hb (y:=y) (by simpa using hy)
 subst hy
 refine KW.retM1 U U U U (fun H1 g=>rfl)
theorem f6opens {q:Nat} (hq:q≤5) {gs:List (List Int)} (hf:FamOk q gs) (hB:B_Int64SS gs) {g:List Int} (hr:Rises 0 ((q:Int)-1) g) (hgl:g.length≤1048576) (ho:Opens gs (bitsOf g)) {a c a' c'} (hs:KI.sl.Sl S H0 (.slice a gs.length c) gs) (hg:KI.Sl S H0 (.slice a' g.length c') g):SpecM Try.prog S H0 58 [familyV q (.slice a gs.length c),.slice a' g.length c'] (fun _ v _=>v=.bool true):=by
 refine SpecM.of1 Try.func58 rfl (by kernel_rfl) rfl (fun H _=>?_)
 refine KW.callN1 U U U U U (mayOpenS hq hf hB hr hgl hs.up hg.up) (fun v HM SM mM _ _ hv=>?_)
 obtain rfl:=hv
 rw[tv_true ho]
 refine KW.tT U U (by first | (simp;done) | decide) ?_
 refine KW.retM1 U U U U (fun H1 g=>rfl)
end
theorem wide_ops:∀q,q<5→∀h,h<q→∀a,a<2 ^ (q-1)→∀b,b<2 ^ (q-1)→wideN (a ||| b) h=wideN a h ||| wideN b h∧wideN (a &&& b) h=wideN a h &&& wideN b h∧wideN 0 h=0:=by decide
def widL (h:Nat) (g:List Int):List Int:=g.map fun x=>if x≥(h:Int) then x+1 else x
theorem wide_hold:∀q,q<5→∀h,h<q→∀x,x<2 ^ (q-1)→widL h (hold x (q-1))=hold (wideN x h) q:=by decide
theorem cutW_at {R:List Nat} {h n b:Nat} (hb:b<n):(cutW R h n).getD b 0=R.getD (wideN b h) 0:=by
 unfold cutW
 rw[List.getD_eq_getElem?_getD,List.getElem?_map,List.getElem?_range hb];rfl
theorem cut_ok {q u h:Nat} (hq2:2≤q) (hq:q≤4) (hh:h<q) {R:List Nat} (ok:OkR q u (nI R)):OkR ((q-1:Nat):Int) u (nI (cutW R h (2 ^ (q-1)))):=by
 obtain⟨o1,o2,o3,o4,o5,o6⟩:=ok
 have hRl:R.length=2 ^ q:=by rw[nI_len,Int.toNat_natCast] at o3;exact o3
 have hp:=Nat.two_pow_pos (q-1)
 have wl:=wide_lt q (by omega) h hh
 have wo:=wide_ops q (by omega) h hh
 have lt:∀i,i<2 ^ q→i<(nI R).length:=fun i hi=>by rw[nI_len,hRl];exact hi
 have mt:∀a b,a<2 ^ q→b<2 ^ q→(a &&& b=a→R.getD a 0≤R.getD b 0)∧R.getD (a ||| b) 0+R.getD (a &&& b) 0≤R.getD a 0+R.getD b 0:=fun a b ha hb=>by
  have h1:=o6 a (lt a ha) b (lt b hb)
  unfold Bad at h1
  rw[nI_getD,nI_getD,nI_getD,nI_getD] at h1
  refine⟨fun h2=>?_,?_⟩
  ·exact Nat.le_of_not_lt fun h3=>h1 (.inl ⟨h2,by omega⟩)
  ·exact Nat.le_of_not_lt fun h3=>h1 (.inr (by omega))
 refine okR_of (by omega) (by omega) (by omega) cutW_len (by rw[cutW_at hp,(wo 0 hp 0 hp).2.2];rw[nI_getD] at o4;omega) (fun x hx=>?_) (fun a b ha hb hab=>?_) (fun a b ha hb=>?_)
 ·obtain⟨b,_,rfl⟩:=List.mem_map.1 hx
  exact okR_le (u:=u) (q:=q) ⟨o1,o2,o3,o4,o5,o6⟩ _
 ·rw[cutW_at ha,cutW_at hb]
  refine(mt _ _ (wl a ha) (wl b hb)).1 ?_
  rw[← (wo a ha b hb).2.1,hab]
 ·rw[cutW_at ha,cutW_at hb,cutW_at (Nat.or_lt_two_pow ha hb),cutW_at (Nat.lt_of_le_of_lt Nat.and_le_left ha),(wo a ha b hb).1,(wo a ha b hb).2.1]
  exact(mt _ _ (wl a ha) (wl b hb)).2
section
variable {S:Ids} {H0:AH}
theorem implCut1 {u h:Nat} {R:List Nat} (ok:OkR ((1:Nat):Int) u (nI R)) {a c} (hs:KI.Sl S H0 (.slice a (nI R).length c) (nI R)):
  SpecM Try.prog S H0 50 [ranksV ((1:Nat):Int) u (.slice a (nI R).length c),.int .i64 h] (fun _ v _=>v=.tuple #[ranksV 0 0 (.slice none 0 0),.int .i64 2]):=by
 have hRl:=okR_len ok
 have hRe:(nI R).length=R.length:=nI_len
 refine SpecM.of1 Try.func50 rfl (by kernel_rfl) rfl (fun H _=>?_)
 have hs:=hs.up (S':=Low H.n) (H':=H)
 refine KW.callE U U U U U (validRanks ((1:Nat):Int) u (by omega) hs) (fun _ _=>?_)
 rw[tv_true ok]
 refine KW.cF U U (by first | (simp;done) | decide) ?_
 refine KW.callE U U U U U (within h 0 (IntKind.i64.wrap (((1:Nat):Int)-1))) (fun _ _=>?_)
 by_cases hb:decide ((0:Int)≤(h:Int)∧(h:Int)≤IntKind.i64.wrap (((1:Nat):Int)-1))=true
 ·rw[hb]
  refine KW.tF U U (by first | (simp;done) | decide) ?_
  refine KW.cT U U (by first | (simp;done) | decide) ?_
  refine KW.build U U U U U (built_Ranks0) ?_
  refine KW.retM1 U U U U (fun H1 g=>rfl)
 ·rw[Bool.not_eq_true] at hb
  rw[hb]
  refine KW.tT U U (by first | (simp;done) | decide) ?_
  refine KW.cT U U (by first | (simp;done) | decide) ?_
  refine KW.build U U U U U (built_Ranks0) ?_
  refine KW.retM1 U U U U (fun H1 g=>rfl)
theorem specCut1 {u h:Nat} {R:List Nat} (ok:OkR ((1:Nat):Int) u (nI R)) {a c} (hs:KI.Sl S H0 (.slice a (nI R).length c) (nI R)):
  SpecM Try.prog S H0 51 [ranksV ((1:Nat):Int) u (.slice a (nI R).length c),.int .i64 h] (fun _ v _=>v=.tuple #[ranksV 0 0 (.slice none 0 0),.int .i64 2]):=by
 have hRl:=okR_len ok
 have hRe:(nI R).length=R.length:=nI_len
 refine SpecM.of1 Try.func51 rfl (by kernel_rfl) rfl (fun H _=>?_)
 have hs:=hs.up (S':=Low H.n) (H':=H)
 refine KW.callV1 U U U U U (fun H1 g _=>l07Ok ((1:Nat):Int) u (by omega) (g.blk (j:=0) rfl).2 (g.blk (j:=0) rfl).1 hs.up) (fun _ _=>?_)
 rw[tv_true ok]
 refine KW.cF U U (by first | (simp;done) | decide) ?_
 refine KW.callE U U U U U (l00In h 0 (IntKind.i64.wrap (((1:Nat):Int)-1))) (fun _ _=>?_)
 by_cases hb:decide ((0:Int)≤(h:Int)∧(h:Int)≤IntKind.i64.wrap (((1:Nat):Int)-1))=true
 ·rw[hb]
  refine KW.tF U U (by first | (simp;done) | decide) ?_
  refine KW.cT U U (by first | (simp;done) | decide) ?_
  refine KW.build U U U U U (built_Ranks0) ?_
  refine KW.retM1 U U U U (fun H1 g=>rfl)
 ·rw[Bool.not_eq_true] at hb
  rw[hb]
  refine KW.tT U U (by first | (simp;done) | decide) ?_
  refine KW.cT U U (by first | (simp;done) | decide) ?_
  refine KW.build U U U U U (built_Ranks0) ?_
  refine KW.retM1 U U U U (fun H1 g=>rfl)
noncomputable def rfL (q:Nat) (R:List Nat) (w:Nat):List (List Int):=isA (minsU q (RkOp (nI R) w) (2 ^ q))
def MkRF (q:Nat) (gs:List (List Int)) (n:Nat) (v:Value) (H1:AH):Prop:=∃a c,v=.tuple #[familyV q (.slice a gs.length c),.int .i64 0]∧KI.sl.Sl (New n H1.n) H1 (.slice a gs.length c) gs
theorem mkRF {q u:Nat} {R:List Nat} {w:List Int} (ok:OkR q u (nI R)) (hr:Rises 0 ((q:Int)-1) w) {n:Nat} {v:Value} {H1:AH} (h:MkFC (r0_RanksFamily ((q:Int),(u:Int),nI R) w) (r1_RanksFamily ((q:Int),(u:Int),nI R) w) n v H1):MkRF q (rfL q R (bitsOf w)) n v H1:=by
 obtain⟨cs,rfl,hM⟩:=h
 have e1:r1_RanksFamily ((q:Int),(u:Int),nI R) w=0:=by unfold r1_RanksFamily;rw[if_pos (tv_true ok),if_pos (tv_true hr)]
 have e0:r0_RanksFamily ((q:Int),(u:Int),nI R) w=((q:Int),rfL q R (bitsOf w)):=by unfold r0_RanksFamily;rw[if_pos e1];rfl
 rw[e0] at hM
 rw[e1]
 obtain⟨a,c,rfl,hk⟩:=split_Family (le_Family.2 _ _ _ _ hM)
 exact⟨a,c,rfl,sl1 hk⟩
theorem ranks_K {q u:Int} {R:List Int} {a c} (hs:KI.Sl S H0 (.slice a R.length c) R):K_Ranks.R S H0 (q,u,R) [.int .i64 q,.int .i64 u,.slice a R.length c]:=⟨[_],[_,_],rfl,rfl,[_],[_],rfl,rfl,sl1' hs⟩
end
theorem sw_has {L:List (List Int)} {n a:Nat} (hn:n<L.length) (ha:a<L.length) {x:List Int} (h:x∈L):x∈sw L n a:=by
 obtain⟨i,hi⟩:=List.getElem?_of_mem h
 have hS:∀j,(sw L n a)[j]?=if j=a then some L[n] else if j=n then some L[a] else L[j]?:=sw_get (List.getElem?_eq_getElem hn) (List.getElem?_eq_getElem ha)
 by_cases e1:i=n
 ·subst e1
  rw[List.getElem?_eq_getElem hn] at hi
  exact List.mem_of_getElem? (i:=a) (by rw[hS,if_pos rfl];exact hi)
 ·by_cases e2:i=a
  ·subst e2
   rw[List.getElem?_eq_getElem ha] at hi
   exact List.mem_of_getElem? (i:=n) (by rw[hS,if_neg (by omega),if_pos rfl];exact hi)
  ·exact List.mem_of_getElem? (i:=i) (by rw[hS,if_neg e2,if_neg e1];exact hi)
theorem bub_has:∀(k:Nat) {L:List (List Int)},k<L.length→∀x∈L,x∈bub L k
 | 0,_,_,x,h=>h
 | k+1,L,hk,x,h=>by
  unfold bub
  split
  ·exact bub_has k (by rw[sw_len];omega) x (sw_has hk (by omega) h)
  ·exact h
theorem isF_has {L:List (List Int)}:∀n,n<L.length∨n=0→∀x∈L,x∈isF L n
 | 0,_,x,h=>h
 | n+1,hn,x,h=>bub_has (n+1) (by rw[isF_len];omega) x (isF_has n (by omega) x h)
theorem isA_has {L:List (List Int)}:∀x∈L,x∈isA L:=isF_has _ (by omega)
theorem mn_sub {q:Nat} {op:Nat→Prop}:∀c,op c→∃m,m &&& c=m∧m≤c∧Mn q op m:=fun c=>by
 induction c using Nat.strongRecOn with
 | ind c ih=>
  intro h
  by_cases hm:Mn q op c
  ·exact⟨c,Nat.and_self _,Nat.le_refl _,hm⟩
  ·obtain⟨i,hi,hb,ho⟩:∃i,i<q∧c.testBit i=true∧op (dif c (2 ^ i)):=Classical.byContradiction fun hc=>hm ⟨h,fun i hi hb ho=>hc ⟨i,hi,hb,ho⟩⟩
   have h1:dif c (2 ^ i)≤c:=dif_le
   have h2:dif c (2 ^ i)≠c:=fun e=>by
    have:=dif_bit c (2 ^ i) i
    rw[e,hb,Nat.testBit_two_pow_self] at this
    cases this
   obtain⟨m,h3,h4,h5⟩:=ih _ (by omega) ho
   refine⟨m,?_,by omega,h5⟩
   have h6:dif c (2 ^ i) &&& c=dif c (2 ^ i):=Nat.eq_of_testBit_eq fun j=>by rw[Nat.testBit_and,dif_bit];cases c.testBit j<;>simp
   rw[← h3,Nat.and_assoc,h6]
theorem made_opens {q:Nat} {op:Nat→Prop} {w:Nat} (hw:w<2 ^ q) (h:op w):Opens (isA (minsU q op (2 ^ q))) w:=by
 obtain⟨m,h1,h2,h3⟩:=mn_sub (q:=q) w h
 refine⟨hold m q,isA_has _ (List.mem_map.2 ⟨m,List.mem_filter.2 ⟨List.mem_range.2 (by omega),tv_true h3⟩,rfl⟩),?_⟩
 rw[bits_hold (by omega),Nat.and_comm]
 exact h1
section
variable {S:Ids} {H0:AH}
theorem rfL_opens {q u:Nat} (hq:q≤7) {R:List Nat} (ok:OkR q u (nI R)) {w:Nat} (hw:w<2 ^ q):Opens (rfL q R w) w:=by
 have hop:RkOp (nI R) w w:=by unfold RkOp;rw[Nat.or_self];exact Int.le_refl _
 exact made_opens hw hop
theorem rankAtN {q u n1:Nat} (hq:q≤5) {R:List Nat} (ok:OkR q u (nI R)) {g:List Int} (hn:n1=g.length) (hr:Rises 0 ((q:Int)-1) g) (hgl:g.length≤1048576) {a c a' c'} (hs:KI.Sl S H0 (.slice a (nI R).length c) (nI R)) (hg:KI.Sl S H0 (.slice a' g.length c') g):Spec Try.prog S H0 48 [ranksV q u (.slice a (nI R).length c),.slice a' n1 c'] (fun v=>v=.tuple #[.int .i64 (R.getD (bitsOf g) 0:Nat),.int .i64 0]):=by
 subst hn
 exact rankAt hq ok hr hgl hs hg
theorem lawCutRanks {ar0 ar1:List Int} {p0 p1:Option Addr} {q0 q1:Nat} (hW0:W_B ar0) (h0:K_B.R S H0 ar0 [.slice p0 ar0.length q0]) (hW1:W_B ar1) (h1:K_B.R S H0 ar1 [.slice p1 ar1.length q1]):Spec Try.prog S H0 8 [.slice p0 ar0.length q0,.slice p1 ar1.length q1] (fun v=>v=.bool true):=by
 have s0:=sl1 h0
 have s1:=sl1 h1
 refine Spec.of1 Try.func8 rfl (by kernel_rfl) rfl (fun H _=>?_)
 refine KW.call U U U U U (f6big) (fun v _ _ hv=>?_)
 obtain⟨b0,rfl,hb0⟩:=hv
 cases b0 with
 | true=>
  refine KW.tT U U (by first | (simp;done) | decide) ?_
  refine KW.cT U U (by first | (simp;done) | decide) ?_
  exact KW.ret U U U U (rfl)
 | false=>
 have hb0:=hb0 rfl
 refine KW.tF U U (by first | (simp;done) | decide) ?_
 refine KW.call U U U U U (f6big) (fun v _ _ hv=>?_)
 obtain⟨b1,rfl,hb1⟩:=hv
 cases b1 with
 | true=>
  refine KW.cT U U (by first | (simp;done) | decide) ?_
  exact KW.ret U U U U (rfl)
 | false=>
 have hb1:=hb1 rfl
 refine KW.cF U U (by first | (simp;done) | decide) ?_
 refine KW.callN1 U U U U U (p6Family hW0.2 (by omega) s0.up) (fun v HF SF mF _ _ hv=>?_)
 obtain⟨q,gs,hq1,hq4,hcode,aF,cF,rfl,hmF⟩:=hv
 refine KW.callN1 U U U U U (p6Ranks hq1 hq4 hW1.2 (by omega) s1.up hcode hmF.upS) (fun v HR SR mR _ _ hv=>?_)
 obtain⟨u,R,ok,aR,cR,rfl,hmR⟩:=hv
 refine KW.callN1 U U U U U (p6Pick hW1.2 (by omega) (m:=q) hq1 (by omega) s1.up) (fun v HK SK mK _ _ hv=>?_)
 obtain⟨z,hz,rfl⟩:=hv
 by_cases hq:q=1
 ·subst hq
  refine KW.callN1 U U U U U (implCut1 (h:=z) ok hmR.sl.up) (fun v HC SC mC _ _ hv=>?_)
  obtain rfl:=hv
  refine KW.callN1 U U U U U (specCut1 (h:=z) ok hmR.sl.up) (fun v HD SD mD _ _ hv=>?_)
  obtain rfl:=hv
  refine KW.tF U U (by first | (simp;done) | decide) ?_
  refine KW.callE U U U U U (sameRanksEq (q:=0) (u:=0) (R:=[]) (by simp) (.inl ⟨rfl,_,_,rfl,fun _=>rfl⟩) (.inl ⟨rfl,_,_,rfl,fun _=>rfl⟩)) (fun _ _=>?_)
  refine KW.cF U U (by first | (simp;done) | decide) ?_
  refine KW.cT U U (by first | (simp;done) | decide) ?_
  refine KW.tT U U (by first | (simp;done) | decide) ?_
  exact KW.retM U U U U (fun id hid=>(inferInstance:On (Low H.n) H SD HD).st id hid) (fun H1 g=>rfl)
 have hq2:2≤q:=by omega
 have ok2:=cut_ok hq2 hq4 hz ok
 have ew:IntKind.i64.wrap ((q:Int)-1)=((q-1:Nat):Int):=by rw[wr (by omega) (by omega)];omega
 refine KW.callN1 U U U U U (implCutRanks hq2 hq4 hz ok hmR.sl.up) (fun v HC SC mC _ _ hv=>?_)
 obtain⟨v1,rfl,aC,cC,rfl,hmC⟩:=hv
 refine KW.callN1 U U U U U (specCutRanks hq2 hq4 hz ok hmR.sl.up) (fun v HD SD mD _ _ hv=>?_)
 obtain⟨v2,rfl,aD,cD,rfl,hmD⟩:=hv
 have hcl:(nI (cutW R z (2 ^ (q-1)))).length≤1048576:=by
  rw[nI_len,cutW_len]
  exact Nat.le_trans (Nat.pow_le_pow_right (by decide) (show q-1≤3 by omega)) (by decide)
 refine KW.tF U U (by first | (simp;done) | decide) ?_
 refine KW.callE U U U U U (sameRanksEq hcl hmC.sl.up hmD.sl.up) (fun _ _=>?_)
 refine KW.cF U U (by first | (simp;done) | decide) ?_
 refine KW.cF U U (by first | (simp;done) | decide) ?_
 refine KW.callN1 U U U U U (p6Group (q:=q-1) hW0.2 (by omega) (by omega) ew s0.up) (fun v HG SG mG _ _ hv=>?_)
 obtain⟨x,hx,aG,cG,rfl,hmG⟩:=hv
 refine KW.lit U U U U U U U U U U [] U U (fun v hv=>by simp at hv) rfl ?_
 have hwl:=wide_hold q (by omega) z hz x hx
 have hGl:(hold x (q-1)).length≤q:=by
  unfold hold;rw[List.length_map]
  exact Nat.le_trans (List.length_filter_le _ _) (by simp)
 have hsG:KI.Sl SG HG (.slice aG (hold x (q-1)).length cG) (hold x (q-1)):=hmG.sl.up
 have rkC:(nI (cutW R z (2 ^ (q-1)))).length=(nI (cutW R z (2 ^ (q-1)))).length:=rfl
 have wn:∀{i:Nat} {y:Int},(hold x (q-1))[i]?=some y→widL z ((hold x (q-1)).take (i+1))=widL z ((hold x (q-1)).take i)++[if y≥(z:Int) then y+1 else y]:=fun h=>by
  unfold widL
  exact map_take_succ _ h
 have hGm:∀y∈hold x (q-1),0≤y∧y<((q-1:Nat):Int):=fun y hy=>by have:=rises_mem (hold_rises x (q-1)) y hy;omega
 refine KW.lpM U U (fun s:Nat × Nat=>[(1,.slice p1 ar1.length q1),(6,.pointer (some ⟨HR.n,0,some 1⟩)),(7,.int .i64 z),(10,.pointer (some ⟨HD.n,0,some 3⟩)),(12,.slice aG (hold x (q-1)).length cG),(13,.slice (some ⟨s.2,0,some 1⟩) (widL z ((hold x (q-1)).take s.1)).length (widL z ((hold x (q-1)).take s.1)).length),(14,.int .i64 s.1)]) (fun s=>SG) (fun s=>HG) (fun s=>[(HF.n,⟨78,true,[.int .i64 q,.slice aF gs.length cF]⟩),(HR.n,⟨91,true,[.int .i64 q,.int .i64 u,.slice aR (nI R).length cR]⟩),(HC.n,⟨91,true,[.int .i64 (q-1:Nat),.int .i64 u,.slice aC (nI (cutW R z (2 ^ (q-1)))).length cC]⟩),(HD.n,⟨91,true,[.int .i64 (q-1:Nat),.int .i64 u,.slice aD (nI (cutW R z (2 ^ (q-1)))).length cD]⟩),(s.2,⟨_,true,(widL z ((hold x (q-1)).take s.1)).map (Value.int .i64)⟩)]) (fun s=>s.1≤(hold x (q-1)).length) (fun s=>(hold x (q-1)).length-s.1) ((0,_)) (Nat.zero_le _) ⟨rfl,rfl,rfl,rfl,rfl,rfl,rfl,trivial⟩ U U (rfl) (fun s hi bE n=>?_)
 obtain⟨i,o⟩:=s
 simp only at hi
 have hwi:(widL z ((hold x (q-1)).take i)).length≤i:=by unfold widL;rw[List.length_map,List.length_take];omega
 refine KW.cnd U U (fun k1=>?_) (fun k1=>?_)
 ·have k1:(i:Int)<(hold x (q-1)).length:=k1
  refine KW.getI hsG U U U U U U U U U U U U U U U U (by omega) (k1) (fun y hy=>?_)
  have hy:(hold x (q-1))[i]?=some y:=hy
  have hyb:=hGm y (List.mem_of_getElem? hy)
  have e:=wn hy
  refine KW.cnd U U (fun k2=>?_) (fun k2=>?_)
  ·have k2:y≥(z:Int):=k2
   rw[if_pos k2] at e
   have ey:IntKind.i64.wrap (y+1)=y+1:=wr (by omega) (by omega)
   refine KW.app1 (xs:=(widL z ((hold x (q-1)).take i)).map (Value.int .i64)) (v:=.int .i64 (IntKind.i64.wrap (y+1))) 4 5 U U U U U U U U U U U U U U U U U U U U U U U (by simp) (by show(_+1)*8≤_;first | omega | (simp only;omega)) (by first | omega | (simp only;omega)) ?_
   refine KW.nxt U U (fun H' g=>⟨(i+1,_),by simp only;omega,by first | omega | (simp only;omega),⟨rfl,rfl,rfl,rfl,rfl,by simp only[e,List.length_append,List.length_singleton];rfl,congrArg (Value.int .i64) (inc64 (by omega)),trivial⟩,g.eqT (by simp only[e,List.map_append,ey];rfl)⟩)
  ·have k2:¬y≥(z:Int):=k2
   rw[if_neg k2] at e
   refine KW.app1 (xs:=(widL z ((hold x (q-1)).take i)).map (Value.int .i64)) (v:=.int .i64 y) 4 5 U U U U U U U U U U U U U U U U U U U U U U U (by simp) (by show(_+1)*8≤_;first | omega | (simp only;omega)) (by first | omega | (simp only;omega)) ?_
   refine KW.nxt U U (fun H' g=>⟨(i+1,_),by simp only;omega,by first | omega | (simp only;omega),⟨rfl,rfl,rfl,rfl,rfl,by simp only[e,List.length_append,List.length_singleton];rfl,congrArg (Value.int .i64) (inc64 (by omega)),trivial⟩,g.eqT (by simp only[e,List.map_append];rfl)⟩)
 have k1:¬(i:Int)<(hold x (q-1)).length:=k1
 obtain rfl:i=(hold x (q-1)).length:=by omega
 have et:widL z ((hold x (q-1)).take (hold x (q-1)).length)=hold (wideN x z) q:=by rw[List.take_length];exact hwl
 refine KW.freeze 4 rfl (fun A6 S6 hn6 hS6 st6 hm6 ho6 hnS6 hlow6=>?_)
 have hwlt:=wide_lt q (by omega) z hz x hx
 have hsN:KI.Sl S6 A6 (.slice (some ⟨o,0,some 1⟩) (widL z ((hold x (q-1)).take (hold x (q-1)).length)).length (widL z ((hold x (q-1)).take (hold x (q-1)).length)).length) (widL z ((hold x (q-1)).take (hold x (q-1)).length)):=(int_ml (S:=S6) ((hS6 o).2 (.inr rfl)) hm6 U U (Nat.le_refl _)).sl
 rw[et] at hsN
 have hsN2:KI.Sl S6 A6 (.slice (some ⟨o,0,some 1⟩) (hold (wideN x z) q).length (widL z ((hold x (q-1)).take (hold x (q-1)).length)).length) (hold (wideN x z) q):=by rw[et];exact hsN
 have hl1:(hold x (q-1)).length≤1048576:=by omega
 have hl2:(hold (wideN x z) q).length≤1048576:=by
  unfold hold;rw[List.length_map]
  exact Nat.le_trans (List.length_filter_le _ _) (by simp;omega)
 refine KW.callE U U U U U (rankAt (q:=q-1) (by omega) ok2 (hold_rises x (q-1)) hl1 hmD.sl.up hsG.up) (fun _ _=>?_)
 refine KW.callE U U U U U (rankAtN (g:=hold (wideN x z) q) (by omega) ok (congrArg List.length et) (hold_rises (wideN x z) q) hl2 hmR.sl.up hsN2) (fun _ _=>?_)
 refine KW.callN1 U U U U U (p6Group (q:=q) hW1.2 (by omega) (by omega) rfl s1.up) (fun v HW SW mW _ _ hv=>?_)
 obtain⟨y,hy,aW,cW,rfl,hmW⟩:=hv
 have hl3:(hold y q).length≤1048576:=by
  unfold hold;rw[List.length_map]
  exact Nat.le_trans (List.length_filter_le _ _) (by simp;omega)
 have hRl:=okR_len ok
 have hRB:B_Ranks ((q:Int),(u:Int),nI R):=⟨show I64 (q:Int) from⟨by omega,by omega⟩,show I64 (u:Int) from⟨by have:=ok.2.1;omega,by have:=ok.2.1;omega⟩,by
  show(nI R).length≤1048576
  rw[nI_len,hRl]
  exact Nat.le_trans (Nat.pow_le_pow_right (by decide) hq4) (by decide)⟩
 refine KW.callN1 U U U U U (impl_RanksFamily hRB hl3 (ranks_K hmR.sl.up) (sl1' hmW.sl.up)) (fun v HX SX mX _ _ hv=>?_)
 obtain hv:=hv
 obtain⟨aX,cX,rfl,hsX⟩:=mkRF ok (hold_rises y q) hv
 refine KW.callN1 U U U U U (spec_RanksFamily hRB hl3 (ranks_K hmR.sl.up) (sl1' hmW.sl.up)) (fun v HY SY mY _ _ hv=>?_)
 obtain hv:=hv
 obtain⟨aY,cY,rfl,hsY⟩:=mkRF ok (hold_rises y q) hv
 have hu:=rk_up ok (w:=y) (by rw[Int.toNat_natCast];exact hy)
 rw[Int.toNat_natCast] at hu
 have hrf:FamOk q (rfL q R (bitsOf (hold y q))):=by rw[bits_hold hy];exact fam_made hq1 (by omega) hu
 have hop:Opens (rfL q R (bitsOf (hold y q))) (bitsOf (hold y q)):=by rw[bits_hold hy];exact rfL_opens (by omega) ok hy
 have hsml:B_Int64SS (rfL q R (bitsOf (hold y q))):=by
  refine sml_small ?_ fun g hg=>?_
  ·unfold rfL
   rw[isA_len]
   exact Nat.le_trans minsU_len (Nat.le_trans (Nat.pow_le_pow_right (by decide) hq4) (by decide))
  ·obtain⟨c,_,_,rfl⟩:=mins_of hg
   unfold hold;rw[List.length_map]
   exact Nat.le_trans (List.length_filter_le _ _) (by simp;omega)
 have hcut:(cutW R z (2 ^ (q-1))).getD (bitsOf (hold x (q-1))) 0=R.getD (bitsOf (hold (wideN x z) q)) 0:=by rw[bits_hold hx,bits_hold hwlt,cutW_at hx]
 refine KW.callE U U U U U (validRanks ((q-1:Nat):Int) u hcl hmD.sl.up) (fun _ _=>?_)
 rw[tv_true ok2]
 refine KW.tT U U (by first | (simp;done) | decide) ?_
 refine KW.tT U U (by first | (simp;done) | decide) ?_
 refine KW.tT U U (by first | (simp;done) | decide) ?_
 refine KW.tT U U (by show(((((cutW R z (2 ^ (q-1))).getD (bitsOf (hold x (q-1))) 0:Nat):Int))==(((R.getD (bitsOf (hold (wideN x z) q)) 0:Nat):Int)))=true;rw[hcut];simp) ?_
 refine KW.tT U U (by first | (simp;done) | decide) ?_
 refine KW.tT U U (by first | (simp;done) | decide) ?_
 refine KW.callE U U U U U (sameFamilyEq hsml hsX.up hsY.up) (fun _ _=>?_)
 refine KW.tT U U (by first | (simp;done) | decide) ?_
 refine KW.callN1 U U U U U (f6opens (by omega) hrf hsml (hold_rises y q) hl3 hop hsY.up hmW.sl.up) (fun v HZ SZ mZ _ _ hv=>?_)
 obtain rfl:=hv
 exact KW.retM U U U U (fun id hid=>(inferInstance:On (Low H.n) H SZ HZ).st id hid) (fun H1 g=>rfl)
end
end Go.Proofs.Ytlapbbffoapleaa.Am
namespace Go.Proofs.Ytlapbbffoapleaa.Am
open Go
theorem joined_of {P:Program} {f:FuncId} {fn:Func} {s:ChangeSpec} {c:OpenClaim}
  (h0:(c.wf (OpenSpec.ofChange s))=true)
  (h1:(laidOutB P)=true)
  (h2:(mapsRowed P)=true)
  (h3:(fn.params.all (P.readableRec ·))=true)
  (h4:(namedTie P c.named s.vars)=true)
  (h5:((c.stops==[]))=true)
  (h6:((P.stops==[]))=true)
  (h7:((c.knobs==[]))=true)
  (h8:((P.stopKnobs==[]))=true)
  (h9:((c.inPlace==P.inPlace f))=true)
  (h10:((c.unfollowed==P.unfollowed f))=true)
  (h11:((c.recurses==P.recurses f))=true)
  (h12:((c.named==P.varsNamed f))=true)
  (h13:((c.maps==(fn.params.toList++s.plain.varTypes P).any (P.mapsRec ·)))=true)
  (h14:((c.ifaces==(fn.params.toList++s.plain.varTypes P).any (P.ifacesRec ·)))=true)
  (h15:((c.mapsOut==P.mapsAmong fn.resultTypes.toList))=true)
  (h16:((c.loops==(fn.params.toList++s.plain.varTypes P).any (P.loopsFrom ·)))=true)
  (h17:((c.wideKeys==(fn.params.toList++s.plain.varTypes P++fn.resultTypes.toList).any (P.wideKeysFrom ·)))=true)
  (h18:(s.vars.all (P.varReadable ·))=true)
  (h19:(fn.resultTypes.all (fun t=>P.readableRec t&&decide (t<P.types.size)))=true)
  (h20:((c.ifacesOut==fn.resultTypes.toList.any (P.ifacesRec ·)))=true)
  (h21:((c.loopsOut==fn.resultTypes.toList.any (P.loopsFrom ·)))=true)
  (h22:((c.plainKeys==P.plainKeys))=true)
  (h23:(c.shortTexts.isNone)=true)
  (h24:(P.stopsHeard)=true)
  (h25:(P.mayEnter)=true)
  (h26:((c.lifted==P.liftsFinal))=true)
  (h27:((P.make==some c.make))=true)
  (h28:((c.kinds==(if c.domain.isEmpty then [] else fn.params.toList.map fun t=>match P.underlying t with | some (.int k)=>some k | _=>none)))=true)
  (h29:((c.pinned==c.pinnedBy))=true)
  (h30:((c.veiled==(fn.params.toList++s.plain.varTypes P++fn.resultTypes.toList).any (P.veiledRec ·)))=true)
  (h31:(c.veiledFits P fn.params.toList (fn.params.toList++s.plain.varTypes P++fn.resultTypes.toList))=true)
  :joinedFacts P f fn s c=true:=by
 unfold joinedFacts
 simp only[Bool.and_eq_true]
 exact⟨⟨⟨⟨⟨⟨⟨⟨⟨⟨⟨⟨⟨⟨⟨⟨⟨⟨⟨⟨⟨⟨⟨⟨⟨⟨⟨⟨⟨⟨⟨h0,h1⟩,h2⟩,h3⟩,h4⟩,h5⟩,h6⟩,h7⟩,h8⟩,h9⟩,h10⟩,h11⟩,h12⟩,h13⟩,h14⟩,h15⟩,h16⟩,h17⟩,h18⟩,h19⟩,h20⟩,h21⟩,h22⟩,h23⟩,h24⟩,h25⟩,h26⟩,h27⟩,h28⟩,h29⟩,h30⟩,h31⟩
end Go.Proofs.Ytlapbbffoapleaa.Am
