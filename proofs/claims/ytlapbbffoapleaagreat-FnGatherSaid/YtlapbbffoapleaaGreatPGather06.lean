/- Contracts and laws on abstract memory, merged. Each holds under its own conditions. -/
import Derived.Test.YtlapbbffoapleaaGreatPGather05
set_option linter.unusedVariables false
set_option linter.unusedSimpArgs false
set_option maxRecDepth 20000
set_option maxHeartbeats 4000000
namespace Go.Proofs.YtlapbbffoapleaaGreat.Am
open Go Go.RowKit Go.Proofs Go.Proofs.YtlapbbffoapleaaGreat.Pl
theorem built_Prt (a1 a2:Option Addr) (n1 c1 n2 c2:Nat):Tryz.prog.built 241 [(0,.slice a1 n1 c1),(1,.slice a2 n2 c2)]=some #[.slice a1 n1 c1,.slice a2 n2 c2]:=by kernel_rfl
structure CbS where
 i:Nat
 S:Ids
 A:AH
 V:Ids
 o:Nat
 cs:List Value
structure CbI (p:Int) (L:List (List Int)) (H:AH) (s:CbS):Prop where
 le:s.i≤L.length
 old:∀id,id<H.n→s.S id∧s.A.m id=H.m id
 v:∀id,s.V id→s.S id
 len:s.cs.length=(basN p L s.i).length*2
 cl:Cl K_Prt s.V s.A (basN p L s.i) s.cs
def MkCb (r:Option (List Int)) (n:Nat) (v:Value) (H1:AH):Prop:=
 match r with
 | none=>v=.tuple #[.slice none 0 0,.bool false]
 | some cs=>∃a c,v=.tuple #[.slice a cs.length c,.bool true]∧KI.Sl (New n H1.n) H1 (.slice a cs.length c) cs
theorem wrM {p:Int} (hp:2≤p∧p≤31):IntKind.i64.wrap (p-1)=p-1:=wr (by omega) (by omega)
section
variable {S:Ids} {H0:AH}
theorem combination {p:Int} {k:Nat} (hp:PrimeP p) (hk0:1≤k) (hk:k≤100) {L:List (List Int)} {t:List Int} (hLl:L.length≤100) (hL:Rect p k L) (ht:t.length=k∧∀a∈t,0≤a∧a<p) {a1 c1 a2 c2} (hs0:KI.sl.Sl S H0 (.slice a1 L.length c1) L) (ht0:KI.Sl S H0 (.slice a2 t.length c2) t):
  SpecM Tryz.prog S H0 125 [.agg #[.int .i64 p,.int .i64 k,.slice a1 L.length c1],.slice a2 t.length c2] (MkCb (comb p L t)):=by
 have hf:=fer hp
 have hp31:2≤p∧p≤31:=⟨hp.1,hp.2.1⟩
 have hp0:0<p:=by omega
 refine SpecM.of1 Tryz.func125 rfl (by kernel_rfl) rfl (fun H _=>?_)
 have hs:=hs0.up (S':=Low H.n) (H':=H)
 have hts:=ht0.up (S':=Low H.n) (H':=H)
 have bok:=fun m hm=>basN_ok hf hL m hm
 refine KW.litS0 U U U U U U U U U U ?_
 refine KW.lpM U U (fun s:CbS=>[(1,.slice a2 t.length c2),(2,.pointer (some ⟨H.n,0,some 0⟩)),(4,.slice none 0 0),(5,.bool false),(6,.pointer (some ⟨H.n+2,0,some 2⟩)),(7,.func (.func 189) #[] #[.pointer (some ⟨H.n+2,0,some 2⟩),.pointer (some ⟨H.n,0,some 0⟩)]),(17,.slice a1 L.length c1),(18,.int .i64 L.length),(19,.int .i64 s.i)]) (fun s=>s.S) (fun s=>s.A) (fun s=>[(H.n,⟨27,true,[.int .i64 p,.int .i64 k,.slice a1 L.length c1]⟩),(s.o,⟨241,true,s.cs⟩),(H.n+2,⟨239,true,[.slice (some ⟨s.o,0,some 2⟩) (basN p L s.i).length (basN p L s.i).length]⟩)]) (fun s=>CbI p L H s) (fun s=>L.length-s.i) (⟨0,Low H.n,H,fun _=>False,H.n+1,[]⟩) (⟨Nat.zero_le _,fun id h=>⟨h,rfl⟩,fun _ h=>h.elim,rfl,Cl.nil _ _ _ _⟩) ⟨rfl,rfl,rfl,rfl,rfl,rfl,rfl,rfl,rfl,trivial⟩ U U (rfl) (fun s hi bE n=>?_)
 obtain⟨i,S1,A1,V,o,cs⟩:=s
 obtain⟨ile,old,hV,hcl,cl⟩:=hi
 simp only at ile old hV hcl cl
 haveI o1:On (Low H.n) H S1 A1:=⟨old⟩
 refine KW.ids (fun hlow hvar=>?_)
 refine KW.fact (p:=H.n+2<n∧o<n∧¬S1 o∧¬S1 (H.n+2)) (fun H1 g=>⟨(g.vars 2 _ rfl).2.1,(g.vars 1 _ rfl).2.1,(g.vars 1 _ rfl).2.2,(g.vars 2 _ rfl).2.2⟩) (fun hf1=>?_)
 obtain⟨f1,f2,f3,f4⟩:=hf1
 refine KW.cnd U U (fun k1=>?gin) (fun k1=>?gout)
 case gin=>
  have k1:(i:Int)<(L.length:Int):=k1
  have bm:=bok i ile
  refine KW.getL hs.up U U U U U U U U U U U U U U U U (by omega) (k1) (fun y ay cy hy hsy=>?_)
  have hy:L[i]?=some y:=hy
  have hym:=hL y (List.mem_of_getElem? hy)
  refine KW.callN1 U U U U U (cloneB (by omega) hsy) (fun v HC SC mC _ _ hv=>?_)
  rcases hv with⟨hy0,rfl⟩ | ⟨o3,rfl,hno3,hmo3⟩
  ·exfalso;rw[hy0] at hym;have:=hym.1;simp at this;omega
  have tC:=(inferInstance:On S1 A1 SC HC).st
  refine KW.mk1 U U U U U U U U U U U U (L.length) U U (by omega) (by show 8*_≤_;omega) ?_
  refine KW.ids (fun hlowC hvarC=>?_)
  have oC:S1 o3→False:=fun h=>by have:=hlow _ h;have:=hno3.1;omega
  have sC3:SC o3:=(inferInstance:On (New _ HC.n) HC SC HC).st o3 hno3 |>.1
  refine KW.freeze 3 rfl (fun A4 S4 hn4 hS4 st4 hm4 hlt4 hno4 hlow4=>?_)
  refine KW.build U U U U U (built_Prt _ _ _ _ _ _) ?_
  refine KW.idx0 U U U U U U U U U (by omega) (by omega) ?_
  refine KW.thaw HC.n ⟨2,true,List.replicate L.length (.int .i64 0)⟩ ((hS4 _).2 (.inr rfl)) hm4 ?_
  refine KW.st1 4 U U U U U U U U U U U U (by simp;omega) ?_
  refine KW.freeze 4 rfl (fun A5 S5 hn5 hS5 st5 hm5 hlt5 hno5 hlow5=>?_)
  have S45:∀id,S4 id→S5 id∧(id≠HC.n→A5.m id=A4.m id):=fun id h=>by
   by_cases e:id=HC.n
   ·exact⟨(hS5 id).2 (.inr e),fun h=>absurd e h⟩
   ·exact⟨(st5.st id ⟨h,e⟩).1,fun _=>(st5.st id ⟨h,e⟩).2⟩
  have SC5:∀id,SC id→S5 id∧A5.m id=HC.m id:=fun id h=>by
   have h1:=st4.st id h
   have h2:=S45 id h1.1
   have:id≠HC.n:=fun e=>hno4 (e ▸ h)
   exact⟨h2.1,(h2.2 this).trans h1.2⟩
  have S15:∀id,S1 id→S5 id∧A5.m id=A1.m id:=fun id h=>⟨(SC5 id (tC id h).1).1,(SC5 id (tC id h).1).2.trans (tC id h).2⟩
  have ok5:Has3 S5 A5 0 0 []∨True:=.inr trivial
  have hr1:KI.Ml (fun id=>id=o3) A5 (.slice (some ⟨o3,0,some 1⟩) y.length y.length) y:=row_ml ((SC5 o3 sC3).2.trans hmo3)
  have hun:(List.replicate L.length (Value.int .i64 0)).set (0+(i:Int).toNat*1) (.int .i64 1)=(unitR L.length i).map (Value.int .i64):=by
   rw[show 0+(i:Int).toNat*1=i by omega,unitR,List.map_set,List.map_replicate]
  have hm5':A5.m HC.n=some ⟨2,true,(unitR L.length i).map (Value.int .i64)⟩:=hm5.trans (congrArg (fun z=>some (⟨2,true,z⟩:Blk)) hun)
  have hul:(unitR L.length i).length=L.length:=by simp[unitR]
  have hr2:KI.Ml (fun id=>id=HC.n) A5 (.slice (some ⟨HC.n,0,some 1⟩) (unitR L.length i).length L.length) (unitR L.length i):=by
   have:=row_ml (A:=A5) (o:=HC.n) (ty:=2) (xs:=unitR L.length i) hm5'
   rw[hul] at this ⊢
   exact this
  have hx:=row_ok hp31.1 hL (by omega:i<L.length)
  rw[show L.getD i []=y by rw[List.getD_eq_getElem?_getD,hy];rfl] at hx
  have no3:n≤o3:=hno3.1
  have no4:n≤HC.n:=mC
  refine KW.callWV (W:=fun id=>id=o3∨id=HC.n) (post:=fun _ v H1=>v=.agg #[.slice (some ⟨o3,0,some 1⟩) y.length y.length,.slice (some ⟨HC.n,0,some 1⟩) L.length L.length]∧KI.Ml (fun id=>id=o3) H1 (.slice (some ⟨o3,0,some 1⟩) y.length y.length) (less p (basN p L i) (y,unitR L.length i)).1∧KI.Ml (fun id=>id=HC.n) H1 (.slice (some ⟨HC.n,0,some 1⟩) L.length L.length) (less p (basN p L i) (y,unitR L.length i)).2) (fun id h=>by rcases h with h | h;rw[h];exact(SC5 o3 sC3).1;rw[h];exact(hS5 _).2 (.inr rfl)) U U U U U (fun H6 g st6=>?gc) (fun v A6 S6 m6 t6 w6 hv6=>?_)
  case gc=>
   have hM:=g.has (j:=0) U U
   have hb:=g.has (j:=2) U U
   have hlit:=g.blk (j:=1) rfl
   have z6:∀id,S5 id→id<H6.n∧H6.m id=A5.m id:=fun id h=>by have h1:=g.froz id h;have:=g.n_;exact⟨by omega,h1.2⟩
   have clX:K_Prt.Sl (fun id=>id=o∨V id) H6 (.slice (some ⟨o,0,some 2⟩) (basN p L i).length (basN p L i).length) (basN p L i):=
    (cl.mv (X':=fun id=>V id) (A':=H6) (fun id h=>((z6 id (S15 id (hV id h)).1).2).trans (S15 id (hV id h)).2) (fun _ h=>h)).sl (.inl rfl) hlit.1 rfl (fun id h=>.inr h) (Nat.le_refl _)
   have key:=lessC (S:=Low H6.n) (H0:=H6) (a1:=some ⟨o3,0,some 1⟩) (c1:=y.length) (a2:=some ⟨HC.n,0,some 1⟩) (c2:=L.length) (x:=(y,unitR L.length i)) (W1:=fun id=>id=o3) (W2:=fun id=>id=HC.n) (X:=fun id=>id=o∨V id) hp hk hLl (fun b hb=>(bm b hb).1) hx (by have:=basN_len (p:=p) (L:=L) i;omega) hM (by omega) hb (by omega) clX (fun id h=>⟨by
    rcases h with h | h
    ·rw[h];exact hlit.2
    ·exact(z6 id (S15 id (hV id h)).1).1,fun hh=>by
    rcases h with h | h
    ·omega
    ·have:=hlow id (hV id h);omega⟩) (fun id h=>by
     rcases h with h | h
     ·rw[h];exact(z6 o3 (SC5 o3 sC3).1).1
     ·rw[h];exact(z6 _ ((hS5 _).2 (.inr rfl))).1) (fun id h h'=>by have e1:id=o3:=h;have e2:id=HC.n:=h';have:=hno3.2;omega) (Kn.Ml.same (fun id h=>by rw[h];exact(z6 o3 (SC5 o3 sC3).1).2) hr1) (Kn.Ml.same (fun id h=>by rw[h];exact(z6 _ ((hS5 _).2 (.inr rfl))).2) hr2)
   simp only[hul] at key
   exact key
  obtain⟨rfl,w1,w2⟩:=hv6
  obtain⟨z,ez⟩:∃z,less p (basN p L i) (y,unitR L.length i)=z:=⟨_,rfl⟩
  have hz:PrOk p k L.length z:=by rw[← ez];exact less_ok hp0 _ _ (fun b hb=>(bm b hb).1.1) hx
  have eB:basN p L (i+1)=if fz z.1<z.1.length then basN p L i++[nrm p z] else basN p L i:=by
   show insR p (basN p L i) (L.getD i [],unitR L.length i)=_
   rw[show L.getD i []=y by rw[List.getD_eq_getElem?_getD,hy];rfl]
   unfold insR
   rw[ez]
  rw[ez] at w1 w2
  have l1:y.length=z.1.length:=hym.1.trans hz.1.1.symm
  have l2:L.length=z.2.length:=hz.2.1.symm
  have s3:S6 o3:=(t6 o3 (SC5 o3 sC3).1).1
  have s4:S6 HC.n:=(t6 HC.n ((hS5 _).2 (.inr rfl))).1
  have S56:∀id,S5 id→id≠o3→id≠HC.n→A6.m id=A5.m id:=fun id h e1 e2=>(t6 id h).2 (fun hh=>hh.elim e1 e2)
  have S16:∀id,S1 id→S6 id∧A6.m id=A1.m id:=fun id h=>by
   have h1:=hlow id h
   have h2:=S15 id h
   exact⟨(t6 id h2.1).1,(S56 id h2.1 (by omega) (by omega)).trans h2.2⟩
  have old6:∀id,id<H.n→S6 id∧A6.m id=H.m id:=fun id h=>⟨(S16 id (old id h).1).1,(S16 id (old id h).1).2.trans (old id h).2⟩
  have sl1':KI.Sl S6 A6 (.slice (some ⟨o3,0,some 1⟩) y.length y.length) z.1:=w1.sl.more (fun id h=>by rw[h];exact s3)
  have hz1l:=hz.1.1
  have hz2l:=hz.2.1
  by_cases hfz:fz z.1<z.1.length
  ·rw[if_pos hfz] at eB
   have key:=first (S:=S6) (H0:=A6) (xs:=z.1) (a:=some ⟨o3,0,some 1⟩) (c:=y.length) (by omega) (by rw[← l1];exact sl1')
   rw[if_pos hfz,← l1] at key
   refine KW.callE U U U U U (key) (fun _ _=>?_)
   refine KW.yes U U (by omega) ?_
   refine KW.getI sl1' U U U U U U U U U U U U U U U U (by omega) (by omega) (fun z0 hz0=>?_)
   have hz0:z.1[fz z.1]?=some z0:=hz0
   have hz0D:z.1.getD (fz z.1) 0=z0:=by rw[List.getD_eq_getElem?_getD,hz0];rfl
   have hin:=el_ok hp0 hz.1 (fz z.1)
   rw[hz0D] at hin
   refine KW.callE U U U U U (inverse p z0 hp31 hin) (fun _ _=>?_)
   have hpw:=pw_ok hp31.1 (p:=p) (a:=z0) (p-2).toNat
   have k2:=scaled (S:=S6) (H0:=A6) (W:=fun id=>id=o3) (p:=p) (b:=pw p z0 (p-2).toNat) hp31 hpw (a:=some ⟨o3,0,some 1⟩) (c:=y.length) (xs:=z.1) (by omega) hz.1.2 (fun id h=>by rw[h];exact s3) (by rw[← l1];exact w1)
   rw[← l1] at k2
   refine KW.callW (W:=fun id=>id=o3) (fun id h=>by rw[h];exact s3) U U U U U k2 (fun v A7 S7 m7 t7 w7 hv7=>?_)
   have w27:KI.Ml (fun id=>id=HC.n) A7 (.slice (some ⟨HC.n,0,some 1⟩) L.length L.length) z.2:=Kn.Ml.same (fun id h=>by rw[h];exact(t7 _ s4).2 (fun hh=>by have e1:HC.n=o3:=hh;have:=hno3.2;omega)) w2
   have s47:S7 HC.n:=(t7 _ s4).1
   have k3:=scaled (S:=S7) (H0:=A7) (W:=fun id=>id=HC.n) (p:=p) (b:=pw p z0 (p-2).toNat) hp31 hpw (a:=some ⟨HC.n,0,some 1⟩) (c:=L.length) (xs:=z.2) (by omega) hz.2.2 (fun id h=>by rw[h];exact s47) (by rw[← l2];exact w27)
   rw[← l2] at k3
   refine KW.callW (W:=fun id=>id=HC.n) (fun id h=>by rw[h];exact s47) U U U U U k3 (fun v8 A8 S8 m8 t8 w8 hv8=>?_)
   have S18:∀id,S1 id→S8 id∧A8.m id=A1.m id:=fun id h=>by
    have h1:=hlow id h
    have h2:=S16 id h
    have h3:=t7 id h2.1
    have h4:=t8 id h3.1
    exact⟨h4.1,(h4.2 (fun hh=>by have e1:id=HC.n:=hh;omega)).trans ((h3.2 (fun hh=>by have e1:id=o3:=hh;omega)).trans h2.2)⟩
   have hv78:KI.Ml (fun id=>id=o3) A8 (.slice (some ⟨o3,0,some 1⟩) y.length y.length) (nrm p z).1:=by
    have e:(nrm p z).1=sc p (pw p z0 (p-2).toNat) z.1:=by rw[← hz0D];rfl
    rw[e]
    exact Kn.Ml.same (fun id h=>by rw[h];exact(t8 _ (t7 _ s3).1).2 (fun hh=>by have e1:o3=HC.n:=hh;have:=hno3.2;omega)) hv7
   have hv88:KI.Ml (fun id=>id=HC.n) A8 (.slice (some ⟨HC.n,0,some 1⟩) L.length L.length) (nrm p z).2:=by
    have e:(nrm p z).2=sc p (pw p z0 (p-2).toNat) z.2:=by rw[← hz0D];rfl
    rw[e]
    exact hv8
   have hRn:K_Prt.R (fun id=>id=o3∨id=HC.n) A8 (nrm p z) [.slice (some ⟨o3,0,some 1⟩) y.length y.length,.slice (some ⟨HC.n,0,some 1⟩) L.length L.length]:=
    ⟨[.slice (some ⟨o3,0,some 1⟩) y.length y.length],_,rfl,⟨_,rfl,hv78.sl.more (fun id h=>.inl h)⟩,⟨_,rfl,hv88.sl.more (fun id h=>.inr h)⟩⟩
   refine KW.litS1 U U U U U U U U U U U U ?_
   have hbl:=basN_len (p:=p) (L:=L) i
   refine KW.appTS (m:=1) (ys:=[.slice (some ⟨o3,0,some 1⟩) y.length y.length,.slice (some ⟨HC.n,0,some 1⟩) L.length L.length]) 1 U U U U U U U U (by decide) rfl (fun H1 g=>acells_seg (g.blk (j:=4) rfl).1 (by show 0+1*2≤2;decide)) (by show 0+(basN p L i).length*2≤cs.length;omega) rfl (by decide) (by show((basN p L i).length+1)*48≤_;omega) (by show(basN p L i).length+1≤_;omega) ?_
   have cl8:Cl K_Prt (fun id=>V id∨(id=o3∨id=HC.n)) A8 (basN p L i) cs:=cl.mv (fun id h=>(S18 id (hV id h)).2) (fun id h=>.inl h)
   have cl9:=cl8.snoc (y:=nrm p z) (K_Prt.more (fun id h=>.inr h) hRn)
   have inv9:∀o9,CbI p L H ⟨i+1,S8,A8,fun id=>V id∨(id=o3∨id=HC.n),o9,(cs.drop 0).take ((basN p L i).length*2)++[.slice (some ⟨o3,0,some 1⟩) y.length y.length,.slice (some ⟨HC.n,0,some 1⟩) L.length L.length]⟩:=fun o9=>by
    refine⟨by simp only;omega,fun id h=>⟨(S18 id (old id h).1).1,(S18 id (old id h).1).2.trans (old id h).2⟩,fun id h=>?_,?_,?_⟩
    ·rcases h with h | h | h
     ·exact(S18 id (hV id h)).1
     ·rw[h];exact(t8 _ (t7 _ s3).1).1
     ·rw[h];exact(t8 _ s47).1
    ·simp only[eB,List.length_append,List.length_take,List.length_drop,List.length_cons,List.length_nil];omega
    ·simp only[eB];exact cl9
   refine KW.nxt U U (fun H' g=>⟨⟨i+1,S8,A8,fun id=>V id∨(id=o3∨id=HC.n),_,(cs.drop 0).take ((basN p L i).length*2)++[.slice (some ⟨o3,0,some 1⟩) y.length y.length,.slice (some ⟨HC.n,0,some 1⟩) L.length L.length]⟩,inv9 _,by first | omega | (simp only;omega),⟨rfl,rfl,rfl,rfl,rfl,rfl,rfl,rfl,congrArg (Value.int .i64) (inc64 (by omega)),trivial⟩,(g.take 3).eqT (by simp only[eB,List.length_append,List.length_singleton];rfl)⟩)
  ·rw[if_neg hfz] at eB
   have key:=first (S:=S6) (H0:=A6) (xs:=z.1) (a:=some ⟨o3,0,some 1⟩) (c:=y.length) (by omega) (by rw[← l1];exact sl1')
   rw[if_neg hfz,← l1] at key
   refine KW.callE U U U U U (key) (fun _ _=>?_)
   refine KW.no U U (by omega) ?_
   refine KW.nxt U U (fun H' g=>⟨⟨i+1,S6,A6,V,o,cs⟩,⟨by simp only;omega,old6,fun id h=>(S16 id (hV id h)).1,by simp only[eB];exact hcl,by simp only[eB];exact cl.mv (fun id h=>(S16 id (hV id h)).2) (fun id h=>h)⟩,by first | omega | (simp only;omega),⟨rfl,rfl,rfl,rfl,rfl,rfl,rfl,rfl,congrArg (Value.int .i64) (inc64 (by omega)),trivial⟩,(g.take 3).eqT (by simp only[eB];rfl)⟩)
 case gout=>
  have k1:¬(i:Int)<(L.length:Int):=k1
  obtain rfl:i=L.length:=by omega
  have bm:=bok L.length (Nat.le_refl _)
  refine KW.callN1 U U U U U (cloneB (by omega) hts.up) (fun v HC SC mC _ _ hv=>?_)
  rcases hv with⟨hy0,rfl⟩ | ⟨o3,rfl,hno3,hmo3⟩
  ·exfalso;rw[hy0] at ht;have:=ht.1;simp at this;omega
  have tC:=(inferInstance:On S1 A1 SC HC).st
  refine KW.mk1 U U U U U U U U U U U U (L.length) U U (by omega) (by show 8*_≤_;omega) ?_
  refine KW.ids (fun hlowC hvarC=>?_)
  have sC3:SC o3:=(inferInstance:On (New _ HC.n) HC SC HC).st o3 hno3 |>.1
  refine KW.freeze 3 rfl (fun A5 S5 hn5 hS5 st5 hm5 hlt5 hno5 hlow5=>?_)
  refine KW.build U U U U U (built_Prt _ _ _ _ _ _) ?_
  have SC5:∀id,SC id→S5 id∧A5.m id=HC.m id:=fun id h=>st5.st id h
  have S15:∀id,S1 id→S5 id∧A5.m id=A1.m id:=fun id h=>⟨(SC5 id (tC id h).1).1,(SC5 id (tC id h).1).2.trans (tC id h).2⟩
  have hr1:KI.Ml (fun id=>id=o3) A5 (.slice (some ⟨o3,0,some 1⟩) t.length t.length) t:=row_ml ((SC5 o3 sC3).2.trans hmo3)
  have hm5':A5.m HC.n=some ⟨2,true,(List.replicate L.length (0:Int)).map (Value.int .i64)⟩:=hm5.trans (by rw[List.map_replicate])
  have hul:(List.replicate L.length (0:Int)).length=L.length:=by simp
  have hr2:KI.Ml (fun id=>id=HC.n) A5 (.slice (some ⟨HC.n,0,some 1⟩) (List.replicate L.length (0:Int)).length L.length) (List.replicate L.length 0):=by
   have:=row_ml (A:=A5) (o:=HC.n) (ty:=2) (xs:=List.replicate L.length 0) hm5'
   rw[hul] at this ⊢
   exact this
  have hx:PrOk p k L.length (t,List.replicate L.length 0):=⟨ht,zero_ok hp0⟩
  have no3:n≤o3:=hno3.1
  have no4:n≤HC.n:=mC
  refine KW.callWV (W:=fun id=>id=o3∨id=HC.n) (post:=fun _ v H1=>v=.agg #[.slice (some ⟨o3,0,some 1⟩) t.length t.length,.slice (some ⟨HC.n,0,some 1⟩) L.length L.length]∧KI.Ml (fun id=>id=o3) H1 (.slice (some ⟨o3,0,some 1⟩) t.length t.length) (leftC p L t).1∧KI.Ml (fun id=>id=HC.n) H1 (.slice (some ⟨HC.n,0,some 1⟩) L.length L.length) (leftC p L t).2) (fun id h=>by rcases h with h | h;rw[h];exact(SC5 o3 sC3).1;rw[h];exact(hS5 _).2 (.inr rfl)) U U U U U (fun H6 g st6=>?gc) (fun v A6 S6 m6 t6 w6 hv6=>?_)
  case gc=>
   have hM:=g.has (j:=0) U U
   have hb:=g.has (j:=2) U U
   have hlit:=g.blk (j:=1) rfl
   have z6:∀id,S5 id→id<H6.n∧H6.m id=A5.m id:=fun id h=>by have h1:=g.froz id h;have:=g.n_;exact⟨by omega,h1.2⟩
   have clX:K_Prt.Sl (fun id=>id=o∨V id) H6 (.slice (some ⟨o,0,some 2⟩) (basN p L L.length).length (basN p L L.length).length) (basN p L L.length):=
    (cl.mv (X':=fun id=>V id) (A':=H6) (fun id h=>((z6 id (S15 id (hV id h)).1).2).trans (S15 id (hV id h)).2) (fun _ h=>h)).sl (.inl rfl) hlit.1 rfl (fun id h=>.inr h) (Nat.le_refl _)
   have key:=lessC (S:=Low H6.n) (H0:=H6) (a1:=some ⟨o3,0,some 1⟩) (c1:=t.length) (a2:=some ⟨HC.n,0,some 1⟩) (c2:=L.length) (x:=(t,List.replicate L.length 0)) (W1:=fun id=>id=o3) (W2:=fun id=>id=HC.n) (X:=fun id=>id=o∨V id) hp hk hLl (fun b hb=>(bm b hb).1) hx (by have:=basN_len (p:=p) (L:=L) L.length;omega) hM (by omega) hb (by omega) clX (fun id h=>⟨by
    rcases h with h | h
    ·rw[h];exact hlit.2
    ·exact(z6 id (S15 id (hV id h)).1).1,fun hh=>by
    rcases h with h | h
    ·omega
    ·have:=hlow id (hV id h);omega⟩) (fun id h=>by
     rcases h with h | h
     ·rw[h];exact(z6 o3 (SC5 o3 sC3).1).1
     ·rw[h];exact(z6 _ ((hS5 _).2 (.inr rfl))).1) (fun id h h'=>by have e1:id=o3:=h;have e2:id=HC.n:=h';have:=hno3.2;omega) (Kn.Ml.same (fun id h=>by rw[h];exact(z6 o3 (SC5 o3 sC3).1).2) hr1) (Kn.Ml.same (fun id h=>by rw[h];exact(z6 _ ((hS5 _).2 (.inr rfl))).2) hr2)
   simp only[hul] at key
   exact key
  obtain⟨rfl,w1,w2⟩:=hv6
  have hz:=leftC_ok hf hL ht
  have eC:comb p L t=if fz (leftC p L t).1<(leftC p L t).1.length then none else some (sc p (p-1) (leftC p L t).2):=rfl
  obtain⟨z,ez⟩:∃z,leftC p L t=z:=⟨_,rfl⟩
  rw[ez] at w1 w2 hz eC
  have l1:t.length=z.1.length:=ht.1.trans hz.1.1.symm
  have l2:L.length=z.2.length:=hz.2.1.symm
  have s3:S6 o3:=(t6 o3 (SC5 o3 sC3).1).1
  have s4:S6 HC.n:=(t6 HC.n ((hS5 _).2 (.inr rfl))).1
  have S56:∀id,S5 id→id≠o3→id≠HC.n→A6.m id=A5.m id:=fun id h e1 e2=>(t6 id h).2 (fun hh=>hh.elim e1 e2)
  have S16:∀id,S1 id→S6 id∧A6.m id=A1.m id:=fun id h=>by
   have h1:=hlow id h
   have h2:=S15 id h
   exact⟨(t6 id h2.1).1,(S56 id h2.1 (by omega) (by omega)).trans h2.2⟩
  have old6:∀id,id<H.n→S6 id∧A6.m id=H.m id:=fun id h=>⟨(S16 id (old id h).1).1,(S16 id (old id h).1).2.trans (old id h).2⟩
  haveI o6:On (Low H.n) H S6 A6:=⟨old6⟩
  have sl1':KI.Sl S6 A6 (.slice (some ⟨o3,0,some 1⟩) t.length t.length) z.1:=w1.sl.more (fun id h=>by rw[h];exact s3)
  have hz1l:=hz.1.1
  have hz2l:=hz.2.1
  by_cases hfz:fz z.1<z.1.length
  ·rw[if_pos hfz] at eC
   have key:=first (S:=S6) (H0:=A6) (xs:=z.1) (a:=some ⟨o3,0,some 1⟩) (c:=t.length) (by omega) (by rw[← l1];exact sl1')
   rw[if_pos hfz,← l1] at key
   refine KW.callE U U U U U (key) (fun _ _=>?_)
   refine KW.yes U U (by omega) ?_
   refine KW.retM1 U U U U (fun H1 g=>by rw[eC];rfl)
  ·rw[if_neg hfz] at eC
   have key:=first (S:=S6) (H0:=A6) (xs:=z.1) (a:=some ⟨o3,0,some 1⟩) (c:=t.length) (by omega) (by rw[← l1];exact sl1')
   rw[if_neg hfz,← l1] at key
   refine KW.callE U U U U U (key) (fun _ _=>?_)
   refine KW.no U U (by omega) ?_
   have k3:=scaled (S:=S6) (H0:=A6) (W:=fun id=>id=HC.n) (p:=p) (b:=IntKind.i64.wrap (p-1)) hp31 (by rw[wrM hp31];omega) (a:=some ⟨HC.n,0,some 1⟩) (c:=L.length) (xs:=z.2) (by omega) hz.2.2 (fun id h=>by rw[h];exact s4) (by rw[← l2];exact w2)
   rw[← l2] at k3
   refine KW.callW (W:=fun id=>id=HC.n) (fun id h=>by rw[h];exact s4) U U U U U k3 (fun v8 A8 S8 m8 t8 w8 hv8=>?_)
   have old8:∀id,id<H.n→S8 id∧A8.m id=H.m id:=fun id h=>⟨(t8 id (old6 id h).1).1,((t8 id (old6 id h).1).2 (fun hh=>by have e1:id=HC.n:=hh;omega)).trans (old6 id h).2⟩
   haveI o8:On (Low H.n) H S8 A8:=⟨old8⟩
   have s48:S8 HC.n:=(t8 _ s4).1
   rw[wrM hp31] at hv8
   have el:(sc p (p-1) z.2).length=L.length:=by simp[sc,hz2l]
   refine KW.retM1 U U U U (fun H1 g=>?_)
   ·rw[eC]
    refine⟨some ⟨HC.n,0,some 1⟩,L.length,by rw[el];rfl,?_⟩
    rw[el]
    have h1:KI.Sl (fun id=>id=HC.n) H1 (.slice (some ⟨HC.n,0,some 1⟩) L.length L.length) (sc p (p-1) z.2):=(Kn.Ml.same (fun id h=>by rw[h];exact(g.froz _ s48).2) hv8).sl
    exact h1.more (fun id h=>by
     have:=(g.froz _ s48).1
     have:=g.n_
     rw[h]
     exact⟨by omega,by omega⟩)
end
section
variable {S:Ids} {H0:AH}
end
theorem dF_behind {r:List Int} {v:Int}:∀(t:List Int) (c:Nat),c+t.length≤r.length→dF (r++[v]) c t=dF r c t
 | [],_,_=>rfl
 | a :: t,c,h=>by
  simp only[List.length_cons] at h
  simp only[dF,dF_behind (r:=r) (v:=v) t (c+1) (by omega)]
  congr 2
  rw[List.getD_eq_getElem?_getD,List.getD_eq_getElem?_getD,List.getElem?_append_left (by omega)]
theorem sat_aug {p:Int} {k:Nat} {r x:List Int} {v:Int} (hr:r.length=k) (hx:x.length=k):Sat p k (r++[v]) x↔Cg p (dF r 0 x) v:=by
 unfold Sat Cg
 rw[dF_behind x 0 (by omega)]
 have e:(r++[v]).getD k 0=v:=by
  rw[List.getD_eq_getElem?_getD,List.getElem?_append_right (by omega),hr,Nat.sub_self];rfl
 rw[e]
theorem allS_aug {p:Int} {k:Nat} {L:List (List Int)} {vals x:List Int} (hL:∀r∈L,r.length=k) (hl:vals.length=L.length) (hx:x.length=k):AllS p k (augW L vals) x↔∀(i:Nat) r v,L[i]?=some r→vals[i]?=some v→Cg p (dF r 0 x) v:=by
 constructor
 ·intro h i r v hr hv
  exact(sat_aug (hL r (List.mem_of_getElem? hr)) hx).1 (h i _ (augW_at hr hv))
 ·intro h i w hw
  have hi:=(List.getElem?_eq_some_iff.1 hw).1
  rw[augW_len hl] at hi
  have h1:L[i]?=some L[i]:=List.getElem?_eq_getElem hi
  have h2:vals[i]?=some (vals[i]'(by omega)):=List.getElem?_eq_getElem (by omega)
  have h3:=augW_at h1 h2
  rw[hw] at h3
  cases h3
  exact(sat_aug (hL _ (List.mem_of_getElem? h1)) hx).2 (h i _ _ h1 h2)
theorem unitL_in {p:Int} {k:Nat} (hp:2≤p) (hk:1≤k):(unitL k).length=k∧∀a∈unitL k,0≤a∧a<p:=⟨unitL_len hk,fun a ha=>by
 rcases List.mem_cons.1 ha with h | h
 ·rw[h];omega
 ·rw[List.eq_of_mem_replicate h];omega⟩
theorem dotN_dFx {r:List Int}:∀(x:List Int) (c:Nat),dotN (r.drop c) x x.length=dF r c x:=by
 have key:∀(x pre:List Int) (c:Nat),dotN (r.drop c) (pre++x) (pre.length+x.length)=dotN (r.drop c) (pre++x) pre.length+dF r (c+pre.length) x:=fun x=>by
  induction x with
  | nil=>intro pre c;simp[dF]
  | cons a t ih=>
   intro pre c
   have h:=ih (pre++[a]) c
   simp only[List.append_assoc,List.cons_append,List.nil_append,List.length_append,List.length_cons,List.length_nil,Nat.zero_add] at h
   simp only[List.length_cons,dF]
   rw[show pre.length+(t.length+1)=pre.length+1+t.length by omega,h]
   simp only[dotN]
   have e1:(pre++a :: t).getD pre.length 0=a:=by
    rw[List.getD_eq_getElem?_getD,List.getElem?_append_right (Nat.le_refl _),Nat.sub_self];rfl
   have e2:(r.drop c).getD pre.length 0=r.getD (c+pre.length) 0:=by
    rw[List.getD_eq_getElem?_getD,List.getD_eq_getElem?_getD,List.getElem?_drop]
   rw[e1,e2,show c+(pre.length+1)=c+pre.length+1 by omega]
   omega
 intro x c
 have:=key x [] c
 simpa [dotN] using this
theorem dotS_dF {p:Int} {a b:List Int} (h:a.length=b.length):dotS p a b=dF a 0 b%p:=by
 unfold dotS
 rw[h]
 have:=dotN_dFx (r:=a) b 0
 rw[List.drop_zero] at this
 rw[this]
noncomputable def rebC (x:T_Scheme) (g held:List Int):Int:=
 if codeH x g held=0 then(if(comb x.2.2.1 (heldR x.2.1 x.2.2.2.2 (bitsOf g)) (unitL x.2.2.2.1.toNat)).isNone=true then 6 else if x.2.2.2.1.toNat∈(ech x.2.2.1 (augW (heldR x.2.1 x.2.2.2.2 (bitsOf g)) held) (x.2.2.2.1.toNat+1)).2 then 4 else 0) else codeH x g held
noncomputable def rebV (x:T_Scheme) (g held:List Int):Int:=
 if rebC x g held=0 then dotS x.2.2.1 ((comb x.2.2.1 (heldR x.2.1 x.2.2.2.2 (bitsOf g)) (unitL x.2.2.2.1.toNat)).getD []) held else 0
section
variable {S:Ids} {H0:AH}
theorem rebuild (h' p c:Int) (ow g held:List Int) (rows:List (List Int)) {a1 c1 a2 c2 a3 c3 a4 c4} (hB:B_Scheme (h',ow,p,c,rows)) (hG:B_Int64S g) (hH:B_Int64S held) (h1:KI.Sl S H0 (.slice a1 ow.length c1) ow) (h2:KI.sl.Sl S H0 (.slice a2 rows.length c2) rows) (h3:KI.Sl S H0 (.slice a3 g.length c3) g) (h4:KI.Sl S H0 (.slice a4 held.length c4) held):
  Spec Tryz.prog S H0 46 [.agg #[.int .i64 h',.slice a1 ow.length c1,.int .i64 p,.int .i64 c,.slice a2 rows.length c2],.slice a3 g.length c3,.slice a4 held.length c4] (fun v=>v=.tuple #[.int .i64 (rebV (h',ow,p,c,rows) g held),.int .i64 (rebC (h',ow,p,c,rows) g held)]):=by
 refine Spec.of1 Tryz.func46 rfl (by kernel_rfl) rfl (fun H _=>?_)
 have s1:=h1.up (S':=Low H.n) (H':=H)
 have s2:=h2.up (S':=Low H.n) (H':=H)
 have s3:=h3.up (S':=Low H.n) (H':=H)
 have s4:=h4.up (S':=Low H.n) (H':=H)
 have hO:B_Int64S ow:=hB.2.1
 have hBr:B_Int64SS rows:=hB.2.2.2.2
 refine KW.callE U U U U U (heldCode (h',ow,p,c,rows) g held hB hG hH s1 s2 s3 s4) (fun _ _=>?_)
 by_cases hc:codeH (h',ow,p,c,rows) g held=0
 ·obtain⟨hk,hg,hhl,hhe⟩:=codeH_ok hc
  have hk:OkSch h' ow p c rows:=hk
  simp only at hg hhl hhe
  refine KW.cF U U (by simp[hc]) ?_
  obtain⟨q,hq⟩:∃q:Nat,h'=q:=⟨h'.toNat,by have:=hk.h1;omega⟩
  have hq7:=hk.h7
  rw[hq] at hg
  have hgs:=rises_small hg
  have hbt:bitsOf g<256:=Nat.lt_of_lt_of_le (bitsOf_lt (m:=q) (fun x hx=>by have:=hgs x hx;omega)) (Nat.pow_le_pow_right (by decide) (show q≤8 by omega))
  obtain⟨k,rfl⟩:∃k:Nat,c=((k+1:Nat):Int):=⟨c.toNat-1,by have:=hk.c1;omega⟩
  have hpr:=hk.mat.pr
  have hf:=fer hpr
  have hp2:=hpr.1
  have hp31:=hpr.2.1
  have hk12:=hk.mat.c1
  refine KW.callE U U U U U (crowdOf (m:=q) (by omega) (by omega) hgs s3) (fun _ _=>?_)
  refine KW.callN1 U U U U U (Am.held h' p ((k+1:Nat):Int) (bitsOf g) (by omega) hO hBr hk s1 s2) (fun v HM SM mM _ _ hv=>?_)
  obtain⟨am,cm,rfl,hM⟩:=hv
  have hM:=hM.up (S':=SM) (H':=HM)
  have hLr:Rect p (k+1) (heldR ow rows (bitsOf g)):=held_rect hk rfl
  have hLl:(heldR ow rows (bitsOf g)).length≤20:=held_len hk
  have hhL:held.length=(heldR ow rows (bitsOf g)).length:=by rw[hhl];unfold heldR rowsG;rw[selR_len]
  have s5:=s4.up (S':=SM) (H':=HM)
  obtain⟨L,eL⟩:∃L,heldR ow rows (bitsOf g)=L:=⟨_,rfl⟩
  have eR:rebC (h',ow,p,((k+1:Nat):Int),rows) g held=if(comb p L (unitL (k+1))).isNone=true then 6 else if(k+1)∈(ech p (augW L held) (k+1+1)).2 then 4 else 0:=by
   unfold rebC;rw[if_pos hc];simp only[Int.toNat_natCast,eL]
  have eV:rebV (h',ow,p,((k+1:Nat):Int),rows) g held=if rebC (h',ow,p,((k+1:Nat):Int),rows) g held=0 then dotS p ((comb p L (unitL (k+1))).getD []) held else 0:=by
   unfold rebV;simp only[Int.toNat_natCast,eL]
  rw[eL] at hM hLr hLl hhL ⊢
  have hhi:∀a∈held,0≤a∧a<p:=fun a ha=>by have:=hhe a ha;omega
  have hui:=unitL_in (p:=p) hp2 (show 1≤k+1 by omega)
  refine KW.callN1 U U U U U (unit (k+1) (by omega) (by omega)) (fun v HU SU mU _ _ hv=>?_)
  obtain⟨au,cu,rfl,hU⟩:=hv
  have hM2:=hM.up (S':=SU) (H':=HU)
  have s6:=s5.up (S':=SU) (H':=HU)
  refine KW.callN1 U U U U U (combination hpr (by omega) (by omega) (by omega) hLr hui hM2 hU.ups) (fun v HC SC mC _ _ hv=>?_)
  cases hcb:comb p L (unitL (k+1)) with
  | none=>
   rw[hcb] at hv
   obtain rfl:=hv
   have e6:rebC (h',ow,p,((k+1:Nat):Int),rows) g held=6:=by rw[eR,hcb];rfl
   refine KW.cT U U (by first | (simp;done) | decide) ?_
   refine KW.retM1 U U U U (fun H1 g=>by rw[eV,e6];rfl)
  | some cs=>
   rw[hcb] at hv
   obtain⟨ac,cc,rfl,hC⟩:=hv
   obtain⟨⟨e1,e2⟩,e3⟩:=comb_sound hf hLr hui hcb
   refine KW.cF U U (by first | (simp;done) | decide) ?_
   have hM3:=hM2.up (S':=SC) (H':=HC)
   have s7:=s6.up (S':=SC) (H':=HC)
   refine KW.callN1 U U U U U (solve hpr (by omega) (by omega) hLr hhL hhi hM3 s7) (fun v HS SS mS _ _ hv=>?_)
   obtain⟨a9,n9,c9,rfl⟩:=hv
   have hC2:=hC.up (S':=SS) (H':=HS)
   have s8:=s7.up (S':=SS) (H':=HS)
   by_cases hk1:(k+1)∈(ech p (augW L held) (k+1+1)).2
   ·have e4:rebC (h',ow,p,((k+1:Nat):Int),rows) g held=4:=by rw[eR,hcb,if_pos hk1];rfl
    refine KW.cT U U (by simp[hk1]) ?_
    refine KW.retM1 U U U U (fun H1 g=>by rw[eV,e4];rfl)
   ·have e0:rebC (h',ow,p,((k+1:Nat):Int),rows) g held=0:=by rw[eR,hcb,if_neg hk1];rfl
    refine KW.cF U U (by simp[hk1]) ?_
    refine KW.callE U U U U U (dot p hpr (by omega) (by omega) (fun a ha=>by have:=e2 a ha;omega) (fun a ha=>by have:=hhi a ha;omega) hC2 s8) (fun _ _=>?_)
    refine KW.retM1 U U U U (fun H1 g=>by rw[eV,e0,hcb];rfl)
 ·have e1:rebC (h',ow,p,c,rows) g held=codeH (h',ow,p,c,rows) g held:=by unfold rebC;rw[if_neg hc]
  refine KW.cT U U (by simp[hc]) ?_
  refine KW.retM1 U U U U (fun H1 g=>by unfold rebV;rw[e1,if_neg hc];rfl)
end
end Go.Proofs.YtlapbbffoapleaaGreat.Am
/- What rows span, plain; where a row is not spanned, some list makes all rows 0 and it 1. Each holds under its own conditions. -/
set_option linter.unusedVariables false
set_option linter.unusedSimpArgs false
set_option maxRecDepth 20000
namespace Go.Proofs.YtlapbbffoapleaaGreat.Pl
def Spn (p:Int) (L:List (List Int)) (v:List Int):Prop:=∃cs:List Int,cs.length=L.length∧∀j,Cg p (lcS L cs j) (v.getD j 0)
theorem Spn.row {p:Int} {L:List (List Int)} {i:Nat} {r:List Int} (h:L[i]?=some r):Spn p L r:=by
 have hi:=(List.getElem?_eq_some_iff.1 h).1
 refine⟨(List.replicate L.length 0).set i 1,by simp,fun j=>?_⟩
 rw[lcS_unit L i L.length hi hi,List.getD_eq_getElem?_getD (l:=L),h]
 exact Cg.rfl'
theorem Spn.sc {p b:Int} {L:List (List Int)} {v:List Int} (h:Spn p L v):Spn p L (sc p b v):=by
 obtain⟨cs,h1,h2⟩:=h
 refine⟨Pl.sc p b cs,by simp[Pl.sc,h1],fun j=>?_⟩
 exact(lcS_sc L cs).trans ((Cg.rfl'.mul (h2 j)).trans (sc_cg (w:=v)).symm)
theorem Spn.tk {p s:Int} {L:List (List Int)} {v w:List Int} (h:Spn p L v) (h':Spn p L w) (hl:v.length=w.length):Spn p L (tk p s v w):=by
 obtain⟨cs,h1,h2⟩:=h
 obtain⟨ds,h3,h4⟩:=h'
 refine⟨Pl.tk p s cs ds,by simp[Pl.tk,h1,h3],fun j=>?_⟩
 exact(lcS_tk L cs ds (by omega)).trans (((h2 j).sub (Cg.rfl'.mul (h4 j))).trans (tk_cg hl).symm)
end Go.Proofs.YtlapbbffoapleaaGreat.Pl
namespace Go.Proofs.YtlapbbffoapleaaGreat.Am
open Go Go.RowKit Go.Proofs Go.Proofs.YtlapbbffoapleaaGreat.Pl
theorem unit_dF0 {k:Nat} {all:List Int} (hl:all.length=k+1):dF (unitL (k+1)) 0 all=all.getD 0 0:=by
 cases all with
 | nil=>simp at hl
 | cons a t=>
  show 1*a+dF (unitL (k+1)) 1 t=a
  have:dF (unitL (k+1)) 1 t=0:=dF_zero t 1 fun j h1 h2=>by
   unfold unitL
   obtain⟨j',rfl⟩:∃j',j=j'+1:=⟨j-1,by omega⟩
   rw[List.getD_cons_succ,List.getD_eq_getElem?_getD,List.getElem?_replicate]
   split<;>rfl
  omega
end Go.Proofs.YtlapbbffoapleaaGreat.Am

namespace Go.Proofs.YtlapbbffoapleaaGreat.Am
open Go Go.RowKit Go.Proofs
theorem markF_mem:∀(l:List Bool) (i x:Int),x∈markF l i↔i≤x∧l.getD (x-i).toNat false=true
 | [],i,x=>by simp[markF]
 | b :: l,i,x=>by
  have ih:=markF_mem l (i+1) x
  have key:(i≤x∧(b :: l).getD (x-i).toNat false=true)↔(x=i∧b=true)∨(i+1≤x∧l.getD (x-(i+1)).toNat false=true):=by
   rcases Int.lt_trichotomy x i with h | h | h
   ·constructor
    ·rintro ⟨h1,_⟩;omega
    ·rintro (⟨h1,_⟩ | ⟨h1,_⟩)<;>omega
   ·subst h
    simp only[Int.sub_self,Int.toNat_zero,List.getD_cons_zero,Int.le_refl,true_and]
    constructor
    ·exact .inl
    ·rintro (h | ⟨h,_⟩)
     ·exact h
     ·omega
   ·have e:(x-i).toNat=(x-(i+1)).toNat+1:=by omega
    rw[e,List.getD_cons_succ]
    constructor
    ·rintro ⟨_,h2⟩;exact .inr ⟨by omega,h2⟩
    ·rintro (⟨h1,_⟩ | ⟨_,h2⟩)
     ·omega
     ·exact⟨by omega,h2⟩
  rw[key,← ih,show markF (b :: l) i=if b=true then i :: markF l (i+1) else markF l (i+1) from rfl]
  split
  ·rename_i hb
   rw[List.mem_cons]
   simp[hb]
  ·rename_i hb
   constructor
   ·exact .inr
   ·rintro (⟨_,h⟩ | h)
    ·exact absurd h hb
    ·exact h
theorem markF_rises:∀(l:List Bool) (lo hi:Int),lo+l.length≤hi+1→Rises lo hi (markF l lo)
 | [],lo,hi,_=>by simp[markF,Rises]
 | b :: l,lo,hi,h=>by
  simp only[List.length_cons] at h
  have ih:=markF_rises l (lo+1) hi (by omega)
  rw[show markF (b :: l) lo=if b=true then lo :: markF l (lo+1) else markF l (lo+1) from rfl]
  split
  ·intro i hi'
   cases i with
   | zero=>exact⟨⟨Int.le_refl _,by show lo≤hi;omega⟩,fun h=>absurd h (Nat.lt_irrefl 0)⟩
   | succ i=>
    have h1:=ih i (by simpa using hi')
    refine⟨⟨by have:=h1.1.1;simp only[List.getD_cons_succ];omega,by have:=h1.1.2;simp only[List.getD_cons_succ];omega⟩,fun _=>?_⟩
    cases i with
    | zero=>have:=h1.1.1;simp only[List.getD_cons_succ,Nat.add_sub_cancel,Nat.zero_add,Nat.sub_self,List.getD_cons_zero];omega
    | succ i=>
     have:=h1.2 (Nat.succ_pos i)
     simpa using this
  ·intro i hi'
   have h1:=ih i hi'
   exact⟨⟨by have:=h1.1.1;omega,h1.1.2⟩,h1.2⟩
theorem rows20 {x:T_Deal} (hd:DealOk x) (j:Int):(rowsOf x.1.2.1 j).length≤20:=by
 have h1:=rowsOf_len x.1.2.1 j
 have h2:=hd.sch.len
 have h3:=hd.sch.mat.len
 omega
def opS (ow:List Int) (got:List (List Int)) (s:List Int × List Int) (i:Int):List Int × List Int:=
 (s.1.set (ow.getD i.toNat 0).toNat (s.1.getD (ow.getD i.toNat 0).toNat 0+1),s.2++[(got.getD (ow.getD i.toNat 0).toNat []).getD (s.1.getD (ow.getD i.toNat 0).toNat 0).toNat 0])
def opR (ow:List Int) (got:List (List Int)) (n:Nat) (rs:List Int):List Int × List Int:=rs.foldl (opS ow got) (List.replicate n 0,[])
theorem opR_snoc {ow:List Int} {got:List (List Int)} {n:Nat} {rs:List Int} {i:Int}:opR ow got n (rs++[i])=opS ow got (opR ow got n rs) i:=by simp[opR]
def ownC (ow:List Int) (h:Nat) (rs:List Int):Nat:=rs.countP fun i=>decide ((ow.getD i.toNat 0).toNat=h)
theorem opR_ok {ow:List Int} {got:List (List Int)} {n:Nat} (hn:∀i,(ow.getD i 0).toNat<n) (rs:List Int):(opR ow got n rs).1.length=n∧(opR ow got n rs).2.length=rs.length∧∀h,h<n→(opR ow got n rs).1.getD h 0=(ownC ow h rs:Nat):=by
 suffices hs:∀(l:List Int),(opR ow got n l.reverse).1.length=n∧(opR ow got n l.reverse).2.length=l.reverse.length∧∀h,h<n→(opR ow got n l.reverse).1.getD h 0=(ownC ow h l.reverse:Nat) by
  have:=hs rs.reverse
  rwa [List.reverse_reverse] at this
 intro l
 induction l with
 | nil=>
  refine⟨by simp[opR],by simp[opR],fun h hh=>?_⟩
  simp[opR,ownC,List.getD_eq_getElem?_getD,List.getElem?_replicate,hh]
 | cons i l ih=>
  obtain⟨h1,h2,h3⟩:=ih
  rw[List.reverse_cons,opR_snoc]
  refine⟨by simp[opS,h1],by simp[opS,h2],fun h hh=>?_⟩
  have h4:=hn i.toNat
  simp only[opS,ownC,List.countP_append,List.countP_cons,List.countP_nil] at h3 ⊢
  rw[List.getD_eq_getElem?_getD,List.getElem?_set]
  split
  ·rename_i e
   rw[if_pos (by omega),h3 _ h4]
   subst e
   simp[ownC]
  ·rename_i e
   have:=h3 h hh
   rw[List.getD_eq_getElem?_getD] at this
   rw[this]
   rw[show(if decide ((ow.getD i.toNat 0).toNat=h)=true then 1 else 0)=0 from if_neg (by simpa using e)]
   simp[ownC]
theorem rowsP_count {ow:List Int} {q:Nat→Bool} {n h:Nat} (how:∀i,0≤ow.getD i 0):ownC ow h (rowsP q n)≤(rowsP (fun i=>decide (ow.getD i 0=(h:Int))) n).length:=by
 unfold ownC rowsP
 rw[List.countP_map,List.length_map,← List.countP_eq_length_filter,List.countP_filter]
 refine List.countP_mono_left fun i _ hi=>?_
 have hi:decide ((ow.getD ((i:Nat):Int).toNat 0).toNat=h)=true∧q i=true:=by simpa using hi
 have h1:=of_decide_eq_true hi.1
 rw[Int.toNat_natCast] at h1
 have:=how i
 exact decide_eq_true (by omega)
theorem own_lt {ow:List Int} {q:Nat→Bool} {n a:Nat} {x:Int} (how:∀i,0≤ow.getD i 0) (hx:(rowsP q n)[a]?=some x):ownC ow (ow.getD x.toNat 0).toNat ((rowsP q n).take a)<(rowsP (fun i=>decide (ow.getD i 0=((ow.getD x.toNat 0).toNat:Int))) n).length:=by
 refine Nat.lt_of_lt_of_le ?_ (rowsP_count (q:=q) how)
 have ha:=(List.getElem?_eq_some_iff.1 hx).1
 have h1:(rowsP q n).take (a+1)=(rowsP q n).take a++[x]:=by rw[List.take_add_one,hx];rfl
 have h2:ownC ow (ow.getD x.toNat 0).toNat ((rowsP q n).take (a+1))=ownC ow (ow.getD x.toNat 0).toNat ((rowsP q n).take a)+1:=by
  rw[h1]
  unfold ownC
  rw[List.countP_append,List.countP_cons,List.countP_nil]
  simp
 have h3:ownC ow (ow.getD x.toNat 0).toNat ((rowsP q n).take (a+1))≤ownC ow (ow.getD x.toNat 0).toNat (rowsP q n):=List.Sublist.countP_le (List.take_sublist _ _)
 omega
noncomputable def opG (c:Cer):List Int:=markF c.has 0
noncomputable def opH (x:T_Deal) (c:Cer):List Int:=(opR x.1.2.1 c.got x.1.1.toNat (rowsG x.1.2.1 (opG c))).2
theorem opG_bits {x:T_Deal} {c:Cer} (h:CerOk x c) (h7:x.1.1≤7) {j:Nat} (hj:(j:Int)<x.1.1):(bitsOf (opG c)).testBit j=c.has.getD j false:=by
 have hl:=h.hl
 have hs:=h.sl
 obtain⟨q,hq⟩:∃q:Nat,x.1.1=q:=⟨x.1.1.toNat,by omega⟩
 have hr:Rises 0 ((q:Int)-1) (opG c):=markF_rises c.has 0 _ (by omega)
 have:=group_bits hr (y:=(j:Int)) (by omega) (by omega)
 rw[Int.toNat_natCast] at this
 rw[← this]
 have hm:=markF_mem c.has 0 (j:Int)
 rw[Int.sub_zero,Int.toNat_natCast] at hm
 show decide ((j:Int)∈markF c.has 0)=_
 cases hb:c.has.getD j false with
 | true=>rw[hb] at hm;exact decide_eq_true (hm.2 ⟨by omega,rfl⟩)
 | false=>rw[hb] at hm;exact decide_eq_false (fun h=>by have:=(hm.1 h).2;cases this)
end Go.Proofs.YtlapbbffoapleaaGreat.Am
namespace Go.Proofs.YtlapbbffoapleaaGreat.Am
open Go Go.RowKit Go.Proofs Go.Proofs.YtlapbbffoapleaaGreat.Pl
theorem T2x {i j:Nat} {ty ty':TypeId} {a a' b b':List Value} (h:a=a') (h':b=b'):([(i,⟨ty,true,a⟩),(j,⟨ty',true,b⟩)]:List Var)=[(i,⟨ty,true,a'⟩),(j,⟨ty',true,b'⟩)]:=by rw[h,h']
theorem open_row {x:T_Deal} {c:Cer} (hd:DealOk x) (ok:CerOk x c) {q:Nat→Bool} {a:Nat} {i:Int} (hq:∀i,i<x.1.2.1.length→q i=c.has.getD (x.1.2.1.getD i 0).toNat false) (hi:(rowsP q x.1.2.1.length)[a]?=some i):
  (0≤i∧i<x.1.2.1.length)∧∃h:Nat,x.1.2.1.getD i.toNat 0=h∧h<c.seats.length∧∃g,c.got[h]?=some g∧∃m:Nat,(opR x.1.2.1 c.got x.1.1.toNat ((rowsP q x.1.2.1.length).take a)).1.getD h 0=m∧m<g.length:=by
 have him:=rowsP_mem (List.mem_of_getElem? hi)
 have hsl:=ok.sl
 have how:∀j,0≤x.1.2.1.getD j 0:=fun j=>by
  rcases Nat.lt_or_ge j x.1.2.1.length with h | h
  ·rw[List.getD_eq_getElem?_getD,List.getElem?_eq_getElem h];exact(hd.sch.own _ (List.getElem_mem h)).1
  ·rw[List.getD_eq_getElem?_getD,List.getElem?_eq_none h];exact Int.le_refl 0
 have hown:∀j,(x.1.2.1.getD j 0).toNat<x.1.1.toNat:=fun j=>by
  have h1:=hd.sch.h1
  rcases Nat.lt_or_ge j x.1.2.1.length with h | h
  ·rw[List.getD_eq_getElem?_getD,List.getElem?_eq_getElem h];have:=hd.sch.own _ (List.getElem_mem h);show(x.1.2.1[j]).toNat<_;omega
  ·rw[List.getD_eq_getElem?_getD,List.getElem?_eq_none h];show(0:Int).toNat<_;omega
 refine⟨him,(x.1.2.1.getD i.toNat 0).toNat,by have:=how i.toNat;omega,by have:=hown i.toNat;omega,?_⟩
 have hl:(x.1.2.1.getD i.toNat 0).toNat<c.got.length:=by have:=ok.gl;have:=hown i.toNat;omega
 refine⟨c.got[(x.1.2.1.getD i.toNat 0).toNat],List.getElem?_eq_getElem hl,_,(opR_ok (got:=c.got) hown ((rowsP q x.1.2.1.length).take a)).2.2 _ (hown i.toNat),?_⟩
 refine Nat.lt_of_lt_of_le (own_lt how hi) ?_
 have hqi:q i.toNat=true:=by
  have:=List.mem_of_getElem? hi
  unfold rowsP at this
  obtain⟨j,hj,e⟩:=List.mem_map.1 this
  have:=(List.mem_filter.1 hj).2
  rw[show i.toNat=j by omega]
  exact this
 rw[hq _ (by omega)] at hqi
 rcases ok.go _ _ (List.getElem?_eq_getElem hl) with⟨_,h2⟩ | ⟨h1,_⟩
 ·rw[hqi] at h2;cases h2
 ·rw[h1];exact Nat.le_refl _
section
variable {S:Ids} {H0:AH}
theorem implOpen {x:T_Deal} {c:Cer} {dcs:List Value} {d:HD} {X:Ids} (hd:DealOk x) (hB:B_Deal x) (ok:CerOk x c) (hh0:Hl HTI [] dcs S H0 X d c) (hD:K_Deal.R S H0 x dcs):
  Spec Tryz.prog S H0 66 [.pointer (some ⟨d.hid,0,none⟩)] (fun v=>v=.tuple #[.int .i64 (rebV x.1 (opG c) (opH x c)),.int .i64 (rebC x.1 (opG c) (opH x c))]):=by
 obtain⟨a1,c1,a2,c2,a3,c3,a4,c4,rfl,h1,h2,h3,h4⟩:=split2_Deal hD
 refine Spec.of1 Tryz.func66 rfl (by kernel_rfl) rfl (fun H _=>?_)
 have hh:=hh0.on (S':=Low H.n) (A':=H)
 have hc:=hh.cellsH
 have h7:=hd.sch.h7
 have h1s:=hd.sch.h1
 have hsl:=ok.sl
 have hhl:=ok.hl
 have hgl:=ok.gl
 have s1:=h1.up (S':=Low H.n) (H':=H)
 have s2:=h2.up (S':=Low H.n) (H':=H)
 obtain⟨hb1,hb2⟩:=hh.has
 refine KW.ldF 4 hc U U U U U U U U U ?_
 refine KW.callN1 U U U U U (marked (by omega) (bool_sl hb1 hb2 rfl (Nat.le_refl _))) (fun v HG SG mG _ _ hv=>?_)
 obtain⟨ag,cg,rfl,hG⟩:=hv
 have hcG:=hc.up (S':=SG) (H':=HG)
 refine KW.lit U U U U U U U U U U [] U U (fun v hv=>by simp at hv) rfl ?_
 refine KW.ldF 7 hcG U U U U U U U U U ?_
 refine KW.mk1 U U U U U U U U U U U U c.seats.length hsl.symm hsl.symm (by omega) (by show 8*_≤_;omega) ?_
 have sS:=hc.1
 have hha:=hh.hall
 have hGB:=(hG.up (S':=SG) (H':=HG)).sl
 have hgl':(opG c).length≤7:=by have:=markF_len c.has 0;show(markF c.has 0).length≤7;omega
 obtain⟨Q,hQ⟩:∃Q:Nat,x.1.1=Q:=⟨c.seats.length,hsl.symm⟩
 have hri:Rises 0 ((Q:Int)-1) (opG c):=markF_rises c.has 0 _ (by omega)
 have hgs:=rises_small hri
 have hbt:bitsOf (opG c)<256:=Nat.lt_of_lt_of_le (bitsOf_lt (m:=Q) (fun x hx=>by have:=hgs x hx;omega)) (Nat.pow_le_pow_right (by decide) (show Q≤8 by omega))
 have hOw:=hd.sch.own
 have hol:=hd.sch.len
 have hrl:=hd.sch.mat.len
 have sG0:=(inferInstance:On (Low H.n) H SG HG).st d.hid sS
 refine KW.ldP sG0.1 (sG0.2.trans hha.2) U U U U U (bload_seg (ps:=[.int .i64 x.1.1,.slice a1 x.1.2.1.length c1,.int .i64 x.1.2.2.1,.int .i64 x.1.2.2.2.1,.slice a2 x.1.2.2.2.2.length c2]) U U U (by show 7+5≤15;decide) rfl) ?_
 refine KW.callE U U U U U (crowdOf (m:=Q) (xs:=opG c) (by omega) (by omega) hgs hGB) (fun _ _=>?_)
 have sG1:=s1.up (S':=SG) (H':=HG)
 have sG2:=s2.up (S':=SG) (H':=HG)
 refine KW.callN1 U U U U U (rowsHeld x.1.1 x.1.2.2.1 x.1.2.2.2.1 (bitsOf (opG c)) (by omega) (by show x.1.2.1.length≤_;omega) hOw h7 sG1) (fun v HR SR mR _ _ hv=>?_)
 obtain⟨aR,cR,rfl,hR⟩:=hv
 obtain⟨R,eR⟩:∃R,rowsG x.1.2.1 (opG c)=R:=⟨_,rfl⟩
 have eR2:rowsP (fun i=>(bitsOf (opG c)).testBit (x.1.2.1.getD i 0).toNat) x.1.2.1.length=R:=eR
 rw[eR2] at hR ⊢
 have hRl:R.length≤20:=by rw[← eR2];have:=rowsP_len (fun i=>(bitsOf (opG c)).testBit (x.1.2.1.getD i 0).toNat) x.1.2.1.length;omega
 have hR1:=hR.ups (S':=SR) (H':=HR)
 have hcR:=hcG.up (S':=SR) (H':=HR)
 have sR1:=sG1.up (S':=SR) (H':=HR)
 have hhR:=(hh.on (S':=SG) (A':=HG)).on (S':=SR) (A':=HR)
 obtain⟨g0,gcs,g1,g2,g3⟩:=hhR.got
 have hGo:KI.sl.Sl SR HR (.slice (some ⟨d.gid,0,some 1⟩) c.got.length c.got.length) c.got:=Cl.sl g3 g0 g1 rfl hhR.sx (Nat.le_refl _)
 have hn:x.1.1.toNat=c.seats.length:=by omega
 have hown:∀j,(x.1.2.1.getD j 0).toNat<x.1.1.toNat:=fun j=>by
  rcases Nat.lt_or_ge j x.1.2.1.length with h | h
  ·rw[List.getD_eq_getElem?_getD,List.getElem?_eq_getElem h];have:=hd.sch.own _ (List.getElem_mem h);show(x.1.2.1[j]).toNat<_;omega
  ·rw[List.getD_eq_getElem?_getD,List.getElem?_eq_none h];show(0:Int).toNat<_;omega
 refine KW.lpM U U (fun s:Nat × Nat=>[(0,.pointer (some ⟨d.hid,0,none⟩)),(4,.slice ag (opG c).length cg),(5,.slice (some ⟨s.2,0,some 1⟩) s.1 s.1),(6,.slice (some ⟨HG.n+1,0,some 1⟩) c.seats.length c.seats.length),(32,.slice aR R.length cR),(33,.int .i64 R.length),(34,.int .i64 s.1)]) (fun s=>SR) (fun s=>HR) (fun s=>[(s.2,⟨2,true,(opR x.1.2.1 c.got x.1.1.toNat (R.take s.1)).2.map (Value.int .i64)⟩),(HG.n+1,⟨3,true,(opR x.1.2.1 c.got x.1.1.toNat (R.take s.1)).1.map (Value.int .i64)⟩)]) (fun s=>s.1≤R.length) (fun s=>R.length-s.1) ((0,HG.n)) (Nat.zero_le _) ⟨rfl,rfl,rfl,rfl,rfl,rfl,rfl,trivial⟩ U U (by simp[opR,hn]) (fun s hi bE n=>?_)
 obtain⟨a,o⟩:=s
 simp only at hi
 refine KW.cnd U U (fun k1=>?_) (fun k1=>?_)
 ·have k1:(a:Int)<(R.length:Int):=k1
  refine KW.getI hR1 U U U U U U U U U U U U U U U U (by omega) (k1) (fun i hi2=>?_)
  have hi2:R[a]?=some i:=hi2
  obtain⟨him,h,e1,e2,gr,e3,m,e4,e5⟩:=open_row (q:=fun i=>(bitsOf (opG c)).testBit (x.1.2.1.getD i 0).toNat) hd ok (fun j hj=>opG_bits ok h7 (by have:=hown j;omega)) (a:=a) (i:=i) (by rw[eR2];exact hi2)
  rw[eR2] at e4
  refine KW.ldF 8 hcR U U U U U U U U U ?_
  refine KW.getI sR1 U U U U U U U U U U U U U U U U (him.1) (him.2) (fun h' hh'=>?_)
  have hh':x.1.2.1[i.toNat]?=some h':=hh'
  rw[List.getD_eq_getElem?_getD,hh'] at e1
  have e1:h'=(h:Int):=e1
  subst e1
  obtain⟨rs,ers⟩:∃rs,opR x.1.2.1 c.got x.1.1.toNat (R.take a)=rs:=⟨_,rfl⟩
  have rok:=opR_ok (got:=c.got) hown (R.take a)
  rw[ers] at rok e4
  obtain⟨F,hl⟩:=rs
  simp only at rok e4
  have hFl:=rok.1
  have hll:hl.length=a:=by have:=rok.2.1;rw[List.length_take] at this;omega
  have ers2:opR x.1.2.1 c.got x.1.1.toNat (R.take (a+1))=(F.set h ((m:Int)+1),hl++[gr.getD m 0]):=by
   have et:R.take (a+1)=R.take a++[i]:=by rw[List.take_add_one,hi2];rfl
   rw[et,opR_snoc,ers]
   have q1:(x.1.2.1.getD i.toNat 0).toNat=h:=by rw[List.getD_eq_getElem?_getD,hh'];exact Int.toNat_natCast h
   have q2:c.got.getD h []=gr:=by rw[List.getD_eq_getElem?_getD,e3];rfl
   simp only[opS,q1,e4,q2,Int.toNat_natCast]
  refine KW.ldF 3 hcR U U U U U U U U U ?_
  refine KW.getL hGo U U U U U U U U U U U U U U U U (by omega) (by omega) (fun gr2 ar cr hg2 hsg=>?_)
  have hg2:c.got[h]?=some gr2:=hg2
  rw[e3] at hg2
  cases hg2
  refine KW.idx0 U U U U U U U U U (by omega) (by omega) ?_
  refine KW.ldI 1 (h) U U U U U U U U (by omega) (by simp only[ers];omega) ?_
  refine KW.getI hsg U U U U U U U U U U U U U U U U (by simp only[ers,e4];omega) (by simp only[ers,e4];omega) (fun z hz=>?_)
  have hz:gr[m]?=some z:=by simpa only[ers,e4,Int.toNat_natCast] using hz
  have hzD:gr.getD m 0=z:=by rw[List.getD_eq_getElem?_getD,hz];rfl
  refine KW.app1 (xs:=(opR x.1.2.1 c.got x.1.1.toNat (R.take a)).2.map (Value.int .i64)) (v:=.int .i64 z) 0 2 U U U U U U U U U U U U U U U U U U U U U U U (by simp only[ers,List.length_map];exact hll) (by show(a+1)*8≤_;omega) (by show a+1≤_;omega) ?_
  refine KW.idx0 U U U U U U U U U (by omega) (by omega) ?_
  refine KW.ldI 1 (h) U U U U U U U U (by omega) (by simp only[ers];omega) ?_
  refine KW.idx0 U U U U U U U U U (by omega) (by omega) ?_
  refine KW.stI 1 (h) U U U U U U U U U (by omega) (by simp only[ers];omega) ?_
  have hA:(opR x.1.2.1 c.got x.1.1.toNat (R.take a)).2.map (Value.int .i64)++[.int .i64 z]=(opR x.1.2.1 c.got x.1.1.toNat (R.take (a+1))).2.map (Value.int .i64):=by rw[ers,ers2,hzD];simp
  have hgl9:gr.length≤20:=by
   rcases ok.go h gr e3 with⟨e,_⟩ | ⟨e,_⟩
   ·rw[e];exact Nat.zero_le _
   ·have:=rows20 hd h;omega
  have hF:((opR x.1.2.1 c.got x.1.1.toNat (R.take a)).1.set h (IntKind.i64.wrap ((opR x.1.2.1 c.got x.1.1.toNat (R.take a)).1.getD h 0+1))).map (Value.int .i64)=(opR x.1.2.1 c.got x.1.1.toNat (R.take (a+1))).1.map (Value.int .i64):=by
   rw[ers,ers2]
   simp only
   rw[e4,wr (by omega) (by omega)]
  refine KW.nxt U U (fun H' g=>⟨(a+1,_),by simp only;omega,by first | omega | (simp only;omega),⟨rfl,rfl,rfl,rfl,rfl,rfl,congrArg (Value.int .i64) (inc64 (by omega)),trivial⟩,g.eqT (T2x hA hF)⟩)
 ·have k1:¬(a:Int)<(R.length:Int):=k1
  obtain rfl:a=R.length:=by omega
  rw[List.take_length]
  have eH:opH x c=(opR x.1.2.1 c.got x.1.1.toNat R).2:=by unfold opH;rw[eR]
  have rok:=opR_ok (got:=c.got) hown R
  have hHl:(opH x c).length=R.length:=by rw[eH];exact rok.2.1
  have sR0:=(inferInstance:On SG HG SR HR).st d.hid sG0.1
  refine KW.ldP sR0.1 (sR0.2.trans (sG0.2.trans hha.2)) U U U U U (bload_seg (ps:=[.int .i64 x.1.1,.slice a1 x.1.2.1.length c1,.int .i64 x.1.2.2.1,.int .i64 x.1.2.2.2.1,.slice a2 x.1.2.2.2.2.length c2]) U U U (by show 7+5≤15;decide) rfl) ?_
  have sR2:=sG2.up (S':=SR) (H':=HR)
  have hGR:=hGB.up (S':=SR) (H':=HR)
  refine KW.callV1 U U U U U (v:=.tuple #[.int .i64 (rebV x.1 (opG c) (opH x c)),.int .i64 (rebC x.1 (opG c) (opH x c))]) (fun H1 g _=>?_) (fun n7 m7=>?_)
  ·have key:=rebuild (S:=Low H1.n) (H0:=H1) x.1.1 x.1.2.2.1 x.1.2.2.2.1 x.1.2.1 (opG c) (opH x c) x.1.2.2.2.2 (a1:=a1) (c1:=c1) (a2:=a2) (c2:=c2) (a3:=ag) (c3:=cg) (a4:=some ⟨o,0,some 1⟩) (c4:=R.length) hB.1 (by show(opG c).length≤_;omega) (by show(opH x c).length≤_;omega) sR1.up sR2.up hGR.up (by
    have hb:=g.blk (j:=0) rfl
    have hm:H1.m o=some ⟨2,true,(opH x c).map (Value.int .i64)⟩:=by rw[eH];exact hb.1
    have h1:=(row_ml hm).sl
    rw[hHl] at h1 ⊢
    exact h1.more (fun id h=>by rw[h];exact hb.2))
   rw[hHl] at key
   exact key
  ·refine KW.retM1 U U U U (fun H1 g=>rfl)
end
section
variable {S:Ids} {H0:AH}
end
theorem filter_at {α:Type} {q:α→Bool}:∀(l:List α) {a:Nat} {x:α},l[a]?=some x→q x=true→(l.filter q)[(l.take a).countP q]?=some x
 | [],_,_,h,_=>by simp at h
 | y :: l,0,x,h,hq=>by
  cases h
  rw[List.filter_cons_of_pos hq]
  rfl
 | y :: l,a+1,x,h,hq=>by
  have ih:=filter_at l (a:=a) (x:=x) h hq
  rw[List.take_succ_cons,List.countP_cons,List.filter_cons]
  split
  ·rename_i hy
   rw[List.getElem?_cons_succ]
   exact ih
  ·rename_i hy
   exact ih
noncomputable def opensF (x:T_Scheme) (g:List Int):Bool:=(comb x.2.2.1 (heldR x.2.1 x.2.2.2.2 (bitsOf g)) (unitL x.2.2.2.1.toNat)).isSome
theorem rowsP_sub {q q':Nat→Bool} {n:Nat} (h:∀i,i<n→q i=true→q' i=true):List.Sublist (rowsP q n) (rowsP q' n):=by
 unfold rowsP
 refine List.Sublist.map _ ?_
 have e:(List.range n).filter q=((List.range n).filter q').filter q:=by
  rw[List.filter_filter]
  refine List.filter_congr fun i hi=>?_
  have:=h i (List.mem_range.1 hi)
  cases hq:q i with
  | true=>rw[this hq];rfl
  | false=>rfl
 rw[e]
 exact List.filter_sublist
theorem lc_sub {L L':List (List Int)} (h:List.Sublist L L'):∀cs:List Int,cs.length=L.length→∃cs':List Int,cs'.length=L'.length∧∀j,lcS L' cs' j=lcS L cs j:=by
 induction h with
 | slnil=>exact fun cs hc=>⟨cs,hc,fun _=>rfl⟩
 | cons a _ ih=>
  intro cs hc
  obtain⟨cs',h1,h2⟩:=ih cs hc
  refine⟨0 :: cs',by simp[h1],fun j=>?_⟩
  show 0*_+lcS _ cs' j=_
  rw[h2 j]
  omega
 | cons_cons a _ ih=>
  intro cs hc
  cases cs with
  | nil=>simp at hc
  | cons c cs=>
   obtain⟨cs',h1,h2⟩:=ih cs (by simpa using hc)
   refine⟨c :: cs',by simp[h1],fun j=>?_⟩
   show c*_+lcS _ cs' j=c*_+lcS _ cs j
   rw[h2 j]
theorem opensF_sub {x:T_Scheme} {g g':List Int} (hk:SchOk x) (h:∀i:Nat,(bitsOf g).testBit i=true→(bitsOf g').testBit i=true) (ho:opensF x g=true):opensF x g'=true:=by
 have hk':OkSch x.1 x.2.1 x.2.2.1 x.2.2.2.1 x.2.2.2.2:=hk
 have hf:=fer hk'.mat.pr
 have hp2:=hk'.mat.pr.1
 obtain⟨k,ek⟩:∃k:Nat,x.2.2.2.1=((k+1:Nat):Int):=⟨x.2.2.2.1.toNat-1,by have:=hk'.c1;omega⟩
 unfold opensF at ho ⊢
 rw[ek,Int.toNat_natCast] at ho ⊢
 have hu:=unitL_in (p:=x.2.2.1) hp2 (show 1≤k+1 by omega)
 have hL:Rect x.2.2.1 (k+1) (heldR x.2.1 x.2.2.2.2 (bitsOf g)):=held_rect hk' ek
 have hL':Rect x.2.2.1 (k+1) (heldR x.2.1 x.2.2.2.2 (bitsOf g')):=held_rect hk' ek
 have hs:List.Sublist (heldR x.2.1 x.2.2.2.2 (bitsOf g)) (heldR x.2.1 x.2.2.2.2 (bitsOf g')):=by
  unfold heldR selR
  exact List.Sublist.map _ (rowsP_sub fun i _ hi=>h _ hi)
 cases hc:comb x.2.2.1 (heldR x.2.1 x.2.2.2.2 (bitsOf g)) (unitL (k+1)) with
 | none=>rw[hc] at ho;cases ho
 | some cs=>
  obtain⟨⟨h1,h2⟩,h3⟩:=comb_sound hf hL hu hc
  obtain⟨cs',h4,h5⟩:=lc_sub hs cs h1
  cases hc':comb x.2.2.1 (heldR x.2.1 x.2.2.2.2 (bitsOf g')) (unitL (k+1)) with
  | none=>exact absurd hc' (comb_complete hf hL' hu (fun j=>by rw[h5 j];exact h3 j))
  | some _=>rfl
def sharesG (p:Int) (rows:List (List Int)) (all:List Int) (R:List Int):List Int:=R.map fun i=>(shares p rows all).getD i.toNat 0
theorem shares_at {p:Int} {rows:List (List Int)} {all:List Int} {i:Nat} (h:i<rows.length):(shares p rows all).getD i 0=dotS p (rows.getD i []) all:=by
 unfold shares
 rw[List.getD_eq_getElem?_getD,List.getD_eq_getElem?_getD,List.getElem?_map,List.getElem?_eq_getElem h]
 rfl
theorem codeH_of {x:T_Scheme} {g held:List Int} (hk:SchOk x) (hg:Rises 0 (x.1-1) g) (hl:held.length=(rowsG x.2.1 g).length) (he:Elems x.2.2.1 held):codeH x g held=0:=by
 have hs:codeS x g=0:=by unfold codeS;rw[if_pos (tv_true hk),if_pos (tv_true hg)]
 unfold codeH
 rw[if_pos hs,if_pos (tv_true ⟨hl,he⟩)]
theorem held_fits {x:T_Scheme} {g all held:List Int} {k:Nat} (hk:SchOk x) (ek:x.2.2.2.1=((k+1:Nat):Int)) (ha:all.length=k+1) (hh:held=sharesG x.2.2.1 x.2.2.2.2 all (rowsG x.2.1 g)):
  ∀(i:Nat) r v,(heldR x.2.1 x.2.2.2.2 (bitsOf g))[i]?=some r→held[i]?=some v→Cg x.2.2.1 (dF r 0 all) v:=by
 have hk':OkSch x.1 x.2.1 x.2.2.1 x.2.2.2.1 x.2.2.2.2:=hk
 intro i r v hr hv
 subst hh
 have hr:(selR x.2.2.2.2 (rowsG x.2.1 g))[i]?=some r:=hr
 unfold selR at hr
 unfold sharesG at hv
 rw[List.getElem?_map] at hr hv
 obtain⟨q,hq,rfl⟩:=Option.map_eq_some_iff.1 hr
 rw[hq] at hv
 have hv:(shares x.2.2.1 x.2.2.2.2 all).getD q.toNat 0=v:=Option.some.inj hv
 have hqb:=held_in hk' (q:=fun i=>(bitsOf g).testBit (x.2.1.getD i 0).toNat) q (List.mem_of_getElem? hq)
 rw[shares_at (by omega)] at hv
 have hrl:((x.2.2.2.2.getD q.toNat []).length:Int)=x.2.2.2.1:=(hk'.mat.row _ (by
  rw[List.getD_eq_getElem?_getD,List.getElem?_eq_getElem (show q.toNat<x.2.2.2.2.length by omega)]
  exact List.getElem_mem _)).1
 rw[← hv,dotS_dF (by omega)]
 exact Cg.mod.symm
theorem sharesG_in {p:Int} {rows:List (List Int)} {all R:List Int} (hp:PrimeP p):Elems p (sharesG p rows all R):=fun v hv=>by
 obtain⟨i,_,rfl⟩:=List.mem_map.1 hv
 exact elem_at (shares_in hp) hp.1 _
theorem reb_right {x:T_Scheme} {g all held:List Int} {k:Nat} (hk:SchOk x) (hg:Rises 0 (x.1-1) g) (ek:x.2.2.2.1=((k+1:Nat):Int)) (ha:all.length=k+1) (he:Elems x.2.2.1 all) (hh:held=sharesG x.2.2.1 x.2.2.2.2 all (rowsG x.2.1 g)) (ho:opensF x g=true):
  rebC x g held=0∧rebV x g held=all.getD 0 0:=by
 have hk':OkSch x.1 x.2.1 x.2.2.1 x.2.2.2.1 x.2.2.2.2:=hk
 have hp:=hk'.mat.pr
 have hf:=fer hp
 have hp2:=hp.1
 have fits:=held_fits (g:=g) hk ek ha hh
 have hei:Elems x.2.2.1 held:=by rw[hh];exact sharesG_in hp
 have hl:held.length=(rowsG x.2.1 g).length:=by rw[hh];unfold sharesG;rw[List.length_map]
 have hc:=codeH_of hk hg hl hei
 have hu:=unitL_in (p:=x.2.2.1) hp2 (show 1≤k+1 by omega)
 have hL:Rect x.2.2.1 (k+1) (heldR x.2.1 x.2.2.2.2 (bitsOf g)):=held_rect hk' ek
 have hhL:held.length=(heldR x.2.1 x.2.2.2.2 (bitsOf g)).length:=by rw[hl];unfold heldR rowsG;rw[selR_len]
 have hn:k+1∉(ech x.2.2.1 (augW (heldR x.2.1 x.2.2.2.2 (bitsOf g)) held) (k+1+1)).2:=sol_none hf (augW_rect hL (fun v hv=>by have:=hei v hv;omega)) ha ((allS_aug (fun r hr=>(hL r hr).1) hhL ha).2 fits)
 unfold opensF at ho
 rw[ek,Int.toNat_natCast] at ho
 cases hcb:comb x.2.2.1 (heldR x.2.1 x.2.2.2.2 (bitsOf g)) (unitL (k+1)) with
 | none=>rw[hcb] at ho;cases ho
 | some cs=>
  obtain⟨⟨h1,h2⟩,h3⟩:=comb_sound hf hL hu hcb
  have e0:rebC x g held=0:=by
   unfold rebC
   rw[if_pos hc,ek,Int.toNat_natCast,hcb,if_neg (by simp),if_neg hn]
  refine⟨e0,?_⟩
  unfold rebV
  rw[if_pos e0,ek,Int.toNat_natCast,hcb]
  show dotS x.2.2.1 cs held=_
  rw[dotS_dF (by omega)]
  have e1:=dF_dL cs held [] (by omega)
  simp only[List.nil_append,List.length_nil] at e1
  rw[e1]
  have key:Cg x.2.2.1 (dL cs held) (all.getD 0 0):=by
   refine(val_lc _ cs held hhL.symm fits).trans ?_
   rw[← unit_dF0 ha,wS_dF]
   exact wS_cg (fun j=>h3 j) all 0
  rw[key.emod]
  have h0:=elem_at he hp2 0
  exact Int.emod_eq_of_lt h0.1 (by omega)
section
variable {x:T_Deal} {c:Cer}
theorem opH_len (hd:DealOk x) (hn:∀i,(x.1.2.1.getD i 0).toNat<x.1.1.toNat):(opH x c).length=(rowsG x.1.2.1 (opG c)).length:=(opR_ok (got:=c.got) hn _).2.1
theorem own_at (hd:DealOk x) (i:Nat):0≤x.1.2.1.getD i 0∧(x.1.2.1.getD i 0).toNat<x.1.1.toNat:=by
 have h1:=hd.sch.h1
 rcases Nat.lt_or_ge i x.1.2.1.length with h | h
 ·have:=hd.sch.own (x.1.2.1.getD i 0) (by rw[List.getD_eq_getElem?_getD,List.getElem?_eq_getElem h];exact List.getElem_mem _)
  omega
 ·rw[List.getD_eq_getElem?_getD,List.getElem?_eq_none h]
  show 0≤(0:Int)∧(0:Int).toNat<_
  omega
theorem opR_at {ow:List Int} {got:List (List Int)} {n:Nat} (hn:∀i,(ow.getD i 0).toNat<n):∀(m:Nat) (rs:List Int),rs.length=m→∀(a:Nat) i,rs[a]?=some i→(opR ow got n rs).2[a]?=some ((got.getD (ow.getD i.toNat 0).toNat []).getD (ownC ow (ow.getD i.toNat 0).toNat (rs.take a)) 0)
 | 0,rs,e,a,i,h=>by rw[List.eq_nil_of_length_eq_zero e] at h;simp at h
 | m+1,rs,e,a,i,h=>by
  obtain⟨rs',z,rfl⟩:∃rs' z,rs=rs'++[z]:=by
   have:=List.dropLast_concat_getLast (l:=rs) (by intro h0;rw[h0] at e;cases e)
   exact⟨_,_,this.symm⟩
  have e':rs'.length=m:=by simpa using e
  rw[opR_snoc]
  unfold opS
  simp only
  have hl:=(opR_ok (got:=got) hn rs').2.1
  rcases Nat.lt_or_ge a rs'.length with ha | ha
  ·rw[List.getElem?_append_left ha] at h
   rw[List.getElem?_append_left (by omega),List.take_append_of_le_length (by omega)]
   exact opR_at hn m rs' e' a i h
  ·have ea:a=rs'.length:=by
    have:=(List.getElem?_eq_some_iff.1 h).1
    simp at this
    omega
   subst ea
   rw[List.getElem?_append_right (Nat.le_refl _),Nat.sub_self] at h
   have h:z=i:=Option.some.inj h
   subst h
   rw[List.getElem?_append_right (by omega),hl,Nat.sub_self]
   rw[(opR_ok (got:=got) hn rs').2.2 _ (hn _)]
   rw[List.take_append_of_le_length (Nat.le_refl _),List.take_length,Int.toNat_natCast]
   rfl
theorem opG_rises (hd:DealOk x) (ok:CerOk x c):Rises 0 (x.1.1-1) (opG c):=markF_rises c.has 0 _ (by have:=ok.hl;have:=ok.sl;omega)
theorem opH_right {e:Int} (hd:DealOk x) (ok:CerOk x c) (h:∀j:Nat,c.has.getD j false=true→c.got.getD j []=valsD x e j):opH x c=sharesG x.1.2.2.1 x.1.2.2.2.2 (x.2.1 :: blD x e) (rowsG x.1.2.1 (opG c)):=by
 have h7:=hd.sch.h7
 refine List.ext_getElem? fun a=>?_
 unfold sharesG
 rw[List.getElem?_map]
 rcases Nat.lt_or_ge a (rowsG x.1.2.1 (opG c)).length with hlt | hge
 ·obtain⟨i,hi⟩:∃i,(rowsG x.1.2.1 (opG c))[a]?=some i:=⟨_,List.getElem?_eq_getElem hlt⟩
  rw[hi]
  have h1:=opR_at (got:=c.got) (fun i=>(own_at hd i).2) _ (rowsG x.1.2.1 (opG c)) rfl a _ hi
  show(opR x.1.2.1 c.got x.1.1.toNat (rowsG x.1.2.1 (opG c))).2[a]?=_
  rw[h1]
  have hm:=rowsP_in.1 (List.mem_of_getElem? hi)
  obtain⟨m0,m1,m2⟩:=hm
  have ho:=own_at hd i.toNat
  obtain⟨w,hw⟩:∃w,x.1.2.1.getD i.toNat 0=w:=⟨_,rfl⟩
  rw[hw] at m2 ho ⊢
  have hb:=opG_bits ok h7 (j:=w.toNat) (by omega)
  rw[m2] at hb
  rw[h _ hb.symm]
  show some ((valsOf _ _ _ _ _ _).getD _ 0)=some _
  unfold valsOf
  congr 1
  have key:(rowsOf x.1.2.1 (w.toNat:Nat))[ownC x.1.2.1 w.toNat ((rowsG x.1.2.1 (opG c)).take a)]?=some i:=by
   have e1:rowsOf x.1.2.1 (w.toNat:Nat)=(rowsG x.1.2.1 (opG c)).filter fun i=>decide ((x.1.2.1.getD i.toNat 0).toNat=w.toNat):=by
    unfold rowsOf rowsG rowsP
    rw[List.filter_map,List.filter_filter]
    refine congrArg (List.map _) (List.filter_congr fun z hz=>?_)
    have oz:=own_at hd z
    simp only[Function.comp,Int.toNat_natCast]
    by_cases e:x.1.2.1.getD z 0=(w.toNat:Int)
    ·rw[decide_eq_true e,decide_eq_true (by rw[e];rfl),e,Int.toNat_natCast,m2];rfl
    ·rw[decide_eq_false e,decide_eq_false (by omega)];rfl
   rw[e1]
   exact filter_at _ hi (decide_eq_true (by rw[hw]))
  rw[List.getD_eq_getElem?_getD,List.getElem?_map,key]
  rfl
 ·rw[List.getElem?_eq_none hge]
  exact List.getElem?_eq_none (by rw[opH_len hd (fun i=>(own_at hd i).2)];exact hge)
end
end Go.Proofs.YtlapbbffoapleaaGreat.Am
namespace Go.Proofs.YtlapbbffoapleaaGreat.Am
open Go Go.RowKit Go.Proofs
section
variable {S:Ids} {H0:AH} {W:Ids} {a a':Option Addr} {c c':Nat} {left k:Int}
end
section
variable {P:Program} {S:Ids} {H0:AH} {Q:PostC} {k k1:List It} {e e1:Env} {T T1:List Var} {n n1:Nat} {l1 r1:List Nat} {d1:Tmp}
theorem KW.litX {o:Oper} {dr:Bool} {t el:TypeId} {m:Nat} {parts:Array (Nat × Operand)} {inf:TypeInfo} {z:Value} (cs:List Value) (h:Go1 P k e T n (.op o dr) k1 e1 T1 n1 l1 r1) (hlr:l1=r1) (ho:o.op=.buildSlice t m parts) (hd:o.dst=some d1)
  (hu:P.underlying t=some (.slice el)) (hi:P.info? el=some inf) (hz:inf.zero=some z) (hzo:zeroOkL P el=true) (hf:Instr.fill (fun j=>some (j*inf.size,inf.size)) (zarr z (m*inf.size)) (parts.toList.map fun p=>(p.1,ev e1 p.2))=some cs.toArray) (hs:cs.length=m*inf.size) (hle:Nat.ble (m*inf.size) 16777216=true)
  (hk:KW P S H0 Q (n1+1) (T1++[(n1,⟨el,true,cs⟩)]) k1 (put1 e1 d1 (.slice (some ⟨n1,0,some inf.size⟩) m m))):KW P S H0 Q n T k e:=by
 refine KW.go h hlr (KEvt.heap (c:=⟨_,_,_,_,_,_⟩) _ _ _ (by rw[ho];exact .inl rfl) (fun H g=>⟨none,_,?_,g.push _⟩) (by rw[hd,put1_eq];exact hk))
 rw[ho]
 have hle:=Nat.le_of_ble_eq_true hle
 simp only[hop,alit,hu,hi,hz,hf,g.n_]
 rw[if_pos ⟨zeroOkL_ok hzo,hle⟩,if_pos (by simpa using hs)]
end
def deedC:List T_Deed→List Value
 | []=>[]
 | d :: l=>[.int .i64 d.1,.int .i64 d.2.1,.int .i64 d.2.2]++deedC l
theorem deedC_len:∀l,(deedC l).length=l.length*3
 | []=>rfl
 | d :: l=>by simp only[deedC,List.length_append,deedC_len l,List.length_cons,List.length_nil];omega
theorem deedC_app:∀a b,deedC (a++b)=deedC a++deedC b
 | [],b=>rfl
 | d :: a,b=>by simp only[List.cons_append,deedC,deedC_app a b,List.append_assoc]
theorem deedC_at:∀(l:List T_Deed) (i:Nat) d,l[i]?=some d→((deedC l).drop (i*3)).take 3=[.int .i64 d.1,.int .i64 d.2.1,.int .i64 d.2.2]
 | x :: l,0,d,h=>by cases h;rfl
 | x :: l,i+1,d,h=>by
  have h:l[i]?=some d:=h
  have e:(i+1)*3=i*3+3:=by omega
  rw[e]
  show((deedC l).drop (i*3)).take 3=_
  exact deedC_at l i d h
theorem deeds_ml {W:Ids} {A:AH} {o:Nat} {ty:TypeId} {l:List T_Deed} (hW:W o) (hm:A.m o=some ⟨ty,true,deedC l⟩):M_DeedS.R W A l [.slice (some ⟨o,0,some 3⟩) l.length l.length]:=
 ml1' (.inr ⟨o,l.length,_,fun _ _=>False,rfl,Nat.le_refl _,hW,hm,rfl,by show l.length*3≤(deedC l).length;rw[deedC_len];exact Nat.le_refl _,fun _ _ p=>p.elim,fun _ _ _ p=>p.elim,fun i x hx=>by
  show M_Deed.R _ A x (((deedC l).drop (0+i*3)).take 3)
  rw[Nat.zero_add,deedC_at l i x hx]
  exact mkM_Deed⟩)
def packH (h:Int):List T_Deed:=[(1,h,0),(3,0,0),(7,h,0),(2,h,0),(3,0,0)]
def gathL:List Int→List T_Deed
 | []=>[]
 | h :: g=>packH h++gathL g
theorem gathL_len:∀g,(gathL g).length=g.length*5
 | []=>rfl
 | h :: g=>by simp only[gathL,packH,List.length_append,gathL_len g,List.length_cons,List.length_nil];omega
theorem gathL_app:∀a b,gathL (a++b)=gathL a++gathL b
 | [],b=>rfl
 | h :: a,b=>by simp only[List.cons_append,gathL,gathL_app a b,List.append_assoc]
def dropsL (n:Nat):List T_Deed:=List.replicate n (5,0,0)
def badH (c:Cer) (h:Int):Prop:=c.named.getD h.toNat false=true∨(c.seat h).2.2≠0
noncomputable def outG (x:T_Deal) (ds:List T_Deed) (g:List Int):List T_Deed:=dropsL (behind x ds).wire.length++gathL g
noncomputable def codeG (x:T_Deal) (ds:List T_Deed) (g:List Int):Int:=
 if givenC x ds=0 then(if tv (Rises 0 (x.1.1-1) g)=true then(if tv (∃h∈g,badH (behind x ds) h)=true then 4 else if(400:Int)<ds.length+(outG x ds g).length then 3 else 0) else 2) else givenC x ds
noncomputable def r0_GatherDeeds (x:T_Deal) (ds:T_DeedS) (g:List Int):List T_Deed:=if codeG x ds g=0 then outG x ds g else []
noncomputable def r1_GatherDeeds (x:T_Deal) (ds:T_DeedS) (g:List Int):Int:=codeG x ds g
def MkDC (l:List T_Deed) (code:Int) (n:Nat) (v:Value) (H1:AH):Prop:=∃a c,v=.tuple #[.slice a l.length c,.int .i64 code]∧M_DeedS.R (New n H1.n) H1 l [.slice a l.length c]
theorem MkDC.nil {code:Int} {n:Nat} {H1:AH} {v:Value} (hv:v=.tuple #[.slice none 0 0,.int .i64 code]):MkDC [] code n v H1:=⟨none,0,hv,ml1' (.inl ⟨rfl,_,_,rfl,fun _=>rfl⟩)⟩
theorem MkDC.nil' {code:Int} {n id:Nat} {H1:AH} {v:Value} (hv:v=.tuple #[.slice (some ⟨id,0,some 3⟩) 0 0,.int .i64 code]):MkDC [] code n v H1:=⟨_,0,hv,ml1' (.inl ⟨rfl,_,_,rfl,fun h=>by cases h⟩)⟩
theorem built_Deed1 (a:Int):Tryz.prog.built 54 [(0,.int .i64 a)]=some #[.int .i64 a,.int .i64 0,.int .i64 0]:=by kernel_rfl
theorem built_Deed2 (a b:Int):Tryz.prog.built 54 [(0,.int .i64 a),(1,.int .i64 b)]=some #[.int .i64 a,.int .i64 b,.int .i64 0]:=by kernel_rfl
theorem T2c {a:Var} {i:Nat} {ty:TypeId} {cs cs':List Value} (h:cs=cs'):([a,(i,⟨ty,true,cs⟩)]:List Var)=[a,(i,⟨ty,true,cs'⟩)]:=by rw[h]
theorem rises_in {x m:Int} {g:List Int} (h:Rises 0 (m-1) g) (hx:x∈g):0≤x∧x≤m-1:=by
 obtain⟨i,hi⟩:=List.getElem?_of_mem hx
 obtain⟨h2,h3⟩:=List.getElem?_eq_some_iff.1 hi
 have:=(h i h2).1
 rw[List.getD_eq_getElem?_getD,hi] at this
 exact this
section
variable {S:Ids} {H0:AH} {x:T_Deal} {ds:T_DeedS} {g:List Int} {dcs:List Value}
theorem impl_GatherDeeds {a c a2 c2} (hB:B_Deal x) (hBd:B_DeedS ds) (hBg:B_Int64S g) (hD:K_Deal.R S H0 x dcs) (hs:K_DeedS.R S H0 ds [.slice a ds.length c]) (hg:K_Int64S.R S H0 g [.slice a2 g.length c2]):SpecM Tryz.prog S H0 12 [.agg dcs.toArray,.slice a ds.length c,.slice a2 g.length c2] (MkDC (r0_GatherDeeds x ds g) (r1_GatherDeeds x ds g)):=by
 have hs:=sl1 hs
 have hg:=sl1 hg
 have hgl:g.length≤1048576:=hBg
 obtain⟨d1,d2,d3,d4,d5,d6,d7,d8,rfl⟩:=form_Deal hD
 refine SpecM.of1 Tryz.func12 rfl (by kernel_rfl) rfl (fun H _=>?_)
 have hD0:K_Deal.R (Low H.n) H x _:=On.R hD
 have hs0:=hs.up (S':=Low H.n) (H':=H)
 have hg0:=hg.up (S':=Low H.n) (H':=H)
 refine KW.callE U U U U U (deedsCode hB hBd.len hD0 hs0) (fun _ _=>?_)
 unfold r0_GatherDeeds r1_GatherDeeds
 refine KW.cndB U U (fun k1=>?_) (fun k1=>?_)
 ·have k1:givenC x ds≠0:=by simpa using k1
  have e:codeG x ds g=givenC x ds:=by unfold codeG;rw[if_neg k1]
  rw[e,if_neg k1]
  refine KW.retM1 U U U U (fun H1 g=>MkDC.nil rfl)
 have k1:givenC x ds=0:=by simpa using k1
 obtain⟨hd,hdp,h400⟩:=given0 k1
 have ok:=behind_ok hd hdp
 have h7:=hd.sch.h7
 have h1h:=hd.sch.h1
 refine KW.callE U U U U U (isGroup x.1.1 (by omega) (by omega) hg0) (fun _ _=>?_)
 refine KW.cndB U U (fun k2=>?_) (fun k2=>?_)
 ·have k2:tv (Rises 0 (x.1.1-1) g)=false:=by simpa using k2
  have e:codeG x ds g=2:=by unfold codeG;rw[if_pos k1,k2];rfl
  rw[e,if_neg (by decide)]
  refine KW.retM1 U U U U (fun H1 g=>MkDC.nil rfl)
 have k2:tv (Rises 0 (x.1.1-1) g)=true:=by simpa using k2
 have hr:=tv_iff.1 k2
 refine KW.fact (fun _ g=>g.nle (H1:=H)) (fun hn0=>?_)
 refine KW.callN1 U U U U U (implAfter hd hdp h400 hB hD0 hs0) (fun v H1 S1 m1 _ _ hv=>?_)
 obtain⟨d,X,rfl,hh⟩:=hv
 have st1:=(inferInstance:On (Low H.n) H S1 H1).st
 have hh1:=hh.on (S':=S1) (A':=H1)
 have hc:=hh1.cellsH
 obtain⟨hn1,hn2⟩:=hh1.named
 obtain⟨hs1,scs,hs2,hscl⟩:=hh1.seats
 have hw12:=ok.wl
 have hg1:KI.Sl S1 H1 (.slice a2 g.length c2) g:=sl_mk hg0 (fun id p=>st1 id p)
 refine KW.cnt (fun n1 hne1=>?_)
 refine KW.fact (p:=H.n≤n1) (fun _ gd=>by omega) (fun hn1l=>?_)
 refine KW.litS0 U U U U U U U U U U ?_
 obtain⟨cb,hcb⟩:∃cb,behind x ds=cb:=⟨_,rfl⟩
 have hcp:play x (cer0 x.1.1.toNat) ds=cb:=hcb
 rw[hcp] at hc hn2 hscl
 rw[hcb] at ok hw12
 have eG:codeG x ds g=if tv (∃h∈g,badH cb h)=true then 4 else if(400:Int)<ds.length+(outG x ds g).length then 3 else 0:=by unfold codeG;rw[if_pos k1,k2,hcb];rfl
 have eO:outG x ds g=dropsL cb.wire.length++gathL g:=by unfold outG;rw[hcb]
 obtain⟨hid,sid,gid,bid,nid,w⟩:=d
 have hwi:WireB HTI S1 H1 X w cb.wire:=by have:=hh1.wire;rw[hcp] at this;exact this
 obtain⟨aw,cw,hwv⟩:∃aw cw,HD.wv ⟨hid,sid,gid,bid,nid,w⟩ cb.wire.length=.slice aw cb.wire.length cw:=by
  cases w with
  | none=>
   have e:cb.wire=[]:=hwi
   rw[e]
   exact⟨none,0,rfl⟩
  | some iq=>exact⟨_,_,rfl⟩
 have hc:Has3 S1 H1 hid 0 ([.int .i64 cb.ep,.slice (some ⟨sid,0,some 7⟩) cb.seats.length cb.seats.length,.int .i64 cb.oe,.slice (some ⟨gid,0,some 1⟩) cb.got.length cb.got.length,.slice (some ⟨bid,0,some 1⟩) cb.has.length cb.has.length,.slice (some ⟨nid,0,some 1⟩) cb.named.length cb.named.length,.slice aw cb.wire.length cw]++[.int .i64 x.1.1,.slice d1 x.1.2.1.length d2,.int .i64 x.1.2.2.1,.int .i64 x.1.2.2.2.1,.slice d3 x.1.2.2.2.2.length d4,.int .i64 x.2.1,.slice d5 x.2.2.1.length d6,.slice d7 x.2.2.2.length d8]):=by
  have h:=hc
  simp only[HD.cells,hwv] at h
  exact h
 simp only at hn1 hn2 hs1 hs2
 have hnl:cb.named.length=cb.seats.length:=ok.nl
 have hsl:=ok.sl
 refine KW.ldF 6 hc U U U U U U U U U ?_
 refine KW.lpM U U (fun s:Nat × Nat=>[(1,.slice a ds.length c),(2,.slice a2 g.length c2),(9,.pointer (some ⟨hid,0,none⟩)),(11,.slice (some ⟨s.2,0,some 3⟩) s.1 s.1),(38,.int .i64 cb.wire.length),(39,.int .i64 s.1)]) (fun s=>S1) (fun s=>H1) (fun s=>[(H.n,⟨32,true,[.int .i64 x.1.1,.slice d1 x.1.2.1.length d2,.int .i64 x.1.2.2.1,.int .i64 x.1.2.2.2.1,.slice d3 x.1.2.2.2.2.length d4,.int .i64 x.2.1,.slice d5 x.2.2.1.length d6,.slice d7 x.2.2.2.length d8]⟩),(s.2,⟨54,true,deedC (dropsL s.1)⟩)]) (fun s=>s.1≤cb.wire.length) (fun s=>cb.wire.length-s.1) ((0,n1)) (Nat.zero_le _) ⟨rfl,rfl,rfl,rfl,rfl,rfl,trivial⟩ U U (rfl) (fun s hi bE n=>?_)
 obtain⟨i,o⟩:=s
 have hi:i≤cb.wire.length:=hi
 refine KW.cnd U U (fun k3=>?gin) (fun k3=>?gout)
 case gin=>
  have k3:(i:Int)<(cb.wire.length:Int):=k3
  refine KW.build U U U U U (built_Deed1 _) ?_
  refine KW.cnt (fun m hm=>?_)
  refine KW.litS1 U U U U U U U U U U U U ?_
  refine KW.appTS (m:=1) (ys:=[.int .i64 5,.int .i64 0,.int .i64 0]) 1 U U U U U U U U (by decide) rfl (fun H1 g=>acells_seg (g.blk (j:=2) rfl).1 (by show 0+1*3≤3;decide)) (by show 0+i*3≤(deedC (dropsL i)).length;rw[deedC_len];simp[dropsL]) rfl (by decide) (by show(i+1)*24≤_;omega) (by show i+1≤_;omega) ?_
  have e3:((deedC (dropsL i)).drop 0).take (i*3)++[.int .i64 5,.int .i64 0,.int .i64 0]=deedC (dropsL (i+1)):=by
   rw[drop0_take (by rw[deedC_len];simp[dropsL])]
   show _=deedC (List.replicate (i+1) (5,0,0))
   rw[List.replicate_succ',deedC_app]
   rfl
  refine KW.nxt U U (fun H' g=>⟨(i+1,m+1),(by show i+1≤cb.wire.length;omega),by first | omega | (simp only;omega),⟨rfl,rfl,rfl,rfl,rfl,congrArg (Value.int .i64) (inc64 (by omega)),trivial⟩,(g.take 2).castT (show([_,(m+1,⟨_,true,_⟩)]:List Var)=[_,(m+1,⟨_,true,_⟩)] from T2c e3)⟩)
 have k3:¬(i:Int)<(cb.wire.length:Int):=k3
 obtain rfl:i=cb.wire.length:=by omega
 refine KW.lpM U U (fun s:Nat × Nat=>[(1,.slice a ds.length c),(2,.slice a2 g.length c2),(9,.pointer (some ⟨hid,0,none⟩)),(11,.slice (some ⟨s.2,0,some 3⟩) (cb.wire.length+s.1*5) (cb.wire.length+s.1*5)),(46,.slice a2 g.length c2),(47,.int .i64 g.length),(48,.int .i64 s.1)]) (fun s=>S1) (fun s=>H1) (fun s=>[(H.n,⟨32,true,[.int .i64 x.1.1,.slice d1 x.1.2.1.length d2,.int .i64 x.1.2.2.1,.int .i64 x.1.2.2.2.1,.slice d3 x.1.2.2.2.2.length d4,.int .i64 x.2.1,.slice d5 x.2.2.1.length d6,.slice d7 x.2.2.2.length d8]⟩),(s.2,⟨54,true,deedC (dropsL cb.wire.length++gathL (g.take s.1))⟩)]) (fun s=>s.1≤g.length∧∀j,j<s.1→∀h,g[j]?=some h→¬badH cb h) (fun s=>g.length-s.1) ((0,o)) (⟨Nat.zero_le _,fun j h=>absurd h (by simp)⟩) ⟨rfl,rfl,rfl,rfl,rfl,rfl,rfl,trivial⟩ U U (by simp[gathL]) (fun s hi bE n=>?_)
 obtain⟨i,o⟩:=s
 obtain⟨i1,i2⟩:=hi
 simp only at i1 i2
 refine KW.cnd U U (fun k4=>?ga) (fun k4=>?gb)
 case ga=>
  have k4:(i:Int)<(g.length:Int):=k4
  refine KW.getI hg1 U U U U U U U U U U U U U U U U (by omega) (k4) (fun h hh_=>?_)
  have hgi:g[i]?=some h:=hh_
  have hmem:=List.mem_of_getElem? hgi
  have hho:=rises_in hr hmem
  have hho2:HoOk x h:=⟨hho.1,by omega⟩
  refine KW.ldF 5 hc U U U U U U U U U ?_
  refine KW.getB ((bool_sl hn1 hn2 rfl (Nat.le_refl _))) U U U U U U U U U U U U U U U U (by omega) (by show h<((cb.named.length:Nat):Int);omega) (fun b hb=>?_)
  have hb:cb.named[h.toNat]?=some b:=hb
  have hbD:cb.named.getD h.toNat false=b:=by rw[List.getD_eq_getElem?_getD,hb];rfl
  have bad4:badH cb h→codeG x ds g=4:=fun p=>by rw[eG,if_pos (tv_true ⟨h,hmem,p⟩)]
  refine KW.tstB U U (fun k5=>?_) (fun k5=>?_)
  ·have k5:b=true:=k5
   have e:=bad4 (.inl (hbD.trans k5))
   repeat first | refine KW.tT U U U ?_ | refine KW.tF U U U ?_
   refine KW.cT U U (by first | (simp;done) | decide) ?_
   rw[e,if_neg (by decide)]
   exact KW.retM U U U U (fun id hid=>st1 id hid) (fun H1 g=>MkDC.nil rfl)
  have k5:b=false:=k5
  obtain⟨hse,hsok⟩:=ok.seat hho2
  obtain⟨s,hs_⟩:∃s,cb.seat h=s:=⟨_,rfl⟩
  rw[hs_] at hse hsok
  have hR:=hscl.2 _ _ hse
  obtain⟨ps,qs,hseg,hR1,hR2⟩:=split_Seat hR
  obtain⟨b1,e1,b2,e2,hps,hR3,hR4⟩:=split_Purse hR1
  obtain⟨b3,e3,b4,e4,hqs,hR5,hR6⟩:=split_Purse hR2
  have c6:scs[0+h.toNat*7+6]?=some (.int .i64 s.2.2):=by
   have hv:(ps++(qs++[.int .i64 s.2.2]):List Value)[6]?=some (.int .i64 s.2.2):=by rw[hps,hqs];rfl
   have:=seg_at hseg hv
   rw[Nat.zero_add];exact this
  refine KW.ldF 1 hc U U U U U U U U U ?_
  refine KW.idx0 U U U U U U U U U (by omega) (by show h<((cb.seats.length:Nat):Int);omega) ?_
  refine KW.ldC hs1 hs2 c6 U U U U U U U ?_
  refine KW.cndB U U (fun k6=>?_) (fun k6=>?_)
  ·have k6:s.2.2≠0:=by simpa using k6
   have e:=bad4 (.inr (by rw[hs_];exact k6))
   rw[e,if_neg (by decide)]
   exact KW.retM U U U U (fun id hid=>st1 id hid) (fun H1 g=>MkDC.nil rfl)
  have k6:s.2.2=0:=by simpa using k6
  have good:¬badH cb h:=fun p=>p.elim (fun p=>by rw[hbD,k5] at p;cases p) (fun p=>p (by rw[hs_];exact k6))
  refine KW.build U U U U U (built_Deed2 _ _) ?_
  refine KW.build U U U U U (built_Deed1 _) ?_
  refine KW.build U U U U U (built_Deed2 _ _) ?_
  refine KW.build U U U U U (built_Deed2 _ _) ?_
  refine KW.build U U U U U (built_Deed1 _) ?_
  refine KW.cnt (fun m hm=>?_)
  refine KW.litX (deedC (packH h)) U U U U U U U U (by kernel_rfl) U U ?_
  have hdl:(deedC (dropsL cb.wire.length++gathL (g.take i))).length=(cb.wire.length+i*5)*3:=by rw[deedC_len,List.length_append,gathL_len,List.length_take,Nat.min_eq_left i1];simp[dropsL]
  refine KW.appTS (m:=5) (ys:=deedC (packH h)) 1 U U U U U U U U (by decide) rfl (fun H1 g=>acells_seg (g.blk (j:=2) rfl).1 (by show 0+5*3≤15;decide)) (by show 0+(cb.wire.length+i*5)*3≤(deedC (dropsL cb.wire.length++gathL (g.take i))).length;omega) rfl (by decide) (by show(cb.wire.length+i*5+5)*24≤_;omega) (by show cb.wire.length+i*5+5≤_;omega) ?_
  have et:g.take (i+1)=g.take i++[h]:=by rw[List.take_add_one,hgi];rfl
  have e3:((deedC (dropsL cb.wire.length++gathL (g.take i))).drop 0).take ((cb.wire.length+i*5)*3)++deedC (packH h)=deedC (dropsL cb.wire.length++gathL (g.take (i+1))):=by
   have e1:gathL [h]=packH h:=by simp[gathL]
   rw[drop0_take hdl,et,gathL_app,← List.append_assoc,e1,← deedC_app]
  have e4:cb.wire.length+i*5+5=cb.wire.length+(i+1)*5:=by omega
  have hi1:i+1≤g.length:=by omega
  refine KW.nxt U U (fun H' g=>⟨(i+1,m+1),⟨hi1,upto i2 (fun y hy=>by rw[hgi] at hy;cases hy;exact good)⟩,by first | omega | (simp only;omega),⟨rfl,rfl,rfl,congrArg (fun k=>Value.slice (some ⟨m+1,0,some 3⟩) k k) e4,rfl,rfl,congrArg (Value.int .i64) (inc64 (by omega)),trivial⟩,(g.take 2).castT (show([_,(m+1,⟨_,true,_⟩)]:List Var)=[_,(m+1,⟨_,true,_⟩)] from T2c e3)⟩)
 have k4:¬(i:Int)<(g.length:Int):=k4
 obtain rfl:i=g.length:=by omega
 have nobad:¬∃h∈g,badH cb h:=fun⟨h,hm,hp⟩=>by
  obtain⟨j,hj⟩:=List.getElem?_of_mem hm
  exact i2 j (List.getElem?_eq_some_iff.1 hj).1 h hj hp
 have eol:(outG x ds g).length=cb.wire.length+g.length*5:=by rw[eO,List.length_append,gathL_len];simp[dropsL]
 have eG:codeG x ds g=if(400:Int)<ds.length+(outG x ds g).length then 3 else 0:=by rw[eG,tv_false nobad];rfl
 have ew:IntKind.i64.wrap ((ds.length:Int)+((cb.wire.length+g.length*5:Nat):Int))=(ds.length:Int)+(outG x ds g).length:=(wr (by omega) (by omega)).trans (by rw[eol])
 refine KW.cnd U U (fun k7=>?_) (fun k7=>?_)
 ·have k7:IntKind.i64.wrap ((ds.length:Int)+((cb.wire.length+g.length*5:Nat):Int))>400:=k7
  rw[ew] at k7
  have e:codeG x ds g=3:=by rw[eG,if_pos k7]
  rw[e,if_neg (by decide)]
  exact KW.retM U U U U (fun id hid=>st1 id hid) (fun H1 g=>MkDC.nil rfl)
 ·have k7:¬IntKind.i64.wrap ((ds.length:Int)+((cb.wire.length+g.length*5:Nat):Int))>400:=k7
  rw[ew] at k7
  have e:codeG x ds g=0:=by rw[eG,if_neg k7]
  rw[e,if_pos rfl]
  refine KW.retM U U U U (fun id hid=>st1 id hid) (fun H9 gd=>?_)
  have gv:=gd.vars 1 _ rfl
  have hn9:=gd.n_
  have hbk:=(gd.blk (j:=1) rfl).1
  rw[List.take_of_length_le (Nat.le_refl _)] at hbk
  have hbk:H9.m o=some ⟨54,true,deedC (outG x ds g)⟩:=by rw[eO];exact hbk
  have:=deeds_ml (W:=New H.n H9.n) (l:=outG x ds g) ⟨Nat.not_lt.1 fun hlt=>gv.2.2 (st1 _ hlt).1,by rw[hn9];exact gv.2.1⟩ hbk
  refine⟨_,_,?_,this⟩
  rw[eol]
  rfl
end
end Go.Proofs.YtlapbbffoapleaaGreat.Am
namespace Go.Proofs.YtlapbbffoapleaaGreat.Am
open Go Go.RowKit Go.Proofs Go.Proofs.YtlapbbffoapleaaGreat.Pl
theorem play_app (x:T_Deal):∀(a b:List T_Deed) (c:Cer),play x c (a++b)=play x (play x c a) b
 | [],b,c=>rfl
 | d :: a,b,c=>play_app x a b _
theorem codes_app (x:T_Deal):∀(a b:List T_Deed) (c:Cer),codes x c (a++b)=codes x c a++codes x (play x c a) b
 | [],b,c=>rfl
 | d :: a,b,c=>by
  show _ :: codes x _ (a++b)=_ :: (codes x _ a++_)
  rw[codes_app x a b _]
  rfl
theorem doneC_app:∀a b:List Int,doneC (a++b)=doneC a+doneC b
 | [],b=>by simp[doneC]
 | k :: a,b=>by simp only[List.cons_append,doneC,doneC_app a b];omega
theorem doneC_zero:∀l:List Int,(∀k∈l,k=0)→doneC l=l.length
 | [],_=>rfl
 | k :: l,h=>by
  have h1:=doneC_zero l fun k hk=>h k (List.mem_cons_of_mem _ hk)
  have h2:=h k List.mem_cons_self
  simp only[doneC,h1,List.length_cons]
  rw[if_pos h2]
  omega
section
variable {x:T_Deal} {c:Cer} {d:T_Deed} {DS:List T_Deed}
theorem doIt_give (h1:d.1=1) (hr:¬x.1.1≤d.2.1):doIt x c d=send c (false,d.2.1,c.ep,valsD x c.ep d.2.1,tagsD x c.ep d.2.1 (valsD x c.ep d.2.1)):=by
 unfold doIt
 rw[if_neg (show ¬(d.1=3∨d.1=4∨d.1=5) by omega),if_neg (show ¬d.1=9 by omega),if_neg hr,if_pos h1]
theorem doIt_hand (h1:d.1=2) (hr:¬x.1.1≤d.2.1) (he:¬(c.seat d.2.1).1.1=-1):doIt x c d=send c (true,d.2.1,(c.seat d.2.1).1.1,lieOf x.1.2.2.1 (c.seat d.2.1).1.2.1 (c.seat d.2.1).2.2,(c.seat d.2.1).1.2.2):=by
 unfold doIt
 rw[if_neg (show ¬(d.1=3∨d.1=4∨d.1=5) by omega),if_neg (show ¬d.1=9 by omega),if_neg hr,if_neg (show ¬d.1=1 by omega),if_pos h1,if_neg he]
theorem doIt_save (h1:d.1=7) (hr:¬x.1.1≤d.2.1):doIt x c d=(setS c d.2.1 ((c.seat d.2.1).1,(c.seat d.2.1).1,(c.seat d.2.1).2.2),0):=by
 unfold doIt
 rw[if_neg (show ¬(d.1=3∨d.1=4∨d.1=5) by omega),if_neg (show ¬d.1=9 by omega),if_neg hr,if_neg (show ¬d.1=1 by omega),if_neg (show ¬d.1=2 by omega),if_neg (show ¬d.1=6 by omega),if_pos h1]
theorem doIt_deliver (h1:d.1=3) (hw:¬(c.wire.length:Int)≤d.2.1):doIt x c d=(come x (dropW c d.2.1.toNat) (c.pk d.2.1),0):=by
 unfold doIt
 rw[if_pos (show d.1=3∨d.1=4∨d.1=5 from .inl h1),if_neg hw,if_neg (show ¬d.1=5 by omega),if_neg (show ¬d.1=4 by omega)]
theorem doIt_drop (h1:d.1=5) (hw:¬(c.wire.length:Int)≤d.2.1):doIt x c d=(dropW c d.2.1.toNat,0):=by
 unfold doIt
 rw[if_pos (show d.1=3∨d.1=4∨d.1=5 from .inr (.inr h1)),if_neg hw,if_pos h1,if_neg (show ¬d.1=4 by omega)]
theorem comeS_pos {p:T_Packet} (h:(c.seat p.2.1).1.1<p.2.2.1):comeS c p=⟨c.ep,c.seats.set p.2.1.toNat ((p.2.2.1,p.2.2.2.1,p.2.2.2.2),(c.seat p.2.1).2),c.oe,c.got,c.has,c.named,c.wire⟩:=if_pos h
theorem comeS_neg {p:T_Packet} (h:¬(c.seat p.2.1).1.1<p.2.2.1):comeS c p=c:=if_neg h
theorem comeO_pos {p:T_Packet} (h:p.2.2.1=c.oe∧c.named.getD p.2.1.toNat false=false∧c.has.getD p.2.1.toNat false=false) (ht:tagsD x p.2.2.1 p.2.1 p.2.2.2.1=p.2.2.2.2):comeO x c p=⟨c.ep,c.seats,c.oe,c.got.set p.2.1.toNat p.2.2.2.1,c.has.set p.2.1.toNat true,c.named,c.wire⟩:=by
 unfold comeO
 rw[if_pos h,if_pos (tv_true ht)]
theorem comeO_neg {p:T_Packet} (h:¬(p.2.2.1=c.oe∧c.named.getD p.2.1.toNat false=false∧c.has.getD p.2.1.toNat false=false)):comeO x c p=c:=if_neg h
theorem play_drops (x:T_Deal):∀(w:List T_Packet) (ep:Int) (se:List T_Seat) (oe:Int) (go:List (List Int)) (ha na:List Bool),play x ⟨ep,se,oe,go,ha,na,w⟩ (dropsL w.length)=⟨ep,se,oe,go,ha,na,[]⟩∧∀k∈codes x ⟨ep,se,oe,go,ha,na,w⟩ (dropsL w.length),k=0
 | [],ep,se,oe,go,ha,na=>⟨rfl,fun k hk=>by cases hk⟩
 | p :: w,ep,se,oe,go,ha,na=>by
  have ih:=play_drops x w ep se oe go ha na
  have h:doIt x ⟨ep,se,oe,go,ha,na,p :: w⟩ (5,0,0)=(⟨ep,se,oe,go,ha,na,w⟩,0):=by
   rw[doIt_drop rfl (show ¬(((p :: w).length:Nat):Int)≤0 by simp only[List.length_cons];omega)]
   rfl
  show play x (doIt x ⟨ep,se,oe,go,ha,na,p :: w⟩ (5,0,0)).1 (dropsL w.length)=_∧∀k∈(doIt x ⟨ep,se,oe,go,ha,na,p :: w⟩ (5,0,0)).2 :: codes x (doIt x ⟨ep,se,oe,go,ha,na,p :: w⟩ (5,0,0)).1 (dropsL w.length),k=0
  rw[h]
  refine⟨ih.1,fun k hk=>?_⟩
  rcases List.mem_cons.1 hk with rfl | hk
  ·rfl
  ·exact ih.2 k hk
theorem set_same {α:Type} {l:List α} {i:Nat} {a d:α} (h:i<l.length) (e:l.getD i d=a):l.set i a=l:=by
 refine List.ext_getElem? fun j=>?_
 rw[List.getElem?_set]
 split
 ·rename_i e'
  subst e'
  first
   | rw[if_pos h,← e,List.getD_eq_getElem?_getD,List.getElem?_eq_getElem h];rfl
   | rw[← e,List.getD_eq_getElem?_getD,List.getElem?_eq_getElem h];rfl
 ·rfl
noncomputable def fullP (x:T_Deal) (ep h:Int):T_Purse:=(ep,valsD x ep h,tagsD x ep h (valsD x ep h))
structure PackR (x:T_Deal) (c:Cer) (h:Int) (c':Cer):Prop where
 ep:c'.ep=c.ep
 wi:c'.wire=[]
 se:c'.seats=c.seats.set h.toNat (fullP x c.ep h,fullP x c.ep h,0)
 oe:c'.oe=c.ep
 nm:c'.named=c.named
 hs:c'.has.getD h.toNat false=true
 mo:c.oe=c.ep→∀j,c.has.getD j false=true→c'.has.getD j false=true
theorem pack_step {h:Int} (hd:DealOk x) (ok:CerOk x c) (od:OrdC c) (tr:TruC x DS c) (hh:HoOk x h) (hw:c.wire=[]) (hl:(c.seat h).2.2=0) (hn:c.named.getD h.toNat false=false):
  PackR x c h (play x c (packH h))∧∀k∈codes x c (packH h),k=0:=by
 have hsl:=ok.sl
 have hhl:=ok.hl
 have hep:=ok.ep
 have hoe:=od.oe
 have h0:=hh.1
 have h1:=hh.2
 have hse:=od.se _ (List.mem_of_getElem? (ok.seat hh).1)
 have hpu:=(tr.pu h hh).1
 obtain⟨ep,seats,oe,got,has,named,wire⟩:=c
 have hw:wire=[]:=hw
 subst hw
 have hsl:(seats.length:Int)=x.1.1:=hsl
 have hhl:has.length=seats.length:=hhl
 have hep:0≤ep∧ep<_:=hep
 have hoe:oe≤ep:=hoe
 have hl:(seats.getD h.toNat seat0).2.2=0:=hl
 have hn:named.getD h.toNat false=false:=hn
 have hse:(seats.getD h.toNat seat0).2.1.1≤(seats.getD h.toNat seat0).1.1∧(seats.getD h.toNat seat0).1.1≤ep:=hse
 have hpu:TruP x h (seats.getD h.toNat seat0).1:=hpu
 have hlt:h.toNat<seats.length:=by omega
 obtain⟨s,es⟩:∃s,seats.getD h.toNat seat0=s:=⟨_,rfl⟩
 rw[es] at hl hse hpu
 have d1:doIt x ⟨ep,seats,oe,got,has,named,[]⟩ (1,h,0)=(⟨ep,seats,oe,got,has,named,[(false,h,fullP x ep h)]⟩,0):=by
  rw[doIt_give rfl (show ¬x.1.1≤h by omega)]
  rfl
 have d2:doIt x ⟨ep,seats,oe,got,has,named,[(false,h,fullP x ep h)]⟩ (3,0,0)=(⟨ep,seats.set h.toNat (fullP x ep h,s.2),oe,got,has,named,[]⟩,0):=by
  rw[doIt_deliver (d:=(3,0,0)) (c:=⟨ep,seats,oe,got,has,named,[(false,h,fullP x ep h)]⟩) rfl (show ¬(((1:Nat):Nat):Int)≤0 by omega)]
  show(comeS ⟨ep,seats,oe,got,has,named,[]⟩ (false,h,fullP x ep h),(0:Int))=_
  by_cases hp:s.1.1<ep
  ·rw[comeS_pos (c:=⟨ep,seats,oe,got,has,named,[]⟩) (p:=(false,h,fullP x ep h)) (show(seats.getD h.toNat seat0).1.1<ep by rw[es];exact hp)]
   show((⟨ep,seats.set h.toNat (fullP x ep h,(seats.getD h.toNat seat0).2),oe,got,has,named,[]⟩:Cer),(0:Int))=_
   rw[es]
  ·rw[comeS_neg (c:=⟨ep,seats,oe,got,has,named,[]⟩) (p:=(false,h,fullP x ep h)) (show ¬(seats.getD h.toNat seat0).1.1<ep by rw[es];exact hp)]
   have e1:s.1.1=ep:=by omega
   have e2:s.1=fullP x ep h:=by
    rcases hpu with q | ⟨q1,q2⟩
    ·omega
    ·unfold fullP
     rw[← e1,← q2,← q1]
   rw[set_same hlt (by rw[es,← e2])]
 have d3:doIt x ⟨ep,seats.set h.toNat (fullP x ep h,s.2),oe,got,has,named,[]⟩ (7,h,0)=(⟨ep,seats.set h.toNat (fullP x ep h,fullP x ep h,0),oe,got,has,named,[]⟩,0):=by
  rw[doIt_save rfl (show ¬x.1.1≤h by omega)]
  have e1:(seats.set h.toNat (fullP x ep h,s.2)).getD h.toNat seat0=(fullP x ep h,s.2):=getD_set_self hlt
  show((⟨ep,(seats.set h.toNat (fullP x ep h,s.2)).set h.toNat (((seats.set h.toNat (fullP x ep h,s.2)).getD h.toNat seat0).1,((seats.set h.toNat (fullP x ep h,s.2)).getD h.toNat seat0).1,((seats.set h.toNat (fullP x ep h,s.2)).getD h.toNat seat0).2.2),oe,got,has,named,[]⟩:Cer),(0:Int))=_
  rw[e1,List.set_set]
  show((⟨ep,seats.set h.toNat (fullP x ep h,fullP x ep h,s.2.2),oe,got,has,named,[]⟩:Cer),(0:Int))=_
  rw[hl]
 have d4:doIt x ⟨ep,seats.set h.toNat (fullP x ep h,fullP x ep h,0),oe,got,has,named,[]⟩ (2,h,0)=(⟨ep,seats.set h.toNat (fullP x ep h,fullP x ep h,0),oe,got,has,named,[(true,h,fullP x ep h)]⟩,0):=by
  have e1:(seats.set h.toNat (fullP x ep h,fullP x ep h,0)).getD h.toNat seat0=(fullP x ep h,fullP x ep h,0):=getD_set_self hlt
  rw[doIt_hand rfl (show ¬x.1.1≤h by omega) (show ¬((seats.set h.toNat (fullP x ep h,fullP x ep h,0)).getD h.toNat seat0).1.1=-1 by rw[e1];show ¬ep=-1;omega)]
  show send _ (true,h,((seats.set h.toNat (fullP x ep h,fullP x ep h,0)).getD h.toNat seat0).1.1,lieOf x.1.2.2.1 ((seats.set h.toNat (fullP x ep h,fullP x ep h,0)).getD h.toNat seat0).1.2.1 ((seats.set h.toNat (fullP x ep h,fullP x ep h,0)).getD h.toNat seat0).2.2,((seats.set h.toNat (fullP x ep h,fullP x ep h,0)).getD h.toNat seat0).1.2.2)=_
  rw[e1]
  show send _ (true,h,ep,lieOf x.1.2.2.1 (valsD x ep h) 0,tagsD x ep h (valsD x ep h))=_
  rw[lie_zero (vals_el hd ep h)]
  rfl
 obtain⟨c5,e5⟩:∃c5,come x ⟨ep,seats.set h.toNat (fullP x ep h,fullP x ep h,0),oe,got,has,named,[]⟩ (true,h,fullP x ep h)=c5:=⟨_,rfl⟩
 have d5:doIt x ⟨ep,seats.set h.toNat (fullP x ep h,fullP x ep h,0),oe,got,has,named,[(true,h,fullP x ep h)]⟩ (3,0,0)=(c5,0):=by
  rw[doIt_deliver (d:=(3,0,0)) (c:=⟨ep,seats.set h.toNat (fullP x ep h,fullP x ep h,0),oe,got,has,named,[(true,h,fullP x ep h)]⟩) rfl (show ¬(((1:Nat):Nat):Int)≤0 by omega),← e5]
  rfl
 have ep5:play x ⟨ep,seats,oe,got,has,named,[]⟩ (packH h)=c5:=by
  show(doIt x (doIt x (doIt x (doIt x (doIt x ⟨ep,seats,oe,got,has,named,[]⟩ (1,h,0)).1 (3,0,0)).1 (7,h,0)).1 (2,h,0)).1 (3,0,0)).1=c5
  rw[d1,d2,d3,d4,d5]
 have ec5:codes x ⟨ep,seats,oe,got,has,named,[]⟩ (packH h)=[0,0,0,0,0]:=by
  show [(doIt x ⟨ep,seats,oe,got,has,named,[]⟩ (1,h,0)).2,(doIt x (doIt x ⟨ep,seats,oe,got,has,named,[]⟩ (1,h,0)).1 (3,0,0)).2,(doIt x (doIt x (doIt x ⟨ep,seats,oe,got,has,named,[]⟩ (1,h,0)).1 (3,0,0)).1 (7,h,0)).2,(doIt x (doIt x (doIt x (doIt x ⟨ep,seats,oe,got,has,named,[]⟩ (1,h,0)).1 (3,0,0)).1 (7,h,0)).1 (2,h,0)).2,(doIt x (doIt x (doIt x (doIt x (doIt x ⟨ep,seats,oe,got,has,named,[]⟩ (1,h,0)).1 (3,0,0)).1 (7,h,0)).1 (2,h,0)).1 (3,0,0)).2]=_
  rw[d1,d2,d3,d4,d5]
 rw[ep5,ec5]
 refine⟨?_,fun k hk=>by simp at hk;exact hk⟩
 have e5:comeO x (fresh ⟨ep,seats.set h.toNat (fullP x ep h,fullP x ep h,0),oe,got,has,named,[]⟩ ep) (true,h,fullP x ep h)=c5:=e5
 obtain⟨f,ef⟩:∃f,fresh ⟨ep,seats.set h.toNat (fullP x ep h,fullP x ep h,0),oe,got,has,named,[]⟩ ep=f:=⟨_,rfl⟩
 rw[ef] at e5
 have f1:f.ep=ep∧f.seats=seats.set h.toNat (fullP x ep h,fullP x ep h,0)∧f.oe=ep∧f.named=named∧f.wire=[]∧f.has.length=has.length∧(oe=ep→f.has=has):=by
  rw[← ef]
  unfold fresh
  split
  ·rename_i hlt
   have hlt:oe<ep:=hlt
   refine⟨rfl,rfl,rfl,rfl,rfl,by simp,fun e=>by omega⟩
  ·rename_i hnl
   have hnl:¬oe<ep:=hnl
   exact⟨rfl,rfl,by show oe=ep;omega,rfl,rfl,rfl,fun _=>rfl⟩
 obtain⟨g1,g2,g3,g4,g5,g6,g7⟩:=f1
 by_cases hc:ep=f.oe∧f.named.getD h.toNat false=false∧f.has.getD h.toNat false=false
 ·rw[comeO_pos (c:=f) (p:=(true,h,fullP x ep h)) hc rfl] at e5
  subst e5
  refine⟨g1,g5,g2,g3,g4,?_,fun e j hj=>?_⟩
  ·show(f.has.set h.toNat true).getD h.toNat false=true
   exact getD_set_self (by omega)
  ·show(f.has.set h.toNat true).getD j false=true
   rw[getD_set_if (by omega)]
   split
   ·rfl
   ·rw[g7 e];exact hj
 ·rw[comeO_neg (c:=f) (p:=(true,h,fullP x ep h)) hc] at e5
  subst e5
  refine⟨g1,g5,g2,g3,g4,?_,fun e j hj=>by rw[g7 e];exact hj⟩
  cases hb:f.has.getD h.toNat false with
  | true=>rfl
  | false=>exact absurd ⟨g3.symm,by rw[g4];exact hn,hb⟩ hc
theorem packH_ok {h:Int} (hd:DealOk x) (hh:HoOk x h):∀d∈packH h,DeedP d:=by
 have h7:=hd.sch.h7
 have h0:=hh.1
 have h1:=hh.2
 intro d hd'
 simp only[packH,List.mem_cons,List.not_mem_nil,or_false] at hd'
 rcases hd' with rfl | rfl | rfl | rfl | rfl<;>(refine⟨?_,?_,?_,?_,?_⟩<;>simp[cntD]<;>omega)
structure GathR (x:T_Deal) (c:Cer) (g:List Int) (c':Cer):Prop where
 ep:c'.ep=c.ep
 wi:c'.wire=[]
 nm:c'.named=c.named
 sl:c'.seats.length=c.seats.length
 hs:∀h∈g,c'.has.getD h.toNat false=true
 mo:c.oe=c.ep→∀j,c.has.getD j false=true→c'.has.getD j false=true
 pu:∀h∈g,c'.seat h=(fullP x c.ep h,fullP x c.ep h,0)
 st:∀h,HoOk x h→c'.seat h=c.seat h∨c'.seat h=(fullP x c.ep h,fullP x c.ep h,0)
theorem gath_run (hd:DealOk x):∀(g:List Int) {c:Cer},CerOk x c→OrdC c→TruC x DS c→c.wire=[]→(∀h∈g,HoOk x h∧(c.seat h).2.2=0∧c.named.getD h.toNat false=false∧∀d∈packH h,d∈DS)→
  GathR x c g (play x c (gathL g))∧∀k∈codes x c (gathL g),k=0
 | [],c,ok,od,tr,hw,hg=>⟨⟨rfl,hw,rfl,rfl,fun _ h=>(by cases h),fun _ _ h=>h,fun _ h=>(by cases h),fun _ _=>.inl rfl⟩,fun k hk=>(by cases hk)⟩
 | h :: g,c,ok,od,tr,hw,hg=>by
  obtain⟨hh,hl,hn,hds⟩:=hg h List.mem_cons_self
  have h0:=hh.1
  have h1:=hh.2
  have hsl:=ok.sl
  have hP:=packH_ok hd hh
  obtain⟨r,rc⟩:=pack_step hd ok od tr hh hw hl hn
  have ok':=CerOk.play hd (packH h) hP ok
  have od':=OrdC.play hd (packH h) hP ok od
  have tr':=TruC.play hd (packH h) (fun d hm=>⟨hP d hm,hds d hm⟩) ok tr
  obtain⟨c1,e1⟩:∃c1,play x c (packH h)=c1:=⟨_,rfl⟩
  rw[e1] at r ok' od' tr'
  have hseat:∀j,HoOk x j→c1.seat j=if j=h then(fullP x c.ep h,fullP x c.ep h,0) else c.seat j:=fun j hj=>by
   have j0:=hj.1
   show c1.seats.getD j.toNat seat0=_
   rw[r.se,getD_set_if (by omega)]
   by_cases e:j=h
   ·rw[if_pos (by rw[e]),if_pos e]
   ·rw[if_neg (by omega),if_neg e]
  obtain⟨q,qc⟩:=gath_run hd g ok' od' tr' r.wi (fun j hj=>by
   obtain⟨a1,a2,a3,a4⟩:=hg j (List.mem_cons_of_mem _ hj)
   refine⟨a1,?_,by rw[r.nm];exact a3,a4⟩
   rw[hseat j a1]
   split
   ·rfl
   ·exact a2)
  have epl:play x c (gathL (h :: g))=play x c1 (gathL g):=by
   show play x c (packH h++gathL g)=_
   rw[play_app,e1]
  rw[epl]
  obtain⟨c2,e2⟩:∃c2,play x c1 (gathL g)=c2:=⟨_,rfl⟩
  rw[e2] at q ⊢
  refine⟨⟨q.ep.trans r.ep,q.wi,q.nm.trans r.nm,by rw[q.sl,r.se,List.length_set],fun j hj=>?_,fun e j hj=>q.mo (by rw[r.oe,r.ep]) j (r.mo e j hj),fun j hj=>?_,fun j hj=>?_⟩,fun k hk=>?_⟩
  ·rcases List.mem_cons.1 hj with rfl | hj
   ·exact q.mo (by rw[r.oe,r.ep]) _ r.hs
   ·exact q.hs j hj
  ·rcases List.mem_cons.1 hj with rfl | hj
   ·rcases q.st j hh with e | e
    ·rw[e,hseat j hh,if_pos rfl]
    ·rw[e,r.ep]
   ·rw[q.pu j hj,r.ep]
  ·rcases q.st j hj with e | e
   ·rw[e,hseat j hj]
    split
    ·rename_i e';subst e';exact .inr rfl
    ·exact .inl rfl
   ·rw[e,r.ep];exact .inr rfl
  ·have ec:codes x c (gathL (h :: g))=codes x c (packH h)++codes x c1 (gathL g):=by
    show codes x c (packH h++gathL g)=_
    rw[codes_app,e1]
   rw[ec] at hk
   rcases List.mem_append.1 hk with hk | hk
   ·exact rc k hk
   ·exact qc k hk
theorem open_right {e:Int} (hd:DealOk x) (ok:CerOk x c) (he:EpOk x e) (h:∀j:Nat,c.has.getD j false=true→c.got.getD j []=valsD x e j) (ho:opensF x.1 (opG c)=true):rebC x.1 (opG c) (opH x c)=0∧rebV x.1 (opG c) (opH x c)=x.2.1:=by
 have hk:=hd.sch
 have h1:=hk.h1
 obtain⟨E,J,hAt⟩:=HoOk.at hd (e:=e) (a:=0) ⟨Int.le_refl _,by omega⟩ he
 obtain⟨k,ek⟩:∃k:Nat,x.1.2.2.2.1=((k+1:Nat):Int):=⟨x.1.2.2.2.1.toNat-1,by have:=hk.c1;omega⟩
 have hb:=hAt.bl
 exact reb_right (all:=x.2.1 :: blD x e) hd.sch (opG_rises hd ok) ek (by simp only[List.length_cons];omega) (elems_cons hAt.sec hb.2) (opH_right hd ok h) ho
end
end Go.Proofs.YtlapbbffoapleaaGreat.Am
namespace Go.Proofs.YtlapbbffoapleaaGreat.Am
open Go Go.RowKit Go.Proofs
structure CerS (c:Cer):Prop where
 sl:c.seats.length≤1048576
 se:∀s∈c.seats,(s.1.2.1.length≤1048576∧s.1.2.2.length≤1048576)∧(s.2.1.2.1.length≤1048576∧s.2.1.2.2.length≤1048576)
 gl:c.got.length≤1048576
 go:∀g∈c.got,g.length≤1048576
 hl:c.has.length=c.got.length
 nl:c.named.length=c.got.length
 wl:c.wire.length≤1048576
 wi:∀p∈c.wire,p.2.2.2.1.length≤1048576∧p.2.2.2.2.length≤1048576
theorem CerOk.small {x:T_Deal} {c:Cer} (hd:DealOk x) (ok:CerOk x c):CerS c:=by
 have h7:=hd.sch.h7
 have r20:=fun j=>rows20 hd j
 have pu:∀{h:Int} {p:T_Purse},PuOk x h p→p.2.1.length≤1048576∧p.2.2.length≤1048576:=fun {h p} hp=>by
  rcases hp with⟨_,e1,e2⟩ | ⟨_,r⟩
  ·rw[e1,e2];exact⟨Nat.zero_le _,Nat.zero_le _⟩
  ·have:=r.vl;have:=r.tl;have:=r20 h;omega
 refine⟨by have:=ok.sl;omega,fun s hs=>?_,by have:=ok.sl;have:=ok.gl;omega,fun g hg=>?_,by rw[ok.hl,ok.gl],by rw[ok.nl,ok.gl],by have:=ok.wl;omega,fun p hp=>?_⟩
 ·obtain⟨j,hj⟩:=List.getElem?_of_mem hs
  have:=ok.se j s hj
  exact⟨pu this.pu,pu this.sa⟩
 ·obtain⟨j,hj⟩:=List.getElem?_of_mem hg
  rcases ok.go j g hj with⟨e,_⟩ | ⟨e,_⟩
  ·rw[e];exact Nat.zero_le _
  ·have:=r20 j;omega
 ·have:=(ok.wi p hp).rw
  have h1:=this.vl
  have h2:=this.tl
  have:=r20 p.2.1
  omega
section
variable {S:Ids} {H0:AH}
theorem split_SeatF {X:Ids} {A:AH} {s:T_Seat} {cs:List Value} (h:K_Seat.R X A s cs):∃(a1:Option Addr) (c1:Nat) (a2:Option Addr) (c2:Nat) (a3:Option Addr) (c3:Nat) (a4:Option Addr) (c4:Nat),cs=[.int .i64 s.1.1,.slice a1 s.1.2.1.length c1,.slice a2 s.1.2.2.length c2,.int .i64 s.2.1.1,.slice a3 s.2.1.2.1.length c3,.slice a4 s.2.1.2.2.length c4,.int .i64 s.2.2]∧KI.Sl X A (.slice a1 s.1.2.1.length c1) s.1.2.1∧KI.Sl X A (.slice a2 s.1.2.2.length c2) s.1.2.2∧KI.Sl X A (.slice a3 s.2.1.2.1.length c3) s.2.1.2.1∧KI.Sl X A (.slice a4 s.2.1.2.2.length c4) s.2.1.2.2:=by
 obtain⟨ps,qs,rfl,hp,hq⟩:=split_Seat h
 obtain⟨a1,c1,a2,c2,rfl,h1,h2⟩:=split_Purse hp
 obtain⟨a3,c3,a4,c4,rfl,h3,h4⟩:=split_Purse hq
 exact⟨_,_,_,_,_,_,_,_,rfl,h1,h2,h3,h4⟩
end
theorem dcells_one (ds:List T_Deed):(dcells ds).all Value.oneCell'=true:=by
 refine List.all_eq_true.2 fun v hv=>?_
 unfold dcells at hv
 obtain⟨d,_,hd⟩:=List.mem_flatMap.1 hv
 simp only[List.mem_cons,List.not_mem_nil,or_false] at hd
 rcases hd with rfl | rfl | rfl<;>rfl
theorem deeds_slN {S:Ids} {A:AH} {o n c:Nat} {ty:TypeId} {rw_:Bool} {ds:List T_Deed} {cs:List Value} (hn:n=ds.length) (hc:c=ds.length) (hcs:cs=dcells ds) (hb:A.m o=some ⟨ty,rw_,cs⟩∧S o):K_Deed.Sl S A (.slice (some ⟨o,0,some 3⟩) n c) ds:=by
 subst hn hc hcs
 exact deeds_sl hb.2 hb.1
theorem dcells_of:∀(l:List T_Deed) (cells:List Value),(∀(i:Nat) x,l[i]?=some x→(cells.drop (i*3)).take 3=[.int .i64 x.1,.int .i64 x.2.1,.int .i64 x.2.2])→cells.take (l.length*3)=dcells l
 | [],cells,_=>by simp[dcells]
 | x :: l,cells,h=>by
  have h0:=h 0 x rfl
  have ih:=dcells_of l (cells.drop 3) (fun i y hy=>by
   have h1:=h (i+1) y hy
   rw[List.drop_drop]
   rw[show 3+i*3=(i+1)*3 by omega]
   exact h1)
  rw[show(x :: l).length*3=3+l.length*3 by simp only[List.length_cons];omega,List.take_add,ih]
  rw[Nat.zero_mul,List.drop_zero] at h0
  rw[h0]
  rfl
theorem acells_deeds {S:Ids} {H0 H:AH} {T:List Var} {n c:Nat} {a:Option Addr} {ds:List T_Deed} (h:K_Deed.Sl S H0 (.slice a ds.length c) ds) (g:Good S H0 T n H):acells H (.slice a ds.length c) 3=some (ds.length,dcells ds):=by
 rcases h with⟨hx,_⟩ | ⟨id,k,c',b,e1,e2,e3,e4,e5,e6⟩
 ·subst hx;exact acells_nil H _ _ _
 ·simp only[Value.slice.injEq] at e1
  obtain⟨rfl,_,rfl⟩:=e1
  have hm:=(g.froz id e3).2.trans e4
  have hk:k+ds.length*3≤b.cells.length:=e5
  have h1:=acells_seg (m:=ds.length) (c:=c) (es:=3) hm hk
  have h2:(b.cells.drop k).take (ds.length*3)=dcells ds:=dcells_of ds _ (fun i x hx=>by
   have h3:=e6 i x hx
   have h4:=form_Deed h3
   rw[List.drop_drop]
   exact h4)
  rw[h2] at h1
  exact h1
section
variable {S:Ids} {H0:AH} {x:T_Deal} {ds:List T_Deed} {dcs:List Value}
theorem cerAfterN {a c n} (hn:n=ds.length) (hd:DealOk x) (hdp:∀d∈ds,DeedP d) (h400:ds.length≤400) (hD:K_Deal.R S H0 x dcs) (hs:K_Deed.Sl S H0 (.slice a n c) ds):SpecM Tryz.prog S H0 13 [.agg dcs.toArray,.slice a n c] (fun n v H1=>∃cs:List Value,v=.tuple #[.agg cs.toArray,.int .i64 (doneC (codes x (cer0 x.1.1.toNat) ds):Nat),.int .i64 0]∧CerIn (play x (cer0 x.1.1.toNat) ds) (New n H1.n) H1 cs):=by
 subst hn
 exact cerAfter hd hdp h400 hD hs
end
end Go.Proofs.YtlapbbffoapleaaGreat.Am
namespace Go.Proofs.YtlapbbffoapleaaGreat.Am
open Go Go.RowKit Go.Proofs Go.Proofs.YtlapbbffoapleaaGreat.Pl
def IsLie (x:T_Deal) (h:Int) (d:T_Deed):Prop:=d.1=6∧d.2.1=h∧d.2.2≠0∧d.2.2<x.1.2.2.1
def NoPass (x:T_Deal) (h:Int) (e:Nat) (l:Int):Prop:=∀e':Nat,e'<e→l∉passN x e' h x.1.2.2.1.toNat
def HonH (x:T_Deal) (ds:List T_Deed) (h:Int):Prop:=∀d∈ds,IsLie x h d→NoPass x h x.2.2.1.length d.2.2
def HonA (x:T_Deal) (ds:List T_Deed) (n:Nat):Prop:=∀h:Nat,h<n→HonH x ds h
section
variable {x:T_Deal} {ds:List T_Deed}
theorem honest_open (hd:DealOk x) (hdp:∀d∈ds,DeedP d) (hon:HonA x ds x.1.1.toNat) (ho:opensF x.1 (opG (behind x ds))=true):rebC x.1 (opG (behind x ds)) (opH x (behind x ds))=0∧rebV x.1 (opG (behind x ds)) (opH x (behind x ds))=x.2.1:=by
 have ok:=behind_ok hd hdp
 have tr:TruC x ds (behind x ds):=TruC.play hd ds (fun d hm=>⟨hdp d hm,hm⟩) (CerOk.start hd) (TruC.start _)
 obtain⟨c,ec⟩:∃c,behind x ds=c:=⟨_,rfl⟩
 rw[ec] at ok tr ho ⊢
 have hbl:=hd.bl
 have h1:=hd.sch.h1
 have hp2:=hd.prime.1
 obtain⟨e,he,eb,ek⟩:∃e:Nat,EpOk x e∧blD x c.oe=blD x e∧kkD x c.oe=kkD x e:=by
  rcases ok.oe with h | h
  ·refine⟨0,⟨by omega,by omega⟩,?_,?_⟩
   ·rw[h];rfl
   ·rw[h];rfl
  ·have h2:=h.1
   have h3:=h.2
   refine⟨c.oe.toNat,⟨by omega,by omega⟩,?_,?_⟩
   ·show x.2.2.1.getD c.oe.toNat []=x.2.2.1.getD (((c.oe.toNat:Nat):Int)).toNat []
    rw[Int.toNat_natCast]
   ·show x.2.2.2.getD c.oe.toNat []=x.2.2.2.getD (((c.oe.toNat:Nat):Int)).toNat []
    rw[Int.toNat_natCast]
 have ev:∀j:Int,valsD x c.oe j=valsD x e j:=fun j=>by unfold valsD;rw[eb]
 have et:∀(j:Int) vs,tagsD x c.oe j vs=tagsD x e j vs:=fun j vs=>by unfold tagsD;rw[ek]
 have hgot:∀j:Nat,c.has.getD j false=true→c.got.getD j []=valsD x e j:=fun j hj=>by
  have hjl:j<c.has.length:=by
   refine Classical.byContradiction fun hn=>?_
   rw[List.getD_eq_getElem?_getD,List.getElem?_eq_none (by omega)] at hj
   cases hj
  have hhl:=ok.hl
  have hsl:=ok.sl
  obtain⟨l,hl,hv,ht⟩:=tr.hs j hj
  rcases hl with hl | ⟨hl,l0,lp⟩
  ·rw[hv,hl,lie_zero (vals_el hd _ _),ev]
  ·exfalso
   refine hon j (by omega) _ hl ⟨rfl,rfl,by show l≠0;omega,lp⟩ e (by have:=he.2;omega) ?_
   refine(pass_in ⟨by show 0≤l;omega,by show l<_;omega⟩).2 ?_
   show tagsD x e j (lieOf x.1.2.2.1 (valsD x e j) l)=_
   rw[ev,et,et] at ht
   exact ht
 exact open_right hd ok he hgot ho
end
section
variable {S:Ids} {H0:AH}
theorem opensS {x:T_Scheme} {b:Nat} (hb:b<256) (hk:SchOk x) (hB:B_Scheme x) {a1 c1 a2 c2} (h1:KI.Sl S H0 (.slice a1 x.2.1.length c1) x.2.1) (h2:KI.sl.Sl S H0 (.slice a2 x.2.2.2.2.length c2) x.2.2.2.2):
  Spec Tryz.prog S H0 64 [.agg #[.int .i64 x.1,.slice a1 x.2.1.length c1,.int .i64 x.2.2.1,.int .i64 x.2.2.2.1,.slice a2 x.2.2.2.2.length c2],.int .u64 (b:Int)] (fun v=>v=.bool (comb x.2.2.1 (heldR x.2.1 x.2.2.2.2 b) (unitL x.2.2.2.1.toNat)).isSome):=by
 obtain⟨h',ow,p,c,rows⟩:=x
 refine Spec.of1 Tryz.func64 rfl (by kernel_rfl) rfl (fun H _=>?_)
 have s1:KI.Sl (Low H.n) H (.slice a1 ow.length c1) ow:=h1.up
 have s2:KI.sl.Sl (Low H.n) H (.slice a2 rows.length c2) rows:=h2.up
 have hk:OkSch h' ow p c rows:=hk
 obtain⟨k,rfl⟩:∃k:Nat,c=((k+1:Nat):Int):=⟨c.toNat-1,by have:=hk.c1;omega⟩
 have hpr:=hk.mat.pr
 have hp2:=hpr.1
 have hk12:=hk.mat.c1
 have hO:B_Int64S ow:=hB.2.1
 have hBr:B_Int64SS rows:=hB.2.2.2.2
 refine KW.callN1 U U U U U (Am.held h' p ((k+1:Nat):Int) b (by omega) hO hBr hk s1 s2) (fun v HM SM mM _ _ hv=>?_)
 obtain⟨am,cm,rfl,hM⟩:=hv
 have hM:=hM.up (S':=SM) (H':=HM)
 have hLr:Rect p (k+1) (heldR ow rows b):=held_rect hk rfl
 have hLl:(heldR ow rows b).length≤20:=held_len hk
 show KW _ _ _ _ _ _ _ _
 obtain⟨L,eL⟩:∃L,heldR ow rows b=L:=⟨_,rfl⟩
 rw[eL] at hM hLr hLl ⊢
 have hui:=unitL_in (p:=p) hp2 (show 1≤k+1 by omega)
 refine KW.callN1 U U U U U (unit (k+1) (by omega) (by omega)) (fun v HU SU mU _ _ hv=>?_)
 obtain⟨au,cu,rfl,hU⟩:=hv
 have hM2:=hM.up (S':=SU) (H':=HU)
 refine KW.callN1 U U U U U (combination hpr (by omega) (by omega) (by omega) hLr hui hM2 hU.ups) (fun v HC SC mC _ _ hv=>?_)
 cases hcb:comb p L (unitL (k+1)) with
 | none=>
  rw[hcb] at hv
  obtain rfl:=hv
  refine KW.retM1 U U U U (fun H1 g=>by show Value.bool false=Value.bool (comb p L (unitL ((k+1:Nat):Int).toNat)).isSome;rw[Int.toNat_natCast,hcb];rfl)
 | some cs=>
  rw[hcb] at hv
  obtain⟨ac,cc,rfl,hC⟩:=hv
  refine KW.retM1 U U U U (fun H1 g=>by show Value.bool true=Value.bool (comb p L (unitL ((k+1:Nat):Int).toNat)).isSome;rw[Int.toNat_natCast,hcb];rfl)
theorem schemeOpens {x:T_Scheme} {g:List Int} (hk:SchOk x) (hg:Rises 0 (x.1-1) g) (hB:B_Scheme x) (hG:B_Int64S g) {a1 c1 a2 c2 a3 c3} (h1:KI.Sl S H0 (.slice a1 x.2.1.length c1) x.2.1) (h2:KI.sl.Sl S H0 (.slice a2 x.2.2.2.2.length c2) x.2.2.2.2) (h3:KI.Sl S H0 (.slice a3 g.length c3) g):
  Spec Tryz.prog S H0 15 [.agg #[.int .i64 x.1,.slice a1 x.2.1.length c1,.int .i64 x.2.2.1,.int .i64 x.2.2.2.1,.slice a2 x.2.2.2.2.length c2],.slice a3 g.length c3] (fun v=>v=.tuple #[.bool (opensF x g),.int .i64 0]):=by
 refine Spec.of1 Tryz.func15 rfl (by kernel_rfl) rfl (fun H _=>?_)
 have hk':OkSch x.1 x.2.1 x.2.2.1 x.2.2.2.1 x.2.2.2.2:=hk
 have hs:codeS x g=0:=by unfold codeS;rw[if_pos (tv_true hk),if_pos (tv_true hg)]
 have hG':g.length≤1048576:=hG
 refine KW.callE U U U U U (schemeCode x g hB hG h1.up h2.up h3.up) (fun _ _=>?_)
 refine KW.cF U U (by simp[hs]) ?_
 obtain⟨q,hq⟩:∃q:Nat,x.1=q:=⟨x.1.toNat,by have:=hk'.h1;omega⟩
 have hq7:=hk'.h7
 rw[hq] at hg
 have hgs:=rises_small hg
 have hbt:bitsOf g<256:=Nat.lt_of_lt_of_le (bitsOf_lt (m:=q) (fun x hx=>by have:=hgs x hx;omega)) (Nat.pow_le_pow_right (by decide) (show q≤8 by omega))
 refine KW.callE U U U U U (crowdOf (m:=q) (by omega) (by omega) hgs h3.up) (fun _ _=>?_)
 refine KW.callE U U U U U (opensS hbt hk hB h1.up h2.up) (fun _ _=>?_)
 refine KW.retM1 U U U U (fun H1 g=>by rfl)
end
end Go.Proofs.YtlapbbffoapleaaGreat.Am
namespace Go.Proofs.YtlapbbffoapleaaGreat.Am
open Go Go.RowKit Go.Proofs
noncomputable def r0_OpenAfter (x:T_Deal) (ds:T_DeedS):Int:=if givenC x ds=0 then rebV x.1 (opG (behind x ds)) (opH x (behind x ds)) else 0
noncomputable def r1_OpenAfter (x:T_Deal) (ds:T_DeedS):Int:=if givenC x ds=0 then rebC x.1 (opG (behind x ds)) (opH x (behind x ds)) else givenC x ds
section
variable {S:Ids} {H0:AH} {x:T_Deal} {ds:T_DeedS} {dcs:List Value}
theorem impl_OpenAfter {a c} (hB:B_Deal x) (hBd:B_DeedS ds) (hD:K_Deal.R S H0 x dcs) (hs:K_DeedS.R S H0 ds [.slice a ds.length c]):Spec Tryz.prog S H0 16 [.agg dcs.toArray,.slice a ds.length c] (fun v=>v=.tuple #[.int .i64 (r0_OpenAfter x ds),.int .i64 (r1_OpenAfter x ds)]):=by
 have hs:=sl1 hs
 obtain⟨d1,d2,d3,d4,d5,d6,d7,d8,rfl⟩:=form_Deal hD
 refine Spec.of1 Tryz.func16 rfl (by kernel_rfl) rfl (fun H _=>?_)
 have hD0:K_Deal.R (Low H.n) H x _:=On.R hD
 have hs0:=hs.up (S':=Low H.n) (H':=H)
 refine KW.callE U U U U U (deedsCode hB hBd.len hD0 hs0) (fun _ _=>?_)
 unfold r0_OpenAfter r1_OpenAfter
 refine KW.cndB U U (fun k1=>?_) (fun k1=>?_)
 ·have k1:givenC x ds≠0:=by simpa using k1
  rw[if_neg k1,if_neg k1]
  refine KW.retM1 U U U U (fun H1 g=>rfl)
 have k1:givenC x ds=0:=by simpa using k1
 rw[if_pos k1,if_pos k1]
 obtain⟨hd,hdp,h400⟩:=given0 k1
 have ok:=behind_ok hd hdp
 refine KW.callN1 U U U U U (implAfter hd hdp h400 hB hD0 hs0) (fun v H1 S1 m1 _ _ hv=>?_)
 obtain⟨d,X,rfl,hh⟩:=hv
 have hh1:=hh.on (S':=S1) (A':=H1)
 have hD1:K_Deal.R S1 H1 x _:=On.R hD0
 refine KW.callE U U U U U (implOpen (c:=behind x ds) hd hB ok hh1 hD1) (fun _ _=>?_)
 refine KW.retM1 U U U U (fun H1 g=>rfl)
end
theorem deeds_B {ds:List T_Deed} (hdp:∀d∈ds,DeedP d) (h400:ds.length≤400):B_DeedS ds:=⟨by omega,fun d hdm=>by have:=hdp d hdm;exact⟨⟨by have:=this.1;omega,by have:=this.1;omega⟩,⟨by have:=this.2.1;omega,by have:=this.2.1;omega⟩,⟨by have:=this.2.2.1;omega,by have:=this.2.2.1;omega⟩⟩,by have h0:=sum_bound (l:=ds.map szE_Deed) (b:=3) (fun z hz=>(by obtain⟨d,_,rfl⟩:=List.mem_map.1 hz;exact Nat.le_refl 3));rw[List.length_map] at h0;omega⟩
theorem take_all {α:Type} {l:List α} {i:Nat} {y:α} (h:l[i]?=some y) {q:α→Prop}:(∀d∈l.take (i+1),q d)↔(∀d∈l.take i,q d)∧q y:=by
 rw[List.take_succ_eq_append_getElem (List.getElem?_eq_some_iff.1 h).1,(List.getElem?_eq_some_iff.1 h).2]
 constructor
 ·intro f
  exact⟨fun d hd=>f d (List.mem_append_left _ hd),f y (by simp)⟩
 ·rintro ⟨f,g⟩ d hd
  rcases List.mem_append.1 hd with hd | hd
  ·exact f d hd
  ·rw[List.mem_singleton.1 hd];exact g
section
variable {S:Ids} {H0:AH}
end
structure AgS where
 h:Nat
 S:Ids
 A:AH
 xs:List Int
 o:Nat
structure AgI (bs:List Int) (ac:Option Addr) (cc id:Nat) (Y:Ids) (H:AH) (q:Nat) (P:Nat→List Int→Prop) (s:AgS):Prop where
 le:s.h≤q
 src:SrcB bs ac cc id Y s.S s.A (2*s.h)
 old:∀i,i<H.n→s.S i∧s.A.m i=H.m i
 len:s.xs.length≤s.h
 ok:P s.h s.xs
 ge:H.n≤s.o
section
variable {S:Ids} {H0:AH} {bs:List Int} {ac:Option Addr} {cc:Nat}
theorem a2Group {q:Nat} (hq:q≤100) (hb:∀x∈bs,0≤x∧x<256) (hl:bs.length≤1048576) (hs:KB.Sl S H0 (.slice ac bs.length cc) bs):
  SpecM Tryz.prog S H0 10 [.slice ac bs.length cc,.int .i64 q] (fun n v H1=>∃xs:List Int,Rises 0 ((q:Int)-1) xs∧MkL xs n v H1):=by
 refine SpecM.of1 Tryz.func10 rfl (by kernel_rfl) rfl (fun H _=>?_)
 refine KW.callN1 U U U U U (srcFrom) (fun v HS SS mS _ _ hv=>?_)
 obtain⟨o,sp,rfl,hnew,hsrc⟩:=hv
 have wS:On (New _ HS.n) HS SS HS:=‹_›
 have tS:On (Low H.n) H SS HS:=inferInstance
 have hso:=(wS.st o hnew).1
 have hbs:=(hs.up (S':=Low H.n) (H':=H)).stX (S':=fun i=>SS i∧i≠o) (H':=HS) (fun i hi=>⟨⟨(tS.st i hi).1,fun e=>by have h1:i<H.n:=hi;have:=hnew.1;omega⟩,(tS.st i hi).2⟩)
 have SB:SrcB bs ac cc o (fun i=>SS i∧i≠o) SS HS 0:=⟨hb,hl,hso,fun i hi=>⟨hi.1,hi.2⟩,⟨0,Nat.le_refl _,hsrc⟩,hbs.stX (fun i hi=>⟨hi,rfl⟩)⟩
 refine KW.fact (p:=H.n≤HS.n) (fun H1 g=>by have h1:=g.n_;have h2:=hnew.1;have h3:=hnew.2;omega) (fun hn0=>?_)
 refine KW.lit U U U U U U U U U U [] U U (fun v hv=>by simp at hv) rfl ?_
 refine KW.lpM U U (fun s:AgS=>[(1,.int .i64 q),(5,.pointer (some ⟨o,0,none⟩)),(6,.slice (some ⟨s.o,0,some 1⟩) s.xs.length s.xs.length),(7,.int .i64 s.h)]) (fun s=>s.S) (fun s=>s.A) (fun s=>[(s.o,⟨2,true,s.xs.map (Value.int .i64)⟩)]) (fun s=>AgI bs ac cc o (fun i=>SS i∧i≠o) H q (fun h xs=>Rises 0 ((h:Int)-1) xs) s) (fun s=>q-s.h) (⟨0,SS,HS,[],_⟩) (⟨Nat.zero_le _,SB,fun i hi=>tS.st i hi,Nat.le_refl _,fun i hi=>absurd hi (Nat.not_lt_zero i),hn0⟩) ⟨rfl,rfl,rfl,rfl,trivial⟩ U U (rfl) (fun s hi bE n=>?_)
 obtain⟨h,S5,A5,xs,o5⟩:=s
 obtain⟨x1,SB5,old5,x2,xr,xo⟩:=hi
 simp only at x1 SB5 old5 x2 xr xo
 refine KW.cnd U U (fun k1=>?_) (fun k1=>?_)
 ·have k1:(h:Int)<(q:Int):=k1
  refine KW.callW (W:=fun i=>i=o) (fun i hi=>by subst hi;exact SB5.sid) U U U U U (oneB (n:=2) SB5 (by omega) (by omega)) (fun v H6 S6 n6 st6 w6 hv6=>?_)
  obtain⟨b,rfl,src6⟩:=hv6
  have SB6:=SB5.w1 (B':=2*h+2) st6 src6
  have old6:∀i,i<H.n→S6 i∧H6.m i=H.m i:=fun i hi=>⟨(st6 i (old5 i hi).1).1,((st6 i (old5 i hi).1).2 (by have:=hnew.1;omega)).trans (old5 i hi).2⟩
  refine KW.fact (p:=H.n≤H6.n) (fun H1 g=>by have h1:=g.n_;have h2:o5<_:=(g.vars 0 _ rfl).2.1;omega) (fun hn6=>?_)
  cases b with
  | true=>
   refine KW.cT U U (by first | (simp;done) | decide) ?_
   refine KW.app1 (xs:=xs.map (Value.int .i64)) (v:=.int .i64 h) 0 1 U U U U U U U U U U U U U U U U U U U U U U U (by simp) (by show(xs.length+1)*8≤_;omega) (by show xs.length+1≤_;omega) ?_
   exact KW.nxt U U (fun H' g=>⟨⟨h+1,S6,H6,xs++[(h:Int)],H6.n+1⟩,⟨by simp only;omega,SB6.s (fun i hi=>⟨hi,rfl⟩) (by simp only;omega),old6,by simp only[List.length_append,List.length_singleton];omega,by have:=rises_snoc xr;rw[show(((h+1:Nat):Int)-1)=(h:Int) from by omega];exact this,by simp only;omega⟩,by simp only;omega,⟨rfl,rfl,by simp only[List.length_append,List.length_singleton];rfl,congrArg (Value.int .i64) (inc64 (by omega)),trivial⟩,g.eqT (by simp only[List.map_append];rfl)⟩)
  | false=>
   refine KW.cF U U (by first | (simp;done) | decide) ?_
   exact KW.nxt U U (fun H' g=>⟨⟨h+1,S6,H6,xs,o5⟩,⟨by simp only;omega,SB6.s (fun i hi=>⟨hi,rfl⟩) (by simp only;omega),old6,by simp only;omega,rises_weak (by simp only;omega) xr,xo⟩,by simp only;omega,⟨rfl,rfl,rfl,congrArg (Value.int .i64) (inc64 (by omega)),trivial⟩,g⟩)
 ·have k1:¬(h:Int)<(q:Int):=k1
  obtain rfl:h=q:=by omega
  haveI:On (Low H.n) H S5 A5:=⟨fun i hi=>old5 i hi⟩
  refine KW.retM1 U U U U (fun H1 g=>⟨xs,xr,MkL.of g (j:=0) rfl xo⟩)
theorem a2GroupI {n:Int} (h0:0≤n) (hn:n≤100) (hb:∀x∈bs,0≤x∧x<256) (hl:bs.length≤1048576) (hs:KB.Sl S H0 (.slice ac bs.length cc) bs):
  SpecM Tryz.prog S H0 10 [.slice ac bs.length cc,.int .i64 n] (fun m v H1=>∃xs:List Int,Rises 0 (n-1) xs∧MkL xs m v H1):=by
 obtain⟨q,rfl⟩:∃q:Nat,n=q:=⟨n.toNat,by omega⟩
 exact a2Group (by omega) hb hl hs
end
section
variable {S:Ids} {H0:AH} {x:T_Deal} {ds:T_DeedS} {g:List Int} {dcs:List Value}
theorem spec_GatherDeeds {a c a2 c2} (hB:B_Deal x) (hBd:B_DeedS ds) (hBg:B_Int64S g) (hD:K_Deal.R S H0 x dcs) (hs:K_DeedS.R S H0 ds [.slice a ds.length c]) (hg:K_Int64S.R S H0 g [.slice a2 g.length c2]):SpecM Tryz.prog S H0 11 [.agg dcs.toArray,.slice a ds.length c,.slice a2 g.length c2] (MkDC (r0_GatherDeeds x ds g) (r1_GatherDeeds x ds g)):=by
 have hs:=sl1 hs
 have hg:=sl1 hg
 have hgl:g.length≤1048576:=hBg
 obtain⟨d1,d2,d3,d4,d5,d6,d7,d8,rfl⟩:=form_Deal hD
 refine SpecM.of1 Tryz.func11 rfl (by kernel_rfl) rfl (fun H _=>?_)
 have hD0:K_Deal.R (Low H.n) H x _:=On.R hD
 have hs0:=hs.up (S':=Low H.n) (H':=H)
 have hg0:=hg.up (S':=Low H.n) (H':=H)
 refine KW.callWF 0 U U U U U U (fun A9 S9 hn9 hS9 t9 hm9 ho9 hno9 hlt9=>?_)
 have k9:∀id,id<H.n→S9 id∧A9.m id=H.m id:=fun id p=>t9.st id p
 have hD9:K_Deal.R S9 A9 x _:=K_Deal.same (fun id p=>(k9 id p).2) hD0 |> K_Deal.more (fun id p=>(k9 id p).1)
 have hDv9:Has3 S9 A9 H.n 0 [.int .i64 x.1.1,.slice d1 x.1.2.1.length d2,.int .i64 x.1.2.2.1,.int .i64 x.1.2.2.2.1,.slice d3 x.1.2.2.2.2.length d4,.int .i64 x.2.1,.slice d5 x.2.2.1.length d6,.slice d7 x.2.2.2.length d8]:=⟨(hS9 _).2 (.inr rfl),_,hm9,fun i v hv=>by rw[Nat.zero_add];exact hv⟩
 have hs9:K_Deed.Sl S9 A9 (.slice a ds.length c) ds:=sl_mk hs0 (fun id p=>k9 id p)
 refine⟨fun _=>False,_,fun id p=>p.elim,SpecM.w (post:=fun _ v _=>v=.int .i64 (givenC x ds)) (l08Given hB hBd.len hD9 hDv9 hs9),fun v H1 S1 m1 t1 w1 hv=>?_⟩
 obtain rfl:=hv
 have k1a:∀id,S9 id→S1 id∧H1.m id=A9.m id:=fun id p=>⟨(t1 id p).1,(t1 id p).2 (fun q=>q)⟩
 have kl:∀id,id<H.n→S1 id∧H1.m id=H.m id:=fun id p=>⟨(k1a id (k9 id p).1).1,((k1a id (k9 id p).1).2).trans (k9 id p).2⟩
 unfold r0_GatherDeeds r1_GatherDeeds
 have hD1:K_Deal.R S1 H1 x _:=K_Deal.same (fun id p=>(k1a id p).2) hD9 |> K_Deal.more (fun id p=>(k1a id p).1)
 have hs1:K_Deed.Sl S1 H1 (.slice a ds.length c) ds:=sl_mk hs9 (fun id p=>k1a id p)
 have hg1:KI.Sl S1 H1 (.slice a2 g.length c2) g:=sl_mk hg0 (fun id p=>kl id p)
 have mvH:∀{vs:List Value},Has3 S9 A9 H.n 0 vs→Has3 S1 H1 H.n 0 vs:=fun {vs} q=>by
  obtain⟨q0,b,q1,q2⟩:=q
  exact⟨(k1a _ q0).1,b,((k1a _ q0).2).trans q1,q2⟩
 have hDv1:=mvH hDv9
 refine KW.cndB U U (fun k1=>?_) (fun k1=>?_)
 ·have k1:givenC x ds≠0:=by simpa using k1
  have e:codeG x ds g=givenC x ds:=by unfold codeG;rw[if_neg k1]
  rw[e,if_neg k1]
  refine KW.litS0 U U U U U U U U U U ?_
  exact KW.retM U U U U (fun id hid=>kl id hid) (fun H1 g=>MkDC.nil' rfl)
 have k1:givenC x ds=0:=by simpa using k1
 obtain⟨hd,hdp,h400⟩:=given0 k1
 have ok:=behind_ok hd hdp
 have h7:=hd.sch.h7
 have h1h:=hd.sch.h1
 refine KW.ldF 0 hDv1 U U U U U U U U U ?_
 refine KW.callE U U U U U (l01Group x.1.1 hgl (by omega) hg1) (fun _ _=>?_)
 refine KW.cndB U U (fun k2=>?_) (fun k2=>?_)
 ·have k2:tv (Rises 0 (x.1.1-1) g)=false:=by simpa using k2
  have e:codeG x ds g=2:=by unfold codeG;rw[if_pos k1,k2];rfl
  rw[e,if_neg (by decide)]
  refine KW.litS0 U U U U U U U U U U ?_
  exact KW.retM U U U U (fun id hid=>kl id hid) (fun H1 g=>MkDC.nil' rfl)
 have k2:tv (Rises 0 (x.1.1-1) g)=true:=by simpa using k2
 have hr:=tv_iff.1 k2
 have g1:=hg1
 have kl1:=kl
 refine KW.callN1 U U U U U (l08PlayH hd hdp h400 hB hD1 hDv1 hs1) (fun v H2 S2 m2 _ _ hv=>?_)
 obtain⟨d,X,oo,rfl,hM,hh⟩:=hv
 have st2:=(inferInstance:On S1 H1 S2 H2).st
 have st1:St (Low H.n) H S2 H2:=fun id p=>⟨(st2 id (kl1 id p).1).1,((st2 id (kl1 id p).1).2).trans (kl1 id p).2⟩
 have hh1:=hh.on (S':=S2) (A':=H2)
 have hc:=hh1.cellsH
 obtain⟨hn1,hn2⟩:=hh1.named
 obtain⟨hs1_,scs,hs2,hscl⟩:=hh1.seats
 have hw12:=ok.wl
 have hg1:KI.Sl S2 H2 (.slice a2 g.length c2) g:=sl_mk g1 (fun id p=>st2 id p)
 refine KW.cnt (fun n1 hne1=>?_)
 refine KW.fact (p:=H.n≤n1) (fun _ gd=>by omega) (fun hn1l=>?_)
 refine KW.litS0 U U U U U U U U U U ?_
 obtain⟨cb,hcb⟩:∃cb,behind x ds=cb:=⟨_,rfl⟩
 have hcp:play x (cer0 x.1.1.toNat) ds=cb:=hcb
 rw[hcp] at hc hn2 hscl
 rw[hcb] at ok hw12
 have eG:codeG x ds g=if tv (∃h∈g,badH cb h)=true then 4 else if(400:Int)<ds.length+(outG x ds g).length then 3 else 0:=by unfold codeG;rw[if_pos k1,k2,hcb];rfl
 have eO:outG x ds g=dropsL cb.wire.length++gathL g:=by unfold outG;rw[hcb]
 obtain⟨hid,sid,gid,bid,nid,w⟩:=d
 have hwi:WireB HTS S2 H2 X w cb.wire:=by have:=hh1.wire;rw[hcp] at this;exact this
 obtain⟨aw,cw,hwv⟩:∃aw cw,HD.wv ⟨hid,sid,gid,bid,nid,w⟩ cb.wire.length=.slice aw cb.wire.length cw:=by
  cases w with
  | none=>
   have e:cb.wire=[]:=hwi
   rw[e]
   exact⟨none,0,rfl⟩
  | some iq=>exact⟨_,_,rfl⟩
 have hc:Has3 S2 H2 hid 0 ([.pointer (some ⟨H.n,0,none⟩)]++([.int .i64 cb.ep,.slice (some ⟨sid,0,some 7⟩) cb.seats.length cb.seats.length,.int .i64 cb.oe,.slice (some ⟨gid,0,some 1⟩) cb.got.length cb.got.length,.slice (some ⟨bid,0,some 1⟩) cb.has.length cb.has.length,.slice (some ⟨nid,0,some 1⟩) cb.named.length cb.named.length,.slice aw cb.wire.length cw]++[])):=by
  have h:=hc
  simp only[HD.cells,hwv] at h
  exact h
 simp only at hn1 hn2 hs1_ hs2
 have hnl:cb.named.length=cb.seats.length:=ok.nl
 have hsl:=ok.sl
 refine KW.lpM U U (fun s:Nat × Nat=>[(1,.slice a ds.length c),(2,.slice a2 g.length c2),(9,.pointer (some ⟨hid,0,none⟩)),(11,.slice (some ⟨s.2,0,some 3⟩) s.1 s.1),(12,.int .i64 s.1)]) (fun s=>S2) (fun s=>H2) (fun s=>[(s.2,⟨54,true,deedC (dropsL s.1)⟩)]) (fun s=>s.1≤cb.wire.length) (fun s=>cb.wire.length-s.1) ((0,n1)) (Nat.zero_le _) ⟨rfl,rfl,rfl,rfl,rfl,trivial⟩ U U (rfl) (fun s hi bE n=>?_)
 obtain⟨i,o⟩:=s
 have hi:i≤cb.wire.length:=hi
 refine KW.ldF 7 hc U U U U U U U U U ?_
 refine KW.cnd U U (fun k3=>?gin) (fun k3=>?gout)
 case gin=>
  have k3:(i:Int)<(cb.wire.length:Int):=k3
  refine KW.build U U U U U (built_Deed1 _) ?_
  refine KW.cnt (fun m hm=>?_)
  refine KW.litS1 U U U U U U U U U U U U ?_
  refine KW.appTS (m:=1) (ys:=[.int .i64 5,.int .i64 0,.int .i64 0]) 0 U U U U U U U U (by decide) rfl (fun H1 g=>acells_seg (g.blk (j:=1) rfl).1 (by show 0+1*3≤3;decide)) (by show 0+i*3≤(deedC (dropsL i)).length;rw[deedC_len];simp[dropsL]) rfl (by decide) (by show(i+1)*24≤_;omega) (by show i+1≤_;omega) ?_
  have e3:((deedC (dropsL i)).drop 0).take (i*3)++[.int .i64 5,.int .i64 0,.int .i64 0]=deedC (dropsL (i+1)):=by
   rw[drop0_take (by rw[deedC_len];simp[dropsL])]
   show _=deedC (List.replicate (i+1) (5,0,0))
   rw[List.replicate_succ',deedC_app]
   rfl
  refine KW.nxt U U (fun H' g=>⟨(i+1,m+1),(by show i+1≤cb.wire.length;omega),by first | omega | (simp only;omega),⟨rfl,rfl,rfl,rfl,congrArg (Value.int .i64) (inc64 (by omega)),trivial⟩,(g.take 1).castT (show([(m+1,⟨_,true,_⟩)]:List Var)=[(m+1,⟨_,true,_⟩)] from T1c e3)⟩)
 have k3:¬(i:Int)<(cb.wire.length:Int):=k3
 obtain rfl:i=cb.wire.length:=by omega
 refine KW.lpM U U (fun s:Nat × Nat=>[(1,.slice a ds.length c),(2,.slice a2 g.length c2),(9,.pointer (some ⟨hid,0,none⟩)),(11,.slice (some ⟨s.2,0,some 3⟩) (cb.wire.length+s.1*5) (cb.wire.length+s.1*5)),(13,.int .i64 s.1)]) (fun s=>S2) (fun s=>H2) (fun s=>[(s.2,⟨54,true,deedC (dropsL cb.wire.length++gathL (g.take s.1))⟩)]) (fun s=>s.1≤g.length∧∀j,j<s.1→∀h,g[j]?=some h→¬badH cb h) (fun s=>g.length-s.1) ((0,o)) (⟨Nat.zero_le _,fun j h=>absurd h (by simp)⟩) ⟨rfl,rfl,rfl,rfl,rfl,trivial⟩ U U (by simp[gathL]) (fun s hi bE n=>?_)
 obtain⟨i,o⟩:=s
 obtain⟨i1,i2⟩:=hi
 simp only at i1 i2
 refine KW.cnd U U (fun k4=>?ga) (fun k4=>?gb)
 case ga=>
  have k4:(i:Int)<(g.length:Int):=k4
  refine KW.getI hg1 U U U U U U U U U U U U U U U U (by omega) (k4) (fun h hh_=>?_)
  have hgi:g[i]?=some h:=hh_
  have hmem:=List.mem_of_getElem? hgi
  have hho:=rises_in hr hmem
  have hho2:HoOk x h:=⟨hho.1,by omega⟩
  refine KW.ldF 6 hc U U U U U U U U U ?_
  refine KW.getB ((bool_sl hn1 hn2 rfl (Nat.le_refl _))) U U U U U U U U U U U U U U U U (by omega) (by show h<((cb.named.length:Nat):Int);omega) (fun b hb=>?_)
  have hb:cb.named[h.toNat]?=some b:=hb
  have hbD:cb.named.getD h.toNat false=b:=by rw[List.getD_eq_getElem?_getD,hb];rfl
  have bad4:badH cb h→codeG x ds g=4:=fun p=>by rw[eG,if_pos (tv_true ⟨h,hmem,p⟩)]
  refine KW.tstB U U (fun k5=>?_) (fun k5=>?_)
  ·have k5:b=true:=k5
   have e:=bad4 (.inl (hbD.trans k5))
   repeat first | refine KW.tT U U U ?_ | refine KW.tF U U U ?_
   refine KW.cT U U (by first | (simp;done) | decide) ?_
   rw[e,if_neg (by decide)]
   refine KW.litS0 U U U U U U U U U U ?_
   exact KW.retM U U U U (fun id hid=>st1 id hid) (fun H1 g=>MkDC.nil' rfl)
  have k5:b=false:=k5
  obtain⟨hse,hsok⟩:=ok.seat hho2
  obtain⟨s,hs_⟩:∃s,cb.seat h=s:=⟨_,rfl⟩
  rw[hs_] at hse hsok
  have hR:=hscl.2 _ _ hse
  obtain⟨ps,qs,hseg,hR1,hR2⟩:=split_Seat hR
  obtain⟨b1,e1,b2,e2,hps,hR3,hR4⟩:=split_Purse hR1
  obtain⟨b3,e3,b4,e4,hqs,hR5,hR6⟩:=split_Purse hR2
  have c6:scs[0+h.toNat*7+6]?=some (.int .i64 s.2.2):=by
   have hv:(ps++(qs++[.int .i64 s.2.2]):List Value)[6]?=some (.int .i64 s.2.2):=by rw[hps,hqs];rfl
   have:=seg_at hseg hv
   rw[Nat.zero_add];exact this
  refine KW.ldF 2 hc U U U U U U U U U ?_
  refine KW.idx0 U U U U U U U U U (by omega) (by show h<((cb.seats.length:Nat):Int);omega) ?_
  refine KW.ldC hs1_ hs2 c6 U U U U U U U ?_
  refine KW.cndB U U (fun k6=>?_) (fun k6=>?_)
  ·have k6:s.2.2≠0:=by simpa using k6
   have e:=bad4 (.inr (by rw[hs_];exact k6))
   rw[e,if_neg (by decide)]
   refine KW.litS0 U U U U U U U U U U ?_
   exact KW.retM U U U U (fun id hid=>st1 id hid) (fun H1 g=>MkDC.nil' rfl)
  have k6:s.2.2=0:=by simpa using k6
  have good:¬badH cb h:=fun p=>p.elim (fun p=>by rw[hbD,k5] at p;cases p) (fun p=>p (by rw[hs_];exact k6))
  refine KW.build U U U U U (built_Deed2 _ _) ?_
  refine KW.build U U U U U (built_Deed1 _) ?_
  refine KW.build U U U U U (built_Deed2 _ _) ?_
  refine KW.build U U U U U (built_Deed2 _ _) ?_
  refine KW.build U U U U U (built_Deed1 _) ?_
  refine KW.cnt (fun m hm=>?_)
  refine KW.litX (deedC (packH h)) U U U U U U U U (by kernel_rfl) U U ?_
  have hdl:(deedC (dropsL cb.wire.length++gathL (g.take i))).length=(cb.wire.length+i*5)*3:=by rw[deedC_len,List.length_append,gathL_len,List.length_take,Nat.min_eq_left i1];simp[dropsL]
  refine KW.appTS (m:=5) (ys:=deedC (packH h)) 0 U U U U U U U U (by decide) rfl (fun H1 g=>acells_seg (g.blk (j:=1) rfl).1 (by show 0+5*3≤15;decide)) (by show 0+(cb.wire.length+i*5)*3≤(deedC (dropsL cb.wire.length++gathL (g.take i))).length;omega) rfl (by decide) (by show(cb.wire.length+i*5+5)*24≤_;omega) (by show cb.wire.length+i*5+5≤_;omega) ?_
  have et:g.take (i+1)=g.take i++[h]:=by rw[List.take_add_one,hgi];rfl
  have e3:((deedC (dropsL cb.wire.length++gathL (g.take i))).drop 0).take ((cb.wire.length+i*5)*3)++deedC (packH h)=deedC (dropsL cb.wire.length++gathL (g.take (i+1))):=by
   have e1:gathL [h]=packH h:=by simp[gathL]
   rw[drop0_take hdl,et,gathL_app,← List.append_assoc,e1,← deedC_app]
  have e4:cb.wire.length+i*5+5=cb.wire.length+(i+1)*5:=by omega
  have hi1:i+1≤g.length:=by omega
  refine KW.nxt U U (fun H' g=>⟨(i+1,m+1),⟨hi1,upto i2 (fun y hy=>by rw[hgi] at hy;cases hy;exact good)⟩,by first | omega | (simp only;omega),⟨rfl,rfl,rfl,congrArg (fun k=>Value.slice (some ⟨m+1,0,some 3⟩) k k) e4,congrArg (Value.int .i64) (inc64 (by omega)),trivial⟩,(g.take 1).castT (show([(m+1,⟨_,true,_⟩)]:List Var)=[(m+1,⟨_,true,_⟩)] from T1c e3)⟩)
 have k4:¬(i:Int)<(g.length:Int):=k4
 obtain rfl:i=g.length:=by omega
 have nobad:¬∃h∈g,badH cb h:=fun⟨h,hm,hp⟩=>by
  obtain⟨j,hj⟩:=List.getElem?_of_mem hm
  exact i2 j (List.getElem?_eq_some_iff.1 hj).1 h hj hp
 have eol:(outG x ds g).length=cb.wire.length+g.length*5:=by rw[eO,List.length_append,gathL_len];simp[dropsL]
 have eG:codeG x ds g=if(400:Int)<ds.length+(outG x ds g).length then 3 else 0:=by rw[eG,tv_false nobad];rfl
 have ew:IntKind.i64.wrap ((ds.length:Int)+((cb.wire.length+g.length*5:Nat):Int))=(ds.length:Int)+(outG x ds g).length:=(wr (by omega) (by omega)).trans (by rw[eol])
 refine KW.cnd U U (fun k7=>?_) (fun k7=>?_)
 ·have k7:IntKind.i64.wrap ((ds.length:Int)+((cb.wire.length+g.length*5:Nat):Int))>400:=k7
  rw[ew] at k7
  have e:codeG x ds g=3:=by rw[eG,if_pos k7]
  rw[e,if_neg (by decide)]
  refine KW.litS0 U U U U U U U U U U ?_
  exact KW.retM U U U U (fun id hid=>st1 id hid) (fun H1 g=>MkDC.nil' rfl)
 ·have k7:¬IntKind.i64.wrap ((ds.length:Int)+((cb.wire.length+g.length*5:Nat):Int))>400:=k7
  rw[ew] at k7
  have e:codeG x ds g=0:=by rw[eG,if_neg k7]
  rw[e,if_pos rfl]
  refine KW.retM U U U U (fun id hid=>st1 id hid) (fun H9 gd=>?_)
  have gv:=gd.vars 0 _ rfl
  have hn9:=gd.n_
  have hbk:=(gd.blk (j:=0) rfl).1
  rw[List.take_of_length_le (Nat.le_refl _)] at hbk
  have hbk:H9.m o=some ⟨54,true,deedC (outG x ds g)⟩:=by rw[eO];exact hbk
  have:=deeds_ml (W:=New H.n H9.n) (l:=outG x ds g) ⟨Nat.not_lt.1 fun hlt=>gv.2.2 (st1 _ hlt).1,by rw[hn9];exact gv.2.1⟩ hbk
  refine⟨_,_,?_,this⟩
  rw[eol]
  rfl
end
theorem getD_some {α:Type} {l:List α} {i:Nat} {a d:α} (h:l[i]?=some a):l.getD i d=a:=by rw[List.getD_eq_getElem?_getD,h];rfl
theorem outG_ok {x:T_Deal} {ds:List T_Deed} {g:List Int} (hd:DealOk x) (hg:Rises 0 (x.1.1-1) g):∀d∈outG x ds g,DeedP d∧d.1≠6:=by
 intro d hm
 rcases List.mem_append.1 hm with h | h
 ·have:=List.eq_of_mem_replicate h
  subst this
  refine⟨?_,by decide⟩
  refine⟨?_,?_,?_,?_,?_⟩<;>simp[cntD]
 ·have key:∀(l:List Int),(∀h∈l,HoOk x h)→∀d∈gathL l,DeedP d∧d.1≠6:=fun l=>by
   induction l with
   | nil=>intro _ d hd;cases hd
   | cons a l ih=>
    intro hl d hm
    rcases List.mem_append.1 hm with p | p
    ·refine⟨packH_ok hd (hl a List.mem_cons_self) d p,?_⟩
     simp[packH] at p
     rcases p with e | e | e | e | e<;>(rw[e];simp)
    ·exact ih (fun h hh=>hl h (List.mem_cons_of_mem _ hh)) d p
  exact key g (fun h hh=>by have:=rises_in hg hh;exact⟨this.1,by omega⟩) d h
structure GathE (x:T_Deal) (ds:List T_Deed) (g:List Int) (c:Cer):Prop where
 dn:doneC (codes x (cer0 x.1.1.toNat) (ds++outG x ds g))=doneC (codes x (cer0 x.1.1.toNat) ds)+(outG x ds g).length
 ok:CerOk x c
 wi:c.wire=[]
 hs:∀h∈g,c.has.getD h.toNat false=true
 se:∀h∈g,c.seat h=(fullP x c.ep h,fullP x c.ep h,0)
 op:(∀d∈ds,d.1≠6)→opensF x.1 g=true→rebC x.1 (opG c) (opH x c)=0∧rebV x.1 (opG c) (opH x c)=x.2.1
theorem gath_end {x:T_Deal} {ds:List T_Deed} {g:List Int} (hd:DealOk x) (hdp:∀d∈ds,DeedP d) (hg:Rises 0 (x.1.1-1) g) (hb:¬∃h∈g,badH (behind x ds) h):GathE x ds g (behind x (ds++outG x ds g)):=by
 have hout:=outG_ok (ds:=ds) hd hg
 have hdp2:∀d∈ds++outG x ds g,DeedP d:=fun d hm=>(List.mem_append.1 hm).elim (hdp d) (fun h=>(hout d h).1)
 have okE:=behind_ok hd hdp2
 have ok:=behind_ok hd hdp
 have od:OrdC (behind x ds):=OrdC.play hd ds hdp (CerOk.start hd) (OrdC.start _)
 have tr:TruC x (ds++outG x ds g) (behind x ds):=TruC.play hd ds (fun d hm=>⟨hdp d hm,List.mem_append_left _ hm⟩) (CerOk.start hd) (TruC.start _)
 have ho:∀h∈g,HoOk x h:=fun h hh=>by have:=rises_in hg hh;exact⟨this.1,by omega⟩
 have ed:∀d∈dropsL (behind x ds).wire.length,DeedP d:=fun d hm=>(hout d (List.mem_append_left _ hm)).1
 have pl:=play_drops x (behind x ds).wire (behind x ds).ep (behind x ds).seats (behind x ds).oe (behind x ds).got (behind x ds).has (behind x ds).named
 have e0:(⟨(behind x ds).ep,(behind x ds).seats,(behind x ds).oe,(behind x ds).got,(behind x ds).has,(behind x ds).named,(behind x ds).wire⟩:Cer)=behind x ds:=rfl
 rw[e0] at pl
 obtain⟨pl1,pl2⟩:=pl
 have ok1:=CerOk.play hd _ ed ok
 have od1:=OrdC.play hd _ ed ok od
 have tr1:=TruC.play hd _ (fun d hm=>⟨ed d hm,List.mem_append_right _ (List.mem_append_left _ hm)⟩) ok tr
 obtain⟨c1,ec1⟩:∃c1,play x (behind x ds) (dropsL (behind x ds).wire.length)=c1:=⟨_,rfl⟩
 rw[ec1] at ok1 od1 tr1 pl1
 have hgs:∀h∈g,HoOk x h∧(c1.seat h).2.2=0∧c1.named.getD h.toNat false=false∧∀d∈packH h,d∈ds++outG x ds g:=fun h hh=>by
  have hnb:¬badH (behind x ds) h:=fun q=>hb ⟨h,hh,q⟩
  unfold badH at hnb
  have e1:c1.seat h=(behind x ds).seat h:=by rw[pl1]
  have e2:c1.named=(behind x ds).named:=by rw[pl1]
  refine⟨ho h hh,?_,?_,fun d hm=>List.mem_append_right _ (List.mem_append_right _ ?_)⟩
  ·rw[e1]
   exact Classical.byContradiction fun q=>hnb (.inr q)
  ·rw[e2]
   cases q:(behind x ds).named.getD h.toNat false with
   | false=>rfl
   | true=>exact absurd (.inl q) hnb
  ·have key:∀(l:List Int),h∈l→d∈gathL l:=fun l=>by
    induction l with
    | nil=>intro q;cases q
    | cons a l ih=>
     intro q
     rcases List.mem_cons.1 q with rfl | q
     ·exact List.mem_append_left _ hm
     ·exact List.mem_append_right _ (ih q)
   exact key g hh
 have hw1:c1.wire=[]:=by rw[pl1]
 obtain⟨r,rc⟩:=gath_run hd g ok1 od1 tr1 hw1 hgs
 have eE:behind x (ds++outG x ds g)=play x c1 (gathL g):=by
  show play x (cer0 x.1.1.toNat) (ds++(dropsL (behind x ds).wire.length++gathL g))=_
  rw[play_app,play_app]
  show play x (play x (behind x ds) (dropsL (behind x ds).wire.length)) (gathL g)=_
  rw[ec1]
 have ep1:c1.ep=(behind x ds).ep:=by rw[pl1]
 rw[← eE] at r
 refine⟨?_,okE,r.wi,r.hs,fun h hh=>by rw[r.ep];exact r.pu h hh,fun hl hop=>?_⟩
 ·rw[codes_app,doneC_app]
  congr 1
  show doneC (codes x (behind x ds) (dropsL (behind x ds).wire.length++gathL g))=_
  rw[doneC_zero,codes_len]
  ·rfl
  ·intro k hk
   rw[codes_app,ec1] at hk
   rcases List.mem_append.1 hk with hk | hk
   ·exact pl2 k hk
   ·exact rc k hk
 ·have h7:=hd.sch.h7
  have hon:HonA x (ds++outG x ds g) x.1.1.toNat:=fun h _ d hm q=>by
   rcases List.mem_append.1 hm with p | p
   ·exact absurd q.1 (hl d p)
   ·exact absurd q.1 (hout d p).2
  refine honest_open hd hdp2 hon (opensF_sub hd.sch (fun i hi=>?_) hop)
  have hg0:∀y∈g,0≤y:=fun y hy=>(ho y hy).1
  have him:=(bitsOf_test hg0 i).1 hi
  have hih:=(ho _ him).2
  rw[opG_bits okE h7 hih]
  have:=r.hs _ him
  rwa [Int.toNat_natCast] at this
theorem take_allD {l:List T_Deed} {i:Nat} {y:T_Deed} (h:l[i]?=some y) {b:Bool} (hb:b=tv (∀d∈l.take i,d.1≠6)):(b&&!decide (y.1=6))=tv (∀d∈l.take (i+1),d.1≠6):=by
 by_cases hy:y.1=6
 ·rw[decide_eq_true hy,tv_false (fun q=>((take_all (q:=fun d=>d.1≠6) h).1 q).2 hy)]
  simp
 ·rw[decide_eq_false hy,hb]
  simp only[Bool.not_false,Bool.and_true]
  exact tv_congr ⟨fun q=>(take_all (q:=fun d=>d.1≠6) h).2 ⟨q,hy⟩,fun q=>((take_all (q:=fun d=>d.1≠6) h).1 q).1⟩
theorem rises_len7 {m:Int} (h7:m≤7) {g:List Int} (h:Rises 0 (m-1) g):g.length≤7:=by
 have key:∀i,i<g.length→(i:Int)≤g.getD i 0:=fun i=>by
  induction i with
  | zero=>intro hi;exact(h 0 hi).1.1
  | succ i ih=>
   intro hi
   have h1:=ih (by omega)
   have h2:=(h (i+1) hi).2 (Nat.succ_pos i)
   rw[Nat.add_sub_cancel] at h2
   omega
 rcases Nat.lt_or_ge 7 g.length with hl | hl
 ·have h1:=key 7 hl
  have h2:=(h 7 hl).1.2
  omega
 ·exact hl
section
variable {S:Ids} {H0:AH}
theorem openE {x:T_Deal} {ds:List T_Deed} {dcs:List Value} {a:Option Addr} {n c:Nat} (hd:DealOk x) (hdp:∀d∈ds,DeedP d) (h400:ds.length≤400) (hn:n=ds.length) (hD:K_Deal.R S H0 x dcs) (hs:K_Deed.Sl S H0 (.slice a n c) ds):
  Spec Tryz.prog S H0 16 [.agg dcs.toArray,.slice a n c] (fun v=>v=.tuple #[.int .i64 (rebV x.1 (opG (behind x ds)) (opH x (behind x ds))),.int .i64 (rebC x.1 (opG (behind x ds)) (opH x (behind x ds)))]):=by
 subst hn
 have ko:=impl_OpenAfter (S:=S) (H0:=H0) (x:=x) (ds:=ds) (deal_small hd) (deeds_B hdp h400) hD (sl1' hs)
 unfold r0_OpenAfter r1_OpenAfter at ko
 rw[given_ok hd hdp h400,if_pos rfl,if_pos rfl] at ko
 exact ko
theorem lawGather {ar0 ar1:List Int} {p0 p1:Option Addr} {q0 q1:Nat} (hW0:W_B ar0) (h0:K_B.R S H0 ar0 [.slice p0 ar0.length q0]) (hW1:W_B ar1) (h1:K_B.R S H0 ar1 [.slice p1 ar1.length q1]):Spec Tryz.prog S H0 3 [.slice p0 ar0.length q0,.slice p1 ar1.length q1] (fun v=>v=.bool true):=by
 have s0:=sl1 h0
 have s1:=sl1 h1
 refine Spec.of1 Tryz.func3 rfl (by kernel_rfl) rfl (fun H _=>?_)
 refine KW.call U U U U U (a2Long) (fun v _ _ hv=>?_)
 obtain⟨b,rfl,hb⟩:=hv
 cases b with
 | true=>
  refine KW.cT U U (by first | (simp;done) | decide) ?_
  exact KW.ret U U U U (rfl)
 | false=>
 have hb:=hb rfl
 refine KW.cF U U (by first | (simp;done) | decide) ?_
 refine KW.callN1 U U U U U (a2Deal hW0.2 (by omega) s0.up) (fun v HM SM mM _ _ hv=>?_)
 obtain⟨x,cs,rfl,hd,hR0⟩:=hv
 have hR:K_Deal.R SM HM x cs:=On.R hR0
 clear hR0
 obtain⟨a1,c1,a2,c2,a3,c3,a4,c4,rfl,d1,d2,d3,d4⟩:=split2_Deal hR
 have hB:=deal_small hd
 have hk:=hd.sch
 have hh1:=hk.h1
 have hh7:=hk.h7
 have hbl:=hd.bl
 refine KW.callN1 U U U U U (a2Deeds hd hB hR hW1.2 (by omega) s1.up) (fun v HD SD mD _ _ hv=>?_)
 obtain⟨ds,od,rfl,l36,hdp,hnw,hmo⟩:=hv
 have hSo:SD od∧HD.m od=_:=(inferInstance:On (New _ HD.n) HD SD HD).st od hnw |>.imp id (fun h=>h.trans hmo)
 have hS1:=deeds_sl (ds:=ds) hSo.1 hSo.2
 have hBd:=deeds_B hdp (by omega)
 refine KW.callN1 U U U U U (a2GroupI (by omega) (by omega) hW0.2 (by omega) s0.up) (fun v HG SG mG _ _ hv=>?_)
 obtain⟨gr,hgr,ag,cg,rfl,hG⟩:=hv
 have hgl:=rises_len7 hh7 hgr
 have hGB:B_Int64S gr:=by show gr.length≤_;omega
 have hGs:=hG.sl.up (S':=SG) (H':=HG)
 have hS2:=hS1.up (S':=SG) (H':=HG)
 have k6:=spec_GatherDeeds (S:=SG) (H0:=HG) (x:=x) (ds:=ds) (g:=gr) hB hBd hGB (On.R hR) (sl1' hS2) (sl1' hGs)
 refine KW.callN1 U U U U U (k6) (fun v H6 S6 m6 _ _ hv=>?_)
 obtain⟨z6,y6,rfl,hO6⟩:=hv
 have hS3:=hS2.up (S':=S6) (H':=H6)
 have hGs3:=hGs.up (S':=S6) (H':=H6)
 have k7:=impl_GatherDeeds (S:=S6) (H0:=H6) (x:=x) (ds:=ds) (g:=gr) hB hBd hGB (On.R hR) (sl1' hS3) (sl1' hGs3)
 refine KW.callN1 U U U U U (k7) (fun v H7 S7 m7 _ _ hv=>?_)
 obtain⟨z7,y7,rfl,hO7⟩:=hv
 refine KW.cF U U (by simp) ?_
 by_cases hcd:r1_GatherDeeds x ds gr=0
 case neg=>
  refine KW.cT U U (by simpa using hcd) ?_
  refine KW.retM1 U U U U (fun H1 g=>rfl)
 refine KW.cF U U (by simpa using hcd) ?_
 have hcg:codeG x ds gr=0:=hcd
 obtain⟨hnb,hl400⟩:(¬∃h∈gr,badH (behind x ds) h)∧ds.length+(outG x ds gr).length≤400:=by
  unfold codeG at hcg
  rw[if_pos (given_ok hd hdp (by omega)),if_pos (tv_true hgr)] at hcg
  split at hcg
  ·cases hcg
  ·rename_i hn
   split at hcg
   ·cases hcg
   ·exact⟨fun q=>hn (tv_true q),by omega⟩
 have eo7:r0_GatherDeeds x ds gr=outG x ds gr:=by unfold r0_GatherDeeds;rw[if_pos hcg]
 have GE:=gath_end hd hdp hgr hnb
 rw[eo7] at hO7 ⊢
 obtain⟨og,eog⟩:∃og,outG x ds gr=og:=⟨_,rfl⟩
 rw[eog] at hO7 GE hl400 ⊢
 have hdp2:∀d∈ds++og,DeedP d:=fun d hm=>(List.mem_append.1 hm).elim (hdp d) (fun h=>(outG_ok hd hgr d (by rw[eog];exact h)).1)
 have hO7s:K_Deed.Sl S7 H7 (.slice z7 og.length y7) og:=(sl1 (le_DeedS.2 _ _ _ _ hO7)).up
 have hS4:=hS3.up (S':=S7) (H':=H7)
 refine KW.litS0 U U U U U U U U U U ?_
 refine KW.appU 1 U U U U U U U U (by decide) U U (dcells_len ds) (fun H1 g=>acells_deeds hS4 g) (dcells_one ds) (by show(0+ds.length)*24≤_;omega) (by omega) (fun o2 n2 ho2 hn2=>?_)
 refine KW.appU 1 U U U U U U U U (by decide) rfl (by show([]++dcells ds).length=(0+ds.length)*3;rw[List.nil_append,dcells_len];omega) (dcells_len og) (fun H1 g=>acells_deeds hO7s g) (dcells_one og) (by show(0+ds.length+og.length)*24≤_;omega) (by omega) (fun o3 n3 ho3 hn3=>?_)
 have el:0+ds.length+og.length=(ds++og).length:=by simp
 have edc:[]++dcells ds++dcells og=dcells (ds++og):=by simp[dcells]
 rw[edc,el]
 refine KW.callN1 U U U U U (cerAfter hd hdp (by omega) (On.R hR) hS4) (fun v HC SC mC _ _ hv=>?_)
 obtain⟨ccs,rfl,hC⟩:=hv
 obtain⟨w1,w2,w3,w4,w5,v1,v2,v3,v4,v5,rfl,k1,k2,k3,k4,k5⟩:=hC
 refine KW.callNV1 U U U U U (fun H1 g _=>cerAfterN rfl hd hdp2 (by simp;omega) (On.R hR) (deeds_slN U U U (g.blk (j:=1) rfl))) (fun v HE SE mE _ _ hv=>?_)
 obtain⟨ces,rfl,hE⟩:=hv
 obtain⟨r1,r2,r3,r4,r5,t1,t2,t3,t4,t5,rfl,l1,l2,l3,l4,l5⟩:=hE
 have hdn:=GE.dn
 rw[eog] at hdn
 rw[hdn]
 have hdl:doneC (codes x (cer0 x.1.1.toNat) ds)≤36:=by
  have h1:=doneC_le (codes x (cer0 x.1.1.toNat) ds)
  rw[codes_len] at h1
  omega
 have hbe:play x (cer0 x.1.1.toNat) (ds++og)=behind x (ds++og):=rfl
 rw[hbe] at l1 l2 l3 l4 l5 ⊢
 have ok0:=behind_ok hd hdp
 have hsl0:=ok0.sl
 obtain⟨c,ec⟩:∃c,behind x (ds++og)=c:=⟨_,rfl⟩
 rw[ec] at l1 l2 l3 l4 l5 GE ⊢
 have ok:=GE.ok
 have hsl:=ok.sl
 have hhl:=ok.hl
 have hwi:=GE.wi
 have hcs:=ok.small hd
 refine KW.tF U U (by first | (simp;done) | decide) ?_
 refine KW.tF U U (by first | (simp;done) | decide) ?_
 refine KW.tF U U (by rw[wr (by omega) (by omega)];simp) ?_
 refine KW.tF U U (by rw[hwi];simp) ?_
 refine KW.tF U U (by simp;omega) ?_
 refine KW.cF U U (by simp;omega) ?_
 have hGs4:=(hGs3.up (S':=S7) (H':=H7)).up (S':=SE) (H':=HE)
 have hS5:=hS4.up (S':=SE) (H':=HE)
 have hl3:=l3.up (S':=SE) (H':=HE)
 have hl1:=l1.up (S':=SE) (H':=HE)
 refine KW.lp U U (fun i:Nat=>[(5,.pointer (some ⟨HM.n,0,some 0⟩)),(6,.slice (some ⟨od,0,some 3⟩) ds.length ds.length),(7,.slice ag gr.length cg),(12,.slice (some ⟨o3,0,some 3⟩) (ds++og).length (ds++og).length),(16,.pointer (some ⟨HE.n,0,some 3⟩)),(19,.int .i64 i)]) (fun i=>i≤gr.length) (fun i=>gr.length-i) (0) (Nat.zero_le _) ⟨rfl,rfl,rfl,rfl,rfl,rfl,trivial⟩ (fun i hi bE n=>?_)
 refine KW.cnd U U (fun j1=>?_) (fun j1=>?_)
 ·have j1:(i:Int)<(gr.length:Int):=j1
  refine KW.getI hGs4 U U U U U U U U U U U U U U U U (by omega) (j1) (fun h hh=>?_)
  have hh:gr[i]?=some h:=hh
  have hhm:=List.mem_of_getElem? hh
  have hin:=rises_in hgr hhm
  have hhs:=GE.hs h hhm
  have hse:=GE.se h hhm
  refine KW.getB hl3 U U U U U U U U U U U U U U U U (hin.1) (by omega) (fun y hy=>?_)
  have ey:y=true:=by rw[← hhs];exact(getD_some hy).symm
  subst ey
  refine KW.tF U U (by first | (simp;done) | decide) ?_
  refine KW.adS hl1 U U U U U U U U U (hin.1) (by omega) (fun s2 ys id0 z0 hs2 hsy hat0=>?_)
  have es2:s2=(fullP x c.ep h,fullP x c.ep h,0):=by rw[← hse];exact(getD_some hs2).symm
  subst es2
  have hsz:=hcs.se _ (List.mem_of_getElem? hs2)
  obtain⟨e1,f1,e2,f2,e3,f3,e4,f4,rfl,m1,m2,m3,m4⟩:=split_SeatF hsy
  refine KW.ldF 0 hat0 U U U U U U U U U ?_
  refine KW.tF U U (by simp[fullP]) ?_
  refine KW.adS hl1 U U U U U U U U U (hin.1) (by omega) (fun s3 ys3 id3 z3 hs3 hsy3 hat3=>?_)
  have es3:s3=(fullP x c.ep h,fullP x c.ep h,0):=by rw[← hse];exact(getD_some hs3).symm
  subst es3
  obtain⟨e1,f1,e2,f2,e3,f3,e4,f4,rfl,m1,m2,m3,m4⟩:=split_SeatF hsy3
  refine KW.ldFs 0 [.int .i64 (fullP x c.ep h).1,.slice e1 (fullP x c.ep h).2.1.length f1,.slice e2 (fullP x c.ep h).2.2.length f2] hat3 U U U U U U U U U U (Nat.succ_pos _) ?_
  refine KW.adS hl1 U U U U U U U U U (hin.1) (by omega) (fun s4 ys4 id4 z4 hs4 hsy4 hat4=>?_)
  have es4:s4=(fullP x c.ep h,fullP x c.ep h,0):=by rw[← hse];exact(getD_some hs4).symm
  subst es4
  obtain⟨g1,u1,g2,u2,g3,u3,g4,u4,rfl,n1,n2,n3,n4⟩:=split_SeatF hsy4
  refine KW.ldFs 3 [.int .i64 (fullP x c.ep h).1,.slice g3 (fullP x c.ep h).2.1.length u3,.slice g4 (fullP x c.ep h).2.2.length u4] hat4 U U U U U U U U U U (Nat.succ_pos _) ?_
  refine KW.callE U U U U U (samePurse (x:=fullP x c.ep h) hsz.1.1 hsz.1.2 m1.up m2.up n3.up n4.up) (fun _ _=>?_)
  refine KW.cF U U (by first | (simp;done) | decide) ?_
  refine KW.nxt U U (fun H' g=>⟨i+1,by omega,by first | omega | (simp only;omega),⟨rfl,rfl,rfl,rfl,rfl,congrArg (Value.int .i64) (inc64 (by omega)),trivial⟩,g⟩)
 refine KW.lp U U (fun s:Nat × Bool=>[(5,.pointer (some ⟨HM.n,0,some 0⟩)),(6,.slice (some ⟨od,0,some 3⟩) ds.length ds.length),(7,.slice ag gr.length cg),(12,.slice (some ⟨o3,0,some 3⟩) (ds++og).length (ds++og).length),(21,.bool s.2),(22,.int .i64 s.1)]) (fun s=>s.1≤ds.length∧s.2=tv (∀d∈ds.take s.1,d.1≠6)) (fun s=>ds.length-s.1) ((0,true)) (⟨Nat.zero_le _,(tv_true (fun d hd=>(by simp at hd))).symm⟩) ⟨rfl,rfl,rfl,rfl,rfl,rfl,trivial⟩ (fun s hi bE n=>?_)
 obtain⟨i,b⟩:=s
 obtain⟨ii,ib⟩:=hi
 simp only at ii ib
 refine KW.cnd U U (fun j2=>?_) (fun j2=>?_)
 ·have j2:(i:Int)<(ds.length:Int):=j2
  obtain⟨y0,hy0⟩:∃y0,ds[i]?=some y0:=⟨_,List.getElem?_eq_getElem (by omega)⟩
  have hnx:=take_allD hy0 ib
  cases b with
  | false=>
   refine KW.tF U U (by first | (simp;done) | decide) ?_
   refine KW.nxt U U (fun H' g=>⟨(i+1,false),⟨by simp only;omega,by simpa using hnx⟩,by first | omega | (simp only;omega),⟨rfl,rfl,rfl,rfl,rfl,congrArg (Value.int .i64) (inc64 (by omega)),trivial⟩,g⟩)
  | true=>
   refine KW.tT U U (by first | (simp;done) | decide) ?_
   refine KW.adS hS5 U U U U U U U U U (by omega) (j2) (fun y ys id0 z0 hy hsy hat0=>?_)
   have hy:ds[i]?=some y:=hy
   obtain rfl:y0=y:=by rw[hy0] at hy;exact Option.some.inj hy
   obtain rfl:=form_Deed hsy
   refine KW.ldF 0 hat0 U U U U U U U U U ?_
   refine KW.nxt U U (fun H' g=>⟨(i+1,true&&!decide (y0.1=6)),⟨by simp only;omega,hnx⟩,by first | omega | (simp only;omega),⟨rfl,rfl,rfl,rfl,rfl,congrArg (Value.int .i64) (inc64 (by omega)),trivial⟩,g⟩)
 ·have j2:¬(i:Int)<(ds.length:Int):=j2
  obtain rfl:i=ds.length:=by omega
  rw[List.take_length] at ib
  refine KW.callE U U U U U (schemeOpens (x:=x.1) (g:=gr) hd.sch hgr hB.1 hGB d1.up d2.up hGs4) (fun _ _=>?_)
  refine KW.callV1 U U U U U (fun H1 g _=>openE hd hdp2 (by simp;omega) rfl (On.R hR) (deeds_slN U U U (g.blk (j:=1) rfl))) (fun _ _=>?_)
  rw[ec]
  refine KW.cF U U (by first | (simp;done) | decide) ?_
  cases b with
  | false=>
   refine KW.tT U U (by first | (simp;done) | decide) ?_
   repeat first | refine KW.tT U U U ?_ | refine KW.tF U U U ?_
   refine KW.retM1 U U U U (fun H1 g=>rfl)
  | true=>
   refine KW.tF U U (by first | (simp;done) | decide) ?_
   have hpl:=tv_iff.1 ib.symm
   cases hop:opensF x.1 gr with
   | false=>
    refine KW.tT U U (by first | (simp;done) | decide) ?_
    repeat first | refine KW.tT U U U ?_ | refine KW.tF U U U ?_
    refine KW.retM1 U U U U (fun H1 g=>rfl)
   | true=>
    obtain⟨e1,e2⟩:=GE.op hpl hop
    rw[e1,e2]
    refine KW.tF U U (by first | (simp;done) | decide) ?_
    refine KW.tT U U (by first | (simp;done) | decide) ?_
    refine KW.retM1 U U U U (fun H1 g=>by first | (show Value.bool (x.2.1==x.2.1)=_;simp;done) | (show Value.bool (decide (x.2.1=x.2.1))=_;simp;done))
end
end Go.Proofs.YtlapbbffoapleaaGreat.Am
namespace Go.Proofs.YtlapbbffoapleaaGreat.Am
open Go
theorem joined_of {P:Program} {f:FuncId} {fn:Func} {s:ChangeSpec} {c:OpenClaim}
  (h0:(c.wf (OpenSpec.ofChange s))=true)
  (h1:(laidOutB P)=true)
  (h2:(mapsRowed P)=true)
  (h3:(fn.params.all (P.readableRec ·))=true)
  (h4:(namedTie P c.named s.vars)=true)
  (h5:((c.stops==[]))=true)
  (h6:((P.stops==[]))=true)
  (h7:((c.knobs==[]))=true)
  (h8:((P.stopKnobs==[]))=true)
  (h9:((c.inPlace==P.inPlace f))=true)
  (h10:((c.unfollowed==P.unfollowed f))=true)
  (h11:((c.recurses==P.recurses f))=true)
  (h12:((c.named==P.varsNamed f))=true)
  (h13:((c.maps==(fn.params.toList++s.plain.varTypes P).any (P.mapsRec ·)))=true)
  (h14:((c.ifaces==(fn.params.toList++s.plain.varTypes P).any (P.ifacesRec ·)))=true)
  (h15:((c.mapsOut==P.mapsAmong fn.resultTypes.toList))=true)
  (h16:((c.loops==(fn.params.toList++s.plain.varTypes P).any (P.loopsFrom ·)))=true)
  (h17:((c.wideKeys==(fn.params.toList++s.plain.varTypes P++fn.resultTypes.toList).any (P.wideKeysFrom ·)))=true)
  (h18:(s.vars.all (P.varReadable ·))=true)
  (h19:(fn.resultTypes.all (fun t=>P.readableRec t&&decide (t<P.types.size)))=true)
  (h20:((c.ifacesOut==fn.resultTypes.toList.any (P.ifacesRec ·)))=true)
  (h21:((c.loopsOut==fn.resultTypes.toList.any (P.loopsFrom ·)))=true)
  (h22:((c.plainKeys==P.plainKeys))=true)
  (h23:(c.shortTexts.isNone)=true)
  (h24:(P.stopsHeard)=true)
  (h25:(P.mayEnter)=true)
  (h26:((c.lifted==P.liftsFinal))=true)
  (h27:((P.make==some c.make))=true)
  (h28:((c.kinds==(if c.domain.isEmpty then [] else fn.params.toList.map fun t=>match P.underlying t with | some (.int k)=>some k | _=>none)))=true)
  (h29:((c.pinned==c.pinnedBy))=true)
  (h30:((c.veiled==(fn.params.toList++s.plain.varTypes P++fn.resultTypes.toList).any (P.veiledRec ·)))=true)
  (h31:(c.veiledFits P fn.params.toList (fn.params.toList++s.plain.varTypes P++fn.resultTypes.toList))=true)
  :joinedFacts P f fn s c=true:=by
 unfold joinedFacts
 simp only[Bool.and_eq_true]
 exact⟨⟨⟨⟨⟨⟨⟨⟨⟨⟨⟨⟨⟨⟨⟨⟨⟨⟨⟨⟨⟨⟨⟨⟨⟨⟨⟨⟨⟨⟨⟨h0,h1⟩,h2⟩,h3⟩,h4⟩,h5⟩,h6⟩,h7⟩,h8⟩,h9⟩,h10⟩,h11⟩,h12⟩,h13⟩,h14⟩,h15⟩,h16⟩,h17⟩,h18⟩,h19⟩,h20⟩,h21⟩,h22⟩,h23⟩,h24⟩,h25⟩,h26⟩,h27⟩,h28⟩,h29⟩,h30⟩,h31⟩
end Go.Proofs.YtlapbbffoapleaaGreat.Am
