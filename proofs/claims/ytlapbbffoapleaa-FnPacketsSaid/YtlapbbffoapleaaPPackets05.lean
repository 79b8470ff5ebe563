/- Contracts and laws on abstract memory, merged. Each holds under its own conditions. -/
import Derived.Test.YtlapbbffoapleaaPPackets04
set_option linter.unusedVariables false
set_option linter.unusedSimpArgs false
set_option maxRecDepth 20000
set_option maxHeartbeats 4000000
namespace Go.Proofs.Ytlapbbffoapleaa.Am
open Go Go.RowKit Go.Proofs Go.Proofs.Ytlapbbffoapleaa.Pl
def dcells (ds:List T_Deed):List Value:=ds.flatMap fun d=>[.int .i64 d.1,.int .i64 d.2.1,.int .i64 d.2.2]
theorem dcells_len (ds:List T_Deed):(dcells ds).length=ds.length*3:=by
 induction ds with
 | nil=>rfl
 | cons d ds ih=>simp only [dcells,List.flatMap_cons,List.length_append,List.length_cons,List.length_nil] at ih ⊢; omega
theorem dcells_snoc (ds:List T_Deed) (d:T_Deed):dcells (ds++[d])=dcells ds++[.int .i64 d.1,.int .i64 d.2.1,.int .i64 d.2.2]:=by simp [dcells]
theorem deed_R {X:Ids} {A:AH} (d:T_Deed):K_Deed.R X A d [.int .i64 d.1,.int .i64 d.2.1,.int .i64 d.2.2]:=⟨[.int .i64 d.1],[.int .i64 d.2.1,.int .i64 d.2.2],rfl,rfl,[.int .i64 d.2.1],[.int .i64 d.2.2],rfl,rfl,rfl⟩
theorem dcells_cl (X:Ids) (A:AH):∀(l:List T_Deed),Cl K_Deed X A l.reverse (dcells l.reverse)
 | []=>Cl.nil _ _ _ _
 | d :: l=>by
  have h:=(dcells_cl X A l).snoc (deed_R (X:=X) (A:=A) d)
  have e:((dcells l.reverse).drop 0).take (l.reverse.length*K_Deed.es)=dcells l.reverse:=by
   rw [List.drop_zero,List.take_of_length_le]
   rw [dcells_len]
   exact Nat.le_refl _
  rw [e] at h
  rw [List.reverse_cons,dcells_snoc]
  exact h
theorem dcells_Cl (X:Ids) (A:AH) (l:List T_Deed):Cl K_Deed X A l (dcells l):=by
 have h:=dcells_cl X A l.reverse
 rwa [List.reverse_reverse] at h
theorem deeds_sl {S:Ids} {A:AH} {o:Nat} {ty:TypeId} {rw:Bool} {ds:List T_Deed} (hS:S o) (hm:A.m o=some ⟨ty,rw,dcells ds⟩):K_Deed.Sl S A (.slice (some ⟨o,0,some 3⟩) ds.length ds.length) ds:=Cl.sl (dcells_Cl S A ds) hS hm rfl (fun j hj=>hj) (Nat.le_refl _)
def kindsL:List Int:=[1,1,1,1,2,2,2,2,3,3,3,3,3,3,4,5,6,7,8,9]
theorem built_DeedKA (k a:Int):Try.prog.built 68 [(0,.int .i64 k),(1,.int .i64 a)]=some #[.int .i64 k,.int .i64 a,.int .i64 0]:=by kernel_rfl
structure DdS where
 m:Nat
 S:Ids
 A:AH
 X:Ids
 d:HD
 c:Cer
 ds:List T_Deed
 o:Nat
structure DdI (bs:List Int) (ac:Option Addr) (cc id:Nat) (Y:Ids) (B:Nat) (x:T_Deal) (did hid:Nat) (H:AH) (s:DdS):Prop where
 hl:Hl HTS [.pointer (some ⟨did,0,none⟩)] [] s.S s.A s.X s.d s.c
 hd:s.d.hid=hid
 ok:CerOk x s.c
 src:SrcB bs ac cc id Y s.S s.A (B+s.ds.length*20)
 E:GwE H (fun i=>i=id) s.S s.A
 wn:∀j,s.d.W j→H.n≤j
 xn:∀j,s.X j→H.n≤j
 len:s.ds.length+s.m≤36
 dp:∀d∈s.ds,DeedP d
section
variable {S:Ids} {H0:AH} {bs:List Int} {ac:Option Addr} {cc id B:Nat} {Y:Ids}
theorem pickC {n:Int} (h:SrcB bs ac cc id Y S H0 B) (hB:B≤900000) (hn:n≤1000000):SpecW Try.prog S H0 (fun i=>i=id) 80 [.pointer (some ⟨id,0,none⟩),.int .i64 n] (fun _ v H1=>∃z:Nat,((z:Int) < n∨z=0)∧v=.int .i64 z∧∃at_,at_≤B+2∧Src ac bs.length cc H1 id at_):=by
 by_cases h1:1≤n
 ·intro H hf hz
  obtain ⟨m,v,H1,k1,k2,k3,k4,z,k5,k6,k7⟩:=pickB h hB hn H hf hz
  exact ⟨m,v,H1,k1,k2,k3,k4,z,.inl (k5 h1),k6,k7⟩
 ·refine SpecW.of0 Try.func80 rfl (by kernel_rfl) rfl (fun H hfin hfz=>?_)
  have SB0:SrcB bs ac cc id Y (Low H.n) H B:=h.s (fun i hi=>hfz i hi) (Nat.le_refl _)
  refine KW.yes rfl rfl (by omega) ?_
  refine KW.retW rfl rfl rfl rfl (fun H1 g=>by have:=g.n_; omega) (fun i hi hw=>⟨hi,rfl⟩) (fun H1 g=>⟨0,.inr rfl,rfl,?_⟩)
  obtain ⟨q,h1,h2⟩:=SB0.src
  exact ⟨q,by omega,h2.mv (g.froz id SB0.sid).2⟩
theorem l08Deeds {D:Ids} {x:T_Deal} {dcs:List Value} {did:Nat} (hd:DealOk x) (hB:B_Deal x) (hD:K_Deal.R D H0 x dcs) (hDv:Has3 D H0 did 0 dcs) (hDS:∀i,D i→S i∧i≠id) (hsrc:SrcB bs ac cc id Y S H0 B) (hBB:B≤400000):
  SpecW Try.prog S H0 (fun i=>i=id) 93 [.pointer (some ⟨id,0,none⟩),.pointer (some ⟨did,0,none⟩),.int .i64 36] (fun m v H1=>(∃(ds:List T_Deed) (o:Nat),v=.slice (some ⟨o,0,some 3⟩) ds.length ds.length∧ds.length≤36∧(∀d∈ds,DeedP d)∧New m H1.n o∧H1.m o=some ⟨68,true,dcells ds⟩)∧∃at_,at_≤B+1000∧Src ac bs.length cc H1 id at_):=by
 refine SpecW.of0P [(6,[0,1,3,4,5,6,7,8,2,9,10,11,12])] [6,11,13] Try.func93 rfl (by kernel_rfl) (by kernel_rfl) (by kernel_rfl) rfl (fun H hfin hfz=>?_)
 have SB0:SrcB bs ac cc id Y (Low H.n) H B:=hsrc.s (fun i hi=>hfz i hi) (Nat.le_refl _)
 have E0:GwE H (fun i=>i=id) (Low H.n) H:=⟨fun i hi=>by rw [hi]; exact SB0.sid,fun i h _=>⟨h,rfl⟩⟩
 have hidL:id < H.n:=SB0.sid
 have hDl:∀i,D i→i < H.n∧i≠id:=fun i hi=>⟨(hfz i (hDS i hi).1).1,(hDS i hi).2⟩
 have hD0:K_Deal.R D H x dcs:=K_Deal.same (fun i hi=>(hfz i (hDS i hi).1).2) hD
 have hDv0:Has3 D H did 0 dcs:=by
  obtain ⟨q0,b,q1,q2⟩:=hDv
  exact ⟨q0,b,((hfz did (hDS did q0).1).2).trans q1,q2⟩
 have hDvL:Has3 (Low H.n) H did 0 dcs:=⟨(hDl did hDv0.1).1,hDv0.2⟩
 refine KW.litS0 rfl rfl rfl rfl rfl rfl rfl rfl rfl rfl ?_
 refine KW.callN1 rfl rfl rfl rfl rfl (l08Begin hd hD0 hDvL) (fun v H1 S1 m1 _ _ hv=>?_)
 obtain ⟨d1,sp,rfl,hh⟩:=hv
 have st1:=(inferInstance:On (Low H.n) H S1 H1).st
 have hh1:=hh.on (S':=S1) (A':=H1)
 obtain ⟨hid,ehid⟩:∃hid,d1.hid=hid:=⟨_,rfl⟩
 rw [ehid]
 have SB1:=SB0.s (B':=B) st1 (Nat.le_refl _)
 have E1:=E0.s st1
 refine KW.callW (W:=fun i=>i=id) (fun i hi=>by subst hi; exact SB1.sid) rfl rfl rfl rfl rfl (pickB (n:=37) SB1 (by omega) (by omega)) (fun v H2 S2 n2 st2 w2 hv2=>?_)
 obtain ⟨z2,hz2,rfl,src2⟩:=hv2
 have hz2:=hz2 (by omega)
 have SB2:=SB1.w1 st2 src2
 have E2:=E1.w st2 (fun i hi=>.inl hi)
 have hwn:∀j,d1.W j→H.n≤j:=fun j hj=>by have:=(hh.w j hj).1; omega
 have hh2:Hl HTS [.pointer (some ⟨did,0,none⟩)] [] S2 H2 (fun _=>False) d1 (cer0 x.1.1.toNat):=hh1.mv fun j hj=>by
  have hj2:S1 j:=hj.elim (hh1.w j) (fun h=>h.elim)
  have hne:j≠id:=by have:=hj.elim (hwn j) (fun h=>h.elim); omega
  exact ⟨(st2 j hj2).1,(st2 j hj2).2 hne⟩
 refine KW.lpM rfl rfl (fun s:DdS=>[(0,.pointer (some ⟨id,0,none⟩)),(1,.pointer (some ⟨did,0,none⟩)),(7,.slice (some ⟨s.o,0,some 3⟩) s.ds.length s.ds.length),(8,.pointer (some ⟨hid,0,none⟩)),(9,.int .i64 s.m)]) (fun s=>s.S) (fun s=>s.A) (fun s=>[(s.o,⟨68,true,dcells s.ds⟩)]) (fun s=>DdI bs ac cc id Y (B+2) x did hid H s) (fun s=>s.m) (⟨z2,S2,H2,fun _=>False,d1,cer0 x.1.1.toNat,[],H.n⟩) (⟨hh2,ehid,CerOk.start hd,SB2.s (fun i hi=>⟨hi,rfl⟩) (by simp only [List.length_nil]; omega),E2,hwn,fun _ h=>h.elim,by simp only [List.length_nil]; omega,fun d hdm=>(by cases hdm)⟩) ⟨rfl,rfl,rfl,rfl,rfl,trivial⟩ rfl rfl (rfl) (fun s hi bE n=>?_)
 obtain ⟨m,S3,A3,X3,d3,c3,ds,o3⟩:=s
 obtain ⟨hl3,hd3,ok3,SB3,E3,wn3,xn3,len3,dp3⟩:=hi
 simp only at hl3 hd3 ok3 SB3 E3 wn3 xn3 len3 dp3
 refine KW.cnd rfl rfl (fun k1=>?_) (fun k1=>?_)
 ·have k1:(m:Int) > 0:=k1
  have hh1b:=hd.sch.h1
  have hh7b:=hd.sch.h7
  have hDv3:Has3 S3 A3 did 0 dcs:=by
   obtain ⟨q0,b,q1,q2⟩:=hDv0
   have h:=E3.old did (hDl did q0).1 (hDl did q0).2
   exact ⟨h.1,b,h.2.trans q1,q2⟩
  obtain ⟨a1,c1,a2,c2,a3,c3',a4,c4,rfl⟩:=form_Deal hD0
  refine KW.lit rfl rfl rfl rfl rfl rfl rfl rfl rfl rfl (kindsL.map (Value.int .i64)) rfl rfl (fun v hv=>by obtain ⟨x,_,rfl⟩:=List.mem_map.1 hv; rfl) rfl ?_
  refine KW.freeze 1 rfl (fun A4 S4 hn4 hS4 st4 hm4 ho4 hno4 hlow4=>?_)
  have SB4:=SB3.s (B':=B+2+ds.length*20) st4.st (Nat.le_refl _)
  have E4:=E3.s st4.st
  have hDv4:=hDv3.up (S':=S4) (H':=A4)
  refine KW.ldF 0 hDv4 rfl rfl rfl rfl rfl rfl rfl rfl rfl ?_
  refine KW.callWL (W:=fun i=>i=id) (fun i hi=>by subst hi; exact SB4.sid) rfl rfl rfl rfl rfl ⟨.inr ⟨did,_,_,rfl,hDv4.1,(hDl did hDv0.1).2⟩,trivial⟩ (amongB SB4 (by omega) (ls:=kindsL) (by decide) (by decide) (litSl hm4 hS4 hno4 SB3.sid)) (fun v H5 S5 n5 st5 w5 hv5=>?_)
  obtain ⟨kd,hkd,rfl,src5⟩:=hv5
  have SB5:=SB4.w1 st5 src5
  have E5:=E4.w st5 (fun i hi=>.inl hi)
  refine KW.callW (W:=fun i=>i=id) (fun i hi=>by subst hi; exact SB5.sid) rfl rfl rfl rfl rfl (pickB (n:=x.1.1) SB5 (by omega) (by omega)) (fun v H6 S6 n6 st6 w6 hv6=>?_)
  obtain ⟨z6,hz6,rfl,src6⟩:=hv6
  have hz6:=hz6 (by omega)
  have SB6:=SB5.w1 st6 src6
  have E6:=E5.w st6 (fun i hi=>.inl hi)
  refine KW.build rfl rfl rfl rfl rfl (built_DeedKA _ _) ?_
  subst hd3
  have hl6:Hl HTS [.pointer (some ⟨did,0,none⟩)] [] S6 H6 X3 d3 c3:=hl3.mv fun j hj=>by
   have hj3:S3 j:=hj.elim (hl3.w j) (hl3.sx j)
   have hne:j≠id:=by have:=hj.elim (wn3 j) (xn3 j); omega
   have h4:=st4.st j hj3
   have h5:=st5 j h4.1
   have h6:=st6 j h5.1
   exact ⟨h6.1,(h6.2 hne).trans ((h5.2 hne).trans h4.2)⟩
  have hidne:d3.hid≠id:=by have:=wn3 _ HD.Win.1; omega
  have hWne:∀j,d3.W j∨X3 j→j≠id:=fun j hj e=>by have:=hj.elim (wn3 j) (xn3 j); omega
  obtain ⟨aw,cw,ew⟩:∃aw cw,d3.wv c3.wire.length=.slice aw c3.wire.length cw:=by
   obtain ⟨a,c,h⟩:=hl6.wireSl.form
   exact ⟨a,c,h⟩
  have hwl:=ok3.wl
  have hDv6:Has3 S6 H6 did 0 [.int .i64 x.1.1,.slice a1 x.1.2.1.length c1,.int .i64 x.1.2.2.1,.int .i64 x.1.2.2.2.1,.slice a2 x.1.2.2.2.2.length c2,.int .i64 x.2.1,.slice a3 x.2.2.1.length c3',.slice a4 x.2.2.2.length c4]:=by
   obtain ⟨q0,b,q1,q2⟩:=hDv0
   have h:=E6.old did (hDl did q0).1 (hDl did q0).2
   exact ⟨h.1,b,h.2.trans q1,q2⟩
  have hp2:=hd.prime.1
  have hp31:=hd.prime.2.1
  have hk9:kd=1∨kd=2∨kd=3∨kd=4∨kd=5∨kd=6∨kd=7∨kd=8∨kd=9:=by simp [kindsL] at hkd; omega
  rcases hk9 with rfl | rfl | rfl | rfl | rfl | rfl | rfl | rfl | rfl
  ·refine KW.cF rfl rfl (by first | (simp; done) | decide) ?_
   refine KW.cF rfl rfl (by first | (simp; done) | decide) ?_
   refine KW.cF rfl rfl (by first | (simp; done) | decide) ?_
   refine KW.cF rfl rfl (by first | (simp; done) | decide) ?_
   refine KW.cF rfl rfl (by first | (simp; done) | decide) ?_
   have hdp:DeedP ((1:Int),(z6:Int),(0:Int)):=⟨by show 1≤(1:Int)∧(1:Int)≤9; decide,⟨by show 0≤(z6:Int); omega,by show (z6:Int)≤999; omega⟩,by show 0≤(0:Int)∧(0:Int)≤999; decide,.inl (by show 0 < cntD 1; decide),.inr rfl⟩
   refine KW.litS1 rfl rfl rfl rfl rfl rfl rfl rfl rfl rfl rfl rfl ?_
   refine KW.appTS (m:=1) (ys:=[.int .i64 ((1:Int)),.int .i64 ((z6:Int)),.int .i64 ((0:Int))]) 0 rfl rfl rfl rfl rfl rfl rfl rfl (by decide) rfl (fun H1 g=>acells_seg (g.blk (j:=2) rfl).1 (by show 0+1*3≤3; decide)) (by show 0+ds.length*3≤(dcells ds).length; rw [dcells_len]; omega) rfl (by decide) (by show (ds.length+1)*24≤_; omega) (by show ds.length+1≤_; omega) ?_
   refine KW.ids (fun hlow9 hvar9=>?_)
   have hnn9:=E6.nle hlow9
   have hDX:K_Deal.R D H6 x _:=K_Deal.same (fun j hj=>(E6.old j (hDl j hj).1 (hDl j hj).2).2) hD0
   have hDvX:Has3 D H6 did 0 [.int .i64 x.1.1,.slice a1 x.1.2.1.length c1,.int .i64 x.1.2.2.1,.int .i64 x.1.2.2.2.1,.slice a2 x.1.2.2.2.2.length c2,.int .i64 x.2.1,.slice a3 x.2.2.1.length c3',.slice a4 x.2.2.2.length c4]:=by
    obtain ⟨q0,b,q1,q2⟩:=hDv0
    exact ⟨q0,b,(E6.old did (hDl did q0).1 (hDl did q0).2).2.trans q1,q2⟩
   have hdo:=specDo hdp hd hB ok3 hl6 hDX hDvX (fun j hj=>⟨(E6.old j (hDl j hj).1 (hDl j hj).2).1,fun hw=>by have:=wn3 j hw; have:=(hDl j hj).1; omega⟩)
   refine KW.callW hl6.w rfl rfl rfl rfl rfl hdo (fun v H9 S9 n9 st9 w9 hv9=>?_)
   obtain ⟨rfl,X9,d9,hl9,hd9,hx9,hw9⟩:=hv9
   have E9:=E6.w st9 (fun j hj=>.inr (wn3 j hj))
   have SB9:SrcB bs ac cc id Y S9 H9 (B+2+(ds.length+1)*20):=by
    have hidw:¬d3.W id:=fun hw=>by have:=wn3 id hw; omega
    obtain ⟨q,h1,h2⟩:=SB6.src
    exact SB6.w st9 (fun j hj hw=>by have h1:=wn3 j hw; have h2:j < H.n:=(SB0.y j hj).1; omega) ⟨q,by omega,h2.mv ((st9 id SB6.sid).2 hidw)⟩
   have hl9':Hl HTS [.pointer (some ⟨did,0,none⟩)] [] S9 H9 X9 d9 (doIt x c3 ((1:Int),(z6:Int),(0:Int))).1:=hl9.mv fun j hj=>by
    have h:d3.W j∨X3 j∨New _ H9.n j:=hj.elim (hl9.w j) (hl9.sx j)
    rcases h with h | h | h
    ·exact ⟨(st9 j (hl6.w j h)).1,rfl⟩
    ·exact ⟨(st9 j (hl6.sx j h)).1,rfl⟩
    ·exact ⟨w9 j h,rfl⟩
   obtain ⟨c9,ec9⟩:∃c9,(doIt x c3 ((1:Int),(z6:Int),(0:Int))).1=c9:=⟨_,rfl⟩
   have ok9:CerOk x c9:=by rw [← ec9]; exact ok3.doIt hd hdp
   rw [ec9] at hl9'
   have em:IntKind.i64.wrap ((m:Int) - 1)=((m - 1:Nat):Int):=by rw [wr (by omega) (by omega)]; omega
   obtain ⟨dsn,edsn⟩:∃dsn,ds++[((1:Int),(z6:Int),(0:Int))]=dsn:=⟨_,rfl⟩
   have ln:dsn.length=ds.length+1:=by rw [← edsn]; simp
   have cn:((dcells ds).drop 0).take (ds.length*3)++[Value.int .i64 ((1:Int)),.int .i64 ((z6:Int)),.int .i64 ((0:Int))]=dcells dsn:=by
    rw [← edsn,dcells_snoc,List.drop_zero,List.take_of_length_le (by rw [dcells_len]; exact Nat.le_refl _)]
   have dn:∀d∈dsn,DeedP d:=fun d hdm=>by
    rw [← edsn] at hdm
    exact (List.mem_append.1 hdm).elim (dp3 d) (fun h=>by rw [List.mem_singleton.1 h]; exact hdp)
   have inv9:∀o9,DdI bs ac cc id Y (B+2) x did d3.hid H ⟨m - 1,S9,H9,X9,d9,c9,dsn,o9⟩:=fun o9=>⟨hl9',hd9,ok9,by
     show SrcB bs ac cc id Y S9 H9 (B+2+dsn.length*20)
     rw [ln]; exact SB9,E9,fun j hj=>(hw9 j hj).elim (wn3 j) (fun h=>by have:=h.1; omega),fun j hj=>(hx9 j hj).elim (xn3 j) (fun h=>by have:=h.1; omega),by show dsn.length+(m - 1)≤36; omega,dn⟩
   refine KW.nxt rfl rfl (fun H' g=>⟨⟨m - 1,S9,H9,X9,d9,c9,dsn,_⟩,inv9 _,by simp only; omega,⟨rfl,rfl,by show _=Value.slice _ dsn.length dsn.length; rw [ln]; rfl,rfl,congrArg (Value.int .i64) em,trivial⟩,(g.take 1).eqT ?_⟩)
   exact congrArg (fun cs=>([(_,(⟨_,true,cs⟩:Blk))]:List Var)) cn
  ·refine KW.cF rfl rfl (by first | (simp; done) | decide) ?_
   refine KW.cF rfl rfl (by first | (simp; done) | decide) ?_
   refine KW.cF rfl rfl (by first | (simp; done) | decide) ?_
   refine KW.cF rfl rfl (by first | (simp; done) | decide) ?_
   refine KW.cF rfl rfl (by first | (simp; done) | decide) ?_
   have hdp:DeedP ((2:Int),(z6:Int),(0:Int)):=⟨by show 1≤(2:Int)∧(2:Int)≤9; decide,⟨by show 0≤(z6:Int); omega,by show (z6:Int)≤999; omega⟩,by show 0≤(0:Int)∧(0:Int)≤999; decide,.inl (by show 0 < cntD 2; decide),.inr rfl⟩
   refine KW.litS1 rfl rfl rfl rfl rfl rfl rfl rfl rfl rfl rfl rfl ?_
   refine KW.appTS (m:=1) (ys:=[.int .i64 ((2:Int)),.int .i64 ((z6:Int)),.int .i64 ((0:Int))]) 0 rfl rfl rfl rfl rfl rfl rfl rfl (by decide) rfl (fun H1 g=>acells_seg (g.blk (j:=2) rfl).1 (by show 0+1*3≤3; decide)) (by show 0+ds.length*3≤(dcells ds).length; rw [dcells_len]; omega) rfl (by decide) (by show (ds.length+1)*24≤_; omega) (by show ds.length+1≤_; omega) ?_
   refine KW.ids (fun hlow9 hvar9=>?_)
   have hnn9:=E6.nle hlow9
   have hDX:K_Deal.R D H6 x _:=K_Deal.same (fun j hj=>(E6.old j (hDl j hj).1 (hDl j hj).2).2) hD0
   have hDvX:Has3 D H6 did 0 [.int .i64 x.1.1,.slice a1 x.1.2.1.length c1,.int .i64 x.1.2.2.1,.int .i64 x.1.2.2.2.1,.slice a2 x.1.2.2.2.2.length c2,.int .i64 x.2.1,.slice a3 x.2.2.1.length c3',.slice a4 x.2.2.2.length c4]:=by
    obtain ⟨q0,b,q1,q2⟩:=hDv0
    exact ⟨q0,b,(E6.old did (hDl did q0).1 (hDl did q0).2).2.trans q1,q2⟩
   have hdo:=specDo hdp hd hB ok3 hl6 hDX hDvX (fun j hj=>⟨(E6.old j (hDl j hj).1 (hDl j hj).2).1,fun hw=>by have:=wn3 j hw; have:=(hDl j hj).1; omega⟩)
   refine KW.callW hl6.w rfl rfl rfl rfl rfl hdo (fun v H9 S9 n9 st9 w9 hv9=>?_)
   obtain ⟨rfl,X9,d9,hl9,hd9,hx9,hw9⟩:=hv9
   have E9:=E6.w st9 (fun j hj=>.inr (wn3 j hj))
   have SB9:SrcB bs ac cc id Y S9 H9 (B+2+(ds.length+1)*20):=by
    have hidw:¬d3.W id:=fun hw=>by have:=wn3 id hw; omega
    obtain ⟨q,h1,h2⟩:=SB6.src
    exact SB6.w st9 (fun j hj hw=>by have h1:=wn3 j hw; have h2:j < H.n:=(SB0.y j hj).1; omega) ⟨q,by omega,h2.mv ((st9 id SB6.sid).2 hidw)⟩
   have hl9':Hl HTS [.pointer (some ⟨did,0,none⟩)] [] S9 H9 X9 d9 (doIt x c3 ((2:Int),(z6:Int),(0:Int))).1:=hl9.mv fun j hj=>by
    have h:d3.W j∨X3 j∨New _ H9.n j:=hj.elim (hl9.w j) (hl9.sx j)
    rcases h with h | h | h
    ·exact ⟨(st9 j (hl6.w j h)).1,rfl⟩
    ·exact ⟨(st9 j (hl6.sx j h)).1,rfl⟩
    ·exact ⟨w9 j h,rfl⟩
   obtain ⟨c9,ec9⟩:∃c9,(doIt x c3 ((2:Int),(z6:Int),(0:Int))).1=c9:=⟨_,rfl⟩
   have ok9:CerOk x c9:=by rw [← ec9]; exact ok3.doIt hd hdp
   rw [ec9] at hl9'
   have em:IntKind.i64.wrap ((m:Int) - 1)=((m - 1:Nat):Int):=by rw [wr (by omega) (by omega)]; omega
   obtain ⟨dsn,edsn⟩:∃dsn,ds++[((2:Int),(z6:Int),(0:Int))]=dsn:=⟨_,rfl⟩
   have ln:dsn.length=ds.length+1:=by rw [← edsn]; simp
   have cn:((dcells ds).drop 0).take (ds.length*3)++[Value.int .i64 ((2:Int)),.int .i64 ((z6:Int)),.int .i64 ((0:Int))]=dcells dsn:=by
    rw [← edsn,dcells_snoc,List.drop_zero,List.take_of_length_le (by rw [dcells_len]; exact Nat.le_refl _)]
   have dn:∀d∈dsn,DeedP d:=fun d hdm=>by
    rw [← edsn] at hdm
    exact (List.mem_append.1 hdm).elim (dp3 d) (fun h=>by rw [List.mem_singleton.1 h]; exact hdp)
   have inv9:∀o9,DdI bs ac cc id Y (B+2) x did d3.hid H ⟨m - 1,S9,H9,X9,d9,c9,dsn,o9⟩:=fun o9=>⟨hl9',hd9,ok9,by
     show SrcB bs ac cc id Y S9 H9 (B+2+dsn.length*20)
     rw [ln]; exact SB9,E9,fun j hj=>(hw9 j hj).elim (wn3 j) (fun h=>by have:=h.1; omega),fun j hj=>(hx9 j hj).elim (xn3 j) (fun h=>by have:=h.1; omega),by show dsn.length+(m - 1)≤36; omega,dn⟩
   refine KW.nxt rfl rfl (fun H' g=>⟨⟨m - 1,S9,H9,X9,d9,c9,dsn,_⟩,inv9 _,by simp only; omega,⟨rfl,rfl,by show _=Value.slice _ dsn.length dsn.length; rw [ln]; rfl,rfl,congrArg (Value.int .i64) em,trivial⟩,(g.take 1).eqT ?_⟩)
   exact congrArg (fun cs=>([(_,(⟨_,true,cs⟩:Blk))]:List Var)) cn
  ·refine KW.cT rfl rfl (by first | (simp; done) | decide) ?_
   refine KW.cT rfl rfl (by first | (simp; done) | decide) ?_
   have hc6:=hl6.cellsH
   unfold HD.cells at hc6
   rw [ew] at hc6
   refine KW.ldF 7 hc6 rfl rfl rfl rfl rfl rfl rfl rfl rfl ?_
   refine KW.callWL (W:=fun i=>i=id) (fun i hi=>by subst hi; exact SB6.sid) rfl rfl rfl rfl rfl ⟨.inr ⟨d3.hid,_,_,rfl,hc6.1,hidne⟩,trivial⟩ (pickB (n:=12) SB6 (by omega) (by omega)) (fun v H7 S7 n7 st7 w7 hv7=>?_)
   obtain ⟨z7,hz7,rfl,src7⟩:=hv7
   have hz7:=hz7 (by omega)
   have SB7:=SB6.w1 st7 src7
   have E7:=E6.w st7 (fun i hi=>.inl hi)
   have et:IntKind.i64.wrap ((z7:Int).tdiv 11)=(z7:Int) / 11:=by rw [Int.tdiv_eq_ediv_of_nonneg (by omega),wr (by omega) (by omega)]
   have ez:IntKind.i64.wrap ((c3.wire.length:Int)+IntKind.i64.wrap ((z7:Int).tdiv 11))=(c3.wire.length:Int)+(z7:Int) / 11:=by rw [et,wr (by omega) (by omega)]
   refine KW.callW (W:=fun i=>i=id) (fun i hi=>by subst hi; exact SB7.sid) rfl rfl rfl rfl rfl (pickC (n:=IntKind.i64.wrap ((c3.wire.length:Int)+IntKind.i64.wrap ((z7:Int).tdiv 11))) SB7 (by omega) (by omega)) (fun v H8 S8 n8 st8 w8 hv8=>?_)
   obtain ⟨z8,hz8,rfl,src8⟩:=hv8
   have SB8:=SB7.w1 st8 src8
   have E8:=E7.w st8 (fun i hi=>.inl hi)
   have hl8:Hl HTS [.pointer (some ⟨did,0,none⟩)] [] S8 H8 X3 d3 c3:=hl6.mv fun j hj=>by
    have h7:=st7 j (hj.elim (hl6.w j) (hl6.sx j))
    have h8:=st8 j h7.1
    exact ⟨h8.1,(h8.2 (hWne j hj)).trans (h7.2 (hWne j hj))⟩
   have hdp:DeedP ((3:Int),(z8:Int),(0:Int)):=⟨by show 1≤(3:Int)∧(3:Int)≤9; decide,⟨by show 0≤(z8:Int); omega,by show (z8:Int)≤999; omega⟩,by show 0≤(0:Int)∧(0:Int)≤999; decide,.inl (by show 0 < cntD 3; decide),.inr rfl⟩
   refine KW.litS1 rfl rfl rfl rfl rfl rfl rfl rfl rfl rfl rfl rfl ?_
   refine KW.appTS (m:=1) (ys:=[.int .i64 ((3:Int)),.int .i64 ((z8:Int)),.int .i64 ((0:Int))]) 0 rfl rfl rfl rfl rfl rfl rfl rfl (by decide) rfl (fun H1 g=>acells_seg (g.blk (j:=2) rfl).1 (by show 0+1*3≤3; decide)) (by show 0+ds.length*3≤(dcells ds).length; rw [dcells_len]; omega) rfl (by decide) (by show (ds.length+1)*24≤_; omega) (by show ds.length+1≤_; omega) ?_
   refine KW.ids (fun hlow9 hvar9=>?_)
   have hnn9:=E8.nle hlow9
   have hDX:K_Deal.R D H8 x _:=K_Deal.same (fun j hj=>(E8.old j (hDl j hj).1 (hDl j hj).2).2) hD0
   have hDvX:Has3 D H8 did 0 [.int .i64 x.1.1,.slice a1 x.1.2.1.length c1,.int .i64 x.1.2.2.1,.int .i64 x.1.2.2.2.1,.slice a2 x.1.2.2.2.2.length c2,.int .i64 x.2.1,.slice a3 x.2.2.1.length c3',.slice a4 x.2.2.2.length c4]:=by
    obtain ⟨q0,b,q1,q2⟩:=hDv0
    exact ⟨q0,b,(E8.old did (hDl did q0).1 (hDl did q0).2).2.trans q1,q2⟩
   have hdo:=specDo hdp hd hB ok3 hl8 hDX hDvX (fun j hj=>⟨(E8.old j (hDl j hj).1 (hDl j hj).2).1,fun hw=>by have:=wn3 j hw; have:=(hDl j hj).1; omega⟩)
   refine KW.callW hl8.w rfl rfl rfl rfl rfl hdo (fun v H9 S9 n9 st9 w9 hv9=>?_)
   obtain ⟨rfl,X9,d9,hl9,hd9,hx9,hw9⟩:=hv9
   have E9:=E8.w st9 (fun j hj=>.inr (wn3 j hj))
   have SB9:SrcB bs ac cc id Y S9 H9 (B+2+(ds.length+1)*20):=by
    have hidw:¬d3.W id:=fun hw=>by have:=wn3 id hw; omega
    obtain ⟨q,h1,h2⟩:=SB8.src
    exact SB8.w st9 (fun j hj hw=>by have h1:=wn3 j hw; have h2:j < H.n:=(SB0.y j hj).1; omega) ⟨q,by omega,h2.mv ((st9 id SB8.sid).2 hidw)⟩
   have hl9':Hl HTS [.pointer (some ⟨did,0,none⟩)] [] S9 H9 X9 d9 (doIt x c3 ((3:Int),(z8:Int),(0:Int))).1:=hl9.mv fun j hj=>by
    have h:d3.W j∨X3 j∨New _ H9.n j:=hj.elim (hl9.w j) (hl9.sx j)
    rcases h with h | h | h
    ·exact ⟨(st9 j (hl8.w j h)).1,rfl⟩
    ·exact ⟨(st9 j (hl8.sx j h)).1,rfl⟩
    ·exact ⟨w9 j h,rfl⟩
   obtain ⟨c9,ec9⟩:∃c9,(doIt x c3 ((3:Int),(z8:Int),(0:Int))).1=c9:=⟨_,rfl⟩
   have ok9:CerOk x c9:=by rw [← ec9]; exact ok3.doIt hd hdp
   rw [ec9] at hl9'
   have em:IntKind.i64.wrap ((m:Int) - 1)=((m - 1:Nat):Int):=by rw [wr (by omega) (by omega)]; omega
   obtain ⟨dsn,edsn⟩:∃dsn,ds++[((3:Int),(z8:Int),(0:Int))]=dsn:=⟨_,rfl⟩
   have ln:dsn.length=ds.length+1:=by rw [← edsn]; simp
   have cn:((dcells ds).drop 0).take (ds.length*3)++[Value.int .i64 ((3:Int)),.int .i64 ((z8:Int)),.int .i64 ((0:Int))]=dcells dsn:=by
    rw [← edsn,dcells_snoc,List.drop_zero,List.take_of_length_le (by rw [dcells_len]; exact Nat.le_refl _)]
   have dn:∀d∈dsn,DeedP d:=fun d hdm=>by
    rw [← edsn] at hdm
    exact (List.mem_append.1 hdm).elim (dp3 d) (fun h=>by rw [List.mem_singleton.1 h]; exact hdp)
   have inv9:∀o9,DdI bs ac cc id Y (B+2) x did d3.hid H ⟨m - 1,S9,H9,X9,d9,c9,dsn,o9⟩:=fun o9=>⟨hl9',hd9,ok9,by
     show SrcB bs ac cc id Y S9 H9 (B+2+dsn.length*20)
     rw [ln]; exact SB9,E9,fun j hj=>(hw9 j hj).elim (wn3 j) (fun h=>by have:=h.1; omega),fun j hj=>(hx9 j hj).elim (xn3 j) (fun h=>by have:=h.1; omega),by show dsn.length+(m - 1)≤36; omega,dn⟩
   refine KW.nxt rfl rfl (fun H' g=>⟨⟨m - 1,S9,H9,X9,d9,c9,dsn,_⟩,inv9 _,by simp only; omega,⟨rfl,rfl,by show _=Value.slice _ dsn.length dsn.length; rw [ln]; rfl,rfl,congrArg (Value.int .i64) em,trivial⟩,(g.take 1).eqT ?_⟩)
   exact congrArg (fun cs=>([(_,(⟨_,true,cs⟩:Blk))]:List Var)) cn
  ·refine KW.cF rfl rfl (by first | (simp; done) | decide) ?_
   refine KW.cT rfl rfl (by first | (simp; done) | decide) ?_
   refine KW.cT rfl rfl (by first | (simp; done) | decide) ?_
   have hc6:=hl6.cellsH
   unfold HD.cells at hc6
   rw [ew] at hc6
   refine KW.ldF 7 hc6 rfl rfl rfl rfl rfl rfl rfl rfl rfl ?_
   refine KW.callWL (W:=fun i=>i=id) (fun i hi=>by subst hi; exact SB6.sid) rfl rfl rfl rfl rfl ⟨.inr ⟨d3.hid,_,_,rfl,hc6.1,hidne⟩,trivial⟩ (pickB (n:=12) SB6 (by omega) (by omega)) (fun v H7 S7 n7 st7 w7 hv7=>?_)
   obtain ⟨z7,hz7,rfl,src7⟩:=hv7
   have hz7:=hz7 (by omega)
   have SB7:=SB6.w1 st7 src7
   have E7:=E6.w st7 (fun i hi=>.inl hi)
   have et:IntKind.i64.wrap ((z7:Int).tdiv 11)=(z7:Int) / 11:=by rw [Int.tdiv_eq_ediv_of_nonneg (by omega),wr (by omega) (by omega)]
   have ez:IntKind.i64.wrap ((c3.wire.length:Int)+IntKind.i64.wrap ((z7:Int).tdiv 11))=(c3.wire.length:Int)+(z7:Int) / 11:=by rw [et,wr (by omega) (by omega)]
   refine KW.callW (W:=fun i=>i=id) (fun i hi=>by subst hi; exact SB7.sid) rfl rfl rfl rfl rfl (pickC (n:=IntKind.i64.wrap ((c3.wire.length:Int)+IntKind.i64.wrap ((z7:Int).tdiv 11))) SB7 (by omega) (by omega)) (fun v H8 S8 n8 st8 w8 hv8=>?_)
   obtain ⟨z8,hz8,rfl,src8⟩:=hv8
   have SB8:=SB7.w1 st8 src8
   have E8:=E7.w st8 (fun i hi=>.inl hi)
   have hl8:Hl HTS [.pointer (some ⟨did,0,none⟩)] [] S8 H8 X3 d3 c3:=hl6.mv fun j hj=>by
    have h7:=st7 j (hj.elim (hl6.w j) (hl6.sx j))
    have h8:=st8 j h7.1
    exact ⟨h8.1,(h8.2 (hWne j hj)).trans (h7.2 (hWne j hj))⟩
   have hdp:DeedP ((4:Int),(z8:Int),(0:Int)):=⟨by show 1≤(4:Int)∧(4:Int)≤9; decide,⟨by show 0≤(z8:Int); omega,by show (z8:Int)≤999; omega⟩,by show 0≤(0:Int)∧(0:Int)≤999; decide,.inl (by show 0 < cntD 4; decide),.inr rfl⟩
   refine KW.litS1 rfl rfl rfl rfl rfl rfl rfl rfl rfl rfl rfl rfl ?_
   refine KW.appTS (m:=1) (ys:=[.int .i64 ((4:Int)),.int .i64 ((z8:Int)),.int .i64 ((0:Int))]) 0 rfl rfl rfl rfl rfl rfl rfl rfl (by decide) rfl (fun H1 g=>acells_seg (g.blk (j:=2) rfl).1 (by show 0+1*3≤3; decide)) (by show 0+ds.length*3≤(dcells ds).length; rw [dcells_len]; omega) rfl (by decide) (by show (ds.length+1)*24≤_; omega) (by show ds.length+1≤_; omega) ?_
   refine KW.ids (fun hlow9 hvar9=>?_)
   have hnn9:=E8.nle hlow9
   have hDX:K_Deal.R D H8 x _:=K_Deal.same (fun j hj=>(E8.old j (hDl j hj).1 (hDl j hj).2).2) hD0
   have hDvX:Has3 D H8 did 0 [.int .i64 x.1.1,.slice a1 x.1.2.1.length c1,.int .i64 x.1.2.2.1,.int .i64 x.1.2.2.2.1,.slice a2 x.1.2.2.2.2.length c2,.int .i64 x.2.1,.slice a3 x.2.2.1.length c3',.slice a4 x.2.2.2.length c4]:=by
    obtain ⟨q0,b,q1,q2⟩:=hDv0
    exact ⟨q0,b,(E8.old did (hDl did q0).1 (hDl did q0).2).2.trans q1,q2⟩
   have hdo:=specDo hdp hd hB ok3 hl8 hDX hDvX (fun j hj=>⟨(E8.old j (hDl j hj).1 (hDl j hj).2).1,fun hw=>by have:=wn3 j hw; have:=(hDl j hj).1; omega⟩)
   refine KW.callW hl8.w rfl rfl rfl rfl rfl hdo (fun v H9 S9 n9 st9 w9 hv9=>?_)
   obtain ⟨rfl,X9,d9,hl9,hd9,hx9,hw9⟩:=hv9
   have E9:=E8.w st9 (fun j hj=>.inr (wn3 j hj))
   have SB9:SrcB bs ac cc id Y S9 H9 (B+2+(ds.length+1)*20):=by
    have hidw:¬d3.W id:=fun hw=>by have:=wn3 id hw; omega
    obtain ⟨q,h1,h2⟩:=SB8.src
    exact SB8.w st9 (fun j hj hw=>by have h1:=wn3 j hw; have h2:j < H.n:=(SB0.y j hj).1; omega) ⟨q,by omega,h2.mv ((st9 id SB8.sid).2 hidw)⟩
   have hl9':Hl HTS [.pointer (some ⟨did,0,none⟩)] [] S9 H9 X9 d9 (doIt x c3 ((4:Int),(z8:Int),(0:Int))).1:=hl9.mv fun j hj=>by
    have h:d3.W j∨X3 j∨New _ H9.n j:=hj.elim (hl9.w j) (hl9.sx j)
    rcases h with h | h | h
    ·exact ⟨(st9 j (hl8.w j h)).1,rfl⟩
    ·exact ⟨(st9 j (hl8.sx j h)).1,rfl⟩
    ·exact ⟨w9 j h,rfl⟩
   obtain ⟨c9,ec9⟩:∃c9,(doIt x c3 ((4:Int),(z8:Int),(0:Int))).1=c9:=⟨_,rfl⟩
   have ok9:CerOk x c9:=by rw [← ec9]; exact ok3.doIt hd hdp
   rw [ec9] at hl9'
   have em:IntKind.i64.wrap ((m:Int) - 1)=((m - 1:Nat):Int):=by rw [wr (by omega) (by omega)]; omega
   obtain ⟨dsn,edsn⟩:∃dsn,ds++[((4:Int),(z8:Int),(0:Int))]=dsn:=⟨_,rfl⟩
   have ln:dsn.length=ds.length+1:=by rw [← edsn]; simp
   have cn:((dcells ds).drop 0).take (ds.length*3)++[Value.int .i64 ((4:Int)),.int .i64 ((z8:Int)),.int .i64 ((0:Int))]=dcells dsn:=by
    rw [← edsn,dcells_snoc,List.drop_zero,List.take_of_length_le (by rw [dcells_len]; exact Nat.le_refl _)]
   have dn:∀d∈dsn,DeedP d:=fun d hdm=>by
    rw [← edsn] at hdm
    exact (List.mem_append.1 hdm).elim (dp3 d) (fun h=>by rw [List.mem_singleton.1 h]; exact hdp)
   have inv9:∀o9,DdI bs ac cc id Y (B+2) x did d3.hid H ⟨m - 1,S9,H9,X9,d9,c9,dsn,o9⟩:=fun o9=>⟨hl9',hd9,ok9,by
     show SrcB bs ac cc id Y S9 H9 (B+2+dsn.length*20)
     rw [ln]; exact SB9,E9,fun j hj=>(hw9 j hj).elim (wn3 j) (fun h=>by have:=h.1; omega),fun j hj=>(hx9 j hj).elim (xn3 j) (fun h=>by have:=h.1; omega),by show dsn.length+(m - 1)≤36; omega,dn⟩
   refine KW.nxt rfl rfl (fun H' g=>⟨⟨m - 1,S9,H9,X9,d9,c9,dsn,_⟩,inv9 _,by simp only; omega,⟨rfl,rfl,by show _=Value.slice _ dsn.length dsn.length; rw [ln]; rfl,rfl,congrArg (Value.int .i64) em,trivial⟩,(g.take 1).eqT ?_⟩)
   exact congrArg (fun cs=>([(_,(⟨_,true,cs⟩:Blk))]:List Var)) cn
  ·refine KW.cF rfl rfl (by first | (simp; done) | decide) ?_
   refine KW.cF rfl rfl (by first | (simp; done) | decide) ?_
   refine KW.cT rfl rfl (by first | (simp; done) | decide) ?_
   have hc6:=hl6.cellsH
   unfold HD.cells at hc6
   rw [ew] at hc6
   refine KW.ldF 7 hc6 rfl rfl rfl rfl rfl rfl rfl rfl rfl ?_
   refine KW.callWL (W:=fun i=>i=id) (fun i hi=>by subst hi; exact SB6.sid) rfl rfl rfl rfl rfl ⟨.inr ⟨d3.hid,_,_,rfl,hc6.1,hidne⟩,trivial⟩ (pickB (n:=12) SB6 (by omega) (by omega)) (fun v H7 S7 n7 st7 w7 hv7=>?_)
   obtain ⟨z7,hz7,rfl,src7⟩:=hv7
   have hz7:=hz7 (by omega)
   have SB7:=SB6.w1 st7 src7
   have E7:=E6.w st7 (fun i hi=>.inl hi)
   have et:IntKind.i64.wrap ((z7:Int).tdiv 11)=(z7:Int) / 11:=by rw [Int.tdiv_eq_ediv_of_nonneg (by omega),wr (by omega) (by omega)]
   have ez:IntKind.i64.wrap ((c3.wire.length:Int)+IntKind.i64.wrap ((z7:Int).tdiv 11))=(c3.wire.length:Int)+(z7:Int) / 11:=by rw [et,wr (by omega) (by omega)]
   refine KW.callW (W:=fun i=>i=id) (fun i hi=>by subst hi; exact SB7.sid) rfl rfl rfl rfl rfl (pickC (n:=IntKind.i64.wrap ((c3.wire.length:Int)+IntKind.i64.wrap ((z7:Int).tdiv 11))) SB7 (by omega) (by omega)) (fun v H8 S8 n8 st8 w8 hv8=>?_)
   obtain ⟨z8,hz8,rfl,src8⟩:=hv8
   have SB8:=SB7.w1 st8 src8
   have E8:=E7.w st8 (fun i hi=>.inl hi)
   have hl8:Hl HTS [.pointer (some ⟨did,0,none⟩)] [] S8 H8 X3 d3 c3:=hl6.mv fun j hj=>by
    have h7:=st7 j (hj.elim (hl6.w j) (hl6.sx j))
    have h8:=st8 j h7.1
    exact ⟨h8.1,(h8.2 (hWne j hj)).trans (h7.2 (hWne j hj))⟩
   have hdp:DeedP ((5:Int),(z8:Int),(0:Int)):=⟨by show 1≤(5:Int)∧(5:Int)≤9; decide,⟨by show 0≤(z8:Int); omega,by show (z8:Int)≤999; omega⟩,by show 0≤(0:Int)∧(0:Int)≤999; decide,.inl (by show 0 < cntD 5; decide),.inr rfl⟩
   refine KW.litS1 rfl rfl rfl rfl rfl rfl rfl rfl rfl rfl rfl rfl ?_
   refine KW.appTS (m:=1) (ys:=[.int .i64 ((5:Int)),.int .i64 ((z8:Int)),.int .i64 ((0:Int))]) 0 rfl rfl rfl rfl rfl rfl rfl rfl (by decide) rfl (fun H1 g=>acells_seg (g.blk (j:=2) rfl).1 (by show 0+1*3≤3; decide)) (by show 0+ds.length*3≤(dcells ds).length; rw [dcells_len]; omega) rfl (by decide) (by show (ds.length+1)*24≤_; omega) (by show ds.length+1≤_; omega) ?_
   refine KW.ids (fun hlow9 hvar9=>?_)
   have hnn9:=E8.nle hlow9
   have hDX:K_Deal.R D H8 x _:=K_Deal.same (fun j hj=>(E8.old j (hDl j hj).1 (hDl j hj).2).2) hD0
   have hDvX:Has3 D H8 did 0 [.int .i64 x.1.1,.slice a1 x.1.2.1.length c1,.int .i64 x.1.2.2.1,.int .i64 x.1.2.2.2.1,.slice a2 x.1.2.2.2.2.length c2,.int .i64 x.2.1,.slice a3 x.2.2.1.length c3',.slice a4 x.2.2.2.length c4]:=by
    obtain ⟨q0,b,q1,q2⟩:=hDv0
    exact ⟨q0,b,(E8.old did (hDl did q0).1 (hDl did q0).2).2.trans q1,q2⟩
   have hdo:=specDo hdp hd hB ok3 hl8 hDX hDvX (fun j hj=>⟨(E8.old j (hDl j hj).1 (hDl j hj).2).1,fun hw=>by have:=wn3 j hw; have:=(hDl j hj).1; omega⟩)
   refine KW.callW hl8.w rfl rfl rfl rfl rfl hdo (fun v H9 S9 n9 st9 w9 hv9=>?_)
   obtain ⟨rfl,X9,d9,hl9,hd9,hx9,hw9⟩:=hv9
   have E9:=E8.w st9 (fun j hj=>.inr (wn3 j hj))
   have SB9:SrcB bs ac cc id Y S9 H9 (B+2+(ds.length+1)*20):=by
    have hidw:¬d3.W id:=fun hw=>by have:=wn3 id hw; omega
    obtain ⟨q,h1,h2⟩:=SB8.src
    exact SB8.w st9 (fun j hj hw=>by have h1:=wn3 j hw; have h2:j < H.n:=(SB0.y j hj).1; omega) ⟨q,by omega,h2.mv ((st9 id SB8.sid).2 hidw)⟩
   have hl9':Hl HTS [.pointer (some ⟨did,0,none⟩)] [] S9 H9 X9 d9 (doIt x c3 ((5:Int),(z8:Int),(0:Int))).1:=hl9.mv fun j hj=>by
    have h:d3.W j∨X3 j∨New _ H9.n j:=hj.elim (hl9.w j) (hl9.sx j)
    rcases h with h | h | h
    ·exact ⟨(st9 j (hl8.w j h)).1,rfl⟩
    ·exact ⟨(st9 j (hl8.sx j h)).1,rfl⟩
    ·exact ⟨w9 j h,rfl⟩
   obtain ⟨c9,ec9⟩:∃c9,(doIt x c3 ((5:Int),(z8:Int),(0:Int))).1=c9:=⟨_,rfl⟩
   have ok9:CerOk x c9:=by rw [← ec9]; exact ok3.doIt hd hdp
   rw [ec9] at hl9'
   have em:IntKind.i64.wrap ((m:Int) - 1)=((m - 1:Nat):Int):=by rw [wr (by omega) (by omega)]; omega
   obtain ⟨dsn,edsn⟩:∃dsn,ds++[((5:Int),(z8:Int),(0:Int))]=dsn:=⟨_,rfl⟩
   have ln:dsn.length=ds.length+1:=by rw [← edsn]; simp
   have cn:((dcells ds).drop 0).take (ds.length*3)++[Value.int .i64 ((5:Int)),.int .i64 ((z8:Int)),.int .i64 ((0:Int))]=dcells dsn:=by
    rw [← edsn,dcells_snoc,List.drop_zero,List.take_of_length_le (by rw [dcells_len]; exact Nat.le_refl _)]
   have dn:∀d∈dsn,DeedP d:=fun d hdm=>by
    rw [← edsn] at hdm
    exact (List.mem_append.1 hdm).elim (dp3 d) (fun h=>by rw [List.mem_singleton.1 h]; exact hdp)
   have inv9:∀o9,DdI bs ac cc id Y (B+2) x did d3.hid H ⟨m - 1,S9,H9,X9,d9,c9,dsn,o9⟩:=fun o9=>⟨hl9',hd9,ok9,by
     show SrcB bs ac cc id Y S9 H9 (B+2+dsn.length*20)
     rw [ln]; exact SB9,E9,fun j hj=>(hw9 j hj).elim (wn3 j) (fun h=>by have:=h.1; omega),fun j hj=>(hx9 j hj).elim (xn3 j) (fun h=>by have:=h.1; omega),by show dsn.length+(m - 1)≤36; omega,dn⟩
   refine KW.nxt rfl rfl (fun H' g=>⟨⟨m - 1,S9,H9,X9,d9,c9,dsn,_⟩,inv9 _,by simp only; omega,⟨rfl,rfl,by show _=Value.slice _ dsn.length dsn.length; rw [ln]; rfl,rfl,congrArg (Value.int .i64) em,trivial⟩,(g.take 1).eqT ?_⟩)
   exact congrArg (fun cs=>([(_,(⟨_,true,cs⟩:Blk))]:List Var)) cn
  ·refine KW.cF rfl rfl (by first | (simp; done) | decide) ?_
   refine KW.cF rfl rfl (by first | (simp; done) | decide) ?_
   refine KW.cF rfl rfl (by first | (simp; done) | decide) ?_
   refine KW.cT rfl rfl (by first | (simp; done) | decide) ?_
   refine KW.ldF 2 hDv6 rfl rfl rfl rfl rfl rfl rfl rfl rfl ?_
   refine KW.callWL (W:=fun i=>i=id) (fun i hi=>by subst hi; exact SB6.sid) rfl rfl rfl rfl rfl ⟨.inr ⟨did,_,_,rfl,(E6.old did (hDl did hDv0.1).1 (hDl did hDv0.1).2).1,(hDl did hDv0.1).2⟩,trivial⟩ (pickB (n:=8) SB6 (by omega) (by omega)) (fun v H7 S7 n7 st7 w7 hv7=>?_)
   obtain ⟨z7,hz7,rfl,src7⟩:=hv7
   have hz7:=hz7 (by omega)
   have SB7:=SB6.w1 st7 src7
   have E7:=E6.w st7 (fun i hi=>.inl hi)
   have et:IntKind.i64.wrap ((z7:Int).tdiv 7)=(z7:Int) / 7:=by rw [Int.tdiv_eq_ediv_of_nonneg (by omega),wr (by omega) (by omega)]
   have ez:IntKind.i64.wrap (x.1.2.2.1+IntKind.i64.wrap ((z7:Int).tdiv 7))=x.1.2.2.1+(z7:Int) / 7:=by rw [et,wr (by omega) (by omega)]
   refine KW.callW (W:=fun i=>i=id) (fun i hi=>by subst hi; exact SB7.sid) rfl rfl rfl rfl rfl (pickB (n:=IntKind.i64.wrap (x.1.2.2.1+IntKind.i64.wrap ((z7:Int).tdiv 7))) SB7 (by omega) (by omega)) (fun v H8 S8 n8 st8 w8 hv8=>?_)
   obtain ⟨z8,hz8,rfl,src8⟩:=hv8
   have hz8:=hz8 (by omega)
   have SB8:=SB7.w1 st8 src8
   have E8:=E7.w st8 (fun i hi=>.inl hi)
   refine KW.callW (W:=fun i=>i=id) (fun i hi=>by subst hi; exact SB8.sid) rfl rfl rfl rfl rfl (oneB (n:=2) SB8 (by omega) (by omega)) (fun v Ha Sa na sta wa hva=>?_)
   obtain ⟨ba,rfl,srca⟩:=hva
   have SBa:=SB8.w1 sta srca
   have Ea:=E8.w sta (fun i hi=>.inl hi)
   have hla:Hl HTS [.pointer (some ⟨did,0,none⟩)] [] Sa Ha X3 d3 c3:=hl6.mv fun j hj=>by
    have h7:=st7 j (hj.elim (hl6.w j) (hl6.sx j))
    have h8:=st8 j h7.1
    have h9:=sta j h8.1
    exact ⟨h9.1,(h9.2 (hWne j hj)).trans ((h8.2 (hWne j hj)).trans (h7.2 (hWne j hj)))⟩
   refine KW.cndB rfl rfl (fun kb=>?_) (fun kb=>?_)
   ·refine KW.build rfl rfl rfl rfl rfl (built_DeedKA _ _) ?_
    have hdp:DeedP ((7:Int),(z6:Int),(0:Int)):=⟨by show 1≤(7:Int)∧(7:Int)≤9; decide,⟨by show 0≤(z6:Int); omega,by show (z6:Int)≤999; omega⟩,by show 0≤(0:Int)∧(0:Int)≤999; decide,.inl (by show 0 < cntD 7; decide),.inr rfl⟩
    refine KW.litS1 rfl rfl rfl rfl rfl rfl rfl rfl rfl rfl rfl rfl ?_
    refine KW.appTS (m:=1) (ys:=[.int .i64 ((7:Int)),.int .i64 ((z6:Int)),.int .i64 ((0:Int))]) 0 rfl rfl rfl rfl rfl rfl rfl rfl (by decide) rfl (fun H1 g=>acells_seg (g.blk (j:=2) rfl).1 (by show 0+1*3≤3; decide)) (by show 0+ds.length*3≤(dcells ds).length; rw [dcells_len]; omega) rfl (by decide) (by show (ds.length+1)*24≤_; omega) (by show ds.length+1≤_; omega) ?_
    refine KW.ids (fun hlow9 hvar9=>?_)
    have hnn9:=Ea.nle hlow9
    have hDX:K_Deal.R D Ha x _:=K_Deal.same (fun j hj=>(Ea.old j (hDl j hj).1 (hDl j hj).2).2) hD0
    have hDvX:Has3 D Ha did 0 [.int .i64 x.1.1,.slice a1 x.1.2.1.length c1,.int .i64 x.1.2.2.1,.int .i64 x.1.2.2.2.1,.slice a2 x.1.2.2.2.2.length c2,.int .i64 x.2.1,.slice a3 x.2.2.1.length c3',.slice a4 x.2.2.2.length c4]:=by
     obtain ⟨q0,b,q1,q2⟩:=hDv0
     exact ⟨q0,b,(Ea.old did (hDl did q0).1 (hDl did q0).2).2.trans q1,q2⟩
    have hdo:=specDo hdp hd hB ok3 hla hDX hDvX (fun j hj=>⟨(Ea.old j (hDl j hj).1 (hDl j hj).2).1,fun hw=>by have:=wn3 j hw; have:=(hDl j hj).1; omega⟩)
    refine KW.callW hla.w rfl rfl rfl rfl rfl hdo (fun v H9 S9 n9 st9 w9 hv9=>?_)
    obtain ⟨rfl,X9,d9,hl9,hd9,hx9,hw9⟩:=hv9
    have E9:=Ea.w st9 (fun j hj=>.inr (wn3 j hj))
    have SB9:SrcB bs ac cc id Y S9 H9 (B+2+(ds.length+1)*20):=by
     have hidw:¬d3.W id:=fun hw=>by have:=wn3 id hw; omega
     obtain ⟨q,h1,h2⟩:=SBa.src
     exact SBa.w st9 (fun j hj hw=>by have h1:=wn3 j hw; have h2:j < H.n:=(SB0.y j hj).1; omega) ⟨q,by omega,h2.mv ((st9 id SBa.sid).2 hidw)⟩
    have hl9':Hl HTS [.pointer (some ⟨did,0,none⟩)] [] S9 H9 X9 d9 (doIt x c3 ((7:Int),(z6:Int),(0:Int))).1:=hl9.mv fun j hj=>by
     have h:d3.W j∨X3 j∨New _ H9.n j:=hj.elim (hl9.w j) (hl9.sx j)
     rcases h with h | h | h
     ·exact ⟨(st9 j (hla.w j h)).1,rfl⟩
     ·exact ⟨(st9 j (hla.sx j h)).1,rfl⟩
     ·exact ⟨w9 j h,rfl⟩
    obtain ⟨c9,ec9⟩:∃c9,(doIt x c3 ((7:Int),(z6:Int),(0:Int))).1=c9:=⟨_,rfl⟩
    have ok9:CerOk x c9:=by rw [← ec9]; exact ok3.doIt hd hdp
    rw [ec9] at hl9'
    have em:IntKind.i64.wrap ((m:Int) - 1)=((m - 1:Nat):Int):=by rw [wr (by omega) (by omega)]; omega
    obtain ⟨dsn,edsn⟩:∃dsn,ds++[((7:Int),(z6:Int),(0:Int))]=dsn:=⟨_,rfl⟩
    have ln:dsn.length=ds.length+1:=by rw [← edsn]; simp
    have cn:((dcells ds).drop 0).take (ds.length*3)++[Value.int .i64 ((7:Int)),.int .i64 ((z6:Int)),.int .i64 ((0:Int))]=dcells dsn:=by
     rw [← edsn,dcells_snoc,List.drop_zero,List.take_of_length_le (by rw [dcells_len]; exact Nat.le_refl _)]
    have dn:∀d∈dsn,DeedP d:=fun d hdm=>by
     rw [← edsn] at hdm
     exact (List.mem_append.1 hdm).elim (dp3 d) (fun h=>by rw [List.mem_singleton.1 h]; exact hdp)
    have inv9:∀o9,DdI bs ac cc id Y (B+2) x did d3.hid H ⟨m - 1,S9,H9,X9,d9,c9,dsn,o9⟩:=fun o9=>⟨hl9',hd9,ok9,by
      show SrcB bs ac cc id Y S9 H9 (B+2+dsn.length*20)
      rw [ln]; exact SB9,E9,fun j hj=>(hw9 j hj).elim (wn3 j) (fun h=>by have:=h.1; omega),fun j hj=>(hx9 j hj).elim (xn3 j) (fun h=>by have:=h.1; omega),by show dsn.length+(m - 1)≤36; omega,dn⟩
    refine KW.nxt rfl rfl (fun H' g=>⟨⟨m - 1,S9,H9,X9,d9,c9,dsn,_⟩,inv9 _,by simp only; omega,⟨rfl,rfl,by show _=Value.slice _ dsn.length dsn.length; rw [ln]; rfl,rfl,congrArg (Value.int .i64) em,trivial⟩,(g.take 1).eqT ?_⟩)
    exact congrArg (fun cs=>([(_,(⟨_,true,cs⟩:Blk))]:List Var)) cn
   ·have hdp:DeedP ((6:Int),(z6:Int),(z8:Int)):=⟨by show 1≤(6:Int)∧(6:Int)≤9; decide,⟨by show 0≤(z6:Int); omega,by show (z6:Int)≤999; omega⟩,⟨by show 0≤(z8:Int); omega,by show (z8:Int)≤999; omega⟩,.inl (by show 0 < cntD 6; decide),.inl (by show 1 < cntD 6; decide)⟩
    refine KW.litS1 rfl rfl rfl rfl rfl rfl rfl rfl rfl rfl rfl rfl ?_
    refine KW.appTS (m:=1) (ys:=[.int .i64 ((6:Int)),.int .i64 ((z6:Int)),.int .i64 ((z8:Int))]) 0 rfl rfl rfl rfl rfl rfl rfl rfl (by decide) rfl (fun H1 g=>acells_seg (g.blk (j:=2) rfl).1 (by show 0+1*3≤3; decide)) (by show 0+ds.length*3≤(dcells ds).length; rw [dcells_len]; omega) rfl (by decide) (by show (ds.length+1)*24≤_; omega) (by show ds.length+1≤_; omega) ?_
    refine KW.ids (fun hlow9 hvar9=>?_)
    have hnn9:=Ea.nle hlow9
    have hDX:K_Deal.R D Ha x _:=K_Deal.same (fun j hj=>(Ea.old j (hDl j hj).1 (hDl j hj).2).2) hD0
    have hDvX:Has3 D Ha did 0 [.int .i64 x.1.1,.slice a1 x.1.2.1.length c1,.int .i64 x.1.2.2.1,.int .i64 x.1.2.2.2.1,.slice a2 x.1.2.2.2.2.length c2,.int .i64 x.2.1,.slice a3 x.2.2.1.length c3',.slice a4 x.2.2.2.length c4]:=by
     obtain ⟨q0,b,q1,q2⟩:=hDv0
     exact ⟨q0,b,(Ea.old did (hDl did q0).1 (hDl did q0).2).2.trans q1,q2⟩
    have hdo:=specDo hdp hd hB ok3 hla hDX hDvX (fun j hj=>⟨(Ea.old j (hDl j hj).1 (hDl j hj).2).1,fun hw=>by have:=wn3 j hw; have:=(hDl j hj).1; omega⟩)
    refine KW.callW hla.w rfl rfl rfl rfl rfl hdo (fun v H9 S9 n9 st9 w9 hv9=>?_)
    obtain ⟨rfl,X9,d9,hl9,hd9,hx9,hw9⟩:=hv9
    have E9:=Ea.w st9 (fun j hj=>.inr (wn3 j hj))
    have SB9:SrcB bs ac cc id Y S9 H9 (B+2+(ds.length+1)*20):=by
     have hidw:¬d3.W id:=fun hw=>by have:=wn3 id hw; omega
     obtain ⟨q,h1,h2⟩:=SBa.src
     exact SBa.w st9 (fun j hj hw=>by have h1:=wn3 j hw; have h2:j < H.n:=(SB0.y j hj).1; omega) ⟨q,by omega,h2.mv ((st9 id SBa.sid).2 hidw)⟩
    have hl9':Hl HTS [.pointer (some ⟨did,0,none⟩)] [] S9 H9 X9 d9 (doIt x c3 ((6:Int),(z6:Int),(z8:Int))).1:=hl9.mv fun j hj=>by
     have h:d3.W j∨X3 j∨New _ H9.n j:=hj.elim (hl9.w j) (hl9.sx j)
     rcases h with h | h | h
     ·exact ⟨(st9 j (hla.w j h)).1,rfl⟩
     ·exact ⟨(st9 j (hla.sx j h)).1,rfl⟩
     ·exact ⟨w9 j h,rfl⟩
    obtain ⟨c9,ec9⟩:∃c9,(doIt x c3 ((6:Int),(z6:Int),(z8:Int))).1=c9:=⟨_,rfl⟩
    have ok9:CerOk x c9:=by rw [← ec9]; exact ok3.doIt hd hdp
    rw [ec9] at hl9'
    have em:IntKind.i64.wrap ((m:Int) - 1)=((m - 1:Nat):Int):=by rw [wr (by omega) (by omega)]; omega
    obtain ⟨dsn,edsn⟩:∃dsn,ds++[((6:Int),(z6:Int),(z8:Int))]=dsn:=⟨_,rfl⟩
    have ln:dsn.length=ds.length+1:=by rw [← edsn]; simp
    have cn:((dcells ds).drop 0).take (ds.length*3)++[Value.int .i64 ((6:Int)),.int .i64 ((z6:Int)),.int .i64 ((z8:Int))]=dcells dsn:=by
     rw [← edsn,dcells_snoc,List.drop_zero,List.take_of_length_le (by rw [dcells_len]; exact Nat.le_refl _)]
    have dn:∀d∈dsn,DeedP d:=fun d hdm=>by
     rw [← edsn] at hdm
     exact (List.mem_append.1 hdm).elim (dp3 d) (fun h=>by rw [List.mem_singleton.1 h]; exact hdp)
    have inv9:∀o9,DdI bs ac cc id Y (B+2) x did d3.hid H ⟨m - 1,S9,H9,X9,d9,c9,dsn,o9⟩:=fun o9=>⟨hl9',hd9,ok9,by
      show SrcB bs ac cc id Y S9 H9 (B+2+dsn.length*20)
      rw [ln]; exact SB9,E9,fun j hj=>(hw9 j hj).elim (wn3 j) (fun h=>by have:=h.1; omega),fun j hj=>(hx9 j hj).elim (xn3 j) (fun h=>by have:=h.1; omega),by show dsn.length+(m - 1)≤36; omega,dn⟩
    refine KW.nxt rfl rfl (fun H' g=>⟨⟨m - 1,S9,H9,X9,d9,c9,dsn,_⟩,inv9 _,by simp only; omega,⟨rfl,rfl,by show _=Value.slice _ dsn.length dsn.length; rw [ln]; rfl,rfl,congrArg (Value.int .i64) em,trivial⟩,(g.take 1).eqT ?_⟩)
    exact congrArg (fun cs=>([(_,(⟨_,true,cs⟩:Blk))]:List Var)) cn
  ·refine KW.cF rfl rfl (by first | (simp; done) | decide) ?_
   refine KW.cF rfl rfl (by first | (simp; done) | decide) ?_
   refine KW.cF rfl rfl (by first | (simp; done) | decide) ?_
   refine KW.cF rfl rfl (by first | (simp; done) | decide) ?_
   refine KW.cF rfl rfl (by first | (simp; done) | decide) ?_
   have hdp:DeedP ((7:Int),(z6:Int),(0:Int)):=⟨by show 1≤(7:Int)∧(7:Int)≤9; decide,⟨by show 0≤(z6:Int); omega,by show (z6:Int)≤999; omega⟩,by show 0≤(0:Int)∧(0:Int)≤999; decide,.inl (by show 0 < cntD 7; decide),.inr rfl⟩
   refine KW.litS1 rfl rfl rfl rfl rfl rfl rfl rfl rfl rfl rfl rfl ?_
   refine KW.appTS (m:=1) (ys:=[.int .i64 ((7:Int)),.int .i64 ((z6:Int)),.int .i64 ((0:Int))]) 0 rfl rfl rfl rfl rfl rfl rfl rfl (by decide) rfl (fun H1 g=>acells_seg (g.blk (j:=2) rfl).1 (by show 0+1*3≤3; decide)) (by show 0+ds.length*3≤(dcells ds).length; rw [dcells_len]; omega) rfl (by decide) (by show (ds.length+1)*24≤_; omega) (by show ds.length+1≤_; omega) ?_
   refine KW.ids (fun hlow9 hvar9=>?_)
   have hnn9:=E6.nle hlow9
   have hDX:K_Deal.R D H6 x _:=K_Deal.same (fun j hj=>(E6.old j (hDl j hj).1 (hDl j hj).2).2) hD0
   have hDvX:Has3 D H6 did 0 [.int .i64 x.1.1,.slice a1 x.1.2.1.length c1,.int .i64 x.1.2.2.1,.int .i64 x.1.2.2.2.1,.slice a2 x.1.2.2.2.2.length c2,.int .i64 x.2.1,.slice a3 x.2.2.1.length c3',.slice a4 x.2.2.2.length c4]:=by
    obtain ⟨q0,b,q1,q2⟩:=hDv0
    exact ⟨q0,b,(E6.old did (hDl did q0).1 (hDl did q0).2).2.trans q1,q2⟩
   have hdo:=specDo hdp hd hB ok3 hl6 hDX hDvX (fun j hj=>⟨(E6.old j (hDl j hj).1 (hDl j hj).2).1,fun hw=>by have:=wn3 j hw; have:=(hDl j hj).1; omega⟩)
   refine KW.callW hl6.w rfl rfl rfl rfl rfl hdo (fun v H9 S9 n9 st9 w9 hv9=>?_)
   obtain ⟨rfl,X9,d9,hl9,hd9,hx9,hw9⟩:=hv9
   have E9:=E6.w st9 (fun j hj=>.inr (wn3 j hj))
   have SB9:SrcB bs ac cc id Y S9 H9 (B+2+(ds.length+1)*20):=by
    have hidw:¬d3.W id:=fun hw=>by have:=wn3 id hw; omega
    obtain ⟨q,h1,h2⟩:=SB6.src
    exact SB6.w st9 (fun j hj hw=>by have h1:=wn3 j hw; have h2:j < H.n:=(SB0.y j hj).1; omega) ⟨q,by omega,h2.mv ((st9 id SB6.sid).2 hidw)⟩
   have hl9':Hl HTS [.pointer (some ⟨did,0,none⟩)] [] S9 H9 X9 d9 (doIt x c3 ((7:Int),(z6:Int),(0:Int))).1:=hl9.mv fun j hj=>by
    have h:d3.W j∨X3 j∨New _ H9.n j:=hj.elim (hl9.w j) (hl9.sx j)
    rcases h with h | h | h
    ·exact ⟨(st9 j (hl6.w j h)).1,rfl⟩
    ·exact ⟨(st9 j (hl6.sx j h)).1,rfl⟩
    ·exact ⟨w9 j h,rfl⟩
   obtain ⟨c9,ec9⟩:∃c9,(doIt x c3 ((7:Int),(z6:Int),(0:Int))).1=c9:=⟨_,rfl⟩
   have ok9:CerOk x c9:=by rw [← ec9]; exact ok3.doIt hd hdp
   rw [ec9] at hl9'
   have em:IntKind.i64.wrap ((m:Int) - 1)=((m - 1:Nat):Int):=by rw [wr (by omega) (by omega)]; omega
   obtain ⟨dsn,edsn⟩:∃dsn,ds++[((7:Int),(z6:Int),(0:Int))]=dsn:=⟨_,rfl⟩
   have ln:dsn.length=ds.length+1:=by rw [← edsn]; simp
   have cn:((dcells ds).drop 0).take (ds.length*3)++[Value.int .i64 ((7:Int)),.int .i64 ((z6:Int)),.int .i64 ((0:Int))]=dcells dsn:=by
    rw [← edsn,dcells_snoc,List.drop_zero,List.take_of_length_le (by rw [dcells_len]; exact Nat.le_refl _)]
   have dn:∀d∈dsn,DeedP d:=fun d hdm=>by
    rw [← edsn] at hdm
    exact (List.mem_append.1 hdm).elim (dp3 d) (fun h=>by rw [List.mem_singleton.1 h]; exact hdp)
   have inv9:∀o9,DdI bs ac cc id Y (B+2) x did d3.hid H ⟨m - 1,S9,H9,X9,d9,c9,dsn,o9⟩:=fun o9=>⟨hl9',hd9,ok9,by
     show SrcB bs ac cc id Y S9 H9 (B+2+dsn.length*20)
     rw [ln]; exact SB9,E9,fun j hj=>(hw9 j hj).elim (wn3 j) (fun h=>by have:=h.1; omega),fun j hj=>(hx9 j hj).elim (xn3 j) (fun h=>by have:=h.1; omega),by show dsn.length+(m - 1)≤36; omega,dn⟩
   refine KW.nxt rfl rfl (fun H' g=>⟨⟨m - 1,S9,H9,X9,d9,c9,dsn,_⟩,inv9 _,by simp only; omega,⟨rfl,rfl,by show _=Value.slice _ dsn.length dsn.length; rw [ln]; rfl,rfl,congrArg (Value.int .i64) em,trivial⟩,(g.take 1).eqT ?_⟩)
   exact congrArg (fun cs=>([(_,(⟨_,true,cs⟩:Blk))]:List Var)) cn
  ·refine KW.cF rfl rfl (by first | (simp; done) | decide) ?_
   refine KW.cF rfl rfl (by first | (simp; done) | decide) ?_
   refine KW.cF rfl rfl (by first | (simp; done) | decide) ?_
   refine KW.cF rfl rfl (by first | (simp; done) | decide) ?_
   refine KW.cF rfl rfl (by first | (simp; done) | decide) ?_
   have hdp:DeedP ((8:Int),(z6:Int),(0:Int)):=⟨by show 1≤(8:Int)∧(8:Int)≤9; decide,⟨by show 0≤(z6:Int); omega,by show (z6:Int)≤999; omega⟩,by show 0≤(0:Int)∧(0:Int)≤999; decide,.inl (by show 0 < cntD 8; decide),.inr rfl⟩
   refine KW.litS1 rfl rfl rfl rfl rfl rfl rfl rfl rfl rfl rfl rfl ?_
   refine KW.appTS (m:=1) (ys:=[.int .i64 ((8:Int)),.int .i64 ((z6:Int)),.int .i64 ((0:Int))]) 0 rfl rfl rfl rfl rfl rfl rfl rfl (by decide) rfl (fun H1 g=>acells_seg (g.blk (j:=2) rfl).1 (by show 0+1*3≤3; decide)) (by show 0+ds.length*3≤(dcells ds).length; rw [dcells_len]; omega) rfl (by decide) (by show (ds.length+1)*24≤_; omega) (by show ds.length+1≤_; omega) ?_
   refine KW.ids (fun hlow9 hvar9=>?_)
   have hnn9:=E6.nle hlow9
   have hDX:K_Deal.R D H6 x _:=K_Deal.same (fun j hj=>(E6.old j (hDl j hj).1 (hDl j hj).2).2) hD0
   have hDvX:Has3 D H6 did 0 [.int .i64 x.1.1,.slice a1 x.1.2.1.length c1,.int .i64 x.1.2.2.1,.int .i64 x.1.2.2.2.1,.slice a2 x.1.2.2.2.2.length c2,.int .i64 x.2.1,.slice a3 x.2.2.1.length c3',.slice a4 x.2.2.2.length c4]:=by
    obtain ⟨q0,b,q1,q2⟩:=hDv0
    exact ⟨q0,b,(E6.old did (hDl did q0).1 (hDl did q0).2).2.trans q1,q2⟩
   have hdo:=specDo hdp hd hB ok3 hl6 hDX hDvX (fun j hj=>⟨(E6.old j (hDl j hj).1 (hDl j hj).2).1,fun hw=>by have:=wn3 j hw; have:=(hDl j hj).1; omega⟩)
   refine KW.callW hl6.w rfl rfl rfl rfl rfl hdo (fun v H9 S9 n9 st9 w9 hv9=>?_)
   obtain ⟨rfl,X9,d9,hl9,hd9,hx9,hw9⟩:=hv9
   have E9:=E6.w st9 (fun j hj=>.inr (wn3 j hj))
   have SB9:SrcB bs ac cc id Y S9 H9 (B+2+(ds.length+1)*20):=by
    have hidw:¬d3.W id:=fun hw=>by have:=wn3 id hw; omega
    obtain ⟨q,h1,h2⟩:=SB6.src
    exact SB6.w st9 (fun j hj hw=>by have h1:=wn3 j hw; have h2:j < H.n:=(SB0.y j hj).1; omega) ⟨q,by omega,h2.mv ((st9 id SB6.sid).2 hidw)⟩
   have hl9':Hl HTS [.pointer (some ⟨did,0,none⟩)] [] S9 H9 X9 d9 (doIt x c3 ((8:Int),(z6:Int),(0:Int))).1:=hl9.mv fun j hj=>by
    have h:d3.W j∨X3 j∨New _ H9.n j:=hj.elim (hl9.w j) (hl9.sx j)
    rcases h with h | h | h
    ·exact ⟨(st9 j (hl6.w j h)).1,rfl⟩
    ·exact ⟨(st9 j (hl6.sx j h)).1,rfl⟩
    ·exact ⟨w9 j h,rfl⟩
   obtain ⟨c9,ec9⟩:∃c9,(doIt x c3 ((8:Int),(z6:Int),(0:Int))).1=c9:=⟨_,rfl⟩
   have ok9:CerOk x c9:=by rw [← ec9]; exact ok3.doIt hd hdp
   rw [ec9] at hl9'
   have em:IntKind.i64.wrap ((m:Int) - 1)=((m - 1:Nat):Int):=by rw [wr (by omega) (by omega)]; omega
   obtain ⟨dsn,edsn⟩:∃dsn,ds++[((8:Int),(z6:Int),(0:Int))]=dsn:=⟨_,rfl⟩
   have ln:dsn.length=ds.length+1:=by rw [← edsn]; simp
   have cn:((dcells ds).drop 0).take (ds.length*3)++[Value.int .i64 ((8:Int)),.int .i64 ((z6:Int)),.int .i64 ((0:Int))]=dcells dsn:=by
    rw [← edsn,dcells_snoc,List.drop_zero,List.take_of_length_le (by rw [dcells_len]; exact Nat.le_refl _)]
   have dn:∀d∈dsn,DeedP d:=fun d hdm=>by
    rw [← edsn] at hdm
    exact (List.mem_append.1 hdm).elim (dp3 d) (fun h=>by rw [List.mem_singleton.1 h]; exact hdp)
   have inv9:∀o9,DdI bs ac cc id Y (B+2) x did d3.hid H ⟨m - 1,S9,H9,X9,d9,c9,dsn,o9⟩:=fun o9=>⟨hl9',hd9,ok9,by
     show SrcB bs ac cc id Y S9 H9 (B+2+dsn.length*20)
     rw [ln]; exact SB9,E9,fun j hj=>(hw9 j hj).elim (wn3 j) (fun h=>by have:=h.1; omega),fun j hj=>(hx9 j hj).elim (xn3 j) (fun h=>by have:=h.1; omega),by show dsn.length+(m - 1)≤36; omega,dn⟩
   refine KW.nxt rfl rfl (fun H' g=>⟨⟨m - 1,S9,H9,X9,d9,c9,dsn,_⟩,inv9 _,by simp only; omega,⟨rfl,rfl,by show _=Value.slice _ dsn.length dsn.length; rw [ln]; rfl,rfl,congrArg (Value.int .i64) em,trivial⟩,(g.take 1).eqT ?_⟩)
   exact congrArg (fun cs=>([(_,(⟨_,true,cs⟩:Blk))]:List Var)) cn
  ·refine KW.cF rfl rfl (by first | (simp; done) | decide) ?_
   refine KW.cF rfl rfl (by first | (simp; done) | decide) ?_
   refine KW.cF rfl rfl (by first | (simp; done) | decide) ?_
   refine KW.cF rfl rfl (by first | (simp; done) | decide) ?_
   refine KW.cT rfl rfl (by first | (simp; done) | decide) ?_
   have hdp:DeedP ((9:Int),(0:Int),(0:Int)):=by refine ⟨by decide,by decide,by decide,.inr rfl,.inr rfl⟩
   refine KW.litS1 rfl rfl rfl rfl rfl rfl rfl rfl rfl rfl rfl rfl ?_
   refine KW.appTS (m:=1) (ys:=[.int .i64 ((9:Int)),.int .i64 ((0:Int)),.int .i64 ((0:Int))]) 0 rfl rfl rfl rfl rfl rfl rfl rfl (by decide) rfl (fun H1 g=>acells_seg (g.blk (j:=2) rfl).1 (by show 0+1*3≤3; decide)) (by show 0+ds.length*3≤(dcells ds).length; rw [dcells_len]; omega) rfl (by decide) (by show (ds.length+1)*24≤_; omega) (by show ds.length+1≤_; omega) ?_
   refine KW.ids (fun hlow9 hvar9=>?_)
   have hnn9:=E6.nle hlow9
   have hDX:K_Deal.R D H6 x _:=K_Deal.same (fun j hj=>(E6.old j (hDl j hj).1 (hDl j hj).2).2) hD0
   have hDvX:Has3 D H6 did 0 [.int .i64 x.1.1,.slice a1 x.1.2.1.length c1,.int .i64 x.1.2.2.1,.int .i64 x.1.2.2.2.1,.slice a2 x.1.2.2.2.2.length c2,.int .i64 x.2.1,.slice a3 x.2.2.1.length c3',.slice a4 x.2.2.2.length c4]:=by
    obtain ⟨q0,b,q1,q2⟩:=hDv0
    exact ⟨q0,b,(E6.old did (hDl did q0).1 (hDl did q0).2).2.trans q1,q2⟩
   have hdo:=specDo hdp hd hB ok3 hl6 hDX hDvX (fun j hj=>⟨(E6.old j (hDl j hj).1 (hDl j hj).2).1,fun hw=>by have:=wn3 j hw; have:=(hDl j hj).1; omega⟩)
   refine KW.callW hl6.w rfl rfl rfl rfl rfl hdo (fun v H9 S9 n9 st9 w9 hv9=>?_)
   obtain ⟨rfl,X9,d9,hl9,hd9,hx9,hw9⟩:=hv9
   have E9:=E6.w st9 (fun j hj=>.inr (wn3 j hj))
   have SB9:SrcB bs ac cc id Y S9 H9 (B+2+(ds.length+1)*20):=by
    have hidw:¬d3.W id:=fun hw=>by have:=wn3 id hw; omega
    obtain ⟨q,h1,h2⟩:=SB6.src
    exact SB6.w st9 (fun j hj hw=>by have h1:=wn3 j hw; have h2:j < H.n:=(SB0.y j hj).1; omega) ⟨q,by omega,h2.mv ((st9 id SB6.sid).2 hidw)⟩
   have hl9':Hl HTS [.pointer (some ⟨did,0,none⟩)] [] S9 H9 X9 d9 (doIt x c3 ((9:Int),(0:Int),(0:Int))).1:=hl9.mv fun j hj=>by
    have h:d3.W j∨X3 j∨New _ H9.n j:=hj.elim (hl9.w j) (hl9.sx j)
    rcases h with h | h | h
    ·exact ⟨(st9 j (hl6.w j h)).1,rfl⟩
    ·exact ⟨(st9 j (hl6.sx j h)).1,rfl⟩
    ·exact ⟨w9 j h,rfl⟩
   obtain ⟨c9,ec9⟩:∃c9,(doIt x c3 ((9:Int),(0:Int),(0:Int))).1=c9:=⟨_,rfl⟩
   have ok9:CerOk x c9:=by rw [← ec9]; exact ok3.doIt hd hdp
   rw [ec9] at hl9'
   have em:IntKind.i64.wrap ((m:Int) - 1)=((m - 1:Nat):Int):=by rw [wr (by omega) (by omega)]; omega
   obtain ⟨dsn,edsn⟩:∃dsn,ds++[((9:Int),(0:Int),(0:Int))]=dsn:=⟨_,rfl⟩
   have ln:dsn.length=ds.length+1:=by rw [← edsn]; simp
   have cn:((dcells ds).drop 0).take (ds.length*3)++[Value.int .i64 ((9:Int)),.int .i64 ((0:Int)),.int .i64 ((0:Int))]=dcells dsn:=by
    rw [← edsn,dcells_snoc,List.drop_zero,List.take_of_length_le (by rw [dcells_len]; exact Nat.le_refl _)]
   have dn:∀d∈dsn,DeedP d:=fun d hdm=>by
    rw [← edsn] at hdm
    exact (List.mem_append.1 hdm).elim (dp3 d) (fun h=>by rw [List.mem_singleton.1 h]; exact hdp)
   have inv9:∀o9,DdI bs ac cc id Y (B+2) x did d3.hid H ⟨m - 1,S9,H9,X9,d9,c9,dsn,o9⟩:=fun o9=>⟨hl9',hd9,ok9,by
     show SrcB bs ac cc id Y S9 H9 (B+2+dsn.length*20)
     rw [ln]; exact SB9,E9,fun j hj=>(hw9 j hj).elim (wn3 j) (fun h=>by have:=h.1; omega),fun j hj=>(hx9 j hj).elim (xn3 j) (fun h=>by have:=h.1; omega),by show dsn.length+(m - 1)≤36; omega,dn⟩
   refine KW.nxt rfl rfl (fun H' g=>⟨⟨m - 1,S9,H9,X9,d9,c9,dsn,_⟩,inv9 _,by simp only; omega,⟨rfl,rfl,by show _=Value.slice _ dsn.length dsn.length; rw [ln]; rfl,rfl,congrArg (Value.int .i64) em,trivial⟩,(g.take 1).eqT ?_⟩)
   exact congrArg (fun cs=>([(_,(⟨_,true,cs⟩:Blk))]:List Var)) cn
 ·have k1:¬(m:Int) > 0:=k1
  refine KW.ids (fun hlow9 hvar9=>?_)
  have hnn9:=E3.nle hlow9
  refine KW.retW rfl rfl rfl rfl (fun H9 g=>by have:=g.n_; omega) (fun i h1 h2=>E3.old i h1 h2) (fun H9 g=>?_)
  have hb:=g.blk (j:=0) rfl
  have hgv:=(g.vars 0 _ rfl).2.2
  obtain ⟨q,h1,h2⟩:=SB3.src
  refine ⟨⟨ds,o3,rfl,by omega,dp3,⟨E3.ge hgv,hb.2⟩,hb.1⟩,q,by omega,h2.mv (g.froz id SB3.sid).2⟩
end
end Go.Proofs.Ytlapbbffoapleaa.Am
namespace Go.Proofs.Ytlapbbffoapleaa.Am
open Go Go.RowKit Go.Proofs
section
variable {S:Ids} {H0:AH} {bs:List Int} {ac:Option Addr} {cc:Nat}
theorem a2Deeds {x:T_Deal} {dcs:List Value} (hd:DealOk x) (hB:B_Deal x) (hD:K_Deal.R S H0 x dcs) (hb:∀x∈bs,0≤x∧x < 256) (hl:bs.length≤1048576) (hs:KB.Sl S H0 (.slice ac bs.length cc) bs):
  SpecM Try.prog S H0 31 [.slice ac bs.length cc,.agg dcs.toArray] (fun m v H1=>∃(ds:List T_Deed) (o:Nat),v=.slice (some ⟨o,0,some 3⟩) ds.length ds.length∧ds.length≤36∧(∀d∈ds,DeedP d)∧New m H1.n o∧H1.m o=some ⟨68,true,dcells ds⟩):=by
 obtain ⟨a1,c1,a2,c2,a3,c3,a4,c4,rfl⟩:=form_Deal hD
 refine SpecM.of1 Try.func31 rfl (by kernel_rfl) rfl (fun H _=>?_)
 have hD0:K_Deal.R (Low H.n) H x _:=On.R hD
 refine KW.callN1 rfl rfl rfl rfl rfl (srcFrom) (fun v HS SS mS _ _ hv=>?_)
 obtain ⟨o,sp,rfl,hnew,hsrc⟩:=hv
 have wS:On (New _ HS.n) HS SS HS:=‹_›
 have tS:On (Low H.n) H SS HS:=inferInstance
 have hso:=(wS.st o hnew).1
 have hbs:=(hs.up (S':=Low H.n) (H':=H)).stX (S':=fun i=>SS i∧i≠o) (H':=HS) (fun i hi=>⟨⟨(tS.st i hi).1,fun e=>by have h1:i < H.n:=hi; have:=hnew.1; omega⟩,(tS.st i hi).2⟩)
 refine KW.freeze 0 rfl (fun A1 S1 hn1 hS1 st1 hm1 ho1 hno1 hlow1=>?_)
 have h1:∀i,SS i→S1 i∧A1.m i=HS.m i:=fun i hi=>st1.st i hi
 have SB:SrcB bs ac cc o (fun i=>SS i∧i≠o) S1 A1 0:=⟨hb,hl,(h1 o hso).1,fun i hi=>⟨(h1 i hi.1).1,hi.2⟩,⟨0,Nat.le_refl _,hsrc.mv (h1 o hso).2⟩,hbs.stX (fun i hi=>⟨hi,(h1 i hi.1).2⟩)⟩
 have old1:∀i,i < H.n→S1 i∧A1.m i=H.m i:=fun i hi=>by
  have h2:=tS.st i hi
  have h3:=h1 i h2.1
  exact ⟨h3.1,h3.2.trans h2.2⟩
 have hneo:H.n≠o:=by have:=hnew.1; omega
 have hDX:K_Deal.R (fun i=>i < H.n∨i=H.n) A1 x _:=K_Deal.more (fun i hi=>.inl hi) (K_Deal.same (fun i hi=>(old1 i hi).2) hD0)
 have hDvX:Has3 (fun i=>i < H.n∨i=H.n) A1 H.n 0 [.int .i64 x.1.1,.slice a1 x.1.2.1.length c1,.int .i64 x.1.2.2.1,.int .i64 x.1.2.2.2.1,.slice a2 x.1.2.2.2.2.length c2,.int .i64 x.2.1,.slice a3 x.2.2.1.length c3,.slice a4 x.2.2.2.length c4]:=⟨.inr rfl,_,hm1,fun i v hv=>by rw [Nat.zero_add]; exact hv⟩
 refine KW.callW (W:=fun i=>i=o) (fun i hi=>by subst hi; exact SB.sid) rfl rfl rfl rfl rfl (l08Deeds hd hB hDX hDvX (fun i hi=>by
  rcases hi with hi | hi
  ·exact ⟨(old1 i hi).1,by have:=hnew.1; omega⟩
  ·rw [hi]; exact ⟨(hS1 _).2 (.inr rfl),hneo⟩) SB (by omega)) (fun v H4 S4 hn4 st4 hw4 hp=>?_)
 obtain ⟨⟨ds,o4,rfl,l36,hdp,hnw,hmo⟩,_⟩:=hp
 haveI:On (Low H.n) H S4 H4:=⟨fun i hi=>by
  have h1:i < H.n:=hi
  have hne:¬i=o:=by have:=hnew.1; omega
  exact ⟨(st4 i (old1 i hi).1).1,((st4 i (old1 i hi).1).2 hne).trans (old1 i hi).2⟩⟩
 refine KW.retM1 rfl rfl rfl rfl (fun H1 g=>?_)
 exact ⟨ds,o4,rfl,l36,hdp,⟨by have:=hnw.1; omega,by have:=(g.froz o4 (hw4 o4 hnw)).1; have:=g.n_; omega⟩,(g.froz o4 (hw4 o4 hnw)).2.trans hmo⟩
end
structure RT where
 i:Nat
 S:Ids
 A:AH
 X:Ids
 d:HD
 c:Cer
 o:Nat
 cs:List Int
structure RunJ (t:HT) (pre post:List Value) (x:T_Deal) (ds:List T_Deed) (H:AH) (hid:Nat) (s:RT):Prop where
 hl:Hl t pre post s.S s.A s.X s.d s.c
 hd:s.d.hid=hid
 ok:CerOk x s.c
 old:St (Low H.n) H s.S s.A
 new:∀id,s.d.W id→H.n≤id
 newX:∀id,s.X id→H.n≤id
 le:s.i≤ds.length
 pl:play x s.c (ds.drop s.i)=play x (cer0 x.1.1.toNat) ds
 cl:s.cs.length=s.i
 co:s.cs++codes x s.c (ds.drop s.i)=codes x (cer0 x.1.1.toNat) ds
theorem RunJ.next {t:HT} {pre post:List Value} {x:T_Deal} {ds:List T_Deed} {H A':AH} {S':Ids} {hid n1:Nat} {s:RT} {dd:T_Deed} (h:RunJ t pre post x ds H hid s) (hd:DealOk x) (hdd:DeedP dd) (hy:ds[s.i]?=some dd) (t5:StW s.d.W s.S s.A S' A') (w5:∀id,New n1 A'.n id→S' id) (hn:H.n≤n1) (hp:HlPost t pre post s.X s.d (doIt x s.c dd).1 n1 A') (o:Nat):
  ∃X' d',RunJ t pre post x ds H hid ⟨s.i+1,S',A',X',d',(doIt x s.c dd).1,o,s.cs++[(doIt x s.c dd).2]⟩:=by
 obtain ⟨X',d',h1,h2,h3,h4⟩:=hp
 have inS:∀id,(s.d.W id∨s.X id∨New n1 A'.n id)→S' id:=fun id p=>by
  rcases p with p | p | p
  ·exact (t5 id (h.hl.w id p)).1
  ·exact (t5 id (h.hl.sx id p)).1
  ·exact w5 id p
 have edr:ds.drop s.i=dd :: ds.drop (s.i+1):=by
  rw [List.drop_eq_getElem_cons (List.getElem?_eq_some_iff.1 hy).1]
  rw [(List.getElem?_eq_some_iff.1 hy).2]
 have hpl:=h.pl
 have hco:=h.co
 rw [edr] at hpl hco
 refine ⟨X',d',h1.mv fun id p=>⟨inS id (p.elim (h1.w id) (h1.sx id)),rfl⟩,h2.trans h.hd,h.ok.doIt hd hdd,fun id p=>?_,fun id p=>?_,fun id p=>?_,(List.getElem?_eq_some_iff.1 hy).1,hpl,by simp [h.cl],?_⟩
 ·have q:=h.old id p
  have r:=t5 id q.1
  refine ⟨r.1,(r.2 fun w=>?_).trans q.2⟩
  have:=h.new id w
  have:id < H.n:=p
  omega
 ·rcases h4 id p with p | p
  ·exact h.new id p
  ·have:=p.1; omega
 ·rcases h3 id p with p | p
  ·exact h.newX id p
  ·have:=p.1; omega
 ·rw [← hco]
  conv=>{rhs; unfold codes}
  simp
theorem RunJ.done {t:HT} {pre post:List Value} {x:T_Deal} {ds:List T_Deed} {H H1:AH} {hid n:Nat} {s:RT} {T:List Var} (h:RunJ t pre post x ds H hid s) (he:s.i=ds.length) (g:Good s.S s.A T n H1):
  Hl t pre post (New H.n H1.n) H1 s.X s.d (play x (cer0 x.1.1.toNat) ds)∧s.cs=codes x (cer0 x.1.1.toNat) ds:=by
 have hpl:=h.pl
 have hco:=h.co
 rw [he,List.drop_length] at hpl hco
 have hpl:s.c=play x (cer0 x.1.1.toNat) ds:=hpl
 have hco:s.cs=codes x (cer0 x.1.1.toNat) ds:=by rw [← hco]; simp [codes]
 refine ⟨?_,hco⟩
 rw [← hpl]
 refine h.hl.mv fun id p=>?_
 have hn:=g.n_
 have hS:s.S id:=p.elim (h.hl.w id) (h.hl.sx id)
 have hf:=g.froz id hS
 exact ⟨⟨p.elim (h.new id) (h.newX id),by omega⟩,hf.2⟩
theorem given0 {x:T_Deal} {ds:List T_Deed} (h:givenC x ds=0):DealOk x∧(∀d∈ds,DeedP d)∧ds.length≤400:=by
 unfold givenC at h
 split at h
 ·rename_i h1
  have h1:=tv_iff.1 h1
  split at h
  ·cases h
  ·exact ⟨h1.1,h1.2,by omega⟩
 ·cases h
def doneC:List Int→Nat
 | []=>0
 | k :: ks=>(if k=0 then 1 else 0)+doneC ks
theorem doneC_snoc (k:Int):∀l:List Int,doneC (l++[k])=doneC l+(if k=0 then 1 else 0)
 | []=>by simp [doneC]
 | a :: l=>by simp only [List.cons_append,doneC,doneC_snoc k l]; omega
theorem doneC_le:∀l:List Int,doneC l≤l.length
 | []=>Nat.le_refl _
 | a :: l=>by simp only [doneC,List.length_cons]; have:=doneC_le l; split <;> omega
section
variable {S:Ids} {H0:AH} {D:Ids} {x:T_Deal} {ds:List T_Deed} {dcs:List Value}
theorem implAfter {a c} (hd:DealOk x) (hdp:∀d∈ds,DeedP d) (h400:ds.length≤400) (hB:B_Deal x) (hD:K_Deal.R S H0 x dcs) (hs:K_Deed.Sl S H0 (.slice a ds.length c) ds):
  SpecM Try.prog S H0 95 [.agg dcs.toArray,.slice a ds.length c] (fun n v H1=>∃(d:HD) (X:Ids),v=.tuple #[.pointer (some ⟨d.hid,0,none⟩),.int .i64 (doneC (codes x (cer0 x.1.1.toNat) ds):Nat)]∧Hl HTI [] dcs (New n H1.n) H1 X d (play x (cer0 x.1.1.toNat) ds)):=by
 obtain ⟨d1,d2,d3,d4,d5,d6,d7,d8,rfl⟩:=form_Deal hD
 refine SpecM.of1 Try.func95 rfl (by kernel_rfl) rfl (fun H _=>?_)
 have hD0:K_Deal.R (Low H.n) H x _:=On.R hD
 have hs0:=hs.up (S':=Low H.n) (H':=H)
 refine KW.callN1 rfl rfl rfl rfl rfl (newHall hd hD0) (fun v H1 S1 m1 _ _ hv=>?_)
 obtain ⟨d,sp,rfl,hh⟩:=hv
 have st1:=(inferInstance:On (Low H.n) H S1 H1).st
 have hh1:=hh.on (S':=S1) (A':=H1)
 obtain ⟨hid,ehid⟩:∃hid,d.hid=hid:=⟨_,rfl⟩
 rw [ehid]
 have R0:RunJ HTI [] _ x ds H hid ⟨0,S1,H1,fun _=>False,d,cer0 x.1.1.toNat,0,[]⟩:=⟨hh1,ehid,CerOk.start hd,st1,fun id p=>by have:=(hh.w id p).1; omega,fun id p=>p.elim,Nat.zero_le _,rfl,rfl,rfl⟩
 refine KW.lpM rfl rfl (fun s:RT=>[(6,.pointer (some ⟨hid,0,none⟩)),(7,.int .i64 (doneC s.cs:Nat)),(12,.slice a ds.length c),(13,.int .i64 ds.length),(14,.int .i64 s.i)]) (fun s=>s.S) (fun s=>s.A) (fun s=>[(H.n,⟨54,true,[.int .i64 x.1.1,.slice d1 x.1.2.1.length d2,.int .i64 x.1.2.2.1,.int .i64 x.1.2.2.2.1,.slice d3 x.1.2.2.2.2.length d4,.int .i64 x.2.1,.slice d5 x.2.2.1.length d6,.slice d7 x.2.2.2.length d8]⟩)]) (fun s=>RunJ HTI [] [.int .i64 x.1.1,.slice d1 x.1.2.1.length d2,.int .i64 x.1.2.2.1,.int .i64 x.1.2.2.2.1,.slice d3 x.1.2.2.2.2.length d4,.int .i64 x.2.1,.slice d5 x.2.2.1.length d6,.slice d7 x.2.2.2.length d8] x ds H hid s) (fun s=>ds.length - s.i) (⟨0,S1,H1,fun _=>False,d,cer0 x.1.1.toNat,0,[]⟩) (R0) ⟨rfl,rfl,rfl,rfl,rfl,trivial⟩ rfl rfl (rfl) (fun s hi bE n=>?_)
 have R:=hi
 obtain ⟨i,S2,H2,X2,e2,c2,o2,cs2⟩:=s
 have old:St (Low H.n) H S2 H2:=R.old
 have ehd:e2.hid=hid:=R.hd
 have el:cs2.length=i:=R.cl
 have hdl:=doneC_le cs2
 have hile:i≤ds.length:=R.le
 refine KW.cnd rfl rfl (fun k2=>?_) (fun k2=>?_)
 ·have k2:(i:Int) < (ds.length:Int):=k2
  have hs2:K_Deed.Sl S2 H2 (.slice a ds.length c) ds:=sl_mk hs0 (fun id p=>old id p)
  refine KW.getS (td:=.struct #[]) hs2 rfl rfl rfl rfl rfl rfl rfl rfl rfl rfl rfl rfl rfl rfl rfl rfl rfl (by omega) (k2) (fun y cy hy hsy=>?_)
  have hy:ds[i]?=some y:=hy
  obtain rfl:=form_Deed hsy
  have hmem:=List.mem_of_getElem? hy
  have hD2:K_Deal.R (Low H.n) H2 x _:=K_Deal.same (fun id p=>(old id p).2) hD0
  refine KW.cnt (fun n2 hn2=>?_)
  refine KW.fact (p:=H.n < n2) (fun H1 g=>(g.vars 0 _ rfl).2.1) (fun hlt=>?_)
  have hdo:=implDo (hdp y hmem) hd hB R.ok R.hl hD2 (fun id p=>⟨(old id p).1,fun w=>by have:=R.new id w; have:id < H.n:=p; omega⟩)
  simp only [ehd] at hdo
  refine KW.callW R.hl.w rfl rfl rfl rfl rfl hdo (fun v H5 S5 m5 t5 w5 hv=>?_)
  obtain ⟨rfl,hp⟩:=hv
  obtain ⟨X3,e3,R3⟩:=R.next hd (hdp y hmem) hy t5 w5 (by omega) hp 0
  have hsn:=doneC_snoc (doIt x c2 y).2 cs2
  refine KW.cnd rfl rfl (fun k3=>?ga) (fun k3=>?gb)
  case ga=>
   have k3:(doIt x c2 y).2=0:=k3
   rw [if_pos k3] at hsn
   have ew:IntKind.i64.wrap ((doneC cs2:Nat)+1)=((doneC (cs2++[(doIt x c2 y).2]):Nat):Int):=by rw [hsn,wr (by omega) (by omega)]; omega
   refine KW.nxt rfl rfl (fun H' g=>⟨⟨i+1,S5,H5,X3,e3,(doIt x c2 y).1,0,cs2++[(doIt x c2 y).2]⟩,R3,by first | omega | (simp only; omega),⟨rfl,congrArg (Value.int .i64) ew,rfl,rfl,congrArg (Value.int .i64) (inc64 (by omega)),trivial⟩,g.take 1⟩)
  case gb=>
   have k3:¬(doIt x c2 y).2=0:=k3
   rw [if_neg k3] at hsn
   have ew:((doneC cs2:Nat):Int)=((doneC (cs2++[(doIt x c2 y).2]):Nat):Int):=by rw [hsn]; rfl
   refine KW.nxt rfl rfl (fun H' g=>⟨⟨i+1,S5,H5,X3,e3,(doIt x c2 y).1,0,cs2++[(doIt x c2 y).2]⟩,R3,by first | omega | (simp only; omega),⟨rfl,congrArg (Value.int .i64) ew,rfl,rfl,congrArg (Value.int .i64) (inc64 (by omega)),trivial⟩,g.take 1⟩)
 ·have k2:¬(i:Int) < (ds.length:Int):=k2
  have he:i=ds.length:=by omega
  refine KW.retM rfl rfl rfl rfl (fun id hid=>old id hid) (fun H1 g=>?_)
  obtain ⟨q1,q2⟩:=R.done he g
  have q2:cs2=codes x (cer0 x.1.1.toNat) ds:=q2
  refine ⟨e2,X2,?_,q1⟩
  rw [← q2,ehd]
  rfl
end
section
variable {S:Ids} {H0:AH} {l:List Bool}
end
noncomputable def behind (x:T_Deal) (ds:List T_Deed):Cer:=play x (cer0 x.1.1.toNat) ds
theorem behind_ok {x:T_Deal} {ds:List T_Deed} (hd:DealOk x) (hdp:∀d∈ds,DeedP d):CerOk x (behind x ds):=CerOk.play hd ds hdp (CerOk.start hd)
section
variable {S:Ids} {H0:AH} {x:T_Deal} {ds:T_DeedS} {dcs:List Value}
end
abbrev M_Purse:Kn T_Purse:=Kn.mp (KI) (Kn.mp (M_Int64S) (M_Int64S))
theorem le_Purse:KLe M_Purse K_Purse:=KLe.pair ((KLe.refl KI)) (KLe.pair (le_Int64S) (le_Int64S))
abbrev B_Purse (x:T_Purse):Prop:=I64 x.1∧B_Int64S x.2.1∧B_Int64S x.2.2
abbrev sz_Purse (x:T_Purse):Nat:=sz_Int64S x.2.1+sz_Int64S x.2.2
section
variable {S:Ids} {H0:AH} {W:Ids} {left k:Int}
theorem form_Purse {x:T_Purse} {cs:List Value} (h:K_Purse.R S H0 x cs):∃a1 c1 a2 c2,cs=[.int .i64 x.1,.slice a1 x.2.1.length c1,.slice a2 x.2.2.length c2]:=by
 obtain ⟨e0,d0,rfl,h0,h0_⟩:=h
 obtain ⟨e1,d1,rfl,h1,h1_⟩:=h0_
 have h2:=h1_
 obtain rfl:=KI_of h0
 obtain ⟨a1,c1,rfl⟩:=slform h1
 obtain ⟨a2,c2,rfl⟩:=slform h2
 exact ⟨a1,c1,a2,c2,rfl⟩
theorem formM_Purse {x:T_Purse} {cs:List Value} (h:M_Purse.R S H0 x cs):∃a1 c1 a2 c2,cs=[.int .i64 x.1,.slice a1 x.2.1.length c1,.slice a2 x.2.2.length c2]:=form_Purse (le_Purse.2 _ _ _ _ h)
theorem splitk_Purse {x:T_Purse} {cs:List Value} (h:K_Purse.R S H0 x cs):∃a1 c1 a2 c2,cs=[.int .i64 x.1,.slice a1 x.2.1.length c1,.slice a2 x.2.2.length c2]∧K_Int64S.R S H0 x.2.1 [.slice a1 x.2.1.length c1]∧K_Int64S.R S H0 x.2.2 [.slice a2 x.2.2.length c2]:=by
 obtain ⟨e0,d0,rfl,h0,h0_⟩:=h
 obtain ⟨e1,d1,rfl,h1,h1_⟩:=h0_
 have h2:=h1_
 obtain rfl:=KI_of h0
 obtain ⟨a1,c1,rfl⟩:=slform h1
 obtain ⟨a2,c2,rfl⟩:=slform h2
 exact ⟨a1,c1,a2,c2,rfl,h1,h2⟩
end
abbrev M_Seat:Kn T_Seat:=Kn.mp (M_Purse) (Kn.mp (M_Purse) (KI))
theorem le_Seat:KLe M_Seat K_Seat:=KLe.pair (le_Purse) (KLe.pair (le_Purse) ((KLe.refl KI)))
abbrev B_Seat (x:T_Seat):Prop:=B_Purse x.1∧B_Purse x.2.1∧I64 x.2.2
section
variable {S:Ids} {H0:AH} {W:Ids} {left k:Int}
theorem splitk_Seat {x:T_Seat} {cs:List Value} (h:K_Seat.R S H0 x cs):∃a1 c1 a2 c2 a3 c3 a4 c4,cs=[.int .i64 x.1.1,.slice a1 x.1.2.1.length c1,.slice a2 x.1.2.2.length c2,.int .i64 x.2.1.1,.slice a3 x.2.1.2.1.length c3,.slice a4 x.2.1.2.2.length c4,.int .i64 x.2.2]∧K_Purse.R S H0 x.1 [.int .i64 x.1.1,.slice a1 x.1.2.1.length c1,.slice a2 x.1.2.2.length c2]∧K_Purse.R S H0 x.2.1 [.int .i64 x.2.1.1,.slice a3 x.2.1.2.1.length c3,.slice a4 x.2.1.2.2.length c4]:=by
 obtain ⟨e0,d0,rfl,h0,h0_⟩:=h
 obtain ⟨e1,d1,rfl,h1,h1_⟩:=h0_
 have h2:=h1_
 obtain ⟨a1,c1,a2,c2,rfl⟩:=form_Purse h0
 obtain ⟨a3,c3,a4,c4,rfl⟩:=form_Purse h1
 obtain rfl:=KI_of h2
 exact ⟨a1,c1,a2,c2,a3,c3,a4,c4,rfl,h0,h1⟩
end
abbrev K_SeatS:Kn (List T_Seat):=K_Seat.sl
abbrev M_SeatS:Kn (List T_Seat):=M_Seat.ml
theorem le_SeatS:KLe M_SeatS K_SeatS:=KLe.row le_Seat
abbrev szE_Seat (x:T_Seat):Nat:=1+sz_Int64S x.1.2.1+sz_Int64S x.1.2.2+1+sz_Int64S x.2.1.2.1+sz_Int64S x.2.1.2.2+1
structure B_SeatS (x:List T_Seat):Prop where
 len:x.length≤1048576
 each:∀y∈x,B_Seat y
 tot:sum (x.map szE_Seat)≤16777216
section
variable {S:Ids} {H0:AH} {W:Ids} {a a':Option Addr} {c c':Nat} {left k:Int}
end
section
variable {S:Ids} {H0:AH} {W:Ids} {a a':Option Addr} {c c':Nat} {left k:Int}
end
abbrev M_Packet:Kn T_Packet:=Kn.mp KBo (Kn.mp KI (Kn.mp KI (Kn.mp M_Int64S M_Int64S)))
theorem le_Packet:KLe M_Packet K_Packet:=KLe.pair (KLe.refl KBo) (KLe.pair (KLe.refl KI) (KLe.pair (KLe.refl KI) (KLe.pair le_Int64S le_Int64S)))
abbrev B_Packet (x:T_Packet):Prop:=True∧I64 x.2.1∧I64 x.2.2.1∧B_Int64S x.2.2.2.1∧B_Int64S x.2.2.2.2
section
variable {S:Ids} {H0:AH} {W:Ids} {left k:Int}
theorem splitk_Packet {x:T_Packet} {cs:List Value} (h:K_Packet.R S H0 x cs):∃a1 c1 a2 c2,cs=[.bool x.1,.int .i64 x.2.1,.int .i64 x.2.2.1,.slice a1 x.2.2.2.1.length c1,.slice a2 x.2.2.2.2.length c2]∧K_Int64S.R S H0 x.2.2.2.1 [.slice a1 x.2.2.2.1.length c1]∧K_Int64S.R S H0 x.2.2.2.2 [.slice a2 x.2.2.2.2.length c2]:=by
 obtain ⟨a1,c1,a2,c2,h,h1,h2⟩:=split_Packet h
 exact ⟨a1,c1,a2,c2,h,sl1' h1,sl1' h2⟩
end
abbrev K_PacketS:Kn (List T_Packet):=K_Packet.sl
abbrev M_PacketS:Kn (List T_Packet):=M_Packet.ml
theorem le_PacketS:KLe M_PacketS K_PacketS:=KLe.row le_Packet
abbrev szE_Packet (x:T_Packet):Nat:=1+1+1+sz_Int64S x.2.2.2.1+sz_Int64S x.2.2.2.2
structure B_PacketS (x:List T_Packet):Prop where
 len:x.length≤1048576
 each:∀y∈x,B_Packet y
 tot:sum (x.map szE_Packet)≤16777216
section
variable {S:Ids} {H0:AH} {W:Ids} {a a':Option Addr} {c c':Nat} {left k:Int}
end
section
variable {S:Ids} {H0:AH} {W:Ids} {a a':Option Addr} {c c':Nat} {left k:Int}
end
abbrev T_Flag:Type:=Bool
abbrev K_Flag:Kn Bool:=Kn.bool
abbrev M_Flag:Kn Bool:=Kn.bool
theorem le_Flag:KLe M_Flag K_Flag:=KLe.refl Kn.bool
abbrev B_Flag (x:Bool):Prop:=True
abbrev K_FlagS:Kn (List T_Flag):=K_Flag.sl
abbrev M_FlagS:Kn (List T_Flag):=M_Flag.ml
theorem le_FlagS:KLe M_FlagS K_FlagS:=KLe.row le_Flag
abbrev szE_Flag (x:T_Flag):Nat:=1
structure B_FlagS (x:List T_Flag):Prop where
 len:x.length≤1048576
 each:∀y∈x,B_Flag y
 tot:sum (x.map szE_Flag)≤16777216
section
variable {S:Ids} {H0:AH} {W:Ids} {a a':Option Addr} {c c':Nat} {left k:Int}
end
section
variable {S:Ids} {H0:AH} {W:Ids} {a a':Option Addr} {c c':Nat} {left k:Int}
end
section
variable {S:Ids} {H0:AH} {a:Option Addr} {c:Nat} {k:Int}
end
abbrev T_Opener:Type:=(Int) × (List (List Int)) × (List Bool) × (List Bool)
abbrev K_Opener:Kn T_Opener:=Kn.pair (KI) (Kn.pair (K_Int64SS) (Kn.pair (K_FlagS) (K_FlagS)))
abbrev M_Opener:Kn T_Opener:=Kn.mp (KI) (Kn.mp (M_Int64SS) (Kn.mp (M_FlagS) (M_FlagS)))
theorem le_Opener:KLe M_Opener K_Opener:=KLe.pair ((KLe.refl KI)) (KLe.pair (le_Int64SS) (KLe.pair (le_FlagS) (le_FlagS)))
abbrev B_Opener (x:T_Opener):Prop:=I64 x.1∧B_Int64SS x.2.1∧B_FlagS x.2.2.1∧B_FlagS x.2.2.2
section
variable {S:Ids} {H0:AH} {W:Ids} {left k:Int}
theorem form_Opener {x:T_Opener} {cs:List Value} (h:K_Opener.R S H0 x cs):∃a1 c1 a2 c2 a3 c3,cs=[.int .i64 x.1,.slice a1 x.2.1.length c1,.slice a2 x.2.2.1.length c2,.slice a3 x.2.2.2.length c3]:=by
 obtain ⟨e0,d0,rfl,h0,h0_⟩:=h
 obtain ⟨e1,d1,rfl,h1,h1_⟩:=h0_
 obtain ⟨e2,d2,rfl,h2,h2_⟩:=h1_
 have h3:=h2_
 obtain rfl:=KI_of h0
 obtain ⟨a1,c1,rfl⟩:=slform h1
 obtain ⟨a2,c2,rfl⟩:=slform h2
 obtain ⟨a3,c3,rfl⟩:=slform h3
 exact ⟨a1,c1,a2,c2,a3,c3,rfl⟩
theorem split_Opener {x:T_Opener} {cs:List Value} (h:K_Opener.R S H0 x cs):∃a1 c1 a2 c2 a3 c3,cs=[.int .i64 x.1,.slice a1 x.2.1.length c1,.slice a2 x.2.2.1.length c2,.slice a3 x.2.2.2.length c3]∧K_Int64SS.R S H0 x.2.1 [.slice a1 x.2.1.length c1]∧K_FlagS.R S H0 x.2.2.1 [.slice a2 x.2.2.1.length c2]∧K_FlagS.R S H0 x.2.2.2 [.slice a3 x.2.2.2.length c3]:=by
 obtain ⟨e0,d0,rfl,h0,h0_⟩:=h
 obtain ⟨e1,d1,rfl,h1,h1_⟩:=h0_
 obtain ⟨e2,d2,rfl,h2,h2_⟩:=h1_
 have h3:=h2_
 obtain rfl:=KI_of h0
 obtain ⟨a1,c1,rfl⟩:=slform h1
 obtain ⟨a2,c2,rfl⟩:=slform h2
 obtain ⟨a3,c3,rfl⟩:=slform h3
 exact ⟨a1,c1,a2,c2,a3,c3,rfl,h1,h2,h3⟩
end
abbrev T_Ceremony:Type:=(Int) × (List T_Seat) × (T_Opener) × (List T_Packet)
abbrev K_Ceremony:Kn T_Ceremony:=Kn.pair (KI) (Kn.pair (K_SeatS) (Kn.pair (K_Opener) (K_PacketS)))
abbrev M_Ceremony:Kn T_Ceremony:=Kn.mp (KI) (Kn.mp (M_SeatS) (Kn.mp (M_Opener) (M_PacketS)))
theorem le_Ceremony:KLe M_Ceremony K_Ceremony:=KLe.pair ((KLe.refl KI)) (KLe.pair (le_SeatS) (KLe.pair (le_Opener) (le_PacketS)))
abbrev B_Ceremony (x:T_Ceremony):Prop:=I64 x.1∧B_SeatS x.2.1∧B_Opener x.2.2.1∧B_PacketS x.2.2.2
section
variable {S:Ids} {H0:AH} {W:Ids} {left k:Int}
theorem form_Ceremony {x:T_Ceremony} {cs:List Value} (h:K_Ceremony.R S H0 x cs):∃a1 c1 a2 c2 a3 c3 a4 c4 a5 c5,cs=[.int .i64 x.1,.slice a1 x.2.1.length c1,.int .i64 x.2.2.1.1,.slice a2 x.2.2.1.2.1.length c2,.slice a3 x.2.2.1.2.2.1.length c3,.slice a4 x.2.2.1.2.2.2.length c4,.slice a5 x.2.2.2.length c5]:=by
 obtain ⟨e0,d0,rfl,h0,h0_⟩:=h
 obtain ⟨e1,d1,rfl,h1,h1_⟩:=h0_
 obtain ⟨e2,d2,rfl,h2,h2_⟩:=h1_
 have h3:=h2_
 obtain rfl:=KI_of h0
 obtain ⟨a1,c1,rfl⟩:=slform h1
 obtain ⟨a2,c2,a3,c3,a4,c4,rfl⟩:=form_Opener h2
 obtain ⟨a5,c5,rfl⟩:=slform h3
 exact ⟨a1,c1,a2,c2,a3,c3,a4,c4,a5,c5,rfl⟩
theorem formM_Ceremony {x:T_Ceremony} {cs:List Value} (h:M_Ceremony.R S H0 x cs):∃a1 c1 a2 c2 a3 c3 a4 c4 a5 c5,cs=[.int .i64 x.1,.slice a1 x.2.1.length c1,.int .i64 x.2.2.1.1,.slice a2 x.2.2.1.2.1.length c2,.slice a3 x.2.2.1.2.2.1.length c3,.slice a4 x.2.2.1.2.2.2.length c4,.slice a5 x.2.2.2.length c5]:=form_Ceremony (le_Ceremony.2 _ _ _ _ h)
theorem split_Ceremony {x:T_Ceremony} {cs:List Value} (h:K_Ceremony.R S H0 x cs):∃a1 c1 a2 c2 a3 c3 a4 c4 a5 c5,cs=[.int .i64 x.1,.slice a1 x.2.1.length c1,.int .i64 x.2.2.1.1,.slice a2 x.2.2.1.2.1.length c2,.slice a3 x.2.2.1.2.2.1.length c3,.slice a4 x.2.2.1.2.2.2.length c4,.slice a5 x.2.2.2.length c5]∧K_SeatS.R S H0 x.2.1 [.slice a1 x.2.1.length c1]∧K_Opener.R S H0 x.2.2.1 [.int .i64 x.2.2.1.1,.slice a2 x.2.2.1.2.1.length c2,.slice a3 x.2.2.1.2.2.1.length c3,.slice a4 x.2.2.1.2.2.2.length c4]∧K_PacketS.R S H0 x.2.2.2 [.slice a5 x.2.2.2.length c5]:=by
 obtain ⟨e0,d0,rfl,h0,h0_⟩:=h
 obtain ⟨e1,d1,rfl,h1,h1_⟩:=h0_
 obtain ⟨e2,d2,rfl,h2,h2_⟩:=h1_
 have h3:=h2_
 obtain rfl:=KI_of h0
 obtain ⟨a1,c1,rfl⟩:=slform h1
 obtain ⟨a2,c2,a3,c3,a4,c4,rfl⟩:=form_Opener h2
 obtain ⟨a5,c5,rfl⟩:=slform h3
 exact ⟨a1,c1,a2,c2,a3,c3,a4,c4,a5,c5,rfl,h1,h2,h3⟩
end
def toCer (c:Cer):T_Ceremony:=(c.ep,c.seats,(c.oe,c.got,c.has,c.named),c.wire)
def cerZ:T_Ceremony:=(0,[],(0,[],[],[]),[])
theorem mk_Ceremony_ {S:Ids} {A:AH} {x:T_Ceremony} {v1 v2 v3 v4 v5:Value} (h1:K_SeatS.R S A x.2.1 [v1]) (h2:K_Int64SS.R S A x.2.2.1.2.1 [v2]) (h3:K_FlagS.R S A x.2.2.1.2.2.1 [v3]) (h4:K_FlagS.R S A x.2.2.1.2.2.2 [v4]) (h5:K_PacketS.R S A x.2.2.2 [v5]):K_Ceremony.R S A x [.int .i64 x.1,v1,.int .i64 x.2.2.1.1,v2,v3,v4,v5]:=
 ⟨[.int .i64 x.1],_,rfl,rfl,[v1],_,rfl,h1,[.int .i64 x.2.2.1.1,v2,v3,v4],[v5],rfl,⟨[.int .i64 x.2.2.1.1],_,rfl,rfl,[v2],_,rfl,h2,[v3],[v4],rfl,h3,h4⟩,h5⟩
theorem Hl.ceremony {t:HT} {pre post:List Value} {S X:Ids} {A:AH} {d:HD} {c:Cer} (h:Hl t pre post S A X d c):K_Ceremony.R S A (toCer c) [.int .i64 c.ep,.slice (some ⟨d.sid,0,some 7⟩) c.seats.length c.seats.length,.int .i64 c.oe,.slice (some ⟨d.gid,0,some 1⟩) c.got.length c.got.length,.slice (some ⟨d.bid,0,some 1⟩) c.has.length c.has.length,.slice (some ⟨d.nid,0,some 1⟩) c.named.length c.named.length,d.wv c.wire.length]:=by
 obtain ⟨g0,gcs,g1,g2,g3⟩:=h.got
 obtain ⟨b0,b1⟩:=h.has
 obtain ⟨n0,n1⟩:=h.named
 exact mk_Ceremony_ (x:=toCer c) (sl1' h.seatSl) (sl1' (Cl.sl g3 g0 g1 rfl h.sx (Nat.le_refl _))) (sl1' (bool_sl b0 b1 rfl (Nat.le_refl _))) (sl1' (bool_sl n0 n1 rfl (Nat.le_refl _))) (sl1' h.wireSl)
theorem built_Cer0:Try.prog.built 64 []=some #[.int .i64 0,.slice none 0 0,.int .i64 0,.slice none 0 0,.slice none 0 0,.slice none 0 0,.slice none 0 0]:=by kernel_rfl
noncomputable def r0_CeremonyAfter (x:T_Deal) (ds:T_DeedS):T_Ceremony:=if givenC x ds=0 then toCer (behind x ds) else cerZ
noncomputable def r1_CeremonyAfter (x:T_Deal) (ds:T_DeedS):Int:=if givenC x ds=0 then ((doneC (codes x (cer0 x.1.1.toNat) ds):Nat):Int) else 0
noncomputable def r2_CeremonyAfter (x:T_Deal) (ds:T_DeedS):Int:=givenC x ds
section
variable {S:Ids} {H0:AH} {x:T_Deal} {ds:T_DeedS} {dcs:List Value}
end
structure AppI {α:Type} (M:Kn α) (xs:List α) (lo i:Nat) (S:Ids) (A:AH) (V:Ids) (cs:List Value):Prop where
 le:i≤xs.length
 len:cs.length=i*M.es
 sub:∀id,V id→S id∧lo≤id
 rows:∃Ws:Nat→Ids,(∀j id,Ws j id→V id)∧(∀j k id,Ws j id→Ws k id→j=k)∧∀(j:Nat) x,j < i→xs[j]?=some x→M.R (Ws j) A x ((cs.drop (j*M.es)).take M.es)
section
variable {α:Type} {M:Kn α} {xs:List α} {lo i:Nat} {S S' V X:Ids} {A A' H1:AH} {cs ys:List Value}
theorem AppI.zero:AppI M xs lo 0 S A (fun _=>False) []:=⟨Nat.zero_le _,by simp,fun _ p=>p.elim,fun _ _=>False,fun _ _ p=>p.elim,fun _ _ _ p=>p.elim,fun _ _ h=>absurd h (by omega)⟩
theorem AppI.up (h:AppI M xs lo i S A V cs) (t:∀id,S id→S' id∧A'.m id=A.m id):AppI M xs lo i S' A' V cs:=by
 obtain ⟨Ws,w1,w2,w3⟩:=h.rows
 exact ⟨h.le,h.len,fun id p=>⟨(t id (h.sub id p).1).1,(h.sub id p).2⟩,Ws,w1,w2,fun j x hj hx=>M.same (fun id p=>(t id (h.sub id (w1 j id p)).1).2) (w3 j x hj hx)⟩
theorem AppI.next (h:AppI M xs lo i S A V cs) {y:α} (hy:xs[i]?=some y) (hl:ys.length=M.es) (hX:∀id,X id→S id∧lo≤id∧¬V id) (hr:M.R X A y ys):AppI M xs lo (i+1) S A (fun id=>V id∨X id) (cs++ys):=by
 obtain ⟨Ws,w1,w2,w3⟩:=h.rows
 have hlen:=h.len
 refine ⟨(List.getElem?_eq_some_iff.1 hy).1,by rw [List.length_append,hlen,hl,Nat.succ_mul],fun id p=>p.elim (h.sub id) (fun p=>⟨(hX id p).1,(hX id p).2.1⟩),fun j id=>(j < i∧Ws j id)∨(j=i∧X id),fun j id p=>p.elim (fun p=>.inl (w1 j id p.2)) (fun p=>.inr p.2),fun j k id p q=>?_,fun j x hj hx=>?_⟩
 ·rcases p with p | p <;> rcases q with q | q
  ·exact w2 j k id p.2 q.2
  ·exact absurd (w1 j id p.2) (hX id q.2).2.2
  ·exact absurd (w1 k id q.2) (hX id p.2).2.2
  ·omega
 ·by_cases e:j=i
  ·subst e
   obtain rfl:y=x:=Option.some.inj (hy.symm.trans hx)
   rw [← hlen,List.drop_left,← hl,List.take_length]
   exact M.more (fun id p=>.inr ⟨rfl,p⟩) hr
  ·have hj:j < i:=by omega
   have:=mul_le' (e:=M.es) hj
   rw [List.drop_append_of_le_length (by omega),List.take_append_of_le_length (by rw [List.length_drop]; omega)]
   exact M.more (fun id p=>.inl ⟨hj,p⟩) (w3 j x hj hx)
theorem AppI.ml {W:Ids} {o c:Nat} {ty:TypeId} (h:AppI M xs lo i S A V cs) (he:i=xs.length) (ho:W o) (hVo:¬V o) (hm:H1.m o=some ⟨ty,true,cs⟩) (hV:∀id,V id→W id∧H1.m id=A.m id) (hc:xs.length≤c):M.Ml W H1 (.slice (some ⟨o,0,some M.es⟩) xs.length c) xs:=by
 obtain ⟨Ws,w1,w2,w3⟩:=h.rows
 subst he
 refine .inr ⟨o,c,_,Ws,rfl,hc,ho,hm,rfl,by rw [h.len]; exact Nat.le_refl _,fun j id p=>⟨(hV id (w1 j id p)).1,fun e=>hVo (e ▸ w1 j id p)⟩,fun j k id=>w2 j k id,fun j x hx=>?_⟩
 have hj:=(List.getElem?_eq_some_iff.1 hx).1
 rw [Nat.zero_add]
 exact M.same (fun id p=>(hV id (w1 j id p)).2) (w3 j x hj hx)
end
section
variable {S:Ids} {H0:AH} {a:Option Addr} {c:Nat}
theorem cloneM {xs:List Int} (hB:B_Int64S xs) (hs:K_Int64S.R S H0 xs [.slice a xs.length c]):SpecM Try.prog S H0 64 [.slice a xs.length c] (fun n v H1=>∃a c,v=.slice a xs.length c∧M_Int64S.R (New n H1.n) H1 xs [.slice a xs.length c]):=fun H hf hz=>by
 obtain ⟨m,v,H1,h1,h2,h3,h4⟩:=cloneI hB (sl1 hs) H hf hz
 obtain ⟨a,c,rfl,h5⟩:=h4
 exact ⟨m,_,H1,h1,h2,h3,a,c,rfl,ml1' h5⟩
theorem copyPurse {x:T_Purse} {cs:List Value} (hB:B_Purse x) (h:K_Purse.R S H0 x cs):SpecM Try.prog S H0 169 [.agg cs.toArray] (fun n v H1=>∃cs,v=.agg cs.toArray∧M_Purse.R (New n H1.n) H1 x cs):=by
 obtain ⟨a1,c1,a2,c2,rfl,h1,h2⟩:=splitk_Purse h
 refine SpecM.of1 Try.func169 rfl (by kernel_rfl) rfl (fun H _=>?_)
 refine KW.callN1 rfl rfl rfl rfl rfl (cloneM hB.2.1 (On.R h1)) (fun v G1 S1 m1 _ _ hv=>?_)
 obtain ⟨b1,d1,rfl,g1⟩:=hv
 refine KW.callN1 rfl rfl rfl rfl rfl (cloneM hB.2.2 (On.R h2)) (fun v G2 S2 m2 _ _ hv=>?_)
 obtain ⟨b2,d2,rfl,g2⟩:=hv
 refine KW.build rfl rfl rfl rfl rfl (built_Purse _ _ _ _ _ _ _) ?_
 refine KW.retM1 rfl rfl rfl rfl (fun H1 g=>?_)
 refine ⟨_,rfl,?_⟩
 have k2:M_Int64S.R (New G1.n H1.n) H1 x.2.2 [.slice b2 x.2.2.length d2]:=(M_Int64S).more (g.inn (H:=G2) (fun _ p=>by have:=p.1; omega)) (g.keep g2)
 have k1:(Kn.mp (M_Int64S) (M_Int64S)).R (New H.n H1.n) H1 (x.2) [.slice b1 x.2.1.length d1,.slice b2 x.2.2.length d2]:=mpR (g.keep g1) k2 (g.inn (H:=G1) (fun _ p=>by have:=p.1; omega)) (fun _ p=>⟨by have:=p.1; have:=m1; omega,p.2⟩) (fun _ o p=>by have:=o.2; have:=p.1; omega)
 have k0:(Kn.mp (KI) (Kn.mp (M_Int64S) (M_Int64S))).R (New H.n H1.n) H1 (x) [.int .i64 x.1,.slice b1 x.2.1.length d1,.slice b2 x.2.2.length d2]:=mpR (X:=None_) (show KI.R None_ H1 _ [.int .i64 x.1] from rfl) k1 (fun _ p=>p.elim) (fun _ p=>p) (fun _ p _=>p.elim)
 exact k0
theorem bool_ml {W:Ids} {A:AH} {o c:Nat} {ty:TypeId} {xs:List Bool} (hW:W o) (hm:A.m o=some ⟨ty,true,xs.map Value.bool⟩) (hl:xs.length≤c):M_FlagS.R W A xs [.slice (some ⟨o,0,some 1⟩) xs.length c]:=
 ml1' (.inr ⟨o,c,_,fun _ _=>False,rfl,hl,hW,hm,rfl,by show xs.length*1≤(xs.map Value.bool).length; simp,fun _ _ p=>p.elim,fun _ _ _ p=>p.elim,fun i x hx=>by
  show ((xs.map Value.bool).drop (0+i*1)).take 1=[.bool x]
  rw [List.take_one,Nat.zero_add,Nat.mul_one,List.head?_drop,List.getElem?_map,hx]
  rfl⟩)
theorem cloneFlag {id:Nat} {ty:TypeId} {xs:List Bool} (hl:xs.length≤1048576) (hS:S id) (hm:H0.m id=some ⟨ty,true,xs.map Value.bool⟩):SpecM Try.prog S H0 170 [.slice (some ⟨id,0,some 1⟩) xs.length xs.length] (fun n v H1=>∃o,v=.slice (some ⟨o,0,some 1⟩) xs.length xs.length∧New n H1.n o∧H1.m o=some ⟨4,true,xs.map Value.bool⟩):=by
 refine SpecM.of1 Try.func170 rfl (by kernel_rfl) rfl (fun H _=>?_)
 have o1:=(inferInstance:On S H0 (Low H.n) H).st id hS
 refine KW.cF rfl rfl (by first | (simp; done) | decide) ?_
 refine KW.lit rfl rfl rfl rfl rfl rfl rfl rfl rfl rfl [] rfl rfl (fun v hv=>by simp at hv) rfl ?_
 refine KW.appU 0 rfl rfl rfl rfl rfl rfl rfl rfl (by decide) rfl (m:=xs.length) (ys:=xs.map Value.bool) (by rfl) (by show _=_*1; simp) (fun H1 g=>?_) (by simp [Value.oneCell']) (by show (0+xs.length)*1≤_; omega) (by show 0+xs.length≤_; omega) (fun o2 n2 ho2 hn2=>?_)
 ·have:=acells_seg (es:=1) (off:=0) (m:=xs.length) (c:=xs.length) ((g.froz id o1.1).2.trans (o1.2.trans hm)) (by show 0+xs.length*1≤(xs.map Value.bool).length; simp)
  refine this.trans ?_
  rw [drop0_take (by simp)]
 ·refine KW.retM1 rfl rfl rfl rfl (fun H1 g=>⟨o2,?_,?_,?_⟩)
  ·show Value.slice (some ⟨o2,0,some 1⟩) (0+xs.length) (0+xs.length)=_
   rw [Nat.zero_add]
  ·have gv:=g.vars 0 _ rfl
   have hn:=g.n_
   exact ⟨Nat.not_lt.1 fun hlt=>gv.2.2 hlt,by rw [hn]; exact gv.2.1⟩
  ·exact (g.blk (j:=0) rfl).1
end
theorem built_SeatI (a b c d e f:Value) (k:Int):Try.prog.built 73 [(0,.agg #[a,b,c]),(1,.agg #[d,e,f]),(2,.int .i64 k)]=some #[a,b,c,d,e,f,.int .i64 k]:=by kernel_rfl
theorem built_Cer1 (k:Int):Try.prog.built 64 [(0,.int .i64 k)]=some #[.int .i64 k,.slice none 0 0,.int .i64 0,.slice none 0 0,.slice none 0 0,.slice none 0 0,.slice none 0 0]:=by kernel_rfl
theorem built_OpenerH (k:Int) (o2 o3:Option Addr) (n2 c2 n3 c3:Nat):Try.prog.built 61 [(0,.int .i64 k),(2,.slice o2 n2 c2),(3,.slice o3 n3 c3)]=some #[.int .i64 k,.slice none 0 0,.slice o2 n2 c2,.slice o3 n3 c3]:=by kernel_rfl
theorem Good.pick4 {S:Ids} {H0 H:AH} {a b c d e f:Var} {n:Nat} (g:Good S H0 [a,b,c,d,e,f] n H):Good S H0 [a,b,c,f] n H:=by
 refine g.sub (fun i=>if i < 3 then i else i+2) (fun i j h=>by split at h <;> split at h <;> omega) (fun i u hi=>?_)
 match i,hi with
 | 0,hi=>exact hi
 | 1,hi=>exact hi
 | 2,hi=>exact hi
 | 3,hi=>exact hi
 | i+4,hi=>simp at hi
theorem Good.pick5b {S:Ids} {H0 H:AH} {a b c d e f:Var} {n:Nat} (g:Good S H0 [a,b,c,d,e,f] n H):Good S H0 [a,b,c,d,f] n H:=by
 refine g.sub (fun i=>if i < 4 then i else i+1) (fun i j h=>by split at h <;> split at h <;> omega) (fun i u hi=>?_)
 match i,hi with
 | 0,hi=>exact hi
 | 1,hi=>exact hi
 | 2,hi=>exact hi
 | 3,hi=>exact hi
 | 4,hi=>exact hi
 | i+5,hi=>simp at hi
theorem T5d {a b c d:Var} {i:Nat} {ty:TypeId} {cs cs':List Value} (h:cs=cs'):([a,b,c,d,(i,⟨ty,true,cs⟩)]:List Var)=[a,b,c,d,(i,⟨ty,true,cs'⟩)]:=by rw [h]
theorem T4c {a b c:Var} {i:Nat} {ty:TypeId} {cs cs':List Value} (h:cs=cs'):([a,b,c,(i,⟨ty,true,cs⟩)]:List Var)=[a,b,c,(i,⟨ty,true,cs'⟩)]:=by rw [h]
structure RC where
 i:Nat
 o:Option Nat
 S:Ids
 A:AH
 V:Ids
 cs:List Value
theorem mkM_Packet {A:AH} {X1 X2:Ids} {y:T_Packet} {v1 v2:Value} (h1:M_Int64S.R X1 A y.2.2.2.1 [v1]) (h2:M_Int64S.R X2 A y.2.2.2.2 [v2]) (hd:∀id,X1 id→X2 id→False):M_Packet.R (fun id=>X1 id∨X2 id) A y [.bool y.1,.int .i64 y.2.1,.int .i64 y.2.2.1,v1,v2]:=by
 have k3:(Kn.mp M_Int64S M_Int64S).R (fun id=>X1 id∨X2 id) A (y.2.2.2.1,y.2.2.2.2) ([v1]++[v2]):=mpR h1 h2 (fun _ p=>.inl p) (fun _ p=>.inr p) hd
 have k2:(Kn.mp KI (Kn.mp M_Int64S M_Int64S)).R (fun id=>X1 id∨X2 id) A (y.2.2.1,y.2.2.2.1,y.2.2.2.2) ([.int .i64 y.2.2.1]++([v1]++[v2])):=mpR (X:=None_) (show KI.R None_ A _ [.int .i64 y.2.2.1] from rfl) k3 (fun _ p=>p.elim) (fun _ p=>p) (fun _ p _=>p.elim)
 have k1:(Kn.mp KI (Kn.mp KI (Kn.mp M_Int64S M_Int64S))).R (fun id=>X1 id∨X2 id) A (y.2.1,y.2.2.1,y.2.2.2.1,y.2.2.2.2) ([.int .i64 y.2.1]++([.int .i64 y.2.2.1]++([v1]++[v2]))):=mpR (X:=None_) (show KI.R None_ A _ [.int .i64 y.2.1] from rfl) k2 (fun _ p=>p.elim) (fun _ p=>p) (fun _ p _=>p.elim)
 exact mpR (X:=None_) (show KBo.R None_ A _ [.bool y.1] from rfl) k1 (fun _ p=>p.elim) (fun _ p=>p) (fun _ p _=>p.elim)
theorem Good.pick6 {S:Ids} {H0 H:AH} {a b c d e f g h:Var} {n:Nat} (G:Good S H0 [a,b,c,d,e,f,g,h] n H):Good S H0 [a,b,c,d,e,h] n H:=by
 refine G.sub (fun i=>if i < 5 then i else i+2) (fun i j h=>by split at h <;> split at h <;> omega) (fun i u hi=>?_)
 match i,hi with
 | 0,hi=>exact hi
 | 1,hi=>exact hi
 | 2,hi=>exact hi
 | 3,hi=>exact hi
 | 4,hi=>exact hi
 | 5,hi=>exact hi
 | i+6,hi=>simp at hi
theorem T6d {a b c d e:Var} {i:Nat} {ty:TypeId} {cs cs':List Value} (h:cs=cs'):([a,b,c,d,e,(i,⟨ty,true,cs⟩)]:List Var)=[a,b,c,d,e,(i,⟨ty,true,cs'⟩)]:=by rw [h]
theorem mkM_Seat {A:AH} {X1 X2:Ids} {y:T_Seat} {v1 v2 v3 v4:Value} (h1:M_Purse.R X1 A y.1 [.int .i64 y.1.1,v1,v2]) (h2:M_Purse.R X2 A y.2.1 [.int .i64 y.2.1.1,v3,v4]) (hd:∀id,X1 id→X2 id→False):M_Seat.R (fun id=>X1 id∨X2 id) A y [.int .i64 y.1.1,v1,v2,.int .i64 y.2.1.1,v3,v4,.int .i64 y.2.2]:=by
 have k1:(Kn.mp M_Purse KI).R X2 A (y.2.1,y.2.2) ([.int .i64 y.2.1.1,v3,v4]++[.int .i64 y.2.2]):=mpR (Y:=None_) h2 (show KI.R None_ A _ [.int .i64 y.2.2] from rfl) (fun _ p=>p) (fun _ p=>p.elim) (fun _ _ p=>p.elim)
 exact mpR h1 k1 (fun _ p=>.inl p) (fun _ p=>.inr p) hd
section
variable {S:Ids} {H0:AH} {x:T_Ceremony} {sid gid bid nid:Nat} {aw:Option Addr} {cw:Nat}
theorem copied (hBs:∀y∈x.2.1,B_Seat y) (hBw:∀y∈x.2.2.2,B_Packet y) (hl1:x.2.1.length≤7) (hp1:0 < x.2.1.length) (hp2:0 < x.2.2.1.2.1.length) (hBg:∀g∈x.2.2.1.2.1,B_Int64S g) (hl2:x.2.2.1.2.1.length≤7) (hl3:x.2.2.1.2.2.1.length≤7) (hl4:x.2.2.1.2.2.2.length≤7) (hl5:x.2.2.2.length≤12)
  (hSe:K_Seat.Sl S H0 (.slice (some ⟨sid,0,some 7⟩) x.2.1.length x.2.1.length) x.2.1) (hGo:KI.sl.Sl S H0 (.slice (some ⟨gid,0,some 1⟩) x.2.2.1.2.1.length x.2.2.1.2.1.length) x.2.2.1.2.1) (hHa:S bid∧H0.m bid=some ⟨4,true,x.2.2.1.2.2.1.map Value.bool⟩) (hNa:S nid∧H0.m nid=some ⟨4,true,x.2.2.1.2.2.2.map Value.bool⟩) (hWi:K_Packet.Sl S H0 (.slice aw x.2.2.2.length cw) x.2.2.2):
  SpecM Try.prog S H0 96 [.agg #[.int .i64 x.1,.slice (some ⟨sid,0,some 7⟩) x.2.1.length x.2.1.length,.int .i64 x.2.2.1.1,.slice (some ⟨gid,0,some 1⟩) x.2.2.1.2.1.length x.2.2.1.2.1.length,.slice (some ⟨bid,0,some 1⟩) x.2.2.1.2.2.1.length x.2.2.1.2.2.1.length,.slice (some ⟨nid,0,some 1⟩) x.2.2.1.2.2.2.length x.2.2.1.2.2.2.length,.slice aw x.2.2.2.length cw]] (fun n v H1=>∃cs:List Value,v=.agg cs.toArray∧M_Ceremony.R (New n H1.n) H1 x cs):=by
 obtain ⟨ep,ss,⟨oe,got,has,named⟩,wi⟩:=x
 simp only at hBs hBw hBg hp1 hp2 hl1 hl2 hl3 hl4 hl5 hSe hGo hHa hNa hWi
 refine SpecM.of1 Try.func96 rfl (by kernel_rfl) rfl (fun H _=>?_)
 have hSe0:=hSe.up (S':=Low H.n) (H':=H)
 have hGo0:=hGo.up (S':=Low H.n) (H':=H)
 have hWi0:=hWi.up (S':=Low H.n) (H':=H)
 refine KW.build rfl rfl rfl rfl rfl (built_Cer1 _) ?_
 refine KW.lpM rfl rfl (fun s:RC=>[(1,.pointer (some ⟨H.n,0,some 0⟩)),(2,.pointer (some ⟨H.n+1,0,some 1⟩)),(3,.pointer (some ⟨H.n+2,0,some 2⟩)),(14,.slice (some ⟨sid,0,some 7⟩) ss.length ss.length),(15,.int .i64 ss.length),(16,.int .i64 s.i)]) (fun s=>s.S) (fun s=>s.A) (fun s=>[(H.n,⟨64,true,[.int .i64 ep,.slice (some ⟨sid,0,some 7⟩) ss.length ss.length,.int .i64 oe,.slice (some ⟨gid,0,some 1⟩) got.length got.length,.slice (some ⟨bid,0,some 1⟩) has.length has.length,.slice (some ⟨nid,0,some 1⟩) named.length named.length,.slice aw wi.length cw]⟩),(H.n+1,⟨64,true,[.int .i64 0,.slice none 0 0,.int .i64 0,.slice none 0 0,.slice none 0 0,.slice none 0 0,.slice none 0 0]⟩),(H.n+2,⟨64,true,[.int .i64 ep,(match s.o with | none=>.slice none 0 0 | some o=>.slice (some ⟨o,0,some 7⟩) s.i s.i),.int .i64 0,.slice none 0 0,.slice none 0 0,.slice none 0 0,.slice none 0 0]⟩)]++(match s.o with | none=>[] | some o=>[(o,⟨73,true,s.cs⟩)])) (fun s=>AppI M_Seat ss H.n s.i s.S s.A s.V s.cs∧St (Low H.n) H s.S s.A∧(s.o=none↔s.i=0)) (fun s=>ss.length - s.i) (⟨0,none,Low H.n,H,fun _=>False,[]⟩) (⟨AppI.zero,fun id p=>⟨p,rfl⟩,by simp⟩) ⟨rfl,rfl,rfl,rfl,rfl,rfl,trivial⟩ rfl rfl (rfl) (fun s hi bE n=>?_)
 obtain ⟨i,ob,S2,A2,V,cs⟩:=s
 obtain ⟨i1,i2,i3⟩:=hi
 simp only at i1 i2 i3
 have ile:=i1.le
 have icl:cs.length=i*7:=i1.len
 refine KW.fact (p:=H.n+2 < n∧∀id,S2 id→id < n) (fun H1 g=>⟨(g.vars 2 _ rfl).2.1,fun id p=>by have:=(g.froz id p).1; have:=g.n_; omega⟩) (fun hf=>?_)
 refine KW.cnd rfl rfl (fun k1=>?gin) (fun k1=>?gout)
 case gin=>
  have k1:(i:Int) < (ss.length:Int):=k1
  have hSe2:K_Seat.Sl S2 A2 _ ss:=sl_mk hSe0 i2
  cases ob with
  | none=>
   obtain rfl:=i3.1 rfl
   obtain rfl:cs=[]:=List.eq_nil_of_length_eq_zero (by omega)
   simp only
   refine KW.getS (td:=.struct #[]) hSe2 rfl rfl rfl rfl rfl rfl rfl rfl rfl rfl rfl rfl rfl rfl rfl rfl rfl (by omega) (k1) (fun y cy hy hsy=>?_)
   have hy:ss[0]?=some y:=hy
   obtain ⟨f1,g1,f2,g2,f3,g3,f4,g4,rfl,hp1,hp2⟩:=splitk_Seat hsy
   have hBy:=hBs y (List.mem_of_getElem? hy)
   refine KW.callN1 rfl rfl rfl rfl rfl (copyPurse hBy.1 (On.R hp1)) (fun v G1 S3 m3 _ _ hv=>?_)
   obtain ⟨w1,rfl,q1⟩:=hv
   obtain ⟨b1,e1,b2,e2,rfl⟩:=formM_Purse q1
   refine KW.callN1 rfl rfl rfl rfl rfl (copyPurse hBy.2.1 (On.R hp2)) (fun v G2 S4 m4 _ _ hv=>?_)
   obtain ⟨w2,rfl,q2⟩:=hv
   obtain ⟨b3,e3,b4,e4,rfl⟩:=formM_Purse q2
   refine KW.build rfl rfl rfl rfl rfl (built_SeatI _ _ _ _ _ _ _) ?_
   have o1:=(inferInstance:On (New (n+1) G1.n) G1 S4 G2).st
   have o2:=(inferInstance:On (New G1.n G2.n) G2 S4 G2).st
   have o24:=(inferInstance:On S2 A2 S4 G2).st
   have q1':M_Purse.R (New (n+1) G1.n) G2 y.1 _:=M_Purse.same (fun id p=>(o1 id p).2) q1
   have qS:=mkM_Seat (y:=y) q1' q2 (fun id p r=>by have:=p.2; have:=r.1; omega)
   have hX:∀id,(New (n+1) G1.n id∨New G1.n G2.n id)→S4 id∧H.n≤id∧¬V id:=fun id p=>by
    refine ⟨p.elim (fun p=>(o1 id p).1) (fun p=>(o2 id p).1),?_,fun v=>?_⟩
    ·rcases p with p | p <;> (have:=p.1; omega)
    ·have:=hf.2 id (i1.sub id v).1
     rcases p with p | p <;> (have:=p.1; omega)
   have A1:=(i1.up (S':=S4) (A':=G2) (fun id p=>o24 id p)).next hy rfl hX qS
   have st4:St (Low H.n) H S4 G2:=i2.trans o24
   refine KW.litS1 rfl rfl rfl rfl rfl rfl rfl rfl rfl rfl rfl rfl ?_
   refine KW.appNS rfl rfl rfl rfl rfl rfl rfl (by decide) rfl (fun H1 g=>acells_seg (g.blk (j:=4) rfl).1 (by show 0+1*7≤7; decide)) rfl (by decide) (by decide) (by decide) ?_
   refine KW.nxt rfl rfl (fun H' g=>⟨⟨1,some (G2.n+1),S4,G2,_,_⟩,⟨A1,st4,by simp⟩,by first | omega | (simp only; omega),⟨rfl,rfl,rfl,rfl,rfl,congrArg (Value.int .i64) (inc64 (by omega)),trivial⟩,g.pick4⟩)
  | some o=>
   simp only
   refine KW.getS (td:=.struct #[]) hSe2 rfl rfl rfl rfl rfl rfl rfl rfl rfl rfl rfl rfl rfl rfl rfl rfl rfl (by omega) (k1) (fun y cy hy hsy=>?_)
   have hy:ss[i]?=some y:=hy
   obtain ⟨f1,g1,f2,g2,f3,g3,f4,g4,rfl,hp1,hp2⟩:=splitk_Seat hsy
   have hBy:=hBs y (List.mem_of_getElem? hy)
   refine KW.callN1 rfl rfl rfl rfl rfl (copyPurse hBy.1 (On.R hp1)) (fun v G1 S3 m3 _ _ hv=>?_)
   obtain ⟨w1,rfl,q1⟩:=hv
   obtain ⟨b1,e1,b2,e2,rfl⟩:=formM_Purse q1
   refine KW.callN1 rfl rfl rfl rfl rfl (copyPurse hBy.2.1 (On.R hp2)) (fun v G2 S4 m4 _ _ hv=>?_)
   obtain ⟨w2,rfl,q2⟩:=hv
   obtain ⟨b3,e3,b4,e4,rfl⟩:=formM_Purse q2
   refine KW.build rfl rfl rfl rfl rfl (built_SeatI _ _ _ _ _ _ _) ?_
   have o1:=(inferInstance:On (New (n+1) G1.n) G1 S4 G2).st
   have o2:=(inferInstance:On (New G1.n G2.n) G2 S4 G2).st
   have o24:=(inferInstance:On S2 A2 S4 G2).st
   have q1':M_Purse.R (New (n+1) G1.n) G2 y.1 _:=M_Purse.same (fun id p=>(o1 id p).2) q1
   have qS:=mkM_Seat (y:=y) q1' q2 (fun id p r=>by have:=p.2; have:=r.1; omega)
   have hX:∀id,(New (n+1) G1.n id∨New G1.n G2.n id)→S4 id∧H.n≤id∧¬V id:=fun id p=>by
    refine ⟨p.elim (fun p=>(o1 id p).1) (fun p=>(o2 id p).1),?_,fun v=>?_⟩
    ·rcases p with p | p <;> (have:=p.1; omega)
    ·have:=hf.2 id (i1.sub id v).1
     rcases p with p | p <;> (have:=p.1; omega)
   have A1:=(i1.up (S':=S4) (A':=G2) (fun id p=>o24 id p)).next hy rfl hX qS
   have st4:St (Low H.n) H S4 G2:=i2.trans o24
   refine KW.litS1 rfl rfl rfl rfl rfl rfl rfl rfl rfl rfl rfl rfl ?_
   refine KW.appTS (m:=1) (ys:=[.int .i64 y.1.1,.slice b1 y.1.2.1.length e1,.slice b2 y.1.2.2.length e2,.int .i64 y.2.1.1,.slice b3 y.2.1.2.1.length e3,.slice b4 y.2.1.2.2.length e4,.int .i64 y.2.2]) 3 rfl rfl rfl rfl rfl rfl rfl rfl (by decide) rfl (fun H1 g=>acells_seg (g.blk (j:=5) rfl).1 (by show 0+1*7≤7; decide)) (by show 0+i*7≤cs.length; omega) rfl (by decide) (by show (i+1)*120≤_; omega) (by show i+1≤_; omega) ?_
   have e9:(cs.drop 0).take (i*7)++[.int .i64 y.1.1,.slice b1 y.1.2.1.length e1,.slice b2 y.1.2.2.length e2,.int .i64 y.2.1.1,.slice b3 y.2.1.2.1.length e3,.slice b4 y.2.1.2.2.length e4,.int .i64 y.2.2]=cs++[.int .i64 y.1.1,.slice b1 y.1.2.1.length e1,.slice b2 y.1.2.2.length e2,.int .i64 y.2.1.1,.slice b3 y.2.1.2.1.length e3,.slice b4 y.2.1.2.2.length e4,.int .i64 y.2.2]:=by rw [drop0_take icl]
   refine KW.nxt rfl rfl (fun H' g=>⟨⟨i+1,some (G2.n+1),S4,G2,_,_⟩,⟨A1,st4,by simp⟩,by first | omega | (simp only; omega),⟨rfl,rfl,rfl,rfl,rfl,congrArg (Value.int .i64) (inc64 (by omega)),trivial⟩,(g.take 4).castT (show ([_,_,_,(G2.n+1,⟨_,true,_⟩)]:List Var)=[_,_,_,(G2.n+1,⟨_,true,_⟩)] from T4c e9)⟩)
 have k1:¬(i:Int) < (ss.length:Int):=k1
 obtain rfl:i=ss.length:=by omega
 cases ob with
 | none=>have:=i3.1 rfl; omega
 | some o=>
 simp only
 have hHa2:=i2 bid ((inferInstance:On S H0 (Low H.n) H).st bid hHa.1).1
 have hNa2:=i2 nid ((inferInstance:On S H0 (Low H.n) H).st nid hNa.1).1
 have eHa:A2.m bid=_:=hHa2.2.trans (((inferInstance:On S H0 (Low H.n) H).st bid hHa.1).2.trans hHa.2)
 have eNa:A2.m nid=_:=hNa2.2.trans (((inferInstance:On S H0 (Low H.n) H).st nid hNa.1).2.trans hNa.2)
 refine KW.cnt (fun nA hnA=>?_)
 refine KW.callN1 rfl rfl rfl rfl rfl (cloneFlag (by omega) hHa2.1 eHa) (fun v B1 SB1 mB1 _ _ hv=>?_)
 obtain ⟨bo,rfl,hb1,hb2⟩:=hv
 have ob1:=(inferInstance:On S2 A2 SB1 B1).st
 refine KW.callN1 rfl rfl rfl rfl rfl (cloneFlag (by omega) (ob1 nid hNa2.1).1 ((ob1 nid hNa2.1).2.trans eNa)) (fun v B2 SB2 mB2 _ _ hv=>?_)
 obtain ⟨no,rfl,hc1,hc2⟩:=hv
 refine KW.build rfl rfl rfl rfl rfl (built_OpenerH _ _ _ _ _ _ _) ?_
 have o12:=(inferInstance:On S2 A2 SB2 B2).st
 have st2:St (Low H.n) H SB2 B2:=i2.trans o12
 refine KW.lpM rfl rfl (fun s:RC=>[(1,.pointer (some ⟨H.n,0,some 0⟩)),(2,.pointer (some ⟨H.n+1,0,some 1⟩)),(3,.pointer (some ⟨H.n+2,0,some 2⟩)),(50,.slice (some ⟨gid,0,some 1⟩) got.length got.length),(51,.int .i64 got.length),(52,.int .i64 s.i)]) (fun s=>s.S) (fun s=>s.A) (fun s=>[(H.n,⟨64,true,[.int .i64 ep,.slice (some ⟨sid,0,some 7⟩) ss.length ss.length,.int .i64 oe,.slice (some ⟨gid,0,some 1⟩) got.length got.length,.slice (some ⟨bid,0,some 1⟩) has.length has.length,.slice (some ⟨nid,0,some 1⟩) named.length named.length,.slice aw wi.length cw]⟩),(H.n+1,⟨64,true,[.int .i64 0,.slice none 0 0,.int .i64 0,.slice none 0 0,.slice none 0 0,.slice none 0 0,.slice none 0 0]⟩),(H.n+2,⟨64,true,[.int .i64 ep,.slice (some ⟨o,0,some 7⟩) ss.length ss.length,.int .i64 oe,(match s.o with | none=>.slice none 0 0 | some o=>.slice (some ⟨o,0,some 1⟩) s.i s.i),.slice (some ⟨bo,0,some 1⟩) has.length has.length,.slice (some ⟨no,0,some 1⟩) named.length named.length,.slice none 0 0]⟩),(o,⟨73,true,cs⟩)]++(match s.o with | none=>[] | some o=>[(o,⟨36,true,s.cs⟩)])) (fun s=>AppI KI.ml got B2.n s.i s.S s.A s.V s.cs∧St SB2 B2 s.S s.A∧(s.o=none↔s.i=0)) (fun s=>got.length - s.i) (⟨0,none,SB2,B2,fun _=>False,[]⟩) (⟨AppI.zero,fun id p=>⟨p,rfl⟩,by simp⟩) ⟨rfl,rfl,rfl,rfl,rfl,rfl,trivial⟩ rfl rfl (rfl) (fun s hi bE n=>?_)
 obtain ⟨j,ob2,S5,A5,V5,cs5⟩:=s
 obtain ⟨j1,j2,j3⟩:=hi
 simp only at j1 j2 j3
 have jle:=j1.le
 have jcl:cs5.length=j*1:=j1.len
 have st5:St (Low H.n) H S5 A5:=st2.trans j2
 refine KW.fact (p:=B2.n≤n∧∀id,S5 id→id < n) (fun H1 g=>⟨?_,fun id p=>by have:=(g.froz id p).1; have:=g.n_; omega⟩) (fun hf2=>?_)
 ·have h1:=hc1.1
  have h2:=hc1.2
  have hS:=((inferInstance:On (New B1.n B2.n) B2 SB2 B2).st (B2.n - 1) ⟨by omega,by omega⟩).1
  have h3:=(g.froz _ (j2 _ hS).1).1
  have h4:=g.n_
  omega
 refine KW.cnd rfl rfl (fun k5=>?gi2) (fun k5=>?go2)
 case gi2=>
  have k5:(j:Int) < (got.length:Int):=k5
  have hGo2:KI.sl.Sl S5 A5 _ got:=sl_mk hGo0 st5
  cases ob2 with
  | none=>
   obtain rfl:=j3.1 rfl
   obtain rfl:cs5=[]:=List.eq_nil_of_length_eq_zero (by omega)
   simp only
   refine KW.getL hGo2 rfl rfl rfl rfl rfl rfl rfl rfl rfl rfl rfl rfl rfl rfl rfl rfl (by omega) (k5) (fun y ya yc hy hsy=>?_)
   have hy:got[0]?=some y:=hy
   have hBy:=hBg y (List.mem_of_getElem? hy)
   refine KW.callN1 rfl rfl rfl rfl rfl (cloneM hBy (sl1' hsy)) (fun v G1 S6 m6 _ _ hv=>?_)
   obtain ⟨b1,e1,rfl,q1⟩:=hv
   refine KW.lit rfl rfl rfl rfl rfl rfl rfl rfl rfl rfl [.slice b1 y.length e1] rfl rfl (fun v hv=>by simp at hv; subst hv; rfl) rfl ?_
   have o1:=(inferInstance:On (New n G1.n) G1 S6 G1).st
   have o56:=(inferInstance:On S5 A5 S6 G1).st
   have hX:∀id,New n G1.n id→S6 id∧B2.n≤id∧¬V5 id:=fun id p=>by
    refine ⟨(o1 id p).1,?_,fun v=>?_⟩
    ·have:=p.1; omega
    ·have:=hf2.2 id (j1.sub id v).1
     have:=p.1; omega
   have A2':=(j1.up (S':=S6) (A':=G1) (fun id p=>o56 id p)).next (ys:=[.slice b1 y.length e1]) hy rfl hX q1
   have st6:St SB2 B2 S6 G1:=j2.trans o56
   refine KW.appNS (m:=1) (ys:=[.slice b1 y.length e1]) rfl rfl rfl rfl rfl rfl rfl (by decide) rfl (fun H1 g=>acells_seg (g.blk (j:=4) rfl).1 (by show 0+1*1≤1; decide)) rfl (by decide) (by show 1*24≤_; omega) (by omega) ?_
   refine KW.nxt rfl rfl (fun H' g=>⟨⟨1,some (G1.n+1),S6,G1,_,_⟩,⟨A2',st6,by simp⟩,by first | omega | (simp only; omega),⟨rfl,rfl,rfl,rfl,rfl,congrArg (Value.int .i64) (inc64 (by omega)),trivial⟩,g.pick5b⟩)
  | some o5=>
   simp only
   refine KW.getL hGo2 rfl rfl rfl rfl rfl rfl rfl rfl rfl rfl rfl rfl rfl rfl rfl rfl (by omega) (k5) (fun y ya yc hy hsy=>?_)
   have hy:got[j]?=some y:=hy
   have hBy:=hBg y (List.mem_of_getElem? hy)
   refine KW.callN1 rfl rfl rfl rfl rfl (cloneM hBy (sl1' hsy)) (fun v G1 S6 m6 _ _ hv=>?_)
   obtain ⟨b1,e1,rfl,q1⟩:=hv
   refine KW.lit rfl rfl rfl rfl rfl rfl rfl rfl rfl rfl [.slice b1 y.length e1] rfl rfl (fun v hv=>by simp at hv; subst hv; rfl) rfl ?_
   have o1:=(inferInstance:On (New n G1.n) G1 S6 G1).st
   have o56:=(inferInstance:On S5 A5 S6 G1).st
   have hX:∀id,New n G1.n id→S6 id∧B2.n≤id∧¬V5 id:=fun id p=>by
    refine ⟨(o1 id p).1,?_,fun v=>?_⟩
    ·have:=p.1; omega
    ·have:=hf2.2 id (j1.sub id v).1
     have:=p.1; omega
   have A2':=(j1.up (S':=S6) (A':=G1) (fun id p=>o56 id p)).next (ys:=[.slice b1 y.length e1]) hy rfl hX q1
   have st6:St SB2 B2 S6 G1:=j2.trans o56
   refine KW.appTS (m:=1) (ys:=[.slice b1 y.length e1]) 4 rfl rfl rfl rfl rfl rfl rfl rfl (by decide) rfl (fun H1 g=>acells_seg (g.blk (j:=5) rfl).1 (by show 0+1*1≤1; decide)) (by show 0+j*1≤cs5.length; omega) rfl (by decide) (by show (j+1)*24≤_; omega) (by show j+1≤_; omega) ?_
   have e9:(cs5.drop 0).take (j*1)++[.slice b1 y.length e1]=cs5++[.slice b1 y.length e1]:=by rw [drop0_take jcl]
   refine KW.nxt rfl rfl (fun H' g=>⟨⟨j+1,some (G1.n+1),S6,G1,_,_⟩,⟨A2',st6,by simp⟩,by first | omega | (simp only; omega),⟨rfl,rfl,rfl,rfl,rfl,congrArg (Value.int .i64) (inc64 (by omega)),trivial⟩,(g.take 5).castT (show ([_,_,_,_,(G1.n+1,⟨_,true,_⟩)]:List Var)=[_,_,_,_,(G1.n+1,⟨_,true,_⟩)] from T5d e9)⟩)
 have k5:¬(j:Int) < (got.length:Int):=k5
 obtain rfl:j=got.length:=by omega
 cases ob2 with
 | none=>have:=j3.1 rfl; omega
 | some o5=>
 simp only
 refine KW.lpM rfl rfl (fun s:RC=>[(2,.pointer (some ⟨H.n+1,0,some 1⟩)),(3,.pointer (some ⟨H.n+2,0,some 2⟩)),(67,.slice aw wi.length cw),(68,.int .i64 wi.length),(69,.int .i64 s.i)]) (fun s=>s.S) (fun s=>s.A) (fun s=>[(H.n,⟨64,true,[.int .i64 ep,.slice (some ⟨sid,0,some 7⟩) ss.length ss.length,.int .i64 oe,.slice (some ⟨gid,0,some 1⟩) got.length got.length,.slice (some ⟨bid,0,some 1⟩) has.length has.length,.slice (some ⟨nid,0,some 1⟩) named.length named.length,.slice aw wi.length cw]⟩),(H.n+1,⟨64,true,[.int .i64 0,.slice none 0 0,.int .i64 0,.slice none 0 0,.slice none 0 0,.slice none 0 0,.slice none 0 0]⟩),(H.n+2,⟨64,true,[.int .i64 ep,.slice (some ⟨o,0,some 7⟩) ss.length ss.length,.int .i64 oe,.slice (some ⟨o5,0,some 1⟩) got.length got.length,.slice (some ⟨bo,0,some 1⟩) has.length has.length,.slice (some ⟨no,0,some 1⟩) named.length named.length,(match s.o with | none=>.slice none 0 0 | some o=>.slice (some ⟨o,0,some 5⟩) s.i s.i)]⟩),(o,⟨73,true,cs⟩),(o5,⟨36,true,cs5⟩)]++(match s.o with | none=>[] | some o=>[(o,⟨153,true,s.cs⟩)])) (fun s=>AppI M_Packet wi H.n s.i s.S s.A s.V s.cs∧St S5 A5 s.S s.A∧(s.o=none↔s.i=0)∧∀id,s.V id→¬S5 id) (fun s=>wi.length - s.i) (⟨0,none,S5,A5,fun _=>False,[]⟩) (⟨AppI.zero,fun id p=>⟨p,rfl⟩,by simp,fun _ p=>p.elim⟩) ⟨rfl,rfl,rfl,rfl,rfl,trivial⟩ rfl rfl (rfl) (fun s hi bE n=>?_)
 obtain ⟨k,ob7,S7,A7,V7,cs7⟩:=s
 obtain ⟨l1,l2,l3,l4⟩:=hi
 simp only at l1 l2 l3 l4
 have kle:=l1.le
 have kcl:cs7.length=k*5:=l1.len
 have st7:St (Low H.n) H S7 A7:=st5.trans l2
 refine KW.fact (p:=H.n+2 < n∧∀id,S7 id→id < n) (fun H1 g=>⟨(g.vars 2 _ rfl).2.1,fun id p=>by have:=(g.froz id p).1; have:=g.n_; omega⟩) (fun hf3=>?_)
 refine KW.cnd rfl rfl (fun k6=>?gi3) (fun k6=>?go3)
 case gi3=>
  have k6:(k:Int) < (wi.length:Int):=k6
  have hWi2:K_Packet.Sl S7 A7 _ wi:=sl_mk hWi0 st7
  cases ob7 with
  | none=>
   obtain rfl:=l3.1 rfl
   obtain rfl:cs7=[]:=List.eq_nil_of_length_eq_zero (by omega)
   simp only
   refine KW.getS (td:=.struct #[]) hWi2 rfl rfl rfl rfl rfl rfl rfl rfl rfl rfl rfl rfl rfl rfl rfl rfl rfl (by omega) (k6) (fun y cy hy hsy=>?_)
   have hy:wi[0]?=some y:=hy
   obtain ⟨f1,g1,f2,g2,rfl,hp3,hp4⟩:=splitk_Packet hsy
   have hBy:=hBw y (List.mem_of_getElem? hy)
   refine KW.callN1 rfl rfl rfl rfl rfl (cloneM hBy.2.2.2.1 (On.R hp3)) (fun v G1 S8 m8 _ _ hv=>?_)
   obtain ⟨b1,e1,rfl,q1⟩:=hv
   refine KW.callN1 rfl rfl rfl rfl rfl (cloneM hBy.2.2.2.2 (On.R hp4)) (fun v G2 S9 m9 _ _ hv=>?_)
   obtain ⟨b2,e2,rfl,q2⟩:=hv
   have p1:=(inferInstance:On (New (n+1) G1.n) G1 S9 G2).st
   have p2:=(inferInstance:On (New G1.n G2.n) G2 S9 G2).st
   have p79:=(inferInstance:On S7 A7 S9 G2).st
   have q1':M_Int64S.R (New (n+1) G1.n) G2 y.2.2.2.1 _:=M_Int64S.same (fun id p=>(p1 id p).2) q1
   have qS:=mkM_Packet (y:=y) q1' q2 (fun id p r=>by have:=p.2; have:=r.1; omega)
   have big:∀id,(New (n+1) G1.n id∨New G1.n G2.n id)→n≤id:=fun id p=>by rcases p with p | p <;> (have:=p.1; omega)
   have hX:∀id,(New (n+1) G1.n id∨New G1.n G2.n id)→S9 id∧H.n≤id∧¬V7 id:=fun id p=>by
    have hb:=big id p
    refine ⟨p.elim (fun p=>(p1 id p).1) (fun p=>(p2 id p).1),by omega,fun v=>?_⟩
    have:=hf3.2 id (l1.sub id v).1
    omega
   have A3:=(l1.up (S':=S9) (A':=G2) (fun id p=>p79 id p)).next hy rfl hX qS
   have st9:St S5 A5 S9 G2:=l2.trans p79
   have l4':∀id,(V7 id∨(New (n+1) G1.n id∨New G1.n G2.n id))→¬S5 id:=fun id p q=>by
    rcases p with p | p
    ·exact l4 id p q
    ·have:=big id p
     have:=hf3.2 id (l2 id q).1
     omega
   refine KW.litS1 rfl rfl rfl rfl rfl rfl rfl rfl rfl rfl rfl rfl ?_
   refine KW.appNS rfl rfl rfl rfl rfl rfl rfl (by decide) rfl (fun H1 g=>acells_seg (g.blk (j:=6) rfl).1 (by show 0+1*5≤5; decide)) rfl (by decide) (by decide) (by decide) ?_
   refine KW.nxt rfl rfl (fun H' g=>⟨⟨1,some (G2.n+1),S9,G2,_,_⟩,⟨A3,st9,by simp,l4'⟩,by first | omega | (simp only; omega),⟨rfl,rfl,rfl,rfl,congrArg (Value.int .i64) (inc64 (by omega)),trivial⟩,g.pick6⟩)
  | some o7=>
   simp only
   refine KW.getS (td:=.struct #[]) hWi2 rfl rfl rfl rfl rfl rfl rfl rfl rfl rfl rfl rfl rfl rfl rfl rfl rfl (by omega) (k6) (fun y cy hy hsy=>?_)
   have hy:wi[k]?=some y:=hy
   obtain ⟨f1,g1,f2,g2,rfl,hp3,hp4⟩:=splitk_Packet hsy
   have hBy:=hBw y (List.mem_of_getElem? hy)
   refine KW.callN1 rfl rfl rfl rfl rfl (cloneM hBy.2.2.2.1 (On.R hp3)) (fun v G1 S8 m8 _ _ hv=>?_)
   obtain ⟨b1,e1,rfl,q1⟩:=hv
   refine KW.callN1 rfl rfl rfl rfl rfl (cloneM hBy.2.2.2.2 (On.R hp4)) (fun v G2 S9 m9 _ _ hv=>?_)
   obtain ⟨b2,e2,rfl,q2⟩:=hv
   have p1:=(inferInstance:On (New (n+1) G1.n) G1 S9 G2).st
   have p2:=(inferInstance:On (New G1.n G2.n) G2 S9 G2).st
   have p79:=(inferInstance:On S7 A7 S9 G2).st
   have q1':M_Int64S.R (New (n+1) G1.n) G2 y.2.2.2.1 _:=M_Int64S.same (fun id p=>(p1 id p).2) q1
   have qS:=mkM_Packet (y:=y) q1' q2 (fun id p r=>by have:=p.2; have:=r.1; omega)
   have big:∀id,(New (n+1) G1.n id∨New G1.n G2.n id)→n≤id:=fun id p=>by rcases p with p | p <;> (have:=p.1; omega)
   have hX:∀id,(New (n+1) G1.n id∨New G1.n G2.n id)→S9 id∧H.n≤id∧¬V7 id:=fun id p=>by
    have hb:=big id p
    refine ⟨p.elim (fun p=>(p1 id p).1) (fun p=>(p2 id p).1),by omega,fun v=>?_⟩
    have:=hf3.2 id (l1.sub id v).1
    omega
   have A3:=(l1.up (S':=S9) (A':=G2) (fun id p=>p79 id p)).next hy rfl hX qS
   have st9:St S5 A5 S9 G2:=l2.trans p79
   have l4':∀id,(V7 id∨(New (n+1) G1.n id∨New G1.n G2.n id))→¬S5 id:=fun id p q=>by
    rcases p with p | p
    ·exact l4 id p q
    ·have:=big id p
     have:=hf3.2 id (l2 id q).1
     omega
   refine KW.litS1 rfl rfl rfl rfl rfl rfl rfl rfl rfl rfl rfl rfl ?_
   refine KW.appTS (m:=1) (ys:=[.bool y.1,.int .i64 y.2.1,.int .i64 y.2.2.1,.slice b1 y.2.2.2.1.length e1,.slice b2 y.2.2.2.2.length e2]) 5 rfl rfl rfl rfl rfl rfl rfl rfl (by decide) rfl (fun H1 g=>acells_seg (g.blk (j:=7) rfl).1 (by show 0+1*5≤5; decide)) (by show 0+k*5≤cs7.length; omega) rfl (by decide) (by show (k+1)*72≤_; omega) (by show k+1≤_; omega) ?_
   have e9:(cs7.drop 0).take (k*5)++[.bool y.1,.int .i64 y.2.1,.int .i64 y.2.2.1,.slice b1 y.2.2.2.1.length e1,.slice b2 y.2.2.2.2.length e2]=cs7++[.bool y.1,.int .i64 y.2.1,.int .i64 y.2.2.1,.slice b1 y.2.2.2.1.length e1,.slice b2 y.2.2.2.2.length e2]:=by rw [drop0_take kcl]
   refine KW.nxt rfl rfl (fun H' g=>⟨⟨k+1,some (G2.n+1),S9,G2,_,_⟩,⟨A3,st9,by simp,l4'⟩,by first | omega | (simp only; omega),⟨rfl,rfl,rfl,rfl,congrArg (Value.int .i64) (inc64 (by omega)),trivial⟩,(g.take 6).castT (show ([_,_,_,_,_,(G2.n+1,⟨_,true,_⟩)]:List Var)=[_,_,_,_,_,(G2.n+1,⟨_,true,_⟩)] from T6d e9)⟩)
 have k6:¬(k:Int) < (wi.length:Int):=k6
 obtain rfl:k=wi.length:=by omega
 have hVlt:∀id,V id→id < nA:=fun id p=>by have:=hf.2 id (i1.sub id p).1; omega
 have c7:∀id,S2 id→S7 id∧A7.m id=A2.m id:=fun id p=>(o12.trans (j2.trans l2)) id p
 have cB:∀id,SB2 id→S7 id∧A7.m id=B2.m id:=fun id p=>(j2.trans l2) id p
 have oB:=(inferInstance:On (New nA B1.n) B1 SB2 B2).st bo hb1
 have oC:=(inferInstance:On (New B1.n B2.n) B2 SB2 B2).st no hc1
 cases ob7 with
 | none=>
  have hw0:=l3.1 rfl
  simp only
  refine KW.retM rfl rfl rfl rfl (fun id hid=>st7 id hid) (fun H1 g=>⟨_,rfl,?_⟩)
  have gv3:=g.vars 3 _ rfl
  have gv4:=g.vars 4 _ rfl
  have d34:o≠o5:=fun e=>by have:=g.dist 3 4 _ _ rfl rfl e; omega
  have hn:=g.n_
  have V2:∀id,V id→S7 id∧H1.m id=A2.m id:=fun id p=>⟨(c7 id (i1.sub id p).1).1,(g.froz id (c7 id (i1.sub id p).1).1).2.trans (c7 id (i1.sub id p).1).2⟩
  have V52:∀id,V5 id→S7 id∧H1.m id=A5.m id:=fun id p=>⟨(l2 id (j1.sub id p).1).1,(g.froz id (l2 id (j1.sub id p).1).1).2.trans (l2 id (j1.sub id p).1).2⟩
  have r1:M_SeatS.R (fun id=>id=o∨V id) H1 ss _:=ml1' (i1.ml rfl (.inl rfl) (fun p=>gv3.2.2 (V2 o p).1) (g.blk (j:=3) rfl).1 (fun id p=>⟨.inr p,(V2 id p).2⟩) (Nat.le_refl _))
  have r2:M_Int64SS.R (fun id=>id=o5∨V5 id) H1 got _:=ml1' (j1.ml rfl (.inl rfl) (fun p=>gv4.2.2 (V52 o5 p).1) (g.blk (j:=4) rfl).1 (fun id p=>⟨.inr p,(V52 id p).2⟩) (Nat.le_refl _))
  have hwn:wi=[]:=List.eq_nil_of_length_eq_zero hw0
  subst hwn
  have r5:M_PacketS.R None_ H1 [] [.slice none 0 0]:=ml1' (.inl ⟨rfl,_,_,rfl,fun _=>rfl⟩)
  have r3:M_FlagS.R (fun id=>id=bo) H1 has _:=bool_ml rfl (((g.froz bo (cB bo oB.1).1).2.trans (cB bo oB.1).2).trans (oB.2.trans hb2)) (Nat.le_refl _)
  have r4:M_FlagS.R (fun id=>id=no) H1 named _:=bool_ml rfl (((g.froz no (cB no oC.1).1).2.trans (cB no oC.1).2).trans (oC.2.trans hc2)) (Nat.le_refl _)
  have eb:=hb1.1
  have eb2:=hb1.2
  have ec:=hc1.1
  have ec2:=hc1.2
  have k34:(Kn.mp M_FlagS M_FlagS).R (fun id=>id=bo∨id=no) H1 (has,named) _:=mpR r3 r4 (fun _ p=>.inl p) (fun _ p=>.inr p) (fun id p q=>by have e1:id=bo:=p; have e2:id=no:=q; omega)
  have k234:(Kn.mp M_Int64SS (Kn.mp M_FlagS M_FlagS)).R (fun id=>(id=o5∨V5 id)∨(id=bo∨id=no)) H1 (got,has,named) _:=mpR r2 k34 (fun _ p=>.inl p) (fun _ p=>.inr p) (fun id p q=>by
   rcases p with p | p
   ·rcases q with q | q
    ·exact gv4.2.2 (by rw [← p,q]; exact (cB bo oB.1).1)
    ·exact gv4.2.2 (by rw [← p,q]; exact (cB no oC.1).1)
   ·have:=(j1.sub id p).2
    rcases q with q | q <;> omega)
  have kO:M_Opener.R (fun id=>(id=o5∨V5 id)∨(id=bo∨id=no)) H1 (oe,got,has,named) _:=mpR (X:=None_) (show KI.R None_ H1 _ [.int .i64 oe] from rfl) k234 (fun _ p=>p.elim) (fun _ p=>p) (fun _ p _=>p.elim)
  have inO:∀id,((id=o5∨V5 id)∨(id=bo∨id=no))→id=o5∨S5 id:=fun id p=>by
   rcases p with (p | p) | (p | p)
   ·exact .inl p
   ·exact .inr (j1.sub id p).1
   ·exact .inr (by rw [p]; exact (j2 bo oB.1).1)
   ·exact .inr (by rw [p]; exact (j2 no oC.1).1)
  have kOW:(Kn.mp M_Opener M_PacketS).R (fun id=>((id=o5∨V5 id)∨(id=bo∨id=no))) H1 ((oe,got,has,named),[]) _:=mpR kO r5 (fun _ p=>p) (fun _ p=>p.elim) (fun id p q=>q.elim)
  have kS:(Kn.mp M_SeatS (Kn.mp M_Opener M_PacketS)).R (fun id=>(id=o∨V id)∨((id=o5∨V5 id)∨(id=bo∨id=no))) H1 (ss,(oe,got,has,named),[]) _:=mpR r1 kOW (fun _ p=>.inl p) (fun _ p=>.inr p) (fun id p q=>by
   rcases p with p | p
   ·rcases inO id q with q | q
    ·exact d34 (p.symm.trans q)
    ·exact gv3.2.2 (by have:=(l2 id q).1; rw [p] at this; exact this)
   ·have hv:=hVlt id p
    rcases q with q | q
    ·rcases q with q | q
     ·exact gv4.2.2 (by have:=(V2 id p).1; rw [q] at this; exact this)
     ·have:=(j1.sub id q).2; omega
    ·rcases q with q | q <;> omega)
  have kC:M_Ceremony.R _ H1 (ep,ss,(oe,got,has,named),[]) _:=mpR (X:=None_) (show KI.R None_ H1 _ [.int .i64 ep] from rfl) kS (fun _ p=>p.elim) (fun _ p=>p) (fun _ p _=>p.elim)
  have lt7:∀id,S7 id→id < H1.n:=fun id p=>by have:=(g.froz id p).1; omega
  have ge:∀id,¬S7 id→H.n≤id:=fun id p=>Nat.not_lt.1 fun q=>p (st7 id q).1
  have w3:New H.n H1.n o:=⟨ge o gv3.2.2,by rw [hn]; exact gv3.2.1⟩
  have w4:New H.n H1.n o5:=⟨ge o5 gv4.2.2,by rw [hn]; exact gv4.2.1⟩
  refine (M_Ceremony).more (fun id p=>?_) kC
  rcases p with (p | p) | ((p | p) | (p | p))
  ·rw [p]; exact w3
  ·exact ⟨(i1.sub id p).2,lt7 id (V2 id p).1⟩
  ·rw [p]; exact w4
  ·exact ⟨by have:=(j1.sub id p).2; omega,lt7 id (V52 id p).1⟩
  ·rw [p]; exact ⟨by omega,lt7 bo (cB bo oB.1).1⟩
  ·rw [p]; exact ⟨by omega,lt7 no (cB no oC.1).1⟩
 | some o7=>
  simp only
  refine KW.retM rfl rfl rfl rfl (fun id hid=>st7 id hid) (fun H1 g=>⟨_,rfl,?_⟩)
  have gv3:=g.vars 3 _ rfl
  have gv4:=g.vars 4 _ rfl
  have gv5:=g.vars 5 _ rfl
  have d34:o≠o5:=fun e=>by have:=g.dist 3 4 _ _ rfl rfl e; omega
  have d35:o≠o7:=fun e=>by have:=g.dist 3 5 _ _ rfl rfl e; omega
  have d45:o5≠o7:=fun e=>by have:=g.dist 4 5 _ _ rfl rfl e; omega
  have hn:=g.n_
  have V2:∀id,V id→S7 id∧H1.m id=A2.m id:=fun id p=>⟨(c7 id (i1.sub id p).1).1,(g.froz id (c7 id (i1.sub id p).1).1).2.trans (c7 id (i1.sub id p).1).2⟩
  have V52:∀id,V5 id→S7 id∧H1.m id=A5.m id:=fun id p=>⟨(l2 id (j1.sub id p).1).1,(g.froz id (l2 id (j1.sub id p).1).1).2.trans (l2 id (j1.sub id p).1).2⟩
  have V72:∀id,V7 id→S7 id∧H1.m id=A7.m id:=fun id p=>⟨(l1.sub id p).1,(g.froz id (l1.sub id p).1).2⟩
  have r1:M_SeatS.R (fun id=>id=o∨V id) H1 ss _:=ml1' (i1.ml rfl (.inl rfl) (fun p=>gv3.2.2 (V2 o p).1) (g.blk (j:=3) rfl).1 (fun id p=>⟨.inr p,(V2 id p).2⟩) (Nat.le_refl _))
  have r2:M_Int64SS.R (fun id=>id=o5∨V5 id) H1 got _:=ml1' (j1.ml rfl (.inl rfl) (fun p=>gv4.2.2 (V52 o5 p).1) (g.blk (j:=4) rfl).1 (fun id p=>⟨.inr p,(V52 id p).2⟩) (Nat.le_refl _))
  have r5:M_PacketS.R (fun id=>id=o7∨V7 id) H1 wi _:=ml1' (l1.ml rfl (.inl rfl) (fun p=>gv5.2.2 (V72 o7 p).1) (g.blk (j:=5) rfl).1 (fun id p=>⟨.inr p,(V72 id p).2⟩) (Nat.le_refl _))
  have r3:M_FlagS.R (fun id=>id=bo) H1 has _:=bool_ml rfl (((g.froz bo (cB bo oB.1).1).2.trans (cB bo oB.1).2).trans (oB.2.trans hb2)) (Nat.le_refl _)
  have r4:M_FlagS.R (fun id=>id=no) H1 named _:=bool_ml rfl (((g.froz no (cB no oC.1).1).2.trans (cB no oC.1).2).trans (oC.2.trans hc2)) (Nat.le_refl _)
  have eb:=hb1.1
  have eb2:=hb1.2
  have ec:=hc1.1
  have ec2:=hc1.2
  have k34:(Kn.mp M_FlagS M_FlagS).R (fun id=>id=bo∨id=no) H1 (has,named) _:=mpR r3 r4 (fun _ p=>.inl p) (fun _ p=>.inr p) (fun id p q=>by have e1:id=bo:=p; have e2:id=no:=q; omega)
  have k234:(Kn.mp M_Int64SS (Kn.mp M_FlagS M_FlagS)).R (fun id=>(id=o5∨V5 id)∨(id=bo∨id=no)) H1 (got,has,named) _:=mpR r2 k34 (fun _ p=>.inl p) (fun _ p=>.inr p) (fun id p q=>by
   rcases p with p | p
   ·rcases q with q | q
    ·exact gv4.2.2 (by rw [← p,q]; exact (cB bo oB.1).1)
    ·exact gv4.2.2 (by rw [← p,q]; exact (cB no oC.1).1)
   ·have:=(j1.sub id p).2
    rcases q with q | q <;> omega)
  have kO:M_Opener.R (fun id=>(id=o5∨V5 id)∨(id=bo∨id=no)) H1 (oe,got,has,named) _:=mpR (X:=None_) (show KI.R None_ H1 _ [.int .i64 oe] from rfl) k234 (fun _ p=>p.elim) (fun _ p=>p) (fun _ p _=>p.elim)
  have inO:∀id,((id=o5∨V5 id)∨(id=bo∨id=no))→id=o5∨S5 id:=fun id p=>by
   rcases p with (p | p) | (p | p)
   ·exact .inl p
   ·exact .inr (j1.sub id p).1
   ·exact .inr (by rw [p]; exact (j2 bo oB.1).1)
   ·exact .inr (by rw [p]; exact (j2 no oC.1).1)
  have kOW:(Kn.mp M_Opener M_PacketS).R (fun id=>((id=o5∨V5 id)∨(id=bo∨id=no))∨(id=o7∨V7 id)) H1 ((oe,got,has,named),wi) _:=mpR kO r5 (fun _ p=>.inl p) (fun _ p=>.inr p) (fun id p q=>by
   rcases inO id p with p | p <;> rcases q with q | q
   ·exact d45 (p.symm.trans q)
   ·exact gv4.2.2 (by have:=(V72 id q).1; rw [p] at this; exact this)
   ·exact gv5.2.2 (by have:=(l2 id p).1; rw [q] at this; exact this)
   ·exact l4 id q p)
  have kS:(Kn.mp M_SeatS (Kn.mp M_Opener M_PacketS)).R (fun id=>(id=o∨V id)∨(((id=o5∨V5 id)∨(id=bo∨id=no))∨(id=o7∨V7 id))) H1 (ss,(oe,got,has,named),wi) _:=mpR r1 kOW (fun _ p=>.inl p) (fun _ p=>.inr p) (fun id p q=>by
   rcases p with p | p
   ·rcases q with q | q
    ·rcases inO id q with q | q
     ·exact d34 (p.symm.trans q)
     ·exact gv3.2.2 (by have:=(l2 id q).1; rw [p] at this; exact this)
    ·rcases q with q | q
     ·exact d35 (p.symm.trans q)
     ·exact gv3.2.2 (by have:=(V72 id q).1; rw [p] at this; exact this)
   ·have hv:=hVlt id p
    rcases q with (q | q) | q
    ·rcases q with q | q
     ·exact gv4.2.2 (by have:=(V2 id p).1; rw [q] at this; exact this)
     ·have:=(j1.sub id q).2; omega
    ·rcases q with q | q <;> omega
    ·rcases q with q | q
     ·exact gv5.2.2 (by have:=(V2 id p).1; rw [q] at this; exact this)
     ·exact l4 id q (j2 id (o12 id (i1.sub id p).1).1).1)
  have kC:M_Ceremony.R _ H1 (ep,ss,(oe,got,has,named),wi) _:=mpR (X:=None_) (show KI.R None_ H1 _ [.int .i64 ep] from rfl) kS (fun _ p=>p.elim) (fun _ p=>p) (fun _ p _=>p.elim)
  have lt7:∀id,S7 id→id < H1.n:=fun id p=>by have:=(g.froz id p).1; omega
  have ge:∀id,¬S7 id→H.n≤id:=fun id p=>Nat.not_lt.1 fun q=>p (st7 id q).1
  have w3:New H.n H1.n o:=⟨ge o gv3.2.2,by rw [hn]; exact gv3.2.1⟩
  have w4:New H.n H1.n o5:=⟨ge o5 gv4.2.2,by rw [hn]; exact gv4.2.1⟩
  have w5:New H.n H1.n o7:=⟨ge o7 gv5.2.2,by rw [hn]; exact gv5.2.1⟩
  refine (M_Ceremony).more (fun id p=>?_) kC
  rcases p with (p | p) | ((p | p) | (p | p)) | (p | p)
  ·rw [p]; exact w3
  ·exact ⟨(i1.sub id p).2,lt7 id (V2 id p).1⟩
  ·rw [p]; exact w4
  ·exact ⟨by have:=(j1.sub id p).2; omega,lt7 id (V52 id p).1⟩
  ·rw [p]; exact ⟨by omega,lt7 bo (cB bo oB.1).1⟩
  ·rw [p]; exact ⟨by omega,lt7 no (cB no oC.1).1⟩
  ·rw [p]; exact w5
  ·exact ⟨(l1.sub id p).2,lt7 id (V72 id p).1⟩
end
theorem cerZ_M {S:Ids} {A:AH}:M_Ceremony.R S A cerZ [.int .i64 0,.slice none 0 0,.int .i64 0,.slice none 0 0,.slice none 0 0,.slice none 0 0,.slice none 0 0]:=by
 have z:∀{α:Type} {d:Kn α},d.ml.R None_ A [] [.slice none 0 0]:=fun {α d}=>ml1' (.inl ⟨rfl,none,0,rfl,fun _=>rfl⟩)
 have n:∀id:Nat,None_ id→S id:=fun _ p=>p.elim
 have nn:∀id:Nat,None_ id→None_ id:=fun _ p=>p
 have dd:∀id:Nat,None_ id→None_ id→False:=fun _ p _=>p.elim
 have kO:M_Opener.R None_ A (0,[],[],[]) _:=mpR (X:=None_) (show KI.R None_ A 0 [.int .i64 0] from rfl) (mpR z (mpR z z nn nn dd) nn nn dd) nn nn dd
 exact mpR (X:=None_) (show KI.R None_ A 0 [.int .i64 0] from rfl) (mpR z (mpR kO z nn nn dd) nn nn dd) n n dd
theorem sum_each {α:Type} {f:α→Nat} {M:Nat}:∀l:List α,(∀y∈l,f y≤M)→sum (l.map f)≤l.length*M
 | [],_=>by simp [sum]
 | a :: l,h=>by
  have h1:=h a List.mem_cons_self
  have h2:=sum_each l (fun y hy=>h y (List.mem_cons_of_mem _ hy))
  simp only [List.map_cons,sum,List.length_cons,Nat.succ_mul]
  omega
theorem epI {x:T_Deal} {e:Int} (hd:DealOk x) (h:e=-1∨EpOk x e):I64 e:=by
 have:=hd.bl
 rcases h with h | ⟨h1,h2⟩
 ·rw [h]; exact ⟨by decide,by decide⟩
 ·exact ⟨by omega,by omega⟩
theorem own20 {x:T_Deal} (hd:DealOk x) (j:Int):(rowsOf x.1.2.1 j).length≤20:=by
 have h1:=rowsOf_len x.1.2.1 j
 have h2:=hd.sch.len
 have h3:=hd.sch.mat.len
 omega
theorem purse20 {x:T_Deal} {j:Int} {p:T_Purse} (hd:DealOk x) (h:PuOk x j p):B_Purse p∧sz_Purse p≤40:=by
 obtain ⟨e,v,t⟩:=p
 have h20:=own20 hd j
 rcases h with ⟨h1,h2,h3⟩ | ⟨h1,h2⟩
 ·simp only at h1 h2 h3
  subst h1; subst h2; subst h3
  exact ⟨⟨⟨by decide,by decide⟩,by show (0:Nat)≤_; decide,by show (0:Nat)≤_; decide⟩,by decide⟩
 ·have h3:=h2.vl
  have h4:=h2.tl
  simp only at h3 h4
  refine ⟨⟨epI hd (.inr h1),?_,?_⟩,?_⟩
  ·show v.length≤_; omega
  ·show t.length≤_; omega
  ·show v.length+t.length≤_; omega
theorem CerOk.bound {x:T_Deal} {c:Cer} (hd:DealOk x) (h:CerOk x c):B_Ceremony (toCer c)∧c.seats.length≤7:=by
 have h7:=hd.sch.h7
 have hp:=hd.prime.2
 have hsl:=h.sl
 have h1:=h.gl
 have h2:=h.hl
 have h3:=h.nl
 have s7:c.seats.length≤7:=by omega
 have hse:∀y∈c.seats,B_Seat y∧szE_Seat y≤100:=fun y hy=>by
  obtain ⟨j,hj⟩:=List.mem_iff_getElem?.1 hy
  have ok:=h.se j y hj
  obtain ⟨p1,p2⟩:=purse20 hd ok.pu
  obtain ⟨q1,q2⟩:=purse20 hd ok.sa
  have l:=ok.lie
  refine ⟨⟨p1,q1,⟨by omega,by omega⟩⟩,?_⟩
  simp only [sz_Purse] at p2 q2
  simp only [szE_Seat]
  omega
 have hpk:∀y∈c.wire,B_Packet y∧szE_Packet y≤100:=fun y hy=>by
  have ok:=h.wi y hy
  have h20:=own20 hd y.2.1
  have a1:=ok.rw.vl
  have a2:=ok.rw.tl
  have a3:=ok.ho.1
  have a4:=ok.ho.2
  have v1:y.2.2.2.1.length≤20:=by omega
  have v2:y.2.2.2.2.length≤20:=by omega
  refine ⟨⟨trivial,⟨by omega,by omega⟩,epI hd (.inr ok.ep),?_,?_⟩,?_⟩
  ·show _≤_; omega
  ·show _≤_; omega
  ·simp only [szE_Packet,sz_Int64S]; omega
 have hgo:∀g∈c.got,g.length≤20:=fun g hg=>by
  obtain ⟨j,hj⟩:=List.mem_iff_getElem?.1 hg
  have h20:=own20 hd j
  rcases h.go j g hj with ⟨e,_⟩ | ⟨e,_⟩
  ·rw [e]; exact Nat.zero_le _
  ·omega
 have b1:=sum_each c.seats (fun y hy=>(hse y hy).2)
 have b2:=sum_each c.wire (fun y hy=>(hpk y hy).2)
 have b3:=sum_each c.got hgo
 have w12:=h.wl
 have fl:∀l:List Bool,l.length=c.seats.length→B_FlagS l:=fun l hl=>by
  refine ⟨by omega,fun _ _=>trivial,?_⟩
  have:=sum_each (f:=szE_Flag) (M:=1) l (fun _ _=>Nat.le_refl _)
  omega
 refine ⟨⟨epI hd (.inr h.ep),⟨by show c.seats.length≤_; omega,fun y hy=>(hse y hy).1,?_⟩,⟨epI hd h.oe,⟨by show c.got.length≤_; omega,?_⟩,fl _ h2,fl _ h3⟩,⟨by show c.wire.length≤_; omega,fun y hy=>(hpk y hy).1,?_⟩⟩,s7⟩
 ·show sum (c.seats.map szE_Seat)≤_; omega
 ·show sum (c.got.map List.length)≤_; omega
 ·show sum (c.wire.map szE_Packet)≤_; omega
section
variable {S:Ids} {H0:AH} {x:T_Deal} {ds:T_DeedS} {dcs:List Value}
theorem impl_CeremonyAfter {a c} (hB:B_Deal x) (hBd:B_DeedS ds) (hD:K_Deal.R S H0 x dcs) (hs:K_DeedS.R S H0 ds [.slice a ds.length c]):SpecM Try.prog S H0 32 [.agg dcs.toArray,.slice a ds.length c] (fun n v H1=>∃cs:List Value,v=.tuple #[.agg cs.toArray,.int .i64 (r1_CeremonyAfter x ds),.int .i64 (r2_CeremonyAfter x ds)]∧M_Ceremony.R (New n H1.n) H1 (r0_CeremonyAfter x ds) cs):=by
 have hs:=sl1 hs
 obtain ⟨d1,d2,d3,d4,d5,d6,d7,d8,rfl⟩:=form_Deal hD
 refine SpecM.of1 Try.func32 rfl (by kernel_rfl) rfl (fun H _=>?_)
 have hD0:K_Deal.R (Low H.n) H x _:=On.R hD
 have hs0:=hs.up (S':=Low H.n) (H':=H)
 refine KW.callE rfl rfl rfl rfl rfl (deedsCode hB hBd.len hD0 hs0) (fun _ _=>?_)
 unfold r0_CeremonyAfter r1_CeremonyAfter r2_CeremonyAfter
 refine KW.cndB rfl rfl (fun k1=>?_) (fun k1=>?_)
 ·have k1:givenC x ds≠0:=by simpa using k1
  rw [if_neg k1,if_neg k1]
  refine KW.build rfl rfl rfl rfl rfl (built_Cer0) ?_
  refine KW.retM1 rfl rfl rfl rfl (fun H1 g=>⟨_,rfl,cerZ_M⟩)
 have k1:givenC x ds=0:=by simpa using k1
 rw [if_pos k1,if_pos k1,k1]
 obtain ⟨hd,hdp,h400⟩:=given0 k1
 have ok:=behind_ok hd hdp
 obtain ⟨hBc,h7⟩:=ok.bound hd
 refine KW.fact (fun _ g=>g.nle (H1:=H)) (fun hn0=>?_)
 refine KW.callN1 rfl rfl rfl rfl rfl (implAfter hd hdp h400 hB hD0 hs0) (fun v H1 S1 m1 _ _ hv=>?_)
 obtain ⟨d,X,rfl,hh⟩:=hv
 have hh1:=hh.on (S':=S1) (A':=H1)
 obtain ⟨ks,hks⟩:∃ks,codes x (cer0 x.1.1.toNat) ds=ks:=⟨_,rfl⟩
 rw [hks]
 obtain ⟨cb,hcb⟩:∃cb,behind x ds=cb:=⟨_,rfl⟩
 have hcp:play x (cer0 x.1.1.toNat) ds=cb:=hcb
 rw [hcp] at hh1
 rw [hcb] at ok hBc h7 ⊢
 have hha:=hh1.hall
 have hSe:=hh1.seatSl
 have hWi:=hh1.wireSl
 obtain ⟨g0,gcs,g1,g2,g3⟩:=hh1.got
 have hGo:KI.sl.Sl S1 H1 (.slice (some ⟨d.gid,0,some 1⟩) cb.got.length cb.got.length) cb.got:=Cl.sl g3 g0 g1 rfl hh1.sx (Nat.le_refl _)
 have hHa:=hh1.has
 have hNa:=hh1.named
 have hwi:=hh1.wire
 have h1s:=hd.sch.h1
 have hsl:=ok.sl
 have hgl:=ok.gl
 have hhl:=ok.hl
 have hnl:=ok.nl
 obtain ⟨hid,sid,gid,bid,nid,w⟩:=d
 obtain ⟨aw,cw,hwv⟩:∃aw cw,HD.wv ⟨hid,sid,gid,bid,nid,w⟩ cb.wire.length=.slice aw cb.wire.length cw:=by
  cases w with
  | none=>
   have e:cb.wire=[]:=hwi
   rw [e]
   exact ⟨none,0,rfl⟩
  | some iq=>exact ⟨_,_,rfl⟩
 have hha2:H1.m hid=some ⟨HTI.h,true,[.int .i64 cb.ep,.slice (some ⟨sid,0,some 7⟩) cb.seats.length cb.seats.length,.int .i64 cb.oe,.slice (some ⟨gid,0,some 1⟩) cb.got.length cb.got.length,.slice (some ⟨bid,0,some 1⟩) cb.has.length cb.has.length,.slice (some ⟨nid,0,some 1⟩) cb.named.length cb.named.length,.slice aw cb.wire.length cw]++[.int .i64 x.1.1,.slice d1 x.1.2.1.length d2,.int .i64 x.1.2.2.1,.int .i64 x.1.2.2.2.1,.slice d3 x.1.2.2.2.2.length d4,.int .i64 x.2.1,.slice d5 x.2.2.1.length d6,.slice d7 x.2.2.2.length d8]⟩:=by
  have h:=hha.2
  simp only [HD.cells,hwv] at h
  exact h
 rw [hwv] at hWi
 refine KW.ldP hha.1 hha2 rfl rfl rfl rfl rfl (bload_seg (ps:=[.int .i64 cb.ep,.slice (some ⟨sid,0,some 7⟩) cb.seats.length cb.seats.length,.int .i64 cb.oe,.slice (some ⟨gid,0,some 1⟩) cb.got.length cb.got.length,.slice (some ⟨bid,0,some 1⟩) cb.has.length cb.has.length,.slice (some ⟨nid,0,some 1⟩) cb.named.length cb.named.length,.slice aw cb.wire.length cw]) rfl rfl rfl (by show 0+7≤15; decide) rfl) ?_
 have hBs:=hBc.2.1.each
 have hBw:=hBc.2.2.2.each
 have hBg:=hBc.2.2.1.2.1.each
 have w12:=ok.wl
 refine KW.callN1 rfl rfl rfl rfl rfl (copied (x:=toCer cb) hBs hBw h7 (by show 0 < cb.seats.length; omega) (by show 0 < cb.got.length; omega) hBg (by show cb.got.length≤7; omega) (by show cb.has.length≤7; omega) (by show cb.named.length≤7; omega) (by show cb.wire.length≤12; omega) hSe hGo hHa hNa hWi) (fun v H2 S2 m2 _ _ hv=>?_)
 obtain ⟨cs2,rfl,hM⟩:=hv
 obtain ⟨f1,e1,f2,e2,f3,e3,f4,e4,f5,e5,rfl⟩:=formM_Ceremony hM
 refine KW.retM1 rfl rfl rfl rfl (fun H1 g=>⟨_,rfl,(M_Ceremony).more (g.inn (H:=H2) (fun _ p=>by have:=p.1; omega)) (g.keep hM)⟩)
end
end Go.Proofs.Ytlapbbffoapleaa.Am
namespace Go.Proofs.Ytlapbbffoapleaa.Am
open Go Go.RowKit Go.Proofs Go.Proofs.Ytlapbbffoapleaa.Pl
theorem lie_zero {p:Int} {vals:List Int} (h:Elems p vals):lieOf p vals 0=vals:=by
 cases vals with
 | nil=>rfl
 | cons v vs=>
  have:=h v (List.mem_cons_self ..)
  show ((v+0)%p) :: vs=_
  rw [Int.add_zero,Int.emod_eq_of_lt this.1 (by omega)]
section
variable {S:Ids} {H0:AH}
theorem a2At {bs:List Int} (hb:∀x∈bs,0≤x∧x < 256) {a:Option Addr} {cc:Nat} {at_ n:Int} (hat:0≤at_) (hn:1≤n∧n≤1000000) (hs:KB.Sl S H0 (.slice a bs.length cc) bs):Spec Try.prog S H0 11 [.slice a bs.length cc,.int .i64 at_,.int .i64 n] (fun v=>∃r:Int,v=.int .i64 r∧0≤r∧r < n):=by
 refine Spec.of1 Try.func11 rfl (by kernel_rfl) rfl (fun H _=>?_)
 refine KW.tst rfl rfl (fun k1=>?_) (fun k1=>?_)
 ·refine KW.cT rfl rfl (by first | (simp; done) | decide) ?_
  exact KW.ret rfl rfl rfl rfl (⟨0,rfl,Int.le_refl _,by omega⟩)
 ·have k1:¬at_≥(bs.length:Int):=k1
  refine KW.no rfl rfl (by omega) ?_
  refine KW.getI hs.up rfl rfl rfl rfl rfl rfl rfl rfl rfl rfl rfl rfl rfl rfl rfl rfl (by omega) (by omega) (fun y hy=>?_)
  have hyb:=hb y (List.mem_of_getElem? hy)
  have ey:IntKind.i64.wrap y=y:=wr (by omega) (by omega)
  refine KW.rem rfl rfl rfl rfl rfl rfl (by rw [ey]; omega) (by omega) ?_
  exact KW.ret rfl rfl rfl rfl (⟨_,rfl,by rw [ey]; exact Int.emod_nonneg _ (by omega),by rw [ey]; exact Int.emod_lt_of_pos _ (by omega)⟩)
end
end Go.Proofs.Ytlapbbffoapleaa.Am
namespace Go.Proofs.Ytlapbbffoapleaa.Am
open Go Go.RowKit Go.Proofs
section
variable {S:Ids} {H0:AH}
theorem samePurse {x:T_Purse} {a1 c1 a2 c2 b1 d1 b2 d2} (hv:x.2.1.length≤1048576) (ht:x.2.2.length≤1048576) (h1:KI.Sl S H0 (.slice a1 x.2.1.length c1) x.2.1) (h2:KI.Sl S H0 (.slice a2 x.2.2.length c2) x.2.2) (k1:KI.Sl S H0 (.slice b1 x.2.1.length d1) x.2.1) (k2:KI.Sl S H0 (.slice b2 x.2.2.length d2) x.2.2):
  Spec Try.prog S H0 34 [.agg #[.int .i64 x.1,.slice a1 x.2.1.length c1,.slice a2 x.2.2.length c2],.agg #[.int .i64 x.1,.slice b1 x.2.1.length d1,.slice b2 x.2.2.length d2]] (fun v=>v=.bool true):=by
 refine Spec.of1 Try.func34 rfl (by kernel_rfl) rfl (fun H _=>?_)
 refine KW.tT rfl rfl (by simp) ?_
 refine KW.callE rfl rfl rfl rfl rfl (l00Same hv h1.up k1.up) (fun _ _=>?_)
 rw [tv_true (rfl:x.2.1=x.2.1)]
 refine KW.tT rfl rfl (by first | (simp; done) | decide) ?_
 refine KW.callE rfl rfl rfl rfl rfl (l00Same ht h2.up k2.up) (fun _ _=>?_)
 rw [tv_true (rfl:x.2.2=x.2.2)]
 exact KW.ret rfl rfl rfl rfl (rfl)
theorem sameOpener {oe:Int} {got:List (List Int)} {has nam:List Bool} {a1 c1 a2 c2 a3 c3 b1 d1 b2 d2 b3 d3} (hg:∀g∈got,g.length≤1048576) (hl:got.length≤1048576) (e1:has.length=got.length) (e2:nam.length=got.length)
  (h1:KI.sl.Sl S H0 (.slice a1 got.length c1) got) (h2:KBo.Sl S H0 (.slice a2 has.length c2) has) (h3:KBo.Sl S H0 (.slice a3 nam.length c3) nam) (k1:KI.sl.Sl S H0 (.slice b1 got.length d1) got) (k2:KBo.Sl S H0 (.slice b2 has.length d2) has) (k3:KBo.Sl S H0 (.slice b3 nam.length d3) nam):
  Spec Try.prog S H0 33 [.agg #[.int .i64 oe,.slice a1 got.length c1,.slice a2 has.length c2,.slice a3 nam.length c3],.agg #[.int .i64 oe,.slice b1 got.length d1,.slice b2 has.length d2,.slice b3 nam.length d3]] (fun v=>v=.bool true):=by
 refine Spec.of1 Try.func33 rfl (by kernel_rfl) rfl (fun H _=>?_)
 refine KW.tF rfl rfl (by simp) ?_
 refine KW.tF rfl rfl (by simp) ?_
 refine KW.tF rfl rfl (by simp) ?_
 refine KW.tF rfl rfl (by simp) ?_
 refine KW.tF rfl rfl (by simp [e1]) ?_
 refine KW.cF rfl rfl (by simp [e2]) ?_
 refine KW.lp rfl rfl (fun i:Nat=>[(2,.pointer (some ⟨H.n,0,some 0⟩)),(3,.pointer (some ⟨H.n+1,0,some 1⟩)),(5,.int .i64 i)]) (fun i=>i≤got.length) (fun i=>got.length - i) (0) (Nat.zero_le _) ⟨rfl,rfl,rfl,trivial⟩ (fun i hi bE n=>?_)
 refine KW.cnd rfl rfl (fun j1=>?_) (fun j1=>?_)
 ·have j1:(i:Int) < (got.length:Int):=j1
  refine KW.getL h1.up rfl rfl rfl rfl rfl rfl rfl rfl rfl rfl rfl rfl rfl rfl rfl rfl (by omega) (j1) (fun y ay cy hy hsy=>?_)
  have hy:got[i]?=some y:=hy
  refine KW.getL k1.up rfl rfl rfl rfl rfl rfl rfl rfl rfl rfl rfl rfl rfl rfl rfl rfl (by omega) (j1) (fun z az cz hz hsz=>?_)
  have hz:got[i]?=some z:=hz
  obtain rfl:y=z:=by rw [hy] at hz; exact Option.some.inj hz
  refine KW.callE rfl rfl rfl rfl rfl (l00Same (hg y (List.mem_of_getElem? hy)) hsy hsz) (fun _ _=>?_)
  rw [tv_true (rfl:y=y)]
  refine KW.tF rfl rfl (by first | (simp; done) | decide) ?_
  refine KW.getB h2.up rfl rfl rfl rfl rfl rfl rfl rfl rfl rfl rfl rfl rfl rfl rfl rfl (by omega) (by omega) (fun u hu=>?_)
  refine KW.getB k2.up rfl rfl rfl rfl rfl rfl rfl rfl rfl rfl rfl rfl rfl rfl rfl rfl (by omega) (by omega) (fun u2 hu2=>?_)
  obtain rfl:u=u2:=by rw [hu] at hu2; exact Option.some.inj hu2
  refine KW.tF rfl rfl (by simp) ?_
  refine KW.getB h3.up rfl rfl rfl rfl rfl rfl rfl rfl rfl rfl rfl rfl rfl rfl rfl rfl (by omega) (by omega) (fun w hw=>?_)
  refine KW.getB k3.up rfl rfl rfl rfl rfl rfl rfl rfl rfl rfl rfl rfl rfl rfl rfl rfl (by omega) (by omega) (fun w2 hw2=>?_)
  obtain rfl:w=w2:=by rw [hw] at hw2; exact Option.some.inj hw2
  refine KW.cF rfl rfl (by simp) ?_
  refine KW.nxt rfl rfl (fun H' g=>⟨i+1,by omega,by first | omega | (simp only; omega),⟨rfl,rfl,congrArg (Value.int .i64) (inc64 (by omega)),trivial⟩,g⟩)
 ·exact KW.ret rfl rfl rfl rfl (rfl)
end
abbrev W_B (x:List Int):Prop:=x.length≤9223372036854775807∧∀y∈x,0≤y∧y < 256
abbrev K_B:Kn (List Int):=KB.sl
section
variable {S:Ids} {H0:AH}
theorem a2Long {p0 p1:Option Addr} {n0 n1 q0 q1:Nat}:Spec Try.prog S H0 9 [.slice p0 n0 q0,.slice p1 n1 q1] (fun v=>∃b:Bool,v=.bool b∧(b=false→n0≤3000∧n1≤3000)):=by
 refine Spec.of1 Try.func9 rfl (by kernel_rfl) rfl (fun H _=>?_)
 refine KW.tst rfl rfl (fun h=>?_) (fun h=>?_)
 ·refine KW.ret rfl rfl rfl rfl ?_
  exact ⟨_,rfl,fun h2=>by cases h2⟩
 ·have h:¬(n0:Int) > 3000:=h
  refine KW.ret rfl rfl rfl rfl ?_
  exact ⟨_,rfl,fun h2=>by have h2:decide ((n1:Int) > 3000)=false:=h2; simp at h2; omega⟩
end
theorem sum_bound {l:List Nat} {b:Nat} (h:∀x∈l,x≤b):sum l≤l.length*b:=by
 induction l with
 | nil=>simp [sum]
 | cons x l ih=>
  have h1:=h x (List.mem_cons_self ..)
  have h2:=ih (fun y hy=>h y (List.mem_cons_of_mem _ hy))
  simp only [sum,List.length_cons,Nat.succ_mul]
  omega
theorem sml_small {L:List (List Int)} (hl:L.length≤1000) (h:∀r∈L,r.length≤1000):B_Int64SS L:=by
 refine ⟨by omega,?_⟩
 have h1:=sum_bound (l:=lens L) (b:=1000) (fun x hx=>by
  obtain ⟨r,hr,rfl⟩:=List.mem_map.1 hx
  exact h r hr)
 have h2:(lens L).length=L.length:=by simp [lens]
 have h3:(lens L).length*1000≤1000*1000:=Nat.mul_le_mul_right _ (by omega)
 omega
theorem deal_small {x:T_Deal} (hd:DealOk x):B_Deal x:=by
 have hk:=hd.sch
 have h1:=hk.h1
 have h7:=hk.h7
 have hl:=hk.mat.len
 have hol:=hk.len
 have hp1:=hk.mat.pr.1
 have hp2:=hk.mat.pr.2.1
 have hc1:=hk.c1
 have hc2:=hk.mat.c1
 have hb:=hd.bl
 have hkl:=hd.kl
 have hs:=hd.sec
 have hkeys:∀y∈x.2.2.2,y.length≤20∧∀r∈y,r.length≤2:=fun y hy=>by
  obtain ⟨i,hi⟩:=List.getElem?_of_mem hy
  have hlt:=(List.getElem?_eq_some_iff.1 hi).1
  have h:=(hd.bk i _ y (List.getElem?_eq_getElem (by omega)) hi).2
  exact ⟨by have:=h.1; omega,fun r hr=>by have:=(h.2 r hr).1; omega⟩
 refine ⟨⟨⟨by omega,by omega⟩,by show x.1.2.1.length≤_; omega,⟨by omega,by omega⟩,⟨by omega,by omega⟩,sml_small (by omega) (fun r hr=>by have:=(hk.mat.row r hr).1; omega)⟩,⟨by omega,by omega⟩,sml_small (by omega) (fun r hr=>by
  obtain ⟨i,hi⟩:=List.getElem?_of_mem hr
  have hlt:=(List.getElem?_eq_some_iff.1 hi).1
  have h:=(hd.bk i r _ hi (List.getElem?_eq_getElem (by omega))).1.1
  omega),⟨by omega,fun y hy=>sml_small (by have:=(hkeys y hy).1; omega) (fun r hr=>by have:=(hkeys y hy).2 r hr; omega),?_⟩⟩
 have h3:=sum_bound (l:=x.2.2.2.map sz_Int64SS) (b:=1000) (fun z hz=>by
  obtain ⟨y,hy,rfl⟩:=List.mem_map.1 hz
  have h4:=sum_bound (l:=lens y) (b:=2) (fun w hw=>by
   obtain ⟨r,hr,rfl⟩:=List.mem_map.1 hw
   exact (hkeys y hy).2 r hr)
  have h5:(lens y).length=y.length:=by simp [lens]
  have h6:=(hkeys y hy).1
  show sum (lens y)≤1000
  omega)
 rw [List.length_map] at h3
 omega
def CerIn (c:Cer) (S:Ids) (H:AH) (cs:List Value):Prop:=∃(a1 a2 a3 a4 a5:Option Addr) (c1 c2 c3 c4 c5:Nat),cs=[.int .i64 c.ep,.slice a1 c.seats.length c1,.int .i64 c.oe,.slice a2 c.got.length c2,.slice a3 c.has.length c3,.slice a4 c.named.length c4,.slice a5 c.wire.length c5]∧K_Seat.Sl S H (.slice a1 c.seats.length c1) c.seats∧KI.sl.Sl S H (.slice a2 c.got.length c2) c.got∧KBo.Sl S H (.slice a3 c.has.length c3) c.has∧KBo.Sl S H (.slice a4 c.named.length c4) c.named∧K_Packet.Sl S H (.slice a5 c.wire.length c5) c.wire
section
variable {S:Ids} {H0:AH} {x:T_Deal} {ds:List T_Deed} {dcs:List Value}
theorem given_ok (hd:DealOk x) (hdp:∀d∈ds,DeedP d) (h400:ds.length≤400):givenC x ds=0:=by
 unfold givenC
 rw [if_pos (tv_true ⟨hd,hdp⟩),if_neg (by omega)]
theorem cerAfter {a c} (hd:DealOk x) (hdp:∀d∈ds,DeedP d) (h400:ds.length≤400) (hD:K_Deal.R S H0 x dcs) (hs:K_Deed.Sl S H0 (.slice a ds.length c) ds):SpecM Try.prog S H0 32 [.agg dcs.toArray,.slice a ds.length c] (fun n v H1=>∃cs:List Value,v=.tuple #[.agg cs.toArray,.int .i64 (doneC (codes x (cer0 x.1.1.toNat) ds):Nat),.int .i64 0]∧CerIn (play x (cer0 x.1.1.toNat) ds) (New n H1.n) H1 cs):=by
 have hg:=given_ok hd hdp h400
 have h:=impl_CeremonyAfter (S:=S) (H0:=H0) (x:=x) (ds:=ds) (dcs:=dcs) (a:=a) (c:=c) (deal_small hd) ⟨by omega,fun d hdm=>by have:=hdp d hdm; exact ⟨⟨by have:=this.1; omega,by have:=this.1; omega⟩,⟨by have:=this.2.1; omega,by have:=this.2.1; omega⟩,⟨by have:=this.2.2.1; omega,by have:=this.2.2.1; omega⟩⟩,by have h0:=sum_bound (l:=ds.map szE_Deed) (b:=3) (fun z hz=>(by obtain ⟨d,_,rfl⟩:=List.mem_map.1 hz; exact Nat.le_refl 3)); rw [List.length_map] at h0; omega⟩ hD (sl1' hs)
 unfold r0_CeremonyAfter r1_CeremonyAfter r2_CeremonyAfter at h
 rw [hg,if_pos rfl,if_pos rfl] at h
 intro H hf hz
 obtain ⟨m,v,H1,k1,k2,k3,cs,hv,hR⟩:=h H hf hz
 refine ⟨m,v,H1,k1,k2,k3,cs,hv,?_⟩
 obtain ⟨a1,c1,a2,c2,a3,c3,a4,c4,a5,c5,rfl,s1,s2,s3⟩:=split_Ceremony (le_Ceremony.2 _ _ _ _ hR)
 obtain ⟨b1,d1,b2,d2,b3,d3,e,t1,t2,t3⟩:=split_Opener s2
 simp only [List.cons.injEq,Value.slice.injEq,and_true,true_and] at e
 obtain ⟨⟨rfl,rfl⟩,⟨rfl,rfl⟩,rfl,rfl⟩:=e
 exact ⟨_,_,_,_,_,_,_,_,_,_,rfl,sl1 s1,sl1 t1,sl1 t2,sl1 t3,sl1 s3⟩
end
section
variable {P:Program} {S:Ids} {H0:AH} {Q:PostC} {k k1:List It} {e e1:Env} {T T1:List Var} {n n1:Nat} {l1 r1:List Nat} {d1:Tmp}
end
theorem bload_has {P:Program} {b:Blk} {t:TypeId} {k:Nat} {fs:Array Field} {inf:TypeInfo} {ps:List Value} (hu:P.underlying t=some (.struct fs)) (hi:P.info? t=some inf) (hs:inf.size=ps.length) (h0:0 < ps.length) (hc:∀i v,ps[i]?=some v→b.cells[k+i]?=some v):bload P b t k=some (.agg ps.toArray):=by
 unfold bload
 simp only [hu,hi,hs]
 have hlen:k+ps.length≤b.cells.length:=by
  have h1:=hc (ps.length - 1) _ (List.getElem?_eq_getElem (show ps.length - 1 < ps.length by omega))
  have:=(List.getElem?_eq_some_iff.1 h1).1
  omega
 rw [if_pos hlen]
 have e:(b.cells.drop k).take ps.length=ps:=by
  refine List.ext_getElem? fun i=>?_
  rw [List.getElem?_take]
  split
  ·rename_i h
   rw [List.getElem?_drop,hc i _ (List.getElem?_eq_getElem h),List.getElem?_eq_getElem h]
  ·rename_i h
   rw [List.getElem?_eq_none (by omega)]
 rw [e]
section
variable {P:Program} {S:Ids} {H0:AH} {Q:PostC} {k k1:List It} {e e1:Env} {T T1:List Var} {n n1:Nat} {l1 r1:List Nat} {d1:Tmp}
theorem KW.ldFs {o:Oper} {dr:Bool} {t:TypeId} {x:Operand} {id kk k0:Nat} {vs:List Value} {sp:Option Nat} {fs:Array Field} {inf:TypeInfo} (i:Nat) (ps:List Value) (hv:Has3 S H0 id k0 vs) (h:Go1 P k e T n (.op o dr) k1 e1 T1 n1 l1 r1) (hlr:l1=r1) (ho:o.op=.load t x) (hd:o.dst=some d1) (hx:ev e1 x=.pointer (some ⟨id,kk,sp⟩)) (hk0:kk=k0+i) (hi:(vs.drop i).take ps.length=ps)
  (hu:P.underlying t=some (.struct fs)) (hif:P.info? t=some inf) (hs:inf.size=ps.length) (h0:0 < ps.length) (hk:KW P S H0 Q n1 T1 k1 (put1 e1 d1 (.agg ps.toArray))):KW P S H0 Q n T k e:=by
 obtain ⟨hS,b,hm,hc⟩:=hv
 refine KW.ldP hS hm h hlr ho hd hx (bload_has hu hif hs h0 (fun j v hj=>?_)) hk
 rw [hk0,Nat.add_assoc]
 refine hc (i+j) v ?_
 have hj2:((vs.drop i).take ps.length)[j]?=some v:=by rw [hi]; exact hj
 rw [List.getElem?_take] at hj2
 split at hj2
 ·rw [List.getElem?_drop] at hj2; exact hj2
 ·cases hj2
end
structure OrdC (c:Cer):Prop where
 oe:c.oe≤c.ep
 se:∀s∈c.seats,s.2.1.1≤s.1.1∧s.1.1≤c.ep
 wi:∀p∈c.wire,p.2.2.1≤c.ep
section
variable {x:T_Deal} {c:Cer}
theorem OrdC.setS (h:OrdC c) {a:Int} {s:T_Seat} (hs:s.2.1.1≤s.1.1∧s.1.1≤c.ep):OrdC (setS c a s):=by
 refine ⟨h.oe,fun t ht=>?_,h.wi⟩
 rcases List.mem_or_eq_of_mem_set ht with ht | ht
 ·exact h.se t ht
 ·rw [ht]; exact hs
theorem OrdC.send (h:OrdC c) {p:T_Packet} (hp:p.2.2.1≤c.ep):OrdC (send c p).1:=by
 unfold Am.send
 split
 ·exact h
 ·refine ⟨h.oe,h.se,fun q hq=>?_⟩
  rcases List.mem_append.1 hq with hq | hq
  ·exact h.wi q hq
  ·rw [List.mem_singleton.1 hq]; exact hp
theorem OrdC.drop (h:OrdC c) (i:Nat):OrdC (dropW c i):=⟨h.oe,h.se,fun q hq=>h.wi q (List.mem_of_mem_eraseIdx hq)⟩
theorem OrdC.come (ok:CerOk x c) (h:OrdC c) {p:T_Packet} (hp:PkOk x p) (he:p.2.2.1≤c.ep):OrdC (come x c p):=by
 unfold Am.come
 split
 ·have h1:OrdC (fresh c p.2.2.1):=by
   unfold Am.fresh
   split
   ·exact ⟨he,h.se,h.wi⟩
   ·exact h
  unfold comeO
  split
  ·split
   ·exact ⟨h1.oe,h1.se,h1.wi⟩
   ·exact ⟨h1.oe,h1.se,h1.wi⟩
  ·exact h1
 ·unfold comeS
  split
  ·rename_i hlt
   have hs:=h.se _ (List.mem_of_getElem? (ok.seat hp.ho).1)
   refine ⟨h.oe,fun t ht=>?_,h.wi⟩
   rcases List.mem_or_eq_of_mem_set ht with ht | ht
   ·exact h.se t ht
   ·rw [ht]
    show (c.seat p.2.1).2.1.1≤p.2.2.1∧p.2.2.1≤c.ep
    omega
  ·exact h
theorem OrdC.doIt (ok:CerOk x c) (h:OrdC c) {d:T_Deed} (hp:DeedP d):OrdC (doIt x c d).1:=by
 obtain ⟨h1,h2,h3,_,_⟩:=hp
 unfold Am.doIt
 split
 ·split
  ·exact h
  ·rename_i hw
   have hpk:=ok.pk h2.1 (by omega)
   have hpe:=h.wi _ (List.mem_of_getElem? hpk.1)
   show OrdC (if d.1=5 then _ else _)
   by_cases h4:d.1=4
   ·rw [if_pos h4,if_neg (by omega)]
    exact h.come ok hpk.2 hpe
   ·rw [if_neg h4]
    split
    ·exact h.drop _
    ·exact (h.drop _).come (ok.drop _) hpk.2 hpe
 split
 ·split
  ·exact h
  ·have:=h.oe
   exact ⟨by show c.oe≤c.ep+1; omega,fun s hs=>by have:=h.se s hs; exact ⟨this.1,by show s.1.1≤c.ep+1; omega⟩,fun p hp=>by have:=h.wi p hp; show p.2.2.1≤c.ep+1; omega⟩
 split
 ·exact h
 rename_i hr
 have ha:HoOk x d.2.1:=⟨h2.1,by omega⟩
 have hs:=h.se _ (List.mem_of_getElem? (ok.seat ha).1)
 split
 ·exact h.send (Int.le_refl _)
 split
 ·split
  ·exact h
  ·exact h.send hs.2
 split
 ·split
  ·exact h
  ·exact h.setS (s:=((c.seat d.2.1).1,(c.seat d.2.1).2.1,d.2.2)) hs
 split
 ·exact h.setS (s:=((c.seat d.2.1).1,(c.seat d.2.1).1,(c.seat d.2.1).2.2)) ⟨Int.le_refl _,hs.2⟩
 ·exact h.setS (s:=((c.seat d.2.1).2.1,(c.seat d.2.1).2.1,(c.seat d.2.1).2.2)) ⟨Int.le_refl _,by show (c.seat d.2.1).2.1.1≤c.ep; omega⟩
theorem OrdC.start (n:Nat):OrdC (cer0 n):=⟨by show (-1:Int)≤0; omega,fun s hs=>by
 rw [List.eq_of_mem_replicate hs]
 exact ⟨Int.le_refl _,by show (-1:Int)≤0; omega⟩,fun p hp=>by cases hp⟩
theorem OrdC.play (hd:DealOk x):∀(ds:List T_Deed) {c:Cer},(∀d∈ds,DeedP d)→CerOk x c→OrdC c→OrdC (play x c ds)
 | [],_,_,_,h=>h
 | d :: ds,c,hp,ok,h=>OrdC.play hd ds (fun e he=>hp e (List.mem_cons_of_mem _ he)) (ok.doIt hd (hp d List.mem_cons_self)) (h.doIt ok (hp d List.mem_cons_self))
theorem come_wireW (x:T_Deal) (c:Cer) (p:T_Packet):(come x c p).wire=c.wire:=by
 unfold Am.come Am.comeO Am.comeS Am.fresh
 repeat' split
 all_goals rfl
theorem come_dropW (x:T_Deal) (c:Cer) (p:T_Packet) (i:Nat):come x (dropW c i) p=dropW (come x c p) i:=by
 have hf:∀e,fresh (dropW c i) e=dropW (fresh c e) i:=fun e=>by
  unfold Am.fresh
  by_cases h:c.oe < e
  ·rw [if_pos h,if_pos (show (dropW c i).oe < e from h)]; rfl
  ·rw [if_neg h,if_neg (show ¬(dropW c i).oe < e from h)]
 unfold Am.come
 split
 ·rw [hf]
  obtain ⟨f,ef⟩:∃f,fresh c p.2.2.1=f:=⟨_,rfl⟩
  rw [ef]
  unfold Am.comeO
  by_cases h:p.2.2.1=f.oe∧f.named.getD p.2.1.toNat false=false∧f.has.getD p.2.1.toNat false=false
  ·rw [if_pos h,if_pos (show p.2.2.1=(dropW f i).oe∧(dropW f i).named.getD p.2.1.toNat false=false∧(dropW f i).has.getD p.2.1.toNat false=false from h)]
   split <;> rfl
  ·rw [if_neg h,if_neg (show ¬(p.2.2.1=(dropW f i).oe∧(dropW f i).named.getD p.2.1.toNat false=false∧(dropW f i).has.getD p.2.1.toNat false=false) from h)]
 ·unfold Am.comeS
  by_cases h:(c.seat p.2.1).1.1 < p.2.2.1
  ·rw [if_pos h,if_pos (show ((dropW c i).seat p.2.1).1.1 < p.2.2.1 from h)]; rfl
  ·rw [if_neg h,if_neg (show ¬((dropW c i).seat p.2.1).1.1 < p.2.2.1 from h)]
theorem getD_set_self {α:Type} {l:List α} {i:Nat} {a d:α} (h:i < l.length):(l.set i a).getD i d=a:=by
 rw [List.getD_eq_getElem?_getD,List.getElem?_set_self h]; rfl
theorem come_again (ok:CerOk x c) {p:T_Packet} (hp:PkOk x p):come x (come x c p) p=come x c p:=by
 have h1:=hp.ho.1
 have h2:=hp.ho.2
 have hsl:=ok.sl
 have hhl:=ok.hl
 have hnl:=ok.nl
 unfold Am.come
 by_cases hb:p.1=true
 ·rw [if_pos hb]
  obtain ⟨f,ef⟩:∃f,fresh c p.2.2.1=f:=⟨_,rfl⟩
  have fo:¬f.oe < p.2.2.1:=by
   rw [← ef]
   unfold Am.fresh
   split
   ·show ¬p.2.2.1 < p.2.2.1; omega
   ·assumption
  have fh:f.has.length=c.seats.length:=by
   rw [← ef]
   unfold Am.fresh
   split
   ·show (List.replicate c.has.length false).length=_; rw [List.length_replicate]; exact hhl
   ·exact hhl
  have fn:f.named.length=c.seats.length:=by
   rw [← ef]
   unfold Am.fresh
   split
   ·exact hnl
   ·exact hnl
  rw [ef]
  have e1:comeO x f p=f∨(comeO x f p).oe=f.oe∧((comeO x f p).has.getD p.2.1.toNat false=true∨(comeO x f p).named.getD p.2.1.toNat false=true):=by
   unfold Am.comeO
   split
   ·split
    ·exact .inr ⟨rfl,.inl (getD_set_self (by omega))⟩
    ·exact .inr ⟨rfl,.inr (getD_set_self (by omega))⟩
   ·exact .inl rfl
  rcases e1 with e1 | ⟨e2,e3⟩
  ·rw [e1]
   have:fresh f p.2.2.1=f:=by unfold Am.fresh; rw [if_neg fo]
   rw [if_pos hb,this,e1]
  ·obtain ⟨g,eg⟩:∃g,comeO x f p=g:=⟨_,rfl⟩
   rw [eg] at e2 e3 ⊢
   have:fresh g p.2.2.1=g:=by unfold Am.fresh; rw [if_neg (by rw [e2]; exact fo)]
   rw [if_pos hb,this]
   unfold Am.comeO
   rw [if_neg]
   rintro ⟨_,q1,q2⟩
   rcases e3 with e3 | e3
   ·rw [q2] at e3; cases e3
   ·rw [q1] at e3; cases e3
 ·rw [if_neg hb]
  unfold Am.comeS
  by_cases h:(c.seat p.2.1).1.1 < p.2.2.1
  ·rw [if_pos h,if_neg hb,if_neg]
   show ¬((c.seats.set p.2.1.toNat ((p.2.2.1,p.2.2.2.1,p.2.2.2.2),(c.seat p.2.1).2)).getD p.2.1.toNat seat0).1.1 < p.2.2.1
   rw [getD_set_self (by omega)]
   show ¬p.2.2.1 < p.2.2.1
   omega
  ·rw [if_neg h,if_neg hb,if_neg h]
end
def Lied (x:T_Deal) (ds:List T_Deed) (h l:Int):Prop:=(6,h,l)∈ds∧0 < l∧l < x.1.2.2.1
def TruP (x:T_Deal) (h:Int) (p:T_Purse):Prop:=p.1=-1∨(p.2.1=valsD x p.1 h∧p.2.2=tagsD x p.1 h (valsD x p.1 h))
structure TruK (x:T_Deal) (ds:List T_Deed) (p:T_Packet):Prop where
 tg:p.2.2.2.2=tagsD x p.2.2.1 p.2.1 (valsD x p.2.2.1 p.2.1)
 to:p.1=false→p.2.2.2.1=valsD x p.2.2.1 p.2.1
 bk:p.1=true→∃l,(l=0∨Lied x ds p.2.1 l)∧p.2.2.2.1=lieOf x.1.2.2.1 (valsD x p.2.2.1 p.2.1) l
structure TruC (x:T_Deal) (ds:List T_Deed) (c:Cer):Prop where
 pu:∀h,HoOk x h→TruP x h (c.seat h).1∧TruP x h (c.seat h).2.1
 lie:∀h,HoOk x h→(c.seat h).2.2=0∨Lied x ds h (c.seat h).2.2
 wi:∀p∈c.wire,TruK x ds p
 nm:∀j:Nat,c.named.getD j false=true→∃l,Lied x ds j l
 hs:∀j:Nat,c.has.getD j false=true→∃l,(l=0∨Lied x ds j l)∧c.got.getD j []=lieOf x.1.2.2.1 (valsD x c.oe j) l∧tagsD x c.oe j (lieOf x.1.2.2.1 (valsD x c.oe j) l)=tagsD x c.oe j (valsD x c.oe j)
theorem getD_set_if {α:Type} {l:List α} {i j:Nat} {a d:α} (h:i < l.length):(l.set i a).getD j d=if j=i then a else l.getD j d:=by
 split
 ·rename_i e; subst e; exact getD_set_self h
 ·rename_i e
  rw [List.getD_eq_getElem?_getD,List.getElem?_set_ne (fun e'=>e e'.symm),← List.getD_eq_getElem?_getD]
section
variable {x:T_Deal} {c:Cer} {DS:List T_Deed}
theorem vals_el (hd:DealOk x) (e h:Int):Elems x.1.2.2.1 (valsD x e h):=vals_in hd.prime
theorem seat_set (ok:CerOk x c) {a h:Int} {s:T_Seat} (ha:HoOk x a) (hh:HoOk x h):(setS c a s).seat h=if h=a then s else c.seat h:=by
 have:=ok.sl
 have h1:=ha.1
 have h2:=ha.2
 have h3:=hh.1
 show (c.seats.set a.toNat s).getD h.toNat seat0=_
 rw [getD_set_if (by omega)]
 by_cases e:h=a
 ·rw [if_pos (by rw [e]),if_pos e]
 ·rw [if_neg (by omega),if_neg e]
theorem TruC.setS (ok:CerOk x c) (h:TruC x DS c) {a:Int} (ha:HoOk x a) {s:T_Seat} (hp:TruP x a s.1∧TruP x a s.2.1) (hl:s.2.2=0∨Lied x DS a s.2.2):TruC x DS (setS c a s):=by
 refine ⟨fun b hb=>?_,fun b hb=>?_,h.wi,h.nm,h.hs⟩
 ·rw [seat_set ok ha hb]
  split
  ·rename_i e; rw [e]; exact hp
  ·exact h.pu b hb
 ·rw [seat_set ok ha hb]
  split
  ·rename_i e; rw [e]; exact hl
  ·exact h.lie b hb
theorem TruC.send (h:TruC x DS c) {p:T_Packet} (hp:TruK x DS p):TruC x DS (send c p).1:=by
 unfold Am.send
 split
 ·exact h
 ·refine ⟨h.pu,h.lie,fun q hq=>?_,h.nm,h.hs⟩
  rcases List.mem_append.1 hq with hq | hq
  ·exact h.wi q hq
  ·rw [List.mem_singleton.1 hq]; exact hp
theorem TruC.drop (h:TruC x DS c) (i:Nat):TruC x DS (dropW c i):=⟨h.pu,h.lie,fun q hq=>h.wi q (List.mem_of_mem_eraseIdx hq),h.nm,h.hs⟩
theorem TruC.fresh (h:TruC x DS c) (e:Int):TruC x DS (fresh c e):=by
 unfold Am.fresh
 split
 ·refine ⟨h.pu,h.lie,h.wi,h.nm,fun j hj=>?_⟩
  exfalso
  have hj:(List.replicate c.has.length false).getD j false=true:=hj
  rw [List.getD_eq_getElem?_getD,List.getElem?_replicate] at hj
  split at hj <;> cases hj
 ·exact h
theorem TruC.come (hd:DealOk x) (ok:CerOk x c) (h:TruC x DS c) {p:T_Packet} (hp:PkOk x p) (hk:TruK x DS p):TruC x DS (come x c p):=by
 have h1:=hp.ho.1
 have h2:=hp.ho.2
 have hsl:=ok.sl
 unfold Am.come
 by_cases hb:p.1=true
 ·rw [if_pos hb]
  obtain ⟨l,hl,hv⟩:=hk.bk hb
  have okf:CerOk x (Am.fresh c p.2.2.1):=ok.fresh hp.ep
  have hf:=h.fresh p.2.2.1
  obtain ⟨f,ef⟩:∃f,Am.fresh c p.2.2.1=f:=⟨_,rfl⟩
  rw [ef] at okf hf ⊢
  have fh:=okf.hl
  have fn:=okf.nl
  have fg:=okf.gl
  have fs:=okf.sl
  unfold Am.comeO
  split
  ·rename_i hc
   split
   ·rename_i ht
    have ht:=tv_iff.1 ht
    refine ⟨hf.pu,hf.lie,hf.wi,hf.nm,fun j hj=>?_⟩
    have hj:(f.has.set p.2.1.toNat true).getD j false=true:=hj
    show ∃l,(l=0∨Lied x DS j l)∧(f.got.set p.2.1.toNat p.2.2.2.1).getD j []=lieOf x.1.2.2.1 (valsD x f.oe j) l∧_
    rw [getD_set_if (by omega)] at hj
    rw [getD_set_if (by omega)]
    by_cases e:j=p.2.1.toNat
    ·have ej:(j:Int)=p.2.1:=by omega
     rw [if_pos e,ej,← hc.1]
     exact ⟨l,hl,hv,by rw [← hv,ht,hk.tg]⟩
    ·rw [if_neg e] at hj ⊢
     exact hf.hs j hj
   ·rename_i ht
    refine ⟨hf.pu,hf.lie,hf.wi,fun j hj=>?_,hf.hs⟩
    have hj:(f.named.set p.2.1.toNat true).getD j false=true:=hj
    rw [getD_set_if (by omega)] at hj
    by_cases e:j=p.2.1.toNat
    ·have ej:(j:Int)=p.2.1:=by omega
     rw [ej]
     rcases hl with hl | hl
     ·exfalso
      refine ht (tv_true ?_)
      rw [hv,hl,lie_zero (vals_el hd _ _),hk.tg]
     ·exact ⟨l,hl⟩
    ·rw [if_neg e] at hj
     exact hf.nm j hj
  ·exact hf
 ·rw [if_neg hb]
  have hb:p.1=false:=by simpa using hb
  unfold Am.comeS
  split
  ·have hs:=h.pu p.2.1 hp.ho
   have hli:=h.lie p.2.1 hp.ho
   exact h.setS ok hp.ho (s:=((p.2.2.1,p.2.2.2.1,p.2.2.2.2),(c.seat p.2.1).2)) ⟨.inr ⟨hk.to hb,hk.tg⟩,hs.2⟩ hli
  ·exact h
theorem TruC.doIt (hd:DealOk x) (ok:CerOk x c) (h:TruC x DS c) {d:T_Deed} (hp:DeedP d) (hm:d∈DS):TruC x DS (doIt x c d).1:=by
 obtain ⟨h1,h2,h3,_,_⟩:=hp
 unfold Am.doIt
 split
 ·split
  ·exact h
  ·rename_i hw
   have hpk:=ok.pk h2.1 (by omega)
   have hpe:=h.wi _ (List.mem_of_getElem? hpk.1)
   show TruC x DS (if d.1=5 then _ else _)
   by_cases h4:d.1=4
   ·rw [if_pos h4,if_neg (by omega)]
    exact h.come hd ok hpk.2 hpe
   ·rw [if_neg h4]
    split
    ·exact h.drop _
    ·exact (h.drop _).come hd (ok.drop _) hpk.2 hpe
 split
 ·split
  ·exact h
  ·exact ⟨h.pu,h.lie,h.wi,h.nm,h.hs⟩
 split
 ·exact h
 rename_i hr
 have ha:HoOk x d.2.1:=⟨h2.1,by omega⟩
 have hs:=h.pu d.2.1 ha
 have hli:=h.lie d.2.1 ha
 split
 ·exact h.send ⟨rfl,fun _=>rfl,fun hh=>by cases hh⟩
 split
 ·split
  ·exact h
  ·rename_i hne
   have hpu:=hs.1.resolve_left hne
   exact h.send ⟨hpu.2,fun hh=>(by cases hh),fun _=>⟨_,hli,by show lieOf _ _ _=_; rw [hpu.1]⟩⟩
 split
 ·rename_i h6
  split
  ·exact h
  ·rename_i hlt
   refine h.setS ok ha (s:=((c.seat d.2.1).1,(c.seat d.2.1).2.1,d.2.2)) hs ?_
   by_cases h0:d.2.2=0
   ·exact .inl h0
   ·refine .inr ⟨?_,by show 0 < d.2.2; omega,by show d.2.2 < _; omega⟩
    have:d=(6,d.2.1,d.2.2):=by rw [← h6]
    rw [← this]; exact hm
 split
 ·exact h.setS ok ha (s:=((c.seat d.2.1).1,(c.seat d.2.1).1,(c.seat d.2.1).2.2)) ⟨hs.1,hs.1⟩ hli
 ·exact h.setS ok ha (s:=((c.seat d.2.1).2.1,(c.seat d.2.1).2.1,(c.seat d.2.1).2.2)) ⟨hs.2,hs.2⟩ hli
theorem TruC.start (n:Nat):TruC x DS (cer0 n):=by
 have hs:∀h:Int,(cer0 n).seat h=seat0:=fun h=>by
  show (List.replicate n seat0).getD h.toNat seat0=seat0
  rw [List.getD_eq_getElem?_getD,List.getElem?_replicate]
  split <;> rfl
 refine ⟨fun h _=>by rw [hs]; exact ⟨.inl rfl,.inl rfl⟩,fun h _=>by rw [hs]; exact .inl rfl,fun p hp=>(by cases hp),fun j hj=>?_,fun j hj=>?_⟩
 all_goals
  exfalso
  have hj:(List.replicate n false).getD j false=true:=hj
  rw [List.getD_eq_getElem?_getD,List.getElem?_replicate] at hj
  split at hj <;> cases hj
theorem TruC.play (hd:DealOk x):∀(ds:List T_Deed) {c:Cer},(∀d∈ds,DeedP d∧d∈DS)→CerOk x c→TruC x DS c→TruC x DS (play x c ds)
 | [],_,_,_,h=>h
 | d :: ds,c,hp,ok,h=>TruC.play hd ds (fun e he=>hp e (List.mem_cons_of_mem _ he)) (ok.doIt hd (hp d List.mem_cons_self).1) (h.doIt hd ok (hp d List.mem_cons_self).1 (hp d List.mem_cons_self).2)
end
end Go.Proofs.Ytlapbbffoapleaa.Am
namespace Go.Proofs.Ytlapbbffoapleaa.Am
open Go Go.RowKit Go.Proofs Go.Proofs.Ytlapbbffoapleaa.Pl
theorem built_Prt (a1 a2:Option Addr) (n1 c1 n2 c2:Nat):Try.prog.built 255 [(0,.slice a1 n1 c1),(1,.slice a2 n2 c2)]=some #[.slice a1 n1 c1,.slice a2 n2 c2]:=by kernel_rfl
structure CbS where
 i:Nat
 S:Ids
 A:AH
 V:Ids
 o:Nat
 cs:List Value
structure CbI (p:Int) (L:List (List Int)) (H:AH) (s:CbS):Prop where
 le:s.i≤L.length
 old:∀id,id < H.n→s.S id∧s.A.m id=H.m id
 v:∀id,s.V id→s.S id
 len:s.cs.length=(basN p L s.i).length*2
 cl:Cl K_Prt s.V s.A (basN p L s.i) s.cs
def MkCb (r:Option (List Int)) (n:Nat) (v:Value) (H1:AH):Prop:=
 match r with
 | none=>v=.tuple #[.slice none 0 0,.bool false]
 | some cs=>∃a c,v=.tuple #[.slice a cs.length c,.bool true]∧KI.Sl (New n H1.n) H1 (.slice a cs.length c) cs
theorem wrM {p:Int} (hp:2≤p∧p≤31):IntKind.i64.wrap (p - 1)=p - 1:=wr (by omega) (by omega)
section
variable {S:Ids} {H0:AH}
theorem combination {p:Int} {k:Nat} (hp:PrimeP p) (hk0:1≤k) (hk:k≤100) {L:List (List Int)} {t:List Int} (hLl:L.length≤100) (hL:Rect p k L) (ht:t.length=k∧∀a∈t,0≤a∧a < p) {a1 c1 a2 c2} (hs0:KI.sl.Sl S H0 (.slice a1 L.length c1) L) (ht0:KI.Sl S H0 (.slice a2 t.length c2) t):
  SpecM Try.prog S H0 155 [.agg #[.int .i64 p,.int .i64 k,.slice a1 L.length c1],.slice a2 t.length c2] (MkCb (comb p L t)):=by
 have hf:=fer hp
 have hp31:2≤p∧p≤31:=⟨hp.1,hp.2.1⟩
 have hp0:0 < p:=by omega
 refine SpecM.of1 Try.func155 rfl (by kernel_rfl) rfl (fun H _=>?_)
 have hs:=hs0.up (S':=Low H.n) (H':=H)
 have hts:=ht0.up (S':=Low H.n) (H':=H)
 have bok:=fun m hm=>basN_ok hf hL m hm
 refine KW.litS0 rfl rfl rfl rfl rfl rfl rfl rfl rfl rfl ?_
 refine KW.lpM rfl rfl (fun s:CbS=>[(1,.slice a2 t.length c2),(2,.pointer (some ⟨H.n,0,some 0⟩)),(4,.slice none 0 0),(5,.bool false),(6,.pointer (some ⟨H.n+2,0,some 2⟩)),(7,.func (.func 203) #[] #[.pointer (some ⟨H.n+2,0,some 2⟩),.pointer (some ⟨H.n,0,some 0⟩)]),(17,.slice a1 L.length c1),(18,.int .i64 L.length),(19,.int .i64 s.i)]) (fun s=>s.S) (fun s=>s.A) (fun s=>[(H.n,⟨26,true,[.int .i64 p,.int .i64 k,.slice a1 L.length c1]⟩),(s.o,⟨255,true,s.cs⟩),(H.n+2,⟨253,true,[.slice (some ⟨s.o,0,some 2⟩) (basN p L s.i).length (basN p L s.i).length]⟩)]) (fun s=>CbI p L H s) (fun s=>L.length - s.i) (⟨0,Low H.n,H,fun _=>False,H.n+1,[]⟩) (⟨Nat.zero_le _,fun id h=>⟨h,rfl⟩,fun _ h=>h.elim,rfl,Cl.nil _ _ _ _⟩) ⟨rfl,rfl,rfl,rfl,rfl,rfl,rfl,rfl,rfl,trivial⟩ rfl rfl (rfl) (fun s hi bE n=>?_)
 obtain ⟨i,S1,A1,V,o,cs⟩:=s
 obtain ⟨ile,old,hV,hcl,cl⟩:=hi
 simp only at ile old hV hcl cl
 haveI o1:On (Low H.n) H S1 A1:=⟨old⟩
 refine KW.ids (fun hlow hvar=>?_)
 refine KW.fact (p:=H.n+2 < n∧o < n∧¬S1 o∧¬S1 (H.n+2)) (fun H1 g=>⟨(g.vars 2 _ rfl).2.1,(g.vars 1 _ rfl).2.1,(g.vars 1 _ rfl).2.2,(g.vars 2 _ rfl).2.2⟩) (fun hf1=>?_)
 obtain ⟨f1,f2,f3,f4⟩:=hf1
 refine KW.cnd rfl rfl (fun k1=>?gin) (fun k1=>?gout)
 case gin=>
  have k1:(i:Int) < (L.length:Int):=k1
  have bm:=bok i ile
  refine KW.getL hs.up rfl rfl rfl rfl rfl rfl rfl rfl rfl rfl rfl rfl rfl rfl rfl rfl (by omega) (k1) (fun y ay cy hy hsy=>?_)
  have hy:L[i]?=some y:=hy
  have hym:=hL y (List.mem_of_getElem? hy)
  refine KW.callN1 rfl rfl rfl rfl rfl (cloneB (by omega) hsy) (fun v HC SC mC _ _ hv=>?_)
  rcases hv with ⟨hy0,rfl⟩ | ⟨o3,rfl,hno3,hmo3⟩
  ·exfalso; rw [hy0] at hym; have:=hym.1; simp at this; omega
  have tC:=(inferInstance:On S1 A1 SC HC).st
  refine KW.mk1 rfl rfl rfl rfl rfl rfl rfl rfl rfl rfl rfl rfl (L.length) rfl rfl (by omega) (by show 8*_≤_; omega) ?_
  refine KW.ids (fun hlowC hvarC=>?_)
  have oC:S1 o3→False:=fun h=>by have:=hlow _ h; have:=hno3.1; omega
  have sC3:SC o3:=(inferInstance:On (New _ HC.n) HC SC HC).st o3 hno3 |>.1
  refine KW.freeze 3 rfl (fun A4 S4 hn4 hS4 st4 hm4 hlt4 hno4 hlow4=>?_)
  refine KW.build rfl rfl rfl rfl rfl (built_Prt _ _ _ _ _ _) ?_
  refine KW.idx0 rfl rfl rfl rfl rfl rfl rfl rfl rfl (by omega) (by omega) ?_
  refine KW.thaw HC.n ⟨2,true,List.replicate L.length (.int .i64 0)⟩ ((hS4 _).2 (.inr rfl)) hm4 ?_
  refine KW.st1 4 rfl rfl rfl rfl rfl rfl rfl rfl rfl rfl rfl rfl (by simp; omega) ?_
  refine KW.freeze 4 rfl (fun A5 S5 hn5 hS5 st5 hm5 hlt5 hno5 hlow5=>?_)
  have S45:∀id,S4 id→S5 id∧(id≠HC.n→A5.m id=A4.m id):=fun id h=>by
   by_cases e:id=HC.n
   ·exact ⟨(hS5 id).2 (.inr e),fun h=>absurd e h⟩
   ·exact ⟨(st5.st id ⟨h,e⟩).1,fun _=>(st5.st id ⟨h,e⟩).2⟩
  have SC5:∀id,SC id→S5 id∧A5.m id=HC.m id:=fun id h=>by
   have h1:=st4.st id h
   have h2:=S45 id h1.1
   have:id≠HC.n:=fun e=>hno4 (e ▸ h)
   exact ⟨h2.1,(h2.2 this).trans h1.2⟩
  have S15:∀id,S1 id→S5 id∧A5.m id=A1.m id:=fun id h=>⟨(SC5 id (tC id h).1).1,(SC5 id (tC id h).1).2.trans (tC id h).2⟩
  have ok5:Has3 S5 A5 0 0 []∨True:=.inr trivial
  have hr1:KI.Ml (fun id=>id=o3) A5 (.slice (some ⟨o3,0,some 1⟩) y.length y.length) y:=row_ml ((SC5 o3 sC3).2.trans hmo3)
  have hun:(List.replicate L.length (Value.int .i64 0)).set (0+(i:Int).toNat*1) (.int .i64 1)=(unitR L.length i).map (Value.int .i64):=by
   rw [show 0+(i:Int).toNat*1=i by omega,unitR,List.map_set,List.map_replicate]
  have hm5':A5.m HC.n=some ⟨2,true,(unitR L.length i).map (Value.int .i64)⟩:=hm5.trans (congrArg (fun z=>some (⟨2,true,z⟩:Blk)) hun)
  have hul:(unitR L.length i).length=L.length:=by simp [unitR]
  have hr2:KI.Ml (fun id=>id=HC.n) A5 (.slice (some ⟨HC.n,0,some 1⟩) (unitR L.length i).length L.length) (unitR L.length i):=by
   have:=row_ml (A:=A5) (o:=HC.n) (ty:=2) (xs:=unitR L.length i) hm5'
   rw [hul] at this ⊢
   exact this
  have hx:=row_ok hp31.1 hL (by omega:i < L.length)
  rw [show L.getD i []=y by rw [List.getD_eq_getElem?_getD,hy]; rfl] at hx
  have no3:n≤o3:=hno3.1
  have no4:n≤HC.n:=mC
  refine KW.callWV (W:=fun id=>id=o3∨id=HC.n) (post:=fun _ v H1=>v=.agg #[.slice (some ⟨o3,0,some 1⟩) y.length y.length,.slice (some ⟨HC.n,0,some 1⟩) L.length L.length]∧KI.Ml (fun id=>id=o3) H1 (.slice (some ⟨o3,0,some 1⟩) y.length y.length) (less p (basN p L i) (y,unitR L.length i)).1∧KI.Ml (fun id=>id=HC.n) H1 (.slice (some ⟨HC.n,0,some 1⟩) L.length L.length) (less p (basN p L i) (y,unitR L.length i)).2) (fun id h=>by rcases h with h | h; rw [h]; exact (SC5 o3 sC3).1; rw [h]; exact (hS5 _).2 (.inr rfl)) rfl rfl rfl rfl rfl (fun H6 g st6=>?gc) (fun v A6 S6 m6 t6 w6 hv6=>?_)
  case gc=>
   have hM:=g.has (j:=0) rfl rfl
   have hb:=g.has (j:=2) rfl rfl
   have hlit:=g.blk (j:=1) rfl
   have z6:∀id,S5 id→id < H6.n∧H6.m id=A5.m id:=fun id h=>by have h1:=g.froz id h; have:=g.n_; exact ⟨by omega,h1.2⟩
   have clX:K_Prt.Sl (fun id=>id=o∨V id) H6 (.slice (some ⟨o,0,some 2⟩) (basN p L i).length (basN p L i).length) (basN p L i):=
    (cl.mv (X':=fun id=>V id) (A':=H6) (fun id h=>((z6 id (S15 id (hV id h)).1).2).trans (S15 id (hV id h)).2) (fun _ h=>h)).sl (.inl rfl) hlit.1 rfl (fun id h=>.inr h) (Nat.le_refl _)
   have key:=lessC (S:=Low H6.n) (H0:=H6) (a1:=some ⟨o3,0,some 1⟩) (c1:=y.length) (a2:=some ⟨HC.n,0,some 1⟩) (c2:=L.length) (x:=(y,unitR L.length i)) (W1:=fun id=>id=o3) (W2:=fun id=>id=HC.n) (X:=fun id=>id=o∨V id) hp hk hLl (fun b hb=>(bm b hb).1) hx (by have:=basN_len (p:=p) (L:=L) i; omega) hM (by omega) hb (by omega) clX (fun id h=>⟨by
    rcases h with h | h
    ·rw [h]; exact hlit.2
    ·exact (z6 id (S15 id (hV id h)).1).1,fun hh=>by
    rcases h with h | h
    ·omega
    ·have:=hlow id (hV id h); omega⟩) (fun id h=>by
     rcases h with h | h
     ·rw [h]; exact (z6 o3 (SC5 o3 sC3).1).1
     ·rw [h]; exact (z6 _ ((hS5 _).2 (.inr rfl))).1) (fun id h h'=>by have e1:id=o3:=h; have e2:id=HC.n:=h'; have:=hno3.2; omega) (Kn.Ml.same (fun id h=>by rw [h]; exact (z6 o3 (SC5 o3 sC3).1).2) hr1) (Kn.Ml.same (fun id h=>by rw [h]; exact (z6 _ ((hS5 _).2 (.inr rfl))).2) hr2)
   simp only [hul] at key
   exact key
  obtain ⟨rfl,w1,w2⟩:=hv6
  obtain ⟨z,ez⟩:∃z,less p (basN p L i) (y,unitR L.length i)=z:=⟨_,rfl⟩
  have hz:PrOk p k L.length z:=by rw [← ez]; exact less_ok hp0 _ _ (fun b hb=>(bm b hb).1.1) hx
  have eB:basN p L (i+1)=if fz z.1 < z.1.length then basN p L i++[nrm p z] else basN p L i:=by
   show insR p (basN p L i) (L.getD i [],unitR L.length i)=_
   rw [show L.getD i []=y by rw [List.getD_eq_getElem?_getD,hy]; rfl]
   unfold insR
   rw [ez]
  rw [ez] at w1 w2
  have l1:y.length=z.1.length:=hym.1.trans hz.1.1.symm
  have l2:L.length=z.2.length:=hz.2.1.symm
  have s3:S6 o3:=(t6 o3 (SC5 o3 sC3).1).1
  have s4:S6 HC.n:=(t6 HC.n ((hS5 _).2 (.inr rfl))).1
  have S56:∀id,S5 id→id≠o3→id≠HC.n→A6.m id=A5.m id:=fun id h e1 e2=>(t6 id h).2 (fun hh=>hh.elim e1 e2)
  have S16:∀id,S1 id→S6 id∧A6.m id=A1.m id:=fun id h=>by
   have h1:=hlow id h
   have h2:=S15 id h
   exact ⟨(t6 id h2.1).1,(S56 id h2.1 (by omega) (by omega)).trans h2.2⟩
  have old6:∀id,id < H.n→S6 id∧A6.m id=H.m id:=fun id h=>⟨(S16 id (old id h).1).1,(S16 id (old id h).1).2.trans (old id h).2⟩
  have sl1':KI.Sl S6 A6 (.slice (some ⟨o3,0,some 1⟩) y.length y.length) z.1:=w1.sl.more (fun id h=>by rw [h]; exact s3)
  have hz1l:=hz.1.1
  have hz2l:=hz.2.1
  by_cases hfz:fz z.1 < z.1.length
  ·rw [if_pos hfz] at eB
   have key:=first (S:=S6) (H0:=A6) (xs:=z.1) (a:=some ⟨o3,0,some 1⟩) (c:=y.length) (by omega) (by rw [← l1]; exact sl1')
   rw [if_pos hfz,← l1] at key
   refine KW.callE rfl rfl rfl rfl rfl (key) (fun _ _=>?_)
   refine KW.yes rfl rfl (by omega) ?_
   refine KW.getI sl1' rfl rfl rfl rfl rfl rfl rfl rfl rfl rfl rfl rfl rfl rfl rfl rfl (by omega) (by omega) (fun z0 hz0=>?_)
   have hz0:z.1[fz z.1]?=some z0:=hz0
   have hz0D:z.1.getD (fz z.1) 0=z0:=by rw [List.getD_eq_getElem?_getD,hz0]; rfl
   have hin:=el_ok hp0 hz.1 (fz z.1)
   rw [hz0D] at hin
   refine KW.callE rfl rfl rfl rfl rfl (inverse p z0 hp31 hin) (fun _ _=>?_)
   have hpw:=pw_ok hp31.1 (p:=p) (a:=z0) (p - 2).toNat
   have k2:=scaled (S:=S6) (H0:=A6) (W:=fun id=>id=o3) (p:=p) (b:=pw p z0 (p - 2).toNat) hp31 hpw (a:=some ⟨o3,0,some 1⟩) (c:=y.length) (xs:=z.1) (by omega) hz.1.2 (fun id h=>by rw [h]; exact s3) (by rw [← l1]; exact w1)
   rw [← l1] at k2
   refine KW.callW (W:=fun id=>id=o3) (fun id h=>by rw [h]; exact s3) rfl rfl rfl rfl rfl k2 (fun v A7 S7 m7 t7 w7 hv7=>?_)
   have w27:KI.Ml (fun id=>id=HC.n) A7 (.slice (some ⟨HC.n,0,some 1⟩) L.length L.length) z.2:=Kn.Ml.same (fun id h=>by rw [h]; exact (t7 _ s4).2 (fun hh=>by have e1:HC.n=o3:=hh; have:=hno3.2; omega)) w2
   have s47:S7 HC.n:=(t7 _ s4).1
   have k3:=scaled (S:=S7) (H0:=A7) (W:=fun id=>id=HC.n) (p:=p) (b:=pw p z0 (p - 2).toNat) hp31 hpw (a:=some ⟨HC.n,0,some 1⟩) (c:=L.length) (xs:=z.2) (by omega) hz.2.2 (fun id h=>by rw [h]; exact s47) (by rw [← l2]; exact w27)
   rw [← l2] at k3
   refine KW.callW (W:=fun id=>id=HC.n) (fun id h=>by rw [h]; exact s47) rfl rfl rfl rfl rfl k3 (fun v8 A8 S8 m8 t8 w8 hv8=>?_)
   have S18:∀id,S1 id→S8 id∧A8.m id=A1.m id:=fun id h=>by
    have h1:=hlow id h
    have h2:=S16 id h
    have h3:=t7 id h2.1
    have h4:=t8 id h3.1
    exact ⟨h4.1,(h4.2 (fun hh=>by have e1:id=HC.n:=hh; omega)).trans ((h3.2 (fun hh=>by have e1:id=o3:=hh; omega)).trans h2.2)⟩
   have hv78:KI.Ml (fun id=>id=o3) A8 (.slice (some ⟨o3,0,some 1⟩) y.length y.length) (nrm p z).1:=by
    have e:(nrm p z).1=sc p (pw p z0 (p - 2).toNat) z.1:=by rw [← hz0D]; rfl
    rw [e]
    exact Kn.Ml.same (fun id h=>by rw [h]; exact (t8 _ (t7 _ s3).1).2 (fun hh=>by have e1:o3=HC.n:=hh; have:=hno3.2; omega)) hv7
   have hv88:KI.Ml (fun id=>id=HC.n) A8 (.slice (some ⟨HC.n,0,some 1⟩) L.length L.length) (nrm p z).2:=by
    have e:(nrm p z).2=sc p (pw p z0 (p - 2).toNat) z.2:=by rw [← hz0D]; rfl
    rw [e]
    exact hv8
   have hRn:K_Prt.R (fun id=>id=o3∨id=HC.n) A8 (nrm p z) [.slice (some ⟨o3,0,some 1⟩) y.length y.length,.slice (some ⟨HC.n,0,some 1⟩) L.length L.length]:=
    ⟨[.slice (some ⟨o3,0,some 1⟩) y.length y.length],_,rfl,⟨_,rfl,hv78.sl.more (fun id h=>.inl h)⟩,⟨_,rfl,hv88.sl.more (fun id h=>.inr h)⟩⟩
   refine KW.litS1 rfl rfl rfl rfl rfl rfl rfl rfl rfl rfl rfl rfl ?_
   have hbl:=basN_len (p:=p) (L:=L) i
   refine KW.appTS (m:=1) (ys:=[.slice (some ⟨o3,0,some 1⟩) y.length y.length,.slice (some ⟨HC.n,0,some 1⟩) L.length L.length]) 1 rfl rfl rfl rfl rfl rfl rfl rfl (by decide) rfl (fun H1 g=>acells_seg (g.blk (j:=4) rfl).1 (by show 0+1*2≤2; decide)) (by show 0+(basN p L i).length*2≤cs.length; omega) rfl (by decide) (by show ((basN p L i).length+1)*48≤_; omega) (by show (basN p L i).length+1≤_; omega) ?_
   have cl8:Cl K_Prt (fun id=>V id∨(id=o3∨id=HC.n)) A8 (basN p L i) cs:=cl.mv (fun id h=>(S18 id (hV id h)).2) (fun id h=>.inl h)
   have cl9:=cl8.snoc (y:=nrm p z) (K_Prt.more (fun id h=>.inr h) hRn)
   have inv9:∀o9,CbI p L H ⟨i+1,S8,A8,fun id=>V id∨(id=o3∨id=HC.n),o9,(cs.drop 0).take ((basN p L i).length*2)++[.slice (some ⟨o3,0,some 1⟩) y.length y.length,.slice (some ⟨HC.n,0,some 1⟩) L.length L.length]⟩:=fun o9=>by
    refine ⟨by simp only; omega,fun id h=>⟨(S18 id (old id h).1).1,(S18 id (old id h).1).2.trans (old id h).2⟩,fun id h=>?_,?_,?_⟩
    ·rcases h with h | h | h
     ·exact (S18 id (hV id h)).1
     ·rw [h]; exact (t8 _ (t7 _ s3).1).1
     ·rw [h]; exact (t8 _ s47).1
    ·simp only [eB,List.length_append,List.length_take,List.length_drop,List.length_cons,List.length_nil]; omega
    ·simp only [eB]; exact cl9
   refine KW.nxt rfl rfl (fun H' g=>⟨⟨i+1,S8,A8,fun id=>V id∨(id=o3∨id=HC.n),_,(cs.drop 0).take ((basN p L i).length*2)++[.slice (some ⟨o3,0,some 1⟩) y.length y.length,.slice (some ⟨HC.n,0,some 1⟩) L.length L.length]⟩,inv9 _,by first | omega | (simp only; omega),⟨rfl,rfl,rfl,rfl,rfl,rfl,rfl,rfl,congrArg (Value.int .i64) (inc64 (by omega)),trivial⟩,(g.take 3).eqT (by simp only [eB,List.length_append,List.length_singleton]; rfl)⟩)
  ·rw [if_neg hfz] at eB
   have key:=first (S:=S6) (H0:=A6) (xs:=z.1) (a:=some ⟨o3,0,some 1⟩) (c:=y.length) (by omega) (by rw [← l1]; exact sl1')
   rw [if_neg hfz,← l1] at key
   refine KW.callE rfl rfl rfl rfl rfl (key) (fun _ _=>?_)
   refine KW.no rfl rfl (by omega) ?_
   refine KW.nxt rfl rfl (fun H' g=>⟨⟨i+1,S6,A6,V,o,cs⟩,⟨by simp only; omega,old6,fun id h=>(S16 id (hV id h)).1,by simp only [eB]; exact hcl,by simp only [eB]; exact cl.mv (fun id h=>(S16 id (hV id h)).2) (fun id h=>h)⟩,by first | omega | (simp only; omega),⟨rfl,rfl,rfl,rfl,rfl,rfl,rfl,rfl,congrArg (Value.int .i64) (inc64 (by omega)),trivial⟩,(g.take 3).eqT (by simp only [eB]; rfl)⟩)
 case gout=>
  have k1:¬(i:Int) < (L.length:Int):=k1
  obtain rfl:i=L.length:=by omega
  have bm:=bok L.length (Nat.le_refl _)
  refine KW.callN1 rfl rfl rfl rfl rfl (cloneB (by omega) hts.up) (fun v HC SC mC _ _ hv=>?_)
  rcases hv with ⟨hy0,rfl⟩ | ⟨o3,rfl,hno3,hmo3⟩
  ·exfalso; rw [hy0] at ht; have:=ht.1; simp at this; omega
  have tC:=(inferInstance:On S1 A1 SC HC).st
  refine KW.mk1 rfl rfl rfl rfl rfl rfl rfl rfl rfl rfl rfl rfl (L.length) rfl rfl (by omega) (by show 8*_≤_; omega) ?_
  refine KW.ids (fun hlowC hvarC=>?_)
  have sC3:SC o3:=(inferInstance:On (New _ HC.n) HC SC HC).st o3 hno3 |>.1
  refine KW.freeze 3 rfl (fun A5 S5 hn5 hS5 st5 hm5 hlt5 hno5 hlow5=>?_)
  refine KW.build rfl rfl rfl rfl rfl (built_Prt _ _ _ _ _ _) ?_
  have SC5:∀id,SC id→S5 id∧A5.m id=HC.m id:=fun id h=>st5.st id h
  have S15:∀id,S1 id→S5 id∧A5.m id=A1.m id:=fun id h=>⟨(SC5 id (tC id h).1).1,(SC5 id (tC id h).1).2.trans (tC id h).2⟩
  have hr1:KI.Ml (fun id=>id=o3) A5 (.slice (some ⟨o3,0,some 1⟩) t.length t.length) t:=row_ml ((SC5 o3 sC3).2.trans hmo3)
  have hm5':A5.m HC.n=some ⟨2,true,(List.replicate L.length (0:Int)).map (Value.int .i64)⟩:=hm5.trans (by rw [List.map_replicate])
  have hul:(List.replicate L.length (0:Int)).length=L.length:=by simp
  have hr2:KI.Ml (fun id=>id=HC.n) A5 (.slice (some ⟨HC.n,0,some 1⟩) (List.replicate L.length (0:Int)).length L.length) (List.replicate L.length 0):=by
   have:=row_ml (A:=A5) (o:=HC.n) (ty:=2) (xs:=List.replicate L.length 0) hm5'
   rw [hul] at this ⊢
   exact this
  have hx:PrOk p k L.length (t,List.replicate L.length 0):=⟨ht,zero_ok hp0⟩
  have no3:n≤o3:=hno3.1
  have no4:n≤HC.n:=mC
  refine KW.callWV (W:=fun id=>id=o3∨id=HC.n) (post:=fun _ v H1=>v=.agg #[.slice (some ⟨o3,0,some 1⟩) t.length t.length,.slice (some ⟨HC.n,0,some 1⟩) L.length L.length]∧KI.Ml (fun id=>id=o3) H1 (.slice (some ⟨o3,0,some 1⟩) t.length t.length) (leftC p L t).1∧KI.Ml (fun id=>id=HC.n) H1 (.slice (some ⟨HC.n,0,some 1⟩) L.length L.length) (leftC p L t).2) (fun id h=>by rcases h with h | h; rw [h]; exact (SC5 o3 sC3).1; rw [h]; exact (hS5 _).2 (.inr rfl)) rfl rfl rfl rfl rfl (fun H6 g st6=>?gc) (fun v A6 S6 m6 t6 w6 hv6=>?_)
  case gc=>
   have hM:=g.has (j:=0) rfl rfl
   have hb:=g.has (j:=2) rfl rfl
   have hlit:=g.blk (j:=1) rfl
   have z6:∀id,S5 id→id < H6.n∧H6.m id=A5.m id:=fun id h=>by have h1:=g.froz id h; have:=g.n_; exact ⟨by omega,h1.2⟩
   have clX:K_Prt.Sl (fun id=>id=o∨V id) H6 (.slice (some ⟨o,0,some 2⟩) (basN p L L.length).length (basN p L L.length).length) (basN p L L.length):=
    (cl.mv (X':=fun id=>V id) (A':=H6) (fun id h=>((z6 id (S15 id (hV id h)).1).2).trans (S15 id (hV id h)).2) (fun _ h=>h)).sl (.inl rfl) hlit.1 rfl (fun id h=>.inr h) (Nat.le_refl _)
   have key:=lessC (S:=Low H6.n) (H0:=H6) (a1:=some ⟨o3,0,some 1⟩) (c1:=t.length) (a2:=some ⟨HC.n,0,some 1⟩) (c2:=L.length) (x:=(t,List.replicate L.length 0)) (W1:=fun id=>id=o3) (W2:=fun id=>id=HC.n) (X:=fun id=>id=o∨V id) hp hk hLl (fun b hb=>(bm b hb).1) hx (by have:=basN_len (p:=p) (L:=L) L.length; omega) hM (by omega) hb (by omega) clX (fun id h=>⟨by
    rcases h with h | h
    ·rw [h]; exact hlit.2
    ·exact (z6 id (S15 id (hV id h)).1).1,fun hh=>by
    rcases h with h | h
    ·omega
    ·have:=hlow id (hV id h); omega⟩) (fun id h=>by
     rcases h with h | h
     ·rw [h]; exact (z6 o3 (SC5 o3 sC3).1).1
     ·rw [h]; exact (z6 _ ((hS5 _).2 (.inr rfl))).1) (fun id h h'=>by have e1:id=o3:=h; have e2:id=HC.n:=h'; have:=hno3.2; omega) (Kn.Ml.same (fun id h=>by rw [h]; exact (z6 o3 (SC5 o3 sC3).1).2) hr1) (Kn.Ml.same (fun id h=>by rw [h]; exact (z6 _ ((hS5 _).2 (.inr rfl))).2) hr2)
   simp only [hul] at key
   exact key
  obtain ⟨rfl,w1,w2⟩:=hv6
  have hz:=leftC_ok hf hL ht
  have eC:comb p L t=if fz (leftC p L t).1 < (leftC p L t).1.length then none else some (sc p (p - 1) (leftC p L t).2):=rfl
  obtain ⟨z,ez⟩:∃z,leftC p L t=z:=⟨_,rfl⟩
  rw [ez] at w1 w2 hz eC
  have l1:t.length=z.1.length:=ht.1.trans hz.1.1.symm
  have l2:L.length=z.2.length:=hz.2.1.symm
  have s3:S6 o3:=(t6 o3 (SC5 o3 sC3).1).1
  have s4:S6 HC.n:=(t6 HC.n ((hS5 _).2 (.inr rfl))).1
  have S56:∀id,S5 id→id≠o3→id≠HC.n→A6.m id=A5.m id:=fun id h e1 e2=>(t6 id h).2 (fun hh=>hh.elim e1 e2)
  have S16:∀id,S1 id→S6 id∧A6.m id=A1.m id:=fun id h=>by
   have h1:=hlow id h
   have h2:=S15 id h
   exact ⟨(t6 id h2.1).1,(S56 id h2.1 (by omega) (by omega)).trans h2.2⟩
  have old6:∀id,id < H.n→S6 id∧A6.m id=H.m id:=fun id h=>⟨(S16 id (old id h).1).1,(S16 id (old id h).1).2.trans (old id h).2⟩
  haveI o6:On (Low H.n) H S6 A6:=⟨old6⟩
  have sl1':KI.Sl S6 A6 (.slice (some ⟨o3,0,some 1⟩) t.length t.length) z.1:=w1.sl.more (fun id h=>by rw [h]; exact s3)
  have hz1l:=hz.1.1
  have hz2l:=hz.2.1
  by_cases hfz:fz z.1 < z.1.length
  ·rw [if_pos hfz] at eC
   have key:=first (S:=S6) (H0:=A6) (xs:=z.1) (a:=some ⟨o3,0,some 1⟩) (c:=t.length) (by omega) (by rw [← l1]; exact sl1')
   rw [if_pos hfz,← l1] at key
   refine KW.callE rfl rfl rfl rfl rfl (key) (fun _ _=>?_)
   refine KW.yes rfl rfl (by omega) ?_
   refine KW.retM1 rfl rfl rfl rfl (fun H1 g=>by rw [eC]; rfl)
  ·rw [if_neg hfz] at eC
   have key:=first (S:=S6) (H0:=A6) (xs:=z.1) (a:=some ⟨o3,0,some 1⟩) (c:=t.length) (by omega) (by rw [← l1]; exact sl1')
   rw [if_neg hfz,← l1] at key
   refine KW.callE rfl rfl rfl rfl rfl (key) (fun _ _=>?_)
   refine KW.no rfl rfl (by omega) ?_
   have k3:=scaled (S:=S6) (H0:=A6) (W:=fun id=>id=HC.n) (p:=p) (b:=IntKind.i64.wrap (p - 1)) hp31 (by rw [wrM hp31]; omega) (a:=some ⟨HC.n,0,some 1⟩) (c:=L.length) (xs:=z.2) (by omega) hz.2.2 (fun id h=>by rw [h]; exact s4) (by rw [← l2]; exact w2)
   rw [← l2] at k3
   refine KW.callW (W:=fun id=>id=HC.n) (fun id h=>by rw [h]; exact s4) rfl rfl rfl rfl rfl k3 (fun v8 A8 S8 m8 t8 w8 hv8=>?_)
   have old8:∀id,id < H.n→S8 id∧A8.m id=H.m id:=fun id h=>⟨(t8 id (old6 id h).1).1,((t8 id (old6 id h).1).2 (fun hh=>by have e1:id=HC.n:=hh; omega)).trans (old6 id h).2⟩
   haveI o8:On (Low H.n) H S8 A8:=⟨old8⟩
   have s48:S8 HC.n:=(t8 _ s4).1
   rw [wrM hp31] at hv8
   have el:(sc p (p - 1) z.2).length=L.length:=by simp [sc,hz2l]
   refine KW.retM1 rfl rfl rfl rfl (fun H1 g=>?_)
   ·rw [eC]
    refine ⟨some ⟨HC.n,0,some 1⟩,L.length,by rw [el]; rfl,?_⟩
    rw [el]
    have h1:KI.Sl (fun id=>id=HC.n) H1 (.slice (some ⟨HC.n,0,some 1⟩) L.length L.length) (sc p (p - 1) z.2):=(Kn.Ml.same (fun id h=>by rw [h]; exact (g.froz _ s48).2) hv8).sl
    exact h1.more (fun id h=>by
     have:=(g.froz _ s48).1
     have:=g.n_
     rw [h]
     exact ⟨by omega,by omega⟩)
end
section
variable {S:Ids} {H0:AH}
end
section
variable {S:Ids} {H0:AH}
end
end Go.Proofs.Ytlapbbffoapleaa.Am
/- What rows span, plain; where a row is not spanned, some list makes all rows 0 and it 1. Each holds under its own conditions. -/
set_option linter.unusedVariables false
set_option linter.unusedSimpArgs false
set_option maxRecDepth 20000
namespace Go.Proofs.Ytlapbbffoapleaa.Pl
def Spn (p:Int) (L:List (List Int)) (v:List Int):Prop:=∃cs:List Int,cs.length=L.length∧∀j,Cg p (lcS L cs j) (v.getD j 0)
theorem Spn.row {p:Int} {L:List (List Int)} {i:Nat} {r:List Int} (h:L[i]?=some r):Spn p L r:=by
 have hi:=(List.getElem?_eq_some_iff.1 h).1
 refine ⟨(List.replicate L.length 0).set i 1,by simp,fun j=>?_⟩
 rw [lcS_unit L i L.length hi hi,List.getD_eq_getElem?_getD (l:=L),h]
 exact Cg.rfl'
theorem Spn.sc {p b:Int} {L:List (List Int)} {v:List Int} (h:Spn p L v):Spn p L (sc p b v):=by
 obtain ⟨cs,h1,h2⟩:=h
 refine ⟨Pl.sc p b cs,by simp [Pl.sc,h1],fun j=>?_⟩
 exact (lcS_sc L cs).trans ((Cg.rfl'.mul (h2 j)).trans (sc_cg (w:=v)).symm)
theorem Spn.tk {p s:Int} {L:List (List Int)} {v w:List Int} (h:Spn p L v) (h':Spn p L w) (hl:v.length=w.length):Spn p L (tk p s v w):=by
 obtain ⟨cs,h1,h2⟩:=h
 obtain ⟨ds,h3,h4⟩:=h'
 refine ⟨Pl.tk p s cs ds,by simp [Pl.tk,h1,h3],fun j=>?_⟩
 exact (lcS_tk L cs ds (by omega)).trans (((h2 j).sub (Cg.rfl'.mul (h4 j))).trans (tk_cg hl).symm)
end Go.Proofs.Ytlapbbffoapleaa.Pl
namespace Go.Proofs.Ytlapbbffoapleaa.Am
open Go Go.RowKit Go.Proofs Go.Proofs.Ytlapbbffoapleaa.Pl
end Go.Proofs.Ytlapbbffoapleaa.Am

namespace Go.Proofs.Ytlapbbffoapleaa.Am
open Go Go.RowKit Go.Proofs
theorem rows20 {x:T_Deal} (hd:DealOk x) (j:Int):(rowsOf x.1.2.1 j).length≤20:=by
 have h1:=rowsOf_len x.1.2.1 j
 have h2:=hd.sch.len
 have h3:=hd.sch.mat.len
 omega
end Go.Proofs.Ytlapbbffoapleaa.Am
namespace Go.Proofs.Ytlapbbffoapleaa.Am
open Go Go.RowKit Go.Proofs Go.Proofs.Ytlapbbffoapleaa.Pl
section
variable {S:Ids} {H0:AH}
end
section
variable {S:Ids} {H0:AH}
end
section
variable {x:T_Deal} {c:Cer}
end
end Go.Proofs.Ytlapbbffoapleaa.Am
namespace Go.Proofs.Ytlapbbffoapleaa.Am
open Go Go.RowKit Go.Proofs
section
variable {S:Ids} {H0:AH} {W:Ids} {a a':Option Addr} {c c':Nat} {left k:Int}
end
section
variable {P:Program} {S:Ids} {H0:AH} {Q:PostC} {k k1:List It} {e e1:Env} {T T1:List Var} {n n1:Nat} {l1 r1:List Nat} {d1:Tmp}
theorem KW.litX {o:Oper} {dr:Bool} {t el:TypeId} {m:Nat} {parts:Array (Nat × Operand)} {inf:TypeInfo} {z:Value} (cs:List Value) (h:Go1 P k e T n (.op o dr) k1 e1 T1 n1 l1 r1) (hlr:l1=r1) (ho:o.op=.buildSlice t m parts) (hd:o.dst=some d1)
  (hu:P.underlying t=some (.slice el)) (hi:P.info? el=some inf) (hz:inf.zero=some z) (hzo:zeroOkL P el=true) (hf:Instr.fill (fun j=>some (j*inf.size,inf.size)) (zarr z (m*inf.size)) (parts.toList.map fun p=>(p.1,ev e1 p.2))=some cs.toArray) (hs:cs.length=m*inf.size) (hle:Nat.ble (m*inf.size) 16777216=true)
  (hk:KW P S H0 Q (n1+1) (T1++[(n1,⟨el,true,cs⟩)]) k1 (put1 e1 d1 (.slice (some ⟨n1,0,some inf.size⟩) m m))):KW P S H0 Q n T k e:=by
 refine KW.go h hlr (KEvt.heap (c:=⟨_,_,_,_,_,_⟩) _ _ _ (by rw [ho]; exact .inl rfl) (fun H g=>⟨none,_,?_,g.push _⟩) (by rw [hd,put1_eq]; exact hk))
 rw [ho]
 have hle:=Nat.le_of_ble_eq_true hle
 simp only [hop,alit,hu,hi,hz,hf,g.n_]
 rw [if_pos ⟨zeroOkL_ok hzo,hle⟩,if_pos (by simpa using hs)]
end
def MkDC (l:List T_Deed) (code:Int) (n:Nat) (v:Value) (H1:AH):Prop:=∃a c,v=.tuple #[.slice a l.length c,.int .i64 code]∧M_DeedS.R (New n H1.n) H1 l [.slice a l.length c]
theorem MkDC.nil {code:Int} {n:Nat} {H1:AH} {v:Value} (hv:v=.tuple #[.slice none 0 0,.int .i64 code]):MkDC [] code n v H1:=⟨none,0,hv,ml1' (.inl ⟨rfl,_,_,rfl,fun _=>rfl⟩)⟩
theorem built_Deed2 (a b:Int):Try.prog.built 68 [(0,.int .i64 a),(1,.int .i64 b)]=some #[.int .i64 a,.int .i64 b,.int .i64 0]:=by kernel_rfl
section
variable {S:Ids} {H0:AH} {x:T_Deal} {ds:T_DeedS} {g:List Int} {dcs:List Value}
end
end Go.Proofs.Ytlapbbffoapleaa.Am
namespace Go.Proofs.Ytlapbbffoapleaa.Am
open Go Go.RowKit Go.Proofs Go.Proofs.Ytlapbbffoapleaa.Pl
section
variable {x:T_Deal} {c:Cer} {d:T_Deed} {DS:List T_Deed}
theorem doIt_give (h1:d.1=1) (hr:¬x.1.1≤d.2.1):doIt x c d=send c (false,d.2.1,c.ep,valsD x c.ep d.2.1,tagsD x c.ep d.2.1 (valsD x c.ep d.2.1)):=by
 unfold doIt
 rw [if_neg (show ¬(d.1=3∨d.1=4∨d.1=5) by omega),if_neg (show ¬d.1=9 by omega),if_neg hr,if_pos h1]
theorem doIt_deliver (h1:d.1=3) (hw:¬(c.wire.length:Int)≤d.2.1):doIt x c d=(come x (dropW c d.2.1.toNat) (c.pk d.2.1),0):=by
 unfold doIt
 rw [if_pos (show d.1=3∨d.1=4∨d.1=5 from .inl h1),if_neg hw,if_neg (show ¬d.1=5 by omega),if_neg (show ¬d.1=4 by omega)]
theorem doIt_copy (h1:d.1=4) (hw:¬(c.wire.length:Int)≤d.2.1):doIt x c d=(come x c (c.pk d.2.1),0):=by
 unfold doIt
 rw [if_pos (show d.1=3∨d.1=4∨d.1=5 from .inr (.inl h1)),if_neg hw,if_neg (show ¬d.1=5 by omega),if_pos h1]
theorem doIt_drop (h1:d.1=5) (hw:¬(c.wire.length:Int)≤d.2.1):doIt x c d=(dropW c d.2.1.toNat,0):=by
 unfold doIt
 rw [if_pos (show d.1=3∨d.1=4∨d.1=5 from .inr (.inr h1)),if_neg hw,if_pos h1,if_neg (show ¬d.1=4 by omega)]
noncomputable def fullP (x:T_Deal) (ep h:Int):T_Purse:=(ep,valsD x ep h,tagsD x ep h (valsD x ep h))
structure PackR (x:T_Deal) (c:Cer) (h:Int) (c':Cer):Prop where
 ep:c'.ep=c.ep
 wi:c'.wire=[]
 se:c'.seats=c.seats.set h.toNat (fullP x c.ep h,fullP x c.ep h,0)
 oe:c'.oe=c.ep
 nm:c'.named=c.named
 hs:c'.has.getD h.toNat false=true
 mo:c.oe=c.ep→∀j,c.has.getD j false=true→c'.has.getD j false=true
structure GathR (x:T_Deal) (c:Cer) (g:List Int) (c':Cer):Prop where
 ep:c'.ep=c.ep
 wi:c'.wire=[]
 nm:c'.named=c.named
 sl:c'.seats.length=c.seats.length
 hs:∀h∈g,c'.has.getD h.toNat false=true
 mo:c.oe=c.ep→∀j,c.has.getD j false=true→c'.has.getD j false=true
 pu:∀h∈g,c'.seat h=(fullP x c.ep h,fullP x c.ep h,0)
 st:∀h,HoOk x h→c'.seat h=c.seat h∨c'.seat h=(fullP x c.ep h,fullP x c.ep h,0)
end
end Go.Proofs.Ytlapbbffoapleaa.Am
namespace Go.Proofs.Ytlapbbffoapleaa.Am
open Go Go.RowKit Go.Proofs
structure CerS (c:Cer):Prop where
 sl:c.seats.length≤1048576
 se:∀s∈c.seats,(s.1.2.1.length≤1048576∧s.1.2.2.length≤1048576)∧(s.2.1.2.1.length≤1048576∧s.2.1.2.2.length≤1048576)
 gl:c.got.length≤1048576
 go:∀g∈c.got,g.length≤1048576
 hl:c.has.length=c.got.length
 nl:c.named.length=c.got.length
 wl:c.wire.length≤1048576
 wi:∀p∈c.wire,p.2.2.2.1.length≤1048576∧p.2.2.2.2.length≤1048576
theorem CerOk.small {x:T_Deal} {c:Cer} (hd:DealOk x) (ok:CerOk x c):CerS c:=by
 have h7:=hd.sch.h7
 have r20:=fun j=>rows20 hd j
 have pu:∀{h:Int} {p:T_Purse},PuOk x h p→p.2.1.length≤1048576∧p.2.2.length≤1048576:=fun {h p} hp=>by
  rcases hp with ⟨_,e1,e2⟩ | ⟨_,r⟩
  ·rw [e1,e2]; exact ⟨Nat.zero_le _,Nat.zero_le _⟩
  ·have:=r.vl; have:=r.tl; have:=r20 h; omega
 refine ⟨by have:=ok.sl; omega,fun s hs=>?_,by have:=ok.sl; have:=ok.gl; omega,fun g hg=>?_,by rw [ok.hl,ok.gl],by rw [ok.nl,ok.gl],by have:=ok.wl; omega,fun p hp=>?_⟩
 ·obtain ⟨j,hj⟩:=List.getElem?_of_mem hs
  have:=ok.se j s hj
  exact ⟨pu this.pu,pu this.sa⟩
 ·obtain ⟨j,hj⟩:=List.getElem?_of_mem hg
  rcases ok.go j g hj with ⟨e,_⟩ | ⟨e,_⟩
  ·rw [e]; exact Nat.zero_le _
  ·have:=r20 j; omega
 ·have:=(ok.wi p hp).rw
  have h1:=this.vl
  have h2:=this.tl
  have:=r20 p.2.1
  omega
section
variable {S:Ids} {H0:AH}
theorem split_SeatF {X:Ids} {A:AH} {s:T_Seat} {cs:List Value} (h:K_Seat.R X A s cs):∃(a1:Option Addr) (c1:Nat) (a2:Option Addr) (c2:Nat) (a3:Option Addr) (c3:Nat) (a4:Option Addr) (c4:Nat),cs=[.int .i64 s.1.1,.slice a1 s.1.2.1.length c1,.slice a2 s.1.2.2.length c2,.int .i64 s.2.1.1,.slice a3 s.2.1.2.1.length c3,.slice a4 s.2.1.2.2.length c4,.int .i64 s.2.2]∧KI.Sl X A (.slice a1 s.1.2.1.length c1) s.1.2.1∧KI.Sl X A (.slice a2 s.1.2.2.length c2) s.1.2.2∧KI.Sl X A (.slice a3 s.2.1.2.1.length c3) s.2.1.2.1∧KI.Sl X A (.slice a4 s.2.1.2.2.length c4) s.2.1.2.2:=by
 obtain ⟨ps,qs,rfl,hp,hq⟩:=split_Seat h
 obtain ⟨a1,c1,a2,c2,rfl,h1,h2⟩:=split_Purse hp
 obtain ⟨a3,c3,a4,c4,rfl,h3,h4⟩:=split_Purse hq
 exact ⟨_,_,_,_,_,_,_,_,rfl,h1,h2,h3,h4⟩
theorem sameCeremony {c:Cer} {cs ds:List Value} (hs:CerS c) (h1:CerIn c S H0 cs) (h2:CerIn c S H0 ds):Spec Try.prog S H0 35 [.agg cs.toArray,.agg ds.toArray] (fun v=>v=.bool true):=by
 obtain ⟨a1,a2,a3,a4,a5,c1,c2,c3,c4,c5,rfl,k1,k2,k3,k4,k5⟩:=h1
 obtain ⟨b1,b2,b3,b4,b5,d1,d2,d3,d4,d5,rfl,l1,l2,l3,l4,l5⟩:=h2
 refine Spec.of1 Try.func35 rfl (by kernel_rfl) rfl (fun H _=>?_)
 have hsl:=hs.sl
 have hwl:=hs.wl
 refine KW.tF rfl rfl (by simp) ?_
 refine KW.tF rfl rfl (by simp) ?_
 refine KW.cF rfl rfl (by simp) ?_
 refine KW.lp rfl rfl (fun i:Nat=>[(2,.pointer (some ⟨H.n,0,some 0⟩)),(3,.pointer (some ⟨H.n+1,0,some 1⟩)),(5,.int .i64 i)]) (fun i=>i≤c.seats.length) (fun i=>c.seats.length - i) (0) (Nat.zero_le _) ⟨rfl,rfl,rfl,trivial⟩ (fun i hi bE n=>?_)
 refine KW.cnd rfl rfl (fun j1=>?_) (fun j1=>?_)
 ·have j1:(i:Int) < (c.seats.length:Int):=j1
  have es:c.seats[i]?=some (c.seats.getD i seat0):=getD_mem (by omega)
  obtain ⟨s,ess⟩:∃s,c.seats.getD i seat0=s:=⟨_,rfl⟩
  rw [ess] at es
  have hse:=hs.se s (List.mem_of_getElem? es)
  refine KW.adS k1.up rfl rfl rfl rfl rfl rfl rfl rfl rfl (by omega) (j1) (fun y ys id0 z0 hy hsy hat0=>?_)
  have hy:c.seats[i]?=some y:=hy
  obtain rfl:s=y:=by rw [es] at hy; exact Option.some.inj hy
  obtain ⟨e1,f1,e2,f2,e3,f3,e4,f4,rfl,m1,m2,m3,m4⟩:=split_SeatF hsy
  refine KW.ldFs 0 [.int .i64 s.1.1,.slice e1 s.1.2.1.length f1,.slice e2 s.1.2.2.length f2] hat0 rfl rfl rfl rfl rfl rfl rfl rfl rfl rfl (Nat.succ_pos _) ?_
  refine KW.adS l1.up rfl rfl rfl rfl rfl rfl rfl rfl rfl (by omega) (j1) (fun y2 ys2 id1 z1 hy2 hsy2 hat1=>?_)
  have hy2:c.seats[i]?=some y2:=hy2
  obtain rfl:s=y2:=by rw [es] at hy2; exact Option.some.inj hy2
  obtain ⟨g1,o1,g2,o2,g3,o3,g4,o4,rfl,n1,n2,n3,n4⟩:=split_SeatF hsy2
  refine KW.ldFs 0 [.int .i64 s.1.1,.slice g1 s.1.2.1.length o1,.slice g2 s.1.2.2.length o2] hat1 rfl rfl rfl rfl rfl rfl rfl rfl rfl rfl (Nat.succ_pos _) ?_
  refine KW.callE rfl rfl rfl rfl rfl (samePurse (x:=s.1) hse.1.1 hse.1.2 m1.up m2.up n1.up n2.up) (fun _ _=>?_)
  refine KW.tF rfl rfl (by first | (simp; done) | decide) ?_
  refine KW.adS k1.up rfl rfl rfl rfl rfl rfl rfl rfl rfl (by omega) (j1) (fun y3 ys3 id3 z3 hy3 hsy3 hat3=>?_)
  have hy3:c.seats[i]?=some y3:=hy3
  obtain rfl:s=y3:=by rw [es] at hy3; exact Option.some.inj hy3
  obtain ⟨e1,f1,e2,f2,e3,f3,e4,f4,rfl,m1,m2,m3,m4⟩:=split_SeatF hsy3
  refine KW.ldFs 3 [.int .i64 s.2.1.1,.slice e3 s.2.1.2.1.length f3,.slice e4 s.2.1.2.2.length f4] hat3 rfl rfl rfl rfl rfl rfl rfl rfl rfl rfl (Nat.succ_pos _) ?_
  refine KW.adS l1.up rfl rfl rfl rfl rfl rfl rfl rfl rfl (by omega) (j1) (fun y4 ys4 id4 z4 hy4 hsy4 hat4=>?_)
  have hy4:c.seats[i]?=some y4:=hy4
  obtain rfl:s=y4:=by rw [es] at hy4; exact Option.some.inj hy4
  obtain ⟨g1,o1,g2,o2,g3,o3,g4,o4,rfl,n1,n2,n3,n4⟩:=split_SeatF hsy4
  refine KW.ldFs 3 [.int .i64 s.2.1.1,.slice g3 s.2.1.2.1.length o3,.slice g4 s.2.1.2.2.length o4] hat4 rfl rfl rfl rfl rfl rfl rfl rfl rfl rfl (Nat.succ_pos _) ?_
  refine KW.callE rfl rfl rfl rfl rfl (samePurse (x:=s.2.1) hse.2.1 hse.2.2 m3.up m4.up n3.up n4.up) (fun _ _=>?_)
  refine KW.tF rfl rfl (by first | (simp; done) | decide) ?_
  refine KW.adS k1.up rfl rfl rfl rfl rfl rfl rfl rfl rfl (by omega) (j1) (fun y5 ys5 id5 z5 hy5 hsy5 hat5=>?_)
  have hy5:c.seats[i]?=some y5:=hy5
  obtain rfl:s=y5:=by rw [es] at hy5; exact Option.some.inj hy5
  obtain ⟨e1,f1,e2,f2,e3,f3,e4,f4,rfl,m1,m2,m3,m4⟩:=split_SeatF hsy5
  refine KW.ldF 6 hat5 rfl rfl rfl rfl rfl rfl rfl rfl rfl ?_
  refine KW.adS l1.up rfl rfl rfl rfl rfl rfl rfl rfl rfl (by omega) (j1) (fun y6 ys6 id6 z6 hy6 hsy6 hat6=>?_)
  have hy6:c.seats[i]?=some y6:=hy6
  obtain rfl:s=y6:=by rw [es] at hy6; exact Option.some.inj hy6
  obtain ⟨g1,o1,g2,o2,g3,o3,g4,o4,rfl,n1,n2,n3,n4⟩:=split_SeatF hsy6
  refine KW.ldF 6 hat6 rfl rfl rfl rfl rfl rfl rfl rfl rfl ?_
  refine KW.cF rfl rfl (by simp) ?_
  refine KW.nxt rfl rfl (fun H' g=>⟨i+1,by omega,by first | omega | (simp only; omega),⟨rfl,rfl,congrArg (Value.int .i64) (inc64 (by omega)),trivial⟩,g⟩)
 refine KW.lp rfl rfl (fun i:Nat=>[(2,.pointer (some ⟨H.n,0,some 0⟩)),(3,.pointer (some ⟨H.n+1,0,some 1⟩)),(6,.int .i64 i)]) (fun i=>i≤c.wire.length) (fun i=>c.wire.length - i) (0) (Nat.zero_le _) ⟨rfl,rfl,rfl,trivial⟩ (fun i hi bE n=>?_)
 refine KW.cnd rfl rfl (fun j1=>?_) (fun j1=>?_)
 ·have j1:(i:Int) < (c.wire.length:Int):=j1
  refine KW.adS k5.up rfl rfl rfl rfl rfl rfl rfl rfl rfl (by omega) (j1) (fun y ys id0 z0 hy hsy hat0=>?_)
  have hy:c.wire[i]?=some y:=hy
  have hwi:=hs.wi y (List.mem_of_getElem? hy)
  obtain ⟨e1,f1,e2,f2,rfl,m1,m2⟩:=split_Packet hsy
  refine KW.ldFs 0 [.bool y.1,.int .i64 y.2.1,.int .i64 y.2.2.1,.slice e1 y.2.2.2.1.length f1,.slice e2 y.2.2.2.2.length f2] hat0 rfl rfl rfl rfl rfl rfl rfl rfl rfl rfl (Nat.succ_pos _) ?_
  refine KW.adS l5.up rfl rfl rfl rfl rfl rfl rfl rfl rfl (by omega) (j1) (fun y2 ys2 id1 z1 hy2 hsy2 hat1=>?_)
  have hy2:c.wire[i]?=some y2:=hy2
  obtain rfl:y=y2:=by rw [hy] at hy2; exact Option.some.inj hy2
  obtain ⟨g1,o1,g2,o2,rfl,n1,n2⟩:=split_Packet hsy2
  refine KW.ldFs 0 [.bool y.1,.int .i64 y.2.1,.int .i64 y.2.2.1,.slice g1 y.2.2.2.1.length o1,.slice g2 y.2.2.2.2.length o2] hat1 rfl rfl rfl rfl rfl rfl rfl rfl rfl rfl (Nat.succ_pos _) ?_
  refine KW.tF rfl rfl (by simp) ?_
  refine KW.tF rfl rfl (by simp) ?_
  refine KW.tF rfl rfl (by simp) ?_
  refine KW.callE rfl rfl rfl rfl rfl (l00Same hwi.1 m1.up n1.up) (fun _ _=>?_)
  rw [tv_true (rfl:y.2.2.2.1=y.2.2.2.1)]
  refine KW.tF rfl rfl (by first | (simp; done) | decide) ?_
  refine KW.callE rfl rfl rfl rfl rfl (l00Same hwi.2 m2.up n2.up) (fun _ _=>?_)
  rw [tv_true (rfl:y.2.2.2.2=y.2.2.2.2)]
  refine KW.cF rfl rfl (by first | (simp; done) | decide) ?_
  refine KW.nxt rfl rfl (fun H' g=>⟨i+1,by omega,by first | omega | (simp only; omega),⟨rfl,rfl,congrArg (Value.int .i64) (inc64 (by omega)),trivial⟩,g.take 2⟩)
 refine KW.callE rfl rfl rfl rfl rfl (sameOpener hs.go hs.gl hs.hl hs.nl k2.up k3.up k4.up l2.up l3.up l4.up) (fun _ _=>?_)
 exact KW.ret rfl rfl rfl rfl (rfl)
end
theorem acells_ds {H:AH} {o c:Nat} {ty:TypeId} {rw_:Bool} {ds:List T_Deed} (hm:H.m o=some ⟨ty,rw_,dcells ds⟩):acells H (.slice (some ⟨o,0,some 3⟩) ds.length c) 3=some (ds.length,dcells ds):=by
 rw [acells_seg hm (by show 0+ds.length*3≤(dcells ds).length; rw [dcells_len]; omega)]
 have e:((dcells ds).drop 0).take (ds.length*3)=dcells ds:=by rw [List.drop_zero,← dcells_len,List.take_length]
 show some (ds.length,((dcells ds).drop 0).take (ds.length*3))=_
 rw [e]
theorem dcells_one (ds:List T_Deed):(dcells ds).all Value.oneCell'=true:=by
 refine List.all_eq_true.2 fun v hv=>?_
 unfold dcells at hv
 obtain ⟨d,_,hd⟩:=List.mem_flatMap.1 hv
 simp only [List.mem_cons,List.not_mem_nil,or_false] at hd
 rcases hd with rfl | rfl | rfl <;> rfl
theorem deeds_slN {S:Ids} {A:AH} {o n c:Nat} {ty:TypeId} {rw_:Bool} {ds:List T_Deed} {cs:List Value} (hn:n=ds.length) (hc:c=ds.length) (hcs:cs=dcells ds) (hb:A.m o=some ⟨ty,rw_,cs⟩∧S o):K_Deed.Sl S A (.slice (some ⟨o,0,some 3⟩) n c) ds:=by
 subst hn hc hcs
 exact deeds_sl hb.2 hb.1
section
variable {S:Ids} {H0:AH} {x:T_Deal} {ds:List T_Deed} {dcs:List Value}
theorem cerAfterN {a c n} (hn:n=ds.length) (hd:DealOk x) (hdp:∀d∈ds,DeedP d) (h400:ds.length≤400) (hD:K_Deal.R S H0 x dcs) (hs:K_Deed.Sl S H0 (.slice a n c) ds):SpecM Try.prog S H0 32 [.agg dcs.toArray,.slice a n c] (fun n v H1=>∃cs:List Value,v=.tuple #[.agg cs.toArray,.int .i64 (doneC (codes x (cer0 x.1.1.toNat) ds):Nat),.int .i64 0]∧CerIn (play x (cer0 x.1.1.toNat) ds) (New n H1.n) H1 cs):=by
 subst hn
 exact cerAfter hd hdp h400 hD hs
end
theorem pk_drop {c:Cer} {i:Nat}:(dropW c i).wire=c.wire.eraseIdx i:=rfl
theorem getD_some {α:Type} {l:List α} {i:Nat} {a d:α} (h:l[i]?=some a):l.getD i d=a:=by rw [List.getD_eq_getElem?_getD,h]; rfl
section
variable {S:Ids} {H0:AH}
theorem twice_once {x:T_Deal} {c:Cer} {ds:List T_Deed} (ec:play x (cer0 x.1.1.toNat) ds=c) (ok:CerOk x c) {k:Int} (h0:0≤k) (h1:k < (c.wire.length:Int)):
  play x (cer0 x.1.1.toNat) (ds++[(3,k,0)])=dropW (come x c (c.pk k)) k.toNat∧play x (cer0 x.1.1.toNat) (ds++[(4,k,0),(3,k,0)])=dropW (come x c (c.pk k)) k.toNat∧play x (cer0 x.1.1.toNat) (ds++[(5,k,0)])=dropW c k.toNat:=by
 have hp:=ok.pk h0 h1
 have hw:¬(c.wire.length:Int)≤k:=by omega
 refine ⟨?_,?_,?_⟩
 ·rw [play_snoc,ec,doIt_deliver (d:=(3,k,0)) rfl hw]
  exact come_dropW x c _ _
 ·rw [show ds++[((4,k,0):T_Deed),(3,k,0)]=(ds++[(4,k,0)])++[(3,k,0)] by simp,play_snoc,play_snoc,ec,doIt_copy (d:=(4,k,0)) rfl hw]
  have ew:=come_wireW x c (c.pk k)
  show (doIt x (come x c (c.pk k)) (3,k,0)).1=_
  rw [doIt_deliver (d:=(3,k,0)) rfl (show ¬((come x c (c.pk k)).wire.length:Int)≤k by rw [ew]; exact hw)]
  show come x (dropW (come x c (c.pk k)) k.toNat) ((come x c (c.pk k)).pk k)=_
  have epk:(come x c (c.pk k)).pk k=c.pk k:=by
   show (come x c (c.pk k)).wire.getD k.toNat (false,0,0,[],[])=c.wire.getD k.toNat (false,0,0,[],[])
   rw [ew]
  rw [epk,come_dropW,come_again ok hp.2]
 ·rw [play_snoc,ec,doIt_drop (d:=(5,k,0)) rfl hw]
theorem lawPackets {ar0 ar1:List Int} {p0 p1:Option Addr} {q0 q1:Nat} (hW0:W_B ar0) (h0:K_B.R S H0 ar0 [.slice p0 ar0.length q0]) (hW1:W_B ar1) (h1:K_B.R S H0 ar1 [.slice p1 ar1.length q1]):Spec Try.prog S H0 6 [.slice p0 ar0.length q0,.slice p1 ar1.length q1] (fun v=>v=.bool true):=by
 have s0:=sl1 h0
 have s1:=sl1 h1
 refine Spec.of1 Try.func6 rfl (by kernel_rfl) rfl (fun H _=>?_)
 refine KW.call rfl rfl rfl rfl rfl (a2Long) (fun v _ _ hv=>?_)
 obtain ⟨b,rfl,hb⟩:=hv
 cases b with
 | true=>
  refine KW.cT rfl rfl (by first | (simp; done) | decide) ?_
  exact KW.ret rfl rfl rfl rfl (rfl)
 | false=>
 have hb:=hb rfl
 refine KW.cF rfl rfl (by first | (simp; done) | decide) ?_
 refine KW.callN1 rfl rfl rfl rfl rfl (a2Deal hW0.2 (by omega) s0.up) (fun v HM SM mM _ _ hv=>?_)
 obtain ⟨x,cs,rfl,hd,hR0⟩:=hv
 have hR:K_Deal.R SM HM x cs:=On.R hR0
 clear hR0
 obtain ⟨a1,c1,a2,c2,a3,c3,a4,c4,rfl,d1,d2,d3,d4⟩:=split2_Deal hR
 have hB:=deal_small hd
 have hk:=hd.sch
 have hh1:=hk.h1
 have hh7:=hk.h7
 refine KW.ids (fun hlow hvar=>?_)
 refine KW.callN1 rfl rfl rfl rfl rfl (a2Deeds hd hB hR hW1.2 (by omega) s1.up) (fun v HD SD mD _ _ hv=>?_)
 obtain ⟨ds0,od,rfl,l36,hdp0,hnw,hmo⟩:=hv
 have hSo:SD od∧HD.m od=_:=(inferInstance:On (New _ HD.n) HD SD HD).st od hnw |>.imp id (fun h=>h.trans hmo)
 refine KW.call rfl rfl rfl rfl rfl (a2At hW1.2 (by omega) ⟨hh1,by omega⟩ s1.up) (fun v _ _ hv=>?_)
 obtain ⟨k0,rfl,k0a,k0b⟩:=hv
 refine KW.build rfl rfl rfl rfl rfl (built_Deed2 _ _) ?_
 refine KW.litS1 rfl rfl rfl rfl rfl rfl rfl rfl rfl rfl rfl rfl ?_
 haveI ot:On SM HM (fun id=>SD id∧id≠od) HD:=On.thaw (fun id hid e=>by have:=hlow id hid; have:=hnw.1; omega)
 haveI ot0:On (Low H.n) H (fun id=>SD id∧id≠od) HD:=On.thaw (fun id hid e=>by have h9:id < H.n:=hid; have:=hlow id ((inferInstance:On (Low H.n) H SM HM).st id hid).1; have:=hnw.1; omega)
 haveI ot1:On S H0 (fun id=>SD id∧id≠od) HD:=⟨fun id hid=>by have h1:=(inferInstance:On S H0 (Low H.n) H).st id hid; have h2:=ot0.st id h1.1; exact ⟨h2.1,h2.2.trans h1.2⟩⟩
 refine KW.thaw od _ hSo.1 hSo.2 ?_
 refine KW.appU (m:=1) (ys:=[.int .i64 1,.int .i64 k0,.int .i64 0]) 2 rfl rfl rfl rfl rfl rfl rfl rfl (by decide) rfl (dcells_len ds0) rfl (fun H1 g=>acells_seg (g.blk (j:=1) rfl).1 (by show 0+1*3≤3; decide)) rfl (by show (ds0.length+1)*24≤_; omega) (by omega) (fun o2 n2 ho2 hn2=>?_)
 obtain ⟨ds,eds⟩:∃ds,ds0++[((1,k0,0):T_Deed)]=ds:=⟨_,rfl⟩
 have edc:dcells ds0++[.int .i64 1,.int .i64 k0,.int .i64 0]=dcells ds:=by rw [← eds,dcells_snoc]
 have edl:ds0.length+1=ds.length:=by rw [← eds]; simp
 have hdp:∀d∈ds,DeedP d:=fun d hm=>by
  rw [← eds] at hm
  rcases List.mem_append.1 hm with h | h
  ·exact hdp0 d h
  ·rw [List.mem_singleton.1 h]
   refine ⟨?_,?_,?_,?_,?_⟩ <;> simp [cntD] <;> omega
 rw [edc,edl]
 refine KW.callNV1 rfl rfl rfl rfl rfl (fun H1 g _=>cerAfterN rfl hd hdp (by omega) (On.R hR) (deeds_slN rfl rfl rfl (g.blk (j:=2) rfl))) (fun v HC SC mC _ _ hv=>?_)
 obtain ⟨ccs,rfl,hC⟩:=hv
 obtain ⟨p1,p2,p3,p4,p5,q1,q2,q3,q4,q5,rfl,k1,k2,k3,k4,k5⟩:=hC
 have ok:CerOk x (play x (cer0 x.1.1.toNat) ds):=CerOk.play hd ds hdp (CerOk.start hd)
 obtain ⟨c,ec⟩:∃c,play x (cer0 x.1.1.toNat) ds=c:=⟨_,rfl⟩
 rw [ec] at k1 k2 k3 k4 k5 ok
 rw [ec]
 have hsl:=ok.sl
 have hgl:=ok.gl
 have hhl:=ok.hl
 have hnl:=ok.nl
 have hwl:=ok.wl
 have hcs:=ok.small hd
 have hl37:ds.length≤37:=by omega
  -- the give has been sent, or the wire was full
 have hw1:1≤c.wire.length:=by
  have e1:=play_snoc x ds0 (cer0 x.1.1.toNat) (1,k0,0)
  rw [eds,ec] at e1
  rw [e1,doIt_give rfl (show ¬x.1.1≤k0 by omega)]
  unfold send
  split
  ·rename_i h; show 1≤(play x (cer0 x.1.1.toNat) ds0).wire.length; omega
  ·show 1≤(_++[_]).length
   simp
 refine KW.tF rfl rfl (by first | (simp; done) | decide) ?_
 refine KW.cF rfl rfl (by simp; omega) ?_
 refine KW.call rfl rfl rfl rfl rfl (a2At hW0.2 (by omega) ⟨by omega,by omega⟩ s0.up) (fun v _ _ hv=>?_)
 obtain ⟨k,rfl,ka,kb⟩:=hv
 obtain ⟨w1,w2,w3⟩:=twice_once ec ok ka kb
 refine KW.litS0 rfl rfl rfl rfl rfl rfl rfl rfl rfl rfl ?_
 refine KW.appU 4 rfl rfl rfl rfl rfl rfl rfl rfl (by decide) rfl rfl (dcells_len ds) (fun H1 g=>acells_ds (g.blk (j:=2) rfl).1) (dcells_one ds) (by show (0+ds.length)*24≤_; omega) (by omega) (fun oA nA hoA hnA=>?_)
 refine KW.build rfl rfl rfl rfl rfl (built_Deed2 _ _) ?_
 refine KW.litS1 rfl rfl rfl rfl rfl rfl rfl rfl rfl rfl rfl rfl ?_
 refine KW.appU (m:=1) (ys:=[.int .i64 3,.int .i64 k,.int .i64 0]) 4 rfl rfl rfl rfl rfl rfl rfl rfl (by decide) rfl (by show ([]++dcells ds).length=(0+ds.length)*3; rw [List.nil_append,dcells_len]; omega) rfl (fun H1 g=>acells_seg (g.blk (j:=5) rfl).1 (by show 0+1*3≤3; decide)) rfl (by show (0+ds.length+1)*24≤_; omega) (by omega) (fun pA rA hpA hrA=>?_)
 refine KW.litS0 rfl rfl rfl rfl rfl rfl rfl rfl rfl rfl ?_
 refine KW.appU 6 rfl rfl rfl rfl rfl rfl rfl rfl (by decide) rfl rfl (dcells_len ds) (fun H1 g=>acells_ds (g.blk (j:=2) rfl).1) (dcells_one ds) (by show (0+ds.length)*24≤_; omega) (by omega) (fun oB nB hoB hnB=>?_)
 refine KW.build rfl rfl rfl rfl rfl (built_Deed2 _ _) ?_
 refine KW.build rfl rfl rfl rfl rfl (built_Deed2 _ _) ?_
 refine KW.litX [.int .i64 4,.int .i64 k,.int .i64 0,.int .i64 3,.int .i64 k,.int .i64 0] rfl rfl rfl rfl rfl rfl rfl rfl (by kernel_rfl) rfl rfl ?_
 refine KW.appU (m:=2) (ys:=[.int .i64 4,.int .i64 k,.int .i64 0,.int .i64 3,.int .i64 k,.int .i64 0]) 6 rfl rfl rfl rfl rfl rfl rfl rfl (by decide) rfl (by show ([]++dcells ds).length=(0+ds.length)*3; rw [List.nil_append,dcells_len]; omega) rfl (fun H1 g=>acells_seg (g.blk (j:=7) rfl).1 (by show 0+2*3≤6; decide)) rfl (by show (0+ds.length+2)*24≤_; omega) (by omega) (fun pB rB hpB hrB=>?_)
 refine KW.litS0 rfl rfl rfl rfl rfl rfl rfl rfl rfl rfl ?_
 refine KW.appU 8 rfl rfl rfl rfl rfl rfl rfl rfl (by decide) rfl rfl (dcells_len ds) (fun H1 g=>acells_ds (g.blk (j:=2) rfl).1) (dcells_one ds) (by show (0+ds.length)*24≤_; omega) (by omega) (fun oC nC hoC hnC=>?_)
 refine KW.build rfl rfl rfl rfl rfl (built_Deed2 _ _) ?_
 refine KW.litS1 rfl rfl rfl rfl rfl rfl rfl rfl rfl rfl rfl rfl ?_
 refine KW.appU (m:=1) (ys:=[.int .i64 5,.int .i64 k,.int .i64 0]) 8 rfl rfl rfl rfl rfl rfl rfl rfl (by decide) rfl (by show ([]++dcells ds).length=(0+ds.length)*3; rw [List.nil_append,dcells_len]; omega) rfl (fun H1 g=>acells_seg (g.blk (j:=9) rfl).1 (by show 0+1*3≤3; decide)) rfl (by show (0+ds.length+1)*24≤_; omega) (by omega) (fun pC rC hpC hrC=>?_)
 have dk:∀q:Int,3≤q→q≤5→DeedP (q,k,0):=fun q h3 h5=>by
  refine ⟨?_,?_,?_,?_,?_⟩
  ·show 1≤q∧q≤9; omega
  ·show 0≤k∧k≤999; omega
  ·show (0:Int)≤0∧(0:Int)≤999; omega
  ·show 0 < cntD q∨_; unfold cntD; left; split
   ·omega
   ·split <;> omega
  ·exact .inr rfl
 have dpA:∀d∈ds++([(3,k,0)]:List T_Deed),DeedP d:=fun d hm=>by
  rcases List.mem_append.1 hm with h | h
  ·exact hdp d h
  ·simp only [List.mem_cons,List.not_mem_nil,or_false] at h
   rcases h with rfl <;> exact dk _ (by decide) (by decide)
 have elA:0+ds.length+1=(ds++([(3,k,0)]:List T_Deed)).length:=by simp
 refine KW.callNV1 rfl rfl rfl rfl rfl (fun H1 g _=>cerAfterN (ds:=ds++([(3,k,0)]:List T_Deed)) elA hd dpA (by simp; omega) (On.R hR) (deeds_slN elA elA (by rw [List.nil_append]; simp [dcells]) (g.blk (j:=4) rfl))) (fun v HA SA mA _ _ hv=>?_)
 obtain ⟨csA,rfl,hA⟩:=hv
 rw [w1] at hA
 obtain ⟨zA1,zA2,zA3,zA4,zA5,yA1,yA2,yA3,yA4,yA5,rfl,lA1,lA2,lA3,lA4,lA5⟩:=hA
 haveI iA:On SM HM SA HA:=inferInstance
 haveI iA2:On S H0 SA HA:=inferInstance
 have dpB:∀d∈ds++([(4,k,0),(3,k,0)]:List T_Deed),DeedP d:=fun d hm=>by
  rcases List.mem_append.1 hm with h | h
  ·exact hdp d h
  ·simp only [List.mem_cons,List.not_mem_nil,or_false] at h
   rcases h with rfl | rfl <;> exact dk _ (by decide) (by decide)
 have elB:0+ds.length+2=(ds++([(4,k,0),(3,k,0)]:List T_Deed)).length:=by simp
 refine KW.callNV1 rfl rfl rfl rfl rfl (fun H1 g _=>cerAfterN (ds:=ds++([(4,k,0),(3,k,0)]:List T_Deed)) elB hd dpB (by simp; omega) (On.R hR) (deeds_slN elB elB (by rw [List.nil_append]; simp [dcells]) (g.blk (j:=6) rfl))) (fun v HB SB mB _ _ hv=>?_)
 obtain ⟨csB,rfl,hB2⟩:=hv
 rw [w2] at hB2
 obtain ⟨zB1,zB2,zB3,zB4,zB5,yB1,yB2,yB3,yB4,yB5,rfl,lB1,lB2,lB3,lB4,lB5⟩:=hB2
 haveI iB:On SM HM SB HB:=inferInstance
 have dpC:∀d∈ds++([(5,k,0)]:List T_Deed),DeedP d:=fun d hm=>by
  rcases List.mem_append.1 hm with h | h
  ·exact hdp d h
  ·simp only [List.mem_cons,List.not_mem_nil,or_false] at h
   rcases h with rfl <;> exact dk _ (by decide) (by decide)
 have elC:0+ds.length+1=(ds++([(5,k,0)]:List T_Deed)).length:=by simp
 refine KW.callNV1 rfl rfl rfl rfl rfl (fun H1 g _=>cerAfterN (ds:=ds++([(5,k,0)]:List T_Deed)) elC hd dpC (by simp; omega) (On.R hR) (deeds_slN elC elC (by rw [List.nil_append]; simp [dcells]) (g.blk (j:=8) rfl))) (fun v HCC SCC mCC _ _ hv=>?_)
 obtain ⟨csC,rfl,hC3⟩:=hv
 rw [w3] at hC3
 obtain ⟨zC1,zC2,zC3,zC4,zC5,yC1,yC2,yC3,yC4,yC5,rfl,lC1,lC2,lC3,lC4,lC5⟩:=hC3
 have okC:CerS (dropW (come x c (c.pk k)) k.toNat):=((ok.come (ok.pk ka kb).2).drop _).small hd
 refine KW.tF rfl rfl (by first | (simp; done) | decide) ?_
 refine KW.tF rfl rfl (by first | (simp; done) | decide) ?_
 refine KW.tF rfl rfl (by first | (simp; done) | decide) ?_
 refine KW.callE rfl rfl rfl rfl rfl (sameCeremony okC ⟨_,_,_,_,_,_,_,_,_,_,rfl,lA1.up,lA2.up,lA3.up,lA4.up,lA5.up⟩ ⟨_,_,_,_,_,_,_,_,_,_,rfl,lB1.up,lB2.up,lB3.up,lB4.up,lB5.up⟩) (fun _ _=>?_)
 refine KW.tF rfl rfl (by first | (simp; done) | decide) ?_
 have ewl:(c.wire.eraseIdx k.toNat).length=c.wire.length - 1:=by rw [List.length_eraseIdx,if_pos (by omega)]
 refine KW.tF rfl rfl (by simp only [pk_drop,ewl]; rw [wr (by omega) (by omega)]; simp; omega) ?_
 refine KW.cF rfl rfl (by simp [dropW]) ?_
 have s2:=k1.up (S':=SC) (H':=HC)
 haveI iC:On SC HC SCC HCC:=inferInstance
 have s3:=k1.up (S':=SCC) (H':=HCC)
 refine KW.lp rfl rfl (fun i:Nat=>[(7,.pointer (some ⟨HC.n,0,some 3⟩)),(20,.pointer (some ⟨HCC.n,0,some 12⟩)),(23,.int .i64 i)]) (fun i=>i≤c.seats.length) (fun i=>c.seats.length - i) (0) (Nat.zero_le _) ⟨rfl,rfl,rfl,trivial⟩ (fun i hi bE n=>?_)
 refine KW.cnd rfl rfl (fun j1=>?_) (fun j1=>?_)
 ·have j1:(i:Int) < (c.seats.length:Int):=j1
  refine KW.adS lC1.up rfl rfl rfl rfl rfl rfl rfl rfl rfl (by omega) (j1) (fun y ys id0 z0 hy hsy hat0=>?_)
  have hy:c.seats[i]?=some y:=hy
  have hsz:=hcs.se y (List.mem_of_getElem? hy)
  obtain ⟨e1,f1,e2,f2,e3,f3,e4,f4,rfl,m1,m2,m3,m4⟩:=split_SeatF hsy
  refine KW.ldFs 0 [.int .i64 y.1.1,.slice e1 y.1.2.1.length f1,.slice e2 y.1.2.2.length f2] hat0 rfl rfl rfl rfl rfl rfl rfl rfl rfl rfl (Nat.succ_pos _) ?_
  refine KW.adS s3 rfl rfl rfl rfl rfl rfl rfl rfl rfl (by omega) (j1) (fun y2 ys2 id1 z1 hy2 hsy2 hat1=>?_)
  have hy2:c.seats[i]?=some y2:=hy2
  obtain rfl:y=y2:=by rw [hy] at hy2; exact Option.some.inj hy2
  obtain ⟨g1,u1,g2,u2,g3,u3,g4,u4,rfl,n1,n2,n3,n4⟩:=split_SeatF hsy2
  refine KW.ldFs 0 [.int .i64 y.1.1,.slice g1 y.1.2.1.length u1,.slice g2 y.1.2.2.length u2] hat1 rfl rfl rfl rfl rfl rfl rfl rfl rfl rfl (Nat.succ_pos _) ?_
  refine KW.callE rfl rfl rfl rfl rfl (samePurse (x:=y.1) hsz.1.1 hsz.1.2 m1.up m2.up n1.up n2.up) (fun _ _=>?_)
  refine KW.cF rfl rfl (by first | (simp; done) | decide) ?_
  refine KW.nxt rfl rfl (fun H' g=>⟨i+1,by omega,by first | omega | (simp only; omega),⟨rfl,rfl,congrArg (Value.int .i64) (inc64 (by omega)),trivial⟩,g⟩)
 refine KW.callE rfl rfl rfl rfl rfl (sameOpener hcs.go hcs.gl hcs.hl hcs.nl lC2.up lC3.up lC4.up k2.up k3.up k4.up) (fun _ _=>?_)
 refine KW.retM1 rfl rfl rfl rfl (fun H1 g=>rfl)
end
end Go.Proofs.Ytlapbbffoapleaa.Am
namespace Go.Proofs.Ytlapbbffoapleaa.Am
open Go
theorem joined_of {P:Program} {f:FuncId} {fn:Func} {s:ChangeSpec} {c:OpenClaim}
  (h0:(c.wf (OpenSpec.ofChange s))=true)
  (h1:(laidOutB P)=true)
  (h2:(mapsRowed P)=true)
  (h3:(fn.params.all (P.readableRec ·))=true)
  (h4:(namedTie P c.named s.vars)=true)
  (h5:((c.stops==[]))=true)
  (h6:((P.stops==[]))=true)
  (h7:((c.knobs==[]))=true)
  (h8:((P.stopKnobs==[]))=true)
  (h9:((c.inPlace==P.inPlace f))=true)
  (h10:((c.unfollowed==P.unfollowed f))=true)
  (h11:((c.recurses==P.recurses f))=true)
  (h12:((c.named==P.varsNamed f))=true)
  (h13:((c.maps==(fn.params.toList++s.plain.varTypes P).any (P.mapsRec ·)))=true)
  (h14:((c.ifaces==(fn.params.toList++s.plain.varTypes P).any (P.ifacesRec ·)))=true)
  (h15:((c.mapsOut==P.mapsAmong fn.resultTypes.toList))=true)
  (h16:((c.loops==(fn.params.toList++s.plain.varTypes P).any (P.loopsFrom ·)))=true)
  (h17:((c.wideKeys==(fn.params.toList++s.plain.varTypes P++fn.resultTypes.toList).any (P.wideKeysFrom ·)))=true)
  (h18:(s.vars.all (P.varReadable ·))=true)
  (h19:(fn.resultTypes.all (fun t=>P.readableRec t&&decide (t < P.types.size)))=true)
  (h20:((c.ifacesOut==fn.resultTypes.toList.any (P.ifacesRec ·)))=true)
  (h21:((c.loopsOut==fn.resultTypes.toList.any (P.loopsFrom ·)))=true)
  (h22:((c.plainKeys==P.plainKeys))=true)
  (h23:(c.shortTexts.isNone)=true)
  (h24:(P.stopsHeard)=true)
  (h25:(P.mayEnter)=true)
  (h26:((c.lifted==P.liftsFinal))=true)
  (h27:((P.make==some c.make))=true)
  (h28:((c.kinds==(if c.domain.isEmpty then [] else fn.params.toList.map fun t=>match P.underlying t with | some (.int k)=>some k | _=>none)))=true)
  (h29:((c.pinned==c.pinnedBy))=true)
  (h30:((c.veiled==(fn.params.toList++s.plain.varTypes P++fn.resultTypes.toList).any (P.veiledRec ·)))=true)
  (h31:(c.veiledFits P fn.params.toList (fn.params.toList++s.plain.varTypes P++fn.resultTypes.toList))=true)
  :joinedFacts P f fn s c=true:=by
 unfold joinedFacts
 simp only [Bool.and_eq_true]
 exact ⟨⟨⟨⟨⟨⟨⟨⟨⟨⟨⟨⟨⟨⟨⟨⟨⟨⟨⟨⟨⟨⟨⟨⟨⟨⟨⟨⟨⟨⟨⟨h0,h1⟩,h2⟩,h3⟩,h4⟩,h5⟩,h6⟩,h7⟩,h8⟩,h9⟩,h10⟩,h11⟩,h12⟩,h13⟩,h14⟩,h15⟩,h16⟩,h17⟩,h18⟩,h19⟩,h20⟩,h21⟩,h22⟩,h23⟩,h24⟩,h25⟩,h26⟩,h27⟩,h28⟩,h29⟩,h30⟩,h31⟩
end Go.Proofs.Ytlapbbffoapleaa.Am
