/- Contracts and laws on abstract memory, merged. Each holds under its own conditions. -/
import Derived.Test.YtlapbbffoapleaaGreatPGather03
set_option linter.unusedVariables false
set_option linter.unusedSimpArgs false
set_option maxRecDepth 20000
set_option maxHeartbeats 4000000
namespace Go.Proofs.YtlapbbffoapleaaGreat.Am
open Go Go.RowKit Go.Proofs Go.Proofs.YtlapbbffoapleaaGreat.Pl
theorem GwE.ge {H:AH} {W S:Ids} {A:AH} {o:Nat} (e:GwE H W S A) (h:¬S o):H.n≤o:=by
 rcases Nat.lt_or_ge o H.n with h1 | h1
 ·by_cases hw:W o
  ·exact absurd (e.wid o hw) h
  ·exact absurd (e.old o h1 hw).1 h
 ·exact h1
theorem Cl.app1 {α:Type} {d:Kn α} {X:Ids} {A:AH} {xs:List α} {cs:List Value} {y:α} {v:Value} (h:Cl d X A xs cs) (he:d.es=1) (hl:cs.length=xs.length) (hy:d.R X A y [v]):Cl d X A (xs++[y]) (cs++[v]):=by
 have h2:=h.snoc hy
 rw[he,Nat.mul_one,List.drop_zero,← hl,List.take_length] at h2
 exact h2
theorem built_Deal0 (h p c:Int) (a1:Option Addr) (n1 c1:Nat) (a2:Option Addr) (n2 c2:Nat):Tryz.prog.built 32 [(0,.agg #[.int .i64 h,.slice a1 n1 c1,.int .i64 p,.int .i64 c,.slice a2 n2 c2])]=some #[.int .i64 h,.slice a1 n1 c1,.int .i64 p,.int .i64 c,.slice a2 n2 c2,.int .i64 0,.slice none 0 0,.slice none 0 0]:=by kernel_rfl
structure DlS where
 m:Nat
 S:Ids
 A:AH
 V:Ids
 bl:List (List Int)
 ks:List (List (List Int))
 bcs:List Value
 kcs:List Value
 l1:Value
 l2:Value
structure DlI (bs:List Int) (ac:Option Addr) (cc id:Nat) (Y:Ids) (B:Nat) (p c:Int) (rn:Nat) (VS:Ids) (A1 H:AH) (s:DlS):Prop where
 le:s.bl.length+s.m≤3
 ge:1≤s.bl.length+s.m
 src:SrcB bs ac cc id Y s.S s.A (B+s.bl.length*200)
 E:GwE H (fun i=>i=id) s.S s.A
 vs:∀j,VS j→s.S j∧s.A.m j=A1.m j
 v:∀j,s.V j→s.S j∧H.n≤j
 clb:Cl KI.sl s.V s.A s.bl s.bcs
 bcl:s.bcs.length=s.bl.length
 clk:Cl KI.sl.sl s.V s.A s.ks s.kcs
 kcl:s.kcs.length=s.ks.length
 kl:s.ks.length=s.bl.length
 ok:∀(e:Nat) b kk,s.bl[e]?=some b→s.ks[e]?=some kk→((b.length:Int)=c-1∧Elems p b)∧KeysOk p rn kk
 form:(s.bl.length=0∧s.l1=.slice none 0 0∧s.l2=.slice none 0 0)∨(0<s.bl.length∧∃o1 o2,s.l1=.slice (some ⟨o1,0,some 1⟩) s.bl.length s.bl.length∧s.l2=.slice (some ⟨o2,0,some 1⟩) s.bl.length s.bl.length∧(s.S o1∧H.n≤o1∧¬s.V o1∧¬VS o1∧s.A.m o1=some ⟨24,true,s.bcs⟩)∧(s.S o2∧H.n≤o2∧¬s.V o2∧¬VS o2∧s.A.m o2=some ⟨25,true,s.kcs⟩)∧o1≠o2)
structure BldS where
 h:Nat
 S:Ids
 A:AH
 xs:List Int
 o:Nat
structure BldI (bs:List Int) (ac:Option Addr) (cc id:Nat) (Y:Ids) (B:Nat) (p c:Int) (S3:Ids) (A3 H:AH) (s:BldS):Prop where
 h1:s.xs.length+1=s.h
 h2:(s.h:Int)≤c
 src:SrcB bs ac cc id Y s.S s.A (B+2*s.xs.length)
 E:GwE H (fun i=>i=id) s.S s.A
 keep:StW (fun i=>i=id) S3 A3 s.S s.A
 xb:Elems p s.xs
structure KyS where
 i:Nat
 S:Ids
 A:AH
 V:Ids
 kk:List (List Int)
 kc:List Value
 o:Nat
structure KyI (bs:List Int) (ac:Option Addr) (cc id:Nat) (Y:Ids) (B:Nat) (p:Int) (rn:Nat) (S3:Ids) (A3 H:AH) (s:KyS):Prop where
 le:s.i≤rn
 kl:s.kk.length=s.i
 kc:s.kc.length=s.i
 src:SrcB bs ac cc id Y s.S s.A (B+6*s.i)
 E:GwE H (fun i=>i=id) s.S s.A
 keep:StW (fun i=>i=id) S3 A3 s.S s.A
 v:∀j,s.V j→s.S j∧H.n≤j∧¬S3 j
 cl:Cl KI.sl s.V s.A s.kk s.kc
 ok:∀y∈s.kk,y.length=2∧Elems p y
section
variable {S:Ids} {H0:AH} {bs:List Int} {ac:Option Addr} {cc id B:Nat} {Y:Ids}
theorem l08Drawn (hsrc:SrcB bs ac cc id Y S H0 B) (hB:B≤400000):
  SpecW Tryz.prog S H0 (fun i=>i=id) 51 [.pointer (some ⟨id,0,none⟩)] (fun m v H1=>(∃(x:T_Deal) (cs:List Value),v=.agg cs.toArray∧DealOk x∧K_Deal.R (New m H1.n) H1 x cs)∧∃at_,at_≤B+4000∧Src ac bs.length cc H1 id at_):=by
 refine SpecW.of0 Tryz.func51 rfl (by kernel_rfl) rfl (fun H hfin hfz=>?_)
 have SB0:SrcB bs ac cc id Y (Low H.n) H B:=hsrc.s (fun i hi=>hfz i hi) (Nat.le_refl _)
 have E0:GwE H (fun i=>i=id) (Low H.n) H:=⟨fun i hi=>by rw[hi];exact SB0.sid,fun i h _=>⟨h,rfl⟩⟩
 have hidL:id<H.n:=SB0.sid
 refine KW.callW (W:=fun i=>i=id) (fun i hi=>by subst hi;exact SB0.sid) U U U U U (l04Drawn SB0 (by omega)) (fun v H1 S1 n1 st1 w1 hv1=>?_)
 obtain⟨⟨cs,rfl,h,p,c,ow,rows,a1,a2,d1,d2,rfl,hk,ho,hs⟩,q1,u1,src1⟩:=hv1
 have SB1:=SB0.w1 (B':=B+3000) st1 ⟨q1,u1,src1⟩
 have E1:=E0.w st1 (fun i hi=>.inl hi)
 have hpr:=hk.mat.pr
 have hp2:=hpr.1
 have hp31:=hpr.2.1
 have hc1:=hk.c1
 have hc12:=hk.mat.c1
 have hrl:=hk.mat.len
 have hol:=hk.len
 refine KW.build U U U U U (built_Deal0 _ _ _ _ _ _ _ _ _) ?_
 refine KW.callW (W:=fun i=>i=id) (fun i hi=>by subst hi;exact SB1.sid) U U U U U (pickB (n:=p) SB1 (by omega) (by omega)) (fun v H2 S2 n2 st2 w2 hv2=>?_)
 obtain⟨z2,hz2,rfl,src2⟩:=hv2
 have hz2:=hz2 (by omega)
 have SB2:=SB1.w1 st2 src2
 have E2:=E1.w st2 (fun i hi=>.inl hi)
 refine KW.callW (W:=fun i=>i=id) (fun i hi=>by subst hi;exact SB2.sid) U U U U U (pickB (n:=3) SB2 (by omega) (by omega)) (fun v H4 S4 n4 st4 w4 hv4=>?_)
 obtain⟨z4,hz4,rfl,src4⟩:=hv4
 have hz4:=hz4 (by omega)
 have SB4:=SB2.w1 st4 src4
 have E4:=E2.w st4 (fun i hi=>.inl hi)
 have e4:IntKind.i64.wrap (1+(z4:Int))=((1+z4:Nat):Int):=by rw[wr (by omega) (by omega)];omega
 have vs4:∀j,New (H.n+1) H1.n j→S4 j∧H4.m j=H1.m j:=fun j hj=>by
  have hne:j≠id:=by have:=hj.1;omega
  have h1:=st2 j (w1 j hj)
  have h2:=st4 j h1.1
  exact⟨h2.1,(h2.2 hne).trans (h1.2 hne)⟩
 refine KW.lpM U U (fun s:DlS=>[(0,.pointer (some ⟨id,0,none⟩)),(2,.pointer (some ⟨H.n,0,some 0⟩)),(3,.pointer (some ⟨H1.n,0,some 1⟩)),(4,.int .i64 p),(5,.int .i64 s.m)]) (fun s=>s.S) (fun s=>s.A) (fun s=>[(H.n,⟨32,true,[.int .i64 0,.slice none 0 0,.int .i64 0,.int .i64 0,.slice none 0 0,.int .i64 0,.slice none 0 0,.slice none 0 0]⟩),(H1.n,⟨32,true,[.int .i64 h,.slice a1 ow.length d1,.int .i64 p,.int .i64 c,.slice a2 rows.length d2,.int .i64 z2,s.l1,s.l2]⟩)]) (fun s=>DlI bs ac cc id Y (B+3004) p c rows.length (New (H.n+1) H1.n) H1 H s) (fun s=>s.m) (⟨1+z4,S4,H4,fun _=>False,[],[],[],[],.slice none 0 0,.slice none 0 0⟩) (⟨by simp only[List.length_nil];omega,by simp only[List.length_nil];omega,SB4.s (fun i hi=>⟨hi,rfl⟩) (by simp only[List.length_nil];omega),E4,vs4,fun _ h=>h.elim,Cl.nil _ _ _ _,rfl,Cl.nil _ _ _ _,rfl,rfl,fun e b kk h=>(by simp at h),.inl ⟨rfl,rfl,rfl⟩⟩) ⟨rfl,rfl,rfl,rfl,congrArg (Value.int .i64) e4,trivial⟩ U U (rfl) (fun s hi bE n=>?_)
 obtain⟨m,S3,A3,V,bl,ks,bcs,kcs,l1,l2⟩:=s
 obtain⟨ile,ige,SB3,E3,vs3,v3,clb,bcl,clk,kcl,kl,ok3,hform⟩:=hi
 simp only at ile ige SB3 E3 vs3 v3 clb bcl clk kcl kl ok3 hform
 refine KW.cnd U U (fun k1=>?_) (fun k1=>?_)
 ·have k1:(m:Int)>0:=k1
  refine KW.lit U U U U U U U U U U [] U U (fun v hv=>by simp at hv) rfl ?_
  refine KW.lpM U U (fun s:BldS=>[(0,.pointer (some ⟨id,0,none⟩)),(2,.pointer (some ⟨H.n,0,some 0⟩)),(3,.pointer (some ⟨H1.n,0,some 1⟩)),(4,.int .i64 p),(5,.int .i64 m),(6,.slice (some ⟨s.o,0,some 1⟩) s.xs.length s.xs.length),(7,.int .i64 s.h)]) (fun s=>s.S) (fun s=>s.A) (fun s=>[(H.n,⟨32,true,[.int .i64 0,.slice none 0 0,.int .i64 0,.int .i64 0,.slice none 0 0,.int .i64 0,.slice none 0 0,.slice none 0 0]⟩),(H1.n,⟨32,true,[.int .i64 h,.slice a1 ow.length d1,.int .i64 p,.int .i64 c,.slice a2 rows.length d2,.int .i64 z2,l1,l2]⟩),(s.o,⟨2,true,s.xs.map (Value.int .i64)⟩)]) (fun s=>BldI bs ac cc id Y (B+3004+bl.length*200) p c S3 A3 H s) (fun s=>c.toNat-s.h) (⟨1,S3,A3,[],_⟩) (⟨rfl,by simp only;omega,SB3.s (fun i hi=>⟨hi,rfl⟩) (by simp only[List.length_nil];omega),E3,fun j hj=>⟨hj,fun _=>rfl⟩,fun x hx=>(by cases hx)⟩) ⟨rfl,rfl,rfl,rfl,rfl,rfl,rfl,trivial⟩ U U (rfl) (fun s hi bE n=>?_)
  obtain⟨hh,S5,A5,xs,o5⟩:=s
  obtain⟨x1,x2,SB5,E5,keep5,xb⟩:=hi
  simp only at x1 x2 SB5 E5 keep5 xb
  refine KW.cnd U U (fun k2=>?_) (fun k2=>?_)
  ·have k2:(hh:Int)<c:=k2
   refine KW.callW (W:=fun i=>i=id) (fun i hi=>by subst hi;exact SB5.sid) U U U U U (pickB (n:=p) SB5 (by omega) (by omega)) (fun v H6 S6 n6 st6 w6 hv6=>?_)
   obtain⟨z6,hz6,rfl,src6⟩:=hv6
   have hz6:=hz6 (by omega)
   have SB6:=SB5.w1 st6 src6
   have E6:=E5.w st6 (fun i hi=>.inl hi)
   have keep6:StW (fun i=>i=id) S3 A3 S6 H6:=fun j hj=>⟨(st6 j (keep5 j hj).1).1,fun hne=>((st6 j (keep5 j hj).1).2 hne).trans ((keep5 j hj).2 hne)⟩
   have xb6:Elems p (xs++[(z6:Int)]):=fun x hx=>(List.mem_append.1 hx).elim (xb x) (fun hx=>by rw[List.mem_singleton.1 hx];omega)
   refine KW.app1 (xs:=xs.map (Value.int .i64)) (v:=.int .i64 z6) 2 3 U U U U U U U U U U U U U U U U U U U U U U U (by simp) (by show(xs.length+1)*8≤_;omega) (by show xs.length+1≤_;omega) ?_
   exact KW.nxt U U (fun H' g=>⟨⟨hh+1,S6,H6,xs++[(z6:Int)],_⟩,⟨by simp only[List.length_append,List.length_singleton];omega,by simp only;omega,SB6.s (fun i hi=>⟨hi,rfl⟩) (by simp only[List.length_append,List.length_singleton];omega),E6,keep6,xb6⟩,by simp only;omega,⟨rfl,rfl,rfl,rfl,rfl,by simp only[List.length_append,List.length_singleton];rfl,congrArg (Value.int .i64) (inc64 (by omega)),trivial⟩,g.eqT (by simp only[List.map_append];rfl)⟩)
  ·have k2:¬(hh:Int)<c:=k2
   have hxl:(xs.length:Int)=c-1:=by omega
   refine KW.lit U U U U U U U U U U [] U U (fun v hv=>by simp at hv) rfl ?_
   refine KW.lpM U U (fun s:KyS=>[(0,.pointer (some ⟨id,0,none⟩)),(2,.pointer (some ⟨H.n,0,some 0⟩)),(3,.pointer (some ⟨H1.n,0,some 1⟩)),(4,.int .i64 p),(5,.int .i64 m),(6,.slice (some ⟨o5,0,some 1⟩) xs.length xs.length),(8,.slice (some ⟨s.o,0,some 1⟩) s.i s.i),(9,.int .i64 s.i)]) (fun s=>s.S) (fun s=>s.A) (fun s=>[(H.n,⟨32,true,[.int .i64 0,.slice none 0 0,.int .i64 0,.int .i64 0,.slice none 0 0,.int .i64 0,.slice none 0 0,.slice none 0 0]⟩),(H1.n,⟨32,true,[.int .i64 h,.slice a1 ow.length d1,.int .i64 p,.int .i64 c,.slice a2 rows.length d2,.int .i64 z2,l1,l2]⟩),(o5,⟨2,true,xs.map (Value.int .i64)⟩),(s.o,⟨24,true,s.kc⟩)]) (fun s=>KyI bs ac cc id Y (B+3004+bl.length*200+2*xs.length) p rows.length S3 A3 H s) (fun s=>rows.length-s.i) (⟨0,S5,A5,fun _=>False,[],[],_⟩) (⟨Nat.zero_le _,rfl,rfl,SB5.s (fun i hi=>⟨hi,rfl⟩) (by simp only;omega),E5,keep5,fun _ h=>h.elim,Cl.nil _ _ _ _,fun y hy=>(by cases hy)⟩) ⟨rfl,rfl,rfl,rfl,rfl,rfl,rfl,rfl,trivial⟩ U U (rfl) (fun s hi bE n=>?_)
   obtain⟨i,S6,A6,V6,kk,kc,o6⟩:=s
   obtain⟨y1,y2,y3,SB6,E6,keep6,v6,cl6,ok6⟩:=hi
   simp only at y1 y2 y3 SB6 E6 keep6 v6 cl6 ok6
   refine KW.cnd U U (fun k3=>?_) (fun k3=>?_)
   ·have k3:(i:Int)<(ow.length:Int):=k3
    refine KW.callW (W:=fun i=>i=id) (fun i hi=>by subst hi;exact SB6.sid) U U U U U (pickB (n:=IntKind.i64.wrap (p-1)) SB6 (by omega) (by rw[wr (by omega) (by omega)];omega)) (fun v H7 S7 n7 st7 w7 hv7=>?_)
    obtain⟨z7,hz7,rfl,src7⟩:=hv7
    have ep:IntKind.i64.wrap (p-1)=p-1:=wr (by omega) (by omega)
    rw[ep] at hz7
    have hz7:=hz7 (by omega)
    have SB7:=SB6.w1 st7 src7
    have E7:=E6.w st7 (fun i hi=>.inl hi)
    have e7:IntKind.i64.wrap (1+(z7:Int))=1+(z7:Int):=wr (by omega) (by omega)
    refine KW.callW (W:=fun i=>i=id) (fun i hi=>by subst hi;exact SB7.sid) U U U U U (oneB (n:=12) SB7 (by omega) (by omega)) (fun v H8 S8 n8 st8 w8 hv8=>?_)
    obtain⟨b8,rfl,src8⟩:=hv8
    have SB8:=SB7.w1 st8 src8
    have E8:=E7.w st8 (fun i hi=>.inl hi)
    refine KW.cndB U U (fun k4=>?ty) (fun k4=>?tn)
    case' ty=>have hav:0≤(0:Int)∧(0:Int)≤p-1:=by omega
    case' tn=>have hav:0≤IntKind.i64.wrap (1+(z7:Int))∧IntKind.i64.wrap (1+(z7:Int))≤p-1:=by omega
    all_goals
     refine KW.callW (W:=fun i=>i=id) (fun i hi=>by subst hi;exact SB8.sid) U U U U U (pickB (n:=p) SB8 (by omega) (by omega)) (fun v H9 S9 n9 st9 w9 hv9=>?_)
     obtain⟨z9,hz9,rfl,src9⟩:=hv9
     have hz9:=hz9 (by omega)
     have SB9:=SB8.w1 st9 src9
     have E9:=E8.w st9 (fun i hi=>.inl hi)
     have k79:StW (fun i=>i=id) S6 A6 S9 H9:=fun j hj=>by
      have h1:=st7 j hj
      have h2:=st8 j h1.1
      have h3:=st9 j h2.1
      exact⟨h3.1,fun hne=>(h3.2 hne).trans ((h2.2 hne).trans (h1.2 hne))⟩
     refine KW.lit U U U U U U U U U U [.int .i64 _,.int .i64 z9] U U (fun v hv=>by simp only[List.mem_cons,List.not_mem_nil,or_false] at hv;rcases hv with rfl | rfl<;>rfl) rfl ?_
     refine KW.freeze 4 rfl (fun AA SA hnA hSA stA hmA hoA hnoA hlowA=>?_)
     have SBA:=SB9.s (B':=B+3004+bl.length*200+2*xs.length+6*(i+1)) stA.st (by omega)
     have EA:=E9.s stA.st
     obtain⟨yv,hyv,hyl,hye⟩:∃yv:List Int,KI.Sl (fun j=>j=_) AA (.slice (some ⟨_,0,some 1⟩) 2 2) yv∧yv.length=2∧Elems p yv:=⟨_,(row_ml (xs:=[_,(z9:Int)]) hmA).sl,rfl,fun x hx=>by
      simp only[List.mem_cons,List.not_mem_nil,or_false] at hx
      rcases hx with rfl | rfl
      ·exact hav
      ·omega⟩
     have kA:StW (fun i=>i=id) S6 A6 SA AA:=fun j hj=>⟨(stA.st j (k79 j hj).1).1,fun hne=>((stA.st j (k79 j hj).1).2).trans ((k79 j hj).2 hne)⟩
     have keepA:StW (fun i=>i=id) S3 A3 SA AA:=fun j hj=>⟨(kA j (keep6 j hj).1).1,fun hne=>((kA j (keep6 j hj).1).2 hne).trans ((keep6 j hj).2 hne)⟩
     have clA:=(cl6.mv (X':=fun j=>V6 j∨j=_) (A':=AA) (fun j hj=>(kA j (v6 j hj).1).2 (fun e=>by have:=(v6 j hj).2.1;omega)) (fun j hj=>.inl hj)).app1 rfl (by omega) (sl1' (hyv.more (fun j hj=>.inr hj)))
     have vA:∀j,(V6 j∨j=_)→SA j∧H.n≤j∧¬S3 j:=fun j hj=>by
      rcases hj with hj | hj
      ·exact⟨(kA j (v6 j hj).1).1,(v6 j hj).2⟩
      ·rw[hj]
       exact⟨(hSA _).2 (.inr rfl),E9.ge hnoA,fun h3=>hnoA ((k79 _ (keep6 _ h3).1).1)⟩
     have okA:∀y∈kk++[yv],y.length=2∧Elems p y:=fun y hy=>(List.mem_append.1 hy).elim (ok6 y) (fun hy=>by rw[List.mem_singleton.1 hy];exact⟨hyl,hye⟩)
     refine KW.app1 (xs:=kc) (v:=.slice (some ⟨_,0,some 1⟩) 2 2) 3 4 U U U U U U U U U U U U U U U U U U U U U U U (by omega) (by show(i+1)*24≤_;omega) (by show i+1≤_;omega) ?_
     exact KW.nxt U U (fun H' g=>⟨⟨i+1,SA,AA,_,kk++[yv],_,_⟩,⟨by simp only;omega,by simp only[List.length_append,List.length_singleton];omega,by simp only[List.length_append,List.length_singleton];omega,SBA,EA,keepA,vA,clA,okA⟩,by simp only;omega,⟨rfl,rfl,rfl,rfl,rfl,rfl,rfl,congrArg (Value.int .i64) (inc64 (by omega)),trivial⟩,g⟩)
   ·have k3:¬(i:Int)<(ow.length:Int):=k3
    have ei:i=rows.length:=by omega
    refine KW.freeze 3 rfl (fun A7 S7 hn7 hS7 st7 hm7 ho7 hno7 hlow7=>?_)
    refine KW.freeze 2 rfl (fun A8 S8 hn8 hS8 st8 hm8 ho8 hno8 hlow8=>?_)
    have st68:St S6 A6 S8 A8:=fun j hj=>⟨(st8.st j (st7.st j hj).1).1,((st8.st j (st7.st j hj).1).2).trans (st7.st j hj).2⟩
    have E8:=E6.s st68
    have SB8:=SB6.s (B':=B+3004+(bl.length+1)*200) st68 (by omega)
    have keep8:StW (fun i=>i=id) S3 A3 S8 A8:=fun j hj=>⟨(st68 j (keep6 j hj).1).1,fun hne=>((st68 j (keep6 j hj).1).2).trans ((keep6 j hj).2 hne)⟩
    have h67:=st8.st o6 ((hS7 _).2 (.inr rfl))
    have ho6:¬S3 o6:=fun h=>hno7 (keep6 o6 h).1
    have ho5:¬S3 o5:=fun h=>hno8 ((st7.st o5 (keep6 o5 h).1).1)
    have hg6:H.n≤o6:=E6.ge hno7
    have hg5:H.n≤o5:=(E6.s st7.st).ge hno8
    obtain⟨V8,eV8⟩:∃V8:Ids,V8=fun j=>V j∨V6 j∨j=o5∨j=o6:=⟨_,rfl⟩
    have v8:∀j,V8 j→S8 j∧H.n≤j:=fun j hj=>by
     rw[eV8] at hj
     rcases hj with hj | hj | hj | hj
     ·exact⟨(keep8 j (v3 j hj).1).1,(v3 j hj).2⟩
     ·exact⟨(st68 j (v6 j hj).1).1,(v6 j hj).2.1⟩
     ·rw[hj];exact⟨(hS8 _).2 (.inr rfl),hg5⟩
     ·rw[hj];exact⟨h67.1,hg6⟩
    have rb:KI.sl.R V8 A8 xs [.slice (some ⟨o5,0,some 1⟩) xs.length xs.length]:=sl1' ((row_ml hm8).sl.more (fun j hj=>by rw[eV8];exact .inr (.inr (.inl hj))))
    have rk:KI.sl.sl.R V8 A8 kk [.slice (some ⟨o6,0,some 1⟩) i i]:=by
     have h:=Cl.sl (cl6.mv (X':=V6) (A':=A8) (fun j hj=>(st68 j (v6 j hj).1).2) (fun j hj=>hj)) (S:=V8) (id:=o6) (c:=kk.length) (by rw[eV8];exact .inr (.inr (.inr rfl))) (h67.2.trans hm7) rfl (fun j hj=>by rw[eV8];exact .inr (.inl hj)) (Nat.le_refl _)
     rw[y2] at h
     exact sl1' h
    have hne:∀j,V j→j≠id:=fun j hj e=>by have:=(v3 j hj).2;omega
    have clb8:=(clb.mv (X':=V8) (A':=A8) (fun j hj=>(keep8 j (v3 j hj).1).2 (hne j hj)) (fun j hj=>by rw[eV8];exact .inl hj)).app1 rfl bcl rb
    have clk8:=(clk.mv (X':=V8) (A':=A8) (fun j hj=>(keep8 j (v3 j hj).1).2 (hne j hj)) (fun j hj=>by rw[eV8];exact .inl hj)).app1 rfl kcl rk
    have vs8:∀j,New (H.n+1) H1.n j→S8 j∧A8.m j=H1.m j:=fun j hj=>⟨(keep8 j (vs3 j hj).1).1,((keep8 j (vs3 j hj).1).2 (by have:=hj.1;omega)).trans (vs3 j hj).2⟩
    have ok8:∀(e:Nat) b k9,(bl++[xs])[e]?=some b→(ks++[kk])[e]?=some k9→((b.length:Int)=c-1∧Elems p b)∧KeysOk p rows.length k9:=fun e b k9 h1 h2=>by
     rcases Nat.lt_or_ge e bl.length with hlt | hge
     ·rw[List.getElem?_append_left hlt] at h1
      rw[List.getElem?_append_left (by omega)] at h2
      exact ok3 e b k9 h1 h2
     ·have hlt:=(List.getElem?_eq_some_iff.1 h1).1
      simp only[List.length_append,List.length_singleton] at hlt
      obtain rfl:e=bl.length:=by omega
      rw[List.getElem?_append_right (Nat.le_refl _),Nat.sub_self] at h1
      rw[List.getElem?_append_right (by omega),kl,Nat.sub_self] at h2
      cases h1
      cases h2
      exact⟨⟨hxl,xb⟩,by omega,ok6⟩
    have em:IntKind.i64.wrap ((m:Int)-1)=((m-1:Nat):Int):=by rw[wr (by omega) (by omega)];omega
    have fin:∀(S9:Ids) (A9:AH) (o1 o2:Nat),(∀j,(V8 j∨New (H.n+1) H1.n j∨j=id∨Y j∨(j<H.n∧j≠id))→S9 j∧A9.m j=A8.m j)→(S9 o1∧H.n≤o1∧¬V8 o1∧¬New (H.n+1) H1.n o1∧A9.m o1=some ⟨24,true,bcs++[.slice (some ⟨o5,0,some 1⟩) xs.length xs.length]⟩)→(S9 o2∧H.n≤o2∧¬V8 o2∧¬New (H.n+1) H1.n o2∧A9.m o2=some ⟨25,true,kcs++[.slice (some ⟨o6,0,some 1⟩) i i]⟩)→o1≠o2→
      DlI bs ac cc id Y (B+3004) p c rows.length (New (H.n+1) H1.n) H1 H ⟨m-1,S9,A9,V8,bl++[xs],ks++[kk],bcs++[.slice (some ⟨o5,0,some 1⟩) xs.length xs.length],kcs++[.slice (some ⟨o6,0,some 1⟩) i i],.slice (some ⟨o1,0,some 1⟩) (bl.length+1) (bl.length+1),.slice (some ⟨o2,0,some 1⟩) (bl.length+1) (bl.length+1)⟩:=fun S9 A9 o1 o2 h1 h2 h3 h4=>by
     have hl1:(bl++[xs]).length=bl.length+1:=by simp
     obtain⟨q8,w8,src8⟩:=SB8.src
     refine⟨by simp only[hl1];omega,by simp only[hl1];omega,⟨SB8.hb,SB8.hl,(h1 id (.inr (.inr (.inl rfl)))).1,fun j hj=>⟨(h1 j (.inr (.inr (.inr (.inl hj))))).1,(SB8.y j hj).2⟩,⟨q8,by simp only[hl1];omega,src8.mv (h1 id (.inr (.inr (.inl rfl)))).2⟩,SB8.kb.stX (fun j hj=>⟨hj,(h1 j (.inr (.inr (.inr (.inl hj))))).2⟩)⟩,⟨fun j hj=>(h1 j (.inr (.inr (.inl hj)))).1,fun j hj hne=>⟨(h1 j (.inr (.inr (.inr (.inr ⟨hj,hne⟩))))).1,(h1 j (.inr (.inr (.inr (.inr ⟨hj,hne⟩))))).2.trans (E8.old j hj hne).2⟩⟩,fun j hj=>⟨(h1 j (.inr (.inl hj))).1,(h1 j (.inr (.inl hj))).2.trans (vs8 j hj).2⟩,fun j hj=>⟨(h1 j (.inl hj)).1,(v8 j hj).2⟩,clb8.mv (fun j hj=>(h1 j (.inl hj)).2) (fun j hj=>hj),by simp[bcl],clk8.mv (fun j hj=>(h1 j (.inl hj)).2) (fun j hj=>hj),by simp[kcl],by simp[kl],ok8,.inr ⟨by simp,o1,o2,by simp only[hl1],by simp only[hl1],h2,h3,h4⟩⟩
    rcases hform with⟨hb0,el1,el2⟩ | ⟨hb0,o1,o2,el1,el2,⟨f1,f2,f3,f4,f5⟩,⟨f6,f7,f8,f9,f10⟩,f11⟩
    ·subst el1 el2
     obtain rfl:bl=[]:=List.eq_nil_of_length_eq_zero hb0
     obtain rfl:ks=[]:=List.eq_nil_of_length_eq_zero (by rw[kl];rfl)
     obtain rfl:bcs=[]:=List.eq_nil_of_length_eq_zero bcl
     obtain rfl:kcs=[]:=List.eq_nil_of_length_eq_zero kcl
     refine KW.app0 (v:=.slice (some ⟨o5,0,some 1⟩) xs.length xs.length) 2 U U U U U U U U U U U U U U U U U U U U U U (by decide) ?_
     refine KW.app0 (v:=.slice (some ⟨o6,0,some 1⟩) i i) 3 U U U U U U U U U U U U U U U U U U U U U U (by decide) ?_
     refine KW.freeze 3 rfl (fun A9 S9 hn9 hS9 st9 hm9 ho9 hno9 hlow9=>?_)
     refine KW.freeze 2 rfl (fun AX SX hnX hSX stX hmX hoX hnoX hlowX=>?_)
     have s8X:St S8 A8 SX AX:=fun j hj=>⟨(stX.st j (st9.st j hj).1).1,((stX.st j (st9.st j hj).1).2).trans (st9.st j hj).2⟩
     have h9X:=stX.st _ ((hS9 _).2 (.inr rfl))
     have hno8X:∀j,S8 j→(¬SX j→False):=fun j hj h=>h (s8X j hj).1
     refine KW.nxt U U (fun H' g=>⟨⟨m-1,SX,AX,V8,[xs],[kk],_,_,_,_⟩,fin SX AX _ _ (fun j hj=>s8X j ?_) ⟨(hSX _).2 (.inr rfl),?_,?_,?_,hmX⟩ ⟨h9X.1,?_,?_,?_,h9X.2.trans hm9⟩ ?_,by simp only;omega,⟨rfl,rfl,rfl,rfl,congrArg (Value.int .i64) em,trivial⟩,g⟩)
     ·rcases hj with hj | hj | hj | hj | hj
      ·exact(v8 j hj).1
      ·exact(vs8 j hj).1
      ·rw[hj];exact SB8.sid
      ·exact(SB8.y j hj).1
      ·exact(E8.old j hj.1 hj.2).1
     ·exact E8.ge (fun h=>hnoX (st9.st _ h).1)
     ·exact fun h=>hnoX (st9.st _ (v8 _ h).1).1
     ·exact fun h=>hnoX (st9.st _ (vs8 _ h).1).1
     ·exact E8.ge hno9
     ·exact fun h=>hno9 (v8 _ h).1
     ·exact fun h=>hno9 (vs8 _ h).1
     ·exact fun e=>hnoX (by rw[e];exact(hS9 _).2 (.inr rfl))
    ·subst el1 el2
     have q1:=keep8 o1 f1
     have q2:=keep8 o2 f6
     have q1m:=(q1.2 (by omega)).trans f5
     have q2m:=(q2.2 (by omega)).trans f10
     have n15:o1≠o5:=fun e=>ho5 (e ▸ f1)
     have n16:o1≠o6:=fun e=>ho6 (e ▸ f1)
     have n25:o2≠o5:=fun e=>ho5 (e ▸ f6)
     have n26:o2≠o6:=fun e=>ho6 (e ▸ f6)
     refine KW.thaw o1 _ q1.1 q1m ?_
     refine KW.thaw o2 _ ⟨q2.1,fun e=>f11 e.symm⟩ q2m ?_
     have vn:∀j,V8 j→j≠o1∧j≠o2:=fun j hj=>by
      rw[eV8] at hj
      rcases hj with hj | hj | hj | hj
      ·exact⟨fun e=>f3 (e ▸ hj),fun e=>f8 (e ▸ hj)⟩
      ·exact⟨fun e=>(v6 j hj).2.2 (e ▸ f1),fun e=>(v6 j hj).2.2 (e ▸ f6)⟩
      ·rw[hj];exact⟨fun e=>n15 e.symm,fun e=>n25 e.symm⟩
      ·rw[hj];exact⟨fun e=>n16 e.symm,fun e=>n26 e.symm⟩
     have yn:∀j,Y j→j≠o1∧j≠o2:=fun j hj=>by
      have:j<H.n:=(SB0.y j hj).1
      exact⟨by omega,by omega⟩
     refine KW.app1 (xs:=bcs) (v:=.slice (some ⟨o5,0,some 1⟩) xs.length xs.length) 2 4 U U U U U U U U U U U U U U U U U U U U U U U bcl (by show(bl.length+1)*24≤_;omega) (by show bl.length+1≤_;omega) ?_
     refine KW.app1 (xs:=kcs) (v:=.slice (some ⟨o6,0,some 1⟩) i i) 3 4 U U U U U U U U U U U U U U U U U U U U U U U (by omega) (by show(bl.length+1)*24≤_;omega) (by show bl.length+1≤_;omega) ?_
     refine KW.freeze 3 rfl (fun A9 S9 hn9 hS9 st9 hm9 ho9 hno9 hlow9=>?_)
     refine KW.freeze 2 rfl (fun AX SX hnX hSX stX hmX hoX hnoX hlowX=>?_)
     have s8X:∀j,S8 j∧j≠o1∧j≠o2→SX j∧AX.m j=A8.m j:=fun j hj=>by
      have h9:=st9.st j ⟨⟨hj.1,hj.2.1⟩,hj.2.2⟩
      exact⟨(stX.st j h9.1).1,((stX.st j h9.1).2).trans h9.2⟩
     have h9X:=stX.st _ ((hS9 _).2 (.inr rfl))
     have hin9:∀j,S8 j∧j≠o1∧j≠o2→S9 j:=fun j hj=>(st9.st j ⟨⟨hj.1,hj.2.1⟩,hj.2.2⟩).1
     have hlowS:∀j,(V8 j∨New (H.n+1) H1.n j∨j=id∨Y j∨(j<H.n∧j≠id))→S8 j∧j≠o1∧j≠o2:=fun j hj=>by
      rcases hj with hj | hj | hj | hj | hj
      ·exact⟨(v8 j hj).1,vn j hj⟩
      ·exact⟨(vs8 j hj).1,fun e=>f4 (e ▸ hj),fun e=>f9 (e ▸ hj)⟩
      ·rw[hj];exact⟨SB8.sid,by omega,by omega⟩
      ·exact⟨(SB8.y j hj).1,yn j hj⟩
      ·exact⟨(E8.old j hj.1 hj.2).1,by omega,by omega⟩
     have EN:∀{o:Nat} {SS:Ids},¬SS o→(∀j,S8 j∧j≠o1∧j≠o2→SS j)→H.n≤o:=fun {o SS} hno hs=>by
      rcases Nat.lt_or_ge o H.n with h | h
      ·refine absurd (hs o ?_) hno
       by_cases e:o=id
       ·rw[e];exact hlowS id (.inr (.inr (.inl rfl)))
       ·exact hlowS o (.inr (.inr (.inr (.inr ⟨h,e⟩))))
      ·exact h
     refine KW.nxt U U (fun H' g=>⟨⟨m-1,SX,AX,V8,bl++[xs],ks++[kk],_,_,_,_⟩,fin SX AX _ _ (fun j hj=>s8X j (hlowS j hj)) ⟨(hSX _).2 (.inr rfl),?_,?_,?_,hmX⟩ ⟨h9X.1,?_,?_,?_,h9X.2.trans hm9⟩ ?_,by simp only;omega,⟨rfl,rfl,rfl,rfl,congrArg (Value.int .i64) em,trivial⟩,g⟩)
     ·exact EN hnoX hin9
     ·exact fun h=>hnoX (hin9 _ (hlowS _ (.inl h)))
     ·exact fun h=>hnoX (hin9 _ (hlowS _ (.inr (.inl h))))
     ·exact EN (SS:=fun j=>(S8 j∧j≠o1)∧j≠o2) hno9 (fun j hj=>⟨⟨hj.1,hj.2.1⟩,hj.2.2⟩)
     ·exact fun h=>hno9 (by have:=hlowS _ (.inl h);exact⟨⟨this.1,this.2.1⟩,this.2.2⟩)
     ·exact fun h=>hno9 (by have:=hlowS _ (.inr (.inl h));exact⟨⟨this.1,this.2.1⟩,this.2.2⟩)
     ·exact fun e=>hnoX (by rw[e];exact(hS9 _).2 (.inr rfl))
 ·have k1:¬(m:Int)>0:=k1
  rcases hform with⟨hb0,_⟩ | ⟨hb0,o1,o2,el1,el2,⟨f1,f2,f3,f4,f5⟩,⟨f6,f7,f8,f9,f10⟩,f11⟩
  ·omega
  ·subst el1 el2
   refine KW.retW U U U U (fun H9 g=>by have:=(g.vars 0 _ rfl).2.1;have:=g.n_;omega) (fun i h1 h2=>E3.old i h1 h2) (fun H9 gg=>?_)
   have hn9:=gg.n_
   obtain⟨q3,u3,src3⟩:=SB3.src
   have hX:∀j,S3 j∧H.n≤j→New H.n H9.n j∧H9.m j=A3.m j:=fun j hj=>⟨⟨hj.2,by have:=(gg.froz j hj.1).1;omega⟩,(gg.froz j hj.1).2⟩
   have hmv:∀j,New (H.n+1) H1.n j→New H.n H9.n j∧H9.m j=H1.m j:=fun j hj=>by
    have h1:=hX j ⟨(vs3 j hj).1,by have:=hj.1;omega⟩
    exact⟨h1.1,h1.2.trans (vs3 j hj).2⟩
   have g1:=hX o1 ⟨f1,f2⟩
   have g2:=hX o2 ⟨f6,f7⟩
   have hb:=Cl.sl (clb.mv (X':=New H.n H9.n) (A':=H9) (fun j hj=>(hX j (v3 j hj)).2) (fun j hj=>(hX j (v3 j hj)).1)) (S:=New H.n H9.n) (id:=o1) (c:=bl.length) g1.1 (g1.2.trans f5) rfl (fun j hj=>hj) (Nat.le_refl _)
   have hkk:=Cl.sl (clk.mv (X':=New H.n H9.n) (A':=H9) (fun j hj=>(hX j (v3 j hj)).2) (fun j hj=>(hX j (v3 j hj)).1)) (S:=New H.n H9.n) (id:=o2) (c:=ks.length) g2.1 (g2.2.trans f10) rfl (fun j hj=>hj) (Nat.le_refl _)
   have hR:K_Deal.R (New H.n H9.n) H9 ((h,ow,p,c,rows),(z2:Int),bl,ks) _:=prR (a:=K_Scheme) (prR (a:=KI) (cs:=[.int .i64 h]) rfl (prR (sl1' (ho.stX hmv)) (prR (a:=KI) (cs:=[.int .i64 p]) rfl (prR (a:=KI) (cs:=[.int .i64 c]) rfl (sl1' (hs.stX hmv)))))) (prR (a:=KI) (cs:=[.int .i64 z2]) rfl (prR (sl1' hb) (sl1' hkk)))
   refine⟨⟨((h,ow,p,c,rows),(z2:Int),bl,ks),_,?_,⟨hk,⟨by show 0≤(z2:Int);omega,by show(z2:Int)≤p-1;omega⟩,⟨by show 1≤bl.length;omega,by show bl.length≤4;omega⟩,kl,ok3⟩,hR⟩,q3,by omega,src3.mv (gg.froz id SB3.sid).2⟩
   rw[kl]
   rfl
theorem a2Deal (hb:∀x∈bs,0≤x∧x<256) (hl:bs.length≤1048576) (hs:KB.Sl S H0 (.slice ac bs.length cc) bs):
  SpecM Tryz.prog S H0 8 [.slice ac bs.length cc] (fun m v H1=>∃(x:T_Deal) (cs:List Value),v=.agg cs.toArray∧DealOk x∧K_Deal.R (New m H1.n) H1 x cs):=by
 refine SpecM.of1 Tryz.func8 rfl (by kernel_rfl) rfl (fun H _=>?_)
 refine KW.callN1 U U U U U (srcFrom) (fun v HS SS mS _ _ hv=>?_)
 obtain⟨o,sp,rfl,hnew,hsrc⟩:=hv
 have wS:On (New _ HS.n) HS SS HS:=‹_›
 have tS:On (Low H.n) H SS HS:=inferInstance
 have hso:=(wS.st o hnew).1
 have hbs:=(hs.up (S':=Low H.n) (H':=H)).stX (S':=fun i=>SS i∧i≠o) (H':=HS) (fun i hi=>⟨⟨(tS.st i hi).1,fun e=>by have h1:i<H.n:=hi;have:=hnew.1;omega⟩,(tS.st i hi).2⟩)
 have SB:SrcB bs ac cc o (fun i=>SS i∧i≠o) SS HS 0:=⟨hb,hl,hso,fun i hi=>hi,⟨0,Nat.le_refl _,hsrc⟩,hbs⟩
 refine KW.callW (W:=fun i=>i=o) (fun i hi=>by subst hi;exact hso) U U U U U (l08Drawn SB (by omega)) (fun v H4 S4 hn4 st4 hw4 hp=>?_)
 obtain⟨⟨x,cs,rfl,hok,hR⟩,_⟩:=hp
 haveI:On (Low H.n) H S4 H4:=⟨fun i hi=>⟨(st4 i (tS.st i hi).1).1,((st4 i (tS.st i hi).1).2 (fun e=>by have h1:i<H.n:=hi;have h2:i=o:=e;have:=hnew.1;omega)).trans (tS.st i hi).2⟩⟩
 obtain⟨b1,c1,b2,c2,b3,c3,b4,c4,rfl⟩:=form_Deal hR
 refine KW.retM1 U U U U (fun H1 g=>?_)
 exact⟨x,_,rfl,hok,K_Deal.more (fun i hi=>⟨by have:=hi.1;omega,by have:=(g.froz i (hw4 i hi)).1;have:=g.n_;omega⟩) (K_Deal.same (fun i hi=>(g.froz i (hw4 i hi)).2) hR)⟩
end
end Go.Proofs.YtlapbbffoapleaaGreat.Am
namespace Go.Proofs.YtlapbbffoapleaaGreat.Am
open Go Go.RowKit Go.Proofs
section
variable {S:Ids} {H0:AH}
theorem deedWord1:Spec Tryz.prog S H0 205 [.int .i64 1] (fun v=>v=.tuple #[.string ⟨#[103,105,118,101]⟩,.int .i64 1]):=by
 refine Spec.of1 Tryz.func205 rfl (by kernel_rfl) rfl (fun H _=>?_)
 refine KW.cT U U (by first | (simp;done) | decide) ?_
 exact KW.ret U U U U (rfl)
theorem deedWord2:Spec Tryz.prog S H0 205 [.int .i64 2] (fun v=>v=.tuple #[.string ⟨#[104,97,110,100]⟩,.int .i64 1]):=by
 refine Spec.of1 Tryz.func205 rfl (by kernel_rfl) rfl (fun H _=>?_)
 refine KW.cF U U (by first | (simp;done) | decide) ?_
 refine KW.cT U U (by first | (simp;done) | decide) ?_
 exact KW.ret U U U U (rfl)
theorem deedWord3:Spec Tryz.prog S H0 205 [.int .i64 3] (fun v=>v=.tuple #[.string ⟨#[100,101,108,105,118,101,114]⟩,.int .i64 1]):=by
 refine Spec.of1 Tryz.func205 rfl (by kernel_rfl) rfl (fun H _=>?_)
 refine KW.cF U U (by first | (simp;done) | decide) ?_
 refine KW.cF U U (by first | (simp;done) | decide) ?_
 refine KW.cT U U (by first | (simp;done) | decide) ?_
 exact KW.ret U U U U (rfl)
theorem deedWord4:Spec Tryz.prog S H0 205 [.int .i64 4] (fun v=>v=.tuple #[.string ⟨#[99,111,112,121]⟩,.int .i64 1]):=by
 refine Spec.of1 Tryz.func205 rfl (by kernel_rfl) rfl (fun H _=>?_)
 refine KW.cF U U (by first | (simp;done) | decide) ?_
 refine KW.cF U U (by first | (simp;done) | decide) ?_
 refine KW.cF U U (by first | (simp;done) | decide) ?_
 refine KW.cT U U (by first | (simp;done) | decide) ?_
 exact KW.ret U U U U (rfl)
theorem deedWord5:Spec Tryz.prog S H0 205 [.int .i64 5] (fun v=>v=.tuple #[.string ⟨#[100,114,111,112]⟩,.int .i64 1]):=by
 refine Spec.of1 Tryz.func205 rfl (by kernel_rfl) rfl (fun H _=>?_)
 refine KW.cF U U (by first | (simp;done) | decide) ?_
 refine KW.cF U U (by first | (simp;done) | decide) ?_
 refine KW.cF U U (by first | (simp;done) | decide) ?_
 refine KW.cF U U (by first | (simp;done) | decide) ?_
 refine KW.cT U U (by first | (simp;done) | decide) ?_
 exact KW.ret U U U U (rfl)
theorem deedWord6:Spec Tryz.prog S H0 205 [.int .i64 6] (fun v=>v=.tuple #[.string ⟨#[108,105,101]⟩,.int .i64 2]):=by
 refine Spec.of1 Tryz.func205 rfl (by kernel_rfl) rfl (fun H _=>?_)
 refine KW.cF U U (by first | (simp;done) | decide) ?_
 refine KW.cF U U (by first | (simp;done) | decide) ?_
 refine KW.cF U U (by first | (simp;done) | decide) ?_
 refine KW.cF U U (by first | (simp;done) | decide) ?_
 refine KW.cF U U (by first | (simp;done) | decide) ?_
 refine KW.cT U U (by first | (simp;done) | decide) ?_
 exact KW.ret U U U U (rfl)
theorem deedWord7:Spec Tryz.prog S H0 205 [.int .i64 7] (fun v=>v=.tuple #[.string ⟨#[115,97,118,101]⟩,.int .i64 1]):=by
 refine Spec.of1 Tryz.func205 rfl (by kernel_rfl) rfl (fun H _=>?_)
 refine KW.cF U U (by first | (simp;done) | decide) ?_
 refine KW.cF U U (by first | (simp;done) | decide) ?_
 refine KW.cF U U (by first | (simp;done) | decide) ?_
 refine KW.cF U U (by first | (simp;done) | decide) ?_
 refine KW.cF U U (by first | (simp;done) | decide) ?_
 refine KW.cF U U (by first | (simp;done) | decide) ?_
 refine KW.cT U U (by first | (simp;done) | decide) ?_
 exact KW.ret U U U U (rfl)
theorem deedWord8:Spec Tryz.prog S H0 205 [.int .i64 8] (fun v=>v=.tuple #[.string ⟨#[99,114,97,115,104]⟩,.int .i64 1]):=by
 refine Spec.of1 Tryz.func205 rfl (by kernel_rfl) rfl (fun H _=>?_)
 refine KW.cF U U (by first | (simp;done) | decide) ?_
 refine KW.cF U U (by first | (simp;done) | decide) ?_
 refine KW.cF U U (by first | (simp;done) | decide) ?_
 refine KW.cF U U (by first | (simp;done) | decide) ?_
 refine KW.cF U U (by first | (simp;done) | decide) ?_
 refine KW.cF U U (by first | (simp;done) | decide) ?_
 refine KW.cF U U (by first | (simp;done) | decide) ?_
 refine KW.cT U U (by first | (simp;done) | decide) ?_
 exact KW.ret U U U U (rfl)
theorem deedWord9:Spec Tryz.prog S H0 205 [.int .i64 9] (fun v=>v=.tuple #[.string ⟨#[114,101,110,101,119]⟩,.int .i64 0]):=by
 refine Spec.of1 Tryz.func205 rfl (by kernel_rfl) rfl (fun H _=>?_)
 refine KW.cF U U (by first | (simp;done) | decide) ?_
 refine KW.cF U U (by first | (simp;done) | decide) ?_
 refine KW.cF U U (by first | (simp;done) | decide) ?_
 refine KW.cF U U (by first | (simp;done) | decide) ?_
 refine KW.cF U U (by first | (simp;done) | decide) ?_
 refine KW.cF U U (by first | (simp;done) | decide) ?_
 refine KW.cF U U (by first | (simp;done) | decide) ?_
 refine KW.cF U U (by first | (simp;done) | decide) ?_
 refine KW.cT U U (by first | (simp;done) | decide) ?_
 exact KW.ret U U U U (rfl)
theorem deedWordN {k:Int} (h:¬(1≤k∧k≤9)):Spec Tryz.prog S H0 205 [.int .i64 k] (fun v=>v=.tuple #[.string ⟨#[]⟩,.int .i64 0]):=by
 refine Spec.of1 Tryz.func205 rfl (by kernel_rfl) rfl (fun H _=>?_)
 refine KW.no U U (by omega) ?_
 refine KW.no U U (by omega) ?_
 refine KW.no U U (by omega) ?_
 refine KW.no U U (by omega) ?_
 refine KW.no U U (by omega) ?_
 refine KW.no U U (by omega) ?_
 refine KW.no U U (by omega) ?_
 refine KW.no U U (by omega) ?_
 refine KW.no U U (by omega) ?_
 exact KW.ret U U U U (rfl)
theorem validDeedN {k A B:Int} (h:¬(1≤k∧k≤9)):Spec Tryz.prog S H0 140 [.agg [.int .i64 k,.int .i64 A,.int .i64 B].toArray] (fun v=>v=.bool (tv (DeedP (k,A,B)))):=by
 refine Spec.of1 Tryz.func140 rfl (by kernel_rfl) rfl (fun H _=>?_)
 refine KW.callE U U U U U (deedWordN h) (fun _ _=>?_)
 refine KW.tF U U (by simp[ByteArray.toList,ByteArray.toList.loop,ByteArray.size,ByteArray.get!]) ?_
 repeat first | refine KW.tT U U U ?_ | refine KW.tF U U U ?_
 rw[tv_false (fun p=>h p.1)]
 exact KW.ret U U U U (rfl)
theorem validDeed1 {A B:Int}:Spec Tryz.prog S H0 140 [.agg [.int .i64 1,.int .i64 A,.int .i64 B].toArray] (fun v=>v=.bool (tv (DeedP (1,A,B)))):=by
 have e:DeedP (1,A,B)↔((0≤A∧A≤999)∧(0≤B∧B≤999)∧B=0):=by simp[DeedP,cntD]
 rw[tv_congr e]
 refine Spec.of1 Tryz.func140 rfl (by kernel_rfl) rfl (fun H _=>?_)
 refine KW.callE U U U U U (deedWord1) (fun _ _=>?_)
 refine KW.tT U U (by simp[ByteArray.toList,ByteArray.toList.loop,ByteArray.size,ByteArray.get!]) ?_
 refine KW.callE U U U U U (within _ _ _) (fun _ _=>?_)
 refine KW.tst U U (fun h1=>?_) (fun h1=>?_)
 ·refine KW.callE U U U U U (within _ _ _) (fun _ _=>?_)
  refine KW.tst U U (fun h2=>?_) (fun h2=>?_)
  ·repeat first | refine KW.tT U U U ?_ | refine KW.tF U U U ?_
   refine KW.ret U U U U ?_
   by_cases h3:B=0
   ·rw[tv_true ⟨h1,h2,h3⟩,h3];rfl
   ·rw[tv_false (fun p=>h3 p.2.2)];show Value.bool (decide (B=0))=_;rw[decide_eq_false h3]
  ·repeat first | refine KW.tT U U U ?_ | refine KW.tF U U U ?_
   rw[tv_false (fun p=>h2 p.2.1)]
   exact KW.ret U U U U (rfl)
 ·repeat first | refine KW.tT U U U ?_ | refine KW.tF U U U ?_
  rw[tv_false (fun p=>h1 p.1)]
  exact KW.ret U U U U (rfl)
theorem validDeed2 {A B:Int}:Spec Tryz.prog S H0 140 [.agg [.int .i64 2,.int .i64 A,.int .i64 B].toArray] (fun v=>v=.bool (tv (DeedP (2,A,B)))):=by
 have e:DeedP (2,A,B)↔((0≤A∧A≤999)∧(0≤B∧B≤999)∧B=0):=by simp[DeedP,cntD]
 rw[tv_congr e]
 refine Spec.of1 Tryz.func140 rfl (by kernel_rfl) rfl (fun H _=>?_)
 refine KW.callE U U U U U (deedWord2) (fun _ _=>?_)
 refine KW.tT U U (by simp[ByteArray.toList,ByteArray.toList.loop,ByteArray.size,ByteArray.get!]) ?_
 refine KW.callE U U U U U (within _ _ _) (fun _ _=>?_)
 refine KW.tst U U (fun h1=>?_) (fun h1=>?_)
 ·refine KW.callE U U U U U (within _ _ _) (fun _ _=>?_)
  refine KW.tst U U (fun h2=>?_) (fun h2=>?_)
  ·repeat first | refine KW.tT U U U ?_ | refine KW.tF U U U ?_
   refine KW.ret U U U U ?_
   by_cases h3:B=0
   ·rw[tv_true ⟨h1,h2,h3⟩,h3];rfl
   ·rw[tv_false (fun p=>h3 p.2.2)];show Value.bool (decide (B=0))=_;rw[decide_eq_false h3]
  ·repeat first | refine KW.tT U U U ?_ | refine KW.tF U U U ?_
   rw[tv_false (fun p=>h2 p.2.1)]
   exact KW.ret U U U U (rfl)
 ·repeat first | refine KW.tT U U U ?_ | refine KW.tF U U U ?_
  rw[tv_false (fun p=>h1 p.1)]
  exact KW.ret U U U U (rfl)
theorem validDeed3 {A B:Int}:Spec Tryz.prog S H0 140 [.agg [.int .i64 3,.int .i64 A,.int .i64 B].toArray] (fun v=>v=.bool (tv (DeedP (3,A,B)))):=by
 have e:DeedP (3,A,B)↔((0≤A∧A≤999)∧(0≤B∧B≤999)∧B=0):=by simp[DeedP,cntD]
 rw[tv_congr e]
 refine Spec.of1 Tryz.func140 rfl (by kernel_rfl) rfl (fun H _=>?_)
 refine KW.callE U U U U U (deedWord3) (fun _ _=>?_)
 refine KW.tT U U (by simp[ByteArray.toList,ByteArray.toList.loop,ByteArray.size,ByteArray.get!]) ?_
 refine KW.callE U U U U U (within _ _ _) (fun _ _=>?_)
 refine KW.tst U U (fun h1=>?_) (fun h1=>?_)
 ·refine KW.callE U U U U U (within _ _ _) (fun _ _=>?_)
  refine KW.tst U U (fun h2=>?_) (fun h2=>?_)
  ·repeat first | refine KW.tT U U U ?_ | refine KW.tF U U U ?_
   refine KW.ret U U U U ?_
   by_cases h3:B=0
   ·rw[tv_true ⟨h1,h2,h3⟩,h3];rfl
   ·rw[tv_false (fun p=>h3 p.2.2)];show Value.bool (decide (B=0))=_;rw[decide_eq_false h3]
  ·repeat first | refine KW.tT U U U ?_ | refine KW.tF U U U ?_
   rw[tv_false (fun p=>h2 p.2.1)]
   exact KW.ret U U U U (rfl)
 ·repeat first | refine KW.tT U U U ?_ | refine KW.tF U U U ?_
  rw[tv_false (fun p=>h1 p.1)]
  exact KW.ret U U U U (rfl)
theorem validDeed4 {A B:Int}:Spec Tryz.prog S H0 140 [.agg [.int .i64 4,.int .i64 A,.int .i64 B].toArray] (fun v=>v=.bool (tv (DeedP (4,A,B)))):=by
 have e:DeedP (4,A,B)↔((0≤A∧A≤999)∧(0≤B∧B≤999)∧B=0):=by simp[DeedP,cntD]
 rw[tv_congr e]
 refine Spec.of1 Tryz.func140 rfl (by kernel_rfl) rfl (fun H _=>?_)
 refine KW.callE U U U U U (deedWord4) (fun _ _=>?_)
 refine KW.tT U U (by simp[ByteArray.toList,ByteArray.toList.loop,ByteArray.size,ByteArray.get!]) ?_
 refine KW.callE U U U U U (within _ _ _) (fun _ _=>?_)
 refine KW.tst U U (fun h1=>?_) (fun h1=>?_)
 ·refine KW.callE U U U U U (within _ _ _) (fun _ _=>?_)
  refine KW.tst U U (fun h2=>?_) (fun h2=>?_)
  ·repeat first | refine KW.tT U U U ?_ | refine KW.tF U U U ?_
   refine KW.ret U U U U ?_
   by_cases h3:B=0
   ·rw[tv_true ⟨h1,h2,h3⟩,h3];rfl
   ·rw[tv_false (fun p=>h3 p.2.2)];show Value.bool (decide (B=0))=_;rw[decide_eq_false h3]
  ·repeat first | refine KW.tT U U U ?_ | refine KW.tF U U U ?_
   rw[tv_false (fun p=>h2 p.2.1)]
   exact KW.ret U U U U (rfl)
 ·repeat first | refine KW.tT U U U ?_ | refine KW.tF U U U ?_
  rw[tv_false (fun p=>h1 p.1)]
  exact KW.ret U U U U (rfl)
theorem validDeed5 {A B:Int}:Spec Tryz.prog S H0 140 [.agg [.int .i64 5,.int .i64 A,.int .i64 B].toArray] (fun v=>v=.bool (tv (DeedP (5,A,B)))):=by
 have e:DeedP (5,A,B)↔((0≤A∧A≤999)∧(0≤B∧B≤999)∧B=0):=by simp[DeedP,cntD]
 rw[tv_congr e]
 refine Spec.of1 Tryz.func140 rfl (by kernel_rfl) rfl (fun H _=>?_)
 refine KW.callE U U U U U (deedWord5) (fun _ _=>?_)
 refine KW.tT U U (by simp[ByteArray.toList,ByteArray.toList.loop,ByteArray.size,ByteArray.get!]) ?_
 refine KW.callE U U U U U (within _ _ _) (fun _ _=>?_)
 refine KW.tst U U (fun h1=>?_) (fun h1=>?_)
 ·refine KW.callE U U U U U (within _ _ _) (fun _ _=>?_)
  refine KW.tst U U (fun h2=>?_) (fun h2=>?_)
  ·repeat first | refine KW.tT U U U ?_ | refine KW.tF U U U ?_
   refine KW.ret U U U U ?_
   by_cases h3:B=0
   ·rw[tv_true ⟨h1,h2,h3⟩,h3];rfl
   ·rw[tv_false (fun p=>h3 p.2.2)];show Value.bool (decide (B=0))=_;rw[decide_eq_false h3]
  ·repeat first | refine KW.tT U U U ?_ | refine KW.tF U U U ?_
   rw[tv_false (fun p=>h2 p.2.1)]
   exact KW.ret U U U U (rfl)
 ·repeat first | refine KW.tT U U U ?_ | refine KW.tF U U U ?_
  rw[tv_false (fun p=>h1 p.1)]
  exact KW.ret U U U U (rfl)
theorem validDeed6 {A B:Int}:Spec Tryz.prog S H0 140 [.agg [.int .i64 6,.int .i64 A,.int .i64 B].toArray] (fun v=>v=.bool (tv (DeedP (6,A,B)))):=by
 have e:DeedP (6,A,B)↔((0≤A∧A≤999)∧(0≤B∧B≤999)):=by simp[DeedP,cntD]
 rw[tv_congr e]
 refine Spec.of1 Tryz.func140 rfl (by kernel_rfl) rfl (fun H _=>?_)
 refine KW.callE U U U U U (deedWord6) (fun _ _=>?_)
 refine KW.tT U U (by simp[ByteArray.toList,ByteArray.toList.loop,ByteArray.size,ByteArray.get!]) ?_
 refine KW.callE U U U U U (within _ _ _) (fun _ _=>?_)
 refine KW.tst U U (fun h1=>?_) (fun h1=>?_)
 ·refine KW.callE U U U U U (within _ _ _) (fun _ _=>?_)
  refine KW.tst U U (fun h2=>?_) (fun h2=>?_)
  ·repeat first | refine KW.tT U U U ?_ | refine KW.tF U U U ?_
   refine KW.ret U U U U ?_
   rw[tv_true ⟨h1,h2⟩]
   rfl
  ·repeat first | refine KW.tT U U U ?_ | refine KW.tF U U U ?_
   rw[tv_false (fun p=>h2 p.2)]
   exact KW.ret U U U U (rfl)
 ·repeat first | refine KW.tT U U U ?_ | refine KW.tF U U U ?_
  rw[tv_false (fun p=>h1 p.1)]
  exact KW.ret U U U U (rfl)
theorem validDeed7 {A B:Int}:Spec Tryz.prog S H0 140 [.agg [.int .i64 7,.int .i64 A,.int .i64 B].toArray] (fun v=>v=.bool (tv (DeedP (7,A,B)))):=by
 have e:DeedP (7,A,B)↔((0≤A∧A≤999)∧(0≤B∧B≤999)∧B=0):=by simp[DeedP,cntD]
 rw[tv_congr e]
 refine Spec.of1 Tryz.func140 rfl (by kernel_rfl) rfl (fun H _=>?_)
 refine KW.callE U U U U U (deedWord7) (fun _ _=>?_)
 refine KW.tT U U (by simp[ByteArray.toList,ByteArray.toList.loop,ByteArray.size,ByteArray.get!]) ?_
 refine KW.callE U U U U U (within _ _ _) (fun _ _=>?_)
 refine KW.tst U U (fun h1=>?_) (fun h1=>?_)
 ·refine KW.callE U U U U U (within _ _ _) (fun _ _=>?_)
  refine KW.tst U U (fun h2=>?_) (fun h2=>?_)
  ·repeat first | refine KW.tT U U U ?_ | refine KW.tF U U U ?_
   refine KW.ret U U U U ?_
   by_cases h3:B=0
   ·rw[tv_true ⟨h1,h2,h3⟩,h3];rfl
   ·rw[tv_false (fun p=>h3 p.2.2)];show Value.bool (decide (B=0))=_;rw[decide_eq_false h3]
  ·repeat first | refine KW.tT U U U ?_ | refine KW.tF U U U ?_
   rw[tv_false (fun p=>h2 p.2.1)]
   exact KW.ret U U U U (rfl)
 ·repeat first | refine KW.tT U U U ?_ | refine KW.tF U U U ?_
  rw[tv_false (fun p=>h1 p.1)]
  exact KW.ret U U U U (rfl)
theorem validDeed8 {A B:Int}:Spec Tryz.prog S H0 140 [.agg [.int .i64 8,.int .i64 A,.int .i64 B].toArray] (fun v=>v=.bool (tv (DeedP (8,A,B)))):=by
 have e:DeedP (8,A,B)↔((0≤A∧A≤999)∧(0≤B∧B≤999)∧B=0):=by simp[DeedP,cntD]
 rw[tv_congr e]
 refine Spec.of1 Tryz.func140 rfl (by kernel_rfl) rfl (fun H _=>?_)
 refine KW.callE U U U U U (deedWord8) (fun _ _=>?_)
 refine KW.tT U U (by simp[ByteArray.toList,ByteArray.toList.loop,ByteArray.size,ByteArray.get!]) ?_
 refine KW.callE U U U U U (within _ _ _) (fun _ _=>?_)
 refine KW.tst U U (fun h1=>?_) (fun h1=>?_)
 ·refine KW.callE U U U U U (within _ _ _) (fun _ _=>?_)
  refine KW.tst U U (fun h2=>?_) (fun h2=>?_)
  ·repeat first | refine KW.tT U U U ?_ | refine KW.tF U U U ?_
   refine KW.ret U U U U ?_
   by_cases h3:B=0
   ·rw[tv_true ⟨h1,h2,h3⟩,h3];rfl
   ·rw[tv_false (fun p=>h3 p.2.2)];show Value.bool (decide (B=0))=_;rw[decide_eq_false h3]
  ·repeat first | refine KW.tT U U U ?_ | refine KW.tF U U U ?_
   rw[tv_false (fun p=>h2 p.2.1)]
   exact KW.ret U U U U (rfl)
 ·repeat first | refine KW.tT U U U ?_ | refine KW.tF U U U ?_
  rw[tv_false (fun p=>h1 p.1)]
  exact KW.ret U U U U (rfl)
theorem validDeed9 {A B:Int}:Spec Tryz.prog S H0 140 [.agg [.int .i64 9,.int .i64 A,.int .i64 B].toArray] (fun v=>v=.bool (tv (DeedP (9,A,B)))):=by
 have e:DeedP (9,A,B)↔((0≤A∧A≤999)∧(0≤B∧B≤999)∧A=0∧B=0):=by simp[DeedP,cntD]
 rw[tv_congr e]
 refine Spec.of1 Tryz.func140 rfl (by kernel_rfl) rfl (fun H _=>?_)
 refine KW.callE U U U U U (deedWord9) (fun _ _=>?_)
 refine KW.tT U U (by simp[ByteArray.toList,ByteArray.toList.loop,ByteArray.size,ByteArray.get!]) ?_
 refine KW.callE U U U U U (within _ _ _) (fun _ _=>?_)
 refine KW.tst U U (fun h1=>?_) (fun h1=>?_)
 ·refine KW.callE U U U U U (within _ _ _) (fun _ _=>?_)
  refine KW.tst U U (fun h2=>?_) (fun h2=>?_)
  ·repeat first | refine KW.tT U U U ?_ | refine KW.tF U U U ?_
   refine KW.tst U U (fun h3=>?_) (fun h3=>?_)
   ·repeat first | refine KW.tT U U U ?_ | refine KW.tF U U U ?_
    refine KW.ret U U U U ?_
    by_cases h4:B=0
    ·rw[tv_true ⟨h1,h2,h3,h4⟩,h4];rfl
    ·rw[tv_false (fun p=>h4 p.2.2.2)];show Value.bool (decide (B=0))=_;rw[decide_eq_false h4]
   ·repeat first | refine KW.tT U U U ?_ | refine KW.tF U U U ?_
    rw[tv_false (fun p=>h3 p.2.2.1)]
    exact KW.ret U U U U (rfl)
  ·repeat first | refine KW.tT U U U ?_ | refine KW.tF U U U ?_
   rw[tv_false (fun p=>h2 p.2.1)]
   exact KW.ret U U U U (rfl)
 ·repeat first | refine KW.tT U U U ?_ | refine KW.tF U U U ?_
  rw[tv_false (fun p=>h1 p.1)]
  exact KW.ret U U U U (rfl)
theorem validDeed (d:T_Deed):Spec Tryz.prog S H0 140 [.agg [.int .i64 d.1,.int .i64 d.2.1,.int .i64 d.2.2].toArray] (fun v=>v=.bool (tv (DeedP d))):=by
 obtain⟨k,A,B⟩:=d
 by_cases h:1≤k∧k≤9
 ·have:k=1∨k=2∨k=3∨k=4∨k=5∨k=6∨k=7∨k=8∨k=9:=by omega
  rcases this with rfl | rfl | rfl | rfl | rfl | rfl | rfl | rfl | rfl
  ·exact validDeed1
  ·exact validDeed2
  ·exact validDeed3
  ·exact validDeed4
  ·exact validDeed5
  ·exact validDeed6
  ·exact validDeed7
  ·exact validDeed8
  ·exact validDeed9
 ·exact validDeedN h
theorem l08Words:SpecM Tryz.prog S H0 203 [] (fun n v H1=>∃a o,v=.tuple #[.slice (some a) 10 10,.slice (some ⟨o,0,some 1⟩) 10 10]∧KI.Ml (New n H1.n) H1 (.slice (some ⟨o,0,some 1⟩) 10 10) [0,1,1,1,1,1,2,1,1,0]):=by
 refine SpecM.of1 Tryz.func203 rfl (by kernel_rfl) rfl (fun H _=>?_)
 refine KW.lit U U U U U U U U U U [_,_,_,_,_,_,_,_,_,_] U U (fun v hv=>by simp at hv;rcases hv with rfl | rfl | rfl | rfl | rfl | rfl | rfl | rfl | rfl | rfl<;>rfl) rfl ?_
 refine KW.lit U U U U U U U U U U [_,_,_,_,_,_,_,_,_,_] U U (fun v hv=>by simp at hv;rcases hv with rfl | rfl | rfl | rfl | rfl<;>rfl) rfl ?_
 refine KW.retM1 U U U U (fun H1 g=>⟨_,_,rfl,int_ml ⟨by omega,by have:=g.n_;omega⟩ (g.blk (j:=1) rfl).1 U U (Nat.le_refl _)⟩)
theorem l08DeedM (d:T_Deed):SpecM Tryz.prog S H0 135 [.agg [.int .i64 d.1,.int .i64 d.2.1,.int .i64 d.2.2].toArray] (fun _ v _=>v=.bool (tv (DeedP d))):=by
 obtain⟨k,A,B⟩:=d
 refine SpecM.of1 Tryz.func135 rfl (by kernel_rfl) rfl (fun H _=>?_)
 refine KW.callE U U U U U (l00In _ _ _) (fun _ _=>?_)
 refine KW.tstB U U (fun h1=>?_) (fun h1=>?_)
 ·have h1:¬(1≤k∧k≤9):=by simp at h1;omega
  repeat first | refine KW.tT U U U ?_ | refine KW.tF U U U ?_
  refine KW.cT U U (by first | (simp;done) | decide) ?_
  rw[tv_false (fun p=>h1 p.1)]
  refine KW.retM1 U U U U (fun H1 g=>rfl)
 ·have h1:1≤k∧k≤9:=by simpa using h1
  refine KW.callE U U U U U (l00In _ _ _) (fun _ _=>?_)
  refine KW.tstB U U (fun h2=>?_) (fun h2=>?_)
  ·have h2:¬(0≤A∧A≤999):=by simp at h2;omega
   repeat first | refine KW.tT U U U ?_ | refine KW.tF U U U ?_
   refine KW.cT U U (by first | (simp;done) | decide) ?_
   rw[tv_false (fun p=>h2 p.2.1)]
   refine KW.retM1 U U U U (fun H1 g=>rfl)
  ·have h2:0≤A∧A≤999:=by simpa using h2
   refine KW.callE U U U U U (l00In _ _ _) (fun _ _=>?_)
   refine KW.cndB U U (fun h3=>?_) (fun h3=>?_)
   ·have h3:¬(0≤B∧B≤999):=by simp at h3;omega
    rw[tv_false (fun p=>h3 p.2.2.1)]
    refine KW.retM1 U U U U (fun H1 g=>rfl)
   ·have h3:0≤B∧B≤999:=by simpa using h3
    refine KW.callN1 U U U U U (l08Words) (fun v H1 S1 m1 _ _ hv=>?_)
    obtain⟨a,o,rfl,hM⟩:=hv
    refine KW.getI hM.sl.up U U U U U U U U U U U U U U U U (by omega) (by show k<10;omega) (fun y hy=>?_)
    have hyk:y=cntD k:=by
     have:k=1∨k=2∨k=3∨k=4∨k=5∨k=6∨k=7∨k=8∨k=9:=by omega
     rcases this with rfl | rfl | rfl | rfl | rfl | rfl | rfl | rfl | rfl<;>(cases hy;rfl)
    subst hyk
    refine KW.tst U U (fun g1=>?_) (fun g1=>?_)
    ·have g1:0<cntD k:=g1
     repeat first | refine KW.tT U U U ?_ | refine KW.tF U U U ?_
     refine KW.getI hM.sl.up U U U U U U U U U U U U U U U U (by omega) (by show k<10;omega) (fun y2 hy2=>?_)
     obtain rfl:cntD k=y2:=by have:=hy.symm.trans hy2;exact Option.some.inj this
     refine KW.tst U U (fun g2=>?_) (fun g2=>?_)
     ·have g2:1<cntD k:=g2
      repeat first | refine KW.tT U U U ?_ | refine KW.tF U U U ?_
      rw[tv_true (p:=DeedP (k,A,B)) ⟨h1,h2,h3,.inl g1,.inl g2⟩]
      refine KW.retM1 U U U U (fun H1 g=>rfl)
     ·have g2:¬1<cntD k:=g2
      repeat first | refine KW.tT U U U ?_ | refine KW.tF U U U ?_
      refine KW.retM1 U U U U (fun H1 g=>?_)
      by_cases h4:B=0
      ·rw[tv_true (p:=DeedP (k,A,B)) ⟨h1,h2,h3,.inl g1,.inr h4⟩];show Value.bool (decide (B=0))=_;rw[decide_eq_true h4]
      ·rw[tv_false (p:=DeedP (k,A,B)) (fun p=>p.2.2.2.2.elim g2 h4)];show Value.bool (decide (B=0))=_;rw[decide_eq_false h4]
    ·have g1:¬0<cntD k:=g1
     refine KW.tst U U (fun g3=>?_) (fun g3=>?_)
     ·have g3:A=0:=g3
      repeat first | refine KW.tT U U U ?_ | refine KW.tF U U U ?_
      refine KW.getI hM.sl.up U U U U U U U U U U U U U U U U (by omega) (by show k<10;omega) (fun y2 hy2=>?_)
      obtain rfl:cntD k=y2:=by have:=hy.symm.trans hy2;exact Option.some.inj this
      refine KW.tno U U (by omega) ?_
      repeat first | refine KW.tT U U U ?_ | refine KW.tF U U U ?_
      refine KW.retM1 U U U U (fun H1 g=>?_)
      by_cases h4:B=0
      ·rw[tv_true (p:=DeedP (k,A,B)) ⟨h1,h2,h3,.inr g3,.inr h4⟩];show Value.bool (decide (B=0))=_;rw[decide_eq_true h4]
      ·rw[tv_false (p:=DeedP (k,A,B)) (fun p=>p.2.2.2.2.elim (fun q=>by have q:1<cntD k:=q;omega) h4)];show Value.bool (decide (B=0))=_;rw[decide_eq_false h4]
     ·have g3:¬A=0:=g3
      repeat first | refine KW.tT U U U ?_ | refine KW.tF U U U ?_
      rw[tv_false (p:=DeedP (k,A,B)) (fun p=>p.2.2.2.1.elim g1 g3)]
      refine KW.retM1 U U U U (fun H1 g=>rfl)
theorem l08Deed (d:T_Deed):Spec Tryz.prog S H0 135 [.agg [.int .i64 d.1,.int .i64 d.2.1,.int .i64 d.2.2].toArray] (fun v=>v=.bool (tv (DeedP d))):=l08DeedM d
end
abbrev HTI:HT:=⟨118,51,24,4,197⟩
theorem send_full {c:Cer} {p:T_Packet} (h:c.wire.length=12):send c p=(c,3):=by unfold send;rw[if_pos h]
theorem send_ok {c:Cer} {p:T_Packet} (h:¬c.wire.length=12):send c p=(⟨c.ep,c.seats,c.oe,c.got,c.has,c.named,c.wire++[p]⟩,0):=by unfold send;rw[if_neg h]
def HlRes (t:HT) (pre post:List Value) (X:Ids) (d:HD) (r:Cer × Int) (n:Nat) (v:Value) (H1:AH):Prop:=v=.int .i64 r.2∧HlPost t pre post X d r.1 n H1
theorem HlPost.same {t:HT} {pre post:List Value} {X X0:Ids} {d:HD} {c:Cer} {H H1:AH} (h:Hl t pre post (Low H.n) H X0 d c) (hX:∀id,X0 id→X id) (hA:∀id,id<H.n→H1.m id=H.m id):HlPost t pre post X d c H.n H1:=
 ⟨X0,d,h.mv (fun id hid=>⟨hid.imp (fun p=>p) (fun p=>.inl (hX id p)),hA id (hid.elim (h.w id) (h.sx id))⟩),rfl,fun id p=>.inl (hX id p),fun id p=>.inl p⟩
theorem HD.nodup {d:HD} (h:d.L.Nodup):(d.hid≠d.sid∧d.hid≠d.gid∧d.hid≠d.bid∧d.hid≠d.nid)∧(d.sid≠d.gid∧d.sid≠d.bid∧d.sid≠d.nid)∧(d.gid≠d.bid∧d.gid≠d.nid)∧d.bid≠d.nid∧∀i q,d.w=some (i,q)→i≠d.hid∧i≠d.sid∧i≠d.gid∧i≠d.bid∧i≠d.nid:=by
 obtain⟨a,b,c,e,f,w⟩:=d
 cases w with
 | none=>
  simp[HD.L] at h
  refine⟨⟨h.1.1,h.1.2.1,h.1.2.2.1,h.1.2.2.2⟩,⟨h.2.1.1,h.2.1.2.1,h.2.1.2.2⟩,⟨h.2.2.1.1,h.2.2.1.2⟩,h.2.2.2,fun i q hw=>by cases hw⟩
 | some p=>
  simp[HD.L] at h
  refine⟨⟨h.1.1,h.1.2.1,h.1.2.2.1,h.1.2.2.2.1⟩,⟨h.2.1.1,h.2.1.2.1,h.2.1.2.2.1⟩,⟨h.2.2.1.1,h.2.2.1.2.1⟩,h.2.2.2.1.1,fun i q hw=>?_⟩
  cases hw
  exact⟨fun e=>h.1.2.2.2.2 e.symm,fun e=>h.2.1.2.2.2 e.symm,fun e=>h.2.2.1.2.2 e.symm,fun e=>h.2.2.2.1.2 e.symm,fun e=>h.2.2.2.2 e.symm⟩
theorem HD.nodup_w {d:HD} (h:d.L.Nodup) {i q:Nat} (hi:i∉d.L):(⟨d.hid,d.sid,d.gid,d.bid,d.nid,some (i,q)⟩:HD).L.Nodup:=by
 obtain⟨h1,h2,h3,h4,_⟩:=HD.nodup h
 have:i≠d.hid∧i≠d.sid∧i≠d.gid∧i≠d.bid∧i≠d.nid:=by
  simp only[HD.L,List.mem_append,List.mem_cons,List.not_mem_nil,or_false,not_or] at hi
  exact⟨hi.1.1,hi.1.2.1,hi.1.2.2.1,hi.1.2.2.2.1,hi.1.2.2.2.2⟩
 simp only[HD.L,List.cons_append,List.nil_append,List.nodup_cons,List.mem_cons,List.not_mem_nil,or_false,not_or,List.nodup_nil]
 refine⟨⟨h1.1,h1.2.1,h1.2.2.1,h1.2.2.2,this.1.symm⟩,⟨h2.1,h2.2.1,h2.2.2,this.2.1.symm⟩,⟨h3.1,h3.2,this.2.2.1.symm⟩,⟨h4,this.2.2.2.1.symm⟩,this.2.2.2.2.symm,by simp,trivial⟩
theorem Hl.reWireK {t:HT} {pre post:List Value} {X PX:Ids} {d:HD} {c:Cer} {H H1:AH} (h:Hl t pre post (Low H.n) H X d c) (hPX:∀id,PX id→id<H.n∧¬d.W id) {i q:Nat} {cs:List Value} {ps:List T_Packet} (hn:H.n≤H1.n) (hi:(H.n≤i∧i<H1.n)∨∃q0,d.w=some (i,q0))
  (keep:∀id,id<H.n→(d.W id∨X id∨PX id)→id≠d.hid→(∀i q,d.w=some (i,q)→id≠i)→H1.m id=H.m id) (m:Nat) (hlen:ps.length=m) (hh:H1.m d.hid=some ⟨t.h,true,pre++([.int .i64 c.ep,.slice (some ⟨d.sid,0,some 7⟩) c.seats.length c.seats.length,.int .i64 c.oe,.slice (some ⟨d.gid,0,some 1⟩) c.got.length c.got.length,.slice (some ⟨d.bid,0,some 1⟩) c.has.length c.has.length,.slice (some ⟨d.nid,0,some 1⟩) c.named.length c.named.length,.slice (some ⟨i,0,some 5⟩) m q]++post)⟩)
  (hw:H1.m i=some ⟨t.p,true,cs⟩) (hcl:Cl K_Packet (fun id=>X id∨PX id) H ps cs) (hq:ps.length≤q):HlPost t pre post (fun id=>X id∨PX id) d ⟨c.ep,c.seats,c.oe,c.got,c.has,c.named,ps⟩ H.n H1:=by
 subst hlen
 obtain⟨l1,l2,l3,l4,l5,l6⟩:=HD.Win (d:=d)
 obtain⟨n1,n2,n3,n4,n5⟩:=HD.nodup h.dist
 have lw:=fun id (p:d.W id)=>h.w id p
 have xw:∀id,(X id∨PX id)→id<H.n∧¬d.W id:=fun id p=>p.elim (fun p=>⟨h.sx id p,h.out id p⟩) (hPX id)
 have xk:∀id,(X id∨PX id)→H1.m id=H.m id:=fun id p=>keep id (xw id p).1 (.inr p) (fun e=>(xw id p).2 (e ▸ l1)) (fun i q e e2=>(xw id p).2 (e2 ▸ l6 i q e))
 have k2:H1.m d.sid=H.m d.sid:=keep _ (lw _ l2) (.inl l2) n1.1.symm (fun i q e=>(n5 i q e).2.1.symm)
 have k3:H1.m d.gid=H.m d.gid:=keep _ (lw _ l3) (.inl l3) n1.2.1.symm (fun i q e=>(n5 i q e).2.2.1.symm)
 have k4:H1.m d.bid=H.m d.bid:=keep _ (lw _ l4) (.inl l4) n1.2.2.1.symm (fun i q e=>(n5 i q e).2.2.2.1.symm)
 have k5:H1.m d.nid=H.m d.nid:=keep _ (lw _ l5) (.inl l5) n1.2.2.2.symm (fun i q e=>(n5 i q e).2.2.2.2.symm)
 have iw:d.W i∨New H.n H1.n i:=hi.elim .inr (fun⟨q0,e⟩=>.inl (l6 i q0 e))
 have hd:(⟨d.hid,d.sid,d.gid,d.bid,d.nid,some (i,q)⟩:HD).L.Nodup:=by
  rcases hi with hi | ⟨q0,e⟩
  ·exact HD.nodup_w h.dist (fun p=>by have:i<H.n:=lw i p;omega)
  ·have:=h.dist
   simp only[HD.L,e] at this
   exact this
 refine⟨fun id=>X id∨PX id,⟨d.hid,d.sid,d.gid,d.bid,d.nid,some (i,q)⟩,⟨fun id p=>.inr (.inl p),⟨.inl l1,hh⟩,h.seats.mv ⟨.inl l2,k2⟩ (fun id p=>xk id (.inl p)) (fun id p=>.inl p),h.got.mv ⟨.inl l3,k3⟩ (fun id p=>xk id (.inl p)) (fun id p=>.inl p),h.has.mv ⟨.inl l4,k4⟩,h.named.mv ⟨.inl l5,k5⟩,⟨iw.elim .inl (fun p=>.inr (.inr p)),hq,cs,hw,hcl.mv xk (fun _ p=>p)⟩,hd,fun id p q=>?_⟩,rfl,fun id p=>.inl p,fun id p=>?_⟩
 ·have hx:=xw id p
  have q:id∈(⟨d.hid,d.sid,d.gid,d.bid,d.nid,some _⟩:HD).L:=q
  simp only[HD.L,List.mem_append,List.mem_cons,List.not_mem_nil,or_false] at q
  rcases q with(e | e | e | e | e) | e
  ·exact hx.2 (e ▸ l1)
  ·exact hx.2 (e ▸ l2)
  ·exact hx.2 (e ▸ l3)
  ·exact hx.2 (e ▸ l4)
  ·exact hx.2 (e ▸ l5)
  ·rcases hi with hi | ⟨q0,e2⟩
   ·omega
   ·exact hx.2 (e ▸ l6 i q0 e2)
 ·have p:id∈(⟨d.hid,d.sid,d.gid,d.bid,d.nid,some _⟩:HD).L:=p
  simp only[HD.L,List.mem_append,List.mem_cons,List.not_mem_nil,or_false] at p
  rcases p with(e | e | e | e | e) | e
  ·rw[e];exact .inl l1
  ·rw[e];exact .inl l2
  ·rw[e];exact .inl l3
  ·rw[e];exact .inl l4
  ·rw[e];exact .inl l5
  ·rw[e];exact iw
theorem Hl.reWire {t:HT} {pre post:List Value} {X PX:Ids} {d:HD} {c:Cer} {H H1:AH} (h:Hl t pre post (Low H.n) H X d c) (hPX:∀id,PX id→id<H.n∧¬d.W id) {i q:Nat} {cs:List Value} {ps:List T_Packet} (hn:H.n≤H1.n) (hi:(H.n≤i∧i<H1.n)∨∃q0,d.w=some (i,q0))
  (keep:∀id,id<H.n→id≠d.hid→(∀i q,d.w=some (i,q)→id≠i)→H1.m id=H.m id) (m:Nat) (hlen:ps.length=m) (hh:H1.m d.hid=some ⟨t.h,true,pre++([.int .i64 c.ep,.slice (some ⟨d.sid,0,some 7⟩) c.seats.length c.seats.length,.int .i64 c.oe,.slice (some ⟨d.gid,0,some 1⟩) c.got.length c.got.length,.slice (some ⟨d.bid,0,some 1⟩) c.has.length c.has.length,.slice (some ⟨d.nid,0,some 1⟩) c.named.length c.named.length,.slice (some ⟨i,0,some 5⟩) m q]++post)⟩)
  (hw:H1.m i=some ⟨t.p,true,cs⟩) (hcl:Cl K_Packet (fun id=>X id∨PX id) H ps cs) (hq:ps.length≤q):HlPost t pre post (fun id=>X id∨PX id) d ⟨c.ep,c.seats,c.oe,c.got,c.has,c.named,ps⟩ H.n H1:=
 h.reWireK hPX hn hi (fun id a _ b c=>keep id a b c) m hlen hh hw hcl hq
theorem Hl.reSeats {t:HT} {pre post:List Value} {X PX:Ids} {d:HD} {c:Cer} {H H1:AH} (h:Hl t pre post (Low H.n) H X d c) (hPX:∀id,PX id→id<H.n∧¬d.W id) {cs:List Value} {ss:List T_Seat} (hl:ss.length=c.seats.length)
  (keep:∀id,id<H.n→id≠d.sid→H1.m id=H.m id) (hs:H1.m d.sid=some ⟨t.s,true,cs⟩) (hcl:Cl K_Seat (fun id=>X id∨PX id) H ss cs):HlPost t pre post (fun id=>X id∨PX id) d ⟨c.ep,ss,c.oe,c.got,c.has,c.named,c.wire⟩ H.n H1:=by
 obtain⟨l1,l2,l3,l4,l5,l6⟩:=HD.Win (d:=d)
 obtain⟨n1,n2,n3,n4,n5⟩:=HD.nodup h.dist
 have lw:=fun id (p:d.W id)=>h.w id p
 have xw:∀id,(X id∨PX id)→id<H.n∧¬d.W id:=fun id p=>p.elim (fun p=>⟨h.sx id p,h.out id p⟩) (hPX id)
 have xk:∀id,(X id∨PX id)→H1.m id=H.m id:=fun id p=>keep id (xw id p).1 (fun e=>(xw id p).2 (e ▸ l2))
 have k1:H1.m d.hid=H.m d.hid:=keep _ (lw _ l1) n1.1
 have k3:H1.m d.gid=H.m d.gid:=keep _ (lw _ l3) n2.1.symm
 have k4:H1.m d.bid=H.m d.bid:=keep _ (lw _ l4) n2.2.1.symm
 have k5:H1.m d.nid=H.m d.nid:=keep _ (lw _ l5) n2.2.2.symm
 have hh:=h.hall.2
 refine⟨fun id=>X id∨PX id,d,⟨fun id p=>.inr (.inl p),⟨.inl l1,?_⟩,⟨.inl l2,cs,hs,hcl.mv xk (fun _ p=>p)⟩,h.got.mv ⟨.inl l3,k3⟩ (fun id p=>xk id (.inl p)) (fun id p=>.inl p),h.has.mv ⟨.inl l4,k4⟩,h.named.mv ⟨.inl l5,k5⟩,h.wire.mv (fun i q e=>⟨.inl (l6 i q e),keep _ (lw _ (l6 i q e)) (n5 i q e).2.1⟩) (fun id p=>xk id (.inl p)) (fun id p=>.inl p),h.dist,fun id p=>(xw id p).2⟩,rfl,fun id p=>.inl p,fun id p=>.inl p⟩
 rw[k1,hh]
 simp only[HD.cells,hl]
theorem Hl.reOpen {t:HT} {pre post:List Value} {X PX:Ids} {d:HD} {c c':Cer} {H H1:AH} (h:Hl t pre post (Low H.n) H X d c) (hPX:∀id,PX id→id<H.n∧¬d.W id) {gcs:List Value} (hc:c'.seats=c.seats∧c'.wire=c.wire)
  (keep:∀id,id<H.n→id≠d.hid→id≠d.gid→id≠d.bid→id≠d.nid→H1.m id=H.m id) (hh:H1.m d.hid=some ⟨t.h,true,d.cells pre post c'⟩) (hg:H1.m d.gid=some ⟨t.g,true,gcs⟩) (gl:gcs.length=c'.got.length) (hgc:Cl KI.sl (fun id=>X id∨PX id) H c'.got gcs)
  (hb:H1.m d.bid=some ⟨t.b,true,c'.has.map Value.bool⟩) (hn:H1.m d.nid=some ⟨t.b,true,c'.named.map Value.bool⟩):HlPost t pre post (fun id=>X id∨PX id) d c' H.n H1:=by
 obtain⟨l1,l2,l3,l4,l5,l6⟩:=HD.Win (d:=d)
 obtain⟨n1,n2,n3,n4,n5⟩:=HD.nodup h.dist
 have lw:=fun id (p:d.W id)=>h.w id p
 have xw:∀id,(X id∨PX id)→id<H.n∧¬d.W id:=fun id p=>p.elim (fun p=>⟨h.sx id p,h.out id p⟩) (hPX id)
 have xk:∀id,(X id∨PX id)→H1.m id=H.m id:=fun id p=>keep id (xw id p).1 (fun e=>(xw id p).2 (e ▸ l1)) (fun e=>(xw id p).2 (e ▸ l3)) (fun e=>(xw id p).2 (e ▸ l4)) (fun e=>(xw id p).2 (e ▸ l5))
 have k2:H1.m d.sid=H.m d.sid:=keep _ (lw _ l2) n1.1.symm n2.1 n2.2.1 n2.2.2
 obtain⟨e1,e2⟩:=hc
 refine⟨fun id=>X id∨PX id,d,⟨fun id p=>.inr (.inl p),⟨.inl l1,hh⟩,?_,⟨.inl l3,gcs,hg,gl,hgc.mv xk (fun _ p=>p)⟩,⟨.inl l4,hb⟩,⟨.inl l5,hn⟩,?_,h.dist,fun id p=>(xw id p).2⟩,rfl,fun id p=>.inl p,fun id p=>.inl p⟩
 ·rw[e1]
  exact h.seats.mv ⟨.inl l2,k2⟩ (fun id p=>xk id (.inl p)) (fun id p=>.inl p)
 ·rw[e2]
  exact h.wire.mv (fun i q e=>⟨.inl (l6 i q e),keep _ (lw _ (l6 i q e)) (n5 i q e).1 (n5 i q e).2.2.1 (n5 i q e).2.2.2.1 (n5 i q e).2.2.2.2⟩) (fun id p=>xk id (.inl p)) (fun id p=>.inl p)
theorem Hl.reHall {t:HT} {pre post:List Value} {X:Ids} {d:HD} {c c':Cer} {H H1:AH} (h:Hl t pre post (Low H.n) H X d c) (hc:c'.seats=c.seats∧c'.got=c.got∧c'.has=c.has∧c'.named=c.named∧c'.wire=c.wire)
  (keep:∀id,id<H.n→id≠d.hid→H1.m id=H.m id) (hh:H1.m d.hid=some ⟨t.h,true,d.cells pre post c'⟩):HlPost t pre post X d c' H.n H1:=by
 obtain⟨l1,l2,l3,l4,l5,l6⟩:=HD.Win (d:=d)
 obtain⟨n1,n2,n3,n4,n5⟩:=HD.nodup h.dist
 have lw:=fun id (p:d.W id)=>h.w id p
 have xk:∀id,X id→H1.m id=H.m id:=fun id p=>keep id (h.sx id p) (fun e=>h.out id p (e ▸ l1))
 obtain⟨e1,e2,e3,e4,e5⟩:=hc
 refine⟨X,d,⟨fun id p=>.inr (.inl p),⟨.inl l1,hh⟩,?_,?_,?_,?_,?_,h.dist,h.out⟩,rfl,fun id p=>.inl p,fun id p=>.inl p⟩
 ·rw[e1];exact h.seats.mv ⟨.inl l2,keep _ (lw _ l2) n1.1.symm⟩ xk (fun _ p=>p)
 ·rw[e2];exact h.got.mv ⟨.inl l3,keep _ (lw _ l3) n1.2.1.symm⟩ xk (fun _ p=>p)
 ·rw[e3];exact h.has.mv ⟨.inl l4,keep _ (lw _ l4) n1.2.2.1.symm⟩
 ·rw[e4];exact h.named.mv ⟨.inl l5,keep _ (lw _ l5) n1.2.2.2.symm⟩
 ·rw[e5];exact h.wire.mv (fun i q e=>⟨.inl (l6 i q e),keep _ (lw _ (l6 i q e)) (n5 i q e).1⟩) xk (fun _ p=>p)
theorem HlPost.weak {t:HT} {pre post:List Value} {X X':Ids} {d:HD} {c:Cer} {n:Nat} {H1:AH} (h:HlPost t pre post X d c n H1) (hX:∀id,X id→X' id):HlPost t pre post X' d c n H1:=by
 obtain⟨Y,d',h1,h2,h3,h4⟩:=h
 exact⟨Y,d',h1.mv (fun id hid=>⟨(hid.elim (h1.w id) (h1.sx id)).imp (fun p=>p) (fun p=>p.imp (hX id) (fun p=>p)),rfl⟩),h2,fun id p=>(h3 id p).imp (hX id) (fun p=>p),h4⟩
theorem KW.idT {P:Program} {S:Ids} {H0:AH} {Q:PostC} {k:List It} {e:Env} {T T':List Var} {n:Nat} (h:T=T') (hk:KW P S H0 Q n T' k e):KW P S H0 Q n T k e:=h ▸ hk
theorem SpecW.of0L {P:Program} {S:Ids} {H0:AH} (Z:List Nat) {W:Ids} {f:FuncId} {fn:Func} {c:Code} {args:List Value} {post:Nat→Value→AH→Prop} (hf:P.funcs[f]?=some fn) (hb:fn.body=some c) (hok:fnOk fn=true) (hst:stC (relab Z c)=true) (hs:Nat.ble args.length fn.ntmps=true)
  (h:∀H,Fin' H→Fz S H0 H→KW P (Low H.n) H (Fin1 P fn (fun v H1=>H.n≤H1.n∧(∀id,id<H.n→¬W id→H1.m id=H.m id)∧Fin' H1∧post H.n v H1)) H.n [] [.code (relab Z c)] (fun t=>args.getD t undef)):SpecW P S H0 W f args post:=by
 intro H hfin hfz
 refine Run.of hf hb hok (by simpa using Nat.le_of_ble_eq_true hs) ?_
 rw[envL_eq]
 exact((h H hfin hfz).wc hst (Good.start hfin)).relab
theorem splice_one {l:List Value} {k:Nat} {v:Value} (h:k<l.length):splice l k [v]=l.set k v:=by
 simp only[splice]
 rw[List.set_eq_take_append_cons_drop,if_pos h]
 simp
theorem sl_mk {α:Type} {d:Kn α} {S S':Ids} {A A':AH} {v:Value} {xs:List α} (h:d.Sl S A v xs) (hA:∀id,S id→S' id∧A'.m id=A.m id):d.Sl S' A' v xs:=Kn.Sl.more (fun id p=>(hA id p).1) (Kn.Sl.same (fun id p=>(hA id p).2) h)
theorem HlPost.lift {t:HT} {pre post:List Value} {X X2:Ids} {d d2:HD} {c:Cer} {n n2:Nat} {H1:AH} (h:HlPost t pre post X2 d2 c n2 H1) (hn:n≤n2) (hn2:n2≤H1.n) (hh:d2.hid=d.hid) (hX:∀id,X2 id→X id∨New n n2 id) (hd:∀id,d2.W id→d.W id∨New n n2 id):HlPost t pre post X d c n H1:=by
 obtain⟨Y,d',h1,h2,h3,h4⟩:=h
 have nw:∀id,New n n2 id→New n H1.n id:=fun id p=>⟨p.1,by have:=p.2;omega⟩
 have nw2:∀id,New n2 H1.n id→New n H1.n id:=fun id p=>⟨by have:=p.1;omega,p.2⟩
 have big:∀id,(d2.W id∨X2 id∨New n2 H1.n id)→d.W id∨X id∨New n H1.n id:=fun id p=>by
  rcases p with p | p | p
  ·exact(hd id p).imp (fun p=>p) (fun p=>.inr (nw id p))
  ·exact .inr ((hX id p).imp (fun p=>p) (nw id))
  ·exact .inr (.inr (nw2 id p))
 refine⟨Y,d',h1.mv (fun id hid=>⟨big id (hid.elim (h1.w id) (h1.sx id)),rfl⟩),h2.trans hh,fun id p=>?_,fun id p=>?_⟩
 ·rcases h3 id p with p | p
  ·exact(hX id p).imp (fun p=>p) (nw id)
  ·exact .inr (nw2 id p)
 ·rcases h4 id p with p | p
  ·exact(hd id p).imp (fun p=>p) (nw id)
  ·exact .inr (nw2 id p)
theorem HlRes.lift {t:HT} {pre post:List Value} {X X2:Ids} {d d2:HD} {r:Cer × Int} {n n2:Nat} {v:Value} {H1:AH} (h:HlRes t pre post X2 d2 r n2 v H1) (hn:n≤n2) (hn2:n2≤H1.n) (hh:d2.hid=d.hid) (hX:∀id,X2 id→X id∨New n n2 id) (hd:∀id,d2.W id→d.W id∨New n n2 id):HlRes t pre post X d r n v H1:=
 ⟨h.1,h.2.lift hn hn2 hh hX hd⟩
theorem bload_seg {P:Program} {b:Blk} {t:TypeId} {k:Nat} {ps:List Value} {fs:Array Field} {i:TypeInfo} (hu:P.underlying t=some (.struct fs)) (hi:P.info? t=some i) (hs:i.size=ps.length) (hk:k+ps.length≤b.cells.length) (h:(b.cells.drop k).take ps.length=ps):bload P b t k=some (.agg ps.toArray):=by
 unfold bload
 simp only[hu,hi]
 rw[if_pos (by omega),hs,h]
theorem HlPost.mem {t:HT} {pre post:List Value} {X:Ids} {d:HD} {c:Cer} {n:Nat} {H5 H1:AH} (h:HlPost t pre post X d c n H5) (hA:∀id,(d.W id∨X id∨New n H5.n id)→H1.m id=H5.m id) (hn:H5.n≤H1.n):HlPost t pre post X d c n H1:=by
 obtain⟨Y,d',h1,h2,h3,h4⟩:=h
 have nw:∀id,New n H5.n id→New n H1.n id:=fun id p=>⟨p.1,by have:=p.2;omega⟩
 refine⟨Y,d',h1.mv (fun id hid=>?_),h2,fun id p=>(h3 id p).imp (fun p=>p) (nw id),fun id p=>(h4 id p).imp (fun p=>p) (nw id)⟩
 have hs:=hid.elim (h1.w id) (h1.sx id)
 exact⟨hs.imp (fun p=>p) (fun p=>p.imp (fun p=>p) (nw id)),hA id hs⟩
section
variable {S:Ids} {H0:AH} {X PX:Ids} {d:HD} {c:Cer} {post:List Value}
theorem implPost {p:T_Packet} {pcs:List Value} (h:Hl HTI [] post S H0 X d c) (hp:K_Packet.R PX H0 p pcs) (hPX:∀id,PX id→S id∧¬d.W id) (hw:c.wire.length≤12):
  SpecW Tryz.prog S H0 d.W 210 [.pointer (some ⟨d.hid,0,none⟩),.agg pcs.toArray] (HlRes HTI [] post (fun id=>X id∨PX id) d (send c p)):=by
 obtain⟨pa1,pc1,pa2,pc2,rfl,hp1,hp2⟩:=split_Packet hp
 refine SpecW.of0 Tryz.func210 rfl (by kernel_rfl) rfl (fun H hfin hfz=>?_)
 haveI o:On S H0 (Low H.n) H:=⟨fun id hs=>⟨(hfz id hs).1,(hfz id hs).2⟩⟩
 have h:=h.on (S':=Low H.n) (A':=H)
 have hp:K_Packet.R PX H p _:=K_Packet.same (fun id hid=>(hfz id (hPX id hid).1).2) hp
 have hPX:∀id,PX id→id<H.n∧¬d.W id:=fun id hid=>⟨(hfz id (hPX id hid).1).1,(hPX id hid).2⟩
 obtain⟨hid,sid,gid,bid,nid,w⟩:=d
 have hc:=h.cellsH
 have hh:=h.hall
 have hwi:=h.wire
 have lh:hid<H.n:=hh.1
 by_cases hf:c.wire.length=12
 ·rw[send_full hf]
  cases w with
  | none=>have e:c.wire=[]:=hwi;rw[e] at hf;cases hf
  | some iq=>
   obtain⟨i,q⟩:=iq
   refine KW.ldF 6 hc U U U U U U U U U ?_
   refine KW.yes U U (by omega) ?_
   exact KW.retW U U U U (fun H1 g=>by have:=g.n_;omega) (fun id hid _=>⟨hid,rfl⟩) (fun H1 g=>⟨rfl,HlPost.same h (fun id p=>.inl p) (fun id hid=>(g.froz id hid).2)⟩)
 ·rw[send_ok hf]
  cases w with
  | none=>
   have e:c.wire=[]:=hwi
   refine KW.ldF 6 hc U U U U U U U U U ?_
   refine KW.no U U (by omega) ?_
   refine KW.thaw hid _ hh.1 hh.2 ?_
   refine KW.ldT 1 U U U U U U U ?_
   refine KW.litS1 U U U U U U U U U U U U ?_
   refine KW.appNS U U U U U U U (by decide) rfl (fun H1 g=>acells_seg (g.blk (j:=2) rfl).1 (by show 0+1*5≤5;decide)) rfl (by decide) (by decide) (by decide) ?_
   refine KW.st1 1 U U U U U U U U U U U U (by show 6<([_,_,_,_,_,_,_]++post).length;simp) ?_
   refine KW.retW U U U U (fun H1 g=>by have:=g.n_;omega) (fun id hid hw=>⟨⟨hid,fun e=>hw (e ▸ HD.Win.1)⟩,rfl⟩) (fun H1 g=>⟨rfl,?_⟩)
   have hn:=g.n_
   refine h.reWire hPX (i:=H.n+2) (q:=1) (by omega) (.inl ⟨by omega,by omega⟩) (fun id h1 h2 _=>(g.froz id ⟨h1,h2⟩).2) 1 (by rw[e];rfl) (g.blk (j:=1) rfl).1 (g.blk (j:=3) rfl).1 (by rw[e];exact Cl.one ((K_Packet).more (fun id p=>.inr p) hp)) (by rw[e];simp)
  | some iq=>
   obtain⟨i,q⟩:=iq
   obtain⟨hi1,hq,wcs,hi2,hcl⟩:=hwi
   have li:i<H.n:=hi1
   obtain⟨n1,n2,n3,n4,n5⟩:=HD.nodup h.dist
   have nh:i≠hid:=(n5 i q rfl).1
   refine KW.ldF 6 hc U U U U U U U U U ?_
   refine KW.no U U (by omega) ?_
   refine KW.thaw hid _ hh.1 hh.2 ?_
   refine KW.thaw i _ ⟨hi1,nh⟩ hi2 ?_
   refine KW.ldT 1 U U U U U U U ?_
   refine KW.litS1 U U U U U U U U U U U U ?_
   refine KW.appTS 2 U U U U U U U U (by decide) rfl (fun H1 g=>acells_seg (g.blk (j:=3) rfl).1 (by show 0+1*5≤5;decide)) (by have:=hcl.1;show 0+c.wire.length*5≤wcs.length;have:c.wire.length*5≤wcs.length:=this;omega) rfl (by decide) (by show(c.wire.length+1)*72≤_;omega) (by omega) ?_
   refine KW.st1 1 U U U U U U U U U U U U (by show 6<([_,_,_,_,_,_,_]++post).length;simp) ?_
   refine KW.retW U U U U (fun H1 g=>by have:=g.n_;omega) (fun id hid hw=>⟨⟨⟨hid,fun e=>hw (e ▸ HD.Win.1)⟩,fun e=>hw (by rw[e];exact HD.Win.2.2.2.2.2 i q rfl)⟩,rfl⟩) (fun H1 g=>⟨rfl,?_⟩)
   have hn:=g.n_
   refine h.reWire hPX (i:=H.n+2) (q:=c.wire.length+1) (by omega) (.inl ⟨by omega,by omega⟩) (fun id h1 h2 h3=>(g.froz id ⟨⟨h1,h2⟩,h3 i q rfl⟩).2) (c.wire.length+1) (by simp) (g.blk (j:=1) rfl).1 (g.blk (j:=2) rfl).1 (Cl.snoc (hcl.mv (fun _ _=>rfl) (fun id p=>.inl p)) ((K_Packet).more (fun id p=>.inr p) hp)) (by simp)
end
section
variable {S:Ids} {H0:AH}
end
noncomputable def passN (x:T_Deal) (e j:Int) (n:Nat):List Int:=rowsP (fun i=>tv (tagsD x e j (lieOf x.1.2.2.1 (valsD x e j) (i:Int))=tagsD x e j (valsD x e j))) n
section
variable {S:Ids} {H0:AH}
end
theorem built_Purse (a:Int) (o1 o2:Option Addr) (n1 c1 n2 c2:Nat):Tryz.prog.built 49 [(0,.int .i64 a),(1,.slice o1 n1 c1),(2,.slice o2 n2 c2)]=some #[.int .i64 a,.slice o1 n1 c1,.slice o2 n2 c2]:=by kernel_rfl
theorem T5 {i0 i1 i2 i3 i4:Nat} {a b b' c c' d d' e e':Blk} (h1:b=b') (h2:c=c') (h3:d=d') (h4:e=e'):([(i0,a),(i1,b),(i2,c),(i3,d),(i4,e)]:List Var)=[(i0,a),(i1,b'),(i2,c'),(i3,d'),(i4,e')]:=by subst h1 h2 h3 h4;rfl
theorem bcong {ty:TypeId} {r:Bool} {a b:List Value} (h:a=b):(⟨ty,r,a⟩:Blk)=⟨ty,r,b⟩:=by rw[h]
theorem bstore_one {P:Program} {b:Blk} {t:TypeId} {k:Nat} {v:Value} {i:TypeInfo} (hi:P.info? t=some i) (hs:i.size=1) (hv:v.cells=#[v]) (h1:v.oneCell'=true) (hrw:b.rw=true) (hlt:k<b.cells.length):bstore P b t k v=some ⟨b.ty,true,b.cells.set k v⟩:=by
 unfold bstore
 simp only[hi,hs,hv]
 rw[if_pos ⟨hrw,rfl,by omega,by simp[h1]⟩]
 congr 2
 simp only[splice]
 rw[List.set_eq_take_append_cons_drop,if_pos hlt]
 simp
theorem zarr_all {z:Value} (hz:z.cells=#[z]) (h1:z.oneCell'=true) (m:Nat):(zarr z m).all Value.oneCell'=true:=by
 rw[zarr_one z hz]
 exact Array.all_eq_true_iff_forall_mem.2 (fun x hx=>by have e:=List.eq_of_mem_replicate (show x∈List.replicate m z by simpa using hx);rw[e];exact h1)
theorem splice_all {l ys:List Value} (h:ys.length=l.length):splice l 0 ys=ys:=by
 unfold splice
 simp[h]
theorem Cl.repN (X:Ids) (A:AH) (n:Nat):Cl KI.sl X A (List.replicate n ([]:List Int)) (List.replicate n (.slice none 0 0)):=by
 refine⟨by simp[Kn.sl],fun i x hx=>?_⟩
 have hi:=(List.getElem?_eq_some_iff.1 hx).1
 rw[List.length_replicate] at hi
 obtain rfl:=List.eq_of_mem_replicate (List.mem_of_getElem? hx)
 refine⟨.slice none 0 0,?_,.inl ⟨rfl,none,0,rfl,fun _=>rfl⟩⟩
 show((List.replicate n (Value.slice none 0 0)).drop (i*1)).take 1=_
 rw[List.take_one,Nat.mul_one,List.head?_drop,List.getElem?_replicate,if_pos hi]
 rfl
section
variable {S:Ids} {H0:AH} {X PX D:Ids} {d:HD} {c:Cer} {dcs:List Value} {x:T_Deal}
theorem implCome {p:T_Packet} {pcs:List Value} (hd:DealOk x) (hB:B_Deal x) (hok:CerOk x c) (hpk:PkOk x p) (h:Hl HTI [] dcs S H0 X d c) (hD:K_Deal.R D H0 x dcs) (hDD:∀id,D id→S id∧¬d.W id) (hp:K_Packet.R PX H0 p pcs) (hPX:∀id,PX id→S id∧¬d.W id):
  SpecW Tryz.prog S H0 d.W 208 [.pointer (some ⟨d.hid,0,none⟩),.agg pcs.toArray] (fun n v H1=>HlPost HTI [] dcs (fun id=>X id∨PX id) d (come x c p) n H1):=by
 obtain⟨pa1,pc1,pa2,pc2,rfl,hp1,hp2⟩:=split_Packet hp
 obtain⟨pb,ph,pe,pv,pt⟩:=p
 simp only at hp1 hp2 ⊢
 refine SpecW.of0L [12] Tryz.func208 rfl (by kernel_rfl) (by kernel_rfl) rfl (fun H hfin hfz=>?_)
 haveI o:On S H0 (Low H.n) H:=⟨fun id hs=>⟨(hfz id hs).1,(hfz id hs).2⟩⟩
 have h:=h.on (S':=Low H.n) (A':=H)
 have hp1:KI.Sl PX H _ _:=Kn.Sl.same (fun id hid=>(hfz id (hPX id hid).1).2) hp1
 have hp2:KI.Sl PX H _ _:=Kn.Sl.same (fun id hid=>(hfz id (hPX id hid).1).2) hp2
 have hD:K_Deal.R D H x dcs:=K_Deal.same (fun id hid=>(hfz id (hDD id hid).1).2) hD
 have hPX:∀id,PX id→id<H.n∧¬d.W id:=fun id hid=>⟨(hfz id (hPX id hid).1).1,(hPX id hid).2⟩
 have hDD:∀id,D id→id<H.n∧¬d.W id:=fun id hid=>⟨(hfz id (hDD id hid).1).1,(hDD id hid).2⟩
 obtain⟨hid,sid,gid,bid,nid,w⟩:=d
 have hc:=h.cellsH
 have hh:=h.hall
 obtain⟨hs0,scs,hs1,hscl⟩:=h.seats
 obtain⟨hg0,gcs,hg1,hgl,hgcl⟩:=h.got
 obtain⟨hb0,hb1⟩:=h.has
 obtain⟨hn0,hn1⟩:=h.named
 obtain⟨n1,n2,n3,n4,n5⟩:=HD.nodup h.dist
 simp only at n1 n2 n3 n4 n5 hs0 hs1 hg0 hg1 hb0 hb1 hn0 hn1
 have hho:0≤ph∧ph<x.1.1:=hpk.ho
 have hsl:=hok.sl
 cases pb with
 | false=>
  have ecome:come x c (false,ph,pe,pv,pt)=comeS c (false,ph,pe,pv,pt):=rfl
  rw[ecome]
  obtain⟨hse,hsok⟩:=hok.seat hpk.ho
  simp only at hse
  obtain⟨s,hs⟩:∃s,c.seat ph=s:=⟨_,rfl⟩
  have ecS:comeS c (false,ph,pe,pv,pt)=if s.1.1<pe then⟨c.ep,c.seats.set ph.toNat ((pe,pv,pt),s.2),c.oe,c.got,c.has,c.named,c.wire⟩ else c:=by unfold comeS;rw[← hs]
  rw[ecS]
  rw[hs] at hse
  have hR:=hscl.2 _ _ hse
  obtain⟨ps,qs,hseg,hR1,hR2⟩:=split_Seat hR
  obtain⟨b1,e1,b2,e2,rfl,hR3,hR4⟩:=split_Purse hR1
  have f0:scs[0+ph.toNat*7]?=some (.int .i64 s.1.1):=by
   have:=seg_at (q:=0) hseg rfl
   rw[Nat.zero_add];exact this
  refine KW.cT U U (by first | (simp;done) | decide) ?_
  refine KW.ldF 1 hc U U U U U U U U U ?_
  refine KW.idx0 U U U U U U U U U (by omega) (by omega) ?_
  refine KW.ldC hs0 hs1 f0 U U U U U U U ?_
  refine KW.cnd U U (fun k1=>?_) (fun k1=>?_)
  ·have k1:pe>s.1.1:=k1
   rw[if_pos (show s.1.1<pe by omega)]
   refine KW.build U U U U U (built_Purse _ _ _ _ _ _ _) ?_
   refine KW.thaw sid _ hs0 hs1 ?_
   have hle:ph.toNat*7+7≤scs.length:=by have:=hscl.1;have h2:=mul_le' (e:=7) (List.getElem?_eq_some_iff.1 hse).1;have:c.seats.length*7≤scs.length:=this;omega
   refine KW.stB 1 U U U U U U (bstore_agg U U U (by show 0+ph.toNat*7+3≤scs.length;omega) rfl) ?_
   refine KW.retW U U U U (fun H1 g=>by have:=g.n_;omega) (fun id hid hw=>⟨⟨hid,fun e=>hw (by rw[e];exact HD.Win.2.1)⟩,rfl⟩) (fun H1 g=>?_)
   have hnew:=(g.blk (j:=1) rfl).1
   have hcl:=hscl.part (y:=((pe,pv,pt),s.2)) (a:=[]) (b:=[.int .i64 s.1.1,.slice b1 s.1.2.1.length e1,.slice b2 s.1.2.2.length e2]) (r:=qs++[.int .i64 s.2.2]) (b':=[.int .i64 pe,.slice pa1 pv.length pc1,.slice pa2 pt.length pc2]) (X':=fun id=>X id∨PX id) hse hseg rfl (fun id p=>.inl p) (show K_Seat.R (fun id=>X id∨PX id) H ((pe,pv,pt),s.2) ([.int .i64 pe,.slice pa1 pv.length pc1,.slice pa2 pt.length pc2]++(qs++[.int .i64 s.2.2])) from mk_Seat (x:=((pe,pv,pt),s.2)) (mk_Purse (x:=(pe,pv,pt)) (hp1.more (fun id p=>.inr p)) (hp2.more (fun id p=>.inr p))) (K_Purse.more (fun id p=>.inl p) hR2))
   have e0:0+ph.toNat*7=ph.toNat*K_Seat.es+([]:List Value).length:=by show 0+ph.toNat*7=ph.toNat*7+0;omega
   refine h.reSeats (fun id p=>⟨(hPX id p).1,(hPX id p).2⟩) (by simp) (fun id h1 h2=>(g.froz id ⟨h1,h2⟩).2) (cs:=splice scs (ph.toNat*K_Seat.es+([]:List Value).length) _) ?_ hcl.1
   rw[← e0]
   exact hnew
  ·have k1:¬pe>s.1.1:=k1
   rw[if_neg (show ¬s.1.1<pe by omega)]
   exact KW.retW U U U U (fun H1 g=>by have:=g.n_;omega) (fun id hid _=>⟨hid,rfl⟩) (fun H1 g=>HlPost.same h (fun id p=>.inl p) (fun id hid=>(g.froz id hid).2))
 | true=>
  have ecome:come x c (true,ph,pe,pv,pt)=comeO x (fresh c pe) (true,ph,pe,pv,pt):=rfl
  rw[ecome]
  obtain⟨d1,d2,d3,d4,d5,d6,d7,d8,rfl⟩:=form_Deal hD
  obtain⟨E,J,hat⟩:=HoOk.at hd hpk.ho hpk.ep
  have hvl:=hpk.rw.vl
  have hve:=hpk.rw.ve
  have hrl:=rowsOf_len x.1.2.1 ph
  have hol:x.1.2.1.length≤1048576:=hB.1.2.1
  have hpt:pt.length≤1048576:=by have:pt.length=(rowsOf x.1.2.1 ph).length:=hpk.rw.tl;omega
  have hpv:pv.length=(rowsOf x.1.2.1 ph).length:=hvl
  have gl1:c.got.length=c.seats.length:=hok.gl
  have hl1:c.has.length=c.seats.length:=hok.hl
  have nl1:c.named.length=c.seats.length:=hok.nl
  refine KW.cF U U (by first | (simp;done) | decide) ?_
  refine KW.thaw hid _ hh.1 hh.2 ?_
  refine KW.thaw gid _ ⟨hg0,n1.2.1.symm⟩ hg1 ?_
  refine KW.thaw bid _ ⟨⟨hb0,n1.2.2.1.symm⟩,n3.1.symm⟩ hb1 ?_
  refine KW.thaw nid _ ⟨⟨⟨hn0,n1.2.2.2.symm⟩,n3.2.symm⟩,n4.symm⟩ hn1 ?_
  obtain⟨TH,hTH⟩:∃TH:Cer→List Value→List Var,TH=fun c1 gcs1=>[(H.n,⟨197,true,[.bool true,.int .i64 ph,.int .i64 pe,.slice pa1 pv.length pc1,.slice pa2 pt.length pc2]⟩),(hid,⟨118,true,HD.cells ⟨hid,sid,gid,bid,nid,w⟩ [] [.int .i64 x.1.1,.slice d1 x.1.2.1.length d2,.int .i64 x.1.2.2.1,.int .i64 x.1.2.2.2.1,.slice d3 x.1.2.2.2.2.length d4,.int .i64 x.2.1,.slice d5 x.2.2.1.length d6,.slice d7 x.2.2.2.length d8] c1⟩),(gid,⟨24,true,gcs1⟩),(bid,⟨4,true,c1.has.map Value.bool⟩),(nid,⟨4,true,c1.named.map Value.bool⟩)]:=⟨_,rfl⟩
  refine KW.ldT 1 U U U U U U U ?_
  refine KW.cnd U U (fun k1=>?ga) (fun k1=>?gb)
  case' ga=>
   have k1:pe>c.oe:=k1
   refine KW.st1 1 U U U U U U U U U U U U (by show 2<([_,_,_,_,_,_,_]++_).length;simp) ?_
   refine KW.ldT 1 U U U U U U U ?_
   refine KW.clr 2 U U U U U U U U U U U (by omega) (by show 0+c.got.length*1≤gcs.length;omega) (zarr_all U U _) ?_
   refine KW.ldT 1 U U U U U U U ?_
   refine KW.clr 3 U U U U U U U U U U U (by omega) (by show 0+c.has.length*1≤(c.has.map Value.bool).length;simp) (zarr_all U U _) ?_
   obtain⟨c1,hc1⟩:∃c1,fresh c pe=c1:=⟨_,rfl⟩
   have ec1:c1=⟨c.ep,c.seats,pe,List.replicate c.got.length [],List.replicate c.has.length false,c.named,c.wire⟩:=by rw[← hc1];unfold fresh;rw[if_pos (show c.oe<pe by omega)]
   obtain⟨gcs1,hgc1⟩:∃gcs1:List Value,gcs1=List.replicate c.got.length (.slice none 0 0):=⟨_,rfl⟩
   have hcl1:Cl KI.sl X H c1.got gcs1:=by rw[hgc1,ec1];exact Cl.repN X H _
   have hgl1:gcs1.length=c1.got.length:=by rw[hgc1,ec1];simp
   have z1:splice gcs 0 (zarr (.slice none 0 0) (c.got.length*1)).toList=gcs1:=by rw[zarr_one _ rfl,hgc1,Nat.mul_one];exact splice_all (by simp[hgl])
   have z2:splice (c.has.map Value.bool) 0 (zarr (.bool false) (c.has.length*1)).toList=c1.has.map Value.bool:=by rw[zarr_one _ rfl,ec1,Nat.mul_one,List.map_replicate];exact splice_all (by simp)
   refine KW.idT (T':=TH c1 gcs1) (by
    rw[hTH]
    refine T5 (bcong ?_) (bcong z1) (bcong z2) (bcong ?_)
    ·rw[ec1]
     simp only[HD.cells,List.length_replicate]
     rfl
    ·rw[ec1]) ?_
  case' gb=>
   have k1:¬pe>c.oe:=k1
   obtain⟨c1,hc1⟩:∃c1,fresh c pe=c1:=⟨_,rfl⟩
   have ec1:c1=c:=by rw[← hc1];unfold fresh;rw[if_neg (show ¬c.oe<pe by omega)]
   obtain⟨gcs1,hgc1⟩:∃gcs1:List Value,gcs1=gcs:=⟨_,rfl⟩
   have hcl1:Cl KI.sl X H c1.got gcs1:=by rw[hgc1,ec1];exact hgcl
   have hgl1:gcs1.length=c1.got.length:=by rw[hgc1,ec1];exact hgl
   refine KW.idT (T':=TH c1 gcs1) (by rw[hTH,ec1,hgc1]) ?_
  all_goals
   subst hTH
   rw[hc1]
   have hok1:CerOk x c1:=by rw[← hc1];exact hok.fresh hpk.ep
   have hsw:c1.seats=c.seats∧c1.wire=c.wire:=by rw[ec1];exact⟨rfl,rfl⟩
   have gl2:c1.got.length=c1.seats.length:=hok1.gl
   have hl2:c1.has.length=c1.seats.length:=hok1.hl
   have nl2:c1.named.length=c1.seats.length:=hok1.nl
   have sl2:=hok1.sl
   refine KW.ldT 1 U U U U U U U ?_
   have low:∀id,id<H.n→¬HD.W ⟨hid,sid,gid,bid,nid,w⟩ id→((((Low H.n id∧id≠hid)∧id≠gid)∧id≠bid)∧id≠nid):=fun id h1 hw=>⟨⟨⟨⟨h1,fun e=>hw (by rw[e];exact HD.Win.1)⟩,fun e=>hw (by rw[e];exact HD.Win.2.2.1)⟩,fun e=>hw (by rw[e];exact HD.Win.2.2.2.1)⟩,fun e=>hw (by rw[e];exact HD.Win.2.2.2.2.1)⟩
   have same:comeO x c1 (true,ph,pe,pv,pt)=c1→∀{n:Nat} {H1:AH},Good (fun id=>(((Low H.n id∧id≠hid)∧id≠gid)∧id≠bid)∧id≠nid) H ([(H.n,⟨197,true,[.bool true,.int .i64 ph,.int .i64 pe,.slice pa1 pv.length pc1,.slice pa2 pt.length pc2]⟩),(hid,⟨118,true,HD.cells ⟨hid,sid,gid,bid,nid,w⟩ [] [.int .i64 x.1.1,.slice d1 x.1.2.1.length d2,.int .i64 x.1.2.2.1,.int .i64 x.1.2.2.2.1,.slice d3 x.1.2.2.2.2.length d4,.int .i64 x.2.1,.slice d5 x.2.2.1.length d6,.slice d7 x.2.2.2.length d8] c1⟩),(gid,⟨24,true,gcs1⟩),(bid,⟨4,true,c1.has.map Value.bool⟩),(nid,⟨4,true,c1.named.map Value.bool⟩)]) n H1→HlPost HTI [] _ (fun id=>X id∨PX id) ⟨hid,sid,gid,bid,nid,w⟩ (comeO x c1 (true,ph,pe,pv,pt)) H.n H1:=fun e n H1 g=>by
    rw[e]
    exact h.reOpen hPX hsw (fun id h1 h2 h3 h4 h5=>(g.froz id ⟨⟨⟨⟨h1,h2⟩,h3⟩,h4⟩,h5⟩).2) (g.blk (j:=1) rfl).1 (g.blk (j:=2) rfl).1 hgl1 (hcl1.mv (fun _ _=>rfl) (fun id p=>.inl p)) (g.blk (j:=3) rfl).1 (g.blk (j:=4) rfl).1
   have noO:¬(pe=c1.oe∧c1.named.getD ph.toNat false=false∧c1.has.getD ph.toNat false=false)→comeO x c1 (true,ph,pe,pv,pt)=c1:=fun hx=>by unfold comeO;rw[if_neg hx]
   refine KW.tstB U U (fun k2=>?_) (fun k2=>?_)
   ·have k2:¬pe=c1.oe:=by simpa using k2
    repeat first | refine KW.tT U U U ?_ | refine KW.tF U U U ?_
    refine KW.cT U U (by first | (simp;done) | decide) ?_
    exact KW.retW U U U U (fun H1 g=>by have:=g.n_;omega) (fun id h1 hw=>⟨low id h1 hw,rfl⟩) (fun H1 g=>same (noO fun hx=>k2 hx.1) g)
   have k2:pe=c1.oe:=by simpa using k2
   refine KW.ldT 1 U U U U U U U ?_
   refine KW.idx0 U U U U U U U U U (by omega) (by omega) ?_
   refine KW.ldB 4 (ph.toNat) U U U U U U U U (by omega) (by omega) ?_
   refine KW.tstB U U (fun k3=>?_) (fun k3=>?_)
   ·have k3:c1.named.getD ph.toNat false=true:=k3
    repeat first | refine KW.tT U U U ?_ | refine KW.tF U U U ?_
    refine KW.cT U U (by first | (simp;done) | decide) ?_
    exact KW.retW U U U U (fun H1 g=>by have:=g.n_;omega) (fun id h1 hw=>⟨low id h1 hw,rfl⟩) (fun H1 g=>same (noO fun hx=>by rw[hx.2.1] at k3;cases k3) g)
   have k3:c1.named.getD ph.toNat false=false:=k3
   refine KW.ldT 1 U U U U U U U ?_
   refine KW.idx0 U U U U U U U U U (by omega) (by omega) ?_
   refine KW.ldB 3 (ph.toNat) U U U U U U U U (by omega) (by omega) ?_
   refine KW.cndB U U (fun k4=>?_) (fun k4=>?_)
   ·have k4:c1.has.getD ph.toNat false=true:=k4
    exact KW.retW U U U U (fun H1 g=>by have:=g.n_;omega) (fun id h1 hw=>⟨low id h1 hw,rfl⟩) (fun H1 g=>same (noO fun hx=>by rw[hx.2.2] at k4;cases k4) g)
   have k4:c1.has.getD ph.toNat false=false:=k4
   refine KW.ldT 1 U U U U U U U ?_
   have hDS:K_Deal.R (fun id=>(((Low H.n id∧id≠hid)∧id≠gid)∧id≠bid)∧id≠nid) H x _:=K_Deal.more (fun id p=>low id (hDD id p).1 (hDD id p).2) hD
   have hq1:KI.Sl (fun id=>(((Low H.n id∧id≠hid)∧id≠gid)∧id≠bid)∧id≠nid) H _ _:=hp1.more (fun id p=>low id (hPX id p).1 (hPX id p).2)
   have hq2:KI.Sl (fun id=>(((Low H.n id∧id≠hid)∧id≠gid)∧id≠bid)∧id≠nid) H _ _:=hp2.more (fun id p=>low id (hPX id p).1 (hPX id p).2)
   refine KW.callN1 U U U U U (tagsDD x pe ph hat hB hDS hpv hve hq1) (fun v H2 S2 m2 _ _ hv=>?_)
   obtain⟨a9,q9,rfl,hT⟩:=hv
   have htl:(tagsD x pe ph pv).length≤1048576:=by simp only[tagsD,tagsOf,List.length_map,List.length_range];omega
   refine KW.callE U U U U U (equalI htl hT.ups hq2.up) (fun _ _=>?_)
   have eO:comeO x c1 (true,ph,pe,pv,pt)=if tv (tagsD x pe ph pv=pt)=true then⟨c1.ep,c1.seats,c1.oe,c1.got.set ph.toNat pv,c1.has.set ph.toNat true,c1.named,c1.wire⟩ else⟨c1.ep,c1.seats,c1.oe,c1.got,c1.has,c1.named.set ph.toNat true,c1.wire⟩:=by unfold comeO;rw[if_pos ⟨k2,k3,k4⟩]
   by_cases k5:tagsD x pe ph pv=pt
   ·rw[tv_true k5]
    rw[tv_true k5,if_pos rfl] at eO
    rw[eO]
    refine KW.cT U U (by first | (simp;done) | decide) ?_
    refine KW.ldT 1 U U U U U U U ?_
    refine KW.ldT 1 U U U U U U U ?_
    refine KW.idx0 U U U U U U U U U (by omega) (by omega) ?_
    refine KW.stZ 2 U U U U U U (bstore_one U U U U U (by show 0+ph.toNat*1<gcs1.length;omega)) (by repeat (first | exact trivial | refine⟨(by first | exact .inl ⟨1,_,_,_,_,rfl,rfl,by decide⟩ | exact .inl ⟨0,_,_,_,_,rfl,rfl,by decide⟩),?_⟩)) ?_
    refine KW.idx0 U U U U U U U U U (by omega) (by omega) ?_
    refine KW.stBo 3 (ph.toNat) U U U U U U U U U (by omega) (by omega) ?_
    refine KW.endW U U U U (fun H1 g=>?_) (fun id h1 hw=>(inferInstance:On (fun id=>(((Low H.n id∧id≠hid)∧id≠gid)∧id≠bid)∧id≠nid) H S2 H2).st id (low id h1 hw)) (fun H1 g=>?_)
    ·have:=g.n_;omega
    have g:=g.back (S0:=fun id=>(((Low H.n id∧id≠hid)∧id≠gid)∧id≠bid)∧id≠nid) (H0:=H)
    have e0:0+ph.toNat*1=ph.toNat:=by omega
    have hcl3:=hcl1.mv (fun _ _=>rfl) (X':=fun id=>X id∨PX id) (A':=H) (fun id p=>.inl p)
    have hset:=hcl3.set (i:=ph.toNat) (y:=pv) (ys:=[.slice pa1 pv.length pc1]) (by omega) (sl1' (hp1.more (fun id p=>.inr p)))
    have esp:splice gcs1 (ph.toNat*KI.sl.es) [.slice pa1 pv.length pc1]=gcs1.set ph.toNat (.slice pa1 pv.length pc1):=by
     show splice gcs1 (ph.toNat*1) _=_
     rw[Nat.mul_one]
     simp only[splice]
     rw[List.set_eq_take_append_cons_drop,if_pos (by omega)]
     simp
    rw[esp] at hset
    refine h.reOpen hPX hsw (fun id h1 h2 h3 h4 h5=>(g.froz id ⟨⟨⟨⟨h1,h2⟩,h3⟩,h4⟩,h5⟩).2) ?_ (gcs:=gcs1.set ph.toNat (.slice pa1 pv.length pc1)) ?_ (by simp[hgl1]) hset.1 ?_ (g.blk (j:=4) rfl).1
    ·have:=(g.blk (j:=1) rfl).1
     simp only[HD.cells,List.length_set] at this ⊢
     exact this
    ·have:=(g.blk (j:=2) rfl).1
     rw[← e0]
     exact this
    ·have:=(g.blk (j:=3) rfl).1
     exact this
   ·rw[tv_false k5]
    rw[tv_false k5,if_neg (by decide)] at eO
    rw[eO]
    refine KW.cF U U (by first | (simp;done) | decide) ?_
    refine KW.ldT 1 U U U U U U U ?_
    refine KW.idx0 U U U U U U U U U (by omega) (by omega) ?_
    refine KW.stBo 4 (ph.toNat) U U U U U U U U U (by omega) (by omega) ?_
    refine KW.endW U U U U (fun H1 g=>?_) (fun id h1 hw=>(inferInstance:On (fun id=>(((Low H.n id∧id≠hid)∧id≠gid)∧id≠bid)∧id≠nid) H S2 H2).st id (low id h1 hw)) (fun H1 g=>?_)
    ·have:=g.n_;omega
    have g:=g.back (S0:=fun id=>(((Low H.n id∧id≠hid)∧id≠gid)∧id≠bid)∧id≠nid) (H0:=H)
    exact h.reOpen hPX hsw (fun id h1 h2 h3 h4 h5=>(g.froz id ⟨⟨⟨⟨h1,h2⟩,h3⟩,h4⟩,h5⟩).2) (by have:=(g.blk (j:=1) rfl).1;simp only[HD.cells,List.length_set] at this ⊢;exact this) (g.blk (j:=2) rfl).1 hgl1 (hcl1.mv (fun _ _=>rfl) (fun id p=>.inl p)) (g.blk (j:=3) rfl).1 (g.blk (j:=4) rfl).1
end
abbrev HTS:HT:=⟨112,51,24,4,197⟩
section
variable {S:Ids} {H0:AH} {X PX:Ids} {d:HD} {c:Cer} {dp:Value}
theorem specSend {p:T_Packet} {pcs:List Value} (h:Hl HTS [dp] [] S H0 X d c) (hp:K_Packet.R PX H0 p pcs) (hPX:∀id,PX id→S id∧¬d.W id) (hw:c.wire.length≤12):
  SpecW Tryz.prog S H0 d.W 199 [.pointer (some ⟨d.hid,0,none⟩),.agg pcs.toArray] (HlRes HTS [dp] [] (fun id=>X id∨PX id) d (send c p)):=by
 obtain⟨pa1,pc1,pa2,pc2,rfl,hp1,hp2⟩:=split_Packet hp
 refine SpecW.of0 Tryz.func199 rfl (by kernel_rfl) rfl (fun H hfin hfz=>?_)
 haveI o:On S H0 (Low H.n) H:=⟨fun id hs=>⟨(hfz id hs).1,(hfz id hs).2⟩⟩
 have h:=h.on (S':=Low H.n) (A':=H)
 have hp:K_Packet.R PX H p _:=K_Packet.same (fun id hid=>(hfz id (hPX id hid).1).2) hp
 have hPX:∀id,PX id→id<H.n∧¬d.W id:=fun id hid=>⟨(hfz id (hPX id hid).1).1,(hPX id hid).2⟩
 obtain⟨hid,sid,gid,bid,nid,w⟩:=d
 have hc:=h.cellsH
 have hh:=h.hall
 have hwi:=h.wire
 have lh:hid<H.n:=hh.1
 by_cases hf:c.wire.length=12
 ·rw[send_full hf]
  cases w with
  | none=>have e:c.wire=[]:=hwi;rw[e] at hf;cases hf
  | some iq=>
   obtain⟨i,q⟩:=iq
   refine KW.ldF 7 hc U U U U U U U U U ?_
   refine KW.yes U U (by omega) ?_
   exact KW.retW U U U U (fun H1 g=>by have:=g.n_;omega) (fun id hid _=>⟨hid,rfl⟩) (fun H1 g=>⟨rfl,HlPost.same h (fun id p=>.inl p) (fun id hid=>(g.froz id hid).2)⟩)
 ·rw[send_ok hf]
  cases w with
  | none=>
   have e:c.wire=[]:=hwi
   refine KW.ldF 7 hc U U U U U U U U U ?_
   refine KW.no U U (by omega) ?_
   refine KW.thaw hid _ hh.1 hh.2 ?_
   refine KW.ldT 1 U U U U U U U ?_
   refine KW.litS1 U U U U U U U U U U U U ?_
   refine KW.appNS U U U U U U U (by decide) rfl (fun H1 g=>acells_seg (g.blk (j:=2) rfl).1 (by show 0+1*5≤5;decide)) rfl (by decide) (by decide) (by decide) ?_
   refine KW.st1 1 U U U U U U U U U U U U (by show 7<([_]++([_,_,_,_,_,_,_]++[])).length;simp) ?_
   refine KW.retW U U U U (fun H1 g=>by have:=g.n_;omega) (fun id hid hw=>⟨⟨hid,fun e=>hw (e ▸ HD.Win.1)⟩,rfl⟩) (fun H1 g=>⟨rfl,?_⟩)
   have hn:=g.n_
   refine h.reWire hPX (i:=H.n+2) (q:=1) (by omega) (.inl ⟨by omega,by omega⟩) (fun id h1 h2 _=>(g.froz id ⟨h1,h2⟩).2) 1 (by rw[e];rfl) (g.blk (j:=1) rfl).1 (g.blk (j:=3) rfl).1 (by rw[e];exact Cl.one ((K_Packet).more (fun id p=>.inr p) hp)) (by rw[e];simp)
  | some iq=>
   obtain⟨i,q⟩:=iq
   obtain⟨hi1,hq,wcs,hi2,hcl⟩:=hwi
   have li:i<H.n:=hi1
   obtain⟨n1,n2,n3,n4,n5⟩:=HD.nodup h.dist
   have nh:i≠hid:=(n5 i q rfl).1
   refine KW.ldF 7 hc U U U U U U U U U ?_
   refine KW.no U U (by omega) ?_
   refine KW.thaw hid _ hh.1 hh.2 ?_
   refine KW.thaw i _ ⟨hi1,nh⟩ hi2 ?_
   refine KW.ldT 1 U U U U U U U ?_
   refine KW.litS1 U U U U U U U U U U U U ?_
   refine KW.appTS 2 U U U U U U U U (by decide) rfl (fun H1 g=>acells_seg (g.blk (j:=3) rfl).1 (by show 0+1*5≤5;decide)) (by have:=hcl.1;show 0+c.wire.length*5≤wcs.length;have:c.wire.length*5≤wcs.length:=this;omega) rfl (by decide) (by show(c.wire.length+1)*72≤_;omega) (by omega) ?_
   refine KW.st1 1 U U U U U U U U U U U U (by show 7<([_]++([_,_,_,_,_,_,_]++[])).length;simp) ?_
   refine KW.retW U U U U (fun H1 g=>by have:=g.n_;omega) (fun id hid hw=>⟨⟨⟨hid,fun e=>hw (e ▸ HD.Win.1)⟩,fun e=>hw (by rw[e];exact HD.Win.2.2.2.2.2 i q rfl)⟩,rfl⟩) (fun H1 g=>⟨rfl,?_⟩)
   have hn:=g.n_
   refine h.reWire hPX (i:=H.n+2) (q:=c.wire.length+1) (by omega) (.inl ⟨by omega,by omega⟩) (fun id h1 h2 h3=>(g.froz id ⟨⟨h1,h2⟩,h3 i q rfl⟩).2) (c.wire.length+1) (by simp) (g.blk (j:=1) rfl).1 (g.blk (j:=2) rfl).1 (Cl.snoc (hcl.mv (fun _ _=>rfl) (fun id p=>.inl p)) ((K_Packet).more (fun id p=>.inr p) hp)) (by simp)
end
theorem KW.cnt {P:Program} {S:Ids} {H0:AH} {Q:PostC} {k:List It} {e:Env} {T:List Var} {n:Nat} (hk:∀m,m=n→KW P S H0 Q m T k e):KW P S H0 Q n T k e:=hk n rfl
theorem T4 {i0 i1 i2 i3:Nat} {a b c d a' b' c' d':Blk} (h1:a=a') (h2:b=b') (h3:c=c') (h4:d=d'):([(i0,a),(i1,b),(i2,c),(i3,d)]:List Var)=[(i0,a'),(i1,b'),(i2,c'),(i3,d')]:=by subst h1 h2 h3 h4;rfl
theorem Cl.repE {X:Ids} {A:AH} {n:Nat} {gcs:List Value} (hl:gcs.length=n) (h:∀j,j<n→∃id,gcs[j]?=some (.slice (some ⟨id,0,some 1⟩) 0 0)):Cl KI.sl X A (List.replicate n ([]:List Int)) gcs:=by
 refine⟨by simp[Kn.sl,hl],fun i x hx=>?_⟩
 have hi:=(List.getElem?_eq_some_iff.1 hx).1
 rw[List.length_replicate] at hi
 obtain rfl:=List.eq_of_mem_replicate (List.mem_of_getElem? hx)
 obtain⟨id,h1⟩:=h i hi
 refine⟨.slice (some ⟨id,0,some 1⟩) 0 0,?_,.inl ⟨rfl,_,0,rfl,fun h=>by cases h⟩⟩
 show(gcs.drop (i*1)).take 1=_
 rw[List.take_one,Nat.mul_one,List.head?_drop,h1]
 rfl
theorem Hl.reOpenN {t:HT} {pre post:List Value} {X:Ids} {d:HD} {c c':Cer} {H H1:AH} (h:Hl t pre post (Low H.n) H X d c) {gcs:List Value} (hc:c'.seats=c.seats∧c'.wire=c.wire)
  (keep:∀id,id<H.n→id≠d.hid→id≠d.gid→id≠d.bid→id≠d.nid→H1.m id=H.m id) (hh:H1.m d.hid=some ⟨t.h,true,d.cells pre post c'⟩) (hg:H1.m d.gid=some ⟨t.g,true,gcs⟩) (gl:gcs.length=c'.got.length) (hgc:Cl KI.sl (fun id=>X id∨New H.n H1.n id) H1 c'.got gcs)
  (hb:H1.m d.bid=some ⟨t.b,true,c'.has.map Value.bool⟩) (hn:H1.m d.nid=some ⟨t.b,true,c'.named.map Value.bool⟩):HlPost t pre post X d c' H.n H1:=by
 obtain⟨l1,l2,l3,l4,l5,l6⟩:=HD.Win (d:=d)
 obtain⟨n1,n2,n3,n4,n5⟩:=HD.nodup h.dist
 have lw:=fun id (p:d.W id)=>h.w id p
 have xw:∀id,X id→id<H.n∧¬d.W id:=fun id p=>⟨h.sx id p,h.out id p⟩
 have xk:∀id,X id→H1.m id=H.m id:=fun id p=>keep id (xw id p).1 (fun e=>(xw id p).2 (e ▸ l1)) (fun e=>(xw id p).2 (e ▸ l3)) (fun e=>(xw id p).2 (e ▸ l4)) (fun e=>(xw id p).2 (e ▸ l5))
 have k2:H1.m d.sid=H.m d.sid:=keep _ (lw _ l2) n1.1.symm n2.1 n2.2.1 n2.2.2
 obtain⟨e1,e2⟩:=hc
 refine⟨fun id=>X id∨New H.n H1.n id,d,⟨fun id p=>.inr p,⟨.inl l1,hh⟩,?_,⟨.inl l3,gcs,hg,gl,hgc⟩,⟨.inl l4,hb⟩,⟨.inl l5,hn⟩,?_,h.dist,fun id p q=>p.elim (fun p=>(xw id p).2 q) (fun p=>by have:id<H.n:=lw id q;have:=p.1;omega)⟩,rfl,fun id p=>p,fun id p=>.inl p⟩
 ·rw[e1]
  exact h.seats.mv ⟨.inl l2,k2⟩ xk (fun id p=>.inl p)
 ·rw[e2]
  exact h.wire.mv (fun i q e=>⟨.inl (l6 i q e),keep _ (lw _ (l6 i q e)) (n5 i q e).1 (n5 i q e).2.2.1 (n5 i q e).2.2.2.1 (n5 i q e).2.2.2.2⟩) xk (fun id p=>.inl p)
section
variable {S:Ids} {H0:AH} {X PX D:Ids} {d:HD} {c:Cer} {dcs:List Value} {x:T_Deal}
theorem specOpened {p:T_Packet} {pcs:List Value} {did pid:Nat} (hd:DealOk x) (hB:B_Deal x) (hok:CerOk x c) (hpk:PkOk x p) (h:Hl HTS [.pointer (some ⟨did,0,none⟩)] [] S H0 X d c) (hD:K_Deal.R D H0 x dcs) (hDv:Has3 D H0 did 0 dcs) (hDD:∀id,D id→S id∧¬d.W id) (hp:K_Packet.R PX H0 p pcs) (hPX:∀id,PX id→S id∧¬d.W id) (hpv:Has3 S H0 pid 0 pcs) (hpid:¬d.W pid):
  SpecW Tryz.prog S H0 d.W 265 [.pointer (some ⟨d.hid,0,none⟩),.pointer (some ⟨pid,0,none⟩)] (fun n v H1=>HlPost HTS [.pointer (some ⟨did,0,none⟩)] [] X d (comeO x (fresh c p.2.2.1) p) n H1):=by
 obtain⟨pa1,pc1,pa2,pc2,rfl,hp1,hp2⟩:=split_Packet hp
 obtain⟨pb,ph,pe,pv,pt⟩:=p
 simp only at hp1 hp2 hpv ⊢
 refine SpecW.of0 Tryz.func265 rfl (by kernel_rfl) rfl (fun H hfin hfz=>?_)
 haveI o:On S H0 (Low H.n) H:=⟨fun id hs=>⟨(hfz id hs).1,(hfz id hs).2⟩⟩
 have h:=h.on (S':=Low H.n) (A':=H)
 have hp1:KI.Sl PX H _ _:=Kn.Sl.same (fun id hid=>(hfz id (hPX id hid).1).2) hp1
 have hp2:KI.Sl PX H _ _:=Kn.Sl.same (fun id hid=>(hfz id (hPX id hid).1).2) hp2
 have hD:K_Deal.R D H x dcs:=K_Deal.same (fun id hid=>(hfz id (hDD id hid).1).2) hD
 have hDv:Has3 D H did 0 dcs:=by
  obtain⟨d0,b,d1,d2⟩:=hDv
  exact⟨d0,b,((hfz did (hDD did d0).1).2).trans d1,d2⟩
 have hpv:Has3 (Low H.n) H pid 0 _:=hpv.up
 have hPX:∀id,PX id→id<H.n∧¬d.W id:=fun id hid=>⟨(hfz id (hPX id hid).1).1,(hPX id hid).2⟩
 have hDD:∀id,D id→id<H.n∧¬d.W id:=fun id hid=>⟨(hfz id (hDD id hid).1).1,(hDD id hid).2⟩
 obtain⟨hid,sid,gid,bid,nid,w⟩:=d
 have hc:=h.cellsH
 have hh:=h.hall
 obtain⟨hg0,gcs,hg1,hgl,hgcl⟩:=h.got
 obtain⟨hb0,hb1⟩:=h.has
 obtain⟨hn0,hn1⟩:=h.named
 obtain⟨n1,n2,n3,n4,n5⟩:=HD.nodup h.dist
 simp only at n1 n2 n3 n4 n5 hg0 hg1 hb0 hb1 hn0 hn1
 have hho:0≤ph∧ph<x.1.1:=hpk.ho
 have hsl:=hok.sl
 obtain⟨E,J,hat⟩:=HoOk.at hd hpk.ho hpk.ep
 have hvl:=hpk.rw.vl
 have hve:=hpk.rw.ve
 have hrl:=rowsOf_len x.1.2.1 ph
 have hol:x.1.2.1.length≤1048576:=hB.1.2.1
 have hpt:pt.length≤1048576:=by have:pt.length=(rowsOf x.1.2.1 ph).length:=hpk.rw.tl;omega
 have hpv1:pv.length=(rowsOf x.1.2.1 ph).length:=hvl
 have gl1:c.got.length=c.seats.length:=hok.gl
 have hl1:c.has.length=c.seats.length:=hok.hl
 have nl1:c.named.length=c.seats.length:=hok.nl
 have h7:=hd.sch.h7
 have low:∀id,id<H.n→¬HD.W ⟨hid,sid,gid,bid,nid,w⟩ id→(fun id=>(((Low H.n id∧id≠hid)∧id≠gid)∧id≠bid)∧id≠nid) id:=fun id h1 hw=>⟨⟨⟨⟨h1,fun e=>hw (by rw[e];exact HD.Win.1)⟩,fun e=>hw (by rw[e];exact HD.Win.2.2.1)⟩,fun e=>hw (by rw[e];exact HD.Win.2.2.2.1)⟩,fun e=>hw (by rw[e];exact HD.Win.2.2.2.2.1)⟩
 have hpt2:Has3 (fun id=>(((Low H.n id∧id≠hid)∧id≠gid)∧id≠bid)∧id≠nid) H pid 0 _:=⟨low pid hpv.1 hpid,hpv.2⟩
 refine KW.thaw hid _ hh.1 hh.2 ?_
 refine KW.thaw gid _ ⟨hg0,n1.2.1.symm⟩ hg1 ?_
 refine KW.thaw bid _ ⟨⟨hb0,n1.2.2.1.symm⟩,n3.1.symm⟩ hb1 ?_
 refine KW.thaw nid _ ⟨⟨⟨hn0,n1.2.2.2.symm⟩,n3.2.symm⟩,n4.symm⟩ hn1 ?_
 refine KW.ldF 2 hpt2 U U U U U U U U U ?_
 refine KW.ldT 0 U U U U U U U ?_
 obtain⟨TH,hTH⟩:∃TH:Cer→List Value→List Var,TH=fun c1 gcs1=>[(hid,⟨112,true,HD.cells ⟨hid,sid,gid,bid,nid,w⟩ [.pointer (some ⟨did,0,none⟩)] [] c1⟩),(gid,⟨24,true,gcs1⟩),(bid,⟨4,true,c1.has.map Value.bool⟩),(nid,⟨4,true,c1.named.map Value.bool⟩)]:=⟨_,rfl⟩
 refine KW.cnd U U (fun k1=>?ga) (fun k1=>?gb)
 case' ga=>
  have k1:pe>c.oe:=k1
  refine KW.ldF 2 hpt2 U U U U U U U U U ?_
  refine KW.st1 0 U U U U U U U U U U U U (by show 3<([_]++([_,_,_,_,_,_,_]++[])).length;simp) ?_
  obtain⟨c0,hc0⟩:∃c0:Cer,c0=⟨c.ep,c.seats,pe,c.got,c.has,c.named,c.wire⟩:=⟨_,rfl⟩
  refine KW.lpM U U (fun s:Nat × List Value × List Bool=>[(0,.pointer (some ⟨hid,0,none⟩)),(1,.pointer (some ⟨pid,0,none⟩)),(4,.pointer (some ⟨hid,3,none⟩)),(5,.int .i64 s.1)]) (fun s=>(fun id=>(((Low H.n id∧id≠hid)∧id≠gid)∧id≠bid)∧id≠nid)) (fun s=>H) (fun s=>[(hid,⟨112,true,HD.cells ⟨hid,sid,gid,bid,nid,w⟩ [.pointer (some ⟨did,0,none⟩)] [] ⟨c.ep,c.seats,pe,c.got,c.has,c.named,c.wire⟩⟩),(gid,⟨24,true,s.2.1⟩),(bid,⟨4,true,s.2.2.map Value.bool⟩),(nid,⟨4,true,c.named.map Value.bool⟩)]) (fun s=>s.1≤c.has.length∧s.2.1.length=c.has.length∧s.2.2.length=c.has.length∧(∀j,j<s.1→∃id,s.2.1[j]?=some (.slice (some ⟨id,0,some 1⟩) 0 0))∧(∀j,j<s.1→s.2.2[j]?=some false)) (fun s=>c.has.length-s.1) ((0,gcs,c.has)) (⟨Nat.zero_le _,by simp only;omega,rfl,fun j h=>absurd h (by simp),fun j h=>absurd h (by simp)⟩) ⟨rfl,rfl,rfl,rfl,trivial⟩ U U (rfl) (fun s hi bE n=>?_)
  obtain⟨i,gs,bs⟩:=s
  obtain⟨i1,i2,i3,i4,i5⟩:=hi
  simp only at i1 i2 i3 i4 i5
  refine KW.ldT 0 U U U U U U U ?_
  refine KW.cnd U U (fun k2=>?gin) (fun k2=>?gout)
  case gin=>
   have k2:(i:Int)<(c.has.length:Int):=k2
   refine KW.ldT 0 U U U U U U U ?_
   refine KW.idx0 U U U U U U U U U (by omega) (by show(i:Int)<((c.has.length:Nat):Int);omega) ?_
   refine KW.stBo 2 (i) U U U U U U U U U (by omega) (by show i<bs.length;omega) ?_
   refine KW.ldT 0 U U U U U U U ?_
   refine KW.lit U U U U U U U U U U [] U U (fun v hv=>by simp at hv) rfl ?_
   refine KW.idx0 U U U U U U U U U (by omega) (by show(i:Int)<((c.got.length:Nat):Int);omega) ?_
   refine KW.st1 1 U U U U U U U U U U U U (by show 0+i*1<gs.length;omega) ?_
   have upd:∀(j:Nat),j<i+1→∃id,(gs.set (0+i*1) (.slice (some ⟨n,0,some 1⟩) 0 0))[j]?=some (.slice (some ⟨id,0,some 1⟩) 0 0):=fun j hj=>by
    rw[show 0+i*1=i by omega]
    by_cases e:i=j
    ·subst e;exact⟨n,by rw[List.getElem?_set_self (by omega)]⟩
    ·rw[List.getElem?_set_ne e];exact i4 j (by omega)
   have updb:∀(j:Nat),j<i+1→(bs.set i false)[j]?=some false:=fun j hj=>by
    by_cases e:i=j
    ·subst e;rw[List.getElem?_set_self (by omega)]
    ·rw[List.getElem?_set_ne e];exact i5 j (by omega)
   refine KW.nxt U U (fun H' g=>⟨(i+1,gs.set (0+i*1) (.slice (some ⟨n,0,some 1⟩) 0 0),bs.set i false),⟨by simp only;omega,by simp only[List.length_set];exact i2,by simp only[List.length_set];exact i3,upd,updb⟩,by first | omega | (simp only;omega),⟨rfl,rfl,rfl,congrArg (Value.int .i64) (inc64 (by omega)),trivial⟩,g.take 4⟩)
  have k2:¬(i:Int)<(c.has.length:Int):=k2
  obtain rfl:i=c.has.length:=by omega
  obtain⟨c1,hc1⟩:∃c1,fresh c pe=c1:=⟨_,rfl⟩
  have ec1:c1=⟨c.ep,c.seats,pe,List.replicate c.got.length [],List.replicate c.has.length false,c.named,c.wire⟩:=by rw[← hc1];unfold fresh;rw[if_pos (show c.oe<pe by omega)]
  obtain⟨gcs1,hgc1⟩:∃gcs1:List Value,gcs1=gs:=⟨_,rfl⟩
  have hcl1:∀A,(∀id,X id→A.m id=H.m id)→Cl KI.sl X A c1.got gcs1:=fun A _=>by rw[hgc1,ec1];exact Cl.repE (by omega) (fun j hj=>i4 j (by omega))
  have hgl1:gcs1.length=c1.got.length:=by rw[hgc1,ec1];simp;omega
  have hbs:bs=List.replicate c.has.length false:=List.ext_getElem? fun j=>by
   rw[List.getElem?_replicate]
   split
   ·exact i5 j (by assumption)
   ·rw[List.getElem?_eq_none (by omega)]
  refine KW.idT (T':=TH c1 gcs1) (by
   rw[hTH,hgc1]
   refine T4 (bcong ?_) rfl (bcong ?_) (bcong ?_)
   ·rw[ec1]
    simp only[HD.cells,List.length_replicate]
   ·rw[ec1,hbs]
   ·rw[ec1]) ?_
 case' gb=>
  have k1:¬pe>c.oe:=k1
  obtain⟨c1,hc1⟩:∃c1,fresh c pe=c1:=⟨_,rfl⟩
  have ec1:c1=c:=by rw[← hc1];unfold fresh;rw[if_neg (show ¬c.oe<pe by omega)]
  obtain⟨gcs1,hgc1⟩:∃gcs1:List Value,gcs1=gcs:=⟨_,rfl⟩
  have hcl1:∀A,(∀id,X id→A.m id=H.m id)→Cl KI.sl X A c1.got gcs1:=fun A hA=>by rw[hgc1,ec1];exact hgcl.mv hA (fun _ p=>p)
  have hgl1:gcs1.length=c1.got.length:=by rw[hgc1,ec1];exact hgl
  refine KW.idT (T':=TH c1 gcs1) (by rw[hTH,ec1,hgc1];rfl) ?_
 all_goals
  subst hTH
  rw[hc1]
  have hok1:CerOk x c1:=by rw[← hc1];exact hok.fresh hpk.ep
  have hsw:c1.seats=c.seats∧c1.wire=c.wire:=by rw[ec1];exact⟨rfl,rfl⟩
  have gl2:c1.got.length=c1.seats.length:=hok1.gl
  have hl2:c1.has.length=c1.seats.length:=hok1.hl
  have nl2:c1.named.length=c1.seats.length:=hok1.nl
  have sl2:=hok1.sl
  have xk:∀{n:Nat} {T:List Var} {H1:AH},Good (fun id=>(((Low H.n id∧id≠hid)∧id≠gid)∧id≠bid)∧id≠nid) H T n H1→∀id,X id→H1.m id=H.m id:=fun g id p=>(g.froz id (low id (h.sx id p) (h.out id p))).2
  have same:comeO x c1 (pb,ph,pe,pv,pt)=c1→∀{n:Nat} {H1:AH},Good (fun id=>(((Low H.n id∧id≠hid)∧id≠gid)∧id≠bid)∧id≠nid) H ([(hid,⟨112,true,HD.cells ⟨hid,sid,gid,bid,nid,w⟩ [.pointer (some ⟨did,0,none⟩)] [] c1⟩),(gid,⟨24,true,gcs1⟩),(bid,⟨4,true,c1.has.map Value.bool⟩),(nid,⟨4,true,c1.named.map Value.bool⟩)]) n H1→HlPost HTS [.pointer (some ⟨did,0,none⟩)] [] X ⟨hid,sid,gid,bid,nid,w⟩ (comeO x c1 (pb,ph,pe,pv,pt)) H.n H1:=fun e n H1 g=>by
   rw[e]
   exact h.reOpenN hsw (fun id h1 h2 h3 h4 h5=>(g.froz id ⟨⟨⟨⟨h1,h2⟩,h3⟩,h4⟩,h5⟩).2) (g.blk (j:=0) rfl).1 (g.blk (j:=1) rfl).1 hgl1 ((hcl1 H1 (xk g)).mv (fun _ _=>rfl) (fun id p=>.inl p)) (g.blk (j:=2) rfl).1 (g.blk (j:=3) rfl).1
  have noO:¬(pe=c1.oe∧c1.named.getD ph.toNat false=false∧c1.has.getD ph.toNat false=false)→comeO x c1 (pb,ph,pe,pv,pt)=c1:=fun hx=>by unfold comeO;rw[if_neg hx]
  have hNn:∀{S2:Ids} {H2:AH} {b0 b1 b2 b3:Blk} {n':Nat} {H1:AH},(∀id,(fun id=>(((Low H.n id∧id≠hid)∧id≠gid)∧id≠bid)∧id≠nid) id→S2 id)→Good S2 H2 [(hid,b0),(gid,b1),(bid,b2),(nid,b3)] n' H1→H.n≤H1.n:=fun {S2 H2 b0 b1 b2 b3 n' H1} hS2 g=>by
   rcases Nat.eq_zero_or_pos H.n with h0 | h0
   ·omega
   ·have hn:=g.n_
    suffices key:H.n-1<n' by omega
    by_cases e1:H.n-1=hid
    ·rw[e1];exact(g.vars 0 _ rfl).2.1
    by_cases e2:H.n-1=gid
    ·rw[e2];exact(g.vars 1 _ rfl).2.1
    by_cases e3:H.n-1=bid
    ·rw[e3];exact(g.vars 2 _ rfl).2.1
    by_cases e4:H.n-1=nid
    ·rw[e4];exact(g.vars 3 _ rfl).2.1
    exact(g.froz _ (hS2 _ ⟨⟨⟨⟨show H.n-1<H.n by omega,e1⟩,e2⟩,e3⟩,e4⟩)).1
  refine KW.ldF 2 hpt2 U U U U U U U U U ?_
  refine KW.ldT 0 U U U U U U U ?_
  refine KW.tstB U U (fun k2=>?_) (fun k2=>?_)
  ·have k2:¬pe=c1.oe:=by simpa using k2
   repeat first | refine KW.tT U U U ?_ | refine KW.tF U U U ?_
   refine KW.cT U U (by first | (simp;done) | decide) ?_
   exact KW.retW U U U U (fun H1 g=>hNn (fun _ p=>p) g) (fun id h1 hw=>⟨low id h1 hw,rfl⟩) (fun H1 g=>same (noO fun hx=>k2 hx.1) g)
  have k2:pe=c1.oe:=by simpa using k2
  refine KW.ldT 0 U U U U U U U ?_
  refine KW.ldF 1 hpt2 U U U U U U U U U ?_
  refine KW.idx0 U U U U U U U U U (by omega) (by show ph<((c1.named.length:Nat):Int);omega) ?_
  refine KW.ldB 3 (ph.toNat) U U U U U U U U (by omega) (by omega) ?_
  refine KW.tstB U U (fun k3=>?_) (fun k3=>?_)
  ·have k3:c1.named.getD ph.toNat false=true:=k3
   repeat first | refine KW.tT U U U ?_ | refine KW.tF U U U ?_
   refine KW.cT U U (by first | (simp;done) | decide) ?_
   exact KW.retW U U U U (fun H1 g=>hNn (fun _ p=>p) g) (fun id h1 hw=>⟨low id h1 hw,rfl⟩) (fun H1 g=>same (noO fun hx=>by rw[hx.2.1] at k3;cases k3) g)
  have k3:c1.named.getD ph.toNat false=false:=k3
  refine KW.ldT 0 U U U U U U U ?_
  refine KW.ldF 1 hpt2 U U U U U U U U U ?_
  refine KW.idx0 U U U U U U U U U (by omega) (by show ph<((c1.has.length:Nat):Int);omega) ?_
  refine KW.ldB 2 (ph.toNat) U U U U U U U U (by omega) (by omega) ?_
  refine KW.cndB U U (fun k4=>?_) (fun k4=>?_)
  ·have k4:c1.has.getD ph.toNat false=true:=k4
   exact KW.retW U U U U (fun H1 g=>hNn (fun _ p=>p) g) (fun id h1 hw=>⟨low id h1 hw,rfl⟩) (fun H1 g=>same (noO fun hx=>by rw[hx.2.2] at k4;cases k4) g)
  have k4:c1.has.getD ph.toNat false=false:=k4
  refine KW.ldT 0 U U U U U U U ?_
  refine KW.ldF 2 hpt2 U U U U U U U U U ?_
  refine KW.ldF 1 hpt2 U U U U U U U U U ?_
  refine KW.ldF 3 hpt2 U U U U U U U U U ?_
  have hDS:K_Deal.R (fun id=>(((Low H.n id∧id≠hid)∧id≠gid)∧id≠bid)∧id≠nid) H x _:=K_Deal.more (fun id p=>low id (hDD id p).1 (hDD id p).2) hD
  have hDv2:Has3 (fun id=>(((Low H.n id∧id≠hid)∧id≠gid)∧id≠bid)∧id≠nid) H did 0 _:=⟨low did (hDD did hDv.1).1 (hDD did hDv.1).2,hDv.2⟩
  have hq1:KI.Sl (fun id=>(((Low H.n id∧id≠hid)∧id≠gid)∧id≠bid)∧id≠nid) H _ _:=hp1.more (fun id p=>low id (hPX id p).1 (hPX id p).2)
  have hq2:KI.Sl (fun id=>(((Low H.n id∧id≠hid)∧id≠gid)∧id≠bid)∧id≠nid) H _ _:=hp2.more (fun id p=>low id (hPX id p).1 (hPX id p).2)
  refine KW.callN1 U U U U U (l08TagsD x pe ph hat hB hDv2 hDS hpv1 hve hq1) (fun v H2 S2 m2 _ _ hv=>?_)
  obtain⟨a9,q9,rfl,hT⟩:=hv
  have st2:=(inferInstance:On (fun id=>(((Low H.n id∧id≠hid)∧id≠gid)∧id≠bid)∧id≠nid) H S2 H2).st
  refine KW.fact (p:=H.n≤H2.n) (fun H1 g=>by have:=hNn (fun id p=>(st2 id p).1) g;have:=g.n_;omega) (fun hlo2=>?_)
  have htl:(tagsD x pe ph pv).length≤1048576:=by simp only[tagsD,tagsOf,List.length_map,List.length_range];omega
  refine KW.ldF 4 hpt2.up U U U U U U U U U ?_
  refine KW.callE U U U U U (l00Same htl hT.ups hq2.up) (fun _ _=>?_)
  have eO:comeO x c1 (pb,ph,pe,pv,pt)=if tv (tagsD x pe ph pv=pt)=true then⟨c1.ep,c1.seats,c1.oe,c1.got.set ph.toNat pv,c1.has.set ph.toNat true,c1.named,c1.wire⟩ else⟨c1.ep,c1.seats,c1.oe,c1.got,c1.has,c1.named.set ph.toNat true,c1.wire⟩:=by unfold comeO;rw[if_pos ⟨k2,k3,k4⟩]
  by_cases k5:tagsD x pe ph pv=pt
  ·rw[tv_true k5]
   rw[tv_true k5,if_pos rfl] at eO
   rw[eO]
   refine KW.cF U U (by first | (simp;done) | decide) ?_
   refine KW.ldT 0 U U U U U U U ?_
   refine KW.ldF 1 hpt2.up U U U U U U U U U ?_
   refine KW.idx0 U U U U U U U U U (by omega) (by show ph<((c1.has.length:Nat):Int);omega) ?_
   refine KW.stBo 2 (ph.toNat) U U U U U U U U U (by omega) (by omega) ?_
   refine KW.ldT 0 U U U U U U U ?_
   refine KW.ldF 1 hpt2.up U U U U U U U U U ?_
   refine KW.ldF 3 hpt2.up U U U U U U U U U ?_
   refine KW.cnt (fun n3 hn3=>?_)
   refine KW.fact (p:=H.n≤n3) (fun H1 g=>by have:=hNn (fun id p=>(st2 id p).1) g;have:=g.n_;omega) (fun hlo3=>?_)
   refine KW.callN1 U U U U U (l00Own (by omega) hq1.up) (fun v H3 S3 m3 _ _ hv=>?_)
   obtain⟨a8,q8,rfl,hO⟩:=hv
   refine KW.idx0 U U U U U U U U U (by omega) (by show ph<((c1.got.length:Nat):Int);omega) ?_
   refine KW.st1 1 U U U U U U U U U U U U (by show 0+ph.toNat*1<gcs1.length;omega) ?_
   have st3:=(inferInstance:On (fun id=>(((Low H.n id∧id≠hid)∧id≠gid)∧id≠bid)∧id≠nid) H S3 H3).st
   refine KW.endW U U U U (fun H1 g=>hNn (fun id p=>(st3 id p).1) g) (fun id h1 hw=>st3 id (low id h1 hw)) (fun H1 g=>?_)
   have hge:=hNn (fun id p=>(st3 id p).1) g
   have gb:=g.back (S0:=(fun id=>(((Low H.n id∧id≠hid)∧id≠gid)∧id≠bid)∧id≠nid)) (H0:=H)
   have e0:0+ph.toNat*1=ph.toNat:=by omega
   have hO2:KI.Sl (fun id=>X id∨New H.n H1.n id) H1 (.slice a8 pv.length q8) pv:=sl_mk hO.sl (fun id p=>⟨.inr ⟨by have:=p.1;omega,by have:=(g.froz id ((inferInstance:On (New n3 H3.n) H3 S3 H3).st id p).1).1;have:=g.n_;omega⟩,(g.froz id ((inferInstance:On (New n3 H3.n) H3 S3 H3).st id p).1).2⟩)
   have hset:=((hcl1 H1 (xk gb)).mv (fun _ _=>rfl) (X':=fun id=>X id∨New H.n H1.n id) (fun id p=>.inl p)).set (i:=ph.toNat) (y:=pv) (ys:=[.slice a8 pv.length q8]) (by omega) (sl1' hO2)
   have esp:splice gcs1 (ph.toNat*KI.sl.es) [.slice a8 pv.length q8]=gcs1.set ph.toNat (.slice a8 pv.length q8):=by
    show splice gcs1 (ph.toNat*1) _=_
    rw[Nat.mul_one]
    exact splice_one (by omega)
   rw[esp] at hset
   refine h.reOpenN hsw (fun id h1 h2 h3 h4 h5=>(gb.froz id ⟨⟨⟨⟨h1,h2⟩,h3⟩,h4⟩,h5⟩).2) ?_ (gcs:=gcs1.set ph.toNat (.slice a8 pv.length q8)) ?_ (by simp[hgl1]) hset.1 ?_ (g.blk (j:=3) rfl).1
   ·have:=(g.blk (j:=0) rfl).1
    simp only[HD.cells,List.length_set] at this ⊢
    exact this
   ·have:=(g.blk (j:=1) rfl).1
    rw[← e0]
    exact this
   ·exact(g.blk (j:=2) rfl).1
  ·rw[tv_false k5]
   rw[tv_false k5,if_neg (by decide)] at eO
   rw[eO]
   refine KW.cT U U (by first | (simp;done) | decide) ?_
   refine KW.ldT 0 U U U U U U U ?_
   refine KW.ldF 1 hpt2.up U U U U U U U U U ?_
   refine KW.idx0 U U U U U U U U U (by omega) (by show ph<((c1.named.length:Nat):Int);omega) ?_
   refine KW.stBo 3 (ph.toNat) U U U U U U U U U (by omega) (by omega) ?_
   refine KW.retW U U U U (fun H1 g=>hNn (fun id p=>(st2 id p).1) g) (fun id h1 hw=>st2 id (low id h1 hw)) (fun H1 g=>?_)
   have g:=g.back (S0:=(fun id=>(((Low H.n id∧id≠hid)∧id≠gid)∧id≠bid)∧id≠nid)) (H0:=H)
   exact h.reOpenN hsw (fun id h1 h2 h3 h4 h5=>(g.froz id ⟨⟨⟨⟨h1,h2⟩,h3⟩,h4⟩,h5⟩).2) (by have:=(g.blk (j:=0) rfl).1;simp only[HD.cells,List.length_set] at this ⊢;exact this) (g.blk (j:=1) rfl).1 hgl1 ((hcl1 H1 (xk g)).mv (fun _ _=>rfl) (fun id p=>.inl p)) (g.blk (j:=2) rfl).1 (g.blk (j:=3) rfl).1
end
theorem Hl.reSeatsN {t:HT} {pre post:List Value} {X:Ids} {d:HD} {c:Cer} {H H1:AH} (h:Hl t pre post (Low H.n) H X d c) {cs:List Value} {ss:List T_Seat} (hl:ss.length=c.seats.length)
  (keep:∀id,id<H.n→id≠d.sid→H1.m id=H.m id) (hs:H1.m d.sid=some ⟨t.s,true,cs⟩) (hcl:Cl K_Seat (fun id=>X id∨New H.n H1.n id) H1 ss cs):HlPost t pre post X d ⟨c.ep,ss,c.oe,c.got,c.has,c.named,c.wire⟩ H.n H1:=by
 obtain⟨l1,l2,l3,l4,l5,l6⟩:=HD.Win (d:=d)
 obtain⟨n1,n2,n3,n4,n5⟩:=HD.nodup h.dist
 have lw:=fun id (p:d.W id)=>h.w id p
 have xw:∀id,X id→id<H.n∧¬d.W id:=fun id p=>⟨h.sx id p,h.out id p⟩
 have xk:∀id,X id→H1.m id=H.m id:=fun id p=>keep id (xw id p).1 (fun e=>(xw id p).2 (e ▸ l2))
 have k1:H1.m d.hid=H.m d.hid:=keep _ (lw _ l1) n1.1
 have k3:H1.m d.gid=H.m d.gid:=keep _ (lw _ l3) n2.1.symm
 have k4:H1.m d.bid=H.m d.bid:=keep _ (lw _ l4) n2.2.1.symm
 have k5:H1.m d.nid=H.m d.nid:=keep _ (lw _ l5) n2.2.2.symm
 have hh:=h.hall.2
 refine⟨fun id=>X id∨New H.n H1.n id,d,⟨fun id p=>.inr p,⟨.inl l1,?_⟩,⟨.inl l2,cs,hs,hcl⟩,h.got.mv ⟨.inl l3,k3⟩ xk (fun id p=>.inl p),h.has.mv ⟨.inl l4,k4⟩,h.named.mv ⟨.inl l5,k5⟩,h.wire.mv (fun i q e=>⟨.inl (l6 i q e),keep _ (lw _ (l6 i q e)) (n5 i q e).2.1⟩) xk (fun id p=>.inl p),h.dist,fun id p q=>p.elim (fun p=>(xw id p).2 q) (fun p=>by have:id<H.n:=lw id q;have:=p.1;omega)⟩,rfl,fun id p=>p,fun id p=>.inl p⟩
 rw[k1,hh]
 simp only[HD.cells,hl]
section
variable {S:Ids} {H0:AH}
theorem l08PurseS {p:T_Purse} {pcs:List Value} (hp:K_Purse.R S H0 p pcs) (h1:p.2.1.length≤1048576) (h2:p.2.2.length≤1048576):SpecM Tryz.prog S H0 202 [.agg pcs.toArray] (fun n v H1=>∃a1 c1 a2 c2,v=.agg [.int .i64 p.1,.slice a1 p.2.1.length c1,.slice a2 p.2.2.length c2].toArray∧KI.Sl (New n H1.n) H1 (.slice a1 p.2.1.length c1) p.2.1∧KI.Sl (New n H1.n) H1 (.slice a2 p.2.2.length c2) p.2.2):=by
 obtain⟨pa1,pc1,pa2,pc2,rfl,hp1,hp2⟩:=split_Purse hp
 refine SpecM.of1 Tryz.func202 rfl (by kernel_rfl) rfl (fun H _=>?_)
 refine KW.callN1 U U U U U (l00Own (by omega) hp1.up) (fun v H1 S1 m1 _ _ hv=>?_)
 obtain⟨a1,q1,rfl,hO1⟩:=hv
 refine KW.callN1 U U U U U (l00Own (by omega) hp2.up) (fun v H2 S2 m2 _ _ hv=>?_)
 obtain⟨a2,q2,rfl,hO2⟩:=hv
 refine KW.build U U U U U (built_Purse _ _ _ _ _ _ _) ?_
 have o1:=(inferInstance:On (New (H.n+1+1) H1.n) H1 S1 H1)
 have o2:=(inferInstance:On (New H1.n H2.n) H2 S2 H2)
 have o12:=(inferInstance:On S1 H1 S2 H2)
 refine KW.retM1 U U U U (fun H1 g=>⟨_,_,_,_,rfl,sl_mk hO1.sl (fun id p=>?_),sl_mk hO2.sl (fun id p=>?_)⟩)
 ·have q1:=o1.st id p
  have q2:=o12.st id q1.1
  have q3:=g.froz id q2.1
  have:=p.1
  have:=q3.1
  have:=g.n_
  exact⟨⟨by omega,by omega⟩,(q3.2.trans q2.2).trans q1.2⟩
 ·have q1:=o2.st id p
  have q3:=g.froz id q1.1
  have:=p.1
  have:=q3.1
  have:=g.n_
  exact⟨⟨by omega,by omega⟩,q3.2.trans q1.2⟩
end
section
variable {S:Ids} {H0:AH} {X PX D:Ids} {d:HD} {c:Cer} {dcs:List Value} {x:T_Deal}
theorem specRenew {did:Nat} (hd:DealOk x) (hB:B_Deal x) (hok:CerOk x c) (h:Hl HTS [.pointer (some ⟨did,0,none⟩)] [] S H0 X d c) (hD:K_Deal.R D H0 x dcs) (hDv:Has3 D H0 did 0 dcs) (hDD:∀id,D id→S id∧¬d.W id) (A B:Int):
  SpecW Tryz.prog S H0 d.W 197 [.pointer (some ⟨d.hid,0,none⟩)] (HlRes HTS [.pointer (some ⟨did,0,none⟩)] [] X d (doIt x c (9,A,B))):=by
 obtain⟨d1,d2,d3,d4,d5,d6,d7,d8,rfl⟩:=form_Deal hD
 refine SpecW.of0 Tryz.func197 rfl (by kernel_rfl) rfl (fun H hfin hfz=>?_)
 haveI o:On S H0 (Low H.n) H:=⟨fun id hs=>⟨(hfz id hs).1,(hfz id hs).2⟩⟩
 have h:=h.on (S':=Low H.n) (A':=H)
 have hDv:Has3 (Low H.n) H did 0 _:=⟨(hfz did (hDD did hDv.1).1).1,by obtain⟨b,e1,e2⟩:=hDv.2;exact⟨b,((hfz did (hDD did hDv.1).1).2).trans e1,e2⟩⟩
 obtain⟨hid,sid,gid,bid,nid,w⟩:=d
 have hc:=h.cellsH
 have hh:=h.hall
 have hbl:=hd.bl
 have hep:=hok.ep
 have e:doIt x c (9,A,B)=if c.ep+1=(x.2.2.1.length:Int) then(c,3) else(⟨c.ep+1,c.seats,c.oe,c.got,c.has,c.named,c.wire⟩,0):=rfl
 have ew:IntKind.i64.wrap (c.ep+1)=c.ep+1:=wr (by have:=hep.1;omega) (by have:=hep.2;omega)
 rw[e]
 refine KW.ldF 1 hc U U U U U U U U U ?_
 refine KW.ldF 0 hc U U U U U U U U U ?_
 refine KW.ldF 6 hDv U U U U U U U U U ?_
 refine KW.cnd U U (fun k1=>?_) (fun k1=>?_)
 ·have k1:IntKind.i64.wrap (c.ep+1)=(x.2.2.1.length:Int):=k1
  rw[ew] at k1
  rw[if_pos k1]
  exact KW.retW U U U U (fun H1 g=>by have:=g.n_;omega) (fun id hid _=>⟨hid,rfl⟩) (fun H1 g=>⟨rfl,HlPost.same h (fun id p=>p) (fun id hid=>(g.froz id hid).2)⟩)
 ·have k1:¬IntKind.i64.wrap (c.ep+1)=(x.2.2.1.length:Int):=k1
  rw[ew] at k1
  rw[if_neg k1]
  refine KW.ldF 1 hc U U U U U U U U U ?_
  refine KW.thaw hid _ hh.1 hh.2 ?_
  refine KW.st1 0 U U U U U U U U U U U U (by show 1<([_]++([_,_,_,_,_,_,_]++[])).length;simp) ?_
  refine KW.retW U U U U (fun H1 g=>by have:=g.n_;omega) (fun id hid hw=>⟨⟨hid,fun e=>hw (by rw[e];exact HD.Win.1)⟩,rfl⟩) (fun H1 g=>⟨rfl,?_⟩)
  refine h.reHall ⟨rfl,rfl,rfl,rfl,rfl⟩ (fun id h1 h2=>(g.froz id ⟨h1,h2⟩).2) ?_
  have:=(g.blk (j:=0) rfl).1
  rw[this]
  simp only[HD.cells,ew]
  rfl
theorem specCome {p:T_Packet} {pcs:List Value} {did pid:Nat} (hd:DealOk x) (hB:B_Deal x) (hok:CerOk x c) (hpk:PkOk x p) (h:Hl HTS [.pointer (some ⟨did,0,none⟩)] [] S H0 X d c) (hD:K_Deal.R D H0 x dcs) (hDv:Has3 D H0 did 0 dcs) (hDD:∀id,D id→S id∧¬d.W id) (hp:K_Packet.R PX H0 p pcs) (hPX:∀id,PX id→S id∧¬d.W id) (hpv:Has3 S H0 pid 0 pcs) (hpid:¬d.W pid):
  SpecW Tryz.prog S H0 d.W 249 [.pointer (some ⟨d.hid,0,none⟩),.pointer (some ⟨pid,0,none⟩)] (fun n v H1=>HlPost HTS [.pointer (some ⟨did,0,none⟩)] [] X d (come x c p) n H1):=by
 obtain⟨pa1,pc1,pa2,pc2,rfl,hp1,hp2⟩:=split_Packet hp
 obtain⟨pb,ph,pe,pv,pt⟩:=p
 simp only at hp1 hp2 hpv hp ⊢
 refine SpecW.of0 Tryz.func249 rfl (by kernel_rfl) rfl (fun H hfin hfz=>?_)
 haveI o:On S H0 (Low H.n) H:=⟨fun id hs=>⟨(hfz id hs).1,(hfz id hs).2⟩⟩
 have h:=h.on (S':=Low H.n) (A':=H)
 have hp0:K_Packet.R PX H (pb,ph,pe,pv,pt) _:=K_Packet.same (fun id hid=>(hfz id (hPX id hid).1).2) hp
 have hp1:KI.Sl PX H _ _:=Kn.Sl.same (fun id hid=>(hfz id (hPX id hid).1).2) hp1
 have hp2:KI.Sl PX H _ _:=Kn.Sl.same (fun id hid=>(hfz id (hPX id hid).1).2) hp2
 have hD:K_Deal.R D H x dcs:=K_Deal.same (fun id hid=>(hfz id (hDD id hid).1).2) hD
 have hDv:Has3 D H did 0 dcs:=by
  obtain⟨d0,b,d1,d2⟩:=hDv
  exact⟨d0,b,((hfz did (hDD did d0).1).2).trans d1,d2⟩
 have hpv:Has3 (Low H.n) H pid 0 _:=hpv.up
 have hPX:∀id,PX id→id<H.n∧¬d.W id:=fun id hid=>⟨(hfz id (hPX id hid).1).1,(hPX id hid).2⟩
 have hDD:∀id,D id→id<H.n∧¬d.W id:=fun id hid=>⟨(hfz id (hDD id hid).1).1,(hDD id hid).2⟩
 obtain⟨hid,sid,gid,bid,nid,w⟩:=d
 have hc:=h.cellsH
 have hh:=h.hall
 obtain⟨hs0,scs,hs1,hscl⟩:=h.seats
 obtain⟨n1,n2,n3,n4,n5⟩:=HD.nodup h.dist
 simp only at n1 n2 n3 n4 n5 hs0 hs1
 have hho:0≤ph∧ph<x.1.1:=hpk.ho
 have hsl:=hok.sl
 cases pb with
 | true=>
  have ecome:come x c (true,ph,pe,pv,pt)=comeO x (fresh c pe) (true,ph,pe,pv,pt):=rfl
  rw[ecome]
  refine KW.ldF 0 hpv U U U U U U U U U ?_
  refine KW.cT U U (by first | (simp;done) | decide) ?_
  refine KW.callW h.w U U U U U (specOpened (p:=(true,ph,pe,pv,pt)) hd hB hok hpk h hD hDv hDD hp0 hPX hpv hpid) (fun v H6 S6 m6 t6 w6 hv=>?_)
  refine KW.retW U U U U (fun H1 g=>by have:=g.n_;omega) (fun id p hw=>⟨(t6 id p).1,(t6 id p).2 hw⟩) (fun H7 g=>?_)
  refine HlPost.mem hv (fun id p=>(g.froz id ?_).2) (by have:=g.n_;omega)
  rcases p with p | p | p
  ·exact(t6 id (h.w id p)).1
  ·exact(t6 id (h.sx id p)).1
  ·exact w6 id p
 | false=>
  have ecome:come x c (false,ph,pe,pv,pt)=comeS c (false,ph,pe,pv,pt):=rfl
  rw[ecome]
  obtain⟨hse,hsok⟩:=hok.seat hpk.ho
  simp only at hse
  obtain⟨s,hs⟩:∃s,c.seat ph=s:=⟨_,rfl⟩
  have ecS:comeS c (false,ph,pe,pv,pt)=if s.1.1<pe then⟨c.ep,c.seats.set ph.toNat ((pe,pv,pt),s.2),c.oe,c.got,c.has,c.named,c.wire⟩ else c:=by unfold comeS;rw[← hs]
  rw[ecS]
  rw[hs] at hse
  have hR:=hscl.2 _ _ hse
  obtain⟨ps,qs,hseg,hR1,hR2⟩:=split_Seat hR
  obtain⟨b1,e1,b2,e2,rfl,hR3,hR4⟩:=split_Purse hR1
  have f0:scs[0+ph.toNat*7]?=some (.int .i64 s.1.1):=by
   have:=seg_at (q:=0) hseg rfl
   rw[Nat.zero_add];exact this
  have hvl:=hpk.rw.vl
  have hrl:=rowsOf_len x.1.2.1 ph
  have hol:x.1.2.1.length≤1048576:=hB.1.2.1
  have hpt:pt.length≤1048576:=by have:pt.length=(rowsOf x.1.2.1 ph).length:=hpk.rw.tl;omega
  have hpv1:pv.length=(rowsOf x.1.2.1 ph).length:=hvl
  refine KW.ldF 0 hpv U U U U U U U U U ?_
  refine KW.cF U U (by first | (simp;done) | decide) ?_
  refine KW.ldF 2 hc U U U U U U U U U ?_
  refine KW.ldF 1 hpv U U U U U U U U U ?_
  refine KW.idx0 U U U U U U U U U (by omega) (by show ph<((c.seats.length:Nat):Int);omega) ?_
  refine KW.ldF 2 hpv U U U U U U U U U ?_
  refine KW.ldC hs0 hs1 f0 U U U U U U U ?_
  refine KW.cnd U U (fun k1=>?_) (fun k1=>?_)
  ·have k1:pe>s.1.1:=k1
   rw[if_pos (show s.1.1<pe by omega)]
   refine KW.ldF 2 hpv U U U U U U U U U ?_
   refine KW.ldF 3 hpv U U U U U U U U U ?_
   have hq1:KI.Sl (Low H.n) H _ _:=hp1.more (fun id p=>(hPX id p).1)
   have hq2:KI.Sl (Low H.n) H _ _:=hp2.more (fun id p=>(hPX id p).1)
   refine KW.callN1 U U U U U (l00Own (by omega) hq1) (fun v H1 S1 m1 _ _ hv=>?_)
   obtain⟨a1,q1,rfl,hO1⟩:=hv
   refine KW.ldF 4 hpv.up U U U U U U U U U ?_
   refine KW.callN1 U U U U U (l00Own (by omega) hq2.up) (fun v H2 S2 m2 _ _ hv=>?_)
   obtain⟨a2,q2,rfl,hO2⟩:=hv
   refine KW.build U U U U U (built_Purse _ _ _ _ _ _ _) ?_
   have o1:=(inferInstance:On (New H.n H1.n) H1 S1 H1)
   have o2:=(inferInstance:On (New H1.n H2.n) H2 S2 H2)
   have o12:=(inferInstance:On S1 H1 S2 H2)
   have o02:=(inferInstance:On (Low H.n) H S2 H2)
   refine KW.thaw sid _ (o02.st sid hs0).1 ((o02.st sid hs0).2.trans hs1) ?_
   have hle:ph.toNat*7+7≤scs.length:=by have:=hscl.1;have h2:=mul_le' (e:=7) (List.getElem?_eq_some_iff.1 hse).1;have:c.seats.length*7≤scs.length:=this;omega
   refine KW.stB 0 U U U U U U (bstore_agg U U U (by show 0+ph.toNat*7+3≤scs.length;omega) rfl) ?_
   refine KW.endW U U U U (fun H1 g=>by have:=g.n_;omega) (fun id hid hw=>⟨⟨(o02.st id hid).1,fun e=>hw (by rw[e];exact HD.Win.2.1)⟩,(o02.st id hid).2⟩) (fun H3 g=>?_)
   have hn3:=g.n_
   have hsn:sid<H.n:=hs0
   have hnew:=(g.blk (j:=0) rfl).1
   have xk:∀id,X id→H3.m id=H.m id:=fun id p=>by
    have p0:=h.sx id p
    exact((g.froz id ⟨(o02.st id p0).1,fun e=>h.out id p (by rw[e];exact HD.Win.2.1)⟩).2).trans (o02.st id p0).2
   have hN1:KI.Sl (fun id=>X id∨New H.n H3.n id) H3 (.slice a1 pv.length q1) pv:=sl_mk hO1.sl (fun id p=>by
    have q1:=o1.st id p
    have q2:=o12.st id q1.1
    have p1:=p.1
    have p2:=p.2
    have q3:=g.froz id ⟨q2.1,by omega⟩
    exact⟨.inr ⟨by omega,by omega⟩,(q3.2.trans q2.2).trans q1.2⟩)
   have hN2:KI.Sl (fun id=>X id∨New H.n H3.n id) H3 (.slice a2 pt.length q2) pt:=sl_mk hO2.sl (fun id p=>by
    have q1:=o2.st id p
    have p1:=p.1
    have p2:=p.2
    have q3:=g.froz id ⟨q1.1,by omega⟩
    exact⟨.inr ⟨by omega,by omega⟩,q3.2.trans q1.2⟩)
   have hscl3:Cl K_Seat X H3 c.seats scs:=hscl.mv xk (fun _ p=>p)
   have hR23:K_Purse.R X H3 _ _:=K_Purse.same xk hR2
   have hcl:=hscl3.part (y:=((pe,pv,pt),s.2)) (a:=[]) (b:=[.int .i64 s.1.1,.slice b1 s.1.2.1.length e1,.slice b2 s.1.2.2.length e2]) (r:=qs++[.int .i64 s.2.2]) (b':=[.int .i64 pe,.slice a1 pv.length q1,.slice a2 pt.length q2]) (X':=fun id=>X id∨New H.n H3.n id) hse hseg rfl (fun id p=>.inl p) (show K_Seat.R (fun id=>X id∨New H.n H3.n id) H3 ((pe,pv,pt),s.2) ([.int .i64 pe,.slice a1 pv.length q1,.slice a2 pt.length q2]++(qs++[.int .i64 s.2.2])) from mk_Seat (x:=((pe,pv,pt),s.2)) (mk_Purse (x:=(pe,pv,pt)) hN1 hN2) (K_Purse.more (fun id p=>.inl p) hR23))
   have e0:0+ph.toNat*7=ph.toNat*K_Seat.es+([]:List Value).length:=by show 0+ph.toNat*7=ph.toNat*7+0;omega
   refine h.reSeatsN (by simp) (fun id h1 h2=>((g.froz id ⟨(o02.st id h1).1,h2⟩).2).trans (o02.st id h1).2) (cs:=splice scs (ph.toNat*K_Seat.es+([]:List Value).length) _) ?_ hcl.1
   rw[← e0]
   exact hnew
  ·have k1:¬pe>s.1.1:=k1
   rw[if_neg (show ¬s.1.1<pe by omega)]
   exact KW.endW U U U U (fun H1 g=>by have:=g.n_;omega) (fun id hid _=>⟨hid,rfl⟩) (fun H1 g=>HlPost.same h (fun id p=>p) (fun id hid=>(g.froz id hid).2))
end
theorem seg_mid {l ys:List Value} {k q n:Nat} (hk:k+ys.length≤l.length) (h1:k≤q) (h2:q+n≤k+ys.length):((splice l k ys).drop q).take n=(ys.drop (q-k)).take n:=by
 refine List.ext_getElem? fun j=>?_
 rw[List.getElem?_take,List.getElem?_take]
 split
 ·rw[List.getElem?_drop,List.getElem?_drop,splice_get l k ys hk,if_neg (by omega),if_pos (by omega)]
  congr 1;omega
 ·rfl
theorem Cl.cell1 {X:Ids} {A:AH} {ps:List T_Packet} {cs:List Value} (h:Cl K_Packet X A ps cs) {j:Nat} (hj:j<ps.length*5):∃v,cs[j]?=some v∧v.oneCell'=true:=by
 have hi:j / 5<ps.length:=Nat.div_lt_of_lt_mul (by omega)
 have hR:=h.2 (j / 5) _ (List.getElem?_eq_getElem hi)
 obtain⟨a1,c1,a2,c2,hseg,_,_⟩:=split_Packet hR
 have hm:=Nat.mod_lt j (show 0<5 by decide)
 have e:j / 5*K_Packet.es+j%5=j:=by show j / 5*5+j%5=j;omega
 have at_:∀(q:Nat) v,q=j%5→([.bool ps[j / 5].1,.int .i64 ps[j / 5].2.1,.int .i64 ps[j / 5].2.2.1,.slice a1 ps[j / 5].2.2.2.1.length c1,.slice a2 ps[j / 5].2.2.2.2.length c2]:List Value)[q]?=some v→cs[j]?=some v:=fun q v hq hv=>by
  have:=seg_at hseg hv
  rw[hq,e] at this
  exact this
 rcases(by omega:j%5=0∨j%5=1∨j%5=2∨j%5=3∨j%5=4) with h | h | h | h | h
 ·exact⟨_,at_ 0 _ h.symm rfl,rfl⟩
 ·exact⟨_,at_ 1 _ h.symm rfl,rfl⟩
 ·exact⟨_,at_ 2 _ h.symm rfl,rfl⟩
 ·exact⟨_,at_ 3 _ h.symm rfl,rfl⟩
 ·exact⟨_,at_ 4 _ h.symm rfl,rfl⟩
theorem Cl.ones {X:Ids} {A:AH} {ps:List T_Packet} {cs:List Value} (h:Cl K_Packet X A ps cs) {k m:Nat} (hk:k+m≤ps.length*5):((cs.drop k).take m).all Value.oneCell'=true:=by
 refine List.all_eq_true.2 fun v hv=>?_
 obtain⟨j,hj⟩:=List.getElem?_of_mem hv
 rw[List.getElem?_take] at hj
 split at hj
 ·rename_i hjm
  rw[List.getElem?_drop] at hj
  obtain⟨u,h1,h2⟩:=h.cell1 (j:=k+j) (by omega)
  rw[h1] at hj
  cases hj
  exact h2
 ·cases hj
theorem zarr_alls {z:Value} (hz:z.cells.toList.all Value.oneCell'=true) (hs:0<z.cells.size) (m:Nat):(zarr z m).all Value.oneCell'=true:=by
 rw[Array.all_eq_true]
 intro i hi
 simp only[zarr,Array.getElem_map,Array.getElem_range]
 have h:=Nat.mod_lt i hs
 rw[getElem!_pos z.cells _ h]
 exact Array.all_eq_true.1 ((Array.all_toList ..).symm.trans hz) _ h
theorem del_cells {X:Ids} {A:AH} {ps:List T_Packet} {cs ys zs:List Value} {a:Nat} (hx:Cl K_Packet X A ps cs) (ha:a<ps.length) (hys:ys=(cs.drop (0+(a+1)*5)).take ((ps.length-(a+1))*5)) (hzs:zs.length=(ps.length-(a+(ps.length-(a+1))))*5):
  Cl K_Packet X A (ps.eraseIdx a) (splice (splice cs (0+a*5) ys) (0+(a+(ps.length-(a+1)))*5) zs):=by
 have hl1:ps.length*5≤cs.length:=hx.1
 have hyl:ys.length=(ps.length-(a+1))*5:=by rw[hys,List.length_take,List.length_drop];omega
 have hk1:0+a*5+ys.length≤cs.length:=by rw[hyl];omega
 have hl2:=splice_length _ _ _ hk1
 have hk2:0+(a+(ps.length-(a+1)))*5+zs.length≤(splice cs (0+a*5) ys).length:=by rw[hl2,hzs];omega
 refine hx.erase ha ?_ (fun j hj=>?_) (fun j h1 h2=>?_)
 ·show(ps.length-1)*5≤_
  rw[splice_length _ _ _ hk2,hl2]
  omega
 ·show((splice _ _ _).drop (j*5)).take 5=(cs.drop (j*5)).take 5
  rw[seg_splice hk2 (.inl (by omega)),seg_splice hk1 (.inl (by omega))]
 ·show((splice _ _ _).drop (j*5)).take 5=(cs.drop ((j+1)*5)).take 5
  rw[seg_splice hk2 (.inl (by omega)),seg_mid hk1 (by omega) (by rw[hyl];omega),hys,List.drop_take,List.take_take,List.drop_drop]
  congr 1
  ·omega
  ·congr 1
   omega
section
variable {S:Ids} {H0:AH} {X:Ids}
theorem deletePk {ps:List T_Packet} {cs:List Value} {i q a:Nat} (hS:S i) (hm:H0.m i=some ⟨197,true,cs⟩) (hcl:Cl K_Packet X H0 ps cs) (hq:ps.length≤q) (ha:a<ps.length) (h12:ps.length≤12) (hX:∀id,X id→S id∧id≠i):
  SpecW Tryz.prog S H0 (fun id=>id=i) 207 [.slice (some ⟨i,0,some 5⟩) ps.length q,.int .i64 (a:Nat),.int .i64 ((a+1:Nat):Int)]
   (fun n v H1=>v=.slice (some ⟨i,0,some 5⟩) (ps.length-1) q∧∃cs',H1.m i=some ⟨197,true,cs'⟩∧Cl K_Packet X H1 (ps.eraseIdx a) cs'):=by
 refine SpecW.of Tryz.func207 rfl (by kernel_rfl) rfl hS hm (fun H hfin hfz=>?_)
 have hXm:∀id,X id→H.m id=H0.m id:=fun id p=>(hfz id (hX id p).1).2
 have hX:∀id,X id→id<H.n∧id≠i:=fun id p=>⟨(hfz id (hX id p).1).1,(hX id p).2⟩
 have hl1:ps.length*5≤cs.length:=hcl.1
 refine KW.cut3 U U U U U U U U U U U (l:=a) (h_:=a+1) (m:=ps.length) U U U (by omega) (by omega) hq (fun v0=>?_)
 refine KW.no U U (by omega) ?_
 refine KW.cutT U U U U U U U U U (m:=a) rfl (by omega) ?_
 refine KW.cutF U U U U U U U U U (l:=a+1) rfl (by omega) hq (fun v hv=>?_)
 have hyl:((cs.drop (0+(a+1)*5)).take ((ps.length-(a+1))*5)).length=(ps.length-(a+1))*5:=by rw[List.length_take,List.length_drop];omega
 refine KW.appI (m:=ps.length-(a+1)) (ys:=(cs.drop (0+(a+1)*5)).take ((ps.length-(a+1))*5)) 0 U U U U U U U U (fun H1 g=>?_) (by omega) (by show 0+a*5+_≤cs.length;rw[hyl];omega) (hcl.ones (by omega)) ?_
 ·rcases hv with rfl | ⟨h0,b,r,rfl⟩
  ·have:=acells_seg (m:=ps.length-(a+1)) (off:=0+(a+1)*5) (es:=5) (c:=q-(a+1)) (g.blk (j:=0) rfl).1 (by show 0+(a+1)*5+(ps.length-(a+1))*5≤cs.length;omega)
   exact this
  ·rw[h0]
   simp only[Nat.zero_mul,List.take_zero]
   exact acells_nil _ _ _ _
 refine KW.cutM U U U U U U U U U U (l:=a+(ps.length-(a+1))) (h_:=ps.length) U U (by omega) hq (by omega) ?_
 have hzl:∀(z:Value) (m:Nat),(zarr z m).toList.length=m:=fun z m=>by simp[zarr]
 refine KW.clr 0 U U U U U U U U U U U (by omega) (by have:=splice_length cs (0+a*5) ((cs.drop (0+(a+1)*5)).take ((ps.length-(a+1))*5)) (by rw[hyl];omega);show 0+(a+(ps.length-(a+1)))*5+(ps.length-(a+(ps.length-(a+1))))*5≤(splice cs (0+a*5) _).length;rw[this];omega) (zarr_alls rfl (by decide) _) ?_
 refine KW.retW U U U U (fun H1 g=>by have:=g.n_;omega) (fun id h1 hw=>⟨⟨h1,hw⟩,rfl⟩) (fun H1 g=>⟨by rw[show ps.length-1=a+(ps.length-(a+1)) by omega];rfl,_,(g.blk (j:=0) rfl).1,?_⟩)
 have hx:=hcl.mv (A':=H1) (X':=X) (fun id p=>((g.froz id (hX id p)).2).trans (hXm id p)) (fun _ p=>p)
 exact del_cells hx ha rfl (hzl _ _)
end
theorem Cl.less {X:Ids} {A:AH} {ps:List T_Packet} {cs:List Value} (h:Cl K_Packet X A ps cs) {i:Nat} (hi:i<ps.length):Cl K_Packet X A (ps.eraseIdx i) (([]++(cs.drop 0).take (i*5))++([]++(cs.drop (0+(i+1)*5)).take ((ps.length-(i+1))*5))):=by
 have hl:ps.length*5≤cs.length:=h.1
 have l1:((cs.drop 0).take (i*5)).length=i*5:=by simp;omega
 have l2:((cs.drop (0+(i+1)*5)).take ((ps.length-(i+1))*5)).length=(ps.length-(i+1))*5:=by simp;omega
 rw[List.nil_append,List.nil_append]
 refine h.erase hi (by show(ps.length-1)*5≤_;rw[List.length_append,l1,l2];omega) (fun j hj=>?_) (fun j h1 h2=>?_)
 ·show(_:List Value)=(cs.drop (j*5)).take 5
  show List.take 5 (List.drop (j*5) _)=_
  rw[List.drop_append_of_le_length (by omega),List.take_append_of_le_length (by rw[List.length_drop,l1];omega)]
  rw[List.drop_zero,List.drop_take,List.take_take,Nat.min_eq_left (by omega)]
 ·show List.take 5 (List.drop (j*5) _)=(cs.drop ((j+1)*5)).take 5
  rw[List.drop_append,List.drop_eq_nil_of_le (by omega),List.nil_append,l1,List.drop_take,List.take_take,Nat.min_eq_left (by omega),List.drop_drop]
  congr 2
  omega
theorem come_drop {x:T_Deal} {c:Cer} {p:T_Packet} {i:Nat}:come x (dropW c i) p=dropW (come x c p) i:=by
 have hc:∀c,comeS (dropW c i) p=dropW (comeS c p) i:=fun c=>by
  unfold comeS
  show(if(c.seat p.2.1).1.1<p.2.2.1 then _ else _)=_
  split<;>rfl
 have hf:∀e,fresh (dropW c i) e=dropW (fresh c e) i:=fun e=>by
  unfold fresh
  show(if c.oe<e then _ else _)=_
  split<;>rfl
 have ho:∀c,comeO x (dropW c i) p=dropW (comeO x c p) i:=fun c=>by
  unfold comeO
  show(if p.2.2.1=c.oe∧c.named.getD p.2.1.toNat false=false∧c.has.getD p.2.1.toNat false=false then _ else _)=_
  split
  ·split<;>rfl
  ·rfl
 unfold come
 split
 ·rw[hf,ho]
 ·exact hc c
theorem come_wire {x:T_Deal} {c:Cer} {p:T_Packet}:(come x c p).wire=c.wire:=by
 unfold come comeO comeS fresh
 repeat' split
 all_goals rfl
section
variable {S:Ids} {H0:AH} {X PX D:Ids} {d:HD} {c:Cer} {dcs:List Value} {x:T_Deal}
theorem specWire4 {A B:Int} {did:Nat} (hd:DealOk x) (hB:B_Deal x) (hok:CerOk x c) (h:Hl HTS [.pointer (some ⟨did,0,none⟩)] [] S H0 X d c) (hD:K_Deal.R D H0 x dcs) (hDv:Has3 D H0 did 0 dcs) (hDD:∀id,D id→S id∧¬d.W id) (hA0:0≤A∧A≤999):
  SpecW Tryz.prog S H0 d.W 196 [.pointer (some ⟨d.hid,0,none⟩),.agg [.int .i64 4,.int .i64 A,.int .i64 B].toArray] (HlRes HTS [.pointer (some ⟨did,0,none⟩)] [] X d (doIt x c (4,A,B))):=by
 refine SpecW.of0 Tryz.func196 rfl (by kernel_rfl) rfl (fun H hfin hfz=>?_)
 haveI o:On S H0 (Low H.n) H:=⟨fun id hs=>⟨(hfz id hs).1,(hfz id hs).2⟩⟩
 have h:=h.on (S':=Low H.n) (A':=H)
 have hD:K_Deal.R D H x dcs:=K_Deal.same (fun id hid=>(hfz id (hDD id hid).1).2) hD
 have hDv:Has3 D H did 0 dcs:=by
  obtain⟨d0,b,d1,d2⟩:=hDv
  exact⟨d0,b,((hfz did (hDD did d0).1).2).trans d1,d2⟩
 have hDD:∀id,D id→id<H.n∧¬d.W id:=fun id hid=>⟨(hfz id (hDD id hid).1).1,(hDD id hid).2⟩
 obtain⟨hid,sid,gid,bid,nid,w⟩:=d
 have hc:=h.cellsH
 have hh:=h.hall
 have hsl:=hok.sl
 have e:doIt x c (4,A,B)=if(c.wire.length:Int)≤A then(c,2) else(come x c (c.pk A),0):=rfl
 rw[e]
 have hwi:=h.wire
 cases w with
 | none=>
  have ew:c.wire=[]:=hwi
  have el:c.wire.length=0:=by rw[ew];rfl
  refine KW.ldF 7 hc U U U U U U U U U ?_
  refine KW.yes U U (by omega) ?_
  rw[if_pos (by omega)]
  exact KW.retW U U U U (fun H1 g=>by have:=g.n_;omega) (fun id hid _=>⟨hid,rfl⟩) (fun H1 g=>⟨rfl,HlPost.same h (fun id p=>p) (fun id hid=>(g.froz id hid).2)⟩)
 | some iq=>
  obtain⟨i,q⟩:=iq
  obtain⟨hi1,hq,wcs,hi2,hcl⟩:=hwi
  have li:i<H.n:=hi1
  refine KW.ldF 7 hc U U U U U U U U U ?_
  refine KW.cnd U U (fun k1=>?_) (fun k1=>?_)
  ·have k1:A≥(c.wire.length:Int):=k1
   rw[if_pos (by omega)]
   exact KW.retW U U U U (fun H1 g=>by have:=g.n_;omega) (fun id hid _=>⟨hid,rfl⟩) (fun H1 g=>⟨rfl,HlPost.same h (fun id p=>p) (fun id hid=>(g.froz id hid).2)⟩)
  have k1:¬A≥(c.wire.length:Int):=k1
  rw[if_neg (by omega)]
  obtain⟨hpk,hpok⟩:=hok.pk hA0.1 (by omega)
  have hwl:c.wire.length*5≤wcs.length:=hcl.1
  have eA:A=((A.toNat:Nat):Int):=by omega
  have ewA:IntKind.i64.wrap (A+1)=((A.toNat+1:Nat):Int):=by rw[wr (by omega) (by omega)];omega
  have hpX:=hcl.2 _ _ hpk
  obtain⟨pa1,pc1,pa2,pc2,eseg,hq1,hq2⟩:=split_Packet hpX
  rw[eseg] at hpX
  refine KW.cT U U (by first | (simp;done) | decide) ?_
  refine KW.ldF 7 hc U U U U U U U U U ?_
  refine KW.idx0 U U U U U U U U U (by omega) (by omega) ?_
  refine KW.ldP hi1 hi2 U U U U U (bload_seg (ps:=[.bool (c.pk A).1,.int .i64 (c.pk A).2.1,.int .i64 (c.pk A).2.2.1,.slice pa1 (c.pk A).2.2.2.1.length pc1,.slice pa2 (c.pk A).2.2.2.2.length pc2]) U U U (by show 0+A.toNat*5+5≤wcs.length;omega) (by rw[Nat.zero_add];exact eseg)) ?_
  refine KW.callWF 1 U U U U U U (fun A9 S9 hn9 hS9 t9 hm9 ho9 hno9 hlt9=>?_)
  have k9:∀id,id<H.n→S9 id∧A9.m id=H.m id:=fun id p=>t9.st id p
  have h9:Hl HTS [.pointer (some ⟨did,0,none⟩)] [] S9 A9 X ⟨hid,sid,gid,bid,nid,some (i,q)⟩ c:=h.mv fun id p=>k9 id (p.elim (h.w id) (h.sx id))
  have hX9:K_Packet.R X A9 (c.pk A) _:=K_Packet.same (fun id p=>(k9 id (h.sx id p)).2) hpX
  have hD9:K_Deal.R D A9 x dcs:=K_Deal.same (fun id p=>(k9 id (hDD id p).1).2) hD
  have hDv9:Has3 D A9 did 0 dcs:=by
   obtain⟨d0,b,d1,d2⟩:=hDv
   exact⟨d0,b,((k9 did (hDD did d0).1).2).trans d1,d2⟩
  refine⟨_,_,h9.w,specCome (p:=c.pk A) (PX:=X) hd hB hok hpok h9 hD9 hDv9 (fun id p=>⟨(k9 id (hDD id p).1).1,(hDD id p).2⟩) hX9 (fun id p=>⟨(k9 id (h.sx id p)).1,h.out id p⟩) ⟨(hS9 _).2 (.inr rfl),_,hm9,fun i v hv=>by rw[Nat.zero_add];exact hv⟩ (fun p=>by have:H.n+1<H.n:=h.w _ p;omega),fun v H6 S6 m6 t6 w6 hv=>?_⟩
  refine KW.cF U U (by first | (simp;done) | decide) ?_
  refine KW.retW U U U U (fun H1 g=>by have:=g.n_;omega) (fun id p hw=>⟨(t6 id (k9 id p).1).1,((t6 id (k9 id p).1).2 hw).trans (k9 id p).2⟩) (fun H7 g=>⟨rfl,?_⟩)
  refine HlPost.lift (HlPost.mem hv (fun id p=>(g.froz id ?_).2) (by have:=g.n_;omega)) (by omega) (by have:=g.n_;omega) rfl (fun id p=>.inl p) (fun id p=>.inl p)
  rcases p with p | p | p
  ·exact(t6 id (h9.w id p)).1
  ·exact(t6 id (h9.sx id p)).1
  ·exact w6 id p
theorem specWire3 {A B:Int} {did:Nat} (hd:DealOk x) (hB:B_Deal x) (hok:CerOk x c) (h:Hl HTS [.pointer (some ⟨did,0,none⟩)] [] S H0 X d c) (hD:K_Deal.R D H0 x dcs) (hDv:Has3 D H0 did 0 dcs) (hDD:∀id,D id→S id∧¬d.W id) (hA0:0≤A∧A≤999):
  SpecW Tryz.prog S H0 d.W 196 [.pointer (some ⟨d.hid,0,none⟩),.agg [.int .i64 3,.int .i64 A,.int .i64 B].toArray] (HlRes HTS [.pointer (some ⟨did,0,none⟩)] [] X d (doIt x c (3,A,B))):=by
 refine SpecW.of0 Tryz.func196 rfl (by kernel_rfl) rfl (fun H hfin hfz=>?_)
 haveI o:On S H0 (Low H.n) H:=⟨fun id hs=>⟨(hfz id hs).1,(hfz id hs).2⟩⟩
 have h:=h.on (S':=Low H.n) (A':=H)
 have hD:K_Deal.R D H x dcs:=K_Deal.same (fun id hid=>(hfz id (hDD id hid).1).2) hD
 have hDv:Has3 D H did 0 dcs:=by
  obtain⟨d0,b,d1,d2⟩:=hDv
  exact⟨d0,b,((hfz did (hDD did d0).1).2).trans d1,d2⟩
 have hDD:∀id,D id→id<H.n∧¬d.W id:=fun id hid=>⟨(hfz id (hDD id hid).1).1,(hDD id hid).2⟩
 obtain⟨hid,sid,gid,bid,nid,w⟩:=d
 have hc:=h.cellsH
 have hh:=h.hall
 have hsl:=hok.sl
 have e:doIt x c (3,A,B)=if(c.wire.length:Int)≤A then(c,2) else(come x (dropW c A.toNat) (c.pk A),0):=rfl
 rw[e]
 have hwi:=h.wire
 cases w with
 | none=>
  have ew:c.wire=[]:=hwi
  have el:c.wire.length=0:=by rw[ew];rfl
  refine KW.ldF 7 hc U U U U U U U U U ?_
  refine KW.yes U U (by omega) ?_
  rw[if_pos (by omega)]
  exact KW.retW U U U U (fun H1 g=>by have:=g.n_;omega) (fun id hid _=>⟨hid,rfl⟩) (fun H1 g=>⟨rfl,HlPost.same h (fun id p=>p) (fun id hid=>(g.froz id hid).2)⟩)
 | some iq=>
  obtain⟨i,q⟩:=iq
  obtain⟨hi1,hq,wcs,hi2,hcl⟩:=hwi
  have li:i<H.n:=hi1
  refine KW.ldF 7 hc U U U U U U U U U ?_
  refine KW.cnd U U (fun k1=>?_) (fun k1=>?_)
  ·have k1:A≥(c.wire.length:Int):=k1
   rw[if_pos (by omega)]
   exact KW.retW U U U U (fun H1 g=>by have:=g.n_;omega) (fun id hid _=>⟨hid,rfl⟩) (fun H1 g=>⟨rfl,HlPost.same h (fun id p=>p) (fun id hid=>(g.froz id hid).2)⟩)
  have k1:¬A≥(c.wire.length:Int):=k1
  rw[if_neg (by omega)]
  obtain⟨hpk,hpok⟩:=hok.pk hA0.1 (by omega)
  have hwl:c.wire.length*5≤wcs.length:=hcl.1
  have eA:A=((A.toNat:Nat):Int):=by omega
  have ewA:IntKind.i64.wrap (A+1)=((A.toNat+1:Nat):Int):=by rw[wr (by omega) (by omega)];omega
  have hpX:=hcl.2 _ _ hpk
  obtain⟨pa1,pc1,pa2,pc2,eseg,hq1,hq2⟩:=split_Packet hpX
  rw[eseg] at hpX
  refine KW.cT U U (by first | (simp;done) | decide) ?_
  refine KW.ldF 7 hc U U U U U U U U U ?_
  refine KW.idx0 U U U U U U U U U (by omega) (by omega) ?_
  refine KW.ldP hi1 hi2 U U U U U (bload_seg (ps:=[.bool (c.pk A).1,.int .i64 (c.pk A).2.1,.int .i64 (c.pk A).2.2.1,.slice pa1 (c.pk A).2.2.2.1.length pc1,.slice pa2 (c.pk A).2.2.2.2.length pc2]) U U U (by show 0+A.toNat*5+5≤wcs.length;omega) (by rw[Nat.zero_add];exact eseg)) ?_
  refine KW.callWF 1 U U U U U U (fun A9 S9 hn9 hS9 t9 hm9 ho9 hno9 hlt9=>?_)
  have k9:∀id,id<H.n→S9 id∧A9.m id=H.m id:=fun id p=>t9.st id p
  have h9:Hl HTS [.pointer (some ⟨did,0,none⟩)] [] S9 A9 X ⟨hid,sid,gid,bid,nid,some (i,q)⟩ c:=h.mv fun id p=>k9 id (p.elim (h.w id) (h.sx id))
  have hX9:K_Packet.R X A9 (c.pk A) _:=K_Packet.same (fun id p=>(k9 id (h.sx id p)).2) hpX
  have hD9:K_Deal.R D A9 x dcs:=K_Deal.same (fun id p=>(k9 id (hDD id p).1).2) hD
  have hDv9:Has3 D A9 did 0 dcs:=by
   obtain⟨d0,b,d1,d2⟩:=hDv
   exact⟨d0,b,((k9 did (hDD did d0).1).2).trans d1,d2⟩
  refine⟨_,_,h9.w,specCome (p:=c.pk A) (PX:=X) hd hB hok hpok h9 hD9 hDv9 (fun id p=>⟨(k9 id (hDD id p).1).1,(hDD id p).2⟩) hX9 (fun id p=>⟨(k9 id (h.sx id p)).1,h.out id p⟩) ⟨(hS9 _).2 (.inr rfl),_,hm9,fun i v hv=>by rw[Nat.zero_add];exact hv⟩ (fun p=>by have:H.n+1<H.n:=h.w _ p;omega),fun v H6 S6 m6 t6 w6 hv=>?_⟩
  obtain⟨X1,dd1,h1,ed1,hX1,hd1⟩:=hv
  obtain⟨hid1,sid1,gid1,bid1,nid1,w1⟩:=dd1
  have ed1:hid1=hid:=ed1
  subst ed1
  have f9:∀id,S9 id→id<H6.n:=fun id p=>by have:=hlt9;rcases(hS9 id).1 p with p | p;exact(by have:id<H.n:=p;omega);exact(by omega)
  have f6:∀id,(HD.W ⟨hid1,sid,gid,bid,nid,some (i,q)⟩ id∨X id∨New (H.n+1+1) H6.n id)→S6 id∧id<H6.n:=fun id p=>by
   rcases p with p | p | p
   ·exact⟨(t6 id (h9.w id p)).1,by have:id<H.n:=h.w id p;omega⟩
   ·exact⟨(t6 id (h9.sx id p)).1,by have:id<H.n:=h.sx id p;omega⟩
   ·exact⟨w6 id p,p.2⟩
  have h6:Hl HTS [.pointer (some ⟨did,0,none⟩)] [] (Low H6.n) H6 X1 ⟨hid1,sid1,gid1,bid1,nid1,w1⟩ (come x c (c.pk A)):=h1.mv fun id p=>⟨(f6 id (p.elim (h1.w id) (h1.sx id))).2,rfl⟩
  have h7:Hl HTS [.pointer (some ⟨did,0,none⟩)] [] S6 H6 X1 ⟨hid1,sid1,gid1,bid1,nid1,w1⟩ (come x c (c.pk A)):=h1.mv fun id p=>⟨(f6 id (p.elim (h1.w id) (h1.sx id))).1,rfl⟩
  have g6:∀id,id<H.n→S6 id∧(¬HD.W ⟨hid1,sid,gid,bid,nid,some (i,q)⟩ id→H6.m id=H.m id):=fun id p=>⟨(t6 id (k9 id p).1).1,fun hw=>((t6 id (k9 id p).1).2 hw).trans (k9 id p).2⟩
  have X1n:∀id,X1 id→X id∨New H.n H6.n id:=fun id p=>(hX1 id p).imp (fun p=>p) (fun p=>⟨by have:=p.1;omega,p.2⟩)
  have W1n:∀id,HD.W ⟨hid1,sid1,gid1,bid1,nid1,w1⟩ id→HD.W ⟨hid1,sid,gid,bid,nid,some (i,q)⟩ id∨New H.n H6.n id:=fun id p=>(hd1 id p).imp (fun p=>p) (fun p=>⟨by have:=p.1;omega,p.2⟩)
  have hm6:H.n≤H6.n:=by omega
  obtain⟨c1,hc1⟩:∃c1,come x c (c.pk A)=c1:=⟨_,rfl⟩
  have ewi:c1.wire=c.wire:=by rw[← hc1];exact come_wire
  rw[come_drop]
  rw[hc1] at h6 h7 ⊢
  have hw7:=h7.wire
  cases w1 with
  | none=>
   have ew:c1.wire=[]:=hw7
   have el:c1.wire.length=0:=by rw[ew];rfl
   exact absurd k1 (by rw[← ewi,el];omega)
  | some iq1=>
  obtain⟨i1,q1⟩:=iq1
  obtain⟨hj1,hq1',wcs1,hj2,hcl1⟩:=hw7
  simp only at hj1 hj2
  have hwl1:c1.wire.length*5≤wcs1.length:=hcl1.1
  have w12:c1.wire.length≤12:=by rw[ewi];exact hok.wl
  have hA1:A.toNat<c1.wire.length:=by rw[ewi];omega
  obtain⟨m7,n2,n3,n4,n5⟩:=HD.nodup h7.dist
  have nh:i1≠hid1:=(n5 i1 q1 rfl).1
  have hc7:=h7.cellsH
  refine KW.cT U U (by first | (simp;done) | decide) ?_
  refine KW.litS0 U U U U U U U U U U ?_
  refine KW.ldF 7 hc7 U U U U U U U U U ?_
  refine KW.cutF U U U U U U U U U (by exact ewA) (by omega) hq1' (fun v hv=>?_)
  refine KW.appU 1 U U U U U U U U (by decide) rfl (m:=c1.wire.length-(A.toNat+1)) (ys:=(wcs1.drop (0+(A.toNat+1)*5)).take ((c1.wire.length-(A.toNat+1))*5)) (by rfl) (by show _=_*5;simp;omega) (fun H1 g=>?_) (hcl1.ones (by omega)) (by show(0+_)*72≤_;omega) (by omega) (fun o1 na ho1 hna=>?_)
  ·have hb:=(g.froz i1 hj1).2.trans hj2
   rcases hv with rfl | ⟨e0,a,q,rfl⟩
   ·exact acells_seg hb (by show 0+(A.toNat+1)*5+(c1.wire.length-(A.toNat+1))*5≤wcs1.length;omega)
   ·rw[e0];simp only[Nat.zero_mul,List.take_zero];exact acells_nil _ _ _ _
  refine KW.litS0 U U U U U U U U U U ?_
  refine KW.ldF 7 hc7 U U U U U U U U U ?_
  refine KW.cutT U U U U U U U U U eA (by omega) ?_
  refine KW.appU 2 U U U U U U U U (by decide) rfl (m:=A.toNat) (ys:=(wcs1.drop 0).take (A.toNat*5)) (by rfl) (by show _=_*5;simp;omega) (fun H1 g=>acells_seg ((g.froz i1 hj1).2.trans hj2) (by show 0+A.toNat*5≤wcs1.length;omega)) (hcl1.ones (by omega)) (by show(0+_)*72≤_;omega) (by omega) (fun o2 nb ho2 hnb=>?_)
  have lk:([]++(wcs1.drop 0).take (A.toNat*5)).length=A.toNat*5:=by simp;omega
  have lr:([]++(wcs1.drop (0+(A.toNat+1)*5)).take ((c1.wire.length-(A.toNat+1))*5)).length=(c1.wire.length-(A.toNat+1))*5:=by simp;omega
  refine KW.appU 2 U U U U U U U U (by decide) rfl (m:=0+(c1.wire.length-(A.toNat+1))) (ys:=[]++(wcs1.drop (0+(A.toNat+1)*5)).take ((c1.wire.length-(A.toNat+1))*5)) (by show _=(0+A.toNat)*5;rw[lk];omega) (by show _=_*5;rw[lr];omega) (fun H1 g=>?_) (by rw[List.nil_append];exact hcl1.ones (by omega)) (by show(_+_)*72≤_;omega) (by omega) (fun o3 nc ho3 hnc=>?_)
  ·have hb:=(g.blk (j:=1) rfl).1
   have:=acells_seg (es:=5) (off:=0) (m:=0+(c1.wire.length-(A.toNat+1))) (c:=0+(c1.wire.length-(A.toNat+1))) hb (by show 0+_*5≤List.length _;rw[lr];omega)
   refine this.trans ?_
   rw[List.drop_zero,List.take_of_length_le (by show List.length _≤_;rw[lr];omega)]
  refine KW.thaw hid1 _ h7.hall.1 h7.hall.2 ?_
  refine KW.st1 3 U U U U U U U U U U U U (by show 7<([_]++([_,_,_,_,_,_,_]++[])).length;simp) ?_
  refine KW.retW U U U U (fun H1 g=>by have:=g.n_;omega) (fun id p hw=>⟨⟨(g6 id p).1,fun e=>hw (by rw[e];exact HD.Win.1)⟩,(g6 id p).2 hw⟩) (fun H9 g=>⟨rfl,?_⟩)
  have hn9:=g.n_
  have g3:=g.vars 2 _ rfl
  have elen:(c1.wire.eraseIdx A.toNat).length=0+A.toNat+(0+(c1.wire.length-(A.toNat+1))):=by rw[List.length_eraseIdx,if_pos hA1];omega
  refine HlPost.lift (HlPost.weak (X':=X1) (h6.reWireK (H1:=H9) (PX:=fun _=>False) (fun id p=>p.elim) (i:=o3) (q:=0+A.toNat+(0+(c1.wire.length-(A.toNat+1)))) (ps:=c1.wire.eraseIdx A.toNat) (by omega) (.inl ⟨?_,?_⟩) (fun id p1 p0 p2 p3=>?_) (0+A.toNat+(0+(c1.wire.length-(A.toNat+1)))) elen (g.blk (j:=3) rfl).1 (g.blk (j:=2) rfl).1 ((hcl1.less hA1).mv (fun _ _=>rfl) (fun id p=>.inl p)) (by omega)) (fun id p=>p.elim (fun p=>p) (fun p=>p.elim))) (by omega) (by omega) rfl X1n W1n
  ·omega
  ·omega
  ·have p0:S6 id:=p0.elim (h7.w id) (fun p=>p.elim (h7.sx id) (fun p=>p.elim))
   exact(g.froz id ⟨p0,p2⟩).2
theorem specWire5 {A B:Int} {did:Nat} (hd:DealOk x) (hB:B_Deal x) (hok:CerOk x c) (h:Hl HTS [.pointer (some ⟨did,0,none⟩)] [] S H0 X d c) (hD:K_Deal.R D H0 x dcs) (hDv:Has3 D H0 did 0 dcs) (hDD:∀id,D id→S id∧¬d.W id) (hA0:0≤A∧A≤999):
  SpecW Tryz.prog S H0 d.W 196 [.pointer (some ⟨d.hid,0,none⟩),.agg [.int .i64 5,.int .i64 A,.int .i64 B].toArray] (HlRes HTS [.pointer (some ⟨did,0,none⟩)] [] X d (doIt x c (5,A,B))):=by
 refine SpecW.of0 Tryz.func196 rfl (by kernel_rfl) rfl (fun H hfin hfz=>?_)
 haveI o:On S H0 (Low H.n) H:=⟨fun id hs=>⟨(hfz id hs).1,(hfz id hs).2⟩⟩
 have h:=h.on (S':=Low H.n) (A':=H)
 have hD:K_Deal.R D H x dcs:=K_Deal.same (fun id hid=>(hfz id (hDD id hid).1).2) hD
 have hDv:Has3 D H did 0 dcs:=by
  obtain⟨d0,b,d1,d2⟩:=hDv
  exact⟨d0,b,((hfz did (hDD did d0).1).2).trans d1,d2⟩
 have hDD:∀id,D id→id<H.n∧¬d.W id:=fun id hid=>⟨(hfz id (hDD id hid).1).1,(hDD id hid).2⟩
 obtain⟨hid,sid,gid,bid,nid,w⟩:=d
 have hc:=h.cellsH
 have hh:=h.hall
 have hsl:=hok.sl
 have e:doIt x c (5,A,B)=if(c.wire.length:Int)≤A then(c,2) else(dropW c A.toNat,0):=rfl
 rw[e]
 have hwi:=h.wire
 cases w with
 | none=>
  have ew:c.wire=[]:=hwi
  have el:c.wire.length=0:=by rw[ew];rfl
  refine KW.ldF 7 hc U U U U U U U U U ?_
  refine KW.yes U U (by omega) ?_
  rw[if_pos (by omega)]
  exact KW.retW U U U U (fun H1 g=>by have:=g.n_;omega) (fun id hid _=>⟨hid,rfl⟩) (fun H1 g=>⟨rfl,HlPost.same h (fun id p=>p) (fun id hid=>(g.froz id hid).2)⟩)
 | some iq=>
  obtain⟨i,q⟩:=iq
  obtain⟨hi1,hq,wcs,hi2,hcl⟩:=hwi
  have li:i<H.n:=hi1
  refine KW.ldF 7 hc U U U U U U U U U ?_
  refine KW.cnd U U (fun k1=>?_) (fun k1=>?_)
  ·have k1:A≥(c.wire.length:Int):=k1
   rw[if_pos (by omega)]
   exact KW.retW U U U U (fun H1 g=>by have:=g.n_;omega) (fun id hid _=>⟨hid,rfl⟩) (fun H1 g=>⟨rfl,HlPost.same h (fun id p=>p) (fun id hid=>(g.froz id hid).2)⟩)
  have k1:¬A≥(c.wire.length:Int):=k1
  rw[if_neg (by omega)]
  obtain⟨hpk,hpok⟩:=hok.pk hA0.1 (by omega)
  have hwl:c.wire.length*5≤wcs.length:=hcl.1
  have eA:A=((A.toNat:Nat):Int):=by omega
  have ewA:IntKind.i64.wrap (A+1)=((A.toNat+1:Nat):Int):=by rw[wr (by omega) (by omega)];omega
  refine KW.cF U U (by first | (simp;done) | decide) ?_
  have g6:∀id,id<H.n→Low H.n id∧(¬HD.W ⟨hid,sid,gid,bid,nid,some (i,q)⟩ id→H.m id=H.m id):=fun id p=>⟨p,fun _=>rfl⟩
  have X1n:∀id,X id→X id∨New H.n H.n id:=fun id p=>.inl p
  have hm6:H.n≤H.n:=by omega
  obtain⟨c1,hc1⟩:∃c1,c=c1:=⟨_,rfl⟩
  have ewi:c1.wire=c.wire:=by rw[← hc1]
  have h6:=h
  have h7:=h
  obtain⟨w1,hw1⟩:∃w1,some (i,q)=w1:=⟨_,rfl⟩
  conv at h6=>{arg 7;rw[hw1]}
  conv at h7=>{arg 7;rw[hw1]}
  have W1n:∀id,HD.W ⟨hid,sid,gid,bid,nid,w1⟩ id→HD.W ⟨hid,sid,gid,bid,nid,some (i,q)⟩ id∨New H.n H.n id:=fun id p=>.inl (by rw[hw1];exact p)
  rw[hc1]
  conv at h6=>{arg 8;rw[hc1]}
  conv at h7=>{arg 8;rw[hc1]}
  have hw7:=h7.wire
  cases w1 with
  | none=>
   have ew:c1.wire=[]:=hw7
   have el:c1.wire.length=0:=by rw[ew];rfl
   exact absurd k1 (by rw[← ewi,el];omega)
  | some iq1=>
  obtain⟨i1,q1⟩:=iq1
  obtain⟨hj1,hq1',wcs1,hj2,hcl1⟩:=hw7
  simp only at hj1 hj2
  have hwl1:c1.wire.length*5≤wcs1.length:=hcl1.1
  have w12:c1.wire.length≤12:=by rw[ewi];exact hok.wl
  have hA1:A.toNat<c1.wire.length:=by rw[ewi];omega
  obtain⟨m7,n2,n3,n4,n5⟩:=HD.nodup h7.dist
  have nh:i1≠hid:=(n5 i1 q1 rfl).1
  have hc7:=h7.cellsH
  refine KW.cT U U (by first | (simp;done) | decide) ?_
  refine KW.litS0 U U U U U U U U U U ?_
  refine KW.ldF 7 hc7 U U U U U U U U U ?_
  refine KW.cutF U U U U U U U U U (by exact ewA) (by omega) hq1' (fun v hv=>?_)
  refine KW.appU 1 U U U U U U U U (by decide) rfl (m:=c1.wire.length-(A.toNat+1)) (ys:=(wcs1.drop (0+(A.toNat+1)*5)).take ((c1.wire.length-(A.toNat+1))*5)) (by rfl) (by show _=_*5;simp;omega) (fun H1 g=>?_) (hcl1.ones (by omega)) (by show(0+_)*72≤_;omega) (by omega) (fun o1 na ho1 hna=>?_)
  ·have hb:=(g.froz i1 hj1).2.trans hj2
   rcases hv with rfl | ⟨e0,a,q,rfl⟩
   ·exact acells_seg hb (by show 0+(A.toNat+1)*5+(c1.wire.length-(A.toNat+1))*5≤wcs1.length;omega)
   ·rw[e0];simp only[Nat.zero_mul,List.take_zero];exact acells_nil _ _ _ _
  refine KW.litS0 U U U U U U U U U U ?_
  refine KW.ldF 7 hc7 U U U U U U U U U ?_
  refine KW.cutT U U U U U U U U U eA (by omega) ?_
  refine KW.appU 2 U U U U U U U U (by decide) rfl (m:=A.toNat) (ys:=(wcs1.drop 0).take (A.toNat*5)) (by rfl) (by show _=_*5;simp;omega) (fun H1 g=>acells_seg ((g.froz i1 hj1).2.trans hj2) (by show 0+A.toNat*5≤wcs1.length;omega)) (hcl1.ones (by omega)) (by show(0+_)*72≤_;omega) (by omega) (fun o2 nb ho2 hnb=>?_)
  have lk:([]++(wcs1.drop 0).take (A.toNat*5)).length=A.toNat*5:=by simp;omega
  have lr:([]++(wcs1.drop (0+(A.toNat+1)*5)).take ((c1.wire.length-(A.toNat+1))*5)).length=(c1.wire.length-(A.toNat+1))*5:=by simp;omega
  refine KW.appU 2 U U U U U U U U (by decide) rfl (m:=0+(c1.wire.length-(A.toNat+1))) (ys:=[]++(wcs1.drop (0+(A.toNat+1)*5)).take ((c1.wire.length-(A.toNat+1))*5)) (by show _=(0+A.toNat)*5;rw[lk];omega) (by show _=_*5;rw[lr];omega) (fun H1 g=>?_) (by rw[List.nil_append];exact hcl1.ones (by omega)) (by show(_+_)*72≤_;omega) (by omega) (fun o3 nc ho3 hnc=>?_)
  ·have hb:=(g.blk (j:=1) rfl).1
   have:=acells_seg (es:=5) (off:=0) (m:=0+(c1.wire.length-(A.toNat+1))) (c:=0+(c1.wire.length-(A.toNat+1))) hb (by show 0+_*5≤List.length _;rw[lr];omega)
   refine this.trans ?_
   rw[List.drop_zero,List.take_of_length_le (by show List.length _≤_;rw[lr];omega)]
  refine KW.thaw hid _ h7.hall.1 h7.hall.2 ?_
  refine KW.st1 3 U U U U U U U U U U U U (by show 7<([_]++([_,_,_,_,_,_,_]++[])).length;simp) ?_
  refine KW.retW U U U U (fun H1 g=>by have:=g.n_;omega) (fun id p hw=>⟨⟨(g6 id p).1,fun e=>hw (by rw[e];exact HD.Win.1)⟩,(g6 id p).2 hw⟩) (fun H9 g=>⟨rfl,?_⟩)
  have hn9:=g.n_
  have g3:=g.vars 2 _ rfl
  have elen:(c1.wire.eraseIdx A.toNat).length=0+A.toNat+(0+(c1.wire.length-(A.toNat+1))):=by rw[List.length_eraseIdx,if_pos hA1];omega
  refine HlPost.lift (HlPost.weak (X':=X) (h6.reWireK (H1:=H9) (PX:=fun _=>False) (fun id p=>p.elim) (i:=o3) (q:=0+A.toNat+(0+(c1.wire.length-(A.toNat+1)))) (ps:=c1.wire.eraseIdx A.toNat) (by omega) (.inl ⟨?_,?_⟩) (fun id p1 p0 p2 p3=>?_) (0+A.toNat+(0+(c1.wire.length-(A.toNat+1)))) elen (g.blk (j:=3) rfl).1 (g.blk (j:=2) rfl).1 ((hcl1.less hA1).mv (fun _ _=>rfl) (fun id p=>.inl p)) (by omega)) (fun id p=>p.elim (fun p=>p) (fun p=>p.elim))) (by omega) (by omega) rfl X1n W1n
  ·omega
  ·omega
  ·have p0:(Low H.n) id:=p0.elim (h7.w id) (fun p=>p.elim (h7.sx id) (fun p=>p.elim))
   exact(g.froz id ⟨p0,p2⟩).2
end
theorem built_Packet4 (a b:Int) (o1 o2:Option Addr) (n1 c1 n2 c2:Nat):Tryz.prog.built 197 [(1,.int .i64 a),(2,.int .i64 b),(3,.slice o1 n1 c1),(4,.slice o2 n2 c2)]=some #[.bool false,.int .i64 a,.int .i64 b,.slice o1 n1 c1,.slice o2 n2 c2]:=by kernel_rfl
theorem built_Packet5 (t:Bool) (a b:Int) (o1 o2:Option Addr) (n1 c1 n2 c2:Nat):Tryz.prog.built 197 [(0,.bool t),(1,.int .i64 a),(2,.int .i64 b),(3,.slice o1 n1 c1),(4,.slice o2 n2 c2)]=some #[.bool t,.int .i64 a,.int .i64 b,.slice o1 n1 c1,.slice o2 n2 c2]:=by kernel_rfl
section
variable {S:Ids} {H0:AH} {X D:Ids} {d:HD} {c:Cer} {dcs:List Value} {x:T_Deal}
theorem implIsHolder (hB:B_Deal x) (hI:I64 x.1.1) (a:Int) {id:Nat} {ep oe:Int} {v1 v3 v4 v5 v6:Value} (h:Has3 S H0 id 0 ([.int .i64 ep,v1,.int .i64 oe,v3,v4,v5,v6]++dcs)) (hD:K_Deal.R D H0 x dcs):Spec Tryz.prog S H0 209 [.pointer (some ⟨id,0,none⟩),.int .i64 a] (fun v=>v=.bool (decide (0≤a∧a≤IntKind.i64.wrap (x.1.1-1)))):=by
 obtain⟨d1,d2,d3,d4,d5,d6,d7,d8,rfl⟩:=form_Deal hD
 refine Spec.of1 Tryz.func209 rfl (by kernel_rfl) rfl (fun H _=>?_)
 have h:=h.up (S':=Low H.n) (H':=H)
 refine KW.ldF 7 h U U U U U U U U U ?_
 refine KW.callE U U U U U (within _ _ _) (fun _ _=>?_)
 exact KW.ret U U U U (rfl)
theorem implDo9 {A B:Int} (hd:DealOk x) (hB:B_Deal x) (hok:CerOk x c) (h:Hl HTI [] dcs S H0 X d c) (hD:K_Deal.R D H0 x dcs) (hDD:∀id,D id→S id∧¬d.W id):
  SpecW Tryz.prog S H0 d.W 142 [.pointer (some ⟨d.hid,0,none⟩),.agg [.int .i64 9,.int .i64 A,.int .i64 B].toArray] (HlRes HTI [] dcs X d (doIt x c (9,A,B))):=by
 obtain⟨d1,d2,d3,d4,d5,d6,d7,d8,rfl⟩:=form_Deal hD
 refine SpecW.of0 Tryz.func142 rfl (by kernel_rfl) rfl (fun H hfin hfz=>?_)
 haveI o:On S H0 (Low H.n) H:=⟨fun id hs=>⟨(hfz id hs).1,(hfz id hs).2⟩⟩
 have h:=h.on (S':=Low H.n) (A':=H)
 have hD:K_Deal.R D H x _:=K_Deal.same (fun id hid=>(hfz id (hDD id hid).1).2) hD
 have hDD:∀id,D id→id<H.n∧¬d.W id:=fun id hid=>⟨(hfz id (hDD id hid).1).1,(hDD id hid).2⟩
 obtain⟨hid,sid,gid,bid,nid,w⟩:=d
 have hc:=h.cellsH
 have hh:=h.hall
 have hsl:=hok.sl
 have h7:=hd.sch.h7
 have h1h:=hd.sch.h1
 have hbl:=hd.bl
 have hp2:=hd.prime.1
 have hp31:=hd.prime.2.1
 have hep:=hok.ep
 have Lc:∀id,id<H.n→Low H.n id∧H.m id=H.m id:=fun id p=>⟨p,rfl⟩
 have e:doIt x c (9,A,B)=if c.ep+1=(x.2.2.1.length:Int) then(c,3) else(⟨c.ep+1,c.seats,c.oe,c.got,c.has,c.named,c.wire⟩,0):=rfl
 have ew:IntKind.i64.wrap (c.ep+1)=c.ep+1:=wr (by have:=hep.1;omega) (by have:=hep.2;omega)
 refine KW.cF U U (by first | (simp;done) | decide) ?_
 refine KW.cF U U (by first | (simp;done) | decide) ?_
 refine KW.cF U U (by first | (simp;done) | decide) ?_
 refine KW.cT U U (by first | (simp;done) | decide) ?_
 refine KW.ldF 0 hc U U U U U U U U U ?_
 refine KW.ldF 13 hc U U U U U U U U U ?_
 refine KW.cnd U U (fun k1=>?_) (fun k1=>?_)
 ·have k1:IntKind.i64.wrap (c.ep+1)=(x.2.2.1.length:Int):=k1
  rw[ew] at k1
  rw[e,if_pos k1]
  exact KW.retW U U U U (fun H1 g=>by have:=g.n_;omega) (fun id hid _=>⟨hid,rfl⟩) (fun H1 g=>⟨rfl,HlPost.same h (fun id p=>p) (fun id hid=>(g.froz id hid).2)⟩)
 ·have k1:¬IntKind.i64.wrap (c.ep+1)=(x.2.2.1.length:Int):=k1
  rw[ew] at k1
  rw[e,if_neg k1]
  refine KW.thaw hid _ hh.1 hh.2 ?_
  refine KW.ldT 1 U U U U U U U ?_
  refine KW.st1 1 U U U U U U U U U U U U (by show 0<([_,_,_,_,_,_,_]++_).length;simp) ?_
  refine KW.retW U U U U (fun H1 g=>by have:=g.n_;omega) (fun id hid hw=>⟨⟨hid,fun e=>hw (by rw[e];exact HD.Win.1)⟩,rfl⟩) (fun H1 g=>⟨rfl,?_⟩)
  refine h.reHall ⟨rfl,rfl,rfl,rfl,rfl⟩ (fun id h1 h2=>(g.froz id ⟨h1,h2⟩).2) ?_
  have hb:H1.m hid=some ⟨118,true,.int .i64 (IntKind.i64.wrap (c.ep+1)) :: (HD.cells ⟨hid,sid,gid,bid,nid,w⟩ [] _ c).tail⟩:=(g.blk (j:=1) rfl).1
  rw[ew] at hb
  exact hb
theorem implDo7 {A B:Int} (hd:DealOk x) (hB:B_Deal x) (hok:CerOk x c) (h:Hl HTI [] dcs S H0 X d c) (hD:K_Deal.R D H0 x dcs) (hDD:∀id,D id→S id∧¬d.W id) (hA:HoOk x A):
  SpecW Tryz.prog S H0 d.W 142 [.pointer (some ⟨d.hid,0,none⟩),.agg [.int .i64 7,.int .i64 A,.int .i64 B].toArray] (HlRes HTI [] dcs X d (doIt x c (7,A,B))):=by
 obtain⟨d1,d2,d3,d4,d5,d6,d7,d8,rfl⟩:=form_Deal hD
 refine SpecW.of0 Tryz.func142 rfl (by kernel_rfl) rfl (fun H hfin hfz=>?_)
 haveI o:On S H0 (Low H.n) H:=⟨fun id hs=>⟨(hfz id hs).1,(hfz id hs).2⟩⟩
 have h:=h.on (S':=Low H.n) (A':=H)
 have hD:K_Deal.R D H x _:=K_Deal.same (fun id hid=>(hfz id (hDD id hid).1).2) hD
 have hDD:∀id,D id→id<H.n∧¬d.W id:=fun id hid=>⟨(hfz id (hDD id hid).1).1,(hDD id hid).2⟩
 obtain⟨hid,sid,gid,bid,nid,w⟩:=d
 have hc:=h.cellsH
 have hh:=h.hall
 have hsl:=hok.sl
 have h7:=hd.sch.h7
 have h1h:=hd.sch.h1
 have hbl:=hd.bl
 have hp2:=hd.prime.1
 have hp31:=hd.prime.2.1
 have hep:=hok.ep
 have Lc:∀id,id<H.n→Low H.n id∧H.m id=H.m id:=fun id p=>⟨p,rfl⟩
 have hA0:0≤A:=hA.1
 have hA1:A<x.1.1:=hA.2
 have ewr:IntKind.i64.wrap (x.1.1-1)=x.1.1-1:=wr (by omega) (by omega)
 obtain⟨hs0,scs,hs1,hscl⟩:=h.seats
 simp only at hs0 hs1
 obtain⟨hse,hsok⟩:=hok.seat hA
 obtain⟨s,hs⟩:∃s,c.seat A=s:=⟨_,rfl⟩
 rw[hs] at hse hsok
 have hR:=hscl.2 _ _ hse
 obtain⟨ps,qs,hseg,hR1,hR2⟩:=split_Seat hR
 obtain⟨b1,e1,b2,e2,hps,hR3,hR4⟩:=split_Purse hR1
 obtain⟨b3,e3,b4,e4,hqs,hR5,hR6⟩:=split_Purse hR2
 have hle:A.toNat*7+7≤scs.length:=by have:=hscl.1;have h2:=mul_le' (e:=7) (List.getElem?_eq_some_iff.1 hse).1;have:c.seats.length*7≤scs.length:=this;omega
 have cel:∀(q:Nat) v,(ps++(qs++[.int .i64 s.2.2]):List Value)[q]?=some v→scs[0+A.toNat*7+q]?=some v:=fun q v hv=>by
  have:=seg_at hseg hv
  rw[Nat.zero_add];exact this
 refine KW.cF U U (by first | (simp;done) | decide) ?_
 refine KW.cF U U (by first | (simp;done) | decide) ?_
 refine KW.cF U U (by first | (simp;done) | decide) ?_
 refine KW.cF U U (by first | (simp;done) | decide) ?_
 refine KW.callE U U U U U (implIsHolder hB (by unfold I64;omega) A hc hD) (fun nE mE=>?_)
 refine KW.cF U U (by rw[ewr];simp;omega) ?_
 refine KW.ldF 1 hc U U U U U U U U U ?_
 refine KW.idx0 U U U U U U U U U (by omega) (by omega) ?_
 refine KW.cF U U (by first | (simp;done) | decide) ?_
 refine KW.cF U U (by first | (simp;done) | decide) ?_
 refine KW.cF U U (by first | (simp;done) | decide) ?_
 refine KW.cT U U (by first | (simp;done) | decide) ?_
 have hsrc:(scs.drop (0+A.toNat*7+0)).take 3=[.int .i64 s.1.1,.slice b1 s.1.2.1.length e1,.slice b2 s.1.2.2.length e2]:=seg_of rfl (fun q v hv=>by
  have hv':(ps++(qs++[.int .i64 s.2.2]):List Value)[0+q]?=some v:=by
   rw[hps,hqs]
   match q,hv with
   | 0,hv=>exact hv
   | 1,hv=>exact hv
   | 2,hv=>exact hv
   | q+3,hv=>simp at hv
  have:=cel (0+q) v hv'
  rwa [← Nat.add_assoc] at this)
 refine KW.ldP hs0 hs1 U U U U U (bload_seg (ps:=[.int .i64 s.1.1,.slice b1 s.1.2.1.length e1,.slice b2 s.1.2.2.length e2]) U U U (by show 0+A.toNat*7+0+3≤scs.length;omega) hsrc) ?_
 refine KW.thaw sid _ hs0 hs1 ?_
 refine KW.stB 1 U U U U U U (bstore_agg U U U (by show 0+A.toNat*7+3+3≤scs.length;omega) rfl) ?_
 have e:doIt x c (7,A,B)=(setS c A (s.1,s.1,s.2.2),0):=by
  have h1:¬x.1.1≤A:=by omega
  show(if x.1.1≤A then(c,2) else(setS c A ((c.seat A).1,(c.seat A).1,(c.seat A).2.2),0))=_
  rw[if_neg h1,hs]
 rw[e]
 refine KW.retW U U U U (fun H1 g=>by have:=g.n_;omega) (fun id hid hw=>⟨⟨hid,fun e=>hw (by rw[e];exact HD.Win.2.1)⟩,rfl⟩) (fun H1 g=>⟨rfl,HlPost.weak (X:=fun id=>X id∨False) ?_ (fun id p=>p.elim (fun p=>p) (fun p=>p.elim))⟩)
 have hnew:=(g.blk (j:=1) rfl).1
 have hcl:=hscl.part (y:=(s.1,s.1,s.2.2)) (a:=ps) (b:=qs) (r:=[.int .i64 s.2.2]) (b':=[.int .i64 s.1.1,.slice b1 s.1.2.1.length e1,.slice b2 s.1.2.2.length e2]) (X':=fun id=>X id∨False) hse hseg (by rw[hqs];rfl) (fun id p=>.inl p) (mk_Seat (x:=(s.1,s.1,s.2.2)) (K_Purse.more (fun id p=>.inl p) hR1) (K_Purse.more (fun id p=>.inl p) (by rw[← hps];exact hR1)))
 have e0:0+A.toNat*7+3=A.toNat*K_Seat.es+ps.length:=by rw[hps];show 0+A.toNat*7+3=A.toNat*7+3;omega
 refine h.reSeats (PX:=fun _=>False) (fun id p=>p.elim) (by simp) (fun id h1 h2=>(g.froz id ⟨h1,h2⟩).2) (cs:=splice scs _ _) ?_ hcl.1
 rw[← e0]
 exact hnew
theorem implDo8 {A B:Int} (hd:DealOk x) (hB:B_Deal x) (hok:CerOk x c) (h:Hl HTI [] dcs S H0 X d c) (hD:K_Deal.R D H0 x dcs) (hDD:∀id,D id→S id∧¬d.W id) (hA:HoOk x A):
  SpecW Tryz.prog S H0 d.W 142 [.pointer (some ⟨d.hid,0,none⟩),.agg [.int .i64 8,.int .i64 A,.int .i64 B].toArray] (HlRes HTI [] dcs X d (doIt x c (8,A,B))):=by
 obtain⟨d1,d2,d3,d4,d5,d6,d7,d8,rfl⟩:=form_Deal hD
 refine SpecW.of0 Tryz.func142 rfl (by kernel_rfl) rfl (fun H hfin hfz=>?_)
 haveI o:On S H0 (Low H.n) H:=⟨fun id hs=>⟨(hfz id hs).1,(hfz id hs).2⟩⟩
 have h:=h.on (S':=Low H.n) (A':=H)
 have hD:K_Deal.R D H x _:=K_Deal.same (fun id hid=>(hfz id (hDD id hid).1).2) hD
 have hDD:∀id,D id→id<H.n∧¬d.W id:=fun id hid=>⟨(hfz id (hDD id hid).1).1,(hDD id hid).2⟩
 obtain⟨hid,sid,gid,bid,nid,w⟩:=d
 have hc:=h.cellsH
 have hh:=h.hall
 have hsl:=hok.sl
 have h7:=hd.sch.h7
 have h1h:=hd.sch.h1
 have hbl:=hd.bl
 have hp2:=hd.prime.1
 have hp31:=hd.prime.2.1
 have hep:=hok.ep
 have Lc:∀id,id<H.n→Low H.n id∧H.m id=H.m id:=fun id p=>⟨p,rfl⟩
 have hA0:0≤A:=hA.1
 have hA1:A<x.1.1:=hA.2
 have ewr:IntKind.i64.wrap (x.1.1-1)=x.1.1-1:=wr (by omega) (by omega)
 obtain⟨hs0,scs,hs1,hscl⟩:=h.seats
 simp only at hs0 hs1
 obtain⟨hse,hsok⟩:=hok.seat hA
 obtain⟨s,hs⟩:∃s,c.seat A=s:=⟨_,rfl⟩
 rw[hs] at hse hsok
 have hR:=hscl.2 _ _ hse
 obtain⟨ps,qs,hseg,hR1,hR2⟩:=split_Seat hR
 obtain⟨b1,e1,b2,e2,hps,hR3,hR4⟩:=split_Purse hR1
 obtain⟨b3,e3,b4,e4,hqs,hR5,hR6⟩:=split_Purse hR2
 have hle:A.toNat*7+7≤scs.length:=by have:=hscl.1;have h2:=mul_le' (e:=7) (List.getElem?_eq_some_iff.1 hse).1;have:c.seats.length*7≤scs.length:=this;omega
 have cel:∀(q:Nat) v,(ps++(qs++[.int .i64 s.2.2]):List Value)[q]?=some v→scs[0+A.toNat*7+q]?=some v:=fun q v hv=>by
  have:=seg_at hseg hv
  rw[Nat.zero_add];exact this
 refine KW.cF U U (by first | (simp;done) | decide) ?_
 refine KW.cF U U (by first | (simp;done) | decide) ?_
 refine KW.cF U U (by first | (simp;done) | decide) ?_
 refine KW.cF U U (by first | (simp;done) | decide) ?_
 refine KW.callE U U U U U (implIsHolder hB (by unfold I64;omega) A hc hD) (fun nE mE=>?_)
 refine KW.cF U U (by rw[ewr];simp;omega) ?_
 refine KW.ldF 1 hc U U U U U U U U U ?_
 refine KW.idx0 U U U U U U U U U (by omega) (by omega) ?_
 refine KW.cF U U (by first | (simp;done) | decide) ?_
 refine KW.cF U U (by first | (simp;done) | decide) ?_
 refine KW.cF U U (by first | (simp;done) | decide) ?_
 refine KW.cF U U (by first | (simp;done) | decide) ?_
 refine KW.cT U U (by first | (simp;done) | decide) ?_
 have hsrc:(scs.drop (0+A.toNat*7+3)).take 3=[.int .i64 s.2.1.1,.slice b3 s.2.1.2.1.length e3,.slice b4 s.2.1.2.2.length e4]:=seg_of rfl (fun q v hv=>by
  have hv':(ps++(qs++[.int .i64 s.2.2]):List Value)[3+q]?=some v:=by
   rw[hps,hqs]
   match q,hv with
   | 0,hv=>exact hv
   | 1,hv=>exact hv
   | 2,hv=>exact hv
   | q+3,hv=>simp at hv
  have:=cel (3+q) v hv'
  rwa [← Nat.add_assoc] at this)
 refine KW.ldP hs0 hs1 U U U U U (bload_seg (ps:=[.int .i64 s.2.1.1,.slice b3 s.2.1.2.1.length e3,.slice b4 s.2.1.2.2.length e4]) U U U (by show 0+A.toNat*7+3+3≤scs.length;omega) hsrc) ?_
 refine KW.thaw sid _ hs0 hs1 ?_
 refine KW.stB 1 U U U U U U (bstore_agg U U U (by show 0+A.toNat*7+0+3≤scs.length;omega) rfl) ?_
 have e:doIt x c (8,A,B)=(setS c A (s.2.1,s.2.1,s.2.2),0):=by
  have h1:¬x.1.1≤A:=by omega
  show(if x.1.1≤A then(c,2) else(setS c A ((c.seat A).2.1,(c.seat A).2.1,(c.seat A).2.2),0))=_
  rw[if_neg h1,hs]
 rw[e]
 refine KW.retW U U U U (fun H1 g=>by have:=g.n_;omega) (fun id hid hw=>⟨⟨hid,fun e=>hw (by rw[e];exact HD.Win.2.1)⟩,rfl⟩) (fun H1 g=>⟨rfl,HlPost.weak (X:=fun id=>X id∨False) ?_ (fun id p=>p.elim (fun p=>p) (fun p=>p.elim))⟩)
 have hnew:=(g.blk (j:=1) rfl).1
 have hcl:=hscl.part (y:=(s.2.1,s.2.1,s.2.2)) (a:=[]) (b:=ps) (r:=qs++[.int .i64 s.2.2]) (b':=[.int .i64 s.2.1.1,.slice b3 s.2.1.2.1.length e3,.slice b4 s.2.1.2.2.length e4]) (X':=fun id=>X id∨False) hse hseg (by rw[hps];rfl) (fun id p=>.inl p) (show K_Seat.R (fun id=>X id∨False) H (s.2.1,s.2.1,s.2.2) ([.int .i64 s.2.1.1,.slice b3 s.2.1.2.1.length e3,.slice b4 s.2.1.2.2.length e4]++(qs++[.int .i64 s.2.2])) from mk_Seat (x:=(s.2.1,s.2.1,s.2.2)) (K_Purse.more (fun id p=>.inl p) (by rw[← hqs];exact hR2)) (K_Purse.more (fun id p=>.inl p) hR2))
 have e0:0+A.toNat*7+0=A.toNat*K_Seat.es+([]:List Value).length:=by show 0+A.toNat*7+0=A.toNat*7+0;omega
 refine h.reSeats (PX:=fun _=>False) (fun id p=>p.elim) (by simp) (fun id h1 h2=>(g.froz id ⟨h1,h2⟩).2) (cs:=splice scs _ _) ?_ hcl.1
 rw[← e0]
 exact hnew
theorem implDo6 {A B:Int} (hd:DealOk x) (hB:B_Deal x) (hok:CerOk x c) (h:Hl HTI [] dcs S H0 X d c) (hD:K_Deal.R D H0 x dcs) (hDD:∀id,D id→S id∧¬d.W id) (hA:HoOk x A) (hBB:0≤B∧B≤999):
  SpecW Tryz.prog S H0 d.W 142 [.pointer (some ⟨d.hid,0,none⟩),.agg [.int .i64 6,.int .i64 A,.int .i64 B].toArray] (HlRes HTI [] dcs X d (doIt x c (6,A,B))):=by
 obtain⟨d1,d2,d3,d4,d5,d6,d7,d8,rfl⟩:=form_Deal hD
 refine SpecW.of0 Tryz.func142 rfl (by kernel_rfl) rfl (fun H hfin hfz=>?_)
 haveI o:On S H0 (Low H.n) H:=⟨fun id hs=>⟨(hfz id hs).1,(hfz id hs).2⟩⟩
 have h:=h.on (S':=Low H.n) (A':=H)
 have hD:K_Deal.R D H x _:=K_Deal.same (fun id hid=>(hfz id (hDD id hid).1).2) hD
 have hDD:∀id,D id→id<H.n∧¬d.W id:=fun id hid=>⟨(hfz id (hDD id hid).1).1,(hDD id hid).2⟩
 obtain⟨hid,sid,gid,bid,nid,w⟩:=d
 have hc:=h.cellsH
 have hh:=h.hall
 have hsl:=hok.sl
 have h7:=hd.sch.h7
 have h1h:=hd.sch.h1
 have hbl:=hd.bl
 have hp2:=hd.prime.1
 have hp31:=hd.prime.2.1
 have hep:=hok.ep
 have Lc:∀id,id<H.n→Low H.n id∧H.m id=H.m id:=fun id p=>⟨p,rfl⟩
 have hA0:0≤A:=hA.1
 have hA1:A<x.1.1:=hA.2
 have ewr:IntKind.i64.wrap (x.1.1-1)=x.1.1-1:=wr (by omega) (by omega)
 obtain⟨hs0,scs,hs1,hscl⟩:=h.seats
 simp only at hs0 hs1
 obtain⟨hse,hsok⟩:=hok.seat hA
 obtain⟨s,hs⟩:∃s,c.seat A=s:=⟨_,rfl⟩
 rw[hs] at hse hsok
 have hR:=hscl.2 _ _ hse
 obtain⟨ps,qs,hseg,hR1,hR2⟩:=split_Seat hR
 obtain⟨b1,e1,b2,e2,hps,hR3,hR4⟩:=split_Purse hR1
 obtain⟨b3,e3,b4,e4,hqs,hR5,hR6⟩:=split_Purse hR2
 have hle:A.toNat*7+7≤scs.length:=by have:=hscl.1;have h2:=mul_le' (e:=7) (List.getElem?_eq_some_iff.1 hse).1;have:c.seats.length*7≤scs.length:=this;omega
 have cel:∀(q:Nat) v,(ps++(qs++[.int .i64 s.2.2]):List Value)[q]?=some v→scs[0+A.toNat*7+q]?=some v:=fun q v hv=>by
  have:=seg_at hseg hv
  rw[Nat.zero_add];exact this
 refine KW.cF U U (by first | (simp;done) | decide) ?_
 refine KW.cF U U (by first | (simp;done) | decide) ?_
 refine KW.cF U U (by first | (simp;done) | decide) ?_
 refine KW.cF U U (by first | (simp;done) | decide) ?_
 refine KW.callE U U U U U (implIsHolder hB (by unfold I64;omega) A hc hD) (fun nE mE=>?_)
 refine KW.cF U U (by rw[ewr];simp;omega) ?_
 refine KW.ldF 1 hc U U U U U U U U U ?_
 refine KW.idx0 U U U U U U U U U (by omega) (by omega) ?_
 refine KW.cF U U (by first | (simp;done) | decide) ?_
 refine KW.cF U U (by first | (simp;done) | decide) ?_
 refine KW.cT U U (by first | (simp;done) | decide) ?_
 refine KW.ldF 9 hc U U U U U U U U U ?_
 refine KW.lit U U U U U U U U U U [.int .i64 B] U U (fun v hv=>by simp at hv;subst hv;rfl) rfl ?_
 refine KW.callV1 U U U U U (fun H1 g _=>areElements x.1.2.2.1 (by unfold I64;omega) (xs:=[B]) (by simp) (g.ints (j:=1) (xs:=[B]) U U (Nat.le_refl _))) (fun n9 m9=>?_)
 have h1:¬x.1.1≤A:=by omega
 have hel:(PrimeP x.1.2.2.1∧Elems x.1.2.2.1 [B])↔¬x.1.2.2.1≤B:=⟨fun q=>by have:=(q.2 B (by simp)).2;omega,fun q=>⟨hd.prime,fun y hy=>by rw[List.mem_singleton.1 hy];omega⟩⟩
 have e:doIt x c (6,A,B)=if x.1.2.2.1≤B then(c,2) else(setS c A (s.1,s.2.1,B),0):=by
  show(if x.1.1≤A then(c,2) else if x.1.2.2.1≤B then(c,2) else(setS c A ((c.seat A).1,(c.seat A).2.1,B),0))=_
  rw[if_neg h1,hs]
 rw[e,tv_congr hel]
 by_cases k1:x.1.2.2.1≤B
 ·rw[if_pos k1,tv_false (p:=¬x.1.2.2.1≤B) (fun q=>q k1)]
  refine KW.cT U U (by first | (simp;done) | decide) ?_
  exact KW.retW U U U U (fun H1 g=>by have:=g.n_;omega) (fun id hid _=>⟨hid,rfl⟩) (fun H1 g=>⟨rfl,HlPost.same h (fun id p=>p) (fun id hid=>(g.froz id hid).2)⟩)
 ·rw[if_neg k1,tv_true (p:=¬x.1.2.2.1≤B) k1]
  refine KW.cF U U (by first | (simp;done) | decide) ?_
  refine KW.thaw sid _ hs0 hs1 ?_
  refine KW.st1 2 U U U U U U U U U U U U (by show 0+A.toNat*7+6<scs.length;omega) ?_
  refine KW.retW U U U U (fun H1 g=>by have:=g.n_;omega) (fun id hid hw=>⟨⟨hid,fun e=>hw (by rw[e];exact HD.Win.2.1)⟩,rfl⟩) (fun H1 g=>⟨rfl,HlPost.weak (X:=fun id=>X id∨False) ?_ (fun id p=>p.elim (fun p=>p) (fun p=>p.elim))⟩)
  have hnew:H1.m sid=some ⟨51,true,scs.set (0+A.toNat*7+6) (.int .i64 B)⟩:=(g.blk (j:=2) rfl).1
  have hcl:=hscl.part (y:=(s.1,s.2.1,B)) (a:=ps++qs) (b:=[.int .i64 s.2.2]) (r:=[]) (b':=[.int .i64 B]) (X':=fun id=>X id∨False) hse (by rw[hseg,List.append_assoc];rfl) rfl (fun id p=>.inl p) (by rw[List.append_assoc];exact mk_Seat (x:=(s.1,s.2.1,B)) (K_Purse.more (fun id p=>.inl p) hR1) (K_Purse.more (fun id p=>.inl p) hR2))
  have e0:0+A.toNat*7+6=A.toNat*K_Seat.es+(ps++qs).length:=by rw[hps,hqs];show 0+A.toNat*7+6=A.toNat*7+6;omega
  refine h.reSeats (PX:=fun _=>False) (fun id p=>p.elim) (by simp) (fun id h1 h2=>(g.froz id ⟨h1,h2⟩).2) (cs:=splice scs (A.toNat*K_Seat.es+(ps++qs).length) [.int .i64 B]) ?_ hcl.1
  rw[← e0,splice_one (by omega)]
  exact hnew
theorem implDo1 {A B:Int} (hd:DealOk x) (hB:B_Deal x) (hok:CerOk x c) (h:Hl HTI [] dcs S H0 X d c) (hD:K_Deal.R D H0 x dcs) (hDD:∀id,D id→S id∧¬d.W id) (hA:HoOk x A):
  SpecW Tryz.prog S H0 d.W 142 [.pointer (some ⟨d.hid,0,none⟩),.agg [.int .i64 1,.int .i64 A,.int .i64 B].toArray] (HlRes HTI [] dcs X d (doIt x c (1,A,B))):=by
 obtain⟨d1,d2,d3,d4,d5,d6,d7,d8,rfl⟩:=form_Deal hD
 refine SpecW.of0 Tryz.func142 rfl (by kernel_rfl) rfl (fun H hfin hfz=>?_)
 haveI o:On S H0 (Low H.n) H:=⟨fun id hs=>⟨(hfz id hs).1,(hfz id hs).2⟩⟩
 have h:=h.on (S':=Low H.n) (A':=H)
 have hD:K_Deal.R D H x _:=K_Deal.same (fun id hid=>(hfz id (hDD id hid).1).2) hD
 have hDD:∀id,D id→id<H.n∧¬d.W id:=fun id hid=>⟨(hfz id (hDD id hid).1).1,(hDD id hid).2⟩
 obtain⟨hid,sid,gid,bid,nid,w⟩:=d
 have hc:=h.cellsH
 have hh:=h.hall
 have hsl:=hok.sl
 have h7:=hd.sch.h7
 have h1h:=hd.sch.h1
 have hbl:=hd.bl
 have hp2:=hd.prime.1
 have hp31:=hd.prime.2.1
 have hep:=hok.ep
 have Lc:∀id,id<H.n→Low H.n id∧H.m id=H.m id:=fun id p=>⟨p,rfl⟩
 have hA0:0≤A:=hA.1
 have hA1:A<x.1.1:=hA.2
 have ewr:IntKind.i64.wrap (x.1.1-1)=x.1.1-1:=wr (by omega) (by omega)
 obtain⟨hs0,scs,hs1,hscl⟩:=h.seats
 simp only at hs0 hs1
 obtain⟨hse,hsok⟩:=hok.seat hA
 obtain⟨s,hs⟩:∃s,c.seat A=s:=⟨_,rfl⟩
 rw[hs] at hse hsok
 have hR:=hscl.2 _ _ hse
 obtain⟨ps,qs,hseg,hR1,hR2⟩:=split_Seat hR
 obtain⟨b1,e1,b2,e2,hps,hR3,hR4⟩:=split_Purse hR1
 obtain⟨b3,e3,b4,e4,hqs,hR5,hR6⟩:=split_Purse hR2
 have hle:A.toNat*7+7≤scs.length:=by have:=hscl.1;have h2:=mul_le' (e:=7) (List.getElem?_eq_some_iff.1 hse).1;have:c.seats.length*7≤scs.length:=this;omega
 have cel:∀(q:Nat) v,(ps++(qs++[.int .i64 s.2.2]):List Value)[q]?=some v→scs[0+A.toNat*7+q]?=some v:=fun q v hv=>by
  have:=seg_at hseg hv
  rw[Nat.zero_add];exact this
 refine KW.cF U U (by first | (simp;done) | decide) ?_
 refine KW.cF U U (by first | (simp;done) | decide) ?_
 refine KW.cF U U (by first | (simp;done) | decide) ?_
 refine KW.cF U U (by first | (simp;done) | decide) ?_
 refine KW.callE U U U U U (implIsHolder hB (by unfold I64;omega) A hc hD) (fun nE mE=>?_)
 refine KW.cF U U (by rw[ewr];simp;omega) ?_
 refine KW.ldF 1 hc U U U U U U U U U ?_
 refine KW.idx0 U U U U U U U U U (by omega) (by omega) ?_
 refine KW.cT U U (by first | (simp;done) | decide) ?_
 refine KW.ldP hh.1 hh.2 U U U U U U ?_
 refine KW.ldF 0 hc U U U U U U U U U ?_
 obtain⟨E,J,hat⟩:=HoOk.at hd hA hok.ep
 have hDL:K_Deal.R (Low H.n) H x _:=K_Deal.more (fun id p=>(hDD id p).1) hD
 refine KW.callN1 U U U U U (valuesD x c.ep A hat hB hDL) (fun v H1 S1 m1 _ _ hv=>?_)
 obtain⟨a5,q5,rfl,hV⟩:=hv
 refine KW.ldF 0 hc.up U U U U U U U U U ?_
 have hb1:=On.blk (S':=S1) (H':=H1) hh.1 hh.2
 refine KW.ldP hb1.1 hb1.2 U U U U U U ?_
 refine KW.ldF 0 hc.up U U U U U U U U U ?_
 refine KW.callN1 U U U U U (tagsDD x c.ep A hat hB (On.R hDL) vals_len (vals_in hd.prime) hV.ups) (fun v H2 S2 m2 _ _ hv=>?_)
 obtain⟨a6,q6,rfl,hTg⟩:=hv
 refine KW.build U U U U U (built_Packet4 _ _ _ _ _ _ _ _) ?_
 have h2:=h.on (S':=S2) (A':=H2)
 have o1:=(inferInstance:On (New nE H1.n) H1 S2 H2).st
 have o2:=(inferInstance:On (New H1.n H2.n) H2 S2 H2).st
 have o0:=(inferInstance:On (Low H.n) H S2 H2).st
 have lowW:∀id,HD.W ⟨hid,sid,gid,bid,nid,w⟩ id→id<H.n:=fun id p=>h.w id p
 refine KW.callW h2.w U U U U U (implPost (p:=(false,A,c.ep,valsD x c.ep A,tagsD x c.ep A (valsD x c.ep A))) (PX:=fun id=>New nE H1.n id∨New H1.n H2.n id) h2 (mk_Packet (x:=(false,A,c.ep,valsD x c.ep A,tagsD x c.ep A (valsD x c.ep A))) (sl_mk hV.sl (fun id p=>⟨.inl p,(o1 id p).2⟩)) (sl_mk hTg.sl (fun id p=>⟨.inr p,(o2 id p).2⟩))) (fun id p=>⟨p.elim (fun p=>(o1 id p).1) (fun p=>(o2 id p).1),fun q=>by have:=lowW id q;rcases p with p | p<;>(have:=p.1;omega)⟩) hok.wl) (fun v H5 S5 m5 t5 w5 hv=>?_)
 have e:doIt x c (1,A,B)=send c (false,A,c.ep,valsD x c.ep A,tagsD x c.ep A (valsD x c.ep A)):=by
  show(if x.1.1≤A then(c,2) else send c _)=_
  rw[if_neg (by omega)]
 rw[e]
 obtain⟨rfl,hp⟩:=hv
 have xin:∀id,X id→id<H.n:=fun id p=>h.sx id p
 refine KW.retW U U U U (fun H1 g=>by have:=g.n_;omega) (fun id hid hw=>⟨(t5 id (o0 id hid).1).1,((t5 id (o0 id hid).1).2 hw).trans (o0 id hid).2⟩) (fun H6 g=>⟨rfl,?_⟩)
 refine HlPost.lift (HlPost.mem hp (fun id p=>(g.froz id ?_).2) (by have:=g.n_;omega)) (by omega) (by have:=g.n_;omega) rfl (fun id p=>?_) (fun id p=>.inl p)
 ·rcases p with p | p | p
  ·exact(t5 id (h2.w id p)).1
  ·rcases p with p | p | p
   ·exact(t5 id (o0 id (xin id p)).1).1
   ·exact(t5 id (o1 id p).1).1
   ·exact(t5 id (o2 id p).1).1
  ·exact w5 id p
 ·rcases p with p | p | p
  ·exact .inl p
  ·exact .inr ⟨by have:=p.1;omega,by have:=p.2;omega⟩
  ·exact .inr ⟨by have:=p.1;omega,by have:=p.2;omega⟩
theorem implDo2 {A B:Int} (hd:DealOk x) (hB:B_Deal x) (hok:CerOk x c) (h:Hl HTI [] dcs S H0 X d c) (hD:K_Deal.R D H0 x dcs) (hDD:∀id,D id→S id∧¬d.W id) (hA:HoOk x A):
  SpecW Tryz.prog S H0 d.W 142 [.pointer (some ⟨d.hid,0,none⟩),.agg [.int .i64 2,.int .i64 A,.int .i64 B].toArray] (HlRes HTI [] dcs X d (doIt x c (2,A,B))):=by
 obtain⟨d1,d2,d3,d4,d5,d6,d7,d8,rfl⟩:=form_Deal hD
 refine SpecW.of0 Tryz.func142 rfl (by kernel_rfl) rfl (fun H hfin hfz=>?_)
 haveI o:On S H0 (Low H.n) H:=⟨fun id hs=>⟨(hfz id hs).1,(hfz id hs).2⟩⟩
 have h:=h.on (S':=Low H.n) (A':=H)
 have hD:K_Deal.R D H x _:=K_Deal.same (fun id hid=>(hfz id (hDD id hid).1).2) hD
 have hDD:∀id,D id→id<H.n∧¬d.W id:=fun id hid=>⟨(hfz id (hDD id hid).1).1,(hDD id hid).2⟩
 obtain⟨hid,sid,gid,bid,nid,w⟩:=d
 have hc:=h.cellsH
 have hh:=h.hall
 have hsl:=hok.sl
 have h7:=hd.sch.h7
 have h1h:=hd.sch.h1
 have hbl:=hd.bl
 have hp2:=hd.prime.1
 have hp31:=hd.prime.2.1
 have hep:=hok.ep
 have Lc:∀id,id<H.n→Low H.n id∧H.m id=H.m id:=fun id p=>⟨p,rfl⟩
 have hA0:0≤A:=hA.1
 have hA1:A<x.1.1:=hA.2
 have ewr:IntKind.i64.wrap (x.1.1-1)=x.1.1-1:=wr (by omega) (by omega)
 obtain⟨hs0,scs,hs1,hscl⟩:=h.seats
 simp only at hs0 hs1
 obtain⟨hse,hsok⟩:=hok.seat hA
 obtain⟨s,hs⟩:∃s,c.seat A=s:=⟨_,rfl⟩
 rw[hs] at hse hsok
 have hR:=hscl.2 _ _ hse
 obtain⟨ps,qs,hseg,hR1,hR2⟩:=split_Seat hR
 obtain⟨b1,e1,b2,e2,hps,hR3,hR4⟩:=split_Purse hR1
 obtain⟨b3,e3,b4,e4,hqs,hR5,hR6⟩:=split_Purse hR2
 have hle:A.toNat*7+7≤scs.length:=by have:=hscl.1;have h2:=mul_le' (e:=7) (List.getElem?_eq_some_iff.1 hse).1;have:c.seats.length*7≤scs.length:=this;omega
 have cel:∀(q:Nat) v,(ps++(qs++[.int .i64 s.2.2]):List Value)[q]?=some v→scs[0+A.toNat*7+q]?=some v:=fun q v hv=>by
  have:=seg_at hseg hv
  rw[Nat.zero_add];exact this
 refine KW.cF U U (by first | (simp;done) | decide) ?_
 refine KW.cF U U (by first | (simp;done) | decide) ?_
 refine KW.cF U U (by first | (simp;done) | decide) ?_
 refine KW.cF U U (by first | (simp;done) | decide) ?_
 refine KW.callE U U U U U (implIsHolder hB (by unfold I64;omega) A hc hD) (fun nE mE=>?_)
 refine KW.cF U U (by rw[ewr];simp;omega) ?_
 refine KW.ldF 1 hc U U U U U U U U U ?_
 refine KW.idx0 U U U U U U U U U (by omega) (by omega) ?_
 refine KW.cF U U (by first | (simp;done) | decide) ?_
 refine KW.cT U U (by first | (simp;done) | decide) ?_
 have c0:scs[0+A.toNat*7]?=some (.int .i64 s.1.1):=cel 0 _ (by rw[hps];rfl)
 have c1:scs[0+A.toNat*7+1]?=some (.slice b1 s.1.2.1.length e1):=cel 1 _ (by rw[hps];rfl)
 have c2:scs[0+A.toNat*7+2]?=some (.slice b2 s.1.2.2.length e2):=cel 2 _ (by rw[hps];rfl)
 have c6:scs[0+A.toNat*7+6]?=some (.int .i64 s.2.2):=cel 6 _ (by rw[hps,hqs];rfl)
 have e:doIt x c (2,A,B)=if s.1.1=-1 then(c,4) else send c (true,A,s.1.1,lieOf x.1.2.2.1 s.1.2.1 s.2.2,s.1.2.2):=by
  show(if x.1.1≤A then(c,2) else if(c.seat A).1.1=-1 then(c,4) else send c _)=_
  rw[if_neg (by omega),hs]
 rw[e]
 refine KW.ldC hs0 hs1 c0 U U U U U U U ?_
 refine KW.cnd U U (fun k1=>?_) (fun k1=>?_)
 ·have k1:s.1.1=-1:=k1
  rw[if_pos k1]
  exact KW.retW U U U U (fun H1 g=>by have:=g.n_;omega) (fun id hid _=>⟨hid,rfl⟩) (fun H1 g=>⟨rfl,HlPost.same h (fun id p=>p) (fun id hid=>(g.froz id hid).2)⟩)
 have k1:¬s.1.1=-1:=k1
 rw[if_neg k1]
 have hpu:=hsok.pu.resolve_left (fun q=>k1 q.1)
 have hvl:s.1.2.1.length≤1048576:=by have:=hpu.2.vl;have:=rowsOf_len x.1.2.1 A;have:x.1.2.1.length≤1048576:=hB.1.2.1;omega
 refine KW.ldC hs0 hs1 c0 U U U U U U U ?_
 refine KW.ldP hh.1 hh.2 U U U U U U ?_
 refine KW.ldC hs0 hs1 c1 U U U U U U U ?_
 refine KW.ldC hs0 hs1 c6 U U U U U U U ?_
 have hlie:=hsok.lie
 refine KW.callN1 U U U U U (lied x.1.1 x.1.2.2.1 x.1.2.2.2.1 x.2.1 hd.prime s.2.2 (by omega) hvl hpu.2.ve (hR3.more h.sx)) (fun v H2 S2 m2 _ _ hv=>?_)
 obtain⟨a5,q5,rfl,hV⟩:=hv
 have hb1:=On.blk (S':=S2) (H':=H2) hs0 hs1
 refine KW.ldC hb1.1 hb1.2 c2 U U U U U U U ?_
 refine KW.build U U U U U (built_Packet5 _ _ _ _ _ _ _ _ _) ?_
 have h2:=h.on (S':=S2) (A':=H2)
 have o1:=(inferInstance:On (New nE H2.n) H2 S2 H2).st
 have o0:=(inferInstance:On (Low H.n) H S2 H2).st
 have lowW:∀id,HD.W ⟨hid,sid,gid,bid,nid,w⟩ id→id<H.n:=fun id p=>h.w id p
 have xin:∀id,X id→id<H.n:=fun id p=>h.sx id p
 have hll:(lieOf x.1.2.2.1 s.1.2.1 s.2.2).length=s.1.2.1.length:=lie_len
 refine KW.callW h2.w U U U U U (implPost (p:=(true,A,s.1.1,lieOf x.1.2.2.1 s.1.2.1 s.2.2,s.1.2.2)) (PX:=fun id=>New nE H2.n id∨X id) h2 (mk_Packet (x:=(true,A,s.1.1,lieOf x.1.2.2.1 s.1.2.1 s.2.2,s.1.2.2)) (sl_mk hV.sl (fun id p=>⟨.inl p,rfl⟩)) (sl_mk hR4 (fun id p=>⟨.inr p,(o0 id (xin id p)).2⟩))) (fun id p=>⟨p.elim (fun p=>(o1 id p).1) (fun p=>(o0 id (xin id p)).1),fun q=>by rcases p with p | p;have:=lowW id q;have:=p.1;omega;exact h.out id p q⟩) hok.wl) (fun v H5 S5 m5 t5 w5 hv=>?_)
 obtain⟨rfl,hp⟩:=hv
 refine KW.retW U U U U (fun H1 g=>by have:=g.n_;omega) (fun id hid hw=>⟨(t5 id (o0 id hid).1).1,((t5 id (o0 id hid).1).2 hw).trans (o0 id hid).2⟩) (fun H6 g=>⟨rfl,?_⟩)
 refine HlPost.lift (HlPost.mem hp (fun id p=>(g.froz id ?_).2) (by have:=g.n_;omega)) (by omega) (by have:=g.n_;omega) rfl (fun id p=>?_) (fun id p=>.inl p)
 ·rcases p with p | p | p
  ·exact(t5 id (h2.w id p)).1
  ·rcases p with p | p | p
   ·exact(t5 id (o0 id (xin id p)).1).1
   ·exact(t5 id (o1 id p).1).1
   ·exact(t5 id (o0 id (xin id p)).1).1
  ·exact w5 id p
 ·rcases p with p | p | p
  ·exact .inl p
  ·exact .inr ⟨by have:=p.1;omega,by have:=p.2;omega⟩
  ·exact .inl p
theorem implDo3 {A B:Int} (hd:DealOk x) (hB:B_Deal x) (hok:CerOk x c) (h:Hl HTI [] dcs S H0 X d c) (hD:K_Deal.R D H0 x dcs) (hDD:∀id,D id→S id∧¬d.W id) (hA0:0≤A∧A≤999):
  SpecW Tryz.prog S H0 d.W 142 [.pointer (some ⟨d.hid,0,none⟩),.agg [.int .i64 3,.int .i64 A,.int .i64 B].toArray] (HlRes HTI [] dcs X d (doIt x c (3,A,B))):=by
 obtain⟨d1,d2,d3,d4,d5,d6,d7,d8,rfl⟩:=form_Deal hD
 refine SpecW.of0 Tryz.func142 rfl (by kernel_rfl) rfl (fun H hfin hfz=>?_)
 haveI o:On S H0 (Low H.n) H:=⟨fun id hs=>⟨(hfz id hs).1,(hfz id hs).2⟩⟩
 have h:=h.on (S':=Low H.n) (A':=H)
 have hD:K_Deal.R D H x _:=K_Deal.same (fun id hid=>(hfz id (hDD id hid).1).2) hD
 have hDD:∀id,D id→id<H.n∧¬d.W id:=fun id hid=>⟨(hfz id (hDD id hid).1).1,(hDD id hid).2⟩
 obtain⟨hid,sid,gid,bid,nid,w⟩:=d
 have hc:=h.cellsH
 have hh:=h.hall
 have hsl:=hok.sl
 have h7:=hd.sch.h7
 have h1h:=hd.sch.h1
 have hbl:=hd.bl
 have hp2:=hd.prime.1
 have hp31:=hd.prime.2.1
 have hep:=hok.ep
 have Lc:∀id,id<H.n→Low H.n id∧H.m id=H.m id:=fun id p=>⟨p,rfl⟩
 refine KW.cT U U (by first | (simp;done) | decide) ?_
 refine KW.cT U U (by first | (simp;done) | decide) ?_
 have e:doIt x c (3,A,B)=if(c.wire.length:Int)≤A then(c,2) else(come x (dropW c A.toNat) (c.pk A),0):=rfl
 rw[e]
 have hwi:=h.wire
 cases w with
 | none=>
  have ew:c.wire=[]:=hwi
  have el:c.wire.length=0:=by rw[ew];rfl
  refine KW.ldF 6 hc U U U U U U U U U ?_
  refine KW.yes U U (by omega) ?_
  rw[if_pos (by omega)]
  exact KW.retW U U U U (fun H1 g=>by have:=g.n_;omega) (fun id hid _=>⟨hid,rfl⟩) (fun H1 g=>⟨rfl,HlPost.same h (fun id p=>p) (fun id hid=>(g.froz id hid).2)⟩)
 | some iq=>
  obtain⟨i,q⟩:=iq
  obtain⟨hi1,hq,wcs,hi2,hcl⟩:=hwi
  have li:i<H.n:=hi1
  obtain⟨n1,n2,n3,n4,n5⟩:=HD.nodup h.dist
  have nh:i≠hid:=(n5 i q rfl).1
  refine KW.ldF 6 hc U U U U U U U U U ?_
  refine KW.cnd U U (fun k1=>?_) (fun k1=>?_)
  ·have k1:A≥(c.wire.length:Int):=k1
   rw[if_pos (by omega)]
   exact KW.retW U U U U (fun H1 g=>by have:=g.n_;omega) (fun id hid _=>⟨hid,rfl⟩) (fun H1 g=>⟨rfl,HlPost.same h (fun id p=>p) (fun id hid=>(g.froz id hid).2)⟩)
  have k1:¬A≥(c.wire.length:Int):=k1
  rw[if_neg (by omega)]
  obtain⟨hpk,hpok⟩:=hok.pk hA0.1 (by omega)
  refine KW.ldF 6 hc U U U U U U U U U ?_
  have hpX:=hcl.2 _ _ hpk
  obtain⟨pa1,pc1,pa2,pc2,eseg,hq1,hq2⟩:=split_Packet hpX
  rw[eseg] at hpX
  have hwl:c.wire.length*5≤wcs.length:=hcl.1
  refine KW.idx0 U U U U U U U U U (by omega) (by omega) ?_
  refine KW.ldP hi1 hi2 U U U U U (bload_seg (ps:=[.bool (c.pk A).1,.int .i64 (c.pk A).2.1,.int .i64 (c.pk A).2.2.1,.slice pa1 (c.pk A).2.2.2.1.length pc1,.slice pa2 (c.pk A).2.2.2.2.length pc2]) U U U (by show 0+A.toNat*5+5≤wcs.length;omega) (by rw[Nat.zero_add];exact eseg)) ?_
  obtain⟨E,J,hat⟩:=HoOk.at hd hpok.ho hpok.ep
  have ewA:IntKind.i64.wrap (A+1)=((A.toNat+1:Nat):Int):=by rw[wr (by omega) (by omega)];omega
  have eA:A=((A.toNat:Nat):Int):=by omega
  refine KW.cT U U (by first | (simp;done) | decide) ?_
  refine KW.ldF 6 hc U U U U U U U U U ?_
  refine KW.callW (W:=fun id=>id=i) (fun id p=>by rw[p];exact hi1) U U U U U (by show SpecW _ _ _ _ _ [_,.int .i64 A,.int .i64 (IntKind.i64.wrap (A+1))] _;rw[ewA];conv=>{arg 6;rw[eA]};exact deletePk hi1 hi2 hcl hq (by omega) hok.wl (fun id p=>⟨h.sx id p,fun e=>h.out id p (by rw[e];exact HD.Win.2.2.2.2.2 i q rfl)⟩)) (fun v H5 S5 m5 t5 w5 hv=>?_)
  obtain⟨rfl,cs',hm',hcl'⟩:=hv
  refine KW.thaw hid _ (t5 hid hh.1).1 (((t5 hid hh.1).2 (Ne.symm nh)).trans hh.2) ?_
  refine KW.st1 2 U U U U U U U U U U U U (by show 6<([_,_,_,_,_,_,_]++_).length;simp) ?_
  refine KW.freeze 2 rfl (fun A9 S9 hn9 hS9 t9 hm9 ho9 hno9 hlt9=>?_)
  have k5:∀id,id<H.n→S9 id∧(id≠hid→id≠i→A9.m id=H.m id):=fun id p=>by
   refine⟨(hS9 id).2 ?_,fun e1 e2=>((t9.st id ⟨(t5 id p).1,e1⟩).2).trans ((t5 id p).2 e2)⟩
   by_cases e:id=hid
   ·exact .inr e
   ·exact .inl ⟨(t5 id p).1,e⟩
  have ki:A9.m i=H5.m i:=(t9.st i ⟨(t5 i li).1,nh⟩).2
  have kx:∀id,X id→S9 id∧A9.m id=H.m id:=fun id p=>⟨(k5 id (h.sx id p)).1,(k5 id (h.sx id p)).2 (fun e=>h.out id p (by rw[e];exact HD.Win.1)) (fun e=>h.out id p (by rw[e];exact HD.Win.2.2.2.2.2 i q rfl))⟩
  have kx5:∀id,X id→A9.m id=H5.m id:=fun id p=>by
   rw[(kx id p).2,(t5 id (h.sx id p)).2 (fun e=>h.out id p (by rw[e];exact HD.Win.2.2.2.2.2 i q rfl))]
  have hle:(c.wire.eraseIdx A.toNat).length=c.wire.length-1:=by rw[List.length_eraseIdx,if_pos (by omega)]
  have h9:Hl HTI [] [.int .i64 x.1.1,.slice d1 x.1.2.1.length d2,.int .i64 x.1.2.2.1,.int .i64 x.1.2.2.2.1,.slice d3 x.1.2.2.2.2.length d4,.int .i64 x.2.1,.slice d5 x.2.2.1.length d6,.slice d7 x.2.2.2.length d8] S9 A9 X ⟨hid,sid,gid,bid,nid,some (i,q)⟩ (dropW c A.toNat):=by
   refine⟨fun id p=>(kx id p).1,⟨(hS9 hid).2 (.inr rfl),?_⟩,h.seats.mv ⟨(k5 _ h.seats.1).1,(k5 _ h.seats.1).2 n1.1.symm (n5 i q rfl).2.1.symm⟩ (fun id p=>(kx id p).2) (fun _ p=>p),h.got.mv ⟨(k5 _ h.got.1).1,(k5 _ h.got.1).2 n1.2.1.symm (n5 i q rfl).2.2.1.symm⟩ (fun id p=>(kx id p).2) (fun _ p=>p),h.has.mv ⟨(k5 _ h.has.1).1,(k5 _ h.has.1).2 n1.2.2.1.symm (n5 i q rfl).2.2.2.1.symm⟩,h.named.mv ⟨(k5 _ h.named.1).1,(k5 _ h.named.1).2 n1.2.2.2.symm (n5 i q rfl).2.2.2.2.symm⟩,⟨(k5 i li).1,by show(c.wire.eraseIdx A.toNat).length≤q;omega,cs',ki.trans hm',hcl'.mv kx5 (fun _ p=>p)⟩,h.dist,h.out⟩
   rw[hm9]
   simp only[HD.cells,HD.wv,dropW,hle]
   rfl
  have hX9:K_Packet.R X A9 (c.pk A) _:=K_Packet.same (fun id p=>(kx id p).2) hpX
  have hok9:=hok.drop A.toNat
  refine KW.cT U U (by first | (simp;done) | decide) ?_
  have hD9:K_Deal.R D A9 x _:=K_Deal.same (fun id p=>(k5 id (hDD id p).1).2 (fun e=>(hDD id p).2 (by rw[e];exact HD.Win.1)) (fun e=>(hDD id p).2 (by rw[e];exact HD.Win.2.2.2.2.2 i q rfl))) hD
  refine KW.callW h9.w U U U U U (implCome (p:=c.pk A) (PX:=X) hd hB hok9 hpok h9 hD9 (fun id p=>⟨(k5 id (hDD id p).1).1,(hDD id p).2⟩) hX9 (fun id p=>⟨h9.sx id p,h.out id p⟩)) (fun v H6 S6 m6 t6 w6 hv=>?_)
  refine KW.retW U U U U (fun H1 g=>by have:=g.n_;omega) (fun id p hw=>⟨(t6 id (k5 id p).1).1,((t6 id (k5 id p).1).2 hw).trans ((k5 id p).2 (fun e=>hw (by rw[e];exact HD.Win.1)) (fun e=>hw (by rw[e];exact HD.Win.2.2.2.2.2 i q rfl)))⟩) (fun H7 g=>⟨rfl,?_⟩)
  refine HlPost.lift (HlPost.mem hv (fun id p=>(g.froz id ?_).2) (by have:=g.n_;omega)) (by omega) (by have:=g.n_;omega) rfl (fun id p=>p.elim .inl .inl) (fun id p=>.inl p)
  rcases p with p | p | p
  ·exact(t6 id (h9.w id p)).1
  ·exact p.elim (fun p=>(t6 id (h9.sx id p)).1) (fun p=>(t6 id (h9.sx id p)).1)
  ·exact w6 id p
theorem implDo4 {A B:Int} (hd:DealOk x) (hB:B_Deal x) (hok:CerOk x c) (h:Hl HTI [] dcs S H0 X d c) (hD:K_Deal.R D H0 x dcs) (hDD:∀id,D id→S id∧¬d.W id) (hA0:0≤A∧A≤999):
  SpecW Tryz.prog S H0 d.W 142 [.pointer (some ⟨d.hid,0,none⟩),.agg [.int .i64 4,.int .i64 A,.int .i64 B].toArray] (HlRes HTI [] dcs X d (doIt x c (4,A,B))):=by
 obtain⟨d1,d2,d3,d4,d5,d6,d7,d8,rfl⟩:=form_Deal hD
 refine SpecW.of0 Tryz.func142 rfl (by kernel_rfl) rfl (fun H hfin hfz=>?_)
 haveI o:On S H0 (Low H.n) H:=⟨fun id hs=>⟨(hfz id hs).1,(hfz id hs).2⟩⟩
 have h:=h.on (S':=Low H.n) (A':=H)
 have hD:K_Deal.R D H x _:=K_Deal.same (fun id hid=>(hfz id (hDD id hid).1).2) hD
 have hDD:∀id,D id→id<H.n∧¬d.W id:=fun id hid=>⟨(hfz id (hDD id hid).1).1,(hDD id hid).2⟩
 obtain⟨hid,sid,gid,bid,nid,w⟩:=d
 have hc:=h.cellsH
 have hh:=h.hall
 have hsl:=hok.sl
 have h7:=hd.sch.h7
 have h1h:=hd.sch.h1
 have hbl:=hd.bl
 have hp2:=hd.prime.1
 have hp31:=hd.prime.2.1
 have hep:=hok.ep
 have Lc:∀id,id<H.n→Low H.n id∧H.m id=H.m id:=fun id p=>⟨p,rfl⟩
 refine KW.cF U U (by first | (simp;done) | decide) ?_
 refine KW.cT U U (by first | (simp;done) | decide) ?_
 refine KW.cT U U (by first | (simp;done) | decide) ?_
 have e:doIt x c (4,A,B)=if(c.wire.length:Int)≤A then(c,2) else(come x c (c.pk A),0):=rfl
 rw[e]
 have hwi:=h.wire
 cases w with
 | none=>
  have ew:c.wire=[]:=hwi
  have el:c.wire.length=0:=by rw[ew];rfl
  refine KW.ldF 6 hc U U U U U U U U U ?_
  refine KW.yes U U (by omega) ?_
  rw[if_pos (by omega)]
  exact KW.retW U U U U (fun H1 g=>by have:=g.n_;omega) (fun id hid _=>⟨hid,rfl⟩) (fun H1 g=>⟨rfl,HlPost.same h (fun id p=>p) (fun id hid=>(g.froz id hid).2)⟩)
 | some iq=>
  obtain⟨i,q⟩:=iq
  obtain⟨hi1,hq,wcs,hi2,hcl⟩:=hwi
  have li:i<H.n:=hi1
  obtain⟨n1,n2,n3,n4,n5⟩:=HD.nodup h.dist
  have nh:i≠hid:=(n5 i q rfl).1
  refine KW.ldF 6 hc U U U U U U U U U ?_
  refine KW.cnd U U (fun k1=>?_) (fun k1=>?_)
  ·have k1:A≥(c.wire.length:Int):=k1
   rw[if_pos (by omega)]
   exact KW.retW U U U U (fun H1 g=>by have:=g.n_;omega) (fun id hid _=>⟨hid,rfl⟩) (fun H1 g=>⟨rfl,HlPost.same h (fun id p=>p) (fun id hid=>(g.froz id hid).2)⟩)
  have k1:¬A≥(c.wire.length:Int):=k1
  rw[if_neg (by omega)]
  obtain⟨hpk,hpok⟩:=hok.pk hA0.1 (by omega)
  refine KW.ldF 6 hc U U U U U U U U U ?_
  have hpX:=hcl.2 _ _ hpk
  obtain⟨pa1,pc1,pa2,pc2,eseg,hq1,hq2⟩:=split_Packet hpX
  rw[eseg] at hpX
  have hwl:c.wire.length*5≤wcs.length:=hcl.1
  refine KW.idx0 U U U U U U U U U (by omega) (by omega) ?_
  refine KW.ldP hi1 hi2 U U U U U (bload_seg (ps:=[.bool (c.pk A).1,.int .i64 (c.pk A).2.1,.int .i64 (c.pk A).2.2.1,.slice pa1 (c.pk A).2.2.2.1.length pc1,.slice pa2 (c.pk A).2.2.2.2.length pc2]) U U U (by show 0+A.toNat*5+5≤wcs.length;omega) (by rw[Nat.zero_add];exact eseg)) ?_
  obtain⟨E,J,hat⟩:=HoOk.at hd hpok.ho hpok.ep
  refine KW.cF U U (by first | (simp;done) | decide) ?_
  refine KW.cT U U (by first | (simp;done) | decide) ?_
  refine KW.callW h.w U U U U U (implCome (p:=c.pk A) (PX:=X) hd hB hok hpok h hD (fun id p=>hDD id p) hpX (fun id p=>⟨h.sx id p,h.out id p⟩)) (fun v H6 S6 m6 t6 w6 hv=>?_)
  refine KW.retW U U U U (fun H1 g=>by have:=g.n_;omega) (fun id hid hw=>⟨(t6 id hid).1,(t6 id hid).2 hw⟩) (fun H7 g=>⟨rfl,?_⟩)
  refine HlPost.lift (HlPost.mem hv (fun id p=>(g.froz id ?_).2) (by have:=g.n_;omega)) (by omega) (by have:=g.n_;omega) rfl (fun id p=>p.elim .inl .inl) (fun id p=>.inl p)
  rcases p with p | p | p
  ·exact(t6 id (h.w id p)).1
  ·exact p.elim (fun p=>(t6 id (h.sx id p)).1) (fun p=>(t6 id (h.sx id p)).1)
  ·exact w6 id p
theorem implDo5 {A B:Int} (hd:DealOk x) (hB:B_Deal x) (hok:CerOk x c) (h:Hl HTI [] dcs S H0 X d c) (hD:K_Deal.R D H0 x dcs) (hDD:∀id,D id→S id∧¬d.W id) (hA0:0≤A∧A≤999):
  SpecW Tryz.prog S H0 d.W 142 [.pointer (some ⟨d.hid,0,none⟩),.agg [.int .i64 5,.int .i64 A,.int .i64 B].toArray] (HlRes HTI [] dcs X d (doIt x c (5,A,B))):=by
 obtain⟨d1,d2,d3,d4,d5,d6,d7,d8,rfl⟩:=form_Deal hD
 refine SpecW.of0 Tryz.func142 rfl (by kernel_rfl) rfl (fun H hfin hfz=>?_)
 haveI o:On S H0 (Low H.n) H:=⟨fun id hs=>⟨(hfz id hs).1,(hfz id hs).2⟩⟩
 have h:=h.on (S':=Low H.n) (A':=H)
 have hD:K_Deal.R D H x _:=K_Deal.same (fun id hid=>(hfz id (hDD id hid).1).2) hD
 have hDD:∀id,D id→id<H.n∧¬d.W id:=fun id hid=>⟨(hfz id (hDD id hid).1).1,(hDD id hid).2⟩
 obtain⟨hid,sid,gid,bid,nid,w⟩:=d
 have hc:=h.cellsH
 have hh:=h.hall
 have hsl:=hok.sl
 have h7:=hd.sch.h7
 have h1h:=hd.sch.h1
 have hbl:=hd.bl
 have hp2:=hd.prime.1
 have hp31:=hd.prime.2.1
 have hep:=hok.ep
 have Lc:∀id,id<H.n→Low H.n id∧H.m id=H.m id:=fun id p=>⟨p,rfl⟩
 refine KW.cF U U (by first | (simp;done) | decide) ?_
 refine KW.cF U U (by first | (simp;done) | decide) ?_
 refine KW.cT U U (by first | (simp;done) | decide) ?_
 have e:doIt x c (5,A,B)=if(c.wire.length:Int)≤A then(c,2) else(dropW c A.toNat,0):=rfl
 rw[e]
 have hwi:=h.wire
 cases w with
 | none=>
  have ew:c.wire=[]:=hwi
  have el:c.wire.length=0:=by rw[ew];rfl
  refine KW.ldF 6 hc U U U U U U U U U ?_
  refine KW.yes U U (by omega) ?_
  rw[if_pos (by omega)]
  exact KW.retW U U U U (fun H1 g=>by have:=g.n_;omega) (fun id hid _=>⟨hid,rfl⟩) (fun H1 g=>⟨rfl,HlPost.same h (fun id p=>p) (fun id hid=>(g.froz id hid).2)⟩)
 | some iq=>
  obtain⟨i,q⟩:=iq
  obtain⟨hi1,hq,wcs,hi2,hcl⟩:=hwi
  have li:i<H.n:=hi1
  obtain⟨n1,n2,n3,n4,n5⟩:=HD.nodup h.dist
  have nh:i≠hid:=(n5 i q rfl).1
  refine KW.ldF 6 hc U U U U U U U U U ?_
  refine KW.cnd U U (fun k1=>?_) (fun k1=>?_)
  ·have k1:A≥(c.wire.length:Int):=k1
   rw[if_pos (by omega)]
   exact KW.retW U U U U (fun H1 g=>by have:=g.n_;omega) (fun id hid _=>⟨hid,rfl⟩) (fun H1 g=>⟨rfl,HlPost.same h (fun id p=>p) (fun id hid=>(g.froz id hid).2)⟩)
  have k1:¬A≥(c.wire.length:Int):=k1
  rw[if_neg (by omega)]
  obtain⟨hpk,hpok⟩:=hok.pk hA0.1 (by omega)
  refine KW.ldF 6 hc U U U U U U U U U ?_
  have hpX:=hcl.2 _ _ hpk
  obtain⟨pa1,pc1,pa2,pc2,eseg,hq1,hq2⟩:=split_Packet hpX
  rw[eseg] at hpX
  have hwl:c.wire.length*5≤wcs.length:=hcl.1
  refine KW.idx0 U U U U U U U U U (by omega) (by omega) ?_
  refine KW.ldP hi1 hi2 U U U U U (bload_seg (ps:=[.bool (c.pk A).1,.int .i64 (c.pk A).2.1,.int .i64 (c.pk A).2.2.1,.slice pa1 (c.pk A).2.2.2.1.length pc1,.slice pa2 (c.pk A).2.2.2.2.length pc2]) U U U (by show 0+A.toNat*5+5≤wcs.length;omega) (by rw[Nat.zero_add];exact eseg)) ?_
  obtain⟨E,J,hat⟩:=HoOk.at hd hpok.ho hpok.ep
  have ewA:IntKind.i64.wrap (A+1)=((A.toNat+1:Nat):Int):=by rw[wr (by omega) (by omega)];omega
  have eA:A=((A.toNat:Nat):Int):=by omega
  refine KW.cT U U (by first | (simp;done) | decide) ?_
  refine KW.ldF 6 hc U U U U U U U U U ?_
  refine KW.callW (W:=fun id=>id=i) (fun id p=>by rw[p];exact hi1) U U U U U (by show SpecW _ _ _ _ _ [_,.int .i64 A,.int .i64 (IntKind.i64.wrap (A+1))] _;rw[ewA];conv=>{arg 6;rw[eA]};exact deletePk hi1 hi2 hcl hq (by omega) hok.wl (fun id p=>⟨h.sx id p,fun e=>h.out id p (by rw[e];exact HD.Win.2.2.2.2.2 i q rfl)⟩)) (fun v H5 S5 m5 t5 w5 hv=>?_)
  obtain⟨rfl,cs',hm',hcl'⟩:=hv
  refine KW.thaw hid _ (t5 hid hh.1).1 (((t5 hid hh.1).2 (Ne.symm nh)).trans hh.2) ?_
  refine KW.st1 2 U U U U U U U U U U U U (by show 6<([_,_,_,_,_,_,_]++_).length;simp) ?_
  refine KW.freeze 2 rfl (fun A9 S9 hn9 hS9 t9 hm9 ho9 hno9 hlt9=>?_)
  have k5:∀id,id<H.n→S9 id∧(id≠hid→id≠i→A9.m id=H.m id):=fun id p=>by
   refine⟨(hS9 id).2 ?_,fun e1 e2=>((t9.st id ⟨(t5 id p).1,e1⟩).2).trans ((t5 id p).2 e2)⟩
   by_cases e:id=hid
   ·exact .inr e
   ·exact .inl ⟨(t5 id p).1,e⟩
  have ki:A9.m i=H5.m i:=(t9.st i ⟨(t5 i li).1,nh⟩).2
  have kx:∀id,X id→S9 id∧A9.m id=H.m id:=fun id p=>⟨(k5 id (h.sx id p)).1,(k5 id (h.sx id p)).2 (fun e=>h.out id p (by rw[e];exact HD.Win.1)) (fun e=>h.out id p (by rw[e];exact HD.Win.2.2.2.2.2 i q rfl))⟩
  have kx5:∀id,X id→A9.m id=H5.m id:=fun id p=>by
   rw[(kx id p).2,(t5 id (h.sx id p)).2 (fun e=>h.out id p (by rw[e];exact HD.Win.2.2.2.2.2 i q rfl))]
  have hle:(c.wire.eraseIdx A.toNat).length=c.wire.length-1:=by rw[List.length_eraseIdx,if_pos (by omega)]
  have h9:Hl HTI [] [.int .i64 x.1.1,.slice d1 x.1.2.1.length d2,.int .i64 x.1.2.2.1,.int .i64 x.1.2.2.2.1,.slice d3 x.1.2.2.2.2.length d4,.int .i64 x.2.1,.slice d5 x.2.2.1.length d6,.slice d7 x.2.2.2.length d8] S9 A9 X ⟨hid,sid,gid,bid,nid,some (i,q)⟩ (dropW c A.toNat):=by
   refine⟨fun id p=>(kx id p).1,⟨(hS9 hid).2 (.inr rfl),?_⟩,h.seats.mv ⟨(k5 _ h.seats.1).1,(k5 _ h.seats.1).2 n1.1.symm (n5 i q rfl).2.1.symm⟩ (fun id p=>(kx id p).2) (fun _ p=>p),h.got.mv ⟨(k5 _ h.got.1).1,(k5 _ h.got.1).2 n1.2.1.symm (n5 i q rfl).2.2.1.symm⟩ (fun id p=>(kx id p).2) (fun _ p=>p),h.has.mv ⟨(k5 _ h.has.1).1,(k5 _ h.has.1).2 n1.2.2.1.symm (n5 i q rfl).2.2.2.1.symm⟩,h.named.mv ⟨(k5 _ h.named.1).1,(k5 _ h.named.1).2 n1.2.2.2.symm (n5 i q rfl).2.2.2.2.symm⟩,⟨(k5 i li).1,by show(c.wire.eraseIdx A.toNat).length≤q;omega,cs',ki.trans hm',hcl'.mv kx5 (fun _ p=>p)⟩,h.dist,h.out⟩
   rw[hm9]
   simp only[HD.cells,HD.wv,dropW,hle]
   rfl
  have hX9:K_Packet.R X A9 (c.pk A) _:=K_Packet.same (fun id p=>(kx id p).2) hpX
  have hok9:=hok.drop A.toNat
  refine KW.cF U U (by first | (simp;done) | decide) ?_
  refine KW.retW U U U U (fun H1 g=>by have:=g.n_;omega) (fun id p hw=>⟨(k5 id p).1,(k5 id p).2 (fun e=>hw (by rw[e];exact HD.Win.1)) (fun e=>hw (by rw[e];exact HD.Win.2.2.2.2.2 i q rfl))⟩) (fun H7 g=>⟨rfl,?_⟩)
  exact⟨X,_,h9.mv (fun id p=>⟨p.imp (fun p=>p) .inl,(g.froz id (p.elim (h9.w id) (h9.sx id))).2⟩),rfl,fun id p=>.inl p,fun id p=>.inl p⟩
end
abbrev seatC:List Value:=[.int .i64 (-1),.slice none 0 0,.slice none 0 0,.int .i64 (-1),.slice none 0 0,.slice none 0 0,.int .i64 0]
def seatZ:Nat→List Value
 | 0=>[]
 | n+1=>seatZ n++seatC
theorem seatZ_len:∀n,(seatZ n).length=n*7
 | 0=>rfl
 | n+1=>by simp only[seatZ,List.length_append,seatZ_len n,seatC,List.length_cons,List.length_nil];omega
theorem seatZ_at:∀(n i:Nat),i<n→((seatZ n).drop (i*7)).take 7=seatC
 | 0,i,h=>by omega
 | n+1,i,h=>by
  simp only[seatZ]
  by_cases e:i=n
  ·subst e
   rw[List.drop_append_of_le_length (by rw[seatZ_len];omega),List.drop_eq_nil_of_le (by rw[seatZ_len];omega)]
   rfl
  ·rw[List.drop_append_of_le_length (by rw[seatZ_len];omega),List.take_append_of_le_length (by rw[List.length_drop,seatZ_len];omega)]
   exact seatZ_at n i (by omega)
theorem cl_seat0 (X:Ids) (A:AH) (n:Nat):Cl K_Seat X A (List.replicate n seat0) (seatZ n):=by
 refine⟨by rw[List.length_replicate,seatZ_len];exact Nat.le_refl _,fun i x hx=>?_⟩
 have hi:=(List.getElem?_eq_some_iff.1 hx).1
 rw[List.length_replicate] at hi
 obtain rfl:=List.eq_of_mem_replicate (List.mem_of_getElem? hx)
 show K_Seat.R X A seat0 (((seatZ n).drop (i*7)).take 7)
 rw[seatZ_at n i hi]
 have hn:KI.Sl X A (.slice none 0 0) ([]:List Int):=⟨rfl,none,0,rfl,fun _=>rfl⟩ |> fun h=>.inl h
 exact mk_Seat (x:=seat0) (mk_Purse (x:=purse0) hn hn) (mk_Purse (x:=purse0) hn hn)
theorem built_Hall (vs:Array Value) (v0 v1 v2 v3 v4 v5 v6 v7:Value) (h:vs=#[v0,v1,v2,v3,v4,v5,v6,v7]):Tryz.prog.built 118 [(1,.agg vs)]=some #[.int .i64 0,.slice none 0 0,.int .i64 0,.slice none 0 0,.slice none 0 0,.slice none 0 0,.slice none 0 0,v0,v1,v2,v3,v4,v5,v6,v7]:=by subst h;kernel_rfl
theorem built_Purse0:Tryz.prog.built 49 [(0,.int .i64 (-1))]=some #[.int .i64 (-1),.slice none 0 0,.slice none 0 0]:=by kernel_rfl
theorem built_Seat2 (a b c d e f:Value):Tryz.prog.built 51 [(0,.agg #[a,b,c]),(1,.agg #[d,e,f])]=some #[a,b,c,d,e,f,.int .i64 0]:=by kernel_rfl
theorem built_Opener (k:Int) (o1 o2 o3:Option Addr) (n1 c1 n2 c2 n3 c3:Nat):Tryz.prog.built 42 [(0,.int .i64 k),(1,.slice o1 n1 c1),(2,.slice o2 n2 c2),(3,.slice o3 n3 c3)]=some #[.int .i64 k,.slice o1 n1 c1,.slice o2 n2 c2,.slice o3 n3 c3]:=by kernel_rfl
theorem Good.sub {S:Ids} {H0 H:AH} {T T':List Var} {n:Nat} (g:Good S H0 T n H) (f:Nat→Nat) (hf:∀i j,f i=f j→i=j) (h:∀i u,T'[i]?=some u→T[f i]?=some u):Good S H0 T' n H:=
 ⟨g.n_,g.fin,g.froz,fun i u hi=>g.vars (f i) u (h i u hi),fun i j u w hi hj e=>hf i j (g.dist (f i) (f j) u w (h i u hi) (h j w hj) e)⟩
theorem T3c {a b:Var} {i:Nat} {ty:TypeId} {r:Bool} {cs cs':List Value} (h:cs=cs'):([a,b,(i,⟨ty,r,cs⟩)]:List Var)=[a,b,(i,⟨ty,r,cs'⟩)]:=by rw[h]
theorem Good.castT {S:Ids} {H0 H:AH} {T T':List Var} {n:Nat} (g:Good S H0 T n H) (h:T=T'):Good S H0 T' n H:=h ▸ g
theorem Good.newV {m:Nat} {H0 H:AH} {T:List Var} {n j id:Nat} {b:Blk} (g:Good (Low m) H0 T n H) (hj:T[j]?=some (id,b)):New m H.n id:=by
 have h:=g.vars j _ hj
 have hn:=g.n_
 exact⟨Nat.not_lt.1 h.2.2,by rw[hn];exact h.2.1⟩
theorem Good.nodup {S:Ids} {H0 H:AH} {T:List Var} {n:Nat} (g:Good S H0 T n H):(T.map Prod.fst).Nodup:=by
 refine List.pairwise_iff_getElem.2 fun i j hi hj hij e=>?_
 rw[List.length_map] at hi hj
 rw[List.getElem_map,List.getElem_map] at e
 have:=g.dist i j _ _ (List.getElem?_eq_getElem hi) (List.getElem?_eq_getElem hj) e
 omega
theorem Good.no2 {S:Ids} {H0 H:AH} {a b c d:Var} {n:Nat} (g:Good S H0 [a,b,c,d] n H):Good S H0 [a,b,d] n H:=by
 refine g.sub (fun i=>if i<2 then i else i+1) (fun i j h=>by split at h<;>split at h<;>omega) (fun i u hi=>?_)
 match i,hi with
 | 0,hi=>exact hi
 | 1,hi=>exact hi
 | 2,hi=>exact hi
 | i+3,hi=>simp at hi
section
variable {S:Ids} {H0:AH} {x:T_Deal} {dcs:List Value}
theorem emptyPurse:Spec Tryz.prog S H0 206 [] (fun v=>v=.agg [.int .i64 (-1),.slice none 0 0,.slice none 0 0].toArray):=by
 refine Spec.of1 Tryz.func206 rfl (by kernel_rfl) rfl (fun H _=>?_)
 refine KW.build U U U U U (built_Purse0) ?_
 exact KW.ret U U U U (rfl)
theorem newHall (hd:DealOk x) (hD:K_Deal.R S H0 x dcs):SpecM Tryz.prog S H0 141 [.agg dcs.toArray] (fun n v H1=>∃(d:HD) (sp:Option Nat),v=.pointer (some ⟨d.hid,0,sp⟩)∧Hl HTI [] dcs (New n H1.n) H1 (fun _=>False) d (cer0 x.1.1.toNat)):=by
 obtain⟨d1,d2,d3,d4,d5,d6,d7,d8,rfl⟩:=form_Deal hD
 have h7:=hd.sch.h7
 have h1:=hd.sch.h1
 refine SpecM.of1 Tryz.func141 rfl (by kernel_rfl) rfl (fun H _=>?_)
 refine KW.build U U U U U (built_Hall _ _ _ _ _ _ _ _ _ rfl) ?_
 refine KW.lpM U U (fun s:Nat × Option Nat=>[(3,.int .i64 x.1.1),(4,.pointer (some ⟨H.n+1,0,some 1⟩)),(11,.int .i64 x.1.1),(12,.int .i64 s.1)]) (fun s=>Low H.n) (fun s=>H) (fun s=>[(H.n,⟨32,true,[.int .i64 x.1.1,.slice d1 x.1.2.1.length d2,.int .i64 x.1.2.2.1,.int .i64 x.1.2.2.2.1,.slice d3 x.1.2.2.2.2.length d4,.int .i64 x.2.1,.slice d5 x.2.2.1.length d6,.slice d7 x.2.2.2.length d8]⟩),(H.n+1,⟨118,true,[.int .i64 0,(match s.2 with | none=>.slice none 0 0 | some o=>.slice (some ⟨o,0,some 7⟩) s.1 s.1),.int .i64 0,.slice none 0 0,.slice none 0 0,.slice none 0 0,.slice none 0 0,.int .i64 x.1.1,.slice d1 x.1.2.1.length d2,.int .i64 x.1.2.2.1,.int .i64 x.1.2.2.2.1,.slice d3 x.1.2.2.2.2.length d4,.int .i64 x.2.1,.slice d5 x.2.2.1.length d6,.slice d7 x.2.2.2.length d8]⟩)]++(match s.2 with | none=>[] | some o=>[(o,⟨51,true,seatZ s.1⟩)])) (fun s=>s.1≤x.1.1.toNat∧(s.2=none↔s.1=0)) (fun s=>x.1.1.toNat-s.1) ((0,none)) (⟨by omega,by simp⟩) ⟨rfl,rfl,rfl,rfl,trivial⟩ U U (rfl) (fun s hi bE n=>?_)
 obtain⟨i,ob⟩:=s
 obtain⟨i1,i2⟩:=hi
 simp only at i1 i2
 refine KW.cnd U U (fun k1=>?gin) (fun k1=>?gout)
 case gin=>
  have k1:(i:Int)<x.1.1:=k1
  cases ob with
  | none=>
   obtain rfl:=i2.1 rfl
   simp only
   refine KW.callE U U U U U (emptyPurse) (fun _ _=>?_)
   refine KW.callE U U U U U (emptyPurse) (fun _ _=>?_)
   refine KW.build U U U U U (built_Seat2 _ _ _ _ _ _) ?_
   refine KW.litS1 U U U U U U U U U U U U ?_
   refine KW.appNS U U U U U U U (by decide) rfl (fun H1 g=>acells_seg (g.blk (j:=2) rfl).1 (by show 0+1*7≤7;decide)) rfl (by decide) (by decide) (by decide) ?_
   refine KW.nxt U U (fun H' g=>⟨(1,some _),⟨by simp only;omega,by simp⟩,by first | omega | (simp only;omega),⟨rfl,rfl,rfl,congrArg (Value.int .i64) (inc64 (by omega)),trivial⟩,g.no2⟩)
  | some o=>
   simp only
   refine KW.callE U U U U U (emptyPurse) (fun _ _=>?_)
   refine KW.callE U U U U U (emptyPurse) (fun _ _=>?_)
   refine KW.build U U U U U (built_Seat2 _ _ _ _ _ _) ?_
   refine KW.cnt (fun m hm=>?_)
   refine KW.litS1 U U U U U U U U U U U U ?_
   refine KW.appTS 2 U U U U U U U U (by decide) rfl (fun H1 g=>acells_seg (g.blk (j:=3) rfl).1 (by show 0+1*7≤7;decide)) (by show 0+i*7≤(seatZ i).length;rw[seatZ_len];omega) rfl (by decide) (by show(i+1)*120≤_;omega) (by omega) ?_
   have e:((seatZ i).drop 0).take (i*7)=seatZ i:=by rw[List.drop_zero,List.take_of_length_le (by rw[seatZ_len];exact Nat.le_refl _)]
   have e2:((seatZ i).drop 0).take (i*7)++seatC=seatZ (i+1):=by rw[e];rfl
   refine KW.nxt U U (fun H' g=>⟨(i+1,some (m+1)),⟨by simp only;omega,by simp⟩,by first | omega | (simp only;omega),⟨rfl,rfl,rfl,congrArg (Value.int .i64) (inc64 (by omega)),trivial⟩,(g.take 3).castT (show([_,_,(m+1,⟨_,true,_⟩)]:List Var)=[_,_,(m+1,⟨_,true,_⟩)] from T3c e2)⟩)
 have k1:¬(i:Int)<x.1.1:=k1
 have:i=x.1.1.toNat:=by omega
 subst this
 cases ob with
 | none=>have:=i2.1 rfl;omega
 | some o=>
  simp only
  refine KW.mk1 U U U U U U U U U U U U x.1.1.toNat (by omega) (by omega) (by omega) (by show 24*_≤_;omega) ?_
  refine KW.mk1 U U U U U U U U U U U U x.1.1.toNat (by omega) (by omega) (by omega) (by show 1*_≤_;omega) ?_
  refine KW.mk1 U U U U U U U U U U U U x.1.1.toNat (by omega) (by omega) (by omega) (by show 1*_≤_;omega) ?_
  refine KW.build U U U U U (built_Opener _ _ _ _ _ _ _ _ _ _) ?_
  refine KW.retM1 U U U U (fun H1 g=>⟨⟨H.n+1,o,n,n+1,n+1+1,none⟩,_,rfl,?_⟩)
  have eT:(cer0 x.1.1.toNat).seats.length=x.1.1.toNat:=by simp[cer0]
  refine⟨fun id p=>p.elim,⟨g.newV (j:=1) rfl,?_⟩,⟨g.newV (j:=2) rfl,_,(g.blk (j:=2) rfl).1,cl_seat0 _ _ _⟩,⟨g.newV (j:=3) rfl,_,(g.blk (j:=3) rfl).1,by simp[cer0],Cl.repN _ _ _⟩,⟨g.newV (j:=4) rfl,?_⟩,⟨g.newV (j:=5) rfl,?_⟩,rfl,(List.nodup_cons.1 g.nodup).2,fun id p=>p.elim⟩
  ·rw[(g.blk (j:=1) rfl).1]
   simp only[HD.cells,HD.wv,cer0,List.length_replicate,List.length_nil]
   rfl
  ·rw[(g.blk (j:=4) rfl).1]
   simp[cer0]
  ·rw[(g.blk (j:=5) rfl).1]
   simp[cer0]
end
theorem built_Run (o:Option Addr):Tryz.prog.built 112 [(0,.pointer o)]=some #[.pointer o,.int .i64 0,.slice none 0 0,.int .i64 0,.slice none 0 0,.slice none 0 0,.slice none 0 0,.slice none 0 0]:=by kernel_rfl
theorem Good.pick5 {S:Ids} {H0 H:AH} {a b c d e f g h i j:Var} {n:Nat} (G:Good S H0 [a,b,c,d,e,f,g,h,i,j] n H):Good S H0 [a,c,f,h,j] n H:=by
 have inj:∀i j:Nat,(if i=0 then 0 else if i=1 then 2 else if i=2 then 5 else if i=3 then 7 else i+5)=(if j=0 then 0 else if j=1 then 2 else if j=2 then 5 else if j=3 then 7 else j+5)→i=j:=fun i j h=>by
  repeat' split at h
  all_goals omega
 refine G.sub (fun i=>if i=0 then 0 else if i=1 then 2 else if i=2 then 5 else if i=3 then 7 else i+5) inj (fun i u hi=>?_)
 match i,hi with
 | 0,hi=>exact hi
 | 1,hi=>exact hi
 | 2,hi=>exact hi
 | 3,hi=>exact hi
 | 4,hi=>exact hi
 | i+5,hi=>simp at hi
theorem T5c {a:Var} {i1 i2 i3 i4:Nat} {t1 t2 t3 t4:TypeId} {c1 c2 c3 c4 d1 d2 d3 d4:List Value} (h1:c1=d1) (h2:c2=d2) (h3:c3=d3) (h4:c4=d4):([a,(i1,⟨t1,true,c1⟩),(i2,⟨t2,true,c2⟩),(i3,⟨t3,true,c3⟩),(i4,⟨t4,true,c4⟩)]:List Var)=[a,(i1,⟨t1,true,d1⟩),(i2,⟨t2,true,d2⟩),(i3,⟨t3,true,d3⟩),(i4,⟨t4,true,d4⟩)]:=by rw[h1,h2,h3,h4]
theorem drop0_take {l:List Value} {n:Nat} (h:l.length=n):(l.drop 0).take n=l:=by rw[List.drop_zero,List.take_of_length_le (by omega)]
theorem repSnoc (n:Nat) (v:Value):List.replicate n v++[v]=List.replicate (n+1) v:=by rw[List.replicate_succ',]
section
variable {S:Ids} {H0:AH} {D:Ids} {x:T_Deal} {dcs:List Value}
theorem l08Begin {did:Nat} (hd:DealOk x) (hD:K_Deal.R D H0 x dcs) (hDv:Has3 S H0 did 0 dcs):SpecM Tryz.prog S H0 133 [.pointer (some ⟨did,0,none⟩)] (fun n v H1=>∃(d:HD) (sp:Option Nat),v=.pointer (some ⟨d.hid,0,sp⟩)∧Hl HTS [.pointer (some ⟨did,0,none⟩)] [] (New n H1.n) H1 (fun _=>False) d (cer0 x.1.1.toNat)):=by
 obtain⟨d1,d2,d3,d4,d5,d6,d7,d8,rfl⟩:=form_Deal hD
 have h7:=hd.sch.h7
 have h1:=hd.sch.h1
 refine SpecM.of1 Tryz.func133 rfl (by kernel_rfl) rfl (fun H _=>?_)
 have hDv:=hDv.up (S':=Low H.n) (H':=H)
 refine KW.build U U U U U (built_Run _) ?_
 refine KW.lpM U U (fun s:Nat × Option (Nat × Nat × Nat × Nat) × List Value=>[(0,.pointer (some ⟨did,0,none⟩)),(3,.pointer (some ⟨H.n,0,some 0⟩)),(4,.int .i64 s.1)]) (fun s=>Low H.n) (fun s=>H) (fun s=>[(H.n,⟨112,true,[.pointer (some ⟨did,0,none⟩),.int .i64 0,(match s.2.1 with | none=>.slice none 0 0 | some o=>.slice (some ⟨o.1,0,some 7⟩) s.1 s.1),.int .i64 (-1),(match s.2.1 with | none=>.slice none 0 0 | some o=>.slice (some ⟨o.2.1,0,some 1⟩) s.1 s.1),(match s.2.1 with | none=>.slice none 0 0 | some o=>.slice (some ⟨o.2.2.1,0,some 1⟩) s.1 s.1),(match s.2.1 with | none=>.slice none 0 0 | some o=>.slice (some ⟨o.2.2.2,0,some 1⟩) s.1 s.1),.slice none 0 0]⟩)]++(match s.2.1 with | none=>[] | some o=>[(o.1,⟨51,true,seatZ s.1⟩),(o.2.1,⟨24,true,s.2.2⟩),(o.2.2.1,⟨4,true,List.replicate s.1 (.bool false)⟩),(o.2.2.2,⟨4,true,List.replicate s.1 (.bool false)⟩)])) (fun s=>s.1≤x.1.1.toNat∧(s.2.1=none↔s.1=0)∧s.2.2.length=s.1∧∀j,j<s.1→∃id,s.2.2[j]?=some (.slice (some ⟨id,0,some 1⟩) 0 0)) (fun s=>x.1.1.toNat-s.1) ((0,none,[])) (⟨by omega,by simp,rfl,fun j h=>absurd h (by simp)⟩) ⟨rfl,rfl,rfl,trivial⟩ U U (rfl) (fun s hi bE n=>?_)
 obtain⟨i,ob,gs⟩:=s
 obtain⟨i1,i2,i3,i4⟩:=hi
 simp only at i1 i2 i3 i4
 refine KW.ldF 0 hDv U U U U U U U U U ?_
 refine KW.cnd U U (fun k1=>?gin) (fun k1=>?gout)
 case gin=>
  have k1:(i:Int)<x.1.1:=k1
  cases ob with
  | none=>
   obtain rfl:=i2.1 rfl
   obtain rfl:gs=[]:=List.eq_nil_of_length_eq_zero i3
   simp only
   refine KW.build U U U U U (built_Purse0) ?_
   refine KW.build U U U U U (built_Purse0) ?_
   refine KW.build U U U U U (built_Seat2 _ _ _ _ _ _) ?_
   refine KW.cnt (fun m hm=>?_)
   refine KW.litS1 U U U U U U U U U U U U ?_
   refine KW.appNS U U U U U U U (by decide) rfl (fun H1 g=>acells_seg (g.blk (j:=1) rfl).1 (by show 0+1*7≤7;decide)) rfl (by decide) (by decide) (by decide) ?_
   refine KW.lit U U U U U U U U U U [] U U (fun v hv=>by simp at hv) rfl ?_
   refine KW.lit U U U U U U U U U U [.slice (some ⟨m+1+1,0,some 1⟩) 0 0] U U (fun v hv=>by simp at hv;subst hv;rfl) rfl ?_
   refine KW.appNS (m:=1) (ys:=[.slice (some ⟨m+1+1,0,some 1⟩) 0 0]) U U U U U U U (by decide) rfl (fun H1 g=>acells_seg (g.blk (j:=4) rfl).1 (by show 0+1*1≤1;decide)) rfl (by decide) (by decide) (by decide) ?_
   refine KW.lit U U U U U U U U U U [.bool false] U U (fun v hv=>by simp at hv;subst hv;rfl) rfl ?_
   refine KW.appNS (m:=1) (ys:=[.bool false]) U U U U U U U (by decide) rfl (fun H1 g=>acells_seg (g.blk (j:=6) rfl).1 (by show 0+1*1≤1;decide)) rfl (by decide) (by decide) (by decide) ?_
   refine KW.lit U U U U U U U U U U [.bool false] U U (fun v hv=>by simp at hv;subst hv;rfl) rfl ?_
   refine KW.appNS (m:=1) (ys:=[.bool false]) U U U U U U U (by decide) rfl (fun H1 g=>acells_seg (g.blk (j:=8) rfl).1 (by show 0+1*1≤1;decide)) rfl (by decide) (by decide) (by decide) ?_
   have hr:∀j,j<1→∃id,([.slice (some ⟨m+1+1,0,some 1⟩) 0 0]:List Value)[j]?=some (.slice (some ⟨id,0,some 1⟩) 0 0):=fun j hj=>by
    obtain rfl:j=0:=by omega
    exact⟨m+1+1,rfl⟩
   refine KW.nxt U U (fun H' g=>⟨(1,some (m+1,m+4,m+6,m+8),[Value.slice (some ⟨m+1+1,0,some 1⟩) 0 0]),⟨by simp only;omega,by simp,rfl,hr⟩,by first | omega | (simp only;omega),⟨rfl,rfl,congrArg (Value.int .i64) (inc64 (by omega)),trivial⟩,g.pick5⟩)
  | some o=>
   obtain⟨o1,o2,o3,o4⟩:=o
   simp only
   refine KW.build U U U U U (built_Purse0) ?_
   refine KW.build U U U U U (built_Purse0) ?_
   refine KW.build U U U U U (built_Seat2 _ _ _ _ _ _) ?_
   refine KW.cnt (fun m hm=>?_)
   refine KW.litS1 U U U U U U U U U U U U ?_
   refine KW.appTS 1 U U U U U U U U (by decide) rfl (fun H1 g=>acells_seg (g.blk (j:=5) rfl).1 (by show 0+1*7≤7;decide)) (by show 0+i*7≤(seatZ i).length;rw[seatZ_len];omega) rfl (by decide) (by show(i+1)*120≤_;omega) (by omega) ?_
   refine KW.lit U U U U U U U U U U [] U U (fun v hv=>by simp at hv) rfl ?_
   refine KW.lit U U U U U U U U U U [.slice (some ⟨m+1+1,0,some 1⟩) 0 0] U U (fun v hv=>by simp at hv;subst hv;rfl) rfl ?_
   refine KW.appTS (m:=1) (ys:=[.slice (some ⟨m+1+1,0,some 1⟩) 0 0]) 2 U U U U U U U U (by decide) rfl (fun H1 g=>acells_seg (g.blk (j:=7) rfl).1 (by show 0+1*1≤1;decide)) (by show 0+i*1≤gs.length;omega) rfl (by decide) (by show(i+1)*24≤_;omega) (by omega) ?_
   refine KW.lit U U U U U U U U U U [.bool false] U U (fun v hv=>by simp at hv;subst hv;rfl) rfl ?_
   refine KW.appTS (m:=1) (ys:=[.bool false]) 3 U U U U U U U U (by decide) rfl (fun H1 g=>acells_seg (g.blk (j:=8) rfl).1 (by show 0+1*1≤1;decide)) (by show 0+i*1≤(List.replicate i (Value.bool false)).length;simp) rfl (by decide) (by show(i+1)*1≤_;omega) (by omega) ?_
   refine KW.lit U U U U U U U U U U [.bool false] U U (fun v hv=>by simp at hv;subst hv;rfl) rfl ?_
   refine KW.appTS (m:=1) (ys:=[.bool false]) 4 U U U U U U U U (by decide) rfl (fun H1 g=>acells_seg (g.blk (j:=9) rfl).1 (by show 0+1*1≤1;decide)) (by show 0+i*1≤(List.replicate i (Value.bool false)).length;simp) rfl (by decide) (by show(i+1)*1≤_;omega) (by omega) ?_
   have e1:((seatZ i).drop 0).take (i*7)++seatC=seatZ (i+1):=by rw[drop0_take (seatZ_len i)];rfl
   have e2:(gs.drop 0).take (i*1)++[.slice (some ⟨m+1+1,0,some 1⟩) 0 0]=gs++[.slice (some ⟨m+1+1,0,some 1⟩) 0 0]:=by rw[drop0_take (by omega)]
   have e3:((List.replicate i (Value.bool false)).drop 0).take (i*1)++[.bool false]=List.replicate (i+1) (Value.bool false):=by rw[drop0_take (by simp)];exact repSnoc _ _
   have hr:∀j,j<i+1→∃id,(gs++[.slice (some ⟨m+1+1,0,some 1⟩) 0 0])[j]?=some (.slice (some ⟨id,0,some 1⟩) 0 0):=fun j hj=>by
    by_cases e:j<i
    ·obtain⟨id,h⟩:=i4 j e
     exact⟨id,by rw[List.getElem?_append_left (by omega)];exact h⟩
    ·refine⟨m+1+1,?_⟩
     rw[List.getElem?_append_right (by omega),i3,show j-i=0 by omega]
     rfl
   refine KW.nxt U U (fun H' g=>⟨(i+1,some (m+1,m+4,m+6,m+8),gs++[Value.slice (some ⟨m+1+1,0,some 1⟩) 0 0]),⟨by simp only;omega,by simp,by simp[i3],hr⟩,by first | omega | (simp only;omega),⟨rfl,rfl,congrArg (Value.int .i64) (inc64 (by omega)),trivial⟩,(g.take 5).castT (show([_,(m+1,⟨_,true,_⟩),(m+4,⟨_,true,_⟩),(m+6,⟨_,true,_⟩),(m+8,⟨_,true,_⟩)]:List Var)=[_,(m+1,⟨_,true,_⟩),(m+4,⟨_,true,_⟩),(m+6,⟨_,true,_⟩),(m+8,⟨_,true,_⟩)] from T5c e1 e2 e3 e3)⟩)
 have k1:¬(i:Int)<x.1.1:=k1
 have:i=x.1.1.toNat:=by omega
 subst this
 cases ob with
 | none=>have:=i2.1 rfl;omega
 | some o=>
  obtain⟨o1,o2,o3,o4⟩:=o
  simp only
  refine KW.retM1 U U U U (fun H1 g=>⟨⟨H.n,o1,o2,o3,o4,none⟩,_,rfl,?_⟩)
  refine⟨fun id p=>p.elim,⟨g.newV (j:=0) rfl,?_⟩,⟨g.newV (j:=1) rfl,_,(g.blk (j:=1) rfl).1,cl_seat0 _ _ _⟩,⟨g.newV (j:=2) rfl,_,(g.blk (j:=2) rfl).1,by simp[cer0,i3],Cl.repE i3 i4⟩,⟨g.newV (j:=3) rfl,?_⟩,⟨g.newV (j:=4) rfl,?_⟩,rfl,g.nodup,fun id p=>p.elim⟩
  ·rw[(g.blk (j:=0) rfl).1]
   simp only[HD.cells,HD.wv,cer0,List.length_replicate,List.length_nil]
   rfl
  ·rw[(g.blk (j:=3) rfl).1]
   simp[cer0]
  ·rw[(g.blk (j:=4) rfl).1]
   simp[cer0]
end
end Go.Proofs.YtlapbbffoapleaaGreat.Am
