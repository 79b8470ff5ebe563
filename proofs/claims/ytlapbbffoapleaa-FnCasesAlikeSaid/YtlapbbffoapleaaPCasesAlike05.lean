/- Contracts and laws on abstract memory, merged. Each holds under its own conditions. -/
import Derived.Test.YtlapbbffoapleaaPCasesAlike04
set_option linter.unusedVariables false
set_option linter.unusedSimpArgs false
set_option maxRecDepth 20000
set_option maxHeartbeats 4000000
namespace Go.Proofs.Ytlapbbffoapleaa.Am
open Go Go.RowKit Go.Proofs Go.Proofs.Ytlapbbffoapleaa.Pl
structure FlS where
 i:Nat
 S:Ids
 A:AH
 at_:Nat
 V:Ids
 G:List (List Int)
 cs:List Value
 l:Value
 tail:List Var
structure FlI (p:Int) (k a0:Nat) (H:AH) (id:Nat) (ac:Option Addr) (n cc:Nat) (s:FlS):Prop where
 env:DwE H id s.S s.A
 src:Src ac n cc s.A id s.at_
 at1:s.at_≤a0+20*s.i
 len:s.G.length=s.i
 b:RowsB KI.ml s.S s.A s.V s.G s.cs
 v:∀i,s.V i→H.n≤i
 ok:Rect p k s.G
 form:(s.i=0∧s.l=.slice none 0 0∧s.tail=[]∧s.cs=[])∨(0<s.i∧∃o,s.l=.slice (some ⟨o,0,some 1⟩) s.i s.i∧s.tail=[(o,⟨36,true,s.cs⟩)])
structure FiI (p:Int) (a0:Nat) (H:AH) (id:Nat) (ac:Option Addr) (n cc:Nat) (V:Ids) (G:List (List Int)) (cs:List Value) (s:DiS):Prop where
 env:DwE H id s.S s.A
 src:Src ac n cc s.A id s.at_
 at1:s.at_≤a0+2*s.h
 b:RowsB KI.ml s.S s.A V G cs
 ok:∀x∈s.xs,0≤x∧x<p
 len:s.xs.length=s.h
section
variable {S:Ids} {H0:AH}
theorem l03Filled {bs:List Int} (hb:∀x∈bs,0≤x∧x<256) (hl:bs.length≤1048576) {ac:Option Addr} {cc id at_:Nat} {Y:Ids} {p:Int} (hp:2≤p∧p≤31) {rs k:Nat} (hrs:rs≤6) (hk:k≤6) (hat:at_≤700000) (hS:S id) (hY:∀i,Y i→S i∧i≠id) (hsrc:Src ac bs.length cc H0 id at_) (hs:KB.Sl Y H0 (.slice ac bs.length cc) bs):
  SpecW Try.prog S H0 (fun i=>i=id) 61 [.pointer (some ⟨id,0,none⟩),.int .i64 p,.int .i64 rs,.int .i64 k] (fun n v H1=>∃(L:List (List Int)) (at':Nat),L.length=rs∧Rect p k L∧at'≤at_+200∧MkMo p k L n v H1∧Src ac bs.length cc H1 id at'):=by
 refine SpecW.of0 Try.func61 rfl (by kernel_rfl) rfl (fun H hfin hfz=>?_)
 have fx:∀i,S i→Low H.n i∧H.m i=H0.m i:=fun i hi=>hfz i hi
 have hid:id<H.n:=(fx id hS).1
 have hsH:=hs.stX (S':=fun i=>Low H.n i∧i≠id) (H':=H) (fun i hi=>⟨⟨(fx i (hY i hi).1).1,(hY i hi).2⟩,(fx i (hY i hi).1).2⟩)
 have E0:DwE H id (Low H.n) H:=⟨hid,fun i hi=>⟨hi.1,rfl⟩⟩
 refine KW.build U U U U U (built_Matrix2 _ _) ?_
 refine KW.lpM U U (fun s:FlS=>[(0,.pointer (some ⟨id,0,none⟩)),(1,.int .i64 p),(2,.int .i64 rs),(3,.int .i64 k),(8,.pointer (some ⟨H.n,0,some 0⟩)),(9,.pointer (some ⟨H.n+1,0,some 1⟩)),(10,.int .i64 s.i)]) (fun s=>s.S) (fun s=>s.A) (fun s=>[(H.n,⟨26,true,[.int .i64 0,.int .i64 0,.slice none 0 0]⟩),(H.n+1,⟨26,true,[.int .i64 p,.int .i64 k,s.l]⟩)]++s.tail) (fun s=>s.i≤rs∧FlI p k at_ H id ac bs.length cc s) (fun s=>rs-s.i) (⟨0,Low H.n,H,at_,fun _=>False,[],[],.slice none 0 0,[]⟩) (⟨Nat.zero_le _,E0,hsrc.mv (fx id hS).2,Nat.le_refl _,rfl,RowsB.nil _ _,fun _ h=>h.elim,fun r hr=>by simp at hr,.inl ⟨rfl,rfl,rfl,rfl⟩⟩) ⟨rfl,rfl,rfl,rfl,rfl,rfl,rfl,trivial⟩ U U (rfl) (fun s hi bE n=>?_)
 obtain⟨i,S1,A1,a1,V,G,cs,l,tail⟩:=s
 obtain⟨hil,E1,src1,at1,lenG,b1,v1,okG,hform⟩:=hi
 simp only at hil E1 src1 at1 lenG b1 v1 okG hform
 have hcl:=b1.len
 have vne:∀i,V i→i≠id:=fun i hi e=>by have:=v1 i hi;omega
 rcases hform with⟨hi0,e1,e2,e3⟩ | ⟨hi0,o,e1,e2⟩
 case inl=>
  subst e1 e2 e3
  refine KW.cnd U U (fun k1=>?gin) (fun k1=>?gout)
  case gin=>
   have k1:(i:Int)<(rs:Int):=k1
   refine KW.ids (fun hlow hvar=>?_)
   have hnn:=E1.nle hlow
   refine KW.lit U U U U U U U U U U [] U U (fun v hv=>by simp at hv) rfl ?_
   refine KW.lpM U U (fun s:DiS=>[(0,.pointer (some ⟨id,0,none⟩)),(1,.int .i64 p),(2,.int .i64 rs),(3,.int .i64 k),(8,.pointer (some ⟨H.n,0,some 0⟩)),(9,.pointer (some ⟨H.n+1,0,some 1⟩)),(10,.int .i64 i),(11,.slice (some ⟨s.o,0,some 1⟩) s.xs.length s.xs.length),(12,.int .i64 s.h)]) (fun s=>s.S) (fun s=>s.A) (fun s=>[(H.n,⟨26,true,[.int .i64 0,.int .i64 0,.slice none 0 0]⟩),(H.n+1,⟨26,true,[.int .i64 p,.int .i64 k,.slice none 0 0]⟩)]++[(s.o,(⟨2,true,s.xs.map (Value.int .i64)⟩:Blk))]) (fun s=>s.h≤k∧FiI p a1 H id ac bs.length cc V G [] s) (fun s=>k-s.h) ⟨0,S1,A1,a1,[],_⟩ ⟨Nat.zero_le _,E1,src1,Nat.le_refl _,b1,fun x hx=>by simp at hx,rfl⟩ ⟨rfl,rfl,rfl,rfl,rfl,rfl,rfl,rfl,rfl,trivial⟩ U U U (fun s hi bE n=>?_)
   obtain⟨h,S4,A4,a4,xs,o4⟩:=s
   obtain⟨hq4,E4,src4,at4,b4,ok4,len4⟩:=hi
   simp only at hq4 E4 src4 at4 b4 ok4 len4
   refine KW.cnd U U (fun k2=>?hin) (fun k2=>?hout)
   case hin=>
    have k2:(h:Int)<(k:Int):=k2
    refine KW.callW (W:=fun i=>i=id) (fun i hi=>by subst hi;exact E4.sid) U U U U U (srcPick (S:=S4) (H0:=A4) hb hl (n:=p) (by omega) (by omega) E4.sid (fun i hi=>hi) src4 (E4.kb hsH)) (fun v H5 S5 hn5 st5 hw5 hp=>?_)
    obtain⟨z5,a5,hz5,l5,u5,rfl,src5⟩:=hp
    have hz5:=hz5 (by omega)
    have b5:=b4.mv (S':=S5) (A':=H5) (fun i hi=>⟨(st5 i (b4.sub i hi)).1,(st5 i (b4.sub i hi)).2 (vne i hi)⟩)
    refine KW.app1 (xs:=xs.map (Value.int .i64)) (v:=.int .i64 z5) 2 3 U U U U U U U U U U U U U U U U U U U U U U U (by simp) (by show(xs.length+1)*8≤_;omega) (by show xs.length+1≤_;omega) ?_
    exact KW.nxt U U (fun H' g=>⟨⟨h+1,S5,H5,a5,xs++[(z5:Int)],_⟩,⟨by simp only;omega,E4.w st5,src5,by simp only;omega,b5,fun x hx=>(List.mem_append.1 hx).elim (ok4 x) (fun hx=>by rw[List.mem_singleton.1 hx];omega),by simp only[List.length_append,List.length_singleton];omega⟩,by simp only;omega,⟨rfl,rfl,rfl,rfl,rfl,rfl,rfl,by simp only[List.length_append,List.length_singleton];rfl,congrArg (Value.int .i64) (inc64 (by omega)),trivial⟩,g.eqT (by simp only[List.map_append];rfl)⟩)
   case hout=>
    have k2:¬(h:Int)<(k:Int):=k2
    have ehk:h=k:=by omega
    refine KW.freeze 2 rfl (fun A6 S6 hn6 hS6 st6 hm6 ho6 hnS6 hlow6=>?_)
    have o6ge:∀i,S6 i∧¬S4 i→H.n≤i:=fun i hi=>by
     rcases Nat.lt_or_ge i H.n with hh | hh
     ·by_cases e:i=id
      ·exact(hi.2 (e ▸ E4.sid)).elim
      ·exact(hi.2 (E4.old i ⟨hh,e⟩).1).elim
     ·exact hh
    have fI:=(b4.mv (S':=S6) (A':=A6) (fun i hi=>st6.st i (b4.sub i hi))).snoc (ml1' (row_ml (xs:=xs) hm6)) (fun i hi=>(hS6 i).2 (.inr hi)) (fun i p r=>hnS6 (r ▸ b4.sub i p))
    have fok:Rect p k (G++[xs]):=fun r hr=>(List.mem_append.1 hr).elim (okG r) (fun hr=>by rw[List.mem_singleton.1 hr];exact⟨len4.trans ehk,ok4⟩)
    have fV:∀j,V j∨j=o4→H.n≤j:=fun j hj=>hj.elim (v1 j) (fun e=>o6ge j ⟨(hS6 j).2 (.inr e),fun hx=>hnS6 (e ▸ hx)⟩)
    subst hi0
    refine KW.app0 (v:=.slice (some ⟨o4,0,some 1⟩) xs.length xs.length) 2 U U U U U U U U U U U U U U U U U U U U U U (by decide) ?_
    exact KW.nxt U U (fun H' g=>⟨⟨1,S6,A6,a4,_,G++[xs],_,_,_⟩,⟨by simp only;omega,E4.s st6.st,src4.mv (st6.st id E4.sid).2,by simp only;omega,by simp only[List.length_append,List.length_singleton];omega,fI,fV,fok,.inr ⟨by simp only;omega,_,rfl,rfl⟩⟩,by simp only;omega,⟨rfl,rfl,rfl,rfl,rfl,rfl,rfl,trivial⟩,g⟩)
  case gout=>
   have k1:¬(i:Int)<(rs:Int):=k1
   have er:rs=0:=by omega
   subst er
   refine KW.ids (fun hlow hvar=>?_)
   have hnn:=E1.nle hlow
   refine KW.tno U U (by omega) ?_
   refine KW.cF U U (by first | (simp;done) | decide) ?_
   refine KW.retW U U U U (fun H9 g=>by have:=g.n_;omega) (fun i hi hw=>E1.old i ⟨hi,hw⟩) (fun H9 g=>⟨[],a1,rfl,fun r hr=>by simp at hr,by omega,⟨none,0,rfl,.inl ⟨rfl,_,_,rfl,fun _=>rfl⟩⟩,src1.mv (g.froz id E1.sid).2⟩)
 case inr=>
  subst e1 e2
  refine KW.cnd U U (fun k1=>?gin) (fun k1=>?gout)
  case gin=>
   have k1:(i:Int)<(rs:Int):=k1
   refine KW.ids (fun hlow hvar=>?_)
   have hnn:=E1.nle hlow
   refine KW.lit U U U U U U U U U U [] U U (fun v hv=>by simp at hv) rfl ?_
   refine KW.lpM U U (fun s:DiS=>[(0,.pointer (some ⟨id,0,none⟩)),(1,.int .i64 p),(2,.int .i64 rs),(3,.int .i64 k),(8,.pointer (some ⟨H.n,0,some 0⟩)),(9,.pointer (some ⟨H.n+1,0,some 1⟩)),(10,.int .i64 i),(11,.slice (some ⟨s.o,0,some 1⟩) s.xs.length s.xs.length),(12,.int .i64 s.h)]) (fun s=>s.S) (fun s=>s.A) (fun s=>[(H.n,⟨26,true,[.int .i64 0,.int .i64 0,.slice none 0 0]⟩),(H.n+1,⟨26,true,[.int .i64 p,.int .i64 k,.slice (some ⟨o,0,some 1⟩) i i]⟩),(o,⟨36,true,cs⟩)]++[(s.o,(⟨2,true,s.xs.map (Value.int .i64)⟩:Blk))]) (fun s=>s.h≤k∧FiI p a1 H id ac bs.length cc V G cs s) (fun s=>k-s.h) ⟨0,S1,A1,a1,[],_⟩ ⟨Nat.zero_le _,E1,src1,Nat.le_refl _,b1,fun x hx=>by simp at hx,rfl⟩ ⟨rfl,rfl,rfl,rfl,rfl,rfl,rfl,rfl,rfl,trivial⟩ U U U (fun s hi bE n=>?_)
   obtain⟨h,S4,A4,a4,xs,o4⟩:=s
   obtain⟨hq4,E4,src4,at4,b4,ok4,len4⟩:=hi
   simp only at hq4 E4 src4 at4 b4 ok4 len4
   refine KW.cnd U U (fun k2=>?hin) (fun k2=>?hout)
   case hin=>
    have k2:(h:Int)<(k:Int):=k2
    refine KW.callW (W:=fun i=>i=id) (fun i hi=>by subst hi;exact E4.sid) U U U U U (srcPick (S:=S4) (H0:=A4) hb hl (n:=p) (by omega) (by omega) E4.sid (fun i hi=>hi) src4 (E4.kb hsH)) (fun v H5 S5 hn5 st5 hw5 hp=>?_)
    obtain⟨z5,a5,hz5,l5,u5,rfl,src5⟩:=hp
    have hz5:=hz5 (by omega)
    have b5:=b4.mv (S':=S5) (A':=H5) (fun i hi=>⟨(st5 i (b4.sub i hi)).1,(st5 i (b4.sub i hi)).2 (vne i hi)⟩)
    refine KW.app1 (xs:=xs.map (Value.int .i64)) (v:=.int .i64 z5) 3 4 U U U U U U U U U U U U U U U U U U U U U U U (by simp) (by show(xs.length+1)*8≤_;omega) (by show xs.length+1≤_;omega) ?_
    exact KW.nxt U U (fun H' g=>⟨⟨h+1,S5,H5,a5,xs++[(z5:Int)],_⟩,⟨by simp only;omega,E4.w st5,src5,by simp only;omega,b5,fun x hx=>(List.mem_append.1 hx).elim (ok4 x) (fun hx=>by rw[List.mem_singleton.1 hx];omega),by simp only[List.length_append,List.length_singleton];omega⟩,by simp only;omega,⟨rfl,rfl,rfl,rfl,rfl,rfl,rfl,by simp only[List.length_append,List.length_singleton];rfl,congrArg (Value.int .i64) (inc64 (by omega)),trivial⟩,g.eqT (by simp only[List.map_append];rfl)⟩)
   case hout=>
    have k2:¬(h:Int)<(k:Int):=k2
    have ehk:h=k:=by omega
    refine KW.freeze 3 rfl (fun A6 S6 hn6 hS6 st6 hm6 ho6 hnS6 hlow6=>?_)
    have o6ge:∀i,S6 i∧¬S4 i→H.n≤i:=fun i hi=>by
     rcases Nat.lt_or_ge i H.n with hh | hh
     ·by_cases e:i=id
      ·exact(hi.2 (e ▸ E4.sid)).elim
      ·exact(hi.2 (E4.old i ⟨hh,e⟩).1).elim
     ·exact hh
    have fI:=(b4.mv (S':=S6) (A':=A6) (fun i hi=>st6.st i (b4.sub i hi))).snoc (ml1' (row_ml (xs:=xs) hm6)) (fun i hi=>(hS6 i).2 (.inr hi)) (fun i p r=>hnS6 (r ▸ b4.sub i p))
    have fok:Rect p k (G++[xs]):=fun r hr=>(List.mem_append.1 hr).elim (okG r) (fun hr=>by rw[List.mem_singleton.1 hr];exact⟨len4.trans ehk,ok4⟩)
    have fV:∀j,V j∨j=o4→H.n≤j:=fun j hj=>hj.elim (v1 j) (fun e=>o6ge j ⟨(hS6 j).2 (.inr e),fun hx=>hnS6 (e ▸ hx)⟩)
    refine KW.app1 (xs:=cs) (v:=.slice (some ⟨o4,0,some 1⟩) xs.length xs.length) 2 3 U U U U U U U U U U U U U U U U U U U U U U U (by omega) (by show(_+1)*24≤_;omega) (by omega) ?_
    exact KW.nxt U U (fun H' g=>⟨⟨i+1,S6,A6,a4,_,G++[xs],_,_,_⟩,⟨by simp only;omega,E4.s st6.st,src4.mv (st6.st id E4.sid).2,by simp only;omega,by simp only[List.length_append,List.length_singleton];omega,fI,fV,fok,.inr ⟨by simp only;omega,_,rfl,rfl⟩⟩,by simp only;omega,⟨rfl,rfl,rfl,rfl,rfl,rfl,congrArg (Value.int .i64) (inc64 (by omega)),trivial⟩,g⟩)
  case gout=>
   have k1:¬(i:Int)<(rs:Int):=k1
   have er:i=rs:=by omega
   subst er
   refine KW.ids (fun hlow hvar=>?_)
   have hnn:=E1.nle hlow
   have oge:H.n≤o:=by
    have h2:=(hvar 2 o _ rfl).2
    rcases Nat.lt_or_ge o H.n with hh | hh
    ·by_cases e:o=id
     ·exact(h2 (e ▸ E1.sid)).elim
     ·exact(h2 (E1.old o ⟨hh,e⟩).1).elim
    ·exact hh
   have fin:∀{S9:Ids} {A9:AH} {n9:Nat} {e9:Env} {G9:List (List Int)} {a9:Nat},True:=fun {_ _ _ _ _ _}=>trivial
   refine KW.tst U U (fun k3=>?_) (fun k3=>?_)
   ·have k3:(i:Int)>1:=k3
    have mvb:∀{S S':Ids} {A A':AH},RowsB KI.ml S A V G cs→StW (fun i=>i=id) S A S' A'→RowsB KI.ml S' A' V G cs:=fun b st=>b.mv (fun i hi=>⟨(st i (b.sub i hi)).1,(st i (b.sub i hi)).2 (vne i hi)⟩)
    refine KW.callW (W:=fun i=>i=id) (fun i hi=>by subst hi;exact E1.sid) U U U U U (srcOne (S:=S1) (H0:=A1) hb hl (n:=3) (by omega) (by omega) E1.sid (fun i hi=>hi) src1 (E1.kb hsH)) (fun v H5 S5 hn5 st5 hw5 hp=>?_)
    obtain⟨b0,a5,l5,u5,rfl,src5⟩:=hp
    have E5:=E1.w st5
    have b5:=mvb b1 st5
    refine KW.cndB U U (fun k4=>?_) (fun k4=>?_)
    ·refine KW.callW (W:=fun i=>i=id) (fun i hi=>by subst hi;exact E5.sid) U U U U U (srcPick (S:=S5) (H0:=H5) hb hl (n:=(i:Int)) (by omega) (by omega) E5.sid (fun i hi=>hi) src5 (E5.kb hsH)) (fun v H6 S6 hn6 st6 hw6 hp=>?_)
     obtain⟨z6,a6,hz6,l6,u6,rfl,src6⟩:=hp
     have hz6:=hz6 (by omega)
     have E6:=E5.w st6
     have b6:=mvb b5 st6
     refine KW.callW (W:=fun i=>i=id) (fun i hi=>by subst hi;exact E6.sid) U U U U U (srcPick (S:=S6) (H0:=H6) hb hl (n:=(i:Int)) (by omega) (by omega) E6.sid (fun i hi=>hi) src6 (E6.kb hsH)) (fun v H7 S7 hn7 st7 hw7 hp=>?_)
     obtain⟨z7,a7,hz7,l7,u7,rfl,src7⟩:=hp
     have hz7:=hz7 (by omega)
     have E7:=E6.w st7
     have b7:=mvb b6 st7
     obtain⟨x6,hx6,_⟩:=at_of (L:=G) (k:=z6) (by omega)
     obtain⟨x7,hx7,_⟩:=at_of (L:=G) (k:=z7) (by omega)
     obtain⟨v6,W,hv6,hm6,hWV,hrest,hclose⟩:=b7.row1 hx6
     have ok6:=okG.at hx6
     have ok7:=okG.at hx7
     rcases hm6 with⟨hx0,a0,c0,rfl,_⟩ | ⟨o8,c8,bb,Ws,rfl,h2,h3,h4,h5,h6,h7,h8,h9⟩
     ·have hk0:k=0:=by rw[← ok6.1,hx0];rfl
      subst hk0
      refine KW.lp U U (fun _:Unit=>[(3,.int .i64 (0:Nat)),(8,.pointer (some ⟨H.n,0,some 0⟩)),(9,.pointer (some ⟨H.n+1,0,some 1⟩)),(15,.int .i64 0)]) (fun _=>True) (fun _=>0) (()) (trivial) ⟨rfl,rfl,rfl,rfl,trivial⟩ (fun _ hi bE n=>?_)
      refine KW.cF U U (by first | (simp;done) | decide) ?_
      refine KW.ids (fun hlow9 hvar9=>?_)
      have hnn9:=E7.nle hlow9
      refine KW.retW U U U U (fun H9 g=>by have:=g.n_;omega) (fun i hi hw=>(E7).old i ⟨hi,hw⟩) (fun H9 g=>⟨G,a7,lenG,okG,by omega,⟨some ⟨o,0,some 1⟩,i,by rw[lenG];rfl,?_⟩,(src7).mv (g.froz id (E7).sid).2⟩)
      have hm:=(b7).ml (X:=New H.n H9.n) rfl g (j:=2) rfl ⟨oge,by have h1:o<_:=(g.vars 2 _ rfl).2.1;have:=g.n_;omega⟩ (fun i hi=>⟨v1 i hi,by have:=(g.froz i ((b7).sub i hi)).1;have:=g.n_;omega⟩)
      rw[lenG] at hm ⊢
      exact hm
     ·have ho8V:=hWV o8 h3
      have ho8S:=b7.sub o8 ho8V
      have ho8g:=v1 o8 ho8V
      obtain⟨ty8,rw8,cells8⟩:=bb
      obtain rfl:rw8=true:=h5
      have h6:x6.length*1≤cells8.length:=h6
      have hget:∀(q:Nat) y,x6[q]?=some y→cells8[q]?=some (.int .i64 y):=fun q y hq=>by
       have h:=cell_of (m:=0+q*1) (h9 q y hq)
       rw[Nat.zero_add,Nat.mul_one] at h
       exact h
      refine KW.thaw o8 _ ho8S h4 ?_
      have E8:DwE H id (fun i=>S7 i∧i≠o8) H7:=⟨⟨E7.sid,fun e=>by omega⟩,fun i hi=>⟨⟨(E7.old i hi).1,fun e=>by have h1:i<H.n:=hi.1;omega⟩,(E7.old i hi).2⟩⟩
      have row7:z7≠z6→∃a c,cs[z7]?=some (.slice a x7.length c)∧KI.Sl (fun i=>S7 i∧i≠o8) H7 (.slice a x7.length c) x7:=fun hne=>by
       obtain⟨u,X,hu,hmu,hXV⟩:=hrest z7 x7 hne hx7
       obtain⟨a,c,rfl⟩:=sl_form hmu.sl
       exact⟨a,c,hu,hmu.sl.stX (fun i hi=>⟨⟨b7.sub i (hXV i hi).1,fun e=>(hXV i hi).2 (e ▸ h3)⟩,rfl⟩)⟩
      refine KW.lpM U U (fun s:Nat × List Int × List Value=>[(1,.int .i64 p),(3,.int .i64 k),(8,.pointer (some ⟨H.n,0,some 0⟩)),(9,.pointer (some ⟨H.n+1,0,some 1⟩)),(13,.int .i64 z6),(14,.int .i64 z7),(15,.int .i64 s.1)]) (fun s=>fun i=>S7 i∧i≠o8) (fun s=>H7) (fun s=>[(H.n,⟨26,true,[.int .i64 0,.int .i64 0,.slice none 0 0]⟩),(H.n+1,⟨26,true,[.int .i64 p,.int .i64 k,.slice (some ⟨o,0,some 1⟩) i i]⟩),(o,⟨36,true,cs⟩),(o8,⟨ty8,true,s.2.2⟩)]) (fun s=>s.1≤k∧s.2.1.length=k∧(∀y∈s.2.1,0≤y∧y<p)∧s.2.2.length=cells8.length∧∀(q:Nat) y,s.2.1[q]?=some y→s.2.2[q]?=some (.int .i64 y)) (fun s=>k-s.1) ((0,x6,cells8)) (⟨Nat.zero_le _,ok6.1,ok6.2,rfl,hget⟩) ⟨rfl,rfl,rfl,rfl,rfl,rfl,rfl,trivial⟩ U U (rfl) (fun s hi bE n=>?_)
      obtain⟨x,ys,cy⟩:=s
      obtain⟨m1,m2,m3,m4,m5⟩:=hi
      simp only at m1 m2 m3 m4 m5
      refine KW.cnd U U (fun k5=>?win) (fun k5=>?wout)
      case win=>
       have k5:(x:Int)<(k:Int):=k5
       refine KW.idx0 U U U U U U U U U (Int.natCast_nonneg _) (hz6) ?_
       refine KW.ldT 2 U U U U U U (bload_at (by show cs[0+((z6:Int)).toNat*1]?=_;rw[Int.toNat_natCast,Nat.zero_add,Nat.mul_one];exact hv6) U U) ?_
       refine KW.idx0 U U U U U U U U U (Int.natCast_nonneg _) (hz7) ?_
       by_cases hz:z7=z6
       ·subst hz
        refine KW.ldT 2 U U U U U U (bload_at (by show cs[0+((z7:Int)).toNat*1]?=_;rw[Int.toNat_natCast,Nat.zero_add,Nat.mul_one];exact hv6) U U) ?_
        refine KW.idx0 U U U U U U U U U (Int.natCast_nonneg _) (by rw[ok6.1];exact k5) ?_
        obtain⟨yv,hyv⟩:∃yv,ys[x]?=some yv:=⟨ys[x]'(by omega),List.getElem?_eq_getElem (by omega)⟩
        have hyb:=m3 yv (List.mem_of_getElem? hyv)
        refine KW.ldT 3 U U U U U U (bload_at (by show cy[0+((x:Int)).toNat*1]?=_;rw[Int.toNat_natCast,Nat.zero_add,Nat.mul_one];exact m5 x yv hyv) U U) ?_
        have ew:IntKind.i64.wrap (yv*2)=yv*2:=wr (by omega) (by omega)
        refine KW.rem U U U U U U (by rw[ew];omega) (by omega) ?_
        refine KW.idx0 U U U U U U U U U (Int.natCast_nonneg _) (by rw[ok6.1];exact k5) ?_
        refine KW.st1 3 U U U U U U U U U U U U (by show 0+((x:Int)).toNat*1<cy.length;rw[Int.toNat_natCast];omega) ?_
        have hb1:0≤IntKind.i64.wrap (yv*2)%p∧IntKind.i64.wrap (yv*2)%p<p:=⟨Int.emod_nonneg _ (by omega),Int.emod_lt_of_pos _ (by omega)⟩
        exact KW.nxt U U (fun H' g=>⟨(x+1,ys.set x (IntKind.i64.wrap (yv*2)%p),cy.set x (.int .i64 (IntKind.i64.wrap (yv*2)%p))),⟨by simp only;omega,by simp only[List.length_set];exact m2,fun y hy=>(List.mem_or_eq_of_mem_set hy).elim (m3 y) (fun e=>by rw[e];exact hb1),by simp only[List.length_set];exact m4,fun q y hq=>by
         simp only[List.getElem?_set] at hq ⊢
         split at hq
         ·rename_i e
          subst e
          rw[if_pos (by omega)] at hq
          cases hq
          rw[if_pos rfl,if_pos (by omega)]
         ·rename_i e
          rw[if_neg e]
          exact m5 q y hq⟩,by simp only;omega,⟨rfl,rfl,rfl,rfl,rfl,rfl,congrArg (Value.int .i64) (inc64 (by omega)),trivial⟩,g.eqT (by
         show [(H.n,(⟨26,true,[.int .i64 0,.int .i64 0,.slice none 0 0]⟩:Blk)),(H.n+1,⟨26,true,[.int .i64 p,.int .i64 k,.slice (some ⟨o,0,some 1⟩) i i]⟩),(o,⟨36,true,cs⟩),(o8,⟨ty8,true,cy.set (0+((x:Int)).toNat*1) _⟩)]=_
         rw[Int.toNat_natCast,Nat.zero_add,Nat.mul_one]
         rfl)⟩)
       ·obtain⟨ay,cy7,hcy,hsy⟩:=row7 hz
        refine KW.ldT 2 U U U U U U (bload_at (by show cs[0+((z7:Int)).toNat*1]?=_;rw[Int.toNat_natCast,Nat.zero_add,Nat.mul_one];exact hcy) U U) ?_
        refine KW.getI hsy U U U U U U U U U U U U U U U U (by omega) (by rw[ok7.1];exact k5) (fun yv hyv=>?_)
        have hyb:=ok7.2 yv (List.mem_of_getElem? hyv)
        have ew:IntKind.i64.wrap (yv*2)=yv*2:=wr (by omega) (by omega)
        refine KW.rem U U U U U U (by rw[ew];omega) (by omega) ?_
        refine KW.idx0 U U U U U U U U U (Int.natCast_nonneg _) (by rw[ok6.1];exact k5) ?_
        refine KW.st1 3 U U U U U U U U U U U U (by show 0+((x:Int)).toNat*1<cy.length;rw[Int.toNat_natCast];omega) ?_
        have hb1:0≤IntKind.i64.wrap (yv*2)%p∧IntKind.i64.wrap (yv*2)%p<p:=⟨Int.emod_nonneg _ (by omega),Int.emod_lt_of_pos _ (by omega)⟩
        exact KW.nxt U U (fun H' g=>⟨(x+1,ys.set x (IntKind.i64.wrap (yv*2)%p),cy.set x (.int .i64 (IntKind.i64.wrap (yv*2)%p))),⟨by simp only;omega,by simp only[List.length_set];exact m2,fun y hy=>(List.mem_or_eq_of_mem_set hy).elim (m3 y) (fun e=>by rw[e];exact hb1),by simp only[List.length_set];exact m4,fun q y hq=>by
         simp only[List.getElem?_set] at hq ⊢
         split at hq
         ·rename_i e
          subst e
          rw[if_pos (by omega)] at hq
          cases hq
          rw[if_pos rfl,if_pos (by omega)]
         ·rename_i e
          rw[if_neg e]
          exact m5 q y hq⟩,by simp only;omega,⟨rfl,rfl,rfl,rfl,rfl,rfl,congrArg (Value.int .i64) (inc64 (by omega)),trivial⟩,g.eqT (by
         show [(H.n,(⟨26,true,[.int .i64 0,.int .i64 0,.slice none 0 0]⟩:Blk)),(H.n+1,⟨26,true,[.int .i64 p,.int .i64 k,.slice (some ⟨o,0,some 1⟩) i i]⟩),(o,⟨36,true,cs⟩),(o8,⟨ty8,true,cy.set (0+((x:Int)).toNat*1) _⟩)]=_
         rw[Int.toNat_natCast,Nat.zero_add,Nat.mul_one]
         rfl)⟩)
      case wout=>
       have k5:¬(x:Int)<(k:Int):=k5
       refine KW.freeze 3 rfl (fun A9 S9 hn9 hS9 st9 hm9 ho9 hnS9 hlow9=>?_)
       have E9:=E8.s st9.st
       have src9:=src7.mv (st9.st id E8.sid).2
       have b9:RowsB KI.ml S9 A9 V (G.set z6 ys) cs:=hclose S9 A9 ys (fun j hj=>by
        by_cases e:j=o8
        ·exact⟨(hS9 j).2 (.inr e),fun hw=>(hw (e ▸ h3)).elim⟩
        ·exact⟨(st9.st j ⟨hj,e⟩).1,fun _=>(st9.st j ⟨hj,e⟩).2⟩) (by
        rw[ok6.1,← m2]
        exact mlI_of h3 hm9 rfl (by rw[m2,← ok6.1];exact h2) (by simp only;omega) m5)
       have ok9:Rect p k (G.set z6 ys):=okG.set ⟨m2,m3⟩
       have len9:(G.set z6 ys).length=i:=by rw[List.length_set];exact lenG
       refine KW.ids (fun hlow8 hvar8=>?_)
       have hnn8:=E9.nle hlow8
       refine KW.retW U U U U (fun H9 g=>by have:=g.n_;omega) (fun i hi hw=>(E9).old i ⟨hi,hw⟩) (fun H9 g=>⟨(G.set z6 ys),a7,len9,ok9,by omega,⟨some ⟨o,0,some 1⟩,i,by rw[len9];rfl,?_⟩,(src9).mv (g.froz id (E9).sid).2⟩)
       have hm:=(b9).ml (X:=New H.n H9.n) rfl g (j:=2) rfl ⟨oge,by have h1:o<_:=(g.vars 2 _ rfl).2.1;have:=g.n_;omega⟩ (fun i hi=>⟨v1 i hi,by have:=(g.froz i ((b9).sub i hi)).1;have:=g.n_;omega⟩)
       rw[len9] at hm ⊢
       exact hm
    ·refine KW.retW U U U U (fun H9 g=>by have:=g.n_;omega) (fun i hi hw=>(E5).old i ⟨hi,hw⟩) (fun H9 g=>⟨G,a5,lenG,okG,by omega,⟨some ⟨o,0,some 1⟩,i,by rw[lenG];rfl,?_⟩,(src5).mv (g.froz id (E5).sid).2⟩)
     have hm:=(b5).ml (X:=New H.n H9.n) rfl g (j:=2) rfl ⟨oge,by have h1:o<_:=(g.vars 2 _ rfl).2.1;have:=g.n_;omega⟩ (fun i hi=>⟨v1 i hi,by have:=(g.froz i ((b5).sub i hi)).1;have:=g.n_;omega⟩)
     rw[lenG] at hm ⊢
     exact hm
   ·refine KW.cF U U (by first | (simp;done) | decide) ?_
    refine KW.retW U U U U (fun H9 g=>by have:=g.n_;omega) (fun i hi hw=>E1.old i ⟨hi,hw⟩) (fun H9 g=>⟨G,a1,lenG,okG,by omega,⟨some ⟨o,0,some 1⟩,i,by rw[lenG];rfl,?_⟩,src1.mv (g.froz id E1.sid).2⟩)
    have hm:=b1.ml (X:=New H.n H9.n) rfl g (j:=2) rfl ⟨oge,by have h1:o<_:=(g.vars 2 _ rfl).2.1;have:=g.n_;omega⟩ (fun i hi=>⟨v1 i hi,by have:=(g.froz i (b1.sub i hi)).1;have:=g.n_;omega⟩)
    rw[lenG] at hm ⊢
    exact hm
end
theorem GwE.nle {H:AH} {W S:Ids} {A:AH} {n:Nat} (e:GwE H W S A) (h:∀i,S i→i<n):H.n≤n:=by
  rcases Nat.lt_or_ge n H.n with h1 | h1
  · by_cases hw:W n
    · have:=h n (e.wid n hw);omega
    · have:=h n (e.old n h1 hw).1;omega
  · exact h1
section
variable {S:Ids} {H0:AH} {bs:List Int} {ac:Option Addr} {cc id B:Nat} {Y:Ids}
theorem amongB {ls:List Int} {a c} (h:SrcB bs ac cc id Y S H0 B) (hB:B≤790000) (hn:ls.length≤1000) (hn1:1≤ls.length) (hls:KI.Sl (fun i=>S i∧i≠id) H0 (.slice a ls.length c) ls):SpecW Try.prog S H0 (fun i=>i=id) 151 [.pointer (some ⟨id,0,none⟩),.slice a ls.length c] (fun _ v H1=>∃y:Int,y∈ls∧v=.int .i64 y∧∃at_,at_≤B+2∧Src ac bs.length cc H1 id at_):=fun H hf hz=>by
  obtain⟨q,h1,h2⟩:=h.src
  obtain⟨m,v,H1,k1,k2,k3,k4,y,at',k5,k6,k7,k8,k9⟩:=srcAmong h.hb h.hl hn hn1 (show q≤800000 by omega) h.sid (fun i hi=>hi) h2 (h.kb.more (fun i hi=>h.y i hi)) hls H hf hz
  exact⟨m,v,H1,k1,k2,k3,k4,y,k5,k8,at',by omega,k9⟩
theorem filledB {p:Int} (hp:2≤p∧p≤31) {rs k:Nat} (hrs:rs≤6) (hk:k≤6) (h:SrcB bs ac cc id Y S H0 B) (hB:B≤690000):SpecW Try.prog S H0 (fun i=>i=id) 61 [.pointer (some ⟨id,0,none⟩),.int .i64 p,.int .i64 rs,.int .i64 k] (fun n v H1=>∃L:List (List Int),L.length=rs∧Rect p k L∧MkMo p k L n v H1∧∃at_,at_≤B+200∧Src ac bs.length cc H1 id at_):=fun H hf hz=>by
  obtain⟨q,h1,h2⟩:=h.src
  obtain⟨m,v,H1,k1,k2,k3,k4,L,at',k5,k6,k7,k8,k9⟩:=l03Filled h.hb h.hl hp hrs hk (show q≤700000 by omega) h.sid (fun i hi=>hi) h2 (h.kb.more (fun i hi=>h.y i hi)) H hf hz
  exact⟨m,v,H1,k1,k2,k3,k4,L,k5,k6,k8,at',by omega,k9⟩
theorem litSl {A:AH} {S S':Ids} {o:Nat} {ls:List Int} {ty:TypeId} (hm:A.m o=some ⟨ty,true,ls.map (Value.int .i64)⟩) (hS:∀i,S' i↔S i∨i=o) (hno:¬S o) (hid:S id):KI.Sl (fun i=>S' i∧i≠id) A (.slice (some ⟨o,0,some 1⟩) ls.length ls.length) ls:=
  (row_ml hm).sl.stX (fun i hi=>by
    have hi:i=o:=hi
    exact⟨⟨(hS i).2 (.inr hi),fun e=>hno (by rw[← hi,e];exact hid)⟩,rfl⟩)
theorem l04Gated (hsrc:SrcB bs ac cc id Y S H0 B) (hB:B≤600000):
    SpecW Try.prog S H0 (fun i=>i=id) 148 [.pointer (some ⟨id,0,none⟩)] (fun m v H1=>∃(p N:Int) (g:Gt) (cs:List Value),v=.tuple #[.int .i64 p,.int .i64 N,.agg cs.toArray]∧p∈[5,5,7,3,2,11]∧(1≤N∧N≤4)∧RG 4 (New m H1.n) H1 g cs∧GF N 4 g∧∃at_,at_≤B+2010∧Src ac bs.length cc H1 id at_):=by
  refine SpecW.of0 Try.func148 rfl (by kernel_rfl) rfl (fun H hfin hfz=>?_)
  have SB0:SrcB bs ac cc id Y (Low H.n) H B:=hsrc.s (fun i hi=>hfz i hi) (Nat.le_refl _)
  have E0:GwE H (fun i=>i=id) (Low H.n) H:=⟨fun i hi=>by rw[hi];exact SB0.sid,fun i h _=>⟨h,rfl⟩⟩
  refine KW.lit U U U U U U U U U U (([5,5,7,3,2,11]:List Int).map (Value.int .i64)) U U (fun v hv=>by obtain⟨x,_,rfl⟩:=List.mem_map.1 hv;rfl) rfl ?_
  refine KW.freeze 1 rfl (fun A1 S1 hn1 hS1 st1 hm1 ho1 hno1 hlow1=>?_)
  have SB1:=SB0.s (B':=B) st1.st (Nat.le_refl _)
  have E1:=E0.s st1.st
  refine KW.callW (W:=fun i=>i=id) (fun i hi=>by subst hi;exact SB1.sid) U U U U U (amongB SB1 (by omega) (ls:=[5,5,7,3,2,11]) (by decide) (by decide) (litSl hm1 hS1 hno1 SB0.sid)) (fun v H2 S2 n2 st2 w2 hv2=>?_)
  obtain⟨p,hp,rfl,src2⟩:=hv2
  have SB2:=SB1.w1 st2 src2
  have E2:=E1.w st2 (fun i hi=>.inl hi)
  refine KW.callW (W:=fun i=>i=id) (fun i hi=>by subst hi;exact SB2.sid) U U U U U (pickB (n:=4) SB2 (by omega) (by omega)) (fun v H3 S3 n3 st3 w3 hv3=>?_)
  obtain⟨z3,hz3,rfl,src3⟩:=hv3
  have hz3:=hz3 (by omega)
  have SB3:=SB2.w1 st3 src3
  have E3:=E2.w st3 (fun i hi=>.inl hi)
  have e3:IntKind.i64.wrap (1+(z3:Int))=1+z3:=wr (by omega) (by omega)
  refine KW.callW (W:=fun i=>i=id) (fun i hi=>by subst hi;exact SB3.sid) U U U U U (l02Drawn (N:=IntKind.i64.wrap (1+(z3:Int))) ⟨by omega,by omega⟩ SB3 (by omega)) (fun v H4 S4 n4 st4 w4 hv4=>?_)
  obtain⟨g,cs,rfl,hR,hg,q4,u4,src4⟩:=hv4
  obtain⟨ag,cg,rfl,_⟩:=hR.form
  have E4:=E3.w st4 (fun i hi=>.inl hi)
  refine KW.retW U U U U (fun H9 g=>by have:=(g.vars 0 _ rfl).2.1;have:=g.n_;omega) (fun i h1 h2=>E4.old i h1 h2) (fun H9 gg=>?_)
  refine⟨p,_,g,_,rfl,hp,⟨by omega,by omega⟩,RG.more 4 (fun i hi=>⟨by have:=hi.1;omega,by have:=(gg.froz i (w4 i hi)).1;have:=gg.n_;omega⟩) (RG.same 4 (fun i hi=>(gg.froz i (w4 i hi)).2) hR),hg,q4,by omega,src4.mv (gg.froz id (st4 id SB3.sid).1).2⟩
theorem built_SchemeR (h p c:Int) (a:Option Addr) (n m:Nat):Try.prog.built 38 [(0,.int .i64 h),(2,.agg #[.int .i64 p,.int .i64 c,.slice a n m])]=some #[.int .i64 h,.slice none 0 0,.int .i64 p,.int .i64 c,.slice a n m]:=by kernel_rfl
structure OwS where
  i:Nat
  S:Ids
  A:AH
  xs:List Int
  l:Value
  tail:List Var
structure OwI (bs:List Int) (ac:Option Addr) (cc id:Nat) (Y:Ids) (N:Int) (B z:Nat) (V:Ids) (A4 H:AH) (s:OwS):Prop where
  le:s.i≤z
  src:SrcB bs ac cc id Y s.S s.A (B+2*s.i)
  E:GwE H (fun i=>i=id) s.S s.A
  v:∀j,V j→s.S j∧s.A.m j=A4.m j
  xl:s.xs.length=s.i
  xb:∀x∈s.xs,0≤x∧x≤N-1
  form:(s.i=0∧s.l=.slice none 0 0∧s.tail=[])∨(0<s.i∧∃o,s.l=.slice (some ⟨o,0,some 1⟩) s.i s.i∧s.tail=[(o,⟨2,true,s.xs.map (Value.int .i64)⟩)])
theorem l04Drawn (hsrc:SrcB bs ac cc id Y S H0 B) (hB:B≤500000):
    SpecW Try.prog S H0 (fun i=>i=id) 74 [.pointer (some ⟨id,0,none⟩)] (fun m v H1=>(∃cs:List Value,v=.agg cs.toArray∧ScP m H1 cs)∧∃at_,at_≤B+3000∧Src ac bs.length cc H1 id at_):=by
  refine SpecW.of0R [15] Try.func74 rfl (by kernel_rfl) (by kernel_rfl) rfl (fun H hfin hfz=>?_)
  have SB0:SrcB bs ac cc id Y (Low H.n) H B:=hsrc.s (fun i hi=>hfz i hi) (Nat.le_refl _)
  have E0:GwE H (fun i=>i=id) (Low H.n) H:=⟨fun i hi=>by rw[hi];exact SB0.sid,fun i h _=>⟨h,rfl⟩⟩
  refine KW.callW (W:=fun i=>i=id) (fun i hi=>by subst hi;exact SB0.sid) U U U U U (oneB (n:=3) SB0 (by omega) (by omega)) (fun v H1 S1 n1 st1 w1 hv1=>?_)
  obtain⟨b1,rfl,src1⟩:=hv1
  have SB1:=SB0.w1 st1 src1
  have E1:=E0.w st1 (fun i hi=>.inl hi)
  refine KW.cndB U U (fun k1=>?gt) (fun k1=>?ot)
  case' gt=>
    refine KW.callW (W:=fun i=>i=id) (fun i hi=>by subst hi;exact SB1.sid) U U U U U (l04Gated SB1 (by omega)) (fun v H2 S2 n2 st2 w2 hv2=>?_)
    obtain⟨p,N,g,cs,rfl,hp,hN,hR,hg,src2⟩:=hv2
    obtain⟨ag,cg,rfl,_⟩:=hR.form
    have SB2:=SB1.w1 st2 (B':=B+2012) (by obtain⟨q,h1,h2⟩:=src2;exact⟨q,by omega,h2⟩)
    have E2:=E1.w st2 (fun i hi=>.inl hi)
    have hR2:=RG.more 4 (fun i hi=>w2 i hi) hR
    have hp31:2≤p∧p≤31:=by simp at hp;omega
    refine KW.callNV1 U U U U U (fun H1 g _=>l04Gate (S:=Low H1.n) (H0:=H1) (by omega) hp31 hg (On.R (d:=KG 4) hR2) (g.has (j:=1) U U)) (fun v HG SG mG _ _ hv=>?_)
    obtain⟨h9,p9,c9,a1,a2,m1,d1,m2,d2,code,rfl,hok⟩:=hv
    have tG:=(inferInstance:Stp S2 H2 SG HG).st
    have E3:=E2.s tG
    have SB3:=SB2.s (B':=B+2012) tG (Nat.le_refl _)
    refine KW.cnd U U (fun k2=>?gy) (fun k2=>?gn)
    case gy=>
      have k2:code=0:=k2
      obtain⟨ow,rows,rfl,rfl,hk,rfl,rfl,ho,hs⟩:=hok k2
      refine KW.retW U U U U (fun H9 g=>by have:=(g.vars 0 _ rfl).2.1;have:=g.n_;omega) (fun i h1 h2=>E3.old i h1 h2) (fun H9 gg=>?_)
      have hw:∀i,New (H2.n+1) HG.n i→SG i:=fun i hi=>((inferInstance:On (New (H2.n+1) HG.n) HG SG HG).st i hi).1
      have mv:∀i,New (H2.n+1) HG.n i→New H.n H9.n i∧H9.m i=HG.m i:=fun i hi=>⟨⟨by have:=hi.1;omega,by have:=(gg.froz i (hw i hi)).1;have:=gg.n_;omega⟩,(gg.froz i (hw i hi)).2⟩
      obtain⟨q3,u3,src3⟩:=SB3.src
      exact⟨⟨_,rfl,h9,p9,c9,ow,rows,a1,a2,d1,d2,rfl,hk,ho.stX mv,hs.stX mv⟩,q3,by omega,src3.mv (gg.froz id SB3.sid).2⟩
    case' gn=>
      refine KW.take 1 ?_
      have SX:=SB3
      have EX:=E3
  case' ot=>
    have SX:=SB1.s (B':=B+2012) (fun i hi=>⟨hi,rfl⟩) (by omega)
    have EX:=E1
  all_goals
    refine KW.callW (W:=fun i=>i=id) (fun i hi=>by subst hi;exact SX.sid) U U U U U (oneB (n:=4) SX (by omega) (by omega)) (fun v H4 S4 n4 st4 w4 hv4=>?_)
    obtain⟨b4,rfl,src4⟩:=hv4
    have SB4:=SX.w1 st4 src4
    have E4:=EX.w st4 (fun i hi=>.inl hi)
    refine KW.cndB U U (fun k4=>?cv) (fun k4=>?fl)
    case cv=>
      refine KW.callW (W:=fun i=>i=id) (fun i hi=>by subst hi;exact SB4.sid) U U U U U (pickB (n:=4) SB4 (by omega) (by omega)) (fun v H5 S5 n5 st5 w5 hv5=>?_)
      obtain⟨z5,hz5,rfl,src5⟩:=hv5
      have hz5:=hz5 (by omega)
      have SB5:=SB4.w1 st5 src5
      have E5:=E4.w st5 (fun i hi=>.inl hi)
      have e5:IntKind.i64.wrap (1+(z5:Int))=((1+z5:Nat):Int):=by rw[wr (by omega) (by omega)];omega
      refine KW.lit U U U U U U U U U U (([5,7,11]:List Int).map (Value.int .i64)) U U (fun v hv=>by obtain⟨x,_,rfl⟩:=List.mem_map.1 hv;rfl) rfl ?_
      refine KW.freeze 1 rfl (fun A6 S6 hn6 hS6 st6 hm6 ho6 hno6 hlow6=>?_)
      have SB6:=SB5.s (B':=B+2012+2+2) st6.st (Nat.le_refl _)
      have E6:=E5.s st6.st
      refine KW.callW (W:=fun i=>i=id) (fun i hi=>by subst hi;exact SB6.sid) U U U U U (amongB SB6 (by omega) (ls:=[5,7,11]) (by decide) (by decide) (litSl hm6 hS6 hno6 SB5.sid)) (fun v H7 S7 n7 st7 w7 hv7=>?_)
      obtain⟨p,hp,rfl,src7⟩:=hv7
      have SB7:=SB6.w1 st7 src7
      have E7:=E6.w st7 (fun i hi=>.inl hi)
      refine KW.callW (W:=fun i=>i=id) (fun i hi=>by subst hi;exact SB7.sid) U U U U U (pickB (n:=IntKind.i64.wrap (1+(z5:Int))) SB7 (by omega) (by omega)) (fun v H8 S8 n8 st8 w8 hv8=>?_)
      obtain⟨z8,hz8,rfl,src8⟩:=hv8
      have hz8:=hz8 (by omega)
      have SB8:=SB7.w1 st8 src8
      have E8:=E7.w st8 (fun i hi=>.inl hi)
      have e8:IntKind.i64.wrap (1+(z8:Int))=((1+z8:Nat):Int):=by rw[wr (by omega) (by omega)];omega
      have key:=curve (S:=S8) (H0:=H8) (p:=p) (by simp at hp;omega) (q:=1+z5) (least:=1+z8) (by omega) (by omega)
      rw[← e5,← e8] at key
      refine KW.ids (fun hlow8 hvar8=>?_)
      have hnn8:=E8.nle hlow8
      refine KW.callN1 U U U U U key (fun v H9 S9 n9 t9 w9 hv9=>?_)
      obtain⟨cs,rfl,h9,p9,c9,ow,rows,a1,a2,d1,d2,rfl,hk,ho,hs⟩:=hv9
      have SB9:=SB8.s (B':=B+2500) t9.st (by omega)
      have E9:=E8.s t9.st
      refine KW.retW U U U U (fun H9 g=>by have:=(g.vars 0 _ rfl).2.1;have:=g.n_;omega) (fun i h1 h2=>E9.old i h1 h2) (fun HE gg=>?_)
      have mv:∀i,New _ H9.n i→New H.n HE.n i∧HE.m i=H9.m i:=fun i hi=>⟨⟨by have:=hi.1;omega,by have:=(gg.froz i (w9.st i hi).1).1;have:=gg.n_;omega⟩,(gg.froz i (w9.st i hi).1).2⟩
      obtain⟨q9,u9,src9⟩:=SB9.src
      exact⟨⟨_,rfl,h9,p9,c9,ow,rows,a1,a2,d1,d2,rfl,hk,ho.stX mv,hs.stX mv⟩,q9,by omega,src9.mv (gg.froz id SB9.sid).2⟩
    case fl=>
      refine KW.callW (W:=fun i=>i=id) (fun i hi=>by subst hi;exact SB4.sid) U U U U U (pickB (n:=4) SB4 (by omega) (by omega)) (fun v H5 S5 n5 st5 w5 hv5=>?_)
      obtain⟨z5,hz5,rfl,src5⟩:=hv5
      have hz5:=hz5 (by omega)
      have SB5:=SB4.w1 st5 src5
      have E5:=E4.w st5 (fun i hi=>.inl hi)
      have e5:IntKind.i64.wrap (1+(z5:Int))=1+(z5:Int):=wr (by omega) (by omega)
      refine KW.lit U U U U U U U U U U (([2,3,5]:List Int).map (Value.int .i64)) U U (fun v hv=>by obtain⟨x,_,rfl⟩:=List.mem_map.1 hv;rfl) rfl ?_
      refine KW.freeze 1 rfl (fun A6 S6 hn6 hS6 st6 hm6 ho6 hno6 hlow6=>?_)
      have SB6:=SB5.s (B':=B+2012+2+2) st6.st (Nat.le_refl _)
      have E6:=E5.s st6.st
      refine KW.callW (W:=fun i=>i=id) (fun i hi=>by subst hi;exact SB6.sid) U U U U U (amongB SB6 (by omega) (ls:=[2,3,5]) (by decide) (by decide) (litSl hm6 hS6 hno6 SB5.sid)) (fun v H7 S7 n7 st7 w7 hv7=>?_)
      obtain⟨p,hp,rfl,src7⟩:=hv7
      have hp5:p=2∨p=3∨p=5∨p=7∨p=11:=by simp at hp;omega
      have SB7:=SB6.w1 st7 src7
      have E7:=E6.w st7 (fun i hi=>.inl hi)
      refine KW.callW (W:=fun i=>i=id) (fun i hi=>by subst hi;exact SB7.sid) U U U U U (pickB (n:=6) SB7 (by omega) (by omega)) (fun v H8 S8 n8 st8 w8 hv8=>?_)
      obtain⟨z8,hz8,rfl,src8⟩:=hv8
      have hz8:=hz8 (by omega)
      have SB8:=SB7.w1 st8 src8
      have E8:=E7.w st8 (fun i hi=>.inl hi)
      refine KW.callW (W:=fun i=>i=id) (fun i hi=>by subst hi;exact SB8.sid) U U U U U (pickB (n:=4) SB8 (by omega) (by omega)) (fun v H9 S9 n9 st9 w9 hv9=>?_)
      obtain⟨z9,hz9,rfl,src9⟩:=hv9
      have hz9:=hz9 (by omega)
      have SB9:=SB8.w1 st9 src9
      have E9:=E8.w st9 (fun i hi=>.inl hi)
      have e9:IntKind.i64.wrap (1+(z9:Int))=((1+z9:Nat):Int):=by rw[wr (by omega) (by omega)];omega
      refine KW.ids (fun hlow9 hvar9=>?_)
      have hnn9:=E9.nle hlow9
      have key:=filledB (S:=S9) (H0:=H9) (p:=p) (by omega) (rs:=z8) (k:=1+z9) (by omega) (by omega) SB9 (by omega)
      rw[← e9] at key
      refine KW.callW (W:=fun i=>i=id) (fun i hi=>by subst hi;exact SB9.sid) U U U U U key (fun v HF SF nF stF wF hvF=>?_)
      obtain⟨L,hL1,hL2,⟨b4,d4,rfl,hml⟩,srcF⟩:=hvF
      have SBF:=SB9.w1 stF srcF
      have EF:=E9.w stF (fun i hi=>.inl hi)
      have hsF:KI.sl.Sl (New H9.n HF.n) HF (.slice b4 L.length d4) L:=hml.to (KLe.row (KLe.refl KI))
      refine KW.build U U U U U (built_SchemeR _ _ _ _ _ _) ?_
      refine KW.lpM U U (fun s:OwS=>[(0,.pointer (some ⟨id,0,none⟩)),(2,.pointer (some ⟨H.n,0,some 0⟩)),(11,.int .i64 (IntKind.i64.wrap (1+(z5:Int)))),(12,.pointer (some ⟨HF.n,0,some 1⟩)),(13,.int .i64 s.i)]) (fun s=>s.S) (fun s=>s.A) (fun s=>[(H.n,⟨38,true,[.int .i64 0,.slice none 0 0,.int .i64 0,.int .i64 0,.slice none 0 0]⟩),(HF.n,⟨38,true,[.int .i64 (IntKind.i64.wrap (1+(z5:Int))),s.l,.int .i64 p,.int .i64 (IntKind.i64.wrap (1+(z9:Int))),.slice b4 L.length d4]⟩)]++s.tail) (fun s=>OwI bs ac cc id Y (1+z5) (B+2012+2+2+2+2+2+200) L.length (New H9.n HF.n) HF H s) (fun s=>L.length-s.i) (⟨0,SF,HF,[],.slice none 0 0,[]⟩) (⟨Nat.zero_le _,SBF.s (fun i hi=>⟨hi,rfl⟩) (by simp only;omega),EF,fun j hj=>⟨wF j hj,rfl⟩,rfl,fun x hx=>(by cases hx),.inl ⟨rfl,rfl,rfl⟩⟩) ⟨rfl,rfl,rfl,rfl,rfl,trivial⟩ U U (rfl) (fun s hi bE n=>?_)
      obtain⟨i,S10,A10,xs,l,tail⟩:=s
      obtain⟨ile,SB10,E10,v10,xl,xb,hform⟩:=hi
      simp only at ile SB10 E10 v10 xl xb hform
      rcases hform with⟨hi0,el,et⟩ | ⟨hi0,o,el,et⟩
      case' inl=>subst el et
      case' inr=>subst el et
      all_goals
        refine KW.cnd U U (fun k5=>?gin) (fun k5=>?gout)
        case gin=>
          have k5:(i:Int)<(L.length:Int):=k5
          refine KW.callWL (W:=fun i=>i=id) (fun i hi=>by subst hi;exact SB10.sid) U U U U U ⟨.inl ⟨1,_,_,_,_,rfl,rfl⟩,trivial⟩ (pickB (n:=IntKind.i64.wrap (1+(z5:Int))) SB10 (by omega) (by omega)) (fun v H11 S11 n11 st11 w11 hv11=>?_)
          obtain⟨z11,hz11,rfl,src11⟩:=hv11
          have hz11:=hz11 (by omega)
          have SB11:=SB10.w1 st11 src11
          have E11:=E10.w st11 (fun i hi=>.inl hi)
          have hne:∀j,New H9.n HF.n j→j≠id:=fun j hj e=>by have:=hj.1;have:=SB0.sid;have h0:id<H.n:=SB0.sid;omega
          have v11:∀j,New H9.n HF.n j→S11 j∧H11.m j=HF.m j:=fun j hj=>⟨(st11 j (v10 j hj).1).1,((st11 j (v10 j hj).1).2 (hne j hj)).trans (v10 j hj).2⟩
          have xb11:∀x∈xs++[(z11:Int)],0≤x∧x≤1+(z5:Int)-1:=fun x hx=>(List.mem_append.1 hx).elim (xb x) (fun hx=>by rw[List.mem_singleton.1 hx];omega)
          have SB12:=SB11.s (B':=B+2012+2+2+2+2+2+200+2*(i+1)) (fun i hi=>⟨hi,rfl⟩) (by omega)
          first
            | (refine KW.app1 (xs:=xs.map (Value.int .i64)) (v:=.int .i64 z11) 2 3 U U U U U U U U U U U U U U U U U U U U U U U (by rw[List.length_map];exact xl) (by show(i+1)*8≤_;omega) (by show i+1≤_;omega) ?_
               exact KW.nxt U U (fun H' g=>⟨⟨i+1,S11,H11,xs++[(z11:Int)],.slice (some ⟨H11.n+1,0,some 1⟩) (i+1) (i+1),[(H11.n+1,⟨2,true,(xs++[(z11:Int)]).map (Value.int .i64)⟩)]⟩,⟨by simp only;omega,SB12,E11,v11,by simp only[List.length_append,List.length_singleton];omega,xb11,.inr ⟨by simp only;omega,_,rfl,rfl⟩⟩,by simp only;omega,⟨rfl,rfl,rfl,rfl,congrArg (Value.int .i64) (inc64 (by omega)),trivial⟩,g.eqT (by simp only[List.map_append];rfl)⟩))
            | (refine KW.app0 (v:=.int .i64 z11) 2 U U U U U U U U U U U U U U U U U U U U U U (by decide) ?_
               subst hi0
               obtain rfl:xs=[]:=List.eq_nil_of_length_eq_zero xl
               exact KW.nxt U U (fun H' g=>⟨⟨1,S11,H11,[(z11:Int)],_,_⟩,⟨by simp only;omega,SB12,E11,v11,rfl,xb11,.inr ⟨by simp only;omega,_,rfl,rfl⟩⟩,by simp only;omega,⟨rfl,rfl,rfl,rfl,rfl,trivial⟩,g⟩))
        case gout=>
          have k5:¬(i:Int)<(L.length:Int):=k5
          have ei:i=L.length:=by omega
          have hpr:=prime_small hp5
          have hk:OkSch (IntKind.i64.wrap (1+(z5:Int))) xs p (IntKind.i64.wrap (1+(z9:Int))) L:=⟨by omega,by omega,⟨hpr,by omega,by omega,by omega,fun r hr=>⟨by have:=(hL2 r hr).1;omega,fun y hy=>by have:=(hL2 r hr).2 y hy;omega⟩⟩,by omega,by omega,fun y hy=>by have:=xb y hy;omega⟩
          refine KW.retW U U U U (fun H9 g=>by have:=(g.vars 0 _ rfl).2.1;have:=g.n_;omega) (fun i h1 h2=>E10.old i h1 h2) (fun HE gg=>?_)
          have hnE:=gg.n_
          have mv:∀j,New H9.n HF.n j→New H.n HE.n j∧HE.m j=HF.m j:=fun j hj=>⟨⟨by have:=hj.1;omega,by have:=(gg.froz j (v10 j hj).1).1;omega⟩,(gg.froz j (v10 j hj).1).2.trans (v10 j hj).2⟩
          obtain⟨q9,u9,src9⟩:=SB10.src
          first
            | (have hb:=gg.blk (j:=2) rfl
               have hgv:=(gg.vars 2 _ rfl).2.2
               have oge:H.n≤o:=by
                 rcases Nat.lt_or_ge o H.n with h | h
                 · by_cases e:o=id
                   · exact absurd (e ▸ SB10.sid) hgv
                   · exact absurd (E10.old o h e).1 hgv
                 · exact h
               have h1:KI.Sl (New H.n HE.n) HE (.slice (some ⟨o,0,some 1⟩) xs.length xs.length) xs:=(row_ml hb.1).sl.more (fun j h=>by rw[h];exact⟨oge,hb.2⟩)
               refine⟨⟨_,rfl,_,p,_,xs,L,some ⟨o,0,some 1⟩,b4,xs.length,d4,by rw[xl];rfl,hk,h1,hsF.stX mv⟩,q9,by omega,src9.mv (gg.froz id SB10.sid).2⟩)
            | (obtain rfl:xs=[]:=List.eq_nil_of_length_eq_zero (by omega)
               exact⟨⟨_,rfl,_,p,_,[],L,none,b4,0,d4,rfl,hk,.inl ⟨rfl,none,0,rfl,fun _=>rfl⟩,hsF.stX mv⟩,q9,by omega,src9.mv (gg.froz id SB10.sid).2⟩)
end
theorem GwE.ge {H:AH} {W S:Ids} {A:AH} {o:Nat} (e:GwE H W S A) (h:¬S o):H.n≤o:=by
 rcases Nat.lt_or_ge o H.n with h1 | h1
 ·by_cases hw:W o
  ·exact absurd (e.wid o hw) h
  ·exact absurd (e.old o h1 hw).1 h
 ·exact h1
theorem Cl.app1 {α:Type} {d:Kn α} {X:Ids} {A:AH} {xs:List α} {cs:List Value} {y:α} {v:Value} (h:Cl d X A xs cs) (he:d.es=1) (hl:cs.length=xs.length) (hy:d.R X A y [v]):Cl d X A (xs++[y]) (cs++[v]):=by
 have h2:=h.snoc hy
 rw[he,Nat.mul_one,List.drop_zero,← hl,List.take_length] at h2
 exact h2
structure DlS where
 m:Nat
 S:Ids
 A:AH
 V:Ids
 bl:List (List Int)
 ks:List (List (List Int))
 bcs:List Value
 kcs:List Value
 l1:Value
 l2:Value
structure DlI (bs:List Int) (ac:Option Addr) (cc id:Nat) (Y:Ids) (B:Nat) (p c:Int) (rn:Nat) (VS:Ids) (A1 H:AH) (s:DlS):Prop where
 le:s.bl.length+s.m≤3
 ge:1≤s.bl.length+s.m
 src:SrcB bs ac cc id Y s.S s.A (B+s.bl.length*200)
 E:GwE H (fun i=>i=id) s.S s.A
 vs:∀j,VS j→s.S j∧s.A.m j=A1.m j
 v:∀j,s.V j→s.S j∧H.n≤j
 clb:Cl KI.sl s.V s.A s.bl s.bcs
 bcl:s.bcs.length=s.bl.length
 clk:Cl KI.sl.sl s.V s.A s.ks s.kcs
 kcl:s.kcs.length=s.ks.length
 kl:s.ks.length=s.bl.length
 ok:∀(e:Nat) b kk,s.bl[e]?=some b→s.ks[e]?=some kk→((b.length:Int)=c-1∧Elems p b)∧KeysOk p rn kk
 form:(s.bl.length=0∧s.l1=.slice none 0 0∧s.l2=.slice none 0 0)∨(0<s.bl.length∧∃o1 o2,s.l1=.slice (some ⟨o1,0,some 1⟩) s.bl.length s.bl.length∧s.l2=.slice (some ⟨o2,0,some 1⟩) s.bl.length s.bl.length∧(s.S o1∧H.n≤o1∧¬s.V o1∧¬VS o1∧s.A.m o1=some ⟨36,true,s.bcs⟩)∧(s.S o2∧H.n≤o2∧¬s.V o2∧¬VS o2∧s.A.m o2=some ⟨24,true,s.kcs⟩)∧o1≠o2)
structure BldS where
 h:Nat
 S:Ids
 A:AH
 xs:List Int
 o:Nat
structure BldI (bs:List Int) (ac:Option Addr) (cc id:Nat) (Y:Ids) (B:Nat) (p c:Int) (S3:Ids) (A3 H:AH) (s:BldS):Prop where
 h1:s.xs.length+1=s.h
 h2:(s.h:Int)≤c
 src:SrcB bs ac cc id Y s.S s.A (B+2*s.xs.length)
 E:GwE H (fun i=>i=id) s.S s.A
 keep:StW (fun i=>i=id) S3 A3 s.S s.A
 xb:Elems p s.xs
structure KyS where
 i:Nat
 S:Ids
 A:AH
 V:Ids
 kk:List (List Int)
 kc:List Value
 o:Nat
structure KyI (bs:List Int) (ac:Option Addr) (cc id:Nat) (Y:Ids) (B:Nat) (p:Int) (rn:Nat) (S3:Ids) (A3 H:AH) (s:KyS):Prop where
 le:s.i≤rn
 kl:s.kk.length=s.i
 kc:s.kc.length=s.i
 src:SrcB bs ac cc id Y s.S s.A (B+6*s.i)
 E:GwE H (fun i=>i=id) s.S s.A
 keep:StW (fun i=>i=id) S3 A3 s.S s.A
 v:∀j,s.V j→s.S j∧H.n≤j∧¬S3 j
 cl:Cl KI.sl s.V s.A s.kk s.kc
 ok:∀y∈s.kk,y.length=2∧Elems p y
section
variable {S:Ids} {H0:AH} {bs:List Int} {ac:Option Addr} {cc id B:Nat} {Y:Ids}
end
end Go.Proofs.Ytlapbbffoapleaa.Am
namespace Go.Proofs.Ytlapbbffoapleaa.Am
open Go Go.RowKit Go.Proofs
theorem rises_len7 {m:Int} (h7:m≤7) {g:List Int} (h:Rises 0 (m-1) g):g.length≤7:=by
 have key:∀i,i<g.length→(i:Int)≤g.getD i 0:=fun i=>by
  induction i with
  | zero=>intro hi;exact(h 0 hi).1.1
  | succ i ih=>
   intro hi
   have h1:=ih (by omega)
   have h2:=(h (i+1) hi).2 (Nat.succ_pos i)
   rw[Nat.add_sub_cancel] at h2
   omega
 rcases Nat.lt_or_ge 7 g.length with hl | hl
 ·have h1:=key 7 hl
  have h2:=(h 7 hl).1.2
  omega
 ·exact hl
structure AgS where
 h:Nat
 S:Ids
 A:AH
 xs:List Int
 o:Nat
structure AgI (bs:List Int) (ac:Option Addr) (cc id:Nat) (Y:Ids) (H:AH) (q:Nat) (P:Nat→List Int→Prop) (s:AgS):Prop where
 le:s.h≤q
 src:SrcB bs ac cc id Y s.S s.A (2*s.h)
 old:∀i,i<H.n→s.S i∧s.A.m i=H.m i
 len:s.xs.length≤s.h
 ok:P s.h s.xs
 ge:H.n≤s.o
section
variable {S:Ids} {H0:AH} {bs:List Int} {ac:Option Addr} {cc:Nat}
theorem a2Group {q:Nat} (hq:q≤100) (hb:∀x∈bs,0≤x∧x<256) (hl:bs.length≤1048576) (hs:KB.Sl S H0 (.slice ac bs.length cc) bs):
  SpecM Try.prog S H0 19 [.slice ac bs.length cc,.int .i64 q] (fun n v H1=>∃xs:List Int,Rises 0 ((q:Int)-1) xs∧MkL xs n v H1):=by
 refine SpecM.of1 Try.func19 rfl (by kernel_rfl) rfl (fun H _=>?_)
 refine KW.callN1 U U U U U (srcFrom) (fun v HS SS mS _ _ hv=>?_)
 obtain⟨o,sp,rfl,hnew,hsrc⟩:=hv
 have wS:On (New _ HS.n) HS SS HS:=‹_›
 have tS:On (Low H.n) H SS HS:=inferInstance
 have hso:=(wS.st o hnew).1
 have hbs:=(hs.up (S':=Low H.n) (H':=H)).stX (S':=fun i=>SS i∧i≠o) (H':=HS) (fun i hi=>⟨⟨(tS.st i hi).1,fun e=>by have h1:i<H.n:=hi;have:=hnew.1;omega⟩,(tS.st i hi).2⟩)
 have SB:SrcB bs ac cc o (fun i=>SS i∧i≠o) SS HS 0:=⟨hb,hl,hso,fun i hi=>⟨hi.1,hi.2⟩,⟨0,Nat.le_refl _,hsrc⟩,hbs.stX (fun i hi=>⟨hi,rfl⟩)⟩
 refine KW.fact (p:=H.n≤HS.n) (fun H1 g=>by have h1:=g.n_;have h2:=hnew.1;have h3:=hnew.2;omega) (fun hn0=>?_)
 refine KW.lit U U U U U U U U U U [] U U (fun v hv=>by simp at hv) rfl ?_
 refine KW.lpM U U (fun s:AgS=>[(1,.int .i64 q),(5,.pointer (some ⟨o,0,none⟩)),(6,.slice (some ⟨s.o,0,some 1⟩) s.xs.length s.xs.length),(7,.int .i64 s.h)]) (fun s=>s.S) (fun s=>s.A) (fun s=>[(s.o,⟨2,true,s.xs.map (Value.int .i64)⟩)]) (fun s=>AgI bs ac cc o (fun i=>SS i∧i≠o) H q (fun h xs=>Rises 0 ((h:Int)-1) xs) s) (fun s=>q-s.h) (⟨0,SS,HS,[],_⟩) (⟨Nat.zero_le _,SB,fun i hi=>tS.st i hi,Nat.le_refl _,fun i hi=>absurd hi (Nat.not_lt_zero i),hn0⟩) ⟨rfl,rfl,rfl,rfl,trivial⟩ U U (rfl) (fun s hi bE n=>?_)
 obtain⟨h,S5,A5,xs,o5⟩:=s
 obtain⟨x1,SB5,old5,x2,xr,xo⟩:=hi
 simp only at x1 SB5 old5 x2 xr xo
 refine KW.cnd U U (fun k1=>?_) (fun k1=>?_)
 ·have k1:(h:Int)<(q:Int):=k1
  refine KW.callW (W:=fun i=>i=o) (fun i hi=>by subst hi;exact SB5.sid) U U U U U (oneB (n:=2) SB5 (by omega) (by omega)) (fun v H6 S6 n6 st6 w6 hv6=>?_)
  obtain⟨b,rfl,src6⟩:=hv6
  have SB6:=SB5.w1 (B':=2*h+2) st6 src6
  have old6:∀i,i<H.n→S6 i∧H6.m i=H.m i:=fun i hi=>⟨(st6 i (old5 i hi).1).1,((st6 i (old5 i hi).1).2 (by have:=hnew.1;omega)).trans (old5 i hi).2⟩
  refine KW.fact (p:=H.n≤H6.n) (fun H1 g=>by have h1:=g.n_;have h2:o5<_:=(g.vars 0 _ rfl).2.1;omega) (fun hn6=>?_)
  cases b with
  | true=>
   refine KW.cT U U (by first | (simp;done) | decide) ?_
   refine KW.app1 (xs:=xs.map (Value.int .i64)) (v:=.int .i64 h) 0 1 U U U U U U U U U U U U U U U U U U U U U U U (by simp) (by show(xs.length+1)*8≤_;omega) (by show xs.length+1≤_;omega) ?_
   exact KW.nxt U U (fun H' g=>⟨⟨h+1,S6,H6,xs++[(h:Int)],H6.n+1⟩,⟨by simp only;omega,SB6.s (fun i hi=>⟨hi,rfl⟩) (by simp only;omega),old6,by simp only[List.length_append,List.length_singleton];omega,by have:=rises_snoc xr;rw[show(((h+1:Nat):Int)-1)=(h:Int) from by omega];exact this,by simp only;omega⟩,by simp only;omega,⟨rfl,rfl,by simp only[List.length_append,List.length_singleton];rfl,congrArg (Value.int .i64) (inc64 (by omega)),trivial⟩,g.eqT (by simp only[List.map_append];rfl)⟩)
  | false=>
   refine KW.cF U U (by first | (simp;done) | decide) ?_
   exact KW.nxt U U (fun H' g=>⟨⟨h+1,S6,H6,xs,o5⟩,⟨by simp only;omega,SB6.s (fun i hi=>⟨hi,rfl⟩) (by simp only;omega),old6,by simp only;omega,rises_weak (by simp only;omega) xr,xo⟩,by simp only;omega,⟨rfl,rfl,rfl,congrArg (Value.int .i64) (inc64 (by omega)),trivial⟩,g⟩)
 ·have k1:¬(h:Int)<(q:Int):=k1
  obtain rfl:h=q:=by omega
  haveI:On (Low H.n) H S5 A5:=⟨fun i hi=>old5 i hi⟩
  refine KW.retM1 U U U U (fun H1 g=>⟨xs,xr,MkL.of g (j:=0) rfl xo⟩)
theorem a2GroupI {n:Int} (h0:0≤n) (hn:n≤100) (hb:∀x∈bs,0≤x∧x<256) (hl:bs.length≤1048576) (hs:KB.Sl S H0 (.slice ac bs.length cc) bs):
  SpecM Try.prog S H0 19 [.slice ac bs.length cc,.int .i64 n] (fun m v H1=>∃xs:List Int,Rises 0 (n-1) xs∧MkL xs m v H1):=by
 obtain⟨q,rfl⟩:∃q:Nat,n=q:=⟨n.toNat,by omega⟩
 exact a2Group (by omega) hb hl hs
theorem a2Elements {p:Int} {q:Nat} (hq:q≤100) (hp:2≤p∧p≤31) (hb:∀x∈bs,0≤x∧x<256) (hl:bs.length≤1048576) (hs:KB.Sl S H0 (.slice ac bs.length cc) bs):
  SpecM Try.prog S H0 22 [.slice ac bs.length cc,.int .i64 p,.int .i64 q] (fun n v H1=>∃xs:List Int,(xs.length=q∧Elems p xs)∧MkL xs n v H1):=by
 refine SpecM.of1 Try.func22 rfl (by kernel_rfl) rfl (fun H _=>?_)
 refine KW.callN1 U U U U U (srcFrom) (fun v HS SS mS _ _ hv=>?_)
 obtain⟨o,sp,rfl,hnew,hsrc⟩:=hv
 have wS:On (New _ HS.n) HS SS HS:=‹_›
 have tS:On (Low H.n) H SS HS:=inferInstance
 have hso:=(wS.st o hnew).1
 have hbs:=(hs.up (S':=Low H.n) (H':=H)).stX (S':=fun i=>SS i∧i≠o) (H':=HS) (fun i hi=>⟨⟨(tS.st i hi).1,fun e=>by have h1:i<H.n:=hi;have:=hnew.1;omega⟩,(tS.st i hi).2⟩)
 have SB:SrcB bs ac cc o (fun i=>SS i∧i≠o) SS HS 0:=⟨hb,hl,hso,fun i hi=>⟨hi.1,hi.2⟩,⟨0,Nat.le_refl _,hsrc⟩,hbs.stX (fun i hi=>⟨hi,rfl⟩)⟩
 refine KW.fact (p:=H.n≤HS.n) (fun H1 g=>by have h1:=g.n_;have h2:=hnew.1;have h3:=hnew.2;omega) (fun hn0=>?_)
 refine KW.lit U U U U U U U U U U [] U U (fun v hv=>by simp at hv) rfl ?_
 refine KW.lpM U U (fun s:AgS=>[(1,.int .i64 p),(2,.int .i64 q),(7,.pointer (some ⟨o,0,none⟩)),(8,.slice (some ⟨s.o,0,some 1⟩) s.xs.length s.xs.length),(9,.int .i64 s.h)]) (fun s=>s.S) (fun s=>s.A) (fun s=>[(s.o,⟨2,true,s.xs.map (Value.int .i64)⟩)]) (fun s=>AgI bs ac cc o (fun i=>SS i∧i≠o) H q (fun h xs=>xs.length=h∧Elems p xs) s) (fun s=>q-s.h) (⟨0,SS,HS,[],_⟩) (⟨Nat.zero_le _,SB,fun i hi=>tS.st i hi,Nat.le_refl _,⟨rfl,fun x hx=>(by cases hx)⟩,hn0⟩) ⟨rfl,rfl,rfl,rfl,rfl,trivial⟩ U U (rfl) (fun s hi bE n=>?_)
 obtain⟨h,S5,A5,xs,o5⟩:=s
 obtain⟨x1,SB5,old5,x2,xr,xo⟩:=hi
 simp only at x1 SB5 old5 x2 xr xo
 refine KW.cnd U U (fun k1=>?_) (fun k1=>?_)
 ·have k1:(h:Int)<(q:Int):=k1
  refine KW.callW (W:=fun i=>i=o) (fun i hi=>by subst hi;exact SB5.sid) U U U U U (pickB (n:=p) SB5 (by omega) (by omega)) (fun v H6 S6 n6 st6 w6 hv6=>?_)
  obtain⟨z,hz,rfl,src6⟩:=hv6
  have hz:=hz (by omega)
  have SB6:=SB5.w1 (B':=2*h+2) st6 src6
  have old6:∀i,i<H.n→S6 i∧H6.m i=H.m i:=fun i hi=>⟨(st6 i (old5 i hi).1).1,((st6 i (old5 i hi).1).2 (by have:=hnew.1;omega)).trans (old5 i hi).2⟩
  refine KW.fact (p:=H.n≤H6.n) (fun H1 g=>by have h1:=g.n_;have h2:o5<_:=(g.vars 0 _ rfl).2.1;omega) (fun hn6=>?_)
  refine KW.app1 (xs:=xs.map (Value.int .i64)) (v:=.int .i64 z) 0 1 U U U U U U U U U U U U U U U U U U U U U U U (by simp) (by show(xs.length+1)*8≤_;omega) (by show xs.length+1≤_;omega) ?_
  exact KW.nxt U U (fun H' g=>⟨⟨h+1,S6,H6,xs++[(z:Int)],H6.n+1⟩,⟨by simp only;omega,SB6.s (fun i hi=>⟨hi,rfl⟩) (by simp only;omega),old6,by simp only[List.length_append,List.length_singleton];omega,⟨by simp only[List.length_append,List.length_singleton];omega,fun x hx=>(List.mem_append.1 hx).elim (xr.2 x) (fun hx=>by rw[List.mem_singleton.1 hx];omega)⟩,by simp only;omega⟩,by simp only;omega,⟨rfl,rfl,rfl,by simp only[List.length_append,List.length_singleton];rfl,congrArg (Value.int .i64) (inc64 (by omega)),trivial⟩,g.eqT (by simp only[List.map_append];rfl)⟩)
 ·have k1:¬(h:Int)<(q:Int):=k1
  obtain rfl:h=q:=by omega
  haveI:On (Low H.n) H S5 A5:=⟨fun i hi=>old5 i hi⟩
  refine KW.retM1 U U U U (fun H1 g=>⟨xs,xr,MkL.of g (j:=0) rfl xo⟩)
theorem a2ElementsI {p n:Int} {q:Nat} (hn:n=(q:Nat)) (hq:q≤100) (hp:2≤p∧p≤31) (hb:∀x∈bs,0≤x∧x<256) (hl:bs.length≤1048576) (hs:KB.Sl S H0 (.slice ac bs.length cc) bs):
  SpecM Try.prog S H0 22 [.slice ac bs.length cc,.int .i64 p,.int .i64 n] (fun n v H1=>∃xs:List Int,(xs.length=q∧Elems p xs)∧MkL xs n v H1):=by
 subst hn
 exact a2Elements hq hp hb hl hs
end
end Go.Proofs.Ytlapbbffoapleaa.Am
namespace Go.Proofs.Ytlapbbffoapleaa.Am
open Go Go.RowKit Go.Proofs Go.Proofs.Ytlapbbffoapleaa.Pl
section
variable {S:Ids} {H0:AH}
theorem rowsHeldG {x:T_Scheme} {g:List Int} (hB:B_Scheme x) (hk:SchOk x) (hg:Rises 0 (x.1-1) g) (hG:B_Int64S g) {a1 c1 a2 c2 a3 c3} (h1:KI.Sl S H0 (.slice a1 x.2.1.length c1) x.2.1) (h2:KI.sl.Sl S H0 (.slice a2 x.2.2.2.2.length c2) x.2.2.2.2) (h3:KI.Sl S H0 (.slice a3 g.length c3) g):
  SpecM Try.prog S H0 20 [.agg #[.int .i64 x.1,.slice a1 x.2.1.length c1,.int .i64 x.2.2.1,.int .i64 x.2.2.2.1,.slice a2 x.2.2.2.2.length c2],.slice a3 g.length c3] (MkLC (rowsG x.2.1 g) 0):=by
 refine SpecM.of1 Try.func20 rfl (by kernel_rfl) rfl (fun H _=>?_)
 have hk':OkSch x.1 x.2.1 x.2.2.1 x.2.2.2.1 x.2.2.2.2:=hk
 obtain⟨q,hq⟩:∃q:Nat,x.1=q:=⟨x.1.toNat,by have:=hk'.h1;omega⟩
 have hq7:=hk'.h7
 have hs:codeS x g=0:=by unfold codeS;rw[if_pos (tv_true hk),if_pos (tv_true hg)]
 have hr2:=hg
 rw[hq] at hr2
 have hgs:=rises_small hr2
 have hG':g.length≤1048576:=hG
 have hbt:bitsOf g<256:=Nat.lt_of_lt_of_le (bitsOf_lt (m:=q) (fun x hx=>by have:=hgs x hx;omega)) (Nat.pow_le_pow_right (by decide) (show q≤8 by omega))
 refine KW.callE U U U U U (schemeCode x g hB hG h1.up h2.up h3.up) (fun _ _=>?_)
 rw[hs]
 refine KW.cF U U (by first | (simp;done) | decide) ?_
 refine KW.callE U U U U U (crowdOf (m:=q) (by omega) (by omega) hgs h3.up) (fun _ _=>?_)
 refine KW.callN1 U U U U U (rowsHeld x.1 x.2.2.1 x.2.2.2.1 (bitsOf g) (by omega) hB.2.1 hk'.own hk'.h7 h1.up) (fun v HR SR mR _ _ hv=>?_)
 obtain⟨a5,c5,rfl,hR⟩:=hv
 refine KW.retM1 U U U U (fun H1 g=>?_)
 exact⟨a5,c5,rfl,ml1' (g.made (by omega) hR)⟩
noncomputable def consF (x:T_Scheme) (g held:List Int):Bool:=decide (x.2.2.2.1.toNat∉(ech x.2.2.1 (augW (heldR x.2.1 x.2.2.2.2 (bitsOf g)) held) (x.2.2.2.1.toNat+1)).2)
theorem isConsistent {x:T_Scheme} {g held:List Int} (hB:B_Scheme x) (hc:codeH x g held=0) (hG:B_Int64S g) (hH:B_Int64S held) {a1 c1 a2 c2 a3 c3 a4 c4} (h1:KI.Sl S H0 (.slice a1 x.2.1.length c1) x.2.1) (h2:KI.sl.Sl S H0 (.slice a2 x.2.2.2.2.length c2) x.2.2.2.2) (h3:KI.Sl S H0 (.slice a3 g.length c3) g) (h4:KI.Sl S H0 (.slice a4 held.length c4) held):
  Spec Try.prog S H0 25 [.agg #[.int .i64 x.1,.slice a1 x.2.1.length c1,.int .i64 x.2.2.1,.int .i64 x.2.2.2.1,.slice a2 x.2.2.2.2.length c2],.slice a3 g.length c3,.slice a4 held.length c4] (fun v=>v=.tuple #[.bool (consF x g held),.int .i64 0]):=by
 obtain⟨h',ow,p,c,rows⟩:=x
 refine Spec.of1 Try.func25 rfl (by kernel_rfl) rfl (fun H _=>?_)
 obtain⟨hk,hg,hhl,hhe⟩:=codeH_ok hc
 have hk:OkSch h' ow p c rows:=hk
 simp only at hg hhl hhe
 refine KW.callE U U U U U (heldCode (h',ow,p,c,rows) g held hB hG hH h1.up h2.up h3.up h4.up) (fun _ _=>?_)
 refine KW.cF U U (by simp[hc]) ?_
 obtain⟨q,hq⟩:∃q:Nat,h'=q:=⟨h'.toNat,by have:=hk.h1;omega⟩
 have hq7:=hk.h7
 rw[hq] at hg
 have hgs:=rises_small hg
 have hG':g.length≤1048576:=hG
 have hbt:bitsOf g<256:=Nat.lt_of_lt_of_le (bitsOf_lt (m:=q) (fun x hx=>by have:=hgs x hx;omega)) (Nat.pow_le_pow_right (by decide) (show q≤8 by omega))
 obtain⟨k,rfl⟩:∃k:Nat,c=((k+1:Nat):Int):=⟨c.toNat-1,by have:=hk.c1;omega⟩
 have hpr:=hk.mat.pr
 have hk12:=hk.mat.c1
 have s3:KI.Sl (Low H.n) H (.slice a3 g.length c3) g:=h3.up
 refine KW.callE U U U U U (crowdOf (m:=q) (by omega) (by omega) hgs s3) (fun _ _=>?_)
 refine KW.callN1 U U U U U (Am.held h' p ((k+1:Nat):Int) (bitsOf g) (by omega) hB.2.1 hB.2.2.2.2 hk h1.up h2.up) (fun v HM SM mM _ _ hv=>?_)
 obtain⟨am,cm,rfl,hM⟩:=hv
 have hM:=hM.up (S':=SM) (H':=HM)
 have hLr:Rect p (k+1) (heldR ow rows (bitsOf g)):=held_rect hk rfl
 have hLl:(heldR ow rows (bitsOf g)).length≤20:=held_len hk
 have hhL:held.length=(heldR ow rows (bitsOf g)).length:=by rw[hhl];unfold heldR rowsG;rw[selR_len]
 have s5:=h4.up (S':=SM) (H':=HM)
 refine KW.callN1 U U U U U (solve hpr (by omega) (by omega) hLr hhL (fun a ha=>by have:=hhe a ha;omega) hM s5) (fun v HS SS mS _ _ hv=>?_)
 obtain⟨a9,n9,c9,rfl⟩:=hv
 refine KW.retM1 U U U U (fun H1 g=>rfl)
end
end Go.Proofs.Ytlapbbffoapleaa.Am
namespace Go.Proofs.Ytlapbbffoapleaa.Am
open Go Go.RowKit Go.Proofs
theorem Spec.of1L (Z:List Nat) {P:Program} {S:Ids} {H0:AH} {f:FuncId} {fn:Func} {c:Code} {args:List Value} {post:Value→Prop} (hf:P.funcs[f]?=some fn) (hb:fn.body=some c) (hok:fnOk fn=true) (hst:stC (relab Z c)=true) (hs:Nat.ble args.length fn.ntmps=true)
  (h:∀H,Stp S H0 (Low H.n) H→KW P (Low H.n) H (Fin1 P fn (fun v H1=>Ext H H1∧Fin' H1∧post v)) H.n [] [.code (relab Z c)] (fun t=>args.getD t undef)):Spec P S H0 f args post:=by
 intro H hfin hfz
 refine Run.of hf hb hok (by simpa using Nat.le_of_ble_eq_true hs) ?_
 rw[envL_eq]
 exact((h H ⟨fun id hid=>hfz id hid⟩).wc hst (Good.start hfin)).relab
section
variable {P:Program} {S:Ids} {H0:AH} {Q:PostC} {k k1:List It} {e e1:Env} {T T1:List Var} {n n1:Nat} {l1 r1:List Nat} {d1:Tmp}
end
section
variable {P:Program} {S:Ids} {H0:AH} {Q:PostC} {k k1:List It} {e e1:Env} {T T1:List Var} {n n1:Nat} {l1 r1:List Nat} {d1:Tmp}
theorem KW.callNL1 {f:Operand} {xs:Array Operand} {ts:Array TypeId} {g:FuncId} {first cap:Array Value} {o:Oper} {L:List Tmp} {post:Nat→Value→AH→Prop} (h:Go1 P k e T n (.opL o false L) k1 e1 T1 n1 l1 r1) (hlr:l1=r1) (ho:o.op=.call {callee:=.value f,args:=xs,argTypes:=ts}) (hd:o.dst=some d1) (hf:ev e1 f=.func (.func g) first cap) (hL:AllW S (fun _=>False) T1 e1 L)
  (hs:SpecM P S H0 g (cargs e1 first cap xs) post)
  (hk:∀v H1 (S':Ids),n1≤H1.n→Stp S H0 S' H1→On (New n1 H1.n) H1 S' H1→post n1 v H1→KW P S' H1 Q H1.n T1 k1 (put1 e1 d1 (untag v))):KW P S H0 Q n T k e:=
 KW.callWL (W:=fun _=>False) (fun _ h=>h.elim) h hlr ho hd hf hL (SpecM.w hs) (fun v H1 S' h1 h2 h3 h4=>hk v H1 S' h1 ⟨fun id hid=>⟨(h2 id hid).1,(h2 id hid).2 (fun q=>q)⟩⟩ ⟨fun id hid=>⟨h3 id hid,rfl⟩⟩ h4)
end
end Go.Proofs.Ytlapbbffoapleaa.Am
namespace Go.Proofs.Ytlapbbffoapleaa.Am
open Go Go.RowKit Go.Proofs Go.Proofs.Ytlapbbffoapleaa.Pl
def coW (k:Nat) (L:List (List Int)) (held:List Int) (s:Int):List (List Int):=augW (L++[unitL (k+1)]) (held++[s])
def coY (p:Int) (k:Nat) (L:List (List Int)) (held:List Int) (s:Int):List Int:=setF (ech p (coW k L held s) (k+1+1)).1 (ech p (coW k L held s) (k+1+1)).2 (k+1) (ech p (coW k L held s) (k+1+1)).2.length
def CoX (p:Int) (k:Nat) (L:List (List Int)) (held:List Int) (s:Int) (n:Nat) (v:Value) (H1:AH):Prop:=
 (k+1∈(ech p (coW k L held s) (k+1+1)).2∧v=.tuple #[.slice none 0 0,.int .i64 6])∨(k+1∉(ech p (coW k L held s) (k+1+1)).2∧∃a c,v=.tuple #[.slice a ((coY p k L held s).drop 1).length c,.int .i64 0]∧KI.Sl (New n H1.n) H1 (.slice a ((coY p k L held s).drop 1).length c) ((coY p k L held s).drop 1))
section
variable {S:Ids} {H0:AH}
theorem solveN {p:Int} {k n1 n2:Nat} (hp:PrimeP p) (hk:k≤100) {L:List (List Int)} {vals:List Int} (h1:n1=L.length) (h2:n2=vals.length) (hLl:L.length≤100) (hL:Rect p k L) (hvl:vals.length=L.length) (hv:∀v∈vals,0≤v∧v<p) {a1 c1 a2 c2} (hs0:KI.sl.Sl S H0 (.slice a1 n1 c1) L) (hv0:KI.Sl S H0 (.slice a2 n2 c2) vals):
  SpecM Try.prog S H0 85 [.agg #[.int .i64 p,.int .i64 k,.slice a1 n1 c1],.slice a2 n2 c2] (SoX p k (augW L vals)):=by
 subst h1 h2
 exact solveX hp hk hLl hL hvl hv hs0 hv0
theorem Good.rowsN {S0:Ids} {H0 H1:AH} {T:List Var} {n j o m:Nat} {ty:TypeId} {cs:List Value} {xs:List (List Int)} (g:Good S0 H0 T n H1) (hT:T[j]?=some (o,⟨ty,true,cs⟩)) (hm:m=xs.length) (hl:cs.length=xs.length) (h:∀(i:Nat) x,xs[i]?=some x→∃v,cs[i]?=some v∧KI.Sl (Low H1.n) H1 v x):KI.sl.Sl (Low H1.n) H1 (.slice (some ⟨o,0,some 1⟩) m m) xs:=by
 subst hm
 exact g.rowsV hT hl h
theorem ints_slN {S:Ids} {A:AH} {o m:Nat} {ty:TypeId} {rw_:Bool} {cs:List Value} {xs:List Int} (hm:m=xs.length) (hc:cs=xs.map (Value.int .i64)) (hb:A.m o=some ⟨ty,rw_,cs⟩∧S o):KI.Sl S A (.slice (some ⟨o,0,some 1⟩) m m) xs:=by
 subst hm
 exact int_sl hb.2 hb.1 hc (Nat.le_refl _)
theorem completion {x:T_Scheme} {g held:List Int} {s:Int} (hB:B_Scheme x) (hc:codeH x g held=0) (hs:0≤s∧s<x.2.2.1) (hG:B_Int64S g) (hH:B_Int64S held) {a1 c1 a2 c2 a3 c3 a4 c4} (h1:KI.Sl S H0 (.slice a1 x.2.1.length c1) x.2.1) (h2:KI.sl.Sl S H0 (.slice a2 x.2.2.2.2.length c2) x.2.2.2.2) (h3:KI.Sl S H0 (.slice a3 g.length c3) g) (h4:KI.Sl S H0 (.slice a4 held.length c4) held):
  SpecM Try.prog S H0 28 [.agg #[.int .i64 x.1,.slice a1 x.2.1.length c1,.int .i64 x.2.2.1,.int .i64 x.2.2.2.1,.slice a2 x.2.2.2.2.length c2],.slice a3 g.length c3,.slice a4 held.length c4,.int .i64 s] (CoX x.2.2.1 (x.2.2.2.1.toNat-1) (heldR x.2.1 x.2.2.2.2 (bitsOf g)) held s):=by
 obtain⟨h',ow,p,c,rows⟩:=x
 refine SpecM.of1L [8] Try.func28 rfl (by kernel_rfl) (by kernel_rfl) rfl (fun H _=>?_)
 obtain⟨hk,hg,hhl,hhe⟩:=codeH_ok hc
 have hk:OkSch h' ow p c rows:=hk
 simp only at hg hhl hhe hs
 have hH':held.length≤1048576:=hH
 have hG':g.length≤1048576:=hG
 refine KW.callE U U U U U (heldCode (h',ow,p,c,rows) g held hB hG hH h1.up h2.up h3.up h4.up) (fun _ _=>?_)
 refine KW.tT U U (by simp[hc]) ?_
 refine KW.lit U U U U U U U U U U [.int .i64 s] U U (fun v hv=>by simp at hv;subst hv;rfl) rfl ?_
 have hpr:=hk.mat.pr
 have hp2:=hpr.1
 have hp31:=hpr.2.1
 have hes:Elems p [s]:=fun y hy=>by rw[List.mem_singleton.1 hy];omega
 refine KW.callV1 U U U U U (fun H1 g _=>areElements p (by unfold I64;omega) (xs:=[s]) (by simp) (g.ints (j:=1) U U (by simp))) (fun _ _=>?_)
 rw[tv_true (p:=PrimeP p∧Elems p [s]) ⟨hpr,hes⟩]
 refine KW.cF U U (by first | (simp;done) | decide) ?_
 refine KW.cF U U (by simp[hc]) ?_
 obtain⟨q,hq⟩:∃q:Nat,h'=q:=⟨h'.toNat,by have:=hk.h1;omega⟩
 have hq7:=hk.h7
 rw[hq] at hg
 have hgs:=rises_small hg
 have hbt:bitsOf g<256:=Nat.lt_of_lt_of_le (bitsOf_lt (m:=q) (fun x hx=>by have:=hgs x hx;omega)) (Nat.pow_le_pow_right (by decide) (show q≤8 by omega))
 obtain⟨k,rfl⟩:∃k:Nat,c=((k+1:Nat):Int):=⟨c.toNat-1,by have:=hk.c1;omega⟩
 have hk12:=hk.mat.c1
 have hf:=fer hpr
 have s3:KI.Sl (Low H.n) H (.slice a3 g.length c3) g:=h3.up
 refine KW.callE U U U U U (crowdOf (m:=q) (by omega) (by omega) hgs s3) (fun _ _=>?_)
 refine KW.callN1 U U U U U (Am.heldO h' p ((k+1:Nat):Int) (bitsOf g) (by omega) hB.2.1 hB.2.2.2.2 hk h1.up h2.up) (fun v HM SM mM _ _ hv=>?_)
 have hLr:Rect p (k+1) (heldR ow rows (bitsOf g)):=held_rect hk rfl
 have hLl:(heldR ow rows (bitsOf g)).length≤20:=held_len hk
 have hhL:held.length=(heldR ow rows (bitsOf g)).length:=by rw[hhl];unfold heldR rowsG;rw[selR_len]
 have ek:((k+1:Nat):Int).toNat-1=k:=by omega
 simp only[ek]
 obtain⟨L,eL⟩:∃L,heldR ow rows (bitsOf g)=L:=⟨_,rfl⟩
 rw[eL] at hv hLr hLl hhL ⊢
 have hui:=unitL_in (p:=p) hp2 (show 1≤k+1 by omega)
 have hLu:Rect p (k+1) (L++[unitL (k+1)]):=fun r hr=>by
  rcases List.mem_append.1 hr with h | h
  ·exact hLr r h
  ·rw[List.mem_singleton.1 h];exact hui
 have hvu:(held++[s]).length=(L++[unitL (k+1)]).length:=by simp[hhL]
 have hvi:∀v∈held++[s],0≤v∧v<p:=fun v hv=>by
  rcases List.mem_append.1 hv with h | h
  ·have:=hhe v h;omega
  ·rw[List.mem_singleton.1 h];exact hs
 have hul:(unitL (k+1)).length=k+1:=hui.1
 rcases hv with⟨h0,rfl⟩ | ⟨h0,o,cs,rfl,hM,q1,q2,q3,q4⟩
 ·have hh0:held=[]:=List.eq_nil_of_length_eq_zero (by rw[hhL,h0];rfl)
  subst h0 hh0
  refine KW.callN1 U U U U U (unit (k+1) (by omega) (by omega)) (fun v HU SU mU _ _ hv=>?_)
  obtain⟨au,cu,rfl,hU⟩:=hv
  have hU1:=hU.sl.up (S':=SU) (H':=HU)
  refine KW.app0 (v:=.slice au (unitL (k+1)).length cu) 3 U U U U U U U U U U U U U U U U U U U U U U (by decide) ?_
  refine KW.ids (fun hlow hvar=>?_)
  refine KW.callNL1 U U U U U ⟨.inl ⟨2,_,_,_,_,rfl,rfl⟩,trivial⟩ (cloneB (by simp) (h4.up (S':=SU) (H':=HU))) (fun v HC SC mC _ _ hv=>?_)
  have hU2:=hU1.up (S':=SC) (H':=HC)
  rcases hv with⟨_,rfl⟩ | ⟨o3,rfl,hno3,hmo3⟩
  ·refine KW.app0L (v:=.int .i64 s) 4 U U U U U U U U U U U U U U U U U U U U U U (by decide) ⟨.inl ⟨2,_,_,_,_,rfl,rfl,by simp⟩,trivial⟩ ?_
   have hUX:=hU2
   refine KW.callNV1 U U U U U (fun H1 g _=>solveN (L:=([]:List (List Int))++[unitL (k+1)]) (vals:=([]:List Int)++[s]) (k:=k+1) (n1:=1) (n2:=1) hpr (by omega) (by simp) (by simp) (by simp<;>omega) hLu hvu hvi (g.rowsN (j:=3) rfl (by simp) (by simp) (fun i y hy=>⟨_,by have h9:=(List.getElem?_eq_some_iff.1 hy).1;simp at h9;subst h9;rfl,by have h9:=(List.getElem?_eq_some_iff.1 hy).1;simp at h9;subst h9;cases hy;exact hUX.up⟩)) (ints_slN (cs:=[.int .i64 s]) (by simp) (by simp) (g.blk (j:=5) rfl))) (fun v HS SS mS tS9 wS9 hv=>?_)
   obtain⟨a9,m9,c9,rfl,hS⟩:=hv
   by_cases hn:k+1∈(ech p (coW k ([]:List (List Int)) ([]:List Int) s) (k+1+1)).2
   ·refine KW.cT U U (by show(!decide (k+1∉(ech p (coW k ([]:List (List Int)) ([]:List Int) s) (k+1+1)).2))=true;rw[decide_eq_false (fun h=>h hn)];rfl) ?_
    refine KW.retM1 U U U U (fun H1 g=>.inl ⟨hn,rfl⟩)
   ·refine KW.cF U U (by show(!decide (k+1∉(ech p (coW k ([]:List (List Int)) ([]:List Int) s) (k+1+1)).2))=false;rw[decide_eq_true hn];rfl) ?_
    obtain⟨em,hY⟩:=hS hn
    have hY:KI.Sl (New _ HS.n) HS (.slice a9 m9 c9) (coY p k ([]:List (List Int)) ([]:List Int) s):=hY
    have eY:(coY p k ([]:List (List Int)) ([]:List Int) s).length=k+1:=setF_len _
    obtain⟨Y,hYe⟩:∃Y,coY p k ([]:List (List Int)) ([]:List Int) s=Y:=⟨_,rfl⟩
    rw[hYe] at hY eY
    have em:m9=Y.length:=by omega
    subst em
    refine KW.slFromG (m:=1) (hY.up (S':=SS) (H':=HS)) (by omega) (by omega) U U U U U U U U U (fun a' c' hs'=>?_)
    refine KW.retM1 U U U U (fun H1 g=>.inr ⟨hn,?_⟩)
    rw[hYe]
    exact⟨a',c',rfl,hs' _ _ (Kn.Sl.more (fun id hid=>⟨by have:=hid.1;omega,by have:=(g.froz id (wS9.st id hid).1).1;have:=g.n_;omega⟩) (Kn.Sl.same (fun id hid=>(g.froz id (wS9.st id hid).1).2) hY))⟩
  ·have hSo3:SC o3:=(inferInstance:On (New _ HC.n) HC SC HC).st o3 hno3 |>.1
   have hUne:∀id,SU id→id≠o3:=fun id hid e=>by have:=hlow id hid;have:=hno3.1;omega
   haveI ot:On SU HU (fun id=>SC id∧id≠o3) HC:=On.thaw hUne
   have hU3:=hU1.up (S':=fun id=>SC id∧id≠o3) (H':=HC)
   haveI otL:On (Low H.n) H (fun id=>SC id∧id≠o3) HC:=⟨fun id hid=>by have h5:=(inferInstance:On (Low H.n) H SU HU).st id hid;have h6:=ot.st id h5.1;exact⟨h6.1,h6.2.trans h5.2⟩⟩
   refine KW.thaw o3 _ hSo3 hmo3 ?_
   refine KW.app1L (xs:=([]:List Value)) (v:=.int .i64 s) 4 5 U U U U U U U U U U U U U U U U U U U U U U U (by simp) (by decide) (by decide) ⟨.inl ⟨2,_,_,_,_,rfl,rfl,by decide⟩,trivial⟩ ?_
   have hUX:=hU3
   refine KW.callNV1 U U U U U (fun H1 g _=>solveN (L:=([]:List (List Int))++[unitL (k+1)]) (vals:=([]:List Int)++[s]) (k:=k+1) (n1:=1) (n2:=1) hpr (by omega) (by simp) (by simp) (by simp<;>omega) hLu hvu hvi (g.rowsN (j:=3) rfl (by simp) (by simp) (fun i y hy=>⟨_,by have h9:=(List.getElem?_eq_some_iff.1 hy).1;simp at h9;subst h9;rfl,by have h9:=(List.getElem?_eq_some_iff.1 hy).1;simp at h9;subst h9;cases hy;exact hUX.up⟩)) (ints_slN (cs:=[.int .i64 s]) (by simp) (by simp) (g.blk (j:=4) rfl))) (fun v HS SS mS tS9 wS9 hv=>?_)
   obtain⟨a9,m9,c9,rfl,hS⟩:=hv
   by_cases hn:k+1∈(ech p (coW k ([]:List (List Int)) ([]:List Int) s) (k+1+1)).2
   ·refine KW.cT U U (by show(!decide (k+1∉(ech p (coW k ([]:List (List Int)) ([]:List Int) s) (k+1+1)).2))=true;rw[decide_eq_false (fun h=>h hn)];rfl) ?_
    refine KW.retM1 U U U U (fun H1 g=>.inl ⟨hn,rfl⟩)
   ·refine KW.cF U U (by show(!decide (k+1∉(ech p (coW k ([]:List (List Int)) ([]:List Int) s) (k+1+1)).2))=false;rw[decide_eq_true hn];rfl) ?_
    obtain⟨em,hY⟩:=hS hn
    have hY:KI.Sl (New _ HS.n) HS (.slice a9 m9 c9) (coY p k ([]:List (List Int)) ([]:List Int) s):=hY
    have eY:(coY p k ([]:List (List Int)) ([]:List Int) s).length=k+1:=setF_len _
    obtain⟨Y,hYe⟩:∃Y,coY p k ([]:List (List Int)) ([]:List Int) s=Y:=⟨_,rfl⟩
    rw[hYe] at hY eY
    have em:m9=Y.length:=by omega
    subst em
    refine KW.slFromG (m:=1) (hY.up (S':=SS) (H':=HS)) (by omega) (by omega) U U U U U U U U U (fun a' c' hs'=>?_)
    refine KW.retM1 U U U U (fun H1 g=>.inr ⟨hn,?_⟩)
    rw[hYe]
    exact⟨a',c',rfl,hs' _ _ (Kn.Sl.more (fun id hid=>⟨by have:=hid.1;omega,by have:=(g.froz id (wS9.st id hid).1).1;have:=g.n_;omega⟩) (Kn.Sl.same (fun id hid=>(g.froz id (wS9.st id hid).1).2) hY))⟩
 ·have q1':SM o:=(inferInstance:On (New _ HM.n) HM SM HM).st o q1 |>.1
  refine KW.ids (fun hlow0 hvar0=>?_)
  refine KW.callN1 U U U U U (unit (k+1) (by omega) (by omega)) (fun v HU SU mU _ _ hv=>?_)
  obtain⟨au,cu,rfl,hU⟩:=hv
  have tU:On SM HM SU HU:=inferInstance
  have hoU:=tU.st o q1'
  have hUne0:∀id,New (HM.n+1) HU.n id→id≠o:=fun id hid e=>by have:=hid.1;have:=q1.2;omega
  have hU1:KI.Sl (fun id=>SU id∧id≠o) HU (.slice au (unitL (k+1)).length cu) (unitL (k+1)):=Kn.Sl.more (fun id hid=>⟨((inferInstance:On (New (HM.n+1) HU.n) HU SU HU).st id hid).1,hUne0 id hid⟩) hU.sl
  have hrow:∀(i:Nat) y,L[i]?=some y→∃v,cs[i]?=some v∧KI.Sl (fun id=>SU id∧id≠o) HU v y:=fun i y hy=>by
   obtain⟨v,v1,v2⟩:=q4 i y hy
   refine⟨v,v1,Kn.Sl.more (fun id hid=>?_) (Kn.Sl.same (S:=fun id=>New _ HM.n id∧id≠o) (fun id hid=>?_) v2)⟩
   ·exact⟨(tU.st id ((inferInstance:On (New _ HM.n) HM SM HM).st id hid.1).1).1,hid.2⟩
   ·exact(tU.st id ((inferInstance:On (New _ HM.n) HM SM HM).st id hid.1).1).2
  have hh4:KI.Sl (fun id=>SU id∧id≠o) HU (.slice a4 held.length c4) held:=Kn.Sl.more (fun id hid=>⟨((inferInstance:On (Low H.n) H SU HU).st id hid).1,fun e=>by have h9:id<H.n:=hid;have:=q1.1;omega⟩) (Kn.Sl.same (S:=Low H.n) (fun id hid=>((inferInstance:On (Low H.n) H SU HU).st id hid).2) (h4.up (S':=Low H.n) (H':=H)))
  refine KW.thaw o _ hoU.1 (hoU.2.trans q2) ?_
  refine KW.app1 (xs:=cs) (v:=.slice au (unitL (k+1)).length cu) 3 4 U U U U U U U U U U U U U U U U U U U U U U U (by omega) (by show(_+1)*24≤_;omega) (by omega) ?_
  refine KW.ids (fun hlow hvar=>?_)
  refine KW.callNL1 U U U U U ⟨.inl ⟨2,_,_,_,_,rfl,rfl⟩,trivial⟩ (cloneB (by omega) hh4) (fun v HC SC mC _ _ hv=>?_)
  have tC:St (fun id=>SU id∧id≠o) HU SC HC:=(inferInstance:On (fun id=>SU id∧id≠o) HU SC HC).st
  rcases hv with⟨hh0,rfl⟩ | ⟨o3,rfl,hno3,hmo3⟩
  ·exact absurd (List.eq_nil_of_length_eq_zero (by rw[← hhL,hh0];rfl)) h0
  ·have hSo3:SC o3:=(inferInstance:On (New _ HC.n) HC SC HC).st o3 hno3 |>.1
   have hne3:∀id,(SU id∧id≠o)→id≠o3:=fun id hid e=>by have:=hlow id hid;have:=hno3.1;omega
   haveI ot:On (fun id=>SU id∧id≠o) HU (fun id=>SC id∧id≠o3) HC:=⟨fun id hid=>⟨⟨(tC id hid).1,hne3 id hid⟩,(tC id hid).2⟩⟩
   haveI otL:On (Low H.n) H (fun id=>SC id∧id≠o3) HC:=⟨fun id hid=>by have h5:=(inferInstance:On (Low H.n) H SU HU).st id hid;have h6:=ot.st id ⟨h5.1,fun e=>by have h9:id<H.n:=hid;have:=q1.1;omega⟩;exact⟨h6.1,h6.2.trans h5.2⟩⟩
   refine KW.thaw o3 _ hSo3 hmo3 ?_
   refine KW.app1L (xs:=held.map (Value.int .i64)) (v:=.int .i64 s) 4 5 U U U U U U U U U U U U U U U U U U U U U U U (by simp) (by show(_+1)*8≤_;omega) (by omega) ⟨.inl ⟨2,_,_,_,_,rfl,rfl,by decide⟩,trivial⟩ ?_
   have hrow2:∀(H1:AH) (S1:Ids),(∀id,(SU id∧id≠o)→S1 id∧H1.m id=HU.m id)→∀(i:Nat) y,(L++[unitL (k+1)])[i]?=some y→∃v,(cs++[.slice au (unitL (k+1)).length cu])[i]?=some v∧KI.Sl S1 H1 v y:=fun H1 S1 t i y hy=>by
    rcases Nat.lt_or_ge i L.length with hlt | hge
    ·obtain⟨v,v1,v2⟩:=hrow i y (by rw[List.getElem?_append_left hlt] at hy;exact hy)
     exact⟨v,by rw[List.getElem?_append_left (by omega)];exact v1,Kn.Sl.more (fun id hid=>(t id hid).1) (Kn.Sl.same (fun id hid=>(t id hid).2) v2)⟩
    ·have h9:=(List.getElem?_eq_some_iff.1 hy).1
     simp at h9
     obtain rfl:i=L.length:=by omega
     rw[List.getElem?_append_right (Nat.le_refl _),Nat.sub_self] at hy
     cases hy
     exact⟨_,by rw[← q3,List.getElem?_append_right (Nat.le_refl _),Nat.sub_self];rfl,Kn.Sl.more (fun id hid=>(t id hid).1) (Kn.Sl.same (fun id hid=>(t id hid).2) hU1)⟩
   refine KW.callNV1 U U U U U (fun H1 g _=>solveN (L:=L++[unitL (k+1)]) (vals:=held++[s]) (k:=k+1) (n1:=L.length+1) (n2:=held.length+1) hpr (by omega) (by simp[q3]) (by simp[q3]) (by simp<;>omega) hLu hvu hvi (g.rowsN (j:=3) rfl (by simp[q3]) (by simp[q3]) (hrow2 H1 (Low H1.n) (fun id hid=>by have h5:=ot.st id hid;have h6:=g.froz id h5.1;exact⟨by have:=g.n_;show id<H1.n;omega,h6.2.trans h5.2⟩))) (ints_slN (cs:=held.map (Value.int .i64)++[.int .i64 s]) (by simp[q3]) (by simp) (g.blk (j:=4) rfl))) (fun v HS SS mS tS9 wS9 hv=>?_)
   obtain⟨a9,m9,c9,rfl,hS⟩:=hv
   by_cases hn:k+1∈(ech p (coW k L held s) (k+1+1)).2
   ·refine KW.cT U U (by show(!decide (k+1∉(ech p (coW k L held s) (k+1+1)).2))=true;rw[decide_eq_false (fun h=>h hn)];rfl) ?_
    refine KW.retM1 U U U U (fun H1 g=>.inl ⟨hn,rfl⟩)
   ·refine KW.cF U U (by show(!decide (k+1∉(ech p (coW k L held s) (k+1+1)).2))=false;rw[decide_eq_true hn];rfl) ?_
    obtain⟨em,hY⟩:=hS hn
    have hY:KI.Sl (New _ HS.n) HS (.slice a9 m9 c9) (coY p k L held s):=hY
    have eY:(coY p k L held s).length=k+1:=setF_len _
    obtain⟨Y,hYe⟩:∃Y,coY p k L held s=Y:=⟨_,rfl⟩
    rw[hYe] at hY eY
    have em:m9=Y.length:=by omega
    subst em
    refine KW.slFromG (m:=1) (hY.up (S':=SS) (H':=HS)) (by omega) (by omega) U U U U U U U U U (fun a' c' hs'=>?_)
    refine KW.retM1 U U U U (fun H1 g=>.inr ⟨hn,?_⟩)
    rw[hYe]
    exact⟨a',c',rfl,hs' _ _ (Kn.Sl.more (fun id hid=>⟨by have:=hid.1;omega,by have:=(g.froz id (wS9.st id hid).1).1;have:=g.n_;omega⟩) (Kn.Sl.same (fun id hid=>(g.froz id (wS9.st id hid).1).2) hY))⟩
end
end Go.Proofs.Ytlapbbffoapleaa.Am
namespace Go.Proofs.Ytlapbbffoapleaa.Am
open Go Go.RowKit Go.Proofs
abbrev W_B (x:List Int):Prop:=x.length≤9223372036854775807∧∀y∈x,0≤y∧y<256
abbrev K_B:Kn (List Int):=KB.sl
section
variable {S:Ids} {H0:AH}
theorem a2Long {p0 p1:Option Addr} {n0 n1 q0 q1:Nat}:Spec Try.prog S H0 9 [.slice p0 n0 q0,.slice p1 n1 q1] (fun v=>∃b:Bool,v=.bool b∧(b=false→n0≤3000∧n1≤3000)):=by
 refine Spec.of1 Try.func9 rfl (by kernel_rfl) rfl (fun H _=>?_)
 refine KW.tst U U (fun h=>?_) (fun h=>?_)
 ·refine KW.ret U U U U ?_
  exact⟨_,rfl,fun h2=>by cases h2⟩
 ·have h:¬(n0:Int)>3000:=h
  refine KW.ret U U U U ?_
  exact⟨_,rfl,fun h2=>by have h2:decide ((n1:Int)>3000)=false:=h2;simp at h2;omega⟩
end
theorem sum_bound {l:List Nat} {b:Nat} (h:∀x∈l,x≤b):sum l≤l.length*b:=by
 induction l with
 | nil=>simp[sum]
 | cons x l ih=>
  have h1:=h x (List.mem_cons_self ..)
  have h2:=ih (fun y hy=>h y (List.mem_cons_of_mem _ hy))
  simp only[sum,List.length_cons,Nat.succ_mul]
  omega
theorem sml_small {L:List (List Int)} (hl:L.length≤1000) (h:∀r∈L,r.length≤1000):B_Int64SS L:=by
 refine⟨by omega,?_⟩
 have h1:=sum_bound (l:=lens L) (b:=1000) (fun x hx=>by
  obtain⟨r,hr,rfl⟩:=List.mem_map.1 hx
  exact h r hr)
 have h2:(lens L).length=L.length:=by simp[lens]
 have h3:(lens L).length*1000≤1000*1000:=Nat.mul_le_mul_right _ (by omega)
 omega
theorem scheme_small {x:T_Scheme} (hk:SchOk x):B_Scheme x:=by
 have hk:OkSch x.1 x.2.1 x.2.2.1 x.2.2.2.1 x.2.2.2.2:=hk
 have h1:=hk.h1
 have h7:=hk.h7
 have hl:=hk.mat.len
 have hol:=hk.len
 have hp1:=hk.mat.pr.1
 have hp2:=hk.mat.pr.2.1
 have hc1:=hk.c1
 have hc2:=hk.mat.c1
 exact⟨⟨by omega,by omega⟩,by show x.2.1.length≤_;omega,⟨by omega,by omega⟩,⟨by omega,by omega⟩,sml_small (by omega) (fun r hr=>by have:=(hk.mat.row r hr).1;omega)⟩
section
variable {S:Ids} {H0:AH} {bs:List Int} {ac:Option Addr} {cc:Nat}
theorem a2Scheme (hb:∀x∈bs,0≤x∧x<256) (hl:bs.length≤1048576) (hs:KB.Sl S H0 (.slice ac bs.length cc) bs):
  SpecM Try.prog S H0 18 [.slice ac bs.length cc] (fun m v H1=>∃(x:T_Scheme) (cs:List Value),v=.agg cs.toArray∧SchOk x∧K_Scheme.R (New m H1.n) H1 x cs):=by
 refine SpecM.of1 Try.func18 rfl (by kernel_rfl) rfl (fun H _=>?_)
 refine KW.callN1 U U U U U (srcFrom) (fun v HS SS mS _ _ hv=>?_)
 obtain⟨o,sp,rfl,hnew,hsrc⟩:=hv
 have wS:On (New _ HS.n) HS SS HS:=‹_›
 have tS:On (Low H.n) H SS HS:=inferInstance
 have hso:=(wS.st o hnew).1
 have hbs:=(hs.up (S':=Low H.n) (H':=H)).stX (S':=fun i=>SS i∧i≠o) (H':=HS) (fun i hi=>⟨⟨(tS.st i hi).1,fun e=>by have h1:i<H.n:=hi;have:=hnew.1;omega⟩,(tS.st i hi).2⟩)
 have SB:SrcB bs ac cc o (fun i=>SS i∧i≠o) SS HS 0:=⟨hb,hl,hso,fun i hi=>hi,⟨0,Nat.le_refl _,hsrc⟩,hbs⟩
 refine KW.callW (W:=fun i=>i=o) (fun i hi=>by subst hi;exact hso) U U U U U (l04Drawn SB (by omega)) (fun v H4 S4 hn4 st4 hw4 hp=>?_)
 obtain⟨⟨cs,rfl,h',p,c,ow,rows,a1,a2,c1,c2,rfl,hk,ho,hr⟩,_⟩:=hp
 haveI:On (Low H.n) H S4 H4:=⟨fun i hi=>⟨(st4 i (tS.st i hi).1).1,((st4 i (tS.st i hi).1).2 (fun e=>by have h1:i<H.n:=hi;have h2:i=o:=e;have:=hnew.1;omega)).trans (tS.st i hi).2⟩⟩
 refine KW.retM1 U U U U (fun H1 g=>?_)
 have hR:K_Scheme.R (New HS.n H4.n) H4 (h',ow,p,c,rows) [.int .i64 h',.slice a1 ow.length c1,.int .i64 p,.int .i64 c,.slice a2 rows.length c2]:=prR (a:=KI) (cs:=[.int .i64 h']) rfl (prR (sl1' ho) (prR (a:=KI) (cs:=[.int .i64 p]) rfl (prR (a:=KI) (cs:=[.int .i64 c]) rfl (sl1' hr))))
 exact⟨(h',ow,p,c,rows),_,rfl,hk,K_Scheme.more (fun i hi=>⟨by have:=hi.1;omega,by have:=(g.froz i (hw4 i hi)).1;have:=g.n_;omega⟩) (K_Scheme.same (fun i hi=>(g.froz i (hw4 i hi)).2) hR)⟩
end
end Go.Proofs.Ytlapbbffoapleaa.Am
namespace Go.Proofs.Ytlapbbffoapleaa.Am
open Go Go.RowKit Go.Proofs Go.Proofs.Ytlapbbffoapleaa.Pl
noncomputable def cntC (p:Int) (k:Nat) (L:List (List Int)) (held:List Int):Nat→Nat
  | 0=>0
  | n+1=>cntC p k L held n+(if tv (SecOk p k L held (n:Int))=true then 1 else 0)
theorem cntC_le {p:Int} {k:Nat} {L:List (List Int)} {held:List Int}:∀n,cntC p k L held n≤n
  | 0=>Nat.le_refl _
  | n+1=>by
    have:=cntC_le (p:=p) (k:=k) (L:=L) (held:=held) n
    simp only[cntC]
    split<;>omega
theorem cntC_none {p:Int} {k:Nat} {L:List (List Int)} {held:List Int}:∀n,(∀i:Nat,i<n→¬SecOk p k L held (i:Int))→cntC p k L held n=0
  | 0,_=>rfl
  | n+1,h=>by
    simp only[cntC,cntC_none n fun i hi=>h i (by omega),tv_false (h n (by omega))]
    simp
theorem cntC_all {p:Int} {k:Nat} {L:List (List Int)} {held:List Int}:∀n,(∀i:Nat,i<n→SecOk p k L held (i:Int))→cntC p k L held n=n
  | 0,_=>rfl
  | n+1,h=>by
    simp only[cntC,cntC_all n fun i hi=>h i (by omega),tv_true (h n (by omega))]
    simp
theorem cntC_one {p:Int} {k:Nat} {L:List (List Int)} {held:List Int} {s:Nat} (hs:SecOk p k L held (s:Int)) (h1:∀i:Nat,SecOk p k L held (i:Int)→i=s):∀n,cntC p k L held n=if s<n then 1 else 0
  | 0=>by rw[if_neg (Nat.not_lt_zero s)];rfl
  | n+1=>by
    have ih:=cntC_one hs h1 n
    simp only[cntC,ih]
    by_cases e:n=s
    · subst e
      rw[tv_true hs,if_neg (Nat.lt_irrefl n),if_pos rfl,if_pos (Nat.lt_succ_self n)]
    · rw[tv_false (fun q=>e (h1 n q))]
      simp only[Bool.false_eq_true,if_false,Nat.add_zero]
      by_cases h:s<n
      · rw[if_pos h,if_pos (by omega)]
      · rw[if_neg h,if_neg (by omega)]
theorem csAt_pos {p:Int} {k:Nat} {L:List (List Int)} {held:List Int} (hp:PrimeP p) (hL:Rect p (k+1) L) (hl:held.length=L.length) (hh:∀v∈held,0≤v∧v<p) {s:Nat} (hs:(s:Int)<p):(SecOk p k L held (s:Int)∧csAt p k L held s=tmN p (k-(ech p (blR L) k).2.length)∧0<csAt p k L held s)∨(¬SecOk p k L held (s:Int)∧csAt p k L held s=0):=by
  have hf:=fer hp
  have h:=case_iff hf hL hl hh hs
  unfold csAt
  by_cases hk:k∉(ech p (augW (blR L) (restL p L held s)) (k+1)).2
  · rw[decide_eq_true hk,if_pos rfl]
    exact .inl ⟨h.1 hk,rfl,by have:=(tmN_in (p:=p) ⟨hp.1,hp.2.1⟩ (k-(ech p (blR L) k).2.length)).1;omega⟩
  · rw[decide_eq_false hk,if_neg (by decide)]
    exact .inr ⟨fun q=>hk (h.2 q),rfl⟩
theorem coY_ok {p s:Int} {k:Nat} {L:List (List Int)} {held:List Int} (hp:PrimeP p) (hL:Rect p (k+1) L) (hl:held.length=L.length) (hh:∀v∈held,0≤v∧v<p) (hs:0≤s∧s<p) (hn:k+1∉(ech p (coW k L held s) (k+1+1)).2):((coY p k L held s).drop 1).length=k∧Elems p ((coY p k L held s).drop 1)∧FitX p L held (s :: (coY p k L held s).drop 1):=by
  have hf:=fer hp
  have hp2:=hp.1
  have hui:=unitL_in (p:=p) hp2 (show 1≤k+1 by omega)
  have hLu:Rect p (k+1) (L++[unitL (k+1)]):=fun r hr=>by
    rcases List.mem_append.1 hr with h | h
    · exact hL r h
    · rw[List.mem_singleton.1 h];exact hui
  have hvi:∀v∈held++[s],0≤v∧v<p:=fun v hv=>by
    rcases List.mem_append.1 hv with h | h
    · exact hh v h
    · rw[List.mem_singleton.1 h];exact hs
  have hW:Rect p (k+1+1) (coW k L held s):=augW_rect hLu hvi
  have eY:(coY p k L held s).length=k+1:=setF_len _
  have iY:∀a∈coY p k L held s,0≤a∧a<p:=setF_in (p:=p) (by omega) (ech_shape hf hW (k+1+1)).rect _
  have sY:=(allS_aug (fun r hr=>(hLu r hr).1) (by simp[hl]) eY).1 (setF_sol hf hW hn)
  have vY:VecOk p (k+1) (coY p k L held s):=⟨eY,iY⟩
  obtain⟨f1,f2⟩:=(fit_unit hl vY hs (by omega)).1 sY
  obtain⟨Y,e⟩:∃Y,coY p k L held s=Y:=⟨_,rfl⟩
  rw[e] at eY iY f1 f2 ⊢
  cases Y with
  | nil=>simp at eY
  | cons a t=>
    have f2:a=s:=f2
    subst f2
    exact⟨by simpa using eY,fun y hy=>by have:=iY y (List.mem_cons_of_mem _ hy);omega,f1⟩
theorem held_back {x:T_Scheme} {g held all:List Int} {k:Nat} (hk:SchOk x) (hg:Rises 0 (x.1-1) g) (ek:x.2.2.2.1=((k+1:Nat):Int)) (ha:all.length=k+1) (hl:held.length=(heldR x.2.1 x.2.2.2.2 (bitsOf g)).length) (hh:∀v∈held,0≤v∧v<x.2.2.1) (hf:FitX x.2.2.1 (heldR x.2.1 x.2.2.2.2 (bitsOf g)) held all):heldV x.2.1 (shares x.2.2.1 x.2.2.2.2 all) g=held:=by
  have hk':OkSch x.1 x.2.1 x.2.2.1 x.2.2.2.1 x.2.2.2.2:=hk
  unfold heldV
  rw[rowsG_spec hk' hg]
  refine List.ext_getElem? fun i=>?_
  have hlr:(heldR x.2.1 x.2.2.2.2 (bitsOf g)).length=(rowsG x.2.1 g).length:=by unfold heldR rowsG;rw[selR_len]
  rcases Nat.lt_or_ge i (rowsG x.2.1 g).length with hlt | hge
  · obtain⟨q,hq⟩:∃q,(rowsG x.2.1 g)[i]?=some q:=⟨_,List.getElem?_eq_getElem hlt⟩
    obtain⟨v,hv⟩:∃v,held[i]?=some v:=⟨_,List.getElem?_eq_getElem (by omega)⟩
    have hr:(heldR x.2.1 x.2.2.2.2 (bitsOf g))[i]?=some (x.2.2.2.2.getD q.toNat []):=by
      show(selR x.2.2.2.2 (rowsG x.2.1 g))[i]?=_
      unfold selR
      rw[List.getElem?_map,hq];rfl
    have hqb:=held_in hk' (q:=fun i=>(bitsOf g).testBit (x.2.1.getD i 0).toNat) q (List.mem_of_getElem? hq)
    have h1:=hf i _ v hr hv
    rw[List.getElem?_map,hq,hv]
    show some ((shares x.2.2.1 x.2.2.2.2 all).getD q.toNat 0)=some v
    rw[shares_at (by omega)]
    have hrl:((x.2.2.2.2.getD q.toNat []).length:Int)=x.2.2.2.1:=(hk'.mat.row _ (by
      rw[List.getD_eq_getElem?_getD,List.getElem?_eq_getElem (show q.toNat<x.2.2.2.2.length by omega)]
      exact List.getElem_mem _)).1
    rw[dotS_dF (by omega),h1.emod]
    have h2:=hh v (List.mem_of_getElem? hv)
    rw[Int.emod_eq_of_lt h2.1 h2.2]
  · rw[List.getElem?_eq_none (by rw[List.length_map];omega),List.getElem?_eq_none (by omega)]
section
variable {S:Ids} {H0:AH}
theorem lawCasesAlike {ar0 ar1:List Int} {p0 p1:Option Addr} {q0 q1:Nat} (hW0:W_B ar0) (h0:K_B.R S H0 ar0 [.slice p0 ar0.length q0]) (hW1:W_B ar1) (h1:K_B.R S H0 ar1 [.slice p1 ar1.length q1]):Spec Try.prog S H0 4 [.slice p0 ar0.length q0,.slice p1 ar1.length q1] (fun v=>v=.bool true):=by
  have s0:=sl1 h0
  have s1:=sl1 h1
  refine Spec.of1 Try.func4 rfl (by kernel_rfl) rfl (fun H _=>?_)
  refine KW.call U U U U U (a2Long) (fun v _ _ hv=>?_)
  obtain⟨b,rfl,hb⟩:=hv
  cases b with
  | true=>
    refine KW.cT U U (by first | (simp;done) | decide) ?_
    exact KW.ret U U U U (rfl)
  | false=>
  have hb:=hb rfl
  refine KW.cF U U (by first | (simp;done) | decide) ?_
  refine KW.callN1 U U U U U (a2Scheme hW0.2 (by omega) s0.up) (fun v HM SM mM _ _ hv=>?_)
  obtain⟨x,cs,rfl,hk0,hR0⟩:=hv
  have hR:K_Scheme.R SM HM x cs:=On.R hR0
  clear hR0
  obtain⟨a1,c1,a2,c2,rfl,d1,d2⟩:=split2_Scheme hR
  have hB:=scheme_small hk0
  have hk:OkSch x.1 x.2.1 x.2.2.1 x.2.2.2.1 x.2.2.2.2:=hk0
  have hh1:=hk.h1
  have hh7:=hk.h7
  have hpr:=hk.mat.pr
  have hp2:=hpr.1
  have hp31:=hpr.2.1
  have hf:=fer hpr
  have hkc1:=hk.c1
  have hkc12:=hk.mat.c1
  have hol:=hk.len
  have hrl:=hk.mat.len
  obtain⟨k,ek⟩:∃k:Nat,x.2.2.2.1=((k+1:Nat):Int):=⟨x.2.2.2.1.toNat-1,by omega⟩
  have ekk:x.2.2.2.1.toNat=k+1:=by omega
  refine KW.callN1 U U U U U (a2GroupI (by omega) (by omega) hW1.2 (by omega) s1.up) (fun v HG SG mG _ _ hv=>?_)
  obtain⟨gr,hgr,ag,cg,rfl,hG⟩:=hv
  have hgl:gr.length≤7:=rises_len7 hh7 hgr
  have hGB:B_Int64S gr:=by show gr.length≤_;omega
  have hGs:=hG.sl.up (S':=SG) (H':=HG)
  refine KW.callN1 U U U U U (rowsHeldG hB hk0 hgr hGB d1.up d2.up hGs) (fun v HR SR mR _ _ hv=>?_)
  obtain⟨ar,cr,rfl,hRw⟩:=hv
  refine KW.cF U U (by first | (simp;done) | decide) ?_
  refine KW.call U U U U U (a2At hW1.2 (by omega) ⟨by omega,by omega⟩ s1.up) (fun v _ _ hv=>?_)
  obtain⟨sec,rfl,sa,sb⟩:=hv
  have e1:IntKind.i64.wrap (x.2.2.2.1-1)=((k:Nat):Int):=by rw[ek,wr (by omega) (by omega)];omega
  refine KW.callN1 U U U U U (a2ElementsI (q:=k) e1 (by omega) ⟨hp2,hp31⟩ hW1.2 (by omega) s1.up) (fun v HE SE mE _ _ hv=>?_)
  obtain⟨el,⟨eln,ele⟩,ae,ce,rfl,hE⟩:=hv
  have hEs:=hE.sl.up (S':=SE) (H':=HE)
  refine KW.callN1 U U U U U (sharesOf x.1 x.2.2.1 x.2.2.2.1 sec hB.2.1 hB.2.2.2.2 hk ⟨sa,by omega⟩ (by omega) ele d1.up d2.up hEs) (fun v HS SS mS _ _ hv=>?_)
  obtain⟨v',rfl,av,cv,rfl,hS⟩:=hv
  obtain⟨vs,evs⟩:∃vs,shares x.2.2.1 x.2.2.2.2 (sec :: el)=vs:=⟨_,rfl⟩
  have hvin:Elems x.2.2.1 vs:=by rw[← evs];exact shares_in hpr
  have hvl:vs.length=x.2.1.length:=by rw[← evs];unfold shares;rw[List.length_map];omega
  rw[evs] at hS ⊢
  have hSs:=hS.sl.up (S':=SS) (H':=HS)
  refine KW.tF U U (by first | (simp;done) | decide) ?_
  refine KW.cF U U (by simp[hvl]) ?_
  have hGs2:=hGs.up (S':=SS) (H':=HS)
  refine KW.ids (fun hlow hvar=>?_)
  refine KW.callN1 U U U U U (a2Held x.1 x.2.2.1 x.2.2.2.1 hB.2.1 hvl (by omega) d1.up hSs hGs2) (fun v HH SH mH _ _ hv=>?_)
  obtain⟨ah,ch,rfl,hH⟩:=hv
  have ehv:(heldV x.2.1 vs gr).length=(rowsG x.2.1 gr).length:=by unfold heldV;rw[List.length_map,rowsG_spec hk hgr]
  obtain⟨L,eL⟩:∃L,heldR x.2.1 x.2.2.2.2 (bitsOf gr)=L:=⟨_,rfl⟩
  have hLR:Rect x.2.2.1 (k+1) L:=by rw[← eL];exact held_rect hk ek
  have hLl:L.length=(rowsG x.2.1 gr).length:=by rw[← eL];unfold heldR rowsG;rw[selR_len]
  have hL20:L.length≤20:=by rw[← eL];exact held_len hk
  have hin0:Elems x.2.2.1 (heldV x.2.1 vs gr):=fun y hy=>by
    obtain⟨i,_,rfl⟩:=List.mem_map.1 hy
    exact elem_at hvin hp2 _
  obtain⟨hv0,ehv0⟩:∃hv0,heldV x.2.1 vs gr=hv0:=⟨_,rfl⟩
  rw[ehv0] at hH hin0 ehv ⊢
  refine KW.cF U U (by simp[ehv]) ?_
  refine KW.tst U U (fun j5=>?gp) (fun j5=>?gn)
  case gp=>
    have j5:(hv0.length:Int)>0:=j5
    refine KW.call U U U U U (a2At hW0.2 (by omega) ⟨by omega,by omega⟩ (s0.up (S':=SH) (H':=HH))) (fun v _ _ hv=>?_)
    obtain⟨tz,rfl,ta,tb⟩:=hv
    by_cases ez:tz=0
    · refine KW.cT U U (by simp[ez]) ?_
      refine KW.call U U U U U (a2At hW0.2 (by omega) ⟨by omega,by omega⟩ (s0.up (S':=SH) (H':=HH))) (fun v _ _ hv=>?_)
      obtain⟨z,rfl,za,zb⟩:=hv
      have hne:hv0≠[]:=fun h=>by rw[h] at j5;simp at j5
      obtain⟨o,c9,b,e9,l9,x9,m9,r9,z9,w9⟩:=Kn.Ml.ints hH hne
      simp only[Value.slice.injEq] at e9
      obtain⟨rfl,-,rfl⟩:=e9
      obtain⟨ty9,rw9,bc⟩:=b
      obtain rfl:rw9=true:=r9
      have z9:hv0.length≤bc.length:=z9
      have w9:∀(i:Nat) y,hv0[i]?=some y→bc[i]?=some (.int .i64 y):=w9
      have hSo:SH o∧HH.m o=_:=(inferInstance:On (New _ HH.n) HH SH HH).st o x9 |>.imp id (fun h=>h.trans m9)
      have tSH:On SS HS SH HH:=inferInstance
      have hnS:∀id,SS id→id≠o:=fun id h e=>by have:=hlow id h;have:=x9.1;omega
      refine KW.thaw o _ hSo.1 hSo.2 ?_
      refine KW.idx0 U U U U U U U U U (by omega) (by omega) ?_
      refine KW.st1 1 U U U U U U U U U U U U (by omega) ?_
      refine KW.freeze 1 rfl (fun A9 S9 hn9 hS9 st9 hm9 ho9 hno9 hlow9=>?_)
      obtain⟨held,ehd⟩:∃held,hv0.set 0 z=held:=⟨_,rfl⟩
      have ell:held.length=hv0.length:=by rw[← ehd,List.length_set]
      haveI oS:On SS HS S9 A9:=⟨fun id hid=>by have h5:=tSH.st id hid;have h6:=st9.st id ⟨h5.1,hnS id hid⟩;exact⟨h6.1,h6.2.trans h5.2⟩⟩
      have tMS:On SM HM SS HS:=inferInstance
      haveI oM:On SM HM S9 A9:=⟨fun id hid=>by have h5:=tMS.st id hid;have h6:=oS.st id h5.1;exact⟨h6.1,h6.2.trans h5.2⟩⟩
      have tL:On (Low H.n) H SS HS:=inferInstance
      haveI oL:On (Low H.n) H S9 A9:=⟨fun id hid=>by have h5:=tL.st id hid;have h6:=oS.st id h5.1;exact⟨h6.1,h6.2.trans h5.2⟩⟩
      have hin:Elems x.2.2.1 held:=fun y hy=>by
        rw[← ehd] at hy
        rcases List.mem_or_eq_of_mem_set hy with h | h
        · exact hin0 y h
        · rw[h];omega
      have hhs:KI.Sl S9 A9 (.slice (some ⟨o,0,some 1⟩) held.length ch) held:=(mlI_of (X:=S9) (H:=A9) (b:=⟨ty9,true,bc.set (0+(0:Int).toNat*1) (.int .i64 z)⟩) ((hS9 o).2 (.inr rfl)) hm9 rfl (by omega) (by simp only[List.length_set];omega) (fun i y hi=>by
        rw[← ehd,List.getElem?_set] at hi
        show(bc.set 0 (.int .i64 z))[i]?=_
        rw[List.getElem?_set]
        by_cases e:0=i
        · subst e
          rw[if_pos rfl] at hi ⊢
          rw[if_pos (by omega)] at hi ⊢
          cases hi
          rfl
        · rw[if_neg e] at hi ⊢
          exact w9 i y hi)).sl
      have hGs9:=hGs2.up (S':=S9) (H':=A9)
      rw[← ell] at ehv ⊢
      have hhd:B_Int64S held:=by show held.length≤_;omega
      have hcd:codeH x gr held=0:=codeH_of hk0 hgr (by omega) hin
      have hhi:∀v∈held,0≤v∧v<x.2.2.1:=fun v hv=>by have:=hin v hv;omega
      have hl2:held.length=L.length:=by omega
      refine KW.callE U U U U U (schemeOpens (x:=x) (g:=gr) hk0 hgr hB hGB d1.up d2.up hGs9) (fun _ _=>?_)
      refine KW.callE U U U U U (isConsistent (x:=x) (g:=gr) (held:=held) hB hcd hGB hhd d1.up d2.up hGs9 hhs) (fun _ _=>?_)
      refine KW.callN1 U U U U U (spec_CasesBySecret (x:=x) (gg:=gr) (held:=held) hB hGB hhd (On.R hR) (sl1' hGs9) (sl1' hhs)) (fun v H5 S5 m5 _ _ hv=>?_)
      obtain⟨a5,c5,rfl,h5⟩:=hv
      have hGs5:=hGs9.up (S':=S5) (H':=H5)
      have hhs5:=hhs.up (S':=S5) (H':=H5)
      refine KW.callN1 U U U U U (impl_CasesBySecret (x:=x) (g:=gr) (held:=held) hB hGB hhd (On.R hR) (sl1' hGs5) (sl1' hhs5)) (fun v H6 S6 m6 _ _ hv=>?_)
      obtain⟨a6,c6,rfl,h6⟩:=hv
      have hGs6:=hGs5.up (S':=S6) (H':=H6)
      have hhs6:=hhs5.up (S':=S6) (H':=H6)
      refine KW.tF U U (by first | (simp;done) | decide) ?_
      refine KW.tF U U (by first | (simp;done) | decide) ?_
      refine KW.cF U U (by simp) ?_
      by_cases hwant:r1_CasesBySecret x gr held=0
      case neg=>
        refine KW.cT U U (by simpa using hwant) ?_
        refine KW.retM1 U U U U (fun H1 g=>rfl)
      refine KW.cF U U (by simpa using hwant) ?_
      have er0:r0_CasesBySecret x gr held=csL x.2.2.1 k L held x.2.2.1.toNat:=by unfold r0_CasesBySecret;rw[if_pos hwant,ekk,eL];rfl
      rw[er0] at h6 ⊢
      have hcl:(csL x.2.2.1 k L held x.2.2.1.toNat).length=x.2.2.1.toNat:=csL_len
      have h6s:=(ml1 h6).sl.up (S':=S6) (H':=H6)
      have hat:∀(i:Nat) y,(csL x.2.2.1 k L held x.2.2.1.toNat)[i]?=some y→y=csAt x.2.2.1 k L held i∧i<x.2.2.1.toNat:=fun i y hy=>by
        have hi:=(List.getElem?_eq_some_iff.1 hy).1
        rw[hcl] at hi
        unfold csL at hy
        rw[List.getElem?_map,List.getElem?_range hi] at hy
        cases hy
        exact⟨rfl,hi⟩
      have hpos:=fun(i:Nat) (hi:(i:Int)<x.2.2.1)=>csAt_pos hpr hLR hl2 hhi hi
      refine KW.cF U U (by rw[hcl];simp;omega) ?_
      have hop:opensF x gr=(comb x.2.2.1 L (unitL (k+1))).isSome:=by unfold opensF;rw[ekk,eL]
      have hcs:consF x gr held=decide (k+1∉(ech x.2.2.1 (augW L held) (k+1+1)).2):=by unfold consF;rw[ekk,eL]
      obtain⟨bo,ebo⟩:∃bo,opensF x gr=bo:=⟨_,rfl⟩
      obtain⟨bc,ebc⟩:∃bc,consF x gr held=bc:=⟨_,rfl⟩
      rw[ebo] at hop ⊢
      rw[ebc] at hcs ⊢
      refine KW.lp U U (fun i:Nat=>[(5,.pointer (some ⟨HM.n,0,some 0⟩)),(6,.slice ag gr.length cg),(12,.slice (some ⟨o,0,some 1⟩) held.length ch),(13,.bool bo),(15,.bool bc),(19,.slice a6 (csL x.2.2.1 k L held x.2.2.1.toNat).length c6),(21,.int .i64 (cntC x.2.2.1 k L held i:Nat)),(22,.int .i64 i)]) (fun i=>i≤x.2.2.1.toNat) (fun i=>x.2.2.1.toNat-i) (0) (Nat.zero_le _) ⟨rfl,rfl,rfl,rfl,rfl,rfl,rfl,rfl,trivial⟩ (fun i hi bE n=>?_)
      refine KW.cnd U U (fun j1=>?_) (fun j1=>?_)
      · have j1:(i:Int)<((csL x.2.2.1 k L held x.2.2.1.toNat).length:Int):=j1
        rw[hcl] at j1
        have hip:(i:Int)<x.2.2.1:=by omega
        have hle:=cntC_le (p:=x.2.2.1) (k:=k) (L:=L) (held:=held) i
        have hj1:(i:Int)<((csL x.2.2.1 k L held x.2.2.1.toNat).length:Int):=by rw[hcl];exact j1
        have hP:=hpos i hip
        obtain⟨ca,eca⟩:∃ca,csAt x.2.2.1 k L held i=ca:=⟨_,rfl⟩
        have hload:∀y,(csL x.2.2.1 k L held x.2.2.1.toNat)[i]?=some y→y=ca:=fun y hy=>(hat i y hy).1.trans eca
        rw[eca] at hP
        have hco:=completion (S:=S6) (H0:=H6) (x:=x) (g:=gr) (held:=held) (s:=(i:Int)) hB hcd ⟨by omega,hip⟩ hGB hhd d1.up d2.up hGs6 hhs6
        rw[show x.2.2.2.1.toNat-1=k by omega,eL] at hco
        have hci:=compl_iff (k:=k) (s:=(i:Int)) hf hLR hl2 hhi ⟨by omega,hip⟩
        refine KW.getI h6s U U U U U U U U U U U U U U U U (by omega) (hj1) (fun y hy=>?_)
        have hy:(csL x.2.2.1 k L held x.2.2.1.toNat)[i]?=some y:=hy
        obtain rfl:=hload y hy
        rcases hP with⟨hs,ecp,epos⟩ | ⟨hs,ez⟩
        case' inl=>
          have ecn:cntC x.2.2.1 k L held (i+1)=cntC x.2.2.1 k L held i+1:=by simp only[cntC];rw[tv_true hs];rfl
          refine KW.cT U U (by simpa using epos) ?_
          have ew:IntKind.i64.wrap ((cntC x.2.2.1 k L held i:Nat)+1)=((cntC x.2.2.1 k L held (i+1):Nat):Int):=by rw[ecn,wr (by omega) (by omega)];omega
          have e21:=congrArg (Value.int .i64) ew
        case' inr=>
          have ecn:cntC x.2.2.1 k L held (i+1)=cntC x.2.2.1 k L held i:=by simp only[cntC];rw[tv_false hs];rfl
          refine KW.cF U U (by simp[ez]) ?_
          have e21:Value.int .i64 ((cntC x.2.2.1 k L held i:Nat):Int)=Value.int .i64 ((cntC x.2.2.1 k L held (i+1):Nat):Int):=by rw[ecn]
        all_goals
          cases bo
          case' false=>
            refine KW.tT U U (by first | (simp;done) | decide) ?_
            refine KW.getI h6s U U U U U U U U U U U U U U U U (by omega) (hj1) (fun y2 hy2=>?_)
            have hy2:(csL x.2.2.1 k L held x.2.2.1.toNat)[i]?=some y2:=hy2
            obtain rfl:=hload y2 hy2
            refine KW.getI h6s U U U U U U U U U U U U U U U U (by omega) (by omega) (fun y3 hy3=>?_)
            have hy3:(csL x.2.2.1 k L held x.2.2.1.toNat)[0]?=some y3:=hy3
            have hnone:comb x.2.2.1 L (unitL (k+1))=none:=by cases q:comb x.2.2.1 L (unitL (k+1)) with | none=>rfl | some _=>rw[q] at hop;cases hop
            have e3:y3=y2:=by
              have h9:=(hat 0 y3 hy3).1
              rw[h9]
              rcases hpos 0 (by omega) with⟨g1,g2,_⟩ | ⟨g1,g2⟩
              · first
                  | (rw[g2,ecp])
                  | exact absurd (sec_any hf hLR hnone g1 ⟨by omega,hip⟩) hs
              · first
                  | (rw[g2,ez])
                  | exact absurd (sec_any hf hLR hnone hs ⟨by omega,by omega⟩) g1
            subst e3
            refine KW.cF U U (by simp) ?_
          case' true=>
            refine KW.tF U U (by first | (simp;done) | decide) ?_
            refine KW.cF U U (by first | (simp;done) | decide) ?_
        all_goals
          refine KW.callN1 U U U U U (hco) (fun v HC SC mC _ _ hv=>?_)
          rcases hv with⟨hn,rfl⟩ | ⟨hn,aq,cq,rfl,hq⟩
          · have hns:¬SecOk x.2.2.1 k L held (i:Int):=fun q=>(hci.2 q) hn
            first
              | exact absurd hs hns
              | (skip
                 refine KW.getI ((h6s.up (S':=SC) (H':=HC))) U U U U U U U U U U U U U U U U (by omega) (hj1) (fun y4 hy4=>?_)
                 have hy4:(csL x.2.2.1 k L held x.2.2.1.toNat)[i]?=some y4:=hy4
                 obtain rfl:=hload y4 hy4
                 refine KW.cF U U (by simp[ez]) ?_
                 refine KW.cT U U (by first | (simp;done) | decide) ?_
                 refine KW.nxt U U (fun H' g=>⟨i+1,by omega,by first | omega | (simp only;omega),⟨rfl,rfl,rfl,rfl,rfl,rfl,e21,congrArg (Value.int .i64) (inc64 (by omega)),trivial⟩,g.back⟩)
                 skip)
          · have hss:SecOk x.2.2.1 k L held (i:Int):=hci.1 hn
            first
              | exact absurd hss hs
              | (skip
                 refine KW.getI ((h6s.up (S':=SC) (H':=HC))) U U U U U U U U U U U U U U U U (by omega) (hj1) (fun y4 hy4=>?_)
                 have hy4:(csL x.2.2.1 k L held x.2.2.1.toNat)[i]?=some y4:=hy4
                 obtain rfl:=hload y4 hy4
                 refine KW.cF U U (by simp;omega) ?_
                 refine KW.cF U U (by first | (simp;done) | decide) ?_
                 obtain⟨z1,z2,z3⟩:=coY_ok hpr hLR hl2 hhi ⟨by omega,hip⟩ hn
                 obtain⟨Y,eY⟩:∃Y,(coY x.2.2.1 k L held (i:Int)).drop 1=Y:=⟨_,rfl⟩
                 rw[eY] at hq z1 z2 z3 ⊢
                 have hq1:=hq.up (S':=SC) (H':=HC)
                 refine KW.callN1 U U U U U (sharesOf x.1 x.2.2.1 x.2.2.2.1 (i:Int) hB.2.1 hB.2.2.2.2 hk ⟨by omega,by omega⟩ (by omega) z2 d1.up d2.up hq1) (fun v HT ST mT _ _ hv=>?_)
                 obtain⟨vt,rfl,at_,ct,rfl,hT⟩:=hv
                 have hTl:(shares x.2.2.1 x.2.2.2.2 ((i:Int) :: Y)).length=x.2.1.length:=by unfold shares;rw[List.length_map];omega
                 have hTs:=hT.sl.up (S':=ST) (H':=HT)
                 refine KW.tF U U (by first | (simp;done) | decide) ?_
                 refine KW.callN1 U U U U U (a2Held x.1 x.2.2.1 x.2.2.2.1 hB.2.1 hTl (by omega) d1.up hTs ((hGs6.up (S':=SC) (H':=HC)).up (S':=ST) (H':=HT))) (fun v HU SU mU _ _ hv=>?_)
                 obtain⟨au,cu,rfl,hU⟩:=hv
                 have hbk:=held_back (x:=x) (g:=gr) (held:=held) (all:=(i:Int) :: Y) hk0 hgr ek (by simp[z1]) (by rw[eL];exact hl2) hhi (by rw[eL];exact z3)
                 rw[hbk] at hU ⊢
                 have hUs:=hU.sl.up (S':=SU) (H':=HU)
                 refine KW.callE U U U U U (a2Same (by omega) hUs (((hhs6.up (S':=SC) (H':=HC)).up (S':=ST) (H':=HT)).up (S':=SU) (H':=HU))) (fun _ _=>?_)
                 rw[decide_eq_true (rfl:held=held)]
                 refine KW.cF U U (by first | (simp;done) | decide) ?_
                 refine KW.nxt U U (fun H' g=>⟨i+1,by omega,by first | omega | (simp only;omega),⟨rfl,rfl,rfl,rfl,rfl,rfl,e21,congrArg (Value.int .i64) (inc64 (by omega)),trivial⟩,g.back⟩)
                 skip)
      · have j1:¬(i:Int)<((csL x.2.2.1 k L held x.2.2.1.toNat).length:Int):=j1
        rw[hcl] at j1
        obtain rfl:i=x.2.2.1.toNat:=by omega
        have hfc:=fit_cons (k:=k+1) hf hLR hl2 hhi
        cases bc with
        | false=>
          refine KW.cT U U (by first | (simp;done) | decide) ?_
          have hno:∀i:Nat,i<x.2.2.1.toNat→¬SecOk x.2.2.1 k L held (i:Int):=fun i _ q=>by
            obtain⟨y,y1,y2,_⟩:=q
            have:=hfc.2 ⟨y,y1,y2⟩
            rw[decide_eq_true this] at hcs
            cases hcs
          rw[cntC_none _ hno]
          refine KW.retM1 U U U U (fun H1 g=>rfl)
        | true=>
          refine KW.cF U U (by first | (simp;done) | decide) ?_
          obtain⟨y,y1,y2⟩:=hfc.1 (of_decide_eq_true hcs.symm)
          have hys:SecOk x.2.2.1 k L held (y.getD 0 0):=⟨y,y1,y2,rfl⟩
          have hyb:=sec_in (by omega) hys
          cases bo with
          | true=>
            obtain⟨ccs,hcc⟩:∃ccs,comb x.2.2.1 L (unitL (k+1))=some ccs:=by cases q:comb x.2.2.1 L (unitL (k+1)) with | none=>rw[q] at hop;cases hop | some c=>exact⟨c,rfl⟩
            have hone:=cntC_one (s:=(y.getD 0 0).toNat) (by rw[show(((y.getD 0 0).toNat:Nat):Int)=y.getD 0 0 by omega];exact hys) (fun j hj=>by have:=sec_one hf hLR hl2 hcc hj hys;omega) x.2.2.1.toNat
            rw[if_pos (by omega)] at hone
            rw[hone]
            refine KW.tT U U (by first | (simp;done) | decide) ?_
            refine KW.tT U U (by first | (simp;done) | decide) ?_
            repeat first | refine KW.tT U U U ?_ | refine KW.tF U U U ?_
            refine KW.retM1 U U U U (fun H1 g=>rfl)
          | false=>
            have hnone:comb x.2.2.1 L (unitL (k+1))=none:=by cases q:comb x.2.2.1 L (unitL (k+1)) with | none=>rfl | some _=>rw[q] at hop;cases hop
            have hall:=cntC_all x.2.2.1.toNat (fun j hj=>sec_any hf hLR hnone hys (s':=(j:Int)) ⟨by omega,by omega⟩)
            rw[hall]
            refine KW.tF U U (by first | (simp;done) | decide) ?_
            refine KW.tF U U (by first | (simp;done) | decide) ?_
            refine KW.tT U U (by first | (simp;done) | decide) ?_
            refine KW.retM1 U U U U (fun H1 g=>by first | (show Value.bool (((x.2.2.1.toNat:Nat):Int)==x.2.2.1)=_;simp;omega) | (show Value.bool (decide (((x.2.2.1.toNat:Nat):Int)=x.2.2.1))=_;simp;omega))
    · refine KW.cF U U (by simpa using ez) ?_
      obtain⟨held,ehd⟩:∃held,hv0=held:=⟨_,rfl⟩
      rw[ehd] at hH hin0 ehv ⊢
      have hin:=hin0
      have hhs:=hH.sl.up (S':=SH) (H':=HH)
      have hGs9:=hGs2.up (S':=SH) (H':=HH)
      have hhd:B_Int64S held:=by show held.length≤_;omega
      have hcd:codeH x gr held=0:=codeH_of hk0 hgr (by omega) hin
      have hhi:∀v∈held,0≤v∧v<x.2.2.1:=fun v hv=>by have:=hin v hv;omega
      have hl2:held.length=L.length:=by omega
      refine KW.callE U U U U U (schemeOpens (x:=x) (g:=gr) hk0 hgr hB hGB d1.up d2.up hGs9) (fun _ _=>?_)
      refine KW.callE U U U U U (isConsistent (x:=x) (g:=gr) (held:=held) hB hcd hGB hhd d1.up d2.up hGs9 hhs) (fun _ _=>?_)
      refine KW.callN1 U U U U U (spec_CasesBySecret (x:=x) (gg:=gr) (held:=held) hB hGB hhd (On.R hR) (sl1' hGs9) (sl1' hhs)) (fun v H5 S5 m5 _ _ hv=>?_)
      obtain⟨a5,c5,rfl,h5⟩:=hv
      have hGs5:=hGs9.up (S':=S5) (H':=H5)
      have hhs5:=hhs.up (S':=S5) (H':=H5)
      refine KW.callN1 U U U U U (impl_CasesBySecret (x:=x) (g:=gr) (held:=held) hB hGB hhd (On.R hR) (sl1' hGs5) (sl1' hhs5)) (fun v H6 S6 m6 _ _ hv=>?_)
      obtain⟨a6,c6,rfl,h6⟩:=hv
      have hGs6:=hGs5.up (S':=S6) (H':=H6)
      have hhs6:=hhs5.up (S':=S6) (H':=H6)
      refine KW.tF U U (by first | (simp;done) | decide) ?_
      refine KW.tF U U (by first | (simp;done) | decide) ?_
      refine KW.cF U U (by simp) ?_
      by_cases hwant:r1_CasesBySecret x gr held=0
      case neg=>
        refine KW.cT U U (by simpa using hwant) ?_
        refine KW.retM1 U U U U (fun H1 g=>rfl)
      refine KW.cF U U (by simpa using hwant) ?_
      have er0:r0_CasesBySecret x gr held=csL x.2.2.1 k L held x.2.2.1.toNat:=by unfold r0_CasesBySecret;rw[if_pos hwant,ekk,eL];rfl
      rw[er0] at h6 ⊢
      have hcl:(csL x.2.2.1 k L held x.2.2.1.toNat).length=x.2.2.1.toNat:=csL_len
      have h6s:=(ml1 h6).sl.up (S':=S6) (H':=H6)
      have hat:∀(i:Nat) y,(csL x.2.2.1 k L held x.2.2.1.toNat)[i]?=some y→y=csAt x.2.2.1 k L held i∧i<x.2.2.1.toNat:=fun i y hy=>by
        have hi:=(List.getElem?_eq_some_iff.1 hy).1
        rw[hcl] at hi
        unfold csL at hy
        rw[List.getElem?_map,List.getElem?_range hi] at hy
        cases hy
        exact⟨rfl,hi⟩
      have hpos:=fun(i:Nat) (hi:(i:Int)<x.2.2.1)=>csAt_pos hpr hLR hl2 hhi hi
      refine KW.cF U U (by rw[hcl];simp;omega) ?_
      have hop:opensF x gr=(comb x.2.2.1 L (unitL (k+1))).isSome:=by unfold opensF;rw[ekk,eL]
      have hcs:consF x gr held=decide (k+1∉(ech x.2.2.1 (augW L held) (k+1+1)).2):=by unfold consF;rw[ekk,eL]
      obtain⟨bo,ebo⟩:∃bo,opensF x gr=bo:=⟨_,rfl⟩
      obtain⟨bc,ebc⟩:∃bc,consF x gr held=bc:=⟨_,rfl⟩
      rw[ebo] at hop ⊢
      rw[ebc] at hcs ⊢
      refine KW.lp U U (fun i:Nat=>[(5,.pointer (some ⟨HM.n,0,some 0⟩)),(6,.slice ag gr.length cg),(12,.slice ah held.length ch),(13,.bool bo),(15,.bool bc),(19,.slice a6 (csL x.2.2.1 k L held x.2.2.1.toNat).length c6),(21,.int .i64 (cntC x.2.2.1 k L held i:Nat)),(22,.int .i64 i)]) (fun i=>i≤x.2.2.1.toNat) (fun i=>x.2.2.1.toNat-i) (0) (Nat.zero_le _) ⟨rfl,rfl,rfl,rfl,rfl,rfl,rfl,rfl,trivial⟩ (fun i hi bE n=>?_)
      refine KW.cnd U U (fun j1=>?_) (fun j1=>?_)
      · have j1:(i:Int)<((csL x.2.2.1 k L held x.2.2.1.toNat).length:Int):=j1
        rw[hcl] at j1
        have hip:(i:Int)<x.2.2.1:=by omega
        have hle:=cntC_le (p:=x.2.2.1) (k:=k) (L:=L) (held:=held) i
        have hj1:(i:Int)<((csL x.2.2.1 k L held x.2.2.1.toNat).length:Int):=by rw[hcl];exact j1
        have hP:=hpos i hip
        obtain⟨ca,eca⟩:∃ca,csAt x.2.2.1 k L held i=ca:=⟨_,rfl⟩
        have hload:∀y,(csL x.2.2.1 k L held x.2.2.1.toNat)[i]?=some y→y=ca:=fun y hy=>(hat i y hy).1.trans eca
        rw[eca] at hP
        have hco:=completion (S:=S6) (H0:=H6) (x:=x) (g:=gr) (held:=held) (s:=(i:Int)) hB hcd ⟨by omega,hip⟩ hGB hhd d1.up d2.up hGs6 hhs6
        rw[show x.2.2.2.1.toNat-1=k by omega,eL] at hco
        have hci:=compl_iff (k:=k) (s:=(i:Int)) hf hLR hl2 hhi ⟨by omega,hip⟩
        refine KW.getI h6s U U U U U U U U U U U U U U U U (by omega) (hj1) (fun y hy=>?_)
        have hy:(csL x.2.2.1 k L held x.2.2.1.toNat)[i]?=some y:=hy
        obtain rfl:=hload y hy
        rcases hP with⟨hs,ecp,epos⟩ | ⟨hs,ez⟩
        case' inl=>
          have ecn:cntC x.2.2.1 k L held (i+1)=cntC x.2.2.1 k L held i+1:=by simp only[cntC];rw[tv_true hs];rfl
          refine KW.cT U U (by simpa using epos) ?_
          have ew:IntKind.i64.wrap ((cntC x.2.2.1 k L held i:Nat)+1)=((cntC x.2.2.1 k L held (i+1):Nat):Int):=by rw[ecn,wr (by omega) (by omega)];omega
          have e21:=congrArg (Value.int .i64) ew
        case' inr=>
          have ecn:cntC x.2.2.1 k L held (i+1)=cntC x.2.2.1 k L held i:=by simp only[cntC];rw[tv_false hs];rfl
          refine KW.cF U U (by simp[ez]) ?_
          have e21:Value.int .i64 ((cntC x.2.2.1 k L held i:Nat):Int)=Value.int .i64 ((cntC x.2.2.1 k L held (i+1):Nat):Int):=by rw[ecn]
        all_goals
          cases bo
          case' false=>
            refine KW.tT U U (by first | (simp;done) | decide) ?_
            refine KW.getI h6s U U U U U U U U U U U U U U U U (by omega) (hj1) (fun y2 hy2=>?_)
            have hy2:(csL x.2.2.1 k L held x.2.2.1.toNat)[i]?=some y2:=hy2
            obtain rfl:=hload y2 hy2
            refine KW.getI h6s U U U U U U U U U U U U U U U U (by omega) (by omega) (fun y3 hy3=>?_)
            have hy3:(csL x.2.2.1 k L held x.2.2.1.toNat)[0]?=some y3:=hy3
            have hnone:comb x.2.2.1 L (unitL (k+1))=none:=by cases q:comb x.2.2.1 L (unitL (k+1)) with | none=>rfl | some _=>rw[q] at hop;cases hop
            have e3:y3=y2:=by
              have h9:=(hat 0 y3 hy3).1
              rw[h9]
              rcases hpos 0 (by omega) with⟨g1,g2,_⟩ | ⟨g1,g2⟩
              · first
                  | (rw[g2,ecp])
                  | exact absurd (sec_any hf hLR hnone g1 ⟨by omega,hip⟩) hs
              · first
                  | (rw[g2,ez])
                  | exact absurd (sec_any hf hLR hnone hs ⟨by omega,by omega⟩) g1
            subst e3
            refine KW.cF U U (by simp) ?_
          case' true=>
            refine KW.tF U U (by first | (simp;done) | decide) ?_
            refine KW.cF U U (by first | (simp;done) | decide) ?_
        all_goals
          refine KW.callN1 U U U U U (hco) (fun v HC SC mC _ _ hv=>?_)
          rcases hv with⟨hn,rfl⟩ | ⟨hn,aq,cq,rfl,hq⟩
          · have hns:¬SecOk x.2.2.1 k L held (i:Int):=fun q=>(hci.2 q) hn
            first
              | exact absurd hs hns
              | (skip
                 refine KW.getI ((h6s.up (S':=SC) (H':=HC))) U U U U U U U U U U U U U U U U (by omega) (hj1) (fun y4 hy4=>?_)
                 have hy4:(csL x.2.2.1 k L held x.2.2.1.toNat)[i]?=some y4:=hy4
                 obtain rfl:=hload y4 hy4
                 refine KW.cF U U (by simp[ez]) ?_
                 refine KW.cT U U (by first | (simp;done) | decide) ?_
                 refine KW.nxt U U (fun H' g=>⟨i+1,by omega,by first | omega | (simp only;omega),⟨rfl,rfl,rfl,rfl,rfl,rfl,e21,congrArg (Value.int .i64) (inc64 (by omega)),trivial⟩,g.back⟩)
                 skip)
          · have hss:SecOk x.2.2.1 k L held (i:Int):=hci.1 hn
            first
              | exact absurd hss hs
              | (skip
                 refine KW.getI ((h6s.up (S':=SC) (H':=HC))) U U U U U U U U U U U U U U U U (by omega) (hj1) (fun y4 hy4=>?_)
                 have hy4:(csL x.2.2.1 k L held x.2.2.1.toNat)[i]?=some y4:=hy4
                 obtain rfl:=hload y4 hy4
                 refine KW.cF U U (by simp;omega) ?_
                 refine KW.cF U U (by first | (simp;done) | decide) ?_
                 obtain⟨z1,z2,z3⟩:=coY_ok hpr hLR hl2 hhi ⟨by omega,hip⟩ hn
                 obtain⟨Y,eY⟩:∃Y,(coY x.2.2.1 k L held (i:Int)).drop 1=Y:=⟨_,rfl⟩
                 rw[eY] at hq z1 z2 z3 ⊢
                 have hq1:=hq.up (S':=SC) (H':=HC)
                 refine KW.callN1 U U U U U (sharesOf x.1 x.2.2.1 x.2.2.2.1 (i:Int) hB.2.1 hB.2.2.2.2 hk ⟨by omega,by omega⟩ (by omega) z2 d1.up d2.up hq1) (fun v HT ST mT _ _ hv=>?_)
                 obtain⟨vt,rfl,at_,ct,rfl,hT⟩:=hv
                 have hTl:(shares x.2.2.1 x.2.2.2.2 ((i:Int) :: Y)).length=x.2.1.length:=by unfold shares;rw[List.length_map];omega
                 have hTs:=hT.sl.up (S':=ST) (H':=HT)
                 refine KW.tF U U (by first | (simp;done) | decide) ?_
                 refine KW.callN1 U U U U U (a2Held x.1 x.2.2.1 x.2.2.2.1 hB.2.1 hTl (by omega) d1.up hTs ((hGs6.up (S':=SC) (H':=HC)).up (S':=ST) (H':=HT))) (fun v HU SU mU _ _ hv=>?_)
                 obtain⟨au,cu,rfl,hU⟩:=hv
                 have hbk:=held_back (x:=x) (g:=gr) (held:=held) (all:=(i:Int) :: Y) hk0 hgr ek (by simp[z1]) (by rw[eL];exact hl2) hhi (by rw[eL];exact z3)
                 rw[hbk] at hU ⊢
                 have hUs:=hU.sl.up (S':=SU) (H':=HU)
                 refine KW.callE U U U U U (a2Same (by omega) hUs (((hhs6.up (S':=SC) (H':=HC)).up (S':=ST) (H':=HT)).up (S':=SU) (H':=HU))) (fun _ _=>?_)
                 rw[decide_eq_true (rfl:held=held)]
                 refine KW.cF U U (by first | (simp;done) | decide) ?_
                 refine KW.nxt U U (fun H' g=>⟨i+1,by omega,by first | omega | (simp only;omega),⟨rfl,rfl,rfl,rfl,rfl,rfl,e21,congrArg (Value.int .i64) (inc64 (by omega)),trivial⟩,g.back⟩)
                 skip)
      · have j1:¬(i:Int)<((csL x.2.2.1 k L held x.2.2.1.toNat).length:Int):=j1
        rw[hcl] at j1
        obtain rfl:i=x.2.2.1.toNat:=by omega
        have hfc:=fit_cons (k:=k+1) hf hLR hl2 hhi
        cases bc with
        | false=>
          refine KW.cT U U (by first | (simp;done) | decide) ?_
          have hno:∀i:Nat,i<x.2.2.1.toNat→¬SecOk x.2.2.1 k L held (i:Int):=fun i _ q=>by
            obtain⟨y,y1,y2,_⟩:=q
            have:=hfc.2 ⟨y,y1,y2⟩
            rw[decide_eq_true this] at hcs
            cases hcs
          rw[cntC_none _ hno]
          refine KW.retM1 U U U U (fun H1 g=>rfl)
        | true=>
          refine KW.cF U U (by first | (simp;done) | decide) ?_
          obtain⟨y,y1,y2⟩:=hfc.1 (of_decide_eq_true hcs.symm)
          have hys:SecOk x.2.2.1 k L held (y.getD 0 0):=⟨y,y1,y2,rfl⟩
          have hyb:=sec_in (by omega) hys
          cases bo with
          | true=>
            obtain⟨ccs,hcc⟩:∃ccs,comb x.2.2.1 L (unitL (k+1))=some ccs:=by cases q:comb x.2.2.1 L (unitL (k+1)) with | none=>rw[q] at hop;cases hop | some c=>exact⟨c,rfl⟩
            have hone:=cntC_one (s:=(y.getD 0 0).toNat) (by rw[show(((y.getD 0 0).toNat:Nat):Int)=y.getD 0 0 by omega];exact hys) (fun j hj=>by have:=sec_one hf hLR hl2 hcc hj hys;omega) x.2.2.1.toNat
            rw[if_pos (by omega)] at hone
            rw[hone]
            refine KW.tT U U (by first | (simp;done) | decide) ?_
            refine KW.tT U U (by first | (simp;done) | decide) ?_
            repeat first | refine KW.tT U U U ?_ | refine KW.tF U U U ?_
            refine KW.retM1 U U U U (fun H1 g=>rfl)
          | false=>
            have hnone:comb x.2.2.1 L (unitL (k+1))=none:=by cases q:comb x.2.2.1 L (unitL (k+1)) with | none=>rfl | some _=>rw[q] at hop;cases hop
            have hall:=cntC_all x.2.2.1.toNat (fun j hj=>sec_any hf hLR hnone hys (s':=(j:Int)) ⟨by omega,by omega⟩)
            rw[hall]
            refine KW.tF U U (by first | (simp;done) | decide) ?_
            refine KW.tF U U (by first | (simp;done) | decide) ?_
            refine KW.tT U U (by first | (simp;done) | decide) ?_
            refine KW.retM1 U U U U (fun H1 g=>by first | (show Value.bool (((x.2.2.1.toNat:Nat):Int)==x.2.2.1)=_;simp;omega) | (show Value.bool (decide (((x.2.2.1.toNat:Nat):Int)=x.2.2.1))=_;simp;omega))
  case gn=>
    have j5:¬(hv0.length:Int)>0:=j5
    refine KW.cF U U (by first | (simp;done) | decide) ?_
    obtain⟨held,ehd⟩:∃held,hv0=held:=⟨_,rfl⟩
    rw[ehd] at hH hin0 ehv ⊢
    have hin:=hin0
    have hhs:=hH.sl.up (S':=SH) (H':=HH)
    have hGs9:=hGs2.up (S':=SH) (H':=HH)
    have hhd:B_Int64S held:=by show held.length≤_;omega
    have hcd:codeH x gr held=0:=codeH_of hk0 hgr (by omega) hin
    have hhi:∀v∈held,0≤v∧v<x.2.2.1:=fun v hv=>by have:=hin v hv;omega
    have hl2:held.length=L.length:=by omega
    refine KW.callE U U U U U (schemeOpens (x:=x) (g:=gr) hk0 hgr hB hGB d1.up d2.up hGs9) (fun _ _=>?_)
    refine KW.callE U U U U U (isConsistent (x:=x) (g:=gr) (held:=held) hB hcd hGB hhd d1.up d2.up hGs9 hhs) (fun _ _=>?_)
    refine KW.callN1 U U U U U (spec_CasesBySecret (x:=x) (gg:=gr) (held:=held) hB hGB hhd (On.R hR) (sl1' hGs9) (sl1' hhs)) (fun v H5 S5 m5 _ _ hv=>?_)
    obtain⟨a5,c5,rfl,h5⟩:=hv
    have hGs5:=hGs9.up (S':=S5) (H':=H5)
    have hhs5:=hhs.up (S':=S5) (H':=H5)
    refine KW.callN1 U U U U U (impl_CasesBySecret (x:=x) (g:=gr) (held:=held) hB hGB hhd (On.R hR) (sl1' hGs5) (sl1' hhs5)) (fun v H6 S6 m6 _ _ hv=>?_)
    obtain⟨a6,c6,rfl,h6⟩:=hv
    have hGs6:=hGs5.up (S':=S6) (H':=H6)
    have hhs6:=hhs5.up (S':=S6) (H':=H6)
    refine KW.tF U U (by first | (simp;done) | decide) ?_
    refine KW.tF U U (by first | (simp;done) | decide) ?_
    refine KW.cF U U (by simp) ?_
    by_cases hwant:r1_CasesBySecret x gr held=0
    case neg=>
      refine KW.cT U U (by simpa using hwant) ?_
      refine KW.retM1 U U U U (fun H1 g=>rfl)
    refine KW.cF U U (by simpa using hwant) ?_
    have er0:r0_CasesBySecret x gr held=csL x.2.2.1 k L held x.2.2.1.toNat:=by unfold r0_CasesBySecret;rw[if_pos hwant,ekk,eL];rfl
    rw[er0] at h6 ⊢
    have hcl:(csL x.2.2.1 k L held x.2.2.1.toNat).length=x.2.2.1.toNat:=csL_len
    have h6s:=(ml1 h6).sl.up (S':=S6) (H':=H6)
    have hat:∀(i:Nat) y,(csL x.2.2.1 k L held x.2.2.1.toNat)[i]?=some y→y=csAt x.2.2.1 k L held i∧i<x.2.2.1.toNat:=fun i y hy=>by
      have hi:=(List.getElem?_eq_some_iff.1 hy).1
      rw[hcl] at hi
      unfold csL at hy
      rw[List.getElem?_map,List.getElem?_range hi] at hy
      cases hy
      exact⟨rfl,hi⟩
    have hpos:=fun(i:Nat) (hi:(i:Int)<x.2.2.1)=>csAt_pos hpr hLR hl2 hhi hi
    refine KW.cF U U (by rw[hcl];simp;omega) ?_
    have hop:opensF x gr=(comb x.2.2.1 L (unitL (k+1))).isSome:=by unfold opensF;rw[ekk,eL]
    have hcs:consF x gr held=decide (k+1∉(ech x.2.2.1 (augW L held) (k+1+1)).2):=by unfold consF;rw[ekk,eL]
    obtain⟨bo,ebo⟩:∃bo,opensF x gr=bo:=⟨_,rfl⟩
    obtain⟨bc,ebc⟩:∃bc,consF x gr held=bc:=⟨_,rfl⟩
    rw[ebo] at hop ⊢
    rw[ebc] at hcs ⊢
    refine KW.lp U U (fun i:Nat=>[(5,.pointer (some ⟨HM.n,0,some 0⟩)),(6,.slice ag gr.length cg),(12,.slice ah held.length ch),(13,.bool bo),(15,.bool bc),(19,.slice a6 (csL x.2.2.1 k L held x.2.2.1.toNat).length c6),(21,.int .i64 (cntC x.2.2.1 k L held i:Nat)),(22,.int .i64 i)]) (fun i=>i≤x.2.2.1.toNat) (fun i=>x.2.2.1.toNat-i) (0) (Nat.zero_le _) ⟨rfl,rfl,rfl,rfl,rfl,rfl,rfl,rfl,trivial⟩ (fun i hi bE n=>?_)
    refine KW.cnd U U (fun j1=>?_) (fun j1=>?_)
    · have j1:(i:Int)<((csL x.2.2.1 k L held x.2.2.1.toNat).length:Int):=j1
      rw[hcl] at j1
      have hip:(i:Int)<x.2.2.1:=by omega
      have hle:=cntC_le (p:=x.2.2.1) (k:=k) (L:=L) (held:=held) i
      have hj1:(i:Int)<((csL x.2.2.1 k L held x.2.2.1.toNat).length:Int):=by rw[hcl];exact j1
      have hP:=hpos i hip
      obtain⟨ca,eca⟩:∃ca,csAt x.2.2.1 k L held i=ca:=⟨_,rfl⟩
      have hload:∀y,(csL x.2.2.1 k L held x.2.2.1.toNat)[i]?=some y→y=ca:=fun y hy=>(hat i y hy).1.trans eca
      rw[eca] at hP
      have hco:=completion (S:=S6) (H0:=H6) (x:=x) (g:=gr) (held:=held) (s:=(i:Int)) hB hcd ⟨by omega,hip⟩ hGB hhd d1.up d2.up hGs6 hhs6
      rw[show x.2.2.2.1.toNat-1=k by omega,eL] at hco
      have hci:=compl_iff (k:=k) (s:=(i:Int)) hf hLR hl2 hhi ⟨by omega,hip⟩
      refine KW.getI h6s U U U U U U U U U U U U U U U U (by omega) (hj1) (fun y hy=>?_)
      have hy:(csL x.2.2.1 k L held x.2.2.1.toNat)[i]?=some y:=hy
      obtain rfl:=hload y hy
      rcases hP with⟨hs,ecp,epos⟩ | ⟨hs,ez⟩
      case' inl=>
        have ecn:cntC x.2.2.1 k L held (i+1)=cntC x.2.2.1 k L held i+1:=by simp only[cntC];rw[tv_true hs];rfl
        refine KW.cT U U (by simpa using epos) ?_
        have ew:IntKind.i64.wrap ((cntC x.2.2.1 k L held i:Nat)+1)=((cntC x.2.2.1 k L held (i+1):Nat):Int):=by rw[ecn,wr (by omega) (by omega)];omega
        have e21:=congrArg (Value.int .i64) ew
      case' inr=>
        have ecn:cntC x.2.2.1 k L held (i+1)=cntC x.2.2.1 k L held i:=by simp only[cntC];rw[tv_false hs];rfl
        refine KW.cF U U (by simp[ez]) ?_
        have e21:Value.int .i64 ((cntC x.2.2.1 k L held i:Nat):Int)=Value.int .i64 ((cntC x.2.2.1 k L held (i+1):Nat):Int):=by rw[ecn]
      all_goals
        cases bo
        case' false=>
          refine KW.tT U U (by first | (simp;done) | decide) ?_
          refine KW.getI h6s U U U U U U U U U U U U U U U U (by omega) (hj1) (fun y2 hy2=>?_)
          have hy2:(csL x.2.2.1 k L held x.2.2.1.toNat)[i]?=some y2:=hy2
          obtain rfl:=hload y2 hy2
          refine KW.getI h6s U U U U U U U U U U U U U U U U (by omega) (by omega) (fun y3 hy3=>?_)
          have hy3:(csL x.2.2.1 k L held x.2.2.1.toNat)[0]?=some y3:=hy3
          have hnone:comb x.2.2.1 L (unitL (k+1))=none:=by cases q:comb x.2.2.1 L (unitL (k+1)) with | none=>rfl | some _=>rw[q] at hop;cases hop
          have e3:y3=y2:=by
            have h9:=(hat 0 y3 hy3).1
            rw[h9]
            rcases hpos 0 (by omega) with⟨g1,g2,_⟩ | ⟨g1,g2⟩
            · first
                | (rw[g2,ecp])
                | exact absurd (sec_any hf hLR hnone g1 ⟨by omega,hip⟩) hs
            · first
                | (rw[g2,ez])
                | exact absurd (sec_any hf hLR hnone hs ⟨by omega,by omega⟩) g1
          subst e3
          refine KW.cF U U (by simp) ?_
        case' true=>
          refine KW.tF U U (by first | (simp;done) | decide) ?_
          refine KW.cF U U (by first | (simp;done) | decide) ?_
      all_goals
        refine KW.callN1 U U U U U (hco) (fun v HC SC mC _ _ hv=>?_)
        rcases hv with⟨hn,rfl⟩ | ⟨hn,aq,cq,rfl,hq⟩
        · have hns:¬SecOk x.2.2.1 k L held (i:Int):=fun q=>(hci.2 q) hn
          first
            | exact absurd hs hns
            | (skip
               refine KW.getI ((h6s.up (S':=SC) (H':=HC))) U U U U U U U U U U U U U U U U (by omega) (hj1) (fun y4 hy4=>?_)
               have hy4:(csL x.2.2.1 k L held x.2.2.1.toNat)[i]?=some y4:=hy4
               obtain rfl:=hload y4 hy4
               refine KW.cF U U (by simp[ez]) ?_
               refine KW.cT U U (by first | (simp;done) | decide) ?_
               refine KW.nxt U U (fun H' g=>⟨i+1,by omega,by first | omega | (simp only;omega),⟨rfl,rfl,rfl,rfl,rfl,rfl,e21,congrArg (Value.int .i64) (inc64 (by omega)),trivial⟩,g.back⟩)
               skip)
        · have hss:SecOk x.2.2.1 k L held (i:Int):=hci.1 hn
          first
            | exact absurd hss hs
            | (skip
               refine KW.getI ((h6s.up (S':=SC) (H':=HC))) U U U U U U U U U U U U U U U U (by omega) (hj1) (fun y4 hy4=>?_)
               have hy4:(csL x.2.2.1 k L held x.2.2.1.toNat)[i]?=some y4:=hy4
               obtain rfl:=hload y4 hy4
               refine KW.cF U U (by simp;omega) ?_
               refine KW.cF U U (by first | (simp;done) | decide) ?_
               obtain⟨z1,z2,z3⟩:=coY_ok hpr hLR hl2 hhi ⟨by omega,hip⟩ hn
               obtain⟨Y,eY⟩:∃Y,(coY x.2.2.1 k L held (i:Int)).drop 1=Y:=⟨_,rfl⟩
               rw[eY] at hq z1 z2 z3 ⊢
               have hq1:=hq.up (S':=SC) (H':=HC)
               refine KW.callN1 U U U U U (sharesOf x.1 x.2.2.1 x.2.2.2.1 (i:Int) hB.2.1 hB.2.2.2.2 hk ⟨by omega,by omega⟩ (by omega) z2 d1.up d2.up hq1) (fun v HT ST mT _ _ hv=>?_)
               obtain⟨vt,rfl,at_,ct,rfl,hT⟩:=hv
               have hTl:(shares x.2.2.1 x.2.2.2.2 ((i:Int) :: Y)).length=x.2.1.length:=by unfold shares;rw[List.length_map];omega
               have hTs:=hT.sl.up (S':=ST) (H':=HT)
               refine KW.tF U U (by first | (simp;done) | decide) ?_
               refine KW.callN1 U U U U U (a2Held x.1 x.2.2.1 x.2.2.2.1 hB.2.1 hTl (by omega) d1.up hTs ((hGs6.up (S':=SC) (H':=HC)).up (S':=ST) (H':=HT))) (fun v HU SU mU _ _ hv=>?_)
               obtain⟨au,cu,rfl,hU⟩:=hv
               have hbk:=held_back (x:=x) (g:=gr) (held:=held) (all:=(i:Int) :: Y) hk0 hgr ek (by simp[z1]) (by rw[eL];exact hl2) hhi (by rw[eL];exact z3)
               rw[hbk] at hU ⊢
               have hUs:=hU.sl.up (S':=SU) (H':=HU)
               refine KW.callE U U U U U (a2Same (by omega) hUs (((hhs6.up (S':=SC) (H':=HC)).up (S':=ST) (H':=HT)).up (S':=SU) (H':=HU))) (fun _ _=>?_)
               rw[decide_eq_true (rfl:held=held)]
               refine KW.cF U U (by first | (simp;done) | decide) ?_
               refine KW.nxt U U (fun H' g=>⟨i+1,by omega,by first | omega | (simp only;omega),⟨rfl,rfl,rfl,rfl,rfl,rfl,e21,congrArg (Value.int .i64) (inc64 (by omega)),trivial⟩,g.back⟩)
               skip)
    · have j1:¬(i:Int)<((csL x.2.2.1 k L held x.2.2.1.toNat).length:Int):=j1
      rw[hcl] at j1
      obtain rfl:i=x.2.2.1.toNat:=by omega
      have hfc:=fit_cons (k:=k+1) hf hLR hl2 hhi
      cases bc with
      | false=>
        refine KW.cT U U (by first | (simp;done) | decide) ?_
        have hno:∀i:Nat,i<x.2.2.1.toNat→¬SecOk x.2.2.1 k L held (i:Int):=fun i _ q=>by
          obtain⟨y,y1,y2,_⟩:=q
          have:=hfc.2 ⟨y,y1,y2⟩
          rw[decide_eq_true this] at hcs
          cases hcs
        rw[cntC_none _ hno]
        refine KW.retM1 U U U U (fun H1 g=>rfl)
      | true=>
        refine KW.cF U U (by first | (simp;done) | decide) ?_
        obtain⟨y,y1,y2⟩:=hfc.1 (of_decide_eq_true hcs.symm)
        have hys:SecOk x.2.2.1 k L held (y.getD 0 0):=⟨y,y1,y2,rfl⟩
        have hyb:=sec_in (by omega) hys
        cases bo with
        | true=>
          obtain⟨ccs,hcc⟩:∃ccs,comb x.2.2.1 L (unitL (k+1))=some ccs:=by cases q:comb x.2.2.1 L (unitL (k+1)) with | none=>rw[q] at hop;cases hop | some c=>exact⟨c,rfl⟩
          have hone:=cntC_one (s:=(y.getD 0 0).toNat) (by rw[show(((y.getD 0 0).toNat:Nat):Int)=y.getD 0 0 by omega];exact hys) (fun j hj=>by have:=sec_one hf hLR hl2 hcc hj hys;omega) x.2.2.1.toNat
          rw[if_pos (by omega)] at hone
          rw[hone]
          refine KW.tT U U (by first | (simp;done) | decide) ?_
          refine KW.tT U U (by first | (simp;done) | decide) ?_
          repeat first | refine KW.tT U U U ?_ | refine KW.tF U U U ?_
          refine KW.retM1 U U U U (fun H1 g=>rfl)
        | false=>
          have hnone:comb x.2.2.1 L (unitL (k+1))=none:=by cases q:comb x.2.2.1 L (unitL (k+1)) with | none=>rfl | some _=>rw[q] at hop;cases hop
          have hall:=cntC_all x.2.2.1.toNat (fun j hj=>sec_any hf hLR hnone hys (s':=(j:Int)) ⟨by omega,by omega⟩)
          rw[hall]
          refine KW.tF U U (by first | (simp;done) | decide) ?_
          refine KW.tF U U (by first | (simp;done) | decide) ?_
          refine KW.tT U U (by first | (simp;done) | decide) ?_
          refine KW.retM1 U U U U (fun H1 g=>by first | (show Value.bool (((x.2.2.1.toNat:Nat):Int)==x.2.2.1)=_;simp;omega) | (show Value.bool (decide (((x.2.2.1.toNat:Nat):Int)=x.2.2.1))=_;simp;omega))
end
end Go.Proofs.Ytlapbbffoapleaa.Am
namespace Go.Proofs.Ytlapbbffoapleaa.Am
open Go
theorem joined_of {P:Program} {f:FuncId} {fn:Func} {s:ChangeSpec} {c:OpenClaim}
  (h0:(c.wf (OpenSpec.ofChange s))=true)
  (h1:(laidOutB P)=true)
  (h2:(mapsRowed P)=true)
  (h3:(fn.params.all (P.readableRec ·))=true)
  (h4:(namedTie P c.named s.vars)=true)
  (h5:((c.stops==[]))=true)
  (h6:((P.stops==[]))=true)
  (h7:((c.knobs==[]))=true)
  (h8:((P.stopKnobs==[]))=true)
  (h9:((c.inPlace==P.inPlace f))=true)
  (h10:((c.unfollowed==P.unfollowed f))=true)
  (h11:((c.recurses==P.recurses f))=true)
  (h12:((c.named==P.varsNamed f))=true)
  (h13:((c.maps==(fn.params.toList++s.plain.varTypes P).any (P.mapsRec ·)))=true)
  (h14:((c.ifaces==(fn.params.toList++s.plain.varTypes P).any (P.ifacesRec ·)))=true)
  (h15:((c.mapsOut==P.mapsAmong fn.resultTypes.toList))=true)
  (h16:((c.loops==(fn.params.toList++s.plain.varTypes P).any (P.loopsFrom ·)))=true)
  (h17:((c.wideKeys==(fn.params.toList++s.plain.varTypes P++fn.resultTypes.toList).any (P.wideKeysFrom ·)))=true)
  (h18:(s.vars.all (P.varReadable ·))=true)
  (h19:(fn.resultTypes.all (fun t=>P.readableRec t&&decide (t<P.types.size)))=true)
  (h20:((c.ifacesOut==fn.resultTypes.toList.any (P.ifacesRec ·)))=true)
  (h21:((c.loopsOut==fn.resultTypes.toList.any (P.loopsFrom ·)))=true)
  (h22:((c.plainKeys==P.plainKeys))=true)
  (h23:(c.shortTexts.isNone)=true)
  (h24:(P.stopsHeard)=true)
  (h25:(P.mayEnter)=true)
  (h26:((c.lifted==P.liftsFinal))=true)
  (h27:((P.make==some c.make))=true)
  (h28:((c.kinds==(if c.domain.isEmpty then [] else fn.params.toList.map fun t=>match P.underlying t with | some (.int k)=>some k | _=>none)))=true)
  (h29:((c.pinned==c.pinnedBy))=true)
  (h30:((c.veiled==(fn.params.toList++s.plain.varTypes P++fn.resultTypes.toList).any (P.veiledRec ·)))=true)
  (h31:(c.veiledFits P fn.params.toList (fn.params.toList++s.plain.varTypes P++fn.resultTypes.toList))=true)
  :joinedFacts P f fn s c=true:=by
 unfold joinedFacts
 simp only[Bool.and_eq_true]
 exact⟨⟨⟨⟨⟨⟨⟨⟨⟨⟨⟨⟨⟨⟨⟨⟨⟨⟨⟨⟨⟨⟨⟨⟨⟨⟨⟨⟨⟨⟨⟨h0,h1⟩,h2⟩,h3⟩,h4⟩,h5⟩,h6⟩,h7⟩,h8⟩,h9⟩,h10⟩,h11⟩,h12⟩,h13⟩,h14⟩,h15⟩,h16⟩,h17⟩,h18⟩,h19⟩,h20⟩,h21⟩,h22⟩,h23⟩,h24⟩,h25⟩,h26⟩,h27⟩,h28⟩,h29⟩,h30⟩,h31⟩
end Go.Proofs.Ytlapbbffoapleaa.Am
