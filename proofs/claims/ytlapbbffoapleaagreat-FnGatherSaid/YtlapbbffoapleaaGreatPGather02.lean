/- Contracts and laws on abstract memory, merged. Each holds under its own conditions. -/
import Derived.Test.YtlapbbffoapleaaGreatPGather01
set_option linter.unusedVariables false
set_option linter.unusedSimpArgs false
set_option maxRecDepth 20000
set_option maxHeartbeats 4000000
namespace Go.Proofs.YtlapbbffoapleaaGreat.Am
open Go Go.RowKit Go.Proofs
structure OkSch (h:Int) (ow:List Int) (p c:Int) (rows:List (List Int)):Prop where
 h1:1≤h
 h7:h≤7
 mat:OkMat p c rows
 c1:1≤c
 len:ow.length=rows.length
 own:∀x∈ow,0≤x∧x≤h-1
section
variable {S:Ids} {H0:AH}
theorem validScheme1 (h y:Int) (hh:1≤h∧h≤7) {id:Nat} {b:Blk} {vs:List Value} (hb:b.cells=.int .i64 h :: vs) (hv:S id∧H0.m id=some b):Spec Tryz.prog S H0 152 [.int .i64 y,.pointer (some ⟨id,0,none⟩)] (fun v=>v=.bool (!decide (0≤y∧y≤h-1))):=by
 refine Spec.of1 Tryz.func152 rfl (by kernel_rfl) rfl (fun H _=>?_)
 obtain⟨hS1,hm1⟩:=On.blk (S':=Low H.n) (H':=H) hv.1 hv.2
 obtain⟨ty,rw,cs⟩:=b
 subst hb
 refine KW.ldP hS1 hm1 U U U U U U ?_
 refine KW.callE U U U U U (within _ _ _) (fun _ _=>?_)
 have e:IntKind.i64.wrap (h-1)=h-1:=wr (by omega) (by omega)
 refine KW.ret U U U U ?_
 rw[e];rfl
theorem validScheme (h p c:Int) (hp:I64 p) {a1 c1 a2 c2} {ow:List Int} {rows:List (List Int)} (hO:B_Int64S ow) (hB:B_Int64SS rows) (ho:KI.Sl S H0 (.slice a1 ow.length c1) ow) (hs:KI.sl.Sl S H0 (.slice a2 rows.length c2) rows):
  Spec Tryz.prog S H0 71 [.agg #[.int .i64 h,.slice a1 ow.length c1,.int .i64 p,.int .i64 c,.slice a2 rows.length c2]] (fun v=>v=.bool (tv (OkSch h ow p c rows))):=by
 refine Spec.of1 Tryz.func71 rfl (by kernel_rfl) rfl (fun H _=>?_)
 refine KW.callE U U U U U (within _ _ _) (fun _ _=>?_)
 refine KW.tstB U U (fun k1=>?_) (fun k1=>?_)
 ·have k1:1≤h∧h≤7:=by simpa using k1
  refine KW.callE U U U U U (validMatrix p c hp hB hs.up) (fun _ _=>?_)
  refine KW.tstB U U (fun k2=>?_) (fun k2=>?_)
  ·have k2:=tv_iff.1 k2
   refine KW.tst U U (fun k3=>?_) (fun k3=>?_)
   ·have k3:1≤c:=k3
    refine KW.tstB U U (fun k4=>?_) (fun k4=>?_)
    ·have k4:ow.length=rows.length:=by simp at k4;omega
     have hO':ow.length≤1048576:=hO
     refine KW.callV1 U U U U U (fun H1 g _=>containsFuncI (p:=fun y=>!decide (0≤y∧y≤h-1)) (by omega) ho.up (fun S' H' o y _=>validScheme1 h y k1 rfl (g.var (j:=0) rfl))) (fun _ _=>?_)
     refine KW.ret U U U U ?_
     show Value.bool (!tv (∃x∈ow,(!decide (0≤x∧x≤h-1))=true))=_
     by_cases hx:OkSch h ow p c rows
     ·rw[tv_true hx,tv_false (fun⟨x,h1,h2⟩=>by have:=hx.own x h1;simp at h2;omega)];rfl
     ·rw[tv_false hx,tv_true ?_];· rfl
      refine Classical.byContradiction fun hc=>hx ⟨k1.1,k1.2,k2,k3,k4,fun x h1=>?_⟩
      refine Classical.byContradiction fun h2=>hc ⟨x,h1,by simp;omega⟩
    ·have k4:ow.length≠rows.length:=by simp at k4;omega
     repeat first | refine KW.tT U U U ?_ | refine KW.tF U U U ?_
     exact KW.ret U U U U (by rw[tv_false (p:=OkSch h ow p c rows) (fun hc=>k4 hc.len)];rfl)
   ·have k3:¬1≤c:=k3
    repeat first | refine KW.tT U U U ?_ | refine KW.tF U U U ?_
    exact KW.ret U U U U (by rw[tv_false (p:=OkSch h ow p c rows) (fun hc=>k3 hc.c1)];rfl)
  ·repeat first | refine KW.tT U U U ?_ | refine KW.tF U U U ?_
   exact KW.ret U U U U (by rw[tv_false (p:=OkSch h ow p c rows) (fun hc=>by rw[tv_true hc.mat] at k2;cases k2)];rfl)
 ·have k1:¬(1≤h∧h≤7):=by simp at k1;omega
  repeat first | refine KW.tT U U U ?_ | refine KW.tF U U U ?_
  exact KW.ret U U U U (by rw[tv_false (p:=OkSch h ow p c rows) (fun hc=>k1 ⟨hc.h1,hc.h7⟩)];rfl)
theorem Has3.drop {S:Ids} {H:AH} {id k:Nat} {vs ws:List Value} (h:Has3 S H id k (vs++ws)):Has3 S H id (k+vs.length) ws:=by
 obtain⟨h1,b,h2,h3⟩:=h
 exact⟨h1,b,h2,fun i v hi=>by rw[Nat.add_assoc];exact h3 _ v (by rw[List.getElem?_append_right (by omega)];simpa using hi)⟩
theorem Has3.take {S:Ids} {H:AH} {id k:Nat} {vs ws:List Value} (h:Has3 S H id k (vs++ws)):Has3 S H id k vs:=by
 obtain⟨h1,b,h2,h3⟩:=h
 exact⟨h1,b,h2,fun i v hi=>h3 i v (by rw[List.getElem?_append_left (List.getElem?_eq_some_iff.1 hi).1];exact hi)⟩
theorem Good.has {S0:Ids} {H0 H1:AH} {T:List Var} {n j id:Nat} {b:Blk} {vs:List Value} (g:Good S0 H0 T n H1) (hj:T[j]?=some (id,b)) (hb:b.cells=vs):Has3 (Low H1.n) H1 id 0 vs:=⟨(g.blk hj).2,b,(g.blk hj).1,fun i v hi=>by rw[hb,Nat.zero_add];exact hi⟩
theorem l04Ok (h p c:Int) (hp:I64 p) {id k:Nat} {a1 c1 a2 c2} {ow:List Int} {rows:List (List Int)} (hO:B_Int64S ow) (hB:B_Int64SS rows) (hv:Has3 S H0 id k [.int .i64 h,.slice a1 ow.length c1,.int .i64 p,.int .i64 c,.slice a2 rows.length c2]) (ho:KI.Sl S H0 (.slice a1 ow.length c1) ow) (hs:KI.sl.Sl S H0 (.slice a2 rows.length c2) rows):
  Spec Tryz.prog S H0 79 [.pointer (some ⟨id,k,none⟩)] (fun v=>v=.bool (tv (OkSch h ow p c rows))):=by
 refine Spec.of1 Tryz.func79 rfl (by kernel_rfl) rfl (fun H _=>?_)
 have hO':ow.length≤1048576:=hO
 have hv:=hv.up (S':=Low H.n) (H':=H)
 have ho:=ho.up (S':=Low H.n) (H':=H)
 have hs:=hs.up (S':=Low H.n) (H':=H)
 refine KW.ldF 0 hv U U U U U U U U U ?_
 refine KW.callE U U U U U (l00In _ _ _) (fun _ _=>?_)
 refine KW.tstB U U (fun k1=>?_) (fun k1=>?_)
 ·have k1:¬(1≤h∧h≤7):=by simp at k1;omega
  repeat first | refine KW.tT U U U ?_ | refine KW.tF U U U ?_
  first | refine KW.cT U U U ?_ | refine KW.cF U U U ?_
  exact KW.ret U U U U (by rw[tv_false (p:=OkSch h ow p c rows) (fun hc=>k1 ⟨hc.h1,hc.h7⟩)];rfl)
 have k1:1≤h∧h≤7:=by simpa using k1
 refine KW.callE U U U U U (l03Ok p c hp hB (hv.drop (vs:=[_,_])) hs) (fun _ _=>?_)
 refine KW.tstB U U (fun k2=>?_) (fun k2=>?_)
 ·repeat first | refine KW.tT U U U ?_ | refine KW.tF U U U ?_
  first | refine KW.cT U U U ?_ | refine KW.cF U U U ?_
  exact KW.ret U U U U (by rw[tv_false (p:=OkSch h ow p c rows) (fun hc=>by rw[tv_true hc.mat] at k2;cases k2)];rfl)
 have k2:OkMat p c rows:=tv_iff.1 (by simpa using k2)
 refine KW.ldF 3 hv U U U U U U U U U ?_
 refine KW.tst U U (fun k3=>?_) (fun k3=>?_)
 ·have k3:c<1:=k3
  repeat first | refine KW.tT U U U ?_ | refine KW.tF U U U ?_
  first | refine KW.cT U U U ?_ | refine KW.cF U U U ?_
  exact KW.ret U U U U (by rw[tv_false (p:=OkSch h ow p c rows) (fun hc=>by have:=hc.c1;omega)];rfl)
 have k3:¬c<1:=k3
 refine KW.ldF 1 hv U U U U U U U U U ?_
 refine KW.ldF 4 hv U U U U U U U U U ?_
 refine KW.cndB U U (fun k4=>?_) (fun k4=>?_)
 ·have k4:ow.length≠rows.length:=by simp at k4;omega
  exact KW.ret U U U U (by rw[tv_false (p:=OkSch h ow p c rows) (fun hc=>k4 hc.len)];rfl)
 have k4:ow.length=rows.length:=by simp at k4;omega
 refine KW.lp U U (fun i:Nat=>[(0,.pointer (some ⟨id,k,none⟩)),(3,.int .i64 i)]) (fun i=>i≤ow.length∧∀j,j<i→∀x,ow[j]?=some x→0≤x∧x≤h-1) (fun i=>ow.length-i) (0) (⟨by omega,fun j h=>absurd h (by omega)⟩) ⟨rfl,rfl,trivial⟩ (fun i hi bE n=>?_)
 obtain⟨hi,hj⟩:=hi
 refine KW.ldF 1 hv U U U U U U U U U ?_
 refine KW.cnd U U (fun k5=>?_) (fun k5=>?_)
 ·refine KW.ldF 1 hv U U U U U U U U U ?_
  refine KW.getI ho U U U U U U U U U U U U U U U U (by omega) (k5) (fun y hy=>?_)
  have hy:ow[i]?=some y:=hy
  refine KW.ldF 0 hv U U U U U U U U U ?_
  refine KW.callE U U U U U (l00In _ _ _) (fun _ _=>?_)
  have e:IntKind.i64.wrap (h-1)=h-1:=wr (by omega) (by omega)
  rw[e]
  refine KW.cndB U U (fun k6=>?_) (fun k6=>?_)
  ·exact KW.ret U U U U (by rw[tv_false (p:=OkSch h ow p c rows) (fun hc=>by have:=hc.own y (List.mem_of_getElem? hy);simp at k6;omega)];rfl)
  ·refine KW.nxt U U (fun H' g=>⟨i+1,⟨by omega,upto hj (fun z hz=>by rw[hy] at hz;cases hz;simpa using k6)⟩,by first | omega | (simp only;omega),⟨rfl,congrArg (Value.int .i64) (inc64 (by omega)),trivial⟩,g⟩)
 ·exact KW.ret U U U U (by rw[tv_true (p:=OkSch h ow p c rows) ⟨k1.1,k1.2,k2,by omega,k4,all_of (fun j hjl=>hj j (by omega))⟩];rfl)
end
def KeysOk (p:Int) (n:Nat) (kk:List (List Int)):Prop:=kk.length=n∧∀y∈kk,y.length=2∧Elems p y
structure OkDeal (h:Int) (ow:List Int) (p c:Int) (rows:List (List Int)) (s:Int) (bs:List (List Int)) (ks:List (List (List Int))):Prop where
 sch:OkSch h ow p c rows
 sec:0≤s∧s≤p-1
 bl:1≤bs.length∧bs.length≤4
 kl:ks.length=bs.length
 bk:∀(e:Nat) b kk,bs[e]?=some b→ks[e]?=some kk→((b.length:Int)=c-1∧Elems p b)∧KeysOk p rows.length kk
section
variable {S:Ids} {H0:AH}
theorem validDeal (h p c s:Int) (hp:I64 p) {a1 c1 a2 c2 a3 c3 a4 c4} {ow:List Int} {rows bs:List (List Int)} {ks:List (List (List Int))} (hO:B_Int64S ow) (hB:B_Int64SS rows) (hBb:B_Int64SS bs) (hBk:B_Int64SSS ks)
  (ho:KI.Sl S H0 (.slice a1 ow.length c1) ow) (hs:KI.sl.Sl S H0 (.slice a2 rows.length c2) rows) (hb:KI.sl.Sl S H0 (.slice a3 bs.length c3) bs) (hk:KI.sl.sl.Sl S H0 (.slice a4 ks.length c4) ks):
  Spec Tryz.prog S H0 137 [.agg #[.int .i64 h,.slice a1 ow.length c1,.int .i64 p,.int .i64 c,.slice a2 rows.length c2,.int .i64 s,.slice a3 bs.length c3,.slice a4 ks.length c4]] (fun v=>v=.bool (tv (OkDeal h ow p c rows s bs ks))):=by
 refine Spec.of1 Tryz.func137 rfl (by kernel_rfl) rfl (fun H _=>?_)
 have bl:=hBb.len
 have kl:=hBk.len
 refine KW.callE U U U U U (validScheme h p c hp hO hB ho.up hs.up) (fun _ _=>?_)
 refine KW.tstB U U (fun k1=>?_) (fun k1=>?_)
 ·repeat first | refine KW.tT U U U ?_ | refine KW.tF U U U ?_
  first | refine KW.cT U U U ?_ | refine KW.cF U U U ?_
  exact KW.ret U U U U (by rw[tv_false (p:=OkDeal h ow p c rows s bs ks) (fun hc=>by rw[tv_true hc.sch] at k1;cases k1)];rfl)
 have k1:OkSch h ow p c rows:=tv_iff.1 (by simpa using k1)
 have hc12:=k1.mat.c1
 have hc1:=k1.c1
 refine KW.lit U U U U U U U U U U [.int .i64 s] U U (fun v hv=>by simp at hv;subst hv;rfl) rfl ?_
 refine KW.callV1 U U U U U (fun H1 g _=>areElements p hp (xs:=[s]) (by simp) (g.ints (j:=2) U U (by simp))) (fun _ _=>?_)
 refine KW.tstB U U (fun k2=>?_) (fun k2=>?_)
 ·repeat first | refine KW.tT U U U ?_ | refine KW.tF U U U ?_
  first | refine KW.cT U U U ?_ | refine KW.cF U U U ?_
  exact KW.ret U U U U (by rw[tv_false (p:=OkDeal h ow p c rows s bs ks) (fun hc=>by rw[tv_true ⟨k1.mat.pr,fun x hx=>by rw[List.mem_singleton.1 hx];exact hc.sec⟩] at k2;cases k2)];rfl)
 have k2:0≤s∧s≤p-1:=(tv_iff.1 (by simpa using k2):PrimeP p∧Elems p [s]).2 s (by simp)
 refine KW.callE U U U U U (within _ _ _) (fun _ _=>?_)
 refine KW.tstB U U (fun k3=>?_) (fun k3=>?_)
 ·have k3:¬(1≤bs.length∧bs.length≤4):=by simp at k3;omega
  repeat first | refine KW.tT U U U ?_ | refine KW.tF U U U ?_
  first | refine KW.cT U U U ?_ | refine KW.cF U U U ?_
  exact KW.ret U U U U (by rw[tv_false (p:=OkDeal h ow p c rows s bs ks) (fun hc=>k3 hc.bl)];rfl)
 have k3:1≤bs.length∧bs.length≤4:=by simp at k3;omega
 refine KW.cndB U U (fun k4=>?_) (fun k4=>?_)
 ·exact KW.ret U U U U (by rw[tv_false (p:=OkDeal h ow p c rows s bs ks) (fun hc=>by rw[hc.kl] at k4;simp at k4)];rfl)
 have k4:ks.length=bs.length:=by simp at k4;omega
 refine KW.lp U U (fun i:Nat=>[(1,.pointer (some ⟨H.n,0,some 0⟩)),(3,.pointer (some ⟨H.n+1,0,some 1⟩)),(41,.slice a3 bs.length c3),(42,.int .i64 bs.length),(43,.int .i64 i)]) (fun i=>i≤bs.length∧∀j,j<i→∀b kk,bs[j]?=some b→ks[j]?=some kk→((b.length:Int)=c-1∧Elems p b)∧KeysOk p rows.length kk) (fun i=>bs.length-i) (0) (⟨by omega,fun j h=>absurd h (by omega)⟩) ⟨rfl,rfl,rfl,rfl,rfl,trivial⟩ (fun i hi bE n=>?_)
 obtain⟨hi,hj⟩:=hi
 refine KW.cnd U U (fun k5=>?_) (fun k5=>?_)
 ·refine KW.getL hb.up U U U U U U U U U U U U U U U U (by omega) (k5) (fun y a' m' hy hsy=>?_)
  have hy:bs[i]?=some y:=hy
  have hym:=hBb.each y (List.mem_of_getElem? hy)
  obtain⟨kk,hkk⟩:∃kk,ks[i]?=some kk:=⟨ks[i]'(by omega),List.getElem?_eq_getElem (by omega)⟩
  have bad:¬(((y.length:Int)=c-1∧Elems p y)∧KeysOk p rows.length kk)→aout [Value.bool false]=.bool (tv (OkDeal h ow p c rows s bs ks)):=fun hx=>by rw[tv_false (p:=OkDeal h ow p c rows s bs ks) (fun hc=>hx (hc.bk i y kk hy hkk))];rfl
  have e:IntKind.i64.wrap (c-1)=c-1:=wr (by omega) (by omega)
  refine KW.tstB U U (fun k6=>?_) (fun k6=>?_)
  ·rw[e] at k6
   repeat first | refine KW.tT U U U ?_ | refine KW.tF U U U ?_
   first | refine KW.cT U U U ?_ | refine KW.cF U U U ?_
   exact KW.ret U U U U (bad (fun hc=>by rw[hc.1.1] at k6;simp at k6))
  rw[e] at k6
  have k6:(y.length:Int)=c-1:=by simpa using k6
  refine KW.callE U U U U U (areElements p hp (by omega) hsy) (fun _ _=>?_)
  refine KW.tstB U U (fun k7=>?_) (fun k7=>?_)
  ·repeat first | refine KW.tT U U U ?_ | refine KW.tF U U U ?_
   first | refine KW.cT U U U ?_ | refine KW.cF U U U ?_
   exact KW.ret U U U U (bad (fun hc=>by rw[tv_true ⟨k1.mat.pr,hc.1.2⟩] at k7;cases k7))
  have k7:Elems p y:=(tv_iff.1 (by simpa using k7):PrimeP p∧Elems p y).2
  refine KW.getL hk.up U U U U U U U U U U U U U U U U (by omega) (by omega) (fun kk1 a'' m'' hkk1 hskk=>?_)
  have hkk1:ks[i]?=some kk1:=hkk1
  rw[hkk] at hkk1
  cases hkk1
  have hkB:=hBk.each kk (List.mem_of_getElem? hkk)
  have hkl:=hkB.len
  refine KW.cndB U U (fun k8=>?_) (fun k8=>?_)
  ·exact KW.ret U U U U (bad (fun hc=>by rw[hc.2.1] at k8;simp at k8))
  have k8:kk.length=rows.length:=by simp at k8;omega
  refine KW.getL hk.up U U U U U U U U U U U U U U U U (by omega) (by omega) (fun kk1 a'' m'' hkk1 hskk=>?_)
  have hkk1:ks[i]?=some kk1:=hkk1
  rw[hkk] at hkk1
  cases hkk1
  refine KW.lp U U (fun q:Nat=>[(1,.pointer (some ⟨H.n,0,some 0⟩)),(3,.pointer (some ⟨H.n+1,0,some 1⟩)),(41,.slice a3 bs.length c3),(42,.int .i64 bs.length),(43,.int .i64 i),(77,.slice a'' kk.length m''),(78,.int .i64 kk.length),(79,.int .i64 q)]) (fun q=>q≤kk.length∧∀j,j<q→∀x,kk[j]?=some x→x.length=2∧Elems p x) (fun q=>kk.length-q) (0) (⟨by omega,fun j h=>absurd h (by omega)⟩) ⟨rfl,rfl,rfl,rfl,rfl,rfl,rfl,rfl,trivial⟩ (fun q hi bE n=>?_)
  obtain⟨hq,hqj⟩:=hi
  refine KW.cnd U U (fun k9=>?_) (fun k9=>?_)
  ·refine KW.getL hskk U U U U U U U U U U U U U U U U (by omega) (k9) (fun z a3' m3' hz hsz=>?_)
   have hz:kk[q]?=some z:=hz
   have hzm:=List.mem_of_getElem? hz
   refine KW.tstB U U (fun k10=>?_) (fun k10=>?_)
   ·repeat first | refine KW.tT U U U ?_ | refine KW.tF U U U ?_
    first | refine KW.cT U U U ?_ | refine KW.cF U U U ?_
    exact KW.ret U U U U (bad (fun hc=>by rw[(hc.2.2 z hzm).1] at k10;simp at k10))
   have k10:z.length=2:=by simp at k10;omega
   refine KW.callE U U U U U (areElements p hp (by omega) hsz) (fun _ _=>?_)
   refine KW.cndB U U (fun k11=>?_) (fun k11=>?_)
   ·exact KW.ret U U U U (bad (fun hc=>by rw[tv_true ⟨k1.mat.pr,(hc.2.2 z hzm).2⟩] at k11;cases k11))
   have k11:Elems p z:=(tv_iff.1 (by simpa using k11):PrimeP p∧Elems p z).2
   refine KW.nxt U U (fun H' g=>⟨q+1,⟨by omega,upto hqj (fun x hx=>by rw[hz] at hx;cases hx;exact⟨k10,k11⟩)⟩,by first | omega | (simp only;omega),⟨rfl,rfl,rfl,rfl,rfl,rfl,rfl,congrArg (Value.int .i64) (inc64 (by omega)),trivial⟩,g⟩)
  ·refine KW.nxt U U (fun H' g=>⟨i+1,⟨by omega,upto hj (fun b kk1 hb1 hk1=>by rw[hy] at hb1;rw[hkk] at hk1;cases hb1;cases hk1;exact⟨⟨k6,k7⟩,k8,all_of (fun j hjl=>hqj j (by omega))⟩)⟩,by first | omega | (simp only;omega),⟨rfl,rfl,rfl,rfl,congrArg (Value.int .i64) (inc64 (by omega)),trivial⟩,g⟩)
 ·exact KW.ret U U U U (by rw[tv_true (p:=OkDeal h ow p c rows s bs ks) ⟨k1,k2,k3,k4,fun e b kk h1 h2=>hj e (by have:=(List.getElem?_eq_some_iff.1 h1).1;omega) b kk h1 h2⟩];rfl)
theorem l08Keys (p:Int) (hp:PrimeP p) {id k:Nat} {v0:Value} {a c} {kk:List (List Int)} {vs:List Value} {aw:Option Addr} {cw w:Nat} (hB:B_Int64SS kk) (hv:Has3 S H0 id k (v0 :: .slice aw w cw :: .int .i64 p :: vs)) (hk:KI.sl.Sl S H0 (.slice a kk.length c) kk):
  Spec Tryz.prog S H0 188 [.pointer (some ⟨id,k,none⟩),.slice a kk.length c] (fun v=>v=.bool (tv (KeysOk p w kk))):=by
 refine Spec.of1 Tryz.func188 rfl (by kernel_rfl) rfl (fun H _=>?_)
 have hv:=hv.up (S':=Low H.n) (H':=H)
 have kl:=hB.len
 refine KW.lp U U (fun i:Nat=>[(0,.pointer (some ⟨id,k,none⟩)),(1,.slice a kk.length c),(5,.int .i64 i)]) (fun i=>i≤kk.length∧∀j,j<i→∀x,kk[j]?=some x→x.length=2∧Elems p x) (fun i=>kk.length-i) (0) (⟨by omega,fun j h=>absurd h (by omega)⟩) ⟨rfl,rfl,rfl,trivial⟩ (fun i hi bE n=>?_)
 obtain⟨hi,hj⟩:=hi
 refine KW.cnd U U (fun k1=>?_) (fun k1=>?_)
 ·refine KW.ldF 2 hv U U U U U U U U U ?_
  refine KW.getL hk.up U U U U U U U U U U U U U U U U (by omega) (k1) (fun y a' m' hy hsy=>?_)
  have hy:kk[i]?=some y:=hy
  refine KW.callE U U U U U (l03Row p 2 (by unfold I64;have:=hp.1;have:=hp.2.1;omega) (hB.each y (List.mem_of_getElem? hy)) hsy) (fun _ _=>?_)
  refine KW.cndB U U (fun k2=>?_) (fun k2=>?_)
  ·exact KW.ret U U U U (by rw[tv_false (p:=KeysOk p w kk) (fun hc=>by rw[tv_true ⟨by have:=(hc.2 y (List.mem_of_getElem? hy)).1;omega,(hc.2 y (List.mem_of_getElem? hy)).2⟩] at k2;cases k2)];rfl)
  have k2:=tv_iff.1 (by simpa using k2)
  refine KW.nxt U U (fun H' g=>⟨i+1,⟨by omega,upto hj (fun x hx=>by rw[hy] at hx;cases hx;exact⟨by have:=k2.1;omega,k2.2⟩)⟩,by first | omega | (simp only;omega),⟨rfl,rfl,congrArg (Value.int .i64) (inc64 (by omega)),trivial⟩,g⟩)
 ·refine KW.ldF 1 hv U U U U U U U U U ?_
  refine KW.ret U U U U ?_
  show Value.bool (((kk.length:Nat):Int)==((w:Nat):Int))=_
  congr 1
  by_cases hx:kk.length=w
  ·rw[tv_true (p:=KeysOk p w kk) ⟨hx,all_of (fun j hjl=>hj j (by omega))⟩,hx];simp
  ·rw[tv_false (p:=KeysOk p w kk) (fun hc=>hx hc.1)];simp;omega
theorem l08Ok (h p c s:Int) (hp:I64 p) {id k:Nat} {a1 c1 a2 c2 a3 c3 a4 c4} {ow:List Int} {rows bs:List (List Int)} {ks:List (List (List Int))} (hO:B_Int64S ow) (hB:B_Int64SS rows) (hBb:B_Int64SS bs) (hBk:B_Int64SSS ks)
  (hv:Has3 S H0 id k [.int .i64 h,.slice a1 ow.length c1,.int .i64 p,.int .i64 c,.slice a2 rows.length c2,.int .i64 s,.slice a3 bs.length c3,.slice a4 ks.length c4])
  (ho:KI.Sl S H0 (.slice a1 ow.length c1) ow) (hs:KI.sl.Sl S H0 (.slice a2 rows.length c2) rows) (hb:KI.sl.Sl S H0 (.slice a3 bs.length c3) bs) (hk:KI.sl.sl.Sl S H0 (.slice a4 ks.length c4) ks):
  Spec Tryz.prog S H0 123 [.pointer (some ⟨id,k,none⟩)] (fun v=>v=.bool (tv (OkDeal h ow p c rows s bs ks))):=by
 refine Spec.of1 Tryz.func123 rfl (by kernel_rfl) rfl (fun H _=>?_)
 have bl:=hBb.len
 have kl:=hBk.len
 have hv:=hv.up (S':=Low H.n) (H':=H)
 refine KW.callE U U U U U (l04Ok h p c hp hO hB (hv.take (vs:=[_,_,_,_,_])) ho.up hs.up) (fun _ _=>?_)
 refine KW.tstB U U (fun k1=>?_) (fun k1=>?_)
 ·repeat first | refine KW.tT U U U ?_ | refine KW.tF U U U ?_
  first | refine KW.cT U U U ?_ | refine KW.cF U U U ?_
  exact KW.ret U U U U (by rw[tv_false (p:=OkDeal h ow p c rows s bs ks) (fun hc=>by rw[tv_true hc.sch] at k1;cases k1)];rfl)
 have k1:OkSch h ow p c rows:=tv_iff.1 (by simpa using k1)
 have hc12:=k1.mat.c1
 have hc1:=k1.c1
 have hp31:=k1.mat.pr.2.1
 have hp2:=k1.mat.pr.1
 have ep:IntKind.i64.wrap (p-1)=p-1:=wr (by omega) (by omega)
 have ec:IntKind.i64.wrap (c-1)=c-1:=wr (by omega) (by omega)
 refine KW.ldF 5 hv U U U U U U U U U ?_
 refine KW.ldF 2 hv U U U U U U U U U ?_
 refine KW.callE U U U U U (l00In _ _ _) (fun _ _=>?_)
 rw[ep]
 refine KW.tstB U U (fun k2=>?_) (fun k2=>?_)
 ·repeat first | refine KW.tT U U U ?_ | refine KW.tF U U U ?_
  first | refine KW.cT U U U ?_ | refine KW.cF U U U ?_
  exact KW.ret U U U U (by rw[tv_false (p:=OkDeal h ow p c rows s bs ks) (fun hc=>by have:=hc.sec;simp at k2;omega)];rfl)
 have k2:0≤s∧s≤p-1:=by simpa using k2
 refine KW.ldF 6 hv U U U U U U U U U ?_
 refine KW.callE U U U U U (l00In _ _ _) (fun _ _=>?_)
 refine KW.tstB U U (fun k3=>?_) (fun k3=>?_)
 ·repeat first | refine KW.tT U U U ?_ | refine KW.tF U U U ?_
  first | refine KW.cT U U U ?_ | refine KW.cF U U U ?_
  exact KW.ret U U U U (by rw[tv_false (p:=OkDeal h ow p c rows s bs ks) (fun hc=>by have:=hc.bl;simp at k3;omega)];rfl)
 have k3:1≤bs.length∧bs.length≤4:=by simp at k3;omega
 refine KW.ldF 7 hv U U U U U U U U U ?_
 refine KW.ldF 6 hv U U U U U U U U U ?_
 refine KW.cndB U U (fun k4=>?_) (fun k4=>?_)
 ·exact KW.ret U U U U (by rw[tv_false (p:=OkDeal h ow p c rows s bs ks) (fun hc=>by rw[hc.kl] at k4;simp at k4)];rfl)
 have k4:ks.length=bs.length:=by simp at k4;omega
 refine KW.lp U U (fun i:Nat=>[(0,.pointer (some ⟨id,k,none⟩)),(3,.int .i64 i)]) (fun i=>i≤bs.length∧∀j,j<i→∀b kk,bs[j]?=some b→ks[j]?=some kk→((b.length:Int)=c-1∧Elems p b)∧KeysOk p rows.length kk) (fun i=>bs.length-i) (0) (⟨by omega,fun j h=>absurd h (by omega)⟩) ⟨rfl,rfl,trivial⟩ (fun i hi bE n=>?_)
 obtain⟨hi,hj⟩:=hi
 refine KW.ldF 6 hv U U U U U U U U U ?_
 refine KW.cnd U U (fun k5=>?_) (fun k5=>?_)
 ·refine KW.ldF 2 hv U U U U U U U U U ?_
  refine KW.ldF 3 hv U U U U U U U U U ?_
  refine KW.ldF 6 hv U U U U U U U U U ?_
  refine KW.getL hb.up U U U U U U U U U U U U U U U U (by omega) (k5) (fun y a' m' hy hsy=>?_)
  have hy:bs[i]?=some y:=hy
  have hym:=hBb.each y (List.mem_of_getElem? hy)
  obtain⟨kk,hkk⟩:∃kk,ks[i]?=some kk:=⟨ks[i]'(by omega),List.getElem?_eq_getElem (by omega)⟩
  have bad:¬(((y.length:Int)=c-1∧Elems p y)∧KeysOk p rows.length kk)→aout [Value.bool false]=.bool (tv (OkDeal h ow p c rows s bs ks)):=fun hx=>by rw[tv_false (p:=OkDeal h ow p c rows s bs ks) (fun hc=>hx (hc.bk i y kk hy hkk))];rfl
  refine KW.callE U U U U U (l03Row p _ (by unfold I64;omega) (by omega) hsy) (fun _ _=>?_)
  rw[ec]
  refine KW.tstB U U (fun k6=>?_) (fun k6=>?_)
  ·repeat first | refine KW.tT U U U ?_ | refine KW.tF U U U ?_
   first | refine KW.cT U U U ?_ | refine KW.cF U U U ?_
   exact KW.ret U U U U (bad (fun hc=>by rw[tv_true hc.1] at k6;cases k6))
  have k6:=tv_iff.1 (by simpa using k6)
  refine KW.ldF 7 hv U U U U U U U U U ?_
  refine KW.getL hk.up U U U U U U U U U U U U U U U U (by omega) (by omega) (fun kk1 a'' m'' hkk1 hskk=>?_)
  have hkk1:ks[i]?=some kk1:=hkk1
  rw[hkk] at hkk1
  cases hkk1
  refine KW.callE U U U U U (l08Keys p k1.mat.pr (hBk.each kk (List.mem_of_getElem? hkk)) hv hskk) (fun _ _=>?_)
  refine KW.cndB U U (fun k7=>?_) (fun k7=>?_)
  ·exact KW.ret U U U U (by rw[k1.len] at k7;exact bad (fun hc=>by rw[tv_true hc.2] at k7;cases k7))
  rw[k1.len] at k7
  have k7:=tv_iff.1 (by simpa using k7)
  refine KW.nxt U U (fun H' g=>⟨i+1,⟨by omega,upto hj (fun b kk1 hb1 hk1=>by rw[hy] at hb1;rw[hkk] at hk1;cases hb1;cases hk1;exact⟨k6,k7⟩)⟩,by first | omega | (simp only;omega),⟨rfl,congrArg (Value.int .i64) (inc64 (by omega)),trivial⟩,g⟩)
 ·exact KW.ret U U U U (by rw[tv_true (p:=OkDeal h ow p c rows s bs ks) ⟨k1,k2,k3,k4,fun e b kk h1 h2=>hj e (by have:=(List.getElem?_eq_some_iff.1 h1).1;omega) b kk h1 h2⟩];rfl)
end
end Go.Proofs.YtlapbbffoapleaaGreat.Am
namespace Go.Proofs.YtlapbbffoapleaaGreat.Pl
def dF (w:List Int):Nat→List Int→Int
 | _,[]=>0
 | c,a :: t=>w.getD c 0*a+dF w (c+1) t
theorem sc_get {p b:Int} {w:List Int} {c:Nat}:(sc p b w).getD c 0=w.getD c 0*b%p:=by
 simp only[sc,List.getD_eq_getElem?_getD,List.getElem?_map]
 cases w[c]?<;>simp
theorem tk_get {p t:Int} {a b:List Int} (h:a.length=b.length) {c:Nat}:(tk p t a b).getD c 0=(a.getD c 0+(p-t)*b.getD c 0)%p:=by
 simp only[tk,List.getD_eq_getElem?_getD,List.getElem?_zipWith]
 rcases Nat.lt_or_ge c a.length with hc | hc
 ·rw[List.getElem?_eq_getElem hc,List.getElem?_eq_getElem (by omega)];simp
 ·rw[List.getElem?_eq_none hc,List.getElem?_eq_none (by omega)];simp
theorem mod_eq (a p:Int):∃k,a%p=a-p*k:=⟨a / p,by rw[Int.emod_def]⟩
theorem dF_sc {p b:Int} {w:List Int}:∀(t:List Int) (c:Nat),∃k,dF (sc p b w) c t=b*dF w c t+p*k
 | [],c=>⟨0,by simp[dF]⟩
 | a :: t,c=>by
  obtain⟨k,hk⟩:=dF_sc (p:=p) (b:=b) (w:=w) t (c+1)
  obtain⟨m,hm⟩:=mod_eq (w.getD c 0*b) p
  refine⟨k-m*a,?_⟩
  simp only[dF,hk,sc_get,hm]
  grind
theorem dF_tk {p s:Int} {a b:List Int} (h:a.length=b.length):∀(t:List Int) (c:Nat),∃k,dF (tk p s a b) c t=dF a c t-s*dF b c t+p*k
 | [],c=>⟨0,by simp[dF]⟩
 | x :: t,c=>by
  obtain⟨k,hk⟩:=dF_tk (p:=p) (s:=s) h t (c+1)
  obtain⟨m,hm⟩:=mod_eq (a.getD c 0+(p-s)*b.getD c 0) p
  refine⟨k+b.getD c 0*x-m*x,?_⟩
  simp only[dF,hk,tk_get h,hm]
  grind
def Sat (p:Int) (k:Nat) (w x:List Int):Prop:=∃m,dF w 0 x=w.getD k 0+p*m
theorem sat_iff {p:Int} {k:Nat} {w x:List Int}:Sat p k w x↔(dF w 0 x-w.getD k 0)%p=0:=by
 constructor
 ·rintro ⟨m,hm⟩
  rw[hm]
  have:w.getD k 0+p*m-w.getD k 0=p*m:=by omega
  rw[this]
  exact Int.mul_emod_right p m
 ·intro h
  obtain⟨m,hm⟩:=Int.dvd_of_emod_eq_zero h
  exact⟨m,by omega⟩
theorem sat_sc {p b:Int} {k:Nat} {w x:List Int} (h:Sat p k w x):Sat p k (sc p b w) x:=by
 obtain⟨m,hm⟩:=h
 obtain⟨j,hj⟩:=dF_sc (p:=p) (b:=b) (w:=w) x 0
 obtain⟨i,hi⟩:=mod_eq (w.getD k 0*b) p
 exact⟨b*m+j+i,by rw[hj,hm,sc_get,hi];grind⟩
theorem sat_sc' {p b b':Int} {k:Nat} {w x:List Int} (hb:∃q,b'*b=1+p*q) (h:Sat p k (sc p b w) x):Sat p k w x:=by
 obtain⟨m,hm⟩:=h
 obtain⟨j,hj⟩:=dF_sc (p:=p) (b:=b) (w:=w) x 0
 obtain⟨i,hi⟩:=mod_eq (w.getD k 0*b) p
 obtain⟨q,hq⟩:=hb
 rw[sc_get,hi,hj] at hm
 refine⟨b'*m-b'*j-b'*i-q*dF w 0 x+q*w.getD k 0,?_⟩
 have h1:b'*(b*dF w 0 x)=b'*(w.getD k 0*b-p*i+p*m-p*j):=by rw[← hm];grind
 grind
theorem sat_tk {p s:Int} {k:Nat} {a b x:List Int} (hl:a.length=b.length) (ha:Sat p k a x) (hb:Sat p k b x):Sat p k (tk p s a b) x:=by
 obtain⟨m,hm⟩:=ha
 obtain⟨q,hq⟩:=hb
 obtain⟨j,hj⟩:=dF_tk (p:=p) (s:=s) hl x 0
 obtain⟨i,hi⟩:=mod_eq (a.getD k 0+(p-s)*b.getD k 0) p
 exact⟨m-s*q+j+i-b.getD k 0,by rw[hj,hm,hq,tk_get hl,hi];grind⟩
theorem sat_tk' {p s:Int} {k:Nat} {a b x:List Int} (hl:a.length=b.length) (ha:Sat p k (tk p s a b) x) (hb:Sat p k b x):Sat p k a x:=by
 obtain⟨m,hm⟩:=ha
 obtain⟨q,hq⟩:=hb
 obtain⟨j,hj⟩:=dF_tk (p:=p) (s:=s) hl x 0
 obtain⟨i,hi⟩:=mod_eq (a.getD k 0+(p-s)*b.getD k 0) p
 rw[hj,hq,tk_get hl,hi] at hm
 exact⟨m+s*q-j-i+b.getD k 0,by grind⟩
def AllS (p:Int) (k:Nat) (L:List (List Int)) (x:List Int):Prop:=∀(j:Nat) r,L[j]?=some r→Sat p k r x
def Fer (p:Int):Prop:=2≤p∧∀a:Int,0<a→a<p→∃q,a*pw p a (p-2).toNat=1+p*q
theorem sw_get {L:List (List Int)} {n a:Nat} {u w:List Int} (hu:L[n]?=some u) (hw:L[a]?=some w) (j:Nat):(sw L n a)[j]?=if j=a then some u else if j=n then some w else L[j]?:=by
 obtain⟨h1,e1⟩:=List.getElem?_eq_some_iff.1 hu
 obtain⟨h2,e2⟩:=List.getElem?_eq_some_iff.1 hw
 have d1:L.getD n []=u:=by rw[List.getD_eq_getElem?_getD,hu];rfl
 have d2:L.getD a []=w:=by rw[List.getD_eq_getElem?_getD,hw];rfl
 simp only[sw,d1,d2]
 rw[List.getElem?_set]
 by_cases e:a=j
 ·subst e;rw[if_pos rfl,if_pos rfl,if_pos (by rw[List.length_set];exact h2)]
 ·rw[if_neg e,if_neg (Ne.symm e),List.getElem?_set]
  by_cases e':n=j
  ·subst e';rw[if_pos rfl,if_pos rfl,if_pos h1]
  ·rw[if_neg e',if_neg (Ne.symm e')]
theorem nz_val {L:List (List Int)} {c:Nat}:∀(d a:Nat),a+d=L.length→nz L c a<L.length→∃r,L[nz L c a]?=some r∧r.getD c 0≠0
 | 0,a,h,hl=>by rw[nz_end (by omega)] at hl;omega
 | d+1,a,h,hl=>by
  obtain⟨r,hr⟩:∃r,L[a]?=some r:=⟨L[a]'(by omega),List.getElem?_eq_getElem (by omega)⟩
  by_cases hz:r.getD c 0=0
  ·rw[← nz_step hr hz] at hl ⊢
   exact nz_val d (a+1) (by omega) hl
  ·rw[nz_stop hr hz]
   exact⟨r,hr,hz⟩
theorem nz_zero {L:List (List Int)} {c:Nat}:∀(d a:Nat),a+d=L.length→∀(j:Nat) r,a≤j→j<nz L c a→L[j]?=some r→r.getD c 0=0
 | 0,a,h,j,r,h1,h2,hr=>by rw[nz_end (by omega)] at h2;omega
 | d+1,a,h,j,r,h1,h2,hr=>by
  obtain⟨u,hu⟩:∃u,L[a]?=some u:=⟨L[a]'(by omega),List.getElem?_eq_getElem (by omega)⟩
  by_cases hz:u.getD c 0=0
  ·rw[← nz_step hu hz] at h2
   rcases Nat.eq_or_lt_of_le h1 with rfl | h3
   ·rw[hu] at hr;cases hr;exact hz
   ·exact nz_zero d (a+1) (by omega) j r (by omega) h2 hr
  ·rw[nz_stop hu hz] at h2;omega
theorem rnd_rows {p:Int} {K c n:Nat} {L L':List (List Int)} (hf:Fer p) (hL:Rect p K L) (hn:n≤L.length) (h:rnd p L c n=some L'):
  ∃(a:Nat) (u w:List Int) (b:Int),n≤a∧a<L.length∧L[n]?=some u∧L[a]?=some w∧w.getD c 0≠0∧(∃q,w.getD c 0*b=1+p*q)∧L'.length=L.length∧L'[n]?=some (sc p b w)∧
   (∀(j:Nat) v,n≤j→j<a→L[j]?=some v→v.getD c 0=0)∧
   ∀j,j≠n→L'[j]?=(if j=a then some u else L[j]?).map fun v=>tk p (v.getD c 0) v (sc p b w):=by
 unfold rnd at h
 split at h
 ·cases h
 ·rename_i hne
  have hnz:=nz_le (L:=L) (c:=c) (L.length-n) n (by omega)
  have hlt:nz L c n<L.length:=by omega
  obtain⟨w,hw,hw0⟩:=nz_val (L.length-n) n (by omega) hlt
  have hz:=nz_zero (L:=L) (c:=c) (L.length-n) n (by omega)
  obtain⟨a,ha⟩:∃a,nz L c n=a:=⟨_,rfl⟩
  rw[ha] at hw hz hnz hlt h
  obtain⟨u,hu⟩:∃u,L[n]?=some u:=⟨L[n]'(by omega),List.getElem?_eq_getElem (by omega)⟩
  have hswn:(sw L n a)[n]?=some w:=by
   rw[sw_get hu hw]
   split
   ·rename_i e;subst e;rw[hw] at hu;exact hu.symm
   ·rw[if_pos rfl]
  have hd:(sw L n a).getD n []=w:=by rw[List.getD_eq_getElem?_getD,hswn];rfl
  have hwin:=hL w (List.mem_of_getElem? hw)
  have hwc:0<w.getD c 0∧w.getD c 0<p:=by
   rcases Nat.lt_or_ge c w.length with hc | hc
   ·have h1:w.getD c 0=w[c]:=by rw[List.getD_eq_getElem?_getD,List.getElem?_eq_getElem hc];rfl
    have h2:=hwin.2 _ (List.getElem_mem hc)
    rw[← h1] at h2
    omega
   ·exact absurd (by rw[List.getD_eq_getElem?_getD,List.getElem?_eq_none hc];rfl) hw0
  have hlead:lead p L c n=sc p (pw p (w.getD c 0) (p-2).toNat) w:=by unfold lead;rw[ha,hd]
  rw[hlead] at h
  injection h with h
  obtain⟨b,hb⟩:∃b,pw p (w.getD c 0) (p-2).toNat=b:=⟨_,rfl⟩
  have hbq:=hf.2 _ hwc.1 hwc.2
  rw[hb] at h hbq
  have hlen:((sw L n a).set n (sc p b w)).length=L.length:=by rw[List.length_set,sw_len]
  refine⟨a,u,w,b,hnz.1,hlt,hu,hw,hw0,hbq,by rw[← h,tks_len,hlen],?_,fun j v h1 h2 hj=>hz j v h1 h2 hj,fun j hj=>?_⟩
  ·rw[← h,tks_get,List.getElem?_set,if_pos rfl,if_pos (by rw[sw_len];omega),Option.map_some,if_neg (by omega)]
  ·rw[← h,tks_get,List.getElem?_set,if_neg (Ne.symm hj),sw_get hu hw]
   rcases Nat.lt_or_ge j L.length with hjl | hjl
   ·congr 1
    ·funext v;rw[if_pos ⟨hjl,hj⟩]
    ·split
     ·rfl
     ·rfl
   ·rw[if_neg (by omega),if_neg hj,if_neg (by omega),List.getElem?_eq_none hjl];rfl
theorem rnd_sat {p:Int} {k c n:Nat} {L L':List (List Int)} (hf:Fer p) (hL:Rect p (k+1) L) (hn:n≤L.length) (h:rnd p L c n=some L') {x:List Int}:AllS p k L' x↔AllS p k L x:=by
 obtain⟨a,u,w,b,h1,h2,hu,hw,hw0,⟨q,hq⟩,hlen,hln,hz,hrest⟩:=rnd_rows hf hL hn h
 have hul:=(hL u (List.mem_of_getElem? hu)).1
 have hwl:=(hL w (List.mem_of_getElem? hw)).1
 have hscl:(sc p b w).length=w.length:=by simp[sc]
 constructor
 ·intro hs
  have s1:=hs n _ hln
  have s2:Sat p k w x:=sat_sc' ⟨q,hq⟩ s1
  have s3:∀(j:Nat) v,j≠n→(if j=a then some u else L[j]?)=some v→Sat p k v x:=fun j v hj hv=>by
   have hvl:v.length=k+1:=by
    split at hv
    ·cases hv;exact hul
    ·exact(hL v (List.mem_of_getElem? hv)).1
   exact sat_tk' (by rw[hscl,hvl,hwl]) (hs j _ (by rw[hrest j hj,hv];rfl)) s1
  intro j r hj
  by_cases e:j=a
  ·subst e;rw[hw] at hj;cases hj;exact s2
  ·by_cases e':j=n
   ·subst e'
    rw[hu] at hj;cases hj
    exact s3 a u (Ne.symm e) (if_pos rfl)
   ·exact s3 j r e' (by rw[if_neg e];exact hj)
 ·intro hs j r hj
  have s1:Sat p k (sc p b w) x:=sat_sc (hs a w hw)
  by_cases e:j=n
  ·subst e;rw[hln] at hj;cases hj;exact s1
  ·rw[hrest j e] at hj
   obtain⟨v,hv,rfl⟩:=Option.map_eq_some_iff.1 hj
   have hv2:Sat p k v x∧v.length=k+1:=by
    split at hv
    ·cases hv;exact⟨hs n _ hu,hul⟩
    ·exact⟨hs j _ hv,(hL v (List.mem_of_getElem? hv)).1⟩
   exact sat_tk (by rw[hscl,hv2.2,hwl]) hv2.1 s1
structure Ech (p:Int) (K c:Nat) (E:List (List Int)) (P:List Nat):Prop where
 rect:Rect p K E
 le:P.length≤E.length
 piv:∀(i q:Nat) r,P[i]?=some q→E[i]?=some r→q<c∧r.getD q 0=1∧∀j,j<q→r.getD j 0=0
 zero:∀(i:Nat) r,P.length≤i→E[i]?=some r→∀j,j<c→r.getD j 0=0
 red:∀(i q j:Nat) r,P[i]?=some q→j≠i→E[j]?=some r→r.getD q 0=0
theorem small_mod {p x:Int} (h:0≤x∧x<p):x%p=x:=Int.emod_eq_of_lt h.1 h.2
theorem Rect.el {p:Int} {K:Nat} {L:List (List Int)} (h:Rect p K L) (hp:0<p) {i:Nat} {r:List Int} (hr:L[i]?=some r) (c:Nat):0≤r.getD c 0∧r.getD c 0<p:=by
 rcases Nat.lt_or_ge c r.length with hc | hc
 ·rw[List.getD_eq_getElem?_getD,List.getElem?_eq_getElem hc]
  exact(h r (List.mem_of_getElem? hr)).2 _ (List.getElem_mem hc)
 ·rw[List.getD_eq_getElem?_getD,List.getElem?_eq_none hc];exact⟨Int.le_refl _,hp⟩
theorem Ech.none_ {p:Int} {K c:Nat} {E:List (List Int)} {P:List Nat} (h:Ech p K c E P) (hr:rnd p E c P.length=none):Ech p K (c+1) E P:=by
 have hz:nz E c P.length=E.length:=by
  unfold rnd at hr
  split at hr
  ·assumption
  ·cases hr
 refine⟨h.rect,h.le,fun i q r h1 h2=>⟨by have:=(h.piv i q r h1 h2).1;omega,(h.piv i q r h1 h2).2⟩,fun i r h1 h2 j hj=>?_,h.red⟩
 by_cases e:j=c
 ·subst e
  exact nz_zero (E.length-P.length) P.length (by have:=h.le;omega) i r h1 (by rw[hz];exact(List.getElem?_eq_some_iff.1 h2).1) h2
 ·exact h.zero i r h1 h2 j (by omega)
theorem Ech.some_ {p:Int} {K c:Nat} {E E':List (List Int)} {P:List Nat} (hf:Fer p) (h:Ech p K c E P) (hr:rnd p E c P.length=some E') (hR:Rect p K E'):Ech p K (c+1) E' (P++[c]):=by
 have hp:0<p:=by have:=hf.1;omega
 obtain⟨a,u,w,b,h1,h2,hu,hw,hw0,⟨q0,hq0⟩,hlen,hln,hz,hrest⟩:=rnd_rows hf h.rect h.le hr
 have hwz:∀j,j<c→w.getD j 0=0:=fun j hj=>h.zero a w h1 hw j hj
 have huz:∀j,j<c→u.getD j 0=0:=fun j hj=>h.zero _ u (Nat.le_refl _) hu j hj
 have hlz:∀j,j<c→(sc p b w).getD j 0=0:=fun j hj=>by rw[sc_get,hwz j hj];simp
 have hl1:(sc p b w).getD c 0=1:=by
  rw[sc_get,hq0,Int.add_mul_emod_self_left]
  exact Int.emod_eq_of_lt (by omega) (by have:=hf.1;omega)
 have hul:=(h.rect u (List.mem_of_getElem? hu)).1
 have hwl:=(h.rect w (List.mem_of_getElem? hw)).1
 have hscl:(sc p b w).length=w.length:=by simp[sc]
 have src:∀(j:Nat) r,j≠P.length→E'[j]?=some r→∃v i,E[i]?=some v∧(j<P.length→i=j)∧(P.length<j→P.length≤i)∧∀m,r.getD m 0=(v.getD m 0+(p-v.getD c 0)*(sc p b w).getD m 0)%p:=fun j r hj hr=>by
  rw[hrest j hj] at hr
  obtain⟨v,hv,rfl⟩:=Option.map_eq_some_iff.1 hr
  split at hv
  ·rename_i e
   cases hv
   exact⟨u,P.length,hu,fun h=>by omega,fun h=>Nat.le_refl _,fun m=>tk_get (by rw[hscl,hul,hwl])⟩
  ·exact⟨v,j,hv,fun h=>rfl,fun h=>by omega,fun m=>tk_get (by rw[hscl,(h.rect v (List.mem_of_getElem? hv)).1,hwl])⟩
 have low:∀(j:Nat) (r v:List Int) (i:Nat),E[i]?=some v→(∀m,r.getD m 0=(v.getD m 0+(p-v.getD c 0)*(sc p b w).getD m 0)%p)→∀m,m<c→r.getD m 0=v.getD m 0:=fun j r v i hv hm m hmc=>by
  rw[hm m,hlz m hmc,Int.mul_zero,Int.add_zero]
  exact small_mod (h.rect.el hp hv m)
 have atc:∀(r v:List Int) (i:Nat),E[i]?=some v→(∀m,r.getD m 0=(v.getD m 0+(p-v.getD c 0)*(sc p b w).getD m 0)%p)→r.getD c 0=0:=fun r v i hv hm=>by
  rw[hm c,hl1]
  have:v.getD c 0+(p-v.getD c 0)*1=p:=by omega
  rw[this,Int.emod_self]
 have hPl:(P++[c]).length=P.length+1:=by simp
 have split1:∀{i q:Nat},(P++[c])[i]?=some q→(i<P.length∧P[i]?=some q)∨(i=P.length∧q=c):=fun {i q} hi=>by
  rcases Nat.lt_or_ge i P.length with hl | hl
  ·rw[List.getElem?_append_left hl] at hi;exact .inl ⟨hl,hi⟩
  ·have:=(List.getElem?_eq_some_iff.1 hi).1
   rw[hPl] at this
   have e:i=P.length:=by omega
   subst e
   rw[List.getElem?_append_right (Nat.le_refl _)] at hi
   simp at hi
   exact .inr ⟨rfl,hi.symm⟩
 refine⟨hR,by rw[hPl,hlen];omega,fun i q r hi hr2=>?_,fun i r hi hr2 j hj=>?_,fun i q j r hi hj hr2=>?_⟩
 ·rcases split1 hi with⟨hl,hi⟩ | ⟨rfl,rfl⟩
  ·obtain⟨v,i',hv,e1,_,hm⟩:=src i r (by omega) hr2
   have e:=e1 hl
   subst e
   obtain⟨p1,p2,p3⟩:=h.piv i' q v hi hv
   refine⟨by omega,by rw[low i' r v i' hv hm q p1];exact p2,fun m hm'=>by rw[low i' r v i' hv hm m (by omega)];exact p3 m hm'⟩
  ·rw[hln] at hr2
   cases hr2
   exact⟨by omega,hl1,hlz⟩
 ·rw[hPl] at hi
  obtain⟨v,i',hv,_,e2,hm⟩:=src i r (by omega) hr2
  by_cases e:j=c
  ·subst e;exact atc r v i' hv hm
  ·rw[low i r v i' hv hm j (by omega)]
   exact h.zero i' v (e2 (by omega)) hv j (by omega)
 ·rcases split1 hi with⟨hl,hi⟩ | ⟨rfl,rfl⟩
  ·have hqc:q<c:=by
    obtain⟨v,hv⟩:∃v,E[i]?=some v:=⟨E[i]'(by have:=h.le;omega),List.getElem?_eq_getElem (by have:=h.le;omega)⟩
    exact(h.piv i q v hi hv).1
   by_cases e:j=P.length
   ·subst e;rw[hln] at hr2;cases hr2;exact hlz q hqc
   ·obtain⟨v,i',hv,e1,e2,hm⟩:=src j r e hr2
    rw[low j r v i' hv hm q hqc]
    refine h.red i q i' v hi (fun e'=>?_) hv
    rcases Nat.lt_or_ge j P.length with hjl | hjl
    ·exact hj (by rw[← e1 hjl];exact e')
    ·have:=e2 (by omega);omega
  ·obtain⟨v,i',hv,_,_,hm⟩:=src j r hj hr2
   exact atc r v i' hv hm
def Cg (p a b:Int):Prop:=∃k,a=b+p*k
theorem Cg.rfl' {p a:Int}:Cg p a a:=⟨0,by simp⟩
theorem Cg.symm {p a b:Int} (h:Cg p a b):Cg p b a:=by obtain⟨k,h⟩:=h;exact⟨-k,by rw[h];grind⟩
theorem Cg.trans {p a b c:Int} (h:Cg p a b) (h':Cg p b c):Cg p a c:=by
 obtain⟨k,h⟩:=h;obtain⟨j,h'⟩:=h';exact⟨k+j,by rw[h,h'];grind⟩
theorem Cg.add {p a b c d:Int} (h:Cg p a b) (h':Cg p c d):Cg p (a+c) (b+d):=by
 obtain⟨k,h⟩:=h;obtain⟨j,h'⟩:=h';exact⟨k+j,by rw[h,h'];grind⟩
theorem Cg.sub {p a b c d:Int} (h:Cg p a b) (h':Cg p c d):Cg p (a-c) (b-d):=by
 obtain⟨k,h⟩:=h;obtain⟨j,h'⟩:=h';exact⟨k-j,by rw[h,h'];grind⟩
theorem Cg.mul {p a b c d:Int} (h:Cg p a b) (h':Cg p c d):Cg p (a*c) (b*d):=by
 obtain⟨k,h⟩:=h;obtain⟨j,h'⟩:=h';exact⟨b*j+k*d+p*k*j,by rw[h,h'];grind⟩
theorem Cg.mod {p a:Int}:Cg p (a%p) a:=by obtain⟨k,h⟩:=mod_eq a p;exact⟨-k,by rw[h];grind⟩
theorem Cg.eq {p a b:Int} (h:Cg p a b) (ha:0≤a∧a<p) (hb:0≤b∧b<p):a=b:=by
 obtain⟨k,h⟩:=h
 have h1:a%p=b%p:=by rw[h,Int.add_mul_emod_self_left]
 rwa [Int.emod_eq_of_lt ha.1 ha.2,Int.emod_eq_of_lt hb.1 hb.2] at h1
theorem Cg.emod {p a b:Int} (h:Cg p a b):a%p=b%p:=by obtain⟨k,h⟩:=h;rw[h,Int.add_mul_emod_self_left]
theorem Cg.of {p a b:Int} (h:a%p=b%p):Cg p a b:=by
 obtain⟨k,hk⟩:=mod_eq a p
 obtain⟨j,hj⟩:=mod_eq b p
 exact⟨k-j,by rw[hk,hj] at h;grind⟩
def lcS:List (List Int)→List Int→Nat→Int
 | r :: L,c :: cs,j=>c*r.getD j 0+lcS L cs j
 | _,_,_=>0
theorem lcS_sc {p b:Int} {j:Nat}:∀(L:List (List Int)) (cs:List Int),Cg p (lcS L (sc p b cs) j) (b*lcS L cs j)
 | [],_=>by simp only[lcS];exact⟨0,by simp⟩
 | _ :: _,[]=>by simp only[sc,List.map_nil,lcS];exact⟨0,by simp⟩
 | r :: L,c :: cs=>by
  have ih:=lcS_sc (p:=p) (b:=b) (j:=j) L cs
  simp only[sc,List.map_cons,lcS] at ih ⊢
  refine(((Cg.mod (p:=p) (a:=c*b)).mul Cg.rfl').add ih).trans ⟨0,by grind⟩
theorem lcS_tk {p s:Int} {j:Nat}:∀(L:List (List Int)) (a b:List Int),a.length=b.length→Cg p (lcS L (tk p s a b) j) (lcS L a j-s*lcS L b j)
 | [],_,_,_=>by simp only[lcS];exact⟨0,by simp⟩
 | _ :: _,[],[],_=>by simp only[tk,List.zipWith_nil_left,lcS];exact⟨0,by simp⟩
 | r :: L,x :: a,y :: b,h=>by
  have ih:=lcS_tk (p:=p) (s:=s) (j:=j) L a b (by simpa using h)
  simp only[tk,List.zipWith_cons_cons,lcS] at ih ⊢
  refine(((Cg.mod (p:=p) (a:=x+(p-s)*y)).mul Cg.rfl').add ih).trans ⟨y*r.getD j 0,by grind⟩
 | _ :: _,[],_ :: _,h=>by simp at h
 | _ :: _,_ :: _,[],h=>by simp at h
theorem lcS_zero {j:Nat}:∀(L:List (List Int)) (n:Nat),lcS L (List.replicate n 0) j=0
 | [],_=>by simp[lcS]
 | _ :: _,0=>by simp[lcS]
 | r :: L,n+1=>by simp[lcS,List.replicate_succ,lcS_zero L n]
theorem lcS_unit {j:Nat}:∀(L:List (List Int)) (i n:Nat),i<L.length→i<n→lcS L ((List.replicate n 0).set i 1) j=(L.getD i []).getD j 0
 | [],i,_,h,_=>by simp at h
 | r :: L,0,n+1,h,hn=>by simp[lcS,List.replicate_succ,lcS_zero L n]
 | r :: L,i+1,n+1,h,hn=>by
  have ih:=lcS_unit (j:=j) L i n (by simpa using h) (by omega)
  simp only[lcS,List.replicate_succ,List.set_cons_succ,ih]
  simp
def fz (r:List Int):Nat:=r.findIdx (fun a=>decide (a≠0))
theorem fz_le {r:List Int}:fz r≤r.length:=List.findIdx_le_length
theorem fz_at {r:List Int} (h:fz r<r.length):r.getD (fz r) 0≠0:=by
 have:=List.findIdx_getElem (w:=h)
 rw[List.getD_eq_getElem?_getD,List.getElem?_eq_getElem h]
 simpa [fz] using this
theorem fz_zero {r:List Int} (h:fz r=r.length) (j:Nat):r.getD j 0=0:=by
 rcases Nat.lt_or_ge j r.length with hj | hj
 ·have:=List.not_of_lt_findIdx (p:=fun a:Int=>decide (a≠0)) (xs:=r) (i:=j) (by show j<fz r;omega)
  rw[List.getD_eq_getElem?_getD,List.getElem?_eq_getElem hj]
  simpa using this
 ·rw[List.getD_eq_getElem?_getD,List.getElem?_eq_none hj];rfl
theorem fz_of_zero {r:List Int} (h:∀j,r.getD j 0=0):fz r=r.length:=by
 have:=fz_le (r:=r)
 rcases Nat.lt_or_ge (fz r) r.length with hj | hj
 ·exact absurd (h _) (fz_at hj)
 ·omega
abbrev PrT:=List Int × List Int
def stp (p:Int) (x b:PrT):PrT:=if x.1.getD (fz b.1) 0≠0 then(tk p (x.1.getD (fz b.1) 0) x.1 b.1,tk p (x.1.getD (fz b.1) 0) x.2 b.2) else x
def less (p:Int) (B:List PrT) (x:PrT):PrT:=B.foldl (stp p) x
def nrm (p:Int) (x:PrT):PrT:=(sc p (pw p (x.1.getD (fz x.1) 0) (p-2).toNat) x.1,sc p (pw p (x.1.getD (fz x.1) 0) (p-2).toNat) x.2)
def unitR (n i:Nat):List Int:=(List.replicate n 0).set i 1
def insR (p:Int) (B:List PrT) (x:PrT):List PrT:=if fz (less p B x).1<(less p B x).1.length then B++[nrm p (less p B x)] else B
def basN (p:Int) (L:List (List Int)):Nat→List PrT
 | 0=>[]
 | m+1=>insR p (basN p L m) (L.getD m [],unitR L.length m)
def leftC (p:Int) (L:List (List Int)) (t:List Int):PrT:=less p (basN p L L.length) (t,List.replicate L.length 0)
def comb (p:Int) (L:List (List Int)) (t:List Int):Option (List Int):=if fz (leftC p L t).1<(leftC p L t).1.length then none else some (sc p (p-1) (leftC p L t).2)
def PrOk (p:Int) (k n:Nat) (x:PrT):Prop:=(x.1.length=k∧∀a∈x.1,0≤a∧a<p)∧(x.2.length=n∧∀a∈x.2,0≤a∧a<p)
theorem stp_ok {p:Int} {k n:Nat} {x b:PrT} (hp:0<p) (hx:PrOk p k n x) (hb:PrOk p k n b):PrOk p k n (stp p x b):=by
 unfold stp
 split
 ·exact⟨tk_ok hp hx.1.1 hb.1.1,tk_ok hp hx.2.1 hb.2.1⟩
 ·exact hx
theorem less_ok {p:Int} {k n:Nat} (hp:0<p):∀(B:List PrT) (x:PrT),(∀b∈B,PrOk p k n b)→PrOk p k n x→PrOk p k n (less p B x)
 | [],x,_,hx=>hx
 | b :: B,x,hB,hx=>less_ok hp B (stp p x b) (fun c hc=>hB c (List.mem_cons_of_mem _ hc)) (stp_ok hp hx (hB b List.mem_cons_self))
theorem less_snoc {p:Int} {B:List PrT} {b x:PrT}:less p (B++[b]) x=stp p (less p B x) b:=by simp[less]
theorem nrm_ok {p:Int} {k n:Nat} {x:PrT} (hp:0<p) (hx:PrOk p k n x):PrOk p k n (nrm p x):=⟨sc_ok hp hx.1,sc_ok hp hx.2⟩
def Say (p:Int) (L:List (List Int)) (τ:Nat→Int) (x:PrT):Prop:=∀j,Cg p (lcS L x.2 j) (x.1.getD j 0-τ j)
theorem tk_cg {p s:Int} {a b:List Int} (h:a.length=b.length) {j:Nat}:Cg p ((tk p s a b).getD j 0) (a.getD j 0-s*b.getD j 0):=by
 rw[tk_get h]
 exact Cg.mod.trans ⟨b.getD j 0,by grind⟩
theorem stp_say {p:Int} {k n:Nat} {L:List (List Int)} {τ:Nat→Int} {x b:PrT} (hx:PrOk p k n x) (hb:PrOk p k n b) (h:Say p L τ x) (h':Say p L (fun _=>0) b):Say p L τ (stp p x b):=by
 unfold stp
 split
 ·intro j
  refine(lcS_tk L _ _ (hx.2.1.trans hb.2.1.symm)).trans (((h j).sub (Cg.rfl'.mul (h' j))).trans ?_)
  refine Cg.trans ⟨0,?_⟩ ((tk_cg (s:=x.1.getD (fz b.1) 0) (hx.1.1.trans hb.1.1.symm) (j:=j)).symm.sub Cg.rfl')
  grind
 ·exact h
theorem less_say {p:Int} {k n:Nat} {L:List (List Int)} {τ:Nat→Int} (hp:0<p):∀(B:List PrT) (x:PrT),(∀b∈B,PrOk p k n b∧Say p L (fun _=>0) b)→PrOk p k n x→Say p L τ x→Say p L τ (less p B x)
 | [],x,_,_,h=>h
 | b :: B,x,hB,hx,h=>by
  have hb:=hB b List.mem_cons_self
  exact less_say hp B (stp p x b) (fun c hc=>hB c (List.mem_cons_of_mem _ hc)) (stp_ok hp hx hb.1) (stp_say hx hb.1 h hb.2)
theorem sc_cg {p b:Int} {w:List Int} {j:Nat}:Cg p ((sc p b w).getD j 0) (b*w.getD j 0):=by
 rw[sc_get]
 exact Cg.mod.trans ⟨0,by grind⟩
theorem nrm_say {p:Int} {L:List (List Int)} {x:PrT} (h:Say p L (fun _=>0) x):Say p L (fun _=>0) (nrm p x):=fun j=>by
 refine(lcS_sc L x.2).trans (((Cg.rfl' (a:=pw p (x.1.getD (fz x.1) 0) (p-2).toNat)).mul (h j)).trans ?_)
 exact Cg.trans ⟨0,by grind⟩ (sc_cg.symm.sub Cg.rfl')
theorem unitR_ok {p:Int} {n i:Nat} (hp:2≤p):(unitR n i).length=n∧∀a∈unitR n i,0≤a∧a<p:=by
 refine⟨by simp[unitR],fun a ha=>?_⟩
 rcases List.mem_or_eq_of_mem_set ha with h | h
 ·rw[List.eq_of_mem_replicate h];omega
 ·rw[h];omega
theorem row_ok {p:Int} {k:Nat} {L:List (List Int)} (hp:2≤p) (hL:Rect p k L) {m:Nat} (hm:m<L.length):PrOk p k L.length (L.getD m [],unitR L.length m):=⟨hL.getD hm,unitR_ok hp⟩
theorem fz_eq {r:List Int} {i:Nat} (hi:r.getD i 0≠0) (h:∀j,j<i→r.getD j 0=0):fz r=i:=by
 have hl:i<r.length:=by
  rcases Nat.lt_or_ge i r.length with h1 | h1
  ·exact h1
  ·exact absurd (by rw[List.getD_eq_getElem?_getD,List.getElem?_eq_none h1];rfl) hi
 have h1:=fz_le (r:=r)
 rcases Nat.lt_trichotomy (fz r) i with h2 | h2 | h2
 ·exact absurd (h _ h2) (fz_at (by omega))
 ·exact h2
 ·have:=List.not_of_lt_findIdx (p:=fun a:Int=>decide (a≠0)) (xs:=r) (i:=i) h2
  rw[List.getD_eq_getElem?_getD,List.getElem?_eq_getElem hl] at hi
  exact absurd (by simpa using this) hi
theorem fz_before {r:List Int} {j:Nat} (h:j<fz r):r.getD j 0=0:=by
 have h1:=fz_le (r:=r)
 have:=List.not_of_lt_findIdx (p:=fun a:Int=>decide (a≠0)) (xs:=r) (i:=j) h
 rw[List.getD_eq_getElem?_getD,List.getElem?_eq_getElem (by omega)]
 simpa using this
theorem el_ok {p:Int} {k:Nat} {r:List Int} (hp:0<p) (h:r.length=k∧∀a∈r,0≤a∧a<p) (j:Nat):0≤r.getD j 0∧r.getD j 0<p:=by
 rcases Nat.lt_or_ge j r.length with hj | hj
 ·rw[List.getD_eq_getElem?_getD,List.getElem?_eq_getElem hj]
  exact h.2 _ (List.getElem_mem hj)
 ·rw[List.getD_eq_getElem?_getD,List.getElem?_eq_none hj]
  exact⟨Int.le_refl 0,hp⟩
theorem nrm_one {p:Int} {k n:Nat} {x:PrT} (hf:Fer p) (hx:PrOk p k n x) (h:fz x.1<x.1.length):(nrm p x).1.getD (fz x.1) 0=1:=by
 have hp:=hf.1
 have h0:=fz_at h
 have h1:=el_ok (by omega) hx.1 (fz x.1)
 obtain⟨q,hq⟩:=hf.2 (x.1.getD (fz x.1) 0) (by omega) h1.2
 show(sc _ _ _).getD _ 0=1
 rw[sc_get,hq,Int.add_mul_emod_self_left]
 exact Int.emod_eq_of_lt (by omega) (by omega)
theorem nrm_fz {p:Int} {k n:Nat} {x:PrT} (hf:Fer p) (hx:PrOk p k n x) (h:fz x.1<x.1.length):fz (nrm p x).1=fz x.1:=by
 refine fz_eq (by rw[nrm_one hf hx h];decide) fun j hj=>?_
 show(sc _ _ _).getD _ 0=0
 rw[sc_get,fz_before hj,Int.zero_mul,Int.zero_emod]
theorem basN_ok {p:Int} {k:Nat} {L:List (List Int)} (hf:Fer p) (hL:Rect p k L):∀m,m≤L.length→∀b∈basN p L m,(PrOk p k L.length b∧fz b.1<k)∧Say p L (fun _=>0) b
 | 0,_=>fun b hb=>by simp[basN] at hb
 | m+1,hm=>fun b hb=>by
  have hp:=hf.1
  have ih:=basN_ok hf hL m (by omega)
  have hr:=row_ok hp hL (by omega:m<L.length)
  have hl:=less_ok (by omega:0<p) (basN p L m) _ (fun b hb=>(ih b hb).1.1) hr
  have hs:Say p L (fun _=>0) (L.getD m [],unitR L.length m):=fun j=>⟨0,by
   show lcS L (unitR L.length m) j=_
   rw[unitR,lcS_unit L m _ (by omega) (by omega)];simp⟩
  have hy:=less_say (by omega:0<p) (basN p L m) _ (fun b hb=>⟨(ih b hb).1.1,(ih b hb).2⟩) hr hs
  simp only[basN,insR] at hb
  split at hb
  ·rename_i h
   rcases List.mem_append.1 hb with hb | hb
   ·exact ih b hb
   ·rw[List.mem_singleton.1 hb]
    refine⟨⟨nrm_ok (by omega) hl,?_⟩,nrm_say hy⟩
    rw[nrm_fz hf hl h]
    have:=hl.1.1
    omega
  ·exact ih b hb
theorem basN_len {p:Int} {L:List (List Int)}:∀m,(basN p L m).length≤m
 | 0=>Nat.le_refl _
 | m+1=>by
  have:=basN_len (p:=p) (L:=L) m
  simp only[basN,insR]
  split
  ·simp;omega
  ·omega
theorem zero_ok {p:Int} {n:Nat} (hp:0<p):(List.replicate n (0:Int)).length=n∧∀a∈List.replicate n (0:Int),0≤a∧a<p:=⟨by simp,fun a ha=>by rw[List.eq_of_mem_replicate ha];exact⟨Int.le_refl 0,hp⟩⟩
theorem leftC_ok {p:Int} {k:Nat} {L:List (List Int)} {t:List Int} (hf:Fer p) (hL:Rect p k L) (ht:t.length=k∧∀a∈t,0≤a∧a<p):PrOk p k L.length (leftC p L t):=by
 have hp:=hf.1
 exact less_ok (by omega) _ _ (fun b hb=>(basN_ok hf hL _ (Nat.le_refl _) b hb).1.1) ⟨ht,zero_ok (by omega)⟩
theorem comb_sound {p:Int} {k:Nat} {L:List (List Int)} {t cs:List Int} (hf:Fer p) (hL:Rect p k L) (ht:t.length=k∧∀a∈t,0≤a∧a<p) (h:comb p L t=some cs):
  (cs.length=L.length∧∀a∈cs,0≤a∧a<p)∧∀j,Cg p (lcS L cs j) (t.getD j 0):=by
 have hp:=hf.1
 have ok:=leftC_ok hf hL ht
 unfold comb at h
 split at h
 ·cases h
 ·rename_i hz
  obtain rfl:=Option.some.inj h
  refine⟨sc_ok (by omega) ok.2,fun j=>?_⟩
  have hy:Say p L (fun j=>t.getD j 0) (leftC p L t):=less_say (by omega) _ _ (fun b hb=>⟨(basN_ok hf hL _ (Nat.le_refl _) b hb).1.1,(basN_ok hf hL _ (Nat.le_refl _) b hb).2⟩) ⟨ht,zero_ok (by omega)⟩ (fun j=>⟨0,by
   show lcS L (List.replicate L.length 0) j=_
   rw[lcS_zero]
   show(0:Int)=t.getD j 0-t.getD j 0+p*0
   simp⟩)
  have h0:(leftC p L t).1.getD j 0=0:=fz_zero (by have:=fz_le (r:=(leftC p L t).1);omega) j
  have h1:=hy j
  rw[h0] at h1
  refine(lcS_sc L _).trans ((Cg.rfl'.mul h1).trans ⟨- t.getD j 0,?_⟩)
  grind
def st1 (p:Int) (b v:List Int):List Int:=if v.getD (fz b) 0≠0 then tk p (v.getD (fz b) 0) v b else v
def red (p:Int):List PrT→List Int→List Int
 | [],v=>v
 | b :: B,v=>red p B (st1 p b.1 v)
theorem red_less {p:Int}:∀(B:List PrT) (x:PrT),(less p B x).1=red p B x.1
 | [],x=>rfl
 | b :: B,x=>by
  show(less p B (stp p x b)).1=red p B (st1 p b.1 x.1)
  rw[red_less B]
  congr 1
  unfold stp st1
  split<;>rfl
theorem red_snoc {p:Int} {b:PrT}:∀(B:List PrT) (v:List Int),red p (B++[b]) v=st1 p b.1 (red p B v)
 | [],v=>rfl
 | c :: B,v=>red_snoc B (st1 p c.1 v)
theorem st1_cg {p:Int} {b v:List Int} (h:v.length=b.length) (j:Nat):Cg p ((st1 p b v).getD j 0) (v.getD j 0-v.getD (fz b) 0*b.getD j 0):=by
 unfold st1
 split
 ·exact tk_cg h
 ·rename_i h0
  rw[show v.getD (fz b) 0=0 from Decidable.not_not.1 h0]
  exact⟨0,by simp⟩
theorem st1_ok {p:Int} {k:Nat} {b v:List Int} (hp:0<p) (hb:b.length=k) (hv:v.length=k∧∀a∈v,0≤a∧a<p):(st1 p b v).length=k∧∀a∈st1 p b v,0≤a∧a<p:=by
 unfold st1
 split
 ·exact tk_ok hp hv.1 hb
 ·exact hv
theorem lc_st1 {p:Int} {k:Nat} {b:List Int} (hb:b.length=k) {j:Nat}:∀(L:List (List Int)) (c:List Int),(∀r∈L,r.length=k)→Cg p (lcS (L.map (st1 p b)) c j) (lcS L c j-lcS L c (fz b)*b.getD j 0)
 | [],c,_=>by simp only[List.map_nil,lcS];exact⟨0,by simp⟩
 | r :: L,[],_=>by simp only[List.map_cons,lcS];exact⟨0,by simp⟩
 | r :: L,c :: cs,h=>by
  have ih:=lc_st1 (p:=p) hb (j:=j) L cs (fun r hr=>h r (List.mem_cons_of_mem _ hr))
  have h1:=st1_cg (p:=p) ((h r List.mem_cons_self).trans hb.symm) j
  simp only[List.map_cons,lcS]
  exact((Cg.rfl'.mul h1).add ih).trans ⟨0,by grind⟩
theorem red_lin {p:Int} {k:Nat} (hp:0<p):∀(B:List PrT),(∀b∈B,b.1.length=k)→∀(L:List (List Int)) (c v:List Int),Rect p k L→(v.length=k∧∀a∈v,0≤a∧a<p)→(∀j,Cg p (v.getD j 0) (lcS L c j))→∀j,Cg p ((red p B v).getD j 0) (lcS (L.map (red p B)) c j)
 | [],_,L,c,v,_,_,h=>fun j=>by
  rw[show L.map (red p [])=L from List.map_id L]
  exact h j
 | b :: B,hB,L,c,v,hL,hv,h=>by
  have hb:=hB b List.mem_cons_self
  have h1:∀r∈L,r.length=k:=fun r hr=>(hL r hr).1
  have:=red_lin hp B (fun c hc=>hB c (List.mem_cons_of_mem _ hc)) (L.map (st1 p b.1)) c (st1 p b.1 v) (fun r hr=>by
   obtain⟨q,hq,rfl⟩:=List.mem_map.1 hr
   exact st1_ok hp hb (hL q hq)) (st1_ok hp hb hv) (fun j=>by
   refine(st1_cg (hv.1.trans hb.symm) j).trans (((h j).sub ((h (fz b.1)).mul Cg.rfl')).trans ?_)
   exact(lc_st1 hb L c h1).symm)
  rw[List.map_map] at this
  exact this
theorem st1_zero {p:Int} {b v:List Int} (h:∀j,v.getD j 0=0):st1 p b v=v:=by
 unfold st1
 rw[if_neg (by rw[h];simp)]
theorem red_zero {p:Int} {k:Nat} {L:List (List Int)} (hf:Fer p) (hL:Rect p k L):∀m,m≤L.length→∀i,i<m→∀j,(red p (basN p L m) (L.getD i [])).getD j 0=0
 | 0,_=>fun i hi=>by omega
 | m+1,hm=>fun i hi=>by
  have hp:=hf.1
  have ih:=red_zero hf hL m (by omega)
  have ok:=basN_ok hf hL m (by omega)
  have hr:=row_ok hp hL (by omega:m<L.length)
  have hl:=less_ok (by omega:0<p) (basN p L m) _ (fun b hb=>(ok b hb).1.1) hr
  simp only[basN,insR]
  split
  ·rename_i h
   intro j
   rw[red_snoc]
   rcases Nat.lt_or_ge i m with h1 | h1
   ·rw[st1_zero (ih i h1)];exact ih i h1 j
   ·obtain rfl:i=m:=by omega
    rw[← red_less (x:=(L.getD i [],unitR L.length i))]
    obtain⟨x,hx⟩:∃x,less p (basN p L i) (L.getD i [],unitR L.length i)=x:=⟨_,rfl⟩
    rw[hx] at h hl ⊢
    have h0:=fz_at h
    have e:=nrm_fz hf hl h
    have hn:=nrm_ok (by omega) hl
    have in1:=st1_ok (by omega:0<p) hn.1.1 hl.1
    have el:=el_ok (by omega) in1 j
    refine Cg.eq ((st1_cg (hl.1.1.trans hn.1.1.symm) j).trans ?_) el ⟨Int.le_refl 0,by omega⟩
    rw[e]
    have h1:=el_ok (by omega) hl.1 (fz x.1)
    obtain⟨q,hq⟩:=hf.2 (x.1.getD (fz x.1) 0) (by omega) h1.2
    refine(Cg.rfl'.sub (Cg.rfl'.mul (sc_cg (b:=pw p (x.1.getD (fz x.1) 0) (p-2).toNat)))).trans ⟨-(q*x.1.getD j 0),?_⟩
    grind
  ·rename_i h
   intro j
   rcases Nat.lt_or_ge i m with h1 | h1
   ·exact ih i h1 j
   ·obtain rfl:i=m:=by omega
    rw[← red_less (x:=(L.getD i [],unitR L.length i))]
    exact fz_zero (by have:=fz_le (r:=(less p (basN p L i) (L.getD i [],unitR L.length i)).1);omega) j
theorem lcS_all0 {j:Nat}:∀(L:List (List Int)) (c:List Int),(∀r∈L,r.getD j 0=0)→lcS L c j=0
 | [],_,_=>by simp[lcS]
 | _ :: _,[],_=>by simp[lcS]
 | r :: L,c :: cs,h=>by
  simp only[lcS]
  rw[h r List.mem_cons_self,lcS_all0 L cs (fun r hr=>h r (List.mem_cons_of_mem _ hr))]
  simp
theorem comb_complete {p:Int} {k:Nat} {L:List (List Int)} {t cs:List Int} (hf:Fer p) (hL:Rect p k L) (ht:t.length=k∧∀a∈t,0≤a∧a<p) (h:∀j,Cg p (lcS L cs j) (t.getD j 0)):comb p L t≠none:=by
 have hp:=hf.1
 have ok:=basN_ok hf hL _ (Nat.le_refl L.length)
 have okl:=leftC_ok hf hL ht
 have h1:=red_lin (by omega:0<p) (basN p L L.length) (fun b hb=>(ok b hb).1.1.1.1) L cs t hL ht (fun j=>(h j).symm)
 have e:(leftC p L t).1=red p (basN p L L.length) t:=red_less _ _
 have h2:∀j,(leftC p L t).1.getD j 0=0:=fun j=>by
  refine Cg.eq ?_ (el_ok (by omega) okl.1 j) ⟨Int.le_refl 0,by omega⟩
  rw[e]
  refine(h1 j).trans ?_
  rw[lcS_all0]
  ·exact Cg.rfl'
  ·intro r hr
   obtain⟨q,hq,rfl⟩:=List.mem_map.1 hr
   obtain⟨i,hi,rfl⟩:=List.mem_iff_getElem.1 hq
   have:=red_zero hf hL _ (Nat.le_refl L.length) i hi j
   rw[show L.getD i []=L[i] by rw[List.getD_eq_getElem?_getD,List.getElem?_eq_getElem hi];rfl] at this
   exact this
 unfold comb
 rw[fz_of_zero h2,if_neg (by omega)]
 exact fun h=>by cases h
def dL:List Int→List Int→Int
 | c :: cs,h :: hs=>c*h+dL cs hs
 | _,_=>0
theorem dF_dL:∀(cs hs pre:List Int),cs.length=hs.length→dF (pre++cs) pre.length hs=dL cs hs
 | [],[],_,_=>rfl
 | c :: cs,h :: hs,pre,e=>by
  have ih:=dF_dL cs hs (pre++[c]) (by simpa using e)
  simp only[List.length_append,List.length_cons,List.length_nil,Nat.zero_add,List.append_assoc,List.cons_append,List.nil_append] at ih
  simp only[dF,dL]
  rw[ih]
  congr 1
  rw[List.getD_eq_getElem?_getD,List.getElem?_append_right (Nat.le_refl _),Nat.sub_self]
  simp only[List.getElem?_cons_zero,Option.getD_some]
 | [],_ :: _,_,e=>by simp at e
 | _ :: _,[],_,e=>by simp at e
def wS (f:Nat→Int):Nat→List Int→Int
 | _,[]=>0
 | c,a :: t=>f c*a+wS f (c+1) t
theorem wS_dF {w:List Int}:∀(t:List Int) (c:Nat),dF w c t=wS (fun j=>w.getD j 0) c t
 | [],_=>rfl
 | a :: t,c=>by simp only[dF,wS,wS_dF t (c+1)]
theorem wS_cg {p:Int} {f g:Nat→Int} (h:∀j,Cg p (f j) (g j)):∀(t:List Int) (c:Nat),Cg p (wS f c t) (wS g c t)
 | [],_=>Cg.rfl'
 | a :: t,c=>((h c).mul Cg.rfl').add (wS_cg h t (c+1))
theorem wS_add {f g:Nat→Int} {a:Int}:∀(t:List Int) (c:Nat),wS (fun j=>a*f j+g j) c t=a*wS f c t+wS g c t
 | [],_=>by simp[wS]
 | b :: t,c=>by simp only[wS,wS_add t (c+1)];grind
theorem wS_zero:∀(t:List Int) (c:Nat),wS (fun _=>0) c t=0
 | [],_=>rfl
 | b :: t,c=>by simp only[wS,wS_zero t (c+1)];simp
theorem val_lc {p:Int} {x:List Int}:∀(L:List (List Int)) (cs held:List Int),L.length=held.length→(∀(i:Nat) r v,L[i]?=some r→held[i]?=some v→Cg p (dF r 0 x) v)→Cg p (dL cs held) (wS (lcS L cs) 0 x)
 | [],[],_,_,_=>by
  show Cg p 0 (wS (fun _=>0) 0 x)
  rw[wS_zero];exact Cg.rfl'
 | [],c :: cs,[],_,_=>by
  show Cg p 0 (wS (fun _=>0) 0 x)
  rw[wS_zero];exact Cg.rfl'
 | r :: L,[],_,_,_=>by
  show Cg p 0 (wS (fun _=>0) 0 x)
  rw[wS_zero];exact Cg.rfl'
 | r :: L,c :: cs,h :: hs,e,H=>by
  have ih:=val_lc (p:=p) (x:=x) L cs hs (by simpa using e) (fun i r v hr hv=>H (i+1) r v (by simpa using hr) (by simpa using hv))
  have h0:=H 0 r h U U
  show Cg p (c*h+dL cs hs) (wS (fun j=>c*r.getD j 0+lcS L cs j) 0 x)
  rw[wS_add,← wS_dF]
  exact(Cg.rfl'.mul h0.symm).add ih
 | [],_ :: _,_ :: _,e,_=>by simp at e
 | _ :: _,_ :: _,[],e,_=>by simp at e
end Go.Proofs.YtlapbbffoapleaaGreat.Pl
namespace Go.Proofs.YtlapbbffoapleaaGreat.Am
open Go Go.RowKit Go.Proofs Go.Proofs.YtlapbbffoapleaaGreat.Pl
structure Wr (xs ys:List Int) (n i:Nat) (cs:List Value):Prop where
 len:cs.length=n
 done:∀(j:Nat) y,j<i→ys[j]?=some y→cs[j]?=some (.int .i64 y)
 rest:∀(j:Nat) x,i≤j→xs[j]?=some x→cs[j]?=some (.int .i64 x)
theorem Wr.next {xs ys:List Int} {n i:Nat} {cs:List Value} {v:Value} {y:Int} (h:Wr xs ys n i cs) (hi:i<n) (hy:ys[i]?=some y) (hv:v=.int .i64 y):Wr xs ys n (i+1) (cs.set (0+i*1) v):=by
 have hl:=h.len
 rw[Nat.zero_add,Nat.mul_one]
 refine⟨by simp[hl],fun j z hj hz=>?_,fun j x hj hx=>?_⟩
 ·by_cases e:i=j
  ·subst e
   rw[hy] at hz
   cases hz
   rw[List.getElem?_set_self (by omega),hv]
  ·rw[List.getElem?_set_ne e]
   exact h.done j z (by omega) hz
 ·rw[List.getElem?_set_ne (by omega)]
  exact h.rest j x (by omega) hx
theorem mul_in {x y:Int} (hx:0≤x∧x≤31) (hy:0≤y∧y≤31):0≤x*y∧x*y≤961:=
 ⟨Int.mul_nonneg hx.1 hy.1,Int.le_trans (Int.mul_le_mul_of_nonneg_right hx.2 hy.1) (by omega)⟩
theorem tk_length {p t:Int} {xs ys:List Int} (h:xs.length=ys.length):(tk p t xs ys).length=xs.length:=by simp[tk,h]
theorem tk_at {p t:Int} {xs ys:List Int} {i:Nat} {x y:Int} (hx:xs[i]?=some x) (hy:ys[i]?=some y):(tk p t xs ys)[i]?=some ((x+(p-t)*y)%p):=by
 simp[tk,List.getElem?_zipWith,hx,hy]
section
variable {S:Ids} {H0:AH}
theorem scaled {W:Ids} {p b:Int} (hp:2≤p∧p≤31) (hb:0≤b∧b<p) {a c} {xs:List Int} (hl:xs.length≤4194304) (hx:∀x∈xs,0≤x∧x<p) (hW:∀id,W id→S id) (hs:KI.Ml W H0 (.slice a xs.length c) xs):
  SpecW Tryz.prog S H0 W 193 [.int .i64 p,.slice a xs.length c,.int .i64 b] (fun n v H1=>KI.Ml W H1 (.slice a xs.length c) (sc p b xs)):=by
 rcases hs with⟨rfl,a0,c0,he,ha⟩ | ⟨o,c1,bb,Ws,he,h2,h3,h4,h5,h6,h7,h8,h9⟩
 ·refine SpecM.w ?_
  refine SpecM.of Tryz.func193 rfl (by kernel_rfl) rfl (fun H hfin hfz=>?_)
  refine KW.lp U U (fun _:Unit=>[(0,.int .i64 p),(1,.slice a 0 c),(2,.int .i64 b),(8,.int .i64 0),(9,.int .i64 0)]) (fun _=>True) (fun _=>0) (()) (trivial) ⟨rfl,rfl,rfl,rfl,rfl,trivial⟩ (fun _ hi bE n=>?_)
  refine KW.cF U U (by first | (simp;done) | decide) ?_
  exact KW.endM U U U U (fun id hid=>⟨hid,rfl⟩) (fun H1 g=>.inl ⟨rfl,a,c,rfl,by cases he;exact ha⟩)
 ·cases he
  obtain⟨ty,rw,cells⟩:=bb
  obtain rfl:rw=true:=h5
  have h6:xs.length*1≤cells.length:=h6
  have hget:∀(i:Nat) x,xs[i]?=some x→cells[i]?=some (.int .i64 x):=fun i x hx=>by
   have h:=cell_of (m:=0+i*1) (h9 i x hx)
   rw[Nat.zero_add,Nat.mul_one] at h
   exact h
  refine SpecW.of Tryz.func193 rfl (by kernel_rfl) rfl (hW o h3) h4 (fun H hfin hfz=>?_)
  refine KW.lpM U U (fun s:(Nat × List Value)=>[(0,.int .i64 p),(1,.slice (some ⟨o,0,some 1⟩) xs.length c),(2,.int .i64 b),(8,.int .i64 xs.length),(9,.int .i64 s.1)]) (fun s=>fun i=>Low H.n i∧i≠o) (fun s=>H) (fun s=>[(o,⟨_,true,s.2⟩)]) (fun s=>s.1≤xs.length∧Wr xs (sc p b xs) cells.length s.1 s.2) (fun s=>xs.length-s.1) ((0,cells)) (⟨by omega,rfl,fun j y hj=>absurd hj (Nat.not_lt_zero _),fun j x _ h=>hget j x h⟩) ⟨rfl,rfl,rfl,rfl,rfl,trivial⟩ U U (rfl) (fun s hi bE n=>?_)
  obtain⟨i,cs⟩:=s
  obtain⟨hi0,hi1⟩:=hi
  simp only at hi0 hi1
  have hcl:=hi1.len
  refine KW.cnd U U (fun h=>?_) (fun h=>?_)
  ·have h:(i:Int)<xs.length:=h
   obtain⟨x,hx1⟩:∃x,xs[i]?=some x:=⟨xs[i]'(by omega),List.getElem?_eq_getElem (by omega)⟩
   have hxb:=hx x (List.mem_of_getElem? hx1)
   have hm:=mul_in (x:=x) (y:=b) (by omega) (by omega)
   refine KW.idx0 U U U U U U U U U (by omega) (h) ?_
   refine KW.ldT 0 U U U U U U (bload_at (by rw[Nat.zero_add,Nat.mul_one];exact hi1.rest i x (Nat.le_refl _) hx1) U U) ?_
   refine KW.rem U U U U U U (by rw[wr (by omega) (by omega)];exact hm.1) (by omega) ?_
   refine KW.idx0 U U U U U U U U U (by omega) (h) ?_
   refine KW.st1 0 U U U U U U U U U U U U (by simp only;omega) ?_
   refine KW.nxt U U (fun H' g=>⟨(i+1,_),⟨by simp only;omega,hi1.next (by omega) (y:=x*b%p) (by simp[sc,hx1]) (congrArg (fun z=>Value.int .i64 (z%p)) (wr (by omega) (by omega)))⟩,by first | omega | (simp only;omega),⟨rfl,rfl,rfl,rfl,congrArg (Value.int .i64) (inc64 (by omega)),trivial⟩,g⟩)
  ·obtain rfl:i=xs.length:=by have h:¬(i:Int)<xs.length:=h;omega
   refine KW.endW U U U U (fun H1 g=>g.nle1 (j:=0) rfl) (fun id hid hw=>⟨⟨hid,fun e=>hw (by subst e;exact h3)⟩,rfl⟩) (fun H1 g=>?_)
   have hb:=g.blk (j:=0) rfl
   have el:(sc p b xs).length=xs.length:=by simp[sc]
   rw[← el]
   exact mlI_of h3 hb.1 rfl (by rw[el];exact h2) (by rw[el];simp only;omega) (fun j y hy=>hi1.done j y (by have:=(List.getElem?_eq_some_iff.1 hy).1;omega) hy)
theorem takeOff {W X:Ids} {p t:Int} (hp:2≤p∧p≤31) (ht:0≤t∧t<p) {a c a2 c2} {xs ys:List Int} (hxy:xs.length=ys.length) (hy:∀y∈ys,0≤y∧y<p) (hX:∀id,X id→S id∧¬W id) (hs2:KI.Sl X H0 (.slice a2 ys.length c2) ys) (hl:xs.length≤4194304) (hx:∀x∈xs,0≤x∧x<p) (hW:∀id,W id→S id) (hs:KI.Ml W H0 (.slice a xs.length c) xs):
  SpecW Tryz.prog S H0 W 191 [.int .i64 p,.slice a xs.length c,.slice a2 ys.length c2,.int .i64 t] (fun n v H1=>KI.Ml W H1 (.slice a xs.length c) (tk p t xs ys)):=by
 rcases hs with⟨rfl,a0,c0,he,ha⟩ | ⟨o,c1,bb,Ws,he,h2,h3,h4,h5,h6,h7,h8,h9⟩
 ·obtain rfl:ys=[]:=List.eq_nil_of_length_eq_zero hxy.symm
  refine SpecM.w ?_
  refine SpecM.of Tryz.func191 rfl (by kernel_rfl) rfl (fun H hfin hfz=>?_)
  refine KW.lp U U (fun _:Unit=>[(0,.int .i64 p),(1,.slice a 0 c),(2,.slice a2 0 c2),(3,.int .i64 t),(10,.slice a2 0 c2),(11,.int .i64 0),(12,.int .i64 0)]) (fun _=>True) (fun _=>0) (()) (trivial) ⟨rfl,rfl,rfl,rfl,rfl,rfl,rfl,trivial⟩ (fun _ hi bE n=>?_)
  refine KW.cF U U (by first | (simp;done) | decide) ?_
  exact KW.endM U U U U (fun id hid=>⟨hid,rfl⟩) (fun H1 g=>.inl ⟨rfl,a,c,rfl,by cases he;exact ha⟩)
 ·cases he
  obtain⟨ty,rw,cells⟩:=bb
  obtain rfl:rw=true:=h5
  have h6:xs.length*1≤cells.length:=h6
  have hget:∀(i:Nat) x,xs[i]?=some x→cells[i]?=some (.int .i64 x):=fun i x hx=>by
   have h:=cell_of (m:=0+i*1) (h9 i x hx)
   rw[Nat.zero_add,Nat.mul_one] at h
   exact h
  refine SpecW.of Tryz.func191 rfl (by kernel_rfl) rfl (hW o h3) h4 (fun H hfin hfz=>?_)
  have hs3:KI.Sl (fun i=>Low H.n i∧i≠o) H (.slice a2 ys.length c2) ys:=(hs2.same (fun id hid=>(hfz id (hX id hid).1).2)).more (fun id hid=>⟨(hfz id (hX id hid).1).1,fun e=>(hX id hid).2 (by rw[e];exact h3)⟩)
  refine KW.lpM U U (fun s:(Nat × List Value)=>[(0,.int .i64 p),(1,.slice (some ⟨o,0,some 1⟩) xs.length c),(2,.slice a2 ys.length c2),(3,.int .i64 t),(10,.slice a2 ys.length c2),(11,.int .i64 ys.length),(12,.int .i64 s.1)]) (fun s=>fun i=>Low H.n i∧i≠o) (fun s=>H) (fun s=>[(o,⟨_,true,s.2⟩)]) (fun s=>s.1≤xs.length∧Wr xs (tk p t xs ys) cells.length s.1 s.2) (fun s=>xs.length-s.1) ((0,cells)) (⟨by omega,rfl,fun j y hj=>absurd hj (Nat.not_lt_zero _),fun j x _ h=>hget j x h⟩) ⟨rfl,rfl,rfl,rfl,rfl,rfl,rfl,trivial⟩ U U (rfl) (fun s hi bE n=>?_)
  obtain⟨i,cs⟩:=s
  obtain⟨hi0,hi1⟩:=hi
  simp only at hi0 hi1
  have hcl:=hi1.len
  refine KW.cnd U U (fun h=>?_) (fun h=>?_)
  ·have h:(i:Int)<xs.length:=by have h:(i:Int)<ys.length:=h;omega
   obtain⟨x,hx1⟩:∃x,xs[i]?=some x:=⟨xs[i]'(by omega),List.getElem?_eq_getElem (by omega)⟩
   have hxb:=hx x (List.mem_of_getElem? hx1)
   refine KW.getI hs3 U U U U U U U U U U U U U U U U (by omega) (by omega) (fun y hy1=>?_)
   have hy1:ys[i]?=some y:=hy1
   have hyb:=hy y (List.mem_of_getElem? hy1)
   have hm:=mul_in (x:=p-t) (y:=y) (by omega) (by omega)
   have ew:IntKind.i64.wrap (x+IntKind.i64.wrap (IntKind.i64.wrap (p-t)*y))=x+(p-t)*y:=by rw[wr (x:=p-t) (by omega) (by omega),wr (x:=(p-t)*y) (by omega) (by omega),wr (by omega) (by omega)]
   refine KW.idx0 U U U U U U U U U (by omega) (h) ?_
   refine KW.ldT 0 U U U U U U (bload_at (by rw[Nat.zero_add,Nat.mul_one];exact hi1.rest i x (Nat.le_refl _) hx1) U U) ?_
   refine KW.rem U U U U U U (by rw[ew];omega) (by omega) ?_
   refine KW.idx0 U U U U U U U U U (by omega) (h) ?_
   refine KW.st1 0 U U U U U U U U U U U U (by simp only;omega) ?_
   refine KW.nxt U U (fun H' g=>⟨(i+1,_),⟨by simp only;omega,hi1.next (by omega) (y:=(x+(p-t)*y)%p) (tk_at hx1 hy1) (congrArg (fun z=>Value.int .i64 (z%p)) ew)⟩,by first | omega | (simp only;omega),⟨rfl,rfl,rfl,rfl,rfl,rfl,congrArg (Value.int .i64) (inc64 (by omega)),trivial⟩,g⟩)
  ·obtain rfl:i=xs.length:=by have h:¬(i:Int)<ys.length:=h;omega
   refine KW.endW U U U U (fun H1 g=>g.nle1 (j:=0) rfl) (fun id hid hw=>⟨⟨hid,fun e=>hw (by subst e;exact h3)⟩,rfl⟩) (fun H1 g=>?_)
   have hb:=g.blk (j:=0) rfl
   have el:(tk p t xs ys).length=xs.length:=tk_length hxy
   rw[← el]
   exact mlI_of h3 hb.1 rfl (by rw[el];exact h2) (by rw[el];simp only;omega) (fun j y hy=>hi1.done j y (by have:=(List.getElem?_eq_some_iff.1 hy).1;omega) hy)
theorem power (p a z:Int) (hp:2≤p∧p≤31) (ha:0≤a∧a<p) (hz:0≤z∧z≤1000):Spec Tryz.prog S H0 229 [.int .i64 p,.int .i64 a,.int .i64 z] (fun v=>v=.int .i64 (pw p a z.toNat)):=by
 refine Spec.of1 Tryz.func229 rfl (by kernel_rfl) rfl (fun H _=>?_)
 obtain⟨q,rfl⟩:∃q:Nat,z=q:=⟨z.toNat,by omega⟩
 refine KW.rem U U U U U U (by decide) (by omega) ?_
 have e1:(1:Int)%p=1:=Int.emod_eq_of_lt (by omega) (by omega)
 refine KW.lp U U (fun i:Nat=>[(0,.int .i64 p),(1,.int .i64 a),(2,.int .i64 q),(7,.int .i64 (pw p a i)),(10,.int .i64 q),(11,.int .i64 i)]) (fun i=>i≤q) (fun i=>q-i) (0) (Nat.zero_le _) ⟨rfl,rfl,rfl,congrArg (Value.int .i64) e1,rfl,rfl,trivial⟩ (fun i hi bE n=>?_)
 refine KW.cnd U U (fun h=>?_) (fun h=>?_)
 ·have h:(i:Int)<q:=h
  have hw:=pw_ok (a:=a) hp.1 i
  have hm:=mul_in (x:=pw p a i) (y:=a) (by omega) (by omega)
  refine KW.rem U U U U U U (by rw[wr (by omega) (by omega)];exact hm.1) (by omega) ?_
  refine KW.nxt U U (fun H' g=>⟨i+1,by omega,by first | omega | (simp only;omega),⟨rfl,rfl,rfl,congrArg (fun z=>Value.int .i64 (z%p)) (wr (by omega) (by omega)),rfl,congrArg (Value.int .i64) (inc64 (by omega)),trivial⟩,g⟩)
 ·obtain rfl:i=q:=by have h:¬(i:Int)<q:=h;omega
  exact KW.ret U U U U (rfl)
theorem inverse (p a:Int) (hp:2≤p∧p≤31) (ha:0≤a∧a<p):Spec Tryz.prog S H0 192 [.int .i64 p,.int .i64 a] (fun v=>v=.int .i64 (pw p a (p-2).toNat)):=by
 refine Spec.of1 Tryz.func192 rfl (by kernel_rfl) rfl (fun H _=>?_)
 have ew:IntKind.i64.wrap (p-2)=p-2:=wr (by omega) (by omega)
 refine KW.callE U U U U U (power p a _ hp ha (by rw[ew];omega)) (fun _ _=>?_)
 exact KW.ret U U U U (by rw[ew];rfl)
theorem l03Power (p a z:Int) (hp:2≤p∧p≤31) (ha:0≤a∧a<p) (hz:0≤z∧z≤1000):Spec Tryz.prog S H0 213 [.int .i64 p,.int .i64 a,.int .i64 z] (fun v=>v=.int .i64 (pw p a z.toNat)):=by
 refine Spec.of1 Tryz.func213 rfl (by kernel_rfl) rfl (fun H _=>?_)
 obtain⟨q,rfl⟩:∃q:Nat,z=q:=⟨z.toNat,by omega⟩
 refine KW.lp U U (fun i:Nat=>[(0,.int .i64 p),(1,.int .i64 a),(2,.int .i64 ((q:Int)-i)),(7,.int .i64 (pw p a i))]) (fun i=>i≤q) (fun i=>q-i) (0) (Nat.zero_le _) ⟨rfl,rfl,congrArg (Value.int .i64) (by simp),rfl,trivial⟩ (fun i hi bE n=>?_)
 refine KW.cnd U U (fun h=>?_) (fun h=>?_)
 ·have h:(0:Int)<(q:Int)-i:=h
  have hw:=pw_ok (a:=a) hp.1 i
  have hm:=mul_in (x:=pw p a i) (y:=a) (by omega) (by omega)
  refine KW.rem U U U U U U (by rw[wr (by omega) (by omega)];exact hm.1) (by omega) ?_
  refine KW.nxt U U (fun H' g=>⟨i+1,by omega,by first | omega | (simp only;omega),⟨rfl,rfl,vI (by omega) (by omega) (by omega),congrArg (fun z=>Value.int .i64 (z%p)) (wr (by omega) (by omega)),trivial⟩,g⟩)
 ·obtain rfl:i=q:=by have h:¬(0:Int)<(q:Int)-i:=h;omega
  exact KW.ret U U U U (rfl)
end
end Go.Proofs.YtlapbbffoapleaaGreat.Am
namespace Go.Proofs.YtlapbbffoapleaaGreat.Am
open Go Go.RowKit
theorem fold_put (cs:List Value):∀(pre rest:List Value),cs.length≤rest.length→List.foldl (fun(a:Array Value) (p:Value × Nat)=>a.setIfInBounds (0+p.2) p.1) (pre++rest).toArray (cs.zipIdx pre.length)=(pre++cs++rest.drop cs.length).toArray:=by
 induction cs with
 | nil=>intro pre rest _;simp
 | cons c cs ih=>
  intro pre rest h
  match rest,h with
  | r :: rest,h=>
   rw[List.zipIdx_cons,List.foldl_cons]
   have e:(pre++r :: rest).toArray.setIfInBounds (0+pre.length) c=((pre++[c])++rest).toArray:=by
    rw[Nat.zero_add]
    simp
   simp only at e ⊢
   rw[e]
   have:=ih (pre++[c]) rest (by simpa using h)
   rw[List.length_append,List.length_singleton] at this
   rw[this]
   simp
theorem fill_one {z:Array Value} {cs:List Value} {s:Nat} (hz:z.size=s) (hs:cs.length=s):Instr.fill (fun j=>some (j*s,s)) z [(0,.agg cs.toArray)]=some cs.toArray:=by
 have hc:(Value.agg cs.toArray).cells=cs.toArray:=rfl
 simp only[Instr.fill,hc]
 rw[if_neg (by simp;omega)]
 congr 1
 have h:=fold_put cs [] z.toList (by simp;omega)
 simp only[List.nil_append,List.length_nil] at h
 have e:z.toList.drop cs.length=[]:=List.drop_eq_nil_of_le (by simp;omega)
 rw[e,List.append_nil] at h
 refine Eq.trans ?_ h
 simp[Nat.zero_mul]
section
variable {P:Program} {S:Ids} {H0:AH} {Q:PostC} {k k1:List It} {e e1:Env} {T T1:List Var} {n n1:Nat} {l1 r1:List Nat} {d1:Tmp}
theorem KW.litS0 {o:Oper} {dr:Bool} {t el:TypeId} {m:Nat} {parts:Array (Nat × Operand)} {inf:TypeInfo} {z:Value} (h:Go1 P k e T n (.op o dr) k1 e1 T1 n1 l1 r1) (hlr:l1=r1) (ho:o.op=.buildSlice t m parts) (hd:o.dst=some d1)
  (hu:P.underlying t=some (.slice el)) (hi:P.info? el=some inf) (hz:inf.zero=some z) (hzo:zeroOkL P el=true) (hp:(parts.toList.map fun p=>(p.1,ev e1 p.2))=[]) (hm:m=0)
  (hk:KW P S H0 Q (n1+1) (T1++[(n1,⟨el,true,[]⟩)]) k1 (put1 e1 d1 (.slice (some ⟨n1,0,some inf.size⟩) 0 0))):KW P S H0 Q n T k e:=by
 refine KW.go h hlr (KEvt.heap (c:=⟨_,_,_,_,_,_⟩) _ _ _ (by rw[ho];exact .inl rfl) (fun H g=>⟨none,_,?_,g.push _⟩) (by rw[hd,put1_eq];exact hk))
 rw[ho]
 subst hm
 have h1:(zarr z 0).size=0:=by simp[zarr]
 simp only[hop,hp,alit,hu,hi,hz,Nat.zero_mul,Instr.fill,g.n_]
 rw[if_pos ⟨zeroOkL_ok hzo,by omega⟩]
 simp only[h1,if_true]
 have h2:(zarr z 0).toList=[]:=List.eq_nil_of_length_eq_zero (by simpa using h1)
 rw[h2]
theorem KW.litS1 {o:Oper} {dr:Bool} {t el:TypeId} {m:Nat} {parts:Array (Nat × Operand)} {inf:TypeInfo} {z:Value} {cs:List Value} (h:Go1 P k e T n (.op o dr) k1 e1 T1 n1 l1 r1) (hlr:l1=r1) (ho:o.op=.buildSlice t m parts) (hd:o.dst=some d1)
  (hu:P.underlying t=some (.slice el)) (hi:P.info? el=some inf) (hz:inf.zero=some z) (hzo:zeroOkL P el=true) (hp:(parts.toList.map fun p=>(p.1,ev e1 p.2))=[(0,.agg cs.toArray)]) (hm:m=1) (hs:inf.size=cs.length) (hle:Nat.ble cs.length 16777216=true)
  (hk:KW P S H0 Q (n1+1) (T1++[(n1,⟨el,true,cs⟩)]) k1 (put1 e1 d1 (.slice (some ⟨n1,0,some inf.size⟩) 1 1))):KW P S H0 Q n T k e:=by
 refine KW.go h hlr (KEvt.heap (c:=⟨_,_,_,_,_,_⟩) _ _ _ (by rw[ho];exact .inl rfl) (fun H g=>⟨none,_,?_,g.push _⟩) (by rw[hd,put1_eq];exact hk))
 rw[ho]
 subst hm
 have hle:=Nat.le_of_ble_eq_true hle
 have h1:(zarr z (1*inf.size)).size=inf.size:=by simp[zarr]
 simp only[hop,hp,alit,hu,hi,hz,fill_one h1 hs.symm,g.n_]
 rw[if_pos ⟨zeroOkL_ok hzo,by omega⟩]
 simp[hs]
theorem KW.appNS {o:Oper} {dr:Bool} {t el:TypeId} {x y:Operand} {inf:TypeInfo} {m:Nat} {ys:List Value} (h:Go1 P k e T n (.op o dr) k1 e1 T1 n1 l1 r1) (hlr:l1=r1) (ho:o.op=.call {callee:=.builtin .append,args:=#[x,y],argTypes:=#[t,t]}) (hd:o.dst=some d1) (hx:ev e1 x=.slice none 0 0)
  (hu:P.underlying t=some (.slice el)) (hi:P.info? el=some inf) (hs:0<inf.size) (hzo:zeroOkL P el=true) (hy:∀H,Good S H0 T1 n1 H→acells H (ev e1 y) inf.size=some (m,ys)) (hone:ys.all Value.oneCell'=true) (hm:m≠0) (hb:m*inf.bytes≤140737488355328) (hml:m≤9223372036854775807)
  (hk:KW P S H0 Q (n1+1) (T1++[(n1,⟨el,true,ys⟩)]) k1 (put1 e1 d1 (.slice (some ⟨n1,0,some inf.size⟩) m m))):KW P S H0 Q n T k e:=by
 refine KW.go h hlr (KEvt.heap (c:=⟨_,_,_,_,_,_⟩) _ _ _ (by rw[ho];exact .inr rfl) (fun H g=>⟨none,_,?_,g.push _⟩) (by rw[hd,put1_eq];exact hk))
 rw[ho]
 have h1:=hy H g
 simp only[hop,aapp,aappend,hu,hi,hx,h1]
 rw[if_pos trivial,if_pos ⟨zeroOkL_ok hzo,hs,hone⟩,if_neg hm,if_pos ⟨hml,hb⟩,g.n_]
theorem KW.appTS {o:Oper} {dr:Bool} {t el:TypeId} {x y:Operand} {inf:TypeInfo} {m len c id off:Nat} {xs ys:List Value} (j:Nat) (h:Go1 P k e T n (.op o dr) k1 e1 T1 n1 l1 r1) (hlr:l1=r1) (ho:o.op=.call {callee:=.builtin .append,args:=#[x,y],argTypes:=#[t,t]}) (hd:o.dst=some d1) (hu:P.underlying t=some (.slice el)) (hi:P.info? el=some inf) (hx:ev e1 x=.slice (some ⟨id,off,some inf.size⟩) len c) (hT:T1[j]?=some (id,⟨el,true,xs⟩))
  (hs:0<inf.size) (hzo:zeroOkL P el=true) (hy:∀H,Good S H0 T1 n1 H→acells H (ev e1 y) inf.size=some (m,ys)) (hlen:off+len*inf.size≤xs.length) (hone:ys.all Value.oneCell'=true) (hm:m≠0) (hb:(len+m)*inf.bytes≤140737488355328) (hml:len+m≤9223372036854775807)
  (hk:KW P S H0 Q (n1+1) (T1.set j (n1,⟨el,true,(xs.drop off).take (len*inf.size)++ys⟩)) k1 (put1 e1 d1 (.slice (some ⟨n1,0,some inf.size⟩) (len+m) (len+m)))):KW P S H0 Q n T k e:=by
 refine KW.go h hlr (KEvt.heap (c:=⟨_,_,_,_,_,_⟩) _ _ _ (by rw[ho];exact .inr rfl) (fun H g=>⟨none,_,?_,g.move hT _⟩) (by rw[hd,put1_eq];exact hk))
 rw[ho]
 have h1:=hy H g
 have h2:=(g.blk hT).1
 simp only[hop,aapp,aappend,hu,hi,hx,h1,h2]
 rw[if_pos trivial,if_pos ⟨zeroOkL_ok hzo,hs,hone⟩,if_neg hm,if_pos ⟨trivial,trivial,trivial,hlen,hml,hb⟩]
 simp only[AH.kill,g.n_]
theorem KW.appZS {o:Oper} {dr:Bool} {t el:TypeId} {x y:Operand} {inf:TypeInfo} {a:Option Addr} {len c:Nat} (h:Go1 P k e T n (.op o dr) k1 e1 T1 n1 l1 r1) (hlr:l1=r1) (ho:o.op=.call {callee:=.builtin .append,args:=#[x,y],argTypes:=#[t,t]}) (hd:o.dst=some d1) (hx:ev e1 x=.slice a len c) (ha:(∃id off es,a=some ⟨id,off,some es⟩)∨(a=none∧len=0∧c=0))
  (hu:P.underlying t=some (.slice el)) (hi:P.info? el=some inf) (hs:0<inf.size) (hzo:zeroOkL P el=true) (hy:∀H,Good S H0 T1 n1 H→acells H (ev e1 y) inf.size=some (0,[]))
  (hk:KW P S H0 Q n1 T1 k1 (put1 e1 d1 (.slice a len c))):KW P S H0 Q n T k e:=by
 refine KW.go h hlr (KEvt.heap (c:=⟨_,_,_,_,_,_⟩) _ _ _ (by rw[ho];exact .inr rfl) (fun H g=>⟨none,_,?_,g⟩) (by rw[hd,put1_eq];exact hk))
 rw[ho]
 have h1:=hy H g
 simp only[hop,aapp,aappend,hu,hi,hx,h1]
 rw[if_pos trivial,if_pos ⟨zeroOkL_ok hzo,hs,rfl⟩]
 rcases ha with⟨id,off,es,rfl⟩ | ⟨rfl,rfl,rfl⟩
 ·simp
 ·simp
theorem KW.appI {o:Oper} {dr:Bool} {t el:TypeId} {x y:Operand} {inf:TypeInfo} {m len c id off:Nat} {ty:TypeId} {xs ys:List Value} (j:Nat) (h:Go1 P k e T n (.op o dr) k1 e1 T1 n1 l1 r1) (hlr:l1=r1) (ho:o.op=.call {callee:=.builtin .append,args:=#[x,y],argTypes:=#[t,t]}) (hd:o.dst=some d1) (hu:P.underlying t=some (.slice el)) (hi:P.info? el=some inf) (hx:ev e1 x=.slice (some ⟨id,off,some inf.size⟩) len c) (hT:T1[j]?=some (id,⟨ty,true,xs⟩))
  (hy:∀H,Good S H0 T1 n1 H→acells H (ev e1 y) inf.size=some (m,ys)) (hc:len+m≤c) (hlen:off+len*inf.size+ys.length≤xs.length) (hone:ys.all Value.oneCell'=true)
  (hk:KW P S H0 Q n1 (T1.set j (id,⟨ty,true,splice xs (off+len*inf.size) ys⟩)) k1 (put1 e1 d1 (.slice (some ⟨id,off,some inf.size⟩) (len+m) c))):KW P S H0 Q n T k e:=by
 refine KW.go h hlr (KEvt.heap (c:=⟨_,_,_,_,_,_⟩) _ (T1.set j (id,⟨ty,true,splice xs (off+len*inf.size) ys⟩)) n1 (by rw[ho];exact .inr rfl) (fun H g=>⟨some 0,_,?_,g.set hT _⟩) (by rw[hd,put1_eq];exact hk))
 rw[ho]
 have h1:=hy H g
 have h2:=(g.blk hT).1
 simp only[hop,aapp,aappendI,hu,hi,hx,h1,h2]
 rw[if_pos trivial,if_pos ⟨trivial,trivial,hc,hlen,hone⟩]
theorem acells_seg {H:AH} {id off m c es:Nat} {b:Blk} (hb:H.m id=some b) (hl:off+m*es≤b.cells.length):acells H (.slice (some ⟨id,off,some es⟩) m c) es=some (m,(b.cells.drop off).take (m*es)):=by
 cases m with
 | zero=>simp[acells]
 | succ m=>
  simp only[acells,if_true,hb]
  rw[if_pos hl]
theorem acells_nil (H:AH) (a:Option Addr) (c es:Nat):acells H (.slice a 0 c) es=some (0,[]):=by
 simp[acells]
theorem KW.cut3 {o:Oper} {dr:Bool} {t el:TypeId} {x y z w:Operand} {inf:TypeInfo} {id off es len c l h_ m:Nat} (h:Go1 P k e T n (.op o dr) k1 e1 T1 n1 l1 r1) (hlr:l1=r1) (ho:o.op=.slice t x (some y) (some z) (some w)) (hd:o.dst=some d1) (hx:ev e1 x=.slice (some ⟨id,off,some es⟩) len c) {kl kh km:IntKind} {il ih im:Int} (hl:ev e1 y=.int kl il) (hh:ev e1 z=.int kh ih) (hm:ev e1 w=.int km im)
  (hu:P.underlying t=some (.slice el)) (hi:P.info? el=some inf) (he:inf.size=es) (e1_:il=l) (e2_:ih=h_) (e3_:im=m) (h1:l≤h_) (h2:h_≤m) (h3:m≤c) (hk:∀v,KW P S H0 Q n1 T1 k1 (put1 e1 d1 v)):KW P S H0 Q n T k e:=by
 subst e1_ e2_ e3_
 have hp:∃v,acut3 P t (ev e1 x) (ev e1 y) (ev e1 z) (ev e1 w)=some v:=by
  unfold acut3
  simp only[hu,hx,hi,hl,hh,hm,abound]
  rw[if_pos ⟨by omega,by omega⟩]
  simp only
  rw[if_pos ⟨by omega,by omega⟩]
  simp only
  rw[if_pos ⟨by omega,by omega⟩]
  simp only
  rw[if_pos he.symm]
  split<;>exact⟨_,rfl⟩
 obtain⟨v,hv⟩:=hp
 exact KW.pure h hlr ho hd rfl v (by simp only[pop];exact hv) (hk v)
theorem KW.cutM {o:Oper} {dr:Bool} {t el:TypeId} {x y z:Operand} {inf:TypeInfo} {id off es len c l h_:Nat} (h:Go1 P k e T n (.op o dr) k1 e1 T1 n1 l1 r1) (hlr:l1=r1) (ho:o.op=.slice t x (some y) (some z) none) (hd:o.dst=some d1) (hx:ev e1 x=.slice (some ⟨id,off,some es⟩) len c) {kl kh:IntKind} {il ih:Int} (hl:ev e1 y=.int kl il) (hh:ev e1 z=.int kh ih)
  (hu:P.underlying t=some (.slice el)) (hi:P.info? el=some inf) (he:inf.size=es) (e1_:il=l) (e2_:ih=h_) (h1:l≤h_) (h2:h_≤c) (h0:l<c) (hk:KW P S H0 Q n1 T1 k1 (put1 e1 d1 (.slice (some ⟨id,off+l*es,some es⟩) (h_-l) (c-l)))):KW P S H0 Q n T k e:=by
 subst e1_ e2_
 refine KW.pure h hlr ho hd rfl _ ?_ hk
 simp only[pop,Option.map,acut,hu,hx,hi,hl,hh,bHi,bLo,abound]
 rw[if_pos ⟨by omega,by omega⟩]
 simp only
 rw[if_pos ⟨by omega,by omega⟩]
 simp only
 rw[if_pos he.symm]
 by_cases hl0:l=0
 ·subst hl0
  rw[if_pos (by simp)]
  simp[he]
 ·rw[if_neg (by simpa using hl0),if_neg (by simp;omega)]
  simp[he]
theorem KW.cutF {o:Oper} {dr:Bool} {t el:TypeId} {x y:Operand} {inf:TypeInfo} {id off es len c l:Nat} (h:Go1 P k e T n (.op o dr) k1 e1 T1 n1 l1 r1) (hlr:l1=r1) (ho:o.op=.slice t x (some y) none none) (hd:o.dst=some d1) (hx:ev e1 x=.slice (some ⟨id,off,some es⟩) len c) {kl:IntKind} {il:Int} (hl:ev e1 y=.int kl il)
  (hu:P.underlying t=some (.slice el)) (hi:P.info? el=some inf) (he:inf.size=es) (e1_:il=l) (h1:l≤len) (hc:len≤c) (hk:∀v,(v=.slice (some ⟨id,off+l*es,some es⟩) (len-l) (c-l)∨(len-l=0∧∃a q,v=.slice a 0 q))→KW P S H0 Q n1 T1 k1 (put1 e1 d1 v)):KW P S H0 Q n T k e:=by
 subst e1_
 by_cases hl0:l=0
 ·subst hl0
  refine KW.pure h hlr ho hd rfl (.slice (some ⟨id,off,some es⟩) len c) ?_ (hk _ (.inl (by simp)))
  simp only[pop,Option.map,acut,hu,hx,hi,hl,bHi,bLo,abound]
  rw[if_pos ⟨by omega,by omega⟩]
  simp[he]
 ·by_cases hlc:c=l
  ·refine KW.pure h hlr ho hd rfl (.slice (some ⟨id,off,none⟩) 0 0) ?_ (hk _ (.inr ⟨by omega,_,_,rfl⟩))
   simp only[pop,Option.map,acut,hu,hx,hi,hl,bHi,bLo,abound]
   rw[if_pos ⟨by omega,by omega⟩]
   simp only
   rw[if_pos he.symm,if_neg (by simpa using hl0),if_pos (by simpa using hlc)]
  ·refine KW.pure h hlr ho hd rfl (.slice (some ⟨id,off+l*es,some es⟩) (len-l) (c-l)) ?_ (hk _ (.inl rfl))
   simp only[pop,Option.map,acut,hu,hx,hi,hl,bHi,bLo,abound]
   rw[if_pos ⟨by omega,by omega⟩]
   simp only
   rw[if_pos he.symm,if_neg (by simpa using hl0),if_neg (by simpa using hlc)]
   simp[he]
theorem KW.cutT {o:Oper} {dr:Bool} {t el:TypeId} {x y:Operand} {inf:TypeInfo} {id off es len c m:Nat} {kh:IntKind} {ih:Int} (h:Go1 P k e T n (.op o dr) k1 e1 T1 n1 l1 r1) (hlr:l1=r1) (ho:o.op=.slice t x none (some y) none) (hd:o.dst=some d1) (hx:ev e1 x=.slice (some ⟨id,off,some es⟩) len c) (hy:ev e1 y=.int kh ih)
  (hu:P.underlying t=some (.slice el)) (hi:P.info? el=some inf) (he:inf.size=es) (e1_:ih=m) (hm:m≤c) (hk:KW P S H0 Q n1 T1 k1 (put1 e1 d1 (.slice (some ⟨id,off,some es⟩) m c))):KW P S H0 Q n T k e:=by
 subst e1_
 refine KW.pure h hlr ho hd rfl _ ?_ hk
 simp only[pop,acut,hu,hx,hi,Option.map,hy,bHi,bLo,abound]
 rw[if_pos ⟨by omega,by omega⟩]
 simp[he]
theorem KW.clr {o:Oper} {dr:Bool} {t el:TypeId} {x:Operand} {inf:TypeInfo} {z:Value} {len c id off:Nat} {ty:TypeId} {xs:List Value} (j:Nat) (h:Go1 P k e T n (.op o dr) k1 e1 T1 n1 l1 r1) (hlr:l1=r1) (ho:o.op=.call {callee:=.builtin .clear,args:=#[x],argTypes:=#[t]}) (hd:o.dst=none) (hu:P.underlying t=some (.slice el)) (hi:P.info? el=some inf) (hz:inf.zero=some z) (hx:ev e1 x=.slice (some ⟨id,off,some inf.size⟩) len c) (hT:T1[j]?=some (id,⟨ty,true,xs⟩)) (hzo:zeroOkL P el=true) (hzs:z.cells.size=inf.size)
  (hn:len≠0) (hlen:off+len*inf.size≤xs.length) (hone:(zarr z (len*z.cells.size)).all Value.oneCell'=true)
  (hk:KW P S H0 Q n1 (T1.set j (id,⟨ty,true,splice xs off (zarr z (len*z.cells.size)).toList⟩)) k1 e1):KW P S H0 Q n T k e:=by
 refine KW.go h hlr (KEvt.heap (c:=⟨_,_,_,_,_,_⟩) (.tuple #[]) (T1.set j (id,⟨ty,true,splice xs off (zarr z (len*z.cells.size)).toList⟩)) n1 (by rw[ho];exact .inr rfl) (fun H g=>⟨none,H.set id ⟨ty,true,splice xs off (zarr z (len*z.cells.size)).toList⟩,?_,g.set hT _⟩) (by rw[hd];exact hk))
 rw[ho]
 have h2:=(g.blk hT).1
 simp only[hop,aclear,hu,hi,hz,hx,h2]
 rw[if_neg hn,if_pos ⟨zeroOkL_ok hzo,trivial,trivial,hzs,hlen,hone⟩]
end
end Go.Proofs.YtlapbbffoapleaaGreat.Am
namespace Go.Proofs.YtlapbbffoapleaaGreat.Am
open Go Go.RowKit Go.Proofs
def DealOk (x:T_Deal):Prop:=OkDeal x.1.1 x.1.2.1 x.1.2.2.1 x.1.2.2.2.1 x.1.2.2.2.2 x.2.1 x.2.2.1 x.2.2.2
section
variable {S:Ids} {H0:AH}
theorem split2_Deal {x:T_Deal} {cs:List Value} (h:K_Deal.R S H0 x cs):∃a1 c1 a2 c2 a3 c3 a4 c4,cs=[.int .i64 x.1.1,.slice a1 x.1.2.1.length c1,.int .i64 x.1.2.2.1,.int .i64 x.1.2.2.2.1,.slice a2 x.1.2.2.2.2.length c2,.int .i64 x.2.1,.slice a3 x.2.2.1.length c3,.slice a4 x.2.2.2.length c4]∧
  KI.Sl S H0 (.slice a1 x.1.2.1.length c1) x.1.2.1∧KI.sl.Sl S H0 (.slice a2 x.1.2.2.2.2.length c2) x.1.2.2.2.2∧KI.sl.Sl S H0 (.slice a3 x.2.2.1.length c3) x.2.2.1∧KI.sl.sl.Sl S H0 (.slice a4 x.2.2.2.length c4) x.2.2.2:=by
 obtain⟨a1,c1,a2,c2,a3,c3,a4,c4,rfl,h0,h2,h3⟩:=split_Deal h
 obtain⟨b1,d1,b2,d2,e0,k1,k2⟩:=split_Scheme h0
 cases e0
 obtain⟨b3,d3,e1,k3⟩:=split_Matrix k2
 cases e1
 exact⟨a1,c1,a2,c2,a3,c3,a4,c4,rfl,sl1 k1,sl1 k3,sl1 h2,sl1 h3⟩
end
section
variable {S:Ids} {H0:AH}
theorem l00Rises (lo hi:Int) {a c} {xs:List Int} (hl:xs.length≤1048576) (hs:(Kn.int .i64).Sl S H0 (.slice a xs.length c) xs):Spec Tryz.prog S H0 136 [.slice a xs.length c,.int .i64 lo,.int .i64 hi] (fun v=>v=.bool (tv (Rises lo hi xs))):=by
 refine Spec.of Tryz.func136 rfl (by kernel_rfl) rfl (fun H hfin hfz=>?_)
 have hs:=hs.to hfz
 refine KW.lp U U (fun i:Nat=>[(0,.slice a xs.length c),(1,.int .i64 lo),(2,.int .i64 hi),(7,.int .i64 i)]) (fun i=>i≤xs.length∧∀j,j<i→RiseAt lo hi xs j) (fun i=>xs.length-i) 0 ⟨by omega,fun j h=>absurd h (by omega)⟩ ⟨rfl,rfl,rfl,rfl,trivial⟩ (fun i hi' b n=>?_)
 obtain⟨hi',hr⟩:=hi'
 have e1:=inc64 (i:=i) (by omega)
 have bad:i<xs.length→¬RiseAt lo hi xs i→aout [Value.bool false]=.bool (tv (Rises lo hi xs)):=fun hi hx=>by
  rw[tv_false (fun hc=>hx (hc i (by omega)))];rfl
 refine KW.cnd U U (fun h=>?_) (fun h=>KW.ret U U U U ?_)
 ·refine KW.getI hs U U U U U U U U U U U U U U U U (by omega) h (fun y hy=>?_)
  have hy:xs.getD i 0=y:=getD_of hy
  refine KW.callE U U U U U (l00In _ _ _) (fun n' _=>?_)
  refine KW.tstB U U (fun h1=>?_) (fun h1=>?_)
  ·simp at h1
   refine KW.cndB U U (fun h=>KW.ret U U U U (bad (by omega) (fun hx=>?_))) (fun h=>absurd h (by decide))
   have:=hx.1;omega
  ·have h1:lo≤y∧y≤hi:=by simpa using h1
   refine KW.tst U U (fun h2=>?_) (fun h2=>?_)
   ·have e2:IntKind.i64.wrap ((i:Int)-1)=((i-1:Nat):Int):=by rw[wr (by omega) (by omega)];omega
    refine KW.getI hs U U U U U U U U U U U U U U U U (by rw[e2];omega) (by rw[e2];omega) (fun z hz=>?_)
    rw[e2] at hz
    have hz:xs.getD (i-1) 0=z:=getD_of hz
    refine KW.getI hs U U U U U U U U U U U U U U U U (by omega) (by omega) (fun y1 hy1=>?_)
    obtain rfl:y=y1:=hy.symm.trans (getD_of hy1)
    refine KW.cnd U U (fun h3=>KW.ret U U U U (bad (by omega) (fun hx=>?_))) (fun h3=>?_)
    ·have:=hx.2 (by omega);omega
    ·exact KW.nxt U U (fun H g=>⟨i+1,⟨by omega,upto hr ⟨by omega,fun _=>by omega⟩⟩,by omega,⟨rfl,rfl,rfl,congrArg (Value.int .i64) e1,trivial⟩,g⟩)
   ·refine KW.cndB U U (fun h=>absurd h (by decide)) (fun _=>?_)
    exact KW.nxt U U (fun H g=>⟨i+1,⟨by omega,upto hr ⟨by omega,fun _=>by omega⟩⟩,by omega,⟨rfl,rfl,rfl,congrArg (Value.int .i64) e1,trivial⟩,g⟩)
 ·rw[tv_true (p:=Rises lo hi xs) (fun j hj=>hr j (by omega))];rfl
theorem l01Group (m:Int) {a c} {xs:List Int} (hl:xs.length≤1048576) (hm:-9223372036854775807≤m∧m≤9223372036854775807) (hs:(Kn.int .i64).Sl S H0 (.slice a xs.length c) xs):Spec Tryz.prog S H0 56 [.int .i64 m,.slice a xs.length c] (fun v=>v=.bool (tv (Rises 0 (m-1) xs))):=by
 refine Spec.of Tryz.func56 rfl (by kernel_rfl) rfl (fun H hfin hfz=>?_)
 have e:IntKind.i64.wrap (m-1)=m-1:=wr (by omega) (by omega)
 refine KW.callE U U U U U (by have:=l00Rises 0 (IntKind.i64.wrap (m-1)) hl (hs.to hfz);rw[e] at this ⊢;exact this) (fun n' _=>?_)
 exact KW.ret U U U U U
end
section
variable {S:Ids} {H0:AH}
theorem Sml.at_ {gs:List (List Int)} (h:Sml gs) {i:Nat} {g:List Int} (hg:gs[i]?=some g):g.length≤1048576:=h.each g (List.mem_of_getElem? hg)
end
section
variable {S:Ids} {H0:AH}
noncomputable def codeF (h:Int) (gs:List (List Int)):Int:=if tv (FamOk h gs)=true then(if h>5 then 3 else if gs.length=0 then 4 else if(gs.getD 0 []).length=0 then 4 else 0) else 1
noncomputable def fitC (m u:Int) (l:List Int) (h:Int) (gs:List (List Int)):Int:=if tv (OkR m u l)=true then(if codeF h gs=0 then(if m=h then 0 else 2) else codeF h gs) else 1
end
theorem Fz.trans {S:Ids} {H0 H H':AH} (h:Fz S H0 H) (k:Fz (Low H.n) H H'):Fz S H0 H':=fun id hid=>by
 obtain⟨h1,h2⟩:=h id hid
 obtain⟨h3,h4⟩:=k id h1
 exact⟨h3,h4.trans h2⟩
section
variable {S:Ids} {H0:AH}
def Tells {α:Type} (P:Program) (S:Ids) (H0:AH) (d:Kn α) (xs:List (List α)) (g:FuncId) (cap:List Value) (p:List α→Bool):Prop:=
 ∀H',Fz S H0 H'→∀x a c,x∈xs→d.Sl (Low H'.n) H' (.slice a x.length c) x→Spec P (Low H'.n) H' g (.slice a x.length c :: cap) (fun v=>v=.bool (p x))
theorem Tells.to {α:Type} {P:Program} {d:Kn α} {xs:List (List α)} {g:FuncId} {cap:List Value} {p:List α→Bool} {H:AH} (h:Tells P S H0 d xs g cap p) (hf:Fz S H0 H):Tells P (Low H.n) H d xs g cap p:=fun H' hf'=>h H' (hf.trans hf')
theorem indexFunc2 {a c} {xs:List (List Int)} {g:FuncId} {id k:Nat} {sp:Option Nat} {p:List Int→Bool} (hl:xs.length≤1048576) (hs:(Kn.int .i64).sl.Sl S H0 (.slice a xs.length c) xs) (hp:Tells Tryz.prog S H0 (Kn.int .i64) xs g [.pointer (some ⟨id,k,none⟩)] p):
  Spec Tryz.prog S H0 220 [.slice a xs.length c,.func (.func g) #[] #[.pointer (some ⟨id,k,sp⟩)]] (fun v=>∃r:Int,v=.int .i64 r∧(r≥0↔∃x∈xs,p x=true)):=by
 refine Spec.of Tryz.func220 rfl (by kernel_rfl) rfl (fun H hfin hfz=>?_)
 have hs:=hs.to hfz
 have hp:=hp.to hfz
 refine KW.lp U U (fun i:Nat=>[(0,.slice a xs.length c),(1,.func (.func g) #[] #[.pointer (some ⟨id,k,sp⟩)]),(7,.int .i64 xs.length),(8,.int .i64 i)]) (fun i=>i≤xs.length∧∀j,j<i→∀x,xs[j]?=some x→p x=false) (fun i=>xs.length-i) 0 ⟨by omega,fun j h=>absurd h (by omega)⟩ ⟨rfl,rfl,rfl,rfl,trivial⟩ (fun i hi b n=>?_)
 obtain⟨hi,hj⟩:=hi
 refine KW.cnd U U (fun h=>?_) (fun h=>KW.ret U U U U ⟨-1,rfl,?_⟩)
 ·refine KW.getL hs U U U U U U U U U U U U U U U U (by omega) h (fun x ax cx hx hsx=>?_)
  have hx:xs[i]?=some x:=hx
  have hmem:=List.mem_of_getElem? hx
  refine KW.callE U U U U U (hp H (fun id h=>⟨h,rfl⟩) x ax cx hmem hsx) (fun _ _=>?_)
  refine KW.cndB U U (fun h2=>KW.ret U U U U ⟨(i:Int),rfl,?_⟩) (fun h2=>?_)
  ·exact⟨fun _=>⟨x,hmem,h2⟩,fun _=>by omega⟩
  ·exact KW.nxt U U (fun H g'=>⟨i+1,⟨by omega,upto hj (fun y hy=>by rw[hx] at hy;cases hy;exact h2)⟩,by omega,⟨rfl,rfl,rfl,congrArg (Value.int .i64) (inc64 (by omega)),trivial⟩,g'⟩)
 ·refine⟨fun h=>absurd h (by decide),fun⟨x,hx,hpx⟩=>?_⟩
  obtain⟨j,hjx⟩:=List.getElem?_of_mem hx
  have:=hj j (by have:=(List.getElem?_eq_some_iff.1 hjx).1;omega) x hjx
  rw[hpx] at this;cases this
theorem containsFunc2 {a c} {xs:List (List Int)} {g:FuncId} {id k:Nat} {sp:Option Nat} {p:List Int→Bool} (hl:xs.length≤1048576) (hs:(Kn.int .i64).sl.Sl S H0 (.slice a xs.length c) xs) (hp:Tells Tryz.prog S H0 (Kn.int .i64) xs g [.pointer (some ⟨id,k,none⟩)] p):
  Spec Tryz.prog S H0 162 [.slice a xs.length c,.func (.func g) #[] #[.pointer (some ⟨id,k,sp⟩)]] (fun v=>v=.bool (tv (∃x∈xs,p x=true))):=by
 refine Spec.of Tryz.func162 rfl (by kernel_rfl) rfl (fun H hfin hfz=>?_)
 refine KW.call U U U U U (indexFunc2 hl (hs.to hfz) (hp.to hfz)) (fun v n' _ hv=>?_)
 obtain⟨r,rfl,hr⟩:=hv
 refine KW.ret U U U U ?_
 show Value.bool (decide (r≥0))=_
 rw[tv_dec,tv_congr hr]
def Opens (gs:List (List Int)) (c:Nat):Prop:=∃g∈gs,c &&& bitsOf g=bitsOf g
def Below' (m:Nat) (gs:List (List Int)):Prop:=∀g∈gs,∀x∈g,0≤x∧x<(m:Int)
theorem FamOk.below {m:Int} {gs:List (List Int)} (h:FamOk m gs):Below' m.toNat gs:=fun g hg x hx=>by
 obtain⟨i,hi⟩:=List.getElem?_of_mem hg
 have h1:=(h.grp i (List.getElem?_eq_some_iff.1 hi).1).1
 rw[getDL_of hi] at h1
 exact rises_bound h.h1 h1 x hx
theorem opens1 {m:Nat} (hm:m≤7) {q:Nat} (hq:q<4611686018427387904) {g:List Int} (hg:∀x∈g,0≤x∧x<(m:Int)) (hl:g.length≤1048576) {a c} {id:Nat} {ty:TypeId} {rw:Bool} (hS:S id) (hm':H0.m id=some ⟨ty,rw,[.int .u64 q]⟩) (hs:(Kn.int .i64).Sl S H0 (.slice a g.length c) g):
  Spec Tryz.prog S H0 186 [.slice a g.length c,.pointer (some ⟨id,0,none⟩)] (fun v=>v=.bool (tv (q &&& bitsOf g=bitsOf g))):=by
 refine Spec.of Tryz.func186 rfl (by kernel_rfl) rfl (fun H hfin hfz=>?_)
 have hm':=((hfz id hS).2).trans hm'
 have hS:Low H.n id:=(hfz id hS).1
 have hb:bitsOf g<2 ^ m:=bitsOf_lt (fun x h=>by have:=hg x h;omega)
 have hp:=small_pow (m:=m) (by omega)
 refine KW.ldP hS hm' U U U U U U ?_
 refine KW.callE U U U U U (crowdOf (m:=m) (by omega) (by omega) hg (hs.to hfz)) (fun _ _=>?_)
 refine KW.callE U U U U U (contains hq (by omega)) (fun _ _=>?_)
 exact KW.ret U U U U U
theorem opens {m:Nat} (hm:m≤7) (h:Int) {q:Nat} (hq:q<4611686018427387904) {gs:List (List Int)} (hsm:Sml gs) (hb:Below' m gs) {a c} (hs:(Kn.int .i64).sl.Sl S H0 (.slice a gs.length c) gs):
  Spec Tryz.prog S H0 120 [familyV h (.slice a gs.length c),.int .u64 q] (fun v=>v=.bool (tv (Opens gs q))):=by
 refine Spec.of Tryz.func120 rfl (by kernel_rfl) rfl (fun H hfin hfz=>?_)
 refine KW.callV U U U U U (fun H1 g=>containsFunc2 (p:=fun x=>tv (q &&& bitsOf x=bitsOf x)) hsm.len ((hs.to hfz).on (fun id hid=>(g.froz id hid).2) (fun id hid=>by have:=(g.froz id hid).1;have:=g.n_;show id<H1.n;omega)) (fun H' hf' x ax cx hx hsx=>?_)) (fun _ _=>?_)
 ·have hb1:=g.blk (j:=1) rfl
  obtain⟨h1,h2⟩:=hf' _ hb1.2
  exact opens1 hm hq (hb x hx) (hsm.each x hx) h1 (h2.trans hb1.1) hsx
 ·refine KW.ret U U U U ?_
  show Value.bool (tv _)=_
  congr 1
  exact tv_congr ⟨fun⟨x,h1,h2⟩=>⟨x,h1,tv_iff.1 h2⟩,fun⟨x,h1,h2⟩=>⟨x,h1,tv_iff.2 h2⟩⟩
end
def Grow (l:List Int) (u:Int) (gs:List (List Int)) (a b:Nat):Prop:=a &&& b=a∧¬Opens gs a∧Opens gs b∧l.getD b 0<l.getD a 0+u
def Meet (l:List Int) (u:Int) (gs:List (List Int)) (a b:Nat):Prop:=Opens gs a∧Opens gs b∧¬Opens gs (a &&& b)∧l.getD a 0+l.getD b 0<l.getD (a ||| b) 0+l.getD (a &&& b) 0+u
def Mis (l:List Int) (u:Int) (gs:List (List Int)) (a b:Nat):Prop:=Grow l u gs a b∨Meet l u gs a b
def Fst (l:List Int) (u:Int) (gs:List (List Int)) (a b:Nat) (f:Bool):Prop:=
 (f=true∧a<l.length∧b<l.length∧Mis l u gs a b∧(∀a',a'<a→∀b',b'<l.length→¬Mis l u gs a' b')∧∀b',b'<b→¬Mis l u gs a b')∨
 (f=false∧a=0∧b=0∧∀a',a'<l.length→∀b',b'<l.length→¬Mis l u gs a' b')
theorem Fst.one {l:List Int} {u:Int} {gs:List (List Int)} {a b a' b':Nat} {f f':Bool} (h:Fst l u gs a b f) (k:Fst l u gs a' b' f'):a=a'∧b=b'∧f=f':=by
 rcases h with⟨rfl,h1,h2,h3,h4,h5⟩ | ⟨rfl,rfl,rfl,h4⟩<;>rcases k with⟨rfl,k1,k2,k3,k4,k5⟩ | ⟨rfl,rfl,rfl,k4⟩
 ·have ha:a=a':=by
   rcases Nat.lt_trichotomy a a' with h | h | h
   ·exact absurd h3 (k4 a h b h2)
   ·exact h
   ·exact absurd k3 (h4 a' h b' k2)
  subst ha
  refine⟨rfl,?_,rfl⟩
  rcases Nat.lt_trichotomy b b' with h | h | h
  ·exact absurd h3 (k5 b h)
  ·exact h
  ·exact absurd k3 (h5 b' h)
 ·exact absurd h3 (k4 a h1 b h2)
 ·exact absurd k3 (h4 a' k1 b' k2)
 ·exact⟨rfl,rfl,rfl⟩
section
variable {S:Ids} {H0:AH}
theorem misfit (u:Int) {m:Nat} (hm:m≤7) (hu:1≤u∧u≤100000) {a0 c0 a1 c1} {l:List Int} {gs:List (List Int)} (hl:l.length=2 ^ m) (hw:Within l) (hsm:Sml gs) (hb:Below' m gs) (hs:(Kn.int .i64).Sl S H0 (.slice a0 l.length c0) l) (hs':(Kn.int .i64).sl.Sl S H0 (.slice a1 gs.length c1) gs):
  Spec Tryz.prog S H0 85 [ranksV m u (.slice a0 l.length c0),familyV m (.slice a1 gs.length c1)] (fun v=>∃(a b:Nat) (f:Bool),v=.tuple #[.int .u64 a,.int .u64 b,.bool f]∧Fst l u gs a b f):=by
 refine Spec.of Tryz.func85 rfl (by kernel_rfl) rfl (fun H hfin hfz=>?_)
 have hs:=hs.to hfz
 have hs':=hs'.to hfz
 have h256:=len_le (m:=m) (by omega) hl
 refine KW.lp U U (fun a:Nat=>[(2,.pointer (some ⟨H.n,0,some 0⟩)),(3,.pointer (some ⟨H.n+1,0,some 1⟩)),(7,.int .u64 a)]) (fun a=>a≤l.length∧∀a',a'<a→∀b',b'<l.length→¬Mis l u gs a' b') (fun a=>l.length-a) 0 ⟨by omega,fun j h=>absurd h (by omega)⟩ ⟨rfl,rfl,rfl,trivial⟩ (fun a ha e n=>?_)
 obtain⟨ha0,ha⟩:=ha
 refine KW.callE U U U U U (everybody (m:=m) (by omega)) (fun _ _=>?_)
 refine KW.cnd U U (fun h=>?_) (fun h=>KW.ret U U U U ⟨0,0,false,rfl,.inr ⟨rfl,rfl,rfl,fun a' ha'=>ha a' (by rw[hl] at ha';omega)⟩⟩)
 have hal:a<l.length:=by rw[hl];have:=Nat.two_pow_pos m;omega
 refine KW.lp U U (fun b:Nat=>[(2,.pointer (some ⟨H.n,0,some 0⟩)),(3,.pointer (some ⟨H.n+1,0,some 1⟩)),(7,.int .u64 a),(8,.int .u64 b)]) (fun b=>b≤l.length∧∀b',b'<b→¬Mis l u gs a b') (fun b=>l.length-b) 0 ⟨by omega,fun j h=>absurd h (by omega)⟩ ⟨rfl,rfl,rfl,rfl,trivial⟩ (fun b hb' e n=>?_)
 obtain⟨hb0,hb'⟩:=hb'
 refine KW.callE U U U U U (everybody (m:=m) (by omega)) (fun _ _=>?_)
 refine KW.cnd U U (fun h=>?_) (fun h=>?_)
 ·have hbl:b<l.length:=by rw[hl];have:=Nat.two_pow_pos m;omega
  have eo:=or_u64 (a:=a) (b:=b) (by omega) (by omega)
  have ea:=and_u64 (a:=a) (b:=b) (by omega) (by omega)
  have ho:=or_in hl hal hbl
  have hn:=and_in (a:=a) hl hbl
  have w1:=hw a hal
  have w2:=hw b hbl
  have w3:=hw _ ho
  have w4:=hw _ hn
  have O:∀q:Nat,q<l.length→∀{n:Nat},Spec Tryz.prog (Low H.n) H 120 [familyV m (.slice a1 gs.length c1),.int .u64 q] (fun v=>v=.bool (tv (Opens gs q))):=fun q hq _=>opens hm m (by omega) hsm hb hs'
  refine KW.mid 7 U U (fun g:Bool=>[(2,.pointer (some ⟨H.n,0,some 0⟩)),(3,.pointer (some ⟨H.n+1,0,some 1⟩)),(7,.int .u64 a),(8,.int .u64 b),(9,.bool g)]) (fun g=>g=true↔Grow l u gs a b) ?_ (fun g hg e n=>?_)
  ·have no:¬Grow l u gs a b→(false=true↔Grow l u gs a b):=fun h=>⟨fun h=>(by cases h),fun hc=>absurd hc h⟩
   refine KW.callE U U U U U (contains (x:=b) (y:=a) (by omega) (by omega)) (fun _ _=>?_)
   refine KW.tstB U U (fun h1=>?_) (fun h1=>?_)
   ·have h1:a &&& b=a:=by rw[Nat.and_comm];exact tv_iff.1 h1
    refine KW.callE U U U U U (O a hal (n:=0)) (fun _ _=>?_)
    refine KW.tstB U U (fun h2=>?_) (fun h2=>?_)
    ·have h2:¬Opens gs a:=fun hc=>by rw[tv_true hc] at h2;cases h2
     refine KW.callE U U U U U (O b hbl (n:=0)) (fun _ _=>?_)
     refine KW.tstB U U (fun h3=>?_) (fun h3=>?_)
     ·refine KW.callE U U U U U (rank _ _ b hbl hs) (fun _ _=>?_)
      refine KW.callE U U U U U (rank _ _ a hal hs) (fun _ _=>?_)
      have e5:IntKind.i64.wrap (l.getD a 0+u)=l.getD a 0+u:=wr (by omega) (by omega)
      refine KW.nxt U U (fun H g'=>⟨decide (l.getD b 0<l.getD a 0+u),?_,⟨rfl,rfl,rfl,rfl,?_,trivial⟩,g'⟩)
      ·rw[decide_eq_true_iff]
       exact⟨fun h=>⟨h1,h2,tv_iff.1 h3,h⟩,fun h=>h.2.2.2⟩
      ·show Value.bool (decide (l.getD b 0<IntKind.i64.wrap (l.getD a 0+u)))=_
       rw[e5]
     ·exact KW.nxt U U (fun H g'=>⟨false,no (fun hc=>by rw[tv_true hc.2.2.1] at h3;cases h3),⟨rfl,rfl,rfl,rfl,rfl,trivial⟩,g'⟩)
    ·refine KW.tstB U U (fun h=>absurd h (by decide)) (fun _=>?_)
     exact KW.nxt U U (fun H g'=>⟨false,no (fun hc=>by rw[tv_false hc.2.1] at h2;cases h2),⟨rfl,rfl,rfl,rfl,rfl,trivial⟩,g'⟩)
   ·refine KW.tstB U U (fun h=>absurd h (by decide)) (fun _=>?_)
    refine KW.tstB U U (fun h=>absurd h (by decide)) (fun _=>?_)
    exact KW.nxt U U (fun H g'=>⟨false,no (fun hc=>by rw[tv_true (show b &&& a=a by rw[Nat.and_comm];exact hc.1)] at h1;cases h1),⟨rfl,rfl,rfl,rfl,rfl,trivial⟩,g'⟩)
  refine KW.mid 8 U U (fun g2:Bool=>[(2,.pointer (some ⟨H.n,0,some 0⟩)),(3,.pointer (some ⟨H.n+1,0,some 1⟩)),(7,.int .u64 a),(8,.int .u64 b),(9,.bool g),(10,.bool g2)]) (fun g2=>g2=true↔Meet l u gs a b) ?_ (fun g2 hg2 e n=>?_)
  ·have no:¬Meet l u gs a b→(false=true↔Meet l u gs a b):=fun h=>⟨fun h=>(by cases h),fun hc=>absurd hc h⟩
   refine KW.callE U U U U U (O a hal (n:=0)) (fun _ _=>?_)
   refine KW.tstB U U (fun h1=>?_) (fun h1=>?_)
   ·refine KW.callE U U U U U (O b hbl (n:=0)) (fun _ _=>?_)
    refine KW.tstB U U (fun h2=>?_) (fun h2=>?_)
    ·refine KW.callE U U U U U (by show Spec _ _ _ _ [familyV m (.slice a1 gs.length c1),.int .u64 (IntKind.u64.wrap _)] _;rw[ea];exact O _ hn (n:=0)) (fun _ _=>?_)
     refine KW.tstB U U (fun h3=>?_) (fun h3=>?_)
     ·have h3:¬Opens gs (a &&& b):=fun hc=>by rw[tv_true hc] at h3;cases h3
      refine KW.callE U U U U U (rank _ _ a hal hs) (fun _ _=>?_)
      refine KW.callE U U U U U (rank _ _ b hbl hs) (fun _ _=>?_)
      refine KW.callE U U U U U (by show Spec _ _ _ _ [ranksV m u (.slice a0 l.length c0),.int .u64 (IntKind.u64.wrap _)] _;rw[eo];exact rank _ _ _ ho hs) (fun _ _=>?_)
      refine KW.callE U U U U U (by show Spec _ _ _ _ [ranksV m u (.slice a0 l.length c0),.int .u64 (IntKind.u64.wrap _)] _;rw[ea];exact rank _ _ _ hn hs) (fun _ _=>?_)
      have e5:IntKind.i64.wrap (l.getD a 0+l.getD b 0)=l.getD a 0+l.getD b 0:=wr (by omega) (by omega)
      have e6:IntKind.i64.wrap (l.getD (a ||| b) 0+l.getD (a &&& b) 0)=l.getD (a ||| b) 0+l.getD (a &&& b) 0:=wr (by omega) (by omega)
      have e7:IntKind.i64.wrap (l.getD (a ||| b) 0+l.getD (a &&& b) 0+u)=l.getD (a ||| b) 0+l.getD (a &&& b) 0+u:=wr (by omega) (by omega)
      refine KW.nxt U U (fun H g'=>⟨decide (l.getD a 0+l.getD b 0<l.getD (a ||| b) 0+l.getD (a &&& b) 0+u),?_,⟨rfl,rfl,rfl,rfl,rfl,?_,trivial⟩,g'⟩)
      ·rw[decide_eq_true_iff]
       exact⟨fun h=>⟨tv_iff.1 h1,tv_iff.1 h2,h3,h⟩,fun h=>h.2.2.2⟩
      ·show Value.bool (decide (IntKind.i64.wrap (l.getD a 0+l.getD b 0)<IntKind.i64.wrap (IntKind.i64.wrap (l.getD (a ||| b) 0+l.getD (a &&& b) 0)+u)))=_
       rw[e5,e6,e7]
     ·exact KW.nxt U U (fun H g'=>⟨false,no (fun hc=>by rw[tv_false hc.2.2.1] at h3;cases h3),⟨rfl,rfl,rfl,rfl,rfl,rfl,trivial⟩,g'⟩)
    ·refine KW.tstB U U (fun h=>absurd h (by decide)) (fun _=>?_)
     exact KW.nxt U U (fun H g'=>⟨false,no (fun hc=>by rw[tv_true hc.2.1] at h2;cases h2),⟨rfl,rfl,rfl,rfl,rfl,rfl,trivial⟩,g'⟩)
   ·refine KW.tstB U U (fun h=>absurd h (by decide)) (fun _=>?_)
    refine KW.tstB U U (fun h=>absurd h (by decide)) (fun _=>?_)
    exact KW.nxt U U (fun H g'=>⟨false,no (fun hc=>by rw[tv_true hc.1] at h1;cases h1),⟨rfl,rfl,rfl,rfl,rfl,rfl,trivial⟩,g'⟩)
  have found:Mis l u gs a b→Fst l u gs a b true:=fun h=>.inl ⟨rfl,hal,hbl,h,ha,hb'⟩
  refine KW.tstB U U (fun h1=>?_) (fun h1=>?_)
  ·refine KW.cndB U U (fun _=>KW.ret U U U U ⟨a,b,true,rfl,found (.inl (hg.1 h1))⟩) (fun h=>absurd h (by decide))
  ·refine KW.cndB U U (fun h2=>KW.ret U U U U ⟨a,b,true,rfl,found (.inr (hg2.1 h2))⟩) (fun h2=>?_)
   refine KW.nxt U U (fun H g'=>⟨b+1,⟨by omega,upto hb' (fun hc=>?_)⟩,by omega,⟨rfl,rfl,rfl,congrArg (Value.int .u64) (incu64 (by omega)),trivial⟩,g'⟩)
   rcases hc with hc | hc
   ·rw[hg.2 hc] at h1;cases h1
   ·rw[hg2.2 hc] at h2;cases h2
 ·exact KW.nxt U U (fun H g'=>⟨a+1,⟨by omega,upto ha (fun b' hb1=>hb' b' (by rw[hl] at hb1;omega))⟩,by omega,⟨rfl,rfl,congrArg (Value.int .u64) (incu64 (by omega)),trivial⟩,g'⟩)
end
theorem bool_sl {xs:List Bool} {S:Ids} {H:AH} {id c:Nat} {b:Blk} (hS:S id) (hb:H.m id=some b) (hc:b.cells=xs.map Value.bool) (hl:xs.length≤c):Kn.bool.Sl S H (.slice (some ⟨id,0,some 1⟩) xs.length c) xs:=by
 refine .inr ⟨id,0,c,b,rfl,hl,hS,hb,by rw[hc];simp[Kn.bool],fun i x hx=>?_⟩
 obtain⟨hi,rfl⟩:=List.getElem?_eq_some_iff.1 hx
 show _=_
 rw[hc]
 show((xs.map Value.bool).drop (0+i*1)).take 1=_
 rw[List.take_one,Nat.zero_add,Nat.mul_one,List.head?_drop]
 simp[hi]
section
variable {S:Ids} {H0:AH}
end
theorem Fst.none_ {l:List Int} {u:Int} {gs:List (List Int)} {a b:Nat} {f:Bool} (h:Fst l u gs a b f):(!f)=tv (∀a,a<l.length→∀b,b<l.length→¬Mis l u gs a b):=by
 rcases h with⟨rfl,h1,h2,h3,_⟩ | ⟨rfl,_,_,h4⟩
 ·rw[tv_false (fun hc=>hc a h1 b h2 h3)];rfl
 ·rw[tv_true h4];rfl
section
variable {S:Ids} {H0:AH}
end
section
variable {P:Program} {S:Ids} {H0:AH} {Q:PostC} {k k1:List It} {e e1:Env} {T T1:List Var} {n n1:Nat} {l1 r1:List Nat} {d1:Tmp}
theorem KW.shr {o:Oper} {dr:Bool} {t u:TypeId} {x y:Operand} {ik kk:IntKind} {j:Int} {v:Int} (h:Go1 P k e T n (.op o dr) k1 e1 T1 n1 l1 r1) (hlr:l1=r1) (ho:o.op=.binOp .shr t x y u) (hd:o.dst=some d1) (hx:ev e1 x=.int ik v) (hy:ev e1 y=.int kk j) (hb:ik.bits=64) (a m:Nat) (hv:v=a) (hj:j=m) (hm:m≤63)
  (hk:KW P S H0 Q n1 T1 k1 (put1 e1 d1 (.int ik ((a / 2 ^ m:Nat):Int)))):KW P S H0 Q n T k e:=by
 refine KW.pure h hlr ho hd rfl _ ?_ hk
 subst hj hv
 simp only[pop,hx,hy,abin,ashift]
 rw[if_neg (by omega),hb]
 have e1:min (m:Int).toNat 64=m:=by omega
 rw[e1]
 congr 2
 rw[Int.fdiv_eq_ediv_of_nonneg _ (by exact Int.pow_nonneg (by decide))]
 exact_mod_cast rfl
end
def hold (x n:Nat):List Int:=((List.range n).filter fun i=>x.testBit i).map fun(i:Nat)=>(i:Int)
theorem hold_next (x n:Nat):hold x (n+1)=if x.testBit n=true then hold x n++[(n:Int)] else hold x n:=by
 unfold hold
 rw[List.range_succ,List.filter_append,List.map_append]
 by_cases h:x.testBit n=true
 ·simp[h]
 ·have h:x.testBit n=false:=by simpa using h
  simp[h]
theorem hold_len (x n:Nat):(hold x n).length≤n:=by
 unfold hold
 rw[List.length_map]
 exact Nat.le_trans (List.length_filter_le _ _) (by simp)
theorem bit_is {x h:Nat}:(((x / 2 ^ h) &&& 1:Nat)==1)=x.testBit h:=by
 rw[Nat.testBit_eq_decide_div_mod_eq,Nat.and_one_is_mod]
 rfl
section
variable {S:Ids} {H0:AH}
theorem has {x h:Nat} (hx:x<4611686018427387904) (hh:h≤63):Spec Tryz.prog S H0 158 [.int .u64 x,.int .i64 h] (fun v=>v=.bool (x.testBit h)):=by
 refine Spec.of Tryz.func158 rfl (by kernel_rfl) rfl (fun H hfin hfz=>?_)
 refine KW.shr U U U U U U U x h U U hh ?_
 refine KW.ret U U U U ?_
 show Value.bool (IntKind.u64.wrap ((BitVec.ofInt IntKind.u64.bits ((x / 2 ^ h:Nat):Int) &&& BitVec.ofInt IntKind.u64.bits ((1:Nat):Int)).toNat:Int)==((1:Nat):Int))=_
 rw[and_u64 (Nat.lt_of_le_of_lt (Nat.div_le_self _ _) hx) (by decide),← bit_is]
 congr 1
 generalize x / 2 ^ h &&& 1=q
 by_cases e:q=1
 ·subst e;rfl
 ·rw[show(q==1)=false from by simpa using e]
  simp only[beq_eq_false_iff_ne,ne_eq]
  omega
theorem group {x:Nat} (hx:x<4611686018427387904):SpecM Tryz.prog S H0 92 [.int .u64 x] (fun n v H1=>∃a c,v=.slice a (hold x 7).length c∧KI.Ml (New n H1.n) H1 (.slice a (hold x 7).length c) (hold x 7)):=by
 refine SpecM.of Tryz.func92 rfl (by kernel_rfl) rfl (fun H hfin hfz=>?_)
 refine KW.lit U U U U U U U U U U [] U U (fun v hv=>by simp at hv) rfl ?_
 refine KW.lpM U U (fun s:Nat × Nat=>[(0,.int .u64 x),(3,.slice (some ⟨s.2,0,some 1⟩) (hold x s.1).length (hold x s.1).length),(4,.int .i64 s.1)]) (fun _=>Low H.n) (fun _=>H) (fun s=>[(s.2,⟨_,true,(hold x s.1).map (Value.int .i64)⟩)]) (fun s=>s.1≤7) (fun s=>7-s.1) (0,H.n) (by simp) ⟨rfl,rfl,rfl,trivial⟩ U U U (fun s hi b n=>?_)
 obtain⟨q,o⟩:=s
 simp only at hi
 refine KW.fact (p:=¬o<H.n) (fun _ g=>(g.vars 0 _ rfl).2.2) (fun ho=>?_)
 have hq:=hold_len x q
 refine KW.cnd U U (fun h=>?_) (fun h=>?_)
 ·refine KW.callE U U U U U (has hx (by omega)) (fun _ _=>?_)
  refine KW.cndB U U (fun h2=>?_) (fun h2=>?_)
  ·refine KW.lit U U U U U U U U U U [.int .i64 q] U U (fun v hv=>by simp at hv;subst hv;rfl) rfl ?_
   refine KW.appT (len:=(hold x q).length) (ys:=[.int .i64 q]) (m:=1) 0 U U U U U U U U U U (fun H g=>acells_T (g.blk (j:=1) rfl).1 U U) (by simp) (fun v hv=>by simp at hv;subst hv;rfl) (by decide) (by show((hold x q).length+1)*8≤_;omega) (by omega) ?_
   have e:=hold_next x q
   rw[if_pos h2] at e
   refine KW.nxt U U (fun H g'=>⟨(q+1,_),by simp only;omega,by simp only;omega,⟨rfl,by simp only[e,List.length_append,List.length_singleton];rfl,congrArg (Value.int .i64) (inc64 (by omega)),trivial⟩,(g'.take 1).eqT ?_⟩)
   simp only[e,List.map_append]
   rfl
  ·have e:=hold_next x q
   rw[if_neg (by rw[h2];decide)] at e
   exact KW.nxt U U (fun H g'=>⟨(q+1,o),by simp only;omega,by simp only;omega,⟨rfl,by simp only[e];rfl,congrArg (Value.int .i64) (inc64 (by omega)),trivial⟩,g'.eqT (by simp only[e])⟩)
 ·obtain rfl:q=7:=by omega
  refine KW.retM U U U U (fun id hid=>⟨hid,rfl⟩) (fun H1 g=>?_)
  have hb:=g.blk (j:=0) rfl
  exact⟨_,_,rfl,int_ml ⟨by omega,hb.2⟩ hb.1 U U (Nat.le_refl _)⟩
end
def rowsP (q:Nat→Bool) (n:Nat):List Int:=((List.range n).filter q).map fun(i:Nat)=>(i:Int)
theorem rowsP_next (q:Nat→Bool) (n:Nat):rowsP q (n+1)=if q n=true then rowsP q n++[(n:Int)] else rowsP q n:=by
 unfold rowsP
 rw[List.range_succ,List.filter_append,List.map_append]
 by_cases hc:q n=true
 ·simp[hc]
 ·have hc:q n=false:=by simpa using hc
  simp[hc]
theorem rowsP_len (q:Nat→Bool) (n:Nat):(rowsP q n).length≤n:=by
 unfold rowsP
 rw[List.length_map]
 exact Nat.le_trans (List.length_filter_le _ _) (by simp)
theorem rowsP_mem {q:Nat→Bool} {n:Nat} {x:Int} (hx:x∈rowsP q n):0≤x∧x<n:=by
 unfold rowsP at hx
 obtain⟨i,hi,rfl⟩:=List.mem_map.1 hx
 have:=List.mem_range.1 (List.mem_filter.1 hi).1
 omega
theorem rowsP_congr {q q':Nat→Bool} {n:Nat} (h:∀i,i<n→q i=q' i):rowsP q n=rowsP q' n:=by
 unfold rowsP
 congr 1
 exact List.filter_congr fun i hi=>h i (List.mem_range.1 hi)
abbrev rowsOf (ow:List Int) (h:Int):List Int:=rowsP (fun i=>decide (ow.getD i 0=h)) ow.length
def dotN (a b:List Int):Nat→Int
 | 0=>0
 | n+1=>dotN a b n+a.getD n 0*b.getD n 0
def dotS (p:Int) (a b:List Int):Int:=dotN a b a.length%p
theorem elem_at {p:Int} {a:List Int} (h:Elems p a) (hp:2≤p) (i:Nat):0≤a.getD i 0∧a.getD i 0≤p-1:=by
 rcases Nat.lt_or_ge i a.length with hi | hi
 ·rw[List.getD_eq_getElem?_getD,List.getElem?_eq_getElem hi]
  exact h _ (List.getElem_mem hi)
 ·rw[List.getD_eq_getElem?_getD,List.getElem?_eq_none hi]
  show 0≤(0:Int)∧(0:Int)≤p-1
  omega
theorem mul_small {p x y:Int} (hp:p≤31) (hx:0≤x∧x≤p-1) (hy:0≤y∧y≤p-1):0≤x*y∧x*y≤900:=by
 refine⟨Int.mul_nonneg hx.1 hy.1,?_⟩
 have h1:x*y≤30*30:=Int.mul_le_mul (by omega) (by omega) hy.1 (by omega)
 omega
theorem dotN_in {p:Int} {a b:List Int} (hp:PrimeP p) (ha:Elems p a) (hb:Elems p b):∀n,0≤dotN a b n∧dotN a b n≤900*n
 | 0=>by simp[dotN]
 | n+1=>by
  have h1:=dotN_in hp ha hb n
  have h2:=mul_small hp.2.1 (elem_at ha hp.1 n) (elem_at hb hp.1 n)
  simp only[dotN]
  omega
def shares (p:Int) (rows:List (List Int)) (all:List Int):List Int:=rows.map fun r=>dotS p r all
theorem map_take_succ {α β:Type} (f:α→β) {xs:List α} {i:Nat} {x:α} (h:xs[i]?=some x):(xs.take (i+1)).map f=(xs.take i).map f++[f x]:=by
 obtain⟨hi,rfl⟩:=List.getElem?_eq_some_iff.1 h
 rw[List.take_succ_eq_append_getElem hi,List.map_append];rfl
section
variable {S:Ids} {H0:AH}
theorem dot (p:Int) (hp:PrimeP p) {a1 c1 a2 c2} {a b:List Int} (hl:a.length=b.length) (h12:a.length≤1048576) (ea:Elems p a) (eb:Elems p b) (ha:KI.Sl S H0 (.slice a1 a.length c1) a) (hb:KI.Sl S H0 (.slice a2 b.length c2) b):
  Spec Tryz.prog S H0 122 [.int .i64 p,.slice a1 a.length c1,.slice a2 b.length c2] (fun v=>v=.int .i64 (dotS p a b)):=by
 refine Spec.of1 Tryz.func122 rfl (by kernel_rfl) rfl (fun H _=>?_)
 refine KW.lp U U (fun i:Nat=>[(0,.int .i64 p),(2,.slice a2 b.length c2),(7,.int .i64 (dotN a b i)),(10,.slice a1 a.length c1),(11,.int .i64 a.length),(12,.int .i64 i)]) (fun i=>i≤a.length) (fun i=>a.length-i) (0) (by omega) ⟨rfl,rfl,rfl,rfl,rfl,rfl,trivial⟩ (fun i hi bE n=>?_)
 refine KW.cnd U U (fun h=>?_) (fun h=>?_)
 ·refine KW.getI ha.up U U U U U U U U U U U U U U U U (by omega) (h) (fun x hx=>?_)
  refine KW.getI hb.up U U U U U U U U U U U U U U U U (by omega) (by omega) (fun y hy=>?_)
  have hx:a.getD i 0=x:=getD_of hx
  have hy:b.getD i 0=y:=getD_of hy
  have h1:=dotN_in hp ea eb i
  have h2:=mul_small hp.2.1 (elem_at ea hp.1 i) (elem_at eb hp.1 i)
  have e:dotN a b (i+1)=dotN a b i+a.getD i 0*b.getD i 0:=rfl
  rw[hx,hy] at h2 e
  have e2:Value.int .i64 (IntKind.i64.wrap (dotN a b i+IntKind.i64.wrap (x*y)))=.int .i64 (dotN a b (i+1)):=by
   rw[wr (x:=x*y) (by omega) (by omega),wr (by omega) (by omega),e]
  refine KW.nxt U U (fun H' g=>⟨i+1,by omega,by first | omega | (simp only;omega),⟨rfl,rfl,e2,rfl,rfl,congrArg (Value.int .i64) (inc64 (by omega)),trivial⟩,g⟩)
 ·obtain rfl:i=a.length:=by omega
  have h1:=dotN_in hp ea eb a.length
  refine KW.rem U U U U U U (h1.1) (by have:=hp.1;omega) ?_
  exact KW.ret U U U U (rfl)
theorem l03Dot (p:Int) (hp:PrimeP p) {a1 c1 a2 c2} {a b:List Int} (hl:a.length=b.length) (h12:a.length≤1048576) (ea:Elems p a) (eb:Elems p b) (ha:KI.Sl S H0 (.slice a1 a.length c1) a) (hb:KI.Sl S H0 (.slice a2 b.length c2) b):
  Spec Tryz.prog S H0 266 [.int .i64 p,.slice a1 a.length c1,.slice a2 b.length c2] (fun v=>v=.int .i64 (dotS p a b)):=by
 refine Spec.of1 Tryz.func266 rfl (by kernel_rfl) rfl (fun H _=>?_)
 refine KW.lp U U (fun i:Nat=>[(0,.int .i64 p),(1,.slice a1 a.length c1),(2,.slice a2 b.length c2),(7,.int .i64 (dotN a b i)),(8,.int .i64 i)]) (fun i=>i≤a.length) (fun i=>a.length-i) (0) (by omega) ⟨rfl,rfl,rfl,rfl,rfl,trivial⟩ (fun i hi bE n=>?_)
 refine KW.cnd U U (fun h=>?_) (fun h=>?_)
 ·refine KW.getI ha.up U U U U U U U U U U U U U U U U (by omega) (h) (fun x hx=>?_)
  refine KW.getI hb.up U U U U U U U U U U U U U U U U (by omega) (by omega) (fun y hy=>?_)
  have hx:a.getD i 0=x:=getD_of hx
  have hy:b.getD i 0=y:=getD_of hy
  have h1:=dotN_in hp ea eb i
  have h2:=mul_small hp.2.1 (elem_at ea hp.1 i) (elem_at eb hp.1 i)
  have e:dotN a b (i+1)=dotN a b i+a.getD i 0*b.getD i 0:=rfl
  rw[hx,hy] at h2 e
  have e2:Value.int .i64 (IntKind.i64.wrap (dotN a b i+IntKind.i64.wrap (x*y)))=.int .i64 (dotN a b (i+1)):=by
   rw[wr (x:=x*y) (by omega) (by omega),wr (by omega) (by omega),e]
  refine KW.nxt U U (fun H' g=>⟨i+1,by omega,by first | omega | (simp only;omega),⟨rfl,rfl,rfl,e2,congrArg (Value.int .i64) (inc64 (by omega)),trivial⟩,g⟩)
 ·obtain rfl:i=a.length:=by omega
  have h1:=dotN_in hp ea eb a.length
  refine KW.rem U U U U U U (h1.1) (by have:=hp.1;omega) ?_
  exact KW.ret U U U U (rfl)
def MkL (xs:List Int) (n:Nat) (v:Value) (H1:AH):Prop:=∃a c,v=.slice a xs.length c∧KI.Ml (New n H1.n) H1 (.slice a xs.length c) xs
theorem MkL.of {S0:Ids} {H0 H1:AH} {T:List Var} {n j id n0:Nat} {ty:TypeId} {xs:List Int} (g:Good S0 H0 T n H1) (hj:T[j]?=some (id,⟨ty,true,xs.map (Value.int .i64)⟩)) (hn:n0≤id):MkL xs n0 (.slice (some ⟨id,0,some 1⟩) xs.length xs.length) H1:=
 ⟨_,_,rfl,int_ml ⟨hn,(g.blk hj).2⟩ (g.blk hj).1 U U (Nat.le_refl _)⟩
theorem rowsHeld (h p c:Int) (x:Nat) (hx:x<4611686018427387904) {a1 c1} {v2:Option Addr} {n2 c2:Nat} {ow:List Int} (hO:B_Int64S ow) (hown:∀x∈ow,0≤x∧x≤h-1) (hh:h≤7) (ho:KI.Sl S H0 (.slice a1 ow.length c1) ow):
  SpecM Tryz.prog S H0 102 [.agg #[.int .i64 h,.slice a1 ow.length c1,.int .i64 p,.int .i64 c,.slice v2 n2 c2],.int .u64 (x:Int)] (MkL (rowsP (fun i=>x.testBit (ow.getD i 0).toNat) ow.length)):=by
 refine SpecM.of1 Tryz.func102 rfl (by kernel_rfl) rfl (fun H _=>?_)
 have hO':ow.length≤1048576:=hO
 refine KW.lit U U U U U U U U U U [] U U (fun v hv=>by simp at hv) rfl ?_
 refine KW.lpM U U (fun s:Nat × Nat=>[(1,.int .u64 (x:Int)),(5,.slice (some ⟨s.2,0,some 1⟩) (rowsP (fun i=>x.testBit (ow.getD i 0).toNat) s.1).length (rowsP (fun i=>x.testBit (ow.getD i 0).toNat) s.1).length),(10,.slice a1 ow.length c1),(11,.int .i64 ow.length),(12,.int .i64 s.1)]) (fun s=>Low H.n) (fun s=>H) (fun s=>[(H.n,⟨_,true,_⟩),(s.2,⟨_,true,(rowsP (fun i=>x.testBit (ow.getD i 0).toNat) s.1).map (Value.int .i64)⟩)]) (fun s=>s.1≤ow.length) (fun s=>ow.length-s.1) ((0,H.n+1)) (by simp) ⟨rfl,rfl,rfl,rfl,rfl,trivial⟩ U U (rfl) (fun s hi bE n=>?_)
 obtain⟨q,o⟩:=s
 simp only at hi
 have hq:(rowsP (fun i=>x.testBit (ow.getD i 0).toNat) q).length≤q:=rowsP_len _ q
 refine KW.cnd U U (fun k1=>?_) (fun k1=>?_)
 ·refine KW.getI ho.up U U U U U U U U U U U U U U U U (by omega) (k1) (fun y hy=>?_)
  have hy':ow[q]?=some y:=hy
  have hyb:=hown y (List.mem_of_getElem? hy')
  obtain⟨z,rfl⟩:∃z:Nat,y=z:=⟨y.toNat,by omega⟩
  have hyd:ow.getD q 0=z:=getD_of hy'
  have e:=rowsP_next (fun i=>x.testBit (ow.getD i 0).toNat) q
  simp only[hyd,Int.toNat_natCast] at e
  refine KW.callE U U U U U (has (x:=x) (h:=z) hx (by omega)) (fun _ _=>?_)
  refine KW.cndB U U (fun k2=>?_) (fun k2=>?_)
  ·rw[if_pos k2] at e
   refine KW.app1 (xs:=(rowsP (fun i=>x.testBit (ow.getD i 0).toNat) q).map (Value.int .i64)) (v:=.int .i64 q) 1 2 U U U U U U U U U U U U U U U U U U U U U U U (by simp) (by show(_+1)*8≤_;first | omega | (simp only;omega)) (by first | omega | (simp only;omega)) ?_
   refine KW.nxt U U (fun H' g=>⟨(q+1,_),by simp only;omega,by first | omega | (simp only;omega),⟨rfl,by simp only[e,List.length_append,List.length_singleton];rfl,rfl,rfl,congrArg (Value.int .i64) (inc64 (by omega)),trivial⟩,g.eqT (by simp only[e,List.map_append];rfl)⟩)
  ·rw[if_neg (by rw[k2];decide)] at e
   refine KW.nxt U U (fun H' g=>⟨(q+1,o),by simp only;omega,by first | omega | (simp only;omega),⟨rfl,by simp only[e];rfl,rfl,rfl,congrArg (Value.int .i64) (inc64 (by omega)),trivial⟩,g.eqT (by simp only[e])⟩)
 ·obtain rfl:q=ow.length:=by simp only at k1;omega
  refine KW.retM1 U U U U (fun H1 g=>MkL.of g (j:=1) rfl (g.ge (H1:=H) (j:=1) rfl))
theorem l00Has (n0:Int) {a c} {xs:List Int} (hl:xs.length≤1048576) (hs:KI.Sl S H0 (.slice a xs.length c) xs):Spec Tryz.prog S H0 182 [.slice a xs.length c,.int .i64 n0] (fun v=>v=.bool (decide (n0∈xs))):=by
 refine Spec.of1 Tryz.func182 rfl (by kernel_rfl) rfl (fun H _=>?_)
 refine KW.lp U U (fun i:Nat=>[(0,.slice a xs.length c),(1,.int .i64 n0),(5,.int .i64 i)]) (fun i=>i≤xs.length∧∀j,j<i→∀x,xs[j]?=some x→x≠n0) (fun i=>xs.length-i) (0) (⟨by omega,fun j h=>absurd h (by omega)⟩) ⟨rfl,rfl,rfl,trivial⟩ (fun i hi bE n=>?_)
 obtain⟨hi,hj⟩:=hi
 refine KW.cnd U U (fun k1=>?_) (fun k1=>?_)
 ·refine KW.getI hs.up U U U U U U U U U U U U U U U U (by omega) (k1) (fun y hy=>?_)
  have hy:xs[i]?=some y:=hy
  refine KW.cndB U U (fun k2=>?_) (fun k2=>?_)
  ·have k2:y=n0:=by simpa using k2
   exact KW.ret U U U U (by rw[← k2,decide_eq_true (List.mem_of_getElem? hy)];rfl)
  ·have k2:y≠n0:=by simpa using k2
   refine KW.nxt U U (fun H' g=>⟨i+1,⟨by omega,upto hj (fun z hz=>by rw[hy] at hz;cases hz;exact k2)⟩,by first | omega | (simp only;omega),⟨rfl,rfl,congrArg (Value.int .i64) (inc64 (by omega)),trivial⟩,g⟩)
 ·exact KW.ret U U U U (by rw[decide_eq_false (fun hm=>all_of (fun j hjl=>hj j (by omega)) n0 hm rfl)];rfl)
theorem l04Held (h p c:Int) {id k:Nat} {a1 c1 a c2} {ow g0:List Int} {v2:Value} (hO:B_Int64S ow) (hG:g0.length≤1048576) (hv:Has3 S H0 id k [.int .i64 h,.slice a1 ow.length c1,.int .i64 p,.int .i64 c,v2]) (ho:KI.Sl S H0 (.slice a1 ow.length c1) ow) (hg:KI.Sl S H0 (.slice a g0.length c2) g0):
  SpecM Tryz.prog S H0 155 [.pointer (some ⟨id,k,none⟩),.slice a g0.length c2] (MkL (rowsP (fun i=>decide (ow.getD i 0∈g0)) ow.length)):=by
 refine SpecM.of1 Tryz.func155 rfl (by kernel_rfl) rfl (fun H _=>?_)
 have hO':ow.length≤1048576:=hO
 have hv:=hv.up (S':=Low H.n) (H':=H)
 refine KW.lit U U U U U U U U U U [] U U (fun v hv=>by simp at hv) rfl ?_
 refine KW.lpM U U (fun s:Nat × Nat=>[(0,.pointer (some ⟨id,k,none⟩)),(1,.slice a g0.length c2),(5,.slice (some ⟨s.2,0,some 1⟩) (rowsP (fun i=>decide (ow.getD i 0∈g0)) s.1).length (rowsP (fun i=>decide (ow.getD i 0∈g0)) s.1).length),(6,.int .i64 s.1)]) (fun s=>Low H.n) (fun s=>H) (fun s=>[(s.2,⟨_,true,(rowsP (fun i=>decide (ow.getD i 0∈g0)) s.1).map (Value.int .i64)⟩)]) (fun s=>s.1≤ow.length) (fun s=>ow.length-s.1) ((0,H.n)) (by simp) ⟨rfl,rfl,rfl,rfl,trivial⟩ U U (rfl) (fun s hi bE n=>?_)
 obtain⟨q,o⟩:=s
 simp only at hi
 have hq:(rowsP (fun i=>decide (ow.getD i 0∈g0)) q).length≤q:=rowsP_len _ q
 refine KW.ldF 1 hv U U U U U U U U U ?_
 refine KW.cnd U U (fun k1=>?_) (fun k1=>?_)
 ·refine KW.ldF 1 hv U U U U U U U U U ?_
  refine KW.getI ho.up U U U U U U U U U U U U U U U U (by omega) (k1) (fun y hy=>?_)
  have hy':ow[q]?=some y:=hy
  have hyd:ow.getD q 0=y:=getD_of hy'
  have e:=rowsP_next (fun i=>decide (ow.getD i 0∈g0)) q
  simp only[hyd] at e
  refine KW.callE U U U U U (l00Has y hG hg.up) (fun _ _=>?_)
  refine KW.cndB U U (fun k2=>?_) (fun k2=>?_)
  ·rw[if_pos k2] at e
   refine KW.app1 (xs:=(rowsP (fun i=>decide (ow.getD i 0∈g0)) q).map (Value.int .i64)) (v:=.int .i64 q) 0 1 U U U U U U U U U U U U U U U U U U U U U U U (by simp) (by show(_+1)*8≤_;first | omega | (simp only;omega)) (by first | omega | (simp only;omega)) ?_
   refine KW.nxt U U (fun H' g=>⟨(q+1,_),by simp only;omega,by first | omega | (simp only;omega),⟨rfl,rfl,by simp only[e,List.length_append,List.length_singleton];rfl,congrArg (Value.int .i64) (inc64 (by omega)),trivial⟩,g.eqT (by simp only[e,List.map_append];rfl)⟩)
  ·rw[if_neg (by rw[k2];decide)] at e
   refine KW.nxt U U (fun H' g=>⟨(q+1,o),by simp only;omega,by first | omega | (simp only;omega),⟨rfl,rfl,by simp only[e];rfl,congrArg (Value.int .i64) (inc64 (by omega)),trivial⟩,g.eqT (by simp only[e])⟩)
 ·obtain rfl:q=ow.length:=by simp only at k1;omega
  refine KW.retM1 U U U U (fun H1 g=>MkL.of g (j:=0) rfl (g.ge (H1:=H) (j:=0) rfl))
end
theorem elems_cons {p s:Int} {bl:List Int} (hs:0≤s∧s≤p-1) (hb:Elems p bl):Elems p (s :: bl):=fun x hx=>by
 rcases List.mem_cons.1 hx with rfl | h
 ·exact hs
 ·exact hb x h
section
variable {S:Ids} {H0:AH}
theorem sharesOf (h p c s:Int) {a1 c1 a2 c2 a3 c3} {ow bl:List Int} {rows:List (List Int)} (hO:B_Int64S ow) (hB:B_Int64SS rows) (hk:OkSch h ow p c rows) (hs:0≤s∧s≤p-1) (hbl:(bl.length:Int)=c-1) (hbe:Elems p bl)
  (h1:KI.Sl S H0 (.slice a1 ow.length c1) ow) (h2:KI.sl.Sl S H0 (.slice a2 rows.length c2) rows) (h3:KI.Sl S H0 (.slice a3 bl.length c3) bl):
  SpecM Tryz.prog S H0 43 [.agg #[.int .i64 h,.slice a1 ow.length c1,.int .i64 p,.int .i64 c,.slice a2 rows.length c2],.int .i64 s,.slice a3 bl.length c3] (fun n v H1=>∃v',v=.tuple #[v',.int .i64 0]∧MkL (shares p rows (s :: bl)) n v' H1):=by
 refine SpecM.of1 Tryz.func43 rfl (by kernel_rfl) rfl (fun H _=>?_)
 have hp:I64 p:=by unfold I64;have:=hk.mat.pr.1;have:=hk.mat.pr.2.1;omega
 have hc12:=hk.mat.c1
 have hc1:=hk.c1
 have hrl:=hk.mat.len
 have ec:IntKind.i64.wrap (c-1)=c-1:=wr (by omega) (by omega)
 refine KW.callE U U U U U (validScheme h p c hp hO hB h1.up h2.up) (fun _ _=>?_)
 rw[tv_true hk]
 refine KW.cF U U (by first | (simp;done) | decide) ?_
 refine KW.lit U U U U U U U U U U [.int .i64 s] U U (fun v hv=>by simp at hv;subst hv;rfl) rfl ?_
 refine KW.callV1 U U U U U (fun H1 g _=>areElements p hp (xs:=[s]) (by simp) (g.ints (j:=1) U U (by simp))) (fun _ _=>?_)
 rw[tv_true (p:=PrimeP p∧Elems p [s]) ⟨hk.mat.pr,fun x hx=>by rw[List.mem_singleton.1 hx];exact hs⟩]
 refine KW.tF U U (by first | (simp;done) | decide) ?_
 refine KW.callE U U U U U (areElements p hp (by omega) h3.up) (fun _ _=>?_)
 rw[tv_true (p:=PrimeP p∧Elems p bl) ⟨hk.mat.pr,hbe⟩]
 refine KW.tF U U (by first | (simp;done) | decide) ?_
 refine KW.cndB U U (fun k1=>?_) (fun k1=>?_)
 ·rw[ec,hbl] at k1;simp at k1
 refine KW.lit U U U U U U U U U U [.int .i64 s] U U (fun v hv=>by simp at hv;subst hv;rfl) rfl ?_
 refine KW.appV 2 U U U U U U U U U U (fun H1 g=>acells_I h3.up g) (by simp) (by simp) (fun v hv=>by obtain⟨_,_,rfl⟩:=List.mem_map.1 hv;rfl) (by show(_+_)*8≤_;simp only[List.length_cons,List.length_nil];omega) (by simp only[List.length_cons,List.length_nil];omega) (show 1+bl.length=(s :: bl).length from by simp;omega) (fun oa _ _=>?_)
 refine KW.lit U U U U U U U U U U [] U U (fun v hv=>by simp at hv) rfl ?_
 refine KW.fact (p:=¬oa<H.n) (fun _ g=>(g.vars 2 _ rfl).2.2) (fun hoa=>?_)
 refine KW.lpM U U (fun q:Nat × Nat=>[(3,.pointer (some ⟨H.n,0,some 0⟩)),(8,.slice (some ⟨oa,0,some 1⟩) (s :: bl).length (s :: bl).length),(9,.slice (some ⟨q.2,0,some 1⟩) (shares p (rows.take q.1) (s :: bl)).length (shares p (rows.take q.1) (s :: bl)).length),(46,.slice a2 rows.length c2),(47,.int .i64 rows.length),(48,.int .i64 q.1)]) (fun q=>Low H.n) (fun q=>H) (fun q=>[_,_,(oa,⟨_,true,(s :: bl).map (Value.int .i64)⟩),(q.2,⟨_,true,(shares p (rows.take q.1) (s :: bl)).map (Value.int .i64)⟩)]) (fun q=>q.1≤rows.length) (fun q=>rows.length-q.1) ((0,_)) (by simp) ⟨rfl,rfl,rfl,rfl,rfl,rfl,trivial⟩ U U (rfl) (fun q hi bE n=>?_)
 obtain⟨q,o⟩:=q
 simp only at hi
 have hq:(shares p (rows.take q) (s :: bl)).length≤q:=by unfold shares;rw[List.length_map,List.length_take];omega
 refine KW.cnd U U (fun k2=>?_) (fun k2=>?_)
 ·refine KW.getL h2.up U U U U U U U U U U U U U U U U (by omega) (k2) (fun y a' m' hy hsy=>?_)
  have hy:rows[q]?=some y:=hy
  have hym:=hk.mat.row y (List.mem_of_getElem? hy)
  refine KW.callV1 U U U U U (fun H1 g _=>dot p hk.mat.pr (by simp;omega) (by omega) hym.2 (elems_cons hs hbe) hsy.up (g.ints (j:=2) U U (Nat.le_refl _))) (fun _ _=>?_)
  have e:shares p (rows.take (q+1)) (s :: bl)=shares p (rows.take q) (s :: bl)++[dotS p y (s :: bl)]:=map_take_succ _ hy
  refine KW.app1 (xs:=(shares p (rows.take q) (s :: bl)).map (Value.int .i64)) (v:=.int .i64 (dotS p y (s :: bl))) 3 4 U U U U U U U U U U U U U U U U U U U U U U U (by simp) (by show(_+1)*8≤_;first | omega | (simp only;omega)) (by first | omega | (simp only;omega)) ?_
  refine KW.nxt U U (fun H' g=>⟨(q+1,_),by simp only;omega,by first | omega | (simp only;omega),⟨rfl,rfl,by simp only[e,List.length_append,List.length_singleton];rfl,rfl,rfl,congrArg (Value.int .i64) (inc64 (by omega)),trivial⟩,g.eqT (by simp only[e,List.map_append];rfl)⟩)
 ·obtain rfl:q=rows.length:=by simp only at k2;omega
  rw[List.take_of_length_le (Nat.le_refl _)]
  refine KW.retM1 U U U U (fun H1 g=>⟨_,rfl,MkL.of g (j:=3) rfl (g.ge (H1:=H) (j:=3) rfl)⟩)
theorem l04Shares (h p c s:Int) {id k:Nat} {a1 c1 a2 c2 a3 c3} {ow bl:List Int} {rows:List (List Int)} (hB:B_Int64SS rows) (hk:OkSch h ow p c rows) (hs:0≤s∧s≤p-1) (hbl:(bl.length:Int)=c-1) (hbe:Elems p bl)
  (hv:Has3 S H0 id k [.int .i64 h,.slice a1 ow.length c1,.int .i64 p,.int .i64 c,.slice a2 rows.length c2]) (h2:KI.sl.Sl S H0 (.slice a2 rows.length c2) rows) (h3:KI.Sl S H0 (.slice a3 bl.length c3) bl):
  SpecM Tryz.prog S H0 250 [.pointer (some ⟨id,k,none⟩),.int .i64 s,.slice a3 bl.length c3] (MkL (shares p rows (s :: bl))):=by
 refine SpecM.of1 Tryz.func250 rfl (by kernel_rfl) rfl (fun H _=>?_)
 have hv:=hv.up (S':=Low H.n) (H':=H)
 have hc12:=hk.mat.c1
 have hc1:=hk.c1
 have hrl:=hk.mat.len
 refine KW.lit U U U U U U U U U U [.int .i64 s] U U (fun v hv=>by simp at hv;subst hv;rfl) rfl ?_
 refine KW.appV 0 U U U U U U U U U U (fun H1 g=>acells_I h3.up g) (by simp) (by simp) (fun v hv=>by obtain⟨_,_,rfl⟩:=List.mem_map.1 hv;rfl) (by show(_+_)*8≤_;simp only[List.length_cons,List.length_nil];omega) (by simp only[List.length_cons,List.length_nil];omega) (show 1+bl.length=(s :: bl).length from by simp;omega) (fun oa _ _=>?_)
 refine KW.lit U U U U U U U U U U [] U U (fun v hv=>by simp at hv) rfl ?_
 refine KW.lpM U U (fun q:Nat × Nat=>[(0,.pointer (some ⟨id,k,none⟩)),(7,.slice (some ⟨oa,0,some 1⟩) (s :: bl).length (s :: bl).length),(8,.slice (some ⟨q.2,0,some 1⟩) (shares p (rows.take q.1) (s :: bl)).length (shares p (rows.take q.1) (s :: bl)).length),(9,.int .i64 q.1)]) (fun q=>Low H.n) (fun q=>H) (fun q=>[(oa,⟨_,true,(s :: bl).map (Value.int .i64)⟩),(q.2,⟨_,true,(shares p (rows.take q.1) (s :: bl)).map (Value.int .i64)⟩)]) (fun q=>q.1≤rows.length) (fun q=>rows.length-q.1) ((0,_)) (by simp) ⟨rfl,rfl,rfl,rfl,trivial⟩ U U (rfl) (fun q hi bE n=>?_)
 obtain⟨q,o⟩:=q
 simp only at hi
 have hq:(shares p (rows.take q) (s :: bl)).length≤q:=by unfold shares;rw[List.length_map,List.length_take];omega
 refine KW.ldF 4 hv U U U U U U U U U ?_
 refine KW.cnd U U (fun k2=>?_) (fun k2=>?_)
 ·refine KW.ldF 2 hv U U U U U U U U U ?_
  refine KW.ldF 4 hv U U U U U U U U U ?_
  refine KW.getL h2.up U U U U U U U U U U U U U U U U (by omega) (k2) (fun y a' m' hy hsy=>?_)
  have hy:rows[q]?=some y:=hy
  have hym:=hk.mat.row y (List.mem_of_getElem? hy)
  refine KW.callV1 U U U U U (fun H1 g _=>l03Dot p hk.mat.pr (by simp;omega) (by omega) hym.2 (elems_cons hs hbe) hsy.up (g.ints (j:=0) U U (Nat.le_refl _))) (fun _ _=>?_)
  have e:shares p (rows.take (q+1)) (s :: bl)=shares p (rows.take q) (s :: bl)++[dotS p y (s :: bl)]:=map_take_succ _ hy
  refine KW.app1 (xs:=(shares p (rows.take q) (s :: bl)).map (Value.int .i64)) (v:=.int .i64 (dotS p y (s :: bl))) 1 2 U U U U U U U U U U U U U U U U U U U U U U U (by simp) (by show(_+1)*8≤_;first | omega | (simp only;omega)) (by first | omega | (simp only;omega)) ?_
  refine KW.nxt U U (fun H' g=>⟨(q+1,_),by simp only;omega,by first | omega | (simp only;omega),⟨rfl,rfl,by simp only[e,List.length_append,List.length_singleton];rfl,congrArg (Value.int .i64) (inc64 (by omega)),trivial⟩,g.eqT (by simp only[e,List.map_append];rfl)⟩)
 ·obtain rfl:q=rows.length:=by simp only at k2;omega
  rw[List.take_of_length_le (Nat.le_refl _)]
  refine KW.retM1 U U U U (fun H1 g=>MkL.of g (j:=1) rfl (g.ge (H1:=H) (j:=1) rfl))
end
def valsOf (p:Int) (rows:List (List Int)) (ow:List Int) (s:Int) (bl:List Int) (j:Int):List Int:=(rowsOf ow j).map fun i=>(shares p rows (s :: bl)).getD i.toNat 0
theorem rows_bit {ow:List Int} (h:∀x∈ow,0≤x) (j:Nat):rowsP (fun i=>(2 ^ j:Nat).testBit (ow.getD i 0).toNat) ow.length=rowsOf ow j:=rowsP_congr fun i hi=>by
 have h1:0≤ow.getD i 0:=by rw[List.getD_eq_getElem?_getD,List.getElem?_eq_getElem hi];exact h _ (List.getElem_mem hi)
 rw[Nat.testBit_two_pow]
 exact decide_eq_decide.2 ⟨fun h=>by omega,fun h=>by omega⟩
theorem rows_one (ow:List Int) (j:Int):rowsP (fun i=>decide (ow.getD i 0∈[j])) ow.length=rowsOf ow j:=rowsP_congr fun i hi=>by simp
theorem dotS_in {p:Int} {a b:List Int} (hp:PrimeP p):0≤dotS p a b∧dotS p a b≤p-1:=by
 unfold dotS
 have h1:=hp.1
 have:=Int.emod_nonneg (dotN a b a.length) (show p≠0 by omega)
 have:=Int.emod_lt_of_pos (dotN a b a.length) (show 0<p by omega)
 omega
theorem shares_in {p:Int} {rows:List (List Int)} {all:List Int} (hp:PrimeP p):Elems p (shares p rows all):=fun x hx=>by
 obtain⟨r,_,rfl⟩:=List.mem_map.1 hx
 exact dotS_in hp
theorem vals_in {p s j:Int} {rows:List (List Int)} {ow bl:List Int} (hp:PrimeP p):Elems p (valsOf p rows ow s bl j):=fun x hx=>by
 obtain⟨i,_,rfl⟩:=List.mem_map.1 hx
 exact elem_at (shares_in hp) hp.1 _
theorem vals_len {p s j:Int} {rows:List (List Int)} {ow bl:List Int}:(valsOf p rows ow s bl j).length=(rowsOf ow j).length:=by simp[valsOf]
def tagAt (p:Int) (kk:List (List Int)) (R vals:List Int) (k:Nat):Int:=((kk.getD (R.getD k 0).toNat []).getD 0 0*vals.getD k 0+(kk.getD (R.getD k 0).toNat []).getD 1 0)%p
def tagsOf (p:Int) (kk:List (List Int)) (R vals:List Int):List Int:=(List.range R.length).map (tagAt p kk R vals)
theorem range_map_succ {α:Type} (f:Nat→α) (n:Nat):(List.range (n+1)).map f=(List.range n).map f++[f n]:=by rw[List.range_succ,List.map_append];rfl
section
variable {S:Ids} {H0:AH}
theorem values (h p c s:Int) (e j:Nat) {a1 c1 a2 c2 a3 c3} {a4:Option Addr} {n4 c4:Nat} {ow bl:List Int} {rows bs:List (List Int)} (hO:B_Int64S ow) (hB:B_Int64SS rows) (hk:OkSch h ow p c rows) (hs:0≤s∧s≤p-1) (he:bs[e]?=some bl) (hbl:(bl.length:Int)=c-1) (hbe:Elems p bl) (hj:j≤6)
  (h1:KI.Sl S H0 (.slice a1 ow.length c1) ow) (h2:KI.sl.Sl S H0 (.slice a2 rows.length c2) rows) (h3:KI.sl.Sl S H0 (.slice a3 bs.length c3) bs):
  SpecM Tryz.prog S H0 128 [.agg #[.int .i64 h,.slice a1 ow.length c1,.int .i64 p,.int .i64 c,.slice a2 rows.length c2,.int .i64 s,.slice a3 bs.length c3,.slice a4 n4 c4],.int .i64 e,.int .i64 j] (MkL (valsOf p rows ow s bl j)):=by
 refine SpecM.of1 Tryz.func128 rfl (by kernel_rfl) rfl (fun H _=>?_)
 have hrl:=hk.mat.len
 have hol:=hk.len
 have hel:=(List.getElem?_eq_some_iff.1 he).1
 refine KW.getL h3.up U U U U U U U U U U U U U U U U (by omega) (by omega) (fun y a' m' hy hsy=>?_)
 have hy:bs[e]?=some y:=hy
 rw[he] at hy
 cases hy
 refine KW.callN1 U U U U U (sharesOf h p c s hO hB hk hs hbl hbe h1.up h2.up hsy) (fun v HA SA mA _ _ hv=>?_)
 obtain⟨v',rfl,a5,c5,rfl,hA⟩:=hv
 refine KW.lit U U U U U U U U U U [] U U (fun v hv=>by simp at hv) rfl ?_
 refine KW.shlU U U U U U U j rfl (by omega) ?_
 have hp:=small_pow (m:=j) (by omega)
 refine KW.callN1 U U U U U (rowsHeld h p c (2 ^ j) (by omega) hO hk.own hk.h7 h1.up) (fun v HR SR mR _ _ hv=>?_)
 obtain⟨a6,c6,rfl,hR⟩:=hv
 rw[rows_bit (fun x hx=>(hk.own x hx).1)] at hR ⊢
 have hRl:(rowsOf ow j).length≤ow.length:=rowsP_len _ _
 have hRm:∀x∈rowsOf ow j,0≤x∧x<ow.length:=fun x hx=>rowsP_mem hx
 have hval:valsOf p rows ow s bl j=(rowsOf ow j).map fun i=>(shares p rows (s :: bl)).getD i.toNat 0:=rfl
 rw[hval]
 have hsl:(shares p rows (s :: bl)).length=rows.length:=by simp[shares]
 obtain⟨R,hRe⟩:∃R,rowsOf ow j=R:=⟨_,rfl⟩
 rw[hRe] at hR hRl hRm ⊢
 obtain⟨A,hAe⟩:∃A,shares p rows (s :: bl)=A:=⟨_,rfl⟩
 rw[hAe] at hA hsl ⊢
 refine KW.lpM U U (fun q:Nat × Nat=>[(7,.slice a5 A.length c5),(9,.slice (some ⟨q.2,0,some 1⟩) ((R.take q.1).map fun i=>A.getD i.toNat 0).length ((R.take q.1).map fun i=>A.getD i.toNat 0).length),(30,.slice a6 R.length c6),(31,.int .i64 R.length),(32,.int .i64 q.1)]) (fun q=>SR) (fun q=>HR) (fun q=>[_,(q.2,⟨_,true,((R.take q.1).map fun i=>A.getD i.toNat 0).map (Value.int .i64)⟩)]) (fun q=>q.1≤R.length) (fun q=>R.length-q.1) ((0,_)) (by simp) ⟨rfl,rfl,rfl,rfl,rfl,trivial⟩ U U (rfl) (fun q hi bE n=>?_)
 obtain⟨q,o⟩:=q
 simp only at hi
 have hq:((R.take q).map fun i=>A.getD i.toNat 0).length≤q:=by rw[List.length_map,List.length_take];omega
 refine KW.cnd U U (fun k2=>?_) (fun k2=>?_)
 ·refine KW.getI hR.ups U U U U U U U U U U U U U U U U (by omega) (k2) (fun x hx=>?_)
  have hx:R[q]?=some x:=hx
  have hxm:=hRm x (List.mem_of_getElem? hx)
  refine KW.getI hA.ups U U U U U U U U U U U U U U U U (by omega) (by omega) (fun y hy=>?_)
  have hy:A.getD x.toNat 0=y:=getD_of hy
  have e1:=map_take_succ (fun i:Int=>A.getD i.toNat 0) hx
  rw[hy] at e1
  refine KW.app1 (xs:=((R.take q).map fun i=>A.getD i.toNat 0).map (Value.int .i64)) (v:=.int .i64 y) 1 2 U U U U U U U U U U U U U U U U U U U U U U U (by simp) (by show(_+1)*8≤_;first | omega | (simp only;omega)) (by first | omega | (simp only;omega)) ?_
  refine KW.nxt U U (fun H' g=>⟨(q+1,_),by simp only;omega,by first | omega | (simp only;omega),⟨rfl,by simp only[e1,List.length_append,List.length_singleton];rfl,rfl,rfl,congrArg (Value.int .i64) (inc64 (by omega)),trivial⟩,g.eqT (by simp only[e1,List.map_append];rfl)⟩)
 ·obtain rfl:q=R.length:=by simp only at k2;omega
  rw[List.take_of_length_le (Nat.le_refl _)]
  refine KW.retM1 U U U U (fun H1 g=>MkL.of g (j:=1) rfl (g.ge (H1:=H) (j:=1) rfl))
theorem l08Values (h p c s:Int) (e j:Nat) {id k:Nat} {a1 c1 a2 c2 a3 c3} {v4:Value} {ow bl:List Int} {rows bs:List (List Int)} (hO:B_Int64S ow) (hB:B_Int64SS rows) (hk:OkSch h ow p c rows) (hs:0≤s∧s≤p-1) (he:bs[e]?=some bl) (hbl:(bl.length:Int)=c-1) (hbe:Elems p bl)
  (hv:Has3 S H0 id k [.int .i64 h,.slice a1 ow.length c1,.int .i64 p,.int .i64 c,.slice a2 rows.length c2,.int .i64 s,.slice a3 bs.length c3,v4])
  (h1:KI.Sl S H0 (.slice a1 ow.length c1) ow) (h2:KI.sl.Sl S H0 (.slice a2 rows.length c2) rows) (h3:KI.sl.Sl S H0 (.slice a3 bs.length c3) bs):
  SpecM Tryz.prog S H0 198 [.pointer (some ⟨id,k,none⟩),.int .i64 e,.int .i64 j] (MkL (valsOf p rows ow s bl j)):=by
 refine SpecM.of1 Tryz.func198 rfl (by kernel_rfl) rfl (fun H _=>?_)
 have hv:=hv.up (S':=Low H.n) (H':=H)
 have hrl:=hk.mat.len
 have hol:=hk.len
 have hel:=(List.getElem?_eq_some_iff.1 he).1
 refine KW.ldF 5 hv U U U U U U U U U ?_
 refine KW.ldF 6 hv U U U U U U U U U ?_
 refine KW.getL h3.up U U U U U U U U U U U U U U U U (by omega) (by omega) (fun y a' m' hy hsy=>?_)
 have hy:bs[e]?=some y:=hy
 rw[he] at hy
 cases hy
 refine KW.callN1 U U U U U (l04Shares h p c s hB hk hs hbl hbe (hv.take (vs:=[_,_,_,_,_])) h2.up hsy) (fun v HA SA mA _ _ hv=>?_)
 obtain⟨a5,c5,rfl,hA⟩:=hv
 refine KW.lit U U U U U U U U U U [.int .i64 j] U U (fun v hv=>by simp at hv;subst hv;rfl) rfl ?_
 refine KW.callNV1 U U U U U (fun H1 g _=>l04Held h p c (g0:=[(j:Int)]) hO (by simp) ((hv.take (vs:=[_,_,_,_,_])).up) h1.up (g.ints (j:=0) U U (by simp))) (fun v HR SR mR _ _ hv=>?_)
 obtain⟨a6,c6,rfl,hR⟩:=hv
 rw[rows_one] at hR ⊢
 refine KW.lit U U U U U U U U U U [] U U (fun v hv=>by simp at hv) rfl ?_
 have hRl:(rowsOf ow j).length≤ow.length:=rowsP_len _ _
 have hRm:∀x∈rowsOf ow j,0≤x∧x<ow.length:=fun x hx=>rowsP_mem hx
 have hval:valsOf p rows ow s bl j=(rowsOf ow j).map fun i=>(shares p rows (s :: bl)).getD i.toNat 0:=rfl
 rw[hval]
 have hsl:(shares p rows (s :: bl)).length=rows.length:=by simp[shares]
 obtain⟨R,hRe⟩:∃R,rowsOf ow j=R:=⟨_,rfl⟩
 rw[hRe] at hR hRl hRm ⊢
 obtain⟨A,hAe⟩:∃A,shares p rows (s :: bl)=A:=⟨_,rfl⟩
 rw[hAe] at hA hsl ⊢
 refine KW.lpM U U (fun q:Nat × Nat=>[(7,.slice a5 A.length c5),(8,.slice a6 R.length c6),(9,.slice (some ⟨q.2,0,some 1⟩) ((R.take q.1).map fun i=>A.getD i.toNat 0).length ((R.take q.1).map fun i=>A.getD i.toNat 0).length),(10,.int .i64 q.1)]) (fun q=>SR) (fun q=>HR) (fun q=>[_,(q.2,⟨_,true,((R.take q.1).map fun i=>A.getD i.toNat 0).map (Value.int .i64)⟩)]) (fun q=>q.1≤R.length) (fun q=>R.length-q.1) ((0,_)) (by simp) ⟨rfl,rfl,rfl,rfl,trivial⟩ U U (rfl) (fun q hi bE n=>?_)
 obtain⟨q,o⟩:=q
 simp only at hi
 have hq:((R.take q).map fun i=>A.getD i.toNat 0).length≤q:=by rw[List.length_map,List.length_take];omega
 refine KW.cnd U U (fun k2=>?_) (fun k2=>?_)
 ·refine KW.getI hR.ups U U U U U U U U U U U U U U U U (by omega) (k2) (fun x hx=>?_)
  have hx:R[q]?=some x:=hx
  have hxm:=hRm x (List.mem_of_getElem? hx)
  refine KW.getI hA.ups U U U U U U U U U U U U U U U U (by omega) (by omega) (fun y hy=>?_)
  have hy:A.getD x.toNat 0=y:=getD_of hy
  have e1:=map_take_succ (fun i:Int=>A.getD i.toNat 0) hx
  rw[hy] at e1
  refine KW.app1 (xs:=((R.take q).map fun i=>A.getD i.toNat 0).map (Value.int .i64)) (v:=.int .i64 y) 1 2 U U U U U U U U U U U U U U U U U U U U U U U (by simp) (by show(_+1)*8≤_;first | omega | (simp only;omega)) (by first | omega | (simp only;omega)) ?_
  refine KW.nxt U U (fun H' g=>⟨(q+1,_),by simp only;omega,by first | omega | (simp only;omega),⟨rfl,rfl,by simp only[e1,List.length_append,List.length_singleton];rfl,congrArg (Value.int .i64) (inc64 (by omega)),trivial⟩,g.eqT (by simp only[e1,List.map_append];rfl)⟩)
 ·obtain rfl:q=R.length:=by simp only at k2;omega
  rw[List.take_of_length_le (Nat.le_refl _)]
  refine KW.retM1 U U U U (fun H1 g=>MkL.of g (j:=1) rfl (g.ge (H1:=H) (j:=1) rfl))
theorem tag_val {p k0 k1 v:Int} (hp:PrimeP p) (h0:0≤k0∧k0≤p-1) (h1:0≤k1∧k1≤p-1) (hv:0≤v∧v≤p-1):IntKind.i64.wrap (IntKind.i64.wrap (k0*v)+k1)=k0*v+k1∧0≤k0*v+k1:=by
 have h2:=mul_small hp.2.1 h0 hv
 have h3:=hp.2.1
 rw[wr (x:=k0*v) (by omega) (by omega),wr (by omega) (by omega)]
 exact⟨rfl,by omega⟩
theorem tags (h p c s:Int) (e j:Nat) {a1 c1 a2 c2 a4 c4 a5 c5} {a3:Option Addr} {n3 c3:Nat} {ow vals:List Int} {rows kk:List (List Int)} {ks:List (List (List Int))} (hO:B_Int64S ow) (hBk:B_Int64SSS ks) (hk:OkSch h ow p c rows) (he:ks[e]?=some kk) (hkk:KeysOk p rows.length kk) (hj:j≤6) (hvl:vals.length=(rowsOf ow j).length) (hve:Elems p vals)
  (h1:KI.Sl S H0 (.slice a1 ow.length c1) ow) (h4:KI.sl.sl.Sl S H0 (.slice a4 ks.length c4) ks) (h5:KI.Sl S H0 (.slice a5 vals.length c5) vals):
  SpecM Tryz.prog S H0 129 [.agg #[.int .i64 h,.slice a1 ow.length c1,.int .i64 p,.int .i64 c,.slice a2 rows.length c2,.int .i64 s,.slice a3 n3 c3,.slice a4 ks.length c4],.int .i64 e,.int .i64 j,.slice a5 vals.length c5] (MkL (tagsOf p kk (rowsOf ow j) vals)):=by
 refine SpecM.of1 Tryz.func129 rfl (by kernel_rfl) rfl (fun H _=>?_)
 have hrl:=hk.mat.len
 have hol:=hk.len
 have hel:=(List.getElem?_eq_some_iff.1 he).1
 have hpr:=hk.mat.pr
 refine KW.lit U U U U U U U U U U [] U U (fun v hv=>by simp at hv) rfl ?_
 refine KW.shlU U U U U U U j rfl (by omega) ?_
 have hp:=small_pow (m:=j) (by omega)
 refine KW.callN1 U U U U U (rowsHeld h p c (2 ^ j) (by omega) hO hk.own hk.h7 h1.up) (fun v HR SR mR _ _ hv=>?_)
 obtain⟨a6,c6,rfl,hR⟩:=hv
 rw[rows_bit (fun x hx=>(hk.own x hx).1)] at hR ⊢
 have hRl:(rowsOf ow j).length≤ow.length:=rowsP_len _ _
 have hRm:∀x∈rowsOf ow j,0≤x∧x<ow.length:=fun x hx=>rowsP_mem hx
 obtain⟨R,hRe⟩:∃R,rowsOf ow j=R:=⟨_,rfl⟩
 rw[hRe] at hR hRl hRm hvl ⊢
 refine KW.lpM U U (fun q:Nat × Nat=>[(1,.int .i64 e),(3,.slice a5 vals.length c5),(4,.pointer (some ⟨H.n,0,some 0⟩)),(9,.slice (some ⟨q.2,0,some 1⟩) ((List.range q.1).map (tagAt p kk R vals)).length ((List.range q.1).map (tagAt p kk R vals)).length),(18,.slice a6 R.length c6),(19,.int .i64 R.length),(20,.int .i64 q.1)]) (fun q=>SR) (fun q=>HR) (fun q=>[(H.n,⟨32,true,[.int .i64 h,.slice a1 ow.length c1,.int .i64 p,.int .i64 c,.slice a2 rows.length c2,.int .i64 s,.slice a3 n3 c3,.slice a4 ks.length c4]⟩),(q.2,⟨_,true,((List.range q.1).map (tagAt p kk R vals)).map (Value.int .i64)⟩)]) (fun q=>q.1≤R.length) (fun q=>R.length-q.1) ((0,_)) (by simp) ⟨rfl,rfl,rfl,rfl,rfl,rfl,rfl,trivial⟩ U U (rfl) (fun q hi bE n=>?_)
 obtain⟨q,o⟩:=q
 simp only at hi
 have hq:((List.range q).map (tagAt p kk R vals)).length≤q:=by simp
 refine KW.cnd U U (fun k2=>?_) (fun k2=>?_)
 ·refine KW.getI hR.ups U U U U U U U U U U U U U U U U (by omega) (k2) (fun x hx=>?_)
  have hx:R[q]?=some x:=hx
  have hxm:=hRm x (List.mem_of_getElem? hx)
  refine KW.getL h4.up U U U U U U U U U U U U U U U U (by omega) (by omega) (fun kk' b1 d1 hk1 hs1=>?_)
  have hk1:ks[e]?=some kk':=hk1
  rw[he] at hk1
  cases hk1
  have hkl:=hkk.1
  refine KW.getL hs1 U U U U U U U U U U U U U U U U (by omega) (by omega) (fun ky b2 d2 hk2 hs2=>?_)
  have hk2:kk[x.toNat]?=some ky:=hk2
  have hky:=hkk.2 ky (List.mem_of_getElem? hk2)
  have hkyl:=hky.1
  refine KW.getI hs2 U U U U U U U U U U U U U U U U (by omega) (by omega) (fun k0 hk0=>?_)
  refine KW.getI h5.up U U U U U U U U U U U U U U U U (by omega) (by omega) (fun v hv=>?_)
  refine KW.getI hs2 U U U U U U U U U U U U U U U U (by omega) (by omega) (fun k1 hk1'=>?_)
  have ek0:ky.getD 0 0=k0:=getD_of hk0
  have ek1:ky.getD 1 0=k1:=getD_of hk1'
  have ev:vals.getD q 0=v:=getD_of hv
  have eR:R.getD q 0=x:=getD_of hx
  have ekk:kk.getD x.toNat []=ky:=by rw[List.getD_eq_getElem?_getD,hk2];rfl
  have et:tagAt p kk R vals q=(k0*v+k1)%p:=by unfold tagAt;rw[eR,ekk,ek0,ek1,ev]
  obtain⟨ew,e0⟩:=tag_val hpr (ek0 ▸ elem_at hky.2 hpr.1 0) (ek1 ▸ elem_at hky.2 hpr.1 1) (ev ▸ elem_at hve hpr.1 q)
  refine KW.rem U U U U U U (by rw[ew];exact e0) (by have:=hpr.1;omega) ?_
  rw[ew,← et]
  have e1:=range_map_succ (tagAt p kk R vals) q
  refine KW.app1 (xs:=((List.range q).map (tagAt p kk R vals)).map (Value.int .i64)) (v:=.int .i64 (tagAt p kk R vals q)) 1 2 U U U U U U U U U U U U U U U U U U U U U U U (by simp) (by show(_+1)*8≤_;first | omega | (simp only;omega)) (by first | omega | (simp only;omega)) ?_
  refine KW.nxt U U (fun H' g=>⟨(q+1,_),by simp only;omega,by first | omega | (simp only;omega),⟨rfl,rfl,rfl,by simp only[e1,List.length_append,List.length_singleton];rfl,rfl,rfl,congrArg (Value.int .i64) (inc64 (by omega)),trivial⟩,g.eqT (by simp only[e1,List.map_append];rfl)⟩)
 ·obtain rfl:q=R.length:=by simp only at k2;omega
  refine KW.retM1 U U U U (fun H1 g=>MkL.of g (j:=1) rfl (g.ge (H1:=H) (j:=1) rfl))
theorem l08Tags (h p c s:Int) (e j:Nat) {id k:Nat} {a1 c1 a4 c4 a5 c5} {v2 v3:Value} {ow vals:List Int} {rows kk:List (List Int)} {ks:List (List (List Int))} (hO:B_Int64S ow) (hBk:B_Int64SSS ks) (hk:OkSch h ow p c rows) (he:ks[e]?=some kk) (hkk:KeysOk p rows.length kk) (hvl:vals.length=(rowsOf ow j).length) (hve:Elems p vals)
  (hv:Has3 S H0 id k [.int .i64 h,.slice a1 ow.length c1,.int .i64 p,.int .i64 c,v2,.int .i64 s,v3,.slice a4 ks.length c4])
  (h1:KI.Sl S H0 (.slice a1 ow.length c1) ow) (h4:KI.sl.sl.Sl S H0 (.slice a4 ks.length c4) ks) (h5:KI.Sl S H0 (.slice a5 vals.length c5) vals):
  SpecM Tryz.prog S H0 200 [.pointer (some ⟨id,k,none⟩),.int .i64 e,.int .i64 j,.slice a5 vals.length c5] (MkL (tagsOf p kk (rowsOf ow j) vals)):=by
 refine SpecM.of1 Tryz.func200 rfl (by kernel_rfl) rfl (fun H _=>?_)
 have hv:=hv.up (S':=Low H.n) (H':=H)
 have hrl:=hk.mat.len
 have hol:=hk.len
 have hel:=(List.getElem?_eq_some_iff.1 he).1
 have hpr:=hk.mat.pr
 refine KW.lit U U U U U U U U U U [.int .i64 j] U U (fun v hv=>by simp at hv;subst hv;rfl) rfl ?_
 refine KW.callNV1 U U U U U (fun H1 g _=>l04Held h p c (g0:=[(j:Int)]) hO (by simp) ((hv.take (vs:=[_,_,_,_,_])).up) h1.up (g.ints (j:=0) U U (by simp))) (fun v HR SR mR _ _ hv=>?_)
 obtain⟨a6,c6,rfl,hR⟩:=hv
 rw[rows_one] at hR ⊢
 refine KW.lit U U U U U U U U U U [] U U (fun v hv=>by simp at hv) rfl ?_
 have hRl:(rowsOf ow j).length≤ow.length:=rowsP_len _ _
 have hRm:∀x∈rowsOf ow j,0≤x∧x<ow.length:=fun x hx=>rowsP_mem hx
 obtain⟨R,hRe⟩:∃R,rowsOf ow j=R:=⟨_,rfl⟩
 rw[hRe] at hR hRl hRm hvl ⊢
 have hv:=hv.up (S':=SR) (H':=HR)
 refine KW.lpM U U (fun q:Nat × Nat=>[(0,.pointer (some ⟨id,k,none⟩)),(1,.int .i64 e),(3,.slice a5 vals.length c5),(9,.slice a6 R.length c6),(10,.slice (some ⟨q.2,0,some 1⟩) ((List.range q.1).map (tagAt p kk R vals)).length ((List.range q.1).map (tagAt p kk R vals)).length),(11,.int .i64 q.1)]) (fun q=>SR) (fun q=>HR) (fun q=>[_,(q.2,⟨_,true,((List.range q.1).map (tagAt p kk R vals)).map (Value.int .i64)⟩)]) (fun q=>q.1≤R.length) (fun q=>R.length-q.1) ((0,_)) (by simp) ⟨rfl,rfl,rfl,rfl,rfl,rfl,trivial⟩ U U (rfl) (fun q hi bE n=>?_)
 obtain⟨q,o⟩:=q
 simp only at hi
 have hq:((List.range q).map (tagAt p kk R vals)).length≤q:=by simp
 refine KW.cnd U U (fun k2=>?_) (fun k2=>?_)
 ·refine KW.ldF 7 hv U U U U U U U U U ?_
  refine KW.getL h4.up U U U U U U U U U U U U U U U U (by omega) (by omega) (fun kk' b1 d1 hk1 hs1=>?_)
  have hk1:ks[e]?=some kk':=hk1
  rw[he] at hk1
  cases hk1
  have hkl:=hkk.1
  refine KW.getI hR.ups U U U U U U U U U U U U U U U U (by omega) (k2) (fun x hx=>?_)
  have hx:R[q]?=some x:=hx
  have hxm:=hRm x (List.mem_of_getElem? hx)
  refine KW.getL hs1 U U U U U U U U U U U U U U U U (by omega) (by omega) (fun ky b2 d2 hk2 hs2=>?_)
  have hk2:kk[x.toNat]?=some ky:=hk2
  have hky:=hkk.2 ky (List.mem_of_getElem? hk2)
  have hkyl:=hky.1
  refine KW.getI hs2 U U U U U U U U U U U U U U U U (by omega) (by omega) (fun k0 hk0=>?_)
  refine KW.getI h5.up U U U U U U U U U U U U U U U U (by omega) (by omega) (fun v hv'=>?_)
  refine KW.getI hs2 U U U U U U U U U U U U U U U U (by omega) (by omega) (fun k1 hk1'=>?_)
  refine KW.ldF 2 hv U U U U U U U U U ?_
  have ek0:ky.getD 0 0=k0:=getD_of hk0
  have ek1:ky.getD 1 0=k1:=getD_of hk1'
  have ev:vals.getD q 0=v:=getD_of hv'
  have eR:R.getD q 0=x:=getD_of hx
  have ekk:kk.getD x.toNat []=ky:=by rw[List.getD_eq_getElem?_getD,hk2];rfl
  have et:tagAt p kk R vals q=(k0*v+k1)%p:=by unfold tagAt;rw[eR,ekk,ek0,ek1,ev]
  obtain⟨ew,e0⟩:=tag_val hpr (ek0 ▸ elem_at hky.2 hpr.1 0) (ek1 ▸ elem_at hky.2 hpr.1 1) (ev ▸ elem_at hve hpr.1 q)
  refine KW.rem U U U U U U (by rw[ew];exact e0) (by have:=hpr.1;omega) ?_
  rw[ew,← et]
  have e1:=range_map_succ (tagAt p kk R vals) q
  refine KW.app1 (xs:=((List.range q).map (tagAt p kk R vals)).map (Value.int .i64)) (v:=.int .i64 (tagAt p kk R vals q)) 1 2 U U U U U U U U U U U U U U U U U U U U U U U (by simp) (by show(_+1)*8≤_;first | omega | (simp only;omega)) (by first | omega | (simp only;omega)) ?_
  refine KW.nxt U U (fun H' g=>⟨(q+1,_),by simp only;omega,by first | omega | (simp only;omega),⟨rfl,rfl,rfl,rfl,by simp only[e1,List.length_append,List.length_singleton];rfl,congrArg (Value.int .i64) (inc64 (by omega)),trivial⟩,g.eqT (by simp only[e1,List.map_append];rfl)⟩)
 ·obtain rfl:q=R.length:=by simp only at k2;omega
  refine KW.retM1 U U U U (fun H1 g=>MkL.of g (j:=1) rfl (g.ge (H1:=H) (j:=1) rfl))
end
noncomputable def codeD (x:T_Deal) (e j:Int):Int:=if tv (DealOk x)=true then(if(0≤e∧e≤(x.2.2.1.length:Int)-1)∧(0≤j∧j≤x.1.1-1) then 0 else 2) else 1
abbrev blD (x:T_Deal) (e:Int):List Int:=x.2.2.1.getD e.toNat []
abbrev kkD (x:T_Deal) (e:Int):List (List Int):=x.2.2.2.getD e.toNat []
structure DealAt (x:T_Deal) (e j:Int) (E J:Nat):Prop where
 ee:e=E
 jj:j=J
 j6:J≤6
 sch:OkSch x.1.1 x.1.2.1 x.1.2.2.1 x.1.2.2.2.1 x.1.2.2.2.2
 sec:0≤x.2.1∧x.2.1≤x.1.2.2.1-1
 hb:x.2.2.1[E]?=some (blD x e)
 hk:x.2.2.2[E]?=some (kkD x e)
 bl:((blD x e).length:Int)=x.1.2.2.2.1-1∧Elems x.1.2.2.1 (blD x e)
 key:KeysOk x.1.2.2.1 x.1.2.2.2.2.length (kkD x e)
theorem codeD_ok {x:T_Deal} {e j:Int} (h:codeD x e j=0):∃E J,DealAt x e j E J:=by
 unfold codeD at h
 split at h
 ·rename_i hd
  have hd:DealOk x:=tv_iff.1 hd
  split at h
  ·rename_i hr
   have hbl:=hd.bl
   have hkl:=hd.kl
   have h7:=hd.sch.h7
   have h1:x.2.2.1[e.toNat]?=some (blD x e):=by
    show _=some (x.2.2.1.getD e.toNat [])
    rw[List.getD_eq_getElem?_getD,List.getElem?_eq_getElem (by omega)];rfl
   have h2:x.2.2.2[e.toNat]?=some (kkD x e):=by
    show _=some (x.2.2.2.getD e.toNat [])
    rw[List.getD_eq_getElem?_getD,List.getElem?_eq_getElem (by omega)];rfl
   have h3:=hd.bk _ _ _ h1 h2
   exact⟨e.toNat,j.toNat,by omega,by omega,by omega,hd.sch,hd.sec,h1,h2,h3.1,h3.2⟩
  ·cases h
 ·cases h
def valsD (x:T_Deal) (e j:Int):List Int:=valsOf x.1.2.2.1 x.1.2.2.2.2 x.1.2.1 x.2.1 (blD x e) j
def tagsD (x:T_Deal) (e j:Int) (vals:List Int):List Int:=tagsOf x.1.2.2.1 (kkD x e) (rowsOf x.1.2.1 j) vals
def lieOf (p:Int) (vals:List Int) (lie:Int):List Int:=match vals with
 | []=>[]
 | v :: vs=>((v+lie)%p) :: vs
theorem lie_len {p:Int} {vals:List Int} {lie:Int}:(lieOf p vals lie).length=vals.length:=by cases vals<;>rfl
theorem lie_in {p:Int} {vals:List Int} {lie:Int} (hp:PrimeP p) (h:Elems p vals):Elems p (lieOf p vals lie):=fun x hx=>by
 cases vals with
 | nil=>exact h x hx
 | cons v vs=>
  rcases List.mem_cons.1 hx with rfl | hx
  ·have h1:=hp.1
   have:=Int.emod_nonneg (v+lie) (show p≠0 by omega)
   have:=Int.emod_lt_of_pos (v+lie) (show 0<p by omega)
   omega
  ·exact h x (List.mem_cons_of_mem _ hx)
section
variable {S:Ids} {H0:AH}
theorem valuesD (x:T_Deal) (e j:Int) {E J:Nat} (hd:DealAt x e j E J) {cs:List Value} (hB:B_Deal x) (h:K_Deal.R S H0 x cs):SpecM Tryz.prog S H0 128 [.agg cs.toArray,.int .i64 e,.int .i64 j] (MkL (valsD x e j)):=by
 obtain⟨a1,c1,a2,c2,a3,c3,a4,c4,rfl,h1,h2,h3,h4⟩:=split2_Deal h
 have:=values x.1.1 x.1.2.2.1 x.1.2.2.2.1 x.2.1 E J (c2:=c2) (a4:=a4) (n4:=x.2.2.2.length) (c4:=c4) hB.1.2.1 hB.1.2.2.2.2 hd.sch hd.sec hd.hb hd.bl.1 hd.bl.2 hd.j6 h1 h2 h3
 rw[hd.ee,hd.jj]
 rw[hd.ee] at this
 exact this
theorem l08ValuesD (x:T_Deal) (e j:Int) {E J:Nat} (hd:DealAt x e j E J) {id k:Nat} {cs:List Value} (hB:B_Deal x) (hv:Has3 S H0 id k cs) (h:K_Deal.R S H0 x cs):SpecM Tryz.prog S H0 198 [.pointer (some ⟨id,k,none⟩),.int .i64 e,.int .i64 j] (MkL (valsD x e j)):=by
 obtain⟨a1,c1,a2,c2,a3,c3,a4,c4,rfl,h1,h2,h3,h4⟩:=split2_Deal h
 have:=l08Values x.1.1 x.1.2.2.1 x.1.2.2.2.1 x.2.1 E J hB.1.2.1 hB.1.2.2.2.2 hd.sch hd.sec hd.hb hd.bl.1 hd.bl.2 hv h1 h2 h3
 rw[hd.ee,hd.jj]
 rw[hd.ee] at this
 exact this
theorem tagsDD (x:T_Deal) (e j:Int) {E J:Nat} (hd:DealAt x e j E J) {cs:List Value} (hB:B_Deal x) (h:K_Deal.R S H0 x cs) {vals:List Int} {a c} (hl:vals.length=(rowsOf x.1.2.1 j).length) (he:Elems x.1.2.2.1 vals) (hs:KI.Sl S H0 (.slice a vals.length c) vals):SpecM Tryz.prog S H0 129 [.agg cs.toArray,.int .i64 e,.int .i64 j,.slice a vals.length c] (MkL (tagsD x e j vals)):=by
 obtain⟨a1,c1,a2,c2,a3,c3,a4,c4,rfl,h1,h2,h3,h4⟩:=split2_Deal h
 have:=tags x.1.1 x.1.2.2.1 x.1.2.2.2.1 x.2.1 E J (a2:=a2) (c2:=c2) (a3:=a3) (n3:=x.2.2.1.length) (c3:=c3) hB.1.2.1 hB.2.2.2 hd.sch hd.hk hd.key hd.j6 (by rw[← hd.jj];exact hl) he h1 h4 hs
 unfold tagsD
 rw[hd.ee,hd.jj]
 rw[hd.ee] at this
 exact this
theorem l08TagsD (x:T_Deal) (e j:Int) {E J:Nat} (hd:DealAt x e j E J) {id k:Nat} {cs:List Value} (hB:B_Deal x) (hv:Has3 S H0 id k cs) (h:K_Deal.R S H0 x cs) {vals:List Int} {a c} (hl:vals.length=(rowsOf x.1.2.1 j).length) (he:Elems x.1.2.2.1 vals) (hs:KI.Sl S H0 (.slice a vals.length c) vals):SpecM Tryz.prog S H0 200 [.pointer (some ⟨id,k,none⟩),.int .i64 e,.int .i64 j,.slice a vals.length c] (MkL (tagsD x e j vals)):=by
 obtain⟨a1,c1,a2,c2,a3,c3,a4,c4,rfl,h1,h2,h3,h4⟩:=split2_Deal h
 have:=l08Tags x.1.1 x.1.2.2.1 x.1.2.2.2.1 x.2.1 E J hB.1.2.1 hB.2.2.2 hd.sch hd.hk hd.key (by rw[← hd.jj];exact hl) he hv h1 h4 hs
 unfold tagsD
 rw[hd.ee,hd.jj]
 rw[hd.ee] at this
 exact this
def MkLC (xs:List Int) (code:Int) (n:Nat) (v:Value) (H1:AH):Prop:=∃a c,v=.tuple #[.slice a xs.length c,.int .i64 code]∧M_Int64S.R (New n H1.n) H1 xs [.slice a xs.length c]
theorem MkLC.nil {code:Int} {n:Nat} {H1:AH} {v:Value} (hv:v=.tuple #[.slice none 0 0,.int .i64 code]):MkLC [] code n v H1:=⟨none,0,hv,ml1' (.inl ⟨rfl,_,_,rfl,fun _=>rfl⟩)⟩
theorem MkLC.nil' {code:Int} {n id:Nat} {H1:AH} {v:Value} (hv:v=.tuple #[.slice (some ⟨id,0,some 1⟩) 0 0,.int .i64 code]):MkLC [] code n v H1:=⟨_,0,hv,ml1' (.inl ⟨rfl,_,_,rfl,fun h=>by cases h⟩)⟩
theorem Good.made {S0:Ids} {H0 H1 H2:AH} {T:List Var} {n lo m:Nat} {xs:List Int} {a:Option Addr} {c:Nat} (g:Good S0 H0 T n H2) [o:On (New m H1.n) H1 S0 H0] (hm:lo≤m) (h:KI.Ml (New m H1.n) H1 (.slice a xs.length c) xs):KI.Ml (New lo H2.n) H2 (.slice a xs.length c) xs:=
 Kn.Ml.st h (g.out (fun id hid=>by have:=hid.1;omega)).st
end
section
variable {S:Ids} {H0:AH}
theorem l00Own {a c} {xs:List Int} (hl:xs.length≤1048576) (hs:KI.Sl S H0 (.slice a xs.length c) xs):SpecM Tryz.prog S H0 113 [.slice a xs.length c] (MkL xs):=by
 refine SpecM.of1 Tryz.func113 rfl (by kernel_rfl) rfl (fun H _=>?_)
 refine KW.lit U U U U U U U U U U [] U U (fun v hv=>by simp at hv) rfl ?_
 refine KW.appV 0 U U U U U U U U U U (fun H1 g=>acells_I hs.up g) (by simp) (by simp) (fun v hv=>by obtain⟨_,_,rfl⟩:=List.mem_map.1 hv;rfl) (by show(_+_)*8≤_;simp only[List.length_cons,List.length_nil];omega) (by simp only[List.length_cons,List.length_nil];omega) (show 0+xs.length=xs.length from by omega) (fun oa _ _=>?_)
 refine KW.retM1 U U U U (fun H1 g=>MkL.of g (j:=0) rfl (g.ge (H1:=H) (j:=0) rfl))
theorem cloneI {a c} {xs:List Int} (hl:xs.length≤1048576) (hs:KI.Sl S H0 (.slice a xs.length c) xs):SpecM Tryz.prog S H0 89 [.slice a xs.length c] (MkL xs):=by
 refine SpecM.of1 Tryz.func89 rfl (by kernel_rfl) rfl (fun H _=>?_)
 refine KW.cndB U U (fun h=>?_) (fun h=>?_)
 ·have ha:a=none:=by cases a with
   | none=>rfl
   | some a=>simp at h
  have hx:xs=[]:=by
   rcases hs with⟨hx,_⟩ | ⟨id,k,c1,b,h1,_⟩
   ·exact hx
   ·rw[ha] at h1;cases h1
  subst hx
  refine KW.retM1 U U U U (fun H1 g=>⟨none,0,rfl,.inl ⟨rfl,_,_,rfl,fun _=>rfl⟩⟩)
 ·refine KW.lit U U U U U U U U U U [] U U (fun v hv=>by simp at hv) rfl ?_
  refine KW.appV 0 U U U U U U U U U U (fun H1 g=>acells_I hs.up g) (by simp) (by simp) (fun v hv=>by obtain⟨_,_,rfl⟩:=List.mem_map.1 hv;rfl) (by show(_+_)*8≤_;simp only[List.length_cons,List.length_nil];omega) (by simp only[List.length_cons,List.length_nil];omega) (show 0+xs.length=xs.length from by omega) (fun oa _ _=>?_)
  refine KW.retM1 U U U U (fun H1 g=>MkL.of g (j:=0) rfl (g.ge (H1:=H) (j:=0) rfl))
theorem equalI {a c a' c'} {xs ys:List Int} (hl:xs.length≤1048576) (hs:KI.Sl S H0 (.slice a xs.length c) xs) (hs':KI.Sl S H0 (.slice a' ys.length c') ys):Spec Tryz.prog S H0 130 [.slice a xs.length c,.slice a' ys.length c'] (fun v=>v=.bool (tv (xs=ys))):=by
 refine Spec.of1 Tryz.func130 rfl (by kernel_rfl) rfl (fun H _=>?_)
 refine KW.cndB U U (fun h=>?_) (fun h=>?_)
 ·exact KW.ret U U U U (by rw[tv_false (fun hc=>by rw[hc] at h;simp at h)];rfl)
 have h:xs.length=ys.length:=by simp at h;omega
 refine KW.lp U U (fun i:Nat=>[(0,.slice a xs.length c),(1,.slice a' ys.length c'),(12,.int .i64 xs.length),(13,.int .i64 i)]) (fun i=>i≤xs.length∧∀j,j<i→xs[j]?=ys[j]?) (fun i=>xs.length-i) (0) (⟨by omega,fun j h=>absurd h (by omega)⟩) ⟨rfl,rfl,rfl,rfl,trivial⟩ (fun i hi bE n=>?_)
 obtain⟨hi,hj⟩:=hi
 refine KW.cnd U U (fun h2=>?_) (fun h2=>?_)
 ·refine KW.getI hs.up U U U U U U U U U U U U U U U U (by omega) (h2) (fun x hx=>?_)
  refine KW.getI hs'.up U U U U U U U U U U U U U U U U (by omega) (by omega) (fun y hy=>?_)
  have hx:xs[i]?=some x:=hx
  have hy:ys[i]?=some y:=hy
  refine KW.cndB U U (fun h3=>?_) (fun h3=>?_)
  ·exact KW.ret U U U U (by rw[tv_false (fun hc=>by subst hc;rw[hx] at hy;cases hy;simp at h3)];rfl)
  have h3:x=y:=by simpa using h3
  refine KW.nxt U U (fun H' g=>⟨i+1,⟨by omega,upto hj (by rw[hx,hy,h3])⟩,by first | omega | (simp only;omega),⟨rfl,rfl,rfl,congrArg (Value.int .i64) (inc64 (by omega)),trivial⟩,g⟩)
 ·have:xs=ys:=List.ext_getElem? fun j=>by
   rcases Nat.lt_or_ge j i with h | h
   ·exact hj j h
   ·rw[List.getElem?_eq_none (by omega),List.getElem?_eq_none (by omega)]
  exact KW.ret U U U U (by rw[tv_true this];rfl)
theorem l00Same {a c a' c'} {xs ys:List Int} (hl:xs.length≤1048576) (hs:KI.Sl S H0 (.slice a xs.length c) xs) (hs':KI.Sl S H0 (.slice a' ys.length c') ys):Spec Tryz.prog S H0 62 [.slice a xs.length c,.slice a' ys.length c'] (fun v=>v=.bool (tv (xs=ys))):=by
 refine Spec.of1 Tryz.func62 rfl (by kernel_rfl) rfl (fun H _=>?_)
 refine KW.cndB U U (fun h=>?_) (fun h=>?_)
 ·exact KW.ret U U U U (by rw[tv_false (fun hc=>by rw[hc] at h;simp at h)];rfl)
 have h:xs.length=ys.length:=by simp at h;omega
 refine KW.lp U U (fun i:Nat=>[(0,.slice a xs.length c),(1,.slice a' ys.length c'),(5,.int .i64 i)]) (fun i=>i≤xs.length∧∀j,j<i→xs[j]?=ys[j]?) (fun i=>xs.length-i) (0) (⟨by omega,fun j h=>absurd h (by omega)⟩) ⟨rfl,rfl,rfl,trivial⟩ (fun i hi bE n=>?_)
 obtain⟨hi,hj⟩:=hi
 refine KW.cnd U U (fun h2=>?_) (fun h2=>?_)
 ·refine KW.getI hs.up U U U U U U U U U U U U U U U U (by omega) (h2) (fun x hx=>?_)
  refine KW.getI hs'.up U U U U U U U U U U U U U U U U (by omega) (by omega) (fun y hy=>?_)
  have hx:xs[i]?=some x:=hx
  have hy:ys[i]?=some y:=hy
  refine KW.cndB U U (fun h3=>?_) (fun h3=>?_)
  ·exact KW.ret U U U U (by rw[tv_false (fun hc=>by subst hc;rw[hx] at hy;cases hy;simp at h3)];rfl)
  have h3:x=y:=by simpa using h3
  refine KW.nxt U U (fun H' g=>⟨i+1,⟨by omega,upto hj (by rw[hx,hy,h3])⟩,by first | omega | (simp only;omega),⟨rfl,rfl,congrArg (Value.int .i64) (inc64 (by omega)),trivial⟩,g⟩)
 ·have:xs=ys:=List.ext_getElem? fun j=>by
   rcases Nat.lt_or_ge j i with h | h
   ·exact hj j h
   ·rw[List.getElem?_eq_none (by omega),List.getElem?_eq_none (by omega)]
  exact KW.ret U U U U (by rw[tv_true this];rfl)
theorem lie_at {p:Int} {vals:List Int} {lie:Int} {i:Nat} {x:Int} (hi:(lieOf p vals lie)[i]?=some x):(i=0∧x=(vals.getD 0 0+lie)%p)∨(0<i∧vals[i]?=some x):=by
 cases vals with
 | nil=>simp[lieOf] at hi
 | cons v vs=>
  cases i with
  | zero=>exact .inl ⟨rfl,by simpa [lieOf] using hi.symm⟩
  | succ i=>exact .inr ⟨by omega,by simpa [lieOf] using hi⟩
theorem lied (h p c s:Int) (hp:PrimeP p) (lie:Int) (hlie:0≤lie∧lie≤p) {a1 c1 a2 c2 a3 c3 a4 c4 a5 c5} {n1 n2 n3 n4:Nat} {vals:List Int} (hl:vals.length≤1048576) (hv:Elems p vals) (hs:KI.Sl S H0 (.slice a5 vals.length c5) vals):
  SpecM Tryz.prog S H0 131 [.agg #[.int .i64 h,.slice a1 n1 c1,.int .i64 p,.int .i64 c,.slice a2 n2 c2,.int .i64 s,.slice a3 n3 c3,.slice a4 n4 c4],.slice a5 vals.length c5,.int .i64 lie] (MkL (lieOf p vals lie)):=by
 refine SpecM.of1 Tryz.func131 rfl (by kernel_rfl) rfl (fun H _=>?_)
 refine KW.fact (fun _ g=>g.nle (H1:=H)) (fun hn0=>?_)
 refine KW.callN1 U U U U U (cloneI hl hs.up) (fun v HA SA mA _ _ hv=>?_)
 obtain⟨a6,c6,rfl,hA⟩:=hv
 refine KW.cnd U U (fun k1=>?_) (fun k1=>?_)
 ·have k1:0<vals.length:=by have:(0:Int)<vals.length:=k1;omega
  obtain⟨o,c7,b,e1,e2,e3,e4,e5,e6,e7⟩:=hA.ints (fun hx=>by rw[hx] at k1;simp at k1)
  cases e1
  obtain⟨ty,rw,cells⟩:=b
  obtain rfl:rw=true:=e5
  obtain⟨v0,hv0⟩:∃v,vals[0]?=some v:=⟨vals[0],List.getElem?_eq_getElem k1⟩
  have hvd:vals.getD 0 0=v0:=getD_of hv0
  have hvb:=hv v0 (List.mem_of_getElem? hv0)
  have hp2:=hp.1
  have hp31:=hp.2.1
  have oS:=(inferInstance:On (New _ HA.n) HA SA HA).st o e3
  refine KW.thaw o ⟨ty,true,cells⟩ oS.1 e4 ?_
  haveI:On (Low H.n) H (fun id=>SA id∧id≠o) HA:=On.thaw (fun id hid=>by have:id<H.n:=hid;have:=e3.1;omega)
  refine KW.idx0 U U U U U U U U U (by omega) (by omega) ?_
  refine KW.ldT 1 U U U U U U (bload_at (e7 0 v0 hv0) U U) ?_
  refine KW.rem U U U U U U (by rw[wr (by omega) (by omega)];omega) (by omega) ?_
  rw[wr (by omega) (by omega),← hvd]
  refine KW.idx0 U U U U U U U U U (by omega) (by omega) ?_
  refine KW.st1 1 U U U U U U U U U U U U (by simp only;simp only at e6;omega) ?_
  refine KW.retM1 U U U U (fun H1 g=>?_)
  have hb:=g.blk (j:=1) rfl
  have el:(lieOf p vals lie).length=vals.length:=lie_len
  refine⟨_,_,by rw[el];rfl,?_⟩
  refine mlI_of ⟨by have:=e3.1;omega,hb.2⟩ hb.1 rfl (by rw[el];exact e2) (by rw[el];simp only[List.length_set];exact e6) (fun i x hi=>?_)
  rcases lie_at hi with⟨rfl,rfl⟩ | ⟨h0,h1⟩
  ·show(cells.set 0 (Value.int .i64 _))[0]?=_
   rw[List.getElem?_set_self (by simp only at e6;omega)]
  ·show(cells.set 0 (Value.int .i64 _))[i]?=_
   rw[List.getElem?_set_ne (by omega)];exact e7 i x h1
 ·have hx:vals=[]:=List.eq_nil_of_length_eq_zero (by have k1:¬(0:Int)<vals.length:=k1;omega)
  subst hx
  refine KW.retM1 U U U U (fun H1 g=>⟨_,_,rfl,g.made (by omega) hA⟩)
theorem l08Lying (p:Int) (hp:PrimeP p) (lie:Int) (hlie:0≤lie∧lie≤p) {a5 c5} {vals:List Int} (hl:vals.length≤1048576) (hv:Elems p vals) (hs:KI.Sl S H0 (.slice a5 vals.length c5) vals):
  SpecM Tryz.prog S H0 201 [.int .i64 p,.slice a5 vals.length c5,.int .i64 lie] (MkL (lieOf p vals lie)):=by
 refine SpecM.of1 Tryz.func201 rfl (by kernel_rfl) rfl (fun H _=>?_)
 refine KW.fact (fun _ g=>g.nle (H1:=H)) (fun hn0=>?_)
 refine KW.callN1 U U U U U (l00Own hl hs.up) (fun v HA SA mA _ _ hv=>?_)
 obtain⟨a6,c6,rfl,hA⟩:=hv
 refine KW.cnd U U (fun k1=>?_) (fun k1=>?_)
 ·have k1:0<vals.length:=by have:(0:Int)<vals.length:=k1;omega
  obtain⟨o,c7,b,e1,e2,e3,e4,e5,e6,e7⟩:=hA.ints (fun hx=>by rw[hx] at k1;simp at k1)
  cases e1
  obtain⟨ty,rw,cells⟩:=b
  obtain rfl:rw=true:=e5
  obtain⟨v0,hv0⟩:∃v,vals[0]?=some v:=⟨vals[0],List.getElem?_eq_getElem k1⟩
  have hvd:vals.getD 0 0=v0:=getD_of hv0
  have hvb:=hv v0 (List.mem_of_getElem? hv0)
  have hp2:=hp.1
  have hp31:=hp.2.1
  have oS:=(inferInstance:On (New _ HA.n) HA SA HA).st o e3
  refine KW.thaw o ⟨ty,true,cells⟩ oS.1 e4 ?_
  haveI:On (Low H.n) H (fun id=>SA id∧id≠o) HA:=On.thaw (fun id hid=>by have:id<H.n:=hid;have:=e3.1;omega)
  refine KW.idx0 U U U U U U U U U (by omega) (by omega) ?_
  refine KW.ldT 0 U U U U U U (bload_at (e7 0 v0 hv0) U U) ?_
  refine KW.rem U U U U U U (by rw[wr (by omega) (by omega)];omega) (by omega) ?_
  rw[wr (by omega) (by omega),← hvd]
  refine KW.idx0 U U U U U U U U U (by omega) (by omega) ?_
  refine KW.st1 0 U U U U U U U U U U U U (by simp only;simp only at e6;omega) ?_
  refine KW.retM1 U U U U (fun H1 g=>?_)
  have hb:=g.blk (j:=0) rfl
  have el:(lieOf p vals lie).length=vals.length:=lie_len
  refine⟨_,_,by rw[el];rfl,?_⟩
  refine mlI_of ⟨by have:=e3.1;omega,hb.2⟩ hb.1 rfl (by rw[el];exact e2) (by rw[el];simp only[List.length_set];exact e6) (fun i x hi=>?_)
  rcases lie_at hi with⟨rfl,rfl⟩ | ⟨h0,h1⟩
  ·show(cells.set 0 (Value.int .i64 _))[0]?=_
   rw[List.getElem?_set_self (by simp only at e6;omega)]
  ·show(cells.set 0 (Value.int .i64 _))[i]?=_
   rw[List.getElem?_set_ne (by omega)];exact e7 i x h1
 ·have hx:vals=[]:=List.eq_nil_of_length_eq_zero (by have k1:¬(0:Int)<vals.length:=k1;omega)
  subst hx
  refine KW.retM1 U U U U (fun H1 g=>⟨_,_,rfl,g.made (by omega) hA⟩)
end
abbrev T_Deed:Type:=Int × Int × Int
abbrev T_Purse:Type:=Int × List Int × List Int
abbrev T_Seat:Type:=T_Purse × T_Purse × Int
abbrev T_Packet:Type:=Bool × Int × Int × List Int × List Int
structure Cer where
 ep:Int
 seats:List T_Seat
 oe:Int
 got:List (List Int)
 has:List Bool
 named:List Bool
 wire:List T_Packet
def purse0:T_Purse:=(-1,[],[])
def seat0:T_Seat:=(purse0,purse0,0)
def cer0 (n:Nat):Cer:=⟨0,List.replicate n seat0,-1,List.replicate n [],List.replicate n false,List.replicate n false,[]⟩
abbrev Cer.seat (c:Cer) (h:Int):T_Seat:=c.seats.getD h.toNat seat0
def fresh (c:Cer) (e:Int):Cer:=if c.oe<e then⟨c.ep,c.seats,e,List.replicate c.got.length [],List.replicate c.has.length false,c.named,c.wire⟩ else c
noncomputable def comeO (x:T_Deal) (c:Cer) (p:T_Packet):Cer:=
 if p.2.2.1=c.oe∧c.named.getD p.2.1.toNat false=false∧c.has.getD p.2.1.toNat false=false then
  (if tv (tagsD x p.2.2.1 p.2.1 p.2.2.2.1=p.2.2.2.2)=true then⟨c.ep,c.seats,c.oe,c.got.set p.2.1.toNat p.2.2.2.1,c.has.set p.2.1.toNat true,c.named,c.wire⟩
  else⟨c.ep,c.seats,c.oe,c.got,c.has,c.named.set p.2.1.toNat true,c.wire⟩)
 else c
def comeS (c:Cer) (p:T_Packet):Cer:=
 if(c.seat p.2.1).1.1<p.2.2.1 then⟨c.ep,c.seats.set p.2.1.toNat ((p.2.2.1,p.2.2.2.1,p.2.2.2.2),(c.seat p.2.1).2),c.oe,c.got,c.has,c.named,c.wire⟩ else c
noncomputable def come (x:T_Deal) (c:Cer) (p:T_Packet):Cer:=if p.1=true then comeO x (fresh c p.2.2.1) p else comeS c p
def send (c:Cer) (p:T_Packet):Cer × Int:=if c.wire.length=12 then(c,3) else(⟨c.ep,c.seats,c.oe,c.got,c.has,c.named,c.wire++[p]⟩,0)
def dropW (c:Cer) (i:Nat):Cer:=⟨c.ep,c.seats,c.oe,c.got,c.has,c.named,c.wire.eraseIdx i⟩
def setS (c:Cer) (h:Int) (s:T_Seat):Cer:=⟨c.ep,c.seats.set h.toNat s,c.oe,c.got,c.has,c.named,c.wire⟩
abbrev Cer.pk (c:Cer) (a:Int):T_Packet:=c.wire.getD a.toNat (false,0,0,[],[])
noncomputable def doIt (x:T_Deal) (c:Cer) (d:T_Deed):Cer × Int:=
 if d.1=3∨d.1=4∨d.1=5 then
  (if(c.wire.length:Int)≤d.2.1 then(c,2) else
   ((if d.1=5 then(if d.1=4 then c else dropW c d.2.1.toNat) else come x (if d.1=4 then c else dropW c d.2.1.toNat) (c.pk d.2.1)),0))
 else if d.1=9 then(if c.ep+1=(x.2.2.1.length:Int) then(c,3) else(⟨c.ep+1,c.seats,c.oe,c.got,c.has,c.named,c.wire⟩,0))
 else if x.1.1≤d.2.1 then(c,2)
 else if d.1=1 then send c (false,d.2.1,c.ep,valsD x c.ep d.2.1,tagsD x c.ep d.2.1 (valsD x c.ep d.2.1))
 else if d.1=2 then(if(c.seat d.2.1).1.1=-1 then(c,4) else send c (true,d.2.1,(c.seat d.2.1).1.1,lieOf x.1.2.2.1 (c.seat d.2.1).1.2.1 (c.seat d.2.1).2.2,(c.seat d.2.1).1.2.2))
 else if d.1=6 then(if x.1.2.2.1≤d.2.2 then(c,2) else(setS c d.2.1 ((c.seat d.2.1).1,(c.seat d.2.1).2.1,d.2.2),0))
 else if d.1=7 then(setS c d.2.1 ((c.seat d.2.1).1,(c.seat d.2.1).1,(c.seat d.2.1).2.2),0)
 else(setS c d.2.1 ((c.seat d.2.1).2.1,(c.seat d.2.1).2.1,(c.seat d.2.1).2.2),0)
noncomputable def play (x:T_Deal) (c:Cer):List T_Deed→Cer
 | []=>c
 | d :: ds=>play x (doIt x c d).1 ds
noncomputable def codes (x:T_Deal) (c:Cer):List T_Deed→List Int
 | []=>[]
 | d :: ds=>(doIt x c d).2 :: codes x (doIt x c d).1 ds
def cntD (k:Int):Int:=if k=6 then 2 else if k=9 then 0 else 1
def DeedP (d:T_Deed):Prop:=(1≤d.1∧d.1≤9)∧(0≤d.2.1∧d.2.1≤999)∧(0≤d.2.2∧d.2.2≤999)∧(0<cntD d.1∨d.2.1=0)∧(1<cntD d.1∨d.2.2=0)
structure RowsH (x:T_Deal) (h:Int) (vs ts:List Int):Prop where
 vl:vs.length=(rowsOf x.1.2.1 h).length
 tl:ts.length=(rowsOf x.1.2.1 h).length
 ve:Elems x.1.2.2.1 vs
def EpOk (x:T_Deal) (e:Int):Prop:=0≤e∧e<(x.2.2.1.length:Int)
def HoOk (x:T_Deal) (h:Int):Prop:=0≤h∧h<x.1.1
structure PkOk (x:T_Deal) (p:T_Packet):Prop where
 ho:HoOk x p.2.1
 ep:EpOk x p.2.2.1
 rw:RowsH x p.2.1 p.2.2.2.1 p.2.2.2.2
def PuOk (x:T_Deal) (h:Int) (p:T_Purse):Prop:=(p.1=-1∧p.2.1=[]∧p.2.2=[])∨(EpOk x p.1∧RowsH x h p.2.1 p.2.2)
structure SeOk (x:T_Deal) (h:Int) (s:T_Seat):Prop where
 pu:PuOk x h s.1
 sa:PuOk x h s.2.1
 lie:0≤s.2.2∧s.2.2≤x.1.2.2.1-1
structure CerOk (x:T_Deal) (c:Cer):Prop where
 ep:EpOk x c.ep
 sl:(c.seats.length:Int)=x.1.1
 se:∀(j:Nat) s,c.seats[j]?=some s→SeOk x j s
 oe:c.oe=-1∨EpOk x c.oe
 gl:c.got.length=c.seats.length
 hl:c.has.length=c.seats.length
 nl:c.named.length=c.seats.length
 go:∀(j:Nat) g,c.got[j]?=some g→g=[]∧c.has.getD j false=false∨g.length=(rowsOf x.1.2.1 j).length∧Elems x.1.2.2.1 g
 wl:c.wire.length≤12
 wi:∀p∈c.wire,PkOk x p
theorem getD_mem {α:Type} {l:List α} {i:Nat} {d:α} (h:i<l.length):l[i]?=some (l.getD i d):=by
 rw[List.getD_eq_getElem?_getD,List.getElem?_eq_getElem h];rfl
section
variable {x:T_Deal} {c:Cer}
theorem CerOk.seat (h:CerOk x c) {a:Int} (ha:HoOk x a):c.seats[a.toNat]?=some (c.seat a)∧SeOk x a (c.seat a):=by
 have h1:=h.sl
 have h2:=ha.1
 have h3:=ha.2
 have h4:c.seats[a.toNat]?=some (c.seat a):=getD_mem (by omega)
 have h5:=h.se _ _ h4
 rw[show((a.toNat:Nat):Int)=a from by omega] at h5
 exact⟨h4,h5⟩
theorem CerOk.setS (h:CerOk x c) {a:Int} (ha:HoOk x a) {s:T_Seat} (hs:SeOk x a s):CerOk x (setS c a s):=by
 have h2:=ha.1
 refine⟨h.ep,by simp[Am.setS,h.sl],fun j t hj=>?_,h.oe,by simp[Am.setS,h.gl],by simp[Am.setS,h.hl],by simp[Am.setS,h.nl],h.go,h.wl,h.wi⟩
 simp only[Am.setS] at hj
 rw[List.getElem?_set] at hj
 split at hj
 ·rename_i e
  split at hj
  ·cases hj
   rw[← e,show((a.toNat:Nat):Int)=a from by omega]
   exact hs
  ·cases hj
 ·exact h.se j t hj
theorem CerOk.send (h:CerOk x c) {p:T_Packet} (hp:PkOk x p):CerOk x (send c p).1:=by
 unfold Am.send
 split
 ·exact h
 ·rename_i hw
  have:=h.wl
  refine⟨h.ep,h.sl,h.se,h.oe,h.gl,h.hl,h.nl,h.go,by simp;omega,fun q hq=>?_⟩
  rcases List.mem_append.1 hq with hq | hq
  ·exact h.wi q hq
  ·rw[List.mem_singleton.1 hq];exact hp
theorem CerOk.drop (h:CerOk x c) (i:Nat):CerOk x (dropW c i):=by
 refine⟨h.ep,h.sl,h.se,h.oe,h.gl,h.hl,h.nl,h.go,?_,fun q hq=>h.wi q (List.mem_of_mem_eraseIdx hq)⟩
 have:=List.length_eraseIdx_le c.wire i
 have:=h.wl
 show(c.wire.eraseIdx i).length≤12
 omega
theorem CerOk.pk (h:CerOk x c) {a:Int} (h0:0≤a) (h1:a<(c.wire.length:Int)):c.wire[a.toNat]?=some (c.pk a)∧PkOk x (c.pk a):=by
 have h4:c.wire[a.toNat]?=some (c.pk a):=getD_mem (by omega)
 exact⟨h4,h.wi _ (List.mem_of_getElem? h4)⟩
theorem CerOk.fresh (h:CerOk x c) {e:Int} (he:EpOk x e):CerOk x (fresh c e):=by
 unfold Am.fresh
 split
 ·refine⟨h.ep,h.sl,h.se,.inr he,by simp[h.gl],by simp[h.hl],h.nl,fun j g hj=>?_,h.wl,h.wi⟩
  refine .inl ⟨?_,?_⟩
  ·exact List.eq_of_mem_replicate (List.mem_of_getElem? hj)
  ·simp only[List.getD_eq_getElem?_getD,List.getElem?_replicate]
   split<;>rfl
 ·exact h
theorem CerOk.comeO (h:CerOk x c) {p:T_Packet} (hp:PkOk x p):CerOk x (comeO x c p):=by
 unfold Am.comeO
 split
 ·split
  ·refine⟨h.ep,h.sl,h.se,h.oe,by simp[h.gl],by simp[h.hl],h.nl,fun j g hj=>?_,h.wl,h.wi⟩
   simp only at hj
   rw[List.getElem?_set] at hj
   split at hj
   ·rename_i e
    split at hj
    ·cases hj
     have h1:=hp.ho.1
     rw[← e,show((p.2.1.toNat:Nat):Int)=p.2.1 from by omega]
     exact .inr ⟨hp.rw.vl,hp.rw.ve⟩
    ·cases hj
   ·rename_i e
    rcases h.go j g hj with⟨h1,h2⟩ | h1
    ·refine .inl ⟨h1,?_⟩
     simp only[List.getD_eq_getElem?_getD] at h2 ⊢
     rw[List.getElem?_set_ne e]
     exact h2
    ·exact .inr h1
  ·exact⟨h.ep,h.sl,h.se,h.oe,h.gl,h.hl,by simp[h.nl],h.go,h.wl,h.wi⟩
 ·exact h
theorem CerOk.comeS (h:CerOk x c) {p:T_Packet} (hp:PkOk x p):CerOk x (comeS c p):=by
 unfold Am.comeS
 split
 ·have hs:=(h.seat hp.ho).2
  exact h.setS hp.ho (s:=((p.2.2.1,p.2.2.2.1,p.2.2.2.2),(c.seat p.2.1).2)) ⟨.inr ⟨hp.ep,hp.rw⟩,hs.sa,hs.lie⟩
 ·exact h
theorem CerOk.come (h:CerOk x c) {p:T_Packet} (hp:PkOk x p):CerOk x (come x c p):=by
 unfold Am.come
 split
 ·exact(h.fresh hp.ep).comeO hp
 ·exact h.comeS hp
theorem rowsOf_len (ow:List Int) (j:Int):(rowsOf ow j).length≤ow.length:=rowsP_len _ _
theorem HoOk.at (hd:DealOk x) {e a:Int} (ha:HoOk x a) (he:EpOk x e):∃E J,DealAt x e a E J:=by
 refine codeD_ok ?_
 unfold codeD
 rw[tv_true hd,if_pos rfl,if_pos ⟨⟨he.1,by have:=he.2;omega⟩,ha.1,by have:=ha.2;omega⟩]
theorem DealOk.prime (hd:DealOk x):PrimeP x.1.2.2.1:=hd.sch.mat.pr
theorem RowsH.given (hd:DealOk x) {e a:Int}:RowsH x a (valsD x e a) (tagsD x e a (valsD x e a)):=
 ⟨vals_len,by simp[tagsD,tagsOf],vals_in hd.prime⟩
theorem CerOk.doIt (hd:DealOk x) {d:T_Deed} (hp:DeedP d) (h:CerOk x c):CerOk x (doIt x c d).1:=by
 obtain⟨h1,h2,h3,h4,h5⟩:=hp
 unfold Am.doIt
 split
 ·split
  ·exact h
  ·have hpk:=(h.pk (a:=d.2.1) h2.1 (by omega)).2
   have hc:CerOk x (if d.1=4 then c else dropW c d.2.1.toNat):=by
    split
    ·exact h
    ·exact h.drop _
   show CerOk x (if d.1=5 then _ else _)
   split
   ·exact hc
   ·exact hc.come hpk
 split
 ·split
  ·exact h
  ·rename_i he
   have:=h.ep.1
   have:=h.ep.2
   exact⟨⟨by show 0≤c.ep+1;omega,by show c.ep+1<_;omega⟩,h.sl,h.se,h.oe,h.gl,h.hl,h.nl,h.go,h.wl,h.wi⟩
 split
 ·exact h
 rename_i hr
 have ha:HoOk x d.2.1:=⟨h2.1,by omega⟩
 have hs:=(h.seat ha).2
 split
 ·exact h.send ⟨ha,h.ep,RowsH.given hd⟩
 split
 ·split
  ·exact h
  ·rename_i hne
   refine h.send ⟨ha,?_,?_⟩
   ·exact(hs.pu.resolve_left (fun q=>hne q.1)).1
   ·have:=(hs.pu.resolve_left (fun q=>hne q.1)).2
    exact⟨by rw[lie_len];exact this.vl,this.tl,lie_in hd.prime this.ve⟩
 split
 ·split
  ·exact h
  ·exact h.setS ha (s:=((c.seat d.2.1).1,(c.seat d.2.1).2.1,d.2.2)) ⟨hs.pu,hs.sa,h3.1,by show d.2.2≤_;omega⟩
 split
 ·exact h.setS ha (s:=((c.seat d.2.1).1,(c.seat d.2.1).1,(c.seat d.2.1).2.2)) ⟨hs.pu,hs.pu,hs.lie⟩
 ·exact h.setS ha (s:=((c.seat d.2.1).2.1,(c.seat d.2.1).2.1,(c.seat d.2.1).2.2)) ⟨hs.sa,hs.sa,hs.lie⟩
theorem CerOk.start (hd:DealOk x):CerOk x (cer0 x.1.1.toNat):=by
 have h7:=hd.sch.h7
 have hb:=hd.bl
 have h2:=hd.prime.1
 refine⟨⟨Int.le_refl _,by show(0:Int)<_;omega⟩,by have:=hd.sch.h1;simp[cer0];omega,fun j s hj=>?_,.inl rfl,by simp[cer0],by simp[cer0],by simp[cer0],fun j g hj=>?_,by simp[cer0],fun p hp=>by simp[cer0] at hp⟩
 ·rw[List.eq_of_mem_replicate (List.mem_of_getElem? hj)]
  exact⟨.inl ⟨rfl,rfl,rfl⟩,.inl ⟨rfl,rfl,rfl⟩,by show(0:Int)≤0;omega,by show(0:Int)≤_;omega⟩
 ·refine .inl ⟨List.eq_of_mem_replicate (List.mem_of_getElem? hj),?_⟩
  simp only[cer0,List.getD_eq_getElem?_getD,List.getElem?_replicate]
  split<;>rfl
theorem CerOk.play (hd:DealOk x):∀(ds:List T_Deed) {c:Cer},(∀d∈ds,DeedP d)→CerOk x c→CerOk x (play x c ds)
 | [],_,_,h=>h
 | d :: ds,c,hp,h=>CerOk.play hd ds (fun e he=>hp e (List.mem_cons_of_mem _ he)) (h.doIt hd (hp d List.mem_cons_self))
theorem codes_len (x:T_Deal):∀(ds:List T_Deed) (c:Cer),(codes x c ds).length=ds.length
 | [],c=>rfl
 | e :: ds,c=>by show(codes x _ ds).length+1=_;rw[codes_len x ds _];rfl
end
end Go.Proofs.YtlapbbffoapleaaGreat.Am
namespace Go.Proofs.YtlapbbffoapleaaGreat.Am
open Go Go.RowKit
def Cl {α:Type} (d:Kn α) (X:Ids) (A:AH) (xs:List α) (cs:List Value):Prop:=xs.length*d.es≤cs.length∧∀(i:Nat) x,xs[i]?=some x→d.R X A x ((cs.drop (i*d.es)).take d.es)
section
variable {α:Type} {d:Kn α} {X X' S:Ids} {A A':AH} {xs:List α} {cs:List Value}
theorem Cl.mv (h:Cl d X A xs cs) (hA:∀id,X id→A'.m id=A.m id) (hX:∀id,X id→X' id):Cl d X' A' xs cs:=
 ⟨h.1,fun i x hx=>d.more hX (d.same hA (h.2 i x hx))⟩
theorem Cl.nil (d:Kn α) (X:Ids) (A:AH) (cs:List Value):Cl d X A [] cs:=⟨by simp,fun i x h=>by simp at h⟩
theorem Cl.sl {id c:Nat} {b:Blk} (h:Cl d X A xs cs) (hS:S id) (hm:A.m id=some b) (hb:b.cells=cs) (hX:∀id,X id→S id) (hc:xs.length≤c):d.Sl S A (.slice (some ⟨id,0,some d.es⟩) xs.length c) xs:=
 .inr ⟨id,0,c,b,rfl,hc,hS,hm,by rw[hb,Nat.zero_add];exact h.1,fun i x hx=>by rw[hb,Nat.zero_add];exact d.more hX (h.2 i x hx)⟩
theorem seg_splice {l ys:List Value} {k q n:Nat} (hk:k+ys.length≤l.length) (h:q+n≤k∨k+ys.length≤q):((splice l k ys).drop q).take n=(l.drop q).take n:=by
 refine List.ext_getElem? fun j=>?_
 rw[List.getElem?_take,List.getElem?_take]
 split
 ·rename_i hj
  rw[List.getElem?_drop,List.getElem?_drop,splice_get l k ys hk]
  rcases h with h | h
  ·rw[if_pos (by omega)]
  ·rw[if_neg (by omega),if_neg (by omega)]
 ·rfl
theorem seg_in {l ys:List Value} {k:Nat} (hk:k+ys.length≤l.length):((splice l k ys).drop k).take ys.length=ys:=by
 refine List.ext_getElem? fun j=>?_
 rw[List.getElem?_take]
 by_cases hj:j<ys.length
 ·rw[if_pos hj,List.getElem?_drop,splice_get l k ys hk,if_neg (by omega),if_pos (by omega)]
  congr 1
  omega
 ·rw[if_neg hj,List.getElem?_eq_none (by omega)]
theorem mul_le' {i n e:Nat} (h:i<n):i*e+e≤n*e:=by rw[← Nat.succ_mul];exact Nat.mul_le_mul_right _ h
theorem Cl.set {i:Nat} {y:α} {ys:List Value} (h:Cl d X A xs cs) (hi:i<xs.length) (hy:d.R X A y ys):Cl d X A (xs.set i y) (splice cs (i*d.es) ys)∧(splice cs (i*d.es) ys).length=cs.length:=by
 have hl:=d.len hy
 have h1:=mul_le' (e:=d.es) hi
 have hk:i*d.es+ys.length≤cs.length:=by have:=h.1;omega
 have hlen:=splice_length cs (i*d.es) ys hk
 refine⟨⟨by rw[hlen,List.length_set];exact h.1,fun j x hx=>?_⟩,hlen⟩
 rw[List.getElem?_set] at hx
 split at hx
 ·rename_i e
  subst e
  cases hx
  have:=seg_in hk
  rw[hl] at this
  rw[this]
  exact hy
 ·rename_i e
  rw[seg_splice hk]
  ·exact h.2 j x hx
  ·rcases Nat.lt_or_gt_of_ne e with h2 | h2
   ·right;have:=mul_le' (e:=d.es) h2;omega
   ·left;have:=mul_le' (e:=d.es) h2;omega
theorem Cl.part {i:Nat} {x y:α} {a b b' r:List Value} (h:Cl d X A xs cs) (hx:xs[i]?=some x) (hseg:(cs.drop (i*d.es)).take d.es=a++(b++r)) (hb:b'.length=b.length) (hXX:∀id,X id→X' id) (hy:d.R X' A y (a++(b'++r))):Cl d X' A (xs.set i y) (splice cs (i*d.es+a.length) b')∧(splice cs (i*d.es+a.length) b').length=cs.length:=by
 have hi:=(List.getElem?_eq_some_iff.1 hx).1
 have hl:=d.len hy
 have h1:=mul_le' (e:=d.es) hi
 have h0:=h.1
 simp only[List.length_append] at hl
 have hk:i*d.es+(a++(b'++r)).length≤cs.length:=by simp only[List.length_append];omega
 have hk2:i*d.es+a.length+b'.length≤cs.length:=by omega
 have e:splice cs (i*d.es+a.length) b'=splice cs (i*d.es) (a++(b'++r)):=by
  refine List.ext_getElem? fun j=>?_
  rw[splice_get _ _ _ hk,splice_get _ _ _ hk2]
  simp only[List.length_append]
  by_cases c1:j<i*d.es
  ·rw[if_pos (by omega),if_pos c1]
  ·rw[if_neg c1]
   by_cases c2:j<i*d.es+(a.length+(b'.length+r.length))
   ·rw[if_pos c2]
    have old:∀(v:Value),(a++(b++r))[j-i*d.es]?=some v→cs[j]?=some v:=fun v hv=>by
     have:=seg_at hseg hv
     rwa [show i*d.es+(j-i*d.es)=j by omega] at this
    by_cases c3:j<i*d.es+a.length
    ·rw[if_pos c3,List.getElem?_append_left (by omega)]
     have hg:a[j-i*d.es]?=some (a[j-i*d.es]'(by omega)):=List.getElem?_eq_getElem (by omega)
     rw[hg]
     exact old _ (by rw[List.getElem?_append_left (by omega)];exact hg)
    ·rw[if_neg c3]
     by_cases c4:j<i*d.es+a.length+b'.length
     ·rw[if_pos c4,List.getElem?_append_right (by omega),List.getElem?_append_left (by omega)]
      congr 1;omega
     ·rw[if_neg c4,List.getElem?_append_right (by omega),List.getElem?_append_right (by omega)]
      have hg:r[j-i*d.es-a.length-b'.length]?=some (r[j-i*d.es-a.length-b'.length]'(by omega)):=List.getElem?_eq_getElem (by omega)
      rw[hg]
      exact old _ (by rw[List.getElem?_append_right (by omega),List.getElem?_append_right (by omega),← hb];exact hg)
   ·rw[if_neg c2,if_neg (by omega),if_neg (by omega)]
 rw[e]
 exact(h.mv (fun _ _=>rfl) hXX).set hi hy
theorem Cl.snoc {y:α} {ys:List Value} (h:Cl d X A xs cs) (hy:d.R X A y ys):Cl d X A (xs++[y]) ((cs.drop 0).take (xs.length*d.es)++ys):=by
 have hl:=d.len hy
 have h1:=h.1
 have ht:((cs.drop 0).take (xs.length*d.es)).length=xs.length*d.es:=by rw[List.length_take,List.drop_zero];omega
 refine⟨by rw[List.length_append,List.length_append,List.length_singleton,ht,hl,Nat.add_mul];omega,fun j x hx=>?_⟩
 by_cases hj:j<xs.length
 ·rw[List.getElem?_append_left hj] at hx
  have h2:=mul_le' (e:=d.es) hj
  have e:((((cs.drop 0).take (xs.length*d.es))++ys).drop (j*d.es)).take d.es=(cs.drop (j*d.es)).take d.es:=by
   rw[List.drop_append_of_le_length (by omega),List.take_append_of_le_length (by rw[List.length_drop];omega),List.drop_zero,List.drop_take,List.take_take]
   congr 1
   omega
  rw[e]
  exact h.2 j x hx
 ·have hjl:=(List.getElem?_eq_some_iff.1 hx).1
  simp at hjl
  obtain rfl:j=xs.length:=by omega
  simp at hx
  subst hx
  have e:((((cs.drop 0).take (xs.length*d.es))++ys).drop (xs.length*d.es)).take d.es=ys:=by
   have e1:=List.drop_left (l₁:=(cs.drop 0).take (xs.length*d.es)) (l₂:=ys)
   rw[ht] at e1
   rw[e1,List.take_of_length_le (by omega)]
  rw[e]
  exact hy
theorem Cl.one {y:α} {ys:List Value} (hy:d.R X A y ys):Cl d X A [y] ys:=by
 have hl:=d.len hy
 refine⟨by simp[hl],fun j x hx=>?_⟩
 cases j with
 | zero=>cases hx;rw[Nat.zero_mul,List.drop_zero,List.take_of_length_le (by omega)];exact hy
 | succ j=>simp at hx
theorem Cl.erase {i:Nat} {cs':List Value} (h:Cl d X A xs cs) (hi:i<xs.length) (hl:(xs.length-1)*d.es≤cs'.length) (h1:∀j,j<i→(cs'.drop (j*d.es)).take d.es=(cs.drop (j*d.es)).take d.es) (h2:∀j,i≤j→j+1<xs.length→(cs'.drop (j*d.es)).take d.es=(cs.drop ((j+1)*d.es)).take d.es):Cl d X A (xs.eraseIdx i) cs':=by
 have hle:(xs.eraseIdx i).length=xs.length-1:=by rw[List.length_eraseIdx,if_pos hi]
 refine⟨by rw[hle];exact hl,fun j x hx=>?_⟩
 have hj:=(List.getElem?_eq_some_iff.1 hx).1
 rw[hle] at hj
 rw[List.getElem?_eraseIdx] at hx
 split at hx
 ·rename_i hlt
  rw[h1 j hlt]
  exact h.2 j x hx
 ·rename_i hge
  rw[h2 j (by omega) (by omega)]
  exact h.2 (j+1) x hx
end
abbrev KBo:Kn Bool:=Kn.bool
abbrev K_Purse:Kn T_Purse:=Kn.pair KI (Kn.pair K_Int64S K_Int64S)
abbrev K_Seat:Kn T_Seat:=Kn.pair K_Purse (Kn.pair K_Purse KI)
abbrev K_Packet:Kn T_Packet:=Kn.pair KBo (Kn.pair KI (Kn.pair KI (Kn.pair K_Int64S K_Int64S)))
section
variable {S X:Ids} {A:AH} {cs:List Value}
theorem KB_of {x:Bool} {cs:List Value} (h:KBo.R S A x cs):cs=[.bool x]:=h
theorem split_Purse {x:T_Purse} (h:K_Purse.R S A x cs):∃a1 c1 a2 c2,cs=[.int .i64 x.1,.slice a1 x.2.1.length c1,.slice a2 x.2.2.length c2]∧KI.Sl S A (.slice a1 x.2.1.length c1) x.2.1∧KI.Sl S A (.slice a2 x.2.2.length c2) x.2.2:=by
 obtain⟨e0,d0,rfl,h0,e1,d1,rfl,h1,h2⟩:=h
 obtain rfl:=KI_of h0
 obtain⟨a1,c1,rfl⟩:=slform h1
 obtain⟨a2,c2,rfl⟩:=slform h2
 exact⟨a1,c1,a2,c2,rfl,sl1 h1,sl1 h2⟩
theorem mk_Purse {x:T_Purse} {a1 c1 a2 c2} (h1:KI.Sl S A (.slice a1 x.2.1.length c1) x.2.1) (h2:KI.Sl S A (.slice a2 x.2.2.length c2) x.2.2):K_Purse.R S A x [.int .i64 x.1,.slice a1 x.2.1.length c1,.slice a2 x.2.2.length c2]:=
 ⟨[_],[_,_],rfl,rfl,[_],[_],rfl,sl1' h1,sl1' h2⟩
theorem split_Packet {x:T_Packet} (h:K_Packet.R S A x cs):∃a1 c1 a2 c2,cs=[.bool x.1,.int .i64 x.2.1,.int .i64 x.2.2.1,.slice a1 x.2.2.2.1.length c1,.slice a2 x.2.2.2.2.length c2]∧KI.Sl S A (.slice a1 x.2.2.2.1.length c1) x.2.2.2.1∧KI.Sl S A (.slice a2 x.2.2.2.2.length c2) x.2.2.2.2:=by
 obtain⟨e0,d0,rfl,h0,e1,d1,rfl,h1,e2,d2,rfl,h2,e3,d3,rfl,h3,h4⟩:=h
 obtain rfl:=KB_of h0
 obtain rfl:=KI_of h1
 obtain rfl:=KI_of h2
 obtain⟨a1,c1,rfl⟩:=slform h3
 obtain⟨a2,c2,rfl⟩:=slform h4
 exact⟨a1,c1,a2,c2,rfl,sl1 h3,sl1 h4⟩
theorem mk_Packet {x:T_Packet} {a1 c1 a2 c2} (h1:KI.Sl S A (.slice a1 x.2.2.2.1.length c1) x.2.2.2.1) (h2:KI.Sl S A (.slice a2 x.2.2.2.2.length c2) x.2.2.2.2):K_Packet.R S A x [.bool x.1,.int .i64 x.2.1,.int .i64 x.2.2.1,.slice a1 x.2.2.2.1.length c1,.slice a2 x.2.2.2.2.length c2]:=
 ⟨[_],[_,_,_,_],rfl,rfl,[_],[_,_,_],rfl,rfl,[_],[_,_],rfl,rfl,[_],[_],rfl,sl1' h1,sl1' h2⟩
theorem split_Seat {x:T_Seat} (h:K_Seat.R S A x cs):∃ps qs,cs=ps++(qs++[.int .i64 x.2.2])∧K_Purse.R S A x.1 ps∧K_Purse.R S A x.2.1 qs:=by
 obtain⟨e0,d0,rfl,h0,e1,d1,rfl,h1,h2⟩:=h
 obtain rfl:=KI_of h2
 exact⟨e0,e1,rfl,h0,h1⟩
theorem mk_Seat {x:T_Seat} {ps qs:List Value} (h0:K_Purse.R S A x.1 ps) (h1:K_Purse.R S A x.2.1 qs):K_Seat.R S A x (ps++(qs++[.int .i64 x.2.2])):=⟨ps,_,rfl,h0,qs,_,rfl,h1,rfl⟩
end
structure HT where
 h:TypeId
 s:TypeId
 g:TypeId
 b:TypeId
 p:TypeId
structure HD where
 hid:Nat
 sid:Nat
 gid:Nat
 bid:Nat
 nid:Nat
 w:Option (Nat × Nat)
def HD.L (d:HD):List Nat:=[d.hid,d.sid,d.gid,d.bid,d.nid]++(match d.w with | some (i,_)=>[i] | none=>[])
def HD.W (d:HD):Ids:=fun id=>id∈d.L
def HD.wv (d:HD) (n:Nat):Value:=match d.w with | some (i,c)=>.slice (some ⟨i,0,some 5⟩) n c | none=>.slice none 0 0
def HD.cells (d:HD) (pre post:List Value) (c:Cer):List Value:=
 pre++([.int .i64 c.ep,.slice (some ⟨d.sid,0,some 7⟩) c.seats.length c.seats.length,.int .i64 c.oe,.slice (some ⟨d.gid,0,some 1⟩) c.got.length c.got.length,.slice (some ⟨d.bid,0,some 1⟩) c.has.length c.has.length,.slice (some ⟨d.nid,0,some 1⟩) c.named.length c.named.length,d.wv c.wire.length]++post)
def SeatsB (t:HT) (S:Ids) (A:AH) (X:Ids) (id:Nat) (xs:List T_Seat):Prop:=S id∧∃cs,A.m id=some ⟨t.s,true,cs⟩∧Cl K_Seat X A xs cs
def GotB (t:HT) (S:Ids) (A:AH) (X:Ids) (id:Nat) (xs:List (List Int)):Prop:=S id∧∃cs,A.m id=some ⟨t.g,true,cs⟩∧cs.length=xs.length∧Cl KI.sl X A xs cs
def BoolB (t:HT) (S:Ids) (A:AH) (id:Nat) (xs:List Bool):Prop:=S id∧A.m id=some ⟨t.b,true,xs.map Value.bool⟩
def WireB (t:HT) (S:Ids) (A:AH) (X:Ids):Option (Nat × Nat)→List T_Packet→Prop
 | none,xs=>xs=[]
 | some (i,q),xs=>S i∧xs.length≤q∧∃cs,A.m i=some ⟨t.p,true,cs⟩∧Cl K_Packet X A xs cs
structure Hl (t:HT) (pre post:List Value) (S:Ids) (A:AH) (X:Ids) (d:HD) (c:Cer):Prop where
 sx:∀id,X id→S id
 hall:S d.hid∧A.m d.hid=some ⟨t.h,true,d.cells pre post c⟩
 seats:SeatsB t S A X d.sid c.seats
 got:GotB t S A X d.gid c.got
 has:BoolB t S A d.bid c.has
 named:BoolB t S A d.nid c.named
 wire:WireB t S A X d.w c.wire
 dist:d.L.Nodup
 out:∀id,X id→¬d.W id
section
variable {t:HT} {S S' X X':Ids} {A A':AH} {i:Nat}
theorem SeatsB.mv {xs:List T_Seat} (h:SeatsB t S A X i xs) (hi:S' i∧A'.m i=A.m i) (hX:∀id,X id→A'.m id=A.m id) (hXX:∀id,X id→X' id):SeatsB t S' A' X' i xs:=by
 obtain⟨_,cs,s1,s2⟩:=h
 exact⟨hi.1,cs,hi.2.trans s1,s2.mv hX hXX⟩
theorem GotB.mv {xs:List (List Int)} (h:GotB t S A X i xs) (hi:S' i∧A'.m i=A.m i) (hX:∀id,X id→A'.m id=A.m id) (hXX:∀id,X id→X' id):GotB t S' A' X' i xs:=by
 obtain⟨_,cs,s1,s2,s3⟩:=h
 exact⟨hi.1,cs,hi.2.trans s1,s2,s3.mv hX hXX⟩
theorem BoolB.mv {xs:List Bool} (h:BoolB t S A i xs) (hi:S' i∧A'.m i=A.m i):BoolB t S' A' i xs:=⟨hi.1,hi.2.trans h.2⟩
theorem WireB.mv {w:Option (Nat × Nat)} {xs:List T_Packet} (h:WireB t S A X w xs) (hi:∀i q,w=some (i,q)→S' i∧A'.m i=A.m i) (hX:∀id,X id→A'.m id=A.m id) (hXX:∀id,X id→X' id):WireB t S' A' X' w xs:=by
 match w,h with
 | none,h=>exact h
 | some (i,q),h=>
  obtain⟨_,w1,cs,w2,w3⟩:=h
  exact⟨(hi i q rfl).1,w1,cs,(hi i q rfl).2.trans w2,w3.mv hX hXX⟩
end
section
variable {t:HT} {pre post:List Value} {S S' X X':Ids} {A A':AH} {d:HD} {c:Cer}
theorem HD.Win {d:HD}:d.W d.hid∧d.W d.sid∧d.W d.gid∧d.W d.bid∧d.W d.nid∧∀i q,d.w=some (i,q)→d.W i:=by
 refine⟨by simp[HD.W,HD.L],by simp[HD.W,HD.L],by simp[HD.W,HD.L],by simp[HD.W,HD.L],by simp[HD.W,HD.L],fun i q e=>by simp[HD.W,HD.L,e]⟩
theorem Hl.mv (h:Hl t pre post S A X d c) (hA:∀id,(d.W id∨X id)→S' id∧A'.m id=A.m id):Hl t pre post S' A' X d c:=by
 obtain⟨l1,l2,l3,l4,l5,l6⟩:=HD.Win (d:=d)
 have L:∀id,d.W id→S' id∧A'.m id=A.m id:=fun id hid=>hA id (.inl hid)
 have hX:∀id,X id→A'.m id=A.m id:=fun id hid=>(hA id (.inr hid)).2
 exact⟨fun id hid=>(hA id (.inr hid)).1,⟨(L _ l1).1,(L _ l1).2.trans h.hall.2⟩,h.seats.mv (L _ l2) hX (fun _ p=>p),h.got.mv (L _ l3) hX (fun _ p=>p),h.has.mv (L _ l4),h.named.mv (L _ l5),h.wire.mv (fun i q e=>L _ (l6 i q e)) hX (fun _ p=>p),h.dist,h.out⟩
theorem Hl.w (h:Hl t pre post S A X d c):∀id,d.W id→S id:=fun id hid=>by
 have hw:=h.wire
 have hid:id∈d.L:=hid
 simp only[HD.L,List.mem_append,List.mem_cons,List.not_mem_nil,or_false] at hid
 rcases hid with(e | e | e | e | e) | e
 ·rw[e];exact h.hall.1
 ·rw[e];exact h.seats.1
 ·rw[e];exact h.got.1
 ·rw[e];exact h.has.1
 ·rw[e];exact h.named.1
 ·split at e
  ·rename_i i q e2
   rw[e2] at hw
   rw[List.mem_singleton.1 e]
   exact hw.1
  ·simp at e
theorem Hl.on [o:On S A S' A'] (h:Hl t pre post S A X d c):Hl t pre post S' A' X d c:=h.mv fun id hid=>o.st id (hid.elim (h.w id) (h.sx id))
theorem Hl.seatSl (h:Hl t pre post S A X d c):K_Seat.Sl S A (.slice (some ⟨d.sid,0,some 7⟩) c.seats.length c.seats.length) c.seats:=by
 obtain⟨s0,cs,s1,s2⟩:=h.seats
 exact s2.sl s0 s1 rfl h.sx (Nat.le_refl _)
theorem Hl.wireSl (h:Hl t pre post S A X d c):K_Packet.Sl S A (d.wv c.wire.length) c.wire:=by
 have hw:=h.wire
 unfold HD.wv
 split
 ·rename_i i q e
  rw[e] at hw
  obtain⟨w0,w1,cs,w2,w3⟩:=hw
  exact w3.sl w0 w2 rfl h.sx w1
 ·rename_i e
  rw[e] at hw
  have hw:c.wire=[]:=hw
  rw[hw]
  exact .inl ⟨rfl,none,0,rfl,fun _=>rfl⟩
theorem Hl.cellsH (h:Hl t pre post S A X d c):Has3 S A d.hid 0 (d.cells pre post c):=⟨h.hall.1,_,h.hall.2,fun i v hi=>by rw[Nat.zero_add];exact hi⟩
end
def HlPost (t:HT) (pre post:List Value) (X:Ids) (d:HD) (c:Cer) (n:Nat) (H1:AH):Prop:=
 ∃(X':Ids) (d':HD),Hl t pre post (fun id=>d.W id∨X id∨New n H1.n id) H1 X' d' c∧d'.hid=d.hid∧(∀id,X' id→X id∨New n H1.n id)∧(∀id,d'.W id→d.W id∨New n H1.n id)
end Go.Proofs.YtlapbbffoapleaaGreat.Am
namespace Go.Proofs.YtlapbbffoapleaaGreat.Am
open Go Go.RowKit Go.Proofs Go.Proofs.YtlapbbffoapleaaGreat.Pl
def MkG (xs:List (List Int)) (ty:TypeId) (n:Nat) (v:Value) (H1:AH):Prop:=∃o cs V,v=.slice (some ⟨o,0,some 1⟩) xs.length xs.length∧New n H1.n o∧H1.m o=some ⟨ty,true,cs⟩∧(∀id,V id→New n H1.n id∧id≠o)∧RowsB KI.ml V H1 V xs cs
theorem RowsB.on {S S' V:Ids} {A A':AH} {rows:List (List Int)} {cs:List Value} (h:RowsB KI.ml S A V rows cs) (hs:∀id,V id→S' id∧A'.m id=A.m id):RowsB KI.ml S' A' V rows cs:=by
 obtain⟨W,h1,h2,h3⟩:=h.rows
 refine⟨h.len,fun id hid=>(hs id hid).1,W,h1,h2,fun j x hx=>?_⟩
 obtain⟨v,h4,h5⟩:=h3 j x hx
 exact⟨v,h4,KI.ml.same (fun id hid=>(hs id (h1 j id hid)).2) h5⟩
theorem RwI.mkG {xs:List (List Int)} {H HB H1:AH} {SB:Ids} {s:RwS} {T:List Var} {n j:Nat} {ty:TypeId} (h:RwI (fun x=>x) xs H SB HB s) (he:s.i=xs.length) (g:Good s.S s.A T n H1) (hT:T[j]?=some (s.o,⟨ty,true,s.cs⟩)) (ho:H.n≤s.o):MkG xs ty H.n (.slice (some ⟨s.o,0,some 1⟩) xs.length xs.length) H1:=by
 have hb:=h.b
 rw[he,List.take_of_length_le (Nat.le_refl _),List.map_id'] at hb
 have hno:=(g.vars j _ hT).2.2
 have hn:=g.n_
 refine⟨s.o,s.cs,s.V,rfl,⟨ho,(g.blk hT).2⟩,(g.blk hT).1,fun id hid=>⟨⟨h.v id hid,?_⟩,fun e=>hno (e ▸ hb.sub id hid)⟩,hb.on (fun id hid=>⟨hid,(g.froz id (hb.sub id hid)).2⟩)⟩
 have:=(g.froz id (hb.sub id hid)).1
 omega
section
variable {S:Ids} {H0:AH}
theorem copyRows {a c} {xs:List (List Int)} (hB:B_Int64SS xs) (hs:KI.sl.Sl S H0 (.slice a xs.length c) xs):SpecM Tryz.prog S H0 216 [.slice a xs.length c] (MkG xs 24):=by
 have hxl:=hB.len
 refine SpecM.of1 Tryz.func216 rfl (by kernel_rfl) rfl (fun H _=>?_)
 refine KW.lit U U U U U U U U U U [] U U (fun v hv=>by simp at hv) rfl ?_
 refine KW.lpM U U (fun s:RwS=>[(3,.slice (some ⟨s.o,0,some 1⟩) s.i s.i),(7,.slice a xs.length c),(8,.int .i64 xs.length),(9,.int .i64 s.i)]) (fun s=>s.S) (fun s=>s.A) (fun s=>[(s.o,⟨_,true,s.cs⟩)]) (fun s=>RwI (fun x=>x) xs H (Low H.n) H s) (fun s=>xs.length-s.i) (⟨0,Low H.n,H,fun _=>False,[],_⟩) (RwI.start) ⟨rfl,rfl,rfl,rfl,trivial⟩ U U (rfl) (fun s hi bE n=>?_)
 haveI:Stp (Low H.n) H s.S s.A:=⟨hi.old⟩
 have hle:=hi.le
 have hcl:=hi.b.len
 rw[List.length_map,List.length_take] at hcl
 refine KW.cnd U U (fun k1=>?_) (fun k1=>?_)
 ·have k1:(s.i:Int)<xs.length:=k1
  refine KW.getL hs.up U U U U U U U U U U U U U U U U (by omega) (k1) (fun y ay cy hy hsy=>?_)
  have hy:xs[s.i]?=some y:=hy
  have hyl:=hB.each y (List.mem_of_getElem? hy)
  refine KW.ids (fun hlow hvar=>?_)
  refine KW.fact (fun _ g=>g.nle (H1:=H)) (fun hn0=>?_)
  refine KW.callN1 U U U U U (cloneI hyl hsy) (fun v HC SC mC _ _ hv=>?_)
  obtain⟨a5,c5,rfl,hC⟩:=hv
  refine KW.app1 (xs:=s.cs) (v:=.slice a5 y.length c5) 0 1 U U U U U U U U U U U U U U U U U U U U U U U (by omega) (by show(_+1)*24≤_;omega) (by first | omega | (simp only;omega)) ?_
  exact KW.nxt U U (fun H' g=>⟨_,hi.next (inferInstance:Stp s.S s.A SC HC).st inferInstance hlow hn0 hy hC,by simp only;omega,⟨rfl,rfl,rfl,congrArg (Value.int .i64) (inc64 (by omega)),trivial⟩,g⟩)
 ·have k1:¬(s.i:Int)<xs.length:=k1
  have he:s.i=xs.length:=by omega
  refine KW.retM1 U U U U (fun H1 g=>?_)
  rw[he]
  exact hi.mkG he g (j:=0) rfl (g.ge (H1:=H) (j:=0) rfl)
end
def MkE (p:Int) (k:Nat) (e:List (List Int) × List Nat) (n:Nat) (v:Value) (H1:AH):Prop:=∃a1 c1 a2 c2,v=.tuple #[.agg #[.int .i64 p,.int .i64 k,.slice a1 e.2.length c1],.slice a2 e.2.length c2]∧KI.ml.Ml (New n H1.n) H1 (.slice a1 e.2.length c1) (e.1.take e.2.length)∧KI.Ml (New n H1.n) H1 (.slice a2 e.2.length c2) (e.2.map fun(i:Nat)=>(i:Int))
structure EcS where
 c:Nat
 S:Ids
 A:AH
 cs:List Value
 po:Nat
structure EcI (p:Int) (k:Nat) (L:List (List Int)) (H:AH) (V:Ids) (s:EcS):Prop where
 le:s.c≤k
 old:St (Low H.n) H s.S s.A
 b:RowsB KI.ml s.S s.A V (ech p L s.c).1 s.cs
theorem ech_none {p:Int} {L:List (List Int)} {c:Nat} (h:nz (ech p L c).1 c (ech p L c).2.length=(ech p L c).1.length):ech p L (c+1)=ech p L c:=by
 rw[ech]
 have:rnd p (ech p L c).1 c (ech p L c).2.length=none:=by unfold rnd;rw[if_pos h]
 rw[this]
theorem ech_some {p:Int} {L:List (List Int)} {c:Nat} (h:nz (ech p L c).1 c (ech p L c).2.length≠(ech p L c).1.length):ech p L (c+1)=(tks p c (ech p L c).2.length (lead p (ech p L c).1 c (ech p L c).2.length) ((sw (ech p L c).1 (ech p L c).2.length (nz (ech p L c).1 c (ech p L c).2.length)).set (ech p L c).2.length (lead p (ech p L c).1 c (ech p L c).2.length)) (ech p L c).1.length,(ech p L c).2++[c]):=by
 rw[ech]
 unfold rnd
 rw[if_neg h]
theorem built_Matrix (p c:Int) (a:Option Addr) (n m:Nat):Tryz.prog.built 27 [(0,.int .i64 p),(1,.int .i64 c),(2,.slice a n m)]=some #[.int .i64 p,.int .i64 c,.slice a n m]:=by kernel_rfl
theorem cell0 {l:List Value} {q:Nat} {v:Value} (h:l[q]?=some v):l[0+q*1]?=some v:=by rw[Nat.zero_add,Nat.mul_one];exact h
section
variable {S:Ids} {H0:AH}
theorem echelon {p:Int} {k:Nat} (hp:2≤p∧p≤31) (hk:k≤1000) {L:List (List Int)} (hB:B_Int64SS L) (hL:Rect p k L) {a c} (hs:KI.sl.Sl S H0 (.slice a L.length c) L):SpecM Tryz.prog S H0 153 [.agg #[.int .i64 p,.int .i64 k,.slice a L.length c]] (MkE p k (ech p L k)):=by
 have hLl:=hB.len
 have hok:=ech_ok (p:=p) (by omega) hL
 refine SpecM.of1 Tryz.func153 rfl (by kernel_rfl) rfl (fun H _=>?_)
 refine KW.callN1 U U U U U (copyRows hB hs.up) (fun v HC SC mC _ _ hv=>?_)
 obtain⟨o,cs0,V,rfl,ho,hom,hV,hb0⟩:=hv
 have oS:=(inferInstance:On (New (H.n+2) HC.n) HC SC HC).st
 refine KW.thaw o ⟨_,true,cs0⟩ (oS o ho).1 hom ?_
 haveI oH:On (Low H.n) H (fun id=>SC id∧id≠o) HC:=On.thaw (fun id hid=>by have:id<H.n:=hid;have:=ho.1;omega)
 have hb1:RowsB KI.ml (fun id=>SC id∧id≠o) HC V L cs0:=hb0.on (fun id hid=>⟨⟨(oS id (hV id hid).1).1,(hV id hid).2⟩,rfl⟩)
 have hVl:∀id,V id→H.n≤id:=fun id hid=>by have:=(hV id hid).1.1;omega
 refine KW.lit U U U U U U U U U U [] U U (fun v hv=>by simp at hv) rfl ?_
 refine KW.lpM U U (fun s:EcS=>[(1,.pointer (some ⟨H.n,0,some 0⟩)),(2,.pointer (some ⟨H.n+1,0,some 1⟩)),(4,.slice (some ⟨o,0,some 1⟩) L.length L.length),(5,.slice (some ⟨s.po,0,some 1⟩) (ech p L s.c).2.length (ech p L s.c).2.length),(16,.int .i64 k),(17,.int .i64 s.c)]) (fun s=>s.S) (fun s=>s.A) (fun s=>[(H.n,⟨27,true,[.int .i64 p,.int .i64 k,.slice a L.length c]⟩),(H.n+1,⟨27,true,[.int .i64 0,.int .i64 0,.slice none 0 0]⟩),(o,⟨24,true,s.cs⟩),(s.po,⟨_,true,(ech p L s.c).2.map fun(i:Nat)=>Value.int .i64 i⟩)]) (fun s=>EcI p k L H V s) (fun s=>k-s.c) (⟨0,_,HC,cs0,_⟩) (⟨Nat.zero_le _,oH.st,hb1⟩) ⟨rfl,rfl,rfl,rfl,rfl,rfl,trivial⟩ U U (rfl) (fun s hi bE n=>?_)
 obtain⟨ci,S1,A1,cs,po⟩:=s
 obtain⟨hle,hold,hb⟩:=hi
 simp only at hle hold hb
 have hoc:=hok ci
 haveI oc:Stp (Low H.n) H S1 A1:=⟨hold⟩
 obtain⟨q,hn⟩:∃q,(ech p L ci).2.length=q:=⟨_,rfl⟩
 obtain⟨M,hM⟩:∃M,(ech p L ci).1=M:=⟨_,rfl⟩
 rw[hM] at hb
 have hcs:=hb.len
 have hMl:M.length=L.length:=by rw[← hM];exact hoc.2.1
 have hMr:Rect p k M:=by rw[← hM];exact hoc.1
 have hnL:q≤L.length:=by rw[← hn];exact hoc.2.2.1
 have e5:Value.slice (some ⟨po,0,some 1⟩) (ech p L ci).2.length (ech p L ci).2.length=Value.slice (some ⟨po,0,some 1⟩) q q:=by rw[hn]
 have e7:Value.int .i64 ((ech p L ci).2.length:Nat)=Value.int .i64 q:=by rw[hn]
 refine KW.cnd U U (fun h=>?_) (fun h=>?_)
 ·have h:(ci:Int)<k:=h
  refine KW.lp U U (fun r:Nat=>[(1,.pointer (some ⟨H.n,0,some 0⟩)),(2,.pointer (some ⟨H.n+1,0,some 1⟩)),(4,.slice (some ⟨o,0,some 1⟩) L.length L.length),(5,.slice (some ⟨po,0,some 1⟩) q q),(6,.int .i64 ci),(7,.int .i64 q),(8,.int .i64 r),(16,.int .i64 k),(17,.int .i64 ci)]) (fun r=>q≤r∧r≤L.length∧nz M ci r=nz M ci q) (fun r=>L.length-r) (q) (⟨Nat.le_refl _,hnL,rfl⟩) ⟨rfl,rfl,rfl,e5,rfl,e7,e7,rfl,rfl,trivial⟩ (fun r hi bE n=>?_)
  obtain⟨hr1,hr2,hr3⟩:=hi
  refine KW.tst U U (fun h1=>?_) (fun h1=>?_)
  ·have h1:(r:Int)<L.length:=h1
   obtain⟨w,hw⟩:∃w,M[r]?=some w:=⟨M[r]'(by omega),List.getElem?_eq_getElem (by omega)⟩
   obtain⟨v,W,hv,hm,hWV,_,_⟩:=hb.row1 hw
   obtain⟨ra,rc,rfl⟩:=hm.form
   have hwk:=hMr.at hw
   refine KW.idx0 U U U U U U U U U (by omega) (h1) ?_
   refine KW.ldT 2 U U U U U U (bload_at (cell0 hv) U U) ?_
   refine KW.getI ((hm.sl.more (fun id hid=>hb.sub id (hWV id hid)))) U U U U U U U U U U U U U U U U (by omega) (by omega) (fun x hx=>?_)
   have hx:w[ci]?=some x:=hx
   refine KW.cnd U U (fun k2=>?_) (fun k2=>?_)
   ·have k2:x=0:=k2
    refine KW.nxt U U (fun H' g=>⟨r+1,⟨by omega,by omega,by rw[nz_step hw (by rw[List.getD_eq_getElem?_getD,hx];exact k2)];exact hr3⟩,by first | omega | (simp only;omega),⟨rfl,rfl,rfl,rfl,rfl,rfl,congrArg (Value.int .i64) (inc64 (by omega)),rfl,rfl,trivial⟩,g⟩)
   ·have k2:¬x=0:=k2
    refine KW.no U U (by omega) ?_
    have e1:nz M ci q=r:=by rw[← hr3];exact nz_stop hw (by rw[List.getD_eq_getElem?_getD,hx];exact k2)
    have hrn:q≤r:=by omega
    have hrL:r<L.length:=by omega
    obtain⟨wn,hwn⟩:∃w,M[q]?=some w:=⟨M[q]'(by omega),List.getElem?_eq_getElem (by omega)⟩
    obtain⟨vn,Wn,hvn,hmn,_,_,_⟩:=hb.row1 hwn
    obtain⟨na,nc,rfl⟩:=hmn.form
    refine KW.idx0 U U U U U U U U U (by omega) (by omega) ?_
    refine KW.ldT 2 U U U U U U (bload_at (cell0 hv) U U) ?_
    refine KW.idx0 U U U U U U U U U (by omega) (by omega) ?_
    refine KW.ldT 2 U U U U U U (bload_at (cell0 hvn) U U) ?_
    refine KW.idx0 U U U U U U U U U (by omega) (by omega) ?_
    refine KW.st1 2 U U U U U U U U U U U U (by simp only;omega) ?_
    refine KW.idx0 U U U U U U U U U (by omega) (by omega) ?_
    refine KW.st1 2 U U U U U U U U U U U U (by simp only[List.length_set];omega) ?_
    have hb2:RowsB KI.ml S1 A1 V (sw M q r) ((cs.set (0+q*1) (.slice ra w.length rc)).set (0+r*1) (.slice na wn.length nc)):=by
     rw[Nat.zero_add,Nat.zero_add,Nat.mul_one,Nat.mul_one]
     exact hb.swap (by omega) (by omega) hvn hv
    have hM1:Rect p k (sw M q r):=hMr.sw (by omega) (by omega)
    obtain⟨w1,hw1⟩:∃w,(sw M q r)[q]?=some w:=⟨(sw M q r)[q]'(by rw[sw_len];omega),List.getElem?_eq_getElem (by rw[sw_len];omega)⟩
    have hw1d:(sw M q r).getD q []=w1:=by rw[List.getD_eq_getElem?_getD,hw1];rfl
    have hw1k:=hM1.at hw1
    obtain⟨v1,W1,hv1,hm1,hW1,_,hset⟩:=hb2.row1 hw1
    obtain⟨a1,c1,rfl⟩:=hm1.form
    have hw1l:w1.length=k:=hw1k.1
    refine KW.idx0 U U U U U U U U U (by omega) (by omega) ?_
    refine KW.ldT 2 U U U U U U (bload_at (cell0 hv1) U U) ?_
    refine KW.idx0 U U U U U U U U U (by omega) (by omega) ?_
    refine KW.ldT 2 U U U U U U (bload_at (cell0 hv1) U U) ?_
    refine KW.getI ((hm1.sl.more (fun id hid=>hb2.sub id (hW1 id hid)))) U U U U U U U U U U U U U U U U (by omega) (by omega) (fun x1 hx1=>?_)
    have hx1:w1[ci]?=some x1:=hx1
    have hx1k:=hw1k.2 x1 (List.mem_of_getElem? hx1)
    refine KW.callE U U U U U (inverse p x1 hp hx1k) (fun _ _=>?_)
    have hpk:=pw_ok (a:=x1) hp.1 (p-2).toNat
    have hsub1:∀id,W1 id→S1 id:=fun id hid=>hb2.sub id (hW1 id hid)
    refine KW.callW hsub1 U U U U U (scaled hp hpk (by omega) hw1k.2 hsub1 hm1) (fun v2 H2 S2 hn2 st2 hw2 hv2=>?_)
    obtain⟨ld,hld⟩:∃ld,sc p (pw p x1 (p-2).toNat) w1=ld:=⟨_,rfl⟩
    have hlead:lead p M ci q=ld:=by
     unfold lead
     rw[e1,hw1d,← hld,List.getD_eq_getElem?_getD,hx1]
     rfl
    have hldk:ld.length=k∧∀x∈ld,0≤x∧x<p:=by rw[← hld];exact sc_ok (by omega) hw1k
    have hb3:=hset S2 H2 _ st2 hv2
    rw[hld] at hb3
    have hold2:St (Low H.n) H S2 H2:=fun id hid=>⟨(st2 id (hold id hid).1).1,by rw[(st2 id (hold id hid).1).2 (fun hw=>by have:=hVl id (hW1 id hw);have:id<H.n:=hid;omega)];exact(hold id hid).2⟩
    obtain⟨M2,hM2⟩:∃M2,(sw M q r).set q ld=M2:=⟨_,rfl⟩
    rw[hM2] at hb3
    have hM2l:M2.length=L.length:=by rw[← hM2,List.length_set,sw_len];exact hMl
    have hM2r:Rect p k M2:=by rw[← hM2];exact hM1.set hldk
    have hM2q:M2[q]?=some ld:=by rw[← hM2,List.getElem?_set_self (by rw[sw_len];omega)]
    obtain⟨cs1,hcs1⟩:∃cs1,(cs.set (0+q*1) (.slice ra w.length rc)).set (0+r*1) (.slice na wn.length nc)=cs1:=⟨_,rfl⟩
    rw[hcs1] at hb3
    refine KW.lpM U U (fun s:(Nat × Ids × AH)=>[(1,.pointer (some ⟨H.n,0,some 0⟩)),(2,.pointer (some ⟨H.n+1,0,some 1⟩)),(4,.slice (some ⟨o,0,some 1⟩) L.length L.length),(5,.slice (some ⟨po,0,some 1⟩) q q),(6,.int .i64 ci),(7,.int .i64 q),(16,.int .i64 k),(17,.int .i64 ci),(74,.slice (some ⟨o,0,some 1⟩) L.length L.length),(75,.int .i64 L.length),(76,.int .i64 s.1)]) (fun s=>s.2.1) (fun s=>s.2.2) (fun s=>[(H.n,⟨27,true,[.int .i64 p,.int .i64 k,.slice a L.length c]⟩),(H.n+1,⟨27,true,[.int .i64 0,.int .i64 0,.slice none 0 0]⟩),(o,⟨24,true,(cs.set (0+q*1) (.slice ra w.length rc)).set (0+r*1) (.slice na wn.length nc)⟩),(po,⟨_,true,(ech p L ci).2.map fun(i:Nat)=>Value.int .i64 i⟩)]) (fun s=>s.1≤L.length∧St (Low H.n) H s.2.1 s.2.2∧RowsB KI.ml s.2.1 s.2.2 V (tks p ci q ld M2 s.1) cs1) (fun s=>L.length-s.1) ((0,S2,H2)) (⟨Nat.zero_le _,hold2,by simp only[tks_zero];exact hb3⟩) ⟨rfl,rfl,rfl,rfl,rfl,rfl,rfl,rfl,rfl,rfl,rfl,trivial⟩ U U (rfl) (fun s hi bE n=>?_)
    obtain⟨i,S3,A3⟩:=s
    obtain⟨hi1,hold3,hb4⟩:=hi
    simp only at hi1 hold3 hb4
    haveI oc3:Stp (Low H.n) H S3 A3:=⟨hold3⟩
    rw[← hcs1] at hb4
    refine KW.cnd U U (fun h3=>?_) (fun h3=>?_)
    ·have h3:(i:Int)<L.length:=h3
     obtain⟨wi,hwi⟩:∃w,M2[i]?=some w:=⟨M2[i]'(by omega),List.getElem?_eq_getElem (by omega)⟩
     have hwik:=hM2r.at hwi
     obtain⟨vi,Wi,hvi,hmi,hWi,hoth,hseti⟩:=hb4.row1 ((tks_old (.inl (Nat.le_refl i))).trans hwi)
     obtain⟨ai,ic,rfl⟩:=hmi.form
     refine KW.idx0 U U U U U U U U U (by omega) (h3) ?_
     refine KW.ldT 2 U U U U U U (bload_at (cell0 hvi) U U) ?_
     refine KW.cndB U U (fun h4=>?_) (fun h4=>?_)
     ·have h4:i≠q:=by simp at h4;omega
      obtain⟨vq,Xq,hvq,hmq,hXq⟩:=hoth q ld (Ne.symm h4) ((tks_old (.inr rfl)).trans hM2q)
      obtain⟨aq,qc,rfl⟩:=hmq.form
      refine KW.idx0 U U U U U U U U U (by omega) (by omega) ?_
      refine KW.ldT 2 U U U U U U (bload_at (cell0 hvq) U U) ?_
      refine KW.getI ((hmi.sl.more (fun id hid=>hb4.sub id (hWi id hid)))) U U U U U U U U U U U U U U U U (by omega) (by omega) (fun xi hxi=>?_)
      have hxi:wi[ci]?=some xi:=hxi
      have hxik:=hwik.2 xi (List.mem_of_getElem? hxi)
      have hsubi:∀id,Wi id→S3 id:=fun id hid=>hb4.sub id (hWi id hid)
      refine KW.callW hsubi U U U U U (takeOff hp hxik (by omega) hldk.2 (fun id hid=>⟨hb4.sub id (hXq id hid).1,(hXq id hid).2⟩) hmq.sl (by omega) hwik.2 hsubi hmi) (fun v5 H5 S5 hn5 st5 hw5 hv5=>?_)
      have hb5:=hseti S5 H5 _ st5 hv5
      have hold5:St (Low H.n) H S5 H5:=fun id hid=>⟨(st5 id (hold3 id hid).1).1,by rw[(st5 id (hold3 id hid).1).2 (fun hw=>by have:=hVl id (hWi id hw);have:id<H.n:=hid;omega)];exact(hold3 id hid).2⟩
      have et:tks p ci q ld M2 (i+1)=(tks p ci q ld M2 i).set i (tk p xi wi ld):=by
       rw[tks_next h4 hwi,List.getD_eq_getElem?_getD,hxi]
       rfl
      rw[← et,hcs1] at hb5
      refine KW.nxt U U (fun H' g=>⟨(i+1,S5,H5),⟨by simp only;omega,hold5,hb5⟩,by first | omega | (simp only;omega),⟨rfl,rfl,rfl,rfl,rfl,rfl,rfl,rfl,rfl,rfl,congrArg (Value.int .i64) (inc64 (by omega)),trivial⟩,g⟩)
     ·have h4:i=q:=by simp at h4;omega
      subst h4
      rw[← tks_skip,hcs1] at hb4
      refine KW.nxt U U (fun H' g=>⟨(i+1,S3,A3),⟨by simp only;omega,hold3,hb4⟩,by first | omega | (simp only;omega),⟨rfl,rfl,rfl,rfl,rfl,rfl,rfl,rfl,rfl,rfl,congrArg (Value.int .i64) (inc64 (by omega)),trivial⟩,g⟩)
    ·have h3:¬(i:Int)<L.length:=h3
     have hiL:i=L.length:=by omega
     have eE:ech p L (ci+1)=(tks p ci q ld M2 L.length,(ech p L ci).2++[ci]):=by
      rw[ech_some (by rw[hM,hn,e1];omega),hM,hn,hlead,e1,hM2,hMl]
     have e8:∀x:Nat,Value.slice (some ⟨x,0,some 1⟩) (q+1) (q+1)=Value.slice (some ⟨x,0,some 1⟩) (ech p L (ci+1)).2.length (ech p L (ci+1)).2.length:=fun x=>by rw[eE];simp[hn]
     refine KW.app1 (xs:=(ech p L ci).2.map fun(i:Nat)=>Value.int .i64 i) (v:=.int .i64 ci) 3 4 U U U U U U U U U U U U U U U U U U U U U U U (by simp[hn]) (by show(_+1)*8≤_;omega) (by first | omega | (simp only;omega)) ?_
     refine KW.nxt U U (fun H' g=>⟨⟨ci+1,S3,A3,_,_⟩,⟨by simp only;omega,hold3,by simp only;rw[eE,← hiL];exact hb4⟩,by first | omega | (simp only;omega),⟨rfl,rfl,rfl,e8 _,rfl,congrArg (Value.int .i64) (inc64 (by omega)),trivial⟩,g.eqT (by simp only[eE,List.map_append];rfl)⟩)
  ·have h1:¬(r:Int)<L.length:=h1
   refine KW.cF U U (by first | (simp;done) | decide) ?_
   refine KW.yes U U (by omega) ?_
   have e1:nz (ech p L ci).1 ci (ech p L ci).2.length=(ech p L ci).1.length:=by rw[hM,hn,← hr3,nz_end (by omega)];omega
   have e2:=ech_none e1
   have e3:Value.slice (some ⟨po,0,some 1⟩) q q=Value.slice (some ⟨po,0,some 1⟩) (ech p L (ci+1)).2.length (ech p L (ci+1)).2.length:=by rw[e2,hn]
   refine KW.nxt U U (fun H' g=>⟨⟨ci+1,S1,A1,cs,po⟩,⟨by simp only;omega,hold,by simp only;rw[e2,hM];exact hb⟩,by first | omega | (simp only;omega),⟨rfl,rfl,rfl,e3,rfl,congrArg (Value.int .i64) (inc64 (by omega)),trivial⟩,g.eqT (by simp only[e2])⟩)
 ·have hck:ci=k:=by have h:¬(ci:Int)<k:=h;omega
  refine KW.slTo (m:=(ech p L ci).2.length) U U U U U U U U U (by omega) ?_
  refine KW.build U U U U U (built_Matrix _ _ _ _ _) ?_
  subst hck
  refine KW.retM1 U U U U (fun H1 g=>?_)
  have hno:=g.n_
  have hbo:=g.blk (j:=2) rfl
  have hbp:=g.blk (j:=3) rfl
  have hpo:=g.ge (H1:=H) (j:=3) rfl
  refine⟨_,_,_,_,rfl,?_,?_⟩
  ·rw[hM]
   exact hb.mlTo g (j:=2) rfl ⟨by have:=ho.1;omega,hbo.2⟩ (fun id hid=>⟨hVl id hid,by have:=(g.froz id (hb.sub id hid)).1;omega⟩) (by omega) (by omega)
  ·have el:((ech p L ci).2.map fun(i:Nat)=>(i:Int)).length=(ech p L ci).2.length:=by simp
   have:=mlI_of (ik:=.i64) (X:=New H.n H1.n) (c:=(ech p L ci).2.length) (ys:=(ech p L ci).2.map fun(i:Nat)=>(i:Int)) ⟨hpo,hbp.2⟩ hbp.1 rfl (by rw[el];exact Nat.le_refl _) (by simp) (fun j x hx=>by
    rw[List.getElem?_map] at hx ⊢
    cases hj:(ech p L ci).2[j]? with
    | none=>rw[hj] at hx;cases hx
    | some z=>rw[hj] at hx;cases hx;rfl)
   rw[el] at this
   exact this
end
theorem OkMat.rect {p c:Int} {L:List (List Int)} (h:OkMat p c L) {k:Nat} (hk:c=k):Rect p k L:=fun r hr=>by
 have h1:=h.row r hr
 exact⟨by have:=h1.1;omega,fun x hx=>by have:=h1.2 x hx;omega⟩
section
variable {S:Ids} {H0:AH}
end
theorem built_Matrix2 (p c:Int):Tryz.prog.built 27 [(0,.int .i64 p),(1,.int .i64 c)]=some #[.int .i64 p,.int .i64 c,.slice none 0 0]:=by kernel_rfl
structure CpS where
 i:Nat
 S:Ids
 A:AH
 V:Ids
 cs:List Value
 l:Value
 tail:List Var
structure CpI (xs:List (List Int)) (H HB:AH) (SB:Ids) (s:CpS):Prop where
 rw:RwI (fun x=>x) xs H SB HB ⟨s.i,s.S,s.A,s.V,s.cs,0⟩
 form:(s.i=0∧s.l=.slice none 0 0∧s.tail=[]∧s.cs=[])∨(0<s.i∧∃o,s.l=.slice (some ⟨o,0,some 1⟩) s.i s.i∧s.tail=[(o,⟨24,true,s.cs⟩)])
section
variable {S:Ids} {H0:AH}
end
section
variable {S:Ids} {H0:AH}
end
section
variable {S:Ids} {H0:AH}
end
def selR (L:List (List Int)) (R:List Int):List (List Int):=R.map fun i=>L.getD i.toNat []
theorem selR_len {L:List (List Int)} {R:List Int}:(selR L R).length=R.length:=by simp[selR]
theorem selR_mem {L:List (List Int)} {R:List Int} (hR:∀x∈R,0≤x∧x<L.length) {r:List Int} (h:r∈selR L R):r∈L:=by
  obtain⟨i,hi,rfl⟩:=List.mem_map.1 h
  have:=hR i hi
  rw[List.getD_eq_getElem?_getD,List.getElem?_eq_getElem (by omega)]
  exact List.getElem_mem _
def MkMx (p c:Int) (xs:List (List Int)) (n:Nat) (v:Value) (H1:AH):Prop:=∃a m,v=.agg #[.int .i64 p,.int .i64 c,.slice a xs.length m]∧KI.sl.Sl (New n H1.n) H1 (.slice a xs.length m) xs
def MkMxO (p c:Int) (xs:List (List Int)) (n:Nat) (v:Value) (H1:AH):Prop:=(xs=[]∧v=.agg #[.int .i64 p,.int .i64 c,.slice none 0 0])∨(xs≠[]∧∃a m,v=.agg #[.int .i64 p,.int .i64 c,.slice a xs.length m]∧KI.ml.Ml (New n H1.n) H1 (.slice a xs.length m) xs)
theorem MkMxO.mx {p c:Int} {xs:List (List Int)} {n:Nat} {v:Value} {H1:AH} (h:MkMxO p c xs n v H1):MkMx p c xs n v H1:=by
  rcases h with⟨rfl,rfl⟩ | ⟨_,a,m,rfl,h⟩
  · exact⟨none,0,rfl,.inl ⟨rfl,_,_,rfl,fun _=>rfl⟩⟩
  · exact⟨a,m,rfl,h.to (KLe.row (KLe.refl KI))⟩
structure CqI {α:Type} (f:α→List Int) (xs:List α) (H HB:AH) (SB:Ids) (s:CpS):Prop where
  rw:RwI f xs H SB HB ⟨s.i,s.S,s.A,s.V,s.cs,0⟩
  form:(s.i=0∧s.l=.slice none 0 0∧s.tail=[]∧s.cs=[])∨(0<s.i∧∃o,s.l=.slice (some ⟨o,0,some 1⟩) s.i s.i∧s.tail=[(o,⟨24,true,s.cs⟩)])
section
variable {S:Ids} {H0:AH}
theorem rowsAtO {p c:Int} {a1 c1 a2 c2} {L:List (List Int)} {R:List Int} (hB:B_Int64SS L) (hR:∀x∈R,0≤x∧x<L.length) (hRl:R.length≤1048576) (hs:KI.sl.Sl S H0 (.slice a1 L.length c1) L) (hr:KI.Sl S H0 (.slice a2 R.length c2) R):SpecM Tryz.prog S H0 103 [.agg #[.int .i64 p,.int .i64 c,.slice a1 L.length c1],.slice a2 R.length c2] (MkMxO p c (selR L R)):=by
  refine SpecM.of1 Tryz.func103 rfl (by kernel_rfl) rfl (fun H _=>?_)
  have hs:=hs.up (S':=Low H.n) (H':=H)
  have hr:=hr.up (S':=Low H.n) (H':=H)
  refine KW.build U U U U U (built_Matrix2 _ _) ?_
  refine KW.lpM U U (fun s:CpS=>[(2,.pointer (some ⟨H.n,0,some 0⟩)),(4,.pointer (some ⟨H.n+1,0,some 1⟩)),(5,.pointer (some ⟨H.n+2,0,some 2⟩)),(13,.slice a2 R.length c2),(14,.int .i64 R.length),(15,.int .i64 s.i)]) (fun s=>s.S) (fun s=>s.A) (fun s=>[(H.n,⟨27,true,[.int .i64 p,.int .i64 c,.slice a1 L.length c1]⟩),(H.n+1,⟨27,true,[.int .i64 0,.int .i64 0,.slice none 0 0]⟩),(H.n+2,⟨27,true,[.int .i64 p,.int .i64 c,s.l]⟩)]++s.tail) (fun s=>CqI (fun(i:Int)=>L.getD i.toNat []) R H H (Low H.n) s) (fun s=>R.length-s.i) (⟨0,Low H.n,H,fun _=>False,[],.slice none 0 0,[]⟩) (⟨RwI.start,.inl ⟨rfl,rfl,rfl,rfl⟩⟩) ⟨rfl,rfl,rfl,rfl,rfl,rfl,trivial⟩ U U (rfl) (fun s hi bE n=>?_)
  obtain⟨i,S1,A1,V,cs,l,tail⟩:=s
  obtain⟨hq,hform⟩:=hi
  simp only at hq hform
  haveI:Stp (Low H.n) H S1 A1:=⟨hq.old⟩
  have hle:=hq.le
  have hcl:=hq.b.len
  rw[List.length_map,List.length_take] at hcl
  simp only at hle hcl
  have hs1:=hs.up (S':=S1) (H':=A1)
  have hr1:=hr.up (S':=S1) (H':=A1)
  rcases hform with⟨hi0,e1,e2,e3⟩ | ⟨hi0,o,e1,e2⟩
  case' inl=>subst e1 e2 e3
  case' inr=>subst e1 e2
  all_goals
    refine KW.cnd U U (fun j1=>?gin) (fun j1=>?gout)
    case gin=>
      have j1:(i:Int)<R.length:=j1
      refine KW.getI hr1 U U U U U U U U U U U U U U U U (by omega) (j1) (fun x hx=>?_)
      have hx:R[i]?=some x:=hx
      have hxb:=hR x (List.mem_of_getElem? hx)
      refine KW.getL hs1 U U U U U U U U U U U U U U U U (hxb.1) (hxb.2) (fun y ay cy hy hsy=>?_)
      have hyl:=hB.each y (List.mem_of_getElem? hy)
      have hyd:L.getD x.toNat []=y:=by rw[List.getD_eq_getElem?_getD,hy];rfl
      refine KW.ids (fun hlow hvar=>?_)
      have hnA:=(hvar 2 (H.n+2) _ rfl).1
      refine KW.callN1 U U U U U (cloneI hyl hsy) (fun v HC SC mC _ _ hv=>?_)
      obtain⟨a5,c5,rfl,hC⟩:=hv
      rw[← hyd] at hC ⊢
      first
        | (refine KW.app0 (v:=.slice a5 (L.getD x.toNat []).length c5) 3 U U U U U U U U U U U U U U U U U U U U U U (by decide) ?_
           subst hi0
           exact KW.nxt U U (fun H' g=>⟨⟨1,SC,HC,_,_,_,_⟩,⟨hq.next (o':=0) (inferInstance:Stp S1 A1 SC HC).st inferInstance hlow (by omega) hx hC,.inr ⟨by simp only;omega,_,rfl,rfl⟩⟩,by simp only;omega,⟨rfl,rfl,rfl,rfl,rfl,rfl,trivial⟩,g⟩))
        | (refine KW.app1 (xs:=cs) (v:=.slice a5 (L.getD x.toNat []).length c5) 3 4 U U U U U U U U U U U U U U U U U U U U U U U (by omega) (by show(_+1)*24≤_;omega) (by omega) ?_
           exact KW.nxt U U (fun H' g=>⟨⟨i+1,SC,HC,_,_,_,_⟩,⟨hq.next (o':=0) (inferInstance:Stp S1 A1 SC HC).st inferInstance hlow (by omega) hx hC,.inr ⟨by simp only;omega,_,rfl,rfl⟩⟩,by simp only;omega,⟨rfl,rfl,rfl,rfl,rfl,congrArg (Value.int .i64) (inc64 (by omega)),trivial⟩,g⟩))
    case gout=>
      have j1:¬(i:Int)<R.length:=j1
      have he:i=R.length:=by omega
      have el:(selR L R).length=R.length:=selR_len
      refine KW.retM1 U U U U (fun H1 g=>?_)
      first
        | (have h0:R=[]:=List.eq_nil_of_length_eq_zero (by omega)
           subst h0
           exact .inl ⟨rfl,rfl⟩)
        | (refine .inr ⟨fun h9=>by rw[h9] at el;simp at el;omega,_,_,by rw[el,he];rfl,?_⟩
           have hm:=((⟨hq.le,hq.old,hq.b,hq.v⟩:RwI (fun(i:Int)=>L.getD i.toNat []) R H (Low H.n) H ⟨i,S1,A1,V,cs,o⟩).ml he g (j:=3) rfl (g.ge (H1:=H) (j:=3) rfl))
           rw[el]
           exact hm)
end
theorem rect_sml {p:Int} {k:Nat} {L:List (List Int)} (hL:Rect p k L) (hk:k≤1000) (hl:L.length≤1000):B_Int64SS L:=by
 have h:∀M:List (List Int),(∀r∈M,r.length=k)→sum (lens M)=M.length*k:=by
  intro M
  induction M with
  | nil=>intro _;simp[lens,sum]
  | cons x M ih=>
   intro hM
   have h1:=ih (fun r hr=>hM r (List.mem_cons_of_mem _ hr))
   have h2:=hM x List.mem_cons_self
   simp only[lens,List.map_cons,sum] at h1 ⊢
   rw[h1,h2,List.length_cons,Nat.add_mul]
   omega
 have h1:=h L (fun r hr=>(hL r hr).1)
 have h2:L.length*k≤1000*1000:=Nat.mul_le_mul hl hk
 exact⟨by omega,by rw[h1];omega⟩
def heldR (ow:List Int) (rows:List (List Int)) (x:Nat):List (List Int):=selR rows (rowsP (fun i=>x.testBit (ow.getD i 0).toNat) ow.length)
theorem held_in {h p c:Int} {ow:List Int} {rows:List (List Int)} (hk:OkSch h ow p c rows) {q:Nat→Bool}:∀x∈rowsP q ow.length,0≤x∧x<rows.length:=fun x hx=>by
 have:=rowsP_mem hx
 have:=hk.len
 omega
theorem held_rect {h p c:Int} {k:Nat} {ow:List Int} {rows:List (List Int)} (hk:OkSch h ow p c rows) (hc:c=k) {q:Nat→Bool}:Rect p k (selR rows (rowsP q ow.length)):=fun r hr=>hk.mat.rect hc r (selR_mem (held_in hk) hr)
theorem held_len {h p c:Int} {ow:List Int} {rows:List (List Int)} (hk:OkSch h ow p c rows) {q:Nat→Bool}:(selR rows (rowsP q ow.length)).length≤20:=by
 rw[selR_len]
 have:=rowsP_len q ow.length
 have:=hk.len
 have:=hk.mat.len
 omega
section
variable {S:Ids} {H0:AH}
theorem heldO (h p c:Int) (x:Nat) (hx:x<4611686018427387904) {a1 c1 a2 c2} {ow:List Int} {rows:List (List Int)} (hO:B_Int64S ow) (hB:B_Int64SS rows) (hk:OkSch h ow p c rows) (ho:KI.Sl S H0 (.slice a1 ow.length c1) ow) (hs:KI.sl.Sl S H0 (.slice a2 rows.length c2) rows):
  SpecM Tryz.prog S H0 73 [.agg #[.int .i64 h,.slice a1 ow.length c1,.int .i64 p,.int .i64 c,.slice a2 rows.length c2],.int .u64 (x:Int)] (MkMxO p c (heldR ow rows x)):=by
 refine SpecM.of1 Tryz.func73 rfl (by kernel_rfl) rfl (fun H _=>?_)
 refine KW.callN1 U U U U U (rowsHeld h p c x hx hO hk.own hk.h7 ho.up) (fun v HR SR mR _ _ hv=>?_)
 obtain⟨a5,c5,rfl,hR⟩:=hv
 refine KW.callN1 U U U U U (rowsAtO hB (held_in hk) (by have:=rowsP_len (fun i=>x.testBit (ow.getD i 0).toNat) ow.length;have:ow.length≤1048576:=hO;omega) hs.up hR.ups) (fun v HM SM mM _ _ hv=>?_)
 rcases hv with⟨h0,rfl⟩ | ⟨h0,a6,c6,rfl,hM⟩
 ·refine KW.retM1 U U U U (fun H1 g=>.inl ⟨h0,rfl⟩)
 ·refine KW.retM1 U U U U (fun H1 g=>?_)
  haveI o9:=g.out (X:=New HR.n HM.n) (H:=HM) (lo:=H.n) (fun id p=>by have:=p.1;omega)
  exact .inr ⟨h0,a6,c6,rfl,Kn.Ml.more (Kn.Ml.same (fun id h=>(o9.st id h).2) hM) (fun id h=>(o9.st id h).1)⟩
theorem held (h p c:Int) (x:Nat) (hx:x<4611686018427387904) {a1 c1 a2 c2} {ow:List Int} {rows:List (List Int)} (hO:B_Int64S ow) (hB:B_Int64SS rows) (hk:OkSch h ow p c rows) (ho:KI.Sl S H0 (.slice a1 ow.length c1) ow) (hs:KI.sl.Sl S H0 (.slice a2 rows.length c2) rows):
  SpecM Tryz.prog S H0 73 [.agg #[.int .i64 h,.slice a1 ow.length c1,.int .i64 p,.int .i64 c,.slice a2 rows.length c2],.int .u64 (x:Int)] (MkMx p c (heldR ow rows x)):=fun H hf hz=>by
 obtain⟨m,v,H1,k1,k2,k3,h9⟩:=heldO h p c x hx hO hB hk ho hs H hf hz
 exact⟨m,v,H1,k1,k2,k3,h9.mx⟩
end
section
variable {S:Ids} {H0:AH}
end
section
variable {S:Ids} {H0:AH}
end
def MkMo (p c:Int) (xs:List (List Int)) (n:Nat) (v:Value) (H1:AH):Prop:=∃a m,v=.agg #[.int .i64 p,.int .i64 c,.slice a xs.length m]∧KI.ml.Ml (New n H1.n) H1 (.slice a xs.length m) xs
section
variable {S:Ids} {H0:AH}
end
end Go.Proofs.YtlapbbffoapleaaGreat.Am
namespace Go.Proofs.YtlapbbffoapleaaGreat.Am
open Go Go.RowKit
def dif (a b:Nat):Nat:=a ^^^ (a &&& b)
section
variable {l:List Int} {m:Nat}
end
section
variable {l:List Int} {u:Int} {gs:List (List Int)} {m:Nat}
end
end Go.Proofs.YtlapbbffoapleaaGreat.Am
namespace Go.Proofs.YtlapbbffoapleaaGreat.Am
open Go Go.RowKit Go.Proofs
def FmR (m u:Int) (l:List Int) (h:Int) (gs:List (List Int)) (g0 g1:List Int) (code:Int):Prop:=
 (¬fitC m u l h gs=0∧g0=[]∧g1=[]∧code=fitC m u l h gs)∨
 (fitC m u l h gs=0∧∃a b f,Fst l u gs a b f∧((f=false∧g0=[]∧g1=[]∧code=6)∨(f=true∧g0=hold a 7∧g1=hold b 7∧code=0)))
theorem FmR.one {m u:Int} {l:List Int} {h:Int} {gs:List (List Int)} {g0 g1 g0' g1':List Int} {code code':Int} (p:FmR m u l h gs g0 g1 code) (q:FmR m u l h gs g0' g1' code'):g0=g0'∧g1=g1'∧code=code':=by
 rcases p with⟨h0,rfl,rfl,rfl⟩ | ⟨h0,a,b,f,hf,p⟩<;>rcases q with⟨k0,rfl,rfl,rfl⟩ | ⟨k0,a',b',f',kf,q⟩
 ·exact⟨rfl,rfl,rfl⟩
 ·exact absurd k0 h0
 ·exact absurd h0 k0
 ·obtain⟨rfl,rfl,rfl⟩:=hf.one kf
  rcases p with⟨rfl,rfl,rfl,rfl⟩ | ⟨rfl,rfl,rfl,rfl⟩<;>rcases q with⟨e,rfl,rfl,rfl⟩ | ⟨e,rfl,rfl,rfl⟩<;>first | exact⟨rfl,rfl,rfl⟩ | cases e
theorem FmR.len {m u:Int} {l:List Int} {h:Int} {gs:List (List Int)} {g0 g1:List Int} {code:Int} (p:FmR m u l h gs g0 g1 code):g0.length≤7∧g1.length≤7:=by
 rcases p with⟨h0,rfl,rfl,rfl⟩ | ⟨h0,a,b,f,hf,⟨rfl,rfl,rfl,rfl⟩ | ⟨rfl,rfl,rfl,rfl⟩⟩<;>first | exact⟨by simp,by simp⟩ | exact⟨hold_len _ _,hold_len _ _⟩
section
variable {S:Ids} {H0:AH}
end
abbrev T_Ranks:Type:=(Int) × (Int) × (List Int)
abbrev M_Ranks:Kn T_Ranks:=Kn.mp (KI) (Kn.mp (KI) (M_Int64S))
section
variable {S:Ids} {H0:AH} {W:Ids} {left k:Int}
end
section
variable {S:Ids} {H0:AH} {W:Ids} {left k:Int}
end
theorem hold_mem {c n:Nat} {x:Int} (h:x∈hold c n):∃i:Nat,x=i∧i<n∧c.testBit i=true:=by
 unfold hold at h
 obtain⟨i,hi,rfl⟩:=List.mem_map.1 h
 obtain⟨h1,h2⟩:=List.mem_filter.1 hi
 exact⟨i,rfl,List.mem_range.1 h1,h2⟩
theorem ranksM {X:Ids} {H:AH} {v:Value} {m u:Int} {xs:List Int} (h:KI.Ml X H v xs):M_Ranks.R X H (m,u,xs) [.int .i64 m,.int .i64 u,v]:=
 mpR (X:=None_) (cs:=[.int .i64 m]) (show KI.R None_ H m _ from rfl) (mpR (X:=None_) (cs:=[.int .i64 u]) (show KI.R None_ H u _ from rfl) (ml1' h) (fun _ p=>p.elim) (fun _ p=>p) (fun _ p _=>p.elim)) (fun _ p=>p.elim) (fun _ p=>p) (fun _ p _=>p.elim)
def MkRC (r:T_Ranks) (code:Int) (n:Nat) (v:Value) (H1:AH):Prop:=∃cs:List Value,v=.tuple #[.agg cs.toArray,.int .i64 code]∧M_Ranks.R (New n H1.n) H1 r cs
theorem MkRC.nil {code:Int} {n:Nat} {v:Value} {H1:AH} (hv:v=.tuple #[.agg #[.int .i64 0,.int .i64 0,.slice none 0 0],.int .i64 code]):MkRC (0,0,[]) code n v H1:=⟨_,hv,ranksM (.inl ⟨rfl,_,_,rfl,fun _=>rfl⟩)⟩
section
variable {S:Ids} {H0:AH}
end
end Go.Proofs.YtlapbbffoapleaaGreat.Am
namespace Go.Proofs.YtlapbbffoapleaaGreat.Am
open Go Go.RowKit Go.Proofs Go.Proofs.YtlapbbffoapleaaGreat.Pl
def SchOk (x:T_Scheme):Prop:=OkSch x.1 x.2.1 x.2.2.1 x.2.2.2.1 x.2.2.2.2
section
variable {S:Ids} {H0:AH}
theorem hold_has {y:Int} {x q:Nat} (h0:0≤y) (h1:y<q):decide (y∈hold x q)=x.testBit y.toNat:=by
 obtain⟨j,rfl⟩:∃j:Nat,y=j:=⟨y.toNat,by omega⟩
 rw[Int.toNat_natCast]
 by_cases hb:x.testBit j=true
 ·rw[hb,decide_eq_true]
  exact List.mem_map.2 ⟨j,List.mem_filter.2 ⟨List.mem_range.2 (by omega),hb⟩,rfl⟩
 ·rw[decide_eq_false (fun hm=>by obtain⟨i,h2,_,h3⟩:=hold_mem hm;exact hb (by rw[show j=i by omega];exact h3))]
  simpa using hb
end
def unitL (k:Nat):List Int:=1 :: List.replicate (k-1) 0
theorem unitL_len {k:Nat} (h:1≤k):(unitL k).length=k:=by simp[unitL];omega
theorem unitL_cells {k:Nat} (h:1≤k):(List.replicate k (Value.int .i64 0)).set (0+(0:Int).toNat*1) (Value.int .i64 1)=(unitL k).map (Value.int .i64):=by
 obtain⟨m,rfl⟩:∃m,k=m+1:=⟨k-1,by omega⟩
 simp[unitL,List.replicate_succ]
def MkSC (r:T_Scheme) (code:Int) (n:Nat) (v:Value) (H1:AH):Prop:=∃cs:List Value,v=.tuple #[.agg cs.toArray,.int .i64 code]∧M_Scheme.R (New n H1.n) H1 r cs
theorem schemeM {X X1 X2:Ids} {H:AH} {h p c:Int} {v w:Value} {ow:List Int} {rows:List (List Int)} (h1:KI.Ml X1 H v ow) (h2:KI.ml.Ml X2 H w rows) (i1:∀id,X1 id→X id) (i2:∀id,X2 id→X id) (hd:∀id,X1 id→X2 id→False):M_Scheme.R X H (h,ow,(p,c,rows)) [.int .i64 h,v,.int .i64 p,.int .i64 c,w]:=
 have k2:M_Matrix.R X2 H (p,c,rows) [.int .i64 p,.int .i64 c,w]:=mpR (X:=None_) (cs:=[.int .i64 p]) (show KI.R None_ H p _ from rfl) (mpR (X:=None_) (cs:=[.int .i64 c]) (show KI.R None_ H c _ from rfl) (ml1' h2) (fun _ p=>p.elim) (fun _ p=>p) (fun _ p _=>p.elim)) (fun _ p=>p.elim) (fun _ p=>p) (fun _ p _=>p.elim)
 mpR (X:=None_) (cs:=[.int .i64 h]) (show KI.R None_ H h _ from rfl) (mpR (cs:=[v]) (ml1' h1) k2 i1 i2 hd) (fun _ p=>p.elim) (fun _ p=>p) (fun _ p _=>p.elim)
theorem MkSC.nil {code:Int} {n:Nat} {v:Value} {H1:AH} (hv:v=.tuple #[.agg #[.int .i64 0,.slice none 0 0,.int .i64 0,.int .i64 0,.slice none 0 0],.int .i64 code]):MkSC (0,[],(0,0,[])) code n v H1:=
 ⟨_,hv,schemeM (X1:=None_) (X2:=None_) (.inl ⟨rfl,_,_,rfl,fun _=>rfl⟩) (.inl ⟨rfl,_,_,rfl,fun _=>rfl⟩) (fun _ p=>p.elim) (fun _ p=>p.elim) (fun _ p _=>p.elim)⟩
theorem built_Scheme0:Tryz.prog.built 29 []=some #[.int .i64 0,.slice none 0 0,.int .i64 0,.int .i64 0,.slice none 0 0]:=by kernel_rfl
theorem built_Scheme3 (h p c:Int) (a1:Option Addr) (n1 c1:Nat) (a2:Option Addr) (n2 c2:Nat):Tryz.prog.built 29 [(0,.int .i64 h),(1,.slice a1 n1 c1),(2,.agg #[.int .i64 p,.int .i64 c,.slice a2 n2 c2])]=some #[.int .i64 h,.slice a1 n1 c1,.int .i64 p,.int .i64 c,.slice a2 n2 c2]:=by kernel_rfl
section
variable {S:Ids} {H0:AH}
theorem unit (k:Nat) (h1:1≤k) (hk:k≤1000):SpecM Tryz.prog S H0 115 [.int .i64 k] (MkL (unitL k)):=by
 refine SpecM.of1 Tryz.func115 rfl (by kernel_rfl) rfl (fun H _=>?_)
 refine KW.mk1 U U U U U U U U U U U U (k) U U (by omega) (by show 8*_≤_;omega) ?_
 refine KW.idx0 U U U U U U U U U (by omega) (by omega) ?_
 refine KW.st1 0 U U U U U U U U U U U U (by simp;omega) ?_
 refine KW.retM1 U U U U (fun H1 g=>?_)
 have hb:=g.blk (j:=0) rfl
 exact⟨some ⟨H.n,0,some 1⟩,k,by rw[unitL_len h1];rfl,int_ml ⟨Nat.le_refl _,hb.2⟩ hb.1 rfl (unitL_cells h1) (by rw[unitL_len h1];exact Nat.le_refl _)⟩
end
end Go.Proofs.YtlapbbffoapleaaGreat.Am
namespace Go.Proofs.YtlapbbffoapleaaGreat.Am
open Go Go.RowKit
theorem hold_congr {x y n:Nat} (h:∀i,i<n→x.testBit i=y.testBit i):hold x n=hold y n:=by
 unfold hold
 congr 1
 exact List.filter_congr fun i hi=>h i (List.mem_range.1 hi)
theorem bitsOf_snoc (g:List Int) (a:Int):bitsOf (g++[a])=bitsOf g ||| 2 ^ a.toNat:=by
 unfold bitsOf
 rw[List.foldl_append];rfl
theorem rises_front {lo hi:Int} {g:List Int} {a:Int} (h:Rises lo hi (g++[a])):Rises lo hi g∧(∀x∈g,x<a)∧lo≤a∧a≤hi:=by
 have at_:∀i,i<g.length→(g++[a]).getD i 0=g.getD i 0:=fun i hi=>by
  rw[List.getD_eq_getElem?_getD,List.getD_eq_getElem?_getD,List.getElem?_append_left hi]
 have last:(g++[a]).getD g.length 0=a:=by
  rw[List.getD_eq_getElem?_getD];simp
 have hr:Rises lo hi g:=fun i hi=>by
  obtain⟨h1,h2⟩:=h i (by simp;omega)
  rw[at_ i hi] at h1 h2
  refine⟨h1,fun h0=>?_⟩
  have:=h2 h0
  rwa [at_ (i-1) (by omega)] at this
 have hl:=h g.length (by simp)
 unfold RiseAt at hl
 rw[last] at hl
 refine⟨hr,fun x hx=>?_,hl.1.1,hl.1.2⟩
 obtain⟨i,hi⟩:=List.getElem?_of_mem hx
 have hil:=(List.getElem?_eq_some_iff.1 hi).1
  -- each element is at most the last one of g
 have up:∀d i,i+d=g.length-1→i<g.length→g.getD i 0≤g.getD (g.length-1) 0:=fun d=>by
  induction d with
  | zero=>intro i h1 h2;rw[show i=g.length-1 by omega];exact Int.le_refl _
  | succ d ih=>
   intro i h1 h2
   have h3:=ih (i+1) (by omega) (by omega)
   have h4:=(hr (i+1) (by omega)).2 (by omega)
   simp only[Nat.add_sub_cancel] at h4
   omega
 have h5:=up (g.length-1-i) i (by omega) hil
 have h6:=hl.2 (by omega)
 rw[at_ (g.length-1) (by omega)] at h6
 rw[getD_of hi] at h5
 omega
theorem bitsOf_test {g:List Int} (hg:∀x∈g,0≤x) (i:Nat):(bitsOf g).testBit i=true↔(i:Int)∈g:=by
 have key:∀(g:List Int) (a:Nat),(∀x∈g,0≤x)→((g.foldl (fun a x=>a ||| 2 ^ x.toNat) a).testBit i=true↔(a.testBit i=true∨(i:Int)∈g)):=by
  intro g
  induction g with
  | nil=>intro a _;simp
  | cons x g ih=>
   intro a hx
   have h0:=hx x List.mem_cons_self
   simp only[List.foldl_cons]
   rw[ih _ (fun y hy=>hx y (List.mem_cons_of_mem _ hy)),Nat.testBit_or,Nat.testBit_two_pow,List.mem_cons]
   have e:x.toNat=i↔(i:Int)=x:=by omega
   simp only[Bool.or_eq_true,decide_eq_true_eq,e]
   constructor
   ·rintro ((h | h) | h)
    ·exact .inl h
    ·exact .inr (.inl h)
    ·exact .inr (.inr h)
   ·rintro (h | h | h)
    ·exact .inl (.inl h)
    ·exact .inl (.inr h)
    ·exact .inr h
 have:=key g 0 hg
 simpa [bitsOf] using this
theorem hold_bits:∀(n:Nat) {g:List Int},Rises 0 ((n:Int)-1) g→hold (bitsOf g) n=g
 | 0,g,h=>by
  cases g with
  | nil=>rfl
  | cons x g=>have:=(h 0 (by simp)).1;omega
 | n+1,g,h=>by
  rcases List.eq_nil_or_concat g with rfl | ⟨g',a,hga⟩
  ·unfold hold bitsOf;simp
  ·rw[List.concat_eq_append] at hga
   subst hga
   obtain⟨h1,h2,h3,h4⟩:=rises_front h
   have hg':∀x∈g',0≤x:=fun x hx=>(rises_mem h1 x hx).1
   rw[hold_next]
   by_cases ha:a=n
   ·subst ha
    have hb:(bitsOf (g'++[(n:Int)])).testBit n=true:=by rw[bitsOf_snoc,Nat.testBit_or,Nat.testBit_two_pow];simp
    rw[if_pos hb]
    congr 1
    have h5:Rises 0 ((n:Int)-1) g':=fun i hi=>by
     obtain⟨h6,h7⟩:=h1 i hi
     refine⟨⟨h6.1,?_⟩,h7⟩
     have:=h2 (g'.getD i 0) (by rw[List.getD_eq_getElem?_getD,List.getElem?_eq_getElem hi];exact List.getElem_mem hi)
     omega
    have ih:=hold_bits n h5
    rw[← ih]
    rw[ih]
    refine Eq.trans (hold_congr fun i hi=>?_) ih
    rw[bitsOf_snoc,Nat.testBit_or,Nat.testBit_two_pow]
    have h9:¬n=i:=by omega
    simp[h9]
   ·have h5:Rises 0 ((n:Int)-1) (g'++[a]):=fun i hi=>by
     obtain⟨h6,h7⟩:=h i hi
     refine⟨⟨h6.1,?_⟩,h7⟩
     have hm:(g'++[a]).getD i 0∈g'++[a]:=by rw[List.getD_eq_getElem?_getD,List.getElem?_eq_getElem hi];exact List.getElem_mem hi
     rcases List.mem_append.1 hm with h8 | h8
     ·have:=h2 _ h8;omega
     ·have:=List.mem_singleton.1 h8;omega
    have hb:¬(bitsOf (g'++[a])).testBit n=true:=fun hc=>by
     have:=(bitsOf_test (fun x hx=>(rises_mem h5 x hx).1) n).1 hc
     have:=(rises_mem h5 _ this).2
     omega
    rw[if_neg hb]
    exact hold_bits n h5
end Go.Proofs.YtlapbbffoapleaaGreat.Am
namespace Go.Proofs.YtlapbbffoapleaaGreat.Pl
theorem ech_shape {p:Int} {K:Nat} {L:List (List Int)} (hf:Fer p) (h:Rect p K L):∀c,Ech p K c (ech p L c).1 (ech p L c).2
 | 0=>⟨h,by simp[ech],fun i q r hi=>by simp[ech] at hi,fun i r _ _ j hj=>absurd hj (Nat.not_lt_zero _),fun i q j r hi=>by simp[ech] at hi⟩
 | c+1=>by
  have ih:=ech_shape hf h c
  have hp:0<p:=by have:=hf.1;omega
  simp only[ech]
  split
  ·rename_i hr
   exact ih.none_ hr
  ·rename_i L' hr
   exact ih.some_ hf hr (rnd_ok hp ih.rect ih.le hr).1
theorem ech_sat {p:Int} {k:Nat} {L:List (List Int)} (hf:Fer p) (h:Rect p (k+1) L) {x:List Int}:∀c,AllS p k (ech p L c).1 x↔AllS p k L x
 | 0=>Iff.rfl
 | c+1=>by
  have ih:=ech_sat hf h (x:=x) c
  have sh:=ech_shape hf h c
  simp only[ech]
  split
  ·exact ih
  ·rename_i L' hr
   exact(rnd_sat hf sh.rect sh.le hr).trans ih
def fr (P:List Nat):Nat→Nat
 | 0=>0
 | c+1=>fr P c+if c∈P then 0 else 1
theorem dF_zero {r:List Int}:∀(t:List Int) (c:Nat),(∀j,c≤j→j<c+t.length→r.getD j 0=0)→dF r c t=0
 | [],_,_=>rfl
 | a :: t,c,h=>by
  simp only[dF]
  rw[h c (Nat.le_refl _) (by simp),dF_zero t (c+1) (fun j h1 h2=>h j (by omega) (by simp only[List.length_cons];omega))]
  omega
def Solv (p:Int) (k:Nat) (W:List (List Int)):Prop:=∀(i:Nat) r,(ech p W k).2.length≤i→(ech p W k).1[i]?=some r→r.getD k 0=0
theorem solv_iff {p:Int} {k:Nat} {W:List (List Int)} (hf:Fer p) (hW:Rect p (k+1) W):Solv p k W↔k∉(ech p W (k+1)).2:=by
 have sh:=ech_shape hf hW k
 have hnc:k∉(ech p W k).2:=fun hm=>by
  obtain⟨i,hi⟩:=List.getElem?_of_mem hm
  have hil:=(List.getElem?_eq_some_iff.1 hi).1
  have:=(sh.piv i k _ hi (List.getElem?_eq_getElem (by have:=sh.le;omega))).1
  omega
 unfold Solv
 simp only[ech]
 split
 ·rename_i hr
  refine⟨fun _=>hnc,fun _ i r hi he=>?_⟩
  have:=(sh.none_ hr).zero i r hi he k (by omega)
  exact this
 ·rename_i L' hr
  obtain⟨a,u,w,b,h1,h2,hu,hw,hw0,_⟩:=rnd_rows hf sh.rect sh.le hr
  refine⟨fun h=>absurd (h a w h1 hw) hw0,fun h=>absurd (by simp) h⟩
end Go.Proofs.YtlapbbffoapleaaGreat.Pl
