/- Contracts and laws on abstract memory, merged. Each holds under its own conditions. -/
import Derived.Test.YtlapbbffoapleaaPCasesAlike02
set_option linter.unusedVariables false
set_option linter.unusedSimpArgs false
set_option maxRecDepth 20000
set_option maxHeartbeats 4000000
namespace Go.Proofs.Ytlapbbffoapleaa.Am
open Go Go.RowKit Go.Proofs
theorem Fz.trans {S:Ids} {H0 H H':AH} (h:Fz S H0 H) (k:Fz (Low H.n) H H'):Fz S H0 H':=fun id hid=>by
 obtain⟨h1,h2⟩:=h id hid
 obtain⟨h3,h4⟩:=k id h1
 exact⟨h3,h4.trans h2⟩
section
variable {S:Ids} {H0:AH}
def Tells {α:Type} (P:Program) (S:Ids) (H0:AH) (d:Kn α) (xs:List (List α)) (g:FuncId) (cap:List Value) (p:List α→Bool):Prop:=
 ∀H',Fz S H0 H'→∀x a c,x∈xs→d.Sl (Low H'.n) H' (.slice a x.length c) x→Spec P (Low H'.n) H' g (.slice a x.length c :: cap) (fun v=>v=.bool (p x))
theorem Tells.to {α:Type} {P:Program} {d:Kn α} {xs:List (List α)} {g:FuncId} {cap:List Value} {p:List α→Bool} {H:AH} (h:Tells P S H0 d xs g cap p) (hf:Fz S H0 H):Tells P (Low H.n) H d xs g cap p:=fun H' hf'=>h H' (hf.trans hf')
theorem indexFunc2 {a c} {xs:List (List Int)} {g:FuncId} {id k:Nat} {sp:Option Nat} {p:List Int→Bool} (hl:xs.length≤1048576) (hs:(Kn.int .i64).sl.Sl S H0 (.slice a xs.length c) xs) (hp:Tells Try.prog S H0 (Kn.int .i64) xs g [.pointer (some ⟨id,k,none⟩)] p):
  Spec Try.prog S H0 195 [.slice a xs.length c,.func (.func g) #[] #[.pointer (some ⟨id,k,sp⟩)]] (fun v=>∃r:Int,v=.int .i64 r∧(r≥0↔∃x∈xs,p x=true)):=by
 refine Spec.of Try.func195 rfl (by kernel_rfl) rfl (fun H hfin hfz=>?_)
 have hs:=hs.to hfz
 have hp:=hp.to hfz
 refine KW.lp U U (fun i:Nat=>[(0,.slice a xs.length c),(1,.func (.func g) #[] #[.pointer (some ⟨id,k,sp⟩)]),(7,.int .i64 xs.length),(8,.int .i64 i)]) (fun i=>i≤xs.length∧∀j,j<i→∀x,xs[j]?=some x→p x=false) (fun i=>xs.length-i) 0 ⟨by omega,fun j h=>absurd h (by omega)⟩ ⟨rfl,rfl,rfl,rfl,trivial⟩ (fun i hi b n=>?_)
 obtain⟨hi,hj⟩:=hi
 refine KW.cnd U U (fun h=>?_) (fun h=>KW.ret U U U U ⟨-1,rfl,?_⟩)
 ·refine KW.getL hs U U U U U U U U U U U U U U U U (by omega) h (fun x ax cx hx hsx=>?_)
  have hx:xs[i]?=some x:=hx
  have hmem:=List.mem_of_getElem? hx
  refine KW.callE U U U U U (hp H (fun id h=>⟨h,rfl⟩) x ax cx hmem hsx) (fun _ _=>?_)
  refine KW.cndB U U (fun h2=>KW.ret U U U U ⟨(i:Int),rfl,?_⟩) (fun h2=>?_)
  ·exact⟨fun _=>⟨x,hmem,h2⟩,fun _=>by omega⟩
  ·exact KW.nxt U U (fun H g'=>⟨i+1,⟨by omega,upto hj (fun y hy=>by rw[hx] at hy;cases hy;exact h2)⟩,by omega,⟨rfl,rfl,rfl,congrArg (Value.int .i64) (inc64 (by omega)),trivial⟩,g'⟩)
 ·refine⟨fun h=>absurd h (by decide),fun⟨x,hx,hpx⟩=>?_⟩
  obtain⟨j,hjx⟩:=List.getElem?_of_mem hx
  have:=hj j (by have:=(List.getElem?_eq_some_iff.1 hjx).1;omega) x hjx
  rw[hpx] at this;cases this
theorem containsFunc2 {a c} {xs:List (List Int)} {g:FuncId} {id k:Nat} {sp:Option Nat} {p:List Int→Bool} (hl:xs.length≤1048576) (hs:(Kn.int .i64).sl.Sl S H0 (.slice a xs.length c) xs) (hp:Tells Try.prog S H0 (Kn.int .i64) xs g [.pointer (some ⟨id,k,none⟩)] p):
  Spec Try.prog S H0 143 [.slice a xs.length c,.func (.func g) #[] #[.pointer (some ⟨id,k,sp⟩)]] (fun v=>v=.bool (tv (∃x∈xs,p x=true))):=by
 refine Spec.of Try.func143 rfl (by kernel_rfl) rfl (fun H hfin hfz=>?_)
 refine KW.call U U U U U (indexFunc2 hl (hs.to hfz) (hp.to hfz)) (fun v n' _ hv=>?_)
 obtain⟨r,rfl,hr⟩:=hv
 refine KW.ret U U U U ?_
 show Value.bool (decide (r≥0))=_
 rw[tv_dec,tv_congr hr]
def Opens (gs:List (List Int)) (c:Nat):Prop:=∃g∈gs,c &&& bitsOf g=bitsOf g
def Below' (m:Nat) (gs:List (List Int)):Prop:=∀g∈gs,∀x∈g,0≤x∧x<(m:Int)
theorem FamOk.below {m:Int} {gs:List (List Int)} (h:FamOk m gs):Below' m.toNat gs:=fun g hg x hx=>by
 obtain⟨i,hi⟩:=List.getElem?_of_mem hg
 have h1:=(h.grp i (List.getElem?_eq_some_iff.1 hi).1).1
 rw[getDL_of hi] at h1
 exact rises_bound h.h1 h1 x hx
theorem opens1 {m:Nat} (hm:m≤7) {q:Nat} (hq:q<4611686018427387904) {g:List Int} (hg:∀x∈g,0≤x∧x<(m:Int)) (hl:g.length≤1048576) {a c} {id:Nat} {ty:TypeId} {rw:Bool} (hS:S id) (hm':H0.m id=some ⟨ty,rw,[.int .u64 q]⟩) (hs:(Kn.int .i64).Sl S H0 (.slice a g.length c) g):
  Spec Try.prog S H0 181 [.slice a g.length c,.pointer (some ⟨id,0,none⟩)] (fun v=>v=.bool (tv (q &&& bitsOf g=bitsOf g))):=by
 refine Spec.of Try.func181 rfl (by kernel_rfl) rfl (fun H hfin hfz=>?_)
 have hm':=((hfz id hS).2).trans hm'
 have hS:Low H.n id:=(hfz id hS).1
 have hb:bitsOf g<2 ^ m:=bitsOf_lt (fun x h=>by have:=hg x h;omega)
 have hp:=small_pow (m:=m) (by omega)
 refine KW.ldP hS hm' U U U U U U ?_
 refine KW.callE U U U U U (crowdOf (m:=m) (by omega) (by omega) hg (hs.to hfz)) (fun _ _=>?_)
 refine KW.callE U U U U U (contains hq (by omega)) (fun _ _=>?_)
 exact KW.ret U U U U U
theorem opens {m:Nat} (hm:m≤7) (h:Int) {q:Nat} (hq:q<4611686018427387904) {gs:List (List Int)} (hsm:Sml gs) (hb:Below' m gs) {a c} (hs:(Kn.int .i64).sl.Sl S H0 (.slice a gs.length c) gs):
  Spec Try.prog S H0 122 [familyV h (.slice a gs.length c),.int .u64 q] (fun v=>v=.bool (tv (Opens gs q))):=by
 refine Spec.of Try.func122 rfl (by kernel_rfl) rfl (fun H hfin hfz=>?_)
 refine KW.callV U U U U U (fun H1 g=>containsFunc2 (p:=fun x=>tv (q &&& bitsOf x=bitsOf x)) hsm.len ((hs.to hfz).on (fun id hid=>(g.froz id hid).2) (fun id hid=>by have:=(g.froz id hid).1;have:=g.n_;show id<H1.n;omega)) (fun H' hf' x ax cx hx hsx=>?_)) (fun _ _=>?_)
 ·have hb1:=g.blk (j:=1) rfl
  obtain⟨h1,h2⟩:=hf' _ hb1.2
  exact opens1 hm hq (hb x hx) (hsm.each x hx) h1 (h2.trans hb1.1) hsx
 ·refine KW.ret U U U U ?_
  show Value.bool (tv _)=_
  congr 1
  exact tv_congr ⟨fun⟨x,h1,h2⟩=>⟨x,h1,tv_iff.1 h2⟩,fun⟨x,h1,h2⟩=>⟨x,h1,tv_iff.2 h2⟩⟩
end
def Grow (l:List Int) (u:Int) (gs:List (List Int)) (a b:Nat):Prop:=a &&& b=a∧¬Opens gs a∧Opens gs b∧l.getD b 0<l.getD a 0+u
def Meet (l:List Int) (u:Int) (gs:List (List Int)) (a b:Nat):Prop:=Opens gs a∧Opens gs b∧¬Opens gs (a &&& b)∧l.getD a 0+l.getD b 0<l.getD (a ||| b) 0+l.getD (a &&& b) 0+u
def Mis (l:List Int) (u:Int) (gs:List (List Int)) (a b:Nat):Prop:=Grow l u gs a b∨Meet l u gs a b
def Fst (l:List Int) (u:Int) (gs:List (List Int)) (a b:Nat) (f:Bool):Prop:=
 (f=true∧a<l.length∧b<l.length∧Mis l u gs a b∧(∀a',a'<a→∀b',b'<l.length→¬Mis l u gs a' b')∧∀b',b'<b→¬Mis l u gs a b')∨
 (f=false∧a=0∧b=0∧∀a',a'<l.length→∀b',b'<l.length→¬Mis l u gs a' b')
theorem Fst.one {l:List Int} {u:Int} {gs:List (List Int)} {a b a' b':Nat} {f f':Bool} (h:Fst l u gs a b f) (k:Fst l u gs a' b' f'):a=a'∧b=b'∧f=f':=by
 rcases h with⟨rfl,h1,h2,h3,h4,h5⟩ | ⟨rfl,rfl,rfl,h4⟩<;>rcases k with⟨rfl,k1,k2,k3,k4,k5⟩ | ⟨rfl,rfl,rfl,k4⟩
 ·have ha:a=a':=by
   rcases Nat.lt_trichotomy a a' with h | h | h
   ·exact absurd h3 (k4 a h b h2)
   ·exact h
   ·exact absurd k3 (h4 a' h b' k2)
  subst ha
  refine⟨rfl,?_,rfl⟩
  rcases Nat.lt_trichotomy b b' with h | h | h
  ·exact absurd h3 (k5 b h)
  ·exact h
  ·exact absurd k3 (h5 b' h)
 ·exact absurd h3 (k4 a h1 b h2)
 ·exact absurd k3 (h4 a' k1 b' k2)
 ·exact⟨rfl,rfl,rfl⟩
section
variable {S:Ids} {H0:AH}
theorem misfit (u:Int) {m:Nat} (hm:m≤7) (hu:1≤u∧u≤100000) {a0 c0 a1 c1} {l:List Int} {gs:List (List Int)} (hl:l.length=2 ^ m) (hw:Within l) (hsm:Sml gs) (hb:Below' m gs) (hs:(Kn.int .i64).Sl S H0 (.slice a0 l.length c0) l) (hs':(Kn.int .i64).sl.Sl S H0 (.slice a1 gs.length c1) gs):
  Spec Try.prog S H0 129 [ranksV m u (.slice a0 l.length c0),familyV m (.slice a1 gs.length c1)] (fun v=>∃(a b:Nat) (f:Bool),v=.tuple #[.int .u64 a,.int .u64 b,.bool f]∧Fst l u gs a b f):=by
 refine Spec.of Try.func129 rfl (by kernel_rfl) rfl (fun H hfin hfz=>?_)
 have hs:=hs.to hfz
 have hs':=hs'.to hfz
 have h256:=len_le (m:=m) (by omega) hl
 refine KW.lp U U (fun a:Nat=>[(2,.pointer (some ⟨H.n,0,some 0⟩)),(3,.pointer (some ⟨H.n+1,0,some 1⟩)),(7,.int .u64 a)]) (fun a=>a≤l.length∧∀a',a'<a→∀b',b'<l.length→¬Mis l u gs a' b') (fun a=>l.length-a) 0 ⟨by omega,fun j h=>absurd h (by omega)⟩ ⟨rfl,rfl,rfl,trivial⟩ (fun a ha e n=>?_)
 obtain⟨ha0,ha⟩:=ha
 refine KW.callE U U U U U (everybody (m:=m) (by omega)) (fun _ _=>?_)
 refine KW.cnd U U (fun h=>?_) (fun h=>KW.ret U U U U ⟨0,0,false,rfl,.inr ⟨rfl,rfl,rfl,fun a' ha'=>ha a' (by rw[hl] at ha';omega)⟩⟩)
 have hal:a<l.length:=by rw[hl];have:=Nat.two_pow_pos m;omega
 refine KW.lp U U (fun b:Nat=>[(2,.pointer (some ⟨H.n,0,some 0⟩)),(3,.pointer (some ⟨H.n+1,0,some 1⟩)),(7,.int .u64 a),(8,.int .u64 b)]) (fun b=>b≤l.length∧∀b',b'<b→¬Mis l u gs a b') (fun b=>l.length-b) 0 ⟨by omega,fun j h=>absurd h (by omega)⟩ ⟨rfl,rfl,rfl,rfl,trivial⟩ (fun b hb' e n=>?_)
 obtain⟨hb0,hb'⟩:=hb'
 refine KW.callE U U U U U (everybody (m:=m) (by omega)) (fun _ _=>?_)
 refine KW.cnd U U (fun h=>?_) (fun h=>?_)
 ·have hbl:b<l.length:=by rw[hl];have:=Nat.two_pow_pos m;omega
  have eo:=or_u64 (a:=a) (b:=b) (by omega) (by omega)
  have ea:=and_u64 (a:=a) (b:=b) (by omega) (by omega)
  have ho:=or_in hl hal hbl
  have hn:=and_in (a:=a) hl hbl
  have w1:=hw a hal
  have w2:=hw b hbl
  have w3:=hw _ ho
  have w4:=hw _ hn
  have O:∀q:Nat,q<l.length→∀{n:Nat},Spec Try.prog (Low H.n) H 122 [familyV m (.slice a1 gs.length c1),.int .u64 q] (fun v=>v=.bool (tv (Opens gs q))):=fun q hq _=>opens hm m (by omega) hsm hb hs'
  refine KW.mid 7 U U (fun g:Bool=>[(2,.pointer (some ⟨H.n,0,some 0⟩)),(3,.pointer (some ⟨H.n+1,0,some 1⟩)),(7,.int .u64 a),(8,.int .u64 b),(9,.bool g)]) (fun g=>g=true↔Grow l u gs a b) ?_ (fun g hg e n=>?_)
  ·have no:¬Grow l u gs a b→(false=true↔Grow l u gs a b):=fun h=>⟨fun h=>(by cases h),fun hc=>absurd hc h⟩
   refine KW.callE U U U U U (contains (x:=b) (y:=a) (by omega) (by omega)) (fun _ _=>?_)
   refine KW.tstB U U (fun h1=>?_) (fun h1=>?_)
   ·have h1:a &&& b=a:=by rw[Nat.and_comm];exact tv_iff.1 h1
    refine KW.callE U U U U U (O a hal (n:=0)) (fun _ _=>?_)
    refine KW.tstB U U (fun h2=>?_) (fun h2=>?_)
    ·have h2:¬Opens gs a:=fun hc=>by rw[tv_true hc] at h2;cases h2
     refine KW.callE U U U U U (O b hbl (n:=0)) (fun _ _=>?_)
     refine KW.tstB U U (fun h3=>?_) (fun h3=>?_)
     ·refine KW.callE U U U U U (rank _ _ b hbl hs) (fun _ _=>?_)
      refine KW.callE U U U U U (rank _ _ a hal hs) (fun _ _=>?_)
      have e5:IntKind.i64.wrap (l.getD a 0+u)=l.getD a 0+u:=wr (by omega) (by omega)
      refine KW.nxt U U (fun H g'=>⟨decide (l.getD b 0<l.getD a 0+u),?_,⟨rfl,rfl,rfl,rfl,?_,trivial⟩,g'⟩)
      ·rw[decide_eq_true_iff]
       exact⟨fun h=>⟨h1,h2,tv_iff.1 h3,h⟩,fun h=>h.2.2.2⟩
      ·show Value.bool (decide (l.getD b 0<IntKind.i64.wrap (l.getD a 0+u)))=_
       rw[e5]
     ·exact KW.nxt U U (fun H g'=>⟨false,no (fun hc=>by rw[tv_true hc.2.2.1] at h3;cases h3),⟨rfl,rfl,rfl,rfl,rfl,trivial⟩,g'⟩)
    ·refine KW.tstB U U (fun h=>absurd h (by decide)) (fun _=>?_)
     exact KW.nxt U U (fun H g'=>⟨false,no (fun hc=>by rw[tv_false hc.2.1] at h2;cases h2),⟨rfl,rfl,rfl,rfl,rfl,trivial⟩,g'⟩)
   ·refine KW.tstB U U (fun h=>absurd h (by decide)) (fun _=>?_)
    refine KW.tstB U U (fun h=>absurd h (by decide)) (fun _=>?_)
    exact KW.nxt U U (fun H g'=>⟨false,no (fun hc=>by rw[tv_true (show b &&& a=a by rw[Nat.and_comm];exact hc.1)] at h1;cases h1),⟨rfl,rfl,rfl,rfl,rfl,trivial⟩,g'⟩)
  refine KW.mid 8 U U (fun g2:Bool=>[(2,.pointer (some ⟨H.n,0,some 0⟩)),(3,.pointer (some ⟨H.n+1,0,some 1⟩)),(7,.int .u64 a),(8,.int .u64 b),(9,.bool g),(10,.bool g2)]) (fun g2=>g2=true↔Meet l u gs a b) ?_ (fun g2 hg2 e n=>?_)
  ·have no:¬Meet l u gs a b→(false=true↔Meet l u gs a b):=fun h=>⟨fun h=>(by cases h),fun hc=>absurd hc h⟩
   refine KW.callE U U U U U (O a hal (n:=0)) (fun _ _=>?_)
   refine KW.tstB U U (fun h1=>?_) (fun h1=>?_)
   ·refine KW.callE U U U U U (O b hbl (n:=0)) (fun _ _=>?_)
    refine KW.tstB U U (fun h2=>?_) (fun h2=>?_)
    ·refine KW.callE U U U U U (by show Spec _ _ _ _ [familyV m (.slice a1 gs.length c1),.int .u64 (IntKind.u64.wrap _)] _;rw[ea];exact O _ hn (n:=0)) (fun _ _=>?_)
     refine KW.tstB U U (fun h3=>?_) (fun h3=>?_)
     ·have h3:¬Opens gs (a &&& b):=fun hc=>by rw[tv_true hc] at h3;cases h3
      refine KW.callE U U U U U (rank _ _ a hal hs) (fun _ _=>?_)
      refine KW.callE U U U U U (rank _ _ b hbl hs) (fun _ _=>?_)
      refine KW.callE U U U U U (by show Spec _ _ _ _ [ranksV m u (.slice a0 l.length c0),.int .u64 (IntKind.u64.wrap _)] _;rw[eo];exact rank _ _ _ ho hs) (fun _ _=>?_)
      refine KW.callE U U U U U (by show Spec _ _ _ _ [ranksV m u (.slice a0 l.length c0),.int .u64 (IntKind.u64.wrap _)] _;rw[ea];exact rank _ _ _ hn hs) (fun _ _=>?_)
      have e5:IntKind.i64.wrap (l.getD a 0+l.getD b 0)=l.getD a 0+l.getD b 0:=wr (by omega) (by omega)
      have e6:IntKind.i64.wrap (l.getD (a ||| b) 0+l.getD (a &&& b) 0)=l.getD (a ||| b) 0+l.getD (a &&& b) 0:=wr (by omega) (by omega)
      have e7:IntKind.i64.wrap (l.getD (a ||| b) 0+l.getD (a &&& b) 0+u)=l.getD (a ||| b) 0+l.getD (a &&& b) 0+u:=wr (by omega) (by omega)
      refine KW.nxt U U (fun H g'=>⟨decide (l.getD a 0+l.getD b 0<l.getD (a ||| b) 0+l.getD (a &&& b) 0+u),?_,⟨rfl,rfl,rfl,rfl,rfl,?_,trivial⟩,g'⟩)
      ·rw[decide_eq_true_iff]
       exact⟨fun h=>⟨tv_iff.1 h1,tv_iff.1 h2,h3,h⟩,fun h=>h.2.2.2⟩
      ·show Value.bool (decide (IntKind.i64.wrap (l.getD a 0+l.getD b 0)<IntKind.i64.wrap (IntKind.i64.wrap (l.getD (a ||| b) 0+l.getD (a &&& b) 0)+u)))=_
       rw[e5,e6,e7]
     ·exact KW.nxt U U (fun H g'=>⟨false,no (fun hc=>by rw[tv_false hc.2.2.1] at h3;cases h3),⟨rfl,rfl,rfl,rfl,rfl,rfl,trivial⟩,g'⟩)
    ·refine KW.tstB U U (fun h=>absurd h (by decide)) (fun _=>?_)
     exact KW.nxt U U (fun H g'=>⟨false,no (fun hc=>by rw[tv_true hc.2.1] at h2;cases h2),⟨rfl,rfl,rfl,rfl,rfl,rfl,trivial⟩,g'⟩)
   ·refine KW.tstB U U (fun h=>absurd h (by decide)) (fun _=>?_)
    refine KW.tstB U U (fun h=>absurd h (by decide)) (fun _=>?_)
    exact KW.nxt U U (fun H g'=>⟨false,no (fun hc=>by rw[tv_true hc.1] at h1;cases h1),⟨rfl,rfl,rfl,rfl,rfl,rfl,trivial⟩,g'⟩)
  have found:Mis l u gs a b→Fst l u gs a b true:=fun h=>.inl ⟨rfl,hal,hbl,h,ha,hb'⟩
  refine KW.tstB U U (fun h1=>?_) (fun h1=>?_)
  ·refine KW.cndB U U (fun _=>KW.ret U U U U ⟨a,b,true,rfl,found (.inl (hg.1 h1))⟩) (fun h=>absurd h (by decide))
  ·refine KW.cndB U U (fun h2=>KW.ret U U U U ⟨a,b,true,rfl,found (.inr (hg2.1 h2))⟩) (fun h2=>?_)
   refine KW.nxt U U (fun H g'=>⟨b+1,⟨by omega,upto hb' (fun hc=>?_)⟩,by omega,⟨rfl,rfl,rfl,congrArg (Value.int .u64) (incu64 (by omega)),trivial⟩,g'⟩)
   rcases hc with hc | hc
   ·rw[hg.2 hc] at h1;cases h1
   ·rw[hg2.2 hc] at h2;cases h2
 ·exact KW.nxt U U (fun H g'=>⟨a+1,⟨by omega,upto ha (fun b' hb1=>hb' b' (by rw[hl] at hb1;omega))⟩,by omega,⟨rfl,rfl,congrArg (Value.int .u64) (incu64 (by omega)),trivial⟩,g'⟩)
end
section
variable {S:Ids} {H0:AH}
end
theorem Fst.none_ {l:List Int} {u:Int} {gs:List (List Int)} {a b:Nat} {f:Bool} (h:Fst l u gs a b f):(!f)=tv (∀a,a<l.length→∀b,b<l.length→¬Mis l u gs a b):=by
 rcases h with⟨rfl,h1,h2,h3,_⟩ | ⟨rfl,_,_,h4⟩
 ·rw[tv_false (fun hc=>hc a h1 b h2 h3)];rfl
 ·rw[tv_true h4];rfl
section
variable {S:Ids} {H0:AH}
end
section
variable {P:Program} {S:Ids} {H0:AH} {Q:PostC} {k k1:List It} {e e1:Env} {T T1:List Var} {n n1:Nat} {l1 r1:List Nat} {d1:Tmp}
theorem KW.shr {o:Oper} {dr:Bool} {t u:TypeId} {x y:Operand} {ik kk:IntKind} {j:Int} {v:Int} (h:Go1 P k e T n (.op o dr) k1 e1 T1 n1 l1 r1) (hlr:l1=r1) (ho:o.op=.binOp .shr t x y u) (hd:o.dst=some d1) (hx:ev e1 x=.int ik v) (hy:ev e1 y=.int kk j) (hb:ik.bits=64) (a m:Nat) (hv:v=a) (hj:j=m) (hm:m≤63)
  (hk:KW P S H0 Q n1 T1 k1 (put1 e1 d1 (.int ik ((a / 2 ^ m:Nat):Int)))):KW P S H0 Q n T k e:=by
 refine KW.pure h hlr ho hd rfl _ ?_ hk
 subst hj hv
 simp only[pop,hx,hy,abin,ashift]
 rw[if_neg (by omega),hb]
 have e1:min (m:Int).toNat 64=m:=by omega
 rw[e1]
 congr 2
 rw[Int.fdiv_eq_ediv_of_nonneg _ (by exact Int.pow_nonneg (by decide))]
 exact_mod_cast rfl
end
def hold (x n:Nat):List Int:=((List.range n).filter fun i=>x.testBit i).map fun(i:Nat)=>(i:Int)
theorem hold_next (x n:Nat):hold x (n+1)=if x.testBit n=true then hold x n++[(n:Int)] else hold x n:=by
 unfold hold
 rw[List.range_succ,List.filter_append,List.map_append]
 by_cases h:x.testBit n=true
 ·simp[h]
 ·have h:x.testBit n=false:=by simpa using h
  simp[h]
theorem hold_len (x n:Nat):(hold x n).length≤n:=by
 unfold hold
 rw[List.length_map]
 exact Nat.le_trans (List.length_filter_le _ _) (by simp)
theorem bit_is {x h:Nat}:(((x / 2 ^ h) &&& 1:Nat)==1)=x.testBit h:=by
 rw[Nat.testBit_eq_decide_div_mod_eq,Nat.and_one_is_mod]
 rfl
section
variable {S:Ids} {H0:AH}
theorem has {x h:Nat} (hx:x<4611686018427387904) (hh:h≤63):Spec Try.prog S H0 152 [.int .u64 x,.int .i64 h] (fun v=>v=.bool (x.testBit h)):=by
 refine Spec.of Try.func152 rfl (by kernel_rfl) rfl (fun H hfin hfz=>?_)
 refine KW.shr U U U U U U U x h U U hh ?_
 refine KW.ret U U U U ?_
 show Value.bool (IntKind.u64.wrap ((BitVec.ofInt IntKind.u64.bits ((x / 2 ^ h:Nat):Int) &&& BitVec.ofInt IntKind.u64.bits ((1:Nat):Int)).toNat:Int)==((1:Nat):Int))=_
 rw[and_u64 (Nat.lt_of_le_of_lt (Nat.div_le_self _ _) hx) (by decide),← bit_is]
 congr 1
 generalize x / 2 ^ h &&& 1=q
 by_cases e:q=1
 ·subst e;rfl
 ·rw[show(q==1)=false from by simpa using e]
  simp only[beq_eq_false_iff_ne,ne_eq]
  omega
theorem group {x:Nat} (hx:x<4611686018427387904):SpecM Try.prog S H0 105 [.int .u64 x] (fun n v H1=>∃a c,v=.slice a (hold x 7).length c∧KI.Ml (New n H1.n) H1 (.slice a (hold x 7).length c) (hold x 7)):=by
 refine SpecM.of Try.func105 rfl (by kernel_rfl) rfl (fun H hfin hfz=>?_)
 refine KW.lit U U U U U U U U U U [] U U (fun v hv=>by simp at hv) rfl ?_
 refine KW.lpM U U (fun s:Nat × Nat=>[(0,.int .u64 x),(3,.slice (some ⟨s.2,0,some 1⟩) (hold x s.1).length (hold x s.1).length),(4,.int .i64 s.1)]) (fun _=>Low H.n) (fun _=>H) (fun s=>[(s.2,⟨_,true,(hold x s.1).map (Value.int .i64)⟩)]) (fun s=>s.1≤7) (fun s=>7-s.1) (0,H.n) (by simp) ⟨rfl,rfl,rfl,trivial⟩ U U U (fun s hi b n=>?_)
 obtain⟨q,o⟩:=s
 simp only at hi
 refine KW.fact (p:=¬o<H.n) (fun _ g=>(g.vars 0 _ rfl).2.2) (fun ho=>?_)
 have hq:=hold_len x q
 refine KW.cnd U U (fun h=>?_) (fun h=>?_)
 ·refine KW.callE U U U U U (has hx (by omega)) (fun _ _=>?_)
  refine KW.cndB U U (fun h2=>?_) (fun h2=>?_)
  ·refine KW.lit U U U U U U U U U U [.int .i64 q] U U (fun v hv=>by simp at hv;subst hv;rfl) rfl ?_
   refine KW.appT (len:=(hold x q).length) (ys:=[.int .i64 q]) (m:=1) 0 U U U U U U U U U U (fun H g=>acells_T (g.blk (j:=1) rfl).1 U U) (by simp) (fun v hv=>by simp at hv;subst hv;rfl) (by decide) (by show((hold x q).length+1)*8≤_;omega) (by omega) ?_
   have e:=hold_next x q
   rw[if_pos h2] at e
   refine KW.nxt U U (fun H g'=>⟨(q+1,_),by simp only;omega,by simp only;omega,⟨rfl,by simp only[e,List.length_append,List.length_singleton];rfl,congrArg (Value.int .i64) (inc64 (by omega)),trivial⟩,(g'.take 1).eqT ?_⟩)
   simp only[e,List.map_append]
   rfl
  ·have e:=hold_next x q
   rw[if_neg (by rw[h2];decide)] at e
   exact KW.nxt U U (fun H g'=>⟨(q+1,o),by simp only;omega,by simp only;omega,⟨rfl,by simp only[e];rfl,congrArg (Value.int .i64) (inc64 (by omega)),trivial⟩,g'.eqT (by simp only[e])⟩)
 ·obtain rfl:q=7:=by omega
  refine KW.retM U U U U (fun id hid=>⟨hid,rfl⟩) (fun H1 g=>?_)
  have hb:=g.blk (j:=0) rfl
  exact⟨_,_,rfl,int_ml ⟨by omega,hb.2⟩ hb.1 U U (Nat.le_refl _)⟩
end
def rowsP (q:Nat→Bool) (n:Nat):List Int:=((List.range n).filter q).map fun(i:Nat)=>(i:Int)
theorem rowsP_next (q:Nat→Bool) (n:Nat):rowsP q (n+1)=if q n=true then rowsP q n++[(n:Int)] else rowsP q n:=by
 unfold rowsP
 rw[List.range_succ,List.filter_append,List.map_append]
 by_cases hc:q n=true
 ·simp[hc]
 ·have hc:q n=false:=by simpa using hc
  simp[hc]
theorem rowsP_len (q:Nat→Bool) (n:Nat):(rowsP q n).length≤n:=by
 unfold rowsP
 rw[List.length_map]
 exact Nat.le_trans (List.length_filter_le _ _) (by simp)
theorem rowsP_mem {q:Nat→Bool} {n:Nat} {x:Int} (hx:x∈rowsP q n):0≤x∧x<n:=by
 unfold rowsP at hx
 obtain⟨i,hi,rfl⟩:=List.mem_map.1 hx
 have:=List.mem_range.1 (List.mem_filter.1 hi).1
 omega
theorem rowsP_congr {q q':Nat→Bool} {n:Nat} (h:∀i,i<n→q i=q' i):rowsP q n=rowsP q' n:=by
 unfold rowsP
 congr 1
 exact List.filter_congr fun i hi=>h i (List.mem_range.1 hi)
abbrev rowsOf (ow:List Int) (h:Int):List Int:=rowsP (fun i=>decide (ow.getD i 0=h)) ow.length
def dotN (a b:List Int):Nat→Int
 | 0=>0
 | n+1=>dotN a b n+a.getD n 0*b.getD n 0
def dotS (p:Int) (a b:List Int):Int:=dotN a b a.length%p
theorem elem_at {p:Int} {a:List Int} (h:Elems p a) (hp:2≤p) (i:Nat):0≤a.getD i 0∧a.getD i 0≤p-1:=by
 rcases Nat.lt_or_ge i a.length with hi | hi
 ·rw[List.getD_eq_getElem?_getD,List.getElem?_eq_getElem hi]
  exact h _ (List.getElem_mem hi)
 ·rw[List.getD_eq_getElem?_getD,List.getElem?_eq_none hi]
  show 0≤(0:Int)∧(0:Int)≤p-1
  omega
theorem mul_small {p x y:Int} (hp:p≤31) (hx:0≤x∧x≤p-1) (hy:0≤y∧y≤p-1):0≤x*y∧x*y≤900:=by
 refine⟨Int.mul_nonneg hx.1 hy.1,?_⟩
 have h1:x*y≤30*30:=Int.mul_le_mul (by omega) (by omega) hy.1 (by omega)
 omega
theorem dotN_in {p:Int} {a b:List Int} (hp:PrimeP p) (ha:Elems p a) (hb:Elems p b):∀n,0≤dotN a b n∧dotN a b n≤900*n
 | 0=>by simp[dotN]
 | n+1=>by
  have h1:=dotN_in hp ha hb n
  have h2:=mul_small hp.2.1 (elem_at ha hp.1 n) (elem_at hb hp.1 n)
  simp only[dotN]
  omega
def shares (p:Int) (rows:List (List Int)) (all:List Int):List Int:=rows.map fun r=>dotS p r all
theorem map_take_succ {α β:Type} (f:α→β) {xs:List α} {i:Nat} {x:α} (h:xs[i]?=some x):(xs.take (i+1)).map f=(xs.take i).map f++[f x]:=by
 obtain⟨hi,rfl⟩:=List.getElem?_eq_some_iff.1 h
 rw[List.take_succ_eq_append_getElem hi,List.map_append];rfl
section
variable {S:Ids} {H0:AH}
theorem dot (p:Int) (hp:PrimeP p) {a1 c1 a2 c2} {a b:List Int} (hl:a.length=b.length) (h12:a.length≤1048576) (ea:Elems p a) (eb:Elems p b) (ha:KI.Sl S H0 (.slice a1 a.length c1) a) (hb:KI.Sl S H0 (.slice a2 b.length c2) b):
  Spec Try.prog S H0 72 [.int .i64 p,.slice a1 a.length c1,.slice a2 b.length c2] (fun v=>v=.int .i64 (dotS p a b)):=by
 refine Spec.of1 Try.func72 rfl (by kernel_rfl) rfl (fun H _=>?_)
 refine KW.lp U U (fun i:Nat=>[(0,.int .i64 p),(2,.slice a2 b.length c2),(7,.int .i64 (dotN a b i)),(10,.slice a1 a.length c1),(11,.int .i64 a.length),(12,.int .i64 i)]) (fun i=>i≤a.length) (fun i=>a.length-i) (0) (by omega) ⟨rfl,rfl,rfl,rfl,rfl,rfl,trivial⟩ (fun i hi bE n=>?_)
 refine KW.cnd U U (fun h=>?_) (fun h=>?_)
 ·refine KW.getI ha.up U U U U U U U U U U U U U U U U (by omega) (h) (fun x hx=>?_)
  refine KW.getI hb.up U U U U U U U U U U U U U U U U (by omega) (by omega) (fun y hy=>?_)
  have hx:a.getD i 0=x:=getD_of hx
  have hy:b.getD i 0=y:=getD_of hy
  have h1:=dotN_in hp ea eb i
  have h2:=mul_small hp.2.1 (elem_at ea hp.1 i) (elem_at eb hp.1 i)
  have e:dotN a b (i+1)=dotN a b i+a.getD i 0*b.getD i 0:=rfl
  rw[hx,hy] at h2 e
  have e2:Value.int .i64 (IntKind.i64.wrap (dotN a b i+IntKind.i64.wrap (x*y)))=.int .i64 (dotN a b (i+1)):=by
   rw[wr (x:=x*y) (by omega) (by omega),wr (by omega) (by omega),e]
  refine KW.nxt U U (fun H' g=>⟨i+1,by omega,by first | omega | (simp only;omega),⟨rfl,rfl,e2,rfl,rfl,congrArg (Value.int .i64) (inc64 (by omega)),trivial⟩,g⟩)
 ·obtain rfl:i=a.length:=by omega
  have h1:=dotN_in hp ea eb a.length
  refine KW.rem U U U U U U (h1.1) (by have:=hp.1;omega) ?_
  exact KW.ret U U U U (rfl)
theorem l03Dot (p:Int) (hp:PrimeP p) {a1 c1 a2 c2} {a b:List Int} (hl:a.length=b.length) (h12:a.length≤1048576) (ea:Elems p a) (eb:Elems p b) (ha:KI.Sl S H0 (.slice a1 a.length c1) a) (hb:KI.Sl S H0 (.slice a2 b.length c2) b):
  Spec Try.prog S H0 89 [.int .i64 p,.slice a1 a.length c1,.slice a2 b.length c2] (fun v=>v=.int .i64 (dotS p a b)):=by
 refine Spec.of1 Try.func89 rfl (by kernel_rfl) rfl (fun H _=>?_)
 refine KW.lp U U (fun i:Nat=>[(0,.int .i64 p),(1,.slice a1 a.length c1),(2,.slice a2 b.length c2),(7,.int .i64 (dotN a b i)),(8,.int .i64 i)]) (fun i=>i≤a.length) (fun i=>a.length-i) (0) (by omega) ⟨rfl,rfl,rfl,rfl,rfl,trivial⟩ (fun i hi bE n=>?_)
 refine KW.cnd U U (fun h=>?_) (fun h=>?_)
 ·refine KW.getI ha.up U U U U U U U U U U U U U U U U (by omega) (h) (fun x hx=>?_)
  refine KW.getI hb.up U U U U U U U U U U U U U U U U (by omega) (by omega) (fun y hy=>?_)
  have hx:a.getD i 0=x:=getD_of hx
  have hy:b.getD i 0=y:=getD_of hy
  have h1:=dotN_in hp ea eb i
  have h2:=mul_small hp.2.1 (elem_at ea hp.1 i) (elem_at eb hp.1 i)
  have e:dotN a b (i+1)=dotN a b i+a.getD i 0*b.getD i 0:=rfl
  rw[hx,hy] at h2 e
  have e2:Value.int .i64 (IntKind.i64.wrap (dotN a b i+IntKind.i64.wrap (x*y)))=.int .i64 (dotN a b (i+1)):=by
   rw[wr (x:=x*y) (by omega) (by omega),wr (by omega) (by omega),e]
  refine KW.nxt U U (fun H' g=>⟨i+1,by omega,by first | omega | (simp only;omega),⟨rfl,rfl,rfl,e2,congrArg (Value.int .i64) (inc64 (by omega)),trivial⟩,g⟩)
 ·obtain rfl:i=a.length:=by omega
  have h1:=dotN_in hp ea eb a.length
  refine KW.rem U U U U U U (h1.1) (by have:=hp.1;omega) ?_
  exact KW.ret U U U U (rfl)
def MkL (xs:List Int) (n:Nat) (v:Value) (H1:AH):Prop:=∃a c,v=.slice a xs.length c∧KI.Ml (New n H1.n) H1 (.slice a xs.length c) xs
theorem MkL.of {S0:Ids} {H0 H1:AH} {T:List Var} {n j id n0:Nat} {ty:TypeId} {xs:List Int} (g:Good S0 H0 T n H1) (hj:T[j]?=some (id,⟨ty,true,xs.map (Value.int .i64)⟩)) (hn:n0≤id):MkL xs n0 (.slice (some ⟨id,0,some 1⟩) xs.length xs.length) H1:=
 ⟨_,_,rfl,int_ml ⟨hn,(g.blk hj).2⟩ (g.blk hj).1 U U (Nat.le_refl _)⟩
theorem rowsHeld (h p c:Int) (x:Nat) (hx:x<4611686018427387904) {a1 c1} {v2:Option Addr} {n2 c2:Nat} {ow:List Int} (hO:B_Int64S ow) (hown:∀x∈ow,0≤x∧x≤h-1) (hh:h≤7) (ho:KI.Sl S H0 (.slice a1 ow.length c1) ow):
  SpecM Try.prog S H0 77 [.agg #[.int .i64 h,.slice a1 ow.length c1,.int .i64 p,.int .i64 c,.slice v2 n2 c2],.int .u64 (x:Int)] (MkL (rowsP (fun i=>x.testBit (ow.getD i 0).toNat) ow.length)):=by
 refine SpecM.of1 Try.func77 rfl (by kernel_rfl) rfl (fun H _=>?_)
 have hO':ow.length≤1048576:=hO
 refine KW.lit U U U U U U U U U U [] U U (fun v hv=>by simp at hv) rfl ?_
 refine KW.lpM U U (fun s:Nat × Nat=>[(1,.int .u64 (x:Int)),(5,.slice (some ⟨s.2,0,some 1⟩) (rowsP (fun i=>x.testBit (ow.getD i 0).toNat) s.1).length (rowsP (fun i=>x.testBit (ow.getD i 0).toNat) s.1).length),(10,.slice a1 ow.length c1),(11,.int .i64 ow.length),(12,.int .i64 s.1)]) (fun s=>Low H.n) (fun s=>H) (fun s=>[(H.n,⟨_,true,_⟩),(s.2,⟨_,true,(rowsP (fun i=>x.testBit (ow.getD i 0).toNat) s.1).map (Value.int .i64)⟩)]) (fun s=>s.1≤ow.length) (fun s=>ow.length-s.1) ((0,H.n+1)) (by simp) ⟨rfl,rfl,rfl,rfl,rfl,trivial⟩ U U (rfl) (fun s hi bE n=>?_)
 obtain⟨q,o⟩:=s
 simp only at hi
 have hq:(rowsP (fun i=>x.testBit (ow.getD i 0).toNat) q).length≤q:=rowsP_len _ q
 refine KW.cnd U U (fun k1=>?_) (fun k1=>?_)
 ·refine KW.getI ho.up U U U U U U U U U U U U U U U U (by omega) (k1) (fun y hy=>?_)
  have hy':ow[q]?=some y:=hy
  have hyb:=hown y (List.mem_of_getElem? hy')
  obtain⟨z,rfl⟩:∃z:Nat,y=z:=⟨y.toNat,by omega⟩
  have hyd:ow.getD q 0=z:=getD_of hy'
  have e:=rowsP_next (fun i=>x.testBit (ow.getD i 0).toNat) q
  simp only[hyd,Int.toNat_natCast] at e
  refine KW.callE U U U U U (has (x:=x) (h:=z) hx (by omega)) (fun _ _=>?_)
  refine KW.cndB U U (fun k2=>?_) (fun k2=>?_)
  ·rw[if_pos k2] at e
   refine KW.app1 (xs:=(rowsP (fun i=>x.testBit (ow.getD i 0).toNat) q).map (Value.int .i64)) (v:=.int .i64 q) 1 2 U U U U U U U U U U U U U U U U U U U U U U U (by simp) (by show(_+1)*8≤_;first | omega | (simp only;omega)) (by first | omega | (simp only;omega)) ?_
   refine KW.nxt U U (fun H' g=>⟨(q+1,_),by simp only;omega,by first | omega | (simp only;omega),⟨rfl,by simp only[e,List.length_append,List.length_singleton];rfl,rfl,rfl,congrArg (Value.int .i64) (inc64 (by omega)),trivial⟩,g.eqT (by simp only[e,List.map_append];rfl)⟩)
  ·rw[if_neg (by rw[k2];decide)] at e
   refine KW.nxt U U (fun H' g=>⟨(q+1,o),by simp only;omega,by first | omega | (simp only;omega),⟨rfl,by simp only[e];rfl,rfl,rfl,congrArg (Value.int .i64) (inc64 (by omega)),trivial⟩,g.eqT (by simp only[e])⟩)
 ·obtain rfl:q=ow.length:=by simp only at k1;omega
  refine KW.retM1 U U U U (fun H1 g=>MkL.of g (j:=1) rfl (g.ge (H1:=H) (j:=1) rfl))
theorem l00Has (n0:Int) {a c} {xs:List Int} (hl:xs.length≤1048576) (hs:KI.Sl S H0 (.slice a xs.length c) xs):Spec Try.prog S H0 206 [.slice a xs.length c,.int .i64 n0] (fun v=>v=.bool (decide (n0∈xs))):=by
 refine Spec.of1 Try.func206 rfl (by kernel_rfl) rfl (fun H _=>?_)
 refine KW.lp U U (fun i:Nat=>[(0,.slice a xs.length c),(1,.int .i64 n0),(5,.int .i64 i)]) (fun i=>i≤xs.length∧∀j,j<i→∀x,xs[j]?=some x→x≠n0) (fun i=>xs.length-i) (0) (⟨by omega,fun j h=>absurd h (by omega)⟩) ⟨rfl,rfl,rfl,trivial⟩ (fun i hi bE n=>?_)
 obtain⟨hi,hj⟩:=hi
 refine KW.cnd U U (fun k1=>?_) (fun k1=>?_)
 ·refine KW.getI hs.up U U U U U U U U U U U U U U U U (by omega) (k1) (fun y hy=>?_)
  have hy:xs[i]?=some y:=hy
  refine KW.cndB U U (fun k2=>?_) (fun k2=>?_)
  ·have k2:y=n0:=by simpa using k2
   exact KW.ret U U U U (by rw[← k2,decide_eq_true (List.mem_of_getElem? hy)];rfl)
  ·have k2:y≠n0:=by simpa using k2
   refine KW.nxt U U (fun H' g=>⟨i+1,⟨by omega,upto hj (fun z hz=>by rw[hy] at hz;cases hz;exact k2)⟩,by first | omega | (simp only;omega),⟨rfl,rfl,congrArg (Value.int .i64) (inc64 (by omega)),trivial⟩,g⟩)
 ·exact KW.ret U U U U (by rw[decide_eq_false (fun hm=>all_of (fun j hjl=>hj j (by omega)) n0 hm rfl)];rfl)
theorem l04Held (h p c:Int) {id k:Nat} {a1 c1 a c2} {ow g0:List Int} {v2:Value} (hO:B_Int64S ow) (hG:g0.length≤1048576) (hv:Has3 S H0 id k [.int .i64 h,.slice a1 ow.length c1,.int .i64 p,.int .i64 c,v2]) (ho:KI.Sl S H0 (.slice a1 ow.length c1) ow) (hg:KI.Sl S H0 (.slice a g0.length c2) g0):
  SpecM Try.prog S H0 159 [.pointer (some ⟨id,k,none⟩),.slice a g0.length c2] (MkL (rowsP (fun i=>decide (ow.getD i 0∈g0)) ow.length)):=by
 refine SpecM.of1 Try.func159 rfl (by kernel_rfl) rfl (fun H _=>?_)
 have hO':ow.length≤1048576:=hO
 have hv:=hv.up (S':=Low H.n) (H':=H)
 refine KW.lit U U U U U U U U U U [] U U (fun v hv=>by simp at hv) rfl ?_
 refine KW.lpM U U (fun s:Nat × Nat=>[(0,.pointer (some ⟨id,k,none⟩)),(1,.slice a g0.length c2),(5,.slice (some ⟨s.2,0,some 1⟩) (rowsP (fun i=>decide (ow.getD i 0∈g0)) s.1).length (rowsP (fun i=>decide (ow.getD i 0∈g0)) s.1).length),(6,.int .i64 s.1)]) (fun s=>Low H.n) (fun s=>H) (fun s=>[(s.2,⟨_,true,(rowsP (fun i=>decide (ow.getD i 0∈g0)) s.1).map (Value.int .i64)⟩)]) (fun s=>s.1≤ow.length) (fun s=>ow.length-s.1) ((0,H.n)) (by simp) ⟨rfl,rfl,rfl,rfl,trivial⟩ U U (rfl) (fun s hi bE n=>?_)
 obtain⟨q,o⟩:=s
 simp only at hi
 have hq:(rowsP (fun i=>decide (ow.getD i 0∈g0)) q).length≤q:=rowsP_len _ q
 refine KW.ldF 1 hv U U U U U U U U U ?_
 refine KW.cnd U U (fun k1=>?_) (fun k1=>?_)
 ·refine KW.ldF 1 hv U U U U U U U U U ?_
  refine KW.getI ho.up U U U U U U U U U U U U U U U U (by omega) (k1) (fun y hy=>?_)
  have hy':ow[q]?=some y:=hy
  have hyd:ow.getD q 0=y:=getD_of hy'
  have e:=rowsP_next (fun i=>decide (ow.getD i 0∈g0)) q
  simp only[hyd] at e
  refine KW.callE U U U U U (l00Has y hG hg.up) (fun _ _=>?_)
  refine KW.cndB U U (fun k2=>?_) (fun k2=>?_)
  ·rw[if_pos k2] at e
   refine KW.app1 (xs:=(rowsP (fun i=>decide (ow.getD i 0∈g0)) q).map (Value.int .i64)) (v:=.int .i64 q) 0 1 U U U U U U U U U U U U U U U U U U U U U U U (by simp) (by show(_+1)*8≤_;first | omega | (simp only;omega)) (by first | omega | (simp only;omega)) ?_
   refine KW.nxt U U (fun H' g=>⟨(q+1,_),by simp only;omega,by first | omega | (simp only;omega),⟨rfl,rfl,by simp only[e,List.length_append,List.length_singleton];rfl,congrArg (Value.int .i64) (inc64 (by omega)),trivial⟩,g.eqT (by simp only[e,List.map_append];rfl)⟩)
  ·rw[if_neg (by rw[k2];decide)] at e
   refine KW.nxt U U (fun H' g=>⟨(q+1,o),by simp only;omega,by first | omega | (simp only;omega),⟨rfl,rfl,by simp only[e];rfl,congrArg (Value.int .i64) (inc64 (by omega)),trivial⟩,g.eqT (by simp only[e])⟩)
 ·obtain rfl:q=ow.length:=by simp only at k1;omega
  refine KW.retM1 U U U U (fun H1 g=>MkL.of g (j:=0) rfl (g.ge (H1:=H) (j:=0) rfl))
end
theorem elems_cons {p s:Int} {bl:List Int} (hs:0≤s∧s≤p-1) (hb:Elems p bl):Elems p (s :: bl):=fun x hx=>by
 rcases List.mem_cons.1 hx with rfl | h
 ·exact hs
 ·exact hb x h
section
variable {S:Ids} {H0:AH}
theorem sharesOf (h p c s:Int) {a1 c1 a2 c2 a3 c3} {ow bl:List Int} {rows:List (List Int)} (hO:B_Int64S ow) (hB:B_Int64SS rows) (hk:OkSch h ow p c rows) (hs:0≤s∧s≤p-1) (hbl:(bl.length:Int)=c-1) (hbe:Elems p bl)
  (h1:KI.Sl S H0 (.slice a1 ow.length c1) ow) (h2:KI.sl.Sl S H0 (.slice a2 rows.length c2) rows) (h3:KI.Sl S H0 (.slice a3 bl.length c3) bl):
  SpecM Try.prog S H0 21 [.agg #[.int .i64 h,.slice a1 ow.length c1,.int .i64 p,.int .i64 c,.slice a2 rows.length c2],.int .i64 s,.slice a3 bl.length c3] (fun n v H1=>∃v',v=.tuple #[v',.int .i64 0]∧MkL (shares p rows (s :: bl)) n v' H1):=by
 refine SpecM.of1 Try.func21 rfl (by kernel_rfl) rfl (fun H _=>?_)
 have hp:I64 p:=by unfold I64;have:=hk.mat.pr.1;have:=hk.mat.pr.2.1;omega
 have hc12:=hk.mat.c1
 have hc1:=hk.c1
 have hrl:=hk.mat.len
 have ec:IntKind.i64.wrap (c-1)=c-1:=wr (by omega) (by omega)
 refine KW.callE U U U U U (validScheme h p c hp hO hB h1.up h2.up) (fun _ _=>?_)
 rw[tv_true hk]
 refine KW.cF U U (by first | (simp;done) | decide) ?_
 refine KW.lit U U U U U U U U U U [.int .i64 s] U U (fun v hv=>by simp at hv;subst hv;rfl) rfl ?_
 refine KW.callV1 U U U U U (fun H1 g _=>areElements p hp (xs:=[s]) (by simp) (g.ints (j:=1) U U (by simp))) (fun _ _=>?_)
 rw[tv_true (p:=PrimeP p∧Elems p [s]) ⟨hk.mat.pr,fun x hx=>by rw[List.mem_singleton.1 hx];exact hs⟩]
 refine KW.tF U U (by first | (simp;done) | decide) ?_
 refine KW.callE U U U U U (areElements p hp (by omega) h3.up) (fun _ _=>?_)
 rw[tv_true (p:=PrimeP p∧Elems p bl) ⟨hk.mat.pr,hbe⟩]
 refine KW.tF U U (by first | (simp;done) | decide) ?_
 refine KW.cndB U U (fun k1=>?_) (fun k1=>?_)
 ·rw[ec,hbl] at k1;simp at k1
 refine KW.lit U U U U U U U U U U [.int .i64 s] U U (fun v hv=>by simp at hv;subst hv;rfl) rfl ?_
 refine KW.appV 2 U U U U U U U U U U (fun H1 g=>acells_I h3.up g) (by simp) (by simp) (fun v hv=>by obtain⟨_,_,rfl⟩:=List.mem_map.1 hv;rfl) (by show(_+_)*8≤_;simp only[List.length_cons,List.length_nil];omega) (by simp only[List.length_cons,List.length_nil];omega) (show 1+bl.length=(s :: bl).length from by simp;omega) (fun oa _ _=>?_)
 refine KW.lit U U U U U U U U U U [] U U (fun v hv=>by simp at hv) rfl ?_
 refine KW.fact (p:=¬oa<H.n) (fun _ g=>(g.vars 2 _ rfl).2.2) (fun hoa=>?_)
 refine KW.lpM U U (fun q:Nat × Nat=>[(3,.pointer (some ⟨H.n,0,some 0⟩)),(8,.slice (some ⟨oa,0,some 1⟩) (s :: bl).length (s :: bl).length),(9,.slice (some ⟨q.2,0,some 1⟩) (shares p (rows.take q.1) (s :: bl)).length (shares p (rows.take q.1) (s :: bl)).length),(46,.slice a2 rows.length c2),(47,.int .i64 rows.length),(48,.int .i64 q.1)]) (fun q=>Low H.n) (fun q=>H) (fun q=>[_,_,(oa,⟨_,true,(s :: bl).map (Value.int .i64)⟩),(q.2,⟨_,true,(shares p (rows.take q.1) (s :: bl)).map (Value.int .i64)⟩)]) (fun q=>q.1≤rows.length) (fun q=>rows.length-q.1) ((0,_)) (by simp) ⟨rfl,rfl,rfl,rfl,rfl,rfl,trivial⟩ U U (rfl) (fun q hi bE n=>?_)
 obtain⟨q,o⟩:=q
 simp only at hi
 have hq:(shares p (rows.take q) (s :: bl)).length≤q:=by unfold shares;rw[List.length_map,List.length_take];omega
 refine KW.cnd U U (fun k2=>?_) (fun k2=>?_)
 ·refine KW.getL h2.up U U U U U U U U U U U U U U U U (by omega) (k2) (fun y a' m' hy hsy=>?_)
  have hy:rows[q]?=some y:=hy
  have hym:=hk.mat.row y (List.mem_of_getElem? hy)
  refine KW.callV1 U U U U U (fun H1 g _=>dot p hk.mat.pr (by simp;omega) (by omega) hym.2 (elems_cons hs hbe) hsy.up (g.ints (j:=2) U U (Nat.le_refl _))) (fun _ _=>?_)
  have e:shares p (rows.take (q+1)) (s :: bl)=shares p (rows.take q) (s :: bl)++[dotS p y (s :: bl)]:=map_take_succ _ hy
  refine KW.app1 (xs:=(shares p (rows.take q) (s :: bl)).map (Value.int .i64)) (v:=.int .i64 (dotS p y (s :: bl))) 3 4 U U U U U U U U U U U U U U U U U U U U U U U (by simp) (by show(_+1)*8≤_;first | omega | (simp only;omega)) (by first | omega | (simp only;omega)) ?_
  refine KW.nxt U U (fun H' g=>⟨(q+1,_),by simp only;omega,by first | omega | (simp only;omega),⟨rfl,rfl,by simp only[e,List.length_append,List.length_singleton];rfl,rfl,rfl,congrArg (Value.int .i64) (inc64 (by omega)),trivial⟩,g.eqT (by simp only[e,List.map_append];rfl)⟩)
 ·obtain rfl:q=rows.length:=by simp only at k2;omega
  rw[List.take_of_length_le (Nat.le_refl _)]
  refine KW.retM1 U U U U (fun H1 g=>⟨_,rfl,MkL.of g (j:=3) rfl (g.ge (H1:=H) (j:=3) rfl)⟩)
end
def valsOf (p:Int) (rows:List (List Int)) (ow:List Int) (s:Int) (bl:List Int) (j:Int):List Int:=(rowsOf ow j).map fun i=>(shares p rows (s :: bl)).getD i.toNat 0
theorem rows_bit {ow:List Int} (h:∀x∈ow,0≤x) (j:Nat):rowsP (fun i=>(2 ^ j:Nat).testBit (ow.getD i 0).toNat) ow.length=rowsOf ow j:=rowsP_congr fun i hi=>by
 have h1:0≤ow.getD i 0:=by rw[List.getD_eq_getElem?_getD,List.getElem?_eq_getElem hi];exact h _ (List.getElem_mem hi)
 rw[Nat.testBit_two_pow]
 exact decide_eq_decide.2 ⟨fun h=>by omega,fun h=>by omega⟩
theorem dotS_in {p:Int} {a b:List Int} (hp:PrimeP p):0≤dotS p a b∧dotS p a b≤p-1:=by
 unfold dotS
 have h1:=hp.1
 have:=Int.emod_nonneg (dotN a b a.length) (show p≠0 by omega)
 have:=Int.emod_lt_of_pos (dotN a b a.length) (show 0<p by omega)
 omega
theorem shares_in {p:Int} {rows:List (List Int)} {all:List Int} (hp:PrimeP p):Elems p (shares p rows all):=fun x hx=>by
 obtain⟨r,_,rfl⟩:=List.mem_map.1 hx
 exact dotS_in hp
theorem vals_in {p s j:Int} {rows:List (List Int)} {ow bl:List Int} (hp:PrimeP p):Elems p (valsOf p rows ow s bl j):=fun x hx=>by
 obtain⟨i,_,rfl⟩:=List.mem_map.1 hx
 exact elem_at (shares_in hp) hp.1 _
theorem vals_len {p s j:Int} {rows:List (List Int)} {ow bl:List Int}:(valsOf p rows ow s bl j).length=(rowsOf ow j).length:=by simp[valsOf]
def tagAt (p:Int) (kk:List (List Int)) (R vals:List Int) (k:Nat):Int:=((kk.getD (R.getD k 0).toNat []).getD 0 0*vals.getD k 0+(kk.getD (R.getD k 0).toNat []).getD 1 0)%p
def tagsOf (p:Int) (kk:List (List Int)) (R vals:List Int):List Int:=(List.range R.length).map (tagAt p kk R vals)
theorem range_map_succ {α:Type} (f:Nat→α) (n:Nat):(List.range (n+1)).map f=(List.range n).map f++[f n]:=by rw[List.range_succ,List.map_append];rfl
section
variable {S:Ids} {H0:AH}
theorem values (h p c s:Int) (e j:Nat) {a1 c1 a2 c2 a3 c3} {a4:Option Addr} {n4 c4:Nat} {ow bl:List Int} {rows bs:List (List Int)} (hO:B_Int64S ow) (hB:B_Int64SS rows) (hk:OkSch h ow p c rows) (hs:0≤s∧s≤p-1) (he:bs[e]?=some bl) (hbl:(bl.length:Int)=c-1) (hbe:Elems p bl) (hj:j≤6)
  (h1:KI.Sl S H0 (.slice a1 ow.length c1) ow) (h2:KI.sl.Sl S H0 (.slice a2 rows.length c2) rows) (h3:KI.sl.Sl S H0 (.slice a3 bs.length c3) bs):
  SpecM Try.prog S H0 220 [.agg #[.int .i64 h,.slice a1 ow.length c1,.int .i64 p,.int .i64 c,.slice a2 rows.length c2,.int .i64 s,.slice a3 bs.length c3,.slice a4 n4 c4],.int .i64 e,.int .i64 j] (MkL (valsOf p rows ow s bl j)):=by
 refine SpecM.of1 Try.func220 rfl (by kernel_rfl) rfl (fun H _=>?_)
 have hrl:=hk.mat.len
 have hol:=hk.len
 have hel:=(List.getElem?_eq_some_iff.1 he).1
 refine KW.getL h3.up U U U U U U U U U U U U U U U U (by omega) (by omega) (fun y a' m' hy hsy=>?_)
 have hy:bs[e]?=some y:=hy
 rw[he] at hy
 cases hy
 refine KW.callN1 U U U U U (sharesOf h p c s hO hB hk hs hbl hbe h1.up h2.up hsy) (fun v HA SA mA _ _ hv=>?_)
 obtain⟨v',rfl,a5,c5,rfl,hA⟩:=hv
 refine KW.lit U U U U U U U U U U [] U U (fun v hv=>by simp at hv) rfl ?_
 refine KW.shlU U U U U U U j rfl (by omega) ?_
 have hp:=small_pow (m:=j) (by omega)
 refine KW.callN1 U U U U U (rowsHeld h p c (2 ^ j) (by omega) hO hk.own hk.h7 h1.up) (fun v HR SR mR _ _ hv=>?_)
 obtain⟨a6,c6,rfl,hR⟩:=hv
 rw[rows_bit (fun x hx=>(hk.own x hx).1)] at hR ⊢
 have hRl:(rowsOf ow j).length≤ow.length:=rowsP_len _ _
 have hRm:∀x∈rowsOf ow j,0≤x∧x<ow.length:=fun x hx=>rowsP_mem hx
 have hval:valsOf p rows ow s bl j=(rowsOf ow j).map fun i=>(shares p rows (s :: bl)).getD i.toNat 0:=rfl
 rw[hval]
 have hsl:(shares p rows (s :: bl)).length=rows.length:=by simp[shares]
 obtain⟨R,hRe⟩:∃R,rowsOf ow j=R:=⟨_,rfl⟩
 rw[hRe] at hR hRl hRm ⊢
 obtain⟨A,hAe⟩:∃A,shares p rows (s :: bl)=A:=⟨_,rfl⟩
 rw[hAe] at hA hsl ⊢
 refine KW.lpM U U (fun q:Nat × Nat=>[(7,.slice a5 A.length c5),(9,.slice (some ⟨q.2,0,some 1⟩) ((R.take q.1).map fun i=>A.getD i.toNat 0).length ((R.take q.1).map fun i=>A.getD i.toNat 0).length),(30,.slice a6 R.length c6),(31,.int .i64 R.length),(32,.int .i64 q.1)]) (fun q=>SR) (fun q=>HR) (fun q=>[_,(q.2,⟨_,true,((R.take q.1).map fun i=>A.getD i.toNat 0).map (Value.int .i64)⟩)]) (fun q=>q.1≤R.length) (fun q=>R.length-q.1) ((0,_)) (by simp) ⟨rfl,rfl,rfl,rfl,rfl,trivial⟩ U U (rfl) (fun q hi bE n=>?_)
 obtain⟨q,o⟩:=q
 simp only at hi
 have hq:((R.take q).map fun i=>A.getD i.toNat 0).length≤q:=by rw[List.length_map,List.length_take];omega
 refine KW.cnd U U (fun k2=>?_) (fun k2=>?_)
 ·refine KW.getI hR.ups U U U U U U U U U U U U U U U U (by omega) (k2) (fun x hx=>?_)
  have hx:R[q]?=some x:=hx
  have hxm:=hRm x (List.mem_of_getElem? hx)
  refine KW.getI hA.ups U U U U U U U U U U U U U U U U (by omega) (by omega) (fun y hy=>?_)
  have hy:A.getD x.toNat 0=y:=getD_of hy
  have e1:=map_take_succ (fun i:Int=>A.getD i.toNat 0) hx
  rw[hy] at e1
  refine KW.app1 (xs:=((R.take q).map fun i=>A.getD i.toNat 0).map (Value.int .i64)) (v:=.int .i64 y) 1 2 U U U U U U U U U U U U U U U U U U U U U U U (by simp) (by show(_+1)*8≤_;first | omega | (simp only;omega)) (by first | omega | (simp only;omega)) ?_
  refine KW.nxt U U (fun H' g=>⟨(q+1,_),by simp only;omega,by first | omega | (simp only;omega),⟨rfl,by simp only[e1,List.length_append,List.length_singleton];rfl,rfl,rfl,congrArg (Value.int .i64) (inc64 (by omega)),trivial⟩,g.eqT (by simp only[e1,List.map_append];rfl)⟩)
 ·obtain rfl:q=R.length:=by simp only at k2;omega
  rw[List.take_of_length_le (Nat.le_refl _)]
  refine KW.retM1 U U U U (fun H1 g=>MkL.of g (j:=1) rfl (g.ge (H1:=H) (j:=1) rfl))
theorem tag_val {p k0 k1 v:Int} (hp:PrimeP p) (h0:0≤k0∧k0≤p-1) (h1:0≤k1∧k1≤p-1) (hv:0≤v∧v≤p-1):IntKind.i64.wrap (IntKind.i64.wrap (k0*v)+k1)=k0*v+k1∧0≤k0*v+k1:=by
 have h2:=mul_small hp.2.1 h0 hv
 have h3:=hp.2.1
 rw[wr (x:=k0*v) (by omega) (by omega),wr (by omega) (by omega)]
 exact⟨rfl,by omega⟩
theorem tags (h p c s:Int) (e j:Nat) {a1 c1 a2 c2 a4 c4 a5 c5} {a3:Option Addr} {n3 c3:Nat} {ow vals:List Int} {rows kk:List (List Int)} {ks:List (List (List Int))} (hO:B_Int64S ow) (hBk:B_Int64SSS ks) (hk:OkSch h ow p c rows) (he:ks[e]?=some kk) (hkk:KeysOk p rows.length kk) (hj:j≤6) (hvl:vals.length=(rowsOf ow j).length) (hve:Elems p vals)
  (h1:KI.Sl S H0 (.slice a1 ow.length c1) ow) (h4:KI.sl.sl.Sl S H0 (.slice a4 ks.length c4) ks) (h5:KI.Sl S H0 (.slice a5 vals.length c5) vals):
  SpecM Try.prog S H0 222 [.agg #[.int .i64 h,.slice a1 ow.length c1,.int .i64 p,.int .i64 c,.slice a2 rows.length c2,.int .i64 s,.slice a3 n3 c3,.slice a4 ks.length c4],.int .i64 e,.int .i64 j,.slice a5 vals.length c5] (MkL (tagsOf p kk (rowsOf ow j) vals)):=by
 refine SpecM.of1 Try.func222 rfl (by kernel_rfl) rfl (fun H _=>?_)
 have hrl:=hk.mat.len
 have hol:=hk.len
 have hel:=(List.getElem?_eq_some_iff.1 he).1
 have hpr:=hk.mat.pr
 refine KW.lit U U U U U U U U U U [] U U (fun v hv=>by simp at hv) rfl ?_
 refine KW.shlU U U U U U U j rfl (by omega) ?_
 have hp:=small_pow (m:=j) (by omega)
 refine KW.callN1 U U U U U (rowsHeld h p c (2 ^ j) (by omega) hO hk.own hk.h7 h1.up) (fun v HR SR mR _ _ hv=>?_)
 obtain⟨a6,c6,rfl,hR⟩:=hv
 rw[rows_bit (fun x hx=>(hk.own x hx).1)] at hR ⊢
 have hRl:(rowsOf ow j).length≤ow.length:=rowsP_len _ _
 have hRm:∀x∈rowsOf ow j,0≤x∧x<ow.length:=fun x hx=>rowsP_mem hx
 obtain⟨R,hRe⟩:∃R,rowsOf ow j=R:=⟨_,rfl⟩
 rw[hRe] at hR hRl hRm hvl ⊢
 refine KW.lpM U U (fun q:Nat × Nat=>[(1,.int .i64 e),(3,.slice a5 vals.length c5),(4,.pointer (some ⟨H.n,0,some 0⟩)),(9,.slice (some ⟨q.2,0,some 1⟩) ((List.range q.1).map (tagAt p kk R vals)).length ((List.range q.1).map (tagAt p kk R vals)).length),(18,.slice a6 R.length c6),(19,.int .i64 R.length),(20,.int .i64 q.1)]) (fun q=>SR) (fun q=>HR) (fun q=>[(H.n,⟨54,true,[.int .i64 h,.slice a1 ow.length c1,.int .i64 p,.int .i64 c,.slice a2 rows.length c2,.int .i64 s,.slice a3 n3 c3,.slice a4 ks.length c4]⟩),(q.2,⟨_,true,((List.range q.1).map (tagAt p kk R vals)).map (Value.int .i64)⟩)]) (fun q=>q.1≤R.length) (fun q=>R.length-q.1) ((0,_)) (by simp) ⟨rfl,rfl,rfl,rfl,rfl,rfl,rfl,trivial⟩ U U (rfl) (fun q hi bE n=>?_)
 obtain⟨q,o⟩:=q
 simp only at hi
 have hq:((List.range q).map (tagAt p kk R vals)).length≤q:=by simp
 refine KW.cnd U U (fun k2=>?_) (fun k2=>?_)
 ·refine KW.getI hR.ups U U U U U U U U U U U U U U U U (by omega) (k2) (fun x hx=>?_)
  have hx:R[q]?=some x:=hx
  have hxm:=hRm x (List.mem_of_getElem? hx)
  refine KW.getL h4.up U U U U U U U U U U U U U U U U (by omega) (by omega) (fun kk' b1 d1 hk1 hs1=>?_)
  have hk1:ks[e]?=some kk':=hk1
  rw[he] at hk1
  cases hk1
  have hkl:=hkk.1
  refine KW.getL hs1 U U U U U U U U U U U U U U U U (by omega) (by omega) (fun ky b2 d2 hk2 hs2=>?_)
  have hk2:kk[x.toNat]?=some ky:=hk2
  have hky:=hkk.2 ky (List.mem_of_getElem? hk2)
  have hkyl:=hky.1
  refine KW.getI hs2 U U U U U U U U U U U U U U U U (by omega) (by omega) (fun k0 hk0=>?_)
  refine KW.getI h5.up U U U U U U U U U U U U U U U U (by omega) (by omega) (fun v hv=>?_)
  refine KW.getI hs2 U U U U U U U U U U U U U U U U (by omega) (by omega) (fun k1 hk1'=>?_)
  have ek0:ky.getD 0 0=k0:=getD_of hk0
  have ek1:ky.getD 1 0=k1:=getD_of hk1'
  have ev:vals.getD q 0=v:=getD_of hv
  have eR:R.getD q 0=x:=getD_of hx
  have ekk:kk.getD x.toNat []=ky:=by rw[List.getD_eq_getElem?_getD,hk2];rfl
  have et:tagAt p kk R vals q=(k0*v+k1)%p:=by unfold tagAt;rw[eR,ekk,ek0,ek1,ev]
  obtain⟨ew,e0⟩:=tag_val hpr (ek0 ▸ elem_at hky.2 hpr.1 0) (ek1 ▸ elem_at hky.2 hpr.1 1) (ev ▸ elem_at hve hpr.1 q)
  refine KW.rem U U U U U U (by rw[ew];exact e0) (by have:=hpr.1;omega) ?_
  rw[ew,← et]
  have e1:=range_map_succ (tagAt p kk R vals) q
  refine KW.app1 (xs:=((List.range q).map (tagAt p kk R vals)).map (Value.int .i64)) (v:=.int .i64 (tagAt p kk R vals q)) 1 2 U U U U U U U U U U U U U U U U U U U U U U U (by simp) (by show(_+1)*8≤_;first | omega | (simp only;omega)) (by first | omega | (simp only;omega)) ?_
  refine KW.nxt U U (fun H' g=>⟨(q+1,_),by simp only;omega,by first | omega | (simp only;omega),⟨rfl,rfl,rfl,by simp only[e1,List.length_append,List.length_singleton];rfl,rfl,rfl,congrArg (Value.int .i64) (inc64 (by omega)),trivial⟩,g.eqT (by simp only[e1,List.map_append];rfl)⟩)
 ·obtain rfl:q=R.length:=by simp only at k2;omega
  refine KW.retM1 U U U U (fun H1 g=>MkL.of g (j:=1) rfl (g.ge (H1:=H) (j:=1) rfl))
end
noncomputable def codeD (x:T_Deal) (e j:Int):Int:=if tv (DealOk x)=true then(if(0≤e∧e≤(x.2.2.1.length:Int)-1)∧(0≤j∧j≤x.1.1-1) then 0 else 2) else 1
abbrev blD (x:T_Deal) (e:Int):List Int:=x.2.2.1.getD e.toNat []
abbrev kkD (x:T_Deal) (e:Int):List (List Int):=x.2.2.2.getD e.toNat []
structure DealAt (x:T_Deal) (e j:Int) (E J:Nat):Prop where
 ee:e=E
 jj:j=J
 j6:J≤6
 sch:OkSch x.1.1 x.1.2.1 x.1.2.2.1 x.1.2.2.2.1 x.1.2.2.2.2
 sec:0≤x.2.1∧x.2.1≤x.1.2.2.1-1
 hb:x.2.2.1[E]?=some (blD x e)
 hk:x.2.2.2[E]?=some (kkD x e)
 bl:((blD x e).length:Int)=x.1.2.2.2.1-1∧Elems x.1.2.2.1 (blD x e)
 key:KeysOk x.1.2.2.1 x.1.2.2.2.2.length (kkD x e)
theorem codeD_ok {x:T_Deal} {e j:Int} (h:codeD x e j=0):∃E J,DealAt x e j E J:=by
 unfold codeD at h
 split at h
 ·rename_i hd
  have hd:DealOk x:=tv_iff.1 hd
  split at h
  ·rename_i hr
   have hbl:=hd.bl
   have hkl:=hd.kl
   have h7:=hd.sch.h7
   have h1:x.2.2.1[e.toNat]?=some (blD x e):=by
    show _=some (x.2.2.1.getD e.toNat [])
    rw[List.getD_eq_getElem?_getD,List.getElem?_eq_getElem (by omega)];rfl
   have h2:x.2.2.2[e.toNat]?=some (kkD x e):=by
    show _=some (x.2.2.2.getD e.toNat [])
    rw[List.getD_eq_getElem?_getD,List.getElem?_eq_getElem (by omega)];rfl
   have h3:=hd.bk _ _ _ h1 h2
   exact⟨e.toNat,j.toNat,by omega,by omega,by omega,hd.sch,hd.sec,h1,h2,h3.1,h3.2⟩
  ·cases h
 ·cases h
def valsD (x:T_Deal) (e j:Int):List Int:=valsOf x.1.2.2.1 x.1.2.2.2.2 x.1.2.1 x.2.1 (blD x e) j
def tagsD (x:T_Deal) (e j:Int) (vals:List Int):List Int:=tagsOf x.1.2.2.1 (kkD x e) (rowsOf x.1.2.1 j) vals
def lieOf (p:Int) (vals:List Int) (lie:Int):List Int:=match vals with
 | []=>[]
 | v :: vs=>((v+lie)%p) :: vs
theorem lie_len {p:Int} {vals:List Int} {lie:Int}:(lieOf p vals lie).length=vals.length:=by cases vals<;>rfl
theorem lie_in {p:Int} {vals:List Int} {lie:Int} (hp:PrimeP p) (h:Elems p vals):Elems p (lieOf p vals lie):=fun x hx=>by
 cases vals with
 | nil=>exact h x hx
 | cons v vs=>
  rcases List.mem_cons.1 hx with rfl | hx
  ·have h1:=hp.1
   have:=Int.emod_nonneg (v+lie) (show p≠0 by omega)
   have:=Int.emod_lt_of_pos (v+lie) (show 0<p by omega)
   omega
  ·exact h x (List.mem_cons_of_mem _ hx)
section
variable {S:Ids} {H0:AH}
def MkLC (xs:List Int) (code:Int) (n:Nat) (v:Value) (H1:AH):Prop:=∃a c,v=.tuple #[.slice a xs.length c,.int .i64 code]∧M_Int64S.R (New n H1.n) H1 xs [.slice a xs.length c]
theorem MkLC.nil {code:Int} {n:Nat} {H1:AH} {v:Value} (hv:v=.tuple #[.slice none 0 0,.int .i64 code]):MkLC [] code n v H1:=⟨none,0,hv,ml1' (.inl ⟨rfl,_,_,rfl,fun _=>rfl⟩)⟩
theorem MkLC.nil' {code:Int} {n id:Nat} {H1:AH} {v:Value} (hv:v=.tuple #[.slice (some ⟨id,0,some 1⟩) 0 0,.int .i64 code]):MkLC [] code n v H1:=⟨_,0,hv,ml1' (.inl ⟨rfl,_,_,rfl,fun h=>by cases h⟩)⟩
theorem Good.made {S0:Ids} {H0 H1 H2:AH} {T:List Var} {n lo m:Nat} {xs:List Int} {a:Option Addr} {c:Nat} (g:Good S0 H0 T n H2) [o:On (New m H1.n) H1 S0 H0] (hm:lo≤m) (h:KI.Ml (New m H1.n) H1 (.slice a xs.length c) xs):KI.Ml (New lo H2.n) H2 (.slice a xs.length c) xs:=
 Kn.Ml.st h (g.out (fun id hid=>by have:=hid.1;omega)).st
end
section
variable {S:Ids} {H0:AH}
theorem l00Own {a c} {xs:List Int} (hl:xs.length≤1048576) (hs:KI.Sl S H0 (.slice a xs.length c) xs):SpecM Try.prog S H0 160 [.slice a xs.length c] (MkL xs):=by
 refine SpecM.of1 Try.func160 rfl (by kernel_rfl) rfl (fun H _=>?_)
 refine KW.lit U U U U U U U U U U [] U U (fun v hv=>by simp at hv) rfl ?_
 refine KW.appV 0 U U U U U U U U U U (fun H1 g=>acells_I hs.up g) (by simp) (by simp) (fun v hv=>by obtain⟨_,_,rfl⟩:=List.mem_map.1 hv;rfl) (by show(_+_)*8≤_;simp only[List.length_cons,List.length_nil];omega) (by simp only[List.length_cons,List.length_nil];omega) (show 0+xs.length=xs.length from by omega) (fun oa _ _=>?_)
 refine KW.retM1 U U U U (fun H1 g=>MkL.of g (j:=0) rfl (g.ge (H1:=H) (j:=0) rfl))
theorem cloneI {a c} {xs:List Int} (hl:xs.length≤1048576) (hs:KI.Sl S H0 (.slice a xs.length c) xs):SpecM Try.prog S H0 64 [.slice a xs.length c] (MkL xs):=by
 refine SpecM.of1 Try.func64 rfl (by kernel_rfl) rfl (fun H _=>?_)
 refine KW.cndB U U (fun h=>?_) (fun h=>?_)
 ·have ha:a=none:=by cases a with
   | none=>rfl
   | some a=>simp at h
  have hx:xs=[]:=by
   rcases hs with⟨hx,_⟩ | ⟨id,k,c1,b,h1,_⟩
   ·exact hx
   ·rw[ha] at h1;cases h1
  subst hx
  refine KW.retM1 U U U U (fun H1 g=>⟨none,0,rfl,.inl ⟨rfl,_,_,rfl,fun _=>rfl⟩⟩)
 ·refine KW.lit U U U U U U U U U U [] U U (fun v hv=>by simp at hv) rfl ?_
  refine KW.appV 0 U U U U U U U U U U (fun H1 g=>acells_I hs.up g) (by simp) (by simp) (fun v hv=>by obtain⟨_,_,rfl⟩:=List.mem_map.1 hv;rfl) (by show(_+_)*8≤_;simp only[List.length_cons,List.length_nil];omega) (by simp only[List.length_cons,List.length_nil];omega) (show 0+xs.length=xs.length from by omega) (fun oa _ _=>?_)
  refine KW.retM1 U U U U (fun H1 g=>MkL.of g (j:=0) rfl (g.ge (H1:=H) (j:=0) rfl))
end
abbrev T_Deed:Type:=Int × Int × Int
abbrev T_Purse:Type:=Int × List Int × List Int
abbrev T_Seat:Type:=T_Purse × T_Purse × Int
abbrev T_Packet:Type:=Bool × Int × Int × List Int × List Int
structure Cer where
 ep:Int
 seats:List T_Seat
 oe:Int
 got:List (List Int)
 has:List Bool
 named:List Bool
 wire:List T_Packet
def purse0:T_Purse:=(-1,[],[])
def seat0:T_Seat:=(purse0,purse0,0)
def cer0 (n:Nat):Cer:=⟨0,List.replicate n seat0,-1,List.replicate n [],List.replicate n false,List.replicate n false,[]⟩
abbrev Cer.seat (c:Cer) (h:Int):T_Seat:=c.seats.getD h.toNat seat0
def fresh (c:Cer) (e:Int):Cer:=if c.oe<e then⟨c.ep,c.seats,e,List.replicate c.got.length [],List.replicate c.has.length false,c.named,c.wire⟩ else c
noncomputable def comeO (x:T_Deal) (c:Cer) (p:T_Packet):Cer:=
 if p.2.2.1=c.oe∧c.named.getD p.2.1.toNat false=false∧c.has.getD p.2.1.toNat false=false then
  (if tv (tagsD x p.2.2.1 p.2.1 p.2.2.2.1=p.2.2.2.2)=true then⟨c.ep,c.seats,c.oe,c.got.set p.2.1.toNat p.2.2.2.1,c.has.set p.2.1.toNat true,c.named,c.wire⟩
  else⟨c.ep,c.seats,c.oe,c.got,c.has,c.named.set p.2.1.toNat true,c.wire⟩)
 else c
def comeS (c:Cer) (p:T_Packet):Cer:=
 if(c.seat p.2.1).1.1<p.2.2.1 then⟨c.ep,c.seats.set p.2.1.toNat ((p.2.2.1,p.2.2.2.1,p.2.2.2.2),(c.seat p.2.1).2),c.oe,c.got,c.has,c.named,c.wire⟩ else c
noncomputable def come (x:T_Deal) (c:Cer) (p:T_Packet):Cer:=if p.1=true then comeO x (fresh c p.2.2.1) p else comeS c p
def send (c:Cer) (p:T_Packet):Cer × Int:=if c.wire.length=12 then(c,3) else(⟨c.ep,c.seats,c.oe,c.got,c.has,c.named,c.wire++[p]⟩,0)
def dropW (c:Cer) (i:Nat):Cer:=⟨c.ep,c.seats,c.oe,c.got,c.has,c.named,c.wire.eraseIdx i⟩
def setS (c:Cer) (h:Int) (s:T_Seat):Cer:=⟨c.ep,c.seats.set h.toNat s,c.oe,c.got,c.has,c.named,c.wire⟩
abbrev Cer.pk (c:Cer) (a:Int):T_Packet:=c.wire.getD a.toNat (false,0,0,[],[])
noncomputable def doIt (x:T_Deal) (c:Cer) (d:T_Deed):Cer × Int:=
 if d.1=3∨d.1=4∨d.1=5 then
  (if(c.wire.length:Int)≤d.2.1 then(c,2) else
   ((if d.1=5 then(if d.1=4 then c else dropW c d.2.1.toNat) else come x (if d.1=4 then c else dropW c d.2.1.toNat) (c.pk d.2.1)),0))
 else if d.1=9 then(if c.ep+1=(x.2.2.1.length:Int) then(c,3) else(⟨c.ep+1,c.seats,c.oe,c.got,c.has,c.named,c.wire⟩,0))
 else if x.1.1≤d.2.1 then(c,2)
 else if d.1=1 then send c (false,d.2.1,c.ep,valsD x c.ep d.2.1,tagsD x c.ep d.2.1 (valsD x c.ep d.2.1))
 else if d.1=2 then(if(c.seat d.2.1).1.1=-1 then(c,4) else send c (true,d.2.1,(c.seat d.2.1).1.1,lieOf x.1.2.2.1 (c.seat d.2.1).1.2.1 (c.seat d.2.1).2.2,(c.seat d.2.1).1.2.2))
 else if d.1=6 then(if x.1.2.2.1≤d.2.2 then(c,2) else(setS c d.2.1 ((c.seat d.2.1).1,(c.seat d.2.1).2.1,d.2.2),0))
 else if d.1=7 then(setS c d.2.1 ((c.seat d.2.1).1,(c.seat d.2.1).1,(c.seat d.2.1).2.2),0)
 else(setS c d.2.1 ((c.seat d.2.1).2.1,(c.seat d.2.1).2.1,(c.seat d.2.1).2.2),0)
noncomputable def play (x:T_Deal) (c:Cer):List T_Deed→Cer
 | []=>c
 | d :: ds=>play x (doIt x c d).1 ds
noncomputable def codes (x:T_Deal) (c:Cer):List T_Deed→List Int
 | []=>[]
 | d :: ds=>(doIt x c d).2 :: codes x (doIt x c d).1 ds
def cntD (k:Int):Int:=if k=6 then 2 else if k=9 then 0 else 1
def DeedP (d:T_Deed):Prop:=(1≤d.1∧d.1≤9)∧(0≤d.2.1∧d.2.1≤999)∧(0≤d.2.2∧d.2.2≤999)∧(0<cntD d.1∨d.2.1=0)∧(1<cntD d.1∨d.2.2=0)
structure RowsH (x:T_Deal) (h:Int) (vs ts:List Int):Prop where
 vl:vs.length=(rowsOf x.1.2.1 h).length
 tl:ts.length=(rowsOf x.1.2.1 h).length
 ve:Elems x.1.2.2.1 vs
def EpOk (x:T_Deal) (e:Int):Prop:=0≤e∧e<(x.2.2.1.length:Int)
def HoOk (x:T_Deal) (h:Int):Prop:=0≤h∧h<x.1.1
structure PkOk (x:T_Deal) (p:T_Packet):Prop where
 ho:HoOk x p.2.1
 ep:EpOk x p.2.2.1
 rw:RowsH x p.2.1 p.2.2.2.1 p.2.2.2.2
def PuOk (x:T_Deal) (h:Int) (p:T_Purse):Prop:=(p.1=-1∧p.2.1=[]∧p.2.2=[])∨(EpOk x p.1∧RowsH x h p.2.1 p.2.2)
structure SeOk (x:T_Deal) (h:Int) (s:T_Seat):Prop where
 pu:PuOk x h s.1
 sa:PuOk x h s.2.1
 lie:0≤s.2.2∧s.2.2≤x.1.2.2.1-1
structure CerOk (x:T_Deal) (c:Cer):Prop where
 ep:EpOk x c.ep
 sl:(c.seats.length:Int)=x.1.1
 se:∀(j:Nat) s,c.seats[j]?=some s→SeOk x j s
 oe:c.oe=-1∨EpOk x c.oe
 gl:c.got.length=c.seats.length
 hl:c.has.length=c.seats.length
 nl:c.named.length=c.seats.length
 go:∀(j:Nat) g,c.got[j]?=some g→g=[]∧c.has.getD j false=false∨g.length=(rowsOf x.1.2.1 j).length∧Elems x.1.2.2.1 g
 wl:c.wire.length≤12
 wi:∀p∈c.wire,PkOk x p
theorem getD_mem {α:Type} {l:List α} {i:Nat} {d:α} (h:i<l.length):l[i]?=some (l.getD i d):=by
 rw[List.getD_eq_getElem?_getD,List.getElem?_eq_getElem h];rfl
section
variable {x:T_Deal} {c:Cer}
theorem CerOk.seat (h:CerOk x c) {a:Int} (ha:HoOk x a):c.seats[a.toNat]?=some (c.seat a)∧SeOk x a (c.seat a):=by
 have h1:=h.sl
 have h2:=ha.1
 have h3:=ha.2
 have h4:c.seats[a.toNat]?=some (c.seat a):=getD_mem (by omega)
 have h5:=h.se _ _ h4
 rw[show((a.toNat:Nat):Int)=a from by omega] at h5
 exact⟨h4,h5⟩
theorem CerOk.setS (h:CerOk x c) {a:Int} (ha:HoOk x a) {s:T_Seat} (hs:SeOk x a s):CerOk x (setS c a s):=by
 have h2:=ha.1
 refine⟨h.ep,by simp[Am.setS,h.sl],fun j t hj=>?_,h.oe,by simp[Am.setS,h.gl],by simp[Am.setS,h.hl],by simp[Am.setS,h.nl],h.go,h.wl,h.wi⟩
 simp only[Am.setS] at hj
 rw[List.getElem?_set] at hj
 split at hj
 ·rename_i e
  split at hj
  ·cases hj
   rw[← e,show((a.toNat:Nat):Int)=a from by omega]
   exact hs
  ·cases hj
 ·exact h.se j t hj
theorem CerOk.send (h:CerOk x c) {p:T_Packet} (hp:PkOk x p):CerOk x (send c p).1:=by
 unfold Am.send
 split
 ·exact h
 ·rename_i hw
  have:=h.wl
  refine⟨h.ep,h.sl,h.se,h.oe,h.gl,h.hl,h.nl,h.go,by simp;omega,fun q hq=>?_⟩
  rcases List.mem_append.1 hq with hq | hq
  ·exact h.wi q hq
  ·rw[List.mem_singleton.1 hq];exact hp
theorem CerOk.drop (h:CerOk x c) (i:Nat):CerOk x (dropW c i):=by
 refine⟨h.ep,h.sl,h.se,h.oe,h.gl,h.hl,h.nl,h.go,?_,fun q hq=>h.wi q (List.mem_of_mem_eraseIdx hq)⟩
 have:=List.length_eraseIdx_le c.wire i
 have:=h.wl
 show(c.wire.eraseIdx i).length≤12
 omega
theorem CerOk.pk (h:CerOk x c) {a:Int} (h0:0≤a) (h1:a<(c.wire.length:Int)):c.wire[a.toNat]?=some (c.pk a)∧PkOk x (c.pk a):=by
 have h4:c.wire[a.toNat]?=some (c.pk a):=getD_mem (by omega)
 exact⟨h4,h.wi _ (List.mem_of_getElem? h4)⟩
theorem CerOk.fresh (h:CerOk x c) {e:Int} (he:EpOk x e):CerOk x (fresh c e):=by
 unfold Am.fresh
 split
 ·refine⟨h.ep,h.sl,h.se,.inr he,by simp[h.gl],by simp[h.hl],h.nl,fun j g hj=>?_,h.wl,h.wi⟩
  refine .inl ⟨?_,?_⟩
  ·exact List.eq_of_mem_replicate (List.mem_of_getElem? hj)
  ·simp only[List.getD_eq_getElem?_getD,List.getElem?_replicate]
   split<;>rfl
 ·exact h
theorem CerOk.comeO (h:CerOk x c) {p:T_Packet} (hp:PkOk x p):CerOk x (comeO x c p):=by
 unfold Am.comeO
 split
 ·split
  ·refine⟨h.ep,h.sl,h.se,h.oe,by simp[h.gl],by simp[h.hl],h.nl,fun j g hj=>?_,h.wl,h.wi⟩
   simp only at hj
   rw[List.getElem?_set] at hj
   split at hj
   ·rename_i e
    split at hj
    ·cases hj
     have h1:=hp.ho.1
     rw[← e,show((p.2.1.toNat:Nat):Int)=p.2.1 from by omega]
     exact .inr ⟨hp.rw.vl,hp.rw.ve⟩
    ·cases hj
   ·rename_i e
    rcases h.go j g hj with⟨h1,h2⟩ | h1
    ·refine .inl ⟨h1,?_⟩
     simp only[List.getD_eq_getElem?_getD] at h2 ⊢
     rw[List.getElem?_set_ne e]
     exact h2
    ·exact .inr h1
  ·exact⟨h.ep,h.sl,h.se,h.oe,h.gl,h.hl,by simp[h.nl],h.go,h.wl,h.wi⟩
 ·exact h
theorem CerOk.comeS (h:CerOk x c) {p:T_Packet} (hp:PkOk x p):CerOk x (comeS c p):=by
 unfold Am.comeS
 split
 ·have hs:=(h.seat hp.ho).2
  exact h.setS hp.ho (s:=((p.2.2.1,p.2.2.2.1,p.2.2.2.2),(c.seat p.2.1).2)) ⟨.inr ⟨hp.ep,hp.rw⟩,hs.sa,hs.lie⟩
 ·exact h
theorem CerOk.come (h:CerOk x c) {p:T_Packet} (hp:PkOk x p):CerOk x (come x c p):=by
 unfold Am.come
 split
 ·exact(h.fresh hp.ep).comeO hp
 ·exact h.comeS hp
theorem HoOk.at (hd:DealOk x) {e a:Int} (ha:HoOk x a) (he:EpOk x e):∃E J,DealAt x e a E J:=by
 refine codeD_ok ?_
 unfold codeD
 rw[tv_true hd,if_pos rfl,if_pos ⟨⟨he.1,by have:=he.2;omega⟩,ha.1,by have:=ha.2;omega⟩]
theorem DealOk.prime (hd:DealOk x):PrimeP x.1.2.2.1:=hd.sch.mat.pr
theorem RowsH.given (hd:DealOk x) {e a:Int}:RowsH x a (valsD x e a) (tagsD x e a (valsD x e a)):=
 ⟨vals_len,by simp[tagsD,tagsOf],vals_in hd.prime⟩
theorem CerOk.doIt (hd:DealOk x) {d:T_Deed} (hp:DeedP d) (h:CerOk x c):CerOk x (doIt x c d).1:=by
 obtain⟨h1,h2,h3,h4,h5⟩:=hp
 unfold Am.doIt
 split
 ·split
  ·exact h
  ·have hpk:=(h.pk (a:=d.2.1) h2.1 (by omega)).2
   have hc:CerOk x (if d.1=4 then c else dropW c d.2.1.toNat):=by
    split
    ·exact h
    ·exact h.drop _
   show CerOk x (if d.1=5 then _ else _)
   split
   ·exact hc
   ·exact hc.come hpk
 split
 ·split
  ·exact h
  ·rename_i he
   have:=h.ep.1
   have:=h.ep.2
   exact⟨⟨by show 0≤c.ep+1;omega,by show c.ep+1<_;omega⟩,h.sl,h.se,h.oe,h.gl,h.hl,h.nl,h.go,h.wl,h.wi⟩
 split
 ·exact h
 rename_i hr
 have ha:HoOk x d.2.1:=⟨h2.1,by omega⟩
 have hs:=(h.seat ha).2
 split
 ·exact h.send ⟨ha,h.ep,RowsH.given hd⟩
 split
 ·split
  ·exact h
  ·rename_i hne
   refine h.send ⟨ha,?_,?_⟩
   ·exact(hs.pu.resolve_left (fun q=>hne q.1)).1
   ·have:=(hs.pu.resolve_left (fun q=>hne q.1)).2
    exact⟨by rw[lie_len];exact this.vl,this.tl,lie_in hd.prime this.ve⟩
 split
 ·split
  ·exact h
  ·exact h.setS ha (s:=((c.seat d.2.1).1,(c.seat d.2.1).2.1,d.2.2)) ⟨hs.pu,hs.sa,h3.1,by show d.2.2≤_;omega⟩
 split
 ·exact h.setS ha (s:=((c.seat d.2.1).1,(c.seat d.2.1).1,(c.seat d.2.1).2.2)) ⟨hs.pu,hs.pu,hs.lie⟩
 ·exact h.setS ha (s:=((c.seat d.2.1).2.1,(c.seat d.2.1).2.1,(c.seat d.2.1).2.2)) ⟨hs.sa,hs.sa,hs.lie⟩
theorem CerOk.start (hd:DealOk x):CerOk x (cer0 x.1.1.toNat):=by
 have h7:=hd.sch.h7
 have hb:=hd.bl
 have h2:=hd.prime.1
 refine⟨⟨Int.le_refl _,by show(0:Int)<_;omega⟩,by have:=hd.sch.h1;simp[cer0];omega,fun j s hj=>?_,.inl rfl,by simp[cer0],by simp[cer0],by simp[cer0],fun j g hj=>?_,by simp[cer0],fun p hp=>by simp[cer0] at hp⟩
 ·rw[List.eq_of_mem_replicate (List.mem_of_getElem? hj)]
  exact⟨.inl ⟨rfl,rfl,rfl⟩,.inl ⟨rfl,rfl,rfl⟩,by show(0:Int)≤0;omega,by show(0:Int)≤_;omega⟩
 ·refine .inl ⟨List.eq_of_mem_replicate (List.mem_of_getElem? hj),?_⟩
  simp only[cer0,List.getD_eq_getElem?_getD,List.getElem?_replicate]
  split<;>rfl
theorem CerOk.play (hd:DealOk x):∀(ds:List T_Deed) {c:Cer},(∀d∈ds,DeedP d)→CerOk x c→CerOk x (play x c ds)
 | [],_,_,h=>h
 | d :: ds,c,hp,h=>CerOk.play hd ds (fun e he=>hp e (List.mem_cons_of_mem _ he)) (h.doIt hd (hp d List.mem_cons_self))
end
end Go.Proofs.Ytlapbbffoapleaa.Am
namespace Go.Proofs.Ytlapbbffoapleaa.Am
open Go Go.RowKit
def Cl {α:Type} (d:Kn α) (X:Ids) (A:AH) (xs:List α) (cs:List Value):Prop:=xs.length*d.es≤cs.length∧∀(i:Nat) x,xs[i]?=some x→d.R X A x ((cs.drop (i*d.es)).take d.es)
section
variable {α:Type} {d:Kn α} {X X' S:Ids} {A A':AH} {xs:List α} {cs:List Value}
theorem Cl.mv (h:Cl d X A xs cs) (hA:∀id,X id→A'.m id=A.m id) (hX:∀id,X id→X' id):Cl d X' A' xs cs:=
 ⟨h.1,fun i x hx=>d.more hX (d.same hA (h.2 i x hx))⟩
theorem Cl.nil (d:Kn α) (X:Ids) (A:AH) (cs:List Value):Cl d X A [] cs:=⟨by simp,fun i x h=>by simp at h⟩
theorem Cl.sl {id c:Nat} {b:Blk} (h:Cl d X A xs cs) (hS:S id) (hm:A.m id=some b) (hb:b.cells=cs) (hX:∀id,X id→S id) (hc:xs.length≤c):d.Sl S A (.slice (some ⟨id,0,some d.es⟩) xs.length c) xs:=
 .inr ⟨id,0,c,b,rfl,hc,hS,hm,by rw[hb,Nat.zero_add];exact h.1,fun i x hx=>by rw[hb,Nat.zero_add];exact d.more hX (h.2 i x hx)⟩
theorem seg_splice {l ys:List Value} {k q n:Nat} (hk:k+ys.length≤l.length) (h:q+n≤k∨k+ys.length≤q):((splice l k ys).drop q).take n=(l.drop q).take n:=by
 refine List.ext_getElem? fun j=>?_
 rw[List.getElem?_take,List.getElem?_take]
 split
 ·rename_i hj
  rw[List.getElem?_drop,List.getElem?_drop,splice_get l k ys hk]
  rcases h with h | h
  ·rw[if_pos (by omega)]
  ·rw[if_neg (by omega),if_neg (by omega)]
 ·rfl
theorem seg_in {l ys:List Value} {k:Nat} (hk:k+ys.length≤l.length):((splice l k ys).drop k).take ys.length=ys:=by
 refine List.ext_getElem? fun j=>?_
 rw[List.getElem?_take]
 by_cases hj:j<ys.length
 ·rw[if_pos hj,List.getElem?_drop,splice_get l k ys hk,if_neg (by omega),if_pos (by omega)]
  congr 1
  omega
 ·rw[if_neg hj,List.getElem?_eq_none (by omega)]
theorem mul_le' {i n e:Nat} (h:i<n):i*e+e≤n*e:=by rw[← Nat.succ_mul];exact Nat.mul_le_mul_right _ h
theorem Cl.set {i:Nat} {y:α} {ys:List Value} (h:Cl d X A xs cs) (hi:i<xs.length) (hy:d.R X A y ys):Cl d X A (xs.set i y) (splice cs (i*d.es) ys)∧(splice cs (i*d.es) ys).length=cs.length:=by
 have hl:=d.len hy
 have h1:=mul_le' (e:=d.es) hi
 have hk:i*d.es+ys.length≤cs.length:=by have:=h.1;omega
 have hlen:=splice_length cs (i*d.es) ys hk
 refine⟨⟨by rw[hlen,List.length_set];exact h.1,fun j x hx=>?_⟩,hlen⟩
 rw[List.getElem?_set] at hx
 split at hx
 ·rename_i e
  subst e
  cases hx
  have:=seg_in hk
  rw[hl] at this
  rw[this]
  exact hy
 ·rename_i e
  rw[seg_splice hk]
  ·exact h.2 j x hx
  ·rcases Nat.lt_or_gt_of_ne e with h2 | h2
   ·right;have:=mul_le' (e:=d.es) h2;omega
   ·left;have:=mul_le' (e:=d.es) h2;omega
theorem Cl.part {i:Nat} {x y:α} {a b b' r:List Value} (h:Cl d X A xs cs) (hx:xs[i]?=some x) (hseg:(cs.drop (i*d.es)).take d.es=a++(b++r)) (hb:b'.length=b.length) (hXX:∀id,X id→X' id) (hy:d.R X' A y (a++(b'++r))):Cl d X' A (xs.set i y) (splice cs (i*d.es+a.length) b')∧(splice cs (i*d.es+a.length) b').length=cs.length:=by
 have hi:=(List.getElem?_eq_some_iff.1 hx).1
 have hl:=d.len hy
 have h1:=mul_le' (e:=d.es) hi
 have h0:=h.1
 simp only[List.length_append] at hl
 have hk:i*d.es+(a++(b'++r)).length≤cs.length:=by simp only[List.length_append];omega
 have hk2:i*d.es+a.length+b'.length≤cs.length:=by omega
 have e:splice cs (i*d.es+a.length) b'=splice cs (i*d.es) (a++(b'++r)):=by
  refine List.ext_getElem? fun j=>?_
  rw[splice_get _ _ _ hk,splice_get _ _ _ hk2]
  simp only[List.length_append]
  by_cases c1:j<i*d.es
  ·rw[if_pos (by omega),if_pos c1]
  ·rw[if_neg c1]
   by_cases c2:j<i*d.es+(a.length+(b'.length+r.length))
   ·rw[if_pos c2]
    have old:∀(v:Value),(a++(b++r))[j-i*d.es]?=some v→cs[j]?=some v:=fun v hv=>by
     have:=seg_at hseg hv
     rwa [show i*d.es+(j-i*d.es)=j by omega] at this
    by_cases c3:j<i*d.es+a.length
    ·rw[if_pos c3,List.getElem?_append_left (by omega)]
     have hg:a[j-i*d.es]?=some (a[j-i*d.es]'(by omega)):=List.getElem?_eq_getElem (by omega)
     rw[hg]
     exact old _ (by rw[List.getElem?_append_left (by omega)];exact hg)
    ·rw[if_neg c3]
     by_cases c4:j<i*d.es+a.length+b'.length
     ·rw[if_pos c4,List.getElem?_append_right (by omega),List.getElem?_append_left (by omega)]
      congr 1;omega
     ·rw[if_neg c4,List.getElem?_append_right (by omega),List.getElem?_append_right (by omega)]
      have hg:r[j-i*d.es-a.length-b'.length]?=some (r[j-i*d.es-a.length-b'.length]'(by omega)):=List.getElem?_eq_getElem (by omega)
      rw[hg]
      exact old _ (by rw[List.getElem?_append_right (by omega),List.getElem?_append_right (by omega),← hb];exact hg)
   ·rw[if_neg c2,if_neg (by omega),if_neg (by omega)]
 rw[e]
 exact(h.mv (fun _ _=>rfl) hXX).set hi hy
theorem Cl.snoc {y:α} {ys:List Value} (h:Cl d X A xs cs) (hy:d.R X A y ys):Cl d X A (xs++[y]) ((cs.drop 0).take (xs.length*d.es)++ys):=by
 have hl:=d.len hy
 have h1:=h.1
 have ht:((cs.drop 0).take (xs.length*d.es)).length=xs.length*d.es:=by rw[List.length_take,List.drop_zero];omega
 refine⟨by rw[List.length_append,List.length_append,List.length_singleton,ht,hl,Nat.add_mul];omega,fun j x hx=>?_⟩
 by_cases hj:j<xs.length
 ·rw[List.getElem?_append_left hj] at hx
  have h2:=mul_le' (e:=d.es) hj
  have e:((((cs.drop 0).take (xs.length*d.es))++ys).drop (j*d.es)).take d.es=(cs.drop (j*d.es)).take d.es:=by
   rw[List.drop_append_of_le_length (by omega),List.take_append_of_le_length (by rw[List.length_drop];omega),List.drop_zero,List.drop_take,List.take_take]
   congr 1
   omega
  rw[e]
  exact h.2 j x hx
 ·have hjl:=(List.getElem?_eq_some_iff.1 hx).1
  simp at hjl
  obtain rfl:j=xs.length:=by omega
  simp at hx
  subst hx
  have e:((((cs.drop 0).take (xs.length*d.es))++ys).drop (xs.length*d.es)).take d.es=ys:=by
   have e1:=List.drop_left (l₁:=(cs.drop 0).take (xs.length*d.es)) (l₂:=ys)
   rw[ht] at e1
   rw[e1,List.take_of_length_le (by omega)]
  rw[e]
  exact hy
theorem Cl.one {y:α} {ys:List Value} (hy:d.R X A y ys):Cl d X A [y] ys:=by
 have hl:=d.len hy
 refine⟨by simp[hl],fun j x hx=>?_⟩
 cases j with
 | zero=>cases hx;rw[Nat.zero_mul,List.drop_zero,List.take_of_length_le (by omega)];exact hy
 | succ j=>simp at hx
theorem Cl.erase {i:Nat} {cs':List Value} (h:Cl d X A xs cs) (hi:i<xs.length) (hl:(xs.length-1)*d.es≤cs'.length) (h1:∀j,j<i→(cs'.drop (j*d.es)).take d.es=(cs.drop (j*d.es)).take d.es) (h2:∀j,i≤j→j+1<xs.length→(cs'.drop (j*d.es)).take d.es=(cs.drop ((j+1)*d.es)).take d.es):Cl d X A (xs.eraseIdx i) cs':=by
 have hle:(xs.eraseIdx i).length=xs.length-1:=by rw[List.length_eraseIdx,if_pos hi]
 refine⟨by rw[hle];exact hl,fun j x hx=>?_⟩
 have hj:=(List.getElem?_eq_some_iff.1 hx).1
 rw[hle] at hj
 rw[List.getElem?_eraseIdx] at hx
 split at hx
 ·rename_i hlt
  rw[h1 j hlt]
  exact h.2 j x hx
 ·rename_i hge
  rw[h2 j (by omega) (by omega)]
  exact h.2 (j+1) x hx
end
abbrev KBo:Kn Bool:=Kn.bool
abbrev K_Purse:Kn T_Purse:=Kn.pair KI (Kn.pair K_Int64S K_Int64S)
abbrev K_Seat:Kn T_Seat:=Kn.pair K_Purse (Kn.pair K_Purse KI)
abbrev K_Packet:Kn T_Packet:=Kn.pair KBo (Kn.pair KI (Kn.pair KI (Kn.pair K_Int64S K_Int64S)))
section
variable {S X:Ids} {A:AH} {cs:List Value}
theorem KB_of {x:Bool} {cs:List Value} (h:KBo.R S A x cs):cs=[.bool x]:=h
theorem split_Packet {x:T_Packet} (h:K_Packet.R S A x cs):∃a1 c1 a2 c2,cs=[.bool x.1,.int .i64 x.2.1,.int .i64 x.2.2.1,.slice a1 x.2.2.2.1.length c1,.slice a2 x.2.2.2.2.length c2]∧KI.Sl S A (.slice a1 x.2.2.2.1.length c1) x.2.2.2.1∧KI.Sl S A (.slice a2 x.2.2.2.2.length c2) x.2.2.2.2:=by
 obtain⟨e0,d0,rfl,h0,e1,d1,rfl,h1,e2,d2,rfl,h2,e3,d3,rfl,h3,h4⟩:=h
 obtain rfl:=KB_of h0
 obtain rfl:=KI_of h1
 obtain rfl:=KI_of h2
 obtain⟨a1,c1,rfl⟩:=slform h3
 obtain⟨a2,c2,rfl⟩:=slform h4
 exact⟨a1,c1,a2,c2,rfl,sl1 h3,sl1 h4⟩
end
structure HT where
 h:TypeId
 s:TypeId
 g:TypeId
 b:TypeId
 p:TypeId
structure HD where
 hid:Nat
 sid:Nat
 gid:Nat
 bid:Nat
 nid:Nat
 w:Option (Nat × Nat)
def HD.L (d:HD):List Nat:=[d.hid,d.sid,d.gid,d.bid,d.nid]++(match d.w with | some (i,_)=>[i] | none=>[])
def HD.W (d:HD):Ids:=fun id=>id∈d.L
def HD.wv (d:HD) (n:Nat):Value:=match d.w with | some (i,c)=>.slice (some ⟨i,0,some 5⟩) n c | none=>.slice none 0 0
def HD.cells (d:HD) (pre post:List Value) (c:Cer):List Value:=
 pre++([.int .i64 c.ep,.slice (some ⟨d.sid,0,some 7⟩) c.seats.length c.seats.length,.int .i64 c.oe,.slice (some ⟨d.gid,0,some 1⟩) c.got.length c.got.length,.slice (some ⟨d.bid,0,some 1⟩) c.has.length c.has.length,.slice (some ⟨d.nid,0,some 1⟩) c.named.length c.named.length,d.wv c.wire.length]++post)
def SeatsB (t:HT) (S:Ids) (A:AH) (X:Ids) (id:Nat) (xs:List T_Seat):Prop:=S id∧∃cs,A.m id=some ⟨t.s,true,cs⟩∧Cl K_Seat X A xs cs
def GotB (t:HT) (S:Ids) (A:AH) (X:Ids) (id:Nat) (xs:List (List Int)):Prop:=S id∧∃cs,A.m id=some ⟨t.g,true,cs⟩∧cs.length=xs.length∧Cl KI.sl X A xs cs
def BoolB (t:HT) (S:Ids) (A:AH) (id:Nat) (xs:List Bool):Prop:=S id∧A.m id=some ⟨t.b,true,xs.map Value.bool⟩
def WireB (t:HT) (S:Ids) (A:AH) (X:Ids):Option (Nat × Nat)→List T_Packet→Prop
 | none,xs=>xs=[]
 | some (i,q),xs=>S i∧xs.length≤q∧∃cs,A.m i=some ⟨t.p,true,cs⟩∧Cl K_Packet X A xs cs
structure Hl (t:HT) (pre post:List Value) (S:Ids) (A:AH) (X:Ids) (d:HD) (c:Cer):Prop where
 sx:∀id,X id→S id
 hall:S d.hid∧A.m d.hid=some ⟨t.h,true,d.cells pre post c⟩
 seats:SeatsB t S A X d.sid c.seats
 got:GotB t S A X d.gid c.got
 has:BoolB t S A d.bid c.has
 named:BoolB t S A d.nid c.named
 wire:WireB t S A X d.w c.wire
 dist:d.L.Nodup
 out:∀id,X id→¬d.W id
section
variable {t:HT} {S S' X X':Ids} {A A':AH} {i:Nat}
theorem SeatsB.mv {xs:List T_Seat} (h:SeatsB t S A X i xs) (hi:S' i∧A'.m i=A.m i) (hX:∀id,X id→A'.m id=A.m id) (hXX:∀id,X id→X' id):SeatsB t S' A' X' i xs:=by
 obtain⟨_,cs,s1,s2⟩:=h
 exact⟨hi.1,cs,hi.2.trans s1,s2.mv hX hXX⟩
theorem GotB.mv {xs:List (List Int)} (h:GotB t S A X i xs) (hi:S' i∧A'.m i=A.m i) (hX:∀id,X id→A'.m id=A.m id) (hXX:∀id,X id→X' id):GotB t S' A' X' i xs:=by
 obtain⟨_,cs,s1,s2,s3⟩:=h
 exact⟨hi.1,cs,hi.2.trans s1,s2,s3.mv hX hXX⟩
theorem BoolB.mv {xs:List Bool} (h:BoolB t S A i xs) (hi:S' i∧A'.m i=A.m i):BoolB t S' A' i xs:=⟨hi.1,hi.2.trans h.2⟩
theorem WireB.mv {w:Option (Nat × Nat)} {xs:List T_Packet} (h:WireB t S A X w xs) (hi:∀i q,w=some (i,q)→S' i∧A'.m i=A.m i) (hX:∀id,X id→A'.m id=A.m id) (hXX:∀id,X id→X' id):WireB t S' A' X' w xs:=by
 match w,h with
 | none,h=>exact h
 | some (i,q),h=>
  obtain⟨_,w1,cs,w2,w3⟩:=h
  exact⟨(hi i q rfl).1,w1,cs,(hi i q rfl).2.trans w2,w3.mv hX hXX⟩
end
section
variable {t:HT} {pre post:List Value} {S S' X X':Ids} {A A':AH} {d:HD} {c:Cer}
theorem HD.Win {d:HD}:d.W d.hid∧d.W d.sid∧d.W d.gid∧d.W d.bid∧d.W d.nid∧∀i q,d.w=some (i,q)→d.W i:=by
 refine⟨by simp[HD.W,HD.L],by simp[HD.W,HD.L],by simp[HD.W,HD.L],by simp[HD.W,HD.L],by simp[HD.W,HD.L],fun i q e=>by simp[HD.W,HD.L,e]⟩
theorem Hl.mv (h:Hl t pre post S A X d c) (hA:∀id,(d.W id∨X id)→S' id∧A'.m id=A.m id):Hl t pre post S' A' X d c:=by
 obtain⟨l1,l2,l3,l4,l5,l6⟩:=HD.Win (d:=d)
 have L:∀id,d.W id→S' id∧A'.m id=A.m id:=fun id hid=>hA id (.inl hid)
 have hX:∀id,X id→A'.m id=A.m id:=fun id hid=>(hA id (.inr hid)).2
 exact⟨fun id hid=>(hA id (.inr hid)).1,⟨(L _ l1).1,(L _ l1).2.trans h.hall.2⟩,h.seats.mv (L _ l2) hX (fun _ p=>p),h.got.mv (L _ l3) hX (fun _ p=>p),h.has.mv (L _ l4),h.named.mv (L _ l5),h.wire.mv (fun i q e=>L _ (l6 i q e)) hX (fun _ p=>p),h.dist,h.out⟩
theorem Hl.w (h:Hl t pre post S A X d c):∀id,d.W id→S id:=fun id hid=>by
 have hw:=h.wire
 have hid:id∈d.L:=hid
 simp only[HD.L,List.mem_append,List.mem_cons,List.not_mem_nil,or_false] at hid
 rcases hid with(e | e | e | e | e) | e
 ·rw[e];exact h.hall.1
 ·rw[e];exact h.seats.1
 ·rw[e];exact h.got.1
 ·rw[e];exact h.has.1
 ·rw[e];exact h.named.1
 ·split at e
  ·rename_i i q e2
   rw[e2] at hw
   rw[List.mem_singleton.1 e]
   exact hw.1
  ·simp at e
theorem Hl.on [o:On S A S' A'] (h:Hl t pre post S A X d c):Hl t pre post S' A' X d c:=h.mv fun id hid=>o.st id (hid.elim (h.w id) (h.sx id))
end
def HlPost (t:HT) (pre post:List Value) (X:Ids) (d:HD) (c:Cer) (n:Nat) (H1:AH):Prop:=
 ∃(X':Ids) (d':HD),Hl t pre post (fun id=>d.W id∨X id∨New n H1.n id) H1 X' d' c∧d'.hid=d.hid∧(∀id,X' id→X id∨New n H1.n id)∧(∀id,d'.W id→d.W id∨New n H1.n id)
end Go.Proofs.Ytlapbbffoapleaa.Am
namespace Go.Proofs.Ytlapbbffoapleaa.Am
open Go Go.RowKit Go.Proofs Go.Proofs.Ytlapbbffoapleaa.Pl
def MkG (xs:List (List Int)) (ty:TypeId) (n:Nat) (v:Value) (H1:AH):Prop:=∃o cs V,v=.slice (some ⟨o,0,some 1⟩) xs.length xs.length∧New n H1.n o∧H1.m o=some ⟨ty,true,cs⟩∧(∀id,V id→New n H1.n id∧id≠o)∧RowsB KI.ml V H1 V xs cs
theorem RowsB.on {S S' V:Ids} {A A':AH} {rows:List (List Int)} {cs:List Value} (h:RowsB KI.ml S A V rows cs) (hs:∀id,V id→S' id∧A'.m id=A.m id):RowsB KI.ml S' A' V rows cs:=by
 obtain⟨W,h1,h2,h3⟩:=h.rows
 refine⟨h.len,fun id hid=>(hs id hid).1,W,h1,h2,fun j x hx=>?_⟩
 obtain⟨v,h4,h5⟩:=h3 j x hx
 exact⟨v,h4,KI.ml.same (fun id hid=>(hs id (h1 j id hid)).2) h5⟩
theorem RwI.mkG {xs:List (List Int)} {H HB H1:AH} {SB:Ids} {s:RwS} {T:List Var} {n j:Nat} {ty:TypeId} (h:RwI (fun x=>x) xs H SB HB s) (he:s.i=xs.length) (g:Good s.S s.A T n H1) (hT:T[j]?=some (s.o,⟨ty,true,s.cs⟩)) (ho:H.n≤s.o):MkG xs ty H.n (.slice (some ⟨s.o,0,some 1⟩) xs.length xs.length) H1:=by
 have hb:=h.b
 rw[he,List.take_of_length_le (Nat.le_refl _),List.map_id'] at hb
 have hno:=(g.vars j _ hT).2.2
 have hn:=g.n_
 refine⟨s.o,s.cs,s.V,rfl,⟨ho,(g.blk hT).2⟩,(g.blk hT).1,fun id hid=>⟨⟨h.v id hid,?_⟩,fun e=>hno (e ▸ hb.sub id hid)⟩,hb.on (fun id hid=>⟨hid,(g.froz id (hb.sub id hid)).2⟩)⟩
 have:=(g.froz id (hb.sub id hid)).1
 omega
section
variable {S:Ids} {H0:AH}
theorem copyRows {a c} {xs:List (List Int)} (hB:B_Int64SS xs) (hs:KI.sl.Sl S H0 (.slice a xs.length c) xs):SpecM Try.prog S H0 66 [.slice a xs.length c] (MkG xs 36):=by
 have hxl:=hB.len
 refine SpecM.of1 Try.func66 rfl (by kernel_rfl) rfl (fun H _=>?_)
 refine KW.lit U U U U U U U U U U [] U U (fun v hv=>by simp at hv) rfl ?_
 refine KW.lpM U U (fun s:RwS=>[(3,.slice (some ⟨s.o,0,some 1⟩) s.i s.i),(7,.slice a xs.length c),(8,.int .i64 xs.length),(9,.int .i64 s.i)]) (fun s=>s.S) (fun s=>s.A) (fun s=>[(s.o,⟨_,true,s.cs⟩)]) (fun s=>RwI (fun x=>x) xs H (Low H.n) H s) (fun s=>xs.length-s.i) (⟨0,Low H.n,H,fun _=>False,[],_⟩) (RwI.start) ⟨rfl,rfl,rfl,rfl,trivial⟩ U U (rfl) (fun s hi bE n=>?_)
 haveI:Stp (Low H.n) H s.S s.A:=⟨hi.old⟩
 have hle:=hi.le
 have hcl:=hi.b.len
 rw[List.length_map,List.length_take] at hcl
 refine KW.cnd U U (fun k1=>?_) (fun k1=>?_)
 ·have k1:(s.i:Int)<xs.length:=k1
  refine KW.getL hs.up U U U U U U U U U U U U U U U U (by omega) (k1) (fun y ay cy hy hsy=>?_)
  have hy:xs[s.i]?=some y:=hy
  have hyl:=hB.each y (List.mem_of_getElem? hy)
  refine KW.ids (fun hlow hvar=>?_)
  refine KW.fact (fun _ g=>g.nle (H1:=H)) (fun hn0=>?_)
  refine KW.callN1 U U U U U (cloneI hyl hsy) (fun v HC SC mC _ _ hv=>?_)
  obtain⟨a5,c5,rfl,hC⟩:=hv
  refine KW.app1 (xs:=s.cs) (v:=.slice a5 y.length c5) 0 1 U U U U U U U U U U U U U U U U U U U U U U U (by omega) (by show(_+1)*24≤_;omega) (by first | omega | (simp only;omega)) ?_
  exact KW.nxt U U (fun H' g=>⟨_,hi.next (inferInstance:Stp s.S s.A SC HC).st inferInstance hlow hn0 hy hC,by simp only;omega,⟨rfl,rfl,rfl,congrArg (Value.int .i64) (inc64 (by omega)),trivial⟩,g⟩)
 ·have k1:¬(s.i:Int)<xs.length:=k1
  have he:s.i=xs.length:=by omega
  refine KW.retM1 U U U U (fun H1 g=>?_)
  rw[he]
  exact hi.mkG he g (j:=0) rfl (g.ge (H1:=H) (j:=0) rfl)
end
def MkE (p:Int) (k:Nat) (e:List (List Int) × List Nat) (n:Nat) (v:Value) (H1:AH):Prop:=∃a1 c1 a2 c2,v=.tuple #[.agg #[.int .i64 p,.int .i64 k,.slice a1 e.2.length c1],.slice a2 e.2.length c2]∧KI.ml.Ml (New n H1.n) H1 (.slice a1 e.2.length c1) (e.1.take e.2.length)∧KI.Ml (New n H1.n) H1 (.slice a2 e.2.length c2) (e.2.map fun(i:Nat)=>(i:Int))
structure EcS where
 c:Nat
 S:Ids
 A:AH
 cs:List Value
 po:Nat
structure EcI (p:Int) (k:Nat) (L:List (List Int)) (H:AH) (V:Ids) (s:EcS):Prop where
 le:s.c≤k
 old:St (Low H.n) H s.S s.A
 b:RowsB KI.ml s.S s.A V (ech p L s.c).1 s.cs
theorem ech_none {p:Int} {L:List (List Int)} {c:Nat} (h:nz (ech p L c).1 c (ech p L c).2.length=(ech p L c).1.length):ech p L (c+1)=ech p L c:=by
 rw[ech]
 have:rnd p (ech p L c).1 c (ech p L c).2.length=none:=by unfold rnd;rw[if_pos h]
 rw[this]
theorem ech_some {p:Int} {L:List (List Int)} {c:Nat} (h:nz (ech p L c).1 c (ech p L c).2.length≠(ech p L c).1.length):ech p L (c+1)=(tks p c (ech p L c).2.length (lead p (ech p L c).1 c (ech p L c).2.length) ((sw (ech p L c).1 (ech p L c).2.length (nz (ech p L c).1 c (ech p L c).2.length)).set (ech p L c).2.length (lead p (ech p L c).1 c (ech p L c).2.length)) (ech p L c).1.length,(ech p L c).2++[c]):=by
 rw[ech]
 unfold rnd
 rw[if_neg h]
theorem built_Matrix (p c:Int) (a:Option Addr) (n m:Nat):Try.prog.built 26 [(0,.int .i64 p),(1,.int .i64 c),(2,.slice a n m)]=some #[.int .i64 p,.int .i64 c,.slice a n m]:=by kernel_rfl
theorem cell0 {l:List Value} {q:Nat} {v:Value} (h:l[q]?=some v):l[0+q*1]?=some v:=by rw[Nat.zero_add,Nat.mul_one];exact h
section
variable {S:Ids} {H0:AH}
theorem echelon {p:Int} {k:Nat} (hp:2≤p∧p≤31) (hk:k≤1000) {L:List (List Int)} (hB:B_Int64SS L) (hL:Rect p k L) {a c} (hs:KI.sl.Sl S H0 (.slice a L.length c) L):SpecM Try.prog S H0 65 [.agg #[.int .i64 p,.int .i64 k,.slice a L.length c]] (MkE p k (ech p L k)):=by
 have hLl:=hB.len
 have hok:=ech_ok (p:=p) (by omega) hL
 refine SpecM.of1 Try.func65 rfl (by kernel_rfl) rfl (fun H _=>?_)
 refine KW.callN1 U U U U U (copyRows hB hs.up) (fun v HC SC mC _ _ hv=>?_)
 obtain⟨o,cs0,V,rfl,ho,hom,hV,hb0⟩:=hv
 have oS:=(inferInstance:On (New (H.n+2) HC.n) HC SC HC).st
 refine KW.thaw o ⟨_,true,cs0⟩ (oS o ho).1 hom ?_
 haveI oH:On (Low H.n) H (fun id=>SC id∧id≠o) HC:=On.thaw (fun id hid=>by have:id<H.n:=hid;have:=ho.1;omega)
 have hb1:RowsB KI.ml (fun id=>SC id∧id≠o) HC V L cs0:=hb0.on (fun id hid=>⟨⟨(oS id (hV id hid).1).1,(hV id hid).2⟩,rfl⟩)
 have hVl:∀id,V id→H.n≤id:=fun id hid=>by have:=(hV id hid).1.1;omega
 refine KW.lit U U U U U U U U U U [] U U (fun v hv=>by simp at hv) rfl ?_
 refine KW.lpM U U (fun s:EcS=>[(1,.pointer (some ⟨H.n,0,some 0⟩)),(2,.pointer (some ⟨H.n+1,0,some 1⟩)),(4,.slice (some ⟨o,0,some 1⟩) L.length L.length),(5,.slice (some ⟨s.po,0,some 1⟩) (ech p L s.c).2.length (ech p L s.c).2.length),(16,.int .i64 k),(17,.int .i64 s.c)]) (fun s=>s.S) (fun s=>s.A) (fun s=>[(H.n,⟨26,true,[.int .i64 p,.int .i64 k,.slice a L.length c]⟩),(H.n+1,⟨26,true,[.int .i64 0,.int .i64 0,.slice none 0 0]⟩),(o,⟨36,true,s.cs⟩),(s.po,⟨_,true,(ech p L s.c).2.map fun(i:Nat)=>Value.int .i64 i⟩)]) (fun s=>EcI p k L H V s) (fun s=>k-s.c) (⟨0,_,HC,cs0,_⟩) (⟨Nat.zero_le _,oH.st,hb1⟩) ⟨rfl,rfl,rfl,rfl,rfl,rfl,trivial⟩ U U (rfl) (fun s hi bE n=>?_)
 obtain⟨ci,S1,A1,cs,po⟩:=s
 obtain⟨hle,hold,hb⟩:=hi
 simp only at hle hold hb
 have hoc:=hok ci
 haveI oc:Stp (Low H.n) H S1 A1:=⟨hold⟩
 obtain⟨q,hn⟩:∃q,(ech p L ci).2.length=q:=⟨_,rfl⟩
 obtain⟨M,hM⟩:∃M,(ech p L ci).1=M:=⟨_,rfl⟩
 rw[hM] at hb
 have hcs:=hb.len
 have hMl:M.length=L.length:=by rw[← hM];exact hoc.2.1
 have hMr:Rect p k M:=by rw[← hM];exact hoc.1
 have hnL:q≤L.length:=by rw[← hn];exact hoc.2.2.1
 have e5:Value.slice (some ⟨po,0,some 1⟩) (ech p L ci).2.length (ech p L ci).2.length=Value.slice (some ⟨po,0,some 1⟩) q q:=by rw[hn]
 have e7:Value.int .i64 ((ech p L ci).2.length:Nat)=Value.int .i64 q:=by rw[hn]
 refine KW.cnd U U (fun h=>?_) (fun h=>?_)
 ·have h:(ci:Int)<k:=h
  refine KW.lp U U (fun r:Nat=>[(1,.pointer (some ⟨H.n,0,some 0⟩)),(2,.pointer (some ⟨H.n+1,0,some 1⟩)),(4,.slice (some ⟨o,0,some 1⟩) L.length L.length),(5,.slice (some ⟨po,0,some 1⟩) q q),(6,.int .i64 ci),(7,.int .i64 q),(8,.int .i64 r),(16,.int .i64 k),(17,.int .i64 ci)]) (fun r=>q≤r∧r≤L.length∧nz M ci r=nz M ci q) (fun r=>L.length-r) (q) (⟨Nat.le_refl _,hnL,rfl⟩) ⟨rfl,rfl,rfl,e5,rfl,e7,e7,rfl,rfl,trivial⟩ (fun r hi bE n=>?_)
  obtain⟨hr1,hr2,hr3⟩:=hi
  refine KW.tst U U (fun h1=>?_) (fun h1=>?_)
  ·have h1:(r:Int)<L.length:=h1
   obtain⟨w,hw⟩:∃w,M[r]?=some w:=⟨M[r]'(by omega),List.getElem?_eq_getElem (by omega)⟩
   obtain⟨v,W,hv,hm,hWV,_,_⟩:=hb.row1 hw
   obtain⟨ra,rc,rfl⟩:=hm.form
   have hwk:=hMr.at hw
   refine KW.idx0 U U U U U U U U U (by omega) (h1) ?_
   refine KW.ldT 2 U U U U U U (bload_at (cell0 hv) U U) ?_
   refine KW.getI ((hm.sl.more (fun id hid=>hb.sub id (hWV id hid)))) U U U U U U U U U U U U U U U U (by omega) (by omega) (fun x hx=>?_)
   have hx:w[ci]?=some x:=hx
   refine KW.cnd U U (fun k2=>?_) (fun k2=>?_)
   ·have k2:x=0:=k2
    refine KW.nxt U U (fun H' g=>⟨r+1,⟨by omega,by omega,by rw[nz_step hw (by rw[List.getD_eq_getElem?_getD,hx];exact k2)];exact hr3⟩,by first | omega | (simp only;omega),⟨rfl,rfl,rfl,rfl,rfl,rfl,congrArg (Value.int .i64) (inc64 (by omega)),rfl,rfl,trivial⟩,g⟩)
   ·have k2:¬x=0:=k2
    refine KW.no U U (by omega) ?_
    have e1:nz M ci q=r:=by rw[← hr3];exact nz_stop hw (by rw[List.getD_eq_getElem?_getD,hx];exact k2)
    have hrn:q≤r:=by omega
    have hrL:r<L.length:=by omega
    obtain⟨wn,hwn⟩:∃w,M[q]?=some w:=⟨M[q]'(by omega),List.getElem?_eq_getElem (by omega)⟩
    obtain⟨vn,Wn,hvn,hmn,_,_,_⟩:=hb.row1 hwn
    obtain⟨na,nc,rfl⟩:=hmn.form
    refine KW.idx0 U U U U U U U U U (by omega) (by omega) ?_
    refine KW.ldT 2 U U U U U U (bload_at (cell0 hv) U U) ?_
    refine KW.idx0 U U U U U U U U U (by omega) (by omega) ?_
    refine KW.ldT 2 U U U U U U (bload_at (cell0 hvn) U U) ?_
    refine KW.idx0 U U U U U U U U U (by omega) (by omega) ?_
    refine KW.st1 2 U U U U U U U U U U U U (by simp only;omega) ?_
    refine KW.idx0 U U U U U U U U U (by omega) (by omega) ?_
    refine KW.st1 2 U U U U U U U U U U U U (by simp only[List.length_set];omega) ?_
    have hb2:RowsB KI.ml S1 A1 V (sw M q r) ((cs.set (0+q*1) (.slice ra w.length rc)).set (0+r*1) (.slice na wn.length nc)):=by
     rw[Nat.zero_add,Nat.zero_add,Nat.mul_one,Nat.mul_one]
     exact hb.swap (by omega) (by omega) hvn hv
    have hM1:Rect p k (sw M q r):=hMr.sw (by omega) (by omega)
    obtain⟨w1,hw1⟩:∃w,(sw M q r)[q]?=some w:=⟨(sw M q r)[q]'(by rw[sw_len];omega),List.getElem?_eq_getElem (by rw[sw_len];omega)⟩
    have hw1d:(sw M q r).getD q []=w1:=by rw[List.getD_eq_getElem?_getD,hw1];rfl
    have hw1k:=hM1.at hw1
    obtain⟨v1,W1,hv1,hm1,hW1,_,hset⟩:=hb2.row1 hw1
    obtain⟨a1,c1,rfl⟩:=hm1.form
    have hw1l:w1.length=k:=hw1k.1
    refine KW.idx0 U U U U U U U U U (by omega) (by omega) ?_
    refine KW.ldT 2 U U U U U U (bload_at (cell0 hv1) U U) ?_
    refine KW.idx0 U U U U U U U U U (by omega) (by omega) ?_
    refine KW.ldT 2 U U U U U U (bload_at (cell0 hv1) U U) ?_
    refine KW.getI ((hm1.sl.more (fun id hid=>hb2.sub id (hW1 id hid)))) U U U U U U U U U U U U U U U U (by omega) (by omega) (fun x1 hx1=>?_)
    have hx1:w1[ci]?=some x1:=hx1
    have hx1k:=hw1k.2 x1 (List.mem_of_getElem? hx1)
    refine KW.callE U U U U U (inverse p x1 hp hx1k) (fun _ _=>?_)
    have hpk:=pw_ok (a:=x1) hp.1 (p-2).toNat
    have hsub1:∀id,W1 id→S1 id:=fun id hid=>hb2.sub id (hW1 id hid)
    refine KW.callW hsub1 U U U U U (scaled hp hpk (by omega) hw1k.2 hsub1 hm1) (fun v2 H2 S2 hn2 st2 hw2 hv2=>?_)
    obtain⟨ld,hld⟩:∃ld,sc p (pw p x1 (p-2).toNat) w1=ld:=⟨_,rfl⟩
    have hlead:lead p M ci q=ld:=by
     unfold lead
     rw[e1,hw1d,← hld,List.getD_eq_getElem?_getD,hx1]
     rfl
    have hldk:ld.length=k∧∀x∈ld,0≤x∧x<p:=by rw[← hld];exact sc_ok (by omega) hw1k
    have hb3:=hset S2 H2 _ st2 hv2
    rw[hld] at hb3
    have hold2:St (Low H.n) H S2 H2:=fun id hid=>⟨(st2 id (hold id hid).1).1,by rw[(st2 id (hold id hid).1).2 (fun hw=>by have:=hVl id (hW1 id hw);have:id<H.n:=hid;omega)];exact(hold id hid).2⟩
    obtain⟨M2,hM2⟩:∃M2,(sw M q r).set q ld=M2:=⟨_,rfl⟩
    rw[hM2] at hb3
    have hM2l:M2.length=L.length:=by rw[← hM2,List.length_set,sw_len];exact hMl
    have hM2r:Rect p k M2:=by rw[← hM2];exact hM1.set hldk
    have hM2q:M2[q]?=some ld:=by rw[← hM2,List.getElem?_set_self (by rw[sw_len];omega)]
    obtain⟨cs1,hcs1⟩:∃cs1,(cs.set (0+q*1) (.slice ra w.length rc)).set (0+r*1) (.slice na wn.length nc)=cs1:=⟨_,rfl⟩
    rw[hcs1] at hb3
    refine KW.lpM U U (fun s:(Nat × Ids × AH)=>[(1,.pointer (some ⟨H.n,0,some 0⟩)),(2,.pointer (some ⟨H.n+1,0,some 1⟩)),(4,.slice (some ⟨o,0,some 1⟩) L.length L.length),(5,.slice (some ⟨po,0,some 1⟩) q q),(6,.int .i64 ci),(7,.int .i64 q),(16,.int .i64 k),(17,.int .i64 ci),(74,.slice (some ⟨o,0,some 1⟩) L.length L.length),(75,.int .i64 L.length),(76,.int .i64 s.1)]) (fun s=>s.2.1) (fun s=>s.2.2) (fun s=>[(H.n,⟨26,true,[.int .i64 p,.int .i64 k,.slice a L.length c]⟩),(H.n+1,⟨26,true,[.int .i64 0,.int .i64 0,.slice none 0 0]⟩),(o,⟨36,true,(cs.set (0+q*1) (.slice ra w.length rc)).set (0+r*1) (.slice na wn.length nc)⟩),(po,⟨_,true,(ech p L ci).2.map fun(i:Nat)=>Value.int .i64 i⟩)]) (fun s=>s.1≤L.length∧St (Low H.n) H s.2.1 s.2.2∧RowsB KI.ml s.2.1 s.2.2 V (tks p ci q ld M2 s.1) cs1) (fun s=>L.length-s.1) ((0,S2,H2)) (⟨Nat.zero_le _,hold2,by simp only[tks_zero];exact hb3⟩) ⟨rfl,rfl,rfl,rfl,rfl,rfl,rfl,rfl,rfl,rfl,rfl,trivial⟩ U U (rfl) (fun s hi bE n=>?_)
    obtain⟨i,S3,A3⟩:=s
    obtain⟨hi1,hold3,hb4⟩:=hi
    simp only at hi1 hold3 hb4
    haveI oc3:Stp (Low H.n) H S3 A3:=⟨hold3⟩
    rw[← hcs1] at hb4
    refine KW.cnd U U (fun h3=>?_) (fun h3=>?_)
    ·have h3:(i:Int)<L.length:=h3
     obtain⟨wi,hwi⟩:∃w,M2[i]?=some w:=⟨M2[i]'(by omega),List.getElem?_eq_getElem (by omega)⟩
     have hwik:=hM2r.at hwi
     obtain⟨vi,Wi,hvi,hmi,hWi,hoth,hseti⟩:=hb4.row1 ((tks_old (.inl (Nat.le_refl i))).trans hwi)
     obtain⟨ai,ic,rfl⟩:=hmi.form
     refine KW.idx0 U U U U U U U U U (by omega) (h3) ?_
     refine KW.ldT 2 U U U U U U (bload_at (cell0 hvi) U U) ?_
     refine KW.cndB U U (fun h4=>?_) (fun h4=>?_)
     ·have h4:i≠q:=by simp at h4;omega
      obtain⟨vq,Xq,hvq,hmq,hXq⟩:=hoth q ld (Ne.symm h4) ((tks_old (.inr rfl)).trans hM2q)
      obtain⟨aq,qc,rfl⟩:=hmq.form
      refine KW.idx0 U U U U U U U U U (by omega) (by omega) ?_
      refine KW.ldT 2 U U U U U U (bload_at (cell0 hvq) U U) ?_
      refine KW.getI ((hmi.sl.more (fun id hid=>hb4.sub id (hWi id hid)))) U U U U U U U U U U U U U U U U (by omega) (by omega) (fun xi hxi=>?_)
      have hxi:wi[ci]?=some xi:=hxi
      have hxik:=hwik.2 xi (List.mem_of_getElem? hxi)
      have hsubi:∀id,Wi id→S3 id:=fun id hid=>hb4.sub id (hWi id hid)
      refine KW.callW hsubi U U U U U (takeOff hp hxik (by omega) hldk.2 (fun id hid=>⟨hb4.sub id (hXq id hid).1,(hXq id hid).2⟩) hmq.sl (by omega) hwik.2 hsubi hmi) (fun v5 H5 S5 hn5 st5 hw5 hv5=>?_)
      have hb5:=hseti S5 H5 _ st5 hv5
      have hold5:St (Low H.n) H S5 H5:=fun id hid=>⟨(st5 id (hold3 id hid).1).1,by rw[(st5 id (hold3 id hid).1).2 (fun hw=>by have:=hVl id (hWi id hw);have:id<H.n:=hid;omega)];exact(hold3 id hid).2⟩
      have et:tks p ci q ld M2 (i+1)=(tks p ci q ld M2 i).set i (tk p xi wi ld):=by
       rw[tks_next h4 hwi,List.getD_eq_getElem?_getD,hxi]
       rfl
      rw[← et,hcs1] at hb5
      refine KW.nxt U U (fun H' g=>⟨(i+1,S5,H5),⟨by simp only;omega,hold5,hb5⟩,by first | omega | (simp only;omega),⟨rfl,rfl,rfl,rfl,rfl,rfl,rfl,rfl,rfl,rfl,congrArg (Value.int .i64) (inc64 (by omega)),trivial⟩,g⟩)
     ·have h4:i=q:=by simp at h4;omega
      subst h4
      rw[← tks_skip,hcs1] at hb4
      refine KW.nxt U U (fun H' g=>⟨(i+1,S3,A3),⟨by simp only;omega,hold3,hb4⟩,by first | omega | (simp only;omega),⟨rfl,rfl,rfl,rfl,rfl,rfl,rfl,rfl,rfl,rfl,congrArg (Value.int .i64) (inc64 (by omega)),trivial⟩,g⟩)
    ·have h3:¬(i:Int)<L.length:=h3
     have hiL:i=L.length:=by omega
     have eE:ech p L (ci+1)=(tks p ci q ld M2 L.length,(ech p L ci).2++[ci]):=by
      rw[ech_some (by rw[hM,hn,e1];omega),hM,hn,hlead,e1,hM2,hMl]
     have e8:∀x:Nat,Value.slice (some ⟨x,0,some 1⟩) (q+1) (q+1)=Value.slice (some ⟨x,0,some 1⟩) (ech p L (ci+1)).2.length (ech p L (ci+1)).2.length:=fun x=>by rw[eE];simp[hn]
     refine KW.app1 (xs:=(ech p L ci).2.map fun(i:Nat)=>Value.int .i64 i) (v:=.int .i64 ci) 3 4 U U U U U U U U U U U U U U U U U U U U U U U (by simp[hn]) (by show(_+1)*8≤_;omega) (by first | omega | (simp only;omega)) ?_
     refine KW.nxt U U (fun H' g=>⟨⟨ci+1,S3,A3,_,_⟩,⟨by simp only;omega,hold3,by simp only;rw[eE,← hiL];exact hb4⟩,by first | omega | (simp only;omega),⟨rfl,rfl,rfl,e8 _,rfl,congrArg (Value.int .i64) (inc64 (by omega)),trivial⟩,g.eqT (by simp only[eE,List.map_append];rfl)⟩)
  ·have h1:¬(r:Int)<L.length:=h1
   refine KW.cF U U (by first | (simp;done) | decide) ?_
   refine KW.yes U U (by omega) ?_
   have e1:nz (ech p L ci).1 ci (ech p L ci).2.length=(ech p L ci).1.length:=by rw[hM,hn,← hr3,nz_end (by omega)];omega
   have e2:=ech_none e1
   have e3:Value.slice (some ⟨po,0,some 1⟩) q q=Value.slice (some ⟨po,0,some 1⟩) (ech p L (ci+1)).2.length (ech p L (ci+1)).2.length:=by rw[e2,hn]
   refine KW.nxt U U (fun H' g=>⟨⟨ci+1,S1,A1,cs,po⟩,⟨by simp only;omega,hold,by simp only;rw[e2,hM];exact hb⟩,by first | omega | (simp only;omega),⟨rfl,rfl,rfl,e3,rfl,congrArg (Value.int .i64) (inc64 (by omega)),trivial⟩,g.eqT (by simp only[e2])⟩)
 ·have hck:ci=k:=by have h:¬(ci:Int)<k:=h;omega
  refine KW.slTo (m:=(ech p L ci).2.length) U U U U U U U U U (by omega) ?_
  refine KW.build U U U U U (built_Matrix _ _ _ _ _) ?_
  subst hck
  refine KW.retM1 U U U U (fun H1 g=>?_)
  have hno:=g.n_
  have hbo:=g.blk (j:=2) rfl
  have hbp:=g.blk (j:=3) rfl
  have hpo:=g.ge (H1:=H) (j:=3) rfl
  refine⟨_,_,_,_,rfl,?_,?_⟩
  ·rw[hM]
   exact hb.mlTo g (j:=2) rfl ⟨by have:=ho.1;omega,hbo.2⟩ (fun id hid=>⟨hVl id hid,by have:=(g.froz id (hb.sub id hid)).1;omega⟩) (by omega) (by omega)
  ·have el:((ech p L ci).2.map fun(i:Nat)=>(i:Int)).length=(ech p L ci).2.length:=by simp
   have:=mlI_of (ik:=.i64) (X:=New H.n H1.n) (c:=(ech p L ci).2.length) (ys:=(ech p L ci).2.map fun(i:Nat)=>(i:Int)) ⟨hpo,hbp.2⟩ hbp.1 rfl (by rw[el];exact Nat.le_refl _) (by simp) (fun j x hx=>by
    rw[List.getElem?_map] at hx ⊢
    cases hj:(ech p L ci).2[j]? with
    | none=>rw[hj] at hx;cases hx
    | some z=>rw[hj] at hx;cases hx;rfl)
   rw[el] at this
   exact this
end
theorem OkMat.rect {p c:Int} {L:List (List Int)} (h:OkMat p c L) {k:Nat} (hk:c=k):Rect p k L:=fun r hr=>by
 have h1:=h.row r hr
 exact⟨by have:=h1.1;omega,fun x hx=>by have:=h1.2 x hx;omega⟩
def rkM (p c:Int) (L:List (List Int)):Int:=((ech p L c.toNat).2.length:Nat)
section
variable {S:Ids} {H0:AH}
theorem rankM {p:Int} {k:Nat} (hp:2≤p∧p≤31) (hk:k≤1000) {L:List (List Int)} (hB:B_Int64SS L) (hL:Rect p k L) {a c} (hs:KI.sl.Sl S H0 (.slice a L.length c) L):SpecM Try.prog S H0 70 [.agg #[.int .i64 p,.int .i64 k,.slice a L.length c]] (fun _ v _=>v=.int .i64 (rkM p k L)):=by
 refine SpecM.of1 Try.func70 rfl (by kernel_rfl) rfl (fun H _=>?_)
 refine KW.callN1 U U U U U (echelon hp hk hB hL hs.up) (fun v HC SC mC _ _ hv=>?_)
 obtain⟨a1,c1,a2,c2,rfl,_,_⟩:=hv
 refine KW.retM1 U U U U (fun H1 g=>rfl)
end
theorem built_Matrix2 (p c:Int):Try.prog.built 26 [(0,.int .i64 p),(1,.int .i64 c)]=some #[.int .i64 p,.int .i64 c,.slice none 0 0]:=by kernel_rfl
structure CpS where
 i:Nat
 S:Ids
 A:AH
 V:Ids
 cs:List Value
 l:Value
 tail:List Var
structure CpI (xs:List (List Int)) (H HB:AH) (SB:Ids) (s:CpS):Prop where
 rw:RwI (fun x=>x) xs H SB HB ⟨s.i,s.S,s.A,s.V,s.cs,0⟩
 form:(s.i=0∧s.l=.slice none 0 0∧s.tail=[]∧s.cs=[])∨(0<s.i∧∃o,s.l=.slice (some ⟨o,0,some 1⟩) s.i s.i∧s.tail=[(o,⟨36,true,s.cs⟩)])
section
variable {S:Ids} {H0:AH}
end
section
variable {S:Ids} {H0:AH}
end
section
variable {S:Ids} {H0:AH}
end
def selR (L:List (List Int)) (R:List Int):List (List Int):=R.map fun i=>L.getD i.toNat []
theorem selR_len {L:List (List Int)} {R:List Int}:(selR L R).length=R.length:=by simp[selR]
theorem selR_mem {L:List (List Int)} {R:List Int} (hR:∀x∈R,0≤x∧x<L.length) {r:List Int} (h:r∈selR L R):r∈L:=by
  obtain⟨i,hi,rfl⟩:=List.mem_map.1 h
  have:=hR i hi
  rw[List.getD_eq_getElem?_getD,List.getElem?_eq_getElem (by omega)]
  exact List.getElem_mem _
def MkMx (p c:Int) (xs:List (List Int)) (n:Nat) (v:Value) (H1:AH):Prop:=∃a m,v=.agg #[.int .i64 p,.int .i64 c,.slice a xs.length m]∧KI.sl.Sl (New n H1.n) H1 (.slice a xs.length m) xs
def MkMxO (p c:Int) (xs:List (List Int)) (n:Nat) (v:Value) (H1:AH):Prop:=(xs=[]∧v=.agg #[.int .i64 p,.int .i64 c,.slice none 0 0])∨(xs≠[]∧∃(o:Nat) (cs:List Value),v=.agg #[.int .i64 p,.int .i64 c,.slice (some ⟨o,0,some 1⟩) xs.length xs.length]∧KI.sl.Sl (New n H1.n) H1 (.slice (some ⟨o,0,some 1⟩) xs.length xs.length) xs∧New n H1.n o∧H1.m o=some ⟨36,true,cs⟩∧cs.length=xs.length∧∀(i:Nat) x,xs[i]?=some x→∃v,cs[i]?=some v∧KI.Sl (fun id=>New n H1.n id∧id≠o) H1 v x)
theorem MkMxO.mx {p c:Int} {xs:List (List Int)} {n:Nat} {v:Value} {H1:AH} (h:MkMxO p c xs n v H1):MkMx p c xs n v H1:=by
  rcases h with⟨rfl,rfl⟩ | ⟨_,o,cs,rfl,h,_⟩
  · exact⟨none,0,rfl,.inl ⟨rfl,_,_,rfl,fun _=>rfl⟩⟩
  · exact⟨_,_,rfl,h⟩
structure CqI {α:Type} (f:α→List Int) (xs:List α) (H HB:AH) (SB:Ids) (s:CpS):Prop where
  rw:RwI f xs H SB HB ⟨s.i,s.S,s.A,s.V,s.cs,0⟩
  form:(s.i=0∧s.l=.slice none 0 0∧s.tail=[]∧s.cs=[])∨(0<s.i∧∃o,s.l=.slice (some ⟨o,0,some 1⟩) s.i s.i∧s.tail=[(o,⟨36,true,s.cs⟩)])
section
variable {S:Ids} {H0:AH}
theorem rowsAtO {p c:Int} {a1 c1 a2 c2} {L:List (List Int)} {R:List Int} (hB:B_Int64SS L) (hR:∀x∈R,0≤x∧x<L.length) (hRl:R.length≤1048576) (hs:KI.sl.Sl S H0 (.slice a1 L.length c1) L) (hr:KI.Sl S H0 (.slice a2 R.length c2) R):SpecM Try.prog S H0 156 [.agg #[.int .i64 p,.int .i64 c,.slice a1 L.length c1],.slice a2 R.length c2] (MkMxO p c (selR L R)):=by
  refine SpecM.of1 Try.func156 rfl (by kernel_rfl) rfl (fun H _=>?_)
  have hs:=hs.up (S':=Low H.n) (H':=H)
  have hr:=hr.up (S':=Low H.n) (H':=H)
  refine KW.build U U U U U (built_Matrix2 _ _) ?_
  refine KW.lpM U U (fun s:CpS=>[(2,.pointer (some ⟨H.n,0,some 0⟩)),(4,.pointer (some ⟨H.n+1,0,some 1⟩)),(5,.pointer (some ⟨H.n+2,0,some 2⟩)),(13,.slice a2 R.length c2),(14,.int .i64 R.length),(15,.int .i64 s.i)]) (fun s=>s.S) (fun s=>s.A) (fun s=>[(H.n,⟨26,true,[.int .i64 p,.int .i64 c,.slice a1 L.length c1]⟩),(H.n+1,⟨26,true,[.int .i64 0,.int .i64 0,.slice none 0 0]⟩),(H.n+2,⟨26,true,[.int .i64 p,.int .i64 c,s.l]⟩)]++s.tail) (fun s=>CqI (fun(i:Int)=>L.getD i.toNat []) R H H (Low H.n) s) (fun s=>R.length-s.i) (⟨0,Low H.n,H,fun _=>False,[],.slice none 0 0,[]⟩) (⟨RwI.start,.inl ⟨rfl,rfl,rfl,rfl⟩⟩) ⟨rfl,rfl,rfl,rfl,rfl,rfl,trivial⟩ U U (rfl) (fun s hi bE n=>?_)
  obtain⟨i,S1,A1,V,cs,l,tail⟩:=s
  obtain⟨hq,hform⟩:=hi
  simp only at hq hform
  haveI:Stp (Low H.n) H S1 A1:=⟨hq.old⟩
  have hle:=hq.le
  have hcl:=hq.b.len
  rw[List.length_map,List.length_take] at hcl
  simp only at hle hcl
  have hs1:=hs.up (S':=S1) (H':=A1)
  have hr1:=hr.up (S':=S1) (H':=A1)
  rcases hform with⟨hi0,e1,e2,e3⟩ | ⟨hi0,o,e1,e2⟩
  case' inl=>subst e1 e2 e3
  case' inr=>subst e1 e2
  all_goals
    refine KW.cnd U U (fun j1=>?gin) (fun j1=>?gout)
    case gin=>
      have j1:(i:Int)<R.length:=j1
      refine KW.getI hr1 U U U U U U U U U U U U U U U U (by omega) (j1) (fun x hx=>?_)
      have hx:R[i]?=some x:=hx
      have hxb:=hR x (List.mem_of_getElem? hx)
      refine KW.getL hs1 U U U U U U U U U U U U U U U U (hxb.1) (hxb.2) (fun y ay cy hy hsy=>?_)
      have hyl:=hB.each y (List.mem_of_getElem? hy)
      have hyd:L.getD x.toNat []=y:=by rw[List.getD_eq_getElem?_getD,hy];rfl
      refine KW.ids (fun hlow hvar=>?_)
      have hnA:=(hvar 2 (H.n+2) _ rfl).1
      refine KW.callN1 U U U U U (cloneI hyl hsy) (fun v HC SC mC _ _ hv=>?_)
      obtain⟨a5,c5,rfl,hC⟩:=hv
      rw[← hyd] at hC ⊢
      first
        | (refine KW.app0 (v:=.slice a5 (L.getD x.toNat []).length c5) 3 U U U U U U U U U U U U U U U U U U U U U U (by decide) ?_
           subst hi0
           exact KW.nxt U U (fun H' g=>⟨⟨1,SC,HC,_,_,_,_⟩,⟨hq.next (o':=0) (inferInstance:Stp S1 A1 SC HC).st inferInstance hlow (by omega) hx hC,.inr ⟨by simp only;omega,_,rfl,rfl⟩⟩,by simp only;omega,⟨rfl,rfl,rfl,rfl,rfl,rfl,trivial⟩,g⟩))
        | (refine KW.app1 (xs:=cs) (v:=.slice a5 (L.getD x.toNat []).length c5) 3 4 U U U U U U U U U U U U U U U U U U U U U U U (by omega) (by show(_+1)*24≤_;omega) (by omega) ?_
           exact KW.nxt U U (fun H' g=>⟨⟨i+1,SC,HC,_,_,_,_⟩,⟨hq.next (o':=0) (inferInstance:Stp S1 A1 SC HC).st inferInstance hlow (by omega) hx hC,.inr ⟨by simp only;omega,_,rfl,rfl⟩⟩,by simp only;omega,⟨rfl,rfl,rfl,rfl,rfl,congrArg (Value.int .i64) (inc64 (by omega)),trivial⟩,g⟩))
    case gout=>
      have j1:¬(i:Int)<R.length:=j1
      have he:i=R.length:=by omega
      have el:(selR L R).length=R.length:=selR_len
      refine KW.retM1 U U U U (fun H1 g=>?_)
      first
        | (have h0:R=[]:=List.eq_nil_of_length_eq_zero (by omega)
           subst h0
           exact .inl ⟨rfl,rfl⟩)
        | (have hm:=((⟨hq.le,hq.old,hq.b,hq.v⟩:RwI (fun(i:Int)=>L.getD i.toNat []) R H (Low H.n) H ⟨i,S1,A1,V,cs,o⟩).ml he g (j:=3) rfl (g.ge (H1:=H) (j:=3) rfl)).to (KLe.row (KLe.refl KI))
           have hb:=g.blk (j:=3) rfl
           have hge:=g.ge (H1:=H) (j:=3) rfl
           have hno:=(g.vars 3 _ rfl).2.2
           refine .inr ⟨fun h9=>by rw[h9] at el;simp at el;omega,o,cs,by rw[el,he];rfl,by rw[el];exact hm,⟨hge,hb.2⟩,hb.1,by rw[el,hcl];omega,fun z x hx=>?_⟩
           obtain⟨W,w1,w2,w3⟩:=hq.b.rows
           have hx2:((R.take i).map fun(i:Int)=>L.getD i.toNat [])[z]?=some x:=by rw[he,List.take_length];exact hx
           obtain⟨v,v1,v2⟩:=w3 z x hx2
           refine⟨v,v1,?_⟩
           have v3:KI.Sl (W z) A1 v x:=(ml1 v2).sl
           have inS:∀id,W z id→S1 id:=fun id h=>hq.b.sub id (w1 z id h)
           exact Kn.Sl.more (fun id h=>⟨⟨hq.v id (w1 z id h),by have:=(g.froz id (inS id h)).1;have:=g.n_;omega⟩,fun e=>hno (e ▸ inS id h)⟩) (Kn.Sl.same (fun id h=>(g.froz id (inS id h)).2) v3))
end
theorem rect_sml {p:Int} {k:Nat} {L:List (List Int)} (hL:Rect p k L) (hk:k≤1000) (hl:L.length≤1000):B_Int64SS L:=by
  have h:∀M:List (List Int),(∀r∈M,r.length=k)→sum (lens M)=M.length*k:=by
    intro M
    induction M with
    | nil=>intro _;simp[lens,sum]
    | cons x M ih=>
      intro hM
      have h1:=ih (fun r hr=>hM r (List.mem_cons_of_mem _ hr))
      have h2:=hM x List.mem_cons_self
      simp only[lens,List.map_cons,sum] at h1 ⊢
      rw[h1,h2,List.length_cons,Nat.add_mul]
      omega
  have h1:=h L (fun r hr=>(hL r hr).1)
  have h2:L.length*k≤1000*1000:=Nat.mul_le_mul hl hk
  exact⟨by omega,by rw[h1];omega⟩
def heldR (ow:List Int) (rows:List (List Int)) (x:Nat):List (List Int):=selR rows (rowsP (fun i=>x.testBit (ow.getD i 0).toNat) ow.length)
theorem held_in {h p c:Int} {ow:List Int} {rows:List (List Int)} (hk:OkSch h ow p c rows) {q:Nat→Bool}:∀x∈rowsP q ow.length,0≤x∧x<rows.length:=fun x hx=>by
  have:=rowsP_mem hx
  have:=hk.len
  omega
theorem held_rect {h p c:Int} {k:Nat} {ow:List Int} {rows:List (List Int)} (hk:OkSch h ow p c rows) (hc:c=k) {q:Nat→Bool}:Rect p k (selR rows (rowsP q ow.length)):=fun r hr=>hk.mat.rect hc r (selR_mem (held_in hk) hr)
theorem held_len {h p c:Int} {ow:List Int} {rows:List (List Int)} (hk:OkSch h ow p c rows) {q:Nat→Bool}:(selR rows (rowsP q ow.length)).length≤20:=by
  rw[selR_len]
  have:=rowsP_len q ow.length
  have:=hk.len
  have:=hk.mat.len
  omega
section
variable {S:Ids} {H0:AH}
theorem heldO (h p c:Int) (x:Nat) (hx:x<4611686018427387904) {a1 c1 a2 c2} {ow:List Int} {rows:List (List Int)} (hO:B_Int64S ow) (hB:B_Int64SS rows) (hk:OkSch h ow p c rows) (ho:KI.Sl S H0 (.slice a1 ow.length c1) ow) (hs:KI.sl.Sl S H0 (.slice a2 rows.length c2) rows):
    SpecM Try.prog S H0 84 [.agg #[.int .i64 h,.slice a1 ow.length c1,.int .i64 p,.int .i64 c,.slice a2 rows.length c2],.int .u64 (x:Int)] (MkMxO p c (heldR ow rows x)):=by
  refine SpecM.of1 Try.func84 rfl (by kernel_rfl) rfl (fun H _=>?_)
  refine KW.callN1 U U U U U (rowsHeld h p c x hx hO hk.own hk.h7 ho.up) (fun v HR SR mR _ _ hv=>?_)
  obtain⟨a5,c5,rfl,hR⟩:=hv
  refine KW.callN1 U U U U U (rowsAtO hB (held_in hk) (by have:=rowsP_len (fun i=>x.testBit (ow.getD i 0).toNat) ow.length;have:ow.length≤1048576:=hO;omega) hs.up hR.ups) (fun v HM SM mM _ _ hv=>?_)
  rcases hv with⟨h0,rfl⟩ | ⟨h0,o,cs,rfl,hM,q1,q2,q3,q4⟩
  · refine KW.retM1 U U U U (fun H1 g=>.inl ⟨h0,rfl⟩)
  · refine KW.retM1 U U U U (fun H1 g=>?_)
    haveI o9:=g.out (X:=New HR.n HM.n) (H:=HM) (lo:=H.n) (fun id p=>by have:=p.1;omega)
    refine .inr ⟨h0,o,cs,rfl,hM.up,(o9.st o q1).1,(o9.st o q1).2.trans q2,q3,fun i x hx=>?_⟩
    obtain⟨v,v1,v2⟩:=q4 i x hx
    exact⟨v,v1,Kn.Sl.more (fun id h=>⟨(o9.st id h.1).1,h.2⟩) (Kn.Sl.same (fun id h=>(o9.st id h.1).2) v2)⟩
theorem held (h p c:Int) (x:Nat) (hx:x<4611686018427387904) {a1 c1 a2 c2} {ow:List Int} {rows:List (List Int)} (hO:B_Int64S ow) (hB:B_Int64SS rows) (hk:OkSch h ow p c rows) (ho:KI.Sl S H0 (.slice a1 ow.length c1) ow) (hs:KI.sl.Sl S H0 (.slice a2 rows.length c2) rows):
    SpecM Try.prog S H0 84 [.agg #[.int .i64 h,.slice a1 ow.length c1,.int .i64 p,.int .i64 c,.slice a2 rows.length c2],.int .u64 (x:Int)] (MkMx p c (heldR ow rows x)):=fun H hf hz=>by
  obtain⟨m,v,H1,k1,k2,k3,h9⟩:=heldO h p c x hx hO hB hk ho hs H hf hz
  exact⟨m,v,H1,k1,k2,k3,h9.mx⟩
theorem l04Part (h p c:Int) {id kk:Nat} {a1 c1 a2 c2 a c3} {ow g0:List Int} {rows:List (List Int)} (hO:B_Int64S ow) (hB:B_Int64SS rows) (hk:OkSch h ow p c rows) (hG:g0.length≤1048576) (hv0:Has3 S H0 id kk [.int .i64 h,.slice a1 ow.length c1,.int .i64 p,.int .i64 c,.slice a2 rows.length c2]) (ho:KI.Sl S H0 (.slice a1 ow.length c1) ow) (hs:KI.sl.Sl S H0 (.slice a2 rows.length c2) rows) (hg:KI.Sl S H0 (.slice a g0.length c3) g0):
    SpecM Try.prog S H0 88 [.pointer (some ⟨id,kk,none⟩),.slice a g0.length c3] (MkMx p c (selR rows (rowsP (fun i=>decide (ow.getD i 0∈g0)) ow.length))):=by
  refine SpecM.of1 Try.func88 rfl (by kernel_rfl) rfl (fun H _=>?_)
  have hO':ow.length≤1048576:=hO
  have hv:=hv0.up (S':=Low H.n) (H':=H)
  refine KW.ldF 2 hv U U U U U U U U U ?_
  refine KW.ldF 3 hv U U U U U U U U U ?_
  refine KW.build U U U U U (built_Matrix2 _ _) ?_
  refine KW.callN1 U U U U U (l04Held h p c hO hG hv.up ho.up hg.up) (fun v HR SR mR _ _ hv=>?_)
  obtain⟨a5,c5,rfl,hR⟩:=hv
  have hrl:=rowsP_len (fun i=>decide (ow.getD i 0∈g0)) ow.length
  have hRm:=held_in hk (q:=fun i=>decide (ow.getD i 0∈g0))
  generalize rowsP (fun i=>decide (ow.getD i 0∈g0)) ow.length=R at *
  have hs:=hs.up (S':=SR) (H':=HR)
  refine KW.lpM U U (fun s:CpS=>[(0,.pointer (some ⟨id,kk,none⟩)),(4,.pointer (some ⟨H.n,0,some 0⟩)),(5,.pointer (some ⟨H.n+1,0,some 1⟩)),(6,.slice a5 R.length c5),(7,.int .i64 s.i)]) (fun s=>s.S) (fun s=>s.A) (fun s=>[(H.n,⟨26,true,[.int .i64 0,.int .i64 0,.slice none 0 0]⟩),(H.n+1,⟨26,true,[.int .i64 p,.int .i64 c,s.l]⟩)]++s.tail) (fun s=>CqI (fun(i:Int)=>rows.getD i.toNat []) R H HR SR s) (fun s=>R.length-s.i) (⟨0,SR,HR,fun _=>False,[],.slice none 0 0,[]⟩) (⟨RwI.start,.inl ⟨rfl,rfl,rfl,rfl⟩⟩) ⟨rfl,rfl,rfl,rfl,rfl,trivial⟩ U U (rfl) (fun s hi bE n=>?_)
  obtain⟨i,S1,A1,V,cs,l,tail⟩:=s
  obtain⟨hq,hform⟩:=hi
  simp only at hq hform
  haveI:Stp SR HR S1 A1:=⟨hq.old⟩
  have hle:=hq.le
  have hcl:=hq.b.len
  rw[List.length_map,List.length_take] at hcl
  simp only at hle hcl
  have hs1:=hs.up (S':=S1) (H':=A1)
  have hr1:=hR.ups (S':=S1) (H':=A1)
  have hv1:=hv.up (S':=S1) (H':=A1)
  rcases hform with⟨hi0,e1,e2,e3⟩ | ⟨hi0,o,e1,e2⟩
  case' inl=>subst e1 e2 e3
  case' inr=>subst e1 e2
  all_goals
    refine KW.cnd U U (fun j1=>?gin) (fun j1=>?gout)
    case gin=>
      have j1:(i:Int)<R.length:=j1
      refine KW.ldF 4 hv1 U U U U U U U U U ?_
      refine KW.getI hr1 U U U U U U U U U U U U U U U U (by omega) (j1) (fun x hx=>?_)
      have hx:R[i]?=some x:=hx
      have hxb:=hRm x (List.mem_of_getElem? hx)
      refine KW.getL hs1 U U U U U U U U U U U U U U U U (hxb.1) (hxb.2) (fun y ay cy hy hsy=>?_)
      have hyl:=hB.each y (List.mem_of_getElem? hy)
      have hyd:rows.getD x.toNat []=y:=by rw[List.getD_eq_getElem?_getD,hy];rfl
      refine KW.ids (fun hlow hvar=>?_)
      have hnA:=(hvar 1 (H.n+1) _ rfl).1
      refine KW.callN1 U U U U U (l00Own hyl hsy) (fun v HC SC mC _ _ hv=>?_)
      obtain⟨a6,c6,rfl,hC⟩:=hv
      rw[← hyd] at hC ⊢
      first
        | (refine KW.app0 (v:=.slice a6 (rows.getD x.toNat []).length c6) 2 U U U U U U U U U U U U U U U U U U U U U U (by decide) ?_
           subst hi0
           exact KW.nxt U U (fun H' g=>⟨⟨1,SC,HC,_,_,_,_⟩,⟨hq.next (o':=0) (inferInstance:Stp S1 A1 SC HC).st inferInstance hlow (by omega) hx hC,.inr ⟨by simp only;omega,_,rfl,rfl⟩⟩,by simp only;omega,⟨rfl,rfl,rfl,rfl,rfl,trivial⟩,g⟩))
        | (refine KW.app1 (xs:=cs) (v:=.slice a6 (rows.getD x.toNat []).length c6) 2 3 U U U U U U U U U U U U U U U U U U U U U U U (by omega) (by show(_+1)*24≤_;omega) (by omega) ?_
           exact KW.nxt U U (fun H' g=>⟨⟨i+1,SC,HC,_,_,_,_⟩,⟨hq.next (o':=0) (inferInstance:Stp S1 A1 SC HC).st inferInstance hlow (by omega) hx hC,.inr ⟨by simp only;omega,_,rfl,rfl⟩⟩,by simp only;omega,⟨rfl,rfl,rfl,rfl,congrArg (Value.int .i64) (inc64 (by omega)),trivial⟩,g⟩))
    case gout=>
      have j1:¬(i:Int)<R.length:=j1
      have he:i=R.length:=by omega
      have el:(selR rows R).length=R.length:=selR_len
      refine KW.retM1 U U U U (fun H1 g=>?_)
      first
        | (have h0:R=[]:=List.eq_nil_of_length_eq_zero (by omega)
           subst h0
           exact⟨none,0,rfl,.inl ⟨rfl,_,_,rfl,fun _=>rfl⟩⟩)
        | (refine⟨_,_,by rw[el,he];rfl,?_⟩
           have hm:=((⟨hq.le,hq.old,hq.b,hq.v⟩:RwI (fun(i:Int)=>rows.getD i.toNat []) R H SR HR ⟨i,S1,A1,V,cs,o⟩).ml he g (j:=2) rfl (g.ge (H1:=H) (j:=2) rfl)).to (KLe.row (KLe.refl KI))
           rw[el]
           exact hm)
end
section
variable {S:Ids} {H0:AH}
end
section
variable {S:Ids} {H0:AH}
end
def MkMo (p c:Int) (xs:List (List Int)) (n:Nat) (v:Value) (H1:AH):Prop:=∃a m,v=.agg #[.int .i64 p,.int .i64 c,.slice a xs.length m]∧KI.ml.Ml (New n H1.n) H1 (.slice a xs.length m) xs
section
variable {S:Ids} {H0:AH}
end
end Go.Proofs.Ytlapbbffoapleaa.Am
namespace Go.Proofs.Ytlapbbffoapleaa.Am
open Go Go.RowKit
def dif (a b:Nat):Nat:=a ^^^ (a &&& b)
section
variable {l:List Int} {m:Nat}
end
section
variable {l:List Int} {u:Int} {gs:List (List Int)} {m:Nat}
end
end Go.Proofs.Ytlapbbffoapleaa.Am
namespace Go.Proofs.Ytlapbbffoapleaa.Am
open Go Go.RowKit Go.Proofs
def FmR (m u:Int) (l:List Int) (h:Int) (gs:List (List Int)) (g0 g1:List Int) (code:Int):Prop:=
 (¬fitC m u l h gs=0∧g0=[]∧g1=[]∧code=fitC m u l h gs)∨
 (fitC m u l h gs=0∧∃a b f,Fst l u gs a b f∧((f=false∧g0=[]∧g1=[]∧code=6)∨(f=true∧g0=hold a 7∧g1=hold b 7∧code=0)))
theorem FmR.one {m u:Int} {l:List Int} {h:Int} {gs:List (List Int)} {g0 g1 g0' g1':List Int} {code code':Int} (p:FmR m u l h gs g0 g1 code) (q:FmR m u l h gs g0' g1' code'):g0=g0'∧g1=g1'∧code=code':=by
 rcases p with⟨h0,rfl,rfl,rfl⟩ | ⟨h0,a,b,f,hf,p⟩<;>rcases q with⟨k0,rfl,rfl,rfl⟩ | ⟨k0,a',b',f',kf,q⟩
 ·exact⟨rfl,rfl,rfl⟩
 ·exact absurd k0 h0
 ·exact absurd h0 k0
 ·obtain⟨rfl,rfl,rfl⟩:=hf.one kf
  rcases p with⟨rfl,rfl,rfl,rfl⟩ | ⟨rfl,rfl,rfl,rfl⟩<;>rcases q with⟨e,rfl,rfl,rfl⟩ | ⟨e,rfl,rfl,rfl⟩<;>first | exact⟨rfl,rfl,rfl⟩ | cases e
theorem FmR.len {m u:Int} {l:List Int} {h:Int} {gs:List (List Int)} {g0 g1:List Int} {code:Int} (p:FmR m u l h gs g0 g1 code):g0.length≤7∧g1.length≤7:=by
 rcases p with⟨h0,rfl,rfl,rfl⟩ | ⟨h0,a,b,f,hf,⟨rfl,rfl,rfl,rfl⟩ | ⟨rfl,rfl,rfl,rfl⟩⟩<;>first | exact⟨by simp,by simp⟩ | exact⟨hold_len _ _,hold_len _ _⟩
section
variable {S:Ids} {H0:AH}
end
abbrev T_Ranks:Type:=(Int) × (Int) × (List Int)
abbrev M_Ranks:Kn T_Ranks:=Kn.mp (KI) (Kn.mp (KI) (M_Int64S))
section
variable {S:Ids} {H0:AH} {W:Ids} {left k:Int}
end
section
variable {S:Ids} {H0:AH} {W:Ids} {left k:Int}
end
theorem hold_mem {c n:Nat} {x:Int} (h:x∈hold c n):∃i:Nat,x=i∧i<n∧c.testBit i=true:=by
 unfold hold at h
 obtain⟨i,hi,rfl⟩:=List.mem_map.1 h
 obtain⟨h1,h2⟩:=List.mem_filter.1 hi
 exact⟨i,rfl,List.mem_range.1 h1,h2⟩
theorem ranksM {X:Ids} {H:AH} {v:Value} {m u:Int} {xs:List Int} (h:KI.Ml X H v xs):M_Ranks.R X H (m,u,xs) [.int .i64 m,.int .i64 u,v]:=
 mpR (X:=None_) (cs:=[.int .i64 m]) (show KI.R None_ H m _ from rfl) (mpR (X:=None_) (cs:=[.int .i64 u]) (show KI.R None_ H u _ from rfl) (ml1' h) (fun _ p=>p.elim) (fun _ p=>p) (fun _ p _=>p.elim)) (fun _ p=>p.elim) (fun _ p=>p) (fun _ p _=>p.elim)
def MkRC (r:T_Ranks) (code:Int) (n:Nat) (v:Value) (H1:AH):Prop:=∃cs:List Value,v=.tuple #[.agg cs.toArray,.int .i64 code]∧M_Ranks.R (New n H1.n) H1 r cs
theorem MkRC.nil {code:Int} {n:Nat} {v:Value} {H1:AH} (hv:v=.tuple #[.agg #[.int .i64 0,.int .i64 0,.slice none 0 0],.int .i64 code]):MkRC (0,0,[]) code n v H1:=⟨_,hv,ranksM (.inl ⟨rfl,_,_,rfl,fun _=>rfl⟩)⟩
section
variable {S:Ids} {H0:AH}
end
end Go.Proofs.Ytlapbbffoapleaa.Am
namespace Go.Proofs.Ytlapbbffoapleaa.Am
open Go Go.RowKit Go.Proofs Go.Proofs.Ytlapbbffoapleaa.Pl
def SchOk (x:T_Scheme):Prop:=OkSch x.1 x.2.1 x.2.2.1 x.2.2.2.1 x.2.2.2.2
section
variable {S:Ids} {H0:AH}
theorem split2_Scheme {x:T_Scheme} {cs:List Value} (h:K_Scheme.R S H0 x cs):∃a1 c1 a2 c2,cs=[.int .i64 x.1,.slice a1 x.2.1.length c1,.int .i64 x.2.2.1,.int .i64 x.2.2.2.1,.slice a2 x.2.2.2.2.length c2]∧KI.Sl S H0 (.slice a1 x.2.1.length c1) x.2.1∧KI.sl.Sl S H0 (.slice a2 x.2.2.2.2.length c2) x.2.2.2.2:=by
 obtain⟨a1,c1,a2,c2,rfl,h1,h2⟩:=split_Scheme h
 obtain⟨a3,c3,e,h3⟩:=split_Matrix h2
 simp only[List.cons.injEq,Value.slice.injEq,true_and,and_true] at e
 obtain⟨rfl,rfl⟩:=e
 exact⟨_,_,_,_,rfl,sl1 h1,sl1 h3⟩
theorem hold_has {y:Int} {x q:Nat} (h0:0≤y) (h1:y<q):decide (y∈hold x q)=x.testBit y.toNat:=by
 obtain⟨j,rfl⟩:∃j:Nat,y=j:=⟨y.toNat,by omega⟩
 rw[Int.toNat_natCast]
 by_cases hb:x.testBit j=true
 ·rw[hb,decide_eq_true]
  exact List.mem_map.2 ⟨j,List.mem_filter.2 ⟨List.mem_range.2 (by omega),hb⟩,rfl⟩
 ·rw[decide_eq_false (fun hm=>by obtain⟨i,h2,_,h3⟩:=hold_mem hm;exact hb (by rw[show j=i by omega];exact h3))]
  simpa using hb
end
def unitL (k:Nat):List Int:=1 :: List.replicate (k-1) 0
theorem unitL_len {k:Nat} (h:1≤k):(unitL k).length=k:=by simp[unitL];omega
theorem unitL_cells {k:Nat} (h:1≤k):(List.replicate k (Value.int .i64 0)).set (0+(0:Int).toNat*1) (Value.int .i64 1)=(unitL k).map (Value.int .i64):=by
 obtain⟨m,rfl⟩:∃m,k=m+1:=⟨k-1,by omega⟩
 simp[unitL,List.replicate_succ]
theorem ech_piv (p:Int) (L:List (List Int)):∀c,(ech p L c).2.length≤c
 | 0=>by simp[ech]
 | c+1=>by
  have h:=ech_piv p L c
  simp only[ech]
  split
  ·omega
  ·simp;omega
def MkSC (r:T_Scheme) (code:Int) (n:Nat) (v:Value) (H1:AH):Prop:=∃cs:List Value,v=.tuple #[.agg cs.toArray,.int .i64 code]∧M_Scheme.R (New n H1.n) H1 r cs
theorem schemeM {X X1 X2:Ids} {H:AH} {h p c:Int} {v w:Value} {ow:List Int} {rows:List (List Int)} (h1:KI.Ml X1 H v ow) (h2:KI.ml.Ml X2 H w rows) (i1:∀id,X1 id→X id) (i2:∀id,X2 id→X id) (hd:∀id,X1 id→X2 id→False):M_Scheme.R X H (h,ow,(p,c,rows)) [.int .i64 h,v,.int .i64 p,.int .i64 c,w]:=
 have k2:M_Matrix.R X2 H (p,c,rows) [.int .i64 p,.int .i64 c,w]:=mpR (X:=None_) (cs:=[.int .i64 p]) (show KI.R None_ H p _ from rfl) (mpR (X:=None_) (cs:=[.int .i64 c]) (show KI.R None_ H c _ from rfl) (ml1' h2) (fun _ p=>p.elim) (fun _ p=>p) (fun _ p _=>p.elim)) (fun _ p=>p.elim) (fun _ p=>p) (fun _ p _=>p.elim)
 mpR (X:=None_) (cs:=[.int .i64 h]) (show KI.R None_ H h _ from rfl) (mpR (cs:=[v]) (ml1' h1) k2 i1 i2 hd) (fun _ p=>p.elim) (fun _ p=>p) (fun _ p _=>p.elim)
theorem MkSC.nil {code:Int} {n:Nat} {v:Value} {H1:AH} (hv:v=.tuple #[.agg #[.int .i64 0,.slice none 0 0,.int .i64 0,.int .i64 0,.slice none 0 0],.int .i64 code]):MkSC (0,[],(0,0,[])) code n v H1:=
 ⟨_,hv,schemeM (X1:=None_) (X2:=None_) (.inl ⟨rfl,_,_,rfl,fun _=>rfl⟩) (.inl ⟨rfl,_,_,rfl,fun _=>rfl⟩) (fun _ p=>p.elim) (fun _ p=>p.elim) (fun _ p _=>p.elim)⟩
theorem built_Scheme0:Try.prog.built 38 []=some #[.int .i64 0,.slice none 0 0,.int .i64 0,.int .i64 0,.slice none 0 0]:=by kernel_rfl
theorem built_Scheme3 (h p c:Int) (a1:Option Addr) (n1 c1:Nat) (a2:Option Addr) (n2 c2:Nat):Try.prog.built 38 [(0,.int .i64 h),(1,.slice a1 n1 c1),(2,.agg #[.int .i64 p,.int .i64 c,.slice a2 n2 c2])]=some #[.int .i64 h,.slice a1 n1 c1,.int .i64 p,.int .i64 c,.slice a2 n2 c2]:=by kernel_rfl
section
variable {S:Ids} {H0:AH}
theorem unit (k:Nat) (h1:1≤k) (hk:k≤1000):SpecM Try.prog S H0 91 [.int .i64 k] (MkL (unitL k)):=by
 refine SpecM.of1 Try.func91 rfl (by kernel_rfl) rfl (fun H _=>?_)
 refine KW.mk1 U U U U U U U U U U U U (k) U U (by omega) (by show 8*_≤_;omega) ?_
 refine KW.idx0 U U U U U U U U U (by omega) (by omega) ?_
 refine KW.st1 0 U U U U U U U U U U U U (by simp;omega) ?_
 refine KW.retM1 U U U U (fun H1 g=>?_)
 have hb:=g.blk (j:=0) rfl
 exact⟨some ⟨H.n,0,some 1⟩,k,by rw[unitL_len h1];rfl,int_ml ⟨Nat.le_refl _,hb.2⟩ hb.1 rfl (unitL_cells h1) (by rw[unitL_len h1];exact Nat.le_refl _)⟩
end
end Go.Proofs.Ytlapbbffoapleaa.Am
namespace Go.Proofs.Ytlapbbffoapleaa.Am
open Go Go.RowKit
theorem hold_congr {x y n:Nat} (h:∀i,i<n→x.testBit i=y.testBit i):hold x n=hold y n:=by
 unfold hold
 congr 1
 exact List.filter_congr fun i hi=>h i (List.mem_range.1 hi)
theorem bitsOf_snoc (g:List Int) (a:Int):bitsOf (g++[a])=bitsOf g ||| 2 ^ a.toNat:=by
 unfold bitsOf
 rw[List.foldl_append];rfl
theorem rises_front {lo hi:Int} {g:List Int} {a:Int} (h:Rises lo hi (g++[a])):Rises lo hi g∧(∀x∈g,x<a)∧lo≤a∧a≤hi:=by
 have at_:∀i,i<g.length→(g++[a]).getD i 0=g.getD i 0:=fun i hi=>by
  rw[List.getD_eq_getElem?_getD,List.getD_eq_getElem?_getD,List.getElem?_append_left hi]
 have last:(g++[a]).getD g.length 0=a:=by
  rw[List.getD_eq_getElem?_getD];simp
 have hr:Rises lo hi g:=fun i hi=>by
  obtain⟨h1,h2⟩:=h i (by simp;omega)
  rw[at_ i hi] at h1 h2
  refine⟨h1,fun h0=>?_⟩
  have:=h2 h0
  rwa [at_ (i-1) (by omega)] at this
 have hl:=h g.length (by simp)
 unfold RiseAt at hl
 rw[last] at hl
 refine⟨hr,fun x hx=>?_,hl.1.1,hl.1.2⟩
 obtain⟨i,hi⟩:=List.getElem?_of_mem hx
 have hil:=(List.getElem?_eq_some_iff.1 hi).1
  -- each element is at most the last one of g
 have up:∀d i,i+d=g.length-1→i<g.length→g.getD i 0≤g.getD (g.length-1) 0:=fun d=>by
  induction d with
  | zero=>intro i h1 h2;rw[show i=g.length-1 by omega];exact Int.le_refl _
  | succ d ih=>
   intro i h1 h2
   have h3:=ih (i+1) (by omega) (by omega)
   have h4:=(hr (i+1) (by omega)).2 (by omega)
   simp only[Nat.add_sub_cancel] at h4
   omega
 have h5:=up (g.length-1-i) i (by omega) hil
 have h6:=hl.2 (by omega)
 rw[at_ (g.length-1) (by omega)] at h6
 rw[getD_of hi] at h5
 omega
theorem bitsOf_test {g:List Int} (hg:∀x∈g,0≤x) (i:Nat):(bitsOf g).testBit i=true↔(i:Int)∈g:=by
 have key:∀(g:List Int) (a:Nat),(∀x∈g,0≤x)→((g.foldl (fun a x=>a ||| 2 ^ x.toNat) a).testBit i=true↔(a.testBit i=true∨(i:Int)∈g)):=by
  intro g
  induction g with
  | nil=>intro a _;simp
  | cons x g ih=>
   intro a hx
   have h0:=hx x List.mem_cons_self
   simp only[List.foldl_cons]
   rw[ih _ (fun y hy=>hx y (List.mem_cons_of_mem _ hy)),Nat.testBit_or,Nat.testBit_two_pow,List.mem_cons]
   have e:x.toNat=i↔(i:Int)=x:=by omega
   simp only[Bool.or_eq_true,decide_eq_true_eq,e]
   constructor
   ·rintro ((h | h) | h)
    ·exact .inl h
    ·exact .inr (.inl h)
    ·exact .inr (.inr h)
   ·rintro (h | h | h)
    ·exact .inl (.inl h)
    ·exact .inl (.inr h)
    ·exact .inr h
 have:=key g 0 hg
 simpa [bitsOf] using this
theorem hold_bits:∀(n:Nat) {g:List Int},Rises 0 ((n:Int)-1) g→hold (bitsOf g) n=g
 | 0,g,h=>by
  cases g with
  | nil=>rfl
  | cons x g=>have:=(h 0 (by simp)).1;omega
 | n+1,g,h=>by
  rcases List.eq_nil_or_concat g with rfl | ⟨g',a,hga⟩
  ·unfold hold bitsOf;simp
  ·rw[List.concat_eq_append] at hga
   subst hga
   obtain⟨h1,h2,h3,h4⟩:=rises_front h
   have hg':∀x∈g',0≤x:=fun x hx=>(rises_mem h1 x hx).1
   rw[hold_next]
   by_cases ha:a=n
   ·subst ha
    have hb:(bitsOf (g'++[(n:Int)])).testBit n=true:=by rw[bitsOf_snoc,Nat.testBit_or,Nat.testBit_two_pow];simp
    rw[if_pos hb]
    congr 1
    have h5:Rises 0 ((n:Int)-1) g':=fun i hi=>by
     obtain⟨h6,h7⟩:=h1 i hi
     refine⟨⟨h6.1,?_⟩,h7⟩
     have:=h2 (g'.getD i 0) (by rw[List.getD_eq_getElem?_getD,List.getElem?_eq_getElem hi];exact List.getElem_mem hi)
     omega
    have ih:=hold_bits n h5
    rw[← ih]
    rw[ih]
    refine Eq.trans (hold_congr fun i hi=>?_) ih
    rw[bitsOf_snoc,Nat.testBit_or,Nat.testBit_two_pow]
    have h9:¬n=i:=by omega
    simp[h9]
   ·have h5:Rises 0 ((n:Int)-1) (g'++[a]):=fun i hi=>by
     obtain⟨h6,h7⟩:=h i hi
     refine⟨⟨h6.1,?_⟩,h7⟩
     have hm:(g'++[a]).getD i 0∈g'++[a]:=by rw[List.getD_eq_getElem?_getD,List.getElem?_eq_getElem hi];exact List.getElem_mem hi
     rcases List.mem_append.1 hm with h8 | h8
     ·have:=h2 _ h8;omega
     ·have:=List.mem_singleton.1 h8;omega
    have hb:¬(bitsOf (g'++[a])).testBit n=true:=fun hc=>by
     have:=(bitsOf_test (fun x hx=>(rises_mem h5 x hx).1) n).1 hc
     have:=(rises_mem h5 _ this).2
     omega
    rw[if_neg hb]
    exact hold_bits n h5
end Go.Proofs.Ytlapbbffoapleaa.Am
namespace Go.Proofs.Ytlapbbffoapleaa.Pl
theorem ech_shape {p:Int} {K:Nat} {L:List (List Int)} (hf:Fer p) (h:Rect p K L):∀c,Ech p K c (ech p L c).1 (ech p L c).2
 | 0=>⟨h,by simp[ech],fun i q r hi=>by simp[ech] at hi,fun i r _ _ j hj=>absurd hj (Nat.not_lt_zero _),fun i q j r hi=>by simp[ech] at hi⟩
 | c+1=>by
  have ih:=ech_shape hf h c
  have hp:0<p:=by have:=hf.1;omega
  simp only[ech]
  split
  ·rename_i hr
   exact ih.none_ hr
  ·rename_i L' hr
   exact ih.some_ hf hr (rnd_ok hp ih.rect ih.le hr).1
theorem ech_sat {p:Int} {k:Nat} {L:List (List Int)} (hf:Fer p) (h:Rect p (k+1) L) {x:List Int}:∀c,AllS p k (ech p L c).1 x↔AllS p k L x
 | 0=>Iff.rfl
 | c+1=>by
  have ih:=ech_sat hf h (x:=x) c
  have sh:=ech_shape hf h c
  simp only[ech]
  split
  ·exact ih
  ·rename_i L' hr
   exact(rnd_sat hf sh.rect sh.le hr).trans ih
def vec (p:Nat):Nat→List (List Int)
 | 0=>[[]]
 | m+1=>(vec p m).flatMap fun t=>(List.range p).map fun(a:Nat)=>(a:Int) :: t
theorem vec_len {p:Nat}:∀(m:Nat) {t:List Int},t∈vec p m→t.length=m
 | 0,t,h=>by simp[vec] at h;simp[h]
 | m+1,t,h=>by
  simp only[vec,List.mem_flatMap,List.mem_map] at h
  obtain⟨u,hu,a,_,rfl⟩:=h
  simp[vec_len m hu]
theorem count_flat {α β:Type} {l:List α} {f:α→List β} {Q:β→Bool} {R:α→Bool} {q:Nat} (h:∀t∈l,(f t).countP Q=if R t=true then q else 0):(l.flatMap f).countP Q=q*l.countP R:=by
 induction l with
 | nil=>simp
 | cons t l ih=>
  rw[List.flatMap_cons,List.countP_append,List.countP_cons,h t List.mem_cons_self,ih (fun u hu=>h u (List.mem_cons_of_mem _ hu)),Nat.mul_add]
  split<;>simp<;>omega
theorem count_one (s:Nat):∀m,(List.range m).countP (fun a=>decide (a=s))=if s<m then 1 else 0
 | 0=>by simp
 | m+1=>by
  rw[List.range_succ,List.countP_append,count_one s m,List.countP_cons,List.countP_nil]
  by_cases h:m=s
  ·subst h;simp
  ·rw[show decide (m=s)=false by simp[h]]
   simp only[Nat.zero_add,Bool.false_eq_true,if_false,Nat.add_zero]
   by_cases h2:s<m
   ·rw[if_pos h2,if_pos (by omega)]
   ·rw[if_neg h2,if_neg (by omega)]
theorem count_root {p:Int} (hp:0<p) (z:Int):(List.range p.toNat).countP (fun a:Nat=>decide (((a:Int)+z)%p=0))=1:=by
 have h1:=Int.emod_nonneg (-z) (show p≠0 by omega)
 have h2:=Int.emod_lt_of_pos (-z) hp
 obtain⟨s,hs⟩:∃s:Nat,(-z)%p=s:=⟨((-z)%p).toNat,by omega⟩
 have h3:=count_one s p.toNat
 rw[if_pos (by omega)] at h3
 rw[← h3]
 refine List.countP_congr fun a ha=>?_
 have ha:=List.mem_range.1 ha
 simp only[decide_eq_true_eq]
 have e:((a:Int)+z)%p=0↔(a:Int)%p=(-z)%p:=by
  rw[Int.emod_eq_emod_iff_emod_sub_eq_zero]
  rw[show(a:Int) - -z=a+z by omega]
 rw[e,hs,Int.emod_eq_of_lt (by omega) (by omega)]
 omega
def fr (P:List Nat):Nat→Nat
 | 0=>0
 | c+1=>fr P c+if c∈P then 0 else 1
theorem fr_mono (P:List Nat) (c:Nat):fr P c≤fr P (c+1):=by simp only[fr];omega
theorem fr_le (P:List Nat) {c d:Nat} (h:c≤d):fr P c≤fr P d:=by
 induction d with
 | zero=>
  have:c=0:=by omega
  subst this;exact Nat.le_refl _
 | succ d ih=>
  rcases Nat.eq_or_lt_of_le h with e | e
  ·rw[e];exact Nat.le_refl _
  ·exact Nat.le_trans (ih (by omega)) (fr_mono P d)
theorem fr_app {P:List Nat} {c:Nat}:∀{d:Nat},d≤c→fr (P++[c]) d=fr P d
 | 0,_=>rfl
 | d+1,h=>by
  have h1:d≠c:=by omega
  simp only[fr]
  rw[fr_app (show d≤c by omega)]
  simp[h1]
theorem ech_fr {p:Int} {K:Nat} {L:List (List Int)} (hf:Fer p) (h:Rect p K L):∀c,fr (ech p L c).2 c+(ech p L c).2.length=c
 | 0=>by simp[ech,fr]
 | c+1=>by
  have ih:=ech_fr hf h c
  have sh:=ech_shape hf h c
  have hnc:c∉(ech p L c).2:=fun hm=>by
   obtain⟨i,hi⟩:=List.getElem?_of_mem hm
   have hil:=(List.getElem?_eq_some_iff.1 hi).1
   have:=(sh.piv i c _ hi (List.getElem?_eq_getElem (by have:=sh.le;omega))).1
   omega
  simp only[ech]
  split
  ·simp only[fr,if_neg hnc];omega
  ·simp only[fr,fr_app (Nat.le_refl c),List.length_append,List.length_singleton]
   simp;omega
def Tail (p:Int) (k:Nat) (E:List (List Int)) (P:List Nat) (m:Nat) (t:List Int):Prop:=∀(i q:Nat) r,P[i]?=some q→k-m≤q→E[i]?=some r→(dF r (k-m) t-r.getD k 0)%p=0
theorem count_tail {p:Int} {k:Nat} {E:List (List Int)} {P:List Nat} (hp:0<p) (h:Ech p (k+1) k E P) {D:∀m t,Decidable (Tail p k E P m t)}:∀m,m≤k→(vec p.toNat m).countP (fun t=>@decide _ (D m t))=p.toNat ^ (fr P k-fr P (k-m))
 | 0,_=>by
  have hT:Tail p k E P 0 []:=fun i q r hi hq hr=>by
   have:=(h.piv i q r hi hr).1
   omega
  simp[vec,hT]
 | m+1,hm=>by
  have ih:=count_tail hp h (D:=D) m (by omega)
  obtain⟨c,hc⟩:∃c,k-(m+1)=c:=⟨_,rfl⟩
  have hc1:k-m=c+1:=by omega
  rw[hc1] at ih
  have hfr:=fr_le P (show c+1≤k by omega)
  have hlow:∀(t:List Int) (a:Int) (i q:Nat) r,P[i]?=some q→c+1≤q→E[i]?=some r→dF r c (a :: t)=dF r (c+1) t:=fun t a i q r hi hq hr=>by
   simp only[dF]
   rw[(h.piv i q r hi hr).2.2 c (by omega)]
   omega
  have hrest:∀(t:List Int) (a:Int),Tail p k E P (m+1) (a :: t)→Tail p k E P m t:=fun t a hT i q r hi hq hr=>by
   rw[hc1] at hq ⊢
   have:=hT i q r hi (by omega) hr
   rw[hc,hlow t a i q r hi hq hr] at this
   exact this
  simp only[vec]
  by_cases hmem:c∈P
  ·obtain⟨i0,hi0⟩:=List.getElem?_of_mem hmem
   have hil:=(List.getElem?_eq_some_iff.1 hi0).1
   obtain⟨r0,hr0⟩:∃r,E[i0]?=some r:=⟨E[i0]'(by have:=h.le;omega),List.getElem?_eq_getElem (by have:=h.le;omega)⟩
   have hone:=(h.piv i0 c r0 hi0 hr0).2.1
   rw[count_flat (R:=fun t=>@decide _ (D m t)) (q:=1),ih,hc]
   ·simp only[fr,if_pos hmem,Nat.add_zero,Nat.one_mul]
   ·intro t ht
    have hiff:∀a:Int,Tail p k E P (m+1) (a :: t)↔(Tail p k E P m t∧(a+(dF r0 (c+1) t-r0.getD k 0))%p=0):=fun a=>by
     constructor
     ·intro hT
      refine⟨hrest t a hT,?_⟩
      have:=hT i0 c r0 hi0 (by omega) hr0
      rw[hc] at this
      simp only[dF] at this
      rw[hone] at this
      rw[show a+(dF r0 (c+1) t-r0.getD k 0)=1*a+dF r0 (c+1) t-r0.getD k 0 by omega]
      exact this
     ·rintro ⟨hT,ha⟩ i q r hi hq hr
      rw[hc] at hq ⊢
      rcases Nat.eq_or_lt_of_le hq with e | e
      ·subst e
       have:i=i0:=Classical.byContradiction fun hne=>by
        have h0:=h.red i c i0 r0 hi (fun e=>hne e.symm) hr0
        rw[hone] at h0
        cases h0
       subst this
       rw[hr0] at hr
       cases hr
       simp only[dF]
       rw[hone,show 1*a+dF r0 (c+1) t-r0.getD k 0=a+(dF r0 (c+1) t-r0.getD k 0) by omega]
       exact ha
      ·rw[hlow t a i q r hi e hr]
       have:=hT i q r hi (by omega) hr
       rw[hc1] at this
       exact this
    rw[List.countP_map]
    by_cases hT:Tail p k E P m t
    ·rw[if_pos (by simpa using hT)]
     refine Eq.trans (List.countP_congr fun a _=>?_) (count_root hp (dF r0 (c+1) t-r0.getD k 0))
     simp only[Function.comp,decide_eq_true_eq]
     rw[hiff]
     exact⟨fun h=>h.2,fun h=>⟨hT,h⟩⟩
    ·rw[if_neg (by simpa using hT)]
     refine List.countP_eq_zero.2 fun a _=>?_
     simp only[Function.comp,decide_eq_true_eq]
     rw[hiff]
     exact fun h=>hT h.1
  ·rw[count_flat (R:=fun t=>@decide _ (D m t)) (q:=p.toNat),ih,hc]
   ·have e:fr P (c+1)=fr P c+1:=by simp only[fr,if_neg hmem]
    rw[e] at hfr ⊢
    rw[show fr P k-fr P c=(fr P k-(fr P c+1))+1 by omega,Nat.pow_succ,Nat.mul_comm]
   ·intro t ht
    have hiff:∀a:Int,Tail p k E P (m+1) (a :: t)↔Tail p k E P m t:=fun a=>by
     refine⟨hrest t a,fun hT i q r hi hq hr=>?_⟩
     rw[hc] at hq ⊢
     rcases Nat.eq_or_lt_of_le hq with e | e
     ·subst e
      exact absurd (List.mem_of_getElem? hi) hmem
     ·rw[hlow t a i q r hi e hr]
      have:=hT i q r hi (by omega) hr
      rw[hc1] at this
      exact this
    rw[List.countP_map]
    by_cases hT:Tail p k E P m t
    ·rw[if_pos (by simpa using hT)]
     rw[List.countP_eq_length.2 (fun a _=>by simp only[Function.comp,decide_eq_true_eq];exact(hiff a).2 hT),List.length_range]
    ·rw[if_neg (by simpa using hT)]
     refine List.countP_eq_zero.2 fun a _=>?_
     simp only[Function.comp,decide_eq_true_eq]
     rw[hiff]
     exact hT
theorem dF_zero {r:List Int}:∀(t:List Int) (c:Nat),(∀j,c≤j→j<c+t.length→r.getD j 0=0)→dF r c t=0
 | [],_,_=>rfl
 | a :: t,c,h=>by
  simp only[dF]
  rw[h c (Nat.le_refl _) (by simp),dF_zero t (c+1) (fun j h1 h2=>h j (by omega) (by simp only[List.length_cons];omega))]
  omega
def Solv (p:Int) (k:Nat) (W:List (List Int)):Prop:=∀(i:Nat) r,(ech p W k).2.length≤i→(ech p W k).1[i]?=some r→r.getD k 0=0
theorem count_sol {p:Int} {k:Nat} {W:List (List Int)} (hf:Fer p) (hW:Rect p (k+1) W) {D:∀x,Decidable (AllS p k W x)} {D2:Decidable (Solv p k W)}:
  (vec p.toNat k).countP (fun x=>@decide _ (D x))=if Solv p k W then p.toNat ^ (k-(ech p W k).2.length) else 0:=by
 have hp:0<p:=by have:=hf.1;omega
 have sh:=ech_shape hf hW k
 have hfr:=ech_fr hf hW k
 have hrow:∀x:List Int,x.length=k→(AllS p k W x↔Tail p k (ech p W k).1 (ech p W k).2 k x∧Solv p k W):=fun x hx=>by
  rw[← ech_sat hf hW k]
  constructor
  ·intro h
   refine⟨fun i q r hi _ hr=>?_,fun i r hi hr=>?_⟩
   ·rw[Nat.sub_self];exact sat_iff.1 (h i r hr)
   ·have h1:=sat_iff.1 (h i r hr)
    rw[dF_zero x 0 (fun j _ hj=>sh.zero i r hi hr j (by omega))] at h1
    have h2:=sh.rect.el hp hr k
    have h3:r.getD k 0%p=0:=by
     have:=Int.dvd_of_emod_eq_zero h1
     exact Int.emod_eq_zero_of_dvd (by have h4:=Int.dvd_neg.2 this;rwa [show -(0-r.getD k 0)=r.getD k 0 by omega] at h4)
    rw[small_mod h2] at h3
    exact h3
  ·rintro ⟨hT,hS⟩ i r hr
   rcases Nat.lt_or_ge i (ech p W k).2.length with hi | hi
   ·have:=hT i ((ech p W k).2[i]) r (List.getElem?_eq_getElem hi) (by omega) hr
    rw[Nat.sub_self] at this
    exact sat_iff.2 this
   ·rw[sat_iff,dF_zero x 0 (fun j _ hj=>sh.zero i r hi hr j (by omega)),hS i r hi hr]
    simp
 by_cases hS:Solv p k W
 ·rw[if_pos hS]
  have h1:=count_tail hp sh (D:=fun _ _=>Classical.propDecidable _) k (Nat.le_refl k)
  rw[Nat.sub_self,show fr (ech p W k).2 k-fr (ech p W k).2 0=k-(ech p W k).2.length by simp only[fr];omega] at h1
  rw[← h1]
  refine List.countP_congr fun x hx=>?_
  simp only[decide_eq_true_eq]
  rw[hrow x (vec_len k hx)]
  exact⟨fun h=>h.1,fun h=>⟨h,hS⟩⟩
 ·rw[if_neg hS]
  refine List.countP_eq_zero.2 fun x hx=>?_
  simp only[decide_eq_true_eq]
  rw[hrow x (vec_len k hx)]
  exact fun h=>hS h.2
theorem solv_iff {p:Int} {k:Nat} {W:List (List Int)} (hf:Fer p) (hW:Rect p (k+1) W):Solv p k W↔k∉(ech p W (k+1)).2:=by
 have sh:=ech_shape hf hW k
 have hnc:k∉(ech p W k).2:=fun hm=>by
  obtain⟨i,hi⟩:=List.getElem?_of_mem hm
  have hil:=(List.getElem?_eq_some_iff.1 hi).1
  have:=(sh.piv i k _ hi (List.getElem?_eq_getElem (by have:=sh.le;omega))).1
  omega
 unfold Solv
 simp only[ech]
 split
 ·rename_i hr
  refine⟨fun _=>hnc,fun _ i r hi he=>?_⟩
  have:=(sh.none_ hr).zero i r hi he k (by omega)
  exact this
 ·rename_i L' hr
  obtain⟨a,u,w,b,h1,h2,hu,hw,hw0,_⟩:=rnd_rows hf sh.rect sh.le hr
  refine⟨fun h=>absurd (h a w h1 hw) hw0,fun h=>absurd (by simp) h⟩
theorem take_get {r:List Int} {k c:Nat} (h:c<k):(r.take k).getD c 0=r.getD c 0:=by
 simp only[List.getD_eq_getElem?_getD,List.getElem?_take,if_pos h]
theorem nz_take {W:List (List Int)} {k c:Nat} (hc:c<k):∀(d a:Nat),a+d=W.length→nz (W.map (List.take k)) c a=nz W c a
 | 0,a,h=>by rw[nz_end (by rw[List.length_map];omega),nz_end (by omega)]
 | d+1,a,h=>by
  obtain⟨u,hu⟩:∃u,W[a]?=some u:=⟨W[a]'(by omega),List.getElem?_eq_getElem (by omega)⟩
  have hu':(W.map (List.take k))[a]?=some (u.take k):=by rw[List.getElem?_map,hu];rfl
  by_cases hz:u.getD c 0=0
  ·rw[← nz_step hu hz,← nz_step hu' (by rw[take_get hc];exact hz)]
   exact nz_take hc d (a+1) (by omega)
  ·rw[nz_stop hu hz,nz_stop hu' (by rw[take_get hc];exact hz)]
theorem getD_take {W:List (List Int)} {k a:Nat}:(W.map (List.take k)).getD a []=(W.getD a []).take k:=by
 simp only[List.getD_eq_getElem?_getD,List.getElem?_map]
 cases W[a]?<;>simp
theorem sw_take {W:List (List Int)} {k n a:Nat}:sw (W.map (List.take k)) n a=(sw W n a).map (List.take k):=by
 simp only[sw,getD_take,List.map_set]
theorem sc_take {p b:Int} {r:List Int} {k:Nat}:sc p b (r.take k)=(sc p b r).take k:=by simp only[sc,List.map_take]
theorem tk_take {p t:Int} {a b:List Int} {k:Nat}:tk p t (a.take k) (b.take k)=(tk p t a b).take k:=by simp only[tk,List.take_zipWith]
theorem tks_take {p:Int} {c n i k:Nat} {r:List Int} {L:List (List Int)} (hc:c<k):tks p c n (r.take k) (L.map (List.take k)) i=(tks p c n r L i).map (List.take k):=by
 apply List.ext_getElem?
 intro j
 rw[tks_get,List.getElem?_map,List.getElem?_map,tks_get]
 cases L[j]? with
 | none=>rfl
 | some w=>
  simp only[Option.map_some]
  split
  ·rw[take_get hc,tk_take]
  ·rfl
theorem rnd_take {p:Int} {W:List (List Int)} {k c n:Nat} (hc:c<k) (hn:n≤W.length):rnd p (W.map (List.take k)) c n=(rnd p W c n).map (fun L=>L.map (List.take k)):=by
 unfold rnd
 have h1:=nz_take (W:=W) hc (W.length-n) n (by omega)
 have h2:lead p (W.map (List.take k)) c n=(lead p W c n).take k:=by
  unfold lead
  rw[h1,sw_take,getD_take,take_get hc,sc_take]
 rw[h1,List.length_map,h2]
 split
 ·rfl
 ·rw[sw_take,← List.map_set,tks_take hc]
  rfl
theorem ech_take {p:Int} {K k:Nat} {W:List (List Int)} (hf:Fer p) (hW:Rect p K W):∀c,c≤k→ech p (W.map (List.take k)) c=((ech p W c).1.map (List.take k),(ech p W c).2)
 | 0,_=>rfl
 | c+1,h=>by
  have ih:=ech_take (k:=k) hf hW c (by omega)
  have sh:=ech_shape hf hW c
  simp only[ech]
  rw[ih]
  simp only
  rw[rnd_take (show c<k by omega) sh.le]
  cases rnd p (ech p W c).1 c (ech p W c).2.length<;>rfl
def dig (p:Nat):Nat→Nat→List Int
 | 0,_=>[]
 | m+1,n=>((n%p:Nat):Int) :: dig p m (n / p)
theorem range_mul (a b:Nat):List.range (a*b)=(List.range a).flatMap fun q=>(List.range b).map fun r=>q*b+r:=by
 induction a with
 | zero=>simp
 | succ a ih=>
  rw[Nat.succ_mul,List.range_add,List.range_succ,List.flatMap_append,ih]
  simp
theorem vec_dig {p:Nat} (hp:0<p):∀m,vec p m=(List.range (p ^ m)).map (dig p m)
 | 0=>by simp[vec,dig]
 | m+1=>by
  rw[vec,vec_dig hp m,Nat.pow_succ,range_mul,List.flatMap_map,List.map_flatMap]
  congr 1
  funext q
  rw[List.map_map]
  refine List.map_congr_left fun r hr=>?_
  have hr:=List.mem_range.1 hr
  simp only[Function.comp,dig]
  rw[Nat.add_comm,Nat.add_mul_mod_self_right,Nat.mod_eq_of_lt hr,Nat.add_mul_div_right _ _ hp,Nat.div_eq_of_lt hr,Nat.zero_add]
theorem count_low {p:Nat} (hp:0<p) {m s:Nat} (hs:s<p) (Q:List Int→Bool):(List.range (p ^ (m+1))).countP (fun n=>decide (n%p=s)&&Q (dig p (m+1) n))=(vec p m).countP (fun t=>Q ((s:Int) :: t)):=by
 rw[vec_dig hp m,Nat.pow_succ,range_mul,List.countP_map,count_flat (R:=fun q=>Q ((s:Int) :: dig p m q)) (q:=1)]
 ·rw[Nat.one_mul];rfl
 ·intro q hq
  rw[List.countP_map]
  have h1:∀r,r<p→(decide ((q*p+r)%p=s)&&Q (dig p (m+1) (q*p+r)))=(decide (r=s)&&Q ((s:Int) :: dig p m q)):=fun r hr=>by
   simp only[dig]
   rw[Nat.add_comm,Nat.add_mul_mod_self_right,Nat.mod_eq_of_lt hr,Nat.add_mul_div_right _ _ hp,Nat.div_eq_of_lt hr,Nat.zero_add]
   by_cases e:r=s
   ·subst e;rfl
   ·simp[e]
  by_cases hQ:Q ((s:Int) :: dig p m q)=true
  ·rw[if_pos hQ]
   have h2:=count_one s p
   rw[if_pos hs] at h2
   refine Eq.trans (List.countP_congr fun r hr=>?_) h2
   simp only[Function.comp]
   rw[h1 r (List.mem_range.1 hr),hQ,Bool.and_true]
  ·rw[if_neg hQ]
   refine List.countP_eq_zero.2 fun r hr=>?_
   simp only[Function.comp]
   rw[h1 r (List.mem_range.1 hr)]
   simp[hQ]
end Go.Proofs.Ytlapbbffoapleaa.Pl
namespace Go.Proofs.Ytlapbbffoapleaa.Am
open Go Go.RowKit Go.Proofs Go.Proofs.Ytlapbbffoapleaa.Pl
noncomputable def codeS (x:T_Scheme) (g:List Int):Int:=if tv (SchOk x)=true then(if tv (Rises 0 (x.1-1) g)=true then 0 else 2) else 1
noncomputable def rowsG (ow:List Int) (g:List Int):List Int:=rowsP (fun i=>(bitsOf g).testBit (ow.getD i 0).toNat) ow.length
noncomputable def codeH (x:T_Scheme) (g held:List Int):Int:=if codeS x g=0 then(if tv (held.length=(rowsG x.2.1 g).length∧Elems x.2.2.1 held)=true then 0 else 2) else codeS x g
theorem codeS_ok {x:T_Scheme} {g:List Int} (h:codeS x g=0):SchOk x∧Rises 0 (x.1-1) g:=by
 unfold codeS at h
 split at h
 ·rename_i h1
  split at h
  ·rename_i h2;exact⟨tv_iff.1 h1,tv_iff.1 h2⟩
  ·cases h
 ·cases h
theorem codeH_ok {x:T_Scheme} {g held:List Int} (h:codeH x g held=0):SchOk x∧Rises 0 (x.1-1) g∧held.length=(rowsG x.2.1 g).length∧Elems x.2.2.1 held:=by
 unfold codeH at h
 split at h
 ·rename_i h1
  split at h
  ·rename_i h2
   exact⟨(codeS_ok h1).1,(codeS_ok h1).2,(tv_iff.1 h2).1,(tv_iff.1 h2).2⟩
  ·cases h
 ·rename_i h1;exact absurd h h1
theorem rises_small {q:Nat} {g:List Int} (h:Rises 0 ((q:Int)-1) g):∀x∈g,0≤x∧x<(q:Int):=fun x hx=>by have:=rises_mem h x hx;omega
theorem group_bits {q:Nat} {g:List Int} (h:Rises 0 ((q:Int)-1) g) {y:Int} (h0:0≤y) (h1:y<q):decide (y∈g)=(bitsOf g).testBit y.toNat:=by
 rw[← hold_has h0 h1,hold_bits q h]
theorem rowsG_spec {h p c:Int} {ow g:List Int} {rows:List (List Int)} (hk:OkSch h ow p c rows) (hg:Rises 0 (h-1) g):rowsP (fun i=>decide (ow.getD i 0∈g)) ow.length=rowsG ow g:=by
 obtain⟨q,rfl⟩:∃q:Nat,h=q:=⟨h.toNat,by have:=hk.h1;omega⟩
 unfold rowsG
 refine rowsP_congr fun i hi=>?_
 have hm:=hk.own (ow.getD i 0) (by rw[List.getD_eq_getElem?_getD,List.getElem?_eq_getElem hi];exact List.getElem_mem hi)
 exact group_bits hg hm.1 (by omega)
section
variable {S:Ids} {H0:AH}
theorem schemeCode (x:T_Scheme) (g:List Int) {a1 c1 a2 c2 a3 c3} (hB:B_Scheme x) (hG:B_Int64S g) (h1:KI.Sl S H0 (.slice a1 x.2.1.length c1) x.2.1) (h2:KI.sl.Sl S H0 (.slice a2 x.2.2.2.2.length c2) x.2.2.2.2) (h3:KI.Sl S H0 (.slice a3 g.length c3) g):
  Spec Try.prog S H0 76 [.agg #[.int .i64 x.1,.slice a1 x.2.1.length c1,.int .i64 x.2.2.1,.int .i64 x.2.2.2.1,.slice a2 x.2.2.2.2.length c2],.slice a3 g.length c3] (fun v=>v=.int .i64 (codeS x g)):=by
 refine Spec.of1 Try.func76 rfl (by kernel_rfl) rfl (fun H _=>?_)
 have hG':g.length≤1048576:=hG
 refine KW.callE U U U U U (validScheme x.1 x.2.2.1 x.2.2.2.1 hB.2.2.1 hB.2.1 hB.2.2.2.2 h1.up h2.up) (fun _ _=>?_)
 by_cases hk:SchOk x
 ·rw[show tv (OkSch x.1 x.2.1 x.2.2.1 x.2.2.2.1 x.2.2.2.2)=true from tv_true hk]
  refine KW.cF U U (by first | (simp;done) | decide) ?_
  refine KW.callE U U U U U (isGroup x.1 (by omega) (by have:=hk.h1;have:=hk.h7;omega) h3.up) (fun _ _=>?_)
  by_cases hg:Rises 0 (x.1-1) g
  ·rw[tv_true hg]
   refine KW.cF U U (by first | (simp;done) | decide) ?_
   exact KW.ret U U U U (by unfold codeS;rw[if_pos (tv_true hk),if_pos (tv_true hg)];rfl)
  ·rw[tv_false hg]
   refine KW.cT U U (by first | (simp;done) | decide) ?_
   exact KW.ret U U U U (by unfold codeS;rw[if_pos (tv_true hk),if_neg (by rw[tv_false hg];decide)];rfl)
 ·rw[show tv (OkSch x.1 x.2.1 x.2.2.1 x.2.2.2.1 x.2.2.2.2)=false from tv_false hk]
  refine KW.cT U U (by first | (simp;done) | decide) ?_
  exact KW.ret U U U U (by unfold codeS;rw[if_neg (by rw[tv_false hk];decide)];rfl)
theorem l04Asked (x:T_Scheme) (g:List Int) {id k:Nat} {a1 c1 a2 c2 a3 c3} (hB:B_Scheme x) (hG:B_Int64S g) (hv:Has3 S H0 id k [.int .i64 x.1,.slice a1 x.2.1.length c1,.int .i64 x.2.2.1,.int .i64 x.2.2.2.1,.slice a2 x.2.2.2.2.length c2]) (h1:KI.Sl S H0 (.slice a1 x.2.1.length c1) x.2.1) (h2:KI.sl.Sl S H0 (.slice a2 x.2.2.2.2.length c2) x.2.2.2.2) (h3:KI.Sl S H0 (.slice a3 g.length c3) g):
  Spec Try.prog S H0 157 [.pointer (some ⟨id,k,none⟩),.slice a3 g.length c3] (fun v=>v=.int .i64 (codeS x g)):=by
 refine Spec.of1 Try.func157 rfl (by kernel_rfl) rfl (fun H _=>?_)
 have hv:=hv.up (S':=Low H.n) (H':=H)
 have hG':g.length≤1048576:=hG
 refine KW.callE U U U U U (l04Ok x.1 x.2.2.1 x.2.2.2.1 hB.2.2.1 hB.2.1 hB.2.2.2.2 hv h1.up h2.up) (fun _ _=>?_)
 by_cases hk:SchOk x
 ·rw[show tv (OkSch x.1 x.2.1 x.2.2.1 x.2.2.2.1 x.2.2.2.2)=true from tv_true hk]
  refine KW.cF U U (by first | (simp;done) | decide) ?_
  refine KW.ldF 0 hv U U U U U U U U U ?_
  refine KW.callE U U U U U (l01Group x.1 hG (by have:=hk.h1;have:=hk.h7;omega) h3.up) (fun _ _=>?_)
  by_cases hg:Rises 0 (x.1-1) g
  ·rw[tv_true hg]
   refine KW.cF U U (by first | (simp;done) | decide) ?_
   exact KW.ret U U U U (by unfold codeS;rw[if_pos (tv_true hk),if_pos (tv_true hg)];rfl)
  ·rw[tv_false hg]
   refine KW.cT U U (by first | (simp;done) | decide) ?_
   exact KW.ret U U U U (by unfold codeS;rw[if_pos (tv_true hk),if_neg (by rw[tv_false hg];decide)];rfl)
 ·rw[show tv (OkSch x.1 x.2.1 x.2.2.1 x.2.2.2.1 x.2.2.2.2)=false from tv_false hk]
  refine KW.cT U U (by first | (simp;done) | decide) ?_
  exact KW.ret U U U U (by unfold codeS;rw[if_neg (by rw[tv_false hk];decide)];rfl)
theorem heldCode (x:T_Scheme) (g held:List Int) {a1 c1 a2 c2 a3 c3 a4 c4} (hB:B_Scheme x) (hG:B_Int64S g) (hH:B_Int64S held) (h1:KI.Sl S H0 (.slice a1 x.2.1.length c1) x.2.1) (h2:KI.sl.Sl S H0 (.slice a2 x.2.2.2.2.length c2) x.2.2.2.2) (h3:KI.Sl S H0 (.slice a3 g.length c3) g) (h4:KI.Sl S H0 (.slice a4 held.length c4) held):
  Spec Try.prog S H0 83 [.agg #[.int .i64 x.1,.slice a1 x.2.1.length c1,.int .i64 x.2.2.1,.int .i64 x.2.2.2.1,.slice a2 x.2.2.2.2.length c2],.slice a3 g.length c3,.slice a4 held.length c4] (fun v=>v=.int .i64 (codeH x g held)):=by
 refine Spec.of1 Try.func83 rfl (by kernel_rfl) rfl (fun H _=>?_)
 have hG':g.length≤1048576:=hG
 have hH':held.length≤1048576:=hH
 refine KW.callE U U U U U (schemeCode x g hB hG h1.up h2.up h3.up) (fun _ _=>?_)
 by_cases hs:codeS x g=0
 ·obtain⟨hk,hg⟩:=codeS_ok hs
  have hk':OkSch x.1 x.2.1 x.2.2.1 x.2.2.2.1 x.2.2.2.2:=hk
  obtain⟨q,hq⟩:∃q:Nat,x.1=q:=⟨x.1.toNat,by have:=hk'.h1;omega⟩
  have hq7:=hk'.h7
  rw[hq] at hg
  have hgs:=rises_small hg
  have hbt:bitsOf g<256:=Nat.lt_of_lt_of_le (bitsOf_lt (m:=q) (fun x hx=>by have:=hgs x hx;omega)) (Nat.pow_le_pow_right (by decide) (show q≤8 by omega))
  rw[hs]
  refine KW.tT U U (by first | (simp;done) | decide) ?_
  refine KW.callE U U U U U (crowdOf (m:=q) (by omega) (by omega) hgs h3.up) (fun _ _=>?_)
  refine KW.callN1 U U U U U (rowsHeld x.1 x.2.2.1 x.2.2.2.1 (bitsOf g) (by omega) hB.2.1 hk'.own hk'.h7 h1.up) (fun v HR SR mR _ _ hv=>?_)
  obtain⟨a5,c5,rfl,hR⟩:=hv
  rw[show rowsP (fun i=>(bitsOf g).testBit (x.2.1.getD i 0).toNat) x.2.1.length=rowsG x.2.1 g from rfl]
  by_cases hl:held.length=(rowsG x.2.1 g).length
  ·refine KW.tF U U (by simp[hl]) ?_
   refine KW.callE U U U U U (areElements x.2.2.1 hB.2.2.1 (by omega) h4.up) (fun _ _=>?_)
   by_cases he:Elems x.2.2.1 held
   ·rw[tv_true (p:=PrimeP x.2.2.1∧Elems x.2.2.1 held) ⟨hk'.mat.pr,he⟩]
    refine KW.cF U U (by first | (simp;done) | decide) ?_
    refine KW.retM1 U U U U (fun H1 g=>by unfold codeH;rw[if_pos hs,if_pos (tv_true ⟨hl,he⟩)];rfl)
   ·rw[tv_false (p:=PrimeP x.2.2.1∧Elems x.2.2.1 held) (fun hc=>he hc.2)]
    refine KW.cT U U (by first | (simp;done) | decide) ?_
    refine KW.retM1 U U U U (fun H1 g=>by unfold codeH;rw[if_pos hs,if_neg (by rw[tv_false (fun hc=>he hc.2)];decide)];rfl)
  ·refine KW.tT U U (by simp;omega) ?_
   refine KW.cT U U (by first | (simp;done) | decide) ?_
   refine KW.retM1 U U U U (fun H1 g=>by unfold codeH;rw[if_pos hs,if_neg (by rw[tv_false (fun hc=>hl hc.1)];decide)];rfl)
 ·refine KW.tF U U (by simpa using hs) ?_
  refine KW.cF U U (by first | (simp;done) | decide) ?_
  exact KW.ret U U U U (by unfold codeH;rw[if_neg hs];rfl)
theorem l04With (x:T_Scheme) (g held:List Int) {id k:Nat} {a1 c1 a2 c2 a3 c3 a4 c4} (hB:B_Scheme x) (hG:B_Int64S g) (hH:B_Int64S held) (hv:Has3 S H0 id k [.int .i64 x.1,.slice a1 x.2.1.length c1,.int .i64 x.2.2.1,.int .i64 x.2.2.2.1,.slice a2 x.2.2.2.2.length c2]) (h1:KI.Sl S H0 (.slice a1 x.2.1.length c1) x.2.1) (h2:KI.sl.Sl S H0 (.slice a2 x.2.2.2.2.length c2) x.2.2.2.2) (h3:KI.Sl S H0 (.slice a3 g.length c3) g) (h4:KI.Sl S H0 (.slice a4 held.length c4) held):
  Spec Try.prog S H0 86 [.pointer (some ⟨id,k,none⟩),.slice a3 g.length c3,.slice a4 held.length c4] (fun v=>v=.int .i64 (codeH x g held)):=by
 refine Spec.of1 Try.func86 rfl (by kernel_rfl) rfl (fun H _=>?_)
 have hv:=hv.up (S':=Low H.n) (H':=H)
 have hG':g.length≤1048576:=hG
 have hH':held.length≤1048576:=hH
 refine KW.callE U U U U U (l04Asked x g hB hG hv h1.up h2.up h3.up) (fun _ _=>?_)
 by_cases hs:codeS x g=0
 ·obtain⟨hk,hg⟩:=codeS_ok hs
  have hk':OkSch x.1 x.2.1 x.2.2.1 x.2.2.2.1 x.2.2.2.2:=hk
  have hrg:=rowsG_spec hk' hg
  have hpr:=hk'.mat.pr
  rw[hs]
  refine KW.tT U U (by first | (simp;done) | decide) ?_
  refine KW.ldF 2 hv U U U U U U U U U ?_
  refine KW.callN1 U U U U U (l04Held x.1 x.2.2.1 x.2.2.2.1 hB.2.1 hG' hv.up h1.up h3.up) (fun v HR SR mR _ _ hv=>?_)
  obtain⟨a5,c5,rfl,hR⟩:=hv
  rw[hrg]
  refine KW.callE U U U U U (l03Row x.2.2.1 (rowsG x.2.1 g).length (by unfold I64;have:=hpr.1;have:=hpr.2.1;omega) hH h4.up) (fun _ _=>?_)
  by_cases hl:held.length=(rowsG x.2.1 g).length∧Elems x.2.2.1 held
  ·rw[show tv ((held.length:Int)=((rowsG x.2.1 g).length:Nat)∧Elems x.2.2.1 held)=true from tv_true ⟨by omega,hl.2⟩]
   refine KW.cF U U (by first | (simp;done) | decide) ?_
   refine KW.retM1 U U U U (fun H1 g=>by unfold codeH;rw[if_pos hs,if_pos (tv_true hl)];rfl)
  ·rw[show tv ((held.length:Int)=((rowsG x.2.1 g).length:Nat)∧Elems x.2.2.1 held)=false from tv_false (fun hc=>hl ⟨by omega,hc.2⟩)]
   refine KW.cT U U (by first | (simp;done) | decide) ?_
   refine KW.retM1 U U U U (fun H1 g=>by unfold codeH;rw[if_pos hs,if_neg (by rw[tv_false hl];decide)];rfl)
 ·refine KW.tF U U (by simpa using hs) ?_
  refine KW.cF U U (by first | (simp;done) | decide) ?_
  exact KW.ret U U U U (by unfold codeH;rw[if_neg hs];rfl)
def tmN (p:Int):Nat→Int
 | 0=>1
 | n+1=>if tmN p n*p<20001 then tmN p n*p else 20001
theorem tmN_in {p:Int} (hp:2≤p∧p≤31):∀n,1≤tmN p n∧tmN p n≤20001
 | 0=>by simp[tmN]
 | n+1=>by
  have h:=tmN_in hp n
  have h1:1*2≤tmN p n*p:=Int.mul_le_mul h.1 hp.1 (by omega) (by omega)
  simp only[tmN]
  split<;>omega
theorem Int.one_le_of_pow (p:Int):∀n:Nat,1≤p→1≤p ^ n
 | 0,_=>by simp
 | n+1,h=>by
  have h1:=Int.one_le_of_pow p n h
  rw[Int.pow_succ]
  have:=Int.mul_le_mul h1 h (by omega) (by omega)
  omega
theorem Int.pow_le_of_le {p:Int} (hp:2≤p∧p≤31) {i c:Nat} (h:i≤c):p ^ i≤p ^ c:=by
 obtain⟨d,rfl⟩:∃d,c=i+d:=⟨c-i,by omega⟩
 rw[Int.pow_add]
 have h1:=Int.one_le_of_pow p d (by omega)
 have h2:=Int.one_le_of_pow p i (by omega)
 have:=Int.mul_le_mul_of_nonneg_left h1 (show 0≤p ^ i by omega)
 omega
theorem tmN_le {p:Int} (hp:2≤p∧p≤31):∀n,p ^ n≤20000→tmN p n=p ^ n
 | 0,_=>by simp[tmN]
 | n+1,h=>by
  have h1:p ^ n≤p ^ n*p:=by
   have h2:0≤p ^ n:=Int.pow_nonneg (by omega)
   have:=Int.mul_le_mul_of_nonneg_left hp.1 h2
   omega
  rw[Int.pow_succ] at h ⊢
  simp only[tmN]
  rw[tmN_le hp n (by omega),if_pos (by omega)]
theorem tmN_gt {p:Int} (hp:2≤p∧p≤31):∀n,20000<p ^ n→20000<tmN p n
 | 0,h=>by simp at h
 | n+1,h=>by
  simp only[tmN]
  split
  ·rcases Int.lt_or_le 20000 (p ^ n) with h1 | h1
   ·have h2:=tmN_gt hp n h1
    have:=Int.mul_le_mul_of_nonneg_left hp.1 (show 0≤tmN p n by omega)
    omega
   ·rw[tmN_le hp n h1,← Int.pow_succ]
    exact h
  ·omega
theorem times (p:Int) (c:Nat) (hp:2≤p∧p≤31) (hn:c≤1000):Spec Try.prog S H0 90 [.int .i64 p,.int .i64 c,.int .i64 20000] (fun v=>v=.int .i64 (tmN p c)):=by
 refine Spec.of1 Try.func90 rfl (by kernel_rfl) rfl (fun H _=>?_)
 refine KW.lp U U (fun i:Nat=>[(0,.int .i64 p),(2,.int .i64 20000),(7,.int .i64 (tmN p i)),(8,.int .i64 c),(9,.int .i64 i)]) (fun i=>i≤c) (fun i=>c-i) (0) (by omega) ⟨rfl,rfl,rfl,rfl,rfl,trivial⟩ (fun i hi bE n=>?_)
 have ht:=tmN_in hp i
 have h2:tmN p i*p≤20001*31:=Int.mul_le_mul ht.2 hp.2 (by omega) (by omega)
 have h3:0≤tmN p i*p:=Int.mul_nonneg (by omega) (by omega)
 refine KW.cnd U U (fun k1=>?_) (fun k1=>?_)
 ·have k1:(i:Int)<c:=k1
  refine KW.nxt U U (fun H' g=>⟨i+1,?_,?_,?_,g⟩)
  ·omega
  ·omega
  ·refine⟨rfl,rfl,?_,rfl,?_,trivial⟩
   ·refine Eq.trans (b:=Value.int .i64 (if IntKind.i64.wrap (tmN p i*p)<20001 then IntKind.i64.wrap (tmN p i*p) else 20001)) rfl ?_
    rw[wr (by omega) (by omega)]
    rfl
   ·exact congrArg (Value.int .i64) (inc64 (by omega))
 ·obtain rfl:i=c:=by have k1:¬(i:Int)<c:=k1;omega
  exact KW.ret U U U U (rfl)
theorem l04Cases (p:Int) (c:Nat) (hp:2≤p∧p≤31) (hn:c≤1000):Spec Try.prog S H0 87 [.int .i64 p,.int .i64 c] (fun v=>∃r:Int,v=.int .i64 r∧1≤r∧(p ^ c≤20000→r=p ^ c)∧(20000<p ^ c→20000<r)):=by
 refine Spec.of1 Try.func87 rfl (by kernel_rfl) rfl (fun H _=>?_)
 refine KW.lp U U (fun i:Nat=>[(0,.int .i64 p),(1,.int .i64 c),(5,.int .i64 (p ^ i)),(6,.int .i64 i)]) (fun i=>i≤c∧p ^ i≤620000) (fun i=>c-i) (0) (⟨by omega,by simp⟩) ⟨rfl,rfl,congrArg (Value.int .i64) (by simp),rfl,trivial⟩ (fun i hi bE n=>?_)
 obtain⟨hi,hpi⟩:=hi
 have hpos:1≤p ^ i:=Int.one_le_of_pow p i (by omega)
 refine KW.tst U U (fun k1=>?_) (fun k1=>?_)
 ·have k1:(i:Int)<c:=k1
  refine KW.cnd U U (fun k2=>?_) (fun k2=>?_)
  ·have h3:p ^ i*p≤20000*31:=Int.mul_le_mul k2 hp.2 (by omega) (by omega)
   have h4:0≤p ^ i*p:=Int.mul_nonneg (by omega) (by omega)
   refine KW.nxt U U (fun H' g=>⟨i+1,⟨by omega,by rw[Int.pow_succ];omega⟩,by first | omega | (simp only;omega),⟨rfl,rfl,congrArg (Value.int .i64) (by rw[wr (by omega) (by omega),Int.pow_succ]),congrArg (Value.int .i64) (inc64 (by omega)),trivial⟩,g⟩)
  ·exact KW.ret U U U U (⟨_,rfl,hpos,fun h=>absurd (Int.le_trans (Int.pow_le_of_le hp (by omega)) h) k2,fun _=>by omega⟩)
 ·obtain rfl:i=c:=by have k1:¬(i:Int)<c:=k1;omega
  refine KW.cF U U (by first | (simp;done) | decide) ?_
  exact KW.ret U U U U (⟨_,rfl,hpos,fun _=>rfl,fun h=>h⟩)
end
theorem fer_all:((List.range 32).all fun p=>(List.range p).all fun a=>Nat.beq a 0||!((List.range p).all fun d=>Nat.ble d 1||!Nat.beq (p%d) 0)||Nat.ble p 1||((a:Int)*pw p a (p-2)-1)%p==0)=true:=by decide+kernel
theorem fer {p:Int} (h:PrimeP p):Fer p:=by
 obtain⟨h2,h31,hd⟩:=h
 refine⟨h2,fun a h0 h1=>?_⟩
 obtain⟨q,rfl⟩:∃q:Nat,p=q:=⟨p.toNat,by omega⟩
 obtain⟨b,rfl⟩:∃b:Nat,a=b:=⟨a.toNat,by omega⟩
 have h3:=List.all_eq_true.1 (List.all_eq_true.1 fer_all q (List.mem_range.2 (by omega))) b (List.mem_range.2 (by omega))
 have h4:((List.range q).all fun d=>Nat.ble d 1||!Nat.beq (q%d) 0)=true:=by
  refine List.all_eq_true.2 fun d hdm=>?_
  have hdq:=List.mem_range.1 hdm
  by_cases hd1:d≤1
  ·rw[Nat.ble_eq_true_of_le hd1];rfl
  ·have h5:=hd d (by omega) (by omega)
   have h6:Nat.beq (q%d) 0=false:=by
    cases hb:Nat.beq (q%d) 0 with
    | false=>rfl
    | true=>exact absurd (by have:=Nat.eq_of_beq_eq_true hb;omega) h5
   rw[h6];simp
 rw[h4] at h3
 have hb0:Nat.beq b 0=false:=by
  cases hb:Nat.beq b 0 with
  | false=>rfl
  | true=>have:=Nat.eq_of_beq_eq_true hb;omega
 have hp1:Nat.ble q 1=false:=by
  cases hb:Nat.ble q 1 with
  | false=>rfl
  | true=>have:=Nat.le_of_ble_eq_true hb;omega
 rw[hb0,hp1] at h3
 simp only[Bool.not_true,Bool.false_or,beq_iff_eq] at h3
 have e:((q:Int)-2).toNat=q-2:=by omega
 rw[e]
 obtain⟨k,hk⟩:=Int.dvd_of_emod_eq_zero h3
 exact⟨k,by omega⟩
section
variable {P:Program} {S:Ids} {H0:AH} {Q:PostC} {k k1:List It} {e e1:Env} {T T1:List Var} {n n1:Nat} {l1 r1:List Nat} {d1:Tmp}
theorem KW.slFromG {o:Oper} {dr:Bool} {t el:TypeId} {x y:Operand} {inf:TypeInfo} {a:Option Addr} {c m:Nat} {kk:IntKind} {xs:List Int} (hs:KI.Sl S H0 (.slice a xs.length c) xs) (hx0:0<xs.length) (hm:m≤xs.length) (h:Go1 P k e T n (.op o dr) k1 e1 T1 n1 l1 r1) (hlr:l1=r1) (ho:o.op=.slice t x (some y) none none) (hd:o.dst=some d1) (hx:ev e1 x=.slice a xs.length c) (hy:ev e1 y=.int kk (m:Nat))
  (hu:P.underlying t=some (.slice el)) (hi:P.info? el=some inf) (he:inf.size=1) (hk:∀a' c',(∀(X:Ids) (A:AH),KI.Sl X A (.slice a xs.length c) xs→KI.Sl X A (.slice a' (xs.drop m).length c') (xs.drop m))→KW P S H0 Q n1 T1 k1 (put1 e1 d1 (.slice a' (xs.drop m).length c'))):KW P S H0 Q n T k e:=by
 rcases hs with⟨rfl,_⟩ | ⟨id,o0,c1,b,h1,h2,h3,h4,h5,h6⟩
 ·simp at hx0
 ·cases h1
  have h5:o0+xs.length*1≤b.cells.length:=h5
  have ab:abound (.int kk (m:Nat)) xs.length=some m:=by simp[abound];omega
  have hlen:(xs.drop m).length=xs.length-m:=List.length_drop
  have hsub:∀c',xs.length-m≤c'→∀(X:Ids) (A:AH),KI.Sl X A (.slice (some ⟨id,o0,some KI.es⟩) xs.length c) xs→KI.Sl X A (.slice (some ⟨id,o0+m*1,some 1⟩) (xs.drop m).length c') (xs.drop m):=fun c' hc' X A hs=>by
   rcases hs with⟨rfl,_⟩ | ⟨id2,o2,c2,b,h1,h2,h3,h4,h5,h6⟩
   ·simp at hx0
   ·cases h1
    have h5:o0+xs.length*1≤b.cells.length:=h5
    exact .inr ⟨id,o0+m*1,c',b,rfl,by rw[hlen];exact hc',h3,h4,by rw[hlen];show o0+m*1+(xs.length-m)*1≤_;omega,fun i z hz=>by
     rw[List.getElem?_drop] at hz
     have:=h6 (m+i) z hz
     rw[show o0+m*1+i*KI.es=o0+(m+i)*KI.es by show o0+m*1+i*1=o0+(m+i)*1;omega]
     exact this⟩
  by_cases hm0:m=0
  ·subst hm0
   refine KW.pure h hlr ho hd rfl _ ?_ (hk (some ⟨id,o0,some 1⟩) c (by simpa using hsub c (by omega)))
   simp only[pop,acut,hu,hx,hi,Option.map,hy,bHi,bLo,ab]
   simp[he]
   rfl
  ·by_cases hcm:c=m
   ·have hd0:xs.drop m=[]:=List.drop_eq_nil_of_le (by omega)
    refine KW.pure h hlr ho hd rfl _ ?_ (hk (some ⟨id,o0,none⟩) 0 (fun X A _=>.inl ⟨hd0,_,0,by rw[hd0];rfl,fun h=>by cases h⟩))
    simp only[pop,acut,hu,hx,hi,Option.map,hy,bHi,bLo,ab,hd0]
    simp[he,hm0,hcm]
    rfl
   ·refine KW.pure h hlr ho hd rfl _ ?_ (hk (some ⟨id,o0+m*1,some 1⟩) (c-m) (hsub _ (by omega)))
    simp only[pop,acut,hu,hx,hi,Option.map,hy,bHi,bLo,ab,hlen]
    simp[he,hm0,hcm]
    exact⟨rfl,Nat.mul_one m,rfl⟩
theorem KW.slFrom {o:Oper} {dr:Bool} {t el:TypeId} {x y:Operand} {inf:TypeInfo} {a:Option Addr} {c m:Nat} {kk:IntKind} {xs:List Int} (hs:KI.Sl S H0 (.slice a xs.length c) xs) (hx0:0<xs.length) (hm:m≤xs.length) (h:Go1 P k e T n (.op o dr) k1 e1 T1 n1 l1 r1) (hlr:l1=r1) (ho:o.op=.slice t x (some y) none none) (hd:o.dst=some d1) (hx:ev e1 x=.slice a xs.length c) (hy:ev e1 y=.int kk (m:Nat))
  (hu:P.underlying t=some (.slice el)) (hi:P.info? el=some inf) (he:inf.size=1) (hk:∀a' c',KI.Sl S H0 (.slice a' (xs.drop m).length c') (xs.drop m)→KW P S H0 Q n1 T1 k1 (put1 e1 d1 (.slice a' (xs.drop m).length c'))):KW P S H0 Q n T k e:=
 KW.slFromG hs hx0 hm h hlr ho hd hx hy hu hi he (fun a' c' f=>hk a' c' (f S H0 hs))
end
def MkB (xs:List Int) (n:Nat) (v:Value) (H1:AH):Prop:=(xs=[]∧v=.slice none 0 0)∨∃o,v=.slice (some ⟨o,0,some 1⟩) xs.length xs.length∧New n H1.n o∧H1.m o=some ⟨2,true,xs.map (Value.int .i64)⟩
section
variable {S:Ids} {H0:AH}
theorem cloneB {a c} {xs:List Int} (hl:xs.length≤1048576) (hs:KI.Sl S H0 (.slice a xs.length c) xs):SpecM Try.prog S H0 64 [.slice a xs.length c] (MkB xs):=by
 refine SpecM.of1 Try.func64 rfl (by kernel_rfl) rfl (fun H _=>?_)
 refine KW.cndB U U (fun h=>?_) (fun h=>?_)
 ·have ha:a=none:=by cases a with
   | none=>rfl
   | some a=>simp at h
  have hx:xs=[]:=by
   rcases hs with⟨hx,_⟩ | ⟨id,k,c1,b,h1,_⟩
   ·exact hx
   ·rw[ha] at h1;cases h1
  subst hx
  refine KW.retM1 U U U U (fun H1 g=>.inl ⟨rfl,rfl⟩)
 ·refine KW.lit U U U U U U U U U U [] U U (fun v hv=>by simp at hv) rfl ?_
  refine KW.appV 0 U U U U U U U U U U (fun H1 g=>acells_I hs.up g) (by simp) (by simp) (fun v hv=>by obtain⟨_,_,rfl⟩:=List.mem_map.1 hv;rfl) (by show(_+_)*8≤_;simp only[List.length_cons,List.length_nil];omega) (by simp only[List.length_cons,List.length_nil];omega) (show 0+xs.length=xs.length from by omega) (fun oa _ _=>?_)
  refine KW.retM1 U U U U (fun H1 g=>.inr ⟨_,rfl,⟨g.ge (H1:=H) (j:=0) rfl,(g.blk (j:=0) rfl).2⟩,(g.blk (j:=0) rfl).1⟩)
end
def augW (L:List (List Int)) (vals:List Int):List (List Int):=List.zipWith (fun r v=>r++[v]) L vals
theorem augW_at {L:List (List Int)} {vals:List Int} {i:Nat} {r:List Int} {v:Int} (h:L[i]?=some r) (h':vals[i]?=some v):(augW L vals)[i]?=some (r++[v]):=by
 simp[augW,List.getElem?_zipWith,h,h']
theorem augW_len {L:List (List Int)} {vals:List Int} (h:vals.length=L.length):(augW L vals).length=L.length:=by simp[augW,h]
theorem augW_rect {p:Int} {k:Nat} {L:List (List Int)} {vals:List Int} (hL:Rect p k L) (hv:∀v∈vals,0≤v∧v<p):Rect p (k+1) (augW L vals):=fun w hw=>by
 obtain⟨i,hi⟩:=List.getElem?_of_mem hw
 simp only[augW,List.getElem?_zipWith] at hi
 split at hi
 ·rename_i r v hr hv'
  simp only[Option.some.injEq] at hi
  subst hi
  have h1:=hL r (List.mem_of_getElem? hr)
  refine⟨by simp[h1.1],fun x hx=>?_⟩
  rcases List.mem_append.1 hx with h | h
  ·exact h1.2 x h
  ·rw[List.mem_singleton.1 h];exact hv v (List.mem_of_getElem? hv')
 ·cases hi
theorem RowsB.slV {S V:Ids} {A H1:AH} {rows:List (List Int)} {cs:List Value} {T:List Var} {n j o:Nat} {ty:TypeId} (h:RowsB KI.ml S A V rows cs) (g:Good S A T n H1) (hT:T[j]?=some (o,⟨ty,true,cs⟩)):KI.sl.Sl (Low H1.n) H1 (.slice (some ⟨o,0,some 1⟩) rows.length rows.length) rows:=
 (h.ml rfl g hT (X:=Low H1.n) (g.blk hT).2 (fun id hid=>by have:=(g.froz id (h.sub id hid)).1;have:=g.n_;show id<_;omega)).to (KLe.row (KLe.refl KI))
section
variable {P:Program} {S:Ids} {H0:AH} {Q:PostC} {k k1:List It} {e e1:Env} {T T1:List Var} {n n1:Nat} {l1 r1:List Nat} {d1:Tmp}
theorem KW.callWV {f:Operand} {xs:Array Operand} {ts:Array TypeId} {g:FuncId} {first cap:Array Value} {o:Oper} {W:Ids} {post:Nat→Value→AH→Prop} (hW:∀id,W id→S id) (h:Go1 P k e T n (.op o false) k1 e1 T1 n1 l1 r1) (hlr:l1=r1) (ho:o.op=.call {callee:=.value f,args:=xs,argTypes:=ts}) (hd:o.dst=some d1) (hf:ev e1 f=.func (.func g) first cap)
  (hs:∀H,Good S H0 T1 n1 H→Stp S H0 (Low H.n) H→SpecW P (Low H.n) H W g (cargs e1 first cap xs) post)
  (hk:∀v H1 (S':Ids),n1≤H1.n→StW W S H0 S' H1→(∀id,New n1 H1.n id→S' id)→post n1 v H1→KW P S' H1 Q H1.n T1 k1 (put1 e1 d1 (untag v))):KW P S H0 Q n T k e:=by
 refine KW.go h hlr (fun H gd=>?_)
 replace gd:Good S H0 T1 n1 H:=gd
 obtain⟨m,v,H1,h1,hx1,hx2,hfin,hp⟩:=hs H gd gd.stp H gd.fin (fun id hid=>⟨hid,rfl⟩)
 have hn:H.n=n1:=gd.n_
 have e:untags (first++aargs e1 xs++cap)=(cargs e1 first cap xs).toArray:=by
  apply Array.ext'
  simp[aargs,untags,cargs]
 refine⟨m,untag v,H1,?_,?_⟩
 ·rw[ho]
  simp only[evOp,evCall,hf]
  exact⟨v,rfl,by rw[e];exact h1,fun h=>by cases h⟩
 ·rw[hn] at hp
  rw[hd,put1_eq]
  refine hk v H1 (fun id=>S id∨New n1 H1.n id) (by rw[← hn];exact hx1) (fun id hid=>⟨.inl hid,fun hw=>?_⟩) (fun id hid=>.inr hid) hp H1 ?_
  ·obtain⟨h2,h3⟩:=gd.froz id hid
   rw[hx2 id (by omega) hw,h3]
  ·refine⟨rfl,hfin,fun id hid=>⟨?_,rfl⟩,fun j w hj=>?_,gd.dist⟩
   ·rcases hid with hid | hid
    ·have:=(gd.froz id hid).1;omega
    ·exact hid.2
   ·obtain⟨h2,h3,h4⟩:=gd.vars j w hj
    refine⟨by rw[hx2 _ (by omega) (fun hw=>h4 (hW _ hw))];exact h2,by omega,fun hh=>?_⟩
    rcases hh with hh | hh
    ·exact h4 hh
    ·have:=hh.1;omega
end
section
variable {S:Ids} {H0:AH}
theorem first1 (a:Int):Spec Try.prog S H0 240 [.int .i64 a] (fun v=>v=.bool (!decide (a=0))):=by
 refine Spec.of1 Try.func240 rfl (by kernel_rfl) rfl (fun H _=>?_)
 exact KW.ret U U U U (rfl)
theorem indexFunc0 {a c} {xs:List Int} (hl:xs.length≤4611686018427387904) (hs:KI.Sl S H0 (.slice a xs.length c) xs):
  Spec Try.prog S H0 196 [.slice a xs.length c,.func (.func 240) #[] #[]] (fun v=>v=.int .i64 (if fz xs<xs.length then(fz xs:Int) else -1)):=by
 refine Spec.of1 Try.func196 rfl (by kernel_rfl) rfl (fun H _=>?_)
 refine KW.lp U U (fun i:Nat=>[(0,.slice a xs.length c),(1,.func (.func 240) #[] #[]),(7,.int .i64 xs.length),(8,.int .i64 i)]) (fun i=>i≤xs.length∧∀j,j<i→xs.getD j 0=0) (fun i=>xs.length-i) (0) (⟨by omega,fun j h=>absurd h (by omega)⟩) ⟨rfl,rfl,rfl,rfl,trivial⟩ (fun i hi bE n=>?_)
 obtain⟨hi,hj⟩:=hi
 refine KW.cnd U U (fun h=>?_) (fun h=>?_)
 ·refine KW.getI hs.up U U U U U U U U U U U U U U U U (by omega) (h) (fun x hx=>?_)
  have hx:xs[i]?=some x:=hx
  have hxD:xs.getD i 0=x:=by rw[List.getD_eq_getElem?_getD,hx];rfl
  refine KW.callE U U U U U (first1 x) (fun _ _=>?_)
  refine KW.cndB U U (fun h2=>?_) (fun h2=>?_)
  ·have h2:x≠0:=by simpa using h2
   have e:fz xs=i:=fz_eq (by rw[hxD];exact h2) hj
   exact KW.ret U U U U (by rw[e,if_pos (by omega)];rfl)
  ·have h2:x=0:=by simpa using h2
   refine KW.nxt U U (fun H' g=>⟨i+1,⟨by omega,fun j hj'=>by rcases Nat.lt_or_ge j i with h3 | h3;exact hj j h3;rw[show j=i by omega,hxD];exact h2⟩,by first | omega | (simp only;omega),⟨rfl,rfl,rfl,congrArg (Value.int .i64) (inc64 (by omega)),trivial⟩,g⟩)
 ·have e:fz xs=xs.length:=fz_of_zero fun j=>by
   rcases Nat.lt_or_ge j i with h3 | h3
   ·exact hj j h3
   ·rw[List.getD_eq_getElem?_getD,List.getElem?_eq_none (by omega)];rfl
  exact KW.ret U U U U (by rw[e,if_neg (by omega)];rfl)
theorem first {a c} {xs:List Int} (hl:xs.length≤4611686018427387904) (hs:KI.Sl S H0 (.slice a xs.length c) xs):
  Spec Try.prog S H0 204 [.slice a xs.length c] (fun v=>v=.int .i64 (if fz xs<xs.length then(fz xs:Int) else -1)):=by
 refine Spec.of1 Try.func204 rfl (by kernel_rfl) rfl (fun H _=>?_)
 refine KW.callE U U U U U (indexFunc0 hl hs.up) (fun _ _=>?_)
 exact KW.ret U U U U (rfl)
end
def Kn.inX {α:Type} (d:Kn α) (X:Ids):Kn α where
 es:=d.es
 R:=fun S A x cs=>(∀id,X id→S id)∧d.R X A x cs
 len:=fun h=>d.len h.2
 same:=fun hs h=>⟨h.1,d.same (fun id hid=>hs id (h.1 id hid)) h.2⟩
 more:=fun hS h=>⟨fun id hid=>hS id (h.1 id hid),h.2⟩
theorem Kn.Sl.inX {α:Type} {d:Kn α} {X S:Ids} {A:AH} {s:Value} {xs:List α} (h:d.Sl X A s xs) (hX:∀id,X id→S id):(d.inX X).Sl S A s xs:=by
 rcases h with h | ⟨id,k,c,b,e1,e2,e3,e4,e5,e6⟩
 ·exact .inl h
 ·exact .inr ⟨id,k,c,b,e1,e2,hX id e3,e4,e5,fun i x hx=>⟨hX,e6 i x hx⟩⟩
abbrev K_Prt:Kn PrT:=Kn.pair KI.sl KI.sl
theorem form_Prt {S:Ids} {A:AH} {x:PrT} {cs:List Value} (h:K_Prt.R S A x cs):∃a1 c1 a2 c2,cs=[.slice a1 x.1.length c1,.slice a2 x.2.length c2]∧KI.Sl S A (.slice a1 x.1.length c1) x.1∧KI.Sl S A (.slice a2 x.2.length c2) x.2:=by
 obtain⟨e0,d0,rfl,h0,h1⟩:=h
 obtain⟨a1,c1,rfl⟩:=slform h0
 obtain⟨a2,c2,rfl⟩:=slform h1
 exact⟨a1,c1,a2,c2,rfl,sl1 h0,sl1 h1⟩
structure LsI (p:Int) (B:List PrT) (x:PrT) (W1 W2:Ids) (H:AH) (v1 v2:Value) (i:Nat) (S:Ids) (A:AH):Prop where
 le:i≤B.length
 low:∀id,id<H.n→S id∧(¬(W1 id∨W2 id)→A.m id=H.m id)
 r1:KI.Ml W1 A v1 (less p (B.take i) x).1
 r2:KI.Ml W2 A v2 (less p (B.take i) x).2
structure LsS where
 i:Nat
 S:Ids
 A:AH
section
variable {S:Ids} {H0:AH}
theorem lessC {p:Int} {k q:Nat} (hp:PrimeP p) (hk:k≤100) (hq:q≤100) {B:List PrT} {x:PrT} (hB:∀b∈B,PrOk p k q b∧fz b.1<k) (hx:PrOk p k q x) (hBl:B.length≤100)
  {W1 W2 X:Ids} {bid mid:Nat} {a1 c1 a2 c2 ab cb} {mv1 mv2:Value} (hM:Has3 S H0 mid 0 [.int .i64 p,mv1,mv2]) (hMW:¬(W1 mid∨W2 mid)) (hb:Has3 S H0 bid 0 [.slice ab B.length cb]) (hbW:¬(W1 bid∨W2 bid)) (hBs:K_Prt.Sl X H0 (.slice ab B.length cb) B) (hX:∀id,X id→S id∧¬(W1 id∨W2 id))
  (hW:∀id,W1 id∨W2 id→S id) (hd:∀id,W1 id→W2 id→False) (h1:KI.Ml W1 H0 (.slice a1 x.1.length c1) x.1) (h2:KI.Ml W2 H0 (.slice a2 x.2.length c2) x.2):
  SpecW Try.prog S H0 (fun id=>W1 id∨W2 id) 203 [.agg #[.slice a1 x.1.length c1,.slice a2 x.2.length c2],.pointer (some ⟨bid,0,none⟩),.pointer (some ⟨mid,0,none⟩)]
   (fun _ v H1=>v=.agg #[.slice a1 x.1.length c1,.slice a2 x.2.length c2]∧KI.Ml W1 H1 (.slice a1 x.1.length c1) (less p B x).1∧KI.Ml W2 H1 (.slice a2 x.2.length c2) (less p B x).2):=by
 have hp31:2≤p∧p≤31:=⟨hp.1,hp.2.1⟩
 have hp0:0<p:=by omega
 refine SpecW.of0 Try.func203 rfl (by kernel_rfl) rfl (fun H hfin hfz=>?_)
 haveI o:On S H0 (Low H.n) H:=⟨fun id hs=>⟨(hfz id hs).1,(hfz id hs).2⟩⟩
 have hM0:Has3 (Low H.n) H mid 0 _:=hM.up
 have hb0:Has3 (Low H.n) H bid 0 _:=hb.up
 have hBs0:K_Prt.Sl X H (.slice ab B.length cb) B:=hBs.same fun id hid=>(hfz id (hX id hid).1).2
 have hXl:∀id,X id→id<H.n:=fun id hid=>(hfz id (hX id hid).1).1
 have h10:KI.Ml W1 H (.slice a1 x.1.length c1) x.1:=Kn.Ml.same (fun id hid=>(hfz id (hW id (.inl hid))).2) h1
 have h20:KI.Ml W2 H (.slice a2 x.2.length c2) x.2:=Kn.Ml.same (fun id hid=>(hfz id (hW id (.inr hid))).2) h2
 have hWl:∀id,W1 id∨W2 id→id<H.n:=fun id hid=>(hfz id (hW id hid)).1
 have hXW:∀id,X id→¬(W1 id∨W2 id):=fun id hid=>(hX id hid).2
 refine KW.ldF 0 hb0 U U U U U U U U U ?_
 refine KW.lpM U U (fun s:LsS=>[(2,.pointer (some ⟨mid,0,none⟩)),(3,.pointer (some ⟨H.n,0,some 0⟩)),(4,.pointer (some ⟨H.n+1,0,some 1⟩)),(9,.slice ab B.length cb),(10,.int .i64 B.length),(11,.int .i64 s.i)]) (fun s=>s.S) (fun s=>s.A) (fun s=>[(H.n,⟨255,true,[.slice a1 x.1.length c1,.slice a2 x.2.length c2]⟩),(H.n+1,⟨255,true,[.slice none 0 0,.slice none 0 0]⟩)]) (fun s=>LsI p B x W1 W2 H (.slice a1 x.1.length c1) (.slice a2 x.2.length c2) s.i s.S s.A) (fun s=>B.length-s.i) (⟨0,Low H.n,H⟩) (⟨Nat.zero_le _,fun id h=>⟨h,fun _=>rfl⟩,h10,h20⟩) ⟨rfl,rfl,rfl,rfl,rfl,rfl,trivial⟩ U U (rfl) (fun s hi bE n=>?_)
 obtain⟨i,S1,A1⟩:=s
 obtain⟨ile,low,r1,r2⟩:=hi
 simp only at ile low r1 r2
 have hM1:Has3 S1 A1 mid 0 [.int .i64 p,mv1,mv2]:=by
  obtain⟨q0,b,q1,q2⟩:=hM0
  exact⟨(low mid q0).1,b,((low mid q0).2 hMW).trans q1,q2⟩
 have hBs1:K_Prt.Sl X A1 (.slice ab B.length cb) B:=hBs0.same fun id hid=>(low id (hXl id hid)).2 (hXW id hid)
 have hXS:∀id,X id→S1 id:=fun id hid=>(low id (hXl id hid)).1
 have hy:PrOk p k q (less p (B.take i) x):=less_ok hp0 _ _ (fun b hb=>(hB b (List.mem_of_mem_take hb)).1) hx
 obtain⟨y,ey⟩:∃y,less p (B.take i) x=y:=⟨_,rfl⟩
 rw[ey] at r1 r2 hy
 have l1:x.1.length=y.1.length:=hx.1.1.trans hy.1.1.symm
 have l2:x.2.length=y.2.length:=hx.2.1.trans hy.2.1.symm
 rw[l1] at r1 ⊢
 rw[l2] at r2 ⊢
 refine KW.cnd U U (fun k1=>?_) (fun k1=>?_)
 ·have k1:(i:Int)<(B.length:Int):=k1
  refine KW.getS (td:=.struct #[]) ((hBs1.inX hXS)) U U U U U U U U U U U U U U U U U (by omega) (k1) (fun b cy hb1 hRb=>?_)
  have hb1:B[i]?=some b:=hb1
  obtain⟨b1,e1,b2,e2,rfl,s1,s2⟩:=form_Prt hRb.2
  obtain⟨bok,bfz⟩:=hB b (List.mem_of_getElem? hb1)
  have et:less p (B.take (i+1)) x=stp p y b:=by
   rw[List.take_add_one,hb1]
   show less p (B.take i++[b]) x=_
   rw[less_snoc,ey]
  have hbl:=bok.1.1
  have hbl2:=bok.2.1
  have hyl:=hy.1.1
  have hyl2:=hy.2.1
  refine KW.callE U U U U U (first (by omega) (s1.more hXS)) (fun _ _=>?_)
  rw[if_pos (by omega)]
  have hyk:=el_ok hp0 hy.1 (fz b.1)
  refine KW.getI ((r1.sl.more (fun id hid=>(low id (hWl id (.inl hid))).1))) U U U U U U U U U U U U U U U U (by omega) (by omega) (fun z hz=>?_)
  have hz:y.1[fz b.1]?=some z:=hz
  have hzD:y.1.getD (fz b.1) 0=z:=by rw[List.getD_eq_getElem?_getD,hz];rfl
  rw[hzD] at hyk
  refine KW.cndB U U (fun k2=>?_) (fun k2=>?_)
  ·have k2:z≠0:=by simpa using k2
   have es:stp p y b=(tk p z y.1 b.1,tk p z y.2 b.2):=by
    unfold stp
    rw[hzD,if_pos k2]
   refine KW.getI ((r1.sl.more (fun id hid=>(low id (hWl id (.inl hid))).1))) U U U U U U U U U U U U U U U U (by omega) (by omega) (fun z2 hz2=>?_)
   have hz2:y.1[fz b.1]?=some z2:=hz2
   obtain rfl:z2=z:=by rw[hz] at hz2;exact(Option.some.inj hz2).symm
   refine KW.ldF 0 hM1 U U U U U U U U U ?_
   refine KW.callW (W:=W1) (fun id hid=>(low id (hWl id (.inl hid))).1) U U U U U (takeOff (W:=W1) (X:=X) hp31 hyk (hyl.trans hbl.symm) bok.1.2 (fun id hid=>⟨hXS id hid,fun hh=>hXW id hid (.inl hh)⟩) s1 (by omega) hy.1.2 (fun id hid=>(low id (hWl id (.inl hid))).1) r1) (fun v A2 S2 m2 t2 w2 hv=>?_)
   have hM2:Has3 S2 A2 mid 0 [.int .i64 p,mv1,mv2]:=by
    obtain⟨q0,b,q1,q2⟩:=hM1
    exact⟨(t2 mid q0).1,b,((t2 mid q0).2 (fun hh=>hMW (.inl hh))).trans q1,q2⟩
   have r22:KI.Ml W2 A2 (.slice a2 y.2.length c2) y.2:=Kn.Ml.same (fun id hid=>(t2 id (low id (hWl id (.inr hid))).1).2 (fun hh=>hd id hh hid)) r2
   have s22:KI.Sl X A2 (.slice b2 b.2.length e2) b.2:=s2.same fun id hid=>(t2 id (hXS id hid)).2 (fun hh=>hXW id hid (.inl hh))
   refine KW.ldF 0 hM2 U U U U U U U U U ?_
   refine KW.callW (W:=W2) (fun id hid=>(t2 id (low id (hWl id (.inr hid))).1).1) U U U U U (takeOff (W:=W2) (X:=X) hp31 hyk (hyl2.trans hbl2.symm) bok.2.2 (fun id hid=>⟨(t2 id (hXS id hid)).1,fun hh=>hXW id hid (.inr hh)⟩) s22 (by omega) hy.2.2 (fun id hid=>(t2 id (low id (hWl id (.inr hid))).1).1) r22) (fun v3 A3 S3 m3 t3 w3 hv3=>?_)
   have hv1:KI.Ml W1 A3 (.slice a1 y.1.length c1) (tk p z2 y.1 b.1):=Kn.Ml.same (fun id hid=>(t3 id (t2 id (low id (hWl id (.inl hid))).1).1).2 (fun hh=>hd id hid hh)) hv
   refine KW.nxt U U (fun H' g=>⟨⟨i+1,S3,A3⟩,⟨by simp only;omega,fun id hid=>⟨(t3 id (t2 id (low id hid).1).1).1,fun hh=>((t3 id (t2 id (low id hid).1).1).2 (fun h=>hh (.inr h))).trans (((t2 id (low id hid).1).2 (fun h=>hh (.inl h))).trans ((low id hid).2 hh))⟩,by simp only[et,es];exact hv1,by simp only[et,es];exact hv3⟩,by first | omega | (simp only;omega),⟨rfl,rfl,rfl,rfl,rfl,congrArg (Value.int .i64) (inc64 (by omega)),trivial⟩,g.take 2⟩)
  ·have k2:z=0:=by simpa using k2
   have es:stp p y b=y:=by
    unfold stp
    rw[hzD,if_neg (by rw[k2];simp)]
   refine KW.nxt U U (fun H' g=>⟨⟨i+1,S1,A1⟩,⟨by simp only;omega,low,by simp only[et,es];exact r1,by simp only[et,es];exact r2⟩,by first | omega | (simp only;omega),⟨rfl,rfl,rfl,rfl,rfl,congrArg (Value.int .i64) (inc64 (by omega)),trivial⟩,g.take 2⟩)
 ·have k1:¬(i:Int)<(B.length:Int):=k1
  obtain rfl:i=B.length:=by omega
  rw[List.take_length] at ey
  rw[ey]
  refine KW.retW U U U U (fun H1 g=>by have:=(g.vars 1 _ rfl).2.1;have:=g.n_;omega) (fun id hid hw=>⟨(low id hid).1,(low id hid).2 hw⟩) (fun H1 g=>⟨rfl,?_,?_⟩)
  ·exact Kn.Ml.same (fun id hid=>(g.froz id (low id (hWl id (.inl hid))).1).2) r1
  ·exact Kn.Ml.same (fun id hid=>(g.froz id (low id (hWl id (.inr hid))).1).2) r2
end
end Go.Proofs.Ytlapbbffoapleaa.Am
namespace Go.Proofs.Ytlapbbffoapleaa.Am
open Go Go.RowKit
def Ap (S:Ids) (T:List Var) (e:Env) (j:Nat) (u:Tmp):Prop:=(∃i b id k s,e u=.pointer (some ⟨id,k,s⟩)∧T[i]?=some (id,b)∧i≠j)∨∃id k s,e u=.pointer (some ⟨id,k,s⟩)∧S id
def AllL (S:Ids) (T:List Var) (e:Env) (j:Nat):List Tmp→Prop
 | []=>True
 | u :: L=>Ap S T e j u∧AllL S T e j L
section
variable {P:Program} {S:Ids} {H0:AH} {Q:PostC} {k k1 k2:List It} {e e1 e2:Env} {T T1 T2:List Var} {n n1 n2:Nat} {l1 r1 l2 r2:List Nat} {d1 d2:Tmp}
theorem AllL.out {L:List Tmp} {j:Nat} {H H1:AH} {v0:Var} (g:Good S H0 T n H) (hj:T[j]?=some v0∨j=T.length) (hL:AllL S T e j L) (hH:∀id,id<n→(∀v,T[j]?=some v→id≠v.1)→H1.m id=H.m id):∀t∈L,∀id k s,e t=.pointer (some ⟨id,k,s⟩)→H1.m id=H.m id:=by
 induction L with
 | nil=>intro t ht;cases ht
 | cons u L ih=>
  intro t ht id k s he
  rcases List.mem_cons.1 ht with rfl | ht
  ·rcases hL.1 with⟨i,b,id',k',s',h1,h2,h3⟩ | ⟨id',k',s',h1,h2⟩
   ·rw[h1] at he
    cases he
    exact hH id (g.vars i _ h2).2.1 (fun v hv heq=>h3 (g.dist i j _ v h2 hv heq))
   ·rw[h1] at he
    cases he
    exact hH id (g.froz id h2).1 (fun v hv heq=>(g.vars j v hv).2.2 (heq ▸ h2))
  ·exact ih hL.2 t ht id k s he
theorem KEvt.heapL {o:Oper} {dr:Bool} {c:Cf} {L:List Tmp} (v:Value) (T':List Var) (n':Nat) (hc:opClass o.op=1∨opClass o.op=2) (hp:∀H,Good S H0 c.T c.n H→∃tag H1,hop P tag o.op c.e H=some (v,H1)∧Good S H0 T' n' H1∧∀t∈L,∀id k s,c.e t=.pointer (some ⟨id,k,s⟩)→H1.m id=H.m id) (hk:KW P S H0 Q n' T' c.k (put c.e o.dst v)):KEvt P S H0 Q (.opL o dr L) c:=by
 intro H g
 obtain⟨tag,H1,h1,g1,h2⟩:=hp H g
 refine⟨0,v,H1,?_,h2,hk H1 g1⟩
 unfold evOp
 split
 ·rename_i hop;rw[hop] at hc;simp[opClass] at hc
 ·split
  ·rename_i h0;omega
  ·exact⟨tag,h1⟩
theorem KW.appNL {o:Oper} {dr:Bool} {L:List Tmp} {t el:TypeId} {x y:Operand} {inf:TypeInfo} {m:Nat} {ys:List Value} (h:Go1 P k e T n (.opL o dr L) k1 e1 T1 n1 l1 r1) (hlr:l1=r1) (ho:o.op=.call {callee:=.builtin .append,args:=#[x,y],argTypes:=#[t,t]}) (hd:o.dst=some d1) (hx:ev e1 x=.slice none 0 0)
  (hu:P.underlying t=some (.slice el)) (hi:P.info? el=some inf) (hs:inf.size=1) (hzo:zeroOkL P el=true) (hy:∀H,Good S H0 T1 n1 H→acells H (ev e1 y) 1=some (m,ys)) (hone:∀v∈ys,v.oneCell'=true) (hm:m≠0) (hb:m*inf.bytes≤140737488355328) (hml:m≤9223372036854775807) (hL:AllL S T1 e1 T1.length L)
  (hk:KW P S H0 Q (n1+1) (T1++[(n1,⟨el,true,ys⟩)]) k1 (put1 e1 d1 (.slice (some ⟨n1,0,some 1⟩) m m))):KW P S H0 Q n T k e:=by
 refine KW.go h hlr (KEvt.heapL (c:=⟨_,_,_,_,_,_⟩) _ _ _ (by rw[ho];exact .inr rfl) (fun H g=>⟨none,_,?_,g.push _,AllL.out (v0:=(0,⟨0,true,[]⟩)) g (.inr rfl) hL (fun i hi _=>?_)⟩) (by rw[hd,put1_eq];exact hk))
 ·rw[ho]
  have h1:=hy H g
  simp only[hop,aapp,aappend,hu,hi,hs,hx,h1]
  rw[if_pos trivial,if_pos ⟨zeroOkL_ok hzo,by omega,List.all_eq_true.2 hone⟩,if_neg hm,if_pos ⟨hml,hb⟩,g.n_]
 ·have hn:=g.n_
  have hi:i<n1:=hi
  have:¬i=H.n:=by omega
  simp[AH.push,this]
theorem KW.appTL {o:Oper} {dr:Bool} {L:List Tmp} {t el:TypeId} {x y:Operand} {inf:TypeInfo} {m len c id:Nat} {xs ys:List Value} (j:Nat) (h:Go1 P k e T n (.opL o dr L) k1 e1 T1 n1 l1 r1) (hlr:l1=r1) (ho:o.op=.call {callee:=.builtin .append,args:=#[x,y],argTypes:=#[t,t]}) (hd:o.dst=some d1) (hx:ev e1 x=.slice (some ⟨id,0,some 1⟩) len c) (hT:T1[j]?=some (id,⟨el,true,xs⟩))
  (hu:P.underlying t=some (.slice el)) (hi:P.info? el=some inf) (hs:inf.size=1) (hzo:zeroOkL P el=true) (hy:∀H,Good S H0 T1 n1 H→acells H (ev e1 y) 1=some (m,ys)) (hlen:xs.length=len) (hone:∀v∈ys,v.oneCell'=true) (hm:m≠0) (hb:(len+m)*inf.bytes≤140737488355328) (hml:len+m≤9223372036854775807) (hL:AllL S T1 e1 j L)
  (hk:KW P S H0 Q (n1+1) (T1.set j (n1,⟨el,true,xs++ys⟩)) k1 (put1 e1 d1 (.slice (some ⟨n1,0,some 1⟩) (len+m) (len+m)))):KW P S H0 Q n T k e:=by
 refine KW.go h hlr (KEvt.heapL (c:=⟨_,_,_,_,_,_⟩) _ _ _ (by rw[ho];exact .inr rfl) (fun H g=>⟨none,_,?_,g.move hT _,AllL.out g (.inl hT) hL (fun i hi hne=>?_)⟩) (by rw[hd,put1_eq];exact hk))
 ·rw[ho]
  have h1:=hy H g
  have h2:=(g.blk hT).1
  simp only[hop,aapp,aappend,hu,hi,hs,hx,h1,h2]
  rw[if_pos trivial,if_pos ⟨zeroOkL_ok hzo,by omega,List.all_eq_true.2 hone⟩,if_neg hm,if_pos ⟨trivial,trivial,trivial,by omega,hml,hb⟩]
  simp only[List.drop_zero,Nat.mul_one,AH.kill,g.n_]
  rw[List.take_of_length_le (by omega)]
 ·have hn:=g.n_
  have hi:i<n1:=hi
  have h3:¬i=H.n:=by omega
  have h4:=hne _ hT
  simp[AH.push,AH.kill,h3,h4]
theorem KW.app1L (j m0:Nat) {o o':Oper} {dr dr':Bool} {L:List Tmp} {t el t':TypeId} {m:Nat} {parts:Array (Nat × Operand)} {inf:TypeInfo} {z:Value} {x y:Operand} {len c id:Nat} {xs:List Value} {v:Value} (h:Go1 P k e T n (.op o dr) k1 e1 T1 n1 l1 r1) (hlr:l1=r1) (ho:o.op=.buildSlice t m parts) (hd:o.dst=some d1)
  (hu:P.underlying t=some (.slice el)) (hi:P.info? el=some inf) (hs:inf.size=1) (hz:inf.zero=some z) (hz1:z.cells=#[z]) (hzo:zeroOkL P el=true) (hp:(parts.toList.map fun p=>(p.1,ev e1 p.2))=[(0,v)]) (hm:m=1) (hv:v.cells=#[v]) (ho1:v.oneCell'=true)
  (h':Go1 P k1 (put1 e1 d1 (.slice (some ⟨n1,0,some 1⟩) 1 1)) (T1++[(n1,⟨el,true,[v]⟩)]) (n1+1) (.opL o' dr' L) k2 e2 T2 n2 l2 r2) (hlr':l2=r2) (ho':o'.op=.call {callee:=.builtin .append,args:=#[x,y],argTypes:=#[t',t']}) (hd':o'.dst=some d2) (hx':ev e2 x=.slice (some ⟨id,0,some 1⟩) len c) (hT:T2[j]?=some (id,⟨el,true,xs⟩))
  (hu':P.underlying t'=some (.slice el)) (hy':ev e2 y=.slice (some ⟨n1,0,some 1⟩) 1 1) (hT2:T2[m0]?=some (n1,⟨el,true,[v]⟩)) (hlen:xs.length=len) (hb:(len+1)*inf.bytes≤140737488355328) (hml:len+1≤9223372036854775807) (hL:AllL S T2 e2 j L)
  (hk:KW P S H0 Q (n2+1) ((T2.set j (n2,⟨el,true,xs++[v]⟩)).take m0) k2 (put1 e2 d2 (.slice (some ⟨n2,0,some 1⟩) (len+1) (len+1)))):KW P S H0 Q n T k e:=
 KW.lit h hlr ho hd hu hi hs hz hz1 hzo [v] (by rw[hp];rfl) hm (fun u hu=>by rw[List.mem_singleton.1 hu];exact hv) rfl
  (KW.appTL (ys:=[v]) (m:=1) j h' hlr' ho' hd' hx' hT hu' hi hs hzo (fun H g=>by rw[hy'];exact acells_T (g.blk hT2).1 U U) hlen (fun u hu=>by rw[List.mem_singleton.1 hu];exact ho1) (by decide) hb hml hL (KW.take m0 hk))
theorem KW.app0L {o o':Oper} {dr dr':Bool} {L:List Tmp} {t el t':TypeId} {m:Nat} {parts:Array (Nat × Operand)} {inf:TypeInfo} {z:Value} {x y:Operand} {v:Value} (m0:Nat) (h:Go1 P k e T n (.op o dr) k1 e1 T1 n1 l1 r1) (hlr:l1=r1) (ho:o.op=.buildSlice t m parts) (hd:o.dst=some d1)
  (hu:P.underlying t=some (.slice el)) (hi:P.info? el=some inf) (hs:inf.size=1) (hz:inf.zero=some z) (hz1:z.cells=#[z]) (hzo:zeroOkL P el=true) (hp:(parts.toList.map fun p=>(p.1,ev e1 p.2))=[(0,v)]) (hm:m=1) (hv:v.cells=#[v]) (ho1:v.oneCell'=true)
  (h':Go1 P k1 (put1 e1 d1 (.slice (some ⟨n1,0,some 1⟩) 1 1)) (T1++[(n1,⟨el,true,[v]⟩)]) (n1+1) (.opL o' dr' L) k2 e2 T2 n2 l2 r2) (hlr':l2=r2) (ho':o'.op=.call {callee:=.builtin .append,args:=#[x,y],argTypes:=#[t',t']}) (hd':o'.dst=some d2) (hx':ev e2 x=.slice none 0 0)
  (hu':P.underlying t'=some (.slice el)) (hy':ev e2 y=.slice (some ⟨n1,0,some 1⟩) 1 1) (hT2:T2[m0]?=some (n1,⟨el,true,[v]⟩)) (hb:inf.bytes≤140737488355328) (hL:AllL S T2 e2 T2.length L)
  (hk:KW P S H0 Q (n2+1) (T2++[(n2,⟨el,true,[v]⟩)]) k2 (put1 e2 d2 (.slice (some ⟨n2,0,some 1⟩) 1 1))):KW P S H0 Q n T k e:=
 KW.lit h hlr ho hd hu hi hs hz hz1 hzo [v] (by rw[hp];rfl) hm (fun u hu=>by rw[List.mem_singleton.1 hu];exact hv) rfl
  (KW.appNL (ys:=[v]) (m:=1) h' hlr' ho' hd' hx' hu' hi hs hzo (fun H g=>by rw[hy'];exact acells_T (g.blk hT2).1 U U) (fun u hu=>by rw[List.mem_singleton.1 hu];exact ho1) (by decide) (by omega) (by decide) hL hk)
end
end Go.Proofs.Ytlapbbffoapleaa.Am
namespace Go.Proofs.Ytlapbbffoapleaa.Am
open Go Go.RowKit Go.Proofs Go.Proofs.Ytlapbbffoapleaa.Pl
theorem built_Prt (a1 a2:Option Addr) (n1 c1 n2 c2:Nat):Try.prog.built 255 [(0,.slice a1 n1 c1),(1,.slice a2 n2 c2)]=some #[.slice a1 n1 c1,.slice a2 n2 c2]:=by kernel_rfl
structure CbS where
 i:Nat
 S:Ids
 A:AH
 V:Ids
 o:Nat
 cs:List Value
structure CbI (p:Int) (L:List (List Int)) (H:AH) (s:CbS):Prop where
 le:s.i≤L.length
 old:∀id,id<H.n→s.S id∧s.A.m id=H.m id
 v:∀id,s.V id→s.S id
 len:s.cs.length=(basN p L s.i).length*2
 cl:Cl K_Prt s.V s.A (basN p L s.i) s.cs
def MkCb (r:Option (List Int)) (n:Nat) (v:Value) (H1:AH):Prop:=
 match r with
 | none=>v=.tuple #[.slice none 0 0,.bool false]
 | some cs=>∃a c,v=.tuple #[.slice a cs.length c,.bool true]∧KI.Sl (New n H1.n) H1 (.slice a cs.length c) cs
theorem wrM {p:Int} (hp:2≤p∧p≤31):IntKind.i64.wrap (p-1)=p-1:=wr (by omega) (by omega)
section
variable {S:Ids} {H0:AH}
theorem combination {p:Int} {k:Nat} (hp:PrimeP p) (hk0:1≤k) (hk:k≤100) {L:List (List Int)} {t:List Int} (hLl:L.length≤100) (hL:Rect p k L) (ht:t.length=k∧∀a∈t,0≤a∧a<p) {a1 c1 a2 c2} (hs0:KI.sl.Sl S H0 (.slice a1 L.length c1) L) (ht0:KI.Sl S H0 (.slice a2 t.length c2) t):
  SpecM Try.prog S H0 155 [.agg #[.int .i64 p,.int .i64 k,.slice a1 L.length c1],.slice a2 t.length c2] (MkCb (comb p L t)):=by
 have hf:=fer hp
 have hp31:2≤p∧p≤31:=⟨hp.1,hp.2.1⟩
 have hp0:0<p:=by omega
 refine SpecM.of1 Try.func155 rfl (by kernel_rfl) rfl (fun H _=>?_)
 have hs:=hs0.up (S':=Low H.n) (H':=H)
 have hts:=ht0.up (S':=Low H.n) (H':=H)
 have bok:=fun m hm=>basN_ok hf hL m hm
 refine KW.litS0 U U U U U U U U U U ?_
 refine KW.lpM U U (fun s:CbS=>[(1,.slice a2 t.length c2),(2,.pointer (some ⟨H.n,0,some 0⟩)),(4,.slice none 0 0),(5,.bool false),(6,.pointer (some ⟨H.n+2,0,some 2⟩)),(7,.func (.func 203) #[] #[.pointer (some ⟨H.n+2,0,some 2⟩),.pointer (some ⟨H.n,0,some 0⟩)]),(17,.slice a1 L.length c1),(18,.int .i64 L.length),(19,.int .i64 s.i)]) (fun s=>s.S) (fun s=>s.A) (fun s=>[(H.n,⟨26,true,[.int .i64 p,.int .i64 k,.slice a1 L.length c1]⟩),(s.o,⟨255,true,s.cs⟩),(H.n+2,⟨253,true,[.slice (some ⟨s.o,0,some 2⟩) (basN p L s.i).length (basN p L s.i).length]⟩)]) (fun s=>CbI p L H s) (fun s=>L.length-s.i) (⟨0,Low H.n,H,fun _=>False,H.n+1,[]⟩) (⟨Nat.zero_le _,fun id h=>⟨h,rfl⟩,fun _ h=>h.elim,rfl,Cl.nil _ _ _ _⟩) ⟨rfl,rfl,rfl,rfl,rfl,rfl,rfl,rfl,rfl,trivial⟩ U U (rfl) (fun s hi bE n=>?_)
 obtain⟨i,S1,A1,V,o,cs⟩:=s
 obtain⟨ile,old,hV,hcl,cl⟩:=hi
 simp only at ile old hV hcl cl
 haveI o1:On (Low H.n) H S1 A1:=⟨old⟩
 refine KW.ids (fun hlow hvar=>?_)
 refine KW.fact (p:=H.n+2<n∧o<n∧¬S1 o∧¬S1 (H.n+2)) (fun H1 g=>⟨(g.vars 2 _ rfl).2.1,(g.vars 1 _ rfl).2.1,(g.vars 1 _ rfl).2.2,(g.vars 2 _ rfl).2.2⟩) (fun hf1=>?_)
 obtain⟨f1,f2,f3,f4⟩:=hf1
 refine KW.cnd U U (fun k1=>?gin) (fun k1=>?gout)
 case gin=>
  have k1:(i:Int)<(L.length:Int):=k1
  have bm:=bok i ile
  refine KW.getL hs.up U U U U U U U U U U U U U U U U (by omega) (k1) (fun y ay cy hy hsy=>?_)
  have hy:L[i]?=some y:=hy
  have hym:=hL y (List.mem_of_getElem? hy)
  refine KW.callN1 U U U U U (cloneB (by omega) hsy) (fun v HC SC mC _ _ hv=>?_)
  rcases hv with⟨hy0,rfl⟩ | ⟨o3,rfl,hno3,hmo3⟩
  ·exfalso;rw[hy0] at hym;have:=hym.1;simp at this;omega
  have tC:=(inferInstance:On S1 A1 SC HC).st
  refine KW.mk1 U U U U U U U U U U U U (L.length) U U (by omega) (by show 8*_≤_;omega) ?_
  refine KW.ids (fun hlowC hvarC=>?_)
  have oC:S1 o3→False:=fun h=>by have:=hlow _ h;have:=hno3.1;omega
  have sC3:SC o3:=(inferInstance:On (New _ HC.n) HC SC HC).st o3 hno3 |>.1
  refine KW.freeze 3 rfl (fun A4 S4 hn4 hS4 st4 hm4 hlt4 hno4 hlow4=>?_)
  refine KW.build U U U U U (built_Prt _ _ _ _ _ _) ?_
  refine KW.idx0 U U U U U U U U U (by omega) (by omega) ?_
  refine KW.thaw HC.n ⟨2,true,List.replicate L.length (.int .i64 0)⟩ ((hS4 _).2 (.inr rfl)) hm4 ?_
  refine KW.st1 4 U U U U U U U U U U U U (by simp;omega) ?_
  refine KW.freeze 4 rfl (fun A5 S5 hn5 hS5 st5 hm5 hlt5 hno5 hlow5=>?_)
  have S45:∀id,S4 id→S5 id∧(id≠HC.n→A5.m id=A4.m id):=fun id h=>by
   by_cases e:id=HC.n
   ·exact⟨(hS5 id).2 (.inr e),fun h=>absurd e h⟩
   ·exact⟨(st5.st id ⟨h,e⟩).1,fun _=>(st5.st id ⟨h,e⟩).2⟩
  have SC5:∀id,SC id→S5 id∧A5.m id=HC.m id:=fun id h=>by
   have h1:=st4.st id h
   have h2:=S45 id h1.1
   have:id≠HC.n:=fun e=>hno4 (e ▸ h)
   exact⟨h2.1,(h2.2 this).trans h1.2⟩
  have S15:∀id,S1 id→S5 id∧A5.m id=A1.m id:=fun id h=>⟨(SC5 id (tC id h).1).1,(SC5 id (tC id h).1).2.trans (tC id h).2⟩
  have ok5:Has3 S5 A5 0 0 []∨True:=.inr trivial
  have hr1:KI.Ml (fun id=>id=o3) A5 (.slice (some ⟨o3,0,some 1⟩) y.length y.length) y:=row_ml ((SC5 o3 sC3).2.trans hmo3)
  have hun:(List.replicate L.length (Value.int .i64 0)).set (0+(i:Int).toNat*1) (.int .i64 1)=(unitR L.length i).map (Value.int .i64):=by
   rw[show 0+(i:Int).toNat*1=i by omega,unitR,List.map_set,List.map_replicate]
  have hm5':A5.m HC.n=some ⟨2,true,(unitR L.length i).map (Value.int .i64)⟩:=hm5.trans (congrArg (fun z=>some (⟨2,true,z⟩:Blk)) hun)
  have hul:(unitR L.length i).length=L.length:=by simp[unitR]
  have hr2:KI.Ml (fun id=>id=HC.n) A5 (.slice (some ⟨HC.n,0,some 1⟩) (unitR L.length i).length L.length) (unitR L.length i):=by
   have:=row_ml (A:=A5) (o:=HC.n) (ty:=2) (xs:=unitR L.length i) hm5'
   rw[hul] at this ⊢
   exact this
  have hx:=row_ok hp31.1 hL (by omega:i<L.length)
  rw[show L.getD i []=y by rw[List.getD_eq_getElem?_getD,hy];rfl] at hx
  have no3:n≤o3:=hno3.1
  have no4:n≤HC.n:=mC
  refine KW.callWV (W:=fun id=>id=o3∨id=HC.n) (post:=fun _ v H1=>v=.agg #[.slice (some ⟨o3,0,some 1⟩) y.length y.length,.slice (some ⟨HC.n,0,some 1⟩) L.length L.length]∧KI.Ml (fun id=>id=o3) H1 (.slice (some ⟨o3,0,some 1⟩) y.length y.length) (less p (basN p L i) (y,unitR L.length i)).1∧KI.Ml (fun id=>id=HC.n) H1 (.slice (some ⟨HC.n,0,some 1⟩) L.length L.length) (less p (basN p L i) (y,unitR L.length i)).2) (fun id h=>by rcases h with h | h;rw[h];exact(SC5 o3 sC3).1;rw[h];exact(hS5 _).2 (.inr rfl)) U U U U U (fun H6 g st6=>?gc) (fun v A6 S6 m6 t6 w6 hv6=>?_)
  case gc=>
   have hM:=g.has (j:=0) U U
   have hb:=g.has (j:=2) U U
   have hlit:=g.blk (j:=1) rfl
   have z6:∀id,S5 id→id<H6.n∧H6.m id=A5.m id:=fun id h=>by have h1:=g.froz id h;have:=g.n_;exact⟨by omega,h1.2⟩
   have clX:K_Prt.Sl (fun id=>id=o∨V id) H6 (.slice (some ⟨o,0,some 2⟩) (basN p L i).length (basN p L i).length) (basN p L i):=
    (cl.mv (X':=fun id=>V id) (A':=H6) (fun id h=>((z6 id (S15 id (hV id h)).1).2).trans (S15 id (hV id h)).2) (fun _ h=>h)).sl (.inl rfl) hlit.1 rfl (fun id h=>.inr h) (Nat.le_refl _)
   have key:=lessC (S:=Low H6.n) (H0:=H6) (a1:=some ⟨o3,0,some 1⟩) (c1:=y.length) (a2:=some ⟨HC.n,0,some 1⟩) (c2:=L.length) (x:=(y,unitR L.length i)) (W1:=fun id=>id=o3) (W2:=fun id=>id=HC.n) (X:=fun id=>id=o∨V id) hp hk hLl (fun b hb=>(bm b hb).1) hx (by have:=basN_len (p:=p) (L:=L) i;omega) hM (by omega) hb (by omega) clX (fun id h=>⟨by
    rcases h with h | h
    ·rw[h];exact hlit.2
    ·exact(z6 id (S15 id (hV id h)).1).1,fun hh=>by
    rcases h with h | h
    ·omega
    ·have:=hlow id (hV id h);omega⟩) (fun id h=>by
     rcases h with h | h
     ·rw[h];exact(z6 o3 (SC5 o3 sC3).1).1
     ·rw[h];exact(z6 _ ((hS5 _).2 (.inr rfl))).1) (fun id h h'=>by have e1:id=o3:=h;have e2:id=HC.n:=h';have:=hno3.2;omega) (Kn.Ml.same (fun id h=>by rw[h];exact(z6 o3 (SC5 o3 sC3).1).2) hr1) (Kn.Ml.same (fun id h=>by rw[h];exact(z6 _ ((hS5 _).2 (.inr rfl))).2) hr2)
   simp only[hul] at key
   exact key
  obtain⟨rfl,w1,w2⟩:=hv6
  obtain⟨z,ez⟩:∃z,less p (basN p L i) (y,unitR L.length i)=z:=⟨_,rfl⟩
  have hz:PrOk p k L.length z:=by rw[← ez];exact less_ok hp0 _ _ (fun b hb=>(bm b hb).1.1) hx
  have eB:basN p L (i+1)=if fz z.1<z.1.length then basN p L i++[nrm p z] else basN p L i:=by
   show insR p (basN p L i) (L.getD i [],unitR L.length i)=_
   rw[show L.getD i []=y by rw[List.getD_eq_getElem?_getD,hy];rfl]
   unfold insR
   rw[ez]
  rw[ez] at w1 w2
  have l1:y.length=z.1.length:=hym.1.trans hz.1.1.symm
  have l2:L.length=z.2.length:=hz.2.1.symm
  have s3:S6 o3:=(t6 o3 (SC5 o3 sC3).1).1
  have s4:S6 HC.n:=(t6 HC.n ((hS5 _).2 (.inr rfl))).1
  have S56:∀id,S5 id→id≠o3→id≠HC.n→A6.m id=A5.m id:=fun id h e1 e2=>(t6 id h).2 (fun hh=>hh.elim e1 e2)
  have S16:∀id,S1 id→S6 id∧A6.m id=A1.m id:=fun id h=>by
   have h1:=hlow id h
   have h2:=S15 id h
   exact⟨(t6 id h2.1).1,(S56 id h2.1 (by omega) (by omega)).trans h2.2⟩
  have old6:∀id,id<H.n→S6 id∧A6.m id=H.m id:=fun id h=>⟨(S16 id (old id h).1).1,(S16 id (old id h).1).2.trans (old id h).2⟩
  have sl1':KI.Sl S6 A6 (.slice (some ⟨o3,0,some 1⟩) y.length y.length) z.1:=w1.sl.more (fun id h=>by rw[h];exact s3)
  have hz1l:=hz.1.1
  have hz2l:=hz.2.1
  by_cases hfz:fz z.1<z.1.length
  ·rw[if_pos hfz] at eB
   have key:=first (S:=S6) (H0:=A6) (xs:=z.1) (a:=some ⟨o3,0,some 1⟩) (c:=y.length) (by omega) (by rw[← l1];exact sl1')
   rw[if_pos hfz,← l1] at key
   refine KW.callE U U U U U (key) (fun _ _=>?_)
   refine KW.yes U U (by omega) ?_
   refine KW.getI sl1' U U U U U U U U U U U U U U U U (by omega) (by omega) (fun z0 hz0=>?_)
   have hz0:z.1[fz z.1]?=some z0:=hz0
   have hz0D:z.1.getD (fz z.1) 0=z0:=by rw[List.getD_eq_getElem?_getD,hz0];rfl
   have hin:=el_ok hp0 hz.1 (fz z.1)
   rw[hz0D] at hin
   refine KW.callE U U U U U (inverse p z0 hp31 hin) (fun _ _=>?_)
   have hpw:=pw_ok hp31.1 (p:=p) (a:=z0) (p-2).toNat
   have k2:=scaled (S:=S6) (H0:=A6) (W:=fun id=>id=o3) (p:=p) (b:=pw p z0 (p-2).toNat) hp31 hpw (a:=some ⟨o3,0,some 1⟩) (c:=y.length) (xs:=z.1) (by omega) hz.1.2 (fun id h=>by rw[h];exact s3) (by rw[← l1];exact w1)
   rw[← l1] at k2
   refine KW.callW (W:=fun id=>id=o3) (fun id h=>by rw[h];exact s3) U U U U U k2 (fun v A7 S7 m7 t7 w7 hv7=>?_)
   have w27:KI.Ml (fun id=>id=HC.n) A7 (.slice (some ⟨HC.n,0,some 1⟩) L.length L.length) z.2:=Kn.Ml.same (fun id h=>by rw[h];exact(t7 _ s4).2 (fun hh=>by have e1:HC.n=o3:=hh;have:=hno3.2;omega)) w2
   have s47:S7 HC.n:=(t7 _ s4).1
   have k3:=scaled (S:=S7) (H0:=A7) (W:=fun id=>id=HC.n) (p:=p) (b:=pw p z0 (p-2).toNat) hp31 hpw (a:=some ⟨HC.n,0,some 1⟩) (c:=L.length) (xs:=z.2) (by omega) hz.2.2 (fun id h=>by rw[h];exact s47) (by rw[← l2];exact w27)
   rw[← l2] at k3
   refine KW.callW (W:=fun id=>id=HC.n) (fun id h=>by rw[h];exact s47) U U U U U k3 (fun v8 A8 S8 m8 t8 w8 hv8=>?_)
   have S18:∀id,S1 id→S8 id∧A8.m id=A1.m id:=fun id h=>by
    have h1:=hlow id h
    have h2:=S16 id h
    have h3:=t7 id h2.1
    have h4:=t8 id h3.1
    exact⟨h4.1,(h4.2 (fun hh=>by have e1:id=HC.n:=hh;omega)).trans ((h3.2 (fun hh=>by have e1:id=o3:=hh;omega)).trans h2.2)⟩
   have hv78:KI.Ml (fun id=>id=o3) A8 (.slice (some ⟨o3,0,some 1⟩) y.length y.length) (nrm p z).1:=by
    have e:(nrm p z).1=sc p (pw p z0 (p-2).toNat) z.1:=by rw[← hz0D];rfl
    rw[e]
    exact Kn.Ml.same (fun id h=>by rw[h];exact(t8 _ (t7 _ s3).1).2 (fun hh=>by have e1:o3=HC.n:=hh;have:=hno3.2;omega)) hv7
   have hv88:KI.Ml (fun id=>id=HC.n) A8 (.slice (some ⟨HC.n,0,some 1⟩) L.length L.length) (nrm p z).2:=by
    have e:(nrm p z).2=sc p (pw p z0 (p-2).toNat) z.2:=by rw[← hz0D];rfl
    rw[e]
    exact hv8
   have hRn:K_Prt.R (fun id=>id=o3∨id=HC.n) A8 (nrm p z) [.slice (some ⟨o3,0,some 1⟩) y.length y.length,.slice (some ⟨HC.n,0,some 1⟩) L.length L.length]:=
    ⟨[.slice (some ⟨o3,0,some 1⟩) y.length y.length],_,rfl,⟨_,rfl,hv78.sl.more (fun id h=>.inl h)⟩,⟨_,rfl,hv88.sl.more (fun id h=>.inr h)⟩⟩
   refine KW.litS1 U U U U U U U U U U U U ?_
   have hbl:=basN_len (p:=p) (L:=L) i
   refine KW.appTS (m:=1) (ys:=[.slice (some ⟨o3,0,some 1⟩) y.length y.length,.slice (some ⟨HC.n,0,some 1⟩) L.length L.length]) 1 U U U U U U U U (by decide) rfl (fun H1 g=>acells_seg (g.blk (j:=4) rfl).1 (by show 0+1*2≤2;decide)) (by show 0+(basN p L i).length*2≤cs.length;omega) rfl (by decide) (by show((basN p L i).length+1)*48≤_;omega) (by show(basN p L i).length+1≤_;omega) ?_
   have cl8:Cl K_Prt (fun id=>V id∨(id=o3∨id=HC.n)) A8 (basN p L i) cs:=cl.mv (fun id h=>(S18 id (hV id h)).2) (fun id h=>.inl h)
   have cl9:=cl8.snoc (y:=nrm p z) (K_Prt.more (fun id h=>.inr h) hRn)
   have inv9:∀o9,CbI p L H ⟨i+1,S8,A8,fun id=>V id∨(id=o3∨id=HC.n),o9,(cs.drop 0).take ((basN p L i).length*2)++[.slice (some ⟨o3,0,some 1⟩) y.length y.length,.slice (some ⟨HC.n,0,some 1⟩) L.length L.length]⟩:=fun o9=>by
    refine⟨by simp only;omega,fun id h=>⟨(S18 id (old id h).1).1,(S18 id (old id h).1).2.trans (old id h).2⟩,fun id h=>?_,?_,?_⟩
    ·rcases h with h | h | h
     ·exact(S18 id (hV id h)).1
     ·rw[h];exact(t8 _ (t7 _ s3).1).1
     ·rw[h];exact(t8 _ s47).1
    ·simp only[eB,List.length_append,List.length_take,List.length_drop,List.length_cons,List.length_nil];omega
    ·simp only[eB];exact cl9
   refine KW.nxt U U (fun H' g=>⟨⟨i+1,S8,A8,fun id=>V id∨(id=o3∨id=HC.n),_,(cs.drop 0).take ((basN p L i).length*2)++[.slice (some ⟨o3,0,some 1⟩) y.length y.length,.slice (some ⟨HC.n,0,some 1⟩) L.length L.length]⟩,inv9 _,by first | omega | (simp only;omega),⟨rfl,rfl,rfl,rfl,rfl,rfl,rfl,rfl,congrArg (Value.int .i64) (inc64 (by omega)),trivial⟩,(g.take 3).eqT (by simp only[eB,List.length_append,List.length_singleton];rfl)⟩)
  ·rw[if_neg hfz] at eB
   have key:=first (S:=S6) (H0:=A6) (xs:=z.1) (a:=some ⟨o3,0,some 1⟩) (c:=y.length) (by omega) (by rw[← l1];exact sl1')
   rw[if_neg hfz,← l1] at key
   refine KW.callE U U U U U (key) (fun _ _=>?_)
   refine KW.no U U (by omega) ?_
   refine KW.nxt U U (fun H' g=>⟨⟨i+1,S6,A6,V,o,cs⟩,⟨by simp only;omega,old6,fun id h=>(S16 id (hV id h)).1,by simp only[eB];exact hcl,by simp only[eB];exact cl.mv (fun id h=>(S16 id (hV id h)).2) (fun id h=>h)⟩,by first | omega | (simp only;omega),⟨rfl,rfl,rfl,rfl,rfl,rfl,rfl,rfl,congrArg (Value.int .i64) (inc64 (by omega)),trivial⟩,(g.take 3).eqT (by simp only[eB];rfl)⟩)
 case gout=>
  have k1:¬(i:Int)<(L.length:Int):=k1
  obtain rfl:i=L.length:=by omega
  have bm:=bok L.length (Nat.le_refl _)
  refine KW.callN1 U U U U U (cloneB (by omega) hts.up) (fun v HC SC mC _ _ hv=>?_)
  rcases hv with⟨hy0,rfl⟩ | ⟨o3,rfl,hno3,hmo3⟩
  ·exfalso;rw[hy0] at ht;have:=ht.1;simp at this;omega
  have tC:=(inferInstance:On S1 A1 SC HC).st
  refine KW.mk1 U U U U U U U U U U U U (L.length) U U (by omega) (by show 8*_≤_;omega) ?_
  refine KW.ids (fun hlowC hvarC=>?_)
  have sC3:SC o3:=(inferInstance:On (New _ HC.n) HC SC HC).st o3 hno3 |>.1
  refine KW.freeze 3 rfl (fun A5 S5 hn5 hS5 st5 hm5 hlt5 hno5 hlow5=>?_)
  refine KW.build U U U U U (built_Prt _ _ _ _ _ _) ?_
  have SC5:∀id,SC id→S5 id∧A5.m id=HC.m id:=fun id h=>st5.st id h
  have S15:∀id,S1 id→S5 id∧A5.m id=A1.m id:=fun id h=>⟨(SC5 id (tC id h).1).1,(SC5 id (tC id h).1).2.trans (tC id h).2⟩
  have hr1:KI.Ml (fun id=>id=o3) A5 (.slice (some ⟨o3,0,some 1⟩) t.length t.length) t:=row_ml ((SC5 o3 sC3).2.trans hmo3)
  have hm5':A5.m HC.n=some ⟨2,true,(List.replicate L.length (0:Int)).map (Value.int .i64)⟩:=hm5.trans (by rw[List.map_replicate])
  have hul:(List.replicate L.length (0:Int)).length=L.length:=by simp
  have hr2:KI.Ml (fun id=>id=HC.n) A5 (.slice (some ⟨HC.n,0,some 1⟩) (List.replicate L.length (0:Int)).length L.length) (List.replicate L.length 0):=by
   have:=row_ml (A:=A5) (o:=HC.n) (ty:=2) (xs:=List.replicate L.length 0) hm5'
   rw[hul] at this ⊢
   exact this
  have hx:PrOk p k L.length (t,List.replicate L.length 0):=⟨ht,zero_ok hp0⟩
  have no3:n≤o3:=hno3.1
  have no4:n≤HC.n:=mC
  refine KW.callWV (W:=fun id=>id=o3∨id=HC.n) (post:=fun _ v H1=>v=.agg #[.slice (some ⟨o3,0,some 1⟩) t.length t.length,.slice (some ⟨HC.n,0,some 1⟩) L.length L.length]∧KI.Ml (fun id=>id=o3) H1 (.slice (some ⟨o3,0,some 1⟩) t.length t.length) (leftC p L t).1∧KI.Ml (fun id=>id=HC.n) H1 (.slice (some ⟨HC.n,0,some 1⟩) L.length L.length) (leftC p L t).2) (fun id h=>by rcases h with h | h;rw[h];exact(SC5 o3 sC3).1;rw[h];exact(hS5 _).2 (.inr rfl)) U U U U U (fun H6 g st6=>?gc) (fun v A6 S6 m6 t6 w6 hv6=>?_)
  case gc=>
   have hM:=g.has (j:=0) U U
   have hb:=g.has (j:=2) U U
   have hlit:=g.blk (j:=1) rfl
   have z6:∀id,S5 id→id<H6.n∧H6.m id=A5.m id:=fun id h=>by have h1:=g.froz id h;have:=g.n_;exact⟨by omega,h1.2⟩
   have clX:K_Prt.Sl (fun id=>id=o∨V id) H6 (.slice (some ⟨o,0,some 2⟩) (basN p L L.length).length (basN p L L.length).length) (basN p L L.length):=
    (cl.mv (X':=fun id=>V id) (A':=H6) (fun id h=>((z6 id (S15 id (hV id h)).1).2).trans (S15 id (hV id h)).2) (fun _ h=>h)).sl (.inl rfl) hlit.1 rfl (fun id h=>.inr h) (Nat.le_refl _)
   have key:=lessC (S:=Low H6.n) (H0:=H6) (a1:=some ⟨o3,0,some 1⟩) (c1:=t.length) (a2:=some ⟨HC.n,0,some 1⟩) (c2:=L.length) (x:=(t,List.replicate L.length 0)) (W1:=fun id=>id=o3) (W2:=fun id=>id=HC.n) (X:=fun id=>id=o∨V id) hp hk hLl (fun b hb=>(bm b hb).1) hx (by have:=basN_len (p:=p) (L:=L) L.length;omega) hM (by omega) hb (by omega) clX (fun id h=>⟨by
    rcases h with h | h
    ·rw[h];exact hlit.2
    ·exact(z6 id (S15 id (hV id h)).1).1,fun hh=>by
    rcases h with h | h
    ·omega
    ·have:=hlow id (hV id h);omega⟩) (fun id h=>by
     rcases h with h | h
     ·rw[h];exact(z6 o3 (SC5 o3 sC3).1).1
     ·rw[h];exact(z6 _ ((hS5 _).2 (.inr rfl))).1) (fun id h h'=>by have e1:id=o3:=h;have e2:id=HC.n:=h';have:=hno3.2;omega) (Kn.Ml.same (fun id h=>by rw[h];exact(z6 o3 (SC5 o3 sC3).1).2) hr1) (Kn.Ml.same (fun id h=>by rw[h];exact(z6 _ ((hS5 _).2 (.inr rfl))).2) hr2)
   simp only[hul] at key
   exact key
  obtain⟨rfl,w1,w2⟩:=hv6
  have hz:=leftC_ok hf hL ht
  have eC:comb p L t=if fz (leftC p L t).1<(leftC p L t).1.length then none else some (sc p (p-1) (leftC p L t).2):=rfl
  obtain⟨z,ez⟩:∃z,leftC p L t=z:=⟨_,rfl⟩
  rw[ez] at w1 w2 hz eC
  have l1:t.length=z.1.length:=ht.1.trans hz.1.1.symm
  have l2:L.length=z.2.length:=hz.2.1.symm
  have s3:S6 o3:=(t6 o3 (SC5 o3 sC3).1).1
  have s4:S6 HC.n:=(t6 HC.n ((hS5 _).2 (.inr rfl))).1
  have S56:∀id,S5 id→id≠o3→id≠HC.n→A6.m id=A5.m id:=fun id h e1 e2=>(t6 id h).2 (fun hh=>hh.elim e1 e2)
  have S16:∀id,S1 id→S6 id∧A6.m id=A1.m id:=fun id h=>by
   have h1:=hlow id h
   have h2:=S15 id h
   exact⟨(t6 id h2.1).1,(S56 id h2.1 (by omega) (by omega)).trans h2.2⟩
  have old6:∀id,id<H.n→S6 id∧A6.m id=H.m id:=fun id h=>⟨(S16 id (old id h).1).1,(S16 id (old id h).1).2.trans (old id h).2⟩
  haveI o6:On (Low H.n) H S6 A6:=⟨old6⟩
  have sl1':KI.Sl S6 A6 (.slice (some ⟨o3,0,some 1⟩) t.length t.length) z.1:=w1.sl.more (fun id h=>by rw[h];exact s3)
  have hz1l:=hz.1.1
  have hz2l:=hz.2.1
  by_cases hfz:fz z.1<z.1.length
  ·rw[if_pos hfz] at eC
   have key:=first (S:=S6) (H0:=A6) (xs:=z.1) (a:=some ⟨o3,0,some 1⟩) (c:=t.length) (by omega) (by rw[← l1];exact sl1')
   rw[if_pos hfz,← l1] at key
   refine KW.callE U U U U U (key) (fun _ _=>?_)
   refine KW.yes U U (by omega) ?_
   refine KW.retM1 U U U U (fun H1 g=>by rw[eC];rfl)
  ·rw[if_neg hfz] at eC
   have key:=first (S:=S6) (H0:=A6) (xs:=z.1) (a:=some ⟨o3,0,some 1⟩) (c:=t.length) (by omega) (by rw[← l1];exact sl1')
   rw[if_neg hfz,← l1] at key
   refine KW.callE U U U U U (key) (fun _ _=>?_)
   refine KW.no U U (by omega) ?_
   have k3:=scaled (S:=S6) (H0:=A6) (W:=fun id=>id=HC.n) (p:=p) (b:=IntKind.i64.wrap (p-1)) hp31 (by rw[wrM hp31];omega) (a:=some ⟨HC.n,0,some 1⟩) (c:=L.length) (xs:=z.2) (by omega) hz.2.2 (fun id h=>by rw[h];exact s4) (by rw[← l2];exact w2)
   rw[← l2] at k3
   refine KW.callW (W:=fun id=>id=HC.n) (fun id h=>by rw[h];exact s4) U U U U U k3 (fun v8 A8 S8 m8 t8 w8 hv8=>?_)
   have old8:∀id,id<H.n→S8 id∧A8.m id=H.m id:=fun id h=>⟨(t8 id (old6 id h).1).1,((t8 id (old6 id h).1).2 (fun hh=>by have e1:id=HC.n:=hh;omega)).trans (old6 id h).2⟩
   haveI o8:On (Low H.n) H S8 A8:=⟨old8⟩
   have s48:S8 HC.n:=(t8 _ s4).1
   rw[wrM hp31] at hv8
   have el:(sc p (p-1) z.2).length=L.length:=by simp[sc,hz2l]
   refine KW.retM1 U U U U (fun H1 g=>?_)
   ·rw[eC]
    refine⟨some ⟨HC.n,0,some 1⟩,L.length,by rw[el];rfl,?_⟩
    rw[el]
    have h1:KI.Sl (fun id=>id=HC.n) H1 (.slice (some ⟨HC.n,0,some 1⟩) L.length L.length) (sc p (p-1) z.2):=(Kn.Ml.same (fun id h=>by rw[h];exact(g.froz _ s48).2) hv8).sl
    exact h1.more (fun id h=>by
     have:=(g.froz _ s48).1
     have:=g.n_
     rw[h]
     exact⟨by omega,by omega⟩)
end
end Go.Proofs.Ytlapbbffoapleaa.Am
namespace Go.Proofs.Ytlapbbffoapleaa.Pl
theorem dF_put {w:List Int}:∀(t:List Int) (c q:Nat) (y:Int),q<t.length→dF w c (t.set q y)=dF w c t+w.getD (c+q) 0*(y-t.getD q 0)
 | [],c,q,y,h=>by simp at h
 | a :: t,c,0,y,h=>by
  show w.getD c 0*y+dF w (c+1) t=w.getD c 0*a+dF w (c+1) t+w.getD (c+0) 0*(y-a)
  simp only[Nat.add_zero,Int.mul_sub]
  omega
 | a :: t,c,q+1,y,h=>by
  have ih:=dF_put (w:=w) t (c+1) q y (by simpa using h)
  show w.getD c 0*a+dF w (c+1) (t.set q y)=w.getD c 0*a+dF w (c+1) t+w.getD (c+(q+1)) 0*(y-t.getD q 0)
  rw[ih,show c+1+q=c+(q+1) by omega]
  omega
theorem dF_noughts {w:List Int}:∀(k c:Nat),dF w c (List.replicate k 0)=0
 | 0,_=>rfl
 | k+1,c=>by
  show w.getD c 0*0+dF w (c+1) (List.replicate k 0)=0
  rw[dF_noughts k (c+1)]
  omega
def setF (E:List (List Int)) (P:List Nat) (k:Nat):Nat→List Int
 | 0=>List.replicate k 0
 | n+1=>(setF E P k n).set (P.getD n 0) ((E.getD n []).getD k 0)
theorem setF_len {E:List (List Int)} {P:List Nat} {k:Nat}:∀n,(setF E P k n).length=k
 | 0=>by simp[setF]
 | n+1=>by simp[setF,setF_len n]
theorem setF_in {p:Int} {K k:Nat} {E:List (List Int)} {P:List Nat} (hp:0<p) (hE:Rect p K E):∀n,∀a∈setF E P k n,0≤a∧a<p
 | 0=>fun a ha=>by rw[List.eq_of_mem_replicate ha];exact⟨Int.le_refl 0,hp⟩
 | n+1=>fun a ha=>by
  rcases List.mem_or_eq_of_mem_set ha with h | h
  ·exact setF_in hp hE n a h
  ·rw[h]
   rcases Nat.lt_or_ge n E.length with hn | hn
   ·exact hE.el hp (i:=n) (by rw[List.getD_eq_getElem?_getD,List.getElem?_eq_getElem hn];rfl) k
   ·have e:E.getD n []=[]:=by rw[List.getD_eq_getElem?_getD,List.getElem?_eq_none hn];rfl
    rw[e];exact⟨Int.le_refl 0,hp⟩
theorem getD_opt {L:List (List Int)} {i:Nat} (h:i<L.length):L[i]?=some (L.getD i []):=by
 rw[List.getD_eq_getElem?_getD,List.getElem?_eq_getElem h];rfl
theorem Ech.diff {p:Int} {K c:Nat} {E:List (List Int)} {P:List Nat} (h:Ech p K c E P) {i j q:Nat} (hi:P[i]?=some q) (hj:P[j]?=some q):i=j:=by
 rcases Nat.decEq i j with e | e
 ·have hl:=(List.getElem?_eq_some_iff.1 hj).1
  have hE:=getD_opt (L:=E) (i:=j) (by have:=h.le;omega)
  have h1:=(h.piv j q _ hj hE).2.1
  have h0:=h.red i q j _ hi (fun q=>e q.symm) hE
  omega
 ·exact e
theorem setF_at {p:Int} {K c k:Nat} {E:List (List Int)} {P:List Nat} (h:Ech p K c E P) {q m:Nat} (hm:P[m]?=some q):∀n,n≤m→(setF E P k n).getD q 0=0
 | 0,_=>by
  simp only[setF,List.getD_eq_getElem?_getD,List.getElem?_replicate]
  split<;>rfl
 | n+1,hn=>by
  have ih:=setF_at (k:=k) h hm n (by omega)
  have hml:=(List.getElem?_eq_some_iff.1 hm).1
  have hnP:P[n]?=some (P.getD n 0):=by rw[List.getD_eq_getElem?_getD,List.getElem?_eq_getElem (by omega)];rfl
  have hne:P.getD n 0≠q:=fun e=>by
   rw[e] at hnP
   have:=h.diff hnP hm
   omega
  simp only[setF,List.getD_eq_getElem?_getD] at ih ⊢
  rw[List.getElem?_set_ne (by simpa [List.getD_eq_getElem?_getD] using hne)]
  exact ih
theorem setF_dF {p:Int} {k:Nat} {E:List (List Int)} {P:List Nat} (h:Ech p (k+1) k E P) {i:Nat} {r:List Int} (hr:E[i]?=some r) (hi:i<P.length):∀n,n≤P.length→dF r 0 (setF E P k n)=if i<n then r.getD k 0 else 0
 | 0,_=>by simp[setF,dF_noughts]
 | n+1,hn=>by
  have ih:=setF_dF h hr hi n (by omega)
  have hnP:P[n]?=some (P.getD n 0):=by rw[List.getD_eq_getElem?_getD,List.getElem?_eq_getElem (by omega)];rfl
  have hnE:=getD_opt (L:=E) (i:=n) (by have:=h.le;omega)
  have hq:=(h.piv n _ _ hnP hnE).1
  simp only[setF]
  rw[dF_put _ _ _ _ (by rw[setF_len];exact hq),ih,setF_at h hnP n (Nat.le_refl n),Nat.zero_add]
  rcases Nat.lt_trichotomy i n with e | e | e
  ·rw[h.red n _ i r hnP (by omega) hr,if_pos e,if_pos (by omega)]
   simp
  ·subst e
   rw[(h.piv i _ r hnP hr).2.1,if_neg (by omega),if_pos (by omega)]
   rw[hnE] at hr
   cases hr
   simp
  ·rw[h.red n _ i r hnP (by omega) hr,if_neg (by omega),if_neg (by omega)]
   simp
theorem setF_sol {p:Int} {k:Nat} {W:List (List Int)} (hf:Fer p) (hW:Rect p (k+1) W) (hs:k∉(ech p W (k+1)).2):AllS p k W (setF (ech p W (k+1)).1 (ech p W (k+1)).2 k (ech p W (k+1)).2.length):=by
 have hS:=(solv_iff hf hW).2 hs
 have sh:=ech_shape hf hW k
 have e:ech p W (k+1)=ech p W k:=by
  simp only[ech] at hs ⊢
  split
  ·rfl
  ·rename_i L' hr
   rw[hr] at hs
   exact absurd (by simp) hs
 rw[e,← ech_sat hf hW k]
 intro i r hr
 rcases Nat.lt_or_ge i (ech p W k).2.length with hi | hi
 ·have:=setF_dF sh hr hi _ (Nat.le_refl _)
  rw[if_pos hi] at this
  exact⟨0,by rw[this];simp⟩
 ·refine⟨0,?_⟩
  rw[hS i r hi hr,dF_zero _ 0 (fun j _ hj=>sh.zero i r hi hr j (by rw[setF_len] at hj;omega))]
  simp
theorem sol_none {p:Int} {k:Nat} {W:List (List Int)} {x:List Int} (hf:Fer p) (hW:Rect p (k+1) W) (hx:x.length=k) (h:AllS p k W x):k∉(ech p W (k+1)).2:=by
 refine(solv_iff hf hW).1 fun i r hi hr=>?_
 have hp:=hf.1
 have sh:=ech_shape hf hW k
 have h1:=sat_iff.1 ((ech_sat hf hW k).2 h i r hr)
 rw[dF_zero x 0 (fun j _ hj=>sh.zero i r hi hr j (by omega))] at h1
 have h2:=sh.rect.el (by omega) hr k
 have h3:r.getD k 0%p=0:=by
  have:=Int.dvd_of_emod_eq_zero h1
  exact Int.emod_eq_zero_of_dvd (by have h4:=Int.dvd_neg.2 this;rwa [show -(0-r.getD k 0)=r.getD k 0 by omega] at h4)
 rwa [small_mod h2] at h3
end Go.Proofs.Ytlapbbffoapleaa.Pl
namespace Go.Proofs.Ytlapbbffoapleaa.Am
open Go Go.RowKit Go.Proofs Go.Proofs.Ytlapbbffoapleaa.Pl
theorem built_MatrixW (p:Int) {x c:Int} (h:x=c):Try.prog.built 26 [(0,.int .i64 p),(1,.int .i64 x)]=some #[.int .i64 p,.int .i64 c,.slice none 0 0]:=by subst h;exact built_Matrix2 _ _
def SoX (p:Int) (k:Nat) (W:List (List Int)) (n:Nat) (v:Value) (H1:AH):Prop:=∃(a:Option Addr) (m c:Nat),v=.tuple #[.slice a m c,.bool (decide (k∉(ech p W (k+1)).2))]∧(k∉(ech p W (k+1)).2→m=k∧KI.Sl (New n H1.n) H1 (.slice a m c) (setF (ech p W (k+1)).1 (ech p W (k+1)).2 k (ech p W (k+1)).2.length))
section
variable {S:Ids} {H0:AH}
theorem solveX {p:Int} {k:Nat} (hp:PrimeP p) (hk:k≤100) {L:List (List Int)} {vals:List Int} (hLl:L.length≤100) (hL:Rect p k L) (hvl:vals.length=L.length) (hv:∀v∈vals,0≤v∧v<p) {a1 c1 a2 c2} (hs0:KI.sl.Sl S H0 (.slice a1 L.length c1) L) (hv0:KI.Sl S H0 (.slice a2 vals.length c2) vals):
    SpecM Try.prog S H0 85 [.agg #[.int .i64 p,.int .i64 k,.slice a1 L.length c1],.slice a2 vals.length c2] (SoX p k (augW L vals)):=by
  refine SpecM.of1L [5] Try.func85 rfl (by kernel_rfl) (by kernel_rfl) rfl (fun H _=>?_)
  have hs:=hs0.up (S':=Low H.n) (H':=H)
  have hvs:=hv0.up (S':=Low H.n) (H':=H)
  have hWl:=augW_len (L:=L) (vals:=vals) hvl
  have hWR:=augW_rect hL hv
  have hf:=fer hp
  have ek:IntKind.i64.wrap ((k:Int)+1)=((k+1:Nat):Int):=by rw[wr (by omega) (by omega)];omega
  refine KW.build U U U U U (built_MatrixW _ ek) ?_
  refine KW.lpM U U (fun s:CpS=>[(1,.slice a2 vals.length c2),(2,.pointer (some ⟨H.n,0,some 0⟩)),(6,.pointer (some ⟨H.n+1,0,some 1⟩)),(21,.slice a1 L.length c1),(22,.int .i64 L.length),(23,.int .i64 s.i)]) (fun s=>s.S) (fun s=>s.A) (fun s=>[(H.n,⟨26,true,[.int .i64 p,.int .i64 k,.slice a1 L.length c1]⟩),(H.n+1,⟨26,true,[.int .i64 p,.int .i64 (k+1:Nat),s.l]⟩)]++s.tail) (fun s=>CqI (fun x=>x) (augW L vals) H H (Low H.n) s) (fun s=>L.length-s.i) (⟨0,Low H.n,H,fun _=>False,[],.slice none 0 0,[]⟩) (⟨RwI.start,.inl ⟨rfl,rfl,rfl,rfl⟩⟩) ⟨rfl,rfl,rfl,rfl,rfl,rfl,trivial⟩ U U (rfl) (fun s hi bE n=>?_)
  obtain⟨i,S1,A1,V,cs,l,tail⟩:=s
  obtain⟨hq,hform⟩:=hi
  simp only at hq hform
  haveI:Stp (Low H.n) H S1 A1:=⟨hq.old⟩
  have hle:=hq.le
  have hcl:=hq.b.len
  rw[List.length_map,List.length_take] at hcl
  simp only at hle hcl
  have hs1:=hs.up (S':=S1) (H':=A1)
  have hvs1:=hvs.up (S':=S1) (H':=A1)
  rcases hform with⟨hi0,e1,e2,e3⟩ | ⟨hi0,o,e1,e2⟩
  case' inl=>subst e1 e2 e3
  case' inr=>subst e1 e2
  all_goals
    refine KW.cnd U U (fun j1=>?gin) (fun j1=>?gout)
    case gin=>
      have j1:(i:Int)<(L.length:Int):=j1
      refine KW.getL hs1 U U U U U U U U U U U U U U U U (by omega) (j1) (fun y ay cy hy hsy=>?_)
      have hy:L[i]?=some y:=hy
      have hym:=hL y (List.mem_of_getElem? hy)
      obtain⟨w,hw⟩:∃w,vals[i]?=some w:=⟨vals[i]'(by omega),List.getElem?_eq_getElem (by omega)⟩
      have hWi:=augW_at hy hw
      refine KW.ids (fun hlow hvar=>?_)
      refine KW.fact (fun _ g=>g.nle (H1:=H)) (fun hn0=>?_)
      refine KW.callN1 U U U U U (cloneB (by omega) hsy) (fun v HC SC mC _ _ hv=>?_)
      obtain hv:=hv
      have t1:=(inferInstance:Stp S1 A1 SC HC).st
      have hvs2:=hvs1.up (S':=SC) (H':=HC)
      rcases hv with⟨hy0,rfl⟩ | ⟨o3,rfl,hno3,hmo3⟩
      · refine KW.getI hvs2 U U U U U U U U U U U U U U U U (by omega) (by omega) (fun w2 hw2=>?_)
        have hw2:vals[i]?=some w2:=hw2
        rw[hw] at hw2
        cases hw2
        subst hy0
        have fin:∀(A':AH) (S':Ids) (o9:Nat),(∀id,S' id↔SC id∨id=o9)→St SC HC S' A'→¬SC o9→St S1 A1 S' A'∧(∀id,id=o9→S' id∧H.n≤id∧¬S1 id):=fun A' S' o9 h1 h2 h3=>by
          refine⟨t1.trans h2,fun id e=>?_⟩
          subst e
          refine⟨(h1 _).2 (.inr rfl),?_,fun h=>h3 (t1 _ h).1⟩
          rcases Nat.lt_or_ge id H.n with h | h
          · exact absurd (t1 id (hq.old id h).1).1 h3
          · exact h
        first
          | (refine KW.app0L (v:=.int .i64 w) 3 U U U U U U U U U U U U U U U U U U U U U U (by decide) ⟨.inl ⟨1,_,_,_,_,rfl,rfl,by simp⟩,trivial⟩ ?_
             refine KW.freeze 4 rfl (fun A' S' hnA hSA stA hmA hoA hnS hlow2=>?_)
             obtain⟨f1,f2⟩:=fin A' S' _ hSA stA.st hnS
             refine KW.take 3 ?_
             refine KW.app1 (xs:=cs) (v:=.slice (some ⟨_,0,some 1⟩) 1 1) 2 3 U U U U U U U U U U U U U U U U U U U U U U U (by omega) (by show(_+1)*24≤_;omega) (by omega) ?_
             exact KW.nxt U U (fun H' g=>⟨⟨i+1,S',A',_,_,_,_⟩,⟨hq.nextX (o':=0) f1 f2 hWi (row_ml (xs:=[w]) hmA),.inr ⟨by simp only;omega,_,rfl,rfl⟩⟩,by simp only;omega,⟨rfl,rfl,rfl,rfl,rfl,congrArg (Value.int .i64) (inc64 (by omega)),trivial⟩,g⟩))
          | (refine KW.app0L (v:=.int .i64 w) 2 U U U U U U U U U U U U U U U U U U U U U U (by decide) ⟨.inl ⟨1,_,_,_,_,rfl,rfl,by simp⟩,trivial⟩ ?_
             refine KW.freeze 3 rfl (fun A' S' hnA hSA stA hmA hoA hnS hlow2=>?_)
             obtain⟨f1,f2⟩:=fin A' S' _ hSA stA.st hnS
             refine KW.take 2 ?_
             refine KW.app0 (v:=.slice (some ⟨_,0,some 1⟩) 1 1) 2 U U U U U U U U U U U U U U U U U U U U U U (by decide) ?_
             subst hi0
             exact KW.nxt U U (fun H' g=>⟨⟨1,S',A',_,_,_,_⟩,⟨hq.nextX (o':=0) f1 f2 hWi (row_ml (xs:=[w]) hmA),.inr ⟨by simp only;omega,_,rfl,rfl⟩⟩,by simp only;omega,⟨rfl,rfl,rfl,rfl,rfl,rfl,trivial⟩,g⟩))
      · have hSo3:SC o3:=(inferInstance:On (New _ HC.n) HC SC HC).st o3 hno3 |>.1
        refine KW.thaw o3 _ hSo3 hmo3 ?_
        have t2:St S1 A1 (fun id=>SC id∧id≠o3) HC:=fun id h=>⟨⟨(t1 id h).1,fun e=>by have:=hlow id h;have:=hno3.1;omega⟩,(t1 id h).2⟩
        haveI:On S1 A1 (fun id=>SC id∧id≠o3) HC:=⟨t2⟩
        have hvs2:=hvs1.up (S':=fun id=>SC id∧id≠o3) (H':=HC)
        refine KW.getI hvs2 U U U U U U U U U U U U U U U U (by omega) (by omega) (fun w2 hw2=>?_)
        have hw2:vals[i]?=some w2:=hw2
        rw[hw] at hw2
        cases hw2
        have fin:∀(A':AH) (S':Ids) (o9:Nat),(∀id,S' id↔(SC id∧id≠o3)∨id=o9)→St (fun id=>SC id∧id≠o3) HC S' A'→¬(SC o9∧o9≠o3)→St S1 A1 S' A'∧(∀id,id=o9→S' id∧H.n≤id∧¬S1 id):=fun A' S' o9 h1 h2 h3=>by
          refine⟨t2.trans h2,fun id e=>?_⟩
          subst e
          refine⟨(h1 _).2 (.inr rfl),?_,fun h=>h3 (t2 _ h).1⟩
          rcases Nat.lt_or_ge id H.n with h | h
          · exact absurd (t2 id (hq.old id h).1).1 h3
          · exact h
        have hyw:(y++[w]).length=y.length+1:=by simp
        have hyc:y.map (Value.int .i64)++[.int .i64 w]=(y++[w]).map (Value.int .i64):=by simp
        first
          | (refine KW.app1L (xs:=y.map (Value.int .i64)) (v:=.int .i64 w) 3 4 U U U U U U U U U U U U U U U U U U U U U U U (by simp) (by show(_+1)*8≤_;omega) (by omega) ⟨.inl ⟨1,_,_,_,_,rfl,rfl,by decide⟩,trivial⟩ ?_
             refine KW.freeze 3 rfl (fun A' S' hnA hSA stA hmA hoA hnS hlow2=>?_)
             obtain⟨f1,f2⟩:=fin A' S' _ hSA stA.st hnS
             rw[hyc] at hmA
             rw[← hyw]
             refine KW.app1 (xs:=cs) (v:=.slice (some ⟨_,0,some 1⟩) (y++[w]).length (y++[w]).length) 2 3 U U U U U U U U U U U U U U U U U U U U U U U (by omega) (by show(_+1)*24≤_;omega) (by omega) ?_
             exact KW.nxt U U (fun H' g=>⟨⟨i+1,S',A',_,_,_,_⟩,⟨hq.nextX (o':=0) f1 f2 hWi (row_ml hmA),.inr ⟨by simp only;omega,_,rfl,rfl⟩⟩,by simp only;omega,⟨rfl,rfl,rfl,rfl,rfl,congrArg (Value.int .i64) (inc64 (by omega)),trivial⟩,g⟩))
          | (refine KW.app1L (xs:=y.map (Value.int .i64)) (v:=.int .i64 w) 2 3 U U U U U U U U U U U U U U U U U U U U U U U (by simp) (by show(_+1)*8≤_;omega) (by omega) ⟨.inl ⟨1,_,_,_,_,rfl,rfl,by decide⟩,trivial⟩ ?_
             refine KW.freeze 2 rfl (fun A' S' hnA hSA stA hmA hoA hnS hlow2=>?_)
             obtain⟨f1,f2⟩:=fin A' S' _ hSA stA.st hnS
             rw[hyc] at hmA
             rw[← hyw]
             refine KW.app0 (v:=.slice (some ⟨_,0,some 1⟩) (y++[w]).length (y++[w]).length) 2 U U U U U U U U U U U U U U U U U U U U U U (by decide) ?_
             subst hi0
             exact KW.nxt U U (fun H' g=>⟨⟨1,S',A',_,_,_,_⟩,⟨hq.nextX (o':=0) f1 f2 hWi (row_ml hmA),.inr ⟨by simp only;omega,_,rfl,rfl⟩⟩,by simp only;omega,⟨rfl,rfl,rfl,rfl,rfl,rfl,trivial⟩,g⟩))
    case gout=>
      have j1:¬(i:Int)<(L.length:Int):=j1
      have ei:i=(augW L vals).length:=by omega
      have hb:=hq.b
      simp only at hb
      rw[ei,List.take_of_length_le (Nat.le_refl _),List.map_id'] at hb
      have hBW:B_Int64SS (augW L vals):=rect_sml hWR (by omega) (by omega)
      have sh:=ech_shape hf hWR (k+1)
      have hll:=(ech_ok (p:=p) (by have:=hf.1;omega) hWR (k+1)).2.1
      generalize hW:augW L vals=W at *
      first
        | (subst ei
           refine KW.callNV1 U U U U U (fun H1 g _=>echelon (S:=Low H1.n) (H0:=H1) (k:=k+1) ⟨hp.1,hp.2.1⟩ (by omega) hBW hWR (hb.slV g (j:=2) rfl)) (fun v HE SE mE _ _ hv=>?_))
        | (have hW0:W=[]:=List.eq_nil_of_length_eq_zero (by omega)
           subst hW0
           refine KW.callNV1 U U U U U (fun H1 g _=>echelon (S:=Low H1.n) (H0:=H1) (k:=k+1) ⟨hp.1,hp.2.1⟩ (by omega) hBW hWR (.inl ⟨rfl,none,0,rfl,fun _=>rfl⟩)) (fun v HE SE mE _ _ hv=>?_))
      all_goals
        obtain⟨a3,c3,a4,c4,rfl,hE,hP⟩:=hv
        generalize he:ech p _ (k+1)=ee at *
        obtain⟨E,P⟩:=ee
        simp only at hE hP sh hll
        have hPE:=sh.le
        have hE20:E.length≤100:=by first | omega | (simp only[List.length_nil] at hll;omega)
        refine KW.mk1 U U U U U U U U U U U U (k) U U (by omega) (by show 8*_≤_;omega) ?_
        first
          | (refine KW.lpM U U (fun s:Nat × List Value=>[(2,.pointer (some ⟨H.n,0,some 0⟩)),(9,.pointer (some ⟨HE.n,0,some 3⟩)),(11,.slice (some ⟨HE.n+1,0,some 1⟩) k k),(50,.slice a4 P.length c4),(51,.int .i64 P.length),(52,.int .i64 s.1)]) (fun _=>SE) (fun _=>HE) (fun s=>[(H.n,⟨26,true,[.int .i64 p,.int .i64 k,.slice a1 L.length c1]⟩),(H.n+1,⟨26,true,[.int .i64 p,.int .i64 (k+1:Nat),.slice (some ⟨o,0,some 1⟩) W.length W.length]⟩),(o,⟨36,true,cs⟩),(HE.n,⟨26,true,[.int .i64 p,.int .i64 (k+1:Nat),.slice a3 P.length c3]⟩),(HE.n+1,⟨_,true,s.2⟩)]) (fun s=>s.2.length=k∧s.1≤P.length∧(∀j,j<s.1→∀q,P[j]?=some q→q≠k)∧s.2=(setF E P k s.1).map (Value.int .i64)) (fun s=>P.length-s.1) (0,List.replicate k (.int .i64 0)) ⟨by simp,by simp,fun j hj=>absurd hj (Nat.not_lt_zero _),by simp only[setF,List.map_replicate]⟩ ⟨rfl,rfl,rfl,rfl,rfl,rfl,trivial⟩ U U U (fun s hi bE n=>?_))
          | (refine KW.lpM U U (fun s:Nat × List Value=>[(2,.pointer (some ⟨H.n,0,some 0⟩)),(9,.pointer (some ⟨HE.n,0,some 2⟩)),(11,.slice (some ⟨HE.n+1,0,some 1⟩) k k),(50,.slice a4 P.length c4),(51,.int .i64 P.length),(52,.int .i64 s.1)]) (fun _=>SE) (fun _=>HE) (fun s=>[(H.n,⟨26,true,[.int .i64 p,.int .i64 k,.slice a1 L.length c1]⟩),(H.n+1,⟨26,true,[.int .i64 p,.int .i64 (k+1:Nat),.slice none 0 0]⟩),(HE.n,⟨26,true,[.int .i64 p,.int .i64 (k+1:Nat),.slice a3 P.length c3]⟩),(HE.n+1,⟨_,true,s.2⟩)]) (fun s=>s.2.length=k∧s.1≤P.length∧(∀j,j<s.1→∀q,P[j]?=some q→q≠k)∧s.2=(setF E P k s.1).map (Value.int .i64)) (fun s=>P.length-s.1) (0,List.replicate k (.int .i64 0)) ⟨by simp,by simp,fun j hj=>absurd hj (Nat.not_lt_zero _),by simp only[setF,List.map_replicate]⟩ ⟨rfl,rfl,rfl,rfl,rfl,rfl,trivial⟩ U U U (fun s hi bE n=>?_))
        obtain⟨j,cc⟩:=s
        obtain⟨hcc,hjP,hjn,hset⟩:=hi
        simp only at hcc hjP hjn hset
        refine KW.cnd U U (fun j2=>?gin2) (fun j2=>?gout2)
        case gin2=>
          have j2:(j:Int)<(P.length:Int):=j2
          obtain⟨q,hq2⟩:∃q,P[j]?=some q:=⟨P[j]'(by omega),List.getElem?_eq_getElem (by omega)⟩
          obtain⟨r,hr⟩:∃r,E[j]?=some r:=⟨E[j]'(by have:=sh.le;omega),List.getElem?_eq_getElem (by have:=sh.le;omega)⟩
          have hpv:=sh.piv j q r hq2 hr
          have hrl:=sh.rect r (List.mem_of_getElem? hr)
          have hmap:(P.map fun(i:Nat)=>(i:Int))[j]?=some (q:Int):=by rw[List.getElem?_map,hq2];rfl
          refine KW.getI hP.ups U U U U U U U U U U U U U U U U (by omega) (by simp;omega) (fun x hx=>?_)
          have hx:(P.map fun(i:Nat)=>(i:Int))[j]?=some x:=hx
          rw[hmap] at hx
          cases hx
          by_cases hqk:q=k
          · have hd:decide (¬k∈P)=false:=decide_eq_false (fun hc=>hc (hqk ▸ List.mem_of_getElem? hq2))
            refine KW.cT U U (by simp[hqk]) ?_
            refine KW.retM1 U U U U (fun H1 g=>?_)
            unfold SoX
            simp only[he]
            refine⟨_,_,_,by rw[hd];rfl,fun hn=>absurd (hqk ▸ List.mem_of_getElem? hq2) hn⟩
          · refine KW.cF U U (by simp;omega) ?_
            have htk:(E.take P.length)[j]?=some r:=by rw[List.getElem?_take,if_pos (by omega)];exact hr
            refine KW.getL hE.upS U U U U U U U U U U U U U U U U (by omega) (by rw[List.length_take];have:=sh.le;omega) (fun y2 ay cy hy2 hsy2=>?_)
            have hy2:(E.take P.length)[j]?=some y2:=hy2
            rw[htk] at hy2
            cases hy2
            refine KW.getI hsy2 U U U U U U U U U U U U U U U U (by omega) (by omega) (fun z hz=>?_)
            have hz:r[k]?=some z:=hz
            have e9:setF E P k (j+1)=(setF E P k j).set q z:=by
              have e1:P.getD j 0=q:=by rw[List.getD_eq_getElem?_getD,hq2];rfl
              have e2:E.getD j []=r:=by rw[List.getD_eq_getElem?_getD,hr];rfl
              have e3:r.getD k 0=z:=by rw[List.getD_eq_getElem?_getD,hz];rfl
              simp only[setF,e1,e2,e3]
            have hset9:cc.set (0+(q:Int).toNat*1) (.int .i64 z)=(setF E P k (j+1)).map (Value.int .i64):=by
              rw[e9,List.map_set,hset,show 0+(q:Int).toNat*1=q by omega]
            refine KW.idx0 U U U U U U U U U (by omega) (by omega) ?_
            first | (refine KW.st1 4 U U U U U U U U U U U U (by simp only;omega) ?_) | (refine KW.st1 3 U U U U U U U U U U U U (by simp only;omega) ?_)
            exact KW.nxt U U (fun H' g=>⟨(j+1,_),⟨by simp only[List.length_set];omega,by simp only;omega,upto hjn (fun q' hq'=>by rw[hq2] at hq';cases hq';exact hqk),hset9⟩,by simp only;omega,⟨rfl,rfl,rfl,rfl,rfl,congrArg (Value.int .i64) (inc64 (by omega)),trivial⟩,g⟩)
        case gout2=>
          have hjl:j=P.length:=by have j2:¬(j:Int)<(P.length:Int):=j2;omega
          subst hjl
          have hd:decide (¬k∈P)=true:=decide_eq_true (fun hm=>by obtain⟨i',hi'⟩:=List.getElem?_of_mem hm;exact hjn i' (List.getElem?_eq_some_iff.1 hi').1 k hi' rfl)
          refine KW.retM1 U U U U (fun H1 g=>?_)
          unfold SoX
          simp only[he]
          refine⟨_,_,_,by rw[hd];rfl,fun _=>⟨rfl,?_⟩⟩
          have el:=setF_len (E:=E) (P:=P) (k:=k) P.length
          have hb:(H1.m (HE.n+1)=some ⟨2,true,cc⟩)∧HE.n+1<H1.n:=by first | exact g.blk (j:=4) rfl | exact g.blk (j:=3) rfl
          have hge:H.n≤HE.n+1:=by first | exact g.ge (H1:=H) (j:=4) rfl | exact g.ge (H1:=H) (j:=3) rfl
          rw[hset] at hb
          have h1:=(row_ml (o:=HE.n+1) hb.1).sl
          rw[el] at h1
          exact h1.more (fun id h=>by
            have:=hb.2
            rw[h]
            exact⟨by omega,by omega⟩)
theorem solve {p:Int} {k:Nat} (hp:PrimeP p) (hk:k≤100) {L:List (List Int)} {vals:List Int} (hLl:L.length≤100) (hL:Rect p k L) (hvl:vals.length=L.length) (hv:∀v∈vals,0≤v∧v<p) {a1 c1 a2 c2} (hs0:KI.sl.Sl S H0 (.slice a1 L.length c1) L) (hv0:KI.Sl S H0 (.slice a2 vals.length c2) vals):
    SpecM Try.prog S H0 85 [.agg #[.int .i64 p,.int .i64 k,.slice a1 L.length c1],.slice a2 vals.length c2] (fun n v H1=>∃(a:Option Addr) (n c:Nat),v=.tuple #[.slice a n c,.bool (decide (k∉(ech p (augW L vals) (k+1)).2))]):=fun H hf hz=>by
  obtain⟨m,v,H1,k1,k2,k3,a,n,c,e,_⟩:=solveX hp hk hLl hL hvl hv hs0 hv0 H hf hz
  exact⟨m,v,H1,k1,k2,k3,a,n,c,e⟩
end
section
variable {S:Ids} {H0:AH}
theorem l00OwnC {a c} {xs:List Int} (hl:xs.length≤1048576) (hs:KI.Sl S H0 (.slice a xs.length c) xs):SpecM Try.prog S H0 160 [.slice a xs.length c] (fun n v H1=>∃o,v=.slice (some ⟨o,0,some 1⟩) xs.length xs.length∧New n H1.n o∧H1.m o=some ⟨2,true,xs.map (Value.int .i64)⟩):=by
 refine SpecM.of1 Try.func160 rfl (by kernel_rfl) rfl (fun H _=>?_)
 refine KW.lit U U U U U U U U U U [] U U (fun v hv=>by simp at hv) rfl ?_
 refine KW.appV 0 U U U U U U U U U U (fun H1 g=>acells_I hs.up g) (by simp) (by simp) (fun v hv=>by obtain⟨_,_,rfl⟩:=List.mem_map.1 hv;rfl) (by show(_+_)*8≤_;simp only[List.length_cons,List.length_nil];omega) (by simp only[List.length_cons,List.length_nil];omega) (show 0+xs.length=xs.length from by omega) (fun oa _ _=>?_)
 refine KW.retM1 U U U U (fun H1 g=>⟨_,rfl,⟨g.ge (H1:=H) (j:=0) rfl,(g.blk (j:=0) rfl).2⟩,(g.blk (j:=0) rfl).1⟩)
end
section
variable {S:Ids} {H0:AH}
end
theorem dF_behind {r:List Int} {v:Int}:∀(t:List Int) (c:Nat),c+t.length≤r.length→dF (r++[v]) c t=dF r c t
 | [],_,_=>rfl
 | a :: t,c,h=>by
  simp only[List.length_cons] at h
  simp only[dF,dF_behind (r:=r) (v:=v) t (c+1) (by omega)]
  congr 2
  rw[List.getD_eq_getElem?_getD,List.getD_eq_getElem?_getD,List.getElem?_append_left (by omega)]
theorem sat_aug {p:Int} {k:Nat} {r x:List Int} {v:Int} (hr:r.length=k) (hx:x.length=k):Sat p k (r++[v]) x↔Cg p (dF r 0 x) v:=by
 unfold Sat Cg
 rw[dF_behind x 0 (by omega)]
 have e:(r++[v]).getD k 0=v:=by
  rw[List.getD_eq_getElem?_getD,List.getElem?_append_right (by omega),hr,Nat.sub_self];rfl
 rw[e]
theorem allS_aug {p:Int} {k:Nat} {L:List (List Int)} {vals x:List Int} (hL:∀r∈L,r.length=k) (hl:vals.length=L.length) (hx:x.length=k):AllS p k (augW L vals) x↔∀(i:Nat) r v,L[i]?=some r→vals[i]?=some v→Cg p (dF r 0 x) v:=by
 constructor
 ·intro h i r v hr hv
  exact(sat_aug (hL r (List.mem_of_getElem? hr)) hx).1 (h i _ (augW_at hr hv))
 ·intro h i w hw
  have hi:=(List.getElem?_eq_some_iff.1 hw).1
  rw[augW_len hl] at hi
  have h1:L[i]?=some L[i]:=List.getElem?_eq_getElem hi
  have h2:vals[i]?=some (vals[i]'(by omega)):=List.getElem?_eq_getElem (by omega)
  have h3:=augW_at h1 h2
  rw[hw] at h3
  cases h3
  exact(sat_aug (hL _ (List.mem_of_getElem? h1)) hx).2 (h i _ _ h1 h2)
theorem lcS_big {p:Int} {k:Nat} {L:List (List Int)} (hL:Rect p k L) (cs:List Int) {j:Nat} (hj:k≤j):lcS L cs j=0:=lcS_all0 L cs fun r hr=>by
 rw[List.getD_eq_getElem?_getD,List.getElem?_eq_none (by have:=(hL r hr).1;omega)];rfl
theorem getD_big {t:List Int} {k j:Nat} (ht:t.length=k) (hj:k≤j):t.getD j 0=0:=by
 rw[List.getD_eq_getElem?_getD,List.getElem?_eq_none (by omega)];rfl
theorem unitL_in {p:Int} {k:Nat} (hp:2≤p) (hk:1≤k):(unitL k).length=k∧∀a∈unitL k,0≤a∧a<p:=⟨unitL_len hk,fun a ha=>by
 rcases List.mem_cons.1 ha with h | h
 ·rw[h];omega
 ·rw[List.eq_of_mem_replicate h];omega⟩
theorem dotN_dFx {r:List Int}:∀(x:List Int) (c:Nat),dotN (r.drop c) x x.length=dF r c x:=by
 have key:∀(x pre:List Int) (c:Nat),dotN (r.drop c) (pre++x) (pre.length+x.length)=dotN (r.drop c) (pre++x) pre.length+dF r (c+pre.length) x:=fun x=>by
  induction x with
  | nil=>intro pre c;simp[dF]
  | cons a t ih=>
   intro pre c
   have h:=ih (pre++[a]) c
   simp only[List.append_assoc,List.cons_append,List.nil_append,List.length_append,List.length_cons,List.length_nil,Nat.zero_add] at h
   simp only[List.length_cons,dF]
   rw[show pre.length+(t.length+1)=pre.length+1+t.length by omega,h]
   simp only[dotN]
   have e1:(pre++a :: t).getD pre.length 0=a:=by
    rw[List.getD_eq_getElem?_getD,List.getElem?_append_right (Nat.le_refl _),Nat.sub_self];rfl
   have e2:(r.drop c).getD pre.length 0=r.getD (c+pre.length) 0:=by
    rw[List.getD_eq_getElem?_getD,List.getD_eq_getElem?_getD,List.getElem?_drop]
   rw[e1,e2,show c+(pre.length+1)=c+pre.length+1 by omega]
   omega
 intro x c
 have:=key x [] c
 simpa [dotN] using this
theorem dotS_dF {p:Int} {a b:List Int} (h:a.length=b.length):dotS p a b=dF a 0 b%p:=by
 unfold dotS
 rw[h]
 have:=dotN_dFx (r:=a) b 0
 rw[List.drop_zero] at this
 rw[this]
section
variable {S:Ids} {H0:AH}
end
end Go.Proofs.Ytlapbbffoapleaa.Am
