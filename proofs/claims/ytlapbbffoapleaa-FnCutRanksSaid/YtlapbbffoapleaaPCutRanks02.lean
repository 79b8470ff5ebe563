/- Contracts and laws on abstract memory, merged. Each holds under its own conditions. -/
import Derived.Test.YtlapbbffoapleaaPCutRanks01
set_option linter.unusedVariables false
set_option linter.unusedSimpArgs false
set_option maxRecDepth 20000
set_option maxHeartbeats 4000000
namespace Go.Proofs.Ytlapbbffoapleaa.Am
open Go Go.RowKit Go.Proofs
theorem Fz.trans {S:Ids} {H0 H H':AH} (h:Fz S H0 H) (k:Fz (Low H.n) H H'):Fz S H0 H':=fun id hid=>by
 obtain⟨h1,h2⟩:=h id hid
 obtain⟨h3,h4⟩:=k id h1
 exact⟨h3,h4.trans h2⟩
section
variable {S:Ids} {H0:AH}
def Tells {α:Type} (P:Program) (S:Ids) (H0:AH) (d:Kn α) (xs:List (List α)) (g:FuncId) (cap:List Value) (p:List α→Bool):Prop:=
 ∀H',Fz S H0 H'→∀x a c,x∈xs→d.Sl (Low H'.n) H' (.slice a x.length c) x→Spec P (Low H'.n) H' g (.slice a x.length c :: cap) (fun v=>v=.bool (p x))
theorem Tells.to {α:Type} {P:Program} {d:Kn α} {xs:List (List α)} {g:FuncId} {cap:List Value} {p:List α→Bool} {H:AH} (h:Tells P S H0 d xs g cap p) (hf:Fz S H0 H):Tells P (Low H.n) H d xs g cap p:=fun H' hf'=>h H' (hf.trans hf')
theorem indexFunc2 {a c} {xs:List (List Int)} {g:FuncId} {id k:Nat} {sp:Option Nat} {p:List Int→Bool} (hl:xs.length≤1048576) (hs:(Kn.int .i64).sl.Sl S H0 (.slice a xs.length c) xs) (hp:Tells Try.prog S H0 (Kn.int .i64) xs g [.pointer (some ⟨id,k,none⟩)] p):
  Spec Try.prog S H0 195 [.slice a xs.length c,.func (.func g) #[] #[.pointer (some ⟨id,k,sp⟩)]] (fun v=>∃r:Int,v=.int .i64 r∧(r≥0↔∃x∈xs,p x=true)):=by
 refine Spec.of Try.func195 rfl (by kernel_rfl) rfl (fun H hfin hfz=>?_)
 have hs:=hs.to hfz
 have hp:=hp.to hfz
 refine KW.lp U U (fun i:Nat=>[(0,.slice a xs.length c),(1,.func (.func g) #[] #[.pointer (some ⟨id,k,sp⟩)]),(7,.int .i64 xs.length),(8,.int .i64 i)]) (fun i=>i≤xs.length∧∀j,j<i→∀x,xs[j]?=some x→p x=false) (fun i=>xs.length-i) 0 ⟨by omega,fun j h=>absurd h (by omega)⟩ ⟨rfl,rfl,rfl,rfl,trivial⟩ (fun i hi b n=>?_)
 obtain⟨hi,hj⟩:=hi
 refine KW.cnd U U (fun h=>?_) (fun h=>KW.ret U U U U ⟨-1,rfl,?_⟩)
 ·refine KW.getL hs U U U U U U U U U U U U U U U U (by omega) h (fun x ax cx hx hsx=>?_)
  have hx:xs[i]?=some x:=hx
  have hmem:=List.mem_of_getElem? hx
  refine KW.callE U U U U U (hp H (fun id h=>⟨h,rfl⟩) x ax cx hmem hsx) (fun _ _=>?_)
  refine KW.cndB U U (fun h2=>KW.ret U U U U ⟨(i:Int),rfl,?_⟩) (fun h2=>?_)
  ·exact⟨fun _=>⟨x,hmem,h2⟩,fun _=>by omega⟩
  ·exact KW.nxt U U (fun H g'=>⟨i+1,⟨by omega,upto hj (fun y hy=>by rw[hx] at hy;cases hy;exact h2)⟩,by omega,⟨rfl,rfl,rfl,congrArg (Value.int .i64) (inc64 (by omega)),trivial⟩,g'⟩)
 ·refine⟨fun h=>absurd h (by decide),fun⟨x,hx,hpx⟩=>?_⟩
  obtain⟨j,hjx⟩:=List.getElem?_of_mem hx
  have:=hj j (by have:=(List.getElem?_eq_some_iff.1 hjx).1;omega) x hjx
  rw[hpx] at this;cases this
theorem containsFunc2 {a c} {xs:List (List Int)} {g:FuncId} {id k:Nat} {sp:Option Nat} {p:List Int→Bool} (hl:xs.length≤1048576) (hs:(Kn.int .i64).sl.Sl S H0 (.slice a xs.length c) xs) (hp:Tells Try.prog S H0 (Kn.int .i64) xs g [.pointer (some ⟨id,k,none⟩)] p):
  Spec Try.prog S H0 143 [.slice a xs.length c,.func (.func g) #[] #[.pointer (some ⟨id,k,sp⟩)]] (fun v=>v=.bool (tv (∃x∈xs,p x=true))):=by
 refine Spec.of Try.func143 rfl (by kernel_rfl) rfl (fun H hfin hfz=>?_)
 refine KW.call U U U U U (indexFunc2 hl (hs.to hfz) (hp.to hfz)) (fun v n' _ hv=>?_)
 obtain⟨r,rfl,hr⟩:=hv
 refine KW.ret U U U U ?_
 show Value.bool (decide (r≥0))=_
 rw[tv_dec,tv_congr hr]
def Opens (gs:List (List Int)) (c:Nat):Prop:=∃g∈gs,c &&& bitsOf g=bitsOf g
def Below' (m:Nat) (gs:List (List Int)):Prop:=∀g∈gs,∀x∈g,0≤x∧x<(m:Int)
theorem below_bits {m:Nat} (hm:m≤7) {gs:List (List Int)} (hb:Below' m gs) {g:List Int} (hg:g∈gs):bitsOf g<128:=by
 have h3:bitsOf g<2 ^ 7:=bitsOf_lt (fun x hx=>by have:=hb g hg x hx;omega)
 have h4:(2:Nat) ^ 7=128:=by decide
 omega
theorem FamOk.below {m:Int} {gs:List (List Int)} (h:FamOk m gs):Below' m.toNat gs:=fun g hg x hx=>by
 obtain⟨i,hi⟩:=List.getElem?_of_mem hg
 have h1:=(h.grp i (List.getElem?_eq_some_iff.1 hi).1).1
 rw[getDL_of hi] at h1
 exact rises_bound h.h1 h1 x hx
theorem opens1 {m:Nat} (hm:m≤7) {q:Nat} (hq:q<4611686018427387904) {g:List Int} (hg:∀x∈g,0≤x∧x<(m:Int)) (hl:g.length≤1048576) {a c} {id:Nat} {ty:TypeId} {rw:Bool} (hS:S id) (hm':H0.m id=some ⟨ty,rw,[.int .u64 q]⟩) (hs:(Kn.int .i64).Sl S H0 (.slice a g.length c) g):
  Spec Try.prog S H0 181 [.slice a g.length c,.pointer (some ⟨id,0,none⟩)] (fun v=>v=.bool (tv (q &&& bitsOf g=bitsOf g))):=by
 refine Spec.of Try.func181 rfl (by kernel_rfl) rfl (fun H hfin hfz=>?_)
 have hm':=((hfz id hS).2).trans hm'
 have hS:Low H.n id:=(hfz id hS).1
 have hb:bitsOf g<2 ^ m:=bitsOf_lt (fun x h=>by have:=hg x h;omega)
 have hp:=small_pow (m:=m) (by omega)
 refine KW.ldP hS hm' U U U U U U ?_
 refine KW.callE U U U U U (crowdOf (m:=m) (by omega) (by omega) hg (hs.to hfz)) (fun _ _=>?_)
 refine KW.callE U U U U U (contains hq (by omega)) (fun _ _=>?_)
 exact KW.ret U U U U U
theorem opens {m:Nat} (hm:m≤7) (h:Int) {q:Nat} (hq:q<4611686018427387904) {gs:List (List Int)} (hsm:Sml gs) (hb:Below' m gs) {a c} (hs:(Kn.int .i64).sl.Sl S H0 (.slice a gs.length c) gs):
  Spec Try.prog S H0 122 [familyV h (.slice a gs.length c),.int .u64 q] (fun v=>v=.bool (tv (Opens gs q))):=by
 refine Spec.of Try.func122 rfl (by kernel_rfl) rfl (fun H hfin hfz=>?_)
 refine KW.callV U U U U U (fun H1 g=>containsFunc2 (p:=fun x=>tv (q &&& bitsOf x=bitsOf x)) hsm.len ((hs.to hfz).on (fun id hid=>(g.froz id hid).2) (fun id hid=>by have:=(g.froz id hid).1;have:=g.n_;show id<H1.n;omega)) (fun H' hf' x ax cx hx hsx=>?_)) (fun _ _=>?_)
 ·have hb1:=g.blk (j:=1) rfl
  obtain⟨h1,h2⟩:=hf' _ hb1.2
  exact opens1 hm hq (hb x hx) (hsm.each x hx) h1 (h2.trans hb1.1) hsx
 ·refine KW.ret U U U U ?_
  show Value.bool (tv _)=_
  congr 1
  exact tv_congr ⟨fun⟨x,h1,h2⟩=>⟨x,h1,tv_iff.1 h2⟩,fun⟨x,h1,h2⟩=>⟨x,h1,tv_iff.2 h2⟩⟩
end
def Grow (l:List Int) (u:Int) (gs:List (List Int)) (a b:Nat):Prop:=a &&& b=a∧¬Opens gs a∧Opens gs b∧l.getD b 0<l.getD a 0+u
def Meet (l:List Int) (u:Int) (gs:List (List Int)) (a b:Nat):Prop:=Opens gs a∧Opens gs b∧¬Opens gs (a &&& b)∧l.getD a 0+l.getD b 0<l.getD (a ||| b) 0+l.getD (a &&& b) 0+u
def Mis (l:List Int) (u:Int) (gs:List (List Int)) (a b:Nat):Prop:=Grow l u gs a b∨Meet l u gs a b
def Fst (l:List Int) (u:Int) (gs:List (List Int)) (a b:Nat) (f:Bool):Prop:=
 (f=true∧a<l.length∧b<l.length∧Mis l u gs a b∧(∀a',a'<a→∀b',b'<l.length→¬Mis l u gs a' b')∧∀b',b'<b→¬Mis l u gs a b')∨
 (f=false∧a=0∧b=0∧∀a',a'<l.length→∀b',b'<l.length→¬Mis l u gs a' b')
theorem Fst.one {l:List Int} {u:Int} {gs:List (List Int)} {a b a' b':Nat} {f f':Bool} (h:Fst l u gs a b f) (k:Fst l u gs a' b' f'):a=a'∧b=b'∧f=f':=by
 rcases h with⟨rfl,h1,h2,h3,h4,h5⟩ | ⟨rfl,rfl,rfl,h4⟩<;>rcases k with⟨rfl,k1,k2,k3,k4,k5⟩ | ⟨rfl,rfl,rfl,k4⟩
 ·have ha:a=a':=by
   rcases Nat.lt_trichotomy a a' with h | h | h
   ·exact absurd h3 (k4 a h b h2)
   ·exact h
   ·exact absurd k3 (h4 a' h b' k2)
  subst ha
  refine⟨rfl,?_,rfl⟩
  rcases Nat.lt_trichotomy b b' with h | h | h
  ·exact absurd h3 (k5 b h)
  ·exact h
  ·exact absurd k3 (h5 b' h)
 ·exact absurd h3 (k4 a h1 b h2)
 ·exact absurd k3 (h4 a' k1 b' k2)
 ·exact⟨rfl,rfl,rfl⟩
section
variable {S:Ids} {H0:AH}
theorem misfit (u:Int) {m:Nat} (hm:m≤7) (hu:1≤u∧u≤100000) {a0 c0 a1 c1} {l:List Int} {gs:List (List Int)} (hl:l.length=2 ^ m) (hw:Within l) (hsm:Sml gs) (hb:Below' m gs) (hs:(Kn.int .i64).Sl S H0 (.slice a0 l.length c0) l) (hs':(Kn.int .i64).sl.Sl S H0 (.slice a1 gs.length c1) gs):
  Spec Try.prog S H0 129 [ranksV m u (.slice a0 l.length c0),familyV m (.slice a1 gs.length c1)] (fun v=>∃(a b:Nat) (f:Bool),v=.tuple #[.int .u64 a,.int .u64 b,.bool f]∧Fst l u gs a b f):=by
 refine Spec.of Try.func129 rfl (by kernel_rfl) rfl (fun H hfin hfz=>?_)
 have hs:=hs.to hfz
 have hs':=hs'.to hfz
 have h256:=len_le (m:=m) (by omega) hl
 refine KW.lp U U (fun a:Nat=>[(2,.pointer (some ⟨H.n,0,some 0⟩)),(3,.pointer (some ⟨H.n+1,0,some 1⟩)),(7,.int .u64 a)]) (fun a=>a≤l.length∧∀a',a'<a→∀b',b'<l.length→¬Mis l u gs a' b') (fun a=>l.length-a) 0 ⟨by omega,fun j h=>absurd h (by omega)⟩ ⟨rfl,rfl,rfl,trivial⟩ (fun a ha e n=>?_)
 obtain⟨ha0,ha⟩:=ha
 refine KW.callE U U U U U (everybody (m:=m) (by omega)) (fun _ _=>?_)
 refine KW.cnd U U (fun h=>?_) (fun h=>KW.ret U U U U ⟨0,0,false,rfl,.inr ⟨rfl,rfl,rfl,fun a' ha'=>ha a' (by rw[hl] at ha';omega)⟩⟩)
 have hal:a<l.length:=by rw[hl];have:=Nat.two_pow_pos m;omega
 refine KW.lp U U (fun b:Nat=>[(2,.pointer (some ⟨H.n,0,some 0⟩)),(3,.pointer (some ⟨H.n+1,0,some 1⟩)),(7,.int .u64 a),(8,.int .u64 b)]) (fun b=>b≤l.length∧∀b',b'<b→¬Mis l u gs a b') (fun b=>l.length-b) 0 ⟨by omega,fun j h=>absurd h (by omega)⟩ ⟨rfl,rfl,rfl,rfl,trivial⟩ (fun b hb' e n=>?_)
 obtain⟨hb0,hb'⟩:=hb'
 refine KW.callE U U U U U (everybody (m:=m) (by omega)) (fun _ _=>?_)
 refine KW.cnd U U (fun h=>?_) (fun h=>?_)
 ·have hbl:b<l.length:=by rw[hl];have:=Nat.two_pow_pos m;omega
  have eo:=or_u64 (a:=a) (b:=b) (by omega) (by omega)
  have ea:=and_u64 (a:=a) (b:=b) (by omega) (by omega)
  have ho:=or_in hl hal hbl
  have hn:=and_in (a:=a) hl hbl
  have w1:=hw a hal
  have w2:=hw b hbl
  have w3:=hw _ ho
  have w4:=hw _ hn
  have O:∀q:Nat,q<l.length→∀{n:Nat},Spec Try.prog (Low H.n) H 122 [familyV m (.slice a1 gs.length c1),.int .u64 q] (fun v=>v=.bool (tv (Opens gs q))):=fun q hq _=>opens hm m (by omega) hsm hb hs'
  refine KW.mid 7 U U (fun g:Bool=>[(2,.pointer (some ⟨H.n,0,some 0⟩)),(3,.pointer (some ⟨H.n+1,0,some 1⟩)),(7,.int .u64 a),(8,.int .u64 b),(9,.bool g)]) (fun g=>g=true↔Grow l u gs a b) ?_ (fun g hg e n=>?_)
  ·have no:¬Grow l u gs a b→(false=true↔Grow l u gs a b):=fun h=>⟨fun h=>(by cases h),fun hc=>absurd hc h⟩
   refine KW.callE U U U U U (contains (x:=b) (y:=a) (by omega) (by omega)) (fun _ _=>?_)
   refine KW.tstB U U (fun h1=>?_) (fun h1=>?_)
   ·have h1:a &&& b=a:=by rw[Nat.and_comm];exact tv_iff.1 h1
    refine KW.callE U U U U U (O a hal (n:=0)) (fun _ _=>?_)
    refine KW.tstB U U (fun h2=>?_) (fun h2=>?_)
    ·have h2:¬Opens gs a:=fun hc=>by rw[tv_true hc] at h2;cases h2
     refine KW.callE U U U U U (O b hbl (n:=0)) (fun _ _=>?_)
     refine KW.tstB U U (fun h3=>?_) (fun h3=>?_)
     ·refine KW.callE U U U U U (rank _ _ b hbl hs) (fun _ _=>?_)
      refine KW.callE U U U U U (rank _ _ a hal hs) (fun _ _=>?_)
      have e5:IntKind.i64.wrap (l.getD a 0+u)=l.getD a 0+u:=wr (by omega) (by omega)
      refine KW.nxt U U (fun H g'=>⟨decide (l.getD b 0<l.getD a 0+u),?_,⟨rfl,rfl,rfl,rfl,?_,trivial⟩,g'⟩)
      ·rw[decide_eq_true_iff]
       exact⟨fun h=>⟨h1,h2,tv_iff.1 h3,h⟩,fun h=>h.2.2.2⟩
      ·show Value.bool (decide (l.getD b 0<IntKind.i64.wrap (l.getD a 0+u)))=_
       rw[e5]
     ·exact KW.nxt U U (fun H g'=>⟨false,no (fun hc=>by rw[tv_true hc.2.2.1] at h3;cases h3),⟨rfl,rfl,rfl,rfl,rfl,trivial⟩,g'⟩)
    ·refine KW.tstB U U (fun h=>absurd h (by decide)) (fun _=>?_)
     exact KW.nxt U U (fun H g'=>⟨false,no (fun hc=>by rw[tv_false hc.2.1] at h2;cases h2),⟨rfl,rfl,rfl,rfl,rfl,trivial⟩,g'⟩)
   ·refine KW.tstB U U (fun h=>absurd h (by decide)) (fun _=>?_)
    refine KW.tstB U U (fun h=>absurd h (by decide)) (fun _=>?_)
    exact KW.nxt U U (fun H g'=>⟨false,no (fun hc=>by rw[tv_true (show b &&& a=a by rw[Nat.and_comm];exact hc.1)] at h1;cases h1),⟨rfl,rfl,rfl,rfl,rfl,trivial⟩,g'⟩)
  refine KW.mid 8 U U (fun g2:Bool=>[(2,.pointer (some ⟨H.n,0,some 0⟩)),(3,.pointer (some ⟨H.n+1,0,some 1⟩)),(7,.int .u64 a),(8,.int .u64 b),(9,.bool g),(10,.bool g2)]) (fun g2=>g2=true↔Meet l u gs a b) ?_ (fun g2 hg2 e n=>?_)
  ·have no:¬Meet l u gs a b→(false=true↔Meet l u gs a b):=fun h=>⟨fun h=>(by cases h),fun hc=>absurd hc h⟩
   refine KW.callE U U U U U (O a hal (n:=0)) (fun _ _=>?_)
   refine KW.tstB U U (fun h1=>?_) (fun h1=>?_)
   ·refine KW.callE U U U U U (O b hbl (n:=0)) (fun _ _=>?_)
    refine KW.tstB U U (fun h2=>?_) (fun h2=>?_)
    ·refine KW.callE U U U U U (by show Spec _ _ _ _ [familyV m (.slice a1 gs.length c1),.int .u64 (IntKind.u64.wrap _)] _;rw[ea];exact O _ hn (n:=0)) (fun _ _=>?_)
     refine KW.tstB U U (fun h3=>?_) (fun h3=>?_)
     ·have h3:¬Opens gs (a &&& b):=fun hc=>by rw[tv_true hc] at h3;cases h3
      refine KW.callE U U U U U (rank _ _ a hal hs) (fun _ _=>?_)
      refine KW.callE U U U U U (rank _ _ b hbl hs) (fun _ _=>?_)
      refine KW.callE U U U U U (by show Spec _ _ _ _ [ranksV m u (.slice a0 l.length c0),.int .u64 (IntKind.u64.wrap _)] _;rw[eo];exact rank _ _ _ ho hs) (fun _ _=>?_)
      refine KW.callE U U U U U (by show Spec _ _ _ _ [ranksV m u (.slice a0 l.length c0),.int .u64 (IntKind.u64.wrap _)] _;rw[ea];exact rank _ _ _ hn hs) (fun _ _=>?_)
      have e5:IntKind.i64.wrap (l.getD a 0+l.getD b 0)=l.getD a 0+l.getD b 0:=wr (by omega) (by omega)
      have e6:IntKind.i64.wrap (l.getD (a ||| b) 0+l.getD (a &&& b) 0)=l.getD (a ||| b) 0+l.getD (a &&& b) 0:=wr (by omega) (by omega)
      have e7:IntKind.i64.wrap (l.getD (a ||| b) 0+l.getD (a &&& b) 0+u)=l.getD (a ||| b) 0+l.getD (a &&& b) 0+u:=wr (by omega) (by omega)
      refine KW.nxt U U (fun H g'=>⟨decide (l.getD a 0+l.getD b 0<l.getD (a ||| b) 0+l.getD (a &&& b) 0+u),?_,⟨rfl,rfl,rfl,rfl,rfl,?_,trivial⟩,g'⟩)
      ·rw[decide_eq_true_iff]
       exact⟨fun h=>⟨tv_iff.1 h1,tv_iff.1 h2,h3,h⟩,fun h=>h.2.2.2⟩
      ·show Value.bool (decide (IntKind.i64.wrap (l.getD a 0+l.getD b 0)<IntKind.i64.wrap (IntKind.i64.wrap (l.getD (a ||| b) 0+l.getD (a &&& b) 0)+u)))=_
       rw[e5,e6,e7]
     ·exact KW.nxt U U (fun H g'=>⟨false,no (fun hc=>by rw[tv_false hc.2.2.1] at h3;cases h3),⟨rfl,rfl,rfl,rfl,rfl,rfl,trivial⟩,g'⟩)
    ·refine KW.tstB U U (fun h=>absurd h (by decide)) (fun _=>?_)
     exact KW.nxt U U (fun H g'=>⟨false,no (fun hc=>by rw[tv_true hc.2.1] at h2;cases h2),⟨rfl,rfl,rfl,rfl,rfl,rfl,trivial⟩,g'⟩)
   ·refine KW.tstB U U (fun h=>absurd h (by decide)) (fun _=>?_)
    refine KW.tstB U U (fun h=>absurd h (by decide)) (fun _=>?_)
    exact KW.nxt U U (fun H g'=>⟨false,no (fun hc=>by rw[tv_true hc.1] at h1;cases h1),⟨rfl,rfl,rfl,rfl,rfl,rfl,trivial⟩,g'⟩)
  have found:Mis l u gs a b→Fst l u gs a b true:=fun h=>.inl ⟨rfl,hal,hbl,h,ha,hb'⟩
  refine KW.tstB U U (fun h1=>?_) (fun h1=>?_)
  ·refine KW.cndB U U (fun _=>KW.ret U U U U ⟨a,b,true,rfl,found (.inl (hg.1 h1))⟩) (fun h=>absurd h (by decide))
  ·refine KW.cndB U U (fun h2=>KW.ret U U U U ⟨a,b,true,rfl,found (.inr (hg2.1 h2))⟩) (fun h2=>?_)
   refine KW.nxt U U (fun H g'=>⟨b+1,⟨by omega,upto hb' (fun hc=>?_)⟩,by omega,⟨rfl,rfl,rfl,congrArg (Value.int .u64) (incu64 (by omega)),trivial⟩,g'⟩)
   rcases hc with hc | hc
   ·rw[hg.2 hc] at h1;cases h1
   ·rw[hg2.2 hc] at h2;cases h2
 ·exact KW.nxt U U (fun H g'=>⟨a+1,⟨by omega,upto ha (fun b' hb1=>hb' b' (by rw[hl] at hb1;omega))⟩,by omega,⟨rfl,rfl,congrArg (Value.int .u64) (incu64 (by omega)),trivial⟩,g'⟩)
end
end Go.Proofs.Ytlapbbffoapleaa.Am
namespace Go.Proofs.Ytlapbbffoapleaa.Am
open Go Go.RowKit
def dif (a b:Nat):Nat:=a ^^^ (a &&& b)
theorem dif_bit (a b i:Nat):(dif a b).testBit i=(a.testBit i&&!b.testBit i):=by
 unfold dif
 rw[Nat.testBit_xor,Nat.testBit_and]
 cases a.testBit i<;>cases b.testBit i<;>rfl
theorem dif_lt {a b m:Nat} (ha:a<2 ^ m):dif a b<2 ^ m:=by
 refine Nat.lt_pow_two_of_testBit _ fun i hi=>?_
 rw[dif_bit,Nat.testBit_lt_two_pow (Nat.lt_of_lt_of_le ha (Nat.pow_le_pow_right (by decide) hi))];rfl
section
variable {l:List Int} {m:Nat}
end
section
variable {l:List Int} {u:Int} {gs:List (List Int)} {m:Nat}
end
end Go.Proofs.Ytlapbbffoapleaa.Am
namespace Go.Proofs.Ytlapbbffoapleaa.Am
open Go Go.RowKit Go.Proofs
theorem bool_sl {xs:List Bool} {S:Ids} {H:AH} {id c:Nat} {b:Blk} (hS:S id) (hb:H.m id=some b) (hc:b.cells=xs.map Value.bool) (hl:xs.length≤c):Kn.bool.Sl S H (.slice (some ⟨id,0,some 1⟩) xs.length c) xs:=by
 refine .inr ⟨id,0,c,b,rfl,hl,hS,hb,by rw[hc];simp[Kn.bool],fun i x hx=>?_⟩
 obtain⟨hi,rfl⟩:=List.getElem?_eq_some_iff.1 hx
 show _=_
 rw[hc]
 show((xs.map Value.bool).drop (0+i*1)).take 1=_
 rw[List.take_one,Nat.zero_add,Nat.mul_one,List.head?_drop]
 simp[hi]
noncomputable def tabO (gs:List (List Int)) (n:Nat):List Bool:=(List.range n).map fun q=>tv (Opens gs q)
theorem tabO_len (gs:List (List Int)) (n:Nat):(tabO gs n).length=n:=by simp[tabO]
theorem tabO_at {gs:List (List Int)} {n q:Nat} (h:q<n) {y:Bool} (hy:(tabO gs n)[q]?=some y):y=tv (Opens gs q):=by
 unfold tabO at hy
 rw[List.getElem?_map,List.getElem?_range h] at hy
 simpa using hy.symm
section
variable {S:Ids} {H0:AH}
end
section
variable {S:Ids} {H0:AH}
end
section
variable {P:Program} {S:Ids} {H0:AH} {Q:PostC} {k k1:List It} {e e1:Env} {T T1:List Var} {n n1:Nat} {l1 r1:List Nat} {d1:Tmp}
theorem KW.shr {o:Oper} {dr:Bool} {t u:TypeId} {x y:Operand} {ik kk:IntKind} {j:Int} {v:Int} (h:Go1 P k e T n (.op o dr) k1 e1 T1 n1 l1 r1) (hlr:l1=r1) (ho:o.op=.binOp .shr t x y u) (hd:o.dst=some d1) (hx:ev e1 x=.int ik v) (hy:ev e1 y=.int kk j) (hb:ik.bits=64) (a m:Nat) (hv:v=a) (hj:j=m) (hm:m≤63)
  (hk:KW P S H0 Q n1 T1 k1 (put1 e1 d1 (.int ik ((a / 2 ^ m:Nat):Int)))):KW P S H0 Q n T k e:=by
 refine KW.pure h hlr ho hd rfl _ ?_ hk
 subst hj hv
 simp only[pop,hx,hy,abin,ashift]
 rw[if_neg (by omega),hb]
 have e1:min (m:Int).toNat 64=m:=by omega
 rw[e1]
 congr 2
 rw[Int.fdiv_eq_ediv_of_nonneg _ (by exact Int.pow_nonneg (by decide))]
 exact_mod_cast rfl
end
def hold (x n:Nat):List Int:=((List.range n).filter fun i=>x.testBit i).map fun(i:Nat)=>(i:Int)
theorem hold_next (x n:Nat):hold x (n+1)=if x.testBit n=true then hold x n++[(n:Int)] else hold x n:=by
 unfold hold
 rw[List.range_succ,List.filter_append,List.map_append]
 by_cases h:x.testBit n=true
 ·simp[h]
 ·have h:x.testBit n=false:=by simpa using h
  simp[h]
theorem hold_len (x n:Nat):(hold x n).length≤n:=by
 unfold hold
 rw[List.length_map]
 exact Nat.le_trans (List.length_filter_le _ _) (by simp)
theorem hold_up {x m:Nat} (hx:x<2 ^ m):∀d,hold x (m+d)=hold x m
 | 0=>rfl
 | d+1=>by
  rw[← Nat.add_assoc,hold_next,if_neg (by rw[Nat.testBit_lt_two_pow (Nat.lt_of_lt_of_le hx (Nat.pow_le_pow_right (by decide) (by omega)))];decide)]
  exact hold_up hx d
theorem bit_is {x h:Nat}:(((x / 2 ^ h) &&& 1:Nat)==1)=x.testBit h:=by
 rw[Nat.testBit_eq_decide_div_mod_eq,Nat.and_one_is_mod]
 rfl
section
variable {S:Ids} {H0:AH}
theorem has {x h:Nat} (hx:x<4611686018427387904) (hh:h≤63):Spec Try.prog S H0 152 [.int .u64 x,.int .i64 h] (fun v=>v=.bool (x.testBit h)):=by
 refine Spec.of Try.func152 rfl (by kernel_rfl) rfl (fun H hfin hfz=>?_)
 refine KW.shr U U U U U U U x h U U hh ?_
 refine KW.ret U U U U ?_
 show Value.bool (IntKind.u64.wrap ((BitVec.ofInt IntKind.u64.bits ((x / 2 ^ h:Nat):Int) &&& BitVec.ofInt IntKind.u64.bits ((1:Nat):Int)).toNat:Int)==((1:Nat):Int))=_
 rw[and_u64 (Nat.lt_of_le_of_lt (Nat.div_le_self _ _) hx) (by decide),← bit_is]
 congr 1
 generalize x / 2 ^ h &&& 1=q
 by_cases e:q=1
 ·subst e;rfl
 ·rw[show(q==1)=false from by simpa using e]
  simp only[beq_eq_false_iff_ne,ne_eq]
  omega
theorem group {x:Nat} (hx:x<4611686018427387904):SpecM Try.prog S H0 105 [.int .u64 x] (fun n v H1=>∃a c,v=.slice a (hold x 7).length c∧KI.Ml (New n H1.n) H1 (.slice a (hold x 7).length c) (hold x 7)):=by
 refine SpecM.of Try.func105 rfl (by kernel_rfl) rfl (fun H hfin hfz=>?_)
 refine KW.lit U U U U U U U U U U [] U U (fun v hv=>by simp at hv) rfl ?_
 refine KW.lpM U U (fun s:Nat × Nat=>[(0,.int .u64 x),(3,.slice (some ⟨s.2,0,some 1⟩) (hold x s.1).length (hold x s.1).length),(4,.int .i64 s.1)]) (fun _=>Low H.n) (fun _=>H) (fun s=>[(s.2,⟨_,true,(hold x s.1).map (Value.int .i64)⟩)]) (fun s=>s.1≤7) (fun s=>7-s.1) (0,H.n) (by simp) ⟨rfl,rfl,rfl,trivial⟩ U U U (fun s hi b n=>?_)
 obtain⟨q,o⟩:=s
 simp only at hi
 refine KW.fact (p:=¬o<H.n) (fun _ g=>(g.vars 0 _ rfl).2.2) (fun ho=>?_)
 have hq:=hold_len x q
 refine KW.cnd U U (fun h=>?_) (fun h=>?_)
 ·refine KW.callE U U U U U (has hx (by omega)) (fun _ _=>?_)
  refine KW.cndB U U (fun h2=>?_) (fun h2=>?_)
  ·refine KW.lit U U U U U U U U U U [.int .i64 q] U U (fun v hv=>by simp at hv;subst hv;rfl) rfl ?_
   refine KW.appT (len:=(hold x q).length) (ys:=[.int .i64 q]) (m:=1) 0 U U U U U U U U U U (fun H g=>acells_T (g.blk (j:=1) rfl).1 U U) (by simp) (fun v hv=>by simp at hv;subst hv;rfl) (by decide) (by show((hold x q).length+1)*8≤_;omega) (by omega) ?_
   have e:=hold_next x q
   rw[if_pos h2] at e
   refine KW.nxt U U (fun H g'=>⟨(q+1,_),by simp only;omega,by simp only;omega,⟨rfl,by simp only[e,List.length_append,List.length_singleton];rfl,congrArg (Value.int .i64) (inc64 (by omega)),trivial⟩,(g'.take 1).eqT ?_⟩)
   simp only[e,List.map_append]
   rfl
  ·have e:=hold_next x q
   rw[if_neg (by rw[h2];decide)] at e
   exact KW.nxt U U (fun H g'=>⟨(q+1,o),by simp only;omega,by simp only;omega,⟨rfl,by simp only[e];rfl,congrArg (Value.int .i64) (inc64 (by omega)),trivial⟩,g'.eqT (by simp only[e])⟩)
 ·obtain rfl:q=7:=by omega
  refine KW.retM U U U U (fun id hid=>⟨hid,rfl⟩) (fun H1 g=>?_)
  have hb:=g.blk (j:=0) rfl
  exact⟨_,_,rfl,int_ml ⟨by omega,hb.2⟩ hb.1 U U (Nat.le_refl _)⟩
theorem l06Holders {x m:Nat} (hx:x<4611686018427387904) (hm:m≤63):SpecM Try.prog S H0 110 [.int .i64 x,.int .i64 m] (fun n v H1=>∃a c,v=.slice a (hold x m).length c∧KI.Ml (New n H1.n) H1 (.slice a (hold x m).length c) (hold x m)):=by
 refine SpecM.of Try.func110 rfl (by kernel_rfl) rfl (fun H hfin hfz=>?_)
 refine KW.lit U U U U U U U U U U [] U U (fun v hv=>by simp at hv) rfl ?_
 refine KW.lpM U U (fun s:Nat × Nat=>[(0,.int .i64 x),(1,.int .i64 m),(5,.slice (some ⟨s.2,0,some 1⟩) (hold x s.1).length (hold x s.1).length),(6,.int .i64 s.1)]) (fun _=>Low H.n) (fun _=>H) (fun s=>[(s.2,⟨_,true,(hold x s.1).map (Value.int .i64)⟩)]) (fun s=>s.1≤m) (fun s=>m-s.1) (0,H.n) (by simp) ⟨rfl,rfl,rfl,rfl,trivial⟩ U U U (fun s hi b n=>?_)
 obtain⟨q,o⟩:=s
 simp only at hi
 refine KW.fact (p:=¬o<H.n) (fun _ g=>(g.vars 0 _ rfl).2.2) (fun ho=>?_)
 have hq:=hold_len x q
 refine KW.cnd U U (fun h=>?_) (fun h=>?_)
 ·refine KW.shr U U U U U U U x q rfl (wru (by omega) (by omega)) (by omega) ?_
  have eb:(IntKind.i64.wrap ((BitVec.ofInt IntKind.i64.bits ((x / 2 ^ q:Nat):Int) &&& BitVec.ofInt IntKind.i64.bits ((1:Nat):Int)).toNat:Int)==((1:Nat):Int))=x.testBit q:=by
   rw[and_i64 (Nat.lt_of_le_of_lt (Nat.div_le_self _ _) hx) (by decide),← bit_is]
   generalize x / 2 ^ q &&& 1=q
   by_cases e:q=1
   ·subst e;rfl
   ·rw[show(q==1)=false from by simpa using e]
    simp only[beq_eq_false_iff_ne,ne_eq]
    omega
  refine KW.cndB U U (fun h2=>?_) (fun h2=>?_)
  ·have h2:x.testBit q=true:=eb.symm.trans h2
   refine KW.lit U U U U U U U U U U [.int .i64 q] U U (fun v hv=>by simp at hv;subst hv;rfl) rfl ?_
   refine KW.appT (len:=(hold x q).length) (ys:=[.int .i64 q]) (m:=1) 0 U U U U U U U U U U (fun H g=>acells_T (g.blk (j:=1) rfl).1 U U) (by simp) (fun v hv=>by simp at hv;subst hv;rfl) (by decide) (by show((hold x q).length+1)*8≤_;omega) (by omega) ?_
   have e:=hold_next x q
   rw[if_pos h2] at e
   refine KW.nxt U U (fun H g'=>⟨(q+1,_),by simp only;omega,by simp only;omega,⟨rfl,rfl,by simp only[e,List.length_append,List.length_singleton];rfl,congrArg (Value.int .i64) (inc64 (by omega)),trivial⟩,(g'.take 1).eqT ?_⟩)
   simp only[e,List.map_append]
   rfl
  ·have h2:x.testBit q=false:=eb.symm.trans h2
   have e:=hold_next x q
   rw[if_neg (by rw[h2];decide)] at e
   exact KW.nxt U U (fun H g'=>⟨(q+1,o),by simp only;omega,by simp only;omega,⟨rfl,rfl,by simp only[e];rfl,congrArg (Value.int .i64) (inc64 (by omega)),trivial⟩,g'.eqT (by simp only[e])⟩)
 ·obtain rfl:q=m:=by omega
  refine KW.retM U U U U (fun id hid=>⟨hid,rfl⟩) (fun H1 g=>?_)
  have hb:=g.blk (j:=0) rfl
  exact⟨_,_,rfl,int_ml ⟨by omega,hb.2⟩ hb.1 U U (Nat.le_refl _)⟩
end
def FmR (m u:Int) (l:List Int) (h:Int) (gs:List (List Int)) (g0 g1:List Int) (code:Int):Prop:=
 (¬fitC m u l h gs=0∧g0=[]∧g1=[]∧code=fitC m u l h gs)∨
 (fitC m u l h gs=0∧∃a b f,Fst l u gs a b f∧((f=false∧g0=[]∧g1=[]∧code=6)∨(f=true∧g0=hold a 7∧g1=hold b 7∧code=0)))
theorem FmR.one {m u:Int} {l:List Int} {h:Int} {gs:List (List Int)} {g0 g1 g0' g1':List Int} {code code':Int} (p:FmR m u l h gs g0 g1 code) (q:FmR m u l h gs g0' g1' code'):g0=g0'∧g1=g1'∧code=code':=by
 rcases p with⟨h0,rfl,rfl,rfl⟩ | ⟨h0,a,b,f,hf,p⟩<;>rcases q with⟨k0,rfl,rfl,rfl⟩ | ⟨k0,a',b',f',kf,q⟩
 ·exact⟨rfl,rfl,rfl⟩
 ·exact absurd k0 h0
 ·exact absurd h0 k0
 ·obtain⟨rfl,rfl,rfl⟩:=hf.one kf
  rcases p with⟨rfl,rfl,rfl,rfl⟩ | ⟨rfl,rfl,rfl,rfl⟩<;>rcases q with⟨e,rfl,rfl,rfl⟩ | ⟨e,rfl,rfl,rfl⟩<;>first | exact⟨rfl,rfl,rfl⟩ | cases e
theorem FmR.len {m u:Int} {l:List Int} {h:Int} {gs:List (List Int)} {g0 g1:List Int} {code:Int} (p:FmR m u l h gs g0 g1 code):g0.length≤7∧g1.length≤7:=by
 rcases p with⟨h0,rfl,rfl,rfl⟩ | ⟨h0,a,b,f,hf,⟨rfl,rfl,rfl,rfl⟩ | ⟨rfl,rfl,rfl,rfl⟩⟩<;>first | exact⟨by simp,by simp⟩ | exact⟨hold_len _ _,hold_len _ _⟩
section
variable {S:Ids} {H0:AH}
end
section
variable {S:Ids} {H0:AH} {W:Ids} {a a':Option Addr} {c c':Nat} {left k:Int}
end
abbrev T_Ranks:Type:=(Int) × (Int) × (List Int)
abbrev K_Ranks:Kn T_Ranks:=Kn.pair (KI) (Kn.pair (KI) (K_Int64S))
abbrev M_Ranks:Kn T_Ranks:=Kn.mp (KI) (Kn.mp (KI) (M_Int64S))
abbrev B_Ranks (x:T_Ranks):Prop:=I64 x.1∧I64 x.2.1∧B_Int64S x.2.2
section
variable {S:Ids} {H0:AH} {W:Ids} {left k:Int}
theorem split_Ranks {x:T_Ranks} {cs:List Value} (h:K_Ranks.R S H0 x cs):∃a1 c1,cs=[.int .i64 x.1,.int .i64 x.2.1,.slice a1 x.2.2.length c1]∧K_Int64S.R S H0 x.2.2 [.slice a1 x.2.2.length c1]:=by
 obtain⟨e0,d0,rfl,h0,h0_⟩:=h
 obtain⟨e1,d1,rfl,h1,h1_⟩:=h0_
 have h2:=h1_
 obtain rfl:=KI_of h0
 obtain rfl:=KI_of h1
 obtain⟨a1,c1,rfl⟩:=slform h2
 exact⟨a1,c1,rfl,h2⟩
end
abbrev T_Family:Type:=(Int) × (List (List Int))
abbrev K_Family:Kn T_Family:=Kn.pair (KI) (K_Int64SS)
abbrev M_Family:Kn T_Family:=Kn.mp (KI) (M_Int64SS)
theorem le_Family:KLe M_Family K_Family:=KLe.pair ((KLe.refl KI)) (le_Int64SS)
section
variable {S:Ids} {H0:AH} {W:Ids} {left k:Int}
theorem form_Family {x:T_Family} {cs:List Value} (h:K_Family.R S H0 x cs):∃a1 c1,cs=[.int .i64 x.1,.slice a1 x.2.length c1]:=by
 obtain⟨e0,d0,rfl,h0,h0_⟩:=h
 have h1:=h0_
 obtain rfl:=KI_of h0
 obtain⟨a1,c1,rfl⟩:=slform h1
 exact⟨a1,c1,rfl⟩
theorem formM_Family {x:T_Family} {cs:List Value} (h:M_Family.R S H0 x cs):∃a1 c1,cs=[.int .i64 x.1,.slice a1 x.2.length c1]:=form_Family (le_Family.2 _ _ _ _ h)
theorem split_Family {x:T_Family} {cs:List Value} (h:K_Family.R S H0 x cs):∃a1 c1,cs=[.int .i64 x.1,.slice a1 x.2.length c1]∧K_Int64SS.R S H0 x.2 [.slice a1 x.2.length c1]:=by
 obtain⟨e0,d0,rfl,h0,h0_⟩:=h
 have h1:=h0_
 obtain rfl:=KI_of h0
 obtain⟨a1,c1,rfl⟩:=slform h1
 exact⟨a1,c1,rfl,h1⟩
theorem splitM_Family {x:T_Family} {cs:List Value} (h:M_Family.R S H0 x cs):∃(a1:Option Addr) (c1:Nat) (X1:Ids),cs=[.int .i64 x.1,.slice a1 x.2.length c1]∧M_Int64SS.R X1 H0 x.2 [.slice a1 x.2.length c1]∧(∀id,X1 id→S id):=by
 obtain⟨e0,d0,X0,Y0,rfl,i0,j0,q0,h0,h0_⟩:=h
 have h1:=h0_
 obtain rfl:=KI_of h0
 obtain⟨a1,c1,rfl⟩:=mlform h1
 exact⟨a1,c1,Y0,rfl,h1,fun _ p=>j0 _ p⟩
end
theorem andnot_nat (a b i:Nat):((BitVec.ofNat 64 a &&& ~~~BitVec.ofNat 64 b).toNat).testBit i=(decide (i<64)&&(a.testBit i&&!b.testBit i)):=by
 rw[BitVec.testBit_toNat,BitVec.getLsbD_and,BitVec.getLsbD_not,BitVec.getLsbD_ofNat,BitVec.getLsbD_ofNat]
 by_cases h:i<64<;>simp[h]
theorem dif_small {a b:Nat} (ha:a<4611686018427387904):dif a b<4611686018427387904:=dif_lt (m:=62) ha
theorem andnot_eq {a b:Nat} (ha:a<4611686018427387904):(BitVec.ofNat 64 a &&& ~~~BitVec.ofNat 64 b).toNat=dif a b:=by
 apply Nat.eq_of_testBit_eq;intro i
 rw[andnot_nat,dif_bit]
 by_cases h:i<64
 ·simp[h]
 ·have:a.testBit i=false:=Nat.testBit_lt_two_pow (Nat.lt_of_lt_of_le (show a<2 ^ 62 from ha) (Nat.pow_le_pow_right (by decide) (by omega)))
  simp[h,this]
theorem andnot_u64 {a b:Nat} (ha:a<4611686018427387904) (hb:b<4611686018427387904):IntKind.u64.wrap ((BitVec.ofInt IntKind.u64.bits (a:Int) &&& ~~~BitVec.ofInt IntKind.u64.bits (b:Int)).toNat:Int)=((dif a b:Nat):Int):=by
 show IntKind.u64.wrap ((BitVec.ofInt 64 (a:Int) &&& ~~~BitVec.ofInt 64 (b:Int)).toNat:Int)=_
 rw[bv_nat ha,bv_nat hb,andnot_eq ha]
 have:=dif_small (b:=b) ha
 exact wru (by omega) (by omega)
theorem andnot_i64 {a b:Nat} (ha:a<4611686018427387904) (hb:b<4611686018427387904):IntKind.i64.wrap ((BitVec.ofInt IntKind.i64.bits (a:Int) &&& ~~~BitVec.ofInt IntKind.i64.bits (b:Int)).toNat:Int)=((dif a b:Nat):Int):=by
 show IntKind.i64.wrap ((BitVec.ofInt 64 (a:Int) &&& ~~~BitVec.ofInt 64 (b:Int)).toNat:Int)=_
 rw[bv_nat ha,bv_nat hb,andnot_eq ha]
 have:=dif_small (b:=b) ha
 exact wr (by omega) (by omega)
theorem hold_mem {c n:Nat} {x:Int} (h:x∈hold c n):∃i:Nat,x=i∧i<n∧c.testBit i=true:=by
 unfold hold at h
 obtain⟨i,hi,rfl⟩:=List.mem_map.1 h
 obtain⟨h1,h2⟩:=List.mem_filter.1 hi
 exact⟨i,rfl,List.mem_range.1 h1,h2⟩
theorem ranksM {X:Ids} {H:AH} {v:Value} {m u:Int} {xs:List Int} (h:KI.Ml X H v xs):M_Ranks.R X H (m,u,xs) [.int .i64 m,.int .i64 u,v]:=
 mpR (X:=None_) (cs:=[.int .i64 m]) (show KI.R None_ H m _ from rfl) (mpR (X:=None_) (cs:=[.int .i64 u]) (show KI.R None_ H u _ from rfl) (ml1' h) (fun _ p=>p.elim) (fun _ p=>p) (fun _ p _=>p.elim)) (fun _ p=>p.elim) (fun _ p=>p) (fun _ p _=>p.elim)
def MkRC (r:T_Ranks) (code:Int) (n:Nat) (v:Value) (H1:AH):Prop:=∃cs:List Value,v=.tuple #[.agg cs.toArray,.int .i64 code]∧M_Ranks.R (New n H1.n) H1 r cs
theorem MkRC.nil {code:Int} {n:Nat} {v:Value} {H1:AH} (hv:v=.tuple #[.agg #[.int .i64 0,.int .i64 0,.slice none 0 0],.int .i64 code]):MkRC (0,0,[]) code n v H1:=⟨_,hv,ranksM (.inl ⟨rfl,_,_,rfl,fun _=>rfl⟩)⟩
theorem built_Ranks0:Try.prog.built 91 []=some #[.int .i64 0,.int .i64 0,.slice none 0 0]:=by kernel_rfl
section
variable {S:Ids} {H0:AH}
end
end Go.Proofs.Ytlapbbffoapleaa.Am
namespace Go.Proofs.Ytlapbbffoapleaa.Am
open Go Go.RowKit Go.Proofs Go.Proofs.Ytlapbbffoapleaa.Pl
def bub (L:List (List Int)):Nat→List (List Int)
 | 0=>L
 | k+1=>if lexB (L.getD (k+1) []) (L.getD k [])=true then bub (sw L (k+1) k) k else L
def isF (L:List (List Int)):Nat→List (List Int)
 | 0=>L
 | n+1=>bub (isF L n) (n+1)
theorem sw_len {L:List (List Int)} {n a:Nat}:(sw L n a).length=L.length:=by simp[sw]
theorem bub_len:∀(k:Nat) {L:List (List Int)},(bub L k).length=L.length
 | 0,_=>rfl
 | k+1,L=>by
  unfold bub
  split
  ·rw[bub_len k,sw_len]
  ·rfl
theorem isF_len {L:List (List Int)}:∀n,(isF L n).length=L.length
 | 0=>rfl
 | n+1=>by unfold isF;rw[bub_len,isF_len n]
theorem sw_mem {L:List (List Int)} {n a:Nat} (hn:n<L.length) (ha:a<L.length) {x:List Int} (h:x∈sw L n a):x∈L:=by
 obtain⟨i,hi⟩:=List.getElem?_of_mem h
 unfold sw at hi
 rw[List.getElem?_set] at hi
 split at hi
 ·split at hi
  ·cases hi
   rw[List.getD_eq_getElem?_getD,List.getElem?_eq_getElem hn]
   exact List.getElem_mem _
  ·cases hi
 ·rw[List.getElem?_set] at hi
  split at hi
  ·cases hi
   rw[List.getD_eq_getElem?_getD,List.getElem?_eq_getElem ha]
   exact List.getElem_mem _
  ·exact List.mem_of_getElem? hi
theorem bub_mem:∀(k:Nat) {L:List (List Int)},k<L.length→∀x∈bub L k,x∈L
 | 0,_,_,x,h=>h
 | k+1,L,hk,x,h=>by
  unfold bub at h
  split at h
  ·exact sw_mem hk (by omega) (bub_mem k (by rw[sw_len];omega) x h)
  ·exact h
theorem isF_mem {L:List (List Int)}:∀n,n<L.length∨n=0→∀x∈isF L n,x∈L
 | 0,_,x,h=>h
 | n+1,hn,x,h=>isF_mem n (by omega) x (bub_mem (n+1) (by rw[isF_len];omega) x h)
def isA (L:List (List Int)):List (List Int):=isF L (L.length-1)
theorem isA_len {L:List (List Int)}:(isA L).length=L.length:=isF_len _
theorem isA_mem {L:List (List Int)}:∀x∈isA L,x∈L:=isF_mem _ (by omega)
theorem dif_le {a b:Nat}:dif a b≤a:=by
 have h:a &&& dif a b=dif a b:=Nat.eq_of_testBit_eq fun i=>by rw[Nat.testBit_and,dif_bit];cases a.testBit i<;>simp
 rw[← h]
 exact Nat.and_le_left
def Mn (q:Nat) (op:Nat→Prop) (c:Nat):Prop:=op c∧∀h,h<q→c.testBit h=true→¬op (dif c (2 ^ h))
noncomputable def minsU (q:Nat) (op:Nat→Prop) (n:Nat):List (List Int):=((List.range n).filter fun c=>tv (Mn q op c)).map fun c=>hold c q
theorem minsU_next {q:Nat} {op:Nat→Prop} {n:Nat}:minsU q op (n+1)=if tv (Mn q op n)=true then minsU q op n++[hold n q] else minsU q op n:=by
 unfold minsU
 rw[List.range_succ,List.filter_append,List.map_append]
 cases h:tv (Mn q op n)<;>simp[h]
theorem minsU_len {q:Nat} {op:Nat→Prop} {n:Nat}:(minsU q op n).length≤n:=by
 unfold minsU
 rw[List.length_map]
 exact Nat.le_trans (List.length_filter_le _ _) (by simp)
theorem minsU_mem {q:Nat} {op:Nat→Prop} {n:Nat} {x:List Int} (h:x∈minsU q op n):x.length≤q:=by
 obtain⟨c,_,rfl⟩:=List.mem_map.1 h
 exact hold_len c q
theorem minsU_congr {q:Nat} {op op':Nat→Prop} {n:Nat} (hn:n≤2 ^ q) (h:∀c,c<2 ^ q→(op c↔op' c)):minsU q op n=minsU q op' n:=by
 unfold minsU
 congr 1
 refine List.filter_congr fun c hc=>?_
 have hc:=List.mem_range.1 hc
 have hd:∀h,dif c (2 ^ h)<2 ^ q:=fun h=>by
  have:dif c (2 ^ h)≤c:=dif_le
  omega
 exact tv_congr ⟨fun p=>⟨(h c (by omega)).1 p.1,fun i hi hb hx=>p.2 i hi hb ((h _ (hd i)).2 hx)⟩,fun p=>⟨(h c (by omega)).2 p.1,fun i hi hb hx=>p.2 i hi hb ((h _ (hd i)).1 hx)⟩⟩
def UpC (N:Nat) (op:Nat→Prop):Prop:=∀a b,a<N→b<N→a &&& b=a→op a→op b
theorem mn_anti {q:Nat} {op:Nat→Prop} (hu:UpC (2 ^ q) op) {a b:Nat} (ha:a<2 ^ q) (hb:b<2 ^ q) (hne:a≠b) (hs:a &&& b=a) (h1:Mn q op a) (h2:Mn q op b):False:=by
 obtain⟨h,hh⟩:∃h,b.testBit h=true∧a.testBit h=false:=Classical.byContradiction fun hc=>hne (Nat.eq_of_testBit_eq fun i=>by
  have e:(a &&& b).testBit i=a.testBit i:=by rw[hs]
  rw[Nat.testBit_and] at e
  cases ea:a.testBit i<;>cases eb:b.testBit i
  ·rfl
  ·exact(hc ⟨i,eb,ea⟩).elim
  ·rw[ea,eb] at e;cases e
  ·rfl)
 have hq:h<q:=by
  rcases Nat.lt_or_ge h q with h1 | h1
  ·exact h1
  ·rw[Nat.testBit_lt_two_pow (Nat.lt_of_lt_of_le hb (Nat.pow_le_pow_right (by decide) h1))] at hh;cases hh.1
 have hd:dif b (2 ^ h)≤b:=dif_le
 refine h2.2 h hq hh.1 (hu a _ ha (by omega) (Nat.eq_of_testBit_eq fun i=>?_) h1.1)
 have e:(a &&& b).testBit i=a.testBit i:=by rw[hs]
 rw[Nat.testBit_and] at e ⊢
 rw[dif_bit,Nat.testBit_two_pow]
 by_cases ei:h=i
 ·subst ei;rw[hh.2];rfl
 ·simp[ei]
  simpa using e
def b01 (p:Nat→Bool) (c:Nat):Nat:=if p c=true then 1 else 0
theorem len_cons (p:Nat→Bool) (x:Nat) (l:List Nat):((x :: l).filter p).length=b01 p x+(l.filter p).length:=by
 unfold b01
 rw[List.filter_cons]
 split<;>simp<;>omega
def sumB (p:Nat→Bool):List Nat→Nat
 | []=>0
 | x :: l=>b01 p x+sumB p l
theorem chain_one {p:Nat→Bool} (hp:∀a b,a<32→b<32→a≠b→a &&& b=a→p a=true→p b=true→False):∀l:List Nat,(∀x∈l,x<32)→l.Pairwise (fun a b=>a≠b∧a &&& b=a)→sumB p l≤1
 | [],_,_=>Nat.zero_le _
 | x :: l,hl,h=>by
  have ih:=chain_one hp l (fun y hy=>hl y (List.mem_cons_of_mem _ hy)) (List.pairwise_cons.1 h).2
  unfold sumB
  by_cases hx:p x=true
  ·have z:∀l':List Nat,(∀y∈l',y∈l)→sumB p l'=0:=fun l'=>by
    induction l' with
    | nil=>intro _;rfl
    | cons y l' ih'=>
     intro hs
     have hy:=hs y (List.mem_cons_self ..)
     have h3:=(List.pairwise_cons.1 h).1 y hy
     have h4:p y=false:=by
      cases e:p y
      ·rfl
      ·exact(hp x y (hl x (List.mem_cons_self ..)) (hl y (List.mem_cons_of_mem _ hy)) h3.1 h3.2 hx e).elim
     unfold sumB b01
     rw[if_neg (by simp[h4]),ih' (fun w hw=>hs w (List.mem_cons_of_mem _ hw))]
   rw[z l (fun y hy=>hy)]
   unfold b01;split<;>omega
  ·unfold b01;rw[if_neg hx];omega
theorem sperner {p:Nat→Bool} (hp:∀a b,a<32→b<32→a≠b→a &&& b=a→p a=true→p b=true→False):((List.range 32).filter p).length≤10:=by
 have c1:=chain_one hp [0,1,3,7,15,31] (by decide) (of_decide_eq_true (by kernel_rfl))
 have c2:=chain_one hp [2,6,14,30] (by decide) (of_decide_eq_true (by kernel_rfl))
 have c3:=chain_one hp [4,5,13,29] (by decide) (of_decide_eq_true (by kernel_rfl))
 have c4:=chain_one hp [8,9,11,27] (by decide) (of_decide_eq_true (by kernel_rfl))
 have c5:=chain_one hp [10,26] (by decide) (of_decide_eq_true (by kernel_rfl))
 have c6:=chain_one hp [12,28] (by decide) (of_decide_eq_true (by kernel_rfl))
 have c7:=chain_one hp [16,17,19,23] (by decide) (of_decide_eq_true (by kernel_rfl))
 have c8:=chain_one hp [18,22] (by decide) (of_decide_eq_true (by kernel_rfl))
 have c9:=chain_one hp [20,21] (by decide) (of_decide_eq_true (by kernel_rfl))
 have c10:=chain_one hp [24,25] (by decide) (of_decide_eq_true (by kernel_rfl))
 have e:List.range 32=[0,1,2,3,4,5,6,7,8,9,10,11,12,13,14,15,16,17,18,19,20,21,22,23,24,25,26,27,28,29,30,31]:=by rfl
 rw[e]
 simp only[len_cons,List.filter_nil,List.length_nil]
 simp only[sumB] at c1 c2 c3 c4 c5 c6 c7 c8 c9 c10
 clear hp e
 have h:=Nat.add_le_add c1 (Nat.add_le_add c2 (Nat.add_le_add c3 (Nat.add_le_add c4 (Nat.add_le_add c5 (Nat.add_le_add c6 (Nat.add_le_add c7 (Nat.add_le_add c8 (Nat.add_le_add c9 c10))))))))
 refine Nat.le_trans (Nat.le_of_eq ?_) h
 simp only[Nat.add_zero]
 ac_rfl
theorem mins_ten {q:Nat} (hq:q≤5) {op:Nat→Prop} (hu:UpC (2 ^ q) op):(minsU q op (2 ^ q)).length≤10:=by
 have hp:2 ^ q≤32:=by
  have:=Nat.pow_le_pow_right (n:=2) (by decide) hq
  simpa using this
 have h:=sperner (p:=fun c=>decide (c<2 ^ q)&&tv (Mn q op c)) (fun a b _ _ hne hs h1 h2=>by
  simp only[Bool.and_eq_true,decide_eq_true_eq] at h1 h2
  exact mn_anti hu h1.1 h2.1 hne hs (tv_iff.1 h1.2) (tv_iff.1 h2.2))
 have e:List.range 32=List.range (2 ^ q)++(List.range (32-2 ^ q)).map (2 ^ q+·):=by rw[← List.range_add];congr 1;omega
 rw[e,List.filter_append,List.length_append] at h
 unfold minsU
 rw[List.length_map]
 have e2:(List.range (2 ^ q)).filter (fun c=>decide (c<2 ^ q)&&tv (Mn q op c))=(List.range (2 ^ q)).filter (fun c=>tv (Mn q op c)):=List.filter_congr fun c hc=>by simp[List.mem_range.1 hc]
 rw[e2] at h
 omega
end Go.Proofs.Ytlapbbffoapleaa.Am
namespace Go.Proofs.Ytlapbbffoapleaa.Am
open Go Go.RowKit
theorem KW.freeze {P:Program} {S:Ids} {H0:AH} {Q:PostC} {k:List It} {e:Env} {T:List Var} {n:Nat} (j:Nat) {o:Nat} {b:Blk} (hj:T[j]?=some (o,b))
  (hk:∀(A':AH) (S':Ids),A'.n=n→(∀id,S' id↔S id∨id=o)→Stp S H0 S' A'→A'.m o=some b→o<n→¬S o→(∀id,S id→id<n)→KW P S' A' Q n (T.take j) k e):KW P S H0 Q n T k e:=fun H g=>by
 have hv:=g.vars j _ hj
 have get:∀{i:Nat} {u:Var},(T.take j)[i]?=some u→i<j∧T[i]?=some u:=fun {i u} hi=>by
  rw[List.getElem?_take] at hi
  split at hi
  ·exact⟨by assumption,hi⟩
  ·cases hi
 refine hk H (fun id=>S id∨id=o) g.n_ (fun id=>Iff.rfl) ⟨fun id hid=>⟨.inl hid,(g.froz id hid).2⟩⟩ hv.1 hv.2.1 hv.2.2 (fun id hid=>(g.froz id hid).1) H ?_
 refine⟨g.n_,g.fin,fun id hid=>⟨?_,rfl⟩,fun i u hi=>?_,fun i1 i2 u w h1 h2 he=>g.dist i1 i2 u w (get h1).2 (get h2).2 he⟩
 ·rcases hid with hid | rfl
  ·exact(g.froz id hid).1
  ·exact hv.2.1
 ·obtain⟨h1,h2⟩:=get hi
  have h3:=g.vars i u h2
  refine⟨h3.1,h3.2.1,fun h=>?_⟩
  rcases h with h | h
  ·exact h3.2.2 h
  ·have:=g.dist i j u _ h2 hj h;omega
theorem row_ml {A:AH} {o:Nat} {ty:TypeId} {xs:List Int} (h:A.m o=some ⟨ty,true,xs.map (Value.int .i64)⟩):KI.Ml (fun id=>id=o) A (.slice (some ⟨o,0,some 1⟩) xs.length xs.length) xs:=int_ml rfl h U U (Nat.le_refl _)
end Go.Proofs.Ytlapbbffoapleaa.Am
namespace Go.Proofs.Ytlapbbffoapleaa.Am
open Go Go.RowKit Go.Proofs Go.Proofs.Ytlapbbffoapleaa.Pl
theorem sl_form {S:Ids} {A:AH} {v:Value} {x:List Int} (h:KI.Sl S A v x):∃a c,v=.slice a x.length c:=by
 rcases h with⟨rfl,a,c,e,_⟩ | ⟨id,k,c,b,e,_⟩
 ·exact⟨a,c,e⟩
 ·exact⟨_,c,e⟩
theorem RowsB.at_ {S V:Ids} {A:AH} {rows:List (List Int)} {cs:List Value} (h:RowsB KI.ml S A V rows cs) {j:Nat} {x:List Int} (hx:rows[j]?=some x):∃a c,cs[j]?=some (.slice a x.length c)∧KI.Sl S A (.slice a x.length c) x:=by
 obtain⟨v,W,h1,h2,h3,_⟩:=h.row1 hx
 obtain⟨a,c,rfl⟩:=sl_form h2.sl
 exact⟨a,c,h1,h2.sl.stX (fun i hi=>⟨h.sub i (h3 i hi),rfl⟩)⟩
theorem at_of {L:List (List Int)} {k:Nat} (h:k<L.length):∃x,L[k]?=some x∧L.getD k []=x:=⟨L[k],List.getElem?_eq_getElem h,by rw[List.getD_eq_getElem?_getD,List.getElem?_eq_getElem h];rfl⟩
theorem RowsB.back {S V Y:Ids} {A A1 A2:AH} {rows rows0:List (List Int)} {cs cs0:List Value} (h:RowsB KI.ml S A V rows cs) (h0:RowsB KI.ml Y A2 V rows0 cs0) (t:∀i,V i→A1.m i=A.m i):RowsB KI.ml Y A1 V rows cs:=by
 obtain⟨W,h1,h2,h3⟩:=h.rows
 refine⟨h.len,h0.sub,W,h1,h2,fun j x hx=>?_⟩
 obtain⟨v,h4,h5⟩:=h3 j x hx
 exact⟨v,h4,KI.ml.same (fun id hid=>t id (h1 j id hid)) h5⟩
structure IsS where
 k:Nat
 L:List (List Int)
 cs:List Value
section
variable {S:Ids} {H0:AH}
theorem insSort {o c:Nat} {ty:TypeId} {rows:List (List Int)} {cs:List Value} {V Y:Ids} (hl:rows.length≤100000) (hx:∀x∈rows,x.length≤1048576) (hS:S o) (hm:H0.m o=some ⟨ty,true,cs⟩) (hY:∀i,Y i→S i∧i≠o) (hB:RowsB KI.ml Y H0 V rows cs):
  SpecW Try.prog S H0 (fun i=>i=o) 256 [.slice (some ⟨o,0,some 1⟩) rows.length c,.int .i64 0,.int .i64 rows.length,.func (.func 225) #[] #[]] (fun n v H1=>∃cs',H1.m o=some ⟨ty,true,cs'⟩∧RowsB KI.ml Y H1 V (isA rows) cs'):=by
 refine SpecW.of Try.func256 rfl (by kernel_rfl) rfl hS hm (fun H hfin hfz=>?_)
 haveI:On Y H0 (fun i=>Low H.n i∧i≠o) H:=⟨fun i hi=>⟨⟨(hfz i (hY i hi).1).1,(hY i hi).2⟩,(hfz i (hY i hi).1).2⟩⟩
 have hB0:=hB
 have hB:=hB.up (S':=fun i=>Low H.n i∧i≠o) (A':=H)
 refine KW.lpM U U (fun s:IsS=>[(0,.slice (some ⟨o,0,some 1⟩) rows.length c),(1,.int .i64 0),(2,.int .i64 rows.length),(3,.func (.func 225) #[] #[]),(8,.int .i64 (s.k+1:Nat))]) (fun s=>fun i=>Low H.n i∧i≠o) (fun s=>H) (fun s=>[(o,⟨ty,true,s.cs⟩)]) (fun s=>(s.k=0∨s.k<rows.length)∧s.L=isF rows s.k∧RowsB KI.ml (fun i=>Low H.n i∧i≠o) H V s.L s.cs) (fun s=>rows.length-s.k) (⟨0,rows,cs⟩) (⟨.inl rfl,rfl,hB⟩) ⟨rfl,rfl,rfl,rfl,rfl,trivial⟩ U U (rfl) (fun s hi bE n=>?_)
 obtain⟨m,L,cs1⟩:=s
 obtain⟨h1,h2,h3⟩:=hi
 simp only at h1 h2 h3
 have hLl:L.length=rows.length:=by rw[h2,isF_len]
 refine KW.cnd U U (fun k1=>?_) (fun k1=>?_)
 ·have k1:((m+1:Nat):Int)<(rows.length:Int):=k1
  refine KW.lpM U U (fun s:IsS=>[(0,.slice (some ⟨o,0,some 1⟩) rows.length c),(1,.int .i64 0),(2,.int .i64 rows.length),(3,.func (.func 225) #[] #[]),(8,.int .i64 (m+1:Nat)),(9,.int .i64 s.k)]) (fun s=>fun i=>Low H.n i∧i≠o) (fun s=>H) (fun s=>[(o,⟨ty,true,s.cs⟩)]) (fun s=>s.k≤m+1∧bub s.L s.k=isF rows (m+1)∧s.L.length=rows.length∧(∀x∈s.L,x∈rows)∧RowsB KI.ml (fun i=>Low H.n i∧i≠o) H V s.L s.cs) (fun s=>s.k) (⟨m+1,L,cs1⟩) (⟨Nat.le_refl _,by simp only[h2];rfl,hLl,by rw[h2];exact isF_mem m (by omega),h3⟩) ⟨rfl,rfl,rfl,rfl,rfl,rfl,trivial⟩ U U (rfl) (fun s hi bE n=>?_)
  obtain⟨k,L2,cs2⟩:=s
  obtain⟨g1,g2,g3,g4,g5⟩:=hi
  simp only at g1 g2 g3 g4 g5
  have hcl:=g5.len
  refine KW.tst U U (fun k2=>?_) (fun k2=>?_)
  ·have k2:(k:Int)>0:=k2
   obtain⟨k',rfl⟩:∃k',k=k'+1:=⟨k-1,by omega⟩
   obtain⟨x,hx1,hx2⟩:=at_of (L:=L2) (k:=k'+1) (by omega)
   obtain⟨y,hy1,hy2⟩:=at_of (L:=L2) (k:=k') (by omega)
   obtain⟨ax,cx,hcx,hsx⟩:=g5.at_ hx1
   obtain⟨ay,cy,hcy,hsy⟩:=g5.at_ hy1
   have ek:IntKind.i64.wrap (((k'+1:Nat):Int)-1)=(k':Int):=by rw[wr (by omega) (by omega)];omega
   have eu:bub L2 (k'+1)=if lexB x y=true then bub (sw L2 (k'+1) k') k' else L2:=by rw[← hx2,← hy2];rfl
   refine KW.idx0 U U U U U U U U U (Int.natCast_nonneg _) ((by omega:((k'+1:Nat):Int)<(rows.length:Int))) ?_
   refine KW.ldT 0 U U U U U U (bload_at (by rw[Nat.zero_add,Nat.mul_one];exact hcx) U U) ?_
   refine KW.idx0 U U U U U U U U U (by rw[ek];exact Int.natCast_nonneg _) (by rw[ek];omega) ?_
   refine KW.ldT 0 U U U U U U (bload_at (by rw[ek,Int.toNat_natCast,Nat.zero_add,Nat.mul_one];exact hcy) U U) ?_
   refine KW.call U U U U U (slicesCompare (hx x (g4 x (List.mem_of_getElem? hx1))) hsx hsy) (fun v _ _ hv=>?_)
   obtain⟨r,rfl,hr⟩:=hv
   refine KW.cnd U U (fun k3=>?_) (fun k3=>?_)
   ·have k3:r<0:=k3
    have hlt:lexB x y=true:=by
     cases e:lexB x y
     ·have:=hr.2 e;omega
     ·rfl
    rw[if_pos hlt] at eu
    refine KW.idx0 U U U U U U U U U (by rw[ek];exact Int.natCast_nonneg _) (by rw[ek];omega) ?_
    refine KW.ldT 0 U U U U U U (bload_at (by rw[ek,Int.toNat_natCast,Nat.zero_add,Nat.mul_one];exact hcy) U U) ?_
    refine KW.idx0 U U U U U U U U U (Int.natCast_nonneg _) ((by omega:((k'+1:Nat):Int)<(rows.length:Int))) ?_
    refine KW.ldT 0 U U U U U U (bload_at (by rw[Nat.zero_add,Nat.mul_one];exact hcx) U U) ?_
    refine KW.idx0 U U U U U U U U U (Int.natCast_nonneg _) ((by omega:((k'+1:Nat):Int)<(rows.length:Int))) ?_
    refine KW.st1 0 U U U U U U U U U U U U (by show 0+(((k'+1:Nat):Int)).toNat*1<cs2.length;rw[Int.toNat_natCast];omega) ?_
    refine KW.idx0 U U U U U U U U U (by rw[ek];exact Int.natCast_nonneg _) (by rw[ek];omega) ?_
    refine KW.st1 0 U U U U U U U U U U U U (by rw[ek];show 0+((k':Int)).toNat*1<(cs2.set _ _).length;rw[Int.toNat_natCast,List.length_set];omega) ?_
    have fI:=g5.swap (n:=k'+1) (a:=k') (by omega) (by omega) hcx hcy
    refine KW.nxt U U (fun H' g=>⟨⟨k',sw L2 (k'+1) k',(cs2.set (k'+1) (.slice ay y.length cy)).set k' (.slice ax x.length cx)⟩,⟨by simp only;omega,by simp only;rw[← eu];exact g2,by simp only;rw[sw_len];exact g3,fun z hz=>g4 z (sw_mem (by omega) (by omega) hz),fI⟩,by first | omega | (simp only;omega),⟨rfl,rfl,rfl,rfl,rfl,congrArg (Value.int .i64) ek,trivial⟩,(g.eqT (by show [(o,(⟨ty,true,(cs2.set (0+(((k'+1:Nat):Int)).toNat*1) (.slice ay y.length cy)).set (0+(IntKind.i64.wrap (((k'+1:Nat):Int)-1)).toNat*1) (.slice ax x.length cx)⟩:Blk))]=_;simp only[ek,Int.toNat_natCast,Nat.zero_add,Nat.mul_one]))⟩)
   ·have k3:¬r<0:=k3
    have hlt:lexB x y=false:=hr.1 (by omega)
    rw[if_neg (by rw[hlt];decide)] at eu
    rw[eu] at g2
    refine KW.nxt U U (fun H' g=>⟨⟨m+1,L2,cs2⟩,⟨.inr (by simp only;omega),g2,g5⟩,by first | omega | (simp only;omega),⟨rfl,rfl,rfl,rfl,congrArg (Value.int .i64) (inc64 (by omega)),trivial⟩,g⟩)
  ·have k2:¬(k:Int)>0:=k2
   obtain rfl:k=0:=by omega
   refine KW.cF U U (by first | (simp;done) | decide) ?_
   refine KW.nxt U U (fun H' g=>⟨⟨m+1,L2,cs2⟩,⟨.inr (by simp only;omega),g2,g5⟩,by first | omega | (simp only;omega),⟨rfl,rfl,rfl,rfl,congrArg (Value.int .i64) (inc64 (by omega)),trivial⟩,g⟩)
 ·have k1:¬((m+1:Nat):Int)<(rows.length:Int):=k1
  have em:isF rows m=isA rows:=by unfold isA;congr 1;omega
  refine KW.endW U U U U (fun H1 g=>g.nle1 (j:=0) rfl) (fun i hi hw=>⟨⟨hi,hw⟩,rfl⟩) (fun H1 g=>⟨cs1,(g.blk (j:=0) rfl).1,?_⟩)
  rw[← em,← h2]
  exact h3.back hB0 (fun i hi=>by
   have h4:=(inferInstance:On Y H0 (fun i=>Low H.n i∧i≠o) H).st i (hB0.sub i hi)
   exact(g.froz i h4.1).2)
end
section
variable {S:Ids} {H0:AH}
theorem l01Sorted {o c:Nat} {ty:TypeId} {rows:List (List Int)} {cs:List Value} {V Y:Ids} (hl:rows.length≤100000) (hx:∀x∈rows,x.length≤1048576) (hS:S o) (hm:H0.m o=some ⟨ty,true,cs⟩) (hY:∀i,Y i→S i∧i≠o) (hB:RowsB KI.ml Y H0 V rows cs):
  SpecW Try.prog S H0 (fun i=>i=o) 233 [.slice (some ⟨o,0,some 1⟩) rows.length c] (fun n v H1=>v=.slice (some ⟨o,0,some 1⟩) rows.length c∧∃cs',H1.m o=some ⟨ty,true,cs'⟩∧RowsB KI.ml Y H1 V (isA rows) cs'):=by
 refine SpecW.of Try.func233 rfl (by kernel_rfl) rfl hS hm (fun H hfin hfz=>?_)
 haveI:On Y H0 (fun i=>Low H.n i∧i≠o) H:=⟨fun i hi=>⟨⟨(hfz i (hY i hi).1).1,(hY i hi).2⟩,(hfz i (hY i hi).1).2⟩⟩
 have hB0:=hB
 have hB:=hB.up (S':=fun i=>Low H.n i∧i≠o) (A':=H)
 refine KW.lpM U U (fun s:IsS=>[(0,.slice (some ⟨o,0,some 1⟩) rows.length c),(3,.int .i64 (s.k+1:Nat))]) (fun s=>fun i=>Low H.n i∧i≠o) (fun s=>H) (fun s=>[(o,⟨ty,true,s.cs⟩)]) (fun s=>(s.k=0∨s.k<rows.length)∧s.L=isF rows s.k∧RowsB KI.ml (fun i=>Low H.n i∧i≠o) H V s.L s.cs) (fun s=>rows.length-s.k) (⟨0,rows,cs⟩) (⟨.inl rfl,rfl,hB⟩) ⟨rfl,rfl,trivial⟩ U U (rfl) (fun s hi bE n=>?_)
 obtain⟨m,L,cs1⟩:=s
 obtain⟨h1,h2,h3⟩:=hi
 simp only at h1 h2 h3
 have hLl:L.length=rows.length:=by rw[h2,isF_len]
 refine KW.cnd U U (fun k1=>?_) (fun k1=>?_)
 ·have k1:((m+1:Nat):Int)<(rows.length:Int):=k1
  refine KW.lpM U U (fun s:IsS=>[(0,.slice (some ⟨o,0,some 1⟩) rows.length c),(3,.int .i64 (m+1:Nat)),(4,.int .i64 s.k)]) (fun s=>fun i=>Low H.n i∧i≠o) (fun s=>H) (fun s=>[(o,⟨ty,true,s.cs⟩)]) (fun s=>s.k≤m+1∧bub s.L s.k=isF rows (m+1)∧s.L.length=rows.length∧(∀x∈s.L,x∈rows)∧RowsB KI.ml (fun i=>Low H.n i∧i≠o) H V s.L s.cs) (fun s=>s.k) (⟨m+1,L,cs1⟩) (⟨Nat.le_refl _,by simp only[h2];rfl,hLl,by rw[h2];exact isF_mem m (by omega),h3⟩) ⟨rfl,rfl,rfl,trivial⟩ U U (rfl) (fun s hi bE n=>?_)
  obtain⟨k,L2,cs2⟩:=s
  obtain⟨g1,g2,g3,g4,g5⟩:=hi
  simp only at g1 g2 g3 g4 g5
  have hcl:=g5.len
  refine KW.tst U U (fun k2=>?_) (fun k2=>?_)
  ·have k2:(k:Int)>0:=k2
   obtain⟨k',rfl⟩:∃k',k=k'+1:=⟨k-1,by omega⟩
   obtain⟨x,hx1,hx2⟩:=at_of (L:=L2) (k:=k'+1) (by omega)
   obtain⟨y,hy1,hy2⟩:=at_of (L:=L2) (k:=k') (by omega)
   obtain⟨ax,cx,hcx,hsx⟩:=g5.at_ hx1
   obtain⟨ay,cy,hcy,hsy⟩:=g5.at_ hy1
   have ek:IntKind.i64.wrap (((k'+1:Nat):Int)-1)=(k':Int):=by rw[wr (by omega) (by omega)];omega
   have eu:bub L2 (k'+1)=if lexB x y=true then bub (sw L2 (k'+1) k') k' else L2:=by rw[← hx2,← hy2];rfl
   refine KW.idx0 U U U U U U U U U (Int.natCast_nonneg _) ((by omega:((k'+1:Nat):Int)<(rows.length:Int))) ?_
   refine KW.ldT 0 U U U U U U (bload_at (by rw[Nat.zero_add,Nat.mul_one];exact hcx) U U) ?_
   refine KW.idx0 U U U U U U U U U (by rw[ek];exact Int.natCast_nonneg _) (by rw[ek];omega) ?_
   refine KW.ldT 0 U U U U U U (bload_at (by rw[ek,Int.toNat_natCast,Nat.zero_add,Nat.mul_one];exact hcy) U U) ?_
   refine KW.callE U U U U U (l01Before (hx x (g4 x (List.mem_of_getElem? hx1))) hsx hsy) (fun _ _=>?_)
   refine KW.cndB U U (fun k3=>?_) (fun k3=>?_)
   ·have hlt:lexB x y=true:=k3
    rw[if_pos hlt] at eu
    refine KW.idx0 U U U U U U U U U (Int.natCast_nonneg _) ((by omega:((k'+1:Nat):Int)<(rows.length:Int))) ?_
    refine KW.ldT 0 U U U U U U (bload_at (by rw[Nat.zero_add,Nat.mul_one];exact hcx) U U) ?_
    refine KW.idx0 U U U U U U U U U (by rw[ek];exact Int.natCast_nonneg _) (by rw[ek];omega) ?_
    refine KW.ldT 0 U U U U U U (bload_at (by rw[ek,Int.toNat_natCast,Nat.zero_add,Nat.mul_one];exact hcy) U U) ?_
    refine KW.idx0 U U U U U U U U U (Int.natCast_nonneg _) ((by omega:((k'+1:Nat):Int)<(rows.length:Int))) ?_
    refine KW.st1 0 U U U U U U U U U U U U (by show 0+(((k'+1:Nat):Int)).toNat*1<cs2.length;rw[Int.toNat_natCast];omega) ?_
    refine KW.idx0 U U U U U U U U U (by rw[ek];exact Int.natCast_nonneg _) (by rw[ek];omega) ?_
    refine KW.st1 0 U U U U U U U U U U U U (by rw[ek];show 0+((k':Int)).toNat*1<(cs2.set _ _).length;rw[Int.toNat_natCast,List.length_set];omega) ?_
    have fI:=g5.swap (n:=k'+1) (a:=k') (by omega) (by omega) hcx hcy
    refine KW.nxt U U (fun H' g=>⟨⟨k',sw L2 (k'+1) k',(cs2.set (k'+1) (.slice ay y.length cy)).set k' (.slice ax x.length cx)⟩,⟨by simp only;omega,by simp only;rw[← eu];exact g2,by simp only;rw[sw_len];exact g3,fun z hz=>g4 z (sw_mem (by omega) (by omega) hz),fI⟩,by first | omega | (simp only;omega),⟨rfl,rfl,congrArg (Value.int .i64) ek,trivial⟩,(g.eqT (by show [(o,(⟨ty,true,(cs2.set (0+(((k'+1:Nat):Int)).toNat*1) (.slice ay y.length cy)).set (0+(IntKind.i64.wrap (((k'+1:Nat):Int)-1)).toNat*1) (.slice ax x.length cx)⟩:Blk))]=_;simp only[ek,Int.toNat_natCast,Nat.zero_add,Nat.mul_one]))⟩)
   ·have hlt:lexB x y=false:=by simpa using k3
    rw[if_neg (by rw[hlt];decide)] at eu
    rw[eu] at g2
    refine KW.nxt U U (fun H' g=>⟨⟨m+1,L2,cs2⟩,⟨.inr (by simp only;omega),g2,g5⟩,by first | omega | (simp only;omega),⟨rfl,congrArg (Value.int .i64) (inc64 (by omega)),trivial⟩,g⟩)
  ·have k2:¬(k:Int)>0:=k2
   obtain rfl:k=0:=by omega
   refine KW.cF U U (by first | (simp;done) | decide) ?_
   refine KW.nxt U U (fun H' g=>⟨⟨m+1,L2,cs2⟩,⟨.inr (by simp only;omega),g2,g5⟩,by first | omega | (simp only;omega),⟨rfl,congrArg (Value.int .i64) (inc64 (by omega)),trivial⟩,g⟩)
 ·have k1:¬((m+1:Nat):Int)<(rows.length:Int):=k1
  have em:isF rows m=isA rows:=by unfold isA;congr 1;omega
  refine KW.retW U U U U (fun H1 g=>g.nle1 (j:=0) rfl) (fun i hi hw=>⟨⟨hi,hw⟩,rfl⟩) (fun H1 g=>⟨rfl,cs1,(g.blk (j:=0) rfl).1,?_⟩)
  rw[← em,← h2]
  exact h3.back hB0 (fun i hi=>by
   have h4:=(inferInstance:On Y H0 (fun i=>Low H.n i∧i≠o) H).st i (hB0.sub i hi)
   exact(g.froz i h4.1).2)
theorem bitsLen64 {x:Nat} (hx:x≤12):Spec Try.prog S H0 265 [.int .u64 x] (fun v=>∃z:Int,v=.int .i64 z):=by
 have h:x=0∨x=1∨x=2∨x=3∨x=4∨x=5∨x=6∨x=7∨x=8∨x=9∨x=10∨x=11∨x=12:=by omega
 rcases h with rfl | rfl | rfl | rfl | rfl | rfl | rfl | rfl | rfl | rfl | rfl | rfl | rfl
 ·skip
  refine Spec.of1 Try.func265 rfl (by kernel_rfl) rfl (fun H _=>?_)
  refine KW.cF U U (by first | (simp;done) | decide) ?_
  refine KW.cF U U (by first | (simp;done) | decide) ?_
  refine KW.cF U U (by first | (simp;done) | decide) ?_
  refine KW.pure U U U U U (.int .u8 0) (by kernel_rfl) ?_
  refine KW.ret U U U U ?_
  exact⟨_,rfl⟩
 ·skip
  refine Spec.of1 Try.func265 rfl (by kernel_rfl) rfl (fun H _=>?_)
  refine KW.cF U U (by first | (simp;done) | decide) ?_
  refine KW.cF U U (by first | (simp;done) | decide) ?_
  refine KW.cF U U (by first | (simp;done) | decide) ?_
  refine KW.pure U U U U U (.int .u8 1) (by kernel_rfl) ?_
  refine KW.ret U U U U ?_
  exact⟨_,rfl⟩
 ·skip
  refine Spec.of1 Try.func265 rfl (by kernel_rfl) rfl (fun H _=>?_)
  refine KW.cF U U (by first | (simp;done) | decide) ?_
  refine KW.cF U U (by first | (simp;done) | decide) ?_
  refine KW.cF U U (by first | (simp;done) | decide) ?_
  refine KW.pure U U U U U (.int .u8 2) (by kernel_rfl) ?_
  refine KW.ret U U U U ?_
  exact⟨_,rfl⟩
 ·skip
  refine Spec.of1 Try.func265 rfl (by kernel_rfl) rfl (fun H _=>?_)
  refine KW.cF U U (by first | (simp;done) | decide) ?_
  refine KW.cF U U (by first | (simp;done) | decide) ?_
  refine KW.cF U U (by first | (simp;done) | decide) ?_
  refine KW.pure U U U U U (.int .u8 2) (by kernel_rfl) ?_
  refine KW.ret U U U U ?_
  exact⟨_,rfl⟩
 ·skip
  refine Spec.of1 Try.func265 rfl (by kernel_rfl) rfl (fun H _=>?_)
  refine KW.cF U U (by first | (simp;done) | decide) ?_
  refine KW.cF U U (by first | (simp;done) | decide) ?_
  refine KW.cF U U (by first | (simp;done) | decide) ?_
  refine KW.pure U U U U U (.int .u8 3) (by kernel_rfl) ?_
  refine KW.ret U U U U ?_
  exact⟨_,rfl⟩
 ·skip
  refine Spec.of1 Try.func265 rfl (by kernel_rfl) rfl (fun H _=>?_)
  refine KW.cF U U (by first | (simp;done) | decide) ?_
  refine KW.cF U U (by first | (simp;done) | decide) ?_
  refine KW.cF U U (by first | (simp;done) | decide) ?_
  refine KW.pure U U U U U (.int .u8 3) (by kernel_rfl) ?_
  refine KW.ret U U U U ?_
  exact⟨_,rfl⟩
 ·skip
  refine Spec.of1 Try.func265 rfl (by kernel_rfl) rfl (fun H _=>?_)
  refine KW.cF U U (by first | (simp;done) | decide) ?_
  refine KW.cF U U (by first | (simp;done) | decide) ?_
  refine KW.cF U U (by first | (simp;done) | decide) ?_
  refine KW.pure U U U U U (.int .u8 3) (by kernel_rfl) ?_
  refine KW.ret U U U U ?_
  exact⟨_,rfl⟩
 ·skip
  refine Spec.of1 Try.func265 rfl (by kernel_rfl) rfl (fun H _=>?_)
  refine KW.cF U U (by first | (simp;done) | decide) ?_
  refine KW.cF U U (by first | (simp;done) | decide) ?_
  refine KW.cF U U (by first | (simp;done) | decide) ?_
  refine KW.pure U U U U U (.int .u8 3) (by kernel_rfl) ?_
  refine KW.ret U U U U ?_
  exact⟨_,rfl⟩
 ·skip
  refine Spec.of1 Try.func265 rfl (by kernel_rfl) rfl (fun H _=>?_)
  refine KW.cF U U (by first | (simp;done) | decide) ?_
  refine KW.cF U U (by first | (simp;done) | decide) ?_
  refine KW.cF U U (by first | (simp;done) | decide) ?_
  refine KW.pure U U U U U (.int .u8 4) (by kernel_rfl) ?_
  refine KW.ret U U U U ?_
  exact⟨_,rfl⟩
 ·skip
  refine Spec.of1 Try.func265 rfl (by kernel_rfl) rfl (fun H _=>?_)
  refine KW.cF U U (by first | (simp;done) | decide) ?_
  refine KW.cF U U (by first | (simp;done) | decide) ?_
  refine KW.cF U U (by first | (simp;done) | decide) ?_
  refine KW.pure U U U U U (.int .u8 4) (by kernel_rfl) ?_
  refine KW.ret U U U U ?_
  exact⟨_,rfl⟩
 ·skip
  refine Spec.of1 Try.func265 rfl (by kernel_rfl) rfl (fun H _=>?_)
  refine KW.cF U U (by first | (simp;done) | decide) ?_
  refine KW.cF U U (by first | (simp;done) | decide) ?_
  refine KW.cF U U (by first | (simp;done) | decide) ?_
  refine KW.pure U U U U U (.int .u8 4) (by kernel_rfl) ?_
  refine KW.ret U U U U ?_
  exact⟨_,rfl⟩
 ·skip
  refine Spec.of1 Try.func265 rfl (by kernel_rfl) rfl (fun H _=>?_)
  refine KW.cF U U (by first | (simp;done) | decide) ?_
  refine KW.cF U U (by first | (simp;done) | decide) ?_
  refine KW.cF U U (by first | (simp;done) | decide) ?_
  refine KW.pure U U U U U (.int .u8 4) (by kernel_rfl) ?_
  refine KW.ret U U U U ?_
  exact⟨_,rfl⟩
 ·skip
  refine Spec.of1 Try.func265 rfl (by kernel_rfl) rfl (fun H _=>?_)
  refine KW.cF U U (by first | (simp;done) | decide) ?_
  refine KW.cF U U (by first | (simp;done) | decide) ?_
  refine KW.cF U U (by first | (simp;done) | decide) ?_
  refine KW.pure U U U U U (.int .u8 4) (by kernel_rfl) ?_
  refine KW.ret U U U U ?_
  exact⟨_,rfl⟩
theorem bitsLen {x:Nat} (hx:x≤12):Spec Try.prog S H0 248 [.int .u64 x] (fun v=>∃z:Int,v=.int .i64 z):=by
 refine Spec.of1 Try.func248 rfl (by kernel_rfl) rfl (fun H _=>?_)
 refine KW.cF U U (by first | (simp;done) | decide) ?_
 refine KW.call U U U U U (bitsLen64 hx) (fun v _ _ hv=>?_)
 obtain⟨z,rfl⟩:=hv
 exact KW.ret U U U U (⟨_,rfl⟩)
theorem pdq {o c:Nat} {ty:TypeId} {rows:List (List Int)} {cs:List Value} {V Y:Ids} (hl:rows.length≤12) (hx:∀x∈rows,x.length≤1048576) (hS:S o) (hm:H0.m o=some ⟨ty,true,cs⟩) (hY:∀i,Y i→S i∧i≠o) (hB:RowsB KI.ml Y H0 V rows cs) {lim:Int}:
  SpecW Try.prog S H0 (fun i=>i=o) 247 [.slice (some ⟨o,0,some 1⟩) rows.length c,.int .i64 0,.int .i64 rows.length,.int .i64 lim,.func (.func 225) #[] #[]] (fun n v H1=>∃cs',H1.m o=some ⟨ty,true,cs'⟩∧RowsB KI.ml Y H1 V (isA rows) cs'):=by
 refine SpecW.of0 Try.func247 rfl (by kernel_rfl) rfl (fun H hfin hfz=>?_)
 have fx:∀i,S i→Low H.n i∧H.m i=H0.m i:=fun i hi=>hfz i hi
 have hmH:H.m o=some ⟨ty,true,cs⟩:=(fx o hS).2.trans hm
 have hBH:RowsB KI.ml Y H V rows cs:=hB.back hB (fun i hi=>(fx i (hY i (hB.sub i hi)).1).2)
 have hYH:∀i,Y i→Low H.n i∧i≠o:=fun i hi=>⟨(fx i (hY i hi).1).1,(hY i hi).2⟩
 refine KW.lp U U (fun _:Unit=>[(0,.slice (some ⟨o,0,some 1⟩) rows.length c),(1,.int .i64 0),(2,.int .i64 rows.length),(4,.func (.func 225) #[] #[])]) (fun _=>True) (fun _=>0) (()) (trivial) ⟨rfl,rfl,rfl,rfl,trivial⟩ (fun _ hi bE n=>?_)
 have e1:IntKind.i64.wrap ((rows.length:Int)-0)=(rows.length:Int):=by rw[wr (by omega) (by omega)];omega
 refine KW.yes U U (by rw[e1];omega) ?_
 refine KW.fact (fun _ g=>g.nle (H1:=H)) (fun hnle=>?_)
 refine KW.callW (W:=fun i=>i=o) (fun i hi=>by subst hi;exact(fx _ hS).1) U U U U U (insSort (S:=Low H.n) (by omega) hx (fx o hS).1 hmH hYH hBH) (fun v H1 S1 hn1 st1 hw1 hp=>?_)
 obtain⟨cs',p1,p2⟩:=hp
 refine KW.retW U U U U (fun H2 g=>by have:=g.n_;omega) (fun i hi hw=>⟨(st1 i hi).1,(st1 i hi).2 hw⟩) (fun H2 g=>?_)
 exact⟨cs',(g.froz o (st1 o (fx o hS).1).1).2.trans p1,p2.back hBH (fun i hi=>(g.froz i (st1 i (hYH i (hBH.sub i hi)).1).1).2)⟩
theorem sortFunc {o c:Nat} {ty:TypeId} {rows:List (List Int)} {cs:List Value} {V Y:Ids} (hl:rows.length≤12) (hx:∀x∈rows,x.length≤1048576) (hS:S o) (hm:H0.m o=some ⟨ty,true,cs⟩) (hY:∀i,Y i→S i∧i≠o) (hB:RowsB KI.ml Y H0 V rows cs):
  SpecW Try.prog S H0 (fun i=>i=o) 231 [.slice (some ⟨o,0,some 1⟩) rows.length c,.func (.func 225) #[] #[]] (fun n v H1=>∃cs',H1.m o=some ⟨ty,true,cs'⟩∧RowsB KI.ml Y H1 V (isA rows) cs'):=by
 refine SpecW.of0 Try.func231 rfl (by kernel_rfl) rfl (fun H hfin hfz=>?_)
 have fx:∀i,S i→Low H.n i∧H.m i=H0.m i:=fun i hi=>hfz i hi
 have hmH:H.m o=some ⟨ty,true,cs⟩:=(fx o hS).2.trans hm
 have hBH:RowsB KI.ml Y H V rows cs:=hB.back hB (fun i hi=>(fx i (hY i (hB.sub i hi)).1).2)
 have hYH:∀i,Y i→Low H.n i∧i≠o:=fun i hi=>⟨(fx i (hY i hi).1).1,(hY i hi).2⟩
 have e1:IntKind.u64.wrap (rows.length:Int)=(rows.length:Int):=wru (by omega) (by omega)
 refine KW.call U U U U U ((by show Spec _ _ _ _ [.int .u64 (IntKind.u64.wrap _)] _;rw[e1];exact bitsLen hl)) (fun v _ _ hv=>?_)
 obtain⟨z,rfl⟩:=hv
 refine KW.callW (W:=fun i=>i=o) (fun i hi=>by subst hi;exact(fx _ hS).1) U U U U U (pdq (S:=Low H.n) hl hx (fx o hS).1 hmH hYH hBH) (fun v H1 S1 hn1 st1 hw1 hp=>?_)
 obtain⟨cs',p1,p2⟩:=hp
 refine KW.endW U U U U (fun H2 g=>by have:=g.n_;omega) (fun i hi hw=>⟨(st1 i hi).1,(st1 i hi).2 hw⟩) (fun H2 g=>?_)
 exact⟨cs',(g.froz o (st1 o (fx o hS).1).1).2.trans p1,p2.back hBH (fun i hi=>(g.froz i (st1 i (hYH i (hBH.sub i hi)).1).1).2)⟩
end
end Go.Proofs.Ytlapbbffoapleaa.Am
namespace Go.Proofs.Ytlapbbffoapleaa.Am
open Go Go.RowKit
theorem hold_congr {x y n:Nat} (h:∀i,i<n→x.testBit i=y.testBit i):hold x n=hold y n:=by
 unfold hold
 congr 1
 exact List.filter_congr fun i hi=>h i (List.mem_range.1 hi)
theorem bitsOf_snoc (g:List Int) (a:Int):bitsOf (g++[a])=bitsOf g ||| 2 ^ a.toNat:=by
 unfold bitsOf
 rw[List.foldl_append];rfl
theorem rises_front {lo hi:Int} {g:List Int} {a:Int} (h:Rises lo hi (g++[a])):Rises lo hi g∧(∀x∈g,x<a)∧lo≤a∧a≤hi:=by
 have at_:∀i,i<g.length→(g++[a]).getD i 0=g.getD i 0:=fun i hi=>by
  rw[List.getD_eq_getElem?_getD,List.getD_eq_getElem?_getD,List.getElem?_append_left hi]
 have last:(g++[a]).getD g.length 0=a:=by
  rw[List.getD_eq_getElem?_getD];simp
 have hr:Rises lo hi g:=fun i hi=>by
  obtain⟨h1,h2⟩:=h i (by simp;omega)
  rw[at_ i hi] at h1 h2
  refine⟨h1,fun h0=>?_⟩
  have:=h2 h0
  rwa [at_ (i-1) (by omega)] at this
 have hl:=h g.length (by simp)
 unfold RiseAt at hl
 rw[last] at hl
 refine⟨hr,fun x hx=>?_,hl.1.1,hl.1.2⟩
 obtain⟨i,hi⟩:=List.getElem?_of_mem hx
 have hil:=(List.getElem?_eq_some_iff.1 hi).1
  -- each element is at most the last one of g
 have up:∀d i,i+d=g.length-1→i<g.length→g.getD i 0≤g.getD (g.length-1) 0:=fun d=>by
  induction d with
  | zero=>intro i h1 h2;rw[show i=g.length-1 by omega];exact Int.le_refl _
  | succ d ih=>
   intro i h1 h2
   have h3:=ih (i+1) (by omega) (by omega)
   have h4:=(hr (i+1) (by omega)).2 (by omega)
   simp only[Nat.add_sub_cancel] at h4
   omega
 have h5:=up (g.length-1-i) i (by omega) hil
 have h6:=hl.2 (by omega)
 rw[at_ (g.length-1) (by omega)] at h6
 rw[getD_of hi] at h5
 omega
theorem bitsOf_test {g:List Int} (hg:∀x∈g,0≤x) (i:Nat):(bitsOf g).testBit i=true↔(i:Int)∈g:=by
 have key:∀(g:List Int) (a:Nat),(∀x∈g,0≤x)→((g.foldl (fun a x=>a ||| 2 ^ x.toNat) a).testBit i=true↔(a.testBit i=true∨(i:Int)∈g)):=by
  intro g
  induction g with
  | nil=>intro a _;simp
  | cons x g ih=>
   intro a hx
   have h0:=hx x List.mem_cons_self
   simp only[List.foldl_cons]
   rw[ih _ (fun y hy=>hx y (List.mem_cons_of_mem _ hy)),Nat.testBit_or,Nat.testBit_two_pow,List.mem_cons]
   have e:x.toNat=i↔(i:Int)=x:=by omega
   simp only[Bool.or_eq_true,decide_eq_true_eq,e]
   constructor
   ·rintro ((h | h) | h)
    ·exact .inl h
    ·exact .inr (.inl h)
    ·exact .inr (.inr h)
   ·rintro (h | h | h)
    ·exact .inl (.inl h)
    ·exact .inl (.inr h)
    ·exact .inr h
 have:=key g 0 hg
 simpa [bitsOf] using this
theorem hold_bits:∀(n:Nat) {g:List Int},Rises 0 ((n:Int)-1) g→hold (bitsOf g) n=g
 | 0,g,h=>by
  cases g with
  | nil=>rfl
  | cons x g=>have:=(h 0 (by simp)).1;omega
 | n+1,g,h=>by
  rcases List.eq_nil_or_concat g with rfl | ⟨g',a,hga⟩
  ·unfold hold bitsOf;simp
  ·rw[List.concat_eq_append] at hga
   subst hga
   obtain⟨h1,h2,h3,h4⟩:=rises_front h
   have hg':∀x∈g',0≤x:=fun x hx=>(rises_mem h1 x hx).1
   rw[hold_next]
   by_cases ha:a=n
   ·subst ha
    have hb:(bitsOf (g'++[(n:Int)])).testBit n=true:=by rw[bitsOf_snoc,Nat.testBit_or,Nat.testBit_two_pow];simp
    rw[if_pos hb]
    congr 1
    have h5:Rises 0 ((n:Int)-1) g':=fun i hi=>by
     obtain⟨h6,h7⟩:=h1 i hi
     refine⟨⟨h6.1,?_⟩,h7⟩
     have:=h2 (g'.getD i 0) (by rw[List.getD_eq_getElem?_getD,List.getElem?_eq_getElem hi];exact List.getElem_mem hi)
     omega
    have ih:=hold_bits n h5
    rw[← ih]
    rw[ih]
    refine Eq.trans (hold_congr fun i hi=>?_) ih
    rw[bitsOf_snoc,Nat.testBit_or,Nat.testBit_two_pow]
    have h9:¬n=i:=by omega
    simp[h9]
   ·have h5:Rises 0 ((n:Int)-1) (g'++[a]):=fun i hi=>by
     obtain⟨h6,h7⟩:=h i hi
     refine⟨⟨h6.1,?_⟩,h7⟩
     have hm:(g'++[a]).getD i 0∈g'++[a]:=by rw[List.getD_eq_getElem?_getD,List.getElem?_eq_getElem hi];exact List.getElem_mem hi
     rcases List.mem_append.1 hm with h8 | h8
     ·have:=h2 _ h8;omega
     ·have:=List.mem_singleton.1 h8;omega
    have hb:¬(bitsOf (g'++[a])).testBit n=true:=fun hc=>by
     have:=(bitsOf_test (fun x hx=>(rises_mem h5 x hx).1) n).1 hc
     have:=(rises_mem h5 _ this).2
     omega
    rw[if_neg hb]
    exact hold_bits n h5
end Go.Proofs.Ytlapbbffoapleaa.Am
namespace Go.Proofs.Ytlapbbffoapleaa.Am
open Go Go.RowKit Go.Proofs
abbrev T_Sequence:Type:=(List Int) × (List (List Int)) × (List (List Int))
abbrev M_Sequence:Kn T_Sequence:=Kn.mp (M_Int64S) (Kn.mp (M_Int64SS) (M_Int64SS))
section
variable {S:Ids} {H0:AH} {W:Ids} {left k:Int}
end
def Steps (gs:List (List Int)) (b x w:Nat):Prop:=Opens gs (x ||| w)∧¬Opens gs (b ||| w)
def Chd (gs:List (List Int)) (k b x:Nat):Prop:=x &&& k=0∧x≠b∧x &&& b=b∧¬Opens gs x
def Least (gs:List (List Int)) (k b x w:Nat) (ok:Bool):Prop:=
 (ok=true∧w≤k∧(k &&& w=w∧Steps gs b x w)∧∀v,v<w→¬(k &&& v=v∧Steps gs b x v))∨(ok=false∧w=0∧∀v,v≤k→¬(k &&& v=v∧Steps gs b x v))
section
variable {S:Ids} {H0:AH}
theorem steps {m:Nat} (hm:m≤7) (h:Int) {b x w:Nat} (hb:b<256) (hx:x<256) (hw:w<256) {gs:List (List Int)} (hsm:Sml gs) (hbe:Below' m gs) {a c} (hs:KI.sl.Sl S H0 (.slice a gs.length c) gs):
  Spec Try.prog S H0 115 [familyV h (.slice a gs.length c),.int .u64 b,.int .u64 x,.int .u64 w] (fun v=>v=.bool (tv (Steps gs b x w))):=by
 refine Spec.of1 Try.func115 rfl (by kernel_rfl) rfl (fun H _=>?_)
 have o1:x ||| w<2 ^ 8:=Nat.or_lt_two_pow (by omega) (by omega)
 have o2:b ||| w<2 ^ 8:=Nat.or_lt_two_pow (by omega) (by omega)
 have e8:(2:Nat) ^ 8=256:=by decide
 have e1:=or_u64 (a:=x) (b:=w) (by omega) (by omega)
 have e2:=or_u64 (a:=b) (b:=w) (by omega) (by omega)
 refine KW.callE U U U U U ((by show Spec _ _ _ _ [familyV h (.slice a gs.length c),.int .u64 (IntKind.u64.wrap _)] _;rw[e1];exact opens hm h (by omega) hsm hbe hs.up)) (fun _ _=>?_)
 refine KW.tstB U U (fun k1=>?_) (fun k1=>?_)
 ·have k1:=tv_iff.1 k1
  refine KW.callE U U U U U ((by show Spec _ _ _ _ [familyV h (.slice a gs.length c),.int .u64 (IntKind.u64.wrap _)] _;rw[e2];exact opens hm h (by omega) hsm hbe hs.up)) (fun _ _=>?_)
  refine KW.ret U U U U ?_
  show Value.bool (!tv (Opens gs (b ||| w)))=_
  by_cases k2:Opens gs (b ||| w)
  ·rw[tv_true k2,tv_false (p:=Steps gs b x w) (fun hc=>hc.2 k2)];rfl
  ·rw[tv_false k2,tv_true (p:=Steps gs b x w) ⟨k1,k2⟩];rfl
 ·exact KW.ret U U U U (by rw[tv_false (p:=Steps gs b x w) (fun hc=>by rw[tv_true hc.1] at k1;cases k1)];rfl)
theorem least {m:Nat} (hm:m≤7) (h:Int) {k b x:Nat} (hk:k<256) (hb:b<256) (hx:x<256) {gs:List (List Int)} (hsm:Sml gs) (hbe:Below' m gs) {a c} (hs:KI.sl.Sl S H0 (.slice a gs.length c) gs):
  Spec Try.prog S H0 173 [familyV h (.slice a gs.length c),.int .u64 k,.int .u64 b,.int .u64 x] (fun v=>∃(w:Nat) (ok:Bool),v=.tuple #[.int .u64 w,.bool ok]∧Least gs k b x w ok):=by
 refine Spec.of1 Try.func173 rfl (by kernel_rfl) rfl (fun H _=>?_)
 refine KW.lp U U (fun w:Nat=>[(1,.int .u64 k),(2,.int .u64 b),(3,.int .u64 x),(4,.pointer (some ⟨H.n,0,some 0⟩)),(10,.int .u64 w)]) (fun w=>w≤k+1∧∀v,v<w→¬(k &&& v=v∧Steps gs b x v)) (fun w=>k+1-w) (0) (⟨by omega,fun v hv=>absurd hv (by omega)⟩) ⟨rfl,rfl,rfl,rfl,rfl,trivial⟩ (fun w hi bE n=>?_)
 obtain⟨hw,hv⟩:=hi
 refine KW.cnd U U (fun k1=>?_) (fun k1=>?_)
 ·have k1:(w:Int)≤k:=k1
  refine KW.callE U U U U U (contains (x:=k) (y:=w) (by omega) (by omega)) (fun _ _=>?_)
  refine KW.tstB U U (fun k2=>?_) (fun k2=>?_)
  ·have k2:=tv_iff.1 k2
   refine KW.callE U U U U U (steps hm h (b:=b) (x:=x) (w:=w) hb hx (by omega) hsm hbe hs.up) (fun _ _=>?_)
   refine KW.cndB U U (fun k3=>?_) (fun k3=>?_)
   ·exact KW.ret U U U U (⟨w,true,rfl,.inl ⟨rfl,by omega,⟨k2,tv_iff.1 k3⟩,hv⟩⟩)
   ·refine KW.nxt U U (fun H' g=>⟨w+1,⟨by omega,upto hv (fun hc=>by rw[tv_true hc.2] at k3;cases k3)⟩,by first | omega | (simp only;omega),⟨rfl,rfl,rfl,rfl,congrArg (Value.int .u64) (incu64 (by omega)),trivial⟩,g⟩)
  ·refine KW.cF U U (by first | (simp;done) | decide) ?_
   refine KW.nxt U U (fun H' g=>⟨w+1,⟨by omega,upto hv (fun hc=>by rw[tv_true hc.1] at k2;cases k2)⟩,by first | omega | (simp only;omega),⟨rfl,rfl,rfl,rfl,congrArg (Value.int .u64) (incu64 (by omega)),trivial⟩,g⟩)
 ·have k1:¬(w:Int)≤k:=k1
  exact KW.ret U U U U (⟨0,false,rfl,.inr ⟨rfl,rfl,fun v hv'=>hv v (by omega)⟩⟩)
theorem Good.row1 {S0:Ids} {T:List Var} {n j id c:Nat} {H1 H2:AH} {ty:TypeId} {a:Option Addr} {c':Nat} {xs:List Int} (g:Good S0 H1 T n H2) (hT:T[j]?=some (id,⟨ty,true,[.slice a xs.length c']⟩)) (h:KI.Sl (Low H2.n) H2 (.slice a xs.length c') xs) (hc:1≤c):KI.sl.Sl (Low H2.n) H2 (.slice (some ⟨id,0,some 1⟩) [xs].length c) [xs]:=by
 have hb:=g.blk hT
 refine .inr ⟨id,0,c,_,rfl,hc,hb.2,hb.1,by simp[Kn.sl],fun i x hx=>?_⟩
 cases i with
 | zero=>cases hx;exact⟨_,rfl,h⟩
 | succ i=>simp at hx
end
abbrev T_Matrix:Type:=(Int) × (Int) × (List (List Int))
abbrev M_Matrix:Kn T_Matrix:=Kn.mp (KI) (Kn.mp (KI) (M_Int64SS))
section
variable {S:Ids} {H0:AH} {W:Ids} {left k:Int}
end
abbrev T_Scheme:Type:=(Int) × (List Int) × (T_Matrix)
abbrev M_Scheme:Kn T_Scheme:=Kn.mp (KI) (Kn.mp (M_Int64S) (M_Matrix))
section
variable {S:Ids} {H0:AH} {W:Ids} {left k:Int}
end
structure B_Int64SSS (x:List (List (List Int))):Prop where
 len:x.length≤1048576
 each:∀y∈x,B_Int64SS y
 tot:sum (x.map sz_Int64SS)≤1048576
section
variable {S:Ids} {H0:AH} {W:Ids} {a a':Option Addr} {c c':Nat} {left k:Int}
end
abbrev T_Deal:Type:=(T_Scheme) × (Int) × (List (List Int)) × (List (List (List Int)))
section
variable {S:Ids} {H0:AH} {W:Ids} {left k:Int}
end
structure OkSch (h:Int) (ow:List Int) (p c:Int) (rows:List (List Int)):Prop where
 h1:1≤h
 h7:h≤7
 mat:OkMat p c rows
 c1:1≤c
 len:ow.length=rows.length
 own:∀x∈ow,0≤x∧x≤h-1
section
variable {S:Ids} {H0:AH}
theorem validScheme1 (h y:Int) (hh:1≤h∧h≤7) {id:Nat} {b:Blk} {vs:List Value} (hb:b.cells=.int .i64 h :: vs) (hv:S id∧H0.m id=some b):Spec Try.prog S H0 153 [.int .i64 y,.pointer (some ⟨id,0,none⟩)] (fun v=>v=.bool (!decide (0≤y∧y≤h-1))):=by
 refine Spec.of1 Try.func153 rfl (by kernel_rfl) rfl (fun H _=>?_)
 obtain⟨hS1,hm1⟩:=On.blk (S':=Low H.n) (H':=H) hv.1 hv.2
 obtain⟨ty,rw,cs⟩:=b
 subst hb
 refine KW.ldP hS1 hm1 U U U U U U ?_
 refine KW.callE U U U U U (within _ _ _) (fun _ _=>?_)
 have e:IntKind.i64.wrap (h-1)=h-1:=wr (by omega) (by omega)
 refine KW.ret U U U U ?_
 rw[e];rfl
theorem validScheme (h p c:Int) (hp:I64 p) {a1 c1 a2 c2} {ow:List Int} {rows:List (List Int)} (hO:B_Int64S ow) (hB:B_Int64SS rows) (ho:KI.Sl S H0 (.slice a1 ow.length c1) ow) (hs:KI.sl.Sl S H0 (.slice a2 rows.length c2) rows):
  Spec Try.prog S H0 79 [.agg #[.int .i64 h,.slice a1 ow.length c1,.int .i64 p,.int .i64 c,.slice a2 rows.length c2]] (fun v=>v=.bool (tv (OkSch h ow p c rows))):=by
 refine Spec.of1 Try.func79 rfl (by kernel_rfl) rfl (fun H _=>?_)
 refine KW.callE U U U U U (within _ _ _) (fun _ _=>?_)
 refine KW.tstB U U (fun k1=>?_) (fun k1=>?_)
 ·have k1:1≤h∧h≤7:=by simpa using k1
  refine KW.callE U U U U U (validMatrix p c hp hB hs.up) (fun _ _=>?_)
  refine KW.tstB U U (fun k2=>?_) (fun k2=>?_)
  ·have k2:=tv_iff.1 k2
   refine KW.tst U U (fun k3=>?_) (fun k3=>?_)
   ·have k3:1≤c:=k3
    refine KW.tstB U U (fun k4=>?_) (fun k4=>?_)
    ·have k4:ow.length=rows.length:=by simp at k4;omega
     have hO':ow.length≤1048576:=hO
     refine KW.callV1 U U U U U (fun H1 g _=>containsFuncI (p:=fun y=>!decide (0≤y∧y≤h-1)) (by omega) ho.up (fun S' H' o y _=>validScheme1 h y k1 rfl (g.var (j:=0) rfl))) (fun _ _=>?_)
     refine KW.ret U U U U ?_
     show Value.bool (!tv (∃x∈ow,(!decide (0≤x∧x≤h-1))=true))=_
     by_cases hx:OkSch h ow p c rows
     ·rw[tv_true hx,tv_false (fun⟨x,h1,h2⟩=>by have:=hx.own x h1;simp at h2;omega)];rfl
     ·rw[tv_false hx,tv_true ?_];· rfl
      refine Classical.byContradiction fun hc=>hx ⟨k1.1,k1.2,k2,k3,k4,fun x h1=>?_⟩
      refine Classical.byContradiction fun h2=>hc ⟨x,h1,by simp;omega⟩
    ·have k4:ow.length≠rows.length:=by simp at k4;omega
     repeat first | refine KW.tT U U U ?_ | refine KW.tF U U U ?_
     exact KW.ret U U U U (by rw[tv_false (p:=OkSch h ow p c rows) (fun hc=>k4 hc.len)];rfl)
   ·have k3:¬1≤c:=k3
    repeat first | refine KW.tT U U U ?_ | refine KW.tF U U U ?_
    exact KW.ret U U U U (by rw[tv_false (p:=OkSch h ow p c rows) (fun hc=>k3 hc.c1)];rfl)
  ·repeat first | refine KW.tT U U U ?_ | refine KW.tF U U U ?_
   exact KW.ret U U U U (by rw[tv_false (p:=OkSch h ow p c rows) (fun hc=>by rw[tv_true hc.mat] at k2;cases k2)];rfl)
 ·have k1:¬(1≤h∧h≤7):=by simp at k1;omega
  repeat first | refine KW.tT U U U ?_ | refine KW.tF U U U ?_
  exact KW.ret U U U U (by rw[tv_false (p:=OkSch h ow p c rows) (fun hc=>k1 ⟨hc.h1,hc.h7⟩)];rfl)
theorem Has3.drop {S:Ids} {H:AH} {id k:Nat} {vs ws:List Value} (h:Has3 S H id k (vs++ws)):Has3 S H id (k+vs.length) ws:=by
 obtain⟨h1,b,h2,h3⟩:=h
 exact⟨h1,b,h2,fun i v hi=>by rw[Nat.add_assoc];exact h3 _ v (by rw[List.getElem?_append_right (by omega)];simpa using hi)⟩
theorem Has3.take {S:Ids} {H:AH} {id k:Nat} {vs ws:List Value} (h:Has3 S H id k (vs++ws)):Has3 S H id k vs:=by
 obtain⟨h1,b,h2,h3⟩:=h
 exact⟨h1,b,h2,fun i v hi=>h3 i v (by rw[List.getElem?_append_left (List.getElem?_eq_some_iff.1 hi).1];exact hi)⟩
theorem Good.has {S0:Ids} {H0 H1:AH} {T:List Var} {n j id:Nat} {b:Blk} {vs:List Value} (g:Good S0 H0 T n H1) (hj:T[j]?=some (id,b)) (hb:b.cells=vs):Has3 (Low H1.n) H1 id 0 vs:=⟨(g.blk hj).2,b,(g.blk hj).1,fun i v hi=>by rw[hb,Nat.zero_add];exact hi⟩
end
def KeysOk (p:Int) (n:Nat) (kk:List (List Int)):Prop:=kk.length=n∧∀y∈kk,y.length=2∧Elems p y
structure OkDeal (h:Int) (ow:List Int) (p c:Int) (rows:List (List Int)) (s:Int) (bs:List (List Int)) (ks:List (List (List Int))):Prop where
 sch:OkSch h ow p c rows
 sec:0≤s∧s≤p-1
 bl:1≤bs.length∧bs.length≤4
 kl:ks.length=bs.length
 bk:∀(e:Nat) b kk,bs[e]?=some b→ks[e]?=some kk→((b.length:Int)=c-1∧Elems p b)∧KeysOk p rows.length kk
section
variable {S:Ids} {H0:AH}
end
def DealOk (x:T_Deal):Prop:=OkDeal x.1.1 x.1.2.1 x.1.2.2.1 x.1.2.2.2.1 x.1.2.2.2.2 x.2.1 x.2.2.1 x.2.2.2
section
variable {S:Ids} {H0:AH}
end
def rowsP (q:Nat→Bool) (n:Nat):List Int:=((List.range n).filter q).map fun(i:Nat)=>(i:Int)
theorem rowsP_next (q:Nat→Bool) (n:Nat):rowsP q (n+1)=if q n=true then rowsP q n++[(n:Int)] else rowsP q n:=by
 unfold rowsP
 rw[List.range_succ,List.filter_append,List.map_append]
 by_cases hc:q n=true
 ·simp[hc]
 ·have hc:q n=false:=by simpa using hc
  simp[hc]
theorem rowsP_len (q:Nat→Bool) (n:Nat):(rowsP q n).length≤n:=by
 unfold rowsP
 rw[List.length_map]
 exact Nat.le_trans (List.length_filter_le _ _) (by simp)
theorem rowsP_mem {q:Nat→Bool} {n:Nat} {x:Int} (hx:x∈rowsP q n):0≤x∧x<n:=by
 unfold rowsP at hx
 obtain⟨i,hi,rfl⟩:=List.mem_map.1 hx
 have:=List.mem_range.1 (List.mem_filter.1 hi).1
 omega
theorem rowsP_congr {q q':Nat→Bool} {n:Nat} (h:∀i,i<n→q i=q' i):rowsP q n=rowsP q' n:=by
 unfold rowsP
 congr 1
 exact List.filter_congr fun i hi=>h i (List.mem_range.1 hi)
abbrev rowsOf (ow:List Int) (h:Int):List Int:=rowsP (fun i=>decide (ow.getD i 0=h)) ow.length
def dotN (a b:List Int):Nat→Int
 | 0=>0
 | n+1=>dotN a b n+a.getD n 0*b.getD n 0
def dotS (p:Int) (a b:List Int):Int:=dotN a b a.length%p
theorem elem_at {p:Int} {a:List Int} (h:Elems p a) (hp:2≤p) (i:Nat):0≤a.getD i 0∧a.getD i 0≤p-1:=by
 rcases Nat.lt_or_ge i a.length with hi | hi
 ·rw[List.getD_eq_getElem?_getD,List.getElem?_eq_getElem hi]
  exact h _ (List.getElem_mem hi)
 ·rw[List.getD_eq_getElem?_getD,List.getElem?_eq_none hi]
  show 0≤(0:Int)∧(0:Int)≤p-1
  omega
theorem mul_small {p x y:Int} (hp:p≤31) (hx:0≤x∧x≤p-1) (hy:0≤y∧y≤p-1):0≤x*y∧x*y≤900:=by
 refine⟨Int.mul_nonneg hx.1 hy.1,?_⟩
 have h1:x*y≤30*30:=Int.mul_le_mul (by omega) (by omega) hy.1 (by omega)
 omega
theorem dotN_in {p:Int} {a b:List Int} (hp:PrimeP p) (ha:Elems p a) (hb:Elems p b):∀n,0≤dotN a b n∧dotN a b n≤900*n
 | 0=>by simp[dotN]
 | n+1=>by
  have h1:=dotN_in hp ha hb n
  have h2:=mul_small hp.2.1 (elem_at ha hp.1 n) (elem_at hb hp.1 n)
  simp only[dotN]
  omega
def shares (p:Int) (rows:List (List Int)) (all:List Int):List Int:=rows.map fun r=>dotS p r all
theorem map_take_succ {α β:Type} (f:α→β) {xs:List α} {i:Nat} {x:α} (h:xs[i]?=some x):(xs.take (i+1)).map f=(xs.take i).map f++[f x]:=by
 obtain⟨hi,rfl⟩:=List.getElem?_eq_some_iff.1 h
 rw[List.take_succ_eq_append_getElem hi,List.map_append];rfl
section
variable {S:Ids} {H0:AH}
theorem dot (p:Int) (hp:PrimeP p) {a1 c1 a2 c2} {a b:List Int} (hl:a.length=b.length) (h12:a.length≤1048576) (ea:Elems p a) (eb:Elems p b) (ha:KI.Sl S H0 (.slice a1 a.length c1) a) (hb:KI.Sl S H0 (.slice a2 b.length c2) b):
  Spec Try.prog S H0 72 [.int .i64 p,.slice a1 a.length c1,.slice a2 b.length c2] (fun v=>v=.int .i64 (dotS p a b)):=by
 refine Spec.of1 Try.func72 rfl (by kernel_rfl) rfl (fun H _=>?_)
 refine KW.lp U U (fun i:Nat=>[(0,.int .i64 p),(2,.slice a2 b.length c2),(7,.int .i64 (dotN a b i)),(10,.slice a1 a.length c1),(11,.int .i64 a.length),(12,.int .i64 i)]) (fun i=>i≤a.length) (fun i=>a.length-i) (0) (by omega) ⟨rfl,rfl,rfl,rfl,rfl,rfl,trivial⟩ (fun i hi bE n=>?_)
 refine KW.cnd U U (fun h=>?_) (fun h=>?_)
 ·refine KW.getI ha.up U U U U U U U U U U U U U U U U (by omega) (h) (fun x hx=>?_)
  refine KW.getI hb.up U U U U U U U U U U U U U U U U (by omega) (by omega) (fun y hy=>?_)
  have hx:a.getD i 0=x:=getD_of hx
  have hy:b.getD i 0=y:=getD_of hy
  have h1:=dotN_in hp ea eb i
  have h2:=mul_small hp.2.1 (elem_at ea hp.1 i) (elem_at eb hp.1 i)
  have e:dotN a b (i+1)=dotN a b i+a.getD i 0*b.getD i 0:=rfl
  rw[hx,hy] at h2 e
  have e2:Value.int .i64 (IntKind.i64.wrap (dotN a b i+IntKind.i64.wrap (x*y)))=.int .i64 (dotN a b (i+1)):=by
   rw[wr (x:=x*y) (by omega) (by omega),wr (by omega) (by omega),e]
  refine KW.nxt U U (fun H' g=>⟨i+1,by omega,by first | omega | (simp only;omega),⟨rfl,rfl,e2,rfl,rfl,congrArg (Value.int .i64) (inc64 (by omega)),trivial⟩,g⟩)
 ·obtain rfl:i=a.length:=by omega
  have h1:=dotN_in hp ea eb a.length
  refine KW.rem U U U U U U (h1.1) (by have:=hp.1;omega) ?_
  exact KW.ret U U U U (rfl)
def MkL (xs:List Int) (n:Nat) (v:Value) (H1:AH):Prop:=∃a c,v=.slice a xs.length c∧KI.Ml (New n H1.n) H1 (.slice a xs.length c) xs
theorem MkL.of {S0:Ids} {H0 H1:AH} {T:List Var} {n j id n0:Nat} {ty:TypeId} {xs:List Int} (g:Good S0 H0 T n H1) (hj:T[j]?=some (id,⟨ty,true,xs.map (Value.int .i64)⟩)) (hn:n0≤id):MkL xs n0 (.slice (some ⟨id,0,some 1⟩) xs.length xs.length) H1:=
 ⟨_,_,rfl,int_ml ⟨hn,(g.blk hj).2⟩ (g.blk hj).1 U U (Nat.le_refl _)⟩
theorem rowsHeld (h p c:Int) (x:Nat) (hx:x<4611686018427387904) {a1 c1} {v2:Option Addr} {n2 c2:Nat} {ow:List Int} (hO:B_Int64S ow) (hown:∀x∈ow,0≤x∧x≤h-1) (hh:h≤7) (ho:KI.Sl S H0 (.slice a1 ow.length c1) ow):
  SpecM Try.prog S H0 77 [.agg #[.int .i64 h,.slice a1 ow.length c1,.int .i64 p,.int .i64 c,.slice v2 n2 c2],.int .u64 (x:Int)] (MkL (rowsP (fun i=>x.testBit (ow.getD i 0).toNat) ow.length)):=by
 refine SpecM.of1 Try.func77 rfl (by kernel_rfl) rfl (fun H _=>?_)
 have hO':ow.length≤1048576:=hO
 refine KW.lit U U U U U U U U U U [] U U (fun v hv=>by simp at hv) rfl ?_
 refine KW.lpM U U (fun s:Nat × Nat=>[(1,.int .u64 (x:Int)),(5,.slice (some ⟨s.2,0,some 1⟩) (rowsP (fun i=>x.testBit (ow.getD i 0).toNat) s.1).length (rowsP (fun i=>x.testBit (ow.getD i 0).toNat) s.1).length),(10,.slice a1 ow.length c1),(11,.int .i64 ow.length),(12,.int .i64 s.1)]) (fun s=>Low H.n) (fun s=>H) (fun s=>[(H.n,⟨_,true,_⟩),(s.2,⟨_,true,(rowsP (fun i=>x.testBit (ow.getD i 0).toNat) s.1).map (Value.int .i64)⟩)]) (fun s=>s.1≤ow.length) (fun s=>ow.length-s.1) ((0,H.n+1)) (by simp) ⟨rfl,rfl,rfl,rfl,rfl,trivial⟩ U U (rfl) (fun s hi bE n=>?_)
 obtain⟨q,o⟩:=s
 simp only at hi
 have hq:(rowsP (fun i=>x.testBit (ow.getD i 0).toNat) q).length≤q:=rowsP_len _ q
 refine KW.cnd U U (fun k1=>?_) (fun k1=>?_)
 ·refine KW.getI ho.up U U U U U U U U U U U U U U U U (by omega) (k1) (fun y hy=>?_)
  have hy':ow[q]?=some y:=hy
  have hyb:=hown y (List.mem_of_getElem? hy')
  obtain⟨z,rfl⟩:∃z:Nat,y=z:=⟨y.toNat,by omega⟩
  have hyd:ow.getD q 0=z:=getD_of hy'
  have e:=rowsP_next (fun i=>x.testBit (ow.getD i 0).toNat) q
  simp only[hyd,Int.toNat_natCast] at e
  refine KW.callE U U U U U (has (x:=x) (h:=z) hx (by omega)) (fun _ _=>?_)
  refine KW.cndB U U (fun k2=>?_) (fun k2=>?_)
  ·rw[if_pos k2] at e
   refine KW.app1 (xs:=(rowsP (fun i=>x.testBit (ow.getD i 0).toNat) q).map (Value.int .i64)) (v:=.int .i64 q) 1 2 U U U U U U U U U U U U U U U U U U U U U U U (by simp) (by show(_+1)*8≤_;first | omega | (simp only;omega)) (by first | omega | (simp only;omega)) ?_
   refine KW.nxt U U (fun H' g=>⟨(q+1,_),by simp only;omega,by first | omega | (simp only;omega),⟨rfl,by simp only[e,List.length_append,List.length_singleton];rfl,rfl,rfl,congrArg (Value.int .i64) (inc64 (by omega)),trivial⟩,g.eqT (by simp only[e,List.map_append];rfl)⟩)
  ·rw[if_neg (by rw[k2];decide)] at e
   refine KW.nxt U U (fun H' g=>⟨(q+1,o),by simp only;omega,by first | omega | (simp only;omega),⟨rfl,by simp only[e];rfl,rfl,rfl,congrArg (Value.int .i64) (inc64 (by omega)),trivial⟩,g.eqT (by simp only[e])⟩)
 ·obtain rfl:q=ow.length:=by simp only at k1;omega
  refine KW.retM1 U U U U (fun H1 g=>MkL.of g (j:=1) rfl (g.ge (H1:=H) (j:=1) rfl))
end
theorem elems_cons {p s:Int} {bl:List Int} (hs:0≤s∧s≤p-1) (hb:Elems p bl):Elems p (s :: bl):=fun x hx=>by
 rcases List.mem_cons.1 hx with rfl | h
 ·exact hs
 ·exact hb x h
section
variable {S:Ids} {H0:AH}
theorem sharesOf (h p c s:Int) {a1 c1 a2 c2 a3 c3} {ow bl:List Int} {rows:List (List Int)} (hO:B_Int64S ow) (hB:B_Int64SS rows) (hk:OkSch h ow p c rows) (hs:0≤s∧s≤p-1) (hbl:(bl.length:Int)=c-1) (hbe:Elems p bl)
  (h1:KI.Sl S H0 (.slice a1 ow.length c1) ow) (h2:KI.sl.Sl S H0 (.slice a2 rows.length c2) rows) (h3:KI.Sl S H0 (.slice a3 bl.length c3) bl):
  SpecM Try.prog S H0 21 [.agg #[.int .i64 h,.slice a1 ow.length c1,.int .i64 p,.int .i64 c,.slice a2 rows.length c2],.int .i64 s,.slice a3 bl.length c3] (fun n v H1=>∃v',v=.tuple #[v',.int .i64 0]∧MkL (shares p rows (s :: bl)) n v' H1):=by
 refine SpecM.of1 Try.func21 rfl (by kernel_rfl) rfl (fun H _=>?_)
 have hp:I64 p:=by unfold I64;have:=hk.mat.pr.1;have:=hk.mat.pr.2.1;omega
 have hc12:=hk.mat.c1
 have hc1:=hk.c1
 have hrl:=hk.mat.len
 have ec:IntKind.i64.wrap (c-1)=c-1:=wr (by omega) (by omega)
 refine KW.callE U U U U U (validScheme h p c hp hO hB h1.up h2.up) (fun _ _=>?_)
 rw[tv_true hk]
 refine KW.cF U U (by first | (simp;done) | decide) ?_
 refine KW.lit U U U U U U U U U U [.int .i64 s] U U (fun v hv=>by simp at hv;subst hv;rfl) rfl ?_
 refine KW.callV1 U U U U U (fun H1 g _=>areElements p hp (xs:=[s]) (by simp) (g.ints (j:=1) U U (by simp))) (fun _ _=>?_)
 rw[tv_true (p:=PrimeP p∧Elems p [s]) ⟨hk.mat.pr,fun x hx=>by rw[List.mem_singleton.1 hx];exact hs⟩]
 refine KW.tF U U (by first | (simp;done) | decide) ?_
 refine KW.callE U U U U U (areElements p hp (by omega) h3.up) (fun _ _=>?_)
 rw[tv_true (p:=PrimeP p∧Elems p bl) ⟨hk.mat.pr,hbe⟩]
 refine KW.tF U U (by first | (simp;done) | decide) ?_
 refine KW.cndB U U (fun k1=>?_) (fun k1=>?_)
 ·rw[ec,hbl] at k1;simp at k1
 refine KW.lit U U U U U U U U U U [.int .i64 s] U U (fun v hv=>by simp at hv;subst hv;rfl) rfl ?_
 refine KW.appV 2 U U U U U U U U U U (fun H1 g=>acells_I h3.up g) (by simp) (by simp) (fun v hv=>by obtain⟨_,_,rfl⟩:=List.mem_map.1 hv;rfl) (by show(_+_)*8≤_;simp only[List.length_cons,List.length_nil];omega) (by simp only[List.length_cons,List.length_nil];omega) (show 1+bl.length=(s :: bl).length from by simp;omega) (fun oa _ _=>?_)
 refine KW.lit U U U U U U U U U U [] U U (fun v hv=>by simp at hv) rfl ?_
 refine KW.fact (p:=¬oa<H.n) (fun _ g=>(g.vars 2 _ rfl).2.2) (fun hoa=>?_)
 refine KW.lpM U U (fun q:Nat × Nat=>[(3,.pointer (some ⟨H.n,0,some 0⟩)),(8,.slice (some ⟨oa,0,some 1⟩) (s :: bl).length (s :: bl).length),(9,.slice (some ⟨q.2,0,some 1⟩) (shares p (rows.take q.1) (s :: bl)).length (shares p (rows.take q.1) (s :: bl)).length),(46,.slice a2 rows.length c2),(47,.int .i64 rows.length),(48,.int .i64 q.1)]) (fun q=>Low H.n) (fun q=>H) (fun q=>[_,_,(oa,⟨_,true,(s :: bl).map (Value.int .i64)⟩),(q.2,⟨_,true,(shares p (rows.take q.1) (s :: bl)).map (Value.int .i64)⟩)]) (fun q=>q.1≤rows.length) (fun q=>rows.length-q.1) ((0,_)) (by simp) ⟨rfl,rfl,rfl,rfl,rfl,rfl,trivial⟩ U U (rfl) (fun q hi bE n=>?_)
 obtain⟨q,o⟩:=q
 simp only at hi
 have hq:(shares p (rows.take q) (s :: bl)).length≤q:=by unfold shares;rw[List.length_map,List.length_take];omega
 refine KW.cnd U U (fun k2=>?_) (fun k2=>?_)
 ·refine KW.getL h2.up U U U U U U U U U U U U U U U U (by omega) (k2) (fun y a' m' hy hsy=>?_)
  have hy:rows[q]?=some y:=hy
  have hym:=hk.mat.row y (List.mem_of_getElem? hy)
  refine KW.callV1 U U U U U (fun H1 g _=>dot p hk.mat.pr (by simp;omega) (by omega) hym.2 (elems_cons hs hbe) hsy.up (g.ints (j:=2) U U (Nat.le_refl _))) (fun _ _=>?_)
  have e:shares p (rows.take (q+1)) (s :: bl)=shares p (rows.take q) (s :: bl)++[dotS p y (s :: bl)]:=map_take_succ _ hy
  refine KW.app1 (xs:=(shares p (rows.take q) (s :: bl)).map (Value.int .i64)) (v:=.int .i64 (dotS p y (s :: bl))) 3 4 U U U U U U U U U U U U U U U U U U U U U U U (by simp) (by show(_+1)*8≤_;first | omega | (simp only;omega)) (by first | omega | (simp only;omega)) ?_
  refine KW.nxt U U (fun H' g=>⟨(q+1,_),by simp only;omega,by first | omega | (simp only;omega),⟨rfl,rfl,by simp only[e,List.length_append,List.length_singleton];rfl,rfl,rfl,congrArg (Value.int .i64) (inc64 (by omega)),trivial⟩,g.eqT (by simp only[e,List.map_append];rfl)⟩)
 ·obtain rfl:q=rows.length:=by simp only at k2;omega
  rw[List.take_of_length_le (Nat.le_refl _)]
  refine KW.retM1 U U U U (fun H1 g=>⟨_,rfl,MkL.of g (j:=3) rfl (g.ge (H1:=H) (j:=3) rfl)⟩)
end
def valsOf (p:Int) (rows:List (List Int)) (ow:List Int) (s:Int) (bl:List Int) (j:Int):List Int:=(rowsOf ow j).map fun i=>(shares p rows (s :: bl)).getD i.toNat 0
theorem rows_bit {ow:List Int} (h:∀x∈ow,0≤x) (j:Nat):rowsP (fun i=>(2 ^ j:Nat).testBit (ow.getD i 0).toNat) ow.length=rowsOf ow j:=rowsP_congr fun i hi=>by
 have h1:0≤ow.getD i 0:=by rw[List.getD_eq_getElem?_getD,List.getElem?_eq_getElem hi];exact h _ (List.getElem_mem hi)
 rw[Nat.testBit_two_pow]
 exact decide_eq_decide.2 ⟨fun h=>by omega,fun h=>by omega⟩
theorem dotS_in {p:Int} {a b:List Int} (hp:PrimeP p):0≤dotS p a b∧dotS p a b≤p-1:=by
 unfold dotS
 have h1:=hp.1
 have:=Int.emod_nonneg (dotN a b a.length) (show p≠0 by omega)
 have:=Int.emod_lt_of_pos (dotN a b a.length) (show 0<p by omega)
 omega
theorem shares_in {p:Int} {rows:List (List Int)} {all:List Int} (hp:PrimeP p):Elems p (shares p rows all):=fun x hx=>by
 obtain⟨r,_,rfl⟩:=List.mem_map.1 hx
 exact dotS_in hp
theorem vals_in {p s j:Int} {rows:List (List Int)} {ow bl:List Int} (hp:PrimeP p):Elems p (valsOf p rows ow s bl j):=fun x hx=>by
 obtain⟨i,_,rfl⟩:=List.mem_map.1 hx
 exact elem_at (shares_in hp) hp.1 _
theorem vals_len {p s j:Int} {rows:List (List Int)} {ow bl:List Int}:(valsOf p rows ow s bl j).length=(rowsOf ow j).length:=by simp[valsOf]
def tagAt (p:Int) (kk:List (List Int)) (R vals:List Int) (k:Nat):Int:=((kk.getD (R.getD k 0).toNat []).getD 0 0*vals.getD k 0+(kk.getD (R.getD k 0).toNat []).getD 1 0)%p
def tagsOf (p:Int) (kk:List (List Int)) (R vals:List Int):List Int:=(List.range R.length).map (tagAt p kk R vals)
theorem range_map_succ {α:Type} (f:Nat→α) (n:Nat):(List.range (n+1)).map f=(List.range n).map f++[f n]:=by rw[List.range_succ,List.map_append];rfl
section
variable {S:Ids} {H0:AH}
theorem values (h p c s:Int) (e j:Nat) {a1 c1 a2 c2 a3 c3} {a4:Option Addr} {n4 c4:Nat} {ow bl:List Int} {rows bs:List (List Int)} (hO:B_Int64S ow) (hB:B_Int64SS rows) (hk:OkSch h ow p c rows) (hs:0≤s∧s≤p-1) (he:bs[e]?=some bl) (hbl:(bl.length:Int)=c-1) (hbe:Elems p bl) (hj:j≤6)
  (h1:KI.Sl S H0 (.slice a1 ow.length c1) ow) (h2:KI.sl.Sl S H0 (.slice a2 rows.length c2) rows) (h3:KI.sl.Sl S H0 (.slice a3 bs.length c3) bs):
  SpecM Try.prog S H0 220 [.agg #[.int .i64 h,.slice a1 ow.length c1,.int .i64 p,.int .i64 c,.slice a2 rows.length c2,.int .i64 s,.slice a3 bs.length c3,.slice a4 n4 c4],.int .i64 e,.int .i64 j] (MkL (valsOf p rows ow s bl j)):=by
 refine SpecM.of1 Try.func220 rfl (by kernel_rfl) rfl (fun H _=>?_)
 have hrl:=hk.mat.len
 have hol:=hk.len
 have hel:=(List.getElem?_eq_some_iff.1 he).1
 refine KW.getL h3.up U U U U U U U U U U U U U U U U (by omega) (by omega) (fun y a' m' hy hsy=>?_)
 have hy:bs[e]?=some y:=hy
 rw[he] at hy
 cases hy
 refine KW.callN1 U U U U U (sharesOf h p c s hO hB hk hs hbl hbe h1.up h2.up hsy) (fun v HA SA mA _ _ hv=>?_)
 obtain⟨v',rfl,a5,c5,rfl,hA⟩:=hv
 refine KW.lit U U U U U U U U U U [] U U (fun v hv=>by simp at hv) rfl ?_
 refine KW.shlU U U U U U U j rfl (by omega) ?_
 have hp:=small_pow (m:=j) (by omega)
 refine KW.callN1 U U U U U (rowsHeld h p c (2 ^ j) (by omega) hO hk.own hk.h7 h1.up) (fun v HR SR mR _ _ hv=>?_)
 obtain⟨a6,c6,rfl,hR⟩:=hv
 rw[rows_bit (fun x hx=>(hk.own x hx).1)] at hR ⊢
 have hRl:(rowsOf ow j).length≤ow.length:=rowsP_len _ _
 have hRm:∀x∈rowsOf ow j,0≤x∧x<ow.length:=fun x hx=>rowsP_mem hx
 have hval:valsOf p rows ow s bl j=(rowsOf ow j).map fun i=>(shares p rows (s :: bl)).getD i.toNat 0:=rfl
 rw[hval]
 have hsl:(shares p rows (s :: bl)).length=rows.length:=by simp[shares]
 obtain⟨R,hRe⟩:∃R,rowsOf ow j=R:=⟨_,rfl⟩
 rw[hRe] at hR hRl hRm ⊢
 obtain⟨A,hAe⟩:∃A,shares p rows (s :: bl)=A:=⟨_,rfl⟩
 rw[hAe] at hA hsl ⊢
 refine KW.lpM U U (fun q:Nat × Nat=>[(7,.slice a5 A.length c5),(9,.slice (some ⟨q.2,0,some 1⟩) ((R.take q.1).map fun i=>A.getD i.toNat 0).length ((R.take q.1).map fun i=>A.getD i.toNat 0).length),(30,.slice a6 R.length c6),(31,.int .i64 R.length),(32,.int .i64 q.1)]) (fun q=>SR) (fun q=>HR) (fun q=>[_,(q.2,⟨_,true,((R.take q.1).map fun i=>A.getD i.toNat 0).map (Value.int .i64)⟩)]) (fun q=>q.1≤R.length) (fun q=>R.length-q.1) ((0,_)) (by simp) ⟨rfl,rfl,rfl,rfl,rfl,trivial⟩ U U (rfl) (fun q hi bE n=>?_)
 obtain⟨q,o⟩:=q
 simp only at hi
 have hq:((R.take q).map fun i=>A.getD i.toNat 0).length≤q:=by rw[List.length_map,List.length_take];omega
 refine KW.cnd U U (fun k2=>?_) (fun k2=>?_)
 ·refine KW.getI hR.ups U U U U U U U U U U U U U U U U (by omega) (k2) (fun x hx=>?_)
  have hx:R[q]?=some x:=hx
  have hxm:=hRm x (List.mem_of_getElem? hx)
  refine KW.getI hA.ups U U U U U U U U U U U U U U U U (by omega) (by omega) (fun y hy=>?_)
  have hy:A.getD x.toNat 0=y:=getD_of hy
  have e1:=map_take_succ (fun i:Int=>A.getD i.toNat 0) hx
  rw[hy] at e1
  refine KW.app1 (xs:=((R.take q).map fun i=>A.getD i.toNat 0).map (Value.int .i64)) (v:=.int .i64 y) 1 2 U U U U U U U U U U U U U U U U U U U U U U U (by simp) (by show(_+1)*8≤_;first | omega | (simp only;omega)) (by first | omega | (simp only;omega)) ?_
  refine KW.nxt U U (fun H' g=>⟨(q+1,_),by simp only;omega,by first | omega | (simp only;omega),⟨rfl,by simp only[e1,List.length_append,List.length_singleton];rfl,rfl,rfl,congrArg (Value.int .i64) (inc64 (by omega)),trivial⟩,g.eqT (by simp only[e1,List.map_append];rfl)⟩)
 ·obtain rfl:q=R.length:=by simp only at k2;omega
  rw[List.take_of_length_le (Nat.le_refl _)]
  refine KW.retM1 U U U U (fun H1 g=>MkL.of g (j:=1) rfl (g.ge (H1:=H) (j:=1) rfl))
theorem tag_val {p k0 k1 v:Int} (hp:PrimeP p) (h0:0≤k0∧k0≤p-1) (h1:0≤k1∧k1≤p-1) (hv:0≤v∧v≤p-1):IntKind.i64.wrap (IntKind.i64.wrap (k0*v)+k1)=k0*v+k1∧0≤k0*v+k1:=by
 have h2:=mul_small hp.2.1 h0 hv
 have h3:=hp.2.1
 rw[wr (x:=k0*v) (by omega) (by omega),wr (by omega) (by omega)]
 exact⟨rfl,by omega⟩
theorem tags (h p c s:Int) (e j:Nat) {a1 c1 a2 c2 a4 c4 a5 c5} {a3:Option Addr} {n3 c3:Nat} {ow vals:List Int} {rows kk:List (List Int)} {ks:List (List (List Int))} (hO:B_Int64S ow) (hBk:B_Int64SSS ks) (hk:OkSch h ow p c rows) (he:ks[e]?=some kk) (hkk:KeysOk p rows.length kk) (hj:j≤6) (hvl:vals.length=(rowsOf ow j).length) (hve:Elems p vals)
  (h1:KI.Sl S H0 (.slice a1 ow.length c1) ow) (h4:KI.sl.sl.Sl S H0 (.slice a4 ks.length c4) ks) (h5:KI.Sl S H0 (.slice a5 vals.length c5) vals):
  SpecM Try.prog S H0 222 [.agg #[.int .i64 h,.slice a1 ow.length c1,.int .i64 p,.int .i64 c,.slice a2 rows.length c2,.int .i64 s,.slice a3 n3 c3,.slice a4 ks.length c4],.int .i64 e,.int .i64 j,.slice a5 vals.length c5] (MkL (tagsOf p kk (rowsOf ow j) vals)):=by
 refine SpecM.of1 Try.func222 rfl (by kernel_rfl) rfl (fun H _=>?_)
 have hrl:=hk.mat.len
 have hol:=hk.len
 have hel:=(List.getElem?_eq_some_iff.1 he).1
 have hpr:=hk.mat.pr
 refine KW.lit U U U U U U U U U U [] U U (fun v hv=>by simp at hv) rfl ?_
 refine KW.shlU U U U U U U j rfl (by omega) ?_
 have hp:=small_pow (m:=j) (by omega)
 refine KW.callN1 U U U U U (rowsHeld h p c (2 ^ j) (by omega) hO hk.own hk.h7 h1.up) (fun v HR SR mR _ _ hv=>?_)
 obtain⟨a6,c6,rfl,hR⟩:=hv
 rw[rows_bit (fun x hx=>(hk.own x hx).1)] at hR ⊢
 have hRl:(rowsOf ow j).length≤ow.length:=rowsP_len _ _
 have hRm:∀x∈rowsOf ow j,0≤x∧x<ow.length:=fun x hx=>rowsP_mem hx
 obtain⟨R,hRe⟩:∃R,rowsOf ow j=R:=⟨_,rfl⟩
 rw[hRe] at hR hRl hRm hvl ⊢
 refine KW.lpM U U (fun q:Nat × Nat=>[(1,.int .i64 e),(3,.slice a5 vals.length c5),(4,.pointer (some ⟨H.n,0,some 0⟩)),(9,.slice (some ⟨q.2,0,some 1⟩) ((List.range q.1).map (tagAt p kk R vals)).length ((List.range q.1).map (tagAt p kk R vals)).length),(18,.slice a6 R.length c6),(19,.int .i64 R.length),(20,.int .i64 q.1)]) (fun q=>SR) (fun q=>HR) (fun q=>[(H.n,⟨54,true,[.int .i64 h,.slice a1 ow.length c1,.int .i64 p,.int .i64 c,.slice a2 rows.length c2,.int .i64 s,.slice a3 n3 c3,.slice a4 ks.length c4]⟩),(q.2,⟨_,true,((List.range q.1).map (tagAt p kk R vals)).map (Value.int .i64)⟩)]) (fun q=>q.1≤R.length) (fun q=>R.length-q.1) ((0,_)) (by simp) ⟨rfl,rfl,rfl,rfl,rfl,rfl,rfl,trivial⟩ U U (rfl) (fun q hi bE n=>?_)
 obtain⟨q,o⟩:=q
 simp only at hi
 have hq:((List.range q).map (tagAt p kk R vals)).length≤q:=by simp
 refine KW.cnd U U (fun k2=>?_) (fun k2=>?_)
 ·refine KW.getI hR.ups U U U U U U U U U U U U U U U U (by omega) (k2) (fun x hx=>?_)
  have hx:R[q]?=some x:=hx
  have hxm:=hRm x (List.mem_of_getElem? hx)
  refine KW.getL h4.up U U U U U U U U U U U U U U U U (by omega) (by omega) (fun kk' b1 d1 hk1 hs1=>?_)
  have hk1:ks[e]?=some kk':=hk1
  rw[he] at hk1
  cases hk1
  have hkl:=hkk.1
  refine KW.getL hs1 U U U U U U U U U U U U U U U U (by omega) (by omega) (fun ky b2 d2 hk2 hs2=>?_)
  have hk2:kk[x.toNat]?=some ky:=hk2
  have hky:=hkk.2 ky (List.mem_of_getElem? hk2)
  have hkyl:=hky.1
  refine KW.getI hs2 U U U U U U U U U U U U U U U U (by omega) (by omega) (fun k0 hk0=>?_)
  refine KW.getI h5.up U U U U U U U U U U U U U U U U (by omega) (by omega) (fun v hv=>?_)
  refine KW.getI hs2 U U U U U U U U U U U U U U U U (by omega) (by omega) (fun k1 hk1'=>?_)
  have ek0:ky.getD 0 0=k0:=getD_of hk0
  have ek1:ky.getD 1 0=k1:=getD_of hk1'
  have ev:vals.getD q 0=v:=getD_of hv
  have eR:R.getD q 0=x:=getD_of hx
  have ekk:kk.getD x.toNat []=ky:=by rw[List.getD_eq_getElem?_getD,hk2];rfl
  have et:tagAt p kk R vals q=(k0*v+k1)%p:=by unfold tagAt;rw[eR,ekk,ek0,ek1,ev]
  obtain⟨ew,e0⟩:=tag_val hpr (ek0 ▸ elem_at hky.2 hpr.1 0) (ek1 ▸ elem_at hky.2 hpr.1 1) (ev ▸ elem_at hve hpr.1 q)
  refine KW.rem U U U U U U (by rw[ew];exact e0) (by have:=hpr.1;omega) ?_
  rw[ew,← et]
  have e1:=range_map_succ (tagAt p kk R vals) q
  refine KW.app1 (xs:=((List.range q).map (tagAt p kk R vals)).map (Value.int .i64)) (v:=.int .i64 (tagAt p kk R vals q)) 1 2 U U U U U U U U U U U U U U U U U U U U U U U (by simp) (by show(_+1)*8≤_;first | omega | (simp only;omega)) (by first | omega | (simp only;omega)) ?_
  refine KW.nxt U U (fun H' g=>⟨(q+1,_),by simp only;omega,by first | omega | (simp only;omega),⟨rfl,rfl,rfl,by simp only[e1,List.length_append,List.length_singleton];rfl,rfl,rfl,congrArg (Value.int .i64) (inc64 (by omega)),trivial⟩,g.eqT (by simp only[e1,List.map_append];rfl)⟩)
 ·obtain rfl:q=R.length:=by simp only at k2;omega
  refine KW.retM1 U U U U (fun H1 g=>MkL.of g (j:=1) rfl (g.ge (H1:=H) (j:=1) rfl))
end
noncomputable def codeD (x:T_Deal) (e j:Int):Int:=if tv (DealOk x)=true then(if(0≤e∧e≤(x.2.2.1.length:Int)-1)∧(0≤j∧j≤x.1.1-1) then 0 else 2) else 1
abbrev blD (x:T_Deal) (e:Int):List Int:=x.2.2.1.getD e.toNat []
abbrev kkD (x:T_Deal) (e:Int):List (List Int):=x.2.2.2.getD e.toNat []
structure DealAt (x:T_Deal) (e j:Int) (E J:Nat):Prop where
 ee:e=E
 jj:j=J
 j6:J≤6
 sch:OkSch x.1.1 x.1.2.1 x.1.2.2.1 x.1.2.2.2.1 x.1.2.2.2.2
 sec:0≤x.2.1∧x.2.1≤x.1.2.2.1-1
 hb:x.2.2.1[E]?=some (blD x e)
 hk:x.2.2.2[E]?=some (kkD x e)
 bl:((blD x e).length:Int)=x.1.2.2.2.1-1∧Elems x.1.2.2.1 (blD x e)
 key:KeysOk x.1.2.2.1 x.1.2.2.2.2.length (kkD x e)
theorem codeD_ok {x:T_Deal} {e j:Int} (h:codeD x e j=0):∃E J,DealAt x e j E J:=by
 unfold codeD at h
 split at h
 ·rename_i hd
  have hd:DealOk x:=tv_iff.1 hd
  split at h
  ·rename_i hr
   have hbl:=hd.bl
   have hkl:=hd.kl
   have h7:=hd.sch.h7
   have h1:x.2.2.1[e.toNat]?=some (blD x e):=by
    show _=some (x.2.2.1.getD e.toNat [])
    rw[List.getD_eq_getElem?_getD,List.getElem?_eq_getElem (by omega)];rfl
   have h2:x.2.2.2[e.toNat]?=some (kkD x e):=by
    show _=some (x.2.2.2.getD e.toNat [])
    rw[List.getD_eq_getElem?_getD,List.getElem?_eq_getElem (by omega)];rfl
   have h3:=hd.bk _ _ _ h1 h2
   exact⟨e.toNat,j.toNat,by omega,by omega,by omega,hd.sch,hd.sec,h1,h2,h3.1,h3.2⟩
  ·cases h
 ·cases h
def valsD (x:T_Deal) (e j:Int):List Int:=valsOf x.1.2.2.1 x.1.2.2.2.2 x.1.2.1 x.2.1 (blD x e) j
def tagsD (x:T_Deal) (e j:Int) (vals:List Int):List Int:=tagsOf x.1.2.2.1 (kkD x e) (rowsOf x.1.2.1 j) vals
def lieOf (p:Int) (vals:List Int) (lie:Int):List Int:=match vals with
 | []=>[]
 | v :: vs=>((v+lie)%p) :: vs
theorem lie_len {p:Int} {vals:List Int} {lie:Int}:(lieOf p vals lie).length=vals.length:=by cases vals<;>rfl
theorem lie_in {p:Int} {vals:List Int} {lie:Int} (hp:PrimeP p) (h:Elems p vals):Elems p (lieOf p vals lie):=fun x hx=>by
 cases vals with
 | nil=>exact h x hx
 | cons v vs=>
  rcases List.mem_cons.1 hx with rfl | hx
  ·have h1:=hp.1
   have:=Int.emod_nonneg (v+lie) (show p≠0 by omega)
   have:=Int.emod_lt_of_pos (v+lie) (show 0<p by omega)
   omega
  ·exact h x (List.mem_cons_of_mem _ hx)
section
variable {S:Ids} {H0:AH}
def MkLC (xs:List Int) (code:Int) (n:Nat) (v:Value) (H1:AH):Prop:=∃a c,v=.tuple #[.slice a xs.length c,.int .i64 code]∧M_Int64S.R (New n H1.n) H1 xs [.slice a xs.length c]
theorem MkLC.nil {code:Int} {n:Nat} {H1:AH} {v:Value} (hv:v=.tuple #[.slice none 0 0,.int .i64 code]):MkLC [] code n v H1:=⟨none,0,hv,ml1' (.inl ⟨rfl,_,_,rfl,fun _=>rfl⟩)⟩
theorem Good.made {S0:Ids} {H0 H1 H2:AH} {T:List Var} {n lo m:Nat} {xs:List Int} {a:Option Addr} {c:Nat} (g:Good S0 H0 T n H2) [o:On (New m H1.n) H1 S0 H0] (hm:lo≤m) (h:KI.Ml (New m H1.n) H1 (.slice a xs.length c) xs):KI.Ml (New lo H2.n) H2 (.slice a xs.length c) xs:=
 Kn.Ml.st h (g.out (fun id hid=>by have:=hid.1;omega)).st
end
section
variable {S:Ids} {H0:AH}
theorem cloneI {a c} {xs:List Int} (hl:xs.length≤1048576) (hs:KI.Sl S H0 (.slice a xs.length c) xs):SpecM Try.prog S H0 64 [.slice a xs.length c] (MkL xs):=by
 refine SpecM.of1 Try.func64 rfl (by kernel_rfl) rfl (fun H _=>?_)
 refine KW.cndB U U (fun h=>?_) (fun h=>?_)
 ·have ha:a=none:=by cases a with
   | none=>rfl
   | some a=>simp at h
  have hx:xs=[]:=by
   rcases hs with⟨hx,_⟩ | ⟨id,k,c1,b,h1,_⟩
   ·exact hx
   ·rw[ha] at h1;cases h1
  subst hx
  refine KW.retM1 U U U U (fun H1 g=>⟨none,0,rfl,.inl ⟨rfl,_,_,rfl,fun _=>rfl⟩⟩)
 ·refine KW.lit U U U U U U U U U U [] U U (fun v hv=>by simp at hv) rfl ?_
  refine KW.appV 0 U U U U U U U U U U (fun H1 g=>acells_I hs.up g) (by simp) (by simp) (fun v hv=>by obtain⟨_,_,rfl⟩:=List.mem_map.1 hv;rfl) (by show(_+_)*8≤_;simp only[List.length_cons,List.length_nil];omega) (by simp only[List.length_cons,List.length_nil];omega) (show 0+xs.length=xs.length from by omega) (fun oa _ _=>?_)
  refine KW.retM1 U U U U (fun H1 g=>MkL.of g (j:=0) rfl (g.ge (H1:=H) (j:=0) rfl))
theorem l00Same {a c a' c'} {xs ys:List Int} (hl:xs.length≤1048576) (hs:KI.Sl S H0 (.slice a xs.length c) xs) (hs':KI.Sl S H0 (.slice a' ys.length c') ys):Spec Try.prog S H0 97 [.slice a xs.length c,.slice a' ys.length c'] (fun v=>v=.bool (tv (xs=ys))):=by
 refine Spec.of1 Try.func97 rfl (by kernel_rfl) rfl (fun H _=>?_)
 refine KW.cndB U U (fun h=>?_) (fun h=>?_)
 ·exact KW.ret U U U U (by rw[tv_false (fun hc=>by rw[hc] at h;simp at h)];rfl)
 have h:xs.length=ys.length:=by simp at h;omega
 refine KW.lp U U (fun i:Nat=>[(0,.slice a xs.length c),(1,.slice a' ys.length c'),(5,.int .i64 i)]) (fun i=>i≤xs.length∧∀j,j<i→xs[j]?=ys[j]?) (fun i=>xs.length-i) (0) (⟨by omega,fun j h=>absurd h (by omega)⟩) ⟨rfl,rfl,rfl,trivial⟩ (fun i hi bE n=>?_)
 obtain⟨hi,hj⟩:=hi
 refine KW.cnd U U (fun h2=>?_) (fun h2=>?_)
 ·refine KW.getI hs.up U U U U U U U U U U U U U U U U (by omega) (h2) (fun x hx=>?_)
  refine KW.getI hs'.up U U U U U U U U U U U U U U U U (by omega) (by omega) (fun y hy=>?_)
  have hx:xs[i]?=some x:=hx
  have hy:ys[i]?=some y:=hy
  refine KW.cndB U U (fun h3=>?_) (fun h3=>?_)
  ·exact KW.ret U U U U (by rw[tv_false (fun hc=>by subst hc;rw[hx] at hy;cases hy;simp at h3)];rfl)
  have h3:x=y:=by simpa using h3
  refine KW.nxt U U (fun H' g=>⟨i+1,⟨by omega,upto hj (by rw[hx,hy,h3])⟩,by first | omega | (simp only;omega),⟨rfl,rfl,congrArg (Value.int .i64) (inc64 (by omega)),trivial⟩,g⟩)
 ·have:xs=ys:=List.ext_getElem? fun j=>by
   rcases Nat.lt_or_ge j i with h | h
   ·exact hj j h
   ·rw[List.getElem?_eq_none (by omega),List.getElem?_eq_none (by omega)]
  exact KW.ret U U U U (by rw[tv_true this];rfl)
end
end Go.Proofs.Ytlapbbffoapleaa.Am
/- Contracts: SequenceFor of the program. Each holds under its own conditions. -/
set_option linter.unusedVariables false
set_option linter.unusedSimpArgs false
set_option maxRecDepth 20000
namespace Go.Proofs.Ytlapbbffoapleaa.Am
open Go Go.RowKit Go.Proofs
theorem Least.one {gs:List (List Int)} {k b x w w':Nat} {ok ok':Bool} (h:Least gs k b x w ok) (h':Least gs k b x w' ok'):w=w'∧ok=ok':=by
 rcases h with⟨rfl,h1,h2,h3⟩ | ⟨rfl,rfl,h1⟩<;>rcases h' with⟨rfl,k1,k2,k3⟩ | ⟨rfl,rfl,k1⟩
 ·rcases Nat.lt_trichotomy w w' with h | h | h
  ·exact absurd h2 (k3 w h)
  ·exact⟨h,rfl⟩
  ·exact absurd k2 (h3 w' h)
 ·exact absurd h2 (k1 w h1)
 ·exact absurd k2 (h1 w' (by omega))
 ·exact⟨rfl,rfl⟩
def bef (ns:List Nat) (i:Nat):Nat:=if i=0 then 0 else ns.getD (i-1) 0
open Classical in
noncomputable def leastW (gs:List (List Int)) (k b x:Nat):Nat:=if h:∃w,Least gs k b x w true then Classical.choose h else 0
def OkAt (gs:List (List Int)) (k:Nat) (ns:List Nat) (i:Nat):Prop:=Chd gs k (bef ns i) (ns.getD i 0)∧∃w,Least gs k (bef ns i) (ns.getD i 0) w true
abbrev nums (chain:List (List Int)):List Nat:=chain.map bitsOf
noncomputable def withAt (gs:List (List Int)) (k:Nat) (ns:List Nat) (i:Nat):List Int:=hold (leastW gs k (bef ns i) (ns.getD i 0)) 7
noncomputable def withs (gs:List (List Int)) (k:Nat) (ns:List Nat) (n:Nat):List (List Int):=(List.range n).map (withAt gs k ns)
def MkQC (r:T_Sequence) (code:Int) (n:Nat) (v:Value) (H1:AH):Prop:=∃cs:List Value,v=.tuple #[.agg cs.toArray,.int .i64 code]∧M_Sequence.R (New n H1.n) H1 r cs
theorem nilM {X:Ids} {H:AH} {α:Type} {d:Kn α}:d.ml.R X H [] [.slice none 0 0]:=ml1' (.inl ⟨rfl,_,_,rfl,fun _=>rfl⟩)
theorem seqNil {X:Ids} {H:AH}:M_Sequence.R X H ([],[],[]) [.slice none 0 0,.slice none 0 0,.slice none 0 0]:=
 mpR (X:=None_) (cs:=[.slice none 0 0]) nilM (mpR (X:=None_) (Y:=None_) (cs:=[.slice none 0 0]) nilM nilM (fun _ p=>p.elim) (fun _ p=>p.elim) (fun _ p _=>p.elim)) (fun _ p=>p.elim) (fun _ p=>p) (fun _ p _=>p.elim)
theorem MkQC.nil {code:Int} {n:Nat} {v:Value} {H1:AH} (hv:v=.tuple #[.agg #[.slice none 0 0,.slice none 0 0,.slice none 0 0],.int .i64 code]):MkQC ([],[],[]) code n v H1:=⟨_,hv,seqNil⟩
theorem codeF_ok {m:Int} {gs:List (List Int)} (h:codeF m gs=0):FamOk m gs:=by
 unfold codeF at h
 split at h
 ·rename_i h1;exact tv_iff.1 h1
 ·cases h
structure SqS where
 i:Nat
 S:Ids
 A:AH
 l1:Value
 l2:Value
 tail:List Var
 V1:Ids
 V2:Ids
 c1:List Value
 c2:List Value
structure SqI (gs:List (List Int)) (k:Nat) (chain:List (List Int)) (SA:Ids) (HA:AH) (s:SqS):Prop where
 le:s.i≤chain.length
 old:St SA HA s.S s.A
 b1:RowsB KI.ml s.S s.A s.V1 (chain.take s.i) s.c1
 b2:RowsB KI.ml s.S s.A s.V2 (withs gs k (nums chain) s.i) s.c2
 v1:∀id,s.V1 id→HA.n≤id
 v2:∀id,s.V2 id→HA.n≤id
 dis:∀id,s.V1 id→s.V2 id→False
 ok:∀j,j<s.i→OkAt gs k (nums chain) j
 form:(s.i=0∧s.l1=.slice none 0 0∧s.l2=.slice none 0 0∧s.tail=[]∧s.c1=[]∧s.c2=[])∨(0<s.i∧∃o1 o2,s.l1=.slice (some ⟨o1,0,some 1⟩) s.i s.i∧s.l2=.slice (some ⟨o2,0,some 1⟩) s.i s.i∧s.tail=[(o1,⟨36,true,s.c1⟩),(o2,⟨36,true,s.c2⟩)])
theorem SqI.next {gs:List (List Int)} {k:Nat} {chain:List (List Int)} {SA:Ids} {HA:AH} {s:SqS} (h:SqI gs k chain SA HA s) {SC SG:Ids} {HC HG:AH} {n1 n2:Nat} {y:List Int} {v1 v2 l1 l2:Value} {tail:List Var} (t1:St s.S s.A SC HC) (t2:St SC HC SG HG) (w1:On (New n1 HC.n) HC SC HC) (w2:On (New n2 HG.n) HG SG HG) (low:∀id,s.S id→id<n1) (hn:HA.n≤n1) (hn2:HC.n≤n2) (hn3:n1≤HC.n) (hy:chain[s.i]?=some y) (hc:KI.Ml (New n1 HC.n) HC v1 y) (hg:KI.Ml (New n2 HG.n) HG v2 (withAt gs k (nums chain) s.i)) (ok:OkAt gs k (nums chain) s.i)
  (form:0<s.i+1∧∃o1 o2,l1=.slice (some ⟨o1,0,some 1⟩) (s.i+1) (s.i+1)∧l2=.slice (some ⟨o2,0,some 1⟩) (s.i+1) (s.i+1)∧tail=[(o1,⟨36,true,s.c1++[v1]⟩),(o2,⟨36,true,s.c2++[v2]⟩)]):
  SqI gs k chain SA HA ⟨s.i+1,SG,HG,l1,l2,tail,fun id=>s.V1 id∨New n1 HC.n id,fun id=>s.V2 id∨New n2 HG.n id,s.c1++[v1],s.c2++[v2]⟩:=by
 obtain⟨hil,rfl⟩:=List.getElem?_eq_some_iff.1 hy
 haveI o1:On s.S s.A SC HC:=⟨t1⟩
 haveI o2:On SC HC SG HG:=⟨t2⟩
 have et:chain.take (s.i+1)=chain.take s.i++[chain[s.i]]:=List.take_succ_eq_append_getElem hil
 have ew:withs gs k (nums chain) (s.i+1)=withs gs k (nums chain) s.i++[withAt gs k (nums chain) s.i]:=by unfold withs;rw[List.range_succ,List.map_append];rfl
 have lowV1:∀id,s.V1 id→id<n1:=fun id hid=>low id (h.b1.sub id hid)
 have lowV2:∀id,s.V2 id→id<n1:=fun id hid=>low id (h.b2.sub id hid)
 have c2:KI.ml.R (New n1 HC.n) HG chain[s.i] [v1]:=ml1' (hc.same (fun id hid=>(t2 id (w1.st id hid).1).2))
 refine⟨by simp only;omega,(h.old.trans t1).trans t2,?_,?_,fun id hid=>hid.elim (h.v1 id) (fun p=>by have:=p.1;omega),fun id hid=>hid.elim (h.v2 id) (fun p=>by have:=p.1;omega),fun id p q=>?_,upto h.ok ok,.inr form⟩
 ·simp only[et]
  exact((h.b1.up (S':=SC) (A':=HC)).up (S':=SG) (A':=HG)).snoc c2 (fun id hid=>(t2 id (w1.st id hid).1).1) (fun id p q=>by have:=lowV1 id p;have:=q.1;omega)
 ·simp only[ew]
  exact((h.b2.up (S':=SC) (A':=HC)).up (S':=SG) (A':=HG)).snoc (ml1' hg) (fun id hid=>(w2.st id hid).1) (fun id p q=>by have:=lowV2 id p;have:=q.1;omega)
 ·rcases p with p | p<;>rcases q with q | q
  ·exact h.dis id p q
  ·have:=lowV1 id p;have:=q.1;omega
  ·have:=lowV2 id q;have:=p.1;omega
  ·have:=p.2;have:=q.1;omega
theorem rises_lt {m:Int} {q:Nat} (hq:m=q) {g:List Int} (h:Rises 0 (m-1) g):∀x∈g,0≤x∧x<(q:Int):=fun x hx=>by have:=rises_mem h x hx;omega
section
variable {S:Ids} {H0:AH}
end
end Go.Proofs.Ytlapbbffoapleaa.Am

namespace Go.Proofs.Ytlapbbffoapleaa.Am
open Go Go.RowKit Go.Proofs
theorem bit1 {x h:Nat} (hx:x<4611686018427387904):(IntKind.i64.wrap ((BitVec.ofInt IntKind.i64.bits ((x / 2 ^ h:Nat):Int) &&& BitVec.ofInt IntKind.i64.bits ((1:Nat):Int)).toNat:Int)==((1:Nat):Int))=x.testBit h:=by
 rw[and_i64 (Nat.lt_of_le_of_lt (Nat.div_le_self _ _) hx) (by decide),← bit_is]
 generalize x / 2 ^ h &&& 1=q
 by_cases e:q=1
 ·subst e;rfl
 ·rw[show(q==1)=false from by simpa using e]
  simp only[beq_eq_false_iff_ne,ne_eq]
  omega
section
variable {S:Ids} {H0:AH}
end
abbrev numsI (chain:List (List Int)):List Int:=chain.map fun g=>((bitsOf g:Nat):Int)
section
variable {S:Ids} {H0:AH}
theorem l07Numbers {q:Nat} (hq:q≤8) {a c} {xs:List (List Int)} (hB:B_Int64SS xs) (hx:∀g∈xs,∀z∈g,0≤z∧z<(q:Int)) (hs:KI.sl.Sl S H0 (.slice a xs.length c) xs):SpecM Try.prog S H0 118 [.slice a xs.length c] (MkL (numsI xs)):=by
 refine SpecM.of1 Try.func118 rfl (by kernel_rfl) rfl (fun H _=>?_)
 have hl:=hB.len
 refine KW.lit U U U U U U U U U U [] U U (fun v hv=>by simp at hv) rfl ?_
 refine KW.lpM U U (fun s:Nat × Nat=>[(0,.slice a xs.length c),(3,.slice (some ⟨s.2,0,some 1⟩) (numsI (xs.take s.1)).length (numsI (xs.take s.1)).length),(4,.int .i64 s.1)]) (fun s=>Low H.n) (fun s=>H) (fun s=>[(s.2,⟨_,true,(numsI (xs.take s.1)).map (Value.int .i64)⟩)]) (fun s=>s.1≤xs.length) (fun s=>xs.length-s.1) ((0,_)) (by simp) ⟨rfl,rfl,rfl,trivial⟩ U U (rfl) (fun s hi bE n=>?_)
 obtain⟨i,o⟩:=s
 simp only at hi
 have hil:(numsI (xs.take i)).length≤i:=by rw[List.length_map,List.length_take];omega
 refine KW.cnd U U (fun k1=>?_) (fun k1=>?_)
 ·refine KW.getL hs.up U U U U U U U U U U U U U U U U (by omega) (k1) (fun y ay cy hy hsy=>?_)
  have hy:xs[i]?=some y:=hy
  have hym:=List.mem_of_getElem? hy
  refine KW.callE U U U U U (l07Bits (m:=q) hq (by have:=hB.each y hym;omega) (hx y hym) hsy) (fun _ _=>?_)
  have e:=map_take_succ (fun g:List Int=>((bitsOf g:Nat):Int)) hy
  refine KW.app1 (xs:=(numsI (xs.take i)).map (Value.int .i64)) (v:=.int .i64 (bitsOf y:Nat)) 0 1 U U U U U U U U U U U U U U U U U U U U U U U (by simp) (by show(_+1)*8≤_;first | omega | (simp only;omega)) (by first | omega | (simp only;omega)) ?_
  refine KW.nxt U U (fun H' g=>⟨(i+1,_),by simp only;omega,by first | omega | (simp only;omega),⟨rfl,by simp only[e,List.length_append,List.length_singleton];rfl,congrArg (Value.int .i64) (inc64 (by omega)),trivial⟩,g.eqT (by simp only[e,List.map_append];rfl)⟩)
 ·obtain rfl:i=xs.length:=by simp only at k1;omega
  rw[List.take_of_length_le (Nat.le_refl _)]
  refine KW.retM1 U U U U (fun H1 g=>MkL.of g (j:=0) rfl (g.ge (H1:=H) (j:=0) rfl))
end
section
variable {S:Ids} {H0:AH}
end
section
variable {S:Ids} {H0:AH}
theorem holdUp {x q m:Nat} (hx:x<2 ^ q) (hq:q≤m):hold x m=hold x q:=by
 have:=hold_up hx (m-q)
 rw[show q+(m-q)=m by omega] at this
 exact this
end
end Go.Proofs.Ytlapbbffoapleaa.Am
namespace Go.Proofs.Ytlapbbffoapleaa.Am
open Go Go.RowKit Go.Proofs Go.Proofs.Ytlapbbffoapleaa.Pl
theorem Spec.up' {P:Program} {S S':Ids} {H H':AH} {f:FuncId} {args:List Value} {post:Value→Prop} [o:On S H S' H'] (h:Spec P S H f args post):Spec P S' H' f args post:=fun H1 hf hz=>h H1 hf (fun id hid=>⟨(hz id (o.st id hid).1).1,(hz id (o.st id hid).1).2.trans (o.st id hid).2⟩)
structure CrS where
 j:Nat
 S:Ids
 A:AH
 V:Ids
 cs:List Value
 o:Nat
structure CrI (q:Nat) (op:Nat→Prop) (H:AH) (s:CrS):Prop where
 le:s.j≤2 ^ q
 old:St (Low H.n) H s.S s.A
 b:RowsB KI.ml s.S s.A s.V (minsU q op s.j) s.cs
 v:∀id,s.V id→H.n≤id
 o:H.n≤s.o
section
variable {S:Ids} {H0:AH}
theorem crowds {q:Nat} (hq:q≤5) {op:Nat→Prop} (hu:UpC (2 ^ q) op) {g:FuncId} {i1 i2:Nat} {sp1 sp2:Option Nat} (tell:∀c:Nat,c<2 ^ q→Spec Try.prog S H0 g [.int .u64 c,.pointer (some ⟨i1,0,none⟩),.pointer (some ⟨i2,0,none⟩)] (fun v=>v=.bool (tv (Mn q op c)))):
  SpecM Try.prog S H0 188 [.int .i64 q,.func (.func g) #[] #[.pointer (some ⟨i1,0,sp1⟩),.pointer (some ⟨i2,0,sp2⟩)]] (MkSS (isA (minsU q op (2 ^ q)))):=by
 refine SpecM.of1 Try.func188 rfl (by kernel_rfl) rfl (fun H _=>?_)
 have hp:2 ^ q≤32:=by
  have:=Nat.pow_le_pow_right (n:=2) (by decide) hq
  simpa using this
 have hpos:=Nat.two_pow_pos q
 refine KW.lit U U U U U U U U U U [] U U (fun v hv=>by simp at hv) rfl ?_
 refine KW.lpM U U (fun s:CrS=>[(0,.int .i64 q),(1,.func (.func g) #[] #[.pointer (some ⟨i1,0,sp1⟩),.pointer (some ⟨i2,0,sp2⟩)]),(5,.slice (some ⟨s.o,0,some 1⟩) (minsU q op s.j).length (minsU q op s.j).length),(6,.int .u64 s.j)]) (fun s=>s.S) (fun s=>s.A) (fun s=>[(s.o,⟨_,true,s.cs⟩)]) (fun s=>CrI q op H s) (fun s=>2 ^ q-s.j) (⟨0,Low H.n,H,fun _=>False,[],H.n⟩) (⟨Nat.zero_le _,fun id hid=>⟨hid,rfl⟩,RowsB.nil _ _,fun _ h=>h.elim,Nat.le_refl _⟩) ⟨rfl,rfl,rfl,rfl,trivial⟩ U U (rfl) (fun s hi bE n=>?_)
 obtain⟨j,S1,A1,V,cs,o⟩:=s
 obtain⟨g1,g2,g3,g4,g5⟩:=hi
 simp only at g1 g2 g3 g4 g5
 haveI:Stp (Low H.n) H S1 A1:=⟨g2⟩
 have hcl:=g3.len
 have hml:=minsU_len (q:=q) (op:=op) (n:=j)
 refine KW.callE U U U U U (everybody (m:=q) (by omega)) (fun _ _=>?_)
 refine KW.cnd U U (fun k1=>?_) (fun k1=>?_)
 ·have k1:(j:Int)≤((2 ^ q-1:Nat):Int):=k1
  have hx:j<2 ^ q:=by omega
  refine KW.callE U U U U U ((tell j hx).up') (fun _ _=>?_)
  refine KW.cndB U U (fun k2=>?_) (fun k2=>?_)
  ·have eN:minsU q op (j+1)=minsU q op j++[hold j q]:=by rw[minsU_next,if_pos k2]
   have eNl:(minsU q op (j+1)).length=(minsU q op j).length+1:=by rw[eN,List.length_append,List.length_singleton]
   refine KW.ids (fun hlow hvar=>?_)
   refine KW.fact (fun _ g=>g.nle (H1:=H)) (fun hn0=>?_)
   refine KW.callN1 U U U U U (group (x:=j) (by omega)) (fun v HC SC mC _ _ hv=>?_)
   obtain⟨a5,c5,rfl,hC⟩:=hv
   rw[holdUp hx (show q≤7 by omega)] at hC ⊢
   refine KW.app1 (xs:=cs) (v:=.slice a5 (hold j q).length c5) 0 1 U U U U U U U U U U U U U U U U U U U U U U U (by omega) (by show((minsU q op j).length+1)*24≤_;omega) (by show(minsU q op j).length+1≤_;omega) ?_
   have wC:On (New _ HC.n) HC SC HC:=‹_›
   have fI:=(g3.up (S':=SC) (A':=HC)).snoc (ml1' hC) (fun id hid=>(wC.st id hid).1) (fun id p r=>by have:=hlow id (g3.sub id p);have:=r.1;omega)
   have fV:∀id,V id∨New _ HC.n id→H.n≤id:=fun id hid=>hid.elim (g4 id) (fun p=>Nat.le_trans hn0 p.1)
   have tH:St (Low H.n) H SC HC:=(inferInstance:On (Low H.n) H SC HC).st
   exact KW.nxt U U (fun H' g=>⟨⟨j+1,SC,HC,_,_,_⟩,⟨hx,tH,by simp only[eN];exact fI,fV,by simp only;omega⟩,by simp only;omega,⟨rfl,rfl,congrArg (fun z=>Value.slice (some ⟨_,0,some 1⟩) z z) eNl.symm,congrArg (Value.int .u64) (incu64 (by omega)),trivial⟩,g⟩)
  ·have k2:¬tv (Mn q op j)=true:=by simpa using k2
   have eN:minsU q op (j+1)=minsU q op j:=by rw[minsU_next,if_neg k2]
   exact KW.nxt U U (fun H' g=>⟨⟨j+1,S1,A1,V,cs,o⟩,⟨by simp only;omega,g2,by simp only[eN];exact g3,g4,g5⟩,by simp only;omega,⟨rfl,rfl,congrArg (fun z=>Value.slice (some ⟨o,0,some 1⟩) (List.length z) (List.length z)) eN.symm,congrArg (Value.int .u64) (incu64 (by omega)),trivial⟩,g⟩)
 ·have k1:¬(j:Int)≤((2 ^ q-1:Nat):Int):=k1
  obtain rfl:j=2 ^ q:=by have:=Nat.two_pow_pos q;omega
  have hten:=mins_ten hq hu
  refine KW.freeze 0 rfl (fun A2 S2 hn2 hS2 st2 hm2 ho2 hnS2 hlow2=>?_)
  have hY:∀i,S1 i→S2 i∧i≠o:=fun i hi=>⟨(st2.st i hi).1,fun e=>hnS2 (e ▸ hi)⟩
  have g3':RowsB KI.ml S1 A2 V (minsU q op (2 ^ q)) cs:=g3.back g3 (fun i hi=>(st2.st i (g3.sub i hi)).2)
  refine KW.callW (W:=fun i=>i=o) (fun i hi=>(hS2 i).2 (.inr hi)) U U U U U (sortFunc (rows:=minsU q op (2 ^ q)) (by omega) (fun x hx=>by have:=minsU_mem hx;omega) ((hS2 o).2 (.inr rfl)) hm2 hY g3') (fun v H3 S3 hn3 st3 hw3 hp3=>?_)
  obtain⟨cs',p1,p2⟩:=hp3
  refine KW.thaw o _ (st3 o ((hS2 o).2 (.inr rfl))).1 p1 ?_
  have t4:∀i,S1 i→(S3 i∧i≠o)∧H3.m i=A1.m i:=fun i hi=>⟨⟨(st3 i (hY i hi).1).1,(hY i hi).2⟩,((st3 i (hY i hi).1).2 (hY i hi).2).trans (st2.st i hi).2⟩
  haveI:Stp S1 A1 (fun i=>S3 i∧i≠o) H3:=⟨t4⟩
  have p3:RowsB KI.ml (fun i=>S3 i∧i≠o) H3 V (isA (minsU q op (2 ^ q))) cs':=⟨p2.len,fun i hi=>(t4 i (g3.sub i hi)).1,p2.rows⟩
  refine KW.retM1 U U U U (fun H1 g=>?_)
  have hm:=p3.ml (X:=New H.n H1.n) rfl g (j:=0) rfl ⟨g5,by have h1:o<H3.n:=(g.vars 0 _ rfl).2.1;have:=g.n_;omega⟩ (fun i hi=>⟨g4 i hi,by have:=(g.froz i (p3.sub i hi)).1;have:=g.n_;omega⟩)
  exact⟨_,_,by rw[isA_len];rfl,by rw[isA_len] at hm ⊢;exact hm⟩
theorem famIs {q:Nat} (hq:q≤5) {op:Nat→Prop} {g:FuncId} {i1 i2 k1 k2:Nat} {sp1 sp2:Option Nat} {ty1 ty2:TypeId} {w1 w2:Bool} (h1:S i1∧H0.m i1=some ⟨ty1,w1,[.func (.func g) #[] #[.pointer (some ⟨k1,0,sp1⟩),.pointer (some ⟨k2,0,sp2⟩)]]⟩) (h2:S i2∧H0.m i2=some ⟨ty2,w2,[.int .i64 q]⟩) (tell:∀c:Nat,c<2 ^ q→Spec Try.prog S H0 g [.int .u64 c,.pointer (some ⟨k1,0,none⟩),.pointer (some ⟨k2,0,none⟩)] (fun v=>v=.bool (tv (op c)))) {c:Nat} (hc:c<2 ^ q):
  Spec Try.prog S H0 189 [.int .u64 c,.pointer (some ⟨i1,0,none⟩),.pointer (some ⟨i2,0,none⟩)] (fun v=>v=.bool (tv (Mn q op c))):=by
 have hp:2 ^ q≤32:=by
  have:=Nat.pow_le_pow_right (n:=2) (by decide) hq
  simpa using this
 refine Spec.of1 Try.func189 rfl (by kernel_rfl) rfl (fun H _=>?_)
 obtain⟨a1,b1⟩:=On.blk (S':=Low H.n) (H':=H) h1.1 h1.2
 obtain⟨a2,b2⟩:=On.blk (S':=Low H.n) (H':=H) h2.1 h2.2
 refine KW.ldP a1 b1 U U U U U U ?_
 refine KW.callE U U U U U ((tell c hc).up') (fun _ _=>?_)
 refine KW.cndB U U (fun k3=>?_) (fun k3=>?_)
 ·have k3:¬op c:=fun hx=>by rw[tv_true hx] at k3;cases k3
  exact KW.ret U U U U (by rw[tv_false (p:=Mn q op c) (fun hx=>k3 hx.1)];rfl)
 ·have k3:op c:=Classical.byContradiction fun hx=>by rw[tv_false hx] at k3;cases k3
  refine KW.ldP a2 b2 U U U U U U ?_
  refine KW.lp U U (fun h:Nat=>[(0,.int .u64 c),(1,.pointer (some ⟨i1,0,none⟩)),(2,.pointer (some ⟨i2,0,none⟩)),(10,.int .i64 q),(11,.int .i64 h)]) (fun h=>h≤q∧∀i,i<h→c.testBit i=true→¬op (dif c (2 ^ i))) (fun h=>q-h) (0) (⟨Nat.zero_le _,fun i hi=>absurd hi (Nat.not_lt_zero _)⟩) ⟨rfl,rfl,rfl,rfl,rfl,trivial⟩ (fun h hi bE n=>?_)
  obtain⟨hh,hj⟩:=hi
  refine KW.cnd U U (fun k4=>?_) (fun k4=>?_)
  ·have k4:(h:Int)<(q:Int):=k4
   refine KW.callE U U U U U (has (x:=c) (h:=h) (by omega) (by omega)) (fun _ _=>?_)
   refine KW.tstB U U (fun k5=>?_) (fun k5=>?_)
   ·have k5:c.testBit h=true:=k5
    have hph:2 ^ h≤32:=by
     have:=Nat.pow_le_pow_right (n:=2) (by decide) (show h≤5 by omega)
     simpa using this
    have hd:dif c (2 ^ h)≤c:=dif_le
    refine KW.ldP a1 b1 U U U U U U ?_
    refine KW.shlU U U U U U U h rfl (by omega) ?_
    refine KW.callE U U U U U ((by show Spec _ _ _ _ [.int .u64 (IntKind.u64.wrap _),_,_] _;rw[andnot_u64 (by omega) (by omega)];exact(tell (dif c (2 ^ h)) (by omega)).up')) (fun _ _=>?_)
    refine KW.cndB U U (fun k6=>?_) (fun k6=>?_)
    ·have k6:op (dif c (2 ^ h)):=tv_iff.1 k6
     exact KW.ret U U U U (by rw[tv_false (p:=Mn q op c) (fun hx=>hx.2 h (by omega) k5 k6)];rfl)
    ·have k6:¬op (dif c (2 ^ h)):=fun hx=>by rw[tv_true hx] at k6;cases k6
     refine KW.nxt U U (fun H' g=>⟨(h+1),⟨by omega,upto hj (fun _=>k6)⟩,by first | omega | (simp only;omega),⟨rfl,rfl,rfl,rfl,congrArg (Value.int .i64) (inc64 (by omega)),trivial⟩,g⟩)
   ·refine KW.cF U U (by first | (simp;done) | decide) ?_
    refine KW.nxt U U (fun H' g=>⟨(h+1),⟨by omega,upto hj (fun hx=>by rw[hx] at k5;cases k5)⟩,by first | omega | (simp only;omega),⟨rfl,rfl,rfl,rfl,congrArg (Value.int .i64) (inc64 (by omega)),trivial⟩,g⟩)
  ·have k4:¬(h:Int)<(q:Int):=k4
   exact KW.ret U U U U (by rw[tv_true (p:=Mn q op c) ⟨k3,fun i hi hb=>hj i (by omega) hb⟩];rfl)
end
theorem built_Fam0:Try.prog.built 78 []=some #[.int .i64 0,.slice none 0 0]:=by kernel_rfl
theorem built_Fam2 (m:Int) (a:Option Addr) (n c:Nat):Try.prog.built 78 [(0,.int .i64 m),(1,.slice a n c)]=some #[.int .i64 m,.slice a n c]:=by kernel_rfl
def MkFam (m:Int) (L:List (List Int)) (n:Nat) (v:Value) (H1:AH):Prop:=∃a c,v=.agg #[.int .i64 m,.slice a L.length c]∧KI.ml.Ml (New n H1.n) H1 (.slice a L.length c) L
def RkOp (l:List Int) (w c:Nat):Prop:=l.getD (c ||| w) 0≤l.getD c 0
noncomputable def r1_RanksFamily (x:T_Ranks) (whole:List Int):Int:=if tv (OkR x.1 x.2.1 x.2.2)=true then(if tv (Rises 0 (x.1-1) whole)=true then 0 else 2) else 1
noncomputable def r0_RanksFamily (x:T_Ranks) (whole:List Int):T_Family:=if r1_RanksFamily x whole=0 then(x.1,isA (minsU x.1.toNat (RkOp x.2.2 (bitsOf whole)) (2 ^ x.1.toNat))) else(0,[])
def MkFC (r:T_Family) (code:Int) (n:Nat) (v:Value) (H1:AH):Prop:=∃cs:List Value,v=.tuple #[.agg cs.toArray,.int .i64 code]∧M_Family.R (New n H1.n) H1 r cs
theorem famM {X:Ids} {H:AH} {m:Int} {L:List (List Int)} {a:Option Addr} {c:Nat} (h:KI.ml.Ml X H (.slice a L.length c) L):M_Family.R X H (m,L) [.int .i64 m,.slice a L.length c]:=
 mpR (X:=None_) (show KI.R None_ H _ [.int .i64 m] from rfl) (ml1' h) (fun _ p=>p.elim) (fun _ p=>p) (fun _ p _=>p.elim)
theorem famNil {X:Ids} {H:AH}:M_Family.R X H (0,[]) [.int .i64 0,.slice none 0 0]:=
 mpR (X:=None_) (show KI.R None_ H _ [.int .i64 0] from rfl) nilM (fun _ p=>p.elim) (fun _ p=>p) (fun _ p _=>p.elim)
theorem rk_up {m u:Int} {l:List Int} (h:OkR m u l) {w:Nat} (hw:w<2 ^ m.toNat):UpC (2 ^ m.toNat) (RkOp l w):=fun a b ha hb hs h1=>by
 obtain⟨_,_,hl,_,_,hM⟩:=h
 have e1:b ||| (a ||| w)=b ||| w:=Nat.eq_of_testBit_eq fun i=>by
  have e:(a &&& b).testBit i=a.testBit i:=by rw[hs]
  rw[Nat.testBit_and] at e
  simp only[Nat.testBit_or]
  cases ea:a.testBit i<;>cases eb:b.testBit i<;>simp[ea,eb] at e ⊢
 have e2:(b &&& (a ||| w)) &&& a=a:=Nat.eq_of_testBit_eq fun i=>by
  have e:(a &&& b).testBit i=a.testBit i:=by rw[hs]
  rw[Nat.testBit_and] at e
  simp only[Nat.testBit_or,Nat.testBit_and]
  cases ea:a.testBit i<;>cases eb:b.testBit i<;>simp[ea,eb] at e ⊢
 have haw:a ||| w<2 ^ m.toNat:=Nat.or_lt_two_pow ha hw
 have hx:b &&& (a ||| w)<2 ^ m.toNat:=Nat.lt_of_le_of_lt Nat.and_le_left hb
 have m1:=hM b (by omega) (a ||| w) (by omega)
 have m2:=hM a (by omega) (b &&& (a ||| w)) (by omega)
 unfold Bad at m1 m2
 rw[e1] at m1
 rw[Nat.and_comm] at m2
 unfold RkOp at h1 ⊢
 by_cases c1:l.getD a 0>l.getD (b &&& (a ||| w)) 0
 ·exact(m2 (.inl ⟨by rw[Nat.and_comm] at e2 ⊢;exact e2,c1⟩)).elim
 ·by_cases c2:l.getD b 0+l.getD (a ||| w) 0<l.getD (b ||| w) 0+l.getD (b &&& (a ||| w)) 0
  ·exact(m1 (.inr c2)).elim
  ·omega
section
variable {S:Ids} {H0:AH}
theorem familyOf {q:Nat} (hq:q≤5) {op:Nat→Prop} (hu:UpC (2 ^ q) op) {g:FuncId} {k1 k2:Nat} {sp1 sp2:Option Nat} (tell:∀c:Nat,c<2 ^ q→Spec Try.prog S H0 g [.int .u64 c,.pointer (some ⟨k1,0,none⟩),.pointer (some ⟨k2,0,none⟩)] (fun v=>v=.bool (tv (op c)))):
  SpecM Try.prog S H0 136 [.int .i64 q,.func (.func g) #[] #[.pointer (some ⟨k1,0,sp1⟩),.pointer (some ⟨k2,0,sp2⟩)]] (MkFam q (isA (minsU q op (2 ^ q)))):=by
 refine SpecM.of1 Try.func136 rfl (by kernel_rfl) rfl (fun H _=>?_)
 refine KW.callNV1 U U U U U (fun H1 g _=>crowds (S:=Low H1.n) (H0:=H1) hq hu (fun c hc=>famIs (S:=Low H1.n) (H0:=H1) hq ⟨(g.blk (j:=1) rfl).2,(g.blk (j:=1) rfl).1⟩ ⟨(g.blk (j:=0) rfl).2,(g.blk (j:=0) rfl).1⟩ (fun c hc=>(tell c hc).up') hc)) (fun v HC SC mC _ _ hv=>?_)
 obtain⟨a5,c5,rfl,hC⟩:=hv
 refine KW.build U U U U U (built_Fam2 _ _ _ _) ?_
 refine KW.retM1 U U U U (fun H1 g=>?_)
 exact⟨_,_,rfl,(ml1 (g.keep (ml1' hC))).more (g.inn (H:=HC) (fun _ p=>by have:=p.1;omega))⟩
theorem rankIs {m u:Int} {q:Nat} {l:List Int} (hl:l.length=2 ^ q) (hq:q≤5) {w:Nat} (hw:w<2 ^ q) {i1 i2:Nat} {a c0} {ty1 ty2:TypeId} {w1 w2:Bool} (h1:S i1∧H0.m i1=some ⟨ty1,w1,[.int .i64 m,.int .i64 u,.slice a l.length c0]⟩) (h2:S i2∧H0.m i2=some ⟨ty2,w2,[.int .u64 w]⟩) (hs:KI.Sl S H0 (.slice a l.length c0) l) {c:Nat} (hc:c<2 ^ q):
  Spec Try.prog S H0 137 [.int .u64 c,.pointer (some ⟨i1,0,none⟩),.pointer (some ⟨i2,0,none⟩)] (fun v=>v=.bool (tv (RkOp l w c))):=by
 have hp:2 ^ q≤32:=by
  have:=Nat.pow_le_pow_right (n:=2) (by decide) hq
  simpa using this
 refine Spec.of1 Try.func137 rfl (by kernel_rfl) rfl (fun H _=>?_)
 obtain⟨a1,b1⟩:=On.blk (S':=Low H.n) (H':=H) h1.1 h1.2
 obtain⟨a2,b2⟩:=On.blk (S':=Low H.n) (H':=H) h2.1 h2.2
 have ho:c ||| w<2 ^ q:=Nat.or_lt_two_pow hc hw
 refine KW.ldP a1 b1 U U U U U U ?_
 refine KW.callE U U U U U (rank m u c (by omega) hs.up) (fun _ _=>?_)
 refine KW.ldP a1 b1 U U U U U U ?_
 refine KW.ldP a2 b2 U U U U U U ?_
 refine KW.callE U U U U U ((by show Spec _ _ _ _ [_,.int .u64 (IntKind.u64.wrap _)] _;rw[or_u64 (by omega) (by omega)];exact rank m u (c ||| w) (by omega) hs.up)) (fun _ _=>?_)
 refine KW.ret U U U U ?_
 show Value.bool (decide (l.getD c 0≥l.getD (c ||| w) 0))=_
 rw[tv_dec]
 rfl
theorem impl_RanksFamily {x:T_Ranks} {whole:List Int} {cs:List Value} {a1 c1} (hB0:B_Ranks x) (hB1:B_Int64S whole) (h:K_Ranks.R S H0 x cs) (k:K_Int64S.R S H0 whole [.slice a1 whole.length c1]):
  SpecM Try.prog S H0 54 [.agg cs.toArray,.slice a1 whole.length c1] (MkFC (r0_RanksFamily x whole) (r1_RanksFamily x whole)):=by
 obtain⟨a3,c3,rfl,h1⟩:=split_Ranks h
 have s1:=sl1 h1
 have s2:=sl1 k
 obtain⟨m,u,l⟩:=x
 simp only at s1 ⊢
 have hll:l.length≤1048576:=hB0.2.2
 have hwl:whole.length≤1048576:=hB1
 have hm64:I64 m:=hB0.1
 refine SpecM.of1 Try.func54 rfl (by kernel_rfl) rfl (fun H _=>?_)
 refine KW.callE U U U U U (validRanks m u hll s1.up) (fun _ _=>?_)
 by_cases hr:OkR m u l
 ·have hq5:=hr.1
  obtain⟨q,hq⟩:∃q:Nat,m=q:=⟨m.toNat,by omega⟩
  subst hq
  have hl:=hr.2.2.1
  rw[Int.toNat_natCast] at hl
  rw[tv_true hr]
  refine KW.cF U U (by first | (simp;done) | decide) ?_
  refine KW.callE U U U U U (isGroup (q:Int) (xs:=whole) (by omega) (by omega) s2.up) (fun _ _=>?_)
  by_cases hg:Rises 0 ((q:Int)-1) whole
  ·have e1:r1_RanksFamily ((q:Int),u,l) whole=0:=by unfold r1_RanksFamily;rw[if_pos (tv_true hr),if_pos (tv_true hg)]
   have e0:r0_RanksFamily ((q:Int),u,l) whole=((q:Int),isA (minsU q (RkOp l (bitsOf whole)) (2 ^ q))):=by unfold r0_RanksFamily;rw[if_pos e1];rfl
   have hgb:=rises_lt rfl hg
   have hw:bitsOf whole<2 ^ q:=bitsOf_lt (fun x hx=>by have:=hgb x hx;omega)
   have hu:UpC (2 ^ q) (RkOp l (bitsOf whole)):=rk_up hr hw
   rw[tv_true hg,e1,e0]
   refine KW.cF U U (by first | (simp;done) | decide) ?_
   refine KW.callE U U U U U (crowdOf (m:=q) (by omega) (by omega) hgb s2.up) (fun _ _=>?_)
   refine KW.callNV1 U U U U U (fun H1 g _=>familyOf (S:=Low H1.n) (H0:=H1) (q:=q) (by omega) hu (fun c hc=>rankIs (S:=Low H1.n) (H0:=H1) hl (by omega) hw ⟨(g.blk (j:=0) rfl).2,(g.blk (j:=0) rfl).1⟩ ⟨(g.blk (j:=2) rfl).2,(g.blk (j:=2) rfl).1⟩ s1.up hc)) (fun v HC SC mC _ _ hv=>?_)
   obtain⟨a5,c5,rfl,hC⟩:=hv
   refine KW.retM1 U U U U (fun H1 g=>?_)
   exact⟨_,rfl,famM ((ml1 (g.keep (ml1' hC))).more (g.inn (H:=HC) (fun _ p=>by have:=p.1;omega)))⟩
  ·have e1:r1_RanksFamily ((q:Int),u,l) whole=2:=by unfold r1_RanksFamily;rw[if_pos (tv_true hr),if_neg (by rw[tv_false hg];decide)]
   have e0:r0_RanksFamily ((q:Int),u,l) whole=(0,[]):=by unfold r0_RanksFamily;rw[if_neg (by rw[e1];decide)]
   rw[tv_false hg,e1,e0]
   refine KW.cT U U (by first | (simp;done) | decide) ?_
   refine KW.build U U U U U (built_Fam0) ?_
   refine KW.retM1 U U U U (fun H1 g=>?_)
   exact⟨_,rfl,famNil⟩
 ·have e1:r1_RanksFamily (m,u,l) whole=1:=by unfold r1_RanksFamily;rw[if_neg (by rw[tv_false hr];decide)]
  have e0:r0_RanksFamily (m,u,l) whole=(0,[]):=by unfold r0_RanksFamily;rw[if_neg (by rw[e1];decide)]
  rw[tv_false hr,e1,e0]
  refine KW.cT U U (by first | (simp;done) | decide) ?_
  refine KW.build U U U U U (built_Fam0) ?_
  refine KW.retM1 U U U U (fun H1 g=>?_)
  exact⟨_,rfl,famNil⟩
end
theorem bitI {x q:Nat} (hx:x<4611686018427387904):(IntKind.i64.wrap ((BitVec.ofInt IntKind.i64.bits ((x / 2 ^ q:Nat):Int) &&& BitVec.ofInt IntKind.i64.bits ((1:Nat):Int)).toNat:Int)==((1:Nat):Int))=x.testBit q:=by
 rw[and_i64 (Nat.lt_of_le_of_lt (Nat.div_le_self _ _) hx) (by decide),← bit_is]
 generalize x / 2 ^ q &&& 1=q
 by_cases e:q=1
 ·subst e;rfl
 ·rw[show(q==1)=false from by simpa using e]
  simp only[beq_eq_false_iff_ne,ne_eq]
  omega
section
variable {S:Ids} {H0:AH}
theorem l01Of {x m:Nat} (hx:x<2 ^ m) (hm:m≤40):SpecM Try.prog S H0 232 [.int .i64 x] (MkL (hold x m)):=by
 have hp:2 ^ m≤2 ^ 40:=Nat.pow_le_pow_right (by decide) hm
 have e40:(2:Nat) ^ 40=1099511627776:=by decide
 refine SpecM.of1 Try.func232 rfl (by kernel_rfl) rfl (fun H _=>?_)
 refine KW.lit U U U U U U U U U U [] U U (fun v hv=>by simp at hv) rfl ?_
 refine KW.lpM U U (fun s:Nat × Nat=>[(0,.int .i64 x),(3,.slice (some ⟨s.2,0,some 1⟩) (hold x s.1).length (hold x s.1).length),(4,.int .i64 s.1)]) (fun s=>Low H.n) (fun s=>H) (fun s=>[(s.2,⟨_,true,(hold x s.1).map (Value.int .i64)⟩)]) (fun s=>s.1≤m) (fun s=>m+1-s.1) ((0,H.n)) (by simp) ⟨rfl,rfl,rfl,trivial⟩ U U (rfl) (fun s hi bE n=>?_)
 obtain⟨q,o⟩:=s
 simp only at hi
 have hl:=hold_len x q
 refine KW.shr U U U U U U U x q rfl (wru (by omega) (by omega)) (by omega) ?_
 refine KW.cnd U U (fun k1=>?_) (fun k1=>?_)
 ·have k1:((x / 2 ^ q:Nat):Int)>0:=k1
  have hq:q<m:=by
   rcases Nat.lt_or_ge q m with h | h
   ·exact h
   ·have:x / 2 ^ q=0:=Nat.div_eq_of_lt (Nat.lt_of_lt_of_le hx (Nat.pow_le_pow_right (by decide) h))
    omega
  refine KW.shr U U U U U U U x q rfl (wru (by omega) (by omega)) (by omega) ?_
  have eb:=bitI (x:=x) (q:=q) (by omega)
  refine KW.cndB U U (fun k2=>?_) (fun k2=>?_)
  ·have k2:x.testBit q=true:=eb.symm.trans k2
   have e:=hold_next x q
   rw[if_pos k2] at e
   refine KW.app1 (xs:=(hold x q).map (Value.int .i64)) (v:=.int .i64 q) 0 1 U U U U U U U U U U U U U U U U U U U U U U U (by simp) (by show((hold x q).length+1)*8≤_;omega) (by show(hold x q).length+1≤_;omega) ?_
   refine KW.nxt U U (fun H g'=>⟨(q+1,_),by simp only;omega,by simp only;omega,⟨rfl,by simp only[e,List.length_append,List.length_singleton];rfl,congrArg (Value.int .i64) (inc64 (by omega)),trivial⟩,g'.eqT (by simp only[e,List.map_append];rfl)⟩)
  ·have k2:x.testBit q=false:=eb.symm.trans k2
   have e:=hold_next x q
   rw[if_neg (by rw[k2];decide)] at e
   exact KW.nxt U U (fun H g'=>⟨(q+1,o),by simp only;omega,by simp only;omega,⟨rfl,by simp only[e];rfl,congrArg (Value.int .i64) (inc64 (by omega)),trivial⟩,g'.eqT (by simp only[e])⟩)
 ·have k1:¬((x / 2 ^ q:Nat):Int)>0:=k1
  have hxq:x<2 ^ q:=by
   rcases Nat.lt_or_ge x (2 ^ q) with h | h
   ·exact h
   ·have:=Nat.div_pos h (Nat.two_pow_pos q);omega
  refine KW.retM1 U U U U (fun H1 g=>?_)
  have:=MkL.of (xs:=hold x q) g (j:=0) rfl (g.ge (H1:=H) (j:=0) rfl)
  rw[holdUp hxq hi]
  exact this
theorem opens_take {gs:List (List Int)} {i b:Nat} {g:List Int} (hg:gs[i]?=some g):Opens (gs.take (i+1)) b↔Opens (gs.take i) b∨b &&& bitsOf g=bitsOf g:=by
 have etake:gs.take (i+1)=gs.take i++[g]:=by
  obtain⟨hi',rfl⟩:=List.getElem?_eq_some_iff.1 hg
  exact List.take_succ_eq_append_getElem hi'
 rw[etake]
 constructor
 ·rintro ⟨x,hx,h⟩
  rcases List.mem_append.1 hx with hx | hx
  ·exact .inl ⟨x,hx,h⟩
  ·obtain rfl:x=g:=by simpa using hx
   exact .inr h
 ·rintro (⟨x,hx,h⟩ | h)
  ·exact⟨x,List.mem_append_left _ hx,h⟩
  ·exact⟨g,List.mem_append_right _ (by simp),h⟩
structure Tb (gs:List (List Int)) (N b:Nat) (cs:List Bool):Prop where
 len:cs.length=N
 done:∀j,j<b→cs[j]?=some (tv (Opens gs j))
 rest:∀j,b<j→j<N→cs[j]?=some false
theorem l01Table {q:Nat} (hq:q≤7) {id:Nat} {ty:TypeId} {rw:Bool} {a1 c1} {gs:List (List Int)} (hsm:Sml gs) (hb:Below' q gs) (hS:S id) (hmm:H0.m id=some ⟨ty,rw,[.int .i64 q,.slice a1 gs.length c1]⟩) (hs:KI.sl.Sl S H0 (.slice a1 gs.length c1) gs):
  SpecM Try.prog S H0 192 [.pointer (some ⟨id,0,none⟩)] (fun n v H1=>∃a c,v=.slice a (tabO gs (2 ^ q)).length c∧Kn.bool.Sl (New n H1.n) H1 (.slice a (tabO gs (2 ^ q)).length c) (tabO gs (2 ^ q))):=by
 have hp:=small_pow (m:=q) (by omega)
 have hgl:=hsm.len
 refine SpecM.of1 Try.func192 rfl (by kernel_rfl) rfl (fun H _=>?_)
 obtain⟨hS2,hm2⟩:=On.blk (S':=Low H.n) (H':=H) hS hmm
 have hs:=hs.up (S':=Low H.n) (H':=H)
 refine KW.ldP hS2 hm2 U U U U U U ?_
 refine KW.shlI U U U U U U q (wru (by omega) (by omega)) (by omega) ?_
 refine KW.mk1 U U U U U U U U U U U U ((2 ^ q)) U U (by omega) (by show 1*_≤_;omega) ?_
 rw[show List.replicate (2 ^ q) (Value.bool false)=(List.replicate (2 ^ q) false).map Value.bool from(List.map_replicate ..).symm]
 refine KW.lpM U U (fun s:Nat × List Bool=>[(0,.pointer (some ⟨id,0,none⟩)),(3,.slice (some ⟨H.n,0,some 1⟩) (2 ^ q) (2 ^ q)),(4,.int .i64 s.1)]) (fun s=>Low H.n) (fun s=>H) (fun s=>[(H.n,⟨_,true,s.2.map Value.bool⟩)]) (fun s=>s.1≤2 ^ q∧Tb gs (2 ^ q) s.1 s.2∧(s.1<2 ^ q→s.2[s.1]?=some false)) (fun s=>2 ^ q-s.1) ((0,List.replicate (2 ^ q) false)) (⟨Nat.zero_le _,⟨by simp,fun j hj=>absurd hj (Nat.not_lt_zero _),fun j _ hj=>by simp[hj]⟩,fun hj=>by rw[List.getElem?_replicate,if_pos hj]⟩) ⟨rfl,rfl,rfl,trivial⟩ U U (rfl) (fun s hi bE n=>?_)
 obtain⟨b,cs⟩:=s
 obtain⟨h1,h2,h3⟩:=hi
 simp only at h1 h2 h3
 refine KW.cnd U U (fun k1=>?_) (fun k1=>?_)
 ·have k1:(b:Int)<((2 ^ q:Nat):Int):=k1
  have hbq:b<2 ^ q:=by omega
  refine KW.lpM U U (fun s:Nat × List Bool=>[(0,.pointer (some ⟨id,0,none⟩)),(3,.slice (some ⟨H.n,0,some 1⟩) (2 ^ q) (2 ^ q)),(4,.int .i64 b),(5,.int .i64 s.1)]) (fun s=>Low H.n) (fun s=>H) (fun s=>[(H.n,⟨_,true,s.2.map Value.bool⟩)]) (fun s=>s.1≤gs.length∧Tb gs (2 ^ q) b s.2∧s.2[b]?=some (tv (Opens (gs.take s.1) b))) (fun s=>gs.length-s.1) ((0,cs)) (⟨Nat.zero_le _,h2,by rw[h3 hbq,tv_false (fun⟨g,hg,_⟩=>by simp at hg)]⟩) ⟨rfl,rfl,rfl,rfl,trivial⟩ U U (rfl) (fun s hi bE n=>?_)
  obtain⟨i,cs2⟩:=s
  obtain⟨g1,g2,g3⟩:=hi
  simp only at g1 g2 g3
  have hcl:=g2.len
  have out:tv (Opens (gs.take i) b)=tv (Opens gs b)→Tb gs (2 ^ q) (b+1) cs2∧(b+1<2 ^ q→cs2[b+1]?=some false):=fun e=>by
   refine⟨⟨hcl,fun j hj=>?_,fun j hj hj2=>g2.rest j (by omega) hj2⟩,fun hj=>g2.rest (b+1) (by omega) hj⟩
   rcases Nat.lt_or_ge j b with h | h
   ·exact g2.done j h
   ·obtain rfl:j=b:=by omega
    rw[g3,e]
  refine KW.ldP hS2 hm2 U U U U U U ?_
  refine KW.tst U U (fun k2=>?_) (fun k2=>?_)
  ·have k2:(i:Int)<(gs.length:Int):=k2
   refine KW.idx0 U U U U U U U U U (Int.natCast_nonneg _) (k1) ?_
   refine KW.ldT 0 U U U U U U (bload_at (by show(cs2.map Value.bool)[0+((b:Int)).toNat*1]?=_;rw[Int.toNat_natCast,Nat.zero_add,Nat.mul_one,List.getElem?_map,g3];rfl) U U) ?_
   refine KW.cndB U U (fun k3=>?_) (fun k3=>?_)
   ·have k3:tv (Opens (gs.take i) b)=false:=by simpa using k3
    refine KW.ldP hS2 hm2 U U U U U U ?_
    refine KW.getL hs U U U U U U U U U U U U U U U U (by omega) (k2) (fun g ag cg hg hsg=>?_)
    have hg:gs[i]?=some g:=hg
    have hmem:=List.mem_of_getElem? hg
    have hbs:=below_bits hq hb hmem
    refine KW.callE U U U U U (l01Bits (m:=q) (by omega) (hsm.each g hmem) (hb g hmem) hsg) (fun _ _=>?_)
    refine KW.idx0 U U U U U U U U U (Int.natCast_nonneg _) (k1) ?_
    refine KW.st1 0 U U U U U U U U U U U U (by show 0+((b:Int)).toNat*1<(cs2.map Value.bool).length;rw[Int.toNat_natCast,List.length_map];omega) ?_
    have eb:((IntKind.i64.wrap ((BitVec.ofInt IntKind.i64.bits ((bitsOf g:Nat):Int) &&& BitVec.ofInt IntKind.i64.bits (b:Int)).toNat:Int))==((bitsOf g:Nat):Int))=tv (Opens (gs.take (i+1)) b):=by
     rw[and_i64 (by omega) (by omega),Nat.and_comm,tv_congr (opens_take hg)]
     by_cases e:b &&& bitsOf g=bitsOf g
     ·rw[tv_true (p:=Opens (gs.take i) b∨b &&& bitsOf g=bitsOf g) (.inr e),e];simp
     ·rw[tv_false (p:=Opens (gs.take i) b∨b &&& bitsOf g=bitsOf g) (fun hx=>hx.elim (fun hx=>by rw[tv_true hx] at k3;cases k3) e)]
      simp only[beq_eq_false_iff_ne,ne_eq]
      omega
    have fI:Tb gs (2 ^ q) b (cs2.set b (tv (Opens (gs.take (i+1)) b))):=⟨by simp[hcl],fun j hj=>by rw[List.getElem?_set_ne (by omega)];exact g2.done j hj,fun j hj hj2=>by rw[List.getElem?_set_ne (by omega)];exact g2.rest j hj hj2⟩
    refine KW.nxt U U (fun H' g=>⟨(i+1,cs2.set b (tv (Opens (gs.take (i+1)) b))),⟨by simp only;omega,fI,by simp only;rw[List.getElem?_set_self (by omega)]⟩,by first | omega | (simp only;omega),⟨rfl,rfl,rfl,congrArg (Value.int .i64) (inc64 (by omega)),trivial⟩,(g.eqT (by rw[List.map_set,← eb];show [(H.n,(⟨_,true,(cs2.map Value.bool).set (0+((b:Int)).toNat*1) _⟩:Blk))]=_;rw[Int.toNat_natCast,Nat.zero_add,Nat.mul_one];rfl))⟩)
   ·have k3:tv (Opens (gs.take i) b)=true:=by simpa using k3
    have e:tv (Opens (gs.take i) b)=tv (Opens gs b):=by
     obtain⟨x,hx,hx2⟩:=tv_iff.1 k3
     rw[k3,tv_true ⟨x,List.mem_of_mem_take hx,hx2⟩]
    refine KW.nxt U U (fun H' g=>⟨(b+1,cs2),⟨by simp only;omega,out e⟩,by first | omega | (simp only;omega),⟨rfl,rfl,congrArg (Value.int .i64) (inc64 (by omega)),trivial⟩,g⟩)
  ·have k2:¬(i:Int)<(gs.length:Int):=k2
   have e:tv (Opens (gs.take i) b)=tv (Opens gs b):=by rw[List.take_of_length_le (by omega)]
   refine KW.cF U U (by first | (simp;done) | decide) ?_
   refine KW.nxt U U (fun H' g=>⟨(b+1,cs2),⟨by simp only;omega,out e⟩,by first | omega | (simp only;omega),⟨rfl,rfl,congrArg (Value.int .i64) (inc64 (by omega)),trivial⟩,g⟩)
 ·have k1:¬(b:Int)<((2 ^ q:Nat):Int):=k1
  obtain rfl:b=2 ^ q:=by omega
  have ec:cs=tabO gs (2 ^ q):=List.ext_getElem? fun j=>by
   rcases Nat.lt_or_ge j (2 ^ q) with h | h
   ·rw[h2.done j h]
    unfold tabO
    rw[List.getElem?_map,List.getElem?_range h]
    rfl
   ·rw[List.getElem?_eq_none (by rw[h2.len];exact h),List.getElem?_eq_none (by rw[tabO_len];exact h)]
  subst ec
  have hl:=tabO_len gs (2 ^ q)
  refine KW.retM1 U U U U (fun H1 g=>?_)
  refine⟨_,_,by rw[hl];rfl,?_⟩
  have:=bool_sl (xs:=tabO gs (2 ^ q)) (S:=New H.n H1.n) (H:=H1) (c:=2 ^ q) ⟨Nat.le_refl _,(g.blk (j:=0) rfl).2⟩ (g.blk (j:=0) rfl).1 rfl (by omega)
  exact this
end
def Mh (op:Nat→Prop) (c h:Nat):Prop:=op c∧∀i,i<h→c.testBit i=true→¬op (dif c (2 ^ i))
theorem mh_next {op:Nat→Prop} {c h:Nat}:Mh op c (h+1)↔Mh op c h∧(c.testBit h=true→¬op (dif c (2 ^ h))):=
 ⟨fun p=>⟨⟨p.1,fun i hi=>p.2 i (by omega)⟩,p.2 h (by omega)⟩,fun p=>⟨p.1.1,upto p.1.2 p.2⟩⟩
noncomputable def tabP (op:Nat→Prop) (n:Nat):List Bool:=(List.range n).map fun q=>tv (op q)
theorem tabP_len (op:Nat→Prop) (n:Nat):(tabP op n).length=n:=by simp[tabP]
theorem tabP_next (op:Nat→Prop) (n:Nat):tabP op (n+1)=tabP op n++[tv (op n)]:=by simp[tabP,List.range_succ]
theorem tabP_at {op:Nat→Prop} {n q:Nat} (h:q<n) {y:Bool} (hy:(tabP op n)[q]?=some y):y=tv (op q):=by
 unfold tabP at hy
 rw[List.getElem?_map,List.getElem?_range h] at hy
 cases hy
 rfl
section
variable {S:Ids} {H0:AH}
theorem l01FromP {q:Nat} (hq:q≤7) {op:Nat→Prop} {a c} (ho:Kn.bool.Sl S H0 (.slice a (tabP op (2 ^ q)).length c) (tabP op (2 ^ q))):
  SpecM Try.prog S H0 191 [.int .i64 q,.slice a (tabP op (2 ^ q)).length c] (MkFam q (isA (minsU q op (2 ^ q)))):=by
 have hp:=small_pow (m:=q) (by omega)
 have hpos:=Nat.two_pow_pos q
 have htl:=tabP_len op (2 ^ q)
 refine SpecM.of1 Try.func191 rfl (by kernel_rfl) rfl (fun H _=>?_)
 have ho:=ho.up (S':=Low H.n) (H':=H)
 refine KW.lit U U U U U U U U U U [] U U (fun v hv=>by simp at hv) rfl ?_
 refine KW.lpM U U (fun s:CrS=>[(0,.int .i64 q),(1,.slice a (tabP op (2 ^ q)).length c),(4,.pointer (some ⟨H.n,0,some 0⟩)),(5,.slice (some ⟨s.o,0,some 1⟩) (minsU q op s.j).length (minsU q op s.j).length),(6,.int .i64 s.j)]) (fun s=>s.S) (fun s=>s.A) (fun s=>[(H.n,⟨78,true,[.int .i64 0,.slice none 0 0]⟩),(s.o,⟨_,true,s.cs⟩)]) (fun s=>CrI q op H s) (fun s=>2 ^ q-s.j) (⟨0,Low H.n,H,fun _=>False,[],H.n+1⟩) (⟨Nat.zero_le _,fun id hid=>⟨hid,rfl⟩,RowsB.nil _ _,fun _ h=>h.elim,Nat.le_succ _⟩) ⟨rfl,rfl,rfl,rfl,rfl,trivial⟩ U U (rfl) (fun s hi bE n=>?_)
 obtain⟨j,S1,A1,V,cs,o⟩:=s
 obtain⟨g1,g2,g3,g4,g5⟩:=hi
 simp only at g1 g2 g3 g4 g5
 haveI:Stp (Low H.n) H S1 A1:=⟨g2⟩
 have hcl:=g3.len
 have hml:=minsU_len (q:=q) (op:=op) (n:=j)
 have ho1:=ho.up (S':=S1) (H':=A1)
 refine KW.cnd U U (fun k1=>?_) (fun k1=>?_)
 ·have k1:(j:Int)<((tabP op (2 ^ q)).length:Int):=k1
  have hx:j<2 ^ q:=by omega
  refine KW.getB ho1 U U U U U U U U U U U U U U U U (by omega) (by omega) (fun y hy=>?_)
  have hy:=tabP_at hx (y:=y) (by simpa using hy)
  subst hy
  refine KW.lp U U (fun s:Nat × Bool=>[(0,.int .i64 q),(1,.slice a (tabP op (2 ^ q)).length c),(4,.pointer (some ⟨H.n,0,some 0⟩)),(5,.slice (some ⟨o,0,some 1⟩) (minsU q op j).length (minsU q op j).length),(6,.int .i64 j),(7,.bool s.2),(8,.int .i64 s.1)]) (fun s=>s.1≤q∧s.2=tv (Mh op j s.1)) (fun s=>q-s.1) ((0,tv (op j))) (⟨Nat.zero_le _,tv_congr ⟨fun p=>⟨p,fun i hi=>absurd hi (Nat.not_lt_zero _)⟩,fun p=>p.1⟩⟩) ⟨rfl,rfl,rfl,rfl,rfl,rfl,rfl,trivial⟩ (fun s hi bE n=>?_)
  obtain⟨h,lb⟩:=s
  obtain⟨m1,m2⟩:=hi
  simp only at m1 m2
  refine KW.tst U U (fun k2=>?hin) (fun k2=>?hout)
  case' hin=>refine KW.cndB U U (fun k3=>?go) (fun k3=>?stop)
  case go=>
   have k2:(h:Int)<(q:Int):=k2
   have k3:lb=true:=k3
   have hmh:Mh op j h:=tv_iff.1 (m2.symm.trans k3)
   have hph:=small_pow (m:=h) (by omega)
   have hd:dif j (2 ^ h)≤j:=dif_le
   have eb:=bitI (x:=j) (q:=h) (by omega)
   have ed:IntKind.i64.wrap ((BitVec.ofInt IntKind.i64.bits (j:Int) &&& ~~~BitVec.ofInt IntKind.i64.bits ((2 ^ h:Nat):Int)).toNat:Int)=((dif j (2 ^ h):Nat):Int):=andnot_i64 (by omega) (by omega)
   refine KW.shr U U U U U U U j h rfl (wru (by omega) (by omega)) (by omega) ?_
   refine KW.tstB U U (fun k4=>?_) (fun k4=>?_)
   ·have k4:j.testBit h=true:=eb.symm.trans k4
    refine KW.shlI U U U U U U h (wru (by omega) (by omega)) (by omega) ?_
    refine KW.getB ho1 U U U U U U U U U U U U U U U U (by rw[ed];omega) (by rw[ed];omega) (fun y hy=>?_)
    have hy:=tabP_at (op:=op) (n:=2 ^ q) (q:=dif j (2 ^ h)) (by omega) (y:=y) (by rw[ed] at hy;simpa using hy)
    subst hy
    refine KW.cndB U U (fun k5=>?_) (fun k5=>?_)
    ·have k5:=tv_iff.1 k5
     refine KW.nxt U U (fun H' g=>⟨(h+1,false),⟨by simp only;omega,(tv_false (fun p=>(mh_next.1 p).2 k4 k5)).symm⟩,by first | omega | (simp only;omega),⟨rfl,rfl,rfl,rfl,rfl,rfl,congrArg (Value.int .i64) (inc64 (by omega)),trivial⟩,g⟩)
    ·have k5:¬op (dif j (2 ^ h)):=fun p=>by rw[tv_true p] at k5;cases k5
     refine KW.nxt U U (fun H' g=>⟨(h+1,lb),⟨by simp only;omega,by simp only;rw[k3,tv_true (mh_next.2 ⟨hmh,fun _=>k5⟩)]⟩,by first | omega | (simp only;omega),⟨rfl,rfl,rfl,rfl,rfl,rfl,congrArg (Value.int .i64) (inc64 (by omega)),trivial⟩,g⟩)
   ·have k4:j.testBit h=false:=eb.symm.trans (by simpa using k4)
    refine KW.cF U U (by first | (simp;done) | decide) ?_
    refine KW.nxt U U (fun H' g=>⟨(h+1,lb),⟨by simp only;omega,by simp only;rw[k3,tv_true (mh_next.2 ⟨hmh,fun p=>by rw[k4] at p;cases p⟩)]⟩,by first | omega | (simp only;omega),⟨rfl,rfl,rfl,rfl,rfl,rfl,congrArg (Value.int .i64) (inc64 (by omega)),trivial⟩,g⟩)
  case' stop=>
   have elb:lb=tv (Mn q op j):=by
    have k3:lb=false:=by simpa using k3
    rw[k3]
    exact(tv_false (fun p=>by
     have:Mh op j h:=⟨p.1,fun i hi=>p.2 i (by omega)⟩
     rw[m2,tv_true this] at k3;cases k3)).symm
  case' hout=>
   refine KW.cF U U U ?_
   have elb:lb=tv (Mn q op j):=by
    have k2:¬(h:Int)<(q:Int):=k2
    have:h=q:=by omega
    rw[m2,this]
    rfl
  all_goals
   refine KW.cndB U U (fun k6=>?_) (fun k6=>?_)
   ·have k6:tv (Mn q op j)=true:=elb.symm.trans k6
    have eN:minsU q op (j+1)=minsU q op j++[hold j q]:=by rw[minsU_next,if_pos k6]
    have eNl:(minsU q op (j+1)).length=(minsU q op j).length+1:=by rw[eN,List.length_append,List.length_singleton]
    refine KW.ids (fun hlow hvar=>?_)
    refine KW.fact (fun _ g=>g.nle (H1:=H)) (fun hn0=>?_)
    refine KW.callN1 U U U U U (l01Of (m:=q) hx (by omega)) (fun v HC SC mC _ _ hv=>?_)
    obtain⟨a5,c5,rfl,hC⟩:=hv
    refine KW.app1 (xs:=cs) (v:=.slice a5 (hold j q).length c5) 1 2 U U U U U U U U U U U U U U U U U U U U U U U (by omega) (by show((minsU q op j).length+1)*24≤_;omega) (by show(minsU q op j).length+1≤_;omega) ?_
    have wC:On (New _ HC.n) HC SC HC:=‹_›
    have fI:=(g3.up (S':=SC) (A':=HC)).snoc (ml1' hC) (fun id hid=>(wC.st id hid).1) (fun id p r=>by have:=hlow id (g3.sub id p);have:=r.1;omega)
    have fV:∀id,V id∨New _ HC.n id→H.n≤id:=fun id hid=>hid.elim (g4 id) (fun p=>Nat.le_trans hn0 p.1)
    have tH:St (Low H.n) H SC HC:=(inferInstance:On (Low H.n) H SC HC).st
    exact KW.nxt U U (fun H' g=>⟨⟨j+1,SC,HC,_,_,_⟩,⟨hx,tH,by simp only[eN];exact fI,fV,by simp only;omega⟩,by simp only;omega,⟨rfl,rfl,rfl,congrArg (fun z=>Value.slice (some ⟨_,0,some 1⟩) z z) eNl.symm,congrArg (Value.int .i64) (inc64 (by omega)),trivial⟩,g⟩)
   ·have k6:¬tv (Mn q op j)=true:=by rw[← elb];simpa using k6
    have eN:minsU q op (j+1)=minsU q op j:=by rw[minsU_next,if_neg k6]
    exact KW.nxt U U (fun H' g=>⟨⟨j+1,S1,A1,V,cs,o⟩,⟨hx,g2,by simp only[eN];exact g3,g4,g5⟩,by simp only;omega,⟨rfl,rfl,rfl,congrArg (fun z=>Value.slice (some ⟨o,0,some 1⟩) (List.length z) (List.length z)) eN.symm,congrArg (Value.int .i64) (inc64 (by omega)),trivial⟩,g⟩)
 ·have k1:¬(j:Int)<((tabP op (2 ^ q)).length:Int):=k1
  obtain rfl:j=2 ^ q:=by omega
  refine KW.freeze 1 rfl (fun A2 S2 hn2 hS2 st2 hm2 ho2 hnS2 hlow2=>?_)
  have hY:∀i,S1 i→S2 i∧i≠o:=fun i hi=>⟨(st2.st i hi).1,fun e=>hnS2 (e ▸ hi)⟩
  have g3':RowsB KI.ml S1 A2 V (minsU q op (2 ^ q)) cs:=g3.back g3 (fun i hi=>(st2.st i (g3.sub i hi)).2)
  refine KW.callW (W:=fun i=>i=o) (fun i hi=>(hS2 i).2 (.inr hi)) U U U U U (l01Sorted (rows:=minsU q op (2 ^ q)) (by omega) (fun x hx=>by have:=minsU_mem hx;omega) ((hS2 o).2 (.inr rfl)) hm2 hY g3') (fun v H3 S3 hn3 st3 hw3 hp3=>?_)
  obtain⟨rfl,cs',p1,p2⟩:=hp3
  refine KW.thaw o _ (st3 o ((hS2 o).2 (.inr rfl))).1 p1 ?_
  have t4:∀i,S1 i→(S3 i∧i≠o)∧H3.m i=A1.m i:=fun i hi=>⟨⟨(st3 i (hY i hi).1).1,(hY i hi).2⟩,((st3 i (hY i hi).1).2 (hY i hi).2).trans (st2.st i hi).2⟩
  haveI:Stp S1 A1 (fun i=>S3 i∧i≠o) H3:=⟨t4⟩
  have p3:RowsB KI.ml (fun i=>S3 i∧i≠o) H3 V (isA (minsU q op (2 ^ q))) cs':=⟨p2.len,fun i hi=>(t4 i (g3.sub i hi)).1,p2.rows⟩
  refine KW.build U U U U U (built_Fam2 _ _ _ _) ?_
  refine KW.retM1 U U U U (fun H1 g=>?_)
  have hm:=p3.ml (X:=New H.n H1.n) rfl g (j:=1) rfl ⟨g5,by have h1:o<H3.n:=(g.vars 1 _ rfl).2.1;have:=g.n_;omega⟩ (fun i hi=>⟨g4 i hi,by have:=(g.froz i (p3.sub i hi)).1;have:=g.n_;omega⟩)
  exact⟨_,_,by rw[isA_len];rfl,by rw[isA_len] at hm ⊢;exact hm⟩
theorem l01From {q:Nat} (hq:q≤7) {gs:List (List Int)} {a c} (ho:Kn.bool.Sl S H0 (.slice a (tabO gs (2 ^ q)).length c) (tabO gs (2 ^ q))):
  SpecM Try.prog S H0 191 [.int .i64 q,.slice a (tabO gs (2 ^ q)).length c] (MkFam q (isA (minsU q (Opens gs) (2 ^ q)))):=l01FromP (op:=Opens gs) hq ho
theorem familyOfS {q:Nat} (hq1:1≤q) (hq:q≤7) {gs:List (List Int)} (hl:gs.length≤200) (hg:∀g∈gs,Rises 0 ((q:Int)-1) g) {a c} (hs:KI.sl.Sl S H0 (.slice a gs.length c) gs):
  SpecM Try.prog S H0 139 [.int .i64 q,.slice a gs.length c] (MkFC ((q:Int),isA (minsU q (Opens gs) (2 ^ q))) 0):=by
 have hgl:∀g∈gs,g.length≤7:=fun g hg'=>by
  have h:=hold_bits q (hg g hg')
  rw[← h]
  exact Nat.le_trans (hold_len _ _) hq
 have hsm:Sml gs:=⟨by omega,by have:=sml_short hgl;omega⟩
 have hb:Below' q gs:=fun g hg'=>rises_lt rfl (hg g hg')
 refine SpecM.of1 Try.func139 rfl (by kernel_rfl) rfl (fun H _=>?_)
 refine KW.callE U U U U U (l00In _ _ _) (fun _ _=>?_)
 rw[decide_eq_true (show(1:Int)≤(q:Int)∧(q:Int)≤7 by omega)]
 refine KW.tF U U (by first | (simp;done) | decide) ?_
 refine KW.no U U (by omega) ?_
 refine KW.lp U U (fun i:Nat=>[(0,.int .i64 q),(1,.slice a gs.length c),(4,.pointer (some ⟨H.n,0,some 0⟩)),(6,.int .i64 i)]) (fun i=>i≤gs.length) (fun i=>gs.length-i) (0) (Nat.zero_le _) ⟨rfl,rfl,rfl,rfl,trivial⟩ (fun i hi bE n=>?_)
 refine KW.cnd U U (fun k1=>?_) (fun k1=>?_)
 ·have k1:(i:Int)<(gs.length:Int):=k1
  refine KW.getL hs.up U U U U U U U U U U U U U U U U (by omega) (k1) (fun g ag cg hg2 hsg=>?_)
  have hg2:gs[i]?=some g:=hg2
  have hmem:=List.mem_of_getElem? hg2
  refine KW.callE U U U U U (l01Group (q:Int) (hsm.each g hmem) (by omega) hsg) (fun _ _=>?_)
  rw[tv_true (hg g hmem)]
  refine KW.cF U U (by first | (simp;done) | decide) ?_
  refine KW.nxt U U (fun H' g=>⟨(i+1),(by omega),by first | omega | (simp only;omega),⟨rfl,rfl,rfl,congrArg (Value.int .i64) (inc64 (by omega)),trivial⟩,g⟩)
 ·refine KW.build U U U U U (built_Fam2 _ _ _ _) ?_
  refine KW.fact (fun _ g=>g.nle (H1:=H)) (fun hn0=>?_)
  refine KW.callNV1 U U U U U (fun H1 g _=>l01Table (S:=Low H1.n) (H0:=H1) hq hsm hb (g.blk (j:=1) rfl).2 (g.blk (j:=1) rfl).1 hs.up) (fun v HT ST mT _ _ hv=>?_)
  obtain⟨a4,c4,rfl,hT⟩:=hv
  refine KW.callN1 U U U U U (l01From hq hT.up) (fun v HF SF mF _ _ hv=>?_)
  obtain⟨a5,c5,rfl,hF⟩:=hv
  refine KW.retM1 U U U U (fun H1 g=>?_)
  exact⟨_,rfl,famM ((ml1 (g.keep (ml1' hF))).more (g.inn (H:=HF) (fun _ p=>by have:=p.1;omega)))⟩
end
def ThOp (q:Nat) (least:Int) (c:Nat):Prop:=least≤((hold c q).length:Int)
theorem hold_next_len (x n:Nat):(hold x (n+1)).length=(hold x n).length+(if x.testBit n=true then 1 else 0):=by
 rw[hold_next]
 split<;>simp
theorem th_up {q:Nat} {least:Int}:UpC (2 ^ q) (ThOp q least):=fun a b _ _ hs h=>by
 have key:∀n,(hold a n).length≤(hold b n).length:=fun n=>by
  induction n with
  | zero=>simp[hold]
  | succ n ih=>
   rw[hold_next_len,hold_next_len]
   have e:(a &&& b).testBit n=a.testBit n:=by rw[hs]
   rw[Nat.testBit_and] at e
   cases ea:a.testBit n<;>cases eb:b.testBit n<;>simp[ea,eb] at e ⊢<;>omega
 have:=key q
 unfold ThOp at h ⊢
 omega
section
variable {S:Ids} {H0:AH}
theorem l01Weighted {q:Nat} (hq:q≤7) {least:Int} {ws:List Int} (hwl:ws.length=q) (hw1:∀w∈ws,w=1) {a c} (hs:KI.Sl S H0 (.slice a ws.length c) ws):
  SpecM Try.prog S H0 224 [.slice a ws.length c,.int .i64 least] (MkFam q (isA (minsU q (ThOp q least) (2 ^ q)))):=by
 have hp:=small_pow (m:=q) (by omega)
 have hpos:=Nat.two_pow_pos q
 refine SpecM.of1 Try.func224 rfl (by kernel_rfl) rfl (fun H _=>?_)
 have hs:=hs.up (S':=Low H.n) (H':=H)
 refine KW.lit U U U U U U U U U U [] U U (fun v hv=>by simp at hv) rfl ?_
 refine KW.lpM U U (fun s:Nat × Nat=>[(0,.slice a ws.length c),(1,.int .i64 least),(4,.pointer (some ⟨H.n,0,some 0⟩)),(5,.slice (some ⟨s.2,0,some 1⟩) (tabP (ThOp q least) s.1).length (tabP (ThOp q least) s.1).length),(6,.int .i64 s.1)]) (fun s=>Low H.n) (fun s=>H) (fun s=>[(H.n,⟨78,true,[.int .i64 0,.slice none 0 0]⟩),(s.2,⟨_,true,(tabP (ThOp q least) s.1).map Value.bool⟩)]) (fun s=>s.1≤2 ^ q) (fun s=>2 ^ q-s.1) ((0,_)) (Nat.zero_le _) ⟨rfl,rfl,rfl,rfl,rfl,trivial⟩ U U (rfl) (fun s hi bE n=>?_)
 obtain⟨b,o⟩:=s
 simp only at hi
 have hl:=tabP_len (ThOp q least) b
 have eq1:IntKind.u64.wrap (ws.length:Int)=(q:Int):=by rw[hwl];exact wru (by omega) (by omega)
 refine KW.shlI U U U U U U q eq1 (by omega) ?_
 refine KW.cnd U U (fun k1=>?_) (fun k1=>?_)
 ·have k1:(b:Int)<((2 ^ q:Nat):Int):=k1
  have hb:b<2 ^ q:=by omega
  refine KW.lp U U (fun h:Nat=>[(0,.slice a ws.length c),(1,.int .i64 least),(4,.pointer (some ⟨H.n,0,some 0⟩)),(5,.slice (some ⟨o,0,some 1⟩) (tabP (ThOp q least) b).length (tabP (ThOp q least) b).length),(6,.int .i64 b),(7,.int .i64 ((hold b h).length:Nat)),(8,.int .i64 h)]) (fun h=>h≤q) (fun h=>q-h) (0) (Nat.zero_le _) ⟨rfl,rfl,rfl,rfl,rfl,rfl,rfl,trivial⟩ (fun h hi bE n=>?_)
  have hhl:=hold_len b h
  refine KW.cnd U U (fun k2=>?_) (fun k2=>?_)
  ·have k2:(h:Int)<(ws.length:Int):=k2
   refine KW.shr U U U U U U U b h rfl (wru (by omega) (by omega)) (by omega) ?_
   have eb:=bitI (x:=b) (q:=h) (by omega)
   have eL:=hold_next_len b h
   refine KW.cndB U U (fun k3=>?_) (fun k3=>?_)
   ·have k3:b.testBit h=true:=eb.symm.trans k3
    refine KW.getI hs U U U U U U U U U U U U U U U U (by omega) (k2) (fun y hy=>?_)
    have hy1:=hw1 y (List.mem_of_getElem? hy)
    subst hy1
    rw[if_pos k3] at eL
    refine KW.nxt U U (fun H' g=>⟨(h+1),(by omega),by first | omega | (simp only;omega),⟨rfl,rfl,rfl,rfl,rfl,(by rw[eL];exact congrArg (Value.int .i64) (inc64 (by omega))),congrArg (Value.int .i64) (inc64 (by omega)),trivial⟩,g⟩)
   ·have k3:b.testBit h=false:=eb.symm.trans (by simpa using k3)
    rw[if_neg (by rw[k3];decide)] at eL
    refine KW.nxt U U (fun H' g=>⟨(h+1),(by omega),by first | omega | (simp only;omega),⟨rfl,rfl,rfl,rfl,rfl,(by rw[eL];rfl),congrArg (Value.int .i64) (inc64 (by omega)),trivial⟩,g⟩)
  ·have k2:¬(h:Int)<(ws.length:Int):=k2
   obtain rfl:h=q:=by omega
   have eN:=tabP_next (ThOp h least) b
   have ev:decide (((hold b h).length:Int)≥least)=tv (ThOp h least b):=by rw[tv_dec];rfl
   refine KW.app1 (xs:=(tabP (ThOp h least) b).map Value.bool) (v:=.bool (decide (((hold b h).length:Int)≥least))) 1 2 U U U U U U U U U U U U U U U U U U U U U U U (by simp) (by show((tabP (ThOp h least) b).length+1)*1≤_;omega) (by show(tabP (ThOp h least) b).length+1≤_;omega) ?_
   exact KW.nxt U U (fun H' g=>⟨(b+1,_),by simp only;omega,by simp only;omega,⟨rfl,rfl,rfl,by simp only[eN,List.length_append,List.length_singleton];rfl,congrArg (Value.int .i64) (inc64 (by omega)),trivial⟩,g.eqT (by simp only[eN,List.map_append,← ev];rfl)⟩)
 ·have k1:¬(b:Int)<((2 ^ q:Nat):Int):=k1
  obtain rfl:b=2 ^ q:=by omega
  refine KW.fact (fun _ g=>g.nle (H1:=H)) (fun hn0=>?_)
  refine KW.callNV1 U U U U U (fun H1 g _=>by
   show SpecM _ _ _ _ [.int .i64 (ws.length:Int),_] _
   rw[hwl]
   exact l01FromP (S:=Low H1.n) (H0:=H1) (op:=ThOp q least) hq (bool_sl (g.blk (j:=1) rfl).2 (g.blk (j:=1) rfl).1 rfl (Nat.le_refl _))) (fun v HF SF mF _ _ hv=>?_)
  obtain⟨a5,c5,rfl,hF⟩:=hv
  refine KW.retM1 U U U U (fun H1 g=>?_)
  exact⟨_,_,rfl,(ml1 (g.keep (ml1' hF))).more (g.inn (H:=HF) (fun _ p=>by have:=p.1;omega))⟩
theorem thresholdS {q:Nat} (hq1:1≤q) (hq:q≤7) {least:Int} (h0:0≤least) (h1:least≤(q:Int)+1):
  SpecM Try.prog S H0 171 [.int .i64 q,.int .i64 least] (MkFC ((q:Int),isA (minsU q (ThOp q least) (2 ^ q))) 0):=by
 refine SpecM.of1 Try.func171 rfl (by kernel_rfl) rfl (fun H _=>?_)
 refine KW.callE U U U U U (l00In _ _ _) (fun _ _=>?_)
 rw[decide_eq_true (show(1:Int)≤(q:Int)∧(q:Int)≤7 by omega)]
 refine KW.tF U U (by first | (simp;done) | decide) ?_
 refine KW.callE U U U U U ((by show Spec _ _ _ _ [_,_,.int .i64 (IntKind.i64.wrap _)] _;rw[inc64 (show q<4611686018427387904 by omega)];exact l00In least 0 ((q+1:Nat):Int))) (fun n9 m9=>?_)
 rw[decide_eq_true (show(0:Int)≤least∧least≤((q+1:Nat):Int) by omega)]
 refine KW.cF U U (by first | (simp;done) | decide) ?_
 refine KW.fact (fun _ g=>g.nle (H1:=H)) (fun hn0=>?_)
 refine KW.lit U U U U U U U U U U [] U U (fun v hv=>by simp at hv) rfl ?_
 refine KW.lpM U U (fun s:Nat × Nat=>[(0,.int .i64 q),(1,.int .i64 least),(4,.pointer (some ⟨H.n,0,some 0⟩)),(6,.slice (some ⟨s.2,0,some 1⟩) s.1 s.1),(7,.int .i64 s.1)]) (fun s=>Low H.n) (fun s=>H) (fun s=>[(H.n,⟨78,true,[.int .i64 0,.slice none 0 0]⟩),(s.2,⟨_,true,(List.replicate s.1 (1:Int)).map (Value.int .i64)⟩)]) (fun s=>s.1≤q) (fun s=>q-s.1) ((0,_)) (Nat.zero_le _) ⟨rfl,rfl,rfl,rfl,rfl,trivial⟩ U U (rfl) (fun s hi bE n=>?_)
 obtain⟨b,o⟩:=s
 simp only at hi
 refine KW.cnd U U (fun k1=>?_) (fun k1=>?_)
 ·have k1:(b:Int)<(q:Int):=k1
  refine KW.app1 (xs:=(List.replicate b (1:Int)).map (Value.int .i64)) (v:=.int .i64 1) 1 2 U U U U U U U U U U U U U U U U U U U U U U U (by simp) (by show(b+1)*8≤_;omega) (by show b+1≤_;omega) ?_
  exact KW.nxt U U (fun H' g=>⟨(b+1,_),by simp only;omega,by simp only;omega,⟨rfl,rfl,rfl,rfl,congrArg (Value.int .i64) (inc64 (by omega)),trivial⟩,g.eqT (by simp only[List.replicate_succ',List.map_append];rfl)⟩)
 ·have k1:¬(b:Int)<(q:Int):=k1
  obtain rfl:b=q:=by omega
  refine KW.fact (fun _ g=>g.nle (H1:=H)) (fun hn1=>?_)
  refine KW.callNV1 U U U U U (fun H1 g _=>by
   have h:=l01Weighted (S:=Low H1.n) (H0:=H1) (q:=b) (least:=least) (ws:=List.replicate b (1:Int)) (c:=b) hq (by simp) (fun w hw=>(List.mem_replicate.1 hw).2) (g.ints (j:=1) U U (by simp))
   rw[show(List.replicate b (1:Int)).length=b by simp] at h
   exact h) (fun v HF SF mF _ _ hv=>?_)
  obtain⟨a5,c5,rfl,hF⟩:=hv
  refine KW.retM1 U U U U (fun H1 g=>?_)
  exact⟨_,rfl,famM ((ml1 (g.keep (ml1' hF))).more (g.inn (H:=HF) (fun _ p=>by have:=p.1;omega)))⟩
end
end Go.Proofs.Ytlapbbffoapleaa.Am
namespace Go.Proofs.Ytlapbbffoapleaa.Am
open Go Go.RowKit Go.Proofs
theorem bits_hold {x q:Nat} (hx:x<2 ^ q):bitsOf (hold x q)=x:=by
 refine Nat.eq_of_testBit_eq fun i=>?_
 rw[Bool.eq_iff_iff,bitsOf_test (fun y hy=>by obtain⟨j,rfl,_⟩:=hold_mem hy;omega)]
 constructor
 ·intro h
  obtain⟨j,hj,_,hb⟩:=hold_mem h
  rw[show i=j by omega];exact hb
 ·intro h
  refine List.mem_map.2 ⟨i,List.mem_filter.2 ⟨List.mem_range.2 ?_,h⟩,rfl⟩
  rcases Nat.lt_or_ge i q with h1 | h1
  ·exact h1
  ·rw[Nat.testBit_lt_two_pow (Nat.lt_of_lt_of_le hx (Nat.pow_le_pow_right (by decide) h1))] at h;cases h
theorem hold_rises (x:Nat):∀n:Nat,Rises 0 ((n:Int)-1) (hold x n)
 | 0=>fun i hi=>by simp[hold] at hi
 | n+1=>by
  have ih:=hold_rises x n
  rw[hold_next]
  split
  ·intro i hi
   have hi:i<(hold x n).length+1:=by simpa using hi
   have hl:∀j,j<(hold x n).length→(hold x n++[(n:Int)]).getD j 0=(hold x n).getD j 0:=fun j hj=>by
    rw[List.getD_eq_getElem?_getD,List.getD_eq_getElem?_getD,List.getElem?_append_left hj]
   have hz:(hold x n++[(n:Int)]).getD (hold x n).length 0=n:=by
    rw[List.getD_eq_getElem?_getD];simp
   unfold RiseAt
   by_cases e:i=(hold x n).length
   ·rw[e,hz]
    refine⟨⟨by omega,by omega⟩,fun h0=>?_⟩
    rw[hl _ (by omega)]
    have h3:=ih ((hold x n).length-1) (by omega)
    have:=h3.1.2
    omega
   ·have h3:=ih i (by omega)
    rw[hl i (by omega)]
    refine⟨⟨h3.1.1,by have:=h3.1.2;omega⟩,fun h0=>?_⟩
    rw[hl _ (by omega)]
    exact h3.2 h0
  ·intro i hi
   have h3:=ih i hi
   exact⟨⟨h3.1.1,by have:=h3.1.2;omega⟩,h3.2⟩
end Go.Proofs.Ytlapbbffoapleaa.Am
namespace Go.Proofs.Ytlapbbffoapleaa.Am
open Go Go.RowKit Go.Proofs Go.Proofs.Ytlapbbffoapleaa.Pl
theorem lexB_irr:∀a:List Int,lexB a a=false
 | []=>rfl
 | x :: a=>by unfold lexB;rw[if_pos rfl];exact lexB_irr a
theorem lexB_total:∀{a b:List Int},a≠b→lexB a b=false→lexB b a=true
 | [],[],h,_=>(h rfl).elim
 | [],_ :: _,_,h=>by cases h
 | _ :: _,[],_,_=>rfl
 | x :: a,y :: b,h,h'=>by
  unfold lexB at h' ⊢
  by_cases e:x=y
  ·subst e
   rw[if_pos rfl] at h' ⊢
   exact lexB_total (fun hc=>h (by rw[hc])) h'
  ·rw[if_neg e] at h'
   rw[if_neg (Ne.symm e)]
   simp at h' ⊢
   omega
theorem lexB_trans:∀{a b c:List Int},lexB a b=true→lexB b c=true→lexB a c=true
 | [],[],_,h,_=>by cases h
 | [],_ :: _,[],_,h=>by cases h
 | [],_ :: _,_ :: _,_,_=>rfl
 | _ :: _,[],_,h,_=>by cases h
 | _ :: _,_ :: _,[],_,h=>by cases h
 | x :: a,y :: b,z :: c,h,h'=>by
  unfold lexB at h h' ⊢
  by_cases e:x=y
  ·subst e
   rw[if_pos rfl] at h
   by_cases e2:x=z
   ·subst e2
    rw[if_pos rfl] at h' ⊢
    exact lexB_trans h h'
   ·rw[if_neg e2] at h' ⊢;exact h'
  ·rw[if_neg e] at h
   have h:=of_decide_eq_true h
   by_cases e2:y=z
   ·subst e2
    rw[if_neg e]
    exact decide_eq_true h
   ·rw[if_neg e2] at h'
    have h':=of_decide_eq_true h'
    rw[if_neg (by omega)]
    exact decide_eq_true (by omega)
theorem sw_getD {L:List (List Int)} {n a i:Nat} (hn:n<L.length) (ha:a<L.length):(sw L n a).getD i []=if i=a then L.getD n [] else if i=n then L.getD a [] else L.getD i []:=by
 unfold sw
 rw[List.getD_eq_getElem?_getD,List.getElem?_set]
 by_cases e1:a=i
 ·subst e1
  rw[if_pos rfl,if_pos (by simp;exact ha),if_pos rfl]
  rfl
 ·rw[if_neg e1,if_neg (Ne.symm e1),List.getElem?_set]
  by_cases e2:n=i
  ·subst e2
   rw[if_pos rfl,if_pos hn,if_pos rfl]
   rfl
  ·rw[if_neg e2,if_neg (Ne.symm e2),List.getD_eq_getElem?_getD]
def UpL (L:List (List Int)) (k:Nat):Prop:=∀i j,i<j→j<k→lexB (L.getD i []) (L.getD j [])=true
theorem bub_up:∀(k:Nat) (L:List (List Int)),k<L.length→UpL L k→(∀i,i<k→L.getD k []≠L.getD i [])→UpL (bub L k) (k+1)∧(∀i,k<i→(bub L k).getD i []=L.getD i [])∧∀i,i≤k→∃j,j≤k∧(bub L k).getD i []=L.getD j []
 | 0,L,_,_,_=>⟨fun i j h1 h2=>by omega,fun i _=>rfl,fun i hi=>⟨i,hi,rfl⟩⟩
 | k+1,L,hk,hu,hd=>by
  have e:bub L (k+1)=if lexB (L.getD (k+1) []) (L.getD k [])=true then bub (sw L (k+1) k) k else L:=rfl
  by_cases hx:lexB (L.getD (k+1) []) (L.getD k [])=true
  ·rw[e,if_pos hx]
   have at_:=fun i=>sw_getD (L:=L) (n:=k+1) (a:=k) (i:=i) hk (by omega)
   obtain⟨r1,r2,r3⟩:=bub_up k (sw L (k+1) k) (by rw[sw_len];omega) (fun i j h1 h2=>by
    rw[at_ i,at_ j,if_neg (by omega),if_neg (by omega),if_neg (by omega),if_neg (by omega)]
    exact hu i j h1 (by omega)) (fun i hi=>by
    rw[at_ k,at_ i,if_pos rfl,if_neg (by omega),if_neg (by omega)]
    exact hd i (by omega))
   have top:(bub (sw L (k+1) k) k).getD (k+1) []=L.getD k []:=by
    rw[r2 (k+1) (by omega),at_,if_neg (by omega),if_pos rfl]
   refine⟨fun i j h1 h2=>?_,fun i hi=>?_,fun i hi=>?_⟩
   ·by_cases ej:j=k+1
    ·subst ej
     rw[top]
     obtain⟨m,hm,em⟩:=r3 i (by omega)
     rw[em,at_]
     by_cases e1:m=k
     ·rw[if_pos e1];exact hx
     ·rw[if_neg e1,if_neg (by omega)]
      exact hu m k (by omega) (by omega)
    ·exact r1 i j h1 (by omega)
   ·rw[r2 i (by omega),at_,if_neg (by omega),if_neg (by omega)]
   ·by_cases ei:i=k+1
    ·subst ei
     exact⟨k,by omega,top⟩
    ·obtain⟨m,hm,em⟩:=r3 i (by omega)
     rw[em,at_]
     by_cases e1:m=k
     ·exact⟨k+1,Nat.le_refl _,by rw[if_pos e1]⟩
     ·exact⟨m,by omega,by rw[if_neg e1,if_neg (by omega)]⟩
  ·rw[e,if_neg hx]
   have hyx:=lexB_total (hd k (by omega)) (by simpa using hx)
   refine⟨fun i j h1 h2=>?_,fun i _=>rfl,fun i hi=>⟨i,hi,rfl⟩⟩
   by_cases ej:j=k+1
   ·subst ej
    by_cases ei:i=k
    ·subst ei;exact hyx
    ·exact lexB_trans (hu i k (by omega) (by omega)) hyx
   ·exact hu i j h1 (by omega)
theorem isF_up {L:List (List Int)} (hd:∀i j,i<j→j<L.length→L.getD j []≠L.getD i []):∀n,n<L.length→UpL (isF L n) (n+1)∧(∀i,n<i→(isF L n).getD i []=L.getD i [])∧∀i,i≤n→∃j,j≤n∧(isF L n).getD i []=L.getD j []
 | 0,_=>⟨fun i j h1 h2=>by omega,fun i _=>rfl,fun i hi=>⟨i,hi,rfl⟩⟩
 | n+1,hn=>by
  obtain⟨r1,r2,r3⟩:=isF_up hd n (by omega)
  obtain⟨s1,s2,s3⟩:=bub_up (n+1) (isF L n) (by rw[isF_len];exact hn) r1 (fun i hi=>by
   obtain⟨j,hj,ej⟩:=r3 i (by omega)
   rw[r2 (n+1) (by omega),ej]
   exact hd j (n+1) (by omega) hn)
  refine⟨s1,fun i hi=>(s2 i hi).trans (r2 i (by omega)),fun i hi=>?_⟩
  obtain⟨j,hj,ej⟩:=s3 i hi
  rw[show isF L (n+1)=bub (isF L n) (n+1) from rfl,ej]
  by_cases e:j=n+1
  ·exact⟨n+1,Nat.le_refl _,by rw[e,r2 (n+1) (by omega)]⟩
  ·obtain⟨m,hm,em⟩:=r3 j (by omega)
   exact⟨m,by omega,em⟩
theorem isA_up {L:List (List Int)} (hd:∀i j,i<j→j<L.length→L.getD j []≠L.getD i []):UpL (isA L) L.length:=by
 rcases Nat.eq_zero_or_pos L.length with h | h
 ·intro i j h1 h2;omega
 ·have:=(isF_up hd (L.length-1) (by omega)).1
  rw[show L.length-1+1=L.length by omega] at this
  exact this
theorem mins_dist {q:Nat} {op:Nat→Prop}:∀i j,i<j→j<(minsU q op (2 ^ q)).length→(minsU q op (2 ^ q)).getD j []≠(minsU q op (2 ^ q)).getD i []:=by
 have h:(minsU q op (2 ^ q)).Pairwise (fun a b=>b≠a):=by
  unfold minsU
  refine List.pairwise_map.2 ?_
  have h1:((List.range (2 ^ q)).filter fun c=>tv (Mn q op c)).Pairwise (· < ·):=List.pairwise_lt_range.filter _
  refine h1.imp_of_mem (fun {a b} ha hb hab e=>?_)
  have ha':=List.mem_range.1 (List.mem_filter.1 ha).1
  have hb':=List.mem_range.1 (List.mem_filter.1 hb).1
  have:=congrArg bitsOf e
  rw[bits_hold ha',bits_hold hb'] at this
  omega
 intro i j h1 h2
 have:=List.pairwise_iff_getElem.1 h i j (by omega) h2 h1
 rw[List.getD_eq_getElem?_getD,List.getD_eq_getElem?_getD,List.getElem?_eq_getElem h2,List.getElem?_eq_getElem (by omega)]
 exact this
theorem mins_of {q:Nat} {op:Nat→Prop} {x:List Int} (h:x∈isA (minsU q op (2 ^ q))):∃c,c<2 ^ q∧Mn q op c∧hold c q=x:=by
 obtain⟨c,hc,rfl⟩:=List.mem_map.1 (isA_mem x h)
 have h2:=List.mem_filter.1 hc
 exact⟨c,List.mem_range.1 h2.1,tv_iff.1 h2.2,rfl⟩
theorem fam_made {q:Nat} (hq1:1≤q) (hq:q≤7) {op:Nat→Prop} (hu:UpC (2 ^ q) op):FamOk q (isA (minsU q op (2 ^ q))):=by
 have hup:=isA_up (mins_dist (q:=q) (op:=op))
 have el:=isA_len (L:=minsU q op (2 ^ q))
 have at_:∀i,i<(isA (minsU q op (2 ^ q))).length→∃c,c<2 ^ q∧Mn q op c∧hold c q=(isA (minsU q op (2 ^ q))).getD i []:=fun i hi=>by
  rw[List.getD_eq_getElem?_getD,List.getElem?_eq_getElem hi]
  exact mins_of (List.getElem_mem hi)
 refine⟨by omega,by omega,fun i hi=>⟨?_,fun h0=>hup (i-1) i (by omega) (by omega)⟩,fun i hi j hj hne hs=>?_⟩
 ·obtain⟨c,_,_,e⟩:=at_ i hi
  rw[← e];exact hold_rises c q
 ·obtain⟨a,ha,ma,ea⟩:=at_ i hi
  obtain⟨b,hb,mb,eb⟩:=at_ j hj
  unfold Sub at hs
  rw[← ea,← eb,bits_hold ha,bits_hold hb] at hs
  refine mn_anti hu ha hb (fun e=>?_) hs ma mb
  subst e
  rcases Nat.lt_or_ge i j with h | h
  ·have:=hup i j h (by omega)
   rw[← ea,← eb,lexB_irr] at this
   cases this
  ·have:=hup j i (by omega) (by omega)
   rw[← ea,← eb,lexB_irr] at this
   cases this
theorem mn_ex {q:Nat} {op:Nat→Prop}:∀c,op c→∃m,m≤c∧Mn q op m:=fun c=>by
 induction c using Nat.strongRecOn with
 | ind c ih=>
  intro h
  by_cases hm:Mn q op c
  ·exact⟨c,Nat.le_refl _,hm⟩
  ·obtain⟨i,hi,hb,ho⟩:∃i,i<q∧c.testBit i=true∧op (dif c (2 ^ i)):=Classical.byContradiction fun hc=>hm ⟨h,fun i hi hb ho=>hc ⟨i,hi,hb,ho⟩⟩
   have hlt:dif c (2 ^ i)<c:=by
    have h1:dif c (2 ^ i)≤c:=dif_le
    have h2:dif c (2 ^ i)≠c:=fun e=>by
     have:=dif_bit c (2 ^ i) i
     rw[e,hb,Nat.testBit_two_pow_self] at this
     cases this
    omega
   obtain⟨m,h1,h2⟩:=ih _ hlt ho
   exact⟨m,by omega,h2⟩
theorem code_made {q:Nat} (hq1:1≤q) (hq:q≤5) {op:Nat→Prop} (hu:UpC (2 ^ q) op) (h0:¬op 0) (h1:∃c,c<2 ^ q∧op c):codeF q (isA (minsU q op (2 ^ q)))=0:=by
 obtain⟨c,hc,ho⟩:=h1
 obtain⟨m,hmc,hm⟩:=mn_ex (q:=q) c ho
 have hne:(isA (minsU q op (2 ^ q))).length≠0:=by
  rw[isA_len]
  have:hold m q∈minsU q op (2 ^ q):=List.mem_map.2 ⟨m,List.mem_filter.2 ⟨List.mem_range.2 (by omega),tv_true hm⟩,rfl⟩
  have:=List.length_pos_of_mem this
  omega
 unfold codeF
 rw[if_pos (tv_true (fam_made hq1 (by omega) hu)),if_neg (by omega),if_neg hne]
 rw[if_neg (fun e=>?_)]
 have hlt:0<(isA (minsU q op (2 ^ q))).length:=by omega
 rw[List.getD_eq_getElem?_getD,List.getElem?_eq_getElem hlt] at e
 obtain⟨a,ha,ma,ea⟩:=mins_of (List.getElem_mem hlt)
 have e2:hold a q=[]:=List.eq_nil_of_length_eq_zero (by rw[ea];exact e)
 have e3:=bits_hold ha
 rw[e2] at e3
 have e4:a=0:=e3.symm
 subst e4
 exact h0 ma.1
theorem RowsB.mv {S S' V:Ids} {A A':AH} {rows:List (List Int)} {cs:List Value} (h:RowsB KI.ml S A V rows cs) (t:∀i,V i→S' i∧A'.m i=A.m i):RowsB KI.ml S' A' V rows cs:=by
 obtain⟨W,h1,h2,h3⟩:=h.rows
 refine⟨h.len,fun i hi=>(t i hi).1,W,h1,h2,fun j x hx=>?_⟩
 obtain⟨v,h4,h5⟩:=h3 j x hx
 exact⟨v,h4,KI.ml.same (fun id hid=>(t id (h1 j id hid)).2) h5⟩
theorem rises_weak {h h':Int} (hh:h≤h') {g:List Int} (hr:Rises 0 h g):Rises 0 h' g:=fun i hi=>by
 have:=hr i hi
 exact⟨⟨this.1.1,by have:=this.1.2;omega⟩,this.2⟩
theorem rises_snoc {h:Nat} {g:List Int} (hr:Rises 0 ((h:Int)-1) g):Rises 0 (h:Int) (g++[(h:Int)]):=fun i hi=>by
 have hl:∀j,j<g.length→(g++[(h:Int)]).getD j 0=g.getD j 0:=fun j hj=>by
  rw[List.getD_eq_getElem?_getD,List.getD_eq_getElem?_getD,List.getElem?_append_left hj]
 have hz:(g++[(h:Int)]).getD g.length 0=h:=by rw[List.getD_eq_getElem?_getD];simp
 have hi:i<g.length+1:=by simpa using hi
 unfold RiseAt
 by_cases e:i=g.length
 ·rw[e,hz]
  refine⟨⟨by omega,Int.le_refl _⟩,fun h0=>?_⟩
  rw[hl _ (by omega)]
  have:=(hr (g.length-1) (by omega)).1.2
  omega
 ·have h3:=hr i (by omega)
  rw[hl i (by omega)]
  refine⟨⟨h3.1.1,by have:=h3.1.2;omega⟩,fun h0=>?_⟩
  rw[hl _ (by omega)]
  exact h3.2 h0
theorem drawn_ok {q:Nat} (hq1:1≤q) (hq:q≤5) {gs:List (List Int)} (hg:∀g∈gs,Rises 0 ((q:Int)-1) g∧g≠[]) (hne:gs≠[]):codeF q (isA (minsU q (Opens gs) (2 ^ q)))=0:=by
 refine code_made hq1 hq (fun a b _ _ hs h=>?_) (fun h=>?_) ?_
 ·obtain⟨g,hg,e⟩:=h
  refine⟨g,hg,?_⟩
  have e2:b &&& bitsOf g=b &&& (a &&& bitsOf g):=by rw[e]
  rw[e2,← Nat.and_assoc,Nat.and_comm b a,hs,e]
 ·obtain⟨g,hg2,e⟩:=h
  rw[Nat.zero_and] at e
  have h1:=hold_bits q (hg g hg2).1
  rw[← e] at h1
  have h2:hold 0 q=[]:=by
   unfold hold
   rw[List.filter_eq_nil_iff.2 (fun i _=>by simp)]
   rfl
  exact(hg g hg2).2 (h1.symm.trans h2)
 ·cases gs with
  | nil=>exact(hne rfl).elim
  | cons g gs=>
   have hb:bitsOf g<2 ^ q:=bitsOf_lt (fun x hx=>by have:=rises_mem (hg g (List.mem_cons_self ..)).1 x hx;omega)
   exact⟨bitsOf g,hb,g,List.mem_cons_self ..,Nat.and_self _⟩
theorem th_ok {q:Nat} (hq1:1≤q) (hq:q≤5) {least:Int} (h1:1≤least) (h2:least≤q):codeF q (isA (minsU q (ThOp q least) (2 ^ q)))=0:=by
 refine code_made hq1 hq th_up (fun h=>?_) ⟨2 ^ q-1,by have:=Nat.two_pow_pos q;omega,?_⟩
 ·unfold ThOp at h
  have e:hold 0 q=[]:=by
   unfold hold
   rw[List.filter_eq_nil_iff.2 (fun i _=>by simp)]
   rfl
  rw[e] at h
  simp at h
  omega
 ·unfold ThOp
  have e:hold (2 ^ q-1) q=(List.range q).map fun(i:Nat)=>(i:Int):=by
   unfold hold
   rw[List.filter_eq_self.2 (fun i hi=>by rw[Nat.testBit_two_pow_sub_one];exact decide_eq_true (List.mem_range.1 hi))]
  rw[e]
  simp
  exact h2
end Go.Proofs.Ytlapbbffoapleaa.Am
namespace Go.Proofs.Ytlapbbffoapleaa.Am
open Go Go.RowKit Go.Proofs
def Lk (gs:List (List Int)) (k b x:Nat):Prop:=Chd gs k b x∧∃w,Least gs k b x w true
theorem Lk.lt {gs:List (List Int)} {k b x:Nat} (h:Lk gs k b x):b<x:=by
 have h1:=h.1.2.1
 have h2:=h.1.2.2.1
 have h3:x &&& b≤x:=Nat.and_le_left
 omega
def Chn (gs:List (List Int)) (k:Nat):Nat→List Nat→Prop
 | _,[]=>True
 | b,x :: r=>Lk gs k b x∧Chn gs k x r
theorem Chn.len {gs:List (List Int)} {k N:Nat}:∀{b:Nat} {xs:List Nat},Chn gs k b xs→(∀y∈xs,y<N)→b<N→xs.length+b<N
 | b,[],_,_,hb=>by simpa using hb
 | b,x :: r,h,hx,hb=>by
  have h1:=h.1.lt
  have h2:=h.2.len (fun y hy=>hx y (List.mem_cons_of_mem _ hy)) (hx x (List.mem_cons_self ..))
  simp only[List.length_cons]
  omega
def ones (n:Nat):Nat:=((List.range 7).filter fun i=>n.testBit i).length
theorem ones_step:∀b,b<128→0<b→ones b=1+ones (b &&& (b-1)):=by decide
theorem ones_pos:∀b,b<128→0<b→0<ones b:=by decide
theorem ones_le (b:Nat):ones b≤7:=Nat.le_trans (List.length_filter_le _ _) (by simp)
theorem ones_zero:ones 0=0:=by decide
structure Bst where
 k:Nat
 ch:List Nat
 w:Nat
 f:Bool
noncomputable def worth (gs:List (List Int)) (k n:Nat):Nat:=if tv (Opens gs k)=true then n+1 else n
structure BOk (gs:List (List Int)) (N:Nat) (s:Bst):Prop where
 k:s.k<N
 ch:Chn gs s.k 0 s.ch
 lt:∀y∈s.ch,y<N
 w:s.w≤N
 pos:s.f=true→0<s.k
end Go.Proofs.Ytlapbbffoapleaa.Am
namespace Go.Proofs.Ytlapbbffoapleaa.Am
open Go Go.RowKit Go.Proofs Go.Proofs.Ytlapbbffoapleaa.Pl
def stepP (n:Nat) (s:List Nat × Bool) (x:Nat):List Nat × Bool:=if s.2=false∧n≤x then((if n<x then s.1++[n] else s.1)++[x],true) else(s.1++[x],s.2)
def putN (n:Nat) (l:List Nat):List Nat:=let s:=l.foldl (stepP n) ([],false);if s.2 then s.1 else s.1++[n]
def comN (gs:List Nat) (both:Nat):Nat:=gs.foldl (fun c g=>if g &&& both=g then c &&& g else c) both
def cirK (gs:List Nat) (gi:Nat) (all:List Nat) (ks:List Nat):List Nat:=ks.foldl (fun all gk=>if(gi ||| gk)≠comN gs (gi ||| gk) then putN (dif (gi ||| gk) (comN gs (gi ||| gk))) all else all) all
def cirA (top:Nat) (gs:List Nat) (n:Nat):List Nat:=(List.range n).foldl (fun all i=>cirK gs (gs.getD i 0) (putN (gs.getD i 0 ||| top) all) (gs.take i)) []
def leastB (all:List Nat) (i:Nat):Bool:=(List.range all.length).all fun k=>k==i||(all.getD k 0 &&& all.getD i 0) !=all.getD k 0
def cirO (all:List Nat) (n:Nat):List Nat:=((List.range n).filter (leastB all)).map fun i=>all.getD i 0
def cirW (top:Nat) (all:List Nat) (n:Nat):Bool:=(List.range n).all fun i=>leastB all i||(all.getD i 0 &&& top)==0
def withinB (list:List Nat) (set:Nat):Bool:=list.any fun x=>(x &&& set)==x
def portB (h:Nat) (list:List Nat) (ok:Bool):Bool:=ok&&(List.range list.length).all fun i=>(List.range i).all fun k=>(List.range (h+1)).all fun e=>(list.getD i 0 &&& list.getD k 0 &&& 2 ^ e)==0||withinB list (dif (list.getD i 0 ||| list.getD k 0) (2 ^ e))
def mostN (list:List Nat) (b n:Nat):Nat:=(List.range n).foldl (fun m a=>if(a &&& b)=a∧withinB list a=false then max m (ones a) else m) 0
def portR (h:Nat) (list:List Nat):List Nat:=(List.range (2 ^ h)).map fun b=>mostN list b (b+1)
def sumR1 (gs:List Nat) (b:Nat):Nat:=(gs.map fun g=>ones (g &&& b)).sum-((gs.filter fun g=>(g &&& b)==g).length-1)
def sumR (h:Nat) (gs:List Nat):List Nat:=(List.range (2 ^ h)).map (sumR1 gs)
def mas:List Nat:=[1,3,7,15,11,5,13,9,2,6,14,10,4,12,8]
def enF:List Nat→List (List Nat)
 | []=>[[]]
 | x :: xs=>enF xs++((enF xs).filter fun l=>l.all fun y=>(x &&& y) !=x&&(x &&& y) !=y).map (x :: ·)
def okT (h:Nat) (l:List Nat):Bool:=l.length==2 ^ h&&l.getD 0 0==0&&l.all (fun x=>decide (x≤100000))&&(List.range (2 ^ h)).all fun a=>(List.range (2 ^ h)).all fun b=>!((a &&& b)==a&&decide (l.getD a 0>l.getD b 0))&&decide (l.getD (a ||| b) 0+l.getD (a &&& b) 0≤l.getD a 0+l.getD b 0)
def chkF (h:Nat) (gs:List Nat):Bool:=
 let all:=cirA (2 ^ h) gs gs.length
 let list:=cirO all all.length
 (!portB h list (cirW (2 ^ h) all all.length)||okT h (portR h list))&&okT h (sumR h gs)
#eval (enF mas).length
#eval (List.range 5).map fun h=>(enF (mas.filter (· < 2 ^ h))).all fun gs=>gs.isEmpty||chkF h gs
#eval (List.range 5).map fun h=>(enF (mas.filter (· < 2 ^ h))).countP fun gs=>portB h (cirO (cirA (2 ^ h) gs gs.length) (cirA (2 ^ h) gs gs.length).length) (cirW (2^h) (cirA (2 ^ h) gs gs.length) (cirA (2 ^ h) gs gs.length).length)
end Go.Proofs.Ytlapbbffoapleaa.Am
namespace Go.Proofs.Ytlapbbffoapleaa.Am
open Go Go.RowKit
section
variable {P:Program} {S:Ids} {H0:AH} {Q:PostC} {k k1:List It} {e e1:Env} {T T1:List Var} {n n1:Nat} {l1 r1:List Nat} {d1:Tmp}
end
structure RowsK {α:Type} (d:Kn α) (S:Ids) (A:AH) (V:Ids) (rows:List α) (cells:List Value):Prop where
 len:rows.length*d.es≤cells.length
 sub:∀id,V id→S id
 rows:∃W:Nat→Ids,(∀j id,W j id→V id)∧(∀i j id,W i id→W j id→i=j)∧∀(j:Nat) x,rows[j]?=some x→d.R (W j) A x ((cells.drop (j*d.es)).take d.es)
section
variable {α:Type} {d:Kn α} {S S' V:Ids} {A A':AH} {rows:List α} {cells:List Value}
theorem RowsK.nil (S:Ids) (A:AH) (cells:List Value):RowsK d S A (fun _=>False) [] cells:=⟨by simp,fun _ h=>h.elim,fun _ _=>False,fun _ _ h=>h.elim,fun _ _ _ h=>h.elim,fun j x h=>by simp at h⟩
theorem RowsK.mv (h:RowsK d S A V rows cells) (t:∀i,V i→S' i∧A'.m i=A.m i):RowsK d S' A' V rows cells:=by
 obtain⟨W,h1,h2,h3⟩:=h.rows
 exact⟨h.len,fun i hi=>(t i hi).1,W,h1,h2,fun j x hx=>d.same (fun id hid=>(t id (h1 j id hid)).2) (h3 j x hx)⟩
theorem splice_part {l ys:List Value} {k q n:Nat} (hk:k+ys.length≤l.length) (hq:q+n≤k∨(q=k∧n=ys.length)):((splice l k ys).drop q).take n=if q+n≤k∧¬(q=k∧n=ys.length) then(l.drop q).take n else ys:=by
 refine List.ext_getElem? fun j=>?_
 rw[List.getElem?_take]
 by_cases hj:j<n
 ·rw[if_pos hj,List.getElem?_drop,splice_get l k ys hk]
  rcases hq with hq | ⟨e1,e2⟩
  ·have h1:q+j<k:=by omega
   rw[if_pos h1]
   split
   ·rw[List.getElem?_take,if_pos hj,List.getElem?_drop]
   ·rename_i h2
    omega
  ·subst e1
   rw[if_neg (by omega),if_pos (by omega),if_neg (fun h=>h.2 ⟨rfl,e2⟩),show q+j-q=j by omega]
 ·rw[if_neg hj]
  split
  ·rw[List.getElem?_take,if_neg hj]
  ·rename_i h2
   rcases hq with hq | ⟨e1,e2⟩
   ·by_cases h3:q=k∧n=ys.length
    ·rw[List.getElem?_eq_none (by omega)]
    ·exact(h2 ⟨hq,h3⟩).elim
   ·rw[List.getElem?_eq_none (by omega)]
theorem RowsK.snoc {X:Ids} {x:α} {cs:List Value} (h:RowsK d S A V rows cells) (hx:d.R X A x cs) (hS:∀id,X id→S id) (hd:∀id,V id→X id→False) (hl:(rows.length+1)*d.es≤cells.length):RowsK d S A (fun id=>V id∨X id) (rows++[x]) (splice cells (rows.length*d.es) cs):=by
 obtain⟨W,h1,h2,h3⟩:=h.rows
 have hcs:=d.len hx
 have hk:rows.length*d.es+cs.length≤cells.length:=by rw[hcs,← Nat.succ_mul];exact hl
 refine⟨by rw[splice_length _ _ _ hk,List.length_append,List.length_singleton];exact hl,fun id hid=>hid.elim (h.sub id) (hS id),fun j id=>if j=rows.length then X id else W j id,fun j id hid=>?_,fun i j id hi hj=>?_,fun j y hy=>?_⟩
 ·simp only at hid
  split at hid
  ·exact .inr hid
  ·exact .inl (h1 j id hid)
 ·simp only at hi hj
  split at hi<;>split at hj
  ·omega
  ·exact(hd id (h1 j id hj) hi).elim
  ·exact(hd id (h1 i id hi) hj).elim
  ·exact h2 i j id hi hj
 ·by_cases e:j=rows.length
  ·subst e
   rw[List.getElem?_append_right (Nat.le_refl _),Nat.sub_self] at hy
   cases hy
   rw[splice_part hk (.inr ⟨rfl,hcs.symm⟩),if_neg (fun h=>h.2 ⟨rfl,hcs.symm⟩)]
   exact d.more (fun id hid=>by show(if rows.length=rows.length then X id else W rows.length id);rw[if_pos rfl];exact hid) hx
  ·have hj:j<rows.length:=by
    have:=(List.getElem?_eq_some_iff.1 hy).1
    simp at this
    omega
   rw[List.getElem?_append_left hj] at hy
   have hle:j*d.es+d.es≤rows.length*d.es:=by rw[← Nat.succ_mul];exact Nat.mul_le_mul_right _ hj
   have hR:=h3 j y hy
   have e2:((splice cells (rows.length*d.es) cs).drop (j*d.es)).take d.es=(cells.drop (j*d.es)).take d.es:=by
    rw[splice_part hk (.inl hle)]
    split
    ·rfl
    ·rename_i h4
     have h5:cs.length=0:=by
      refine Classical.byContradiction fun hne=>h4 ⟨hle,fun h6=>hne ?_⟩
      omega
     have h6:d.es=0:=by omega
     rw[List.eq_nil_of_length_eq_zero h5,h6]
     simp
   rw[e2]
   exact d.more (fun id hid=>by show(if j=rows.length then X id else W j id);rw[if_neg e];exact hid) hR
theorem RowsK.ml {T:List Var} {n i o c:Nat} {ty:TypeId} {H2:AH} {X:Ids} (h:RowsK d S A V rows cells) (g:Good S A T n H2) (hT:T[i]?=some (o,⟨ty,true,cells⟩)) (hX:X o) (hV:∀id,V id→X id) (hc:rows.length≤c):d.Ml X H2 (.slice (some ⟨o,0,some d.es⟩) rows.length c) rows:=by
 obtain⟨W,h1,h2,h3⟩:=h.rows
 have hv:=g.vars i _ hT
 refine .inr ⟨o,c,_,W,rfl,hc,hX,hv.1,rfl,h.len,fun j id hid=>⟨hV id (h1 j id hid),fun e=>hv.2.2 (e ▸ h.sub id (h1 j id hid))⟩,h2,fun j x hx=>?_⟩
 rw[Nat.zero_add]
 exact d.same (fun id hid=>(g.froz id (h.sub id (h1 j id hid))).2) (h3 j x hx)
end
theorem seg_at {l cs:List Value} {k n q:Nat} {v:Value} (h:(l.drop k).take n=cs) (hq:cs[q]?=some v):l[k+q]?=some v:=by
 rw[← h,List.getElem?_take] at hq
 split at hq
 ·rwa [List.getElem?_drop] at hq
 ·cases hq
structure MkRow {α:Type} (M:Kn α) (mk:Int→α→α) (sz:α→Nat) (x:List α) (k:Int) (Ws:Nat→Ids) (len:Nat) (i:Nat) (A:AH) (cs:List Value):Prop where
 len:cs.length=len
 row:∀(j:Nat) y,x[j]?=some y→(i≤j→M.R (Ws j) A y ((cs.drop (0+j*M.es)).take M.es))∧(j<i→M.R (Ws j) A (mk (k+(Am.sum ((x.map sz).take j):Nat)) y) ((cs.drop (0+j*M.es)).take M.es))
theorem MkRow.next {α:Type} {M:Kn α} {mk:Int→α→α} {sz:α→Nat} {x:List α} {k:Int} {Ws:Nat→Ids} {len i:Nat} {A A':AH} {cs cs':List Value} (h:MkRow M mk sz x k Ws len i A cs) {y:α} (hy:x[i]?=some y) (hl:cs'.length=cs.length)
  (hseg:∀j,j≠i→(cs'.drop (0+j*M.es)).take M.es=(cs.drop (0+j*M.es)).take M.es) (hA:∀j,j≠i→∀id,Ws j id→A'.m id=A.m id) (hr:M.R (Ws i) A' (mk (k+(Am.sum ((x.map sz).take i):Nat)) y) ((cs'.drop (0+i*M.es)).take M.es)):MkRow M mk sz x k Ws len (i+1) A' cs':=by
 refine⟨hl.trans h.len,fun j z hz=>?_⟩
 by_cases e:j=i
 ·subst e
  rw[hy] at hz
  cases hz
  exact⟨fun h=>by omega,fun _=>hr⟩
 ·rw[hseg j e]
  exact⟨fun hj=>M.same (hA j e) ((h.row j z hz).1 (by omega)),fun hj=>M.same (hA j e) ((h.row j z hz).2 (by omega))⟩
section
variable {P:Program} {S:Ids} {H0:AH} {W:Ids}
end
structure RkS where
 i:Nat
 S:Ids
 A:AH
 V:Ids
 cs:List Value
structure RkI {α:Type} (M:Kn α) (x:List α) (H:AH) (m:Nat) (s:RkS):Prop where
 le:s.i≤x.length
 old:St (Low H.n) H s.S s.A
 r:RowsK M s.S s.A s.V (x.take s.i) s.cs
 len:s.cs.length=m
 v:∀id,s.V id→H.n<id
theorem RkI.start {α:Type} {M:Kn α} {x:List α} {H:AH} {cs:List Value} {m:Nat} (hl:cs.length=m):RkI M x H m ⟨0,Low H.n,H,fun _=>False,cs⟩:=
 ⟨Nat.zero_le _,fun id hid=>⟨hid,rfl⟩,RowsK.nil _ _ _,hl,fun _ h=>h.elim⟩
theorem RkI.next {α:Type} {M:Kn α} {x:List α} {H H1:AH} {s:RkS} {S':Ids} {n m:Nat} (h:RkI M x H m s) (hm:m=x.length*M.es) (hn:H.n<n) (hlt:∀id,s.S id→id<n) (st:St s.S s.A S' H1) (hw:∀id,New n H1.n id→S' id) {y:α} {cs:List Value} (hy:x[s.i]?=some y) (hv:M.R (New n H1.n) H1 y cs):
  RkI M x H m ⟨s.i+1,S',H1,fun id=>s.V id∨New n H1.n id,splice s.cs (0+s.i*M.es) cs⟩:=by
 have hi:=(List.getElem?_eq_some_iff.1 hy).1
 have hl:=h.len
 have ht:(x.take s.i).length=s.i:=by rw[List.length_take];have:=h.le;omega
 have hle:(s.i+1)*M.es≤s.cs.length:=by rw[hl,hm];exact Nat.mul_le_mul_right _ hi
 have hs:=(h.r.mv (S':=S') (A':=H1) (fun i hi=>st i (h.r.sub i hi))).snoc hv hw (fun id p q=>by have:=hlt id (h.r.sub id p);have:=q.1;omega) (by rw[ht];exact hle)
 rw[ht] at hs
 rw[Nat.zero_add]
 refine⟨by simp only;omega,h.old.trans st,?_,?_,fun id hid=>hid.elim (h.v id) (fun q=>by have:=q.1;omega)⟩
 ·simp only
  have e:x.take (s.i+1)=x.take s.i++[y]:=by rw[List.take_add_one,hy];rfl
  rw[e]
  exact hs
 ·simp only
  rw[splice_length _ _ _ (by rw[M.len hv];rw[Nat.succ_mul] at hle;exact hle)]
  exact hl
theorem RkI.ml {α:Type} {M:Kn α} {x:List α} {H H1:AH} {s:RkS} {n1 m:Nat} {ty:TypeId} {T:List Var} (h:RkI M x H m s) (he:s.i=x.length) (hT:T[0]?=some (H.n,⟨ty,true,s.cs⟩)) (g:Good s.S s.A T n1 H1):
  M.Ml (New H.n H1.n) H1 (.slice (some ⟨H.n,0,some M.es⟩) x.length x.length) x:=by
 have hb:=g.blk hT
 have hr:=h.r
 rw[he,List.take_of_length_le (Nat.le_refl _)] at hr
 have hn:=g.n_
 exact hr.ml g hT ⟨Nat.le_refl _,hb.2⟩ (fun id hid=>⟨Nat.le_of_lt (h.v id hid),by have:=(g.froz id (hr.sub id hid)).1;omega⟩) (Nat.le_refl _)
section
variable {P:Program} {S:Ids} {H0:AH} {Q:PostC} {k k1:List It} {e e1:Env} {T T1:List Var} {n n1:Nat} {l1 r1:List Nat} {d1:Tmp}
end
end Go.Proofs.Ytlapbbffoapleaa.Am
namespace Go.Proofs.Ytlapbbffoapleaa.Pl
theorem sc_get {p b:Int} {w:List Int} {c:Nat}:(sc p b w).getD c 0=w.getD c 0*b%p:=by
 simp only[sc,List.getD_eq_getElem?_getD,List.getElem?_map]
 cases w[c]?<;>simp
theorem tk_get {p t:Int} {a b:List Int} (h:a.length=b.length) {c:Nat}:(tk p t a b).getD c 0=(a.getD c 0+(p-t)*b.getD c 0)%p:=by
 simp only[tk,List.getD_eq_getElem?_getD,List.getElem?_zipWith]
 rcases Nat.lt_or_ge c a.length with hc | hc
 ·rw[List.getElem?_eq_getElem hc,List.getElem?_eq_getElem (by omega)];simp
 ·rw[List.getElem?_eq_none hc,List.getElem?_eq_none (by omega)];simp
theorem mod_eq (a p:Int):∃k,a%p=a-p*k:=⟨a / p,by rw[Int.emod_def]⟩
def Fer (p:Int):Prop:=2≤p∧∀a:Int,0<a→a<p→∃q,a*pw p a (p-2).toNat=1+p*q
theorem sw_get {L:List (List Int)} {n a:Nat} {u w:List Int} (hu:L[n]?=some u) (hw:L[a]?=some w) (j:Nat):(sw L n a)[j]?=if j=a then some u else if j=n then some w else L[j]?:=by
 obtain⟨h1,e1⟩:=List.getElem?_eq_some_iff.1 hu
 obtain⟨h2,e2⟩:=List.getElem?_eq_some_iff.1 hw
 have d1:L.getD n []=u:=by rw[List.getD_eq_getElem?_getD,hu];rfl
 have d2:L.getD a []=w:=by rw[List.getD_eq_getElem?_getD,hw];rfl
 simp only[sw,d1,d2]
 rw[List.getElem?_set]
 by_cases e:a=j
 ·subst e;rw[if_pos rfl,if_pos rfl,if_pos (by rw[List.length_set];exact h2)]
 ·rw[if_neg e,if_neg (Ne.symm e),List.getElem?_set]
  by_cases e':n=j
  ·subst e';rw[if_pos rfl,if_pos rfl,if_pos h1]
  ·rw[if_neg e',if_neg (Ne.symm e')]
theorem nz_val {L:List (List Int)} {c:Nat}:∀(d a:Nat),a+d=L.length→nz L c a<L.length→∃r,L[nz L c a]?=some r∧r.getD c 0≠0
 | 0,a,h,hl=>by rw[nz_end (by omega)] at hl;omega
 | d+1,a,h,hl=>by
  obtain⟨r,hr⟩:∃r,L[a]?=some r:=⟨L[a]'(by omega),List.getElem?_eq_getElem (by omega)⟩
  by_cases hz:r.getD c 0=0
  ·rw[← nz_step hr hz] at hl ⊢
   exact nz_val d (a+1) (by omega) hl
  ·rw[nz_stop hr hz]
   exact⟨r,hr,hz⟩
theorem nz_zero {L:List (List Int)} {c:Nat}:∀(d a:Nat),a+d=L.length→∀(j:Nat) r,a≤j→j<nz L c a→L[j]?=some r→r.getD c 0=0
 | 0,a,h,j,r,h1,h2,hr=>by rw[nz_end (by omega)] at h2;omega
 | d+1,a,h,j,r,h1,h2,hr=>by
  obtain⟨u,hu⟩:∃u,L[a]?=some u:=⟨L[a]'(by omega),List.getElem?_eq_getElem (by omega)⟩
  by_cases hz:u.getD c 0=0
  ·rw[← nz_step hu hz] at h2
   rcases Nat.eq_or_lt_of_le h1 with rfl | h3
   ·rw[hu] at hr;cases hr;exact hz
   ·exact nz_zero d (a+1) (by omega) j r (by omega) h2 hr
  ·rw[nz_stop hu hz] at h2;omega
theorem rnd_rows {p:Int} {K c n:Nat} {L L':List (List Int)} (hf:Fer p) (hL:Rect p K L) (hn:n≤L.length) (h:rnd p L c n=some L'):
  ∃(a:Nat) (u w:List Int) (b:Int),n≤a∧a<L.length∧L[n]?=some u∧L[a]?=some w∧w.getD c 0≠0∧(∃q,w.getD c 0*b=1+p*q)∧L'.length=L.length∧L'[n]?=some (sc p b w)∧
   (∀(j:Nat) v,n≤j→j<a→L[j]?=some v→v.getD c 0=0)∧
   ∀j,j≠n→L'[j]?=(if j=a then some u else L[j]?).map fun v=>tk p (v.getD c 0) v (sc p b w):=by
 unfold rnd at h
 split at h
 ·cases h
 ·rename_i hne
  have hnz:=nz_le (L:=L) (c:=c) (L.length-n) n (by omega)
  have hlt:nz L c n<L.length:=by omega
  obtain⟨w,hw,hw0⟩:=nz_val (L.length-n) n (by omega) hlt
  have hz:=nz_zero (L:=L) (c:=c) (L.length-n) n (by omega)
  obtain⟨a,ha⟩:∃a,nz L c n=a:=⟨_,rfl⟩
  rw[ha] at hw hz hnz hlt h
  obtain⟨u,hu⟩:∃u,L[n]?=some u:=⟨L[n]'(by omega),List.getElem?_eq_getElem (by omega)⟩
  have hswn:(sw L n a)[n]?=some w:=by
   rw[sw_get hu hw]
   split
   ·rename_i e;subst e;rw[hw] at hu;exact hu.symm
   ·rw[if_pos rfl]
  have hd:(sw L n a).getD n []=w:=by rw[List.getD_eq_getElem?_getD,hswn];rfl
  have hwin:=hL w (List.mem_of_getElem? hw)
  have hwc:0<w.getD c 0∧w.getD c 0<p:=by
   rcases Nat.lt_or_ge c w.length with hc | hc
   ·have h1:w.getD c 0=w[c]:=by rw[List.getD_eq_getElem?_getD,List.getElem?_eq_getElem hc];rfl
    have h2:=hwin.2 _ (List.getElem_mem hc)
    rw[← h1] at h2
    omega
   ·exact absurd (by rw[List.getD_eq_getElem?_getD,List.getElem?_eq_none hc];rfl) hw0
  have hlead:lead p L c n=sc p (pw p (w.getD c 0) (p-2).toNat) w:=by unfold lead;rw[ha,hd]
  rw[hlead] at h
  injection h with h
  obtain⟨b,hb⟩:∃b,pw p (w.getD c 0) (p-2).toNat=b:=⟨_,rfl⟩
  have hbq:=hf.2 _ hwc.1 hwc.2
  rw[hb] at h hbq
  have hlen:((sw L n a).set n (sc p b w)).length=L.length:=by rw[List.length_set,sw_len]
  refine⟨a,u,w,b,hnz.1,hlt,hu,hw,hw0,hbq,by rw[← h,tks_len,hlen],?_,fun j v h1 h2 hj=>hz j v h1 h2 hj,fun j hj=>?_⟩
  ·rw[← h,tks_get,List.getElem?_set,if_pos rfl,if_pos (by rw[sw_len];omega),Option.map_some,if_neg (by omega)]
  ·rw[← h,tks_get,List.getElem?_set,if_neg (Ne.symm hj),sw_get hu hw]
   rcases Nat.lt_or_ge j L.length with hjl | hjl
   ·congr 1
    ·funext v;rw[if_pos ⟨hjl,hj⟩]
    ·split
     ·rfl
     ·rfl
   ·rw[if_neg (by omega),if_neg hj,if_neg (by omega),List.getElem?_eq_none hjl];rfl
structure Ech (p:Int) (K c:Nat) (E:List (List Int)) (P:List Nat):Prop where
 rect:Rect p K E
 le:P.length≤E.length
 piv:∀(i q:Nat) r,P[i]?=some q→E[i]?=some r→q<c∧r.getD q 0=1∧∀j,j<q→r.getD j 0=0
 zero:∀(i:Nat) r,P.length≤i→E[i]?=some r→∀j,j<c→r.getD j 0=0
 red:∀(i q j:Nat) r,P[i]?=some q→j≠i→E[j]?=some r→r.getD q 0=0
theorem small_mod {p x:Int} (h:0≤x∧x<p):x%p=x:=Int.emod_eq_of_lt h.1 h.2
theorem Rect.el {p:Int} {K:Nat} {L:List (List Int)} (h:Rect p K L) (hp:0<p) {i:Nat} {r:List Int} (hr:L[i]?=some r) (c:Nat):0≤r.getD c 0∧r.getD c 0<p:=by
 rcases Nat.lt_or_ge c r.length with hc | hc
 ·rw[List.getD_eq_getElem?_getD,List.getElem?_eq_getElem hc]
  exact(h r (List.mem_of_getElem? hr)).2 _ (List.getElem_mem hc)
 ·rw[List.getD_eq_getElem?_getD,List.getElem?_eq_none hc];exact⟨Int.le_refl _,hp⟩
theorem Ech.some_ {p:Int} {K c:Nat} {E E':List (List Int)} {P:List Nat} (hf:Fer p) (h:Ech p K c E P) (hr:rnd p E c P.length=some E') (hR:Rect p K E'):Ech p K (c+1) E' (P++[c]):=by
 have hp:0<p:=by have:=hf.1;omega
 obtain⟨a,u,w,b,h1,h2,hu,hw,hw0,⟨q0,hq0⟩,hlen,hln,hz,hrest⟩:=rnd_rows hf h.rect h.le hr
 have hwz:∀j,j<c→w.getD j 0=0:=fun j hj=>h.zero a w h1 hw j hj
 have huz:∀j,j<c→u.getD j 0=0:=fun j hj=>h.zero _ u (Nat.le_refl _) hu j hj
 have hlz:∀j,j<c→(sc p b w).getD j 0=0:=fun j hj=>by rw[sc_get,hwz j hj];simp
 have hl1:(sc p b w).getD c 0=1:=by
  rw[sc_get,hq0,Int.add_mul_emod_self_left]
  exact Int.emod_eq_of_lt (by omega) (by have:=hf.1;omega)
 have hul:=(h.rect u (List.mem_of_getElem? hu)).1
 have hwl:=(h.rect w (List.mem_of_getElem? hw)).1
 have hscl:(sc p b w).length=w.length:=by simp[sc]
 have src:∀(j:Nat) r,j≠P.length→E'[j]?=some r→∃v i,E[i]?=some v∧(j<P.length→i=j)∧(P.length<j→P.length≤i)∧∀m,r.getD m 0=(v.getD m 0+(p-v.getD c 0)*(sc p b w).getD m 0)%p:=fun j r hj hr=>by
  rw[hrest j hj] at hr
  obtain⟨v,hv,rfl⟩:=Option.map_eq_some_iff.1 hr
  split at hv
  ·rename_i e
   cases hv
   exact⟨u,P.length,hu,fun h=>by omega,fun h=>Nat.le_refl _,fun m=>tk_get (by rw[hscl,hul,hwl])⟩
  ·exact⟨v,j,hv,fun h=>rfl,fun h=>by omega,fun m=>tk_get (by rw[hscl,(h.rect v (List.mem_of_getElem? hv)).1,hwl])⟩
 have low:∀(j:Nat) (r v:List Int) (i:Nat),E[i]?=some v→(∀m,r.getD m 0=(v.getD m 0+(p-v.getD c 0)*(sc p b w).getD m 0)%p)→∀m,m<c→r.getD m 0=v.getD m 0:=fun j r v i hv hm m hmc=>by
  rw[hm m,hlz m hmc,Int.mul_zero,Int.add_zero]
  exact small_mod (h.rect.el hp hv m)
 have atc:∀(r v:List Int) (i:Nat),E[i]?=some v→(∀m,r.getD m 0=(v.getD m 0+(p-v.getD c 0)*(sc p b w).getD m 0)%p)→r.getD c 0=0:=fun r v i hv hm=>by
  rw[hm c,hl1]
  have:v.getD c 0+(p-v.getD c 0)*1=p:=by omega
  rw[this,Int.emod_self]
 have hPl:(P++[c]).length=P.length+1:=by simp
 have split1:∀{i q:Nat},(P++[c])[i]?=some q→(i<P.length∧P[i]?=some q)∨(i=P.length∧q=c):=fun {i q} hi=>by
  rcases Nat.lt_or_ge i P.length with hl | hl
  ·rw[List.getElem?_append_left hl] at hi;exact .inl ⟨hl,hi⟩
  ·have:=(List.getElem?_eq_some_iff.1 hi).1
   rw[hPl] at this
   have e:i=P.length:=by omega
   subst e
   rw[List.getElem?_append_right (Nat.le_refl _)] at hi
   simp at hi
   exact .inr ⟨rfl,hi.symm⟩
 refine⟨hR,by rw[hPl,hlen];omega,fun i q r hi hr2=>?_,fun i r hi hr2 j hj=>?_,fun i q j r hi hj hr2=>?_⟩
 ·rcases split1 hi with⟨hl,hi⟩ | ⟨rfl,rfl⟩
  ·obtain⟨v,i',hv,e1,_,hm⟩:=src i r (by omega) hr2
   have e:=e1 hl
   subst e
   obtain⟨p1,p2,p3⟩:=h.piv i' q v hi hv
   refine⟨by omega,by rw[low i' r v i' hv hm q p1];exact p2,fun m hm'=>by rw[low i' r v i' hv hm m (by omega)];exact p3 m hm'⟩
  ·rw[hln] at hr2
   cases hr2
   exact⟨by omega,hl1,hlz⟩
 ·rw[hPl] at hi
  obtain⟨v,i',hv,_,e2,hm⟩:=src i r (by omega) hr2
  by_cases e:j=c
  ·subst e;exact atc r v i' hv hm
  ·rw[low i r v i' hv hm j (by omega)]
   exact h.zero i' v (e2 (by omega)) hv j (by omega)
 ·rcases split1 hi with⟨hl,hi⟩ | ⟨rfl,rfl⟩
  ·have hqc:q<c:=by
    obtain⟨v,hv⟩:∃v,E[i]?=some v:=⟨E[i]'(by have:=h.le;omega),List.getElem?_eq_getElem (by have:=h.le;omega)⟩
    exact(h.piv i q v hi hv).1
   by_cases e:j=P.length
   ·subst e;rw[hln] at hr2;cases hr2;exact hlz q hqc
   ·obtain⟨v,i',hv,e1,e2,hm⟩:=src j r e hr2
    rw[low j r v i' hv hm q hqc]
    refine h.red i q i' v hi (fun e'=>?_) hv
    rcases Nat.lt_or_ge j P.length with hjl | hjl
    ·exact hj (by rw[← e1 hjl];exact e')
    ·have:=e2 (by omega);omega
  ·obtain⟨v,i',hv,_,_,hm⟩:=src j r hj hr2
   exact atc r v i' hv hm
def Cg (p a b:Int):Prop:=∃k,a=b+p*k
theorem Cg.symm {p a b:Int} (h:Cg p a b):Cg p b a:=by obtain⟨k,h⟩:=h;exact⟨-k,by rw[h];grind⟩
theorem Cg.trans {p a b c:Int} (h:Cg p a b) (h':Cg p b c):Cg p a c:=by
 obtain⟨k,h⟩:=h;obtain⟨j,h'⟩:=h';exact⟨k+j,by rw[h,h'];grind⟩
theorem Cg.add {p a b c d:Int} (h:Cg p a b) (h':Cg p c d):Cg p (a+c) (b+d):=by
 obtain⟨k,h⟩:=h;obtain⟨j,h'⟩:=h';exact⟨k+j,by rw[h,h'];grind⟩
theorem Cg.sub {p a b c d:Int} (h:Cg p a b) (h':Cg p c d):Cg p (a-c) (b-d):=by
 obtain⟨k,h⟩:=h;obtain⟨j,h'⟩:=h';exact⟨k-j,by rw[h,h'];grind⟩
theorem Cg.mul {p a b c d:Int} (h:Cg p a b) (h':Cg p c d):Cg p (a*c) (b*d):=by
 obtain⟨k,h⟩:=h;obtain⟨j,h'⟩:=h';exact⟨b*j+k*d+p*k*j,by rw[h,h'];grind⟩
theorem Cg.eq {p a b:Int} (h:Cg p a b) (ha:0≤a∧a<p) (hb:0≤b∧b<p):a=b:=by
 obtain⟨k,h⟩:=h
 have h1:a%p=b%p:=by rw[h,Int.add_mul_emod_self_left]
 rwa [Int.emod_eq_of_lt ha.1 ha.2,Int.emod_eq_of_lt hb.1 hb.2] at h1
theorem Cg.of {p a b:Int} (h:a%p=b%p):Cg p a b:=by
 obtain⟨k,hk⟩:=mod_eq a p
 obtain⟨j,hj⟩:=mod_eq b p
 exact⟨k-j,by rw[hk,hj] at h;grind⟩
def fz (r:List Int):Nat:=r.findIdx (fun a=>decide (a≠0))
theorem fz_le {r:List Int}:fz r≤r.length:=List.findIdx_le_length
theorem fz_at {r:List Int} (h:fz r<r.length):r.getD (fz r) 0≠0:=by
 have:=List.findIdx_getElem (w:=h)
 rw[List.getD_eq_getElem?_getD,List.getElem?_eq_getElem h]
 simpa [fz] using this
theorem fz_of_zero {r:List Int} (h:∀j,r.getD j 0=0):fz r=r.length:=by
 have:=fz_le (r:=r)
 rcases Nat.lt_or_ge (fz r) r.length with hj | hj
 ·exact absurd (h _) (fz_at hj)
 ·omega
abbrev PrT:=List Int × List Int
def stp (p:Int) (x b:PrT):PrT:=if x.1.getD (fz b.1) 0≠0 then(tk p (x.1.getD (fz b.1) 0) x.1 b.1,tk p (x.1.getD (fz b.1) 0) x.2 b.2) else x
def less (p:Int) (B:List PrT) (x:PrT):PrT:=B.foldl (stp p) x
theorem fz_eq {r:List Int} {i:Nat} (hi:r.getD i 0≠0) (h:∀j,j<i→r.getD j 0=0):fz r=i:=by
 have hl:i<r.length:=by
  rcases Nat.lt_or_ge i r.length with h1 | h1
  ·exact h1
  ·exact absurd (by rw[List.getD_eq_getElem?_getD,List.getElem?_eq_none h1];rfl) hi
 have h1:=fz_le (r:=r)
 rcases Nat.lt_trichotomy (fz r) i with h2 | h2 | h2
 ·exact absurd (h _ h2) (fz_at (by omega))
 ·exact h2
 ·have:=List.not_of_lt_findIdx (p:=fun a:Int=>decide (a≠0)) (xs:=r) (i:=i) h2
  rw[List.getD_eq_getElem?_getD,List.getElem?_eq_getElem hl] at hi
  exact absurd (by simpa using this) hi
def st1 (p:Int) (b v:List Int):List Int:=if v.getD (fz b) 0≠0 then tk p (v.getD (fz b) 0) v b else v
def red (p:Int):List PrT→List Int→List Int
 | [],v=>v
 | b :: B,v=>red p B (st1 p b.1 v)
def wS (f:Nat→Int):Nat→List Int→Int
 | _,[]=>0
 | c,a :: t=>f c*a+wS f (c+1) t
end Go.Proofs.Ytlapbbffoapleaa.Pl
namespace Go.Proofs.Ytlapbbffoapleaa.Am
open Go Go.RowKit Go.Proofs Go.Proofs.Ytlapbbffoapleaa.Pl
structure Wr (xs ys:List Int) (n i:Nat) (cs:List Value):Prop where
 len:cs.length=n
 done:∀(j:Nat) y,j<i→ys[j]?=some y→cs[j]?=some (.int .i64 y)
 rest:∀(j:Nat) x,i≤j→xs[j]?=some x→cs[j]?=some (.int .i64 x)
theorem Wr.next {xs ys:List Int} {n i:Nat} {cs:List Value} {v:Value} {y:Int} (h:Wr xs ys n i cs) (hi:i<n) (hy:ys[i]?=some y) (hv:v=.int .i64 y):Wr xs ys n (i+1) (cs.set (0+i*1) v):=by
 have hl:=h.len
 rw[Nat.zero_add,Nat.mul_one]
 refine⟨by simp[hl],fun j z hj hz=>?_,fun j x hj hx=>?_⟩
 ·by_cases e:i=j
  ·subst e
   rw[hy] at hz
   cases hz
   rw[List.getElem?_set_self (by omega),hv]
  ·rw[List.getElem?_set_ne e]
   exact h.done j z (by omega) hz
 ·rw[List.getElem?_set_ne (by omega)]
  exact h.rest j x (by omega) hx
theorem mul_in {x y:Int} (hx:0≤x∧x≤31) (hy:0≤y∧y≤31):0≤x*y∧x*y≤961:=
 ⟨Int.mul_nonneg hx.1 hy.1,Int.le_trans (Int.mul_le_mul_of_nonneg_right hx.2 hy.1) (by omega)⟩
theorem tk_length {p t:Int} {xs ys:List Int} (h:xs.length=ys.length):(tk p t xs ys).length=xs.length:=by simp[tk,h]
theorem tk_at {p t:Int} {xs ys:List Int} {i:Nat} {x y:Int} (hx:xs[i]?=some x) (hy:ys[i]?=some y):(tk p t xs ys)[i]?=some ((x+(p-t)*y)%p):=by
 simp[tk,List.getElem?_zipWith,hx,hy]
section
variable {S:Ids} {H0:AH}
theorem scaled {W:Ids} {p b:Int} (hp:2≤p∧p≤31) (hb:0≤b∧b<p) {a c} {xs:List Int} (hl:xs.length≤4194304) (hx:∀x∈xs,0≤x∧x<p) (hW:∀id,W id→S id) (hs:KI.Ml W H0 (.slice a xs.length c) xs):
  SpecW Try.prog S H0 W 67 [.int .i64 p,.slice a xs.length c,.int .i64 b] (fun n v H1=>KI.Ml W H1 (.slice a xs.length c) (sc p b xs)):=by
 rcases hs with⟨rfl,a0,c0,he,ha⟩ | ⟨o,c1,bb,Ws,he,h2,h3,h4,h5,h6,h7,h8,h9⟩
 ·refine SpecM.w ?_
  refine SpecM.of Try.func67 rfl (by kernel_rfl) rfl (fun H hfin hfz=>?_)
  refine KW.lp U U (fun _:Unit=>[(0,.int .i64 p),(1,.slice a 0 c),(2,.int .i64 b),(8,.int .i64 0),(9,.int .i64 0)]) (fun _=>True) (fun _=>0) (()) (trivial) ⟨rfl,rfl,rfl,rfl,rfl,trivial⟩ (fun _ hi bE n=>?_)
  refine KW.cF U U (by first | (simp;done) | decide) ?_
  exact KW.endM U U U U (fun id hid=>⟨hid,rfl⟩) (fun H1 g=>.inl ⟨rfl,a,c,rfl,by cases he;exact ha⟩)
 ·cases he
  obtain⟨ty,rw,cells⟩:=bb
  obtain rfl:rw=true:=h5
  have h6:xs.length*1≤cells.length:=h6
  have hget:∀(i:Nat) x,xs[i]?=some x→cells[i]?=some (.int .i64 x):=fun i x hx=>by
   have h:=cell_of (m:=0+i*1) (h9 i x hx)
   rw[Nat.zero_add,Nat.mul_one] at h
   exact h
  refine SpecW.of Try.func67 rfl (by kernel_rfl) rfl (hW o h3) h4 (fun H hfin hfz=>?_)
  refine KW.lpM U U (fun s:(Nat × List Value)=>[(0,.int .i64 p),(1,.slice (some ⟨o,0,some 1⟩) xs.length c),(2,.int .i64 b),(8,.int .i64 xs.length),(9,.int .i64 s.1)]) (fun s=>fun i=>Low H.n i∧i≠o) (fun s=>H) (fun s=>[(o,⟨_,true,s.2⟩)]) (fun s=>s.1≤xs.length∧Wr xs (sc p b xs) cells.length s.1 s.2) (fun s=>xs.length-s.1) ((0,cells)) (⟨by omega,rfl,fun j y hj=>absurd hj (Nat.not_lt_zero _),fun j x _ h=>hget j x h⟩) ⟨rfl,rfl,rfl,rfl,rfl,trivial⟩ U U (rfl) (fun s hi bE n=>?_)
  obtain⟨i,cs⟩:=s
  obtain⟨hi0,hi1⟩:=hi
  simp only at hi0 hi1
  have hcl:=hi1.len
  refine KW.cnd U U (fun h=>?_) (fun h=>?_)
  ·have h:(i:Int)<xs.length:=h
   obtain⟨x,hx1⟩:∃x,xs[i]?=some x:=⟨xs[i]'(by omega),List.getElem?_eq_getElem (by omega)⟩
   have hxb:=hx x (List.mem_of_getElem? hx1)
   have hm:=mul_in (x:=x) (y:=b) (by omega) (by omega)
   refine KW.idx0 U U U U U U U U U (by omega) (h) ?_
   refine KW.ldT 0 U U U U U U (bload_at (by rw[Nat.zero_add,Nat.mul_one];exact hi1.rest i x (Nat.le_refl _) hx1) U U) ?_
   refine KW.rem U U U U U U (by rw[wr (by omega) (by omega)];exact hm.1) (by omega) ?_
   refine KW.idx0 U U U U U U U U U (by omega) (h) ?_
   refine KW.st1 0 U U U U U U U U U U U U (by simp only;omega) ?_
   refine KW.nxt U U (fun H' g=>⟨(i+1,_),⟨by simp only;omega,hi1.next (by omega) (y:=x*b%p) (by simp[sc,hx1]) (congrArg (fun z=>Value.int .i64 (z%p)) (wr (by omega) (by omega)))⟩,by first | omega | (simp only;omega),⟨rfl,rfl,rfl,rfl,congrArg (Value.int .i64) (inc64 (by omega)),trivial⟩,g⟩)
  ·obtain rfl:i=xs.length:=by have h:¬(i:Int)<xs.length:=h;omega
   refine KW.endW U U U U (fun H1 g=>g.nle1 (j:=0) rfl) (fun id hid hw=>⟨⟨hid,fun e=>hw (by subst e;exact h3)⟩,rfl⟩) (fun H1 g=>?_)
   have hb:=g.blk (j:=0) rfl
   have el:(sc p b xs).length=xs.length:=by simp[sc]
   rw[← el]
   exact mlI_of h3 hb.1 rfl (by rw[el];exact h2) (by rw[el];simp only;omega) (fun j y hy=>hi1.done j y (by have:=(List.getElem?_eq_some_iff.1 hy).1;omega) hy)
theorem takeOff {W X:Ids} {p t:Int} (hp:2≤p∧p≤31) (ht:0≤t∧t<p) {a c a2 c2} {xs ys:List Int} (hxy:xs.length=ys.length) (hy:∀y∈ys,0≤y∧y<p) (hX:∀id,X id→S id∧¬W id) (hs2:KI.Sl X H0 (.slice a2 ys.length c2) ys) (hl:xs.length≤4194304) (hx:∀x∈xs,0≤x∧x<p) (hW:∀id,W id→S id) (hs:KI.Ml W H0 (.slice a xs.length c) xs):
  SpecW Try.prog S H0 W 69 [.int .i64 p,.slice a xs.length c,.slice a2 ys.length c2,.int .i64 t] (fun n v H1=>KI.Ml W H1 (.slice a xs.length c) (tk p t xs ys)):=by
 rcases hs with⟨rfl,a0,c0,he,ha⟩ | ⟨o,c1,bb,Ws,he,h2,h3,h4,h5,h6,h7,h8,h9⟩
 ·obtain rfl:ys=[]:=List.eq_nil_of_length_eq_zero hxy.symm
  refine SpecM.w ?_
  refine SpecM.of Try.func69 rfl (by kernel_rfl) rfl (fun H hfin hfz=>?_)
  refine KW.lp U U (fun _:Unit=>[(0,.int .i64 p),(1,.slice a 0 c),(2,.slice a2 0 c2),(3,.int .i64 t),(10,.slice a2 0 c2),(11,.int .i64 0),(12,.int .i64 0)]) (fun _=>True) (fun _=>0) (()) (trivial) ⟨rfl,rfl,rfl,rfl,rfl,rfl,rfl,trivial⟩ (fun _ hi bE n=>?_)
  refine KW.cF U U (by first | (simp;done) | decide) ?_
  exact KW.endM U U U U (fun id hid=>⟨hid,rfl⟩) (fun H1 g=>.inl ⟨rfl,a,c,rfl,by cases he;exact ha⟩)
 ·cases he
  obtain⟨ty,rw,cells⟩:=bb
  obtain rfl:rw=true:=h5
  have h6:xs.length*1≤cells.length:=h6
  have hget:∀(i:Nat) x,xs[i]?=some x→cells[i]?=some (.int .i64 x):=fun i x hx=>by
   have h:=cell_of (m:=0+i*1) (h9 i x hx)
   rw[Nat.zero_add,Nat.mul_one] at h
   exact h
  refine SpecW.of Try.func69 rfl (by kernel_rfl) rfl (hW o h3) h4 (fun H hfin hfz=>?_)
  have hs3:KI.Sl (fun i=>Low H.n i∧i≠o) H (.slice a2 ys.length c2) ys:=(hs2.same (fun id hid=>(hfz id (hX id hid).1).2)).more (fun id hid=>⟨(hfz id (hX id hid).1).1,fun e=>(hX id hid).2 (by rw[e];exact h3)⟩)
  refine KW.lpM U U (fun s:(Nat × List Value)=>[(0,.int .i64 p),(1,.slice (some ⟨o,0,some 1⟩) xs.length c),(2,.slice a2 ys.length c2),(3,.int .i64 t),(10,.slice a2 ys.length c2),(11,.int .i64 ys.length),(12,.int .i64 s.1)]) (fun s=>fun i=>Low H.n i∧i≠o) (fun s=>H) (fun s=>[(o,⟨_,true,s.2⟩)]) (fun s=>s.1≤xs.length∧Wr xs (tk p t xs ys) cells.length s.1 s.2) (fun s=>xs.length-s.1) ((0,cells)) (⟨by omega,rfl,fun j y hj=>absurd hj (Nat.not_lt_zero _),fun j x _ h=>hget j x h⟩) ⟨rfl,rfl,rfl,rfl,rfl,rfl,rfl,trivial⟩ U U (rfl) (fun s hi bE n=>?_)
  obtain⟨i,cs⟩:=s
  obtain⟨hi0,hi1⟩:=hi
  simp only at hi0 hi1
  have hcl:=hi1.len
  refine KW.cnd U U (fun h=>?_) (fun h=>?_)
  ·have h:(i:Int)<xs.length:=by have h:(i:Int)<ys.length:=h;omega
   obtain⟨x,hx1⟩:∃x,xs[i]?=some x:=⟨xs[i]'(by omega),List.getElem?_eq_getElem (by omega)⟩
   have hxb:=hx x (List.mem_of_getElem? hx1)
   refine KW.getI hs3 U U U U U U U U U U U U U U U U (by omega) (by omega) (fun y hy1=>?_)
   have hy1:ys[i]?=some y:=hy1
   have hyb:=hy y (List.mem_of_getElem? hy1)
   have hm:=mul_in (x:=p-t) (y:=y) (by omega) (by omega)
   have ew:IntKind.i64.wrap (x+IntKind.i64.wrap (IntKind.i64.wrap (p-t)*y))=x+(p-t)*y:=by rw[wr (x:=p-t) (by omega) (by omega),wr (x:=(p-t)*y) (by omega) (by omega),wr (by omega) (by omega)]
   refine KW.idx0 U U U U U U U U U (by omega) (h) ?_
   refine KW.ldT 0 U U U U U U (bload_at (by rw[Nat.zero_add,Nat.mul_one];exact hi1.rest i x (Nat.le_refl _) hx1) U U) ?_
   refine KW.rem U U U U U U (by rw[ew];omega) (by omega) ?_
   refine KW.idx0 U U U U U U U U U (by omega) (h) ?_
   refine KW.st1 0 U U U U U U U U U U U U (by simp only;omega) ?_
   refine KW.nxt U U (fun H' g=>⟨(i+1,_),⟨by simp only;omega,hi1.next (by omega) (y:=(x+(p-t)*y)%p) (tk_at hx1 hy1) (congrArg (fun z=>Value.int .i64 (z%p)) ew)⟩,by first | omega | (simp only;omega),⟨rfl,rfl,rfl,rfl,rfl,rfl,congrArg (Value.int .i64) (inc64 (by omega)),trivial⟩,g⟩)
  ·obtain rfl:i=xs.length:=by have h:¬(i:Int)<ys.length:=h;omega
   refine KW.endW U U U U (fun H1 g=>g.nle1 (j:=0) rfl) (fun id hid hw=>⟨⟨hid,fun e=>hw (by subst e;exact h3)⟩,rfl⟩) (fun H1 g=>?_)
   have hb:=g.blk (j:=0) rfl
   have el:(tk p t xs ys).length=xs.length:=tk_length hxy
   rw[← el]
   exact mlI_of h3 hb.1 rfl (by rw[el];exact h2) (by rw[el];simp only;omega) (fun j y hy=>hi1.done j y (by have:=(List.getElem?_eq_some_iff.1 hy).1;omega) hy)
theorem power (p a z:Int) (hp:2≤p∧p≤31) (ha:0≤a∧a<p) (hz:0≤z∧z≤1000):Spec Try.prog S H0 145 [.int .i64 p,.int .i64 a,.int .i64 z] (fun v=>v=.int .i64 (pw p a z.toNat)):=by
 refine Spec.of1 Try.func145 rfl (by kernel_rfl) rfl (fun H _=>?_)
 obtain⟨q,rfl⟩:∃q:Nat,z=q:=⟨z.toNat,by omega⟩
 refine KW.rem U U U U U U (by decide) (by omega) ?_
 have e1:(1:Int)%p=1:=Int.emod_eq_of_lt (by omega) (by omega)
 refine KW.lp U U (fun i:Nat=>[(0,.int .i64 p),(1,.int .i64 a),(2,.int .i64 q),(7,.int .i64 (pw p a i)),(10,.int .i64 q),(11,.int .i64 i)]) (fun i=>i≤q) (fun i=>q-i) (0) (Nat.zero_le _) ⟨rfl,rfl,rfl,congrArg (Value.int .i64) e1,rfl,rfl,trivial⟩ (fun i hi bE n=>?_)
 refine KW.cnd U U (fun h=>?_) (fun h=>?_)
 ·have h:(i:Int)<q:=h
  have hw:=pw_ok (a:=a) hp.1 i
  have hm:=mul_in (x:=pw p a i) (y:=a) (by omega) (by omega)
  refine KW.rem U U U U U U (by rw[wr (by omega) (by omega)];exact hm.1) (by omega) ?_
  refine KW.nxt U U (fun H' g=>⟨i+1,by omega,by first | omega | (simp only;omega),⟨rfl,rfl,rfl,congrArg (fun z=>Value.int .i64 (z%p)) (wr (by omega) (by omega)),rfl,congrArg (Value.int .i64) (inc64 (by omega)),trivial⟩,g⟩)
 ·obtain rfl:i=q:=by have h:¬(i:Int)<q:=h;omega
  exact KW.ret U U U U (rfl)
theorem inverse (p a:Int) (hp:2≤p∧p≤31) (ha:0≤a∧a<p):Spec Try.prog S H0 68 [.int .i64 p,.int .i64 a] (fun v=>v=.int .i64 (pw p a (p-2).toNat)):=by
 refine Spec.of1 Try.func68 rfl (by kernel_rfl) rfl (fun H _=>?_)
 have ew:IntKind.i64.wrap (p-2)=p-2:=wr (by omega) (by omega)
 refine KW.callE U U U U U (power p a _ hp ha (by rw[ew];omega)) (fun _ _=>?_)
 exact KW.ret U U U U (by rw[ew];rfl)
end
end Go.Proofs.Ytlapbbffoapleaa.Am
namespace Go.Proofs.Ytlapbbffoapleaa.Am
open Go Go.RowKit
section
variable {P:Program} {S:Ids} {H0:AH} {Q:PostC} {k k1:List It} {e e1:Env} {T T1:List Var} {n n1:Nat} {l1 r1:List Nat} {d1:Tmp}
end
end Go.Proofs.Ytlapbbffoapleaa.Am
namespace Go.Proofs.Ytlapbbffoapleaa.Am
open Go Go.RowKit Go.Proofs
abbrev T_Deed:Type:=Int × Int × Int
abbrev T_Purse:Type:=Int × List Int × List Int
abbrev T_Seat:Type:=T_Purse × T_Purse × Int
abbrev T_Packet:Type:=Bool × Int × Int × List Int × List Int
structure Cer where
 ep:Int
 seats:List T_Seat
 oe:Int
 got:List (List Int)
 has:List Bool
 named:List Bool
 wire:List T_Packet
def purse0:T_Purse:=(-1,[],[])
def seat0:T_Seat:=(purse0,purse0,0)
def cer0 (n:Nat):Cer:=⟨0,List.replicate n seat0,-1,List.replicate n [],List.replicate n false,List.replicate n false,[]⟩
abbrev Cer.seat (c:Cer) (h:Int):T_Seat:=c.seats.getD h.toNat seat0
def fresh (c:Cer) (e:Int):Cer:=if c.oe<e then⟨c.ep,c.seats,e,List.replicate c.got.length [],List.replicate c.has.length false,c.named,c.wire⟩ else c
noncomputable def comeO (x:T_Deal) (c:Cer) (p:T_Packet):Cer:=
 if p.2.2.1=c.oe∧c.named.getD p.2.1.toNat false=false∧c.has.getD p.2.1.toNat false=false then
  (if tv (tagsD x p.2.2.1 p.2.1 p.2.2.2.1=p.2.2.2.2)=true then⟨c.ep,c.seats,c.oe,c.got.set p.2.1.toNat p.2.2.2.1,c.has.set p.2.1.toNat true,c.named,c.wire⟩
  else⟨c.ep,c.seats,c.oe,c.got,c.has,c.named.set p.2.1.toNat true,c.wire⟩)
 else c
def comeS (c:Cer) (p:T_Packet):Cer:=
 if(c.seat p.2.1).1.1<p.2.2.1 then⟨c.ep,c.seats.set p.2.1.toNat ((p.2.2.1,p.2.2.2.1,p.2.2.2.2),(c.seat p.2.1).2),c.oe,c.got,c.has,c.named,c.wire⟩ else c
noncomputable def come (x:T_Deal) (c:Cer) (p:T_Packet):Cer:=if p.1=true then comeO x (fresh c p.2.2.1) p else comeS c p
def send (c:Cer) (p:T_Packet):Cer × Int:=if c.wire.length=12 then(c,3) else(⟨c.ep,c.seats,c.oe,c.got,c.has,c.named,c.wire++[p]⟩,0)
def dropW (c:Cer) (i:Nat):Cer:=⟨c.ep,c.seats,c.oe,c.got,c.has,c.named,c.wire.eraseIdx i⟩
def setS (c:Cer) (h:Int) (s:T_Seat):Cer:=⟨c.ep,c.seats.set h.toNat s,c.oe,c.got,c.has,c.named,c.wire⟩
abbrev Cer.pk (c:Cer) (a:Int):T_Packet:=c.wire.getD a.toNat (false,0,0,[],[])
noncomputable def doIt (x:T_Deal) (c:Cer) (d:T_Deed):Cer × Int:=
 if d.1=3∨d.1=4∨d.1=5 then
  (if(c.wire.length:Int)≤d.2.1 then(c,2) else
   ((if d.1=5 then(if d.1=4 then c else dropW c d.2.1.toNat) else come x (if d.1=4 then c else dropW c d.2.1.toNat) (c.pk d.2.1)),0))
 else if d.1=9 then(if c.ep+1=(x.2.2.1.length:Int) then(c,3) else(⟨c.ep+1,c.seats,c.oe,c.got,c.has,c.named,c.wire⟩,0))
 else if x.1.1≤d.2.1 then(c,2)
 else if d.1=1 then send c (false,d.2.1,c.ep,valsD x c.ep d.2.1,tagsD x c.ep d.2.1 (valsD x c.ep d.2.1))
 else if d.1=2 then(if(c.seat d.2.1).1.1=-1 then(c,4) else send c (true,d.2.1,(c.seat d.2.1).1.1,lieOf x.1.2.2.1 (c.seat d.2.1).1.2.1 (c.seat d.2.1).2.2,(c.seat d.2.1).1.2.2))
 else if d.1=6 then(if x.1.2.2.1≤d.2.2 then(c,2) else(setS c d.2.1 ((c.seat d.2.1).1,(c.seat d.2.1).2.1,d.2.2),0))
 else if d.1=7 then(setS c d.2.1 ((c.seat d.2.1).1,(c.seat d.2.1).1,(c.seat d.2.1).2.2),0)
 else(setS c d.2.1 ((c.seat d.2.1).2.1,(c.seat d.2.1).2.1,(c.seat d.2.1).2.2),0)
noncomputable def codes (x:T_Deal) (c:Cer):List T_Deed→List Int
 | []=>[]
 | d :: ds=>(doIt x c d).2 :: codes x (doIt x c d).1 ds
def cntD (k:Int):Int:=if k=6 then 2 else if k=9 then 0 else 1
def DeedP (d:T_Deed):Prop:=(1≤d.1∧d.1≤9)∧(0≤d.2.1∧d.2.1≤999)∧(0≤d.2.2∧d.2.2≤999)∧(0<cntD d.1∨d.2.1=0)∧(1<cntD d.1∨d.2.2=0)
structure RowsH (x:T_Deal) (h:Int) (vs ts:List Int):Prop where
 vl:vs.length=(rowsOf x.1.2.1 h).length
 tl:ts.length=(rowsOf x.1.2.1 h).length
 ve:Elems x.1.2.2.1 vs
def EpOk (x:T_Deal) (e:Int):Prop:=0≤e∧e<(x.2.2.1.length:Int)
def HoOk (x:T_Deal) (h:Int):Prop:=0≤h∧h<x.1.1
structure PkOk (x:T_Deal) (p:T_Packet):Prop where
 ho:HoOk x p.2.1
 ep:EpOk x p.2.2.1
 rw:RowsH x p.2.1 p.2.2.2.1 p.2.2.2.2
def PuOk (x:T_Deal) (h:Int) (p:T_Purse):Prop:=(p.1=-1∧p.2.1=[]∧p.2.2=[])∨(EpOk x p.1∧RowsH x h p.2.1 p.2.2)
structure SeOk (x:T_Deal) (h:Int) (s:T_Seat):Prop where
 pu:PuOk x h s.1
 sa:PuOk x h s.2.1
 lie:0≤s.2.2∧s.2.2≤x.1.2.2.1-1
structure CerOk (x:T_Deal) (c:Cer):Prop where
 ep:EpOk x c.ep
 sl:(c.seats.length:Int)=x.1.1
 se:∀(j:Nat) s,c.seats[j]?=some s→SeOk x j s
 oe:c.oe=-1∨EpOk x c.oe
 gl:c.got.length=c.seats.length
 hl:c.has.length=c.seats.length
 nl:c.named.length=c.seats.length
 go:∀(j:Nat) g,c.got[j]?=some g→g=[]∧c.has.getD j false=false∨g.length=(rowsOf x.1.2.1 j).length∧Elems x.1.2.2.1 g
 wl:c.wire.length≤12
 wi:∀p∈c.wire,PkOk x p
theorem getD_mem {α:Type} {l:List α} {i:Nat} {d:α} (h:i<l.length):l[i]?=some (l.getD i d):=by
 rw[List.getD_eq_getElem?_getD,List.getElem?_eq_getElem h];rfl
section
variable {x:T_Deal} {c:Cer}
theorem CerOk.seat (h:CerOk x c) {a:Int} (ha:HoOk x a):c.seats[a.toNat]?=some (c.seat a)∧SeOk x a (c.seat a):=by
 have h1:=h.sl
 have h2:=ha.1
 have h3:=ha.2
 have h4:c.seats[a.toNat]?=some (c.seat a):=getD_mem (by omega)
 have h5:=h.se _ _ h4
 rw[show((a.toNat:Nat):Int)=a from by omega] at h5
 exact⟨h4,h5⟩
theorem CerOk.setS (h:CerOk x c) {a:Int} (ha:HoOk x a) {s:T_Seat} (hs:SeOk x a s):CerOk x (setS c a s):=by
 have h2:=ha.1
 refine⟨h.ep,by simp[Am.setS,h.sl],fun j t hj=>?_,h.oe,by simp[Am.setS,h.gl],by simp[Am.setS,h.hl],by simp[Am.setS,h.nl],h.go,h.wl,h.wi⟩
 simp only[Am.setS] at hj
 rw[List.getElem?_set] at hj
 split at hj
 ·rename_i e
  split at hj
  ·cases hj
   rw[← e,show((a.toNat:Nat):Int)=a from by omega]
   exact hs
  ·cases hj
 ·exact h.se j t hj
theorem CerOk.send (h:CerOk x c) {p:T_Packet} (hp:PkOk x p):CerOk x (send c p).1:=by
 unfold Am.send
 split
 ·exact h
 ·rename_i hw
  have:=h.wl
  refine⟨h.ep,h.sl,h.se,h.oe,h.gl,h.hl,h.nl,h.go,by simp;omega,fun q hq=>?_⟩
  rcases List.mem_append.1 hq with hq | hq
  ·exact h.wi q hq
  ·rw[List.mem_singleton.1 hq];exact hp
theorem CerOk.drop (h:CerOk x c) (i:Nat):CerOk x (dropW c i):=by
 refine⟨h.ep,h.sl,h.se,h.oe,h.gl,h.hl,h.nl,h.go,?_,fun q hq=>h.wi q (List.mem_of_mem_eraseIdx hq)⟩
 have:=List.length_eraseIdx_le c.wire i
 have:=h.wl
 show(c.wire.eraseIdx i).length≤12
 omega
theorem CerOk.pk (h:CerOk x c) {a:Int} (h0:0≤a) (h1:a<(c.wire.length:Int)):c.wire[a.toNat]?=some (c.pk a)∧PkOk x (c.pk a):=by
 have h4:c.wire[a.toNat]?=some (c.pk a):=getD_mem (by omega)
 exact⟨h4,h.wi _ (List.mem_of_getElem? h4)⟩
theorem CerOk.fresh (h:CerOk x c) {e:Int} (he:EpOk x e):CerOk x (fresh c e):=by
 unfold Am.fresh
 split
 ·refine⟨h.ep,h.sl,h.se,.inr he,by simp[h.gl],by simp[h.hl],h.nl,fun j g hj=>?_,h.wl,h.wi⟩
  refine .inl ⟨?_,?_⟩
  ·exact List.eq_of_mem_replicate (List.mem_of_getElem? hj)
  ·simp only[List.getD_eq_getElem?_getD,List.getElem?_replicate]
   split<;>rfl
 ·exact h
theorem CerOk.comeO (h:CerOk x c) {p:T_Packet} (hp:PkOk x p):CerOk x (comeO x c p):=by
 unfold Am.comeO
 split
 ·split
  ·refine⟨h.ep,h.sl,h.se,h.oe,by simp[h.gl],by simp[h.hl],h.nl,fun j g hj=>?_,h.wl,h.wi⟩
   simp only at hj
   rw[List.getElem?_set] at hj
   split at hj
   ·rename_i e
    split at hj
    ·cases hj
     have h1:=hp.ho.1
     rw[← e,show((p.2.1.toNat:Nat):Int)=p.2.1 from by omega]
     exact .inr ⟨hp.rw.vl,hp.rw.ve⟩
    ·cases hj
   ·rename_i e
    rcases h.go j g hj with⟨h1,h2⟩ | h1
    ·refine .inl ⟨h1,?_⟩
     simp only[List.getD_eq_getElem?_getD] at h2 ⊢
     rw[List.getElem?_set_ne e]
     exact h2
    ·exact .inr h1
  ·exact⟨h.ep,h.sl,h.se,h.oe,h.gl,h.hl,by simp[h.nl],h.go,h.wl,h.wi⟩
 ·exact h
theorem CerOk.comeS (h:CerOk x c) {p:T_Packet} (hp:PkOk x p):CerOk x (comeS c p):=by
 unfold Am.comeS
 split
 ·have hs:=(h.seat hp.ho).2
  exact h.setS hp.ho (s:=((p.2.2.1,p.2.2.2.1,p.2.2.2.2),(c.seat p.2.1).2)) ⟨.inr ⟨hp.ep,hp.rw⟩,hs.sa,hs.lie⟩
 ·exact h
theorem CerOk.come (h:CerOk x c) {p:T_Packet} (hp:PkOk x p):CerOk x (come x c p):=by
 unfold Am.come
 split
 ·exact(h.fresh hp.ep).comeO hp
 ·exact h.comeS hp
theorem HoOk.at (hd:DealOk x) {e a:Int} (ha:HoOk x a) (he:EpOk x e):∃E J,DealAt x e a E J:=by
 refine codeD_ok ?_
 unfold codeD
 rw[tv_true hd,if_pos rfl,if_pos ⟨⟨he.1,by have:=he.2;omega⟩,ha.1,by have:=ha.2;omega⟩]
theorem DealOk.prime (hd:DealOk x):PrimeP x.1.2.2.1:=hd.sch.mat.pr
theorem RowsH.given (hd:DealOk x) {e a:Int}:RowsH x a (valsD x e a) (tagsD x e a (valsD x e a)):=
 ⟨vals_len,by simp[tagsD,tagsOf],vals_in hd.prime⟩
theorem CerOk.doIt (hd:DealOk x) {d:T_Deed} (hp:DeedP d) (h:CerOk x c):CerOk x (doIt x c d).1:=by
 obtain⟨h1,h2,h3,h4,h5⟩:=hp
 unfold Am.doIt
 split
 ·split
  ·exact h
  ·have hpk:=(h.pk (a:=d.2.1) h2.1 (by omega)).2
   have hc:CerOk x (if d.1=4 then c else dropW c d.2.1.toNat):=by
    split
    ·exact h
    ·exact h.drop _
   show CerOk x (if d.1=5 then _ else _)
   split
   ·exact hc
   ·exact hc.come hpk
 split
 ·split
  ·exact h
  ·rename_i he
   have:=h.ep.1
   have:=h.ep.2
   exact⟨⟨by show 0≤c.ep+1;omega,by show c.ep+1<_;omega⟩,h.sl,h.se,h.oe,h.gl,h.hl,h.nl,h.go,h.wl,h.wi⟩
 split
 ·exact h
 rename_i hr
 have ha:HoOk x d.2.1:=⟨h2.1,by omega⟩
 have hs:=(h.seat ha).2
 split
 ·exact h.send ⟨ha,h.ep,RowsH.given hd⟩
 split
 ·split
  ·exact h
  ·rename_i hne
   refine h.send ⟨ha,?_,?_⟩
   ·exact(hs.pu.resolve_left (fun q=>hne q.1)).1
   ·have:=(hs.pu.resolve_left (fun q=>hne q.1)).2
    exact⟨by rw[lie_len];exact this.vl,this.tl,lie_in hd.prime this.ve⟩
 split
 ·split
  ·exact h
  ·exact h.setS ha (s:=((c.seat d.2.1).1,(c.seat d.2.1).2.1,d.2.2)) ⟨hs.pu,hs.sa,h3.1,by show d.2.2≤_;omega⟩
 split
 ·exact h.setS ha (s:=((c.seat d.2.1).1,(c.seat d.2.1).1,(c.seat d.2.1).2.2)) ⟨hs.pu,hs.pu,hs.lie⟩
 ·exact h.setS ha (s:=((c.seat d.2.1).2.1,(c.seat d.2.1).2.1,(c.seat d.2.1).2.2)) ⟨hs.sa,hs.sa,hs.lie⟩
theorem CerOk.start (hd:DealOk x):CerOk x (cer0 x.1.1.toNat):=by
 have h7:=hd.sch.h7
 have hb:=hd.bl
 have h2:=hd.prime.1
 refine⟨⟨Int.le_refl _,by show(0:Int)<_;omega⟩,by have:=hd.sch.h1;simp[cer0];omega,fun j s hj=>?_,.inl rfl,by simp[cer0],by simp[cer0],by simp[cer0],fun j g hj=>?_,by simp[cer0],fun p hp=>by simp[cer0] at hp⟩
 ·rw[List.eq_of_mem_replicate (List.mem_of_getElem? hj)]
  exact⟨.inl ⟨rfl,rfl,rfl⟩,.inl ⟨rfl,rfl,rfl⟩,by show(0:Int)≤0;omega,by show(0:Int)≤_;omega⟩
 ·refine .inl ⟨List.eq_of_mem_replicate (List.mem_of_getElem? hj),?_⟩
  simp only[cer0,List.getD_eq_getElem?_getD,List.getElem?_replicate]
  split<;>rfl
end
end Go.Proofs.Ytlapbbffoapleaa.Am
namespace Go.Proofs.Ytlapbbffoapleaa.Am
open Go Go.RowKit
def Cl {α:Type} (d:Kn α) (X:Ids) (A:AH) (xs:List α) (cs:List Value):Prop:=xs.length*d.es≤cs.length∧∀(i:Nat) x,xs[i]?=some x→d.R X A x ((cs.drop (i*d.es)).take d.es)
section
variable {α:Type} {d:Kn α} {X X' S:Ids} {A A':AH} {xs:List α} {cs:List Value}
theorem Cl.mv (h:Cl d X A xs cs) (hA:∀id,X id→A'.m id=A.m id) (hX:∀id,X id→X' id):Cl d X' A' xs cs:=
 ⟨h.1,fun i x hx=>d.more hX (d.same hA (h.2 i x hx))⟩
theorem Cl.nil (d:Kn α) (X:Ids) (A:AH) (cs:List Value):Cl d X A [] cs:=⟨by simp,fun i x h=>by simp at h⟩
theorem Cl.sl {id c:Nat} {b:Blk} (h:Cl d X A xs cs) (hS:S id) (hm:A.m id=some b) (hb:b.cells=cs) (hX:∀id,X id→S id) (hc:xs.length≤c):d.Sl S A (.slice (some ⟨id,0,some d.es⟩) xs.length c) xs:=
 .inr ⟨id,0,c,b,rfl,hc,hS,hm,by rw[hb,Nat.zero_add];exact h.1,fun i x hx=>by rw[hb,Nat.zero_add];exact d.more hX (h.2 i x hx)⟩
theorem seg_splice {l ys:List Value} {k q n:Nat} (hk:k+ys.length≤l.length) (h:q+n≤k∨k+ys.length≤q):((splice l k ys).drop q).take n=(l.drop q).take n:=by
 refine List.ext_getElem? fun j=>?_
 rw[List.getElem?_take,List.getElem?_take]
 split
 ·rename_i hj
  rw[List.getElem?_drop,List.getElem?_drop,splice_get l k ys hk]
  rcases h with h | h
  ·rw[if_pos (by omega)]
  ·rw[if_neg (by omega),if_neg (by omega)]
 ·rfl
theorem seg_in {l ys:List Value} {k:Nat} (hk:k+ys.length≤l.length):((splice l k ys).drop k).take ys.length=ys:=by
 refine List.ext_getElem? fun j=>?_
 rw[List.getElem?_take]
 by_cases hj:j<ys.length
 ·rw[if_pos hj,List.getElem?_drop,splice_get l k ys hk,if_neg (by omega),if_pos (by omega)]
  congr 1
  omega
 ·rw[if_neg hj,List.getElem?_eq_none (by omega)]
theorem mul_le' {i n e:Nat} (h:i<n):i*e+e≤n*e:=by rw[← Nat.succ_mul];exact Nat.mul_le_mul_right _ h
theorem Cl.set {i:Nat} {y:α} {ys:List Value} (h:Cl d X A xs cs) (hi:i<xs.length) (hy:d.R X A y ys):Cl d X A (xs.set i y) (splice cs (i*d.es) ys)∧(splice cs (i*d.es) ys).length=cs.length:=by
 have hl:=d.len hy
 have h1:=mul_le' (e:=d.es) hi
 have hk:i*d.es+ys.length≤cs.length:=by have:=h.1;omega
 have hlen:=splice_length cs (i*d.es) ys hk
 refine⟨⟨by rw[hlen,List.length_set];exact h.1,fun j x hx=>?_⟩,hlen⟩
 rw[List.getElem?_set] at hx
 split at hx
 ·rename_i e
  subst e
  cases hx
  have:=seg_in hk
  rw[hl] at this
  rw[this]
  exact hy
 ·rename_i e
  rw[seg_splice hk]
  ·exact h.2 j x hx
  ·rcases Nat.lt_or_gt_of_ne e with h2 | h2
   ·right;have:=mul_le' (e:=d.es) h2;omega
   ·left;have:=mul_le' (e:=d.es) h2;omega
theorem Cl.part {i:Nat} {x y:α} {a b b' r:List Value} (h:Cl d X A xs cs) (hx:xs[i]?=some x) (hseg:(cs.drop (i*d.es)).take d.es=a++(b++r)) (hb:b'.length=b.length) (hXX:∀id,X id→X' id) (hy:d.R X' A y (a++(b'++r))):Cl d X' A (xs.set i y) (splice cs (i*d.es+a.length) b')∧(splice cs (i*d.es+a.length) b').length=cs.length:=by
 have hi:=(List.getElem?_eq_some_iff.1 hx).1
 have hl:=d.len hy
 have h1:=mul_le' (e:=d.es) hi
 have h0:=h.1
 simp only[List.length_append] at hl
 have hk:i*d.es+(a++(b'++r)).length≤cs.length:=by simp only[List.length_append];omega
 have hk2:i*d.es+a.length+b'.length≤cs.length:=by omega
 have e:splice cs (i*d.es+a.length) b'=splice cs (i*d.es) (a++(b'++r)):=by
  refine List.ext_getElem? fun j=>?_
  rw[splice_get _ _ _ hk,splice_get _ _ _ hk2]
  simp only[List.length_append]
  by_cases c1:j<i*d.es
  ·rw[if_pos (by omega),if_pos c1]
  ·rw[if_neg c1]
   by_cases c2:j<i*d.es+(a.length+(b'.length+r.length))
   ·rw[if_pos c2]
    have old:∀(v:Value),(a++(b++r))[j-i*d.es]?=some v→cs[j]?=some v:=fun v hv=>by
     have:=seg_at hseg hv
     rwa [show i*d.es+(j-i*d.es)=j by omega] at this
    by_cases c3:j<i*d.es+a.length
    ·rw[if_pos c3,List.getElem?_append_left (by omega)]
     have hg:a[j-i*d.es]?=some (a[j-i*d.es]'(by omega)):=List.getElem?_eq_getElem (by omega)
     rw[hg]
     exact old _ (by rw[List.getElem?_append_left (by omega)];exact hg)
    ·rw[if_neg c3]
     by_cases c4:j<i*d.es+a.length+b'.length
     ·rw[if_pos c4,List.getElem?_append_right (by omega),List.getElem?_append_left (by omega)]
      congr 1;omega
     ·rw[if_neg c4,List.getElem?_append_right (by omega),List.getElem?_append_right (by omega)]
      have hg:r[j-i*d.es-a.length-b'.length]?=some (r[j-i*d.es-a.length-b'.length]'(by omega)):=List.getElem?_eq_getElem (by omega)
      rw[hg]
      exact old _ (by rw[List.getElem?_append_right (by omega),List.getElem?_append_right (by omega),← hb];exact hg)
   ·rw[if_neg c2,if_neg (by omega),if_neg (by omega)]
 rw[e]
 exact(h.mv (fun _ _=>rfl) hXX).set hi hy
theorem Cl.snoc {y:α} {ys:List Value} (h:Cl d X A xs cs) (hy:d.R X A y ys):Cl d X A (xs++[y]) ((cs.drop 0).take (xs.length*d.es)++ys):=by
 have hl:=d.len hy
 have h1:=h.1
 have ht:((cs.drop 0).take (xs.length*d.es)).length=xs.length*d.es:=by rw[List.length_take,List.drop_zero];omega
 refine⟨by rw[List.length_append,List.length_append,List.length_singleton,ht,hl,Nat.add_mul];omega,fun j x hx=>?_⟩
 by_cases hj:j<xs.length
 ·rw[List.getElem?_append_left hj] at hx
  have h2:=mul_le' (e:=d.es) hj
  have e:((((cs.drop 0).take (xs.length*d.es))++ys).drop (j*d.es)).take d.es=(cs.drop (j*d.es)).take d.es:=by
   rw[List.drop_append_of_le_length (by omega),List.take_append_of_le_length (by rw[List.length_drop];omega),List.drop_zero,List.drop_take,List.take_take]
   congr 1
   omega
  rw[e]
  exact h.2 j x hx
 ·have hjl:=(List.getElem?_eq_some_iff.1 hx).1
  simp at hjl
  obtain rfl:j=xs.length:=by omega
  simp at hx
  subst hx
  have e:((((cs.drop 0).take (xs.length*d.es))++ys).drop (xs.length*d.es)).take d.es=ys:=by
   have e1:=List.drop_left (l₁:=(cs.drop 0).take (xs.length*d.es)) (l₂:=ys)
   rw[ht] at e1
   rw[e1,List.take_of_length_le (by omega)]
  rw[e]
  exact hy
theorem Cl.one {y:α} {ys:List Value} (hy:d.R X A y ys):Cl d X A [y] ys:=by
 have hl:=d.len hy
 refine⟨by simp[hl],fun j x hx=>?_⟩
 cases j with
 | zero=>cases hx;rw[Nat.zero_mul,List.drop_zero,List.take_of_length_le (by omega)];exact hy
 | succ j=>simp at hx
end
abbrev KBo:Kn Bool:=Kn.bool
abbrev K_Purse:Kn T_Purse:=Kn.pair KI (Kn.pair K_Int64S K_Int64S)
abbrev K_Seat:Kn T_Seat:=Kn.pair K_Purse (Kn.pair K_Purse KI)
abbrev K_Packet:Kn T_Packet:=Kn.pair KBo (Kn.pair KI (Kn.pair KI (Kn.pair K_Int64S K_Int64S)))
section
variable {S X:Ids} {A:AH} {cs:List Value}
end
structure HT where
 h:TypeId
 s:TypeId
 g:TypeId
 b:TypeId
 p:TypeId
structure HD where
 hid:Nat
 sid:Nat
 gid:Nat
 bid:Nat
 nid:Nat
 w:Option (Nat × Nat)
def HD.L (d:HD):List Nat:=[d.hid,d.sid,d.gid,d.bid,d.nid]++(match d.w with | some (i,_)=>[i] | none=>[])
def HD.W (d:HD):Ids:=fun id=>id∈d.L
def HD.wv (d:HD) (n:Nat):Value:=match d.w with | some (i,c)=>.slice (some ⟨i,0,some 5⟩) n c | none=>.slice none 0 0
def HD.cells (d:HD) (pre post:List Value) (c:Cer):List Value:=
 pre++([.int .i64 c.ep,.slice (some ⟨d.sid,0,some 7⟩) c.seats.length c.seats.length,.int .i64 c.oe,.slice (some ⟨d.gid,0,some 1⟩) c.got.length c.got.length,.slice (some ⟨d.bid,0,some 1⟩) c.has.length c.has.length,.slice (some ⟨d.nid,0,some 1⟩) c.named.length c.named.length,d.wv c.wire.length]++post)
def SeatsB (t:HT) (S:Ids) (A:AH) (X:Ids) (id:Nat) (xs:List T_Seat):Prop:=S id∧∃cs,A.m id=some ⟨t.s,true,cs⟩∧Cl K_Seat X A xs cs
def GotB (t:HT) (S:Ids) (A:AH) (X:Ids) (id:Nat) (xs:List (List Int)):Prop:=S id∧∃cs,A.m id=some ⟨t.g,true,cs⟩∧cs.length=xs.length∧Cl KI.sl X A xs cs
def BoolB (t:HT) (S:Ids) (A:AH) (id:Nat) (xs:List Bool):Prop:=S id∧A.m id=some ⟨t.b,true,xs.map Value.bool⟩
def WireB (t:HT) (S:Ids) (A:AH) (X:Ids):Option (Nat × Nat)→List T_Packet→Prop
 | none,xs=>xs=[]
 | some (i,q),xs=>S i∧xs.length≤q∧∃cs,A.m i=some ⟨t.p,true,cs⟩∧Cl K_Packet X A xs cs
structure Hl (t:HT) (pre post:List Value) (S:Ids) (A:AH) (X:Ids) (d:HD) (c:Cer):Prop where
 sx:∀id,X id→S id
 hall:S d.hid∧A.m d.hid=some ⟨t.h,true,d.cells pre post c⟩
 seats:SeatsB t S A X d.sid c.seats
 got:GotB t S A X d.gid c.got
 has:BoolB t S A d.bid c.has
 named:BoolB t S A d.nid c.named
 wire:WireB t S A X d.w c.wire
 dist:d.L.Nodup
 out:∀id,X id→¬d.W id
section
variable {t:HT} {S S' X X':Ids} {A A':AH} {i:Nat}
theorem SeatsB.mv {xs:List T_Seat} (h:SeatsB t S A X i xs) (hi:S' i∧A'.m i=A.m i) (hX:∀id,X id→A'.m id=A.m id) (hXX:∀id,X id→X' id):SeatsB t S' A' X' i xs:=by
 obtain⟨_,cs,s1,s2⟩:=h
 exact⟨hi.1,cs,hi.2.trans s1,s2.mv hX hXX⟩
theorem GotB.mv {xs:List (List Int)} (h:GotB t S A X i xs) (hi:S' i∧A'.m i=A.m i) (hX:∀id,X id→A'.m id=A.m id) (hXX:∀id,X id→X' id):GotB t S' A' X' i xs:=by
 obtain⟨_,cs,s1,s2,s3⟩:=h
 exact⟨hi.1,cs,hi.2.trans s1,s2,s3.mv hX hXX⟩
theorem BoolB.mv {xs:List Bool} (h:BoolB t S A i xs) (hi:S' i∧A'.m i=A.m i):BoolB t S' A' i xs:=⟨hi.1,hi.2.trans h.2⟩
theorem WireB.mv {w:Option (Nat × Nat)} {xs:List T_Packet} (h:WireB t S A X w xs) (hi:∀i q,w=some (i,q)→S' i∧A'.m i=A.m i) (hX:∀id,X id→A'.m id=A.m id) (hXX:∀id,X id→X' id):WireB t S' A' X' w xs:=by
 match w,h with
 | none,h=>exact h
 | some (i,q),h=>
  obtain⟨_,w1,cs,w2,w3⟩:=h
  exact⟨(hi i q rfl).1,w1,cs,(hi i q rfl).2.trans w2,w3.mv hX hXX⟩
end
section
variable {t:HT} {pre post:List Value} {S S' X X':Ids} {A A':AH} {d:HD} {c:Cer}
theorem HD.Win {d:HD}:d.W d.hid∧d.W d.sid∧d.W d.gid∧d.W d.bid∧d.W d.nid∧∀i q,d.w=some (i,q)→d.W i:=by
 refine⟨by simp[HD.W,HD.L],by simp[HD.W,HD.L],by simp[HD.W,HD.L],by simp[HD.W,HD.L],by simp[HD.W,HD.L],fun i q e=>by simp[HD.W,HD.L,e]⟩
theorem Hl.mv (h:Hl t pre post S A X d c) (hA:∀id,(d.W id∨X id)→S' id∧A'.m id=A.m id):Hl t pre post S' A' X d c:=by
 obtain⟨l1,l2,l3,l4,l5,l6⟩:=HD.Win (d:=d)
 have L:∀id,d.W id→S' id∧A'.m id=A.m id:=fun id hid=>hA id (.inl hid)
 have hX:∀id,X id→A'.m id=A.m id:=fun id hid=>(hA id (.inr hid)).2
 exact⟨fun id hid=>(hA id (.inr hid)).1,⟨(L _ l1).1,(L _ l1).2.trans h.hall.2⟩,h.seats.mv (L _ l2) hX (fun _ p=>p),h.got.mv (L _ l3) hX (fun _ p=>p),h.has.mv (L _ l4),h.named.mv (L _ l5),h.wire.mv (fun i q e=>L _ (l6 i q e)) hX (fun _ p=>p),h.dist,h.out⟩
theorem Hl.w (h:Hl t pre post S A X d c):∀id,d.W id→S id:=fun id hid=>by
 have hw:=h.wire
 have hid:id∈d.L:=hid
 simp only[HD.L,List.mem_append,List.mem_cons,List.not_mem_nil,or_false] at hid
 rcases hid with(e | e | e | e | e) | e
 ·rw[e];exact h.hall.1
 ·rw[e];exact h.seats.1
 ·rw[e];exact h.got.1
 ·rw[e];exact h.has.1
 ·rw[e];exact h.named.1
 ·split at e
  ·rename_i i q e2
   rw[e2] at hw
   rw[List.mem_singleton.1 e]
   exact hw.1
  ·simp at e
theorem Hl.on [o:On S A S' A'] (h:Hl t pre post S A X d c):Hl t pre post S' A' X d c:=h.mv fun id hid=>o.st id (hid.elim (h.w id) (h.sx id))
end
end Go.Proofs.Ytlapbbffoapleaa.Am
