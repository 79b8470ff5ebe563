/- Contracts and laws on abstract memory, merged. Each holds under its own conditions. -/
import Derived.Test.YtlapbbffoapleaaPInverse02
set_option linter.unusedVariables false
set_option linter.unusedSimpArgs false
set_option maxRecDepth 20000
set_option maxHeartbeats 4000000
namespace Go.Proofs.Ytlapbbffoapleaa.Pl
def tkB (p:Int) (c:Nat) (r:List Int) (L:List (List Int)) (i:Nat):List (List Int):=L.mapIdx fun j w=>if c<j∧j<i then tk p (w.getD c 0) w r else w
def dRd (p:Int) (M:List (List Int)) (c:Nat):List (List Int):=tkB p c (lead p M c c) ((sw M c (nz M c c)).set c (lead p M c c)) M.length
def dSg (p:Int) (M:List (List Int)) (c:Nat) (o:Int):Int:=if nz M c c=c then o else(p-o)%p
def dOut (p:Int) (M:List (List Int)) (c:Nat) (o:Int):Int:=dSg p M c o*((sw M c (nz M c c)).getD c []).getD c 0%p
def dSt (p:Int) (L:List (List Int)):Nat→Option (List (List Int) × Int)
  | 0=>some (L,1)
  | c+1=>match dSt p L c with
    | none=>none
    | some s=>if nz s.1 c c=s.1.length then none else some (dRd p s.1 c,dOut p s.1 c s.2)
def dVal (p:Int) (L:List (List Int)):Int:=match dSt p L L.length with
  | none=>0
  | some s=>s.2
theorem tkB_len {p:Int} {c:Nat} {r:List Int} {L:List (List Int)} {i:Nat}:(tkB p c r L i).length=L.length:=by simp[tkB]
theorem tkB_get {p:Int} {c:Nat} {r:List Int} {L:List (List Int)} {i j:Nat}:(tkB p c r L i)[j]?=L[j]?.map fun w=>if c<j∧j<i then tk p (w.getD c 0) w r else w:=by simp[tkB]
theorem tkB_start {p:Int} {c:Nat} {r:List Int} {L:List (List Int)} {i:Nat} (h:i≤c+1):tkB p c r L i=L:=by
  refine List.ext_getElem? fun j=>?_
  rw[tkB_get]
  cases hj:L[j]? with
  | none=>rfl
  | some w=>rw[Option.map_some,if_neg (by omega)]
theorem tkB_old {p:Int} {c:Nat} {r:List Int} {L:List (List Int)} {i j:Nat} (h:i≤j∨j≤c):(tkB p c r L i)[j]?=L[j]?:=by
  rw[tkB_get]
  cases hj:L[j]? with
  | none=>rfl
  | some w=>rw[Option.map_some,if_neg (by omega)]
theorem tkB_next {p:Int} {c:Nat} {r:List Int} {L:List (List Int)} {i:Nat} {w:List Int} (hi:c<i) (hw:L[i]?=some w):tkB p c r L (i+1)=(tkB p c r L i).set i (tk p (w.getD c 0) w r):=by
  have hl:=(List.getElem?_eq_some_iff.1 hw).1
  refine List.ext_getElem? fun j=>?_
  rw[tkB_get,List.getElem?_set]
  by_cases e:i=j
  · subst e
    rw[if_pos rfl,if_pos (by rw[tkB_len];exact hl),hw,Option.map_some,if_pos ⟨hi,by omega⟩]
  · rw[if_neg e,tkB_get]
    cases hj:L[j]? with
    | none=>rfl
    | some v=>
      rw[Option.map_some,Option.map_some]
      by_cases h:c<j∧j<i
      · rw[if_pos h,if_pos ⟨h.1,by omega⟩]
      · rw[if_neg h,if_neg (by omega)]
theorem tkB_rect {p:Int} {c k:Nat} {r:List Int} {L:List (List Int)} {i:Nat} (hp:0<p) (h:Rect p k L) (hr:r.length=k):Rect p k (tkB p c r L i):=fun s hs=>by
  obtain⟨j,hj⟩:=List.getElem?_of_mem hs
  rw[tkB_get] at hj
  obtain⟨w,hw,rfl⟩:=Option.map_eq_some_iff.1 hj
  have h1:=h w (List.mem_of_getElem? hw)
  split
  · exact tk_ok hp h1.1 hr
  · exact h1
structure DetI (p:Int) (L:List (List Int)) (c:Nat) (M:List (List Int)) (o:Int):Prop where
  len:M.length=L.length
  rect:Rect p L.length M
  oin:0≤o∧o<p
  alt:∀F,AltF L.length F→Cg p (F (listM L)) (o*F (listM M))
  one:∀i,i<c→listM M i i=1
  zero:∀i j,i<L.length→j<c→j<i→listM M i j=0
theorem DetI.start {p:Int} {L:List (List Int)} (hp:2≤p) (hL:Rect p L.length L):DetI p L 0 L 1:=⟨rfl,hL,⟨by omega,by omega⟩,fun F _=>⟨0,by omega⟩,fun i h=>absurd h (Nat.not_lt_zero i),fun i j _ h=>absurd h (Nat.not_lt_zero j)⟩
theorem sw_same {L:List (List Int)} {n:Nat} (h:n<L.length):sw L n n=L:=by
  unfold sw
  rw[List.set_set]
  refine List.ext_getElem? fun j=>?_
  rw[List.getElem?_set]
  by_cases e:n=j
  · subst e
    rw[if_pos rfl,if_pos h,List.getD_eq_getElem?_getD,List.getElem?_eq_getElem h];rfl
  · rw[if_neg e]
theorem DetI.next {p:Int} {L M:List (List Int)} {c:Nat} {o:Int} (hf:Fer p) (h:DetI p L c M o) (hc:c<L.length) (hz:nz M c c≠M.length):DetI p L (c+1) (dRd p M c) (dOut p M c o):=by
  have hp2:=hf.1
  have hp:0<p:=by omega
  have hl:=h.len
  have hnz:=nz_le (L:=M) (c:=c) (M.length-c) c (by omega)
  have hlt:nz M c c<M.length:=by omega
  obtain⟨w,hw,hw0⟩:=nz_val (M.length-c) c (by omega) hlt
  obtain⟨a,ha⟩:∃a,nz M c c=a:=⟨_,rfl⟩
  rw[ha] at hw hnz hlt
  obtain⟨u,hu⟩:∃u,M[c]?=some u:=⟨M[c]'(by omega),List.getElem?_eq_getElem (by omega)⟩
  have hS:∀j,(sw M c a)[j]?=if j=a then some u else if j=c then some w else M[j]?:=sw_get hu hw
  have hSc:(sw M c a)[c]?=some w:=by
    rw[hS]
    by_cases e:c=a
    · rw[if_pos e];subst e;rw[hu] at hw;exact hw
    · rw[if_neg e,if_pos rfl]
  have hScd:(sw M c a).getD c []=w:=by rw[List.getD_eq_getElem?_getD,hSc];rfl
  have hwk:=h.rect w (List.mem_of_getElem? hw)
  have huk:=h.rect u (List.mem_of_getElem? hu)
  have hwc:0<w.getD c 0∧w.getD c 0<p:=by have:=el_ok hp hwk c;omega
  obtain⟨q,hq⟩:=hf.2 _ hwc.1 hwc.2
  obtain⟨b,eb⟩:∃b,pw p (w.getD c 0) (p-2).toNat=b:=⟨_,rfl⟩
  rw[eb] at hq
  have elead:lead p M c c=sc p b w:=by unfold lead;rw[ha,hScd,eb]
  have hld:=sc_ok (b:=b) hp hwk
  have hSl:(sw M c a).length=M.length:=sw_len
  have hSr:Rect p L.length (sw M c a):=h.rect.sw (by omega) (by omega)
  have h2r:Rect p L.length ((sw M c a).set c (sc p b w)):=hSr.set hld
  have eR:dRd p M c=tkB p c (sc p b w) ((sw M c a).set c (sc p b w)) M.length:=by unfold dRd;rw[elead,ha]
  have eO:dOut p M c o=dSg p M c o*w.getD c 0%p:=by unfold dOut;rw[ha,hScd]
  have rowR:∀j,(dRd p M c)[j]?=if j=c then some (sc p b w) else if c<j then(sw M c a)[j]?.map (fun v=>tk p (v.getD c 0) v (sc p b w)) else M[j]?:=fun j=>by
    rw[eR,tkB_get,List.getElem?_set]
    by_cases e:j=c
    · subst e
      rw[if_pos rfl,if_pos (by omega),if_pos rfl,Option.map_some,if_neg (by omega)]
    · rw[if_neg (Ne.symm e),if_neg e]
      by_cases h1:c<j
      · rw[if_pos h1]
        rcases Nat.lt_or_ge j M.length with h2 | h2
        · rw[List.getElem?_eq_getElem (by omega),Option.map_some,Option.map_some,if_pos ⟨h1,h2⟩]
        · rw[List.getElem?_eq_none (by omega)];rfl
      · rw[if_neg h1,hS,if_neg (by omega),if_neg e]
        cases M[j]? with
        | none=>rfl
        | some v=>rw[Option.map_some,if_neg (by omega)]
  have scg:∀j,(sc p b w).getD j 0=w.getD j 0*b%p:=fun j=>sc_get
  have mz:∀(j:Nat) v,M[j]?=some v→∀x,x<c→x<j→v.getD x 0=0:=fun j v hj x hx hxj=>by
    have hjl:=(List.getElem?_eq_some_iff.1 hj).1
    have:=h.zero j x (by omega) hx hxj
    rw[listM_at hj] at this
    exact this
  have wz:∀x,x<c→w.getD x 0=0:=fun x hx=>mz a w hw x hx (by omega)
  have sz:∀x,x<c→(sc p b w).getD x 0=0:=fun x hx=>by rw[scg,wz x hx];simp
  have s1:(sc p b w).getD c 0=1:=by
    rw[scg,hq,Int.add_mul_emod_self_left]
    exact Int.emod_eq_of_lt (by omega) (by omega)
  refine⟨by rw[eR,tkB_len,List.length_set,hSl,hl],by rw[eR];exact tkB_rect hp h2r hld.1,?_,fun F hF=>?_,fun i hi=>?_,fun i j hi hj hji=>?_⟩
  · rw[eO];exact⟨Int.emod_nonneg _ (by omega),Int.emod_lt_of_pos _ hp⟩
  · have hM1:F (listM (sw M c a))=(if a=c then 1 else -1)*F (listM M):=by
      by_cases e:a=c
      · rw[if_pos e,e,sw_same (by omega)];omega
      · rw[if_neg e]
        have e2:listM (sw M c a)=upd (upd (listM M) c (listM M a)) a (listM M c):=by
          funext i
          by_cases h1:i=a
          · subst h1
            rw[upd_at,listM_at hu,listM_at (L:=sw M c i) (i:=i) (r:=u) (by rw[hS,if_pos rfl])]
          · by_cases h2:i=c
            · subst h2
              rw[upd_ne _ _ h1,upd_at,listM_at hw,listM_at hSc]
            · rw[upd_ne _ _ h1,upd_ne _ _ h2]
              funext x
              unfold listM
              rw[List.getD_eq_getElem?_getD (l:=sw M c a),hS,if_neg h1,if_neg h2,← List.getD_eq_getElem?_getD]
        rw[e2,hF.swap (listM M) hc (by omega) (Ne.symm e)];omega
    obtain⟨M1,e1⟩:∃M1,listM (sw M c a)=M1:=⟨_,rfl⟩
    rw[e1] at hM1
    have m1c:M1 c=fun j=>w.getD j 0:=by rw[← e1];exact listM_at hSc
    have m1:∀(j:Nat) v,(sw M c a)[j]?=some v→M1 j=fun x=>v.getD x 0:=fun j v hj=>by rw[← e1];exact listM_at hj
    obtain⟨M2,e2⟩:∃M2:Mtx,upd M1 c (fun x=>b*M1 c x)=M2:=⟨_,rfl⟩
    have f2:F M2=b*F M1:=by rw[← e2];exact hF.mul M1 b hc
    have f3:=hF.clear M2 (s:=c) (fun j=>- M1 j c) hc (fun j=>decide (c<j)) (by simp)
    have key:Cg p (F (fun j=>if decide (c<j)=true then(fun x=>M2 j x+(- M1 j c)*M2 c x) else M2 j)) (F (listM (dRd p M c))):=hF.modp fun j hj x hx=>by
      have m2c:M2 c=fun x=>b*w.getD x 0:=by rw[← e2,upd_at,m1c]
      by_cases e:j=c
      · subst e
        rw[if_neg (by simp),m2c,listM_at (L:=dRd p M j) (i:=j) (r:=sc p b w) (by rw[rowR,if_pos rfl])]
        exact(sc_cg (w:=w)).symm
      · have m2j:M2 j=M1 j:=by rw[← e2,upd_ne _ _ e]
        obtain⟨v,hv⟩:∃v,(sw M c a)[j]?=some v:=⟨_,List.getElem?_eq_getElem (by omega)⟩
        have hvl:=(hSr v (List.mem_of_getElem? hv)).1
        by_cases h1:c<j
        · rw[if_pos (by simpa using h1),m2c,m2j,m1 j v hv,listM_at (L:=dRd p M c) (i:=j) (r:=tk p (v.getD c 0) v (sc p b w)) (by rw[rowR,if_neg e,if_pos h1,hv];rfl)]
          refine Cg.trans ?_ (tk_cg (s:=v.getD c 0) (by rw[hvl,hld.1])).symm
          show Cg p (v.getD x 0+(- v.getD c 0)*(b*w.getD x 0)) _
          refine Cg.trans ?_ (Cg.rfl'.sub (Cg.rfl'.mul (sc_cg (w:=w)).symm))
          exact⟨0,by grind⟩
        · have hvM:M[j]?=some v:=by rw[hS,if_neg (by omega),if_neg e] at hv;exact hv
          rw[if_neg (by simpa using h1),m2j,m1 j v hv,listM_at (L:=dRd p M c) (i:=j) (r:=v) (by rw[rowR,if_neg e,if_neg h1];exact hvM)]
          exact Cg.rfl'
    rw[f3,f2,hM1] at key
    have h0:=h.alt F hF
    have hsg:Cg p (dSg p M c o) (o*(if a=c then 1 else -1)):=by
      unfold dSg
      rw[ha]
      by_cases e:a=c
      · rw[if_pos e,if_pos e];exact⟨0,by omega⟩
      · rw[if_neg e,if_neg e]
        refine Cg.mod.trans ⟨1,by omega⟩
    have hss:(if a=c then(1:Int) else -1)*(if a=c then 1 else -1)=1:=by split<;>rfl
    rw[eO]
    obtain⟨s,es⟩:∃s:Int,(if a=c then(1:Int) else -1)=s:=⟨_,rfl⟩
    rw[es] at key hsg hss
    have hx:Cg p (dSg p M c o*w.getD c 0%p) (o*s*w.getD c 0):=Cg.mod.trans (hsg.mul Cg.rfl')
    refine h0.trans (Cg.trans ?_ (hx.mul key.symm).symm)
    obtain⟨f,ef⟩:∃f,F (listM M)=f:=⟨_,rfl⟩
    obtain⟨v,ev⟩:∃v,w.getD c 0=v:=⟨_,rfl⟩
    rw[ev] at hq
    rw[ef,ev]
    refine⟨-(o*q*f),?_⟩
    have h1:o*s*v*(b*(s*f))=o*(s*s)*(v*b)*f:=by grind
    rw[h1,hss,hq]
    grind
  · by_cases e:i=c
    · subst e
      rw[listM_at (L:=dRd p M i) (i:=i) (r:=sc p b w) (by rw[rowR,if_pos rfl])]
      exact s1
    · have hic:i<c:=by omega
      obtain⟨v,hv⟩:∃v,M[i]?=some v:=⟨_,List.getElem?_eq_getElem (by omega)⟩
      rw[listM_at (L:=dRd p M c) (i:=i) (r:=v) (by rw[rowR,if_neg e,if_neg (by omega)];exact hv)]
      have:=h.one i hic
      rw[listM_at hv] at this
      exact this
  · by_cases e:i=c
    · subst e
      rw[listM_at (L:=dRd p M i) (i:=i) (r:=sc p b w) (by rw[rowR,if_pos rfl])]
      exact sz j hji
    · by_cases h1:c<i
      · obtain⟨v,hv⟩:∃v,(sw M c a)[i]?=some v:=⟨_,List.getElem?_eq_getElem (by omega)⟩
        have hvl:=(hSr v (List.mem_of_getElem? hv)).1
        have hvin:=el_ok hp (hSr v (List.mem_of_getElem? hv)) c
        rw[listM_at (L:=dRd p M c) (i:=i) (r:=tk p (v.getD c 0) v (sc p b w)) (by rw[rowR,if_neg e,if_pos h1,hv];rfl)]
        show(tk p (v.getD c 0) v (sc p b w)).getD j 0=0
        rw[tk_get (by rw[hvl,hld.1])]
        by_cases ej:j=c
        · subst ej
          rw[s1]
          have:v.getD j 0+(p-v.getD j 0)*1=p:=by omega
          rw[this,Int.emod_self]
        · have hjc:j<c:=by omega
          have hvz:v.getD j 0=0:=by
            rw[hS] at hv
            split at hv
            · cases hv;exact mz c u hu j hjc hjc
            · first
                | exact mz i v hv j hjc hji
                | (split at hv
                   · cases hv;exact wz j hjc
                   · exact mz i v hv j hjc hji)
          rw[hvz,sz j hjc]
          simp
      · obtain⟨v,hv⟩:∃v,M[i]?=some v:=⟨_,List.getElem?_eq_getElem (by omega)⟩
        rw[listM_at (L:=dRd p M c) (i:=i) (r:=v) (by rw[rowR,if_neg e,if_neg h1];exact hv)]
        exact mz i v hv j (by omega) hji
theorem dSt_ok {p:Int} {L:List (List Int)} (hf:Fer p) (hL:Rect p L.length L):∀c,c≤L.length→match dSt p L c with
    | none=>Cg p (det L.length (listM L)) 0
    | some s=>DetI p L c s.1 s.2
  | 0,_=>DetI.start hf.1 hL
  | c+1,hc=>by
    have ih:=dSt_ok hf hL c (by omega)
    simp only[dSt]
    cases hs:dSt p L c with
    | none=>rw[hs] at ih;simp only;exact ih
    | some s=>
      rw[hs] at ih
      simp only at ih ⊢
      by_cases hz:nz s.1 c c=s.1.length
      · rw[if_pos hz]
        simp only
        have hl:=ih.len
        have hd:det L.length (listM s.1)=0:=det_stop c L.length _ (by omega) ih.one (fun i j hi hj hji=>ih.zero i j hi hj hji) (fun i h1 h2=>by
          obtain⟨v,hv⟩:∃v,s.1[i]?=some v:=⟨_,List.getElem?_eq_getElem (by omega)⟩
          rw[listM_at hv]
          exact nz_zero (s.1.length-c) c (by omega) i v h1 (by omega) hv)
        have h1:=ih.alt _ (detF L.length)
        rw[hd] at h1
        exact h1.trans ⟨0,by simp⟩
      · rw[if_neg hz]
        exact ih.next hf (by omega) hz
theorem dVal_det {p:Int} {L:List (List Int)} (hf:Fer p) (hL:Rect p L.length L):(0≤dVal p L∧dVal p L<p)∧Cg p (dVal p L) (det L.length (listM L)):=by
  have hp2:=hf.1
  have h:=dSt_ok hf hL L.length (Nat.le_refl _)
  unfold dVal
  cases hs:dSt p L L.length with
  | none=>rw[hs] at h;exact⟨⟨by simp only;omega,by simp only;omega⟩,h.symm⟩
  | some s=>
    rw[hs] at h
    simp only at h ⊢
    refine⟨h.oin,?_⟩
    have h1:=h.alt _ (detF L.length)
    rw[det_tri L.length _ h.one (fun i j hi hji=>h.zero i j hi (by omega) hji)] at h1
    exact(h1.trans ⟨0,by omega⟩).symm
end Go.Proofs.Ytlapbbffoapleaa.Pl
namespace Go.Proofs.Ytlapbbffoapleaa.Am
open Go Go.RowKit Go.Proofs Go.Proofs.Ytlapbbffoapleaa.Pl
section
variable {P:Program} {S:Ids} {H0:AH} {Q:PostC} {k k1:List It} {e e1:Env} {T T1:List Var} {n n1:Nat} {l1 r1:List Nat} {d1:Tmp}
theorem KW.slFrB {o:Oper} {dr:Bool} {t el:TypeId} {x y:Operand} {inf:TypeInfo} {id len c m:Nat} (h:Go1 P k e T n (.op o dr) k1 e1 T1 n1 l1 r1) (hlr:l1=r1) (ho:o.op=.slice t x (some y) none none) (hd:o.dst=some d1) (hx:ev e1 x=.slice (some ⟨id,0,some 1⟩) len c) (hy:ev e1 y=.int .i64 (m:Nat))
  (hu:P.underlying t=some (.slice el)) (hi:P.info? el=some inf) (he:inf.size=1) (h0:m≠0) (hm:m≤len) (hc:len≤c) (hk:∀a',(m<c→a'=some ⟨id,0+m*1,some 1⟩)→KW P S H0 Q n1 T1 k1 (put1 e1 d1 (.slice a' (len-m) (c-m)))):KW P S H0 Q n T k e:=by
 have ab:abound (.int .i64 (m:Nat)) len=some m:=by simp[abound];omega
 by_cases hcm:c=m
 ·refine KW.pure h hlr ho hd rfl _ ?_ (hk (some ⟨id,0,none⟩) (fun h=>absurd h (by omega)))
  simp only[pop,acut,hu,hx,hi,Option.map,hy,bHi,bLo,ab]
  simp[he,h0,hcm]
  omega
 ·refine KW.pure h hlr ho hd rfl _ ?_ (hk (some ⟨id,0+m*1,some 1⟩) (fun _=>rfl))
  simp only[pop,acut,hu,hx,hi,Option.map,hy,bHi,bLo,ab]
  simp[he,h0,hcm]
end
theorem dSt_none {p:Int} {L:List (List Int)} {c:Nat} (h:dSt p L c=none):∀d,c≤d→dSt p L d=none
 | 0,hd=>by
  have:c=0:=by omega
  subst this;exact h
 | d+1,hd=>by
  rcases Nat.eq_or_lt_of_le hd with e | e
  ·rw[← e];exact h
  ·simp only[dSt];rw[dSt_none h d (by omega)]
theorem dVal_none {p:Int} {L:List (List Int)} {c:Nat} (h:dSt p L c=none) (hc:c≤L.length):dVal p L=0:=by unfold dVal;rw[dSt_none h _ hc]
theorem dSt_stop {p:Int} {L M:List (List Int)} {c:Nat} {o:Int} (h:dSt p L c=some (M,o)) (hz:nz M c c=M.length):dSt p L (c+1)=none:=by simp only[dSt];rw[h];simp only;rw[if_pos hz]
theorem dSt_go {p:Int} {L M:List (List Int)} {c:Nat} {o:Int} (h:dSt p L c=some (M,o)) (hz:nz M c c≠M.length):dSt p L (c+1)=some (dRd p M c,dOut p M c o):=by simp only[dSt];rw[h];simp only;rw[if_neg hz]
theorem dVal_some {p:Int} {L M:List (List Int)} {o:Int} (h:dSt p L L.length=some (M,o)):dVal p L=o:=by unfold dVal;rw[h]
structure DvS where
 c:Nat
 S:Ids
 A:AH
 cs:List Value
 M:List (List Int)
 o:Int
structure DvI (p:Int) (L:List (List Int)) (H:AH) (V:Ids) (s:DvS):Prop where
 le:s.c≤L.length
 old:St (Low H.n) H s.S s.A
 b:RowsB KI.ml s.S s.A V s.M s.cs
 st:dSt p L s.c=some (s.M,s.o)
section
variable {S:Ids} {H0:AH}
theorem isSquare {p:Int} {k:Nat} {L:List (List Int)} (hk:L.length=k) {a c} (hs:KI.sl.Sl S H0 (.slice a L.length c) L):Spec Try.prog S H0 63 [.agg #[.int .i64 p,.int .i64 k,.slice a L.length c]] (fun v=>v=.bool true):=by
 refine Spec.of1 Try.func63 rfl (by kernel_rfl) rfl (fun H _=>?_)
 exact KW.ret U U U U (congrArg Value.bool (by subst hk;simp))
theorem determinantOf {p:Int} {k:Nat} {L:List (List Int)} (hB:B_Int64SS L) (hM:OkMat p k L) (hk:L.length=k) {a c} (hs:KI.sl.Sl S H0 (.slice a L.length c) L):SpecM Try.prog S H0 14 [.agg #[.int .i64 p,.int .i64 k,.slice a L.length c]] (fun _ v _=>v=.tuple #[.int .i64 (dVal p L),.int .i64 0]):=by
 have hLl:=hB.len
 have hL:Rect p L.length L:=hM.rect (by rw[hk])
 have hp:=hM.pr
 have hf:=fer hp
 have hp2:2≤p∧p≤31:=⟨hp.1,hp.2.1⟩
 have hp31:=hp2.2
 have hk12:=hM.c1
 refine SpecM.of1 Try.func14 rfl (by kernel_rfl) rfl (fun H _=>?_)
 refine KW.callE U U U U U (validMatrix p k (by unfold I64;omega) hB hs.up) (fun n8 m8=>?_)
 rw[tv_true hM]
 refine KW.cF U U (by first | (simp;done) | decide) ?_
 refine KW.callE U U U U U (isSquare hk hs.up) (fun n9 m9=>?_)
 refine KW.cF U U (by first | (simp;done) | decide) ?_
 refine KW.callN1 U U U U U (copyRows hB hs.up) (fun v HC SC mC _ _ hv=>?_)
 obtain⟨o,cs0,V,rfl,ho,hom,hV,hb0⟩:=hv
 have oS:=(inferInstance:On (New n9 HC.n) HC SC HC).st
 refine KW.thaw o ⟨_,true,cs0⟩ (oS o ho).1 hom ?_
 haveI oH:On (Low H.n) H (fun id=>SC id∧id≠o) HC:=On.thaw (fun id hid=>by have:id<H.n:=hid;have:=ho.1;omega)
 have hb1:RowsB KI.ml (fun id=>SC id∧id≠o) HC V L cs0:=hb0.on (fun id hid=>⟨⟨(oS id (hV id hid).1).1,(hV id hid).2⟩,rfl⟩)
 have hVl:∀id,V id→H.n≤id:=fun id hid=>by have:=(hV id hid).1.1;omega
 refine KW.lpM U U (fun s:DvS=>[(1,.pointer (some ⟨H.n,0,some 0⟩)),(4,.slice (some ⟨o,0,some 1⟩) L.length L.length),(5,.int .i64 s.o),(20,.int .i64 L.length),(21,.int .i64 s.c)]) (fun s=>s.S) (fun s=>s.A) (fun s=>[(H.n,⟨26,true,[.int .i64 p,.int .i64 k,.slice a L.length c]⟩),(o,⟨36,true,s.cs⟩)]) (fun s=>DvI p L H V s) (fun s=>L.length-s.c) (⟨0,_,HC,cs0,L,1⟩) (⟨Nat.zero_le _,oH.st,hb1,rfl⟩) ⟨rfl,rfl,rfl,rfl,rfl,trivial⟩ U U (rfl) (fun s hi bE n=>?_)
 obtain⟨ci,S1,A1,cs,M,out⟩:=s
 obtain⟨hle,hold,hb,hst⟩:=hi
 simp only at hle hold hb hst
 haveI oc:Stp (Low H.n) H S1 A1:=⟨hold⟩
 have hD:=dSt_ok hf hL ci hle
 rw[hst] at hD
 simp only at hD
 have hcs:=hb.len
 have hMl:M.length=L.length:=hD.len
 have hMr:Rect p L.length M:=hD.rect
 have hoi:=hD.oin
 refine KW.cnd U U (fun h=>?_) (fun h=>?_)
 ·have h:(ci:Int)<L.length:=h
  refine KW.lp U U (fun r:Nat=>[(1,.pointer (some ⟨H.n,0,some 0⟩)),(4,.slice (some ⟨o,0,some 1⟩) L.length L.length),(5,.int .i64 out),(6,.int .i64 ci),(7,.int .i64 r),(20,.int .i64 L.length),(21,.int .i64 ci)]) (fun r=>ci≤r∧r≤L.length∧nz M ci r=nz M ci ci) (fun r=>L.length-r) (ci) (⟨Nat.le_refl _,by omega,rfl⟩) ⟨rfl,rfl,rfl,rfl,rfl,rfl,rfl,trivial⟩ (fun r hi bE n=>?_)
  obtain⟨hr1,hr2,hr3⟩:=hi
  refine KW.tst U U (fun h1=>?_) (fun h1=>?_)
  ·have h1:(r:Int)<L.length:=h1
   obtain⟨w,hw⟩:∃w,M[r]?=some w:=⟨M[r]'(by omega),List.getElem?_eq_getElem (by omega)⟩
   obtain⟨v,W,hv,hm,hWV,_,_⟩:=hb.row1 hw
   obtain⟨ra,rc,rfl⟩:=hm.form
   have hwk:=hMr.at hw
   refine KW.idx0 U U U U U U U U U (by omega) (h1) ?_
   refine KW.ldT 1 U U U U U U (bload_at (cell0 hv) U U) ?_
   refine KW.getI ((hm.sl.more (fun id hid=>hb.sub id (hWV id hid)))) U U U U U U U U U U U U U U U U (by omega) (by omega) (fun x hx=>?_)
   have hx:w[ci]?=some x:=hx
   refine KW.cnd U U (fun k2=>?_) (fun k2=>?_)
   ·have k2:x=0:=k2
    refine KW.nxt U U (fun H' g=>⟨r+1,⟨by omega,by omega,by rw[nz_step hw (by rw[List.getD_eq_getElem?_getD,hx];exact k2)];exact hr3⟩,by first | omega | (simp only;omega),⟨rfl,rfl,rfl,rfl,congrArg (Value.int .i64) (inc64 (by omega)),rfl,rfl,trivial⟩,g⟩)
   ·have k2:¬x=0:=k2
    refine KW.no U U (by omega) ?_
    have e1:nz M ci ci=r:=by rw[← hr3];exact nz_stop hw (by rw[List.getD_eq_getElem?_getD,hx];exact k2)
    have hrL:r<L.length:=by omega
    obtain⟨wn,hwn⟩:∃w,M[ci]?=some w:=⟨M[ci]'(by omega),List.getElem?_eq_getElem (by omega)⟩
    obtain⟨vn,Wn,hvn,hmn,_,_,_⟩:=hb.row1 hwn
    obtain⟨na,nc,rfl⟩:=hmn.form
    have hnx:=dSt_go hst (by rw[e1];omega)
    have hM1:Rect p L.length (sw M ci r):=hMr.sw (by omega) (by omega)
    refine KW.cndB U U (fun hsw=>?_) (fun hsw=>?_)
    have hne:r≠ci:=by simp at hsw;omega
    refine KW.idx0 U U U U U U U U U (by omega) (by omega) ?_
    refine KW.ldT 1 U U U U U U (bload_at (cell0 hvn) U U) ?_
    refine KW.idx0 U U U U U U U U U (by omega) (by omega) ?_
    refine KW.ldT 1 U U U U U U (bload_at (cell0 hv) U U) ?_
    refine KW.idx0 U U U U U U U U U (by omega) (by omega) ?_
    refine KW.st1 1 U U U U U U U U U U U U (by simp only;omega) ?_
    refine KW.idx0 U U U U U U U U U (by omega) (by omega) ?_
    refine KW.st1 1 U U U U U U U U U U U U (by simp only[List.length_set];omega) ?_
    refine KW.rem U U U U U U (by rw[wr (by omega) (by omega)];omega) (by omega) ?_
    let cs1:List Value:=(cs.set (0+r*1) (.slice na wn.length nc)).set (0+ci*1) (.slice ra w.length rc)
    let o1:Int:=IntKind.i64.wrap (p-out)%p
    have hb2:RowsB KI.ml S1 A1 V (sw M ci r) cs1:=by
     have e9:sw M ci r=sw M r ci:=by unfold sw;rw[List.set_comm _ _ hne]
     rw[e9]
     show RowsB KI.ml S1 A1 V (sw M r ci) ((cs.set (0+r*1) (.slice na wn.length nc)).set (0+ci*1) (.slice ra w.length rc))
     rw[Nat.zero_add,Nat.zero_add,Nat.mul_one,Nat.mul_one]
     exact hb.swap (by omega) (by omega) hv hvn
    have ho1:o1=dSg p M ci out:=by
     show IntKind.i64.wrap (p-out)%p=_
     unfold dSg
     rw[e1,if_neg hne,wr (by omega) (by omega)]
    rotate_left
    have hne:r=ci:=by simp at hsw;omega
    let cs1:List Value:=cs
    let o1:Int:=out
    have hb2:RowsB KI.ml S1 A1 V (sw M ci r) cs1:=by
     rw[hne,sw_same (by omega)]
     exact hb
    have ho1:o1=dSg p M ci out:=by
     unfold dSg
     rw[e1,if_pos hne]
    all_goals
     have ho1k:0≤o1∧o1<p:=by
      rw[ho1]
      unfold dSg
      split
      ·exact hoi
      ·exact⟨Int.emod_nonneg _ (by omega),Int.emod_lt_of_pos _ (by omega)⟩
     have hcs1l:cs1.length=L.length:=by rw[hb2.len,sw_len,hMl]
     obtain⟨w1,hw1⟩:∃w,(sw M ci r)[ci]?=some w:=⟨(sw M ci r)[ci]'(by rw[sw_len];omega),List.getElem?_eq_getElem (by rw[sw_len];omega)⟩
     have hw1d:(sw M ci r).getD ci []=w1:=by rw[List.getD_eq_getElem?_getD,hw1];rfl
     have hw1k:=hM1.at hw1
     obtain⟨v1,W1,hv1,hm1,hW1,_,hset⟩:=hb2.row1 hw1
     obtain⟨a1,c1,rfl⟩:=hm1.form
     have hw1l:w1.length=L.length:=hw1k.1
     refine KW.idx0 U U U U U U U U U (by omega) (by omega) ?_
     refine KW.ldT 1 U U U U U U (bload_at (cell0 hv1) U U) ?_
     refine KW.getI ((hm1.sl.more (fun id hid=>hb2.sub id (hW1 id hid)))) U U U U U U U U U U U U U U U U (by omega) (by omega) (fun x1 hx1=>?_)
     have hx1:w1[ci]?=some x1:=hx1
     have hx1k:=hw1k.2 x1 (List.mem_of_getElem? hx1)
     have hmm:=mul_in (x:=o1) (y:=x1) (by omega) (by omega)
     refine KW.rem U U U U U U (by(first | rw[wr (x:=o1*x1) (by omega) (by omega)];exact hmm.1)) (by omega) ?_
     have eout:IntKind.i64.wrap (o1*x1)%p=dOut p M ci out:=by
      rw[wr (by omega) (by omega),ho1]
      unfold dOut
      rw[e1,hw1d,List.getD_eq_getElem?_getD,hx1];rfl
     refine KW.idx0 U U U U U U U U U (by omega) (by omega) ?_
     refine KW.ldT 1 U U U U U U (bload_at (cell0 hv1) U U) ?_
     refine KW.idx0 U U U U U U U U U (by omega) (by omega) ?_
     refine KW.ldT 1 U U U U U U (bload_at (cell0 hv1) U U) ?_
     refine KW.getI ((hm1.sl.more (fun id hid=>hb2.sub id (hW1 id hid)))) U U U U U U U U U U U U U U U U (by omega) (by omega) (fun x2 hx2=>?_)
     obtain rfl:x1=x2:=by have hx2:w1[ci]?=some x2:=hx2;rw[hx1] at hx2;cases hx2;rfl
     refine KW.callE U U U U U (inverse p x1 hp2 hx1k) (fun _ _=>?_)
     have hpk:=pw_ok (a:=x1) hp2.1 (p-2).toNat
     have hsub1:∀id,W1 id→S1 id:=fun id hid=>hb2.sub id (hW1 id hid)
     refine KW.callW hsub1 U U U U U (scaled hp2 hpk (by omega) hw1k.2 hsub1 hm1) (fun v2 H2 S2 hn2 st2 hw2 hv2=>?_)
     obtain⟨ld,hld⟩:∃ld,sc p (pw p x1 (p-2).toNat) w1=ld:=⟨_,rfl⟩
     have hlead:lead p M ci ci=ld:=by
      unfold lead
      rw[e1,hw1d,← hld,List.getD_eq_getElem?_getD,hx1]
      rfl
     have hldk:ld.length=L.length∧∀x∈ld,0≤x∧x<p:=by rw[← hld];exact sc_ok (by omega) hw1k
     have hb3:=hset S2 H2 _ st2 hv2
     rw[hld] at hb3
     have hold2:St (Low H.n) H S2 H2:=fun id hid=>⟨(st2 id (hold id hid).1).1,by rw[(st2 id (hold id hid).1).2 (fun hw=>by have:=hVl id (hW1 id hw);have:id<H.n:=hid;omega)];exact(hold id hid).2⟩
     obtain⟨M2,hM2⟩:∃M2,(sw M ci r).set ci ld=M2:=⟨_,rfl⟩
     rw[hM2] at hb3
     have hM2l:M2.length=L.length:=by rw[← hM2,List.length_set,sw_len];exact hMl
     have hM2r:Rect p L.length M2:=by rw[← hM2];exact hM1.set hldk
     have hM2q:M2[ci]?=some ld:=by rw[← hM2,List.getElem?_set_self (by rw[sw_len];omega)]
     have eR:dRd p M ci=tkB p ci ld M2 L.length:=by unfold dRd;rw[hlead,e1,hM2,hMl]
     refine KW.slFrB (m:=ci+1) U U U U U (congrArg (Value.int .i64) (inc64 (by omega))) U U U (by omega) (by omega) (Nat.le_refl _) (fun a9 ha9=>?_)
     refine KW.lpM U U (fun s:(Nat × Ids × AH)=>[(1,.pointer (some ⟨H.n,0,some 0⟩)),(4,.slice (some ⟨o,0,some 1⟩) L.length L.length),(5,.int .i64 (IntKind.i64.wrap (o1*x1)%p)),(6,.int .i64 ci),(7,.int .i64 r),(20,.int .i64 L.length),(21,.int .i64 ci),(101,.slice a9 (L.length-(ci+1)) (L.length-(ci+1))),(102,.int .i64 (L.length-(ci+1):Nat)),(103,.int .i64 s.1)]) (fun s=>s.2.1) (fun s=>s.2.2) (fun s=>[(H.n,⟨26,true,[.int .i64 p,.int .i64 k,.slice a L.length c]⟩),(o,⟨36,true,cs1⟩)]) (fun s=>s.1≤L.length-(ci+1)∧St (Low H.n) H s.2.1 s.2.2∧RowsB KI.ml s.2.1 s.2.2 V (tkB p ci ld M2 (ci+1+s.1)) cs1) (fun s=>L.length-(ci+1)-s.1) ((0,S2,H2)) (⟨Nat.zero_le _,hold2,by simp only;rw[tkB_start (by omega)];exact hb3⟩) ⟨rfl,rfl,rfl,rfl,rfl,rfl,rfl,rfl,rfl,rfl,trivial⟩ U U (rfl) (fun s hi bE n=>?_)
     obtain⟨i,S3,A3⟩:=s
     obtain⟨hi1,hold3,hb4⟩:=hi
     simp only at hi1 hold3 hb4
     haveI oc3:Stp (Low H.n) H S3 A3:=⟨hold3⟩
     refine KW.cnd U U (fun h3=>?gin) (fun h3=>?gout)
     case gin=>
      have h3:(i:Int)<((L.length-(ci+1):Nat):Int):=h3
      obtain rfl:=ha9 (by omega)
      obtain⟨wi,hwi⟩:∃w,M2[ci+1+i]?=some w:=⟨M2[ci+1+i]'(by omega),List.getElem?_eq_getElem (by omega)⟩
      have hwik:=hM2r.at hwi
      obtain⟨vi,Wi,hvi,hmi,hWi,hoth,hseti⟩:=hb4.row1 ((tkB_old (.inl (Nat.le_refl _))).trans hwi)
      obtain⟨ai,ic,rfl⟩:=hmi.form
      refine KW.idx0 U U U U U U U U U (by omega) (h3) ?_
      refine KW.ldT 1 U U U U U U (bload_at (by show cs1[0+(ci+1)*1+i*1]?=_;rw[show 0+(ci+1)*1+i*1=ci+1+i by omega];exact hvi) U U) ?_
      obtain⟨vq,Xq,hvq,hmq,hXq⟩:=hoth ci ld (by omega) ((tkB_old (.inr (Nat.le_refl _))).trans hM2q)
      obtain⟨aq,qc,rfl⟩:=hmq.form
      refine KW.idx0 U U U U U U U U U (by omega) (by omega) ?_
      refine KW.ldT 1 U U U U U U (bload_at (cell0 hvq) U U) ?_
      refine KW.getI ((hmi.sl.more (fun id hid=>hb4.sub id (hWi id hid)))) U U U U U U U U U U U U U U U U (by omega) (by omega) (fun xi hxi=>?_)
      have hxi:wi[ci]?=some xi:=hxi
      have hxik:=hwik.2 xi (List.mem_of_getElem? hxi)
      have hsubi:∀id,Wi id→S3 id:=fun id hid=>hb4.sub id (hWi id hid)
      refine KW.callW hsubi U U U U U (takeOff hp2 hxik (by omega) hldk.2 (fun id hid=>⟨hb4.sub id (hXq id hid).1,(hXq id hid).2⟩) hmq.sl (by omega) hwik.2 hsubi hmi) (fun v5 H5 S5 hn5 st5 hw5 hv5=>?_)
      have hb5:=hseti S5 H5 _ st5 hv5
      have hold5:St (Low H.n) H S5 H5:=fun id hid=>⟨(st5 id (hold3 id hid).1).1,by rw[(st5 id (hold3 id hid).1).2 (fun hw=>by have:=hVl id (hWi id hw);have:id<H.n:=hid;omega)];exact(hold3 id hid).2⟩
      have et:tkB p ci ld M2 (ci+1+(i+1))=(tkB p ci ld M2 (ci+1+i)).set (ci+1+i) (tk p xi wi ld):=by
       rw[show ci+1+(i+1)=ci+1+i+1 by omega,tkB_next (by omega) hwi,List.getD_eq_getElem?_getD,hxi]
       rfl
      rw[← et] at hb5
      refine KW.nxt U U (fun H' g=>⟨(i+1,S5,H5),⟨by simp only;omega,hold5,hb5⟩,by first | omega | (simp only;omega),⟨rfl,rfl,rfl,rfl,rfl,rfl,rfl,rfl,rfl,congrArg (Value.int .i64) (inc64 (by omega)),trivial⟩,g⟩)
     case gout=>
      have h3:¬(i:Int)<((L.length-(ci+1):Nat):Int):=h3
      have hiL:ci+1+i=L.length:=by omega
      rw[hiL,← eR] at hb4
      refine KW.nxt U U (fun H' g=>⟨⟨ci+1,S3,A3,cs1,dRd p M ci,dOut p M ci out⟩,⟨by simp only;omega,hold3,hb4,hnx⟩,by first | omega | (simp only;omega),⟨rfl,rfl,congrArg (Value.int .i64) eout,rfl,congrArg (Value.int .i64) (inc64 (by omega)),trivial⟩,g⟩)
  ·have h1:¬(r:Int)<L.length:=h1
   refine KW.cF U U (by first | (simp;done) | decide) ?_
   refine KW.yes U U (by omega) ?_
   have e1:nz M ci ci=M.length:=by rw[← hr3,nz_end (by omega)];omega
   refine KW.retM1 U U U U (fun H1 g=>by rw[dVal_none (dSt_stop hst e1) (by omega)];rfl)
 ·have hck:ci=L.length:=by have h:¬(ci:Int)<L.length:=h;omega
  subst hck
  refine KW.retM1 U U U U (fun H1 g=>by rw[dVal_some hst];rfl)
end
end Go.Proofs.Ytlapbbffoapleaa.Am
namespace Go.Proofs.Ytlapbbffoapleaa.Am
open Go Go.RowKit Go.Proofs
theorem Kn.Sl.stX {α:Type} {d:Kn α} {S S':Ids} {H H':AH} {s:Value} {xs:List α} (h:d.Sl S H s xs) (t:∀id,S id→S' id∧H'.m id=H.m id):d.Sl S' H' s xs:=(h.same fun id hid=>(t id hid).2).more fun id hid=>(t id hid).1
abbrev KB:Kn Int:=Kn.int .u8
def Src (ac:Option Addr) (n cc:Nat) (A:AH) (id at_:Nat):Prop:=∃sd:Int,A.m id=some ⟨200,true,[.slice ac n cc,.int .i64 at_,.int .u64 sd]⟩
theorem srcOf {ac:Option Addr} {n cc:Nat} {A:AH} {id at_:Nat} {w sd:Int} (h:A.m id=some ⟨200,true,[.slice ac n cc,.int .i64 w,.int .u64 sd]⟩) (e:w=(at_:Nat)):Src ac n cc A id at_:=⟨sd,by rw[h,e]⟩
theorem and255 (x:Int):(BitVec.ofInt IntKind.u64.bits x &&& BitVec.ofInt IntKind.u64.bits 255).toNat≤255:=by
 rw[BitVec.toNat_and]
 exact Nat.le_trans Nat.and_le_right (by decide)
theorem last255 (x:Int):∃z:Nat,z<256∧Value.int .i64 (IntKind.i64.wrap (IntKind.u64.wrap ((BitVec.ofInt IntKind.u64.bits x &&& BitVec.ofInt IntKind.u64.bits 255).toNat:Int)))=.int .i64 z:=by
 have h:=and255 x
 exact⟨_,Nat.lt_succ_of_le h,congrArg (Value.int .i64) (by rw[wru (by omega) (by omega),wr (by omega) (by omega)])⟩
section
variable {S:Ids} {H0:AH}
theorem srcNext {bs:List Int} (hb:∀x∈bs,0≤x∧x<256) (hl:bs.length≤1048576) {ac:Option Addr} {cc id at_:Nat} {Y:Ids} (hat:at_≤1000000) (hS:S id) (hY:∀i,Y i→S i∧i≠id) (hsrc:Src ac bs.length cc H0 id at_) (hs:KB.Sl Y H0 (.slice ac bs.length cc) bs):
  SpecW Try.prog S H0 (fun i=>i=id) 154 [.pointer (some ⟨id,0,none⟩)] (fun n v H1=>∃z:Nat,z<256∧v=.int .i64 z∧Src ac bs.length cc H1 id (at_+1)):=by
 obtain⟨sd,hm⟩:=hsrc
 refine SpecW.of Try.func154 rfl (by kernel_rfl) rfl hS hm (fun H hfin hfz=>?_)
 have hs:=hs.stX (S':=fun i=>Low H.n i∧i≠id) (H':=H) (fun i hi=>⟨⟨(hfz i (hY i hi).1).1,(hY i hi).2⟩,(hfz i (hY i hi).1).2⟩)
 refine KW.ldT 0 U U U U U U U ?_
 refine KW.ldT 0 U U U U U U U ?_
 refine KW.cnd U U (fun k1=>?gin) (fun k1=>?gout)
 case' gin=>
  have k1:(at_:Int)<(bs.length:Int):=k1
  refine KW.ldT 0 U U U U U U U ?_
  refine KW.ldT 0 U U U U U U U ?_
  refine KW.getI hs U U U U U U U U U U U U U U U U (by omega) (k1) (fun y hy=>?_)
  have hyb:=hb y (List.mem_of_getElem? hy)
 case' gout=>
  have k1:¬(at_:Int)<(bs.length:Int):=k1
 all_goals
  have ei:IntKind.i64.wrap ((at_:Int)+1)=((at_+1:Nat):Int):=inc64 (by omega)
  refine KW.ldT 0 U U U U U U U ?_
  refine KW.st1 0 U U U U U U U U U U U U (by simp) ?_
  refine KW.ldT 0 U U U U U U U ?_
  refine KW.st1 0 U U U U U U U U U U U U (by simp) ?_
  refine KW.ldT 0 U U U U U U U ?_
  refine KW.ldT 0 U U U U U U U ?_
 case gin=>
  refine KW.yes U U (by rw[ei];omega) ?_
  have e0:IntKind.i64.wrap y=y:=wr (by omega) (by omega)
  refine KW.retW U U U U (fun H1 g=>by have:=g.n_;omega) (fun i hi hw=>⟨⟨hi,hw⟩,rfl⟩) (fun H1 g=>⟨y.toNat,by omega,?_,?_⟩)
  ·show Value.int .i64 (IntKind.i64.wrap y)=_
   rw[e0,Int.toNat_of_nonneg hyb.1]
  ·have h:=(g.blk (j:=0) rfl).1
   exact srcOf h ei
 case gout=>
  refine KW.no U U (by rw[ei];omega) ?_
  refine KW.ldT 0 U U U U U U U ?_
  refine KW.retW U U U U (fun H1 g=>by have:=g.n_;omega) (fun i hi hw=>⟨⟨hi,hw⟩,rfl⟩) (fun H1 g=>?_)
  have h:=(g.blk (j:=0) rfl).1
  have hsrc:Src ac bs.length cc H1 id (at_+1):=by
   exact srcOf h ei
  exact Exists.imp (fun z hz=>⟨hz.1,hz.2,hsrc⟩) (last255 _)
def SrcP (ac:Option Addr) (n cc id at_:Nat) (p:Nat→Prop) (v:Value) (H1:AH):Prop:=∃z at':Nat,p z∧at_≤at'∧at'≤at_+2∧v=.int .i64 z∧Src ac n cc H1 id at'
theorem srcPick {bs:List Int} (hb:∀x∈bs,0≤x∧x<256) (hl:bs.length≤1048576) {ac:Option Addr} {cc id at_:Nat} {Y:Ids} {n:Int} (hn:n≤1000000) (hat:at_≤900000) (hS:S id) (hY:∀i,Y i→S i∧i≠id) (hsrc:Src ac bs.length cc H0 id at_) (hs:KB.Sl Y H0 (.slice ac bs.length cc) bs):
  SpecW Try.prog S H0 (fun i=>i=id) 80 [.pointer (some ⟨id,0,none⟩),.int .i64 n] (fun _ v H1=>SrcP ac bs.length cc id at_ (fun z=>1≤n→(z:Int)<n) v H1):=by
 refine SpecW.of0 Try.func80 rfl (by kernel_rfl) rfl (fun H hfin hfz=>?_)
 have fx:∀i,S i→Low H.n i∧H.m i=H0.m i:=fun i hi=>hfz i hi
 have hid:id<H.n:=(fx id hS).1
 have hsrcH:Src ac bs.length cc H id at_:=by obtain⟨sd,h⟩:=hsrc;exact⟨sd,(fx id hS).2.trans h⟩
 have hsH:=hs.stX (S':=fun i=>Low H.n i∧i≠id) (H':=H) (fun i hi=>⟨⟨(fx i (hY i hi).1).1,(hY i hi).2⟩,(fx i (hY i hi).1).2⟩)
 refine KW.cnd U U (fun k1=>?_) (fun k1=>?_)
 ·have k1:n≤1:=k1
  refine KW.retW U U U U (fun H1 g=>by have:=g.n_;omega) (fun i hi hw=>⟨hi,rfl⟩) (fun H1 g=>⟨0,at_,fun h=>by omega,Nat.le_refl _,by omega,rfl,?_⟩)
  obtain⟨sd,h⟩:=hsrcH
  exact⟨sd,(g.froz id hid).2.trans h⟩
 ·have k1:¬n≤1:=k1
  obtain⟨m,rfl⟩:∃m:Nat,n=m:=⟨n.toNat,by omega⟩
  refine KW.callW (W:=fun i=>i=id) (fun i hi=>by subst hi;exact hid) U U U U U (srcNext (S:=Low H.n) (H0:=H) hb hl (by omega) hid (fun i hi=>hi) hsrcH hsH) (fun v H1 S1 hn1 st1 hw1 hp=>?_)
  obtain⟨z1,hz1,rfl,hsrc1⟩:=hp
  refine KW.cnd U U (fun k2=>?_) (fun k2=>?_)
  ·have t1:∀i,Low H.n i∧i≠id→(S1 i∧i≠id)∧H1.m i=H.m i:=fun i hi=>⟨⟨(st1 i hi.1).1,hi.2⟩,(st1 i hi.1).2 hi.2⟩
   refine KW.callW (W:=fun i=>i=id) (fun i hi=>by subst hi;exact(st1 i hid).1) U U U U U (srcNext (S:=S1) (H0:=H1) hb hl (by omega) (st1 id hid).1 (fun i hi=>hi) hsrc1 (hsH.stX t1)) (fun v H2 S2 hn2 st2 hw2 hp=>?_)
   obtain⟨z2,hz2,rfl,hsrc2⟩:=hp
   have e1:IntKind.i64.wrap (IntKind.i64.wrap ((z1:Int)*256)+(z2:Int))=((z1*256+z2:Nat):Int):=by rw[wr (x:=(z1:Int)*256) (by omega) (by omega),wr (by omega) (by omega)];omega
   refine KW.rem U U U U U U (by rw[e1];omega) (by omega) ?_
   refine KW.retW U U U U (fun H3 g=>by have:=g.n_;omega) (fun i hi hw=>⟨(st2 i (st1 i hi).1).1,((st2 i (st1 i hi).1).2 hw).trans ((st1 i hi).2 hw)⟩) (fun H3 g=>⟨((z1*256+z2:Nat)%m),at_+2,fun h=>?_,by omega,by omega,?_,?_⟩)
   ·have:=Nat.mod_lt (z1*256+z2) (show 0<m by omega)
    omega
   ·show Value.int .i64 (IntKind.i64.wrap (IntKind.i64.wrap ((z1:Int)*256)+(z2:Int))%(m:Int))=_
    rw[e1]
    rfl
   ·obtain⟨sd,h⟩:=hsrc2
    exact⟨sd,(g.froz id (st2 id (st1 id hid).1).1).2.trans h⟩
  ·refine KW.rem U U U U U U (by omega) (by omega) ?_
   refine KW.retW U U U U (fun H3 g=>by have:=g.n_;omega) (fun i hi hw=>⟨(st1 i hi).1,(st1 i hi).2 hw⟩) (fun H3 g=>⟨z1%m,at_+1,fun h=>?_,by omega,by omega,?_,?_⟩)
   ·have:=Nat.mod_lt z1 (show 0<m by omega)
    omega
   ·rfl
   ·obtain⟨sd,h⟩:=hsrc1
    exact⟨sd,(g.froz id (st1 id hid).1).2.trans h⟩
theorem srcOne {bs:List Int} (hb:∀x∈bs,0≤x∧x<256) (hl:bs.length≤1048576) {ac:Option Addr} {cc id at_:Nat} {Y:Ids} {n:Int} (hn:n≤1000000) (hat:at_≤900000) (hS:S id) (hY:∀i,Y i→S i∧i≠id) (hsrc:Src ac bs.length cc H0 id at_) (hs:KB.Sl Y H0 (.slice ac bs.length cc) bs):
  SpecW Try.prog S H0 (fun i=>i=id) 75 [.pointer (some ⟨id,0,none⟩),.int .i64 n] (fun _ v H1=>∃(b:Bool) (at':Nat),at_≤at'∧at'≤at_+2∧v=.bool b∧Src ac bs.length cc H1 id at'):=by
 refine SpecW.of0 Try.func75 rfl (by kernel_rfl) rfl (fun H hfin hfz=>?_)
 have fx:∀i,S i→Low H.n i∧H.m i=H0.m i:=fun i hi=>hfz i hi
 have hid:id<H.n:=(fx id hS).1
 have hsrcH:Src ac bs.length cc H id at_:=by obtain⟨sd,h⟩:=hsrc;exact⟨sd,(fx id hS).2.trans h⟩
 have hsH:=hs.stX (S':=fun i=>Low H.n i∧i≠id) (H':=H) (fun i hi=>⟨⟨(fx i (hY i hi).1).1,(hY i hi).2⟩,(fx i (hY i hi).1).2⟩)
 refine KW.callW (W:=fun i=>i=id) (fun i hi=>by subst hi;exact hid) U U U U U (srcPick (S:=Low H.n) (H0:=H) hb hl hn hat hid (fun i hi=>hi) hsrcH hsH) (fun v H1 S1 hn1 st1 hw1 hp=>?_)
 obtain⟨z,at',_,h1,h2,rfl,sd,hm⟩:=hp
 refine KW.retW U U U U (fun H3 g=>by have:=g.n_;omega) (fun i hi hw=>⟨(st1 i hi).1,(st1 i hi).2 hw⟩) (fun H3 g=>⟨_,at',h1,h2,rfl,sd,(g.froz id (st1 id hid).1).2.trans hm⟩)
theorem built_Src (a:Option Addr) (n c:Nat):Try.prog.built 200 [(0,.slice a n c)]=some #[.slice a n c,.int .i64 0,.int .u64 0]:=by kernel_rfl
theorem srcFrom {a:Option Addr} {n c:Nat}:SpecM Try.prog S H0 60 [.slice a n c] (fun m v H1=>∃(o:Nat) (sp:Option Nat),v=.pointer (some ⟨o,0,sp⟩)∧New m H1.n o∧Src a n c H1 o 0):=by
 refine SpecM.of1 Try.func60 rfl (by kernel_rfl) rfl (fun H _=>?_)
 refine KW.build U U U U U (built_Src _ _ _) ?_
 refine KW.retM1 U U U U (fun H1 g=>?_)
 exact⟨_,_,rfl,⟨g.ge (H1:=H) (j:=0) rfl,(g.blk (j:=0) rfl).2⟩,_,(g.blk (j:=0) rfl).1⟩
end
end Go.Proofs.Ytlapbbffoapleaa.Am
namespace Go.Proofs.Ytlapbbffoapleaa.Am
open Go Go.RowKit Go.Proofs Go.Proofs.Ytlapbbffoapleaa.Pl
theorem sw_len {L:List (List Int)} {n a:Nat}:(sw L n a).length=L.length:=by simp[sw]
def Mn (q:Nat) (op:Nat→Prop) (c:Nat):Prop:=op c∧∀h,h<q→c.testBit h=true→¬op (dif c (2 ^ h))
noncomputable def minsU (q:Nat) (op:Nat→Prop) (n:Nat):List (List Int):=((List.range n).filter fun c=>tv (Mn q op c)).map fun c=>hold c q
theorem sl_form {S:Ids} {A:AH} {v:Value} {x:List Int} (h:KI.Sl S A v x):∃a c,v=.slice a x.length c:=by
 rcases h with⟨rfl,a,c,e,_⟩ | ⟨id,k,c,b,e,_⟩
 ·exact⟨a,c,e⟩
 ·exact⟨_,c,e⟩
theorem RowsB.at_ {S V:Ids} {A:AH} {rows:List (List Int)} {cs:List Value} (h:RowsB KI.ml S A V rows cs) {j:Nat} {x:List Int} (hx:rows[j]?=some x):∃a c,cs[j]?=some (.slice a x.length c)∧KI.Sl S A (.slice a x.length c) x:=by
 obtain⟨v,W,h1,h2,h3,_⟩:=h.row1 hx
 obtain⟨a,c,rfl⟩:=sl_form h2.sl
 exact⟨a,c,h1,h2.sl.stX (fun i hi=>⟨h.sub i (h3 i hi),rfl⟩)⟩
theorem at_of {L:List (List Int)} {k:Nat} (h:k<L.length):∃x,L[k]?=some x∧L.getD k []=x:=⟨L[k],List.getElem?_eq_getElem h,by rw[List.getD_eq_getElem?_getD,List.getElem?_eq_getElem h];rfl⟩
structure IsS where
 k:Nat
 L:List (List Int)
 cs:List Value
section
variable {S:Ids} {H0:AH}
end
section
variable {S:Ids} {H0:AH}
end
end Go.Proofs.Ytlapbbffoapleaa.Am
namespace Go.Proofs.Ytlapbbffoapleaa.Am
open Go Go.RowKit Go.Proofs
abbrev T_Sequence:Type:=(List Int) × (List (List Int)) × (List (List Int))
abbrev M_Sequence:Kn T_Sequence:=Kn.mp (M_Int64S) (Kn.mp (M_Int64SS) (M_Int64SS))
section
variable {S:Ids} {H0:AH} {W:Ids} {left k:Int}
end
def Steps (gs:List (List Int)) (b x w:Nat):Prop:=Opens gs (x ||| w)∧¬Opens gs (b ||| w)
def Chd (gs:List (List Int)) (k b x:Nat):Prop:=x &&& k=0∧x≠b∧x &&& b=b∧¬Opens gs x
def Least (gs:List (List Int)) (k b x w:Nat) (ok:Bool):Prop:=
 (ok=true∧w≤k∧(k &&& w=w∧Steps gs b x w)∧∀v,v<w→¬(k &&& v=v∧Steps gs b x v))∨(ok=false∧w=0∧∀v,v≤k→¬(k &&& v=v∧Steps gs b x v))
section
variable {S:Ids} {H0:AH}
theorem steps {m:Nat} (hm:m≤7) (h:Int) {b x w:Nat} (hb:b<256) (hx:x<256) (hw:w<256) {gs:List (List Int)} (hsm:Sml gs) (hbe:Below' m gs) {a c} (hs:KI.sl.Sl S H0 (.slice a gs.length c) gs):
  Spec Try.prog S H0 115 [familyV h (.slice a gs.length c),.int .u64 b,.int .u64 x,.int .u64 w] (fun v=>v=.bool (tv (Steps gs b x w))):=by
 refine Spec.of1 Try.func115 rfl (by kernel_rfl) rfl (fun H _=>?_)
 have o1:x ||| w<2 ^ 8:=Nat.or_lt_two_pow (by omega) (by omega)
 have o2:b ||| w<2 ^ 8:=Nat.or_lt_two_pow (by omega) (by omega)
 have e8:(2:Nat) ^ 8=256:=by decide
 have e1:=or_u64 (a:=x) (b:=w) (by omega) (by omega)
 have e2:=or_u64 (a:=b) (b:=w) (by omega) (by omega)
 refine KW.callE U U U U U ((by show Spec _ _ _ _ [familyV h (.slice a gs.length c),.int .u64 (IntKind.u64.wrap _)] _;rw[e1];exact opens hm h (by omega) hsm hbe hs.up)) (fun _ _=>?_)
 refine KW.tstB U U (fun k1=>?_) (fun k1=>?_)
 ·have k1:=tv_iff.1 k1
  refine KW.callE U U U U U ((by show Spec _ _ _ _ [familyV h (.slice a gs.length c),.int .u64 (IntKind.u64.wrap _)] _;rw[e2];exact opens hm h (by omega) hsm hbe hs.up)) (fun _ _=>?_)
  refine KW.ret U U U U ?_
  show Value.bool (!tv (Opens gs (b ||| w)))=_
  by_cases k2:Opens gs (b ||| w)
  ·rw[tv_true k2,tv_false (p:=Steps gs b x w) (fun hc=>hc.2 k2)];rfl
  ·rw[tv_false k2,tv_true (p:=Steps gs b x w) ⟨k1,k2⟩];rfl
 ·exact KW.ret U U U U (by rw[tv_false (p:=Steps gs b x w) (fun hc=>by rw[tv_true hc.1] at k1;cases k1)];rfl)
theorem least {m:Nat} (hm:m≤7) (h:Int) {k b x:Nat} (hk:k<256) (hb:b<256) (hx:x<256) {gs:List (List Int)} (hsm:Sml gs) (hbe:Below' m gs) {a c} (hs:KI.sl.Sl S H0 (.slice a gs.length c) gs):
  Spec Try.prog S H0 173 [familyV h (.slice a gs.length c),.int .u64 k,.int .u64 b,.int .u64 x] (fun v=>∃(w:Nat) (ok:Bool),v=.tuple #[.int .u64 w,.bool ok]∧Least gs k b x w ok):=by
 refine Spec.of1 Try.func173 rfl (by kernel_rfl) rfl (fun H _=>?_)
 refine KW.lp U U (fun w:Nat=>[(1,.int .u64 k),(2,.int .u64 b),(3,.int .u64 x),(4,.pointer (some ⟨H.n,0,some 0⟩)),(10,.int .u64 w)]) (fun w=>w≤k+1∧∀v,v<w→¬(k &&& v=v∧Steps gs b x v)) (fun w=>k+1-w) (0) (⟨by omega,fun v hv=>absurd hv (by omega)⟩) ⟨rfl,rfl,rfl,rfl,rfl,trivial⟩ (fun w hi bE n=>?_)
 obtain⟨hw,hv⟩:=hi
 refine KW.cnd U U (fun k1=>?_) (fun k1=>?_)
 ·have k1:(w:Int)≤k:=k1
  refine KW.callE U U U U U (contains (x:=k) (y:=w) (by omega) (by omega)) (fun _ _=>?_)
  refine KW.tstB U U (fun k2=>?_) (fun k2=>?_)
  ·have k2:=tv_iff.1 k2
   refine KW.callE U U U U U (steps hm h (b:=b) (x:=x) (w:=w) hb hx (by omega) hsm hbe hs.up) (fun _ _=>?_)
   refine KW.cndB U U (fun k3=>?_) (fun k3=>?_)
   ·exact KW.ret U U U U (⟨w,true,rfl,.inl ⟨rfl,by omega,⟨k2,tv_iff.1 k3⟩,hv⟩⟩)
   ·refine KW.nxt U U (fun H' g=>⟨w+1,⟨by omega,upto hv (fun hc=>by rw[tv_true hc.2] at k3;cases k3)⟩,by first | omega | (simp only;omega),⟨rfl,rfl,rfl,rfl,congrArg (Value.int .u64) (incu64 (by omega)),trivial⟩,g⟩)
  ·refine KW.cF U U (by first | (simp;done) | decide) ?_
   refine KW.nxt U U (fun H' g=>⟨w+1,⟨by omega,upto hv (fun hc=>by rw[tv_true hc.1] at k2;cases k2)⟩,by first | omega | (simp only;omega),⟨rfl,rfl,rfl,rfl,congrArg (Value.int .u64) (incu64 (by omega)),trivial⟩,g⟩)
 ·have k1:¬(w:Int)≤k:=k1
  exact KW.ret U U U U (⟨0,false,rfl,.inr ⟨rfl,rfl,fun v hv'=>hv v (by omega)⟩⟩)
theorem Good.row1 {S0:Ids} {T:List Var} {n j id c:Nat} {H1 H2:AH} {ty:TypeId} {a:Option Addr} {c':Nat} {xs:List Int} (g:Good S0 H1 T n H2) (hT:T[j]?=some (id,⟨ty,true,[.slice a xs.length c']⟩)) (h:KI.Sl (Low H2.n) H2 (.slice a xs.length c') xs) (hc:1≤c):KI.sl.Sl (Low H2.n) H2 (.slice (some ⟨id,0,some 1⟩) [xs].length c) [xs]:=by
 have hb:=g.blk hT
 refine .inr ⟨id,0,c,_,rfl,hc,hb.2,hb.1,by simp[Kn.sl],fun i x hx=>?_⟩
 cases i with
 | zero=>cases hx;exact⟨_,rfl,h⟩
 | succ i=>simp at hx
end
end Go.Proofs.Ytlapbbffoapleaa.Am
/- Contracts: SequenceFor of the program. Each holds under its own conditions. -/
set_option linter.unusedVariables false
set_option linter.unusedSimpArgs false
set_option maxRecDepth 20000
namespace Go.Proofs.Ytlapbbffoapleaa.Am
open Go Go.RowKit Go.Proofs
theorem Least.one {gs:List (List Int)} {k b x w w':Nat} {ok ok':Bool} (h:Least gs k b x w ok) (h':Least gs k b x w' ok'):w=w'∧ok=ok':=by
 rcases h with⟨rfl,h1,h2,h3⟩ | ⟨rfl,rfl,h1⟩<;>rcases h' with⟨rfl,k1,k2,k3⟩ | ⟨rfl,rfl,k1⟩
 ·rcases Nat.lt_trichotomy w w' with h | h | h
  ·exact absurd h2 (k3 w h)
  ·exact⟨h,rfl⟩
  ·exact absurd k2 (h3 w' h)
 ·exact absurd h2 (k1 w h1)
 ·exact absurd k2 (h1 w' (by omega))
 ·exact⟨rfl,rfl⟩
def bef (ns:List Nat) (i:Nat):Nat:=if i=0 then 0 else ns.getD (i-1) 0
open Classical in
noncomputable def leastW (gs:List (List Int)) (k b x:Nat):Nat:=if h:∃w,Least gs k b x w true then Classical.choose h else 0
def OkAt (gs:List (List Int)) (k:Nat) (ns:List Nat) (i:Nat):Prop:=Chd gs k (bef ns i) (ns.getD i 0)∧∃w,Least gs k (bef ns i) (ns.getD i 0) w true
abbrev nums (chain:List (List Int)):List Nat:=chain.map bitsOf
noncomputable def withAt (gs:List (List Int)) (k:Nat) (ns:List Nat) (i:Nat):List Int:=hold (leastW gs k (bef ns i) (ns.getD i 0)) 7
noncomputable def withs (gs:List (List Int)) (k:Nat) (ns:List Nat) (n:Nat):List (List Int):=(List.range n).map (withAt gs k ns)
def MkQC (r:T_Sequence) (code:Int) (n:Nat) (v:Value) (H1:AH):Prop:=∃cs:List Value,v=.tuple #[.agg cs.toArray,.int .i64 code]∧M_Sequence.R (New n H1.n) H1 r cs
theorem nilM {X:Ids} {H:AH} {α:Type} {d:Kn α}:d.ml.R X H [] [.slice none 0 0]:=ml1' (.inl ⟨rfl,_,_,rfl,fun _=>rfl⟩)
theorem seqNil {X:Ids} {H:AH}:M_Sequence.R X H ([],[],[]) [.slice none 0 0,.slice none 0 0,.slice none 0 0]:=
 mpR (X:=None_) (cs:=[.slice none 0 0]) nilM (mpR (X:=None_) (Y:=None_) (cs:=[.slice none 0 0]) nilM nilM (fun _ p=>p.elim) (fun _ p=>p.elim) (fun _ p _=>p.elim)) (fun _ p=>p.elim) (fun _ p=>p) (fun _ p _=>p.elim)
theorem MkQC.nil {code:Int} {n:Nat} {v:Value} {H1:AH} (hv:v=.tuple #[.agg #[.slice none 0 0,.slice none 0 0,.slice none 0 0],.int .i64 code]):MkQC ([],[],[]) code n v H1:=⟨_,hv,seqNil⟩
structure SqS where
 i:Nat
 S:Ids
 A:AH
 l1:Value
 l2:Value
 tail:List Var
 V1:Ids
 V2:Ids
 c1:List Value
 c2:List Value
structure SqI (gs:List (List Int)) (k:Nat) (chain:List (List Int)) (SA:Ids) (HA:AH) (s:SqS):Prop where
 le:s.i≤chain.length
 old:St SA HA s.S s.A
 b1:RowsB KI.ml s.S s.A s.V1 (chain.take s.i) s.c1
 b2:RowsB KI.ml s.S s.A s.V2 (withs gs k (nums chain) s.i) s.c2
 v1:∀id,s.V1 id→HA.n≤id
 v2:∀id,s.V2 id→HA.n≤id
 dis:∀id,s.V1 id→s.V2 id→False
 ok:∀j,j<s.i→OkAt gs k (nums chain) j
 form:(s.i=0∧s.l1=.slice none 0 0∧s.l2=.slice none 0 0∧s.tail=[]∧s.c1=[]∧s.c2=[])∨(0<s.i∧∃o1 o2,s.l1=.slice (some ⟨o1,0,some 1⟩) s.i s.i∧s.l2=.slice (some ⟨o2,0,some 1⟩) s.i s.i∧s.tail=[(o1,⟨36,true,s.c1⟩),(o2,⟨36,true,s.c2⟩)])
theorem SqI.next {gs:List (List Int)} {k:Nat} {chain:List (List Int)} {SA:Ids} {HA:AH} {s:SqS} (h:SqI gs k chain SA HA s) {SC SG:Ids} {HC HG:AH} {n1 n2:Nat} {y:List Int} {v1 v2 l1 l2:Value} {tail:List Var} (t1:St s.S s.A SC HC) (t2:St SC HC SG HG) (w1:On (New n1 HC.n) HC SC HC) (w2:On (New n2 HG.n) HG SG HG) (low:∀id,s.S id→id<n1) (hn:HA.n≤n1) (hn2:HC.n≤n2) (hn3:n1≤HC.n) (hy:chain[s.i]?=some y) (hc:KI.Ml (New n1 HC.n) HC v1 y) (hg:KI.Ml (New n2 HG.n) HG v2 (withAt gs k (nums chain) s.i)) (ok:OkAt gs k (nums chain) s.i)
  (form:0<s.i+1∧∃o1 o2,l1=.slice (some ⟨o1,0,some 1⟩) (s.i+1) (s.i+1)∧l2=.slice (some ⟨o2,0,some 1⟩) (s.i+1) (s.i+1)∧tail=[(o1,⟨36,true,s.c1++[v1]⟩),(o2,⟨36,true,s.c2++[v2]⟩)]):
  SqI gs k chain SA HA ⟨s.i+1,SG,HG,l1,l2,tail,fun id=>s.V1 id∨New n1 HC.n id,fun id=>s.V2 id∨New n2 HG.n id,s.c1++[v1],s.c2++[v2]⟩:=by
 obtain⟨hil,rfl⟩:=List.getElem?_eq_some_iff.1 hy
 haveI o1:On s.S s.A SC HC:=⟨t1⟩
 haveI o2:On SC HC SG HG:=⟨t2⟩
 have et:chain.take (s.i+1)=chain.take s.i++[chain[s.i]]:=List.take_succ_eq_append_getElem hil
 have ew:withs gs k (nums chain) (s.i+1)=withs gs k (nums chain) s.i++[withAt gs k (nums chain) s.i]:=by unfold withs;rw[List.range_succ,List.map_append];rfl
 have lowV1:∀id,s.V1 id→id<n1:=fun id hid=>low id (h.b1.sub id hid)
 have lowV2:∀id,s.V2 id→id<n1:=fun id hid=>low id (h.b2.sub id hid)
 have c2:KI.ml.R (New n1 HC.n) HG chain[s.i] [v1]:=ml1' (hc.same (fun id hid=>(t2 id (w1.st id hid).1).2))
 refine⟨by simp only;omega,(h.old.trans t1).trans t2,?_,?_,fun id hid=>hid.elim (h.v1 id) (fun p=>by have:=p.1;omega),fun id hid=>hid.elim (h.v2 id) (fun p=>by have:=p.1;omega),fun id p q=>?_,upto h.ok ok,.inr form⟩
 ·simp only[et]
  exact((h.b1.up (S':=SC) (A':=HC)).up (S':=SG) (A':=HG)).snoc c2 (fun id hid=>(t2 id (w1.st id hid).1).1) (fun id p q=>by have:=lowV1 id p;have:=q.1;omega)
 ·simp only[ew]
  exact((h.b2.up (S':=SC) (A':=HC)).up (S':=SG) (A':=HG)).snoc (ml1' hg) (fun id hid=>(w2.st id hid).1) (fun id p q=>by have:=lowV2 id p;have:=q.1;omega)
 ·rcases p with p | p<;>rcases q with q | q
  ·exact h.dis id p q
  ·have:=lowV1 id p;have:=q.1;omega
  ·have:=lowV2 id q;have:=p.1;omega
  ·have:=p.2;have:=q.1;omega
section
variable {S:Ids} {H0:AH}
end
end Go.Proofs.Ytlapbbffoapleaa.Am

namespace Go.Proofs.Ytlapbbffoapleaa.Am
open Go Go.RowKit Go.Proofs
section
variable {S:Ids} {H0:AH}
end
section
variable {S:Ids} {H0:AH}
end
section
variable {S:Ids} {H0:AH}
end
section
variable {S:Ids} {H0:AH}
end
end Go.Proofs.Ytlapbbffoapleaa.Am
namespace Go.Proofs.Ytlapbbffoapleaa.Am
open Go Go.RowKit Go.Proofs Go.Proofs.Ytlapbbffoapleaa.Pl
structure CrS where
 j:Nat
 S:Ids
 A:AH
 V:Ids
 cs:List Value
 o:Nat
structure CrI (q:Nat) (op:Nat→Prop) (H:AH) (s:CrS):Prop where
 le:s.j≤2 ^ q
 old:St (Low H.n) H s.S s.A
 b:RowsB KI.ml s.S s.A s.V (minsU q op s.j) s.cs
 v:∀id,s.V id→H.n≤id
 o:H.n≤s.o
section
variable {S:Ids} {H0:AH}
end
section
variable {S:Ids} {H0:AH}
end
section
variable {S:Ids} {H0:AH}
structure Tb (gs:List (List Int)) (N b:Nat) (cs:List Bool):Prop where
 len:cs.length=N
 done:∀j,j<b→cs[j]?=some (tv (Opens gs j))
 rest:∀j,b<j→j<N→cs[j]?=some false
end
section
variable {S:Ids} {H0:AH}
end
section
variable {S:Ids} {H0:AH}
end
end Go.Proofs.Ytlapbbffoapleaa.Am
namespace Go.Proofs.Ytlapbbffoapleaa.Am
open Go Go.RowKit Go.Proofs

end Go.Proofs.Ytlapbbffoapleaa.Am
namespace Go.Proofs.Ytlapbbffoapleaa.Am
open Go Go.RowKit Go.Proofs Go.Proofs.Ytlapbbffoapleaa.Pl

theorem RowsB.mv {S S' V:Ids} {A A':AH} {rows:List (List Int)} {cs:List Value} (h:RowsB KI.ml S A V rows cs) (t:∀i,V i→S' i∧A'.m i=A.m i):RowsB KI.ml S' A' V rows cs:=by
 obtain⟨W,h1,h2,h3⟩:=h.rows
 refine⟨h.len,fun i hi=>(t i hi).1,W,h1,h2,fun j x hx=>?_⟩
 obtain⟨v,h4,h5⟩:=h3 j x hx
 exact⟨v,h4,KI.ml.same (fun id hid=>(t id (h1 j id hid)).2) h5⟩
structure DwE (H:AH) (id:Nat) (S:Ids) (A:AH):Prop where
 sid:S id
 old:∀i,Low H.n i∧i≠id→S i∧A.m i=H.m i
theorem DwE.w {H:AH} {id:Nat} {S S':Ids} {A A':AH} (e:DwE H id S A) (st:StW (fun i=>i=id) S A S' A'):DwE H id S' A':=
 ⟨(st id e.sid).1,fun i hi=>⟨(st i (e.old i hi).1).1,((st i (e.old i hi).1).2 hi.2).trans (e.old i hi).2⟩⟩
theorem DwE.s {H:AH} {id:Nat} {S S':Ids} {A A':AH} (e:DwE H id S A) (st:St S A S' A'):DwE H id S' A':=
 ⟨(st id e.sid).1,fun i hi=>⟨(st i (e.old i hi).1).1,(st i (e.old i hi).1).2.trans (e.old i hi).2⟩⟩
theorem DwE.kb {H:AH} {id:Nat} {S:Ids} {A:AH} {s:Value} {xs:List Int} (e:DwE H id S A) (h:KB.Sl (fun i=>Low H.n i∧i≠id) H s xs):KB.Sl (fun i=>S i∧i≠id) A s xs:=h.stX (fun i hi=>⟨⟨(e.old i hi).1,hi.2⟩,(e.old i hi).2⟩)
theorem Src.mv {ac:Option Addr} {n cc id at_:Nat} {A A':AH} (h:Src ac n cc A id at_) (e:A'.m id=A.m id):Src ac n cc A' id at_:=by
 obtain⟨sd,h⟩:=h
 exact⟨sd,e.trans h⟩
theorem DwE.nle {H:AH} {id n:Nat} {S:Ids} {A:AH} (e:DwE H id S A) (h:∀i,S i→i<n):H.n≤n:=by
 rcases Nat.lt_or_ge n H.n with h1 | h1
 ·by_cases e1:n=id
  ·have:=h id e.sid;omega
  ·have:=h n (e.old n ⟨h1,e1⟩).1;omega
 ·exact h1
structure DwS where
 i:Nat
 S:Ids
 A:AH
 at_:Nat
 V:Ids
 G:List (List Int)
 cs:List Value
 o:Nat
structure DwI (q a0:Nat) (H:AH) (id:Nat) (ac:Option Addr) (n cc:Nat) (s:DwS):Prop where
 env:DwE H id s.S s.A
 src:Src ac n cc s.A id s.at_
 at1:s.at_≤a0+20*s.G.length
 lo:1≤s.G.length+s.i
 hi:s.G.length+s.i≤4
 b:RowsB KI.ml s.S s.A s.V s.G s.cs
 v:∀i,s.V i→H.n≤i
 ok:∀g∈s.G,Rises 0 ((q:Int)-1) g∧g≠[]
structure DiS where
 h:Nat
 S:Ids
 A:AH
 at_:Nat
 xs:List Int
 o:Nat
structure DiI (a0:Nat) (H:AH) (id:Nat) (ac:Option Addr) (n cc:Nat) (V:Ids) (G:List (List Int)) (cs:List Value) (s:DiS):Prop where
 env:DwE H id s.S s.A
 src:Src ac n cc s.A id s.at_
 at1:s.at_≤a0+2*s.h
 b:RowsB KI.ml s.S s.A V G cs
 ok:Rises 0 ((s.h:Int)-1) s.xs
 len:s.xs.length≤s.h
section
variable {S:Ids} {H0:AH}
end
section
variable {S:Ids} {H0:AH}
theorem srcAmong {bs:List Int} (hb:∀x∈bs,0≤x∧x<256) (hl:bs.length≤1048576) {ac:Option Addr} {cc id at_:Nat} {Y:Ids} {ls:List Int} {a c} (hn:ls.length≤1000) (hn1:1≤ls.length) (hat:at_≤800000) (hS:S id) (hY:∀i,Y i→S i∧i≠id) (hsrc:Src ac bs.length cc H0 id at_) (hs:KB.Sl Y H0 (.slice ac bs.length cc) bs) (hls:KI.Sl Y H0 (.slice a ls.length c) ls):
  SpecW Try.prog S H0 (fun i=>i=id) 151 [.pointer (some ⟨id,0,none⟩),.slice a ls.length c] (fun _ v H1=>∃(y:Int) (at':Nat),y∈ls∧at_≤at'∧at'≤at_+2∧v=.int .i64 y∧Src ac bs.length cc H1 id at'):=by
 refine SpecW.of0 Try.func151 rfl (by kernel_rfl) rfl (fun H hfin hfz=>?_)
 have fx:∀i,S i→Low H.n i∧H.m i=H0.m i:=fun i hi=>hfz i hi
 have hid:id<H.n:=(fx id hS).1
 have t0:∀i,Y i→(Low H.n i∧i≠id)∧H.m i=H0.m i:=fun i hi=>⟨⟨(fx i (hY i hi).1).1,(hY i hi).2⟩,(fx i (hY i hi).1).2⟩
 have hsH:=hs.stX t0
 have hlH:=hls.stX t0
 have E0:DwE H id (Low H.n) H:=⟨hid,fun i hi=>⟨hi.1,rfl⟩⟩
 refine KW.callW (W:=fun i=>i=id) (fun i hi=>by subst hi;exact E0.sid) U U U U U (srcPick (S:=Low H.n) (H0:=H) hb hl (n:=(ls.length:Int)) (by omega) (by omega) E0.sid (fun i hi=>hi) (hsrc.mv (fx id hS).2) (E0.kb hsH)) (fun v H1 S1 hn1 st1 hw1 hp=>?_)
 obtain⟨z1,a1,hz1,l1,u1,rfl,src1⟩:=hp
 have hz1:=hz1 (by omega)
 have E1:=E0.w st1
 refine KW.getI ((hlH.stX (S':=S1) (H':=H1) (fun i hi=>E1.old i hi))) U U U U U U U U U U U U U U U U (by omega) (hz1) (fun y hy=>?_)
 refine KW.retW U U U U (fun H9 g=>by have:=g.n_;omega) (fun i hi hw=>E1.old i ⟨hi,hw⟩) (fun H9 g=>⟨y,a1,List.mem_of_getElem? hy,l1,u1,rfl,src1.mv (g.froz id E1.sid).2⟩)
def prL:List Int:=[2,2,3,3,5,5,7,7,11,13,17,31]
theorem srcPrime {bs:List Int} (hb:∀x∈bs,0≤x∧x<256) (hl:bs.length≤1048576) {ac:Option Addr} {cc id at_:Nat} {Y:Ids} (hat:at_≤800000) (hS:S id) (hY:∀i,Y i→S i∧i≠id) (hsrc:Src ac bs.length cc H0 id at_) (hs:KB.Sl Y H0 (.slice ac bs.length cc) bs):
  SpecW Try.prog S H0 (fun i=>i=id) 141 [.pointer (some ⟨id,0,none⟩)] (fun _ v H1=>∃(y:Int) (at':Nat),y∈prL∧at_≤at'∧at'≤at_+2∧v=.int .i64 y∧Src ac bs.length cc H1 id at'):=by
 refine SpecW.of0 Try.func141 rfl (by kernel_rfl) rfl (fun H hfin hfz=>?_)
 have fx:∀i,S i→Low H.n i∧H.m i=H0.m i:=fun i hi=>hfz i hi
 have hid:id<H.n:=(fx id hS).1
 have hsH:=hs.stX (S':=fun i=>Low H.n i∧i≠id) (H':=H) (fun i hi=>⟨⟨(fx i (hY i hi).1).1,(hY i hi).2⟩,(fx i (hY i hi).1).2⟩)
 have E0:DwE H id (Low H.n) H:=⟨hid,fun i hi=>⟨hi.1,rfl⟩⟩
 refine KW.lit U U U U U U U U U U (prL.map (Value.int .i64)) U U (fun v hv=>by obtain⟨x,_,rfl⟩:=List.mem_map.1 hv;rfl) rfl ?_
 refine KW.freeze 0 rfl (fun A6 S6 hn6 hS6 st6 hm6 ho6 hnS6 hlow6=>?_)
 have E1:=E0.s st6.st
 have hlit:KI.Sl (fun i=>S6 i∧i≠id) A6 (.slice (some ⟨H.n,0,some 1⟩) prL.length prL.length) prL:=(row_ml hm6).sl.stX (fun i hi=>⟨⟨(hS6 i).2 (.inr hi),fun e=>by have hi:i=H.n:=hi;omega⟩,rfl⟩)
 refine KW.callW (W:=fun i=>i=id) (fun i hi=>by subst hi;exact E1.sid) U U U U U (srcAmong (S:=S6) (H0:=A6) hb hl (by decide) (by decide) hat E1.sid (fun i hi=>hi) ((hsrc.mv (fx id hS).2).mv (st6.st id hid).2) (E1.kb hsH) hlit) (fun v H1 S1 hn1 st1 hw1 hp=>?_)
 obtain⟨y,a1,hy,l1,u1,rfl,src1⟩:=hp
 have E2:=E1.w st1
 refine KW.retW U U U U (fun H9 g=>by have:=g.n_;omega) (fun i hi hw=>E2.old i ⟨hi,hw⟩) (fun H9 g=>⟨y,a1,hy,l1,u1,rfl,src1.mv (g.froz id E2.sid).2⟩)
end
structure FlS where
 i:Nat
 S:Ids
 A:AH
 at_:Nat
 V:Ids
 G:List (List Int)
 cs:List Value
 l:Value
 tail:List Var
structure FlI (p:Int) (k a0:Nat) (H:AH) (id:Nat) (ac:Option Addr) (n cc:Nat) (s:FlS):Prop where
 env:DwE H id s.S s.A
 src:Src ac n cc s.A id s.at_
 at1:s.at_≤a0+20*s.i
 len:s.G.length=s.i
 b:RowsB KI.ml s.S s.A s.V s.G s.cs
 v:∀i,s.V i→H.n≤i
 ok:Rect p k s.G
 form:(s.i=0∧s.l=.slice none 0 0∧s.tail=[]∧s.cs=[])∨(0<s.i∧∃o,s.l=.slice (some ⟨o,0,some 1⟩) s.i s.i∧s.tail=[(o,⟨36,true,s.cs⟩)])
structure FiI (p:Int) (a0:Nat) (H:AH) (id:Nat) (ac:Option Addr) (n cc:Nat) (V:Ids) (G:List (List Int)) (cs:List Value) (s:DiS):Prop where
 env:DwE H id s.S s.A
 src:Src ac n cc s.A id s.at_
 at1:s.at_≤a0+2*s.h
 b:RowsB KI.ml s.S s.A V G cs
 ok:∀x∈s.xs,0≤x∧x<p
 len:s.xs.length=s.h
section
variable {S:Ids} {H0:AH}
theorem l03Filled {bs:List Int} (hb:∀x∈bs,0≤x∧x<256) (hl:bs.length≤1048576) {ac:Option Addr} {cc id at_:Nat} {Y:Ids} {p:Int} (hp:2≤p∧p≤31) {rs k:Nat} (hrs:rs≤6) (hk:k≤6) (hat:at_≤700000) (hS:S id) (hY:∀i,Y i→S i∧i≠id) (hsrc:Src ac bs.length cc H0 id at_) (hs:KB.Sl Y H0 (.slice ac bs.length cc) bs):
  SpecW Try.prog S H0 (fun i=>i=id) 61 [.pointer (some ⟨id,0,none⟩),.int .i64 p,.int .i64 rs,.int .i64 k] (fun n v H1=>∃(L:List (List Int)) (at':Nat),L.length=rs∧Rect p k L∧at'≤at_+200∧MkMo p k L n v H1∧Src ac bs.length cc H1 id at'):=by
 refine SpecW.of0 Try.func61 rfl (by kernel_rfl) rfl (fun H hfin hfz=>?_)
 have fx:∀i,S i→Low H.n i∧H.m i=H0.m i:=fun i hi=>hfz i hi
 have hid:id<H.n:=(fx id hS).1
 have hsH:=hs.stX (S':=fun i=>Low H.n i∧i≠id) (H':=H) (fun i hi=>⟨⟨(fx i (hY i hi).1).1,(hY i hi).2⟩,(fx i (hY i hi).1).2⟩)
 have E0:DwE H id (Low H.n) H:=⟨hid,fun i hi=>⟨hi.1,rfl⟩⟩
 refine KW.build U U U U U (built_Matrix2 _ _) ?_
 refine KW.lpM U U (fun s:FlS=>[(0,.pointer (some ⟨id,0,none⟩)),(1,.int .i64 p),(2,.int .i64 rs),(3,.int .i64 k),(8,.pointer (some ⟨H.n,0,some 0⟩)),(9,.pointer (some ⟨H.n+1,0,some 1⟩)),(10,.int .i64 s.i)]) (fun s=>s.S) (fun s=>s.A) (fun s=>[(H.n,⟨26,true,[.int .i64 0,.int .i64 0,.slice none 0 0]⟩),(H.n+1,⟨26,true,[.int .i64 p,.int .i64 k,s.l]⟩)]++s.tail) (fun s=>s.i≤rs∧FlI p k at_ H id ac bs.length cc s) (fun s=>rs-s.i) (⟨0,Low H.n,H,at_,fun _=>False,[],[],.slice none 0 0,[]⟩) (⟨Nat.zero_le _,E0,hsrc.mv (fx id hS).2,Nat.le_refl _,rfl,RowsB.nil _ _,fun _ h=>h.elim,fun r hr=>by simp at hr,.inl ⟨rfl,rfl,rfl,rfl⟩⟩) ⟨rfl,rfl,rfl,rfl,rfl,rfl,rfl,trivial⟩ U U (rfl) (fun s hi bE n=>?_)
 obtain⟨i,S1,A1,a1,V,G,cs,l,tail⟩:=s
 obtain⟨hil,E1,src1,at1,lenG,b1,v1,okG,hform⟩:=hi
 simp only at hil E1 src1 at1 lenG b1 v1 okG hform
 have hcl:=b1.len
 have vne:∀i,V i→i≠id:=fun i hi e=>by have:=v1 i hi;omega
 rcases hform with⟨hi0,e1,e2,e3⟩ | ⟨hi0,o,e1,e2⟩
 case inl=>
  subst e1 e2 e3
  refine KW.cnd U U (fun k1=>?gin) (fun k1=>?gout)
  case gin=>
   have k1:(i:Int)<(rs:Int):=k1
   refine KW.ids (fun hlow hvar=>?_)
   have hnn:=E1.nle hlow
   refine KW.lit U U U U U U U U U U [] U U (fun v hv=>by simp at hv) rfl ?_
   refine KW.lpM U U (fun s:DiS=>[(0,.pointer (some ⟨id,0,none⟩)),(1,.int .i64 p),(2,.int .i64 rs),(3,.int .i64 k),(8,.pointer (some ⟨H.n,0,some 0⟩)),(9,.pointer (some ⟨H.n+1,0,some 1⟩)),(10,.int .i64 i),(11,.slice (some ⟨s.o,0,some 1⟩) s.xs.length s.xs.length),(12,.int .i64 s.h)]) (fun s=>s.S) (fun s=>s.A) (fun s=>[(H.n,⟨26,true,[.int .i64 0,.int .i64 0,.slice none 0 0]⟩),(H.n+1,⟨26,true,[.int .i64 p,.int .i64 k,.slice none 0 0]⟩)]++[(s.o,(⟨2,true,s.xs.map (Value.int .i64)⟩:Blk))]) (fun s=>s.h≤k∧FiI p a1 H id ac bs.length cc V G [] s) (fun s=>k-s.h) ⟨0,S1,A1,a1,[],_⟩ ⟨Nat.zero_le _,E1,src1,Nat.le_refl _,b1,fun x hx=>by simp at hx,rfl⟩ ⟨rfl,rfl,rfl,rfl,rfl,rfl,rfl,rfl,rfl,trivial⟩ U U U (fun s hi bE n=>?_)
   obtain⟨h,S4,A4,a4,xs,o4⟩:=s
   obtain⟨hq4,E4,src4,at4,b4,ok4,len4⟩:=hi
   simp only at hq4 E4 src4 at4 b4 ok4 len4
   refine KW.cnd U U (fun k2=>?hin) (fun k2=>?hout)
   case hin=>
    have k2:(h:Int)<(k:Int):=k2
    refine KW.callW (W:=fun i=>i=id) (fun i hi=>by subst hi;exact E4.sid) U U U U U (srcPick (S:=S4) (H0:=A4) hb hl (n:=p) (by omega) (by omega) E4.sid (fun i hi=>hi) src4 (E4.kb hsH)) (fun v H5 S5 hn5 st5 hw5 hp=>?_)
    obtain⟨z5,a5,hz5,l5,u5,rfl,src5⟩:=hp
    have hz5:=hz5 (by omega)
    have b5:=b4.mv (S':=S5) (A':=H5) (fun i hi=>⟨(st5 i (b4.sub i hi)).1,(st5 i (b4.sub i hi)).2 (vne i hi)⟩)
    refine KW.app1 (xs:=xs.map (Value.int .i64)) (v:=.int .i64 z5) 2 3 U U U U U U U U U U U U U U U U U U U U U U U (by simp) (by show(xs.length+1)*8≤_;omega) (by show xs.length+1≤_;omega) ?_
    exact KW.nxt U U (fun H' g=>⟨⟨h+1,S5,H5,a5,xs++[(z5:Int)],_⟩,⟨by simp only;omega,E4.w st5,src5,by simp only;omega,b5,fun x hx=>(List.mem_append.1 hx).elim (ok4 x) (fun hx=>by rw[List.mem_singleton.1 hx];omega),by simp only[List.length_append,List.length_singleton];omega⟩,by simp only;omega,⟨rfl,rfl,rfl,rfl,rfl,rfl,rfl,by simp only[List.length_append,List.length_singleton];rfl,congrArg (Value.int .i64) (inc64 (by omega)),trivial⟩,g.eqT (by simp only[List.map_append];rfl)⟩)
   case hout=>
    have k2:¬(h:Int)<(k:Int):=k2
    have ehk:h=k:=by omega
    refine KW.freeze 2 rfl (fun A6 S6 hn6 hS6 st6 hm6 ho6 hnS6 hlow6=>?_)
    have o6ge:∀i,S6 i∧¬S4 i→H.n≤i:=fun i hi=>by
     rcases Nat.lt_or_ge i H.n with hh | hh
     ·by_cases e:i=id
      ·exact(hi.2 (e ▸ E4.sid)).elim
      ·exact(hi.2 (E4.old i ⟨hh,e⟩).1).elim
     ·exact hh
    have fI:=(b4.mv (S':=S6) (A':=A6) (fun i hi=>st6.st i (b4.sub i hi))).snoc (ml1' (row_ml (xs:=xs) hm6)) (fun i hi=>(hS6 i).2 (.inr hi)) (fun i p r=>hnS6 (r ▸ b4.sub i p))
    have fok:Rect p k (G++[xs]):=fun r hr=>(List.mem_append.1 hr).elim (okG r) (fun hr=>by rw[List.mem_singleton.1 hr];exact⟨len4.trans ehk,ok4⟩)
    have fV:∀j,V j∨j=o4→H.n≤j:=fun j hj=>hj.elim (v1 j) (fun e=>o6ge j ⟨(hS6 j).2 (.inr e),fun hx=>hnS6 (e ▸ hx)⟩)
    subst hi0
    refine KW.app0 (v:=.slice (some ⟨o4,0,some 1⟩) xs.length xs.length) 2 U U U U U U U U U U U U U U U U U U U U U U (by decide) ?_
    exact KW.nxt U U (fun H' g=>⟨⟨1,S6,A6,a4,_,G++[xs],_,_,_⟩,⟨by simp only;omega,E4.s st6.st,src4.mv (st6.st id E4.sid).2,by simp only;omega,by simp only[List.length_append,List.length_singleton];omega,fI,fV,fok,.inr ⟨by simp only;omega,_,rfl,rfl⟩⟩,by simp only;omega,⟨rfl,rfl,rfl,rfl,rfl,rfl,rfl,trivial⟩,g⟩)
  case gout=>
   have k1:¬(i:Int)<(rs:Int):=k1
   have er:rs=0:=by omega
   subst er
   refine KW.ids (fun hlow hvar=>?_)
   have hnn:=E1.nle hlow
   refine KW.tno U U (by omega) ?_
   refine KW.cF U U (by first | (simp;done) | decide) ?_
   refine KW.retW U U U U (fun H9 g=>by have:=g.n_;omega) (fun i hi hw=>E1.old i ⟨hi,hw⟩) (fun H9 g=>⟨[],a1,rfl,fun r hr=>by simp at hr,by omega,⟨none,0,rfl,.inl ⟨rfl,_,_,rfl,fun _=>rfl⟩⟩,src1.mv (g.froz id E1.sid).2⟩)
 case inr=>
  subst e1 e2
  refine KW.cnd U U (fun k1=>?gin) (fun k1=>?gout)
  case gin=>
   have k1:(i:Int)<(rs:Int):=k1
   refine KW.ids (fun hlow hvar=>?_)
   have hnn:=E1.nle hlow
   refine KW.lit U U U U U U U U U U [] U U (fun v hv=>by simp at hv) rfl ?_
   refine KW.lpM U U (fun s:DiS=>[(0,.pointer (some ⟨id,0,none⟩)),(1,.int .i64 p),(2,.int .i64 rs),(3,.int .i64 k),(8,.pointer (some ⟨H.n,0,some 0⟩)),(9,.pointer (some ⟨H.n+1,0,some 1⟩)),(10,.int .i64 i),(11,.slice (some ⟨s.o,0,some 1⟩) s.xs.length s.xs.length),(12,.int .i64 s.h)]) (fun s=>s.S) (fun s=>s.A) (fun s=>[(H.n,⟨26,true,[.int .i64 0,.int .i64 0,.slice none 0 0]⟩),(H.n+1,⟨26,true,[.int .i64 p,.int .i64 k,.slice (some ⟨o,0,some 1⟩) i i]⟩),(o,⟨36,true,cs⟩)]++[(s.o,(⟨2,true,s.xs.map (Value.int .i64)⟩:Blk))]) (fun s=>s.h≤k∧FiI p a1 H id ac bs.length cc V G cs s) (fun s=>k-s.h) ⟨0,S1,A1,a1,[],_⟩ ⟨Nat.zero_le _,E1,src1,Nat.le_refl _,b1,fun x hx=>by simp at hx,rfl⟩ ⟨rfl,rfl,rfl,rfl,rfl,rfl,rfl,rfl,rfl,trivial⟩ U U U (fun s hi bE n=>?_)
   obtain⟨h,S4,A4,a4,xs,o4⟩:=s
   obtain⟨hq4,E4,src4,at4,b4,ok4,len4⟩:=hi
   simp only at hq4 E4 src4 at4 b4 ok4 len4
   refine KW.cnd U U (fun k2=>?hin) (fun k2=>?hout)
   case hin=>
    have k2:(h:Int)<(k:Int):=k2
    refine KW.callW (W:=fun i=>i=id) (fun i hi=>by subst hi;exact E4.sid) U U U U U (srcPick (S:=S4) (H0:=A4) hb hl (n:=p) (by omega) (by omega) E4.sid (fun i hi=>hi) src4 (E4.kb hsH)) (fun v H5 S5 hn5 st5 hw5 hp=>?_)
    obtain⟨z5,a5,hz5,l5,u5,rfl,src5⟩:=hp
    have hz5:=hz5 (by omega)
    have b5:=b4.mv (S':=S5) (A':=H5) (fun i hi=>⟨(st5 i (b4.sub i hi)).1,(st5 i (b4.sub i hi)).2 (vne i hi)⟩)
    refine KW.app1 (xs:=xs.map (Value.int .i64)) (v:=.int .i64 z5) 3 4 U U U U U U U U U U U U U U U U U U U U U U U (by simp) (by show(xs.length+1)*8≤_;omega) (by show xs.length+1≤_;omega) ?_
    exact KW.nxt U U (fun H' g=>⟨⟨h+1,S5,H5,a5,xs++[(z5:Int)],_⟩,⟨by simp only;omega,E4.w st5,src5,by simp only;omega,b5,fun x hx=>(List.mem_append.1 hx).elim (ok4 x) (fun hx=>by rw[List.mem_singleton.1 hx];omega),by simp only[List.length_append,List.length_singleton];omega⟩,by simp only;omega,⟨rfl,rfl,rfl,rfl,rfl,rfl,rfl,by simp only[List.length_append,List.length_singleton];rfl,congrArg (Value.int .i64) (inc64 (by omega)),trivial⟩,g.eqT (by simp only[List.map_append];rfl)⟩)
   case hout=>
    have k2:¬(h:Int)<(k:Int):=k2
    have ehk:h=k:=by omega
    refine KW.freeze 3 rfl (fun A6 S6 hn6 hS6 st6 hm6 ho6 hnS6 hlow6=>?_)
    have o6ge:∀i,S6 i∧¬S4 i→H.n≤i:=fun i hi=>by
     rcases Nat.lt_or_ge i H.n with hh | hh
     ·by_cases e:i=id
      ·exact(hi.2 (e ▸ E4.sid)).elim
      ·exact(hi.2 (E4.old i ⟨hh,e⟩).1).elim
     ·exact hh
    have fI:=(b4.mv (S':=S6) (A':=A6) (fun i hi=>st6.st i (b4.sub i hi))).snoc (ml1' (row_ml (xs:=xs) hm6)) (fun i hi=>(hS6 i).2 (.inr hi)) (fun i p r=>hnS6 (r ▸ b4.sub i p))
    have fok:Rect p k (G++[xs]):=fun r hr=>(List.mem_append.1 hr).elim (okG r) (fun hr=>by rw[List.mem_singleton.1 hr];exact⟨len4.trans ehk,ok4⟩)
    have fV:∀j,V j∨j=o4→H.n≤j:=fun j hj=>hj.elim (v1 j) (fun e=>o6ge j ⟨(hS6 j).2 (.inr e),fun hx=>hnS6 (e ▸ hx)⟩)
    refine KW.app1 (xs:=cs) (v:=.slice (some ⟨o4,0,some 1⟩) xs.length xs.length) 2 3 U U U U U U U U U U U U U U U U U U U U U U U (by omega) (by show(_+1)*24≤_;omega) (by omega) ?_
    exact KW.nxt U U (fun H' g=>⟨⟨i+1,S6,A6,a4,_,G++[xs],_,_,_⟩,⟨by simp only;omega,E4.s st6.st,src4.mv (st6.st id E4.sid).2,by simp only;omega,by simp only[List.length_append,List.length_singleton];omega,fI,fV,fok,.inr ⟨by simp only;omega,_,rfl,rfl⟩⟩,by simp only;omega,⟨rfl,rfl,rfl,rfl,rfl,rfl,congrArg (Value.int .i64) (inc64 (by omega)),trivial⟩,g⟩)
  case gout=>
   have k1:¬(i:Int)<(rs:Int):=k1
   have er:i=rs:=by omega
   subst er
   refine KW.ids (fun hlow hvar=>?_)
   have hnn:=E1.nle hlow
   have oge:H.n≤o:=by
    have h2:=(hvar 2 o _ rfl).2
    rcases Nat.lt_or_ge o H.n with hh | hh
    ·by_cases e:o=id
     ·exact(h2 (e ▸ E1.sid)).elim
     ·exact(h2 (E1.old o ⟨hh,e⟩).1).elim
    ·exact hh
   have fin:∀{S9:Ids} {A9:AH} {n9:Nat} {e9:Env} {G9:List (List Int)} {a9:Nat},True:=fun {_ _ _ _ _ _}=>trivial
   refine KW.tst U U (fun k3=>?_) (fun k3=>?_)
   ·have k3:(i:Int)>1:=k3
    have mvb:∀{S S':Ids} {A A':AH},RowsB KI.ml S A V G cs→StW (fun i=>i=id) S A S' A'→RowsB KI.ml S' A' V G cs:=fun b st=>b.mv (fun i hi=>⟨(st i (b.sub i hi)).1,(st i (b.sub i hi)).2 (vne i hi)⟩)
    refine KW.callW (W:=fun i=>i=id) (fun i hi=>by subst hi;exact E1.sid) U U U U U (srcOne (S:=S1) (H0:=A1) hb hl (n:=3) (by omega) (by omega) E1.sid (fun i hi=>hi) src1 (E1.kb hsH)) (fun v H5 S5 hn5 st5 hw5 hp=>?_)
    obtain⟨b0,a5,l5,u5,rfl,src5⟩:=hp
    have E5:=E1.w st5
    have b5:=mvb b1 st5
    refine KW.cndB U U (fun k4=>?_) (fun k4=>?_)
    ·refine KW.callW (W:=fun i=>i=id) (fun i hi=>by subst hi;exact E5.sid) U U U U U (srcPick (S:=S5) (H0:=H5) hb hl (n:=(i:Int)) (by omega) (by omega) E5.sid (fun i hi=>hi) src5 (E5.kb hsH)) (fun v H6 S6 hn6 st6 hw6 hp=>?_)
     obtain⟨z6,a6,hz6,l6,u6,rfl,src6⟩:=hp
     have hz6:=hz6 (by omega)
     have E6:=E5.w st6
     have b6:=mvb b5 st6
     refine KW.callW (W:=fun i=>i=id) (fun i hi=>by subst hi;exact E6.sid) U U U U U (srcPick (S:=S6) (H0:=H6) hb hl (n:=(i:Int)) (by omega) (by omega) E6.sid (fun i hi=>hi) src6 (E6.kb hsH)) (fun v H7 S7 hn7 st7 hw7 hp=>?_)
     obtain⟨z7,a7,hz7,l7,u7,rfl,src7⟩:=hp
     have hz7:=hz7 (by omega)
     have E7:=E6.w st7
     have b7:=mvb b6 st7
     obtain⟨x6,hx6,_⟩:=at_of (L:=G) (k:=z6) (by omega)
     obtain⟨x7,hx7,_⟩:=at_of (L:=G) (k:=z7) (by omega)
     obtain⟨v6,W,hv6,hm6,hWV,hrest,hclose⟩:=b7.row1 hx6
     have ok6:=okG.at hx6
     have ok7:=okG.at hx7
     rcases hm6 with⟨hx0,a0,c0,rfl,_⟩ | ⟨o8,c8,bb,Ws,rfl,h2,h3,h4,h5,h6,h7,h8,h9⟩
     ·have hk0:k=0:=by rw[← ok6.1,hx0];rfl
      subst hk0
      refine KW.lp U U (fun _:Unit=>[(3,.int .i64 (0:Nat)),(8,.pointer (some ⟨H.n,0,some 0⟩)),(9,.pointer (some ⟨H.n+1,0,some 1⟩)),(15,.int .i64 0)]) (fun _=>True) (fun _=>0) (()) (trivial) ⟨rfl,rfl,rfl,rfl,trivial⟩ (fun _ hi bE n=>?_)
      refine KW.cF U U (by first | (simp;done) | decide) ?_
      refine KW.ids (fun hlow9 hvar9=>?_)
      have hnn9:=E7.nle hlow9
      refine KW.retW U U U U (fun H9 g=>by have:=g.n_;omega) (fun i hi hw=>(E7).old i ⟨hi,hw⟩) (fun H9 g=>⟨G,a7,lenG,okG,by omega,⟨some ⟨o,0,some 1⟩,i,by rw[lenG];rfl,?_⟩,(src7).mv (g.froz id (E7).sid).2⟩)
      have hm:=(b7).ml (X:=New H.n H9.n) rfl g (j:=2) rfl ⟨oge,by have h1:o<_:=(g.vars 2 _ rfl).2.1;have:=g.n_;omega⟩ (fun i hi=>⟨v1 i hi,by have:=(g.froz i ((b7).sub i hi)).1;have:=g.n_;omega⟩)
      rw[lenG] at hm ⊢
      exact hm
     ·have ho8V:=hWV o8 h3
      have ho8S:=b7.sub o8 ho8V
      have ho8g:=v1 o8 ho8V
      obtain⟨ty8,rw8,cells8⟩:=bb
      obtain rfl:rw8=true:=h5
      have h6:x6.length*1≤cells8.length:=h6
      have hget:∀(q:Nat) y,x6[q]?=some y→cells8[q]?=some (.int .i64 y):=fun q y hq=>by
       have h:=cell_of (m:=0+q*1) (h9 q y hq)
       rw[Nat.zero_add,Nat.mul_one] at h
       exact h
      refine KW.thaw o8 _ ho8S h4 ?_
      have E8:DwE H id (fun i=>S7 i∧i≠o8) H7:=⟨⟨E7.sid,fun e=>by omega⟩,fun i hi=>⟨⟨(E7.old i hi).1,fun e=>by have h1:i<H.n:=hi.1;omega⟩,(E7.old i hi).2⟩⟩
      have row7:z7≠z6→∃a c,cs[z7]?=some (.slice a x7.length c)∧KI.Sl (fun i=>S7 i∧i≠o8) H7 (.slice a x7.length c) x7:=fun hne=>by
       obtain⟨u,X,hu,hmu,hXV⟩:=hrest z7 x7 hne hx7
       obtain⟨a,c,rfl⟩:=sl_form hmu.sl
       exact⟨a,c,hu,hmu.sl.stX (fun i hi=>⟨⟨b7.sub i (hXV i hi).1,fun e=>(hXV i hi).2 (e ▸ h3)⟩,rfl⟩)⟩
      refine KW.lpM U U (fun s:Nat × List Int × List Value=>[(1,.int .i64 p),(3,.int .i64 k),(8,.pointer (some ⟨H.n,0,some 0⟩)),(9,.pointer (some ⟨H.n+1,0,some 1⟩)),(13,.int .i64 z6),(14,.int .i64 z7),(15,.int .i64 s.1)]) (fun s=>fun i=>S7 i∧i≠o8) (fun s=>H7) (fun s=>[(H.n,⟨26,true,[.int .i64 0,.int .i64 0,.slice none 0 0]⟩),(H.n+1,⟨26,true,[.int .i64 p,.int .i64 k,.slice (some ⟨o,0,some 1⟩) i i]⟩),(o,⟨36,true,cs⟩),(o8,⟨ty8,true,s.2.2⟩)]) (fun s=>s.1≤k∧s.2.1.length=k∧(∀y∈s.2.1,0≤y∧y<p)∧s.2.2.length=cells8.length∧∀(q:Nat) y,s.2.1[q]?=some y→s.2.2[q]?=some (.int .i64 y)) (fun s=>k-s.1) ((0,x6,cells8)) (⟨Nat.zero_le _,ok6.1,ok6.2,rfl,hget⟩) ⟨rfl,rfl,rfl,rfl,rfl,rfl,rfl,trivial⟩ U U (rfl) (fun s hi bE n=>?_)
      obtain⟨x,ys,cy⟩:=s
      obtain⟨m1,m2,m3,m4,m5⟩:=hi
      simp only at m1 m2 m3 m4 m5
      refine KW.cnd U U (fun k5=>?win) (fun k5=>?wout)
      case win=>
       have k5:(x:Int)<(k:Int):=k5
       refine KW.idx0 U U U U U U U U U (Int.natCast_nonneg _) (hz6) ?_
       refine KW.ldT 2 U U U U U U (bload_at (by show cs[0+((z6:Int)).toNat*1]?=_;rw[Int.toNat_natCast,Nat.zero_add,Nat.mul_one];exact hv6) U U) ?_
       refine KW.idx0 U U U U U U U U U (Int.natCast_nonneg _) (hz7) ?_
       by_cases hz:z7=z6
       ·subst hz
        refine KW.ldT 2 U U U U U U (bload_at (by show cs[0+((z7:Int)).toNat*1]?=_;rw[Int.toNat_natCast,Nat.zero_add,Nat.mul_one];exact hv6) U U) ?_
        refine KW.idx0 U U U U U U U U U (Int.natCast_nonneg _) (by rw[ok6.1];exact k5) ?_
        obtain⟨yv,hyv⟩:∃yv,ys[x]?=some yv:=⟨ys[x]'(by omega),List.getElem?_eq_getElem (by omega)⟩
        have hyb:=m3 yv (List.mem_of_getElem? hyv)
        refine KW.ldT 3 U U U U U U (bload_at (by show cy[0+((x:Int)).toNat*1]?=_;rw[Int.toNat_natCast,Nat.zero_add,Nat.mul_one];exact m5 x yv hyv) U U) ?_
        have ew:IntKind.i64.wrap (yv*2)=yv*2:=wr (by omega) (by omega)
        refine KW.rem U U U U U U (by rw[ew];omega) (by omega) ?_
        refine KW.idx0 U U U U U U U U U (Int.natCast_nonneg _) (by rw[ok6.1];exact k5) ?_
        refine KW.st1 3 U U U U U U U U U U U U (by show 0+((x:Int)).toNat*1<cy.length;rw[Int.toNat_natCast];omega) ?_
        have hb1:0≤IntKind.i64.wrap (yv*2)%p∧IntKind.i64.wrap (yv*2)%p<p:=⟨Int.emod_nonneg _ (by omega),Int.emod_lt_of_pos _ (by omega)⟩
        exact KW.nxt U U (fun H' g=>⟨(x+1,ys.set x (IntKind.i64.wrap (yv*2)%p),cy.set x (.int .i64 (IntKind.i64.wrap (yv*2)%p))),⟨by simp only;omega,by simp only[List.length_set];exact m2,fun y hy=>(List.mem_or_eq_of_mem_set hy).elim (m3 y) (fun e=>by rw[e];exact hb1),by simp only[List.length_set];exact m4,fun q y hq=>by
         simp only[List.getElem?_set] at hq ⊢
         split at hq
         ·rename_i e
          subst e
          rw[if_pos (by omega)] at hq
          cases hq
          rw[if_pos rfl,if_pos (by omega)]
         ·rename_i e
          rw[if_neg e]
          exact m5 q y hq⟩,by simp only;omega,⟨rfl,rfl,rfl,rfl,rfl,rfl,congrArg (Value.int .i64) (inc64 (by omega)),trivial⟩,g.eqT (by
         show [(H.n,(⟨26,true,[.int .i64 0,.int .i64 0,.slice none 0 0]⟩:Blk)),(H.n+1,⟨26,true,[.int .i64 p,.int .i64 k,.slice (some ⟨o,0,some 1⟩) i i]⟩),(o,⟨36,true,cs⟩),(o8,⟨ty8,true,cy.set (0+((x:Int)).toNat*1) _⟩)]=_
         rw[Int.toNat_natCast,Nat.zero_add,Nat.mul_one]
         rfl)⟩)
       ·obtain⟨ay,cy7,hcy,hsy⟩:=row7 hz
        refine KW.ldT 2 U U U U U U (bload_at (by show cs[0+((z7:Int)).toNat*1]?=_;rw[Int.toNat_natCast,Nat.zero_add,Nat.mul_one];exact hcy) U U) ?_
        refine KW.getI hsy U U U U U U U U U U U U U U U U (by omega) (by rw[ok7.1];exact k5) (fun yv hyv=>?_)
        have hyb:=ok7.2 yv (List.mem_of_getElem? hyv)
        have ew:IntKind.i64.wrap (yv*2)=yv*2:=wr (by omega) (by omega)
        refine KW.rem U U U U U U (by rw[ew];omega) (by omega) ?_
        refine KW.idx0 U U U U U U U U U (Int.natCast_nonneg _) (by rw[ok6.1];exact k5) ?_
        refine KW.st1 3 U U U U U U U U U U U U (by show 0+((x:Int)).toNat*1<cy.length;rw[Int.toNat_natCast];omega) ?_
        have hb1:0≤IntKind.i64.wrap (yv*2)%p∧IntKind.i64.wrap (yv*2)%p<p:=⟨Int.emod_nonneg _ (by omega),Int.emod_lt_of_pos _ (by omega)⟩
        exact KW.nxt U U (fun H' g=>⟨(x+1,ys.set x (IntKind.i64.wrap (yv*2)%p),cy.set x (.int .i64 (IntKind.i64.wrap (yv*2)%p))),⟨by simp only;omega,by simp only[List.length_set];exact m2,fun y hy=>(List.mem_or_eq_of_mem_set hy).elim (m3 y) (fun e=>by rw[e];exact hb1),by simp only[List.length_set];exact m4,fun q y hq=>by
         simp only[List.getElem?_set] at hq ⊢
         split at hq
         ·rename_i e
          subst e
          rw[if_pos (by omega)] at hq
          cases hq
          rw[if_pos rfl,if_pos (by omega)]
         ·rename_i e
          rw[if_neg e]
          exact m5 q y hq⟩,by simp only;omega,⟨rfl,rfl,rfl,rfl,rfl,rfl,congrArg (Value.int .i64) (inc64 (by omega)),trivial⟩,g.eqT (by
         show [(H.n,(⟨26,true,[.int .i64 0,.int .i64 0,.slice none 0 0]⟩:Blk)),(H.n+1,⟨26,true,[.int .i64 p,.int .i64 k,.slice (some ⟨o,0,some 1⟩) i i]⟩),(o,⟨36,true,cs⟩),(o8,⟨ty8,true,cy.set (0+((x:Int)).toNat*1) _⟩)]=_
         rw[Int.toNat_natCast,Nat.zero_add,Nat.mul_one]
         rfl)⟩)
      case wout=>
       have k5:¬(x:Int)<(k:Int):=k5
       refine KW.freeze 3 rfl (fun A9 S9 hn9 hS9 st9 hm9 ho9 hnS9 hlow9=>?_)
       have E9:=E8.s st9.st
       have src9:=src7.mv (st9.st id E8.sid).2
       have b9:RowsB KI.ml S9 A9 V (G.set z6 ys) cs:=hclose S9 A9 ys (fun j hj=>by
        by_cases e:j=o8
        ·exact⟨(hS9 j).2 (.inr e),fun hw=>(hw (e ▸ h3)).elim⟩
        ·exact⟨(st9.st j ⟨hj,e⟩).1,fun _=>(st9.st j ⟨hj,e⟩).2⟩) (by
        rw[ok6.1,← m2]
        exact mlI_of h3 hm9 rfl (by rw[m2,← ok6.1];exact h2) (by simp only;omega) m5)
       have ok9:Rect p k (G.set z6 ys):=okG.set ⟨m2,m3⟩
       have len9:(G.set z6 ys).length=i:=by rw[List.length_set];exact lenG
       refine KW.ids (fun hlow8 hvar8=>?_)
       have hnn8:=E9.nle hlow8
       refine KW.retW U U U U (fun H9 g=>by have:=g.n_;omega) (fun i hi hw=>(E9).old i ⟨hi,hw⟩) (fun H9 g=>⟨(G.set z6 ys),a7,len9,ok9,by omega,⟨some ⟨o,0,some 1⟩,i,by rw[len9];rfl,?_⟩,(src9).mv (g.froz id (E9).sid).2⟩)
       have hm:=(b9).ml (X:=New H.n H9.n) rfl g (j:=2) rfl ⟨oge,by have h1:o<_:=(g.vars 2 _ rfl).2.1;have:=g.n_;omega⟩ (fun i hi=>⟨v1 i hi,by have:=(g.froz i ((b9).sub i hi)).1;have:=g.n_;omega⟩)
       rw[len9] at hm ⊢
       exact hm
    ·refine KW.retW U U U U (fun H9 g=>by have:=g.n_;omega) (fun i hi hw=>(E5).old i ⟨hi,hw⟩) (fun H9 g=>⟨G,a5,lenG,okG,by omega,⟨some ⟨o,0,some 1⟩,i,by rw[lenG];rfl,?_⟩,(src5).mv (g.froz id (E5).sid).2⟩)
     have hm:=(b5).ml (X:=New H.n H9.n) rfl g (j:=2) rfl ⟨oge,by have h1:o<_:=(g.vars 2 _ rfl).2.1;have:=g.n_;omega⟩ (fun i hi=>⟨v1 i hi,by have:=(g.froz i ((b5).sub i hi)).1;have:=g.n_;omega⟩)
     rw[lenG] at hm ⊢
     exact hm
   ·refine KW.cF U U (by first | (simp;done) | decide) ?_
    refine KW.retW U U U U (fun H9 g=>by have:=g.n_;omega) (fun i hi hw=>E1.old i ⟨hi,hw⟩) (fun H9 g=>⟨G,a1,lenG,okG,by omega,⟨some ⟨o,0,some 1⟩,i,by rw[lenG];rfl,?_⟩,src1.mv (g.froz id E1.sid).2⟩)
    have hm:=b1.ml (X:=New H.n H9.n) rfl g (j:=2) rfl ⟨oge,by have h1:o<_:=(g.vars 2 _ rfl).2.1;have:=g.n_;omega⟩ (fun i hi=>⟨v1 i hi,by have:=(g.froz i (b1.sub i hi)).1;have:=g.n_;omega⟩)
    rw[lenG] at hm ⊢
    exact hm
end
section
variable {S:Ids} {H0:AH}
theorem prL_in {y:Int} (h:y∈prL):2≤y∧y≤31:=by
 unfold prL at h
 simp at h
 omega
theorem l03Drawn {bs:List Int} (hb:∀x∈bs,0≤x∧x<256) (hl:bs.length≤1048576) {ac:Option Addr} {cc id at_:Nat} {Y:Ids} (hat:at_≤600000) (hS:S id) (hY:∀i,Y i→S i∧i≠id) (hsrc:Src ac bs.length cc H0 id at_) (hs:KB.Sl Y H0 (.slice ac bs.length cc) bs):
  SpecW Try.prog S H0 (fun i=>i=id) 59 [.pointer (some ⟨id,0,none⟩)] (fun n v H1=>∃(p:Int) (k:Nat) (L:List (List Int)) (at':Nat),p∈prL∧k≤6∧L.length≤6∧Rect p k L∧at'≤at_+300∧MkMo p k L n v H1∧Src ac bs.length cc H1 id at'):=by
 refine SpecW.of0 Try.func59 rfl (by kernel_rfl) rfl (fun H hfin hfz=>?_)
 have fx:∀i,S i→Low H.n i∧H.m i=H0.m i:=fun i hi=>hfz i hi
 have hid:id<H.n:=(fx id hS).1
 have hsH:=hs.stX (S':=fun i=>Low H.n i∧i≠id) (H':=H) (fun i hi=>⟨⟨(fx i (hY i hi).1).1,(hY i hi).2⟩,(fx i (hY i hi).1).2⟩)
 have E0:DwE H id (Low H.n) H:=⟨hid,fun i hi=>⟨hi.1,rfl⟩⟩
 refine KW.callW (W:=fun i=>i=id) (fun i hi=>by subst hi;exact E0.sid) U U U U U (srcPrime (S:=Low H.n) (H0:=H) hb hl (by omega) E0.sid (fun i hi=>hi) (hsrc.mv (fx id hS).2) (E0.kb hsH)) (fun v H1 S1 hn1 st1 hw1 hp=>?_)
 obtain⟨p,a1,hpm,l1,u1,rfl,src1⟩:=hp
 have E1:=E0.w st1
 refine KW.callW (W:=fun i=>i=id) (fun i hi=>by subst hi;exact E1.sid) U U U U U (srcPick (S:=S1) (H0:=H1) hb hl (n:=6) (by omega) (by omega) E1.sid (fun i hi=>hi) src1 (E1.kb hsH)) (fun v H2 S2 hn2 st2 hw2 hp=>?_)
 obtain⟨z2,a2,hz2,l2,u2,rfl,src2⟩:=hp
 have hz2:=hz2 (by omega)
 have E2:=E1.w st2
 refine KW.callW (W:=fun i=>i=id) (fun i hi=>by subst hi;exact E2.sid) U U U U U (srcPick (S:=S2) (H0:=H2) hb hl (n:=6) (by omega) (by omega) E2.sid (fun i hi=>hi) src2 (E2.kb hsH)) (fun v H3 S3 hn3 st3 hw3 hp=>?_)
 obtain⟨z3,a3,hz3,l3,u3,rfl,src3⟩:=hp
 have hz3:=hz3 (by omega)
 have E3:=E2.w st3
 refine KW.ids (fun hlow hvar=>?_)
 have hnn:=E3.nle hlow
 refine KW.callW (W:=fun i=>i=id) (fun i hi=>by subst hi;exact E3.sid) U U U U U (l03Filled (S:=S3) (H0:=H3) hb hl (p:=p) (rs:=z2) (k:=z3) (prL_in hpm) (by omega) (by omega) (by omega) E3.sid (fun i hi=>hi) src3 (E3.kb hsH)) (fun v H4 S4 hn4 st4 hw4 hp=>?_)
 obtain⟨L,a4,hL1,hL2,u4,⟨b4,d4,rfl,hml⟩,src4⟩:=hp
 have E4:=E3.w st4
 refine KW.retW U U U U (fun H9 g=>by have:=g.n_;omega) (fun i hi hw=>E4.old i ⟨hi,hw⟩) (fun H9 g=>⟨p,z3,L,a4,hpm,by omega,by omega,hL2,by omega,⟨_,_,rfl,?_⟩,src4.mv (g.froz id E4.sid).2⟩)
 exact(hml.same (fun i hi=>(g.froz i (hw4 i hi)).2)).more (fun i hi=>⟨by have:=hi.1;omega,by have:=hi.2;have:=g.n_;omega⟩)
theorem a2Matrix {bs:List Int} (hb:∀x∈bs,0≤x∧x<256) (hl:bs.length≤1048576) {ac:Option Addr} {cc:Nat} (hs:KB.Sl S H0 (.slice ac bs.length cc) bs):
  SpecM Try.prog S H0 10 [.slice ac bs.length cc] (fun n v H1=>∃(p:Int) (k:Nat) (L:List (List Int)),p∈prL∧k≤6∧L.length≤6∧Rect p k L∧MkMo p k L n v H1):=by
 refine SpecM.of1 Try.func10 rfl (by kernel_rfl) rfl (fun H _=>?_)
 refine KW.callN1 U U U U U (srcFrom) (fun v HS SS mS _ _ hv=>?_)
 obtain⟨o,sp,rfl,hnew,hsrc⟩:=hv
 have wS:On (New _ HS.n) HS SS HS:=‹_›
 have tS:On (Low H.n) H SS HS:=inferInstance
 have hso:=(wS.st o hnew).1
 have hbs:=(hs.up (S':=Low H.n) (H':=H)).stX (S':=fun i=>SS i∧i≠o) (H':=HS) (fun i hi=>⟨⟨(tS.st i hi).1,fun e=>by have h1:i<H.n:=hi;have:=hnew.1;omega⟩,(tS.st i hi).2⟩)
 refine KW.callW (W:=fun i=>i=o) (fun i hi=>by subst hi;exact hso) U U U U U (l03Drawn (S:=SS) (H0:=HS) hb hl (by omega) hso (fun i hi=>hi) hsrc hbs) (fun v H4 S4 hn4 st4 hw4 hp=>?_)
 obtain⟨p,k,L,a4,hpm,hk,hL1,hL2,u4,⟨b4,d4,rfl,hml⟩,src4⟩:=hp
 haveI:On (Low H.n) H S4 H4:=⟨fun i hi=>⟨(st4 i (tS.st i hi).1).1,((st4 i (tS.st i hi).1).2 (fun e=>by have h1:i<H.n:=hi;have h2:i=o:=e;have:=hnew.1;omega)).trans (tS.st i hi).2⟩⟩
 refine KW.retM1 U U U U (fun H1 g=>?_)
 exact⟨p,k,L,hpm,hk,hL1,hL2,_,_,rfl,(hml.same (fun i hi=>(g.froz i (hw4 i hi)).2)).more (fun i hi=>⟨by have:=hi.1;omega,by have:=hi.2;have:=g.n_;omega⟩)⟩
end
end Go.Proofs.Ytlapbbffoapleaa.Am
namespace Go.Proofs.Ytlapbbffoapleaa.Am
open Go Go.RowKit Go.Proofs
section
variable {P:Program} {S:Ids} {H0:AH} {Q:PostC} {k k1:List It} {e e1:Env} {T T1:List Var} {n n1:Nat} {l1 r1:List Nat} {d1:Tmp}
end
section
variable {P:Program} {S:Ids} {H0:AH} {Q:PostC} {k k1:List It} {e e1:Env} {T T1:List Var} {n n1:Nat} {l1 r1:List Nat} {d1:Tmp}
def AllW (S W:Ids) (T:List Var) (e:Env):List Tmp→Prop
 | []=>True
 | u :: L=>((∃(i:Nat) (b:Blk) (id k:Nat) (s:Option Nat),e u=.pointer (some ⟨id,k,s⟩)∧T[i]?=some (id,b))∨∃(id k:Nat) (s:Option Nat),e u=.pointer (some ⟨id,k,s⟩)∧S id∧¬W id)∧AllW S W T e L
theorem KW.callWL {f:Operand} {xs:Array Operand} {ts:Array TypeId} {g:FuncId} {first cap:Array Value} {o:Oper} {W:Ids} {L:List Tmp} {post:Nat→Value→AH→Prop} (hW:∀id,W id→S id) (h:Go1 P k e T n (.opL o false L) k1 e1 T1 n1 l1 r1) (hlr:l1=r1) (ho:o.op=.call {callee:=.value f,args:=xs,argTypes:=ts}) (hd:o.dst=some d1) (hf:ev e1 f=.func (.func g) first cap) (hL:AllW S W T1 e1 L)
  (hs:SpecW P S H0 W g (cargs e1 first cap xs) post)
  (hk:∀v H1 (S':Ids),n1≤H1.n→StW W S H0 S' H1→(∀id,New n1 H1.n id→S' id)→post n1 v H1→KW P S' H1 Q H1.n T1 k1 (put1 e1 d1 (untag v))):KW P S H0 Q n T k e:=by
 refine KW.go h hlr (fun H gd=>?_)
 replace gd:Good S H0 T1 n1 H:=gd
 obtain⟨m,v,H1,h1,hx1,hx2,hfin,hp⟩:=hs H gd.fin gd.fz
 have hn:H.n=n1:=gd.n_
 have e:untags (first++aargs e1 xs++cap)=(cargs e1 first cap xs).toArray:=by
  apply Array.ext'
  simp[aargs,untags,cargs]
 refine⟨m,untag v,H1,?_,?_,?_⟩
 ·rw[ho]
  simp only[evOp,evCall,hf]
  exact⟨v,rfl,by rw[e];exact h1,fun h=>by cases h⟩
 ·have hAll:∀(L:List Tmp),AllW S W T1 e1 L→∀t∈L,∀id k s,e1 t=.pointer (some ⟨id,k,s⟩)→H1.m id=H.m id:=by
   intro L
   induction L with
   | nil=>intro _ t ht;cases ht
   | cons u L ih=>
    intro hL t ht id k s he
    rcases List.mem_cons.1 ht with rfl | ht
    ·rcases hL.1 with⟨i,b,id',k',s',h1,h2⟩ | ⟨id',k',s',h1,h2,h3⟩
     ·rw[h1] at he
      cases he
      have hv:=gd.vars i _ h2
      exact hx2 _ (by omega) (fun hw=>hv.2.2 (hW _ hw))
     ·rw[h1] at he
      cases he
      exact hx2 _ (by have:=(gd.froz _ h2).1;omega) h3
    ·exact ih hL.2 t ht id k s he
  exact hAll L hL
 ·rw[hn] at hp
  rw[hd,put1_eq]
  refine hk v H1 (fun id=>S id∨New n1 H1.n id) (by rw[← hn];exact hx1) (fun id hid=>⟨.inl hid,fun hw=>?_⟩) (fun id hid=>.inr hid) hp H1 ?_
  ·obtain⟨h2,h3⟩:=gd.froz id hid
   rw[hx2 id (by omega) hw,h3]
  ·refine⟨rfl,hfin,fun id hid=>⟨?_,rfl⟩,fun j w hj=>?_,gd.dist⟩
   ·rcases hid with hid | hid
    ·have:=(gd.froz id hid).1;omega
    ·exact hid.2
   ·obtain⟨h2,h3,h4⟩:=gd.vars j w hj
    refine⟨by rw[hx2 _ (by omega) (fun hw=>h4 (hW _ hw))];exact h2,by omega,fun hh=>?_⟩
    rcases hh with hh | hh
    ·exact h4 hh
    ·have:=hh.1;omega
end
theorem Spec.of1L (Z:List Nat) {P:Program} {S:Ids} {H0:AH} {f:FuncId} {fn:Func} {c:Code} {args:List Value} {post:Value→Prop} (hf:P.funcs[f]?=some fn) (hb:fn.body=some c) (hok:fnOk fn=true) (hst:stC (relab Z c)=true) (hs:Nat.ble args.length fn.ntmps=true)
  (h:∀H,Stp S H0 (Low H.n) H→KW P (Low H.n) H (Fin1 P fn (fun v H1=>Ext H H1∧Fin' H1∧post v)) H.n [] [.code (relab Z c)] (fun t=>args.getD t undef)):Spec P S H0 f args post:=by
 intro H hfin hfz
 refine Run.of hf hb hok (by simpa using Nat.le_of_ble_eq_true hs) ?_
 rw[envL_eq]
 exact((h H ⟨fun id hid=>hfz id hid⟩).wc hst (Good.start hfin)).relab
section
variable {P:Program} {S:Ids} {H0:AH} {Q:PostC} {k k1:List It} {e e1:Env} {T T1:List Var} {n n1:Nat} {l1 r1:List Nat} {d1:Tmp}
end
section
variable {P:Program} {S:Ids} {H0:AH} {Q:PostC} {k k1:List It} {e e1:Env} {T T1:List Var} {n n1:Nat} {l1 r1:List Nat} {d1:Tmp}
theorem KW.callNL1 {f:Operand} {xs:Array Operand} {ts:Array TypeId} {g:FuncId} {first cap:Array Value} {o:Oper} {L:List Tmp} {post:Nat→Value→AH→Prop} (h:Go1 P k e T n (.opL o false L) k1 e1 T1 n1 l1 r1) (hlr:l1=r1) (ho:o.op=.call {callee:=.value f,args:=xs,argTypes:=ts}) (hd:o.dst=some d1) (hf:ev e1 f=.func (.func g) first cap) (hL:AllW S (fun _=>False) T1 e1 L)
  (hs:SpecM P S H0 g (cargs e1 first cap xs) post)
  (hk:∀v H1 (S':Ids),n1≤H1.n→Stp S H0 S' H1→On (New n1 H1.n) H1 S' H1→post n1 v H1→KW P S' H1 Q H1.n T1 k1 (put1 e1 d1 (untag v))):KW P S H0 Q n T k e:=
 KW.callWL (W:=fun _=>False) (fun _ h=>h.elim) h hlr ho hd hf hL (SpecM.w hs) (fun v H1 S' h1 h2 h3 h4=>hk v H1 S' h1 ⟨fun id hid=>⟨(h2 id hid).1,(h2 id hid).2 (fun q=>q)⟩⟩ ⟨fun id hid=>⟨h3 id hid,rfl⟩⟩ h4)
end
end Go.Proofs.Ytlapbbffoapleaa.Am
namespace Go.Proofs.Ytlapbbffoapleaa.Am
open Go Go.RowKit Go.Proofs Go.Proofs.Ytlapbbffoapleaa.Pl
section
variable {S:Ids} {H0:AH}
theorem mulMod {p a b:Int} (hp:PrimeP p) (ha:0≤a∧a<p) (hb:0≤b∧b<p):SpecM Try.prog S H0 17 [.int .i64 p,.int .i64 a,.int .i64 b] (fun _ v _=>v=.tuple #[.int .i64 (a*b%p),.int .i64 0]):=by
  have hp2:=hp.1
  have hp31:=hp.2.1
  have hm:=mul_in (x:=a) (y:=b) (by omega) (by omega)
  refine SpecM.of1 Try.func17 rfl (by kernel_rfl) rfl (fun H _=>?_)
  refine KW.lit U U U U U U U U U U [.int .i64 a,.int .i64 b] U U (fun v hv=>by simp at hv;rcases hv with rfl | rfl<;>rfl) rfl ?_
  refine KW.callV1 U U U U U (fun H1 g _=>areElements p (by unfold I64;omega) (xs:=[a,b]) (by simp) (g.ints (j:=0) U U (by simp))) (fun _ _=>?_)
  rw[tv_true (p:=PrimeP p∧Elems p [a,b]) ⟨hp,fun y hy=>by simp at hy;rcases hy with rfl | rfl<;>omega⟩]
  refine KW.cF U U (by first | (simp;done) | decide) ?_
  refine KW.rem U U U U U U (by rw[wr (by omega) (by omega)];exact hm.1) (by omega) ?_
  refine KW.retM1 U U U U (fun H1 g=>by rw[wr (x:=a*b) (by omega) (by omega)];rfl)
theorem a2MatrixOf {bs:List Int} {p:Int} {r k:Nat} (hp:2≤p∧p≤31) (hr:r≤6) (hk:k≤6) (hb:∀x∈bs,0≤x∧x<256) (hl:bs.length≤1048576) {ac:Option Addr} {cc:Nat} (hs:KB.Sl S H0 (.slice ac bs.length cc) bs):
    SpecM Try.prog S H0 12 [.slice ac bs.length cc,.int .i64 p,.int .i64 r,.int .i64 k] (fun n v H1=>∃(L:List (List Int)),L.length=r∧Rect p k L∧MkMo p k L n v H1):=by
  refine SpecM.of1 Try.func12 rfl (by kernel_rfl) rfl (fun H _=>?_)
  refine KW.callN1 U U U U U (srcFrom) (fun v HS SS mS _ _ hv=>?_)
  obtain⟨o,sp,rfl,hnew,hsrc⟩:=hv
  have wS:On (New _ HS.n) HS SS HS:=‹_›
  have tS:On (Low H.n) H SS HS:=inferInstance
  have hso:=(wS.st o hnew).1
  have hbs:=(hs.up (S':=Low H.n) (H':=H)).stX (S':=fun i=>SS i∧i≠o) (H':=HS) (fun i hi=>⟨⟨(tS.st i hi).1,fun e=>by have h1:i<H.n:=hi;have:=hnew.1;omega⟩,(tS.st i hi).2⟩)
  refine KW.callW (W:=fun i=>i=o) (fun i hi=>by subst hi;exact hso) U U U U U (l03Filled (S:=SS) (H0:=HS) hb hl (p:=p) (rs:=r) (k:=k) hp hr hk (by omega) hso (fun i hi=>hi) hsrc hbs) (fun v H4 S4 hn4 st4 hw4 hp=>?_)
  obtain⟨L,a4,hL1,hL2,u4,⟨b4,d4,rfl,hml⟩,src4⟩:=hp
  haveI:On (Low H.n) H S4 H4:=⟨fun i hi=>⟨(st4 i (tS.st i hi).1).1,((st4 i (tS.st i hi).1).2 (fun e=>by have h1:i<H.n:=hi;have h2:i=o:=e;have:=hnew.1;omega)).trans (tS.st i hi).2⟩⟩
  refine KW.retM1 U U U U (fun H1 g=>?_)
  exact⟨L,hL1,hL2,_,_,rfl,(hml.same (fun i hi=>(g.froz i (hw4 i hi)).2)).more (fun i hi=>⟨by have:=hi.1;omega,by have:=hi.2;have:=g.n_;omega⟩)⟩
end
def unR (n i:Nat):List Int:=(List.replicate n 0).set i 1
def wdR (L:List (List Int)) (i:Nat):List Int:=L.getD i []++unR L.length i
def wdL (L:List (List Int)):List (List Int):=(List.range L.length).map (wdR L)
def ivE (p:Int) (L:List (List Int)):List (List Int) × List Nat:=ech p (wdL L) (2*L.length)
def ivR (p:Int) (L:List (List Int)) (i:Nat):List Int:=((ivE p L).1.getD i []).drop L.length
def ivOk (p:Int) (L:List (List Int)):Prop:=∀i,i<(ivE p L).2.length→(ivE p L).2[i]?=some i
theorem unR_len {n i:Nat}:(unR n i).length=n:=by simp[unR]
theorem unR_rep {n i:Nat}:(List.replicate n (Value.int .i64 0)).set (0+i*1) (Value.int .i64 1)=(unR n i).map (Value.int .i64):=by
  rw[Nat.zero_add,Nat.mul_one,unR,List.map_set,List.map_replicate]
section
variable {S:Ids} {H0:AH}
theorem echelonN {p:Int} {k n1:Nat} (hp:2≤p∧p≤31) (hk:k≤1000) {L:List (List Int)} (hB:B_Int64SS L) (hL:Rect p k L) {a c} (hn:n1=L.length) (hs:KI.sl.Sl S H0 (.slice a n1 c) L):SpecM Try.prog S H0 65 [.agg #[.int .i64 p,.int .i64 k,.slice a n1 c]] (fun n v H1=>∃a1 c1 a2 c2 R F,R=(ech p L k).1.take (ech p L k).2.length∧F=(ech p L k).2.map (fun(i:Nat)=>(i:Int))∧F.length=R.length∧v=.tuple #[.agg #[.int .i64 p,.int .i64 k,.slice a1 R.length c1],.slice a2 F.length c2]∧KI.sl.Sl (New n H1.n) H1 (.slice a1 R.length c1) R∧KI.Sl (New n H1.n) H1 (.slice a2 F.length c2) F):=by
  subst hn
  intro H hf hz
  obtain⟨m,v,H1,k1,k2,k3,a1,c1,a2,c2,rfl,h1,h2⟩:=echelon hp hk hB hL hs H hf hz
  have hok:=ech_ok (p:=p) (by omega) hL k
  have e1:((ech p L k).1.take (ech p L k).2.length).length=(ech p L k).2.length:=by rw[List.length_take];have:=hok.2.2.1;have:=hok.2.1;omega
  have e2:((ech p L k).2.map (fun(i:Nat)=>(i:Int))).length=(ech p L k).2.length:=List.length_map ..
  refine⟨m,_,H1,k1,k2,k3,a1,c1,a2,c2,_,_,rfl,rfl,by rw[e1,e2],?_,?_,?_⟩
  · rw[e1,e2]
  · rw[e1];exact h1.to (KLe.row (KLe.refl KI))
  · rw[e2];exact h2.sl
theorem wdR_in {p:Int} (hp:2≤p) {L:List (List Int)} (hL:Rect p L.length L) {i:Nat} (hi:i<L.length):(wdR L i).length=2*L.length∧∀x∈wdR L i,0≤x∧x<p:=by
  have e:L.getD i []=L[i]:=by rw[List.getD_eq_getElem?_getD,List.getElem?_eq_getElem hi];rfl
  have h:=hL _ (List.getElem_mem hi)
  unfold wdR
  rw[e]
  refine⟨by rw[List.length_append,unR_len,h.1];omega,fun x hx=>?_⟩
  rcases List.mem_append.1 hx with h1 | h1
  · exact h.2 x h1
  · rcases List.mem_or_eq_of_mem_set h1 with h2 | h2
    · rw[List.eq_of_mem_replicate h2];omega
    · omega
theorem wdL_rect {p:Int} (hp:2≤p) {L:List (List Int)} (hL:Rect p L.length L):Rect p (2*L.length) (wdL L):=fun r hr=>by
  obtain⟨i,hi,rfl⟩:=List.mem_map.1 hr
  exact wdR_in hp hL (List.mem_range.1 hi)
theorem wdL_B {p:Int} (hp:2≤p) {L:List (List Int)} (hL:Rect p L.length L) (h:L.length≤12):B_Int64SS (wdL L):=rect_sml (wdL_rect hp hL) (by omega) (by simp[wdL];omega)
theorem wdL_sl {L:List (List Int)} {H H1 A1:AH} {S1 V:Ids} {cs:List Value} {T:List Var} {n j o:Nat} {ty:TypeId} (hq:RwI (wdR L) (List.range L.length) H (Low H.n) H ⟨L.length,S1,A1,V,cs,0⟩) (g:Good S1 A1 T n H1) (hT:T[j]?=some (o,⟨ty,true,cs⟩)) (ho:H.n≤o):KI.sl.Sl (New H.n H1.n) H1 (.slice (some ⟨o,0,some 1⟩) L.length L.length) (wdL L):=by
  have h:=((⟨hq.le,hq.old,hq.b,hq.v⟩:RwI (wdR L) (List.range L.length) H (Low H.n) H ⟨L.length,S1,A1,V,cs,o⟩).ml (by simp) g hT ho).to (KLe.row (KLe.refl KI))
  rw[List.length_range] at h
  exact h
theorem built_Matrix0:Try.prog.built 26 []=some #[.int .i64 0,.int .i64 0,.slice none 0 0]:=by kernel_rfl
theorem inverseOf {p:Int} {k:Nat} {L:List (List Int)} (hB:B_Int64SS L) (hM:OkMat p k L) (hk:L.length=k) {a c} (hs:KI.sl.Sl S H0 (.slice a L.length c) L):SpecM Try.prog S H0 13 [.agg #[.int .i64 p,.int .i64 k,.slice a L.length c]] (fun n v H1=>(¬ivOk p L∧v=.tuple #[.agg #[.int .i64 0,.int .i64 0,.slice none 0 0],.int .i64 4])∨(ivOk p L∧∃v',v=.tuple #[v',.int .i64 0]∧MkMx p k ((List.range (ivE p L).2.length).map (ivR p L)) n v' H1)):=by
  subst hk
  have hLl:=hB.len
  have hL:Rect p L.length L:=hM.rect rfl
  have hp:=hM.pr
  have hf:=fer hp
  have hp2:2≤p∧p≤31:=⟨hp.1,hp.2.1⟩
  have hp31:=hp2.2
  have hk12:=hM.c1
  refine SpecM.of1L [12] Try.func13 rfl (by kernel_rfl) (by kernel_rfl) rfl (fun H _=>?_)
  have hs:=hs.up (S':=Low H.n) (H':=H)
  refine KW.callE U U U U U (validMatrix p L.length (by unfold I64;omega) hB hs.up) (fun n8 m8=>?_)
  rw[tv_true hM]
  refine KW.cF U U (by first | (simp;done) | decide) ?_
  refine KW.callE U U U U U (isSquare rfl hs.up) (fun n9 m9=>?_)
  refine KW.cF U U (by first | (simp;done) | decide) ?_
  refine KW.build U U U U U (built_MatrixW p (show IntKind.i64.wrap (2*(L.length:Int))=((2*L.length:Nat):Int) by rw[wr (by omega) (by omega)];omega)) ?_
  refine KW.lpM U U (fun s:CpS=>[(1,.pointer (some ⟨H.n,0,some 0⟩)),(2,.pointer (some ⟨H.n+1,0,some 1⟩)),(4,.int .i64 L.length),(5,.pointer (some ⟨n9,0,some 2⟩)),(30,.slice a L.length c),(31,.int .i64 L.length),(32,.int .i64 s.i)]) (fun s=>s.S) (fun s=>s.A) (fun s=>[(H.n,⟨26,true,[.int .i64 p,.int .i64 L.length,.slice a L.length c]⟩),(H.n+1,⟨26,true,[.int .i64 0,.int .i64 0,.slice none 0 0]⟩),(n9,⟨26,true,[.int .i64 p,.int .i64 (2*L.length:Nat),s.l]⟩)]++s.tail) (fun s=>CqI (wdR L) (List.range L.length) H H (Low H.n) s) (fun s=>L.length-s.i) (⟨0,Low H.n,H,fun _=>False,[],.slice none 0 0,[]⟩) (⟨RwI.start,.inl ⟨rfl,rfl,rfl,rfl⟩⟩) ⟨rfl,rfl,rfl,rfl,rfl,rfl,rfl,trivial⟩ U U (rfl) (fun s hi bE n=>?_)
  obtain⟨i,S1,A1,V,cs,l,tail⟩:=s
  obtain⟨hq,hform⟩:=hi
  simp only at hq hform
  haveI:Stp (Low H.n) H S1 A1:=⟨hq.old⟩
  have hle:=hq.le
  have hcl:=hq.b.len
  rw[List.length_map,List.length_take] at hcl
  simp only[List.length_range] at hle hcl
  have hs1:=hs.up (S':=S1) (H':=A1)
  rcases hform with⟨hi0,e1,e2,e3⟩ | ⟨hi0,o,e1,e2⟩
  · subst e1 e2 e3 hi0
    refine KW.cnd U U (fun h=>?_) (fun h=>?_)
    · have h:((0:Nat):Int)<L.length:=h
      refine KW.getL hs1 U U U U U U U U U U U U U U U U (by omega) (h) (fun y ay cy hy hsy=>?_)
      have hy:L[0]?=some y:=hy
      have hyk:=hL.at hy
      refine KW.mk1 U U U U U U U U U U U U (L.length) U U (by omega) (by show 8*_≤_;omega) ?_
      refine KW.idx0 U U U U U U U U U (by omega) (h) ?_
      refine KW.st1 3 U U U U U U U U U U U U (by simp only[List.length_replicate];omega) ?_
      refine KW.ids (fun hlow hvar=>?_)
      refine KW.callNL1 U U U U U ⟨.inl ⟨2,_,_,_,_,rfl,rfl⟩,trivial⟩ (cloneB (by omega) (hsy.up (S':=S1) (H':=A1))) (fun v HC SC mC _ _ hv=>?_)
      rcases hv with⟨hy0,rfl⟩ | ⟨o3,rfl,hno3,hmo3⟩
      · have:=hyk.1
        rw[hy0] at this
        simp at this
        omega
      have hSo3:SC o3:=(inferInstance:On (New _ HC.n) HC SC HC).st o3 hno3 |>.1
      have hne3:∀id,S1 id→id≠o3:=fun id hid e=>by have:=hlow id hid;have:=hno3.1;omega
      have tC:St S1 A1 SC HC:=(inferInstance:On S1 A1 SC HC).st
      haveI ot:Stp S1 A1 (fun id=>SC id∧id≠o3) HC:=⟨fun id hid=>⟨⟨(tC id hid).1,hne3 id hid⟩,(tC id hid).2⟩⟩
      refine KW.thaw o3 _ hSo3 hmo3 ?_
      refine KW.appTL (ys:=(unR L.length 0).map (Value.int .i64)) (m:=L.length) 4 U U U U U U U U U U (fun H9 g=>acells_T (g.blk (j:=3) rfl).1 unR_rep (by rw[List.length_map,unR_len])) (by simp) (fun v hv=>by obtain⟨_,_,rfl⟩:=List.mem_map.1 hv;rfl) (by omega) (by show(_+_)*8≤_;omega) (by omega) ⟨.inl ⟨2,_,_,_,_,rfl,rfl,by decide⟩,trivial⟩ ?_
      refine KW.freeze 4 rfl (fun A' S' hnA hSA stA hmA hoA hnS hlow=>?_)
      refine KW.take 3 ?_
      have ew:wdR L 0=y++unR L.length 0:=by unfold wdR;rw[List.getD_eq_getElem?_getD,hy];rfl
      rw[← List.map_append,← ew] at hmA
      have stx:St S1 A1 S' A':=ot.st.trans stA.st
      have hwl:(wdR L 0).length=y.length+L.length:=by rw[ew,List.length_append,unR_len]
      rw[← hwl]
      refine KW.app0 (v:=.slice (some ⟨_,0,some 1⟩) (wdR L 0).length (wdR L 0).length) 3 U U U U U U U U U U U U U U U U U U U U U U (by decide) ?_
      exact KW.nxt U U (fun H' g=>⟨⟨1,S',A',_,_,_,_⟩,⟨hq.nextX (o':=0) stx (fun id e=>by
        subst e
        refine⟨(hSA _).2 (.inr rfl),?_,fun h9=>hnS (ot.st _ h9).1⟩
        refine Nat.le_of_not_lt fun h9=>?_
        exact absurd (ot.st _ (hq.old _ h9).1).1 hnS) (show(List.range L.length)[0]?=some 0 from range_at (by omega)) (row_ml hmA),.inr ⟨by simp only;omega,_,rfl,rfl⟩⟩,by simp only;omega,⟨rfl,rfl,rfl,rfl,rfl,rfl,rfl,trivial⟩,g⟩)
    · have h:¬((0:Nat):Int)<L.length:=h
      obtain rfl:L=[]:=List.eq_nil_of_length_eq_zero (by omega)
      refine KW.callN1 U U U U U (echelonN (n1:=0) (k:=0) (L:=[]) hp2 (by omega) (rect_sml (p:=p) (k:=0) (fun r hr=>by simp at hr) (by omega) (by simp)) (fun r hr=>by simp at hr) rfl (.inl ⟨rfl,_,_,rfl,fun _=>rfl⟩)) (fun v HE SE mE _ _ hv=>?_)
      obtain⟨a1,c1,a2,c2,R,F,rR,rF,hFR,rfl,h1,h2⟩:=hv
      have hR0:R=[]:=rR
      subst hR0
      refine KW.build U U U U U (built_Matrix2 _ _) ?_
      refine KW.lp U U (fun _:Unit=>[(1,.pointer (some ⟨H.n,0,some 0⟩)),(2,.pointer (some ⟨H.n+1,0,some 1⟩)),(4,.int .i64 (0:Nat)),(5,.pointer (some ⟨n9,0,some 2⟩)),(9,.pointer (some ⟨HE.n,0,some 3⟩)),(10,.slice a2 F.length c2),(11,.pointer (some ⟨HE.n+1,0,some 4⟩)),(62,.slice a1 0 c1),(63,.int .i64 (0:Nat)),(64,.int .i64 0)]) (fun _=>True) (fun _=>0) (()) (trivial) ⟨rfl,rfl,rfl,rfl,rfl,rfl,rfl,rfl,rfl,rfl,trivial⟩ (fun _ hi bE n=>?_)
      refine KW.cF U U (by first | (simp;done) | decide) ?_
      refine KW.retM1 U U U U (fun H1 g=>.inr ⟨fun i hi=>absurd hi (Nat.not_lt_zero i),_,rfl,none,0,rfl,.inl ⟨rfl,_,_,rfl,fun _=>rfl⟩⟩)
  · subst e1 e2
    refine KW.cnd U U (fun h=>?_) (fun h=>?_)
    · have h:(i:Int)<L.length:=h
      refine KW.getL hs1 U U U U U U U U U U U U U U U U (by omega) (h) (fun y ay cy hy hsy=>?_)
      have hy:L[i]?=some y:=hy
      have hyk:=hL.at hy
      refine KW.mk1 U U U U U U U U U U U U (L.length) U U (by omega) (by show 8*_≤_;omega) ?_
      refine KW.idx0 U U U U U U U U U (by omega) (h) ?_
      refine KW.st1 4 U U U U U U U U U U U U (by simp only[List.length_replicate];omega) ?_
      refine KW.ids (fun hlow hvar=>?_)
      refine KW.callNL1 U U U U U ⟨.inl ⟨2,_,_,_,_,rfl,rfl⟩,trivial⟩ (cloneB (by omega) (hsy.up (S':=S1) (H':=A1))) (fun v HC SC mC _ _ hv=>?_)
      rcases hv with⟨hy0,rfl⟩ | ⟨o3,rfl,hno3,hmo3⟩
      · have:=hyk.1
        rw[hy0] at this
        simp at this
        omega
      have hSo3:SC o3:=(inferInstance:On (New _ HC.n) HC SC HC).st o3 hno3 |>.1
      have hne3:∀id,S1 id→id≠o3:=fun id hid e=>by have:=hlow id hid;have:=hno3.1;omega
      have tC:St S1 A1 SC HC:=(inferInstance:On S1 A1 SC HC).st
      haveI ot:Stp S1 A1 (fun id=>SC id∧id≠o3) HC:=⟨fun id hid=>⟨⟨(tC id hid).1,hne3 id hid⟩,(tC id hid).2⟩⟩
      refine KW.thaw o3 _ hSo3 hmo3 ?_
      refine KW.appTL (ys:=(unR L.length i).map (Value.int .i64)) (m:=L.length) 5 U U U U U U U U U U (fun H9 g=>acells_T (g.blk (j:=4) rfl).1 unR_rep (by rw[List.length_map,unR_len])) (by simp) (fun v hv=>by obtain⟨_,_,rfl⟩:=List.mem_map.1 hv;rfl) (by omega) (by show(_+_)*8≤_;omega) (by omega) ⟨.inl ⟨2,_,_,_,_,rfl,rfl,by decide⟩,trivial⟩ ?_
      refine KW.freeze 5 rfl (fun A' S' hnA hSA stA hmA hoA hnS hlow=>?_)
      refine KW.take 4 ?_
      have ew:wdR L i=y++unR L.length i:=by unfold wdR;rw[List.getD_eq_getElem?_getD,hy];rfl
      rw[← List.map_append,← ew] at hmA
      have stx:St S1 A1 S' A':=ot.st.trans stA.st
      have hwl:(wdR L i).length=y.length+L.length:=by rw[ew,List.length_append,unR_len]
      rw[← hwl]
      refine KW.app1 (xs:=cs) (v:=.slice (some ⟨_,0,some 1⟩) (wdR L i).length (wdR L i).length) 3 4 U U U U U U U U U U U U U U U U U U U U U U U (by omega) (by show(_+1)*24≤_;omega) (by omega) ?_
      exact KW.nxt U U (fun H' g=>⟨⟨i+1,S',A',_,_,_,_⟩,⟨hq.nextX (o':=0) stx (fun id e=>by
        subst e
        refine⟨(hSA _).2 (.inr rfl),?_,fun h9=>hnS (ot.st _ h9).1⟩
        refine Nat.le_of_not_lt fun h9=>?_
        exact absurd (ot.st _ (hq.old _ h9).1).1 hnS) (show(List.range L.length)[i]?=some i from range_at (by omega)) (row_ml hmA),.inr ⟨by simp only;omega,_,rfl,rfl⟩⟩,by simp only;omega,⟨rfl,rfl,rfl,rfl,rfl,rfl,congrArg (Value.int .i64) (inc64 (by omega)),trivial⟩,g⟩)
    · have h:¬(i:Int)<L.length:=h
      obtain rfl:i=L.length:=by omega
      have hwl:(wdL L).length=L.length:=by simp[wdL]
      refine KW.callNV1 U U U U U (fun H1 g _=>echelonN (n1:=L.length) (k:=2*L.length) (L:=wdL L) hp2 (by omega) (wdL_B hp2.1 hL (by omega)) (wdL_rect hp2.1 hL) hwl.symm (Kn.Sl.more (S:=New H.n H1.n) (fun id hid=>hid.2) (wdL_sl hq g (j:=3) rfl (g.ge (H1:=H) (j:=3) rfl)))) (fun v HE SE mE tE wE hv=>?_)
      obtain⟨a1,c1,a2,c2,R,F,rR,rF,hFR,rfl,h1,h2⟩:=hv
      have eE:ech p (wdL L) (2*L.length)=ivE p L:=rfl
      rw[eE] at rR rF
      have hok:=ech_ok (p:=p) (by omega) (wdL_rect hp2.1 hL) (2*L.length)
      rw[eE] at hok
      have hRl:R.length=(ivE p L).2.length:=by rw[rR,List.length_take];have:=hok.2.2.1;have:=hok.2.1;omega
      have hRn:R.length≤L.length:=by have:=hok.2.2.1;omega
      have hRr:∀(j:Nat) y,R[j]?=some y→(ivE p L).1[j]?=some y∧y.length=2*L.length:=fun j y hy=>by
        have h9:(ivE p L).1[j]?=some y:=by
          rw[rR,List.getElem?_take] at hy
          split at hy
          · exact hy
          · cases hy
        exact⟨h9,(hok.1 y (List.mem_of_getElem? h9)).1⟩
      have hFj:∀(j:Nat) z,F[j]?=some z→∃q:Nat,z=q∧(ivE p L).2[j]?=some q:=fun j z hz=>by
        rw[rF,List.getElem?_map] at hz
        obtain⟨q,h8,h9⟩:=Option.map_eq_some_iff.1 hz
        exact⟨q,h9.symm,h8⟩
      have hR1:=h1.more (fun id hid=>(wE.st id hid).1)
      have hF1:=h2.more (fun id hid=>(wE.st id hid).1)
      refine KW.build U U U U U (built_Matrix2 _ _) ?_
      refine KW.lpM U U (fun s:CpS=>[(1,.pointer (some ⟨H.n,0,some 0⟩)),(2,.pointer (some ⟨H.n+1,0,some 1⟩)),(4,.int .i64 L.length),(5,.pointer (some ⟨n9,0,some 2⟩)),(9,.pointer (some ⟨HE.n,0,some 4⟩)),(10,.slice a2 F.length c2),(11,.pointer (some ⟨HE.n+1,0,some 5⟩)),(62,.slice a1 R.length c1),(63,.int .i64 R.length),(64,.int .i64 s.i)]) (fun s=>s.S) (fun s=>s.A) (fun s=>[(H.n,⟨26,true,[.int .i64 p,.int .i64 L.length,.slice a L.length c]⟩),(H.n+1,⟨26,true,[.int .i64 0,.int .i64 0,.slice none 0 0]⟩),(n9,⟨26,true,[.int .i64 p,.int .i64 (2*L.length:Nat),.slice (some ⟨o,0,some 1⟩) L.length L.length]⟩),(o,⟨36,true,cs⟩),(HE.n,⟨26,true,[.int .i64 p,.int .i64 (2*L.length:Nat),.slice a1 R.length c1]⟩),(HE.n+1,⟨26,true,[.int .i64 p,.int .i64 L.length,s.l]⟩)]++s.tail) (fun s=>CqI (ivR p L) (List.range R.length) H HE SE s∧∀j,j<s.i→(ivE p L).2[j]?=some j) (fun s=>R.length-s.i) (⟨0,SE,HE,fun _=>False,[],.slice none 0 0,[]⟩) (⟨⟨RwI.start,.inl ⟨rfl,rfl,rfl,rfl⟩⟩,fun j h=>absurd h (Nat.not_lt_zero j)⟩) ⟨rfl,rfl,rfl,rfl,rfl,rfl,rfl,rfl,rfl,rfl,trivial⟩ U U (rfl) (fun s hi bE n=>?_)
      obtain⟨i,S2,A2,V2,cs2,l2,tail2⟩:=s
      obtain⟨⟨hq2,hform2⟩,hpv⟩:=hi
      simp only at hq2 hform2 hpv
      haveI:Stp SE HE S2 A2:=⟨hq2.old⟩
      have hle2:=hq2.le
      have hcl2:=hq2.b.len
      rw[List.length_map,List.length_take] at hcl2
      simp only[List.length_range] at hle2 hcl2
      have hR2:=hR1.up (S':=S2) (H':=A2)
      have hF2:=hF1.up (S':=S2) (H':=A2)
      rcases hform2 with⟨hj0,e1,e2,e3⟩ | ⟨hj0,o2,e1,e2⟩
      case' inl=>subst e1 e2 e3
      case' inr=>subst e1 e2
      all_goals
        refine KW.cnd U U (fun j1=>?gin) (fun j1=>?gout)
        case gin=>
          have j1:(i:Int)<R.length:=j1
          refine KW.getL hR2 U U U U U U U U U U U U U U U U (by omega) (j1) (fun y ay cy hy hsy=>?_)
          have hy:R[i]?=some y:=hy
          obtain⟨hy1,hyl⟩:=hRr i y hy
          refine KW.getI hF2 U U U U U U U U U U U U U U U U (by omega) (by omega) (fun z hz=>?_)
          have hz:F[i]?=some z:=hz
          obtain⟨zq,rfl,hzq⟩:=hFj i z hz
          refine KW.cndB U U (fun k4=>?_) (fun k4=>?_)
          · have k4:zq≠i:=by simp at k4;omega
            refine KW.build U U U U U (built_Matrix0) ?_
            refine KW.retM1 U U U U (fun H1 g=>.inl ⟨fun ho9=>by have:=ho9 i (by omega);rw[hzq] at this;exact k4 (Option.some.inj this),rfl⟩)
          · have k4:zq=i:=by simp at k4;omega
            refine KW.slFromG (m:=L.length) hsy (by omega) (by omega) U U U U U U U U U (fun a' c' hs'=>?_)
            refine KW.ids (fun hlow hvar=>?_)
            have hnA:=(hvar 1 (H.n+1) _ rfl).1
            refine KW.callN1 U U U U U (cloneI (by rw[List.length_drop];omega) (hs' _ _ hsy)) (fun v HC SC mC _ _ hv=>?_)
            obtain⟨a5,c5,rfl,hC⟩:=hv
            have eR:y.drop L.length=ivR p L i:=by unfold ivR;rw[List.getD_eq_getElem?_getD,hy1];rfl
            rw[eR] at hC ⊢
            have hpv2:∀j,j<i+1→(ivE p L).2[j]?=some j:=fun j hj=>by
              rcases Nat.lt_or_ge j i with h9 | h9
              · exact hpv j h9
              · obtain rfl:j=i:=by omega
                rw[hzq,k4]
            first
              | (refine KW.app0 (v:=.slice a5 (ivR p L i).length c5) 6 U U U U U U U U U U U U U U U U U U U U U U (by decide) ?_
                 subst hj0
                 exact KW.nxt U U (fun H' g=>⟨⟨1,SC,HC,_,_,_,_⟩,⟨⟨hq2.next (o':=0) (inferInstance:Stp S2 A2 SC HC).st inferInstance hlow (by omega) (show(List.range R.length)[0]?=some 0 from range_at (by omega)) hC,.inr ⟨by simp only;omega,_,rfl,rfl⟩⟩,hpv2⟩,by simp only;omega,⟨rfl,rfl,rfl,rfl,rfl,rfl,rfl,rfl,rfl,rfl,trivial⟩,g⟩))
              | (refine KW.app1 (xs:=cs2) (v:=.slice a5 (ivR p L i).length c5) 6 7 U U U U U U U U U U U U U U U U U U U U U U U (by omega) (by show(_+1)*24≤_;omega) (by omega) ?_
                 exact KW.nxt U U (fun H' g=>⟨⟨i+1,SC,HC,_,_,_,_⟩,⟨⟨hq2.next (o':=0) (inferInstance:Stp S2 A2 SC HC).st inferInstance hlow (by omega) (show(List.range R.length)[i]?=some i from range_at (by omega)) hC,.inr ⟨by simp only;omega,_,rfl,rfl⟩⟩,hpv2⟩,by simp only;omega,⟨rfl,rfl,rfl,rfl,rfl,rfl,rfl,rfl,rfl,congrArg (Value.int .i64) (inc64 (by omega)),trivial⟩,g⟩))
        case gout=>
          have j1:¬(i:Int)<R.length:=j1
          have he:i=R.length:=by omega
          have el:((List.range (ivE p L).2.length).map (ivR p L)).length=R.length:=by simp[hRl]
          refine KW.retM1 U U U U (fun H1 g=>?_)
          refine .inr ⟨fun j hj=>hpv j (by omega),?_⟩
          first
            | (have h0:(ivE p L).2.length=0:=by omega
               rw[h0]
               exact⟨_,rfl,none,0,rfl,.inl ⟨rfl,_,_,rfl,fun _=>rfl⟩⟩)
            | (refine⟨_,rfl,some ⟨o2,0,some 1⟩,R.length,by rw[el,he];rfl,?_⟩
               have hm:=((⟨hq2.le,hq2.old,hq2.b,hq2.v⟩:RwI (ivR p L) (List.range R.length) H SE HE ⟨i,S2,A2,V2,cs2,o2⟩).ml (by rw[List.length_range];exact he) g (j:=6) rfl (g.ge (H1:=H) (j:=6) rfl)).to (KLe.row (KLe.refl KI))
               rw[List.length_range] at hm
               rw[el,← hRl]
               exact hm)
end
theorem sumI_front {f:Nat→Int}:∀n,sumI f (n+1)=f 0+sumI (fun i=>f (i+1)) n
 | 0=>by simp[sumI]
 | n+1=>by
  have ih:=sumI_front (f:=f) n
  simp only[sumI] at ih ⊢
  omega
theorem lcS_sum {j:Nat}:∀(L:List (List Int)) (cs:List Int),cs.length=L.length→lcS L cs j=sumI (fun k=>cs.getD k 0*(L.getD k []).getD j 0) L.length
 | [],[],_=>rfl
 | r :: L,c :: cs,h=>by
  have ih:=lcS_sum (j:=j) L cs (by simpa using h)
  simp only[lcS,List.length_cons]
  rw[sumI_front,ih]
  rfl
 | [],_ :: _,h=>by simp at h
 | _ :: _,[],h=>by simp at h
theorem dotN_sum {a b:List Int}:∀n,dotN a b n=sumI (fun k=>a.getD k 0*b.getD k 0) n
 | 0=>rfl
 | n+1=>by simp only[dotN,sumI,dotN_sum n]
theorem sumI_cg {p:Int} {f g:Nat→Int}:∀n,(∀i,i<n→Cg p (f i) (g i))→Cg p (sumI f n) (sumI g n)
 | 0,_=>Cg.rfl'
 | n+1,h=>by
  simp only[sumI]
  exact(sumI_cg n fun i hi=>h i (by omega)).add (h n (by omega))
theorem prodL_at {p:Int} {n i q:Nat} {L M:List (List Int)} (hL:Rect p n L) (hi:i<L.length) (hM:M.length=n) (hq:q<n):∃r,(prodL p L (trL M n))[i]?=some r∧r.length=n∧r[q]?=some (mulM n (listM L) (listM M) i q%p):=by
 have e:L[i]?=some L[i]:=List.getElem?_eq_getElem hi
 refine⟨_,by unfold prodL;rw[List.getElem?_map,e];rfl,by simp[trL_len],?_⟩
 have ht:(trL M n)[q]?=some (colL M q):=by unfold trL;rw[List.getElem?_map,List.getElem?_range hq];rfl
 rw[List.getElem?_map,ht,Option.map_some]
 congr 1
 unfold dotS
 rw[(hL _ (List.getElem_mem hi)).1,dotN_sum]
 congr 1
 unfold mulM
 refine sumI_congr _ fun k hk=>?_
 rw[listM_at e]
 congr 1
 unfold colL listM
 rw[List.getD_eq_getElem?_getD,List.getElem?_map,List.getD_eq_getElem?_getD (l:=M),List.getElem?_eq_getElem (by omega)]
 rfl
theorem wdL_take {p:Int} {L:List (List Int)} (hL:Rect p L.length L):(wdL L).map (List.take L.length)=L:=by
 refine List.ext_getElem? fun i=>?_
 unfold wdL
 rw[List.map_map,List.getElem?_map]
 rcases Nat.lt_or_ge i L.length with h | h
 ·rw[List.getElem?_range h,Option.map_some,List.getElem?_eq_getElem h]
  congr 1
  show(wdR L i).take L.length=_
  unfold wdR
  rw[List.getD_eq_getElem?_getD,List.getElem?_eq_getElem h]
  show(L[i]++unR L.length i).take L.length=L[i]
  rw[List.take_append_of_le_length (by rw[(hL _ (List.getElem_mem h)).1];exact Nat.le_refl _),List.take_of_length_le (by rw[(hL _ (List.getElem_mem h)).1];exact Nat.le_refl _)]
 ·rw[List.getElem?_eq_none (by simp;omega),List.getElem?_eq_none h];rfl
theorem wdR_get {L:List (List Int)} {p:Int} (hL:Rect p L.length L) {i:Nat} (hi:i<L.length):(∀j,j<L.length→(wdR L i).getD j 0=listM L i j)∧∀q,q<L.length→(wdR L i).getD (L.length+q) 0=unitM i q:=by
 have e:L.getD i []=L[i]:=by rw[List.getD_eq_getElem?_getD,List.getElem?_eq_getElem hi];rfl
 have hl:=(hL _ (List.getElem_mem hi)).1
 unfold wdR listM
 rw[e]
 refine⟨fun j hj=>?_,fun q hq=>?_⟩
 ·rw[List.getD_eq_getElem?_getD,List.getElem?_append_left (by omega),← List.getD_eq_getElem?_getD]
 ·rw[List.getD_eq_getElem?_getD,List.getElem?_append_right (by omega),show L.length+q-L[i].length=q by omega]
  unfold unR unitM
  rw[List.getElem?_set]
  by_cases h:i=q
  ·rw[if_pos h,if_pos (by simp;omega),if_pos h];rfl
  ·rw[if_neg h,if_neg h,List.getElem?_replicate,if_pos hq];rfl
theorem ech_full {p:Int} {W:List (List Int)} {c:Nat} (hl:(ech p W c).2.length=(ech p W c).1.length):∀d,ech p W (c+d)=ech p W c
 | 0=>rfl
 | d+1=>by
  have ih:=ech_full hl d
  rw[show c+(d+1)=c+d+1 by omega,ech_none,ih]
  rw[ih]
  rw[nz_end (by omega),hl]
section
variable {p:Int} {L:List (List Int)}
theorem wd_pivots (hf:Fer p) (hL:Rect p L.length L):(ech p (wdL L) L.length).2=(ech p L L.length).2:=by
 have h:=ech_take (k:=L.length) hf (wdL_rect hf.1 hL) L.length (Nat.le_refl _)
 rw[wdL_take hL] at h
 rw[h]
theorem iv_key (hf:Fer p) (hL:Rect p L.length L) (h:ivOk p L):∀i,i<L.length→∀q,q<L.length→Cg p (mulM L.length (listM L) (fun k q=>listM (ivE p L).1 k (L.length+q)) i q) (unitM i q):=fun i hi q hq=>by
 have hW:=wdL_rect hf.1 hL
 have sh:=ech_shape hf hW (2*L.length)
 have hok:=ech_ok (p:=p) (by have:=hf.1;omega) hW (2*L.length)
 have hwl:(wdL L).length=L.length:=by simp[wdL]
 have hEl:(ivE p L).1.length=L.length:=hok.2.1.trans hwl
 have hwi:wdR L i∈wdL L:=List.mem_map.2 ⟨i,List.mem_range.2 hi,rfl⟩
 obtain⟨cs,c1,c2⟩:=ech_rows hf hW (2*L.length) _ hwi
 obtain⟨g1,g2⟩:=wdR_get hL hi
 have c3:∀j,Cg p (sumI (fun k=>cs.getD k 0*listM (ivE p L).1 k j) L.length) ((wdR L i).getD j 0):=fun j=>by
  have:=c2 j
  rw[lcS_sum _ _ c1] at this
  rw[show(ech p (wdL L) (2*L.length)).1.length=L.length from hEl] at this
  exact this
 have hm:(ivE p L).2.length≤L.length:=by have:=hok.2.2.1;have:(ivE p L).2.length≤(ivE p L).1.length:=sh.le;omega
 have row:∀k,k<L.length→∃r,(ivE p L).1[k]?=some r:=fun k hk=>⟨_,List.getElem?_eq_getElem (by omega)⟩
 have hz:∀k,(ivE p L).2.length≤k→k<L.length→∀j,j<2*L.length→listM (ivE p L).1 k j=0:=fun k h1 h2 j hj=>by
  obtain⟨r,hr⟩:=row k h2
  rw[listM_at hr]
  exact sh.zero k r h1 hr j hj
 have hc:∀k,k<(ivE p L).2.length→Cg p (cs.getD k 0) (listM L i k):=fun k hk=>by
  have h3:=c3 k
  rw[g1 k (by omega)] at h3
  refine Cg.trans ?_ h3
  rw[sumI_one (r:=k) (fun k' hk'=>?_) L.length (by omega)]
  ·obtain⟨r,hr⟩:=row k (by omega)
   rw[listM_at hr]
   show Cg p (cs.getD k 0) (cs.getD k 0*r.getD k 0)
   rw[(sh.piv k k r (h k hk) hr).2.1]
   exact⟨0,by simp⟩
  ·rcases Nat.lt_or_ge k' L.length with h9 | h9
   ·obtain⟨r,hr⟩:=row k' h9
    rw[listM_at hr]
    show cs.getD k' 0*r.getD k 0=0
    rw[sh.red k k k' r (h k hk) hk' hr]
    simp
   ·have:listM (ivE p L).1 k'=fun _=>0:=by funext j;unfold listM;rw[List.getD_eq_getElem?_getD (l:=(ivE p L).1),List.getElem?_eq_none (by omega)];rfl
    rw[this];simp
 have h4:=c3 (L.length+q)
 rw[g2 q hq] at h4
 refine Cg.trans ?_ h4
 unfold mulM
 refine sumI_cg _ fun k hk=>?_
 rcases Nat.lt_or_ge k (ivE p L).2.length with h9 | h9
 ·exact(hc k h9).symm.mul Cg.rfl'
 ·simp only[hz k h9 hk (L.length+q) (by omega)]
  exact⟨0,by simp⟩
theorem iv_yes (hf:Fer p) (hL:Rect p L.length L) (h:(ech p L L.length).2.length=L.length):ivOk p L∧(ivE p L).2.length=L.length:=by
 have hW:=wdL_rect hf.1 hL
 have hok:=ech_ok (p:=p) (by have:=hf.1;omega) hW L.length
 have hwl:(wdL L).length=L.length:=by simp[wdL]
 have e1:=wd_pivots hf hL
 have e2:=ech_full (p:=p) (W:=wdL L) (c:=L.length) (by rw[hok.2.1,hwl,e1,h]) L.length
 have e3:ivE p L=ech p (wdL L) L.length:=by unfold ivE;rw[show 2*L.length=L.length+L.length by omega];exact e2
 have e4:=ech_range hf hL _ h
 rw[← e1,← e3] at e4
 refine⟨fun i hi=>?_,by rw[e4,List.length_range]⟩
 rw[e4,List.length_range] at hi
 rw[e4,List.getElem?_range hi]
theorem one_not {p:Int} (hp:2≤p) (h:Cg p 0 1):False:=by
 obtain⟨k,hk⟩:=h
 have h1:p*(-k)=1:=by have:p*(-k)=-(p*k):=Int.mul_neg _ _;omega
 have h2:=Int.emod_emod_of_dvd 1 (⟨-k,h1.symm⟩:p ∣ 1)
 have h3:p ∣ 1:=⟨-k,h1.symm⟩
 have:=Int.le_of_dvd (by decide) h3
 omega
theorem iv_det (hf:Fer p) (hL:Rect p L.length L) (h:ivOk p L):¬Cg p (det L.length (listM L)) 0:=fun h0=>by
 have h1:=det_mul hf hL (fun k q=>listM (ivE p L).1 k (L.length+q))
 have h2:=(detF L.length).modp (M:=mulM L.length (listM L) (fun k q=>listM (ivE p L).1 k (L.length+q))) (N:=unitM) (iv_key hf hL h)
 rw[det_unit] at h2
 refine one_not hf.1 ?_
 have h3:Cg p (det L.length (listM L)*det L.length (fun k q=>listM (ivE p L).1 k (L.length+q))) 0:=(h0.mul Cg.rfl').trans ⟨0,by simp⟩
 exact(h3.symm.trans h1.symm).trans h2
theorem iv_all (hf:Fer p) (hL:Rect p L.length L):((ech p L L.length).2.length=L.length∧ivOk p L∧(ivE p L).2.length=L.length∧dVal p L≠0)∨((ech p L L.length).2.length≠L.length∧¬ivOk p L∧dVal p L=0):=by
 have hd:=dVal_det hf hL
 by_cases h:(ech p L L.length).2.length=L.length
 ·obtain⟨h1,h2⟩:=iv_yes hf hL h
  refine .inl ⟨h,h1,h2,fun h0=>iv_det hf hL h1 ?_⟩
  have:=hd.2
  rw[h0] at this
  exact this.symm
 ·have hle:=(ech_ok (p:=p) (by have:=hf.1;omega) hL L.length).2.2.2
  have h0:=det_low hf hL (by omega) _ (detF L.length)
  refine .inr ⟨h,fun h1=>iv_det hf hL h1 h0,?_⟩
  exact(hd.2.trans h0).eq hd.1 ⟨by omega,by have:=hf.1;omega⟩
theorem prod_rect (hp:0<p) {M:List (List Int)} {n:Nat}:Rect p n (prodL p L (trL M n)):=fun r hr=>by
 obtain⟨w,hw,rfl⟩:=List.mem_map.1 hr
 refine⟨by simp[trL_len],fun x hx=>?_⟩
 obtain⟨c,hc,rfl⟩:=List.mem_map.1 hx
 unfold dotS
 exact⟨Int.emod_nonneg _ (by omega),Int.emod_lt_of_pos _ hp⟩
theorem prod_det (hf:Fer p) (hL:Rect p L.length L) {M:List (List Int)} (hMl:M.length=L.length) (hM:Rect p L.length M):dVal p (prodL p L (trL M L.length))=dVal p L*dVal p M%p:=by
 have hp0:0<p:=by have:=hf.1;omega
 have hl:(prodL p L (trL M L.length)).length=L.length:=by simp[prodL]
 have d1:=dVal_det hf hL
 have d2:=dVal_det (L:=M) hf (by rw[hMl];exact hM)
 have d3:=dVal_det (L:=prodL p L (trL M L.length)) hf (by rw[hl];exact prod_rect hp0)
 rw[hMl] at d2
 rw[hl] at d3
 have h1:=det_mul hf hL (listM M)
 have h2:=(detF L.length).modp (p:=p) (M:=listM (prodL p L (trL M L.length))) (N:=mulM L.length (listM L) (listM M)) fun i hi q hq=>by
  obtain⟨r,r1,r2,r3⟩:=prodL_at (p:=p) hL hi hMl hq
  rw[listM_at r1]
  show Cg p (r.getD q 0) _
  rw[List.getD_eq_getElem?_getD,r3]
  exact Cg.mod
 have h3:Cg p (dVal p (prodL p L (trL M L.length))) (dVal p L*dVal p M%p):=(d3.2.trans (h2.trans (h1.trans (d1.2.mul d2.2).symm))).trans Cg.mod.symm
 exact h3.eq d3.1 ⟨Int.emod_nonneg _ (by omega),Int.emod_lt_of_pos _ hp0⟩
def ivL (p:Int) (L:List (List Int)):List (List Int):=(List.range (ivE p L).2.length).map (ivR p L)
theorem ivL_rect (hf:Fer p) (hL:Rect p L.length L):Rect p L.length (ivL p L):=fun r hr=>by
 obtain⟨i,hi,rfl⟩:=List.mem_map.1 hr
 have hW:=wdL_rect hf.1 hL
 have hok:=ech_ok (p:=p) (by have:=hf.1;omega) hW (2*L.length)
 have sh:=ech_shape hf hW (2*L.length)
 have hi:=List.mem_range.1 hi
 have hl:(ivE p L).2.length≤(ivE p L).1.length:=sh.le
 have e:(ivE p L).1.getD i []=(ivE p L).1[i]:=by rw[List.getD_eq_getElem?_getD,List.getElem?_eq_getElem (by omega)];rfl
 have h:=hok.1 _ (List.getElem_mem (show i<(ivE p L).1.length by omega))
 unfold ivR
 rw[e]
 exact⟨by rw[List.length_drop,show((ivE p L).1[i]).length=_ from h.1];omega,fun x hx=>h.2 x (List.mem_of_mem_drop hx)⟩
theorem ivL_unit (hf:Fer p) (hL:Rect p L.length L) (h:ivOk p L) (hl:(ivE p L).2.length=L.length) {i q:Nat} (hi:i<L.length) (hq:q<L.length):∃r,(prodL p L (trL (ivL p L) L.length))[i]?=some r∧r.length=L.length∧r[q]?=some (if i=q then 1 else 0):=by
 have hll:(ivL p L).length=L.length:=by simp[ivL,hl]
 obtain⟨r,r1,r2,r3⟩:=prodL_at (p:=p) hL hi hll hq
 refine⟨r,r1,r2,?_⟩
 rw[r3]
 congr 1
 have h1:=iv_key hf hL h i hi q hq
 have e:mulM L.length (listM L) (listM (ivL p L)) i q=mulM L.length (listM L) (fun k q=>listM (ivE p L).1 k (L.length+q)) i q:=by
  unfold mulM
  refine sumI_congr _ fun k hk=>?_
  congr 1
  have ek:(ivL p L)[k]?=some (ivR p L k):=by unfold ivL;rw[List.getElem?_map,List.getElem?_range (by omega)];rfl
  rw[listM_at ek]
  unfold ivR listM
  show(((ivE p L).1.getD k []).drop L.length).getD q 0=_
  rw[List.getD_eq_getElem?_getD,List.getElem?_drop,← List.getD_eq_getElem?_getD]
 rw[e]
 have h2:=(Cg.mod.trans h1)
 have hp:=hf.1
 refine h2.eq ⟨Int.emod_nonneg _ (by omega),Int.emod_lt_of_pos _ (by omega)⟩ ?_
 unfold unitM
 split<;>omega
end
def kr (E:List (List Int)) (P:List Nat) (p:Int) (k c:Nat):Nat→List Int
 | 0=>(List.replicate k 0).set c 1
 | n+1=>(kr E P p k c n).set (P.getD n 0) ((p-(E.getD n []).getD c 0)%p)
def kerL (E:List (List Int)) (P:List Nat) (p:Int) (k:Nat):Nat→List (List Int)
 | 0=>[]
 | c+1=>if c∈P then kerL E P p k c else kerL E P p k c++[kr E P p k c P.length]
structure KlS where
 c:Nat
 S:Ids
 A:AH
 V:Ids
 cs:List Value
 l:Value
 tail:List Var
structure KlI (E:List (List Int)) (P:List Nat) (p:Int) (k:Nat) (H:AH) (SB:Ids) (HB:AH) (s:KlS):Prop where
 le:s.c≤k
 old:St SB HB s.S s.A
 b:RowsB KI.ml s.S s.A s.V (kerL E P p k s.c) s.cs
 v:∀i,s.V i→H.n≤i
 form:(kerL E P p k s.c=[]∧s.l=.slice none 0 0∧s.tail=[]∧s.cs=[])∨(∃o,s.l=.slice (some ⟨o,0,some 1⟩) (kerL E P p k s.c).length (kerL E P p k s.c).length∧s.tail=[(o,⟨36,true,s.cs⟩)]∧H.n≤o)
theorem KlI.skip {E:List (List Int)} {P:List Nat} {p:Int} {k c:Nat} {H HB A:AH} {SB S V:Ids} {cs:List Value} {l:Value} {tail:List Var} (h:KlI E P p k H SB HB ⟨c,S,A,V,cs,l,tail⟩) (hc:c+1≤k) (eN:kerL E P p k (c+1)=kerL E P p k c):KlI E P p k H SB HB ⟨c+1,S,A,V,cs,l,tail⟩:=by
 obtain⟨h1,h2,h3,h4,h5⟩:=h
 refine⟨hc,h2,?_,h4,?_⟩
 ·show RowsB KI.ml S A V (kerL E P p k (c+1)) cs
  rw[eN];exact h3
 ·show(kerL E P p k (c+1)=[]∧_)∨_
  rw[eN];exact h5
section
variable {S:Ids} {H0:AH}
end

structure KOk (p:Int) (k:Nat) (E:List (List Int)) (P:List Nat):Prop where
 z:∀c i,i<P.length→c<P.getD i 0→(E.getD i []).getD c 0=0
 lt:∀q∈P,q<k
 el:∀i,i<P.length→∀c,0≤(E.getD i []).getD c 0∧(E.getD i []).getD c 0<p
section
variable {S:Ids} {H0:AH}
theorem prL_prime {p:Int} (h:p∈prL):PrimeP p:=by
 unfold prL at h
 simp only[List.mem_cons,List.not_mem_nil,or_false] at h
 have k2:∀d:Nat,d<31→2≤d→(d:Int)<2→¬(2:Int)%d=0:=by decide
 have k3:∀d:Nat,d<31→2≤d→(d:Int)<3→¬(3:Int)%d=0:=by decide
 have k5:∀d:Nat,d<31→2≤d→(d:Int)<5→¬(5:Int)%d=0:=by decide
 have k7:∀d:Nat,d<31→2≤d→(d:Int)<7→¬(7:Int)%d=0:=by decide
 have k11:∀d:Nat,d<31→2≤d→(d:Int)<11→¬(11:Int)%d=0:=by decide
 have k13:∀d:Nat,d<31→2≤d→(d:Int)<13→¬(13:Int)%d=0:=by decide
 have k17:∀d:Nat,d<31→2≤d→(d:Int)<17→¬(17:Int)%d=0:=by decide
 have k31:∀d:Nat,d<31→2≤d→(d:Int)<31→¬(31:Int)%d=0:=by decide
 rcases h with rfl | rfl | rfl | rfl | rfl | rfl | rfl | rfl | rfl | rfl | rfl | rfl<;>refine⟨by omega,by omega,fun d h1 h2=>?_⟩
 ·exact k2 d (by omega) h1 h2
 ·exact k2 d (by omega) h1 h2
 ·exact k3 d (by omega) h1 h2
 ·exact k3 d (by omega) h1 h2
 ·exact k5 d (by omega) h1 h2
 ·exact k5 d (by omega) h1 h2
 ·exact k7 d (by omega) h1 h2
 ·exact k7 d (by omega) h1 h2
 ·exact k11 d (by omega) h1 h2
 ·exact k13 d (by omega) h1 h2
 ·exact k17 d (by omega) h1 h2
 ·exact k31 d (by omega) h1 h2
theorem okMat_of {p:Int} (hp:PrimeP p) {k:Nat} (hk:k≤6) {L:List (List Int)} (hl:L.length≤6) (hL:Rect p k L):OkMat p k L:=
 ⟨hp,by omega,by omega,by omega,fun r hr=>⟨by rw[(hL r hr).1],fun x hx=>by have:=(hL r hr).2 x hx;omega⟩⟩
end
end Go.Proofs.Ytlapbbffoapleaa.Am
namespace Go.Proofs.Ytlapbbffoapleaa.Am
open Go Go.RowKit Go.Proofs
abbrev W_B (x:List Int):Prop:=x.length≤9223372036854775807∧∀y∈x,0≤y∧y<256
abbrev K_B:Kn (List Int):=KB.sl
section
variable {S:Ids} {H0:AH}
theorem a2Long {p0 p1:Option Addr} {n0 n1 q0 q1:Nat}:Spec Try.prog S H0 9 [.slice p0 n0 q0,.slice p1 n1 q1] (fun v=>∃b:Bool,v=.bool b∧(b=false→n0≤3000∧n1≤3000)):=by
 refine Spec.of1 Try.func9 rfl (by kernel_rfl) rfl (fun H _=>?_)
 refine KW.tst U U (fun h=>?_) (fun h=>?_)
 ·refine KW.ret U U U U ?_
  exact⟨_,rfl,fun h2=>by cases h2⟩
 ·have h:¬(n0:Int)>3000:=h
  refine KW.ret U U U U ?_
  exact⟨_,rfl,fun h2=>by have h2:decide ((n1:Int)>3000)=false:=h2;simp at h2;omega⟩
end
section
variable {S:Ids} {H0:AH}
end
section
variable {S:Ids} {H0:AH}
end
end Go.Proofs.Ytlapbbffoapleaa.Am
namespace Go.Proofs.Ytlapbbffoapleaa.Am
open Go Go.RowKit Go.Proofs Go.Proofs.Ytlapbbffoapleaa.Pl
section
variable {S:Ids} {H0:AH}
theorem a2At {bs:List Int} (hb:∀x∈bs,0≤x∧x<256) {a:Option Addr} {cc:Nat} {at_ n:Int} (hat:0≤at_) (hn:1≤n∧n≤1000000) (hs:KB.Sl S H0 (.slice a bs.length cc) bs):Spec Try.prog S H0 11 [.slice a bs.length cc,.int .i64 at_,.int .i64 n] (fun v=>∃r:Int,v=.int .i64 r∧0≤r∧r<n):=by
 refine Spec.of1 Try.func11 rfl (by kernel_rfl) rfl (fun H _=>?_)
 refine KW.tst U U (fun k1=>?_) (fun k1=>?_)
 ·refine KW.cT U U (by first | (simp;done) | decide) ?_
  exact KW.ret U U U U (⟨0,rfl,Int.le_refl _,by omega⟩)
 ·have k1:¬at_≥(bs.length:Int):=k1
  refine KW.no U U (by omega) ?_
  refine KW.getI hs.up U U U U U U U U U U U U U U U U (by omega) (by omega) (fun y hy=>?_)
  have hyb:=hb y (List.mem_of_getElem? hy)
  have ey:IntKind.i64.wrap y=y:=wr (by omega) (by omega)
  refine KW.rem U U U U U U (by rw[ey];omega) (by omega) ?_
  exact KW.ret U U U U (⟨_,rfl,by rw[ey];exact Int.emod_nonneg _ (by omega),by rw[ey];exact Int.emod_lt_of_pos _ (by omega)⟩)
end
section
variable {S:Ids} {H0:AH}
theorem rankI {p:Int} {k:Nat} (hk:k≤6) {L:List (List Int)} (hB:B_Int64SS L) (hM:OkMat p k L) {a m} (hs:KI.sl.Sl S H0 (.slice a L.length m) L):SpecM Try.prog S H0 15 [.agg #[.int .i64 p,.int .i64 k,.slice a L.length m]] (fun _ v _=>v=.tuple #[.int .i64 ((ech p L k).2.length:Nat),.int .i64 0]):=by
 have hp:I64 p:=⟨by have:=hM.pr.1;omega,by have:=hM.pr.2.1;omega⟩
 have h:=impl_RankOf' (S:=S) (H0:=H0) (p:=p) (c:=(k:Int)) hp hB hs
 simp only[tv_true hM,if_true,rkM,Int.toNat_natCast] at h
 exact h
theorem lawInverse {ar0 ar1:List Int} {p0 p1:Option Addr} {q0 q1:Nat} (hW0:W_B ar0) (h0:K_B.R S H0 ar0 [.slice p0 ar0.length q0]) (hW1:W_B ar1) (h1:K_B.R S H0 ar1 [.slice p1 ar1.length q1]):Spec Try.prog S H0 3 [.slice p0 ar0.length q0,.slice p1 ar1.length q1] (fun v=>v=.bool true):=by
 have s0:=sl1 h0
 have s1:=sl1 h1
 refine Spec.of1 Try.func3 rfl (by kernel_rfl) rfl (fun H _=>?_)
 refine KW.call U U U U U (a2Long) (fun v _ _ hv=>?_)
 obtain⟨b,rfl,hb⟩:=hv
 cases b with
 | true=>
  refine KW.cT U U (by first | (simp;done) | decide) ?_
  exact KW.ret U U U U (rfl)
 | false=>
 have hb:=hb rfl
 refine KW.cF U U (by first | (simp;done) | decide) ?_
 refine KW.callN1 U U U U U (a2Matrix hW0.2 (by omega) s0.up) (fun v HM SM mM _ _ hv=>?_)
 obtain⟨p,k0,L0,hpm,hk0,hl0,hL0,a0,m0,rfl,hml0⟩:=hv
 have hpp:=prL_prime hpm
 have hf:=fer hpp
 have hp2:=prL_in hpm
 refine KW.call U U U U U (a2At hW1.2 (by omega) (by omega) s1.up) (fun v _ _ hv=>?_)
 obtain⟨n',rfl,hn'⟩:=hv
 obtain⟨dm,rfl⟩:∃dm:Nat,n'=dm:=⟨n'.toNat,by omega⟩
 refine KW.callN1 U U U U U (a2MatrixOf (r:=dm) (k:=dm) hp2 (by omega) (by omega) hW0.2 (by omega) s0.up) (fun v HA SA mA _ _ hv=>?_)
 obtain⟨L,hLl,hL,a2,m2,rfl,hmA⟩:=hv
 refine KW.callN1 U U U U U (a2MatrixOf (r:=dm) (k:=dm) hp2 (by omega) (by omega) hW1.2 (by omega) s1.up) (fun v HB SB mB _ _ hv=>?_)
 obtain⟨M,hMl,hM,a3,m3,rfl,hmB⟩:=hv
 have okL:=okMat_of hpp (by omega) (by omega) hL
 have okM:=okMat_of hpp (by omega) (by omega) hM
 have bL:B_Int64SS L:=rect_sml hL (by omega) (by omega)
 have bM:B_Int64SS M:=rect_sml hM (by omega) (by omega)
 refine KW.callN1 U U U U U (inverseOf bL okL hLl hmA.upS) (fun v HI SI mI _ _ hv=>?_)
 obtain hv:=hv
 have hall:=iv_all hf (show Rect p L.length L by rw[hLl];exact hL)
 rw[hLl] at hall
 have wI:=(inferInstance:On (New (HB.n+1) HI.n) HI SI HI).st
 obtain⟨i1,i2,a9,l9,c9,cd,rfl,hcd⟩:∃(i1 i2:Int) (a9:Option Addr) (l9 c9:Nat) (cd:Int),v=.tuple #[.agg #[.int .i64 i1,.int .i64 i2,.slice a9 l9 c9],.int .i64 cd]∧((cd=4∧¬ivOk p L)∨(cd=0∧ivOk p L∧i1=p∧i2=dm∧l9=(ivL p L).length∧KI.sl.Sl SI HI (.slice a9 l9 c9) (ivL p L))):=by
  rcases hv with⟨h1,h2⟩ | ⟨h1,v',h2,a9,m9,h3,h4⟩
  ·exact⟨0,0,none,0,0,4,h2,.inl ⟨rfl,h1⟩⟩
  ·subst h3
   exact⟨p,dm,a9,_,m9,0,h2,.inr ⟨rfl,h1,rfl,rfl,rfl,Kn.Sl.more (fun id hid=>(wI id hid).1) h4⟩⟩
 refine KW.callN1 U U U U U (determinantOf bL okL hLl hmA.upS) (fun v HD SD mD _ _ hv=>?_)
 obtain rfl:=hv
 refine KW.callN1 U U U U U (rankI (by omega) bL okL hmA.upS) (fun v HR SR mR _ _ hv=>?_)
 obtain rfl:=hv
 refine KW.tF U U (by first | (simp;done) | decide) ?_
 refine KW.tF U U (by first | (simp;done) | decide) ?_
 have x1:(cd==0)=!(dVal p L==0):=by
  rcases hcd with⟨q1,q2⟩ | ⟨q1,q2,_⟩
  ·rcases hall with⟨_,g2,_⟩ | ⟨_,_,g3⟩
   ·exact absurd g2 q2
   ·rw[q1,g3];rfl
  ·rcases hall with⟨_,_,_,g4⟩ | ⟨_,g2,_⟩
   ·rw[q1,beq_eq_false_iff_ne.2 g4];rfl
   ·exact absurd q2 g2
 have x2:(!(dVal p L==0))=((((ech p L dm).2.length:Nat):Int)==(dm:Int)):=by
  rcases hall with⟨g1,_,_,g4⟩ | ⟨g1,_,g3⟩
  ·rw[g1,beq_eq_false_iff_ne.2 g4];simp
  ·rw[g3,beq_eq_false_iff_ne.2 (show(((ech p L dm).2.length:Nat):Int)≠(dm:Int) by omega)];rfl
 refine KW.tF U U (by show(!((cd==0)==(!(dVal p L==0))))=false;rw[x1];simp) ?_
 refine KW.cF U U (by show(!((!(dVal p L==0))==((((ech p L dm).2.length:Nat):Int)==(dm:Int))))=false;rw[x2];simp) ?_
 refine KW.callN1 U U U U U (determinantOf bM okM hMl hmB.upS) (fun v HE SE mE _ _ hv=>?_)
 obtain rfl:=hv
 refine KW.callN1 U U U U U (productOf okL okM hMl bL bM hmA.upS hmB.upS) (fun v HP SP mP _ _ hv=>?_)
 obtain⟨v',rfl,a4,m4,rfl,hmP⟩:=hv
 have hPl:(prodL p L (trL M dm)).length=dm:=by simp[prodL,hLl]
 have hPR:Rect p dm (prodL p L (trL M dm)):=prod_rect (by omega)
 have okP:=okMat_of hpp (by omega) (by omega) hPR
 have bP:B_Int64SS (prodL p L (trL M dm)):=rect_sml hPR (by omega) (by omega)
 refine KW.callN1 U U U U U (determinantOf bP okP hPl hmP.upS) (fun v HQ SQ mQ _ _ hv=>?_)
 obtain rfl:=hv
 have d1:=dVal_det (L:=L) hf (by rw[hLl];exact hL)
 have d2:=dVal_det (L:=M) hf (by rw[hMl];exact hM)
 have hpd:=prod_det (L:=L) (M:=M) hf (by rw[hLl];exact hL) (by omega) (by rw[hLl];exact hM)
 rw[hLl] at hpd
 refine KW.callN1 U U U U U (mulMod hpp d1.1 d2.1) (fun v HU SU mU _ _ hv=>?_)
 obtain rfl:=hv
 refine KW.tF U U (by first | (simp;done) | decide) ?_
 refine KW.tF U U (by first | (simp;done) | decide) ?_
 refine KW.tF U U (by first | (simp;done) | decide) ?_
 refine KW.tF U U (by first | (simp;done) | decide) ?_
 refine KW.cF U U (by show(!(dVal p (prodL p L (trL M dm))==dVal p L*dVal p M%p))=false;rw[hpd];simp) ?_
 refine KW.cndB U U (fun k1=>?_) (fun k1=>?_)
 ·rcases hcd with⟨q1,q2⟩ | ⟨q1,q2⟩
  ·subst q1
   exact KW.retM U U U U (fun id hid=>(inferInstance:On (Low H.n) H SU HU).st id hid) (fun H1 g=>rfl)
  ·subst q1
   simp at k1
 ·rcases hcd with⟨q1,q2⟩ | ⟨q1,q2,rfl,rfl,rfl,hmI⟩
  ·subst q1
   simp at k1
  subst q1
  have hvL:(ivL i1 L).length=dm:=by
   rcases hall with⟨g1,_,g3,_⟩ | ⟨_,g2,_⟩
   ·simp[ivL,g3]
   ·exact absurd q2 g2
  have hLL:Rect i1 L.length L:=by rw[hLl];exact hL
  have hIR:Rect i1 dm (ivL i1 L):=by have:=ivL_rect hf hLL;rw[hLl] at this;exact this
  have okI:=okMat_of hpp (by omega) (by omega) hIR
  have bI:B_Int64SS (ivL i1 L):=rect_sml hIR (by omega) (by omega)
  have hen:(ivE i1 L).2.length=L.length:=by rw[hLl,← hvL];simp[ivL]
  have hun:∀i q,i<dm→q<dm→∃r,(prodL i1 L (trL (ivL i1 L) dm))[i]?=some r∧r.length=dm∧r[q]?=some (if i=q then 1 else 0):=fun i q hi hq=>by
   have:=ivL_unit hf hLL q2 hen (i:=i) (q:=q) (by omega) (by omega)
   rw[hLl] at this
   exact this
  refine KW.callN1 U U U U U (productOf okL okI hvL bL bI hmA.upS (hmI.up (S':=SU) (H':=HU))) (fun v HX SX mX _ _ hv=>?_)
  obtain⟨v',rfl,a5,m5,rfl,hmX⟩:=hv
  generalize hXe:prodL i1 L (trL (ivL i1 L) dm)=X at *
  have hXl:X.length=dm:=by rw[← hXe];simp[prodL,hLl]
  have sX:KI.sl.Sl SX HX (.slice a5 X.length m5) X:=hmX.upS
  refine KW.tF U U (by first | (simp;done) | decide) ?_
  refine KW.cF U U (by show(!((X.length:Int)==(dm:Int)))=false;rw[hXl];simp) ?_
  refine KW.lp U U (fun i:Nat=>[(6,.int .i64 dm),(23,.pointer (some ⟨HX.n,0,some 5⟩)),(25,.int .i64 i)]) (fun i=>i≤dm) (fun i=>dm-i) (0) (Nat.zero_le _) ⟨rfl,rfl,rfl,trivial⟩ (fun i hi bE n=>?_)
  refine KW.cnd U U (fun k2=>?_) (fun k2=>?_)
  ·have k2:(i:Int)<(dm:Int):=k2
   refine KW.lp U U (fun j:Nat=>[(6,.int .i64 dm),(23,.pointer (some ⟨HX.n,0,some 5⟩)),(25,.int .i64 i),(26,.int .i64 j)]) (fun j=>j≤dm) (fun j=>dm-j) (0) (Nat.zero_le _) ⟨rfl,rfl,rfl,rfl,trivial⟩ (fun j hi bE n=>?_)
   refine KW.getL sX U U U U U U U U U U U U U U U U (by omega) (by omega) (fun y ay cy hy hsy=>?_)
   have hy:X[i]?=some y:=hy
   have hyl:y.length=dm:=by
    obtain⟨r,r1,r2,_⟩:=hun i i (by omega) (by omega)
    rw[hy] at r1
    cases r1
    exact r2
   refine KW.cnd U U (fun k3=>?_) (fun k3=>?_)
   ·have k3:(j:Int)<(y.length:Int):=k3
    obtain⟨r,r1,_,r3⟩:=hun i j (by omega) (by omega)
    rw[hy] at r1
    cases r1
    refine KW.getL sX U U U U U U U U U U U U U U U U (by omega) (by omega) (fun y2 ay2 cy2 hy2 hsy2=>?_)
    obtain rfl:y=y2:=by have hy2:X[i]?=some y2:=hy2;rw[hy] at hy2;cases hy2;rfl
    refine KW.getI hsy2 U U U U U U U U U U U U U U U U (by omega) (by omega) (fun z hz=>?_)
    have hz:y[j]?=some z:=hz
    rw[r3] at hz
    by_cases e:i=j
    ·subst e
     rw[if_pos rfl] at hz
     cases hz
     refine KW.tF U U (by simp) ?_
     refine KW.tF U U (by simp) ?_
     refine KW.cF U U (by first | (simp;done) | decide) ?_
     refine KW.nxt U U (fun H' g=>⟨(i+1),(by omega),by first | omega | (simp only;omega),⟨rfl,rfl,rfl,congrArg (Value.int .i64) (inc64 (by omega)),trivial⟩,g⟩)
    ·rw[if_neg e] at hz
     cases hz
     have e':((i:Int)==(j:Int))=false:=beq_eq_false_iff_ne.2 (by omega)
     refine KW.tF U U (by show(!(((0:Int)==1)==((i:Int)==(j:Int))))=false;rw[e'];rfl) ?_
     refine KW.tT U U (by show(!((i:Int)==(j:Int)))=true;rw[e'];rfl) ?_
     refine KW.getL sX U U U U U U U U U U U U U U U U (by omega) (by omega) (fun y3 ay3 cy3 hy3 hsy3=>?_)
     obtain rfl:y=y3:=by have hy3:X[i]?=some y3:=hy3;rw[hy] at hy3;cases hy3;rfl
     refine KW.getI hsy3 U U U U U U U U U U U U U U U U (by omega) (by omega) (fun z2 hz2=>?_)
     have hz2:y[j]?=some z2:=hz2
     rw[r3,if_neg e] at hz2
     cases hz2
     refine KW.cF U U (by first | (simp;done) | decide) ?_
     refine KW.nxt U U (fun H' g=>⟨(j+1),(by omega),by first | omega | (simp only;omega),⟨rfl,rfl,rfl,congrArg (Value.int .i64) (inc64 (by omega)),trivial⟩,g⟩)
   ·have k3:¬(j:Int)<(y.length:Int):=k3
    refine KW.nxt U U (fun H' g=>⟨(i+1),(by omega),by first | omega | (simp only;omega),⟨rfl,rfl,congrArg (Value.int .i64) (inc64 (by omega)),trivial⟩,g⟩)
  ·exact KW.retM U U U U (fun id hid=>(inferInstance:On (Low H.n) H SX HX).st id hid) (fun H1 g=>rfl)
end
end Go.Proofs.Ytlapbbffoapleaa.Am
namespace Go.Proofs.Ytlapbbffoapleaa.Am
open Go
theorem joined_of {P:Program} {f:FuncId} {fn:Func} {s:ChangeSpec} {c:OpenClaim}
  (h0:(c.wf (OpenSpec.ofChange s))=true)
  (h1:(laidOutB P)=true)
  (h2:(mapsRowed P)=true)
  (h3:(fn.params.all (P.readableRec ·))=true)
  (h4:(namedTie P c.named s.vars)=true)
  (h5:((c.stops==[]))=true)
  (h6:((P.stops==[]))=true)
  (h7:((c.knobs==[]))=true)
  (h8:((P.stopKnobs==[]))=true)
  (h9:((c.inPlace==P.inPlace f))=true)
  (h10:((c.unfollowed==P.unfollowed f))=true)
  (h11:((c.recurses==P.recurses f))=true)
  (h12:((c.named==P.varsNamed f))=true)
  (h13:((c.maps==(fn.params.toList++s.plain.varTypes P).any (P.mapsRec ·)))=true)
  (h14:((c.ifaces==(fn.params.toList++s.plain.varTypes P).any (P.ifacesRec ·)))=true)
  (h15:((c.mapsOut==P.mapsAmong fn.resultTypes.toList))=true)
  (h16:((c.loops==(fn.params.toList++s.plain.varTypes P).any (P.loopsFrom ·)))=true)
  (h17:((c.wideKeys==(fn.params.toList++s.plain.varTypes P++fn.resultTypes.toList).any (P.wideKeysFrom ·)))=true)
  (h18:(s.vars.all (P.varReadable ·))=true)
  (h19:(fn.resultTypes.all (fun t=>P.readableRec t&&decide (t<P.types.size)))=true)
  (h20:((c.ifacesOut==fn.resultTypes.toList.any (P.ifacesRec ·)))=true)
  (h21:((c.loopsOut==fn.resultTypes.toList.any (P.loopsFrom ·)))=true)
  (h22:((c.plainKeys==P.plainKeys))=true)
  (h23:(c.shortTexts.isNone)=true)
  (h24:(P.stopsHeard)=true)
  (h25:(P.mayEnter)=true)
  (h26:((c.lifted==P.liftsFinal))=true)
  (h27:((P.make==some c.make))=true)
  (h28:((c.kinds==(if c.domain.isEmpty then [] else fn.params.toList.map fun t=>match P.underlying t with | some (.int k)=>some k | _=>none)))=true)
  (h29:((c.pinned==c.pinnedBy))=true)
  (h30:((c.veiled==(fn.params.toList++s.plain.varTypes P++fn.resultTypes.toList).any (P.veiledRec ·)))=true)
  (h31:(c.veiledFits P fn.params.toList (fn.params.toList++s.plain.varTypes P++fn.resultTypes.toList))=true)
  :joinedFacts P f fn s c=true:=by
 unfold joinedFacts
 simp only[Bool.and_eq_true]
 exact⟨⟨⟨⟨⟨⟨⟨⟨⟨⟨⟨⟨⟨⟨⟨⟨⟨⟨⟨⟨⟨⟨⟨⟨⟨⟨⟨⟨⟨⟨⟨h0,h1⟩,h2⟩,h3⟩,h4⟩,h5⟩,h6⟩,h7⟩,h8⟩,h9⟩,h10⟩,h11⟩,h12⟩,h13⟩,h14⟩,h15⟩,h16⟩,h17⟩,h18⟩,h19⟩,h20⟩,h21⟩,h22⟩,h23⟩,h24⟩,h25⟩,h26⟩,h27⟩,h28⟩,h29⟩,h30⟩,h31⟩
end Go.Proofs.Ytlapbbffoapleaa.Am
