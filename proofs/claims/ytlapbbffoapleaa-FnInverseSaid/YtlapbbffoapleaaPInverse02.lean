/- Contracts and laws on abstract memory, merged. Each holds under its own conditions. -/
import Derived.Test.YtlapbbffoapleaaPInverse01
set_option linter.unusedVariables false
set_option linter.unusedSimpArgs false
set_option maxRecDepth 20000
set_option maxHeartbeats 4000000
namespace Go.Proofs.Ytlapbbffoapleaa.Am
open Go Go.RowKit Go.Proofs
theorem elems_cons {p s:Int} {bl:List Int} (hs:0≤s∧s≤p-1) (hb:Elems p bl):Elems p (s :: bl):=fun x hx=>by
 rcases List.mem_cons.1 hx with rfl | h
 ·exact hs
 ·exact hb x h
section
variable {S:Ids} {H0:AH}
theorem sharesOf (h p c s:Int) {a1 c1 a2 c2 a3 c3} {ow bl:List Int} {rows:List (List Int)} (hO:B_Int64S ow) (hB:B_Int64SS rows) (hk:OkSch h ow p c rows) (hs:0≤s∧s≤p-1) (hbl:(bl.length:Int)=c-1) (hbe:Elems p bl)
  (h1:KI.Sl S H0 (.slice a1 ow.length c1) ow) (h2:KI.sl.Sl S H0 (.slice a2 rows.length c2) rows) (h3:KI.Sl S H0 (.slice a3 bl.length c3) bl):
  SpecM Try.prog S H0 21 [.agg #[.int .i64 h,.slice a1 ow.length c1,.int .i64 p,.int .i64 c,.slice a2 rows.length c2],.int .i64 s,.slice a3 bl.length c3] (fun n v H1=>∃v',v=.tuple #[v',.int .i64 0]∧MkL (shares p rows (s :: bl)) n v' H1):=by
 refine SpecM.of1 Try.func21 rfl (by kernel_rfl) rfl (fun H _=>?_)
 have hp:I64 p:=by unfold I64;have:=hk.mat.pr.1;have:=hk.mat.pr.2.1;omega
 have hc12:=hk.mat.c1
 have hc1:=hk.c1
 have hrl:=hk.mat.len
 have ec:IntKind.i64.wrap (c-1)=c-1:=wr (by omega) (by omega)
 refine KW.callE U U U U U (validScheme h p c hp hO hB h1.up h2.up) (fun _ _=>?_)
 rw[tv_true hk]
 refine KW.cF U U (by first | (simp;done) | decide) ?_
 refine KW.lit U U U U U U U U U U [.int .i64 s] U U (fun v hv=>by simp at hv;subst hv;rfl) rfl ?_
 refine KW.callV1 U U U U U (fun H1 g _=>areElements p hp (xs:=[s]) (by simp) (g.ints (j:=1) U U (by simp))) (fun _ _=>?_)
 rw[tv_true (p:=PrimeP p∧Elems p [s]) ⟨hk.mat.pr,fun x hx=>by rw[List.mem_singleton.1 hx];exact hs⟩]
 refine KW.tF U U (by first | (simp;done) | decide) ?_
 refine KW.callE U U U U U (areElements p hp (by omega) h3.up) (fun _ _=>?_)
 rw[tv_true (p:=PrimeP p∧Elems p bl) ⟨hk.mat.pr,hbe⟩]
 refine KW.tF U U (by first | (simp;done) | decide) ?_
 refine KW.cndB U U (fun k1=>?_) (fun k1=>?_)
 ·rw[ec,hbl] at k1;simp at k1
 refine KW.lit U U U U U U U U U U [.int .i64 s] U U (fun v hv=>by simp at hv;subst hv;rfl) rfl ?_
 refine KW.appV 2 U U U U U U U U U U (fun H1 g=>acells_I h3.up g) (by simp) (by simp) (fun v hv=>by obtain⟨_,_,rfl⟩:=List.mem_map.1 hv;rfl) (by show(_+_)*8≤_;simp only[List.length_cons,List.length_nil];omega) (by simp only[List.length_cons,List.length_nil];omega) (show 1+bl.length=(s :: bl).length from by simp;omega) (fun oa _ _=>?_)
 refine KW.lit U U U U U U U U U U [] U U (fun v hv=>by simp at hv) rfl ?_
 refine KW.fact (p:=¬oa<H.n) (fun _ g=>(g.vars 2 _ rfl).2.2) (fun hoa=>?_)
 refine KW.lpM U U (fun q:Nat × Nat=>[(3,.pointer (some ⟨H.n,0,some 0⟩)),(8,.slice (some ⟨oa,0,some 1⟩) (s :: bl).length (s :: bl).length),(9,.slice (some ⟨q.2,0,some 1⟩) (shares p (rows.take q.1) (s :: bl)).length (shares p (rows.take q.1) (s :: bl)).length),(46,.slice a2 rows.length c2),(47,.int .i64 rows.length),(48,.int .i64 q.1)]) (fun q=>Low H.n) (fun q=>H) (fun q=>[_,_,(oa,⟨_,true,(s :: bl).map (Value.int .i64)⟩),(q.2,⟨_,true,(shares p (rows.take q.1) (s :: bl)).map (Value.int .i64)⟩)]) (fun q=>q.1≤rows.length) (fun q=>rows.length-q.1) ((0,_)) (by simp) ⟨rfl,rfl,rfl,rfl,rfl,rfl,trivial⟩ U U (rfl) (fun q hi bE n=>?_)
 obtain⟨q,o⟩:=q
 simp only at hi
 have hq:(shares p (rows.take q) (s :: bl)).length≤q:=by unfold shares;rw[List.length_map,List.length_take];omega
 refine KW.cnd U U (fun k2=>?_) (fun k2=>?_)
 ·refine KW.getL h2.up U U U U U U U U U U U U U U U U (by omega) (k2) (fun y a' m' hy hsy=>?_)
  have hy:rows[q]?=some y:=hy
  have hym:=hk.mat.row y (List.mem_of_getElem? hy)
  refine KW.callV1 U U U U U (fun H1 g _=>dot p hk.mat.pr (by simp;omega) (by omega) hym.2 (elems_cons hs hbe) hsy.up (g.ints (j:=2) U U (Nat.le_refl _))) (fun _ _=>?_)
  have e:shares p (rows.take (q+1)) (s :: bl)=shares p (rows.take q) (s :: bl)++[dotS p y (s :: bl)]:=map_take_succ _ hy
  refine KW.app1 (xs:=(shares p (rows.take q) (s :: bl)).map (Value.int .i64)) (v:=.int .i64 (dotS p y (s :: bl))) 3 4 U U U U U U U U U U U U U U U U U U U U U U U (by simp) (by show(_+1)*8≤_;first | omega | (simp only;omega)) (by first | omega | (simp only;omega)) ?_
  refine KW.nxt U U (fun H' g=>⟨(q+1,_),by simp only;omega,by first | omega | (simp only;omega),⟨rfl,rfl,by simp only[e,List.length_append,List.length_singleton];rfl,rfl,rfl,congrArg (Value.int .i64) (inc64 (by omega)),trivial⟩,g.eqT (by simp only[e,List.map_append];rfl)⟩)
 ·obtain rfl:q=rows.length:=by simp only at k2;omega
  rw[List.take_of_length_le (Nat.le_refl _)]
  refine KW.retM1 U U U U (fun H1 g=>⟨_,rfl,MkL.of g (j:=3) rfl (g.ge (H1:=H) (j:=3) rfl)⟩)
end
def valsOf (p:Int) (rows:List (List Int)) (ow:List Int) (s:Int) (bl:List Int) (j:Int):List Int:=(rowsOf ow j).map fun i=>(shares p rows (s :: bl)).getD i.toNat 0
theorem rows_bit {ow:List Int} (h:∀x∈ow,0≤x) (j:Nat):rowsP (fun i=>(2 ^ j:Nat).testBit (ow.getD i 0).toNat) ow.length=rowsOf ow j:=rowsP_congr fun i hi=>by
 have h1:0≤ow.getD i 0:=by rw[List.getD_eq_getElem?_getD,List.getElem?_eq_getElem hi];exact h _ (List.getElem_mem hi)
 rw[Nat.testBit_two_pow]
 exact decide_eq_decide.2 ⟨fun h=>by omega,fun h=>by omega⟩
theorem dotS_in {p:Int} {a b:List Int} (hp:PrimeP p):0≤dotS p a b∧dotS p a b≤p-1:=by
 unfold dotS
 have h1:=hp.1
 have:=Int.emod_nonneg (dotN a b a.length) (show p≠0 by omega)
 have:=Int.emod_lt_of_pos (dotN a b a.length) (show 0<p by omega)
 omega
theorem shares_in {p:Int} {rows:List (List Int)} {all:List Int} (hp:PrimeP p):Elems p (shares p rows all):=fun x hx=>by
 obtain⟨r,_,rfl⟩:=List.mem_map.1 hx
 exact dotS_in hp
theorem vals_in {p s j:Int} {rows:List (List Int)} {ow bl:List Int} (hp:PrimeP p):Elems p (valsOf p rows ow s bl j):=fun x hx=>by
 obtain⟨i,_,rfl⟩:=List.mem_map.1 hx
 exact elem_at (shares_in hp) hp.1 _
theorem vals_len {p s j:Int} {rows:List (List Int)} {ow bl:List Int}:(valsOf p rows ow s bl j).length=(rowsOf ow j).length:=by simp[valsOf]
def tagAt (p:Int) (kk:List (List Int)) (R vals:List Int) (k:Nat):Int:=((kk.getD (R.getD k 0).toNat []).getD 0 0*vals.getD k 0+(kk.getD (R.getD k 0).toNat []).getD 1 0)%p
def tagsOf (p:Int) (kk:List (List Int)) (R vals:List Int):List Int:=(List.range R.length).map (tagAt p kk R vals)
theorem range_map_succ {α:Type} (f:Nat→α) (n:Nat):(List.range (n+1)).map f=(List.range n).map f++[f n]:=by rw[List.range_succ,List.map_append];rfl
section
variable {S:Ids} {H0:AH}
theorem values (h p c s:Int) (e j:Nat) {a1 c1 a2 c2 a3 c3} {a4:Option Addr} {n4 c4:Nat} {ow bl:List Int} {rows bs:List (List Int)} (hO:B_Int64S ow) (hB:B_Int64SS rows) (hk:OkSch h ow p c rows) (hs:0≤s∧s≤p-1) (he:bs[e]?=some bl) (hbl:(bl.length:Int)=c-1) (hbe:Elems p bl) (hj:j≤6)
  (h1:KI.Sl S H0 (.slice a1 ow.length c1) ow) (h2:KI.sl.Sl S H0 (.slice a2 rows.length c2) rows) (h3:KI.sl.Sl S H0 (.slice a3 bs.length c3) bs):
  SpecM Try.prog S H0 220 [.agg #[.int .i64 h,.slice a1 ow.length c1,.int .i64 p,.int .i64 c,.slice a2 rows.length c2,.int .i64 s,.slice a3 bs.length c3,.slice a4 n4 c4],.int .i64 e,.int .i64 j] (MkL (valsOf p rows ow s bl j)):=by
 refine SpecM.of1 Try.func220 rfl (by kernel_rfl) rfl (fun H _=>?_)
 have hrl:=hk.mat.len
 have hol:=hk.len
 have hel:=(List.getElem?_eq_some_iff.1 he).1
 refine KW.getL h3.up U U U U U U U U U U U U U U U U (by omega) (by omega) (fun y a' m' hy hsy=>?_)
 have hy:bs[e]?=some y:=hy
 rw[he] at hy
 cases hy
 refine KW.callN1 U U U U U (sharesOf h p c s hO hB hk hs hbl hbe h1.up h2.up hsy) (fun v HA SA mA _ _ hv=>?_)
 obtain⟨v',rfl,a5,c5,rfl,hA⟩:=hv
 refine KW.lit U U U U U U U U U U [] U U (fun v hv=>by simp at hv) rfl ?_
 refine KW.shlU U U U U U U j rfl (by omega) ?_
 have hp:=small_pow (m:=j) (by omega)
 refine KW.callN1 U U U U U (rowsHeld h p c (2 ^ j) (by omega) hO hk.own hk.h7 h1.up) (fun v HR SR mR _ _ hv=>?_)
 obtain⟨a6,c6,rfl,hR⟩:=hv
 rw[rows_bit (fun x hx=>(hk.own x hx).1)] at hR ⊢
 have hRl:(rowsOf ow j).length≤ow.length:=rowsP_len _ _
 have hRm:∀x∈rowsOf ow j,0≤x∧x<ow.length:=fun x hx=>rowsP_mem hx
 have hval:valsOf p rows ow s bl j=(rowsOf ow j).map fun i=>(shares p rows (s :: bl)).getD i.toNat 0:=rfl
 rw[hval]
 have hsl:(shares p rows (s :: bl)).length=rows.length:=by simp[shares]
 obtain⟨R,hRe⟩:∃R,rowsOf ow j=R:=⟨_,rfl⟩
 rw[hRe] at hR hRl hRm ⊢
 obtain⟨A,hAe⟩:∃A,shares p rows (s :: bl)=A:=⟨_,rfl⟩
 rw[hAe] at hA hsl ⊢
 refine KW.lpM U U (fun q:Nat × Nat=>[(7,.slice a5 A.length c5),(9,.slice (some ⟨q.2,0,some 1⟩) ((R.take q.1).map fun i=>A.getD i.toNat 0).length ((R.take q.1).map fun i=>A.getD i.toNat 0).length),(30,.slice a6 R.length c6),(31,.int .i64 R.length),(32,.int .i64 q.1)]) (fun q=>SR) (fun q=>HR) (fun q=>[_,(q.2,⟨_,true,((R.take q.1).map fun i=>A.getD i.toNat 0).map (Value.int .i64)⟩)]) (fun q=>q.1≤R.length) (fun q=>R.length-q.1) ((0,_)) (by simp) ⟨rfl,rfl,rfl,rfl,rfl,trivial⟩ U U (rfl) (fun q hi bE n=>?_)
 obtain⟨q,o⟩:=q
 simp only at hi
 have hq:((R.take q).map fun i=>A.getD i.toNat 0).length≤q:=by rw[List.length_map,List.length_take];omega
 refine KW.cnd U U (fun k2=>?_) (fun k2=>?_)
 ·refine KW.getI hR.ups U U U U U U U U U U U U U U U U (by omega) (k2) (fun x hx=>?_)
  have hx:R[q]?=some x:=hx
  have hxm:=hRm x (List.mem_of_getElem? hx)
  refine KW.getI hA.ups U U U U U U U U U U U U U U U U (by omega) (by omega) (fun y hy=>?_)
  have hy:A.getD x.toNat 0=y:=getD_of hy
  have e1:=map_take_succ (fun i:Int=>A.getD i.toNat 0) hx
  rw[hy] at e1
  refine KW.app1 (xs:=((R.take q).map fun i=>A.getD i.toNat 0).map (Value.int .i64)) (v:=.int .i64 y) 1 2 U U U U U U U U U U U U U U U U U U U U U U U (by simp) (by show(_+1)*8≤_;first | omega | (simp only;omega)) (by first | omega | (simp only;omega)) ?_
  refine KW.nxt U U (fun H' g=>⟨(q+1,_),by simp only;omega,by first | omega | (simp only;omega),⟨rfl,by simp only[e1,List.length_append,List.length_singleton];rfl,rfl,rfl,congrArg (Value.int .i64) (inc64 (by omega)),trivial⟩,g.eqT (by simp only[e1,List.map_append];rfl)⟩)
 ·obtain rfl:q=R.length:=by simp only at k2;omega
  rw[List.take_of_length_le (Nat.le_refl _)]
  refine KW.retM1 U U U U (fun H1 g=>MkL.of g (j:=1) rfl (g.ge (H1:=H) (j:=1) rfl))
theorem tag_val {p k0 k1 v:Int} (hp:PrimeP p) (h0:0≤k0∧k0≤p-1) (h1:0≤k1∧k1≤p-1) (hv:0≤v∧v≤p-1):IntKind.i64.wrap (IntKind.i64.wrap (k0*v)+k1)=k0*v+k1∧0≤k0*v+k1:=by
 have h2:=mul_small hp.2.1 h0 hv
 have h3:=hp.2.1
 rw[wr (x:=k0*v) (by omega) (by omega),wr (by omega) (by omega)]
 exact⟨rfl,by omega⟩
theorem tags (h p c s:Int) (e j:Nat) {a1 c1 a2 c2 a4 c4 a5 c5} {a3:Option Addr} {n3 c3:Nat} {ow vals:List Int} {rows kk:List (List Int)} {ks:List (List (List Int))} (hO:B_Int64S ow) (hBk:B_Int64SSS ks) (hk:OkSch h ow p c rows) (he:ks[e]?=some kk) (hkk:KeysOk p rows.length kk) (hj:j≤6) (hvl:vals.length=(rowsOf ow j).length) (hve:Elems p vals)
  (h1:KI.Sl S H0 (.slice a1 ow.length c1) ow) (h4:KI.sl.sl.Sl S H0 (.slice a4 ks.length c4) ks) (h5:KI.Sl S H0 (.slice a5 vals.length c5) vals):
  SpecM Try.prog S H0 222 [.agg #[.int .i64 h,.slice a1 ow.length c1,.int .i64 p,.int .i64 c,.slice a2 rows.length c2,.int .i64 s,.slice a3 n3 c3,.slice a4 ks.length c4],.int .i64 e,.int .i64 j,.slice a5 vals.length c5] (MkL (tagsOf p kk (rowsOf ow j) vals)):=by
 refine SpecM.of1 Try.func222 rfl (by kernel_rfl) rfl (fun H _=>?_)
 have hrl:=hk.mat.len
 have hol:=hk.len
 have hel:=(List.getElem?_eq_some_iff.1 he).1
 have hpr:=hk.mat.pr
 refine KW.lit U U U U U U U U U U [] U U (fun v hv=>by simp at hv) rfl ?_
 refine KW.shlU U U U U U U j rfl (by omega) ?_
 have hp:=small_pow (m:=j) (by omega)
 refine KW.callN1 U U U U U (rowsHeld h p c (2 ^ j) (by omega) hO hk.own hk.h7 h1.up) (fun v HR SR mR _ _ hv=>?_)
 obtain⟨a6,c6,rfl,hR⟩:=hv
 rw[rows_bit (fun x hx=>(hk.own x hx).1)] at hR ⊢
 have hRl:(rowsOf ow j).length≤ow.length:=rowsP_len _ _
 have hRm:∀x∈rowsOf ow j,0≤x∧x<ow.length:=fun x hx=>rowsP_mem hx
 obtain⟨R,hRe⟩:∃R,rowsOf ow j=R:=⟨_,rfl⟩
 rw[hRe] at hR hRl hRm hvl ⊢
 refine KW.lpM U U (fun q:Nat × Nat=>[(1,.int .i64 e),(3,.slice a5 vals.length c5),(4,.pointer (some ⟨H.n,0,some 0⟩)),(9,.slice (some ⟨q.2,0,some 1⟩) ((List.range q.1).map (tagAt p kk R vals)).length ((List.range q.1).map (tagAt p kk R vals)).length),(18,.slice a6 R.length c6),(19,.int .i64 R.length),(20,.int .i64 q.1)]) (fun q=>SR) (fun q=>HR) (fun q=>[(H.n,⟨54,true,[.int .i64 h,.slice a1 ow.length c1,.int .i64 p,.int .i64 c,.slice a2 rows.length c2,.int .i64 s,.slice a3 n3 c3,.slice a4 ks.length c4]⟩),(q.2,⟨_,true,((List.range q.1).map (tagAt p kk R vals)).map (Value.int .i64)⟩)]) (fun q=>q.1≤R.length) (fun q=>R.length-q.1) ((0,_)) (by simp) ⟨rfl,rfl,rfl,rfl,rfl,rfl,rfl,trivial⟩ U U (rfl) (fun q hi bE n=>?_)
 obtain⟨q,o⟩:=q
 simp only at hi
 have hq:((List.range q).map (tagAt p kk R vals)).length≤q:=by simp
 refine KW.cnd U U (fun k2=>?_) (fun k2=>?_)
 ·refine KW.getI hR.ups U U U U U U U U U U U U U U U U (by omega) (k2) (fun x hx=>?_)
  have hx:R[q]?=some x:=hx
  have hxm:=hRm x (List.mem_of_getElem? hx)
  refine KW.getL h4.up U U U U U U U U U U U U U U U U (by omega) (by omega) (fun kk' b1 d1 hk1 hs1=>?_)
  have hk1:ks[e]?=some kk':=hk1
  rw[he] at hk1
  cases hk1
  have hkl:=hkk.1
  refine KW.getL hs1 U U U U U U U U U U U U U U U U (by omega) (by omega) (fun ky b2 d2 hk2 hs2=>?_)
  have hk2:kk[x.toNat]?=some ky:=hk2
  have hky:=hkk.2 ky (List.mem_of_getElem? hk2)
  have hkyl:=hky.1
  refine KW.getI hs2 U U U U U U U U U U U U U U U U (by omega) (by omega) (fun k0 hk0=>?_)
  refine KW.getI h5.up U U U U U U U U U U U U U U U U (by omega) (by omega) (fun v hv=>?_)
  refine KW.getI hs2 U U U U U U U U U U U U U U U U (by omega) (by omega) (fun k1 hk1'=>?_)
  have ek0:ky.getD 0 0=k0:=getD_of hk0
  have ek1:ky.getD 1 0=k1:=getD_of hk1'
  have ev:vals.getD q 0=v:=getD_of hv
  have eR:R.getD q 0=x:=getD_of hx
  have ekk:kk.getD x.toNat []=ky:=by rw[List.getD_eq_getElem?_getD,hk2];rfl
  have et:tagAt p kk R vals q=(k0*v+k1)%p:=by unfold tagAt;rw[eR,ekk,ek0,ek1,ev]
  obtain⟨ew,e0⟩:=tag_val hpr (ek0 ▸ elem_at hky.2 hpr.1 0) (ek1 ▸ elem_at hky.2 hpr.1 1) (ev ▸ elem_at hve hpr.1 q)
  refine KW.rem U U U U U U (by rw[ew];exact e0) (by have:=hpr.1;omega) ?_
  rw[ew,← et]
  have e1:=range_map_succ (tagAt p kk R vals) q
  refine KW.app1 (xs:=((List.range q).map (tagAt p kk R vals)).map (Value.int .i64)) (v:=.int .i64 (tagAt p kk R vals q)) 1 2 U U U U U U U U U U U U U U U U U U U U U U U (by simp) (by show(_+1)*8≤_;first | omega | (simp only;omega)) (by first | omega | (simp only;omega)) ?_
  refine KW.nxt U U (fun H' g=>⟨(q+1,_),by simp only;omega,by first | omega | (simp only;omega),⟨rfl,rfl,rfl,by simp only[e1,List.length_append,List.length_singleton];rfl,rfl,rfl,congrArg (Value.int .i64) (inc64 (by omega)),trivial⟩,g.eqT (by simp only[e1,List.map_append];rfl)⟩)
 ·obtain rfl:q=R.length:=by simp only at k2;omega
  refine KW.retM1 U U U U (fun H1 g=>MkL.of g (j:=1) rfl (g.ge (H1:=H) (j:=1) rfl))
end
noncomputable def codeD (x:T_Deal) (e j:Int):Int:=if tv (DealOk x)=true then(if(0≤e∧e≤(x.2.2.1.length:Int)-1)∧(0≤j∧j≤x.1.1-1) then 0 else 2) else 1
abbrev blD (x:T_Deal) (e:Int):List Int:=x.2.2.1.getD e.toNat []
abbrev kkD (x:T_Deal) (e:Int):List (List Int):=x.2.2.2.getD e.toNat []
structure DealAt (x:T_Deal) (e j:Int) (E J:Nat):Prop where
 ee:e=E
 jj:j=J
 j6:J≤6
 sch:OkSch x.1.1 x.1.2.1 x.1.2.2.1 x.1.2.2.2.1 x.1.2.2.2.2
 sec:0≤x.2.1∧x.2.1≤x.1.2.2.1-1
 hb:x.2.2.1[E]?=some (blD x e)
 hk:x.2.2.2[E]?=some (kkD x e)
 bl:((blD x e).length:Int)=x.1.2.2.2.1-1∧Elems x.1.2.2.1 (blD x e)
 key:KeysOk x.1.2.2.1 x.1.2.2.2.2.length (kkD x e)
theorem codeD_ok {x:T_Deal} {e j:Int} (h:codeD x e j=0):∃E J,DealAt x e j E J:=by
 unfold codeD at h
 split at h
 ·rename_i hd
  have hd:DealOk x:=tv_iff.1 hd
  split at h
  ·rename_i hr
   have hbl:=hd.bl
   have hkl:=hd.kl
   have h7:=hd.sch.h7
   have h1:x.2.2.1[e.toNat]?=some (blD x e):=by
    show _=some (x.2.2.1.getD e.toNat [])
    rw[List.getD_eq_getElem?_getD,List.getElem?_eq_getElem (by omega)];rfl
   have h2:x.2.2.2[e.toNat]?=some (kkD x e):=by
    show _=some (x.2.2.2.getD e.toNat [])
    rw[List.getD_eq_getElem?_getD,List.getElem?_eq_getElem (by omega)];rfl
   have h3:=hd.bk _ _ _ h1 h2
   exact⟨e.toNat,j.toNat,by omega,by omega,by omega,hd.sch,hd.sec,h1,h2,h3.1,h3.2⟩
  ·cases h
 ·cases h
def valsD (x:T_Deal) (e j:Int):List Int:=valsOf x.1.2.2.1 x.1.2.2.2.2 x.1.2.1 x.2.1 (blD x e) j
def tagsD (x:T_Deal) (e j:Int) (vals:List Int):List Int:=tagsOf x.1.2.2.1 (kkD x e) (rowsOf x.1.2.1 j) vals
def lieOf (p:Int) (vals:List Int) (lie:Int):List Int:=match vals with
 | []=>[]
 | v :: vs=>((v+lie)%p) :: vs
theorem lie_len {p:Int} {vals:List Int} {lie:Int}:(lieOf p vals lie).length=vals.length:=by cases vals<;>rfl
theorem lie_in {p:Int} {vals:List Int} {lie:Int} (hp:PrimeP p) (h:Elems p vals):Elems p (lieOf p vals lie):=fun x hx=>by
 cases vals with
 | nil=>exact h x hx
 | cons v vs=>
  rcases List.mem_cons.1 hx with rfl | hx
  ·have h1:=hp.1
   have:=Int.emod_nonneg (v+lie) (show p≠0 by omega)
   have:=Int.emod_lt_of_pos (v+lie) (show 0<p by omega)
   omega
  ·exact h x (List.mem_cons_of_mem _ hx)
section
variable {S:Ids} {H0:AH}
def MkLC (xs:List Int) (code:Int) (n:Nat) (v:Value) (H1:AH):Prop:=∃a c,v=.tuple #[.slice a xs.length c,.int .i64 code]∧M_Int64S.R (New n H1.n) H1 xs [.slice a xs.length c]
theorem MkLC.nil {code:Int} {n:Nat} {H1:AH} {v:Value} (hv:v=.tuple #[.slice none 0 0,.int .i64 code]):MkLC [] code n v H1:=⟨none,0,hv,ml1' (.inl ⟨rfl,_,_,rfl,fun _=>rfl⟩)⟩
theorem Good.made {S0:Ids} {H0 H1 H2:AH} {T:List Var} {n lo m:Nat} {xs:List Int} {a:Option Addr} {c:Nat} (g:Good S0 H0 T n H2) [o:On (New m H1.n) H1 S0 H0] (hm:lo≤m) (h:KI.Ml (New m H1.n) H1 (.slice a xs.length c) xs):KI.Ml (New lo H2.n) H2 (.slice a xs.length c) xs:=
 Kn.Ml.st h (g.out (fun id hid=>by have:=hid.1;omega)).st
end
section
variable {S:Ids} {H0:AH}
theorem cloneI {a c} {xs:List Int} (hl:xs.length≤1048576) (hs:KI.Sl S H0 (.slice a xs.length c) xs):SpecM Try.prog S H0 64 [.slice a xs.length c] (MkL xs):=by
 refine SpecM.of1 Try.func64 rfl (by kernel_rfl) rfl (fun H _=>?_)
 refine KW.cndB U U (fun h=>?_) (fun h=>?_)
 ·have ha:a=none:=by cases a with
   | none=>rfl
   | some a=>simp at h
  have hx:xs=[]:=by
   rcases hs with⟨hx,_⟩ | ⟨id,k,c1,b,h1,_⟩
   ·exact hx
   ·rw[ha] at h1;cases h1
  subst hx
  refine KW.retM1 U U U U (fun H1 g=>⟨none,0,rfl,.inl ⟨rfl,_,_,rfl,fun _=>rfl⟩⟩)
 ·refine KW.lit U U U U U U U U U U [] U U (fun v hv=>by simp at hv) rfl ?_
  refine KW.appV 0 U U U U U U U U U U (fun H1 g=>acells_I hs.up g) (by simp) (by simp) (fun v hv=>by obtain⟨_,_,rfl⟩:=List.mem_map.1 hv;rfl) (by show(_+_)*8≤_;simp only[List.length_cons,List.length_nil];omega) (by simp only[List.length_cons,List.length_nil];omega) (show 0+xs.length=xs.length from by omega) (fun oa _ _=>?_)
  refine KW.retM1 U U U U (fun H1 g=>MkL.of g (j:=0) rfl (g.ge (H1:=H) (j:=0) rfl))
end
end Go.Proofs.Ytlapbbffoapleaa.Am
namespace Go.Proofs.Ytlapbbffoapleaa.Am
open Go Go.RowKit Go.Proofs Go.Proofs.Ytlapbbffoapleaa.Pl
def MkG (xs:List (List Int)) (ty:TypeId) (n:Nat) (v:Value) (H1:AH):Prop:=∃o cs V,v=.slice (some ⟨o,0,some 1⟩) xs.length xs.length∧New n H1.n o∧H1.m o=some ⟨ty,true,cs⟩∧(∀id,V id→New n H1.n id∧id≠o)∧RowsB KI.ml V H1 V xs cs
theorem RowsB.on {S S' V:Ids} {A A':AH} {rows:List (List Int)} {cs:List Value} (h:RowsB KI.ml S A V rows cs) (hs:∀id,V id→S' id∧A'.m id=A.m id):RowsB KI.ml S' A' V rows cs:=by
 obtain⟨W,h1,h2,h3⟩:=h.rows
 refine⟨h.len,fun id hid=>(hs id hid).1,W,h1,h2,fun j x hx=>?_⟩
 obtain⟨v,h4,h5⟩:=h3 j x hx
 exact⟨v,h4,KI.ml.same (fun id hid=>(hs id (h1 j id hid)).2) h5⟩
theorem RwI.mkG {xs:List (List Int)} {H HB H1:AH} {SB:Ids} {s:RwS} {T:List Var} {n j:Nat} {ty:TypeId} (h:RwI (fun x=>x) xs H SB HB s) (he:s.i=xs.length) (g:Good s.S s.A T n H1) (hT:T[j]?=some (s.o,⟨ty,true,s.cs⟩)) (ho:H.n≤s.o):MkG xs ty H.n (.slice (some ⟨s.o,0,some 1⟩) xs.length xs.length) H1:=by
 have hb:=h.b
 rw[he,List.take_of_length_le (Nat.le_refl _),List.map_id'] at hb
 have hno:=(g.vars j _ hT).2.2
 have hn:=g.n_
 refine⟨s.o,s.cs,s.V,rfl,⟨ho,(g.blk hT).2⟩,(g.blk hT).1,fun id hid=>⟨⟨h.v id hid,?_⟩,fun e=>hno (e ▸ hb.sub id hid)⟩,hb.on (fun id hid=>⟨hid,(g.froz id (hb.sub id hid)).2⟩)⟩
 have:=(g.froz id (hb.sub id hid)).1
 omega
section
variable {S:Ids} {H0:AH}
theorem copyRows {a c} {xs:List (List Int)} (hB:B_Int64SS xs) (hs:KI.sl.Sl S H0 (.slice a xs.length c) xs):SpecM Try.prog S H0 66 [.slice a xs.length c] (MkG xs 36):=by
 have hxl:=hB.len
 refine SpecM.of1 Try.func66 rfl (by kernel_rfl) rfl (fun H _=>?_)
 refine KW.lit U U U U U U U U U U [] U U (fun v hv=>by simp at hv) rfl ?_
 refine KW.lpM U U (fun s:RwS=>[(3,.slice (some ⟨s.o,0,some 1⟩) s.i s.i),(7,.slice a xs.length c),(8,.int .i64 xs.length),(9,.int .i64 s.i)]) (fun s=>s.S) (fun s=>s.A) (fun s=>[(s.o,⟨_,true,s.cs⟩)]) (fun s=>RwI (fun x=>x) xs H (Low H.n) H s) (fun s=>xs.length-s.i) (⟨0,Low H.n,H,fun _=>False,[],_⟩) (RwI.start) ⟨rfl,rfl,rfl,rfl,trivial⟩ U U (rfl) (fun s hi bE n=>?_)
 haveI:Stp (Low H.n) H s.S s.A:=⟨hi.old⟩
 have hle:=hi.le
 have hcl:=hi.b.len
 rw[List.length_map,List.length_take] at hcl
 refine KW.cnd U U (fun k1=>?_) (fun k1=>?_)
 ·have k1:(s.i:Int)<xs.length:=k1
  refine KW.getL hs.up U U U U U U U U U U U U U U U U (by omega) (k1) (fun y ay cy hy hsy=>?_)
  have hy:xs[s.i]?=some y:=hy
  have hyl:=hB.each y (List.mem_of_getElem? hy)
  refine KW.ids (fun hlow hvar=>?_)
  refine KW.fact (fun _ g=>g.nle (H1:=H)) (fun hn0=>?_)
  refine KW.callN1 U U U U U (cloneI hyl hsy) (fun v HC SC mC _ _ hv=>?_)
  obtain⟨a5,c5,rfl,hC⟩:=hv
  refine KW.app1 (xs:=s.cs) (v:=.slice a5 y.length c5) 0 1 U U U U U U U U U U U U U U U U U U U U U U U (by omega) (by show(_+1)*24≤_;omega) (by first | omega | (simp only;omega)) ?_
  exact KW.nxt U U (fun H' g=>⟨_,hi.next (inferInstance:Stp s.S s.A SC HC).st inferInstance hlow hn0 hy hC,by simp only;omega,⟨rfl,rfl,rfl,congrArg (Value.int .i64) (inc64 (by omega)),trivial⟩,g⟩)
 ·have k1:¬(s.i:Int)<xs.length:=k1
  have he:s.i=xs.length:=by omega
  refine KW.retM1 U U U U (fun H1 g=>?_)
  rw[he]
  exact hi.mkG he g (j:=0) rfl (g.ge (H1:=H) (j:=0) rfl)
end
def MkE (p:Int) (k:Nat) (e:List (List Int) × List Nat) (n:Nat) (v:Value) (H1:AH):Prop:=∃a1 c1 a2 c2,v=.tuple #[.agg #[.int .i64 p,.int .i64 k,.slice a1 e.2.length c1],.slice a2 e.2.length c2]∧KI.ml.Ml (New n H1.n) H1 (.slice a1 e.2.length c1) (e.1.take e.2.length)∧KI.Ml (New n H1.n) H1 (.slice a2 e.2.length c2) (e.2.map fun(i:Nat)=>(i:Int))
structure EcS where
 c:Nat
 S:Ids
 A:AH
 cs:List Value
 po:Nat
structure EcI (p:Int) (k:Nat) (L:List (List Int)) (H:AH) (V:Ids) (s:EcS):Prop where
 le:s.c≤k
 old:St (Low H.n) H s.S s.A
 b:RowsB KI.ml s.S s.A V (ech p L s.c).1 s.cs
theorem ech_none {p:Int} {L:List (List Int)} {c:Nat} (h:nz (ech p L c).1 c (ech p L c).2.length=(ech p L c).1.length):ech p L (c+1)=ech p L c:=by
 rw[ech]
 have:rnd p (ech p L c).1 c (ech p L c).2.length=none:=by unfold rnd;rw[if_pos h]
 rw[this]
theorem ech_some {p:Int} {L:List (List Int)} {c:Nat} (h:nz (ech p L c).1 c (ech p L c).2.length≠(ech p L c).1.length):ech p L (c+1)=(tks p c (ech p L c).2.length (lead p (ech p L c).1 c (ech p L c).2.length) ((sw (ech p L c).1 (ech p L c).2.length (nz (ech p L c).1 c (ech p L c).2.length)).set (ech p L c).2.length (lead p (ech p L c).1 c (ech p L c).2.length)) (ech p L c).1.length,(ech p L c).2++[c]):=by
 rw[ech]
 unfold rnd
 rw[if_neg h]
theorem built_Matrix (p c:Int) (a:Option Addr) (n m:Nat):Try.prog.built 26 [(0,.int .i64 p),(1,.int .i64 c),(2,.slice a n m)]=some #[.int .i64 p,.int .i64 c,.slice a n m]:=by kernel_rfl
theorem cell0 {l:List Value} {q:Nat} {v:Value} (h:l[q]?=some v):l[0+q*1]?=some v:=by rw[Nat.zero_add,Nat.mul_one];exact h
section
variable {S:Ids} {H0:AH}
theorem echelon {p:Int} {k:Nat} (hp:2≤p∧p≤31) (hk:k≤1000) {L:List (List Int)} (hB:B_Int64SS L) (hL:Rect p k L) {a c} (hs:KI.sl.Sl S H0 (.slice a L.length c) L):SpecM Try.prog S H0 65 [.agg #[.int .i64 p,.int .i64 k,.slice a L.length c]] (MkE p k (ech p L k)):=by
 have hLl:=hB.len
 have hok:=ech_ok (p:=p) (by omega) hL
 refine SpecM.of1 Try.func65 rfl (by kernel_rfl) rfl (fun H _=>?_)
 refine KW.callN1 U U U U U (copyRows hB hs.up) (fun v HC SC mC _ _ hv=>?_)
 obtain⟨o,cs0,V,rfl,ho,hom,hV,hb0⟩:=hv
 have oS:=(inferInstance:On (New (H.n+2) HC.n) HC SC HC).st
 refine KW.thaw o ⟨_,true,cs0⟩ (oS o ho).1 hom ?_
 haveI oH:On (Low H.n) H (fun id=>SC id∧id≠o) HC:=On.thaw (fun id hid=>by have:id<H.n:=hid;have:=ho.1;omega)
 have hb1:RowsB KI.ml (fun id=>SC id∧id≠o) HC V L cs0:=hb0.on (fun id hid=>⟨⟨(oS id (hV id hid).1).1,(hV id hid).2⟩,rfl⟩)
 have hVl:∀id,V id→H.n≤id:=fun id hid=>by have:=(hV id hid).1.1;omega
 refine KW.lit U U U U U U U U U U [] U U (fun v hv=>by simp at hv) rfl ?_
 refine KW.lpM U U (fun s:EcS=>[(1,.pointer (some ⟨H.n,0,some 0⟩)),(2,.pointer (some ⟨H.n+1,0,some 1⟩)),(4,.slice (some ⟨o,0,some 1⟩) L.length L.length),(5,.slice (some ⟨s.po,0,some 1⟩) (ech p L s.c).2.length (ech p L s.c).2.length),(16,.int .i64 k),(17,.int .i64 s.c)]) (fun s=>s.S) (fun s=>s.A) (fun s=>[(H.n,⟨26,true,[.int .i64 p,.int .i64 k,.slice a L.length c]⟩),(H.n+1,⟨26,true,[.int .i64 0,.int .i64 0,.slice none 0 0]⟩),(o,⟨36,true,s.cs⟩),(s.po,⟨_,true,(ech p L s.c).2.map fun(i:Nat)=>Value.int .i64 i⟩)]) (fun s=>EcI p k L H V s) (fun s=>k-s.c) (⟨0,_,HC,cs0,_⟩) (⟨Nat.zero_le _,oH.st,hb1⟩) ⟨rfl,rfl,rfl,rfl,rfl,rfl,trivial⟩ U U (rfl) (fun s hi bE n=>?_)
 obtain⟨ci,S1,A1,cs,po⟩:=s
 obtain⟨hle,hold,hb⟩:=hi
 simp only at hle hold hb
 have hoc:=hok ci
 haveI oc:Stp (Low H.n) H S1 A1:=⟨hold⟩
 obtain⟨q,hn⟩:∃q,(ech p L ci).2.length=q:=⟨_,rfl⟩
 obtain⟨M,hM⟩:∃M,(ech p L ci).1=M:=⟨_,rfl⟩
 rw[hM] at hb
 have hcs:=hb.len
 have hMl:M.length=L.length:=by rw[← hM];exact hoc.2.1
 have hMr:Rect p k M:=by rw[← hM];exact hoc.1
 have hnL:q≤L.length:=by rw[← hn];exact hoc.2.2.1
 have e5:Value.slice (some ⟨po,0,some 1⟩) (ech p L ci).2.length (ech p L ci).2.length=Value.slice (some ⟨po,0,some 1⟩) q q:=by rw[hn]
 have e7:Value.int .i64 ((ech p L ci).2.length:Nat)=Value.int .i64 q:=by rw[hn]
 refine KW.cnd U U (fun h=>?_) (fun h=>?_)
 ·have h:(ci:Int)<k:=h
  refine KW.lp U U (fun r:Nat=>[(1,.pointer (some ⟨H.n,0,some 0⟩)),(2,.pointer (some ⟨H.n+1,0,some 1⟩)),(4,.slice (some ⟨o,0,some 1⟩) L.length L.length),(5,.slice (some ⟨po,0,some 1⟩) q q),(6,.int .i64 ci),(7,.int .i64 q),(8,.int .i64 r),(16,.int .i64 k),(17,.int .i64 ci)]) (fun r=>q≤r∧r≤L.length∧nz M ci r=nz M ci q) (fun r=>L.length-r) (q) (⟨Nat.le_refl _,hnL,rfl⟩) ⟨rfl,rfl,rfl,e5,rfl,e7,e7,rfl,rfl,trivial⟩ (fun r hi bE n=>?_)
  obtain⟨hr1,hr2,hr3⟩:=hi
  refine KW.tst U U (fun h1=>?_) (fun h1=>?_)
  ·have h1:(r:Int)<L.length:=h1
   obtain⟨w,hw⟩:∃w,M[r]?=some w:=⟨M[r]'(by omega),List.getElem?_eq_getElem (by omega)⟩
   obtain⟨v,W,hv,hm,hWV,_,_⟩:=hb.row1 hw
   obtain⟨ra,rc,rfl⟩:=hm.form
   have hwk:=hMr.at hw
   refine KW.idx0 U U U U U U U U U (by omega) (h1) ?_
   refine KW.ldT 2 U U U U U U (bload_at (cell0 hv) U U) ?_
   refine KW.getI ((hm.sl.more (fun id hid=>hb.sub id (hWV id hid)))) U U U U U U U U U U U U U U U U (by omega) (by omega) (fun x hx=>?_)
   have hx:w[ci]?=some x:=hx
   refine KW.cnd U U (fun k2=>?_) (fun k2=>?_)
   ·have k2:x=0:=k2
    refine KW.nxt U U (fun H' g=>⟨r+1,⟨by omega,by omega,by rw[nz_step hw (by rw[List.getD_eq_getElem?_getD,hx];exact k2)];exact hr3⟩,by first | omega | (simp only;omega),⟨rfl,rfl,rfl,rfl,rfl,rfl,congrArg (Value.int .i64) (inc64 (by omega)),rfl,rfl,trivial⟩,g⟩)
   ·have k2:¬x=0:=k2
    refine KW.no U U (by omega) ?_
    have e1:nz M ci q=r:=by rw[← hr3];exact nz_stop hw (by rw[List.getD_eq_getElem?_getD,hx];exact k2)
    have hrn:q≤r:=by omega
    have hrL:r<L.length:=by omega
    obtain⟨wn,hwn⟩:∃w,M[q]?=some w:=⟨M[q]'(by omega),List.getElem?_eq_getElem (by omega)⟩
    obtain⟨vn,Wn,hvn,hmn,_,_,_⟩:=hb.row1 hwn
    obtain⟨na,nc,rfl⟩:=hmn.form
    refine KW.idx0 U U U U U U U U U (by omega) (by omega) ?_
    refine KW.ldT 2 U U U U U U (bload_at (cell0 hv) U U) ?_
    refine KW.idx0 U U U U U U U U U (by omega) (by omega) ?_
    refine KW.ldT 2 U U U U U U (bload_at (cell0 hvn) U U) ?_
    refine KW.idx0 U U U U U U U U U (by omega) (by omega) ?_
    refine KW.st1 2 U U U U U U U U U U U U (by simp only;omega) ?_
    refine KW.idx0 U U U U U U U U U (by omega) (by omega) ?_
    refine KW.st1 2 U U U U U U U U U U U U (by simp only[List.length_set];omega) ?_
    have hb2:RowsB KI.ml S1 A1 V (sw M q r) ((cs.set (0+q*1) (.slice ra w.length rc)).set (0+r*1) (.slice na wn.length nc)):=by
     rw[Nat.zero_add,Nat.zero_add,Nat.mul_one,Nat.mul_one]
     exact hb.swap (by omega) (by omega) hvn hv
    have hM1:Rect p k (sw M q r):=hMr.sw (by omega) (by omega)
    obtain⟨w1,hw1⟩:∃w,(sw M q r)[q]?=some w:=⟨(sw M q r)[q]'(by rw[sw_len];omega),List.getElem?_eq_getElem (by rw[sw_len];omega)⟩
    have hw1d:(sw M q r).getD q []=w1:=by rw[List.getD_eq_getElem?_getD,hw1];rfl
    have hw1k:=hM1.at hw1
    obtain⟨v1,W1,hv1,hm1,hW1,_,hset⟩:=hb2.row1 hw1
    obtain⟨a1,c1,rfl⟩:=hm1.form
    have hw1l:w1.length=k:=hw1k.1
    refine KW.idx0 U U U U U U U U U (by omega) (by omega) ?_
    refine KW.ldT 2 U U U U U U (bload_at (cell0 hv1) U U) ?_
    refine KW.idx0 U U U U U U U U U (by omega) (by omega) ?_
    refine KW.ldT 2 U U U U U U (bload_at (cell0 hv1) U U) ?_
    refine KW.getI ((hm1.sl.more (fun id hid=>hb2.sub id (hW1 id hid)))) U U U U U U U U U U U U U U U U (by omega) (by omega) (fun x1 hx1=>?_)
    have hx1:w1[ci]?=some x1:=hx1
    have hx1k:=hw1k.2 x1 (List.mem_of_getElem? hx1)
    refine KW.callE U U U U U (inverse p x1 hp hx1k) (fun _ _=>?_)
    have hpk:=pw_ok (a:=x1) hp.1 (p-2).toNat
    have hsub1:∀id,W1 id→S1 id:=fun id hid=>hb2.sub id (hW1 id hid)
    refine KW.callW hsub1 U U U U U (scaled hp hpk (by omega) hw1k.2 hsub1 hm1) (fun v2 H2 S2 hn2 st2 hw2 hv2=>?_)
    obtain⟨ld,hld⟩:∃ld,sc p (pw p x1 (p-2).toNat) w1=ld:=⟨_,rfl⟩
    have hlead:lead p M ci q=ld:=by
     unfold lead
     rw[e1,hw1d,← hld,List.getD_eq_getElem?_getD,hx1]
     rfl
    have hldk:ld.length=k∧∀x∈ld,0≤x∧x<p:=by rw[← hld];exact sc_ok (by omega) hw1k
    have hb3:=hset S2 H2 _ st2 hv2
    rw[hld] at hb3
    have hold2:St (Low H.n) H S2 H2:=fun id hid=>⟨(st2 id (hold id hid).1).1,by rw[(st2 id (hold id hid).1).2 (fun hw=>by have:=hVl id (hW1 id hw);have:id<H.n:=hid;omega)];exact(hold id hid).2⟩
    obtain⟨M2,hM2⟩:∃M2,(sw M q r).set q ld=M2:=⟨_,rfl⟩
    rw[hM2] at hb3
    have hM2l:M2.length=L.length:=by rw[← hM2,List.length_set,sw_len];exact hMl
    have hM2r:Rect p k M2:=by rw[← hM2];exact hM1.set hldk
    have hM2q:M2[q]?=some ld:=by rw[← hM2,List.getElem?_set_self (by rw[sw_len];omega)]
    obtain⟨cs1,hcs1⟩:∃cs1,(cs.set (0+q*1) (.slice ra w.length rc)).set (0+r*1) (.slice na wn.length nc)=cs1:=⟨_,rfl⟩
    rw[hcs1] at hb3
    refine KW.lpM U U (fun s:(Nat × Ids × AH)=>[(1,.pointer (some ⟨H.n,0,some 0⟩)),(2,.pointer (some ⟨H.n+1,0,some 1⟩)),(4,.slice (some ⟨o,0,some 1⟩) L.length L.length),(5,.slice (some ⟨po,0,some 1⟩) q q),(6,.int .i64 ci),(7,.int .i64 q),(16,.int .i64 k),(17,.int .i64 ci),(74,.slice (some ⟨o,0,some 1⟩) L.length L.length),(75,.int .i64 L.length),(76,.int .i64 s.1)]) (fun s=>s.2.1) (fun s=>s.2.2) (fun s=>[(H.n,⟨26,true,[.int .i64 p,.int .i64 k,.slice a L.length c]⟩),(H.n+1,⟨26,true,[.int .i64 0,.int .i64 0,.slice none 0 0]⟩),(o,⟨36,true,(cs.set (0+q*1) (.slice ra w.length rc)).set (0+r*1) (.slice na wn.length nc)⟩),(po,⟨_,true,(ech p L ci).2.map fun(i:Nat)=>Value.int .i64 i⟩)]) (fun s=>s.1≤L.length∧St (Low H.n) H s.2.1 s.2.2∧RowsB KI.ml s.2.1 s.2.2 V (tks p ci q ld M2 s.1) cs1) (fun s=>L.length-s.1) ((0,S2,H2)) (⟨Nat.zero_le _,hold2,by simp only[tks_zero];exact hb3⟩) ⟨rfl,rfl,rfl,rfl,rfl,rfl,rfl,rfl,rfl,rfl,rfl,trivial⟩ U U (rfl) (fun s hi bE n=>?_)
    obtain⟨i,S3,A3⟩:=s
    obtain⟨hi1,hold3,hb4⟩:=hi
    simp only at hi1 hold3 hb4
    haveI oc3:Stp (Low H.n) H S3 A3:=⟨hold3⟩
    rw[← hcs1] at hb4
    refine KW.cnd U U (fun h3=>?_) (fun h3=>?_)
    ·have h3:(i:Int)<L.length:=h3
     obtain⟨wi,hwi⟩:∃w,M2[i]?=some w:=⟨M2[i]'(by omega),List.getElem?_eq_getElem (by omega)⟩
     have hwik:=hM2r.at hwi
     obtain⟨vi,Wi,hvi,hmi,hWi,hoth,hseti⟩:=hb4.row1 ((tks_old (.inl (Nat.le_refl i))).trans hwi)
     obtain⟨ai,ic,rfl⟩:=hmi.form
     refine KW.idx0 U U U U U U U U U (by omega) (h3) ?_
     refine KW.ldT 2 U U U U U U (bload_at (cell0 hvi) U U) ?_
     refine KW.cndB U U (fun h4=>?_) (fun h4=>?_)
     ·have h4:i≠q:=by simp at h4;omega
      obtain⟨vq,Xq,hvq,hmq,hXq⟩:=hoth q ld (Ne.symm h4) ((tks_old (.inr rfl)).trans hM2q)
      obtain⟨aq,qc,rfl⟩:=hmq.form
      refine KW.idx0 U U U U U U U U U (by omega) (by omega) ?_
      refine KW.ldT 2 U U U U U U (bload_at (cell0 hvq) U U) ?_
      refine KW.getI ((hmi.sl.more (fun id hid=>hb4.sub id (hWi id hid)))) U U U U U U U U U U U U U U U U (by omega) (by omega) (fun xi hxi=>?_)
      have hxi:wi[ci]?=some xi:=hxi
      have hxik:=hwik.2 xi (List.mem_of_getElem? hxi)
      have hsubi:∀id,Wi id→S3 id:=fun id hid=>hb4.sub id (hWi id hid)
      refine KW.callW hsubi U U U U U (takeOff hp hxik (by omega) hldk.2 (fun id hid=>⟨hb4.sub id (hXq id hid).1,(hXq id hid).2⟩) hmq.sl (by omega) hwik.2 hsubi hmi) (fun v5 H5 S5 hn5 st5 hw5 hv5=>?_)
      have hb5:=hseti S5 H5 _ st5 hv5
      have hold5:St (Low H.n) H S5 H5:=fun id hid=>⟨(st5 id (hold3 id hid).1).1,by rw[(st5 id (hold3 id hid).1).2 (fun hw=>by have:=hVl id (hWi id hw);have:id<H.n:=hid;omega)];exact(hold3 id hid).2⟩
      have et:tks p ci q ld M2 (i+1)=(tks p ci q ld M2 i).set i (tk p xi wi ld):=by
       rw[tks_next h4 hwi,List.getD_eq_getElem?_getD,hxi]
       rfl
      rw[← et,hcs1] at hb5
      refine KW.nxt U U (fun H' g=>⟨(i+1,S5,H5),⟨by simp only;omega,hold5,hb5⟩,by first | omega | (simp only;omega),⟨rfl,rfl,rfl,rfl,rfl,rfl,rfl,rfl,rfl,rfl,congrArg (Value.int .i64) (inc64 (by omega)),trivial⟩,g⟩)
     ·have h4:i=q:=by simp at h4;omega
      subst h4
      rw[← tks_skip,hcs1] at hb4
      refine KW.nxt U U (fun H' g=>⟨(i+1,S3,A3),⟨by simp only;omega,hold3,hb4⟩,by first | omega | (simp only;omega),⟨rfl,rfl,rfl,rfl,rfl,rfl,rfl,rfl,rfl,rfl,congrArg (Value.int .i64) (inc64 (by omega)),trivial⟩,g⟩)
    ·have h3:¬(i:Int)<L.length:=h3
     have hiL:i=L.length:=by omega
     have eE:ech p L (ci+1)=(tks p ci q ld M2 L.length,(ech p L ci).2++[ci]):=by
      rw[ech_some (by rw[hM,hn,e1];omega),hM,hn,hlead,e1,hM2,hMl]
     have e8:∀x:Nat,Value.slice (some ⟨x,0,some 1⟩) (q+1) (q+1)=Value.slice (some ⟨x,0,some 1⟩) (ech p L (ci+1)).2.length (ech p L (ci+1)).2.length:=fun x=>by rw[eE];simp[hn]
     refine KW.app1 (xs:=(ech p L ci).2.map fun(i:Nat)=>Value.int .i64 i) (v:=.int .i64 ci) 3 4 U U U U U U U U U U U U U U U U U U U U U U U (by simp[hn]) (by show(_+1)*8≤_;omega) (by first | omega | (simp only;omega)) ?_
     refine KW.nxt U U (fun H' g=>⟨⟨ci+1,S3,A3,_,_⟩,⟨by simp only;omega,hold3,by simp only;rw[eE,← hiL];exact hb4⟩,by first | omega | (simp only;omega),⟨rfl,rfl,rfl,e8 _,rfl,congrArg (Value.int .i64) (inc64 (by omega)),trivial⟩,g.eqT (by simp only[eE,List.map_append];rfl)⟩)
  ·have h1:¬(r:Int)<L.length:=h1
   refine KW.cF U U (by first | (simp;done) | decide) ?_
   refine KW.yes U U (by omega) ?_
   have e1:nz (ech p L ci).1 ci (ech p L ci).2.length=(ech p L ci).1.length:=by rw[hM,hn,← hr3,nz_end (by omega)];omega
   have e2:=ech_none e1
   have e3:Value.slice (some ⟨po,0,some 1⟩) q q=Value.slice (some ⟨po,0,some 1⟩) (ech p L (ci+1)).2.length (ech p L (ci+1)).2.length:=by rw[e2,hn]
   refine KW.nxt U U (fun H' g=>⟨⟨ci+1,S1,A1,cs,po⟩,⟨by simp only;omega,hold,by simp only;rw[e2,hM];exact hb⟩,by first | omega | (simp only;omega),⟨rfl,rfl,rfl,e3,rfl,congrArg (Value.int .i64) (inc64 (by omega)),trivial⟩,g.eqT (by simp only[e2])⟩)
 ·have hck:ci=k:=by have h:¬(ci:Int)<k:=h;omega
  refine KW.slTo (m:=(ech p L ci).2.length) U U U U U U U U U (by omega) ?_
  refine KW.build U U U U U (built_Matrix _ _ _ _ _) ?_
  subst hck
  refine KW.retM1 U U U U (fun H1 g=>?_)
  have hno:=g.n_
  have hbo:=g.blk (j:=2) rfl
  have hbp:=g.blk (j:=3) rfl
  have hpo:=g.ge (H1:=H) (j:=3) rfl
  refine⟨_,_,_,_,rfl,?_,?_⟩
  ·rw[hM]
   exact hb.mlTo g (j:=2) rfl ⟨by have:=ho.1;omega,hbo.2⟩ (fun id hid=>⟨hVl id hid,by have:=(g.froz id (hb.sub id hid)).1;omega⟩) (by omega) (by omega)
  ·have el:((ech p L ci).2.map fun(i:Nat)=>(i:Int)).length=(ech p L ci).2.length:=by simp
   have:=mlI_of (ik:=.i64) (X:=New H.n H1.n) (c:=(ech p L ci).2.length) (ys:=(ech p L ci).2.map fun(i:Nat)=>(i:Int)) ⟨hpo,hbp.2⟩ hbp.1 rfl (by rw[el];exact Nat.le_refl _) (by simp) (fun j x hx=>by
    rw[List.getElem?_map] at hx ⊢
    cases hj:(ech p L ci).2[j]? with
    | none=>rw[hj] at hx;cases hx
    | some z=>rw[hj] at hx;cases hx;rfl)
   rw[el] at this
   exact this
end
theorem OkMat.rect {p c:Int} {L:List (List Int)} (h:OkMat p c L) {k:Nat} (hk:c=k):Rect p k L:=fun r hr=>by
 have h1:=h.row r hr
 exact⟨by have:=h1.1;omega,fun x hx=>by have:=h1.2 x hx;omega⟩
def rkM (p c:Int) (L:List (List Int)):Int:=((ech p L c.toNat).2.length:Nat)
section
variable {S:Ids} {H0:AH}
theorem rankM {p:Int} {k:Nat} (hp:2≤p∧p≤31) (hk:k≤1000) {L:List (List Int)} (hB:B_Int64SS L) (hL:Rect p k L) {a c} (hs:KI.sl.Sl S H0 (.slice a L.length c) L):SpecM Try.prog S H0 70 [.agg #[.int .i64 p,.int .i64 k,.slice a L.length c]] (fun _ v _=>v=.int .i64 (rkM p k L)):=by
 refine SpecM.of1 Try.func70 rfl (by kernel_rfl) rfl (fun H _=>?_)
 refine KW.callN1 U U U U U (echelon hp hk hB hL hs.up) (fun v HC SC mC _ _ hv=>?_)
 obtain⟨a1,c1,a2,c2,rfl,_,_⟩:=hv
 refine KW.retM1 U U U U (fun H1 g=>rfl)
theorem impl_RankOf' {p c:Int} (hp:I64 p) {L:List (List Int)} (hB:B_Int64SS L) {a m} (hs:KI.sl.Sl S H0 (.slice a L.length m) L):SpecM Try.prog S H0 15 [.agg #[.int .i64 p,.int .i64 c,.slice a L.length m]] (fun _ v _=>v=.tuple #[.int .i64 (if tv (OkMat p c L) then rkM p c L else 0),.int .i64 (if tv (OkMat p c L) then 0 else 1)]):=by
 refine SpecM.of1 Try.func15 rfl (by kernel_rfl) rfl (fun H _=>?_)
 refine KW.callE U U U U U (validMatrix p c hp hB hs.up) (fun _ _=>?_)
 by_cases hM:OkMat p c L
 ·rw[tv_true hM]
  obtain⟨k,hk⟩:∃k:Nat,c=k:=⟨c.toNat,by have:=hM.c0;omega⟩
  subst hk
  have h2:=hM.pr
  refine KW.cF U U (by first | (simp;done) | decide) ?_
  refine KW.callN1 U U U U U (rankM ⟨h2.1,h2.2.1⟩ (by have:=hM.c1;omega) hB (hM.rect rfl) hs.up) (fun v HC SC mC _ _ hv=>?_)
  obtain rfl:=hv
  refine KW.retM1 U U U U (fun H1 g=>rfl)
 ·rw[tv_false hM]
  refine KW.cT U U (by first | (simp;done) | decide) ?_
  refine KW.retM1 U U U U (fun H1 g=>rfl)
end
theorem built_Matrix2 (p c:Int):Try.prog.built 26 [(0,.int .i64 p),(1,.int .i64 c)]=some #[.int .i64 p,.int .i64 c,.slice none 0 0]:=by kernel_rfl
structure CpS where
 i:Nat
 S:Ids
 A:AH
 V:Ids
 cs:List Value
 l:Value
 tail:List Var
structure CpI (xs:List (List Int)) (H HB:AH) (SB:Ids) (s:CpS):Prop where
 rw:RwI (fun x=>x) xs H SB HB ⟨s.i,s.S,s.A,s.V,s.cs,0⟩
 form:(s.i=0∧s.l=.slice none 0 0∧s.tail=[]∧s.cs=[])∨(0<s.i∧∃o,s.l=.slice (some ⟨o,0,some 1⟩) s.i s.i∧s.tail=[(o,⟨36,true,s.cs⟩)])
section
variable {S:Ids} {H0:AH}
end
section
variable {S:Ids} {H0:AH}
end
section
variable {S:Ids} {H0:AH}
end
def selR (L:List (List Int)) (R:List Int):List (List Int):=R.map fun i=>L.getD i.toNat []
theorem selR_len {L:List (List Int)} {R:List Int}:(selR L R).length=R.length:=by simp[selR]
def MkMx (p c:Int) (xs:List (List Int)) (n:Nat) (v:Value) (H1:AH):Prop:=∃a m,v=.agg #[.int .i64 p,.int .i64 c,.slice a xs.length m]∧KI.sl.Sl (New n H1.n) H1 (.slice a xs.length m) xs
def MkMxO (p c:Int) (xs:List (List Int)) (n:Nat) (v:Value) (H1:AH):Prop:=(xs=[]∧v=.agg #[.int .i64 p,.int .i64 c,.slice none 0 0])∨(xs≠[]∧∃(o:Nat) (cs:List Value),v=.agg #[.int .i64 p,.int .i64 c,.slice (some ⟨o,0,some 1⟩) xs.length xs.length]∧KI.sl.Sl (New n H1.n) H1 (.slice (some ⟨o,0,some 1⟩) xs.length xs.length) xs∧New n H1.n o∧H1.m o=some ⟨36,true,cs⟩∧cs.length=xs.length∧∀(i:Nat) x,xs[i]?=some x→∃v,cs[i]?=some v∧KI.Sl (fun id=>New n H1.n id∧id≠o) H1 v x)
theorem MkMxO.mx {p c:Int} {xs:List (List Int)} {n:Nat} {v:Value} {H1:AH} (h:MkMxO p c xs n v H1):MkMx p c xs n v H1:=by
  rcases h with⟨rfl,rfl⟩ | ⟨_,o,cs,rfl,h,_⟩
  · exact⟨none,0,rfl,.inl ⟨rfl,_,_,rfl,fun _=>rfl⟩⟩
  · exact⟨_,_,rfl,h⟩
structure CqI {α:Type} (f:α→List Int) (xs:List α) (H HB:AH) (SB:Ids) (s:CpS):Prop where
  rw:RwI f xs H SB HB ⟨s.i,s.S,s.A,s.V,s.cs,0⟩
  form:(s.i=0∧s.l=.slice none 0 0∧s.tail=[]∧s.cs=[])∨(0<s.i∧∃o,s.l=.slice (some ⟨o,0,some 1⟩) s.i s.i∧s.tail=[(o,⟨36,true,s.cs⟩)])
section
variable {S:Ids} {H0:AH}
theorem rowsAtO {p c:Int} {a1 c1 a2 c2} {L:List (List Int)} {R:List Int} (hB:B_Int64SS L) (hR:∀x∈R,0≤x∧x<L.length) (hRl:R.length≤1048576) (hs:KI.sl.Sl S H0 (.slice a1 L.length c1) L) (hr:KI.Sl S H0 (.slice a2 R.length c2) R):SpecM Try.prog S H0 156 [.agg #[.int .i64 p,.int .i64 c,.slice a1 L.length c1],.slice a2 R.length c2] (MkMxO p c (selR L R)):=by
  refine SpecM.of1 Try.func156 rfl (by kernel_rfl) rfl (fun H _=>?_)
  have hs:=hs.up (S':=Low H.n) (H':=H)
  have hr:=hr.up (S':=Low H.n) (H':=H)
  refine KW.build U U U U U (built_Matrix2 _ _) ?_
  refine KW.lpM U U (fun s:CpS=>[(2,.pointer (some ⟨H.n,0,some 0⟩)),(4,.pointer (some ⟨H.n+1,0,some 1⟩)),(5,.pointer (some ⟨H.n+2,0,some 2⟩)),(13,.slice a2 R.length c2),(14,.int .i64 R.length),(15,.int .i64 s.i)]) (fun s=>s.S) (fun s=>s.A) (fun s=>[(H.n,⟨26,true,[.int .i64 p,.int .i64 c,.slice a1 L.length c1]⟩),(H.n+1,⟨26,true,[.int .i64 0,.int .i64 0,.slice none 0 0]⟩),(H.n+2,⟨26,true,[.int .i64 p,.int .i64 c,s.l]⟩)]++s.tail) (fun s=>CqI (fun(i:Int)=>L.getD i.toNat []) R H H (Low H.n) s) (fun s=>R.length-s.i) (⟨0,Low H.n,H,fun _=>False,[],.slice none 0 0,[]⟩) (⟨RwI.start,.inl ⟨rfl,rfl,rfl,rfl⟩⟩) ⟨rfl,rfl,rfl,rfl,rfl,rfl,trivial⟩ U U (rfl) (fun s hi bE n=>?_)
  obtain⟨i,S1,A1,V,cs,l,tail⟩:=s
  obtain⟨hq,hform⟩:=hi
  simp only at hq hform
  haveI:Stp (Low H.n) H S1 A1:=⟨hq.old⟩
  have hle:=hq.le
  have hcl:=hq.b.len
  rw[List.length_map,List.length_take] at hcl
  simp only at hle hcl
  have hs1:=hs.up (S':=S1) (H':=A1)
  have hr1:=hr.up (S':=S1) (H':=A1)
  rcases hform with⟨hi0,e1,e2,e3⟩ | ⟨hi0,o,e1,e2⟩
  case' inl=>subst e1 e2 e3
  case' inr=>subst e1 e2
  all_goals
    refine KW.cnd U U (fun j1=>?gin) (fun j1=>?gout)
    case gin=>
      have j1:(i:Int)<R.length:=j1
      refine KW.getI hr1 U U U U U U U U U U U U U U U U (by omega) (j1) (fun x hx=>?_)
      have hx:R[i]?=some x:=hx
      have hxb:=hR x (List.mem_of_getElem? hx)
      refine KW.getL hs1 U U U U U U U U U U U U U U U U (hxb.1) (hxb.2) (fun y ay cy hy hsy=>?_)
      have hyl:=hB.each y (List.mem_of_getElem? hy)
      have hyd:L.getD x.toNat []=y:=by rw[List.getD_eq_getElem?_getD,hy];rfl
      refine KW.ids (fun hlow hvar=>?_)
      have hnA:=(hvar 2 (H.n+2) _ rfl).1
      refine KW.callN1 U U U U U (cloneI hyl hsy) (fun v HC SC mC _ _ hv=>?_)
      obtain⟨a5,c5,rfl,hC⟩:=hv
      rw[← hyd] at hC ⊢
      first
        | (refine KW.app0 (v:=.slice a5 (L.getD x.toNat []).length c5) 3 U U U U U U U U U U U U U U U U U U U U U U (by decide) ?_
           subst hi0
           exact KW.nxt U U (fun H' g=>⟨⟨1,SC,HC,_,_,_,_⟩,⟨hq.next (o':=0) (inferInstance:Stp S1 A1 SC HC).st inferInstance hlow (by omega) hx hC,.inr ⟨by simp only;omega,_,rfl,rfl⟩⟩,by simp only;omega,⟨rfl,rfl,rfl,rfl,rfl,rfl,trivial⟩,g⟩))
        | (refine KW.app1 (xs:=cs) (v:=.slice a5 (L.getD x.toNat []).length c5) 3 4 U U U U U U U U U U U U U U U U U U U U U U U (by omega) (by show(_+1)*24≤_;omega) (by omega) ?_
           exact KW.nxt U U (fun H' g=>⟨⟨i+1,SC,HC,_,_,_,_⟩,⟨hq.next (o':=0) (inferInstance:Stp S1 A1 SC HC).st inferInstance hlow (by omega) hx hC,.inr ⟨by simp only;omega,_,rfl,rfl⟩⟩,by simp only;omega,⟨rfl,rfl,rfl,rfl,rfl,congrArg (Value.int .i64) (inc64 (by omega)),trivial⟩,g⟩))
    case gout=>
      have j1:¬(i:Int)<R.length:=j1
      have he:i=R.length:=by omega
      have el:(selR L R).length=R.length:=selR_len
      refine KW.retM1 U U U U (fun H1 g=>?_)
      first
        | (have h0:R=[]:=List.eq_nil_of_length_eq_zero (by omega)
           subst h0
           exact .inl ⟨rfl,rfl⟩)
        | (have hm:=((⟨hq.le,hq.old,hq.b,hq.v⟩:RwI (fun(i:Int)=>L.getD i.toNat []) R H (Low H.n) H ⟨i,S1,A1,V,cs,o⟩).ml he g (j:=3) rfl (g.ge (H1:=H) (j:=3) rfl)).to (KLe.row (KLe.refl KI))
           have hb:=g.blk (j:=3) rfl
           have hge:=g.ge (H1:=H) (j:=3) rfl
           have hno:=(g.vars 3 _ rfl).2.2
           refine .inr ⟨fun h9=>by rw[h9] at el;simp at el;omega,o,cs,by rw[el,he];rfl,by rw[el];exact hm,⟨hge,hb.2⟩,hb.1,by rw[el,hcl];omega,fun z x hx=>?_⟩
           obtain⟨W,w1,w2,w3⟩:=hq.b.rows
           have hx2:((R.take i).map fun(i:Int)=>L.getD i.toNat [])[z]?=some x:=by rw[he,List.take_length];exact hx
           obtain⟨v,v1,v2⟩:=w3 z x hx2
           refine⟨v,v1,?_⟩
           have v3:KI.Sl (W z) A1 v x:=(ml1 v2).sl
           have inS:∀id,W z id→S1 id:=fun id h=>hq.b.sub id (w1 z id h)
           exact Kn.Sl.more (fun id h=>⟨⟨hq.v id (w1 z id h),by have:=(g.froz id (inS id h)).1;have:=g.n_;omega⟩,fun e=>hno (e ▸ inS id h)⟩) (Kn.Sl.same (fun id h=>(g.froz id (inS id h)).2) v3))
end
theorem rect_sml {p:Int} {k:Nat} {L:List (List Int)} (hL:Rect p k L) (hk:k≤1000) (hl:L.length≤1000):B_Int64SS L:=by
 have h:∀M:List (List Int),(∀r∈M,r.length=k)→sum (lens M)=M.length*k:=by
  intro M
  induction M with
  | nil=>intro _;simp[lens,sum]
  | cons x M ih=>
   intro hM
   have h1:=ih (fun r hr=>hM r (List.mem_cons_of_mem _ hr))
   have h2:=hM x List.mem_cons_self
   simp only[lens,List.map_cons,sum] at h1 ⊢
   rw[h1,h2,List.length_cons,Nat.add_mul]
   omega
 have h1:=h L (fun r hr=>(hL r hr).1)
 have h2:L.length*k≤1000*1000:=Nat.mul_le_mul hl hk
 exact⟨by omega,by rw[h1];omega⟩
def heldR (ow:List Int) (rows:List (List Int)) (x:Nat):List (List Int):=selR rows (rowsP (fun i=>x.testBit (ow.getD i 0).toNat) ow.length)
theorem held_in {h p c:Int} {ow:List Int} {rows:List (List Int)} (hk:OkSch h ow p c rows) {q:Nat→Bool}:∀x∈rowsP q ow.length,0≤x∧x<rows.length:=fun x hx=>by
 have:=rowsP_mem hx
 have:=hk.len
 omega
section
variable {S:Ids} {H0:AH}
theorem heldO (h p c:Int) (x:Nat) (hx:x<4611686018427387904) {a1 c1 a2 c2} {ow:List Int} {rows:List (List Int)} (hO:B_Int64S ow) (hB:B_Int64SS rows) (hk:OkSch h ow p c rows) (ho:KI.Sl S H0 (.slice a1 ow.length c1) ow) (hs:KI.sl.Sl S H0 (.slice a2 rows.length c2) rows):
  SpecM Try.prog S H0 84 [.agg #[.int .i64 h,.slice a1 ow.length c1,.int .i64 p,.int .i64 c,.slice a2 rows.length c2],.int .u64 (x:Int)] (MkMxO p c (heldR ow rows x)):=by
 refine SpecM.of1 Try.func84 rfl (by kernel_rfl) rfl (fun H _=>?_)
 refine KW.callN1 U U U U U (rowsHeld h p c x hx hO hk.own hk.h7 ho.up) (fun v HR SR mR _ _ hv=>?_)
 obtain⟨a5,c5,rfl,hR⟩:=hv
 refine KW.callN1 U U U U U (rowsAtO hB (held_in hk) (by have:=rowsP_len (fun i=>x.testBit (ow.getD i 0).toNat) ow.length;have:ow.length≤1048576:=hO;omega) hs.up hR.ups) (fun v HM SM mM _ _ hv=>?_)
 rcases hv with⟨h0,rfl⟩ | ⟨h0,o,cs,rfl,hM,q1,q2,q3,q4⟩
 ·refine KW.retM1 U U U U (fun H1 g=>.inl ⟨h0,rfl⟩)
 ·refine KW.retM1 U U U U (fun H1 g=>?_)
  haveI o9:=g.out (X:=New HR.n HM.n) (H:=HM) (lo:=H.n) (fun id p=>by have:=p.1;omega)
  refine .inr ⟨h0,o,cs,rfl,hM.up,(o9.st o q1).1,(o9.st o q1).2.trans q2,q3,fun i x hx=>?_⟩
  obtain⟨v,v1,v2⟩:=q4 i x hx
  exact⟨v,v1,Kn.Sl.more (fun id h=>⟨(o9.st id h.1).1,h.2⟩) (Kn.Sl.same (fun id h=>(o9.st id h.1).2) v2)⟩
theorem held (h p c:Int) (x:Nat) (hx:x<4611686018427387904) {a1 c1 a2 c2} {ow:List Int} {rows:List (List Int)} (hO:B_Int64S ow) (hB:B_Int64SS rows) (hk:OkSch h ow p c rows) (ho:KI.Sl S H0 (.slice a1 ow.length c1) ow) (hs:KI.sl.Sl S H0 (.slice a2 rows.length c2) rows):
  SpecM Try.prog S H0 84 [.agg #[.int .i64 h,.slice a1 ow.length c1,.int .i64 p,.int .i64 c,.slice a2 rows.length c2],.int .u64 (x:Int)] (MkMx p c (heldR ow rows x)):=fun H hf hz=>by
 obtain⟨m,v,H1,k1,k2,k3,h9⟩:=heldO h p c x hx hO hB hk ho hs H hf hz
 exact⟨m,v,H1,k1,k2,k3,h9.mx⟩
end
end Go.Proofs.Ytlapbbffoapleaa.Am
namespace Go.Proofs.Ytlapbbffoapleaa.Am
open Go Go.RowKit
theorem KW.freeze {P:Program} {S:Ids} {H0:AH} {Q:PostC} {k:List It} {e:Env} {T:List Var} {n:Nat} (j:Nat) {o:Nat} {b:Blk} (hj:T[j]?=some (o,b))
  (hk:∀(A':AH) (S':Ids),A'.n=n→(∀id,S' id↔S id∨id=o)→Stp S H0 S' A'→A'.m o=some b→o<n→¬S o→(∀id,S id→id<n)→KW P S' A' Q n (T.take j) k e):KW P S H0 Q n T k e:=fun H g=>by
 have hv:=g.vars j _ hj
 have get:∀{i:Nat} {u:Var},(T.take j)[i]?=some u→i<j∧T[i]?=some u:=fun {i u} hi=>by
  rw[List.getElem?_take] at hi
  split at hi
  ·exact⟨by assumption,hi⟩
  ·cases hi
 refine hk H (fun id=>S id∨id=o) g.n_ (fun id=>Iff.rfl) ⟨fun id hid=>⟨.inl hid,(g.froz id hid).2⟩⟩ hv.1 hv.2.1 hv.2.2 (fun id hid=>(g.froz id hid).1) H ?_
 refine⟨g.n_,g.fin,fun id hid=>⟨?_,rfl⟩,fun i u hi=>?_,fun i1 i2 u w h1 h2 he=>g.dist i1 i2 u w (get h1).2 (get h2).2 he⟩
 ·rcases hid with hid | rfl
  ·exact(g.froz id hid).1
  ·exact hv.2.1
 ·obtain⟨h1,h2⟩:=get hi
  have h3:=g.vars i u h2
  refine⟨h3.1,h3.2.1,fun h=>?_⟩
  rcases h with h | h
  ·exact h3.2.2 h
  ·have:=g.dist i j u _ h2 hj h;omega
theorem RwI.nextX {α:Type} {f:α→List Int} {xs:List α} {H HB HC:AH} {SB SC X:Ids} {s:RwS} {o':Nat} {y:α} {v:Value} (h:RwI f xs H SB HB s) (t:St s.S s.A SC HC) (hX:∀id,X id→SC id∧H.n≤id∧¬s.S id) (hy:xs[s.i]?=some y) (hc:KI.Ml X HC v (f y)):RwI f xs H SB HB ⟨s.i+1,SC,HC,fun id=>s.V id∨X id,s.cs++[v],o'⟩:=by
 obtain⟨hil,rfl⟩:=List.getElem?_eq_some_iff.1 hy
 haveI o1:On s.S s.A SC HC:=⟨t⟩
 refine⟨by simp only;omega,h.old.trans t,?_,fun id hid=>hid.elim (h.v id) (fun p=>(hX id p).2.1)⟩
 simp only
 rw[List.take_succ_eq_append_getElem hil,List.map_append]
 exact(h.b.up (S':=SC) (A':=HC)).snoc (ml1' hc) (fun id hid=>(hX id hid).1) (fun id p q=>(hX id q).2.2 (h.b.sub id p))
theorem row_ml {A:AH} {o:Nat} {ty:TypeId} {xs:List Int} (h:A.m o=some ⟨ty,true,xs.map (Value.int .i64)⟩):KI.Ml (fun id=>id=o) A (.slice (some ⟨o,0,some 1⟩) xs.length xs.length) xs:=int_ml rfl h U U (Nat.le_refl _)
end Go.Proofs.Ytlapbbffoapleaa.Am
namespace Go.Proofs.Ytlapbbffoapleaa.Am
open Go Go.RowKit Go.Proofs Go.Proofs.Ytlapbbffoapleaa.Pl
def colL (L:List (List Int)) (c:Nat):List Int:=L.map fun r=>r.getD c 0
def trL (L:List (List Int)) (k:Nat):List (List Int):=(List.range k).map (colL L)
theorem trL_len {L:List (List Int)} {k:Nat}:(trL L k).length=k:=by simp[trL]
theorem colL_len {L:List (List Int)} {c:Nat}:(colL L c).length=L.length:=by simp[colL]
theorem colL_next {L:List (List Int)} {c i:Nat} {r:List Int} (h:L[i]?=some r):colL (L.take (i+1)) c=colL (L.take i) c++[r.getD c 0]:=map_take_succ _ h
theorem colL_rect {p:Int} {k:Nat} {L:List (List Int)} (h:Rect p k L) {c:Nat} (hc:c<k):∀x∈colL L c,0≤x∧x<p:=fun x hx=>by
  obtain⟨r,hr,rfl⟩:=List.mem_map.1 hx
  have h1:=h r hr
  rw[List.getD_eq_getElem?_getD,List.getElem?_eq_getElem (by omega)]
  exact h1.2 _ (List.getElem_mem _)
theorem trL_rect {p:Int} {k:Nat} {L:List (List Int)} (h:Rect p k L):Rect p L.length (trL L k):=fun r hr=>by
  obtain⟨c,hc,rfl⟩:=List.mem_map.1 hr
  exact⟨colL_len,colL_rect h (List.mem_range.1 hc)⟩
theorem range_at {k i:Nat} (h:i<k):(List.range k)[i]?=some i:=by rw[List.getElem?_range h]
section
variable {S:Ids} {H0:AH}
theorem transposed {p:Int} {k:Nat} (hk:k≤1000) {L:List (List Int)} (hLl:L.length≤1000) (hL:Rect p k L) {a1 c1} (hs0:KI.sl.Sl S H0 (.slice a1 L.length c1) L):SpecM Try.prog S H0 71 [.agg #[.int .i64 p,.int .i64 k,.slice a1 L.length c1]] (MkMx p (L.length:Nat) (trL L k)):=by
  refine SpecM.of1 Try.func71 rfl (by kernel_rfl) rfl (fun H _=>?_)
  have hs:=hs0.up (S':=Low H.n) (H':=H)
  refine KW.build U U U U U (built_Matrix2 _ _) ?_
  refine KW.lpM U U (fun s:CpS=>[(1,.pointer (some ⟨H.n,0,some 0⟩)),(2,.pointer (some ⟨H.n+1,0,some 1⟩)),(3,.pointer (some ⟨H.n+2,0,some 2⟩)),(15,.int .i64 k),(16,.int .i64 s.i)]) (fun s=>s.S) (fun s=>s.A) (fun s=>[(H.n,⟨26,true,[.int .i64 p,.int .i64 k,.slice a1 L.length c1]⟩),(H.n+1,⟨26,true,[.int .i64 0,.int .i64 0,.slice none 0 0]⟩),(H.n+2,⟨26,true,[.int .i64 p,.int .i64 L.length,s.l]⟩)]++s.tail) (fun s=>CqI (colL L) (List.range k) H H (Low H.n) s) (fun s=>k-s.i) (⟨0,Low H.n,H,fun _=>False,[],.slice none 0 0,[]⟩) (⟨RwI.start,.inl ⟨rfl,rfl,rfl,rfl⟩⟩) ⟨rfl,rfl,rfl,rfl,rfl,trivial⟩ U U (rfl) (fun s hi bE n=>?_)
  obtain⟨i,S1,A1,V,cs,l,tail⟩:=s
  obtain⟨hq,hform⟩:=hi
  simp only at hq hform
  haveI:Stp (Low H.n) H S1 A1:=⟨hq.old⟩
  have hle:=hq.le
  have hcl:=hq.b.len
  rw[List.length_map,List.length_take] at hcl
  simp only[List.length_range] at hle hcl
  have hs1:=hs.up (S':=S1) (H':=A1)
  rcases hform with⟨hi0,e1,e2,e3⟩ | ⟨hi0,o,e1,e2⟩
  case' inl=>subst e1 e2 e3
  case' inr=>subst e1 e2
  all_goals
    refine KW.cnd U U (fun j1=>?gin) (fun j1=>?gout)
    case gin=>
      have j1:(i:Int)<(k:Int):=j1
      refine KW.lit U U U U U U U U U U [] U U (fun v hv=>by simp at hv) rfl ?_
      first
        | (refine KW.lpM U U (fun q:Nat × Nat=>[(1,.pointer (some ⟨H.n,0,some 0⟩)),(2,.pointer (some ⟨H.n+1,0,some 1⟩)),(3,.pointer (some ⟨H.n+2,0,some 2⟩)),(4,.int .i64 i),(5,.slice (some ⟨q.2,0,some 1⟩) (colL (L.take q.1) i).length (colL (L.take q.1) i).length),(15,.int .i64 k),(16,.int .i64 i),(21,.slice a1 L.length c1),(22,.int .i64 L.length),(23,.int .i64 q.1)]) (fun _=>S1) (fun _=>A1) (fun q=>[(H.n,⟨26,true,[.int .i64 p,.int .i64 k,.slice a1 L.length c1]⟩),(H.n+1,⟨26,true,[.int .i64 0,.int .i64 0,.slice none 0 0]⟩),(H.n+2,⟨26,true,[.int .i64 p,.int .i64 L.length,.slice none 0 0]⟩),(q.2,⟨_,true,(colL (L.take q.1) i).map (Value.int .i64)⟩)]) (fun q=>q.1≤L.length) (fun q=>L.length-q.1) (0,_) (by simp) ⟨rfl,rfl,rfl,rfl,rfl,rfl,rfl,rfl,rfl,rfl,trivial⟩ U U U (fun q hj bE n=>?_))
        | (refine KW.lpM U U (fun q:Nat × Nat=>[(1,.pointer (some ⟨H.n,0,some 0⟩)),(2,.pointer (some ⟨H.n+1,0,some 1⟩)),(3,.pointer (some ⟨H.n+2,0,some 2⟩)),(4,.int .i64 i),(5,.slice (some ⟨q.2,0,some 1⟩) (colL (L.take q.1) i).length (colL (L.take q.1) i).length),(15,.int .i64 k),(16,.int .i64 i),(21,.slice a1 L.length c1),(22,.int .i64 L.length),(23,.int .i64 q.1)]) (fun _=>S1) (fun _=>A1) (fun q=>[(H.n,⟨26,true,[.int .i64 p,.int .i64 k,.slice a1 L.length c1]⟩),(H.n+1,⟨26,true,[.int .i64 0,.int .i64 0,.slice none 0 0]⟩),(H.n+2,⟨26,true,[.int .i64 p,.int .i64 L.length,.slice (some ⟨o,0,some 1⟩) i i]⟩),(o,⟨36,true,cs⟩),(q.2,⟨_,true,(colL (L.take q.1) i).map (Value.int .i64)⟩)]) (fun q=>q.1≤L.length) (fun q=>L.length-q.1) (0,_) (by simp) ⟨rfl,rfl,rfl,rfl,rfl,rfl,rfl,rfl,rfl,rfl,trivial⟩ U U U (fun q hj bE n=>?_))
      obtain⟨j,o2⟩:=q
      simp only at hj
      have hjl:(colL (L.take j) i).length=j:=by rw[colL_len,List.length_take];omega
      refine KW.cnd U U (fun j2=>?gin2) (fun j2=>?gout2)
      case gin2=>
        have j2:(j:Int)<(L.length:Int):=j2
        refine KW.getL hs1 U U U U U U U U U U U U U U U U (by omega) (j2) (fun y ay cy hy hsy=>?_)
        have hy:L[j]?=some y:=hy
        have hym:=hL y (List.mem_of_getElem? hy)
        refine KW.getI hsy U U U U U U U U U U U U U U U U (by omega) (by omega) (fun z hz=>?_)
        have hz:y[i]?=some z:=hz
        have hzd:y.getD i 0=z:=getD_of hz
        have enx:=colL_next (c:=i) hy
        rw[hzd] at enx
        first
          | (refine KW.app1 (xs:=(colL (L.take j) i).map (Value.int .i64)) (v:=.int .i64 z) 3 4 U U U U U U U U U U U U U U U U U U U U U U U (by simp) (by show(_+1)*8≤_;simp only;omega) (by simp only;omega) ?_
             exact KW.nxt U U (fun H' g=>⟨(j+1,_),by simp only;omega,by simp only;omega,⟨rfl,rfl,rfl,rfl,by simp only[enx,List.length_append,List.length_singleton];rfl,rfl,rfl,rfl,rfl,congrArg (Value.int .i64) (inc64 (by omega)),trivial⟩,g.eqT (by simp only[enx,List.map_append];rfl)⟩))
          | (refine KW.app1 (xs:=(colL (L.take j) i).map (Value.int .i64)) (v:=.int .i64 z) 4 5 U U U U U U U U U U U U U U U U U U U U U U U (by simp) (by show(_+1)*8≤_;simp only;omega) (by simp only;omega) ?_
             exact KW.nxt U U (fun H' g=>⟨(j+1,_),by simp only;omega,by simp only;omega,⟨rfl,rfl,rfl,rfl,by simp only[enx,List.length_append,List.length_singleton];rfl,rfl,rfl,rfl,rfl,congrArg (Value.int .i64) (inc64 (by omega)),trivial⟩,g.eqT (by simp only[enx,List.map_append];rfl)⟩))
      case gout2=>
        obtain rfl:j=L.length:=by have j2:¬(j:Int)<(L.length:Int):=j2;omega
        rw[List.take_of_length_le (Nat.le_refl _)]
        refine KW.fact (fun _ g=>g.nle (H1:=H)) (fun hn0=>?_)
        first
          | (refine KW.freeze 4 rfl (fun A' S' hnA hSA stA hmA hoA hnS hlow=>?_)
             have hoH:H.n≤o2:=by
               rcases Nat.lt_or_ge o2 H.n with h | h
               · exact absurd (hq.old o2 h).1 hnS
               · exact h
             refine KW.app1 (xs:=cs) (v:=.slice (some ⟨o2,0,some 1⟩) (colL L i).length (colL L i).length) 3 4 U U U U U U U U U U U U U U U U U U U U U U U (by omega) (by show(_+1)*24≤_;omega) (by omega) ?_
             exact KW.nxt U U (fun H' g=>⟨⟨i+1,S',A',_,_,_,_⟩,⟨hq.nextX (o':=0) stA.st (X:=fun id=>id=o2) (fun id e=>by subst e;exact⟨(hSA _).2 (.inr rfl),hoH,hnS⟩) (show(List.range k)[i]?=some i from range_at (by omega)) (row_ml hmA),.inr ⟨by simp only;omega,_,rfl,rfl⟩⟩,by simp only;omega,⟨rfl,rfl,rfl,rfl,congrArg (Value.int .i64) (inc64 (by omega)),trivial⟩,g⟩))
          | (refine KW.freeze 3 rfl (fun A' S' hnA hSA stA hmA hoA hnS hlow=>?_)
             have hoH:H.n≤o2:=by
               rcases Nat.lt_or_ge o2 H.n with h | h
               · exact absurd (hq.old o2 h).1 hnS
               · exact h
             refine KW.app0 (v:=.slice (some ⟨o2,0,some 1⟩) (colL L i).length (colL L i).length) 3 U U U U U U U U U U U U U U U U U U U U U U (by decide) ?_
             subst hi0
             exact KW.nxt U U (fun H' g=>⟨⟨1,S',A',_,_,_,_⟩,⟨hq.nextX (o':=0) stA.st (X:=fun id=>id=o2) (fun id e=>by subst e;exact⟨(hSA _).2 (.inr rfl),hoH,hnS⟩) (show(List.range k)[0]?=some 0 from range_at (by omega)) (row_ml hmA),.inr ⟨by simp only;omega,_,rfl,rfl⟩⟩,by simp only;omega,⟨rfl,rfl,rfl,rfl,rfl,trivial⟩,g⟩))
    case gout=>
      have j1:¬(i:Int)<(k:Int):=j1
      have he:i=k:=by omega
      have el:(trL L k).length=k:=trL_len
      refine KW.retM1 U U U U (fun H1 g=>?_)
      first
        | (have h0:k=0:=by omega
           subst h0
           exact⟨none,0,rfl,.inl ⟨rfl,_,_,rfl,fun _=>rfl⟩⟩)
        | (refine⟨_,_,by rw[el,he];rfl,?_⟩
           have hm:=((⟨hq.le,hq.old,hq.b,hq.v⟩:RwI (colL L) (List.range k) H (Low H.n) H ⟨i,S1,A1,V,cs,o⟩).ml (by rw[List.length_range];exact he) g (j:=3) rfl (g.ge (H1:=H) (j:=3) rfl)).to (KLe.row (KLe.refl KI))
           rw[List.length_range] at hm
           rw[el]
           exact hm)
end
section
variable {S:Ids} {H0:AH}
end
def prodL (p:Int) (L C:List (List Int)):List (List Int):=L.map fun r=>C.map (dotS p r)
def MkMo (p c:Int) (xs:List (List Int)) (n:Nat) (v:Value) (H1:AH):Prop:=∃a m,v=.agg #[.int .i64 p,.int .i64 c,.slice a xs.length m]∧KI.ml.Ml (New n H1.n) H1 (.slice a xs.length m) xs
section
variable {S:Ids} {H0:AH}
theorem productOf {p:Int} {k k2:Nat} {L M:List (List Int)} (hm:OkMat p k L) (hn:OkMat p k2 M) (hkM:M.length=k) (hBL:B_Int64SS L) (hBM:B_Int64SS M) {a1 c1 a2 c2} (hs0:KI.sl.Sl S H0 (.slice a1 L.length c1) L) (hs2:KI.sl.Sl S H0 (.slice a2 M.length c2) M):SpecM Try.prog S H0 16 [.agg #[.int .i64 p,.int .i64 k,.slice a1 L.length c1],.agg #[.int .i64 p,.int .i64 k2,.slice a2 M.length c2]] (fun n v H1=>∃v',v=.tuple #[v',.int .i64 0]∧MkMo p k2 (prodL p L (trL M k2)) n v' H1):=by
  have hp:=hm.pr
  have hpI:I64 p:=by have:=hp.1;have:=hp.2.1;unfold I64;omega
  have hk12:=hm.c1
  have hk212:=hn.c1
  have hLl:=hm.len
  have hMl:=hn.len
  have hRL:Rect p k L:=hm.rect rfl
  have hRM:Rect p k2 M:=hn.rect rfl
  refine SpecM.of1 Try.func16 rfl (by kernel_rfl) rfl (fun H _=>?_)
  refine KW.callE U U U U U (validMatrix p k hpI hBL hs0.up) (fun _ _=>?_)
  rw[tv_true hm]
  refine KW.tF U U (by first | (simp;done) | decide) ?_
  refine KW.callE U U U U U (validMatrix p k2 hpI hBM hs2.up) (fun _ _=>?_)
  rw[tv_true hn]
  refine KW.cF U U (by first | (simp;done) | decide) ?_
  refine KW.tF U U (by first | (simp;done) | decide) ?_
  refine KW.cF U U (by rw[hkM];simp) ?_
  refine KW.build U U U U U (built_Matrix2 _ _) ?_
  refine KW.callN1 U U U U U (transposed (p:=p) (k:=k2) (by omega) (by omega) hRM hs2.up) (fun v HT ST mT _ _ hv=>?_)
  obtain⟨a3,c3,rfl,hT⟩:=hv
  have hCl:(trL M k2).length=k2:=trL_len
  have hRC:Rect p M.length (trL M k2):=trL_rect hRM
  generalize trL M k2=C at *
  have hsT:=hs0.up (S':=ST) (H':=HT)
  refine KW.lpM U U (fun s:CpS=>[(2,.pointer (some ⟨H.n,0,some 0⟩)),(3,.pointer (some ⟨H.n+1,0,some 1⟩)),(4,.pointer (some ⟨H.n+2,0,some 2⟩)),(5,.int .i64 0),(6,.pointer (some ⟨HT.n,0,some 3⟩)),(7,.slice a3 C.length c3),(45,.slice a1 L.length c1),(46,.int .i64 L.length),(47,.int .i64 s.i)]) (fun s=>s.S) (fun s=>s.A) (fun s=>[(H.n,⟨26,true,[.int .i64 p,.int .i64 k,.slice a1 L.length c1]⟩),(H.n+1,⟨26,true,[.int .i64 p,.int .i64 k2,.slice a2 M.length c2]⟩),(H.n+2,⟨26,true,[.int .i64 0,.int .i64 0,.slice none 0 0]⟩),(HT.n,⟨26,true,[.int .i64 p,.int .i64 k2,s.l]⟩)]++s.tail) (fun s=>CqI (fun r=>C.map (dotS p r)) L H HT ST s) (fun s=>L.length-s.i) (⟨0,ST,HT,fun _=>False,[],.slice none 0 0,[]⟩) (⟨RwI.start,.inl ⟨rfl,rfl,rfl,rfl⟩⟩) ⟨rfl,rfl,rfl,rfl,rfl,rfl,rfl,rfl,rfl,trivial⟩ U U (rfl) (fun s hi bE n=>?_)
  obtain⟨i,S1,A1,V,cs,l,tail⟩:=s
  obtain⟨hq,hform⟩:=hi
  simp only at hq hform
  haveI:Stp ST HT S1 A1:=⟨hq.old⟩
  have hle:=hq.le
  have hcl:=hq.b.len
  rw[List.length_map,List.length_take] at hcl
  simp only at hle hcl
  have hs1:=hsT.up (S':=S1) (H':=A1)
  have hC1:=hT.up (S':=S1) (H':=A1)
  rcases hform with⟨hi0,e1,e2,e3⟩ | ⟨hi0,o,e1,e2⟩
  case' inl=>subst e1 e2 e3
  case' inr=>subst e1 e2
  all_goals
    refine KW.cnd U U (fun j1=>?gin) (fun j1=>?gout)
    case gin=>
      have j1:(i:Int)<(L.length:Int):=j1
      refine KW.getL hs1 U U U U U U U U U U U U U U U U (by omega) (j1) (fun y ay cy hy hsy=>?_)
      have hy:L[i]?=some y:=hy
      have hym:=hRL y (List.mem_of_getElem? hy)
      have hye:Elems p y:=fun x hx=>by have:=hym.2 x hx;omega
      refine KW.lit U U U U U U U U U U [] U U (fun v hv=>by simp at hv) rfl ?_
      first
        | (refine KW.lpM U U (fun q:Nat × Nat=>[(2,.pointer (some ⟨H.n,0,some 0⟩)),(3,.pointer (some ⟨H.n+1,0,some 1⟩)),(4,.pointer (some ⟨H.n+2,0,some 2⟩)),(5,.int .i64 0),(6,.pointer (some ⟨HT.n,0,some 3⟩)),(7,.slice a3 C.length c3),(9,.slice ay y.length cy),(10,.slice (some ⟨q.2,0,some 1⟩) ((C.take q.1).map (dotS p y)).length ((C.take q.1).map (dotS p y)).length),(45,.slice a1 L.length c1),(46,.int .i64 L.length),(47,.int .i64 i),(52,.slice a3 C.length c3),(53,.int .i64 C.length),(54,.int .i64 q.1)]) (fun _=>S1) (fun _=>A1) (fun q=>[(H.n,⟨26,true,[.int .i64 p,.int .i64 k,.slice a1 L.length c1]⟩),(H.n+1,⟨26,true,[.int .i64 p,.int .i64 k2,.slice a2 M.length c2]⟩),(H.n+2,⟨26,true,[.int .i64 0,.int .i64 0,.slice none 0 0]⟩),(HT.n,⟨26,true,[.int .i64 p,.int .i64 k2,.slice (some ⟨o,0,some 1⟩) i i]⟩),(o,⟨36,true,cs⟩),(q.2,⟨_,true,((C.take q.1).map (dotS p y)).map (Value.int .i64)⟩)]) (fun q=>q.1≤C.length) (fun q=>C.length-q.1) (0,_) (by simp) ⟨rfl,rfl,rfl,rfl,rfl,rfl,rfl,rfl,rfl,rfl,rfl,rfl,rfl,rfl,trivial⟩ U U U (fun q hj bE n=>?_))
        | (refine KW.lpM U U (fun q:Nat × Nat=>[(2,.pointer (some ⟨H.n,0,some 0⟩)),(3,.pointer (some ⟨H.n+1,0,some 1⟩)),(4,.pointer (some ⟨H.n+2,0,some 2⟩)),(5,.int .i64 0),(6,.pointer (some ⟨HT.n,0,some 3⟩)),(7,.slice a3 C.length c3),(9,.slice ay y.length cy),(10,.slice (some ⟨q.2,0,some 1⟩) ((C.take q.1).map (dotS p y)).length ((C.take q.1).map (dotS p y)).length),(45,.slice a1 L.length c1),(46,.int .i64 L.length),(47,.int .i64 i),(52,.slice a3 C.length c3),(53,.int .i64 C.length),(54,.int .i64 q.1)]) (fun _=>S1) (fun _=>A1) (fun q=>[(H.n,⟨26,true,[.int .i64 p,.int .i64 k,.slice a1 L.length c1]⟩),(H.n+1,⟨26,true,[.int .i64 p,.int .i64 k2,.slice a2 M.length c2]⟩),(H.n+2,⟨26,true,[.int .i64 0,.int .i64 0,.slice none 0 0]⟩),(HT.n,⟨26,true,[.int .i64 p,.int .i64 k2,.slice none 0 0]⟩),(q.2,⟨_,true,((C.take q.1).map (dotS p y)).map (Value.int .i64)⟩)]) (fun q=>q.1≤C.length) (fun q=>C.length-q.1) (0,_) (by simp) ⟨rfl,rfl,rfl,rfl,rfl,rfl,rfl,rfl,rfl,rfl,rfl,rfl,rfl,rfl,trivial⟩ U U U (fun q hj bE n=>?_))
      obtain⟨j,o2⟩:=q
      simp only at hj
      have hjl:((C.take j).map (dotS p y)).length=j:=by rw[List.length_map,List.length_take];omega
      refine KW.cnd U U (fun j2=>?gin2) (fun j2=>?gout2)
      case gin2=>
        have j2:(j:Int)<(C.length:Int):=j2
        refine KW.getL hC1 U U U U U U U U U U U U U U U U (by omega) (j2) (fun z az cz hz hsz=>?_)
        have hz:C[j]?=some z:=hz
        have hzm:=hRC z (List.mem_of_getElem? hz)
        refine KW.callE U U U U U (dot p hp (by omega) (by omega) hye (fun x hx=>by have:=hzm.2 x hx;omega) hsy hsz) (fun _ _=>?_)
        have enx:(C.take (j+1)).map (dotS p y)=(C.take j).map (dotS p y)++[dotS p y z]:=map_take_succ _ hz
        first
          | (refine KW.app1 (xs:=((C.take j).map (dotS p y)).map (Value.int .i64)) (v:=.int .i64 (dotS p y z)) 5 6 U U U U U U U U U U U U U U U U U U U U U U U (by simp) (by show(_+1)*8≤_;simp only;omega) (by simp only;omega) ?_
             exact KW.nxt U U (fun H' g=>⟨(j+1,_),by simp only;omega,by simp only;omega,⟨rfl,rfl,rfl,rfl,rfl,rfl,rfl,by simp only[enx,List.length_append,List.length_singleton];rfl,rfl,rfl,rfl,rfl,rfl,congrArg (Value.int .i64) (inc64 (by omega)),trivial⟩,g.eqT (by simp only[enx,List.map_append];rfl)⟩))
          | (refine KW.app1 (xs:=((C.take j).map (dotS p y)).map (Value.int .i64)) (v:=.int .i64 (dotS p y z)) 4 5 U U U U U U U U U U U U U U U U U U U U U U U (by simp) (by show(_+1)*8≤_;simp only;omega) (by simp only;omega) ?_
             exact KW.nxt U U (fun H' g=>⟨(j+1,_),by simp only;omega,by simp only;omega,⟨rfl,rfl,rfl,rfl,rfl,rfl,rfl,by simp only[enx,List.length_append,List.length_singleton];rfl,rfl,rfl,rfl,rfl,rfl,congrArg (Value.int .i64) (inc64 (by omega)),trivial⟩,g.eqT (by simp only[enx,List.map_append];rfl)⟩))
      case gout2=>
        obtain rfl:j=C.length:=by have j2:¬(j:Int)<(C.length:Int):=j2;omega
        rw[List.take_of_length_le (Nat.le_refl _)]
        first
          | (refine KW.freeze 5 rfl (fun A' S' hnA hSA stA hmA hoA hnS hlow=>?_)
             have hoH:H.n≤o2:=by
               rcases Nat.lt_or_ge o2 H.n with h | h
               · exact absurd (hq.old o2 ((inferInstance:On (Low H.n) H ST HT).st o2 h).1).1 hnS
               · exact h
             refine KW.app1 (xs:=cs) (v:=.slice (some ⟨o2,0,some 1⟩) (C.map (dotS p y)).length (C.map (dotS p y)).length) 4 5 U U U U U U U U U U U U U U U U U U U U U U U (by omega) (by show(_+1)*24≤_;omega) (by omega) ?_
             exact KW.nxt U U (fun H' g=>⟨⟨i+1,S',A',_,_,_,_⟩,⟨hq.nextX (o':=0) stA.st (X:=fun id=>id=o2) (fun id e=>by subst e;exact⟨(hSA _).2 (.inr rfl),hoH,hnS⟩) hy (row_ml hmA),.inr ⟨by simp only;omega,_,rfl,rfl⟩⟩,by simp only;omega,⟨rfl,rfl,rfl,rfl,rfl,rfl,rfl,rfl,congrArg (Value.int .i64) (inc64 (by omega)),trivial⟩,g⟩))
          | (refine KW.freeze 4 rfl (fun A' S' hnA hSA stA hmA hoA hnS hlow=>?_)
             have hoH:H.n≤o2:=by
               rcases Nat.lt_or_ge o2 H.n with h | h
               · exact absurd (hq.old o2 ((inferInstance:On (Low H.n) H ST HT).st o2 h).1).1 hnS
               · exact h
             refine KW.app0 (v:=.slice (some ⟨o2,0,some 1⟩) (C.map (dotS p y)).length (C.map (dotS p y)).length) 4 U U U U U U U U U U U U U U U U U U U U U U (by decide) ?_
             subst hi0
             exact KW.nxt U U (fun H' g=>⟨⟨1,S',A',_,_,_,_⟩,⟨hq.nextX (o':=0) stA.st (X:=fun id=>id=o2) (fun id e=>by subst e;exact⟨(hSA _).2 (.inr rfl),hoH,hnS⟩) hy (row_ml hmA),.inr ⟨by simp only;omega,_,rfl,rfl⟩⟩,by simp only;omega,⟨rfl,rfl,rfl,rfl,rfl,rfl,rfl,rfl,rfl,trivial⟩,g⟩))
    case gout=>
      have j1:¬(i:Int)<(L.length:Int):=j1
      have he:i=L.length:=by omega
      have el:(prodL p L C).length=L.length:=by simp[prodL]
      refine KW.retM1 U U U U (fun H1 g=>?_)
      first
        | (have h0:L=[]:=List.eq_nil_of_length_eq_zero (by omega)
           subst h0
           exact⟨_,rfl,none,0,rfl,.inl ⟨rfl,_,_,rfl,fun _=>rfl⟩⟩)
        | (refine⟨_,rfl,_,_,by rw[el,he];rfl,?_⟩
           have hm:=(⟨hq.le,hq.old,hq.b,hq.v⟩:RwI (fun r=>C.map (dotS p r)) L H ST HT ⟨i,S1,A1,V,cs,o⟩).ml he g (j:=4) rfl (g.ge (H1:=H) (j:=4) rfl)
           rw[el]
           exact hm)
end
end Go.Proofs.Ytlapbbffoapleaa.Am
namespace Go.Proofs.Ytlapbbffoapleaa.Am
open Go Go.RowKit
def dif (a b:Nat):Nat:=a ^^^ (a &&& b)
section
variable {l:List Int} {m:Nat}
end
section
variable {l:List Int} {u:Int} {gs:List (List Int)} {m:Nat}
end
end Go.Proofs.Ytlapbbffoapleaa.Am
namespace Go.Proofs.Ytlapbbffoapleaa.Am
open Go Go.RowKit Go.Proofs
def FmR (m u:Int) (l:List Int) (h:Int) (gs:List (List Int)) (g0 g1:List Int) (code:Int):Prop:=
 (¬fitC m u l h gs=0∧g0=[]∧g1=[]∧code=fitC m u l h gs)∨
 (fitC m u l h gs=0∧∃a b f,Fst l u gs a b f∧((f=false∧g0=[]∧g1=[]∧code=6)∨(f=true∧g0=hold a 7∧g1=hold b 7∧code=0)))
theorem FmR.one {m u:Int} {l:List Int} {h:Int} {gs:List (List Int)} {g0 g1 g0' g1':List Int} {code code':Int} (p:FmR m u l h gs g0 g1 code) (q:FmR m u l h gs g0' g1' code'):g0=g0'∧g1=g1'∧code=code':=by
 rcases p with⟨h0,rfl,rfl,rfl⟩ | ⟨h0,a,b,f,hf,p⟩<;>rcases q with⟨k0,rfl,rfl,rfl⟩ | ⟨k0,a',b',f',kf,q⟩
 ·exact⟨rfl,rfl,rfl⟩
 ·exact absurd k0 h0
 ·exact absurd h0 k0
 ·obtain⟨rfl,rfl,rfl⟩:=hf.one kf
  rcases p with⟨rfl,rfl,rfl,rfl⟩ | ⟨rfl,rfl,rfl,rfl⟩<;>rcases q with⟨e,rfl,rfl,rfl⟩ | ⟨e,rfl,rfl,rfl⟩<;>first | exact⟨rfl,rfl,rfl⟩ | cases e
theorem FmR.len {m u:Int} {l:List Int} {h:Int} {gs:List (List Int)} {g0 g1:List Int} {code:Int} (p:FmR m u l h gs g0 g1 code):g0.length≤7∧g1.length≤7:=by
 rcases p with⟨h0,rfl,rfl,rfl⟩ | ⟨h0,a,b,f,hf,⟨rfl,rfl,rfl,rfl⟩ | ⟨rfl,rfl,rfl,rfl⟩⟩<;>first | exact⟨by simp,by simp⟩ | exact⟨hold_len _ _,hold_len _ _⟩
section
variable {S:Ids} {H0:AH}
end
abbrev T_Ranks:Type:=(Int) × (Int) × (List Int)
abbrev M_Ranks:Kn T_Ranks:=Kn.mp (KI) (Kn.mp (KI) (M_Int64S))
section
variable {S:Ids} {H0:AH} {W:Ids} {left k:Int}
end
section
variable {S:Ids} {H0:AH} {W:Ids} {left k:Int}
end
theorem ranksM {X:Ids} {H:AH} {v:Value} {m u:Int} {xs:List Int} (h:KI.Ml X H v xs):M_Ranks.R X H (m,u,xs) [.int .i64 m,.int .i64 u,v]:=
 mpR (X:=None_) (cs:=[.int .i64 m]) (show KI.R None_ H m _ from rfl) (mpR (X:=None_) (cs:=[.int .i64 u]) (show KI.R None_ H u _ from rfl) (ml1' h) (fun _ p=>p.elim) (fun _ p=>p) (fun _ p _=>p.elim)) (fun _ p=>p.elim) (fun _ p=>p) (fun _ p _=>p.elim)
def MkRC (r:T_Ranks) (code:Int) (n:Nat) (v:Value) (H1:AH):Prop:=∃cs:List Value,v=.tuple #[.agg cs.toArray,.int .i64 code]∧M_Ranks.R (New n H1.n) H1 r cs
theorem MkRC.nil {code:Int} {n:Nat} {v:Value} {H1:AH} (hv:v=.tuple #[.agg #[.int .i64 0,.int .i64 0,.slice none 0 0],.int .i64 code]):MkRC (0,0,[]) code n v H1:=⟨_,hv,ranksM (.inl ⟨rfl,_,_,rfl,fun _=>rfl⟩)⟩
section
variable {S:Ids} {H0:AH}
end
end Go.Proofs.Ytlapbbffoapleaa.Am
namespace Go.Proofs.Ytlapbbffoapleaa.Am
open Go Go.RowKit Go.Proofs Go.Proofs.Ytlapbbffoapleaa.Pl
section
variable {S:Ids} {H0:AH}
end
def unitL (k:Nat):List Int:=1 :: List.replicate (k-1) 0
theorem unitL_len {k:Nat} (h:1≤k):(unitL k).length=k:=by simp[unitL];omega
theorem unitL_cells {k:Nat} (h:1≤k):(List.replicate k (Value.int .i64 0)).set (0+(0:Int).toNat*1) (Value.int .i64 1)=(unitL k).map (Value.int .i64):=by
 obtain⟨m,rfl⟩:∃m,k=m+1:=⟨k-1,by omega⟩
 simp[unitL,List.replicate_succ]
def MkSC (r:T_Scheme) (code:Int) (n:Nat) (v:Value) (H1:AH):Prop:=∃cs:List Value,v=.tuple #[.agg cs.toArray,.int .i64 code]∧M_Scheme.R (New n H1.n) H1 r cs
theorem schemeM {X X1 X2:Ids} {H:AH} {h p c:Int} {v w:Value} {ow:List Int} {rows:List (List Int)} (h1:KI.Ml X1 H v ow) (h2:KI.ml.Ml X2 H w rows) (i1:∀id,X1 id→X id) (i2:∀id,X2 id→X id) (hd:∀id,X1 id→X2 id→False):M_Scheme.R X H (h,ow,(p,c,rows)) [.int .i64 h,v,.int .i64 p,.int .i64 c,w]:=
 have k2:M_Matrix.R X2 H (p,c,rows) [.int .i64 p,.int .i64 c,w]:=mpR (X:=None_) (cs:=[.int .i64 p]) (show KI.R None_ H p _ from rfl) (mpR (X:=None_) (cs:=[.int .i64 c]) (show KI.R None_ H c _ from rfl) (ml1' h2) (fun _ p=>p.elim) (fun _ p=>p) (fun _ p _=>p.elim)) (fun _ p=>p.elim) (fun _ p=>p) (fun _ p _=>p.elim)
 mpR (X:=None_) (cs:=[.int .i64 h]) (show KI.R None_ H h _ from rfl) (mpR (cs:=[v]) (ml1' h1) k2 i1 i2 hd) (fun _ p=>p.elim) (fun _ p=>p) (fun _ p _=>p.elim)
theorem MkSC.nil {code:Int} {n:Nat} {v:Value} {H1:AH} (hv:v=.tuple #[.agg #[.int .i64 0,.slice none 0 0,.int .i64 0,.int .i64 0,.slice none 0 0],.int .i64 code]):MkSC (0,[],(0,0,[])) code n v H1:=
 ⟨_,hv,schemeM (X1:=None_) (X2:=None_) (.inl ⟨rfl,_,_,rfl,fun _=>rfl⟩) (.inl ⟨rfl,_,_,rfl,fun _=>rfl⟩) (fun _ p=>p.elim) (fun _ p=>p.elim) (fun _ p _=>p.elim)⟩
section
variable {S:Ids} {H0:AH}
theorem unit (k:Nat) (h1:1≤k) (hk:k≤1000):SpecM Try.prog S H0 91 [.int .i64 k] (MkL (unitL k)):=by
 refine SpecM.of1 Try.func91 rfl (by kernel_rfl) rfl (fun H _=>?_)
 refine KW.mk1 U U U U U U U U U U U U (k) U U (by omega) (by show 8*_≤_;omega) ?_
 refine KW.idx0 U U U U U U U U U (by omega) (by omega) ?_
 refine KW.st1 0 U U U U U U U U U U U U (by simp;omega) ?_
 refine KW.retM1 U U U U (fun H1 g=>?_)
 have hb:=g.blk (j:=0) rfl
 exact⟨some ⟨H.n,0,some 1⟩,k,by rw[unitL_len h1];rfl,int_ml ⟨Nat.le_refl _,hb.2⟩ hb.1 rfl (unitL_cells h1) (by rw[unitL_len h1];exact Nat.le_refl _)⟩
end
end Go.Proofs.Ytlapbbffoapleaa.Am
namespace Go.Proofs.Ytlapbbffoapleaa.Am
open Go Go.RowKit

end Go.Proofs.Ytlapbbffoapleaa.Am
namespace Go.Proofs.Ytlapbbffoapleaa.Pl
def dF (w:List Int):Nat→List Int→Int
 | _,[]=>0
 | c,a :: t=>w.getD c 0*a+dF w (c+1) t
theorem sc_get {p b:Int} {w:List Int} {c:Nat}:(sc p b w).getD c 0=w.getD c 0*b%p:=by
 simp only[sc,List.getD_eq_getElem?_getD,List.getElem?_map]
 cases w[c]?<;>simp
theorem tk_get {p t:Int} {a b:List Int} (h:a.length=b.length) {c:Nat}:(tk p t a b).getD c 0=(a.getD c 0+(p-t)*b.getD c 0)%p:=by
 simp only[tk,List.getD_eq_getElem?_getD,List.getElem?_zipWith]
 rcases Nat.lt_or_ge c a.length with hc | hc
 ·rw[List.getElem?_eq_getElem hc,List.getElem?_eq_getElem (by omega)];simp
 ·rw[List.getElem?_eq_none hc,List.getElem?_eq_none (by omega)];simp
theorem mod_eq (a p:Int):∃k,a%p=a-p*k:=⟨a / p,by rw[Int.emod_def]⟩
theorem dF_sc {p b:Int} {w:List Int}:∀(t:List Int) (c:Nat),∃k,dF (sc p b w) c t=b*dF w c t+p*k
 | [],c=>⟨0,by simp[dF]⟩
 | a :: t,c=>by
  obtain⟨k,hk⟩:=dF_sc (p:=p) (b:=b) (w:=w) t (c+1)
  obtain⟨m,hm⟩:=mod_eq (w.getD c 0*b) p
  refine⟨k-m*a,?_⟩
  simp only[dF,hk,sc_get,hm]
  grind
theorem dF_tk {p s:Int} {a b:List Int} (h:a.length=b.length):∀(t:List Int) (c:Nat),∃k,dF (tk p s a b) c t=dF a c t-s*dF b c t+p*k
 | [],c=>⟨0,by simp[dF]⟩
 | x :: t,c=>by
  obtain⟨k,hk⟩:=dF_tk (p:=p) (s:=s) h t (c+1)
  obtain⟨m,hm⟩:=mod_eq (a.getD c 0+(p-s)*b.getD c 0) p
  refine⟨k+b.getD c 0*x-m*x,?_⟩
  simp only[dF,hk,tk_get h,hm]
  grind
def Sat (p:Int) (k:Nat) (w x:List Int):Prop:=∃m,dF w 0 x=w.getD k 0+p*m
theorem sat_sc {p b:Int} {k:Nat} {w x:List Int} (h:Sat p k w x):Sat p k (sc p b w) x:=by
 obtain⟨m,hm⟩:=h
 obtain⟨j,hj⟩:=dF_sc (p:=p) (b:=b) (w:=w) x 0
 obtain⟨i,hi⟩:=mod_eq (w.getD k 0*b) p
 exact⟨b*m+j+i,by rw[hj,hm,sc_get,hi];grind⟩
theorem sat_sc' {p b b':Int} {k:Nat} {w x:List Int} (hb:∃q,b'*b=1+p*q) (h:Sat p k (sc p b w) x):Sat p k w x:=by
 obtain⟨m,hm⟩:=h
 obtain⟨j,hj⟩:=dF_sc (p:=p) (b:=b) (w:=w) x 0
 obtain⟨i,hi⟩:=mod_eq (w.getD k 0*b) p
 obtain⟨q,hq⟩:=hb
 rw[sc_get,hi,hj] at hm
 refine⟨b'*m-b'*j-b'*i-q*dF w 0 x+q*w.getD k 0,?_⟩
 have h1:b'*(b*dF w 0 x)=b'*(w.getD k 0*b-p*i+p*m-p*j):=by rw[← hm];grind
 grind
theorem sat_tk {p s:Int} {k:Nat} {a b x:List Int} (hl:a.length=b.length) (ha:Sat p k a x) (hb:Sat p k b x):Sat p k (tk p s a b) x:=by
 obtain⟨m,hm⟩:=ha
 obtain⟨q,hq⟩:=hb
 obtain⟨j,hj⟩:=dF_tk (p:=p) (s:=s) hl x 0
 obtain⟨i,hi⟩:=mod_eq (a.getD k 0+(p-s)*b.getD k 0) p
 exact⟨m-s*q+j+i-b.getD k 0,by rw[hj,hm,hq,tk_get hl,hi];grind⟩
theorem sat_tk' {p s:Int} {k:Nat} {a b x:List Int} (hl:a.length=b.length) (ha:Sat p k (tk p s a b) x) (hb:Sat p k b x):Sat p k a x:=by
 obtain⟨m,hm⟩:=ha
 obtain⟨q,hq⟩:=hb
 obtain⟨j,hj⟩:=dF_tk (p:=p) (s:=s) hl x 0
 obtain⟨i,hi⟩:=mod_eq (a.getD k 0+(p-s)*b.getD k 0) p
 rw[hj,hq,tk_get hl,hi] at hm
 exact⟨m+s*q-j-i+b.getD k 0,by grind⟩
def AllS (p:Int) (k:Nat) (L:List (List Int)) (x:List Int):Prop:=∀(j:Nat) r,L[j]?=some r→Sat p k r x
def Fer (p:Int):Prop:=2≤p∧∀a:Int,0<a→a<p→∃q,a*pw p a (p-2).toNat=1+p*q
theorem sw_get {L:List (List Int)} {n a:Nat} {u w:List Int} (hu:L[n]?=some u) (hw:L[a]?=some w) (j:Nat):(sw L n a)[j]?=if j=a then some u else if j=n then some w else L[j]?:=by
 obtain⟨h1,e1⟩:=List.getElem?_eq_some_iff.1 hu
 obtain⟨h2,e2⟩:=List.getElem?_eq_some_iff.1 hw
 have d1:L.getD n []=u:=by rw[List.getD_eq_getElem?_getD,hu];rfl
 have d2:L.getD a []=w:=by rw[List.getD_eq_getElem?_getD,hw];rfl
 simp only[sw,d1,d2]
 rw[List.getElem?_set]
 by_cases e:a=j
 ·subst e;rw[if_pos rfl,if_pos rfl,if_pos (by rw[List.length_set];exact h2)]
 ·rw[if_neg e,if_neg (Ne.symm e),List.getElem?_set]
  by_cases e':n=j
  ·subst e';rw[if_pos rfl,if_pos rfl,if_pos h1]
  ·rw[if_neg e',if_neg (Ne.symm e')]
theorem nz_val {L:List (List Int)} {c:Nat}:∀(d a:Nat),a+d=L.length→nz L c a<L.length→∃r,L[nz L c a]?=some r∧r.getD c 0≠0
 | 0,a,h,hl=>by rw[nz_end (by omega)] at hl;omega
 | d+1,a,h,hl=>by
  obtain⟨r,hr⟩:∃r,L[a]?=some r:=⟨L[a]'(by omega),List.getElem?_eq_getElem (by omega)⟩
  by_cases hz:r.getD c 0=0
  ·rw[← nz_step hr hz] at hl ⊢
   exact nz_val d (a+1) (by omega) hl
  ·rw[nz_stop hr hz]
   exact⟨r,hr,hz⟩
theorem nz_zero {L:List (List Int)} {c:Nat}:∀(d a:Nat),a+d=L.length→∀(j:Nat) r,a≤j→j<nz L c a→L[j]?=some r→r.getD c 0=0
 | 0,a,h,j,r,h1,h2,hr=>by rw[nz_end (by omega)] at h2;omega
 | d+1,a,h,j,r,h1,h2,hr=>by
  obtain⟨u,hu⟩:∃u,L[a]?=some u:=⟨L[a]'(by omega),List.getElem?_eq_getElem (by omega)⟩
  by_cases hz:u.getD c 0=0
  ·rw[← nz_step hu hz] at h2
   rcases Nat.eq_or_lt_of_le h1 with rfl | h3
   ·rw[hu] at hr;cases hr;exact hz
   ·exact nz_zero d (a+1) (by omega) j r (by omega) h2 hr
  ·rw[nz_stop hu hz] at h2;omega
theorem rnd_rows {p:Int} {K c n:Nat} {L L':List (List Int)} (hf:Fer p) (hL:Rect p K L) (hn:n≤L.length) (h:rnd p L c n=some L'):
  ∃(a:Nat) (u w:List Int) (b:Int),n≤a∧a<L.length∧L[n]?=some u∧L[a]?=some w∧w.getD c 0≠0∧(∃q,w.getD c 0*b=1+p*q)∧L'.length=L.length∧L'[n]?=some (sc p b w)∧
   (∀(j:Nat) v,n≤j→j<a→L[j]?=some v→v.getD c 0=0)∧
   ∀j,j≠n→L'[j]?=(if j=a then some u else L[j]?).map fun v=>tk p (v.getD c 0) v (sc p b w):=by
 unfold rnd at h
 split at h
 ·cases h
 ·rename_i hne
  have hnz:=nz_le (L:=L) (c:=c) (L.length-n) n (by omega)
  have hlt:nz L c n<L.length:=by omega
  obtain⟨w,hw,hw0⟩:=nz_val (L.length-n) n (by omega) hlt
  have hz:=nz_zero (L:=L) (c:=c) (L.length-n) n (by omega)
  obtain⟨a,ha⟩:∃a,nz L c n=a:=⟨_,rfl⟩
  rw[ha] at hw hz hnz hlt h
  obtain⟨u,hu⟩:∃u,L[n]?=some u:=⟨L[n]'(by omega),List.getElem?_eq_getElem (by omega)⟩
  have hswn:(sw L n a)[n]?=some w:=by
   rw[sw_get hu hw]
   split
   ·rename_i e;subst e;rw[hw] at hu;exact hu.symm
   ·rw[if_pos rfl]
  have hd:(sw L n a).getD n []=w:=by rw[List.getD_eq_getElem?_getD,hswn];rfl
  have hwin:=hL w (List.mem_of_getElem? hw)
  have hwc:0<w.getD c 0∧w.getD c 0<p:=by
   rcases Nat.lt_or_ge c w.length with hc | hc
   ·have h1:w.getD c 0=w[c]:=by rw[List.getD_eq_getElem?_getD,List.getElem?_eq_getElem hc];rfl
    have h2:=hwin.2 _ (List.getElem_mem hc)
    rw[← h1] at h2
    omega
   ·exact absurd (by rw[List.getD_eq_getElem?_getD,List.getElem?_eq_none hc];rfl) hw0
  have hlead:lead p L c n=sc p (pw p (w.getD c 0) (p-2).toNat) w:=by unfold lead;rw[ha,hd]
  rw[hlead] at h
  injection h with h
  obtain⟨b,hb⟩:∃b,pw p (w.getD c 0) (p-2).toNat=b:=⟨_,rfl⟩
  have hbq:=hf.2 _ hwc.1 hwc.2
  rw[hb] at h hbq
  have hlen:((sw L n a).set n (sc p b w)).length=L.length:=by rw[List.length_set,sw_len]
  refine⟨a,u,w,b,hnz.1,hlt,hu,hw,hw0,hbq,by rw[← h,tks_len,hlen],?_,fun j v h1 h2 hj=>hz j v h1 h2 hj,fun j hj=>?_⟩
  ·rw[← h,tks_get,List.getElem?_set,if_pos rfl,if_pos (by rw[sw_len];omega),Option.map_some,if_neg (by omega)]
  ·rw[← h,tks_get,List.getElem?_set,if_neg (Ne.symm hj),sw_get hu hw]
   rcases Nat.lt_or_ge j L.length with hjl | hjl
   ·congr 1
    ·funext v;rw[if_pos ⟨hjl,hj⟩]
    ·split
     ·rfl
     ·rfl
   ·rw[if_neg (by omega),if_neg hj,if_neg (by omega),List.getElem?_eq_none hjl];rfl
theorem rnd_sat {p:Int} {k c n:Nat} {L L':List (List Int)} (hf:Fer p) (hL:Rect p (k+1) L) (hn:n≤L.length) (h:rnd p L c n=some L') {x:List Int}:AllS p k L' x↔AllS p k L x:=by
 obtain⟨a,u,w,b,h1,h2,hu,hw,hw0,⟨q,hq⟩,hlen,hln,hz,hrest⟩:=rnd_rows hf hL hn h
 have hul:=(hL u (List.mem_of_getElem? hu)).1
 have hwl:=(hL w (List.mem_of_getElem? hw)).1
 have hscl:(sc p b w).length=w.length:=by simp[sc]
 constructor
 ·intro hs
  have s1:=hs n _ hln
  have s2:Sat p k w x:=sat_sc' ⟨q,hq⟩ s1
  have s3:∀(j:Nat) v,j≠n→(if j=a then some u else L[j]?)=some v→Sat p k v x:=fun j v hj hv=>by
   have hvl:v.length=k+1:=by
    split at hv
    ·cases hv;exact hul
    ·exact(hL v (List.mem_of_getElem? hv)).1
   exact sat_tk' (by rw[hscl,hvl,hwl]) (hs j _ (by rw[hrest j hj,hv];rfl)) s1
  intro j r hj
  by_cases e:j=a
  ·subst e;rw[hw] at hj;cases hj;exact s2
  ·by_cases e':j=n
   ·subst e'
    rw[hu] at hj;cases hj
    exact s3 a u (Ne.symm e) (if_pos rfl)
   ·exact s3 j r e' (by rw[if_neg e];exact hj)
 ·intro hs j r hj
  have s1:Sat p k (sc p b w) x:=sat_sc (hs a w hw)
  by_cases e:j=n
  ·subst e;rw[hln] at hj;cases hj;exact s1
  ·rw[hrest j e] at hj
   obtain⟨v,hv,rfl⟩:=Option.map_eq_some_iff.1 hj
   have hv2:Sat p k v x∧v.length=k+1:=by
    split at hv
    ·cases hv;exact⟨hs n _ hu,hul⟩
    ·exact⟨hs j _ hv,(hL v (List.mem_of_getElem? hv)).1⟩
   exact sat_tk (by rw[hscl,hv2.2,hwl]) hv2.1 s1
structure Ech (p:Int) (K c:Nat) (E:List (List Int)) (P:List Nat):Prop where
 rect:Rect p K E
 le:P.length≤E.length
 piv:∀(i q:Nat) r,P[i]?=some q→E[i]?=some r→q<c∧r.getD q 0=1∧∀j,j<q→r.getD j 0=0
 zero:∀(i:Nat) r,P.length≤i→E[i]?=some r→∀j,j<c→r.getD j 0=0
 red:∀(i q j:Nat) r,P[i]?=some q→j≠i→E[j]?=some r→r.getD q 0=0
theorem small_mod {p x:Int} (h:0≤x∧x<p):x%p=x:=Int.emod_eq_of_lt h.1 h.2
theorem Rect.el {p:Int} {K:Nat} {L:List (List Int)} (h:Rect p K L) (hp:0<p) {i:Nat} {r:List Int} (hr:L[i]?=some r) (c:Nat):0≤r.getD c 0∧r.getD c 0<p:=by
 rcases Nat.lt_or_ge c r.length with hc | hc
 ·rw[List.getD_eq_getElem?_getD,List.getElem?_eq_getElem hc]
  exact(h r (List.mem_of_getElem? hr)).2 _ (List.getElem_mem hc)
 ·rw[List.getD_eq_getElem?_getD,List.getElem?_eq_none hc];exact⟨Int.le_refl _,hp⟩
theorem Ech.none_ {p:Int} {K c:Nat} {E:List (List Int)} {P:List Nat} (h:Ech p K c E P) (hr:rnd p E c P.length=none):Ech p K (c+1) E P:=by
 have hz:nz E c P.length=E.length:=by
  unfold rnd at hr
  split at hr
  ·assumption
  ·cases hr
 refine⟨h.rect,h.le,fun i q r h1 h2=>⟨by have:=(h.piv i q r h1 h2).1;omega,(h.piv i q r h1 h2).2⟩,fun i r h1 h2 j hj=>?_,h.red⟩
 by_cases e:j=c
 ·subst e
  exact nz_zero (E.length-P.length) P.length (by have:=h.le;omega) i r h1 (by rw[hz];exact(List.getElem?_eq_some_iff.1 h2).1) h2
 ·exact h.zero i r h1 h2 j (by omega)
theorem Ech.some_ {p:Int} {K c:Nat} {E E':List (List Int)} {P:List Nat} (hf:Fer p) (h:Ech p K c E P) (hr:rnd p E c P.length=some E') (hR:Rect p K E'):Ech p K (c+1) E' (P++[c]):=by
 have hp:0<p:=by have:=hf.1;omega
 obtain⟨a,u,w,b,h1,h2,hu,hw,hw0,⟨q0,hq0⟩,hlen,hln,hz,hrest⟩:=rnd_rows hf h.rect h.le hr
 have hwz:∀j,j<c→w.getD j 0=0:=fun j hj=>h.zero a w h1 hw j hj
 have huz:∀j,j<c→u.getD j 0=0:=fun j hj=>h.zero _ u (Nat.le_refl _) hu j hj
 have hlz:∀j,j<c→(sc p b w).getD j 0=0:=fun j hj=>by rw[sc_get,hwz j hj];simp
 have hl1:(sc p b w).getD c 0=1:=by
  rw[sc_get,hq0,Int.add_mul_emod_self_left]
  exact Int.emod_eq_of_lt (by omega) (by have:=hf.1;omega)
 have hul:=(h.rect u (List.mem_of_getElem? hu)).1
 have hwl:=(h.rect w (List.mem_of_getElem? hw)).1
 have hscl:(sc p b w).length=w.length:=by simp[sc]
 have src:∀(j:Nat) r,j≠P.length→E'[j]?=some r→∃v i,E[i]?=some v∧(j<P.length→i=j)∧(P.length<j→P.length≤i)∧∀m,r.getD m 0=(v.getD m 0+(p-v.getD c 0)*(sc p b w).getD m 0)%p:=fun j r hj hr=>by
  rw[hrest j hj] at hr
  obtain⟨v,hv,rfl⟩:=Option.map_eq_some_iff.1 hr
  split at hv
  ·rename_i e
   cases hv
   exact⟨u,P.length,hu,fun h=>by omega,fun h=>Nat.le_refl _,fun m=>tk_get (by rw[hscl,hul,hwl])⟩
  ·exact⟨v,j,hv,fun h=>rfl,fun h=>by omega,fun m=>tk_get (by rw[hscl,(h.rect v (List.mem_of_getElem? hv)).1,hwl])⟩
 have low:∀(j:Nat) (r v:List Int) (i:Nat),E[i]?=some v→(∀m,r.getD m 0=(v.getD m 0+(p-v.getD c 0)*(sc p b w).getD m 0)%p)→∀m,m<c→r.getD m 0=v.getD m 0:=fun j r v i hv hm m hmc=>by
  rw[hm m,hlz m hmc,Int.mul_zero,Int.add_zero]
  exact small_mod (h.rect.el hp hv m)
 have atc:∀(r v:List Int) (i:Nat),E[i]?=some v→(∀m,r.getD m 0=(v.getD m 0+(p-v.getD c 0)*(sc p b w).getD m 0)%p)→r.getD c 0=0:=fun r v i hv hm=>by
  rw[hm c,hl1]
  have:v.getD c 0+(p-v.getD c 0)*1=p:=by omega
  rw[this,Int.emod_self]
 have hPl:(P++[c]).length=P.length+1:=by simp
 have split1:∀{i q:Nat},(P++[c])[i]?=some q→(i<P.length∧P[i]?=some q)∨(i=P.length∧q=c):=fun {i q} hi=>by
  rcases Nat.lt_or_ge i P.length with hl | hl
  ·rw[List.getElem?_append_left hl] at hi;exact .inl ⟨hl,hi⟩
  ·have:=(List.getElem?_eq_some_iff.1 hi).1
   rw[hPl] at this
   have e:i=P.length:=by omega
   subst e
   rw[List.getElem?_append_right (Nat.le_refl _)] at hi
   simp at hi
   exact .inr ⟨rfl,hi.symm⟩
 refine⟨hR,by rw[hPl,hlen];omega,fun i q r hi hr2=>?_,fun i r hi hr2 j hj=>?_,fun i q j r hi hj hr2=>?_⟩
 ·rcases split1 hi with⟨hl,hi⟩ | ⟨rfl,rfl⟩
  ·obtain⟨v,i',hv,e1,_,hm⟩:=src i r (by omega) hr2
   have e:=e1 hl
   subst e
   obtain⟨p1,p2,p3⟩:=h.piv i' q v hi hv
   refine⟨by omega,by rw[low i' r v i' hv hm q p1];exact p2,fun m hm'=>by rw[low i' r v i' hv hm m (by omega)];exact p3 m hm'⟩
  ·rw[hln] at hr2
   cases hr2
   exact⟨by omega,hl1,hlz⟩
 ·rw[hPl] at hi
  obtain⟨v,i',hv,_,e2,hm⟩:=src i r (by omega) hr2
  by_cases e:j=c
  ·subst e;exact atc r v i' hv hm
  ·rw[low i r v i' hv hm j (by omega)]
   exact h.zero i' v (e2 (by omega)) hv j (by omega)
 ·rcases split1 hi with⟨hl,hi⟩ | ⟨rfl,rfl⟩
  ·have hqc:q<c:=by
    obtain⟨v,hv⟩:∃v,E[i]?=some v:=⟨E[i]'(by have:=h.le;omega),List.getElem?_eq_getElem (by have:=h.le;omega)⟩
    exact(h.piv i q v hi hv).1
   by_cases e:j=P.length
   ·subst e;rw[hln] at hr2;cases hr2;exact hlz q hqc
   ·obtain⟨v,i',hv,e1,e2,hm⟩:=src j r e hr2
    rw[low j r v i' hv hm q hqc]
    refine h.red i q i' v hi (fun e'=>?_) hv
    rcases Nat.lt_or_ge j P.length with hjl | hjl
    ·exact hj (by rw[← e1 hjl];exact e')
    ·have:=e2 (by omega);omega
  ·obtain⟨v,i',hv,_,_,hm⟩:=src j r hj hr2
   exact atc r v i' hv hm
theorem ech_shape {p:Int} {K:Nat} {L:List (List Int)} (hf:Fer p) (h:Rect p K L):∀c,Ech p K c (ech p L c).1 (ech p L c).2
 | 0=>⟨h,by simp[ech],fun i q r hi=>by simp[ech] at hi,fun i r _ _ j hj=>absurd hj (Nat.not_lt_zero _),fun i q j r hi=>by simp[ech] at hi⟩
 | c+1=>by
  have ih:=ech_shape hf h c
  have hp:0<p:=by have:=hf.1;omega
  simp only[ech]
  split
  ·rename_i hr
   exact ih.none_ hr
  ·rename_i L' hr
   exact ih.some_ hf hr (rnd_ok hp ih.rect ih.le hr).1
theorem ech_sat {p:Int} {k:Nat} {L:List (List Int)} (hf:Fer p) (h:Rect p (k+1) L) {x:List Int}:∀c,AllS p k (ech p L c).1 x↔AllS p k L x
 | 0=>Iff.rfl
 | c+1=>by
  have ih:=ech_sat hf h (x:=x) c
  have sh:=ech_shape hf h c
  simp only[ech]
  split
  ·exact ih
  ·rename_i L' hr
   exact(rnd_sat hf sh.rect sh.le hr).trans ih
def fr (P:List Nat):Nat→Nat
 | 0=>0
 | c+1=>fr P c+if c∈P then 0 else 1
theorem dF_zero {r:List Int}:∀(t:List Int) (c:Nat),(∀j,c≤j→j<c+t.length→r.getD j 0=0)→dF r c t=0
 | [],_,_=>rfl
 | a :: t,c,h=>by
  simp only[dF]
  rw[h c (Nat.le_refl _) (by simp),dF_zero t (c+1) (fun j h1 h2=>h j (by omega) (by simp only[List.length_cons];omega))]
  omega
def Solv (p:Int) (k:Nat) (W:List (List Int)):Prop:=∀(i:Nat) r,(ech p W k).2.length≤i→(ech p W k).1[i]?=some r→r.getD k 0=0
theorem solv_iff {p:Int} {k:Nat} {W:List (List Int)} (hf:Fer p) (hW:Rect p (k+1) W):Solv p k W↔k∉(ech p W (k+1)).2:=by
 have sh:=ech_shape hf hW k
 have hnc:k∉(ech p W k).2:=fun hm=>by
  obtain⟨i,hi⟩:=List.getElem?_of_mem hm
  have hil:=(List.getElem?_eq_some_iff.1 hi).1
  have:=(sh.piv i k _ hi (List.getElem?_eq_getElem (by have:=sh.le;omega))).1
  omega
 unfold Solv
 simp only[ech]
 split
 ·rename_i hr
  refine⟨fun _=>hnc,fun _ i r hi he=>?_⟩
  have:=(sh.none_ hr).zero i r hi he k (by omega)
  exact this
 ·rename_i L' hr
  obtain⟨a,u,w,b,h1,h2,hu,hw,hw0,_⟩:=rnd_rows hf sh.rect sh.le hr
  refine⟨fun h=>absurd (h a w h1 hw) hw0,fun h=>absurd (by simp) h⟩
theorem take_get {r:List Int} {k c:Nat} (h:c<k):(r.take k).getD c 0=r.getD c 0:=by
 simp only[List.getD_eq_getElem?_getD,List.getElem?_take,if_pos h]
theorem nz_take {W:List (List Int)} {k c:Nat} (hc:c<k):∀(d a:Nat),a+d=W.length→nz (W.map (List.take k)) c a=nz W c a
 | 0,a,h=>by rw[nz_end (by rw[List.length_map];omega),nz_end (by omega)]
 | d+1,a,h=>by
  obtain⟨u,hu⟩:∃u,W[a]?=some u:=⟨W[a]'(by omega),List.getElem?_eq_getElem (by omega)⟩
  have hu':(W.map (List.take k))[a]?=some (u.take k):=by rw[List.getElem?_map,hu];rfl
  by_cases hz:u.getD c 0=0
  ·rw[← nz_step hu hz,← nz_step hu' (by rw[take_get hc];exact hz)]
   exact nz_take hc d (a+1) (by omega)
  ·rw[nz_stop hu hz,nz_stop hu' (by rw[take_get hc];exact hz)]
theorem getD_take {W:List (List Int)} {k a:Nat}:(W.map (List.take k)).getD a []=(W.getD a []).take k:=by
 simp only[List.getD_eq_getElem?_getD,List.getElem?_map]
 cases W[a]?<;>simp
theorem sw_take {W:List (List Int)} {k n a:Nat}:sw (W.map (List.take k)) n a=(sw W n a).map (List.take k):=by
 simp only[sw,getD_take,List.map_set]
theorem sc_take {p b:Int} {r:List Int} {k:Nat}:sc p b (r.take k)=(sc p b r).take k:=by simp only[sc,List.map_take]
theorem tk_take {p t:Int} {a b:List Int} {k:Nat}:tk p t (a.take k) (b.take k)=(tk p t a b).take k:=by simp only[tk,List.take_zipWith]
theorem tks_take {p:Int} {c n i k:Nat} {r:List Int} {L:List (List Int)} (hc:c<k):tks p c n (r.take k) (L.map (List.take k)) i=(tks p c n r L i).map (List.take k):=by
 apply List.ext_getElem?
 intro j
 rw[tks_get,List.getElem?_map,List.getElem?_map,tks_get]
 cases L[j]? with
 | none=>rfl
 | some w=>
  simp only[Option.map_some]
  split
  ·rw[take_get hc,tk_take]
  ·rfl
theorem rnd_take {p:Int} {W:List (List Int)} {k c n:Nat} (hc:c<k) (hn:n≤W.length):rnd p (W.map (List.take k)) c n=(rnd p W c n).map (fun L=>L.map (List.take k)):=by
 unfold rnd
 have h1:=nz_take (W:=W) hc (W.length-n) n (by omega)
 have h2:lead p (W.map (List.take k)) c n=(lead p W c n).take k:=by
  unfold lead
  rw[h1,sw_take,getD_take,take_get hc,sc_take]
 rw[h1,List.length_map,h2]
 split
 ·rfl
 ·rw[sw_take,← List.map_set,tks_take hc]
  rfl
theorem ech_take {p:Int} {K k:Nat} {W:List (List Int)} (hf:Fer p) (hW:Rect p K W):∀c,c≤k→ech p (W.map (List.take k)) c=((ech p W c).1.map (List.take k),(ech p W c).2)
 | 0,_=>rfl
 | c+1,h=>by
  have ih:=ech_take (k:=k) hf hW c (by omega)
  have sh:=ech_shape hf hW c
  simp only[ech]
  rw[ih]
  simp only
  rw[rnd_take (show c<k by omega) sh.le]
  cases rnd p (ech p W c).1 c (ech p W c).2.length<;>rfl
end Go.Proofs.Ytlapbbffoapleaa.Pl
namespace Go.Proofs.Ytlapbbffoapleaa.Am
open Go Go.RowKit Go.Proofs Go.Proofs.Ytlapbbffoapleaa.Pl
section
variable {S:Ids} {H0:AH}
def tmN (p:Int):Nat→Int
 | 0=>1
 | n+1=>if tmN p n*p<20001 then tmN p n*p else 20001
theorem tmN_in {p:Int} (hp:2≤p∧p≤31):∀n,1≤tmN p n∧tmN p n≤20001
 | 0=>by simp[tmN]
 | n+1=>by
  have h:=tmN_in hp n
  have h1:1*2≤tmN p n*p:=Int.mul_le_mul h.1 hp.1 (by omega) (by omega)
  simp only[tmN]
  split<;>omega
theorem times (p:Int) (c:Nat) (hp:2≤p∧p≤31) (hn:c≤1000):Spec Try.prog S H0 90 [.int .i64 p,.int .i64 c,.int .i64 20000] (fun v=>v=.int .i64 (tmN p c)):=by
 refine Spec.of1 Try.func90 rfl (by kernel_rfl) rfl (fun H _=>?_)
 refine KW.lp U U (fun i:Nat=>[(0,.int .i64 p),(2,.int .i64 20000),(7,.int .i64 (tmN p i)),(8,.int .i64 c),(9,.int .i64 i)]) (fun i=>i≤c) (fun i=>c-i) (0) (by omega) ⟨rfl,rfl,rfl,rfl,rfl,trivial⟩ (fun i hi bE n=>?_)
 have ht:=tmN_in hp i
 have h2:tmN p i*p≤20001*31:=Int.mul_le_mul ht.2 hp.2 (by omega) (by omega)
 have h3:0≤tmN p i*p:=Int.mul_nonneg (by omega) (by omega)
 refine KW.cnd U U (fun k1=>?_) (fun k1=>?_)
 ·have k1:(i:Int)<c:=k1
  refine KW.nxt U U (fun H' g=>⟨i+1,?_,?_,?_,g⟩)
  ·omega
  ·omega
  ·refine⟨rfl,rfl,?_,rfl,?_,trivial⟩
   ·refine Eq.trans (b:=Value.int .i64 (if IntKind.i64.wrap (tmN p i*p)<20001 then IntKind.i64.wrap (tmN p i*p) else 20001)) rfl ?_
    rw[wr (by omega) (by omega)]
    rfl
   ·exact congrArg (Value.int .i64) (inc64 (by omega))
 ·obtain rfl:i=c:=by have k1:¬(i:Int)<c:=k1;omega
  exact KW.ret U U U U (rfl)
end
theorem fer_all:((List.range 32).all fun p=>(List.range p).all fun a=>Nat.beq a 0||!((List.range p).all fun d=>Nat.ble d 1||!Nat.beq (p%d) 0)||Nat.ble p 1||((a:Int)*pw p a (p-2)-1)%p==0)=true:=by decide+kernel
theorem fer {p:Int} (h:PrimeP p):Fer p:=by
 obtain⟨h2,h31,hd⟩:=h
 refine⟨h2,fun a h0 h1=>?_⟩
 obtain⟨q,rfl⟩:∃q:Nat,p=q:=⟨p.toNat,by omega⟩
 obtain⟨b,rfl⟩:∃b:Nat,a=b:=⟨a.toNat,by omega⟩
 have h3:=List.all_eq_true.1 (List.all_eq_true.1 fer_all q (List.mem_range.2 (by omega))) b (List.mem_range.2 (by omega))
 have h4:((List.range q).all fun d=>Nat.ble d 1||!Nat.beq (q%d) 0)=true:=by
  refine List.all_eq_true.2 fun d hdm=>?_
  have hdq:=List.mem_range.1 hdm
  by_cases hd1:d≤1
  ·rw[Nat.ble_eq_true_of_le hd1];rfl
  ·have h5:=hd d (by omega) (by omega)
   have h6:Nat.beq (q%d) 0=false:=by
    cases hb:Nat.beq (q%d) 0 with
    | false=>rfl
    | true=>exact absurd (by have:=Nat.eq_of_beq_eq_true hb;omega) h5
   rw[h6];simp
 rw[h4] at h3
 have hb0:Nat.beq b 0=false:=by
  cases hb:Nat.beq b 0 with
  | false=>rfl
  | true=>have:=Nat.eq_of_beq_eq_true hb;omega
 have hp1:Nat.ble q 1=false:=by
  cases hb:Nat.ble q 1 with
  | false=>rfl
  | true=>have:=Nat.le_of_ble_eq_true hb;omega
 rw[hb0,hp1] at h3
 simp only[Bool.not_true,Bool.false_or,beq_iff_eq] at h3
 have e:((q:Int)-2).toNat=q-2:=by omega
 rw[e]
 obtain⟨k,hk⟩:=Int.dvd_of_emod_eq_zero h3
 exact⟨k,by omega⟩
section
variable {P:Program} {S:Ids} {H0:AH} {Q:PostC} {k k1:List It} {e e1:Env} {T T1:List Var} {n n1:Nat} {l1 r1:List Nat} {d1:Tmp}
theorem KW.slFromG {o:Oper} {dr:Bool} {t el:TypeId} {x y:Operand} {inf:TypeInfo} {a:Option Addr} {c m:Nat} {kk:IntKind} {xs:List Int} (hs:KI.Sl S H0 (.slice a xs.length c) xs) (hx0:0<xs.length) (hm:m≤xs.length) (h:Go1 P k e T n (.op o dr) k1 e1 T1 n1 l1 r1) (hlr:l1=r1) (ho:o.op=.slice t x (some y) none none) (hd:o.dst=some d1) (hx:ev e1 x=.slice a xs.length c) (hy:ev e1 y=.int kk (m:Nat))
  (hu:P.underlying t=some (.slice el)) (hi:P.info? el=some inf) (he:inf.size=1) (hk:∀a' c',(∀(X:Ids) (A:AH),KI.Sl X A (.slice a xs.length c) xs→KI.Sl X A (.slice a' (xs.drop m).length c') (xs.drop m))→KW P S H0 Q n1 T1 k1 (put1 e1 d1 (.slice a' (xs.drop m).length c'))):KW P S H0 Q n T k e:=by
 rcases hs with⟨rfl,_⟩ | ⟨id,o0,c1,b,h1,h2,h3,h4,h5,h6⟩
 ·simp at hx0
 ·cases h1
  have h5:o0+xs.length*1≤b.cells.length:=h5
  have ab:abound (.int kk (m:Nat)) xs.length=some m:=by simp[abound];omega
  have hlen:(xs.drop m).length=xs.length-m:=List.length_drop
  have hsub:∀c',xs.length-m≤c'→∀(X:Ids) (A:AH),KI.Sl X A (.slice (some ⟨id,o0,some KI.es⟩) xs.length c) xs→KI.Sl X A (.slice (some ⟨id,o0+m*1,some 1⟩) (xs.drop m).length c') (xs.drop m):=fun c' hc' X A hs=>by
   rcases hs with⟨rfl,_⟩ | ⟨id2,o2,c2,b,h1,h2,h3,h4,h5,h6⟩
   ·simp at hx0
   ·cases h1
    have h5:o0+xs.length*1≤b.cells.length:=h5
    exact .inr ⟨id,o0+m*1,c',b,rfl,by rw[hlen];exact hc',h3,h4,by rw[hlen];show o0+m*1+(xs.length-m)*1≤_;omega,fun i z hz=>by
     rw[List.getElem?_drop] at hz
     have:=h6 (m+i) z hz
     rw[show o0+m*1+i*KI.es=o0+(m+i)*KI.es by show o0+m*1+i*1=o0+(m+i)*1;omega]
     exact this⟩
  by_cases hm0:m=0
  ·subst hm0
   refine KW.pure h hlr ho hd rfl _ ?_ (hk (some ⟨id,o0,some 1⟩) c (by simpa using hsub c (by omega)))
   simp only[pop,acut,hu,hx,hi,Option.map,hy,bHi,bLo,ab]
   simp[he]
   rfl
  ·by_cases hcm:c=m
   ·have hd0:xs.drop m=[]:=List.drop_eq_nil_of_le (by omega)
    refine KW.pure h hlr ho hd rfl _ ?_ (hk (some ⟨id,o0,none⟩) 0 (fun X A _=>.inl ⟨hd0,_,0,by rw[hd0];rfl,fun h=>by cases h⟩))
    simp only[pop,acut,hu,hx,hi,Option.map,hy,bHi,bLo,ab,hd0]
    simp[he,hm0,hcm]
    rfl
   ·refine KW.pure h hlr ho hd rfl _ ?_ (hk (some ⟨id,o0+m*1,some 1⟩) (c-m) (hsub _ (by omega)))
    simp only[pop,acut,hu,hx,hi,Option.map,hy,bHi,bLo,ab,hlen]
    simp[he,hm0,hcm]
    exact⟨rfl,Nat.mul_one m,rfl⟩
end
def MkB (xs:List Int) (n:Nat) (v:Value) (H1:AH):Prop:=(xs=[]∧v=.slice none 0 0)∨∃o,v=.slice (some ⟨o,0,some 1⟩) xs.length xs.length∧New n H1.n o∧H1.m o=some ⟨2,true,xs.map (Value.int .i64)⟩
section
variable {S:Ids} {H0:AH}
theorem cloneB {a c} {xs:List Int} (hl:xs.length≤1048576) (hs:KI.Sl S H0 (.slice a xs.length c) xs):SpecM Try.prog S H0 64 [.slice a xs.length c] (MkB xs):=by
 refine SpecM.of1 Try.func64 rfl (by kernel_rfl) rfl (fun H _=>?_)
 refine KW.cndB U U (fun h=>?_) (fun h=>?_)
 ·have ha:a=none:=by cases a with
   | none=>rfl
   | some a=>simp at h
  have hx:xs=[]:=by
   rcases hs with⟨hx,_⟩ | ⟨id,k,c1,b,h1,_⟩
   ·exact hx
   ·rw[ha] at h1;cases h1
  subst hx
  refine KW.retM1 U U U U (fun H1 g=>.inl ⟨rfl,rfl⟩)
 ·refine KW.lit U U U U U U U U U U [] U U (fun v hv=>by simp at hv) rfl ?_
  refine KW.appV 0 U U U U U U U U U U (fun H1 g=>acells_I hs.up g) (by simp) (by simp) (fun v hv=>by obtain⟨_,_,rfl⟩:=List.mem_map.1 hv;rfl) (by show(_+_)*8≤_;simp only[List.length_cons,List.length_nil];omega) (by simp only[List.length_cons,List.length_nil];omega) (show 0+xs.length=xs.length from by omega) (fun oa _ _=>?_)
  refine KW.retM1 U U U U (fun H1 g=>.inr ⟨_,rfl,⟨g.ge (H1:=H) (j:=0) rfl,(g.blk (j:=0) rfl).2⟩,(g.blk (j:=0) rfl).1⟩)
end
end Go.Proofs.Ytlapbbffoapleaa.Am
namespace Go.Proofs.Ytlapbbffoapleaa.Pl
def Cg (p a b:Int):Prop:=∃k,a=b+p*k
theorem Cg.rfl' {p a:Int}:Cg p a a:=⟨0,by simp⟩
theorem Cg.symm {p a b:Int} (h:Cg p a b):Cg p b a:=by obtain⟨k,h⟩:=h;exact⟨-k,by rw[h];grind⟩
theorem Cg.trans {p a b c:Int} (h:Cg p a b) (h':Cg p b c):Cg p a c:=by
 obtain⟨k,h⟩:=h;obtain⟨j,h'⟩:=h';exact⟨k+j,by rw[h,h'];grind⟩
theorem Cg.add {p a b c d:Int} (h:Cg p a b) (h':Cg p c d):Cg p (a+c) (b+d):=by
 obtain⟨k,h⟩:=h;obtain⟨j,h'⟩:=h';exact⟨k+j,by rw[h,h'];grind⟩
theorem Cg.sub {p a b c d:Int} (h:Cg p a b) (h':Cg p c d):Cg p (a-c) (b-d):=by
 obtain⟨k,h⟩:=h;obtain⟨j,h'⟩:=h';exact⟨k-j,by rw[h,h'];grind⟩
theorem Cg.mul {p a b c d:Int} (h:Cg p a b) (h':Cg p c d):Cg p (a*c) (b*d):=by
 obtain⟨k,h⟩:=h;obtain⟨j,h'⟩:=h';exact⟨b*j+k*d+p*k*j,by rw[h,h'];grind⟩
theorem Cg.mod {p a:Int}:Cg p (a%p) a:=by obtain⟨k,h⟩:=mod_eq a p;exact⟨-k,by rw[h];grind⟩
theorem Cg.eq {p a b:Int} (h:Cg p a b) (ha:0≤a∧a<p) (hb:0≤b∧b<p):a=b:=by
 obtain⟨k,h⟩:=h
 have h1:a%p=b%p:=by rw[h,Int.add_mul_emod_self_left]
 rwa [Int.emod_eq_of_lt ha.1 ha.2,Int.emod_eq_of_lt hb.1 hb.2] at h1
theorem Cg.of {p a b:Int} (h:a%p=b%p):Cg p a b:=by
 obtain⟨k,hk⟩:=mod_eq a p
 obtain⟨j,hj⟩:=mod_eq b p
 exact⟨k-j,by rw[hk,hj] at h;grind⟩
def lcS:List (List Int)→List Int→Nat→Int
 | r :: L,c :: cs,j=>c*r.getD j 0+lcS L cs j
 | _,_,_=>0
theorem lcS_sc {p b:Int} {j:Nat}:∀(L:List (List Int)) (cs:List Int),Cg p (lcS L (sc p b cs) j) (b*lcS L cs j)
 | [],_=>by simp only[lcS];exact⟨0,by simp⟩
 | _ :: _,[]=>by simp only[sc,List.map_nil,lcS];exact⟨0,by simp⟩
 | r :: L,c :: cs=>by
  have ih:=lcS_sc (p:=p) (b:=b) (j:=j) L cs
  simp only[sc,List.map_cons,lcS] at ih ⊢
  refine(((Cg.mod (p:=p) (a:=c*b)).mul Cg.rfl').add ih).trans ⟨0,by grind⟩
theorem lcS_tk {p s:Int} {j:Nat}:∀(L:List (List Int)) (a b:List Int),a.length=b.length→Cg p (lcS L (tk p s a b) j) (lcS L a j-s*lcS L b j)
 | [],_,_,_=>by simp only[lcS];exact⟨0,by simp⟩
 | _ :: _,[],[],_=>by simp only[tk,List.zipWith_nil_left,lcS];exact⟨0,by simp⟩
 | r :: L,x :: a,y :: b,h=>by
  have ih:=lcS_tk (p:=p) (s:=s) (j:=j) L a b (by simpa using h)
  simp only[tk,List.zipWith_cons_cons,lcS] at ih ⊢
  refine(((Cg.mod (p:=p) (a:=x+(p-s)*y)).mul Cg.rfl').add ih).trans ⟨y*r.getD j 0,by grind⟩
 | _ :: _,[],_ :: _,h=>by simp at h
 | _ :: _,_ :: _,[],h=>by simp at h
theorem lcS_zero {j:Nat}:∀(L:List (List Int)) (n:Nat),lcS L (List.replicate n 0) j=0
 | [],_=>by simp[lcS]
 | _ :: _,0=>by simp[lcS]
 | r :: L,n+1=>by simp[lcS,List.replicate_succ,lcS_zero L n]
theorem lcS_unit {j:Nat}:∀(L:List (List Int)) (i n:Nat),i<L.length→i<n→lcS L ((List.replicate n 0).set i 1) j=(L.getD i []).getD j 0
 | [],i,_,h,_=>by simp at h
 | r :: L,0,n+1,h,hn=>by simp[lcS,List.replicate_succ,lcS_zero L n]
 | r :: L,i+1,n+1,h,hn=>by
  have ih:=lcS_unit (j:=j) L i n (by simpa using h) (by omega)
  simp only[lcS,List.replicate_succ,List.set_cons_succ,ih]
  simp
def fz (r:List Int):Nat:=r.findIdx (fun a=>decide (a≠0))
theorem fz_le {r:List Int}:fz r≤r.length:=List.findIdx_le_length
theorem fz_at {r:List Int} (h:fz r<r.length):r.getD (fz r) 0≠0:=by
 have:=List.findIdx_getElem (w:=h)
 rw[List.getD_eq_getElem?_getD,List.getElem?_eq_getElem h]
 simpa [fz] using this
theorem fz_zero {r:List Int} (h:fz r=r.length) (j:Nat):r.getD j 0=0:=by
 rcases Nat.lt_or_ge j r.length with hj | hj
 ·have:=List.not_of_lt_findIdx (p:=fun a:Int=>decide (a≠0)) (xs:=r) (i:=j) (by show j<fz r;omega)
  rw[List.getD_eq_getElem?_getD,List.getElem?_eq_getElem hj]
  simpa using this
 ·rw[List.getD_eq_getElem?_getD,List.getElem?_eq_none hj];rfl
theorem fz_of_zero {r:List Int} (h:∀j,r.getD j 0=0):fz r=r.length:=by
 have:=fz_le (r:=r)
 rcases Nat.lt_or_ge (fz r) r.length with hj | hj
 ·exact absurd (h _) (fz_at hj)
 ·omega
abbrev PrT:=List Int × List Int
def stp (p:Int) (x b:PrT):PrT:=if x.1.getD (fz b.1) 0≠0 then(tk p (x.1.getD (fz b.1) 0) x.1 b.1,tk p (x.1.getD (fz b.1) 0) x.2 b.2) else x
def less (p:Int) (B:List PrT) (x:PrT):PrT:=B.foldl (stp p) x
def nrm (p:Int) (x:PrT):PrT:=(sc p (pw p (x.1.getD (fz x.1) 0) (p-2).toNat) x.1,sc p (pw p (x.1.getD (fz x.1) 0) (p-2).toNat) x.2)
def unitR (n i:Nat):List Int:=(List.replicate n 0).set i 1
def insR (p:Int) (B:List PrT) (x:PrT):List PrT:=if fz (less p B x).1<(less p B x).1.length then B++[nrm p (less p B x)] else B
def basN (p:Int) (L:List (List Int)):Nat→List PrT
 | 0=>[]
 | m+1=>insR p (basN p L m) (L.getD m [],unitR L.length m)
def leftC (p:Int) (L:List (List Int)) (t:List Int):PrT:=less p (basN p L L.length) (t,List.replicate L.length 0)
def comb (p:Int) (L:List (List Int)) (t:List Int):Option (List Int):=if fz (leftC p L t).1<(leftC p L t).1.length then none else some (sc p (p-1) (leftC p L t).2)
def PrOk (p:Int) (k n:Nat) (x:PrT):Prop:=(x.1.length=k∧∀a∈x.1,0≤a∧a<p)∧(x.2.length=n∧∀a∈x.2,0≤a∧a<p)
theorem stp_ok {p:Int} {k n:Nat} {x b:PrT} (hp:0<p) (hx:PrOk p k n x) (hb:PrOk p k n b):PrOk p k n (stp p x b):=by
 unfold stp
 split
 ·exact⟨tk_ok hp hx.1.1 hb.1.1,tk_ok hp hx.2.1 hb.2.1⟩
 ·exact hx
theorem less_ok {p:Int} {k n:Nat} (hp:0<p):∀(B:List PrT) (x:PrT),(∀b∈B,PrOk p k n b)→PrOk p k n x→PrOk p k n (less p B x)
 | [],x,_,hx=>hx
 | b :: B,x,hB,hx=>less_ok hp B (stp p x b) (fun c hc=>hB c (List.mem_cons_of_mem _ hc)) (stp_ok hp hx (hB b List.mem_cons_self))
theorem less_snoc {p:Int} {B:List PrT} {b x:PrT}:less p (B++[b]) x=stp p (less p B x) b:=by simp[less]
theorem nrm_ok {p:Int} {k n:Nat} {x:PrT} (hp:0<p) (hx:PrOk p k n x):PrOk p k n (nrm p x):=⟨sc_ok hp hx.1,sc_ok hp hx.2⟩
def Say (p:Int) (L:List (List Int)) (τ:Nat→Int) (x:PrT):Prop:=∀j,Cg p (lcS L x.2 j) (x.1.getD j 0-τ j)
theorem tk_cg {p s:Int} {a b:List Int} (h:a.length=b.length) {j:Nat}:Cg p ((tk p s a b).getD j 0) (a.getD j 0-s*b.getD j 0):=by
 rw[tk_get h]
 exact Cg.mod.trans ⟨b.getD j 0,by grind⟩
theorem stp_say {p:Int} {k n:Nat} {L:List (List Int)} {τ:Nat→Int} {x b:PrT} (hx:PrOk p k n x) (hb:PrOk p k n b) (h:Say p L τ x) (h':Say p L (fun _=>0) b):Say p L τ (stp p x b):=by
 unfold stp
 split
 ·intro j
  refine(lcS_tk L _ _ (hx.2.1.trans hb.2.1.symm)).trans (((h j).sub (Cg.rfl'.mul (h' j))).trans ?_)
  refine Cg.trans ⟨0,?_⟩ ((tk_cg (s:=x.1.getD (fz b.1) 0) (hx.1.1.trans hb.1.1.symm) (j:=j)).symm.sub Cg.rfl')
  grind
 ·exact h
theorem less_say {p:Int} {k n:Nat} {L:List (List Int)} {τ:Nat→Int} (hp:0<p):∀(B:List PrT) (x:PrT),(∀b∈B,PrOk p k n b∧Say p L (fun _=>0) b)→PrOk p k n x→Say p L τ x→Say p L τ (less p B x)
 | [],x,_,_,h=>h
 | b :: B,x,hB,hx,h=>by
  have hb:=hB b List.mem_cons_self
  exact less_say hp B (stp p x b) (fun c hc=>hB c (List.mem_cons_of_mem _ hc)) (stp_ok hp hx hb.1) (stp_say hx hb.1 h hb.2)
theorem sc_cg {p b:Int} {w:List Int} {j:Nat}:Cg p ((sc p b w).getD j 0) (b*w.getD j 0):=by
 rw[sc_get]
 exact Cg.mod.trans ⟨0,by grind⟩
theorem nrm_say {p:Int} {L:List (List Int)} {x:PrT} (h:Say p L (fun _=>0) x):Say p L (fun _=>0) (nrm p x):=fun j=>by
 refine(lcS_sc L x.2).trans (((Cg.rfl' (a:=pw p (x.1.getD (fz x.1) 0) (p-2).toNat)).mul (h j)).trans ?_)
 exact Cg.trans ⟨0,by grind⟩ (sc_cg.symm.sub Cg.rfl')
theorem unitR_ok {p:Int} {n i:Nat} (hp:2≤p):(unitR n i).length=n∧∀a∈unitR n i,0≤a∧a<p:=by
 refine⟨by simp[unitR],fun a ha=>?_⟩
 rcases List.mem_or_eq_of_mem_set ha with h | h
 ·rw[List.eq_of_mem_replicate h];omega
 ·rw[h];omega
theorem row_ok {p:Int} {k:Nat} {L:List (List Int)} (hp:2≤p) (hL:Rect p k L) {m:Nat} (hm:m<L.length):PrOk p k L.length (L.getD m [],unitR L.length m):=⟨hL.getD hm,unitR_ok hp⟩
theorem fz_eq {r:List Int} {i:Nat} (hi:r.getD i 0≠0) (h:∀j,j<i→r.getD j 0=0):fz r=i:=by
 have hl:i<r.length:=by
  rcases Nat.lt_or_ge i r.length with h1 | h1
  ·exact h1
  ·exact absurd (by rw[List.getD_eq_getElem?_getD,List.getElem?_eq_none h1];rfl) hi
 have h1:=fz_le (r:=r)
 rcases Nat.lt_trichotomy (fz r) i with h2 | h2 | h2
 ·exact absurd (h _ h2) (fz_at (by omega))
 ·exact h2
 ·have:=List.not_of_lt_findIdx (p:=fun a:Int=>decide (a≠0)) (xs:=r) (i:=i) h2
  rw[List.getD_eq_getElem?_getD,List.getElem?_eq_getElem hl] at hi
  exact absurd (by simpa using this) hi
theorem fz_before {r:List Int} {j:Nat} (h:j<fz r):r.getD j 0=0:=by
 have h1:=fz_le (r:=r)
 have:=List.not_of_lt_findIdx (p:=fun a:Int=>decide (a≠0)) (xs:=r) (i:=j) h
 rw[List.getD_eq_getElem?_getD,List.getElem?_eq_getElem (by omega)]
 simpa using this
theorem el_ok {p:Int} {k:Nat} {r:List Int} (hp:0<p) (h:r.length=k∧∀a∈r,0≤a∧a<p) (j:Nat):0≤r.getD j 0∧r.getD j 0<p:=by
 rcases Nat.lt_or_ge j r.length with hj | hj
 ·rw[List.getD_eq_getElem?_getD,List.getElem?_eq_getElem hj]
  exact h.2 _ (List.getElem_mem hj)
 ·rw[List.getD_eq_getElem?_getD,List.getElem?_eq_none hj]
  exact⟨Int.le_refl 0,hp⟩
theorem nrm_one {p:Int} {k n:Nat} {x:PrT} (hf:Fer p) (hx:PrOk p k n x) (h:fz x.1<x.1.length):(nrm p x).1.getD (fz x.1) 0=1:=by
 have hp:=hf.1
 have h0:=fz_at h
 have h1:=el_ok (by omega) hx.1 (fz x.1)
 obtain⟨q,hq⟩:=hf.2 (x.1.getD (fz x.1) 0) (by omega) h1.2
 show(sc _ _ _).getD _ 0=1
 rw[sc_get,hq,Int.add_mul_emod_self_left]
 exact Int.emod_eq_of_lt (by omega) (by omega)
theorem nrm_fz {p:Int} {k n:Nat} {x:PrT} (hf:Fer p) (hx:PrOk p k n x) (h:fz x.1<x.1.length):fz (nrm p x).1=fz x.1:=by
 refine fz_eq (by rw[nrm_one hf hx h];decide) fun j hj=>?_
 show(sc _ _ _).getD _ 0=0
 rw[sc_get,fz_before hj,Int.zero_mul,Int.zero_emod]
theorem basN_ok {p:Int} {k:Nat} {L:List (List Int)} (hf:Fer p) (hL:Rect p k L):∀m,m≤L.length→∀b∈basN p L m,(PrOk p k L.length b∧fz b.1<k)∧Say p L (fun _=>0) b
 | 0,_=>fun b hb=>by simp[basN] at hb
 | m+1,hm=>fun b hb=>by
  have hp:=hf.1
  have ih:=basN_ok hf hL m (by omega)
  have hr:=row_ok hp hL (by omega:m<L.length)
  have hl:=less_ok (by omega:0<p) (basN p L m) _ (fun b hb=>(ih b hb).1.1) hr
  have hs:Say p L (fun _=>0) (L.getD m [],unitR L.length m):=fun j=>⟨0,by
   show lcS L (unitR L.length m) j=_
   rw[unitR,lcS_unit L m _ (by omega) (by omega)];simp⟩
  have hy:=less_say (by omega:0<p) (basN p L m) _ (fun b hb=>⟨(ih b hb).1.1,(ih b hb).2⟩) hr hs
  simp only[basN,insR] at hb
  split at hb
  ·rename_i h
   rcases List.mem_append.1 hb with hb | hb
   ·exact ih b hb
   ·rw[List.mem_singleton.1 hb]
    refine⟨⟨nrm_ok (by omega) hl,?_⟩,nrm_say hy⟩
    rw[nrm_fz hf hl h]
    have:=hl.1.1
    omega
  ·exact ih b hb
theorem basN_len {p:Int} {L:List (List Int)}:∀m,(basN p L m).length≤m
 | 0=>Nat.le_refl _
 | m+1=>by
  have:=basN_len (p:=p) (L:=L) m
  simp only[basN,insR]
  split
  ·simp;omega
  ·omega
theorem zero_ok {p:Int} {n:Nat} (hp:0<p):(List.replicate n (0:Int)).length=n∧∀a∈List.replicate n (0:Int),0≤a∧a<p:=⟨by simp,fun a ha=>by rw[List.eq_of_mem_replicate ha];exact⟨Int.le_refl 0,hp⟩⟩
theorem leftC_ok {p:Int} {k:Nat} {L:List (List Int)} {t:List Int} (hf:Fer p) (hL:Rect p k L) (ht:t.length=k∧∀a∈t,0≤a∧a<p):PrOk p k L.length (leftC p L t):=by
 have hp:=hf.1
 exact less_ok (by omega) _ _ (fun b hb=>(basN_ok hf hL _ (Nat.le_refl _) b hb).1.1) ⟨ht,zero_ok (by omega)⟩
def st1 (p:Int) (b v:List Int):List Int:=if v.getD (fz b) 0≠0 then tk p (v.getD (fz b) 0) v b else v
def red (p:Int):List PrT→List Int→List Int
 | [],v=>v
 | b :: B,v=>red p B (st1 p b.1 v)
theorem red_less {p:Int}:∀(B:List PrT) (x:PrT),(less p B x).1=red p B x.1
 | [],x=>rfl
 | b :: B,x=>by
  show(less p B (stp p x b)).1=red p B (st1 p b.1 x.1)
  rw[red_less B]
  congr 1
  unfold stp st1
  split<;>rfl
theorem red_snoc {p:Int} {b:PrT}:∀(B:List PrT) (v:List Int),red p (B++[b]) v=st1 p b.1 (red p B v)
 | [],v=>rfl
 | c :: B,v=>red_snoc B (st1 p c.1 v)
theorem st1_cg {p:Int} {b v:List Int} (h:v.length=b.length) (j:Nat):Cg p ((st1 p b v).getD j 0) (v.getD j 0-v.getD (fz b) 0*b.getD j 0):=by
 unfold st1
 split
 ·exact tk_cg h
 ·rename_i h0
  rw[show v.getD (fz b) 0=0 from Decidable.not_not.1 h0]
  exact⟨0,by simp⟩
theorem st1_ok {p:Int} {k:Nat} {b v:List Int} (hp:0<p) (hb:b.length=k) (hv:v.length=k∧∀a∈v,0≤a∧a<p):(st1 p b v).length=k∧∀a∈st1 p b v,0≤a∧a<p:=by
 unfold st1
 split
 ·exact tk_ok hp hv.1 hb
 ·exact hv
theorem lc_st1 {p:Int} {k:Nat} {b:List Int} (hb:b.length=k) {j:Nat}:∀(L:List (List Int)) (c:List Int),(∀r∈L,r.length=k)→Cg p (lcS (L.map (st1 p b)) c j) (lcS L c j-lcS L c (fz b)*b.getD j 0)
 | [],c,_=>by simp only[List.map_nil,lcS];exact⟨0,by simp⟩
 | r :: L,[],_=>by simp only[List.map_cons,lcS];exact⟨0,by simp⟩
 | r :: L,c :: cs,h=>by
  have ih:=lc_st1 (p:=p) hb (j:=j) L cs (fun r hr=>h r (List.mem_cons_of_mem _ hr))
  have h1:=st1_cg (p:=p) ((h r List.mem_cons_self).trans hb.symm) j
  simp only[List.map_cons,lcS]
  exact((Cg.rfl'.mul h1).add ih).trans ⟨0,by grind⟩
theorem red_lin {p:Int} {k:Nat} (hp:0<p):∀(B:List PrT),(∀b∈B,b.1.length=k)→∀(L:List (List Int)) (c v:List Int),Rect p k L→(v.length=k∧∀a∈v,0≤a∧a<p)→(∀j,Cg p (v.getD j 0) (lcS L c j))→∀j,Cg p ((red p B v).getD j 0) (lcS (L.map (red p B)) c j)
 | [],_,L,c,v,_,_,h=>fun j=>by
  rw[show L.map (red p [])=L from List.map_id L]
  exact h j
 | b :: B,hB,L,c,v,hL,hv,h=>by
  have hb:=hB b List.mem_cons_self
  have h1:∀r∈L,r.length=k:=fun r hr=>(hL r hr).1
  have:=red_lin hp B (fun c hc=>hB c (List.mem_cons_of_mem _ hc)) (L.map (st1 p b.1)) c (st1 p b.1 v) (fun r hr=>by
   obtain⟨q,hq,rfl⟩:=List.mem_map.1 hr
   exact st1_ok hp hb (hL q hq)) (st1_ok hp hb hv) (fun j=>by
   refine(st1_cg (hv.1.trans hb.symm) j).trans (((h j).sub ((h (fz b.1)).mul Cg.rfl')).trans ?_)
   exact(lc_st1 hb L c h1).symm)
  rw[List.map_map] at this
  exact this
theorem st1_zero {p:Int} {b v:List Int} (h:∀j,v.getD j 0=0):st1 p b v=v:=by
 unfold st1
 rw[if_neg (by rw[h];simp)]
theorem red_zero {p:Int} {k:Nat} {L:List (List Int)} (hf:Fer p) (hL:Rect p k L):∀m,m≤L.length→∀i,i<m→∀j,(red p (basN p L m) (L.getD i [])).getD j 0=0
 | 0,_=>fun i hi=>by omega
 | m+1,hm=>fun i hi=>by
  have hp:=hf.1
  have ih:=red_zero hf hL m (by omega)
  have ok:=basN_ok hf hL m (by omega)
  have hr:=row_ok hp hL (by omega:m<L.length)
  have hl:=less_ok (by omega:0<p) (basN p L m) _ (fun b hb=>(ok b hb).1.1) hr
  simp only[basN,insR]
  split
  ·rename_i h
   intro j
   rw[red_snoc]
   rcases Nat.lt_or_ge i m with h1 | h1
   ·rw[st1_zero (ih i h1)];exact ih i h1 j
   ·obtain rfl:i=m:=by omega
    rw[← red_less (x:=(L.getD i [],unitR L.length i))]
    obtain⟨x,hx⟩:∃x,less p (basN p L i) (L.getD i [],unitR L.length i)=x:=⟨_,rfl⟩
    rw[hx] at h hl ⊢
    have h0:=fz_at h
    have e:=nrm_fz hf hl h
    have hn:=nrm_ok (by omega) hl
    have in1:=st1_ok (by omega:0<p) hn.1.1 hl.1
    have el:=el_ok (by omega) in1 j
    refine Cg.eq ((st1_cg (hl.1.1.trans hn.1.1.symm) j).trans ?_) el ⟨Int.le_refl 0,by omega⟩
    rw[e]
    have h1:=el_ok (by omega) hl.1 (fz x.1)
    obtain⟨q,hq⟩:=hf.2 (x.1.getD (fz x.1) 0) (by omega) h1.2
    refine(Cg.rfl'.sub (Cg.rfl'.mul (sc_cg (b:=pw p (x.1.getD (fz x.1) 0) (p-2).toNat)))).trans ⟨-(q*x.1.getD j 0),?_⟩
    grind
  ·rename_i h
   intro j
   rcases Nat.lt_or_ge i m with h1 | h1
   ·exact ih i h1 j
   ·obtain rfl:i=m:=by omega
    rw[← red_less (x:=(L.getD i [],unitR L.length i))]
    exact fz_zero (by have:=fz_le (r:=(less p (basN p L i) (L.getD i [],unitR L.length i)).1);omega) j
theorem lcS_all0 {j:Nat}:∀(L:List (List Int)) (c:List Int),(∀r∈L,r.getD j 0=0)→lcS L c j=0
 | [],_,_=>by simp[lcS]
 | _ :: _,[],_=>by simp[lcS]
 | r :: L,c :: cs,h=>by
  simp only[lcS]
  rw[h r List.mem_cons_self,lcS_all0 L cs (fun r hr=>h r (List.mem_cons_of_mem _ hr))]
  simp
theorem comb_complete {p:Int} {k:Nat} {L:List (List Int)} {t cs:List Int} (hf:Fer p) (hL:Rect p k L) (ht:t.length=k∧∀a∈t,0≤a∧a<p) (h:∀j,Cg p (lcS L cs j) (t.getD j 0)):comb p L t≠none:=by
 have hp:=hf.1
 have ok:=basN_ok hf hL _ (Nat.le_refl L.length)
 have okl:=leftC_ok hf hL ht
 have h1:=red_lin (by omega:0<p) (basN p L L.length) (fun b hb=>(ok b hb).1.1.1.1) L cs t hL ht (fun j=>(h j).symm)
 have e:(leftC p L t).1=red p (basN p L L.length) t:=red_less _ _
 have h2:∀j,(leftC p L t).1.getD j 0=0:=fun j=>by
  refine Cg.eq ?_ (el_ok (by omega) okl.1 j) ⟨Int.le_refl 0,by omega⟩
  rw[e]
  refine(h1 j).trans ?_
  rw[lcS_all0]
  ·exact Cg.rfl'
  ·intro r hr
   obtain⟨q,hq,rfl⟩:=List.mem_map.1 hr
   obtain⟨i,hi,rfl⟩:=List.mem_iff_getElem.1 hq
   have:=red_zero hf hL _ (Nat.le_refl L.length) i hi j
   rw[show L.getD i []=L[i] by rw[List.getD_eq_getElem?_getD,List.getElem?_eq_getElem hi];rfl] at this
   exact this
 unfold comb
 rw[fz_of_zero h2,if_neg (by omega)]
 exact fun h=>by cases h
def wS (f:Nat→Int):Nat→List Int→Int
 | _,[]=>0
 | c,a :: t=>f c*a+wS f (c+1) t
end Go.Proofs.Ytlapbbffoapleaa.Pl
namespace Go.Proofs.Ytlapbbffoapleaa.Am
open Go Go.RowKit
section
variable {P:Program} {S:Ids} {H0:AH} {Q:PostC} {k k1:List It} {e e1:Env} {T T1:List Var} {n n1:Nat} {l1 r1:List Nat} {d1:Tmp}
end
structure RowsK {α:Type} (d:Kn α) (S:Ids) (A:AH) (V:Ids) (rows:List α) (cells:List Value):Prop where
 len:rows.length*d.es≤cells.length
 sub:∀id,V id→S id
 rows:∃W:Nat→Ids,(∀j id,W j id→V id)∧(∀i j id,W i id→W j id→i=j)∧∀(j:Nat) x,rows[j]?=some x→d.R (W j) A x ((cells.drop (j*d.es)).take d.es)
section
variable {α:Type} {d:Kn α} {S S' V:Ids} {A A':AH} {rows:List α} {cells:List Value}
theorem RowsK.nil (S:Ids) (A:AH) (cells:List Value):RowsK d S A (fun _=>False) [] cells:=⟨by simp,fun _ h=>h.elim,fun _ _=>False,fun _ _ h=>h.elim,fun _ _ _ h=>h.elim,fun j x h=>by simp at h⟩
theorem RowsK.mv (h:RowsK d S A V rows cells) (t:∀i,V i→S' i∧A'.m i=A.m i):RowsK d S' A' V rows cells:=by
 obtain⟨W,h1,h2,h3⟩:=h.rows
 exact⟨h.len,fun i hi=>(t i hi).1,W,h1,h2,fun j x hx=>d.same (fun id hid=>(t id (h1 j id hid)).2) (h3 j x hx)⟩
theorem splice_part {l ys:List Value} {k q n:Nat} (hk:k+ys.length≤l.length) (hq:q+n≤k∨(q=k∧n=ys.length)):((splice l k ys).drop q).take n=if q+n≤k∧¬(q=k∧n=ys.length) then(l.drop q).take n else ys:=by
 refine List.ext_getElem? fun j=>?_
 rw[List.getElem?_take]
 by_cases hj:j<n
 ·rw[if_pos hj,List.getElem?_drop,splice_get l k ys hk]
  rcases hq with hq | ⟨e1,e2⟩
  ·have h1:q+j<k:=by omega
   rw[if_pos h1]
   split
   ·rw[List.getElem?_take,if_pos hj,List.getElem?_drop]
   ·rename_i h2
    omega
  ·subst e1
   rw[if_neg (by omega),if_pos (by omega),if_neg (fun h=>h.2 ⟨rfl,e2⟩),show q+j-q=j by omega]
 ·rw[if_neg hj]
  split
  ·rw[List.getElem?_take,if_neg hj]
  ·rename_i h2
   rcases hq with hq | ⟨e1,e2⟩
   ·by_cases h3:q=k∧n=ys.length
    ·rw[List.getElem?_eq_none (by omega)]
    ·exact(h2 ⟨hq,h3⟩).elim
   ·rw[List.getElem?_eq_none (by omega)]
theorem RowsK.snoc {X:Ids} {x:α} {cs:List Value} (h:RowsK d S A V rows cells) (hx:d.R X A x cs) (hS:∀id,X id→S id) (hd:∀id,V id→X id→False) (hl:(rows.length+1)*d.es≤cells.length):RowsK d S A (fun id=>V id∨X id) (rows++[x]) (splice cells (rows.length*d.es) cs):=by
 obtain⟨W,h1,h2,h3⟩:=h.rows
 have hcs:=d.len hx
 have hk:rows.length*d.es+cs.length≤cells.length:=by rw[hcs,← Nat.succ_mul];exact hl
 refine⟨by rw[splice_length _ _ _ hk,List.length_append,List.length_singleton];exact hl,fun id hid=>hid.elim (h.sub id) (hS id),fun j id=>if j=rows.length then X id else W j id,fun j id hid=>?_,fun i j id hi hj=>?_,fun j y hy=>?_⟩
 ·simp only at hid
  split at hid
  ·exact .inr hid
  ·exact .inl (h1 j id hid)
 ·simp only at hi hj
  split at hi<;>split at hj
  ·omega
  ·exact(hd id (h1 j id hj) hi).elim
  ·exact(hd id (h1 i id hi) hj).elim
  ·exact h2 i j id hi hj
 ·by_cases e:j=rows.length
  ·subst e
   rw[List.getElem?_append_right (Nat.le_refl _),Nat.sub_self] at hy
   cases hy
   rw[splice_part hk (.inr ⟨rfl,hcs.symm⟩),if_neg (fun h=>h.2 ⟨rfl,hcs.symm⟩)]
   exact d.more (fun id hid=>by show(if rows.length=rows.length then X id else W rows.length id);rw[if_pos rfl];exact hid) hx
  ·have hj:j<rows.length:=by
    have:=(List.getElem?_eq_some_iff.1 hy).1
    simp at this
    omega
   rw[List.getElem?_append_left hj] at hy
   have hle:j*d.es+d.es≤rows.length*d.es:=by rw[← Nat.succ_mul];exact Nat.mul_le_mul_right _ hj
   have hR:=h3 j y hy
   have e2:((splice cells (rows.length*d.es) cs).drop (j*d.es)).take d.es=(cells.drop (j*d.es)).take d.es:=by
    rw[splice_part hk (.inl hle)]
    split
    ·rfl
    ·rename_i h4
     have h5:cs.length=0:=by
      refine Classical.byContradiction fun hne=>h4 ⟨hle,fun h6=>hne ?_⟩
      omega
     have h6:d.es=0:=by omega
     rw[List.eq_nil_of_length_eq_zero h5,h6]
     simp
   rw[e2]
   exact d.more (fun id hid=>by show(if j=rows.length then X id else W j id);rw[if_neg e];exact hid) hR
theorem RowsK.ml {T:List Var} {n i o c:Nat} {ty:TypeId} {H2:AH} {X:Ids} (h:RowsK d S A V rows cells) (g:Good S A T n H2) (hT:T[i]?=some (o,⟨ty,true,cells⟩)) (hX:X o) (hV:∀id,V id→X id) (hc:rows.length≤c):d.Ml X H2 (.slice (some ⟨o,0,some d.es⟩) rows.length c) rows:=by
 obtain⟨W,h1,h2,h3⟩:=h.rows
 have hv:=g.vars i _ hT
 refine .inr ⟨o,c,_,W,rfl,hc,hX,hv.1,rfl,h.len,fun j id hid=>⟨hV id (h1 j id hid),fun e=>hv.2.2 (e ▸ h.sub id (h1 j id hid))⟩,h2,fun j x hx=>?_⟩
 rw[Nat.zero_add]
 exact d.same (fun id hid=>(g.froz id (h.sub id (h1 j id hid))).2) (h3 j x hx)
end
theorem seg_at {l cs:List Value} {k n q:Nat} {v:Value} (h:(l.drop k).take n=cs) (hq:cs[q]?=some v):l[k+q]?=some v:=by
 rw[← h,List.getElem?_take] at hq
 split at hq
 ·rwa [List.getElem?_drop] at hq
 ·cases hq
structure MkRow {α:Type} (M:Kn α) (mk:Int→α→α) (sz:α→Nat) (x:List α) (k:Int) (Ws:Nat→Ids) (len:Nat) (i:Nat) (A:AH) (cs:List Value):Prop where
 len:cs.length=len
 row:∀(j:Nat) y,x[j]?=some y→(i≤j→M.R (Ws j) A y ((cs.drop (0+j*M.es)).take M.es))∧(j<i→M.R (Ws j) A (mk (k+(Am.sum ((x.map sz).take j):Nat)) y) ((cs.drop (0+j*M.es)).take M.es))
theorem MkRow.next {α:Type} {M:Kn α} {mk:Int→α→α} {sz:α→Nat} {x:List α} {k:Int} {Ws:Nat→Ids} {len i:Nat} {A A':AH} {cs cs':List Value} (h:MkRow M mk sz x k Ws len i A cs) {y:α} (hy:x[i]?=some y) (hl:cs'.length=cs.length)
  (hseg:∀j,j≠i→(cs'.drop (0+j*M.es)).take M.es=(cs.drop (0+j*M.es)).take M.es) (hA:∀j,j≠i→∀id,Ws j id→A'.m id=A.m id) (hr:M.R (Ws i) A' (mk (k+(Am.sum ((x.map sz).take i):Nat)) y) ((cs'.drop (0+i*M.es)).take M.es)):MkRow M mk sz x k Ws len (i+1) A' cs':=by
 refine⟨hl.trans h.len,fun j z hz=>?_⟩
 by_cases e:j=i
 ·subst e
  rw[hy] at hz
  cases hz
  exact⟨fun h=>by omega,fun _=>hr⟩
 ·rw[hseg j e]
  exact⟨fun hj=>M.same (hA j e) ((h.row j z hz).1 (by omega)),fun hj=>M.same (hA j e) ((h.row j z hz).2 (by omega))⟩
section
variable {P:Program} {S:Ids} {H0:AH} {W:Ids}
end
structure RkS where
 i:Nat
 S:Ids
 A:AH
 V:Ids
 cs:List Value
structure RkI {α:Type} (M:Kn α) (x:List α) (H:AH) (m:Nat) (s:RkS):Prop where
 le:s.i≤x.length
 old:St (Low H.n) H s.S s.A
 r:RowsK M s.S s.A s.V (x.take s.i) s.cs
 len:s.cs.length=m
 v:∀id,s.V id→H.n<id
theorem RkI.start {α:Type} {M:Kn α} {x:List α} {H:AH} {cs:List Value} {m:Nat} (hl:cs.length=m):RkI M x H m ⟨0,Low H.n,H,fun _=>False,cs⟩:=
 ⟨Nat.zero_le _,fun id hid=>⟨hid,rfl⟩,RowsK.nil _ _ _,hl,fun _ h=>h.elim⟩
theorem RkI.next {α:Type} {M:Kn α} {x:List α} {H H1:AH} {s:RkS} {S':Ids} {n m:Nat} (h:RkI M x H m s) (hm:m=x.length*M.es) (hn:H.n<n) (hlt:∀id,s.S id→id<n) (st:St s.S s.A S' H1) (hw:∀id,New n H1.n id→S' id) {y:α} {cs:List Value} (hy:x[s.i]?=some y) (hv:M.R (New n H1.n) H1 y cs):
  RkI M x H m ⟨s.i+1,S',H1,fun id=>s.V id∨New n H1.n id,splice s.cs (0+s.i*M.es) cs⟩:=by
 have hi:=(List.getElem?_eq_some_iff.1 hy).1
 have hl:=h.len
 have ht:(x.take s.i).length=s.i:=by rw[List.length_take];have:=h.le;omega
 have hle:(s.i+1)*M.es≤s.cs.length:=by rw[hl,hm];exact Nat.mul_le_mul_right _ hi
 have hs:=(h.r.mv (S':=S') (A':=H1) (fun i hi=>st i (h.r.sub i hi))).snoc hv hw (fun id p q=>by have:=hlt id (h.r.sub id p);have:=q.1;omega) (by rw[ht];exact hle)
 rw[ht] at hs
 rw[Nat.zero_add]
 refine⟨by simp only;omega,h.old.trans st,?_,?_,fun id hid=>hid.elim (h.v id) (fun q=>by have:=q.1;omega)⟩
 ·simp only
  have e:x.take (s.i+1)=x.take s.i++[y]:=by rw[List.take_add_one,hy];rfl
  rw[e]
  exact hs
 ·simp only
  rw[splice_length _ _ _ (by rw[M.len hv];rw[Nat.succ_mul] at hle;exact hle)]
  exact hl
theorem RkI.ml {α:Type} {M:Kn α} {x:List α} {H H1:AH} {s:RkS} {n1 m:Nat} {ty:TypeId} {T:List Var} (h:RkI M x H m s) (he:s.i=x.length) (hT:T[0]?=some (H.n,⟨ty,true,s.cs⟩)) (g:Good s.S s.A T n1 H1):
  M.Ml (New H.n H1.n) H1 (.slice (some ⟨H.n,0,some M.es⟩) x.length x.length) x:=by
 have hb:=g.blk hT
 have hr:=h.r
 rw[he,List.take_of_length_le (Nat.le_refl _)] at hr
 have hn:=g.n_
 exact hr.ml g hT ⟨Nat.le_refl _,hb.2⟩ (fun id hid=>⟨Nat.le_of_lt (h.v id hid),by have:=(g.froz id (hr.sub id hid)).1;omega⟩) (Nat.le_refl _)
section
variable {P:Program} {S:Ids} {H0:AH} {Q:PostC} {k k1:List It} {e e1:Env} {T T1:List Var} {n n1:Nat} {l1 r1:List Nat} {d1:Tmp}
end
theorem fold_put (cs:List Value):∀(pre rest:List Value),cs.length≤rest.length→List.foldl (fun(a:Array Value) (p:Value × Nat)=>a.setIfInBounds (0+p.2) p.1) (pre++rest).toArray (cs.zipIdx pre.length)=(pre++cs++rest.drop cs.length).toArray:=by
 induction cs with
 | nil=>intro pre rest _;simp
 | cons c cs ih=>
  intro pre rest h
  match rest,h with
  | r :: rest,h=>
   rw[List.zipIdx_cons,List.foldl_cons]
   have e:(pre++r :: rest).toArray.setIfInBounds (0+pre.length) c=((pre++[c])++rest).toArray:=by
    rw[Nat.zero_add]
    simp
   simp only at e ⊢
   rw[e]
   have:=ih (pre++[c]) rest (by simpa using h)
   rw[List.length_append,List.length_singleton] at this
   rw[this]
   simp
theorem fill_one {z:Array Value} {cs:List Value} {s:Nat} (hz:z.size=s) (hs:cs.length=s):Instr.fill (fun j=>some (j*s,s)) z [(0,.agg cs.toArray)]=some cs.toArray:=by
 have hc:(Value.agg cs.toArray).cells=cs.toArray:=rfl
 simp only[Instr.fill,hc]
 rw[if_neg (by simp;omega)]
 congr 1
 have h:=fold_put cs [] z.toList (by simp;omega)
 simp only[List.nil_append,List.length_nil] at h
 have e:z.toList.drop cs.length=[]:=List.drop_eq_nil_of_le (by simp;omega)
 rw[e,List.append_nil] at h
 refine Eq.trans ?_ h
 simp[Nat.zero_mul]
section
variable {P:Program} {S:Ids} {H0:AH} {Q:PostC} {k k1:List It} {e e1:Env} {T T1:List Var} {n n1:Nat} {l1 r1:List Nat} {d1:Tmp}
theorem KW.litS0 {o:Oper} {dr:Bool} {t el:TypeId} {m:Nat} {parts:Array (Nat × Operand)} {inf:TypeInfo} {z:Value} (h:Go1 P k e T n (.op o dr) k1 e1 T1 n1 l1 r1) (hlr:l1=r1) (ho:o.op=.buildSlice t m parts) (hd:o.dst=some d1)
  (hu:P.underlying t=some (.slice el)) (hi:P.info? el=some inf) (hz:inf.zero=some z) (hzo:zeroOkL P el=true) (hp:(parts.toList.map fun p=>(p.1,ev e1 p.2))=[]) (hm:m=0)
  (hk:KW P S H0 Q (n1+1) (T1++[(n1,⟨el,true,[]⟩)]) k1 (put1 e1 d1 (.slice (some ⟨n1,0,some inf.size⟩) 0 0))):KW P S H0 Q n T k e:=by
 refine KW.go h hlr (KEvt.heap (c:=⟨_,_,_,_,_,_⟩) _ _ _ (by rw[ho];exact .inl rfl) (fun H g=>⟨none,_,?_,g.push _⟩) (by rw[hd,put1_eq];exact hk))
 rw[ho]
 subst hm
 have h1:(zarr z 0).size=0:=by simp[zarr]
 simp only[hop,hp,alit,hu,hi,hz,Nat.zero_mul,Instr.fill,g.n_]
 rw[if_pos ⟨zeroOkL_ok hzo,by omega⟩]
 simp only[h1,if_true]
 have h2:(zarr z 0).toList=[]:=List.eq_nil_of_length_eq_zero (by simpa using h1)
 rw[h2]
theorem KW.litS1 {o:Oper} {dr:Bool} {t el:TypeId} {m:Nat} {parts:Array (Nat × Operand)} {inf:TypeInfo} {z:Value} {cs:List Value} (h:Go1 P k e T n (.op o dr) k1 e1 T1 n1 l1 r1) (hlr:l1=r1) (ho:o.op=.buildSlice t m parts) (hd:o.dst=some d1)
  (hu:P.underlying t=some (.slice el)) (hi:P.info? el=some inf) (hz:inf.zero=some z) (hzo:zeroOkL P el=true) (hp:(parts.toList.map fun p=>(p.1,ev e1 p.2))=[(0,.agg cs.toArray)]) (hm:m=1) (hs:inf.size=cs.length) (hle:Nat.ble cs.length 16777216=true)
  (hk:KW P S H0 Q (n1+1) (T1++[(n1,⟨el,true,cs⟩)]) k1 (put1 e1 d1 (.slice (some ⟨n1,0,some inf.size⟩) 1 1))):KW P S H0 Q n T k e:=by
 refine KW.go h hlr (KEvt.heap (c:=⟨_,_,_,_,_,_⟩) _ _ _ (by rw[ho];exact .inl rfl) (fun H g=>⟨none,_,?_,g.push _⟩) (by rw[hd,put1_eq];exact hk))
 rw[ho]
 subst hm
 have hle:=Nat.le_of_ble_eq_true hle
 have h1:(zarr z (1*inf.size)).size=inf.size:=by simp[zarr]
 simp only[hop,hp,alit,hu,hi,hz,fill_one h1 hs.symm,g.n_]
 rw[if_pos ⟨zeroOkL_ok hzo,by omega⟩]
 simp[hs]
theorem KW.appTS {o:Oper} {dr:Bool} {t el:TypeId} {x y:Operand} {inf:TypeInfo} {m len c id off:Nat} {xs ys:List Value} (j:Nat) (h:Go1 P k e T n (.op o dr) k1 e1 T1 n1 l1 r1) (hlr:l1=r1) (ho:o.op=.call {callee:=.builtin .append,args:=#[x,y],argTypes:=#[t,t]}) (hd:o.dst=some d1) (hu:P.underlying t=some (.slice el)) (hi:P.info? el=some inf) (hx:ev e1 x=.slice (some ⟨id,off,some inf.size⟩) len c) (hT:T1[j]?=some (id,⟨el,true,xs⟩))
  (hs:0<inf.size) (hzo:zeroOkL P el=true) (hy:∀H,Good S H0 T1 n1 H→acells H (ev e1 y) inf.size=some (m,ys)) (hlen:off+len*inf.size≤xs.length) (hone:ys.all Value.oneCell'=true) (hm:m≠0) (hb:(len+m)*inf.bytes≤140737488355328) (hml:len+m≤9223372036854775807)
  (hk:KW P S H0 Q (n1+1) (T1.set j (n1,⟨el,true,(xs.drop off).take (len*inf.size)++ys⟩)) k1 (put1 e1 d1 (.slice (some ⟨n1,0,some inf.size⟩) (len+m) (len+m)))):KW P S H0 Q n T k e:=by
 refine KW.go h hlr (KEvt.heap (c:=⟨_,_,_,_,_,_⟩) _ _ _ (by rw[ho];exact .inr rfl) (fun H g=>⟨none,_,?_,g.move hT _⟩) (by rw[hd,put1_eq];exact hk))
 rw[ho]
 have h1:=hy H g
 have h2:=(g.blk hT).1
 simp only[hop,aapp,aappend,hu,hi,hx,h1,h2]
 rw[if_pos trivial,if_pos ⟨zeroOkL_ok hzo,hs,hone⟩,if_neg hm,if_pos ⟨trivial,trivial,trivial,hlen,hml,hb⟩]
 simp only[AH.kill,g.n_]
theorem acells_seg {H:AH} {id off m c es:Nat} {b:Blk} (hb:H.m id=some b) (hl:off+m*es≤b.cells.length):acells H (.slice (some ⟨id,off,some es⟩) m c) es=some (m,(b.cells.drop off).take (m*es)):=by
 cases m with
 | zero=>simp[acells]
 | succ m=>
  simp only[acells,if_true,hb]
  rw[if_pos hl]
end
end Go.Proofs.Ytlapbbffoapleaa.Am
namespace Go.Proofs.Ytlapbbffoapleaa.Am
open Go Go.RowKit Go.Proofs
abbrev T_Deed:Type:=Int × Int × Int
abbrev T_Purse:Type:=Int × List Int × List Int
abbrev T_Seat:Type:=T_Purse × T_Purse × Int
abbrev T_Packet:Type:=Bool × Int × Int × List Int × List Int
structure Cer where
 ep:Int
 seats:List T_Seat
 oe:Int
 got:List (List Int)
 has:List Bool
 named:List Bool
 wire:List T_Packet
def purse0:T_Purse:=(-1,[],[])
def seat0:T_Seat:=(purse0,purse0,0)
def cer0 (n:Nat):Cer:=⟨0,List.replicate n seat0,-1,List.replicate n [],List.replicate n false,List.replicate n false,[]⟩
abbrev Cer.seat (c:Cer) (h:Int):T_Seat:=c.seats.getD h.toNat seat0
def fresh (c:Cer) (e:Int):Cer:=if c.oe<e then⟨c.ep,c.seats,e,List.replicate c.got.length [],List.replicate c.has.length false,c.named,c.wire⟩ else c
noncomputable def comeO (x:T_Deal) (c:Cer) (p:T_Packet):Cer:=
 if p.2.2.1=c.oe∧c.named.getD p.2.1.toNat false=false∧c.has.getD p.2.1.toNat false=false then
  (if tv (tagsD x p.2.2.1 p.2.1 p.2.2.2.1=p.2.2.2.2)=true then⟨c.ep,c.seats,c.oe,c.got.set p.2.1.toNat p.2.2.2.1,c.has.set p.2.1.toNat true,c.named,c.wire⟩
  else⟨c.ep,c.seats,c.oe,c.got,c.has,c.named.set p.2.1.toNat true,c.wire⟩)
 else c
def comeS (c:Cer) (p:T_Packet):Cer:=
 if(c.seat p.2.1).1.1<p.2.2.1 then⟨c.ep,c.seats.set p.2.1.toNat ((p.2.2.1,p.2.2.2.1,p.2.2.2.2),(c.seat p.2.1).2),c.oe,c.got,c.has,c.named,c.wire⟩ else c
noncomputable def come (x:T_Deal) (c:Cer) (p:T_Packet):Cer:=if p.1=true then comeO x (fresh c p.2.2.1) p else comeS c p
def send (c:Cer) (p:T_Packet):Cer × Int:=if c.wire.length=12 then(c,3) else(⟨c.ep,c.seats,c.oe,c.got,c.has,c.named,c.wire++[p]⟩,0)
def dropW (c:Cer) (i:Nat):Cer:=⟨c.ep,c.seats,c.oe,c.got,c.has,c.named,c.wire.eraseIdx i⟩
def setS (c:Cer) (h:Int) (s:T_Seat):Cer:=⟨c.ep,c.seats.set h.toNat s,c.oe,c.got,c.has,c.named,c.wire⟩
abbrev Cer.pk (c:Cer) (a:Int):T_Packet:=c.wire.getD a.toNat (false,0,0,[],[])
noncomputable def doIt (x:T_Deal) (c:Cer) (d:T_Deed):Cer × Int:=
 if d.1=3∨d.1=4∨d.1=5 then
  (if(c.wire.length:Int)≤d.2.1 then(c,2) else
   ((if d.1=5 then(if d.1=4 then c else dropW c d.2.1.toNat) else come x (if d.1=4 then c else dropW c d.2.1.toNat) (c.pk d.2.1)),0))
 else if d.1=9 then(if c.ep+1=(x.2.2.1.length:Int) then(c,3) else(⟨c.ep+1,c.seats,c.oe,c.got,c.has,c.named,c.wire⟩,0))
 else if x.1.1≤d.2.1 then(c,2)
 else if d.1=1 then send c (false,d.2.1,c.ep,valsD x c.ep d.2.1,tagsD x c.ep d.2.1 (valsD x c.ep d.2.1))
 else if d.1=2 then(if(c.seat d.2.1).1.1=-1 then(c,4) else send c (true,d.2.1,(c.seat d.2.1).1.1,lieOf x.1.2.2.1 (c.seat d.2.1).1.2.1 (c.seat d.2.1).2.2,(c.seat d.2.1).1.2.2))
 else if d.1=6 then(if x.1.2.2.1≤d.2.2 then(c,2) else(setS c d.2.1 ((c.seat d.2.1).1,(c.seat d.2.1).2.1,d.2.2),0))
 else if d.1=7 then(setS c d.2.1 ((c.seat d.2.1).1,(c.seat d.2.1).1,(c.seat d.2.1).2.2),0)
 else(setS c d.2.1 ((c.seat d.2.1).2.1,(c.seat d.2.1).2.1,(c.seat d.2.1).2.2),0)
noncomputable def codes (x:T_Deal) (c:Cer):List T_Deed→List Int
 | []=>[]
 | d :: ds=>(doIt x c d).2 :: codes x (doIt x c d).1 ds
def cntD (k:Int):Int:=if k=6 then 2 else if k=9 then 0 else 1
def DeedP (d:T_Deed):Prop:=(1≤d.1∧d.1≤9)∧(0≤d.2.1∧d.2.1≤999)∧(0≤d.2.2∧d.2.2≤999)∧(0<cntD d.1∨d.2.1=0)∧(1<cntD d.1∨d.2.2=0)
structure RowsH (x:T_Deal) (h:Int) (vs ts:List Int):Prop where
 vl:vs.length=(rowsOf x.1.2.1 h).length
 tl:ts.length=(rowsOf x.1.2.1 h).length
 ve:Elems x.1.2.2.1 vs
def EpOk (x:T_Deal) (e:Int):Prop:=0≤e∧e<(x.2.2.1.length:Int)
def HoOk (x:T_Deal) (h:Int):Prop:=0≤h∧h<x.1.1
structure PkOk (x:T_Deal) (p:T_Packet):Prop where
 ho:HoOk x p.2.1
 ep:EpOk x p.2.2.1
 rw:RowsH x p.2.1 p.2.2.2.1 p.2.2.2.2
def PuOk (x:T_Deal) (h:Int) (p:T_Purse):Prop:=(p.1=-1∧p.2.1=[]∧p.2.2=[])∨(EpOk x p.1∧RowsH x h p.2.1 p.2.2)
structure SeOk (x:T_Deal) (h:Int) (s:T_Seat):Prop where
 pu:PuOk x h s.1
 sa:PuOk x h s.2.1
 lie:0≤s.2.2∧s.2.2≤x.1.2.2.1-1
structure CerOk (x:T_Deal) (c:Cer):Prop where
 ep:EpOk x c.ep
 sl:(c.seats.length:Int)=x.1.1
 se:∀(j:Nat) s,c.seats[j]?=some s→SeOk x j s
 oe:c.oe=-1∨EpOk x c.oe
 gl:c.got.length=c.seats.length
 hl:c.has.length=c.seats.length
 nl:c.named.length=c.seats.length
 go:∀(j:Nat) g,c.got[j]?=some g→g=[]∧c.has.getD j false=false∨g.length=(rowsOf x.1.2.1 j).length∧Elems x.1.2.2.1 g
 wl:c.wire.length≤12
 wi:∀p∈c.wire,PkOk x p
theorem getD_mem {α:Type} {l:List α} {i:Nat} {d:α} (h:i<l.length):l[i]?=some (l.getD i d):=by
 rw[List.getD_eq_getElem?_getD,List.getElem?_eq_getElem h];rfl
section
variable {x:T_Deal} {c:Cer}
theorem CerOk.seat (h:CerOk x c) {a:Int} (ha:HoOk x a):c.seats[a.toNat]?=some (c.seat a)∧SeOk x a (c.seat a):=by
 have h1:=h.sl
 have h2:=ha.1
 have h3:=ha.2
 have h4:c.seats[a.toNat]?=some (c.seat a):=getD_mem (by omega)
 have h5:=h.se _ _ h4
 rw[show((a.toNat:Nat):Int)=a from by omega] at h5
 exact⟨h4,h5⟩
theorem CerOk.setS (h:CerOk x c) {a:Int} (ha:HoOk x a) {s:T_Seat} (hs:SeOk x a s):CerOk x (setS c a s):=by
 have h2:=ha.1
 refine⟨h.ep,by simp[Am.setS,h.sl],fun j t hj=>?_,h.oe,by simp[Am.setS,h.gl],by simp[Am.setS,h.hl],by simp[Am.setS,h.nl],h.go,h.wl,h.wi⟩
 simp only[Am.setS] at hj
 rw[List.getElem?_set] at hj
 split at hj
 ·rename_i e
  split at hj
  ·cases hj
   rw[← e,show((a.toNat:Nat):Int)=a from by omega]
   exact hs
  ·cases hj
 ·exact h.se j t hj
theorem CerOk.send (h:CerOk x c) {p:T_Packet} (hp:PkOk x p):CerOk x (send c p).1:=by
 unfold Am.send
 split
 ·exact h
 ·rename_i hw
  have:=h.wl
  refine⟨h.ep,h.sl,h.se,h.oe,h.gl,h.hl,h.nl,h.go,by simp;omega,fun q hq=>?_⟩
  rcases List.mem_append.1 hq with hq | hq
  ·exact h.wi q hq
  ·rw[List.mem_singleton.1 hq];exact hp
theorem CerOk.drop (h:CerOk x c) (i:Nat):CerOk x (dropW c i):=by
 refine⟨h.ep,h.sl,h.se,h.oe,h.gl,h.hl,h.nl,h.go,?_,fun q hq=>h.wi q (List.mem_of_mem_eraseIdx hq)⟩
 have:=List.length_eraseIdx_le c.wire i
 have:=h.wl
 show(c.wire.eraseIdx i).length≤12
 omega
theorem CerOk.pk (h:CerOk x c) {a:Int} (h0:0≤a) (h1:a<(c.wire.length:Int)):c.wire[a.toNat]?=some (c.pk a)∧PkOk x (c.pk a):=by
 have h4:c.wire[a.toNat]?=some (c.pk a):=getD_mem (by omega)
 exact⟨h4,h.wi _ (List.mem_of_getElem? h4)⟩
theorem CerOk.fresh (h:CerOk x c) {e:Int} (he:EpOk x e):CerOk x (fresh c e):=by
 unfold Am.fresh
 split
 ·refine⟨h.ep,h.sl,h.se,.inr he,by simp[h.gl],by simp[h.hl],h.nl,fun j g hj=>?_,h.wl,h.wi⟩
  refine .inl ⟨?_,?_⟩
  ·exact List.eq_of_mem_replicate (List.mem_of_getElem? hj)
  ·simp only[List.getD_eq_getElem?_getD,List.getElem?_replicate]
   split<;>rfl
 ·exact h
theorem CerOk.comeO (h:CerOk x c) {p:T_Packet} (hp:PkOk x p):CerOk x (comeO x c p):=by
 unfold Am.comeO
 split
 ·split
  ·refine⟨h.ep,h.sl,h.se,h.oe,by simp[h.gl],by simp[h.hl],h.nl,fun j g hj=>?_,h.wl,h.wi⟩
   simp only at hj
   rw[List.getElem?_set] at hj
   split at hj
   ·rename_i e
    split at hj
    ·cases hj
     have h1:=hp.ho.1
     rw[← e,show((p.2.1.toNat:Nat):Int)=p.2.1 from by omega]
     exact .inr ⟨hp.rw.vl,hp.rw.ve⟩
    ·cases hj
   ·rename_i e
    rcases h.go j g hj with⟨h1,h2⟩ | h1
    ·refine .inl ⟨h1,?_⟩
     simp only[List.getD_eq_getElem?_getD] at h2 ⊢
     rw[List.getElem?_set_ne e]
     exact h2
    ·exact .inr h1
  ·exact⟨h.ep,h.sl,h.se,h.oe,h.gl,h.hl,by simp[h.nl],h.go,h.wl,h.wi⟩
 ·exact h
theorem CerOk.comeS (h:CerOk x c) {p:T_Packet} (hp:PkOk x p):CerOk x (comeS c p):=by
 unfold Am.comeS
 split
 ·have hs:=(h.seat hp.ho).2
  exact h.setS hp.ho (s:=((p.2.2.1,p.2.2.2.1,p.2.2.2.2),(c.seat p.2.1).2)) ⟨.inr ⟨hp.ep,hp.rw⟩,hs.sa,hs.lie⟩
 ·exact h
theorem CerOk.come (h:CerOk x c) {p:T_Packet} (hp:PkOk x p):CerOk x (come x c p):=by
 unfold Am.come
 split
 ·exact(h.fresh hp.ep).comeO hp
 ·exact h.comeS hp
theorem HoOk.at (hd:DealOk x) {e a:Int} (ha:HoOk x a) (he:EpOk x e):∃E J,DealAt x e a E J:=by
 refine codeD_ok ?_
 unfold codeD
 rw[tv_true hd,if_pos rfl,if_pos ⟨⟨he.1,by have:=he.2;omega⟩,ha.1,by have:=ha.2;omega⟩]
theorem DealOk.prime (hd:DealOk x):PrimeP x.1.2.2.1:=hd.sch.mat.pr
theorem RowsH.given (hd:DealOk x) {e a:Int}:RowsH x a (valsD x e a) (tagsD x e a (valsD x e a)):=
 ⟨vals_len,by simp[tagsD,tagsOf],vals_in hd.prime⟩
theorem CerOk.doIt (hd:DealOk x) {d:T_Deed} (hp:DeedP d) (h:CerOk x c):CerOk x (doIt x c d).1:=by
 obtain⟨h1,h2,h3,h4,h5⟩:=hp
 unfold Am.doIt
 split
 ·split
  ·exact h
  ·have hpk:=(h.pk (a:=d.2.1) h2.1 (by omega)).2
   have hc:CerOk x (if d.1=4 then c else dropW c d.2.1.toNat):=by
    split
    ·exact h
    ·exact h.drop _
   show CerOk x (if d.1=5 then _ else _)
   split
   ·exact hc
   ·exact hc.come hpk
 split
 ·split
  ·exact h
  ·rename_i he
   have:=h.ep.1
   have:=h.ep.2
   exact⟨⟨by show 0≤c.ep+1;omega,by show c.ep+1<_;omega⟩,h.sl,h.se,h.oe,h.gl,h.hl,h.nl,h.go,h.wl,h.wi⟩
 split
 ·exact h
 rename_i hr
 have ha:HoOk x d.2.1:=⟨h2.1,by omega⟩
 have hs:=(h.seat ha).2
 split
 ·exact h.send ⟨ha,h.ep,RowsH.given hd⟩
 split
 ·split
  ·exact h
  ·rename_i hne
   refine h.send ⟨ha,?_,?_⟩
   ·exact(hs.pu.resolve_left (fun q=>hne q.1)).1
   ·have:=(hs.pu.resolve_left (fun q=>hne q.1)).2
    exact⟨by rw[lie_len];exact this.vl,this.tl,lie_in hd.prime this.ve⟩
 split
 ·split
  ·exact h
  ·exact h.setS ha (s:=((c.seat d.2.1).1,(c.seat d.2.1).2.1,d.2.2)) ⟨hs.pu,hs.sa,h3.1,by show d.2.2≤_;omega⟩
 split
 ·exact h.setS ha (s:=((c.seat d.2.1).1,(c.seat d.2.1).1,(c.seat d.2.1).2.2)) ⟨hs.pu,hs.pu,hs.lie⟩
 ·exact h.setS ha (s:=((c.seat d.2.1).2.1,(c.seat d.2.1).2.1,(c.seat d.2.1).2.2)) ⟨hs.sa,hs.sa,hs.lie⟩
theorem CerOk.start (hd:DealOk x):CerOk x (cer0 x.1.1.toNat):=by
 have h7:=hd.sch.h7
 have hb:=hd.bl
 have h2:=hd.prime.1
 refine⟨⟨Int.le_refl _,by show(0:Int)<_;omega⟩,by have:=hd.sch.h1;simp[cer0];omega,fun j s hj=>?_,.inl rfl,by simp[cer0],by simp[cer0],by simp[cer0],fun j g hj=>?_,by simp[cer0],fun p hp=>by simp[cer0] at hp⟩
 ·rw[List.eq_of_mem_replicate (List.mem_of_getElem? hj)]
  exact⟨.inl ⟨rfl,rfl,rfl⟩,.inl ⟨rfl,rfl,rfl⟩,by show(0:Int)≤0;omega,by show(0:Int)≤_;omega⟩
 ·refine .inl ⟨List.eq_of_mem_replicate (List.mem_of_getElem? hj),?_⟩
  simp only[cer0,List.getD_eq_getElem?_getD,List.getElem?_replicate]
  split<;>rfl
end
end Go.Proofs.Ytlapbbffoapleaa.Am
namespace Go.Proofs.Ytlapbbffoapleaa.Am
open Go Go.RowKit
def Cl {α:Type} (d:Kn α) (X:Ids) (A:AH) (xs:List α) (cs:List Value):Prop:=xs.length*d.es≤cs.length∧∀(i:Nat) x,xs[i]?=some x→d.R X A x ((cs.drop (i*d.es)).take d.es)
section
variable {α:Type} {d:Kn α} {X X' S:Ids} {A A':AH} {xs:List α} {cs:List Value}
theorem Cl.mv (h:Cl d X A xs cs) (hA:∀id,X id→A'.m id=A.m id) (hX:∀id,X id→X' id):Cl d X' A' xs cs:=
 ⟨h.1,fun i x hx=>d.more hX (d.same hA (h.2 i x hx))⟩
theorem Cl.nil (d:Kn α) (X:Ids) (A:AH) (cs:List Value):Cl d X A [] cs:=⟨by simp,fun i x h=>by simp at h⟩
theorem Cl.sl {id c:Nat} {b:Blk} (h:Cl d X A xs cs) (hS:S id) (hm:A.m id=some b) (hb:b.cells=cs) (hX:∀id,X id→S id) (hc:xs.length≤c):d.Sl S A (.slice (some ⟨id,0,some d.es⟩) xs.length c) xs:=
 .inr ⟨id,0,c,b,rfl,hc,hS,hm,by rw[hb,Nat.zero_add];exact h.1,fun i x hx=>by rw[hb,Nat.zero_add];exact d.more hX (h.2 i x hx)⟩
theorem seg_splice {l ys:List Value} {k q n:Nat} (hk:k+ys.length≤l.length) (h:q+n≤k∨k+ys.length≤q):((splice l k ys).drop q).take n=(l.drop q).take n:=by
 refine List.ext_getElem? fun j=>?_
 rw[List.getElem?_take,List.getElem?_take]
 split
 ·rename_i hj
  rw[List.getElem?_drop,List.getElem?_drop,splice_get l k ys hk]
  rcases h with h | h
  ·rw[if_pos (by omega)]
  ·rw[if_neg (by omega),if_neg (by omega)]
 ·rfl
theorem seg_in {l ys:List Value} {k:Nat} (hk:k+ys.length≤l.length):((splice l k ys).drop k).take ys.length=ys:=by
 refine List.ext_getElem? fun j=>?_
 rw[List.getElem?_take]
 by_cases hj:j<ys.length
 ·rw[if_pos hj,List.getElem?_drop,splice_get l k ys hk,if_neg (by omega),if_pos (by omega)]
  congr 1
  omega
 ·rw[if_neg hj,List.getElem?_eq_none (by omega)]
theorem mul_le' {i n e:Nat} (h:i<n):i*e+e≤n*e:=by rw[← Nat.succ_mul];exact Nat.mul_le_mul_right _ h
theorem Cl.set {i:Nat} {y:α} {ys:List Value} (h:Cl d X A xs cs) (hi:i<xs.length) (hy:d.R X A y ys):Cl d X A (xs.set i y) (splice cs (i*d.es) ys)∧(splice cs (i*d.es) ys).length=cs.length:=by
 have hl:=d.len hy
 have h1:=mul_le' (e:=d.es) hi
 have hk:i*d.es+ys.length≤cs.length:=by have:=h.1;omega
 have hlen:=splice_length cs (i*d.es) ys hk
 refine⟨⟨by rw[hlen,List.length_set];exact h.1,fun j x hx=>?_⟩,hlen⟩
 rw[List.getElem?_set] at hx
 split at hx
 ·rename_i e
  subst e
  cases hx
  have:=seg_in hk
  rw[hl] at this
  rw[this]
  exact hy
 ·rename_i e
  rw[seg_splice hk]
  ·exact h.2 j x hx
  ·rcases Nat.lt_or_gt_of_ne e with h2 | h2
   ·right;have:=mul_le' (e:=d.es) h2;omega
   ·left;have:=mul_le' (e:=d.es) h2;omega
theorem Cl.part {i:Nat} {x y:α} {a b b' r:List Value} (h:Cl d X A xs cs) (hx:xs[i]?=some x) (hseg:(cs.drop (i*d.es)).take d.es=a++(b++r)) (hb:b'.length=b.length) (hXX:∀id,X id→X' id) (hy:d.R X' A y (a++(b'++r))):Cl d X' A (xs.set i y) (splice cs (i*d.es+a.length) b')∧(splice cs (i*d.es+a.length) b').length=cs.length:=by
 have hi:=(List.getElem?_eq_some_iff.1 hx).1
 have hl:=d.len hy
 have h1:=mul_le' (e:=d.es) hi
 have h0:=h.1
 simp only[List.length_append] at hl
 have hk:i*d.es+(a++(b'++r)).length≤cs.length:=by simp only[List.length_append];omega
 have hk2:i*d.es+a.length+b'.length≤cs.length:=by omega
 have e:splice cs (i*d.es+a.length) b'=splice cs (i*d.es) (a++(b'++r)):=by
  refine List.ext_getElem? fun j=>?_
  rw[splice_get _ _ _ hk,splice_get _ _ _ hk2]
  simp only[List.length_append]
  by_cases c1:j<i*d.es
  ·rw[if_pos (by omega),if_pos c1]
  ·rw[if_neg c1]
   by_cases c2:j<i*d.es+(a.length+(b'.length+r.length))
   ·rw[if_pos c2]
    have old:∀(v:Value),(a++(b++r))[j-i*d.es]?=some v→cs[j]?=some v:=fun v hv=>by
     have:=seg_at hseg hv
     rwa [show i*d.es+(j-i*d.es)=j by omega] at this
    by_cases c3:j<i*d.es+a.length
    ·rw[if_pos c3,List.getElem?_append_left (by omega)]
     have hg:a[j-i*d.es]?=some (a[j-i*d.es]'(by omega)):=List.getElem?_eq_getElem (by omega)
     rw[hg]
     exact old _ (by rw[List.getElem?_append_left (by omega)];exact hg)
    ·rw[if_neg c3]
     by_cases c4:j<i*d.es+a.length+b'.length
     ·rw[if_pos c4,List.getElem?_append_right (by omega),List.getElem?_append_left (by omega)]
      congr 1;omega
     ·rw[if_neg c4,List.getElem?_append_right (by omega),List.getElem?_append_right (by omega)]
      have hg:r[j-i*d.es-a.length-b'.length]?=some (r[j-i*d.es-a.length-b'.length]'(by omega)):=List.getElem?_eq_getElem (by omega)
      rw[hg]
      exact old _ (by rw[List.getElem?_append_right (by omega),List.getElem?_append_right (by omega),← hb];exact hg)
   ·rw[if_neg c2,if_neg (by omega),if_neg (by omega)]
 rw[e]
 exact(h.mv (fun _ _=>rfl) hXX).set hi hy
theorem Cl.snoc {y:α} {ys:List Value} (h:Cl d X A xs cs) (hy:d.R X A y ys):Cl d X A (xs++[y]) ((cs.drop 0).take (xs.length*d.es)++ys):=by
 have hl:=d.len hy
 have h1:=h.1
 have ht:((cs.drop 0).take (xs.length*d.es)).length=xs.length*d.es:=by rw[List.length_take,List.drop_zero];omega
 refine⟨by rw[List.length_append,List.length_append,List.length_singleton,ht,hl,Nat.add_mul];omega,fun j x hx=>?_⟩
 by_cases hj:j<xs.length
 ·rw[List.getElem?_append_left hj] at hx
  have h2:=mul_le' (e:=d.es) hj
  have e:((((cs.drop 0).take (xs.length*d.es))++ys).drop (j*d.es)).take d.es=(cs.drop (j*d.es)).take d.es:=by
   rw[List.drop_append_of_le_length (by omega),List.take_append_of_le_length (by rw[List.length_drop];omega),List.drop_zero,List.drop_take,List.take_take]
   congr 1
   omega
  rw[e]
  exact h.2 j x hx
 ·have hjl:=(List.getElem?_eq_some_iff.1 hx).1
  simp at hjl
  obtain rfl:j=xs.length:=by omega
  simp at hx
  subst hx
  have e:((((cs.drop 0).take (xs.length*d.es))++ys).drop (xs.length*d.es)).take d.es=ys:=by
   have e1:=List.drop_left (l₁:=(cs.drop 0).take (xs.length*d.es)) (l₂:=ys)
   rw[ht] at e1
   rw[e1,List.take_of_length_le (by omega)]
  rw[e]
  exact hy
theorem Cl.one {y:α} {ys:List Value} (hy:d.R X A y ys):Cl d X A [y] ys:=by
 have hl:=d.len hy
 refine⟨by simp[hl],fun j x hx=>?_⟩
 cases j with
 | zero=>cases hx;rw[Nat.zero_mul,List.drop_zero,List.take_of_length_le (by omega)];exact hy
 | succ j=>simp at hx
end
abbrev KBo:Kn Bool:=Kn.bool
abbrev K_Purse:Kn T_Purse:=Kn.pair KI (Kn.pair K_Int64S K_Int64S)
abbrev K_Seat:Kn T_Seat:=Kn.pair K_Purse (Kn.pair K_Purse KI)
abbrev K_Packet:Kn T_Packet:=Kn.pair KBo (Kn.pair KI (Kn.pair KI (Kn.pair K_Int64S K_Int64S)))
section
variable {S X:Ids} {A:AH} {cs:List Value}
end
structure HT where
 h:TypeId
 s:TypeId
 g:TypeId
 b:TypeId
 p:TypeId
structure HD where
 hid:Nat
 sid:Nat
 gid:Nat
 bid:Nat
 nid:Nat
 w:Option (Nat × Nat)
def HD.L (d:HD):List Nat:=[d.hid,d.sid,d.gid,d.bid,d.nid]++(match d.w with | some (i,_)=>[i] | none=>[])
def HD.W (d:HD):Ids:=fun id=>id∈d.L
def HD.wv (d:HD) (n:Nat):Value:=match d.w with | some (i,c)=>.slice (some ⟨i,0,some 5⟩) n c | none=>.slice none 0 0
def HD.cells (d:HD) (pre post:List Value) (c:Cer):List Value:=
 pre++([.int .i64 c.ep,.slice (some ⟨d.sid,0,some 7⟩) c.seats.length c.seats.length,.int .i64 c.oe,.slice (some ⟨d.gid,0,some 1⟩) c.got.length c.got.length,.slice (some ⟨d.bid,0,some 1⟩) c.has.length c.has.length,.slice (some ⟨d.nid,0,some 1⟩) c.named.length c.named.length,d.wv c.wire.length]++post)
def SeatsB (t:HT) (S:Ids) (A:AH) (X:Ids) (id:Nat) (xs:List T_Seat):Prop:=S id∧∃cs,A.m id=some ⟨t.s,true,cs⟩∧Cl K_Seat X A xs cs
def GotB (t:HT) (S:Ids) (A:AH) (X:Ids) (id:Nat) (xs:List (List Int)):Prop:=S id∧∃cs,A.m id=some ⟨t.g,true,cs⟩∧cs.length=xs.length∧Cl KI.sl X A xs cs
def BoolB (t:HT) (S:Ids) (A:AH) (id:Nat) (xs:List Bool):Prop:=S id∧A.m id=some ⟨t.b,true,xs.map Value.bool⟩
def WireB (t:HT) (S:Ids) (A:AH) (X:Ids):Option (Nat × Nat)→List T_Packet→Prop
 | none,xs=>xs=[]
 | some (i,q),xs=>S i∧xs.length≤q∧∃cs,A.m i=some ⟨t.p,true,cs⟩∧Cl K_Packet X A xs cs
structure Hl (t:HT) (pre post:List Value) (S:Ids) (A:AH) (X:Ids) (d:HD) (c:Cer):Prop where
 sx:∀id,X id→S id
 hall:S d.hid∧A.m d.hid=some ⟨t.h,true,d.cells pre post c⟩
 seats:SeatsB t S A X d.sid c.seats
 got:GotB t S A X d.gid c.got
 has:BoolB t S A d.bid c.has
 named:BoolB t S A d.nid c.named
 wire:WireB t S A X d.w c.wire
 dist:d.L.Nodup
 out:∀id,X id→¬d.W id
section
variable {t:HT} {S S' X X':Ids} {A A':AH} {i:Nat}
theorem SeatsB.mv {xs:List T_Seat} (h:SeatsB t S A X i xs) (hi:S' i∧A'.m i=A.m i) (hX:∀id,X id→A'.m id=A.m id) (hXX:∀id,X id→X' id):SeatsB t S' A' X' i xs:=by
 obtain⟨_,cs,s1,s2⟩:=h
 exact⟨hi.1,cs,hi.2.trans s1,s2.mv hX hXX⟩
theorem GotB.mv {xs:List (List Int)} (h:GotB t S A X i xs) (hi:S' i∧A'.m i=A.m i) (hX:∀id,X id→A'.m id=A.m id) (hXX:∀id,X id→X' id):GotB t S' A' X' i xs:=by
 obtain⟨_,cs,s1,s2,s3⟩:=h
 exact⟨hi.1,cs,hi.2.trans s1,s2,s3.mv hX hXX⟩
theorem BoolB.mv {xs:List Bool} (h:BoolB t S A i xs) (hi:S' i∧A'.m i=A.m i):BoolB t S' A' i xs:=⟨hi.1,hi.2.trans h.2⟩
theorem WireB.mv {w:Option (Nat × Nat)} {xs:List T_Packet} (h:WireB t S A X w xs) (hi:∀i q,w=some (i,q)→S' i∧A'.m i=A.m i) (hX:∀id,X id→A'.m id=A.m id) (hXX:∀id,X id→X' id):WireB t S' A' X' w xs:=by
 match w,h with
 | none,h=>exact h
 | some (i,q),h=>
  obtain⟨_,w1,cs,w2,w3⟩:=h
  exact⟨(hi i q rfl).1,w1,cs,(hi i q rfl).2.trans w2,w3.mv hX hXX⟩
end
section
variable {t:HT} {pre post:List Value} {S S' X X':Ids} {A A':AH} {d:HD} {c:Cer}
theorem HD.Win {d:HD}:d.W d.hid∧d.W d.sid∧d.W d.gid∧d.W d.bid∧d.W d.nid∧∀i q,d.w=some (i,q)→d.W i:=by
 refine⟨by simp[HD.W,HD.L],by simp[HD.W,HD.L],by simp[HD.W,HD.L],by simp[HD.W,HD.L],by simp[HD.W,HD.L],fun i q e=>by simp[HD.W,HD.L,e]⟩
theorem Hl.mv (h:Hl t pre post S A X d c) (hA:∀id,(d.W id∨X id)→S' id∧A'.m id=A.m id):Hl t pre post S' A' X d c:=by
 obtain⟨l1,l2,l3,l4,l5,l6⟩:=HD.Win (d:=d)
 have L:∀id,d.W id→S' id∧A'.m id=A.m id:=fun id hid=>hA id (.inl hid)
 have hX:∀id,X id→A'.m id=A.m id:=fun id hid=>(hA id (.inr hid)).2
 exact⟨fun id hid=>(hA id (.inr hid)).1,⟨(L _ l1).1,(L _ l1).2.trans h.hall.2⟩,h.seats.mv (L _ l2) hX (fun _ p=>p),h.got.mv (L _ l3) hX (fun _ p=>p),h.has.mv (L _ l4),h.named.mv (L _ l5),h.wire.mv (fun i q e=>L _ (l6 i q e)) hX (fun _ p=>p),h.dist,h.out⟩
theorem Hl.w (h:Hl t pre post S A X d c):∀id,d.W id→S id:=fun id hid=>by
 have hw:=h.wire
 have hid:id∈d.L:=hid
 simp only[HD.L,List.mem_append,List.mem_cons,List.not_mem_nil,or_false] at hid
 rcases hid with(e | e | e | e | e) | e
 ·rw[e];exact h.hall.1
 ·rw[e];exact h.seats.1
 ·rw[e];exact h.got.1
 ·rw[e];exact h.has.1
 ·rw[e];exact h.named.1
 ·split at e
  ·rename_i i q e2
   rw[e2] at hw
   rw[List.mem_singleton.1 e]
   exact hw.1
  ·simp at e
theorem Hl.on [o:On S A S' A'] (h:Hl t pre post S A X d c):Hl t pre post S' A' X d c:=h.mv fun id hid=>o.st id (hid.elim (h.w id) (h.sx id))
end
end Go.Proofs.Ytlapbbffoapleaa.Am
namespace Go.Proofs.Ytlapbbffoapleaa.Am
open Go Go.RowKit Go.Proofs Go.Proofs.Ytlapbbffoapleaa.Pl
section
variable {P:Program} {S:Ids} {H0:AH} {Q:PostC} {k k1:List It} {e e1:Env} {T T1:List Var} {n n1:Nat} {l1 r1:List Nat} {d1:Tmp}
theorem KW.callWV {f:Operand} {xs:Array Operand} {ts:Array TypeId} {g:FuncId} {first cap:Array Value} {o:Oper} {W:Ids} {post:Nat→Value→AH→Prop} (hW:∀id,W id→S id) (h:Go1 P k e T n (.op o false) k1 e1 T1 n1 l1 r1) (hlr:l1=r1) (ho:o.op=.call {callee:=.value f,args:=xs,argTypes:=ts}) (hd:o.dst=some d1) (hf:ev e1 f=.func (.func g) first cap)
  (hs:∀H,Good S H0 T1 n1 H→Stp S H0 (Low H.n) H→SpecW P (Low H.n) H W g (cargs e1 first cap xs) post)
  (hk:∀v H1 (S':Ids),n1≤H1.n→StW W S H0 S' H1→(∀id,New n1 H1.n id→S' id)→post n1 v H1→KW P S' H1 Q H1.n T1 k1 (put1 e1 d1 (untag v))):KW P S H0 Q n T k e:=by
 refine KW.go h hlr (fun H gd=>?_)
 replace gd:Good S H0 T1 n1 H:=gd
 obtain⟨m,v,H1,h1,hx1,hx2,hfin,hp⟩:=hs H gd gd.stp H gd.fin (fun id hid=>⟨hid,rfl⟩)
 have hn:H.n=n1:=gd.n_
 have e:untags (first++aargs e1 xs++cap)=(cargs e1 first cap xs).toArray:=by
  apply Array.ext'
  simp[aargs,untags,cargs]
 refine⟨m,untag v,H1,?_,?_⟩
 ·rw[ho]
  simp only[evOp,evCall,hf]
  exact⟨v,rfl,by rw[e];exact h1,fun h=>by cases h⟩
 ·rw[hn] at hp
  rw[hd,put1_eq]
  refine hk v H1 (fun id=>S id∨New n1 H1.n id) (by rw[← hn];exact hx1) (fun id hid=>⟨.inl hid,fun hw=>?_⟩) (fun id hid=>.inr hid) hp H1 ?_
  ·obtain⟨h2,h3⟩:=gd.froz id hid
   rw[hx2 id (by omega) hw,h3]
  ·refine⟨rfl,hfin,fun id hid=>⟨?_,rfl⟩,fun j w hj=>?_,gd.dist⟩
   ·rcases hid with hid | hid
    ·have:=(gd.froz id hid).1;omega
    ·exact hid.2
   ·obtain⟨h2,h3,h4⟩:=gd.vars j w hj
    refine⟨by rw[hx2 _ (by omega) (fun hw=>h4 (hW _ hw))];exact h2,by omega,fun hh=>?_⟩
    rcases hh with hh | hh
    ·exact h4 hh
    ·have:=hh.1;omega
end
section
variable {S:Ids} {H0:AH}
theorem first1 (a:Int):Spec Try.prog S H0 240 [.int .i64 a] (fun v=>v=.bool (!decide (a=0))):=by
 refine Spec.of1 Try.func240 rfl (by kernel_rfl) rfl (fun H _=>?_)
 exact KW.ret U U U U (rfl)
theorem indexFunc0 {a c} {xs:List Int} (hl:xs.length≤4611686018427387904) (hs:KI.Sl S H0 (.slice a xs.length c) xs):
  Spec Try.prog S H0 196 [.slice a xs.length c,.func (.func 240) #[] #[]] (fun v=>v=.int .i64 (if fz xs<xs.length then(fz xs:Int) else -1)):=by
 refine Spec.of1 Try.func196 rfl (by kernel_rfl) rfl (fun H _=>?_)
 refine KW.lp U U (fun i:Nat=>[(0,.slice a xs.length c),(1,.func (.func 240) #[] #[]),(7,.int .i64 xs.length),(8,.int .i64 i)]) (fun i=>i≤xs.length∧∀j,j<i→xs.getD j 0=0) (fun i=>xs.length-i) (0) (⟨by omega,fun j h=>absurd h (by omega)⟩) ⟨rfl,rfl,rfl,rfl,trivial⟩ (fun i hi bE n=>?_)
 obtain⟨hi,hj⟩:=hi
 refine KW.cnd U U (fun h=>?_) (fun h=>?_)
 ·refine KW.getI hs.up U U U U U U U U U U U U U U U U (by omega) (h) (fun x hx=>?_)
  have hx:xs[i]?=some x:=hx
  have hxD:xs.getD i 0=x:=by rw[List.getD_eq_getElem?_getD,hx];rfl
  refine KW.callE U U U U U (first1 x) (fun _ _=>?_)
  refine KW.cndB U U (fun h2=>?_) (fun h2=>?_)
  ·have h2:x≠0:=by simpa using h2
   have e:fz xs=i:=fz_eq (by rw[hxD];exact h2) hj
   exact KW.ret U U U U (by rw[e,if_pos (by omega)];rfl)
  ·have h2:x=0:=by simpa using h2
   refine KW.nxt U U (fun H' g=>⟨i+1,⟨by omega,fun j hj'=>by rcases Nat.lt_or_ge j i with h3 | h3;exact hj j h3;rw[show j=i by omega,hxD];exact h2⟩,by first | omega | (simp only;omega),⟨rfl,rfl,rfl,congrArg (Value.int .i64) (inc64 (by omega)),trivial⟩,g⟩)
 ·have e:fz xs=xs.length:=fz_of_zero fun j=>by
   rcases Nat.lt_or_ge j i with h3 | h3
   ·exact hj j h3
   ·rw[List.getD_eq_getElem?_getD,List.getElem?_eq_none (by omega)];rfl
  exact KW.ret U U U U (by rw[e,if_neg (by omega)];rfl)
theorem first {a c} {xs:List Int} (hl:xs.length≤4611686018427387904) (hs:KI.Sl S H0 (.slice a xs.length c) xs):
  Spec Try.prog S H0 204 [.slice a xs.length c] (fun v=>v=.int .i64 (if fz xs<xs.length then(fz xs:Int) else -1)):=by
 refine Spec.of1 Try.func204 rfl (by kernel_rfl) rfl (fun H _=>?_)
 refine KW.callE U U U U U (indexFunc0 hl hs.up) (fun _ _=>?_)
 exact KW.ret U U U U (rfl)
end
def Kn.inX {α:Type} (d:Kn α) (X:Ids):Kn α where
 es:=d.es
 R:=fun S A x cs=>(∀id,X id→S id)∧d.R X A x cs
 len:=fun h=>d.len h.2
 same:=fun hs h=>⟨h.1,d.same (fun id hid=>hs id (h.1 id hid)) h.2⟩
 more:=fun hS h=>⟨fun id hid=>hS id (h.1 id hid),h.2⟩
theorem Kn.Sl.inX {α:Type} {d:Kn α} {X S:Ids} {A:AH} {s:Value} {xs:List α} (h:d.Sl X A s xs) (hX:∀id,X id→S id):(d.inX X).Sl S A s xs:=by
 rcases h with h | ⟨id,k,c,b,e1,e2,e3,e4,e5,e6⟩
 ·exact .inl h
 ·exact .inr ⟨id,k,c,b,e1,e2,hX id e3,e4,e5,fun i x hx=>⟨hX,e6 i x hx⟩⟩
abbrev K_Prt:Kn PrT:=Kn.pair KI.sl KI.sl
theorem form_Prt {S:Ids} {A:AH} {x:PrT} {cs:List Value} (h:K_Prt.R S A x cs):∃a1 c1 a2 c2,cs=[.slice a1 x.1.length c1,.slice a2 x.2.length c2]∧KI.Sl S A (.slice a1 x.1.length c1) x.1∧KI.Sl S A (.slice a2 x.2.length c2) x.2:=by
 obtain⟨e0,d0,rfl,h0,h1⟩:=h
 obtain⟨a1,c1,rfl⟩:=slform h0
 obtain⟨a2,c2,rfl⟩:=slform h1
 exact⟨a1,c1,a2,c2,rfl,sl1 h0,sl1 h1⟩
structure LsI (p:Int) (B:List PrT) (x:PrT) (W1 W2:Ids) (H:AH) (v1 v2:Value) (i:Nat) (S:Ids) (A:AH):Prop where
 le:i≤B.length
 low:∀id,id<H.n→S id∧(¬(W1 id∨W2 id)→A.m id=H.m id)
 r1:KI.Ml W1 A v1 (less p (B.take i) x).1
 r2:KI.Ml W2 A v2 (less p (B.take i) x).2
structure LsS where
 i:Nat
 S:Ids
 A:AH
section
variable {S:Ids} {H0:AH}
theorem lessC {p:Int} {k q:Nat} (hp:PrimeP p) (hk:k≤100) (hq:q≤100) {B:List PrT} {x:PrT} (hB:∀b∈B,PrOk p k q b∧fz b.1<k) (hx:PrOk p k q x) (hBl:B.length≤100)
  {W1 W2 X:Ids} {bid mid:Nat} {a1 c1 a2 c2 ab cb} {mv1 mv2:Value} (hM:Has3 S H0 mid 0 [.int .i64 p,mv1,mv2]) (hMW:¬(W1 mid∨W2 mid)) (hb:Has3 S H0 bid 0 [.slice ab B.length cb]) (hbW:¬(W1 bid∨W2 bid)) (hBs:K_Prt.Sl X H0 (.slice ab B.length cb) B) (hX:∀id,X id→S id∧¬(W1 id∨W2 id))
  (hW:∀id,W1 id∨W2 id→S id) (hd:∀id,W1 id→W2 id→False) (h1:KI.Ml W1 H0 (.slice a1 x.1.length c1) x.1) (h2:KI.Ml W2 H0 (.slice a2 x.2.length c2) x.2):
  SpecW Try.prog S H0 (fun id=>W1 id∨W2 id) 203 [.agg #[.slice a1 x.1.length c1,.slice a2 x.2.length c2],.pointer (some ⟨bid,0,none⟩),.pointer (some ⟨mid,0,none⟩)]
   (fun _ v H1=>v=.agg #[.slice a1 x.1.length c1,.slice a2 x.2.length c2]∧KI.Ml W1 H1 (.slice a1 x.1.length c1) (less p B x).1∧KI.Ml W2 H1 (.slice a2 x.2.length c2) (less p B x).2):=by
 have hp31:2≤p∧p≤31:=⟨hp.1,hp.2.1⟩
 have hp0:0<p:=by omega
 refine SpecW.of0 Try.func203 rfl (by kernel_rfl) rfl (fun H hfin hfz=>?_)
 haveI o:On S H0 (Low H.n) H:=⟨fun id hs=>⟨(hfz id hs).1,(hfz id hs).2⟩⟩
 have hM0:Has3 (Low H.n) H mid 0 _:=hM.up
 have hb0:Has3 (Low H.n) H bid 0 _:=hb.up
 have hBs0:K_Prt.Sl X H (.slice ab B.length cb) B:=hBs.same fun id hid=>(hfz id (hX id hid).1).2
 have hXl:∀id,X id→id<H.n:=fun id hid=>(hfz id (hX id hid).1).1
 have h10:KI.Ml W1 H (.slice a1 x.1.length c1) x.1:=Kn.Ml.same (fun id hid=>(hfz id (hW id (.inl hid))).2) h1
 have h20:KI.Ml W2 H (.slice a2 x.2.length c2) x.2:=Kn.Ml.same (fun id hid=>(hfz id (hW id (.inr hid))).2) h2
 have hWl:∀id,W1 id∨W2 id→id<H.n:=fun id hid=>(hfz id (hW id hid)).1
 have hXW:∀id,X id→¬(W1 id∨W2 id):=fun id hid=>(hX id hid).2
 refine KW.ldF 0 hb0 U U U U U U U U U ?_
 refine KW.lpM U U (fun s:LsS=>[(2,.pointer (some ⟨mid,0,none⟩)),(3,.pointer (some ⟨H.n,0,some 0⟩)),(4,.pointer (some ⟨H.n+1,0,some 1⟩)),(9,.slice ab B.length cb),(10,.int .i64 B.length),(11,.int .i64 s.i)]) (fun s=>s.S) (fun s=>s.A) (fun s=>[(H.n,⟨255,true,[.slice a1 x.1.length c1,.slice a2 x.2.length c2]⟩),(H.n+1,⟨255,true,[.slice none 0 0,.slice none 0 0]⟩)]) (fun s=>LsI p B x W1 W2 H (.slice a1 x.1.length c1) (.slice a2 x.2.length c2) s.i s.S s.A) (fun s=>B.length-s.i) (⟨0,Low H.n,H⟩) (⟨Nat.zero_le _,fun id h=>⟨h,fun _=>rfl⟩,h10,h20⟩) ⟨rfl,rfl,rfl,rfl,rfl,rfl,trivial⟩ U U (rfl) (fun s hi bE n=>?_)
 obtain⟨i,S1,A1⟩:=s
 obtain⟨ile,low,r1,r2⟩:=hi
 simp only at ile low r1 r2
 have hM1:Has3 S1 A1 mid 0 [.int .i64 p,mv1,mv2]:=by
  obtain⟨q0,b,q1,q2⟩:=hM0
  exact⟨(low mid q0).1,b,((low mid q0).2 hMW).trans q1,q2⟩
 have hBs1:K_Prt.Sl X A1 (.slice ab B.length cb) B:=hBs0.same fun id hid=>(low id (hXl id hid)).2 (hXW id hid)
 have hXS:∀id,X id→S1 id:=fun id hid=>(low id (hXl id hid)).1
 have hy:PrOk p k q (less p (B.take i) x):=less_ok hp0 _ _ (fun b hb=>(hB b (List.mem_of_mem_take hb)).1) hx
 obtain⟨y,ey⟩:∃y,less p (B.take i) x=y:=⟨_,rfl⟩
 rw[ey] at r1 r2 hy
 have l1:x.1.length=y.1.length:=hx.1.1.trans hy.1.1.symm
 have l2:x.2.length=y.2.length:=hx.2.1.trans hy.2.1.symm
 rw[l1] at r1 ⊢
 rw[l2] at r2 ⊢
 refine KW.cnd U U (fun k1=>?_) (fun k1=>?_)
 ·have k1:(i:Int)<(B.length:Int):=k1
  refine KW.getS (td:=.struct #[]) ((hBs1.inX hXS)) U U U U U U U U U U U U U U U U U (by omega) (k1) (fun b cy hb1 hRb=>?_)
  have hb1:B[i]?=some b:=hb1
  obtain⟨b1,e1,b2,e2,rfl,s1,s2⟩:=form_Prt hRb.2
  obtain⟨bok,bfz⟩:=hB b (List.mem_of_getElem? hb1)
  have et:less p (B.take (i+1)) x=stp p y b:=by
   rw[List.take_add_one,hb1]
   show less p (B.take i++[b]) x=_
   rw[less_snoc,ey]
  have hbl:=bok.1.1
  have hbl2:=bok.2.1
  have hyl:=hy.1.1
  have hyl2:=hy.2.1
  refine KW.callE U U U U U (first (by omega) (s1.more hXS)) (fun _ _=>?_)
  rw[if_pos (by omega)]
  have hyk:=el_ok hp0 hy.1 (fz b.1)
  refine KW.getI ((r1.sl.more (fun id hid=>(low id (hWl id (.inl hid))).1))) U U U U U U U U U U U U U U U U (by omega) (by omega) (fun z hz=>?_)
  have hz:y.1[fz b.1]?=some z:=hz
  have hzD:y.1.getD (fz b.1) 0=z:=by rw[List.getD_eq_getElem?_getD,hz];rfl
  rw[hzD] at hyk
  refine KW.cndB U U (fun k2=>?_) (fun k2=>?_)
  ·have k2:z≠0:=by simpa using k2
   have es:stp p y b=(tk p z y.1 b.1,tk p z y.2 b.2):=by
    unfold stp
    rw[hzD,if_pos k2]
   refine KW.getI ((r1.sl.more (fun id hid=>(low id (hWl id (.inl hid))).1))) U U U U U U U U U U U U U U U U (by omega) (by omega) (fun z2 hz2=>?_)
   have hz2:y.1[fz b.1]?=some z2:=hz2
   obtain rfl:z2=z:=by rw[hz] at hz2;exact(Option.some.inj hz2).symm
   refine KW.ldF 0 hM1 U U U U U U U U U ?_
   refine KW.callW (W:=W1) (fun id hid=>(low id (hWl id (.inl hid))).1) U U U U U (takeOff (W:=W1) (X:=X) hp31 hyk (hyl.trans hbl.symm) bok.1.2 (fun id hid=>⟨hXS id hid,fun hh=>hXW id hid (.inl hh)⟩) s1 (by omega) hy.1.2 (fun id hid=>(low id (hWl id (.inl hid))).1) r1) (fun v A2 S2 m2 t2 w2 hv=>?_)
   have hM2:Has3 S2 A2 mid 0 [.int .i64 p,mv1,mv2]:=by
    obtain⟨q0,b,q1,q2⟩:=hM1
    exact⟨(t2 mid q0).1,b,((t2 mid q0).2 (fun hh=>hMW (.inl hh))).trans q1,q2⟩
   have r22:KI.Ml W2 A2 (.slice a2 y.2.length c2) y.2:=Kn.Ml.same (fun id hid=>(t2 id (low id (hWl id (.inr hid))).1).2 (fun hh=>hd id hh hid)) r2
   have s22:KI.Sl X A2 (.slice b2 b.2.length e2) b.2:=s2.same fun id hid=>(t2 id (hXS id hid)).2 (fun hh=>hXW id hid (.inl hh))
   refine KW.ldF 0 hM2 U U U U U U U U U ?_
   refine KW.callW (W:=W2) (fun id hid=>(t2 id (low id (hWl id (.inr hid))).1).1) U U U U U (takeOff (W:=W2) (X:=X) hp31 hyk (hyl2.trans hbl2.symm) bok.2.2 (fun id hid=>⟨(t2 id (hXS id hid)).1,fun hh=>hXW id hid (.inr hh)⟩) s22 (by omega) hy.2.2 (fun id hid=>(t2 id (low id (hWl id (.inr hid))).1).1) r22) (fun v3 A3 S3 m3 t3 w3 hv3=>?_)
   have hv1:KI.Ml W1 A3 (.slice a1 y.1.length c1) (tk p z2 y.1 b.1):=Kn.Ml.same (fun id hid=>(t3 id (t2 id (low id (hWl id (.inl hid))).1).1).2 (fun hh=>hd id hid hh)) hv
   refine KW.nxt U U (fun H' g=>⟨⟨i+1,S3,A3⟩,⟨by simp only;omega,fun id hid=>⟨(t3 id (t2 id (low id hid).1).1).1,fun hh=>((t3 id (t2 id (low id hid).1).1).2 (fun h=>hh (.inr h))).trans (((t2 id (low id hid).1).2 (fun h=>hh (.inl h))).trans ((low id hid).2 hh))⟩,by simp only[et,es];exact hv1,by simp only[et,es];exact hv3⟩,by first | omega | (simp only;omega),⟨rfl,rfl,rfl,rfl,rfl,congrArg (Value.int .i64) (inc64 (by omega)),trivial⟩,g.take 2⟩)
  ·have k2:z=0:=by simpa using k2
   have es:stp p y b=y:=by
    unfold stp
    rw[hzD,if_neg (by rw[k2];simp)]
   refine KW.nxt U U (fun H' g=>⟨⟨i+1,S1,A1⟩,⟨by simp only;omega,low,by simp only[et,es];exact r1,by simp only[et,es];exact r2⟩,by first | omega | (simp only;omega),⟨rfl,rfl,rfl,rfl,rfl,congrArg (Value.int .i64) (inc64 (by omega)),trivial⟩,g.take 2⟩)
 ·have k1:¬(i:Int)<(B.length:Int):=k1
  obtain rfl:i=B.length:=by omega
  rw[List.take_length] at ey
  rw[ey]
  refine KW.retW U U U U (fun H1 g=>by have:=(g.vars 1 _ rfl).2.1;have:=g.n_;omega) (fun id hid hw=>⟨(low id hid).1,(low id hid).2 hw⟩) (fun H1 g=>⟨rfl,?_,?_⟩)
  ·exact Kn.Ml.same (fun id hid=>(g.froz id (low id (hWl id (.inl hid))).1).2) r1
  ·exact Kn.Ml.same (fun id hid=>(g.froz id (low id (hWl id (.inr hid))).1).2) r2
end
end Go.Proofs.Ytlapbbffoapleaa.Am
namespace Go.Proofs.Ytlapbbffoapleaa.Am
open Go Go.RowKit
def Ap (S:Ids) (T:List Var) (e:Env) (j:Nat) (u:Tmp):Prop:=(∃i b id k s,e u=.pointer (some ⟨id,k,s⟩)∧T[i]?=some (id,b)∧i≠j)∨∃id k s,e u=.pointer (some ⟨id,k,s⟩)∧S id
def AllL (S:Ids) (T:List Var) (e:Env) (j:Nat):List Tmp→Prop
 | []=>True
 | u :: L=>Ap S T e j u∧AllL S T e j L
section
variable {P:Program} {S:Ids} {H0:AH} {Q:PostC} {k k1 k2:List It} {e e1 e2:Env} {T T1 T2:List Var} {n n1 n2:Nat} {l1 r1 l2 r2:List Nat} {d1 d2:Tmp}
theorem AllL.out {L:List Tmp} {j:Nat} {H H1:AH} {v0:Var} (g:Good S H0 T n H) (hj:T[j]?=some v0∨j=T.length) (hL:AllL S T e j L) (hH:∀id,id<n→(∀v,T[j]?=some v→id≠v.1)→H1.m id=H.m id):∀t∈L,∀id k s,e t=.pointer (some ⟨id,k,s⟩)→H1.m id=H.m id:=by
 induction L with
 | nil=>intro t ht;cases ht
 | cons u L ih=>
  intro t ht id k s he
  rcases List.mem_cons.1 ht with rfl | ht
  ·rcases hL.1 with⟨i,b,id',k',s',h1,h2,h3⟩ | ⟨id',k',s',h1,h2⟩
   ·rw[h1] at he
    cases he
    exact hH id (g.vars i _ h2).2.1 (fun v hv heq=>h3 (g.dist i j _ v h2 hv heq))
   ·rw[h1] at he
    cases he
    exact hH id (g.froz id h2).1 (fun v hv heq=>(g.vars j v hv).2.2 (heq ▸ h2))
  ·exact ih hL.2 t ht id k s he
theorem KEvt.heapL {o:Oper} {dr:Bool} {c:Cf} {L:List Tmp} (v:Value) (T':List Var) (n':Nat) (hc:opClass o.op=1∨opClass o.op=2) (hp:∀H,Good S H0 c.T c.n H→∃tag H1,hop P tag o.op c.e H=some (v,H1)∧Good S H0 T' n' H1∧∀t∈L,∀id k s,c.e t=.pointer (some ⟨id,k,s⟩)→H1.m id=H.m id) (hk:KW P S H0 Q n' T' c.k (put c.e o.dst v)):KEvt P S H0 Q (.opL o dr L) c:=by
 intro H g
 obtain⟨tag,H1,h1,g1,h2⟩:=hp H g
 refine⟨0,v,H1,?_,h2,hk H1 g1⟩
 unfold evOp
 split
 ·rename_i hop;rw[hop] at hc;simp[opClass] at hc
 ·split
  ·rename_i h0;omega
  ·exact⟨tag,h1⟩
theorem KW.appTL {o:Oper} {dr:Bool} {L:List Tmp} {t el:TypeId} {x y:Operand} {inf:TypeInfo} {m len c id:Nat} {xs ys:List Value} (j:Nat) (h:Go1 P k e T n (.opL o dr L) k1 e1 T1 n1 l1 r1) (hlr:l1=r1) (ho:o.op=.call {callee:=.builtin .append,args:=#[x,y],argTypes:=#[t,t]}) (hd:o.dst=some d1) (hx:ev e1 x=.slice (some ⟨id,0,some 1⟩) len c) (hT:T1[j]?=some (id,⟨el,true,xs⟩))
  (hu:P.underlying t=some (.slice el)) (hi:P.info? el=some inf) (hs:inf.size=1) (hzo:zeroOkL P el=true) (hy:∀H,Good S H0 T1 n1 H→acells H (ev e1 y) 1=some (m,ys)) (hlen:xs.length=len) (hone:∀v∈ys,v.oneCell'=true) (hm:m≠0) (hb:(len+m)*inf.bytes≤140737488355328) (hml:len+m≤9223372036854775807) (hL:AllL S T1 e1 j L)
  (hk:KW P S H0 Q (n1+1) (T1.set j (n1,⟨el,true,xs++ys⟩)) k1 (put1 e1 d1 (.slice (some ⟨n1,0,some 1⟩) (len+m) (len+m)))):KW P S H0 Q n T k e:=by
 refine KW.go h hlr (KEvt.heapL (c:=⟨_,_,_,_,_,_⟩) _ _ _ (by rw[ho];exact .inr rfl) (fun H g=>⟨none,_,?_,g.move hT _,AllL.out g (.inl hT) hL (fun i hi hne=>?_)⟩) (by rw[hd,put1_eq];exact hk))
 ·rw[ho]
  have h1:=hy H g
  have h2:=(g.blk hT).1
  simp only[hop,aapp,aappend,hu,hi,hs,hx,h1,h2]
  rw[if_pos trivial,if_pos ⟨zeroOkL_ok hzo,by omega,List.all_eq_true.2 hone⟩,if_neg hm,if_pos ⟨trivial,trivial,trivial,by omega,hml,hb⟩]
  simp only[List.drop_zero,Nat.mul_one,AH.kill,g.n_]
  rw[List.take_of_length_le (by omega)]
 ·have hn:=g.n_
  have hi:i<n1:=hi
  have h3:¬i=H.n:=by omega
  have h4:=hne _ hT
  simp[AH.push,AH.kill,h3,h4]
end
end Go.Proofs.Ytlapbbffoapleaa.Am
namespace Go.Proofs.Ytlapbbffoapleaa.Am
open Go Go.RowKit Go.Proofs Go.Proofs.Ytlapbbffoapleaa.Pl
theorem built_Prt (a1 a2:Option Addr) (n1 c1 n2 c2:Nat):Try.prog.built 255 [(0,.slice a1 n1 c1),(1,.slice a2 n2 c2)]=some #[.slice a1 n1 c1,.slice a2 n2 c2]:=by kernel_rfl
structure CbS where
 i:Nat
 S:Ids
 A:AH
 V:Ids
 o:Nat
 cs:List Value
structure CbI (p:Int) (L:List (List Int)) (H:AH) (s:CbS):Prop where
 le:s.i≤L.length
 old:∀id,id<H.n→s.S id∧s.A.m id=H.m id
 v:∀id,s.V id→s.S id
 len:s.cs.length=(basN p L s.i).length*2
 cl:Cl K_Prt s.V s.A (basN p L s.i) s.cs
def MkCb (r:Option (List Int)) (n:Nat) (v:Value) (H1:AH):Prop:=
 match r with
 | none=>v=.tuple #[.slice none 0 0,.bool false]
 | some cs=>∃a c,v=.tuple #[.slice a cs.length c,.bool true]∧KI.Sl (New n H1.n) H1 (.slice a cs.length c) cs
theorem wrM {p:Int} (hp:2≤p∧p≤31):IntKind.i64.wrap (p-1)=p-1:=wr (by omega) (by omega)
section
variable {S:Ids} {H0:AH}
theorem combination {p:Int} {k:Nat} (hp:PrimeP p) (hk0:1≤k) (hk:k≤100) {L:List (List Int)} {t:List Int} (hLl:L.length≤100) (hL:Rect p k L) (ht:t.length=k∧∀a∈t,0≤a∧a<p) {a1 c1 a2 c2} (hs0:KI.sl.Sl S H0 (.slice a1 L.length c1) L) (ht0:KI.Sl S H0 (.slice a2 t.length c2) t):
  SpecM Try.prog S H0 155 [.agg #[.int .i64 p,.int .i64 k,.slice a1 L.length c1],.slice a2 t.length c2] (MkCb (comb p L t)):=by
 have hf:=fer hp
 have hp31:2≤p∧p≤31:=⟨hp.1,hp.2.1⟩
 have hp0:0<p:=by omega
 refine SpecM.of1 Try.func155 rfl (by kernel_rfl) rfl (fun H _=>?_)
 have hs:=hs0.up (S':=Low H.n) (H':=H)
 have hts:=ht0.up (S':=Low H.n) (H':=H)
 have bok:=fun m hm=>basN_ok hf hL m hm
 refine KW.litS0 U U U U U U U U U U ?_
 refine KW.lpM U U (fun s:CbS=>[(1,.slice a2 t.length c2),(2,.pointer (some ⟨H.n,0,some 0⟩)),(4,.slice none 0 0),(5,.bool false),(6,.pointer (some ⟨H.n+2,0,some 2⟩)),(7,.func (.func 203) #[] #[.pointer (some ⟨H.n+2,0,some 2⟩),.pointer (some ⟨H.n,0,some 0⟩)]),(17,.slice a1 L.length c1),(18,.int .i64 L.length),(19,.int .i64 s.i)]) (fun s=>s.S) (fun s=>s.A) (fun s=>[(H.n,⟨26,true,[.int .i64 p,.int .i64 k,.slice a1 L.length c1]⟩),(s.o,⟨255,true,s.cs⟩),(H.n+2,⟨253,true,[.slice (some ⟨s.o,0,some 2⟩) (basN p L s.i).length (basN p L s.i).length]⟩)]) (fun s=>CbI p L H s) (fun s=>L.length-s.i) (⟨0,Low H.n,H,fun _=>False,H.n+1,[]⟩) (⟨Nat.zero_le _,fun id h=>⟨h,rfl⟩,fun _ h=>h.elim,rfl,Cl.nil _ _ _ _⟩) ⟨rfl,rfl,rfl,rfl,rfl,rfl,rfl,rfl,rfl,trivial⟩ U U (rfl) (fun s hi bE n=>?_)
 obtain⟨i,S1,A1,V,o,cs⟩:=s
 obtain⟨ile,old,hV,hcl,cl⟩:=hi
 simp only at ile old hV hcl cl
 haveI o1:On (Low H.n) H S1 A1:=⟨old⟩
 refine KW.ids (fun hlow hvar=>?_)
 refine KW.fact (p:=H.n+2<n∧o<n∧¬S1 o∧¬S1 (H.n+2)) (fun H1 g=>⟨(g.vars 2 _ rfl).2.1,(g.vars 1 _ rfl).2.1,(g.vars 1 _ rfl).2.2,(g.vars 2 _ rfl).2.2⟩) (fun hf1=>?_)
 obtain⟨f1,f2,f3,f4⟩:=hf1
 refine KW.cnd U U (fun k1=>?gin) (fun k1=>?gout)
 case gin=>
  have k1:(i:Int)<(L.length:Int):=k1
  have bm:=bok i ile
  refine KW.getL hs.up U U U U U U U U U U U U U U U U (by omega) (k1) (fun y ay cy hy hsy=>?_)
  have hy:L[i]?=some y:=hy
  have hym:=hL y (List.mem_of_getElem? hy)
  refine KW.callN1 U U U U U (cloneB (by omega) hsy) (fun v HC SC mC _ _ hv=>?_)
  rcases hv with⟨hy0,rfl⟩ | ⟨o3,rfl,hno3,hmo3⟩
  ·exfalso;rw[hy0] at hym;have:=hym.1;simp at this;omega
  have tC:=(inferInstance:On S1 A1 SC HC).st
  refine KW.mk1 U U U U U U U U U U U U (L.length) U U (by omega) (by show 8*_≤_;omega) ?_
  refine KW.ids (fun hlowC hvarC=>?_)
  have oC:S1 o3→False:=fun h=>by have:=hlow _ h;have:=hno3.1;omega
  have sC3:SC o3:=(inferInstance:On (New _ HC.n) HC SC HC).st o3 hno3 |>.1
  refine KW.freeze 3 rfl (fun A4 S4 hn4 hS4 st4 hm4 hlt4 hno4 hlow4=>?_)
  refine KW.build U U U U U (built_Prt _ _ _ _ _ _) ?_
  refine KW.idx0 U U U U U U U U U (by omega) (by omega) ?_
  refine KW.thaw HC.n ⟨2,true,List.replicate L.length (.int .i64 0)⟩ ((hS4 _).2 (.inr rfl)) hm4 ?_
  refine KW.st1 4 U U U U U U U U U U U U (by simp;omega) ?_
  refine KW.freeze 4 rfl (fun A5 S5 hn5 hS5 st5 hm5 hlt5 hno5 hlow5=>?_)
  have S45:∀id,S4 id→S5 id∧(id≠HC.n→A5.m id=A4.m id):=fun id h=>by
   by_cases e:id=HC.n
   ·exact⟨(hS5 id).2 (.inr e),fun h=>absurd e h⟩
   ·exact⟨(st5.st id ⟨h,e⟩).1,fun _=>(st5.st id ⟨h,e⟩).2⟩
  have SC5:∀id,SC id→S5 id∧A5.m id=HC.m id:=fun id h=>by
   have h1:=st4.st id h
   have h2:=S45 id h1.1
   have:id≠HC.n:=fun e=>hno4 (e ▸ h)
   exact⟨h2.1,(h2.2 this).trans h1.2⟩
  have S15:∀id,S1 id→S5 id∧A5.m id=A1.m id:=fun id h=>⟨(SC5 id (tC id h).1).1,(SC5 id (tC id h).1).2.trans (tC id h).2⟩
  have ok5:Has3 S5 A5 0 0 []∨True:=.inr trivial
  have hr1:KI.Ml (fun id=>id=o3) A5 (.slice (some ⟨o3,0,some 1⟩) y.length y.length) y:=row_ml ((SC5 o3 sC3).2.trans hmo3)
  have hun:(List.replicate L.length (Value.int .i64 0)).set (0+(i:Int).toNat*1) (.int .i64 1)=(unitR L.length i).map (Value.int .i64):=by
   rw[show 0+(i:Int).toNat*1=i by omega,unitR,List.map_set,List.map_replicate]
  have hm5':A5.m HC.n=some ⟨2,true,(unitR L.length i).map (Value.int .i64)⟩:=hm5.trans (congrArg (fun z=>some (⟨2,true,z⟩:Blk)) hun)
  have hul:(unitR L.length i).length=L.length:=by simp[unitR]
  have hr2:KI.Ml (fun id=>id=HC.n) A5 (.slice (some ⟨HC.n,0,some 1⟩) (unitR L.length i).length L.length) (unitR L.length i):=by
   have:=row_ml (A:=A5) (o:=HC.n) (ty:=2) (xs:=unitR L.length i) hm5'
   rw[hul] at this ⊢
   exact this
  have hx:=row_ok hp31.1 hL (by omega:i<L.length)
  rw[show L.getD i []=y by rw[List.getD_eq_getElem?_getD,hy];rfl] at hx
  have no3:n≤o3:=hno3.1
  have no4:n≤HC.n:=mC
  refine KW.callWV (W:=fun id=>id=o3∨id=HC.n) (post:=fun _ v H1=>v=.agg #[.slice (some ⟨o3,0,some 1⟩) y.length y.length,.slice (some ⟨HC.n,0,some 1⟩) L.length L.length]∧KI.Ml (fun id=>id=o3) H1 (.slice (some ⟨o3,0,some 1⟩) y.length y.length) (less p (basN p L i) (y,unitR L.length i)).1∧KI.Ml (fun id=>id=HC.n) H1 (.slice (some ⟨HC.n,0,some 1⟩) L.length L.length) (less p (basN p L i) (y,unitR L.length i)).2) (fun id h=>by rcases h with h | h;rw[h];exact(SC5 o3 sC3).1;rw[h];exact(hS5 _).2 (.inr rfl)) U U U U U (fun H6 g st6=>?gc) (fun v A6 S6 m6 t6 w6 hv6=>?_)
  case gc=>
   have hM:=g.has (j:=0) U U
   have hb:=g.has (j:=2) U U
   have hlit:=g.blk (j:=1) rfl
   have z6:∀id,S5 id→id<H6.n∧H6.m id=A5.m id:=fun id h=>by have h1:=g.froz id h;have:=g.n_;exact⟨by omega,h1.2⟩
   have clX:K_Prt.Sl (fun id=>id=o∨V id) H6 (.slice (some ⟨o,0,some 2⟩) (basN p L i).length (basN p L i).length) (basN p L i):=
    (cl.mv (X':=fun id=>V id) (A':=H6) (fun id h=>((z6 id (S15 id (hV id h)).1).2).trans (S15 id (hV id h)).2) (fun _ h=>h)).sl (.inl rfl) hlit.1 rfl (fun id h=>.inr h) (Nat.le_refl _)
   have key:=lessC (S:=Low H6.n) (H0:=H6) (a1:=some ⟨o3,0,some 1⟩) (c1:=y.length) (a2:=some ⟨HC.n,0,some 1⟩) (c2:=L.length) (x:=(y,unitR L.length i)) (W1:=fun id=>id=o3) (W2:=fun id=>id=HC.n) (X:=fun id=>id=o∨V id) hp hk hLl (fun b hb=>(bm b hb).1) hx (by have:=basN_len (p:=p) (L:=L) i;omega) hM (by omega) hb (by omega) clX (fun id h=>⟨by
    rcases h with h | h
    ·rw[h];exact hlit.2
    ·exact(z6 id (S15 id (hV id h)).1).1,fun hh=>by
    rcases h with h | h
    ·omega
    ·have:=hlow id (hV id h);omega⟩) (fun id h=>by
     rcases h with h | h
     ·rw[h];exact(z6 o3 (SC5 o3 sC3).1).1
     ·rw[h];exact(z6 _ ((hS5 _).2 (.inr rfl))).1) (fun id h h'=>by have e1:id=o3:=h;have e2:id=HC.n:=h';have:=hno3.2;omega) (Kn.Ml.same (fun id h=>by rw[h];exact(z6 o3 (SC5 o3 sC3).1).2) hr1) (Kn.Ml.same (fun id h=>by rw[h];exact(z6 _ ((hS5 _).2 (.inr rfl))).2) hr2)
   simp only[hul] at key
   exact key
  obtain⟨rfl,w1,w2⟩:=hv6
  obtain⟨z,ez⟩:∃z,less p (basN p L i) (y,unitR L.length i)=z:=⟨_,rfl⟩
  have hz:PrOk p k L.length z:=by rw[← ez];exact less_ok hp0 _ _ (fun b hb=>(bm b hb).1.1) hx
  have eB:basN p L (i+1)=if fz z.1<z.1.length then basN p L i++[nrm p z] else basN p L i:=by
   show insR p (basN p L i) (L.getD i [],unitR L.length i)=_
   rw[show L.getD i []=y by rw[List.getD_eq_getElem?_getD,hy];rfl]
   unfold insR
   rw[ez]
  rw[ez] at w1 w2
  have l1:y.length=z.1.length:=hym.1.trans hz.1.1.symm
  have l2:L.length=z.2.length:=hz.2.1.symm
  have s3:S6 o3:=(t6 o3 (SC5 o3 sC3).1).1
  have s4:S6 HC.n:=(t6 HC.n ((hS5 _).2 (.inr rfl))).1
  have S56:∀id,S5 id→id≠o3→id≠HC.n→A6.m id=A5.m id:=fun id h e1 e2=>(t6 id h).2 (fun hh=>hh.elim e1 e2)
  have S16:∀id,S1 id→S6 id∧A6.m id=A1.m id:=fun id h=>by
   have h1:=hlow id h
   have h2:=S15 id h
   exact⟨(t6 id h2.1).1,(S56 id h2.1 (by omega) (by omega)).trans h2.2⟩
  have old6:∀id,id<H.n→S6 id∧A6.m id=H.m id:=fun id h=>⟨(S16 id (old id h).1).1,(S16 id (old id h).1).2.trans (old id h).2⟩
  have sl1':KI.Sl S6 A6 (.slice (some ⟨o3,0,some 1⟩) y.length y.length) z.1:=w1.sl.more (fun id h=>by rw[h];exact s3)
  have hz1l:=hz.1.1
  have hz2l:=hz.2.1
  by_cases hfz:fz z.1<z.1.length
  ·rw[if_pos hfz] at eB
   have key:=first (S:=S6) (H0:=A6) (xs:=z.1) (a:=some ⟨o3,0,some 1⟩) (c:=y.length) (by omega) (by rw[← l1];exact sl1')
   rw[if_pos hfz,← l1] at key
   refine KW.callE U U U U U (key) (fun _ _=>?_)
   refine KW.yes U U (by omega) ?_
   refine KW.getI sl1' U U U U U U U U U U U U U U U U (by omega) (by omega) (fun z0 hz0=>?_)
   have hz0:z.1[fz z.1]?=some z0:=hz0
   have hz0D:z.1.getD (fz z.1) 0=z0:=by rw[List.getD_eq_getElem?_getD,hz0];rfl
   have hin:=el_ok hp0 hz.1 (fz z.1)
   rw[hz0D] at hin
   refine KW.callE U U U U U (inverse p z0 hp31 hin) (fun _ _=>?_)
   have hpw:=pw_ok hp31.1 (p:=p) (a:=z0) (p-2).toNat
   have k2:=scaled (S:=S6) (H0:=A6) (W:=fun id=>id=o3) (p:=p) (b:=pw p z0 (p-2).toNat) hp31 hpw (a:=some ⟨o3,0,some 1⟩) (c:=y.length) (xs:=z.1) (by omega) hz.1.2 (fun id h=>by rw[h];exact s3) (by rw[← l1];exact w1)
   rw[← l1] at k2
   refine KW.callW (W:=fun id=>id=o3) (fun id h=>by rw[h];exact s3) U U U U U k2 (fun v A7 S7 m7 t7 w7 hv7=>?_)
   have w27:KI.Ml (fun id=>id=HC.n) A7 (.slice (some ⟨HC.n,0,some 1⟩) L.length L.length) z.2:=Kn.Ml.same (fun id h=>by rw[h];exact(t7 _ s4).2 (fun hh=>by have e1:HC.n=o3:=hh;have:=hno3.2;omega)) w2
   have s47:S7 HC.n:=(t7 _ s4).1
   have k3:=scaled (S:=S7) (H0:=A7) (W:=fun id=>id=HC.n) (p:=p) (b:=pw p z0 (p-2).toNat) hp31 hpw (a:=some ⟨HC.n,0,some 1⟩) (c:=L.length) (xs:=z.2) (by omega) hz.2.2 (fun id h=>by rw[h];exact s47) (by rw[← l2];exact w27)
   rw[← l2] at k3
   refine KW.callW (W:=fun id=>id=HC.n) (fun id h=>by rw[h];exact s47) U U U U U k3 (fun v8 A8 S8 m8 t8 w8 hv8=>?_)
   have S18:∀id,S1 id→S8 id∧A8.m id=A1.m id:=fun id h=>by
    have h1:=hlow id h
    have h2:=S16 id h
    have h3:=t7 id h2.1
    have h4:=t8 id h3.1
    exact⟨h4.1,(h4.2 (fun hh=>by have e1:id=HC.n:=hh;omega)).trans ((h3.2 (fun hh=>by have e1:id=o3:=hh;omega)).trans h2.2)⟩
   have hv78:KI.Ml (fun id=>id=o3) A8 (.slice (some ⟨o3,0,some 1⟩) y.length y.length) (nrm p z).1:=by
    have e:(nrm p z).1=sc p (pw p z0 (p-2).toNat) z.1:=by rw[← hz0D];rfl
    rw[e]
    exact Kn.Ml.same (fun id h=>by rw[h];exact(t8 _ (t7 _ s3).1).2 (fun hh=>by have e1:o3=HC.n:=hh;have:=hno3.2;omega)) hv7
   have hv88:KI.Ml (fun id=>id=HC.n) A8 (.slice (some ⟨HC.n,0,some 1⟩) L.length L.length) (nrm p z).2:=by
    have e:(nrm p z).2=sc p (pw p z0 (p-2).toNat) z.2:=by rw[← hz0D];rfl
    rw[e]
    exact hv8
   have hRn:K_Prt.R (fun id=>id=o3∨id=HC.n) A8 (nrm p z) [.slice (some ⟨o3,0,some 1⟩) y.length y.length,.slice (some ⟨HC.n,0,some 1⟩) L.length L.length]:=
    ⟨[.slice (some ⟨o3,0,some 1⟩) y.length y.length],_,rfl,⟨_,rfl,hv78.sl.more (fun id h=>.inl h)⟩,⟨_,rfl,hv88.sl.more (fun id h=>.inr h)⟩⟩
   refine KW.litS1 U U U U U U U U U U U U ?_
   have hbl:=basN_len (p:=p) (L:=L) i
   refine KW.appTS (m:=1) (ys:=[.slice (some ⟨o3,0,some 1⟩) y.length y.length,.slice (some ⟨HC.n,0,some 1⟩) L.length L.length]) 1 U U U U U U U U (by decide) rfl (fun H1 g=>acells_seg (g.blk (j:=4) rfl).1 (by show 0+1*2≤2;decide)) (by show 0+(basN p L i).length*2≤cs.length;omega) rfl (by decide) (by show((basN p L i).length+1)*48≤_;omega) (by show(basN p L i).length+1≤_;omega) ?_
   have cl8:Cl K_Prt (fun id=>V id∨(id=o3∨id=HC.n)) A8 (basN p L i) cs:=cl.mv (fun id h=>(S18 id (hV id h)).2) (fun id h=>.inl h)
   have cl9:=cl8.snoc (y:=nrm p z) (K_Prt.more (fun id h=>.inr h) hRn)
   have inv9:∀o9,CbI p L H ⟨i+1,S8,A8,fun id=>V id∨(id=o3∨id=HC.n),o9,(cs.drop 0).take ((basN p L i).length*2)++[.slice (some ⟨o3,0,some 1⟩) y.length y.length,.slice (some ⟨HC.n,0,some 1⟩) L.length L.length]⟩:=fun o9=>by
    refine⟨by simp only;omega,fun id h=>⟨(S18 id (old id h).1).1,(S18 id (old id h).1).2.trans (old id h).2⟩,fun id h=>?_,?_,?_⟩
    ·rcases h with h | h | h
     ·exact(S18 id (hV id h)).1
     ·rw[h];exact(t8 _ (t7 _ s3).1).1
     ·rw[h];exact(t8 _ s47).1
    ·simp only[eB,List.length_append,List.length_take,List.length_drop,List.length_cons,List.length_nil];omega
    ·simp only[eB];exact cl9
   refine KW.nxt U U (fun H' g=>⟨⟨i+1,S8,A8,fun id=>V id∨(id=o3∨id=HC.n),_,(cs.drop 0).take ((basN p L i).length*2)++[.slice (some ⟨o3,0,some 1⟩) y.length y.length,.slice (some ⟨HC.n,0,some 1⟩) L.length L.length]⟩,inv9 _,by first | omega | (simp only;omega),⟨rfl,rfl,rfl,rfl,rfl,rfl,rfl,rfl,congrArg (Value.int .i64) (inc64 (by omega)),trivial⟩,(g.take 3).eqT (by simp only[eB,List.length_append,List.length_singleton];rfl)⟩)
  ·rw[if_neg hfz] at eB
   have key:=first (S:=S6) (H0:=A6) (xs:=z.1) (a:=some ⟨o3,0,some 1⟩) (c:=y.length) (by omega) (by rw[← l1];exact sl1')
   rw[if_neg hfz,← l1] at key
   refine KW.callE U U U U U (key) (fun _ _=>?_)
   refine KW.no U U (by omega) ?_
   refine KW.nxt U U (fun H' g=>⟨⟨i+1,S6,A6,V,o,cs⟩,⟨by simp only;omega,old6,fun id h=>(S16 id (hV id h)).1,by simp only[eB];exact hcl,by simp only[eB];exact cl.mv (fun id h=>(S16 id (hV id h)).2) (fun id h=>h)⟩,by first | omega | (simp only;omega),⟨rfl,rfl,rfl,rfl,rfl,rfl,rfl,rfl,congrArg (Value.int .i64) (inc64 (by omega)),trivial⟩,(g.take 3).eqT (by simp only[eB];rfl)⟩)
 case gout=>
  have k1:¬(i:Int)<(L.length:Int):=k1
  obtain rfl:i=L.length:=by omega
  have bm:=bok L.length (Nat.le_refl _)
  refine KW.callN1 U U U U U (cloneB (by omega) hts.up) (fun v HC SC mC _ _ hv=>?_)
  rcases hv with⟨hy0,rfl⟩ | ⟨o3,rfl,hno3,hmo3⟩
  ·exfalso;rw[hy0] at ht;have:=ht.1;simp at this;omega
  have tC:=(inferInstance:On S1 A1 SC HC).st
  refine KW.mk1 U U U U U U U U U U U U (L.length) U U (by omega) (by show 8*_≤_;omega) ?_
  refine KW.ids (fun hlowC hvarC=>?_)
  have sC3:SC o3:=(inferInstance:On (New _ HC.n) HC SC HC).st o3 hno3 |>.1
  refine KW.freeze 3 rfl (fun A5 S5 hn5 hS5 st5 hm5 hlt5 hno5 hlow5=>?_)
  refine KW.build U U U U U (built_Prt _ _ _ _ _ _) ?_
  have SC5:∀id,SC id→S5 id∧A5.m id=HC.m id:=fun id h=>st5.st id h
  have S15:∀id,S1 id→S5 id∧A5.m id=A1.m id:=fun id h=>⟨(SC5 id (tC id h).1).1,(SC5 id (tC id h).1).2.trans (tC id h).2⟩
  have hr1:KI.Ml (fun id=>id=o3) A5 (.slice (some ⟨o3,0,some 1⟩) t.length t.length) t:=row_ml ((SC5 o3 sC3).2.trans hmo3)
  have hm5':A5.m HC.n=some ⟨2,true,(List.replicate L.length (0:Int)).map (Value.int .i64)⟩:=hm5.trans (by rw[List.map_replicate])
  have hul:(List.replicate L.length (0:Int)).length=L.length:=by simp
  have hr2:KI.Ml (fun id=>id=HC.n) A5 (.slice (some ⟨HC.n,0,some 1⟩) (List.replicate L.length (0:Int)).length L.length) (List.replicate L.length 0):=by
   have:=row_ml (A:=A5) (o:=HC.n) (ty:=2) (xs:=List.replicate L.length 0) hm5'
   rw[hul] at this ⊢
   exact this
  have hx:PrOk p k L.length (t,List.replicate L.length 0):=⟨ht,zero_ok hp0⟩
  have no3:n≤o3:=hno3.1
  have no4:n≤HC.n:=mC
  refine KW.callWV (W:=fun id=>id=o3∨id=HC.n) (post:=fun _ v H1=>v=.agg #[.slice (some ⟨o3,0,some 1⟩) t.length t.length,.slice (some ⟨HC.n,0,some 1⟩) L.length L.length]∧KI.Ml (fun id=>id=o3) H1 (.slice (some ⟨o3,0,some 1⟩) t.length t.length) (leftC p L t).1∧KI.Ml (fun id=>id=HC.n) H1 (.slice (some ⟨HC.n,0,some 1⟩) L.length L.length) (leftC p L t).2) (fun id h=>by rcases h with h | h;rw[h];exact(SC5 o3 sC3).1;rw[h];exact(hS5 _).2 (.inr rfl)) U U U U U (fun H6 g st6=>?gc) (fun v A6 S6 m6 t6 w6 hv6=>?_)
  case gc=>
   have hM:=g.has (j:=0) U U
   have hb:=g.has (j:=2) U U
   have hlit:=g.blk (j:=1) rfl
   have z6:∀id,S5 id→id<H6.n∧H6.m id=A5.m id:=fun id h=>by have h1:=g.froz id h;have:=g.n_;exact⟨by omega,h1.2⟩
   have clX:K_Prt.Sl (fun id=>id=o∨V id) H6 (.slice (some ⟨o,0,some 2⟩) (basN p L L.length).length (basN p L L.length).length) (basN p L L.length):=
    (cl.mv (X':=fun id=>V id) (A':=H6) (fun id h=>((z6 id (S15 id (hV id h)).1).2).trans (S15 id (hV id h)).2) (fun _ h=>h)).sl (.inl rfl) hlit.1 rfl (fun id h=>.inr h) (Nat.le_refl _)
   have key:=lessC (S:=Low H6.n) (H0:=H6) (a1:=some ⟨o3,0,some 1⟩) (c1:=t.length) (a2:=some ⟨HC.n,0,some 1⟩) (c2:=L.length) (x:=(t,List.replicate L.length 0)) (W1:=fun id=>id=o3) (W2:=fun id=>id=HC.n) (X:=fun id=>id=o∨V id) hp hk hLl (fun b hb=>(bm b hb).1) hx (by have:=basN_len (p:=p) (L:=L) L.length;omega) hM (by omega) hb (by omega) clX (fun id h=>⟨by
    rcases h with h | h
    ·rw[h];exact hlit.2
    ·exact(z6 id (S15 id (hV id h)).1).1,fun hh=>by
    rcases h with h | h
    ·omega
    ·have:=hlow id (hV id h);omega⟩) (fun id h=>by
     rcases h with h | h
     ·rw[h];exact(z6 o3 (SC5 o3 sC3).1).1
     ·rw[h];exact(z6 _ ((hS5 _).2 (.inr rfl))).1) (fun id h h'=>by have e1:id=o3:=h;have e2:id=HC.n:=h';have:=hno3.2;omega) (Kn.Ml.same (fun id h=>by rw[h];exact(z6 o3 (SC5 o3 sC3).1).2) hr1) (Kn.Ml.same (fun id h=>by rw[h];exact(z6 _ ((hS5 _).2 (.inr rfl))).2) hr2)
   simp only[hul] at key
   exact key
  obtain⟨rfl,w1,w2⟩:=hv6
  have hz:=leftC_ok hf hL ht
  have eC:comb p L t=if fz (leftC p L t).1<(leftC p L t).1.length then none else some (sc p (p-1) (leftC p L t).2):=rfl
  obtain⟨z,ez⟩:∃z,leftC p L t=z:=⟨_,rfl⟩
  rw[ez] at w1 w2 hz eC
  have l1:t.length=z.1.length:=ht.1.trans hz.1.1.symm
  have l2:L.length=z.2.length:=hz.2.1.symm
  have s3:S6 o3:=(t6 o3 (SC5 o3 sC3).1).1
  have s4:S6 HC.n:=(t6 HC.n ((hS5 _).2 (.inr rfl))).1
  have S56:∀id,S5 id→id≠o3→id≠HC.n→A6.m id=A5.m id:=fun id h e1 e2=>(t6 id h).2 (fun hh=>hh.elim e1 e2)
  have S16:∀id,S1 id→S6 id∧A6.m id=A1.m id:=fun id h=>by
   have h1:=hlow id h
   have h2:=S15 id h
   exact⟨(t6 id h2.1).1,(S56 id h2.1 (by omega) (by omega)).trans h2.2⟩
  have old6:∀id,id<H.n→S6 id∧A6.m id=H.m id:=fun id h=>⟨(S16 id (old id h).1).1,(S16 id (old id h).1).2.trans (old id h).2⟩
  haveI o6:On (Low H.n) H S6 A6:=⟨old6⟩
  have sl1':KI.Sl S6 A6 (.slice (some ⟨o3,0,some 1⟩) t.length t.length) z.1:=w1.sl.more (fun id h=>by rw[h];exact s3)
  have hz1l:=hz.1.1
  have hz2l:=hz.2.1
  by_cases hfz:fz z.1<z.1.length
  ·rw[if_pos hfz] at eC
   have key:=first (S:=S6) (H0:=A6) (xs:=z.1) (a:=some ⟨o3,0,some 1⟩) (c:=t.length) (by omega) (by rw[← l1];exact sl1')
   rw[if_pos hfz,← l1] at key
   refine KW.callE U U U U U (key) (fun _ _=>?_)
   refine KW.yes U U (by omega) ?_
   refine KW.retM1 U U U U (fun H1 g=>by rw[eC];rfl)
  ·rw[if_neg hfz] at eC
   have key:=first (S:=S6) (H0:=A6) (xs:=z.1) (a:=some ⟨o3,0,some 1⟩) (c:=t.length) (by omega) (by rw[← l1];exact sl1')
   rw[if_neg hfz,← l1] at key
   refine KW.callE U U U U U (key) (fun _ _=>?_)
   refine KW.no U U (by omega) ?_
   have k3:=scaled (S:=S6) (H0:=A6) (W:=fun id=>id=HC.n) (p:=p) (b:=IntKind.i64.wrap (p-1)) hp31 (by rw[wrM hp31];omega) (a:=some ⟨HC.n,0,some 1⟩) (c:=L.length) (xs:=z.2) (by omega) hz.2.2 (fun id h=>by rw[h];exact s4) (by rw[← l2];exact w2)
   rw[← l2] at k3
   refine KW.callW (W:=fun id=>id=HC.n) (fun id h=>by rw[h];exact s4) U U U U U k3 (fun v8 A8 S8 m8 t8 w8 hv8=>?_)
   have old8:∀id,id<H.n→S8 id∧A8.m id=H.m id:=fun id h=>⟨(t8 id (old6 id h).1).1,((t8 id (old6 id h).1).2 (fun hh=>by have e1:id=HC.n:=hh;omega)).trans (old6 id h).2⟩
   haveI o8:On (Low H.n) H S8 A8:=⟨old8⟩
   have s48:S8 HC.n:=(t8 _ s4).1
   rw[wrM hp31] at hv8
   have el:(sc p (p-1) z.2).length=L.length:=by simp[sc,hz2l]
   refine KW.retM1 U U U U (fun H1 g=>?_)
   ·rw[eC]
    refine⟨some ⟨HC.n,0,some 1⟩,L.length,by rw[el];rfl,?_⟩
    rw[el]
    have h1:KI.Sl (fun id=>id=HC.n) H1 (.slice (some ⟨HC.n,0,some 1⟩) L.length L.length) (sc p (p-1) z.2):=(Kn.Ml.same (fun id h=>by rw[h];exact(g.froz _ s48).2) hv8).sl
    exact h1.more (fun id h=>by
     have:=(g.froz _ s48).1
     have:=g.n_
     rw[h]
     exact⟨by omega,by omega⟩)
end
end Go.Proofs.Ytlapbbffoapleaa.Am
namespace Go.Proofs.Ytlapbbffoapleaa.Pl
theorem dF_put {w:List Int}:∀(t:List Int) (c q:Nat) (y:Int),q<t.length→dF w c (t.set q y)=dF w c t+w.getD (c+q) 0*(y-t.getD q 0)
 | [],c,q,y,h=>by simp at h
 | a :: t,c,0,y,h=>by
  show w.getD c 0*y+dF w (c+1) t=w.getD c 0*a+dF w (c+1) t+w.getD (c+0) 0*(y-a)
  simp only[Nat.add_zero,Int.mul_sub]
  omega
 | a :: t,c,q+1,y,h=>by
  have ih:=dF_put (w:=w) t (c+1) q y (by simpa using h)
  show w.getD c 0*a+dF w (c+1) (t.set q y)=w.getD c 0*a+dF w (c+1) t+w.getD (c+(q+1)) 0*(y-t.getD q 0)
  rw[ih,show c+1+q=c+(q+1) by omega]
  omega
theorem dF_noughts {w:List Int}:∀(k c:Nat),dF w c (List.replicate k 0)=0
 | 0,_=>rfl
 | k+1,c=>by
  show w.getD c 0*0+dF w (c+1) (List.replicate k 0)=0
  rw[dF_noughts k (c+1)]
  omega
def setF (E:List (List Int)) (P:List Nat) (k:Nat):Nat→List Int
 | 0=>List.replicate k 0
 | n+1=>(setF E P k n).set (P.getD n 0) ((E.getD n []).getD k 0)
theorem setF_len {E:List (List Int)} {P:List Nat} {k:Nat}:∀n,(setF E P k n).length=k
 | 0=>by simp[setF]
 | n+1=>by simp[setF,setF_len n]
theorem setF_in {p:Int} {K k:Nat} {E:List (List Int)} {P:List Nat} (hp:0<p) (hE:Rect p K E):∀n,∀a∈setF E P k n,0≤a∧a<p
 | 0=>fun a ha=>by rw[List.eq_of_mem_replicate ha];exact⟨Int.le_refl 0,hp⟩
 | n+1=>fun a ha=>by
  rcases List.mem_or_eq_of_mem_set ha with h | h
  ·exact setF_in hp hE n a h
  ·rw[h]
   rcases Nat.lt_or_ge n E.length with hn | hn
   ·exact hE.el hp (i:=n) (by rw[List.getD_eq_getElem?_getD,List.getElem?_eq_getElem hn];rfl) k
   ·have e:E.getD n []=[]:=by rw[List.getD_eq_getElem?_getD,List.getElem?_eq_none hn];rfl
    rw[e];exact⟨Int.le_refl 0,hp⟩
theorem getD_opt {L:List (List Int)} {i:Nat} (h:i<L.length):L[i]?=some (L.getD i []):=by
 rw[List.getD_eq_getElem?_getD,List.getElem?_eq_getElem h];rfl
theorem Ech.diff {p:Int} {K c:Nat} {E:List (List Int)} {P:List Nat} (h:Ech p K c E P) {i j q:Nat} (hi:P[i]?=some q) (hj:P[j]?=some q):i=j:=by
 rcases Nat.decEq i j with e | e
 ·have hl:=(List.getElem?_eq_some_iff.1 hj).1
  have hE:=getD_opt (L:=E) (i:=j) (by have:=h.le;omega)
  have h1:=(h.piv j q _ hj hE).2.1
  have h0:=h.red i q j _ hi (fun q=>e q.symm) hE
  omega
 ·exact e
theorem setF_at {p:Int} {K c k:Nat} {E:List (List Int)} {P:List Nat} (h:Ech p K c E P) {q m:Nat} (hm:P[m]?=some q):∀n,n≤m→(setF E P k n).getD q 0=0
 | 0,_=>by
  simp only[setF,List.getD_eq_getElem?_getD,List.getElem?_replicate]
  split<;>rfl
 | n+1,hn=>by
  have ih:=setF_at (k:=k) h hm n (by omega)
  have hml:=(List.getElem?_eq_some_iff.1 hm).1
  have hnP:P[n]?=some (P.getD n 0):=by rw[List.getD_eq_getElem?_getD,List.getElem?_eq_getElem (by omega)];rfl
  have hne:P.getD n 0≠q:=fun e=>by
   rw[e] at hnP
   have:=h.diff hnP hm
   omega
  simp only[setF,List.getD_eq_getElem?_getD] at ih ⊢
  rw[List.getElem?_set_ne (by simpa [List.getD_eq_getElem?_getD] using hne)]
  exact ih
theorem setF_dF {p:Int} {k:Nat} {E:List (List Int)} {P:List Nat} (h:Ech p (k+1) k E P) {i:Nat} {r:List Int} (hr:E[i]?=some r) (hi:i<P.length):∀n,n≤P.length→dF r 0 (setF E P k n)=if i<n then r.getD k 0 else 0
 | 0,_=>by simp[setF,dF_noughts]
 | n+1,hn=>by
  have ih:=setF_dF h hr hi n (by omega)
  have hnP:P[n]?=some (P.getD n 0):=by rw[List.getD_eq_getElem?_getD,List.getElem?_eq_getElem (by omega)];rfl
  have hnE:=getD_opt (L:=E) (i:=n) (by have:=h.le;omega)
  have hq:=(h.piv n _ _ hnP hnE).1
  simp only[setF]
  rw[dF_put _ _ _ _ (by rw[setF_len];exact hq),ih,setF_at h hnP n (Nat.le_refl n),Nat.zero_add]
  rcases Nat.lt_trichotomy i n with e | e | e
  ·rw[h.red n _ i r hnP (by omega) hr,if_pos e,if_pos (by omega)]
   simp
  ·subst e
   rw[(h.piv i _ r hnP hr).2.1,if_neg (by omega),if_pos (by omega)]
   rw[hnE] at hr
   cases hr
   simp
  ·rw[h.red n _ i r hnP (by omega) hr,if_neg (by omega),if_neg (by omega)]
   simp
theorem setF_sol {p:Int} {k:Nat} {W:List (List Int)} (hf:Fer p) (hW:Rect p (k+1) W) (hs:k∉(ech p W (k+1)).2):AllS p k W (setF (ech p W (k+1)).1 (ech p W (k+1)).2 k (ech p W (k+1)).2.length):=by
 have hS:=(solv_iff hf hW).2 hs
 have sh:=ech_shape hf hW k
 have e:ech p W (k+1)=ech p W k:=by
  simp only[ech] at hs ⊢
  split
  ·rfl
  ·rename_i L' hr
   rw[hr] at hs
   exact absurd (by simp) hs
 rw[e,← ech_sat hf hW k]
 intro i r hr
 rcases Nat.lt_or_ge i (ech p W k).2.length with hi | hi
 ·have:=setF_dF sh hr hi _ (Nat.le_refl _)
  rw[if_pos hi] at this
  exact⟨0,by rw[this];simp⟩
 ·refine⟨0,?_⟩
  rw[hS i r hi hr,dF_zero _ 0 (fun j _ hj=>sh.zero i r hi hr j (by rw[setF_len] at hj;omega))]
  simp
end Go.Proofs.Ytlapbbffoapleaa.Pl
namespace Go.Proofs.Ytlapbbffoapleaa.Am
open Go Go.RowKit Go.Proofs Go.Proofs.Ytlapbbffoapleaa.Pl
theorem built_MatrixW (p:Int) {x c:Int} (h:x=c):Try.prog.built 26 [(0,.int .i64 p),(1,.int .i64 x)]=some #[.int .i64 p,.int .i64 c,.slice none 0 0]:=by subst h;exact built_Matrix2 _ _
section
variable {S:Ids} {H0:AH}
end
section
variable {S:Ids} {H0:AH}
end
section
variable {S:Ids} {H0:AH}
end
theorem dF_behind {r:List Int} {v:Int}:∀(t:List Int) (c:Nat),c+t.length≤r.length→dF (r++[v]) c t=dF r c t
 | [],_,_=>rfl
 | a :: t,c,h=>by
  simp only[List.length_cons] at h
  simp only[dF,dF_behind (r:=r) (v:=v) t (c+1) (by omega)]
  congr 2
  rw[List.getD_eq_getElem?_getD,List.getD_eq_getElem?_getD,List.getElem?_append_left (by omega)]
theorem sat_aug {p:Int} {k:Nat} {r x:List Int} {v:Int} (hr:r.length=k) (hx:x.length=k):Sat p k (r++[v]) x↔Cg p (dF r 0 x) v:=by
 unfold Sat Cg
 rw[dF_behind x 0 (by omega)]
 have e:(r++[v]).getD k 0=v:=by
  rw[List.getD_eq_getElem?_getD,List.getElem?_append_right (by omega),hr,Nat.sub_self];rfl
 rw[e]
theorem lcS_big {p:Int} {k:Nat} {L:List (List Int)} (hL:Rect p k L) (cs:List Int) {j:Nat} (hj:k≤j):lcS L cs j=0:=lcS_all0 L cs fun r hr=>by
 rw[List.getD_eq_getElem?_getD,List.getElem?_eq_none (by have:=(hL r hr).1;omega)];rfl
theorem getD_big {t:List Int} {k j:Nat} (ht:t.length=k) (hj:k≤j):t.getD j 0=0:=by
 rw[List.getD_eq_getElem?_getD,List.getElem?_eq_none (by omega)];rfl
section
variable {S:Ids} {H0:AH}
end
end Go.Proofs.Ytlapbbffoapleaa.Am
/- What rows span, plain; where a row is not spanned, some list makes all rows 0 and it 1. Each holds under its own conditions. -/
set_option linter.unusedVariables false
set_option linter.unusedSimpArgs false
set_option maxRecDepth 20000
namespace Go.Proofs.Ytlapbbffoapleaa.Pl
def Spn (p:Int) (L:List (List Int)) (v:List Int):Prop:=∃cs:List Int,cs.length=L.length∧∀j,Cg p (lcS L cs j) (v.getD j 0)
theorem Spn.row {p:Int} {L:List (List Int)} {i:Nat} {r:List Int} (h:L[i]?=some r):Spn p L r:=by
 have hi:=(List.getElem?_eq_some_iff.1 h).1
 refine⟨(List.replicate L.length 0).set i 1,by simp,fun j=>?_⟩
 rw[lcS_unit L i L.length hi hi,List.getD_eq_getElem?_getD (l:=L),h]
 exact Cg.rfl'
theorem Spn.sc {p b:Int} {L:List (List Int)} {v:List Int} (h:Spn p L v):Spn p L (sc p b v):=by
 obtain⟨cs,h1,h2⟩:=h
 refine⟨Pl.sc p b cs,by simp[Pl.sc,h1],fun j=>?_⟩
 exact(lcS_sc L cs).trans ((Cg.rfl'.mul (h2 j)).trans (sc_cg (w:=v)).symm)
theorem Spn.tk {p s:Int} {L:List (List Int)} {v w:List Int} (h:Spn p L v) (h':Spn p L w) (hl:v.length=w.length):Spn p L (tk p s v w):=by
 obtain⟨cs,h1,h2⟩:=h
 obtain⟨ds,h3,h4⟩:=h'
 refine⟨Pl.tk p s cs ds,by simp[Pl.tk,h1,h3],fun j=>?_⟩
 exact(lcS_tk L cs ds (by omega)).trans (((h2 j).sub (Cg.rfl'.mul (h4 j))).trans (tk_cg hl).symm)
theorem rnd_span {p:Int} {K c n:Nat} {L0 L L':List (List Int)} (hf:Fer p) (hL:Rect p K L) (hn:n≤L.length) (h:rnd p L c n=some L') (hs:∀r∈L,Spn p L0 r):∀r∈L',Spn p L0 r:=by
 obtain⟨a,u,w,b,h1,h2,hu,hw,hw0,hq,hlen,hln,hz,hrest⟩:=rnd_rows hf hL hn h
 intro r hr
 obtain⟨j,hj⟩:=List.getElem?_of_mem hr
 have sw:=(hs w (List.mem_of_getElem? hw)).sc (b:=b)
 have lw:(Pl.sc p b w).length=K:=by simp[Pl.sc,(hL w (List.mem_of_getElem? hw)).1]
 by_cases e:j=n
 ·subst e
  rw[hln] at hj
  cases hj
  exact sw
 ·rw[hrest j e] at hj
  obtain⟨v,hv,rfl⟩:=Option.map_eq_some_iff.1 hj
  have hvm:v∈L:=by
   split at hv
   ·cases hv;exact List.mem_of_getElem? hu
   ·exact List.mem_of_getElem? hv
  exact(hs v hvm).tk sw (by rw[lw,(hL v hvm).1])
theorem ech_span {p:Int} {K:Nat} {L:List (List Int)} (hf:Fer p) (hL:Rect p K L):∀c,∀r∈(ech p L c).1,Spn p L r
 | 0,r,hr=>by
  obtain⟨i,hi⟩:=List.getElem?_of_mem hr
  exact Spn.row hi
 | c+1,r,hr=>by
  have ih:=ech_span hf hL c
  have sh:=ech_shape hf hL c
  simp only[ech] at hr
  split at hr
  ·exact ih r hr
  ·rename_i L' hrd
   exact rnd_span hf sh.rect sh.le hrd ih r hr
theorem lcS_app {j:Nat}:∀(A B:List (List Int)) (a b:List Int),a.length=A.length→lcS (A++B) (a++b) j=lcS A a j+lcS B b j
 | [],B,[],b,_=>by simp[lcS]
 | r :: A,B,c :: a,b,h=>by
  have ih:=lcS_app (j:=j) A B a b (by simpa using h)
  simp only[List.cons_append,lcS,ih]
  omega
 | [],_,_ :: _,_,h=>by simp at h
 | _ :: _,_,[],_,h=>by simp at h
theorem lcS_pad {k j:Nat}:∀(L:List (List Int)) (cs:List Int),(∀r∈L,r.length=k)→lcS (L.map fun r=>r++[0]) cs j=lcS L cs j
 | [],_,_=>by simp[lcS]
 | _ :: _,[],_=>by simp[lcS]
 | r :: L,c :: cs,h=>by
  have ih:=lcS_pad (j:=j) L cs fun r hr=>h r (List.mem_cons_of_mem _ hr)
  simp only[List.map_cons,lcS,ih]
  congr 2
  rw[List.getD_eq_getElem?_getD,List.getD_eq_getElem?_getD]
  rcases Nat.lt_or_ge j r.length with hj | hj
  ·rw[List.getElem?_append_left hj]
  ·rw[List.getElem?_append_right hj,List.getElem?_eq_none hj]
   cases hd:j-r.length with
   | zero=>rfl
   | succ n=>rfl
end Go.Proofs.Ytlapbbffoapleaa.Pl
namespace Go.Proofs.Ytlapbbffoapleaa.Am
open Go Go.RowKit Go.Proofs Go.Proofs.Ytlapbbffoapleaa.Pl
theorem alt {p:Int} {k:Nat} {L:List (List Int)} {t:List Int} (hf:Fer p) (hL:Rect p k L) (ht:t.length=k∧∀a∈t,0≤a∧a<p) (h:comb p L t=none):
  ∃z:List Int,(z.length=k∧∀a∈z,0≤a∧a<p)∧(∀r∈L,Cg p (dF r 0 z) 0)∧Cg p (dF t 0 z) 1:=by
 have hp2:=hf.1
 obtain⟨W,eW⟩:∃W,(L.map fun r=>r++[0])++[t++[1]]=W:=⟨_,rfl⟩
 have hW:Rect p (k+1) W:=fun w hw=>by
  rw[← eW] at hw
  rcases List.mem_append.1 hw with hw | hw
  ·obtain⟨r,hr,rfl⟩:=List.mem_map.1 hw
   refine⟨by simp[(hL r hr).1],fun a ha=>?_⟩
   rcases List.mem_append.1 ha with ha | ha
   ·exact(hL r hr).2 a ha
   ·rw[List.mem_singleton.1 ha];omega
  ·rw[List.mem_singleton.1 hw]
   refine⟨by simp[ht.1],fun a ha=>?_⟩
   rcases List.mem_append.1 ha with ha | ha
   ·exact ht.2 a ha
   ·rw[List.mem_singleton.1 ha];omega
 by_cases hs:k∈(ech p W (k+1)).2
 ·exfalso
  have sh:=ech_shape hf hW (k+1)
  obtain⟨i,hi⟩:=List.getElem?_of_mem hs
  have hil:i<(ech p W (k+1)).1.length:=by have:=(List.getElem?_eq_some_iff.1 hi).1;have:=sh.le;omega
  obtain⟨r,hr⟩:∃r,(ech p W (k+1)).1[i]?=some r:=⟨_,List.getElem?_eq_getElem hil⟩
  obtain⟨_,q1,q2⟩:=sh.piv i k r hi hr
  obtain⟨cs,c1,c2⟩:=ech_span hf hW (k+1) r (List.mem_of_getElem? hr)
  have hWl:W.length=L.length+1:=by rw[← eW];simp
  obtain⟨ds,e,rfl⟩:∃ds e,cs=ds++[e]:=by
   have:=List.dropLast_concat_getLast (l:=cs) (by intro h0;rw[h0] at c1;simp at c1;omega)
   exact⟨_,_,this.symm⟩
  have dl:ds.length=L.length:=by simp at c1;omega
  have col:∀j,lcS W (ds++[e]) j=lcS L ds j+e*(t++[1]).getD j 0:=fun j=>by
   rw[← eW,lcS_app _ _ _ _ (by simp[dl]),lcS_pad L ds fun r hr=>(hL r hr).1]
   show _+(e*_+0)=_
   omega
  have ck:=c2 k
  rw[col k,lcS_big hL ds (Nat.le_refl k),q1] at ck
  have e1:(t++[1]).getD k 0=1:=by
   rw[List.getD_eq_getElem?_getD,List.getElem?_append_right (by omega),ht.1,Nat.sub_self];rfl
  rw[e1] at ck
  refine comb_complete hf hL ht (cs:=sc p (-1) ds) (fun j=>?_) h
  rcases Nat.lt_or_ge j k with hj | hj
  ·have cj:=c2 j
   rw[col j,q2 j hj] at cj
   have e2:(t++[1]).getD j 0=t.getD j 0:=by
    rw[List.getD_eq_getElem?_getD,List.getElem?_append_left (by omega),← List.getD_eq_getElem?_getD]
   rw[e2] at cj
   refine(lcS_sc L ds).trans ?_
   obtain⟨m,hm⟩:=cj
   obtain⟨n,hn⟩:=ck
   have he:e=1+p*n:=by omega
   rw[he] at hm
   exact⟨n*t.getD j 0-m,by grind⟩
  ·rw[lcS_big hL _ hj,getD_big ht.1 hj];exact Cg.rfl'
 ·have hz:=setF_sol hf hW hs
  have hl:=setF_len (E:=(ech p W (k+1)).1) (P:=(ech p W (k+1)).2) (k:=k) (ech p W (k+1)).2.length
  have hin:=setF_in (p:=p) (k:=k) (P:=(ech p W (k+1)).2) (by omega) (ech_shape hf hW (k+1)).rect (ech p W (k+1)).2.length
  obtain⟨z,ez⟩:∃z,setF (ech p W (k+1)).1 (ech p W (k+1)).2 k (ech p W (k+1)).2.length=z:=⟨_,rfl⟩
  rw[ez] at hz hl hin
  refine⟨z,⟨hl,hin⟩,fun r hr=>?_,?_⟩
  ·obtain⟨i,hi⟩:=List.getElem?_of_mem hr
   have hil:=(List.getElem?_eq_some_iff.1 hi).1
   exact(sat_aug (hL r hr).1 hl).1 (hz i (r++[0]) (by rw[← eW,List.getElem?_append_left (by simpa using hil),List.getElem?_map,hi];rfl))
  ·exact(sat_aug ht.1 hl).1 (hz L.length (t++[1]) (by rw[← eW,List.getElem?_append_right (by simp)];simp))
end Go.Proofs.Ytlapbbffoapleaa.Am

namespace Go.Proofs.Ytlapbbffoapleaa.Pl
abbrev Mtx:Type:=Nat→Nat→Int
def sgn (i:Nat):Int:=if i%2=0 then 1 else -1
theorem sgn_next (i:Nat):sgn (i+1)=- sgn i:=by
 unfold sgn
 rcases Nat.mod_two_eq_zero_or_one i with h | h
 ·rw[if_pos h,if_neg (show ¬(i+1)%2=0 by omega)]
 ·rw[if_neg (show ¬i%2=0 by omega),if_pos (show(i+1)%2=0 by omega)];rfl
def sumI (f:Nat→Int):Nat→Int
 | 0=>0
 | n+1=>sumI f n+f n
theorem sumI_congr {f g:Nat→Int}:∀n,(∀i,i<n→f i=g i)→sumI f n=sumI g n
 | 0,_=>rfl
 | n+1,h=>by simp only[sumI,sumI_congr n fun i hi=>h i (by omega),h n (by omega)]
theorem sumI_lin {f g:Nat→Int} {s t:Int}:∀n,sumI (fun i=>s*f i+t*g i) n=s*sumI f n+t*sumI g n
 | 0=>by simp[sumI]
 | n+1=>by simp only[sumI,sumI_lin n];grind
theorem sumI_zero {f:Nat→Int}:∀n,(∀i,i<n→f i=0)→sumI f n=0
 | 0,_=>rfl
 | n+1,h=>by simp only[sumI,sumI_zero n fun i hi=>h i (by omega),h n (by omega)];rfl
theorem sumI_two {f:Nat→Int} {r:Nat} (h2:f r+f (r+1)=0):∀n,(∀i,i<n→i≠r→i≠r+1→f i=0)→r+1<n→sumI f n=0
 | 0,_,hn=>by omega
 | n+1,h,hn=>by
  simp only[sumI]
  by_cases e:n=r+1
  ·subst e
   simp only[sumI]
   rw[sumI_zero r fun i hi=>h i (by omega) (by omega) (by omega)]
   omega
  ·rw[sumI_two h2 n (fun i hi=>h i (by omega)) (by omega),h n (by omega) (by omega) e];rfl
theorem sumI_one {f:Nat→Int} {r:Nat} (h:∀i,i≠r→f i=0):∀n,r<n→sumI f n=f r
 | 0,hn=>by omega
 | n+1,hn=>by
  simp only[sumI]
  by_cases e:n=r
  ·subst e
   rw[sumI_zero n fun i hi=>h i (by omega)]
   omega
  ·rw[sumI_one h n (by omega),h n e];omega
def minor (M:Mtx) (i:Nat):Mtx:=fun a b=>M (if a<i then a else a+1) (b+1)
def det:Nat→Mtx→Int
 | 0,_=>1
 | n+1,M=>sumI (fun i=>sgn i*M i 0*det n (minor M i)) (n+1)
def upd (M:Mtx) (r:Nat) (v:Nat→Int):Mtx:=fun a=>if a=r then v else M a
theorem upd_same (M:Mtx) (r:Nat):upd M r (M r)=M:=by
 funext a
 unfold upd
 split
 ·rename_i e;rw[e]
 ·rfl
theorem upd_at (M:Mtx) (r:Nat) (v:Nat→Int):upd M r v r=v:=by unfold upd;rw[if_pos rfl]
theorem upd_ne (M:Mtx) {r a:Nat} (v:Nat→Int) (h:a≠r):upd M r v a=M a:=by unfold upd;rw[if_neg h]
theorem upd_comm (M:Mtx) {r s:Nat} (u v:Nat→Int) (h:r≠s):upd (upd M r u) s v=upd (upd M s v) r u:=by
 funext a
 unfold upd
 by_cases h1:a=s
 ·rw[if_pos h1,if_neg (by omega),if_pos h1]
 ·rw[if_neg h1]
  by_cases h2:a=r
  ·rw[if_pos h2,if_pos h2]
  ·rw[if_neg h2,if_neg h2,if_neg h1]
theorem det_congr:∀(n:Nat) {M N:Mtx},(∀a,a<n→∀b,b<n→M a b=N a b)→det n M=det n N
 | 0,_,_,_=>rfl
 | n+1,M,N,h=>by
  simp only[det]
  refine sumI_congr _ fun i hi=>?_
  rw[h i hi 0 (by omega),det_congr n (M:=minor M i) (N:=minor N i) fun a ha b hb=>?_]
  unfold minor
  split
  ·exact h _ (by omega) _ (by omega)
  ·exact h _ (by omega) _ (by omega)
theorem minor_same (M:Mtx) (r:Nat) (v:Nat→Int):minor (upd M r v) r=minor M r:=by
 funext a b
 unfold minor
 rw[upd_ne]
 split<;>omega
theorem minor_upd (M:Mtx) {r i:Nat} (v:Nat→Int) (h:i≠r):minor (upd M r v) i=upd (minor M i) (if r<i then r else r-1) (fun b=>v (b+1)):=by
 funext a b
 have key:((if a<i then a else a+1)=r)↔(a=if r<i then r else r-1):=by
  by_cases h1:a<i
  ·rw[if_pos h1]
   by_cases h3:r<i
   ·rw[if_pos h3]
   ·rw[if_neg h3];omega
  ·rw[if_neg h1]
   by_cases h3:r<i
   ·rw[if_pos h3];omega
   ·rw[if_neg h3];omega
 show upd M r v (if a<i then a else a+1) (b+1)=_
 by_cases e:(if a<i then a else a+1)=r
 ·rw[e,upd_at,key.1 e,upd_at]
 ·rw[upd_ne _ _ e,upd_ne _ _ (fun h=>e (key.2 h))]
  rfl
theorem det_lin:∀(n:Nat) (M:Mtx) (r:Nat) (s t:Int) (u v:Nat→Int),r<n→det n (upd M r (fun b=>s*u b+t*v b))=s*det n (upd M r u)+t*det n (upd M r v)
 | 0,_,_,_,_,_,_,h=>by omega
 | n+1,M,r,s,t,u,v,h=>by
  simp only[det]
  rw[← sumI_lin]
  refine sumI_congr _ fun i hi=>?_
  by_cases e:i=r
  ·subst e
   simp only[minor_same,upd_at]
   grind
  ·rw[minor_upd M _ e,minor_upd M _ e,minor_upd M _ e,upd_ne M _ e,upd_ne M _ e,upd_ne M _ e]
   rw[det_lin n (minor M i) _ s t (fun b=>u (b+1)) (fun b=>v (b+1)) (by split<;>omega)]
   grind
theorem det_adj:∀(n:Nat) (M:Mtx) (r:Nat),r+1<n→M r=M (r+1)→det n M=0
 | 0,_,_,h,_=>by omega
 | n+1,M,r,h,e=>by
  simp only[det]
  refine sumI_two (r:=r) ?_ _ (fun i hi h1 h2=>?_) h
  rotate_left
  ·have key:det n (minor M i)=0:=by
    by_cases hi:r+1<i
    ·exact det_adj n (minor M i) r (by omega) (by
      funext b
      unfold minor
      rw[if_pos (by omega),if_pos (by omega),e])
    ·exact det_adj n (minor M i) (r-1) (by omega) (by
      funext b
      unfold minor
      rw[if_neg (by omega),if_neg (by omega)]
      rw[show r-1+1=r by omega,e])
   rw[key];simp
  ·have key:minor M r=minor M (r+1):=by
    funext a b
    unfold minor
    by_cases h1:a<r
    ·rw[if_pos h1,if_pos (by omega)]
    ·rw[if_neg h1]
     by_cases h2:a=r
     ·subst h2;rw[if_pos (by omega),e]
     ·rw[if_neg (by omega)]
   rw[key,e,sgn_next]
   grind
structure AltF (n:Nat) (F:Mtx→Int):Prop where
 cong:∀M N:Mtx,(∀a,a<n→∀b,b<n→M a b=N a b)→F M=F N
 lin:∀(M:Mtx) (r:Nat) (s t:Int) (u v:Nat→Int),r<n→F (upd M r (fun b=>s*u b+t*v b))=s*F (upd M r u)+t*F (upd M r v)
 alt:∀(M:Mtx) (r s:Nat),r<s→s<n→M r=M s→F M=0
theorem lin_swap {F:Mtx→Int} {n:Nat} (lin:∀(M:Mtx) (r:Nat) (s t:Int) (u v:Nat→Int),r<n→F (upd M r (fun b=>s*u b+t*v b))=s*F (upd M r u)+t*F (upd M r v))
  {M:Mtx} {r s:Nat} (hr:r<n) (hs:s<n) (hne:r≠s) (hz:∀u:Nat→Int,F (upd (upd M r u) s u)=0) (u v:Nat→Int):F (upd (upd M r v) s u)=- F (upd (upd M r u) s v):=by
 have h1:=hz (fun b=>1*u b+1*v b)
 have h2:F (upd (upd M r (fun b=>1*u b+1*v b)) s (fun b=>1*u b+1*v b))=(F (upd (upd M r u) s u)+F (upd (upd M r v) s u))+(F (upd (upd M r u) s v)+F (upd (upd M r v) s v)):=by
  rw[lin _ s 1 1 u v hs]
  rw[upd_comm M _ u hne,upd_comm M _ v hne,lin _ r 1 1 u v hr,lin _ r 1 1 u v hr]
  rw[upd_comm M u u hne,upd_comm M v u hne,upd_comm M u v hne,upd_comm M v v hne]
  omega
 rw[hz u,hz v] at h2
 omega
theorem det_alt (n:Nat):∀(d:Nat) (M:Mtx) (r:Nat),r+d+1<n→M r=M (r+d+1)→det n M=0
 | 0,M,r,h,e=>det_adj n M r h e
 | d+1,M,r,h,e=>by
  have hz:∀u:Nat→Int,det n (upd (upd M (r+d+1) u) (r+d+1+1) u)=0:=fun u=>det_adj n _ (r+d+1) (by omega) (by rw[upd_ne _ _ (by omega),upd_at,upd_at])
  have h1:=lin_swap (F:=det n) (M:=M) (fun M r s t u v hr=>det_lin n M r s t u v hr) (show r+d+1<n by omega) (show r+d+1+1<n by omega) (by omega) hz (M (r+d+1)) (M (r+d+1+1))
  have h2:det n (upd (upd M (r+d+1) (M (r+d+1+1))) (r+d+1+1) (M (r+d+1)))=0:=det_alt n d _ r (by omega) (by
   rw[upd_ne _ _ (by omega),upd_ne _ _ (by omega),upd_ne _ _ (by omega),upd_at,e]
   rfl)
  rw[h2,upd_same,upd_same] at h1
  omega
theorem detF (n:Nat):AltF n (det n):=⟨fun M N h=>det_congr n h,fun M r s t u v h=>det_lin n M r s t u v h,fun M r s h1 h2 e=>by
 obtain⟨d,rfl⟩:∃d,s=r+d+1:=⟨s-r-1,by omega⟩
 exact det_alt n d M r h2 e⟩
def mulM (n:Nat) (A B:Mtx):Mtx:=fun i k=>sumI (fun j=>A i j*B j k) n
theorem mulM_upd (n:Nat) (A B:Mtx) (r:Nat) (w:Nat→Int):mulM n (upd A r w) B=upd (mulM n A B) r (fun k=>sumI (fun j=>w j*B j k) n):=by
 funext a k
 unfold mulM upd
 split<;>rfl
theorem prodF (n:Nat) (B:Mtx):AltF n (fun A=>det n (mulM n A B)):=⟨fun M N h=>det_congr n fun a ha k hk=>sumI_congr n fun j hj=>by rw[h a ha j hj],fun M r s t u v h=>by
  simp only[mulM_upd]
  rw[← det_lin n _ r s t _ _ h]
  congr 2
  funext k
  rw[← sumI_lin]
  exact sumI_congr n fun j _=>by grind,fun M r s h1 h2 e=>(detF n).alt _ r s h1 h2 (by funext k;unfold mulM;rw[e])⟩
section
variable {n:Nat} {F:Mtx→Int}
theorem AltF.alt2 (h:AltF n F) {M:Mtx} {r s:Nat} (hr:r<n) (hs:s<n) (hne:r≠s) (e:M r=M s):F M=0:=by
 rcases Nat.lt_or_ge r s with h1 | h1
 ·exact h.alt M r s h1 hs e
 ·exact h.alt M s r (by omega) hr e.symm
theorem AltF.swap (h:AltF n F) (M:Mtx) {r s:Nat} (hr:r<n) (hs:s<n) (hne:r≠s):F (upd (upd M r (M s)) s (M r))=- F M:=by
 have h1:=lin_swap (F:=F) (M:=M) h.lin hr hs hne (fun u=>h.alt2 hr hs hne (by rw[upd_ne _ _ hne,upd_at,upd_at])) (M r) (M s)
 rw[upd_same,upd_same] at h1
 exact h1
theorem AltF.mul (h:AltF n F) (M:Mtx) {r:Nat} (t:Int) (hr:r<n):F (upd M r (fun b=>t*M r b))=t*F M:=by
 have h1:=h.lin M r t 0 (M r) (M r) hr
 rw[upd_same] at h1
 have e:(fun b=>t*M r b+0*M r b)=fun b=>t*M r b:=by funext b;omega
 rw[e] at h1
 omega
theorem AltF.add (h:AltF n F) (M:Mtx) {r s:Nat} (t:Int) (hr:r<n) (hs:s<n) (hne:r≠s):F (upd M r (fun b=>M r b+t*M s b))=F M:=by
 have h1:=h.lin M r 1 t (M r) (M s) hr
 rw[upd_same] at h1
 have e:(fun b=>1*M r b+t*M s b)=fun b=>M r b+t*M s b:=by funext b;omega
 rw[e] at h1
 have h2:F (upd M r (M s))=0:=h.alt2 hr hs hne (by rw[upd_at,upd_ne _ _ (Ne.symm hne)])
 rw[h2] at h1
 omega
theorem AltF.zero (h:AltF n F) {M:Mtx} {r:Nat} (hr:r<n) (hz:∀b,b<n→M r b=0):F M=0:=by
 have e:F M=F (upd M r (fun b=>0*M r b)):=h.cong _ _ fun a ha b hb=>by
  unfold upd
  split
  ·rename_i e;rw[e];simp only[hz b hb];omega
  ·rfl
 rw[e,h.mul M 0 hr];omega
theorem AltF.modp (h:AltF n F) {p:Int} {M N:Mtx} (hMN:∀a,a<n→∀b,b<n→Cg p (M a b) (N a b)):Cg p (F M) (F N):=by
 have step:∀k,k≤n→Cg p (F M) (F (fun a=>if a<k then N a else M a)):=fun k=>by
  induction k with
  | zero=>intro _;exact Cg.rfl'
  | succ k ih=>
   intro hk
   refine(ih (by omega)).trans ?_
   obtain⟨X,eX⟩:∃X:Mtx,(fun a=>if a<k then N a else M a)=X:=⟨_,rfl⟩
   rw[eX]
   have e1:X=upd X k (M k):=by
    funext a
    unfold upd
    split
    ·rename_i e;rw[← eX];simp only;rw[if_neg (by omega),e]
    ·rfl
   have e2:F (fun a=>if a<k+1 then N a else M a)=F (upd X k (fun b=>1*M k b+p*((N k b-M k b) / p))):=h.cong _ _ fun a ha b hb=>by
    unfold upd
    by_cases e:a=k
    ·rw[if_pos e,if_pos (by omega),e]
     obtain⟨m,hm⟩:=hMN k (by omega) b hb
     by_cases hp:p=0
     ·subst hp;omega
     ·have:N k b-M k b=p*(-m):=by rw[hm];grind
      rw[this,Int.mul_ediv_cancel_left _ hp]
      rw[hm];grind
    ·rw[if_neg e,← eX]
     simp only
     by_cases h1:a<k
     ·rw[if_pos h1,if_pos (by omega)]
     ·rw[if_neg h1,if_neg (by omega)]
   rw[e2,h.lin _ _ _ _ _ _ (by omega),← e1]
   exact⟨- F (upd X k (fun b=>(N k b-M k b) / p)),by grind⟩
 have h1:=step n (Nat.le_refl n)
 have e:F (fun a=>if a<n then N a else M a)=F N:=h.cong _ _ fun a ha b hb=>by rw[if_pos ha]
 rw[e] at h1
 exact h1
theorem AltF.clear (h:AltF n F) (M:Mtx) {s:Nat} (t:Nat→Int) (hs:s<n) (q:Nat→Bool) (hq:q s=false):F (fun a=>if q a=true then(fun b=>M a b+t a*M s b) else M a)=F M:=by
 have step:∀k,k≤n→F (fun a=>if a<k∧q a=true then(fun b=>M a b+t a*M s b) else M a)=F M:=fun k=>by
  induction k with
  | zero=>intro _;rfl
  | succ k ih=>
   intro hk
   have ih:=ih (by omega)
   obtain⟨X,eX⟩:∃X:Mtx,(fun a=>if a<k∧q a=true then(fun b=>M a b+t a*M s b) else M a)=X:=⟨_,rfl⟩
   rw[eX] at ih
   cases hqk:q k with
   | false=>
    have e:(fun a=>if a<k+1∧q a=true then(fun b=>M a b+t a*M s b) else M a)=X:=by
     rw[← eX]
     funext a
     by_cases e:a=k
     ·rw[e,hqk];simp
     ·by_cases h1:a<k
      ·simp only[h1,show a<k+1 by omega]
      ·simp only[h1,show ¬a<k+1 by omega]
    rw[e,ih]
   | true=>
    have hks:k≠s:=fun e=>by rw[e,hq] at hqk;cases hqk
    have xs:X s=M s:=by rw[← eX];simp[hq]
    have xk:X k=M k:=by rw[← eX];simp
    have e:(fun a=>if a<k+1∧q a=true then(fun b=>M a b+t a*M s b) else M a)=upd X k (fun b=>X k b+t k*X s b):=by
     rw[xs,xk,← eX]
     funext a
     unfold upd
     by_cases e:a=k
     ·rw[if_pos e,e,if_pos ⟨by omega,hqk⟩]
     ·rw[if_neg e]
      by_cases h1:a<k
      ·simp only[h1,show a<k+1 by omega]
      ·simp only[h1,show ¬a<k+1 by omega]
    rw[e,h.add X (t k) (by omega) hs hks,ih]
 have h1:=step n (Nat.le_refl n)
 rw[← h1]
 exact h.cong _ _ fun a ha b _=>by
  cases hqa:q a<;>simp[ha]
end
def listM (L:List (List Int)):Mtx:=fun i j=>(L.getD i []).getD j 0
theorem listM_at {L:List (List Int)} {i:Nat} {r:List Int} (h:L[i]?=some r):listM L i=fun j=>r.getD j 0:=by
 funext j
 unfold listM
 rw[List.getD_eq_getElem?_getD (l:=L),h]
 rfl
theorem rnd_det {p:Int} {K c m:Nat} {L L':List (List Int)} (hf:Fer p) (hL:Rect p K L) (hm:m≤L.length) (h:rnd p L c m=some L'):
  ∃e e':Int,Cg p (e*e') 1∧∀F,AltF L.length F→Cg p (F (listM L)) (e*F (listM L')):=by
 obtain⟨a,u,w,b,h1,h2,hu,hw,hw0,⟨q,hq⟩,hlen,hln,hz,hrest⟩:=rnd_rows hf hL hm h
 have hml:m<L.length:=(List.getElem?_eq_some_iff.1 hu).1
 have hM1:∃(M1:Mtx) (s:Int),s*s=1∧(∀F,AltF L.length F→F M1=s*F (listM L))∧M1 m=(fun j=>w.getD j 0)∧∀j v,j≠m→(if j=a then some u else L[j]?)=some v→M1 j=fun x=>v.getD x 0:=by
  by_cases e:a=m
  ·subst e
   rw[hu] at hw
   cases hw
   refine⟨listM L,1,rfl,fun F _=>by omega,listM_at hu,fun j v hj hv=>?_⟩
   rw[if_neg hj] at hv
   exact listM_at hv
  ·refine⟨upd (upd (listM L) m (listM L a)) a (listM L m),-1,rfl,fun F hF=>?_,?_,fun j v hj hv=>?_⟩
   ·rw[hF.swap (listM L) hml h2 (Ne.symm e)];omega
   ·rw[upd_ne _ _ (Ne.symm e),upd_at,listM_at hw]
   ·by_cases ej:j=a
    ·rw[if_pos ej] at hv
     cases hv
     rw[ej,upd_at,listM_at hu]
    ·rw[if_neg ej] at hv
     rw[upd_ne _ _ ej,upd_ne _ _ hj,listM_at hv]
 obtain⟨M1,s,hs,hF1,m1,m2⟩:=hM1
 refine⟨s*w.getD c 0,s*b,⟨q,by grind⟩,fun F hF=>?_⟩
 obtain⟨M2,e2⟩:∃M2:Mtx,upd M1 m (fun x=>b*M1 m x)=M2:=⟨_,rfl⟩
 have f2:F M2=b*F M1:=by rw[← e2];exact hF.mul M1 b hml
 have f3:=hF.clear M2 (s:=m) (fun a=>- M1 a c) hml (fun a=>decide (a≠m)) (by simp)
 have key:Cg p (F (fun a=>if decide (a≠m)=true then(fun x=>M2 a x+(- M1 a c)*M2 m x) else M2 a)) (F (listM L')):=hF.modp fun j hj x hx=>by
  have m2m:M2 m=fun x=>b*w.getD x 0:=by rw[← e2,upd_at,m1]
  by_cases e:j=m
  ·subst e
   rw[if_neg (by simp),m2m,listM_at hln]
   exact(sc_cg (w:=w)).symm
  ·have hv:∃v,(if j=a then some u else L[j]?)=some v:=by
    split
    ·exact⟨u,rfl⟩
    ·exact⟨_,List.getElem?_eq_getElem hj⟩
   obtain⟨v,hv⟩:=hv
   have hr:=hrest j e
   rw[hv,Option.map_some] at hr
   have hvl:v.length=K:=by
    split at hv
    ·cases hv;exact(hL u (List.mem_of_getElem? hu)).1
    ·exact(hL v (List.mem_of_getElem? hv)).1
   have hwl:(sc p b w).length=K:=by simp[sc,(hL w (List.mem_of_getElem? hw)).1]
   have mj:=m2 j v e hv
   have m2j:M2 j=M1 j:=by rw[← e2,upd_ne _ _ e]
   rw[if_pos (by simpa using e),m2m,m2j,mj,listM_at hr]
   refine Cg.trans ?_ (tk_cg (s:=v.getD c 0) (by rw[hvl,hwl])).symm
   show Cg p (v.getD x 0+(- v.getD c 0)*(b*w.getD x 0)) _
   refine Cg.trans ?_ (Cg.rfl'.sub (Cg.rfl'.mul (sc_cg (w:=w)).symm))
   exact⟨0,by grind⟩
 rw[f3,f2,hF1 F hF] at key
 obtain⟨k,hk⟩:=key
 refine⟨s*w.getD c 0*k-q*F (listM L),?_⟩
 have hk2:F (listM L')=b*(s*F (listM L))-p*k:=by omega
 rw[hk2]
 grind
theorem ech_det {p:Int} {K:Nat} {L:List (List Int)} (hf:Fer p) (hL:Rect p K L):∀c,∃e e':Int,Cg p (e*e') 1∧∀F,AltF L.length F→Cg p (F (listM L)) (e*F (listM (ech p L c).1))
 | 0=>⟨1,1,Cg.rfl',fun F _=>⟨0,by simp[ech]⟩⟩
 | c+1=>by
  obtain⟨e,e',he,ih⟩:=ech_det hf hL c
  have sh:=ech_shape hf hL c
  have hl:=(ech_ok (by have:=hf.1;omega) hL c).2.1
  simp only[ech]
  split
  ·exact⟨e,e',he,ih⟩
  ·rename_i L' hr
   obtain⟨d,d',hd,hF⟩:=rnd_det hf sh.rect sh.le hr
   refine⟨e*d,e'*d',?_,fun F hA=>?_⟩
   ·have:=he.mul hd
    refine Cg.trans ⟨0,by grind⟩ (this.trans ⟨0,by simp⟩)
   ·have h1:=ih F hA
    have h2:=hF F (by rw[hl];exact hA)
    refine h1.trans ((Cg.rfl'.mul h2).trans ⟨0,by grind⟩)
theorem ech_range {p:Int} {L:List (List Int)} {K:Nat} (hf:Fer p) (hL:Rect p K L):∀c,(ech p L c).2.length=c→(ech p L c).2=List.range c
 | 0,_=>rfl
 | c+1,h=>by
  have hle:=(ech_ok (by have:=hf.1;omega) hL c).2.2.2
  simp only[ech] at h ⊢
  split at h
  ·omega
  ·rename_i L' hr
   simp only[List.length_append,List.length_cons,List.length_nil] at h
   have ih:=ech_range hf hL c (by omega)
   rw[List.range_succ]
   simp only[hr]
   rw[ih]
def unitM:Mtx:=fun i j=>if i=j then 1 else 0
theorem ech_unit {p:Int} {L:List (List Int)} (hf:Fer p) (hL:Rect p L.length L) (h:(ech p L L.length).2.length=L.length):∀i,i<L.length→∀j,j<L.length→listM (ech p L L.length).1 i j=unitM i j:=fun i hi j hj=>by
 have sh:=ech_shape hf hL L.length
 have hl:=(ech_ok (by have:=hf.1;omega) hL L.length).2.1
 have hr:=ech_range hf hL _ h
 obtain⟨r,er⟩:∃r,(ech p L L.length).1[i]?=some r:=⟨_,List.getElem?_eq_getElem (by omega)⟩
 have at_:∀m,m<L.length→(ech p L L.length).2[m]?=some m:=fun m hm=>by rw[hr,List.getElem?_range hm]
 rw[listM_at er]
 unfold unitM
 by_cases e:i=j
 ·subst e
  rw[if_pos rfl]
  exact(sh.piv i i r (at_ i hi) er).2.1
 ·rw[if_neg e]
  exact sh.red j j i r (at_ j hj) e er
theorem ech_low {p:Int} {L:List (List Int)} (hf:Fer p) (hL:Rect p L.length L) (h:(ech p L L.length).2.length<L.length):∀F,AltF L.length F→F (listM (ech p L L.length).1)=0:=fun F hF=>by
 have sh:=ech_shape hf hL L.length
 have hl:=(ech_ok (by have:=hf.1;omega) hL L.length).2.1
 refine hF.zero h fun j hj=>?_
 obtain⟨r,er⟩:∃r,(ech p L L.length).1[(ech p L L.length).2.length]?=some r:=⟨_,List.getElem?_eq_getElem (by omega)⟩
 rw[listM_at er]
 exact sh.zero _ r (Nat.le_refl _) er j hj
theorem det_unit:∀n,det n unitM=1
 | 0=>rfl
 | n+1=>by
  have ih:=det_unit n
  simp only[det]
  rw[sumI_one (r:=0) (fun i hi=>?_) (n+1) (by omega)]
  ·have e:minor unitM 0=unitM:=by
    funext a b
    show unitM (if a<0 then a else a+1) (b+1)=unitM a b
    rw[if_neg (Nat.not_lt_zero a)]
    unfold unitM
    by_cases h:a=b
    ·rw[if_pos h,if_pos (by omega)]
    ·rw[if_neg h,if_neg (by omega)]
   rw[e,ih]
   rfl
  ·show sgn i*(if i=0 then(1:Int) else 0)*_=0
   rw[if_neg hi];simp
theorem det_full {p:Int} {L:List (List Int)} (hf:Fer p) (hL:Rect p L.length L) (h:(ech p L L.length).2.length=L.length):∃d,Cg p (det L.length (listM L)*d) 1∧∀F,AltF L.length F→Cg p (F (listM L)) (det L.length (listM L)*F unitM):=by
 obtain⟨e,e',he,hF⟩:=ech_det hf hL L.length
 have key:∀F,AltF L.length F→Cg p (F (listM L)) (e*F unitM):=fun F hA=>by
  have h1:=hF F hA
  rw[hA.cong _ unitM (ech_unit hf hL h)] at h1
  exact h1
 have hd:=key _ (detF L.length)
 rw[det_unit] at hd
 refine⟨e',(hd.mul Cg.rfl').trans (Cg.trans ⟨0,by grind⟩ he),fun F hA=>(key F hA).trans (Cg.mul (Cg.trans ⟨0,by grind⟩ hd.symm) Cg.rfl')⟩
theorem det_low {p:Int} {L:List (List Int)} (hf:Fer p) (hL:Rect p L.length L) (h:(ech p L L.length).2.length<L.length):∀F,AltF L.length F→Cg p (F (listM L)) 0:=fun F hA=>by
 obtain⟨e,e',he,hF⟩:=ech_det hf hL L.length
 have h1:=hF F hA
 rw[ech_low hf hL h F hA] at h1
 exact h1.trans ⟨0,by simp⟩
theorem mul_unit {n:Nat} {B:Mtx} {i k:Nat} (hi:i<n):mulM n unitM B i k=B i k:=by
 unfold mulM
 rw[sumI_one (r:=i) (fun j hj=>?_) n hi]
 ·show(if i=i then(1:Int) else 0)*_=_
  rw[if_pos rfl];omega
 ·show(if i=j then(1:Int) else 0)*_=_
  rw[if_neg (Ne.symm hj)];simp
theorem det_mul {p:Int} {L:List (List Int)} (hf:Fer p) (hL:Rect p L.length L) (B:Mtx):Cg p (det L.length (mulM L.length (listM L) B)) (det L.length (listM L)*det L.length B):=by
 have hle:=(ech_ok (by have:=hf.1;omega) hL L.length).2.2.2
 rcases Nat.lt_or_ge (ech p L L.length).2.length L.length with h | h
 ·have h1:=det_low hf hL h _ (detF L.length)
  exact(det_low hf hL h _ (prodF L.length B)).trans ((Cg.mul h1 Cg.rfl').trans ⟨0,by simp⟩).symm
 ·obtain⟨d,_,hF⟩:=det_full hf hL (by omega)
  have h1:=hF _ (prodF L.length B)
  have e:det L.length (mulM L.length unitM B)=det L.length B:=det_congr _ fun a ha b _=>mul_unit ha
  simp only[e] at h1
  exact h1
theorem det_tri:∀(n:Nat) (M:Mtx),(∀i,i<n→M i i=1)→(∀i j,i<n→j<i→M i j=0)→det n M=1
 | 0,_,_,_=>rfl
 | n+1,M,h1,h0=>by
  simp only[det]
  have ih:=det_tri n (minor M 0) (fun i hi=>by unfold minor;rw[if_neg (by omega)];exact h1 _ (by omega)) (fun i j hi hj=>by unfold minor;rw[if_neg (by omega)];exact h0 _ _ (by omega) (by omega))
  have e:∀i,i<n+1→sgn i*M i 0*det n (minor M i)=(fun i=>if i=0 then(1:Int) else 0) i:=fun i hi=>by
   by_cases hz:i=0
   ·subst hz;rw[h1 0 (by omega),ih];rfl
   ·show _=if i=0 then(1:Int) else 0
    rw[if_neg hz,h0 i 0 hi (by omega)];simp
  rw[sumI_congr _ e,sumI_one (r:=0) (fun i hi=>if_neg hi) _ (by omega)]
  rfl
theorem det_stop:∀(c n:Nat) (M:Mtx),c<n→(∀i,i<c→M i i=1)→(∀i j,i<n→j<c→j<i→M i j=0)→(∀i,c≤i→i<n→M i c=0)→det n M=0
 | c,0,_,h,_,_,_=>by omega
 | 0,n+1,M,_,_,_,hz=>by
  simp only[det]
  exact sumI_zero _ fun i hi=>by rw[hz i (Nat.zero_le _) hi];simp
 | c+1,n+1,M,h,h1,h0,hz=>by
  simp only[det]
  have ih:=det_stop c n (minor M 0) (by omega) (fun i hi=>by unfold minor;rw[if_neg (by omega)];exact h1 _ (by omega)) (fun i j hi hj hji=>by unfold minor;rw[if_neg (by omega)];exact h0 _ _ (by omega) (by omega) (by omega)) (fun i hi hin=>by unfold minor;rw[if_neg (by omega)];exact hz _ (by omega) (by omega))
  refine sumI_zero _ fun i hi=>?_
  by_cases e:i=0
  ·subst e;rw[ih];simp
  ·rw[h0 i 0 hi (by omega) (by omega)];simp
theorem rnd_back {p:Int} {K c n:Nat} {L L':List (List Int)} (hf:Fer p) (hL:Rect p K L) (hn:n≤L.length) (h:rnd p L c n=some L') {T:List (List Int)} (hs:∀r∈L',∀v,(∀j,Cg p (v.getD j 0) (r.getD j 0))→Spn p T v):∀r∈L,∀v,(∀j,Cg p (v.getD j 0) (r.getD j 0))→Spn p T v:=by
 obtain⟨a,u,w,b,h1,h2,hu,hw,hw0,⟨q,hq⟩,hlen,hln,hz,hrest⟩:=rnd_rows hf hL hn h
 have hp2:=hf.1
 have lead:Spn p T (sc p b w):=hs _ (List.mem_of_getElem? hln) _ fun j=>Cg.rfl'
 have lw:(sc p b w).length=K:=by simp[sc,(hL w (List.mem_of_getElem? hw)).1]
 have cong:∀{v v':List Int},Spn p T v→(∀j,Cg p (v'.getD j 0) (v.getD j 0))→Spn p T v':=fun {v v'} h hj=>by
  obtain⟨cs,c1,c2⟩:=h
  exact⟨cs,c1,fun j=>(c2 j).trans (hj j).symm⟩
 intro r hr v hv
 obtain⟨j,hj⟩:=List.getElem?_of_mem hr
 have hwr:∀r',r'=w→(∀x,Cg p (v.getD x 0) (r'.getD x 0))→Spn p T v:=fun r' e hv'=>by
  subst e
  refine cong (lead.sc (b:=r'.getD c 0)) fun x=>(hv' x).trans ?_
  refine Cg.trans ?_ (sc_cg (w:=sc p b r')).symm
  refine Cg.trans ?_ (Cg.rfl'.mul (sc_cg (w:=r')).symm)
  exact⟨- q*r'.getD x 0,by grind⟩
 have other:∀i,i≠n→(if i=a then some u else L[i]?)=some r→Spn p T v:=fun i hi hv'=>by
  have hr':=hrest i hi
  rw[hv',Option.map_some] at hr'
  have h1:=hs _ (List.mem_of_getElem? hr') _ fun j=>Cg.rfl'
  have hrl:r.length=K:=by
   split at hv'
   ·cases hv';exact(hL u (List.mem_of_getElem? hu)).1
   ·exact(hL r (List.mem_of_getElem? hv')).1
  have lt:(tk p (r.getD c 0) r (sc p b w)).length=K:=by simp[tk,hrl,lw]
  refine cong (h1.tk (s:=- r.getD c 0) lead (by rw[lt,lw])) fun x=>(hv x).trans ?_
  refine Cg.trans ?_ (tk_cg (by rw[lt,lw])).symm
  refine Cg.trans ?_ ((tk_cg (by rw[hrl,lw])).sub Cg.rfl').symm
  exact⟨0,by grind⟩
 by_cases e:j=n
 ·subst e
  rw[hu] at hj
  cases hj
  by_cases ea:a=j
  ·subst ea
   rw[hu] at hw
   cases hw
   exact hwr _ rfl hv
  ·exact other a ea (if_pos rfl)
 ·by_cases ea:j=a
  ·subst ea
   rw[hw] at hj
   cases hj
   exact hwr _ rfl hv
  ·exact other j e (by rw[if_neg ea];exact hj)
theorem ech_back {p:Int} {K:Nat} {L:List (List Int)} (hf:Fer p) (hL:Rect p K L):∀c,∀(T:List (List Int)),(∀r∈(ech p L c).1,∀v,(∀j,Cg p (v.getD j 0) (r.getD j 0))→Spn p T v)→∀r∈L,∀v,(∀j,Cg p (v.getD j 0) (r.getD j 0))→Spn p T v
 | 0,T,h=>h
 | c+1,T,h=>by
  have sh:=ech_shape hf hL c
  refine ech_back hf hL c T ?_
  simp only[ech] at h
  split at h
  ·exact h
  ·rename_i L' hr
   exact rnd_back hf sh.rect sh.le hr h
theorem ech_rows {p:Int} {K:Nat} {L:List (List Int)} (hf:Fer p) (hL:Rect p K L) (c:Nat):∀r∈L,Spn p (ech p L c).1 r:=fun r hr=>ech_back hf hL c _ (fun s hs v hv=>by
 obtain⟨i,hi⟩:=List.getElem?_of_mem hs
 obtain⟨cs,c1,c2⟩:=Spn.row (p:=p) hi
 exact⟨cs,c1,fun j=>(c2 j).trans (hv j).symm⟩) r hr r fun j=>Cg.rfl'
end Go.Proofs.Ytlapbbffoapleaa.Pl
