/- Contracts and laws on abstract memory, merged. Each holds under its own conditions. -/
import Derived.Test.YtlapbbffoapleaaGreatPCeremony05
set_option linter.unusedVariables false
set_option linter.unusedSimpArgs false
set_option maxRecDepth 20000
set_option maxHeartbeats 4000000
namespace Go.Proofs.YtlapbbffoapleaaGreat.Am
open Go Go.RowKit Go.Proofs Go.Proofs.YtlapbbffoapleaaGreat.Pl
theorem dF_behind {r:List Int} {v:Int}:∀(t:List Int) (c:Nat),c+t.length≤r.length→dF (r++[v]) c t=dF r c t
 | [],_,_=>rfl
 | a :: t,c,h=>by
  simp only [List.length_cons] at h
  simp only [dF,dF_behind (r:=r) (v:=v) t (c+1) (by omega)]
  congr 2
  rw [List.getD_eq_getElem?_getD,List.getD_eq_getElem?_getD,List.getElem?_append_left (by omega)]
theorem sat_aug {p:Int} {k:Nat} {r x:List Int} {v:Int} (hr:r.length=k) (hx:x.length=k):Sat p k (r++[v]) x↔Cg p (dF r 0 x) v:=by
 unfold Sat Cg
 rw [dF_behind x 0 (by omega)]
 have e:(r++[v]).getD k 0=v:=by
  rw [List.getD_eq_getElem?_getD,List.getElem?_append_right (by omega),hr,Nat.sub_self]; rfl
 rw [e]
theorem allS_aug {p:Int} {k:Nat} {L:List (List Int)} {vals x:List Int} (hL:∀r∈L,r.length=k) (hl:vals.length=L.length) (hx:x.length=k):AllS p k (augW L vals) x↔∀(i:Nat) r v,L[i]?=some r→vals[i]?=some v→Cg p (dF r 0 x) v:=by
 constructor
 ·intro h i r v hr hv
  exact (sat_aug (hL r (List.mem_of_getElem? hr)) hx).1 (h i _ (augW_at hr hv))
 ·intro h i w hw
  have hi:=(List.getElem?_eq_some_iff.1 hw).1
  rw [augW_len hl] at hi
  have h1:L[i]?=some L[i]:=List.getElem?_eq_getElem hi
  have h2:vals[i]?=some (vals[i]'(by omega)):=List.getElem?_eq_getElem (by omega)
  have h3:=augW_at h1 h2
  rw [hw] at h3
  cases h3
  exact (sat_aug (hL _ (List.mem_of_getElem? h1)) hx).2 (h i _ _ h1 h2)
theorem unitL_in {p:Int} {k:Nat} (hp:2≤p) (hk:1≤k):(unitL k).length=k∧∀a∈unitL k,0≤a∧a < p:=⟨unitL_len hk,fun a ha=>by
 rcases List.mem_cons.1 ha with h | h
 ·rw [h]; omega
 ·rw [List.eq_of_mem_replicate h]; omega⟩
theorem dotN_dFx {r:List Int}:∀(x:List Int) (c:Nat),dotN (r.drop c) x x.length=dF r c x:=by
 have key:∀(x pre:List Int) (c:Nat),dotN (r.drop c) (pre++x) (pre.length+x.length)=dotN (r.drop c) (pre++x) pre.length+dF r (c+pre.length) x:=fun x=>by
  induction x with
  | nil=>intro pre c; simp [dF]
  | cons a t ih=>
   intro pre c
   have h:=ih (pre++[a]) c
   simp only [List.append_assoc,List.cons_append,List.nil_append,List.length_append,List.length_cons,List.length_nil,Nat.zero_add] at h
   simp only [List.length_cons,dF]
   rw [show pre.length+(t.length+1)=pre.length+1+t.length by omega,h]
   simp only [dotN]
   have e1:(pre++a :: t).getD pre.length 0=a:=by
    rw [List.getD_eq_getElem?_getD,List.getElem?_append_right (Nat.le_refl _),Nat.sub_self]; rfl
   have e2:(r.drop c).getD pre.length 0=r.getD (c+pre.length) 0:=by
    rw [List.getD_eq_getElem?_getD,List.getD_eq_getElem?_getD,List.getElem?_drop]
   rw [e1,e2,show c+(pre.length+1)=c+pre.length+1 by omega]
   omega
 intro x c
 have:=key x [] c
 simpa [dotN] using this
theorem dotS_dF {p:Int} {a b:List Int} (h:a.length=b.length):dotS p a b=dF a 0 b%p:=by
 unfold dotS
 rw [h]
 have:=dotN_dFx (r:=a) b 0
 rw [List.drop_zero] at this
 rw [this]
noncomputable def rebC (x:T_Scheme) (g held:List Int):Int:=
 if codeH x g held=0 then (if (comb x.2.2.1 (heldR x.2.1 x.2.2.2.2 (bitsOf g)) (unitL x.2.2.2.1.toNat)).isNone=true then 6 else if x.2.2.2.1.toNat∈(ech x.2.2.1 (augW (heldR x.2.1 x.2.2.2.2 (bitsOf g)) held) (x.2.2.2.1.toNat+1)).2 then 4 else 0) else codeH x g held
noncomputable def rebV (x:T_Scheme) (g held:List Int):Int:=
 if rebC x g held=0 then dotS x.2.2.1 ((comb x.2.2.1 (heldR x.2.1 x.2.2.2.2 (bitsOf g)) (unitL x.2.2.2.1.toNat)).getD []) held else 0
section
variable {S:Ids} {H0:AH}
theorem rebuild (h' p c:Int) (ow g held:List Int) (rows:List (List Int)) {a1 c1 a2 c2 a3 c3 a4 c4} (hB:B_Scheme (h',ow,p,c,rows)) (hG:B_Int64S g) (hH:B_Int64S held) (h1:KI.Sl S H0 (.slice a1 ow.length c1) ow) (h2:KI.sl.Sl S H0 (.slice a2 rows.length c2) rows) (h3:KI.Sl S H0 (.slice a3 g.length c3) g) (h4:KI.Sl S H0 (.slice a4 held.length c4) held):
  Spec Tryz.prog S H0 46 [.agg #[.int .i64 h',.slice a1 ow.length c1,.int .i64 p,.int .i64 c,.slice a2 rows.length c2],.slice a3 g.length c3,.slice a4 held.length c4] (fun v=>v=.tuple #[.int .i64 (rebV (h',ow,p,c,rows) g held),.int .i64 (rebC (h',ow,p,c,rows) g held)]):=by
 refine Spec.of1 Tryz.func46 rfl (by kernel_rfl) rfl (fun H _=>?_)
 have s1:=h1.up (S':=Low H.n) (H':=H)
 have s2:=h2.up (S':=Low H.n) (H':=H)
 have s3:=h3.up (S':=Low H.n) (H':=H)
 have s4:=h4.up (S':=Low H.n) (H':=H)
 have hO:B_Int64S ow:=hB.2.1
 have hBr:B_Int64SS rows:=hB.2.2.2.2
 refine KW.callE rfl rfl rfl rfl rfl (heldCode (h',ow,p,c,rows) g held hB hG hH s1 s2 s3 s4) (fun _ _=>?_)
 by_cases hc:codeH (h',ow,p,c,rows) g held=0
 ·obtain ⟨hk,hg,hhl,hhe⟩:=codeH_ok hc
  have hk:OkSch h' ow p c rows:=hk
  simp only at hg hhl hhe
  refine KW.cF rfl rfl (by simp [hc]) ?_
  obtain ⟨q,hq⟩:∃q:Nat,h'=q:=⟨h'.toNat,by have:=hk.h1; omega⟩
  have hq7:=hk.h7
  rw [hq] at hg
  have hgs:=rises_small hg
  have hbt:bitsOf g < 256:=Nat.lt_of_lt_of_le (bitsOf_lt (m:=q) (fun x hx=>by have:=hgs x hx; omega)) (Nat.pow_le_pow_right (by decide) (show q≤8 by omega))
  obtain ⟨k,rfl⟩:∃k:Nat,c=((k+1:Nat):Int):=⟨c.toNat - 1,by have:=hk.c1; omega⟩
  have hpr:=hk.mat.pr
  have hf:=fer hpr
  have hp2:=hpr.1
  have hp31:=hpr.2.1
  have hk12:=hk.mat.c1
  refine KW.callE rfl rfl rfl rfl rfl (crowdOf (m:=q) (by omega) (by omega) hgs s3) (fun _ _=>?_)
  refine KW.callN1 rfl rfl rfl rfl rfl (Am.held h' p ((k+1:Nat):Int) (bitsOf g) (by omega) hO hBr hk s1 s2) (fun v HM SM mM _ _ hv=>?_)
  obtain ⟨am,cm,rfl,hM⟩:=hv
  have hM:=hM.up (S':=SM) (H':=HM)
  have hLr:Rect p (k+1) (heldR ow rows (bitsOf g)):=held_rect hk rfl
  have hLl:(heldR ow rows (bitsOf g)).length≤20:=held_len hk
  have hhL:held.length=(heldR ow rows (bitsOf g)).length:=by rw [hhl]; unfold heldR rowsG; rw [selR_len]
  have s5:=s4.up (S':=SM) (H':=HM)
  obtain ⟨L,eL⟩:∃L,heldR ow rows (bitsOf g)=L:=⟨_,rfl⟩
  have eR:rebC (h',ow,p,((k+1:Nat):Int),rows) g held=if (comb p L (unitL (k+1))).isNone=true then 6 else if (k+1)∈(ech p (augW L held) (k+1+1)).2 then 4 else 0:=by
   unfold rebC; rw [if_pos hc]; simp only [Int.toNat_natCast,eL]
  have eV:rebV (h',ow,p,((k+1:Nat):Int),rows) g held=if rebC (h',ow,p,((k+1:Nat):Int),rows) g held=0 then dotS p ((comb p L (unitL (k+1))).getD []) held else 0:=by
   unfold rebV; simp only [Int.toNat_natCast,eL]
  rw [eL] at hM hLr hLl hhL ⊢
  have hhi:∀a∈held,0≤a∧a < p:=fun a ha=>by have:=hhe a ha; omega
  have hui:=unitL_in (p:=p) hp2 (show 1≤k+1 by omega)
  refine KW.callN1 rfl rfl rfl rfl rfl (unit (k+1) (by omega) (by omega)) (fun v HU SU mU _ _ hv=>?_)
  obtain ⟨au,cu,rfl,hU⟩:=hv
  have hM2:=hM.up (S':=SU) (H':=HU)
  have s6:=s5.up (S':=SU) (H':=HU)
  refine KW.callN1 rfl rfl rfl rfl rfl (combination hpr (by omega) (by omega) (by omega) hLr hui hM2 hU.ups) (fun v HC SC mC _ _ hv=>?_)
  cases hcb:comb p L (unitL (k+1)) with
  | none=>
   rw [hcb] at hv
   obtain rfl:=hv
   have e6:rebC (h',ow,p,((k+1:Nat):Int),rows) g held=6:=by rw [eR,hcb]; rfl
   refine KW.cT rfl rfl (by first | (simp; done) | decide) ?_
   refine KW.retM1 rfl rfl rfl rfl (fun H1 g=>by rw [eV,e6]; rfl)
  | some cs=>
   rw [hcb] at hv
   obtain ⟨ac,cc,rfl,hC⟩:=hv
   obtain ⟨⟨e1,e2⟩,e3⟩:=comb_sound hf hLr hui hcb
   refine KW.cF rfl rfl (by first | (simp; done) | decide) ?_
   have hM3:=hM2.up (S':=SC) (H':=HC)
   have s7:=s6.up (S':=SC) (H':=HC)
   refine KW.callN1 rfl rfl rfl rfl rfl (solve hpr (by omega) (by omega) hLr hhL hhi hM3 s7) (fun v HS SS mS _ _ hv=>?_)
   obtain ⟨a9,n9,c9,rfl⟩:=hv
   have hC2:=hC.up (S':=SS) (H':=HS)
   have s8:=s7.up (S':=SS) (H':=HS)
   by_cases hk1:(k+1)∈(ech p (augW L held) (k+1+1)).2
   ·have e4:rebC (h',ow,p,((k+1:Nat):Int),rows) g held=4:=by rw [eR,hcb,if_pos hk1]; rfl
    refine KW.cT rfl rfl (by simp [hk1]) ?_
    refine KW.retM1 rfl rfl rfl rfl (fun H1 g=>by rw [eV,e4]; rfl)
   ·have e0:rebC (h',ow,p,((k+1:Nat):Int),rows) g held=0:=by rw [eR,hcb,if_neg hk1]; rfl
    refine KW.cF rfl rfl (by simp [hk1]) ?_
    refine KW.callE rfl rfl rfl rfl rfl (dot p hpr (by omega) (by omega) (fun a ha=>by have:=e2 a ha; omega) (fun a ha=>by have:=hhi a ha; omega) hC2 s8) (fun _ _=>?_)
    refine KW.retM1 rfl rfl rfl rfl (fun H1 g=>by rw [eV,e0,hcb]; rfl)
 ·have e1:rebC (h',ow,p,c,rows) g held=codeH (h',ow,p,c,rows) g held:=by unfold rebC; rw [if_neg hc]
  refine KW.cT rfl rfl (by simp [hc]) ?_
  refine KW.retM1 rfl rfl rfl rfl (fun H1 g=>by unfold rebV; rw [e1,if_neg hc]; rfl)
end
end Go.Proofs.YtlapbbffoapleaaGreat.Am
/- What rows span, plain; where a row is not spanned, some list makes all rows 0 and it 1. Each holds under its own conditions. -/
set_option linter.unusedVariables false
set_option linter.unusedSimpArgs false
set_option maxRecDepth 20000
namespace Go.Proofs.YtlapbbffoapleaaGreat.Pl
def Spn (p:Int) (L:List (List Int)) (v:List Int):Prop:=∃cs:List Int,cs.length=L.length∧∀j,Cg p (lcS L cs j) (v.getD j 0)
theorem Spn.row {p:Int} {L:List (List Int)} {i:Nat} {r:List Int} (h:L[i]?=some r):Spn p L r:=by
 have hi:=(List.getElem?_eq_some_iff.1 h).1
 refine ⟨(List.replicate L.length 0).set i 1,by simp,fun j=>?_⟩
 rw [lcS_unit L i L.length hi hi,List.getD_eq_getElem?_getD (l:=L),h]
 exact Cg.rfl'
theorem Spn.sc {p b:Int} {L:List (List Int)} {v:List Int} (h:Spn p L v):Spn p L (sc p b v):=by
 obtain ⟨cs,h1,h2⟩:=h
 refine ⟨Pl.sc p b cs,by simp [Pl.sc,h1],fun j=>?_⟩
 exact (lcS_sc L cs).trans ((Cg.rfl'.mul (h2 j)).trans (sc_cg (w:=v)).symm)
theorem Spn.tk {p s:Int} {L:List (List Int)} {v w:List Int} (h:Spn p L v) (h':Spn p L w) (hl:v.length=w.length):Spn p L (tk p s v w):=by
 obtain ⟨cs,h1,h2⟩:=h
 obtain ⟨ds,h3,h4⟩:=h'
 refine ⟨Pl.tk p s cs ds,by simp [Pl.tk,h1,h3],fun j=>?_⟩
 exact (lcS_tk L cs ds (by omega)).trans (((h2 j).sub (Cg.rfl'.mul (h4 j))).trans (tk_cg hl).symm)
end Go.Proofs.YtlapbbffoapleaaGreat.Pl
namespace Go.Proofs.YtlapbbffoapleaaGreat.Am
open Go Go.RowKit Go.Proofs Go.Proofs.YtlapbbffoapleaaGreat.Pl
theorem unit_dF0 {k:Nat} {all:List Int} (hl:all.length=k+1):dF (unitL (k+1)) 0 all=all.getD 0 0:=by
 cases all with
 | nil=>simp at hl
 | cons a t=>
  show 1*a+dF (unitL (k+1)) 1 t=a
  have:dF (unitL (k+1)) 1 t=0:=dF_zero t 1 fun j h1 h2=>by
   unfold unitL
   obtain ⟨j',rfl⟩:∃j',j=j'+1:=⟨j - 1,by omega⟩
   rw [List.getD_cons_succ,List.getD_eq_getElem?_getD,List.getElem?_replicate]
   split <;> rfl
  omega
end Go.Proofs.YtlapbbffoapleaaGreat.Am

namespace Go.Proofs.YtlapbbffoapleaaGreat.Am
open Go Go.RowKit Go.Proofs
theorem markF_mem:∀(l:List Bool) (i x:Int),x∈markF l i↔i≤x∧l.getD (x - i).toNat false=true
 | [],i,x=>by simp [markF]
 | b :: l,i,x=>by
  have ih:=markF_mem l (i+1) x
  have key:(i≤x∧(b :: l).getD (x - i).toNat false=true)↔(x=i∧b=true)∨(i+1≤x∧l.getD (x - (i+1)).toNat false=true):=by
   rcases Int.lt_trichotomy x i with h | h | h
   ·constructor
    ·rintro ⟨h1,_⟩; omega
    ·rintro (⟨h1,_⟩ | ⟨h1,_⟩) <;> omega
   ·subst h
    simp only [Int.sub_self,Int.toNat_zero,List.getD_cons_zero,Int.le_refl,true_and]
    constructor
    ·exact .inl
    ·rintro (h | ⟨h,_⟩)
     ·exact h
     ·omega
   ·have e:(x - i).toNat=(x - (i+1)).toNat+1:=by omega
    rw [e,List.getD_cons_succ]
    constructor
    ·rintro ⟨_,h2⟩; exact .inr ⟨by omega,h2⟩
    ·rintro (⟨h1,_⟩ | ⟨_,h2⟩)
     ·omega
     ·exact ⟨by omega,h2⟩
  rw [key,← ih,show markF (b :: l) i=if b=true then i :: markF l (i+1) else markF l (i+1) from rfl]
  split
  ·rename_i hb
   rw [List.mem_cons]
   simp [hb]
  ·rename_i hb
   constructor
   ·exact .inr
   ·rintro (⟨_,h⟩ | h)
    ·exact absurd h hb
    ·exact h
theorem markF_rises:∀(l:List Bool) (lo hi:Int),lo+l.length≤hi+1→Rises lo hi (markF l lo)
 | [],lo,hi,_=>by simp [markF,Rises]
 | b :: l,lo,hi,h=>by
  simp only [List.length_cons] at h
  have ih:=markF_rises l (lo+1) hi (by omega)
  rw [show markF (b :: l) lo=if b=true then lo :: markF l (lo+1) else markF l (lo+1) from rfl]
  split
  ·intro i hi'
   cases i with
   | zero=>exact ⟨⟨Int.le_refl _,by show lo≤hi; omega⟩,fun h=>absurd h (Nat.lt_irrefl 0)⟩
   | succ i=>
    have h1:=ih i (by simpa using hi')
    refine ⟨⟨by have:=h1.1.1; simp only [List.getD_cons_succ]; omega,by have:=h1.1.2; simp only [List.getD_cons_succ]; omega⟩,fun _=>?_⟩
    cases i with
    | zero=>have:=h1.1.1; simp only [List.getD_cons_succ,Nat.add_sub_cancel,Nat.zero_add,Nat.sub_self,List.getD_cons_zero]; omega
    | succ i=>
     have:=h1.2 (Nat.succ_pos i)
     simpa using this
  ·intro i hi'
   have h1:=ih i hi'
   exact ⟨⟨by have:=h1.1.1; omega,h1.1.2⟩,h1.2⟩
theorem rows20 {x:T_Deal} (hd:DealOk x) (j:Int):(rowsOf x.1.2.1 j).length≤20:=by
 have h1:=rowsOf_len x.1.2.1 j
 have h2:=hd.sch.len
 have h3:=hd.sch.mat.len
 omega
def opS (ow:List Int) (got:List (List Int)) (s:List Int × List Int) (i:Int):List Int × List Int:=
 (s.1.set (ow.getD i.toNat 0).toNat (s.1.getD (ow.getD i.toNat 0).toNat 0+1),s.2++[(got.getD (ow.getD i.toNat 0).toNat []).getD (s.1.getD (ow.getD i.toNat 0).toNat 0).toNat 0])
def opR (ow:List Int) (got:List (List Int)) (n:Nat) (rs:List Int):List Int × List Int:=rs.foldl (opS ow got) (List.replicate n 0,[])
theorem opR_snoc {ow:List Int} {got:List (List Int)} {n:Nat} {rs:List Int} {i:Int}:opR ow got n (rs++[i])=opS ow got (opR ow got n rs) i:=by simp [opR]
def ownC (ow:List Int) (h:Nat) (rs:List Int):Nat:=rs.countP fun i=>decide ((ow.getD i.toNat 0).toNat=h)
theorem opR_ok {ow:List Int} {got:List (List Int)} {n:Nat} (hn:∀i,(ow.getD i 0).toNat < n) (rs:List Int):(opR ow got n rs).1.length=n∧(opR ow got n rs).2.length=rs.length∧∀h,h < n→(opR ow got n rs).1.getD h 0=(ownC ow h rs:Nat):=by
 suffices hs:∀(l:List Int),(opR ow got n l.reverse).1.length=n∧(opR ow got n l.reverse).2.length=l.reverse.length∧∀h,h < n→(opR ow got n l.reverse).1.getD h 0=(ownC ow h l.reverse:Nat) by
  have:=hs rs.reverse
  rwa [List.reverse_reverse] at this
 intro l
 induction l with
 | nil=>
  refine ⟨by simp [opR],by simp [opR],fun h hh=>?_⟩
  simp [opR,ownC,List.getD_eq_getElem?_getD,List.getElem?_replicate,hh]
 | cons i l ih=>
  obtain ⟨h1,h2,h3⟩:=ih
  rw [List.reverse_cons,opR_snoc]
  refine ⟨by simp [opS,h1],by simp [opS,h2],fun h hh=>?_⟩
  have h4:=hn i.toNat
  simp only [opS,ownC,List.countP_append,List.countP_cons,List.countP_nil] at h3 ⊢
  rw [List.getD_eq_getElem?_getD,List.getElem?_set]
  split
  ·rename_i e
   rw [if_pos (by omega),h3 _ h4]
   subst e
   simp [ownC]
  ·rename_i e
   have:=h3 h hh
   rw [List.getD_eq_getElem?_getD] at this
   rw [this]
   rw [show (if decide ((ow.getD i.toNat 0).toNat=h)=true then 1 else 0)=0 from if_neg (by simpa using e)]
   simp [ownC]
theorem rowsP_count {ow:List Int} {q:Nat→Bool} {n h:Nat} (how:∀i,0≤ow.getD i 0):ownC ow h (rowsP q n)≤(rowsP (fun i=>decide (ow.getD i 0=(h:Int))) n).length:=by
 unfold ownC rowsP
 rw [List.countP_map,List.length_map,← List.countP_eq_length_filter,List.countP_filter]
 refine List.countP_mono_left fun i _ hi=>?_
 have hi:decide ((ow.getD ((i:Nat):Int).toNat 0).toNat=h)=true∧q i=true:=by simpa using hi
 have h1:=of_decide_eq_true hi.1
 rw [Int.toNat_natCast] at h1
 have:=how i
 exact decide_eq_true (by omega)
theorem own_lt {ow:List Int} {q:Nat→Bool} {n a:Nat} {x:Int} (how:∀i,0≤ow.getD i 0) (hx:(rowsP q n)[a]?=some x):ownC ow (ow.getD x.toNat 0).toNat ((rowsP q n).take a) < (rowsP (fun i=>decide (ow.getD i 0=((ow.getD x.toNat 0).toNat:Int))) n).length:=by
 refine Nat.lt_of_lt_of_le ?_ (rowsP_count (q:=q) how)
 have ha:=(List.getElem?_eq_some_iff.1 hx).1
 have h1:(rowsP q n).take (a+1)=(rowsP q n).take a++[x]:=by rw [List.take_add_one,hx]; rfl
 have h2:ownC ow (ow.getD x.toNat 0).toNat ((rowsP q n).take (a+1))=ownC ow (ow.getD x.toNat 0).toNat ((rowsP q n).take a)+1:=by
  rw [h1]
  unfold ownC
  rw [List.countP_append,List.countP_cons,List.countP_nil]
  simp
 have h3:ownC ow (ow.getD x.toNat 0).toNat ((rowsP q n).take (a+1))≤ownC ow (ow.getD x.toNat 0).toNat (rowsP q n):=List.Sublist.countP_le (List.take_sublist _ _)
 omega
noncomputable def opG (c:Cer):List Int:=markF c.has 0
noncomputable def opH (x:T_Deal) (c:Cer):List Int:=(opR x.1.2.1 c.got x.1.1.toNat (rowsG x.1.2.1 (opG c))).2
theorem opG_bits {x:T_Deal} {c:Cer} (h:CerOk x c) (h7:x.1.1≤7) {j:Nat} (hj:(j:Int) < x.1.1):(bitsOf (opG c)).testBit j=c.has.getD j false:=by
 have hl:=h.hl
 have hs:=h.sl
 obtain ⟨q,hq⟩:∃q:Nat,x.1.1=q:=⟨x.1.1.toNat,by omega⟩
 have hr:Rises 0 ((q:Int) - 1) (opG c):=markF_rises c.has 0 _ (by omega)
 have:=group_bits hr (y:=(j:Int)) (by omega) (by omega)
 rw [Int.toNat_natCast] at this
 rw [← this]
 have hm:=markF_mem c.has 0 (j:Int)
 rw [Int.sub_zero,Int.toNat_natCast] at hm
 show decide ((j:Int)∈markF c.has 0)=_
 cases hb:c.has.getD j false with
 | true=>rw [hb] at hm; exact decide_eq_true (hm.2 ⟨by omega,rfl⟩)
 | false=>rw [hb] at hm; exact decide_eq_false (fun h=>by have:=(hm.1 h).2; cases this)
end Go.Proofs.YtlapbbffoapleaaGreat.Am
namespace Go.Proofs.YtlapbbffoapleaaGreat.Am
open Go Go.RowKit Go.Proofs Go.Proofs.YtlapbbffoapleaaGreat.Pl
theorem T2x {i j:Nat} {ty ty':TypeId} {a a' b b':List Value} (h:a=a') (h':b=b'):([(i,⟨ty,true,a⟩),(j,⟨ty',true,b⟩)]:List Var)=[(i,⟨ty,true,a'⟩),(j,⟨ty',true,b'⟩)]:=by rw [h,h']
theorem open_row {x:T_Deal} {c:Cer} (hd:DealOk x) (ok:CerOk x c) {q:Nat→Bool} {a:Nat} {i:Int} (hq:∀i,i < x.1.2.1.length→q i=c.has.getD (x.1.2.1.getD i 0).toNat false) (hi:(rowsP q x.1.2.1.length)[a]?=some i):
  (0≤i∧i < x.1.2.1.length)∧∃h:Nat,x.1.2.1.getD i.toNat 0=h∧h < c.seats.length∧∃g,c.got[h]?=some g∧∃m:Nat,(opR x.1.2.1 c.got x.1.1.toNat ((rowsP q x.1.2.1.length).take a)).1.getD h 0=m∧m < g.length:=by
 have him:=rowsP_mem (List.mem_of_getElem? hi)
 have hsl:=ok.sl
 have how:∀j,0≤x.1.2.1.getD j 0:=fun j=>by
  rcases Nat.lt_or_ge j x.1.2.1.length with h | h
  ·rw [List.getD_eq_getElem?_getD,List.getElem?_eq_getElem h]; exact (hd.sch.own _ (List.getElem_mem h)).1
  ·rw [List.getD_eq_getElem?_getD,List.getElem?_eq_none h]; exact Int.le_refl 0
 have hown:∀j,(x.1.2.1.getD j 0).toNat < x.1.1.toNat:=fun j=>by
  have h1:=hd.sch.h1
  rcases Nat.lt_or_ge j x.1.2.1.length with h | h
  ·rw [List.getD_eq_getElem?_getD,List.getElem?_eq_getElem h]; have:=hd.sch.own _ (List.getElem_mem h); show (x.1.2.1[j]).toNat < _; omega
  ·rw [List.getD_eq_getElem?_getD,List.getElem?_eq_none h]; show (0:Int).toNat < _; omega
 refine ⟨him,(x.1.2.1.getD i.toNat 0).toNat,by have:=how i.toNat; omega,by have:=hown i.toNat; omega,?_⟩
 have hl:(x.1.2.1.getD i.toNat 0).toNat < c.got.length:=by have:=ok.gl; have:=hown i.toNat; omega
 refine ⟨c.got[(x.1.2.1.getD i.toNat 0).toNat],List.getElem?_eq_getElem hl,_,(opR_ok (got:=c.got) hown ((rowsP q x.1.2.1.length).take a)).2.2 _ (hown i.toNat),?_⟩
 refine Nat.lt_of_lt_of_le (own_lt how hi) ?_
 have hqi:q i.toNat=true:=by
  have:=List.mem_of_getElem? hi
  unfold rowsP at this
  obtain ⟨j,hj,e⟩:=List.mem_map.1 this
  have:=(List.mem_filter.1 hj).2
  rw [show i.toNat=j by omega]
  exact this
 rw [hq _ (by omega)] at hqi
 rcases ok.go _ _ (List.getElem?_eq_getElem hl) with ⟨_,h2⟩ | ⟨h1,_⟩
 ·rw [hqi] at h2; cases h2
 ·rw [h1]; exact Nat.le_refl _
section
variable {S:Ids} {H0:AH}
theorem implOpen {x:T_Deal} {c:Cer} {dcs:List Value} {d:HD} {X:Ids} (hd:DealOk x) (hB:B_Deal x) (ok:CerOk x c) (hh0:Hl HTI [] dcs S H0 X d c) (hD:K_Deal.R S H0 x dcs):
  Spec Tryz.prog S H0 66 [.pointer (some ⟨d.hid,0,none⟩)] (fun v=>v=.tuple #[.int .i64 (rebV x.1 (opG c) (opH x c)),.int .i64 (rebC x.1 (opG c) (opH x c))]):=by
 obtain ⟨a1,c1,a2,c2,a3,c3,a4,c4,rfl,h1,h2,h3,h4⟩:=split2_Deal hD
 refine Spec.of1 Tryz.func66 rfl (by kernel_rfl) rfl (fun H _=>?_)
 have hh:=hh0.on (S':=Low H.n) (A':=H)
 have hc:=hh.cellsH
 have h7:=hd.sch.h7
 have h1s:=hd.sch.h1
 have hsl:=ok.sl
 have hhl:=ok.hl
 have hgl:=ok.gl
 have s1:=h1.up (S':=Low H.n) (H':=H)
 have s2:=h2.up (S':=Low H.n) (H':=H)
 obtain ⟨hb1,hb2⟩:=hh.has
 refine KW.ldF 4 hc rfl rfl rfl rfl rfl rfl rfl rfl rfl ?_
 refine KW.callN1 rfl rfl rfl rfl rfl (marked (by omega) (bool_sl hb1 hb2 rfl (Nat.le_refl _))) (fun v HG SG mG _ _ hv=>?_)
 obtain ⟨ag,cg,rfl,hG⟩:=hv
 have hcG:=hc.up (S':=SG) (H':=HG)
 refine KW.lit rfl rfl rfl rfl rfl rfl rfl rfl rfl rfl [] rfl rfl (fun v hv=>by simp at hv) rfl ?_
 refine KW.ldF 7 hcG rfl rfl rfl rfl rfl rfl rfl rfl rfl ?_
 refine KW.mk1 rfl rfl rfl rfl rfl rfl rfl rfl rfl rfl rfl rfl c.seats.length hsl.symm hsl.symm (by omega) (by show 8*_≤_; omega) ?_
 have sS:=hc.1
 have hha:=hh.hall
 have hGB:=(hG.up (S':=SG) (H':=HG)).sl
 have hgl':(opG c).length≤7:=by have:=markF_len c.has 0; show (markF c.has 0).length≤7; omega
 obtain ⟨Q,hQ⟩:∃Q:Nat,x.1.1=Q:=⟨c.seats.length,hsl.symm⟩
 have hri:Rises 0 ((Q:Int) - 1) (opG c):=markF_rises c.has 0 _ (by omega)
 have hgs:=rises_small hri
 have hbt:bitsOf (opG c) < 256:=Nat.lt_of_lt_of_le (bitsOf_lt (m:=Q) (fun x hx=>by have:=hgs x hx; omega)) (Nat.pow_le_pow_right (by decide) (show Q≤8 by omega))
 have hOw:=hd.sch.own
 have hol:=hd.sch.len
 have hrl:=hd.sch.mat.len
 have sG0:=(inferInstance:On (Low H.n) H SG HG).st d.hid sS
 refine KW.ldP sG0.1 (sG0.2.trans hha.2) rfl rfl rfl rfl rfl (bload_seg (ps:=[.int .i64 x.1.1,.slice a1 x.1.2.1.length c1,.int .i64 x.1.2.2.1,.int .i64 x.1.2.2.2.1,.slice a2 x.1.2.2.2.2.length c2]) rfl rfl rfl (by show 7+5≤15; decide) rfl) ?_
 refine KW.callE rfl rfl rfl rfl rfl (crowdOf (m:=Q) (xs:=opG c) (by omega) (by omega) hgs hGB) (fun _ _=>?_)
 have sG1:=s1.up (S':=SG) (H':=HG)
 have sG2:=s2.up (S':=SG) (H':=HG)
 refine KW.callN1 rfl rfl rfl rfl rfl (rowsHeld x.1.1 x.1.2.2.1 x.1.2.2.2.1 (bitsOf (opG c)) (by omega) (by show x.1.2.1.length≤_; omega) hOw h7 sG1) (fun v HR SR mR _ _ hv=>?_)
 obtain ⟨aR,cR,rfl,hR⟩:=hv
 obtain ⟨R,eR⟩:∃R,rowsG x.1.2.1 (opG c)=R:=⟨_,rfl⟩
 have eR2:rowsP (fun i=>(bitsOf (opG c)).testBit (x.1.2.1.getD i 0).toNat) x.1.2.1.length=R:=eR
 rw [eR2] at hR ⊢
 have hRl:R.length≤20:=by rw [← eR2]; have:=rowsP_len (fun i=>(bitsOf (opG c)).testBit (x.1.2.1.getD i 0).toNat) x.1.2.1.length; omega
 have hR1:=hR.ups (S':=SR) (H':=HR)
 have hcR:=hcG.up (S':=SR) (H':=HR)
 have sR1:=sG1.up (S':=SR) (H':=HR)
 have hhR:=(hh.on (S':=SG) (A':=HG)).on (S':=SR) (A':=HR)
 obtain ⟨g0,gcs,g1,g2,g3⟩:=hhR.got
 have hGo:KI.sl.Sl SR HR (.slice (some ⟨d.gid,0,some 1⟩) c.got.length c.got.length) c.got:=Cl.sl g3 g0 g1 rfl hhR.sx (Nat.le_refl _)
 have hn:x.1.1.toNat=c.seats.length:=by omega
 have hown:∀j,(x.1.2.1.getD j 0).toNat < x.1.1.toNat:=fun j=>by
  rcases Nat.lt_or_ge j x.1.2.1.length with h | h
  ·rw [List.getD_eq_getElem?_getD,List.getElem?_eq_getElem h]; have:=hd.sch.own _ (List.getElem_mem h); show (x.1.2.1[j]).toNat < _; omega
  ·rw [List.getD_eq_getElem?_getD,List.getElem?_eq_none h]; show (0:Int).toNat < _; omega
 refine KW.lpM rfl rfl (fun s:Nat × Nat=>[(0,.pointer (some ⟨d.hid,0,none⟩)),(4,.slice ag (opG c).length cg),(5,.slice (some ⟨s.2,0,some 1⟩) s.1 s.1),(6,.slice (some ⟨HG.n+1,0,some 1⟩) c.seats.length c.seats.length),(32,.slice aR R.length cR),(33,.int .i64 R.length),(34,.int .i64 s.1)]) (fun s=>SR) (fun s=>HR) (fun s=>[(s.2,⟨2,true,(opR x.1.2.1 c.got x.1.1.toNat (R.take s.1)).2.map (Value.int .i64)⟩),(HG.n+1,⟨3,true,(opR x.1.2.1 c.got x.1.1.toNat (R.take s.1)).1.map (Value.int .i64)⟩)]) (fun s=>s.1≤R.length) (fun s=>R.length - s.1) ((0,HG.n)) (Nat.zero_le _) ⟨rfl,rfl,rfl,rfl,rfl,rfl,rfl,trivial⟩ rfl rfl (by simp [opR,hn]) (fun s hi bE n=>?_)
 obtain ⟨a,o⟩:=s
 simp only at hi
 refine KW.cnd rfl rfl (fun k1=>?_) (fun k1=>?_)
 ·have k1:(a:Int) < (R.length:Int):=k1
  refine KW.getI hR1 rfl rfl rfl rfl rfl rfl rfl rfl rfl rfl rfl rfl rfl rfl rfl rfl (by omega) (k1) (fun i hi2=>?_)
  have hi2:R[a]?=some i:=hi2
  obtain ⟨him,h,e1,e2,gr,e3,m,e4,e5⟩:=open_row (q:=fun i=>(bitsOf (opG c)).testBit (x.1.2.1.getD i 0).toNat) hd ok (fun j hj=>opG_bits ok h7 (by have:=hown j; omega)) (a:=a) (i:=i) (by rw [eR2]; exact hi2)
  rw [eR2] at e4
  refine KW.ldF 8 hcR rfl rfl rfl rfl rfl rfl rfl rfl rfl ?_
  refine KW.getI sR1 rfl rfl rfl rfl rfl rfl rfl rfl rfl rfl rfl rfl rfl rfl rfl rfl (him.1) (him.2) (fun h' hh'=>?_)
  have hh':x.1.2.1[i.toNat]?=some h':=hh'
  rw [List.getD_eq_getElem?_getD,hh'] at e1
  have e1:h'=(h:Int):=e1
  subst e1
  obtain ⟨rs,ers⟩:∃rs,opR x.1.2.1 c.got x.1.1.toNat (R.take a)=rs:=⟨_,rfl⟩
  have rok:=opR_ok (got:=c.got) hown (R.take a)
  rw [ers] at rok e4
  obtain ⟨F,hl⟩:=rs
  simp only at rok e4
  have hFl:=rok.1
  have hll:hl.length=a:=by have:=rok.2.1; rw [List.length_take] at this; omega
  have ers2:opR x.1.2.1 c.got x.1.1.toNat (R.take (a+1))=(F.set h ((m:Int)+1),hl++[gr.getD m 0]):=by
   have et:R.take (a+1)=R.take a++[i]:=by rw [List.take_add_one,hi2]; rfl
   rw [et,opR_snoc,ers]
   have q1:(x.1.2.1.getD i.toNat 0).toNat=h:=by rw [List.getD_eq_getElem?_getD,hh']; exact Int.toNat_natCast h
   have q2:c.got.getD h []=gr:=by rw [List.getD_eq_getElem?_getD,e3]; rfl
   simp only [opS,q1,e4,q2,Int.toNat_natCast]
  refine KW.ldF 3 hcR rfl rfl rfl rfl rfl rfl rfl rfl rfl ?_
  refine KW.getL hGo rfl rfl rfl rfl rfl rfl rfl rfl rfl rfl rfl rfl rfl rfl rfl rfl (by omega) (by omega) (fun gr2 ar cr hg2 hsg=>?_)
  have hg2:c.got[h]?=some gr2:=hg2
  rw [e3] at hg2
  cases hg2
  refine KW.idx0 rfl rfl rfl rfl rfl rfl rfl rfl rfl (by omega) (by omega) ?_
  refine KW.ldI 1 (h) rfl rfl rfl rfl rfl rfl rfl rfl (by omega) (by simp only [ers]; omega) ?_
  refine KW.getI hsg rfl rfl rfl rfl rfl rfl rfl rfl rfl rfl rfl rfl rfl rfl rfl rfl (by simp only [ers,e4]; omega) (by simp only [ers,e4]; omega) (fun z hz=>?_)
  have hz:gr[m]?=some z:=by simpa only [ers,e4,Int.toNat_natCast] using hz
  have hzD:gr.getD m 0=z:=by rw [List.getD_eq_getElem?_getD,hz]; rfl
  refine KW.app1 (xs:=(opR x.1.2.1 c.got x.1.1.toNat (R.take a)).2.map (Value.int .i64)) (v:=.int .i64 z) 0 2 rfl rfl rfl rfl rfl rfl rfl rfl rfl rfl rfl rfl rfl rfl rfl rfl rfl rfl rfl rfl rfl rfl rfl (by simp only [ers,List.length_map]; exact hll) (by show (a+1)*8≤_; omega) (by show a+1≤_; omega) ?_
  refine KW.idx0 rfl rfl rfl rfl rfl rfl rfl rfl rfl (by omega) (by omega) ?_
  refine KW.ldI 1 (h) rfl rfl rfl rfl rfl rfl rfl rfl (by omega) (by simp only [ers]; omega) ?_
  refine KW.idx0 rfl rfl rfl rfl rfl rfl rfl rfl rfl (by omega) (by omega) ?_
  refine KW.stI 1 (h) rfl rfl rfl rfl rfl rfl rfl rfl rfl (by omega) (by simp only [ers]; omega) ?_
  have hA:(opR x.1.2.1 c.got x.1.1.toNat (R.take a)).2.map (Value.int .i64)++[.int .i64 z]=(opR x.1.2.1 c.got x.1.1.toNat (R.take (a+1))).2.map (Value.int .i64):=by rw [ers,ers2,hzD]; simp
  have hgl9:gr.length≤20:=by
   rcases ok.go h gr e3 with ⟨e,_⟩ | ⟨e,_⟩
   ·rw [e]; exact Nat.zero_le _
   ·have:=rows20 hd h; omega
  have hF:((opR x.1.2.1 c.got x.1.1.toNat (R.take a)).1.set h (IntKind.i64.wrap ((opR x.1.2.1 c.got x.1.1.toNat (R.take a)).1.getD h 0+1))).map (Value.int .i64)=(opR x.1.2.1 c.got x.1.1.toNat (R.take (a+1))).1.map (Value.int .i64):=by
   rw [ers,ers2]
   simp only
   rw [e4,wr (by omega) (by omega)]
  refine KW.nxt rfl rfl (fun H' g=>⟨(a+1,_),by simp only; omega,by first | omega | (simp only; omega),⟨rfl,rfl,rfl,rfl,rfl,rfl,congrArg (Value.int .i64) (inc64 (by omega)),trivial⟩,g.eqT (T2x hA hF)⟩)
 ·have k1:¬(a:Int) < (R.length:Int):=k1
  obtain rfl:a=R.length:=by omega
  rw [List.take_length]
  have eH:opH x c=(opR x.1.2.1 c.got x.1.1.toNat R).2:=by unfold opH; rw [eR]
  have rok:=opR_ok (got:=c.got) hown R
  have hHl:(opH x c).length=R.length:=by rw [eH]; exact rok.2.1
  have sR0:=(inferInstance:On SG HG SR HR).st d.hid sG0.1
  refine KW.ldP sR0.1 (sR0.2.trans (sG0.2.trans hha.2)) rfl rfl rfl rfl rfl (bload_seg (ps:=[.int .i64 x.1.1,.slice a1 x.1.2.1.length c1,.int .i64 x.1.2.2.1,.int .i64 x.1.2.2.2.1,.slice a2 x.1.2.2.2.2.length c2]) rfl rfl rfl (by show 7+5≤15; decide) rfl) ?_
  have sR2:=sG2.up (S':=SR) (H':=HR)
  have hGR:=hGB.up (S':=SR) (H':=HR)
  refine KW.callV1 rfl rfl rfl rfl rfl (v:=.tuple #[.int .i64 (rebV x.1 (opG c) (opH x c)),.int .i64 (rebC x.1 (opG c) (opH x c))]) (fun H1 g _=>?_) (fun n7 m7=>?_)
  ·have key:=rebuild (S:=Low H1.n) (H0:=H1) x.1.1 x.1.2.2.1 x.1.2.2.2.1 x.1.2.1 (opG c) (opH x c) x.1.2.2.2.2 (a1:=a1) (c1:=c1) (a2:=a2) (c2:=c2) (a3:=ag) (c3:=cg) (a4:=some ⟨o,0,some 1⟩) (c4:=R.length) hB.1 (by show (opG c).length≤_; omega) (by show (opH x c).length≤_; omega) sR1.up sR2.up hGR.up (by
    have hb:=g.blk (j:=0) rfl
    have hm:H1.m o=some ⟨2,true,(opH x c).map (Value.int .i64)⟩:=by rw [eH]; exact hb.1
    have h1:=(row_ml hm).sl
    rw [hHl] at h1 ⊢
    exact h1.more (fun id h=>by rw [h]; exact hb.2))
   rw [hHl] at key
   exact key
  ·refine KW.retM1 rfl rfl rfl rfl (fun H1 g=>rfl)
end
section
variable {S:Ids} {H0:AH}
end
theorem filter_at {α:Type} {q:α→Bool}:∀(l:List α) {a:Nat} {x:α},l[a]?=some x→q x=true→(l.filter q)[(l.take a).countP q]?=some x
 | [],_,_,h,_=>by simp at h
 | y :: l,0,x,h,hq=>by
  cases h
  rw [List.filter_cons_of_pos hq]
  rfl
 | y :: l,a+1,x,h,hq=>by
  have ih:=filter_at l (a:=a) (x:=x) h hq
  rw [List.take_succ_cons,List.countP_cons,List.filter_cons]
  split
  ·rename_i hy
   rw [List.getElem?_cons_succ]
   exact ih
  ·rename_i hy
   exact ih
noncomputable def opensF (x:T_Scheme) (g:List Int):Bool:=(comb x.2.2.1 (heldR x.2.1 x.2.2.2.2 (bitsOf g)) (unitL x.2.2.2.1.toNat)).isSome
def sharesG (p:Int) (rows:List (List Int)) (all:List Int) (R:List Int):List Int:=R.map fun i=>(shares p rows all).getD i.toNat 0
theorem shares_at {p:Int} {rows:List (List Int)} {all:List Int} {i:Nat} (h:i < rows.length):(shares p rows all).getD i 0=dotS p (rows.getD i []) all:=by
 unfold shares
 rw [List.getD_eq_getElem?_getD,List.getD_eq_getElem?_getD,List.getElem?_map,List.getElem?_eq_getElem h]
 rfl
theorem codeH_of {x:T_Scheme} {g held:List Int} (hk:SchOk x) (hg:Rises 0 (x.1 - 1) g) (hl:held.length=(rowsG x.2.1 g).length) (he:Elems x.2.2.1 held):codeH x g held=0:=by
 have hs:codeS x g=0:=by unfold codeS; rw [if_pos (tv_true hk),if_pos (tv_true hg)]
 unfold codeH
 rw [if_pos hs,if_pos (tv_true ⟨hl,he⟩)]
theorem reb_none {x:T_Scheme} {g held:List Int} (hc:codeH x g held=0) (ho:opensF x g=false):rebC x g held=6:=by
 unfold rebC
 rw [if_pos hc,if_pos]
 unfold opensF at ho
 cases h:comb x.2.2.1 (heldR x.2.1 x.2.2.2.2 (bitsOf g)) (unitL x.2.2.2.1.toNat) with
 | none=>rfl
 | some _=>rw [h] at ho; cases ho
theorem held_fits {x:T_Scheme} {g all held:List Int} {k:Nat} (hk:SchOk x) (ek:x.2.2.2.1=((k+1:Nat):Int)) (ha:all.length=k+1) (hh:held=sharesG x.2.2.1 x.2.2.2.2 all (rowsG x.2.1 g)):
  ∀(i:Nat) r v,(heldR x.2.1 x.2.2.2.2 (bitsOf g))[i]?=some r→held[i]?=some v→Cg x.2.2.1 (dF r 0 all) v:=by
 have hk':OkSch x.1 x.2.1 x.2.2.1 x.2.2.2.1 x.2.2.2.2:=hk
 intro i r v hr hv
 subst hh
 have hr:(selR x.2.2.2.2 (rowsG x.2.1 g))[i]?=some r:=hr
 unfold selR at hr
 unfold sharesG at hv
 rw [List.getElem?_map] at hr hv
 obtain ⟨q,hq,rfl⟩:=Option.map_eq_some_iff.1 hr
 rw [hq] at hv
 have hv:(shares x.2.2.1 x.2.2.2.2 all).getD q.toNat 0=v:=Option.some.inj hv
 have hqb:=held_in hk' (q:=fun i=>(bitsOf g).testBit (x.2.1.getD i 0).toNat) q (List.mem_of_getElem? hq)
 rw [shares_at (by omega)] at hv
 have hrl:((x.2.2.2.2.getD q.toNat []).length:Int)=x.2.2.2.1:=(hk'.mat.row _ (by
  rw [List.getD_eq_getElem?_getD,List.getElem?_eq_getElem (show q.toNat < x.2.2.2.2.length by omega)]
  exact List.getElem_mem _)).1
 rw [← hv,dotS_dF (by omega)]
 exact Cg.mod.symm
theorem sharesG_in {p:Int} {rows:List (List Int)} {all R:List Int} (hp:PrimeP p):Elems p (sharesG p rows all R):=fun v hv=>by
 obtain ⟨i,_,rfl⟩:=List.mem_map.1 hv
 exact elem_at (shares_in hp) hp.1 _
theorem reb_right {x:T_Scheme} {g all held:List Int} {k:Nat} (hk:SchOk x) (hg:Rises 0 (x.1 - 1) g) (ek:x.2.2.2.1=((k+1:Nat):Int)) (ha:all.length=k+1) (he:Elems x.2.2.1 all) (hh:held=sharesG x.2.2.1 x.2.2.2.2 all (rowsG x.2.1 g)) (ho:opensF x g=true):
  rebC x g held=0∧rebV x g held=all.getD 0 0:=by
 have hk':OkSch x.1 x.2.1 x.2.2.1 x.2.2.2.1 x.2.2.2.2:=hk
 have hp:=hk'.mat.pr
 have hf:=fer hp
 have hp2:=hp.1
 have fits:=held_fits (g:=g) hk ek ha hh
 have hei:Elems x.2.2.1 held:=by rw [hh]; exact sharesG_in hp
 have hl:held.length=(rowsG x.2.1 g).length:=by rw [hh]; unfold sharesG; rw [List.length_map]
 have hc:=codeH_of hk hg hl hei
 have hu:=unitL_in (p:=x.2.2.1) hp2 (show 1≤k+1 by omega)
 have hL:Rect x.2.2.1 (k+1) (heldR x.2.1 x.2.2.2.2 (bitsOf g)):=held_rect hk' ek
 have hhL:held.length=(heldR x.2.1 x.2.2.2.2 (bitsOf g)).length:=by rw [hl]; unfold heldR rowsG; rw [selR_len]
 have hn:k+1∉(ech x.2.2.1 (augW (heldR x.2.1 x.2.2.2.2 (bitsOf g)) held) (k+1+1)).2:=sol_none hf (augW_rect hL (fun v hv=>by have:=hei v hv; omega)) ha ((allS_aug (fun r hr=>(hL r hr).1) hhL ha).2 fits)
 unfold opensF at ho
 rw [ek,Int.toNat_natCast] at ho
 cases hcb:comb x.2.2.1 (heldR x.2.1 x.2.2.2.2 (bitsOf g)) (unitL (k+1)) with
 | none=>rw [hcb] at ho; cases ho
 | some cs=>
  obtain ⟨⟨h1,h2⟩,h3⟩:=comb_sound hf hL hu hcb
  have e0:rebC x g held=0:=by
   unfold rebC
   rw [if_pos hc,ek,Int.toNat_natCast,hcb,if_neg (by simp),if_neg hn]
  refine ⟨e0,?_⟩
  unfold rebV
  rw [if_pos e0,ek,Int.toNat_natCast,hcb]
  show dotS x.2.2.1 cs held=_
  rw [dotS_dF (by omega)]
  have e1:=dF_dL cs held [] (by omega)
  simp only [List.nil_append,List.length_nil] at e1
  rw [e1]
  have key:Cg x.2.2.1 (dL cs held) (all.getD 0 0):=by
   refine (val_lc _ cs held hhL.symm fits).trans ?_
   rw [← unit_dF0 ha,wS_dF]
   exact wS_cg (fun j=>h3 j) all 0
  rw [key.emod]
  have h0:=elem_at he hp2 0
  exact Int.emod_eq_of_lt h0.1 (by omega)
section
variable {x:T_Deal} {c:Cer}
theorem opH_len (hd:DealOk x) (hn:∀i,(x.1.2.1.getD i 0).toNat < x.1.1.toNat):(opH x c).length=(rowsG x.1.2.1 (opG c)).length:=(opR_ok (got:=c.got) hn _).2.1
theorem own_at (hd:DealOk x) (i:Nat):0≤x.1.2.1.getD i 0∧(x.1.2.1.getD i 0).toNat < x.1.1.toNat:=by
 have h1:=hd.sch.h1
 rcases Nat.lt_or_ge i x.1.2.1.length with h | h
 ·have:=hd.sch.own (x.1.2.1.getD i 0) (by rw [List.getD_eq_getElem?_getD,List.getElem?_eq_getElem h]; exact List.getElem_mem _)
  omega
 ·rw [List.getD_eq_getElem?_getD,List.getElem?_eq_none h]
  show 0≤(0:Int)∧(0:Int).toNat < _
  omega
theorem opR_at {ow:List Int} {got:List (List Int)} {n:Nat} (hn:∀i,(ow.getD i 0).toNat < n):∀(m:Nat) (rs:List Int),rs.length=m→∀(a:Nat) i,rs[a]?=some i→(opR ow got n rs).2[a]?=some ((got.getD (ow.getD i.toNat 0).toNat []).getD (ownC ow (ow.getD i.toNat 0).toNat (rs.take a)) 0)
 | 0,rs,e,a,i,h=>by rw [List.eq_nil_of_length_eq_zero e] at h; simp at h
 | m+1,rs,e,a,i,h=>by
  obtain ⟨rs',z,rfl⟩:∃rs' z,rs=rs'++[z]:=by
   have:=List.dropLast_concat_getLast (l:=rs) (by intro h0; rw [h0] at e; cases e)
   exact ⟨_,_,this.symm⟩
  have e':rs'.length=m:=by simpa using e
  rw [opR_snoc]
  unfold opS
  simp only
  have hl:=(opR_ok (got:=got) hn rs').2.1
  rcases Nat.lt_or_ge a rs'.length with ha | ha
  ·rw [List.getElem?_append_left ha] at h
   rw [List.getElem?_append_left (by omega),List.take_append_of_le_length (by omega)]
   exact opR_at hn m rs' e' a i h
  ·have ea:a=rs'.length:=by
    have:=(List.getElem?_eq_some_iff.1 h).1
    simp at this
    omega
   subst ea
   rw [List.getElem?_append_right (Nat.le_refl _),Nat.sub_self] at h
   have h:z=i:=Option.some.inj h
   subst h
   rw [List.getElem?_append_right (by omega),hl,Nat.sub_self]
   rw [(opR_ok (got:=got) hn rs').2.2 _ (hn _)]
   rw [List.take_append_of_le_length (Nat.le_refl _),List.take_length,Int.toNat_natCast]
   rfl
theorem opH_in (hd:DealOk x) (ok:CerOk x c):Elems x.1.2.2.1 (opH x c):=fun v hv=>by
 obtain ⟨a,ha⟩:=List.getElem?_of_mem hv
 have hlt:=(List.getElem?_eq_some_iff.1 ha).1
 rw [opH_len hd (fun i=>(own_at hd i).2)] at hlt
 have h1:=opR_at (got:=c.got) (fun i=>(own_at hd i).2) _ (rowsG x.1.2.1 (opG c)) rfl a _ (List.getElem?_eq_getElem hlt)
 have ha:(opR x.1.2.1 c.got x.1.1.toNat (rowsG x.1.2.1 (opG c))).2[a]?=some v:=ha
 rw [ha] at h1
 rw [Option.some.inj h1]
 refine elem_at ?_ hd.prime.1 _
 rw [List.getD_eq_getElem?_getD]
 cases hg:c.got[(x.1.2.1.getD ((rowsG x.1.2.1 (opG c))[a]).toNat 0).toNat]? with
 | none=>intro z hz; cases hz
 | some gr=>
  rcases ok.go _ gr hg with ⟨e,_⟩ | ⟨_,e⟩
  ·intro z hz; rw [Option.getD_some,e] at hz; cases hz
  ·exact e
theorem opG_rises (hd:DealOk x) (ok:CerOk x c):Rises 0 (x.1.1 - 1) (opG c):=markF_rises c.has 0 _ (by have:=ok.hl; have:=ok.sl; omega)
theorem opH_code (hd:DealOk x) (ok:CerOk x c):codeH x.1 (opG c) (opH x c)=0:=codeH_of hd.sch (opG_rises hd ok) (opH_len hd (fun i=>(own_at hd i).2)) (opH_in hd ok)
theorem opH_right {e:Int} (hd:DealOk x) (ok:CerOk x c) (h:∀j:Nat,c.has.getD j false=true→c.got.getD j []=valsD x e j):opH x c=sharesG x.1.2.2.1 x.1.2.2.2.2 (x.2.1 :: blD x e) (rowsG x.1.2.1 (opG c)):=by
 have h7:=hd.sch.h7
 refine List.ext_getElem? fun a=>?_
 unfold sharesG
 rw [List.getElem?_map]
 rcases Nat.lt_or_ge a (rowsG x.1.2.1 (opG c)).length with hlt | hge
 ·obtain ⟨i,hi⟩:∃i,(rowsG x.1.2.1 (opG c))[a]?=some i:=⟨_,List.getElem?_eq_getElem hlt⟩
  rw [hi]
  have h1:=opR_at (got:=c.got) (fun i=>(own_at hd i).2) _ (rowsG x.1.2.1 (opG c)) rfl a _ hi
  show (opR x.1.2.1 c.got x.1.1.toNat (rowsG x.1.2.1 (opG c))).2[a]?=_
  rw [h1]
  have hm:=rowsP_in.1 (List.mem_of_getElem? hi)
  obtain ⟨m0,m1,m2⟩:=hm
  have ho:=own_at hd i.toNat
  obtain ⟨w,hw⟩:∃w,x.1.2.1.getD i.toNat 0=w:=⟨_,rfl⟩
  rw [hw] at m2 ho ⊢
  have hb:=opG_bits ok h7 (j:=w.toNat) (by omega)
  rw [m2] at hb
  rw [h _ hb.symm]
  show some ((valsOf _ _ _ _ _ _).getD _ 0)=some _
  unfold valsOf
  congr 1
  have key:(rowsOf x.1.2.1 (w.toNat:Nat))[ownC x.1.2.1 w.toNat ((rowsG x.1.2.1 (opG c)).take a)]?=some i:=by
   have e1:rowsOf x.1.2.1 (w.toNat:Nat)=(rowsG x.1.2.1 (opG c)).filter fun i=>decide ((x.1.2.1.getD i.toNat 0).toNat=w.toNat):=by
    unfold rowsOf rowsG rowsP
    rw [List.filter_map,List.filter_filter]
    refine congrArg (List.map _) (List.filter_congr fun z hz=>?_)
    have oz:=own_at hd z
    simp only [Function.comp,Int.toNat_natCast]
    by_cases e:x.1.2.1.getD z 0=(w.toNat:Int)
    ·rw [decide_eq_true e,decide_eq_true (by rw [e]; rfl),e,Int.toNat_natCast,m2]; rfl
    ·rw [decide_eq_false e,decide_eq_false (by omega)]; rfl
   rw [e1]
   exact filter_at _ hi (decide_eq_true (by rw [hw]))
  rw [List.getD_eq_getElem?_getD,List.getElem?_map,key]
  rfl
 ·rw [List.getElem?_eq_none hge]
  exact List.getElem?_eq_none (by rw [opH_len hd (fun i=>(own_at hd i).2)]; exact hge)
end
end Go.Proofs.YtlapbbffoapleaaGreat.Am
namespace Go.Proofs.YtlapbbffoapleaaGreat.Am
open Go Go.RowKit Go.Proofs
section
variable {S:Ids} {H0:AH} {W:Ids} {a a':Option Addr} {c c':Nat} {left k:Int}
end
section
variable {P:Program} {S:Ids} {H0:AH} {Q:PostC} {k k1:List It} {e e1:Env} {T T1:List Var} {n n1:Nat} {l1 r1:List Nat} {d1:Tmp}
end
def MkDC (l:List T_Deed) (code:Int) (n:Nat) (v:Value) (H1:AH):Prop:=∃a c,v=.tuple #[.slice a l.length c,.int .i64 code]∧M_DeedS.R (New n H1.n) H1 l [.slice a l.length c]
theorem MkDC.nil {code:Int} {n:Nat} {H1:AH} {v:Value} (hv:v=.tuple #[.slice none 0 0,.int .i64 code]):MkDC [] code n v H1:=⟨none,0,hv,ml1' (.inl ⟨rfl,_,_,rfl,fun _=>rfl⟩)⟩
section
variable {S:Ids} {H0:AH} {x:T_Deal} {ds:T_DeedS} {g:List Int} {dcs:List Value}
end
end Go.Proofs.YtlapbbffoapleaaGreat.Am
namespace Go.Proofs.YtlapbbffoapleaaGreat.Am
open Go Go.RowKit Go.Proofs Go.Proofs.YtlapbbffoapleaaGreat.Pl
section
variable {x:T_Deal} {c:Cer} {d:T_Deed} {DS:List T_Deed}
noncomputable def fullP (x:T_Deal) (ep h:Int):T_Purse:=(ep,valsD x ep h,tagsD x ep h (valsD x ep h))
structure PackR (x:T_Deal) (c:Cer) (h:Int) (c':Cer):Prop where
 ep:c'.ep=c.ep
 wi:c'.wire=[]
 se:c'.seats=c.seats.set h.toNat (fullP x c.ep h,fullP x c.ep h,0)
 oe:c'.oe=c.ep
 nm:c'.named=c.named
 hs:c'.has.getD h.toNat false=true
 mo:c.oe=c.ep→∀j,c.has.getD j false=true→c'.has.getD j false=true
structure GathR (x:T_Deal) (c:Cer) (g:List Int) (c':Cer):Prop where
 ep:c'.ep=c.ep
 wi:c'.wire=[]
 nm:c'.named=c.named
 sl:c'.seats.length=c.seats.length
 hs:∀h∈g,c'.has.getD h.toNat false=true
 mo:c.oe=c.ep→∀j,c.has.getD j false=true→c'.has.getD j false=true
 pu:∀h∈g,c'.seat h=(fullP x c.ep h,fullP x c.ep h,0)
 st:∀h,HoOk x h→c'.seat h=c.seat h∨c'.seat h=(fullP x c.ep h,fullP x c.ep h,0)
theorem open_right {e:Int} (hd:DealOk x) (ok:CerOk x c) (he:EpOk x e) (h:∀j:Nat,c.has.getD j false=true→c.got.getD j []=valsD x e j) (ho:opensF x.1 (opG c)=true):rebC x.1 (opG c) (opH x c)=0∧rebV x.1 (opG c) (opH x c)=x.2.1:=by
 have hk:=hd.sch
 have h1:=hk.h1
 obtain ⟨E,J,hAt⟩:=HoOk.at hd (e:=e) (a:=0) ⟨Int.le_refl _,by omega⟩ he
 obtain ⟨k,ek⟩:∃k:Nat,x.1.2.2.2.1=((k+1:Nat):Int):=⟨x.1.2.2.2.1.toNat - 1,by have:=hk.c1; omega⟩
 have hb:=hAt.bl
 exact reb_right (all:=x.2.1 :: blD x e) hd.sch (opG_rises hd ok) ek (by simp only [List.length_cons]; omega) (elems_cons hAt.sec hb.2) (opH_right hd ok h) ho
end
end Go.Proofs.YtlapbbffoapleaaGreat.Am
namespace Go.Proofs.YtlapbbffoapleaaGreat.Am
open Go Go.RowKit Go.Proofs
structure CerS (c:Cer):Prop where
 sl:c.seats.length≤1048576
 se:∀s∈c.seats,(s.1.2.1.length≤1048576∧s.1.2.2.length≤1048576)∧(s.2.1.2.1.length≤1048576∧s.2.1.2.2.length≤1048576)
 gl:c.got.length≤1048576
 go:∀g∈c.got,g.length≤1048576
 hl:c.has.length=c.got.length
 nl:c.named.length=c.got.length
 wl:c.wire.length≤1048576
 wi:∀p∈c.wire,p.2.2.2.1.length≤1048576∧p.2.2.2.2.length≤1048576
theorem CerOk.small {x:T_Deal} {c:Cer} (hd:DealOk x) (ok:CerOk x c):CerS c:=by
 have h7:=hd.sch.h7
 have r20:=fun j=>rows20 hd j
 have pu:∀{h:Int} {p:T_Purse},PuOk x h p→p.2.1.length≤1048576∧p.2.2.length≤1048576:=fun {h p} hp=>by
  rcases hp with ⟨_,e1,e2⟩ | ⟨_,r⟩
  ·rw [e1,e2]; exact ⟨Nat.zero_le _,Nat.zero_le _⟩
  ·have:=r.vl; have:=r.tl; have:=r20 h; omega
 refine ⟨by have:=ok.sl; omega,fun s hs=>?_,by have:=ok.sl; have:=ok.gl; omega,fun g hg=>?_,by rw [ok.hl,ok.gl],by rw [ok.nl,ok.gl],by have:=ok.wl; omega,fun p hp=>?_⟩
 ·obtain ⟨j,hj⟩:=List.getElem?_of_mem hs
  have:=ok.se j s hj
  exact ⟨pu this.pu,pu this.sa⟩
 ·obtain ⟨j,hj⟩:=List.getElem?_of_mem hg
  rcases ok.go j g hj with ⟨e,_⟩ | ⟨e,_⟩
  ·rw [e]; exact Nat.zero_le _
  ·have:=r20 j; omega
 ·have:=(ok.wi p hp).rw
  have h1:=this.vl
  have h2:=this.tl
  have:=r20 p.2.1
  omega
section
variable {S:Ids} {H0:AH}
end
section
variable {S:Ids} {H0:AH} {x:T_Deal} {ds:List T_Deed} {dcs:List Value}
end
end Go.Proofs.YtlapbbffoapleaaGreat.Am
namespace Go.Proofs.YtlapbbffoapleaaGreat.Am
open Go Go.RowKit Go.Proofs Go.Proofs.YtlapbbffoapleaaGreat.Pl
def IsLie (x:T_Deal) (h:Int) (d:T_Deed):Prop:=d.1=6∧d.2.1=h∧d.2.2≠0∧d.2.2 < x.1.2.2.1
def NoPass (x:T_Deal) (h:Int) (e:Nat) (l:Int):Prop:=∀e':Nat,e' < e→l∉passN x e' h x.1.2.2.1.toNat
def HonH (x:T_Deal) (ds:List T_Deed) (h:Int):Prop:=∀d∈ds,IsLie x h d→NoPass x h x.2.2.1.length d.2.2
def HonA (x:T_Deal) (ds:List T_Deed) (n:Nat):Prop:=∀h:Nat,h < n→HonH x ds h
section
variable {x:T_Deal} {ds:List T_Deed}
theorem named_lied (hd:DealOk x) (hdp:∀d∈ds,DeedP d) {h:Int} (hm:h∈markF (behind x ds).named 0):∃d∈ds,IsLie x h d:=by
 have tr:TruC x ds (behind x ds):=TruC.play hd ds (fun d hm=>⟨hdp d hm,hm⟩) (CerOk.start hd) (TruC.start _)
 have h1:=(markF_mem _ _ _).1 hm
 rw [Int.sub_zero] at h1
 obtain ⟨l,hl,h0,hp⟩:=tr.nm _ h1.2
 rw [show ((h.toNat:Nat):Int)=h from by omega] at hl
 exact ⟨_,hl,rfl,rfl,by show l≠0; omega,hp⟩
theorem honest_open (hd:DealOk x) (hdp:∀d∈ds,DeedP d) (hon:HonA x ds x.1.1.toNat) (ho:opensF x.1 (opG (behind x ds))=true):rebC x.1 (opG (behind x ds)) (opH x (behind x ds))=0∧rebV x.1 (opG (behind x ds)) (opH x (behind x ds))=x.2.1:=by
 have ok:=behind_ok hd hdp
 have tr:TruC x ds (behind x ds):=TruC.play hd ds (fun d hm=>⟨hdp d hm,hm⟩) (CerOk.start hd) (TruC.start _)
 obtain ⟨c,ec⟩:∃c,behind x ds=c:=⟨_,rfl⟩
 rw [ec] at ok tr ho ⊢
 have hbl:=hd.bl
 have h1:=hd.sch.h1
 have hp2:=hd.prime.1
 obtain ⟨e,he,eb,ek⟩:∃e:Nat,EpOk x e∧blD x c.oe=blD x e∧kkD x c.oe=kkD x e:=by
  rcases ok.oe with h | h
  ·refine ⟨0,⟨by omega,by omega⟩,?_,?_⟩
   ·rw [h]; rfl
   ·rw [h]; rfl
  ·have h2:=h.1
   have h3:=h.2
   refine ⟨c.oe.toNat,⟨by omega,by omega⟩,?_,?_⟩
   ·show x.2.2.1.getD c.oe.toNat []=x.2.2.1.getD (((c.oe.toNat:Nat):Int)).toNat []
    rw [Int.toNat_natCast]
   ·show x.2.2.2.getD c.oe.toNat []=x.2.2.2.getD (((c.oe.toNat:Nat):Int)).toNat []
    rw [Int.toNat_natCast]
 have ev:∀j:Int,valsD x c.oe j=valsD x e j:=fun j=>by unfold valsD; rw [eb]
 have et:∀(j:Int) vs,tagsD x c.oe j vs=tagsD x e j vs:=fun j vs=>by unfold tagsD; rw [ek]
 have hgot:∀j:Nat,c.has.getD j false=true→c.got.getD j []=valsD x e j:=fun j hj=>by
  have hjl:j < c.has.length:=by
   refine Classical.byContradiction fun hn=>?_
   rw [List.getD_eq_getElem?_getD,List.getElem?_eq_none (by omega)] at hj
   cases hj
  have hhl:=ok.hl
  have hsl:=ok.sl
  obtain ⟨l,hl,hv,ht⟩:=tr.hs j hj
  rcases hl with hl | ⟨hl,l0,lp⟩
  ·rw [hv,hl,lie_zero (vals_el hd _ _),ev]
  ·exfalso
   refine hon j (by omega) _ hl ⟨rfl,rfl,by show l≠0; omega,lp⟩ e (by have:=he.2; omega) ?_
   refine (pass_in ⟨by show 0≤l; omega,by show l < _; omega⟩).2 ?_
   show tagsD x e j (lieOf x.1.2.2.1 (valsD x e j) l)=_
   rw [ev,et,et] at ht
   exact ht
 exact open_right hd ok he hgot ho
theorem closed_open (hd:DealOk x) (hdp:∀d∈ds,DeedP d) (ho:opensF x.1 (opG (behind x ds))=false):rebC x.1 (opG (behind x ds)) (opH x (behind x ds))=6:=reb_none (opH_code hd (behind_ok hd hdp)) ho
end
section
variable {S:Ids} {H0:AH}
theorem opensS {x:T_Scheme} {b:Nat} (hb:b < 256) (hk:SchOk x) (hB:B_Scheme x) {a1 c1 a2 c2} (h1:KI.Sl S H0 (.slice a1 x.2.1.length c1) x.2.1) (h2:KI.sl.Sl S H0 (.slice a2 x.2.2.2.2.length c2) x.2.2.2.2):
  Spec Tryz.prog S H0 64 [.agg #[.int .i64 x.1,.slice a1 x.2.1.length c1,.int .i64 x.2.2.1,.int .i64 x.2.2.2.1,.slice a2 x.2.2.2.2.length c2],.int .u64 (b:Int)] (fun v=>v=.bool (comb x.2.2.1 (heldR x.2.1 x.2.2.2.2 b) (unitL x.2.2.2.1.toNat)).isSome):=by
 obtain ⟨h',ow,p,c,rows⟩:=x
 refine Spec.of1 Tryz.func64 rfl (by kernel_rfl) rfl (fun H _=>?_)
 have s1:KI.Sl (Low H.n) H (.slice a1 ow.length c1) ow:=h1.up
 have s2:KI.sl.Sl (Low H.n) H (.slice a2 rows.length c2) rows:=h2.up
 have hk:OkSch h' ow p c rows:=hk
 obtain ⟨k,rfl⟩:∃k:Nat,c=((k+1:Nat):Int):=⟨c.toNat - 1,by have:=hk.c1; omega⟩
 have hpr:=hk.mat.pr
 have hp2:=hpr.1
 have hk12:=hk.mat.c1
 have hO:B_Int64S ow:=hB.2.1
 have hBr:B_Int64SS rows:=hB.2.2.2.2
 refine KW.callN1 rfl rfl rfl rfl rfl (Am.held h' p ((k+1:Nat):Int) b (by omega) hO hBr hk s1 s2) (fun v HM SM mM _ _ hv=>?_)
 obtain ⟨am,cm,rfl,hM⟩:=hv
 have hM:=hM.up (S':=SM) (H':=HM)
 have hLr:Rect p (k+1) (heldR ow rows b):=held_rect hk rfl
 have hLl:(heldR ow rows b).length≤20:=held_len hk
 show KW _ _ _ _ _ _ _ _
 obtain ⟨L,eL⟩:∃L,heldR ow rows b=L:=⟨_,rfl⟩
 rw [eL] at hM hLr hLl ⊢
 have hui:=unitL_in (p:=p) hp2 (show 1≤k+1 by omega)
 refine KW.callN1 rfl rfl rfl rfl rfl (unit (k+1) (by omega) (by omega)) (fun v HU SU mU _ _ hv=>?_)
 obtain ⟨au,cu,rfl,hU⟩:=hv
 have hM2:=hM.up (S':=SU) (H':=HU)
 refine KW.callN1 rfl rfl rfl rfl rfl (combination hpr (by omega) (by omega) (by omega) hLr hui hM2 hU.ups) (fun v HC SC mC _ _ hv=>?_)
 cases hcb:comb p L (unitL (k+1)) with
 | none=>
  rw [hcb] at hv
  obtain rfl:=hv
  refine KW.retM1 rfl rfl rfl rfl (fun H1 g=>by show Value.bool false=Value.bool (comb p L (unitL ((k+1:Nat):Int).toNat)).isSome; rw [Int.toNat_natCast,hcb]; rfl)
 | some cs=>
  rw [hcb] at hv
  obtain ⟨ac,cc,rfl,hC⟩:=hv
  refine KW.retM1 rfl rfl rfl rfl (fun H1 g=>by show Value.bool true=Value.bool (comb p L (unitL ((k+1:Nat):Int).toNat)).isSome; rw [Int.toNat_natCast,hcb]; rfl)
theorem schemeOpens {x:T_Scheme} {g:List Int} (hk:SchOk x) (hg:Rises 0 (x.1 - 1) g) (hB:B_Scheme x) (hG:B_Int64S g) {a1 c1 a2 c2 a3 c3} (h1:KI.Sl S H0 (.slice a1 x.2.1.length c1) x.2.1) (h2:KI.sl.Sl S H0 (.slice a2 x.2.2.2.2.length c2) x.2.2.2.2) (h3:KI.Sl S H0 (.slice a3 g.length c3) g):
  Spec Tryz.prog S H0 15 [.agg #[.int .i64 x.1,.slice a1 x.2.1.length c1,.int .i64 x.2.2.1,.int .i64 x.2.2.2.1,.slice a2 x.2.2.2.2.length c2],.slice a3 g.length c3] (fun v=>v=.tuple #[.bool (opensF x g),.int .i64 0]):=by
 refine Spec.of1 Tryz.func15 rfl (by kernel_rfl) rfl (fun H _=>?_)
 have hk':OkSch x.1 x.2.1 x.2.2.1 x.2.2.2.1 x.2.2.2.2:=hk
 have hs:codeS x g=0:=by unfold codeS; rw [if_pos (tv_true hk),if_pos (tv_true hg)]
 have hG':g.length≤1048576:=hG
 refine KW.callE rfl rfl rfl rfl rfl (schemeCode x g hB hG h1.up h2.up h3.up) (fun _ _=>?_)
 refine KW.cF rfl rfl (by simp [hs]) ?_
 obtain ⟨q,hq⟩:∃q:Nat,x.1=q:=⟨x.1.toNat,by have:=hk'.h1; omega⟩
 have hq7:=hk'.h7
 rw [hq] at hg
 have hgs:=rises_small hg
 have hbt:bitsOf g < 256:=Nat.lt_of_lt_of_le (bitsOf_lt (m:=q) (fun x hx=>by have:=hgs x hx; omega)) (Nat.pow_le_pow_right (by decide) (show q≤8 by omega))
 refine KW.callE rfl rfl rfl rfl rfl (crowdOf (m:=q) (by omega) (by omega) hgs h3.up) (fun _ _=>?_)
 refine KW.callE rfl rfl rfl rfl rfl (opensS hbt hk hB h1.up h2.up) (fun _ _=>?_)
 refine KW.retM1 rfl rfl rfl rfl (fun H1 g=>by rfl)
end
end Go.Proofs.YtlapbbffoapleaaGreat.Am
namespace Go.Proofs.YtlapbbffoapleaaGreat.Am
open Go Go.RowKit Go.Proofs
noncomputable def r0_OpenAfter (x:T_Deal) (ds:T_DeedS):Int:=if givenC x ds=0 then rebV x.1 (opG (behind x ds)) (opH x (behind x ds)) else 0
noncomputable def r1_OpenAfter (x:T_Deal) (ds:T_DeedS):Int:=if givenC x ds=0 then rebC x.1 (opG (behind x ds)) (opH x (behind x ds)) else givenC x ds
section
variable {S:Ids} {H0:AH} {x:T_Deal} {ds:T_DeedS} {dcs:List Value}
theorem impl_OpenAfter {a c} (hB:B_Deal x) (hBd:B_DeedS ds) (hD:K_Deal.R S H0 x dcs) (hs:K_DeedS.R S H0 ds [.slice a ds.length c]):Spec Tryz.prog S H0 16 [.agg dcs.toArray,.slice a ds.length c] (fun v=>v=.tuple #[.int .i64 (r0_OpenAfter x ds),.int .i64 (r1_OpenAfter x ds)]):=by
 have hs:=sl1 hs
 obtain ⟨d1,d2,d3,d4,d5,d6,d7,d8,rfl⟩:=form_Deal hD
 refine Spec.of1 Tryz.func16 rfl (by kernel_rfl) rfl (fun H _=>?_)
 have hD0:K_Deal.R (Low H.n) H x _:=On.R hD
 have hs0:=hs.up (S':=Low H.n) (H':=H)
 refine KW.callE rfl rfl rfl rfl rfl (deedsCode hB hBd.len hD0 hs0) (fun _ _=>?_)
 unfold r0_OpenAfter r1_OpenAfter
 refine KW.cndB rfl rfl (fun k1=>?_) (fun k1=>?_)
 ·have k1:givenC x ds≠0:=by simpa using k1
  rw [if_neg k1,if_neg k1]
  refine KW.retM1 rfl rfl rfl rfl (fun H1 g=>rfl)
 have k1:givenC x ds=0:=by simpa using k1
 rw [if_pos k1,if_pos k1]
 obtain ⟨hd,hdp,h400⟩:=given0 k1
 have ok:=behind_ok hd hdp
 refine KW.callN1 rfl rfl rfl rfl rfl (implAfter hd hdp h400 hB hD0 hs0) (fun v H1 S1 m1 _ _ hv=>?_)
 obtain ⟨d,X,rfl,hh⟩:=hv
 have hh1:=hh.on (S':=S1) (A':=H1)
 have hD1:K_Deal.R S1 H1 x _:=On.R hD0
 refine KW.callE rfl rfl rfl rfl rfl (implOpen (c:=behind x ds) hd hB ok hh1 hD1) (fun _ _=>?_)
 refine KW.retM1 rfl rfl rfl rfl (fun H1 g=>rfl)
end
theorem deeds_B {ds:List T_Deed} (hdp:∀d∈ds,DeedP d) (h400:ds.length≤400):B_DeedS ds:=⟨by omega,fun d hdm=>by have:=hdp d hdm; exact ⟨⟨by have:=this.1; omega,by have:=this.1; omega⟩,⟨by have:=this.2.1; omega,by have:=this.2.1; omega⟩,⟨by have:=this.2.2.1; omega,by have:=this.2.2.1; omega⟩⟩,by have h0:=sum_bound (l:=ds.map szE_Deed) (b:=3) (fun z hz=>(by obtain ⟨d,_,rfl⟩:=List.mem_map.1 hz; exact Nat.le_refl 3)); rw [List.length_map] at h0; omega⟩
theorem honA_zero (x:T_Deal) (ds:List T_Deed):HonA x ds 0:=fun h hh=>absurd hh (Nat.not_lt_zero h)
theorem honA_next {x:T_Deal} {ds:List T_Deed} {n:Nat}:HonA x ds (n+1)↔HonA x ds n∧HonH x ds n:=by
 constructor
 ·intro h
  exact ⟨fun j hj=>h j (by omega),h n (by omega)⟩
 ·intro h j hj
  by_cases e:j=n
  ·rw [e]; exact h.2
  ·exact h.1 j (by omega)
theorem noPass_next {x:T_Deal} {h l:Int} {e:Nat}:NoPass x h (e+1) l↔NoPass x h e l∧l∉passN x e h x.1.2.2.1.toNat:=by
 constructor
 ·intro q
  exact ⟨fun j hj=>q j (by omega),q e (by omega)⟩
 ·intro q j hj
  by_cases e':j=e
  ·rw [e']; exact q.2
  ·exact q.1 j (by omega)
theorem take_all {α:Type} {l:List α} {i:Nat} {y:α} (h:l[i]?=some y) {q:α→Prop}:(∀d∈l.take (i+1),q d)↔(∀d∈l.take i,q d)∧q y:=by
 rw [List.take_succ_eq_append_getElem (List.getElem?_eq_some_iff.1 h).1,(List.getElem?_eq_some_iff.1 h).2]
 constructor
 ·intro f
  exact ⟨fun d hd=>f d (List.mem_append_left _ hd),f y (by simp)⟩
 ·rintro ⟨f,g⟩ d hd
  rcases List.mem_append.1 hd with hd | hd
  ·exact f d hd
  ·rw [List.mem_singleton.1 hd]; exact g
theorem take_any {α:Type} {l:List α} {i:Nat} {y:α} (h:l[i]?=some y) {q:α→Prop}:(∃d∈l.take (i+1),q d)↔(∃d∈l.take i,q d)∨q y:=by
 rw [List.take_succ_eq_append_getElem (List.getElem?_eq_some_iff.1 h).1,(List.getElem?_eq_some_iff.1 h).2]
 constructor
 ·rintro ⟨d,hd,hq⟩
  rcases List.mem_append.1 hd with hd | hd
  ·exact .inl ⟨d,hd,hq⟩
  ·rw [List.mem_singleton.1 hd] at hq; exact .inr hq
 ·rintro (⟨d,hd,hq⟩ | hq)
  ·exact ⟨d,List.mem_append_left _ hd,hq⟩
  ·exact ⟨y,by simp,hq⟩
theorem T3x {a b:Var} {i:Nat} {ty:TypeId} {cs cs':List Value} (h:cs=cs'):([a,b,(i,⟨ty,true,cs⟩)]:List Var)=[a,b,(i,⟨ty,true,cs'⟩)]:=by rw [h]
section
variable {S:Ids} {H0:AH}
theorem lawCeremony {ar0 ar1:List Int} {p0 p1:Option Addr} {q0 q1:Nat} (hW0:W_B ar0) (h0:K_B.R S H0 ar0 [.slice p0 ar0.length q0]) (hW1:W_B ar1) (h1:K_B.R S H0 ar1 [.slice p1 ar1.length q1]):Spec Tryz.prog S H0 6 [.slice p0 ar0.length q0,.slice p1 ar1.length q1] (fun v=>v=.bool true):=by
 have s0:=sl1 h0
 have s1:=sl1 h1
 refine Spec.of1 Tryz.func6 rfl (by kernel_rfl) rfl (fun H _=>?_)
 refine KW.call rfl rfl rfl rfl rfl (a2Long) (fun v _ _ hv=>?_)
 obtain ⟨b,rfl,hb⟩:=hv
 cases b with
 | true=>
  refine KW.cT rfl rfl (by first | (simp; done) | decide) ?_
  exact KW.ret rfl rfl rfl rfl (rfl)
 | false=>
 have hb:=hb rfl
 refine KW.cF rfl rfl (by first | (simp; done) | decide) ?_
 refine KW.callN1 rfl rfl rfl rfl rfl (a2Deal hW0.2 (by omega) s0.up) (fun v HM SM mM _ _ hv=>?_)
 obtain ⟨x,cs,rfl,hd,hR0⟩:=hv
 have hR:K_Deal.R SM HM x cs:=On.R hR0
 clear hR0
 obtain ⟨a1,c1,a2,c2,a3,c3,a4,c4,rfl,d1,d2,d3,d4⟩:=split2_Deal hR
 have hB:=deal_small hd
 have hk:=hd.sch
 have hh1:=hk.h1
 have hh7:=hk.h7
 have hbl:=hd.bl
 refine KW.callN1 rfl rfl rfl rfl rfl (a2Deeds hd hB hR hW1.2 (by omega) s1.up) (fun v HD SD mD _ _ hv=>?_)
 obtain ⟨ds,od,rfl,l36,hdp,hnw,hmo⟩:=hv
 have hSo:SD od∧HD.m od=_:=(inferInstance:On (New _ HD.n) HD SD HD).st od hnw |>.imp id (fun h=>h.trans hmo)
 have hS1:=deeds_sl (ds:=ds) hSo.1 hSo.2
 have hBd:=deeds_B hdp (by omega)
 refine KW.callN1 rfl rfl rfl rfl rfl (cerAfter hd hdp (by omega) (On.R hR) hS1) (fun v HC SC mC _ _ hv=>?_)
 obtain ⟨ccs,rfl,hC⟩:=hv
 obtain ⟨p1,p2,p3,p4,p5,q1,q2,q3,q4,q5,rfl,k1,k2,k3,k4,k5⟩:=hC
 have ok:CerOk x (behind x ds):=behind_ok hd hdp
 have hg0:=given_ok hd hdp (by omega)
 have kn:=impl_NamedAfter (S:=SC) (H0:=HC) (x:=x) (ds:=ds) hB hBd (On.R hR) (sl1' (hS1.up (S':=SC) (H':=HC)))
 unfold r0_NamedAfter r1_NamedAfter at kn
 rw [hg0,if_pos rfl] at kn
 refine KW.callN1 rfl rfl rfl rfl rfl (kn) (fun v HN SN mN _ _ hv=>?_)
 obtain ⟨an,cn,rfl,hN⟩:=hv
 have hN:=ml1 hN
 have ko:=impl_OpenAfter (S:=SN) (H0:=HN) (x:=x) (ds:=ds) hB hBd (On.R hR) (sl1' ((hS1.up (S':=SC) (H':=HC)).up (S':=SN) (H':=HN)))
 unfold r0_OpenAfter r1_OpenAfter at ko
 rw [hg0,if_pos rfl,if_pos rfl] at ko
 refine KW.callE rfl rfl rfl rfl rfl (ko) (fun _ _=>?_)
 have hnam:=fun h=>named_lied (h:=h) hd hdp
 have hho:=honest_open hd hdp
 have hco:=closed_open hd hdp
 have hhas:=opG_rises hd ok
 have hk3:KBo.Sl SC HC (.slice p3 (behind x ds).has.length q3) (behind x ds).has:=k3.up
 have eop:opG (behind x ds)=markF (behind x ds).has 0:=rfl
 obtain ⟨c,ec⟩:∃c,behind x ds=c:=⟨_,rfl⟩
 rw [ec] at hnam hho hco ok hhas hN hk3 eop
 rw [show play x (cer0 x.1.1.toNat) ds=c from ec,ec]
 obtain ⟨rv,erv⟩:∃rv,rebV x.1 (opG c) (opH x c)=rv:=⟨_,rfl⟩
 obtain ⟨rc,erc⟩:∃rc,rebC x.1 (opG c) (opH x c)=rc:=⟨_,rfl⟩
 rw [erv,erc] at hho
 rw [erc] at hco
 rw [erv,erc]
 have hsl:=ok.sl
 have hhl:=ok.hl
 have hnl:=ok.nl
 have hml:=markF_len c.named 0
 refine KW.tF rfl rfl (by first | (simp; done) | decide) ?_
 refine KW.tF rfl rfl (by first | (simp; done) | decide) ?_
 refine KW.cF rfl rfl (by simp; omega) ?_
 have hS2:K_Deed.Sl SN HN (.slice (some ⟨od,0,some 3⟩) ds.length ds.length) ds:=(hS1.up (S':=SC) (H':=HC)).up
 have hNs:=hN.sl.up (S':=SN) (H':=HN)
 refine KW.lp rfl rfl (fun s:Nat × Bool=>[(5,.pointer (some ⟨HM.n,0,some 0⟩)),(6,.slice (some ⟨od,0,some 3⟩) ds.length ds.length),(7,.pointer (some ⟨HC.n,0,some 1⟩)),(10,.slice an (markF c.named 0).length cn),(12,.int .i64 rv),(13,.int .i64 rc),(14,.bool s.2),(15,.int .i64 s.1)]) (fun s=>(s.1:Int)≤x.1.1∧s.2=tv (HonA x ds s.1)) (fun s=>x.1.1.toNat - s.1) ((0,true)) (⟨by simp only; omega,(tv_true (honA_zero x ds)).symm⟩) ⟨rfl,rfl,rfl,rfl,rfl,rfl,rfl,rfl,trivial⟩ (fun s hi bE n=>?_)
 obtain ⟨h,b0⟩:=s
 obtain ⟨ih,ib⟩:=hi
 simp only at ih ib
 refine KW.cnd rfl rfl (fun j1=>?_) (fun j1=>?_)
 ·have j1:(h:Int) < x.1.1:=j1
  refine KW.lp rfl rfl (fun s:Nat × Bool × Bool=>[(5,.pointer (some ⟨HM.n,0,some 0⟩)),(6,.slice (some ⟨od,0,some 3⟩) ds.length ds.length),(7,.pointer (some ⟨HC.n,0,some 1⟩)),(10,.slice an (markF c.named 0).length cn),(12,.int .i64 rv),(13,.int .i64 rc),(14,.bool s.2.1),(15,.int .i64 h),(16,.bool s.2.2),(17,.int .i64 s.1)]) (fun s=>s.1≤ds.length∧s.2.1=tv (HonA x ds h∧∀d∈ds.take s.1,IsLie x h d→NoPass x h x.2.2.1.length d.2.2)∧s.2.2=tv (∃d∈ds.take s.1,IsLie x h d)) (fun s=>ds.length - s.1) ((0,b0,false)) (⟨Nat.zero_le _,by simp only; rw [ib]; exact tv_congr ⟨fun q=>⟨q,fun d hd=>(by simp at hd)⟩,fun q=>q.1⟩,by simp only; rw [tv_false (fun q=>by obtain ⟨d,hd,_⟩:=q; simp at hd)]⟩) ⟨rfl,rfl,rfl,rfl,rfl,rfl,rfl,rfl,rfl,rfl,trivial⟩ (fun s hi bE n=>?_)
  obtain ⟨i,b1,b2⟩:=s
  obtain ⟨ii,i1,i2⟩:=hi
  simp only at ii i1 i2
  refine KW.cnd rfl rfl (fun j2=>?_) (fun j2=>?_)
  ·have j2:(i:Int) < (ds.length:Int):=j2
   have key:∀{y:T_Deed},ds[i]?=some y→¬IsLie x h y→(i+1≤ds.length∧b1=tv (HonA x ds h∧∀d∈ds.take (i+1),IsLie x h d→NoPass x h x.2.2.1.length d.2.2)∧b2=tv (∃d∈ds.take (i+1),IsLie x h d)):=fun {y} hy hn=>by
    refine ⟨by omega,?_,?_⟩
    ·rw [i1]; exact tv_congr ⟨fun q=>⟨q.1,(take_all hy).2 ⟨q.2,fun h9=>absurd h9 hn⟩⟩,fun q=>⟨q.1,((take_all hy).1 q.2).1⟩⟩
    ·rw [i2]; exact tv_congr ⟨fun q=>(take_any hy).2 (.inl q),fun q=>((take_any hy).1 q).resolve_right hn⟩
   refine KW.adS hS2 rfl rfl rfl rfl rfl rfl rfl rfl rfl (by omega) (j2) (fun y ys id0 z0 hy hsy hat0=>?_)
   have hy:ds[i]?=some y:=hy
   obtain rfl:=form_Deed hsy
   refine KW.ldF 0 hat0 rfl rfl rfl rfl rfl rfl rfl rfl rfl ?_
   have hdy:=hdp y (List.mem_of_getElem? hy)
   by_cases e6:y.1=6
   rotate_left
   ·refine KW.tT rfl rfl (by simpa using e6) ?_
    repeat first | refine KW.tT rfl rfl rfl ?_ | refine KW.tF rfl rfl rfl ?_
    refine KW.cT rfl rfl (by first | (simp; done) | decide) ?_
    refine KW.nxt rfl rfl (fun H' g=>⟨(i+1,b1,b2),key hy (fun q=>e6 q.1),by first | omega | (simp only; omega),⟨rfl,rfl,rfl,rfl,rfl,rfl,rfl,rfl,rfl,congrArg (Value.int .i64) (inc64 (by omega)),trivial⟩,g⟩)
   refine KW.tF rfl rfl (by simpa using e6) ?_
   refine KW.adS hS2 rfl rfl rfl rfl rfl rfl rfl rfl rfl (by omega) (j2) (fun y2 ys2 id1 z1 hy2 hsy2 hat1=>?_)
   have hy2:ds[i]?=some y2:=hy2
   obtain rfl:y=y2:=by rw [hy] at hy2; exact Option.some.inj hy2
   obtain rfl:=form_Deed hsy2
   refine KW.ldF 1 hat1 rfl rfl rfl rfl rfl rfl rfl rfl rfl ?_
   by_cases eh:y.2.1=h
   rotate_left
   ·refine KW.tT rfl rfl (by simpa using eh) ?_
    repeat first | refine KW.tT rfl rfl rfl ?_ | refine KW.tF rfl rfl rfl ?_
    refine KW.cT rfl rfl (by first | (simp; done) | decide) ?_
    refine KW.nxt rfl rfl (fun H' g=>⟨(i+1,b1,b2),key hy (fun q=>eh q.2.1),by first | omega | (simp only; omega),⟨rfl,rfl,rfl,rfl,rfl,rfl,rfl,rfl,rfl,congrArg (Value.int .i64) (inc64 (by omega)),trivial⟩,g⟩)
   refine KW.tF rfl rfl (by simpa using eh) ?_
   refine KW.adS hS2 rfl rfl rfl rfl rfl rfl rfl rfl rfl (by omega) (j2) (fun y3 ys3 id3 z3 hy3 hsy3 hat3=>?_)
   have hy3:ds[i]?=some y3:=hy3
   obtain rfl:y=y3:=by rw [hy] at hy3; exact Option.some.inj hy3
   obtain rfl:=form_Deed hsy3
   refine KW.ldF 2 hat3 rfl rfl rfl rfl rfl rfl rfl rfl rfl ?_
   by_cases e0:y.2.2=0
   ·refine KW.tT rfl rfl (by simpa using e0) ?_
    repeat first | refine KW.tT rfl rfl rfl ?_ | refine KW.tF rfl rfl rfl ?_
    refine KW.cT rfl rfl (by first | (simp; done) | decide) ?_
    refine KW.nxt rfl rfl (fun H' g=>⟨(i+1,b1,b2),key hy (fun q=>q.2.2.1 e0),by first | omega | (simp only; omega),⟨rfl,rfl,rfl,rfl,rfl,rfl,rfl,rfl,rfl,congrArg (Value.int .i64) (inc64 (by omega)),trivial⟩,g⟩)
   refine KW.tF rfl rfl (by simpa using e0) ?_
   refine KW.adS hS2 rfl rfl rfl rfl rfl rfl rfl rfl rfl (by omega) (j2) (fun y4 ys4 id4 z4 hy4 hsy4 hat4=>?_)
   have hy4:ds[i]?=some y4:=hy4
   obtain rfl:y=y4:=by rw [hy] at hy4; exact Option.some.inj hy4
   obtain rfl:=form_Deed hsy4
   refine KW.ldF 2 hat4 rfl rfl rfl rfl rfl rfl rfl rfl rfl ?_
   by_cases ep:y.2.2 < x.1.2.2.1
   rotate_left
   ·refine KW.cT rfl rfl (by simp; omega) ?_
    refine KW.nxt rfl rfl (fun H' g=>⟨(i+1,b1,b2),key hy (fun q=>ep q.2.2.2),by first | omega | (simp only; omega),⟨rfl,rfl,rfl,rfl,rfl,rfl,rfl,rfl,rfl,congrArg (Value.int .i64) (inc64 (by omega)),trivial⟩,g⟩)
   refine KW.cF rfl rfl (by simp; omega) ?_
   have hlie:IsLie x h y:=⟨e6,eh,e0,ep⟩
   refine KW.lp rfl rfl (fun s:Nat × Bool=>[(5,.pointer (some ⟨HM.n,0,some 0⟩)),(6,.slice (some ⟨od,0,some 3⟩) ds.length ds.length),(7,.pointer (some ⟨HC.n,0,some 1⟩)),(10,.slice an (markF c.named 0).length cn),(12,.int .i64 rv),(13,.int .i64 rc),(14,.bool s.2),(15,.int .i64 h),(16,.bool true),(17,.int .i64 i),(18,.int .i64 s.1)]) (fun s=>s.1≤x.2.2.1.length∧s.2=tv ((HonA x ds h∧∀d∈ds.take i,IsLie x h d→NoPass x h x.2.2.1.length d.2.2)∧NoPass x h s.1 y.2.2)) (fun s=>x.2.2.1.length - s.1) ((0,b1)) (⟨Nat.zero_le _,by simp only; rw [i1]; exact tv_congr ⟨fun q=>⟨q,fun e' he'=>absurd he' (Nat.not_lt_zero e')⟩,fun q=>q.1⟩⟩) ⟨rfl,rfl,rfl,rfl,rfl,rfl,rfl,rfl,rfl,rfl,rfl,trivial⟩ (fun s hi bE n=>?_)
   obtain ⟨e,b3⟩:=s
   obtain ⟨ie,i3⟩:=hi
   simp only at ie i3
   refine KW.cnd rfl rfl (fun j3=>?_) (fun j3=>?_)
   ·have j3:(e:Int) < (x.2.2.1.length:Int):=j3
    have hcode:codeD x e h=0:=by unfold codeD; rw [if_pos (tv_true hd),if_pos ⟨⟨by omega,by omega⟩,⟨by omega,by omega⟩⟩]
    have kl:=impl_LiesThatPass (S:=SN) (H0:=HN) (x:=x) e h (by constructor <;> omega) (by constructor <;> omega) hB (On.R hR)
    unfold r0_LiesThatPass at kl
    rw [if_pos hcode,hcode] at kl
    refine KW.callN1 rfl rfl rfl rfl rfl (kl) (fun v HL SL mL _ _ hv=>?_)
    obtain ⟨al,cl,rfl,hL⟩:=hv
    have hL:=ml1 hL
    have hpl:(passN x e h x.1.2.2.1.toNat).length≤1048576:=by
     have h1:(passN x e h x.1.2.2.1.toNat).length≤x.1.2.2.1.toNat:=rowsP_len _ _
     have:=hd.prime.2.1
     omega
    refine KW.cF rfl rfl (by first | (simp; done) | decide) ?_
    cases b3 with
    | false=>
     refine KW.tF rfl rfl (by first | (simp; done) | decide) ?_
     have hnx:false=tv ((HonA x ds h∧∀d∈ds.take i,IsLie x h d→NoPass x h x.2.2.1.length d.2.2)∧NoPass x h (e+1) y.2.2):=(tv_false (fun q=>Bool.noConfusion (i3.trans (tv_true ⟨q.1,(noPass_next.1 q.2).1⟩)))).symm
     refine KW.nxt rfl rfl (fun H' g=>⟨(e+1,false),⟨by simp only; omega,hnx⟩,by first | omega | (simp only; omega),⟨rfl,rfl,rfl,rfl,rfl,rfl,rfl,rfl,rfl,rfl,congrArg (Value.int .i64) (inc64 (by omega)),trivial⟩,g.back⟩)
    | true=>
     refine KW.tT rfl rfl (by first | (simp; done) | decide) ?_
     have hS4:=hS2.up (S':=SL) (H':=HL)
     refine KW.adS hS4 rfl rfl rfl rfl rfl rfl rfl rfl rfl (by omega) (j2) (fun y5 ys5 id5 z5 hy5 hsy5 hat5=>?_)
     have hy5:ds[i]?=some y5:=hy5
     obtain rfl:y=y5:=by rw [hy] at hy5; exact Option.some.inj hy5
     obtain rfl:=form_Deed hsy5
     refine KW.ldF 2 hat5 rfl rfl rfl rfl rfl rfl rfl rfl rfl ?_
     refine KW.callE rfl rfl rfl rfl rfl (a2Has (w:=y.2.2) hpl hL.ups) (fun _ _=>?_)
     have hnx:(!decide (y.2.2∈passN x e h x.1.2.2.1.toNat))=tv ((HonA x ds h∧∀d∈ds.take i,IsLie x h d→NoPass x h x.2.2.1.length d.2.2)∧NoPass x h (e+1) y.2.2):=by
      have hq:=tv_iff.1 i3.symm
      by_cases hm:y.2.2∈passN x e h x.1.2.2.1.toNat
      ·rw [decide_eq_true hm,tv_false (fun q=>(noPass_next.1 q.2).2 hm)]; rfl
      ·rw [decide_eq_false hm,tv_true ⟨hq.1,noPass_next.2 ⟨hq.2,hm⟩⟩]; rfl
     refine KW.nxt rfl rfl (fun H' g=>⟨(e+1,!decide (y.2.2∈passN x e h x.1.2.2.1.toNat)),⟨by simp only; omega,hnx⟩,by first | omega | (simp only; omega),⟨rfl,rfl,rfl,rfl,rfl,rfl,rfl,rfl,rfl,rfl,congrArg (Value.int .i64) (inc64 (by omega)),trivial⟩,g.back⟩)
   ·have j3:¬(e:Int) < (x.2.2.1.length:Int):=j3
    obtain rfl:e=x.2.2.1.length:=by omega
    refine KW.nxt rfl rfl (fun H' g=>⟨(i+1,b3,true),⟨by omega,by simp only; rw [i3]; exact tv_congr ⟨fun q=>⟨q.1.1,(take_all hy).2 ⟨q.1.2,fun _=>q.2⟩⟩,fun q=>⟨⟨q.1,((take_all hy).1 q.2).1⟩,((take_all hy).1 q.2).2 hlie⟩⟩,by simp only; rw [tv_true ((take_any hy).2 (.inr hlie))]⟩,by first | omega | (simp only; omega),⟨rfl,rfl,rfl,rfl,rfl,rfl,rfl,rfl,rfl,congrArg (Value.int .i64) (inc64 (by omega)),trivial⟩,g⟩)
  ·have j2:¬(i:Int) < (ds.length:Int):=j2
   obtain rfl:i=ds.length:=by omega
   rw [List.take_length] at i1 i2
   refine KW.callE rfl rfl rfl rfl rfl (a2Has (w:=(h:Int)) (by omega) hNs) (fun _ _=>?_)
   have b1h:b1=tv (HonA x ds (h+1)):=by rw [i1]; exact tv_congr ⟨fun q=>honA_next.2 q,fun q=>honA_next.1 q⟩
   by_cases hm:(h:Int)∈markF c.named 0
   ·have hlied:b2=true:=by rw [i2]; exact tv_true (hnam h hm)
    subst hlied
    rw [decide_eq_true hm]
    refine KW.tT rfl rfl (by first | (simp; done) | decide) ?_
    refine KW.cF rfl rfl (by first | (simp; done) | decide) ?_
    refine KW.nxt rfl rfl (fun H' g=>⟨(h+1,b1),⟨by simp only; omega,b1h⟩,by first | omega | (simp only; omega),⟨rfl,rfl,rfl,rfl,rfl,rfl,rfl,congrArg (Value.int .i64) (inc64 (by omega)),trivial⟩,g⟩)
   ·rw [decide_eq_false hm]
    refine KW.tF rfl rfl (by first | (simp; done) | decide) ?_
    refine KW.cF rfl rfl (by first | (simp; done) | decide) ?_
    refine KW.nxt rfl rfl (fun H' g=>⟨(h+1,b1),⟨by simp only; omega,b1h⟩,by first | omega | (simp only; omega),⟨rfl,rfl,rfl,rfl,rfl,rfl,rfl,congrArg (Value.int .i64) (inc64 (by omega)),trivial⟩,g⟩)
 ·have j1:¬(h:Int) < x.1.1:=j1
  have ehn:h=x.1.1.toNat:=by omega
  subst ehn
  have hk4:=hk3.up (S':=SN) (H':=HN)
  refine KW.cnt (fun m0 hm0=>?_)
  refine KW.lit rfl rfl rfl rfl rfl rfl rfl rfl rfl rfl [] rfl rfl (fun v hv=>by simp at hv) rfl ?_
  refine KW.lpM rfl rfl (fun s:Nat × Nat × List Int=>[(5,.pointer (some ⟨HM.n,0,some 0⟩)),(7,.pointer (some ⟨HC.n,0,some 1⟩)),(12,.int .i64 rv),(13,.int .i64 rc),(14,.bool b0),(21,.slice (some ⟨s.2.1,0,some 1⟩) s.2.2.length s.2.2.length),(22,.int .i64 s.1)]) (fun s=>SN) (fun s=>HN) (fun s=>[(HM.n,⟨32,true,[.int .i64 x.1.1,.slice a1 x.1.2.1.length c1,.int .i64 x.1.2.2.1,.int .i64 x.1.2.2.2.1,.slice a2 x.1.2.2.2.2.length c2,.int .i64 x.2.1,.slice a3 x.2.2.1.length c3,.slice a4 x.2.2.2.length c4]⟩),(HC.n,⟨45,true,[.int .i64 c.ep,.slice p1 c.seats.length q1,.int .i64 c.oe,.slice p2 c.got.length q2,.slice p3 c.has.length q3,.slice p4 c.named.length q4,.slice p5 c.wire.length q5]⟩),(s.2.1,⟨2,true,s.2.2.map (Value.int .i64)⟩)]) (fun s=>s.1≤c.has.length∧s.2.2.length≤s.1∧s.2.2++markF (c.has.drop s.1) s.1=markF c.has 0) (fun s=>c.has.length - s.1) ((0,m0,[])) (⟨Nat.zero_le _,Nat.le_refl _,rfl⟩) ⟨rfl,rfl,rfl,rfl,rfl,rfl,rfl,trivial⟩ rfl rfl (rfl) (fun s hi bE n=>?_)
  obtain ⟨i,o,ks⟩:=s
  obtain ⟨i1,i2,i4⟩:=hi
  simp only at i1 i2 i4
  refine KW.cnd rfl rfl (fun j9=>?_) (fun j9=>?_)
  ·have j9:(i:Int) < x.1.1:=j9
   refine KW.getB hk4 rfl rfl rfl rfl rfl rfl rfl rfl rfl rfl rfl rfl rfl rfl rfl rfl (by omega) (by omega) (fun y hy=>?_)
   have hy:c.has[i]?=some y:=hy
   have edr:c.has.drop i=y :: c.has.drop (i+1):=by
    rw [List.drop_eq_getElem_cons (List.getElem?_eq_some_iff.1 hy).1]
    rw [(List.getElem?_eq_some_iff.1 hy).2]
   rw [edr] at i4
   refine KW.cnt (fun m hm=>?_)
   cases y with
   | true=>
    refine KW.cT rfl rfl (by first | (simp; done) | decide) ?_
    refine KW.lit rfl rfl rfl rfl rfl rfl rfl rfl rfl rfl [.int .i64 i] rfl rfl (fun v hv=>by simp at hv; subst hv; rfl) rfl ?_
    refine KW.appTS (m:=1) (ys:=[.int .i64 i]) 2 rfl rfl rfl rfl rfl rfl rfl rfl (by decide) rfl (fun H1 g=>acells_seg (g.blk (j:=3) rfl).1 (by show 0+1*1≤1; decide)) (by show 0+ks.length*1≤(ks.map (Value.int .i64)).length; rw [List.length_map]; omega) rfl (by decide) (by show (ks.length+1)*8≤_; omega) (by show ks.length+1≤_; omega) ?_
    have e3c:((ks.map (Value.int .i64)).drop 0).take (ks.length*1)++[.int .i64 (i:Int)]=(ks++[(i:Int)]).map (Value.int .i64):=by rw [drop0_take (by rw [List.length_map]; omega)]; simp
    have el:ks.length+1=(ks++[(i:Int)]).length:=by simp
    have er:(ks++[(i:Int)])++markF (c.has.drop (i+1)) ((i:Int)+1)=markF c.has 0:=by rw [← i4]; conv=>{rhs; unfold markF}; rw [if_pos rfl]; simp
    refine KW.nxt rfl rfl (fun H' g=>⟨(i+1,m+1,ks++[(i:Int)]),⟨by simp only; omega,by simp only [List.length_append,List.length_cons,List.length_nil]; omega,by simp only; rw [← er]; rfl⟩,by first | omega | (simp only; omega),⟨rfl,rfl,rfl,rfl,rfl,congrArg (fun k=>Value.slice (some ⟨m+1,0,some 1⟩) k k) el,congrArg (Value.int .i64) (inc64 (by omega)),trivial⟩,(g.take 3).eqT (T3x e3c)⟩)
   | false=>
    refine KW.cF rfl rfl (by first | (simp; done) | decide) ?_
    have er:ks++markF (c.has.drop (i+1)) ((i:Int)+1)=markF c.has 0:=by rw [← i4]; conv=>{rhs; unfold markF}; rw [if_neg (by decide)]
    refine KW.nxt rfl rfl (fun H' g=>⟨(i+1,o,ks),⟨by simp only; omega,by simp only; omega,by simp only; rw [← er]; rfl⟩,by first | omega | (simp only; omega),⟨rfl,rfl,rfl,rfl,rfl,rfl,congrArg (Value.int .i64) (inc64 (by omega)),trivial⟩,g⟩)
  ·have j9:¬(i:Int) < x.1.1:=j9
   have he:i=c.has.length:=by omega
   rw [he,List.drop_length] at i4
   have er:ks=opG c:=by rw [eop,← i4]; simp [markF]
   subst er
   refine KW.callV1 rfl rfl rfl rfl rfl (fun H1 g _=>schemeOpens (x:=x.1) (g:=opG c) hd.sch hhas hB.1 (by show (opG c).length≤_; omega) d1.up d2.up (g.ints (j:=2) rfl rfl (Nat.le_refl _))) (fun _ _=>?_)
   refine KW.cF rfl rfl (by first | (simp; done) | decide) ?_
   cases b0 with
   | false=>
    refine KW.cT rfl rfl (by first | (simp; done) | decide) ?_
    cases hop:opensF x.1 (opG c) with
    | true=>
     refine KW.tT rfl rfl (by first | (simp; done) | decide) ?_
     refine KW.retM1 rfl rfl rfl rfl (fun H1 g=>rfl)
    | false=>
     refine KW.tF rfl rfl (by first | (simp; done) | decide) ?_
     rw [hco hop]
     refine KW.retM1 rfl rfl rfl rfl (fun H1 g=>rfl)
   | true=>
    refine KW.cF rfl rfl (by first | (simp; done) | decide) ?_
    have hon:=tv_iff.1 ib.symm
    cases hop:opensF x.1 (opG c) with
    | true=>
     obtain ⟨e1,e2⟩:=hho hon hop
     rw [e1,e2]
     refine KW.cT rfl rfl (by first | (simp; done) | decide) ?_
     refine KW.tT rfl rfl (by first | (simp; done) | decide) ?_
     refine KW.retM1 rfl rfl rfl rfl (fun H1 g=>by first | (show Value.bool (x.2.1==x.2.1)=_; simp; done) | (show Value.bool (decide (x.2.1=x.2.1))=_; simp; done))
    | false=>
     refine KW.cF rfl rfl (by first | (simp; done) | decide) ?_
     rw [hco hop]
     refine KW.retM1 rfl rfl rfl rfl (fun H1 g=>rfl)
end
end Go.Proofs.YtlapbbffoapleaaGreat.Am
namespace Go.Proofs.YtlapbbffoapleaaGreat.Am
open Go
theorem joined_of {P:Program} {f:FuncId} {fn:Func} {s:ChangeSpec} {c:OpenClaim}
  (h0:(c.wf (OpenSpec.ofChange s))=true)
  (h1:(laidOutB P)=true)
  (h2:(mapsRowed P)=true)
  (h3:(fn.params.all (P.readableRec ·))=true)
  (h4:(namedTie P c.named s.vars)=true)
  (h5:((c.stops==[]))=true)
  (h6:((P.stops==[]))=true)
  (h7:((c.knobs==[]))=true)
  (h8:((P.stopKnobs==[]))=true)
  (h9:((c.inPlace==P.inPlace f))=true)
  (h10:((c.unfollowed==P.unfollowed f))=true)
  (h11:((c.recurses==P.recurses f))=true)
  (h12:((c.named==P.varsNamed f))=true)
  (h13:((c.maps==(fn.params.toList++s.plain.varTypes P).any (P.mapsRec ·)))=true)
  (h14:((c.ifaces==(fn.params.toList++s.plain.varTypes P).any (P.ifacesRec ·)))=true)
  (h15:((c.mapsOut==P.mapsAmong fn.resultTypes.toList))=true)
  (h16:((c.loops==(fn.params.toList++s.plain.varTypes P).any (P.loopsFrom ·)))=true)
  (h17:((c.wideKeys==(fn.params.toList++s.plain.varTypes P++fn.resultTypes.toList).any (P.wideKeysFrom ·)))=true)
  (h18:(s.vars.all (P.varReadable ·))=true)
  (h19:(fn.resultTypes.all (fun t=>P.readableRec t&&decide (t < P.types.size)))=true)
  (h20:((c.ifacesOut==fn.resultTypes.toList.any (P.ifacesRec ·)))=true)
  (h21:((c.loopsOut==fn.resultTypes.toList.any (P.loopsFrom ·)))=true)
  (h22:((c.plainKeys==P.plainKeys))=true)
  (h23:(c.shortTexts.isNone)=true)
  (h24:(P.stopsHeard)=true)
  (h25:(P.mayEnter)=true)
  (h26:((c.lifted==P.liftsFinal))=true)
  (h27:((P.make==some c.make))=true)
  (h28:((c.kinds==(if c.domain.isEmpty then [] else fn.params.toList.map fun t=>match P.underlying t with | some (.int k)=>some k | _=>none)))=true)
  (h29:((c.pinned==c.pinnedBy))=true)
  (h30:((c.veiled==(fn.params.toList++s.plain.varTypes P++fn.resultTypes.toList).any (P.veiledRec ·)))=true)
  (h31:(c.veiledFits P fn.params.toList (fn.params.toList++s.plain.varTypes P++fn.resultTypes.toList))=true)
  :joinedFacts P f fn s c=true:=by
 unfold joinedFacts
 simp only [Bool.and_eq_true]
 exact ⟨⟨⟨⟨⟨⟨⟨⟨⟨⟨⟨⟨⟨⟨⟨⟨⟨⟨⟨⟨⟨⟨⟨⟨⟨⟨⟨⟨⟨⟨⟨h0,h1⟩,h2⟩,h3⟩,h4⟩,h5⟩,h6⟩,h7⟩,h8⟩,h9⟩,h10⟩,h11⟩,h12⟩,h13⟩,h14⟩,h15⟩,h16⟩,h17⟩,h18⟩,h19⟩,h20⟩,h21⟩,h22⟩,h23⟩,h24⟩,h25⟩,h26⟩,h27⟩,h28⟩,h29⟩,h30⟩,h31⟩
end Go.Proofs.YtlapbbffoapleaaGreat.Am
