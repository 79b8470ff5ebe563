/- Contracts and laws on abstract memory, merged. Each holds under its own conditions. -/
import Derived.Test.YtlapbbffoapleaaPCasesAlike00
set_option linter.unusedVariables false
set_option linter.unusedSimpArgs false
set_option maxRecDepth 20000
set_option maxHeartbeats 4000000
namespace Go.Proofs.Ytlapbbffoapleaa.Am
open Go Go.RowKit
inductive AX where
 | normal
 | exit (id:Nat)
 | ret
 deriving DecidableEq
def AX.ex:AX→Exit
 | .normal=>.normal
 | .exit id=>.exit id
 | .ret=>.ret
abbrev CodeR:=Env→AH→AX→Env→AH→Prop
def evL (body:CodeR):Nat→CodeR
 | 0,_,_,_,_,_=>False
 | k+1,e,H,x,e',H'=>∃x1 e1 H1,body e H x1 e1 H1∧if x1=.normal then evL body k e1 H1 x e' H' else x=x1∧e'=e1∧H'=H1
def evC (P:Program) (call:CallS) (n:Nat):Code→CodeR
 | .skip,e,H,x,e',H'=>x=.normal∧e'=e∧H'=H
 | .label _,e,H,x,e',H'=>x=.normal∧e'=e∧H'=H
 | .region _ ops dr,e,H,x,e',H'=>x=.normal∧∃ops',(ops=ops'∨(dr=true∧Shuf ops ops'∧rOk ops'=true))∧evOps P call dr ops' ops'.toList e H e' H'
 | .seq a b,e,H,x,e',H'=>∃x1 e1 H1,evC P call n a e H x1 e1 H1∧if x1=.normal then evC P call n b e1 H1 x e' H' else x=x1∧e'=e1∧H'=H1
 | .cond c a b,e,H,x,e',H'=>∃t,ev e c=.bool t∧if t=true then evC P call n a e H x e' H' else evC P call n b e H x e' H'
 | .block id c,e,H,x,e',H'=>∃x1,evC P call n c e H x1 e' H'∧x=if x1=.exit id then .normal else x1
 | .loop c,e,H,x,e',H'=>evL (evC P call n c) n e H x e' H'
 | .exit id,e,H,x,e',H'=>x=.exit id∧e'=e∧H'=H
 | .ret,e,H,x,e',H'=>x=.ret∧e'=e∧H'=H
 | _,_,_,_,_,_=>False
def codeOk (nt:Nat):Code→Bool
 | .region _ ops dr=>ops.all (oOk nt)&&(!dr||rOk ops)
 | .seq a b=>codeOk nt a&&codeOk nt b
 | .cond c a b=>opOk nt c&&codeOk nt a&&codeOk nt b
 | .block _ c=>codeOk nt c
 | .loop c=>codeOk nt c
 | _=>true
def codeOkS (nt:Nat):Code→Bool
 | .region _ ops dr=>ops.all (oOk nt)&&(!dr||rOkS ops)
 | .seq a b=>codeOkS nt a&&codeOkS nt b
 | .cond c a b=>opOk nt c&&codeOkS nt a&&codeOkS nt b
 | .block _ c=>codeOkS nt c
 | .loop c=>codeOkS nt c
 | _=>true
def resOk (nt:Nat):ResultVar→Bool
 | .tmp t=>decide (t<nt)
 | .cell a _=>decide (a<nt)
def fnOk (fn:Func):Bool:=
 !(fn.name== "runtime.NumGoroutine")&&(match fn.body with | some c=>codeOk fn.ntmps c | none=>false)&&fn.results.toList.all (resOk fn.ntmps)
def fnOkS (fn:Func):Bool:=
 !(fn.name== "runtime.NumGoroutine")&&(match fn.body with | some c=>codeOkS fn.ntmps c | none=>false)&&fn.results.toList.all (resOk fn.ntmps)
theorem codeOkS_ok {nt:Nat}:∀{c:Code},codeOkS nt c=true→codeOk nt c=true:=by
 intro c
 induction c with
 | region id ops dr=>
  intro h
  simp only[codeOkS,codeOk,Bool.and_eq_true,Bool.or_eq_true] at h ⊢
  exact⟨h.1,h.2.imp (fun h=>h) rOkS_rOk⟩
 | seq a b iha ihb=>intro h;simp only[codeOkS,codeOk,Bool.and_eq_true] at h ⊢;exact⟨iha h.1,ihb h.2⟩
 | cond c a b iha ihb=>intro h;simp only[codeOkS,codeOk,Bool.and_eq_true] at h ⊢;exact⟨⟨h.1.1,iha h.1.2⟩,ihb h.2⟩
 | block id c ih=>intro h;simp only[codeOkS,codeOk] at h ⊢;exact ih h
 | loop c ih=>intro h;simp only[codeOkS,codeOk] at h ⊢;exact ih h
 | _=>intro h;rfl
theorem fnOkS_ok {fn:Func} (h:fnOkS fn=true):fnOk fn=true:=by
 unfold fnOkS at h
 unfold fnOk
 rw[Bool.and_eq_true,Bool.and_eq_true] at h ⊢
 refine⟨⟨h.1.1,?_⟩,h.2⟩
 have h2:=h.1.2
 split at h2
 ·rename_i c hc;exact codeOkS_ok h2
 ·cases h2
def ares (P:Program) (e:Env) (H:AH):List ResultVar→Option (List Value)
 | []=>some []
 | .tmp t :: l=>match ares P e H l with
  | some vs=>some (e t :: vs)
  | none=>none
 | .cell a t :: l=>match e a with
  | .pointer (some ⟨id,k,sp⟩)=>match aload P H t id k with
   | some v=>match ares P e H l with
    | some vs=>some (v :: vs)
    | none=>none
   | none=>none
  | _=>none
def aout:List Value→Value
 | [v]=>v
 | vs=>.tuple vs.toArray
def env0 (args:Array Value):Env:=fun t=>args.getD t undef
def evF (P:Program):Nat→CallS
 | 0,_,_,_,_,_=>False
 | n+1,f,args,H,v,H'=>∃fn c x e' vs,P.funcs[f]?=some fn∧fn.body=some c∧fnOk fn=true∧args.size≤fn.ntmps∧evC P (evF P n) n c (env0 args) H x e' H'∧(x=.normal∨x=.ret)∧ares P e' H' fn.results.toList=some vs∧v=aout vs
section
variable {P:Program} {w0:World} {call:CallS} {nt:Nat}
theorem evOps_fin (hcall:CallOK P call) {dr:Bool} {ops:Array Oper}:∀(os:List Oper) {e:Env} {H:AH} {e':Env} {H':AH},evOps P call dr ops os e H e' H'→Fin' H→Fin' H'
 | [],_,_,_,_,h,hf=>by rw[h.2];exact hf
 | o :: os,e,H,e',H',h,hf=>by
  simp only[evOps] at h
  split at h
  ·obtain⟨v,H1,h1,h2,_⟩:=h
   exact evOps_fin hcall os h2 (evOp_fin hcall h1 hf)
  ·exact evOps_fin hcall os h hf
theorem evL_nle {body:CodeR} (hb:∀e H x e' H',body e H x e' H'→H.n≤H'.n):∀k {e H x e' H'},evL body k e H x e' H'→H.n≤H'.n
 | 0,_,_,_,_,_,h=>h.elim
 | k+1,e,H,x,e',H',h=>by
  obtain⟨x1,e1,H1,h1,h2⟩:=h
  have n1:=hb _ _ _ _ _ h1
  split at h2
  ·exact Nat.le_trans n1 (evL_nle hb k h2)
  ·rw[h2.2.2];exact n1
theorem evL_fin {body:CodeR} (hb:∀e H x e' H',body e H x e' H'→Fin' H→Fin' H'):∀k {e H x e' H'},evL body k e H x e' H'→Fin' H→Fin' H'
 | 0,_,_,_,_,_,h,_=>h.elim
 | k+1,e,H,x,e',H',h,hf=>by
  obtain⟨x1,e1,H1,h1,h2⟩:=h
  have n1:=hb _ _ _ _ _ h1 hf
  split at h2
  ·exact evL_fin hb k h2 n1
  ·rw[h2.2.2];exact n1
theorem evC_nle (hcall:CallOK P call) {n:Nat} (c:Code):∀{e H x e' H'},evC P call n c e H x e' H'→H.n≤H'.n:=by
 induction c with
 | skip=>intro e H x e' H' h;rw[h.2.2];exact Nat.le_refl _
 | label l=>intro e H x e' H' h;rw[h.2.2];exact Nat.le_refl _
 | region id ops dr=>intro e H x e' H' h;obtain⟨_,_,_,h⟩:=h;exact evOps_nle hcall _ h
 | seq a b iha ihb=>
  intro e H x e' H' h
  obtain⟨x1,e1,H1,h1,h2⟩:=h
  split at h2
  ·exact Nat.le_trans (iha h1) (ihb h2)
  ·rw[h2.2.2];exact iha h1
 | cond c a b iha ihb=>
  intro e H x e' H' h
  obtain⟨t,_,h2⟩:=h
  split at h2
  ·exact iha h2
  ·exact ihb h2
 | block id c ih=>intro e H x e' H' h;obtain⟨x1,h1,_⟩:=h;exact ih h1
 | loop c ih=>intro e H x e' H' h;exact evL_nle (fun _ _ _ _ _ h=>ih h) n h
 | exit id=>intro e H x e' H' h;rw[h.2.2];exact Nat.le_refl _
 | ret=>intro e H x e' H' h;rw[h.2.2];exact Nat.le_refl _
 | _=>intro e H x e' H' h;exact h.elim
theorem evC_fin (hcall:CallOK P call) {n:Nat} (c:Code):∀{e H x e' H'},evC P call n c e H x e' H'→Fin' H→Fin' H':=by
 induction c with
 | skip=>intro e H x e' H' h hf;rw[h.2.2];exact hf
 | label l=>intro e H x e' H' h hf;rw[h.2.2];exact hf
 | region id ops dr=>intro e H x e' H' h hf;obtain⟨_,_,_,h⟩:=h;exact evOps_fin hcall _ h hf
 | seq a b iha ihb=>
  intro e H x e' H' h hf
  obtain⟨x1,e1,H1,h1,h2⟩:=h
  split at h2
  ·exact ihb h2 (iha h1 hf)
  ·rw[h2.2.2];exact iha h1 hf
 | cond c a b iha ihb=>
  intro e H x e' H' h hf
  obtain⟨t,_,h2⟩:=h
  split at h2
  ·exact iha h2 hf
  ·exact ihb h2 hf
 | block id c ih=>intro e H x e' H' h hf;obtain⟨x1,h1,_⟩:=h;exact ih h1 hf
 | loop c ih=>intro e H x e' H' h hf;exact evL_fin (fun _ _ _ _ _ h hf=>ih h hf) n h hf
 | exit id=>intro e H x e' H' h hf;rw[h.2.2];exact hf
 | ret=>intro e H x e' H' h hf;rw[h.2.2];exact hf
 | _=>intro e H x e' H' h;exact h.elim
def CodeOK (P:Program) (w0:World) (nt:Nat) (c:Code) (R:CodeR):Prop:=
 ∀{e H x e' H'},R e H x e' H'→∀{ρ:Ren} {a:Act} {w:World},WR w0 ρ H w→Free ρ H.n H'.n→ER ρ e a nt→∀{Q:Exit→Act→World→Prop},
  (∀ρ' a' w',Step w0 ρ H w ρ' H' w'→ER ρ' e' a' nt→a'.defers=a.defers→Q x.ex a' w')→c.wp P Q a w
theorem loop_ok {c:Code} {R:CodeR} (hn:∀e H x e' H',R e H x e' H'→H.n≤H'.n) (hR:CodeOK P w0 nt c R):∀k {e H x e' H'},evL R k e H x e' H'→∀(ρ:Ren) (a:Act) (w:World),WR w0 ρ H w→Free ρ H.n H'.n→ER ρ e a nt→∀(Q:Exit→Act→World→Prop),
  (∀ρ' a' w',Step w0 ρ H w ρ' H' w'→ER ρ' e' a' nt→a'.defers=a.defers→Q x.ex a' w')→∀(b:Frame) (kk:List Item) (cs:List Frame),
   ∃ex a' w',Q ex a' w'∧Arrives P (lone (b.at a (.code c :: .inLoop c :: kk)) cs w) b kk cs ex a' w'
 | 0,_,_,_,_,_,h=>h.elim
 | k+1,e,H,x,e',H',h=>by
  intro ρ a w hw hf hE Q hK b kk cs
  obtain⟨x1,e1,H1,h1,h2⟩:=h
  have n1:=hn _ _ _ _ _ h1
  have n2:H1.n≤H'.n:=by
   split at h2
   ·exact evL_nle hn k h2
   ·rw[h2.2.2];exact Nat.le_refl _
  obtain⟨ex,a1,w1,⟨ρ1,hex,hst1,hE1,hd1⟩,harr⟩:=hR h1 hw (hf.left n2) hE (Q:=fun ex a1 w1=>∃ρ1,ex=x1.ex∧Step w0 ρ H w ρ1 H1 w1∧ER ρ1 e1 a1 nt∧a1.defers=a.defers) (fun ρ' a' w' s he hd=>⟨ρ',rfl,s,he,hd⟩) b (.inLoop c :: kk) cs
  subst hex
  by_cases hx1:x1=.normal
  ·rw[if_pos hx1] at h2
   subst hx1
   obtain⟨ex,a',w',hq,harr2⟩:=loop_ok hn hR k h2 _ _ _ hst1.wr (hf.right hst1 n2) hE1 Q (fun ρ' a' w' s he hd=>hK ρ' a' w' (hst1.trans s) he (hd.trans hd1)) b kk cs
   exact⟨ex,a',w',hq,.of_steps (Steps.trans harr (.one step_inLoop)) harr2⟩
  ·rw[if_neg hx1] at h2
   obtain⟨rfl,rfl,rfl⟩:=h2
   refine⟨x.ex,a1,w1,hK ρ1 a1 w1 hst1 hE1 hd1,.pass (x:=.inLoop c) rfl (fun _ _=>.inl ?_) harr⟩
   cases x<;>simp[AX.ex] at hx1 ⊢
theorem code_ok (hcall:CallOK P call) (hm:P.follows .mixedOrders=true) {n:Nat} (c:Code):codeOk nt c=true→CodeOK P w0 nt c (evC P call n c):=by
 induction c with
 | skip=>
  intro _ e H x e' H' h ρ a w hw hf hE Q hK
  obtain⟨rfl,rfl,rfl⟩:=h
  exact wp_skip (hK ρ a w (Step.refl hw) hE rfl)
 | label l=>
  intro _ e H x e' H' h ρ a w hw hf hE Q hK
  obtain⟨rfl,rfl,rfl⟩:=h
  exact wp_label (hK ρ a w (Step.refl hw) hE rfl)
 | region id ops dr=>
  intro hc e H x e' H' h ρ a w hw hf hE Q hK
  obtain⟨rfl,ops',hs,hv⟩:=h
  simp only[codeOk,Bool.and_eq_true,Bool.or_eq_true,Bool.not_eq_true'] at hc
  rcases hs with rfl | ⟨rfl,hs,hr⟩
  case inr=>exact draw_shuf hs hcall hm hr hc.1 hv hw hf hE hK
  cases dr with
  | false=>exact wp_region_list (ops_ok hcall hc.1 _ (fun o ho=>Array.all_eq_true_iff_forall_mem.1 hc.1 o (Array.mem_toList_iff.1 ho)) hv hw hf hE hK)
  | true=>
   have hr:rOk ops=true:=by
    rcases hc.2 with h | h
    ·cases h
    ·exact h
   exact draw_ok hcall hm hr hc.1 hv hw hf hE hK
 | seq c1 c2 ih1 ih2=>
  intro hc e H x e' H' h ρ a w hw hf hE Q hK
  simp only[codeOk,Bool.and_eq_true] at hc
  obtain⟨x1,e1,H1,h1,h2⟩:=h
  have n2:H1.n≤H'.n:=by
   split at h2
   ·exact evC_nle hcall _ h2
   ·rw[h2.2.2];exact Nat.le_refl _
  refine wp_seq (ih1 hc.1 h1 hw (hf.left n2) hE (fun ρ1 a1 w1 s1 hE1 hd1=>?_))
  by_cases hx1:x1=.normal
  ·rw[if_pos hx1] at h2
   subst hx1
   exact ih2 hc.2 h2 s1.wr (hf.right s1 n2) hE1 (fun ρ2 a2 w2 s2 hE2 hd2=>hK ρ2 a2 w2 (s1.trans s2) hE2 (hd2.trans hd1))
  ·rw[if_neg hx1] at h2
   obtain⟨rfl,rfl,rfl⟩:=h2
   have:=hK ρ1 a1 w1 s1 hE1 hd1
   cases x<;>first | exact absurd rfl hx1 | exact this
 | cond cnd c1 c2 ih1 ih2=>
  intro hc e H x e' H' h ρ a w hw hf hE Q hK
  simp only[codeOk,Bool.and_eq_true] at hc
  obtain⟨t,ht,h2⟩:=h
  have hv:=hE.ev hc.1.1
  rw[ht] at hv
  have hb:=hv.bool_
  refine wp_cond hb ?_
  cases t with
  | true=>exact ih1 hc.1.2 h2 hw hf hE hK
  | false=>exact ih2 hc.2 h2 hw hf hE hK
 | block id c ih=>
  intro hc e H x e' H' h ρ a w hw hf hE Q hK
  obtain⟨x1,h1,rfl⟩:=h
  refine wp_block (ih hc h1 hw hf hE (fun ρ1 a1 w1 s1 hE1 hd1=>?_))
  have hq:=hK ρ1 a1 w1 s1 hE1 hd1
  cases x1 with
  | normal=>exact hq
  | ret=>exact hq
  | exit id'=>
   show Exit.inBlock id Q (.exit id') a1 w1
   simp only[Exit.inBlock]
   by_cases hid:id'=id
   ·subst hid
    simpa [AX.ex] using hq
   ·have:¬(AX.exit id'=AX.exit id):=fun h=>hid (by injection h)
    rw[if_neg this] at hq
    simpa [hid,AX.ex] using hq
 | loop c ih=>
  intro hc e H x e' H' h ρ a w hw hf hE Q hK b kk cs
  obtain⟨ex,a',w',hq,harr⟩:=loop_ok (fun _ _ _ _ _ h=>evC_nle hcall c h) (ih hc) n h _ _ _ hw hf hE _ hK b kk cs
  exact⟨ex,a',w',hq,.of_steps (.one step_loop) harr⟩
 | exit id=>
  intro _ e H x e' H' h ρ a w hw hf hE Q hK
  obtain⟨rfl,rfl,rfl⟩:=h
  exact wp_exit (hK ρ a w (Step.refl hw) hE rfl)
 | ret=>
  intro _ e H x e' H' h ρ a w hw hf hE Q hK
  obtain⟨rfl,rfl,rfl⟩:=h
  exact wp_ret (hK ρ a w (Step.refl hw) hE rfl)
 | _=>intro _ e H x e' H' h;exact h.elim
def resF (tmps:Array Value):ResultVar→Sem Value
 | .tmp t=>pure (tmps.getD t undef)
 | .cell a t=>do loadVar t (← asAddr (tmps.getD a undef))
theorem results_eq (fn:Func) (tmps:Array Value):results fn tmps=(do let vs ← fn.results.mapM (resF tmps);pure (if h:vs.size=1 then vs[0] else .tuple vs)):=by
 unfold results
 congr 1
theorem ares_ok {ρ:Ren} {e:Env} {a:Act} {H:AH} {w:World} (hE:ER ρ e a nt) (hw:WR w0 ρ H w):∀(l:List ResultVar),l.all (resOk nt)=true→∀{vs:List Value},ares P e H l=some vs→
  ∃cs:List Value,(l.mapM (resF a.tmps)).run P w=.ok cs w∧cs.length=vs.length∧∀(i:Nat) v,vs[i]?=some v→∃c,cs[i]?=some c∧VR ρ v c
 | [],_,vs,h=>by
  simp only[ares] at h
  cases h
  exact⟨[],rfl,rfl,fun i v h=>by simp at h⟩
 | r :: l,hok,vs,h=>by
  simp only[List.all_cons,Bool.and_eq_true] at hok
  have cons:∀{v c:Value} {vs' cs':List Value},VR ρ v c→cs'.length=vs'.length→(∀(i:Nat) v,vs'[i]?=some v→∃c,cs'[i]?=some c∧VR ρ v c)→(c :: cs').length=(v :: vs').length∧∀(i:Nat) u,(v :: vs')[i]?=some u→∃d,(c :: cs')[i]?=some d∧VR ρ u d:=by
   intro v c vs' cs' hv hl hall
   refine⟨by simp[hl],fun i u hu=>?_⟩
   cases i with
   | zero=>simp at hu;subst hu;exact⟨c,by simp,hv⟩
   | succ i=>exact hall i u (by simpa using hu)
  cases r with
  | tmp t=>
   simp only[ares] at h
   split at h
   ·rename_i vs' hvs
    cases h
    obtain⟨cs,hrun,hl,hall⟩:=ares_ok hE hw l hok.2 hvs
    obtain⟨h1,h2⟩:=cons (hE.at_ t (by simpa [resOk] using hok.1)) hl hall
    refine⟨_,?_,h1,h2⟩
    simp only[List.mapM_cons,resF,Sem.run_bind,Sem.run_pure,Result.andThen_ok,hrun]
   ·cases h
  | cell ad t=>
   simp only[ares] at h
   split at h
   ·rename_i id k sp hp
    split at h
    ·rename_i v hv
     split at h
     ·rename_i vs' hvs
      cases h
      have hpr:=hE.at_ ad (by simpa [resOk] using hok.1)
      rw[hp] at hpr
      obtain⟨c,hvc,hload⟩:=aload_ok (P:=P) hw hpr hv
      obtain⟨l',hl',hc'⟩:=hpr.ptr_
      obtain⟨cs,hrun,hl,hall⟩:=ares_ok hE hw l hok.2 hvs
      obtain⟨h1,h2⟩:=cons hvc hl hall
      refine⟨_,?_,h1,h2⟩
      rw[hc'] at hload
      simp only[Instr.loadAt,Instr.sureAddr,Sem.run_bind,Sem.run_pure,Result.andThen_ok] at hload
      have h1':(resF a.tmps (.cell ad t)).run P w=.ok c w:=by simp only[resF,hc',asAddr,Sem.run_bind,Sem.run_pure,Result.andThen_ok,hload]
      simp only[List.mapM_cons,Sem.run_bind,Sem.run_pure,Result.andThen_ok,h1',hrun]
     ·cases h
    ·cases h
   ·cases h
theorem results_ok {ρ:Ren} {e:Env} {a:Act} {H:AH} {w:World} {fn:Func} (hE:ER ρ e a nt) (hw:WR w0 ρ H w) (hok:fn.results.toList.all (resOk nt)=true) {vs:List Value} (h:ares P e H fn.results.toList=some vs):
  ∃c,(results fn a.tmps).run P w=.ok c w∧VR ρ (aout vs) c:=by
 obtain⟨cs,hrun,hl,hall⟩:=ares_ok (P:=P) hE hw _ hok h
 rw[results_eq,Array.mapM_eq_mapM_toList]
 simp only[Sem.run_bind,Sem.run_map]
 rw[hrun]
 simp only[Result.andThen_ok]
 by_cases h1:cs.length=1
 ·obtain⟨c,rfl⟩:∃c,cs=[c]:=List.length_eq_one_iff.1 h1
  obtain⟨v,rfl⟩:∃v,vs=[v]:=List.length_eq_one_iff.1 (by rw[← hl];rfl)
  obtain⟨d,hd,hv⟩:=hall 0 v rfl
  simp at hd
  subst hd
  exact⟨c,by simp,hv⟩
 ·refine⟨.tuple cs.toArray,by simp[h1],?_⟩
  have:aout vs=.tuple vs.toArray:=by
   unfold aout
   split
   ·rename_i v;simp at hl;exact absurd hl h1
   ·rfl
  rw[this]
  refine .tup _ _ (by simp[hl]) (fun i hi=>?_)
  have hi':i<vs.length:=by simpa using hi
  obtain⟨d,hd,hv⟩:=hall i _ (List.getElem?_eq_getElem hi')
  rw[Array.getD_eq_getD_getElem?,Array.getD_eq_getD_getElem?,List.getElem?_toArray,List.getElem?_toArray,List.getElem?_eq_getElem hi',hd]
  exact hv
theorem evF_ok (hm:P.follows .mixedOrders=true):∀n,CallOK P (evF P n)
 | 0=>⟨fun _ _ _ _ _ h=>h.elim,fun _ _ _ _ _ h=>h.elim,fun _ _ _ _ _ h=>h.elim,fun _ _ _ _ _ h=>h.elim⟩
 | n+1=>by
  have ih:=evF_ok hm n
  refine⟨?_,?_,?_,?_⟩
  ·rintro f args H v H' ⟨fn,c,x,e',vs,hf,hb,hok,_⟩
   unfold fnOk at hok
   simp only[Bool.and_eq_true,Bool.not_eq_true'] at hok
   exact⟨fn,hf,by simp[hb],hok.1.1⟩
  ·rintro f args H v H' ⟨fn,c,x,e',vs,hf,hb,hok,hsz,hc,_⟩
   exact evC_nle ih c hc
  ·rintro f args H v H' ⟨fn,c,x,e',vs,hf,hb,hok,hsz,hc,_⟩ hfin
   exact evC_fin ih c hc hfin
  ·rintro f args H v H' ⟨fn,c,x,e',vs,hf,hb,hok,hsz,hc,hx,hres,rfl⟩ w0 ρ w args' hw hfr hvr
   unfold fnOk at hok
   simp only[Bool.and_eq_true,Bool.not_eq_true',hb] at hok
   refine calls_of_wp hf hb ?_
   have hE0:ER ρ (env0 args) {tmps:=args'++Array.replicate (fn.ntmps-args'.size) undef,defers:=[]} fn.ntmps:=by
    have hsz':args'.size≤fn.ntmps:=by rw[← hvr.1];exact hsz
    refine⟨by simp;omega,fun t ht=>?_⟩
    show VR ρ (args.getD t undef) _
    by_cases hlt:t<args'.size
    ·have:=hvr.get t
     simp only[Array.getD_eq_getD_getElem?] at this ⊢
     rw[Array.getElem?_append_left hlt]
     exact this
    ·have h1:args.getD t undef=undef:=by
      rw[Array.getD_eq_getD_getElem?,Array.getElem?_eq_none (by rw[hvr.1];omega)];rfl
     have h2:(args'++Array.replicate (fn.ntmps-args'.size) undef).getD t undef=undef:=by
      rw[Array.getD_eq_getD_getElem?,Array.getElem?_append_right (by omega),Array.getElem?_replicate]
      split<;>rfl
     rw[h1,h2]
     exact .undef ρ
   refine code_ok ih hm c hok.1.2 hc hw hfr hE0 (fun ρ' a' w' s hE hd=>?_)
   obtain⟨cv,hrun,hv⟩:=results_ok (P:=P) hE s.wr hok.2 hres
   rcases hx with rfl | rfl
   ·exact⟨hd,cv,hrun,ρ',cv,rfl,s,hv⟩
   ·exact⟨hd,cv,hrun,ρ',cv,rfl,s,hv⟩
end
section
variable {P:Program} {call call':CallS}
theorem evOp_mono (hc:∀f a H v H',call f a H v H'→call' f a H v H') {dr:Bool} {op:Op} {e:Env} {H H':AH} {v:Value} (h:evOp P call dr op e H v H'):evOp P call' dr op e H v H':=by
 unfold evOp at h ⊢
 split at h
 ·unfold evCall at h ⊢
  split at h
  ·obtain⟨v0,h0,h1,h2⟩:=h;exact⟨v0,h0,hc _ _ _ _ _ h1,h2⟩
  ·exact h.elim
 ·exact h
theorem evOps_mono (hc:∀f a H v H',call f a H v H'→call' f a H v H') {dr:Bool} {ops:Array Oper}:∀(os:List Oper) {e:Env} {H:AH} {e':Env} {H':AH},evOps P call dr ops os e H e' H'→evOps P call' dr ops os e H e' H'
 | [],_,_,_,_,h=>h
 | o :: os,e,H,e',H',h=>by
  simp only[evOps] at h ⊢
  split at h
  ·rename_i hw
   rw[if_pos hw]
   obtain⟨v,H1,h1,h2,h3⟩:=h
   exact⟨v,H1,evOp_mono hc h1,evOps_mono hc os h2,h3⟩
  ·rename_i hw
   rw[if_neg hw]
   exact evOps_mono hc os h
theorem evL_mono {b b':CodeR} (hb:∀e H x e' H',b e H x e' H'→b' e H x e' H'):∀(k m:Nat),k≤m→∀{e H x e' H'},evL b k e H x e' H'→evL b' m e H x e' H'
 | 0,_,_,_,_,_,_,_,h=>h.elim
 | k+1,0,hk,_,_,_,_,_,_=>by omega
 | k+1,m+1,hk,e,H,x,e',H',h=>by
  obtain⟨x1,e1,H1,h1,h2⟩:=h
  refine⟨x1,e1,H1,hb _ _ _ _ _ h1,?_⟩
  split at h2
  ·rename_i hx;rw[if_pos hx];exact evL_mono hb k m (by omega) h2
  ·rename_i hx;rw[if_neg hx];exact h2
theorem evC_mono (hc:∀f a H v H',call f a H v H'→call' f a H v H') {n m:Nat} (hn:n≤m) (c:Code):∀{e H x e' H'},evC P call n c e H x e' H'→evC P call' m c e H x e' H':=by
 induction c with
 | region id ops dr=>intro e H x e' H' h;obtain⟨h1,ops',h2,h3⟩:=h;exact⟨h1,ops',h2,evOps_mono hc _ h3⟩
 | seq a b iha ihb=>
  intro e H x e' H' h
  obtain⟨x1,e1,H1,h1,h2⟩:=h
  refine⟨x1,e1,H1,iha h1,?_⟩
  split at h2
  ·rename_i hx;rw[if_pos hx];exact ihb h2
  ·rename_i hx;rw[if_neg hx];exact h2
 | cond c a b iha ihb=>
  intro e H x e' H' h
  obtain⟨t,ht,h2⟩:=h
  refine⟨t,ht,?_⟩
  split at h2
  ·rename_i hx;rw[if_pos hx];exact iha h2
  ·rename_i hx;rw[if_neg hx];exact ihb h2
 | block id c ih=>intro e H x e' H' h;obtain⟨x1,h1,h2⟩:=h;exact⟨x1,ih h1,h2⟩
 | loop c ih=>intro e H x e' H' h;exact evL_mono (fun _ _ _ _ _ h=>ih h) n m hn h
 | _=>intro e H x e' H' h;exact h
theorem evF_step:∀n f a H v H',evF P n f a H v H'→evF P (n+1) f a H v H'
 | 0,_,_,_,_,_,h=>h.elim
 | n+1,f,a,H,v,H',h=>by
  obtain⟨fn,c,x,e',vs,h1,h2,h3,h4,h5,h6⟩:=h
  exact⟨fn,c,x,e',vs,h1,h2,h3,h4,evC_mono (evF_step n) (Nat.le_succ n) c h5,h6⟩
theorem evF_mono {n m:Nat} (h:n≤m):∀f a H v H',evF P n f a H v H'→evF P m f a H v H':=by
 obtain⟨d,rfl⟩:=Nat.exists_eq_add_of_le h
 clear h
 induction d with
 | zero=>exact fun _ _ _ _ _ h=>h
 | succ d ih=>exact fun f a H v H' h=>evF_step _ _ _ _ _ _ (ih f a H v H' h)
end
def Run (P:Program) (f:FuncId) (args:Array Value) (H:AH) (Q:Value→AH→Prop):Prop:=∃n v H',evF P n f args H v H'∧Q v H'
theorem Run.mono {P:Program} {f:FuncId} {args:Array Value} {H:AH} {Q Q':Value→AH→Prop} (h:Run P f args H Q) (hq:∀v H',Q v H'→Q' v H'):Run P f args H Q':=
 let ⟨n,v,H',h1,h2⟩:=h;⟨n,v,H',h1,hq v H' h2⟩
abbrev PostC:=AX→Env→AH→Prop
def Wc (P:Program) (c:Code) (Q:PostC) (e:Env) (H:AH):Prop:=∃n x e' H',evC P (evF P n) n c e H x e' H'∧Q x e' H'
def Wo (P:Program) (dr:Bool) (ops:Array Oper) (os:List Oper) (K:Env→AH→Prop) (e:Env) (H:AH):Prop:=∃n e' H',evOps P (evF P n) dr ops os e H e' H'∧K e' H'
section
variable {P:Program} {e:Env} {H:AH}
theorem Wc.mono {c:Code} {Q Q':PostC} (h:Wc P c Q e H) (hq:∀x e H,Q x e H→Q' x e H):Wc P c Q' e H:=
 let ⟨n,x,e',H',h1,h2⟩:=h;⟨n,x,e',H',h1,hq _ _ _ h2⟩
theorem up {n m:Nat} (h:n≤m) {c:Code} {x:AX} {e':Env} {H':AH} (k:evC P (evF P n) n c e H x e' H'):evC P (evF P m) m c e H x e' H':=evC_mono (evF_mono h) h c k
theorem Wc.seq {a b:Code} {Q:PostC} (h:Wc P a (fun x e H=>match x with | .normal=>Wc P b Q e H | x=>Q x e H) e H):Wc P (.seq a b) Q e H:=by
 obtain⟨n,x1,e1,H1,h1,h2⟩:=h
 by_cases hx:x1=.normal
 ·subst hx
  obtain⟨m,x,e',H',h3,h4⟩:=h2
  exact⟨max n m,x,e',H',⟨.normal,e1,H1,up (Nat.le_max_left _ _) h1,by rw[if_pos rfl];exact up (Nat.le_max_right _ _) h3⟩,h4⟩
 ·refine⟨n,x1,e1,H1,⟨x1,e1,H1,h1,by rw[if_neg hx];exact⟨rfl,rfl,rfl⟩⟩,?_⟩
  cases x1<;>first | exact absurd rfl hx | exact h2
theorem Wc.cond {c:Operand} {a b:Code} {Q:PostC} {t:Bool} (ht:ev e c=.bool t) (h1:t=true→Wc P a Q e H) (h2:t=false→Wc P b Q e H):Wc P (.cond c a b) Q e H:=by
 cases t with
 | true=>obtain⟨n,x,e',H',h,hq⟩:=h1 rfl;exact⟨n,x,e',H',⟨true,ht,h⟩,hq⟩
 | false=>obtain⟨n,x,e',H',h,hq⟩:=h2 rfl;exact⟨n,x,e',H',⟨false,ht,h⟩,hq⟩
theorem Wc.block {id:Nat} {c:Code} {Q:PostC} (h:Wc P c (fun x e H=>Q (if x=.exit id then .normal else x) e H) e H):Wc P (.block id c) Q e H:=by
 obtain⟨n,x,e',H',h1,h2⟩:=h
 exact⟨n,_,e',H',⟨x,h1,rfl⟩,h2⟩
theorem Wc.skip {Q:PostC} (h:Q .normal e H):Wc P .skip Q e H:=⟨0,_,_,_,⟨rfl,rfl,rfl⟩,h⟩
theorem Wc.label {l:Nat} {Q:PostC} (h:Q .normal e H):Wc P (.label l) Q e H:=⟨0,_,_,_,⟨rfl,rfl,rfl⟩,h⟩
theorem Wc.exit {id:Nat} {Q:PostC} (h:Q (.exit id) e H):Wc P (.exit id) Q e H:=⟨0,_,_,_,⟨rfl,rfl,rfl⟩,h⟩
theorem Wc.ret {Q:PostC} (h:Q .ret e H):Wc P .ret Q e H:=⟨0,_,_,_,⟨rfl,rfl,rfl⟩,h⟩
theorem Wc.region {id:Nat} {ops:Array Oper} {dr:Bool} {Q:PostC} (h:Wo P dr ops ops.toList (fun e H=>Q .normal e H) e H):Wc P (.region id ops dr) Q e H:=by
 obtain⟨n,e',H',h1,h2⟩:=h
 exact⟨n,_,e',H',⟨rfl,ops,.inl rfl,h1⟩,h2⟩
theorem Wc.loop {c:Code} {Q:PostC} (h:Wc P c (fun x e H=>match x with | .normal=>Wc P (.loop c) Q e H | x=>Q x e H) e H):Wc P (.loop c) Q e H:=by
 obtain⟨n,x1,e1,H1,h1,h2⟩:=h
 by_cases hx:x1=.normal
 ·subst hx
  obtain⟨m,x,e',H',h3,h4⟩:=h2
  refine⟨max n m+1,x,e',H',?_,h4⟩
  refine⟨.normal,e1,H1,up (by omega) h1,?_⟩
  rw[if_pos rfl]
  have h3':evL (evC P (evF P m) m c) m e1 H1 x e' H':=h3
  exact evL_mono (fun _ _ _ _ _ h=>evC_mono (evF_mono (by omega)) (by omega) c h) m (max n m) (by omega) h3'
 ·refine⟨n+1,x1,e1,H1,⟨x1,e1,H1,up (by omega) h1,by rw[if_neg hx];exact⟨rfl,rfl,rfl⟩⟩,?_⟩
  cases x1<;>first | exact absurd rfl hx | exact h2
theorem Wc.rounds {c:Code} {Q:PostC} (I:Nat→Env→AH→Prop) {k:Nat} (h0:I k e H) (step:∀k e H,I k e H→Wc P c (fun x e H=>match x with | .normal=>∃j,j<k∧I j e H | x=>Q x e H) e H):Wc P (.loop c) Q e H:=by
 induction k using Nat.strongRecOn generalizing e H with
 | _ k ih=>
  refine Wc.loop ((step k e H h0).mono fun x e H hx=>?_)
  cases x with
  | normal=>obtain⟨j,hj,hi⟩:=hx;exact ih j hj hi
  | exit id=>exact hx
  | ret=>exact hx
theorem Wo.nil {dr:Bool} {ops:Array Oper} {K:Env→AH→Prop} (h:K e H):Wo P dr ops [] K e H:=⟨0,e,H,⟨rfl,rfl⟩,h⟩
theorem Wo.pure {dr:Bool} {ops:Array Oper} {o:Oper} {os:List Oper} {K:Env→AH→Prop} {v:Value} (hw:want ops e o=true) (hc:opClass o.op=0) (hp:pop P o.op e=some v) (h:Wo P dr ops os K (put e o.dst v) H):Wo P dr ops (o :: os) K e H:=by
 obtain⟨n,e',H',h1,h2⟩:=h
 refine⟨n,e',H',?_,h2⟩
 simp only[evOps]
 rw[if_pos hw]
 refine⟨v,H,?_,h1,LOb.cls (by omega) (by omega)⟩
 unfold evOp
 split
 ·rename_i hop;rw[hop] at hc;simp[opClass] at hc
 ·rw[hc];exact⟨hp,rfl⟩
theorem Wo.heap {dr:Bool} {ops:Array Oper} {o:Oper} {os:List Oper} {K:Env→AH→Prop} {v:Value} {H1:AH} {tag:Option Nat} (hw:want ops e o=true) (hc:opClass o.op=1∨opClass o.op=2) (hp:hop P tag o.op e H=some (v,H1)) (hl:LOb dr ops (ops.size-os.length-1) o e H H1) (h:Wo P dr ops os K (put e o.dst v) H1):Wo P dr ops (o :: os) K e H:=by
 obtain⟨n,e',H',h1,h2⟩:=h
 refine⟨n,e',H',?_,h2⟩
 simp only[evOps]
 rw[if_pos hw]
 refine⟨v,H1,?_,h1,hl⟩
 unfold evOp
 split
 ·rename_i hop;rw[hop] at hc;simp[opClass] at hc
 ·split
  ·rename_i h0;omega
  ·exact⟨tag,hp⟩
theorem Wo.off {dr:Bool} {ops:Array Oper} {o:Oper} {os:List Oper} {K:Env→AH→Prop} (hw:want ops e o=false) (h:Wo P dr ops os K (put e o.dst undef) H):Wo P dr ops (o :: os) K e H:=by
 obtain⟨n,e',H',h1,h2⟩:=h
 refine⟨n,e',H',?_,h2⟩
 simp only[evOps]
 rw[if_neg (by simp[hw])]
 exact h1
theorem Wo.call {dr:Bool} {ops:Array Oper} {o:Oper} {os:List Oper} {K:Env→AH→Prop} {f:Operand} {xs:Array Operand} {ts:Array TypeId} {g:FuncId} {first cap:Array Value} (hw:want ops e o=true) (ho:o.op=.call {callee:=.value f,args:=xs,argTypes:=ts})
  (hf:ev e f=.func (.func g) first cap) (h:Run P g (untags (first++aargs e xs++cap)) H (fun v H1=>(drOf ops dr os=true→Ext H H1)∧Wo P dr ops os K (put e o.dst (untag v)) H1)):Wo P dr ops (o :: os) K e H:=by
 obtain⟨n,v,H1,h1,hx,m,e',H',h2,h3⟩:=h
 refine⟨max n m,e',H',?_,h3⟩
 simp only[evOps]
 rw[if_pos hw]
 refine⟨untag v,H1,?_,evOps_mono (evF_mono (Nat.le_max_right _ _)) _ h2,LOb.call (by rw[ho];simp[opClass]) hx⟩
 rw[ho]
 simp only[evOp,evCall,hf]
 exact⟨v,rfl,evF_mono (Nat.le_max_left _ _) _ _ _ _ _ h1,fun h=>hx (drN_drOf h)⟩
theorem Run.of {f:FuncId} {fn:Func} {c:Code} {args:Array Value} {Q:Value→AH→Prop} (hf:P.funcs[f]?=some fn) (hb:fn.body=some c) (hok:fnOk fn=true) (hs:args.size≤fn.ntmps)
  (h:Wc P c (fun x e H=>match x with | .exit _=>False | _=>match ares P e H fn.results.toList with | some vs=>Q (aout vs) H | none=>False) (env0 args) H):Run P f args H Q:=by
 obtain⟨n,x,e',H',h1,h2⟩:=h
 have hx:x=.normal∨x=.ret:=by cases x<;>simp at h2 ⊢
 have h2':match ares P e' H' fn.results.toList with | some vs=>Q (aout vs) H' | none=>False:=by cases x<;>first | exact h2 | exact h2.elim
 split at h2'
 ·rename_i vs hvs
  exact⟨n+1,aout vs,H',⟨fn,c,x,e',vs,hf,hb,hok,hs,h1,hx,hvs,rfl⟩,h2'⟩
 ·exact h2'.elim
end
end Go.Proofs.Ytlapbbffoapleaa.Am
