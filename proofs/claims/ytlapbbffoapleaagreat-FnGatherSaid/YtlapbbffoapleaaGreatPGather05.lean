/- Contracts and laws on abstract memory, merged. Each holds under its own conditions. -/
import Derived.Test.YtlapbbffoapleaaGreatPGather04
set_option linter.unusedVariables false
set_option linter.unusedSimpArgs false
set_option maxRecDepth 20000
set_option maxHeartbeats 4000000
namespace Go.Proofs.YtlapbbffoapleaaGreat.Am
open Go Go.RowKit Go.Proofs
section
variable {S:Ids} {H0:AH} {X D:Ids} {d:HD} {c:Cer} {dcs:List Value} {x:T_Deal}
theorem specDo9 {A B:Int} {did:Nat} (hd:DealOk x) (hB:B_Deal x) (hok:CerOk x c) (h:Hl HTS [.pointer (some ⟨did,0,none⟩)] [] S H0 X d c) (hD:K_Deal.R D H0 x dcs) (hDv:Has3 D H0 did 0 dcs) (hDD:∀id,D id→S id∧¬d.W id):
  SpecW Tryz.prog S H0 d.W 134 [.pointer (some ⟨d.hid,0,none⟩),.agg [.int .i64 9,.int .i64 A,.int .i64 B].toArray] (HlRes HTS [.pointer (some ⟨did,0,none⟩)] [] X d (doIt x c (9,A,B))):=by
 refine SpecW.of0 Tryz.func134 rfl (by kernel_rfl) rfl (fun H hfin hfz=>?_)
 haveI o:On S H0 (Low H.n) H:=⟨fun id hs=>⟨(hfz id hs).1,(hfz id hs).2⟩⟩
 have h:=h.on (S':=Low H.n) (A':=H)
 have hD:K_Deal.R D H x dcs:=K_Deal.same (fun id hid=>(hfz id (hDD id hid).1).2) hD
 have hDv:Has3 D H did 0 dcs:=by
  obtain⟨d0,b,d1,d2⟩:=hDv
  exact⟨d0,b,((hfz did (hDD did d0).1).2).trans d1,d2⟩
 have hDD:∀id,D id→id<H.n∧¬d.W id:=fun id hid=>⟨(hfz id (hDD id hid).1).1,(hDD id hid).2⟩
 have hDL:K_Deal.R (Low H.n) H x dcs:=K_Deal.more (fun id p=>(hDD id p).1) hD
 have hDvL:Has3 (Low H.n) H did 0 dcs:=⟨(hDD did hDv.1).1,hDv.2⟩
 obtain⟨d1,d2,d3,d4,d5,d6,d7,d8,rfl⟩:=form_Deal hD
 obtain⟨hid,sid,gid,bid,nid,w⟩:=d
 have hc:=h.cellsH
 have hh:=h.hall
 have hsl:=hok.sl
 have h7:=hd.sch.h7
 refine KW.cF U U (by first | (simp;done) | decide) ?_
 refine KW.cF U U (by first | (simp;done) | decide) ?_
 refine KW.cF U U (by first | (simp;done) | decide) ?_
 refine KW.cT U U (by first | (simp;done) | decide) ?_
 refine KW.callW h.w U U U U U (specRenew hd hB hok h hD hDv hDD A B) (fun v H6 S6 m6 t6 w6 hv=>?_)
 obtain⟨rfl,hp⟩:=hv
 refine KW.retW U U U U (fun H1 g=>by have:=g.n_;omega) (fun id p hw=>⟨(t6 id p).1,(t6 id p).2 hw⟩) (fun H7 g=>⟨rfl,?_⟩)
 refine HlPost.lift (HlPost.mem hp (fun id p=>(g.froz id ?_).2) (by have:=g.n_;omega)) (by omega) (by have:=g.n_;omega) rfl (fun id p=>.inl p) (fun id p=>.inl p)
 rcases p with p | p | p
 ·exact(t6 id (h.w id p)).1
 ·exact(t6 id (h.sx id p)).1
 ·exact w6 id p
theorem specDo3 {A B:Int} {did:Nat} (hd:DealOk x) (hB:B_Deal x) (hok:CerOk x c) (h:Hl HTS [.pointer (some ⟨did,0,none⟩)] [] S H0 X d c) (hD:K_Deal.R D H0 x dcs) (hDv:Has3 D H0 did 0 dcs) (hDD:∀id,D id→S id∧¬d.W id) (hA0:0≤A∧A≤999):
  SpecW Tryz.prog S H0 d.W 134 [.pointer (some ⟨d.hid,0,none⟩),.agg [.int .i64 3,.int .i64 A,.int .i64 B].toArray] (HlRes HTS [.pointer (some ⟨did,0,none⟩)] [] X d (doIt x c (3,A,B))):=by
 refine SpecW.of0 Tryz.func134 rfl (by kernel_rfl) rfl (fun H hfin hfz=>?_)
 haveI o:On S H0 (Low H.n) H:=⟨fun id hs=>⟨(hfz id hs).1,(hfz id hs).2⟩⟩
 have h:=h.on (S':=Low H.n) (A':=H)
 have hD:K_Deal.R D H x dcs:=K_Deal.same (fun id hid=>(hfz id (hDD id hid).1).2) hD
 have hDv:Has3 D H did 0 dcs:=by
  obtain⟨d0,b,d1,d2⟩:=hDv
  exact⟨d0,b,((hfz did (hDD did d0).1).2).trans d1,d2⟩
 have hDD:∀id,D id→id<H.n∧¬d.W id:=fun id hid=>⟨(hfz id (hDD id hid).1).1,(hDD id hid).2⟩
 have hDL:K_Deal.R (Low H.n) H x dcs:=K_Deal.more (fun id p=>(hDD id p).1) hD
 have hDvL:Has3 (Low H.n) H did 0 dcs:=⟨(hDD did hDv.1).1,hDv.2⟩
 obtain⟨d1,d2,d3,d4,d5,d6,d7,d8,rfl⟩:=form_Deal hD
 obtain⟨hid,sid,gid,bid,nid,w⟩:=d
 have hc:=h.cellsH
 have hh:=h.hall
 have hsl:=hok.sl
 have h7:=hd.sch.h7
 refine KW.cT U U (by first | (simp;done) | decide) ?_
 refine KW.cT U U (by first | (simp;done) | decide) ?_
 refine KW.callW h.w U U U U U (specWire3 (A:=A) (B:=B) hd hB hok h hD hDv hDD hA0) (fun v H6 S6 m6 t6 w6 hv=>?_)
 obtain⟨rfl,hp⟩:=hv
 refine KW.retW U U U U (fun H1 g=>by have:=g.n_;omega) (fun id p hw=>⟨(t6 id p).1,(t6 id p).2 hw⟩) (fun H7 g=>⟨rfl,?_⟩)
 refine HlPost.lift (HlPost.mem hp (fun id p=>(g.froz id ?_).2) (by have:=g.n_;omega)) (by omega) (by have:=g.n_;omega) rfl (fun id p=>.inl p) (fun id p=>.inl p)
 rcases p with p | p | p
 ·exact(t6 id (h.w id p)).1
 ·exact(t6 id (h.sx id p)).1
 ·exact w6 id p
theorem specDo4 {A B:Int} {did:Nat} (hd:DealOk x) (hB:B_Deal x) (hok:CerOk x c) (h:Hl HTS [.pointer (some ⟨did,0,none⟩)] [] S H0 X d c) (hD:K_Deal.R D H0 x dcs) (hDv:Has3 D H0 did 0 dcs) (hDD:∀id,D id→S id∧¬d.W id) (hA0:0≤A∧A≤999):
  SpecW Tryz.prog S H0 d.W 134 [.pointer (some ⟨d.hid,0,none⟩),.agg [.int .i64 4,.int .i64 A,.int .i64 B].toArray] (HlRes HTS [.pointer (some ⟨did,0,none⟩)] [] X d (doIt x c (4,A,B))):=by
 refine SpecW.of0 Tryz.func134 rfl (by kernel_rfl) rfl (fun H hfin hfz=>?_)
 haveI o:On S H0 (Low H.n) H:=⟨fun id hs=>⟨(hfz id hs).1,(hfz id hs).2⟩⟩
 have h:=h.on (S':=Low H.n) (A':=H)
 have hD:K_Deal.R D H x dcs:=K_Deal.same (fun id hid=>(hfz id (hDD id hid).1).2) hD
 have hDv:Has3 D H did 0 dcs:=by
  obtain⟨d0,b,d1,d2⟩:=hDv
  exact⟨d0,b,((hfz did (hDD did d0).1).2).trans d1,d2⟩
 have hDD:∀id,D id→id<H.n∧¬d.W id:=fun id hid=>⟨(hfz id (hDD id hid).1).1,(hDD id hid).2⟩
 have hDL:K_Deal.R (Low H.n) H x dcs:=K_Deal.more (fun id p=>(hDD id p).1) hD
 have hDvL:Has3 (Low H.n) H did 0 dcs:=⟨(hDD did hDv.1).1,hDv.2⟩
 obtain⟨d1,d2,d3,d4,d5,d6,d7,d8,rfl⟩:=form_Deal hD
 obtain⟨hid,sid,gid,bid,nid,w⟩:=d
 have hc:=h.cellsH
 have hh:=h.hall
 have hsl:=hok.sl
 have h7:=hd.sch.h7
 refine KW.cF U U (by first | (simp;done) | decide) ?_
 refine KW.cT U U (by first | (simp;done) | decide) ?_
 refine KW.cT U U (by first | (simp;done) | decide) ?_
 refine KW.callW h.w U U U U U (specWire4 (A:=A) (B:=B) hd hB hok h hD hDv hDD hA0) (fun v H6 S6 m6 t6 w6 hv=>?_)
 obtain⟨rfl,hp⟩:=hv
 refine KW.retW U U U U (fun H1 g=>by have:=g.n_;omega) (fun id p hw=>⟨(t6 id p).1,(t6 id p).2 hw⟩) (fun H7 g=>⟨rfl,?_⟩)
 refine HlPost.lift (HlPost.mem hp (fun id p=>(g.froz id ?_).2) (by have:=g.n_;omega)) (by omega) (by have:=g.n_;omega) rfl (fun id p=>.inl p) (fun id p=>.inl p)
 rcases p with p | p | p
 ·exact(t6 id (h.w id p)).1
 ·exact(t6 id (h.sx id p)).1
 ·exact w6 id p
theorem specDo5 {A B:Int} {did:Nat} (hd:DealOk x) (hB:B_Deal x) (hok:CerOk x c) (h:Hl HTS [.pointer (some ⟨did,0,none⟩)] [] S H0 X d c) (hD:K_Deal.R D H0 x dcs) (hDv:Has3 D H0 did 0 dcs) (hDD:∀id,D id→S id∧¬d.W id) (hA0:0≤A∧A≤999):
  SpecW Tryz.prog S H0 d.W 134 [.pointer (some ⟨d.hid,0,none⟩),.agg [.int .i64 5,.int .i64 A,.int .i64 B].toArray] (HlRes HTS [.pointer (some ⟨did,0,none⟩)] [] X d (doIt x c (5,A,B))):=by
 refine SpecW.of0 Tryz.func134 rfl (by kernel_rfl) rfl (fun H hfin hfz=>?_)
 haveI o:On S H0 (Low H.n) H:=⟨fun id hs=>⟨(hfz id hs).1,(hfz id hs).2⟩⟩
 have h:=h.on (S':=Low H.n) (A':=H)
 have hD:K_Deal.R D H x dcs:=K_Deal.same (fun id hid=>(hfz id (hDD id hid).1).2) hD
 have hDv:Has3 D H did 0 dcs:=by
  obtain⟨d0,b,d1,d2⟩:=hDv
  exact⟨d0,b,((hfz did (hDD did d0).1).2).trans d1,d2⟩
 have hDD:∀id,D id→id<H.n∧¬d.W id:=fun id hid=>⟨(hfz id (hDD id hid).1).1,(hDD id hid).2⟩
 have hDL:K_Deal.R (Low H.n) H x dcs:=K_Deal.more (fun id p=>(hDD id p).1) hD
 have hDvL:Has3 (Low H.n) H did 0 dcs:=⟨(hDD did hDv.1).1,hDv.2⟩
 obtain⟨d1,d2,d3,d4,d5,d6,d7,d8,rfl⟩:=form_Deal hD
 obtain⟨hid,sid,gid,bid,nid,w⟩:=d
 have hc:=h.cellsH
 have hh:=h.hall
 have hsl:=hok.sl
 have h7:=hd.sch.h7
 refine KW.cF U U (by first | (simp;done) | decide) ?_
 refine KW.cF U U (by first | (simp;done) | decide) ?_
 refine KW.cT U U (by first | (simp;done) | decide) ?_
 refine KW.callW h.w U U U U U (specWire5 (A:=A) (B:=B) hd hB hok h hD hDv hDD hA0) (fun v H6 S6 m6 t6 w6 hv=>?_)
 obtain⟨rfl,hp⟩:=hv
 refine KW.retW U U U U (fun H1 g=>by have:=g.n_;omega) (fun id p hw=>⟨(t6 id p).1,(t6 id p).2 hw⟩) (fun H7 g=>⟨rfl,?_⟩)
 refine HlPost.lift (HlPost.mem hp (fun id p=>(g.froz id ?_).2) (by have:=g.n_;omega)) (by omega) (by have:=g.n_;omega) rfl (fun id p=>.inl p) (fun id p=>.inl p)
 rcases p with p | p | p
 ·exact(t6 id (h.w id p)).1
 ·exact(t6 id (h.sx id p)).1
 ·exact w6 id p
theorem specDo1 {A B:Int} {did:Nat} (hd:DealOk x) (hB:B_Deal x) (hok:CerOk x c) (h:Hl HTS [.pointer (some ⟨did,0,none⟩)] [] S H0 X d c) (hD:K_Deal.R D H0 x dcs) (hDv:Has3 D H0 did 0 dcs) (hDD:∀id,D id→S id∧¬d.W id) (hA:HoOk x A):
  SpecW Tryz.prog S H0 d.W 134 [.pointer (some ⟨d.hid,0,none⟩),.agg [.int .i64 1,.int .i64 A,.int .i64 B].toArray] (HlRes HTS [.pointer (some ⟨did,0,none⟩)] [] X d (doIt x c (1,A,B))):=by
 refine SpecW.of0 Tryz.func134 rfl (by kernel_rfl) rfl (fun H hfin hfz=>?_)
 haveI o:On S H0 (Low H.n) H:=⟨fun id hs=>⟨(hfz id hs).1,(hfz id hs).2⟩⟩
 have h:=h.on (S':=Low H.n) (A':=H)
 have hD:K_Deal.R D H x dcs:=K_Deal.same (fun id hid=>(hfz id (hDD id hid).1).2) hD
 have hDv:Has3 D H did 0 dcs:=by
  obtain⟨d0,b,d1,d2⟩:=hDv
  exact⟨d0,b,((hfz did (hDD did d0).1).2).trans d1,d2⟩
 have hDD:∀id,D id→id<H.n∧¬d.W id:=fun id hid=>⟨(hfz id (hDD id hid).1).1,(hDD id hid).2⟩
 have hDL:K_Deal.R (Low H.n) H x dcs:=K_Deal.more (fun id p=>(hDD id p).1) hD
 have hDvL:Has3 (Low H.n) H did 0 dcs:=⟨(hDD did hDv.1).1,hDv.2⟩
 obtain⟨d1,d2,d3,d4,d5,d6,d7,d8,rfl⟩:=form_Deal hD
 obtain⟨hid,sid,gid,bid,nid,w⟩:=d
 have hc:=h.cellsH
 have hh:=h.hall
 have hsl:=hok.sl
 have h7:=hd.sch.h7
 have hA0:0≤A:=hA.1
 have hA1:A<x.1.1:=hA.2
 obtain⟨hs0,scs,hs1,hscl⟩:=h.seats
 simp only at hs0 hs1
 obtain⟨hse,hsok⟩:=hok.seat hA
 obtain⟨s,hs⟩:∃s,c.seat A=s:=⟨_,rfl⟩
 rw[hs] at hse hsok
 have hR:=hscl.2 _ _ hse
 obtain⟨ps,qs,hseg,hR1,hR2⟩:=split_Seat hR
 obtain⟨b1,e1,b2,e2,hps,hR3,hR4⟩:=split_Purse hR1
 obtain⟨b3,e3,b4,e4,hqs,hR5,hR6⟩:=split_Purse hR2
 have hle:A.toNat*7+7≤scs.length:=by have:=hscl.1;have h2:=mul_le' (e:=7) (List.getElem?_eq_some_iff.1 hse).1;have:c.seats.length*7≤scs.length:=this;omega
 have cel:∀(q:Nat) v,(ps++(qs++[.int .i64 s.2.2]):List Value)[q]?=some v→scs[0+A.toNat*7+q]?=some v:=fun q v hv=>by
  have:=seg_at hseg hv
  rw[Nat.zero_add];exact this
 refine KW.cF U U (by first | (simp;done) | decide) ?_
 refine KW.cF U U (by first | (simp;done) | decide) ?_
 refine KW.cF U U (by first | (simp;done) | decide) ?_
 refine KW.cF U U (by first | (simp;done) | decide) ?_
 refine KW.ldF 0 hc U U U U U U U U U ?_
 refine KW.ldF 0 hDvL U U U U U U U U U ?_
 refine KW.no U U (by omega) ?_
 refine KW.ldF 2 hc U U U U U U U U U ?_
 refine KW.idx0 U U U U U U U U U (by omega) (by show A<((c.seats.length:Nat):Int);omega) ?_
 refine KW.cT U U (by first | (simp;done) | decide) ?_
 refine KW.ldF 0 hc U U U U U U U U U ?_
 refine KW.ldF 1 hc U U U U U U U U U ?_
 obtain⟨E,J,hat⟩:=HoOk.at hd hA hok.ep
 refine KW.callN1 U U U U U (l08ValuesD x c.ep A hat hB hDvL hDL) (fun v H1 S1 m1 _ _ hv=>?_)
 obtain⟨a5,q5,rfl,hV⟩:=hv
 refine KW.ldF 1 hc.up U U U U U U U U U ?_
 refine KW.ldF 0 hc.up U U U U U U U U U ?_
 refine KW.ldF 1 hc.up U U U U U U U U U ?_
 refine KW.callN1 U U U U U (l08TagsD x c.ep A hat hB hDvL.up (On.R hDL) vals_len (vals_in hd.prime) hV.ups) (fun v H2 S2 m2 _ _ hv=>?_)
 obtain⟨a6,q6,rfl,hTg⟩:=hv
 refine KW.build U U U U U (built_Packet4 _ _ _ _ _ _ _ _) ?_
 have h2:=h.on (S':=S2) (A':=H2)
 have o1:=(inferInstance:On (New (H.n+1) H1.n) H1 S2 H2).st
 have o2:=(inferInstance:On (New H1.n H2.n) H2 S2 H2).st
 have o0:=(inferInstance:On (Low H.n) H S2 H2).st
 have lowW:∀id,HD.W ⟨hid,sid,gid,bid,nid,w⟩ id→id<H.n:=fun id p=>h.w id p
 refine KW.callW h2.w U U U U U (specSend (p:=(false,A,c.ep,valsD x c.ep A,tagsD x c.ep A (valsD x c.ep A))) (PX:=fun id=>New (H.n+1) H1.n id∨New H1.n H2.n id) h2 (mk_Packet (x:=(false,A,c.ep,valsD x c.ep A,tagsD x c.ep A (valsD x c.ep A))) (sl_mk hV.sl (fun id p=>⟨.inl p,(o1 id p).2⟩)) (sl_mk hTg.sl (fun id p=>⟨.inr p,(o2 id p).2⟩))) (fun id p=>⟨p.elim (fun p=>(o1 id p).1) (fun p=>(o2 id p).1),fun q=>by have:=lowW id q;rcases p with p | p<;>(have:=p.1;omega)⟩) hok.wl) (fun v H5 S5 m5 t5 w5 hv=>?_)
 have e:doIt x c (1,A,B)=send c (false,A,c.ep,valsD x c.ep A,tagsD x c.ep A (valsD x c.ep A)):=by
  show(if x.1.1≤A then(c,2) else send c _)=_
  rw[if_neg (by omega)]
 rw[e]
 obtain⟨rfl,hp⟩:=hv
 have xin:∀id,X id→id<H.n:=fun id p=>h.sx id p
 refine KW.retW U U U U (fun H1 g=>by have:=g.n_;omega) (fun id hid hw=>⟨(t5 id (o0 id hid).1).1,((t5 id (o0 id hid).1).2 hw).trans (o0 id hid).2⟩) (fun H6 g=>⟨rfl,?_⟩)
 refine HlPost.lift (HlPost.mem hp (fun id p=>(g.froz id ?_).2) (by have:=g.n_;omega)) (by omega) (by have:=g.n_;omega) rfl (fun id p=>?_) (fun id p=>.inl p)
 ·rcases p with p | p | p
  ·exact(t5 id (h2.w id p)).1
  ·rcases p with p | p | p
   ·exact(t5 id (o0 id (xin id p)).1).1
   ·exact(t5 id (o1 id p).1).1
   ·exact(t5 id (o2 id p).1).1
  ·exact w5 id p
 ·rcases p with p | p | p
  ·exact .inl p
  ·exact .inr ⟨by have:=p.1;omega,by have:=p.2;omega⟩
  ·exact .inr ⟨by have:=p.1;omega,by have:=p.2;omega⟩
theorem specDo2 {A B:Int} {did:Nat} (hd:DealOk x) (hB:B_Deal x) (hok:CerOk x c) (h:Hl HTS [.pointer (some ⟨did,0,none⟩)] [] S H0 X d c) (hD:K_Deal.R D H0 x dcs) (hDv:Has3 D H0 did 0 dcs) (hDD:∀id,D id→S id∧¬d.W id) (hA:HoOk x A):
  SpecW Tryz.prog S H0 d.W 134 [.pointer (some ⟨d.hid,0,none⟩),.agg [.int .i64 2,.int .i64 A,.int .i64 B].toArray] (HlRes HTS [.pointer (some ⟨did,0,none⟩)] [] X d (doIt x c (2,A,B))):=by
 refine SpecW.of0 Tryz.func134 rfl (by kernel_rfl) rfl (fun H hfin hfz=>?_)
 haveI o:On S H0 (Low H.n) H:=⟨fun id hs=>⟨(hfz id hs).1,(hfz id hs).2⟩⟩
 have h:=h.on (S':=Low H.n) (A':=H)
 have hD:K_Deal.R D H x dcs:=K_Deal.same (fun id hid=>(hfz id (hDD id hid).1).2) hD
 have hDv:Has3 D H did 0 dcs:=by
  obtain⟨d0,b,d1,d2⟩:=hDv
  exact⟨d0,b,((hfz did (hDD did d0).1).2).trans d1,d2⟩
 have hDD:∀id,D id→id<H.n∧¬d.W id:=fun id hid=>⟨(hfz id (hDD id hid).1).1,(hDD id hid).2⟩
 have hDL:K_Deal.R (Low H.n) H x dcs:=K_Deal.more (fun id p=>(hDD id p).1) hD
 have hDvL:Has3 (Low H.n) H did 0 dcs:=⟨(hDD did hDv.1).1,hDv.2⟩
 obtain⟨d1,d2,d3,d4,d5,d6,d7,d8,rfl⟩:=form_Deal hD
 obtain⟨hid,sid,gid,bid,nid,w⟩:=d
 have hc:=h.cellsH
 have hh:=h.hall
 have hsl:=hok.sl
 have h7:=hd.sch.h7
 have hA0:0≤A:=hA.1
 have hA1:A<x.1.1:=hA.2
 obtain⟨hs0,scs,hs1,hscl⟩:=h.seats
 simp only at hs0 hs1
 obtain⟨hse,hsok⟩:=hok.seat hA
 obtain⟨s,hs⟩:∃s,c.seat A=s:=⟨_,rfl⟩
 rw[hs] at hse hsok
 have hR:=hscl.2 _ _ hse
 obtain⟨ps,qs,hseg,hR1,hR2⟩:=split_Seat hR
 obtain⟨b1,e1,b2,e2,hps,hR3,hR4⟩:=split_Purse hR1
 obtain⟨b3,e3,b4,e4,hqs,hR5,hR6⟩:=split_Purse hR2
 have hle:A.toNat*7+7≤scs.length:=by have:=hscl.1;have h2:=mul_le' (e:=7) (List.getElem?_eq_some_iff.1 hse).1;have:c.seats.length*7≤scs.length:=this;omega
 have cel:∀(q:Nat) v,(ps++(qs++[.int .i64 s.2.2]):List Value)[q]?=some v→scs[0+A.toNat*7+q]?=some v:=fun q v hv=>by
  have:=seg_at hseg hv
  rw[Nat.zero_add];exact this
 refine KW.cF U U (by first | (simp;done) | decide) ?_
 refine KW.cF U U (by first | (simp;done) | decide) ?_
 refine KW.cF U U (by first | (simp;done) | decide) ?_
 refine KW.cF U U (by first | (simp;done) | decide) ?_
 refine KW.ldF 0 hc U U U U U U U U U ?_
 refine KW.ldF 0 hDvL U U U U U U U U U ?_
 refine KW.no U U (by omega) ?_
 refine KW.ldF 2 hc U U U U U U U U U ?_
 refine KW.idx0 U U U U U U U U U (by omega) (by show A<((c.seats.length:Nat):Int);omega) ?_
 refine KW.cF U U (by first | (simp;done) | decide) ?_
 refine KW.cT U U (by first | (simp;done) | decide) ?_
 have c0:scs[0+A.toNat*7]?=some (.int .i64 s.1.1):=cel 0 _ (by rw[hps];rfl)
 have c1:scs[0+A.toNat*7+1]?=some (.slice b1 s.1.2.1.length e1):=cel 1 _ (by rw[hps];rfl)
 have c2:scs[0+A.toNat*7+2]?=some (.slice b2 s.1.2.2.length e2):=cel 2 _ (by rw[hps];rfl)
 have c6:scs[0+A.toNat*7+6]?=some (.int .i64 s.2.2):=cel 6 _ (by rw[hps,hqs];rfl)
 have e:doIt x c (2,A,B)=if s.1.1=-1 then(c,4) else send c (true,A,s.1.1,lieOf x.1.2.2.1 s.1.2.1 s.2.2,s.1.2.2):=by
  show(if x.1.1≤A then(c,2) else if(c.seat A).1.1=-1 then(c,4) else send c _)=_
  rw[if_neg (by omega),hs]
 rw[e]
 refine KW.ldC hs0 hs1 c0 U U U U U U U ?_
 refine KW.cnd U U (fun k1=>?_) (fun k1=>?_)
 ·have k1:s.1.1=-1:=k1
  rw[if_pos k1]
  exact KW.retW U U U U (fun H1 g=>by have:=g.n_;omega) (fun id hid _=>⟨hid,rfl⟩) (fun H1 g=>⟨rfl,HlPost.same h (fun id p=>p) (fun id hid=>(g.froz id hid).2)⟩)
 have k1:¬s.1.1=-1:=k1
 rw[if_neg k1]
 have hpu:=hsok.pu.resolve_left (fun q=>k1 q.1)
 have hol:x.1.2.1.length≤1048576:=hB.1.2.1
 have hrl:=rowsOf_len x.1.2.1 A
 have hvl:s.1.2.1.length≤1048576:=by have:=hpu.2.vl;omega
 have htl:s.1.2.2.length≤1048576:=by have:=hpu.2.tl;omega
 refine KW.ldF 0 hc U U U U U U U U U ?_
 refine KW.ldF 2 hDvL U U U U U U U U U ?_
 refine KW.ldC hs0 hs1 c1 U U U U U U U ?_
 refine KW.ldC hs0 hs1 c6 U U U U U U U ?_
 have hlie:=hsok.lie
 refine KW.callN1 U U U U U (l08Lying x.1.2.2.1 hd.prime s.2.2 (by omega) hvl hpu.2.ve (hR3.more h.sx)) (fun v H1 S1 m1 _ _ hv=>?_)
 obtain⟨a5,q5,rfl,hV⟩:=hv
 have hb1:=On.blk (S':=S1) (H':=H1) hs0 hs1
 refine KW.ldC hb1.1 hb1.2 c0 U U U U U U U ?_
 refine KW.ldC hb1.1 hb1.2 c2 U U U U U U U ?_
 refine KW.callN1 U U U U U (l00Own htl (hR4.more h.sx).up) (fun v H2 S2 m2 _ _ hv=>?_)
 obtain⟨a6,q6,rfl,hTg⟩:=hv
 refine KW.build U U U U U (built_Packet5 _ _ _ _ _ _ _ _ _) ?_
 have h2:=h.on (S':=S2) (A':=H2)
 have o1:=(inferInstance:On (New (H.n+1) H1.n) H1 S2 H2).st
 have o2:=(inferInstance:On (New H1.n H2.n) H2 S2 H2).st
 have o0:=(inferInstance:On (Low H.n) H S2 H2).st
 have lowW:∀id,HD.W ⟨hid,sid,gid,bid,nid,w⟩ id→id<H.n:=fun id p=>h.w id p
 have xin:∀id,X id→id<H.n:=fun id p=>h.sx id p
 have hll:(lieOf x.1.2.2.1 s.1.2.1 s.2.2).length=s.1.2.1.length:=lie_len
 refine KW.callW h2.w U U U U U (specSend (p:=(true,A,s.1.1,lieOf x.1.2.2.1 s.1.2.1 s.2.2,s.1.2.2)) (PX:=fun id=>New (H.n+1) H1.n id∨New H1.n H2.n id) h2 (mk_Packet (x:=(true,A,s.1.1,lieOf x.1.2.2.1 s.1.2.1 s.2.2,s.1.2.2)) (sl_mk hV.sl (fun id p=>⟨.inl p,(o1 id p).2⟩)) (sl_mk hTg.sl (fun id p=>⟨.inr p,(o2 id p).2⟩))) (fun id p=>⟨p.elim (fun p=>(o1 id p).1) (fun p=>(o2 id p).1),fun q=>by have:=lowW id q;rcases p with p | p<;>(have:=p.1;omega)⟩) hok.wl) (fun v H5 S5 m5 t5 w5 hv=>?_)
 obtain⟨rfl,hp⟩:=hv
 refine KW.retW U U U U (fun H1 g=>by have:=g.n_;omega) (fun id hid hw=>⟨(t5 id (o0 id hid).1).1,((t5 id (o0 id hid).1).2 hw).trans (o0 id hid).2⟩) (fun H6 g=>⟨rfl,?_⟩)
 refine HlPost.lift (HlPost.mem hp (fun id p=>(g.froz id ?_).2) (by have:=g.n_;omega)) (by omega) (by have:=g.n_;omega) rfl (fun id p=>?_) (fun id p=>.inl p)
 ·rcases p with p | p | p
  ·exact(t5 id (h2.w id p)).1
  ·rcases p with p | p | p
   ·exact(t5 id (o0 id (xin id p)).1).1
   ·exact(t5 id (o1 id p).1).1
   ·exact(t5 id (o2 id p).1).1
  ·exact w5 id p
 ·rcases p with p | p | p
  ·exact .inl p
  ·exact .inr ⟨by have:=p.1;omega,by have:=p.2;omega⟩
  ·exact .inr ⟨by have:=p.1;omega,by have:=p.2;omega⟩
theorem specDo6 {A B:Int} {did:Nat} (hd:DealOk x) (hB:B_Deal x) (hok:CerOk x c) (h:Hl HTS [.pointer (some ⟨did,0,none⟩)] [] S H0 X d c) (hD:K_Deal.R D H0 x dcs) (hDv:Has3 D H0 did 0 dcs) (hDD:∀id,D id→S id∧¬d.W id) (hA:HoOk x A):
  SpecW Tryz.prog S H0 d.W 134 [.pointer (some ⟨d.hid,0,none⟩),.agg [.int .i64 6,.int .i64 A,.int .i64 B].toArray] (HlRes HTS [.pointer (some ⟨did,0,none⟩)] [] X d (doIt x c (6,A,B))):=by
 refine SpecW.of0 Tryz.func134 rfl (by kernel_rfl) rfl (fun H hfin hfz=>?_)
 haveI o:On S H0 (Low H.n) H:=⟨fun id hs=>⟨(hfz id hs).1,(hfz id hs).2⟩⟩
 have h:=h.on (S':=Low H.n) (A':=H)
 have hD:K_Deal.R D H x dcs:=K_Deal.same (fun id hid=>(hfz id (hDD id hid).1).2) hD
 have hDv:Has3 D H did 0 dcs:=by
  obtain⟨d0,b,d1,d2⟩:=hDv
  exact⟨d0,b,((hfz did (hDD did d0).1).2).trans d1,d2⟩
 have hDD:∀id,D id→id<H.n∧¬d.W id:=fun id hid=>⟨(hfz id (hDD id hid).1).1,(hDD id hid).2⟩
 have hDL:K_Deal.R (Low H.n) H x dcs:=K_Deal.more (fun id p=>(hDD id p).1) hD
 have hDvL:Has3 (Low H.n) H did 0 dcs:=⟨(hDD did hDv.1).1,hDv.2⟩
 obtain⟨d1,d2,d3,d4,d5,d6,d7,d8,rfl⟩:=form_Deal hD
 obtain⟨hid,sid,gid,bid,nid,w⟩:=d
 have hc:=h.cellsH
 have hh:=h.hall
 have hsl:=hok.sl
 have h7:=hd.sch.h7
 have hA0:0≤A:=hA.1
 have hA1:A<x.1.1:=hA.2
 obtain⟨hs0,scs,hs1,hscl⟩:=h.seats
 simp only at hs0 hs1
 obtain⟨hse,hsok⟩:=hok.seat hA
 obtain⟨s,hs⟩:∃s,c.seat A=s:=⟨_,rfl⟩
 rw[hs] at hse hsok
 have hR:=hscl.2 _ _ hse
 obtain⟨ps,qs,hseg,hR1,hR2⟩:=split_Seat hR
 obtain⟨b1,e1,b2,e2,hps,hR3,hR4⟩:=split_Purse hR1
 obtain⟨b3,e3,b4,e4,hqs,hR5,hR6⟩:=split_Purse hR2
 have hle:A.toNat*7+7≤scs.length:=by have:=hscl.1;have h2:=mul_le' (e:=7) (List.getElem?_eq_some_iff.1 hse).1;have:c.seats.length*7≤scs.length:=this;omega
 have cel:∀(q:Nat) v,(ps++(qs++[.int .i64 s.2.2]):List Value)[q]?=some v→scs[0+A.toNat*7+q]?=some v:=fun q v hv=>by
  have:=seg_at hseg hv
  rw[Nat.zero_add];exact this
 refine KW.cF U U (by first | (simp;done) | decide) ?_
 refine KW.cF U U (by first | (simp;done) | decide) ?_
 refine KW.cF U U (by first | (simp;done) | decide) ?_
 refine KW.cF U U (by first | (simp;done) | decide) ?_
 refine KW.ldF 0 hc U U U U U U U U U ?_
 refine KW.ldF 0 hDvL U U U U U U U U U ?_
 refine KW.no U U (by omega) ?_
 refine KW.ldF 2 hc U U U U U U U U U ?_
 refine KW.idx0 U U U U U U U U U (by omega) (by show A<((c.seats.length:Nat):Int);omega) ?_
 refine KW.cF U U (by first | (simp;done) | decide) ?_
 refine KW.cF U U (by first | (simp;done) | decide) ?_
 refine KW.cT U U (by first | (simp;done) | decide) ?_
 refine KW.ldF 0 hc U U U U U U U U U ?_
 refine KW.ldF 2 hDvL U U U U U U U U U ?_
 have e:doIt x c (6,A,B)=if x.1.2.2.1≤B then(c,2) else(setS c A (s.1,s.2.1,B),0):=by
  show(if x.1.1≤A then(c,2) else if x.1.2.2.1≤B then(c,2) else(setS c A ((c.seat A).1,(c.seat A).2.1,B),0))=_
  rw[if_neg (by omega),hs]
 rw[e]
 refine KW.cnd U U (fun k1=>?_) (fun k1=>?_)
 ·have k1:B≥x.1.2.2.1:=k1
  rw[if_pos (by omega)]
  exact KW.retW U U U U (fun H1 g=>by have:=g.n_;omega) (fun id hid _=>⟨hid,rfl⟩) (fun H1 g=>⟨rfl,HlPost.same h (fun id p=>p) (fun id hid=>(g.froz id hid).2)⟩)
 ·have k1:¬B≥x.1.2.2.1:=k1
  rw[if_neg (by omega)]
  refine KW.thaw sid _ hs0 hs1 ?_
  refine KW.st1 1 U U U U U U U U U U U U (by show 0+A.toNat*7+6<scs.length;omega) ?_
  refine KW.retW U U U U (fun H1 g=>by have:=g.n_;omega) (fun id hid hw=>⟨⟨hid,fun e=>hw (by rw[e];exact HD.Win.2.1)⟩,rfl⟩) (fun H1 g=>⟨rfl,HlPost.weak (X:=fun id=>X id∨False) ?_ (fun id p=>p.elim (fun p=>p) (fun p=>p.elim))⟩)
  have hnew:H1.m sid=some ⟨51,true,scs.set (0+A.toNat*7+6) (.int .i64 B)⟩:=(g.blk (j:=1) rfl).1
  have hcl:=hscl.part (y:=(s.1,s.2.1,B)) (a:=ps++qs) (b:=[.int .i64 s.2.2]) (r:=[]) (b':=[.int .i64 B]) (X':=fun id=>X id∨False) hse (by rw[hseg,List.append_assoc];rfl) rfl (fun id p=>.inl p) (by rw[List.append_assoc];exact mk_Seat (x:=(s.1,s.2.1,B)) (K_Purse.more (fun id p=>.inl p) hR1) (K_Purse.more (fun id p=>.inl p) hR2))
  have e0:0+A.toNat*7+6=A.toNat*K_Seat.es+(ps++qs).length:=by rw[hps,hqs];show 0+A.toNat*7+6=A.toNat*7+6;omega
  refine h.reSeats (PX:=fun _=>False) (fun id p=>p.elim) (by simp) (fun id h1 h2=>(g.froz id ⟨h1,h2⟩).2) (cs:=splice scs (A.toNat*K_Seat.es+(ps++qs).length) [.int .i64 B]) ?_ hcl.1
  rw[← e0,splice_one (by omega)]
  exact hnew
theorem specDo7 {A B:Int} {did:Nat} (hd:DealOk x) (hB:B_Deal x) (hok:CerOk x c) (h:Hl HTS [.pointer (some ⟨did,0,none⟩)] [] S H0 X d c) (hD:K_Deal.R D H0 x dcs) (hDv:Has3 D H0 did 0 dcs) (hDD:∀id,D id→S id∧¬d.W id) (hA:HoOk x A):
  SpecW Tryz.prog S H0 d.W 134 [.pointer (some ⟨d.hid,0,none⟩),.agg [.int .i64 7,.int .i64 A,.int .i64 B].toArray] (HlRes HTS [.pointer (some ⟨did,0,none⟩)] [] X d (doIt x c (7,A,B))):=by
 refine SpecW.of0 Tryz.func134 rfl (by kernel_rfl) rfl (fun H hfin hfz=>?_)
 haveI o:On S H0 (Low H.n) H:=⟨fun id hs=>⟨(hfz id hs).1,(hfz id hs).2⟩⟩
 have h:=h.on (S':=Low H.n) (A':=H)
 have hD:K_Deal.R D H x dcs:=K_Deal.same (fun id hid=>(hfz id (hDD id hid).1).2) hD
 have hDv:Has3 D H did 0 dcs:=by
  obtain⟨d0,b,d1,d2⟩:=hDv
  exact⟨d0,b,((hfz did (hDD did d0).1).2).trans d1,d2⟩
 have hDD:∀id,D id→id<H.n∧¬d.W id:=fun id hid=>⟨(hfz id (hDD id hid).1).1,(hDD id hid).2⟩
 have hDL:K_Deal.R (Low H.n) H x dcs:=K_Deal.more (fun id p=>(hDD id p).1) hD
 have hDvL:Has3 (Low H.n) H did 0 dcs:=⟨(hDD did hDv.1).1,hDv.2⟩
 obtain⟨d1,d2,d3,d4,d5,d6,d7,d8,rfl⟩:=form_Deal hD
 obtain⟨hid,sid,gid,bid,nid,w⟩:=d
 have hc:=h.cellsH
 have hh:=h.hall
 have hsl:=hok.sl
 have h7:=hd.sch.h7
 have hA0:0≤A:=hA.1
 have hA1:A<x.1.1:=hA.2
 obtain⟨hs0,scs,hs1,hscl⟩:=h.seats
 simp only at hs0 hs1
 obtain⟨hse,hsok⟩:=hok.seat hA
 obtain⟨s,hs⟩:∃s,c.seat A=s:=⟨_,rfl⟩
 rw[hs] at hse hsok
 have hR:=hscl.2 _ _ hse
 obtain⟨ps,qs,hseg,hR1,hR2⟩:=split_Seat hR
 obtain⟨b1,e1,b2,e2,hps,hR3,hR4⟩:=split_Purse hR1
 obtain⟨b3,e3,b4,e4,hqs,hR5,hR6⟩:=split_Purse hR2
 have hle:A.toNat*7+7≤scs.length:=by have:=hscl.1;have h2:=mul_le' (e:=7) (List.getElem?_eq_some_iff.1 hse).1;have:c.seats.length*7≤scs.length:=this;omega
 have cel:∀(q:Nat) v,(ps++(qs++[.int .i64 s.2.2]):List Value)[q]?=some v→scs[0+A.toNat*7+q]?=some v:=fun q v hv=>by
  have:=seg_at hseg hv
  rw[Nat.zero_add];exact this
 refine KW.cF U U (by first | (simp;done) | decide) ?_
 refine KW.cF U U (by first | (simp;done) | decide) ?_
 refine KW.cF U U (by first | (simp;done) | decide) ?_
 refine KW.cF U U (by first | (simp;done) | decide) ?_
 refine KW.ldF 0 hc U U U U U U U U U ?_
 refine KW.ldF 0 hDvL U U U U U U U U U ?_
 refine KW.no U U (by omega) ?_
 refine KW.ldF 2 hc U U U U U U U U U ?_
 refine KW.idx0 U U U U U U U U U (by omega) (by show A<((c.seats.length:Nat):Int);omega) ?_
 refine KW.cF U U (by first | (simp;done) | decide) ?_
 refine KW.cF U U (by first | (simp;done) | decide) ?_
 refine KW.cF U U (by first | (simp;done) | decide) ?_
 refine KW.cT U U (by first | (simp;done) | decide) ?_
 have hsrc:(scs.drop (0+A.toNat*7+0)).take 3=[.int .i64 s.1.1,.slice b1 s.1.2.1.length e1,.slice b2 s.1.2.2.length e2]:=seg_of rfl (fun q v hv=>by
  have hv':(ps++(qs++[.int .i64 s.2.2]):List Value)[0+q]?=some v:=by
   rw[hps,hqs]
   match q,hv with
   | 0,hv=>exact hv
   | 1,hv=>exact hv
   | 2,hv=>exact hv
   | q+3,hv=>simp at hv
  have:=cel (0+q) v hv'
  rwa [← Nat.add_assoc] at this)
 have hol:x.1.2.1.length≤1048576:=hB.1.2.1
 have hrl:=rowsOf_len x.1.2.1 A
 have hvl:s.1.2.1.length≤1048576:=by rcases hsok.pu with q | q;rw[q.2.1];simp;have:=q.2.vl;omega
 have htl:s.1.2.2.length≤1048576:=by rcases hsok.pu with q | q;rw[q.2.2];simp;have:=q.2.tl;omega
 refine KW.ldP hs0 hs1 U U U U U (bload_seg (ps:=[.int .i64 s.1.1,.slice b1 s.1.2.1.length e1,.slice b2 s.1.2.2.length e2]) U U U (by show 0+A.toNat*7+0+3≤scs.length;omega) hsrc) ?_
 have hRL:K_Purse.R (Low H.n) H s.1 [.int .i64 s.1.1,.slice b1 s.1.2.1.length e1,.slice b2 s.1.2.2.length e2]:=K_Purse.more h.sx (mk_Purse hR3 hR4)
 refine KW.callN1 U U U U U (l08PurseS hRL hvl htl) (fun v H1 S1 m1 _ _ hv=>?_)
 obtain⟨a1,q1,a2,q2,rfl,hO1,hO2⟩:=hv
 have o0:=(inferInstance:On (Low H.n) H S1 H1).st
 have o1:=(inferInstance:On (New (H.n+1) H1.n) H1 S1 H1).st
 refine KW.thaw sid _ (o0 sid hs0).1 ((o0 sid hs0).2.trans hs1) ?_
 refine KW.stB 1 U U U U U U (bstore_agg U U U (by show 0+A.toNat*7+3+3≤scs.length;omega) rfl) ?_
 have e:doIt x c (7,A,B)=(setS c A (s.1,s.1,s.2.2),0):=by
  have h1:¬x.1.1≤A:=by omega
  show(if x.1.1≤A then(c,2) else(setS c A ((c.seat A).1,(c.seat A).1,(c.seat A).2.2),0))=_
  rw[if_neg h1,hs]
 rw[e]
 refine KW.retW U U U U (fun H1 g=>by have:=g.n_;omega) (fun id hid hw=>⟨⟨(o0 id hid).1,fun e=>hw (by rw[e];exact HD.Win.2.1)⟩,(o0 id hid).2⟩) (fun H3 g=>⟨rfl,?_⟩)
 have hn3:=g.n_
 have hsn:sid<H.n:=hs0
 have hnew:=(g.blk (j:=1) rfl).1
 have xk:∀id,X id→H3.m id=H.m id:=fun id p=>by
  have p0:=h.sx id p
  exact((g.froz id ⟨(o0 id p0).1,fun e=>h.out id p (by rw[e];exact HD.Win.2.1)⟩).2).trans (o0 id p0).2
 have nw:∀id,New (H.n+1) H1.n id→(X id∨New H.n H3.n id)∧H3.m id=H1.m id:=fun id p=>by
  have q1:=o1 id p
  have p1:=p.1
  have p2:=p.2
  have q3:=g.froz id ⟨q1.1,by omega⟩
  exact⟨.inr ⟨by omega,by omega⟩,q3.2⟩
 have hN1:KI.Sl (fun id=>X id∨New H.n H3.n id) H3 (.slice a1 s.1.2.1.length q1) s.1.2.1:=sl_mk hO1 nw
 have hN2:KI.Sl (fun id=>X id∨New H.n H3.n id) H3 (.slice a2 s.1.2.2.length q2) s.1.2.2:=sl_mk hO2 nw
 have hscl3:Cl K_Seat X H3 c.seats scs:=hscl.mv xk (fun _ p=>p)
 have hR1':K_Purse.R X H3 _ _:=K_Purse.same xk hR1
 have hR2':K_Purse.R X H3 _ _:=K_Purse.same xk hR2
 have hcl:=hscl3.part (y:=(s.1,s.1,s.2.2)) (a:=ps) (b:=qs) (r:=[.int .i64 s.2.2]) (b':=[.int .i64 s.1.1,.slice a1 s.1.2.1.length q1,.slice a2 s.1.2.2.length q2]) (X':=fun id=>X id∨New H.n H3.n id) hse hseg (by rw[hqs];rfl) (fun id p=>.inl p) (mk_Seat (x:=(s.1,s.1,s.2.2)) (K_Purse.more (fun id p=>.inl p) hR1') (mk_Purse hN1 hN2))
 have e0:0+A.toNat*7+3=A.toNat*K_Seat.es+ps.length:=by rw[hps];show 0+A.toNat*7+3=A.toNat*7+3;omega
 refine h.reSeatsN (by simp) (fun id h1 h2=>((g.froz id ⟨(o0 id h1).1,h2⟩).2).trans (o0 id h1).2) (cs:=splice scs _ _) ?_ hcl.1
 rw[← e0]
 exact hnew
theorem specDo8 {A B:Int} {did:Nat} (hd:DealOk x) (hB:B_Deal x) (hok:CerOk x c) (h:Hl HTS [.pointer (some ⟨did,0,none⟩)] [] S H0 X d c) (hD:K_Deal.R D H0 x dcs) (hDv:Has3 D H0 did 0 dcs) (hDD:∀id,D id→S id∧¬d.W id) (hA:HoOk x A):
  SpecW Tryz.prog S H0 d.W 134 [.pointer (some ⟨d.hid,0,none⟩),.agg [.int .i64 8,.int .i64 A,.int .i64 B].toArray] (HlRes HTS [.pointer (some ⟨did,0,none⟩)] [] X d (doIt x c (8,A,B))):=by
 refine SpecW.of0 Tryz.func134 rfl (by kernel_rfl) rfl (fun H hfin hfz=>?_)
 haveI o:On S H0 (Low H.n) H:=⟨fun id hs=>⟨(hfz id hs).1,(hfz id hs).2⟩⟩
 have h:=h.on (S':=Low H.n) (A':=H)
 have hD:K_Deal.R D H x dcs:=K_Deal.same (fun id hid=>(hfz id (hDD id hid).1).2) hD
 have hDv:Has3 D H did 0 dcs:=by
  obtain⟨d0,b,d1,d2⟩:=hDv
  exact⟨d0,b,((hfz did (hDD did d0).1).2).trans d1,d2⟩
 have hDD:∀id,D id→id<H.n∧¬d.W id:=fun id hid=>⟨(hfz id (hDD id hid).1).1,(hDD id hid).2⟩
 have hDL:K_Deal.R (Low H.n) H x dcs:=K_Deal.more (fun id p=>(hDD id p).1) hD
 have hDvL:Has3 (Low H.n) H did 0 dcs:=⟨(hDD did hDv.1).1,hDv.2⟩
 obtain⟨d1,d2,d3,d4,d5,d6,d7,d8,rfl⟩:=form_Deal hD
 obtain⟨hid,sid,gid,bid,nid,w⟩:=d
 have hc:=h.cellsH
 have hh:=h.hall
 have hsl:=hok.sl
 have h7:=hd.sch.h7
 have hA0:0≤A:=hA.1
 have hA1:A<x.1.1:=hA.2
 obtain⟨hs0,scs,hs1,hscl⟩:=h.seats
 simp only at hs0 hs1
 obtain⟨hse,hsok⟩:=hok.seat hA
 obtain⟨s,hs⟩:∃s,c.seat A=s:=⟨_,rfl⟩
 rw[hs] at hse hsok
 have hR:=hscl.2 _ _ hse
 obtain⟨ps,qs,hseg,hR1,hR2⟩:=split_Seat hR
 obtain⟨b1,e1,b2,e2,hps,hR3,hR4⟩:=split_Purse hR1
 obtain⟨b3,e3,b4,e4,hqs,hR5,hR6⟩:=split_Purse hR2
 have hle:A.toNat*7+7≤scs.length:=by have:=hscl.1;have h2:=mul_le' (e:=7) (List.getElem?_eq_some_iff.1 hse).1;have:c.seats.length*7≤scs.length:=this;omega
 have cel:∀(q:Nat) v,(ps++(qs++[.int .i64 s.2.2]):List Value)[q]?=some v→scs[0+A.toNat*7+q]?=some v:=fun q v hv=>by
  have:=seg_at hseg hv
  rw[Nat.zero_add];exact this
 refine KW.cF U U (by first | (simp;done) | decide) ?_
 refine KW.cF U U (by first | (simp;done) | decide) ?_
 refine KW.cF U U (by first | (simp;done) | decide) ?_
 refine KW.cF U U (by first | (simp;done) | decide) ?_
 refine KW.ldF 0 hc U U U U U U U U U ?_
 refine KW.ldF 0 hDvL U U U U U U U U U ?_
 refine KW.no U U (by omega) ?_
 refine KW.ldF 2 hc U U U U U U U U U ?_
 refine KW.idx0 U U U U U U U U U (by omega) (by show A<((c.seats.length:Nat):Int);omega) ?_
 refine KW.cF U U (by first | (simp;done) | decide) ?_
 refine KW.cF U U (by first | (simp;done) | decide) ?_
 refine KW.cF U U (by first | (simp;done) | decide) ?_
 refine KW.cF U U (by first | (simp;done) | decide) ?_
 have hsrc:(scs.drop (0+A.toNat*7+3)).take 3=[.int .i64 s.2.1.1,.slice b3 s.2.1.2.1.length e3,.slice b4 s.2.1.2.2.length e4]:=seg_of rfl (fun q v hv=>by
  have hv':(ps++(qs++[.int .i64 s.2.2]):List Value)[3+q]?=some v:=by
   rw[hps,hqs]
   match q,hv with
   | 0,hv=>exact hv
   | 1,hv=>exact hv
   | 2,hv=>exact hv
   | q+3,hv=>simp at hv
  have:=cel (3+q) v hv'
  rwa [← Nat.add_assoc] at this)
 have hol:x.1.2.1.length≤1048576:=hB.1.2.1
 have hrl:=rowsOf_len x.1.2.1 A
 have hvl:s.2.1.2.1.length≤1048576:=by rcases hsok.sa with q | q;rw[q.2.1];simp;have:=q.2.vl;omega
 have htl:s.2.1.2.2.length≤1048576:=by rcases hsok.sa with q | q;rw[q.2.2];simp;have:=q.2.tl;omega
 refine KW.ldP hs0 hs1 U U U U U (bload_seg (ps:=[.int .i64 s.2.1.1,.slice b3 s.2.1.2.1.length e3,.slice b4 s.2.1.2.2.length e4]) U U U (by show 0+A.toNat*7+3+3≤scs.length;omega) hsrc) ?_
 have hRL:K_Purse.R (Low H.n) H s.2.1 [.int .i64 s.2.1.1,.slice b3 s.2.1.2.1.length e3,.slice b4 s.2.1.2.2.length e4]:=K_Purse.more h.sx (mk_Purse hR5 hR6)
 refine KW.callN1 U U U U U (l08PurseS hRL hvl htl) (fun v H1 S1 m1 _ _ hv=>?_)
 obtain⟨a1,q1,a2,q2,rfl,hO1,hO2⟩:=hv
 have o0:=(inferInstance:On (Low H.n) H S1 H1).st
 have o1:=(inferInstance:On (New (H.n+1) H1.n) H1 S1 H1).st
 refine KW.thaw sid _ (o0 sid hs0).1 ((o0 sid hs0).2.trans hs1) ?_
 refine KW.stB 1 U U U U U U (bstore_agg U U U (by show 0+A.toNat*7+0+3≤scs.length;omega) rfl) ?_
 have e:doIt x c (8,A,B)=(setS c A (s.2.1,s.2.1,s.2.2),0):=by
  have h1:¬x.1.1≤A:=by omega
  show(if x.1.1≤A then(c,2) else(setS c A ((c.seat A).2.1,(c.seat A).2.1,(c.seat A).2.2),0))=_
  rw[if_neg h1,hs]
 rw[e]
 refine KW.retW U U U U (fun H1 g=>by have:=g.n_;omega) (fun id hid hw=>⟨⟨(o0 id hid).1,fun e=>hw (by rw[e];exact HD.Win.2.1)⟩,(o0 id hid).2⟩) (fun H3 g=>⟨rfl,?_⟩)
 have hn3:=g.n_
 have hsn:sid<H.n:=hs0
 have hnew:=(g.blk (j:=1) rfl).1
 have xk:∀id,X id→H3.m id=H.m id:=fun id p=>by
  have p0:=h.sx id p
  exact((g.froz id ⟨(o0 id p0).1,fun e=>h.out id p (by rw[e];exact HD.Win.2.1)⟩).2).trans (o0 id p0).2
 have nw:∀id,New (H.n+1) H1.n id→(X id∨New H.n H3.n id)∧H3.m id=H1.m id:=fun id p=>by
  have q1:=o1 id p
  have p1:=p.1
  have p2:=p.2
  have q3:=g.froz id ⟨q1.1,by omega⟩
  exact⟨.inr ⟨by omega,by omega⟩,q3.2⟩
 have hN1:KI.Sl (fun id=>X id∨New H.n H3.n id) H3 (.slice a1 s.2.1.2.1.length q1) s.2.1.2.1:=sl_mk hO1 nw
 have hN2:KI.Sl (fun id=>X id∨New H.n H3.n id) H3 (.slice a2 s.2.1.2.2.length q2) s.2.1.2.2:=sl_mk hO2 nw
 have hscl3:Cl K_Seat X H3 c.seats scs:=hscl.mv xk (fun _ p=>p)
 have hR1':K_Purse.R X H3 _ _:=K_Purse.same xk hR1
 have hR2':K_Purse.R X H3 _ _:=K_Purse.same xk hR2
 have hcl:=hscl3.part (y:=(s.2.1,s.2.1,s.2.2)) (a:=[]) (b:=ps) (r:=qs++[.int .i64 s.2.2]) (b':=[.int .i64 s.2.1.1,.slice a1 s.2.1.2.1.length q1,.slice a2 s.2.1.2.2.length q2]) (X':=fun id=>X id∨New H.n H3.n id) hse hseg (by rw[hps];rfl) (fun id p=>.inl p) (show K_Seat.R (fun id=>X id∨New H.n H3.n id) H3 (s.2.1,s.2.1,s.2.2) ([.int .i64 s.2.1.1,.slice a1 s.2.1.2.1.length q1,.slice a2 s.2.1.2.2.length q2]++(qs++[.int .i64 s.2.2])) from mk_Seat (x:=(s.2.1,s.2.1,s.2.2)) (mk_Purse hN1 hN2) (K_Purse.more (fun id p=>.inl p) hR2'))
 have e0:0+A.toNat*7+0=A.toNat*K_Seat.es+([]:List Value).length:=by show 0+A.toNat*7+0=A.toNat*7+0;omega
 refine h.reSeatsN (by simp) (fun id h1 h2=>((g.froz id ⟨(o0 id h1).1,h2⟩).2).trans (o0 id h1).2) (cs:=splice scs _ _) ?_ hcl.1
 rw[← e0]
 exact hnew
theorem specNo1 {A B:Int} {did:Nat} (hd:DealOk x) (hB:B_Deal x) (hok:CerOk x c) (h:Hl HTS [.pointer (some ⟨did,0,none⟩)] [] S H0 X d c) (hD:K_Deal.R D H0 x dcs) (hDv:Has3 D H0 did 0 dcs) (hDD:∀id,D id→S id∧¬d.W id) (hA:x.1.1≤A):
  SpecW Tryz.prog S H0 d.W 134 [.pointer (some ⟨d.hid,0,none⟩),.agg [.int .i64 1,.int .i64 A,.int .i64 B].toArray] (HlRes HTS [.pointer (some ⟨did,0,none⟩)] [] X d (doIt x c (1,A,B))):=by
 refine SpecW.of0 Tryz.func134 rfl (by kernel_rfl) rfl (fun H hfin hfz=>?_)
 haveI o:On S H0 (Low H.n) H:=⟨fun id hs=>⟨(hfz id hs).1,(hfz id hs).2⟩⟩
 have h:=h.on (S':=Low H.n) (A':=H)
 have hD:K_Deal.R D H x dcs:=K_Deal.same (fun id hid=>(hfz id (hDD id hid).1).2) hD
 have hDv:Has3 D H did 0 dcs:=by
  obtain⟨d0,b,d1,d2⟩:=hDv
  exact⟨d0,b,((hfz did (hDD did d0).1).2).trans d1,d2⟩
 have hDD:∀id,D id→id<H.n∧¬d.W id:=fun id hid=>⟨(hfz id (hDD id hid).1).1,(hDD id hid).2⟩
 have hDL:K_Deal.R (Low H.n) H x dcs:=K_Deal.more (fun id p=>(hDD id p).1) hD
 have hDvL:Has3 (Low H.n) H did 0 dcs:=⟨(hDD did hDv.1).1,hDv.2⟩
 obtain⟨d1,d2,d3,d4,d5,d6,d7,d8,rfl⟩:=form_Deal hD
 obtain⟨hid,sid,gid,bid,nid,w⟩:=d
 have hc:=h.cellsH
 have hh:=h.hall
 have hsl:=hok.sl
 have h7:=hd.sch.h7
 refine KW.cF U U (by first | (simp;done) | decide) ?_
 refine KW.cF U U (by first | (simp;done) | decide) ?_
 refine KW.cF U U (by first | (simp;done) | decide) ?_
 refine KW.cF U U (by first | (simp;done) | decide) ?_
 refine KW.ldF 0 hc U U U U U U U U U ?_
 refine KW.ldF 0 hDvL U U U U U U U U U ?_
 refine KW.yes U U (by omega) ?_
 have e:doIt x c (1,A,B)=(c,2):=by
  show(if x.1.1≤A then(c,2) else _)=_
  rw[if_pos hA]
 rw[e]
 exact KW.retW U U U U (fun H1 g=>by have:=g.n_;omega) (fun id hid _=>⟨hid,rfl⟩) (fun H1 g=>⟨rfl,HlPost.same h (fun id p=>p) (fun id hid=>(g.froz id hid).2)⟩)
theorem specNo2 {A B:Int} {did:Nat} (hd:DealOk x) (hB:B_Deal x) (hok:CerOk x c) (h:Hl HTS [.pointer (some ⟨did,0,none⟩)] [] S H0 X d c) (hD:K_Deal.R D H0 x dcs) (hDv:Has3 D H0 did 0 dcs) (hDD:∀id,D id→S id∧¬d.W id) (hA:x.1.1≤A):
  SpecW Tryz.prog S H0 d.W 134 [.pointer (some ⟨d.hid,0,none⟩),.agg [.int .i64 2,.int .i64 A,.int .i64 B].toArray] (HlRes HTS [.pointer (some ⟨did,0,none⟩)] [] X d (doIt x c (2,A,B))):=by
 refine SpecW.of0 Tryz.func134 rfl (by kernel_rfl) rfl (fun H hfin hfz=>?_)
 haveI o:On S H0 (Low H.n) H:=⟨fun id hs=>⟨(hfz id hs).1,(hfz id hs).2⟩⟩
 have h:=h.on (S':=Low H.n) (A':=H)
 have hD:K_Deal.R D H x dcs:=K_Deal.same (fun id hid=>(hfz id (hDD id hid).1).2) hD
 have hDv:Has3 D H did 0 dcs:=by
  obtain⟨d0,b,d1,d2⟩:=hDv
  exact⟨d0,b,((hfz did (hDD did d0).1).2).trans d1,d2⟩
 have hDD:∀id,D id→id<H.n∧¬d.W id:=fun id hid=>⟨(hfz id (hDD id hid).1).1,(hDD id hid).2⟩
 have hDL:K_Deal.R (Low H.n) H x dcs:=K_Deal.more (fun id p=>(hDD id p).1) hD
 have hDvL:Has3 (Low H.n) H did 0 dcs:=⟨(hDD did hDv.1).1,hDv.2⟩
 obtain⟨d1,d2,d3,d4,d5,d6,d7,d8,rfl⟩:=form_Deal hD
 obtain⟨hid,sid,gid,bid,nid,w⟩:=d
 have hc:=h.cellsH
 have hh:=h.hall
 have hsl:=hok.sl
 have h7:=hd.sch.h7
 refine KW.cF U U (by first | (simp;done) | decide) ?_
 refine KW.cF U U (by first | (simp;done) | decide) ?_
 refine KW.cF U U (by first | (simp;done) | decide) ?_
 refine KW.cF U U (by first | (simp;done) | decide) ?_
 refine KW.ldF 0 hc U U U U U U U U U ?_
 refine KW.ldF 0 hDvL U U U U U U U U U ?_
 refine KW.yes U U (by omega) ?_
 have e:doIt x c (2,A,B)=(c,2):=by
  show(if x.1.1≤A then(c,2) else _)=_
  rw[if_pos hA]
 rw[e]
 exact KW.retW U U U U (fun H1 g=>by have:=g.n_;omega) (fun id hid _=>⟨hid,rfl⟩) (fun H1 g=>⟨rfl,HlPost.same h (fun id p=>p) (fun id hid=>(g.froz id hid).2)⟩)
theorem specNo6 {A B:Int} {did:Nat} (hd:DealOk x) (hB:B_Deal x) (hok:CerOk x c) (h:Hl HTS [.pointer (some ⟨did,0,none⟩)] [] S H0 X d c) (hD:K_Deal.R D H0 x dcs) (hDv:Has3 D H0 did 0 dcs) (hDD:∀id,D id→S id∧¬d.W id) (hA:x.1.1≤A):
  SpecW Tryz.prog S H0 d.W 134 [.pointer (some ⟨d.hid,0,none⟩),.agg [.int .i64 6,.int .i64 A,.int .i64 B].toArray] (HlRes HTS [.pointer (some ⟨did,0,none⟩)] [] X d (doIt x c (6,A,B))):=by
 refine SpecW.of0 Tryz.func134 rfl (by kernel_rfl) rfl (fun H hfin hfz=>?_)
 haveI o:On S H0 (Low H.n) H:=⟨fun id hs=>⟨(hfz id hs).1,(hfz id hs).2⟩⟩
 have h:=h.on (S':=Low H.n) (A':=H)
 have hD:K_Deal.R D H x dcs:=K_Deal.same (fun id hid=>(hfz id (hDD id hid).1).2) hD
 have hDv:Has3 D H did 0 dcs:=by
  obtain⟨d0,b,d1,d2⟩:=hDv
  exact⟨d0,b,((hfz did (hDD did d0).1).2).trans d1,d2⟩
 have hDD:∀id,D id→id<H.n∧¬d.W id:=fun id hid=>⟨(hfz id (hDD id hid).1).1,(hDD id hid).2⟩
 have hDL:K_Deal.R (Low H.n) H x dcs:=K_Deal.more (fun id p=>(hDD id p).1) hD
 have hDvL:Has3 (Low H.n) H did 0 dcs:=⟨(hDD did hDv.1).1,hDv.2⟩
 obtain⟨d1,d2,d3,d4,d5,d6,d7,d8,rfl⟩:=form_Deal hD
 obtain⟨hid,sid,gid,bid,nid,w⟩:=d
 have hc:=h.cellsH
 have hh:=h.hall
 have hsl:=hok.sl
 have h7:=hd.sch.h7
 refine KW.cF U U (by first | (simp;done) | decide) ?_
 refine KW.cF U U (by first | (simp;done) | decide) ?_
 refine KW.cF U U (by first | (simp;done) | decide) ?_
 refine KW.cF U U (by first | (simp;done) | decide) ?_
 refine KW.ldF 0 hc U U U U U U U U U ?_
 refine KW.ldF 0 hDvL U U U U U U U U U ?_
 refine KW.yes U U (by omega) ?_
 have e:doIt x c (6,A,B)=(c,2):=by
  show(if x.1.1≤A then(c,2) else _)=_
  rw[if_pos hA]
 rw[e]
 exact KW.retW U U U U (fun H1 g=>by have:=g.n_;omega) (fun id hid _=>⟨hid,rfl⟩) (fun H1 g=>⟨rfl,HlPost.same h (fun id p=>p) (fun id hid=>(g.froz id hid).2)⟩)
theorem specNo7 {A B:Int} {did:Nat} (hd:DealOk x) (hB:B_Deal x) (hok:CerOk x c) (h:Hl HTS [.pointer (some ⟨did,0,none⟩)] [] S H0 X d c) (hD:K_Deal.R D H0 x dcs) (hDv:Has3 D H0 did 0 dcs) (hDD:∀id,D id→S id∧¬d.W id) (hA:x.1.1≤A):
  SpecW Tryz.prog S H0 d.W 134 [.pointer (some ⟨d.hid,0,none⟩),.agg [.int .i64 7,.int .i64 A,.int .i64 B].toArray] (HlRes HTS [.pointer (some ⟨did,0,none⟩)] [] X d (doIt x c (7,A,B))):=by
 refine SpecW.of0 Tryz.func134 rfl (by kernel_rfl) rfl (fun H hfin hfz=>?_)
 haveI o:On S H0 (Low H.n) H:=⟨fun id hs=>⟨(hfz id hs).1,(hfz id hs).2⟩⟩
 have h:=h.on (S':=Low H.n) (A':=H)
 have hD:K_Deal.R D H x dcs:=K_Deal.same (fun id hid=>(hfz id (hDD id hid).1).2) hD
 have hDv:Has3 D H did 0 dcs:=by
  obtain⟨d0,b,d1,d2⟩:=hDv
  exact⟨d0,b,((hfz did (hDD did d0).1).2).trans d1,d2⟩
 have hDD:∀id,D id→id<H.n∧¬d.W id:=fun id hid=>⟨(hfz id (hDD id hid).1).1,(hDD id hid).2⟩
 have hDL:K_Deal.R (Low H.n) H x dcs:=K_Deal.more (fun id p=>(hDD id p).1) hD
 have hDvL:Has3 (Low H.n) H did 0 dcs:=⟨(hDD did hDv.1).1,hDv.2⟩
 obtain⟨d1,d2,d3,d4,d5,d6,d7,d8,rfl⟩:=form_Deal hD
 obtain⟨hid,sid,gid,bid,nid,w⟩:=d
 have hc:=h.cellsH
 have hh:=h.hall
 have hsl:=hok.sl
 have h7:=hd.sch.h7
 refine KW.cF U U (by first | (simp;done) | decide) ?_
 refine KW.cF U U (by first | (simp;done) | decide) ?_
 refine KW.cF U U (by first | (simp;done) | decide) ?_
 refine KW.cF U U (by first | (simp;done) | decide) ?_
 refine KW.ldF 0 hc U U U U U U U U U ?_
 refine KW.ldF 0 hDvL U U U U U U U U U ?_
 refine KW.yes U U (by omega) ?_
 have e:doIt x c (7,A,B)=(c,2):=by
  show(if x.1.1≤A then(c,2) else _)=_
  rw[if_pos hA]
 rw[e]
 exact KW.retW U U U U (fun H1 g=>by have:=g.n_;omega) (fun id hid _=>⟨hid,rfl⟩) (fun H1 g=>⟨rfl,HlPost.same h (fun id p=>p) (fun id hid=>(g.froz id hid).2)⟩)
theorem specNo8 {A B:Int} {did:Nat} (hd:DealOk x) (hB:B_Deal x) (hok:CerOk x c) (h:Hl HTS [.pointer (some ⟨did,0,none⟩)] [] S H0 X d c) (hD:K_Deal.R D H0 x dcs) (hDv:Has3 D H0 did 0 dcs) (hDD:∀id,D id→S id∧¬d.W id) (hA:x.1.1≤A):
  SpecW Tryz.prog S H0 d.W 134 [.pointer (some ⟨d.hid,0,none⟩),.agg [.int .i64 8,.int .i64 A,.int .i64 B].toArray] (HlRes HTS [.pointer (some ⟨did,0,none⟩)] [] X d (doIt x c (8,A,B))):=by
 refine SpecW.of0 Tryz.func134 rfl (by kernel_rfl) rfl (fun H hfin hfz=>?_)
 haveI o:On S H0 (Low H.n) H:=⟨fun id hs=>⟨(hfz id hs).1,(hfz id hs).2⟩⟩
 have h:=h.on (S':=Low H.n) (A':=H)
 have hD:K_Deal.R D H x dcs:=K_Deal.same (fun id hid=>(hfz id (hDD id hid).1).2) hD
 have hDv:Has3 D H did 0 dcs:=by
  obtain⟨d0,b,d1,d2⟩:=hDv
  exact⟨d0,b,((hfz did (hDD did d0).1).2).trans d1,d2⟩
 have hDD:∀id,D id→id<H.n∧¬d.W id:=fun id hid=>⟨(hfz id (hDD id hid).1).1,(hDD id hid).2⟩
 have hDL:K_Deal.R (Low H.n) H x dcs:=K_Deal.more (fun id p=>(hDD id p).1) hD
 have hDvL:Has3 (Low H.n) H did 0 dcs:=⟨(hDD did hDv.1).1,hDv.2⟩
 obtain⟨d1,d2,d3,d4,d5,d6,d7,d8,rfl⟩:=form_Deal hD
 obtain⟨hid,sid,gid,bid,nid,w⟩:=d
 have hc:=h.cellsH
 have hh:=h.hall
 have hsl:=hok.sl
 have h7:=hd.sch.h7
 refine KW.cF U U (by first | (simp;done) | decide) ?_
 refine KW.cF U U (by first | (simp;done) | decide) ?_
 refine KW.cF U U (by first | (simp;done) | decide) ?_
 refine KW.cF U U (by first | (simp;done) | decide) ?_
 refine KW.ldF 0 hc U U U U U U U U U ?_
 refine KW.ldF 0 hDvL U U U U U U U U U ?_
 refine KW.yes U U (by omega) ?_
 have e:doIt x c (8,A,B)=(c,2):=by
  show(if x.1.1≤A then(c,2) else _)=_
  rw[if_pos hA]
 rw[e]
 exact KW.retW U U U U (fun H1 g=>by have:=g.n_;omega) (fun id hid _=>⟨hid,rfl⟩) (fun H1 g=>⟨rfl,HlPost.same h (fun id p=>p) (fun id hid=>(g.froz id hid).2)⟩)
theorem implNo1 {A B:Int} (hd:DealOk x) (hB:B_Deal x) (hok:CerOk x c) (h:Hl HTI [] dcs S H0 X d c) (hD:K_Deal.R D H0 x dcs) (hDD:∀id,D id→S id∧¬d.W id) (hA:x.1.1≤A):
  SpecW Tryz.prog S H0 d.W 142 [.pointer (some ⟨d.hid,0,none⟩),.agg [.int .i64 1,.int .i64 A,.int .i64 B].toArray] (HlRes HTI [] dcs X d (doIt x c (1,A,B))):=by
 obtain⟨d1,d2,d3,d4,d5,d6,d7,d8,rfl⟩:=form_Deal hD
 refine SpecW.of0 Tryz.func142 rfl (by kernel_rfl) rfl (fun H hfin hfz=>?_)
 haveI o:On S H0 (Low H.n) H:=⟨fun id hs=>⟨(hfz id hs).1,(hfz id hs).2⟩⟩
 have h:=h.on (S':=Low H.n) (A':=H)
 have hD:K_Deal.R D H x _:=K_Deal.same (fun id hid=>(hfz id (hDD id hid).1).2) hD
 obtain⟨hid,sid,gid,bid,nid,w⟩:=d
 have hc:=h.cellsH
 have h7:=hd.sch.h7
 have h1h:=hd.sch.h1
 have ewr:IntKind.i64.wrap (x.1.1-1)=x.1.1-1:=wr (by omega) (by omega)
 refine KW.cF U U (by first | (simp;done) | decide) ?_
 refine KW.cF U U (by first | (simp;done) | decide) ?_
 refine KW.cF U U (by first | (simp;done) | decide) ?_
 refine KW.cF U U (by first | (simp;done) | decide) ?_
 refine KW.callE U U U U U (implIsHolder hB (by unfold I64;omega) A hc hD) (fun nE mE=>?_)
 refine KW.cT U U (by rw[ewr];simp;omega) ?_
 have e:doIt x c (1,A,B)=(c,2):=by
  show(if x.1.1≤A then(c,2) else _)=_
  rw[if_pos hA]
 rw[e]
 exact KW.retW U U U U (fun H1 g=>by have:=g.n_;omega) (fun id hid _=>⟨hid,rfl⟩) (fun H1 g=>⟨rfl,HlPost.same h (fun id p=>p) (fun id hid=>(g.froz id hid).2)⟩)
theorem implNo2 {A B:Int} (hd:DealOk x) (hB:B_Deal x) (hok:CerOk x c) (h:Hl HTI [] dcs S H0 X d c) (hD:K_Deal.R D H0 x dcs) (hDD:∀id,D id→S id∧¬d.W id) (hA:x.1.1≤A):
  SpecW Tryz.prog S H0 d.W 142 [.pointer (some ⟨d.hid,0,none⟩),.agg [.int .i64 2,.int .i64 A,.int .i64 B].toArray] (HlRes HTI [] dcs X d (doIt x c (2,A,B))):=by
 obtain⟨d1,d2,d3,d4,d5,d6,d7,d8,rfl⟩:=form_Deal hD
 refine SpecW.of0 Tryz.func142 rfl (by kernel_rfl) rfl (fun H hfin hfz=>?_)
 haveI o:On S H0 (Low H.n) H:=⟨fun id hs=>⟨(hfz id hs).1,(hfz id hs).2⟩⟩
 have h:=h.on (S':=Low H.n) (A':=H)
 have hD:K_Deal.R D H x _:=K_Deal.same (fun id hid=>(hfz id (hDD id hid).1).2) hD
 obtain⟨hid,sid,gid,bid,nid,w⟩:=d
 have hc:=h.cellsH
 have h7:=hd.sch.h7
 have h1h:=hd.sch.h1
 have ewr:IntKind.i64.wrap (x.1.1-1)=x.1.1-1:=wr (by omega) (by omega)
 refine KW.cF U U (by first | (simp;done) | decide) ?_
 refine KW.cF U U (by first | (simp;done) | decide) ?_
 refine KW.cF U U (by first | (simp;done) | decide) ?_
 refine KW.cF U U (by first | (simp;done) | decide) ?_
 refine KW.callE U U U U U (implIsHolder hB (by unfold I64;omega) A hc hD) (fun nE mE=>?_)
 refine KW.cT U U (by rw[ewr];simp;omega) ?_
 have e:doIt x c (2,A,B)=(c,2):=by
  show(if x.1.1≤A then(c,2) else _)=_
  rw[if_pos hA]
 rw[e]
 exact KW.retW U U U U (fun H1 g=>by have:=g.n_;omega) (fun id hid _=>⟨hid,rfl⟩) (fun H1 g=>⟨rfl,HlPost.same h (fun id p=>p) (fun id hid=>(g.froz id hid).2)⟩)
theorem implNo6 {A B:Int} (hd:DealOk x) (hB:B_Deal x) (hok:CerOk x c) (h:Hl HTI [] dcs S H0 X d c) (hD:K_Deal.R D H0 x dcs) (hDD:∀id,D id→S id∧¬d.W id) (hA:x.1.1≤A):
  SpecW Tryz.prog S H0 d.W 142 [.pointer (some ⟨d.hid,0,none⟩),.agg [.int .i64 6,.int .i64 A,.int .i64 B].toArray] (HlRes HTI [] dcs X d (doIt x c (6,A,B))):=by
 obtain⟨d1,d2,d3,d4,d5,d6,d7,d8,rfl⟩:=form_Deal hD
 refine SpecW.of0 Tryz.func142 rfl (by kernel_rfl) rfl (fun H hfin hfz=>?_)
 haveI o:On S H0 (Low H.n) H:=⟨fun id hs=>⟨(hfz id hs).1,(hfz id hs).2⟩⟩
 have h:=h.on (S':=Low H.n) (A':=H)
 have hD:K_Deal.R D H x _:=K_Deal.same (fun id hid=>(hfz id (hDD id hid).1).2) hD
 obtain⟨hid,sid,gid,bid,nid,w⟩:=d
 have hc:=h.cellsH
 have h7:=hd.sch.h7
 have h1h:=hd.sch.h1
 have ewr:IntKind.i64.wrap (x.1.1-1)=x.1.1-1:=wr (by omega) (by omega)
 refine KW.cF U U (by first | (simp;done) | decide) ?_
 refine KW.cF U U (by first | (simp;done) | decide) ?_
 refine KW.cF U U (by first | (simp;done) | decide) ?_
 refine KW.cF U U (by first | (simp;done) | decide) ?_
 refine KW.callE U U U U U (implIsHolder hB (by unfold I64;omega) A hc hD) (fun nE mE=>?_)
 refine KW.cT U U (by rw[ewr];simp;omega) ?_
 have e:doIt x c (6,A,B)=(c,2):=by
  show(if x.1.1≤A then(c,2) else _)=_
  rw[if_pos hA]
 rw[e]
 exact KW.retW U U U U (fun H1 g=>by have:=g.n_;omega) (fun id hid _=>⟨hid,rfl⟩) (fun H1 g=>⟨rfl,HlPost.same h (fun id p=>p) (fun id hid=>(g.froz id hid).2)⟩)
theorem implNo7 {A B:Int} (hd:DealOk x) (hB:B_Deal x) (hok:CerOk x c) (h:Hl HTI [] dcs S H0 X d c) (hD:K_Deal.R D H0 x dcs) (hDD:∀id,D id→S id∧¬d.W id) (hA:x.1.1≤A):
  SpecW Tryz.prog S H0 d.W 142 [.pointer (some ⟨d.hid,0,none⟩),.agg [.int .i64 7,.int .i64 A,.int .i64 B].toArray] (HlRes HTI [] dcs X d (doIt x c (7,A,B))):=by
 obtain⟨d1,d2,d3,d4,d5,d6,d7,d8,rfl⟩:=form_Deal hD
 refine SpecW.of0 Tryz.func142 rfl (by kernel_rfl) rfl (fun H hfin hfz=>?_)
 haveI o:On S H0 (Low H.n) H:=⟨fun id hs=>⟨(hfz id hs).1,(hfz id hs).2⟩⟩
 have h:=h.on (S':=Low H.n) (A':=H)
 have hD:K_Deal.R D H x _:=K_Deal.same (fun id hid=>(hfz id (hDD id hid).1).2) hD
 obtain⟨hid,sid,gid,bid,nid,w⟩:=d
 have hc:=h.cellsH
 have h7:=hd.sch.h7
 have h1h:=hd.sch.h1
 have ewr:IntKind.i64.wrap (x.1.1-1)=x.1.1-1:=wr (by omega) (by omega)
 refine KW.cF U U (by first | (simp;done) | decide) ?_
 refine KW.cF U U (by first | (simp;done) | decide) ?_
 refine KW.cF U U (by first | (simp;done) | decide) ?_
 refine KW.cF U U (by first | (simp;done) | decide) ?_
 refine KW.callE U U U U U (implIsHolder hB (by unfold I64;omega) A hc hD) (fun nE mE=>?_)
 refine KW.cT U U (by rw[ewr];simp;omega) ?_
 have e:doIt x c (7,A,B)=(c,2):=by
  show(if x.1.1≤A then(c,2) else _)=_
  rw[if_pos hA]
 rw[e]
 exact KW.retW U U U U (fun H1 g=>by have:=g.n_;omega) (fun id hid _=>⟨hid,rfl⟩) (fun H1 g=>⟨rfl,HlPost.same h (fun id p=>p) (fun id hid=>(g.froz id hid).2)⟩)
theorem implNo8 {A B:Int} (hd:DealOk x) (hB:B_Deal x) (hok:CerOk x c) (h:Hl HTI [] dcs S H0 X d c) (hD:K_Deal.R D H0 x dcs) (hDD:∀id,D id→S id∧¬d.W id) (hA:x.1.1≤A):
  SpecW Tryz.prog S H0 d.W 142 [.pointer (some ⟨d.hid,0,none⟩),.agg [.int .i64 8,.int .i64 A,.int .i64 B].toArray] (HlRes HTI [] dcs X d (doIt x c (8,A,B))):=by
 obtain⟨d1,d2,d3,d4,d5,d6,d7,d8,rfl⟩:=form_Deal hD
 refine SpecW.of0 Tryz.func142 rfl (by kernel_rfl) rfl (fun H hfin hfz=>?_)
 haveI o:On S H0 (Low H.n) H:=⟨fun id hs=>⟨(hfz id hs).1,(hfz id hs).2⟩⟩
 have h:=h.on (S':=Low H.n) (A':=H)
 have hD:K_Deal.R D H x _:=K_Deal.same (fun id hid=>(hfz id (hDD id hid).1).2) hD
 obtain⟨hid,sid,gid,bid,nid,w⟩:=d
 have hc:=h.cellsH
 have h7:=hd.sch.h7
 have h1h:=hd.sch.h1
 have ewr:IntKind.i64.wrap (x.1.1-1)=x.1.1-1:=wr (by omega) (by omega)
 refine KW.cF U U (by first | (simp;done) | decide) ?_
 refine KW.cF U U (by first | (simp;done) | decide) ?_
 refine KW.cF U U (by first | (simp;done) | decide) ?_
 refine KW.cF U U (by first | (simp;done) | decide) ?_
 refine KW.callE U U U U U (implIsHolder hB (by unfold I64;omega) A hc hD) (fun nE mE=>?_)
 refine KW.cT U U (by rw[ewr];simp;omega) ?_
 have e:doIt x c (8,A,B)=(c,2):=by
  show(if x.1.1≤A then(c,2) else _)=_
  rw[if_pos hA]
 rw[e]
 exact KW.retW U U U U (fun H1 g=>by have:=g.n_;omega) (fun id hid _=>⟨hid,rfl⟩) (fun H1 g=>⟨rfl,HlPost.same h (fun id p=>p) (fun id hid=>(g.froz id hid).2)⟩)
end
abbrev K_Deed:Kn T_Deed:=Kn.pair (KI) (Kn.pair (KI) (KI))
abbrev M_Deed:Kn T_Deed:=Kn.mp (KI) (Kn.mp (KI) (KI))
theorem le_Deed:KLe M_Deed K_Deed:=KLe.pair ((KLe.refl KI)) (KLe.pair ((KLe.refl KI)) ((KLe.refl KI)))
abbrev B_Deed (x:T_Deed):Prop:=I64 x.1∧I64 x.2.1∧I64 x.2.2
section
variable {S:Ids} {H0:AH} {W:Ids} {left k:Int}
theorem form_Deed {x:T_Deed} {cs:List Value} (h:K_Deed.R S H0 x cs):cs=[.int .i64 x.1,.int .i64 x.2.1,.int .i64 x.2.2]:=by
 obtain⟨e0,d0,rfl,h0,h0_⟩:=h
 obtain⟨e1,d1,rfl,h1,h1_⟩:=h0_
 have h2:=h1_
 obtain rfl:=KI_of h0
 obtain rfl:=KI_of h1
 obtain rfl:=KI_of h2
 rfl
theorem mkM_Deed {A:AH} {x:T_Deed}:M_Deed.R S A x [.int .i64 x.1,.int .i64 x.2.1,.int .i64 x.2.2]:=by
 have k1:(Kn.mp (KI) (KI)).R None_ A (x.2) [.int .i64 x.2.1,.int .i64 x.2.2]:=mpR (X:=None_) (Y:=None_) (show KI.R None_ A _ [.int .i64 x.2.1] from rfl) (show KI.R None_ A _ [.int .i64 x.2.2] from rfl) (fun _ p=>p.elim) (fun _ p=>p.elim) (fun _ p _=>p.elim)
 exact mpR (X:=None_) (Y:=None_) (show KI.R None_ A _ [.int .i64 x.1] from rfl) k1 (fun _ p=>p.elim) (fun _ p=>p.elim) (fun _ p _=>p.elim)
end
abbrev T_DeedS:Type:=List T_Deed
abbrev K_DeedS:Kn (List T_Deed):=K_Deed.sl
abbrev M_DeedS:Kn (List T_Deed):=M_Deed.ml
theorem le_DeedS:KLe M_DeedS K_DeedS:=KLe.row le_Deed
abbrev szE_Deed (x:T_Deed):Nat:=1+1+1
structure B_DeedS (x:List T_Deed):Prop where
 len:x.length≤1048576
 each:∀y∈x,B_Deed y
 tot:sum (x.map szE_Deed)≤16777216
section
variable {S:Ids} {H0:AH} {W:Ids} {a a':Option Addr} {c c':Nat} {left k:Int}
end
def OkAll (x:T_Deal) (ds:List T_Deed):Prop:=DealOk x∧∀d∈ds,DeedP d
noncomputable def givenC (x:T_Deal) (ds:List T_Deed):Int:=if tv (OkAll x ds)=true then(if(400:Int)<ds.length then 2 else 0) else 1
section
variable {S:Ids} {H0:AH} {x:T_Deal} {ds:List T_Deed} {dcs:List Value}
theorem deedsCode1 (d:T_Deed):Spec Tryz.prog S H0 139 [.agg [.int .i64 d.1,.int .i64 d.2.1,.int .i64 d.2.2].toArray] (fun v=>v=.bool (!tv (DeedP d))):=by
 refine Spec.of1 Tryz.func139 rfl (by kernel_rfl) rfl (fun H _=>?_)
 refine KW.callE U U U U U (validDeed d) (fun _ _=>?_)
 exact KW.ret U U U U (rfl)
theorem indexFuncD {a c} (hl:ds.length≤4611686018427387904) (hs:K_Deed.Sl S H0 (.slice a ds.length c) ds):
  Spec Tryz.prog S H0 204 [.slice a ds.length c,.func (.func 139) #[] #[]] (fun v=>∃r:Int,v=.int .i64 r∧(r≥0↔∃d∈ds,¬DeedP d)):=by
 refine Spec.of1 Tryz.func204 rfl (by kernel_rfl) rfl (fun H _=>?_)
 refine KW.lp U U (fun i:Nat=>[(0,.slice a ds.length c),(1,.func (.func 139) #[] #[]),(7,.int .i64 ds.length),(8,.int .i64 i)]) (fun i=>i≤ds.length∧∀j,j<i→∀d,ds[j]?=some d→DeedP d) (fun i=>ds.length-i) (0) (⟨by omega,fun j h=>absurd h (by omega)⟩) ⟨rfl,rfl,rfl,rfl,trivial⟩ (fun i hi bE n=>?_)
 obtain⟨hi,hj⟩:=hi
 refine KW.cnd U U (fun h=>?_) (fun h=>?_)
 ·refine KW.getS (td:=.struct #[]) hs.up U U U U U U U U U U U U U U U U U (by omega) (h) (fun y cy hy hsy=>?_)
  have hy:ds[i]?=some y:=hy
  obtain rfl:=form_Deed hsy
  have hmem:=List.mem_of_getElem? hy
  refine KW.callE U U U U U (deedsCode1 y) (fun _ _=>?_)
  refine KW.cndB U U (fun h2=>?_) (fun h2=>?_)
  ·have h2:¬DeedP y:=fun p=>by rw[tv_true p] at h2;cases h2
   exact KW.ret U U U U (⟨(i:Int),rfl,fun _=>⟨y,hmem,h2⟩,fun _=>by omega⟩)
  ·have h2:DeedP y:=tv_iff.1 (by simpa using h2)
   refine KW.nxt U U (fun H' g=>⟨i+1,⟨by omega,upto hj (fun z hz=>by rw[hy] at hz;cases hz;exact h2)⟩,by first | omega | (simp only;omega),⟨rfl,rfl,rfl,congrArg (Value.int .i64) (inc64 (by omega)),trivial⟩,g⟩)
 ·refine KW.ret U U U U ⟨-1,rfl,fun h=>absurd h (by decide),fun⟨d,hd,hpd⟩=>?_⟩
  obtain⟨j,hjx⟩:=List.getElem?_of_mem hd
  exact absurd (hj j (by have:=(List.getElem?_eq_some_iff.1 hjx).1;omega) d hjx) hpd
theorem containsFuncD {a c} (hl:ds.length≤4611686018427387904) (hs:K_Deed.Sl S H0 (.slice a ds.length c) ds):
  Spec Tryz.prog S H0 138 [.slice a ds.length c,.func (.func 139) #[] #[]] (fun v=>v=.bool (tv (∃d∈ds,¬DeedP d))):=by
 refine Spec.of1 Tryz.func138 rfl (by kernel_rfl) rfl (fun H _=>?_)
 refine KW.call U U U U U (indexFuncD hl hs.up) (fun v _ _ hv=>?_)
 obtain⟨r,rfl,hr⟩:=hv
 refine KW.ret U U U U ?_
 show Value.bool (decide (r≥0))=_
 rw[tv_dec,tv_congr hr]
theorem deedsCode {a c} (hB:B_Deal x) (hl:ds.length≤1048576) (hD:K_Deal.R S H0 x dcs) (hs:K_Deed.Sl S H0 (.slice a ds.length c) ds):Spec Tryz.prog S H0 58 [.agg dcs.toArray,.slice a ds.length c] (fun v=>v=.int .i64 (givenC x ds)):=by
 obtain⟨a1,c1,a2,c2,a3,c3,a4,c4,rfl,h1,h2,h3,h4⟩:=split2_Deal hD
 refine Spec.of1 Tryz.func58 rfl (by kernel_rfl) rfl (fun H _=>?_)
 refine KW.callE U U U U U (validDeal x.1.1 x.1.2.2.1 x.1.2.2.2.1 x.2.1 hB.1.2.2.1 hB.1.2.1 hB.1.2.2.2.2 hB.2.2.1 hB.2.2.2 h1.up h2.up h3.up h4.up) (fun _ _=>?_)
 refine KW.tstB U U (fun k1=>?_) (fun k1=>?_)
 ·have k1:¬DealOk x:=fun p=>by unfold DealOk at p;rw[tv_true p] at k1;cases k1
  have e:givenC x ds=1:=by unfold givenC;rw[tv_false (fun p=>k1 p.1)];rfl
  repeat first | refine KW.tT U U U ?_ | refine KW.tF U U U ?_
  refine KW.cT U U (by first | (simp;done) | decide) ?_
  rw[e]
  exact KW.ret U U U U (rfl)
 ·have k1:DealOk x:=by unfold DealOk;exact tv_iff.1 (by simpa using k1)
  refine KW.callE U U U U U (containsFuncD (by omega) hs.up) (fun _ _=>?_)
  refine KW.cndB U U (fun k2=>?_) (fun k2=>?_)
  ·have k2:=tv_iff.1 k2
   have e:givenC x ds=1:=by unfold givenC;rw[tv_false (fun p=>by obtain⟨d,h1,h2⟩:=k2;exact h2 (p.2 d h1))];rfl
   rw[e]
   exact KW.ret U U U U (rfl)
  ·have k2:∀d∈ds,DeedP d:=fun d hd=>by
    refine Classical.byContradiction fun hn=>?_
    rw[tv_true ⟨d,hd,hn⟩] at k2
    cases k2
   have e:givenC x ds=if(400:Int)<ds.length then 2 else 0:=by unfold givenC;rw[tv_true ⟨k1,k2⟩];rfl
   refine KW.cnd U U (fun k3=>?_) (fun k3=>?_)
   ·rw[e,if_pos k3]
    exact KW.ret U U U U (rfl)
   ·rw[e,if_neg k3]
    exact KW.ret U U U U (rfl)
theorem l08Given {a c} {did:Nat} (hB:B_Deal x) (hl:ds.length≤1048576) (hD:K_Deal.R S H0 x dcs) (hDv:Has3 S H0 did 0 dcs) (hs:K_Deed.Sl S H0 (.slice a ds.length c) ds):Spec Tryz.prog S H0 55 [.pointer (some ⟨did,0,none⟩),.slice a ds.length c] (fun v=>v=.int .i64 (givenC x ds)):=by
 obtain⟨a1,c1,a2,c2,a3,c3,a4,c4,rfl,h1,h2,h3,h4⟩:=split2_Deal hD
 refine Spec.of1 Tryz.func55 rfl (by kernel_rfl) rfl (fun H _=>?_)
 refine KW.callE U U U U U (l08Ok x.1.1 x.1.2.2.1 x.1.2.2.2.1 x.2.1 hB.1.2.2.1 hB.1.2.1 hB.1.2.2.2.2 hB.2.2.1 hB.2.2.2 hDv.up h1.up h2.up h3.up h4.up) (fun _ _=>?_)
 refine KW.cndB U U (fun k1=>?_) (fun k1=>?_)
 ·have k1:¬DealOk x:=fun p=>by unfold DealOk at p;rw[tv_true p] at k1;cases k1
  have e:givenC x ds=1:=by unfold givenC;rw[tv_false (fun p=>k1 p.1)];rfl
  rw[e]
  exact KW.ret U U U U (rfl)
 ·have k1:DealOk x:=by unfold DealOk;exact tv_iff.1 (by simpa using k1)
  refine KW.lp U U (fun i:Nat=>[(0,.pointer (some ⟨did,0,none⟩)),(1,.slice a ds.length c),(5,.int .i64 i)]) (fun i=>i≤ds.length∧∀j,j<i→∀d,ds[j]?=some d→DeedP d) (fun i=>ds.length-i) (0) (⟨by omega,fun j h=>absurd h (by omega)⟩) ⟨rfl,rfl,rfl,trivial⟩ (fun i hi bE n=>?_)
  obtain⟨hi,hj⟩:=hi
  refine KW.cnd U U (fun h=>?_) (fun h=>?_)
  ·refine KW.getS (td:=.struct #[]) hs.up U U U U U U U U U U U U U U U U U (by omega) (h) (fun y cy hy hsy=>?_)
   have hy:ds[i]?=some y:=hy
   obtain rfl:=form_Deed hsy
   have hmem:=List.mem_of_getElem? hy
   refine KW.callE U U U U U (l08Deed y) (fun _ _=>?_)
   refine KW.cndB U U (fun h2=>?_) (fun h2=>?_)
   ·have h2:¬DeedP y:=fun p=>by rw[tv_true p] at h2;cases h2
    have e:givenC x ds=1:=by unfold givenC;rw[tv_false (fun p=>h2 (p.2 y hmem))];rfl
    rw[e]
    exact KW.ret U U U U (rfl)
   ·have h2:DeedP y:=tv_iff.1 (by simpa using h2)
    refine KW.nxt U U (fun H' g=>⟨i+1,⟨by omega,upto hj (fun z hz=>by rw[hy] at hz;cases hz;exact h2)⟩,by first | omega | (simp only;omega),⟨rfl,rfl,congrArg (Value.int .i64) (inc64 (by omega)),trivial⟩,g⟩)
  have k2:∀d∈ds,DeedP d:=fun d hd=>by
   obtain⟨j,hjx⟩:=List.getElem?_of_mem hd
   exact hj j (by have:=(List.getElem?_eq_some_iff.1 hjx).1;omega) d hjx
  have e:givenC x ds=if(400:Int)<ds.length then 2 else 0:=by unfold givenC;rw[tv_true ⟨k1,k2⟩];rfl
  refine KW.cnd U U (fun k3=>?_) (fun k3=>?_)
  ·rw[e,if_pos k3]
   exact KW.ret U U U U (rfl)
  ·rw[e,if_neg k3]
   exact KW.ret U U U U (rfl)
end
section
variable {S:Ids} {H0:AH} {X D:Ids} {d:HD} {c:Cer} {dcs:List Value} {x:T_Deal}
theorem implDo {dd:T_Deed} (hdd:DeedP dd) (hd:DealOk x) (hB:B_Deal x) (hok:CerOk x c) (h:Hl HTI [] dcs S H0 X d c) (hD:K_Deal.R D H0 x dcs) (hDD:∀id,D id→S id∧¬d.W id):
  SpecW Tryz.prog S H0 d.W 142 [.pointer (some ⟨d.hid,0,none⟩),.agg [.int .i64 dd.1,.int .i64 dd.2.1,.int .i64 dd.2.2].toArray] (HlRes HTI [] dcs X d (doIt x c dd)):=by
 obtain⟨k,A,B⟩:=dd
 obtain⟨hk,hA,hB2,_,_⟩:=hdd
 simp only at hk hA hB2 ⊢
 have hho:¬x.1.1≤A→HoOk x A:=fun p=>⟨hA.1,by omega⟩
 have:k=1∨k=2∨k=3∨k=4∨k=5∨k=6∨k=7∨k=8∨k=9:=by omega
 rcases this with rfl | rfl | rfl | rfl | rfl | rfl | rfl | rfl | rfl
 ·by_cases p:x.1.1≤A
  ·exact implNo1 hd hB hok h hD hDD p
  ·exact implDo1 hd hB hok h hD hDD (hho p)
 ·by_cases p:x.1.1≤A
  ·exact implNo2 hd hB hok h hD hDD p
  ·exact implDo2 hd hB hok h hD hDD (hho p)
 ·exact implDo3 hd hB hok h hD hDD hA
 ·exact implDo4 hd hB hok h hD hDD hA
 ·exact implDo5 hd hB hok h hD hDD hA
 ·by_cases p:x.1.1≤A
  ·exact implNo6 hd hB hok h hD hDD p
  ·exact implDo6 hd hB hok h hD hDD (hho p) hB2
 ·by_cases p:x.1.1≤A
  ·exact implNo7 hd hB hok h hD hDD p
  ·exact implDo7 hd hB hok h hD hDD (hho p)
 ·by_cases p:x.1.1≤A
  ·exact implNo8 hd hB hok h hD hDD p
  ·exact implDo8 hd hB hok h hD hDD (hho p)
 ·exact implDo9 hd hB hok h hD hDD
theorem specDo {dd:T_Deed} {did:Nat} (hdd:DeedP dd) (hd:DealOk x) (hB:B_Deal x) (hok:CerOk x c) (h:Hl HTS [.pointer (some ⟨did,0,none⟩)] [] S H0 X d c) (hD:K_Deal.R D H0 x dcs) (hDv:Has3 D H0 did 0 dcs) (hDD:∀id,D id→S id∧¬d.W id):
  SpecW Tryz.prog S H0 d.W 134 [.pointer (some ⟨d.hid,0,none⟩),.agg [.int .i64 dd.1,.int .i64 dd.2.1,.int .i64 dd.2.2].toArray] (HlRes HTS [.pointer (some ⟨did,0,none⟩)] [] X d (doIt x c dd)):=by
 obtain⟨k,A,B⟩:=dd
 obtain⟨hk,hA,hB2,_,_⟩:=hdd
 simp only at hk hA hB2 ⊢
 have hho:¬x.1.1≤A→HoOk x A:=fun p=>⟨hA.1,by omega⟩
 have:k=1∨k=2∨k=3∨k=4∨k=5∨k=6∨k=7∨k=8∨k=9:=by omega
 rcases this with rfl | rfl | rfl | rfl | rfl | rfl | rfl | rfl | rfl
 ·by_cases p:x.1.1≤A
  ·exact specNo1 hd hB hok h hD hDv hDD p
  ·exact specDo1 hd hB hok h hD hDv hDD (hho p)
 ·by_cases p:x.1.1≤A
  ·exact specNo2 hd hB hok h hD hDv hDD p
  ·exact specDo2 hd hB hok h hD hDv hDD (hho p)
 ·exact specDo3 hd hB hok h hD hDv hDD hA
 ·exact specDo4 hd hB hok h hD hDv hDD hA
 ·exact specDo5 hd hB hok h hD hDv hDD hA
 ·by_cases p:x.1.1≤A
  ·exact specNo6 hd hB hok h hD hDv hDD p
  ·exact specDo6 hd hB hok h hD hDv hDD (hho p)
 ·by_cases p:x.1.1≤A
  ·exact specNo7 hd hB hok h hD hDv hDD p
  ·exact specDo7 hd hB hok h hD hDv hDD (hho p)
 ·by_cases p:x.1.1≤A
  ·exact specNo8 hd hB hok h hD hDv hDD p
  ·exact specDo8 hd hB hok h hD hDv hDD (hho p)
 ·exact specDo9 hd hB hok h hD hDv hDD
end
end Go.Proofs.YtlapbbffoapleaaGreat.Am
namespace Go.Proofs.YtlapbbffoapleaaGreat.Am
open Go Go.RowKit Go.Proofs Go.Proofs.YtlapbbffoapleaaGreat.Pl
def dcells (ds:List T_Deed):List Value:=ds.flatMap fun d=>[.int .i64 d.1,.int .i64 d.2.1,.int .i64 d.2.2]
theorem dcells_len (ds:List T_Deed):(dcells ds).length=ds.length*3:=by
 induction ds with
 | nil=>rfl
 | cons d ds ih=>simp only[dcells,List.flatMap_cons,List.length_append,List.length_cons,List.length_nil] at ih ⊢;omega
theorem dcells_snoc (ds:List T_Deed) (d:T_Deed):dcells (ds++[d])=dcells ds++[.int .i64 d.1,.int .i64 d.2.1,.int .i64 d.2.2]:=by simp[dcells]
theorem deed_R {X:Ids} {A:AH} (d:T_Deed):K_Deed.R X A d [.int .i64 d.1,.int .i64 d.2.1,.int .i64 d.2.2]:=⟨[.int .i64 d.1],[.int .i64 d.2.1,.int .i64 d.2.2],rfl,rfl,[.int .i64 d.2.1],[.int .i64 d.2.2],rfl,rfl,rfl⟩
theorem dcells_cl (X:Ids) (A:AH):∀(l:List T_Deed),Cl K_Deed X A l.reverse (dcells l.reverse)
 | []=>Cl.nil _ _ _ _
 | d :: l=>by
  have h:=(dcells_cl X A l).snoc (deed_R (X:=X) (A:=A) d)
  have e:((dcells l.reverse).drop 0).take (l.reverse.length*K_Deed.es)=dcells l.reverse:=by
   rw[List.drop_zero,List.take_of_length_le]
   rw[dcells_len]
   exact Nat.le_refl _
  rw[e] at h
  rw[List.reverse_cons,dcells_snoc]
  exact h
theorem dcells_Cl (X:Ids) (A:AH) (l:List T_Deed):Cl K_Deed X A l (dcells l):=by
 have h:=dcells_cl X A l.reverse
 rwa [List.reverse_reverse] at h
theorem deeds_sl {S:Ids} {A:AH} {o:Nat} {ty:TypeId} {rw:Bool} {ds:List T_Deed} (hS:S o) (hm:A.m o=some ⟨ty,rw,dcells ds⟩):K_Deed.Sl S A (.slice (some ⟨o,0,some 3⟩) ds.length ds.length) ds:=Cl.sl (dcells_Cl S A ds) hS hm rfl (fun j hj=>hj) (Nat.le_refl _)
def kindsL:List Int:=[1,1,1,1,2,2,2,2,3,3,3,3,3,3,4,5,6,7,8,9]
theorem built_DeedKA (k a:Int):Tryz.prog.built 54 [(0,.int .i64 k),(1,.int .i64 a)]=some #[.int .i64 k,.int .i64 a,.int .i64 0]:=by kernel_rfl
structure DdS where
 m:Nat
 S:Ids
 A:AH
 X:Ids
 d:HD
 c:Cer
 ds:List T_Deed
 o:Nat
structure DdI (bs:List Int) (ac:Option Addr) (cc id:Nat) (Y:Ids) (B:Nat) (x:T_Deal) (did hid:Nat) (H:AH) (s:DdS):Prop where
 hl:Hl HTS [.pointer (some ⟨did,0,none⟩)] [] s.S s.A s.X s.d s.c
 hd:s.d.hid=hid
 ok:CerOk x s.c
 src:SrcB bs ac cc id Y s.S s.A (B+s.ds.length*20)
 E:GwE H (fun i=>i=id) s.S s.A
 wn:∀j,s.d.W j→H.n≤j
 xn:∀j,s.X j→H.n≤j
 len:s.ds.length+s.m≤36
 dp:∀d∈s.ds,DeedP d
section
variable {S:Ids} {H0:AH} {bs:List Int} {ac:Option Addr} {cc id B:Nat} {Y:Ids}
theorem pickC {n:Int} (h:SrcB bs ac cc id Y S H0 B) (hB:B≤900000) (hn:n≤1000000):SpecW Tryz.prog S H0 (fun i=>i=id) 70 [.pointer (some ⟨id,0,none⟩),.int .i64 n] (fun _ v H1=>∃z:Nat,((z:Int)<n∨z=0)∧v=.int .i64 z∧∃at_,at_≤B+2∧Src ac bs.length cc H1 id at_):=by
 by_cases h1:1≤n
 ·intro H hf hz
  obtain⟨m,v,H1,k1,k2,k3,k4,z,k5,k6,k7⟩:=pickB h hB hn H hf hz
  exact⟨m,v,H1,k1,k2,k3,k4,z,.inl (k5 h1),k6,k7⟩
 ·refine SpecW.of0 Tryz.func70 rfl (by kernel_rfl) rfl (fun H hfin hfz=>?_)
  have SB0:SrcB bs ac cc id Y (Low H.n) H B:=h.s (fun i hi=>hfz i hi) (Nat.le_refl _)
  refine KW.yes U U (by omega) ?_
  refine KW.retW U U U U (fun H1 g=>by have:=g.n_;omega) (fun i hi hw=>⟨hi,rfl⟩) (fun H1 g=>⟨0,.inr rfl,rfl,?_⟩)
  obtain⟨q,h1,h2⟩:=SB0.src
  exact⟨q,by omega,h2.mv (g.froz id SB0.sid).2⟩
theorem l08Deeds {D:Ids} {x:T_Deal} {dcs:List Value} {did:Nat} (hd:DealOk x) (hB:B_Deal x) (hD:K_Deal.R D H0 x dcs) (hDv:Has3 D H0 did 0 dcs) (hDS:∀i,D i→S i∧i≠id) (hsrc:SrcB bs ac cc id Y S H0 B) (hBB:B≤400000):
  SpecW Tryz.prog S H0 (fun i=>i=id) 53 [.pointer (some ⟨id,0,none⟩),.pointer (some ⟨did,0,none⟩),.int .i64 36] (fun m v H1=>(∃(ds:List T_Deed) (o:Nat),v=.slice (some ⟨o,0,some 3⟩) ds.length ds.length∧ds.length≤36∧(∀d∈ds,DeedP d)∧New m H1.n o∧H1.m o=some ⟨54,true,dcells ds⟩)∧∃at_,at_≤B+1000∧Src ac bs.length cc H1 id at_):=by
 refine SpecW.of0P [(6,[0,1,3,4,5,6,7,8,2,9,10,11,12])] [6,11,13] Tryz.func53 rfl (by kernel_rfl) (by kernel_rfl) (by kernel_rfl) rfl (fun H hfin hfz=>?_)
 have SB0:SrcB bs ac cc id Y (Low H.n) H B:=hsrc.s (fun i hi=>hfz i hi) (Nat.le_refl _)
 have E0:GwE H (fun i=>i=id) (Low H.n) H:=⟨fun i hi=>by rw[hi];exact SB0.sid,fun i h _=>⟨h,rfl⟩⟩
 have hidL:id<H.n:=SB0.sid
 have hDl:∀i,D i→i<H.n∧i≠id:=fun i hi=>⟨(hfz i (hDS i hi).1).1,(hDS i hi).2⟩
 have hD0:K_Deal.R D H x dcs:=K_Deal.same (fun i hi=>(hfz i (hDS i hi).1).2) hD
 have hDv0:Has3 D H did 0 dcs:=by
  obtain⟨q0,b,q1,q2⟩:=hDv
  exact⟨q0,b,((hfz did (hDS did q0).1).2).trans q1,q2⟩
 have hDvL:Has3 (Low H.n) H did 0 dcs:=⟨(hDl did hDv0.1).1,hDv0.2⟩
 refine KW.litS0 U U U U U U U U U U ?_
 refine KW.callN1 U U U U U (l08Begin hd hD0 hDvL) (fun v H1 S1 m1 _ _ hv=>?_)
 obtain⟨d1,sp,rfl,hh⟩:=hv
 have st1:=(inferInstance:On (Low H.n) H S1 H1).st
 have hh1:=hh.on (S':=S1) (A':=H1)
 obtain⟨hid,ehid⟩:∃hid,d1.hid=hid:=⟨_,rfl⟩
 rw[ehid]
 have SB1:=SB0.s (B':=B) st1 (Nat.le_refl _)
 have E1:=E0.s st1
 refine KW.callW (W:=fun i=>i=id) (fun i hi=>by subst hi;exact SB1.sid) U U U U U (pickB (n:=37) SB1 (by omega) (by omega)) (fun v H2 S2 n2 st2 w2 hv2=>?_)
 obtain⟨z2,hz2,rfl,src2⟩:=hv2
 have hz2:=hz2 (by omega)
 have SB2:=SB1.w1 st2 src2
 have E2:=E1.w st2 (fun i hi=>.inl hi)
 have hwn:∀j,d1.W j→H.n≤j:=fun j hj=>by have:=(hh.w j hj).1;omega
 have hh2:Hl HTS [.pointer (some ⟨did,0,none⟩)] [] S2 H2 (fun _=>False) d1 (cer0 x.1.1.toNat):=hh1.mv fun j hj=>by
  have hj2:S1 j:=hj.elim (hh1.w j) (fun h=>h.elim)
  have hne:j≠id:=by have:=hj.elim (hwn j) (fun h=>h.elim);omega
  exact⟨(st2 j hj2).1,(st2 j hj2).2 hne⟩
 refine KW.lpM U U (fun s:DdS=>[(0,.pointer (some ⟨id,0,none⟩)),(1,.pointer (some ⟨did,0,none⟩)),(7,.slice (some ⟨s.o,0,some 3⟩) s.ds.length s.ds.length),(8,.pointer (some ⟨hid,0,none⟩)),(9,.int .i64 s.m)]) (fun s=>s.S) (fun s=>s.A) (fun s=>[(s.o,⟨54,true,dcells s.ds⟩)]) (fun s=>DdI bs ac cc id Y (B+2) x did hid H s) (fun s=>s.m) (⟨z2,S2,H2,fun _=>False,d1,cer0 x.1.1.toNat,[],H.n⟩) (⟨hh2,ehid,CerOk.start hd,SB2.s (fun i hi=>⟨hi,rfl⟩) (by simp only[List.length_nil];omega),E2,hwn,fun _ h=>h.elim,by simp only[List.length_nil];omega,fun d hdm=>(by cases hdm)⟩) ⟨rfl,rfl,rfl,rfl,rfl,trivial⟩ U U (rfl) (fun s hi bE n=>?_)
 obtain⟨m,S3,A3,X3,d3,c3,ds,o3⟩:=s
 obtain⟨hl3,hd3,ok3,SB3,E3,wn3,xn3,len3,dp3⟩:=hi
 simp only at hl3 hd3 ok3 SB3 E3 wn3 xn3 len3 dp3
 refine KW.cnd U U (fun k1=>?_) (fun k1=>?_)
 ·have k1:(m:Int)>0:=k1
  have hh1b:=hd.sch.h1
  have hh7b:=hd.sch.h7
  have hDv3:Has3 S3 A3 did 0 dcs:=by
   obtain⟨q0,b,q1,q2⟩:=hDv0
   have h:=E3.old did (hDl did q0).1 (hDl did q0).2
   exact⟨h.1,b,h.2.trans q1,q2⟩
  obtain⟨a1,c1,a2,c2,a3,c3',a4,c4,rfl⟩:=form_Deal hD0
  refine KW.lit U U U U U U U U U U (kindsL.map (Value.int .i64)) U U (fun v hv=>by obtain⟨x,_,rfl⟩:=List.mem_map.1 hv;rfl) rfl ?_
  refine KW.freeze 1 rfl (fun A4 S4 hn4 hS4 st4 hm4 ho4 hno4 hlow4=>?_)
  have SB4:=SB3.s (B':=B+2+ds.length*20) st4.st (Nat.le_refl _)
  have E4:=E3.s st4.st
  have hDv4:=hDv3.up (S':=S4) (H':=A4)
  refine KW.ldF 0 hDv4 U U U U U U U U U ?_
  refine KW.callWL (W:=fun i=>i=id) (fun i hi=>by subst hi;exact SB4.sid) U U U U U ⟨.inr ⟨did,_,_,rfl,hDv4.1,(hDl did hDv0.1).2⟩,trivial⟩ (amongB SB4 (by omega) (ls:=kindsL) (by decide) (by decide) (litSl hm4 hS4 hno4 SB3.sid)) (fun v H5 S5 n5 st5 w5 hv5=>?_)
  obtain⟨kd,hkd,rfl,src5⟩:=hv5
  have SB5:=SB4.w1 st5 src5
  have E5:=E4.w st5 (fun i hi=>.inl hi)
  refine KW.callW (W:=fun i=>i=id) (fun i hi=>by subst hi;exact SB5.sid) U U U U U (pickB (n:=x.1.1) SB5 (by omega) (by omega)) (fun v H6 S6 n6 st6 w6 hv6=>?_)
  obtain⟨z6,hz6,rfl,src6⟩:=hv6
  have hz6:=hz6 (by omega)
  have SB6:=SB5.w1 st6 src6
  have E6:=E5.w st6 (fun i hi=>.inl hi)
  refine KW.build U U U U U (built_DeedKA _ _) ?_
  subst hd3
  have hl6:Hl HTS [.pointer (some ⟨did,0,none⟩)] [] S6 H6 X3 d3 c3:=hl3.mv fun j hj=>by
   have hj3:S3 j:=hj.elim (hl3.w j) (hl3.sx j)
   have hne:j≠id:=by have:=hj.elim (wn3 j) (xn3 j);omega
   have h4:=st4.st j hj3
   have h5:=st5 j h4.1
   have h6:=st6 j h5.1
   exact⟨h6.1,(h6.2 hne).trans ((h5.2 hne).trans h4.2)⟩
  have hidne:d3.hid≠id:=by have:=wn3 _ HD.Win.1;omega
  have hWne:∀j,d3.W j∨X3 j→j≠id:=fun j hj e=>by have:=hj.elim (wn3 j) (xn3 j);omega
  obtain⟨aw,cw,ew⟩:∃aw cw,d3.wv c3.wire.length=.slice aw c3.wire.length cw:=by
   obtain⟨a,c,h⟩:=hl6.wireSl.form
   exact⟨a,c,h⟩
  have hwl:=ok3.wl
  have hDv6:Has3 S6 H6 did 0 [.int .i64 x.1.1,.slice a1 x.1.2.1.length c1,.int .i64 x.1.2.2.1,.int .i64 x.1.2.2.2.1,.slice a2 x.1.2.2.2.2.length c2,.int .i64 x.2.1,.slice a3 x.2.2.1.length c3',.slice a4 x.2.2.2.length c4]:=by
   obtain⟨q0,b,q1,q2⟩:=hDv0
   have h:=E6.old did (hDl did q0).1 (hDl did q0).2
   exact⟨h.1,b,h.2.trans q1,q2⟩
  have hp2:=hd.prime.1
  have hp31:=hd.prime.2.1
  have hk9:kd=1∨kd=2∨kd=3∨kd=4∨kd=5∨kd=6∨kd=7∨kd=8∨kd=9:=by simp[kindsL] at hkd;omega
  rcases hk9 with rfl | rfl | rfl | rfl | rfl | rfl | rfl | rfl | rfl
  ·refine KW.cF U U (by first | (simp;done) | decide) ?_
   refine KW.cF U U (by first | (simp;done) | decide) ?_
   refine KW.cF U U (by first | (simp;done) | decide) ?_
   refine KW.cF U U (by first | (simp;done) | decide) ?_
   refine KW.cF U U (by first | (simp;done) | decide) ?_
   have hdp:DeedP ((1:Int),(z6:Int),(0:Int)):=⟨by show 1≤(1:Int)∧(1:Int)≤9;decide,⟨by show 0≤(z6:Int);omega,by show(z6:Int)≤999;omega⟩,by show 0≤(0:Int)∧(0:Int)≤999;decide,.inl (by show 0<cntD 1;decide),.inr rfl⟩
   refine KW.litS1 U U U U U U U U U U U U ?_
   refine KW.appTS (m:=1) (ys:=[.int .i64 ((1:Int)),.int .i64 ((z6:Int)),.int .i64 ((0:Int))]) 0 U U U U U U U U (by decide) rfl (fun H1 g=>acells_seg (g.blk (j:=2) rfl).1 (by show 0+1*3≤3;decide)) (by show 0+ds.length*3≤(dcells ds).length;rw[dcells_len];omega) rfl (by decide) (by show(ds.length+1)*24≤_;omega) (by show ds.length+1≤_;omega) ?_
   refine KW.ids (fun hlow9 hvar9=>?_)
   have hnn9:=E6.nle hlow9
   have hDX:K_Deal.R D H6 x _:=K_Deal.same (fun j hj=>(E6.old j (hDl j hj).1 (hDl j hj).2).2) hD0
   have hDvX:Has3 D H6 did 0 [.int .i64 x.1.1,.slice a1 x.1.2.1.length c1,.int .i64 x.1.2.2.1,.int .i64 x.1.2.2.2.1,.slice a2 x.1.2.2.2.2.length c2,.int .i64 x.2.1,.slice a3 x.2.2.1.length c3',.slice a4 x.2.2.2.length c4]:=by
    obtain⟨q0,b,q1,q2⟩:=hDv0
    exact⟨q0,b,(E6.old did (hDl did q0).1 (hDl did q0).2).2.trans q1,q2⟩
   have hdo:=specDo hdp hd hB ok3 hl6 hDX hDvX (fun j hj=>⟨(E6.old j (hDl j hj).1 (hDl j hj).2).1,fun hw=>by have:=wn3 j hw;have:=(hDl j hj).1;omega⟩)
   refine KW.callW hl6.w U U U U U hdo (fun v H9 S9 n9 st9 w9 hv9=>?_)
   obtain⟨rfl,X9,d9,hl9,hd9,hx9,hw9⟩:=hv9
   have E9:=E6.w st9 (fun j hj=>.inr (wn3 j hj))
   have SB9:SrcB bs ac cc id Y S9 H9 (B+2+(ds.length+1)*20):=by
    have hidw:¬d3.W id:=fun hw=>by have:=wn3 id hw;omega
    obtain⟨q,h1,h2⟩:=SB6.src
    exact SB6.w st9 (fun j hj hw=>by have h1:=wn3 j hw;have h2:j<H.n:=(SB0.y j hj).1;omega) ⟨q,by omega,h2.mv ((st9 id SB6.sid).2 hidw)⟩
   have hl9':Hl HTS [.pointer (some ⟨did,0,none⟩)] [] S9 H9 X9 d9 (doIt x c3 ((1:Int),(z6:Int),(0:Int))).1:=hl9.mv fun j hj=>by
    have h:d3.W j∨X3 j∨New _ H9.n j:=hj.elim (hl9.w j) (hl9.sx j)
    rcases h with h | h | h
    ·exact⟨(st9 j (hl6.w j h)).1,rfl⟩
    ·exact⟨(st9 j (hl6.sx j h)).1,rfl⟩
    ·exact⟨w9 j h,rfl⟩
   obtain⟨c9,ec9⟩:∃c9,(doIt x c3 ((1:Int),(z6:Int),(0:Int))).1=c9:=⟨_,rfl⟩
   have ok9:CerOk x c9:=by rw[← ec9];exact ok3.doIt hd hdp
   rw[ec9] at hl9'
   have em:IntKind.i64.wrap ((m:Int)-1)=((m-1:Nat):Int):=by rw[wr (by omega) (by omega)];omega
   obtain⟨dsn,edsn⟩:∃dsn,ds++[((1:Int),(z6:Int),(0:Int))]=dsn:=⟨_,rfl⟩
   have ln:dsn.length=ds.length+1:=by rw[← edsn];simp
   have cn:((dcells ds).drop 0).take (ds.length*3)++[Value.int .i64 ((1:Int)),.int .i64 ((z6:Int)),.int .i64 ((0:Int))]=dcells dsn:=by
    rw[← edsn,dcells_snoc,List.drop_zero,List.take_of_length_le (by rw[dcells_len];exact Nat.le_refl _)]
   have dn:∀d∈dsn,DeedP d:=fun d hdm=>by
    rw[← edsn] at hdm
    exact(List.mem_append.1 hdm).elim (dp3 d) (fun h=>by rw[List.mem_singleton.1 h];exact hdp)
   have inv9:∀o9,DdI bs ac cc id Y (B+2) x did d3.hid H ⟨m-1,S9,H9,X9,d9,c9,dsn,o9⟩:=fun o9=>⟨hl9',hd9,ok9,by
     show SrcB bs ac cc id Y S9 H9 (B+2+dsn.length*20)
     rw[ln];exact SB9,E9,fun j hj=>(hw9 j hj).elim (wn3 j) (fun h=>by have:=h.1;omega),fun j hj=>(hx9 j hj).elim (xn3 j) (fun h=>by have:=h.1;omega),by show dsn.length+(m-1)≤36;omega,dn⟩
   refine KW.nxt U U (fun H' g=>⟨⟨m-1,S9,H9,X9,d9,c9,dsn,_⟩,inv9 _,by simp only;omega,⟨rfl,rfl,by show _=Value.slice _ dsn.length dsn.length;rw[ln];rfl,rfl,congrArg (Value.int .i64) em,trivial⟩,(g.take 1).eqT ?_⟩)
   exact congrArg (fun cs=>([(_,(⟨_,true,cs⟩:Blk))]:List Var)) cn
  ·refine KW.cF U U (by first | (simp;done) | decide) ?_
   refine KW.cF U U (by first | (simp;done) | decide) ?_
   refine KW.cF U U (by first | (simp;done) | decide) ?_
   refine KW.cF U U (by first | (simp;done) | decide) ?_
   refine KW.cF U U (by first | (simp;done) | decide) ?_
   have hdp:DeedP ((2:Int),(z6:Int),(0:Int)):=⟨by show 1≤(2:Int)∧(2:Int)≤9;decide,⟨by show 0≤(z6:Int);omega,by show(z6:Int)≤999;omega⟩,by show 0≤(0:Int)∧(0:Int)≤999;decide,.inl (by show 0<cntD 2;decide),.inr rfl⟩
   refine KW.litS1 U U U U U U U U U U U U ?_
   refine KW.appTS (m:=1) (ys:=[.int .i64 ((2:Int)),.int .i64 ((z6:Int)),.int .i64 ((0:Int))]) 0 U U U U U U U U (by decide) rfl (fun H1 g=>acells_seg (g.blk (j:=2) rfl).1 (by show 0+1*3≤3;decide)) (by show 0+ds.length*3≤(dcells ds).length;rw[dcells_len];omega) rfl (by decide) (by show(ds.length+1)*24≤_;omega) (by show ds.length+1≤_;omega) ?_
   refine KW.ids (fun hlow9 hvar9=>?_)
   have hnn9:=E6.nle hlow9
   have hDX:K_Deal.R D H6 x _:=K_Deal.same (fun j hj=>(E6.old j (hDl j hj).1 (hDl j hj).2).2) hD0
   have hDvX:Has3 D H6 did 0 [.int .i64 x.1.1,.slice a1 x.1.2.1.length c1,.int .i64 x.1.2.2.1,.int .i64 x.1.2.2.2.1,.slice a2 x.1.2.2.2.2.length c2,.int .i64 x.2.1,.slice a3 x.2.2.1.length c3',.slice a4 x.2.2.2.length c4]:=by
    obtain⟨q0,b,q1,q2⟩:=hDv0
    exact⟨q0,b,(E6.old did (hDl did q0).1 (hDl did q0).2).2.trans q1,q2⟩
   have hdo:=specDo hdp hd hB ok3 hl6 hDX hDvX (fun j hj=>⟨(E6.old j (hDl j hj).1 (hDl j hj).2).1,fun hw=>by have:=wn3 j hw;have:=(hDl j hj).1;omega⟩)
   refine KW.callW hl6.w U U U U U hdo (fun v H9 S9 n9 st9 w9 hv9=>?_)
   obtain⟨rfl,X9,d9,hl9,hd9,hx9,hw9⟩:=hv9
   have E9:=E6.w st9 (fun j hj=>.inr (wn3 j hj))
   have SB9:SrcB bs ac cc id Y S9 H9 (B+2+(ds.length+1)*20):=by
    have hidw:¬d3.W id:=fun hw=>by have:=wn3 id hw;omega
    obtain⟨q,h1,h2⟩:=SB6.src
    exact SB6.w st9 (fun j hj hw=>by have h1:=wn3 j hw;have h2:j<H.n:=(SB0.y j hj).1;omega) ⟨q,by omega,h2.mv ((st9 id SB6.sid).2 hidw)⟩
   have hl9':Hl HTS [.pointer (some ⟨did,0,none⟩)] [] S9 H9 X9 d9 (doIt x c3 ((2:Int),(z6:Int),(0:Int))).1:=hl9.mv fun j hj=>by
    have h:d3.W j∨X3 j∨New _ H9.n j:=hj.elim (hl9.w j) (hl9.sx j)
    rcases h with h | h | h
    ·exact⟨(st9 j (hl6.w j h)).1,rfl⟩
    ·exact⟨(st9 j (hl6.sx j h)).1,rfl⟩
    ·exact⟨w9 j h,rfl⟩
   obtain⟨c9,ec9⟩:∃c9,(doIt x c3 ((2:Int),(z6:Int),(0:Int))).1=c9:=⟨_,rfl⟩
   have ok9:CerOk x c9:=by rw[← ec9];exact ok3.doIt hd hdp
   rw[ec9] at hl9'
   have em:IntKind.i64.wrap ((m:Int)-1)=((m-1:Nat):Int):=by rw[wr (by omega) (by omega)];omega
   obtain⟨dsn,edsn⟩:∃dsn,ds++[((2:Int),(z6:Int),(0:Int))]=dsn:=⟨_,rfl⟩
   have ln:dsn.length=ds.length+1:=by rw[← edsn];simp
   have cn:((dcells ds).drop 0).take (ds.length*3)++[Value.int .i64 ((2:Int)),.int .i64 ((z6:Int)),.int .i64 ((0:Int))]=dcells dsn:=by
    rw[← edsn,dcells_snoc,List.drop_zero,List.take_of_length_le (by rw[dcells_len];exact Nat.le_refl _)]
   have dn:∀d∈dsn,DeedP d:=fun d hdm=>by
    rw[← edsn] at hdm
    exact(List.mem_append.1 hdm).elim (dp3 d) (fun h=>by rw[List.mem_singleton.1 h];exact hdp)
   have inv9:∀o9,DdI bs ac cc id Y (B+2) x did d3.hid H ⟨m-1,S9,H9,X9,d9,c9,dsn,o9⟩:=fun o9=>⟨hl9',hd9,ok9,by
     show SrcB bs ac cc id Y S9 H9 (B+2+dsn.length*20)
     rw[ln];exact SB9,E9,fun j hj=>(hw9 j hj).elim (wn3 j) (fun h=>by have:=h.1;omega),fun j hj=>(hx9 j hj).elim (xn3 j) (fun h=>by have:=h.1;omega),by show dsn.length+(m-1)≤36;omega,dn⟩
   refine KW.nxt U U (fun H' g=>⟨⟨m-1,S9,H9,X9,d9,c9,dsn,_⟩,inv9 _,by simp only;omega,⟨rfl,rfl,by show _=Value.slice _ dsn.length dsn.length;rw[ln];rfl,rfl,congrArg (Value.int .i64) em,trivial⟩,(g.take 1).eqT ?_⟩)
   exact congrArg (fun cs=>([(_,(⟨_,true,cs⟩:Blk))]:List Var)) cn
  ·refine KW.cT U U (by first | (simp;done) | decide) ?_
   refine KW.cT U U (by first | (simp;done) | decide) ?_
   have hc6:=hl6.cellsH
   unfold HD.cells at hc6
   rw[ew] at hc6
   refine KW.ldF 7 hc6 U U U U U U U U U ?_
   refine KW.callWL (W:=fun i=>i=id) (fun i hi=>by subst hi;exact SB6.sid) U U U U U ⟨.inr ⟨d3.hid,_,_,rfl,hc6.1,hidne⟩,trivial⟩ (pickB (n:=12) SB6 (by omega) (by omega)) (fun v H7 S7 n7 st7 w7 hv7=>?_)
   obtain⟨z7,hz7,rfl,src7⟩:=hv7
   have hz7:=hz7 (by omega)
   have SB7:=SB6.w1 st7 src7
   have E7:=E6.w st7 (fun i hi=>.inl hi)
   have et:IntKind.i64.wrap ((z7:Int).tdiv 11)=(z7:Int) / 11:=by rw[Int.tdiv_eq_ediv_of_nonneg (by omega),wr (by omega) (by omega)]
   have ez:IntKind.i64.wrap ((c3.wire.length:Int)+IntKind.i64.wrap ((z7:Int).tdiv 11))=(c3.wire.length:Int)+(z7:Int) / 11:=by rw[et,wr (by omega) (by omega)]
   refine KW.callW (W:=fun i=>i=id) (fun i hi=>by subst hi;exact SB7.sid) U U U U U (pickC (n:=IntKind.i64.wrap ((c3.wire.length:Int)+IntKind.i64.wrap ((z7:Int).tdiv 11))) SB7 (by omega) (by omega)) (fun v H8 S8 n8 st8 w8 hv8=>?_)
   obtain⟨z8,hz8,rfl,src8⟩:=hv8
   have SB8:=SB7.w1 st8 src8
   have E8:=E7.w st8 (fun i hi=>.inl hi)
   have hl8:Hl HTS [.pointer (some ⟨did,0,none⟩)] [] S8 H8 X3 d3 c3:=hl6.mv fun j hj=>by
    have h7:=st7 j (hj.elim (hl6.w j) (hl6.sx j))
    have h8:=st8 j h7.1
    exact⟨h8.1,(h8.2 (hWne j hj)).trans (h7.2 (hWne j hj))⟩
   have hdp:DeedP ((3:Int),(z8:Int),(0:Int)):=⟨by show 1≤(3:Int)∧(3:Int)≤9;decide,⟨by show 0≤(z8:Int);omega,by show(z8:Int)≤999;omega⟩,by show 0≤(0:Int)∧(0:Int)≤999;decide,.inl (by show 0<cntD 3;decide),.inr rfl⟩
   refine KW.litS1 U U U U U U U U U U U U ?_
   refine KW.appTS (m:=1) (ys:=[.int .i64 ((3:Int)),.int .i64 ((z8:Int)),.int .i64 ((0:Int))]) 0 U U U U U U U U (by decide) rfl (fun H1 g=>acells_seg (g.blk (j:=2) rfl).1 (by show 0+1*3≤3;decide)) (by show 0+ds.length*3≤(dcells ds).length;rw[dcells_len];omega) rfl (by decide) (by show(ds.length+1)*24≤_;omega) (by show ds.length+1≤_;omega) ?_
   refine KW.ids (fun hlow9 hvar9=>?_)
   have hnn9:=E8.nle hlow9
   have hDX:K_Deal.R D H8 x _:=K_Deal.same (fun j hj=>(E8.old j (hDl j hj).1 (hDl j hj).2).2) hD0
   have hDvX:Has3 D H8 did 0 [.int .i64 x.1.1,.slice a1 x.1.2.1.length c1,.int .i64 x.1.2.2.1,.int .i64 x.1.2.2.2.1,.slice a2 x.1.2.2.2.2.length c2,.int .i64 x.2.1,.slice a3 x.2.2.1.length c3',.slice a4 x.2.2.2.length c4]:=by
    obtain⟨q0,b,q1,q2⟩:=hDv0
    exact⟨q0,b,(E8.old did (hDl did q0).1 (hDl did q0).2).2.trans q1,q2⟩
   have hdo:=specDo hdp hd hB ok3 hl8 hDX hDvX (fun j hj=>⟨(E8.old j (hDl j hj).1 (hDl j hj).2).1,fun hw=>by have:=wn3 j hw;have:=(hDl j hj).1;omega⟩)
   refine KW.callW hl8.w U U U U U hdo (fun v H9 S9 n9 st9 w9 hv9=>?_)
   obtain⟨rfl,X9,d9,hl9,hd9,hx9,hw9⟩:=hv9
   have E9:=E8.w st9 (fun j hj=>.inr (wn3 j hj))
   have SB9:SrcB bs ac cc id Y S9 H9 (B+2+(ds.length+1)*20):=by
    have hidw:¬d3.W id:=fun hw=>by have:=wn3 id hw;omega
    obtain⟨q,h1,h2⟩:=SB8.src
    exact SB8.w st9 (fun j hj hw=>by have h1:=wn3 j hw;have h2:j<H.n:=(SB0.y j hj).1;omega) ⟨q,by omega,h2.mv ((st9 id SB8.sid).2 hidw)⟩
   have hl9':Hl HTS [.pointer (some ⟨did,0,none⟩)] [] S9 H9 X9 d9 (doIt x c3 ((3:Int),(z8:Int),(0:Int))).1:=hl9.mv fun j hj=>by
    have h:d3.W j∨X3 j∨New _ H9.n j:=hj.elim (hl9.w j) (hl9.sx j)
    rcases h with h | h | h
    ·exact⟨(st9 j (hl8.w j h)).1,rfl⟩
    ·exact⟨(st9 j (hl8.sx j h)).1,rfl⟩
    ·exact⟨w9 j h,rfl⟩
   obtain⟨c9,ec9⟩:∃c9,(doIt x c3 ((3:Int),(z8:Int),(0:Int))).1=c9:=⟨_,rfl⟩
   have ok9:CerOk x c9:=by rw[← ec9];exact ok3.doIt hd hdp
   rw[ec9] at hl9'
   have em:IntKind.i64.wrap ((m:Int)-1)=((m-1:Nat):Int):=by rw[wr (by omega) (by omega)];omega
   obtain⟨dsn,edsn⟩:∃dsn,ds++[((3:Int),(z8:Int),(0:Int))]=dsn:=⟨_,rfl⟩
   have ln:dsn.length=ds.length+1:=by rw[← edsn];simp
   have cn:((dcells ds).drop 0).take (ds.length*3)++[Value.int .i64 ((3:Int)),.int .i64 ((z8:Int)),.int .i64 ((0:Int))]=dcells dsn:=by
    rw[← edsn,dcells_snoc,List.drop_zero,List.take_of_length_le (by rw[dcells_len];exact Nat.le_refl _)]
   have dn:∀d∈dsn,DeedP d:=fun d hdm=>by
    rw[← edsn] at hdm
    exact(List.mem_append.1 hdm).elim (dp3 d) (fun h=>by rw[List.mem_singleton.1 h];exact hdp)
   have inv9:∀o9,DdI bs ac cc id Y (B+2) x did d3.hid H ⟨m-1,S9,H9,X9,d9,c9,dsn,o9⟩:=fun o9=>⟨hl9',hd9,ok9,by
     show SrcB bs ac cc id Y S9 H9 (B+2+dsn.length*20)
     rw[ln];exact SB9,E9,fun j hj=>(hw9 j hj).elim (wn3 j) (fun h=>by have:=h.1;omega),fun j hj=>(hx9 j hj).elim (xn3 j) (fun h=>by have:=h.1;omega),by show dsn.length+(m-1)≤36;omega,dn⟩
   refine KW.nxt U U (fun H' g=>⟨⟨m-1,S9,H9,X9,d9,c9,dsn,_⟩,inv9 _,by simp only;omega,⟨rfl,rfl,by show _=Value.slice _ dsn.length dsn.length;rw[ln];rfl,rfl,congrArg (Value.int .i64) em,trivial⟩,(g.take 1).eqT ?_⟩)
   exact congrArg (fun cs=>([(_,(⟨_,true,cs⟩:Blk))]:List Var)) cn
  ·refine KW.cF U U (by first | (simp;done) | decide) ?_
   refine KW.cT U U (by first | (simp;done) | decide) ?_
   refine KW.cT U U (by first | (simp;done) | decide) ?_
   have hc6:=hl6.cellsH
   unfold HD.cells at hc6
   rw[ew] at hc6
   refine KW.ldF 7 hc6 U U U U U U U U U ?_
   refine KW.callWL (W:=fun i=>i=id) (fun i hi=>by subst hi;exact SB6.sid) U U U U U ⟨.inr ⟨d3.hid,_,_,rfl,hc6.1,hidne⟩,trivial⟩ (pickB (n:=12) SB6 (by omega) (by omega)) (fun v H7 S7 n7 st7 w7 hv7=>?_)
   obtain⟨z7,hz7,rfl,src7⟩:=hv7
   have hz7:=hz7 (by omega)
   have SB7:=SB6.w1 st7 src7
   have E7:=E6.w st7 (fun i hi=>.inl hi)
   have et:IntKind.i64.wrap ((z7:Int).tdiv 11)=(z7:Int) / 11:=by rw[Int.tdiv_eq_ediv_of_nonneg (by omega),wr (by omega) (by omega)]
   have ez:IntKind.i64.wrap ((c3.wire.length:Int)+IntKind.i64.wrap ((z7:Int).tdiv 11))=(c3.wire.length:Int)+(z7:Int) / 11:=by rw[et,wr (by omega) (by omega)]
   refine KW.callW (W:=fun i=>i=id) (fun i hi=>by subst hi;exact SB7.sid) U U U U U (pickC (n:=IntKind.i64.wrap ((c3.wire.length:Int)+IntKind.i64.wrap ((z7:Int).tdiv 11))) SB7 (by omega) (by omega)) (fun v H8 S8 n8 st8 w8 hv8=>?_)
   obtain⟨z8,hz8,rfl,src8⟩:=hv8
   have SB8:=SB7.w1 st8 src8
   have E8:=E7.w st8 (fun i hi=>.inl hi)
   have hl8:Hl HTS [.pointer (some ⟨did,0,none⟩)] [] S8 H8 X3 d3 c3:=hl6.mv fun j hj=>by
    have h7:=st7 j (hj.elim (hl6.w j) (hl6.sx j))
    have h8:=st8 j h7.1
    exact⟨h8.1,(h8.2 (hWne j hj)).trans (h7.2 (hWne j hj))⟩
   have hdp:DeedP ((4:Int),(z8:Int),(0:Int)):=⟨by show 1≤(4:Int)∧(4:Int)≤9;decide,⟨by show 0≤(z8:Int);omega,by show(z8:Int)≤999;omega⟩,by show 0≤(0:Int)∧(0:Int)≤999;decide,.inl (by show 0<cntD 4;decide),.inr rfl⟩
   refine KW.litS1 U U U U U U U U U U U U ?_
   refine KW.appTS (m:=1) (ys:=[.int .i64 ((4:Int)),.int .i64 ((z8:Int)),.int .i64 ((0:Int))]) 0 U U U U U U U U (by decide) rfl (fun H1 g=>acells_seg (g.blk (j:=2) rfl).1 (by show 0+1*3≤3;decide)) (by show 0+ds.length*3≤(dcells ds).length;rw[dcells_len];omega) rfl (by decide) (by show(ds.length+1)*24≤_;omega) (by show ds.length+1≤_;omega) ?_
   refine KW.ids (fun hlow9 hvar9=>?_)
   have hnn9:=E8.nle hlow9
   have hDX:K_Deal.R D H8 x _:=K_Deal.same (fun j hj=>(E8.old j (hDl j hj).1 (hDl j hj).2).2) hD0
   have hDvX:Has3 D H8 did 0 [.int .i64 x.1.1,.slice a1 x.1.2.1.length c1,.int .i64 x.1.2.2.1,.int .i64 x.1.2.2.2.1,.slice a2 x.1.2.2.2.2.length c2,.int .i64 x.2.1,.slice a3 x.2.2.1.length c3',.slice a4 x.2.2.2.length c4]:=by
    obtain⟨q0,b,q1,q2⟩:=hDv0
    exact⟨q0,b,(E8.old did (hDl did q0).1 (hDl did q0).2).2.trans q1,q2⟩
   have hdo:=specDo hdp hd hB ok3 hl8 hDX hDvX (fun j hj=>⟨(E8.old j (hDl j hj).1 (hDl j hj).2).1,fun hw=>by have:=wn3 j hw;have:=(hDl j hj).1;omega⟩)
   refine KW.callW hl8.w U U U U U hdo (fun v H9 S9 n9 st9 w9 hv9=>?_)
   obtain⟨rfl,X9,d9,hl9,hd9,hx9,hw9⟩:=hv9
   have E9:=E8.w st9 (fun j hj=>.inr (wn3 j hj))
   have SB9:SrcB bs ac cc id Y S9 H9 (B+2+(ds.length+1)*20):=by
    have hidw:¬d3.W id:=fun hw=>by have:=wn3 id hw;omega
    obtain⟨q,h1,h2⟩:=SB8.src
    exact SB8.w st9 (fun j hj hw=>by have h1:=wn3 j hw;have h2:j<H.n:=(SB0.y j hj).1;omega) ⟨q,by omega,h2.mv ((st9 id SB8.sid).2 hidw)⟩
   have hl9':Hl HTS [.pointer (some ⟨did,0,none⟩)] [] S9 H9 X9 d9 (doIt x c3 ((4:Int),(z8:Int),(0:Int))).1:=hl9.mv fun j hj=>by
    have h:d3.W j∨X3 j∨New _ H9.n j:=hj.elim (hl9.w j) (hl9.sx j)
    rcases h with h | h | h
    ·exact⟨(st9 j (hl8.w j h)).1,rfl⟩
    ·exact⟨(st9 j (hl8.sx j h)).1,rfl⟩
    ·exact⟨w9 j h,rfl⟩
   obtain⟨c9,ec9⟩:∃c9,(doIt x c3 ((4:Int),(z8:Int),(0:Int))).1=c9:=⟨_,rfl⟩
   have ok9:CerOk x c9:=by rw[← ec9];exact ok3.doIt hd hdp
   rw[ec9] at hl9'
   have em:IntKind.i64.wrap ((m:Int)-1)=((m-1:Nat):Int):=by rw[wr (by omega) (by omega)];omega
   obtain⟨dsn,edsn⟩:∃dsn,ds++[((4:Int),(z8:Int),(0:Int))]=dsn:=⟨_,rfl⟩
   have ln:dsn.length=ds.length+1:=by rw[← edsn];simp
   have cn:((dcells ds).drop 0).take (ds.length*3)++[Value.int .i64 ((4:Int)),.int .i64 ((z8:Int)),.int .i64 ((0:Int))]=dcells dsn:=by
    rw[← edsn,dcells_snoc,List.drop_zero,List.take_of_length_le (by rw[dcells_len];exact Nat.le_refl _)]
   have dn:∀d∈dsn,DeedP d:=fun d hdm=>by
    rw[← edsn] at hdm
    exact(List.mem_append.1 hdm).elim (dp3 d) (fun h=>by rw[List.mem_singleton.1 h];exact hdp)
   have inv9:∀o9,DdI bs ac cc id Y (B+2) x did d3.hid H ⟨m-1,S9,H9,X9,d9,c9,dsn,o9⟩:=fun o9=>⟨hl9',hd9,ok9,by
     show SrcB bs ac cc id Y S9 H9 (B+2+dsn.length*20)
     rw[ln];exact SB9,E9,fun j hj=>(hw9 j hj).elim (wn3 j) (fun h=>by have:=h.1;omega),fun j hj=>(hx9 j hj).elim (xn3 j) (fun h=>by have:=h.1;omega),by show dsn.length+(m-1)≤36;omega,dn⟩
   refine KW.nxt U U (fun H' g=>⟨⟨m-1,S9,H9,X9,d9,c9,dsn,_⟩,inv9 _,by simp only;omega,⟨rfl,rfl,by show _=Value.slice _ dsn.length dsn.length;rw[ln];rfl,rfl,congrArg (Value.int .i64) em,trivial⟩,(g.take 1).eqT ?_⟩)
   exact congrArg (fun cs=>([(_,(⟨_,true,cs⟩:Blk))]:List Var)) cn
  ·refine KW.cF U U (by first | (simp;done) | decide) ?_
   refine KW.cF U U (by first | (simp;done) | decide) ?_
   refine KW.cT U U (by first | (simp;done) | decide) ?_
   have hc6:=hl6.cellsH
   unfold HD.cells at hc6
   rw[ew] at hc6
   refine KW.ldF 7 hc6 U U U U U U U U U ?_
   refine KW.callWL (W:=fun i=>i=id) (fun i hi=>by subst hi;exact SB6.sid) U U U U U ⟨.inr ⟨d3.hid,_,_,rfl,hc6.1,hidne⟩,trivial⟩ (pickB (n:=12) SB6 (by omega) (by omega)) (fun v H7 S7 n7 st7 w7 hv7=>?_)
   obtain⟨z7,hz7,rfl,src7⟩:=hv7
   have hz7:=hz7 (by omega)
   have SB7:=SB6.w1 st7 src7
   have E7:=E6.w st7 (fun i hi=>.inl hi)
   have et:IntKind.i64.wrap ((z7:Int).tdiv 11)=(z7:Int) / 11:=by rw[Int.tdiv_eq_ediv_of_nonneg (by omega),wr (by omega) (by omega)]
   have ez:IntKind.i64.wrap ((c3.wire.length:Int)+IntKind.i64.wrap ((z7:Int).tdiv 11))=(c3.wire.length:Int)+(z7:Int) / 11:=by rw[et,wr (by omega) (by omega)]
   refine KW.callW (W:=fun i=>i=id) (fun i hi=>by subst hi;exact SB7.sid) U U U U U (pickC (n:=IntKind.i64.wrap ((c3.wire.length:Int)+IntKind.i64.wrap ((z7:Int).tdiv 11))) SB7 (by omega) (by omega)) (fun v H8 S8 n8 st8 w8 hv8=>?_)
   obtain⟨z8,hz8,rfl,src8⟩:=hv8
   have SB8:=SB7.w1 st8 src8
   have E8:=E7.w st8 (fun i hi=>.inl hi)
   have hl8:Hl HTS [.pointer (some ⟨did,0,none⟩)] [] S8 H8 X3 d3 c3:=hl6.mv fun j hj=>by
    have h7:=st7 j (hj.elim (hl6.w j) (hl6.sx j))
    have h8:=st8 j h7.1
    exact⟨h8.1,(h8.2 (hWne j hj)).trans (h7.2 (hWne j hj))⟩
   have hdp:DeedP ((5:Int),(z8:Int),(0:Int)):=⟨by show 1≤(5:Int)∧(5:Int)≤9;decide,⟨by show 0≤(z8:Int);omega,by show(z8:Int)≤999;omega⟩,by show 0≤(0:Int)∧(0:Int)≤999;decide,.inl (by show 0<cntD 5;decide),.inr rfl⟩
   refine KW.litS1 U U U U U U U U U U U U ?_
   refine KW.appTS (m:=1) (ys:=[.int .i64 ((5:Int)),.int .i64 ((z8:Int)),.int .i64 ((0:Int))]) 0 U U U U U U U U (by decide) rfl (fun H1 g=>acells_seg (g.blk (j:=2) rfl).1 (by show 0+1*3≤3;decide)) (by show 0+ds.length*3≤(dcells ds).length;rw[dcells_len];omega) rfl (by decide) (by show(ds.length+1)*24≤_;omega) (by show ds.length+1≤_;omega) ?_
   refine KW.ids (fun hlow9 hvar9=>?_)
   have hnn9:=E8.nle hlow9
   have hDX:K_Deal.R D H8 x _:=K_Deal.same (fun j hj=>(E8.old j (hDl j hj).1 (hDl j hj).2).2) hD0
   have hDvX:Has3 D H8 did 0 [.int .i64 x.1.1,.slice a1 x.1.2.1.length c1,.int .i64 x.1.2.2.1,.int .i64 x.1.2.2.2.1,.slice a2 x.1.2.2.2.2.length c2,.int .i64 x.2.1,.slice a3 x.2.2.1.length c3',.slice a4 x.2.2.2.length c4]:=by
    obtain⟨q0,b,q1,q2⟩:=hDv0
    exact⟨q0,b,(E8.old did (hDl did q0).1 (hDl did q0).2).2.trans q1,q2⟩
   have hdo:=specDo hdp hd hB ok3 hl8 hDX hDvX (fun j hj=>⟨(E8.old j (hDl j hj).1 (hDl j hj).2).1,fun hw=>by have:=wn3 j hw;have:=(hDl j hj).1;omega⟩)
   refine KW.callW hl8.w U U U U U hdo (fun v H9 S9 n9 st9 w9 hv9=>?_)
   obtain⟨rfl,X9,d9,hl9,hd9,hx9,hw9⟩:=hv9
   have E9:=E8.w st9 (fun j hj=>.inr (wn3 j hj))
   have SB9:SrcB bs ac cc id Y S9 H9 (B+2+(ds.length+1)*20):=by
    have hidw:¬d3.W id:=fun hw=>by have:=wn3 id hw;omega
    obtain⟨q,h1,h2⟩:=SB8.src
    exact SB8.w st9 (fun j hj hw=>by have h1:=wn3 j hw;have h2:j<H.n:=(SB0.y j hj).1;omega) ⟨q,by omega,h2.mv ((st9 id SB8.sid).2 hidw)⟩
   have hl9':Hl HTS [.pointer (some ⟨did,0,none⟩)] [] S9 H9 X9 d9 (doIt x c3 ((5:Int),(z8:Int),(0:Int))).1:=hl9.mv fun j hj=>by
    have h:d3.W j∨X3 j∨New _ H9.n j:=hj.elim (hl9.w j) (hl9.sx j)
    rcases h with h | h | h
    ·exact⟨(st9 j (hl8.w j h)).1,rfl⟩
    ·exact⟨(st9 j (hl8.sx j h)).1,rfl⟩
    ·exact⟨w9 j h,rfl⟩
   obtain⟨c9,ec9⟩:∃c9,(doIt x c3 ((5:Int),(z8:Int),(0:Int))).1=c9:=⟨_,rfl⟩
   have ok9:CerOk x c9:=by rw[← ec9];exact ok3.doIt hd hdp
   rw[ec9] at hl9'
   have em:IntKind.i64.wrap ((m:Int)-1)=((m-1:Nat):Int):=by rw[wr (by omega) (by omega)];omega
   obtain⟨dsn,edsn⟩:∃dsn,ds++[((5:Int),(z8:Int),(0:Int))]=dsn:=⟨_,rfl⟩
   have ln:dsn.length=ds.length+1:=by rw[← edsn];simp
   have cn:((dcells ds).drop 0).take (ds.length*3)++[Value.int .i64 ((5:Int)),.int .i64 ((z8:Int)),.int .i64 ((0:Int))]=dcells dsn:=by
    rw[← edsn,dcells_snoc,List.drop_zero,List.take_of_length_le (by rw[dcells_len];exact Nat.le_refl _)]
   have dn:∀d∈dsn,DeedP d:=fun d hdm=>by
    rw[← edsn] at hdm
    exact(List.mem_append.1 hdm).elim (dp3 d) (fun h=>by rw[List.mem_singleton.1 h];exact hdp)
   have inv9:∀o9,DdI bs ac cc id Y (B+2) x did d3.hid H ⟨m-1,S9,H9,X9,d9,c9,dsn,o9⟩:=fun o9=>⟨hl9',hd9,ok9,by
     show SrcB bs ac cc id Y S9 H9 (B+2+dsn.length*20)
     rw[ln];exact SB9,E9,fun j hj=>(hw9 j hj).elim (wn3 j) (fun h=>by have:=h.1;omega),fun j hj=>(hx9 j hj).elim (xn3 j) (fun h=>by have:=h.1;omega),by show dsn.length+(m-1)≤36;omega,dn⟩
   refine KW.nxt U U (fun H' g=>⟨⟨m-1,S9,H9,X9,d9,c9,dsn,_⟩,inv9 _,by simp only;omega,⟨rfl,rfl,by show _=Value.slice _ dsn.length dsn.length;rw[ln];rfl,rfl,congrArg (Value.int .i64) em,trivial⟩,(g.take 1).eqT ?_⟩)
   exact congrArg (fun cs=>([(_,(⟨_,true,cs⟩:Blk))]:List Var)) cn
  ·refine KW.cF U U (by first | (simp;done) | decide) ?_
   refine KW.cF U U (by first | (simp;done) | decide) ?_
   refine KW.cF U U (by first | (simp;done) | decide) ?_
   refine KW.cT U U (by first | (simp;done) | decide) ?_
   refine KW.ldF 2 hDv6 U U U U U U U U U ?_
   refine KW.callWL (W:=fun i=>i=id) (fun i hi=>by subst hi;exact SB6.sid) U U U U U ⟨.inr ⟨did,_,_,rfl,(E6.old did (hDl did hDv0.1).1 (hDl did hDv0.1).2).1,(hDl did hDv0.1).2⟩,trivial⟩ (pickB (n:=8) SB6 (by omega) (by omega)) (fun v H7 S7 n7 st7 w7 hv7=>?_)
   obtain⟨z7,hz7,rfl,src7⟩:=hv7
   have hz7:=hz7 (by omega)
   have SB7:=SB6.w1 st7 src7
   have E7:=E6.w st7 (fun i hi=>.inl hi)
   have et:IntKind.i64.wrap ((z7:Int).tdiv 7)=(z7:Int) / 7:=by rw[Int.tdiv_eq_ediv_of_nonneg (by omega),wr (by omega) (by omega)]
   have ez:IntKind.i64.wrap (x.1.2.2.1+IntKind.i64.wrap ((z7:Int).tdiv 7))=x.1.2.2.1+(z7:Int) / 7:=by rw[et,wr (by omega) (by omega)]
   refine KW.callW (W:=fun i=>i=id) (fun i hi=>by subst hi;exact SB7.sid) U U U U U (pickB (n:=IntKind.i64.wrap (x.1.2.2.1+IntKind.i64.wrap ((z7:Int).tdiv 7))) SB7 (by omega) (by omega)) (fun v H8 S8 n8 st8 w8 hv8=>?_)
   obtain⟨z8,hz8,rfl,src8⟩:=hv8
   have hz8:=hz8 (by omega)
   have SB8:=SB7.w1 st8 src8
   have E8:=E7.w st8 (fun i hi=>.inl hi)
   refine KW.callW (W:=fun i=>i=id) (fun i hi=>by subst hi;exact SB8.sid) U U U U U (oneB (n:=2) SB8 (by omega) (by omega)) (fun v Ha Sa na sta wa hva=>?_)
   obtain⟨ba,rfl,srca⟩:=hva
   have SBa:=SB8.w1 sta srca
   have Ea:=E8.w sta (fun i hi=>.inl hi)
   have hla:Hl HTS [.pointer (some ⟨did,0,none⟩)] [] Sa Ha X3 d3 c3:=hl6.mv fun j hj=>by
    have h7:=st7 j (hj.elim (hl6.w j) (hl6.sx j))
    have h8:=st8 j h7.1
    have h9:=sta j h8.1
    exact⟨h9.1,(h9.2 (hWne j hj)).trans ((h8.2 (hWne j hj)).trans (h7.2 (hWne j hj)))⟩
   refine KW.cndB U U (fun kb=>?_) (fun kb=>?_)
   ·refine KW.build U U U U U (built_DeedKA _ _) ?_
    have hdp:DeedP ((7:Int),(z6:Int),(0:Int)):=⟨by show 1≤(7:Int)∧(7:Int)≤9;decide,⟨by show 0≤(z6:Int);omega,by show(z6:Int)≤999;omega⟩,by show 0≤(0:Int)∧(0:Int)≤999;decide,.inl (by show 0<cntD 7;decide),.inr rfl⟩
    refine KW.litS1 U U U U U U U U U U U U ?_
    refine KW.appTS (m:=1) (ys:=[.int .i64 ((7:Int)),.int .i64 ((z6:Int)),.int .i64 ((0:Int))]) 0 U U U U U U U U (by decide) rfl (fun H1 g=>acells_seg (g.blk (j:=2) rfl).1 (by show 0+1*3≤3;decide)) (by show 0+ds.length*3≤(dcells ds).length;rw[dcells_len];omega) rfl (by decide) (by show(ds.length+1)*24≤_;omega) (by show ds.length+1≤_;omega) ?_
    refine KW.ids (fun hlow9 hvar9=>?_)
    have hnn9:=Ea.nle hlow9
    have hDX:K_Deal.R D Ha x _:=K_Deal.same (fun j hj=>(Ea.old j (hDl j hj).1 (hDl j hj).2).2) hD0
    have hDvX:Has3 D Ha did 0 [.int .i64 x.1.1,.slice a1 x.1.2.1.length c1,.int .i64 x.1.2.2.1,.int .i64 x.1.2.2.2.1,.slice a2 x.1.2.2.2.2.length c2,.int .i64 x.2.1,.slice a3 x.2.2.1.length c3',.slice a4 x.2.2.2.length c4]:=by
     obtain⟨q0,b,q1,q2⟩:=hDv0
     exact⟨q0,b,(Ea.old did (hDl did q0).1 (hDl did q0).2).2.trans q1,q2⟩
    have hdo:=specDo hdp hd hB ok3 hla hDX hDvX (fun j hj=>⟨(Ea.old j (hDl j hj).1 (hDl j hj).2).1,fun hw=>by have:=wn3 j hw;have:=(hDl j hj).1;omega⟩)
    refine KW.callW hla.w U U U U U hdo (fun v H9 S9 n9 st9 w9 hv9=>?_)
    obtain⟨rfl,X9,d9,hl9,hd9,hx9,hw9⟩:=hv9
    have E9:=Ea.w st9 (fun j hj=>.inr (wn3 j hj))
    have SB9:SrcB bs ac cc id Y S9 H9 (B+2+(ds.length+1)*20):=by
     have hidw:¬d3.W id:=fun hw=>by have:=wn3 id hw;omega
     obtain⟨q,h1,h2⟩:=SBa.src
     exact SBa.w st9 (fun j hj hw=>by have h1:=wn3 j hw;have h2:j<H.n:=(SB0.y j hj).1;omega) ⟨q,by omega,h2.mv ((st9 id SBa.sid).2 hidw)⟩
    have hl9':Hl HTS [.pointer (some ⟨did,0,none⟩)] [] S9 H9 X9 d9 (doIt x c3 ((7:Int),(z6:Int),(0:Int))).1:=hl9.mv fun j hj=>by
     have h:d3.W j∨X3 j∨New _ H9.n j:=hj.elim (hl9.w j) (hl9.sx j)
     rcases h with h | h | h
     ·exact⟨(st9 j (hla.w j h)).1,rfl⟩
     ·exact⟨(st9 j (hla.sx j h)).1,rfl⟩
     ·exact⟨w9 j h,rfl⟩
    obtain⟨c9,ec9⟩:∃c9,(doIt x c3 ((7:Int),(z6:Int),(0:Int))).1=c9:=⟨_,rfl⟩
    have ok9:CerOk x c9:=by rw[← ec9];exact ok3.doIt hd hdp
    rw[ec9] at hl9'
    have em:IntKind.i64.wrap ((m:Int)-1)=((m-1:Nat):Int):=by rw[wr (by omega) (by omega)];omega
    obtain⟨dsn,edsn⟩:∃dsn,ds++[((7:Int),(z6:Int),(0:Int))]=dsn:=⟨_,rfl⟩
    have ln:dsn.length=ds.length+1:=by rw[← edsn];simp
    have cn:((dcells ds).drop 0).take (ds.length*3)++[Value.int .i64 ((7:Int)),.int .i64 ((z6:Int)),.int .i64 ((0:Int))]=dcells dsn:=by
     rw[← edsn,dcells_snoc,List.drop_zero,List.take_of_length_le (by rw[dcells_len];exact Nat.le_refl _)]
    have dn:∀d∈dsn,DeedP d:=fun d hdm=>by
     rw[← edsn] at hdm
     exact(List.mem_append.1 hdm).elim (dp3 d) (fun h=>by rw[List.mem_singleton.1 h];exact hdp)
    have inv9:∀o9,DdI bs ac cc id Y (B+2) x did d3.hid H ⟨m-1,S9,H9,X9,d9,c9,dsn,o9⟩:=fun o9=>⟨hl9',hd9,ok9,by
      show SrcB bs ac cc id Y S9 H9 (B+2+dsn.length*20)
      rw[ln];exact SB9,E9,fun j hj=>(hw9 j hj).elim (wn3 j) (fun h=>by have:=h.1;omega),fun j hj=>(hx9 j hj).elim (xn3 j) (fun h=>by have:=h.1;omega),by show dsn.length+(m-1)≤36;omega,dn⟩
    refine KW.nxt U U (fun H' g=>⟨⟨m-1,S9,H9,X9,d9,c9,dsn,_⟩,inv9 _,by simp only;omega,⟨rfl,rfl,by show _=Value.slice _ dsn.length dsn.length;rw[ln];rfl,rfl,congrArg (Value.int .i64) em,trivial⟩,(g.take 1).eqT ?_⟩)
    exact congrArg (fun cs=>([(_,(⟨_,true,cs⟩:Blk))]:List Var)) cn
   ·have hdp:DeedP ((6:Int),(z6:Int),(z8:Int)):=⟨by show 1≤(6:Int)∧(6:Int)≤9;decide,⟨by show 0≤(z6:Int);omega,by show(z6:Int)≤999;omega⟩,⟨by show 0≤(z8:Int);omega,by show(z8:Int)≤999;omega⟩,.inl (by show 0<cntD 6;decide),.inl (by show 1<cntD 6;decide)⟩
    refine KW.litS1 U U U U U U U U U U U U ?_
    refine KW.appTS (m:=1) (ys:=[.int .i64 ((6:Int)),.int .i64 ((z6:Int)),.int .i64 ((z8:Int))]) 0 U U U U U U U U (by decide) rfl (fun H1 g=>acells_seg (g.blk (j:=2) rfl).1 (by show 0+1*3≤3;decide)) (by show 0+ds.length*3≤(dcells ds).length;rw[dcells_len];omega) rfl (by decide) (by show(ds.length+1)*24≤_;omega) (by show ds.length+1≤_;omega) ?_
    refine KW.ids (fun hlow9 hvar9=>?_)
    have hnn9:=Ea.nle hlow9
    have hDX:K_Deal.R D Ha x _:=K_Deal.same (fun j hj=>(Ea.old j (hDl j hj).1 (hDl j hj).2).2) hD0
    have hDvX:Has3 D Ha did 0 [.int .i64 x.1.1,.slice a1 x.1.2.1.length c1,.int .i64 x.1.2.2.1,.int .i64 x.1.2.2.2.1,.slice a2 x.1.2.2.2.2.length c2,.int .i64 x.2.1,.slice a3 x.2.2.1.length c3',.slice a4 x.2.2.2.length c4]:=by
     obtain⟨q0,b,q1,q2⟩:=hDv0
     exact⟨q0,b,(Ea.old did (hDl did q0).1 (hDl did q0).2).2.trans q1,q2⟩
    have hdo:=specDo hdp hd hB ok3 hla hDX hDvX (fun j hj=>⟨(Ea.old j (hDl j hj).1 (hDl j hj).2).1,fun hw=>by have:=wn3 j hw;have:=(hDl j hj).1;omega⟩)
    refine KW.callW hla.w U U U U U hdo (fun v H9 S9 n9 st9 w9 hv9=>?_)
    obtain⟨rfl,X9,d9,hl9,hd9,hx9,hw9⟩:=hv9
    have E9:=Ea.w st9 (fun j hj=>.inr (wn3 j hj))
    have SB9:SrcB bs ac cc id Y S9 H9 (B+2+(ds.length+1)*20):=by
     have hidw:¬d3.W id:=fun hw=>by have:=wn3 id hw;omega
     obtain⟨q,h1,h2⟩:=SBa.src
     exact SBa.w st9 (fun j hj hw=>by have h1:=wn3 j hw;have h2:j<H.n:=(SB0.y j hj).1;omega) ⟨q,by omega,h2.mv ((st9 id SBa.sid).2 hidw)⟩
    have hl9':Hl HTS [.pointer (some ⟨did,0,none⟩)] [] S9 H9 X9 d9 (doIt x c3 ((6:Int),(z6:Int),(z8:Int))).1:=hl9.mv fun j hj=>by
     have h:d3.W j∨X3 j∨New _ H9.n j:=hj.elim (hl9.w j) (hl9.sx j)
     rcases h with h | h | h
     ·exact⟨(st9 j (hla.w j h)).1,rfl⟩
     ·exact⟨(st9 j (hla.sx j h)).1,rfl⟩
     ·exact⟨w9 j h,rfl⟩
    obtain⟨c9,ec9⟩:∃c9,(doIt x c3 ((6:Int),(z6:Int),(z8:Int))).1=c9:=⟨_,rfl⟩
    have ok9:CerOk x c9:=by rw[← ec9];exact ok3.doIt hd hdp
    rw[ec9] at hl9'
    have em:IntKind.i64.wrap ((m:Int)-1)=((m-1:Nat):Int):=by rw[wr (by omega) (by omega)];omega
    obtain⟨dsn,edsn⟩:∃dsn,ds++[((6:Int),(z6:Int),(z8:Int))]=dsn:=⟨_,rfl⟩
    have ln:dsn.length=ds.length+1:=by rw[← edsn];simp
    have cn:((dcells ds).drop 0).take (ds.length*3)++[Value.int .i64 ((6:Int)),.int .i64 ((z6:Int)),.int .i64 ((z8:Int))]=dcells dsn:=by
     rw[← edsn,dcells_snoc,List.drop_zero,List.take_of_length_le (by rw[dcells_len];exact Nat.le_refl _)]
    have dn:∀d∈dsn,DeedP d:=fun d hdm=>by
     rw[← edsn] at hdm
     exact(List.mem_append.1 hdm).elim (dp3 d) (fun h=>by rw[List.mem_singleton.1 h];exact hdp)
    have inv9:∀o9,DdI bs ac cc id Y (B+2) x did d3.hid H ⟨m-1,S9,H9,X9,d9,c9,dsn,o9⟩:=fun o9=>⟨hl9',hd9,ok9,by
      show SrcB bs ac cc id Y S9 H9 (B+2+dsn.length*20)
      rw[ln];exact SB9,E9,fun j hj=>(hw9 j hj).elim (wn3 j) (fun h=>by have:=h.1;omega),fun j hj=>(hx9 j hj).elim (xn3 j) (fun h=>by have:=h.1;omega),by show dsn.length+(m-1)≤36;omega,dn⟩
    refine KW.nxt U U (fun H' g=>⟨⟨m-1,S9,H9,X9,d9,c9,dsn,_⟩,inv9 _,by simp only;omega,⟨rfl,rfl,by show _=Value.slice _ dsn.length dsn.length;rw[ln];rfl,rfl,congrArg (Value.int .i64) em,trivial⟩,(g.take 1).eqT ?_⟩)
    exact congrArg (fun cs=>([(_,(⟨_,true,cs⟩:Blk))]:List Var)) cn
  ·refine KW.cF U U (by first | (simp;done) | decide) ?_
   refine KW.cF U U (by first | (simp;done) | decide) ?_
   refine KW.cF U U (by first | (simp;done) | decide) ?_
   refine KW.cF U U (by first | (simp;done) | decide) ?_
   refine KW.cF U U (by first | (simp;done) | decide) ?_
   have hdp:DeedP ((7:Int),(z6:Int),(0:Int)):=⟨by show 1≤(7:Int)∧(7:Int)≤9;decide,⟨by show 0≤(z6:Int);omega,by show(z6:Int)≤999;omega⟩,by show 0≤(0:Int)∧(0:Int)≤999;decide,.inl (by show 0<cntD 7;decide),.inr rfl⟩
   refine KW.litS1 U U U U U U U U U U U U ?_
   refine KW.appTS (m:=1) (ys:=[.int .i64 ((7:Int)),.int .i64 ((z6:Int)),.int .i64 ((0:Int))]) 0 U U U U U U U U (by decide) rfl (fun H1 g=>acells_seg (g.blk (j:=2) rfl).1 (by show 0+1*3≤3;decide)) (by show 0+ds.length*3≤(dcells ds).length;rw[dcells_len];omega) rfl (by decide) (by show(ds.length+1)*24≤_;omega) (by show ds.length+1≤_;omega) ?_
   refine KW.ids (fun hlow9 hvar9=>?_)
   have hnn9:=E6.nle hlow9
   have hDX:K_Deal.R D H6 x _:=K_Deal.same (fun j hj=>(E6.old j (hDl j hj).1 (hDl j hj).2).2) hD0
   have hDvX:Has3 D H6 did 0 [.int .i64 x.1.1,.slice a1 x.1.2.1.length c1,.int .i64 x.1.2.2.1,.int .i64 x.1.2.2.2.1,.slice a2 x.1.2.2.2.2.length c2,.int .i64 x.2.1,.slice a3 x.2.2.1.length c3',.slice a4 x.2.2.2.length c4]:=by
    obtain⟨q0,b,q1,q2⟩:=hDv0
    exact⟨q0,b,(E6.old did (hDl did q0).1 (hDl did q0).2).2.trans q1,q2⟩
   have hdo:=specDo hdp hd hB ok3 hl6 hDX hDvX (fun j hj=>⟨(E6.old j (hDl j hj).1 (hDl j hj).2).1,fun hw=>by have:=wn3 j hw;have:=(hDl j hj).1;omega⟩)
   refine KW.callW hl6.w U U U U U hdo (fun v H9 S9 n9 st9 w9 hv9=>?_)
   obtain⟨rfl,X9,d9,hl9,hd9,hx9,hw9⟩:=hv9
   have E9:=E6.w st9 (fun j hj=>.inr (wn3 j hj))
   have SB9:SrcB bs ac cc id Y S9 H9 (B+2+(ds.length+1)*20):=by
    have hidw:¬d3.W id:=fun hw=>by have:=wn3 id hw;omega
    obtain⟨q,h1,h2⟩:=SB6.src
    exact SB6.w st9 (fun j hj hw=>by have h1:=wn3 j hw;have h2:j<H.n:=(SB0.y j hj).1;omega) ⟨q,by omega,h2.mv ((st9 id SB6.sid).2 hidw)⟩
   have hl9':Hl HTS [.pointer (some ⟨did,0,none⟩)] [] S9 H9 X9 d9 (doIt x c3 ((7:Int),(z6:Int),(0:Int))).1:=hl9.mv fun j hj=>by
    have h:d3.W j∨X3 j∨New _ H9.n j:=hj.elim (hl9.w j) (hl9.sx j)
    rcases h with h | h | h
    ·exact⟨(st9 j (hl6.w j h)).1,rfl⟩
    ·exact⟨(st9 j (hl6.sx j h)).1,rfl⟩
    ·exact⟨w9 j h,rfl⟩
   obtain⟨c9,ec9⟩:∃c9,(doIt x c3 ((7:Int),(z6:Int),(0:Int))).1=c9:=⟨_,rfl⟩
   have ok9:CerOk x c9:=by rw[← ec9];exact ok3.doIt hd hdp
   rw[ec9] at hl9'
   have em:IntKind.i64.wrap ((m:Int)-1)=((m-1:Nat):Int):=by rw[wr (by omega) (by omega)];omega
   obtain⟨dsn,edsn⟩:∃dsn,ds++[((7:Int),(z6:Int),(0:Int))]=dsn:=⟨_,rfl⟩
   have ln:dsn.length=ds.length+1:=by rw[← edsn];simp
   have cn:((dcells ds).drop 0).take (ds.length*3)++[Value.int .i64 ((7:Int)),.int .i64 ((z6:Int)),.int .i64 ((0:Int))]=dcells dsn:=by
    rw[← edsn,dcells_snoc,List.drop_zero,List.take_of_length_le (by rw[dcells_len];exact Nat.le_refl _)]
   have dn:∀d∈dsn,DeedP d:=fun d hdm=>by
    rw[← edsn] at hdm
    exact(List.mem_append.1 hdm).elim (dp3 d) (fun h=>by rw[List.mem_singleton.1 h];exact hdp)
   have inv9:∀o9,DdI bs ac cc id Y (B+2) x did d3.hid H ⟨m-1,S9,H9,X9,d9,c9,dsn,o9⟩:=fun o9=>⟨hl9',hd9,ok9,by
     show SrcB bs ac cc id Y S9 H9 (B+2+dsn.length*20)
     rw[ln];exact SB9,E9,fun j hj=>(hw9 j hj).elim (wn3 j) (fun h=>by have:=h.1;omega),fun j hj=>(hx9 j hj).elim (xn3 j) (fun h=>by have:=h.1;omega),by show dsn.length+(m-1)≤36;omega,dn⟩
   refine KW.nxt U U (fun H' g=>⟨⟨m-1,S9,H9,X9,d9,c9,dsn,_⟩,inv9 _,by simp only;omega,⟨rfl,rfl,by show _=Value.slice _ dsn.length dsn.length;rw[ln];rfl,rfl,congrArg (Value.int .i64) em,trivial⟩,(g.take 1).eqT ?_⟩)
   exact congrArg (fun cs=>([(_,(⟨_,true,cs⟩:Blk))]:List Var)) cn
  ·refine KW.cF U U (by first | (simp;done) | decide) ?_
   refine KW.cF U U (by first | (simp;done) | decide) ?_
   refine KW.cF U U (by first | (simp;done) | decide) ?_
   refine KW.cF U U (by first | (simp;done) | decide) ?_
   refine KW.cF U U (by first | (simp;done) | decide) ?_
   have hdp:DeedP ((8:Int),(z6:Int),(0:Int)):=⟨by show 1≤(8:Int)∧(8:Int)≤9;decide,⟨by show 0≤(z6:Int);omega,by show(z6:Int)≤999;omega⟩,by show 0≤(0:Int)∧(0:Int)≤999;decide,.inl (by show 0<cntD 8;decide),.inr rfl⟩
   refine KW.litS1 U U U U U U U U U U U U ?_
   refine KW.appTS (m:=1) (ys:=[.int .i64 ((8:Int)),.int .i64 ((z6:Int)),.int .i64 ((0:Int))]) 0 U U U U U U U U (by decide) rfl (fun H1 g=>acells_seg (g.blk (j:=2) rfl).1 (by show 0+1*3≤3;decide)) (by show 0+ds.length*3≤(dcells ds).length;rw[dcells_len];omega) rfl (by decide) (by show(ds.length+1)*24≤_;omega) (by show ds.length+1≤_;omega) ?_
   refine KW.ids (fun hlow9 hvar9=>?_)
   have hnn9:=E6.nle hlow9
   have hDX:K_Deal.R D H6 x _:=K_Deal.same (fun j hj=>(E6.old j (hDl j hj).1 (hDl j hj).2).2) hD0
   have hDvX:Has3 D H6 did 0 [.int .i64 x.1.1,.slice a1 x.1.2.1.length c1,.int .i64 x.1.2.2.1,.int .i64 x.1.2.2.2.1,.slice a2 x.1.2.2.2.2.length c2,.int .i64 x.2.1,.slice a3 x.2.2.1.length c3',.slice a4 x.2.2.2.length c4]:=by
    obtain⟨q0,b,q1,q2⟩:=hDv0
    exact⟨q0,b,(E6.old did (hDl did q0).1 (hDl did q0).2).2.trans q1,q2⟩
   have hdo:=specDo hdp hd hB ok3 hl6 hDX hDvX (fun j hj=>⟨(E6.old j (hDl j hj).1 (hDl j hj).2).1,fun hw=>by have:=wn3 j hw;have:=(hDl j hj).1;omega⟩)
   refine KW.callW hl6.w U U U U U hdo (fun v H9 S9 n9 st9 w9 hv9=>?_)
   obtain⟨rfl,X9,d9,hl9,hd9,hx9,hw9⟩:=hv9
   have E9:=E6.w st9 (fun j hj=>.inr (wn3 j hj))
   have SB9:SrcB bs ac cc id Y S9 H9 (B+2+(ds.length+1)*20):=by
    have hidw:¬d3.W id:=fun hw=>by have:=wn3 id hw;omega
    obtain⟨q,h1,h2⟩:=SB6.src
    exact SB6.w st9 (fun j hj hw=>by have h1:=wn3 j hw;have h2:j<H.n:=(SB0.y j hj).1;omega) ⟨q,by omega,h2.mv ((st9 id SB6.sid).2 hidw)⟩
   have hl9':Hl HTS [.pointer (some ⟨did,0,none⟩)] [] S9 H9 X9 d9 (doIt x c3 ((8:Int),(z6:Int),(0:Int))).1:=hl9.mv fun j hj=>by
    have h:d3.W j∨X3 j∨New _ H9.n j:=hj.elim (hl9.w j) (hl9.sx j)
    rcases h with h | h | h
    ·exact⟨(st9 j (hl6.w j h)).1,rfl⟩
    ·exact⟨(st9 j (hl6.sx j h)).1,rfl⟩
    ·exact⟨w9 j h,rfl⟩
   obtain⟨c9,ec9⟩:∃c9,(doIt x c3 ((8:Int),(z6:Int),(0:Int))).1=c9:=⟨_,rfl⟩
   have ok9:CerOk x c9:=by rw[← ec9];exact ok3.doIt hd hdp
   rw[ec9] at hl9'
   have em:IntKind.i64.wrap ((m:Int)-1)=((m-1:Nat):Int):=by rw[wr (by omega) (by omega)];omega
   obtain⟨dsn,edsn⟩:∃dsn,ds++[((8:Int),(z6:Int),(0:Int))]=dsn:=⟨_,rfl⟩
   have ln:dsn.length=ds.length+1:=by rw[← edsn];simp
   have cn:((dcells ds).drop 0).take (ds.length*3)++[Value.int .i64 ((8:Int)),.int .i64 ((z6:Int)),.int .i64 ((0:Int))]=dcells dsn:=by
    rw[← edsn,dcells_snoc,List.drop_zero,List.take_of_length_le (by rw[dcells_len];exact Nat.le_refl _)]
   have dn:∀d∈dsn,DeedP d:=fun d hdm=>by
    rw[← edsn] at hdm
    exact(List.mem_append.1 hdm).elim (dp3 d) (fun h=>by rw[List.mem_singleton.1 h];exact hdp)
   have inv9:∀o9,DdI bs ac cc id Y (B+2) x did d3.hid H ⟨m-1,S9,H9,X9,d9,c9,dsn,o9⟩:=fun o9=>⟨hl9',hd9,ok9,by
     show SrcB bs ac cc id Y S9 H9 (B+2+dsn.length*20)
     rw[ln];exact SB9,E9,fun j hj=>(hw9 j hj).elim (wn3 j) (fun h=>by have:=h.1;omega),fun j hj=>(hx9 j hj).elim (xn3 j) (fun h=>by have:=h.1;omega),by show dsn.length+(m-1)≤36;omega,dn⟩
   refine KW.nxt U U (fun H' g=>⟨⟨m-1,S9,H9,X9,d9,c9,dsn,_⟩,inv9 _,by simp only;omega,⟨rfl,rfl,by show _=Value.slice _ dsn.length dsn.length;rw[ln];rfl,rfl,congrArg (Value.int .i64) em,trivial⟩,(g.take 1).eqT ?_⟩)
   exact congrArg (fun cs=>([(_,(⟨_,true,cs⟩:Blk))]:List Var)) cn
  ·refine KW.cF U U (by first | (simp;done) | decide) ?_
   refine KW.cF U U (by first | (simp;done) | decide) ?_
   refine KW.cF U U (by first | (simp;done) | decide) ?_
   refine KW.cF U U (by first | (simp;done) | decide) ?_
   refine KW.cT U U (by first | (simp;done) | decide) ?_
   have hdp:DeedP ((9:Int),(0:Int),(0:Int)):=by refine⟨by decide,by decide,by decide,.inr rfl,.inr rfl⟩
   refine KW.litS1 U U U U U U U U U U U U ?_
   refine KW.appTS (m:=1) (ys:=[.int .i64 ((9:Int)),.int .i64 ((0:Int)),.int .i64 ((0:Int))]) 0 U U U U U U U U (by decide) rfl (fun H1 g=>acells_seg (g.blk (j:=2) rfl).1 (by show 0+1*3≤3;decide)) (by show 0+ds.length*3≤(dcells ds).length;rw[dcells_len];omega) rfl (by decide) (by show(ds.length+1)*24≤_;omega) (by show ds.length+1≤_;omega) ?_
   refine KW.ids (fun hlow9 hvar9=>?_)
   have hnn9:=E6.nle hlow9
   have hDX:K_Deal.R D H6 x _:=K_Deal.same (fun j hj=>(E6.old j (hDl j hj).1 (hDl j hj).2).2) hD0
   have hDvX:Has3 D H6 did 0 [.int .i64 x.1.1,.slice a1 x.1.2.1.length c1,.int .i64 x.1.2.2.1,.int .i64 x.1.2.2.2.1,.slice a2 x.1.2.2.2.2.length c2,.int .i64 x.2.1,.slice a3 x.2.2.1.length c3',.slice a4 x.2.2.2.length c4]:=by
    obtain⟨q0,b,q1,q2⟩:=hDv0
    exact⟨q0,b,(E6.old did (hDl did q0).1 (hDl did q0).2).2.trans q1,q2⟩
   have hdo:=specDo hdp hd hB ok3 hl6 hDX hDvX (fun j hj=>⟨(E6.old j (hDl j hj).1 (hDl j hj).2).1,fun hw=>by have:=wn3 j hw;have:=(hDl j hj).1;omega⟩)
   refine KW.callW hl6.w U U U U U hdo (fun v H9 S9 n9 st9 w9 hv9=>?_)
   obtain⟨rfl,X9,d9,hl9,hd9,hx9,hw9⟩:=hv9
   have E9:=E6.w st9 (fun j hj=>.inr (wn3 j hj))
   have SB9:SrcB bs ac cc id Y S9 H9 (B+2+(ds.length+1)*20):=by
    have hidw:¬d3.W id:=fun hw=>by have:=wn3 id hw;omega
    obtain⟨q,h1,h2⟩:=SB6.src
    exact SB6.w st9 (fun j hj hw=>by have h1:=wn3 j hw;have h2:j<H.n:=(SB0.y j hj).1;omega) ⟨q,by omega,h2.mv ((st9 id SB6.sid).2 hidw)⟩
   have hl9':Hl HTS [.pointer (some ⟨did,0,none⟩)] [] S9 H9 X9 d9 (doIt x c3 ((9:Int),(0:Int),(0:Int))).1:=hl9.mv fun j hj=>by
    have h:d3.W j∨X3 j∨New _ H9.n j:=hj.elim (hl9.w j) (hl9.sx j)
    rcases h with h | h | h
    ·exact⟨(st9 j (hl6.w j h)).1,rfl⟩
    ·exact⟨(st9 j (hl6.sx j h)).1,rfl⟩
    ·exact⟨w9 j h,rfl⟩
   obtain⟨c9,ec9⟩:∃c9,(doIt x c3 ((9:Int),(0:Int),(0:Int))).1=c9:=⟨_,rfl⟩
   have ok9:CerOk x c9:=by rw[← ec9];exact ok3.doIt hd hdp
   rw[ec9] at hl9'
   have em:IntKind.i64.wrap ((m:Int)-1)=((m-1:Nat):Int):=by rw[wr (by omega) (by omega)];omega
   obtain⟨dsn,edsn⟩:∃dsn,ds++[((9:Int),(0:Int),(0:Int))]=dsn:=⟨_,rfl⟩
   have ln:dsn.length=ds.length+1:=by rw[← edsn];simp
   have cn:((dcells ds).drop 0).take (ds.length*3)++[Value.int .i64 ((9:Int)),.int .i64 ((0:Int)),.int .i64 ((0:Int))]=dcells dsn:=by
    rw[← edsn,dcells_snoc,List.drop_zero,List.take_of_length_le (by rw[dcells_len];exact Nat.le_refl _)]
   have dn:∀d∈dsn,DeedP d:=fun d hdm=>by
    rw[← edsn] at hdm
    exact(List.mem_append.1 hdm).elim (dp3 d) (fun h=>by rw[List.mem_singleton.1 h];exact hdp)
   have inv9:∀o9,DdI bs ac cc id Y (B+2) x did d3.hid H ⟨m-1,S9,H9,X9,d9,c9,dsn,o9⟩:=fun o9=>⟨hl9',hd9,ok9,by
     show SrcB bs ac cc id Y S9 H9 (B+2+dsn.length*20)
     rw[ln];exact SB9,E9,fun j hj=>(hw9 j hj).elim (wn3 j) (fun h=>by have:=h.1;omega),fun j hj=>(hx9 j hj).elim (xn3 j) (fun h=>by have:=h.1;omega),by show dsn.length+(m-1)≤36;omega,dn⟩
   refine KW.nxt U U (fun H' g=>⟨⟨m-1,S9,H9,X9,d9,c9,dsn,_⟩,inv9 _,by simp only;omega,⟨rfl,rfl,by show _=Value.slice _ dsn.length dsn.length;rw[ln];rfl,rfl,congrArg (Value.int .i64) em,trivial⟩,(g.take 1).eqT ?_⟩)
   exact congrArg (fun cs=>([(_,(⟨_,true,cs⟩:Blk))]:List Var)) cn
 ·have k1:¬(m:Int)>0:=k1
  refine KW.ids (fun hlow9 hvar9=>?_)
  have hnn9:=E3.nle hlow9
  refine KW.retW U U U U (fun H9 g=>by have:=g.n_;omega) (fun i h1 h2=>E3.old i h1 h2) (fun H9 g=>?_)
  have hb:=g.blk (j:=0) rfl
  have hgv:=(g.vars 0 _ rfl).2.2
  obtain⟨q,h1,h2⟩:=SB3.src
  refine⟨⟨ds,o3,rfl,by omega,dp3,⟨E3.ge hgv,hb.2⟩,hb.1⟩,q,by omega,h2.mv (g.froz id SB3.sid).2⟩
end
end Go.Proofs.YtlapbbffoapleaaGreat.Am
namespace Go.Proofs.YtlapbbffoapleaaGreat.Am
open Go Go.RowKit Go.Proofs
section
variable {S:Ids} {H0:AH} {bs:List Int} {ac:Option Addr} {cc:Nat}
theorem a2Deeds {x:T_Deal} {dcs:List Value} (hd:DealOk x) (hB:B_Deal x) (hD:K_Deal.R S H0 x dcs) (hb:∀x∈bs,0≤x∧x<256) (hl:bs.length≤1048576) (hs:KB.Sl S H0 (.slice ac bs.length cc) bs):
  SpecM Tryz.prog S H0 9 [.slice ac bs.length cc,.agg dcs.toArray] (fun m v H1=>∃(ds:List T_Deed) (o:Nat),v=.slice (some ⟨o,0,some 3⟩) ds.length ds.length∧ds.length≤36∧(∀d∈ds,DeedP d)∧New m H1.n o∧H1.m o=some ⟨54,true,dcells ds⟩):=by
 obtain⟨a1,c1,a2,c2,a3,c3,a4,c4,rfl⟩:=form_Deal hD
 refine SpecM.of1 Tryz.func9 rfl (by kernel_rfl) rfl (fun H _=>?_)
 have hD0:K_Deal.R (Low H.n) H x _:=On.R hD
 refine KW.callN1 U U U U U (srcFrom) (fun v HS SS mS _ _ hv=>?_)
 obtain⟨o,sp,rfl,hnew,hsrc⟩:=hv
 have wS:On (New _ HS.n) HS SS HS:=‹_›
 have tS:On (Low H.n) H SS HS:=inferInstance
 have hso:=(wS.st o hnew).1
 have hbs:=(hs.up (S':=Low H.n) (H':=H)).stX (S':=fun i=>SS i∧i≠o) (H':=HS) (fun i hi=>⟨⟨(tS.st i hi).1,fun e=>by have h1:i<H.n:=hi;have:=hnew.1;omega⟩,(tS.st i hi).2⟩)
 refine KW.freeze 0 rfl (fun A1 S1 hn1 hS1 st1 hm1 ho1 hno1 hlow1=>?_)
 have h1:∀i,SS i→S1 i∧A1.m i=HS.m i:=fun i hi=>st1.st i hi
 have SB:SrcB bs ac cc o (fun i=>SS i∧i≠o) S1 A1 0:=⟨hb,hl,(h1 o hso).1,fun i hi=>⟨(h1 i hi.1).1,hi.2⟩,⟨0,Nat.le_refl _,hsrc.mv (h1 o hso).2⟩,hbs.stX (fun i hi=>⟨hi,(h1 i hi.1).2⟩)⟩
 have old1:∀i,i<H.n→S1 i∧A1.m i=H.m i:=fun i hi=>by
  have h2:=tS.st i hi
  have h3:=h1 i h2.1
  exact⟨h3.1,h3.2.trans h2.2⟩
 have hneo:H.n≠o:=by have:=hnew.1;omega
 have hDX:K_Deal.R (fun i=>i<H.n∨i=H.n) A1 x _:=K_Deal.more (fun i hi=>.inl hi) (K_Deal.same (fun i hi=>(old1 i hi).2) hD0)
 have hDvX:Has3 (fun i=>i<H.n∨i=H.n) A1 H.n 0 [.int .i64 x.1.1,.slice a1 x.1.2.1.length c1,.int .i64 x.1.2.2.1,.int .i64 x.1.2.2.2.1,.slice a2 x.1.2.2.2.2.length c2,.int .i64 x.2.1,.slice a3 x.2.2.1.length c3,.slice a4 x.2.2.2.length c4]:=⟨.inr rfl,_,hm1,fun i v hv=>by rw[Nat.zero_add];exact hv⟩
 refine KW.callW (W:=fun i=>i=o) (fun i hi=>by subst hi;exact SB.sid) U U U U U (l08Deeds hd hB hDX hDvX (fun i hi=>by
  rcases hi with hi | hi
  ·exact⟨(old1 i hi).1,by have:=hnew.1;omega⟩
  ·rw[hi];exact⟨(hS1 _).2 (.inr rfl),hneo⟩) SB (by omega)) (fun v H4 S4 hn4 st4 hw4 hp=>?_)
 obtain⟨⟨ds,o4,rfl,l36,hdp,hnw,hmo⟩,_⟩:=hp
 haveI:On (Low H.n) H S4 H4:=⟨fun i hi=>by
  have h1:i<H.n:=hi
  have hne:¬i=o:=by have:=hnew.1;omega
  exact⟨(st4 i (old1 i hi).1).1,((st4 i (old1 i hi).1).2 hne).trans (old1 i hi).2⟩⟩
 refine KW.retM1 U U U U (fun H1 g=>?_)
 exact⟨ds,o4,rfl,l36,hdp,⟨by have:=hnw.1;omega,by have:=(g.froz o4 (hw4 o4 hnw)).1;have:=g.n_;omega⟩,(g.froz o4 (hw4 o4 hnw)).2.trans hmo⟩
end
structure RT where
 i:Nat
 S:Ids
 A:AH
 X:Ids
 d:HD
 c:Cer
 o:Nat
 cs:List Int
structure RunJ (t:HT) (pre post:List Value) (x:T_Deal) (ds:List T_Deed) (H:AH) (hid:Nat) (s:RT):Prop where
 hl:Hl t pre post s.S s.A s.X s.d s.c
 hd:s.d.hid=hid
 ok:CerOk x s.c
 old:St (Low H.n) H s.S s.A
 new:∀id,s.d.W id→H.n≤id
 newX:∀id,s.X id→H.n≤id
 le:s.i≤ds.length
 pl:play x s.c (ds.drop s.i)=play x (cer0 x.1.1.toNat) ds
 cl:s.cs.length=s.i
 co:s.cs++codes x s.c (ds.drop s.i)=codes x (cer0 x.1.1.toNat) ds
theorem RunJ.next {t:HT} {pre post:List Value} {x:T_Deal} {ds:List T_Deed} {H A':AH} {S':Ids} {hid n1:Nat} {s:RT} {dd:T_Deed} (h:RunJ t pre post x ds H hid s) (hd:DealOk x) (hdd:DeedP dd) (hy:ds[s.i]?=some dd) (t5:StW s.d.W s.S s.A S' A') (w5:∀id,New n1 A'.n id→S' id) (hn:H.n≤n1) (hp:HlPost t pre post s.X s.d (doIt x s.c dd).1 n1 A') (o:Nat):
  ∃X' d',RunJ t pre post x ds H hid ⟨s.i+1,S',A',X',d',(doIt x s.c dd).1,o,s.cs++[(doIt x s.c dd).2]⟩:=by
 obtain⟨X',d',h1,h2,h3,h4⟩:=hp
 have inS:∀id,(s.d.W id∨s.X id∨New n1 A'.n id)→S' id:=fun id p=>by
  rcases p with p | p | p
  ·exact(t5 id (h.hl.w id p)).1
  ·exact(t5 id (h.hl.sx id p)).1
  ·exact w5 id p
 have edr:ds.drop s.i=dd :: ds.drop (s.i+1):=by
  rw[List.drop_eq_getElem_cons (List.getElem?_eq_some_iff.1 hy).1]
  rw[(List.getElem?_eq_some_iff.1 hy).2]
 have hpl:=h.pl
 have hco:=h.co
 rw[edr] at hpl hco
 refine⟨X',d',h1.mv fun id p=>⟨inS id (p.elim (h1.w id) (h1.sx id)),rfl⟩,h2.trans h.hd,h.ok.doIt hd hdd,fun id p=>?_,fun id p=>?_,fun id p=>?_,(List.getElem?_eq_some_iff.1 hy).1,hpl,by simp[h.cl],?_⟩
 ·have q:=h.old id p
  have r:=t5 id q.1
  refine⟨r.1,(r.2 fun w=>?_).trans q.2⟩
  have:=h.new id w
  have:id<H.n:=p
  omega
 ·rcases h4 id p with p | p
  ·exact h.new id p
  ·have:=p.1;omega
 ·rcases h3 id p with p | p
  ·exact h.newX id p
  ·have:=p.1;omega
 ·rw[← hco]
  conv=>{rhs;unfold codes}
  simp
theorem RunJ.done {t:HT} {pre post:List Value} {x:T_Deal} {ds:List T_Deed} {H H1:AH} {hid n:Nat} {s:RT} {T:List Var} (h:RunJ t pre post x ds H hid s) (he:s.i=ds.length) (g:Good s.S s.A T n H1):
  Hl t pre post (New H.n H1.n) H1 s.X s.d (play x (cer0 x.1.1.toNat) ds)∧s.cs=codes x (cer0 x.1.1.toNat) ds:=by
 have hpl:=h.pl
 have hco:=h.co
 rw[he,List.drop_length] at hpl hco
 have hpl:s.c=play x (cer0 x.1.1.toNat) ds:=hpl
 have hco:s.cs=codes x (cer0 x.1.1.toNat) ds:=by rw[← hco];simp[codes]
 refine⟨?_,hco⟩
 rw[← hpl]
 refine h.hl.mv fun id p=>?_
 have hn:=g.n_
 have hS:s.S id:=p.elim (h.hl.w id) (h.hl.sx id)
 have hf:=g.froz id hS
 exact⟨⟨p.elim (h.new id) (h.newX id),by omega⟩,hf.2⟩
theorem given0 {x:T_Deal} {ds:List T_Deed} (h:givenC x ds=0):DealOk x∧(∀d∈ds,DeedP d)∧ds.length≤400:=by
 unfold givenC at h
 split at h
 ·rename_i h1
  have h1:=tv_iff.1 h1
  split at h
  ·cases h
  ·exact⟨h1.1,h1.2,by omega⟩
 ·cases h
def doneC:List Int→Nat
 | []=>0
 | k :: ks=>(if k=0 then 1 else 0)+doneC ks
theorem doneC_snoc (k:Int):∀l:List Int,doneC (l++[k])=doneC l+(if k=0 then 1 else 0)
 | []=>by simp[doneC]
 | a :: l=>by simp only[List.cons_append,doneC,doneC_snoc k l];omega
theorem doneC_le:∀l:List Int,doneC l≤l.length
 | []=>Nat.le_refl _
 | a :: l=>by simp only[doneC,List.length_cons];have:=doneC_le l;split<;>omega
theorem T1c {i:Nat} {ty:TypeId} {cs cs':List Value} (h:cs=cs'):([(i,⟨ty,true,cs⟩)]:List Var)=[(i,⟨ty,true,cs'⟩)]:=by rw[h]
section
variable {S:Ids} {H0:AH} {D:Ids} {x:T_Deal} {ds:List T_Deed} {dcs:List Value}
theorem implAfter {a c} (hd:DealOk x) (hdp:∀d∈ds,DeedP d) (h400:ds.length≤400) (hB:B_Deal x) (hD:K_Deal.R S H0 x dcs) (hs:K_Deed.Sl S H0 (.slice a ds.length c) ds):
  SpecM Tryz.prog S H0 60 [.agg dcs.toArray,.slice a ds.length c] (fun n v H1=>∃(d:HD) (X:Ids),v=.tuple #[.pointer (some ⟨d.hid,0,none⟩),.int .i64 (doneC (codes x (cer0 x.1.1.toNat) ds):Nat)]∧Hl HTI [] dcs (New n H1.n) H1 X d (play x (cer0 x.1.1.toNat) ds)):=by
 obtain⟨d1,d2,d3,d4,d5,d6,d7,d8,rfl⟩:=form_Deal hD
 refine SpecM.of1 Tryz.func60 rfl (by kernel_rfl) rfl (fun H _=>?_)
 have hD0:K_Deal.R (Low H.n) H x _:=On.R hD
 have hs0:=hs.up (S':=Low H.n) (H':=H)
 refine KW.callN1 U U U U U (newHall hd hD0) (fun v H1 S1 m1 _ _ hv=>?_)
 obtain⟨d,sp,rfl,hh⟩:=hv
 have st1:=(inferInstance:On (Low H.n) H S1 H1).st
 have hh1:=hh.on (S':=S1) (A':=H1)
 obtain⟨hid,ehid⟩:∃hid,d.hid=hid:=⟨_,rfl⟩
 rw[ehid]
 have R0:RunJ HTI [] _ x ds H hid ⟨0,S1,H1,fun _=>False,d,cer0 x.1.1.toNat,0,[]⟩:=⟨hh1,ehid,CerOk.start hd,st1,fun id p=>by have:=(hh.w id p).1;omega,fun id p=>p.elim,Nat.zero_le _,rfl,rfl,rfl⟩
 refine KW.lpM U U (fun s:RT=>[(6,.pointer (some ⟨hid,0,none⟩)),(7,.int .i64 (doneC s.cs:Nat)),(12,.slice a ds.length c),(13,.int .i64 ds.length),(14,.int .i64 s.i)]) (fun s=>s.S) (fun s=>s.A) (fun s=>[(H.n,⟨32,true,[.int .i64 x.1.1,.slice d1 x.1.2.1.length d2,.int .i64 x.1.2.2.1,.int .i64 x.1.2.2.2.1,.slice d3 x.1.2.2.2.2.length d4,.int .i64 x.2.1,.slice d5 x.2.2.1.length d6,.slice d7 x.2.2.2.length d8]⟩)]) (fun s=>RunJ HTI [] [.int .i64 x.1.1,.slice d1 x.1.2.1.length d2,.int .i64 x.1.2.2.1,.int .i64 x.1.2.2.2.1,.slice d3 x.1.2.2.2.2.length d4,.int .i64 x.2.1,.slice d5 x.2.2.1.length d6,.slice d7 x.2.2.2.length d8] x ds H hid s) (fun s=>ds.length-s.i) (⟨0,S1,H1,fun _=>False,d,cer0 x.1.1.toNat,0,[]⟩) (R0) ⟨rfl,rfl,rfl,rfl,rfl,trivial⟩ U U (rfl) (fun s hi bE n=>?_)
 have R:=hi
 obtain⟨i,S2,H2,X2,e2,c2,o2,cs2⟩:=s
 have old:St (Low H.n) H S2 H2:=R.old
 have ehd:e2.hid=hid:=R.hd
 have el:cs2.length=i:=R.cl
 have hdl:=doneC_le cs2
 have hile:i≤ds.length:=R.le
 refine KW.cnd U U (fun k2=>?_) (fun k2=>?_)
 ·have k2:(i:Int)<(ds.length:Int):=k2
  have hs2:K_Deed.Sl S2 H2 (.slice a ds.length c) ds:=sl_mk hs0 (fun id p=>old id p)
  refine KW.getS (td:=.struct #[]) hs2 U U U U U U U U U U U U U U U U U (by omega) (k2) (fun y cy hy hsy=>?_)
  have hy:ds[i]?=some y:=hy
  obtain rfl:=form_Deed hsy
  have hmem:=List.mem_of_getElem? hy
  have hD2:K_Deal.R (Low H.n) H2 x _:=K_Deal.same (fun id p=>(old id p).2) hD0
  refine KW.cnt (fun n2 hn2=>?_)
  refine KW.fact (p:=H.n<n2) (fun H1 g=>(g.vars 0 _ rfl).2.1) (fun hlt=>?_)
  have hdo:=implDo (hdp y hmem) hd hB R.ok R.hl hD2 (fun id p=>⟨(old id p).1,fun w=>by have:=R.new id w;have:id<H.n:=p;omega⟩)
  simp only[ehd] at hdo
  refine KW.callW R.hl.w U U U U U hdo (fun v H5 S5 m5 t5 w5 hv=>?_)
  obtain⟨rfl,hp⟩:=hv
  obtain⟨X3,e3,R3⟩:=R.next hd (hdp y hmem) hy t5 w5 (by omega) hp 0
  have hsn:=doneC_snoc (doIt x c2 y).2 cs2
  refine KW.cnd U U (fun k3=>?ga) (fun k3=>?gb)
  case ga=>
   have k3:(doIt x c2 y).2=0:=k3
   rw[if_pos k3] at hsn
   have ew:IntKind.i64.wrap ((doneC cs2:Nat)+1)=((doneC (cs2++[(doIt x c2 y).2]):Nat):Int):=by rw[hsn,wr (by omega) (by omega)];omega
   refine KW.nxt U U (fun H' g=>⟨⟨i+1,S5,H5,X3,e3,(doIt x c2 y).1,0,cs2++[(doIt x c2 y).2]⟩,R3,by first | omega | (simp only;omega),⟨rfl,congrArg (Value.int .i64) ew,rfl,rfl,congrArg (Value.int .i64) (inc64 (by omega)),trivial⟩,g.take 1⟩)
  case gb=>
   have k3:¬(doIt x c2 y).2=0:=k3
   rw[if_neg k3] at hsn
   have ew:((doneC cs2:Nat):Int)=((doneC (cs2++[(doIt x c2 y).2]):Nat):Int):=by rw[hsn];rfl
   refine KW.nxt U U (fun H' g=>⟨⟨i+1,S5,H5,X3,e3,(doIt x c2 y).1,0,cs2++[(doIt x c2 y).2]⟩,R3,by first | omega | (simp only;omega),⟨rfl,congrArg (Value.int .i64) ew,rfl,rfl,congrArg (Value.int .i64) (inc64 (by omega)),trivial⟩,g.take 1⟩)
 ·have k2:¬(i:Int)<(ds.length:Int):=k2
  have he:i=ds.length:=by omega
  refine KW.retM U U U U (fun id hid=>old id hid) (fun H1 g=>?_)
  obtain⟨q1,q2⟩:=R.done he g
  have q2:cs2=codes x (cer0 x.1.1.toNat) ds:=q2
  refine⟨e2,X2,?_,q1⟩
  rw[← q2,ehd]
  rfl
theorem l08PlayH {a c} {did:Nat} (hd:DealOk x) (hdp:∀d∈ds,DeedP d) (h400:ds.length≤400) (hB:B_Deal x) (hD:K_Deal.R S H0 x dcs) (hDv:Has3 S H0 did 0 dcs) (hs:K_Deed.Sl S H0 (.slice a ds.length c) ds):
  SpecM Tryz.prog S H0 57 [.pointer (some ⟨did,0,none⟩),.slice a ds.length c] (fun n v H1=>∃(d:HD) (X:Ids) (o:Nat),v=.tuple #[.pointer (some ⟨d.hid,0,none⟩),.slice (some ⟨o,0,some 1⟩) (codes x (cer0 x.1.1.toNat) ds).length (codes x (cer0 x.1.1.toNat) ds).length]∧KI.Ml (New n H1.n) H1 (.slice (some ⟨o,0,some 1⟩) (codes x (cer0 x.1.1.toNat) ds).length (codes x (cer0 x.1.1.toNat) ds).length) (codes x (cer0 x.1.1.toNat) ds)∧Hl HTS [.pointer (some ⟨did,0,none⟩)] [] (New n H1.n) H1 X d (play x (cer0 x.1.1.toNat) ds)):=by
 refine SpecM.of1 Tryz.func57 rfl (by kernel_rfl) rfl (fun H _=>?_)
 have hD0:K_Deal.R (Low H.n) H x dcs:=On.R hD
 have hDv0:=hDv.up (S':=Low H.n) (H':=H)
 have hs0:=hs.up (S':=Low H.n) (H':=H)
 refine KW.callN1 U U U U U (l08Begin hd hD0 hDv0) (fun v H1 S1 m1 _ _ hv=>?_)
 obtain⟨d,sp,rfl,hh⟩:=hv
 have st1:=(inferInstance:On (Low H.n) H S1 H1).st
 have hh1:=hh.on (S':=S1) (A':=H1)
 obtain⟨hid,ehid⟩:∃hid,d.hid=hid:=⟨_,rfl⟩
 rw[ehid]
 refine KW.lit U U U U U U U U U U [] U U (fun v hv=>by simp at hv) rfl ?_
 have R0:RunJ HTS [.pointer (some ⟨did,0,none⟩)] [] x ds H hid ⟨0,S1,H1,fun _=>False,d,cer0 x.1.1.toNat,H1.n,[]⟩:=⟨hh1,ehid,CerOk.start hd,st1,fun id p=>(hh.w id p).1,fun id p=>p.elim,Nat.zero_le _,rfl,rfl,rfl⟩
 refine KW.lpM U U (fun s:RT=>[(0,.pointer (some ⟨did,0,none⟩)),(1,.slice a ds.length c),(6,.pointer (some ⟨hid,0,none⟩)),(7,.slice (some ⟨s.o,0,some 1⟩) s.i s.i),(8,.int .i64 s.i)]) (fun s=>s.S) (fun s=>s.A) (fun s=>[(s.o,⟨2,true,s.cs.map (Value.int .i64)⟩)]) (fun s=>RunJ HTS [.pointer (some ⟨did,0,none⟩)] [] x ds H hid s) (fun s=>ds.length-s.i) (⟨0,S1,H1,fun _=>False,d,cer0 x.1.1.toNat,H1.n,[]⟩) (R0) ⟨rfl,rfl,rfl,rfl,rfl,trivial⟩ U U (rfl) (fun s hi bE n=>?_)
 have R:=hi
 obtain⟨i,S2,H2,X2,e2,c2,o2,cs2⟩:=s
 have old:St (Low H.n) H S2 H2:=R.old
 have ehd:e2.hid=hid:=R.hd
 have el:cs2.length=i:=R.cl
 have hile:i≤ds.length:=R.le
 refine KW.cnd U U (fun k2=>?_) (fun k2=>?_)
 ·have k2:(i:Int)<(ds.length:Int):=k2
  have hs2:K_Deed.Sl S2 H2 (.slice a ds.length c) ds:=sl_mk hs0 (fun id p=>old id p)
  refine KW.getS (td:=.struct #[]) hs2 U U U U U U U U U U U U U U U U U (by omega) (k2) (fun y cy hy hsy=>?_)
  have hy:ds[i]?=some y:=hy
  obtain rfl:=form_Deed hsy
  have hmem:=List.mem_of_getElem? hy
  have hD2:K_Deal.R (Low H.n) H2 x _:=K_Deal.same (fun id p=>(old id p).2) hD0
  have hDv2:Has3 (Low H.n) H2 did 0 dcs:=by
   obtain⟨q0,b,q1,q2⟩:=hDv0
   exact⟨q0,b,((old did q0).2).trans q1,q2⟩
  refine KW.cnt (fun n2 hn2=>?_)
  have hlo:∀{H1:AH} {b:Blk},Good S2 H2 [(o2,b)] n2 H1→H.n≤n2:=fun {H1 b} g=>by
   rcases Nat.eq_zero_or_pos H.n with h0 | h0
   ·omega
   ·have:=(g.froz (H.n-1) (old (H.n-1) (show H.n-1<H.n by omega)).1).1
    have:=g.n_
    omega
  refine KW.fact (p:=H.n≤n2) (fun H1 g=>hlo g) (fun hlt=>?_)
  have hdo:=specDo (hdp y hmem) hd hB R.ok R.hl hD2 hDv2 (fun id p=>⟨(old id p).1,fun w=>by have:=R.new id w;have:id<H.n:=p;omega⟩)
  simp only[ehd] at hdo
  refine KW.callW R.hl.w U U U U U hdo (fun v H5 S5 m5 t5 w5 hv=>?_)
  obtain⟨rfl,hp⟩:=hv
  obtain⟨X3,e3,R3⟩:=R.next hd (hdp y hmem) hy t5 w5 (by omega) hp (H5.n+1)
  refine KW.lit U U U U U U U U U U [.int .i64 (doIt x c2 y).2] U U (fun v hv=>by simp at hv;subst hv;rfl) rfl ?_
  refine KW.appTS (m:=1) (ys:=[.int .i64 (doIt x c2 y).2]) 0 U U U U U U U U (by decide) rfl (fun H1 g=>acells_seg (g.blk (j:=1) rfl).1 (by show 0+1*1≤1;decide)) (by show 0+i*1≤(cs2.map (Value.int .i64)).length;rw[List.length_map];omega) rfl (by decide) (by show(i+1)*8≤_;omega) (by omega) ?_
  have e3c:((cs2.map (Value.int .i64)).drop 0).take (i*1)++[.int .i64 (doIt x c2 y).2]=(cs2++[(doIt x c2 y).2]).map (Value.int .i64):=by rw[drop0_take (by rw[List.length_map];omega)];simp
  refine KW.nxt U U (fun H' g=>⟨⟨i+1,S5,H5,X3,e3,(doIt x c2 y).1,H5.n+1,cs2++[(doIt x c2 y).2]⟩,R3,by first | omega | (simp only;omega),⟨rfl,rfl,rfl,rfl,congrArg (Value.int .i64) (inc64 (by omega)),trivial⟩,(g.take 1).castT (show([(H5.n+1,⟨_,true,_⟩)]:List Var)=[(H5.n+1,⟨_,true,_⟩)] from T1c e3c)⟩)
 ·have k2:¬(i:Int)<(ds.length:Int):=k2
  have he:i=ds.length:=by omega
  refine KW.retM U U U U (fun id hid=>old id hid) (fun H1 g=>?_)
  obtain⟨q1,q2⟩:=R.done he g
  have q2:cs2=codes x (cer0 x.1.1.toNat) ds:=q2
  have e4:i=(codes x (cer0 x.1.1.toNat) ds).length:=by rw[← q2,el]
  refine⟨e2,X2,o2,?_,int_ml ?_ (g.blk (j:=0) rfl).1 rfl (by show List.map _ cs2=_;rw[q2]) (Nat.le_refl _),q1⟩
  ·rw[← e4,ehd]
   rfl
  ·have gv:=g.vars 0 _ rfl
   have hn:=g.n_
   refine⟨Nat.not_lt.1 fun hlt=>gv.2.2 (old _ hlt).1,?_⟩
   rw[hn]
   exact gv.2.1
end
def markF:List Bool→Int→List Int
 | [],_=>[]
 | b :: l,i=>if b=true then i :: markF l (i+1) else markF l (i+1)
theorem markF_len:∀(l:List Bool) (i:Int),(markF l i).length≤l.length
 | [],_=>Nat.le_refl _
 | b :: l,i=>by
  unfold markF
  have:=markF_len l (i+1)
  split<;>simp<;>omega
section
variable {S:Ids} {H0:AH} {l:List Bool}
theorem marked {a c} (h12:l.length≤1048576) (hs:(Kn.bool).Sl S H0 (.slice a l.length c) l):SpecM Tryz.prog S H0 126 [.slice a l.length c] (MkL (markF l 0)):=by
 refine SpecM.of1 Tryz.func126 rfl (by kernel_rfl) rfl (fun H _=>?_)
 refine KW.lit U U U U U U U U U U [] U U (fun v hv=>by simp at hv) rfl ?_
 refine KW.lpM U U (fun s:Nat × Nat × List Int=>[(3,.slice (some ⟨s.2.1,0,some 1⟩) s.2.2.length s.2.2.length),(7,.slice a l.length c),(8,.int .i64 l.length),(9,.int .i64 s.1)]) (fun s=>Low H.n) (fun s=>H) (fun s=>[(s.2.1,⟨2,true,s.2.2.map (Value.int .i64)⟩)]) (fun s=>s.1≤l.length∧s.2.2.length≤s.1∧H.n≤s.2.1∧s.2.2++markF (l.drop s.1) s.1=markF l 0) (fun s=>l.length-s.1) ((0,H.n,[])) (⟨Nat.zero_le _,Nat.le_refl _,Nat.le_refl _,rfl⟩) ⟨rfl,rfl,rfl,rfl,trivial⟩ U U (rfl) (fun s hi bE n=>?_)
 obtain⟨i,o,ks⟩:=s
 obtain⟨i1,i2,i3,i4⟩:=hi
 simp only at i1 i2 i3 i4
 refine KW.cnd U U (fun k1=>?_) (fun k1=>?_)
 ·have k1:(i:Int)<(l.length:Int):=k1
  refine KW.getB hs.up U U U U U U U U U U U U U U U U (by omega) (k1) (fun y hy=>?_)
  have hy:l[i]?=some y:=hy
  have edr:l.drop i=y :: l.drop (i+1):=by
   rw[List.drop_eq_getElem_cons (List.getElem?_eq_some_iff.1 hy).1]
   rw[(List.getElem?_eq_some_iff.1 hy).2]
  rw[edr] at i4
  refine KW.cnt (fun m hm=>?_)
  refine KW.fact (p:=H.n≤m) (fun H1 g=>g.nle (H1:=H)) (fun hlt=>?_)
  refine KW.cndB U U (fun k2=>?ga) (fun k2=>?gb)
  case ga=>
   have k2:y=true:=k2
   refine KW.lit U U U U U U U U U U [.int .i64 i] U U (fun v hv=>by simp at hv;subst hv;rfl) rfl ?_
   refine KW.appTS (m:=1) (ys:=[.int .i64 i]) 0 U U U U U U U U (by decide) rfl (fun H1 g=>acells_seg (g.blk (j:=1) rfl).1 (by show 0+1*1≤1;decide)) (by show 0+ks.length*1≤(ks.map (Value.int .i64)).length;rw[List.length_map];omega) rfl (by decide) (by show(ks.length+1)*8≤_;omega) (by show ks.length+1≤_;omega) ?_
   have e3c:((ks.map (Value.int .i64)).drop 0).take (ks.length*1)++[.int .i64 (i:Int)]=(ks++[(i:Int)]).map (Value.int .i64):=by rw[drop0_take (by rw[List.length_map];omega)];simp
   have el:ks.length+1=(ks++[(i:Int)]).length:=by simp
   have er:(ks++[(i:Int)])++markF (l.drop (i+1)) ((i:Int)+1)=markF l 0:=by rw[← i4];conv=>{rhs;unfold markF};rw[if_pos k2];simp
   refine KW.nxt U U (fun H' g=>⟨(i+1,m+1,ks++[(i:Int)]),⟨by simp only;omega,by simp only[List.length_append,List.length_cons,List.length_nil];omega,by simp only;omega,by simp only;rw[← er];rfl⟩,by first | omega | (simp only;omega),⟨congrArg (fun k=>Value.slice (some ⟨m+1,0,some 1⟩) k k) el,rfl,rfl,congrArg (Value.int .i64) (inc64 (by omega)),trivial⟩,(g.take 1).castT (show([(m+1,⟨_,true,_⟩)]:List Var)=[(m+1,⟨_,true,_⟩)] from T1c e3c)⟩)
  case gb=>
   have k2:¬y=true:=by simpa using k2
   have er:ks++markF (l.drop (i+1)) ((i:Int)+1)=markF l 0:=by rw[← i4];conv=>{rhs;unfold markF};rw[if_neg k2]
   refine KW.nxt U U (fun H' g=>⟨(i+1,o,ks),⟨by simp only;omega,by simp only;omega,i3,by simp only;rw[← er];rfl⟩,by first | omega | (simp only;omega),⟨rfl,rfl,rfl,congrArg (Value.int .i64) (inc64 (by omega)),trivial⟩,g⟩)
 ·have k1:¬(i:Int)<(l.length:Int):=k1
  have he:i=l.length:=by omega
  rw[he,List.drop_length] at i4
  have er:ks=markF l 0:=by rw[← i4];simp[markF]
  subst er
  refine KW.retM1 U U U U (fun H1 g=>?_)
  exact MkL.of g (j:=0) rfl i3
end
noncomputable def behind (x:T_Deal) (ds:List T_Deed):Cer:=play x (cer0 x.1.1.toNat) ds
theorem behind_ok {x:T_Deal} {ds:List T_Deed} (hd:DealOk x) (hdp:∀d∈ds,DeedP d):CerOk x (behind x ds):=CerOk.play hd ds hdp (CerOk.start hd)
section
variable {S:Ids} {H0:AH} {x:T_Deal} {ds:T_DeedS} {dcs:List Value}
end
abbrev M_Purse:Kn T_Purse:=Kn.mp (KI) (Kn.mp (M_Int64S) (M_Int64S))
theorem le_Purse:KLe M_Purse K_Purse:=KLe.pair ((KLe.refl KI)) (KLe.pair (le_Int64S) (le_Int64S))
abbrev B_Purse (x:T_Purse):Prop:=I64 x.1∧B_Int64S x.2.1∧B_Int64S x.2.2
abbrev sz_Purse (x:T_Purse):Nat:=sz_Int64S x.2.1+sz_Int64S x.2.2
section
variable {S:Ids} {H0:AH} {W:Ids} {left k:Int}
theorem form_Purse {x:T_Purse} {cs:List Value} (h:K_Purse.R S H0 x cs):∃a1 c1 a2 c2,cs=[.int .i64 x.1,.slice a1 x.2.1.length c1,.slice a2 x.2.2.length c2]:=by
 obtain⟨e0,d0,rfl,h0,h0_⟩:=h
 obtain⟨e1,d1,rfl,h1,h1_⟩:=h0_
 have h2:=h1_
 obtain rfl:=KI_of h0
 obtain⟨a1,c1,rfl⟩:=slform h1
 obtain⟨a2,c2,rfl⟩:=slform h2
 exact⟨a1,c1,a2,c2,rfl⟩
theorem formM_Purse {x:T_Purse} {cs:List Value} (h:M_Purse.R S H0 x cs):∃a1 c1 a2 c2,cs=[.int .i64 x.1,.slice a1 x.2.1.length c1,.slice a2 x.2.2.length c2]:=form_Purse (le_Purse.2 _ _ _ _ h)
theorem splitk_Purse {x:T_Purse} {cs:List Value} (h:K_Purse.R S H0 x cs):∃a1 c1 a2 c2,cs=[.int .i64 x.1,.slice a1 x.2.1.length c1,.slice a2 x.2.2.length c2]∧K_Int64S.R S H0 x.2.1 [.slice a1 x.2.1.length c1]∧K_Int64S.R S H0 x.2.2 [.slice a2 x.2.2.length c2]:=by
 obtain⟨e0,d0,rfl,h0,h0_⟩:=h
 obtain⟨e1,d1,rfl,h1,h1_⟩:=h0_
 have h2:=h1_
 obtain rfl:=KI_of h0
 obtain⟨a1,c1,rfl⟩:=slform h1
 obtain⟨a2,c2,rfl⟩:=slform h2
 exact⟨a1,c1,a2,c2,rfl,h1,h2⟩
end
abbrev M_Seat:Kn T_Seat:=Kn.mp (M_Purse) (Kn.mp (M_Purse) (KI))
theorem le_Seat:KLe M_Seat K_Seat:=KLe.pair (le_Purse) (KLe.pair (le_Purse) ((KLe.refl KI)))
abbrev B_Seat (x:T_Seat):Prop:=B_Purse x.1∧B_Purse x.2.1∧I64 x.2.2
section
variable {S:Ids} {H0:AH} {W:Ids} {left k:Int}
theorem splitk_Seat {x:T_Seat} {cs:List Value} (h:K_Seat.R S H0 x cs):∃a1 c1 a2 c2 a3 c3 a4 c4,cs=[.int .i64 x.1.1,.slice a1 x.1.2.1.length c1,.slice a2 x.1.2.2.length c2,.int .i64 x.2.1.1,.slice a3 x.2.1.2.1.length c3,.slice a4 x.2.1.2.2.length c4,.int .i64 x.2.2]∧K_Purse.R S H0 x.1 [.int .i64 x.1.1,.slice a1 x.1.2.1.length c1,.slice a2 x.1.2.2.length c2]∧K_Purse.R S H0 x.2.1 [.int .i64 x.2.1.1,.slice a3 x.2.1.2.1.length c3,.slice a4 x.2.1.2.2.length c4]:=by
 obtain⟨e0,d0,rfl,h0,h0_⟩:=h
 obtain⟨e1,d1,rfl,h1,h1_⟩:=h0_
 have h2:=h1_
 obtain⟨a1,c1,a2,c2,rfl⟩:=form_Purse h0
 obtain⟨a3,c3,a4,c4,rfl⟩:=form_Purse h1
 obtain rfl:=KI_of h2
 exact⟨a1,c1,a2,c2,a3,c3,a4,c4,rfl,h0,h1⟩
end
abbrev K_SeatS:Kn (List T_Seat):=K_Seat.sl
abbrev M_SeatS:Kn (List T_Seat):=M_Seat.ml
theorem le_SeatS:KLe M_SeatS K_SeatS:=KLe.row le_Seat
abbrev szE_Seat (x:T_Seat):Nat:=1+sz_Int64S x.1.2.1+sz_Int64S x.1.2.2+1+sz_Int64S x.2.1.2.1+sz_Int64S x.2.1.2.2+1
structure B_SeatS (x:List T_Seat):Prop where
 len:x.length≤1048576
 each:∀y∈x,B_Seat y
 tot:sum (x.map szE_Seat)≤16777216
section
variable {S:Ids} {H0:AH} {W:Ids} {a a':Option Addr} {c c':Nat} {left k:Int}
end
section
variable {S:Ids} {H0:AH} {W:Ids} {a a':Option Addr} {c c':Nat} {left k:Int}
end
abbrev M_Packet:Kn T_Packet:=Kn.mp KBo (Kn.mp KI (Kn.mp KI (Kn.mp M_Int64S M_Int64S)))
theorem le_Packet:KLe M_Packet K_Packet:=KLe.pair (KLe.refl KBo) (KLe.pair (KLe.refl KI) (KLe.pair (KLe.refl KI) (KLe.pair le_Int64S le_Int64S)))
abbrev B_Packet (x:T_Packet):Prop:=True∧I64 x.2.1∧I64 x.2.2.1∧B_Int64S x.2.2.2.1∧B_Int64S x.2.2.2.2
section
variable {S:Ids} {H0:AH} {W:Ids} {left k:Int}
theorem splitk_Packet {x:T_Packet} {cs:List Value} (h:K_Packet.R S H0 x cs):∃a1 c1 a2 c2,cs=[.bool x.1,.int .i64 x.2.1,.int .i64 x.2.2.1,.slice a1 x.2.2.2.1.length c1,.slice a2 x.2.2.2.2.length c2]∧K_Int64S.R S H0 x.2.2.2.1 [.slice a1 x.2.2.2.1.length c1]∧K_Int64S.R S H0 x.2.2.2.2 [.slice a2 x.2.2.2.2.length c2]:=by
 obtain⟨a1,c1,a2,c2,h,h1,h2⟩:=split_Packet h
 exact⟨a1,c1,a2,c2,h,sl1' h1,sl1' h2⟩
end
abbrev K_PacketS:Kn (List T_Packet):=K_Packet.sl
abbrev M_PacketS:Kn (List T_Packet):=M_Packet.ml
theorem le_PacketS:KLe M_PacketS K_PacketS:=KLe.row le_Packet
abbrev szE_Packet (x:T_Packet):Nat:=1+1+1+sz_Int64S x.2.2.2.1+sz_Int64S x.2.2.2.2
structure B_PacketS (x:List T_Packet):Prop where
 len:x.length≤1048576
 each:∀y∈x,B_Packet y
 tot:sum (x.map szE_Packet)≤16777216
section
variable {S:Ids} {H0:AH} {W:Ids} {a a':Option Addr} {c c':Nat} {left k:Int}
end
section
variable {S:Ids} {H0:AH} {W:Ids} {a a':Option Addr} {c c':Nat} {left k:Int}
end
abbrev T_Flag:Type:=Bool
abbrev K_Flag:Kn Bool:=Kn.bool
abbrev M_Flag:Kn Bool:=Kn.bool
theorem le_Flag:KLe M_Flag K_Flag:=KLe.refl Kn.bool
abbrev B_Flag (x:Bool):Prop:=True
abbrev K_FlagS:Kn (List T_Flag):=K_Flag.sl
abbrev M_FlagS:Kn (List T_Flag):=M_Flag.ml
theorem le_FlagS:KLe M_FlagS K_FlagS:=KLe.row le_Flag
abbrev szE_Flag (x:T_Flag):Nat:=1
structure B_FlagS (x:List T_Flag):Prop where
 len:x.length≤1048576
 each:∀y∈x,B_Flag y
 tot:sum (x.map szE_Flag)≤16777216
section
variable {S:Ids} {H0:AH} {W:Ids} {a a':Option Addr} {c c':Nat} {left k:Int}
end
section
variable {S:Ids} {H0:AH} {W:Ids} {a a':Option Addr} {c c':Nat} {left k:Int}
end
section
variable {S:Ids} {H0:AH} {a:Option Addr} {c:Nat} {k:Int}
end
abbrev T_Opener:Type:=(Int) × (List (List Int)) × (List Bool) × (List Bool)
abbrev K_Opener:Kn T_Opener:=Kn.pair (KI) (Kn.pair (K_Int64SS) (Kn.pair (K_FlagS) (K_FlagS)))
abbrev M_Opener:Kn T_Opener:=Kn.mp (KI) (Kn.mp (M_Int64SS) (Kn.mp (M_FlagS) (M_FlagS)))
theorem le_Opener:KLe M_Opener K_Opener:=KLe.pair ((KLe.refl KI)) (KLe.pair (le_Int64SS) (KLe.pair (le_FlagS) (le_FlagS)))
abbrev B_Opener (x:T_Opener):Prop:=I64 x.1∧B_Int64SS x.2.1∧B_FlagS x.2.2.1∧B_FlagS x.2.2.2
section
variable {S:Ids} {H0:AH} {W:Ids} {left k:Int}
theorem form_Opener {x:T_Opener} {cs:List Value} (h:K_Opener.R S H0 x cs):∃a1 c1 a2 c2 a3 c3,cs=[.int .i64 x.1,.slice a1 x.2.1.length c1,.slice a2 x.2.2.1.length c2,.slice a3 x.2.2.2.length c3]:=by
 obtain⟨e0,d0,rfl,h0,h0_⟩:=h
 obtain⟨e1,d1,rfl,h1,h1_⟩:=h0_
 obtain⟨e2,d2,rfl,h2,h2_⟩:=h1_
 have h3:=h2_
 obtain rfl:=KI_of h0
 obtain⟨a1,c1,rfl⟩:=slform h1
 obtain⟨a2,c2,rfl⟩:=slform h2
 obtain⟨a3,c3,rfl⟩:=slform h3
 exact⟨a1,c1,a2,c2,a3,c3,rfl⟩
theorem split_Opener {x:T_Opener} {cs:List Value} (h:K_Opener.R S H0 x cs):∃a1 c1 a2 c2 a3 c3,cs=[.int .i64 x.1,.slice a1 x.2.1.length c1,.slice a2 x.2.2.1.length c2,.slice a3 x.2.2.2.length c3]∧K_Int64SS.R S H0 x.2.1 [.slice a1 x.2.1.length c1]∧K_FlagS.R S H0 x.2.2.1 [.slice a2 x.2.2.1.length c2]∧K_FlagS.R S H0 x.2.2.2 [.slice a3 x.2.2.2.length c3]:=by
 obtain⟨e0,d0,rfl,h0,h0_⟩:=h
 obtain⟨e1,d1,rfl,h1,h1_⟩:=h0_
 obtain⟨e2,d2,rfl,h2,h2_⟩:=h1_
 have h3:=h2_
 obtain rfl:=KI_of h0
 obtain⟨a1,c1,rfl⟩:=slform h1
 obtain⟨a2,c2,rfl⟩:=slform h2
 obtain⟨a3,c3,rfl⟩:=slform h3
 exact⟨a1,c1,a2,c2,a3,c3,rfl,h1,h2,h3⟩
end
abbrev T_Ceremony:Type:=(Int) × (List T_Seat) × (T_Opener) × (List T_Packet)
abbrev K_Ceremony:Kn T_Ceremony:=Kn.pair (KI) (Kn.pair (K_SeatS) (Kn.pair (K_Opener) (K_PacketS)))
abbrev M_Ceremony:Kn T_Ceremony:=Kn.mp (KI) (Kn.mp (M_SeatS) (Kn.mp (M_Opener) (M_PacketS)))
theorem le_Ceremony:KLe M_Ceremony K_Ceremony:=KLe.pair ((KLe.refl KI)) (KLe.pair (le_SeatS) (KLe.pair (le_Opener) (le_PacketS)))
abbrev B_Ceremony (x:T_Ceremony):Prop:=I64 x.1∧B_SeatS x.2.1∧B_Opener x.2.2.1∧B_PacketS x.2.2.2
section
variable {S:Ids} {H0:AH} {W:Ids} {left k:Int}
theorem form_Ceremony {x:T_Ceremony} {cs:List Value} (h:K_Ceremony.R S H0 x cs):∃a1 c1 a2 c2 a3 c3 a4 c4 a5 c5,cs=[.int .i64 x.1,.slice a1 x.2.1.length c1,.int .i64 x.2.2.1.1,.slice a2 x.2.2.1.2.1.length c2,.slice a3 x.2.2.1.2.2.1.length c3,.slice a4 x.2.2.1.2.2.2.length c4,.slice a5 x.2.2.2.length c5]:=by
 obtain⟨e0,d0,rfl,h0,h0_⟩:=h
 obtain⟨e1,d1,rfl,h1,h1_⟩:=h0_
 obtain⟨e2,d2,rfl,h2,h2_⟩:=h1_
 have h3:=h2_
 obtain rfl:=KI_of h0
 obtain⟨a1,c1,rfl⟩:=slform h1
 obtain⟨a2,c2,a3,c3,a4,c4,rfl⟩:=form_Opener h2
 obtain⟨a5,c5,rfl⟩:=slform h3
 exact⟨a1,c1,a2,c2,a3,c3,a4,c4,a5,c5,rfl⟩
theorem formM_Ceremony {x:T_Ceremony} {cs:List Value} (h:M_Ceremony.R S H0 x cs):∃a1 c1 a2 c2 a3 c3 a4 c4 a5 c5,cs=[.int .i64 x.1,.slice a1 x.2.1.length c1,.int .i64 x.2.2.1.1,.slice a2 x.2.2.1.2.1.length c2,.slice a3 x.2.2.1.2.2.1.length c3,.slice a4 x.2.2.1.2.2.2.length c4,.slice a5 x.2.2.2.length c5]:=form_Ceremony (le_Ceremony.2 _ _ _ _ h)
theorem split_Ceremony {x:T_Ceremony} {cs:List Value} (h:K_Ceremony.R S H0 x cs):∃a1 c1 a2 c2 a3 c3 a4 c4 a5 c5,cs=[.int .i64 x.1,.slice a1 x.2.1.length c1,.int .i64 x.2.2.1.1,.slice a2 x.2.2.1.2.1.length c2,.slice a3 x.2.2.1.2.2.1.length c3,.slice a4 x.2.2.1.2.2.2.length c4,.slice a5 x.2.2.2.length c5]∧K_SeatS.R S H0 x.2.1 [.slice a1 x.2.1.length c1]∧K_Opener.R S H0 x.2.2.1 [.int .i64 x.2.2.1.1,.slice a2 x.2.2.1.2.1.length c2,.slice a3 x.2.2.1.2.2.1.length c3,.slice a4 x.2.2.1.2.2.2.length c4]∧K_PacketS.R S H0 x.2.2.2 [.slice a5 x.2.2.2.length c5]:=by
 obtain⟨e0,d0,rfl,h0,h0_⟩:=h
 obtain⟨e1,d1,rfl,h1,h1_⟩:=h0_
 obtain⟨e2,d2,rfl,h2,h2_⟩:=h1_
 have h3:=h2_
 obtain rfl:=KI_of h0
 obtain⟨a1,c1,rfl⟩:=slform h1
 obtain⟨a2,c2,a3,c3,a4,c4,rfl⟩:=form_Opener h2
 obtain⟨a5,c5,rfl⟩:=slform h3
 exact⟨a1,c1,a2,c2,a3,c3,a4,c4,a5,c5,rfl,h1,h2,h3⟩
end
def toCer (c:Cer):T_Ceremony:=(c.ep,c.seats,(c.oe,c.got,c.has,c.named),c.wire)
def cerZ:T_Ceremony:=(0,[],(0,[],[],[]),[])
theorem slnil {α:Type} {d:Kn α} {S:Ids} {A:AH}:d.sl.R S A [] [.slice none 0 0]:=sl1' (.inl ⟨rfl,none,0,rfl,fun _=>rfl⟩)
theorem mk_Ceremony_ {S:Ids} {A:AH} {x:T_Ceremony} {v1 v2 v3 v4 v5:Value} (h1:K_SeatS.R S A x.2.1 [v1]) (h2:K_Int64SS.R S A x.2.2.1.2.1 [v2]) (h3:K_FlagS.R S A x.2.2.1.2.2.1 [v3]) (h4:K_FlagS.R S A x.2.2.1.2.2.2 [v4]) (h5:K_PacketS.R S A x.2.2.2 [v5]):K_Ceremony.R S A x [.int .i64 x.1,v1,.int .i64 x.2.2.1.1,v2,v3,v4,v5]:=
 ⟨[.int .i64 x.1],_,rfl,rfl,[v1],_,rfl,h1,[.int .i64 x.2.2.1.1,v2,v3,v4],[v5],rfl,⟨[.int .i64 x.2.2.1.1],_,rfl,rfl,[v2],_,rfl,h2,[v3],[v4],rfl,h3,h4⟩,h5⟩
theorem Hl.ceremony {t:HT} {pre post:List Value} {S X:Ids} {A:AH} {d:HD} {c:Cer} (h:Hl t pre post S A X d c):K_Ceremony.R S A (toCer c) [.int .i64 c.ep,.slice (some ⟨d.sid,0,some 7⟩) c.seats.length c.seats.length,.int .i64 c.oe,.slice (some ⟨d.gid,0,some 1⟩) c.got.length c.got.length,.slice (some ⟨d.bid,0,some 1⟩) c.has.length c.has.length,.slice (some ⟨d.nid,0,some 1⟩) c.named.length c.named.length,d.wv c.wire.length]:=by
 obtain⟨g0,gcs,g1,g2,g3⟩:=h.got
 obtain⟨b0,b1⟩:=h.has
 obtain⟨n0,n1⟩:=h.named
 exact mk_Ceremony_ (x:=toCer c) (sl1' h.seatSl) (sl1' (Cl.sl g3 g0 g1 rfl h.sx (Nat.le_refl _))) (sl1' (bool_sl b0 b1 rfl (Nat.le_refl _))) (sl1' (bool_sl n0 n1 rfl (Nat.le_refl _))) (sl1' h.wireSl)
theorem built_Cer0:Tryz.prog.built 45 []=some #[.int .i64 0,.slice none 0 0,.int .i64 0,.slice none 0 0,.slice none 0 0,.slice none 0 0,.slice none 0 0]:=by kernel_rfl
noncomputable def r0_CeremonyAfter (x:T_Deal) (ds:T_DeedS):T_Ceremony:=if givenC x ds=0 then toCer (behind x ds) else cerZ
noncomputable def r1_CeremonyAfter (x:T_Deal) (ds:T_DeedS):Int:=if givenC x ds=0 then((doneC (codes x (cer0 x.1.1.toNat) ds):Nat):Int) else 0
noncomputable def r2_CeremonyAfter (x:T_Deal) (ds:T_DeedS):Int:=givenC x ds
section
variable {S:Ids} {H0:AH} {x:T_Deal} {ds:T_DeedS} {dcs:List Value}
end
structure AppI {α:Type} (M:Kn α) (xs:List α) (lo i:Nat) (S:Ids) (A:AH) (V:Ids) (cs:List Value):Prop where
 le:i≤xs.length
 len:cs.length=i*M.es
 sub:∀id,V id→S id∧lo≤id
 rows:∃Ws:Nat→Ids,(∀j id,Ws j id→V id)∧(∀j k id,Ws j id→Ws k id→j=k)∧∀(j:Nat) x,j<i→xs[j]?=some x→M.R (Ws j) A x ((cs.drop (j*M.es)).take M.es)
section
variable {α:Type} {M:Kn α} {xs:List α} {lo i:Nat} {S S' V X:Ids} {A A' H1:AH} {cs ys:List Value}
theorem AppI.zero:AppI M xs lo 0 S A (fun _=>False) []:=⟨Nat.zero_le _,by simp,fun _ p=>p.elim,fun _ _=>False,fun _ _ p=>p.elim,fun _ _ _ p=>p.elim,fun _ _ h=>absurd h (by omega)⟩
theorem AppI.up (h:AppI M xs lo i S A V cs) (t:∀id,S id→S' id∧A'.m id=A.m id):AppI M xs lo i S' A' V cs:=by
 obtain⟨Ws,w1,w2,w3⟩:=h.rows
 exact⟨h.le,h.len,fun id p=>⟨(t id (h.sub id p).1).1,(h.sub id p).2⟩,Ws,w1,w2,fun j x hj hx=>M.same (fun id p=>(t id (h.sub id (w1 j id p)).1).2) (w3 j x hj hx)⟩
theorem AppI.next (h:AppI M xs lo i S A V cs) {y:α} (hy:xs[i]?=some y) (hl:ys.length=M.es) (hX:∀id,X id→S id∧lo≤id∧¬V id) (hr:M.R X A y ys):AppI M xs lo (i+1) S A (fun id=>V id∨X id) (cs++ys):=by
 obtain⟨Ws,w1,w2,w3⟩:=h.rows
 have hlen:=h.len
 refine⟨(List.getElem?_eq_some_iff.1 hy).1,by rw[List.length_append,hlen,hl,Nat.succ_mul],fun id p=>p.elim (h.sub id) (fun p=>⟨(hX id p).1,(hX id p).2.1⟩),fun j id=>(j<i∧Ws j id)∨(j=i∧X id),fun j id p=>p.elim (fun p=>.inl (w1 j id p.2)) (fun p=>.inr p.2),fun j k id p q=>?_,fun j x hj hx=>?_⟩
 ·rcases p with p | p<;>rcases q with q | q
  ·exact w2 j k id p.2 q.2
  ·exact absurd (w1 j id p.2) (hX id q.2).2.2
  ·exact absurd (w1 k id q.2) (hX id p.2).2.2
  ·omega
 ·by_cases e:j=i
  ·subst e
   obtain rfl:y=x:=Option.some.inj (hy.symm.trans hx)
   rw[← hlen,List.drop_left,← hl,List.take_length]
   exact M.more (fun id p=>.inr ⟨rfl,p⟩) hr
  ·have hj:j<i:=by omega
   have:=mul_le' (e:=M.es) hj
   rw[List.drop_append_of_le_length (by omega),List.take_append_of_le_length (by rw[List.length_drop];omega)]
   exact M.more (fun id p=>.inl ⟨hj,p⟩) (w3 j x hj hx)
theorem AppI.ml {W:Ids} {o c:Nat} {ty:TypeId} (h:AppI M xs lo i S A V cs) (he:i=xs.length) (ho:W o) (hVo:¬V o) (hm:H1.m o=some ⟨ty,true,cs⟩) (hV:∀id,V id→W id∧H1.m id=A.m id) (hc:xs.length≤c):M.Ml W H1 (.slice (some ⟨o,0,some M.es⟩) xs.length c) xs:=by
 obtain⟨Ws,w1,w2,w3⟩:=h.rows
 subst he
 refine .inr ⟨o,c,_,Ws,rfl,hc,ho,hm,rfl,by rw[h.len];exact Nat.le_refl _,fun j id p=>⟨(hV id (w1 j id p)).1,fun e=>hVo (e ▸ w1 j id p)⟩,fun j k id=>w2 j k id,fun j x hx=>?_⟩
 have hj:=(List.getElem?_eq_some_iff.1 hx).1
 rw[Nat.zero_add]
 exact M.same (fun id p=>(hV id (w1 j id p)).2) (w3 j x hj hx)
end
section
variable {S:Ids} {H0:AH} {a:Option Addr} {c:Nat}
theorem cloneM {xs:List Int} (hB:B_Int64S xs) (hs:K_Int64S.R S H0 xs [.slice a xs.length c]):SpecM Tryz.prog S H0 89 [.slice a xs.length c] (fun n v H1=>∃a c,v=.slice a xs.length c∧M_Int64S.R (New n H1.n) H1 xs [.slice a xs.length c]):=fun H hf hz=>by
 obtain⟨m,v,H1,h1,h2,h3,h4⟩:=cloneI hB (sl1 hs) H hf hz
 obtain⟨a,c,rfl,h5⟩:=h4
 exact⟨m,_,H1,h1,h2,h3,a,c,rfl,ml1' h5⟩
theorem copyPurse {x:T_Purse} {cs:List Value} (hB:B_Purse x) (h:K_Purse.R S H0 x cs):SpecM Tryz.prog S H0 143 [.agg cs.toArray] (fun n v H1=>∃cs,v=.agg cs.toArray∧M_Purse.R (New n H1.n) H1 x cs):=by
 obtain⟨a1,c1,a2,c2,rfl,h1,h2⟩:=splitk_Purse h
 refine SpecM.of1 Tryz.func143 rfl (by kernel_rfl) rfl (fun H _=>?_)
 refine KW.callN1 U U U U U (cloneM hB.2.1 (On.R h1)) (fun v G1 S1 m1 _ _ hv=>?_)
 obtain⟨b1,d1,rfl,g1⟩:=hv
 refine KW.callN1 U U U U U (cloneM hB.2.2 (On.R h2)) (fun v G2 S2 m2 _ _ hv=>?_)
 obtain⟨b2,d2,rfl,g2⟩:=hv
 refine KW.build U U U U U (built_Purse _ _ _ _ _ _ _) ?_
 refine KW.retM1 U U U U (fun H1 g=>?_)
 refine⟨_,rfl,?_⟩
 have k2:M_Int64S.R (New G1.n H1.n) H1 x.2.2 [.slice b2 x.2.2.length d2]:=(M_Int64S).more (g.inn (H:=G2) (fun _ p=>by have:=p.1;omega)) (g.keep g2)
 have k1:(Kn.mp (M_Int64S) (M_Int64S)).R (New H.n H1.n) H1 (x.2) [.slice b1 x.2.1.length d1,.slice b2 x.2.2.length d2]:=mpR (g.keep g1) k2 (g.inn (H:=G1) (fun _ p=>by have:=p.1;omega)) (fun _ p=>⟨by have:=p.1;have:=m1;omega,p.2⟩) (fun _ o p=>by have:=o.2;have:=p.1;omega)
 have k0:(Kn.mp (KI) (Kn.mp (M_Int64S) (M_Int64S))).R (New H.n H1.n) H1 (x) [.int .i64 x.1,.slice b1 x.2.1.length d1,.slice b2 x.2.2.length d2]:=mpR (X:=None_) (show KI.R None_ H1 _ [.int .i64 x.1] from rfl) k1 (fun _ p=>p.elim) (fun _ p=>p) (fun _ p _=>p.elim)
 exact k0
theorem bool_ml {W:Ids} {A:AH} {o c:Nat} {ty:TypeId} {xs:List Bool} (hW:W o) (hm:A.m o=some ⟨ty,true,xs.map Value.bool⟩) (hl:xs.length≤c):M_FlagS.R W A xs [.slice (some ⟨o,0,some 1⟩) xs.length c]:=
 ml1' (.inr ⟨o,c,_,fun _ _=>False,rfl,hl,hW,hm,rfl,by show xs.length*1≤(xs.map Value.bool).length;simp,fun _ _ p=>p.elim,fun _ _ _ p=>p.elim,fun i x hx=>by
  show((xs.map Value.bool).drop (0+i*1)).take 1=[.bool x]
  rw[List.take_one,Nat.zero_add,Nat.mul_one,List.head?_drop,List.getElem?_map,hx]
  rfl⟩)
theorem cloneFlag {id:Nat} {ty:TypeId} {xs:List Bool} (hl:xs.length≤1048576) (hS:S id) (hm:H0.m id=some ⟨ty,true,xs.map Value.bool⟩):SpecM Tryz.prog S H0 144 [.slice (some ⟨id,0,some 1⟩) xs.length xs.length] (fun n v H1=>∃o,v=.slice (some ⟨o,0,some 1⟩) xs.length xs.length∧New n H1.n o∧H1.m o=some ⟨4,true,xs.map Value.bool⟩):=by
 refine SpecM.of1 Tryz.func144 rfl (by kernel_rfl) rfl (fun H _=>?_)
 have o1:=(inferInstance:On S H0 (Low H.n) H).st id hS
 refine KW.cF U U (by first | (simp;done) | decide) ?_
 refine KW.lit U U U U U U U U U U [] U U (fun v hv=>by simp at hv) rfl ?_
 refine KW.appU 0 U U U U U U U U (by decide) rfl (m:=xs.length) (ys:=xs.map Value.bool) (by rfl) (by show _=_*1;simp) (fun H1 g=>?_) (by simp[Value.oneCell']) (by show(0+xs.length)*1≤_;omega) (by show 0+xs.length≤_;omega) (fun o2 n2 ho2 hn2=>?_)
 ·have:=acells_seg (es:=1) (off:=0) (m:=xs.length) (c:=xs.length) ((g.froz id o1.1).2.trans (o1.2.trans hm)) (by show 0+xs.length*1≤(xs.map Value.bool).length;simp)
  refine this.trans ?_
  rw[drop0_take (by simp)]
 ·refine KW.retM1 U U U U (fun H1 g=>⟨o2,?_,?_,?_⟩)
  ·show Value.slice (some ⟨o2,0,some 1⟩) (0+xs.length) (0+xs.length)=_
   rw[Nat.zero_add]
  ·have gv:=g.vars 0 _ rfl
   have hn:=g.n_
   exact⟨Nat.not_lt.1 fun hlt=>gv.2.2 hlt,by rw[hn];exact gv.2.1⟩
  ·exact(g.blk (j:=0) rfl).1
end
theorem built_SeatI (a b c d e f:Value) (k:Int):Tryz.prog.built 51 [(0,.agg #[a,b,c]),(1,.agg #[d,e,f]),(2,.int .i64 k)]=some #[a,b,c,d,e,f,.int .i64 k]:=by kernel_rfl
theorem built_Cer1 (k:Int):Tryz.prog.built 45 [(0,.int .i64 k)]=some #[.int .i64 k,.slice none 0 0,.int .i64 0,.slice none 0 0,.slice none 0 0,.slice none 0 0,.slice none 0 0]:=by kernel_rfl
theorem built_OpenerH (k:Int) (o2 o3:Option Addr) (n2 c2 n3 c3:Nat):Tryz.prog.built 42 [(0,.int .i64 k),(2,.slice o2 n2 c2),(3,.slice o3 n3 c3)]=some #[.int .i64 k,.slice none 0 0,.slice o2 n2 c2,.slice o3 n3 c3]:=by kernel_rfl
theorem Good.pick4 {S:Ids} {H0 H:AH} {a b c d e f:Var} {n:Nat} (g:Good S H0 [a,b,c,d,e,f] n H):Good S H0 [a,b,c,f] n H:=by
 refine g.sub (fun i=>if i<3 then i else i+2) (fun i j h=>by split at h<;>split at h<;>omega) (fun i u hi=>?_)
 match i,hi with
 | 0,hi=>exact hi
 | 1,hi=>exact hi
 | 2,hi=>exact hi
 | 3,hi=>exact hi
 | i+4,hi=>simp at hi
theorem Good.pick5b {S:Ids} {H0 H:AH} {a b c d e f:Var} {n:Nat} (g:Good S H0 [a,b,c,d,e,f] n H):Good S H0 [a,b,c,d,f] n H:=by
 refine g.sub (fun i=>if i<4 then i else i+1) (fun i j h=>by split at h<;>split at h<;>omega) (fun i u hi=>?_)
 match i,hi with
 | 0,hi=>exact hi
 | 1,hi=>exact hi
 | 2,hi=>exact hi
 | 3,hi=>exact hi
 | 4,hi=>exact hi
 | i+5,hi=>simp at hi
theorem T5d {a b c d:Var} {i:Nat} {ty:TypeId} {cs cs':List Value} (h:cs=cs'):([a,b,c,d,(i,⟨ty,true,cs⟩)]:List Var)=[a,b,c,d,(i,⟨ty,true,cs'⟩)]:=by rw[h]
theorem T4c {a b c:Var} {i:Nat} {ty:TypeId} {cs cs':List Value} (h:cs=cs'):([a,b,c,(i,⟨ty,true,cs⟩)]:List Var)=[a,b,c,(i,⟨ty,true,cs'⟩)]:=by rw[h]
structure RC where
 i:Nat
 o:Option Nat
 S:Ids
 A:AH
 V:Ids
 cs:List Value
theorem mkM_Packet {A:AH} {X1 X2:Ids} {y:T_Packet} {v1 v2:Value} (h1:M_Int64S.R X1 A y.2.2.2.1 [v1]) (h2:M_Int64S.R X2 A y.2.2.2.2 [v2]) (hd:∀id,X1 id→X2 id→False):M_Packet.R (fun id=>X1 id∨X2 id) A y [.bool y.1,.int .i64 y.2.1,.int .i64 y.2.2.1,v1,v2]:=by
 have k3:(Kn.mp M_Int64S M_Int64S).R (fun id=>X1 id∨X2 id) A (y.2.2.2.1,y.2.2.2.2) ([v1]++[v2]):=mpR h1 h2 (fun _ p=>.inl p) (fun _ p=>.inr p) hd
 have k2:(Kn.mp KI (Kn.mp M_Int64S M_Int64S)).R (fun id=>X1 id∨X2 id) A (y.2.2.1,y.2.2.2.1,y.2.2.2.2) ([.int .i64 y.2.2.1]++([v1]++[v2])):=mpR (X:=None_) (show KI.R None_ A _ [.int .i64 y.2.2.1] from rfl) k3 (fun _ p=>p.elim) (fun _ p=>p) (fun _ p _=>p.elim)
 have k1:(Kn.mp KI (Kn.mp KI (Kn.mp M_Int64S M_Int64S))).R (fun id=>X1 id∨X2 id) A (y.2.1,y.2.2.1,y.2.2.2.1,y.2.2.2.2) ([.int .i64 y.2.1]++([.int .i64 y.2.2.1]++([v1]++[v2]))):=mpR (X:=None_) (show KI.R None_ A _ [.int .i64 y.2.1] from rfl) k2 (fun _ p=>p.elim) (fun _ p=>p) (fun _ p _=>p.elim)
 exact mpR (X:=None_) (show KBo.R None_ A _ [.bool y.1] from rfl) k1 (fun _ p=>p.elim) (fun _ p=>p) (fun _ p _=>p.elim)
theorem Good.pick6 {S:Ids} {H0 H:AH} {a b c d e f g h:Var} {n:Nat} (G:Good S H0 [a,b,c,d,e,f,g,h] n H):Good S H0 [a,b,c,d,e,h] n H:=by
 refine G.sub (fun i=>if i<5 then i else i+2) (fun i j h=>by split at h<;>split at h<;>omega) (fun i u hi=>?_)
 match i,hi with
 | 0,hi=>exact hi
 | 1,hi=>exact hi
 | 2,hi=>exact hi
 | 3,hi=>exact hi
 | 4,hi=>exact hi
 | 5,hi=>exact hi
 | i+6,hi=>simp at hi
theorem T6d {a b c d e:Var} {i:Nat} {ty:TypeId} {cs cs':List Value} (h:cs=cs'):([a,b,c,d,e,(i,⟨ty,true,cs⟩)]:List Var)=[a,b,c,d,e,(i,⟨ty,true,cs'⟩)]:=by rw[h]
theorem mkM_Seat {A:AH} {X1 X2:Ids} {y:T_Seat} {v1 v2 v3 v4:Value} (h1:M_Purse.R X1 A y.1 [.int .i64 y.1.1,v1,v2]) (h2:M_Purse.R X2 A y.2.1 [.int .i64 y.2.1.1,v3,v4]) (hd:∀id,X1 id→X2 id→False):M_Seat.R (fun id=>X1 id∨X2 id) A y [.int .i64 y.1.1,v1,v2,.int .i64 y.2.1.1,v3,v4,.int .i64 y.2.2]:=by
 have k1:(Kn.mp M_Purse KI).R X2 A (y.2.1,y.2.2) ([.int .i64 y.2.1.1,v3,v4]++[.int .i64 y.2.2]):=mpR (Y:=None_) h2 (show KI.R None_ A _ [.int .i64 y.2.2] from rfl) (fun _ p=>p) (fun _ p=>p.elim) (fun _ _ p=>p.elim)
 exact mpR h1 k1 (fun _ p=>.inl p) (fun _ p=>.inr p) hd
section
variable {S:Ids} {H0:AH} {x:T_Ceremony} {sid gid bid nid:Nat} {aw:Option Addr} {cw:Nat}
theorem copied (hBs:∀y∈x.2.1,B_Seat y) (hBw:∀y∈x.2.2.2,B_Packet y) (hl1:x.2.1.length≤7) (hp1:0<x.2.1.length) (hp2:0<x.2.2.1.2.1.length) (hBg:∀g∈x.2.2.1.2.1,B_Int64S g) (hl2:x.2.2.1.2.1.length≤7) (hl3:x.2.2.1.2.2.1.length≤7) (hl4:x.2.2.1.2.2.2.length≤7) (hl5:x.2.2.2.length≤12)
  (hSe:K_Seat.Sl S H0 (.slice (some ⟨sid,0,some 7⟩) x.2.1.length x.2.1.length) x.2.1) (hGo:KI.sl.Sl S H0 (.slice (some ⟨gid,0,some 1⟩) x.2.2.1.2.1.length x.2.2.1.2.1.length) x.2.2.1.2.1) (hHa:S bid∧H0.m bid=some ⟨4,true,x.2.2.1.2.2.1.map Value.bool⟩) (hNa:S nid∧H0.m nid=some ⟨4,true,x.2.2.1.2.2.2.map Value.bool⟩) (hWi:K_Packet.Sl S H0 (.slice aw x.2.2.2.length cw) x.2.2.2):
  SpecM Tryz.prog S H0 61 [.agg #[.int .i64 x.1,.slice (some ⟨sid,0,some 7⟩) x.2.1.length x.2.1.length,.int .i64 x.2.2.1.1,.slice (some ⟨gid,0,some 1⟩) x.2.2.1.2.1.length x.2.2.1.2.1.length,.slice (some ⟨bid,0,some 1⟩) x.2.2.1.2.2.1.length x.2.2.1.2.2.1.length,.slice (some ⟨nid,0,some 1⟩) x.2.2.1.2.2.2.length x.2.2.1.2.2.2.length,.slice aw x.2.2.2.length cw]] (fun n v H1=>∃cs:List Value,v=.agg cs.toArray∧M_Ceremony.R (New n H1.n) H1 x cs):=by
 obtain⟨ep,ss,⟨oe,got,has,named⟩,wi⟩:=x
 simp only at hBs hBw hBg hp1 hp2 hl1 hl2 hl3 hl4 hl5 hSe hGo hHa hNa hWi
 refine SpecM.of1 Tryz.func61 rfl (by kernel_rfl) rfl (fun H _=>?_)
 have hSe0:=hSe.up (S':=Low H.n) (H':=H)
 have hGo0:=hGo.up (S':=Low H.n) (H':=H)
 have hWi0:=hWi.up (S':=Low H.n) (H':=H)
 refine KW.build U U U U U (built_Cer1 _) ?_
 refine KW.lpM U U (fun s:RC=>[(1,.pointer (some ⟨H.n,0,some 0⟩)),(2,.pointer (some ⟨H.n+1,0,some 1⟩)),(3,.pointer (some ⟨H.n+2,0,some 2⟩)),(14,.slice (some ⟨sid,0,some 7⟩) ss.length ss.length),(15,.int .i64 ss.length),(16,.int .i64 s.i)]) (fun s=>s.S) (fun s=>s.A) (fun s=>[(H.n,⟨45,true,[.int .i64 ep,.slice (some ⟨sid,0,some 7⟩) ss.length ss.length,.int .i64 oe,.slice (some ⟨gid,0,some 1⟩) got.length got.length,.slice (some ⟨bid,0,some 1⟩) has.length has.length,.slice (some ⟨nid,0,some 1⟩) named.length named.length,.slice aw wi.length cw]⟩),(H.n+1,⟨45,true,[.int .i64 0,.slice none 0 0,.int .i64 0,.slice none 0 0,.slice none 0 0,.slice none 0 0,.slice none 0 0]⟩),(H.n+2,⟨45,true,[.int .i64 ep,(match s.o with | none=>.slice none 0 0 | some o=>.slice (some ⟨o,0,some 7⟩) s.i s.i),.int .i64 0,.slice none 0 0,.slice none 0 0,.slice none 0 0,.slice none 0 0]⟩)]++(match s.o with | none=>[] | some o=>[(o,⟨51,true,s.cs⟩)])) (fun s=>AppI M_Seat ss H.n s.i s.S s.A s.V s.cs∧St (Low H.n) H s.S s.A∧(s.o=none↔s.i=0)) (fun s=>ss.length-s.i) (⟨0,none,Low H.n,H,fun _=>False,[]⟩) (⟨AppI.zero,fun id p=>⟨p,rfl⟩,by simp⟩) ⟨rfl,rfl,rfl,rfl,rfl,rfl,trivial⟩ U U (rfl) (fun s hi bE n=>?_)
 obtain⟨i,ob,S2,A2,V,cs⟩:=s
 obtain⟨i1,i2,i3⟩:=hi
 simp only at i1 i2 i3
 have ile:=i1.le
 have icl:cs.length=i*7:=i1.len
 refine KW.fact (p:=H.n+2<n∧∀id,S2 id→id<n) (fun H1 g=>⟨(g.vars 2 _ rfl).2.1,fun id p=>by have:=(g.froz id p).1;have:=g.n_;omega⟩) (fun hf=>?_)
 refine KW.cnd U U (fun k1=>?gin) (fun k1=>?gout)
 case gin=>
  have k1:(i:Int)<(ss.length:Int):=k1
  have hSe2:K_Seat.Sl S2 A2 _ ss:=sl_mk hSe0 i2
  cases ob with
  | none=>
   obtain rfl:=i3.1 rfl
   obtain rfl:cs=[]:=List.eq_nil_of_length_eq_zero (by omega)
   simp only
   refine KW.getS (td:=.struct #[]) hSe2 U U U U U U U U U U U U U U U U U (by omega) (k1) (fun y cy hy hsy=>?_)
   have hy:ss[0]?=some y:=hy
   obtain⟨f1,g1,f2,g2,f3,g3,f4,g4,rfl,hp1,hp2⟩:=splitk_Seat hsy
   have hBy:=hBs y (List.mem_of_getElem? hy)
   refine KW.callN1 U U U U U (copyPurse hBy.1 (On.R hp1)) (fun v G1 S3 m3 _ _ hv=>?_)
   obtain⟨w1,rfl,q1⟩:=hv
   obtain⟨b1,e1,b2,e2,rfl⟩:=formM_Purse q1
   refine KW.callN1 U U U U U (copyPurse hBy.2.1 (On.R hp2)) (fun v G2 S4 m4 _ _ hv=>?_)
   obtain⟨w2,rfl,q2⟩:=hv
   obtain⟨b3,e3,b4,e4,rfl⟩:=formM_Purse q2
   refine KW.build U U U U U (built_SeatI _ _ _ _ _ _ _) ?_
   have o1:=(inferInstance:On (New (n+1) G1.n) G1 S4 G2).st
   have o2:=(inferInstance:On (New G1.n G2.n) G2 S4 G2).st
   have o24:=(inferInstance:On S2 A2 S4 G2).st
   have q1':M_Purse.R (New (n+1) G1.n) G2 y.1 _:=M_Purse.same (fun id p=>(o1 id p).2) q1
   have qS:=mkM_Seat (y:=y) q1' q2 (fun id p r=>by have:=p.2;have:=r.1;omega)
   have hX:∀id,(New (n+1) G1.n id∨New G1.n G2.n id)→S4 id∧H.n≤id∧¬V id:=fun id p=>by
    refine⟨p.elim (fun p=>(o1 id p).1) (fun p=>(o2 id p).1),?_,fun v=>?_⟩
    ·rcases p with p | p<;>(have:=p.1;omega)
    ·have:=hf.2 id (i1.sub id v).1
     rcases p with p | p<;>(have:=p.1;omega)
   have A1:=(i1.up (S':=S4) (A':=G2) (fun id p=>o24 id p)).next hy rfl hX qS
   have st4:St (Low H.n) H S4 G2:=i2.trans o24
   refine KW.litS1 U U U U U U U U U U U U ?_
   refine KW.appNS U U U U U U U (by decide) rfl (fun H1 g=>acells_seg (g.blk (j:=4) rfl).1 (by show 0+1*7≤7;decide)) rfl (by decide) (by decide) (by decide) ?_
   refine KW.nxt U U (fun H' g=>⟨⟨1,some (G2.n+1),S4,G2,_,_⟩,⟨A1,st4,by simp⟩,by first | omega | (simp only;omega),⟨rfl,rfl,rfl,rfl,rfl,congrArg (Value.int .i64) (inc64 (by omega)),trivial⟩,g.pick4⟩)
  | some o=>
   simp only
   refine KW.getS (td:=.struct #[]) hSe2 U U U U U U U U U U U U U U U U U (by omega) (k1) (fun y cy hy hsy=>?_)
   have hy:ss[i]?=some y:=hy
   obtain⟨f1,g1,f2,g2,f3,g3,f4,g4,rfl,hp1,hp2⟩:=splitk_Seat hsy
   have hBy:=hBs y (List.mem_of_getElem? hy)
   refine KW.callN1 U U U U U (copyPurse hBy.1 (On.R hp1)) (fun v G1 S3 m3 _ _ hv=>?_)
   obtain⟨w1,rfl,q1⟩:=hv
   obtain⟨b1,e1,b2,e2,rfl⟩:=formM_Purse q1
   refine KW.callN1 U U U U U (copyPurse hBy.2.1 (On.R hp2)) (fun v G2 S4 m4 _ _ hv=>?_)
   obtain⟨w2,rfl,q2⟩:=hv
   obtain⟨b3,e3,b4,e4,rfl⟩:=formM_Purse q2
   refine KW.build U U U U U (built_SeatI _ _ _ _ _ _ _) ?_
   have o1:=(inferInstance:On (New (n+1) G1.n) G1 S4 G2).st
   have o2:=(inferInstance:On (New G1.n G2.n) G2 S4 G2).st
   have o24:=(inferInstance:On S2 A2 S4 G2).st
   have q1':M_Purse.R (New (n+1) G1.n) G2 y.1 _:=M_Purse.same (fun id p=>(o1 id p).2) q1
   have qS:=mkM_Seat (y:=y) q1' q2 (fun id p r=>by have:=p.2;have:=r.1;omega)
   have hX:∀id,(New (n+1) G1.n id∨New G1.n G2.n id)→S4 id∧H.n≤id∧¬V id:=fun id p=>by
    refine⟨p.elim (fun p=>(o1 id p).1) (fun p=>(o2 id p).1),?_,fun v=>?_⟩
    ·rcases p with p | p<;>(have:=p.1;omega)
    ·have:=hf.2 id (i1.sub id v).1
     rcases p with p | p<;>(have:=p.1;omega)
   have A1:=(i1.up (S':=S4) (A':=G2) (fun id p=>o24 id p)).next hy rfl hX qS
   have st4:St (Low H.n) H S4 G2:=i2.trans o24
   refine KW.litS1 U U U U U U U U U U U U ?_
   refine KW.appTS (m:=1) (ys:=[.int .i64 y.1.1,.slice b1 y.1.2.1.length e1,.slice b2 y.1.2.2.length e2,.int .i64 y.2.1.1,.slice b3 y.2.1.2.1.length e3,.slice b4 y.2.1.2.2.length e4,.int .i64 y.2.2]) 3 U U U U U U U U (by decide) rfl (fun H1 g=>acells_seg (g.blk (j:=5) rfl).1 (by show 0+1*7≤7;decide)) (by show 0+i*7≤cs.length;omega) rfl (by decide) (by show(i+1)*120≤_;omega) (by show i+1≤_;omega) ?_
   have e9:(cs.drop 0).take (i*7)++[.int .i64 y.1.1,.slice b1 y.1.2.1.length e1,.slice b2 y.1.2.2.length e2,.int .i64 y.2.1.1,.slice b3 y.2.1.2.1.length e3,.slice b4 y.2.1.2.2.length e4,.int .i64 y.2.2]=cs++[.int .i64 y.1.1,.slice b1 y.1.2.1.length e1,.slice b2 y.1.2.2.length e2,.int .i64 y.2.1.1,.slice b3 y.2.1.2.1.length e3,.slice b4 y.2.1.2.2.length e4,.int .i64 y.2.2]:=by rw[drop0_take icl]
   refine KW.nxt U U (fun H' g=>⟨⟨i+1,some (G2.n+1),S4,G2,_,_⟩,⟨A1,st4,by simp⟩,by first | omega | (simp only;omega),⟨rfl,rfl,rfl,rfl,rfl,congrArg (Value.int .i64) (inc64 (by omega)),trivial⟩,(g.take 4).castT (show([_,_,_,(G2.n+1,⟨_,true,_⟩)]:List Var)=[_,_,_,(G2.n+1,⟨_,true,_⟩)] from T4c e9)⟩)
 have k1:¬(i:Int)<(ss.length:Int):=k1
 obtain rfl:i=ss.length:=by omega
 cases ob with
 | none=>have:=i3.1 rfl;omega
 | some o=>
 simp only
 have hHa2:=i2 bid ((inferInstance:On S H0 (Low H.n) H).st bid hHa.1).1
 have hNa2:=i2 nid ((inferInstance:On S H0 (Low H.n) H).st nid hNa.1).1
 have eHa:A2.m bid=_:=hHa2.2.trans (((inferInstance:On S H0 (Low H.n) H).st bid hHa.1).2.trans hHa.2)
 have eNa:A2.m nid=_:=hNa2.2.trans (((inferInstance:On S H0 (Low H.n) H).st nid hNa.1).2.trans hNa.2)
 refine KW.cnt (fun nA hnA=>?_)
 refine KW.callN1 U U U U U (cloneFlag (by omega) hHa2.1 eHa) (fun v B1 SB1 mB1 _ _ hv=>?_)
 obtain⟨bo,rfl,hb1,hb2⟩:=hv
 have ob1:=(inferInstance:On S2 A2 SB1 B1).st
 refine KW.callN1 U U U U U (cloneFlag (by omega) (ob1 nid hNa2.1).1 ((ob1 nid hNa2.1).2.trans eNa)) (fun v B2 SB2 mB2 _ _ hv=>?_)
 obtain⟨no,rfl,hc1,hc2⟩:=hv
 refine KW.build U U U U U (built_OpenerH _ _ _ _ _ _ _) ?_
 have o12:=(inferInstance:On S2 A2 SB2 B2).st
 have st2:St (Low H.n) H SB2 B2:=i2.trans o12
 refine KW.lpM U U (fun s:RC=>[(1,.pointer (some ⟨H.n,0,some 0⟩)),(2,.pointer (some ⟨H.n+1,0,some 1⟩)),(3,.pointer (some ⟨H.n+2,0,some 2⟩)),(50,.slice (some ⟨gid,0,some 1⟩) got.length got.length),(51,.int .i64 got.length),(52,.int .i64 s.i)]) (fun s=>s.S) (fun s=>s.A) (fun s=>[(H.n,⟨45,true,[.int .i64 ep,.slice (some ⟨sid,0,some 7⟩) ss.length ss.length,.int .i64 oe,.slice (some ⟨gid,0,some 1⟩) got.length got.length,.slice (some ⟨bid,0,some 1⟩) has.length has.length,.slice (some ⟨nid,0,some 1⟩) named.length named.length,.slice aw wi.length cw]⟩),(H.n+1,⟨45,true,[.int .i64 0,.slice none 0 0,.int .i64 0,.slice none 0 0,.slice none 0 0,.slice none 0 0,.slice none 0 0]⟩),(H.n+2,⟨45,true,[.int .i64 ep,.slice (some ⟨o,0,some 7⟩) ss.length ss.length,.int .i64 oe,(match s.o with | none=>.slice none 0 0 | some o=>.slice (some ⟨o,0,some 1⟩) s.i s.i),.slice (some ⟨bo,0,some 1⟩) has.length has.length,.slice (some ⟨no,0,some 1⟩) named.length named.length,.slice none 0 0]⟩),(o,⟨51,true,cs⟩)]++(match s.o with | none=>[] | some o=>[(o,⟨24,true,s.cs⟩)])) (fun s=>AppI KI.ml got B2.n s.i s.S s.A s.V s.cs∧St SB2 B2 s.S s.A∧(s.o=none↔s.i=0)) (fun s=>got.length-s.i) (⟨0,none,SB2,B2,fun _=>False,[]⟩) (⟨AppI.zero,fun id p=>⟨p,rfl⟩,by simp⟩) ⟨rfl,rfl,rfl,rfl,rfl,rfl,trivial⟩ U U (rfl) (fun s hi bE n=>?_)
 obtain⟨j,ob2,S5,A5,V5,cs5⟩:=s
 obtain⟨j1,j2,j3⟩:=hi
 simp only at j1 j2 j3
 have jle:=j1.le
 have jcl:cs5.length=j*1:=j1.len
 have st5:St (Low H.n) H S5 A5:=st2.trans j2
 refine KW.fact (p:=B2.n≤n∧∀id,S5 id→id<n) (fun H1 g=>⟨?_,fun id p=>by have:=(g.froz id p).1;have:=g.n_;omega⟩) (fun hf2=>?_)
 ·have h1:=hc1.1
  have h2:=hc1.2
  have hS:=((inferInstance:On (New B1.n B2.n) B2 SB2 B2).st (B2.n-1) ⟨by omega,by omega⟩).1
  have h3:=(g.froz _ (j2 _ hS).1).1
  have h4:=g.n_
  omega
 refine KW.cnd U U (fun k5=>?gi2) (fun k5=>?go2)
 case gi2=>
  have k5:(j:Int)<(got.length:Int):=k5
  have hGo2:KI.sl.Sl S5 A5 _ got:=sl_mk hGo0 st5
  cases ob2 with
  | none=>
   obtain rfl:=j3.1 rfl
   obtain rfl:cs5=[]:=List.eq_nil_of_length_eq_zero (by omega)
   simp only
   refine KW.getL hGo2 U U U U U U U U U U U U U U U U (by omega) (k5) (fun y ya yc hy hsy=>?_)
   have hy:got[0]?=some y:=hy
   have hBy:=hBg y (List.mem_of_getElem? hy)
   refine KW.callN1 U U U U U (cloneM hBy (sl1' hsy)) (fun v G1 S6 m6 _ _ hv=>?_)
   obtain⟨b1,e1,rfl,q1⟩:=hv
   refine KW.lit U U U U U U U U U U [.slice b1 y.length e1] U U (fun v hv=>by simp at hv;subst hv;rfl) rfl ?_
   have o1:=(inferInstance:On (New n G1.n) G1 S6 G1).st
   have o56:=(inferInstance:On S5 A5 S6 G1).st
   have hX:∀id,New n G1.n id→S6 id∧B2.n≤id∧¬V5 id:=fun id p=>by
    refine⟨(o1 id p).1,?_,fun v=>?_⟩
    ·have:=p.1;omega
    ·have:=hf2.2 id (j1.sub id v).1
     have:=p.1;omega
   have A2':=(j1.up (S':=S6) (A':=G1) (fun id p=>o56 id p)).next (ys:=[.slice b1 y.length e1]) hy rfl hX q1
   have st6:St SB2 B2 S6 G1:=j2.trans o56
   refine KW.appNS (m:=1) (ys:=[.slice b1 y.length e1]) U U U U U U U (by decide) rfl (fun H1 g=>acells_seg (g.blk (j:=4) rfl).1 (by show 0+1*1≤1;decide)) rfl (by decide) (by show 1*24≤_;omega) (by omega) ?_
   refine KW.nxt U U (fun H' g=>⟨⟨1,some (G1.n+1),S6,G1,_,_⟩,⟨A2',st6,by simp⟩,by first | omega | (simp only;omega),⟨rfl,rfl,rfl,rfl,rfl,congrArg (Value.int .i64) (inc64 (by omega)),trivial⟩,g.pick5b⟩)
  | some o5=>
   simp only
   refine KW.getL hGo2 U U U U U U U U U U U U U U U U (by omega) (k5) (fun y ya yc hy hsy=>?_)
   have hy:got[j]?=some y:=hy
   have hBy:=hBg y (List.mem_of_getElem? hy)
   refine KW.callN1 U U U U U (cloneM hBy (sl1' hsy)) (fun v G1 S6 m6 _ _ hv=>?_)
   obtain⟨b1,e1,rfl,q1⟩:=hv
   refine KW.lit U U U U U U U U U U [.slice b1 y.length e1] U U (fun v hv=>by simp at hv;subst hv;rfl) rfl ?_
   have o1:=(inferInstance:On (New n G1.n) G1 S6 G1).st
   have o56:=(inferInstance:On S5 A5 S6 G1).st
   have hX:∀id,New n G1.n id→S6 id∧B2.n≤id∧¬V5 id:=fun id p=>by
    refine⟨(o1 id p).1,?_,fun v=>?_⟩
    ·have:=p.1;omega
    ·have:=hf2.2 id (j1.sub id v).1
     have:=p.1;omega
   have A2':=(j1.up (S':=S6) (A':=G1) (fun id p=>o56 id p)).next (ys:=[.slice b1 y.length e1]) hy rfl hX q1
   have st6:St SB2 B2 S6 G1:=j2.trans o56
   refine KW.appTS (m:=1) (ys:=[.slice b1 y.length e1]) 4 U U U U U U U U (by decide) rfl (fun H1 g=>acells_seg (g.blk (j:=5) rfl).1 (by show 0+1*1≤1;decide)) (by show 0+j*1≤cs5.length;omega) rfl (by decide) (by show(j+1)*24≤_;omega) (by show j+1≤_;omega) ?_
   have e9:(cs5.drop 0).take (j*1)++[.slice b1 y.length e1]=cs5++[.slice b1 y.length e1]:=by rw[drop0_take jcl]
   refine KW.nxt U U (fun H' g=>⟨⟨j+1,some (G1.n+1),S6,G1,_,_⟩,⟨A2',st6,by simp⟩,by first | omega | (simp only;omega),⟨rfl,rfl,rfl,rfl,rfl,congrArg (Value.int .i64) (inc64 (by omega)),trivial⟩,(g.take 5).castT (show([_,_,_,_,(G1.n+1,⟨_,true,_⟩)]:List Var)=[_,_,_,_,(G1.n+1,⟨_,true,_⟩)] from T5d e9)⟩)
 have k5:¬(j:Int)<(got.length:Int):=k5
 obtain rfl:j=got.length:=by omega
 cases ob2 with
 | none=>have:=j3.1 rfl;omega
 | some o5=>
 simp only
 refine KW.lpM U U (fun s:RC=>[(2,.pointer (some ⟨H.n+1,0,some 1⟩)),(3,.pointer (some ⟨H.n+2,0,some 2⟩)),(67,.slice aw wi.length cw),(68,.int .i64 wi.length),(69,.int .i64 s.i)]) (fun s=>s.S) (fun s=>s.A) (fun s=>[(H.n,⟨45,true,[.int .i64 ep,.slice (some ⟨sid,0,some 7⟩) ss.length ss.length,.int .i64 oe,.slice (some ⟨gid,0,some 1⟩) got.length got.length,.slice (some ⟨bid,0,some 1⟩) has.length has.length,.slice (some ⟨nid,0,some 1⟩) named.length named.length,.slice aw wi.length cw]⟩),(H.n+1,⟨45,true,[.int .i64 0,.slice none 0 0,.int .i64 0,.slice none 0 0,.slice none 0 0,.slice none 0 0,.slice none 0 0]⟩),(H.n+2,⟨45,true,[.int .i64 ep,.slice (some ⟨o,0,some 7⟩) ss.length ss.length,.int .i64 oe,.slice (some ⟨o5,0,some 1⟩) got.length got.length,.slice (some ⟨bo,0,some 1⟩) has.length has.length,.slice (some ⟨no,0,some 1⟩) named.length named.length,(match s.o with | none=>.slice none 0 0 | some o=>.slice (some ⟨o,0,some 5⟩) s.i s.i)]⟩),(o,⟨51,true,cs⟩),(o5,⟨24,true,cs5⟩)]++(match s.o with | none=>[] | some o=>[(o,⟨197,true,s.cs⟩)])) (fun s=>AppI M_Packet wi H.n s.i s.S s.A s.V s.cs∧St S5 A5 s.S s.A∧(s.o=none↔s.i=0)∧∀id,s.V id→¬S5 id) (fun s=>wi.length-s.i) (⟨0,none,S5,A5,fun _=>False,[]⟩) (⟨AppI.zero,fun id p=>⟨p,rfl⟩,by simp,fun _ p=>p.elim⟩) ⟨rfl,rfl,rfl,rfl,rfl,trivial⟩ U U (rfl) (fun s hi bE n=>?_)
 obtain⟨k,ob7,S7,A7,V7,cs7⟩:=s
 obtain⟨l1,l2,l3,l4⟩:=hi
 simp only at l1 l2 l3 l4
 have kle:=l1.le
 have kcl:cs7.length=k*5:=l1.len
 have st7:St (Low H.n) H S7 A7:=st5.trans l2
 refine KW.fact (p:=H.n+2<n∧∀id,S7 id→id<n) (fun H1 g=>⟨(g.vars 2 _ rfl).2.1,fun id p=>by have:=(g.froz id p).1;have:=g.n_;omega⟩) (fun hf3=>?_)
 refine KW.cnd U U (fun k6=>?gi3) (fun k6=>?go3)
 case gi3=>
  have k6:(k:Int)<(wi.length:Int):=k6
  have hWi2:K_Packet.Sl S7 A7 _ wi:=sl_mk hWi0 st7
  cases ob7 with
  | none=>
   obtain rfl:=l3.1 rfl
   obtain rfl:cs7=[]:=List.eq_nil_of_length_eq_zero (by omega)
   simp only
   refine KW.getS (td:=.struct #[]) hWi2 U U U U U U U U U U U U U U U U U (by omega) (k6) (fun y cy hy hsy=>?_)
   have hy:wi[0]?=some y:=hy
   obtain⟨f1,g1,f2,g2,rfl,hp3,hp4⟩:=splitk_Packet hsy
   have hBy:=hBw y (List.mem_of_getElem? hy)
   refine KW.callN1 U U U U U (cloneM hBy.2.2.2.1 (On.R hp3)) (fun v G1 S8 m8 _ _ hv=>?_)
   obtain⟨b1,e1,rfl,q1⟩:=hv
   refine KW.callN1 U U U U U (cloneM hBy.2.2.2.2 (On.R hp4)) (fun v G2 S9 m9 _ _ hv=>?_)
   obtain⟨b2,e2,rfl,q2⟩:=hv
   have p1:=(inferInstance:On (New (n+1) G1.n) G1 S9 G2).st
   have p2:=(inferInstance:On (New G1.n G2.n) G2 S9 G2).st
   have p79:=(inferInstance:On S7 A7 S9 G2).st
   have q1':M_Int64S.R (New (n+1) G1.n) G2 y.2.2.2.1 _:=M_Int64S.same (fun id p=>(p1 id p).2) q1
   have qS:=mkM_Packet (y:=y) q1' q2 (fun id p r=>by have:=p.2;have:=r.1;omega)
   have big:∀id,(New (n+1) G1.n id∨New G1.n G2.n id)→n≤id:=fun id p=>by rcases p with p | p<;>(have:=p.1;omega)
   have hX:∀id,(New (n+1) G1.n id∨New G1.n G2.n id)→S9 id∧H.n≤id∧¬V7 id:=fun id p=>by
    have hb:=big id p
    refine⟨p.elim (fun p=>(p1 id p).1) (fun p=>(p2 id p).1),by omega,fun v=>?_⟩
    have:=hf3.2 id (l1.sub id v).1
    omega
   have A3:=(l1.up (S':=S9) (A':=G2) (fun id p=>p79 id p)).next hy rfl hX qS
   have st9:St S5 A5 S9 G2:=l2.trans p79
   have l4':∀id,(V7 id∨(New (n+1) G1.n id∨New G1.n G2.n id))→¬S5 id:=fun id p q=>by
    rcases p with p | p
    ·exact l4 id p q
    ·have:=big id p
     have:=hf3.2 id (l2 id q).1
     omega
   refine KW.litS1 U U U U U U U U U U U U ?_
   refine KW.appNS U U U U U U U (by decide) rfl (fun H1 g=>acells_seg (g.blk (j:=6) rfl).1 (by show 0+1*5≤5;decide)) rfl (by decide) (by decide) (by decide) ?_
   refine KW.nxt U U (fun H' g=>⟨⟨1,some (G2.n+1),S9,G2,_,_⟩,⟨A3,st9,by simp,l4'⟩,by first | omega | (simp only;omega),⟨rfl,rfl,rfl,rfl,congrArg (Value.int .i64) (inc64 (by omega)),trivial⟩,g.pick6⟩)
  | some o7=>
   simp only
   refine KW.getS (td:=.struct #[]) hWi2 U U U U U U U U U U U U U U U U U (by omega) (k6) (fun y cy hy hsy=>?_)
   have hy:wi[k]?=some y:=hy
   obtain⟨f1,g1,f2,g2,rfl,hp3,hp4⟩:=splitk_Packet hsy
   have hBy:=hBw y (List.mem_of_getElem? hy)
   refine KW.callN1 U U U U U (cloneM hBy.2.2.2.1 (On.R hp3)) (fun v G1 S8 m8 _ _ hv=>?_)
   obtain⟨b1,e1,rfl,q1⟩:=hv
   refine KW.callN1 U U U U U (cloneM hBy.2.2.2.2 (On.R hp4)) (fun v G2 S9 m9 _ _ hv=>?_)
   obtain⟨b2,e2,rfl,q2⟩:=hv
   have p1:=(inferInstance:On (New (n+1) G1.n) G1 S9 G2).st
   have p2:=(inferInstance:On (New G1.n G2.n) G2 S9 G2).st
   have p79:=(inferInstance:On S7 A7 S9 G2).st
   have q1':M_Int64S.R (New (n+1) G1.n) G2 y.2.2.2.1 _:=M_Int64S.same (fun id p=>(p1 id p).2) q1
   have qS:=mkM_Packet (y:=y) q1' q2 (fun id p r=>by have:=p.2;have:=r.1;omega)
   have big:∀id,(New (n+1) G1.n id∨New G1.n G2.n id)→n≤id:=fun id p=>by rcases p with p | p<;>(have:=p.1;omega)
   have hX:∀id,(New (n+1) G1.n id∨New G1.n G2.n id)→S9 id∧H.n≤id∧¬V7 id:=fun id p=>by
    have hb:=big id p
    refine⟨p.elim (fun p=>(p1 id p).1) (fun p=>(p2 id p).1),by omega,fun v=>?_⟩
    have:=hf3.2 id (l1.sub id v).1
    omega
   have A3:=(l1.up (S':=S9) (A':=G2) (fun id p=>p79 id p)).next hy rfl hX qS
   have st9:St S5 A5 S9 G2:=l2.trans p79
   have l4':∀id,(V7 id∨(New (n+1) G1.n id∨New G1.n G2.n id))→¬S5 id:=fun id p q=>by
    rcases p with p | p
    ·exact l4 id p q
    ·have:=big id p
     have:=hf3.2 id (l2 id q).1
     omega
   refine KW.litS1 U U U U U U U U U U U U ?_
   refine KW.appTS (m:=1) (ys:=[.bool y.1,.int .i64 y.2.1,.int .i64 y.2.2.1,.slice b1 y.2.2.2.1.length e1,.slice b2 y.2.2.2.2.length e2]) 5 U U U U U U U U (by decide) rfl (fun H1 g=>acells_seg (g.blk (j:=7) rfl).1 (by show 0+1*5≤5;decide)) (by show 0+k*5≤cs7.length;omega) rfl (by decide) (by show(k+1)*72≤_;omega) (by show k+1≤_;omega) ?_
   have e9:(cs7.drop 0).take (k*5)++[.bool y.1,.int .i64 y.2.1,.int .i64 y.2.2.1,.slice b1 y.2.2.2.1.length e1,.slice b2 y.2.2.2.2.length e2]=cs7++[.bool y.1,.int .i64 y.2.1,.int .i64 y.2.2.1,.slice b1 y.2.2.2.1.length e1,.slice b2 y.2.2.2.2.length e2]:=by rw[drop0_take kcl]
   refine KW.nxt U U (fun H' g=>⟨⟨k+1,some (G2.n+1),S9,G2,_,_⟩,⟨A3,st9,by simp,l4'⟩,by first | omega | (simp only;omega),⟨rfl,rfl,rfl,rfl,congrArg (Value.int .i64) (inc64 (by omega)),trivial⟩,(g.take 6).castT (show([_,_,_,_,_,(G2.n+1,⟨_,true,_⟩)]:List Var)=[_,_,_,_,_,(G2.n+1,⟨_,true,_⟩)] from T6d e9)⟩)
 have k6:¬(k:Int)<(wi.length:Int):=k6
 obtain rfl:k=wi.length:=by omega
 have hVlt:∀id,V id→id<nA:=fun id p=>by have:=hf.2 id (i1.sub id p).1;omega
 have c7:∀id,S2 id→S7 id∧A7.m id=A2.m id:=fun id p=>(o12.trans (j2.trans l2)) id p
 have cB:∀id,SB2 id→S7 id∧A7.m id=B2.m id:=fun id p=>(j2.trans l2) id p
 have oB:=(inferInstance:On (New nA B1.n) B1 SB2 B2).st bo hb1
 have oC:=(inferInstance:On (New B1.n B2.n) B2 SB2 B2).st no hc1
 cases ob7 with
 | none=>
  have hw0:=l3.1 rfl
  simp only
  refine KW.retM U U U U (fun id hid=>st7 id hid) (fun H1 g=>⟨_,rfl,?_⟩)
  have gv3:=g.vars 3 _ rfl
  have gv4:=g.vars 4 _ rfl
  have d34:o≠o5:=fun e=>by have:=g.dist 3 4 _ _ U U e;omega
  have hn:=g.n_
  have V2:∀id,V id→S7 id∧H1.m id=A2.m id:=fun id p=>⟨(c7 id (i1.sub id p).1).1,(g.froz id (c7 id (i1.sub id p).1).1).2.trans (c7 id (i1.sub id p).1).2⟩
  have V52:∀id,V5 id→S7 id∧H1.m id=A5.m id:=fun id p=>⟨(l2 id (j1.sub id p).1).1,(g.froz id (l2 id (j1.sub id p).1).1).2.trans (l2 id (j1.sub id p).1).2⟩
  have r1:M_SeatS.R (fun id=>id=o∨V id) H1 ss _:=ml1' (i1.ml rfl (.inl rfl) (fun p=>gv3.2.2 (V2 o p).1) (g.blk (j:=3) rfl).1 (fun id p=>⟨.inr p,(V2 id p).2⟩) (Nat.le_refl _))
  have r2:M_Int64SS.R (fun id=>id=o5∨V5 id) H1 got _:=ml1' (j1.ml rfl (.inl rfl) (fun p=>gv4.2.2 (V52 o5 p).1) (g.blk (j:=4) rfl).1 (fun id p=>⟨.inr p,(V52 id p).2⟩) (Nat.le_refl _))
  have hwn:wi=[]:=List.eq_nil_of_length_eq_zero hw0
  subst hwn
  have r5:M_PacketS.R None_ H1 [] [.slice none 0 0]:=ml1' (.inl ⟨rfl,_,_,rfl,fun _=>rfl⟩)
  have r3:M_FlagS.R (fun id=>id=bo) H1 has _:=bool_ml rfl (((g.froz bo (cB bo oB.1).1).2.trans (cB bo oB.1).2).trans (oB.2.trans hb2)) (Nat.le_refl _)
  have r4:M_FlagS.R (fun id=>id=no) H1 named _:=bool_ml rfl (((g.froz no (cB no oC.1).1).2.trans (cB no oC.1).2).trans (oC.2.trans hc2)) (Nat.le_refl _)
  have eb:=hb1.1
  have eb2:=hb1.2
  have ec:=hc1.1
  have ec2:=hc1.2
  have k34:(Kn.mp M_FlagS M_FlagS).R (fun id=>id=bo∨id=no) H1 (has,named) _:=mpR r3 r4 (fun _ p=>.inl p) (fun _ p=>.inr p) (fun id p q=>by have e1:id=bo:=p;have e2:id=no:=q;omega)
  have k234:(Kn.mp M_Int64SS (Kn.mp M_FlagS M_FlagS)).R (fun id=>(id=o5∨V5 id)∨(id=bo∨id=no)) H1 (got,has,named) _:=mpR r2 k34 (fun _ p=>.inl p) (fun _ p=>.inr p) (fun id p q=>by
   rcases p with p | p
   ·rcases q with q | q
    ·exact gv4.2.2 (by rw[← p,q];exact(cB bo oB.1).1)
    ·exact gv4.2.2 (by rw[← p,q];exact(cB no oC.1).1)
   ·have:=(j1.sub id p).2
    rcases q with q | q<;>omega)
  have kO:M_Opener.R (fun id=>(id=o5∨V5 id)∨(id=bo∨id=no)) H1 (oe,got,has,named) _:=mpR (X:=None_) (show KI.R None_ H1 _ [.int .i64 oe] from rfl) k234 (fun _ p=>p.elim) (fun _ p=>p) (fun _ p _=>p.elim)
  have inO:∀id,((id=o5∨V5 id)∨(id=bo∨id=no))→id=o5∨S5 id:=fun id p=>by
   rcases p with(p | p) | (p | p)
   ·exact .inl p
   ·exact .inr (j1.sub id p).1
   ·exact .inr (by rw[p];exact(j2 bo oB.1).1)
   ·exact .inr (by rw[p];exact(j2 no oC.1).1)
  have kOW:(Kn.mp M_Opener M_PacketS).R (fun id=>((id=o5∨V5 id)∨(id=bo∨id=no))) H1 ((oe,got,has,named),[]) _:=mpR kO r5 (fun _ p=>p) (fun _ p=>p.elim) (fun id p q=>q.elim)
  have kS:(Kn.mp M_SeatS (Kn.mp M_Opener M_PacketS)).R (fun id=>(id=o∨V id)∨((id=o5∨V5 id)∨(id=bo∨id=no))) H1 (ss,(oe,got,has,named),[]) _:=mpR r1 kOW (fun _ p=>.inl p) (fun _ p=>.inr p) (fun id p q=>by
   rcases p with p | p
   ·rcases inO id q with q | q
    ·exact d34 (p.symm.trans q)
    ·exact gv3.2.2 (by have:=(l2 id q).1;rw[p] at this;exact this)
   ·have hv:=hVlt id p
    rcases q with q | q
    ·rcases q with q | q
     ·exact gv4.2.2 (by have:=(V2 id p).1;rw[q] at this;exact this)
     ·have:=(j1.sub id q).2;omega
    ·rcases q with q | q<;>omega)
  have kC:M_Ceremony.R _ H1 (ep,ss,(oe,got,has,named),[]) _:=mpR (X:=None_) (show KI.R None_ H1 _ [.int .i64 ep] from rfl) kS (fun _ p=>p.elim) (fun _ p=>p) (fun _ p _=>p.elim)
  have lt7:∀id,S7 id→id<H1.n:=fun id p=>by have:=(g.froz id p).1;omega
  have ge:∀id,¬S7 id→H.n≤id:=fun id p=>Nat.not_lt.1 fun q=>p (st7 id q).1
  have w3:New H.n H1.n o:=⟨ge o gv3.2.2,by rw[hn];exact gv3.2.1⟩
  have w4:New H.n H1.n o5:=⟨ge o5 gv4.2.2,by rw[hn];exact gv4.2.1⟩
  refine(M_Ceremony).more (fun id p=>?_) kC
  rcases p with(p | p) | ((p | p) | (p | p))
  ·rw[p];exact w3
  ·exact⟨(i1.sub id p).2,lt7 id (V2 id p).1⟩
  ·rw[p];exact w4
  ·exact⟨by have:=(j1.sub id p).2;omega,lt7 id (V52 id p).1⟩
  ·rw[p];exact⟨by omega,lt7 bo (cB bo oB.1).1⟩
  ·rw[p];exact⟨by omega,lt7 no (cB no oC.1).1⟩
 | some o7=>
  simp only
  refine KW.retM U U U U (fun id hid=>st7 id hid) (fun H1 g=>⟨_,rfl,?_⟩)
  have gv3:=g.vars 3 _ rfl
  have gv4:=g.vars 4 _ rfl
  have gv5:=g.vars 5 _ rfl
  have d34:o≠o5:=fun e=>by have:=g.dist 3 4 _ _ U U e;omega
  have d35:o≠o7:=fun e=>by have:=g.dist 3 5 _ _ U U e;omega
  have d45:o5≠o7:=fun e=>by have:=g.dist 4 5 _ _ U U e;omega
  have hn:=g.n_
  have V2:∀id,V id→S7 id∧H1.m id=A2.m id:=fun id p=>⟨(c7 id (i1.sub id p).1).1,(g.froz id (c7 id (i1.sub id p).1).1).2.trans (c7 id (i1.sub id p).1).2⟩
  have V52:∀id,V5 id→S7 id∧H1.m id=A5.m id:=fun id p=>⟨(l2 id (j1.sub id p).1).1,(g.froz id (l2 id (j1.sub id p).1).1).2.trans (l2 id (j1.sub id p).1).2⟩
  have V72:∀id,V7 id→S7 id∧H1.m id=A7.m id:=fun id p=>⟨(l1.sub id p).1,(g.froz id (l1.sub id p).1).2⟩
  have r1:M_SeatS.R (fun id=>id=o∨V id) H1 ss _:=ml1' (i1.ml rfl (.inl rfl) (fun p=>gv3.2.2 (V2 o p).1) (g.blk (j:=3) rfl).1 (fun id p=>⟨.inr p,(V2 id p).2⟩) (Nat.le_refl _))
  have r2:M_Int64SS.R (fun id=>id=o5∨V5 id) H1 got _:=ml1' (j1.ml rfl (.inl rfl) (fun p=>gv4.2.2 (V52 o5 p).1) (g.blk (j:=4) rfl).1 (fun id p=>⟨.inr p,(V52 id p).2⟩) (Nat.le_refl _))
  have r5:M_PacketS.R (fun id=>id=o7∨V7 id) H1 wi _:=ml1' (l1.ml rfl (.inl rfl) (fun p=>gv5.2.2 (V72 o7 p).1) (g.blk (j:=5) rfl).1 (fun id p=>⟨.inr p,(V72 id p).2⟩) (Nat.le_refl _))
  have r3:M_FlagS.R (fun id=>id=bo) H1 has _:=bool_ml rfl (((g.froz bo (cB bo oB.1).1).2.trans (cB bo oB.1).2).trans (oB.2.trans hb2)) (Nat.le_refl _)
  have r4:M_FlagS.R (fun id=>id=no) H1 named _:=bool_ml rfl (((g.froz no (cB no oC.1).1).2.trans (cB no oC.1).2).trans (oC.2.trans hc2)) (Nat.le_refl _)
  have eb:=hb1.1
  have eb2:=hb1.2
  have ec:=hc1.1
  have ec2:=hc1.2
  have k34:(Kn.mp M_FlagS M_FlagS).R (fun id=>id=bo∨id=no) H1 (has,named) _:=mpR r3 r4 (fun _ p=>.inl p) (fun _ p=>.inr p) (fun id p q=>by have e1:id=bo:=p;have e2:id=no:=q;omega)
  have k234:(Kn.mp M_Int64SS (Kn.mp M_FlagS M_FlagS)).R (fun id=>(id=o5∨V5 id)∨(id=bo∨id=no)) H1 (got,has,named) _:=mpR r2 k34 (fun _ p=>.inl p) (fun _ p=>.inr p) (fun id p q=>by
   rcases p with p | p
   ·rcases q with q | q
    ·exact gv4.2.2 (by rw[← p,q];exact(cB bo oB.1).1)
    ·exact gv4.2.2 (by rw[← p,q];exact(cB no oC.1).1)
   ·have:=(j1.sub id p).2
    rcases q with q | q<;>omega)
  have kO:M_Opener.R (fun id=>(id=o5∨V5 id)∨(id=bo∨id=no)) H1 (oe,got,has,named) _:=mpR (X:=None_) (show KI.R None_ H1 _ [.int .i64 oe] from rfl) k234 (fun _ p=>p.elim) (fun _ p=>p) (fun _ p _=>p.elim)
  have inO:∀id,((id=o5∨V5 id)∨(id=bo∨id=no))→id=o5∨S5 id:=fun id p=>by
   rcases p with(p | p) | (p | p)
   ·exact .inl p
   ·exact .inr (j1.sub id p).1
   ·exact .inr (by rw[p];exact(j2 bo oB.1).1)
   ·exact .inr (by rw[p];exact(j2 no oC.1).1)
  have kOW:(Kn.mp M_Opener M_PacketS).R (fun id=>((id=o5∨V5 id)∨(id=bo∨id=no))∨(id=o7∨V7 id)) H1 ((oe,got,has,named),wi) _:=mpR kO r5 (fun _ p=>.inl p) (fun _ p=>.inr p) (fun id p q=>by
   rcases inO id p with p | p<;>rcases q with q | q
   ·exact d45 (p.symm.trans q)
   ·exact gv4.2.2 (by have:=(V72 id q).1;rw[p] at this;exact this)
   ·exact gv5.2.2 (by have:=(l2 id p).1;rw[q] at this;exact this)
   ·exact l4 id q p)
  have kS:(Kn.mp M_SeatS (Kn.mp M_Opener M_PacketS)).R (fun id=>(id=o∨V id)∨(((id=o5∨V5 id)∨(id=bo∨id=no))∨(id=o7∨V7 id))) H1 (ss,(oe,got,has,named),wi) _:=mpR r1 kOW (fun _ p=>.inl p) (fun _ p=>.inr p) (fun id p q=>by
   rcases p with p | p
   ·rcases q with q | q
    ·rcases inO id q with q | q
     ·exact d34 (p.symm.trans q)
     ·exact gv3.2.2 (by have:=(l2 id q).1;rw[p] at this;exact this)
    ·rcases q with q | q
     ·exact d35 (p.symm.trans q)
     ·exact gv3.2.2 (by have:=(V72 id q).1;rw[p] at this;exact this)
   ·have hv:=hVlt id p
    rcases q with(q | q) | q
    ·rcases q with q | q
     ·exact gv4.2.2 (by have:=(V2 id p).1;rw[q] at this;exact this)
     ·have:=(j1.sub id q).2;omega
    ·rcases q with q | q<;>omega
    ·rcases q with q | q
     ·exact gv5.2.2 (by have:=(V2 id p).1;rw[q] at this;exact this)
     ·exact l4 id q (j2 id (o12 id (i1.sub id p).1).1).1)
  have kC:M_Ceremony.R _ H1 (ep,ss,(oe,got,has,named),wi) _:=mpR (X:=None_) (show KI.R None_ H1 _ [.int .i64 ep] from rfl) kS (fun _ p=>p.elim) (fun _ p=>p) (fun _ p _=>p.elim)
  have lt7:∀id,S7 id→id<H1.n:=fun id p=>by have:=(g.froz id p).1;omega
  have ge:∀id,¬S7 id→H.n≤id:=fun id p=>Nat.not_lt.1 fun q=>p (st7 id q).1
  have w3:New H.n H1.n o:=⟨ge o gv3.2.2,by rw[hn];exact gv3.2.1⟩
  have w4:New H.n H1.n o5:=⟨ge o5 gv4.2.2,by rw[hn];exact gv4.2.1⟩
  have w5:New H.n H1.n o7:=⟨ge o7 gv5.2.2,by rw[hn];exact gv5.2.1⟩
  refine(M_Ceremony).more (fun id p=>?_) kC
  rcases p with(p | p) | ((p | p) | (p | p)) | (p | p)
  ·rw[p];exact w3
  ·exact⟨(i1.sub id p).2,lt7 id (V2 id p).1⟩
  ·rw[p];exact w4
  ·exact⟨by have:=(j1.sub id p).2;omega,lt7 id (V52 id p).1⟩
  ·rw[p];exact⟨by omega,lt7 bo (cB bo oB.1).1⟩
  ·rw[p];exact⟨by omega,lt7 no (cB no oC.1).1⟩
  ·rw[p];exact w5
  ·exact⟨(l1.sub id p).2,lt7 id (V72 id p).1⟩
end
theorem cerZ_M {S:Ids} {A:AH}:M_Ceremony.R S A cerZ [.int .i64 0,.slice none 0 0,.int .i64 0,.slice none 0 0,.slice none 0 0,.slice none 0 0,.slice none 0 0]:=by
 have z:∀{α:Type} {d:Kn α},d.ml.R None_ A [] [.slice none 0 0]:=fun {α d}=>ml1' (.inl ⟨rfl,none,0,rfl,fun _=>rfl⟩)
 have n:∀id:Nat,None_ id→S id:=fun _ p=>p.elim
 have nn:∀id:Nat,None_ id→None_ id:=fun _ p=>p
 have dd:∀id:Nat,None_ id→None_ id→False:=fun _ p _=>p.elim
 have kO:M_Opener.R None_ A (0,[],[],[]) _:=mpR (X:=None_) (show KI.R None_ A 0 [.int .i64 0] from rfl) (mpR z (mpR z z nn nn dd) nn nn dd) nn nn dd
 exact mpR (X:=None_) (show KI.R None_ A 0 [.int .i64 0] from rfl) (mpR z (mpR kO z nn nn dd) nn nn dd) n n dd
theorem sum_each {α:Type} {f:α→Nat} {M:Nat}:∀l:List α,(∀y∈l,f y≤M)→sum (l.map f)≤l.length*M
 | [],_=>by simp[sum]
 | a :: l,h=>by
  have h1:=h a List.mem_cons_self
  have h2:=sum_each l (fun y hy=>h y (List.mem_cons_of_mem _ hy))
  simp only[List.map_cons,sum,List.length_cons,Nat.succ_mul]
  omega
theorem epI {x:T_Deal} {e:Int} (hd:DealOk x) (h:e=-1∨EpOk x e):I64 e:=by
 have:=hd.bl
 rcases h with h | ⟨h1,h2⟩
 ·rw[h];exact⟨by decide,by decide⟩
 ·exact⟨by omega,by omega⟩
theorem own20 {x:T_Deal} (hd:DealOk x) (j:Int):(rowsOf x.1.2.1 j).length≤20:=by
 have h1:=rowsOf_len x.1.2.1 j
 have h2:=hd.sch.len
 have h3:=hd.sch.mat.len
 omega
theorem purse20 {x:T_Deal} {j:Int} {p:T_Purse} (hd:DealOk x) (h:PuOk x j p):B_Purse p∧sz_Purse p≤40:=by
 obtain⟨e,v,t⟩:=p
 have h20:=own20 hd j
 rcases h with⟨h1,h2,h3⟩ | ⟨h1,h2⟩
 ·simp only at h1 h2 h3
  subst h1;subst h2;subst h3
  exact⟨⟨⟨by decide,by decide⟩,by show(0:Nat)≤_;decide,by show(0:Nat)≤_;decide⟩,by decide⟩
 ·have h3:=h2.vl
  have h4:=h2.tl
  simp only at h3 h4
  refine⟨⟨epI hd (.inr h1),?_,?_⟩,?_⟩
  ·show v.length≤_;omega
  ·show t.length≤_;omega
  ·show v.length+t.length≤_;omega
theorem CerOk.bound {x:T_Deal} {c:Cer} (hd:DealOk x) (h:CerOk x c):B_Ceremony (toCer c)∧c.seats.length≤7:=by
 have h7:=hd.sch.h7
 have hp:=hd.prime.2
 have hsl:=h.sl
 have h1:=h.gl
 have h2:=h.hl
 have h3:=h.nl
 have s7:c.seats.length≤7:=by omega
 have hse:∀y∈c.seats,B_Seat y∧szE_Seat y≤100:=fun y hy=>by
  obtain⟨j,hj⟩:=List.mem_iff_getElem?.1 hy
  have ok:=h.se j y hj
  obtain⟨p1,p2⟩:=purse20 hd ok.pu
  obtain⟨q1,q2⟩:=purse20 hd ok.sa
  have l:=ok.lie
  refine⟨⟨p1,q1,⟨by omega,by omega⟩⟩,?_⟩
  simp only[sz_Purse] at p2 q2
  simp only[szE_Seat]
  omega
 have hpk:∀y∈c.wire,B_Packet y∧szE_Packet y≤100:=fun y hy=>by
  have ok:=h.wi y hy
  have h20:=own20 hd y.2.1
  have a1:=ok.rw.vl
  have a2:=ok.rw.tl
  have a3:=ok.ho.1
  have a4:=ok.ho.2
  have v1:y.2.2.2.1.length≤20:=by omega
  have v2:y.2.2.2.2.length≤20:=by omega
  refine⟨⟨trivial,⟨by omega,by omega⟩,epI hd (.inr ok.ep),?_,?_⟩,?_⟩
  ·show _≤_;omega
  ·show _≤_;omega
  ·simp only[szE_Packet,sz_Int64S];omega
 have hgo:∀g∈c.got,g.length≤20:=fun g hg=>by
  obtain⟨j,hj⟩:=List.mem_iff_getElem?.1 hg
  have h20:=own20 hd j
  rcases h.go j g hj with⟨e,_⟩ | ⟨e,_⟩
  ·rw[e];exact Nat.zero_le _
  ·omega
 have b1:=sum_each c.seats (fun y hy=>(hse y hy).2)
 have b2:=sum_each c.wire (fun y hy=>(hpk y hy).2)
 have b3:=sum_each c.got hgo
 have w12:=h.wl
 have fl:∀l:List Bool,l.length=c.seats.length→B_FlagS l:=fun l hl=>by
  refine⟨by omega,fun _ _=>trivial,?_⟩
  have:=sum_each (f:=szE_Flag) (M:=1) l (fun _ _=>Nat.le_refl _)
  omega
 refine⟨⟨epI hd (.inr h.ep),⟨by show c.seats.length≤_;omega,fun y hy=>(hse y hy).1,?_⟩,⟨epI hd h.oe,⟨by show c.got.length≤_;omega,?_⟩,fl _ h2,fl _ h3⟩,⟨by show c.wire.length≤_;omega,fun y hy=>(hpk y hy).1,?_⟩⟩,s7⟩
 ·show sum (c.seats.map szE_Seat)≤_;omega
 ·show sum (c.got.map List.length)≤_;omega
 ·show sum (c.wire.map szE_Packet)≤_;omega
section
variable {S:Ids} {H0:AH} {x:T_Deal} {ds:T_DeedS} {dcs:List Value}
theorem impl_CeremonyAfter {a c} (hB:B_Deal x) (hBd:B_DeedS ds) (hD:K_Deal.R S H0 x dcs) (hs:K_DeedS.R S H0 ds [.slice a ds.length c]):SpecM Tryz.prog S H0 13 [.agg dcs.toArray,.slice a ds.length c] (fun n v H1=>∃cs:List Value,v=.tuple #[.agg cs.toArray,.int .i64 (r1_CeremonyAfter x ds),.int .i64 (r2_CeremonyAfter x ds)]∧M_Ceremony.R (New n H1.n) H1 (r0_CeremonyAfter x ds) cs):=by
 have hs:=sl1 hs
 obtain⟨d1,d2,d3,d4,d5,d6,d7,d8,rfl⟩:=form_Deal hD
 refine SpecM.of1 Tryz.func13 rfl (by kernel_rfl) rfl (fun H _=>?_)
 have hD0:K_Deal.R (Low H.n) H x _:=On.R hD
 have hs0:=hs.up (S':=Low H.n) (H':=H)
 refine KW.callE U U U U U (deedsCode hB hBd.len hD0 hs0) (fun _ _=>?_)
 unfold r0_CeremonyAfter r1_CeremonyAfter r2_CeremonyAfter
 refine KW.cndB U U (fun k1=>?_) (fun k1=>?_)
 ·have k1:givenC x ds≠0:=by simpa using k1
  rw[if_neg k1,if_neg k1]
  refine KW.build U U U U U (built_Cer0) ?_
  refine KW.retM1 U U U U (fun H1 g=>⟨_,rfl,cerZ_M⟩)
 have k1:givenC x ds=0:=by simpa using k1
 rw[if_pos k1,if_pos k1,k1]
 obtain⟨hd,hdp,h400⟩:=given0 k1
 have ok:=behind_ok hd hdp
 obtain⟨hBc,h7⟩:=ok.bound hd
 refine KW.fact (fun _ g=>g.nle (H1:=H)) (fun hn0=>?_)
 refine KW.callN1 U U U U U (implAfter hd hdp h400 hB hD0 hs0) (fun v H1 S1 m1 _ _ hv=>?_)
 obtain⟨d,X,rfl,hh⟩:=hv
 have hh1:=hh.on (S':=S1) (A':=H1)
 obtain⟨ks,hks⟩:∃ks,codes x (cer0 x.1.1.toNat) ds=ks:=⟨_,rfl⟩
 rw[hks]
 obtain⟨cb,hcb⟩:∃cb,behind x ds=cb:=⟨_,rfl⟩
 have hcp:play x (cer0 x.1.1.toNat) ds=cb:=hcb
 rw[hcp] at hh1
 rw[hcb] at ok hBc h7 ⊢
 have hha:=hh1.hall
 have hSe:=hh1.seatSl
 have hWi:=hh1.wireSl
 obtain⟨g0,gcs,g1,g2,g3⟩:=hh1.got
 have hGo:KI.sl.Sl S1 H1 (.slice (some ⟨d.gid,0,some 1⟩) cb.got.length cb.got.length) cb.got:=Cl.sl g3 g0 g1 rfl hh1.sx (Nat.le_refl _)
 have hHa:=hh1.has
 have hNa:=hh1.named
 have hwi:=hh1.wire
 have h1s:=hd.sch.h1
 have hsl:=ok.sl
 have hgl:=ok.gl
 have hhl:=ok.hl
 have hnl:=ok.nl
 obtain⟨hid,sid,gid,bid,nid,w⟩:=d
 obtain⟨aw,cw,hwv⟩:∃aw cw,HD.wv ⟨hid,sid,gid,bid,nid,w⟩ cb.wire.length=.slice aw cb.wire.length cw:=by
  cases w with
  | none=>
   have e:cb.wire=[]:=hwi
   rw[e]
   exact⟨none,0,rfl⟩
  | some iq=>exact⟨_,_,rfl⟩
 have hha2:H1.m hid=some ⟨HTI.h,true,[.int .i64 cb.ep,.slice (some ⟨sid,0,some 7⟩) cb.seats.length cb.seats.length,.int .i64 cb.oe,.slice (some ⟨gid,0,some 1⟩) cb.got.length cb.got.length,.slice (some ⟨bid,0,some 1⟩) cb.has.length cb.has.length,.slice (some ⟨nid,0,some 1⟩) cb.named.length cb.named.length,.slice aw cb.wire.length cw]++[.int .i64 x.1.1,.slice d1 x.1.2.1.length d2,.int .i64 x.1.2.2.1,.int .i64 x.1.2.2.2.1,.slice d3 x.1.2.2.2.2.length d4,.int .i64 x.2.1,.slice d5 x.2.2.1.length d6,.slice d7 x.2.2.2.length d8]⟩:=by
  have h:=hha.2
  simp only[HD.cells,hwv] at h
  exact h
 rw[hwv] at hWi
 refine KW.ldP hha.1 hha2 U U U U U (bload_seg (ps:=[.int .i64 cb.ep,.slice (some ⟨sid,0,some 7⟩) cb.seats.length cb.seats.length,.int .i64 cb.oe,.slice (some ⟨gid,0,some 1⟩) cb.got.length cb.got.length,.slice (some ⟨bid,0,some 1⟩) cb.has.length cb.has.length,.slice (some ⟨nid,0,some 1⟩) cb.named.length cb.named.length,.slice aw cb.wire.length cw]) U U U (by show 0+7≤15;decide) rfl) ?_
 have hBs:=hBc.2.1.each
 have hBw:=hBc.2.2.2.each
 have hBg:=hBc.2.2.1.2.1.each
 have w12:=ok.wl
 refine KW.callN1 U U U U U (copied (x:=toCer cb) hBs hBw h7 (by show 0<cb.seats.length;omega) (by show 0<cb.got.length;omega) hBg (by show cb.got.length≤7;omega) (by show cb.has.length≤7;omega) (by show cb.named.length≤7;omega) (by show cb.wire.length≤12;omega) hSe hGo hHa hNa hWi) (fun v H2 S2 m2 _ _ hv=>?_)
 obtain⟨cs2,rfl,hM⟩:=hv
 obtain⟨f1,e1,f2,e2,f3,e3,f4,e4,f5,e5,rfl⟩:=formM_Ceremony hM
 refine KW.retM1 U U U U (fun H1 g=>⟨_,rfl,(M_Ceremony).more (g.inn (H:=H2) (fun _ p=>by have:=p.1;omega)) (g.keep hM)⟩)
end
end Go.Proofs.YtlapbbffoapleaaGreat.Am
namespace Go.Proofs.YtlapbbffoapleaaGreat.Am
open Go Go.RowKit Go.Proofs Go.Proofs.YtlapbbffoapleaaGreat.Pl
theorem rowsP_in {q:Nat→Bool} {n:Nat} {x:Int}:x∈rowsP q n↔0≤x∧x<n∧q x.toNat=true:=by
 unfold rowsP
 constructor
 ·intro hx
  obtain⟨i,hi,rfl⟩:=List.mem_map.1 hx
  obtain⟨h1,h2⟩:=List.mem_filter.1 hi
  have:=List.mem_range.1 h1
  exact⟨by omega,by omega,by simpa using h2⟩
 ·rintro ⟨h0,h1,h2⟩
  exact List.mem_map.2 ⟨x.toNat,List.mem_filter.2 ⟨List.mem_range.2 (by omega),h2⟩,by omega⟩
theorem lie_zero {p:Int} {vals:List Int} (h:Elems p vals):lieOf p vals 0=vals:=by
 cases vals with
 | nil=>rfl
 | cons v vs=>
  have:=h v (List.mem_cons_self ..)
  show((v+0)%p) :: vs=_
  rw[Int.add_zero,Int.emod_eq_of_lt this.1 (by omega)]
theorem pass_in {x:T_Deal} {e j l:Int} {n:Nat} (hl:0≤l∧l<n):l∈passN x e j n↔tagsD x e j (lieOf x.1.2.2.1 (valsD x e j) l)=tagsD x e j (valsD x e j):=by
 have e1:((l.toNat:Nat):Int)=l:=by omega
 unfold passN
 rw[rowsP_in]
 constructor
 ·rintro ⟨_,_,h⟩
  have h:=tv_iff.1 h
  rw[e1] at h
  exact h
 ·intro h
  refine⟨hl.1,hl.2,tv_true ?_⟩
  rw[e1]
  exact h
section
variable {S:Ids} {H0:AH}
end
end Go.Proofs.YtlapbbffoapleaaGreat.Am
namespace Go.Proofs.YtlapbbffoapleaaGreat.Am
open Go Go.RowKit Go.Proofs
section
variable {S:Ids} {H0:AH}
theorem samePurse {x:T_Purse} {a1 c1 a2 c2 b1 d1 b2 d2} (hv:x.2.1.length≤1048576) (ht:x.2.2.length≤1048576) (h1:KI.Sl S H0 (.slice a1 x.2.1.length c1) x.2.1) (h2:KI.Sl S H0 (.slice a2 x.2.2.length c2) x.2.2) (k1:KI.Sl S H0 (.slice b1 x.2.1.length d1) x.2.1) (k2:KI.Sl S H0 (.slice b2 x.2.2.length d2) x.2.2):
  Spec Tryz.prog S H0 14 [.agg #[.int .i64 x.1,.slice a1 x.2.1.length c1,.slice a2 x.2.2.length c2],.agg #[.int .i64 x.1,.slice b1 x.2.1.length d1,.slice b2 x.2.2.length d2]] (fun v=>v=.bool true):=by
 refine Spec.of1 Tryz.func14 rfl (by kernel_rfl) rfl (fun H _=>?_)
 refine KW.tT U U (by simp) ?_
 refine KW.callE U U U U U (l00Same hv h1.up k1.up) (fun _ _=>?_)
 rw[tv_true (rfl:x.2.1=x.2.1)]
 refine KW.tT U U (by first | (simp;done) | decide) ?_
 refine KW.callE U U U U U (l00Same ht h2.up k2.up) (fun _ _=>?_)
 rw[tv_true (rfl:x.2.2=x.2.2)]
 exact KW.ret U U U U (rfl)
end
abbrev W_B (x:List Int):Prop:=x.length≤9223372036854775807∧∀y∈x,0≤y∧y<256
abbrev K_B:Kn (List Int):=KB.sl
section
variable {S:Ids} {H0:AH}
theorem a2Long {p0 p1:Option Addr} {n0 n1 q0 q1:Nat}:Spec Tryz.prog S H0 7 [.slice p0 n0 q0,.slice p1 n1 q1] (fun v=>∃b:Bool,v=.bool b∧(b=false→n0≤3000∧n1≤3000)):=by
 refine Spec.of1 Tryz.func7 rfl (by kernel_rfl) rfl (fun H _=>?_)
 refine KW.tst U U (fun h=>?_) (fun h=>?_)
 ·refine KW.ret U U U U ?_
  exact⟨_,rfl,fun h2=>by cases h2⟩
 ·have h:¬(n0:Int)>3000:=h
  refine KW.ret U U U U ?_
  exact⟨_,rfl,fun h2=>by have h2:decide ((n1:Int)>3000)=false:=h2;simp at h2;omega⟩
end
theorem sum_bound {l:List Nat} {b:Nat} (h:∀x∈l,x≤b):sum l≤l.length*b:=by
 induction l with
 | nil=>simp[sum]
 | cons x l ih=>
  have h1:=h x (List.mem_cons_self ..)
  have h2:=ih (fun y hy=>h y (List.mem_cons_of_mem _ hy))
  simp only[sum,List.length_cons,Nat.succ_mul]
  omega
theorem sml_small {L:List (List Int)} (hl:L.length≤1000) (h:∀r∈L,r.length≤1000):B_Int64SS L:=by
 refine⟨by omega,?_⟩
 have h1:=sum_bound (l:=lens L) (b:=1000) (fun x hx=>by
  obtain⟨r,hr,rfl⟩:=List.mem_map.1 hx
  exact h r hr)
 have h2:(lens L).length=L.length:=by simp[lens]
 have h3:(lens L).length*1000≤1000*1000:=Nat.mul_le_mul_right _ (by omega)
 omega
theorem deal_small {x:T_Deal} (hd:DealOk x):B_Deal x:=by
 have hk:=hd.sch
 have h1:=hk.h1
 have h7:=hk.h7
 have hl:=hk.mat.len
 have hol:=hk.len
 have hp1:=hk.mat.pr.1
 have hp2:=hk.mat.pr.2.1
 have hc1:=hk.c1
 have hc2:=hk.mat.c1
 have hb:=hd.bl
 have hkl:=hd.kl
 have hs:=hd.sec
 have hkeys:∀y∈x.2.2.2,y.length≤20∧∀r∈y,r.length≤2:=fun y hy=>by
  obtain⟨i,hi⟩:=List.getElem?_of_mem hy
  have hlt:=(List.getElem?_eq_some_iff.1 hi).1
  have h:=(hd.bk i _ y (List.getElem?_eq_getElem (by omega)) hi).2
  exact⟨by have:=h.1;omega,fun r hr=>by have:=(h.2 r hr).1;omega⟩
 refine⟨⟨⟨by omega,by omega⟩,by show x.1.2.1.length≤_;omega,⟨by omega,by omega⟩,⟨by omega,by omega⟩,sml_small (by omega) (fun r hr=>by have:=(hk.mat.row r hr).1;omega)⟩,⟨by omega,by omega⟩,sml_small (by omega) (fun r hr=>by
  obtain⟨i,hi⟩:=List.getElem?_of_mem hr
  have hlt:=(List.getElem?_eq_some_iff.1 hi).1
  have h:=(hd.bk i r _ hi (List.getElem?_eq_getElem (by omega))).1.1
  omega),⟨by omega,fun y hy=>sml_small (by have:=(hkeys y hy).1;omega) (fun r hr=>by have:=(hkeys y hy).2 r hr;omega),?_⟩⟩
 have h3:=sum_bound (l:=x.2.2.2.map sz_Int64SS) (b:=1000) (fun z hz=>by
  obtain⟨y,hy,rfl⟩:=List.mem_map.1 hz
  have h4:=sum_bound (l:=lens y) (b:=2) (fun w hw=>by
   obtain⟨r,hr,rfl⟩:=List.mem_map.1 hw
   exact(hkeys y hy).2 r hr)
  have h5:(lens y).length=y.length:=by simp[lens]
  have h6:=(hkeys y hy).1
  show sum (lens y)≤1000
  omega)
 rw[List.length_map] at h3
 omega
def CerIn (c:Cer) (S:Ids) (H:AH) (cs:List Value):Prop:=∃(a1 a2 a3 a4 a5:Option Addr) (c1 c2 c3 c4 c5:Nat),cs=[.int .i64 c.ep,.slice a1 c.seats.length c1,.int .i64 c.oe,.slice a2 c.got.length c2,.slice a3 c.has.length c3,.slice a4 c.named.length c4,.slice a5 c.wire.length c5]∧K_Seat.Sl S H (.slice a1 c.seats.length c1) c.seats∧KI.sl.Sl S H (.slice a2 c.got.length c2) c.got∧KBo.Sl S H (.slice a3 c.has.length c3) c.has∧KBo.Sl S H (.slice a4 c.named.length c4) c.named∧K_Packet.Sl S H (.slice a5 c.wire.length c5) c.wire
section
variable {S:Ids} {H0:AH} {x:T_Deal} {ds:List T_Deed} {dcs:List Value}
theorem given_ok (hd:DealOk x) (hdp:∀d∈ds,DeedP d) (h400:ds.length≤400):givenC x ds=0:=by
 unfold givenC
 rw[if_pos (tv_true ⟨hd,hdp⟩),if_neg (by omega)]
theorem cerAfter {a c} (hd:DealOk x) (hdp:∀d∈ds,DeedP d) (h400:ds.length≤400) (hD:K_Deal.R S H0 x dcs) (hs:K_Deed.Sl S H0 (.slice a ds.length c) ds):SpecM Tryz.prog S H0 13 [.agg dcs.toArray,.slice a ds.length c] (fun n v H1=>∃cs:List Value,v=.tuple #[.agg cs.toArray,.int .i64 (doneC (codes x (cer0 x.1.1.toNat) ds):Nat),.int .i64 0]∧CerIn (play x (cer0 x.1.1.toNat) ds) (New n H1.n) H1 cs):=by
 have hg:=given_ok hd hdp h400
 have h:=impl_CeremonyAfter (S:=S) (H0:=H0) (x:=x) (ds:=ds) (dcs:=dcs) (a:=a) (c:=c) (deal_small hd) ⟨by omega,fun d hdm=>by have:=hdp d hdm;exact⟨⟨by have:=this.1;omega,by have:=this.1;omega⟩,⟨by have:=this.2.1;omega,by have:=this.2.1;omega⟩,⟨by have:=this.2.2.1;omega,by have:=this.2.2.1;omega⟩⟩,by have h0:=sum_bound (l:=ds.map szE_Deed) (b:=3) (fun z hz=>(by obtain⟨d,_,rfl⟩:=List.mem_map.1 hz;exact Nat.le_refl 3));rw[List.length_map] at h0;omega⟩ hD (sl1' hs)
 unfold r0_CeremonyAfter r1_CeremonyAfter r2_CeremonyAfter at h
 rw[hg,if_pos rfl,if_pos rfl] at h
 intro H hf hz
 obtain⟨m,v,H1,k1,k2,k3,cs,hv,hR⟩:=h H hf hz
 refine⟨m,v,H1,k1,k2,k3,cs,hv,?_⟩
 obtain⟨a1,c1,a2,c2,a3,c3,a4,c4,a5,c5,rfl,s1,s2,s3⟩:=split_Ceremony (le_Ceremony.2 _ _ _ _ hR)
 obtain⟨b1,d1,b2,d2,b3,d3,e,t1,t2,t3⟩:=split_Opener s2
 simp only[List.cons.injEq,Value.slice.injEq,and_true,true_and] at e
 obtain⟨⟨rfl,rfl⟩,⟨rfl,rfl⟩,rfl,rfl⟩:=e
 exact⟨_,_,_,_,_,_,_,_,_,_,rfl,sl1 s1,sl1 t1,sl1 t2,sl1 t3,sl1 s3⟩
end
theorem Spec.of1L (Z:List Nat) {P:Program} {S:Ids} {H0:AH} {f:FuncId} {fn:Func} {c:Code} {args:List Value} {post:Value→Prop} (hf:P.funcs[f]?=some fn) (hb:fn.body=some c) (hok:fnOk fn=true) (hst:stC (relab Z c)=true) (hs:Nat.ble args.length fn.ntmps=true)
  (h:∀H,Stp S H0 (Low H.n) H→KW P (Low H.n) H (Fin1 P fn (fun v H1=>Ext H H1∧Fin' H1∧post v)) H.n [] [.code (relab Z c)] (fun t=>args.getD t undef)):Spec P S H0 f args post:=by
 intro H hfin hfz
 refine Run.of hf hb hok (by simpa using Nat.le_of_ble_eq_true hs) ?_
 rw[envL_eq]
 exact((h H ⟨fun id hid=>hfz id hid⟩).wc hst (Good.start hfin)).relab
section
variable {P:Program} {S:Ids} {H0:AH} {Q:PostC} {k k1:List It} {e e1:Env} {T T1:List Var} {n n1:Nat} {l1 r1:List Nat} {d1:Tmp}
end
theorem bload_has {P:Program} {b:Blk} {t:TypeId} {k:Nat} {fs:Array Field} {inf:TypeInfo} {ps:List Value} (hu:P.underlying t=some (.struct fs)) (hi:P.info? t=some inf) (hs:inf.size=ps.length) (h0:0<ps.length) (hc:∀i v,ps[i]?=some v→b.cells[k+i]?=some v):bload P b t k=some (.agg ps.toArray):=by
 unfold bload
 simp only[hu,hi,hs]
 have hlen:k+ps.length≤b.cells.length:=by
  have h1:=hc (ps.length-1) _ (List.getElem?_eq_getElem (show ps.length-1<ps.length by omega))
  have:=(List.getElem?_eq_some_iff.1 h1).1
  omega
 rw[if_pos hlen]
 have e:(b.cells.drop k).take ps.length=ps:=by
  refine List.ext_getElem? fun i=>?_
  rw[List.getElem?_take]
  split
  ·rename_i h
   rw[List.getElem?_drop,hc i _ (List.getElem?_eq_getElem h),List.getElem?_eq_getElem h]
  ·rename_i h
   rw[List.getElem?_eq_none (by omega)]
 rw[e]
section
variable {P:Program} {S:Ids} {H0:AH} {Q:PostC} {k k1:List It} {e e1:Env} {T T1:List Var} {n n1:Nat} {l1 r1:List Nat} {d1:Tmp}
theorem KW.ldFs {o:Oper} {dr:Bool} {t:TypeId} {x:Operand} {id kk k0:Nat} {vs:List Value} {sp:Option Nat} {fs:Array Field} {inf:TypeInfo} (i:Nat) (ps:List Value) (hv:Has3 S H0 id k0 vs) (h:Go1 P k e T n (.op o dr) k1 e1 T1 n1 l1 r1) (hlr:l1=r1) (ho:o.op=.load t x) (hd:o.dst=some d1) (hx:ev e1 x=.pointer (some ⟨id,kk,sp⟩)) (hk0:kk=k0+i) (hi:(vs.drop i).take ps.length=ps)
  (hu:P.underlying t=some (.struct fs)) (hif:P.info? t=some inf) (hs:inf.size=ps.length) (h0:0<ps.length) (hk:KW P S H0 Q n1 T1 k1 (put1 e1 d1 (.agg ps.toArray))):KW P S H0 Q n T k e:=by
 obtain⟨hS,b,hm,hc⟩:=hv
 refine KW.ldP hS hm h hlr ho hd hx (bload_has hu hif hs h0 (fun j v hj=>?_)) hk
 rw[hk0,Nat.add_assoc]
 refine hc (i+j) v ?_
 have hj2:((vs.drop i).take ps.length)[j]?=some v:=by rw[hi];exact hj
 rw[List.getElem?_take] at hj2
 split at hj2
 ·rw[List.getElem?_drop] at hj2;exact hj2
 ·cases hj2
end
structure OrdC (c:Cer):Prop where
 oe:c.oe≤c.ep
 se:∀s∈c.seats,s.2.1.1≤s.1.1∧s.1.1≤c.ep
 wi:∀p∈c.wire,p.2.2.1≤c.ep
section
variable {x:T_Deal} {c:Cer}
theorem OrdC.setS (h:OrdC c) {a:Int} {s:T_Seat} (hs:s.2.1.1≤s.1.1∧s.1.1≤c.ep):OrdC (setS c a s):=by
 refine⟨h.oe,fun t ht=>?_,h.wi⟩
 rcases List.mem_or_eq_of_mem_set ht with ht | ht
 ·exact h.se t ht
 ·rw[ht];exact hs
theorem OrdC.send (h:OrdC c) {p:T_Packet} (hp:p.2.2.1≤c.ep):OrdC (send c p).1:=by
 unfold Am.send
 split
 ·exact h
 ·refine⟨h.oe,h.se,fun q hq=>?_⟩
  rcases List.mem_append.1 hq with hq | hq
  ·exact h.wi q hq
  ·rw[List.mem_singleton.1 hq];exact hp
theorem OrdC.drop (h:OrdC c) (i:Nat):OrdC (dropW c i):=⟨h.oe,h.se,fun q hq=>h.wi q (List.mem_of_mem_eraseIdx hq)⟩
theorem OrdC.come (ok:CerOk x c) (h:OrdC c) {p:T_Packet} (hp:PkOk x p) (he:p.2.2.1≤c.ep):OrdC (come x c p):=by
 unfold Am.come
 split
 ·have h1:OrdC (fresh c p.2.2.1):=by
   unfold Am.fresh
   split
   ·exact⟨he,h.se,h.wi⟩
   ·exact h
  unfold comeO
  split
  ·split
   ·exact⟨h1.oe,h1.se,h1.wi⟩
   ·exact⟨h1.oe,h1.se,h1.wi⟩
  ·exact h1
 ·unfold comeS
  split
  ·rename_i hlt
   have hs:=h.se _ (List.mem_of_getElem? (ok.seat hp.ho).1)
   refine⟨h.oe,fun t ht=>?_,h.wi⟩
   rcases List.mem_or_eq_of_mem_set ht with ht | ht
   ·exact h.se t ht
   ·rw[ht]
    show(c.seat p.2.1).2.1.1≤p.2.2.1∧p.2.2.1≤c.ep
    omega
  ·exact h
theorem OrdC.doIt (ok:CerOk x c) (h:OrdC c) {d:T_Deed} (hp:DeedP d):OrdC (doIt x c d).1:=by
 obtain⟨h1,h2,h3,_,_⟩:=hp
 unfold Am.doIt
 split
 ·split
  ·exact h
  ·rename_i hw
   have hpk:=ok.pk h2.1 (by omega)
   have hpe:=h.wi _ (List.mem_of_getElem? hpk.1)
   show OrdC (if d.1=5 then _ else _)
   by_cases h4:d.1=4
   ·rw[if_pos h4,if_neg (by omega)]
    exact h.come ok hpk.2 hpe
   ·rw[if_neg h4]
    split
    ·exact h.drop _
    ·exact(h.drop _).come (ok.drop _) hpk.2 hpe
 split
 ·split
  ·exact h
  ·have:=h.oe
   exact⟨by show c.oe≤c.ep+1;omega,fun s hs=>by have:=h.se s hs;exact⟨this.1,by show s.1.1≤c.ep+1;omega⟩,fun p hp=>by have:=h.wi p hp;show p.2.2.1≤c.ep+1;omega⟩
 split
 ·exact h
 rename_i hr
 have ha:HoOk x d.2.1:=⟨h2.1,by omega⟩
 have hs:=h.se _ (List.mem_of_getElem? (ok.seat ha).1)
 split
 ·exact h.send (Int.le_refl _)
 split
 ·split
  ·exact h
  ·exact h.send hs.2
 split
 ·split
  ·exact h
  ·exact h.setS (s:=((c.seat d.2.1).1,(c.seat d.2.1).2.1,d.2.2)) hs
 split
 ·exact h.setS (s:=((c.seat d.2.1).1,(c.seat d.2.1).1,(c.seat d.2.1).2.2)) ⟨Int.le_refl _,hs.2⟩
 ·exact h.setS (s:=((c.seat d.2.1).2.1,(c.seat d.2.1).2.1,(c.seat d.2.1).2.2)) ⟨Int.le_refl _,by show(c.seat d.2.1).2.1.1≤c.ep;omega⟩
theorem OrdC.start (n:Nat):OrdC (cer0 n):=⟨by show(-1:Int)≤0;omega,fun s hs=>by
 rw[List.eq_of_mem_replicate hs]
 exact⟨Int.le_refl _,by show(-1:Int)≤0;omega⟩,fun p hp=>by cases hp⟩
theorem OrdC.play (hd:DealOk x):∀(ds:List T_Deed) {c:Cer},(∀d∈ds,DeedP d)→CerOk x c→OrdC c→OrdC (play x c ds)
 | [],_,_,_,h=>h
 | d :: ds,c,hp,ok,h=>OrdC.play hd ds (fun e he=>hp e (List.mem_cons_of_mem _ he)) (ok.doIt hd (hp d List.mem_cons_self)) (h.doIt ok (hp d List.mem_cons_self))
theorem getD_set_self {α:Type} {l:List α} {i:Nat} {a d:α} (h:i<l.length):(l.set i a).getD i d=a:=by
 rw[List.getD_eq_getElem?_getD,List.getElem?_set_self h];rfl
end
def Lied (x:T_Deal) (ds:List T_Deed) (h l:Int):Prop:=(6,h,l)∈ds∧0<l∧l<x.1.2.2.1
def TruP (x:T_Deal) (h:Int) (p:T_Purse):Prop:=p.1=-1∨(p.2.1=valsD x p.1 h∧p.2.2=tagsD x p.1 h (valsD x p.1 h))
structure TruK (x:T_Deal) (ds:List T_Deed) (p:T_Packet):Prop where
 tg:p.2.2.2.2=tagsD x p.2.2.1 p.2.1 (valsD x p.2.2.1 p.2.1)
 to:p.1=false→p.2.2.2.1=valsD x p.2.2.1 p.2.1
 bk:p.1=true→∃l,(l=0∨Lied x ds p.2.1 l)∧p.2.2.2.1=lieOf x.1.2.2.1 (valsD x p.2.2.1 p.2.1) l
structure TruC (x:T_Deal) (ds:List T_Deed) (c:Cer):Prop where
 pu:∀h,HoOk x h→TruP x h (c.seat h).1∧TruP x h (c.seat h).2.1
 lie:∀h,HoOk x h→(c.seat h).2.2=0∨Lied x ds h (c.seat h).2.2
 wi:∀p∈c.wire,TruK x ds p
 nm:∀j:Nat,c.named.getD j false=true→∃l,Lied x ds j l
 hs:∀j:Nat,c.has.getD j false=true→∃l,(l=0∨Lied x ds j l)∧c.got.getD j []=lieOf x.1.2.2.1 (valsD x c.oe j) l∧tagsD x c.oe j (lieOf x.1.2.2.1 (valsD x c.oe j) l)=tagsD x c.oe j (valsD x c.oe j)
theorem getD_set_if {α:Type} {l:List α} {i j:Nat} {a d:α} (h:i<l.length):(l.set i a).getD j d=if j=i then a else l.getD j d:=by
 split
 ·rename_i e;subst e;exact getD_set_self h
 ·rename_i e
  rw[List.getD_eq_getElem?_getD,List.getElem?_set_ne (fun e'=>e e'.symm),← List.getD_eq_getElem?_getD]
section
variable {x:T_Deal} {c:Cer} {DS:List T_Deed}
theorem vals_el (hd:DealOk x) (e h:Int):Elems x.1.2.2.1 (valsD x e h):=vals_in hd.prime
theorem seat_set (ok:CerOk x c) {a h:Int} {s:T_Seat} (ha:HoOk x a) (hh:HoOk x h):(setS c a s).seat h=if h=a then s else c.seat h:=by
 have:=ok.sl
 have h1:=ha.1
 have h2:=ha.2
 have h3:=hh.1
 show(c.seats.set a.toNat s).getD h.toNat seat0=_
 rw[getD_set_if (by omega)]
 by_cases e:h=a
 ·rw[if_pos (by rw[e]),if_pos e]
 ·rw[if_neg (by omega),if_neg e]
theorem TruC.setS (ok:CerOk x c) (h:TruC x DS c) {a:Int} (ha:HoOk x a) {s:T_Seat} (hp:TruP x a s.1∧TruP x a s.2.1) (hl:s.2.2=0∨Lied x DS a s.2.2):TruC x DS (setS c a s):=by
 refine⟨fun b hb=>?_,fun b hb=>?_,h.wi,h.nm,h.hs⟩
 ·rw[seat_set ok ha hb]
  split
  ·rename_i e;rw[e];exact hp
  ·exact h.pu b hb
 ·rw[seat_set ok ha hb]
  split
  ·rename_i e;rw[e];exact hl
  ·exact h.lie b hb
theorem TruC.send (h:TruC x DS c) {p:T_Packet} (hp:TruK x DS p):TruC x DS (send c p).1:=by
 unfold Am.send
 split
 ·exact h
 ·refine⟨h.pu,h.lie,fun q hq=>?_,h.nm,h.hs⟩
  rcases List.mem_append.1 hq with hq | hq
  ·exact h.wi q hq
  ·rw[List.mem_singleton.1 hq];exact hp
theorem TruC.drop (h:TruC x DS c) (i:Nat):TruC x DS (dropW c i):=⟨h.pu,h.lie,fun q hq=>h.wi q (List.mem_of_mem_eraseIdx hq),h.nm,h.hs⟩
theorem TruC.fresh (h:TruC x DS c) (e:Int):TruC x DS (fresh c e):=by
 unfold Am.fresh
 split
 ·refine⟨h.pu,h.lie,h.wi,h.nm,fun j hj=>?_⟩
  exfalso
  have hj:(List.replicate c.has.length false).getD j false=true:=hj
  rw[List.getD_eq_getElem?_getD,List.getElem?_replicate] at hj
  split at hj<;>cases hj
 ·exact h
theorem TruC.come (hd:DealOk x) (ok:CerOk x c) (h:TruC x DS c) {p:T_Packet} (hp:PkOk x p) (hk:TruK x DS p):TruC x DS (come x c p):=by
 have h1:=hp.ho.1
 have h2:=hp.ho.2
 have hsl:=ok.sl
 unfold Am.come
 by_cases hb:p.1=true
 ·rw[if_pos hb]
  obtain⟨l,hl,hv⟩:=hk.bk hb
  have okf:CerOk x (Am.fresh c p.2.2.1):=ok.fresh hp.ep
  have hf:=h.fresh p.2.2.1
  obtain⟨f,ef⟩:∃f,Am.fresh c p.2.2.1=f:=⟨_,rfl⟩
  rw[ef] at okf hf ⊢
  have fh:=okf.hl
  have fn:=okf.nl
  have fg:=okf.gl
  have fs:=okf.sl
  unfold Am.comeO
  split
  ·rename_i hc
   split
   ·rename_i ht
    have ht:=tv_iff.1 ht
    refine⟨hf.pu,hf.lie,hf.wi,hf.nm,fun j hj=>?_⟩
    have hj:(f.has.set p.2.1.toNat true).getD j false=true:=hj
    show ∃l,(l=0∨Lied x DS j l)∧(f.got.set p.2.1.toNat p.2.2.2.1).getD j []=lieOf x.1.2.2.1 (valsD x f.oe j) l∧_
    rw[getD_set_if (by omega)] at hj
    rw[getD_set_if (by omega)]
    by_cases e:j=p.2.1.toNat
    ·have ej:(j:Int)=p.2.1:=by omega
     rw[if_pos e,ej,← hc.1]
     exact⟨l,hl,hv,by rw[← hv,ht,hk.tg]⟩
    ·rw[if_neg e] at hj ⊢
     exact hf.hs j hj
   ·rename_i ht
    refine⟨hf.pu,hf.lie,hf.wi,fun j hj=>?_,hf.hs⟩
    have hj:(f.named.set p.2.1.toNat true).getD j false=true:=hj
    rw[getD_set_if (by omega)] at hj
    by_cases e:j=p.2.1.toNat
    ·have ej:(j:Int)=p.2.1:=by omega
     rw[ej]
     rcases hl with hl | hl
     ·exfalso
      refine ht (tv_true ?_)
      rw[hv,hl,lie_zero (vals_el hd _ _),hk.tg]
     ·exact⟨l,hl⟩
    ·rw[if_neg e] at hj
     exact hf.nm j hj
  ·exact hf
 ·rw[if_neg hb]
  have hb:p.1=false:=by simpa using hb
  unfold Am.comeS
  split
  ·have hs:=h.pu p.2.1 hp.ho
   have hli:=h.lie p.2.1 hp.ho
   exact h.setS ok hp.ho (s:=((p.2.2.1,p.2.2.2.1,p.2.2.2.2),(c.seat p.2.1).2)) ⟨.inr ⟨hk.to hb,hk.tg⟩,hs.2⟩ hli
  ·exact h
theorem TruC.doIt (hd:DealOk x) (ok:CerOk x c) (h:TruC x DS c) {d:T_Deed} (hp:DeedP d) (hm:d∈DS):TruC x DS (doIt x c d).1:=by
 obtain⟨h1,h2,h3,_,_⟩:=hp
 unfold Am.doIt
 split
 ·split
  ·exact h
  ·rename_i hw
   have hpk:=ok.pk h2.1 (by omega)
   have hpe:=h.wi _ (List.mem_of_getElem? hpk.1)
   show TruC x DS (if d.1=5 then _ else _)
   by_cases h4:d.1=4
   ·rw[if_pos h4,if_neg (by omega)]
    exact h.come hd ok hpk.2 hpe
   ·rw[if_neg h4]
    split
    ·exact h.drop _
    ·exact(h.drop _).come hd (ok.drop _) hpk.2 hpe
 split
 ·split
  ·exact h
  ·exact⟨h.pu,h.lie,h.wi,h.nm,h.hs⟩
 split
 ·exact h
 rename_i hr
 have ha:HoOk x d.2.1:=⟨h2.1,by omega⟩
 have hs:=h.pu d.2.1 ha
 have hli:=h.lie d.2.1 ha
 split
 ·exact h.send ⟨rfl,fun _=>rfl,fun hh=>by cases hh⟩
 split
 ·split
  ·exact h
  ·rename_i hne
   have hpu:=hs.1.resolve_left hne
   exact h.send ⟨hpu.2,fun hh=>(by cases hh),fun _=>⟨_,hli,by show lieOf _ _ _=_;rw[hpu.1]⟩⟩
 split
 ·rename_i h6
  split
  ·exact h
  ·rename_i hlt
   refine h.setS ok ha (s:=((c.seat d.2.1).1,(c.seat d.2.1).2.1,d.2.2)) hs ?_
   by_cases h0:d.2.2=0
   ·exact .inl h0
   ·refine .inr ⟨?_,by show 0<d.2.2;omega,by show d.2.2<_;omega⟩
    have:d=(6,d.2.1,d.2.2):=by rw[← h6]
    rw[← this];exact hm
 split
 ·exact h.setS ok ha (s:=((c.seat d.2.1).1,(c.seat d.2.1).1,(c.seat d.2.1).2.2)) ⟨hs.1,hs.1⟩ hli
 ·exact h.setS ok ha (s:=((c.seat d.2.1).2.1,(c.seat d.2.1).2.1,(c.seat d.2.1).2.2)) ⟨hs.2,hs.2⟩ hli
theorem TruC.start (n:Nat):TruC x DS (cer0 n):=by
 have hs:∀h:Int,(cer0 n).seat h=seat0:=fun h=>by
  show(List.replicate n seat0).getD h.toNat seat0=seat0
  rw[List.getD_eq_getElem?_getD,List.getElem?_replicate]
  split<;>rfl
 refine⟨fun h _=>by rw[hs];exact⟨.inl rfl,.inl rfl⟩,fun h _=>by rw[hs];exact .inl rfl,fun p hp=>(by cases hp),fun j hj=>?_,fun j hj=>?_⟩
 all_goals
  exfalso
  have hj:(List.replicate n false).getD j false=true:=hj
  rw[List.getD_eq_getElem?_getD,List.getElem?_replicate] at hj
  split at hj<;>cases hj
theorem TruC.play (hd:DealOk x):∀(ds:List T_Deed) {c:Cer},(∀d∈ds,DeedP d∧d∈DS)→CerOk x c→TruC x DS c→TruC x DS (play x c ds)
 | [],_,_,_,h=>h
 | d :: ds,c,hp,ok,h=>TruC.play hd ds (fun e he=>hp e (List.mem_cons_of_mem _ he)) (ok.doIt hd (hp d List.mem_cons_self).1) (h.doIt hd ok (hp d List.mem_cons_self).1 (hp d List.mem_cons_self).2)
end
end Go.Proofs.YtlapbbffoapleaaGreat.Am
