/- Contracts and laws on abstract memory, merged. Each holds under its own conditions. -/
import Derived.Test.YtijmkfnmdhpakaaGreatPOpenAfter03
/- Contracts: the reference's ceremony: a deed is done; both sides: who is not a holder. Each holds under its own conditions. -/
set_option linter.unusedVariables false
set_option linter.unusedSimpArgs false
set_option maxRecDepth 20000
namespace Go.Proofs.YtijmkfnmdhpakaaGreat.Am
open Go Go.RowKit Go.Proofs
section
variable {S : Ids} {H0 : AH} {X D : Ids} {d : HD} {c : Cer} {dcs : List Value} {x : T_Deal}
theorem specDo9 {A B : Int} {did : Nat} (hd : DealOk x) (hB : B_Deal x) (hok : CerOk x c) (h : Hl HTS [.pointer (some ⟨did, 0, none⟩)] [] S H0 X d c) (hD : K_Deal.R D H0 x dcs) (hDv : Has3 D H0 did 0 dcs) (hDD : ∀ id, D id → S id ∧ ¬ d.W id)  :
    SpecW Tryz.prog S H0 d.W 70 [.pointer (some ⟨d.hid, 0, none⟩), .agg [.int .i64 9, .int .i64 A, .int .i64 B].toArray] (HlRes HTS [.pointer (some ⟨did, 0, none⟩)] [] X d (doIt x c (9, A, B))) := by
  refine SpecW.of0 Tryz.func70 rfl (by kernel_rfl) rfl (fun H hfin hfz => ?_)
  haveI o : On S H0 (Low H.n) H := ⟨fun id hs => ⟨(hfz id hs).1, (hfz id hs).2⟩⟩
  have h := h.on (S' := Low H.n) (A' := H)
  have hD : K_Deal.R D H x dcs := K_Deal.same (fun id hid => (hfz id (hDD id hid).1).2) hD
  have hDv : Has3 D H did 0 dcs := by
    obtain ⟨d0, b, d1, d2⟩ := hDv
    exact ⟨d0, b, ((hfz did (hDD did d0).1).2).trans d1, d2⟩
  have hDD : ∀ id, D id → id < H.n ∧ ¬ d.W id := fun id hid => ⟨(hfz id (hDD id hid).1).1, (hDD id hid).2⟩
  have hDL : K_Deal.R (Low H.n) H x dcs := K_Deal.more (fun id p => (hDD id p).1) hD
  have hDvL : Has3 (Low H.n) H did 0 dcs := ⟨(hDD did hDv.1).1, hDv.2⟩
  obtain ⟨d1, d2, d3, d4, d5, d6, d7, d8, rfl⟩ := form_Deal hD
  obtain ⟨hid, sid, gid, bid, nid, w⟩ := d
  have hc := h.cellsH
  have hh := h.hall
  have hsl := hok.sl
  have h7 := hd.sch.h7
  refine KW.cF rfl rfl (by first | (simp; done) | decide) ?_
  refine KW.cF rfl rfl (by first | (simp; done) | decide) ?_
  refine KW.cF rfl rfl (by first | (simp; done) | decide) ?_
  refine KW.cT rfl rfl (by first | (simp; done) | decide) ?_
  refine KW.callW h.w rfl rfl rfl rfl rfl (specRenew hd hB hok h hD hDv hDD A B) (fun v H6 S6 m6 t6 w6 hv => ?_)
  obtain ⟨rfl, hp⟩ := hv
  refine KW.retW rfl rfl rfl rfl (fun H1 g => by have := g.n_; omega) (fun id p hw => ⟨(t6 id p).1, (t6 id p).2 hw⟩) (fun H7 g => ⟨rfl, ?_⟩)
  refine HlPost.lift (HlPost.mem hp (fun id p => (g.froz id ?_).2) (by have := g.n_; omega)) (by omega) (by have := g.n_; omega) rfl (fun id p => .inl p) (fun id p => .inl p)
  rcases p with p | p | p
  · exact (t6 id (h.w id p)).1
  · exact (t6 id (h.sx id p)).1
  · exact w6 id p
theorem specDo3 {A B : Int} {did : Nat} (hd : DealOk x) (hB : B_Deal x) (hok : CerOk x c) (h : Hl HTS [.pointer (some ⟨did, 0, none⟩)] [] S H0 X d c) (hD : K_Deal.R D H0 x dcs) (hDv : Has3 D H0 did 0 dcs) (hDD : ∀ id, D id → S id ∧ ¬ d.W id) (hA0 : 0 ≤ A ∧ A ≤ 999) :
    SpecW Tryz.prog S H0 d.W 70 [.pointer (some ⟨d.hid, 0, none⟩), .agg [.int .i64 3, .int .i64 A, .int .i64 B].toArray] (HlRes HTS [.pointer (some ⟨did, 0, none⟩)] [] X d (doIt x c (3, A, B))) := by
  refine SpecW.of0 Tryz.func70 rfl (by kernel_rfl) rfl (fun H hfin hfz => ?_)
  haveI o : On S H0 (Low H.n) H := ⟨fun id hs => ⟨(hfz id hs).1, (hfz id hs).2⟩⟩
  have h := h.on (S' := Low H.n) (A' := H)
  have hD : K_Deal.R D H x dcs := K_Deal.same (fun id hid => (hfz id (hDD id hid).1).2) hD
  have hDv : Has3 D H did 0 dcs := by
    obtain ⟨d0, b, d1, d2⟩ := hDv
    exact ⟨d0, b, ((hfz did (hDD did d0).1).2).trans d1, d2⟩
  have hDD : ∀ id, D id → id < H.n ∧ ¬ d.W id := fun id hid => ⟨(hfz id (hDD id hid).1).1, (hDD id hid).2⟩
  have hDL : K_Deal.R (Low H.n) H x dcs := K_Deal.more (fun id p => (hDD id p).1) hD
  have hDvL : Has3 (Low H.n) H did 0 dcs := ⟨(hDD did hDv.1).1, hDv.2⟩
  obtain ⟨d1, d2, d3, d4, d5, d6, d7, d8, rfl⟩ := form_Deal hD
  obtain ⟨hid, sid, gid, bid, nid, w⟩ := d
  have hc := h.cellsH
  have hh := h.hall
  have hsl := hok.sl
  have h7 := hd.sch.h7
  refine KW.cT rfl rfl (by first | (simp; done) | decide) ?_
  refine KW.cT rfl rfl (by first | (simp; done) | decide) ?_
  refine KW.callW h.w rfl rfl rfl rfl rfl (specWire3 (A := A) (B := B) hd hB hok h hD hDv hDD hA0) (fun v H6 S6 m6 t6 w6 hv => ?_)
  obtain ⟨rfl, hp⟩ := hv
  refine KW.retW rfl rfl rfl rfl (fun H1 g => by have := g.n_; omega) (fun id p hw => ⟨(t6 id p).1, (t6 id p).2 hw⟩) (fun H7 g => ⟨rfl, ?_⟩)
  refine HlPost.lift (HlPost.mem hp (fun id p => (g.froz id ?_).2) (by have := g.n_; omega)) (by omega) (by have := g.n_; omega) rfl (fun id p => .inl p) (fun id p => .inl p)
  rcases p with p | p | p
  · exact (t6 id (h.w id p)).1
  · exact (t6 id (h.sx id p)).1
  · exact w6 id p
theorem specDo4 {A B : Int} {did : Nat} (hd : DealOk x) (hB : B_Deal x) (hok : CerOk x c) (h : Hl HTS [.pointer (some ⟨did, 0, none⟩)] [] S H0 X d c) (hD : K_Deal.R D H0 x dcs) (hDv : Has3 D H0 did 0 dcs) (hDD : ∀ id, D id → S id ∧ ¬ d.W id) (hA0 : 0 ≤ A ∧ A ≤ 999) :
    SpecW Tryz.prog S H0 d.W 70 [.pointer (some ⟨d.hid, 0, none⟩), .agg [.int .i64 4, .int .i64 A, .int .i64 B].toArray] (HlRes HTS [.pointer (some ⟨did, 0, none⟩)] [] X d (doIt x c (4, A, B))) := by
  refine SpecW.of0 Tryz.func70 rfl (by kernel_rfl) rfl (fun H hfin hfz => ?_)
  haveI o : On S H0 (Low H.n) H := ⟨fun id hs => ⟨(hfz id hs).1, (hfz id hs).2⟩⟩
  have h := h.on (S' := Low H.n) (A' := H)
  have hD : K_Deal.R D H x dcs := K_Deal.same (fun id hid => (hfz id (hDD id hid).1).2) hD
  have hDv : Has3 D H did 0 dcs := by
    obtain ⟨d0, b, d1, d2⟩ := hDv
    exact ⟨d0, b, ((hfz did (hDD did d0).1).2).trans d1, d2⟩
  have hDD : ∀ id, D id → id < H.n ∧ ¬ d.W id := fun id hid => ⟨(hfz id (hDD id hid).1).1, (hDD id hid).2⟩
  have hDL : K_Deal.R (Low H.n) H x dcs := K_Deal.more (fun id p => (hDD id p).1) hD
  have hDvL : Has3 (Low H.n) H did 0 dcs := ⟨(hDD did hDv.1).1, hDv.2⟩
  obtain ⟨d1, d2, d3, d4, d5, d6, d7, d8, rfl⟩ := form_Deal hD
  obtain ⟨hid, sid, gid, bid, nid, w⟩ := d
  have hc := h.cellsH
  have hh := h.hall
  have hsl := hok.sl
  have h7 := hd.sch.h7
  refine KW.cF rfl rfl (by first | (simp; done) | decide) ?_
  refine KW.cT rfl rfl (by first | (simp; done) | decide) ?_
  refine KW.cT rfl rfl (by first | (simp; done) | decide) ?_
  refine KW.callW h.w rfl rfl rfl rfl rfl (specWire4 (A := A) (B := B) hd hB hok h hD hDv hDD hA0) (fun v H6 S6 m6 t6 w6 hv => ?_)
  obtain ⟨rfl, hp⟩ := hv
  refine KW.retW rfl rfl rfl rfl (fun H1 g => by have := g.n_; omega) (fun id p hw => ⟨(t6 id p).1, (t6 id p).2 hw⟩) (fun H7 g => ⟨rfl, ?_⟩)
  refine HlPost.lift (HlPost.mem hp (fun id p => (g.froz id ?_).2) (by have := g.n_; omega)) (by omega) (by have := g.n_; omega) rfl (fun id p => .inl p) (fun id p => .inl p)
  rcases p with p | p | p
  · exact (t6 id (h.w id p)).1
  · exact (t6 id (h.sx id p)).1
  · exact w6 id p
theorem specDo5 {A B : Int} {did : Nat} (hd : DealOk x) (hB : B_Deal x) (hok : CerOk x c) (h : Hl HTS [.pointer (some ⟨did, 0, none⟩)] [] S H0 X d c) (hD : K_Deal.R D H0 x dcs) (hDv : Has3 D H0 did 0 dcs) (hDD : ∀ id, D id → S id ∧ ¬ d.W id) (hA0 : 0 ≤ A ∧ A ≤ 999) :
    SpecW Tryz.prog S H0 d.W 70 [.pointer (some ⟨d.hid, 0, none⟩), .agg [.int .i64 5, .int .i64 A, .int .i64 B].toArray] (HlRes HTS [.pointer (some ⟨did, 0, none⟩)] [] X d (doIt x c (5, A, B))) := by
  refine SpecW.of0 Tryz.func70 rfl (by kernel_rfl) rfl (fun H hfin hfz => ?_)
  haveI o : On S H0 (Low H.n) H := ⟨fun id hs => ⟨(hfz id hs).1, (hfz id hs).2⟩⟩
  have h := h.on (S' := Low H.n) (A' := H)
  have hD : K_Deal.R D H x dcs := K_Deal.same (fun id hid => (hfz id (hDD id hid).1).2) hD
  have hDv : Has3 D H did 0 dcs := by
    obtain ⟨d0, b, d1, d2⟩ := hDv
    exact ⟨d0, b, ((hfz did (hDD did d0).1).2).trans d1, d2⟩
  have hDD : ∀ id, D id → id < H.n ∧ ¬ d.W id := fun id hid => ⟨(hfz id (hDD id hid).1).1, (hDD id hid).2⟩
  have hDL : K_Deal.R (Low H.n) H x dcs := K_Deal.more (fun id p => (hDD id p).1) hD
  have hDvL : Has3 (Low H.n) H did 0 dcs := ⟨(hDD did hDv.1).1, hDv.2⟩
  obtain ⟨d1, d2, d3, d4, d5, d6, d7, d8, rfl⟩ := form_Deal hD
  obtain ⟨hid, sid, gid, bid, nid, w⟩ := d
  have hc := h.cellsH
  have hh := h.hall
  have hsl := hok.sl
  have h7 := hd.sch.h7
  refine KW.cF rfl rfl (by first | (simp; done) | decide) ?_
  refine KW.cF rfl rfl (by first | (simp; done) | decide) ?_
  refine KW.cT rfl rfl (by first | (simp; done) | decide) ?_
  refine KW.callW h.w rfl rfl rfl rfl rfl (specWire5 (A := A) (B := B) hd hB hok h hD hDv hDD hA0) (fun v H6 S6 m6 t6 w6 hv => ?_)
  obtain ⟨rfl, hp⟩ := hv
  refine KW.retW rfl rfl rfl rfl (fun H1 g => by have := g.n_; omega) (fun id p hw => ⟨(t6 id p).1, (t6 id p).2 hw⟩) (fun H7 g => ⟨rfl, ?_⟩)
  refine HlPost.lift (HlPost.mem hp (fun id p => (g.froz id ?_).2) (by have := g.n_; omega)) (by omega) (by have := g.n_; omega) rfl (fun id p => .inl p) (fun id p => .inl p)
  rcases p with p | p | p
  · exact (t6 id (h.w id p)).1
  · exact (t6 id (h.sx id p)).1
  · exact w6 id p
theorem specDo1 {A B : Int} {did : Nat} (hd : DealOk x) (hB : B_Deal x) (hok : CerOk x c) (h : Hl HTS [.pointer (some ⟨did, 0, none⟩)] [] S H0 X d c) (hD : K_Deal.R D H0 x dcs) (hDv : Has3 D H0 did 0 dcs) (hDD : ∀ id, D id → S id ∧ ¬ d.W id) (hA : HoOk x A) :
    SpecW Tryz.prog S H0 d.W 70 [.pointer (some ⟨d.hid, 0, none⟩), .agg [.int .i64 1, .int .i64 A, .int .i64 B].toArray] (HlRes HTS [.pointer (some ⟨did, 0, none⟩)] [] X d (doIt x c (1, A, B))) := by
  refine SpecW.of0 Tryz.func70 rfl (by kernel_rfl) rfl (fun H hfin hfz => ?_)
  haveI o : On S H0 (Low H.n) H := ⟨fun id hs => ⟨(hfz id hs).1, (hfz id hs).2⟩⟩
  have h := h.on (S' := Low H.n) (A' := H)
  have hD : K_Deal.R D H x dcs := K_Deal.same (fun id hid => (hfz id (hDD id hid).1).2) hD
  have hDv : Has3 D H did 0 dcs := by
    obtain ⟨d0, b, d1, d2⟩ := hDv
    exact ⟨d0, b, ((hfz did (hDD did d0).1).2).trans d1, d2⟩
  have hDD : ∀ id, D id → id < H.n ∧ ¬ d.W id := fun id hid => ⟨(hfz id (hDD id hid).1).1, (hDD id hid).2⟩
  have hDL : K_Deal.R (Low H.n) H x dcs := K_Deal.more (fun id p => (hDD id p).1) hD
  have hDvL : Has3 (Low H.n) H did 0 dcs := ⟨(hDD did hDv.1).1, hDv.2⟩
  obtain ⟨d1, d2, d3, d4, d5, d6, d7, d8, rfl⟩ := form_Deal hD
  obtain ⟨hid, sid, gid, bid, nid, w⟩ := d
  have hc := h.cellsH
  have hh := h.hall
  have hsl := hok.sl
  have h7 := hd.sch.h7
  have hA0 : 0 ≤ A := hA.1
  have hA1 : A < x.1.1 := hA.2
  obtain ⟨hs0, scs, hs1, hscl⟩ := h.seats
  simp only at hs0 hs1
  obtain ⟨hse, hsok⟩ := hok.seat hA
  obtain ⟨s, hs⟩ : ∃ s, c.seat A = s := ⟨_, rfl⟩
  rw [hs] at hse hsok
  have hR := hscl.2 _ _ hse
  obtain ⟨ps, qs, hseg, hR1, hR2⟩ := split_Seat hR
  obtain ⟨b1, e1, b2, e2, hps, hR3, hR4⟩ := split_Purse hR1
  obtain ⟨b3, e3, b4, e4, hqs, hR5, hR6⟩ := split_Purse hR2
  have hle : A.toNat * 7 + 7 ≤ scs.length := by have := hscl.1; have h2 := mul_le' (e := 7) (List.getElem?_eq_some_iff.1 hse).1; have : c.seats.length * 7 ≤ scs.length := this; omega
  have cel : ∀ (q : Nat) v, (ps ++ (qs ++ [.int .i64 s.2.2]) : List Value)[q]? = some v → scs[0 + A.toNat * 7 + q]? = some v := fun q v hv => by
    have := seg_at hseg hv
    rw [Nat.zero_add]; exact this
  refine KW.cF rfl rfl (by first | (simp; done) | decide) ?_
  refine KW.cF rfl rfl (by first | (simp; done) | decide) ?_
  refine KW.cF rfl rfl (by first | (simp; done) | decide) ?_
  refine KW.cF rfl rfl (by first | (simp; done) | decide) ?_
  refine KW.ldF 0 hc rfl rfl rfl rfl rfl rfl rfl rfl rfl ?_
  refine KW.ldF 0 hDvL rfl rfl rfl rfl rfl rfl rfl rfl rfl ?_
  refine KW.no rfl rfl (by omega) ?_
  refine KW.ldF 2 hc rfl rfl rfl rfl rfl rfl rfl rfl rfl ?_
  refine KW.idx0 rfl rfl rfl rfl rfl rfl rfl rfl rfl (by omega) (by show A < ((c.seats.length : Nat) : Int); omega) ?_
  refine KW.cT rfl rfl (by first | (simp; done) | decide) ?_
  refine KW.ldF 0 hc rfl rfl rfl rfl rfl rfl rfl rfl rfl ?_
  refine KW.ldF 1 hc rfl rfl rfl rfl rfl rfl rfl rfl rfl ?_
  obtain ⟨E, J, hat⟩ := HoOk.at hd hA hok.ep
  refine KW.callN1 rfl rfl rfl rfl rfl (l08ValuesD x c.ep A hat hB hDvL hDL) (fun v H1 S1 m1 _ _ hv => ?_)
  obtain ⟨a5, q5, rfl, hV⟩ := hv
  refine KW.ldF 1 hc.up rfl rfl rfl rfl rfl rfl rfl rfl rfl ?_
  refine KW.ldF 0 hc.up rfl rfl rfl rfl rfl rfl rfl rfl rfl ?_
  refine KW.ldF 1 hc.up rfl rfl rfl rfl rfl rfl rfl rfl rfl ?_
  refine KW.callN1 rfl rfl rfl rfl rfl (l08TagsD x c.ep A hat hB hDvL.up (On.R hDL) vals_len (vals_in hd.prime) hV.ups) (fun v H2 S2 m2 _ _ hv => ?_)
  obtain ⟨a6, q6, rfl, hTg⟩ := hv
  refine KW.build rfl rfl rfl rfl rfl (built_Packet4 _ _ _ _ _ _ _ _) ?_
  have h2 := h.on (S' := S2) (A' := H2)
  have o1 := (inferInstance : On (New (H.n + 1) H1.n) H1 S2 H2).st
  have o2 := (inferInstance : On (New H1.n H2.n) H2 S2 H2).st
  have o0 := (inferInstance : On (Low H.n) H S2 H2).st
  have lowW : ∀ id, HD.W ⟨hid, sid, gid, bid, nid, w⟩ id → id < H.n := fun id p => h.w id p
  refine KW.callW h2.w rfl rfl rfl rfl rfl (specSend (p := (false, A, c.ep, valsD x c.ep A, tagsD x c.ep A (valsD x c.ep A))) (PX := fun id => New (H.n + 1) H1.n id ∨ New H1.n H2.n id) h2 (mk_Packet (x := (false, A, c.ep, valsD x c.ep A, tagsD x c.ep A (valsD x c.ep A))) (sl_mk hV.sl (fun id p => ⟨.inl p, (o1 id p).2⟩)) (sl_mk hTg.sl (fun id p => ⟨.inr p, (o2 id p).2⟩))) (fun id p => ⟨p.elim (fun p => (o1 id p).1) (fun p => (o2 id p).1), fun q => by have := lowW id q; rcases p with p | p <;> (have := p.1; omega)⟩) hok.wl) (fun v H5 S5 m5 t5 w5 hv => ?_)
  have e : doIt x c (1, A, B) = send c (false, A, c.ep, valsD x c.ep A, tagsD x c.ep A (valsD x c.ep A)) := by
    show (if x.1.1 ≤ A then (c, 2) else send c _) = _
    rw [if_neg (by omega)]
  rw [e]
  obtain ⟨rfl, hp⟩ := hv
  have xin : ∀ id, X id → id < H.n := fun id p => h.sx id p
  refine KW.retW rfl rfl rfl rfl (fun H1 g => by have := g.n_; omega) (fun id hid hw => ⟨(t5 id (o0 id hid).1).1, ((t5 id (o0 id hid).1).2 hw).trans (o0 id hid).2⟩) (fun H6 g => ⟨rfl, ?_⟩)
  refine HlPost.lift (HlPost.mem hp (fun id p => (g.froz id ?_).2) (by have := g.n_; omega)) (by omega) (by have := g.n_; omega) rfl (fun id p => ?_) (fun id p => .inl p)
  · rcases p with p | p | p
    · exact (t5 id (h2.w id p)).1
    · rcases p with p | p | p
      · exact (t5 id (o0 id (xin id p)).1).1
      · exact (t5 id (o1 id p).1).1
      · exact (t5 id (o2 id p).1).1
    · exact w5 id p
  · rcases p with p | p | p
    · exact .inl p
    · exact .inr ⟨by have := p.1; omega, by have := p.2; omega⟩
    · exact .inr ⟨by have := p.1; omega, by have := p.2; omega⟩
theorem specDo2 {A B : Int} {did : Nat} (hd : DealOk x) (hB : B_Deal x) (hok : CerOk x c) (h : Hl HTS [.pointer (some ⟨did, 0, none⟩)] [] S H0 X d c) (hD : K_Deal.R D H0 x dcs) (hDv : Has3 D H0 did 0 dcs) (hDD : ∀ id, D id → S id ∧ ¬ d.W id) (hA : HoOk x A) :
    SpecW Tryz.prog S H0 d.W 70 [.pointer (some ⟨d.hid, 0, none⟩), .agg [.int .i64 2, .int .i64 A, .int .i64 B].toArray] (HlRes HTS [.pointer (some ⟨did, 0, none⟩)] [] X d (doIt x c (2, A, B))) := by
  refine SpecW.of0 Tryz.func70 rfl (by kernel_rfl) rfl (fun H hfin hfz => ?_)
  haveI o : On S H0 (Low H.n) H := ⟨fun id hs => ⟨(hfz id hs).1, (hfz id hs).2⟩⟩
  have h := h.on (S' := Low H.n) (A' := H)
  have hD : K_Deal.R D H x dcs := K_Deal.same (fun id hid => (hfz id (hDD id hid).1).2) hD
  have hDv : Has3 D H did 0 dcs := by
    obtain ⟨d0, b, d1, d2⟩ := hDv
    exact ⟨d0, b, ((hfz did (hDD did d0).1).2).trans d1, d2⟩
  have hDD : ∀ id, D id → id < H.n ∧ ¬ d.W id := fun id hid => ⟨(hfz id (hDD id hid).1).1, (hDD id hid).2⟩
  have hDL : K_Deal.R (Low H.n) H x dcs := K_Deal.more (fun id p => (hDD id p).1) hD
  have hDvL : Has3 (Low H.n) H did 0 dcs := ⟨(hDD did hDv.1).1, hDv.2⟩
  obtain ⟨d1, d2, d3, d4, d5, d6, d7, d8, rfl⟩ := form_Deal hD
  obtain ⟨hid, sid, gid, bid, nid, w⟩ := d
  have hc := h.cellsH
  have hh := h.hall
  have hsl := hok.sl
  have h7 := hd.sch.h7
  have hA0 : 0 ≤ A := hA.1
  have hA1 : A < x.1.1 := hA.2
  obtain ⟨hs0, scs, hs1, hscl⟩ := h.seats
  simp only at hs0 hs1
  obtain ⟨hse, hsok⟩ := hok.seat hA
  obtain ⟨s, hs⟩ : ∃ s, c.seat A = s := ⟨_, rfl⟩
  rw [hs] at hse hsok
  have hR := hscl.2 _ _ hse
  obtain ⟨ps, qs, hseg, hR1, hR2⟩ := split_Seat hR
  obtain ⟨b1, e1, b2, e2, hps, hR3, hR4⟩ := split_Purse hR1
  obtain ⟨b3, e3, b4, e4, hqs, hR5, hR6⟩ := split_Purse hR2
  have hle : A.toNat * 7 + 7 ≤ scs.length := by have := hscl.1; have h2 := mul_le' (e := 7) (List.getElem?_eq_some_iff.1 hse).1; have : c.seats.length * 7 ≤ scs.length := this; omega
  have cel : ∀ (q : Nat) v, (ps ++ (qs ++ [.int .i64 s.2.2]) : List Value)[q]? = some v → scs[0 + A.toNat * 7 + q]? = some v := fun q v hv => by
    have := seg_at hseg hv
    rw [Nat.zero_add]; exact this
  refine KW.cF rfl rfl (by first | (simp; done) | decide) ?_
  refine KW.cF rfl rfl (by first | (simp; done) | decide) ?_
  refine KW.cF rfl rfl (by first | (simp; done) | decide) ?_
  refine KW.cF rfl rfl (by first | (simp; done) | decide) ?_
  refine KW.ldF 0 hc rfl rfl rfl rfl rfl rfl rfl rfl rfl ?_
  refine KW.ldF 0 hDvL rfl rfl rfl rfl rfl rfl rfl rfl rfl ?_
  refine KW.no rfl rfl (by omega) ?_
  refine KW.ldF 2 hc rfl rfl rfl rfl rfl rfl rfl rfl rfl ?_
  refine KW.idx0 rfl rfl rfl rfl rfl rfl rfl rfl rfl (by omega) (by show A < ((c.seats.length : Nat) : Int); omega) ?_
  refine KW.cF rfl rfl (by first | (simp; done) | decide) ?_
  refine KW.cT rfl rfl (by first | (simp; done) | decide) ?_
  have c0 : scs[0 + A.toNat * 7]? = some (.int .i64 s.1.1) := cel 0 _ (by rw [hps]; rfl)
  have c1 : scs[0 + A.toNat * 7 + 1]? = some (.slice b1 s.1.2.1.length e1) := cel 1 _ (by rw [hps]; rfl)
  have c2 : scs[0 + A.toNat * 7 + 2]? = some (.slice b2 s.1.2.2.length e2) := cel 2 _ (by rw [hps]; rfl)
  have c6 : scs[0 + A.toNat * 7 + 6]? = some (.int .i64 s.2.2) := cel 6 _ (by rw [hps, hqs]; rfl)
  have e : doIt x c (2, A, B) = if s.1.1 = -1 then (c, 4) else send c (true, A, s.1.1, lieOf x.1.2.2.1 s.1.2.1 s.2.2, s.1.2.2) := by
    show (if x.1.1 ≤ A then (c, 2) else if (c.seat A).1.1 = -1 then (c, 4) else send c _) = _
    rw [if_neg (by omega), hs]
  rw [e]
  refine KW.ldC hs0 hs1 c0 rfl rfl rfl rfl rfl rfl rfl ?_
  refine KW.cnd rfl rfl (fun k1 => ?_) (fun k1 => ?_)
  · have k1 : s.1.1 = -1 := k1
    rw [if_pos k1]
    exact KW.retW rfl rfl rfl rfl (fun H1 g => by have := g.n_; omega) (fun id hid _ => ⟨hid, rfl⟩) (fun H1 g => ⟨rfl, HlPost.same h (fun id p => p) (fun id hid => (g.froz id hid).2)⟩)
  have k1 : ¬ s.1.1 = -1 := k1
  rw [if_neg k1]
  have hpu := hsok.pu.resolve_left (fun q => k1 q.1)
  have hol : x.1.2.1.length ≤ 1048576 := hB.1.2.1
  have hrl := rowsOf_len x.1.2.1 A
  have hvl : s.1.2.1.length ≤ 1048576 := by have := hpu.2.vl; omega
  have htl : s.1.2.2.length ≤ 1048576 := by have := hpu.2.tl; omega
  refine KW.ldF 0 hc rfl rfl rfl rfl rfl rfl rfl rfl rfl ?_
  refine KW.ldF 2 hDvL rfl rfl rfl rfl rfl rfl rfl rfl rfl ?_
  refine KW.ldC hs0 hs1 c1 rfl rfl rfl rfl rfl rfl rfl ?_
  refine KW.ldC hs0 hs1 c6 rfl rfl rfl rfl rfl rfl rfl ?_
  have hlie := hsok.lie
  refine KW.callN1 rfl rfl rfl rfl rfl (l08Lying x.1.2.2.1 hd.prime s.2.2 (by omega) hvl hpu.2.ve (hR3.more h.sx)) (fun v H1 S1 m1 _ _ hv => ?_)
  obtain ⟨a5, q5, rfl, hV⟩ := hv
  have hb1 := On.blk (S' := S1) (H' := H1) hs0 hs1
  refine KW.ldC hb1.1 hb1.2 c0 rfl rfl rfl rfl rfl rfl rfl ?_
  refine KW.ldC hb1.1 hb1.2 c2 rfl rfl rfl rfl rfl rfl rfl ?_
  refine KW.callN1 rfl rfl rfl rfl rfl (l00Own htl (hR4.more h.sx).up) (fun v H2 S2 m2 _ _ hv => ?_)
  obtain ⟨a6, q6, rfl, hTg⟩ := hv
  refine KW.build rfl rfl rfl rfl rfl (built_Packet5 _ _ _ _ _ _ _ _ _) ?_
  have h2 := h.on (S' := S2) (A' := H2)
  have o1 := (inferInstance : On (New (H.n + 1) H1.n) H1 S2 H2).st
  have o2 := (inferInstance : On (New H1.n H2.n) H2 S2 H2).st
  have o0 := (inferInstance : On (Low H.n) H S2 H2).st
  have lowW : ∀ id, HD.W ⟨hid, sid, gid, bid, nid, w⟩ id → id < H.n := fun id p => h.w id p
  have xin : ∀ id, X id → id < H.n := fun id p => h.sx id p
  have hll : (lieOf x.1.2.2.1 s.1.2.1 s.2.2).length = s.1.2.1.length := lie_len
  refine KW.callW h2.w rfl rfl rfl rfl rfl (specSend (p := (true, A, s.1.1, lieOf x.1.2.2.1 s.1.2.1 s.2.2, s.1.2.2)) (PX := fun id => New (H.n + 1) H1.n id ∨ New H1.n H2.n id) h2 (mk_Packet (x := (true, A, s.1.1, lieOf x.1.2.2.1 s.1.2.1 s.2.2, s.1.2.2)) (sl_mk hV.sl (fun id p => ⟨.inl p, (o1 id p).2⟩)) (sl_mk hTg.sl (fun id p => ⟨.inr p, (o2 id p).2⟩))) (fun id p => ⟨p.elim (fun p => (o1 id p).1) (fun p => (o2 id p).1), fun q => by have := lowW id q; rcases p with p | p <;> (have := p.1; omega)⟩) hok.wl) (fun v H5 S5 m5 t5 w5 hv => ?_)
  obtain ⟨rfl, hp⟩ := hv
  refine KW.retW rfl rfl rfl rfl (fun H1 g => by have := g.n_; omega) (fun id hid hw => ⟨(t5 id (o0 id hid).1).1, ((t5 id (o0 id hid).1).2 hw).trans (o0 id hid).2⟩) (fun H6 g => ⟨rfl, ?_⟩)
  refine HlPost.lift (HlPost.mem hp (fun id p => (g.froz id ?_).2) (by have := g.n_; omega)) (by omega) (by have := g.n_; omega) rfl (fun id p => ?_) (fun id p => .inl p)
  · rcases p with p | p | p
    · exact (t5 id (h2.w id p)).1
    · rcases p with p | p | p
      · exact (t5 id (o0 id (xin id p)).1).1
      · exact (t5 id (o1 id p).1).1
      · exact (t5 id (o2 id p).1).1
    · exact w5 id p
  · rcases p with p | p | p
    · exact .inl p
    · exact .inr ⟨by have := p.1; omega, by have := p.2; omega⟩
    · exact .inr ⟨by have := p.1; omega, by have := p.2; omega⟩
theorem specDo6 {A B : Int} {did : Nat} (hd : DealOk x) (hB : B_Deal x) (hok : CerOk x c) (h : Hl HTS [.pointer (some ⟨did, 0, none⟩)] [] S H0 X d c) (hD : K_Deal.R D H0 x dcs) (hDv : Has3 D H0 did 0 dcs) (hDD : ∀ id, D id → S id ∧ ¬ d.W id) (hA : HoOk x A) :
    SpecW Tryz.prog S H0 d.W 70 [.pointer (some ⟨d.hid, 0, none⟩), .agg [.int .i64 6, .int .i64 A, .int .i64 B].toArray] (HlRes HTS [.pointer (some ⟨did, 0, none⟩)] [] X d (doIt x c (6, A, B))) := by
  refine SpecW.of0 Tryz.func70 rfl (by kernel_rfl) rfl (fun H hfin hfz => ?_)
  haveI o : On S H0 (Low H.n) H := ⟨fun id hs => ⟨(hfz id hs).1, (hfz id hs).2⟩⟩
  have h := h.on (S' := Low H.n) (A' := H)
  have hD : K_Deal.R D H x dcs := K_Deal.same (fun id hid => (hfz id (hDD id hid).1).2) hD
  have hDv : Has3 D H did 0 dcs := by
    obtain ⟨d0, b, d1, d2⟩ := hDv
    exact ⟨d0, b, ((hfz did (hDD did d0).1).2).trans d1, d2⟩
  have hDD : ∀ id, D id → id < H.n ∧ ¬ d.W id := fun id hid => ⟨(hfz id (hDD id hid).1).1, (hDD id hid).2⟩
  have hDL : K_Deal.R (Low H.n) H x dcs := K_Deal.more (fun id p => (hDD id p).1) hD
  have hDvL : Has3 (Low H.n) H did 0 dcs := ⟨(hDD did hDv.1).1, hDv.2⟩
  obtain ⟨d1, d2, d3, d4, d5, d6, d7, d8, rfl⟩ := form_Deal hD
  obtain ⟨hid, sid, gid, bid, nid, w⟩ := d
  have hc := h.cellsH
  have hh := h.hall
  have hsl := hok.sl
  have h7 := hd.sch.h7
  have hA0 : 0 ≤ A := hA.1
  have hA1 : A < x.1.1 := hA.2
  obtain ⟨hs0, scs, hs1, hscl⟩ := h.seats
  simp only at hs0 hs1
  obtain ⟨hse, hsok⟩ := hok.seat hA
  obtain ⟨s, hs⟩ : ∃ s, c.seat A = s := ⟨_, rfl⟩
  rw [hs] at hse hsok
  have hR := hscl.2 _ _ hse
  obtain ⟨ps, qs, hseg, hR1, hR2⟩ := split_Seat hR
  obtain ⟨b1, e1, b2, e2, hps, hR3, hR4⟩ := split_Purse hR1
  obtain ⟨b3, e3, b4, e4, hqs, hR5, hR6⟩ := split_Purse hR2
  have hle : A.toNat * 7 + 7 ≤ scs.length := by have := hscl.1; have h2 := mul_le' (e := 7) (List.getElem?_eq_some_iff.1 hse).1; have : c.seats.length * 7 ≤ scs.length := this; omega
  have cel : ∀ (q : Nat) v, (ps ++ (qs ++ [.int .i64 s.2.2]) : List Value)[q]? = some v → scs[0 + A.toNat * 7 + q]? = some v := fun q v hv => by
    have := seg_at hseg hv
    rw [Nat.zero_add]; exact this
  refine KW.cF rfl rfl (by first | (simp; done) | decide) ?_
  refine KW.cF rfl rfl (by first | (simp; done) | decide) ?_
  refine KW.cF rfl rfl (by first | (simp; done) | decide) ?_
  refine KW.cF rfl rfl (by first | (simp; done) | decide) ?_
  refine KW.ldF 0 hc rfl rfl rfl rfl rfl rfl rfl rfl rfl ?_
  refine KW.ldF 0 hDvL rfl rfl rfl rfl rfl rfl rfl rfl rfl ?_
  refine KW.no rfl rfl (by omega) ?_
  refine KW.ldF 2 hc rfl rfl rfl rfl rfl rfl rfl rfl rfl ?_
  refine KW.idx0 rfl rfl rfl rfl rfl rfl rfl rfl rfl (by omega) (by show A < ((c.seats.length : Nat) : Int); omega) ?_
  refine KW.cF rfl rfl (by first | (simp; done) | decide) ?_
  refine KW.cF rfl rfl (by first | (simp; done) | decide) ?_
  refine KW.cT rfl rfl (by first | (simp; done) | decide) ?_
  refine KW.ldF 0 hc rfl rfl rfl rfl rfl rfl rfl rfl rfl ?_
  refine KW.ldF 2 hDvL rfl rfl rfl rfl rfl rfl rfl rfl rfl ?_
  have e : doIt x c (6, A, B) = if x.1.2.2.1 ≤ B then (c, 2) else (setS c A (s.1, s.2.1, B), 0) := by
    show (if x.1.1 ≤ A then (c, 2) else if x.1.2.2.1 ≤ B then (c, 2) else (setS c A ((c.seat A).1, (c.seat A).2.1, B), 0)) = _
    rw [if_neg (by omega), hs]
  rw [e]
  refine KW.cnd rfl rfl (fun k1 => ?_) (fun k1 => ?_)
  · have k1 : B ≥ x.1.2.2.1 := k1
    rw [if_pos (by omega)]
    exact KW.retW rfl rfl rfl rfl (fun H1 g => by have := g.n_; omega) (fun id hid _ => ⟨hid, rfl⟩) (fun H1 g => ⟨rfl, HlPost.same h (fun id p => p) (fun id hid => (g.froz id hid).2)⟩)
  · have k1 : ¬ B ≥ x.1.2.2.1 := k1
    rw [if_neg (by omega)]
    refine KW.thaw sid _ hs0 hs1 ?_
    refine KW.st1 1 rfl rfl rfl rfl rfl rfl rfl rfl rfl rfl rfl rfl (by show 0 + A.toNat * 7 + 6 < scs.length; omega) ?_
    refine KW.retW rfl rfl rfl rfl (fun H1 g => by have := g.n_; omega) (fun id hid hw => ⟨⟨hid, fun e => hw (by rw [e]; exact HD.Win.2.1)⟩, rfl⟩) (fun H1 g => ⟨rfl, HlPost.weak (X := fun id => X id ∨ False) ?_ (fun id p => p.elim (fun p => p) (fun p => p.elim))⟩)
    have hnew : H1.m sid = some ⟨101, true, scs.set (0 + A.toNat * 7 + 6) (.int .i64 B)⟩ := (g.blk (j := 1) rfl).1
    have hcl := hscl.part (y := (s.1, s.2.1, B)) (a := ps ++ qs) (b := [.int .i64 s.2.2]) (r := []) (b' := [.int .i64 B]) (X' := fun id => X id ∨ False) hse (by rw [hseg, List.append_assoc]; rfl) rfl (fun id p => .inl p) (by rw [List.append_assoc]; exact mk_Seat (x := (s.1, s.2.1, B)) (K_Purse.more (fun id p => .inl p) hR1) (K_Purse.more (fun id p => .inl p) hR2))
    have e0 : 0 + A.toNat * 7 + 6 = A.toNat * K_Seat.es + (ps ++ qs).length := by rw [hps, hqs]; show 0 + A.toNat * 7 + 6 = A.toNat * 7 + 6; omega
    refine h.reSeats (PX := fun _ => False) (fun id p => p.elim) (by simp) (fun id h1 h2 => (g.froz id ⟨h1, h2⟩).2) (cs := splice scs (A.toNat * K_Seat.es + (ps ++ qs).length) [.int .i64 B]) ?_ hcl.1
    rw [← e0, splice_one (by omega)]
    exact hnew
theorem specDo7 {A B : Int} {did : Nat} (hd : DealOk x) (hB : B_Deal x) (hok : CerOk x c) (h : Hl HTS [.pointer (some ⟨did, 0, none⟩)] [] S H0 X d c) (hD : K_Deal.R D H0 x dcs) (hDv : Has3 D H0 did 0 dcs) (hDD : ∀ id, D id → S id ∧ ¬ d.W id) (hA : HoOk x A) :
    SpecW Tryz.prog S H0 d.W 70 [.pointer (some ⟨d.hid, 0, none⟩), .agg [.int .i64 7, .int .i64 A, .int .i64 B].toArray] (HlRes HTS [.pointer (some ⟨did, 0, none⟩)] [] X d (doIt x c (7, A, B))) := by
  refine SpecW.of0 Tryz.func70 rfl (by kernel_rfl) rfl (fun H hfin hfz => ?_)
  haveI o : On S H0 (Low H.n) H := ⟨fun id hs => ⟨(hfz id hs).1, (hfz id hs).2⟩⟩
  have h := h.on (S' := Low H.n) (A' := H)
  have hD : K_Deal.R D H x dcs := K_Deal.same (fun id hid => (hfz id (hDD id hid).1).2) hD
  have hDv : Has3 D H did 0 dcs := by
    obtain ⟨d0, b, d1, d2⟩ := hDv
    exact ⟨d0, b, ((hfz did (hDD did d0).1).2).trans d1, d2⟩
  have hDD : ∀ id, D id → id < H.n ∧ ¬ d.W id := fun id hid => ⟨(hfz id (hDD id hid).1).1, (hDD id hid).2⟩
  have hDL : K_Deal.R (Low H.n) H x dcs := K_Deal.more (fun id p => (hDD id p).1) hD
  have hDvL : Has3 (Low H.n) H did 0 dcs := ⟨(hDD did hDv.1).1, hDv.2⟩
  obtain ⟨d1, d2, d3, d4, d5, d6, d7, d8, rfl⟩ := form_Deal hD
  obtain ⟨hid, sid, gid, bid, nid, w⟩ := d
  have hc := h.cellsH
  have hh := h.hall
  have hsl := hok.sl
  have h7 := hd.sch.h7
  have hA0 : 0 ≤ A := hA.1
  have hA1 : A < x.1.1 := hA.2
  obtain ⟨hs0, scs, hs1, hscl⟩ := h.seats
  simp only at hs0 hs1
  obtain ⟨hse, hsok⟩ := hok.seat hA
  obtain ⟨s, hs⟩ : ∃ s, c.seat A = s := ⟨_, rfl⟩
  rw [hs] at hse hsok
  have hR := hscl.2 _ _ hse
  obtain ⟨ps, qs, hseg, hR1, hR2⟩ := split_Seat hR
  obtain ⟨b1, e1, b2, e2, hps, hR3, hR4⟩ := split_Purse hR1
  obtain ⟨b3, e3, b4, e4, hqs, hR5, hR6⟩ := split_Purse hR2
  have hle : A.toNat * 7 + 7 ≤ scs.length := by have := hscl.1; have h2 := mul_le' (e := 7) (List.getElem?_eq_some_iff.1 hse).1; have : c.seats.length * 7 ≤ scs.length := this; omega
  have cel : ∀ (q : Nat) v, (ps ++ (qs ++ [.int .i64 s.2.2]) : List Value)[q]? = some v → scs[0 + A.toNat * 7 + q]? = some v := fun q v hv => by
    have := seg_at hseg hv
    rw [Nat.zero_add]; exact this
  refine KW.cF rfl rfl (by first | (simp; done) | decide) ?_
  refine KW.cF rfl rfl (by first | (simp; done) | decide) ?_
  refine KW.cF rfl rfl (by first | (simp; done) | decide) ?_
  refine KW.cF rfl rfl (by first | (simp; done) | decide) ?_
  refine KW.ldF 0 hc rfl rfl rfl rfl rfl rfl rfl rfl rfl ?_
  refine KW.ldF 0 hDvL rfl rfl rfl rfl rfl rfl rfl rfl rfl ?_
  refine KW.no rfl rfl (by omega) ?_
  refine KW.ldF 2 hc rfl rfl rfl rfl rfl rfl rfl rfl rfl ?_
  refine KW.idx0 rfl rfl rfl rfl rfl rfl rfl rfl rfl (by omega) (by show A < ((c.seats.length : Nat) : Int); omega) ?_
  refine KW.cF rfl rfl (by first | (simp; done) | decide) ?_
  refine KW.cF rfl rfl (by first | (simp; done) | decide) ?_
  refine KW.cF rfl rfl (by first | (simp; done) | decide) ?_
  refine KW.cT rfl rfl (by first | (simp; done) | decide) ?_
  have hsrc : (scs.drop (0 + A.toNat * 7 + 0)).take 3 = [.int .i64 s.1.1, .slice b1 s.1.2.1.length e1, .slice b2 s.1.2.2.length e2] := seg_of rfl (fun q v hv => by
    have hv' : (ps ++ (qs ++ [.int .i64 s.2.2]) : List Value)[0 + q]? = some v := by
      rw [hps, hqs]
      match q, hv with
      | 0, hv => exact hv
      | 1, hv => exact hv
      | 2, hv => exact hv
      | q + 3, hv => simp at hv
    have := cel (0 + q) v hv'
    rwa [← Nat.add_assoc] at this)
  have hol : x.1.2.1.length ≤ 1048576 := hB.1.2.1
  have hrl := rowsOf_len x.1.2.1 A
  have hvl : s.1.2.1.length ≤ 1048576 := by rcases hsok.pu with q | q; rw [q.2.1]; simp; have := q.2.vl; omega
  have htl : s.1.2.2.length ≤ 1048576 := by rcases hsok.pu with q | q; rw [q.2.2]; simp; have := q.2.tl; omega
  refine KW.ldP hs0 hs1 rfl rfl rfl rfl rfl (bload_seg (ps := [.int .i64 s.1.1, .slice b1 s.1.2.1.length e1, .slice b2 s.1.2.2.length e2]) rfl rfl rfl (by show 0 + A.toNat * 7 + 0 + 3 ≤ scs.length; omega) hsrc) ?_
  have hRL : K_Purse.R (Low H.n) H s.1 [.int .i64 s.1.1, .slice b1 s.1.2.1.length e1, .slice b2 s.1.2.2.length e2] := K_Purse.more h.sx (mk_Purse hR3 hR4)
  refine KW.callN1 rfl rfl rfl rfl rfl (l08PurseS hRL hvl htl) (fun v H1 S1 m1 _ _ hv => ?_)
  obtain ⟨a1, q1, a2, q2, rfl, hO1, hO2⟩ := hv
  have o0 := (inferInstance : On (Low H.n) H S1 H1).st
  have o1 := (inferInstance : On (New (H.n + 1) H1.n) H1 S1 H1).st
  refine KW.thaw sid _ (o0 sid hs0).1 ((o0 sid hs0).2.trans hs1) ?_
  refine KW.stB 1 rfl rfl rfl rfl rfl rfl (bstore_agg rfl rfl rfl (by show 0 + A.toNat * 7 + 3 + 3 ≤ scs.length; omega) rfl) ?_
  have e : doIt x c (7, A, B) = (setS c A (s.1, s.1, s.2.2), 0) := by
    have h1 : ¬ x.1.1 ≤ A := by omega
    show (if x.1.1 ≤ A then (c, 2) else (setS c A ((c.seat A).1, (c.seat A).1, (c.seat A).2.2), 0)) = _
    rw [if_neg h1, hs]
  rw [e]
  refine KW.retW rfl rfl rfl rfl (fun H1 g => by have := g.n_; omega) (fun id hid hw => ⟨⟨(o0 id hid).1, fun e => hw (by rw [e]; exact HD.Win.2.1)⟩, (o0 id hid).2⟩) (fun H3 g => ⟨rfl, ?_⟩)
  have hn3 := g.n_
  have hsn : sid < H.n := hs0
  have hnew := (g.blk (j := 1) rfl).1
  have xk : ∀ id, X id → H3.m id = H.m id := fun id p => by
    have p0 := h.sx id p
    exact ((g.froz id ⟨(o0 id p0).1, fun e => h.out id p (by rw [e]; exact HD.Win.2.1)⟩).2).trans (o0 id p0).2
  have nw : ∀ id, New (H.n + 1) H1.n id → (X id ∨ New H.n H3.n id) ∧ H3.m id = H1.m id := fun id p => by
    have q1 := o1 id p
    have p1 := p.1
    have p2 := p.2
    have q3 := g.froz id ⟨q1.1, by omega⟩
    exact ⟨.inr ⟨by omega, by omega⟩, q3.2⟩
  have hN1 : KI.Sl (fun id => X id ∨ New H.n H3.n id) H3 (.slice a1 s.1.2.1.length q1) s.1.2.1 := sl_mk hO1 nw
  have hN2 : KI.Sl (fun id => X id ∨ New H.n H3.n id) H3 (.slice a2 s.1.2.2.length q2) s.1.2.2 := sl_mk hO2 nw
  have hscl3 : Cl K_Seat X H3 c.seats scs := hscl.mv xk (fun _ p => p)
  have hR1' : K_Purse.R X H3 _ _ := K_Purse.same xk hR1
  have hR2' : K_Purse.R X H3 _ _ := K_Purse.same xk hR2
  have hcl := hscl3.part (y := (s.1, s.1, s.2.2)) (a := ps) (b := qs) (r := [.int .i64 s.2.2]) (b' := [.int .i64 s.1.1, .slice a1 s.1.2.1.length q1, .slice a2 s.1.2.2.length q2]) (X' := fun id => X id ∨ New H.n H3.n id) hse hseg (by rw [hqs]; rfl) (fun id p => .inl p) (mk_Seat (x := (s.1, s.1, s.2.2)) (K_Purse.more (fun id p => .inl p) hR1') (mk_Purse hN1 hN2))
  have e0 : 0 + A.toNat * 7 + 3 = A.toNat * K_Seat.es + ps.length := by rw [hps]; show 0 + A.toNat * 7 + 3 = A.toNat * 7 + 3; omega
  refine h.reSeatsN (by simp) (fun id h1 h2 => ((g.froz id ⟨(o0 id h1).1, h2⟩).2).trans (o0 id h1).2) (cs := splice scs _ _) ?_ hcl.1
  rw [← e0]
  exact hnew
theorem specDo8 {A B : Int} {did : Nat} (hd : DealOk x) (hB : B_Deal x) (hok : CerOk x c) (h : Hl HTS [.pointer (some ⟨did, 0, none⟩)] [] S H0 X d c) (hD : K_Deal.R D H0 x dcs) (hDv : Has3 D H0 did 0 dcs) (hDD : ∀ id, D id → S id ∧ ¬ d.W id) (hA : HoOk x A) :
    SpecW Tryz.prog S H0 d.W 70 [.pointer (some ⟨d.hid, 0, none⟩), .agg [.int .i64 8, .int .i64 A, .int .i64 B].toArray] (HlRes HTS [.pointer (some ⟨did, 0, none⟩)] [] X d (doIt x c (8, A, B))) := by
  refine SpecW.of0 Tryz.func70 rfl (by kernel_rfl) rfl (fun H hfin hfz => ?_)
  haveI o : On S H0 (Low H.n) H := ⟨fun id hs => ⟨(hfz id hs).1, (hfz id hs).2⟩⟩
  have h := h.on (S' := Low H.n) (A' := H)
  have hD : K_Deal.R D H x dcs := K_Deal.same (fun id hid => (hfz id (hDD id hid).1).2) hD
  have hDv : Has3 D H did 0 dcs := by
    obtain ⟨d0, b, d1, d2⟩ := hDv
    exact ⟨d0, b, ((hfz did (hDD did d0).1).2).trans d1, d2⟩
  have hDD : ∀ id, D id → id < H.n ∧ ¬ d.W id := fun id hid => ⟨(hfz id (hDD id hid).1).1, (hDD id hid).2⟩
  have hDL : K_Deal.R (Low H.n) H x dcs := K_Deal.more (fun id p => (hDD id p).1) hD
  have hDvL : Has3 (Low H.n) H did 0 dcs := ⟨(hDD did hDv.1).1, hDv.2⟩
  obtain ⟨d1, d2, d3, d4, d5, d6, d7, d8, rfl⟩ := form_Deal hD
  obtain ⟨hid, sid, gid, bid, nid, w⟩ := d
  have hc := h.cellsH
  have hh := h.hall
  have hsl := hok.sl
  have h7 := hd.sch.h7
  have hA0 : 0 ≤ A := hA.1
  have hA1 : A < x.1.1 := hA.2
  obtain ⟨hs0, scs, hs1, hscl⟩ := h.seats
  simp only at hs0 hs1
  obtain ⟨hse, hsok⟩ := hok.seat hA
  obtain ⟨s, hs⟩ : ∃ s, c.seat A = s := ⟨_, rfl⟩
  rw [hs] at hse hsok
  have hR := hscl.2 _ _ hse
  obtain ⟨ps, qs, hseg, hR1, hR2⟩ := split_Seat hR
  obtain ⟨b1, e1, b2, e2, hps, hR3, hR4⟩ := split_Purse hR1
  obtain ⟨b3, e3, b4, e4, hqs, hR5, hR6⟩ := split_Purse hR2
  have hle : A.toNat * 7 + 7 ≤ scs.length := by have := hscl.1; have h2 := mul_le' (e := 7) (List.getElem?_eq_some_iff.1 hse).1; have : c.seats.length * 7 ≤ scs.length := this; omega
  have cel : ∀ (q : Nat) v, (ps ++ (qs ++ [.int .i64 s.2.2]) : List Value)[q]? = some v → scs[0 + A.toNat * 7 + q]? = some v := fun q v hv => by
    have := seg_at hseg hv
    rw [Nat.zero_add]; exact this
  refine KW.cF rfl rfl (by first | (simp; done) | decide) ?_
  refine KW.cF rfl rfl (by first | (simp; done) | decide) ?_
  refine KW.cF rfl rfl (by first | (simp; done) | decide) ?_
  refine KW.cF rfl rfl (by first | (simp; done) | decide) ?_
  refine KW.ldF 0 hc rfl rfl rfl rfl rfl rfl rfl rfl rfl ?_
  refine KW.ldF 0 hDvL rfl rfl rfl rfl rfl rfl rfl rfl rfl ?_
  refine KW.no rfl rfl (by omega) ?_
  refine KW.ldF 2 hc rfl rfl rfl rfl rfl rfl rfl rfl rfl ?_
  refine KW.idx0 rfl rfl rfl rfl rfl rfl rfl rfl rfl (by omega) (by show A < ((c.seats.length : Nat) : Int); omega) ?_
  refine KW.cF rfl rfl (by first | (simp; done) | decide) ?_
  refine KW.cF rfl rfl (by first | (simp; done) | decide) ?_
  refine KW.cF rfl rfl (by first | (simp; done) | decide) ?_
  refine KW.cF rfl rfl (by first | (simp; done) | decide) ?_
  have hsrc : (scs.drop (0 + A.toNat * 7 + 3)).take 3 = [.int .i64 s.2.1.1, .slice b3 s.2.1.2.1.length e3, .slice b4 s.2.1.2.2.length e4] := seg_of rfl (fun q v hv => by
    have hv' : (ps ++ (qs ++ [.int .i64 s.2.2]) : List Value)[3 + q]? = some v := by
      rw [hps, hqs]
      match q, hv with
      | 0, hv => exact hv
      | 1, hv => exact hv
      | 2, hv => exact hv
      | q + 3, hv => simp at hv
    have := cel (3 + q) v hv'
    rwa [← Nat.add_assoc] at this)
  have hol : x.1.2.1.length ≤ 1048576 := hB.1.2.1
  have hrl := rowsOf_len x.1.2.1 A
  have hvl : s.2.1.2.1.length ≤ 1048576 := by rcases hsok.sa with q | q; rw [q.2.1]; simp; have := q.2.vl; omega
  have htl : s.2.1.2.2.length ≤ 1048576 := by rcases hsok.sa with q | q; rw [q.2.2]; simp; have := q.2.tl; omega
  refine KW.ldP hs0 hs1 rfl rfl rfl rfl rfl (bload_seg (ps := [.int .i64 s.2.1.1, .slice b3 s.2.1.2.1.length e3, .slice b4 s.2.1.2.2.length e4]) rfl rfl rfl (by show 0 + A.toNat * 7 + 3 + 3 ≤ scs.length; omega) hsrc) ?_
  have hRL : K_Purse.R (Low H.n) H s.2.1 [.int .i64 s.2.1.1, .slice b3 s.2.1.2.1.length e3, .slice b4 s.2.1.2.2.length e4] := K_Purse.more h.sx (mk_Purse hR5 hR6)
  refine KW.callN1 rfl rfl rfl rfl rfl (l08PurseS hRL hvl htl) (fun v H1 S1 m1 _ _ hv => ?_)
  obtain ⟨a1, q1, a2, q2, rfl, hO1, hO2⟩ := hv
  have o0 := (inferInstance : On (Low H.n) H S1 H1).st
  have o1 := (inferInstance : On (New (H.n + 1) H1.n) H1 S1 H1).st
  refine KW.thaw sid _ (o0 sid hs0).1 ((o0 sid hs0).2.trans hs1) ?_
  refine KW.stB 1 rfl rfl rfl rfl rfl rfl (bstore_agg rfl rfl rfl (by show 0 + A.toNat * 7 + 0 + 3 ≤ scs.length; omega) rfl) ?_
  have e : doIt x c (8, A, B) = (setS c A (s.2.1, s.2.1, s.2.2), 0) := by
    have h1 : ¬ x.1.1 ≤ A := by omega
    show (if x.1.1 ≤ A then (c, 2) else (setS c A ((c.seat A).2.1, (c.seat A).2.1, (c.seat A).2.2), 0)) = _
    rw [if_neg h1, hs]
  rw [e]
  refine KW.retW rfl rfl rfl rfl (fun H1 g => by have := g.n_; omega) (fun id hid hw => ⟨⟨(o0 id hid).1, fun e => hw (by rw [e]; exact HD.Win.2.1)⟩, (o0 id hid).2⟩) (fun H3 g => ⟨rfl, ?_⟩)
  have hn3 := g.n_
  have hsn : sid < H.n := hs0
  have hnew := (g.blk (j := 1) rfl).1
  have xk : ∀ id, X id → H3.m id = H.m id := fun id p => by
    have p0 := h.sx id p
    exact ((g.froz id ⟨(o0 id p0).1, fun e => h.out id p (by rw [e]; exact HD.Win.2.1)⟩).2).trans (o0 id p0).2
  have nw : ∀ id, New (H.n + 1) H1.n id → (X id ∨ New H.n H3.n id) ∧ H3.m id = H1.m id := fun id p => by
    have q1 := o1 id p
    have p1 := p.1
    have p2 := p.2
    have q3 := g.froz id ⟨q1.1, by omega⟩
    exact ⟨.inr ⟨by omega, by omega⟩, q3.2⟩
  have hN1 : KI.Sl (fun id => X id ∨ New H.n H3.n id) H3 (.slice a1 s.2.1.2.1.length q1) s.2.1.2.1 := sl_mk hO1 nw
  have hN2 : KI.Sl (fun id => X id ∨ New H.n H3.n id) H3 (.slice a2 s.2.1.2.2.length q2) s.2.1.2.2 := sl_mk hO2 nw
  have hscl3 : Cl K_Seat X H3 c.seats scs := hscl.mv xk (fun _ p => p)
  have hR1' : K_Purse.R X H3 _ _ := K_Purse.same xk hR1
  have hR2' : K_Purse.R X H3 _ _ := K_Purse.same xk hR2
  have hcl := hscl3.part (y := (s.2.1, s.2.1, s.2.2)) (a := []) (b := ps) (r := qs ++ [.int .i64 s.2.2]) (b' := [.int .i64 s.2.1.1, .slice a1 s.2.1.2.1.length q1, .slice a2 s.2.1.2.2.length q2]) (X' := fun id => X id ∨ New H.n H3.n id) hse hseg (by rw [hps]; rfl) (fun id p => .inl p) (show K_Seat.R (fun id => X id ∨ New H.n H3.n id) H3 (s.2.1, s.2.1, s.2.2) ([.int .i64 s.2.1.1, .slice a1 s.2.1.2.1.length q1, .slice a2 s.2.1.2.2.length q2] ++ (qs ++ [.int .i64 s.2.2])) from mk_Seat (x := (s.2.1, s.2.1, s.2.2)) (mk_Purse hN1 hN2) (K_Purse.more (fun id p => .inl p) hR2'))
  have e0 : 0 + A.toNat * 7 + 0 = A.toNat * K_Seat.es + ([] : List Value).length := by show 0 + A.toNat * 7 + 0 = A.toNat * 7 + 0; omega
  refine h.reSeatsN (by simp) (fun id h1 h2 => ((g.froz id ⟨(o0 id h1).1, h2⟩).2).trans (o0 id h1).2) (cs := splice scs _ _) ?_ hcl.1
  rw [← e0]
  exact hnew
theorem specNo1 {A B : Int} {did : Nat} (hd : DealOk x) (hB : B_Deal x) (hok : CerOk x c) (h : Hl HTS [.pointer (some ⟨did, 0, none⟩)] [] S H0 X d c) (hD : K_Deal.R D H0 x dcs) (hDv : Has3 D H0 did 0 dcs) (hDD : ∀ id, D id → S id ∧ ¬ d.W id) (hA : x.1.1 ≤ A) :
    SpecW Tryz.prog S H0 d.W 70 [.pointer (some ⟨d.hid, 0, none⟩), .agg [.int .i64 1, .int .i64 A, .int .i64 B].toArray] (HlRes HTS [.pointer (some ⟨did, 0, none⟩)] [] X d (doIt x c (1, A, B))) := by
  refine SpecW.of0 Tryz.func70 rfl (by kernel_rfl) rfl (fun H hfin hfz => ?_)
  haveI o : On S H0 (Low H.n) H := ⟨fun id hs => ⟨(hfz id hs).1, (hfz id hs).2⟩⟩
  have h := h.on (S' := Low H.n) (A' := H)
  have hD : K_Deal.R D H x dcs := K_Deal.same (fun id hid => (hfz id (hDD id hid).1).2) hD
  have hDv : Has3 D H did 0 dcs := by
    obtain ⟨d0, b, d1, d2⟩ := hDv
    exact ⟨d0, b, ((hfz did (hDD did d0).1).2).trans d1, d2⟩
  have hDD : ∀ id, D id → id < H.n ∧ ¬ d.W id := fun id hid => ⟨(hfz id (hDD id hid).1).1, (hDD id hid).2⟩
  have hDL : K_Deal.R (Low H.n) H x dcs := K_Deal.more (fun id p => (hDD id p).1) hD
  have hDvL : Has3 (Low H.n) H did 0 dcs := ⟨(hDD did hDv.1).1, hDv.2⟩
  obtain ⟨d1, d2, d3, d4, d5, d6, d7, d8, rfl⟩ := form_Deal hD
  obtain ⟨hid, sid, gid, bid, nid, w⟩ := d
  have hc := h.cellsH
  have hh := h.hall
  have hsl := hok.sl
  have h7 := hd.sch.h7
  refine KW.cF rfl rfl (by first | (simp; done) | decide) ?_
  refine KW.cF rfl rfl (by first | (simp; done) | decide) ?_
  refine KW.cF rfl rfl (by first | (simp; done) | decide) ?_
  refine KW.cF rfl rfl (by first | (simp; done) | decide) ?_
  refine KW.ldF 0 hc rfl rfl rfl rfl rfl rfl rfl rfl rfl ?_
  refine KW.ldF 0 hDvL rfl rfl rfl rfl rfl rfl rfl rfl rfl ?_
  refine KW.yes rfl rfl (by omega) ?_
  have e : doIt x c (1, A, B) = (c, 2) := by
    show (if x.1.1 ≤ A then (c, 2) else _) = _
    rw [if_pos hA]
  rw [e]
  exact KW.retW rfl rfl rfl rfl (fun H1 g => by have := g.n_; omega) (fun id hid _ => ⟨hid, rfl⟩) (fun H1 g => ⟨rfl, HlPost.same h (fun id p => p) (fun id hid => (g.froz id hid).2)⟩)
theorem specNo2 {A B : Int} {did : Nat} (hd : DealOk x) (hB : B_Deal x) (hok : CerOk x c) (h : Hl HTS [.pointer (some ⟨did, 0, none⟩)] [] S H0 X d c) (hD : K_Deal.R D H0 x dcs) (hDv : Has3 D H0 did 0 dcs) (hDD : ∀ id, D id → S id ∧ ¬ d.W id) (hA : x.1.1 ≤ A) :
    SpecW Tryz.prog S H0 d.W 70 [.pointer (some ⟨d.hid, 0, none⟩), .agg [.int .i64 2, .int .i64 A, .int .i64 B].toArray] (HlRes HTS [.pointer (some ⟨did, 0, none⟩)] [] X d (doIt x c (2, A, B))) := by
  refine SpecW.of0 Tryz.func70 rfl (by kernel_rfl) rfl (fun H hfin hfz => ?_)
  haveI o : On S H0 (Low H.n) H := ⟨fun id hs => ⟨(hfz id hs).1, (hfz id hs).2⟩⟩
  have h := h.on (S' := Low H.n) (A' := H)
  have hD : K_Deal.R D H x dcs := K_Deal.same (fun id hid => (hfz id (hDD id hid).1).2) hD
  have hDv : Has3 D H did 0 dcs := by
    obtain ⟨d0, b, d1, d2⟩ := hDv
    exact ⟨d0, b, ((hfz did (hDD did d0).1).2).trans d1, d2⟩
  have hDD : ∀ id, D id → id < H.n ∧ ¬ d.W id := fun id hid => ⟨(hfz id (hDD id hid).1).1, (hDD id hid).2⟩
  have hDL : K_Deal.R (Low H.n) H x dcs := K_Deal.more (fun id p => (hDD id p).1) hD
  have hDvL : Has3 (Low H.n) H did 0 dcs := ⟨(hDD did hDv.1).1, hDv.2⟩
  obtain ⟨d1, d2, d3, d4, d5, d6, d7, d8, rfl⟩ := form_Deal hD
  obtain ⟨hid, sid, gid, bid, nid, w⟩ := d
  have hc := h.cellsH
  have hh := h.hall
  have hsl := hok.sl
  have h7 := hd.sch.h7
  refine KW.cF rfl rfl (by first | (simp; done) | decide) ?_
  refine KW.cF rfl rfl (by first | (simp; done) | decide) ?_
  refine KW.cF rfl rfl (by first | (simp; done) | decide) ?_
  refine KW.cF rfl rfl (by first | (simp; done) | decide) ?_
  refine KW.ldF 0 hc rfl rfl rfl rfl rfl rfl rfl rfl rfl ?_
  refine KW.ldF 0 hDvL rfl rfl rfl rfl rfl rfl rfl rfl rfl ?_
  refine KW.yes rfl rfl (by omega) ?_
  have e : doIt x c (2, A, B) = (c, 2) := by
    show (if x.1.1 ≤ A then (c, 2) else _) = _
    rw [if_pos hA]
  rw [e]
  exact KW.retW rfl rfl rfl rfl (fun H1 g => by have := g.n_; omega) (fun id hid _ => ⟨hid, rfl⟩) (fun H1 g => ⟨rfl, HlPost.same h (fun id p => p) (fun id hid => (g.froz id hid).2)⟩)
theorem specNo6 {A B : Int} {did : Nat} (hd : DealOk x) (hB : B_Deal x) (hok : CerOk x c) (h : Hl HTS [.pointer (some ⟨did, 0, none⟩)] [] S H0 X d c) (hD : K_Deal.R D H0 x dcs) (hDv : Has3 D H0 did 0 dcs) (hDD : ∀ id, D id → S id ∧ ¬ d.W id) (hA : x.1.1 ≤ A) :
    SpecW Tryz.prog S H0 d.W 70 [.pointer (some ⟨d.hid, 0, none⟩), .agg [.int .i64 6, .int .i64 A, .int .i64 B].toArray] (HlRes HTS [.pointer (some ⟨did, 0, none⟩)] [] X d (doIt x c (6, A, B))) := by
  refine SpecW.of0 Tryz.func70 rfl (by kernel_rfl) rfl (fun H hfin hfz => ?_)
  haveI o : On S H0 (Low H.n) H := ⟨fun id hs => ⟨(hfz id hs).1, (hfz id hs).2⟩⟩
  have h := h.on (S' := Low H.n) (A' := H)
  have hD : K_Deal.R D H x dcs := K_Deal.same (fun id hid => (hfz id (hDD id hid).1).2) hD
  have hDv : Has3 D H did 0 dcs := by
    obtain ⟨d0, b, d1, d2⟩ := hDv
    exact ⟨d0, b, ((hfz did (hDD did d0).1).2).trans d1, d2⟩
  have hDD : ∀ id, D id → id < H.n ∧ ¬ d.W id := fun id hid => ⟨(hfz id (hDD id hid).1).1, (hDD id hid).2⟩
  have hDL : K_Deal.R (Low H.n) H x dcs := K_Deal.more (fun id p => (hDD id p).1) hD
  have hDvL : Has3 (Low H.n) H did 0 dcs := ⟨(hDD did hDv.1).1, hDv.2⟩
  obtain ⟨d1, d2, d3, d4, d5, d6, d7, d8, rfl⟩ := form_Deal hD
  obtain ⟨hid, sid, gid, bid, nid, w⟩ := d
  have hc := h.cellsH
  have hh := h.hall
  have hsl := hok.sl
  have h7 := hd.sch.h7
  refine KW.cF rfl rfl (by first | (simp; done) | decide) ?_
  refine KW.cF rfl rfl (by first | (simp; done) | decide) ?_
  refine KW.cF rfl rfl (by first | (simp; done) | decide) ?_
  refine KW.cF rfl rfl (by first | (simp; done) | decide) ?_
  refine KW.ldF 0 hc rfl rfl rfl rfl rfl rfl rfl rfl rfl ?_
  refine KW.ldF 0 hDvL rfl rfl rfl rfl rfl rfl rfl rfl rfl ?_
  refine KW.yes rfl rfl (by omega) ?_
  have e : doIt x c (6, A, B) = (c, 2) := by
    show (if x.1.1 ≤ A then (c, 2) else _) = _
    rw [if_pos hA]
  rw [e]
  exact KW.retW rfl rfl rfl rfl (fun H1 g => by have := g.n_; omega) (fun id hid _ => ⟨hid, rfl⟩) (fun H1 g => ⟨rfl, HlPost.same h (fun id p => p) (fun id hid => (g.froz id hid).2)⟩)
theorem specNo7 {A B : Int} {did : Nat} (hd : DealOk x) (hB : B_Deal x) (hok : CerOk x c) (h : Hl HTS [.pointer (some ⟨did, 0, none⟩)] [] S H0 X d c) (hD : K_Deal.R D H0 x dcs) (hDv : Has3 D H0 did 0 dcs) (hDD : ∀ id, D id → S id ∧ ¬ d.W id) (hA : x.1.1 ≤ A) :
    SpecW Tryz.prog S H0 d.W 70 [.pointer (some ⟨d.hid, 0, none⟩), .agg [.int .i64 7, .int .i64 A, .int .i64 B].toArray] (HlRes HTS [.pointer (some ⟨did, 0, none⟩)] [] X d (doIt x c (7, A, B))) := by
  refine SpecW.of0 Tryz.func70 rfl (by kernel_rfl) rfl (fun H hfin hfz => ?_)
  haveI o : On S H0 (Low H.n) H := ⟨fun id hs => ⟨(hfz id hs).1, (hfz id hs).2⟩⟩
  have h := h.on (S' := Low H.n) (A' := H)
  have hD : K_Deal.R D H x dcs := K_Deal.same (fun id hid => (hfz id (hDD id hid).1).2) hD
  have hDv : Has3 D H did 0 dcs := by
    obtain ⟨d0, b, d1, d2⟩ := hDv
    exact ⟨d0, b, ((hfz did (hDD did d0).1).2).trans d1, d2⟩
  have hDD : ∀ id, D id → id < H.n ∧ ¬ d.W id := fun id hid => ⟨(hfz id (hDD id hid).1).1, (hDD id hid).2⟩
  have hDL : K_Deal.R (Low H.n) H x dcs := K_Deal.more (fun id p => (hDD id p).1) hD
  have hDvL : Has3 (Low H.n) H did 0 dcs := ⟨(hDD did hDv.1).1, hDv.2⟩
  obtain ⟨d1, d2, d3, d4, d5, d6, d7, d8, rfl⟩ := form_Deal hD
  obtain ⟨hid, sid, gid, bid, nid, w⟩ := d
  have hc := h.cellsH
  have hh := h.hall
  have hsl := hok.sl
  have h7 := hd.sch.h7
  refine KW.cF rfl rfl (by first | (simp; done) | decide) ?_
  refine KW.cF rfl rfl (by first | (simp; done) | decide) ?_
  refine KW.cF rfl rfl (by first | (simp; done) | decide) ?_
  refine KW.cF rfl rfl (by first | (simp; done) | decide) ?_
  refine KW.ldF 0 hc rfl rfl rfl rfl rfl rfl rfl rfl rfl ?_
  refine KW.ldF 0 hDvL rfl rfl rfl rfl rfl rfl rfl rfl rfl ?_
  refine KW.yes rfl rfl (by omega) ?_
  have e : doIt x c (7, A, B) = (c, 2) := by
    show (if x.1.1 ≤ A then (c, 2) else _) = _
    rw [if_pos hA]
  rw [e]
  exact KW.retW rfl rfl rfl rfl (fun H1 g => by have := g.n_; omega) (fun id hid _ => ⟨hid, rfl⟩) (fun H1 g => ⟨rfl, HlPost.same h (fun id p => p) (fun id hid => (g.froz id hid).2)⟩)
theorem specNo8 {A B : Int} {did : Nat} (hd : DealOk x) (hB : B_Deal x) (hok : CerOk x c) (h : Hl HTS [.pointer (some ⟨did, 0, none⟩)] [] S H0 X d c) (hD : K_Deal.R D H0 x dcs) (hDv : Has3 D H0 did 0 dcs) (hDD : ∀ id, D id → S id ∧ ¬ d.W id) (hA : x.1.1 ≤ A) :
    SpecW Tryz.prog S H0 d.W 70 [.pointer (some ⟨d.hid, 0, none⟩), .agg [.int .i64 8, .int .i64 A, .int .i64 B].toArray] (HlRes HTS [.pointer (some ⟨did, 0, none⟩)] [] X d (doIt x c (8, A, B))) := by
  refine SpecW.of0 Tryz.func70 rfl (by kernel_rfl) rfl (fun H hfin hfz => ?_)
  haveI o : On S H0 (Low H.n) H := ⟨fun id hs => ⟨(hfz id hs).1, (hfz id hs).2⟩⟩
  have h := h.on (S' := Low H.n) (A' := H)
  have hD : K_Deal.R D H x dcs := K_Deal.same (fun id hid => (hfz id (hDD id hid).1).2) hD
  have hDv : Has3 D H did 0 dcs := by
    obtain ⟨d0, b, d1, d2⟩ := hDv
    exact ⟨d0, b, ((hfz did (hDD did d0).1).2).trans d1, d2⟩
  have hDD : ∀ id, D id → id < H.n ∧ ¬ d.W id := fun id hid => ⟨(hfz id (hDD id hid).1).1, (hDD id hid).2⟩
  have hDL : K_Deal.R (Low H.n) H x dcs := K_Deal.more (fun id p => (hDD id p).1) hD
  have hDvL : Has3 (Low H.n) H did 0 dcs := ⟨(hDD did hDv.1).1, hDv.2⟩
  obtain ⟨d1, d2, d3, d4, d5, d6, d7, d8, rfl⟩ := form_Deal hD
  obtain ⟨hid, sid, gid, bid, nid, w⟩ := d
  have hc := h.cellsH
  have hh := h.hall
  have hsl := hok.sl
  have h7 := hd.sch.h7
  refine KW.cF rfl rfl (by first | (simp; done) | decide) ?_
  refine KW.cF rfl rfl (by first | (simp; done) | decide) ?_
  refine KW.cF rfl rfl (by first | (simp; done) | decide) ?_
  refine KW.cF rfl rfl (by first | (simp; done) | decide) ?_
  refine KW.ldF 0 hc rfl rfl rfl rfl rfl rfl rfl rfl rfl ?_
  refine KW.ldF 0 hDvL rfl rfl rfl rfl rfl rfl rfl rfl rfl ?_
  refine KW.yes rfl rfl (by omega) ?_
  have e : doIt x c (8, A, B) = (c, 2) := by
    show (if x.1.1 ≤ A then (c, 2) else _) = _
    rw [if_pos hA]
  rw [e]
  exact KW.retW rfl rfl rfl rfl (fun H1 g => by have := g.n_; omega) (fun id hid _ => ⟨hid, rfl⟩) (fun H1 g => ⟨rfl, HlPost.same h (fun id p => p) (fun id hid => (g.froz id hid).2)⟩)
theorem implNo1 {A B : Int} (hd : DealOk x) (hB : B_Deal x) (hok : CerOk x c) (h : Hl HTI [] dcs S H0 X d c) (hD : K_Deal.R D H0 x dcs) (hDD : ∀ id, D id → S id ∧ ¬ d.W id) (hA : x.1.1 ≤ A) :
    SpecW Tryz.prog S H0 d.W 77 [.pointer (some ⟨d.hid, 0, none⟩), .agg [.int .i64 1, .int .i64 A, .int .i64 B].toArray] (HlRes HTI [] dcs X d (doIt x c (1, A, B))) := by
  obtain ⟨d1, d2, d3, d4, d5, d6, d7, d8, rfl⟩ := form_Deal hD
  refine SpecW.of0 Tryz.func77 rfl (by kernel_rfl) rfl (fun H hfin hfz => ?_)
  haveI o : On S H0 (Low H.n) H := ⟨fun id hs => ⟨(hfz id hs).1, (hfz id hs).2⟩⟩
  have h := h.on (S' := Low H.n) (A' := H)
  have hD : K_Deal.R D H x _ := K_Deal.same (fun id hid => (hfz id (hDD id hid).1).2) hD
  obtain ⟨hid, sid, gid, bid, nid, w⟩ := d
  have hc := h.cellsH
  have h7 := hd.sch.h7
  have h1h := hd.sch.h1
  have ewr : IntKind.i64.wrap (x.1.1 - 1) = x.1.1 - 1 := wr (by omega) (by omega)
  refine KW.cF rfl rfl (by first | (simp; done) | decide) ?_
  refine KW.cF rfl rfl (by first | (simp; done) | decide) ?_
  refine KW.cF rfl rfl (by first | (simp; done) | decide) ?_
  refine KW.cF rfl rfl (by first | (simp; done) | decide) ?_
  refine KW.callE rfl rfl rfl rfl rfl (implIsHolder hB (by unfold I64; omega) A hc hD) (fun nE mE => ?_)
  refine KW.cT rfl rfl (by rw [ewr]; simp; omega) ?_
  have e : doIt x c (1, A, B) = (c, 2) := by
    show (if x.1.1 ≤ A then (c, 2) else _) = _
    rw [if_pos hA]
  rw [e]
  exact KW.retW rfl rfl rfl rfl (fun H1 g => by have := g.n_; omega) (fun id hid _ => ⟨hid, rfl⟩) (fun H1 g => ⟨rfl, HlPost.same h (fun id p => p) (fun id hid => (g.froz id hid).2)⟩)
theorem implNo2 {A B : Int} (hd : DealOk x) (hB : B_Deal x) (hok : CerOk x c) (h : Hl HTI [] dcs S H0 X d c) (hD : K_Deal.R D H0 x dcs) (hDD : ∀ id, D id → S id ∧ ¬ d.W id) (hA : x.1.1 ≤ A) :
    SpecW Tryz.prog S H0 d.W 77 [.pointer (some ⟨d.hid, 0, none⟩), .agg [.int .i64 2, .int .i64 A, .int .i64 B].toArray] (HlRes HTI [] dcs X d (doIt x c (2, A, B))) := by
  obtain ⟨d1, d2, d3, d4, d5, d6, d7, d8, rfl⟩ := form_Deal hD
  refine SpecW.of0 Tryz.func77 rfl (by kernel_rfl) rfl (fun H hfin hfz => ?_)
  haveI o : On S H0 (Low H.n) H := ⟨fun id hs => ⟨(hfz id hs).1, (hfz id hs).2⟩⟩
  have h := h.on (S' := Low H.n) (A' := H)
  have hD : K_Deal.R D H x _ := K_Deal.same (fun id hid => (hfz id (hDD id hid).1).2) hD
  obtain ⟨hid, sid, gid, bid, nid, w⟩ := d
  have hc := h.cellsH
  have h7 := hd.sch.h7
  have h1h := hd.sch.h1
  have ewr : IntKind.i64.wrap (x.1.1 - 1) = x.1.1 - 1 := wr (by omega) (by omega)
  refine KW.cF rfl rfl (by first | (simp; done) | decide) ?_
  refine KW.cF rfl rfl (by first | (simp; done) | decide) ?_
  refine KW.cF rfl rfl (by first | (simp; done) | decide) ?_
  refine KW.cF rfl rfl (by first | (simp; done) | decide) ?_
  refine KW.callE rfl rfl rfl rfl rfl (implIsHolder hB (by unfold I64; omega) A hc hD) (fun nE mE => ?_)
  refine KW.cT rfl rfl (by rw [ewr]; simp; omega) ?_
  have e : doIt x c (2, A, B) = (c, 2) := by
    show (if x.1.1 ≤ A then (c, 2) else _) = _
    rw [if_pos hA]
  rw [e]
  exact KW.retW rfl rfl rfl rfl (fun H1 g => by have := g.n_; omega) (fun id hid _ => ⟨hid, rfl⟩) (fun H1 g => ⟨rfl, HlPost.same h (fun id p => p) (fun id hid => (g.froz id hid).2)⟩)
theorem implNo6 {A B : Int} (hd : DealOk x) (hB : B_Deal x) (hok : CerOk x c) (h : Hl HTI [] dcs S H0 X d c) (hD : K_Deal.R D H0 x dcs) (hDD : ∀ id, D id → S id ∧ ¬ d.W id) (hA : x.1.1 ≤ A) :
    SpecW Tryz.prog S H0 d.W 77 [.pointer (some ⟨d.hid, 0, none⟩), .agg [.int .i64 6, .int .i64 A, .int .i64 B].toArray] (HlRes HTI [] dcs X d (doIt x c (6, A, B))) := by
  obtain ⟨d1, d2, d3, d4, d5, d6, d7, d8, rfl⟩ := form_Deal hD
  refine SpecW.of0 Tryz.func77 rfl (by kernel_rfl) rfl (fun H hfin hfz => ?_)
  haveI o : On S H0 (Low H.n) H := ⟨fun id hs => ⟨(hfz id hs).1, (hfz id hs).2⟩⟩
  have h := h.on (S' := Low H.n) (A' := H)
  have hD : K_Deal.R D H x _ := K_Deal.same (fun id hid => (hfz id (hDD id hid).1).2) hD
  obtain ⟨hid, sid, gid, bid, nid, w⟩ := d
  have hc := h.cellsH
  have h7 := hd.sch.h7
  have h1h := hd.sch.h1
  have ewr : IntKind.i64.wrap (x.1.1 - 1) = x.1.1 - 1 := wr (by omega) (by omega)
  refine KW.cF rfl rfl (by first | (simp; done) | decide) ?_
  refine KW.cF rfl rfl (by first | (simp; done) | decide) ?_
  refine KW.cF rfl rfl (by first | (simp; done) | decide) ?_
  refine KW.cF rfl rfl (by first | (simp; done) | decide) ?_
  refine KW.callE rfl rfl rfl rfl rfl (implIsHolder hB (by unfold I64; omega) A hc hD) (fun nE mE => ?_)
  refine KW.cT rfl rfl (by rw [ewr]; simp; omega) ?_
  have e : doIt x c (6, A, B) = (c, 2) := by
    show (if x.1.1 ≤ A then (c, 2) else _) = _
    rw [if_pos hA]
  rw [e]
  exact KW.retW rfl rfl rfl rfl (fun H1 g => by have := g.n_; omega) (fun id hid _ => ⟨hid, rfl⟩) (fun H1 g => ⟨rfl, HlPost.same h (fun id p => p) (fun id hid => (g.froz id hid).2)⟩)
theorem implNo7 {A B : Int} (hd : DealOk x) (hB : B_Deal x) (hok : CerOk x c) (h : Hl HTI [] dcs S H0 X d c) (hD : K_Deal.R D H0 x dcs) (hDD : ∀ id, D id → S id ∧ ¬ d.W id) (hA : x.1.1 ≤ A) :
    SpecW Tryz.prog S H0 d.W 77 [.pointer (some ⟨d.hid, 0, none⟩), .agg [.int .i64 7, .int .i64 A, .int .i64 B].toArray] (HlRes HTI [] dcs X d (doIt x c (7, A, B))) := by
  obtain ⟨d1, d2, d3, d4, d5, d6, d7, d8, rfl⟩ := form_Deal hD
  refine SpecW.of0 Tryz.func77 rfl (by kernel_rfl) rfl (fun H hfin hfz => ?_)
  haveI o : On S H0 (Low H.n) H := ⟨fun id hs => ⟨(hfz id hs).1, (hfz id hs).2⟩⟩
  have h := h.on (S' := Low H.n) (A' := H)
  have hD : K_Deal.R D H x _ := K_Deal.same (fun id hid => (hfz id (hDD id hid).1).2) hD
  obtain ⟨hid, sid, gid, bid, nid, w⟩ := d
  have hc := h.cellsH
  have h7 := hd.sch.h7
  have h1h := hd.sch.h1
  have ewr : IntKind.i64.wrap (x.1.1 - 1) = x.1.1 - 1 := wr (by omega) (by omega)
  refine KW.cF rfl rfl (by first | (simp; done) | decide) ?_
  refine KW.cF rfl rfl (by first | (simp; done) | decide) ?_
  refine KW.cF rfl rfl (by first | (simp; done) | decide) ?_
  refine KW.cF rfl rfl (by first | (simp; done) | decide) ?_
  refine KW.callE rfl rfl rfl rfl rfl (implIsHolder hB (by unfold I64; omega) A hc hD) (fun nE mE => ?_)
  refine KW.cT rfl rfl (by rw [ewr]; simp; omega) ?_
  have e : doIt x c (7, A, B) = (c, 2) := by
    show (if x.1.1 ≤ A then (c, 2) else _) = _
    rw [if_pos hA]
  rw [e]
  exact KW.retW rfl rfl rfl rfl (fun H1 g => by have := g.n_; omega) (fun id hid _ => ⟨hid, rfl⟩) (fun H1 g => ⟨rfl, HlPost.same h (fun id p => p) (fun id hid => (g.froz id hid).2)⟩)
theorem implNo8 {A B : Int} (hd : DealOk x) (hB : B_Deal x) (hok : CerOk x c) (h : Hl HTI [] dcs S H0 X d c) (hD : K_Deal.R D H0 x dcs) (hDD : ∀ id, D id → S id ∧ ¬ d.W id) (hA : x.1.1 ≤ A) :
    SpecW Tryz.prog S H0 d.W 77 [.pointer (some ⟨d.hid, 0, none⟩), .agg [.int .i64 8, .int .i64 A, .int .i64 B].toArray] (HlRes HTI [] dcs X d (doIt x c (8, A, B))) := by
  obtain ⟨d1, d2, d3, d4, d5, d6, d7, d8, rfl⟩ := form_Deal hD
  refine SpecW.of0 Tryz.func77 rfl (by kernel_rfl) rfl (fun H hfin hfz => ?_)
  haveI o : On S H0 (Low H.n) H := ⟨fun id hs => ⟨(hfz id hs).1, (hfz id hs).2⟩⟩
  have h := h.on (S' := Low H.n) (A' := H)
  have hD : K_Deal.R D H x _ := K_Deal.same (fun id hid => (hfz id (hDD id hid).1).2) hD
  obtain ⟨hid, sid, gid, bid, nid, w⟩ := d
  have hc := h.cellsH
  have h7 := hd.sch.h7
  have h1h := hd.sch.h1
  have ewr : IntKind.i64.wrap (x.1.1 - 1) = x.1.1 - 1 := wr (by omega) (by omega)
  refine KW.cF rfl rfl (by first | (simp; done) | decide) ?_
  refine KW.cF rfl rfl (by first | (simp; done) | decide) ?_
  refine KW.cF rfl rfl (by first | (simp; done) | decide) ?_
  refine KW.cF rfl rfl (by first | (simp; done) | decide) ?_
  refine KW.callE rfl rfl rfl rfl rfl (implIsHolder hB (by unfold I64; omega) A hc hD) (fun nE mE => ?_)
  refine KW.cT rfl rfl (by rw [ewr]; simp; omega) ?_
  have e : doIt x c (8, A, B) = (c, 2) := by
    show (if x.1.1 ≤ A then (c, 2) else _) = _
    rw [if_pos hA]
  rw [e]
  exact KW.retW rfl rfl rfl rfl (fun H1 g => by have := g.n_; omega) (fun id hid _ => ⟨hid, rfl⟩) (fun H1 g => ⟨rfl, HlPost.same h (fun id p => p) (fun id hid => (g.froz id hid).2)⟩)
end
end Go.Proofs.YtijmkfnmdhpakaaGreat.Am
/- Contracts: what is given is a ceremony, both sides; a deed of any kind. Each holds under its own conditions. -/
set_option linter.unusedVariables false
set_option linter.unusedSimpArgs false
set_option maxRecDepth 20000
namespace Go.Proofs.YtijmkfnmdhpakaaGreat.Am
open Go Go.RowKit Go.Proofs
def OkAll (x : T_Deal) (ds : List T_Deed) : Prop := DealOk x ∧ ∀ d ∈ ds, DeedP d
noncomputable def givenC (x : T_Deal) (ds : List T_Deed) : Int := if tv (OkAll x ds) = true then (if (400 : Int) < ds.length then 2 else 0) else 1
section
variable {S : Ids} {H0 : AH} {x : T_Deal} {ds : List T_Deed} {dcs : List Value}
theorem deedsCode1 (d : T_Deed) : Spec Tryz.prog S H0 74 [.agg [.int .i64 d.1, .int .i64 d.2.1, .int .i64 d.2.2].toArray] (fun v => v = .bool (!tv (DeedP d))) := by
  refine Spec.of1 Tryz.func74 rfl (by kernel_rfl) rfl (fun H _ => ?_)
  refine KW.callE rfl rfl rfl rfl rfl (validDeed d) (fun _ _ => ?_)
  exact KW.ret rfl rfl rfl rfl (rfl)
theorem indexFuncD {a c} (hl : ds.length ≤ 4611686018427387904) (hs : K_Deed.Sl S H0 (.slice a ds.length c) ds) :
    Spec Tryz.prog S H0 110 [.slice a ds.length c, .func (.func 74) #[] #[]] (fun v => ∃ r : Int, v = .int .i64 r ∧ (r ≥ 0 ↔ ∃ d ∈ ds, ¬ DeedP d)) := by
  refine Spec.of1 Tryz.func110 rfl (by kernel_rfl) rfl (fun H _ => ?_)
  refine KW.lp rfl rfl (fun i : Nat => [(0, .slice a ds.length c), (1, .func (.func 74) #[] #[]), (7, .int .i64 ds.length), (8, .int .i64 i)]) (fun i => i ≤ ds.length ∧ ∀ j, j < i → ∀ d, ds[j]? = some d → DeedP d) (fun i => ds.length - i) (0) (⟨by omega, fun j h => absurd h (by omega)⟩) ⟨rfl, rfl, rfl, rfl, trivial⟩ (fun i hi bE n => ?_)
  obtain ⟨hi, hj⟩ := hi
  refine KW.cnd rfl rfl (fun h => ?_) (fun h => ?_)
  · refine KW.getS (td := .struct #[]) hs.up rfl rfl rfl rfl rfl rfl rfl rfl rfl rfl rfl rfl rfl rfl rfl rfl rfl (by omega) (h) (fun y cy hy hsy => ?_)
    have hy : ds[i]? = some y := hy
    obtain rfl := form_Deed hsy
    have hmem := List.mem_of_getElem? hy
    refine KW.callE rfl rfl rfl rfl rfl (deedsCode1 y) (fun _ _ => ?_)
    refine KW.cndB rfl rfl (fun h2 => ?_) (fun h2 => ?_)
    · have h2 : ¬ DeedP y := fun p => by rw [tv_true p] at h2; cases h2
      exact KW.ret rfl rfl rfl rfl (⟨(i : Int), rfl, fun _ => ⟨y, hmem, h2⟩, fun _ => by omega⟩)
    · have h2 : DeedP y := tv_iff.1 (by simpa using h2)
      refine KW.nxt rfl rfl (fun H' g => ⟨i + 1, ⟨by omega, upto hj (fun z hz => by rw [hy] at hz; cases hz; exact h2)⟩, by first | omega | (simp only; omega), ⟨rfl, rfl, rfl, congrArg (Value.int .i64) (inc64 (by omega)), trivial⟩, g⟩)
  · refine KW.ret rfl rfl rfl rfl ⟨-1, rfl, fun h => absurd h (by decide), fun ⟨d, hd, hpd⟩ => ?_⟩
    obtain ⟨j, hjx⟩ := List.getElem?_of_mem hd
    exact absurd (hj j (by have := (List.getElem?_eq_some_iff.1 hjx).1; omega) d hjx) hpd
theorem containsFuncD {a c} (hl : ds.length ≤ 4611686018427387904) (hs : K_Deed.Sl S H0 (.slice a ds.length c) ds) :
    Spec Tryz.prog S H0 73 [.slice a ds.length c, .func (.func 74) #[] #[]] (fun v => v = .bool (tv (∃ d ∈ ds, ¬ DeedP d))) := by
  refine Spec.of1 Tryz.func73 rfl (by kernel_rfl) rfl (fun H _ => ?_)
  refine KW.call rfl rfl rfl rfl rfl (indexFuncD hl hs.up) (fun v _ _ hv => ?_)
  obtain ⟨r, rfl, hr⟩ := hv
  refine KW.ret rfl rfl rfl rfl ?_
  show Value.bool (decide (r ≥ 0)) = _
  rw [tv_dec, tv_congr hr]
theorem deedsCode {a c} (hB : B_Deal x) (hl : ds.length ≤ 1048576) (hD : K_Deal.R S H0 x dcs) (hs : K_Deed.Sl S H0 (.slice a ds.length c) ds) : Spec Tryz.prog S H0 41 [.agg dcs.toArray, .slice a ds.length c] (fun v => v = .int .i64 (givenC x ds)) := by
  obtain ⟨a1, c1, a2, c2, a3, c3, a4, c4, rfl, h1, h2, h3, h4⟩ := split2_Deal hD
  refine Spec.of1 Tryz.func41 rfl (by kernel_rfl) rfl (fun H _ => ?_)
  refine KW.callE rfl rfl rfl rfl rfl (validDeal x.1.1 x.1.2.2.1 x.1.2.2.2.1 x.2.1 hB.1.2.2.1 hB.1.2.1 hB.1.2.2.2.2 hB.2.2.1 hB.2.2.2 h1.up h2.up h3.up h4.up) (fun _ _ => ?_)
  refine KW.tstB rfl rfl (fun k1 => ?_) (fun k1 => ?_)
  · have k1 : ¬ DealOk x := fun p => by unfold DealOk at p; rw [tv_true p] at k1; cases k1
    have e : givenC x ds = 1 := by unfold givenC; rw [tv_false (fun p => k1 p.1)]; rfl
    repeat first | refine KW.tT rfl rfl rfl ?_ | refine KW.tF rfl rfl rfl ?_
    refine KW.cT rfl rfl (by first | (simp; done) | decide) ?_
    rw [e]
    exact KW.ret rfl rfl rfl rfl (rfl)
  · have k1 : DealOk x := by unfold DealOk; exact tv_iff.1 (by simpa using k1)
    refine KW.callE rfl rfl rfl rfl rfl (containsFuncD (by omega) hs.up) (fun _ _ => ?_)
    refine KW.cndB rfl rfl (fun k2 => ?_) (fun k2 => ?_)
    · have k2 := tv_iff.1 k2
      have e : givenC x ds = 1 := by unfold givenC; rw [tv_false (fun p => by obtain ⟨d, h1, h2⟩ := k2; exact h2 (p.2 d h1))]; rfl
      rw [e]
      exact KW.ret rfl rfl rfl rfl (rfl)
    · have k2 : ∀ d ∈ ds, DeedP d := fun d hd => by
        refine Classical.byContradiction fun hn => ?_
        rw [tv_true ⟨d, hd, hn⟩] at k2
        cases k2
      have e : givenC x ds = if (400 : Int) < ds.length then 2 else 0 := by unfold givenC; rw [tv_true ⟨k1, k2⟩]; rfl
      refine KW.cnd rfl rfl (fun k3 => ?_) (fun k3 => ?_)
      · rw [e, if_pos k3]
        exact KW.ret rfl rfl rfl rfl (rfl)
      · rw [e, if_neg k3]
        exact KW.ret rfl rfl rfl rfl (rfl)
theorem l08Given {a c} {did : Nat} (hB : B_Deal x) (hl : ds.length ≤ 1048576) (hD : K_Deal.R S H0 x dcs) (hDv : Has3 S H0 did 0 dcs) (hs : K_Deed.Sl S H0 (.slice a ds.length c) ds) : Spec Tryz.prog S H0 34 [.pointer (some ⟨did, 0, none⟩), .slice a ds.length c] (fun v => v = .int .i64 (givenC x ds)) := by
  obtain ⟨a1, c1, a2, c2, a3, c3, a4, c4, rfl, h1, h2, h3, h4⟩ := split2_Deal hD
  refine Spec.of1 Tryz.func34 rfl (by kernel_rfl) rfl (fun H _ => ?_)
  refine KW.callE rfl rfl rfl rfl rfl (l08Ok x.1.1 x.1.2.2.1 x.1.2.2.2.1 x.2.1 hB.1.2.2.1 hB.1.2.1 hB.1.2.2.2.2 hB.2.2.1 hB.2.2.2 hDv.up h1.up h2.up h3.up h4.up) (fun _ _ => ?_)
  refine KW.cndB rfl rfl (fun k1 => ?_) (fun k1 => ?_)
  · have k1 : ¬ DealOk x := fun p => by unfold DealOk at p; rw [tv_true p] at k1; cases k1
    have e : givenC x ds = 1 := by unfold givenC; rw [tv_false (fun p => k1 p.1)]; rfl
    rw [e]
    exact KW.ret rfl rfl rfl rfl (rfl)
  · have k1 : DealOk x := by unfold DealOk; exact tv_iff.1 (by simpa using k1)
    refine KW.lp rfl rfl (fun i : Nat => [(0, .pointer (some ⟨did, 0, none⟩)), (1, .slice a ds.length c), (5, .int .i64 i)]) (fun i => i ≤ ds.length ∧ ∀ j, j < i → ∀ d, ds[j]? = some d → DeedP d) (fun i => ds.length - i) (0) (⟨by omega, fun j h => absurd h (by omega)⟩) ⟨rfl, rfl, rfl, trivial⟩ (fun i hi bE n => ?_)
    obtain ⟨hi, hj⟩ := hi
    refine KW.cnd rfl rfl (fun h => ?_) (fun h => ?_)
    · refine KW.getS (td := .struct #[]) hs.up rfl rfl rfl rfl rfl rfl rfl rfl rfl rfl rfl rfl rfl rfl rfl rfl rfl (by omega) (h) (fun y cy hy hsy => ?_)
      have hy : ds[i]? = some y := hy
      obtain rfl := form_Deed hsy
      have hmem := List.mem_of_getElem? hy
      refine KW.callE rfl rfl rfl rfl rfl (l08Deed y) (fun _ _ => ?_)
      refine KW.cndB rfl rfl (fun h2 => ?_) (fun h2 => ?_)
      · have h2 : ¬ DeedP y := fun p => by rw [tv_true p] at h2; cases h2
        have e : givenC x ds = 1 := by unfold givenC; rw [tv_false (fun p => h2 (p.2 y hmem))]; rfl
        rw [e]
        exact KW.ret rfl rfl rfl rfl (rfl)
      · have h2 : DeedP y := tv_iff.1 (by simpa using h2)
        refine KW.nxt rfl rfl (fun H' g => ⟨i + 1, ⟨by omega, upto hj (fun z hz => by rw [hy] at hz; cases hz; exact h2)⟩, by first | omega | (simp only; omega), ⟨rfl, rfl, congrArg (Value.int .i64) (inc64 (by omega)), trivial⟩, g⟩)
    have k2 : ∀ d ∈ ds, DeedP d := fun d hd => by
      obtain ⟨j, hjx⟩ := List.getElem?_of_mem hd
      exact hj j (by have := (List.getElem?_eq_some_iff.1 hjx).1; omega) d hjx
    have e : givenC x ds = if (400 : Int) < ds.length then 2 else 0 := by unfold givenC; rw [tv_true ⟨k1, k2⟩]; rfl
    refine KW.cnd rfl rfl (fun k3 => ?_) (fun k3 => ?_)
    · rw [e, if_pos k3]
      exact KW.ret rfl rfl rfl rfl (rfl)
    · rw [e, if_neg k3]
      exact KW.ret rfl rfl rfl rfl (rfl)
end
section
variable {S : Ids} {H0 : AH} {X D : Ids} {d : HD} {c : Cer} {dcs : List Value} {x : T_Deal}
theorem implDo {dd : T_Deed} (hdd : DeedP dd) (hd : DealOk x) (hB : B_Deal x) (hok : CerOk x c) (h : Hl HTI [] dcs S H0 X d c) (hD : K_Deal.R D H0 x dcs) (hDD : ∀ id, D id → S id ∧ ¬ d.W id) :
    SpecW Tryz.prog S H0 d.W 77 [.pointer (some ⟨d.hid, 0, none⟩), .agg [.int .i64 dd.1, .int .i64 dd.2.1, .int .i64 dd.2.2].toArray] (HlRes HTI [] dcs X d (doIt x c dd)) := by
  obtain ⟨k, A, B⟩ := dd
  obtain ⟨hk, hA, hB2, _, _⟩ := hdd
  simp only at hk hA hB2 ⊢
  have hho : ¬ x.1.1 ≤ A → HoOk x A := fun p => ⟨hA.1, by omega⟩
  have : k = 1 ∨ k = 2 ∨ k = 3 ∨ k = 4 ∨ k = 5 ∨ k = 6 ∨ k = 7 ∨ k = 8 ∨ k = 9 := by omega
  rcases this with rfl | rfl | rfl | rfl | rfl | rfl | rfl | rfl | rfl
  · by_cases p : x.1.1 ≤ A
    · exact implNo1 hd hB hok h hD hDD p
    · exact implDo1 hd hB hok h hD hDD (hho p)
  · by_cases p : x.1.1 ≤ A
    · exact implNo2 hd hB hok h hD hDD p
    · exact implDo2 hd hB hok h hD hDD (hho p)
  · exact implDo3 hd hB hok h hD hDD hA
  · exact implDo4 hd hB hok h hD hDD hA
  · exact implDo5 hd hB hok h hD hDD hA
  · by_cases p : x.1.1 ≤ A
    · exact implNo6 hd hB hok h hD hDD p
    · exact implDo6 hd hB hok h hD hDD (hho p) hB2
  · by_cases p : x.1.1 ≤ A
    · exact implNo7 hd hB hok h hD hDD p
    · exact implDo7 hd hB hok h hD hDD (hho p)
  · by_cases p : x.1.1 ≤ A
    · exact implNo8 hd hB hok h hD hDD p
    · exact implDo8 hd hB hok h hD hDD (hho p)
  · exact implDo9 hd hB hok h hD hDD
theorem specDo {dd : T_Deed} {did : Nat} (hdd : DeedP dd) (hd : DealOk x) (hB : B_Deal x) (hok : CerOk x c) (h : Hl HTS [.pointer (some ⟨did, 0, none⟩)] [] S H0 X d c) (hD : K_Deal.R D H0 x dcs) (hDv : Has3 D H0 did 0 dcs) (hDD : ∀ id, D id → S id ∧ ¬ d.W id) :
    SpecW Tryz.prog S H0 d.W 70 [.pointer (some ⟨d.hid, 0, none⟩), .agg [.int .i64 dd.1, .int .i64 dd.2.1, .int .i64 dd.2.2].toArray] (HlRes HTS [.pointer (some ⟨did, 0, none⟩)] [] X d (doIt x c dd)) := by
  obtain ⟨k, A, B⟩ := dd
  obtain ⟨hk, hA, hB2, _, _⟩ := hdd
  simp only at hk hA hB2 ⊢
  have hho : ¬ x.1.1 ≤ A → HoOk x A := fun p => ⟨hA.1, by omega⟩
  have : k = 1 ∨ k = 2 ∨ k = 3 ∨ k = 4 ∨ k = 5 ∨ k = 6 ∨ k = 7 ∨ k = 8 ∨ k = 9 := by omega
  rcases this with rfl | rfl | rfl | rfl | rfl | rfl | rfl | rfl | rfl
  · by_cases p : x.1.1 ≤ A
    · exact specNo1 hd hB hok h hD hDv hDD p
    · exact specDo1 hd hB hok h hD hDv hDD (hho p)
  · by_cases p : x.1.1 ≤ A
    · exact specNo2 hd hB hok h hD hDv hDD p
    · exact specDo2 hd hB hok h hD hDv hDD (hho p)
  · exact specDo3 hd hB hok h hD hDv hDD hA
  · exact specDo4 hd hB hok h hD hDv hDD hA
  · exact specDo5 hd hB hok h hD hDv hDD hA
  · by_cases p : x.1.1 ≤ A
    · exact specNo6 hd hB hok h hD hDv hDD p
    · exact specDo6 hd hB hok h hD hDv hDD (hho p)
  · by_cases p : x.1.1 ≤ A
    · exact specNo7 hd hB hok h hD hDv hDD p
    · exact specDo7 hd hB hok h hD hDv hDD (hho p)
  · by_cases p : x.1.1 ≤ A
    · exact specNo8 hd hB hok h hD hDv hDD p
    · exact specDo8 hd hB hok h hD hDv hDD (hho p)
  · exact specDo9 hd hB hok h hD hDv hDD
end
end Go.Proofs.YtijmkfnmdhpakaaGreat.Am
/- A run of deeds: the hall behind it. Each holds under its own conditions. -/
set_option linter.unusedVariables false
set_option linter.unusedSimpArgs false
set_option maxRecDepth 20000
namespace Go.Proofs.YtijmkfnmdhpakaaGreat.Am
open Go Go.RowKit Go.Proofs
structure RT where
  i : Nat
  S : Ids
  A : AH
  X : Ids
  d : HD
  c : Cer
  o : Nat
  cs : List Int
/-- What holds in a run of deeds. -/
structure RunJ (t : HT) (pre post : List Value) (x : T_Deal) (ds : List T_Deed) (H : AH) (hid : Nat) (s : RT) : Prop where
  hl : Hl t pre post s.S s.A s.X s.d s.c
  hd : s.d.hid = hid
  ok : CerOk x s.c
  old : St (Low H.n) H s.S s.A
  new : ∀ id, s.d.W id → H.n ≤ id
  newX : ∀ id, s.X id → H.n ≤ id
  le : s.i ≤ ds.length
  pl : play x s.c (ds.drop s.i) = play x (cer0 x.1.1.toNat) ds
  cl : s.cs.length = s.i
  co : s.cs ++ codes x s.c (ds.drop s.i) = codes x (cer0 x.1.1.toNat) ds
theorem RunJ.next {t : HT} {pre post : List Value} {x : T_Deal} {ds : List T_Deed} {H A' : AH} {S' : Ids} {hid n1 : Nat} {s : RT} {dd : T_Deed} (h : RunJ t pre post x ds H hid s) (hd : DealOk x) (hdd : DeedP dd) (hy : ds[s.i]? = some dd) (t5 : StW s.d.W s.S s.A S' A') (w5 : ∀ id, New n1 A'.n id → S' id) (hn : H.n ≤ n1) (hp : HlPost t pre post s.X s.d (doIt x s.c dd).1 n1 A') (o : Nat) :
    ∃ X' d', RunJ t pre post x ds H hid ⟨s.i + 1, S', A', X', d', (doIt x s.c dd).1, o, s.cs ++ [(doIt x s.c dd).2]⟩ := by
  obtain ⟨X', d', h1, h2, h3, h4⟩ := hp
  have inS : ∀ id, (s.d.W id ∨ s.X id ∨ New n1 A'.n id) → S' id := fun id p => by
    rcases p with p | p | p
    · exact (t5 id (h.hl.w id p)).1
    · exact (t5 id (h.hl.sx id p)).1
    · exact w5 id p
  have edr : ds.drop s.i = dd :: ds.drop (s.i + 1) := by
    rw [List.drop_eq_getElem_cons (List.getElem?_eq_some_iff.1 hy).1]
    rw [(List.getElem?_eq_some_iff.1 hy).2]
  have hpl := h.pl
  have hco := h.co
  rw [edr] at hpl hco
  refine ⟨X', d', h1.mv fun id p => ⟨inS id (p.elim (h1.w id) (h1.sx id)), rfl⟩, h2.trans h.hd, h.ok.doIt hd hdd, fun id p => ?_, fun id p => ?_, fun id p => ?_, (List.getElem?_eq_some_iff.1 hy).1, hpl, by simp [h.cl], ?_⟩
  · have q := h.old id p
    have r := t5 id q.1
    refine ⟨r.1, (r.2 fun w => ?_).trans q.2⟩
    have := h.new id w
    have : id < H.n := p
    omega
  · rcases h4 id p with p | p
    · exact h.new id p
    · have := p.1; omega
  · rcases h3 id p with p | p
    · exact h.newX id p
    · have := p.1; omega
  · rw [← hco]
    conv => { rhs; unfold codes }
    simp
/-- The hall behind the run. -/
theorem RunJ.done {t : HT} {pre post : List Value} {x : T_Deal} {ds : List T_Deed} {H H1 : AH} {hid n : Nat} {s : RT} {T : List Var} (h : RunJ t pre post x ds H hid s) (he : s.i = ds.length) (g : Good s.S s.A T n H1) :
    Hl t pre post (New H.n H1.n) H1 s.X s.d (play x (cer0 x.1.1.toNat) ds) ∧ s.cs = codes x (cer0 x.1.1.toNat) ds := by
  have hpl := h.pl
  have hco := h.co
  rw [he, List.drop_length] at hpl hco
  have hpl : s.c = play x (cer0 x.1.1.toNat) ds := hpl
  have hco : s.cs = codes x (cer0 x.1.1.toNat) ds := by rw [← hco]; simp [codes]
  refine ⟨?_, hco⟩
  rw [← hpl]
  refine h.hl.mv fun id p => ?_
  have hn := g.n_
  have hS : s.S id := p.elim (h.hl.w id) (h.hl.sx id)
  have hf := g.froz id hS
  exact ⟨⟨p.elim (h.new id) (h.newX id), by omega⟩, hf.2⟩
theorem given0 {x : T_Deal} {ds : List T_Deed} (h : givenC x ds = 0) : DealOk x ∧ (∀ d ∈ ds, DeedP d) ∧ ds.length ≤ 400 := by
  unfold givenC at h
  split at h
  · rename_i h1
    have h1 := tv_iff.1 h1
    split at h
    · cases h
    · exact ⟨h1.1, h1.2, by omega⟩
  · cases h
end Go.Proofs.YtijmkfnmdhpakaaGreat.Am
/- Contracts: the ceremony behind its deeds, both sides. Each holds under its own conditions. -/
set_option linter.unusedVariables false
set_option linter.unusedSimpArgs false
set_option maxRecDepth 20000
namespace Go.Proofs.YtijmkfnmdhpakaaGreat.Am
open Go Go.RowKit Go.Proofs
/-- How many deeds are done. -/
def doneC : List Int → Nat
  | [] => 0
  | k :: ks => (if k = 0 then 1 else 0) + doneC ks
theorem doneC_snoc (k : Int) : ∀ l : List Int, doneC (l ++ [k]) = doneC l + (if k = 0 then 1 else 0)
  | [] => by simp [doneC]
  | a :: l => by simp only [List.cons_append, doneC, doneC_snoc k l]; omega
theorem doneC_le : ∀ l : List Int, doneC l ≤ l.length
  | [] => Nat.le_refl _
  | a :: l => by simp only [doneC, List.length_cons]; have := doneC_le l; split <;> omega
theorem T1c {i : Nat} {ty : TypeId} {cs cs' : List Value} (h : cs = cs') : ([(i, ⟨ty, true, cs⟩)] : List Var) = [(i, ⟨ty, true, cs'⟩)] := by rw [h]
section
variable {S : Ids} {H0 : AH} {D : Ids} {x : T_Deal} {ds : List T_Deed} {dcs : List Value}
theorem implAfter {a c} (hd : DealOk x) (hdp : ∀ d ∈ ds, DeedP d) (h400 : ds.length ≤ 400) (hB : B_Deal x) (hD : K_Deal.R S H0 x dcs) (hs : K_Deed.Sl S H0 (.slice a ds.length c) ds) :
    SpecM Tryz.prog S H0 42 [.agg dcs.toArray, .slice a ds.length c] (fun n v H1 => ∃ (d : HD) (X : Ids), v = .tuple #[.pointer (some ⟨d.hid, 0, none⟩), .int .i64 (doneC (codes x (cer0 x.1.1.toNat) ds) : Nat)] ∧ Hl HTI [] dcs (New n H1.n) H1 X d (play x (cer0 x.1.1.toNat) ds)) := by
  obtain ⟨d1, d2, d3, d4, d5, d6, d7, d8, rfl⟩ := form_Deal hD
  refine SpecM.of1 Tryz.func42 rfl (by kernel_rfl) rfl (fun H _ => ?_)
  have hD0 : K_Deal.R (Low H.n) H x _ := On.R hD
  have hs0 := hs.up (S' := Low H.n) (H' := H)
  refine KW.callN1 rfl rfl rfl rfl rfl (newHall hd hD0) (fun v H1 S1 m1 _ _ hv => ?_)
  obtain ⟨d, sp, rfl, hh⟩ := hv
  have st1 := (inferInstance : On (Low H.n) H S1 H1).st
  have hh1 := hh.on (S' := S1) (A' := H1)
  obtain ⟨hid, ehid⟩ : ∃ hid, d.hid = hid := ⟨_, rfl⟩
  rw [ehid]
  have R0 : RunJ HTI [] _ x ds H hid ⟨0, S1, H1, fun _ => False, d, cer0 x.1.1.toNat, 0, []⟩ := ⟨hh1, ehid, CerOk.start hd, st1, fun id p => by have := (hh.w id p).1; omega, fun id p => p.elim, Nat.zero_le _, rfl, rfl, rfl⟩
  refine KW.lpM rfl rfl (fun s : RT => [(6, .pointer (some ⟨hid, 0, none⟩)), (7, .int .i64 (doneC s.cs : Nat)), (12, .slice a ds.length c), (13, .int .i64 ds.length), (14, .int .i64 s.i)]) (fun s => s.S) (fun s => s.A) (fun s => [(H.n, ⟨40, true, [.int .i64 x.1.1, .slice d1 x.1.2.1.length d2, .int .i64 x.1.2.2.1, .int .i64 x.1.2.2.2.1, .slice d3 x.1.2.2.2.2.length d4, .int .i64 x.2.1, .slice d5 x.2.2.1.length d6, .slice d7 x.2.2.2.length d8]⟩)]) (fun s => RunJ HTI [] [.int .i64 x.1.1, .slice d1 x.1.2.1.length d2, .int .i64 x.1.2.2.1, .int .i64 x.1.2.2.2.1, .slice d3 x.1.2.2.2.2.length d4, .int .i64 x.2.1, .slice d5 x.2.2.1.length d6, .slice d7 x.2.2.2.length d8] x ds H hid s) (fun s => ds.length - s.i) (⟨0, S1, H1, fun _ => False, d, cer0 x.1.1.toNat, 0, []⟩) (R0) ⟨rfl, rfl, rfl, rfl, rfl, trivial⟩ rfl rfl (rfl) (fun s hi bE n => ?_)
  have R := hi
  obtain ⟨i, S2, H2, X2, e2, c2, o2, cs2⟩ := s
  have old : St (Low H.n) H S2 H2 := R.old
  have ehd : e2.hid = hid := R.hd
  have el : cs2.length = i := R.cl
  have hdl := doneC_le cs2
  have hile : i ≤ ds.length := R.le
  refine KW.cnd rfl rfl (fun k2 => ?_) (fun k2 => ?_)
  · have k2 : (i : Int) < (ds.length : Int) := k2
    have hs2 : K_Deed.Sl S2 H2 (.slice a ds.length c) ds := sl_mk hs0 (fun id p => old id p)
    refine KW.getS (td := .struct #[]) hs2 rfl rfl rfl rfl rfl rfl rfl rfl rfl rfl rfl rfl rfl rfl rfl rfl rfl (by omega) (k2) (fun y cy hy hsy => ?_)
    have hy : ds[i]? = some y := hy
    obtain rfl := form_Deed hsy
    have hmem := List.mem_of_getElem? hy
    have hD2 : K_Deal.R (Low H.n) H2 x _ := K_Deal.same (fun id p => (old id p).2) hD0
    refine KW.cnt (fun n2 hn2 => ?_)
    refine KW.fact (p := H.n < n2) (fun H1 g => (g.vars 0 _ rfl).2.1) (fun hlt => ?_)
    have hdo := implDo (hdp y hmem) hd hB R.ok R.hl hD2 (fun id p => ⟨(old id p).1, fun w => by have := R.new id w; have : id < H.n := p; omega⟩)
    simp only [ehd] at hdo
    refine KW.callW R.hl.w rfl rfl rfl rfl rfl hdo (fun v H5 S5 m5 t5 w5 hv => ?_)
    obtain ⟨rfl, hp⟩ := hv
    obtain ⟨X3, e3, R3⟩ := R.next hd (hdp y hmem) hy t5 w5 (by omega) hp 0
    have hsn := doneC_snoc (doIt x c2 y).2 cs2
    refine KW.cnd rfl rfl (fun k3 => ?ga) (fun k3 => ?gb)
    case ga =>
      have k3 : (doIt x c2 y).2 = 0 := k3
      rw [if_pos k3] at hsn
      have ew : IntKind.i64.wrap ((doneC cs2 : Nat) + 1) = ((doneC (cs2 ++ [(doIt x c2 y).2]) : Nat) : Int) := by rw [hsn, wr (by omega) (by omega)]; omega
      refine KW.nxt rfl rfl (fun H' g => ⟨⟨i + 1, S5, H5, X3, e3, (doIt x c2 y).1, 0, cs2 ++ [(doIt x c2 y).2]⟩, R3, by first | omega | (simp only; omega), ⟨rfl, congrArg (Value.int .i64) ew, rfl, rfl, congrArg (Value.int .i64) (inc64 (by omega)), trivial⟩, g.take 1⟩)
    case gb =>
      have k3 : ¬ (doIt x c2 y).2 = 0 := k3
      rw [if_neg k3] at hsn
      have ew : ((doneC cs2 : Nat) : Int) = ((doneC (cs2 ++ [(doIt x c2 y).2]) : Nat) : Int) := by rw [hsn]; rfl
      refine KW.nxt rfl rfl (fun H' g => ⟨⟨i + 1, S5, H5, X3, e3, (doIt x c2 y).1, 0, cs2 ++ [(doIt x c2 y).2]⟩, R3, by first | omega | (simp only; omega), ⟨rfl, congrArg (Value.int .i64) ew, rfl, rfl, congrArg (Value.int .i64) (inc64 (by omega)), trivial⟩, g.take 1⟩)
  · have k2 : ¬ (i : Int) < (ds.length : Int) := k2
    have he : i = ds.length := by omega
    refine KW.retM rfl rfl rfl rfl (fun id hid => old id hid) (fun H1 g => ?_)
    obtain ⟨q1, q2⟩ := R.done he g
    have q2 : cs2 = codes x (cer0 x.1.1.toNat) ds := q2
    refine ⟨e2, X2, ?_, q1⟩
    rw [← q2, ehd]
    rfl
theorem l08PlayH {a c} {did : Nat} (hd : DealOk x) (hdp : ∀ d ∈ ds, DeedP d) (h400 : ds.length ≤ 400) (hB : B_Deal x) (hD : K_Deal.R S H0 x dcs) (hDv : Has3 S H0 did 0 dcs) (hs : K_Deed.Sl S H0 (.slice a ds.length c) ds) :
    SpecM Tryz.prog S H0 35 [.pointer (some ⟨did, 0, none⟩), .slice a ds.length c] (fun n v H1 => ∃ (d : HD) (X : Ids) (o : Nat), v = .tuple #[.pointer (some ⟨d.hid, 0, none⟩), .slice (some ⟨o, 0, some 1⟩) (codes x (cer0 x.1.1.toNat) ds).length (codes x (cer0 x.1.1.toNat) ds).length] ∧ KI.Ml (New n H1.n) H1 (.slice (some ⟨o, 0, some 1⟩) (codes x (cer0 x.1.1.toNat) ds).length (codes x (cer0 x.1.1.toNat) ds).length) (codes x (cer0 x.1.1.toNat) ds) ∧ Hl HTS [.pointer (some ⟨did, 0, none⟩)] [] (New n H1.n) H1 X d (play x (cer0 x.1.1.toNat) ds)) := by
  refine SpecM.of1 Tryz.func35 rfl (by kernel_rfl) rfl (fun H _ => ?_)
  have hD0 : K_Deal.R (Low H.n) H x dcs := On.R hD
  have hDv0 := hDv.up (S' := Low H.n) (H' := H)
  have hs0 := hs.up (S' := Low H.n) (H' := H)
  refine KW.callN1 rfl rfl rfl rfl rfl (l08Begin hd hD0 hDv0) (fun v H1 S1 m1 _ _ hv => ?_)
  obtain ⟨d, sp, rfl, hh⟩ := hv
  have st1 := (inferInstance : On (Low H.n) H S1 H1).st
  have hh1 := hh.on (S' := S1) (A' := H1)
  obtain ⟨hid, ehid⟩ : ∃ hid, d.hid = hid := ⟨_, rfl⟩
  rw [ehid]
  refine KW.lit rfl rfl rfl rfl rfl rfl rfl rfl rfl rfl [] rfl rfl (fun v hv => by simp at hv) rfl ?_
  have R0 : RunJ HTS [.pointer (some ⟨did, 0, none⟩)] [] x ds H hid ⟨0, S1, H1, fun _ => False, d, cer0 x.1.1.toNat, H1.n, []⟩ := ⟨hh1, ehid, CerOk.start hd, st1, fun id p => (hh.w id p).1, fun id p => p.elim, Nat.zero_le _, rfl, rfl, rfl⟩
  refine KW.lpM rfl rfl (fun s : RT => [(0, .pointer (some ⟨did, 0, none⟩)), (1, .slice a ds.length c), (6, .pointer (some ⟨hid, 0, none⟩)), (7, .slice (some ⟨s.o, 0, some 1⟩) s.i s.i), (8, .int .i64 s.i)]) (fun s => s.S) (fun s => s.A) (fun s => [(s.o, ⟨2, true, s.cs.map (Value.int .i64)⟩)]) (fun s => RunJ HTS [.pointer (some ⟨did, 0, none⟩)] [] x ds H hid s) (fun s => ds.length - s.i) (⟨0, S1, H1, fun _ => False, d, cer0 x.1.1.toNat, H1.n, []⟩) (R0) ⟨rfl, rfl, rfl, rfl, rfl, trivial⟩ rfl rfl (rfl) (fun s hi bE n => ?_)
  have R := hi
  obtain ⟨i, S2, H2, X2, e2, c2, o2, cs2⟩ := s
  have old : St (Low H.n) H S2 H2 := R.old
  have ehd : e2.hid = hid := R.hd
  have el : cs2.length = i := R.cl
  have hile : i ≤ ds.length := R.le
  refine KW.cnd rfl rfl (fun k2 => ?_) (fun k2 => ?_)
  · have k2 : (i : Int) < (ds.length : Int) := k2
    have hs2 : K_Deed.Sl S2 H2 (.slice a ds.length c) ds := sl_mk hs0 (fun id p => old id p)
    refine KW.getS (td := .struct #[]) hs2 rfl rfl rfl rfl rfl rfl rfl rfl rfl rfl rfl rfl rfl rfl rfl rfl rfl (by omega) (k2) (fun y cy hy hsy => ?_)
    have hy : ds[i]? = some y := hy
    obtain rfl := form_Deed hsy
    have hmem := List.mem_of_getElem? hy
    have hD2 : K_Deal.R (Low H.n) H2 x _ := K_Deal.same (fun id p => (old id p).2) hD0
    have hDv2 : Has3 (Low H.n) H2 did 0 dcs := by
      obtain ⟨q0, b, q1, q2⟩ := hDv0
      exact ⟨q0, b, ((old did q0).2).trans q1, q2⟩
    refine KW.cnt (fun n2 hn2 => ?_)
    have hlo : ∀ {H1 : AH} {b : Blk}, Good S2 H2 [(o2, b)] n2 H1 → H.n ≤ n2 := fun {H1 b} g => by
      rcases Nat.eq_zero_or_pos H.n with h0 | h0
      · omega
      · have := (g.froz (H.n - 1) (old (H.n - 1) (show H.n - 1 < H.n by omega)).1).1
        have := g.n_
        omega
    refine KW.fact (p := H.n ≤ n2) (fun H1 g => hlo g) (fun hlt => ?_)
    have hdo := specDo (hdp y hmem) hd hB R.ok R.hl hD2 hDv2 (fun id p => ⟨(old id p).1, fun w => by have := R.new id w; have : id < H.n := p; omega⟩)
    simp only [ehd] at hdo
    refine KW.callW R.hl.w rfl rfl rfl rfl rfl hdo (fun v H5 S5 m5 t5 w5 hv => ?_)
    obtain ⟨rfl, hp⟩ := hv
    obtain ⟨X3, e3, R3⟩ := R.next hd (hdp y hmem) hy t5 w5 (by omega) hp (H5.n + 1)
    refine KW.lit rfl rfl rfl rfl rfl rfl rfl rfl rfl rfl [.int .i64 (doIt x c2 y).2] rfl rfl (fun v hv => by simp at hv; subst hv; rfl) rfl ?_
    refine KW.appTS (m := 1) (ys := [.int .i64 (doIt x c2 y).2]) 0 rfl rfl rfl rfl rfl rfl rfl rfl (by decide) rfl (fun H1 g => acells_seg (g.blk (j := 1) rfl).1 (by show 0 + 1 * 1 ≤ 1; decide)) (by show 0 + i * 1 ≤ (cs2.map (Value.int .i64)).length; rw [List.length_map]; omega) rfl (by decide) (by show (i + 1) * 8 ≤ _; omega) (by omega) ?_
    have e3c : ((cs2.map (Value.int .i64)).drop 0).take (i * 1) ++ [.int .i64 (doIt x c2 y).2] = (cs2 ++ [(doIt x c2 y).2]).map (Value.int .i64) := by rw [drop0_take (by rw [List.length_map]; omega)]; simp
    refine KW.nxt rfl rfl (fun H' g => ⟨⟨i + 1, S5, H5, X3, e3, (doIt x c2 y).1, H5.n + 1, cs2 ++ [(doIt x c2 y).2]⟩, R3, by first | omega | (simp only; omega), ⟨rfl, rfl, rfl, rfl, congrArg (Value.int .i64) (inc64 (by omega)), trivial⟩, (g.take 1).castT (show ([(H5.n + 1, ⟨_, true, _⟩)] : List Var) = [(H5.n + 1, ⟨_, true, _⟩)] from T1c e3c)⟩)
  · have k2 : ¬ (i : Int) < (ds.length : Int) := k2
    have he : i = ds.length := by omega
    refine KW.retM rfl rfl rfl rfl (fun id hid => old id hid) (fun H1 g => ?_)
    obtain ⟨q1, q2⟩ := R.done he g
    have q2 : cs2 = codes x (cer0 x.1.1.toNat) ds := q2
    have e4 : i = (codes x (cer0 x.1.1.toNat) ds).length := by rw [← q2, el]
    refine ⟨e2, X2, o2, ?_, int_ml ?_ (g.blk (j := 0) rfl).1 rfl (by show List.map _ cs2 = _; rw [q2]) (Nat.le_refl _), q1⟩
    · rw [← e4, ehd]
      rfl
    · have gv := g.vars 0 _ rfl
      have hn := g.n_
      refine ⟨Nat.not_lt.1 fun hlt => gv.2.2 (old _ hlt).1, ?_⟩
      rw [hn]
      exact gv.2.1
end
end Go.Proofs.YtijmkfnmdhpakaaGreat.Am
/- Contracts: who is named behind the deeds, both sides. Each holds under its own conditions. -/
set_option linter.unusedVariables false
set_option linter.unusedSimpArgs false
set_option maxRecDepth 20000
namespace Go.Proofs.YtijmkfnmdhpakaaGreat.Am
open Go Go.RowKit Go.Proofs
/-- Where a list holds true, counted from i. -/
def markF : List Bool → Int → List Int
  | [], _ => []
  | b :: l, i => if b = true then i :: markF l (i + 1) else markF l (i + 1)
theorem markF_len : ∀ (l : List Bool) (i : Int), (markF l i).length ≤ l.length
  | [], _ => Nat.le_refl _
  | b :: l, i => by
    unfold markF
    have := markF_len l (i + 1)
    split <;> simp <;> omega
section
variable {S : Ids} {H0 : AH} {l : List Bool}
theorem marked {a c} (h12 : l.length ≤ 1048576) (hs : (Kn.bool).Sl S H0 (.slice a l.length c) l) : SpecM Tryz.prog S H0 43 [.slice a l.length c] (MkL (markF l 0)) := by
  refine SpecM.of1 Tryz.func43 rfl (by kernel_rfl) rfl (fun H _ => ?_)
  refine KW.lit rfl rfl rfl rfl rfl rfl rfl rfl rfl rfl [] rfl rfl (fun v hv => by simp at hv) rfl ?_
  refine KW.lpM rfl rfl (fun s : Nat × Nat × List Int => [(3, .slice (some ⟨s.2.1, 0, some 1⟩) s.2.2.length s.2.2.length), (7, .slice a l.length c), (8, .int .i64 l.length), (9, .int .i64 s.1)]) (fun s => Low H.n) (fun s => H) (fun s => [(s.2.1, ⟨2, true, s.2.2.map (Value.int .i64)⟩)]) (fun s => s.1 ≤ l.length ∧ s.2.2.length ≤ s.1 ∧ H.n ≤ s.2.1 ∧ s.2.2 ++ markF (l.drop s.1) s.1 = markF l 0) (fun s => l.length - s.1) ((0, H.n, [])) (⟨Nat.zero_le _, Nat.le_refl _, Nat.le_refl _, rfl⟩) ⟨rfl, rfl, rfl, rfl, trivial⟩ rfl rfl (rfl) (fun s hi bE n => ?_)
  obtain ⟨i, o, ks⟩ := s
  obtain ⟨i1, i2, i3, i4⟩ := hi
  simp only at i1 i2 i3 i4
  refine KW.cnd rfl rfl (fun k1 => ?_) (fun k1 => ?_)
  · have k1 : (i : Int) < (l.length : Int) := k1
    refine KW.getB hs.up rfl rfl rfl rfl rfl rfl rfl rfl rfl rfl rfl rfl rfl rfl rfl rfl (by omega) (k1) (fun y hy => ?_)
    have hy : l[i]? = some y := hy
    have edr : l.drop i = y :: l.drop (i + 1) := by
      rw [List.drop_eq_getElem_cons (List.getElem?_eq_some_iff.1 hy).1]
      rw [(List.getElem?_eq_some_iff.1 hy).2]
    rw [edr] at i4
    refine KW.cnt (fun m hm => ?_)
    refine KW.fact (p := H.n ≤ m) (fun H1 g => g.nle (H1 := H)) (fun hlt => ?_)
    refine KW.cndB rfl rfl (fun k2 => ?ga) (fun k2 => ?gb)
    case ga =>
      have k2 : y = true := k2
      refine KW.lit rfl rfl rfl rfl rfl rfl rfl rfl rfl rfl [.int .i64 i] rfl rfl (fun v hv => by simp at hv; subst hv; rfl) rfl ?_
      refine KW.appTS (m := 1) (ys := [.int .i64 i]) 0 rfl rfl rfl rfl rfl rfl rfl rfl (by decide) rfl (fun H1 g => acells_seg (g.blk (j := 1) rfl).1 (by show 0 + 1 * 1 ≤ 1; decide)) (by show 0 + ks.length * 1 ≤ (ks.map (Value.int .i64)).length; rw [List.length_map]; omega) rfl (by decide) (by show (ks.length + 1) * 8 ≤ _; omega) (by show ks.length + 1 ≤ _; omega) ?_
      have e3c : ((ks.map (Value.int .i64)).drop 0).take (ks.length * 1) ++ [.int .i64 (i : Int)] = (ks ++ [(i : Int)]).map (Value.int .i64) := by rw [drop0_take (by rw [List.length_map]; omega)]; simp
      have el : ks.length + 1 = (ks ++ [(i : Int)]).length := by simp
      have er : (ks ++ [(i : Int)]) ++ markF (l.drop (i + 1)) ((i : Int) + 1) = markF l 0 := by rw [← i4]; conv => { rhs; unfold markF }; rw [if_pos k2]; simp
      refine KW.nxt rfl rfl (fun H' g => ⟨(i + 1, m + 1, ks ++ [(i : Int)]), ⟨by simp only; omega, by simp only [List.length_append, List.length_cons, List.length_nil]; omega, by simp only; omega, by simp only; rw [← er]; rfl⟩, by first | omega | (simp only; omega), ⟨congrArg (fun k => Value.slice (some ⟨m + 1, 0, some 1⟩) k k) el, rfl, rfl, congrArg (Value.int .i64) (inc64 (by omega)), trivial⟩, (g.take 1).castT (show ([(m + 1, ⟨_, true, _⟩)] : List Var) = [(m + 1, ⟨_, true, _⟩)] from T1c e3c)⟩)
    case gb =>
      have k2 : ¬ y = true := by simpa using k2
      have er : ks ++ markF (l.drop (i + 1)) ((i : Int) + 1) = markF l 0 := by rw [← i4]; conv => { rhs; unfold markF }; rw [if_neg k2]
      refine KW.nxt rfl rfl (fun H' g => ⟨(i + 1, o, ks), ⟨by simp only; omega, by simp only; omega, i3, by simp only; rw [← er]; rfl⟩, by first | omega | (simp only; omega), ⟨rfl, rfl, rfl, congrArg (Value.int .i64) (inc64 (by omega)), trivial⟩, g⟩)
  · have k1 : ¬ (i : Int) < (l.length : Int) := k1
    have he : i = l.length := by omega
    rw [he, List.drop_length] at i4
    have er : ks = markF l 0 := by rw [← i4]; simp [markF]
    subst er
    refine KW.retM1 rfl rfl rfl rfl (fun H1 g => ?_)
    exact MkL.of g (j := 0) rfl i3
theorem l08Where {a c} (h12 : l.length ≤ 1048576) (hs : (Kn.bool).Sl S H0 (.slice a l.length c) l) : SpecM Tryz.prog S H0 36 [.slice a l.length c] (MkL (markF l 0)) := by
  refine SpecM.of1 Tryz.func36 rfl (by kernel_rfl) rfl (fun H _ => ?_)
  refine KW.lit rfl rfl rfl rfl rfl rfl rfl rfl rfl rfl [] rfl rfl (fun v hv => by simp at hv) rfl ?_
  refine KW.lpM rfl rfl (fun s : Nat × Nat × List Int => [(0, .slice a l.length c), (3, .slice (some ⟨s.2.1, 0, some 1⟩) s.2.2.length s.2.2.length), (4, .int .i64 s.1)]) (fun s => Low H.n) (fun s => H) (fun s => [(s.2.1, ⟨2, true, s.2.2.map (Value.int .i64)⟩)]) (fun s => s.1 ≤ l.length ∧ s.2.2.length ≤ s.1 ∧ H.n ≤ s.2.1 ∧ s.2.2 ++ markF (l.drop s.1) s.1 = markF l 0) (fun s => l.length - s.1) ((0, H.n, [])) (⟨Nat.zero_le _, Nat.le_refl _, Nat.le_refl _, rfl⟩) ⟨rfl, rfl, rfl, trivial⟩ rfl rfl (rfl) (fun s hi bE n => ?_)
  obtain ⟨i, o, ks⟩ := s
  obtain ⟨i1, i2, i3, i4⟩ := hi
  simp only at i1 i2 i3 i4
  refine KW.cnd rfl rfl (fun k1 => ?_) (fun k1 => ?_)
  · have k1 : (i : Int) < (l.length : Int) := k1
    refine KW.getB hs.up rfl rfl rfl rfl rfl rfl rfl rfl rfl rfl rfl rfl rfl rfl rfl rfl (by omega) (k1) (fun y hy => ?_)
    have hy : l[i]? = some y := hy
    have edr : l.drop i = y :: l.drop (i + 1) := by
      rw [List.drop_eq_getElem_cons (List.getElem?_eq_some_iff.1 hy).1]
      rw [(List.getElem?_eq_some_iff.1 hy).2]
    rw [edr] at i4
    refine KW.cnt (fun m hm => ?_)
    refine KW.fact (p := H.n ≤ m) (fun H1 g => g.nle (H1 := H)) (fun hlt => ?_)
    refine KW.cndB rfl rfl (fun k2 => ?ga) (fun k2 => ?gb)
    case ga =>
      have k2 : y = true := k2
      refine KW.lit rfl rfl rfl rfl rfl rfl rfl rfl rfl rfl [.int .i64 i] rfl rfl (fun v hv => by simp at hv; subst hv; rfl) rfl ?_
      refine KW.appTS (m := 1) (ys := [.int .i64 i]) 0 rfl rfl rfl rfl rfl rfl rfl rfl (by decide) rfl (fun H1 g => acells_seg (g.blk (j := 1) rfl).1 (by show 0 + 1 * 1 ≤ 1; decide)) (by show 0 + ks.length * 1 ≤ (ks.map (Value.int .i64)).length; rw [List.length_map]; omega) rfl (by decide) (by show (ks.length + 1) * 8 ≤ _; omega) (by show ks.length + 1 ≤ _; omega) ?_
      have e3c : ((ks.map (Value.int .i64)).drop 0).take (ks.length * 1) ++ [.int .i64 (i : Int)] = (ks ++ [(i : Int)]).map (Value.int .i64) := by rw [drop0_take (by rw [List.length_map]; omega)]; simp
      have el : ks.length + 1 = (ks ++ [(i : Int)]).length := by simp
      have er : (ks ++ [(i : Int)]) ++ markF (l.drop (i + 1)) ((i : Int) + 1) = markF l 0 := by rw [← i4]; conv => { rhs; unfold markF }; rw [if_pos k2]; simp
      refine KW.nxt rfl rfl (fun H' g => ⟨(i + 1, m + 1, ks ++ [(i : Int)]), ⟨by simp only; omega, by simp only [List.length_append, List.length_cons, List.length_nil]; omega, by simp only; omega, by simp only; rw [← er]; rfl⟩, by first | omega | (simp only; omega), ⟨rfl, congrArg (fun k => Value.slice (some ⟨m + 1, 0, some 1⟩) k k) el, congrArg (Value.int .i64) (inc64 (by omega)), trivial⟩, (g.take 1).castT (show ([(m + 1, ⟨_, true, _⟩)] : List Var) = [(m + 1, ⟨_, true, _⟩)] from T1c e3c)⟩)
    case gb =>
      have k2 : ¬ y = true := by simpa using k2
      have er : ks ++ markF (l.drop (i + 1)) ((i : Int) + 1) = markF l 0 := by rw [← i4]; conv => { rhs; unfold markF }; rw [if_neg k2]
      refine KW.nxt rfl rfl (fun H' g => ⟨(i + 1, o, ks), ⟨by simp only; omega, by simp only; omega, i3, by simp only; rw [← er]; rfl⟩, by first | omega | (simp only; omega), ⟨rfl, rfl, congrArg (Value.int .i64) (inc64 (by omega)), trivial⟩, g⟩)
  · have k1 : ¬ (i : Int) < (l.length : Int) := k1
    have he : i = l.length := by omega
    rw [he, List.drop_length] at i4
    have er : ks = markF l 0 := by rw [← i4]; simp [markF]
    subst er
    refine KW.retM1 rfl rfl rfl rfl (fun H1 g => ?_)
    exact MkL.of g (j := 0) rfl i3
end
end Go.Proofs.YtijmkfnmdhpakaaGreat.Am
/- Contracts: NamedAfter, both sides. Each holds under its own conditions. -/
set_option linter.unusedVariables false
set_option linter.unusedSimpArgs false
set_option maxRecDepth 20000
namespace Go.Proofs.YtijmkfnmdhpakaaGreat.Am
open Go Go.RowKit Go.Proofs
/-- The hall behind the deeds, plain. -/
noncomputable def behind (x : T_Deal) (ds : List T_Deed) : Cer := play x (cer0 x.1.1.toNat) ds
theorem behind_ok {x : T_Deal} {ds : List T_Deed} (hd : DealOk x) (hdp : ∀ d ∈ ds, DeedP d) : CerOk x (behind x ds) := CerOk.play hd ds hdp (CerOk.start hd)
section
variable {S : Ids} {H0 : AH} {x : T_Deal} {ds : T_DeedS} {dcs : List Value}
end
end Go.Proofs.YtijmkfnmdhpakaaGreat.Am
/- Contracts: a row times an element, a row taken off another one, powers and inverses. Each holds under its own conditions. -/
set_option linter.unusedVariables false
set_option linter.unusedSimpArgs false
set_option maxRecDepth 20000
namespace Go.Proofs.YtijmkfnmdhpakaaGreat.Am
open Go Go.RowKit Go.Proofs Go.Proofs.YtijmkfnmdhpakaaGreat.Pl
/-- The cells of a list that is written from left to right: the first i of them are done. -/
structure Wr (xs ys : List Int) (n i : Nat) (cs : List Value) : Prop where
  len : cs.length = n
  done : ∀ (j : Nat) y, j < i → ys[j]? = some y → cs[j]? = some (.int .i64 y)
  rest : ∀ (j : Nat) x, i ≤ j → xs[j]? = some x → cs[j]? = some (.int .i64 x)
theorem Wr.next {xs ys : List Int} {n i : Nat} {cs : List Value} {v : Value} {y : Int} (h : Wr xs ys n i cs) (hi : i < n) (hy : ys[i]? = some y) (hv : v = .int .i64 y) : Wr xs ys n (i + 1) (cs.set (0 + i * 1) v) := by
  have hl := h.len
  rw [Nat.zero_add, Nat.mul_one]
  refine ⟨by simp [hl], fun j z hj hz => ?_, fun j x hj hx => ?_⟩
  · by_cases e : i = j
    · subst e
      rw [hy] at hz
      cases hz
      rw [List.getElem?_set_self (by omega), hv]
    · rw [List.getElem?_set_ne e]
      exact h.done j z (by omega) hz
  · rw [List.getElem?_set_ne (by omega)]
    exact h.rest j x (by omega) hx
theorem mul_in {x y : Int} (hx : 0 ≤ x ∧ x ≤ 31) (hy : 0 ≤ y ∧ y ≤ 31) : 0 ≤ x * y ∧ x * y ≤ 961 :=
  ⟨Int.mul_nonneg hx.1 hy.1, Int.le_trans (Int.mul_le_mul_of_nonneg_right hx.2 hy.1) (by omega)⟩
theorem tk_length {p t : Int} {xs ys : List Int} (h : xs.length = ys.length) : (tk p t xs ys).length = xs.length := by simp [tk, h]
theorem tk_at {p t : Int} {xs ys : List Int} {i : Nat} {x y : Int} (hx : xs[i]? = some x) (hy : ys[i]? = some y) : (tk p t xs ys)[i]? = some ((x + (p - t) * y) % p) := by
  simp [tk, List.getElem?_zipWith, hx, hy]
section
variable {S : Ids} {H0 : AH}
theorem scaled {W : Ids} {p b : Int} (hp : 2 ≤ p ∧ p ≤ 31) (hb : 0 ≤ b ∧ b < p) {a c} {xs : List Int} (hl : xs.length ≤ 4194304) (hx : ∀ x ∈ xs, 0 ≤ x ∧ x < p) (hW : ∀ id, W id → S id) (hs : KI.Ml W H0 (.slice a xs.length c) xs) :
    SpecW Tryz.prog S H0 W 155 [.int .i64 p, .slice a xs.length c, .int .i64 b] (fun n v H1 => KI.Ml W H1 (.slice a xs.length c) (sc p b xs)) := by
  rcases hs with ⟨rfl, a0, c0, he, ha⟩ | ⟨o, c1, bb, Ws, he, h2, h3, h4, h5, h6, h7, h8, h9⟩
  · refine SpecM.w ?_
    refine SpecM.of Tryz.func155 rfl (by kernel_rfl) rfl (fun H hfin hfz => ?_)
    refine KW.lp rfl rfl (fun _ : Unit => [(0, .int .i64 p), (1, .slice a 0 c), (2, .int .i64 b), (8, .int .i64 0), (9, .int .i64 0)]) (fun _ => True) (fun _ => 0) (()) (trivial) ⟨rfl, rfl, rfl, rfl, rfl, trivial⟩ (fun _ hi bE n => ?_)
    refine KW.cF rfl rfl (by first | (simp; done) | decide) ?_
    exact KW.endM rfl rfl rfl rfl (fun id hid => ⟨hid, rfl⟩) (fun H1 g => .inl ⟨rfl, a, c, rfl, by cases he; exact ha⟩)
  · cases he
    obtain ⟨ty, rw, cells⟩ := bb
    obtain rfl : rw = true := h5
    have h6 : xs.length * 1 ≤ cells.length := h6
    have hget : ∀ (i : Nat) x, xs[i]? = some x → cells[i]? = some (.int .i64 x) := fun i x hx => by
      have h := cell_of (m := 0 + i * 1) (h9 i x hx)
      rw [Nat.zero_add, Nat.mul_one] at h
      exact h
    refine SpecW.of Tryz.func155 rfl (by kernel_rfl) rfl (hW o h3) h4 (fun H hfin hfz => ?_)
    refine KW.lpM rfl rfl (fun s : (Nat × List Value) => [(0, .int .i64 p), (1, .slice (some ⟨o, 0, some 1⟩) xs.length c), (2, .int .i64 b), (8, .int .i64 xs.length), (9, .int .i64 s.1)]) (fun s => fun i => Low H.n i ∧ i ≠ o) (fun s => H) (fun s => [(o, ⟨_, true, s.2⟩)]) (fun s => s.1 ≤ xs.length ∧ Wr xs (sc p b xs) cells.length s.1 s.2) (fun s => xs.length - s.1) ((0, cells)) (⟨by omega, rfl, fun j y hj => absurd hj (Nat.not_lt_zero _), fun j x _ h => hget j x h⟩) ⟨rfl, rfl, rfl, rfl, rfl, trivial⟩ rfl rfl (rfl) (fun s hi bE n => ?_)
    obtain ⟨i, cs⟩ := s
    obtain ⟨hi0, hi1⟩ := hi
    simp only at hi0 hi1
    have hcl := hi1.len
    refine KW.cnd rfl rfl (fun h => ?_) (fun h => ?_)
    · have h : (i : Int) < xs.length := h
      obtain ⟨x, hx1⟩ : ∃ x, xs[i]? = some x := ⟨xs[i]'(by omega), List.getElem?_eq_getElem (by omega)⟩
      have hxb := hx x (List.mem_of_getElem? hx1)
      have hm := mul_in (x := x) (y := b) (by omega) (by omega)
      refine KW.idx0 rfl rfl rfl rfl rfl rfl rfl rfl rfl (by omega) (h) ?_
      refine KW.ldT 0 rfl rfl rfl rfl rfl rfl (bload_at (by rw [Nat.zero_add, Nat.mul_one]; exact hi1.rest i x (Nat.le_refl _) hx1) rfl rfl) ?_
      refine KW.rem rfl rfl rfl rfl rfl rfl (by rw [wr (by omega) (by omega)]; exact hm.1) (by omega) ?_
      refine KW.idx0 rfl rfl rfl rfl rfl rfl rfl rfl rfl (by omega) (h) ?_
      refine KW.st1 0 rfl rfl rfl rfl rfl rfl rfl rfl rfl rfl rfl rfl (by simp only; omega) ?_
      refine KW.nxt rfl rfl (fun H' g => ⟨(i + 1, _), ⟨by simp only; omega, hi1.next (by omega) (y := x * b % p) (by simp [sc, hx1]) (congrArg (fun z => Value.int .i64 (z % p)) (wr (by omega) (by omega)))⟩, by first | omega | (simp only; omega), ⟨rfl, rfl, rfl, rfl, congrArg (Value.int .i64) (inc64 (by omega)), trivial⟩, g⟩)
    · obtain rfl : i = xs.length := by have h : ¬ (i : Int) < xs.length := h; omega
      refine KW.endW rfl rfl rfl rfl (fun H1 g => g.nle1 (j := 0) rfl) (fun id hid hw => ⟨⟨hid, fun e => hw (by subst e; exact h3)⟩, rfl⟩) (fun H1 g => ?_)
      have hb := g.blk (j := 0) rfl
      have el : (sc p b xs).length = xs.length := by simp [sc]
      rw [← el]
      exact mlI_of h3 hb.1 rfl (by rw [el]; exact h2) (by rw [el]; simp only; omega) (fun j y hy => hi1.done j y (by have := (List.getElem?_eq_some_iff.1 hy).1; omega) hy)
theorem l03Times {W : Ids} {p b : Int} (hp : 2 ≤ p ∧ p ≤ 31) (hb : 0 ≤ b ∧ b < p) {a c} {xs : List Int} (hl : xs.length ≤ 4194304) (hx : ∀ x ∈ xs, 0 ≤ x ∧ x < p) (hW : ∀ id, W id → S id) (hs : KI.Ml W H0 (.slice a xs.length c) xs) :
    SpecW Tryz.prog S H0 W 164 [.int .i64 p, .slice a xs.length c, .int .i64 b] (fun n v H1 => KI.Ml W H1 (.slice a xs.length c) (sc p b xs)) := by
  rcases hs with ⟨rfl, a0, c0, he, ha⟩ | ⟨o, c1, bb, Ws, he, h2, h3, h4, h5, h6, h7, h8, h9⟩
  · refine SpecM.w ?_
    refine SpecM.of Tryz.func164 rfl (by kernel_rfl) rfl (fun H hfin hfz => ?_)
    refine KW.lp rfl rfl (fun _ : Unit => [(0, .int .i64 p), (1, .slice a 0 c), (2, .int .i64 b), (6, .int .i64 0)]) (fun _ => True) (fun _ => 0) (()) (trivial) ⟨rfl, rfl, rfl, rfl, trivial⟩ (fun _ hi bE n => ?_)
    refine KW.cF rfl rfl (by first | (simp; done) | decide) ?_
    exact KW.endM rfl rfl rfl rfl (fun id hid => ⟨hid, rfl⟩) (fun H1 g => .inl ⟨rfl, a, c, rfl, by cases he; exact ha⟩)
  · cases he
    obtain ⟨ty, rw, cells⟩ := bb
    obtain rfl : rw = true := h5
    have h6 : xs.length * 1 ≤ cells.length := h6
    have hget : ∀ (i : Nat) x, xs[i]? = some x → cells[i]? = some (.int .i64 x) := fun i x hx => by
      have h := cell_of (m := 0 + i * 1) (h9 i x hx)
      rw [Nat.zero_add, Nat.mul_one] at h
      exact h
    refine SpecW.of Tryz.func164 rfl (by kernel_rfl) rfl (hW o h3) h4 (fun H hfin hfz => ?_)
    refine KW.lpM rfl rfl (fun s : (Nat × List Value) => [(0, .int .i64 p), (1, .slice (some ⟨o, 0, some 1⟩) xs.length c), (2, .int .i64 b), (6, .int .i64 s.1)]) (fun s => fun i => Low H.n i ∧ i ≠ o) (fun s => H) (fun s => [(o, ⟨_, true, s.2⟩)]) (fun s => s.1 ≤ xs.length ∧ Wr xs (sc p b xs) cells.length s.1 s.2) (fun s => xs.length - s.1) ((0, cells)) (⟨by omega, rfl, fun j y hj => absurd hj (Nat.not_lt_zero _), fun j x _ h => hget j x h⟩) ⟨rfl, rfl, rfl, rfl, trivial⟩ rfl rfl (rfl) (fun s hi bE n => ?_)
    obtain ⟨i, cs⟩ := s
    obtain ⟨hi0, hi1⟩ := hi
    simp only at hi0 hi1
    have hcl := hi1.len
    refine KW.cnd rfl rfl (fun h => ?_) (fun h => ?_)
    · have h : (i : Int) < xs.length := h
      obtain ⟨x, hx1⟩ : ∃ x, xs[i]? = some x := ⟨xs[i]'(by omega), List.getElem?_eq_getElem (by omega)⟩
      have hxb := hx x (List.mem_of_getElem? hx1)
      have hm := mul_in (x := x) (y := b) (by omega) (by omega)
      refine KW.idx0 rfl rfl rfl rfl rfl rfl rfl rfl rfl (by omega) (h) ?_
      refine KW.ldT 0 rfl rfl rfl rfl rfl rfl (bload_at (by rw [Nat.zero_add, Nat.mul_one]; exact hi1.rest i x (Nat.le_refl _) hx1) rfl rfl) ?_
      refine KW.rem rfl rfl rfl rfl rfl rfl (by rw [wr (by omega) (by omega)]; exact hm.1) (by omega) ?_
      refine KW.idx0 rfl rfl rfl rfl rfl rfl rfl rfl rfl (by omega) (h) ?_
      refine KW.st1 0 rfl rfl rfl rfl rfl rfl rfl rfl rfl rfl rfl rfl (by simp only; omega) ?_
      refine KW.nxt rfl rfl (fun H' g => ⟨(i + 1, _), ⟨by simp only; omega, hi1.next (by omega) (y := x * b % p) (by simp [sc, hx1]) (congrArg (fun z => Value.int .i64 (z % p)) (wr (by omega) (by omega)))⟩, by first | omega | (simp only; omega), ⟨rfl, rfl, rfl, congrArg (Value.int .i64) (inc64 (by omega)), trivial⟩, g⟩)
    · obtain rfl : i = xs.length := by have h : ¬ (i : Int) < xs.length := h; omega
      refine KW.endW rfl rfl rfl rfl (fun H1 g => g.nle1 (j := 0) rfl) (fun id hid hw => ⟨⟨hid, fun e => hw (by subst e; exact h3)⟩, rfl⟩) (fun H1 g => ?_)
      have hb := g.blk (j := 0) rfl
      have el : (sc p b xs).length = xs.length := by simp [sc]
      rw [← el]
      exact mlI_of h3 hb.1 rfl (by rw [el]; exact h2) (by rw [el]; simp only; omega) (fun j y hy => hi1.done j y (by have := (List.getElem?_eq_some_iff.1 hy).1; omega) hy)
theorem takeOff {W X : Ids} {p t : Int} (hp : 2 ≤ p ∧ p ≤ 31) (ht : 0 ≤ t ∧ t < p) {a c a2 c2} {xs ys : List Int} (hxy : xs.length = ys.length) (hy : ∀ y ∈ ys, 0 ≤ y ∧ y < p) (hX : ∀ id, X id → S id ∧ ¬ W id) (hs2 : KI.Sl X H0 (.slice a2 ys.length c2) ys) (hl : xs.length ≤ 4194304) (hx : ∀ x ∈ xs, 0 ≤ x ∧ x < p) (hW : ∀ id, W id → S id) (hs : KI.Ml W H0 (.slice a xs.length c) xs) :
    SpecW Tryz.prog S H0 W 153 [.int .i64 p, .slice a xs.length c, .slice a2 ys.length c2, .int .i64 t] (fun n v H1 => KI.Ml W H1 (.slice a xs.length c) (tk p t xs ys)) := by
  rcases hs with ⟨rfl, a0, c0, he, ha⟩ | ⟨o, c1, bb, Ws, he, h2, h3, h4, h5, h6, h7, h8, h9⟩
  · obtain rfl : ys = [] := List.eq_nil_of_length_eq_zero hxy.symm
    refine SpecM.w ?_
    refine SpecM.of Tryz.func153 rfl (by kernel_rfl) rfl (fun H hfin hfz => ?_)
    refine KW.lp rfl rfl (fun _ : Unit => [(0, .int .i64 p), (1, .slice a 0 c), (2, .slice a2 0 c2), (3, .int .i64 t), (10, .slice a2 0 c2), (11, .int .i64 0), (12, .int .i64 0)]) (fun _ => True) (fun _ => 0) (()) (trivial) ⟨rfl, rfl, rfl, rfl, rfl, rfl, rfl, trivial⟩ (fun _ hi bE n => ?_)
    refine KW.cF rfl rfl (by first | (simp; done) | decide) ?_
    exact KW.endM rfl rfl rfl rfl (fun id hid => ⟨hid, rfl⟩) (fun H1 g => .inl ⟨rfl, a, c, rfl, by cases he; exact ha⟩)
  · cases he
    obtain ⟨ty, rw, cells⟩ := bb
    obtain rfl : rw = true := h5
    have h6 : xs.length * 1 ≤ cells.length := h6
    have hget : ∀ (i : Nat) x, xs[i]? = some x → cells[i]? = some (.int .i64 x) := fun i x hx => by
      have h := cell_of (m := 0 + i * 1) (h9 i x hx)
      rw [Nat.zero_add, Nat.mul_one] at h
      exact h
    refine SpecW.of Tryz.func153 rfl (by kernel_rfl) rfl (hW o h3) h4 (fun H hfin hfz => ?_)
    have hs3 : KI.Sl (fun i => Low H.n i ∧ i ≠ o) H (.slice a2 ys.length c2) ys := (hs2.same (fun id hid => (hfz id (hX id hid).1).2)).more (fun id hid => ⟨(hfz id (hX id hid).1).1, fun e => (hX id hid).2 (by rw [e]; exact h3)⟩)
    refine KW.lpM rfl rfl (fun s : (Nat × List Value) => [(0, .int .i64 p), (1, .slice (some ⟨o, 0, some 1⟩) xs.length c), (2, .slice a2 ys.length c2), (3, .int .i64 t), (10, .slice a2 ys.length c2), (11, .int .i64 ys.length), (12, .int .i64 s.1)]) (fun s => fun i => Low H.n i ∧ i ≠ o) (fun s => H) (fun s => [(o, ⟨_, true, s.2⟩)]) (fun s => s.1 ≤ xs.length ∧ Wr xs (tk p t xs ys) cells.length s.1 s.2) (fun s => xs.length - s.1) ((0, cells)) (⟨by omega, rfl, fun j y hj => absurd hj (Nat.not_lt_zero _), fun j x _ h => hget j x h⟩) ⟨rfl, rfl, rfl, rfl, rfl, rfl, rfl, trivial⟩ rfl rfl (rfl) (fun s hi bE n => ?_)
    obtain ⟨i, cs⟩ := s
    obtain ⟨hi0, hi1⟩ := hi
    simp only at hi0 hi1
    have hcl := hi1.len
    refine KW.cnd rfl rfl (fun h => ?_) (fun h => ?_)
    · have h : (i : Int) < xs.length := by have h : (i : Int) < ys.length := h; omega
      obtain ⟨x, hx1⟩ : ∃ x, xs[i]? = some x := ⟨xs[i]'(by omega), List.getElem?_eq_getElem (by omega)⟩
      have hxb := hx x (List.mem_of_getElem? hx1)
      refine KW.getI hs3 rfl rfl rfl rfl rfl rfl rfl rfl rfl rfl rfl rfl rfl rfl rfl rfl (by omega) (by omega) (fun y hy1 => ?_)
      have hy1 : ys[i]? = some y := hy1
      have hyb := hy y (List.mem_of_getElem? hy1)
      have hm := mul_in (x := p - t) (y := y) (by omega) (by omega)
      have ew : IntKind.i64.wrap (x + IntKind.i64.wrap (IntKind.i64.wrap (p - t) * y)) = x + (p - t) * y := by rw [wr (x := p - t) (by omega) (by omega), wr (x := (p - t) * y) (by omega) (by omega), wr (by omega) (by omega)]
      refine KW.idx0 rfl rfl rfl rfl rfl rfl rfl rfl rfl (by omega) (h) ?_
      refine KW.ldT 0 rfl rfl rfl rfl rfl rfl (bload_at (by rw [Nat.zero_add, Nat.mul_one]; exact hi1.rest i x (Nat.le_refl _) hx1) rfl rfl) ?_
      refine KW.rem rfl rfl rfl rfl rfl rfl (by rw [ew]; omega) (by omega) ?_
      refine KW.idx0 rfl rfl rfl rfl rfl rfl rfl rfl rfl (by omega) (h) ?_
      refine KW.st1 0 rfl rfl rfl rfl rfl rfl rfl rfl rfl rfl rfl rfl (by simp only; omega) ?_
      refine KW.nxt rfl rfl (fun H' g => ⟨(i + 1, _), ⟨by simp only; omega, hi1.next (by omega) (y := (x + (p - t) * y) % p) (tk_at hx1 hy1) (congrArg (fun z => Value.int .i64 (z % p)) ew)⟩, by first | omega | (simp only; omega), ⟨rfl, rfl, rfl, rfl, rfl, rfl, congrArg (Value.int .i64) (inc64 (by omega)), trivial⟩, g⟩)
    · obtain rfl : i = xs.length := by have h : ¬ (i : Int) < ys.length := h; omega
      refine KW.endW rfl rfl rfl rfl (fun H1 g => g.nle1 (j := 0) rfl) (fun id hid hw => ⟨⟨hid, fun e => hw (by subst e; exact h3)⟩, rfl⟩) (fun H1 g => ?_)
      have hb := g.blk (j := 0) rfl
      have el : (tk p t xs ys).length = xs.length := tk_length hxy
      rw [← el]
      exact mlI_of h3 hb.1 rfl (by rw [el]; exact h2) (by rw [el]; simp only; omega) (fun j y hy => hi1.done j y (by have := (List.getElem?_eq_some_iff.1 hy).1; omega) hy)
theorem l03Add {W X : Ids} {p t z : Int} (hp : 2 ≤ p ∧ p ≤ 31) (ht : 0 ≤ t ∧ t < p) (hz : z = p - t) {a c a2 c2} {xs ys : List Int} (hxy : xs.length = ys.length) (hy : ∀ y ∈ ys, 0 ≤ y ∧ y < p) (hX : ∀ id, X id → S id ∧ ¬ W id) (hs2 : KI.Sl X H0 (.slice a2 ys.length c2) ys) (hl : xs.length ≤ 4194304) (hx : ∀ x ∈ xs, 0 ≤ x ∧ x < p) (hW : ∀ id, W id → S id) (hs : KI.Ml W H0 (.slice a xs.length c) xs) :
    SpecW Tryz.prog S H0 W 166 [.int .i64 p, .slice a xs.length c, .slice a2 ys.length c2, .int .i64 z] (fun n v H1 => KI.Ml W H1 (.slice a xs.length c) (tk p t xs ys)) := by
  subst hz
  rcases hs with ⟨rfl, a0, c0, he, ha⟩ | ⟨o, c1, bb, Ws, he, h2, h3, h4, h5, h6, h7, h8, h9⟩
  · obtain rfl : ys = [] := List.eq_nil_of_length_eq_zero hxy.symm
    refine SpecM.w ?_
    refine SpecM.of Tryz.func166 rfl (by kernel_rfl) rfl (fun H hfin hfz => ?_)
    refine KW.lp rfl rfl (fun _ : Unit => [(0, .int .i64 p), (1, .slice a 0 c), (2, .slice a2 0 c2), (3, .int .i64 (p - t)), (8, .int .i64 0)]) (fun _ => True) (fun _ => 0) (()) (trivial) ⟨rfl, rfl, rfl, rfl, rfl, trivial⟩ (fun _ hi bE n => ?_)
    refine KW.cF rfl rfl (by first | (simp; done) | decide) ?_
    exact KW.endM rfl rfl rfl rfl (fun id hid => ⟨hid, rfl⟩) (fun H1 g => .inl ⟨rfl, a, c, rfl, by cases he; exact ha⟩)
  · cases he
    obtain ⟨ty, rw, cells⟩ := bb
    obtain rfl : rw = true := h5
    have h6 : xs.length * 1 ≤ cells.length := h6
    have hget : ∀ (i : Nat) x, xs[i]? = some x → cells[i]? = some (.int .i64 x) := fun i x hx => by
      have h := cell_of (m := 0 + i * 1) (h9 i x hx)
      rw [Nat.zero_add, Nat.mul_one] at h
      exact h
    refine SpecW.of Tryz.func166 rfl (by kernel_rfl) rfl (hW o h3) h4 (fun H hfin hfz => ?_)
    have hs3 : KI.Sl (fun i => Low H.n i ∧ i ≠ o) H (.slice a2 ys.length c2) ys := (hs2.same (fun id hid => (hfz id (hX id hid).1).2)).more (fun id hid => ⟨(hfz id (hX id hid).1).1, fun e => (hX id hid).2 (by rw [e]; exact h3)⟩)
    refine KW.lpM rfl rfl (fun s : (Nat × List Value) => [(0, .int .i64 p), (1, .slice (some ⟨o, 0, some 1⟩) xs.length c), (2, .slice a2 ys.length c2), (3, .int .i64 (p - t)), (8, .int .i64 s.1)]) (fun s => fun i => Low H.n i ∧ i ≠ o) (fun s => H) (fun s => [(o, ⟨_, true, s.2⟩)]) (fun s => s.1 ≤ xs.length ∧ Wr xs (tk p t xs ys) cells.length s.1 s.2) (fun s => xs.length - s.1) ((0, cells)) (⟨by omega, rfl, fun j y hj => absurd hj (Nat.not_lt_zero _), fun j x _ h => hget j x h⟩) ⟨rfl, rfl, rfl, rfl, rfl, trivial⟩ rfl rfl (rfl) (fun s hi bE n => ?_)
    obtain ⟨i, cs⟩ := s
    obtain ⟨hi0, hi1⟩ := hi
    simp only at hi0 hi1
    have hcl := hi1.len
    refine KW.cnd rfl rfl (fun h => ?_) (fun h => ?_)
    · have h : (i : Int) < xs.length := h
      obtain ⟨x, hx1⟩ : ∃ x, xs[i]? = some x := ⟨xs[i]'(by omega), List.getElem?_eq_getElem (by omega)⟩
      have hxb := hx x (List.mem_of_getElem? hx1)
      obtain ⟨y, hy1⟩ : ∃ y, ys[i]? = some y := ⟨ys[i]'(by omega), List.getElem?_eq_getElem (by omega)⟩
      have hyb := hy y (List.mem_of_getElem? hy1)
      have hm := mul_in (x := p - t) (y := y) (by omega) (by omega)
      have ew : IntKind.i64.wrap (x + IntKind.i64.wrap (y * (p - t))) = x + (p - t) * y := by rw [Int.mul_comm y, wr (x := (p - t) * y) (by omega) (by omega), wr (by omega) (by omega)]
      refine KW.idx0 rfl rfl rfl rfl rfl rfl rfl rfl rfl (by omega) (h) ?_
      refine KW.ldT 0 rfl rfl rfl rfl rfl rfl (bload_at (by rw [Nat.zero_add, Nat.mul_one]; exact hi1.rest i x (Nat.le_refl _) hx1) rfl rfl) ?_
      refine KW.getI hs3 rfl rfl rfl rfl rfl rfl rfl rfl rfl rfl rfl rfl rfl rfl rfl rfl (by omega) (by omega) (fun y2 hy2 => ?_)
      obtain rfl : y = y2 := by have hy2 : ys[i]? = some y2 := hy2; rw [hy1] at hy2; cases hy2; rfl
      refine KW.rem rfl rfl rfl rfl rfl rfl (by rw [ew]; omega) (by omega) ?_
      refine KW.idx0 rfl rfl rfl rfl rfl rfl rfl rfl rfl (by omega) (h) ?_
      refine KW.st1 0 rfl rfl rfl rfl rfl rfl rfl rfl rfl rfl rfl rfl (by simp only; omega) ?_
      refine KW.nxt rfl rfl (fun H' g => ⟨(i + 1, _), ⟨by simp only; omega, hi1.next (by omega) (y := (x + (p - t) * y) % p) (tk_at hx1 hy1) (congrArg (fun z => Value.int .i64 (z % p)) ew)⟩, by first | omega | (simp only; omega), ⟨rfl, rfl, rfl, rfl, congrArg (Value.int .i64) (inc64 (by omega)), trivial⟩, g⟩)
    · obtain rfl : i = xs.length := by have h : ¬ (i : Int) < xs.length := h; omega
      refine KW.endW rfl rfl rfl rfl (fun H1 g => g.nle1 (j := 0) rfl) (fun id hid hw => ⟨⟨hid, fun e => hw (by subst e; exact h3)⟩, rfl⟩) (fun H1 g => ?_)
      have hb := g.blk (j := 0) rfl
      have el : (tk p t xs ys).length = xs.length := tk_length hxy
      rw [← el]
      exact mlI_of h3 hb.1 rfl (by rw [el]; exact h2) (by rw [el]; simp only; omega) (fun j y hy => hi1.done j y (by have := (List.getElem?_eq_some_iff.1 hy).1; omega) hy)
theorem power (p a z : Int) (hp : 2 ≤ p ∧ p ≤ 31) (ha : 0 ≤ a ∧ a < p) (hz : 0 ≤ z ∧ z ≤ 1000) : Spec Tryz.prog S H0 168 [.int .i64 p, .int .i64 a, .int .i64 z] (fun v => v = .int .i64 (pw p a z.toNat)) := by
  refine Spec.of1 Tryz.func168 rfl (by kernel_rfl) rfl (fun H _ => ?_)
  obtain ⟨q, rfl⟩ : ∃ q : Nat, z = q := ⟨z.toNat, by omega⟩
  refine KW.rem rfl rfl rfl rfl rfl rfl (by decide) (by omega) ?_
  have e1 : (1 : Int) % p = 1 := Int.emod_eq_of_lt (by omega) (by omega)
  refine KW.lp rfl rfl (fun i : Nat => [(0, .int .i64 p), (1, .int .i64 a), (2, .int .i64 q), (7, .int .i64 (pw p a i)), (10, .int .i64 q), (11, .int .i64 i)]) (fun i => i ≤ q) (fun i => q - i) (0) (Nat.zero_le _) ⟨rfl, rfl, rfl, congrArg (Value.int .i64) e1, rfl, rfl, trivial⟩ (fun i hi bE n => ?_)
  refine KW.cnd rfl rfl (fun h => ?_) (fun h => ?_)
  · have h : (i : Int) < q := h
    have hw := pw_ok (a := a) hp.1 i
    have hm := mul_in (x := pw p a i) (y := a) (by omega) (by omega)
    refine KW.rem rfl rfl rfl rfl rfl rfl (by rw [wr (by omega) (by omega)]; exact hm.1) (by omega) ?_
    refine KW.nxt rfl rfl (fun H' g => ⟨i + 1, by omega, by first | omega | (simp only; omega), ⟨rfl, rfl, rfl, congrArg (fun z => Value.int .i64 (z % p)) (wr (by omega) (by omega)), rfl, congrArg (Value.int .i64) (inc64 (by omega)), trivial⟩, g⟩)
  · obtain rfl : i = q := by have h : ¬ (i : Int) < q := h; omega
    exact KW.ret rfl rfl rfl rfl (rfl)
theorem inverse (p a : Int) (hp : 2 ≤ p ∧ p ≤ 31) (ha : 0 ≤ a ∧ a < p) : Spec Tryz.prog S H0 154 [.int .i64 p, .int .i64 a] (fun v => v = .int .i64 (pw p a (p - 2).toNat)) := by
  refine Spec.of1 Tryz.func154 rfl (by kernel_rfl) rfl (fun H _ => ?_)
  have ew : IntKind.i64.wrap (p - 2) = p - 2 := wr (by omega) (by omega)
  refine KW.callE rfl rfl rfl rfl rfl (power p a _ hp ha (by rw [ew]; omega)) (fun _ _ => ?_)
  exact KW.ret rfl rfl rfl rfl (by rw [ew]; rfl)
theorem l03Power (p a z : Int) (hp : 2 ≤ p ∧ p ≤ 31) (ha : 0 ≤ a ∧ a < p) (hz : 0 ≤ z ∧ z ≤ 1000) : Spec Tryz.prog S H0 172 [.int .i64 p, .int .i64 a, .int .i64 z] (fun v => v = .int .i64 (pw p a z.toNat)) := by
  refine Spec.of1 Tryz.func172 rfl (by kernel_rfl) rfl (fun H _ => ?_)
  obtain ⟨q, rfl⟩ : ∃ q : Nat, z = q := ⟨z.toNat, by omega⟩
  refine KW.lp rfl rfl (fun i : Nat => [(0, .int .i64 p), (1, .int .i64 a), (2, .int .i64 ((q : Int) - i)), (7, .int .i64 (pw p a i))]) (fun i => i ≤ q) (fun i => q - i) (0) (Nat.zero_le _) ⟨rfl, rfl, congrArg (Value.int .i64) (by simp), rfl, trivial⟩ (fun i hi bE n => ?_)
  refine KW.cnd rfl rfl (fun h => ?_) (fun h => ?_)
  · have h : (0 : Int) < (q : Int) - i := h
    have hw := pw_ok (a := a) hp.1 i
    have hm := mul_in (x := pw p a i) (y := a) (by omega) (by omega)
    refine KW.rem rfl rfl rfl rfl rfl rfl (by rw [wr (by omega) (by omega)]; exact hm.1) (by omega) ?_
    refine KW.nxt rfl rfl (fun H' g => ⟨i + 1, by omega, by first | omega | (simp only; omega), ⟨rfl, rfl, vI (by omega) (by omega) (by omega), congrArg (fun z => Value.int .i64 (z % p)) (wr (by omega) (by omega)), trivial⟩, g⟩)
  · obtain rfl : i = q := by have h : ¬ (0 : Int) < (q : Int) - i := h; omega
    exact KW.ret rfl rfl rfl rfl (rfl)
theorem l03Inverse (p a : Int) (hp : 2 ≤ p ∧ p ≤ 31) (ha : 0 ≤ a ∧ a < p) : Spec Tryz.prog S H0 165 [.int .i64 p, .int .i64 a] (fun v => v = .int .i64 (pw p a (p - 2).toNat)) := by
  refine Spec.of1 Tryz.func165 rfl (by kernel_rfl) rfl (fun H _ => ?_)
  have ew : IntKind.i64.wrap (p - 2) = p - 2 := wr (by omega) (by omega)
  refine KW.callE rfl rfl rfl rfl rfl (l03Power p a _ hp ha (by rw [ew]; omega)) (fun _ _ => ?_)
  exact KW.ret rfl rfl rfl rfl (by rw [ew]; rfl)
end
end Go.Proofs.YtijmkfnmdhpakaaGreat.Am
/- Contracts: rows copied. Each holds under its own conditions. -/
set_option linter.unusedVariables false
set_option linter.unusedSimpArgs false
set_option maxRecDepth 20000
namespace Go.Proofs.YtijmkfnmdhpakaaGreat.Am
open Go Go.RowKit Go.Proofs Go.Proofs.YtijmkfnmdhpakaaGreat.Pl
/-- What a maker of rows yields: the list lies in block o, its rows in V. -/
def MkG (xs : List (List Int)) (ty : TypeId) (n : Nat) (v : Value) (H1 : AH) : Prop := ∃ o cs V, v = .slice (some ⟨o, 0, some 1⟩) xs.length xs.length ∧ New n H1.n o ∧ H1.m o = some ⟨ty, true, cs⟩ ∧ (∀ id, V id → New n H1.n id ∧ id ≠ o) ∧ RowsB KI.ml V H1 V xs cs
theorem RowsB.on {S S' V : Ids} {A A' : AH} {rows : List (List Int)} {cs : List Value} (h : RowsB KI.ml S A V rows cs) (hs : ∀ id, V id → S' id ∧ A'.m id = A.m id) : RowsB KI.ml S' A' V rows cs := by
  obtain ⟨W, h1, h2, h3⟩ := h.rows
  refine ⟨h.len, fun id hid => (hs id hid).1, W, h1, h2, fun j x hx => ?_⟩
  obtain ⟨v, h4, h5⟩ := h3 j x hx
  exact ⟨v, h4, KI.ml.same (fun id hid => (hs id (h1 j id hid)).2) h5⟩
theorem RwI.mkG {xs : List (List Int)} {H HB H1 : AH} {SB : Ids} {s : RwS} {T : List Var} {n j : Nat} {ty : TypeId} (h : RwI (fun x => x) xs H SB HB s) (he : s.i = xs.length) (g : Good s.S s.A T n H1) (hT : T[j]? = some (s.o, ⟨ty, true, s.cs⟩)) (ho : H.n ≤ s.o) : MkG xs ty H.n (.slice (some ⟨s.o, 0, some 1⟩) xs.length xs.length) H1 := by
  have hb := h.b
  rw [he, List.take_of_length_le (Nat.le_refl _), List.map_id'] at hb
  have hno := (g.vars j _ hT).2.2
  have hn := g.n_
  refine ⟨s.o, s.cs, s.V, rfl, ⟨ho, (g.blk hT).2⟩, (g.blk hT).1, fun id hid => ⟨⟨h.v id hid, ?_⟩, fun e => hno (e ▸ hb.sub id hid)⟩, hb.on (fun id hid => ⟨hid, (g.froz id (hb.sub id hid)).2⟩)⟩
  have := (g.froz id (hb.sub id hid)).1
  omega
section
variable {S : Ids} {H0 : AH}
theorem copyRows {a c} {xs : List (List Int)} (hB : B_Int64SS xs) (hs : KI.sl.Sl S H0 (.slice a xs.length c) xs) : SpecM Tryz.prog S H0 169 [.slice a xs.length c] (MkG xs 22) := by
  have hxl := hB.len
  refine SpecM.of1 Tryz.func169 rfl (by kernel_rfl) rfl (fun H _ => ?_)
  refine KW.lit rfl rfl rfl rfl rfl rfl rfl rfl rfl rfl [] rfl rfl (fun v hv => by simp at hv) rfl ?_
  refine KW.lpM rfl rfl (fun s : RwS => [(3, .slice (some ⟨s.o, 0, some 1⟩) s.i s.i), (7, .slice a xs.length c), (8, .int .i64 xs.length), (9, .int .i64 s.i)]) (fun s => s.S) (fun s => s.A) (fun s => [(s.o, ⟨_, true, s.cs⟩)]) (fun s => RwI (fun x => x) xs H (Low H.n) H s) (fun s => xs.length - s.i) (⟨0, Low H.n, H, fun _ => False, [], _⟩) (RwI.start) ⟨rfl, rfl, rfl, rfl, trivial⟩ rfl rfl (rfl) (fun s hi bE n => ?_)
  haveI : Stp (Low H.n) H s.S s.A := ⟨hi.old⟩
  have hle := hi.le
  have hcl := hi.b.len
  rw [List.length_map, List.length_take] at hcl
  refine KW.cnd rfl rfl (fun k1 => ?_) (fun k1 => ?_)
  · have k1 : (s.i : Int) < xs.length := k1
    refine KW.getL hs.up rfl rfl rfl rfl rfl rfl rfl rfl rfl rfl rfl rfl rfl rfl rfl rfl (by omega) (k1) (fun y ay cy hy hsy => ?_)
    have hy : xs[s.i]? = some y := hy
    have hyl := hB.each y (List.mem_of_getElem? hy)
    refine KW.ids (fun hlow hvar => ?_)
    refine KW.fact (fun _ g => g.nle (H1 := H)) (fun hn0 => ?_)
    refine KW.callN1 rfl rfl rfl rfl rfl (cloneI hyl hsy) (fun v HC SC mC _ _ hv => ?_)
    obtain ⟨a5, c5, rfl, hC⟩ := hv
    refine KW.app1 (xs := s.cs) (v := .slice a5 y.length c5) 0 1 rfl rfl rfl rfl rfl rfl rfl rfl rfl rfl rfl rfl rfl rfl rfl rfl rfl rfl rfl rfl rfl rfl rfl (by omega) (by show (_ + 1) * 24 ≤ _; omega) (by first | omega | (simp only; omega)) ?_
    exact KW.nxt rfl rfl (fun H' g => ⟨_, hi.next (inferInstance : Stp s.S s.A SC HC).st inferInstance hlow hn0 hy hC, by simp only; omega, ⟨rfl, rfl, rfl, congrArg (Value.int .i64) (inc64 (by omega)), trivial⟩, g⟩)
  · have k1 : ¬ (s.i : Int) < xs.length := k1
    have he : s.i = xs.length := by omega
    refine KW.retM1 rfl rfl rfl rfl (fun H1 g => ?_)
    rw [he]
    exact hi.mkG he g (j := 0) rfl (g.ge (H1 := H) (j := 0) rfl)
end
end Go.Proofs.YtijmkfnmdhpakaaGreat.Am
/- Contract: the echelon of the program. It holds under its own conditions. -/
set_option linter.unusedVariables false
set_option linter.unusedSimpArgs false
set_option maxRecDepth 20000
namespace Go.Proofs.YtijmkfnmdhpakaaGreat.Am
open Go Go.RowKit Go.Proofs Go.Proofs.YtijmkfnmdhpakaaGreat.Pl
/-- What an echelon yields. -/
def MkE (p : Int) (k : Nat) (e : List (List Int) × List Nat) (n : Nat) (v : Value) (H1 : AH) : Prop := ∃ a1 c1 a2 c2, v = .tuple #[.agg #[.int .i64 p, .int .i64 k, .slice a1 e.2.length c1], .slice a2 e.2.length c2] ∧ KI.ml.Ml (New n H1.n) H1 (.slice a1 e.2.length c1) (e.1.take e.2.length) ∧ KI.Ml (New n H1.n) H1 (.slice a2 e.2.length c2) (e.2.map fun (i : Nat) => (i : Int))
structure EcS where
  c : Nat
  S : Ids
  A : AH
  cs : List Value
  po : Nat
structure EcI (p : Int) (k : Nat) (L : List (List Int)) (H : AH) (V : Ids) (s : EcS) : Prop where
  le : s.c ≤ k
  old : St (Low H.n) H s.S s.A
  b : RowsB KI.ml s.S s.A V (ech p L s.c).1 s.cs
theorem ech_none {p : Int} {L : List (List Int)} {c : Nat} (h : nz (ech p L c).1 c (ech p L c).2.length = (ech p L c).1.length) : ech p L (c + 1) = ech p L c := by
  rw [ech]
  have : rnd p (ech p L c).1 c (ech p L c).2.length = none := by unfold rnd; rw [if_pos h]
  rw [this]
theorem ech_some {p : Int} {L : List (List Int)} {c : Nat} (h : nz (ech p L c).1 c (ech p L c).2.length ≠ (ech p L c).1.length) : ech p L (c + 1) = (tks p c (ech p L c).2.length (lead p (ech p L c).1 c (ech p L c).2.length) ((sw (ech p L c).1 (ech p L c).2.length (nz (ech p L c).1 c (ech p L c).2.length)).set (ech p L c).2.length (lead p (ech p L c).1 c (ech p L c).2.length)) (ech p L c).1.length, (ech p L c).2 ++ [c]) := by
  rw [ech]
  unfold rnd
  rw [if_neg h]
theorem built_Matrix (p c : Int) (a : Option Addr) (n m : Nat) : Tryz.prog.built 36 [(0, .int .i64 p), (1, .int .i64 c), (2, .slice a n m)] = some #[.int .i64 p, .int .i64 c, .slice a n m] := by kernel_rfl
theorem cell0 {l : List Value} {q : Nat} {v : Value} (h : l[q]? = some v) : l[0 + q * 1]? = some v := by rw [Nat.zero_add, Nat.mul_one]; exact h
section
variable {S : Ids} {H0 : AH}
theorem echelon {p : Int} {k : Nat} (hp : 2 ≤ p ∧ p ≤ 31) (hk : k ≤ 1000) {L : List (List Int)} (hB : B_Int64SS L) (hL : Rect p k L) {a c} (hs : KI.sl.Sl S H0 (.slice a L.length c) L) : SpecM Tryz.prog S H0 156 [.agg #[.int .i64 p, .int .i64 k, .slice a L.length c]] (MkE p k (ech p L k)) := by
  have hLl := hB.len
  have hok := ech_ok (p := p) (by omega) hL
  refine SpecM.of1 Tryz.func156 rfl (by kernel_rfl) rfl (fun H _ => ?_)
  refine KW.callN1 rfl rfl rfl rfl rfl (copyRows hB hs.up) (fun v HC SC mC _ _ hv => ?_)
  obtain ⟨o, cs0, V, rfl, ho, hom, hV, hb0⟩ := hv
  have oS := (inferInstance : On (New (H.n + 2) HC.n) HC SC HC).st
  refine KW.thaw o ⟨_, true, cs0⟩ (oS o ho).1 hom ?_
  haveI oH : On (Low H.n) H (fun id => SC id ∧ id ≠ o) HC := On.thaw (fun id hid => by have : id < H.n := hid; have := ho.1; omega)
  have hb1 : RowsB KI.ml (fun id => SC id ∧ id ≠ o) HC V L cs0 := hb0.on (fun id hid => ⟨⟨(oS id (hV id hid).1).1, (hV id hid).2⟩, rfl⟩)
  have hVl : ∀ id, V id → H.n ≤ id := fun id hid => by have := (hV id hid).1.1; omega
  refine KW.lit rfl rfl rfl rfl rfl rfl rfl rfl rfl rfl [] rfl rfl (fun v hv => by simp at hv) rfl ?_
  refine KW.lpM rfl rfl (fun s : EcS => [(1, .pointer (some ⟨H.n, 0, some 0⟩)), (2, .pointer (some ⟨H.n + 1, 0, some 1⟩)), (4, .slice (some ⟨o, 0, some 1⟩) L.length L.length), (5, .slice (some ⟨s.po, 0, some 1⟩) (ech p L s.c).2.length (ech p L s.c).2.length), (16, .int .i64 k), (17, .int .i64 s.c)]) (fun s => s.S) (fun s => s.A) (fun s => [(H.n, ⟨36, true, [.int .i64 p, .int .i64 k, .slice a L.length c]⟩), (H.n + 1, ⟨36, true, [.int .i64 0, .int .i64 0, .slice none 0 0]⟩), (o, ⟨22, true, s.cs⟩), (s.po, ⟨_, true, (ech p L s.c).2.map fun (i : Nat) => Value.int .i64 i⟩)]) (fun s => EcI p k L H V s) (fun s => k - s.c) (⟨0, _, HC, cs0, _⟩) (⟨Nat.zero_le _, oH.st, hb1⟩) ⟨rfl, rfl, rfl, rfl, rfl, rfl, trivial⟩ rfl rfl (rfl) (fun s hi bE n => ?_)
  obtain ⟨ci, S1, A1, cs, po⟩ := s
  obtain ⟨hle, hold, hb⟩ := hi
  simp only at hle hold hb
  have hoc := hok ci
  haveI oc : Stp (Low H.n) H S1 A1 := ⟨hold⟩
  obtain ⟨q, hn⟩ : ∃ q, (ech p L ci).2.length = q := ⟨_, rfl⟩
  obtain ⟨M, hM⟩ : ∃ M, (ech p L ci).1 = M := ⟨_, rfl⟩
  rw [hM] at hb
  have hcs := hb.len
  have hMl : M.length = L.length := by rw [← hM]; exact hoc.2.1
  have hMr : Rect p k M := by rw [← hM]; exact hoc.1
  have hnL : q ≤ L.length := by rw [← hn]; exact hoc.2.2.1
  have e5 : Value.slice (some ⟨po, 0, some 1⟩) (ech p L ci).2.length (ech p L ci).2.length = Value.slice (some ⟨po, 0, some 1⟩) q q := by rw [hn]
  have e7 : Value.int .i64 ((ech p L ci).2.length : Nat) = Value.int .i64 q := by rw [hn]
  refine KW.cnd rfl rfl (fun h => ?_) (fun h => ?_)
  · have h : (ci : Int) < k := h
    refine KW.lp rfl rfl (fun r : Nat => [(1, .pointer (some ⟨H.n, 0, some 0⟩)), (2, .pointer (some ⟨H.n + 1, 0, some 1⟩)), (4, .slice (some ⟨o, 0, some 1⟩) L.length L.length), (5, .slice (some ⟨po, 0, some 1⟩) q q), (6, .int .i64 ci), (7, .int .i64 q), (8, .int .i64 r), (16, .int .i64 k), (17, .int .i64 ci)]) (fun r => q ≤ r ∧ r ≤ L.length ∧ nz M ci r = nz M ci q) (fun r => L.length - r) (q) (⟨Nat.le_refl _, hnL, rfl⟩) ⟨rfl, rfl, rfl, e5, rfl, e7, e7, rfl, rfl, trivial⟩ (fun r hi bE n => ?_)
    obtain ⟨hr1, hr2, hr3⟩ := hi
    refine KW.tst rfl rfl (fun h1 => ?_) (fun h1 => ?_)
    · have h1 : (r : Int) < L.length := h1
      obtain ⟨w, hw⟩ : ∃ w, M[r]? = some w := ⟨M[r]'(by omega), List.getElem?_eq_getElem (by omega)⟩
      obtain ⟨v, W, hv, hm, hWV, _, _⟩ := hb.row1 hw
      obtain ⟨ra, rc, rfl⟩ := hm.form
      have hwk := hMr.at hw
      refine KW.idx0 rfl rfl rfl rfl rfl rfl rfl rfl rfl (by omega) (h1) ?_
      refine KW.ldT 2 rfl rfl rfl rfl rfl rfl (bload_at (cell0 hv) rfl rfl) ?_
      refine KW.getI ((hm.sl.more (fun id hid => hb.sub id (hWV id hid)))) rfl rfl rfl rfl rfl rfl rfl rfl rfl rfl rfl rfl rfl rfl rfl rfl (by omega) (by omega) (fun x hx => ?_)
      have hx : w[ci]? = some x := hx
      refine KW.cnd rfl rfl (fun k2 => ?_) (fun k2 => ?_)
      · have k2 : x = 0 := k2
        refine KW.nxt rfl rfl (fun H' g => ⟨r + 1, ⟨by omega, by omega, by rw [nz_step hw (by rw [List.getD_eq_getElem?_getD, hx]; exact k2)]; exact hr3⟩, by first | omega | (simp only; omega), ⟨rfl, rfl, rfl, rfl, rfl, rfl, congrArg (Value.int .i64) (inc64 (by omega)), rfl, rfl, trivial⟩, g⟩)
      · have k2 : ¬ x = 0 := k2
        refine KW.no rfl rfl (by omega) ?_
        have e1 : nz M ci q = r := by rw [← hr3]; exact nz_stop hw (by rw [List.getD_eq_getElem?_getD, hx]; exact k2)
        have hrn : q ≤ r := by omega
        have hrL : r < L.length := by omega
        obtain ⟨wn, hwn⟩ : ∃ w, M[q]? = some w := ⟨M[q]'(by omega), List.getElem?_eq_getElem (by omega)⟩
        obtain ⟨vn, Wn, hvn, hmn, _, _, _⟩ := hb.row1 hwn
        obtain ⟨na, nc, rfl⟩ := hmn.form
        refine KW.idx0 rfl rfl rfl rfl rfl rfl rfl rfl rfl (by omega) (by omega) ?_
        refine KW.ldT 2 rfl rfl rfl rfl rfl rfl (bload_at (cell0 hv) rfl rfl) ?_
        refine KW.idx0 rfl rfl rfl rfl rfl rfl rfl rfl rfl (by omega) (by omega) ?_
        refine KW.ldT 2 rfl rfl rfl rfl rfl rfl (bload_at (cell0 hvn) rfl rfl) ?_
        refine KW.idx0 rfl rfl rfl rfl rfl rfl rfl rfl rfl (by omega) (by omega) ?_
        refine KW.st1 2 rfl rfl rfl rfl rfl rfl rfl rfl rfl rfl rfl rfl (by simp only; omega) ?_
        refine KW.idx0 rfl rfl rfl rfl rfl rfl rfl rfl rfl (by omega) (by omega) ?_
        refine KW.st1 2 rfl rfl rfl rfl rfl rfl rfl rfl rfl rfl rfl rfl (by simp only [List.length_set]; omega) ?_
        have hb2 : RowsB KI.ml S1 A1 V (sw M q r) ((cs.set (0 + q * 1) (.slice ra w.length rc)).set (0 + r * 1) (.slice na wn.length nc)) := by
          rw [Nat.zero_add, Nat.zero_add, Nat.mul_one, Nat.mul_one]
          exact hb.swap (by omega) (by omega) hvn hv
        have hM1 : Rect p k (sw M q r) := hMr.sw (by omega) (by omega)
        obtain ⟨w1, hw1⟩ : ∃ w, (sw M q r)[q]? = some w := ⟨(sw M q r)[q]'(by rw [sw_len]; omega), List.getElem?_eq_getElem (by rw [sw_len]; omega)⟩
        have hw1d : (sw M q r).getD q [] = w1 := by rw [List.getD_eq_getElem?_getD, hw1]; rfl
        have hw1k := hM1.at hw1
        obtain ⟨v1, W1, hv1, hm1, hW1, _, hset⟩ := hb2.row1 hw1
        obtain ⟨a1, c1, rfl⟩ := hm1.form
        have hw1l : w1.length = k := hw1k.1
        refine KW.idx0 rfl rfl rfl rfl rfl rfl rfl rfl rfl (by omega) (by omega) ?_
        refine KW.ldT 2 rfl rfl rfl rfl rfl rfl (bload_at (cell0 hv1) rfl rfl) ?_
        refine KW.idx0 rfl rfl rfl rfl rfl rfl rfl rfl rfl (by omega) (by omega) ?_
        refine KW.ldT 2 rfl rfl rfl rfl rfl rfl (bload_at (cell0 hv1) rfl rfl) ?_
        refine KW.getI ((hm1.sl.more (fun id hid => hb2.sub id (hW1 id hid)))) rfl rfl rfl rfl rfl rfl rfl rfl rfl rfl rfl rfl rfl rfl rfl rfl (by omega) (by omega) (fun x1 hx1 => ?_)
        have hx1 : w1[ci]? = some x1 := hx1
        have hx1k := hw1k.2 x1 (List.mem_of_getElem? hx1)
        refine KW.callE rfl rfl rfl rfl rfl (inverse p x1 hp hx1k) (fun _ _ => ?_)
        have hpk := pw_ok (a := x1) hp.1 (p - 2).toNat
        have hsub1 : ∀ id, W1 id → S1 id := fun id hid => hb2.sub id (hW1 id hid)
        refine KW.callW hsub1 rfl rfl rfl rfl rfl (scaled hp hpk (by omega) hw1k.2 hsub1 hm1) (fun v2 H2 S2 hn2 st2 hw2 hv2 => ?_)
        obtain ⟨ld, hld⟩ : ∃ ld, sc p (pw p x1 (p - 2).toNat) w1 = ld := ⟨_, rfl⟩
        have hlead : lead p M ci q = ld := by
          unfold lead
          rw [e1, hw1d, ← hld, List.getD_eq_getElem?_getD, hx1]
          rfl
        have hldk : ld.length = k ∧ ∀ x ∈ ld, 0 ≤ x ∧ x < p := by rw [← hld]; exact sc_ok (by omega) hw1k
        have hb3 := hset S2 H2 _ st2 hv2
        rw [hld] at hb3
        have hold2 : St (Low H.n) H S2 H2 := fun id hid => ⟨(st2 id (hold id hid).1).1, by rw [(st2 id (hold id hid).1).2 (fun hw => by have := hVl id (hW1 id hw); have : id < H.n := hid; omega)]; exact (hold id hid).2⟩
        obtain ⟨M2, hM2⟩ : ∃ M2, (sw M q r).set q ld = M2 := ⟨_, rfl⟩
        rw [hM2] at hb3
        have hM2l : M2.length = L.length := by rw [← hM2, List.length_set, sw_len]; exact hMl
        have hM2r : Rect p k M2 := by rw [← hM2]; exact hM1.set hldk
        have hM2q : M2[q]? = some ld := by rw [← hM2, List.getElem?_set_self (by rw [sw_len]; omega)]
        obtain ⟨cs1, hcs1⟩ : ∃ cs1, (cs.set (0 + q * 1) (.slice ra w.length rc)).set (0 + r * 1) (.slice na wn.length nc) = cs1 := ⟨_, rfl⟩
        rw [hcs1] at hb3
        refine KW.lpM rfl rfl (fun s : (Nat × Ids × AH) => [(1, .pointer (some ⟨H.n, 0, some 0⟩)), (2, .pointer (some ⟨H.n + 1, 0, some 1⟩)), (4, .slice (some ⟨o, 0, some 1⟩) L.length L.length), (5, .slice (some ⟨po, 0, some 1⟩) q q), (6, .int .i64 ci), (7, .int .i64 q), (16, .int .i64 k), (17, .int .i64 ci), (74, .slice (some ⟨o, 0, some 1⟩) L.length L.length), (75, .int .i64 L.length), (76, .int .i64 s.1)]) (fun s => s.2.1) (fun s => s.2.2) (fun s => [(H.n, ⟨36, true, [.int .i64 p, .int .i64 k, .slice a L.length c]⟩), (H.n + 1, ⟨36, true, [.int .i64 0, .int .i64 0, .slice none 0 0]⟩), (o, ⟨22, true, (cs.set (0 + q * 1) (.slice ra w.length rc)).set (0 + r * 1) (.slice na wn.length nc)⟩), (po, ⟨_, true, (ech p L ci).2.map fun (i : Nat) => Value.int .i64 i⟩)]) (fun s => s.1 ≤ L.length ∧ St (Low H.n) H s.2.1 s.2.2 ∧ RowsB KI.ml s.2.1 s.2.2 V (tks p ci q ld M2 s.1) cs1) (fun s => L.length - s.1) ((0, S2, H2)) (⟨Nat.zero_le _, hold2, by simp only [tks_zero]; exact hb3⟩) ⟨rfl, rfl, rfl, rfl, rfl, rfl, rfl, rfl, rfl, rfl, rfl, trivial⟩ rfl rfl (rfl) (fun s hi bE n => ?_)
        obtain ⟨i, S3, A3⟩ := s
        obtain ⟨hi1, hold3, hb4⟩ := hi
        simp only at hi1 hold3 hb4
        haveI oc3 : Stp (Low H.n) H S3 A3 := ⟨hold3⟩
        rw [← hcs1] at hb4
        refine KW.cnd rfl rfl (fun h3 => ?_) (fun h3 => ?_)
        · have h3 : (i : Int) < L.length := h3
          obtain ⟨wi, hwi⟩ : ∃ w, M2[i]? = some w := ⟨M2[i]'(by omega), List.getElem?_eq_getElem (by omega)⟩
          have hwik := hM2r.at hwi
          obtain ⟨vi, Wi, hvi, hmi, hWi, hoth, hseti⟩ := hb4.row1 ((tks_old (.inl (Nat.le_refl i))).trans hwi)
          obtain ⟨ai, ic, rfl⟩ := hmi.form
          refine KW.idx0 rfl rfl rfl rfl rfl rfl rfl rfl rfl (by omega) (h3) ?_
          refine KW.ldT 2 rfl rfl rfl rfl rfl rfl (bload_at (cell0 hvi) rfl rfl) ?_
          refine KW.cndB rfl rfl (fun h4 => ?_) (fun h4 => ?_)
          · have h4 : i ≠ q := by simp at h4; omega
            obtain ⟨vq, Xq, hvq, hmq, hXq⟩ := hoth q ld (Ne.symm h4) ((tks_old (.inr rfl)).trans hM2q)
            obtain ⟨aq, qc, rfl⟩ := hmq.form
            refine KW.idx0 rfl rfl rfl rfl rfl rfl rfl rfl rfl (by omega) (by omega) ?_
            refine KW.ldT 2 rfl rfl rfl rfl rfl rfl (bload_at (cell0 hvq) rfl rfl) ?_
            refine KW.getI ((hmi.sl.more (fun id hid => hb4.sub id (hWi id hid)))) rfl rfl rfl rfl rfl rfl rfl rfl rfl rfl rfl rfl rfl rfl rfl rfl (by omega) (by omega) (fun xi hxi => ?_)
            have hxi : wi[ci]? = some xi := hxi
            have hxik := hwik.2 xi (List.mem_of_getElem? hxi)
            have hsubi : ∀ id, Wi id → S3 id := fun id hid => hb4.sub id (hWi id hid)
            refine KW.callW hsubi rfl rfl rfl rfl rfl (takeOff hp hxik (by omega) hldk.2 (fun id hid => ⟨hb4.sub id (hXq id hid).1, (hXq id hid).2⟩) hmq.sl (by omega) hwik.2 hsubi hmi) (fun v5 H5 S5 hn5 st5 hw5 hv5 => ?_)
            have hb5 := hseti S5 H5 _ st5 hv5
            have hold5 : St (Low H.n) H S5 H5 := fun id hid => ⟨(st5 id (hold3 id hid).1).1, by rw [(st5 id (hold3 id hid).1).2 (fun hw => by have := hVl id (hWi id hw); have : id < H.n := hid; omega)]; exact (hold3 id hid).2⟩
            have et : tks p ci q ld M2 (i + 1) = (tks p ci q ld M2 i).set i (tk p xi wi ld) := by
              rw [tks_next h4 hwi, List.getD_eq_getElem?_getD, hxi]
              rfl
            rw [← et, hcs1] at hb5
            refine KW.nxt rfl rfl (fun H' g => ⟨(i + 1, S5, H5), ⟨by simp only; omega, hold5, hb5⟩, by first | omega | (simp only; omega), ⟨rfl, rfl, rfl, rfl, rfl, rfl, rfl, rfl, rfl, rfl, congrArg (Value.int .i64) (inc64 (by omega)), trivial⟩, g⟩)
          · have h4 : i = q := by simp at h4; omega
            subst h4
            rw [← tks_skip, hcs1] at hb4
            refine KW.nxt rfl rfl (fun H' g => ⟨(i + 1, S3, A3), ⟨by simp only; omega, hold3, hb4⟩, by first | omega | (simp only; omega), ⟨rfl, rfl, rfl, rfl, rfl, rfl, rfl, rfl, rfl, rfl, congrArg (Value.int .i64) (inc64 (by omega)), trivial⟩, g⟩)
        · have h3 : ¬ (i : Int) < L.length := h3
          have hiL : i = L.length := by omega
          have eE : ech p L (ci + 1) = (tks p ci q ld M2 L.length, (ech p L ci).2 ++ [ci]) := by
            rw [ech_some (by rw [hM, hn, e1]; omega), hM, hn, hlead, e1, hM2, hMl]
          have e8 : ∀ x : Nat, Value.slice (some ⟨x, 0, some 1⟩) (q + 1) (q + 1) = Value.slice (some ⟨x, 0, some 1⟩) (ech p L (ci + 1)).2.length (ech p L (ci + 1)).2.length := fun x => by rw [eE]; simp [hn]
          refine KW.app1 (xs := (ech p L ci).2.map fun (i : Nat) => Value.int .i64 i) (v := .int .i64 ci) 3 4 rfl rfl rfl rfl rfl rfl rfl rfl rfl rfl rfl rfl rfl rfl rfl rfl rfl rfl rfl rfl rfl rfl rfl (by simp [hn]) (by show (_ + 1) * 8 ≤ _; omega) (by first | omega | (simp only; omega)) ?_
          refine KW.nxt rfl rfl (fun H' g => ⟨⟨ci + 1, S3, A3, _, _⟩, ⟨by simp only; omega, hold3, by simp only; rw [eE, ← hiL]; exact hb4⟩, by first | omega | (simp only; omega), ⟨rfl, rfl, rfl, e8 _, rfl, congrArg (Value.int .i64) (inc64 (by omega)), trivial⟩, g.eqT (by simp only [eE, List.map_append]; rfl)⟩)
    · have h1 : ¬ (r : Int) < L.length := h1
      refine KW.cF rfl rfl (by first | (simp; done) | decide) ?_
      refine KW.yes rfl rfl (by omega) ?_
      have e1 : nz (ech p L ci).1 ci (ech p L ci).2.length = (ech p L ci).1.length := by rw [hM, hn, ← hr3, nz_end (by omega)]; omega
      have e2 := ech_none e1
      have e3 : Value.slice (some ⟨po, 0, some 1⟩) q q = Value.slice (some ⟨po, 0, some 1⟩) (ech p L (ci + 1)).2.length (ech p L (ci + 1)).2.length   := by rw [e2, hn]
      refine KW.nxt rfl rfl (fun H' g => ⟨⟨ci + 1, S1, A1, cs, po⟩, ⟨by simp only; omega, hold, by simp only; rw [e2, hM]; exact hb⟩, by first | omega | (simp only; omega), ⟨rfl, rfl, rfl, e3, rfl, congrArg (Value.int .i64) (inc64 (by omega)), trivial⟩, g.eqT (by simp only [e2])⟩)
  · have hck : ci = k := by have h : ¬ (ci : Int) < k := h; omega
    refine KW.slTo (m := (ech p L ci).2.length) rfl rfl rfl rfl rfl rfl rfl rfl rfl (by omega) ?_
    refine KW.build rfl rfl rfl rfl rfl (built_Matrix _ _ _ _ _) ?_
    subst hck
    refine KW.retM1 rfl rfl rfl rfl (fun H1 g => ?_)
    have hno := g.n_
    have hbo := g.blk (j := 2) rfl
    have hbp := g.blk (j := 3) rfl
    have hpo := g.ge (H1 := H) (j := 3) rfl
    refine ⟨_, _, _, _, rfl, ?_, ?_⟩
    · rw [hM]
      exact hb.mlTo g (j := 2) rfl ⟨by have := ho.1; omega, hbo.2⟩ (fun id hid => ⟨hVl id hid, by have := (g.froz id (hb.sub id hid)).1; omega⟩) (by omega) (by omega)
    · have el : ((ech p L ci).2.map fun (i : Nat) => (i : Int)).length = (ech p L ci).2.length := by simp
      have := mlI_of (ik := .i64) (X := New H.n H1.n) (c := (ech p L ci).2.length) (ys := (ech p L ci).2.map fun (i : Nat) => (i : Int)) ⟨hpo, hbp.2⟩ hbp.1 rfl (by rw [el]; exact Nat.le_refl _) (by simp) (fun j x hx => by
        rw [List.getElem?_map] at hx ⊢
        cases hj : (ech p L ci).2[j]? with
        | none => rw [hj] at hx; cases hx
        | some z => rw [hj] at hx; cases hx; rfl)
      rw [el] at this
      exact this
end
end Go.Proofs.YtijmkfnmdhpakaaGreat.Am
/- Contracts: the rank of the program. Each holds under its own conditions. -/
set_option linter.unusedVariables false
set_option linter.unusedSimpArgs false
set_option maxRecDepth 20000
namespace Go.Proofs.YtijmkfnmdhpakaaGreat.Am
open Go Go.RowKit Go.Proofs Go.Proofs.YtijmkfnmdhpakaaGreat.Pl
theorem OkMat.rect {p c : Int} {L : List (List Int)} (h : OkMat p c L) {k : Nat} (hk : c = k) : Rect p k L := fun r hr => by
  have h1 := h.row r hr
  exact ⟨by have := h1.1; omega, fun x hx => by have := h1.2 x hx; omega⟩
section
variable {S : Ids} {H0 : AH}
end
end Go.Proofs.YtijmkfnmdhpakaaGreat.Am
/- Contract: a matrix copied by the reference. It holds under its own conditions. -/
set_option linter.unusedVariables false
set_option linter.unusedSimpArgs false
set_option maxRecDepth 20000
namespace Go.Proofs.YtijmkfnmdhpakaaGreat.Am
open Go Go.RowKit Go.Proofs Go.Proofs.YtijmkfnmdhpakaaGreat.Pl
/-- What the copy of a matrix yields. -/
def MkC (p c : Int) (xs : List (List Int)) (ty : TypeId) (n : Nat) (v : Value) (H1 : AH) : Prop :=
  (xs = [] ∧ v = .agg #[.int .i64 p, .int .i64 c, .slice none 0 0]) ∨ (xs ≠ [] ∧ ∃ w, v = .agg #[.int .i64 p, .int .i64 c, w] ∧ MkG xs ty n w H1)
theorem built_Matrix2 (p c : Int) : Tryz.prog.built 36 [(0, .int .i64 p), (1, .int .i64 c)] = some #[.int .i64 p, .int .i64 c, .slice none 0 0] := by kernel_rfl
structure CpS where
  i : Nat
  S : Ids
  A : AH
  V : Ids
  cs : List Value
  l : Value
  tail : List Var
structure CpI (xs : List (List Int)) (H HB : AH) (SB : Ids) (s : CpS) : Prop where
  rw : RwI (fun x => x) xs H SB HB ⟨s.i, s.S, s.A, s.V, s.cs, 0⟩
  form : (s.i = 0 ∧ s.l = .slice none 0 0 ∧ s.tail = [] ∧ s.cs = []) ∨ (0 < s.i ∧ ∃ o, s.l = .slice (some ⟨o, 0, some 1⟩) s.i s.i ∧ s.tail = [(o, ⟨22, true, s.cs⟩)])
section
variable {S : Ids} {H0 : AH}
theorem l03Copy {p c : Int} {id k : Nat} {xs : List (List Int)} {a m} (hB : B_Int64SS xs) (hv : Has3 S H0 id k [.int .i64 p, .int .i64 c, .slice a xs.length m]) (hs : KI.sl.Sl S H0 (.slice a xs.length m) xs) : SpecM Tryz.prog S H0 163 [.pointer (some ⟨id, k, none⟩)] (MkC p c xs 22) := by
  have hxl := hB.len
  refine SpecM.of1 Tryz.func163 rfl (by kernel_rfl) rfl (fun H _ => ?_)
  have hv := hv.up (S' := Low H.n) (H' := H)
  have hs := hs.up (S' := Low H.n) (H' := H)
  refine KW.ldF 0 hv rfl rfl rfl rfl rfl rfl rfl rfl rfl ?_
  refine KW.ldF 1 hv rfl rfl rfl rfl rfl rfl rfl rfl rfl ?_
  refine KW.build rfl rfl rfl rfl rfl (built_Matrix2 _ _) ?_
  refine KW.lpM rfl rfl (fun s : CpS => [(0, .pointer (some ⟨id, k, none⟩)), (2, .pointer (some ⟨H.n, 0, some 0⟩)), (3, .pointer (some ⟨H.n + 1, 0, some 1⟩)), (4, .int .i64 s.i)]) (fun s => s.S) (fun s => s.A) (fun s => [(H.n, ⟨36, true, [.int .i64 0, .int .i64 0, .slice none 0 0]⟩), (H.n + 1, ⟨36, true, [.int .i64 p, .int .i64 c, s.l]⟩)] ++ s.tail) (fun s => CpI xs H H (Low H.n) s) (fun s => xs.length - s.i) (⟨0, Low H.n, H, fun _ => False, [], .slice none 0 0, []⟩) (⟨RwI.start, .inl ⟨rfl, rfl, rfl, rfl⟩⟩) ⟨rfl, rfl, rfl, rfl, trivial⟩ rfl rfl (rfl) (fun s hi bE n => ?_)
  obtain ⟨i, S1, A1, V, cs, l, tail⟩ := s
  obtain ⟨hr, hform⟩ := hi
  simp only at hr hform
  haveI : Stp (Low H.n) H S1 A1 := ⟨hr.old⟩
  have hle := hr.le
  have hcl := hr.b.len
  rw [List.length_map, List.length_take] at hcl
  simp only at hle hcl
  have hv1 := hv.up (S' := S1) (H' := A1)
  have hs1 := hs.up (S' := S1) (H' := A1)
  rcases hform with ⟨hi0, e1, e2, e3⟩ | ⟨hi0, o, e1, e2⟩
  case' inl => subst e1 e2 e3
  case' inr => subst e1 e2
  all_goals
    refine KW.ldF 2 hv1 rfl rfl rfl rfl rfl rfl rfl rfl rfl ?_
    refine KW.cnd rfl rfl (fun j1 => ?gin) (fun j1 => ?gout)
    case gin =>
      have j1 : (i : Int) < xs.length := j1
      refine KW.ldF 2 hv1 rfl rfl rfl rfl rfl rfl rfl rfl rfl ?_
      refine KW.getL hs1 rfl rfl rfl rfl rfl rfl rfl rfl rfl rfl rfl rfl rfl rfl rfl rfl (by omega) (j1) (fun y ay cy hy hsy => ?_)
      have hy : xs[i]? = some y := hy
      have hyl := hB.each y (List.mem_of_getElem? hy)
      refine KW.ids (fun hlow hvar => ?_)
      have hnA := (hvar 1 (H.n + 1) _ rfl).1
      refine KW.callN1 rfl rfl rfl rfl rfl (l00Own hyl hsy) (fun v HC SC mC _ _ hv => ?_)
      obtain ⟨a5, c5, rfl, hC⟩ := hv
      first
        | (refine KW.app0 (v := .slice a5 y.length c5) 2 rfl rfl rfl rfl rfl rfl rfl rfl rfl rfl rfl rfl rfl rfl rfl rfl rfl rfl rfl rfl rfl rfl (by decide) ?_
           subst hi0
           exact KW.nxt rfl rfl (fun H' g => ⟨⟨1, SC, HC, _, _, _, _⟩, ⟨hr.next (o' := 0) (inferInstance : Stp S1 A1 SC HC).st inferInstance hlow (by omega) hy hC, .inr ⟨by simp only; omega, _, rfl, rfl⟩⟩, by simp only; omega, ⟨rfl, rfl, rfl, rfl, trivial⟩, g⟩))
        | (refine KW.app1 (xs := cs) (v := .slice a5 y.length c5) 2 3 rfl rfl rfl rfl rfl rfl rfl rfl rfl rfl rfl rfl rfl rfl rfl rfl rfl rfl rfl rfl rfl rfl rfl (by omega) (by show (_ + 1) * 24 ≤ _; omega) (by omega) ?_
           exact KW.nxt rfl rfl (fun H' g => ⟨⟨i + 1, SC, HC, _, _, _, _⟩, ⟨hr.next (o' := 0) (inferInstance : Stp S1 A1 SC HC).st inferInstance hlow (by omega) hy hC, .inr ⟨by simp only; omega, _, rfl, rfl⟩⟩, by simp only; omega, ⟨rfl, rfl, rfl, congrArg (Value.int .i64) (inc64 (by omega)), trivial⟩, g⟩))
    case gout =>
      have j1 : ¬ (i : Int) < xs.length := j1
      have he : i = xs.length := by omega
      refine KW.retM1 rfl rfl rfl rfl (fun H1 g => ?_)
      first
        | exact .inl ⟨List.eq_nil_of_length_eq_zero (by omega), rfl⟩
        | (refine .inr ⟨fun hx => by rw [hx] at he; simp at he; omega, _, rfl, ?_⟩
           rw [he]
           exact (⟨hr.le, hr.old, hr.b, hr.v⟩ : RwI (fun x => x) xs H (Low H.n) H ⟨i, S1, A1, V, cs, o⟩).mkG he g (j := 2) rfl (g.ge (H1 := H) (j := 2) rfl))
end
end Go.Proofs.YtijmkfnmdhpakaaGreat.Am
/- Contract: the echelon of the reference. It holds under its own conditions. -/
set_option linter.unusedVariables false
set_option linter.unusedSimpArgs false
set_option maxRecDepth 20000
namespace Go.Proofs.YtijmkfnmdhpakaaGreat.Am
open Go Go.RowKit Go.Proofs Go.Proofs.YtijmkfnmdhpakaaGreat.Pl
theorem sets_comm {cs : List Value} {q r : Nat} {u v : Value} (hq : cs[q]? = some u) (hr : cs[r]? = some v) : (cs.set r u).set q v = (cs.set q v).set r u := by
  by_cases h : q = r
  · subst h
    rw [hq] at hr
    cases hr
    rfl
  · exact List.set_comm _ _ (Ne.symm h)
theorem sw_at {L : List (List Int)} {q r : Nat} {w : List Int} (hq : q < L.length) (hw : L[r]? = some w) : (sw L q r)[q]? = some w := by
  unfold sw
  have hr := (List.getElem?_eq_some_iff.1 hw).1
  have e : L.getD r [] = w := by rw [List.getD_eq_getElem?_getD, hw]; rfl
  rw [List.getElem?_set]
  by_cases h : r = q
  · subst h
    rw [if_pos rfl, if_pos (by simpa using hr), e]
  · rw [if_neg h, List.getElem?_set_self hq, e]
theorem tks_same {p : Int} {c n : Nat} {r : List Int} {L : List (List Int)} {i : Nat} {w : List Int} (hi : i ≠ n) (hw : L[i]? = some w) (h0 : w.getD c 0 = 0) (hl : w.length = r.length) (hx : ∀ x ∈ w, 0 ≤ x ∧ x < p) : tks p c n r L (i + 1) = tks p c n r L i := by
  rw [tks_next hi hw, h0, tk_zero hl hx]
  apply List.ext_getElem?
  intro j
  rw [List.getElem?_set]
  split
  · rename_i e
    subst e
    rw [tks_len, if_pos (List.getElem?_eq_some_iff.1 hw).1, tks_old (.inl (Nat.le_refl _)), hw]
  · rfl
theorem ech_nil {p : Int} : ∀ k, ech p [] k = ([], [])
  | 0 => rfl
  | k + 1 => by
    rw [ech, ech_nil k]
    have : rnd p [] k ([] : List Nat).length = none := by unfold rnd; exact if_pos (nz_end (L := []) (c := k) (a := 0) (Nat.le_refl _))
    simp only [this]
section
variable {S : Ids} {H0 : AH}
theorem l03Echelon {p : Int} {k : Nat} (hp : 2 ≤ p ∧ p ≤ 31) (hk : k ≤ 1000) {L : List (List Int)} (hB : B_Int64SS L) (hL : Rect p k L) {id kk : Nat} {a c} (hv0 : Has3 S H0 id kk [.int .i64 p, .int .i64 k, .slice a L.length c]) (hs : KI.sl.Sl S H0 (.slice a L.length c) L) : SpecM Tryz.prog S H0 148 [.pointer (some ⟨id, kk, none⟩)] (MkE p k (ech p L k)) := by
  have hLl := hB.len
  have hok := ech_ok (p := p) (by omega) hL
  refine SpecM.of1 Tryz.func148 rfl (by kernel_rfl) rfl (fun H _ => ?_)
  have hv0 := hv0.up (S' := Low H.n) (H' := H)
  have hs := hs.up (S' := Low H.n) (H' := H)
  refine KW.callN1 rfl rfl rfl rfl rfl (l03Copy hB hv0 hs) (fun v HC SC mC _ _ hC => ?_)
  have hvC := hv0.up (S' := SC) (H' := HC)
  rcases hC with ⟨hL0, rfl⟩ | ⟨hL0, wC, rfl, o, cs0, V, rfl, ho, hom, hV, hb0⟩
  · subst hL0
    refine KW.ldF 0 hvC rfl rfl rfl rfl rfl rfl rfl rfl rfl ?_
    refine KW.lit rfl rfl rfl rfl rfl rfl rfl rfl rfl rfl [] rfl rfl (fun v hv => by simp at hv) rfl ?_
    refine KW.lp rfl rfl (fun _ : Unit => [(0, .pointer (some ⟨id, kk, none⟩)), (2, .pointer (some ⟨H.n, 0, some 0⟩)), (4, .pointer (some ⟨HC.n, 0, some 1⟩)), (5, .int .i64 p), (6, .slice (some ⟨HC.n + 1, 0, some 1⟩) 0 0), (7, .int .i64 0), (8, .int .i64 0)]) (fun _ => True) (fun _ => 0) (()) (trivial) ⟨rfl, rfl, rfl, rfl, rfl, rfl, rfl, trivial⟩ (fun _ hi bE n => ?_)
    refine KW.ldF 1 (hv0.up (S' := SC) (H' := HC)) rfl rfl rfl rfl rfl rfl rfl rfl rfl ?_
    refine KW.tst rfl rfl (fun h => ?_) (fun h => ?_)
    all_goals
      refine KW.cF rfl rfl (by first | (simp; done) | decide) ?_
      refine KW.pure rfl rfl rfl rfl rfl (.slice none 0 0) rfl ?_
      refine KW.retM1 rfl rfl rfl rfl (fun H1 g => ?_)
      rw [ech_nil]
      exact ⟨_, _, _, _, rfl, .inl ⟨rfl, _, _, rfl, fun _ => rfl⟩, .inl ⟨rfl, _, _, rfl, fun h => by cases h⟩⟩
  have oS := (inferInstance : On (New (H.n + 1) HC.n) HC SC HC).st
  refine KW.thaw o ⟨_, true, cs0⟩ (oS o ho).1 hom ?_
  haveI oH : On (Low H.n) H (fun id => SC id ∧ id ≠ o) HC := On.thaw (fun id hid => by have : id < H.n := hid; have := ho.1; omega)
  have hb1 : RowsB KI.ml (fun id => SC id ∧ id ≠ o) HC V L cs0 := hb0.on (fun id hid => ⟨⟨(oS id (hV id hid).1).1, (hV id hid).2⟩, rfl⟩)
  have hVl : ∀ id, V id → H.n ≤ id := fun id hid => by have := (hV id hid).1.1; omega
  refine KW.ldF 0 (hv0.up (S' := fun id => SC id ∧ id ≠ o) (H' := HC)) rfl rfl rfl rfl rfl rfl rfl rfl rfl ?_
  refine KW.lit rfl rfl rfl rfl rfl rfl rfl rfl rfl rfl [] rfl rfl (fun v hv => by simp at hv) rfl ?_
  refine KW.lpM rfl rfl (fun s : EcS => [(0, .pointer (some ⟨id, kk, none⟩)), (2, .pointer (some ⟨H.n, 0, some 0⟩)), (4, .pointer (some ⟨HC.n, 0, some 2⟩)), (5, .int .i64 p), (6, .slice (some ⟨s.po, 0, some 1⟩) (ech p L s.c).2.length (ech p L s.c).2.length), (7, .int .i64 (ech p L s.c).2.length), (8, .int .i64 s.c)]) (fun s => s.S) (fun s => s.A) (fun s => [(H.n, ⟨36, true, [.int .i64 0, .int .i64 0, .slice none 0 0]⟩), (o, ⟨22, true, s.cs⟩), (HC.n, ⟨36, true, [.int .i64 p, .int .i64 k, .slice (some ⟨o, 0, some 1⟩) L.length L.length]⟩), (s.po, ⟨_, true, (ech p L s.c).2.map fun (i : Nat) => Value.int .i64 i⟩)]) (fun s => EcI p k L H V s) (fun s => k - s.c) (⟨0, _, HC, cs0, _⟩) (⟨Nat.zero_le _, oH.st, hb1⟩) ⟨rfl, rfl, rfl, rfl, rfl, rfl, rfl, trivial⟩ rfl rfl (rfl) (fun s hi bE n => ?_)
  obtain ⟨ci, S1, A1, cs, po⟩ := s
  obtain ⟨hle, hold, hb⟩ := hi
  simp only at hle hold hb
  have hoc := hok ci
  haveI oc : Stp (Low H.n) H S1 A1 := ⟨hold⟩
  obtain ⟨q, hn⟩ : ∃ q, (ech p L ci).2.length = q := ⟨_, rfl⟩
  obtain ⟨M, hM⟩ : ∃ M, (ech p L ci).1 = M := ⟨_, rfl⟩
  rw [hM] at hb
  have hcs := hb.len
  have hMl : M.length = L.length := by rw [← hM]; exact hoc.2.1
  have hMr : Rect p k M := by rw [← hM]; exact hoc.1
  have hnL : q ≤ L.length := by rw [← hn]; exact hoc.2.2.1
  have hv1 := hv0.up (S' := S1) (H' := A1)
  refine KW.ldF 1 hv1 rfl rfl rfl rfl rfl rfl rfl rfl rfl ?_
  refine KW.tst rfl rfl (fun h => ?_) (fun h => ?_)
  · have h : (ci : Int) < k := h
    refine KW.cnd rfl rfl (fun h2 => ?_) (fun h2 => ?_)
    · have h2 : ((ech p L ci).2.length : Int) < L.length := h2
      have e5 : Value.slice (some ⟨po, 0, some 1⟩) (ech p L ci).2.length (ech p L ci).2.length = Value.slice (some ⟨po, 0, some 1⟩) q q := by rw [hn]
      have e7 : Value.int .i64 ((ech p L ci).2.length : Nat) = Value.int .i64 q := by rw [hn]
      have hqL : q < L.length := by omega
      refine KW.lp rfl rfl (fun r : Nat => [(0, .pointer (some ⟨id, kk, none⟩)), (2, .pointer (some ⟨H.n, 0, some 0⟩)), (4, .pointer (some ⟨HC.n, 0, some 2⟩)), (5, .int .i64 p), (6, .slice (some ⟨po, 0, some 1⟩) q q), (7, .int .i64 q), (8, .int .i64 ci), (9, .int .i64 r)]) (fun r => q ≤ r ∧ r ≤ L.length ∧ nz M ci r = nz M ci q) (fun r => L.length - r) (q) (⟨Nat.le_refl _, hnL, rfl⟩) ⟨rfl, rfl, rfl, rfl, e5, e7, rfl, e7, trivial⟩ (fun r hi bE n => ?_)
      obtain ⟨hr1, hr2, hr3⟩ := hi
      refine KW.tst rfl rfl (fun h1 => ?_) (fun h1 => ?_)
      · have h1 : (r : Int) < L.length := h1
        obtain ⟨w, hw⟩ : ∃ w, M[r]? = some w := ⟨M[r]'(by omega), List.getElem?_eq_getElem (by omega)⟩
        obtain ⟨v, W, hv, hm, hWV, _, _⟩ := hb.row1 hw
        obtain ⟨ra, rc, rfl⟩ := hm.form
        have hwk := hMr.at hw
        refine KW.idx0 rfl rfl rfl rfl rfl rfl rfl rfl rfl (by omega) (h1) ?_
        refine KW.ldT 1 rfl rfl rfl rfl rfl rfl (bload_at (cell0 hv) rfl rfl) ?_
        refine KW.getI ((hm.sl.more (fun id hid => hb.sub id (hWV id hid)))) rfl rfl rfl rfl rfl rfl rfl rfl rfl rfl rfl rfl rfl rfl rfl rfl (by omega) (by omega) (fun x hx => ?_)
        have hx : w[ci]? = some x := hx
        refine KW.cnd rfl rfl (fun k2 => ?_) (fun k2 => ?_)
        · have k2 : x = 0 := k2
          refine KW.nxt rfl rfl (fun H' g => ⟨r + 1, ⟨by omega, by omega, by rw [nz_step hw (by rw [List.getD_eq_getElem?_getD, hx]; exact k2)]; exact hr3⟩, by first | omega | (simp only; omega), ⟨rfl, rfl, rfl, rfl, rfl, rfl, rfl, congrArg (Value.int .i64) (inc64 (by omega)), trivial⟩, g⟩)
        · have k2 : ¬ x = 0 := k2
          refine KW.no rfl rfl (by omega) ?_
          have e1 : nz M ci q = r := by rw [← hr3]; exact nz_stop hw (by rw [List.getD_eq_getElem?_getD, hx]; exact k2)
          have hrL : r < L.length := by omega
          obtain ⟨wn, hwn⟩ : ∃ w, M[q]? = some w := ⟨M[q]'(by omega), List.getElem?_eq_getElem (by omega)⟩
          obtain ⟨vn, Wn, hvn, hmn, _, _, _⟩ := hb.row1 hwn
          obtain ⟨na, nc, rfl⟩ := hmn.form
          refine KW.idx0 rfl rfl rfl rfl rfl rfl rfl rfl rfl (by omega) (by omega) ?_
          refine KW.ldT 1 rfl rfl rfl rfl rfl rfl (bload_at (cell0 hv) rfl rfl) ?_
          refine KW.idx0 rfl rfl rfl rfl rfl rfl rfl rfl rfl (by omega) (by omega) ?_
          refine KW.ldT 1 rfl rfl rfl rfl rfl rfl (bload_at (cell0 hvn) rfl rfl) ?_
          refine KW.idx0 rfl rfl rfl rfl rfl rfl rfl rfl rfl (by omega) (by omega) ?_
          refine KW.st1 1 rfl rfl rfl rfl rfl rfl rfl rfl rfl rfl rfl rfl (by simp only; omega) ?_
          refine KW.idx0 rfl rfl rfl rfl rfl rfl rfl rfl rfl (by omega) (by omega) ?_
          refine KW.st1 1 rfl rfl rfl rfl rfl rfl rfl rfl rfl rfl rfl rfl (by simp only [List.length_set]; omega) ?_
          obtain ⟨cs1, hcs1⟩ : ∃ cs1, (cs.set (0 + r * 1) (.slice na wn.length nc)).set (0 + q * 1) (.slice ra w.length rc) = cs1 := ⟨_, rfl⟩
          have hcsq : cs1[q]? = some (.slice ra w.length rc) := by
            rw [← hcs1, Nat.zero_add, Nat.zero_add, Nat.mul_one, Nat.mul_one, List.getElem?_set_self (by rw [List.length_set]; omega)]
          have hb2 : RowsB KI.ml S1 A1 V (sw M q r) cs1 := by
            rw [← hcs1, Nat.zero_add, Nat.zero_add, Nat.mul_one, Nat.mul_one, sets_comm hvn hv]
            exact hb.swap (by omega) (by omega) hvn hv
          have hM1 : Rect p k (sw M q r) := hMr.sw (by omega) (by omega)
          have hw1 : (sw M q r)[q]? = some w := sw_at (by omega) hw
          have hw1d : (sw M q r).getD q [] = w := by rw [List.getD_eq_getElem?_getD, hw1]; rfl
          obtain ⟨v1, W1, hv1q, hm1, hW1, _, hset⟩ := hb2.row1 hw1
          rw [hcsq] at hv1q
          cases hv1q
          have hsub1 : ∀ id, W1 id → S1 id := fun id hid => hb2.sub id (hW1 id hid)
          refine KW.getI ((hm1.sl.more hsub1)) rfl rfl rfl rfl rfl rfl rfl rfl rfl rfl rfl rfl rfl rfl rfl rfl (by omega) (by omega) (fun x1 hx1 => ?_)
          have hx1 : w[ci]? = some x1 := hx1
          have hx1k := hwk.2 x1 (List.mem_of_getElem? hx1)
          refine KW.callE rfl rfl rfl rfl rfl (l03Inverse p x1 hp hx1k) (fun _ _ => ?_)
          have hpk := pw_ok (a := x1) hp.1 (p - 2).toNat
          refine KW.callW hsub1 rfl rfl rfl rfl rfl (l03Times hp hpk (by omega) hwk.2 hsub1 hm1) (fun v2 H2 S2 hn2 st2 hw2 hv2 => ?_)
          obtain ⟨ld, hld⟩ : ∃ ld, sc p (pw p x1 (p - 2).toNat) w = ld := ⟨_, rfl⟩
          have hlead : lead p M ci q = ld := by
            unfold lead
            rw [e1, hw1d, ← hld, List.getD_eq_getElem?_getD, hx1]
            rfl
          have hldk : ld.length = k ∧ ∀ x ∈ ld, 0 ≤ x ∧ x < p := by rw [← hld]; exact sc_ok (by omega) hwk
          have hb3 := hset S2 H2 _ st2 hv2
          rw [hld] at hb3
          have hold2 : St (Low H.n) H S2 H2 := fun id hid => ⟨(st2 id (hold id hid).1).1, by rw [(st2 id (hold id hid).1).2 (fun hw => by have := hVl id (hW1 id hw); have : id < H.n := hid; omega)]; exact (hold id hid).2⟩
          obtain ⟨M2, hM2⟩ : ∃ M2, (sw M q r).set q ld = M2 := ⟨_, rfl⟩
          rw [hM2] at hb3
          have hM2l : M2.length = L.length := by rw [← hM2, List.length_set, sw_len]; exact hMl
          have hM2r : Rect p k M2 := by rw [← hM2]; exact hM1.set hldk
          have hM2q : M2[q]? = some ld := by rw [← hM2, List.getElem?_set_self (by rw [sw_len]; omega)]
          refine KW.lpM rfl rfl (fun s : (Nat × Ids × AH) => [(0, .pointer (some ⟨id, kk, none⟩)), (2, .pointer (some ⟨H.n, 0, some 0⟩)), (4, .pointer (some ⟨HC.n, 0, some 2⟩)), (5, .int .i64 p), (6, .slice (some ⟨po, 0, some 1⟩) q q), (7, .int .i64 q), (8, .int .i64 ci), (10, .slice ra w.length rc), (11, .int .i64 s.1)]) (fun s => s.2.1) (fun s => s.2.2) (fun s => [(H.n, ⟨36, true, [.int .i64 0, .int .i64 0, .slice none 0 0]⟩), (o, ⟨22, true, (cs.set (0 + r * 1) (.slice na wn.length nc)).set (0 + q * 1) (.slice ra w.length rc)⟩), (HC.n, ⟨36, true, [.int .i64 p, .int .i64 k, .slice (some ⟨o, 0, some 1⟩) L.length L.length]⟩), (po, ⟨_, true, (ech p L ci).2.map fun (i : Nat) => Value.int .i64 i⟩)]) (fun s => s.1 ≤ L.length ∧ St (Low H.n) H s.2.1 s.2.2 ∧ RowsB KI.ml s.2.1 s.2.2 V (tks p ci q ld M2 s.1) cs1) (fun s => L.length - s.1) ((0, S2, H2)) (⟨Nat.zero_le _, hold2, by simp only [tks_zero]; exact hb3⟩) ⟨rfl, rfl, rfl, rfl, rfl, rfl, rfl, rfl, rfl, trivial⟩ rfl rfl (rfl) (fun s hi bE n => ?_)
          obtain ⟨i, S3, A3⟩ := s
          obtain ⟨hi1, hold3, hb4⟩ := hi
          simp only at hi1 hold3 hb4
          haveI oc3 : Stp (Low H.n) H S3 A3 := ⟨hold3⟩
          refine KW.cnd rfl rfl (fun h3 => ?_) (fun h3 => ?_)
          · have h3 : (i : Int) < L.length := h3
            obtain ⟨wi, hwi⟩ : ∃ w, M2[i]? = some w := ⟨M2[i]'(by omega), List.getElem?_eq_getElem (by omega)⟩
            have hwik := hM2r.at hwi
            obtain ⟨vi, Wi, hvi, hmi, hWi, hoth, hseti⟩ := hb4.row1 ((tks_old (.inl (Nat.le_refl i))).trans hwi)
            obtain ⟨ai, ic, rfl⟩ := hmi.form
            rw [← hcs1] at hvi
            have hsubi : ∀ id, Wi id → S3 id := fun id hid => hb4.sub id (hWi id hid)
            refine KW.tstB rfl rfl (fun h4 => ?_) (fun h4 => ?_)
            · have h4 : i ≠ q := by simp at h4; omega
              refine KW.idx0 rfl rfl rfl rfl rfl rfl rfl rfl rfl (by omega) (h3) ?_
              refine KW.ldT 1 rfl rfl rfl rfl rfl rfl (bload_at (cell0 hvi) rfl rfl) ?_
              refine KW.getI ((hmi.sl.more hsubi)) rfl rfl rfl rfl rfl rfl rfl rfl rfl rfl rfl rfl rfl rfl rfl rfl (by omega) (by omega) (fun xi hxi => ?_)
              have hxi : wi[ci]? = some xi := hxi
              have hxik := hwik.2 xi (List.mem_of_getElem? hxi)
              have hgx : wi.getD ci 0 = xi := by rw [List.getD_eq_getElem?_getD, hxi]; rfl
              refine KW.cndB rfl rfl (fun h5 => ?_) (fun h5 => ?_)
              · obtain ⟨vq, Xq, hvq, hmq, hXq⟩ := hoth q ld (Ne.symm h4) ((tks_old (.inr rfl)).trans hM2q)
                rw [hcsq] at hvq
                cases hvq
                have hwl : w.length = ld.length := by omega
                rw [hwl] at hmq
                have ez : IntKind.i64.wrap (p - xi) = p - xi := wr (by omega) (by omega)
                have hadd := l03Add (S := S3) (H0 := A3) (W := Wi) (X := Xq) (p := p) (t := xi) (z := IntKind.i64.wrap (p - xi)) (xs := wi) hp hxik ez (by omega) hldk.2 (fun id hid => ⟨hb4.sub id (hXq id hid).1, (hXq id hid).2⟩) hmq.sl (by omega) hwik.2 hsubi hmi
                rw [← hwl] at hadd
                refine KW.idx0 rfl rfl rfl rfl rfl rfl rfl rfl rfl (by omega) (h3) ?_
                refine KW.ldT 1 rfl rfl rfl rfl rfl rfl (bload_at (cell0 hvi) rfl rfl) ?_
                refine KW.idx0 rfl rfl rfl rfl rfl rfl rfl rfl rfl (by omega) (h3) ?_
                refine KW.ldT 1 rfl rfl rfl rfl rfl rfl (bload_at (cell0 hvi) rfl rfl) ?_
                refine KW.getI ((hmi.sl.more hsubi)) rfl rfl rfl rfl rfl rfl rfl rfl rfl rfl rfl rfl rfl rfl rfl rfl (by omega) (by omega) (fun xj hxj => ?_)
                obtain rfl : xj = xi := by have hxj : wi[ci]? = some xj := hxj; rw [hxi] at hxj; cases hxj; rfl
                refine KW.callW hsubi rfl rfl rfl rfl rfl hadd (fun v5 H5 S5 hn5 st5 hw5 hv5 => ?_)
                have hb5 := hseti S5 H5 _ st5 hv5
                have hold5 : St (Low H.n) H S5 H5 := fun id hid => ⟨(st5 id (hold3 id hid).1).1, by rw [(st5 id (hold3 id hid).1).2 (fun hw => by have := hVl id (hWi id hw); have : id < H.n := hid; omega)]; exact (hold3 id hid).2⟩
                have et := tks_next (p := p) (c := ci) (r := ld) h4 hwi
                rw [hgx] at et
                rw [← et] at hb5
                refine KW.nxt rfl rfl (fun H' g => ⟨(i + 1, S5, H5), ⟨by simp only; omega, hold5, hb5⟩, by first | omega | (simp only; omega), ⟨rfl, rfl, rfl, rfl, rfl, rfl, rfl, rfl, congrArg (Value.int .i64) (inc64 (by omega)), trivial⟩, g⟩)
              · have h5 : xi = 0 := by simpa using h5
                have et := tks_same (p := p) (c := ci) (r := ld) h4 hwi (by rw [hgx]; exact h5) (by omega) hwik.2
                rw [← et] at hb4
                refine KW.nxt rfl rfl (fun H' g => ⟨(i + 1, S3, A3), ⟨by simp only; omega, hold3, hb4⟩, by first | omega | (simp only; omega), ⟨rfl, rfl, rfl, rfl, rfl, rfl, rfl, rfl, congrArg (Value.int .i64) (inc64 (by omega)), trivial⟩, g⟩)
            · have h4 : i = q := by simp at h4; omega
              subst h4
              rw [← tks_skip] at hb4
              refine KW.cF rfl rfl (by first | (simp; done) | decide) ?_
              refine KW.nxt rfl rfl (fun H' g => ⟨(i + 1, S3, A3), ⟨by simp only; omega, hold3, hb4⟩, by first | omega | (simp only; omega), ⟨rfl, rfl, rfl, rfl, rfl, rfl, rfl, rfl, congrArg (Value.int .i64) (inc64 (by omega)), trivial⟩, g⟩)
          · have h3 : ¬ (i : Int) < L.length := h3
            have hiL : i = L.length := by omega
            have eE : ech p L (ci + 1) = (tks p ci q ld M2 L.length, (ech p L ci).2 ++ [ci]) := by
              rw [ech_some (by rw [hM, hn, e1]; omega), hM, hn, hlead, e1, hM2, hMl]
            have e8 : ∀ x : Nat, Value.slice (some ⟨x, 0, some 1⟩) (q + 1) (q + 1) = Value.slice (some ⟨x, 0, some 1⟩) (ech p L (ci + 1)).2.length (ech p L (ci + 1)).2.length := fun x => by rw [eE]; simp [hn]
            have e9 : Value.int .i64 (IntKind.i64.wrap ((q : Int) + 1)) = Value.int .i64 ((ech p L (ci + 1)).2.length : Nat) := by rw [eE]; simp [hn]; rw [wr (by omega) (by omega)]
            rw [← hcs1] at hb4
            refine KW.app1 (xs := (ech p L ci).2.map fun (i : Nat) => Value.int .i64 i) (v := .int .i64 ci) 3 4 rfl rfl rfl rfl rfl rfl rfl rfl rfl rfl rfl rfl rfl rfl rfl rfl rfl rfl rfl rfl rfl rfl rfl (by simp [hn]) (by show (_ + 1) * 8 ≤ _; omega) (by first | omega | (simp only; omega)) ?_
            refine KW.nxt rfl rfl (fun H' g => ⟨⟨ci + 1, S3, A3, _, _⟩, ⟨by simp only; omega, hold3, by simp only; rw [eE, ← hiL]; exact hb4⟩, by first | omega | (simp only; omega), ⟨rfl, rfl, rfl, rfl, e8 _, e9, congrArg (Value.int .i64) (inc64 (by omega)), trivial⟩, g.eqT (by simp only [eE, List.map_append]; rfl)⟩)
      · have h1 : ¬ (r : Int) < L.length := h1
        refine KW.cF rfl rfl (by first | (simp; done) | decide) ?_
        refine KW.yes rfl rfl (by omega) ?_
        have e1 : nz (ech p L ci).1 ci (ech p L ci).2.length = (ech p L ci).1.length := by rw [hM, hn, ← hr3, nz_end (by omega)]; omega
        have e2 := ech_none e1
        have e3 : Value.slice (some ⟨po, 0, some 1⟩) q q = Value.slice (some ⟨po, 0, some 1⟩) (ech p L (ci + 1)).2.length (ech p L (ci + 1)).2.length := by rw [e2, hn]
        have e4 : Value.int .i64 q = Value.int .i64 ((ech p L (ci + 1)).2.length : Nat) := by rw [e2, hn]
        refine KW.nxt rfl rfl (fun H' g => ⟨⟨ci + 1, S1, A1, cs, po⟩, ⟨by simp only; omega, hold, by simp only; rw [e2, hM]; exact hb⟩, by first | omega | (simp only; omega), ⟨rfl, rfl, rfl, rfl, e3, e4, congrArg (Value.int .i64) (inc64 (by omega)), trivial⟩, g.eqT (by simp only [e2])⟩)
    · have hqe : (ech p L ci).2.length = L.length := by have h2 : ¬ ((ech p L ci).2.length : Int) < L.length := h2; omega
      have fin : ech p L k = ech p L ci := by
        have := ech_full (p := p) (L := L) (c := ci) hqe hoc.2.1 (k - ci)
        rw [show ci + (k - ci) = k by omega] at this
        exact this
      refine KW.slTo (m := (ech p L ci).2.length) rfl rfl rfl rfl rfl rfl rfl rfl rfl (by omega) ?_
      refine KW.retM1 rfl rfl rfl rfl (fun H1 g => ?_)
      rw [fin]
      have hno := g.n_
      have hbo := g.blk (j := 1) rfl
      have hbp := g.blk (j := 3) rfl
      have hpo := g.ge (H1 := H) (j := 3) rfl
      refine ⟨_, _, _, _, rfl, ?_, ?_⟩
      · rw [hM]
        exact hb.mlTo g (j := 1) rfl ⟨by have := ho.1; omega, hbo.2⟩ (fun id hid => ⟨hVl id hid, by have := (g.froz id (hb.sub id hid)).1; omega⟩) (by omega) (by omega)
      · have el : ((ech p L ci).2.map fun (i : Nat) => (i : Int)).length = (ech p L ci).2.length := by simp
        have := mlI_of (ik := .i64) (X := New H.n H1.n) (c := (ech p L ci).2.length) (ys := (ech p L ci).2.map fun (i : Nat) => (i : Int)) ⟨hpo, hbp.2⟩ hbp.1 rfl (by rw [el]; exact Nat.le_refl _) (by simp) (fun j x hx => by
          rw [List.getElem?_map] at hx ⊢
          cases hj : (ech p L ci).2[j]? with
          | none => rw [hj] at hx; cases hx
          | some z => rw [hj] at hx; cases hx; rfl)
        rw [el] at this
        exact this
  · have hck : ci = k := by have h : ¬ (ci : Int) < k := h; omega
    have fin : ech p L k = ech p L ci := by rw [hck]
    refine KW.cF rfl rfl (by first | (simp; done) | decide) ?_
    refine KW.slTo (m := (ech p L ci).2.length) rfl rfl rfl rfl rfl rfl rfl rfl rfl (by omega) ?_
    refine KW.retM1 rfl rfl rfl rfl (fun H1 g => ?_)
    rw [fin]
    have hno := g.n_
    have hbo := g.blk (j := 1) rfl
    have hbp := g.blk (j := 3) rfl
    have hpo := g.ge (H1 := H) (j := 3) rfl
    refine ⟨_, _, _, _, rfl, ?_, ?_⟩
    · rw [hM]
      exact hb.mlTo g (j := 1) rfl ⟨by have := ho.1; omega, hbo.2⟩ (fun id hid => ⟨hVl id hid, by have := (g.froz id (hb.sub id hid)).1; omega⟩) (by omega) (by omega)
    · have el : ((ech p L ci).2.map fun (i : Nat) => (i : Int)).length = (ech p L ci).2.length := by simp
      have := mlI_of (ik := .i64) (X := New H.n H1.n) (c := (ech p L ci).2.length) (ys := (ech p L ci).2.map fun (i : Nat) => (i : Int)) ⟨hpo, hbp.2⟩ hbp.1 rfl (by rw [el]; exact Nat.le_refl _) (by simp) (fun j x hx => by
        rw [List.getElem?_map] at hx ⊢
        cases hj : (ech p L ci).2[j]? with
        | none => rw [hj] at hx; cases hx
        | some z => rw [hj] at hx; cases hx; rfl)
      rw [el] at this
      exact this
end
end Go.Proofs.YtijmkfnmdhpakaaGreat.Am
/- Contracts: the rank of the reference; what both answer. Each holds under its own conditions. -/
set_option linter.unusedVariables false
set_option linter.unusedSimpArgs false
set_option maxRecDepth 20000
namespace Go.Proofs.YtijmkfnmdhpakaaGreat.Am
open Go Go.RowKit Go.Proofs Go.Proofs.YtijmkfnmdhpakaaGreat.Pl
section
variable {S : Ids} {H0 : AH}
end
end Go.Proofs.YtijmkfnmdhpakaaGreat.Am
/- Contracts: rows chosen by indices; the matrix of what a group holds. Each holds under its own conditions. -/
set_option linter.unusedVariables false
set_option linter.unusedSimpArgs false
set_option maxRecDepth 20000
namespace Go.Proofs.YtijmkfnmdhpakaaGreat.Am
open Go Go.RowKit Go.Proofs Go.Proofs.YtijmkfnmdhpakaaGreat.Pl
/-- The rows with some indices. -/
def selR (L : List (List Int)) (R : List Int) : List (List Int) := R.map fun i => L.getD i.toNat []
theorem selR_len {L : List (List Int)} {R : List Int} : (selR L R).length = R.length := by simp [selR]
theorem selR_mem {L : List (List Int)} {R : List Int} (hR : ∀ x ∈ R, 0 ≤ x ∧ x < L.length) {r : List Int} (h : r ∈ selR L R) : r ∈ L := by
  obtain ⟨i, hi, rfl⟩ := List.mem_map.1 h
  have := hR i hi
  rw [List.getD_eq_getElem?_getD, List.getElem?_eq_getElem (by omega)]
  exact List.getElem_mem _
/-- A matrix that has been made, to be read. -/
def MkMx (p c : Int) (xs : List (List Int)) (n : Nat) (v : Value) (H1 : AH) : Prop := ∃ a m, v = .agg #[.int .i64 p, .int .i64 c, .slice a xs.length m] ∧ KI.sl.Sl (New n H1.n) H1 (.slice a xs.length m) xs
structure CqI {α : Type} (f : α → List Int) (xs : List α) (H HB : AH) (SB : Ids) (s : CpS) : Prop where
  rw : RwI f xs H SB HB ⟨s.i, s.S, s.A, s.V, s.cs, 0⟩
  form : (s.i = 0 ∧ s.l = .slice none 0 0 ∧ s.tail = [] ∧ s.cs = []) ∨ (0 < s.i ∧ ∃ o, s.l = .slice (some ⟨o, 0, some 1⟩) s.i s.i ∧ s.tail = [(o, ⟨22, true, s.cs⟩)])
section
variable {S : Ids} {H0 : AH}
theorem rowsAt {p c : Int} {a1 c1 a2 c2} {L : List (List Int)} {R : List Int} (hB : B_Int64SS L) (hR : ∀ x ∈ R, 0 ≤ x ∧ x < L.length) (hRl : R.length ≤ 1048576) (hs : KI.sl.Sl S H0 (.slice a1 L.length c1) L) (hr : KI.Sl S H0 (.slice a2 R.length c2) R) : SpecM Tryz.prog S H0 150 [.agg #[.int .i64 p, .int .i64 c, .slice a1 L.length c1], .slice a2 R.length c2] (MkMx p c (selR L R)) := by
  refine SpecM.of1 Tryz.func150 rfl (by kernel_rfl) rfl (fun H _ => ?_)
  have hs := hs.up (S' := Low H.n) (H' := H)
  have hr := hr.up (S' := Low H.n) (H' := H)
  refine KW.build rfl rfl rfl rfl rfl (built_Matrix2 _ _) ?_
  refine KW.lpM rfl rfl (fun s : CpS => [(2, .pointer (some ⟨H.n, 0, some 0⟩)), (4, .pointer (some ⟨H.n + 1, 0, some 1⟩)), (5, .pointer (some ⟨H.n + 2, 0, some 2⟩)), (13, .slice a2 R.length c2), (14, .int .i64 R.length), (15, .int .i64 s.i)]) (fun s => s.S) (fun s => s.A) (fun s => [(H.n, ⟨36, true, [.int .i64 p, .int .i64 c, .slice a1 L.length c1]⟩), (H.n + 1, ⟨36, true, [.int .i64 0, .int .i64 0, .slice none 0 0]⟩), (H.n + 2, ⟨36, true, [.int .i64 p, .int .i64 c, s.l]⟩)] ++ s.tail) (fun s => CqI (fun (i : Int) => L.getD i.toNat []) R H H (Low H.n) s) (fun s => R.length - s.i) (⟨0, Low H.n, H, fun _ => False, [], .slice none 0 0, []⟩) (⟨RwI.start, .inl ⟨rfl, rfl, rfl, rfl⟩⟩) ⟨rfl, rfl, rfl, rfl, rfl, rfl, trivial⟩ rfl rfl (rfl) (fun s hi bE n => ?_)
  obtain ⟨i, S1, A1, V, cs, l, tail⟩ := s
  obtain ⟨hq, hform⟩ := hi
  simp only at hq hform
  haveI : Stp (Low H.n) H S1 A1 := ⟨hq.old⟩
  have hle := hq.le
  have hcl := hq.b.len
  rw [List.length_map, List.length_take] at hcl
  simp only at hle hcl
  have hs1 := hs.up (S' := S1) (H' := A1)
  have hr1 := hr.up (S' := S1) (H' := A1)
  rcases hform with ⟨hi0, e1, e2, e3⟩ | ⟨hi0, o, e1, e2⟩
  case' inl => subst e1 e2 e3
  case' inr => subst e1 e2
  all_goals
    refine KW.cnd rfl rfl (fun j1 => ?gin) (fun j1 => ?gout)
    case gin =>
      have j1 : (i : Int) < R.length := j1
      refine KW.getI hr1 rfl rfl rfl rfl rfl rfl rfl rfl rfl rfl rfl rfl rfl rfl rfl rfl (by omega) (j1) (fun x hx => ?_)
      have hx : R[i]? = some x := hx
      have hxb := hR x (List.mem_of_getElem? hx)
      refine KW.getL hs1 rfl rfl rfl rfl rfl rfl rfl rfl rfl rfl rfl rfl rfl rfl rfl rfl (hxb.1) (hxb.2) (fun y ay cy hy hsy => ?_)
      have hyl := hB.each y (List.mem_of_getElem? hy)
      have hyd : L.getD x.toNat [] = y := by rw [List.getD_eq_getElem?_getD, hy]; rfl
      refine KW.ids (fun hlow hvar => ?_)
      have hnA := (hvar 2 (H.n + 2) _ rfl).1
      refine KW.callN1 rfl rfl rfl rfl rfl (cloneI hyl hsy) (fun v HC SC mC _ _ hv => ?_)
      obtain ⟨a5, c5, rfl, hC⟩ := hv
      rw [← hyd] at hC ⊢
      first
        | (refine KW.app0 (v := .slice a5 (L.getD x.toNat []).length c5) 3 rfl rfl rfl rfl rfl rfl rfl rfl rfl rfl rfl rfl rfl rfl rfl rfl rfl rfl rfl rfl rfl rfl (by decide) ?_
           subst hi0
           exact KW.nxt rfl rfl (fun H' g => ⟨⟨1, SC, HC, _, _, _, _⟩, ⟨hq.next (o' := 0) (inferInstance : Stp S1 A1 SC HC).st inferInstance hlow (by omega) hx hC, .inr ⟨by simp only; omega, _, rfl, rfl⟩⟩, by simp only; omega, ⟨rfl, rfl, rfl, rfl, rfl, rfl, trivial⟩, g⟩))
        | (refine KW.app1 (xs := cs) (v := .slice a5 (L.getD x.toNat []).length c5) 3 4 rfl rfl rfl rfl rfl rfl rfl rfl rfl rfl rfl rfl rfl rfl rfl rfl rfl rfl rfl rfl rfl rfl rfl (by omega) (by show (_ + 1) * 24 ≤ _; omega) (by omega) ?_
           exact KW.nxt rfl rfl (fun H' g => ⟨⟨i + 1, SC, HC, _, _, _, _⟩, ⟨hq.next (o' := 0) (inferInstance : Stp S1 A1 SC HC).st inferInstance hlow (by omega) hx hC, .inr ⟨by simp only; omega, _, rfl, rfl⟩⟩, by simp only; omega, ⟨rfl, rfl, rfl, rfl, rfl, congrArg (Value.int .i64) (inc64 (by omega)), trivial⟩, g⟩))
    case gout =>
      have j1 : ¬ (i : Int) < R.length := j1
      have he : i = R.length := by omega
      have el : (selR L R).length = R.length := selR_len
      refine KW.retM1 rfl rfl rfl rfl (fun H1 g => ?_)
      first
        | (have h0 : R = [] := List.eq_nil_of_length_eq_zero (by omega)
           subst h0
           exact ⟨none, 0, rfl, .inl ⟨rfl, _, _, rfl, fun _ => rfl⟩⟩)
        | (refine ⟨_, _, by rw [el, he]; rfl, ?_⟩
           have hm := ((⟨hq.le, hq.old, hq.b, hq.v⟩ : RwI (fun (i : Int) => L.getD i.toNat []) R H (Low H.n) H ⟨i, S1, A1, V, cs, o⟩).ml he g (j := 3) rfl (g.ge (H1 := H) (j := 3) rfl)).to (KLe.row (KLe.refl KI))
           rw [el]
           exact hm)
end
end Go.Proofs.YtijmkfnmdhpakaaGreat.Am
/- Contracts: the matrix of what a group holds, of the program and of the reference. Each holds under its own conditions. -/
set_option linter.unusedVariables false
set_option linter.unusedSimpArgs false
set_option maxRecDepth 20000
namespace Go.Proofs.YtijmkfnmdhpakaaGreat.Am
open Go Go.RowKit Go.Proofs Go.Proofs.YtijmkfnmdhpakaaGreat.Pl
theorem rect_sml {p : Int} {k : Nat} {L : List (List Int)} (hL : Rect p k L) (hk : k ≤ 1000) (hl : L.length ≤ 1000) : B_Int64SS L := by
  have h : ∀ M : List (List Int), (∀ r ∈ M, r.length = k) → sum (lens M) = M.length * k := by
    intro M
    induction M with
    | nil => intro _; simp [lens, sum]
    | cons x M ih =>
      intro hM
      have h1 := ih (fun r hr => hM r (List.mem_cons_of_mem _ hr))
      have h2 := hM x List.mem_cons_self
      simp only [lens, List.map_cons, sum] at h1 ⊢
      rw [h1, h2, List.length_cons, Nat.add_mul]
      omega
  have h1 := h L (fun r hr => (hL r hr).1)
  have h2 : L.length * k ≤ 1000 * 1000 := Nat.mul_le_mul hl hk
  exact ⟨by omega, by rw [h1]; omega⟩
/-- The rows of a group, by its number. -/
def heldR (ow : List Int) (rows : List (List Int)) (x : Nat) : List (List Int) := selR rows (rowsP (fun i => x.testBit (ow.getD i 0).toNat) ow.length)
theorem held_in {h p c : Int} {ow : List Int} {rows : List (List Int)} (hk : OkSch h ow p c rows) {q : Nat → Bool} : ∀ x ∈ rowsP q ow.length, 0 ≤ x ∧ x < rows.length := fun x hx => by
  have := rowsP_mem hx
  have := hk.len
  omega
theorem held_rect {h p c : Int} {k : Nat} {ow : List Int} {rows : List (List Int)} (hk : OkSch h ow p c rows) (hc : c = k) {q : Nat → Bool} : Rect p k (selR rows (rowsP q ow.length)) := fun r hr => hk.mat.rect hc r (selR_mem (held_in hk) hr)
theorem held_len {h p c : Int} {ow : List Int} {rows : List (List Int)} (hk : OkSch h ow p c rows) {q : Nat → Bool} : (selR rows (rowsP q ow.length)).length ≤ 20 := by
  rw [selR_len]
  have := rowsP_len q ow.length
  have := hk.len
  have := hk.mat.len
  omega
section
variable {S : Ids} {H0 : AH}
theorem held (h p c : Int) (x : Nat) (hx : x < 4611686018427387904) {a1 c1 a2 c2} {ow : List Int} {rows : List (List Int)} (hO : B_Int64S ow) (hB : B_Int64SS rows) (hk : OkSch h ow p c rows) (ho : KI.Sl S H0 (.slice a1 ow.length c1) ow) (hs : KI.sl.Sl S H0 (.slice a2 rows.length c2) rows) :
    SpecM Tryz.prog S H0 129 [.agg #[.int .i64 h, .slice a1 ow.length c1, .int .i64 p, .int .i64 c, .slice a2 rows.length c2], .int .u64 (x : Int)] (MkMx p c (heldR ow rows x)) := by
  refine SpecM.of1 Tryz.func129 rfl (by kernel_rfl) rfl (fun H _ => ?_)
  refine KW.callN1 rfl rfl rfl rfl rfl (rowsHeld h p c x hx hO hk.own hk.h7 ho.up) (fun v HR SR mR _ _ hv => ?_)
  obtain ⟨a5, c5, rfl, hR⟩ := hv
  refine KW.callN1 rfl rfl rfl rfl rfl (rowsAt hB (held_in hk) (by have := rowsP_len (fun i => x.testBit (ow.getD i 0).toNat) ow.length; have : ow.length ≤ 1048576 := hO; omega) hs.up hR.ups) (fun v HM SM mM _ _ hv => ?_)
  obtain ⟨a6, c6, rfl, hM⟩ := hv
  refine KW.retM1 rfl rfl rfl rfl (fun H1 g => ?_)
  haveI := g.out (X := New HR.n HM.n) (H := HM) (lo := H.n) (fun id p => by have := p.1; omega)
  exact ⟨a6, c6, rfl, hM.up⟩
theorem l04Part (h p c : Int) {id kk : Nat} {a1 c1 a2 c2 a c3} {ow g0 : List Int} {rows : List (List Int)} (hO : B_Int64S ow) (hB : B_Int64SS rows) (hk : OkSch h ow p c rows) (hG : g0.length ≤ 1048576) (hv0 : Has3 S H0 id kk [.int .i64 h, .slice a1 ow.length c1, .int .i64 p, .int .i64 c, .slice a2 rows.length c2]) (ho : KI.Sl S H0 (.slice a1 ow.length c1) ow) (hs : KI.sl.Sl S H0 (.slice a2 rows.length c2) rows) (hg : KI.Sl S H0 (.slice a g0.length c3) g0) :
    SpecM Tryz.prog S H0 122 [.pointer (some ⟨id, kk, none⟩), .slice a g0.length c3] (MkMx p c (selR rows (rowsP (fun i => decide (ow.getD i 0 ∈ g0)) ow.length))) := by
  refine SpecM.of1 Tryz.func122 rfl (by kernel_rfl) rfl (fun H _ => ?_)
  have hO' : ow.length ≤ 1048576 := hO
  have hv := hv0.up (S' := Low H.n) (H' := H)
  refine KW.ldF 2 hv rfl rfl rfl rfl rfl rfl rfl rfl rfl ?_
  refine KW.ldF 3 hv rfl rfl rfl rfl rfl rfl rfl rfl rfl ?_
  refine KW.build rfl rfl rfl rfl rfl (built_Matrix2 _ _) ?_
  refine KW.callN1 rfl rfl rfl rfl rfl (l04Held h p c hO hG hv.up ho.up hg.up) (fun v HR SR mR _ _ hv => ?_)
  obtain ⟨a5, c5, rfl, hR⟩ := hv
  have hrl := rowsP_len (fun i => decide (ow.getD i 0 ∈ g0)) ow.length
  have hRm := held_in hk (q := fun i => decide (ow.getD i 0 ∈ g0))
  generalize rowsP (fun i => decide (ow.getD i 0 ∈ g0)) ow.length = R at *
  have hs := hs.up (S' := SR) (H' := HR)
  refine KW.lpM rfl rfl (fun s : CpS => [(0, .pointer (some ⟨id, kk, none⟩)), (4, .pointer (some ⟨H.n, 0, some 0⟩)), (5, .pointer (some ⟨H.n + 1, 0, some 1⟩)), (6, .slice a5 R.length c5), (7, .int .i64 s.i)]) (fun s => s.S) (fun s => s.A) (fun s => [(H.n, ⟨36, true, [.int .i64 0, .int .i64 0, .slice none 0 0]⟩), (H.n + 1, ⟨36, true, [.int .i64 p, .int .i64 c, s.l]⟩)] ++ s.tail) (fun s => CqI (fun (i : Int) => rows.getD i.toNat []) R H HR SR s) (fun s => R.length - s.i) (⟨0, SR, HR, fun _ => False, [], .slice none 0 0, []⟩) (⟨RwI.start, .inl ⟨rfl, rfl, rfl, rfl⟩⟩) ⟨rfl, rfl, rfl, rfl, rfl, trivial⟩ rfl rfl (rfl) (fun s hi bE n => ?_)
  obtain ⟨i, S1, A1, V, cs, l, tail⟩ := s
  obtain ⟨hq, hform⟩ := hi
  simp only at hq hform
  haveI : Stp SR HR S1 A1 := ⟨hq.old⟩
  have hle := hq.le
  have hcl := hq.b.len
  rw [List.length_map, List.length_take] at hcl
  simp only at hle hcl
  have hs1 := hs.up (S' := S1) (H' := A1)
  have hr1 := hR.ups (S' := S1) (H' := A1)
  have hv1 := hv.up (S' := S1) (H' := A1)
  rcases hform with ⟨hi0, e1, e2, e3⟩ | ⟨hi0, o, e1, e2⟩
  case' inl => subst e1 e2 e3
  case' inr => subst e1 e2
  all_goals
    refine KW.cnd rfl rfl (fun j1 => ?gin) (fun j1 => ?gout)
    case gin =>
      have j1 : (i : Int) < R.length := j1
      refine KW.ldF 4 hv1 rfl rfl rfl rfl rfl rfl rfl rfl rfl ?_
      refine KW.getI hr1 rfl rfl rfl rfl rfl rfl rfl rfl rfl rfl rfl rfl rfl rfl rfl rfl (by omega) (j1) (fun x hx => ?_)
      have hx : R[i]? = some x := hx
      have hxb := hRm x (List.mem_of_getElem? hx)
      refine KW.getL hs1 rfl rfl rfl rfl rfl rfl rfl rfl rfl rfl rfl rfl rfl rfl rfl rfl (hxb.1) (hxb.2) (fun y ay cy hy hsy => ?_)
      have hyl := hB.each y (List.mem_of_getElem? hy)
      have hyd : rows.getD x.toNat [] = y := by rw [List.getD_eq_getElem?_getD, hy]; rfl
      refine KW.ids (fun hlow hvar => ?_)
      have hnA := (hvar 1 (H.n + 1) _ rfl).1
      refine KW.callN1 rfl rfl rfl rfl rfl (l00Own hyl hsy) (fun v HC SC mC _ _ hv => ?_)
      obtain ⟨a6, c6, rfl, hC⟩ := hv
      rw [← hyd] at hC ⊢
      first
        | (refine KW.app0 (v := .slice a6 (rows.getD x.toNat []).length c6) 2 rfl rfl rfl rfl rfl rfl rfl rfl rfl rfl rfl rfl rfl rfl rfl rfl rfl rfl rfl rfl rfl rfl (by decide) ?_
           subst hi0
           exact KW.nxt rfl rfl (fun H' g => ⟨⟨1, SC, HC, _, _, _, _⟩, ⟨hq.next (o' := 0) (inferInstance : Stp S1 A1 SC HC).st inferInstance hlow (by omega) hx hC, .inr ⟨by simp only; omega, _, rfl, rfl⟩⟩, by simp only; omega, ⟨rfl, rfl, rfl, rfl, rfl, trivial⟩, g⟩))
        | (refine KW.app1 (xs := cs) (v := .slice a6 (rows.getD x.toNat []).length c6) 2 3 rfl rfl rfl rfl rfl rfl rfl rfl rfl rfl rfl rfl rfl rfl rfl rfl rfl rfl rfl rfl rfl rfl rfl (by omega) (by show (_ + 1) * 24 ≤ _; omega) (by omega) ?_
           exact KW.nxt rfl rfl (fun H' g => ⟨⟨i + 1, SC, HC, _, _, _, _⟩, ⟨hq.next (o' := 0) (inferInstance : Stp S1 A1 SC HC).st inferInstance hlow (by omega) hx hC, .inr ⟨by simp only; omega, _, rfl, rfl⟩⟩, by simp only; omega, ⟨rfl, rfl, rfl, rfl, congrArg (Value.int .i64) (inc64 (by omega)), trivial⟩, g⟩))
    case gout =>
      have j1 : ¬ (i : Int) < R.length := j1
      have he : i = R.length := by omega
      have el : (selR rows R).length = R.length := selR_len
      refine KW.retM1 rfl rfl rfl rfl (fun H1 g => ?_)
      first
        | (have h0 : R = [] := List.eq_nil_of_length_eq_zero (by omega)
           subst h0
           exact ⟨none, 0, rfl, .inl ⟨rfl, _, _, rfl, fun _ => rfl⟩⟩)
        | (refine ⟨_, _, by rw [el, he]; rfl, ?_⟩
           have hm := ((⟨hq.le, hq.old, hq.b, hq.v⟩ : RwI (fun (i : Int) => rows.getD i.toNat []) R H SR HR ⟨i, S1, A1, V, cs, o⟩).ml he g (j := 2) rfl (g.ge (H1 := H) (j := 2) rfl)).to (KLe.row (KLe.refl KI))
           rw [el]
           exact hm)
end
end Go.Proofs.YtijmkfnmdhpakaaGreat.Am
/- Contracts: the columns of a matrix, of the program and of the reference. Each holds under its own conditions. -/
set_option linter.unusedVariables false
set_option linter.unusedSimpArgs false
set_option maxRecDepth 20000
namespace Go.Proofs.YtijmkfnmdhpakaaGreat.Am
open Go Go.RowKit Go.Proofs Go.Proofs.YtijmkfnmdhpakaaGreat.Pl
def colL (L : List (List Int)) (c : Nat) : List Int := L.map fun r => r.getD c 0
/-- The columns of rows. -/
def trL (L : List (List Int)) (k : Nat) : List (List Int) := (List.range k).map (colL L)
theorem trL_len {L : List (List Int)} {k : Nat} : (trL L k).length = k := by simp [trL]
theorem colL_len {L : List (List Int)} {c : Nat} : (colL L c).length = L.length := by simp [colL]
theorem colL_next {L : List (List Int)} {c i : Nat} {r : List Int} (h : L[i]? = some r) : colL (L.take (i + 1)) c = colL (L.take i) c ++ [r.getD c 0] := map_take_succ _ h
theorem colL_rect {p : Int} {k : Nat} {L : List (List Int)} (h : Rect p k L) {c : Nat} (hc : c < k) : ∀ x ∈ colL L c, 0 ≤ x ∧ x < p := fun x hx => by
  obtain ⟨r, hr, rfl⟩ := List.mem_map.1 hx
  have h1 := h r hr
  rw [List.getD_eq_getElem?_getD, List.getElem?_eq_getElem (by omega)]
  exact h1.2 _ (List.getElem_mem _)
theorem trL_rect {p : Int} {k : Nat} {L : List (List Int)} (h : Rect p k L) : Rect p L.length (trL L k) := fun r hr => by
  obtain ⟨c, hc, rfl⟩ := List.mem_map.1 hr
  exact ⟨colL_len, colL_rect h (List.mem_range.1 hc)⟩
theorem range_at {k i : Nat} (h : i < k) : (List.range k)[i]? = some i := by rw [List.getElem?_range h]
section
variable {S : Ids} {H0 : AH}
end
end Go.Proofs.YtijmkfnmdhpakaaGreat.Am
/- Contracts: the columns of a matrix of the reference; products of matrices. Each holds under its own conditions. -/
set_option linter.unusedVariables false
set_option linter.unusedSimpArgs false
set_option maxRecDepth 20000
namespace Go.Proofs.YtijmkfnmdhpakaaGreat.Am
open Go Go.RowKit Go.Proofs Go.Proofs.YtijmkfnmdhpakaaGreat.Pl
section
variable {S : Ids} {H0 : AH}
theorem l03Turned {p : Int} {k : Nat} (hk : k ≤ 1000) {L : List (List Int)} (hLl : L.length ≤ 1000) (hL : Rect p k L) {id kk : Nat} {a1 c1} (hv0 : Has3 S H0 id kk [.int .i64 p, .int .i64 k, .slice a1 L.length c1]) (hs0 : KI.sl.Sl S H0 (.slice a1 L.length c1) L) : SpecM Tryz.prog S H0 146 [.pointer (some ⟨id, kk, none⟩)] (MkMx p (L.length : Nat) (trL L k)) := by
  refine SpecM.of1 Tryz.func146 rfl (by kernel_rfl) rfl (fun H _ => ?_)
  have hs := hs0.up (S' := Low H.n) (H' := H)
  have hv := hv0.up (S' := Low H.n) (H' := H)
  refine KW.ldF 0 hv rfl rfl rfl rfl rfl rfl rfl rfl rfl ?_
  refine KW.ldF 2 hv rfl rfl rfl rfl rfl rfl rfl rfl rfl ?_
  refine KW.build rfl rfl rfl rfl rfl (built_Matrix2 _ _) ?_
  refine KW.lpM rfl rfl (fun s : CpS => [(0, .pointer (some ⟨id, kk, none⟩)), (2, .pointer (some ⟨H.n, 0, some 0⟩)), (3, .pointer (some ⟨H.n + 1, 0, some 1⟩)), (4, .int .i64 s.i)]) (fun s => s.S) (fun s => s.A) (fun s => [(H.n, ⟨36, true, [.int .i64 0, .int .i64 0, .slice none 0 0]⟩), (H.n + 1, ⟨36, true, [.int .i64 p, .int .i64 L.length, s.l]⟩)] ++ s.tail) (fun s => CqI (colL L) (List.range k) H H (Low H.n) s) (fun s => k - s.i) (⟨0, Low H.n, H, fun _ => False, [], .slice none 0 0, []⟩) (⟨RwI.start, .inl ⟨rfl, rfl, rfl, rfl⟩⟩) ⟨rfl, rfl, rfl, rfl, trivial⟩ rfl rfl (rfl) (fun s hi bE n => ?_)
  obtain ⟨i, S1, A1, V, cs, l, tail⟩ := s
  obtain ⟨hq, hform⟩ := hi
  simp only at hq hform
  haveI : Stp (Low H.n) H S1 A1 := ⟨hq.old⟩
  have hle := hq.le
  have hcl := hq.b.len
  rw [List.length_map, List.length_take] at hcl
  simp only [List.length_range] at hle hcl
  have hs1 := hs.up (S' := S1) (H' := A1)
  have hv1 := hv.up (S' := S1) (H' := A1)
  rcases hform with ⟨hi0, e1, e2, e3⟩ | ⟨hi0, o, e1, e2⟩
  case' inl => subst e1 e2 e3
  case' inr => subst e1 e2
  all_goals
    refine KW.ldF 1 hv1 rfl rfl rfl rfl rfl rfl rfl rfl rfl ?_
    refine KW.cnd rfl rfl (fun j1 => ?gin) (fun j1 => ?gout)
    case gin =>
      have j1 : (i : Int) < (k : Int) := j1
      refine KW.lit rfl rfl rfl rfl rfl rfl rfl rfl rfl rfl [] rfl rfl (fun v hv => by simp at hv) rfl ?_
      first
        | (refine KW.lpM rfl rfl (fun q : Nat × Nat => [(0, .pointer (some ⟨id, kk, none⟩)), (2, .pointer (some ⟨H.n, 0, some 0⟩)), (3, .pointer (some ⟨H.n + 1, 0, some 1⟩)), (4, .int .i64 i), (5, .slice (some ⟨q.2, 0, some 1⟩) (colL (L.take q.1) i).length (colL (L.take q.1) i).length), (6, .int .i64 q.1)]) (fun _ => S1) (fun _ => A1) (fun q => [(H.n, ⟨36, true, [.int .i64 0, .int .i64 0, .slice none 0 0]⟩), (H.n + 1, ⟨36, true, [.int .i64 p, .int .i64 L.length, .slice none 0 0]⟩), (q.2, ⟨_, true, (colL (L.take q.1) i).map (Value.int .i64)⟩)]) (fun q => q.1 ≤ L.length) (fun q => L.length - q.1) (0, _) (by simp) ⟨rfl, rfl, rfl, rfl, rfl, rfl, trivial⟩ rfl rfl rfl (fun q hj bE n => ?_))
        | (refine KW.lpM rfl rfl (fun q : Nat × Nat => [(0, .pointer (some ⟨id, kk, none⟩)), (2, .pointer (some ⟨H.n, 0, some 0⟩)), (3, .pointer (some ⟨H.n + 1, 0, some 1⟩)), (4, .int .i64 i), (5, .slice (some ⟨q.2, 0, some 1⟩) (colL (L.take q.1) i).length (colL (L.take q.1) i).length), (6, .int .i64 q.1)]) (fun _ => S1) (fun _ => A1) (fun q => [(H.n, ⟨36, true, [.int .i64 0, .int .i64 0, .slice none 0 0]⟩), (H.n + 1, ⟨36, true, [.int .i64 p, .int .i64 L.length, .slice (some ⟨o, 0, some 1⟩) i i]⟩), (o, ⟨22, true, cs⟩), (q.2, ⟨_, true, (colL (L.take q.1) i).map (Value.int .i64)⟩)]) (fun q => q.1 ≤ L.length) (fun q => L.length - q.1) (0, _) (by simp) ⟨rfl, rfl, rfl, rfl, rfl, rfl, trivial⟩ rfl rfl rfl (fun q hj bE n => ?_))
      obtain ⟨j, o2⟩ := q
      simp only at hj
      have hjl : (colL (L.take j) i).length = j := by rw [colL_len, List.length_take]; omega
      refine KW.ldF 2 hv1 rfl rfl rfl rfl rfl rfl rfl rfl rfl ?_
      refine KW.cnd rfl rfl (fun j2 => ?gin2) (fun j2 => ?gout2)
      case gin2 =>
        have j2 : (j : Int) < (L.length : Int) := j2
        refine KW.ldF 2 hv1 rfl rfl rfl rfl rfl rfl rfl rfl rfl ?_
        refine KW.getL hs1 rfl rfl rfl rfl rfl rfl rfl rfl rfl rfl rfl rfl rfl rfl rfl rfl (by omega) (j2) (fun y ay cy hy hsy => ?_)
        have hy : L[j]? = some y := hy
        have hym := hL y (List.mem_of_getElem? hy)
        refine KW.getI hsy rfl rfl rfl rfl rfl rfl rfl rfl rfl rfl rfl rfl rfl rfl rfl rfl (by omega) (by omega) (fun z hz => ?_)
        have hz : y[i]? = some z := hz
        have hzd : y.getD i 0 = z := getD_of hz
        have enx := colL_next (c := i) hy
        rw [hzd] at enx
        first
          | (refine KW.app1 (xs := (colL (L.take j) i).map (Value.int .i64)) (v := .int .i64 z) 2 3 rfl rfl rfl rfl rfl rfl rfl rfl rfl rfl rfl rfl rfl rfl rfl rfl rfl rfl rfl rfl rfl rfl rfl (by simp) (by show (_ + 1) * 8 ≤ _; simp only; omega) (by simp only; omega) ?_
             exact KW.nxt rfl rfl (fun H' g => ⟨(j + 1, _), by simp only; omega, by simp only; omega, ⟨rfl, rfl, rfl, rfl, by simp only [enx, List.length_append, List.length_singleton]; rfl, congrArg (Value.int .i64) (inc64 (by omega)), trivial⟩, g.eqT (by simp only [enx, List.map_append]; rfl)⟩))
          | (refine KW.app1 (xs := (colL (L.take j) i).map (Value.int .i64)) (v := .int .i64 z) 3 4 rfl rfl rfl rfl rfl rfl rfl rfl rfl rfl rfl rfl rfl rfl rfl rfl rfl rfl rfl rfl rfl rfl rfl (by simp) (by show (_ + 1) * 8 ≤ _; simp only; omega) (by simp only; omega) ?_
             exact KW.nxt rfl rfl (fun H' g => ⟨(j + 1, _), by simp only; omega, by simp only; omega, ⟨rfl, rfl, rfl, rfl, by simp only [enx, List.length_append, List.length_singleton]; rfl, congrArg (Value.int .i64) (inc64 (by omega)), trivial⟩, g.eqT (by simp only [enx, List.map_append]; rfl)⟩))
      case gout2 =>
        obtain rfl : j = L.length := by have j2 : ¬ (j : Int) < (L.length : Int) := j2; omega
        rw [List.take_of_length_le (Nat.le_refl _)]
        first
          | (refine KW.freeze 3 rfl (fun A' S' hnA hSA stA hmA hoA hnS hlow => ?_)
             have hoH : H.n ≤ o2 := by
               rcases Nat.lt_or_ge o2 H.n with h | h
               · exact absurd (hq.old o2 h).1 hnS
               · exact h
             refine KW.app1 (xs := cs) (v := .slice (some ⟨o2, 0, some 1⟩) (colL L i).length (colL L i).length) 2 3 rfl rfl rfl rfl rfl rfl rfl rfl rfl rfl rfl rfl rfl rfl rfl rfl rfl rfl rfl rfl rfl rfl rfl (by omega) (by show (_ + 1) * 24 ≤ _; omega) (by omega) ?_
             exact KW.nxt rfl rfl (fun H' g => ⟨⟨i + 1, S', A', _, _, _, _⟩, ⟨hq.nextX (o' := 0) stA.st (X := fun id => id = o2) (fun id e => by subst e; exact ⟨(hSA _).2 (.inr rfl), hoH, hnS⟩) (show (List.range k)[i]? = some i from range_at (by omega)) (row_ml hmA), .inr ⟨by simp only; omega, _, rfl, rfl⟩⟩, by simp only; omega, ⟨rfl, rfl, rfl, congrArg (Value.int .i64) (inc64 (by omega)), trivial⟩, g⟩))
          | (refine KW.freeze 2 rfl (fun A' S' hnA hSA stA hmA hoA hnS hlow => ?_)
             have hoH : H.n ≤ o2 := by
               rcases Nat.lt_or_ge o2 H.n with h | h
               · exact absurd (hq.old o2 h).1 hnS
               · exact h
             refine KW.app0 (v := .slice (some ⟨o2, 0, some 1⟩) (colL L i).length (colL L i).length) 2 rfl rfl rfl rfl rfl rfl rfl rfl rfl rfl rfl rfl rfl rfl rfl rfl rfl rfl rfl rfl rfl rfl (by decide) ?_
             subst hi0
             exact KW.nxt rfl rfl (fun H' g => ⟨⟨1, S', A', _, _, _, _⟩, ⟨hq.nextX (o' := 0) stA.st (X := fun id => id = o2) (fun id e => by subst e; exact ⟨(hSA _).2 (.inr rfl), hoH, hnS⟩) (show (List.range k)[0]? = some 0 from range_at (by omega)) (row_ml hmA), .inr ⟨by simp only; omega, _, rfl, rfl⟩⟩, by simp only; omega, ⟨rfl, rfl, rfl, rfl, trivial⟩, g⟩))
    case gout =>
      have j1 : ¬ (i : Int) < (k : Int) := j1
      have he : i = k := by omega
      have el : (trL L k).length = k := trL_len
      refine KW.retM1 rfl rfl rfl rfl (fun H1 g => ?_)
      first
        | (have h0 : k = 0 := by omega
           subst h0
           exact ⟨none, 0, rfl, .inl ⟨rfl, _, _, rfl, fun _ => rfl⟩⟩)
        | (refine ⟨_, _, by rw [el, he]; rfl, ?_⟩
           have hm := ((⟨hq.le, hq.old, hq.b, hq.v⟩ : RwI (colL L) (List.range k) H (Low H.n) H ⟨i, S1, A1, V, cs, o⟩).ml (by rw [List.length_range]; exact he) g (j := 2) rfl (g.ge (H1 := H) (j := 2) rfl)).to (KLe.row (KLe.refl KI))
           rw [List.length_range] at hm
           rw [el]
           exact hm)
end
section
variable {S : Ids} {H0 : AH}
end
end Go.Proofs.YtijmkfnmdhpakaaGreat.Am
/- Dual ranks, plain: they are ranks if none is too great. No condition beyond each lemma's own. -/
set_option linter.unusedVariables false
namespace Go.Proofs.YtijmkfnmdhpakaaGreat.Am
open Go Go.RowKit
section
variable {l : List Int} {m : Nat}
end
section
variable {l : List Int} {u : Int} {gs : List (List Int)} {m : Nat}
end
end Go.Proofs.YtijmkfnmdhpakaaGreat.Am
/- Contracts: FirstMisfit, of the program and of the reference. Each holds under its own conditions. -/
set_option linter.unusedVariables false
set_option maxRecDepth 20000
namespace Go.Proofs.YtijmkfnmdhpakaaGreat.Am
open Go Go.RowKit Go.Proofs
/-- What both return: two groups and a code. -/
def FmR (m u : Int) (l : List Int) (h : Int) (gs : List (List Int)) (g0 g1 : List Int) (code : Int) : Prop :=
  (¬ fitC m u l h gs = 0 ∧ g0 = [] ∧ g1 = [] ∧ code = fitC m u l h gs) ∨
  (fitC m u l h gs = 0 ∧ ∃ a b f, Fst l u gs a b f ∧ ((f = false ∧ g0 = [] ∧ g1 = [] ∧ code = 6) ∨ (f = true ∧ g0 = hold a 7 ∧ g1 = hold b 7 ∧ code = 0)))
theorem FmR.one {m u : Int} {l : List Int} {h : Int} {gs : List (List Int)} {g0 g1 g0' g1' : List Int} {code code' : Int} (p : FmR m u l h gs g0 g1 code) (q : FmR m u l h gs g0' g1' code') : g0 = g0' ∧ g1 = g1' ∧ code = code' := by
  rcases p with ⟨h0, rfl, rfl, rfl⟩ | ⟨h0, a, b, f, hf, p⟩ <;> rcases q with ⟨k0, rfl, rfl, rfl⟩ | ⟨k0, a', b', f', kf, q⟩
  · exact ⟨rfl, rfl, rfl⟩
  · exact absurd k0 h0
  · exact absurd h0 k0
  · obtain ⟨rfl, rfl, rfl⟩ := hf.one kf
    rcases p with ⟨rfl, rfl, rfl, rfl⟩ | ⟨rfl, rfl, rfl, rfl⟩ <;> rcases q with ⟨e, rfl, rfl, rfl⟩ | ⟨e, rfl, rfl, rfl⟩ <;> first | exact ⟨rfl, rfl, rfl⟩ | cases e
theorem FmR.len {m u : Int} {l : List Int} {h : Int} {gs : List (List Int)} {g0 g1 : List Int} {code : Int} (p : FmR m u l h gs g0 g1 code) : g0.length ≤ 7 ∧ g1.length ≤ 7 := by
  rcases p with ⟨h0, rfl, rfl, rfl⟩ | ⟨h0, a, b, f, hf, ⟨rfl, rfl, rfl, rfl⟩ | ⟨rfl, rfl, rfl, rfl⟩⟩ <;> first | exact ⟨by simp, by simp⟩ | exact ⟨hold_len _ _, hold_len _ _⟩
section
variable {S : Ids} {H0 : AH}
end
end Go.Proofs.YtijmkfnmdhpakaaGreat.Am
/- What the laws' own functions do at Ranks: sizes, copies, equality, marks. Each holds under its own conditions. -/
set_option linter.unusedVariables false
set_option maxRecDepth 20000
namespace Go.Proofs.YtijmkfnmdhpakaaGreat.Am
open Go Go.RowKit Go.Proofs
abbrev T_Ranks : Type := (Int) × (Int) × (List Int)
abbrev M_Ranks : Kn T_Ranks := Kn.mp (KI) (Kn.mp (KI) (M_Int64S))
section
variable {S : Ids} {H0 : AH} {W : Ids} {left k : Int}
end
end Go.Proofs.YtijmkfnmdhpakaaGreat.Am
/- What the laws' own functions do at Family: sizes, copies, equality, marks. Each holds under its own conditions. -/
set_option linter.unusedVariables false
set_option maxRecDepth 20000
namespace Go.Proofs.YtijmkfnmdhpakaaGreat.Am
open Go Go.RowKit Go.Proofs
section
variable {S : Ids} {H0 : AH} {W : Ids} {left k : Int}
end
end Go.Proofs.YtijmkfnmdhpakaaGreat.Am
/- Contracts: DualRanks, of the program and of the reference. Each holds under its own conditions. -/
set_option linter.unusedVariables false
set_option linter.unusedSimpArgs false
set_option maxRecDepth 20000
namespace Go.Proofs.YtijmkfnmdhpakaaGreat.Am
open Go Go.RowKit Go.Proofs
theorem hold_mem {c n : Nat} {x : Int} (h : x ∈ hold c n) : ∃ i : Nat, x = i ∧ i < n ∧ c.testBit i = true := by
  unfold hold at h
  obtain ⟨i, hi, rfl⟩ := List.mem_map.1 h
  obtain ⟨h1, h2⟩ := List.mem_filter.1 hi
  exact ⟨i, rfl, List.mem_range.1 h1, h2⟩
theorem ranksM {X : Ids} {H : AH} {v : Value} {m u : Int} {xs : List Int} (h : KI.Ml X H v xs) : M_Ranks.R X H (m, u, xs) [.int .i64 m, .int .i64 u, v] :=
  mpR (X := None_) (cs := [.int .i64 m]) (show KI.R None_ H m _ from rfl) (mpR (X := None_) (cs := [.int .i64 u]) (show KI.R None_ H u _ from rfl) (ml1' h) (fun _ p => p.elim) (fun _ p => p) (fun _ p _ => p.elim)) (fun _ p => p.elim) (fun _ p => p) (fun _ p _ => p.elim)
/-- Ranks and a code. -/
def MkRC (r : T_Ranks) (code : Int) (n : Nat) (v : Value) (H1 : AH) : Prop := ∃ cs : List Value, v = .tuple #[.agg cs.toArray, .int .i64 code] ∧ M_Ranks.R (New n H1.n) H1 r cs
theorem MkRC.nil {code : Int} {n : Nat} {v : Value} {H1 : AH} (hv : v = .tuple #[.agg #[.int .i64 0, .int .i64 0, .slice none 0 0], .int .i64 code]) : MkRC (0, 0, []) code n v H1 := ⟨_, hv, ranksM (.inl ⟨rfl, _, _, rfl, fun _ => rfl⟩)⟩
section
variable {S : Ids} {H0 : AH}
end
end Go.Proofs.YtijmkfnmdhpakaaGreat.Am
/- Contracts: the ranks of a scheme, of the program and of the reference. Each holds under its own conditions. -/
set_option linter.unusedVariables false
set_option linter.unusedSimpArgs false
set_option maxRecDepth 20000
namespace Go.Proofs.YtijmkfnmdhpakaaGreat.Am
open Go Go.RowKit Go.Proofs Go.Proofs.YtijmkfnmdhpakaaGreat.Pl
def SchOk (x : T_Scheme) : Prop := OkSch x.1 x.2.1 x.2.2.1 x.2.2.2.1 x.2.2.2.2
section
variable {S : Ids} {H0 : AH}
theorem hold_has {y : Int} {x q : Nat} (h0 : 0 ≤ y) (h1 : y < q) : decide (y ∈ hold x q) = x.testBit y.toNat := by
  obtain ⟨j, rfl⟩ : ∃ j : Nat, y = j := ⟨y.toNat, by omega⟩
  rw [Int.toNat_natCast]
  by_cases hb : x.testBit j = true
  · rw [hb, decide_eq_true]
    exact List.mem_map.2 ⟨j, List.mem_filter.2 ⟨List.mem_range.2 (by omega), hb⟩, rfl⟩
  · rw [decide_eq_false (fun hm => by obtain ⟨i, h2, _, h3⟩ := hold_mem hm; exact hb (by rw [show j = i by omega]; exact h3))]
    simpa using hb
end
end Go.Proofs.YtijmkfnmdhpakaaGreat.Am
/- Contracts: the change of blinds, of the program and of the reference. Each holds under its own conditions. -/
set_option linter.unusedVariables false
set_option linter.unusedSimpArgs false
set_option maxRecDepth 20000
namespace Go.Proofs.YtijmkfnmdhpakaaGreat.Am
open Go Go.RowKit Go.Proofs Go.Proofs.YtijmkfnmdhpakaaGreat.Pl
/-- 1 in the first place, 0 in the others. -/
def unitL (k : Nat) : List Int := 1 :: List.replicate (k - 1) 0
theorem unitL_len {k : Nat} (h : 1 ≤ k) : (unitL k).length = k := by simp [unitL]; omega
theorem unitL_cells {k : Nat} (h : 1 ≤ k) : (List.replicate k (Value.int .i64 0)).set (0 + (0 : Int).toNat * 1) (Value.int .i64 1) = (unitL k).map (Value.int .i64) := by
  obtain ⟨m, rfl⟩ : ∃ m, k = m + 1 := ⟨k - 1, by omega⟩
  simp [unitL, List.replicate_succ]
/-- A scheme and a code. -/
def MkSC (r : T_Scheme) (code : Int) (n : Nat) (v : Value) (H1 : AH) : Prop := ∃ cs : List Value, v = .tuple #[.agg cs.toArray, .int .i64 code] ∧ M_Scheme.R (New n H1.n) H1 r cs
theorem schemeM {X X1 X2 : Ids} {H : AH} {h p c : Int} {v w : Value} {ow : List Int} {rows : List (List Int)} (h1 : KI.Ml X1 H v ow) (h2 : KI.ml.Ml X2 H w rows) (i1 : ∀ id, X1 id → X id) (i2 : ∀ id, X2 id → X id) (hd : ∀ id, X1 id → X2 id → False) : M_Scheme.R X H (h, ow, (p, c, rows)) [.int .i64 h, v, .int .i64 p, .int .i64 c, w] :=
  have k2 : M_Matrix.R X2 H (p, c, rows) [.int .i64 p, .int .i64 c, w] := mpR (X := None_) (cs := [.int .i64 p]) (show KI.R None_ H p _ from rfl) (mpR (X := None_) (cs := [.int .i64 c]) (show KI.R None_ H c _ from rfl) (ml1' h2) (fun _ p => p.elim) (fun _ p => p) (fun _ p _ => p.elim)) (fun _ p => p.elim) (fun _ p => p) (fun _ p _ => p.elim)
  mpR (X := None_) (cs := [.int .i64 h]) (show KI.R None_ H h _ from rfl) (mpR (cs := [v]) (ml1' h1) k2 i1 i2 hd) (fun _ p => p.elim) (fun _ p => p) (fun _ p _ => p.elim)
theorem MkSC.nil {code : Int} {n : Nat} {v : Value} {H1 : AH} (hv : v = .tuple #[.agg #[.int .i64 0, .slice none 0 0, .int .i64 0, .int .i64 0, .slice none 0 0], .int .i64 code]) : MkSC (0, [], (0, 0, [])) code n v H1 :=
  ⟨_, hv, schemeM (X1 := None_) (X2 := None_) (.inl ⟨rfl, _, _, rfl, fun _ => rfl⟩) (.inl ⟨rfl, _, _, rfl, fun _ => rfl⟩) (fun _ p => p.elim) (fun _ p => p.elim) (fun _ p _ => p.elim)⟩
section
variable {S : Ids} {H0 : AH}
theorem unit (k : Nat) (h1 : 1 ≤ k) (hk : k ≤ 1000) : SpecM Tryz.prog S H0 131 [.int .i64 k] (MkL (unitL k)) := by
  refine SpecM.of1 Tryz.func131 rfl (by kernel_rfl) rfl (fun H _ => ?_)
  refine KW.mk1 rfl rfl rfl rfl rfl rfl rfl rfl rfl rfl rfl rfl (k) rfl rfl (by omega) (by show 8 * _ ≤ _; omega) ?_
  refine KW.idx0 rfl rfl rfl rfl rfl rfl rfl rfl rfl (by omega) (by omega) ?_
  refine KW.st1 0 rfl rfl rfl rfl rfl rfl rfl rfl rfl rfl rfl rfl (by simp; omega) ?_
  refine KW.retM1 rfl rfl rfl rfl (fun H1 g => ?_)
  have hb := g.blk (j := 0) rfl
  exact ⟨some ⟨H.n, 0, some 1⟩, k, by rw [unitL_len h1]; rfl, int_ml ⟨Nat.le_refl _, hb.2⟩ hb.1 rfl (unitL_cells h1) (by rw [unitL_len h1]; exact Nat.le_refl _)⟩
theorem l04First (k : Nat) (h1 : 1 ≤ k) (hk : k ≤ 1000) : SpecM Tryz.prog S H0 124 [.int .i64 k] (MkL (unitL k)) := by
  refine SpecM.of1 Tryz.func124 rfl (by kernel_rfl) rfl (fun H _ => ?_)
  refine KW.mk1 rfl rfl rfl rfl rfl rfl rfl rfl rfl rfl rfl rfl (k) rfl rfl (by omega) (by show 8 * _ ≤ _; omega) ?_
  refine KW.idx0 rfl rfl rfl rfl rfl rfl rfl rfl rfl (by omega) (by omega) ?_
  refine KW.st1 0 rfl rfl rfl rfl rfl rfl rfl rfl rfl rfl rfl rfl (by simp; omega) ?_
  refine KW.retM1 rfl rfl rfl rfl (fun H1 g => ?_)
  have hb := g.blk (j := 0) rfl
  exact ⟨some ⟨H.n, 0, some 1⟩, k, by rw [unitL_len h1]; rfl, int_ml ⟨Nat.le_refl _, hb.2⟩ hb.1 rfl (unitL_cells h1) (by rw [unitL_len h1]; exact Nat.le_refl _)⟩
end
end Go.Proofs.YtijmkfnmdhpakaaGreat.Am
/- Groups and their bits, plain: a rising group is what its bits hold; chains. No condition beyond each lemma's own. -/
set_option linter.unusedVariables false
namespace Go.Proofs.YtijmkfnmdhpakaaGreat.Am
open Go Go.RowKit
theorem hold_congr {x y n : Nat} (h : ∀ i, i < n → x.testBit i = y.testBit i) : hold x n = hold y n := by
  unfold hold
  congr 1
  exact List.filter_congr fun i hi => h i (List.mem_range.1 hi)
theorem bitsOf_snoc (g : List Int) (a : Int) : bitsOf (g ++ [a]) = bitsOf g ||| 2 ^ a.toNat := by
  unfold bitsOf
  rw [List.foldl_append]; rfl
theorem rises_front {lo hi : Int} {g : List Int} {a : Int} (h : Rises lo hi (g ++ [a])) : Rises lo hi g ∧ (∀ x ∈ g, x < a) ∧ lo ≤ a ∧ a ≤ hi := by
  have at_ : ∀ i, i < g.length → (g ++ [a]).getD i 0 = g.getD i 0 := fun i hi => by
    rw [List.getD_eq_getElem?_getD, List.getD_eq_getElem?_getD, List.getElem?_append_left hi]
  have last : (g ++ [a]).getD g.length 0 = a := by
    rw [List.getD_eq_getElem?_getD]; simp
  have hr : Rises lo hi g := fun i hi => by
    obtain ⟨h1, h2⟩ := h i (by simp; omega)
    rw [at_ i hi] at h1 h2
    refine ⟨h1, fun h0 => ?_⟩
    have := h2 h0
    rwa [at_ (i - 1) (by omega)] at this
  have hl := h g.length (by simp)
  unfold RiseAt at hl
  rw [last] at hl
  refine ⟨hr, fun x hx => ?_, hl.1.1, hl.1.2⟩
  obtain ⟨i, hi⟩ := List.getElem?_of_mem hx
  have hil := (List.getElem?_eq_some_iff.1 hi).1
  -- each element is at most the last one of g
  have up : ∀ d i, i + d = g.length - 1 → i < g.length → g.getD i 0 ≤ g.getD (g.length - 1) 0 := fun d => by
    induction d with
    | zero => intro i h1 h2; rw [show i = g.length - 1 by omega]; exact Int.le_refl _
    | succ d ih =>
      intro i h1 h2
      have h3 := ih (i + 1) (by omega) (by omega)
      have h4 := (hr (i + 1) (by omega)).2 (by omega)
      simp only [Nat.add_sub_cancel] at h4
      omega
  have h5 := up (g.length - 1 - i) i (by omega) hil
  have h6 := hl.2 (by omega)
  rw [at_ (g.length - 1) (by omega)] at h6
  rw [getD_of hi] at h5
  omega
theorem bitsOf_test {g : List Int} (hg : ∀ x ∈ g, 0 ≤ x) (i : Nat) : (bitsOf g).testBit i = true ↔ (i : Int) ∈ g := by
  have key : ∀ (g : List Int) (a : Nat), (∀ x ∈ g, 0 ≤ x) → ((g.foldl (fun a x => a ||| 2 ^ x.toNat) a).testBit i = true ↔ (a.testBit i = true ∨ (i : Int) ∈ g)) := by
    intro g
    induction g with
    | nil => intro a _; simp
    | cons x g ih =>
      intro a hx
      have h0 := hx x List.mem_cons_self
      simp only [List.foldl_cons]
      rw [ih _ (fun y hy => hx y (List.mem_cons_of_mem _ hy)), Nat.testBit_or, Nat.testBit_two_pow, List.mem_cons]
      have e : x.toNat = i ↔ (i : Int) = x := by omega
      simp only [Bool.or_eq_true, decide_eq_true_eq, e]
      constructor
      · rintro ((h | h) | h)
        · exact .inl h
        · exact .inr (.inl h)
        · exact .inr (.inr h)
      · rintro (h | h | h)
        · exact .inl (.inl h)
        · exact .inl (.inr h)
        · exact .inr h
  have := key g 0 hg
  simpa [bitsOf] using this
theorem hold_bits : ∀ (n : Nat) {g : List Int}, Rises 0 ((n : Int) - 1) g → hold (bitsOf g) n = g
  | 0, g, h => by
    cases g with
    | nil => rfl
    | cons x g => have := (h 0 (by simp)).1; omega
  | n + 1, g, h => by
    rcases List.eq_nil_or_concat g with rfl | ⟨g', a, hga⟩
    · unfold hold bitsOf; simp
    · rw [List.concat_eq_append] at hga
      subst hga
      obtain ⟨h1, h2, h3, h4⟩ := rises_front h
      have hg' : ∀ x ∈ g', 0 ≤ x := fun x hx => (rises_mem h1 x hx).1
      rw [hold_next]
      by_cases ha : a = n
      · subst ha
        have hb : (bitsOf (g' ++ [(n : Int)])).testBit n = true := by rw [bitsOf_snoc, Nat.testBit_or, Nat.testBit_two_pow]; simp
        rw [if_pos hb]
        congr 1
        have h5 : Rises 0 ((n : Int) - 1) g' := fun i hi => by
          obtain ⟨h6, h7⟩ := h1 i hi
          refine ⟨⟨h6.1, ?_⟩, h7⟩
          have := h2 (g'.getD i 0) (by rw [List.getD_eq_getElem?_getD, List.getElem?_eq_getElem hi]; exact List.getElem_mem hi)
          omega
        have ih := hold_bits n h5
        rw [← ih]
        rw [ih]
        refine Eq.trans (hold_congr fun i hi => ?_) ih
        rw [bitsOf_snoc, Nat.testBit_or, Nat.testBit_two_pow]
        have h9 : ¬ n = i := by omega
        simp [h9]
      · have h5 : Rises 0 ((n : Int) - 1) (g' ++ [a]) := fun i hi => by
          obtain ⟨h6, h7⟩ := h i hi
          refine ⟨⟨h6.1, ?_⟩, h7⟩
          have hm : (g' ++ [a]).getD i 0 ∈ g' ++ [a] := by rw [List.getD_eq_getElem?_getD, List.getElem?_eq_getElem hi]; exact List.getElem_mem hi
          rcases List.mem_append.1 hm with h8 | h8
          · have := h2 _ h8; omega
          · have := List.mem_singleton.1 h8; omega
        have hb : ¬ (bitsOf (g' ++ [a])).testBit n = true := fun hc => by
          have := (bitsOf_test (fun x hx => (rises_mem h5 x hx).1) n).1 hc
          have := (rises_mem h5 _ this).2
          omega
        rw [if_neg hb]
        exact hold_bits n h5
end Go.Proofs.YtijmkfnmdhpakaaGreat.Am
/- Linear equations modulo a prime, in plain Lean: what a round of the echelon does to them, and how many solutions there are. Each holds under its own conditions. -/
set_option linter.unusedVariables false
set_option linter.unusedSimpArgs false
namespace Go.Proofs.YtijmkfnmdhpakaaGreat.Pl
/-- The sum of the products of the elements of w from column c on and those of a list. -/
def dF (w : List Int) : Nat → List Int → Int
  | _, [] => 0
  | c, a :: t => w.getD c 0 * a + dF w (c + 1) t
theorem sc_get {p b : Int} {w : List Int} {c : Nat} : (sc p b w).getD c 0 = w.getD c 0 * b % p := by
  simp only [sc, List.getD_eq_getElem?_getD, List.getElem?_map]
  cases w[c]? <;> simp
theorem tk_get {p t : Int} {a b : List Int} (h : a.length = b.length) {c : Nat} : (tk p t a b).getD c 0 = (a.getD c 0 + (p - t) * b.getD c 0) % p := by
  simp only [tk, List.getD_eq_getElem?_getD, List.getElem?_zipWith]
  rcases Nat.lt_or_ge c a.length with hc | hc
  · rw [List.getElem?_eq_getElem hc, List.getElem?_eq_getElem (by omega)]; simp
  · rw [List.getElem?_eq_none hc, List.getElem?_eq_none (by omega)]; simp
theorem mod_eq (a p : Int) : ∃ k, a % p = a - p * k := ⟨a / p, by rw [Int.emod_def]⟩
theorem dF_sc {p b : Int} {w : List Int} : ∀ (t : List Int) (c : Nat), ∃ k, dF (sc p b w) c t = b * dF w c t + p * k
  | [], c => ⟨0, by simp [dF]⟩
  | a :: t, c => by
    obtain ⟨k, hk⟩ := dF_sc (p := p) (b := b) (w := w) t (c + 1)
    obtain ⟨m, hm⟩ := mod_eq (w.getD c 0 * b) p
    refine ⟨k - m * a, ?_⟩
    simp only [dF, hk, sc_get, hm]
    grind
theorem dF_tk {p s : Int} {a b : List Int} (h : a.length = b.length) : ∀ (t : List Int) (c : Nat), ∃ k, dF (tk p s a b) c t = dF a c t - s * dF b c t + p * k
  | [], c => ⟨0, by simp [dF]⟩
  | x :: t, c => by
    obtain ⟨k, hk⟩ := dF_tk (p := p) (s := s) h t (c + 1)
    obtain ⟨m, hm⟩ := mod_eq (a.getD c 0 + (p - s) * b.getD c 0) p
    refine ⟨k + b.getD c 0 * x - m * x, ?_⟩
    simp only [dF, hk, tk_get h, hm]
    grind
/-- The row w, whose value stands in column k, holds for x. -/
def Sat (p : Int) (k : Nat) (w x : List Int) : Prop := ∃ m, dF w 0 x = w.getD k 0 + p * m
theorem sat_iff {p : Int} {k : Nat} {w x : List Int} : Sat p k w x ↔ (dF w 0 x - w.getD k 0) % p = 0 := by
  constructor
  · rintro ⟨m, hm⟩
    rw [hm]
    have : w.getD k 0 + p * m - w.getD k 0 = p * m := by omega
    rw [this]
    exact Int.mul_emod_right p m
  · intro h
    obtain ⟨m, hm⟩ := Int.dvd_of_emod_eq_zero h
    exact ⟨m, by omega⟩
theorem sat_sc {p b : Int} {k : Nat} {w x : List Int} (h : Sat p k w x) : Sat p k (sc p b w) x := by
  obtain ⟨m, hm⟩ := h
  obtain ⟨j, hj⟩ := dF_sc (p := p) (b := b) (w := w) x 0
  obtain ⟨i, hi⟩ := mod_eq (w.getD k 0 * b) p
  exact ⟨b * m + j + i, by rw [hj, hm, sc_get, hi]; grind⟩
theorem sat_sc' {p b b' : Int} {k : Nat} {w x : List Int} (hb : ∃ q, b' * b = 1 + p * q) (h : Sat p k (sc p b w) x) : Sat p k w x := by
  obtain ⟨m, hm⟩ := h
  obtain ⟨j, hj⟩ := dF_sc (p := p) (b := b) (w := w) x 0
  obtain ⟨i, hi⟩ := mod_eq (w.getD k 0 * b) p
  obtain ⟨q, hq⟩ := hb
  rw [sc_get, hi, hj] at hm
  refine ⟨b' * m - b' * j - b' * i - q * dF w 0 x + q * w.getD k 0, ?_⟩
  have h1 : b' * (b * dF w 0 x) = b' * (w.getD k 0 * b - p * i + p * m - p * j) := by rw [← hm]; grind
  grind
theorem sat_tk {p s : Int} {k : Nat} {a b x : List Int} (hl : a.length = b.length) (ha : Sat p k a x) (hb : Sat p k b x) : Sat p k (tk p s a b) x := by
  obtain ⟨m, hm⟩ := ha
  obtain ⟨q, hq⟩ := hb
  obtain ⟨j, hj⟩ := dF_tk (p := p) (s := s) hl x 0
  obtain ⟨i, hi⟩ := mod_eq (a.getD k 0 + (p - s) * b.getD k 0) p
  exact ⟨m - s * q + j + i - b.getD k 0, by rw [hj, hm, hq, tk_get hl, hi]; grind⟩
theorem sat_tk' {p s : Int} {k : Nat} {a b x : List Int} (hl : a.length = b.length) (ha : Sat p k (tk p s a b) x) (hb : Sat p k b x) : Sat p k a x := by
  obtain ⟨m, hm⟩ := ha
  obtain ⟨q, hq⟩ := hb
  obtain ⟨j, hj⟩ := dF_tk (p := p) (s := s) hl x 0
  obtain ⟨i, hi⟩ := mod_eq (a.getD k 0 + (p - s) * b.getD k 0) p
  rw [hj, hq, tk_get hl, hi] at hm
  exact ⟨m + s * q - j - i + b.getD k 0, by grind⟩
/-- All rows hold for x. -/
def AllS (p : Int) (k : Nat) (L : List (List Int)) (x : List Int) : Prop := ∀ (j : Nat) r, L[j]? = some r → Sat p k r x
/-- Powers are inverses. -/
def Fer (p : Int) : Prop := 2 ≤ p ∧ ∀ a : Int, 0 < a → a < p → ∃ q, a * pw p a (p - 2).toNat = 1 + p * q
theorem sw_get {L : List (List Int)} {n a : Nat} {u w : List Int} (hu : L[n]? = some u) (hw : L[a]? = some w) (j : Nat) : (sw L n a)[j]? = if j = a then some u else if j = n then some w else L[j]? := by
  obtain ⟨h1, e1⟩ := List.getElem?_eq_some_iff.1 hu
  obtain ⟨h2, e2⟩ := List.getElem?_eq_some_iff.1 hw
  have d1 : L.getD n [] = u := by rw [List.getD_eq_getElem?_getD, hu]; rfl
  have d2 : L.getD a [] = w := by rw [List.getD_eq_getElem?_getD, hw]; rfl
  simp only [sw, d1, d2]
  rw [List.getElem?_set]
  by_cases e : a = j
  · subst e; rw [if_pos rfl, if_pos rfl, if_pos (by rw [List.length_set]; exact h2)]
  · rw [if_neg e, if_neg (Ne.symm e), List.getElem?_set]
    by_cases e' : n = j
    · subst e'; rw [if_pos rfl, if_pos rfl, if_pos h1]
    · rw [if_neg e', if_neg (Ne.symm e')]
theorem nz_val {L : List (List Int)} {c : Nat} : ∀ (d a : Nat), a + d = L.length → nz L c a < L.length → ∃ r, L[nz L c a]? = some r ∧ r.getD c 0 ≠ 0
  | 0, a, h, hl => by rw [nz_end (by omega)] at hl; omega
  | d + 1, a, h, hl => by
    obtain ⟨r, hr⟩ : ∃ r, L[a]? = some r := ⟨L[a]'(by omega), List.getElem?_eq_getElem (by omega)⟩
    by_cases hz : r.getD c 0 = 0
    · rw [← nz_step hr hz] at hl ⊢
      exact nz_val d (a + 1) (by omega) hl
    · rw [nz_stop hr hz]
      exact ⟨r, hr, hz⟩
theorem nz_zero {L : List (List Int)} {c : Nat} : ∀ (d a : Nat), a + d = L.length → ∀ (j : Nat) r, a ≤ j → j < nz L c a → L[j]? = some r → r.getD c 0 = 0
  | 0, a, h, j, r, h1, h2, hr => by rw [nz_end (by omega)] at h2; omega
  | d + 1, a, h, j, r, h1, h2, hr => by
    obtain ⟨u, hu⟩ : ∃ u, L[a]? = some u := ⟨L[a]'(by omega), List.getElem?_eq_getElem (by omega)⟩
    by_cases hz : u.getD c 0 = 0
    · rw [← nz_step hu hz] at h2
      rcases Nat.eq_or_lt_of_le h1 with rfl | h3
      · rw [hu] at hr; cases hr; exact hz
      · exact nz_zero d (a + 1) (by omega) j r (by omega) h2 hr
    · rw [nz_stop hu hz] at h2; omega
/-- What stands in the rows behind a round. -/
theorem rnd_rows {p : Int} {K c n : Nat} {L L' : List (List Int)} (hf : Fer p) (hL : Rect p K L) (hn : n ≤ L.length) (h : rnd p L c n = some L') :
    ∃ (a : Nat) (u w : List Int) (b : Int), n ≤ a ∧ a < L.length ∧ L[n]? = some u ∧ L[a]? = some w ∧ w.getD c 0 ≠ 0 ∧ (∃ q, w.getD c 0 * b = 1 + p * q) ∧ L'.length = L.length ∧ L'[n]? = some (sc p b w) ∧
      (∀ (j : Nat) v, n ≤ j → j < a → L[j]? = some v → v.getD c 0 = 0) ∧
      ∀ j, j ≠ n → L'[j]? = (if j = a then some u else L[j]?).map fun v => tk p (v.getD c 0) v (sc p b w) := by
  unfold rnd at h
  split at h
  · cases h
  · rename_i hne
    have hnz := nz_le (L := L) (c := c) (L.length - n) n (by omega)
    have hlt : nz L c n < L.length := by omega
    obtain ⟨w, hw, hw0⟩ := nz_val (L.length - n) n (by omega) hlt
    have hz := nz_zero (L := L) (c := c) (L.length - n) n (by omega)
    obtain ⟨a, ha⟩ : ∃ a, nz L c n = a := ⟨_, rfl⟩
    rw [ha] at hw hz hnz hlt h
    obtain ⟨u, hu⟩ : ∃ u, L[n]? = some u := ⟨L[n]'(by omega), List.getElem?_eq_getElem (by omega)⟩
    have hswn : (sw L n a)[n]? = some w := by
      rw [sw_get hu hw]
      split
      · rename_i e; subst e; rw [hw] at hu; exact hu.symm
      · rw [if_pos rfl]
    have hd : (sw L n a).getD n [] = w := by rw [List.getD_eq_getElem?_getD, hswn]; rfl
    have hwin := hL w (List.mem_of_getElem? hw)
    have hwc : 0 < w.getD c 0 ∧ w.getD c 0 < p := by
      rcases Nat.lt_or_ge c w.length with hc | hc
      · have h1 : w.getD c 0 = w[c] := by rw [List.getD_eq_getElem?_getD, List.getElem?_eq_getElem hc]; rfl
        have h2 := hwin.2 _ (List.getElem_mem hc)
        rw [← h1] at h2
        omega
      · exact absurd (by rw [List.getD_eq_getElem?_getD, List.getElem?_eq_none hc]; rfl) hw0
    have hlead : lead p L c n = sc p (pw p (w.getD c 0) (p - 2).toNat) w := by unfold lead; rw [ha, hd]
    rw [hlead] at h
    injection h with h
    obtain ⟨b, hb⟩ : ∃ b, pw p (w.getD c 0) (p - 2).toNat = b := ⟨_, rfl⟩
    have hbq := hf.2 _ hwc.1 hwc.2
    rw [hb] at h hbq
    have hlen : ((sw L n a).set n (sc p b w)).length = L.length := by rw [List.length_set, sw_len]
    refine ⟨a, u, w, b, hnz.1, hlt, hu, hw, hw0, hbq, by rw [← h, tks_len, hlen], ?_, fun j v h1 h2 hj => hz j v h1 h2 hj, fun j hj => ?_⟩
    · rw [← h, tks_get, List.getElem?_set, if_pos rfl, if_pos (by rw [sw_len]; omega), Option.map_some, if_neg (by omega)]
    · rw [← h, tks_get, List.getElem?_set, if_neg (Ne.symm hj), sw_get hu hw]
      rcases Nat.lt_or_ge j L.length with hjl | hjl
      · congr 1
        · funext v; rw [if_pos ⟨hjl, hj⟩]
        · split
          · rfl
          · rfl
      · rw [if_neg (by omega), if_neg hj, if_neg (by omega), List.getElem?_eq_none hjl]; rfl
/-- A round changes no solution. -/
theorem rnd_sat {p : Int} {k c n : Nat} {L L' : List (List Int)} (hf : Fer p) (hL : Rect p (k + 1) L) (hn : n ≤ L.length) (h : rnd p L c n = some L') {x : List Int} : AllS p k L' x ↔ AllS p k L x := by
  obtain ⟨a, u, w, b, h1, h2, hu, hw, hw0, ⟨q, hq⟩, hlen, hln, hz, hrest⟩ := rnd_rows hf hL hn h
  have hul := (hL u (List.mem_of_getElem? hu)).1
  have hwl := (hL w (List.mem_of_getElem? hw)).1
  have hscl : (sc p b w).length = w.length := by simp [sc]
  constructor
  · intro hs
    have s1 := hs n _ hln
    have s2 : Sat p k w x := sat_sc' ⟨q, hq⟩ s1
    have s3 : ∀ (j : Nat) v, j ≠ n → (if j = a then some u else L[j]?) = some v → Sat p k v x := fun j v hj hv => by
      have hvl : v.length = k + 1 := by
        split at hv
        · cases hv; exact hul
        · exact (hL v (List.mem_of_getElem? hv)).1
      exact sat_tk' (by rw [hscl, hvl, hwl]) (hs j _ (by rw [hrest j hj, hv]; rfl)) s1
    intro j r hj
    by_cases e : j = a
    · subst e; rw [hw] at hj; cases hj; exact s2
    · by_cases e' : j = n
      · subst e'
        rw [hu] at hj; cases hj
        exact s3 a u (Ne.symm e) (if_pos rfl)
      · exact s3 j r e' (by rw [if_neg e]; exact hj)
  · intro hs j r hj
    have s1 : Sat p k (sc p b w) x := sat_sc (hs a w hw)
    by_cases e : j = n
    · subst e; rw [hln] at hj; cases hj; exact s1
    · rw [hrest j e] at hj
      obtain ⟨v, hv, rfl⟩ := Option.map_eq_some_iff.1 hj
      have hv2 : Sat p k v x ∧ v.length = k + 1 := by
        split at hv
        · cases hv; exact ⟨hs n _ hu, hul⟩
        · exact ⟨hs j _ hv, (hL v (List.mem_of_getElem? hv)).1⟩
      exact sat_tk (by rw [hscl, hv2.2, hwl]) hv2.1 s1
/-- An echelon, as far as column c, with the columns of the first elements. -/
structure Ech (p : Int) (K c : Nat) (E : List (List Int)) (P : List Nat) : Prop where
  rect : Rect p K E
  le : P.length ≤ E.length
  piv : ∀ (i q : Nat) r, P[i]? = some q → E[i]? = some r → q < c ∧ r.getD q 0 = 1 ∧ ∀ j, j < q → r.getD j 0 = 0
  zero : ∀ (i : Nat) r, P.length ≤ i → E[i]? = some r → ∀ j, j < c → r.getD j 0 = 0
  red : ∀ (i q j : Nat) r, P[i]? = some q → j ≠ i → E[j]? = some r → r.getD q 0 = 0
theorem small_mod {p x : Int} (h : 0 ≤ x ∧ x < p) : x % p = x := Int.emod_eq_of_lt h.1 h.2
theorem Rect.el {p : Int} {K : Nat} {L : List (List Int)} (h : Rect p K L) (hp : 0 < p) {i : Nat} {r : List Int} (hr : L[i]? = some r) (c : Nat) : 0 ≤ r.getD c 0 ∧ r.getD c 0 < p := by
  rcases Nat.lt_or_ge c r.length with hc | hc
  · rw [List.getD_eq_getElem?_getD, List.getElem?_eq_getElem hc]
    exact (h r (List.mem_of_getElem? hr)).2 _ (List.getElem_mem hc)
  · rw [List.getD_eq_getElem?_getD, List.getElem?_eq_none hc]; exact ⟨Int.le_refl _, hp⟩
theorem Ech.none_ {p : Int} {K c : Nat} {E : List (List Int)} {P : List Nat} (h : Ech p K c E P) (hr : rnd p E c P.length = none) : Ech p K (c + 1) E P := by
  have hz : nz E c P.length = E.length := by
    unfold rnd at hr
    split at hr
    · assumption
    · cases hr
  refine ⟨h.rect, h.le, fun i q r h1 h2 => ⟨by have := (h.piv i q r h1 h2).1; omega, (h.piv i q r h1 h2).2⟩, fun i r h1 h2 j hj => ?_, h.red⟩
  by_cases e : j = c
  · subst e
    exact nz_zero (E.length - P.length) P.length (by have := h.le; omega) i r h1 (by rw [hz]; exact (List.getElem?_eq_some_iff.1 h2).1) h2
  · exact h.zero i r h1 h2 j (by omega)
theorem Ech.some_ {p : Int} {K c : Nat} {E E' : List (List Int)} {P : List Nat} (hf : Fer p) (h : Ech p K c E P) (hr : rnd p E c P.length = some E') (hR : Rect p K E') : Ech p K (c + 1) E' (P ++ [c]) := by
  have hp : 0 < p := by have := hf.1; omega
  obtain ⟨a, u, w, b, h1, h2, hu, hw, hw0, ⟨q0, hq0⟩, hlen, hln, hz, hrest⟩ := rnd_rows hf h.rect h.le hr
  have hwz : ∀ j, j < c → w.getD j 0 = 0 := fun j hj => h.zero a w h1 hw j hj
  have huz : ∀ j, j < c → u.getD j 0 = 0 := fun j hj => h.zero _ u (Nat.le_refl _) hu j hj
  have hlz : ∀ j, j < c → (sc p b w).getD j 0 = 0 := fun j hj => by rw [sc_get, hwz j hj]; simp
  have hl1 : (sc p b w).getD c 0 = 1 := by
    rw [sc_get, hq0, Int.add_mul_emod_self_left]
    exact Int.emod_eq_of_lt (by omega) (by have := hf.1; omega)
  have hul := (h.rect u (List.mem_of_getElem? hu)).1
  have hwl := (h.rect w (List.mem_of_getElem? hw)).1
  have hscl : (sc p b w).length = w.length := by simp [sc]
  have src : ∀ (j : Nat) r, j ≠ P.length → E'[j]? = some r → ∃ v i, E[i]? = some v ∧ (j < P.length → i = j) ∧ (P.length < j → P.length ≤ i) ∧ ∀ m, r.getD m 0 = (v.getD m 0 + (p - v.getD c 0) * (sc p b w).getD m 0) % p := fun j r hj hr => by
    rw [hrest j hj] at hr
    obtain ⟨v, hv, rfl⟩ := Option.map_eq_some_iff.1 hr
    split at hv
    · rename_i e
      cases hv
      exact ⟨u, P.length, hu, fun h => by omega, fun h => Nat.le_refl _, fun m => tk_get (by rw [hscl, hul, hwl])⟩
    · exact ⟨v, j, hv, fun h => rfl, fun h => by omega, fun m => tk_get (by rw [hscl, (h.rect v (List.mem_of_getElem? hv)).1, hwl])⟩
  have low : ∀ (j : Nat) (r v : List Int) (i : Nat), E[i]? = some v → (∀ m, r.getD m 0 = (v.getD m 0 + (p - v.getD c 0) * (sc p b w).getD m 0) % p) → ∀ m, m < c → r.getD m 0 = v.getD m 0 := fun j r v i hv hm m hmc => by
    rw [hm m, hlz m hmc, Int.mul_zero, Int.add_zero]
    exact small_mod (h.rect.el hp hv m)
  have atc : ∀ (r v : List Int) (i : Nat), E[i]? = some v → (∀ m, r.getD m 0 = (v.getD m 0 + (p - v.getD c 0) * (sc p b w).getD m 0) % p) → r.getD c 0 = 0 := fun r v i hv hm => by
    rw [hm c, hl1]
    have : v.getD c 0 + (p - v.getD c 0) * 1 = p := by omega
    rw [this, Int.emod_self]
  have hPl : (P ++ [c]).length = P.length + 1 := by simp
  have split1 : ∀ {i q : Nat}, (P ++ [c])[i]? = some q → (i < P.length ∧ P[i]? = some q) ∨ (i = P.length ∧ q = c) := fun {i q} hi => by
    rcases Nat.lt_or_ge i P.length with hl | hl
    · rw [List.getElem?_append_left hl] at hi; exact .inl ⟨hl, hi⟩
    · have := (List.getElem?_eq_some_iff.1 hi).1
      rw [hPl] at this
      have e : i = P.length := by omega
      subst e
      rw [List.getElem?_append_right (Nat.le_refl _)] at hi
      simp at hi
      exact .inr ⟨rfl, hi.symm⟩
  refine ⟨hR, by rw [hPl, hlen]; omega, fun i q r hi hr2 => ?_, fun i r hi hr2 j hj => ?_, fun i q j r hi hj hr2 => ?_⟩
  · rcases split1 hi with ⟨hl, hi⟩ | ⟨rfl, rfl⟩
    · obtain ⟨v, i', hv, e1, _, hm⟩ := src i r (by omega) hr2
      have e := e1 hl
      subst e
      obtain ⟨p1, p2, p3⟩ := h.piv i' q v hi hv
      refine ⟨by omega, by rw [low i' r v i' hv hm q p1]; exact p2, fun m hm' => by rw [low i' r v i' hv hm m (by omega)]; exact p3 m hm'⟩
    · rw [hln] at hr2
      cases hr2
      exact ⟨by omega, hl1, hlz⟩
  · rw [hPl] at hi
    obtain ⟨v, i', hv, _, e2, hm⟩ := src i r (by omega) hr2
    by_cases e : j = c
    · subst e; exact atc r v i' hv hm
    · rw [low i r v i' hv hm j (by omega)]
      exact h.zero i' v (e2 (by omega)) hv j (by omega)
  · rcases split1 hi with ⟨hl, hi⟩ | ⟨rfl, rfl⟩
    · have hqc : q < c := by
        obtain ⟨v, hv⟩ : ∃ v, E[i]? = some v := ⟨E[i]'(by have := h.le; omega), List.getElem?_eq_getElem (by have := h.le; omega)⟩
        exact (h.piv i q v hi hv).1
      by_cases e : j = P.length
      · subst e; rw [hln] at hr2; cases hr2; exact hlz q hqc
      · obtain ⟨v, i', hv, e1, e2, hm⟩ := src j r e hr2
        rw [low j r v i' hv hm q hqc]
        refine h.red i q i' v hi (fun e' => ?_) hv
        rcases Nat.lt_or_ge j P.length with hjl | hjl
        · exact hj (by rw [← e1 hjl]; exact e')
        · have := e2 (by omega); omega
    · obtain ⟨v, i', hv, _, _, hm⟩ := src j r hj hr2
      exact atc r v i' hv hm
end Go.Proofs.YtijmkfnmdhpakaaGreat.Pl
/- How many solutions linear equations have, in plain Lean. Each holds under its own conditions. -/
set_option linter.unusedVariables false
set_option linter.unusedSimpArgs false
namespace Go.Proofs.YtijmkfnmdhpakaaGreat.Pl
theorem ech_shape {p : Int} {K : Nat} {L : List (List Int)} (hf : Fer p) (h : Rect p K L) : ∀ c, Ech p K c (ech p L c).1 (ech p L c).2
  | 0 => ⟨h, by simp [ech], fun i q r hi => by simp [ech] at hi, fun i r _ _ j hj => absurd hj (Nat.not_lt_zero _), fun i q j r hi => by simp [ech] at hi⟩
  | c + 1 => by
    have ih := ech_shape hf h c
    have hp : 0 < p := by have := hf.1; omega
    simp only [ech]
    split
    · rename_i hr
      exact ih.none_ hr
    · rename_i L' hr
      exact ih.some_ hf hr (rnd_ok hp ih.rect ih.le hr).1
theorem ech_sat {p : Int} {k : Nat} {L : List (List Int)} (hf : Fer p) (h : Rect p (k + 1) L) {x : List Int} : ∀ c, AllS p k (ech p L c).1 x ↔ AllS p k L x
  | 0 => Iff.rfl
  | c + 1 => by
    have ih := ech_sat hf h (x := x) c
    have sh := ech_shape hf h c
    simp only [ech]
    split
    · exact ih
    · rename_i L' hr
      exact (rnd_sat hf sh.rect sh.le hr).trans ih
/-- How many columns before c are no pivots. -/
def fr (P : List Nat) : Nat → Nat
  | 0 => 0
  | c + 1 => fr P c + if c ∈ P then 0 else 1
end Go.Proofs.YtijmkfnmdhpakaaGreat.Pl
/- Solutions of linear equations, counted by the echelon, and by numbers; in plain Lean. Each holds under its own conditions. -/
set_option linter.unusedVariables false
set_option linter.unusedSimpArgs false
namespace Go.Proofs.YtijmkfnmdhpakaaGreat.Pl
theorem dF_zero {r : List Int} : ∀ (t : List Int) (c : Nat), (∀ j, c ≤ j → j < c + t.length → r.getD j 0 = 0) → dF r c t = 0
  | [], _, _ => rfl
  | a :: t, c, h => by
    simp only [dF]
    rw [h c (Nat.le_refl _) (by simp), dF_zero t (c + 1) (fun j h1 h2 => h j (by omega) (by simp only [List.length_cons]; omega))]
    omega
/-- No row behind the pivots has a value. -/
def Solv (p : Int) (k : Nat) (W : List (List Int)) : Prop := ∀ (i : Nat) r, (ech p W k).2.length ≤ i → (ech p W k).1[i]? = some r → r.getD k 0 = 0
theorem solv_iff {p : Int} {k : Nat} {W : List (List Int)} (hf : Fer p) (hW : Rect p (k + 1) W) : Solv p k W ↔ k ∉ (ech p W (k + 1)).2 := by
  have sh := ech_shape hf hW k
  have hnc : k ∉ (ech p W k).2 := fun hm => by
    obtain ⟨i, hi⟩ := List.getElem?_of_mem hm
    have hil := (List.getElem?_eq_some_iff.1 hi).1
    have := (sh.piv i k _ hi (List.getElem?_eq_getElem (by have := sh.le; omega))).1
    omega
  unfold Solv
  simp only [ech]
  split
  · rename_i hr
    refine ⟨fun _ => hnc, fun _ i r hi he => ?_⟩
    have := (sh.none_ hr).zero i r hi he k (by omega)
    exact this
  · rename_i L' hr
    obtain ⟨a, u, w, b, h1, h2, hu, hw, hw0, _⟩ := rnd_rows hf sh.rect sh.le hr
    refine ⟨fun h => absurd (h a w h1 hw) hw0, fun h => absurd (by simp) h⟩
end Go.Proofs.YtijmkfnmdhpakaaGreat.Pl
/- Contracts: codes of schemes, groups and held shares; products of equal factors. Each holds under its own conditions. -/
set_option linter.unusedVariables false
set_option linter.unusedSimpArgs false
set_option maxRecDepth 20000
namespace Go.Proofs.YtijmkfnmdhpakaaGreat.Am
open Go Go.RowKit Go.Proofs Go.Proofs.YtijmkfnmdhpakaaGreat.Pl
/-- The code of a scheme and a group. -/
noncomputable def codeS (x : T_Scheme) (g : List Int) : Int := if tv (SchOk x) = true then (if tv (Rises 0 (x.1 - 1) g) = true then 0 else 2) else 1
noncomputable def rowsG (ow : List Int) (g : List Int) : List Int := rowsP (fun i => (bitsOf g).testBit (ow.getD i 0).toNat) ow.length
/-- .. and of held shares. -/
noncomputable def codeH (x : T_Scheme) (g held : List Int) : Int := if codeS x g = 0 then (if tv (held.length = (rowsG x.2.1 g).length ∧ Elems x.2.2.1 held) = true then 0 else 2) else codeS x g
theorem codeS_ok {x : T_Scheme} {g : List Int} (h : codeS x g = 0) : SchOk x ∧ Rises 0 (x.1 - 1) g := by
  unfold codeS at h
  split at h
  · rename_i h1
    split at h
    · rename_i h2; exact ⟨tv_iff.1 h1, tv_iff.1 h2⟩
    · cases h
  · cases h
theorem codeH_ok {x : T_Scheme} {g held : List Int} (h : codeH x g held = 0) : SchOk x ∧ Rises 0 (x.1 - 1) g ∧ held.length = (rowsG x.2.1 g).length ∧ Elems x.2.2.1 held := by
  unfold codeH at h
  split at h
  · rename_i h1
    split at h
    · rename_i h2
      exact ⟨(codeS_ok h1).1, (codeS_ok h1).2, (tv_iff.1 h2).1, (tv_iff.1 h2).2⟩
    · cases h
  · rename_i h1; exact absurd h h1
theorem rises_small {q : Nat} {g : List Int} (h : Rises 0 ((q : Int) - 1) g) : ∀ x ∈ g, 0 ≤ x ∧ x < (q : Int) := fun x hx => by have := rises_mem h x hx; omega
theorem group_bits {q : Nat} {g : List Int} (h : Rises 0 ((q : Int) - 1) g) {y : Int} (h0 : 0 ≤ y) (h1 : y < q) : decide (y ∈ g) = (bitsOf g).testBit y.toNat := by
  rw [← hold_has h0 h1, hold_bits q h]
theorem rowsG_spec {h p c : Int} {ow g : List Int} {rows : List (List Int)} (hk : OkSch h ow p c rows) (hg : Rises 0 (h - 1) g) : rowsP (fun i => decide (ow.getD i 0 ∈ g)) ow.length = rowsG ow g := by
  obtain ⟨q, rfl⟩ : ∃ q : Nat, h = q := ⟨h.toNat, by have := hk.h1; omega⟩
  unfold rowsG
  refine rowsP_congr fun i hi => ?_
  have hm := hk.own (ow.getD i 0) (by rw [List.getD_eq_getElem?_getD, List.getElem?_eq_getElem hi]; exact List.getElem_mem hi)
  exact group_bits hg hm.1 (by omega)
section
variable {S : Ids} {H0 : AH}
theorem schemeCode (x : T_Scheme) (g : List Int) {a1 c1 a2 c2 a3 c3} (hB : B_Scheme x) (hG : B_Int64S g) (h1 : KI.Sl S H0 (.slice a1 x.2.1.length c1) x.2.1) (h2 : KI.sl.Sl S H0 (.slice a2 x.2.2.2.2.length c2) x.2.2.2.2) (h3 : KI.Sl S H0 (.slice a3 g.length c3) g) :
    Spec Tryz.prog S H0 149 [.agg #[.int .i64 x.1, .slice a1 x.2.1.length c1, .int .i64 x.2.2.1, .int .i64 x.2.2.2.1, .slice a2 x.2.2.2.2.length c2], .slice a3 g.length c3] (fun v => v = .int .i64 (codeS x g)) := by
  refine Spec.of1 Tryz.func149 rfl (by kernel_rfl) rfl (fun H _ => ?_)
  have hG' : g.length ≤ 1048576 := hG
  refine KW.callE rfl rfl rfl rfl rfl (validScheme x.1 x.2.2.1 x.2.2.2.1 hB.2.2.1 hB.2.1 hB.2.2.2.2 h1.up h2.up) (fun _ _ => ?_)
  by_cases hk : SchOk x
  · rw [show tv (OkSch x.1 x.2.1 x.2.2.1 x.2.2.2.1 x.2.2.2.2) = true from tv_true hk]
    refine KW.cF rfl rfl (by first | (simp; done) | decide) ?_
    refine KW.callE rfl rfl rfl rfl rfl (isGroup x.1 (by omega) (by have := hk.h1; have := hk.h7; omega) h3.up) (fun _ _ => ?_)
    by_cases hg : Rises 0 (x.1 - 1) g
    · rw [tv_true hg]
      refine KW.cF rfl rfl (by first | (simp; done) | decide) ?_
      exact KW.ret rfl rfl rfl rfl (by unfold codeS; rw [if_pos (tv_true hk), if_pos (tv_true hg)]; rfl)
    · rw [tv_false hg]
      refine KW.cT rfl rfl (by first | (simp; done) | decide) ?_
      exact KW.ret rfl rfl rfl rfl (by unfold codeS; rw [if_pos (tv_true hk), if_neg (by rw [tv_false hg]; decide)]; rfl)
  · rw [show tv (OkSch x.1 x.2.1 x.2.2.1 x.2.2.2.1 x.2.2.2.2) = false from tv_false hk]
    refine KW.cT rfl rfl (by first | (simp; done) | decide) ?_
    exact KW.ret rfl rfl rfl rfl (by unfold codeS; rw [if_neg (by rw [tv_false hk]; decide)]; rfl)
theorem l04Asked (x : T_Scheme) (g : List Int) {id k : Nat} {a1 c1 a2 c2 a3 c3} (hB : B_Scheme x) (hG : B_Int64S g) (hv : Has3 S H0 id k [.int .i64 x.1, .slice a1 x.2.1.length c1, .int .i64 x.2.2.1, .int .i64 x.2.2.2.1, .slice a2 x.2.2.2.2.length c2]) (h1 : KI.Sl S H0 (.slice a1 x.2.1.length c1) x.2.1) (h2 : KI.sl.Sl S H0 (.slice a2 x.2.2.2.2.length c2) x.2.2.2.2) (h3 : KI.Sl S H0 (.slice a3 g.length c3) g) :
    Spec Tryz.prog S H0 145 [.pointer (some ⟨id, k, none⟩), .slice a3 g.length c3] (fun v => v = .int .i64 (codeS x g)) := by
  refine Spec.of1 Tryz.func145 rfl (by kernel_rfl) rfl (fun H _ => ?_)
  have hv := hv.up (S' := Low H.n) (H' := H)
  have hG' : g.length ≤ 1048576 := hG
  refine KW.callE rfl rfl rfl rfl rfl (l04Ok x.1 x.2.2.1 x.2.2.2.1 hB.2.2.1 hB.2.1 hB.2.2.2.2 hv h1.up h2.up) (fun _ _ => ?_)
  by_cases hk : SchOk x
  · rw [show tv (OkSch x.1 x.2.1 x.2.2.1 x.2.2.2.1 x.2.2.2.2) = true from tv_true hk]
    refine KW.cF rfl rfl (by first | (simp; done) | decide) ?_
    refine KW.ldF 0 hv rfl rfl rfl rfl rfl rfl rfl rfl rfl ?_
    refine KW.callE rfl rfl rfl rfl rfl (l01Group x.1 hG (by have := hk.h1; have := hk.h7; omega) h3.up) (fun _ _ => ?_)
    by_cases hg : Rises 0 (x.1 - 1) g
    · rw [tv_true hg]
      refine KW.cF rfl rfl (by first | (simp; done) | decide) ?_
      exact KW.ret rfl rfl rfl rfl (by unfold codeS; rw [if_pos (tv_true hk), if_pos (tv_true hg)]; rfl)
    · rw [tv_false hg]
      refine KW.cT rfl rfl (by first | (simp; done) | decide) ?_
      exact KW.ret rfl rfl rfl rfl (by unfold codeS; rw [if_pos (tv_true hk), if_neg (by rw [tv_false hg]; decide)]; rfl)
  · rw [show tv (OkSch x.1 x.2.1 x.2.2.1 x.2.2.2.1 x.2.2.2.2) = false from tv_false hk]
    refine KW.cT rfl rfl (by first | (simp; done) | decide) ?_
    exact KW.ret rfl rfl rfl rfl (by unfold codeS; rw [if_neg (by rw [tv_false hk]; decide)]; rfl)
theorem heldCode (x : T_Scheme) (g held : List Int) {a1 c1 a2 c2 a3 c3 a4 c4} (hB : B_Scheme x) (hG : B_Int64S g) (hH : B_Int64S held) (h1 : KI.Sl S H0 (.slice a1 x.2.1.length c1) x.2.1) (h2 : KI.sl.Sl S H0 (.slice a2 x.2.2.2.2.length c2) x.2.2.2.2) (h3 : KI.Sl S H0 (.slice a3 g.length c3) g) (h4 : KI.Sl S H0 (.slice a4 held.length c4) held) :
    Spec Tryz.prog S H0 128 [.agg #[.int .i64 x.1, .slice a1 x.2.1.length c1, .int .i64 x.2.2.1, .int .i64 x.2.2.2.1, .slice a2 x.2.2.2.2.length c2], .slice a3 g.length c3, .slice a4 held.length c4] (fun v => v = .int .i64 (codeH x g held)) := by
  refine Spec.of1 Tryz.func128 rfl (by kernel_rfl) rfl (fun H _ => ?_)
  have hG' : g.length ≤ 1048576 := hG
  have hH' : held.length ≤ 1048576 := hH
  refine KW.callE rfl rfl rfl rfl rfl (schemeCode x g hB hG h1.up h2.up h3.up) (fun _ _ => ?_)
  by_cases hs : codeS x g = 0
  · obtain ⟨hk, hg⟩ := codeS_ok hs
    have hk' : OkSch x.1 x.2.1 x.2.2.1 x.2.2.2.1 x.2.2.2.2 := hk
    obtain ⟨q, hq⟩ : ∃ q : Nat, x.1 = q := ⟨x.1.toNat, by have := hk'.h1; omega⟩
    have hq7 := hk'.h7
    rw [hq] at hg
    have hgs := rises_small hg
    have hbt : bitsOf g < 256 := Nat.lt_of_lt_of_le (bitsOf_lt (m := q) (fun x hx => by have := hgs x hx; omega)) (Nat.pow_le_pow_right (by decide) (show q ≤ 8 by omega))
    rw [hs]
    refine KW.tT rfl rfl (by first | (simp; done) | decide) ?_
    refine KW.callE rfl rfl rfl rfl rfl (crowdOf (m := q) (by omega) (by omega) hgs h3.up) (fun _ _ => ?_)
    refine KW.callN1 rfl rfl rfl rfl rfl (rowsHeld x.1 x.2.2.1 x.2.2.2.1 (bitsOf g) (by omega) hB.2.1 hk'.own hk'.h7 h1.up) (fun v HR SR mR _ _ hv => ?_)
    obtain ⟨a5, c5, rfl, hR⟩ := hv
    rw [show rowsP (fun i => (bitsOf g).testBit (x.2.1.getD i 0).toNat) x.2.1.length = rowsG x.2.1 g from rfl]
    by_cases hl : held.length = (rowsG x.2.1 g).length
    · refine KW.tF rfl rfl (by simp [hl]) ?_
      refine KW.callE rfl rfl rfl rfl rfl (areElements x.2.2.1 hB.2.2.1 (by omega) h4.up) (fun _ _ => ?_)
      by_cases he : Elems x.2.2.1 held
      · rw [tv_true (p := PrimeP x.2.2.1 ∧ Elems x.2.2.1 held) ⟨hk'.mat.pr, he⟩]
        refine KW.cF rfl rfl (by first | (simp; done) | decide) ?_
        refine KW.retM1 rfl rfl rfl rfl (fun H1 g => by unfold codeH; rw [if_pos hs, if_pos (tv_true ⟨hl, he⟩)]; rfl)
      · rw [tv_false (p := PrimeP x.2.2.1 ∧ Elems x.2.2.1 held) (fun hc => he hc.2)]
        refine KW.cT rfl rfl (by first | (simp; done) | decide) ?_
        refine KW.retM1 rfl rfl rfl rfl (fun H1 g => by unfold codeH; rw [if_pos hs, if_neg (by rw [tv_false (fun hc => he hc.2)]; decide)]; rfl)
    · refine KW.tT rfl rfl (by simp; omega) ?_
      refine KW.cT rfl rfl (by first | (simp; done) | decide) ?_
      refine KW.retM1 rfl rfl rfl rfl (fun H1 g => by unfold codeH; rw [if_pos hs, if_neg (by rw [tv_false (fun hc => hl hc.1)]; decide)]; rfl)
  · refine KW.tF rfl rfl (by simpa using hs) ?_
    refine KW.cF rfl rfl (by first | (simp; done) | decide) ?_
    exact KW.ret rfl rfl rfl rfl (by unfold codeH; rw [if_neg hs]; rfl)
theorem l04With (x : T_Scheme) (g held : List Int) {id k : Nat} {a1 c1 a2 c2 a3 c3 a4 c4} (hB : B_Scheme x) (hG : B_Int64S g) (hH : B_Int64S held) (hv : Has3 S H0 id k [.int .i64 x.1, .slice a1 x.2.1.length c1, .int .i64 x.2.2.1, .int .i64 x.2.2.2.1, .slice a2 x.2.2.2.2.length c2]) (h1 : KI.Sl S H0 (.slice a1 x.2.1.length c1) x.2.1) (h2 : KI.sl.Sl S H0 (.slice a2 x.2.2.2.2.length c2) x.2.2.2.2) (h3 : KI.Sl S H0 (.slice a3 g.length c3) g) (h4 : KI.Sl S H0 (.slice a4 held.length c4) held) :
    Spec Tryz.prog S H0 121 [.pointer (some ⟨id, k, none⟩), .slice a3 g.length c3, .slice a4 held.length c4] (fun v => v = .int .i64 (codeH x g held)) := by
  refine Spec.of1 Tryz.func121 rfl (by kernel_rfl) rfl (fun H _ => ?_)
  have hv := hv.up (S' := Low H.n) (H' := H)
  have hG' : g.length ≤ 1048576 := hG
  have hH' : held.length ≤ 1048576 := hH
  refine KW.callE rfl rfl rfl rfl rfl (l04Asked x g hB hG hv h1.up h2.up h3.up) (fun _ _ => ?_)
  by_cases hs : codeS x g = 0
  · obtain ⟨hk, hg⟩ := codeS_ok hs
    have hk' : OkSch x.1 x.2.1 x.2.2.1 x.2.2.2.1 x.2.2.2.2 := hk
    have hrg := rowsG_spec hk' hg
    have hpr := hk'.mat.pr
    rw [hs]
    refine KW.tT rfl rfl (by first | (simp; done) | decide) ?_
    refine KW.ldF 2 hv rfl rfl rfl rfl rfl rfl rfl rfl rfl ?_
    refine KW.callN1 rfl rfl rfl rfl rfl (l04Held x.1 x.2.2.1 x.2.2.2.1 hB.2.1 hG' hv.up h1.up h3.up) (fun v HR SR mR _ _ hv => ?_)
    obtain ⟨a5, c5, rfl, hR⟩ := hv
    rw [hrg]
    refine KW.callE rfl rfl rfl rfl rfl (l03Row x.2.2.1 (rowsG x.2.1 g).length (by unfold I64; have := hpr.1; have := hpr.2.1; omega) hH h4.up) (fun _ _ => ?_)
    by_cases hl : held.length = (rowsG x.2.1 g).length ∧ Elems x.2.2.1 held
    · rw [show tv ((held.length : Int) = ((rowsG x.2.1 g).length : Nat) ∧ Elems x.2.2.1 held) = true from tv_true ⟨by omega, hl.2⟩]
      refine KW.cF rfl rfl (by first | (simp; done) | decide) ?_
      refine KW.retM1 rfl rfl rfl rfl (fun H1 g => by unfold codeH; rw [if_pos hs, if_pos (tv_true hl)]; rfl)
    · rw [show tv ((held.length : Int) = ((rowsG x.2.1 g).length : Nat) ∧ Elems x.2.2.1 held) = false from tv_false (fun hc => hl ⟨by omega, hc.2⟩)]
      refine KW.cT rfl rfl (by first | (simp; done) | decide) ?_
      refine KW.retM1 rfl rfl rfl rfl (fun H1 g => by unfold codeH; rw [if_pos hs, if_neg (by rw [tv_false hl]; decide)]; rfl)
  · refine KW.tF rfl rfl (by simpa using hs) ?_
    refine KW.cF rfl rfl (by first | (simp; done) | decide) ?_
    exact KW.ret rfl rfl rfl rfl (by unfold codeH; rw [if_neg hs]; rfl)
end
end Go.Proofs.YtijmkfnmdhpakaaGreat.Am
/- What the opener holds, laid out row by row; in plain Lean. Each holds under its own conditions. -/
set_option linter.unusedVariables false
set_option linter.unusedSimpArgs false
set_option maxRecDepth 20000
namespace Go.Proofs.YtijmkfnmdhpakaaGreat.Am
open Go Go.RowKit Go.Proofs
theorem markF_mem : ∀ (l : List Bool) (i x : Int), x ∈ markF l i ↔ i ≤ x ∧ l.getD (x - i).toNat false = true
  | [], i, x => by simp [markF]
  | b :: l, i, x => by
    have ih := markF_mem l (i + 1) x
    have key : (i ≤ x ∧ (b :: l).getD (x - i).toNat false = true) ↔ (x = i ∧ b = true) ∨ (i + 1 ≤ x ∧ l.getD (x - (i + 1)).toNat false = true) := by
      rcases Int.lt_trichotomy x i with h | h | h
      · constructor
        · rintro ⟨h1, _⟩; omega
        · rintro (⟨h1, _⟩ | ⟨h1, _⟩) <;> omega
      · subst h
        simp only [Int.sub_self, Int.toNat_zero, List.getD_cons_zero, Int.le_refl, true_and]
        constructor
        · exact .inl
        · rintro (h | ⟨h, _⟩)
          · exact h
          · omega
      · have e : (x - i).toNat = (x - (i + 1)).toNat + 1 := by omega
        rw [e, List.getD_cons_succ]
        constructor
        · rintro ⟨_, h2⟩; exact .inr ⟨by omega, h2⟩
        · rintro (⟨h1, _⟩ | ⟨_, h2⟩)
          · omega
          · exact ⟨by omega, h2⟩
    rw [key, ← ih, show markF (b :: l) i = if b = true then i :: markF l (i + 1) else markF l (i + 1) from rfl]
    split
    · rename_i hb
      rw [List.mem_cons]
      simp [hb]
    · rename_i hb
      constructor
      · exact .inr
      · rintro (⟨_, h⟩ | h)
        · exact absurd h hb
        · exact h
theorem markF_rises : ∀ (l : List Bool) (lo hi : Int), lo + l.length ≤ hi + 1 → Rises lo hi (markF l lo)
  | [], lo, hi, _ => by simp [markF, Rises]
  | b :: l, lo, hi, h => by
    simp only [List.length_cons] at h
    have ih := markF_rises l (lo + 1) hi (by omega)
    rw [show markF (b :: l) lo = if b = true then lo :: markF l (lo + 1) else markF l (lo + 1) from rfl]
    split
    · intro i hi'
      cases i with
      | zero => exact ⟨⟨Int.le_refl _, by show lo ≤ hi; omega⟩, fun h => absurd h (Nat.lt_irrefl 0)⟩
      | succ i =>
        have h1 := ih i (by simpa using hi')
        refine ⟨⟨by have := h1.1.1; simp only [List.getD_cons_succ]; omega, by have := h1.1.2; simp only [List.getD_cons_succ]; omega⟩, fun _ => ?_⟩
        cases i with
        | zero => have := h1.1.1; simp only [List.getD_cons_succ, Nat.add_sub_cancel, Nat.zero_add, Nat.sub_self, List.getD_cons_zero]; omega
        | succ i =>
          have := h1.2 (Nat.succ_pos i)
          simpa using this
    · intro i hi'
      have h1 := ih i hi'
      exact ⟨⟨by have := h1.1.1; omega, h1.1.2⟩, h1.2⟩
theorem rows20 {x : T_Deal} (hd : DealOk x) (j : Int) : (rowsOf x.1.2.1 j).length ≤ 20 := by
  have h1 := rowsOf_len x.1.2.1 j
  have h2 := hd.sch.len
  have h3 := hd.sch.mat.len
  omega
/-- A step: the row's holder, its next value. -/
def opS (ow : List Int) (got : List (List Int)) (s : List Int × List Int) (i : Int) : List Int × List Int :=
  (s.1.set (ow.getD i.toNat 0).toNat (s.1.getD (ow.getD i.toNat 0).toNat 0 + 1), s.2 ++ [(got.getD (ow.getD i.toNat 0).toNat []).getD (s.1.getD (ow.getD i.toNat 0).toNat 0).toNat 0])
def opR (ow : List Int) (got : List (List Int)) (n : Nat) (rs : List Int) : List Int × List Int := rs.foldl (opS ow got) (List.replicate n 0, [])
theorem opR_snoc {ow : List Int} {got : List (List Int)} {n : Nat} {rs : List Int} {i : Int} : opR ow got n (rs ++ [i]) = opS ow got (opR ow got n rs) i := by simp [opR]
def ownC (ow : List Int) (h : Nat) (rs : List Int) : Nat := rs.countP fun i => decide ((ow.getD i.toNat 0).toNat = h)
theorem opR_ok {ow : List Int} {got : List (List Int)} {n : Nat} (hn : ∀ i, (ow.getD i 0).toNat < n) (rs : List Int) : (opR ow got n rs).1.length = n ∧ (opR ow got n rs).2.length = rs.length ∧ ∀ h, h < n → (opR ow got n rs).1.getD h 0 = (ownC ow h rs : Nat) := by
  suffices hs : ∀ (l : List Int), (opR ow got n l.reverse).1.length = n ∧ (opR ow got n l.reverse).2.length = l.reverse.length ∧ ∀ h, h < n → (opR ow got n l.reverse).1.getD h 0 = (ownC ow h l.reverse : Nat) by
    have := hs rs.reverse
    rwa [List.reverse_reverse] at this
  intro l
  induction l with
  | nil =>
    refine ⟨by simp [opR], by simp [opR], fun h hh => ?_⟩
    simp [opR, ownC, List.getD_eq_getElem?_getD, List.getElem?_replicate, hh]
  | cons i l ih =>
    obtain ⟨h1, h2, h3⟩ := ih
    rw [List.reverse_cons, opR_snoc]
    refine ⟨by simp [opS, h1], by simp [opS, h2], fun h hh => ?_⟩
    have h4 := hn i.toNat
    simp only [opS, ownC, List.countP_append, List.countP_cons, List.countP_nil] at h3 ⊢
    rw [List.getD_eq_getElem?_getD, List.getElem?_set]
    split
    · rename_i e
      rw [if_pos (by omega), h3 _ h4]
      subst e
      simp [ownC]
    · rename_i e
      have := h3 h hh
      rw [List.getD_eq_getElem?_getD] at this
      rw [this]
      rw [show (if decide ((ow.getD i.toNat 0).toNat = h) = true then 1 else 0) = 0 from if_neg (by simpa using e)]
      simp [ownC]
theorem rowsP_count {ow : List Int} {q : Nat → Bool} {n h : Nat} (how : ∀ i, 0 ≤ ow.getD i 0) : ownC ow h (rowsP q n) ≤ (rowsP (fun i => decide (ow.getD i 0 = (h : Int))) n).length := by
  unfold ownC rowsP
  rw [List.countP_map, List.length_map, ← List.countP_eq_length_filter, List.countP_filter]
  refine List.countP_mono_left fun i _ hi => ?_
  have hi : decide ((ow.getD ((i : Nat) : Int).toNat 0).toNat = h) = true ∧ q i = true := by simpa using hi
  have h1 := of_decide_eq_true hi.1
  rw [Int.toNat_natCast] at h1
  have := how i
  exact decide_eq_true (by omega)
/-- The next value is there. -/
theorem own_lt {ow : List Int} {q : Nat → Bool} {n a : Nat} {x : Int} (how : ∀ i, 0 ≤ ow.getD i 0) (hx : (rowsP q n)[a]? = some x) : ownC ow (ow.getD x.toNat 0).toNat ((rowsP q n).take a) < (rowsP (fun i => decide (ow.getD i 0 = ((ow.getD x.toNat 0).toNat : Int))) n).length := by
  refine Nat.lt_of_lt_of_le ?_ (rowsP_count (q := q) how)
  have ha := (List.getElem?_eq_some_iff.1 hx).1
  have h1 : (rowsP q n).take (a + 1) = (rowsP q n).take a ++ [x] := by rw [List.take_add_one, hx]; rfl
  have h2 : ownC ow (ow.getD x.toNat 0).toNat ((rowsP q n).take (a + 1)) = ownC ow (ow.getD x.toNat 0).toNat ((rowsP q n).take a) + 1 := by
    rw [h1]
    unfold ownC
    rw [List.countP_append, List.countP_cons, List.countP_nil]
    simp
  have h3 : ownC ow (ow.getD x.toNat 0).toNat ((rowsP q n).take (a + 1)) ≤ ownC ow (ow.getD x.toNat 0).toNat (rowsP q n) := List.Sublist.countP_le (List.take_sublist _ _)
  omega
/-- The opener's group, and what it holds. -/
noncomputable def opG (c : Cer) : List Int := markF c.has 0
noncomputable def opH (x : T_Deal) (c : Cer) : List Int := (opR x.1.2.1 c.got x.1.1.toNat (rowsG x.1.2.1 (opG c))).2
theorem opG_bits {x : T_Deal} {c : Cer} (h : CerOk x c) (h7 : x.1.1 ≤ 7) {j : Nat} (hj : (j : Int) < x.1.1) : (bitsOf (opG c)).testBit j = c.has.getD j false := by
  have hl := h.hl
  have hs := h.sl
  obtain ⟨q, hq⟩ : ∃ q : Nat, x.1.1 = q := ⟨x.1.1.toNat, by omega⟩
  have hr : Rises 0 ((q : Int) - 1) (opG c) := markF_rises c.has 0 _ (by omega)
  have := group_bits hr (y := (j : Int)) (by omega) (by omega)
  rw [Int.toNat_natCast] at this
  rw [← this]
  have hm := markF_mem c.has 0 (j : Int)
  rw [Int.sub_zero, Int.toNat_natCast] at hm
  show decide ((j : Int) ∈ markF c.has 0) = _
  cases hb : c.has.getD j false with
  | true => rw [hb] at hm; exact decide_eq_true (hm.2 ⟨by omega, rfl⟩)
  | false => rw [hb] at hm; exact decide_eq_false (fun h => by have := (hm.1 h).2; cases this)
end Go.Proofs.YtijmkfnmdhpakaaGreat.Am
