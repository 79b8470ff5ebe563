/- Contracts and laws on abstract memory, merged. Each holds under its own conditions. -/
import Derived.Test.YtijmkfnmdhpakaaGreatPGatherDeeds03
/- Contract: the program's ceremony: a deed is done. Each holds under its own conditions. -/
set_option linter.unusedVariables false
set_option linter.unusedSimpArgs false
set_option maxRecDepth 20000
namespace Go.Proofs.YtijmkfnmdhpakaaGreat.Am
open Go Go.RowKit Go.Proofs
theorem built_Packet4 (a b : Int) (o1 o2 : Option Addr) (n1 c1 n2 c2 : Nat) : Tryz.prog.built 126 [(1, .int .i64 a), (2, .int .i64 b), (3, .slice o1 n1 c1), (4, .slice o2 n2 c2)] = some #[.bool false, .int .i64 a, .int .i64 b, .slice o1 n1 c1, .slice o2 n2 c2] := by kernel_rfl
theorem built_Packet5 (t : Bool) (a b : Int) (o1 o2 : Option Addr) (n1 c1 n2 c2 : Nat) : Tryz.prog.built 126 [(0, .bool t), (1, .int .i64 a), (2, .int .i64 b), (3, .slice o1 n1 c1), (4, .slice o2 n2 c2)] = some #[.bool t, .int .i64 a, .int .i64 b, .slice o1 n1 c1, .slice o2 n2 c2] := by kernel_rfl
section
variable {S : Ids} {H0 : AH} {X D : Ids} {d : HD} {c : Cer} {dcs : List Value} {x : T_Deal}
theorem implIsHolder (hB : B_Deal x) (hI : I64 x.1.1) (a : Int) {id : Nat} {ep oe : Int} {v1 v3 v4 v5 v6 : Value} (h : Has3 S H0 id 0 ([.int .i64 ep, v1, .int .i64 oe, v3, v4, v5, v6] ++ dcs)) (hD : K_Deal.R D H0 x dcs) : Spec Tryz.prog S H0 115 [.pointer (some ⟨id, 0, none⟩), .int .i64 a] (fun v => v = .bool (decide (0 ≤ a ∧ a ≤ IntKind.i64.wrap (x.1.1 - 1)))) := by
  obtain ⟨d1, d2, d3, d4, d5, d6, d7, d8, rfl⟩ := form_Deal hD
  refine Spec.of1 Tryz.func115 rfl (by kernel_rfl) rfl (fun H _ => ?_)
  have h := h.up (S' := Low H.n) (H' := H)
  refine KW.ldF 7 h rfl rfl rfl rfl rfl rfl rfl rfl rfl ?_
  refine KW.callE rfl rfl rfl rfl rfl (within _ _ _) (fun _ _ => ?_)
  exact KW.ret rfl rfl rfl rfl (rfl)
theorem implDo9 {A B : Int} (hd : DealOk x) (hB : B_Deal x) (hok : CerOk x c) (h : Hl HTI [] dcs S H0 X d c) (hD : K_Deal.R D H0 x dcs) (hDD : ∀ id, D id → S id ∧ ¬ d.W id)  :
    SpecW Tryz.prog S H0 d.W 77 [.pointer (some ⟨d.hid, 0, none⟩), .agg [.int .i64 9, .int .i64 A, .int .i64 B].toArray] (HlRes HTI [] dcs X d (doIt x c (9, A, B))) := by
  obtain ⟨d1, d2, d3, d4, d5, d6, d7, d8, rfl⟩ := form_Deal hD
  refine SpecW.of0 Tryz.func77 rfl (by kernel_rfl) rfl (fun H hfin hfz => ?_)
  haveI o : On S H0 (Low H.n) H := ⟨fun id hs => ⟨(hfz id hs).1, (hfz id hs).2⟩⟩
  have h := h.on (S' := Low H.n) (A' := H)
  have hD : K_Deal.R D H x _ := K_Deal.same (fun id hid => (hfz id (hDD id hid).1).2) hD
  have hDD : ∀ id, D id → id < H.n ∧ ¬ d.W id := fun id hid => ⟨(hfz id (hDD id hid).1).1, (hDD id hid).2⟩
  obtain ⟨hid, sid, gid, bid, nid, w⟩ := d
  have hc := h.cellsH
  have hh := h.hall
  have hsl := hok.sl
  have h7 := hd.sch.h7
  have h1h := hd.sch.h1
  have hbl := hd.bl
  have hp2 := hd.prime.1
  have hp31 := hd.prime.2.1
  have hep := hok.ep
  have Lc : ∀ id, id < H.n → Low H.n id ∧ H.m id = H.m id := fun id p => ⟨p, rfl⟩
  have e : doIt x c (9, A, B) = if c.ep + 1 = (x.2.2.1.length : Int) then (c, 3) else (⟨c.ep + 1, c.seats, c.oe, c.got, c.has, c.named, c.wire⟩, 0) := rfl
  have ew : IntKind.i64.wrap (c.ep + 1) = c.ep + 1 := wr (by have := hep.1; omega) (by have := hep.2; omega)
  refine KW.cF rfl rfl (by first | (simp; done) | decide) ?_
  refine KW.cF rfl rfl (by first | (simp; done) | decide) ?_
  refine KW.cF rfl rfl (by first | (simp; done) | decide) ?_
  refine KW.cT rfl rfl (by first | (simp; done) | decide) ?_
  refine KW.ldF 0 hc rfl rfl rfl rfl rfl rfl rfl rfl rfl ?_
  refine KW.ldF 13 hc rfl rfl rfl rfl rfl rfl rfl rfl rfl ?_
  refine KW.cnd rfl rfl (fun k1 => ?_) (fun k1 => ?_)
  · have k1 : IntKind.i64.wrap (c.ep + 1) = (x.2.2.1.length : Int) := k1
    rw [ew] at k1
    rw [e, if_pos k1]
    exact KW.retW rfl rfl rfl rfl (fun H1 g => by have := g.n_; omega) (fun id hid _ => ⟨hid, rfl⟩) (fun H1 g => ⟨rfl, HlPost.same h (fun id p => p) (fun id hid => (g.froz id hid).2)⟩)
  · have k1 : ¬ IntKind.i64.wrap (c.ep + 1) = (x.2.2.1.length : Int) := k1
    rw [ew] at k1
    rw [e, if_neg k1]
    refine KW.thaw hid _ hh.1 hh.2 ?_
    refine KW.ldT 1 rfl rfl rfl rfl rfl rfl rfl ?_
    refine KW.st1 1 rfl rfl rfl rfl rfl rfl rfl rfl rfl rfl rfl rfl (by show 0 < ([_, _, _, _, _, _, _] ++ _).length; simp) ?_
    refine KW.retW rfl rfl rfl rfl (fun H1 g => by have := g.n_; omega) (fun id hid hw => ⟨⟨hid, fun e => hw (by rw [e]; exact HD.Win.1)⟩, rfl⟩) (fun H1 g => ⟨rfl, ?_⟩)
    refine h.reHall ⟨rfl, rfl, rfl, rfl, rfl⟩ (fun id h1 h2 => (g.froz id ⟨h1, h2⟩).2) ?_
    have hb : H1.m hid = some ⟨91, true, .int .i64 (IntKind.i64.wrap (c.ep + 1)) :: (HD.cells ⟨hid, sid, gid, bid, nid, w⟩ [] _ c).tail⟩ := (g.blk (j := 1) rfl).1
    rw [ew] at hb
    exact hb
theorem implDo7 {A B : Int} (hd : DealOk x) (hB : B_Deal x) (hok : CerOk x c) (h : Hl HTI [] dcs S H0 X d c) (hD : K_Deal.R D H0 x dcs) (hDD : ∀ id, D id → S id ∧ ¬ d.W id) (hA : HoOk x A) :
    SpecW Tryz.prog S H0 d.W 77 [.pointer (some ⟨d.hid, 0, none⟩), .agg [.int .i64 7, .int .i64 A, .int .i64 B].toArray] (HlRes HTI [] dcs X d (doIt x c (7, A, B))) := by
  obtain ⟨d1, d2, d3, d4, d5, d6, d7, d8, rfl⟩ := form_Deal hD
  refine SpecW.of0 Tryz.func77 rfl (by kernel_rfl) rfl (fun H hfin hfz => ?_)
  haveI o : On S H0 (Low H.n) H := ⟨fun id hs => ⟨(hfz id hs).1, (hfz id hs).2⟩⟩
  have h := h.on (S' := Low H.n) (A' := H)
  have hD : K_Deal.R D H x _ := K_Deal.same (fun id hid => (hfz id (hDD id hid).1).2) hD
  have hDD : ∀ id, D id → id < H.n ∧ ¬ d.W id := fun id hid => ⟨(hfz id (hDD id hid).1).1, (hDD id hid).2⟩
  obtain ⟨hid, sid, gid, bid, nid, w⟩ := d
  have hc := h.cellsH
  have hh := h.hall
  have hsl := hok.sl
  have h7 := hd.sch.h7
  have h1h := hd.sch.h1
  have hbl := hd.bl
  have hp2 := hd.prime.1
  have hp31 := hd.prime.2.1
  have hep := hok.ep
  have Lc : ∀ id, id < H.n → Low H.n id ∧ H.m id = H.m id := fun id p => ⟨p, rfl⟩
  have hA0 : 0 ≤ A := hA.1
  have hA1 : A < x.1.1 := hA.2
  have ewr : IntKind.i64.wrap (x.1.1 - 1) = x.1.1 - 1 := wr (by omega) (by omega)
  obtain ⟨hs0, scs, hs1, hscl⟩ := h.seats
  simp only at hs0 hs1
  obtain ⟨hse, hsok⟩ := hok.seat hA
  obtain ⟨s, hs⟩ : ∃ s, c.seat A = s := ⟨_, rfl⟩
  rw [hs] at hse hsok
  have hR := hscl.2 _ _ hse
  obtain ⟨ps, qs, hseg, hR1, hR2⟩ := split_Seat hR
  obtain ⟨b1, e1, b2, e2, hps, hR3, hR4⟩ := split_Purse hR1
  obtain ⟨b3, e3, b4, e4, hqs, hR5, hR6⟩ := split_Purse hR2
  have hle : A.toNat * 7 + 7 ≤ scs.length := by have := hscl.1; have h2 := mul_le' (e := 7) (List.getElem?_eq_some_iff.1 hse).1; have : c.seats.length * 7 ≤ scs.length := this; omega
  have cel : ∀ (q : Nat) v, (ps ++ (qs ++ [.int .i64 s.2.2]) : List Value)[q]? = some v → scs[0 + A.toNat * 7 + q]? = some v := fun q v hv => by
    have := seg_at hseg hv
    rw [Nat.zero_add]; exact this
  refine KW.cF rfl rfl (by first | (simp; done) | decide) ?_
  refine KW.cF rfl rfl (by first | (simp; done) | decide) ?_
  refine KW.cF rfl rfl (by first | (simp; done) | decide) ?_
  refine KW.cF rfl rfl (by first | (simp; done) | decide) ?_
  refine KW.callE rfl rfl rfl rfl rfl (implIsHolder hB (by unfold I64; omega) A hc hD) (fun nE mE => ?_)
  refine KW.cF rfl rfl (by rw [ewr]; simp; omega) ?_
  refine KW.ldF 1 hc rfl rfl rfl rfl rfl rfl rfl rfl rfl ?_
  refine KW.idx0 rfl rfl rfl rfl rfl rfl rfl rfl rfl (by omega) (by omega) ?_
  refine KW.cF rfl rfl (by first | (simp; done) | decide) ?_
  refine KW.cF rfl rfl (by first | (simp; done) | decide) ?_
  refine KW.cF rfl rfl (by first | (simp; done) | decide) ?_
  refine KW.cT rfl rfl (by first | (simp; done) | decide) ?_
  have hsrc : (scs.drop (0 + A.toNat * 7 + 0)).take 3 = [.int .i64 s.1.1, .slice b1 s.1.2.1.length e1, .slice b2 s.1.2.2.length e2] := seg_of rfl (fun q v hv => by
    have hv' : (ps ++ (qs ++ [.int .i64 s.2.2]) : List Value)[0 + q]? = some v := by
      rw [hps, hqs]
      match q, hv with
      | 0, hv => exact hv
      | 1, hv => exact hv
      | 2, hv => exact hv
      | q + 3, hv => simp at hv
    have := cel (0 + q) v hv'
    rwa [← Nat.add_assoc] at this)
  refine KW.ldP hs0 hs1 rfl rfl rfl rfl rfl (bload_seg (ps := [.int .i64 s.1.1, .slice b1 s.1.2.1.length e1, .slice b2 s.1.2.2.length e2]) rfl rfl rfl (by show 0 + A.toNat * 7 + 0 + 3 ≤ scs.length; omega) hsrc) ?_
  refine KW.thaw sid _ hs0 hs1 ?_
  refine KW.stB 1 rfl rfl rfl rfl rfl rfl (bstore_agg rfl rfl rfl (by show 0 + A.toNat * 7 + 3 + 3 ≤ scs.length; omega) rfl) ?_
  have e : doIt x c (7, A, B) = (setS c A (s.1, s.1, s.2.2), 0) := by
    have h1 : ¬ x.1.1 ≤ A := by omega
    show (if x.1.1 ≤ A then (c, 2) else (setS c A ((c.seat A).1, (c.seat A).1, (c.seat A).2.2), 0)) = _
    rw [if_neg h1, hs]
  rw [e]
  refine KW.retW rfl rfl rfl rfl (fun H1 g => by have := g.n_; omega) (fun id hid hw => ⟨⟨hid, fun e => hw (by rw [e]; exact HD.Win.2.1)⟩, rfl⟩) (fun H1 g => ⟨rfl, HlPost.weak (X := fun id => X id ∨ False) ?_ (fun id p => p.elim (fun p => p) (fun p => p.elim))⟩)
  have hnew := (g.blk (j := 1) rfl).1
  have hcl := hscl.part (y := (s.1, s.1, s.2.2)) (a := ps) (b := qs) (r := [.int .i64 s.2.2]) (b' := [.int .i64 s.1.1, .slice b1 s.1.2.1.length e1, .slice b2 s.1.2.2.length e2]) (X' := fun id => X id ∨ False) hse hseg (by rw [hqs]; rfl) (fun id p => .inl p) (mk_Seat (x := (s.1, s.1, s.2.2)) (K_Purse.more (fun id p => .inl p) hR1) (K_Purse.more (fun id p => .inl p) (by rw [← hps]; exact hR1)))
  have e0 : 0 + A.toNat * 7 + 3 = A.toNat * K_Seat.es + ps.length := by rw [hps]; show 0 + A.toNat * 7 + 3 = A.toNat * 7 + 3; omega
  refine h.reSeats (PX := fun _ => False) (fun id p => p.elim) (by simp) (fun id h1 h2 => (g.froz id ⟨h1, h2⟩).2) (cs := splice scs _ _) ?_ hcl.1
  rw [← e0]
  exact hnew
theorem implDo8 {A B : Int} (hd : DealOk x) (hB : B_Deal x) (hok : CerOk x c) (h : Hl HTI [] dcs S H0 X d c) (hD : K_Deal.R D H0 x dcs) (hDD : ∀ id, D id → S id ∧ ¬ d.W id) (hA : HoOk x A) :
    SpecW Tryz.prog S H0 d.W 77 [.pointer (some ⟨d.hid, 0, none⟩), .agg [.int .i64 8, .int .i64 A, .int .i64 B].toArray] (HlRes HTI [] dcs X d (doIt x c (8, A, B))) := by
  obtain ⟨d1, d2, d3, d4, d5, d6, d7, d8, rfl⟩ := form_Deal hD
  refine SpecW.of0 Tryz.func77 rfl (by kernel_rfl) rfl (fun H hfin hfz => ?_)
  haveI o : On S H0 (Low H.n) H := ⟨fun id hs => ⟨(hfz id hs).1, (hfz id hs).2⟩⟩
  have h := h.on (S' := Low H.n) (A' := H)
  have hD : K_Deal.R D H x _ := K_Deal.same (fun id hid => (hfz id (hDD id hid).1).2) hD
  have hDD : ∀ id, D id → id < H.n ∧ ¬ d.W id := fun id hid => ⟨(hfz id (hDD id hid).1).1, (hDD id hid).2⟩
  obtain ⟨hid, sid, gid, bid, nid, w⟩ := d
  have hc := h.cellsH
  have hh := h.hall
  have hsl := hok.sl
  have h7 := hd.sch.h7
  have h1h := hd.sch.h1
  have hbl := hd.bl
  have hp2 := hd.prime.1
  have hp31 := hd.prime.2.1
  have hep := hok.ep
  have Lc : ∀ id, id < H.n → Low H.n id ∧ H.m id = H.m id := fun id p => ⟨p, rfl⟩
  have hA0 : 0 ≤ A := hA.1
  have hA1 : A < x.1.1 := hA.2
  have ewr : IntKind.i64.wrap (x.1.1 - 1) = x.1.1 - 1 := wr (by omega) (by omega)
  obtain ⟨hs0, scs, hs1, hscl⟩ := h.seats
  simp only at hs0 hs1
  obtain ⟨hse, hsok⟩ := hok.seat hA
  obtain ⟨s, hs⟩ : ∃ s, c.seat A = s := ⟨_, rfl⟩
  rw [hs] at hse hsok
  have hR := hscl.2 _ _ hse
  obtain ⟨ps, qs, hseg, hR1, hR2⟩ := split_Seat hR
  obtain ⟨b1, e1, b2, e2, hps, hR3, hR4⟩ := split_Purse hR1
  obtain ⟨b3, e3, b4, e4, hqs, hR5, hR6⟩ := split_Purse hR2
  have hle : A.toNat * 7 + 7 ≤ scs.length := by have := hscl.1; have h2 := mul_le' (e := 7) (List.getElem?_eq_some_iff.1 hse).1; have : c.seats.length * 7 ≤ scs.length := this; omega
  have cel : ∀ (q : Nat) v, (ps ++ (qs ++ [.int .i64 s.2.2]) : List Value)[q]? = some v → scs[0 + A.toNat * 7 + q]? = some v := fun q v hv => by
    have := seg_at hseg hv
    rw [Nat.zero_add]; exact this
  refine KW.cF rfl rfl (by first | (simp; done) | decide) ?_
  refine KW.cF rfl rfl (by first | (simp; done) | decide) ?_
  refine KW.cF rfl rfl (by first | (simp; done) | decide) ?_
  refine KW.cF rfl rfl (by first | (simp; done) | decide) ?_
  refine KW.callE rfl rfl rfl rfl rfl (implIsHolder hB (by unfold I64; omega) A hc hD) (fun nE mE => ?_)
  refine KW.cF rfl rfl (by rw [ewr]; simp; omega) ?_
  refine KW.ldF 1 hc rfl rfl rfl rfl rfl rfl rfl rfl rfl ?_
  refine KW.idx0 rfl rfl rfl rfl rfl rfl rfl rfl rfl (by omega) (by omega) ?_
  refine KW.cF rfl rfl (by first | (simp; done) | decide) ?_
  refine KW.cF rfl rfl (by first | (simp; done) | decide) ?_
  refine KW.cF rfl rfl (by first | (simp; done) | decide) ?_
  refine KW.cF rfl rfl (by first | (simp; done) | decide) ?_
  refine KW.cT rfl rfl (by first | (simp; done) | decide) ?_
  have hsrc : (scs.drop (0 + A.toNat * 7 + 3)).take 3 = [.int .i64 s.2.1.1, .slice b3 s.2.1.2.1.length e3, .slice b4 s.2.1.2.2.length e4] := seg_of rfl (fun q v hv => by
    have hv' : (ps ++ (qs ++ [.int .i64 s.2.2]) : List Value)[3 + q]? = some v := by
      rw [hps, hqs]
      match q, hv with
      | 0, hv => exact hv
      | 1, hv => exact hv
      | 2, hv => exact hv
      | q + 3, hv => simp at hv
    have := cel (3 + q) v hv'
    rwa [← Nat.add_assoc] at this)
  refine KW.ldP hs0 hs1 rfl rfl rfl rfl rfl (bload_seg (ps := [.int .i64 s.2.1.1, .slice b3 s.2.1.2.1.length e3, .slice b4 s.2.1.2.2.length e4]) rfl rfl rfl (by show 0 + A.toNat * 7 + 3 + 3 ≤ scs.length; omega) hsrc) ?_
  refine KW.thaw sid _ hs0 hs1 ?_
  refine KW.stB 1 rfl rfl rfl rfl rfl rfl (bstore_agg rfl rfl rfl (by show 0 + A.toNat * 7 + 0 + 3 ≤ scs.length; omega) rfl) ?_
  have e : doIt x c (8, A, B) = (setS c A (s.2.1, s.2.1, s.2.2), 0) := by
    have h1 : ¬ x.1.1 ≤ A := by omega
    show (if x.1.1 ≤ A then (c, 2) else (setS c A ((c.seat A).2.1, (c.seat A).2.1, (c.seat A).2.2), 0)) = _
    rw [if_neg h1, hs]
  rw [e]
  refine KW.retW rfl rfl rfl rfl (fun H1 g => by have := g.n_; omega) (fun id hid hw => ⟨⟨hid, fun e => hw (by rw [e]; exact HD.Win.2.1)⟩, rfl⟩) (fun H1 g => ⟨rfl, HlPost.weak (X := fun id => X id ∨ False) ?_ (fun id p => p.elim (fun p => p) (fun p => p.elim))⟩)
  have hnew := (g.blk (j := 1) rfl).1
  have hcl := hscl.part (y := (s.2.1, s.2.1, s.2.2)) (a := []) (b := ps) (r := qs ++ [.int .i64 s.2.2]) (b' := [.int .i64 s.2.1.1, .slice b3 s.2.1.2.1.length e3, .slice b4 s.2.1.2.2.length e4]) (X' := fun id => X id ∨ False) hse hseg (by rw [hps]; rfl) (fun id p => .inl p) (show K_Seat.R (fun id => X id ∨ False) H (s.2.1, s.2.1, s.2.2) ([.int .i64 s.2.1.1, .slice b3 s.2.1.2.1.length e3, .slice b4 s.2.1.2.2.length e4] ++ (qs ++ [.int .i64 s.2.2])) from mk_Seat (x := (s.2.1, s.2.1, s.2.2)) (K_Purse.more (fun id p => .inl p) (by rw [← hqs]; exact hR2)) (K_Purse.more (fun id p => .inl p) hR2))
  have e0 : 0 + A.toNat * 7 + 0 = A.toNat * K_Seat.es + ([] : List Value).length := by show 0 + A.toNat * 7 + 0 = A.toNat * 7 + 0; omega
  refine h.reSeats (PX := fun _ => False) (fun id p => p.elim) (by simp) (fun id h1 h2 => (g.froz id ⟨h1, h2⟩).2) (cs := splice scs _ _) ?_ hcl.1
  rw [← e0]
  exact hnew
theorem implDo6 {A B : Int} (hd : DealOk x) (hB : B_Deal x) (hok : CerOk x c) (h : Hl HTI [] dcs S H0 X d c) (hD : K_Deal.R D H0 x dcs) (hDD : ∀ id, D id → S id ∧ ¬ d.W id) (hA : HoOk x A) (hBB : 0 ≤ B ∧ B ≤ 999) :
    SpecW Tryz.prog S H0 d.W 77 [.pointer (some ⟨d.hid, 0, none⟩), .agg [.int .i64 6, .int .i64 A, .int .i64 B].toArray] (HlRes HTI [] dcs X d (doIt x c (6, A, B))) := by
  obtain ⟨d1, d2, d3, d4, d5, d6, d7, d8, rfl⟩ := form_Deal hD
  refine SpecW.of0 Tryz.func77 rfl (by kernel_rfl) rfl (fun H hfin hfz => ?_)
  haveI o : On S H0 (Low H.n) H := ⟨fun id hs => ⟨(hfz id hs).1, (hfz id hs).2⟩⟩
  have h := h.on (S' := Low H.n) (A' := H)
  have hD : K_Deal.R D H x _ := K_Deal.same (fun id hid => (hfz id (hDD id hid).1).2) hD
  have hDD : ∀ id, D id → id < H.n ∧ ¬ d.W id := fun id hid => ⟨(hfz id (hDD id hid).1).1, (hDD id hid).2⟩
  obtain ⟨hid, sid, gid, bid, nid, w⟩ := d
  have hc := h.cellsH
  have hh := h.hall
  have hsl := hok.sl
  have h7 := hd.sch.h7
  have h1h := hd.sch.h1
  have hbl := hd.bl
  have hp2 := hd.prime.1
  have hp31 := hd.prime.2.1
  have hep := hok.ep
  have Lc : ∀ id, id < H.n → Low H.n id ∧ H.m id = H.m id := fun id p => ⟨p, rfl⟩
  have hA0 : 0 ≤ A := hA.1
  have hA1 : A < x.1.1 := hA.2
  have ewr : IntKind.i64.wrap (x.1.1 - 1) = x.1.1 - 1 := wr (by omega) (by omega)
  obtain ⟨hs0, scs, hs1, hscl⟩ := h.seats
  simp only at hs0 hs1
  obtain ⟨hse, hsok⟩ := hok.seat hA
  obtain ⟨s, hs⟩ : ∃ s, c.seat A = s := ⟨_, rfl⟩
  rw [hs] at hse hsok
  have hR := hscl.2 _ _ hse
  obtain ⟨ps, qs, hseg, hR1, hR2⟩ := split_Seat hR
  obtain ⟨b1, e1, b2, e2, hps, hR3, hR4⟩ := split_Purse hR1
  obtain ⟨b3, e3, b4, e4, hqs, hR5, hR6⟩ := split_Purse hR2
  have hle : A.toNat * 7 + 7 ≤ scs.length := by have := hscl.1; have h2 := mul_le' (e := 7) (List.getElem?_eq_some_iff.1 hse).1; have : c.seats.length * 7 ≤ scs.length := this; omega
  have cel : ∀ (q : Nat) v, (ps ++ (qs ++ [.int .i64 s.2.2]) : List Value)[q]? = some v → scs[0 + A.toNat * 7 + q]? = some v := fun q v hv => by
    have := seg_at hseg hv
    rw [Nat.zero_add]; exact this
  refine KW.cF rfl rfl (by first | (simp; done) | decide) ?_
  refine KW.cF rfl rfl (by first | (simp; done) | decide) ?_
  refine KW.cF rfl rfl (by first | (simp; done) | decide) ?_
  refine KW.cF rfl rfl (by first | (simp; done) | decide) ?_
  refine KW.callE rfl rfl rfl rfl rfl (implIsHolder hB (by unfold I64; omega) A hc hD) (fun nE mE => ?_)
  refine KW.cF rfl rfl (by rw [ewr]; simp; omega) ?_
  refine KW.ldF 1 hc rfl rfl rfl rfl rfl rfl rfl rfl rfl ?_
  refine KW.idx0 rfl rfl rfl rfl rfl rfl rfl rfl rfl (by omega) (by omega) ?_
  refine KW.cF rfl rfl (by first | (simp; done) | decide) ?_
  refine KW.cF rfl rfl (by first | (simp; done) | decide) ?_
  refine KW.cT rfl rfl (by first | (simp; done) | decide) ?_
  refine KW.ldF 9 hc rfl rfl rfl rfl rfl rfl rfl rfl rfl ?_
  refine KW.lit rfl rfl rfl rfl rfl rfl rfl rfl rfl rfl [.int .i64 B] rfl rfl (fun v hv => by simp at hv; subst hv; rfl) rfl ?_
  refine KW.callV1 rfl rfl rfl rfl rfl (fun H1 g _ => areElements x.1.2.2.1 (by unfold I64; omega) (xs := [B]) (by simp) (g.ints (j := 1) (xs := [B]) rfl rfl (Nat.le_refl _))) (fun n9 m9 => ?_)
  have h1 : ¬ x.1.1 ≤ A := by omega
  have hel : (PrimeP x.1.2.2.1 ∧ Elems x.1.2.2.1 [B]) ↔ ¬ x.1.2.2.1 ≤ B := ⟨fun q => by have := (q.2 B (by simp)).2; omega, fun q => ⟨hd.prime, fun y hy => by rw [List.mem_singleton.1 hy]; omega⟩⟩
  have e : doIt x c (6, A, B) = if x.1.2.2.1 ≤ B then (c, 2) else (setS c A (s.1, s.2.1, B), 0) := by
    show (if x.1.1 ≤ A then (c, 2) else if x.1.2.2.1 ≤ B then (c, 2) else (setS c A ((c.seat A).1, (c.seat A).2.1, B), 0)) = _
    rw [if_neg h1, hs]
  rw [e, tv_congr hel]
  by_cases k1 : x.1.2.2.1 ≤ B
  · rw [if_pos k1, tv_false (p := ¬ x.1.2.2.1 ≤ B) (fun q => q k1)]
    refine KW.cT rfl rfl (by first | (simp; done) | decide) ?_
    exact KW.retW rfl rfl rfl rfl (fun H1 g => by have := g.n_; omega) (fun id hid _ => ⟨hid, rfl⟩) (fun H1 g => ⟨rfl, HlPost.same h (fun id p => p) (fun id hid => (g.froz id hid).2)⟩)
  · rw [if_neg k1, tv_true (p := ¬ x.1.2.2.1 ≤ B) k1]
    refine KW.cF rfl rfl (by first | (simp; done) | decide) ?_
    refine KW.thaw sid _ hs0 hs1 ?_
    refine KW.st1 2 rfl rfl rfl rfl rfl rfl rfl rfl rfl rfl rfl rfl (by show 0 + A.toNat * 7 + 6 < scs.length; omega) ?_
    refine KW.retW rfl rfl rfl rfl (fun H1 g => by have := g.n_; omega) (fun id hid hw => ⟨⟨hid, fun e => hw (by rw [e]; exact HD.Win.2.1)⟩, rfl⟩) (fun H1 g => ⟨rfl, HlPost.weak (X := fun id => X id ∨ False) ?_ (fun id p => p.elim (fun p => p) (fun p => p.elim))⟩)
    have hnew : H1.m sid = some ⟨101, true, scs.set (0 + A.toNat * 7 + 6) (.int .i64 B)⟩ := (g.blk (j := 2) rfl).1
    have hcl := hscl.part (y := (s.1, s.2.1, B)) (a := ps ++ qs) (b := [.int .i64 s.2.2]) (r := []) (b' := [.int .i64 B]) (X' := fun id => X id ∨ False) hse (by rw [hseg, List.append_assoc]; rfl) rfl (fun id p => .inl p) (by rw [List.append_assoc]; exact mk_Seat (x := (s.1, s.2.1, B)) (K_Purse.more (fun id p => .inl p) hR1) (K_Purse.more (fun id p => .inl p) hR2))
    have e0 : 0 + A.toNat * 7 + 6 = A.toNat * K_Seat.es + (ps ++ qs).length := by rw [hps, hqs]; show 0 + A.toNat * 7 + 6 = A.toNat * 7 + 6; omega
    refine h.reSeats (PX := fun _ => False) (fun id p => p.elim) (by simp) (fun id h1 h2 => (g.froz id ⟨h1, h2⟩).2) (cs := splice scs (A.toNat * K_Seat.es + (ps ++ qs).length) [.int .i64 B]) ?_ hcl.1
    rw [← e0, splice_one (by omega)]
    exact hnew
theorem implDo1 {A B : Int} (hd : DealOk x) (hB : B_Deal x) (hok : CerOk x c) (h : Hl HTI [] dcs S H0 X d c) (hD : K_Deal.R D H0 x dcs) (hDD : ∀ id, D id → S id ∧ ¬ d.W id) (hA : HoOk x A) :
    SpecW Tryz.prog S H0 d.W 77 [.pointer (some ⟨d.hid, 0, none⟩), .agg [.int .i64 1, .int .i64 A, .int .i64 B].toArray] (HlRes HTI [] dcs X d (doIt x c (1, A, B))) := by
  obtain ⟨d1, d2, d3, d4, d5, d6, d7, d8, rfl⟩ := form_Deal hD
  refine SpecW.of0 Tryz.func77 rfl (by kernel_rfl) rfl (fun H hfin hfz => ?_)
  haveI o : On S H0 (Low H.n) H := ⟨fun id hs => ⟨(hfz id hs).1, (hfz id hs).2⟩⟩
  have h := h.on (S' := Low H.n) (A' := H)
  have hD : K_Deal.R D H x _ := K_Deal.same (fun id hid => (hfz id (hDD id hid).1).2) hD
  have hDD : ∀ id, D id → id < H.n ∧ ¬ d.W id := fun id hid => ⟨(hfz id (hDD id hid).1).1, (hDD id hid).2⟩
  obtain ⟨hid, sid, gid, bid, nid, w⟩ := d
  have hc := h.cellsH
  have hh := h.hall
  have hsl := hok.sl
  have h7 := hd.sch.h7
  have h1h := hd.sch.h1
  have hbl := hd.bl
  have hp2 := hd.prime.1
  have hp31 := hd.prime.2.1
  have hep := hok.ep
  have Lc : ∀ id, id < H.n → Low H.n id ∧ H.m id = H.m id := fun id p => ⟨p, rfl⟩
  have hA0 : 0 ≤ A := hA.1
  have hA1 : A < x.1.1 := hA.2
  have ewr : IntKind.i64.wrap (x.1.1 - 1) = x.1.1 - 1 := wr (by omega) (by omega)
  obtain ⟨hs0, scs, hs1, hscl⟩ := h.seats
  simp only at hs0 hs1
  obtain ⟨hse, hsok⟩ := hok.seat hA
  obtain ⟨s, hs⟩ : ∃ s, c.seat A = s := ⟨_, rfl⟩
  rw [hs] at hse hsok
  have hR := hscl.2 _ _ hse
  obtain ⟨ps, qs, hseg, hR1, hR2⟩ := split_Seat hR
  obtain ⟨b1, e1, b2, e2, hps, hR3, hR4⟩ := split_Purse hR1
  obtain ⟨b3, e3, b4, e4, hqs, hR5, hR6⟩ := split_Purse hR2
  have hle : A.toNat * 7 + 7 ≤ scs.length := by have := hscl.1; have h2 := mul_le' (e := 7) (List.getElem?_eq_some_iff.1 hse).1; have : c.seats.length * 7 ≤ scs.length := this; omega
  have cel : ∀ (q : Nat) v, (ps ++ (qs ++ [.int .i64 s.2.2]) : List Value)[q]? = some v → scs[0 + A.toNat * 7 + q]? = some v := fun q v hv => by
    have := seg_at hseg hv
    rw [Nat.zero_add]; exact this
  refine KW.cF rfl rfl (by first | (simp; done) | decide) ?_
  refine KW.cF rfl rfl (by first | (simp; done) | decide) ?_
  refine KW.cF rfl rfl (by first | (simp; done) | decide) ?_
  refine KW.cF rfl rfl (by first | (simp; done) | decide) ?_
  refine KW.callE rfl rfl rfl rfl rfl (implIsHolder hB (by unfold I64; omega) A hc hD) (fun nE mE => ?_)
  refine KW.cF rfl rfl (by rw [ewr]; simp; omega) ?_
  refine KW.ldF 1 hc rfl rfl rfl rfl rfl rfl rfl rfl rfl ?_
  refine KW.idx0 rfl rfl rfl rfl rfl rfl rfl rfl rfl (by omega) (by omega) ?_
  refine KW.cT rfl rfl (by first | (simp; done) | decide) ?_
  refine KW.ldP hh.1 hh.2 rfl rfl rfl rfl rfl rfl ?_
  refine KW.ldF 0 hc rfl rfl rfl rfl rfl rfl rfl rfl rfl ?_
  obtain ⟨E, J, hat⟩ := HoOk.at hd hA hok.ep
  have hDL : K_Deal.R (Low H.n) H x _ := K_Deal.more (fun id p => (hDD id p).1) hD
  refine KW.callN1 rfl rfl rfl rfl rfl (valuesD x c.ep A hat hB hDL) (fun v H1 S1 m1 _ _ hv => ?_)
  obtain ⟨a5, q5, rfl, hV⟩ := hv
  refine KW.ldF 0 hc.up rfl rfl rfl rfl rfl rfl rfl rfl rfl ?_
  have hb1 := On.blk (S' := S1) (H' := H1) hh.1 hh.2
  refine KW.ldP hb1.1 hb1.2 rfl rfl rfl rfl rfl rfl ?_
  refine KW.ldF 0 hc.up rfl rfl rfl rfl rfl rfl rfl rfl rfl ?_
  refine KW.callN1 rfl rfl rfl rfl rfl (tagsDD x c.ep A hat hB (On.R hDL) vals_len (vals_in hd.prime) hV.ups) (fun v H2 S2 m2 _ _ hv => ?_)
  obtain ⟨a6, q6, rfl, hTg⟩ := hv
  refine KW.build rfl rfl rfl rfl rfl (built_Packet4 _ _ _ _ _ _ _ _) ?_
  have h2 := h.on (S' := S2) (A' := H2)
  have o1 := (inferInstance : On (New nE H1.n) H1 S2 H2).st
  have o2 := (inferInstance : On (New H1.n H2.n) H2 S2 H2).st
  have o0 := (inferInstance : On (Low H.n) H S2 H2).st
  have lowW : ∀ id, HD.W ⟨hid, sid, gid, bid, nid, w⟩ id → id < H.n := fun id p => h.w id p
  refine KW.callW h2.w rfl rfl rfl rfl rfl (implPost (p := (false, A, c.ep, valsD x c.ep A, tagsD x c.ep A (valsD x c.ep A))) (PX := fun id => New nE H1.n id ∨ New H1.n H2.n id) h2 (mk_Packet (x := (false, A, c.ep, valsD x c.ep A, tagsD x c.ep A (valsD x c.ep A))) (sl_mk hV.sl (fun id p => ⟨.inl p, (o1 id p).2⟩)) (sl_mk hTg.sl (fun id p => ⟨.inr p, (o2 id p).2⟩))) (fun id p => ⟨p.elim (fun p => (o1 id p).1) (fun p => (o2 id p).1), fun q => by have := lowW id q; rcases p with p | p <;> (have := p.1; omega)⟩) hok.wl) (fun v H5 S5 m5 t5 w5 hv => ?_)
  have e : doIt x c (1, A, B) = send c (false, A, c.ep, valsD x c.ep A, tagsD x c.ep A (valsD x c.ep A)) := by
    show (if x.1.1 ≤ A then (c, 2) else send c _) = _
    rw [if_neg (by omega)]
  rw [e]
  obtain ⟨rfl, hp⟩ := hv
  have xin : ∀ id, X id → id < H.n := fun id p => h.sx id p
  refine KW.retW rfl rfl rfl rfl (fun H1 g => by have := g.n_; omega) (fun id hid hw => ⟨(t5 id (o0 id hid).1).1, ((t5 id (o0 id hid).1).2 hw).trans (o0 id hid).2⟩) (fun H6 g => ⟨rfl, ?_⟩)
  refine HlPost.lift (HlPost.mem hp (fun id p => (g.froz id ?_).2) (by have := g.n_; omega)) (by omega) (by have := g.n_; omega) rfl (fun id p => ?_) (fun id p => .inl p)
  · rcases p with p | p | p
    · exact (t5 id (h2.w id p)).1
    · rcases p with p | p | p
      · exact (t5 id (o0 id (xin id p)).1).1
      · exact (t5 id (o1 id p).1).1
      · exact (t5 id (o2 id p).1).1
    · exact w5 id p
  · rcases p with p | p | p
    · exact .inl p
    · exact .inr ⟨by have := p.1; omega, by have := p.2; omega⟩
    · exact .inr ⟨by have := p.1; omega, by have := p.2; omega⟩
theorem implDo2 {A B : Int} (hd : DealOk x) (hB : B_Deal x) (hok : CerOk x c) (h : Hl HTI [] dcs S H0 X d c) (hD : K_Deal.R D H0 x dcs) (hDD : ∀ id, D id → S id ∧ ¬ d.W id) (hA : HoOk x A) :
    SpecW Tryz.prog S H0 d.W 77 [.pointer (some ⟨d.hid, 0, none⟩), .agg [.int .i64 2, .int .i64 A, .int .i64 B].toArray] (HlRes HTI [] dcs X d (doIt x c (2, A, B))) := by
  obtain ⟨d1, d2, d3, d4, d5, d6, d7, d8, rfl⟩ := form_Deal hD
  refine SpecW.of0 Tryz.func77 rfl (by kernel_rfl) rfl (fun H hfin hfz => ?_)
  haveI o : On S H0 (Low H.n) H := ⟨fun id hs => ⟨(hfz id hs).1, (hfz id hs).2⟩⟩
  have h := h.on (S' := Low H.n) (A' := H)
  have hD : K_Deal.R D H x _ := K_Deal.same (fun id hid => (hfz id (hDD id hid).1).2) hD
  have hDD : ∀ id, D id → id < H.n ∧ ¬ d.W id := fun id hid => ⟨(hfz id (hDD id hid).1).1, (hDD id hid).2⟩
  obtain ⟨hid, sid, gid, bid, nid, w⟩ := d
  have hc := h.cellsH
  have hh := h.hall
  have hsl := hok.sl
  have h7 := hd.sch.h7
  have h1h := hd.sch.h1
  have hbl := hd.bl
  have hp2 := hd.prime.1
  have hp31 := hd.prime.2.1
  have hep := hok.ep
  have Lc : ∀ id, id < H.n → Low H.n id ∧ H.m id = H.m id := fun id p => ⟨p, rfl⟩
  have hA0 : 0 ≤ A := hA.1
  have hA1 : A < x.1.1 := hA.2
  have ewr : IntKind.i64.wrap (x.1.1 - 1) = x.1.1 - 1 := wr (by omega) (by omega)
  obtain ⟨hs0, scs, hs1, hscl⟩ := h.seats
  simp only at hs0 hs1
  obtain ⟨hse, hsok⟩ := hok.seat hA
  obtain ⟨s, hs⟩ : ∃ s, c.seat A = s := ⟨_, rfl⟩
  rw [hs] at hse hsok
  have hR := hscl.2 _ _ hse
  obtain ⟨ps, qs, hseg, hR1, hR2⟩ := split_Seat hR
  obtain ⟨b1, e1, b2, e2, hps, hR3, hR4⟩ := split_Purse hR1
  obtain ⟨b3, e3, b4, e4, hqs, hR5, hR6⟩ := split_Purse hR2
  have hle : A.toNat * 7 + 7 ≤ scs.length := by have := hscl.1; have h2 := mul_le' (e := 7) (List.getElem?_eq_some_iff.1 hse).1; have : c.seats.length * 7 ≤ scs.length := this; omega
  have cel : ∀ (q : Nat) v, (ps ++ (qs ++ [.int .i64 s.2.2]) : List Value)[q]? = some v → scs[0 + A.toNat * 7 + q]? = some v := fun q v hv => by
    have := seg_at hseg hv
    rw [Nat.zero_add]; exact this
  refine KW.cF rfl rfl (by first | (simp; done) | decide) ?_
  refine KW.cF rfl rfl (by first | (simp; done) | decide) ?_
  refine KW.cF rfl rfl (by first | (simp; done) | decide) ?_
  refine KW.cF rfl rfl (by first | (simp; done) | decide) ?_
  refine KW.callE rfl rfl rfl rfl rfl (implIsHolder hB (by unfold I64; omega) A hc hD) (fun nE mE => ?_)
  refine KW.cF rfl rfl (by rw [ewr]; simp; omega) ?_
  refine KW.ldF 1 hc rfl rfl rfl rfl rfl rfl rfl rfl rfl ?_
  refine KW.idx0 rfl rfl rfl rfl rfl rfl rfl rfl rfl (by omega) (by omega) ?_
  refine KW.cF rfl rfl (by first | (simp; done) | decide) ?_
  refine KW.cT rfl rfl (by first | (simp; done) | decide) ?_
  have c0 : scs[0 + A.toNat * 7]? = some (.int .i64 s.1.1) := cel 0 _ (by rw [hps]; rfl)
  have c1 : scs[0 + A.toNat * 7 + 1]? = some (.slice b1 s.1.2.1.length e1) := cel 1 _ (by rw [hps]; rfl)
  have c2 : scs[0 + A.toNat * 7 + 2]? = some (.slice b2 s.1.2.2.length e2) := cel 2 _ (by rw [hps]; rfl)
  have c6 : scs[0 + A.toNat * 7 + 6]? = some (.int .i64 s.2.2) := cel 6 _ (by rw [hps, hqs]; rfl)
  have e : doIt x c (2, A, B) = if s.1.1 = -1 then (c, 4) else send c (true, A, s.1.1, lieOf x.1.2.2.1 s.1.2.1 s.2.2, s.1.2.2) := by
    show (if x.1.1 ≤ A then (c, 2) else if (c.seat A).1.1 = -1 then (c, 4) else send c _) = _
    rw [if_neg (by omega), hs]
  rw [e]
  refine KW.ldC hs0 hs1 c0 rfl rfl rfl rfl rfl rfl rfl ?_
  refine KW.cnd rfl rfl (fun k1 => ?_) (fun k1 => ?_)
  · have k1 : s.1.1 = -1 := k1
    rw [if_pos k1]
    exact KW.retW rfl rfl rfl rfl (fun H1 g => by have := g.n_; omega) (fun id hid _ => ⟨hid, rfl⟩) (fun H1 g => ⟨rfl, HlPost.same h (fun id p => p) (fun id hid => (g.froz id hid).2)⟩)
  have k1 : ¬ s.1.1 = -1 := k1
  rw [if_neg k1]
  have hpu := hsok.pu.resolve_left (fun q => k1 q.1)
  have hvl : s.1.2.1.length ≤ 1048576 := by have := hpu.2.vl; have := rowsOf_len x.1.2.1 A; have : x.1.2.1.length ≤ 1048576 := hB.1.2.1; omega
  refine KW.ldC hs0 hs1 c0 rfl rfl rfl rfl rfl rfl rfl ?_
  refine KW.ldP hh.1 hh.2 rfl rfl rfl rfl rfl rfl ?_
  refine KW.ldC hs0 hs1 c1 rfl rfl rfl rfl rfl rfl rfl ?_
  refine KW.ldC hs0 hs1 c6 rfl rfl rfl rfl rfl rfl rfl ?_
  have hlie := hsok.lie
  refine KW.callN1 rfl rfl rfl rfl rfl (lied x.1.1 x.1.2.2.1 x.1.2.2.2.1 x.2.1 hd.prime s.2.2 (by omega) hvl hpu.2.ve (hR3.more h.sx)) (fun v H2 S2 m2 _ _ hv => ?_)
  obtain ⟨a5, q5, rfl, hV⟩ := hv
  have hb1 := On.blk (S' := S2) (H' := H2) hs0 hs1
  refine KW.ldC hb1.1 hb1.2 c2 rfl rfl rfl rfl rfl rfl rfl ?_
  refine KW.build rfl rfl rfl rfl rfl (built_Packet5 _ _ _ _ _ _ _ _ _) ?_
  have h2 := h.on (S' := S2) (A' := H2)
  have o1 := (inferInstance : On (New nE H2.n) H2 S2 H2).st
  have o0 := (inferInstance : On (Low H.n) H S2 H2).st
  have lowW : ∀ id, HD.W ⟨hid, sid, gid, bid, nid, w⟩ id → id < H.n := fun id p => h.w id p
  have xin : ∀ id, X id → id < H.n := fun id p => h.sx id p
  have hll : (lieOf x.1.2.2.1 s.1.2.1 s.2.2).length = s.1.2.1.length := lie_len
  refine KW.callW h2.w rfl rfl rfl rfl rfl (implPost (p := (true, A, s.1.1, lieOf x.1.2.2.1 s.1.2.1 s.2.2, s.1.2.2)) (PX := fun id => New nE H2.n id ∨ X id) h2 (mk_Packet (x := (true, A, s.1.1, lieOf x.1.2.2.1 s.1.2.1 s.2.2, s.1.2.2)) (sl_mk hV.sl (fun id p => ⟨.inl p, rfl⟩)) (sl_mk hR4 (fun id p => ⟨.inr p, (o0 id (xin id p)).2⟩))) (fun id p => ⟨p.elim (fun p => (o1 id p).1) (fun p => (o0 id (xin id p)).1), fun q => by rcases p with p | p; have := lowW id q; have := p.1; omega; exact h.out id p q⟩) hok.wl) (fun v H5 S5 m5 t5 w5 hv => ?_)
  obtain ⟨rfl, hp⟩ := hv
  refine KW.retW rfl rfl rfl rfl (fun H1 g => by have := g.n_; omega) (fun id hid hw => ⟨(t5 id (o0 id hid).1).1, ((t5 id (o0 id hid).1).2 hw).trans (o0 id hid).2⟩) (fun H6 g => ⟨rfl, ?_⟩)
  refine HlPost.lift (HlPost.mem hp (fun id p => (g.froz id ?_).2) (by have := g.n_; omega)) (by omega) (by have := g.n_; omega) rfl (fun id p => ?_) (fun id p => .inl p)
  · rcases p with p | p | p
    · exact (t5 id (h2.w id p)).1
    · rcases p with p | p | p
      · exact (t5 id (o0 id (xin id p)).1).1
      · exact (t5 id (o1 id p).1).1
      · exact (t5 id (o0 id (xin id p)).1).1
    · exact w5 id p
  · rcases p with p | p | p
    · exact .inl p
    · exact .inr ⟨by have := p.1; omega, by have := p.2; omega⟩
    · exact .inl p
theorem implDo3 {A B : Int} (hd : DealOk x) (hB : B_Deal x) (hok : CerOk x c) (h : Hl HTI [] dcs S H0 X d c) (hD : K_Deal.R D H0 x dcs) (hDD : ∀ id, D id → S id ∧ ¬ d.W id) (hA0 : 0 ≤ A ∧ A ≤ 999) :
    SpecW Tryz.prog S H0 d.W 77 [.pointer (some ⟨d.hid, 0, none⟩), .agg [.int .i64 3, .int .i64 A, .int .i64 B].toArray] (HlRes HTI [] dcs X d (doIt x c (3, A, B))) := by
  obtain ⟨d1, d2, d3, d4, d5, d6, d7, d8, rfl⟩ := form_Deal hD
  refine SpecW.of0 Tryz.func77 rfl (by kernel_rfl) rfl (fun H hfin hfz => ?_)
  haveI o : On S H0 (Low H.n) H := ⟨fun id hs => ⟨(hfz id hs).1, (hfz id hs).2⟩⟩
  have h := h.on (S' := Low H.n) (A' := H)
  have hD : K_Deal.R D H x _ := K_Deal.same (fun id hid => (hfz id (hDD id hid).1).2) hD
  have hDD : ∀ id, D id → id < H.n ∧ ¬ d.W id := fun id hid => ⟨(hfz id (hDD id hid).1).1, (hDD id hid).2⟩
  obtain ⟨hid, sid, gid, bid, nid, w⟩ := d
  have hc := h.cellsH
  have hh := h.hall
  have hsl := hok.sl
  have h7 := hd.sch.h7
  have h1h := hd.sch.h1
  have hbl := hd.bl
  have hp2 := hd.prime.1
  have hp31 := hd.prime.2.1
  have hep := hok.ep
  have Lc : ∀ id, id < H.n → Low H.n id ∧ H.m id = H.m id := fun id p => ⟨p, rfl⟩
  refine KW.cT rfl rfl (by first | (simp; done) | decide) ?_
  refine KW.cT rfl rfl (by first | (simp; done) | decide) ?_
  have e : doIt x c (3, A, B) = if (c.wire.length : Int) ≤ A then (c, 2) else (come x (dropW c A.toNat) (c.pk A), 0) := rfl
  rw [e]
  have hwi := h.wire
  cases w with
  | none =>
    have ew : c.wire = [] := hwi
    have el : c.wire.length = 0 := by rw [ew]; rfl
    refine KW.ldF 6 hc rfl rfl rfl rfl rfl rfl rfl rfl rfl ?_
    refine KW.yes rfl rfl (by omega) ?_
    rw [if_pos (by omega)]
    exact KW.retW rfl rfl rfl rfl (fun H1 g => by have := g.n_; omega) (fun id hid _ => ⟨hid, rfl⟩) (fun H1 g => ⟨rfl, HlPost.same h (fun id p => p) (fun id hid => (g.froz id hid).2)⟩)
  | some iq =>
    obtain ⟨i, q⟩ := iq
    obtain ⟨hi1, hq, wcs, hi2, hcl⟩ := hwi
    have li : i < H.n := hi1
    obtain ⟨n1, n2, n3, n4, n5⟩ := HD.nodup h.dist
    have nh : i ≠ hid := (n5 i q rfl).1
    refine KW.ldF 6 hc rfl rfl rfl rfl rfl rfl rfl rfl rfl ?_
    refine KW.cnd rfl rfl (fun k1 => ?_) (fun k1 => ?_)
    · have k1 : A ≥ (c.wire.length : Int) := k1
      rw [if_pos (by omega)]
      exact KW.retW rfl rfl rfl rfl (fun H1 g => by have := g.n_; omega) (fun id hid _ => ⟨hid, rfl⟩) (fun H1 g => ⟨rfl, HlPost.same h (fun id p => p) (fun id hid => (g.froz id hid).2)⟩)
    have k1 : ¬ A ≥ (c.wire.length : Int) := k1
    rw [if_neg (by omega)]
    obtain ⟨hpk, hpok⟩ := hok.pk hA0.1 (by omega)
    refine KW.ldF 6 hc rfl rfl rfl rfl rfl rfl rfl rfl rfl ?_
    have hpX := hcl.2 _ _ hpk
    obtain ⟨pa1, pc1, pa2, pc2, eseg, hq1, hq2⟩ := split_Packet hpX
    rw [eseg] at hpX
    have hwl : c.wire.length * 5 ≤ wcs.length := hcl.1
    refine KW.idx0 rfl rfl rfl rfl rfl rfl rfl rfl rfl (by omega) (by omega) ?_
    refine KW.ldP hi1 hi2 rfl rfl rfl rfl rfl (bload_seg (ps := [.bool (c.pk A).1, .int .i64 (c.pk A).2.1, .int .i64 (c.pk A).2.2.1, .slice pa1 (c.pk A).2.2.2.1.length pc1, .slice pa2 (c.pk A).2.2.2.2.length pc2]) rfl rfl rfl (by show 0 + A.toNat * 5 + 5 ≤ wcs.length; omega) (by rw [Nat.zero_add]; exact eseg)) ?_
    obtain ⟨E, J, hat⟩ := HoOk.at hd hpok.ho hpok.ep
    have ewA : IntKind.i64.wrap (A + 1) = ((A.toNat + 1 : Nat) : Int) := by rw [wr (by omega) (by omega)]; omega
    have eA : A = ((A.toNat : Nat) : Int) := by omega
    refine KW.cT rfl rfl (by first | (simp; done) | decide) ?_
    refine KW.ldF 6 hc rfl rfl rfl rfl rfl rfl rfl rfl rfl ?_
    refine KW.callW (W := fun id => id = i) (fun id p => by rw [p]; exact hi1) rfl rfl rfl rfl rfl (by show SpecW _ _ _ _ _ [_, .int .i64 A, .int .i64 (IntKind.i64.wrap (A + 1))] _; rw [ewA]; conv => { arg 6; rw [eA] }; exact deletePk hi1 hi2 hcl hq (by omega) hok.wl (fun id p => ⟨h.sx id p, fun e => h.out id p (by rw [e]; exact HD.Win.2.2.2.2.2 i q rfl)⟩)) (fun v H5 S5 m5 t5 w5 hv => ?_)
    obtain ⟨rfl, cs', hm', hcl'⟩ := hv
    refine KW.thaw hid _ (t5 hid hh.1).1 (((t5 hid hh.1).2 (Ne.symm nh)).trans hh.2) ?_
    refine KW.st1 2 rfl rfl rfl rfl rfl rfl rfl rfl rfl rfl rfl rfl (by show 6 < ([_, _, _, _, _, _, _] ++ _).length; simp) ?_
    refine KW.freeze 2 rfl (fun A9 S9 hn9 hS9 t9 hm9 ho9 hno9 hlt9 => ?_)
    have k5 : ∀ id, id < H.n → S9 id ∧ (id ≠ hid → id ≠ i → A9.m id = H.m id) := fun id p => by
      refine ⟨(hS9 id).2 ?_, fun e1 e2 => ((t9.st id ⟨(t5 id p).1, e1⟩).2).trans ((t5 id p).2 e2)⟩
      by_cases e : id = hid
      · exact .inr e
      · exact .inl ⟨(t5 id p).1, e⟩
    have ki : A9.m i = H5.m i := (t9.st i ⟨(t5 i li).1, nh⟩).2
    have kx : ∀ id, X id → S9 id ∧ A9.m id = H.m id := fun id p => ⟨(k5 id (h.sx id p)).1, (k5 id (h.sx id p)).2 (fun e => h.out id p (by rw [e]; exact HD.Win.1)) (fun e => h.out id p (by rw [e]; exact HD.Win.2.2.2.2.2 i q rfl))⟩
    have kx5 : ∀ id, X id → A9.m id = H5.m id := fun id p => by
      rw [(kx id p).2, (t5 id (h.sx id p)).2 (fun e => h.out id p (by rw [e]; exact HD.Win.2.2.2.2.2 i q rfl))]
    have hle : (c.wire.eraseIdx A.toNat).length = c.wire.length - 1 := by rw [List.length_eraseIdx, if_pos (by omega)]
    have h9 : Hl HTI [] [.int .i64 x.1.1, .slice d1 x.1.2.1.length d2, .int .i64 x.1.2.2.1, .int .i64 x.1.2.2.2.1, .slice d3 x.1.2.2.2.2.length d4, .int .i64 x.2.1, .slice d5 x.2.2.1.length d6, .slice d7 x.2.2.2.length d8] S9 A9 X ⟨hid, sid, gid, bid, nid, some (i, q)⟩ (dropW c A.toNat) := by
      refine ⟨fun id p => (kx id p).1, ⟨(hS9 hid).2 (.inr rfl), ?_⟩, h.seats.mv ⟨(k5 _ h.seats.1).1, (k5 _ h.seats.1).2 n1.1.symm (n5 i q rfl).2.1.symm⟩ (fun id p => (kx id p).2) (fun _ p => p), h.got.mv ⟨(k5 _ h.got.1).1, (k5 _ h.got.1).2 n1.2.1.symm (n5 i q rfl).2.2.1.symm⟩ (fun id p => (kx id p).2) (fun _ p => p), h.has.mv ⟨(k5 _ h.has.1).1, (k5 _ h.has.1).2 n1.2.2.1.symm (n5 i q rfl).2.2.2.1.symm⟩, h.named.mv ⟨(k5 _ h.named.1).1, (k5 _ h.named.1).2 n1.2.2.2.symm (n5 i q rfl).2.2.2.2.symm⟩, ⟨(k5 i li).1, by show (c.wire.eraseIdx A.toNat).length ≤ q; omega, cs', ki.trans hm', hcl'.mv kx5 (fun _ p => p)⟩, h.dist, h.out⟩
      rw [hm9]
      simp only [HD.cells, HD.wv, dropW, hle]
      rfl
    have hX9 : K_Packet.R X A9 (c.pk A) _ := K_Packet.same (fun id p => (kx id p).2) hpX
    have hok9 := hok.drop A.toNat
    refine KW.cT rfl rfl (by first | (simp; done) | decide) ?_
    have hD9 : K_Deal.R D A9 x _ := K_Deal.same (fun id p => (k5 id (hDD id p).1).2 (fun e => (hDD id p).2 (by rw [e]; exact HD.Win.1)) (fun e => (hDD id p).2 (by rw [e]; exact HD.Win.2.2.2.2.2 i q rfl))) hD
    refine KW.callW h9.w rfl rfl rfl rfl rfl (implCome (p := c.pk A) (PX := X) hd hB hok9 hpok h9 hD9 (fun id p => ⟨(k5 id (hDD id p).1).1, (hDD id p).2⟩) hX9 (fun id p => ⟨h9.sx id p, h.out id p⟩)) (fun v H6 S6 m6 t6 w6 hv => ?_)
    refine KW.retW rfl rfl rfl rfl (fun H1 g => by have := g.n_; omega) (fun id p hw => ⟨(t6 id (k5 id p).1).1, ((t6 id (k5 id p).1).2 hw).trans ((k5 id p).2 (fun e => hw (by rw [e]; exact HD.Win.1)) (fun e => hw (by rw [e]; exact HD.Win.2.2.2.2.2 i q rfl)))⟩) (fun H7 g => ⟨rfl, ?_⟩)
    refine HlPost.lift (HlPost.mem hv (fun id p => (g.froz id ?_).2) (by have := g.n_; omega)) (by omega) (by have := g.n_; omega) rfl (fun id p => p.elim .inl .inl) (fun id p => .inl p)
    rcases p with p | p | p
    · exact (t6 id (h9.w id p)).1
    · exact p.elim (fun p => (t6 id (h9.sx id p)).1) (fun p => (t6 id (h9.sx id p)).1)
    · exact w6 id p
theorem implDo4 {A B : Int} (hd : DealOk x) (hB : B_Deal x) (hok : CerOk x c) (h : Hl HTI [] dcs S H0 X d c) (hD : K_Deal.R D H0 x dcs) (hDD : ∀ id, D id → S id ∧ ¬ d.W id) (hA0 : 0 ≤ A ∧ A ≤ 999) :
    SpecW Tryz.prog S H0 d.W 77 [.pointer (some ⟨d.hid, 0, none⟩), .agg [.int .i64 4, .int .i64 A, .int .i64 B].toArray] (HlRes HTI [] dcs X d (doIt x c (4, A, B))) := by
  obtain ⟨d1, d2, d3, d4, d5, d6, d7, d8, rfl⟩ := form_Deal hD
  refine SpecW.of0 Tryz.func77 rfl (by kernel_rfl) rfl (fun H hfin hfz => ?_)
  haveI o : On S H0 (Low H.n) H := ⟨fun id hs => ⟨(hfz id hs).1, (hfz id hs).2⟩⟩
  have h := h.on (S' := Low H.n) (A' := H)
  have hD : K_Deal.R D H x _ := K_Deal.same (fun id hid => (hfz id (hDD id hid).1).2) hD
  have hDD : ∀ id, D id → id < H.n ∧ ¬ d.W id := fun id hid => ⟨(hfz id (hDD id hid).1).1, (hDD id hid).2⟩
  obtain ⟨hid, sid, gid, bid, nid, w⟩ := d
  have hc := h.cellsH
  have hh := h.hall
  have hsl := hok.sl
  have h7 := hd.sch.h7
  have h1h := hd.sch.h1
  have hbl := hd.bl
  have hp2 := hd.prime.1
  have hp31 := hd.prime.2.1
  have hep := hok.ep
  have Lc : ∀ id, id < H.n → Low H.n id ∧ H.m id = H.m id := fun id p => ⟨p, rfl⟩
  refine KW.cF rfl rfl (by first | (simp; done) | decide) ?_
  refine KW.cT rfl rfl (by first | (simp; done) | decide) ?_
  refine KW.cT rfl rfl (by first | (simp; done) | decide) ?_
  have e : doIt x c (4, A, B) = if (c.wire.length : Int) ≤ A then (c, 2) else (come x c (c.pk A), 0) := rfl
  rw [e]
  have hwi := h.wire
  cases w with
  | none =>
    have ew : c.wire = [] := hwi
    have el : c.wire.length = 0 := by rw [ew]; rfl
    refine KW.ldF 6 hc rfl rfl rfl rfl rfl rfl rfl rfl rfl ?_
    refine KW.yes rfl rfl (by omega) ?_
    rw [if_pos (by omega)]
    exact KW.retW rfl rfl rfl rfl (fun H1 g => by have := g.n_; omega) (fun id hid _ => ⟨hid, rfl⟩) (fun H1 g => ⟨rfl, HlPost.same h (fun id p => p) (fun id hid => (g.froz id hid).2)⟩)
  | some iq =>
    obtain ⟨i, q⟩ := iq
    obtain ⟨hi1, hq, wcs, hi2, hcl⟩ := hwi
    have li : i < H.n := hi1
    obtain ⟨n1, n2, n3, n4, n5⟩ := HD.nodup h.dist
    have nh : i ≠ hid := (n5 i q rfl).1
    refine KW.ldF 6 hc rfl rfl rfl rfl rfl rfl rfl rfl rfl ?_
    refine KW.cnd rfl rfl (fun k1 => ?_) (fun k1 => ?_)
    · have k1 : A ≥ (c.wire.length : Int) := k1
      rw [if_pos (by omega)]
      exact KW.retW rfl rfl rfl rfl (fun H1 g => by have := g.n_; omega) (fun id hid _ => ⟨hid, rfl⟩) (fun H1 g => ⟨rfl, HlPost.same h (fun id p => p) (fun id hid => (g.froz id hid).2)⟩)
    have k1 : ¬ A ≥ (c.wire.length : Int) := k1
    rw [if_neg (by omega)]
    obtain ⟨hpk, hpok⟩ := hok.pk hA0.1 (by omega)
    refine KW.ldF 6 hc rfl rfl rfl rfl rfl rfl rfl rfl rfl ?_
    have hpX := hcl.2 _ _ hpk
    obtain ⟨pa1, pc1, pa2, pc2, eseg, hq1, hq2⟩ := split_Packet hpX
    rw [eseg] at hpX
    have hwl : c.wire.length * 5 ≤ wcs.length := hcl.1
    refine KW.idx0 rfl rfl rfl rfl rfl rfl rfl rfl rfl (by omega) (by omega) ?_
    refine KW.ldP hi1 hi2 rfl rfl rfl rfl rfl (bload_seg (ps := [.bool (c.pk A).1, .int .i64 (c.pk A).2.1, .int .i64 (c.pk A).2.2.1, .slice pa1 (c.pk A).2.2.2.1.length pc1, .slice pa2 (c.pk A).2.2.2.2.length pc2]) rfl rfl rfl (by show 0 + A.toNat * 5 + 5 ≤ wcs.length; omega) (by rw [Nat.zero_add]; exact eseg)) ?_
    obtain ⟨E, J, hat⟩ := HoOk.at hd hpok.ho hpok.ep
    refine KW.cF rfl rfl (by first | (simp; done) | decide) ?_
    refine KW.cT rfl rfl (by first | (simp; done) | decide) ?_
    refine KW.callW h.w rfl rfl rfl rfl rfl (implCome (p := c.pk A) (PX := X) hd hB hok hpok h hD (fun id p => hDD id p) hpX (fun id p => ⟨h.sx id p, h.out id p⟩)) (fun v H6 S6 m6 t6 w6 hv => ?_)
    refine KW.retW rfl rfl rfl rfl (fun H1 g => by have := g.n_; omega) (fun id hid hw => ⟨(t6 id hid).1, (t6 id hid).2 hw⟩) (fun H7 g => ⟨rfl, ?_⟩)
    refine HlPost.lift (HlPost.mem hv (fun id p => (g.froz id ?_).2) (by have := g.n_; omega)) (by omega) (by have := g.n_; omega) rfl (fun id p => p.elim .inl .inl) (fun id p => .inl p)
    rcases p with p | p | p
    · exact (t6 id (h.w id p)).1
    · exact p.elim (fun p => (t6 id (h.sx id p)).1) (fun p => (t6 id (h.sx id p)).1)
    · exact w6 id p
theorem implDo5 {A B : Int} (hd : DealOk x) (hB : B_Deal x) (hok : CerOk x c) (h : Hl HTI [] dcs S H0 X d c) (hD : K_Deal.R D H0 x dcs) (hDD : ∀ id, D id → S id ∧ ¬ d.W id) (hA0 : 0 ≤ A ∧ A ≤ 999) :
    SpecW Tryz.prog S H0 d.W 77 [.pointer (some ⟨d.hid, 0, none⟩), .agg [.int .i64 5, .int .i64 A, .int .i64 B].toArray] (HlRes HTI [] dcs X d (doIt x c (5, A, B))) := by
  obtain ⟨d1, d2, d3, d4, d5, d6, d7, d8, rfl⟩ := form_Deal hD
  refine SpecW.of0 Tryz.func77 rfl (by kernel_rfl) rfl (fun H hfin hfz => ?_)
  haveI o : On S H0 (Low H.n) H := ⟨fun id hs => ⟨(hfz id hs).1, (hfz id hs).2⟩⟩
  have h := h.on (S' := Low H.n) (A' := H)
  have hD : K_Deal.R D H x _ := K_Deal.same (fun id hid => (hfz id (hDD id hid).1).2) hD
  have hDD : ∀ id, D id → id < H.n ∧ ¬ d.W id := fun id hid => ⟨(hfz id (hDD id hid).1).1, (hDD id hid).2⟩
  obtain ⟨hid, sid, gid, bid, nid, w⟩ := d
  have hc := h.cellsH
  have hh := h.hall
  have hsl := hok.sl
  have h7 := hd.sch.h7
  have h1h := hd.sch.h1
  have hbl := hd.bl
  have hp2 := hd.prime.1
  have hp31 := hd.prime.2.1
  have hep := hok.ep
  have Lc : ∀ id, id < H.n → Low H.n id ∧ H.m id = H.m id := fun id p => ⟨p, rfl⟩
  refine KW.cF rfl rfl (by first | (simp; done) | decide) ?_
  refine KW.cF rfl rfl (by first | (simp; done) | decide) ?_
  refine KW.cT rfl rfl (by first | (simp; done) | decide) ?_
  have e : doIt x c (5, A, B) = if (c.wire.length : Int) ≤ A then (c, 2) else (dropW c A.toNat, 0) := rfl
  rw [e]
  have hwi := h.wire
  cases w with
  | none =>
    have ew : c.wire = [] := hwi
    have el : c.wire.length = 0 := by rw [ew]; rfl
    refine KW.ldF 6 hc rfl rfl rfl rfl rfl rfl rfl rfl rfl ?_
    refine KW.yes rfl rfl (by omega) ?_
    rw [if_pos (by omega)]
    exact KW.retW rfl rfl rfl rfl (fun H1 g => by have := g.n_; omega) (fun id hid _ => ⟨hid, rfl⟩) (fun H1 g => ⟨rfl, HlPost.same h (fun id p => p) (fun id hid => (g.froz id hid).2)⟩)
  | some iq =>
    obtain ⟨i, q⟩ := iq
    obtain ⟨hi1, hq, wcs, hi2, hcl⟩ := hwi
    have li : i < H.n := hi1
    obtain ⟨n1, n2, n3, n4, n5⟩ := HD.nodup h.dist
    have nh : i ≠ hid := (n5 i q rfl).1
    refine KW.ldF 6 hc rfl rfl rfl rfl rfl rfl rfl rfl rfl ?_
    refine KW.cnd rfl rfl (fun k1 => ?_) (fun k1 => ?_)
    · have k1 : A ≥ (c.wire.length : Int) := k1
      rw [if_pos (by omega)]
      exact KW.retW rfl rfl rfl rfl (fun H1 g => by have := g.n_; omega) (fun id hid _ => ⟨hid, rfl⟩) (fun H1 g => ⟨rfl, HlPost.same h (fun id p => p) (fun id hid => (g.froz id hid).2)⟩)
    have k1 : ¬ A ≥ (c.wire.length : Int) := k1
    rw [if_neg (by omega)]
    obtain ⟨hpk, hpok⟩ := hok.pk hA0.1 (by omega)
    refine KW.ldF 6 hc rfl rfl rfl rfl rfl rfl rfl rfl rfl ?_
    have hpX := hcl.2 _ _ hpk
    obtain ⟨pa1, pc1, pa2, pc2, eseg, hq1, hq2⟩ := split_Packet hpX
    rw [eseg] at hpX
    have hwl : c.wire.length * 5 ≤ wcs.length := hcl.1
    refine KW.idx0 rfl rfl rfl rfl rfl rfl rfl rfl rfl (by omega) (by omega) ?_
    refine KW.ldP hi1 hi2 rfl rfl rfl rfl rfl (bload_seg (ps := [.bool (c.pk A).1, .int .i64 (c.pk A).2.1, .int .i64 (c.pk A).2.2.1, .slice pa1 (c.pk A).2.2.2.1.length pc1, .slice pa2 (c.pk A).2.2.2.2.length pc2]) rfl rfl rfl (by show 0 + A.toNat * 5 + 5 ≤ wcs.length; omega) (by rw [Nat.zero_add]; exact eseg)) ?_
    obtain ⟨E, J, hat⟩ := HoOk.at hd hpok.ho hpok.ep
    have ewA : IntKind.i64.wrap (A + 1) = ((A.toNat + 1 : Nat) : Int) := by rw [wr (by omega) (by omega)]; omega
    have eA : A = ((A.toNat : Nat) : Int) := by omega
    refine KW.cT rfl rfl (by first | (simp; done) | decide) ?_
    refine KW.ldF 6 hc rfl rfl rfl rfl rfl rfl rfl rfl rfl ?_
    refine KW.callW (W := fun id => id = i) (fun id p => by rw [p]; exact hi1) rfl rfl rfl rfl rfl (by show SpecW _ _ _ _ _ [_, .int .i64 A, .int .i64 (IntKind.i64.wrap (A + 1))] _; rw [ewA]; conv => { arg 6; rw [eA] }; exact deletePk hi1 hi2 hcl hq (by omega) hok.wl (fun id p => ⟨h.sx id p, fun e => h.out id p (by rw [e]; exact HD.Win.2.2.2.2.2 i q rfl)⟩)) (fun v H5 S5 m5 t5 w5 hv => ?_)
    obtain ⟨rfl, cs', hm', hcl'⟩ := hv
    refine KW.thaw hid _ (t5 hid hh.1).1 (((t5 hid hh.1).2 (Ne.symm nh)).trans hh.2) ?_
    refine KW.st1 2 rfl rfl rfl rfl rfl rfl rfl rfl rfl rfl rfl rfl (by show 6 < ([_, _, _, _, _, _, _] ++ _).length; simp) ?_
    refine KW.freeze 2 rfl (fun A9 S9 hn9 hS9 t9 hm9 ho9 hno9 hlt9 => ?_)
    have k5 : ∀ id, id < H.n → S9 id ∧ (id ≠ hid → id ≠ i → A9.m id = H.m id) := fun id p => by
      refine ⟨(hS9 id).2 ?_, fun e1 e2 => ((t9.st id ⟨(t5 id p).1, e1⟩).2).trans ((t5 id p).2 e2)⟩
      by_cases e : id = hid
      · exact .inr e
      · exact .inl ⟨(t5 id p).1, e⟩
    have ki : A9.m i = H5.m i := (t9.st i ⟨(t5 i li).1, nh⟩).2
    have kx : ∀ id, X id → S9 id ∧ A9.m id = H.m id := fun id p => ⟨(k5 id (h.sx id p)).1, (k5 id (h.sx id p)).2 (fun e => h.out id p (by rw [e]; exact HD.Win.1)) (fun e => h.out id p (by rw [e]; exact HD.Win.2.2.2.2.2 i q rfl))⟩
    have kx5 : ∀ id, X id → A9.m id = H5.m id := fun id p => by
      rw [(kx id p).2, (t5 id (h.sx id p)).2 (fun e => h.out id p (by rw [e]; exact HD.Win.2.2.2.2.2 i q rfl))]
    have hle : (c.wire.eraseIdx A.toNat).length = c.wire.length - 1 := by rw [List.length_eraseIdx, if_pos (by omega)]
    have h9 : Hl HTI [] [.int .i64 x.1.1, .slice d1 x.1.2.1.length d2, .int .i64 x.1.2.2.1, .int .i64 x.1.2.2.2.1, .slice d3 x.1.2.2.2.2.length d4, .int .i64 x.2.1, .slice d5 x.2.2.1.length d6, .slice d7 x.2.2.2.length d8] S9 A9 X ⟨hid, sid, gid, bid, nid, some (i, q)⟩ (dropW c A.toNat) := by
      refine ⟨fun id p => (kx id p).1, ⟨(hS9 hid).2 (.inr rfl), ?_⟩, h.seats.mv ⟨(k5 _ h.seats.1).1, (k5 _ h.seats.1).2 n1.1.symm (n5 i q rfl).2.1.symm⟩ (fun id p => (kx id p).2) (fun _ p => p), h.got.mv ⟨(k5 _ h.got.1).1, (k5 _ h.got.1).2 n1.2.1.symm (n5 i q rfl).2.2.1.symm⟩ (fun id p => (kx id p).2) (fun _ p => p), h.has.mv ⟨(k5 _ h.has.1).1, (k5 _ h.has.1).2 n1.2.2.1.symm (n5 i q rfl).2.2.2.1.symm⟩, h.named.mv ⟨(k5 _ h.named.1).1, (k5 _ h.named.1).2 n1.2.2.2.symm (n5 i q rfl).2.2.2.2.symm⟩, ⟨(k5 i li).1, by show (c.wire.eraseIdx A.toNat).length ≤ q; omega, cs', ki.trans hm', hcl'.mv kx5 (fun _ p => p)⟩, h.dist, h.out⟩
      rw [hm9]
      simp only [HD.cells, HD.wv, dropW, hle]
      rfl
    have hX9 : K_Packet.R X A9 (c.pk A) _ := K_Packet.same (fun id p => (kx id p).2) hpX
    have hok9 := hok.drop A.toNat
    refine KW.cF rfl rfl (by first | (simp; done) | decide) ?_
    refine KW.retW rfl rfl rfl rfl (fun H1 g => by have := g.n_; omega) (fun id p hw => ⟨(k5 id p).1, (k5 id p).2 (fun e => hw (by rw [e]; exact HD.Win.1)) (fun e => hw (by rw [e]; exact HD.Win.2.2.2.2.2 i q rfl))⟩) (fun H7 g => ⟨rfl, ?_⟩)
    exact ⟨X, _, h9.mv (fun id p => ⟨p.imp (fun p => p) .inl, (g.froz id (p.elim (h9.w id) (h9.sx id))).2⟩), rfl, fun id p => .inl p, fun id p => .inl p⟩
end
end Go.Proofs.YtijmkfnmdhpakaaGreat.Am
/- Contracts: the program's ceremony begins. Each holds under its own conditions. -/
set_option linter.unusedVariables false
set_option linter.unusedSimpArgs false
set_option maxRecDepth 20000
namespace Go.Proofs.YtijmkfnmdhpakaaGreat.Am
open Go Go.RowKit Go.Proofs
abbrev seatC : List Value := [.int .i64 (-1), .slice none 0 0, .slice none 0 0, .int .i64 (-1), .slice none 0 0, .slice none 0 0, .int .i64 0]
/-- The seats at the start. -/
def seatZ : Nat → List Value
  | 0 => []
  | n + 1 => seatZ n ++ seatC
theorem seatZ_len : ∀ n, (seatZ n).length = n * 7
  | 0 => rfl
  | n + 1 => by simp only [seatZ, List.length_append, seatZ_len n, seatC, List.length_cons, List.length_nil]; omega
theorem seatZ_at : ∀ (n i : Nat), i < n → ((seatZ n).drop (i * 7)).take 7 = seatC
  | 0, i, h => by omega
  | n + 1, i, h => by
    simp only [seatZ]
    by_cases e : i = n
    · subst e
      rw [List.drop_append_of_le_length (by rw [seatZ_len]; omega), List.drop_eq_nil_of_le (by rw [seatZ_len]; omega)]
      rfl
    · rw [List.drop_append_of_le_length (by rw [seatZ_len]; omega), List.take_append_of_le_length (by rw [List.length_drop, seatZ_len]; omega)]
      exact seatZ_at n i (by omega)
theorem cl_seat0 (X : Ids) (A : AH) (n : Nat) : Cl K_Seat X A (List.replicate n seat0) (seatZ n) := by
  refine ⟨by rw [List.length_replicate, seatZ_len]; exact Nat.le_refl _, fun i x hx => ?_⟩
  have hi := (List.getElem?_eq_some_iff.1 hx).1
  rw [List.length_replicate] at hi
  obtain rfl := List.eq_of_mem_replicate (List.mem_of_getElem? hx)
  show K_Seat.R X A seat0 (((seatZ n).drop (i * 7)).take 7)
  rw [seatZ_at n i hi]
  have hn : KI.Sl X A (.slice none 0 0) ([] : List Int) := ⟨rfl, none, 0, rfl, fun _ => rfl⟩ |> fun h => .inl h
  exact mk_Seat (x := seat0) (mk_Purse (x := purse0) hn hn) (mk_Purse (x := purse0) hn hn)
theorem built_Hall (vs : Array Value) (v0 v1 v2 v3 v4 v5 v6 v7 : Value) (h : vs = #[v0, v1, v2, v3, v4, v5, v6, v7]) : Tryz.prog.built 91 [(1, .agg vs)] = some #[.int .i64 0, .slice none 0 0, .int .i64 0, .slice none 0 0, .slice none 0 0, .slice none 0 0, .slice none 0 0, v0, v1, v2, v3, v4, v5, v6, v7] := by subst h; kernel_rfl
theorem built_Purse0 : Tryz.prog.built 99 [(0, .int .i64 (-1))] = some #[.int .i64 (-1), .slice none 0 0, .slice none 0 0] := by kernel_rfl
theorem built_Seat2 (a b c d e f : Value) : Tryz.prog.built 101 [(0, .agg #[a, b, c]), (1, .agg #[d, e, f])] = some #[a, b, c, d, e, f, .int .i64 0] := by kernel_rfl
theorem built_Opener (k : Int) (o1 o2 o3 : Option Addr) (n1 c1 n2 c2 n3 c3 : Nat) : Tryz.prog.built 58 [(0, .int .i64 k), (1, .slice o1 n1 c1), (2, .slice o2 n2 c2), (3, .slice o3 n3 c3)] = some #[.int .i64 k, .slice o1 n1 c1, .slice o2 n2 c2, .slice o3 n3 c3] := by kernel_rfl
/-- Good memories, of which less is spoken of. -/
theorem Good.sub {S : Ids} {H0 H : AH} {T T' : List Var} {n : Nat} (g : Good S H0 T n H) (f : Nat → Nat) (hf : ∀ i j, f i = f j → i = j) (h : ∀ i u, T'[i]? = some u → T[f i]? = some u) : Good S H0 T' n H :=
  ⟨g.n_, g.fin, g.froz, fun i u hi => g.vars (f i) u (h i u hi), fun i j u w hi hj e => hf i j (g.dist (f i) (f j) u w (h i u hi) (h j w hj) e)⟩
theorem T3c {a b : Var} {i : Nat} {ty : TypeId} {r : Bool} {cs cs' : List Value} (h : cs = cs') : ([a, b, (i, ⟨ty, r, cs⟩)] : List Var) = [a, b, (i, ⟨ty, r, cs'⟩)] := by rw [h]
theorem Good.castT {S : Ids} {H0 H : AH} {T T' : List Var} {n : Nat} (g : Good S H0 T n H) (h : T = T') : Good S H0 T' n H := h ▸ g
theorem Good.newV {m : Nat} {H0 H : AH} {T : List Var} {n j id : Nat} {b : Blk} (g : Good (Low m) H0 T n H) (hj : T[j]? = some (id, b)) : New m H.n id := by
  have h := g.vars j _ hj
  have hn := g.n_
  exact ⟨Nat.not_lt.1 h.2.2, by rw [hn]; exact h.2.1⟩
theorem Good.nodup {S : Ids} {H0 H : AH} {T : List Var} {n : Nat} (g : Good S H0 T n H) : (T.map Prod.fst).Nodup := by
  refine List.pairwise_iff_getElem.2 fun i j hi hj hij e => ?_
  rw [List.length_map] at hi hj
  rw [List.getElem_map, List.getElem_map] at e
  have := g.dist i j _ _ (List.getElem?_eq_getElem hi) (List.getElem?_eq_getElem hj) e
  omega
theorem Good.no2 {S : Ids} {H0 H : AH} {a b c d : Var} {n : Nat} (g : Good S H0 [a, b, c, d] n H) : Good S H0 [a, b, d] n H := by
  refine g.sub (fun i => if i < 2 then i else i + 1) (fun i j h => by split at h <;> split at h <;> omega) (fun i u hi => ?_)
  match i, hi with
  | 0, hi => exact hi
  | 1, hi => exact hi
  | 2, hi => exact hi
  | i + 3, hi => simp at hi
section
variable {S : Ids} {H0 : AH} {x : T_Deal} {dcs : List Value}
theorem emptyPurse : Spec Tryz.prog S H0 112 [] (fun v => v = .agg [.int .i64 (-1), .slice none 0 0, .slice none 0 0].toArray) := by
  refine Spec.of1 Tryz.func112 rfl (by kernel_rfl) rfl (fun H _ => ?_)
  refine KW.build rfl rfl rfl rfl rfl (built_Purse0) ?_
  exact KW.ret rfl rfl rfl rfl (rfl)
theorem newHall (hd : DealOk x) (hD : K_Deal.R S H0 x dcs) : SpecM Tryz.prog S H0 76 [.agg dcs.toArray] (fun n v H1 => ∃ (d : HD) (sp : Option Nat), v = .pointer (some ⟨d.hid, 0, sp⟩) ∧ Hl HTI [] dcs (New n H1.n) H1 (fun _ => False) d (cer0 x.1.1.toNat)) := by
  obtain ⟨d1, d2, d3, d4, d5, d6, d7, d8, rfl⟩ := form_Deal hD
  have h7 := hd.sch.h7
  have h1 := hd.sch.h1
  refine SpecM.of1 Tryz.func76 rfl (by kernel_rfl) rfl (fun H _ => ?_)
  refine KW.build rfl rfl rfl rfl rfl (built_Hall _ _ _ _ _ _ _ _ _ rfl) ?_
  refine KW.lpM rfl rfl (fun s : Nat × Option Nat => [(3, .int .i64 x.1.1), (4, .pointer (some ⟨H.n + 1, 0, some 1⟩)), (11, .int .i64 x.1.1), (12, .int .i64 s.1)]) (fun s => Low H.n) (fun s => H) (fun s => [(H.n, ⟨40, true, [.int .i64 x.1.1, .slice d1 x.1.2.1.length d2, .int .i64 x.1.2.2.1, .int .i64 x.1.2.2.2.1, .slice d3 x.1.2.2.2.2.length d4, .int .i64 x.2.1, .slice d5 x.2.2.1.length d6, .slice d7 x.2.2.2.length d8]⟩), (H.n + 1, ⟨91, true, [.int .i64 0, (match s.2 with | none => .slice none 0 0 | some o => .slice (some ⟨o, 0, some 7⟩) s.1 s.1), .int .i64 0, .slice none 0 0, .slice none 0 0, .slice none 0 0, .slice none 0 0, .int .i64 x.1.1, .slice d1 x.1.2.1.length d2, .int .i64 x.1.2.2.1, .int .i64 x.1.2.2.2.1, .slice d3 x.1.2.2.2.2.length d4, .int .i64 x.2.1, .slice d5 x.2.2.1.length d6, .slice d7 x.2.2.2.length d8]⟩)] ++ (match s.2 with | none => [] | some o => [(o, ⟨101, true, seatZ s.1⟩)])) (fun s => s.1 ≤ x.1.1.toNat ∧ (s.2 = none ↔ s.1 = 0)) (fun s => x.1.1.toNat - s.1) ((0, none)) (⟨by omega, by simp⟩) ⟨rfl, rfl, rfl, rfl, trivial⟩ rfl rfl (rfl) (fun s hi bE n => ?_)
  obtain ⟨i, ob⟩ := s
  obtain ⟨i1, i2⟩ := hi
  simp only at i1 i2
  refine KW.cnd rfl rfl (fun k1 => ?gin) (fun k1 => ?gout)
  case gin =>
    have k1 : (i : Int) < x.1.1 := k1
    cases ob with
    | none =>
      obtain rfl := i2.1 rfl
      simp only
      refine KW.callE rfl rfl rfl rfl rfl (emptyPurse) (fun _ _ => ?_)
      refine KW.callE rfl rfl rfl rfl rfl (emptyPurse) (fun _ _ => ?_)
      refine KW.build rfl rfl rfl rfl rfl (built_Seat2 _ _ _ _ _ _) ?_
      refine KW.litS1 rfl rfl rfl rfl rfl rfl rfl rfl rfl rfl rfl rfl ?_
      refine KW.appNS rfl rfl rfl rfl rfl rfl rfl (by decide) rfl (fun H1 g => acells_seg (g.blk (j := 2) rfl).1 (by show 0 + 1 * 7 ≤ 7; decide)) rfl (by decide) (by decide) (by decide) ?_
      refine KW.nxt rfl rfl (fun H' g => ⟨(1, some _), ⟨by simp only; omega, by simp⟩, by first | omega | (simp only; omega), ⟨rfl, rfl, rfl, congrArg (Value.int .i64) (inc64 (by omega)), trivial⟩, g.no2⟩)
    | some o =>
      simp only
      refine KW.callE rfl rfl rfl rfl rfl (emptyPurse) (fun _ _ => ?_)
      refine KW.callE rfl rfl rfl rfl rfl (emptyPurse) (fun _ _ => ?_)
      refine KW.build rfl rfl rfl rfl rfl (built_Seat2 _ _ _ _ _ _) ?_
      refine KW.cnt (fun m hm => ?_)
      refine KW.litS1 rfl rfl rfl rfl rfl rfl rfl rfl rfl rfl rfl rfl ?_
      refine KW.appTS 2 rfl rfl rfl rfl rfl rfl rfl rfl (by decide) rfl (fun H1 g => acells_seg (g.blk (j := 3) rfl).1 (by show 0 + 1 * 7 ≤ 7; decide)) (by show 0 + i * 7 ≤ (seatZ i).length; rw [seatZ_len]; omega) rfl (by decide) (by show (i + 1) * 120 ≤ _; omega) (by omega) ?_
      have e : ((seatZ i).drop 0).take (i * 7) = seatZ i := by rw [List.drop_zero, List.take_of_length_le (by rw [seatZ_len]; exact Nat.le_refl _)]
      have e2 : ((seatZ i).drop 0).take (i * 7) ++ seatC = seatZ (i + 1) := by rw [e]; rfl
      refine KW.nxt rfl rfl (fun H' g => ⟨(i + 1, some (m + 1)), ⟨by simp only; omega, by simp⟩, by first | omega | (simp only; omega), ⟨rfl, rfl, rfl, congrArg (Value.int .i64) (inc64 (by omega)), trivial⟩, (g.take 3).castT (show ([_, _, (m + 1, ⟨_, true, _⟩)] : List Var) = [_, _, (m + 1, ⟨_, true, _⟩)] from T3c e2)⟩)
  have k1 : ¬ (i : Int) < x.1.1 := k1
  have : i = x.1.1.toNat := by omega
  subst this
  cases ob with
  | none => have := i2.1 rfl; omega
  | some o =>
    simp only
    refine KW.mk1 rfl rfl rfl rfl rfl rfl rfl rfl rfl rfl rfl rfl x.1.1.toNat (by omega) (by omega) (by omega) (by show 24 * _ ≤ _; omega) ?_
    refine KW.mk1 rfl rfl rfl rfl rfl rfl rfl rfl rfl rfl rfl rfl x.1.1.toNat (by omega) (by omega) (by omega) (by show 1 * _ ≤ _; omega) ?_
    refine KW.mk1 rfl rfl rfl rfl rfl rfl rfl rfl rfl rfl rfl rfl x.1.1.toNat (by omega) (by omega) (by omega) (by show 1 * _ ≤ _; omega) ?_
    refine KW.build rfl rfl rfl rfl rfl (built_Opener _ _ _ _ _ _ _ _ _ _) ?_
    refine KW.retM1 rfl rfl rfl rfl (fun H1 g => ⟨⟨H.n + 1, o, n, n + 1, n + 1 + 1, none⟩, _, rfl, ?_⟩)
    have eT : (cer0 x.1.1.toNat).seats.length = x.1.1.toNat := by simp [cer0]
    refine ⟨fun id p => p.elim, ⟨g.newV (j := 1) rfl, ?_⟩, ⟨g.newV (j := 2) rfl, _, (g.blk (j := 2) rfl).1, cl_seat0 _ _ _⟩, ⟨g.newV (j := 3) rfl, _, (g.blk (j := 3) rfl).1, by simp [cer0], Cl.repN _ _ _⟩, ⟨g.newV (j := 4) rfl, ?_⟩, ⟨g.newV (j := 5) rfl, ?_⟩, rfl, (List.nodup_cons.1 g.nodup).2, fun id p => p.elim⟩
    · rw [(g.blk (j := 1) rfl).1]
      simp only [HD.cells, HD.wv, cer0, List.length_replicate, List.length_nil]
      rfl
    · rw [(g.blk (j := 4) rfl).1]
      simp [cer0]
    · rw [(g.blk (j := 5) rfl).1]
      simp [cer0]
end
end Go.Proofs.YtijmkfnmdhpakaaGreat.Am
/- Contracts: the reference's ceremony begins. Each holds under its own conditions. -/
set_option linter.unusedVariables false
set_option linter.unusedSimpArgs false
set_option maxRecDepth 20000
namespace Go.Proofs.YtijmkfnmdhpakaaGreat.Am
open Go Go.RowKit Go.Proofs
theorem built_Run (o : Option Addr) : Tryz.prog.built 78 [(0, .pointer o)] = some #[.pointer o, .int .i64 0, .slice none 0 0, .int .i64 0, .slice none 0 0, .slice none 0 0, .slice none 0 0, .slice none 0 0] := by kernel_rfl
theorem Good.pick5 {S : Ids} {H0 H : AH} {a b c d e f g h i j : Var} {n : Nat} (G : Good S H0 [a, b, c, d, e, f, g, h, i, j] n H) : Good S H0 [a, c, f, h, j] n H := by
  have inj : ∀ i j : Nat, (if i = 0 then 0 else if i = 1 then 2 else if i = 2 then 5 else if i = 3 then 7 else i + 5) = (if j = 0 then 0 else if j = 1 then 2 else if j = 2 then 5 else if j = 3 then 7 else j + 5) → i = j := fun i j h => by
    repeat' split at h
    all_goals omega
  refine G.sub (fun i => if i = 0 then 0 else if i = 1 then 2 else if i = 2 then 5 else if i = 3 then 7 else i + 5) inj (fun i u hi => ?_)
  match i, hi with
  | 0, hi => exact hi
  | 1, hi => exact hi
  | 2, hi => exact hi
  | 3, hi => exact hi
  | 4, hi => exact hi
  | i + 5, hi => simp at hi
theorem T5c {a : Var} {i1 i2 i3 i4 : Nat} {t1 t2 t3 t4 : TypeId} {c1 c2 c3 c4 d1 d2 d3 d4 : List Value} (h1 : c1 = d1) (h2 : c2 = d2) (h3 : c3 = d3) (h4 : c4 = d4) : ([a, (i1, ⟨t1, true, c1⟩), (i2, ⟨t2, true, c2⟩), (i3, ⟨t3, true, c3⟩), (i4, ⟨t4, true, c4⟩)] : List Var) = [a, (i1, ⟨t1, true, d1⟩), (i2, ⟨t2, true, d2⟩), (i3, ⟨t3, true, d3⟩), (i4, ⟨t4, true, d4⟩)] := by rw [h1, h2, h3, h4]
theorem drop0_take {l : List Value} {n : Nat} (h : l.length = n) : (l.drop 0).take n = l := by rw [List.drop_zero, List.take_of_length_le (by omega)]
theorem repSnoc (n : Nat) (v : Value) : List.replicate n v ++ [v] = List.replicate (n + 1) v := by rw [List.replicate_succ', ]
section
variable {S : Ids} {H0 : AH} {D : Ids} {x : T_Deal} {dcs : List Value}
theorem l08Begin {did : Nat} (hd : DealOk x) (hD : K_Deal.R D H0 x dcs) (hDv : Has3 S H0 did 0 dcs) : SpecM Tryz.prog S H0 69 [.pointer (some ⟨did, 0, none⟩)] (fun n v H1 => ∃ (d : HD) (sp : Option Nat), v = .pointer (some ⟨d.hid, 0, sp⟩) ∧ Hl HTS [.pointer (some ⟨did, 0, none⟩)] [] (New n H1.n) H1 (fun _ => False) d (cer0 x.1.1.toNat)) := by
  obtain ⟨d1, d2, d3, d4, d5, d6, d7, d8, rfl⟩ := form_Deal hD
  have h7 := hd.sch.h7
  have h1 := hd.sch.h1
  refine SpecM.of1 Tryz.func69 rfl (by kernel_rfl) rfl (fun H _ => ?_)
  have hDv := hDv.up (S' := Low H.n) (H' := H)
  refine KW.build rfl rfl rfl rfl rfl (built_Run _) ?_
  refine KW.lpM rfl rfl (fun s : Nat × Option (Nat × Nat × Nat × Nat) × List Value => [(0, .pointer (some ⟨did, 0, none⟩)), (3, .pointer (some ⟨H.n, 0, some 0⟩)), (4, .int .i64 s.1)]) (fun s => Low H.n) (fun s => H) (fun s => [(H.n, ⟨78, true, [.pointer (some ⟨did, 0, none⟩), .int .i64 0, (match s.2.1 with | none => .slice none 0 0 | some o => .slice (some ⟨o.1, 0, some 7⟩) s.1 s.1), .int .i64 (-1), (match s.2.1 with | none => .slice none 0 0 | some o => .slice (some ⟨o.2.1, 0, some 1⟩) s.1 s.1), (match s.2.1 with | none => .slice none 0 0 | some o => .slice (some ⟨o.2.2.1, 0, some 1⟩) s.1 s.1), (match s.2.1 with | none => .slice none 0 0 | some o => .slice (some ⟨o.2.2.2, 0, some 1⟩) s.1 s.1), .slice none 0 0]⟩)] ++ (match s.2.1 with | none => [] | some o => [(o.1, ⟨101, true, seatZ s.1⟩), (o.2.1, ⟨22, true, s.2.2⟩), (o.2.2.1, ⟨4, true, List.replicate s.1 (.bool false)⟩), (o.2.2.2, ⟨4, true, List.replicate s.1 (.bool false)⟩)])) (fun s => s.1 ≤ x.1.1.toNat ∧ (s.2.1 = none ↔ s.1 = 0) ∧ s.2.2.length = s.1 ∧ ∀ j, j < s.1 → ∃ id, s.2.2[j]? = some (.slice (some ⟨id, 0, some 1⟩) 0 0)) (fun s => x.1.1.toNat - s.1) ((0, none, [])) (⟨by omega, by simp, rfl, fun j h => absurd h (by simp)⟩) ⟨rfl, rfl, rfl, trivial⟩ rfl rfl (rfl) (fun s hi bE n => ?_)
  obtain ⟨i, ob, gs⟩ := s
  obtain ⟨i1, i2, i3, i4⟩ := hi
  simp only at i1 i2 i3 i4
  refine KW.ldF 0 hDv rfl rfl rfl rfl rfl rfl rfl rfl rfl ?_
  refine KW.cnd rfl rfl (fun k1 => ?gin) (fun k1 => ?gout)
  case gin =>
    have k1 : (i : Int) < x.1.1 := k1
    cases ob with
    | none =>
      obtain rfl := i2.1 rfl
      obtain rfl : gs = [] := List.eq_nil_of_length_eq_zero i3
      simp only
      refine KW.build rfl rfl rfl rfl rfl (built_Purse0) ?_
      refine KW.build rfl rfl rfl rfl rfl (built_Purse0) ?_
      refine KW.build rfl rfl rfl rfl rfl (built_Seat2 _ _ _ _ _ _) ?_
      refine KW.cnt (fun m hm => ?_)
      refine KW.litS1 rfl rfl rfl rfl rfl rfl rfl rfl rfl rfl rfl rfl ?_
      refine KW.appNS rfl rfl rfl rfl rfl rfl rfl (by decide) rfl (fun H1 g => acells_seg (g.blk (j := 1) rfl).1 (by show 0 + 1 * 7 ≤ 7; decide)) rfl (by decide) (by decide) (by decide) ?_
      refine KW.lit rfl rfl rfl rfl rfl rfl rfl rfl rfl rfl [] rfl rfl (fun v hv => by simp at hv) rfl ?_
      refine KW.lit rfl rfl rfl rfl rfl rfl rfl rfl rfl rfl [.slice (some ⟨m + 1 + 1, 0, some 1⟩) 0 0] rfl rfl (fun v hv => by simp at hv; subst hv; rfl) rfl ?_
      refine KW.appNS (m := 1) (ys := [.slice (some ⟨m + 1 + 1, 0, some 1⟩) 0 0]) rfl rfl rfl rfl rfl rfl rfl (by decide) rfl (fun H1 g => acells_seg (g.blk (j := 4) rfl).1 (by show 0 + 1 * 1 ≤ 1; decide)) rfl (by decide) (by decide) (by decide) ?_
      refine KW.lit rfl rfl rfl rfl rfl rfl rfl rfl rfl rfl [.bool false] rfl rfl (fun v hv => by simp at hv; subst hv; rfl) rfl ?_
      refine KW.appNS (m := 1) (ys := [.bool false]) rfl rfl rfl rfl rfl rfl rfl (by decide) rfl (fun H1 g => acells_seg (g.blk (j := 6) rfl).1 (by show 0 + 1 * 1 ≤ 1; decide)) rfl (by decide) (by decide) (by decide) ?_
      refine KW.lit rfl rfl rfl rfl rfl rfl rfl rfl rfl rfl [.bool false] rfl rfl (fun v hv => by simp at hv; subst hv; rfl) rfl ?_
      refine KW.appNS (m := 1) (ys := [.bool false]) rfl rfl rfl rfl rfl rfl rfl (by decide) rfl (fun H1 g => acells_seg (g.blk (j := 8) rfl).1 (by show 0 + 1 * 1 ≤ 1; decide)) rfl (by decide) (by decide) (by decide) ?_
      have hr : ∀ j, j < 1 → ∃ id, ([.slice (some ⟨m + 1 + 1, 0, some 1⟩) 0 0] : List Value)[j]? = some (.slice (some ⟨id, 0, some 1⟩) 0 0) := fun j hj => by
        obtain rfl : j = 0 := by omega
        exact ⟨m + 1 + 1, rfl⟩
      refine KW.nxt rfl rfl (fun H' g => ⟨(1, some (m + 1, m + 4, m + 6, m + 8), [Value.slice (some ⟨m + 1 + 1, 0, some 1⟩) 0 0]), ⟨by simp only; omega, by simp, rfl, hr⟩, by first | omega | (simp only; omega), ⟨rfl, rfl, congrArg (Value.int .i64) (inc64 (by omega)), trivial⟩, g.pick5⟩)
    | some o =>
      obtain ⟨o1, o2, o3, o4⟩ := o
      simp only
      refine KW.build rfl rfl rfl rfl rfl (built_Purse0) ?_
      refine KW.build rfl rfl rfl rfl rfl (built_Purse0) ?_
      refine KW.build rfl rfl rfl rfl rfl (built_Seat2 _ _ _ _ _ _) ?_
      refine KW.cnt (fun m hm => ?_)
      refine KW.litS1 rfl rfl rfl rfl rfl rfl rfl rfl rfl rfl rfl rfl ?_
      refine KW.appTS 1 rfl rfl rfl rfl rfl rfl rfl rfl (by decide) rfl (fun H1 g => acells_seg (g.blk (j := 5) rfl).1 (by show 0 + 1 * 7 ≤ 7; decide)) (by show 0 + i * 7 ≤ (seatZ i).length; rw [seatZ_len]; omega) rfl (by decide) (by show (i + 1) * 120 ≤ _; omega) (by omega) ?_
      refine KW.lit rfl rfl rfl rfl rfl rfl rfl rfl rfl rfl [] rfl rfl (fun v hv => by simp at hv) rfl ?_
      refine KW.lit rfl rfl rfl rfl rfl rfl rfl rfl rfl rfl [.slice (some ⟨m + 1 + 1, 0, some 1⟩) 0 0] rfl rfl (fun v hv => by simp at hv; subst hv; rfl) rfl ?_
      refine KW.appTS (m := 1) (ys := [.slice (some ⟨m + 1 + 1, 0, some 1⟩) 0 0]) 2 rfl rfl rfl rfl rfl rfl rfl rfl (by decide) rfl (fun H1 g => acells_seg (g.blk (j := 7) rfl).1 (by show 0 + 1 * 1 ≤ 1; decide)) (by show 0 + i * 1 ≤ gs.length; omega) rfl (by decide) (by show (i + 1) * 24 ≤ _; omega) (by omega) ?_
      refine KW.lit rfl rfl rfl rfl rfl rfl rfl rfl rfl rfl [.bool false] rfl rfl (fun v hv => by simp at hv; subst hv; rfl) rfl ?_
      refine KW.appTS (m := 1) (ys := [.bool false]) 3 rfl rfl rfl rfl rfl rfl rfl rfl (by decide) rfl (fun H1 g => acells_seg (g.blk (j := 8) rfl).1 (by show 0 + 1 * 1 ≤ 1; decide)) (by show 0 + i * 1 ≤ (List.replicate i (Value.bool false)).length; simp) rfl (by decide) (by show (i + 1) * 1 ≤ _; omega) (by omega) ?_
      refine KW.lit rfl rfl rfl rfl rfl rfl rfl rfl rfl rfl [.bool false] rfl rfl (fun v hv => by simp at hv; subst hv; rfl) rfl ?_
      refine KW.appTS (m := 1) (ys := [.bool false]) 4 rfl rfl rfl rfl rfl rfl rfl rfl (by decide) rfl (fun H1 g => acells_seg (g.blk (j := 9) rfl).1 (by show 0 + 1 * 1 ≤ 1; decide)) (by show 0 + i * 1 ≤ (List.replicate i (Value.bool false)).length; simp) rfl (by decide) (by show (i + 1) * 1 ≤ _; omega) (by omega) ?_
      have e1 : ((seatZ i).drop 0).take (i * 7) ++ seatC = seatZ (i + 1) := by rw [drop0_take (seatZ_len i)]; rfl
      have e2 : (gs.drop 0).take (i * 1) ++ [.slice (some ⟨m + 1 + 1, 0, some 1⟩) 0 0] = gs ++ [.slice (some ⟨m + 1 + 1, 0, some 1⟩) 0 0] := by rw [drop0_take (by omega)]
      have e3 : ((List.replicate i (Value.bool false)).drop 0).take (i * 1) ++ [.bool false] = List.replicate (i + 1) (Value.bool false) := by rw [drop0_take (by simp)]; exact repSnoc _ _
      have hr : ∀ j, j < i + 1 → ∃ id, (gs ++ [.slice (some ⟨m + 1 + 1, 0, some 1⟩) 0 0])[j]? = some (.slice (some ⟨id, 0, some 1⟩) 0 0) := fun j hj => by
        by_cases e : j < i
        · obtain ⟨id, h⟩ := i4 j e
          exact ⟨id, by rw [List.getElem?_append_left (by omega)]; exact h⟩
        · refine ⟨m + 1 + 1, ?_⟩
          rw [List.getElem?_append_right (by omega), i3, show j - i = 0 by omega]
          rfl
      refine KW.nxt rfl rfl (fun H' g => ⟨(i + 1, some (m + 1, m + 4, m + 6, m + 8), gs ++ [Value.slice (some ⟨m + 1 + 1, 0, some 1⟩) 0 0]), ⟨by simp only; omega, by simp, by simp [i3], hr⟩, by first | omega | (simp only; omega), ⟨rfl, rfl, congrArg (Value.int .i64) (inc64 (by omega)), trivial⟩, (g.take 5).castT (show ([_, (m + 1, ⟨_, true, _⟩), (m + 4, ⟨_, true, _⟩), (m + 6, ⟨_, true, _⟩), (m + 8, ⟨_, true, _⟩)] : List Var) = [_, (m + 1, ⟨_, true, _⟩), (m + 4, ⟨_, true, _⟩), (m + 6, ⟨_, true, _⟩), (m + 8, ⟨_, true, _⟩)] from T5c e1 e2 e3 e3)⟩)
  have k1 : ¬ (i : Int) < x.1.1 := k1
  have : i = x.1.1.toNat := by omega
  subst this
  cases ob with
  | none => have := i2.1 rfl; omega
  | some o =>
    obtain ⟨o1, o2, o3, o4⟩ := o
    simp only
    refine KW.retM1 rfl rfl rfl rfl (fun H1 g => ⟨⟨H.n, o1, o2, o3, o4, none⟩, _, rfl, ?_⟩)
    refine ⟨fun id p => p.elim, ⟨g.newV (j := 0) rfl, ?_⟩, ⟨g.newV (j := 1) rfl, _, (g.blk (j := 1) rfl).1, cl_seat0 _ _ _⟩, ⟨g.newV (j := 2) rfl, _, (g.blk (j := 2) rfl).1, by simp [cer0, i3], Cl.repE i3 i4⟩, ⟨g.newV (j := 3) rfl, ?_⟩, ⟨g.newV (j := 4) rfl, ?_⟩, rfl, g.nodup, fun id p => p.elim⟩
    · rw [(g.blk (j := 0) rfl).1]
      simp only [HD.cells, HD.wv, cer0, List.length_replicate, List.length_nil]
      rfl
    · rw [(g.blk (j := 3) rfl).1]
      simp [cer0]
    · rw [(g.blk (j := 4) rfl).1]
      simp [cer0]
end
end Go.Proofs.YtijmkfnmdhpakaaGreat.Am
/- Contracts: the reference's ceremony: a deed is done; both sides: who is not a holder. Each holds under its own conditions. -/
set_option linter.unusedVariables false
set_option linter.unusedSimpArgs false
set_option maxRecDepth 20000
namespace Go.Proofs.YtijmkfnmdhpakaaGreat.Am
open Go Go.RowKit Go.Proofs
section
variable {S : Ids} {H0 : AH} {X D : Ids} {d : HD} {c : Cer} {dcs : List Value} {x : T_Deal}
theorem specDo9 {A B : Int} {did : Nat} (hd : DealOk x) (hB : B_Deal x) (hok : CerOk x c) (h : Hl HTS [.pointer (some ⟨did, 0, none⟩)] [] S H0 X d c) (hD : K_Deal.R D H0 x dcs) (hDv : Has3 D H0 did 0 dcs) (hDD : ∀ id, D id → S id ∧ ¬ d.W id)  :
    SpecW Tryz.prog S H0 d.W 70 [.pointer (some ⟨d.hid, 0, none⟩), .agg [.int .i64 9, .int .i64 A, .int .i64 B].toArray] (HlRes HTS [.pointer (some ⟨did, 0, none⟩)] [] X d (doIt x c (9, A, B))) := by
  refine SpecW.of0 Tryz.func70 rfl (by kernel_rfl) rfl (fun H hfin hfz => ?_)
  haveI o : On S H0 (Low H.n) H := ⟨fun id hs => ⟨(hfz id hs).1, (hfz id hs).2⟩⟩
  have h := h.on (S' := Low H.n) (A' := H)
  have hD : K_Deal.R D H x dcs := K_Deal.same (fun id hid => (hfz id (hDD id hid).1).2) hD
  have hDv : Has3 D H did 0 dcs := by
    obtain ⟨d0, b, d1, d2⟩ := hDv
    exact ⟨d0, b, ((hfz did (hDD did d0).1).2).trans d1, d2⟩
  have hDD : ∀ id, D id → id < H.n ∧ ¬ d.W id := fun id hid => ⟨(hfz id (hDD id hid).1).1, (hDD id hid).2⟩
  have hDL : K_Deal.R (Low H.n) H x dcs := K_Deal.more (fun id p => (hDD id p).1) hD
  have hDvL : Has3 (Low H.n) H did 0 dcs := ⟨(hDD did hDv.1).1, hDv.2⟩
  obtain ⟨d1, d2, d3, d4, d5, d6, d7, d8, rfl⟩ := form_Deal hD
  obtain ⟨hid, sid, gid, bid, nid, w⟩ := d
  have hc := h.cellsH
  have hh := h.hall
  have hsl := hok.sl
  have h7 := hd.sch.h7
  refine KW.cF rfl rfl (by first | (simp; done) | decide) ?_
  refine KW.cF rfl rfl (by first | (simp; done) | decide) ?_
  refine KW.cF rfl rfl (by first | (simp; done) | decide) ?_
  refine KW.cT rfl rfl (by first | (simp; done) | decide) ?_
  refine KW.callW h.w rfl rfl rfl rfl rfl (specRenew hd hB hok h hD hDv hDD A B) (fun v H6 S6 m6 t6 w6 hv => ?_)
  obtain ⟨rfl, hp⟩ := hv
  refine KW.retW rfl rfl rfl rfl (fun H1 g => by have := g.n_; omega) (fun id p hw => ⟨(t6 id p).1, (t6 id p).2 hw⟩) (fun H7 g => ⟨rfl, ?_⟩)
  refine HlPost.lift (HlPost.mem hp (fun id p => (g.froz id ?_).2) (by have := g.n_; omega)) (by omega) (by have := g.n_; omega) rfl (fun id p => .inl p) (fun id p => .inl p)
  rcases p with p | p | p
  · exact (t6 id (h.w id p)).1
  · exact (t6 id (h.sx id p)).1
  · exact w6 id p
theorem specDo3 {A B : Int} {did : Nat} (hd : DealOk x) (hB : B_Deal x) (hok : CerOk x c) (h : Hl HTS [.pointer (some ⟨did, 0, none⟩)] [] S H0 X d c) (hD : K_Deal.R D H0 x dcs) (hDv : Has3 D H0 did 0 dcs) (hDD : ∀ id, D id → S id ∧ ¬ d.W id) (hA0 : 0 ≤ A ∧ A ≤ 999) :
    SpecW Tryz.prog S H0 d.W 70 [.pointer (some ⟨d.hid, 0, none⟩), .agg [.int .i64 3, .int .i64 A, .int .i64 B].toArray] (HlRes HTS [.pointer (some ⟨did, 0, none⟩)] [] X d (doIt x c (3, A, B))) := by
  refine SpecW.of0 Tryz.func70 rfl (by kernel_rfl) rfl (fun H hfin hfz => ?_)
  haveI o : On S H0 (Low H.n) H := ⟨fun id hs => ⟨(hfz id hs).1, (hfz id hs).2⟩⟩
  have h := h.on (S' := Low H.n) (A' := H)
  have hD : K_Deal.R D H x dcs := K_Deal.same (fun id hid => (hfz id (hDD id hid).1).2) hD
  have hDv : Has3 D H did 0 dcs := by
    obtain ⟨d0, b, d1, d2⟩ := hDv
    exact ⟨d0, b, ((hfz did (hDD did d0).1).2).trans d1, d2⟩
  have hDD : ∀ id, D id → id < H.n ∧ ¬ d.W id := fun id hid => ⟨(hfz id (hDD id hid).1).1, (hDD id hid).2⟩
  have hDL : K_Deal.R (Low H.n) H x dcs := K_Deal.more (fun id p => (hDD id p).1) hD
  have hDvL : Has3 (Low H.n) H did 0 dcs := ⟨(hDD did hDv.1).1, hDv.2⟩
  obtain ⟨d1, d2, d3, d4, d5, d6, d7, d8, rfl⟩ := form_Deal hD
  obtain ⟨hid, sid, gid, bid, nid, w⟩ := d
  have hc := h.cellsH
  have hh := h.hall
  have hsl := hok.sl
  have h7 := hd.sch.h7
  refine KW.cT rfl rfl (by first | (simp; done) | decide) ?_
  refine KW.cT rfl rfl (by first | (simp; done) | decide) ?_
  refine KW.callW h.w rfl rfl rfl rfl rfl (specWire3 (A := A) (B := B) hd hB hok h hD hDv hDD hA0) (fun v H6 S6 m6 t6 w6 hv => ?_)
  obtain ⟨rfl, hp⟩ := hv
  refine KW.retW rfl rfl rfl rfl (fun H1 g => by have := g.n_; omega) (fun id p hw => ⟨(t6 id p).1, (t6 id p).2 hw⟩) (fun H7 g => ⟨rfl, ?_⟩)
  refine HlPost.lift (HlPost.mem hp (fun id p => (g.froz id ?_).2) (by have := g.n_; omega)) (by omega) (by have := g.n_; omega) rfl (fun id p => .inl p) (fun id p => .inl p)
  rcases p with p | p | p
  · exact (t6 id (h.w id p)).1
  · exact (t6 id (h.sx id p)).1
  · exact w6 id p
theorem specDo4 {A B : Int} {did : Nat} (hd : DealOk x) (hB : B_Deal x) (hok : CerOk x c) (h : Hl HTS [.pointer (some ⟨did, 0, none⟩)] [] S H0 X d c) (hD : K_Deal.R D H0 x dcs) (hDv : Has3 D H0 did 0 dcs) (hDD : ∀ id, D id → S id ∧ ¬ d.W id) (hA0 : 0 ≤ A ∧ A ≤ 999) :
    SpecW Tryz.prog S H0 d.W 70 [.pointer (some ⟨d.hid, 0, none⟩), .agg [.int .i64 4, .int .i64 A, .int .i64 B].toArray] (HlRes HTS [.pointer (some ⟨did, 0, none⟩)] [] X d (doIt x c (4, A, B))) := by
  refine SpecW.of0 Tryz.func70 rfl (by kernel_rfl) rfl (fun H hfin hfz => ?_)
  haveI o : On S H0 (Low H.n) H := ⟨fun id hs => ⟨(hfz id hs).1, (hfz id hs).2⟩⟩
  have h := h.on (S' := Low H.n) (A' := H)
  have hD : K_Deal.R D H x dcs := K_Deal.same (fun id hid => (hfz id (hDD id hid).1).2) hD
  have hDv : Has3 D H did 0 dcs := by
    obtain ⟨d0, b, d1, d2⟩ := hDv
    exact ⟨d0, b, ((hfz did (hDD did d0).1).2).trans d1, d2⟩
  have hDD : ∀ id, D id → id < H.n ∧ ¬ d.W id := fun id hid => ⟨(hfz id (hDD id hid).1).1, (hDD id hid).2⟩
  have hDL : K_Deal.R (Low H.n) H x dcs := K_Deal.more (fun id p => (hDD id p).1) hD
  have hDvL : Has3 (Low H.n) H did 0 dcs := ⟨(hDD did hDv.1).1, hDv.2⟩
  obtain ⟨d1, d2, d3, d4, d5, d6, d7, d8, rfl⟩ := form_Deal hD
  obtain ⟨hid, sid, gid, bid, nid, w⟩ := d
  have hc := h.cellsH
  have hh := h.hall
  have hsl := hok.sl
  have h7 := hd.sch.h7
  refine KW.cF rfl rfl (by first | (simp; done) | decide) ?_
  refine KW.cT rfl rfl (by first | (simp; done) | decide) ?_
  refine KW.cT rfl rfl (by first | (simp; done) | decide) ?_
  refine KW.callW h.w rfl rfl rfl rfl rfl (specWire4 (A := A) (B := B) hd hB hok h hD hDv hDD hA0) (fun v H6 S6 m6 t6 w6 hv => ?_)
  obtain ⟨rfl, hp⟩ := hv
  refine KW.retW rfl rfl rfl rfl (fun H1 g => by have := g.n_; omega) (fun id p hw => ⟨(t6 id p).1, (t6 id p).2 hw⟩) (fun H7 g => ⟨rfl, ?_⟩)
  refine HlPost.lift (HlPost.mem hp (fun id p => (g.froz id ?_).2) (by have := g.n_; omega)) (by omega) (by have := g.n_; omega) rfl (fun id p => .inl p) (fun id p => .inl p)
  rcases p with p | p | p
  · exact (t6 id (h.w id p)).1
  · exact (t6 id (h.sx id p)).1
  · exact w6 id p
theorem specDo5 {A B : Int} {did : Nat} (hd : DealOk x) (hB : B_Deal x) (hok : CerOk x c) (h : Hl HTS [.pointer (some ⟨did, 0, none⟩)] [] S H0 X d c) (hD : K_Deal.R D H0 x dcs) (hDv : Has3 D H0 did 0 dcs) (hDD : ∀ id, D id → S id ∧ ¬ d.W id) (hA0 : 0 ≤ A ∧ A ≤ 999) :
    SpecW Tryz.prog S H0 d.W 70 [.pointer (some ⟨d.hid, 0, none⟩), .agg [.int .i64 5, .int .i64 A, .int .i64 B].toArray] (HlRes HTS [.pointer (some ⟨did, 0, none⟩)] [] X d (doIt x c (5, A, B))) := by
  refine SpecW.of0 Tryz.func70 rfl (by kernel_rfl) rfl (fun H hfin hfz => ?_)
  haveI o : On S H0 (Low H.n) H := ⟨fun id hs => ⟨(hfz id hs).1, (hfz id hs).2⟩⟩
  have h := h.on (S' := Low H.n) (A' := H)
  have hD : K_Deal.R D H x dcs := K_Deal.same (fun id hid => (hfz id (hDD id hid).1).2) hD
  have hDv : Has3 D H did 0 dcs := by
    obtain ⟨d0, b, d1, d2⟩ := hDv
    exact ⟨d0, b, ((hfz did (hDD did d0).1).2).trans d1, d2⟩
  have hDD : ∀ id, D id → id < H.n ∧ ¬ d.W id := fun id hid => ⟨(hfz id (hDD id hid).1).1, (hDD id hid).2⟩
  have hDL : K_Deal.R (Low H.n) H x dcs := K_Deal.more (fun id p => (hDD id p).1) hD
  have hDvL : Has3 (Low H.n) H did 0 dcs := ⟨(hDD did hDv.1).1, hDv.2⟩
  obtain ⟨d1, d2, d3, d4, d5, d6, d7, d8, rfl⟩ := form_Deal hD
  obtain ⟨hid, sid, gid, bid, nid, w⟩ := d
  have hc := h.cellsH
  have hh := h.hall
  have hsl := hok.sl
  have h7 := hd.sch.h7
  refine KW.cF rfl rfl (by first | (simp; done) | decide) ?_
  refine KW.cF rfl rfl (by first | (simp; done) | decide) ?_
  refine KW.cT rfl rfl (by first | (simp; done) | decide) ?_
  refine KW.callW h.w rfl rfl rfl rfl rfl (specWire5 (A := A) (B := B) hd hB hok h hD hDv hDD hA0) (fun v H6 S6 m6 t6 w6 hv => ?_)
  obtain ⟨rfl, hp⟩ := hv
  refine KW.retW rfl rfl rfl rfl (fun H1 g => by have := g.n_; omega) (fun id p hw => ⟨(t6 id p).1, (t6 id p).2 hw⟩) (fun H7 g => ⟨rfl, ?_⟩)
  refine HlPost.lift (HlPost.mem hp (fun id p => (g.froz id ?_).2) (by have := g.n_; omega)) (by omega) (by have := g.n_; omega) rfl (fun id p => .inl p) (fun id p => .inl p)
  rcases p with p | p | p
  · exact (t6 id (h.w id p)).1
  · exact (t6 id (h.sx id p)).1
  · exact w6 id p
theorem specDo1 {A B : Int} {did : Nat} (hd : DealOk x) (hB : B_Deal x) (hok : CerOk x c) (h : Hl HTS [.pointer (some ⟨did, 0, none⟩)] [] S H0 X d c) (hD : K_Deal.R D H0 x dcs) (hDv : Has3 D H0 did 0 dcs) (hDD : ∀ id, D id → S id ∧ ¬ d.W id) (hA : HoOk x A) :
    SpecW Tryz.prog S H0 d.W 70 [.pointer (some ⟨d.hid, 0, none⟩), .agg [.int .i64 1, .int .i64 A, .int .i64 B].toArray] (HlRes HTS [.pointer (some ⟨did, 0, none⟩)] [] X d (doIt x c (1, A, B))) := by
  refine SpecW.of0 Tryz.func70 rfl (by kernel_rfl) rfl (fun H hfin hfz => ?_)
  haveI o : On S H0 (Low H.n) H := ⟨fun id hs => ⟨(hfz id hs).1, (hfz id hs).2⟩⟩
  have h := h.on (S' := Low H.n) (A' := H)
  have hD : K_Deal.R D H x dcs := K_Deal.same (fun id hid => (hfz id (hDD id hid).1).2) hD
  have hDv : Has3 D H did 0 dcs := by
    obtain ⟨d0, b, d1, d2⟩ := hDv
    exact ⟨d0, b, ((hfz did (hDD did d0).1).2).trans d1, d2⟩
  have hDD : ∀ id, D id → id < H.n ∧ ¬ d.W id := fun id hid => ⟨(hfz id (hDD id hid).1).1, (hDD id hid).2⟩
  have hDL : K_Deal.R (Low H.n) H x dcs := K_Deal.more (fun id p => (hDD id p).1) hD
  have hDvL : Has3 (Low H.n) H did 0 dcs := ⟨(hDD did hDv.1).1, hDv.2⟩
  obtain ⟨d1, d2, d3, d4, d5, d6, d7, d8, rfl⟩ := form_Deal hD
  obtain ⟨hid, sid, gid, bid, nid, w⟩ := d
  have hc := h.cellsH
  have hh := h.hall
  have hsl := hok.sl
  have h7 := hd.sch.h7
  have hA0 : 0 ≤ A := hA.1
  have hA1 : A < x.1.1 := hA.2
  obtain ⟨hs0, scs, hs1, hscl⟩ := h.seats
  simp only at hs0 hs1
  obtain ⟨hse, hsok⟩ := hok.seat hA
  obtain ⟨s, hs⟩ : ∃ s, c.seat A = s := ⟨_, rfl⟩
  rw [hs] at hse hsok
  have hR := hscl.2 _ _ hse
  obtain ⟨ps, qs, hseg, hR1, hR2⟩ := split_Seat hR
  obtain ⟨b1, e1, b2, e2, hps, hR3, hR4⟩ := split_Purse hR1
  obtain ⟨b3, e3, b4, e4, hqs, hR5, hR6⟩ := split_Purse hR2
  have hle : A.toNat * 7 + 7 ≤ scs.length := by have := hscl.1; have h2 := mul_le' (e := 7) (List.getElem?_eq_some_iff.1 hse).1; have : c.seats.length * 7 ≤ scs.length := this; omega
  have cel : ∀ (q : Nat) v, (ps ++ (qs ++ [.int .i64 s.2.2]) : List Value)[q]? = some v → scs[0 + A.toNat * 7 + q]? = some v := fun q v hv => by
    have := seg_at hseg hv
    rw [Nat.zero_add]; exact this
  refine KW.cF rfl rfl (by first | (simp; done) | decide) ?_
  refine KW.cF rfl rfl (by first | (simp; done) | decide) ?_
  refine KW.cF rfl rfl (by first | (simp; done) | decide) ?_
  refine KW.cF rfl rfl (by first | (simp; done) | decide) ?_
  refine KW.ldF 0 hc rfl rfl rfl rfl rfl rfl rfl rfl rfl ?_
  refine KW.ldF 0 hDvL rfl rfl rfl rfl rfl rfl rfl rfl rfl ?_
  refine KW.no rfl rfl (by omega) ?_
  refine KW.ldF 2 hc rfl rfl rfl rfl rfl rfl rfl rfl rfl ?_
  refine KW.idx0 rfl rfl rfl rfl rfl rfl rfl rfl rfl (by omega) (by show A < ((c.seats.length : Nat) : Int); omega) ?_
  refine KW.cT rfl rfl (by first | (simp; done) | decide) ?_
  refine KW.ldF 0 hc rfl rfl rfl rfl rfl rfl rfl rfl rfl ?_
  refine KW.ldF 1 hc rfl rfl rfl rfl rfl rfl rfl rfl rfl ?_
  obtain ⟨E, J, hat⟩ := HoOk.at hd hA hok.ep
  refine KW.callN1 rfl rfl rfl rfl rfl (l08ValuesD x c.ep A hat hB hDvL hDL) (fun v H1 S1 m1 _ _ hv => ?_)
  obtain ⟨a5, q5, rfl, hV⟩ := hv
  refine KW.ldF 1 hc.up rfl rfl rfl rfl rfl rfl rfl rfl rfl ?_
  refine KW.ldF 0 hc.up rfl rfl rfl rfl rfl rfl rfl rfl rfl ?_
  refine KW.ldF 1 hc.up rfl rfl rfl rfl rfl rfl rfl rfl rfl ?_
  refine KW.callN1 rfl rfl rfl rfl rfl (l08TagsD x c.ep A hat hB hDvL.up (On.R hDL) vals_len (vals_in hd.prime) hV.ups) (fun v H2 S2 m2 _ _ hv => ?_)
  obtain ⟨a6, q6, rfl, hTg⟩ := hv
  refine KW.build rfl rfl rfl rfl rfl (built_Packet4 _ _ _ _ _ _ _ _) ?_
  have h2 := h.on (S' := S2) (A' := H2)
  have o1 := (inferInstance : On (New (H.n + 1) H1.n) H1 S2 H2).st
  have o2 := (inferInstance : On (New H1.n H2.n) H2 S2 H2).st
  have o0 := (inferInstance : On (Low H.n) H S2 H2).st
  have lowW : ∀ id, HD.W ⟨hid, sid, gid, bid, nid, w⟩ id → id < H.n := fun id p => h.w id p
  refine KW.callW h2.w rfl rfl rfl rfl rfl (specSend (p := (false, A, c.ep, valsD x c.ep A, tagsD x c.ep A (valsD x c.ep A))) (PX := fun id => New (H.n + 1) H1.n id ∨ New H1.n H2.n id) h2 (mk_Packet (x := (false, A, c.ep, valsD x c.ep A, tagsD x c.ep A (valsD x c.ep A))) (sl_mk hV.sl (fun id p => ⟨.inl p, (o1 id p).2⟩)) (sl_mk hTg.sl (fun id p => ⟨.inr p, (o2 id p).2⟩))) (fun id p => ⟨p.elim (fun p => (o1 id p).1) (fun p => (o2 id p).1), fun q => by have := lowW id q; rcases p with p | p <;> (have := p.1; omega)⟩) hok.wl) (fun v H5 S5 m5 t5 w5 hv => ?_)
  have e : doIt x c (1, A, B) = send c (false, A, c.ep, valsD x c.ep A, tagsD x c.ep A (valsD x c.ep A)) := by
    show (if x.1.1 ≤ A then (c, 2) else send c _) = _
    rw [if_neg (by omega)]
  rw [e]
  obtain ⟨rfl, hp⟩ := hv
  have xin : ∀ id, X id → id < H.n := fun id p => h.sx id p
  refine KW.retW rfl rfl rfl rfl (fun H1 g => by have := g.n_; omega) (fun id hid hw => ⟨(t5 id (o0 id hid).1).1, ((t5 id (o0 id hid).1).2 hw).trans (o0 id hid).2⟩) (fun H6 g => ⟨rfl, ?_⟩)
  refine HlPost.lift (HlPost.mem hp (fun id p => (g.froz id ?_).2) (by have := g.n_; omega)) (by omega) (by have := g.n_; omega) rfl (fun id p => ?_) (fun id p => .inl p)
  · rcases p with p | p | p
    · exact (t5 id (h2.w id p)).1
    · rcases p with p | p | p
      · exact (t5 id (o0 id (xin id p)).1).1
      · exact (t5 id (o1 id p).1).1
      · exact (t5 id (o2 id p).1).1
    · exact w5 id p
  · rcases p with p | p | p
    · exact .inl p
    · exact .inr ⟨by have := p.1; omega, by have := p.2; omega⟩
    · exact .inr ⟨by have := p.1; omega, by have := p.2; omega⟩
theorem specDo2 {A B : Int} {did : Nat} (hd : DealOk x) (hB : B_Deal x) (hok : CerOk x c) (h : Hl HTS [.pointer (some ⟨did, 0, none⟩)] [] S H0 X d c) (hD : K_Deal.R D H0 x dcs) (hDv : Has3 D H0 did 0 dcs) (hDD : ∀ id, D id → S id ∧ ¬ d.W id) (hA : HoOk x A) :
    SpecW Tryz.prog S H0 d.W 70 [.pointer (some ⟨d.hid, 0, none⟩), .agg [.int .i64 2, .int .i64 A, .int .i64 B].toArray] (HlRes HTS [.pointer (some ⟨did, 0, none⟩)] [] X d (doIt x c (2, A, B))) := by
  refine SpecW.of0 Tryz.func70 rfl (by kernel_rfl) rfl (fun H hfin hfz => ?_)
  haveI o : On S H0 (Low H.n) H := ⟨fun id hs => ⟨(hfz id hs).1, (hfz id hs).2⟩⟩
  have h := h.on (S' := Low H.n) (A' := H)
  have hD : K_Deal.R D H x dcs := K_Deal.same (fun id hid => (hfz id (hDD id hid).1).2) hD
  have hDv : Has3 D H did 0 dcs := by
    obtain ⟨d0, b, d1, d2⟩ := hDv
    exact ⟨d0, b, ((hfz did (hDD did d0).1).2).trans d1, d2⟩
  have hDD : ∀ id, D id → id < H.n ∧ ¬ d.W id := fun id hid => ⟨(hfz id (hDD id hid).1).1, (hDD id hid).2⟩
  have hDL : K_Deal.R (Low H.n) H x dcs := K_Deal.more (fun id p => (hDD id p).1) hD
  have hDvL : Has3 (Low H.n) H did 0 dcs := ⟨(hDD did hDv.1).1, hDv.2⟩
  obtain ⟨d1, d2, d3, d4, d5, d6, d7, d8, rfl⟩ := form_Deal hD
  obtain ⟨hid, sid, gid, bid, nid, w⟩ := d
  have hc := h.cellsH
  have hh := h.hall
  have hsl := hok.sl
  have h7 := hd.sch.h7
  have hA0 : 0 ≤ A := hA.1
  have hA1 : A < x.1.1 := hA.2
  obtain ⟨hs0, scs, hs1, hscl⟩ := h.seats
  simp only at hs0 hs1
  obtain ⟨hse, hsok⟩ := hok.seat hA
  obtain ⟨s, hs⟩ : ∃ s, c.seat A = s := ⟨_, rfl⟩
  rw [hs] at hse hsok
  have hR := hscl.2 _ _ hse
  obtain ⟨ps, qs, hseg, hR1, hR2⟩ := split_Seat hR
  obtain ⟨b1, e1, b2, e2, hps, hR3, hR4⟩ := split_Purse hR1
  obtain ⟨b3, e3, b4, e4, hqs, hR5, hR6⟩ := split_Purse hR2
  have hle : A.toNat * 7 + 7 ≤ scs.length := by have := hscl.1; have h2 := mul_le' (e := 7) (List.getElem?_eq_some_iff.1 hse).1; have : c.seats.length * 7 ≤ scs.length := this; omega
  have cel : ∀ (q : Nat) v, (ps ++ (qs ++ [.int .i64 s.2.2]) : List Value)[q]? = some v → scs[0 + A.toNat * 7 + q]? = some v := fun q v hv => by
    have := seg_at hseg hv
    rw [Nat.zero_add]; exact this
  refine KW.cF rfl rfl (by first | (simp; done) | decide) ?_
  refine KW.cF rfl rfl (by first | (simp; done) | decide) ?_
  refine KW.cF rfl rfl (by first | (simp; done) | decide) ?_
  refine KW.cF rfl rfl (by first | (simp; done) | decide) ?_
  refine KW.ldF 0 hc rfl rfl rfl rfl rfl rfl rfl rfl rfl ?_
  refine KW.ldF 0 hDvL rfl rfl rfl rfl rfl rfl rfl rfl rfl ?_
  refine KW.no rfl rfl (by omega) ?_
  refine KW.ldF 2 hc rfl rfl rfl rfl rfl rfl rfl rfl rfl ?_
  refine KW.idx0 rfl rfl rfl rfl rfl rfl rfl rfl rfl (by omega) (by show A < ((c.seats.length : Nat) : Int); omega) ?_
  refine KW.cF rfl rfl (by first | (simp; done) | decide) ?_
  refine KW.cT rfl rfl (by first | (simp; done) | decide) ?_
  have c0 : scs[0 + A.toNat * 7]? = some (.int .i64 s.1.1) := cel 0 _ (by rw [hps]; rfl)
  have c1 : scs[0 + A.toNat * 7 + 1]? = some (.slice b1 s.1.2.1.length e1) := cel 1 _ (by rw [hps]; rfl)
  have c2 : scs[0 + A.toNat * 7 + 2]? = some (.slice b2 s.1.2.2.length e2) := cel 2 _ (by rw [hps]; rfl)
  have c6 : scs[0 + A.toNat * 7 + 6]? = some (.int .i64 s.2.2) := cel 6 _ (by rw [hps, hqs]; rfl)
  have e : doIt x c (2, A, B) = if s.1.1 = -1 then (c, 4) else send c (true, A, s.1.1, lieOf x.1.2.2.1 s.1.2.1 s.2.2, s.1.2.2) := by
    show (if x.1.1 ≤ A then (c, 2) else if (c.seat A).1.1 = -1 then (c, 4) else send c _) = _
    rw [if_neg (by omega), hs]
  rw [e]
  refine KW.ldC hs0 hs1 c0 rfl rfl rfl rfl rfl rfl rfl ?_
  refine KW.cnd rfl rfl (fun k1 => ?_) (fun k1 => ?_)
  · have k1 : s.1.1 = -1 := k1
    rw [if_pos k1]
    exact KW.retW rfl rfl rfl rfl (fun H1 g => by have := g.n_; omega) (fun id hid _ => ⟨hid, rfl⟩) (fun H1 g => ⟨rfl, HlPost.same h (fun id p => p) (fun id hid => (g.froz id hid).2)⟩)
  have k1 : ¬ s.1.1 = -1 := k1
  rw [if_neg k1]
  have hpu := hsok.pu.resolve_left (fun q => k1 q.1)
  have hol : x.1.2.1.length ≤ 1048576 := hB.1.2.1
  have hrl := rowsOf_len x.1.2.1 A
  have hvl : s.1.2.1.length ≤ 1048576 := by have := hpu.2.vl; omega
  have htl : s.1.2.2.length ≤ 1048576 := by have := hpu.2.tl; omega
  refine KW.ldF 0 hc rfl rfl rfl rfl rfl rfl rfl rfl rfl ?_
  refine KW.ldF 2 hDvL rfl rfl rfl rfl rfl rfl rfl rfl rfl ?_
  refine KW.ldC hs0 hs1 c1 rfl rfl rfl rfl rfl rfl rfl ?_
  refine KW.ldC hs0 hs1 c6 rfl rfl rfl rfl rfl rfl rfl ?_
  have hlie := hsok.lie
  refine KW.callN1 rfl rfl rfl rfl rfl (l08Lying x.1.2.2.1 hd.prime s.2.2 (by omega) hvl hpu.2.ve (hR3.more h.sx)) (fun v H1 S1 m1 _ _ hv => ?_)
  obtain ⟨a5, q5, rfl, hV⟩ := hv
  have hb1 := On.blk (S' := S1) (H' := H1) hs0 hs1
  refine KW.ldC hb1.1 hb1.2 c0 rfl rfl rfl rfl rfl rfl rfl ?_
  refine KW.ldC hb1.1 hb1.2 c2 rfl rfl rfl rfl rfl rfl rfl ?_
  refine KW.callN1 rfl rfl rfl rfl rfl (l00Own htl (hR4.more h.sx).up) (fun v H2 S2 m2 _ _ hv => ?_)
  obtain ⟨a6, q6, rfl, hTg⟩ := hv
  refine KW.build rfl rfl rfl rfl rfl (built_Packet5 _ _ _ _ _ _ _ _ _) ?_
  have h2 := h.on (S' := S2) (A' := H2)
  have o1 := (inferInstance : On (New (H.n + 1) H1.n) H1 S2 H2).st
  have o2 := (inferInstance : On (New H1.n H2.n) H2 S2 H2).st
  have o0 := (inferInstance : On (Low H.n) H S2 H2).st
  have lowW : ∀ id, HD.W ⟨hid, sid, gid, bid, nid, w⟩ id → id < H.n := fun id p => h.w id p
  have xin : ∀ id, X id → id < H.n := fun id p => h.sx id p
  have hll : (lieOf x.1.2.2.1 s.1.2.1 s.2.2).length = s.1.2.1.length := lie_len
  refine KW.callW h2.w rfl rfl rfl rfl rfl (specSend (p := (true, A, s.1.1, lieOf x.1.2.2.1 s.1.2.1 s.2.2, s.1.2.2)) (PX := fun id => New (H.n + 1) H1.n id ∨ New H1.n H2.n id) h2 (mk_Packet (x := (true, A, s.1.1, lieOf x.1.2.2.1 s.1.2.1 s.2.2, s.1.2.2)) (sl_mk hV.sl (fun id p => ⟨.inl p, (o1 id p).2⟩)) (sl_mk hTg.sl (fun id p => ⟨.inr p, (o2 id p).2⟩))) (fun id p => ⟨p.elim (fun p => (o1 id p).1) (fun p => (o2 id p).1), fun q => by have := lowW id q; rcases p with p | p <;> (have := p.1; omega)⟩) hok.wl) (fun v H5 S5 m5 t5 w5 hv => ?_)
  obtain ⟨rfl, hp⟩ := hv
  refine KW.retW rfl rfl rfl rfl (fun H1 g => by have := g.n_; omega) (fun id hid hw => ⟨(t5 id (o0 id hid).1).1, ((t5 id (o0 id hid).1).2 hw).trans (o0 id hid).2⟩) (fun H6 g => ⟨rfl, ?_⟩)
  refine HlPost.lift (HlPost.mem hp (fun id p => (g.froz id ?_).2) (by have := g.n_; omega)) (by omega) (by have := g.n_; omega) rfl (fun id p => ?_) (fun id p => .inl p)
  · rcases p with p | p | p
    · exact (t5 id (h2.w id p)).1
    · rcases p with p | p | p
      · exact (t5 id (o0 id (xin id p)).1).1
      · exact (t5 id (o1 id p).1).1
      · exact (t5 id (o2 id p).1).1
    · exact w5 id p
  · rcases p with p | p | p
    · exact .inl p
    · exact .inr ⟨by have := p.1; omega, by have := p.2; omega⟩
    · exact .inr ⟨by have := p.1; omega, by have := p.2; omega⟩
theorem specDo6 {A B : Int} {did : Nat} (hd : DealOk x) (hB : B_Deal x) (hok : CerOk x c) (h : Hl HTS [.pointer (some ⟨did, 0, none⟩)] [] S H0 X d c) (hD : K_Deal.R D H0 x dcs) (hDv : Has3 D H0 did 0 dcs) (hDD : ∀ id, D id → S id ∧ ¬ d.W id) (hA : HoOk x A) :
    SpecW Tryz.prog S H0 d.W 70 [.pointer (some ⟨d.hid, 0, none⟩), .agg [.int .i64 6, .int .i64 A, .int .i64 B].toArray] (HlRes HTS [.pointer (some ⟨did, 0, none⟩)] [] X d (doIt x c (6, A, B))) := by
  refine SpecW.of0 Tryz.func70 rfl (by kernel_rfl) rfl (fun H hfin hfz => ?_)
  haveI o : On S H0 (Low H.n) H := ⟨fun id hs => ⟨(hfz id hs).1, (hfz id hs).2⟩⟩
  have h := h.on (S' := Low H.n) (A' := H)
  have hD : K_Deal.R D H x dcs := K_Deal.same (fun id hid => (hfz id (hDD id hid).1).2) hD
  have hDv : Has3 D H did 0 dcs := by
    obtain ⟨d0, b, d1, d2⟩ := hDv
    exact ⟨d0, b, ((hfz did (hDD did d0).1).2).trans d1, d2⟩
  have hDD : ∀ id, D id → id < H.n ∧ ¬ d.W id := fun id hid => ⟨(hfz id (hDD id hid).1).1, (hDD id hid).2⟩
  have hDL : K_Deal.R (Low H.n) H x dcs := K_Deal.more (fun id p => (hDD id p).1) hD
  have hDvL : Has3 (Low H.n) H did 0 dcs := ⟨(hDD did hDv.1).1, hDv.2⟩
  obtain ⟨d1, d2, d3, d4, d5, d6, d7, d8, rfl⟩ := form_Deal hD
  obtain ⟨hid, sid, gid, bid, nid, w⟩ := d
  have hc := h.cellsH
  have hh := h.hall
  have hsl := hok.sl
  have h7 := hd.sch.h7
  have hA0 : 0 ≤ A := hA.1
  have hA1 : A < x.1.1 := hA.2
  obtain ⟨hs0, scs, hs1, hscl⟩ := h.seats
  simp only at hs0 hs1
  obtain ⟨hse, hsok⟩ := hok.seat hA
  obtain ⟨s, hs⟩ : ∃ s, c.seat A = s := ⟨_, rfl⟩
  rw [hs] at hse hsok
  have hR := hscl.2 _ _ hse
  obtain ⟨ps, qs, hseg, hR1, hR2⟩ := split_Seat hR
  obtain ⟨b1, e1, b2, e2, hps, hR3, hR4⟩ := split_Purse hR1
  obtain ⟨b3, e3, b4, e4, hqs, hR5, hR6⟩ := split_Purse hR2
  have hle : A.toNat * 7 + 7 ≤ scs.length := by have := hscl.1; have h2 := mul_le' (e := 7) (List.getElem?_eq_some_iff.1 hse).1; have : c.seats.length * 7 ≤ scs.length := this; omega
  have cel : ∀ (q : Nat) v, (ps ++ (qs ++ [.int .i64 s.2.2]) : List Value)[q]? = some v → scs[0 + A.toNat * 7 + q]? = some v := fun q v hv => by
    have := seg_at hseg hv
    rw [Nat.zero_add]; exact this
  refine KW.cF rfl rfl (by first | (simp; done) | decide) ?_
  refine KW.cF rfl rfl (by first | (simp; done) | decide) ?_
  refine KW.cF rfl rfl (by first | (simp; done) | decide) ?_
  refine KW.cF rfl rfl (by first | (simp; done) | decide) ?_
  refine KW.ldF 0 hc rfl rfl rfl rfl rfl rfl rfl rfl rfl ?_
  refine KW.ldF 0 hDvL rfl rfl rfl rfl rfl rfl rfl rfl rfl ?_
  refine KW.no rfl rfl (by omega) ?_
  refine KW.ldF 2 hc rfl rfl rfl rfl rfl rfl rfl rfl rfl ?_
  refine KW.idx0 rfl rfl rfl rfl rfl rfl rfl rfl rfl (by omega) (by show A < ((c.seats.length : Nat) : Int); omega) ?_
  refine KW.cF rfl rfl (by first | (simp; done) | decide) ?_
  refine KW.cF rfl rfl (by first | (simp; done) | decide) ?_
  refine KW.cT rfl rfl (by first | (simp; done) | decide) ?_
  refine KW.ldF 0 hc rfl rfl rfl rfl rfl rfl rfl rfl rfl ?_
  refine KW.ldF 2 hDvL rfl rfl rfl rfl rfl rfl rfl rfl rfl ?_
  have e : doIt x c (6, A, B) = if x.1.2.2.1 ≤ B then (c, 2) else (setS c A (s.1, s.2.1, B), 0) := by
    show (if x.1.1 ≤ A then (c, 2) else if x.1.2.2.1 ≤ B then (c, 2) else (setS c A ((c.seat A).1, (c.seat A).2.1, B), 0)) = _
    rw [if_neg (by omega), hs]
  rw [e]
  refine KW.cnd rfl rfl (fun k1 => ?_) (fun k1 => ?_)
  · have k1 : B ≥ x.1.2.2.1 := k1
    rw [if_pos (by omega)]
    exact KW.retW rfl rfl rfl rfl (fun H1 g => by have := g.n_; omega) (fun id hid _ => ⟨hid, rfl⟩) (fun H1 g => ⟨rfl, HlPost.same h (fun id p => p) (fun id hid => (g.froz id hid).2)⟩)
  · have k1 : ¬ B ≥ x.1.2.2.1 := k1
    rw [if_neg (by omega)]
    refine KW.thaw sid _ hs0 hs1 ?_
    refine KW.st1 1 rfl rfl rfl rfl rfl rfl rfl rfl rfl rfl rfl rfl (by show 0 + A.toNat * 7 + 6 < scs.length; omega) ?_
    refine KW.retW rfl rfl rfl rfl (fun H1 g => by have := g.n_; omega) (fun id hid hw => ⟨⟨hid, fun e => hw (by rw [e]; exact HD.Win.2.1)⟩, rfl⟩) (fun H1 g => ⟨rfl, HlPost.weak (X := fun id => X id ∨ False) ?_ (fun id p => p.elim (fun p => p) (fun p => p.elim))⟩)
    have hnew : H1.m sid = some ⟨101, true, scs.set (0 + A.toNat * 7 + 6) (.int .i64 B)⟩ := (g.blk (j := 1) rfl).1
    have hcl := hscl.part (y := (s.1, s.2.1, B)) (a := ps ++ qs) (b := [.int .i64 s.2.2]) (r := []) (b' := [.int .i64 B]) (X' := fun id => X id ∨ False) hse (by rw [hseg, List.append_assoc]; rfl) rfl (fun id p => .inl p) (by rw [List.append_assoc]; exact mk_Seat (x := (s.1, s.2.1, B)) (K_Purse.more (fun id p => .inl p) hR1) (K_Purse.more (fun id p => .inl p) hR2))
    have e0 : 0 + A.toNat * 7 + 6 = A.toNat * K_Seat.es + (ps ++ qs).length := by rw [hps, hqs]; show 0 + A.toNat * 7 + 6 = A.toNat * 7 + 6; omega
    refine h.reSeats (PX := fun _ => False) (fun id p => p.elim) (by simp) (fun id h1 h2 => (g.froz id ⟨h1, h2⟩).2) (cs := splice scs (A.toNat * K_Seat.es + (ps ++ qs).length) [.int .i64 B]) ?_ hcl.1
    rw [← e0, splice_one (by omega)]
    exact hnew
theorem specDo7 {A B : Int} {did : Nat} (hd : DealOk x) (hB : B_Deal x) (hok : CerOk x c) (h : Hl HTS [.pointer (some ⟨did, 0, none⟩)] [] S H0 X d c) (hD : K_Deal.R D H0 x dcs) (hDv : Has3 D H0 did 0 dcs) (hDD : ∀ id, D id → S id ∧ ¬ d.W id) (hA : HoOk x A) :
    SpecW Tryz.prog S H0 d.W 70 [.pointer (some ⟨d.hid, 0, none⟩), .agg [.int .i64 7, .int .i64 A, .int .i64 B].toArray] (HlRes HTS [.pointer (some ⟨did, 0, none⟩)] [] X d (doIt x c (7, A, B))) := by
  refine SpecW.of0 Tryz.func70 rfl (by kernel_rfl) rfl (fun H hfin hfz => ?_)
  haveI o : On S H0 (Low H.n) H := ⟨fun id hs => ⟨(hfz id hs).1, (hfz id hs).2⟩⟩
  have h := h.on (S' := Low H.n) (A' := H)
  have hD : K_Deal.R D H x dcs := K_Deal.same (fun id hid => (hfz id (hDD id hid).1).2) hD
  have hDv : Has3 D H did 0 dcs := by
    obtain ⟨d0, b, d1, d2⟩ := hDv
    exact ⟨d0, b, ((hfz did (hDD did d0).1).2).trans d1, d2⟩
  have hDD : ∀ id, D id → id < H.n ∧ ¬ d.W id := fun id hid => ⟨(hfz id (hDD id hid).1).1, (hDD id hid).2⟩
  have hDL : K_Deal.R (Low H.n) H x dcs := K_Deal.more (fun id p => (hDD id p).1) hD
  have hDvL : Has3 (Low H.n) H did 0 dcs := ⟨(hDD did hDv.1).1, hDv.2⟩
  obtain ⟨d1, d2, d3, d4, d5, d6, d7, d8, rfl⟩ := form_Deal hD
  obtain ⟨hid, sid, gid, bid, nid, w⟩ := d
  have hc := h.cellsH
  have hh := h.hall
  have hsl := hok.sl
  have h7 := hd.sch.h7
  have hA0 : 0 ≤ A := hA.1
  have hA1 : A < x.1.1 := hA.2
  obtain ⟨hs0, scs, hs1, hscl⟩ := h.seats
  simp only at hs0 hs1
  obtain ⟨hse, hsok⟩ := hok.seat hA
  obtain ⟨s, hs⟩ : ∃ s, c.seat A = s := ⟨_, rfl⟩
  rw [hs] at hse hsok
  have hR := hscl.2 _ _ hse
  obtain ⟨ps, qs, hseg, hR1, hR2⟩ := split_Seat hR
  obtain ⟨b1, e1, b2, e2, hps, hR3, hR4⟩ := split_Purse hR1
  obtain ⟨b3, e3, b4, e4, hqs, hR5, hR6⟩ := split_Purse hR2
  have hle : A.toNat * 7 + 7 ≤ scs.length := by have := hscl.1; have h2 := mul_le' (e := 7) (List.getElem?_eq_some_iff.1 hse).1; have : c.seats.length * 7 ≤ scs.length := this; omega
  have cel : ∀ (q : Nat) v, (ps ++ (qs ++ [.int .i64 s.2.2]) : List Value)[q]? = some v → scs[0 + A.toNat * 7 + q]? = some v := fun q v hv => by
    have := seg_at hseg hv
    rw [Nat.zero_add]; exact this
  refine KW.cF rfl rfl (by first | (simp; done) | decide) ?_
  refine KW.cF rfl rfl (by first | (simp; done) | decide) ?_
  refine KW.cF rfl rfl (by first | (simp; done) | decide) ?_
  refine KW.cF rfl rfl (by first | (simp; done) | decide) ?_
  refine KW.ldF 0 hc rfl rfl rfl rfl rfl rfl rfl rfl rfl ?_
  refine KW.ldF 0 hDvL rfl rfl rfl rfl rfl rfl rfl rfl rfl ?_
  refine KW.no rfl rfl (by omega) ?_
  refine KW.ldF 2 hc rfl rfl rfl rfl rfl rfl rfl rfl rfl ?_
  refine KW.idx0 rfl rfl rfl rfl rfl rfl rfl rfl rfl (by omega) (by show A < ((c.seats.length : Nat) : Int); omega) ?_
  refine KW.cF rfl rfl (by first | (simp; done) | decide) ?_
  refine KW.cF rfl rfl (by first | (simp; done) | decide) ?_
  refine KW.cF rfl rfl (by first | (simp; done) | decide) ?_
  refine KW.cT rfl rfl (by first | (simp; done) | decide) ?_
  have hsrc : (scs.drop (0 + A.toNat * 7 + 0)).take 3 = [.int .i64 s.1.1, .slice b1 s.1.2.1.length e1, .slice b2 s.1.2.2.length e2] := seg_of rfl (fun q v hv => by
    have hv' : (ps ++ (qs ++ [.int .i64 s.2.2]) : List Value)[0 + q]? = some v := by
      rw [hps, hqs]
      match q, hv with
      | 0, hv => exact hv
      | 1, hv => exact hv
      | 2, hv => exact hv
      | q + 3, hv => simp at hv
    have := cel (0 + q) v hv'
    rwa [← Nat.add_assoc] at this)
  have hol : x.1.2.1.length ≤ 1048576 := hB.1.2.1
  have hrl := rowsOf_len x.1.2.1 A
  have hvl : s.1.2.1.length ≤ 1048576 := by rcases hsok.pu with q | q; rw [q.2.1]; simp; have := q.2.vl; omega
  have htl : s.1.2.2.length ≤ 1048576 := by rcases hsok.pu with q | q; rw [q.2.2]; simp; have := q.2.tl; omega
  refine KW.ldP hs0 hs1 rfl rfl rfl rfl rfl (bload_seg (ps := [.int .i64 s.1.1, .slice b1 s.1.2.1.length e1, .slice b2 s.1.2.2.length e2]) rfl rfl rfl (by show 0 + A.toNat * 7 + 0 + 3 ≤ scs.length; omega) hsrc) ?_
  have hRL : K_Purse.R (Low H.n) H s.1 [.int .i64 s.1.1, .slice b1 s.1.2.1.length e1, .slice b2 s.1.2.2.length e2] := K_Purse.more h.sx (mk_Purse hR3 hR4)
  refine KW.callN1 rfl rfl rfl rfl rfl (l08PurseS hRL hvl htl) (fun v H1 S1 m1 _ _ hv => ?_)
  obtain ⟨a1, q1, a2, q2, rfl, hO1, hO2⟩ := hv
  have o0 := (inferInstance : On (Low H.n) H S1 H1).st
  have o1 := (inferInstance : On (New (H.n + 1) H1.n) H1 S1 H1).st
  refine KW.thaw sid _ (o0 sid hs0).1 ((o0 sid hs0).2.trans hs1) ?_
  refine KW.stB 1 rfl rfl rfl rfl rfl rfl (bstore_agg rfl rfl rfl (by show 0 + A.toNat * 7 + 3 + 3 ≤ scs.length; omega) rfl) ?_
  have e : doIt x c (7, A, B) = (setS c A (s.1, s.1, s.2.2), 0) := by
    have h1 : ¬ x.1.1 ≤ A := by omega
    show (if x.1.1 ≤ A then (c, 2) else (setS c A ((c.seat A).1, (c.seat A).1, (c.seat A).2.2), 0)) = _
    rw [if_neg h1, hs]
  rw [e]
  refine KW.retW rfl rfl rfl rfl (fun H1 g => by have := g.n_; omega) (fun id hid hw => ⟨⟨(o0 id hid).1, fun e => hw (by rw [e]; exact HD.Win.2.1)⟩, (o0 id hid).2⟩) (fun H3 g => ⟨rfl, ?_⟩)
  have hn3 := g.n_
  have hsn : sid < H.n := hs0
  have hnew := (g.blk (j := 1) rfl).1
  have xk : ∀ id, X id → H3.m id = H.m id := fun id p => by
    have p0 := h.sx id p
    exact ((g.froz id ⟨(o0 id p0).1, fun e => h.out id p (by rw [e]; exact HD.Win.2.1)⟩).2).trans (o0 id p0).2
  have nw : ∀ id, New (H.n + 1) H1.n id → (X id ∨ New H.n H3.n id) ∧ H3.m id = H1.m id := fun id p => by
    have q1 := o1 id p
    have p1 := p.1
    have p2 := p.2
    have q3 := g.froz id ⟨q1.1, by omega⟩
    exact ⟨.inr ⟨by omega, by omega⟩, q3.2⟩
  have hN1 : KI.Sl (fun id => X id ∨ New H.n H3.n id) H3 (.slice a1 s.1.2.1.length q1) s.1.2.1 := sl_mk hO1 nw
  have hN2 : KI.Sl (fun id => X id ∨ New H.n H3.n id) H3 (.slice a2 s.1.2.2.length q2) s.1.2.2 := sl_mk hO2 nw
  have hscl3 : Cl K_Seat X H3 c.seats scs := hscl.mv xk (fun _ p => p)
  have hR1' : K_Purse.R X H3 _ _ := K_Purse.same xk hR1
  have hR2' : K_Purse.R X H3 _ _ := K_Purse.same xk hR2
  have hcl := hscl3.part (y := (s.1, s.1, s.2.2)) (a := ps) (b := qs) (r := [.int .i64 s.2.2]) (b' := [.int .i64 s.1.1, .slice a1 s.1.2.1.length q1, .slice a2 s.1.2.2.length q2]) (X' := fun id => X id ∨ New H.n H3.n id) hse hseg (by rw [hqs]; rfl) (fun id p => .inl p) (mk_Seat (x := (s.1, s.1, s.2.2)) (K_Purse.more (fun id p => .inl p) hR1') (mk_Purse hN1 hN2))
  have e0 : 0 + A.toNat * 7 + 3 = A.toNat * K_Seat.es + ps.length := by rw [hps]; show 0 + A.toNat * 7 + 3 = A.toNat * 7 + 3; omega
  refine h.reSeatsN (by simp) (fun id h1 h2 => ((g.froz id ⟨(o0 id h1).1, h2⟩).2).trans (o0 id h1).2) (cs := splice scs _ _) ?_ hcl.1
  rw [← e0]
  exact hnew
theorem specDo8 {A B : Int} {did : Nat} (hd : DealOk x) (hB : B_Deal x) (hok : CerOk x c) (h : Hl HTS [.pointer (some ⟨did, 0, none⟩)] [] S H0 X d c) (hD : K_Deal.R D H0 x dcs) (hDv : Has3 D H0 did 0 dcs) (hDD : ∀ id, D id → S id ∧ ¬ d.W id) (hA : HoOk x A) :
    SpecW Tryz.prog S H0 d.W 70 [.pointer (some ⟨d.hid, 0, none⟩), .agg [.int .i64 8, .int .i64 A, .int .i64 B].toArray] (HlRes HTS [.pointer (some ⟨did, 0, none⟩)] [] X d (doIt x c (8, A, B))) := by
  refine SpecW.of0 Tryz.func70 rfl (by kernel_rfl) rfl (fun H hfin hfz => ?_)
  haveI o : On S H0 (Low H.n) H := ⟨fun id hs => ⟨(hfz id hs).1, (hfz id hs).2⟩⟩
  have h := h.on (S' := Low H.n) (A' := H)
  have hD : K_Deal.R D H x dcs := K_Deal.same (fun id hid => (hfz id (hDD id hid).1).2) hD
  have hDv : Has3 D H did 0 dcs := by
    obtain ⟨d0, b, d1, d2⟩ := hDv
    exact ⟨d0, b, ((hfz did (hDD did d0).1).2).trans d1, d2⟩
  have hDD : ∀ id, D id → id < H.n ∧ ¬ d.W id := fun id hid => ⟨(hfz id (hDD id hid).1).1, (hDD id hid).2⟩
  have hDL : K_Deal.R (Low H.n) H x dcs := K_Deal.more (fun id p => (hDD id p).1) hD
  have hDvL : Has3 (Low H.n) H did 0 dcs := ⟨(hDD did hDv.1).1, hDv.2⟩
  obtain ⟨d1, d2, d3, d4, d5, d6, d7, d8, rfl⟩ := form_Deal hD
  obtain ⟨hid, sid, gid, bid, nid, w⟩ := d
  have hc := h.cellsH
  have hh := h.hall
  have hsl := hok.sl
  have h7 := hd.sch.h7
  have hA0 : 0 ≤ A := hA.1
  have hA1 : A < x.1.1 := hA.2
  obtain ⟨hs0, scs, hs1, hscl⟩ := h.seats
  simp only at hs0 hs1
  obtain ⟨hse, hsok⟩ := hok.seat hA
  obtain ⟨s, hs⟩ : ∃ s, c.seat A = s := ⟨_, rfl⟩
  rw [hs] at hse hsok
  have hR := hscl.2 _ _ hse
  obtain ⟨ps, qs, hseg, hR1, hR2⟩ := split_Seat hR
  obtain ⟨b1, e1, b2, e2, hps, hR3, hR4⟩ := split_Purse hR1
  obtain ⟨b3, e3, b4, e4, hqs, hR5, hR6⟩ := split_Purse hR2
  have hle : A.toNat * 7 + 7 ≤ scs.length := by have := hscl.1; have h2 := mul_le' (e := 7) (List.getElem?_eq_some_iff.1 hse).1; have : c.seats.length * 7 ≤ scs.length := this; omega
  have cel : ∀ (q : Nat) v, (ps ++ (qs ++ [.int .i64 s.2.2]) : List Value)[q]? = some v → scs[0 + A.toNat * 7 + q]? = some v := fun q v hv => by
    have := seg_at hseg hv
    rw [Nat.zero_add]; exact this
  refine KW.cF rfl rfl (by first | (simp; done) | decide) ?_
  refine KW.cF rfl rfl (by first | (simp; done) | decide) ?_
  refine KW.cF rfl rfl (by first | (simp; done) | decide) ?_
  refine KW.cF rfl rfl (by first | (simp; done) | decide) ?_
  refine KW.ldF 0 hc rfl rfl rfl rfl rfl rfl rfl rfl rfl ?_
  refine KW.ldF 0 hDvL rfl rfl rfl rfl rfl rfl rfl rfl rfl ?_
  refine KW.no rfl rfl (by omega) ?_
  refine KW.ldF 2 hc rfl rfl rfl rfl rfl rfl rfl rfl rfl ?_
  refine KW.idx0 rfl rfl rfl rfl rfl rfl rfl rfl rfl (by omega) (by show A < ((c.seats.length : Nat) : Int); omega) ?_
  refine KW.cF rfl rfl (by first | (simp; done) | decide) ?_
  refine KW.cF rfl rfl (by first | (simp; done) | decide) ?_
  refine KW.cF rfl rfl (by first | (simp; done) | decide) ?_
  refine KW.cF rfl rfl (by first | (simp; done) | decide) ?_
  have hsrc : (scs.drop (0 + A.toNat * 7 + 3)).take 3 = [.int .i64 s.2.1.1, .slice b3 s.2.1.2.1.length e3, .slice b4 s.2.1.2.2.length e4] := seg_of rfl (fun q v hv => by
    have hv' : (ps ++ (qs ++ [.int .i64 s.2.2]) : List Value)[3 + q]? = some v := by
      rw [hps, hqs]
      match q, hv with
      | 0, hv => exact hv
      | 1, hv => exact hv
      | 2, hv => exact hv
      | q + 3, hv => simp at hv
    have := cel (3 + q) v hv'
    rwa [← Nat.add_assoc] at this)
  have hol : x.1.2.1.length ≤ 1048576 := hB.1.2.1
  have hrl := rowsOf_len x.1.2.1 A
  have hvl : s.2.1.2.1.length ≤ 1048576 := by rcases hsok.sa with q | q; rw [q.2.1]; simp; have := q.2.vl; omega
  have htl : s.2.1.2.2.length ≤ 1048576 := by rcases hsok.sa with q | q; rw [q.2.2]; simp; have := q.2.tl; omega
  refine KW.ldP hs0 hs1 rfl rfl rfl rfl rfl (bload_seg (ps := [.int .i64 s.2.1.1, .slice b3 s.2.1.2.1.length e3, .slice b4 s.2.1.2.2.length e4]) rfl rfl rfl (by show 0 + A.toNat * 7 + 3 + 3 ≤ scs.length; omega) hsrc) ?_
  have hRL : K_Purse.R (Low H.n) H s.2.1 [.int .i64 s.2.1.1, .slice b3 s.2.1.2.1.length e3, .slice b4 s.2.1.2.2.length e4] := K_Purse.more h.sx (mk_Purse hR5 hR6)
  refine KW.callN1 rfl rfl rfl rfl rfl (l08PurseS hRL hvl htl) (fun v H1 S1 m1 _ _ hv => ?_)
  obtain ⟨a1, q1, a2, q2, rfl, hO1, hO2⟩ := hv
  have o0 := (inferInstance : On (Low H.n) H S1 H1).st
  have o1 := (inferInstance : On (New (H.n + 1) H1.n) H1 S1 H1).st
  refine KW.thaw sid _ (o0 sid hs0).1 ((o0 sid hs0).2.trans hs1) ?_
  refine KW.stB 1 rfl rfl rfl rfl rfl rfl (bstore_agg rfl rfl rfl (by show 0 + A.toNat * 7 + 0 + 3 ≤ scs.length; omega) rfl) ?_
  have e : doIt x c (8, A, B) = (setS c A (s.2.1, s.2.1, s.2.2), 0) := by
    have h1 : ¬ x.1.1 ≤ A := by omega
    show (if x.1.1 ≤ A then (c, 2) else (setS c A ((c.seat A).2.1, (c.seat A).2.1, (c.seat A).2.2), 0)) = _
    rw [if_neg h1, hs]
  rw [e]
  refine KW.retW rfl rfl rfl rfl (fun H1 g => by have := g.n_; omega) (fun id hid hw => ⟨⟨(o0 id hid).1, fun e => hw (by rw [e]; exact HD.Win.2.1)⟩, (o0 id hid).2⟩) (fun H3 g => ⟨rfl, ?_⟩)
  have hn3 := g.n_
  have hsn : sid < H.n := hs0
  have hnew := (g.blk (j := 1) rfl).1
  have xk : ∀ id, X id → H3.m id = H.m id := fun id p => by
    have p0 := h.sx id p
    exact ((g.froz id ⟨(o0 id p0).1, fun e => h.out id p (by rw [e]; exact HD.Win.2.1)⟩).2).trans (o0 id p0).2
  have nw : ∀ id, New (H.n + 1) H1.n id → (X id ∨ New H.n H3.n id) ∧ H3.m id = H1.m id := fun id p => by
    have q1 := o1 id p
    have p1 := p.1
    have p2 := p.2
    have q3 := g.froz id ⟨q1.1, by omega⟩
    exact ⟨.inr ⟨by omega, by omega⟩, q3.2⟩
  have hN1 : KI.Sl (fun id => X id ∨ New H.n H3.n id) H3 (.slice a1 s.2.1.2.1.length q1) s.2.1.2.1 := sl_mk hO1 nw
  have hN2 : KI.Sl (fun id => X id ∨ New H.n H3.n id) H3 (.slice a2 s.2.1.2.2.length q2) s.2.1.2.2 := sl_mk hO2 nw
  have hscl3 : Cl K_Seat X H3 c.seats scs := hscl.mv xk (fun _ p => p)
  have hR1' : K_Purse.R X H3 _ _ := K_Purse.same xk hR1
  have hR2' : K_Purse.R X H3 _ _ := K_Purse.same xk hR2
  have hcl := hscl3.part (y := (s.2.1, s.2.1, s.2.2)) (a := []) (b := ps) (r := qs ++ [.int .i64 s.2.2]) (b' := [.int .i64 s.2.1.1, .slice a1 s.2.1.2.1.length q1, .slice a2 s.2.1.2.2.length q2]) (X' := fun id => X id ∨ New H.n H3.n id) hse hseg (by rw [hps]; rfl) (fun id p => .inl p) (show K_Seat.R (fun id => X id ∨ New H.n H3.n id) H3 (s.2.1, s.2.1, s.2.2) ([.int .i64 s.2.1.1, .slice a1 s.2.1.2.1.length q1, .slice a2 s.2.1.2.2.length q2] ++ (qs ++ [.int .i64 s.2.2])) from mk_Seat (x := (s.2.1, s.2.1, s.2.2)) (mk_Purse hN1 hN2) (K_Purse.more (fun id p => .inl p) hR2'))
  have e0 : 0 + A.toNat * 7 + 0 = A.toNat * K_Seat.es + ([] : List Value).length := by show 0 + A.toNat * 7 + 0 = A.toNat * 7 + 0; omega
  refine h.reSeatsN (by simp) (fun id h1 h2 => ((g.froz id ⟨(o0 id h1).1, h2⟩).2).trans (o0 id h1).2) (cs := splice scs _ _) ?_ hcl.1
  rw [← e0]
  exact hnew
theorem specNo1 {A B : Int} {did : Nat} (hd : DealOk x) (hB : B_Deal x) (hok : CerOk x c) (h : Hl HTS [.pointer (some ⟨did, 0, none⟩)] [] S H0 X d c) (hD : K_Deal.R D H0 x dcs) (hDv : Has3 D H0 did 0 dcs) (hDD : ∀ id, D id → S id ∧ ¬ d.W id) (hA : x.1.1 ≤ A) :
    SpecW Tryz.prog S H0 d.W 70 [.pointer (some ⟨d.hid, 0, none⟩), .agg [.int .i64 1, .int .i64 A, .int .i64 B].toArray] (HlRes HTS [.pointer (some ⟨did, 0, none⟩)] [] X d (doIt x c (1, A, B))) := by
  refine SpecW.of0 Tryz.func70 rfl (by kernel_rfl) rfl (fun H hfin hfz => ?_)
  haveI o : On S H0 (Low H.n) H := ⟨fun id hs => ⟨(hfz id hs).1, (hfz id hs).2⟩⟩
  have h := h.on (S' := Low H.n) (A' := H)
  have hD : K_Deal.R D H x dcs := K_Deal.same (fun id hid => (hfz id (hDD id hid).1).2) hD
  have hDv : Has3 D H did 0 dcs := by
    obtain ⟨d0, b, d1, d2⟩ := hDv
    exact ⟨d0, b, ((hfz did (hDD did d0).1).2).trans d1, d2⟩
  have hDD : ∀ id, D id → id < H.n ∧ ¬ d.W id := fun id hid => ⟨(hfz id (hDD id hid).1).1, (hDD id hid).2⟩
  have hDL : K_Deal.R (Low H.n) H x dcs := K_Deal.more (fun id p => (hDD id p).1) hD
  have hDvL : Has3 (Low H.n) H did 0 dcs := ⟨(hDD did hDv.1).1, hDv.2⟩
  obtain ⟨d1, d2, d3, d4, d5, d6, d7, d8, rfl⟩ := form_Deal hD
  obtain ⟨hid, sid, gid, bid, nid, w⟩ := d
  have hc := h.cellsH
  have hh := h.hall
  have hsl := hok.sl
  have h7 := hd.sch.h7
  refine KW.cF rfl rfl (by first | (simp; done) | decide) ?_
  refine KW.cF rfl rfl (by first | (simp; done) | decide) ?_
  refine KW.cF rfl rfl (by first | (simp; done) | decide) ?_
  refine KW.cF rfl rfl (by first | (simp; done) | decide) ?_
  refine KW.ldF 0 hc rfl rfl rfl rfl rfl rfl rfl rfl rfl ?_
  refine KW.ldF 0 hDvL rfl rfl rfl rfl rfl rfl rfl rfl rfl ?_
  refine KW.yes rfl rfl (by omega) ?_
  have e : doIt x c (1, A, B) = (c, 2) := by
    show (if x.1.1 ≤ A then (c, 2) else _) = _
    rw [if_pos hA]
  rw [e]
  exact KW.retW rfl rfl rfl rfl (fun H1 g => by have := g.n_; omega) (fun id hid _ => ⟨hid, rfl⟩) (fun H1 g => ⟨rfl, HlPost.same h (fun id p => p) (fun id hid => (g.froz id hid).2)⟩)
theorem specNo2 {A B : Int} {did : Nat} (hd : DealOk x) (hB : B_Deal x) (hok : CerOk x c) (h : Hl HTS [.pointer (some ⟨did, 0, none⟩)] [] S H0 X d c) (hD : K_Deal.R D H0 x dcs) (hDv : Has3 D H0 did 0 dcs) (hDD : ∀ id, D id → S id ∧ ¬ d.W id) (hA : x.1.1 ≤ A) :
    SpecW Tryz.prog S H0 d.W 70 [.pointer (some ⟨d.hid, 0, none⟩), .agg [.int .i64 2, .int .i64 A, .int .i64 B].toArray] (HlRes HTS [.pointer (some ⟨did, 0, none⟩)] [] X d (doIt x c (2, A, B))) := by
  refine SpecW.of0 Tryz.func70 rfl (by kernel_rfl) rfl (fun H hfin hfz => ?_)
  haveI o : On S H0 (Low H.n) H := ⟨fun id hs => ⟨(hfz id hs).1, (hfz id hs).2⟩⟩
  have h := h.on (S' := Low H.n) (A' := H)
  have hD : K_Deal.R D H x dcs := K_Deal.same (fun id hid => (hfz id (hDD id hid).1).2) hD
  have hDv : Has3 D H did 0 dcs := by
    obtain ⟨d0, b, d1, d2⟩ := hDv
    exact ⟨d0, b, ((hfz did (hDD did d0).1).2).trans d1, d2⟩
  have hDD : ∀ id, D id → id < H.n ∧ ¬ d.W id := fun id hid => ⟨(hfz id (hDD id hid).1).1, (hDD id hid).2⟩
  have hDL : K_Deal.R (Low H.n) H x dcs := K_Deal.more (fun id p => (hDD id p).1) hD
  have hDvL : Has3 (Low H.n) H did 0 dcs := ⟨(hDD did hDv.1).1, hDv.2⟩
  obtain ⟨d1, d2, d3, d4, d5, d6, d7, d8, rfl⟩ := form_Deal hD
  obtain ⟨hid, sid, gid, bid, nid, w⟩ := d
  have hc := h.cellsH
  have hh := h.hall
  have hsl := hok.sl
  have h7 := hd.sch.h7
  refine KW.cF rfl rfl (by first | (simp; done) | decide) ?_
  refine KW.cF rfl rfl (by first | (simp; done) | decide) ?_
  refine KW.cF rfl rfl (by first | (simp; done) | decide) ?_
  refine KW.cF rfl rfl (by first | (simp; done) | decide) ?_
  refine KW.ldF 0 hc rfl rfl rfl rfl rfl rfl rfl rfl rfl ?_
  refine KW.ldF 0 hDvL rfl rfl rfl rfl rfl rfl rfl rfl rfl ?_
  refine KW.yes rfl rfl (by omega) ?_
  have e : doIt x c (2, A, B) = (c, 2) := by
    show (if x.1.1 ≤ A then (c, 2) else _) = _
    rw [if_pos hA]
  rw [e]
  exact KW.retW rfl rfl rfl rfl (fun H1 g => by have := g.n_; omega) (fun id hid _ => ⟨hid, rfl⟩) (fun H1 g => ⟨rfl, HlPost.same h (fun id p => p) (fun id hid => (g.froz id hid).2)⟩)
theorem specNo6 {A B : Int} {did : Nat} (hd : DealOk x) (hB : B_Deal x) (hok : CerOk x c) (h : Hl HTS [.pointer (some ⟨did, 0, none⟩)] [] S H0 X d c) (hD : K_Deal.R D H0 x dcs) (hDv : Has3 D H0 did 0 dcs) (hDD : ∀ id, D id → S id ∧ ¬ d.W id) (hA : x.1.1 ≤ A) :
    SpecW Tryz.prog S H0 d.W 70 [.pointer (some ⟨d.hid, 0, none⟩), .agg [.int .i64 6, .int .i64 A, .int .i64 B].toArray] (HlRes HTS [.pointer (some ⟨did, 0, none⟩)] [] X d (doIt x c (6, A, B))) := by
  refine SpecW.of0 Tryz.func70 rfl (by kernel_rfl) rfl (fun H hfin hfz => ?_)
  haveI o : On S H0 (Low H.n) H := ⟨fun id hs => ⟨(hfz id hs).1, (hfz id hs).2⟩⟩
  have h := h.on (S' := Low H.n) (A' := H)
  have hD : K_Deal.R D H x dcs := K_Deal.same (fun id hid => (hfz id (hDD id hid).1).2) hD
  have hDv : Has3 D H did 0 dcs := by
    obtain ⟨d0, b, d1, d2⟩ := hDv
    exact ⟨d0, b, ((hfz did (hDD did d0).1).2).trans d1, d2⟩
  have hDD : ∀ id, D id → id < H.n ∧ ¬ d.W id := fun id hid => ⟨(hfz id (hDD id hid).1).1, (hDD id hid).2⟩
  have hDL : K_Deal.R (Low H.n) H x dcs := K_Deal.more (fun id p => (hDD id p).1) hD
  have hDvL : Has3 (Low H.n) H did 0 dcs := ⟨(hDD did hDv.1).1, hDv.2⟩
  obtain ⟨d1, d2, d3, d4, d5, d6, d7, d8, rfl⟩ := form_Deal hD
  obtain ⟨hid, sid, gid, bid, nid, w⟩ := d
  have hc := h.cellsH
  have hh := h.hall
  have hsl := hok.sl
  have h7 := hd.sch.h7
  refine KW.cF rfl rfl (by first | (simp; done) | decide) ?_
  refine KW.cF rfl rfl (by first | (simp; done) | decide) ?_
  refine KW.cF rfl rfl (by first | (simp; done) | decide) ?_
  refine KW.cF rfl rfl (by first | (simp; done) | decide) ?_
  refine KW.ldF 0 hc rfl rfl rfl rfl rfl rfl rfl rfl rfl ?_
  refine KW.ldF 0 hDvL rfl rfl rfl rfl rfl rfl rfl rfl rfl ?_
  refine KW.yes rfl rfl (by omega) ?_
  have e : doIt x c (6, A, B) = (c, 2) := by
    show (if x.1.1 ≤ A then (c, 2) else _) = _
    rw [if_pos hA]
  rw [e]
  exact KW.retW rfl rfl rfl rfl (fun H1 g => by have := g.n_; omega) (fun id hid _ => ⟨hid, rfl⟩) (fun H1 g => ⟨rfl, HlPost.same h (fun id p => p) (fun id hid => (g.froz id hid).2)⟩)
theorem specNo7 {A B : Int} {did : Nat} (hd : DealOk x) (hB : B_Deal x) (hok : CerOk x c) (h : Hl HTS [.pointer (some ⟨did, 0, none⟩)] [] S H0 X d c) (hD : K_Deal.R D H0 x dcs) (hDv : Has3 D H0 did 0 dcs) (hDD : ∀ id, D id → S id ∧ ¬ d.W id) (hA : x.1.1 ≤ A) :
    SpecW Tryz.prog S H0 d.W 70 [.pointer (some ⟨d.hid, 0, none⟩), .agg [.int .i64 7, .int .i64 A, .int .i64 B].toArray] (HlRes HTS [.pointer (some ⟨did, 0, none⟩)] [] X d (doIt x c (7, A, B))) := by
  refine SpecW.of0 Tryz.func70 rfl (by kernel_rfl) rfl (fun H hfin hfz => ?_)
  haveI o : On S H0 (Low H.n) H := ⟨fun id hs => ⟨(hfz id hs).1, (hfz id hs).2⟩⟩
  have h := h.on (S' := Low H.n) (A' := H)
  have hD : K_Deal.R D H x dcs := K_Deal.same (fun id hid => (hfz id (hDD id hid).1).2) hD
  have hDv : Has3 D H did 0 dcs := by
    obtain ⟨d0, b, d1, d2⟩ := hDv
    exact ⟨d0, b, ((hfz did (hDD did d0).1).2).trans d1, d2⟩
  have hDD : ∀ id, D id → id < H.n ∧ ¬ d.W id := fun id hid => ⟨(hfz id (hDD id hid).1).1, (hDD id hid).2⟩
  have hDL : K_Deal.R (Low H.n) H x dcs := K_Deal.more (fun id p => (hDD id p).1) hD
  have hDvL : Has3 (Low H.n) H did 0 dcs := ⟨(hDD did hDv.1).1, hDv.2⟩
  obtain ⟨d1, d2, d3, d4, d5, d6, d7, d8, rfl⟩ := form_Deal hD
  obtain ⟨hid, sid, gid, bid, nid, w⟩ := d
  have hc := h.cellsH
  have hh := h.hall
  have hsl := hok.sl
  have h7 := hd.sch.h7
  refine KW.cF rfl rfl (by first | (simp; done) | decide) ?_
  refine KW.cF rfl rfl (by first | (simp; done) | decide) ?_
  refine KW.cF rfl rfl (by first | (simp; done) | decide) ?_
  refine KW.cF rfl rfl (by first | (simp; done) | decide) ?_
  refine KW.ldF 0 hc rfl rfl rfl rfl rfl rfl rfl rfl rfl ?_
  refine KW.ldF 0 hDvL rfl rfl rfl rfl rfl rfl rfl rfl rfl ?_
  refine KW.yes rfl rfl (by omega) ?_
  have e : doIt x c (7, A, B) = (c, 2) := by
    show (if x.1.1 ≤ A then (c, 2) else _) = _
    rw [if_pos hA]
  rw [e]
  exact KW.retW rfl rfl rfl rfl (fun H1 g => by have := g.n_; omega) (fun id hid _ => ⟨hid, rfl⟩) (fun H1 g => ⟨rfl, HlPost.same h (fun id p => p) (fun id hid => (g.froz id hid).2)⟩)
theorem specNo8 {A B : Int} {did : Nat} (hd : DealOk x) (hB : B_Deal x) (hok : CerOk x c) (h : Hl HTS [.pointer (some ⟨did, 0, none⟩)] [] S H0 X d c) (hD : K_Deal.R D H0 x dcs) (hDv : Has3 D H0 did 0 dcs) (hDD : ∀ id, D id → S id ∧ ¬ d.W id) (hA : x.1.1 ≤ A) :
    SpecW Tryz.prog S H0 d.W 70 [.pointer (some ⟨d.hid, 0, none⟩), .agg [.int .i64 8, .int .i64 A, .int .i64 B].toArray] (HlRes HTS [.pointer (some ⟨did, 0, none⟩)] [] X d (doIt x c (8, A, B))) := by
  refine SpecW.of0 Tryz.func70 rfl (by kernel_rfl) rfl (fun H hfin hfz => ?_)
  haveI o : On S H0 (Low H.n) H := ⟨fun id hs => ⟨(hfz id hs).1, (hfz id hs).2⟩⟩
  have h := h.on (S' := Low H.n) (A' := H)
  have hD : K_Deal.R D H x dcs := K_Deal.same (fun id hid => (hfz id (hDD id hid).1).2) hD
  have hDv : Has3 D H did 0 dcs := by
    obtain ⟨d0, b, d1, d2⟩ := hDv
    exact ⟨d0, b, ((hfz did (hDD did d0).1).2).trans d1, d2⟩
  have hDD : ∀ id, D id → id < H.n ∧ ¬ d.W id := fun id hid => ⟨(hfz id (hDD id hid).1).1, (hDD id hid).2⟩
  have hDL : K_Deal.R (Low H.n) H x dcs := K_Deal.more (fun id p => (hDD id p).1) hD
  have hDvL : Has3 (Low H.n) H did 0 dcs := ⟨(hDD did hDv.1).1, hDv.2⟩
  obtain ⟨d1, d2, d3, d4, d5, d6, d7, d8, rfl⟩ := form_Deal hD
  obtain ⟨hid, sid, gid, bid, nid, w⟩ := d
  have hc := h.cellsH
  have hh := h.hall
  have hsl := hok.sl
  have h7 := hd.sch.h7
  refine KW.cF rfl rfl (by first | (simp; done) | decide) ?_
  refine KW.cF rfl rfl (by first | (simp; done) | decide) ?_
  refine KW.cF rfl rfl (by first | (simp; done) | decide) ?_
  refine KW.cF rfl rfl (by first | (simp; done) | decide) ?_
  refine KW.ldF 0 hc rfl rfl rfl rfl rfl rfl rfl rfl rfl ?_
  refine KW.ldF 0 hDvL rfl rfl rfl rfl rfl rfl rfl rfl rfl ?_
  refine KW.yes rfl rfl (by omega) ?_
  have e : doIt x c (8, A, B) = (c, 2) := by
    show (if x.1.1 ≤ A then (c, 2) else _) = _
    rw [if_pos hA]
  rw [e]
  exact KW.retW rfl rfl rfl rfl (fun H1 g => by have := g.n_; omega) (fun id hid _ => ⟨hid, rfl⟩) (fun H1 g => ⟨rfl, HlPost.same h (fun id p => p) (fun id hid => (g.froz id hid).2)⟩)
theorem implNo1 {A B : Int} (hd : DealOk x) (hB : B_Deal x) (hok : CerOk x c) (h : Hl HTI [] dcs S H0 X d c) (hD : K_Deal.R D H0 x dcs) (hDD : ∀ id, D id → S id ∧ ¬ d.W id) (hA : x.1.1 ≤ A) :
    SpecW Tryz.prog S H0 d.W 77 [.pointer (some ⟨d.hid, 0, none⟩), .agg [.int .i64 1, .int .i64 A, .int .i64 B].toArray] (HlRes HTI [] dcs X d (doIt x c (1, A, B))) := by
  obtain ⟨d1, d2, d3, d4, d5, d6, d7, d8, rfl⟩ := form_Deal hD
  refine SpecW.of0 Tryz.func77 rfl (by kernel_rfl) rfl (fun H hfin hfz => ?_)
  haveI o : On S H0 (Low H.n) H := ⟨fun id hs => ⟨(hfz id hs).1, (hfz id hs).2⟩⟩
  have h := h.on (S' := Low H.n) (A' := H)
  have hD : K_Deal.R D H x _ := K_Deal.same (fun id hid => (hfz id (hDD id hid).1).2) hD
  obtain ⟨hid, sid, gid, bid, nid, w⟩ := d
  have hc := h.cellsH
  have h7 := hd.sch.h7
  have h1h := hd.sch.h1
  have ewr : IntKind.i64.wrap (x.1.1 - 1) = x.1.1 - 1 := wr (by omega) (by omega)
  refine KW.cF rfl rfl (by first | (simp; done) | decide) ?_
  refine KW.cF rfl rfl (by first | (simp; done) | decide) ?_
  refine KW.cF rfl rfl (by first | (simp; done) | decide) ?_
  refine KW.cF rfl rfl (by first | (simp; done) | decide) ?_
  refine KW.callE rfl rfl rfl rfl rfl (implIsHolder hB (by unfold I64; omega) A hc hD) (fun nE mE => ?_)
  refine KW.cT rfl rfl (by rw [ewr]; simp; omega) ?_
  have e : doIt x c (1, A, B) = (c, 2) := by
    show (if x.1.1 ≤ A then (c, 2) else _) = _
    rw [if_pos hA]
  rw [e]
  exact KW.retW rfl rfl rfl rfl (fun H1 g => by have := g.n_; omega) (fun id hid _ => ⟨hid, rfl⟩) (fun H1 g => ⟨rfl, HlPost.same h (fun id p => p) (fun id hid => (g.froz id hid).2)⟩)
theorem implNo2 {A B : Int} (hd : DealOk x) (hB : B_Deal x) (hok : CerOk x c) (h : Hl HTI [] dcs S H0 X d c) (hD : K_Deal.R D H0 x dcs) (hDD : ∀ id, D id → S id ∧ ¬ d.W id) (hA : x.1.1 ≤ A) :
    SpecW Tryz.prog S H0 d.W 77 [.pointer (some ⟨d.hid, 0, none⟩), .agg [.int .i64 2, .int .i64 A, .int .i64 B].toArray] (HlRes HTI [] dcs X d (doIt x c (2, A, B))) := by
  obtain ⟨d1, d2, d3, d4, d5, d6, d7, d8, rfl⟩ := form_Deal hD
  refine SpecW.of0 Tryz.func77 rfl (by kernel_rfl) rfl (fun H hfin hfz => ?_)
  haveI o : On S H0 (Low H.n) H := ⟨fun id hs => ⟨(hfz id hs).1, (hfz id hs).2⟩⟩
  have h := h.on (S' := Low H.n) (A' := H)
  have hD : K_Deal.R D H x _ := K_Deal.same (fun id hid => (hfz id (hDD id hid).1).2) hD
  obtain ⟨hid, sid, gid, bid, nid, w⟩ := d
  have hc := h.cellsH
  have h7 := hd.sch.h7
  have h1h := hd.sch.h1
  have ewr : IntKind.i64.wrap (x.1.1 - 1) = x.1.1 - 1 := wr (by omega) (by omega)
  refine KW.cF rfl rfl (by first | (simp; done) | decide) ?_
  refine KW.cF rfl rfl (by first | (simp; done) | decide) ?_
  refine KW.cF rfl rfl (by first | (simp; done) | decide) ?_
  refine KW.cF rfl rfl (by first | (simp; done) | decide) ?_
  refine KW.callE rfl rfl rfl rfl rfl (implIsHolder hB (by unfold I64; omega) A hc hD) (fun nE mE => ?_)
  refine KW.cT rfl rfl (by rw [ewr]; simp; omega) ?_
  have e : doIt x c (2, A, B) = (c, 2) := by
    show (if x.1.1 ≤ A then (c, 2) else _) = _
    rw [if_pos hA]
  rw [e]
  exact KW.retW rfl rfl rfl rfl (fun H1 g => by have := g.n_; omega) (fun id hid _ => ⟨hid, rfl⟩) (fun H1 g => ⟨rfl, HlPost.same h (fun id p => p) (fun id hid => (g.froz id hid).2)⟩)
theorem implNo6 {A B : Int} (hd : DealOk x) (hB : B_Deal x) (hok : CerOk x c) (h : Hl HTI [] dcs S H0 X d c) (hD : K_Deal.R D H0 x dcs) (hDD : ∀ id, D id → S id ∧ ¬ d.W id) (hA : x.1.1 ≤ A) :
    SpecW Tryz.prog S H0 d.W 77 [.pointer (some ⟨d.hid, 0, none⟩), .agg [.int .i64 6, .int .i64 A, .int .i64 B].toArray] (HlRes HTI [] dcs X d (doIt x c (6, A, B))) := by
  obtain ⟨d1, d2, d3, d4, d5, d6, d7, d8, rfl⟩ := form_Deal hD
  refine SpecW.of0 Tryz.func77 rfl (by kernel_rfl) rfl (fun H hfin hfz => ?_)
  haveI o : On S H0 (Low H.n) H := ⟨fun id hs => ⟨(hfz id hs).1, (hfz id hs).2⟩⟩
  have h := h.on (S' := Low H.n) (A' := H)
  have hD : K_Deal.R D H x _ := K_Deal.same (fun id hid => (hfz id (hDD id hid).1).2) hD
  obtain ⟨hid, sid, gid, bid, nid, w⟩ := d
  have hc := h.cellsH
  have h7 := hd.sch.h7
  have h1h := hd.sch.h1
  have ewr : IntKind.i64.wrap (x.1.1 - 1) = x.1.1 - 1 := wr (by omega) (by omega)
  refine KW.cF rfl rfl (by first | (simp; done) | decide) ?_
  refine KW.cF rfl rfl (by first | (simp; done) | decide) ?_
  refine KW.cF rfl rfl (by first | (simp; done) | decide) ?_
  refine KW.cF rfl rfl (by first | (simp; done) | decide) ?_
  refine KW.callE rfl rfl rfl rfl rfl (implIsHolder hB (by unfold I64; omega) A hc hD) (fun nE mE => ?_)
  refine KW.cT rfl rfl (by rw [ewr]; simp; omega) ?_
  have e : doIt x c (6, A, B) = (c, 2) := by
    show (if x.1.1 ≤ A then (c, 2) else _) = _
    rw [if_pos hA]
  rw [e]
  exact KW.retW rfl rfl rfl rfl (fun H1 g => by have := g.n_; omega) (fun id hid _ => ⟨hid, rfl⟩) (fun H1 g => ⟨rfl, HlPost.same h (fun id p => p) (fun id hid => (g.froz id hid).2)⟩)
theorem implNo7 {A B : Int} (hd : DealOk x) (hB : B_Deal x) (hok : CerOk x c) (h : Hl HTI [] dcs S H0 X d c) (hD : K_Deal.R D H0 x dcs) (hDD : ∀ id, D id → S id ∧ ¬ d.W id) (hA : x.1.1 ≤ A) :
    SpecW Tryz.prog S H0 d.W 77 [.pointer (some ⟨d.hid, 0, none⟩), .agg [.int .i64 7, .int .i64 A, .int .i64 B].toArray] (HlRes HTI [] dcs X d (doIt x c (7, A, B))) := by
  obtain ⟨d1, d2, d3, d4, d5, d6, d7, d8, rfl⟩ := form_Deal hD
  refine SpecW.of0 Tryz.func77 rfl (by kernel_rfl) rfl (fun H hfin hfz => ?_)
  haveI o : On S H0 (Low H.n) H := ⟨fun id hs => ⟨(hfz id hs).1, (hfz id hs).2⟩⟩
  have h := h.on (S' := Low H.n) (A' := H)
  have hD : K_Deal.R D H x _ := K_Deal.same (fun id hid => (hfz id (hDD id hid).1).2) hD
  obtain ⟨hid, sid, gid, bid, nid, w⟩ := d
  have hc := h.cellsH
  have h7 := hd.sch.h7
  have h1h := hd.sch.h1
  have ewr : IntKind.i64.wrap (x.1.1 - 1) = x.1.1 - 1 := wr (by omega) (by omega)
  refine KW.cF rfl rfl (by first | (simp; done) | decide) ?_
  refine KW.cF rfl rfl (by first | (simp; done) | decide) ?_
  refine KW.cF rfl rfl (by first | (simp; done) | decide) ?_
  refine KW.cF rfl rfl (by first | (simp; done) | decide) ?_
  refine KW.callE rfl rfl rfl rfl rfl (implIsHolder hB (by unfold I64; omega) A hc hD) (fun nE mE => ?_)
  refine KW.cT rfl rfl (by rw [ewr]; simp; omega) ?_
  have e : doIt x c (7, A, B) = (c, 2) := by
    show (if x.1.1 ≤ A then (c, 2) else _) = _
    rw [if_pos hA]
  rw [e]
  exact KW.retW rfl rfl rfl rfl (fun H1 g => by have := g.n_; omega) (fun id hid _ => ⟨hid, rfl⟩) (fun H1 g => ⟨rfl, HlPost.same h (fun id p => p) (fun id hid => (g.froz id hid).2)⟩)
theorem implNo8 {A B : Int} (hd : DealOk x) (hB : B_Deal x) (hok : CerOk x c) (h : Hl HTI [] dcs S H0 X d c) (hD : K_Deal.R D H0 x dcs) (hDD : ∀ id, D id → S id ∧ ¬ d.W id) (hA : x.1.1 ≤ A) :
    SpecW Tryz.prog S H0 d.W 77 [.pointer (some ⟨d.hid, 0, none⟩), .agg [.int .i64 8, .int .i64 A, .int .i64 B].toArray] (HlRes HTI [] dcs X d (doIt x c (8, A, B))) := by
  obtain ⟨d1, d2, d3, d4, d5, d6, d7, d8, rfl⟩ := form_Deal hD
  refine SpecW.of0 Tryz.func77 rfl (by kernel_rfl) rfl (fun H hfin hfz => ?_)
  haveI o : On S H0 (Low H.n) H := ⟨fun id hs => ⟨(hfz id hs).1, (hfz id hs).2⟩⟩
  have h := h.on (S' := Low H.n) (A' := H)
  have hD : K_Deal.R D H x _ := K_Deal.same (fun id hid => (hfz id (hDD id hid).1).2) hD
  obtain ⟨hid, sid, gid, bid, nid, w⟩ := d
  have hc := h.cellsH
  have h7 := hd.sch.h7
  have h1h := hd.sch.h1
  have ewr : IntKind.i64.wrap (x.1.1 - 1) = x.1.1 - 1 := wr (by omega) (by omega)
  refine KW.cF rfl rfl (by first | (simp; done) | decide) ?_
  refine KW.cF rfl rfl (by first | (simp; done) | decide) ?_
  refine KW.cF rfl rfl (by first | (simp; done) | decide) ?_
  refine KW.cF rfl rfl (by first | (simp; done) | decide) ?_
  refine KW.callE rfl rfl rfl rfl rfl (implIsHolder hB (by unfold I64; omega) A hc hD) (fun nE mE => ?_)
  refine KW.cT rfl rfl (by rw [ewr]; simp; omega) ?_
  have e : doIt x c (8, A, B) = (c, 2) := by
    show (if x.1.1 ≤ A then (c, 2) else _) = _
    rw [if_pos hA]
  rw [e]
  exact KW.retW rfl rfl rfl rfl (fun H1 g => by have := g.n_; omega) (fun id hid _ => ⟨hid, rfl⟩) (fun H1 g => ⟨rfl, HlPost.same h (fun id p => p) (fun id hid => (g.froz id hid).2)⟩)
end
end Go.Proofs.YtijmkfnmdhpakaaGreat.Am
/- Contracts: what is given is a ceremony, both sides; a deed of any kind. Each holds under its own conditions. -/
set_option linter.unusedVariables false
set_option linter.unusedSimpArgs false
set_option maxRecDepth 20000
namespace Go.Proofs.YtijmkfnmdhpakaaGreat.Am
open Go Go.RowKit Go.Proofs
def OkAll (x : T_Deal) (ds : List T_Deed) : Prop := DealOk x ∧ ∀ d ∈ ds, DeedP d
noncomputable def givenC (x : T_Deal) (ds : List T_Deed) : Int := if tv (OkAll x ds) = true then (if (400 : Int) < ds.length then 2 else 0) else 1
section
variable {S : Ids} {H0 : AH} {x : T_Deal} {ds : List T_Deed} {dcs : List Value}
theorem deedsCode1 (d : T_Deed) : Spec Tryz.prog S H0 74 [.agg [.int .i64 d.1, .int .i64 d.2.1, .int .i64 d.2.2].toArray] (fun v => v = .bool (!tv (DeedP d))) := by
  refine Spec.of1 Tryz.func74 rfl (by kernel_rfl) rfl (fun H _ => ?_)
  refine KW.callE rfl rfl rfl rfl rfl (validDeed d) (fun _ _ => ?_)
  exact KW.ret rfl rfl rfl rfl (rfl)
theorem indexFuncD {a c} (hl : ds.length ≤ 4611686018427387904) (hs : K_Deed.Sl S H0 (.slice a ds.length c) ds) :
    Spec Tryz.prog S H0 110 [.slice a ds.length c, .func (.func 74) #[] #[]] (fun v => ∃ r : Int, v = .int .i64 r ∧ (r ≥ 0 ↔ ∃ d ∈ ds, ¬ DeedP d)) := by
  refine Spec.of1 Tryz.func110 rfl (by kernel_rfl) rfl (fun H _ => ?_)
  refine KW.lp rfl rfl (fun i : Nat => [(0, .slice a ds.length c), (1, .func (.func 74) #[] #[]), (7, .int .i64 ds.length), (8, .int .i64 i)]) (fun i => i ≤ ds.length ∧ ∀ j, j < i → ∀ d, ds[j]? = some d → DeedP d) (fun i => ds.length - i) (0) (⟨by omega, fun j h => absurd h (by omega)⟩) ⟨rfl, rfl, rfl, rfl, trivial⟩ (fun i hi bE n => ?_)
  obtain ⟨hi, hj⟩ := hi
  refine KW.cnd rfl rfl (fun h => ?_) (fun h => ?_)
  · refine KW.getS (td := .struct #[]) hs.up rfl rfl rfl rfl rfl rfl rfl rfl rfl rfl rfl rfl rfl rfl rfl rfl rfl (by omega) (h) (fun y cy hy hsy => ?_)
    have hy : ds[i]? = some y := hy
    obtain rfl := form_Deed hsy
    have hmem := List.mem_of_getElem? hy
    refine KW.callE rfl rfl rfl rfl rfl (deedsCode1 y) (fun _ _ => ?_)
    refine KW.cndB rfl rfl (fun h2 => ?_) (fun h2 => ?_)
    · have h2 : ¬ DeedP y := fun p => by rw [tv_true p] at h2; cases h2
      exact KW.ret rfl rfl rfl rfl (⟨(i : Int), rfl, fun _ => ⟨y, hmem, h2⟩, fun _ => by omega⟩)
    · have h2 : DeedP y := tv_iff.1 (by simpa using h2)
      refine KW.nxt rfl rfl (fun H' g => ⟨i + 1, ⟨by omega, upto hj (fun z hz => by rw [hy] at hz; cases hz; exact h2)⟩, by first | omega | (simp only; omega), ⟨rfl, rfl, rfl, congrArg (Value.int .i64) (inc64 (by omega)), trivial⟩, g⟩)
  · refine KW.ret rfl rfl rfl rfl ⟨-1, rfl, fun h => absurd h (by decide), fun ⟨d, hd, hpd⟩ => ?_⟩
    obtain ⟨j, hjx⟩ := List.getElem?_of_mem hd
    exact absurd (hj j (by have := (List.getElem?_eq_some_iff.1 hjx).1; omega) d hjx) hpd
theorem containsFuncD {a c} (hl : ds.length ≤ 4611686018427387904) (hs : K_Deed.Sl S H0 (.slice a ds.length c) ds) :
    Spec Tryz.prog S H0 73 [.slice a ds.length c, .func (.func 74) #[] #[]] (fun v => v = .bool (tv (∃ d ∈ ds, ¬ DeedP d))) := by
  refine Spec.of1 Tryz.func73 rfl (by kernel_rfl) rfl (fun H _ => ?_)
  refine KW.call rfl rfl rfl rfl rfl (indexFuncD hl hs.up) (fun v _ _ hv => ?_)
  obtain ⟨r, rfl, hr⟩ := hv
  refine KW.ret rfl rfl rfl rfl ?_
  show Value.bool (decide (r ≥ 0)) = _
  rw [tv_dec, tv_congr hr]
theorem deedsCode {a c} (hB : B_Deal x) (hl : ds.length ≤ 1048576) (hD : K_Deal.R S H0 x dcs) (hs : K_Deed.Sl S H0 (.slice a ds.length c) ds) : Spec Tryz.prog S H0 41 [.agg dcs.toArray, .slice a ds.length c] (fun v => v = .int .i64 (givenC x ds)) := by
  obtain ⟨a1, c1, a2, c2, a3, c3, a4, c4, rfl, h1, h2, h3, h4⟩ := split2_Deal hD
  refine Spec.of1 Tryz.func41 rfl (by kernel_rfl) rfl (fun H _ => ?_)
  refine KW.callE rfl rfl rfl rfl rfl (validDeal x.1.1 x.1.2.2.1 x.1.2.2.2.1 x.2.1 hB.1.2.2.1 hB.1.2.1 hB.1.2.2.2.2 hB.2.2.1 hB.2.2.2 h1.up h2.up h3.up h4.up) (fun _ _ => ?_)
  refine KW.tstB rfl rfl (fun k1 => ?_) (fun k1 => ?_)
  · have k1 : ¬ DealOk x := fun p => by unfold DealOk at p; rw [tv_true p] at k1; cases k1
    have e : givenC x ds = 1 := by unfold givenC; rw [tv_false (fun p => k1 p.1)]; rfl
    repeat first | refine KW.tT rfl rfl rfl ?_ | refine KW.tF rfl rfl rfl ?_
    refine KW.cT rfl rfl (by first | (simp; done) | decide) ?_
    rw [e]
    exact KW.ret rfl rfl rfl rfl (rfl)
  · have k1 : DealOk x := by unfold DealOk; exact tv_iff.1 (by simpa using k1)
    refine KW.callE rfl rfl rfl rfl rfl (containsFuncD (by omega) hs.up) (fun _ _ => ?_)
    refine KW.cndB rfl rfl (fun k2 => ?_) (fun k2 => ?_)
    · have k2 := tv_iff.1 k2
      have e : givenC x ds = 1 := by unfold givenC; rw [tv_false (fun p => by obtain ⟨d, h1, h2⟩ := k2; exact h2 (p.2 d h1))]; rfl
      rw [e]
      exact KW.ret rfl rfl rfl rfl (rfl)
    · have k2 : ∀ d ∈ ds, DeedP d := fun d hd => by
        refine Classical.byContradiction fun hn => ?_
        rw [tv_true ⟨d, hd, hn⟩] at k2
        cases k2
      have e : givenC x ds = if (400 : Int) < ds.length then 2 else 0 := by unfold givenC; rw [tv_true ⟨k1, k2⟩]; rfl
      refine KW.cnd rfl rfl (fun k3 => ?_) (fun k3 => ?_)
      · rw [e, if_pos k3]
        exact KW.ret rfl rfl rfl rfl (rfl)
      · rw [e, if_neg k3]
        exact KW.ret rfl rfl rfl rfl (rfl)
theorem l08Given {a c} {did : Nat} (hB : B_Deal x) (hl : ds.length ≤ 1048576) (hD : K_Deal.R S H0 x dcs) (hDv : Has3 S H0 did 0 dcs) (hs : K_Deed.Sl S H0 (.slice a ds.length c) ds) : Spec Tryz.prog S H0 34 [.pointer (some ⟨did, 0, none⟩), .slice a ds.length c] (fun v => v = .int .i64 (givenC x ds)) := by
  obtain ⟨a1, c1, a2, c2, a3, c3, a4, c4, rfl, h1, h2, h3, h4⟩ := split2_Deal hD
  refine Spec.of1 Tryz.func34 rfl (by kernel_rfl) rfl (fun H _ => ?_)
  refine KW.callE rfl rfl rfl rfl rfl (l08Ok x.1.1 x.1.2.2.1 x.1.2.2.2.1 x.2.1 hB.1.2.2.1 hB.1.2.1 hB.1.2.2.2.2 hB.2.2.1 hB.2.2.2 hDv.up h1.up h2.up h3.up h4.up) (fun _ _ => ?_)
  refine KW.cndB rfl rfl (fun k1 => ?_) (fun k1 => ?_)
  · have k1 : ¬ DealOk x := fun p => by unfold DealOk at p; rw [tv_true p] at k1; cases k1
    have e : givenC x ds = 1 := by unfold givenC; rw [tv_false (fun p => k1 p.1)]; rfl
    rw [e]
    exact KW.ret rfl rfl rfl rfl (rfl)
  · have k1 : DealOk x := by unfold DealOk; exact tv_iff.1 (by simpa using k1)
    refine KW.lp rfl rfl (fun i : Nat => [(0, .pointer (some ⟨did, 0, none⟩)), (1, .slice a ds.length c), (5, .int .i64 i)]) (fun i => i ≤ ds.length ∧ ∀ j, j < i → ∀ d, ds[j]? = some d → DeedP d) (fun i => ds.length - i) (0) (⟨by omega, fun j h => absurd h (by omega)⟩) ⟨rfl, rfl, rfl, trivial⟩ (fun i hi bE n => ?_)
    obtain ⟨hi, hj⟩ := hi
    refine KW.cnd rfl rfl (fun h => ?_) (fun h => ?_)
    · refine KW.getS (td := .struct #[]) hs.up rfl rfl rfl rfl rfl rfl rfl rfl rfl rfl rfl rfl rfl rfl rfl rfl rfl (by omega) (h) (fun y cy hy hsy => ?_)
      have hy : ds[i]? = some y := hy
      obtain rfl := form_Deed hsy
      have hmem := List.mem_of_getElem? hy
      refine KW.callE rfl rfl rfl rfl rfl (l08Deed y) (fun _ _ => ?_)
      refine KW.cndB rfl rfl (fun h2 => ?_) (fun h2 => ?_)
      · have h2 : ¬ DeedP y := fun p => by rw [tv_true p] at h2; cases h2
        have e : givenC x ds = 1 := by unfold givenC; rw [tv_false (fun p => h2 (p.2 y hmem))]; rfl
        rw [e]
        exact KW.ret rfl rfl rfl rfl (rfl)
      · have h2 : DeedP y := tv_iff.1 (by simpa using h2)
        refine KW.nxt rfl rfl (fun H' g => ⟨i + 1, ⟨by omega, upto hj (fun z hz => by rw [hy] at hz; cases hz; exact h2)⟩, by first | omega | (simp only; omega), ⟨rfl, rfl, congrArg (Value.int .i64) (inc64 (by omega)), trivial⟩, g⟩)
    have k2 : ∀ d ∈ ds, DeedP d := fun d hd => by
      obtain ⟨j, hjx⟩ := List.getElem?_of_mem hd
      exact hj j (by have := (List.getElem?_eq_some_iff.1 hjx).1; omega) d hjx
    have e : givenC x ds = if (400 : Int) < ds.length then 2 else 0 := by unfold givenC; rw [tv_true ⟨k1, k2⟩]; rfl
    refine KW.cnd rfl rfl (fun k3 => ?_) (fun k3 => ?_)
    · rw [e, if_pos k3]
      exact KW.ret rfl rfl rfl rfl (rfl)
    · rw [e, if_neg k3]
      exact KW.ret rfl rfl rfl rfl (rfl)
end
section
variable {S : Ids} {H0 : AH} {X D : Ids} {d : HD} {c : Cer} {dcs : List Value} {x : T_Deal}
theorem implDo {dd : T_Deed} (hdd : DeedP dd) (hd : DealOk x) (hB : B_Deal x) (hok : CerOk x c) (h : Hl HTI [] dcs S H0 X d c) (hD : K_Deal.R D H0 x dcs) (hDD : ∀ id, D id → S id ∧ ¬ d.W id) :
    SpecW Tryz.prog S H0 d.W 77 [.pointer (some ⟨d.hid, 0, none⟩), .agg [.int .i64 dd.1, .int .i64 dd.2.1, .int .i64 dd.2.2].toArray] (HlRes HTI [] dcs X d (doIt x c dd)) := by
  obtain ⟨k, A, B⟩ := dd
  obtain ⟨hk, hA, hB2, _, _⟩ := hdd
  simp only at hk hA hB2 ⊢
  have hho : ¬ x.1.1 ≤ A → HoOk x A := fun p => ⟨hA.1, by omega⟩
  have : k = 1 ∨ k = 2 ∨ k = 3 ∨ k = 4 ∨ k = 5 ∨ k = 6 ∨ k = 7 ∨ k = 8 ∨ k = 9 := by omega
  rcases this with rfl | rfl | rfl | rfl | rfl | rfl | rfl | rfl | rfl
  · by_cases p : x.1.1 ≤ A
    · exact implNo1 hd hB hok h hD hDD p
    · exact implDo1 hd hB hok h hD hDD (hho p)
  · by_cases p : x.1.1 ≤ A
    · exact implNo2 hd hB hok h hD hDD p
    · exact implDo2 hd hB hok h hD hDD (hho p)
  · exact implDo3 hd hB hok h hD hDD hA
  · exact implDo4 hd hB hok h hD hDD hA
  · exact implDo5 hd hB hok h hD hDD hA
  · by_cases p : x.1.1 ≤ A
    · exact implNo6 hd hB hok h hD hDD p
    · exact implDo6 hd hB hok h hD hDD (hho p) hB2
  · by_cases p : x.1.1 ≤ A
    · exact implNo7 hd hB hok h hD hDD p
    · exact implDo7 hd hB hok h hD hDD (hho p)
  · by_cases p : x.1.1 ≤ A
    · exact implNo8 hd hB hok h hD hDD p
    · exact implDo8 hd hB hok h hD hDD (hho p)
  · exact implDo9 hd hB hok h hD hDD
theorem specDo {dd : T_Deed} {did : Nat} (hdd : DeedP dd) (hd : DealOk x) (hB : B_Deal x) (hok : CerOk x c) (h : Hl HTS [.pointer (some ⟨did, 0, none⟩)] [] S H0 X d c) (hD : K_Deal.R D H0 x dcs) (hDv : Has3 D H0 did 0 dcs) (hDD : ∀ id, D id → S id ∧ ¬ d.W id) :
    SpecW Tryz.prog S H0 d.W 70 [.pointer (some ⟨d.hid, 0, none⟩), .agg [.int .i64 dd.1, .int .i64 dd.2.1, .int .i64 dd.2.2].toArray] (HlRes HTS [.pointer (some ⟨did, 0, none⟩)] [] X d (doIt x c dd)) := by
  obtain ⟨k, A, B⟩ := dd
  obtain ⟨hk, hA, hB2, _, _⟩ := hdd
  simp only at hk hA hB2 ⊢
  have hho : ¬ x.1.1 ≤ A → HoOk x A := fun p => ⟨hA.1, by omega⟩
  have : k = 1 ∨ k = 2 ∨ k = 3 ∨ k = 4 ∨ k = 5 ∨ k = 6 ∨ k = 7 ∨ k = 8 ∨ k = 9 := by omega
  rcases this with rfl | rfl | rfl | rfl | rfl | rfl | rfl | rfl | rfl
  · by_cases p : x.1.1 ≤ A
    · exact specNo1 hd hB hok h hD hDv hDD p
    · exact specDo1 hd hB hok h hD hDv hDD (hho p)
  · by_cases p : x.1.1 ≤ A
    · exact specNo2 hd hB hok h hD hDv hDD p
    · exact specDo2 hd hB hok h hD hDv hDD (hho p)
  · exact specDo3 hd hB hok h hD hDv hDD hA
  · exact specDo4 hd hB hok h hD hDv hDD hA
  · exact specDo5 hd hB hok h hD hDv hDD hA
  · by_cases p : x.1.1 ≤ A
    · exact specNo6 hd hB hok h hD hDv hDD p
    · exact specDo6 hd hB hok h hD hDv hDD (hho p)
  · by_cases p : x.1.1 ≤ A
    · exact specNo7 hd hB hok h hD hDv hDD p
    · exact specDo7 hd hB hok h hD hDv hDD (hho p)
  · by_cases p : x.1.1 ≤ A
    · exact specNo8 hd hB hok h hD hDv hDD p
    · exact specDo8 hd hB hok h hD hDv hDD (hho p)
  · exact specDo9 hd hB hok h hD hDv hDD
end
end Go.Proofs.YtijmkfnmdhpakaaGreat.Am
/- A run of deeds: the hall behind it. Each holds under its own conditions. -/
set_option linter.unusedVariables false
set_option linter.unusedSimpArgs false
set_option maxRecDepth 20000
namespace Go.Proofs.YtijmkfnmdhpakaaGreat.Am
open Go Go.RowKit Go.Proofs
structure RT where
  i : Nat
  S : Ids
  A : AH
  X : Ids
  d : HD
  c : Cer
  o : Nat
  cs : List Int
/-- What holds in a run of deeds. -/
structure RunJ (t : HT) (pre post : List Value) (x : T_Deal) (ds : List T_Deed) (H : AH) (hid : Nat) (s : RT) : Prop where
  hl : Hl t pre post s.S s.A s.X s.d s.c
  hd : s.d.hid = hid
  ok : CerOk x s.c
  old : St (Low H.n) H s.S s.A
  new : ∀ id, s.d.W id → H.n ≤ id
  newX : ∀ id, s.X id → H.n ≤ id
  le : s.i ≤ ds.length
  pl : play x s.c (ds.drop s.i) = play x (cer0 x.1.1.toNat) ds
  cl : s.cs.length = s.i
  co : s.cs ++ codes x s.c (ds.drop s.i) = codes x (cer0 x.1.1.toNat) ds
theorem RunJ.next {t : HT} {pre post : List Value} {x : T_Deal} {ds : List T_Deed} {H A' : AH} {S' : Ids} {hid n1 : Nat} {s : RT} {dd : T_Deed} (h : RunJ t pre post x ds H hid s) (hd : DealOk x) (hdd : DeedP dd) (hy : ds[s.i]? = some dd) (t5 : StW s.d.W s.S s.A S' A') (w5 : ∀ id, New n1 A'.n id → S' id) (hn : H.n ≤ n1) (hp : HlPost t pre post s.X s.d (doIt x s.c dd).1 n1 A') (o : Nat) :
    ∃ X' d', RunJ t pre post x ds H hid ⟨s.i + 1, S', A', X', d', (doIt x s.c dd).1, o, s.cs ++ [(doIt x s.c dd).2]⟩ := by
  obtain ⟨X', d', h1, h2, h3, h4⟩ := hp
  have inS : ∀ id, (s.d.W id ∨ s.X id ∨ New n1 A'.n id) → S' id := fun id p => by
    rcases p with p | p | p
    · exact (t5 id (h.hl.w id p)).1
    · exact (t5 id (h.hl.sx id p)).1
    · exact w5 id p
  have edr : ds.drop s.i = dd :: ds.drop (s.i + 1) := by
    rw [List.drop_eq_getElem_cons (List.getElem?_eq_some_iff.1 hy).1]
    rw [(List.getElem?_eq_some_iff.1 hy).2]
  have hpl := h.pl
  have hco := h.co
  rw [edr] at hpl hco
  refine ⟨X', d', h1.mv fun id p => ⟨inS id (p.elim (h1.w id) (h1.sx id)), rfl⟩, h2.trans h.hd, h.ok.doIt hd hdd, fun id p => ?_, fun id p => ?_, fun id p => ?_, (List.getElem?_eq_some_iff.1 hy).1, hpl, by simp [h.cl], ?_⟩
  · have q := h.old id p
    have r := t5 id q.1
    refine ⟨r.1, (r.2 fun w => ?_).trans q.2⟩
    have := h.new id w
    have : id < H.n := p
    omega
  · rcases h4 id p with p | p
    · exact h.new id p
    · have := p.1; omega
  · rcases h3 id p with p | p
    · exact h.newX id p
    · have := p.1; omega
  · rw [← hco]
    conv => { rhs; unfold codes }
    simp
/-- The hall behind the run. -/
theorem RunJ.done {t : HT} {pre post : List Value} {x : T_Deal} {ds : List T_Deed} {H H1 : AH} {hid n : Nat} {s : RT} {T : List Var} (h : RunJ t pre post x ds H hid s) (he : s.i = ds.length) (g : Good s.S s.A T n H1) :
    Hl t pre post (New H.n H1.n) H1 s.X s.d (play x (cer0 x.1.1.toNat) ds) ∧ s.cs = codes x (cer0 x.1.1.toNat) ds := by
  have hpl := h.pl
  have hco := h.co
  rw [he, List.drop_length] at hpl hco
  have hpl : s.c = play x (cer0 x.1.1.toNat) ds := hpl
  have hco : s.cs = codes x (cer0 x.1.1.toNat) ds := by rw [← hco]; simp [codes]
  refine ⟨?_, hco⟩
  rw [← hpl]
  refine h.hl.mv fun id p => ?_
  have hn := g.n_
  have hS : s.S id := p.elim (h.hl.w id) (h.hl.sx id)
  have hf := g.froz id hS
  exact ⟨⟨p.elim (h.new id) (h.newX id), by omega⟩, hf.2⟩
theorem given0 {x : T_Deal} {ds : List T_Deed} (h : givenC x ds = 0) : DealOk x ∧ (∀ d ∈ ds, DeedP d) ∧ ds.length ≤ 400 := by
  unfold givenC at h
  split at h
  · rename_i h1
    have h1 := tv_iff.1 h1
    split at h
    · cases h
    · exact ⟨h1.1, h1.2, by omega⟩
  · cases h
end Go.Proofs.YtijmkfnmdhpakaaGreat.Am
/- Contracts: the ceremony behind its deeds, both sides. Each holds under its own conditions. -/
set_option linter.unusedVariables false
set_option linter.unusedSimpArgs false
set_option maxRecDepth 20000
namespace Go.Proofs.YtijmkfnmdhpakaaGreat.Am
open Go Go.RowKit Go.Proofs
/-- How many deeds are done. -/
def doneC : List Int → Nat
  | [] => 0
  | k :: ks => (if k = 0 then 1 else 0) + doneC ks
theorem doneC_snoc (k : Int) : ∀ l : List Int, doneC (l ++ [k]) = doneC l + (if k = 0 then 1 else 0)
  | [] => by simp [doneC]
  | a :: l => by simp only [List.cons_append, doneC, doneC_snoc k l]; omega
theorem doneC_le : ∀ l : List Int, doneC l ≤ l.length
  | [] => Nat.le_refl _
  | a :: l => by simp only [doneC, List.length_cons]; have := doneC_le l; split <;> omega
theorem T1c {i : Nat} {ty : TypeId} {cs cs' : List Value} (h : cs = cs') : ([(i, ⟨ty, true, cs⟩)] : List Var) = [(i, ⟨ty, true, cs'⟩)] := by rw [h]
section
variable {S : Ids} {H0 : AH} {D : Ids} {x : T_Deal} {ds : List T_Deed} {dcs : List Value}
theorem implAfter {a c} (hd : DealOk x) (hdp : ∀ d ∈ ds, DeedP d) (h400 : ds.length ≤ 400) (hB : B_Deal x) (hD : K_Deal.R S H0 x dcs) (hs : K_Deed.Sl S H0 (.slice a ds.length c) ds) :
    SpecM Tryz.prog S H0 42 [.agg dcs.toArray, .slice a ds.length c] (fun n v H1 => ∃ (d : HD) (X : Ids), v = .tuple #[.pointer (some ⟨d.hid, 0, none⟩), .int .i64 (doneC (codes x (cer0 x.1.1.toNat) ds) : Nat)] ∧ Hl HTI [] dcs (New n H1.n) H1 X d (play x (cer0 x.1.1.toNat) ds)) := by
  obtain ⟨d1, d2, d3, d4, d5, d6, d7, d8, rfl⟩ := form_Deal hD
  refine SpecM.of1 Tryz.func42 rfl (by kernel_rfl) rfl (fun H _ => ?_)
  have hD0 : K_Deal.R (Low H.n) H x _ := On.R hD
  have hs0 := hs.up (S' := Low H.n) (H' := H)
  refine KW.callN1 rfl rfl rfl rfl rfl (newHall hd hD0) (fun v H1 S1 m1 _ _ hv => ?_)
  obtain ⟨d, sp, rfl, hh⟩ := hv
  have st1 := (inferInstance : On (Low H.n) H S1 H1).st
  have hh1 := hh.on (S' := S1) (A' := H1)
  obtain ⟨hid, ehid⟩ : ∃ hid, d.hid = hid := ⟨_, rfl⟩
  rw [ehid]
  have R0 : RunJ HTI [] _ x ds H hid ⟨0, S1, H1, fun _ => False, d, cer0 x.1.1.toNat, 0, []⟩ := ⟨hh1, ehid, CerOk.start hd, st1, fun id p => by have := (hh.w id p).1; omega, fun id p => p.elim, Nat.zero_le _, rfl, rfl, rfl⟩
  refine KW.lpM rfl rfl (fun s : RT => [(6, .pointer (some ⟨hid, 0, none⟩)), (7, .int .i64 (doneC s.cs : Nat)), (12, .slice a ds.length c), (13, .int .i64 ds.length), (14, .int .i64 s.i)]) (fun s => s.S) (fun s => s.A) (fun s => [(H.n, ⟨40, true, [.int .i64 x.1.1, .slice d1 x.1.2.1.length d2, .int .i64 x.1.2.2.1, .int .i64 x.1.2.2.2.1, .slice d3 x.1.2.2.2.2.length d4, .int .i64 x.2.1, .slice d5 x.2.2.1.length d6, .slice d7 x.2.2.2.length d8]⟩)]) (fun s => RunJ HTI [] [.int .i64 x.1.1, .slice d1 x.1.2.1.length d2, .int .i64 x.1.2.2.1, .int .i64 x.1.2.2.2.1, .slice d3 x.1.2.2.2.2.length d4, .int .i64 x.2.1, .slice d5 x.2.2.1.length d6, .slice d7 x.2.2.2.length d8] x ds H hid s) (fun s => ds.length - s.i) (⟨0, S1, H1, fun _ => False, d, cer0 x.1.1.toNat, 0, []⟩) (R0) ⟨rfl, rfl, rfl, rfl, rfl, trivial⟩ rfl rfl (rfl) (fun s hi bE n => ?_)
  have R := hi
  obtain ⟨i, S2, H2, X2, e2, c2, o2, cs2⟩ := s
  have old : St (Low H.n) H S2 H2 := R.old
  have ehd : e2.hid = hid := R.hd
  have el : cs2.length = i := R.cl
  have hdl := doneC_le cs2
  have hile : i ≤ ds.length := R.le
  refine KW.cnd rfl rfl (fun k2 => ?_) (fun k2 => ?_)
  · have k2 : (i : Int) < (ds.length : Int) := k2
    have hs2 : K_Deed.Sl S2 H2 (.slice a ds.length c) ds := sl_mk hs0 (fun id p => old id p)
    refine KW.getS (td := .struct #[]) hs2 rfl rfl rfl rfl rfl rfl rfl rfl rfl rfl rfl rfl rfl rfl rfl rfl rfl (by omega) (k2) (fun y cy hy hsy => ?_)
    have hy : ds[i]? = some y := hy
    obtain rfl := form_Deed hsy
    have hmem := List.mem_of_getElem? hy
    have hD2 : K_Deal.R (Low H.n) H2 x _ := K_Deal.same (fun id p => (old id p).2) hD0
    refine KW.cnt (fun n2 hn2 => ?_)
    refine KW.fact (p := H.n < n2) (fun H1 g => (g.vars 0 _ rfl).2.1) (fun hlt => ?_)
    have hdo := implDo (hdp y hmem) hd hB R.ok R.hl hD2 (fun id p => ⟨(old id p).1, fun w => by have := R.new id w; have : id < H.n := p; omega⟩)
    simp only [ehd] at hdo
    refine KW.callW R.hl.w rfl rfl rfl rfl rfl hdo (fun v H5 S5 m5 t5 w5 hv => ?_)
    obtain ⟨rfl, hp⟩ := hv
    obtain ⟨X3, e3, R3⟩ := R.next hd (hdp y hmem) hy t5 w5 (by omega) hp 0
    have hsn := doneC_snoc (doIt x c2 y).2 cs2
    refine KW.cnd rfl rfl (fun k3 => ?ga) (fun k3 => ?gb)
    case ga =>
      have k3 : (doIt x c2 y).2 = 0 := k3
      rw [if_pos k3] at hsn
      have ew : IntKind.i64.wrap ((doneC cs2 : Nat) + 1) = ((doneC (cs2 ++ [(doIt x c2 y).2]) : Nat) : Int) := by rw [hsn, wr (by omega) (by omega)]; omega
      refine KW.nxt rfl rfl (fun H' g => ⟨⟨i + 1, S5, H5, X3, e3, (doIt x c2 y).1, 0, cs2 ++ [(doIt x c2 y).2]⟩, R3, by first | omega | (simp only; omega), ⟨rfl, congrArg (Value.int .i64) ew, rfl, rfl, congrArg (Value.int .i64) (inc64 (by omega)), trivial⟩, g.take 1⟩)
    case gb =>
      have k3 : ¬ (doIt x c2 y).2 = 0 := k3
      rw [if_neg k3] at hsn
      have ew : ((doneC cs2 : Nat) : Int) = ((doneC (cs2 ++ [(doIt x c2 y).2]) : Nat) : Int) := by rw [hsn]; rfl
      refine KW.nxt rfl rfl (fun H' g => ⟨⟨i + 1, S5, H5, X3, e3, (doIt x c2 y).1, 0, cs2 ++ [(doIt x c2 y).2]⟩, R3, by first | omega | (simp only; omega), ⟨rfl, congrArg (Value.int .i64) ew, rfl, rfl, congrArg (Value.int .i64) (inc64 (by omega)), trivial⟩, g.take 1⟩)
  · have k2 : ¬ (i : Int) < (ds.length : Int) := k2
    have he : i = ds.length := by omega
    refine KW.retM rfl rfl rfl rfl (fun id hid => old id hid) (fun H1 g => ?_)
    obtain ⟨q1, q2⟩ := R.done he g
    have q2 : cs2 = codes x (cer0 x.1.1.toNat) ds := q2
    refine ⟨e2, X2, ?_, q1⟩
    rw [← q2, ehd]
    rfl
theorem l08PlayH {a c} {did : Nat} (hd : DealOk x) (hdp : ∀ d ∈ ds, DeedP d) (h400 : ds.length ≤ 400) (hB : B_Deal x) (hD : K_Deal.R S H0 x dcs) (hDv : Has3 S H0 did 0 dcs) (hs : K_Deed.Sl S H0 (.slice a ds.length c) ds) :
    SpecM Tryz.prog S H0 35 [.pointer (some ⟨did, 0, none⟩), .slice a ds.length c] (fun n v H1 => ∃ (d : HD) (X : Ids) (o : Nat), v = .tuple #[.pointer (some ⟨d.hid, 0, none⟩), .slice (some ⟨o, 0, some 1⟩) (codes x (cer0 x.1.1.toNat) ds).length (codes x (cer0 x.1.1.toNat) ds).length] ∧ KI.Ml (New n H1.n) H1 (.slice (some ⟨o, 0, some 1⟩) (codes x (cer0 x.1.1.toNat) ds).length (codes x (cer0 x.1.1.toNat) ds).length) (codes x (cer0 x.1.1.toNat) ds) ∧ Hl HTS [.pointer (some ⟨did, 0, none⟩)] [] (New n H1.n) H1 X d (play x (cer0 x.1.1.toNat) ds)) := by
  refine SpecM.of1 Tryz.func35 rfl (by kernel_rfl) rfl (fun H _ => ?_)
  have hD0 : K_Deal.R (Low H.n) H x dcs := On.R hD
  have hDv0 := hDv.up (S' := Low H.n) (H' := H)
  have hs0 := hs.up (S' := Low H.n) (H' := H)
  refine KW.callN1 rfl rfl rfl rfl rfl (l08Begin hd hD0 hDv0) (fun v H1 S1 m1 _ _ hv => ?_)
  obtain ⟨d, sp, rfl, hh⟩ := hv
  have st1 := (inferInstance : On (Low H.n) H S1 H1).st
  have hh1 := hh.on (S' := S1) (A' := H1)
  obtain ⟨hid, ehid⟩ : ∃ hid, d.hid = hid := ⟨_, rfl⟩
  rw [ehid]
  refine KW.lit rfl rfl rfl rfl rfl rfl rfl rfl rfl rfl [] rfl rfl (fun v hv => by simp at hv) rfl ?_
  have R0 : RunJ HTS [.pointer (some ⟨did, 0, none⟩)] [] x ds H hid ⟨0, S1, H1, fun _ => False, d, cer0 x.1.1.toNat, H1.n, []⟩ := ⟨hh1, ehid, CerOk.start hd, st1, fun id p => (hh.w id p).1, fun id p => p.elim, Nat.zero_le _, rfl, rfl, rfl⟩
  refine KW.lpM rfl rfl (fun s : RT => [(0, .pointer (some ⟨did, 0, none⟩)), (1, .slice a ds.length c), (6, .pointer (some ⟨hid, 0, none⟩)), (7, .slice (some ⟨s.o, 0, some 1⟩) s.i s.i), (8, .int .i64 s.i)]) (fun s => s.S) (fun s => s.A) (fun s => [(s.o, ⟨2, true, s.cs.map (Value.int .i64)⟩)]) (fun s => RunJ HTS [.pointer (some ⟨did, 0, none⟩)] [] x ds H hid s) (fun s => ds.length - s.i) (⟨0, S1, H1, fun _ => False, d, cer0 x.1.1.toNat, H1.n, []⟩) (R0) ⟨rfl, rfl, rfl, rfl, rfl, trivial⟩ rfl rfl (rfl) (fun s hi bE n => ?_)
  have R := hi
  obtain ⟨i, S2, H2, X2, e2, c2, o2, cs2⟩ := s
  have old : St (Low H.n) H S2 H2 := R.old
  have ehd : e2.hid = hid := R.hd
  have el : cs2.length = i := R.cl
  have hile : i ≤ ds.length := R.le
  refine KW.cnd rfl rfl (fun k2 => ?_) (fun k2 => ?_)
  · have k2 : (i : Int) < (ds.length : Int) := k2
    have hs2 : K_Deed.Sl S2 H2 (.slice a ds.length c) ds := sl_mk hs0 (fun id p => old id p)
    refine KW.getS (td := .struct #[]) hs2 rfl rfl rfl rfl rfl rfl rfl rfl rfl rfl rfl rfl rfl rfl rfl rfl rfl (by omega) (k2) (fun y cy hy hsy => ?_)
    have hy : ds[i]? = some y := hy
    obtain rfl := form_Deed hsy
    have hmem := List.mem_of_getElem? hy
    have hD2 : K_Deal.R (Low H.n) H2 x _ := K_Deal.same (fun id p => (old id p).2) hD0
    have hDv2 : Has3 (Low H.n) H2 did 0 dcs := by
      obtain ⟨q0, b, q1, q2⟩ := hDv0
      exact ⟨q0, b, ((old did q0).2).trans q1, q2⟩
    refine KW.cnt (fun n2 hn2 => ?_)
    have hlo : ∀ {H1 : AH} {b : Blk}, Good S2 H2 [(o2, b)] n2 H1 → H.n ≤ n2 := fun {H1 b} g => by
      rcases Nat.eq_zero_or_pos H.n with h0 | h0
      · omega
      · have := (g.froz (H.n - 1) (old (H.n - 1) (show H.n - 1 < H.n by omega)).1).1
        have := g.n_
        omega
    refine KW.fact (p := H.n ≤ n2) (fun H1 g => hlo g) (fun hlt => ?_)
    have hdo := specDo (hdp y hmem) hd hB R.ok R.hl hD2 hDv2 (fun id p => ⟨(old id p).1, fun w => by have := R.new id w; have : id < H.n := p; omega⟩)
    simp only [ehd] at hdo
    refine KW.callW R.hl.w rfl rfl rfl rfl rfl hdo (fun v H5 S5 m5 t5 w5 hv => ?_)
    obtain ⟨rfl, hp⟩ := hv
    obtain ⟨X3, e3, R3⟩ := R.next hd (hdp y hmem) hy t5 w5 (by omega) hp (H5.n + 1)
    refine KW.lit rfl rfl rfl rfl rfl rfl rfl rfl rfl rfl [.int .i64 (doIt x c2 y).2] rfl rfl (fun v hv => by simp at hv; subst hv; rfl) rfl ?_
    refine KW.appTS (m := 1) (ys := [.int .i64 (doIt x c2 y).2]) 0 rfl rfl rfl rfl rfl rfl rfl rfl (by decide) rfl (fun H1 g => acells_seg (g.blk (j := 1) rfl).1 (by show 0 + 1 * 1 ≤ 1; decide)) (by show 0 + i * 1 ≤ (cs2.map (Value.int .i64)).length; rw [List.length_map]; omega) rfl (by decide) (by show (i + 1) * 8 ≤ _; omega) (by omega) ?_
    have e3c : ((cs2.map (Value.int .i64)).drop 0).take (i * 1) ++ [.int .i64 (doIt x c2 y).2] = (cs2 ++ [(doIt x c2 y).2]).map (Value.int .i64) := by rw [drop0_take (by rw [List.length_map]; omega)]; simp
    refine KW.nxt rfl rfl (fun H' g => ⟨⟨i + 1, S5, H5, X3, e3, (doIt x c2 y).1, H5.n + 1, cs2 ++ [(doIt x c2 y).2]⟩, R3, by first | omega | (simp only; omega), ⟨rfl, rfl, rfl, rfl, congrArg (Value.int .i64) (inc64 (by omega)), trivial⟩, (g.take 1).castT (show ([(H5.n + 1, ⟨_, true, _⟩)] : List Var) = [(H5.n + 1, ⟨_, true, _⟩)] from T1c e3c)⟩)
  · have k2 : ¬ (i : Int) < (ds.length : Int) := k2
    have he : i = ds.length := by omega
    refine KW.retM rfl rfl rfl rfl (fun id hid => old id hid) (fun H1 g => ?_)
    obtain ⟨q1, q2⟩ := R.done he g
    have q2 : cs2 = codes x (cer0 x.1.1.toNat) ds := q2
    have e4 : i = (codes x (cer0 x.1.1.toNat) ds).length := by rw [← q2, el]
    refine ⟨e2, X2, o2, ?_, int_ml ?_ (g.blk (j := 0) rfl).1 rfl (by show List.map _ cs2 = _; rw [q2]) (Nat.le_refl _), q1⟩
    · rw [← e4, ehd]
      rfl
    · have gv := g.vars 0 _ rfl
      have hn := g.n_
      refine ⟨Nat.not_lt.1 fun hlt => gv.2.2 (old _ hlt).1, ?_⟩
      rw [hn]
      exact gv.2.1
end
end Go.Proofs.YtijmkfnmdhpakaaGreat.Am
/- Contracts: who is named behind the deeds, both sides. Each holds under its own conditions. -/
set_option linter.unusedVariables false
set_option linter.unusedSimpArgs false
set_option maxRecDepth 20000
namespace Go.Proofs.YtijmkfnmdhpakaaGreat.Am
open Go Go.RowKit Go.Proofs
/-- Where a list holds true, counted from i. -/
def markF : List Bool → Int → List Int
  | [], _ => []
  | b :: l, i => if b = true then i :: markF l (i + 1) else markF l (i + 1)
theorem markF_len : ∀ (l : List Bool) (i : Int), (markF l i).length ≤ l.length
  | [], _ => Nat.le_refl _
  | b :: l, i => by
    unfold markF
    have := markF_len l (i + 1)
    split <;> simp <;> omega
section
variable {S : Ids} {H0 : AH} {l : List Bool}
theorem marked {a c} (h12 : l.length ≤ 1048576) (hs : (Kn.bool).Sl S H0 (.slice a l.length c) l) : SpecM Tryz.prog S H0 43 [.slice a l.length c] (MkL (markF l 0)) := by
  refine SpecM.of1 Tryz.func43 rfl (by kernel_rfl) rfl (fun H _ => ?_)
  refine KW.lit rfl rfl rfl rfl rfl rfl rfl rfl rfl rfl [] rfl rfl (fun v hv => by simp at hv) rfl ?_
  refine KW.lpM rfl rfl (fun s : Nat × Nat × List Int => [(3, .slice (some ⟨s.2.1, 0, some 1⟩) s.2.2.length s.2.2.length), (7, .slice a l.length c), (8, .int .i64 l.length), (9, .int .i64 s.1)]) (fun s => Low H.n) (fun s => H) (fun s => [(s.2.1, ⟨2, true, s.2.2.map (Value.int .i64)⟩)]) (fun s => s.1 ≤ l.length ∧ s.2.2.length ≤ s.1 ∧ H.n ≤ s.2.1 ∧ s.2.2 ++ markF (l.drop s.1) s.1 = markF l 0) (fun s => l.length - s.1) ((0, H.n, [])) (⟨Nat.zero_le _, Nat.le_refl _, Nat.le_refl _, rfl⟩) ⟨rfl, rfl, rfl, rfl, trivial⟩ rfl rfl (rfl) (fun s hi bE n => ?_)
  obtain ⟨i, o, ks⟩ := s
  obtain ⟨i1, i2, i3, i4⟩ := hi
  simp only at i1 i2 i3 i4
  refine KW.cnd rfl rfl (fun k1 => ?_) (fun k1 => ?_)
  · have k1 : (i : Int) < (l.length : Int) := k1
    refine KW.getB hs.up rfl rfl rfl rfl rfl rfl rfl rfl rfl rfl rfl rfl rfl rfl rfl rfl (by omega) (k1) (fun y hy => ?_)
    have hy : l[i]? = some y := hy
    have edr : l.drop i = y :: l.drop (i + 1) := by
      rw [List.drop_eq_getElem_cons (List.getElem?_eq_some_iff.1 hy).1]
      rw [(List.getElem?_eq_some_iff.1 hy).2]
    rw [edr] at i4
    refine KW.cnt (fun m hm => ?_)
    refine KW.fact (p := H.n ≤ m) (fun H1 g => g.nle (H1 := H)) (fun hlt => ?_)
    refine KW.cndB rfl rfl (fun k2 => ?ga) (fun k2 => ?gb)
    case ga =>
      have k2 : y = true := k2
      refine KW.lit rfl rfl rfl rfl rfl rfl rfl rfl rfl rfl [.int .i64 i] rfl rfl (fun v hv => by simp at hv; subst hv; rfl) rfl ?_
      refine KW.appTS (m := 1) (ys := [.int .i64 i]) 0 rfl rfl rfl rfl rfl rfl rfl rfl (by decide) rfl (fun H1 g => acells_seg (g.blk (j := 1) rfl).1 (by show 0 + 1 * 1 ≤ 1; decide)) (by show 0 + ks.length * 1 ≤ (ks.map (Value.int .i64)).length; rw [List.length_map]; omega) rfl (by decide) (by show (ks.length + 1) * 8 ≤ _; omega) (by show ks.length + 1 ≤ _; omega) ?_
      have e3c : ((ks.map (Value.int .i64)).drop 0).take (ks.length * 1) ++ [.int .i64 (i : Int)] = (ks ++ [(i : Int)]).map (Value.int .i64) := by rw [drop0_take (by rw [List.length_map]; omega)]; simp
      have el : ks.length + 1 = (ks ++ [(i : Int)]).length := by simp
      have er : (ks ++ [(i : Int)]) ++ markF (l.drop (i + 1)) ((i : Int) + 1) = markF l 0 := by rw [← i4]; conv => { rhs; unfold markF }; rw [if_pos k2]; simp
      refine KW.nxt rfl rfl (fun H' g => ⟨(i + 1, m + 1, ks ++ [(i : Int)]), ⟨by simp only; omega, by simp only [List.length_append, List.length_cons, List.length_nil]; omega, by simp only; omega, by simp only; rw [← er]; rfl⟩, by first | omega | (simp only; omega), ⟨congrArg (fun k => Value.slice (some ⟨m + 1, 0, some 1⟩) k k) el, rfl, rfl, congrArg (Value.int .i64) (inc64 (by omega)), trivial⟩, (g.take 1).castT (show ([(m + 1, ⟨_, true, _⟩)] : List Var) = [(m + 1, ⟨_, true, _⟩)] from T1c e3c)⟩)
    case gb =>
      have k2 : ¬ y = true := by simpa using k2
      have er : ks ++ markF (l.drop (i + 1)) ((i : Int) + 1) = markF l 0 := by rw [← i4]; conv => { rhs; unfold markF }; rw [if_neg k2]
      refine KW.nxt rfl rfl (fun H' g => ⟨(i + 1, o, ks), ⟨by simp only; omega, by simp only; omega, i3, by simp only; rw [← er]; rfl⟩, by first | omega | (simp only; omega), ⟨rfl, rfl, rfl, congrArg (Value.int .i64) (inc64 (by omega)), trivial⟩, g⟩)
  · have k1 : ¬ (i : Int) < (l.length : Int) := k1
    have he : i = l.length := by omega
    rw [he, List.drop_length] at i4
    have er : ks = markF l 0 := by rw [← i4]; simp [markF]
    subst er
    refine KW.retM1 rfl rfl rfl rfl (fun H1 g => ?_)
    exact MkL.of g (j := 0) rfl i3
theorem l08Where {a c} (h12 : l.length ≤ 1048576) (hs : (Kn.bool).Sl S H0 (.slice a l.length c) l) : SpecM Tryz.prog S H0 36 [.slice a l.length c] (MkL (markF l 0)) := by
  refine SpecM.of1 Tryz.func36 rfl (by kernel_rfl) rfl (fun H _ => ?_)
  refine KW.lit rfl rfl rfl rfl rfl rfl rfl rfl rfl rfl [] rfl rfl (fun v hv => by simp at hv) rfl ?_
  refine KW.lpM rfl rfl (fun s : Nat × Nat × List Int => [(0, .slice a l.length c), (3, .slice (some ⟨s.2.1, 0, some 1⟩) s.2.2.length s.2.2.length), (4, .int .i64 s.1)]) (fun s => Low H.n) (fun s => H) (fun s => [(s.2.1, ⟨2, true, s.2.2.map (Value.int .i64)⟩)]) (fun s => s.1 ≤ l.length ∧ s.2.2.length ≤ s.1 ∧ H.n ≤ s.2.1 ∧ s.2.2 ++ markF (l.drop s.1) s.1 = markF l 0) (fun s => l.length - s.1) ((0, H.n, [])) (⟨Nat.zero_le _, Nat.le_refl _, Nat.le_refl _, rfl⟩) ⟨rfl, rfl, rfl, trivial⟩ rfl rfl (rfl) (fun s hi bE n => ?_)
  obtain ⟨i, o, ks⟩ := s
  obtain ⟨i1, i2, i3, i4⟩ := hi
  simp only at i1 i2 i3 i4
  refine KW.cnd rfl rfl (fun k1 => ?_) (fun k1 => ?_)
  · have k1 : (i : Int) < (l.length : Int) := k1
    refine KW.getB hs.up rfl rfl rfl rfl rfl rfl rfl rfl rfl rfl rfl rfl rfl rfl rfl rfl (by omega) (k1) (fun y hy => ?_)
    have hy : l[i]? = some y := hy
    have edr : l.drop i = y :: l.drop (i + 1) := by
      rw [List.drop_eq_getElem_cons (List.getElem?_eq_some_iff.1 hy).1]
      rw [(List.getElem?_eq_some_iff.1 hy).2]
    rw [edr] at i4
    refine KW.cnt (fun m hm => ?_)
    refine KW.fact (p := H.n ≤ m) (fun H1 g => g.nle (H1 := H)) (fun hlt => ?_)
    refine KW.cndB rfl rfl (fun k2 => ?ga) (fun k2 => ?gb)
    case ga =>
      have k2 : y = true := k2
      refine KW.lit rfl rfl rfl rfl rfl rfl rfl rfl rfl rfl [.int .i64 i] rfl rfl (fun v hv => by simp at hv; subst hv; rfl) rfl ?_
      refine KW.appTS (m := 1) (ys := [.int .i64 i]) 0 rfl rfl rfl rfl rfl rfl rfl rfl (by decide) rfl (fun H1 g => acells_seg (g.blk (j := 1) rfl).1 (by show 0 + 1 * 1 ≤ 1; decide)) (by show 0 + ks.length * 1 ≤ (ks.map (Value.int .i64)).length; rw [List.length_map]; omega) rfl (by decide) (by show (ks.length + 1) * 8 ≤ _; omega) (by show ks.length + 1 ≤ _; omega) ?_
      have e3c : ((ks.map (Value.int .i64)).drop 0).take (ks.length * 1) ++ [.int .i64 (i : Int)] = (ks ++ [(i : Int)]).map (Value.int .i64) := by rw [drop0_take (by rw [List.length_map]; omega)]; simp
      have el : ks.length + 1 = (ks ++ [(i : Int)]).length := by simp
      have er : (ks ++ [(i : Int)]) ++ markF (l.drop (i + 1)) ((i : Int) + 1) = markF l 0 := by rw [← i4]; conv => { rhs; unfold markF }; rw [if_pos k2]; simp
      refine KW.nxt rfl rfl (fun H' g => ⟨(i + 1, m + 1, ks ++ [(i : Int)]), ⟨by simp only; omega, by simp only [List.length_append, List.length_cons, List.length_nil]; omega, by simp only; omega, by simp only; rw [← er]; rfl⟩, by first | omega | (simp only; omega), ⟨rfl, congrArg (fun k => Value.slice (some ⟨m + 1, 0, some 1⟩) k k) el, congrArg (Value.int .i64) (inc64 (by omega)), trivial⟩, (g.take 1).castT (show ([(m + 1, ⟨_, true, _⟩)] : List Var) = [(m + 1, ⟨_, true, _⟩)] from T1c e3c)⟩)
    case gb =>
      have k2 : ¬ y = true := by simpa using k2
      have er : ks ++ markF (l.drop (i + 1)) ((i : Int) + 1) = markF l 0 := by rw [← i4]; conv => { rhs; unfold markF }; rw [if_neg k2]
      refine KW.nxt rfl rfl (fun H' g => ⟨(i + 1, o, ks), ⟨by simp only; omega, by simp only; omega, i3, by simp only; rw [← er]; rfl⟩, by first | omega | (simp only; omega), ⟨rfl, rfl, congrArg (Value.int .i64) (inc64 (by omega)), trivial⟩, g⟩)
  · have k1 : ¬ (i : Int) < (l.length : Int) := k1
    have he : i = l.length := by omega
    rw [he, List.drop_length] at i4
    have er : ks = markF l 0 := by rw [← i4]; simp [markF]
    subst er
    refine KW.retM1 rfl rfl rfl rfl (fun H1 g => ?_)
    exact MkL.of g (j := 0) rfl i3
end
end Go.Proofs.YtijmkfnmdhpakaaGreat.Am
/- Contracts: NamedAfter, both sides. Each holds under its own conditions. -/
set_option linter.unusedVariables false
set_option linter.unusedSimpArgs false
set_option maxRecDepth 20000
namespace Go.Proofs.YtijmkfnmdhpakaaGreat.Am
open Go Go.RowKit Go.Proofs
/-- The hall behind the deeds, plain. -/
noncomputable def behind (x : T_Deal) (ds : List T_Deed) : Cer := play x (cer0 x.1.1.toNat) ds
theorem behind_ok {x : T_Deal} {ds : List T_Deed} (hd : DealOk x) (hdp : ∀ d ∈ ds, DeedP d) : CerOk x (behind x ds) := CerOk.play hd ds hdp (CerOk.start hd)
noncomputable def r0_NamedAfter (x : T_Deal) (ds : T_DeedS) : List Int := if givenC x ds = 0 then markF (behind x ds).named 0 else []
noncomputable def r1_NamedAfter (x : T_Deal) (ds : T_DeedS) : Int := givenC x ds
theorem bound_NamedAfter {x : T_Deal} {ds : T_DeedS} (hB : B_Deal x) (hBd : B_DeedS ds) : B_Int64S (r0_NamedAfter x ds) := by
  unfold r0_NamedAfter
  split
  · rename_i h
    obtain ⟨hd, hdp, _⟩ := given0 h
    have ok := behind_ok hd hdp
    have := markF_len (behind x ds).named 0
    have h1 := ok.nl
    have h2 := ok.sl
    have h7 := hd.sch.h7
    show _ ≤ _
    omega
  · show (0 : Nat) ≤ _
    omega
section
variable {S : Ids} {H0 : AH} {x : T_Deal} {ds : T_DeedS} {dcs : List Value}
theorem impl_NamedAfter {a c} (hB : B_Deal x) (hBd : B_DeedS ds) (hD : K_Deal.R S H0 x dcs) (hs : K_DeedS.R S H0 ds [.slice a ds.length c]) : SpecM Tryz.prog S H0 12 [.agg dcs.toArray, .slice a ds.length c] (MkLC (r0_NamedAfter x ds) (r1_NamedAfter x ds)) := by
  have hs := sl1 hs
  obtain ⟨d1, d2, d3, d4, d5, d6, d7, d8, rfl⟩ := form_Deal hD
  refine SpecM.of1 Tryz.func12 rfl (by kernel_rfl) rfl (fun H _ => ?_)
  have hD0 : K_Deal.R (Low H.n) H x _ := On.R hD
  have hs0 := hs.up (S' := Low H.n) (H' := H)
  refine KW.callE rfl rfl rfl rfl rfl (deedsCode hB hBd.len hD0 hs0) (fun _ _ => ?_)
  unfold r0_NamedAfter r1_NamedAfter
  refine KW.cndB rfl rfl (fun k1 => ?_) (fun k1 => ?_)
  · have k1 : givenC x ds ≠ 0 := by simpa using k1
    rw [if_neg k1]
    refine KW.retM1 rfl rfl rfl rfl (fun H1 g => MkLC.nil rfl)
  have k1 : givenC x ds = 0 := by simpa using k1
  rw [if_pos k1, k1]
  obtain ⟨hd, hdp, h400⟩ := given0 k1
  have ok := behind_ok hd hdp
  refine KW.fact (fun _ g => g.nle (H1 := H)) (fun hn0 => ?_)
  refine KW.callN1 rfl rfl rfl rfl rfl (implAfter hd hdp h400 hB hD0 hs0) (fun v H1 S1 m1 _ _ hv => ?_)
  obtain ⟨d, X, rfl, hh⟩ := hv
  have hh1 := hh.on (S' := S1) (A' := H1)
  have hc := hh1.cellsH
  obtain ⟨hn1, hn2⟩ := hh1.named
  have h12 : (behind x ds).named.length ≤ 1048576 := by have h1 := ok.nl; have h2 := ok.sl; have h7 := hd.sch.h7; omega
  refine KW.ldF 5 hc rfl rfl rfl rfl rfl rfl rfl rfl rfl ?_
  refine KW.callN1 rfl rfl rfl rfl rfl (marked h12 (bool_sl hn1 hn2 rfl (Nat.le_refl _))) (fun v H2 S2 m2 _ _ hv => ?_)
  obtain ⟨a2, q2, rfl, hM⟩ := hv
  refine KW.retM1 rfl rfl rfl rfl (fun H1 g => ⟨_, _, rfl, ml1' (g.made (by omega) hM)⟩)
theorem spec_NamedAfter {a c} (hB : B_Deal x) (hBd : B_DeedS ds) (hD : K_Deal.R S H0 x dcs) (hs : K_DeedS.R S H0 ds [.slice a ds.length c]) : SpecM Tryz.prog S H0 9 [.agg dcs.toArray, .slice a ds.length c] (MkLC (r0_NamedAfter x ds) (r1_NamedAfter x ds)) := by
  have hs := sl1 hs
  obtain ⟨d1, d2, d3, d4, d5, d6, d7, d8, rfl⟩ := form_Deal hD
  refine SpecM.of1 Tryz.func9 rfl (by kernel_rfl) rfl (fun H _ => ?_)
  have hD0 : K_Deal.R (Low H.n) H x _ := On.R hD
  have hs0 := hs.up (S' := Low H.n) (H' := H)
  refine KW.callWF 0 rfl rfl rfl rfl rfl rfl (fun A9 S9 hn9 hS9 t9 hm9 ho9 hno9 hlt9 => ?_)
  have k9 : ∀ id, id < H.n → S9 id ∧ A9.m id = H.m id := fun id p => t9.st id p
  have hD9 : K_Deal.R S9 A9 x _ := K_Deal.same (fun id p => (k9 id p).2) hD0 |> K_Deal.more (fun id p => (k9 id p).1)
  have hDv9 : Has3 S9 A9 H.n 0 [.int .i64 x.1.1, .slice d1 x.1.2.1.length d2, .int .i64 x.1.2.2.1, .int .i64 x.1.2.2.2.1, .slice d3 x.1.2.2.2.2.length d4, .int .i64 x.2.1, .slice d5 x.2.2.1.length d6, .slice d7 x.2.2.2.length d8] := ⟨(hS9 _).2 (.inr rfl), _, hm9, fun i v hv => by rw [Nat.zero_add]; exact hv⟩
  have hs9 : K_Deed.Sl S9 A9 (.slice a ds.length c) ds := sl_mk hs0 (fun id p => k9 id p)
  refine ⟨fun _ => False, _, fun id p => p.elim, SpecM.w (post := fun _ v _ => v = .int .i64 (givenC x ds)) (l08Given hB hBd.len hD9 hDv9 hs9), fun v H1 S1 m1 t1 w1 hv => ?_⟩
  obtain rfl := hv
  have k1a : ∀ id, S9 id → S1 id ∧ H1.m id = A9.m id := fun id p => ⟨(t1 id p).1, (t1 id p).2 (fun q => q)⟩
  have kl : ∀ id, id < H.n → S1 id ∧ H1.m id = H.m id := fun id p => ⟨(k1a id (k9 id p).1).1, ((k1a id (k9 id p).1).2).trans (k9 id p).2⟩
  unfold r0_NamedAfter r1_NamedAfter
  refine KW.cndB rfl rfl (fun k1 => ?_) (fun k1 => ?_)
  · have k1 : givenC x ds ≠ 0 := by simpa using k1
    rw [if_neg k1]
    refine KW.lit rfl rfl rfl rfl rfl rfl rfl rfl rfl rfl [] rfl rfl (fun v hv => by simp at hv) rfl ?_
    exact KW.retM rfl rfl rfl rfl (fun id hid => kl id hid) (fun H1 g => MkLC.nil' rfl)
  have k1 : givenC x ds = 0 := by simpa using k1
  rw [if_pos k1, k1]
  obtain ⟨hd, hdp, h400⟩ := given0 k1
  have ok := behind_ok hd hdp
  have hD1 : K_Deal.R S1 H1 x _ := K_Deal.same (fun id p => (k1a id p).2) hD9 |> K_Deal.more (fun id p => (k1a id p).1)
  have hs1 : K_Deed.Sl S1 H1 (.slice a ds.length c) ds := sl_mk hs9 (fun id p => k1a id p)
  have mvH : ∀ {vs : List Value}, Has3 S9 A9 H.n 0 vs → Has3 S1 H1 H.n 0 vs := fun {vs} q => by
    obtain ⟨q0, b, q1, q2⟩ := q
    exact ⟨(k1a _ q0).1, b, ((k1a _ q0).2).trans q1, q2⟩
  have hDv1 := mvH hDv9
  refine KW.callN1 rfl rfl rfl rfl rfl (l08PlayH hd hdp h400 hB hD1 hDv1 hs1) (fun v H2 S2 m2 _ _ hv => ?_)
  obtain ⟨d, X, o, rfl, hM, hh⟩ := hv
  have st2 := (inferInstance : On S1 H1 S2 H2).st
  have hh1 := hh.on (S' := S2) (A' := H2)
  have hc := hh1.cellsH
  obtain ⟨hn1, hn2⟩ := hh1.named
  have h12 : (behind x ds).named.length ≤ 1048576 := by have h1 := ok.nl; have h2 := ok.sl; have h7 := hd.sch.h7; omega
  refine KW.ldF 6 hc rfl rfl rfl rfl rfl rfl rfl rfl rfl ?_
  refine KW.callN1 rfl rfl rfl rfl rfl (l08Where h12 (bool_sl hn1 hn2 rfl (Nat.le_refl _))) (fun v H3 S3 m3 _ _ hv => ?_)
  obtain ⟨a2, q2, rfl, hM3⟩ := hv
  have st3 := (inferInstance : On S2 H2 S3 H3).st
  exact KW.retM rfl rfl rfl rfl (fun id hid => ⟨(st3 id (st2 id (kl id hid).1).1).1, ((st3 id (st2 id (kl id hid).1).1).2).trans (((st2 id (kl id hid).1).2).trans (kl id hid).2)⟩) (fun H1 g => ⟨_, _, rfl, ml1' (g.made (by omega) hM3)⟩)
end
end Go.Proofs.YtijmkfnmdhpakaaGreat.Am
/- Contracts: GatherDeeds, the program's side. Each holds under its own conditions. -/
set_option linter.unusedVariables false
set_option linter.unusedSimpArgs false
set_option maxRecDepth 20000
namespace Go.Proofs.YtijmkfnmdhpakaaGreat.Am
open Go Go.RowKit Go.Proofs
section
variable {P : Program} {S : Ids} {H0 : AH} {Q : PostC} {k k1 : List It} {e e1 : Env} {T T1 : List Var} {n n1 : Nat} {l1 r1 : List Nat} {d1 : Tmp}
/-- A literal of any elements. -/
theorem KW.litX {o : Oper} {dr : Bool} {t el : TypeId} {m : Nat} {parts : Array (Nat × Operand)} {inf : TypeInfo} {z : Value} (cs : List Value) (h : Go1 P k e T n (.op o dr) k1 e1 T1 n1 l1 r1) (hlr : l1 = r1) (ho : o.op = .buildSlice t m parts) (hd : o.dst = some d1)
    (hu : P.underlying t = some (.slice el)) (hi : P.info? el = some inf) (hz : inf.zero = some z) (hzo : zeroOkL P el = true) (hf : Instr.fill (fun j => some (j * inf.size, inf.size)) (zarr z (m * inf.size)) (parts.toList.map fun p => (p.1, ev e1 p.2)) = some cs.toArray) (hs : cs.length = m * inf.size) (hle : Nat.ble (m * inf.size) 16777216 = true)
    (hk : KW P S H0 Q (n1 + 1) (T1 ++ [(n1, ⟨el, true, cs⟩)]) k1 (put1 e1 d1 (.slice (some ⟨n1, 0, some inf.size⟩) m m))) : KW P S H0 Q n T k e := by
  refine KW.go h hlr (KEvt.heap (c := ⟨_, _, _, _, _, _⟩) _ _ _ (by rw [ho]; exact .inl rfl) (fun H g => ⟨none, _, ?_, g.push _⟩) (by rw [hd, put1_eq]; exact hk))
  rw [ho]
  have hle := Nat.le_of_ble_eq_true hle
  simp only [hop, alit, hu, hi, hz, hf, g.n_]
  rw [if_pos ⟨zeroOkL_ok hzo, hle⟩, if_pos (by simpa using hs)]
end
/-- The cells of deeds. -/
def deedC : List T_Deed → List Value
  | [] => []
  | d :: l => [.int .i64 d.1, .int .i64 d.2.1, .int .i64 d.2.2] ++ deedC l
theorem deedC_len : ∀ l, (deedC l).length = l.length * 3
  | [] => rfl
  | d :: l => by simp only [deedC, List.length_append, deedC_len l, List.length_cons, List.length_nil]; omega
theorem deedC_app : ∀ a b, deedC (a ++ b) = deedC a ++ deedC b
  | [], b => rfl
  | d :: a, b => by simp only [List.cons_append, deedC, deedC_app a b, List.append_assoc]
theorem deedC_at : ∀ (l : List T_Deed) (i : Nat) d, l[i]? = some d → ((deedC l).drop (i * 3)).take 3 = [.int .i64 d.1, .int .i64 d.2.1, .int .i64 d.2.2]
  | x :: l, 0, d, h => by cases h; rfl
  | x :: l, i + 1, d, h => by
    have h : l[i]? = some d := h
    have e : (i + 1) * 3 = i * 3 + 3 := by omega
    rw [e]
    show ((deedC l).drop (i * 3)).take 3 = _
    exact deedC_at l i d h
theorem deeds_ml {W : Ids} {A : AH} {o : Nat} {ty : TypeId} {l : List T_Deed} (hW : W o) (hm : A.m o = some ⟨ty, true, deedC l⟩) : M_DeedS.R W A l [.slice (some ⟨o, 0, some 3⟩) l.length l.length] :=
  ml1' (.inr ⟨o, l.length, _, fun _ _ => False, rfl, Nat.le_refl _, hW, hm, rfl, by show l.length * 3 ≤ (deedC l).length; rw [deedC_len]; exact Nat.le_refl _, fun _ _ p => p.elim, fun _ _ _ p => p.elim, fun i x hx => by
    show M_Deed.R _ A x (((deedC l).drop (0 + i * 3)).take 3)
    rw [Nat.zero_add, deedC_at l i x hx]
    exact mkM_Deed⟩)
def packH (h : Int) : List T_Deed := [(1, h, 0), (3, 0, 0), (7, h, 0), (2, h, 0), (3, 0, 0)]
def gathL : List Int → List T_Deed
  | [] => []
  | h :: g => packH h ++ gathL g
theorem gathL_len : ∀ g, (gathL g).length = g.length * 5
  | [] => rfl
  | h :: g => by simp only [gathL, packH, List.length_append, gathL_len g, List.length_cons, List.length_nil]; omega
theorem gathL_app : ∀ a b, gathL (a ++ b) = gathL a ++ gathL b
  | [], b => rfl
  | h :: a, b => by simp only [List.cons_append, gathL, gathL_app a b, List.append_assoc]
def dropsL (n : Nat) : List T_Deed := List.replicate n (5, 0, 0)
def badH (c : Cer) (h : Int) : Prop := c.named.getD h.toNat false = true ∨ (c.seat h).2.2 ≠ 0
noncomputable def outG (x : T_Deal) (ds : List T_Deed) (g : List Int) : List T_Deed := dropsL (behind x ds).wire.length ++ gathL g
noncomputable def codeG (x : T_Deal) (ds : List T_Deed) (g : List Int) : Int :=
  if givenC x ds = 0 then (if tv (Rises 0 (x.1.1 - 1) g) = true then (if tv (∃ h ∈ g, badH (behind x ds) h) = true then 4 else if (400 : Int) < ds.length + (outG x ds g).length then 3 else 0) else 2) else givenC x ds
noncomputable def r0_GatherDeeds (x : T_Deal) (ds : T_DeedS) (g : List Int) : List T_Deed := if codeG x ds g = 0 then outG x ds g else []
noncomputable def r1_GatherDeeds (x : T_Deal) (ds : T_DeedS) (g : List Int) : Int := codeG x ds g
def MkDC (l : List T_Deed) (code : Int) (n : Nat) (v : Value) (H1 : AH) : Prop := ∃ a c, v = .tuple #[.slice a l.length c, .int .i64 code] ∧ M_DeedS.R (New n H1.n) H1 l [.slice a l.length c]
theorem MkDC.nil {code : Int} {n : Nat} {H1 : AH} {v : Value} (hv : v = .tuple #[.slice none 0 0, .int .i64 code]) : MkDC [] code n v H1 := ⟨none, 0, hv, ml1' (.inl ⟨rfl, _, _, rfl, fun _ => rfl⟩)⟩
theorem MkDC.nil' {code : Int} {n id : Nat} {H1 : AH} {v : Value} (hv : v = .tuple #[.slice (some ⟨id, 0, some 3⟩) 0 0, .int .i64 code]) : MkDC [] code n v H1 := ⟨_, 0, hv, ml1' (.inl ⟨rfl, _, _, rfl, fun h => by cases h⟩)⟩
theorem built_Deed1 (a : Int) : Tryz.prog.built 83 [(0, .int .i64 a)] = some #[.int .i64 a, .int .i64 0, .int .i64 0] := by kernel_rfl
theorem built_Deed2 (a b : Int) : Tryz.prog.built 83 [(0, .int .i64 a), (1, .int .i64 b)] = some #[.int .i64 a, .int .i64 b, .int .i64 0] := by kernel_rfl
theorem T2c {a : Var} {i : Nat} {ty : TypeId} {cs cs' : List Value} (h : cs = cs') : ([a, (i, ⟨ty, true, cs⟩)] : List Var) = [a, (i, ⟨ty, true, cs'⟩)] := by rw [h]
theorem rises_in {x m : Int} {g : List Int} (h : Rises 0 (m - 1) g) (hx : x ∈ g) : 0 ≤ x ∧ x ≤ m - 1 := by
  obtain ⟨i, hi⟩ := List.getElem?_of_mem hx
  obtain ⟨h2, h3⟩ := List.getElem?_eq_some_iff.1 hi
  have := (h i h2).1
  rw [List.getD_eq_getElem?_getD, hi] at this
  exact this
theorem bound_GatherDeeds {x : T_Deal} {ds : T_DeedS} {g : List Int} (hB : B_Deal x) (hBd : B_DeedS ds) (hg : B_Int64S g) : B_DeedS (r0_GatherDeeds x ds g) := by
  unfold r0_GatherDeeds
  split
  · rename_i h
    unfold codeG at h
    split at h
    · rename_i h0
      split at h
      · rename_i hr
        have hr := tv_iff.1 hr
        split at h
        · cases h
        · split at h
          · cases h
          · rename_i hl
            have h7 := (given0 h0).1.sch.h7
            have hl : (outG x ds g).length ≤ 400 := by omega
            refine ⟨by omega, fun y hy => ?_, ?_⟩
            · have key : ∀ (l : List Int), (∀ h ∈ l, 0 ≤ h ∧ h ≤ 6) → ∀ y ∈ gathL l, B_Deed y := fun l => by
                induction l with
                | nil => intro _ y hy; cases hy
                | cons a l ih =>
                  intro hl y hy
                  rcases List.mem_append.1 hy with p | p
                  · have ha := hl a List.mem_cons_self
                    simp [packH] at p
                    rcases p with rfl | rfl | rfl | rfl | rfl <;> (refine ⟨?_, ?_, ?_⟩ <;> (unfold I64; constructor <;> simp only <;> omega))
                  · exact ih (fun h hh => hl h (List.mem_cons_of_mem _ hh)) y p
              rcases List.mem_append.1 hy with p | p
              · have := List.eq_of_mem_replicate p
                subst this
                refine ⟨?_, ?_, ?_⟩ <;> (unfold I64; decide)
              · exact key g (fun h hh => by have := rises_in hr hh; omega) y p
            · rw [ts_DeedS, ts0_DeedS]
              omega
      · cases h
    · rename_i h0; exact absurd h h0
  · exact ⟨Nat.zero_le _, fun y hy => (List.not_mem_nil hy).elim, Nat.zero_le _⟩
section
variable {S : Ids} {H0 : AH} {x : T_Deal} {ds : T_DeedS} {g : List Int} {dcs : List Value}
theorem impl_GatherDeeds {a c a2 c2} (hB : B_Deal x) (hBd : B_DeedS ds) (hBg : B_Int64S g) (hD : K_Deal.R S H0 x dcs) (hs : K_DeedS.R S H0 ds [.slice a ds.length c]) (hg : K_Int64S.R S H0 g [.slice a2 g.length c2]) : SpecM Tryz.prog S H0 22 [.agg dcs.toArray, .slice a ds.length c, .slice a2 g.length c2] (MkDC (r0_GatherDeeds x ds g) (r1_GatherDeeds x ds g)) := by
  have hs := sl1 hs
  have hg := sl1 hg
  have hgl : g.length ≤ 1048576 := hBg
  obtain ⟨d1, d2, d3, d4, d5, d6, d7, d8, rfl⟩ := form_Deal hD
  refine SpecM.of1 Tryz.func22 rfl (by kernel_rfl) rfl (fun H _ => ?_)
  have hD0 : K_Deal.R (Low H.n) H x _ := On.R hD
  have hs0 := hs.up (S' := Low H.n) (H' := H)
  have hg0 := hg.up (S' := Low H.n) (H' := H)
  refine KW.callE rfl rfl rfl rfl rfl (deedsCode hB hBd.len hD0 hs0) (fun _ _ => ?_)
  unfold r0_GatherDeeds r1_GatherDeeds
  refine KW.cndB rfl rfl (fun k1 => ?_) (fun k1 => ?_)
  · have k1 : givenC x ds ≠ 0 := by simpa using k1
    have e : codeG x ds g = givenC x ds := by unfold codeG; rw [if_neg k1]
    rw [e, if_neg k1]
    refine KW.retM1 rfl rfl rfl rfl (fun H1 g => MkDC.nil rfl)
  have k1 : givenC x ds = 0 := by simpa using k1
  obtain ⟨hd, hdp, h400⟩ := given0 k1
  have ok := behind_ok hd hdp
  have h7 := hd.sch.h7
  have h1h := hd.sch.h1
  refine KW.callE rfl rfl rfl rfl rfl (isGroup x.1.1 (by omega) (by omega) hg0) (fun _ _ => ?_)
  refine KW.cndB rfl rfl (fun k2 => ?_) (fun k2 => ?_)
  · have k2 : tv (Rises 0 (x.1.1 - 1) g) = false := by simpa using k2
    have e : codeG x ds g = 2 := by unfold codeG; rw [if_pos k1, k2]; rfl
    rw [e, if_neg (by decide)]
    refine KW.retM1 rfl rfl rfl rfl (fun H1 g => MkDC.nil rfl)
  have k2 : tv (Rises 0 (x.1.1 - 1) g) = true := by simpa using k2
  have hr := tv_iff.1 k2
  refine KW.fact (fun _ g => g.nle (H1 := H)) (fun hn0 => ?_)
  refine KW.callN1 rfl rfl rfl rfl rfl (implAfter hd hdp h400 hB hD0 hs0) (fun v H1 S1 m1 _ _ hv => ?_)
  obtain ⟨d, X, rfl, hh⟩ := hv
  have st1 := (inferInstance : On (Low H.n) H S1 H1).st
  have hh1 := hh.on (S' := S1) (A' := H1)
  have hc := hh1.cellsH
  obtain ⟨hn1, hn2⟩ := hh1.named
  obtain ⟨hs1, scs, hs2, hscl⟩ := hh1.seats
  have hw12 := ok.wl
  have hg1 : KI.Sl S1 H1 (.slice a2 g.length c2) g := sl_mk hg0 (fun id p => st1 id p)
  refine KW.cnt (fun n1 hne1 => ?_)
  refine KW.fact (p := H.n ≤ n1) (fun _ gd => by omega) (fun hn1l => ?_)
  refine KW.litS0 rfl rfl rfl rfl rfl rfl rfl rfl rfl rfl ?_
  obtain ⟨cb, hcb⟩ : ∃ cb, behind x ds = cb := ⟨_, rfl⟩
  have hcp : play x (cer0 x.1.1.toNat) ds = cb := hcb
  rw [hcp] at hc hn2 hscl
  rw [hcb] at ok hw12
  have eG : codeG x ds g = if tv (∃ h ∈ g, badH cb h) = true then 4 else if (400 : Int) < ds.length + (outG x ds g).length then 3 else 0 := by unfold codeG; rw [if_pos k1, k2, hcb]; rfl
  have eO : outG x ds g = dropsL cb.wire.length ++ gathL g := by unfold outG; rw [hcb]
  obtain ⟨hid, sid, gid, bid, nid, w⟩ := d
  have hwi : WireB HTI S1 H1 X w cb.wire := by have := hh1.wire; rw [hcp] at this; exact this
  obtain ⟨aw, cw, hwv⟩ : ∃ aw cw, HD.wv ⟨hid, sid, gid, bid, nid, w⟩ cb.wire.length = .slice aw cb.wire.length cw := by
    cases w with
    | none =>
      have e : cb.wire = [] := hwi
      rw [e]
      exact ⟨none, 0, rfl⟩
    | some iq => exact ⟨_, _, rfl⟩
  have hc : Has3 S1 H1 hid 0 ([.int .i64 cb.ep, .slice (some ⟨sid, 0, some 7⟩) cb.seats.length cb.seats.length, .int .i64 cb.oe, .slice (some ⟨gid, 0, some 1⟩) cb.got.length cb.got.length, .slice (some ⟨bid, 0, some 1⟩) cb.has.length cb.has.length, .slice (some ⟨nid, 0, some 1⟩) cb.named.length cb.named.length, .slice aw cb.wire.length cw] ++ [.int .i64 x.1.1, .slice d1 x.1.2.1.length d2, .int .i64 x.1.2.2.1, .int .i64 x.1.2.2.2.1, .slice d3 x.1.2.2.2.2.length d4, .int .i64 x.2.1, .slice d5 x.2.2.1.length d6, .slice d7 x.2.2.2.length d8]) := by
    have h := hc
    simp only [HD.cells, hwv] at h
    exact h
  simp only at hn1 hn2 hs1 hs2
  have hnl : cb.named.length = cb.seats.length := ok.nl
  have hsl := ok.sl
  refine KW.ldF 6 hc rfl rfl rfl rfl rfl rfl rfl rfl rfl ?_
  refine KW.lpM rfl rfl (fun s : Nat × Nat => [(1, .slice a ds.length c), (2, .slice a2 g.length c2), (9, .pointer (some ⟨hid, 0, none⟩)), (11, .slice (some ⟨s.2, 0, some 3⟩) s.1 s.1), (38, .int .i64 cb.wire.length), (39, .int .i64 s.1)]) (fun s => S1) (fun s => H1) (fun s => [(H.n, ⟨40, true, [.int .i64 x.1.1, .slice d1 x.1.2.1.length d2, .int .i64 x.1.2.2.1, .int .i64 x.1.2.2.2.1, .slice d3 x.1.2.2.2.2.length d4, .int .i64 x.2.1, .slice d5 x.2.2.1.length d6, .slice d7 x.2.2.2.length d8]⟩), (s.2, ⟨83, true, deedC (dropsL s.1)⟩)]) (fun s => s.1 ≤ cb.wire.length) (fun s => cb.wire.length - s.1) ((0, n1)) (Nat.zero_le _) ⟨rfl, rfl, rfl, rfl, rfl, rfl, trivial⟩ rfl rfl (rfl) (fun s hi bE n => ?_)
  obtain ⟨i, o⟩ := s
  have hi : i ≤ cb.wire.length := hi
  refine KW.cnd rfl rfl (fun k3 => ?gin) (fun k3 => ?gout)
  case gin =>
    have k3 : (i : Int) < (cb.wire.length : Int) := k3
    refine KW.build rfl rfl rfl rfl rfl (built_Deed1 _) ?_
    refine KW.cnt (fun m hm => ?_)
    refine KW.litS1 rfl rfl rfl rfl rfl rfl rfl rfl rfl rfl rfl rfl ?_
    refine KW.appTS (m := 1) (ys := [.int .i64 5, .int .i64 0, .int .i64 0]) 1 rfl rfl rfl rfl rfl rfl rfl rfl (by decide) rfl (fun H1 g => acells_seg (g.blk (j := 2) rfl).1 (by show 0 + 1 * 3 ≤ 3; decide)) (by show 0 + i * 3 ≤ (deedC (dropsL i)).length; rw [deedC_len]; simp [dropsL]) rfl (by decide) (by show (i + 1) * 24 ≤ _; omega) (by show i + 1 ≤ _; omega) ?_
    have e3 : ((deedC (dropsL i)).drop 0).take (i * 3) ++ [.int .i64 5, .int .i64 0, .int .i64 0] = deedC (dropsL (i + 1)) := by
      rw [drop0_take (by rw [deedC_len]; simp [dropsL])]
      show _ = deedC (List.replicate (i + 1) (5, 0, 0))
      rw [List.replicate_succ', deedC_app]
      rfl
    refine KW.nxt rfl rfl (fun H' g => ⟨(i + 1, m + 1), (by show i + 1 ≤ cb.wire.length; omega), by first | omega | (simp only; omega), ⟨rfl, rfl, rfl, rfl, rfl, congrArg (Value.int .i64) (inc64 (by omega)), trivial⟩, (g.take 2).castT (show ([_, (m + 1, ⟨_, true, _⟩)] : List Var) = [_, (m + 1, ⟨_, true, _⟩)] from T2c e3)⟩)
  have k3 : ¬ (i : Int) < (cb.wire.length : Int) := k3
  obtain rfl : i = cb.wire.length := by omega
  refine KW.lpM rfl rfl (fun s : Nat × Nat => [(1, .slice a ds.length c), (2, .slice a2 g.length c2), (9, .pointer (some ⟨hid, 0, none⟩)), (11, .slice (some ⟨s.2, 0, some 3⟩) (cb.wire.length + s.1 * 5) (cb.wire.length + s.1 * 5)), (46, .slice a2 g.length c2), (47, .int .i64 g.length), (48, .int .i64 s.1)]) (fun s => S1) (fun s => H1) (fun s => [(H.n, ⟨40, true, [.int .i64 x.1.1, .slice d1 x.1.2.1.length d2, .int .i64 x.1.2.2.1, .int .i64 x.1.2.2.2.1, .slice d3 x.1.2.2.2.2.length d4, .int .i64 x.2.1, .slice d5 x.2.2.1.length d6, .slice d7 x.2.2.2.length d8]⟩), (s.2, ⟨83, true, deedC (dropsL cb.wire.length ++ gathL (g.take s.1))⟩)]) (fun s => s.1 ≤ g.length ∧ ∀ j, j < s.1 → ∀ h, g[j]? = some h → ¬ badH cb h) (fun s => g.length - s.1) ((0, o)) (⟨Nat.zero_le _, fun j h => absurd h (by simp)⟩) ⟨rfl, rfl, rfl, rfl, rfl, rfl, rfl, trivial⟩ rfl rfl (by simp [gathL]) (fun s hi bE n => ?_)
  obtain ⟨i, o⟩ := s
  obtain ⟨i1, i2⟩ := hi
  simp only at i1 i2
  refine KW.cnd rfl rfl (fun k4 => ?ga) (fun k4 => ?gb)
  case ga =>
    have k4 : (i : Int) < (g.length : Int) := k4
    refine KW.getI hg1 rfl rfl rfl rfl rfl rfl rfl rfl rfl rfl rfl rfl rfl rfl rfl rfl (by omega) (k4) (fun h hh_ => ?_)
    have hgi : g[i]? = some h := hh_
    have hmem := List.mem_of_getElem? hgi
    have hho := rises_in hr hmem
    have hho2 : HoOk x h := ⟨hho.1, by omega⟩
    refine KW.ldF 5 hc rfl rfl rfl rfl rfl rfl rfl rfl rfl ?_
    refine KW.getB ((bool_sl hn1 hn2 rfl (Nat.le_refl _))) rfl rfl rfl rfl rfl rfl rfl rfl rfl rfl rfl rfl rfl rfl rfl rfl (by omega) (by show h < ((cb.named.length : Nat) : Int); omega) (fun b hb => ?_)
    have hb : cb.named[h.toNat]? = some b := hb
    have hbD : cb.named.getD h.toNat false = b := by rw [List.getD_eq_getElem?_getD, hb]; rfl
    have bad4 : badH cb h → codeG x ds g = 4 := fun p => by rw [eG, if_pos (tv_true ⟨h, hmem, p⟩)]
    refine KW.tstB rfl rfl (fun k5 => ?_) (fun k5 => ?_)
    · have k5 : b = true := k5
      have e := bad4 (.inl (hbD.trans k5))
      repeat first | refine KW.tT rfl rfl rfl ?_ | refine KW.tF rfl rfl rfl ?_
      refine KW.cT rfl rfl (by first | (simp; done) | decide) ?_
      rw [e, if_neg (by decide)]
      exact KW.retM rfl rfl rfl rfl (fun id hid => st1 id hid) (fun H1 g => MkDC.nil rfl)
    have k5 : b = false := k5
    obtain ⟨hse, hsok⟩ := ok.seat hho2
    obtain ⟨s, hs_⟩ : ∃ s, cb.seat h = s := ⟨_, rfl⟩
    rw [hs_] at hse hsok
    have hR := hscl.2 _ _ hse
    obtain ⟨ps, qs, hseg, hR1, hR2⟩ := split_Seat hR
    obtain ⟨b1, e1, b2, e2, hps, hR3, hR4⟩ := split_Purse hR1
    obtain ⟨b3, e3, b4, e4, hqs, hR5, hR6⟩ := split_Purse hR2
    have c6 : scs[0 + h.toNat * 7 + 6]? = some (.int .i64 s.2.2) := by
      have hv : (ps ++ (qs ++ [.int .i64 s.2.2]) : List Value)[6]? = some (.int .i64 s.2.2) := by rw [hps, hqs]; rfl
      have := seg_at hseg hv
      rw [Nat.zero_add]; exact this
    refine KW.ldF 1 hc rfl rfl rfl rfl rfl rfl rfl rfl rfl ?_
    refine KW.idx0 rfl rfl rfl rfl rfl rfl rfl rfl rfl (by omega) (by show h < ((cb.seats.length : Nat) : Int); omega) ?_
    refine KW.ldC hs1 hs2 c6 rfl rfl rfl rfl rfl rfl rfl ?_
    refine KW.cndB rfl rfl (fun k6 => ?_) (fun k6 => ?_)
    · have k6 : s.2.2 ≠ 0 := by simpa using k6
      have e := bad4 (.inr (by rw [hs_]; exact k6))
      rw [e, if_neg (by decide)]
      exact KW.retM rfl rfl rfl rfl (fun id hid => st1 id hid) (fun H1 g => MkDC.nil rfl)
    have k6 : s.2.2 = 0 := by simpa using k6
    have good : ¬ badH cb h := fun p => p.elim (fun p => by rw [hbD, k5] at p; cases p) (fun p => p (by rw [hs_]; exact k6))
    refine KW.build rfl rfl rfl rfl rfl (built_Deed2 _ _) ?_
    refine KW.build rfl rfl rfl rfl rfl (built_Deed1 _) ?_
    refine KW.build rfl rfl rfl rfl rfl (built_Deed2 _ _) ?_
    refine KW.build rfl rfl rfl rfl rfl (built_Deed2 _ _) ?_
    refine KW.build rfl rfl rfl rfl rfl (built_Deed1 _) ?_
    refine KW.cnt (fun m hm => ?_)
    refine KW.litX (deedC (packH h)) rfl rfl rfl rfl rfl rfl rfl rfl (by kernel_rfl) rfl rfl ?_
    have hdl : (deedC (dropsL cb.wire.length ++ gathL (g.take i))).length = (cb.wire.length + i * 5) * 3 := by rw [deedC_len, List.length_append, gathL_len, List.length_take, Nat.min_eq_left i1]; simp [dropsL]
    refine KW.appTS (m := 5) (ys := deedC (packH h)) 1 rfl rfl rfl rfl rfl rfl rfl rfl (by decide) rfl (fun H1 g => acells_seg (g.blk (j := 2) rfl).1 (by show 0 + 5 * 3 ≤ 15; decide)) (by show 0 + (cb.wire.length + i * 5) * 3 ≤ (deedC (dropsL cb.wire.length ++ gathL (g.take i))).length; omega) rfl (by decide) (by show (cb.wire.length + i * 5 + 5) * 24 ≤ _; omega) (by show cb.wire.length + i * 5 + 5 ≤ _; omega) ?_
    have et : g.take (i + 1) = g.take i ++ [h] := by rw [List.take_add_one, hgi]; rfl
    have e3 : ((deedC (dropsL cb.wire.length ++ gathL (g.take i))).drop 0).take ((cb.wire.length + i * 5) * 3) ++ deedC (packH h) = deedC (dropsL cb.wire.length ++ gathL (g.take (i + 1))) := by
      have e1 : gathL [h] = packH h := by simp [gathL]
      rw [drop0_take hdl, et, gathL_app, ← List.append_assoc, e1, ← deedC_app]
    have e4 : cb.wire.length + i * 5 + 5 = cb.wire.length + (i + 1) * 5 := by omega
    have hi1 : i + 1 ≤ g.length := by omega
    refine KW.nxt rfl rfl (fun H' g => ⟨(i + 1, m + 1), ⟨hi1, upto i2 (fun y hy => by rw [hgi] at hy; cases hy; exact good)⟩, by first | omega | (simp only; omega), ⟨rfl, rfl, rfl, congrArg (fun k => Value.slice (some ⟨m + 1, 0, some 3⟩) k k) e4, rfl, rfl, congrArg (Value.int .i64) (inc64 (by omega)), trivial⟩, (g.take 2).castT (show ([_, (m + 1, ⟨_, true, _⟩)] : List Var) = [_, (m + 1, ⟨_, true, _⟩)] from T2c e3)⟩)
  have k4 : ¬ (i : Int) < (g.length : Int) := k4
  obtain rfl : i = g.length := by omega
  have nobad : ¬ ∃ h ∈ g, badH cb h := fun ⟨h, hm, hp⟩ => by
    obtain ⟨j, hj⟩ := List.getElem?_of_mem hm
    exact i2 j (List.getElem?_eq_some_iff.1 hj).1 h hj hp
  have eol : (outG x ds g).length = cb.wire.length + g.length * 5 := by rw [eO, List.length_append, gathL_len]; simp [dropsL]
  have eG : codeG x ds g = if (400 : Int) < ds.length + (outG x ds g).length then 3 else 0 := by rw [eG, tv_false nobad]; rfl
  have ew : IntKind.i64.wrap ((ds.length : Int) + ((cb.wire.length + g.length * 5 : Nat) : Int)) = (ds.length : Int) + (outG x ds g).length := (wr (by omega) (by omega)).trans (by rw [eol])
  refine KW.cnd rfl rfl (fun k7 => ?_) (fun k7 => ?_)
  · have k7 : IntKind.i64.wrap ((ds.length : Int) + ((cb.wire.length + g.length * 5 : Nat) : Int)) > 400 := k7
    rw [ew] at k7
    have e : codeG x ds g = 3 := by rw [eG, if_pos k7]
    rw [e, if_neg (by decide)]
    exact KW.retM rfl rfl rfl rfl (fun id hid => st1 id hid) (fun H1 g => MkDC.nil rfl)
  · have k7 : ¬ IntKind.i64.wrap ((ds.length : Int) + ((cb.wire.length + g.length * 5 : Nat) : Int)) > 400 := k7
    rw [ew] at k7
    have e : codeG x ds g = 0 := by rw [eG, if_neg k7]
    rw [e, if_pos rfl]
    refine KW.retM rfl rfl rfl rfl (fun id hid => st1 id hid) (fun H9 gd => ?_)
    have gv := gd.vars 1 _ rfl
    have hn9 := gd.n_
    have hbk := (gd.blk (j := 1) rfl).1
    rw [List.take_of_length_le (Nat.le_refl _)] at hbk
    have hbk : H9.m o = some ⟨83, true, deedC (outG x ds g)⟩ := by rw [eO]; exact hbk
    have := deeds_ml (W := New H.n H9.n) (l := outG x ds g) ⟨Nat.not_lt.1 fun hlt => gv.2.2 (st1 _ hlt).1, by rw [hn9]; exact gv.2.1⟩ hbk
    refine ⟨_, _, ?_, this⟩
    rw [eol]
    rfl
end
end Go.Proofs.YtijmkfnmdhpakaaGreat.Am
/- Contracts: GatherDeeds, the reference's side. Each holds under its own conditions. -/
set_option linter.unusedVariables false
set_option linter.unusedSimpArgs false
set_option maxRecDepth 20000
namespace Go.Proofs.YtijmkfnmdhpakaaGreat.Am
open Go Go.RowKit Go.Proofs
section
variable {S : Ids} {H0 : AH} {x : T_Deal} {ds : T_DeedS} {g : List Int} {dcs : List Value}
theorem spec_GatherDeeds {a c a2 c2} (hB : B_Deal x) (hBd : B_DeedS ds) (hBg : B_Int64S g) (hD : K_Deal.R S H0 x dcs) (hs : K_DeedS.R S H0 ds [.slice a ds.length c]) (hg : K_Int64S.R S H0 g [.slice a2 g.length c2]) : SpecM Tryz.prog S H0 20 [.agg dcs.toArray, .slice a ds.length c, .slice a2 g.length c2] (MkDC (r0_GatherDeeds x ds g) (r1_GatherDeeds x ds g)) := by
  have hs := sl1 hs
  have hg := sl1 hg
  have hgl : g.length ≤ 1048576 := hBg
  obtain ⟨d1, d2, d3, d4, d5, d6, d7, d8, rfl⟩ := form_Deal hD
  refine SpecM.of1 Tryz.func20 rfl (by kernel_rfl) rfl (fun H _ => ?_)
  have hD0 : K_Deal.R (Low H.n) H x _ := On.R hD
  have hs0 := hs.up (S' := Low H.n) (H' := H)
  have hg0 := hg.up (S' := Low H.n) (H' := H)
  refine KW.callWF 0 rfl rfl rfl rfl rfl rfl (fun A9 S9 hn9 hS9 t9 hm9 ho9 hno9 hlt9 => ?_)
  have k9 : ∀ id, id < H.n → S9 id ∧ A9.m id = H.m id := fun id p => t9.st id p
  have hD9 : K_Deal.R S9 A9 x _ := K_Deal.same (fun id p => (k9 id p).2) hD0 |> K_Deal.more (fun id p => (k9 id p).1)
  have hDv9 : Has3 S9 A9 H.n 0 [.int .i64 x.1.1, .slice d1 x.1.2.1.length d2, .int .i64 x.1.2.2.1, .int .i64 x.1.2.2.2.1, .slice d3 x.1.2.2.2.2.length d4, .int .i64 x.2.1, .slice d5 x.2.2.1.length d6, .slice d7 x.2.2.2.length d8] := ⟨(hS9 _).2 (.inr rfl), _, hm9, fun i v hv => by rw [Nat.zero_add]; exact hv⟩
  have hs9 : K_Deed.Sl S9 A9 (.slice a ds.length c) ds := sl_mk hs0 (fun id p => k9 id p)
  refine ⟨fun _ => False, _, fun id p => p.elim, SpecM.w (post := fun _ v _ => v = .int .i64 (givenC x ds)) (l08Given hB hBd.len hD9 hDv9 hs9), fun v H1 S1 m1 t1 w1 hv => ?_⟩
  obtain rfl := hv
  have k1a : ∀ id, S9 id → S1 id ∧ H1.m id = A9.m id := fun id p => ⟨(t1 id p).1, (t1 id p).2 (fun q => q)⟩
  have kl : ∀ id, id < H.n → S1 id ∧ H1.m id = H.m id := fun id p => ⟨(k1a id (k9 id p).1).1, ((k1a id (k9 id p).1).2).trans (k9 id p).2⟩
  unfold r0_GatherDeeds r1_GatherDeeds
  have hD1 : K_Deal.R S1 H1 x _ := K_Deal.same (fun id p => (k1a id p).2) hD9 |> K_Deal.more (fun id p => (k1a id p).1)
  have hs1 : K_Deed.Sl S1 H1 (.slice a ds.length c) ds := sl_mk hs9 (fun id p => k1a id p)
  have hg1 : KI.Sl S1 H1 (.slice a2 g.length c2) g := sl_mk hg0 (fun id p => kl id p)
  have mvH : ∀ {vs : List Value}, Has3 S9 A9 H.n 0 vs → Has3 S1 H1 H.n 0 vs := fun {vs} q => by
    obtain ⟨q0, b, q1, q2⟩ := q
    exact ⟨(k1a _ q0).1, b, ((k1a _ q0).2).trans q1, q2⟩
  have hDv1 := mvH hDv9
  refine KW.cndB rfl rfl (fun k1 => ?_) (fun k1 => ?_)
  · have k1 : givenC x ds ≠ 0 := by simpa using k1
    have e : codeG x ds g = givenC x ds := by unfold codeG; rw [if_neg k1]
    rw [e, if_neg k1]
    refine KW.litS0 rfl rfl rfl rfl rfl rfl rfl rfl rfl rfl ?_
    exact KW.retM rfl rfl rfl rfl (fun id hid => kl id hid) (fun H1 g => MkDC.nil' rfl)
  have k1 : givenC x ds = 0 := by simpa using k1
  obtain ⟨hd, hdp, h400⟩ := given0 k1
  have ok := behind_ok hd hdp
  have h7 := hd.sch.h7
  have h1h := hd.sch.h1
  refine KW.ldF 0 hDv1 rfl rfl rfl rfl rfl rfl rfl rfl rfl ?_
  refine KW.callE rfl rfl rfl rfl rfl (l01Group x.1.1 hgl (by omega) hg1) (fun _ _ => ?_)
  refine KW.cndB rfl rfl (fun k2 => ?_) (fun k2 => ?_)
  · have k2 : tv (Rises 0 (x.1.1 - 1) g) = false := by simpa using k2
    have e : codeG x ds g = 2 := by unfold codeG; rw [if_pos k1, k2]; rfl
    rw [e, if_neg (by decide)]
    refine KW.litS0 rfl rfl rfl rfl rfl rfl rfl rfl rfl rfl ?_
    exact KW.retM rfl rfl rfl rfl (fun id hid => kl id hid) (fun H1 g => MkDC.nil' rfl)
  have k2 : tv (Rises 0 (x.1.1 - 1) g) = true := by simpa using k2
  have hr := tv_iff.1 k2
  have g1 := hg1
  have kl1 := kl
  refine KW.callN1 rfl rfl rfl rfl rfl (l08PlayH hd hdp h400 hB hD1 hDv1 hs1) (fun v H2 S2 m2 _ _ hv => ?_)
  obtain ⟨d, X, oo, rfl, hM, hh⟩ := hv
  have st2 := (inferInstance : On S1 H1 S2 H2).st
  have st1 : St (Low H.n) H S2 H2 := fun id p => ⟨(st2 id (kl1 id p).1).1, ((st2 id (kl1 id p).1).2).trans (kl1 id p).2⟩
  have hh1 := hh.on (S' := S2) (A' := H2)
  have hc := hh1.cellsH
  obtain ⟨hn1, hn2⟩ := hh1.named
  obtain ⟨hs1_, scs, hs2, hscl⟩ := hh1.seats
  have hw12 := ok.wl
  have hg1 : KI.Sl S2 H2 (.slice a2 g.length c2) g := sl_mk g1 (fun id p => st2 id p)
  refine KW.cnt (fun n1 hne1 => ?_)
  refine KW.fact (p := H.n ≤ n1) (fun _ gd => by omega) (fun hn1l => ?_)
  refine KW.litS0 rfl rfl rfl rfl rfl rfl rfl rfl rfl rfl ?_
  obtain ⟨cb, hcb⟩ : ∃ cb, behind x ds = cb := ⟨_, rfl⟩
  have hcp : play x (cer0 x.1.1.toNat) ds = cb := hcb
  rw [hcp] at hc hn2 hscl
  rw [hcb] at ok hw12
  have eG : codeG x ds g = if tv (∃ h ∈ g, badH cb h) = true then 4 else if (400 : Int) < ds.length + (outG x ds g).length then 3 else 0 := by unfold codeG; rw [if_pos k1, k2, hcb]; rfl
  have eO : outG x ds g = dropsL cb.wire.length ++ gathL g := by unfold outG; rw [hcb]
  obtain ⟨hid, sid, gid, bid, nid, w⟩ := d
  have hwi : WireB HTS S2 H2 X w cb.wire := by have := hh1.wire; rw [hcp] at this; exact this
  obtain ⟨aw, cw, hwv⟩ : ∃ aw cw, HD.wv ⟨hid, sid, gid, bid, nid, w⟩ cb.wire.length = .slice aw cb.wire.length cw := by
    cases w with
    | none =>
      have e : cb.wire = [] := hwi
      rw [e]
      exact ⟨none, 0, rfl⟩
    | some iq => exact ⟨_, _, rfl⟩
  have hc : Has3 S2 H2 hid 0 ([.pointer (some ⟨H.n, 0, none⟩)] ++ ([.int .i64 cb.ep, .slice (some ⟨sid, 0, some 7⟩) cb.seats.length cb.seats.length, .int .i64 cb.oe, .slice (some ⟨gid, 0, some 1⟩) cb.got.length cb.got.length, .slice (some ⟨bid, 0, some 1⟩) cb.has.length cb.has.length, .slice (some ⟨nid, 0, some 1⟩) cb.named.length cb.named.length, .slice aw cb.wire.length cw] ++ [])) := by
    have h := hc
    simp only [HD.cells, hwv] at h
    exact h
  simp only at hn1 hn2 hs1_ hs2
  have hnl : cb.named.length = cb.seats.length := ok.nl
  have hsl := ok.sl
  refine KW.lpM rfl rfl (fun s : Nat × Nat => [(1, .slice a ds.length c), (2, .slice a2 g.length c2), (9, .pointer (some ⟨hid, 0, none⟩)), (11, .slice (some ⟨s.2, 0, some 3⟩) s.1 s.1), (12, .int .i64 s.1)]) (fun s => S2) (fun s => H2) (fun s => [(s.2, ⟨83, true, deedC (dropsL s.1)⟩)]) (fun s => s.1 ≤ cb.wire.length) (fun s => cb.wire.length - s.1) ((0, n1)) (Nat.zero_le _) ⟨rfl, rfl, rfl, rfl, rfl, trivial⟩ rfl rfl (rfl) (fun s hi bE n => ?_)
  obtain ⟨i, o⟩ := s
  have hi : i ≤ cb.wire.length := hi
  refine KW.ldF 7 hc rfl rfl rfl rfl rfl rfl rfl rfl rfl ?_
  refine KW.cnd rfl rfl (fun k3 => ?gin) (fun k3 => ?gout)
  case gin =>
    have k3 : (i : Int) < (cb.wire.length : Int) := k3
    refine KW.build rfl rfl rfl rfl rfl (built_Deed1 _) ?_
    refine KW.cnt (fun m hm => ?_)
    refine KW.litS1 rfl rfl rfl rfl rfl rfl rfl rfl rfl rfl rfl rfl ?_
    refine KW.appTS (m := 1) (ys := [.int .i64 5, .int .i64 0, .int .i64 0]) 0 rfl rfl rfl rfl rfl rfl rfl rfl (by decide) rfl (fun H1 g => acells_seg (g.blk (j := 1) rfl).1 (by show 0 + 1 * 3 ≤ 3; decide)) (by show 0 + i * 3 ≤ (deedC (dropsL i)).length; rw [deedC_len]; simp [dropsL]) rfl (by decide) (by show (i + 1) * 24 ≤ _; omega) (by show i + 1 ≤ _; omega) ?_
    have e3 : ((deedC (dropsL i)).drop 0).take (i * 3) ++ [.int .i64 5, .int .i64 0, .int .i64 0] = deedC (dropsL (i + 1)) := by
      rw [drop0_take (by rw [deedC_len]; simp [dropsL])]
      show _ = deedC (List.replicate (i + 1) (5, 0, 0))
      rw [List.replicate_succ', deedC_app]
      rfl
    refine KW.nxt rfl rfl (fun H' g => ⟨(i + 1, m + 1), (by show i + 1 ≤ cb.wire.length; omega), by first | omega | (simp only; omega), ⟨rfl, rfl, rfl, rfl, congrArg (Value.int .i64) (inc64 (by omega)), trivial⟩, (g.take 1).castT (show ([(m + 1, ⟨_, true, _⟩)] : List Var) = [(m + 1, ⟨_, true, _⟩)] from T1c e3)⟩)
  have k3 : ¬ (i : Int) < (cb.wire.length : Int) := k3
  obtain rfl : i = cb.wire.length := by omega
  refine KW.lpM rfl rfl (fun s : Nat × Nat => [(1, .slice a ds.length c), (2, .slice a2 g.length c2), (9, .pointer (some ⟨hid, 0, none⟩)), (11, .slice (some ⟨s.2, 0, some 3⟩) (cb.wire.length + s.1 * 5) (cb.wire.length + s.1 * 5)), (13, .int .i64 s.1)]) (fun s => S2) (fun s => H2) (fun s => [(s.2, ⟨83, true, deedC (dropsL cb.wire.length ++ gathL (g.take s.1))⟩)]) (fun s => s.1 ≤ g.length ∧ ∀ j, j < s.1 → ∀ h, g[j]? = some h → ¬ badH cb h) (fun s => g.length - s.1) ((0, o)) (⟨Nat.zero_le _, fun j h => absurd h (by simp)⟩) ⟨rfl, rfl, rfl, rfl, rfl, trivial⟩ rfl rfl (by simp [gathL]) (fun s hi bE n => ?_)
  obtain ⟨i, o⟩ := s
  obtain ⟨i1, i2⟩ := hi
  simp only at i1 i2
  refine KW.cnd rfl rfl (fun k4 => ?ga) (fun k4 => ?gb)
  case ga =>
    have k4 : (i : Int) < (g.length : Int) := k4
    refine KW.getI hg1 rfl rfl rfl rfl rfl rfl rfl rfl rfl rfl rfl rfl rfl rfl rfl rfl (by omega) (k4) (fun h hh_ => ?_)
    have hgi : g[i]? = some h := hh_
    have hmem := List.mem_of_getElem? hgi
    have hho := rises_in hr hmem
    have hho2 : HoOk x h := ⟨hho.1, by omega⟩
    refine KW.ldF 6 hc rfl rfl rfl rfl rfl rfl rfl rfl rfl ?_
    refine KW.getB ((bool_sl hn1 hn2 rfl (Nat.le_refl _))) rfl rfl rfl rfl rfl rfl rfl rfl rfl rfl rfl rfl rfl rfl rfl rfl (by omega) (by show h < ((cb.named.length : Nat) : Int); omega) (fun b hb => ?_)
    have hb : cb.named[h.toNat]? = some b := hb
    have hbD : cb.named.getD h.toNat false = b := by rw [List.getD_eq_getElem?_getD, hb]; rfl
    have bad4 : badH cb h → codeG x ds g = 4 := fun p => by rw [eG, if_pos (tv_true ⟨h, hmem, p⟩)]
    refine KW.tstB rfl rfl (fun k5 => ?_) (fun k5 => ?_)
    · have k5 : b = true := k5
      have e := bad4 (.inl (hbD.trans k5))
      repeat first | refine KW.tT rfl rfl rfl ?_ | refine KW.tF rfl rfl rfl ?_
      refine KW.cT rfl rfl (by first | (simp; done) | decide) ?_
      rw [e, if_neg (by decide)]
      refine KW.litS0 rfl rfl rfl rfl rfl rfl rfl rfl rfl rfl ?_
      exact KW.retM rfl rfl rfl rfl (fun id hid => st1 id hid) (fun H1 g => MkDC.nil' rfl)
    have k5 : b = false := k5
    obtain ⟨hse, hsok⟩ := ok.seat hho2
    obtain ⟨s, hs_⟩ : ∃ s, cb.seat h = s := ⟨_, rfl⟩
    rw [hs_] at hse hsok
    have hR := hscl.2 _ _ hse
    obtain ⟨ps, qs, hseg, hR1, hR2⟩ := split_Seat hR
    obtain ⟨b1, e1, b2, e2, hps, hR3, hR4⟩ := split_Purse hR1
    obtain ⟨b3, e3, b4, e4, hqs, hR5, hR6⟩ := split_Purse hR2
    have c6 : scs[0 + h.toNat * 7 + 6]? = some (.int .i64 s.2.2) := by
      have hv : (ps ++ (qs ++ [.int .i64 s.2.2]) : List Value)[6]? = some (.int .i64 s.2.2) := by rw [hps, hqs]; rfl
      have := seg_at hseg hv
      rw [Nat.zero_add]; exact this
    refine KW.ldF 2 hc rfl rfl rfl rfl rfl rfl rfl rfl rfl ?_
    refine KW.idx0 rfl rfl rfl rfl rfl rfl rfl rfl rfl (by omega) (by show h < ((cb.seats.length : Nat) : Int); omega) ?_
    refine KW.ldC hs1_ hs2 c6 rfl rfl rfl rfl rfl rfl rfl ?_
    refine KW.cndB rfl rfl (fun k6 => ?_) (fun k6 => ?_)
    · have k6 : s.2.2 ≠ 0 := by simpa using k6
      have e := bad4 (.inr (by rw [hs_]; exact k6))
      rw [e, if_neg (by decide)]
      refine KW.litS0 rfl rfl rfl rfl rfl rfl rfl rfl rfl rfl ?_
      exact KW.retM rfl rfl rfl rfl (fun id hid => st1 id hid) (fun H1 g => MkDC.nil' rfl)
    have k6 : s.2.2 = 0 := by simpa using k6
    have good : ¬ badH cb h := fun p => p.elim (fun p => by rw [hbD, k5] at p; cases p) (fun p => p (by rw [hs_]; exact k6))
    refine KW.build rfl rfl rfl rfl rfl (built_Deed2 _ _) ?_
    refine KW.build rfl rfl rfl rfl rfl (built_Deed1 _) ?_
    refine KW.build rfl rfl rfl rfl rfl (built_Deed2 _ _) ?_
    refine KW.build rfl rfl rfl rfl rfl (built_Deed2 _ _) ?_
    refine KW.build rfl rfl rfl rfl rfl (built_Deed1 _) ?_
    refine KW.cnt (fun m hm => ?_)
    refine KW.litX (deedC (packH h)) rfl rfl rfl rfl rfl rfl rfl rfl (by kernel_rfl) rfl rfl ?_
    have hdl : (deedC (dropsL cb.wire.length ++ gathL (g.take i))).length = (cb.wire.length + i * 5) * 3 := by rw [deedC_len, List.length_append, gathL_len, List.length_take, Nat.min_eq_left i1]; simp [dropsL]
    refine KW.appTS (m := 5) (ys := deedC (packH h)) 0 rfl rfl rfl rfl rfl rfl rfl rfl (by decide) rfl (fun H1 g => acells_seg (g.blk (j := 1) rfl).1 (by show 0 + 5 * 3 ≤ 15; decide)) (by show 0 + (cb.wire.length + i * 5) * 3 ≤ (deedC (dropsL cb.wire.length ++ gathL (g.take i))).length; omega) rfl (by decide) (by show (cb.wire.length + i * 5 + 5) * 24 ≤ _; omega) (by show cb.wire.length + i * 5 + 5 ≤ _; omega) ?_
    have et : g.take (i + 1) = g.take i ++ [h] := by rw [List.take_add_one, hgi]; rfl
    have e3 : ((deedC (dropsL cb.wire.length ++ gathL (g.take i))).drop 0).take ((cb.wire.length + i * 5) * 3) ++ deedC (packH h) = deedC (dropsL cb.wire.length ++ gathL (g.take (i + 1))) := by
      have e1 : gathL [h] = packH h := by simp [gathL]
      rw [drop0_take hdl, et, gathL_app, ← List.append_assoc, e1, ← deedC_app]
    have e4 : cb.wire.length + i * 5 + 5 = cb.wire.length + (i + 1) * 5 := by omega
    have hi1 : i + 1 ≤ g.length := by omega
    refine KW.nxt rfl rfl (fun H' g => ⟨(i + 1, m + 1), ⟨hi1, upto i2 (fun y hy => by rw [hgi] at hy; cases hy; exact good)⟩, by first | omega | (simp only; omega), ⟨rfl, rfl, rfl, congrArg (fun k => Value.slice (some ⟨m + 1, 0, some 3⟩) k k) e4, congrArg (Value.int .i64) (inc64 (by omega)), trivial⟩, (g.take 1).castT (show ([(m + 1, ⟨_, true, _⟩)] : List Var) = [(m + 1, ⟨_, true, _⟩)] from T1c e3)⟩)
  have k4 : ¬ (i : Int) < (g.length : Int) := k4
  obtain rfl : i = g.length := by omega
  have nobad : ¬ ∃ h ∈ g, badH cb h := fun ⟨h, hm, hp⟩ => by
    obtain ⟨j, hj⟩ := List.getElem?_of_mem hm
    exact i2 j (List.getElem?_eq_some_iff.1 hj).1 h hj hp
  have eol : (outG x ds g).length = cb.wire.length + g.length * 5 := by rw [eO, List.length_append, gathL_len]; simp [dropsL]
  have eG : codeG x ds g = if (400 : Int) < ds.length + (outG x ds g).length then 3 else 0 := by rw [eG, tv_false nobad]; rfl
  have ew : IntKind.i64.wrap ((ds.length : Int) + ((cb.wire.length + g.length * 5 : Nat) : Int)) = (ds.length : Int) + (outG x ds g).length := (wr (by omega) (by omega)).trans (by rw [eol])
  refine KW.cnd rfl rfl (fun k7 => ?_) (fun k7 => ?_)
  · have k7 : IntKind.i64.wrap ((ds.length : Int) + ((cb.wire.length + g.length * 5 : Nat) : Int)) > 400 := k7
    rw [ew] at k7
    have e : codeG x ds g = 3 := by rw [eG, if_pos k7]
    rw [e, if_neg (by decide)]
    refine KW.litS0 rfl rfl rfl rfl rfl rfl rfl rfl rfl rfl ?_
    exact KW.retM rfl rfl rfl rfl (fun id hid => st1 id hid) (fun H1 g => MkDC.nil' rfl)
  · have k7 : ¬ IntKind.i64.wrap ((ds.length : Int) + ((cb.wire.length + g.length * 5 : Nat) : Int)) > 400 := k7
    rw [ew] at k7
    have e : codeG x ds g = 0 := by rw [eG, if_neg k7]
    rw [e, if_pos rfl]
    refine KW.retM rfl rfl rfl rfl (fun id hid => st1 id hid) (fun H9 gd => ?_)
    have gv := gd.vars 0 _ rfl
    have hn9 := gd.n_
    have hbk := (gd.blk (j := 0) rfl).1
    rw [List.take_of_length_le (Nat.le_refl _)] at hbk
    have hbk : H9.m o = some ⟨83, true, deedC (outG x ds g)⟩ := by rw [eO]; exact hbk
    have := deeds_ml (W := New H.n H9.n) (l := outG x ds g) ⟨Nat.not_lt.1 fun hlt => gv.2.2 (st1 _ hlt).1, by rw [hn9]; exact gv.2.1⟩ hbk
    refine ⟨_, _, ?_, this⟩
    rw [eol]
    rfl
end
end Go.Proofs.YtijmkfnmdhpakaaGreat.Am
/- The law FnExactGatherDeeds returns true. No condition beyond the reading of the arguments. -/
set_option linter.unusedVariables false
set_option maxRecDepth 20000
set_option maxHeartbeats 4000000
namespace Go.Proofs.YtijmkfnmdhpakaaGreat.Am
open Go Go.RowKit Go.Proofs
section
variable {S : Ids} {H0 : AH}
theorem lawGatherDeeds {ar0 : T_Deal} {ar1 : T_DeedS} {ar2 : List Int} {cs0 : List Value} {p1 : Option Addr} {q1 : Nat} {p2 : Option Addr} {q2 : Nat} (hW0 : W_Deal ar0) (h0 : K_Deal.R S H0 ar0 cs0) (hW1 : W_DeedS ar1) (h1 : K_DeedS.R S H0 ar1 [.slice p1 ar1.length q1]) (hW2 : W_Int64S ar2) (h2 : K_Int64S.R S H0 ar2 [.slice p2 ar2.length q2]) : Spec Tryz.prog S H0 4 [.agg cs0.toArray, .slice p1 ar1.length q1, .slice p2 ar2.length q2] (fun v => v = .bool true) := by
  obtain ⟨p0_0, q0_0, p0_1, q0_1, p0_2, q0_2, p0_3, q0_3, rfl⟩ := form_Deal h0
  refine Spec.of1 Tryz.func4 rfl (by kernel_rfl) rfl (fun H _ => ?_)
  have A0 : Fk K_Deal (Low H.n) (Low H.n) H ar0 _ := ⟨On.R h0, fun _ p => p⟩
  have A1 : Fk K_DeedS (Low H.n) (Low H.n) H ar1 _ := ⟨On.R h1, fun _ p => p⟩
  have A2 : Fk K_Int64S (Low H.n) (Low H.n) H ar2 _ := ⟨On.R h2, fun _ p => p⟩
  refine KW.cnd rfl rfl (fun h => KW.ret rfl rfl rfl rfl rfl) (fun h => ?_)
  have hB2 : B_Int64S ar2 := by show _ ≤ _; omega
  refine KW.call rfl rfl rfl rfl rfl (sz_Deal' (left := 1048576) (by decide) (by decide) hW0 A0.all) (fun v n0 _ hv => ?_)
  obtain ⟨r0, rfl, k0⟩ := hv
  refine KW.cnd rfl rfl (fun h => KW.ret rfl rfl rfl rfl rfl) (fun h => ?_)
  have k0 := k0.resolve_left (by omega)
  have hB0 := k0.2.2
  refine KW.call rfl rfl rfl rfl rfl (sz_DeedS'  k0.1 (by have := k0.2.1; omega) hW1 A1.all) (fun v n1 _ hv => ?_)
  obtain ⟨r1, rfl, k1⟩ := hv
  refine KW.cnd rfl rfl (fun h => KW.ret rfl rfl rfl rfl rfl) (fun h => ?_)
  have k1 := k1.resolve_left (by omega)
  have hB1 := k1.2.2
  obtain ⟨q0r, eq0r⟩ : ∃ q, r0_GatherDeeds ar0 ar1 ar2 = q := ⟨_, rfl⟩
  obtain ⟨q1r, eq1r⟩ : ∃ q, r1_GatherDeeds ar0 ar1 ar2 = q := ⟨_, rfl⟩
  have cspec : ∀ {S1 : Ids} {H1 : AH} {ca0 : List Value} {pa1 : Option Addr} {qa1 : Nat} {pa2 : Option Addr} {qa2 : Nat} (_ : K_Deal.R S1 H1 ar0 ca0) (_ : K_DeedS.R S1 H1 ar1 [.slice pa1 ar1.length qa1]) (_ : K_Int64S.R S1 H1 ar2 [.slice pa2 ar2.length qa2]), SpecM Tryz.prog S1 H1 20 [.agg ca0.toArray, .slice pa1 ar1.length qa1, .slice pa2 ar2.length qa2] (fun n v H2 => ∃ a c, v = .tuple #[.slice a q0r.length c, .int .i64 q1r] ∧ M_DeedS.R (New n H2.n) H2 q0r [.slice a q0r.length c]) := by
    subst eq0r; subst eq1r
    intros
    exact spec_GatherDeeds hB0 hB1 hB2 (by assumption) (by assumption) (by assumption)
  have cimpl : ∀ {S1 : Ids} {H1 : AH} {ca0 : List Value} {pa1 : Option Addr} {qa1 : Nat} {pa2 : Option Addr} {qa2 : Nat} (_ : K_Deal.R S1 H1 ar0 ca0) (_ : K_DeedS.R S1 H1 ar1 [.slice pa1 ar1.length qa1]) (_ : K_Int64S.R S1 H1 ar2 [.slice pa2 ar2.length qa2]), SpecM Tryz.prog S1 H1 22 [.agg ca0.toArray, .slice pa1 ar1.length qa1, .slice pa2 ar2.length qa2] (fun n v H2 => ∃ a c, v = .tuple #[.slice a q0r.length c, .int .i64 q1r] ∧ M_DeedS.R (New n H2.n) H2 q0r [.slice a q0r.length c]) := by
    subst eq0r; subst eq1r
    intros
    exact impl_GatherDeeds hB0 hB1 hB2 (by assumption) (by assumption) (by assumption)
  have hBr : B_DeedS q0r := by subst eq0r; exact bound_GatherDeeds hB0 hB1 hB2
  refine KW.callN1 rfl rfl rfl rfl rfl (to_Deal hB0 A0.all) (fun v Hb0 Sb0 mb0 _ _ hv => ?_)
  obtain ⟨wb0, rfl, b0⟩ := hv
  obtain ⟨b0_0, b0c_0, b0_1, b0c_1, b0_2, b0c_2, b0_3, b0c_3, rfl⟩ := formM_Deal b0
  refine KW.callN1 rfl rfl rfl rfl rfl (to_DeedS hB1 A1.all) (fun v Hb1 Sb1 mb1 _ _ hv => ?_)
  obtain ⟨b1_0, b1c_0, rfl, b1⟩ := hv
  refine KW.callN1 rfl rfl rfl rfl rfl (to_Int64S hB2 A2.all) (fun v Hb2 Sb2 mb2 _ _ hv => ?_)
  obtain ⟨b2_0, b2c_0, rfl, b2⟩ := hv
  refine KW.callN1 rfl rfl rfl rfl rfl (cspec ((le_Deal).2 _ _ _ _ (On.R b0)) ((le_DeedS).2 _ _ _ _ (On.R b1)) ((le_Int64S).2 _ _ _ _ (On.R b2))) (fun v Hw Sw mw _ _ hv => ?_)
  obtain ⟨w_0, wc_0, rfl, w⟩ := hv
  refine KW.callN1 rfl rfl rfl rfl rfl (to_Deal hB0 A0.all) (fun v Hx0 Sx0 mx0 _ _ hv => ?_)
  obtain ⟨wx0, rfl, x0⟩ := hv
  obtain ⟨x0_0, x0c_0, x0_1, x0c_1, x0_2, x0c_2, x0_3, x0c_3, rfl⟩ := formM_Deal x0
  refine KW.callN1 rfl rfl rfl rfl rfl (to_DeedS hB1 A1.all) (fun v Hx1 Sx1 mx1 _ _ hv => ?_)
  obtain ⟨x1_0, x1c_0, rfl, x1⟩ := hv
  refine KW.callN1 rfl rfl rfl rfl rfl (to_Int64S hB2 A2.all) (fun v Hx2 Sx2 mx2 _ _ hv => ?_)
  obtain ⟨x2_0, x2c_0, rfl, x2⟩ := hv
  refine KW.callN1 rfl rfl rfl rfl rfl (cimpl ((le_Deal).2 _ _ _ _ (On.R x0)) ((le_DeedS).2 _ _ _ _ (On.R x1)) ((le_Int64S).2 _ _ _ _ (On.R x2))) (fun v Hg Sg mg _ _ hv => ?_)
  obtain ⟨g_0, gc_0, rfl, g⟩ := hv
  refine KW.callE rfl rfl rfl rfl rfl (eq_DeedS hBr ((le_DeedS).2 _ _ _ _ (On.R g)) ((le_DeedS).2 _ _ _ _ (On.R w))) (fun _ _ => ?_)
  refine KW.tF rfl rfl (by first | (simp; done) | decide) ?_
  refine KW.cF rfl rfl (by first | (simp; done) | decide) ?_
  refine KW.callN1 rfl rfl rfl rfl rfl (to_Deal hB0 A0.all) (fun v Hy0 Sy0 my0 _ _ hv => ?_)
  obtain ⟨wy0, rfl, y0⟩ := hv
  obtain ⟨y0_0, y0c_0, y0_1, y0c_1, y0_2, y0c_2, y0_3, y0c_3, rfl⟩ := formM_Deal y0
  refine KW.callE rfl rfl rfl rfl rfl (eq_Deal hB0 ((le_Deal).2 _ _ _ _ (On.R x0)) ((le_Deal).2 _ _ _ _ (On.R y0))) (fun _ _ => ?_)
  refine KW.cF rfl rfl (by first | (simp; done) | decide) ?_
  refine KW.callN1 rfl rfl rfl rfl rfl (to_DeedS hB1 A1.all) (fun v Hy1 Sy1 my1 _ _ hv => ?_)
  obtain ⟨y1_0, y1c_0, rfl, y1⟩ := hv
  refine KW.callE rfl rfl rfl rfl rfl (eq_DeedS hB1 ((le_DeedS).2 _ _ _ _ (On.R x1)) ((le_DeedS).2 _ _ _ _ (On.R y1))) (fun _ _ => ?_)
  refine KW.cF rfl rfl (by first | (simp; done) | decide) ?_
  refine KW.callN1 rfl rfl rfl rfl rfl (to_Int64S hB2 A2.all) (fun v Hy2 Sy2 my2 _ _ hv => ?_)
  obtain ⟨y2_0, y2c_0, rfl, y2⟩ := hv
  refine KW.callE rfl rfl rfl rfl rfl (eq_Int64S hB2 ((le_Int64S).2 _ _ _ _ (On.R x2)) ((le_Int64S).2 _ _ _ _ (On.R y2))) (fun _ _ => ?_)
  refine KW.cF rfl rfl (by first | (simp; done) | decide) ?_
  have A0 : Fk _ _ Sy2 Hy2 _ _ := A0.up
  have A1 : Fk _ _ Sy2 Hy2 _ _ := A1.up
  have A2 : Fk _ _ Sy2 Hy2 _ _ := A2.up
  have X0 : Fk _ _ Sy2 Hy2 _ _ := Fk.on x0
  have X1 : Fk _ _ Sy2 Hy2 _ _ := Fk.on x1
  have X2 : Fk _ _ Sy2 Hy2 _ _ := Fk.on x2
  have W : Fk _ _ Sy2 Hy2 _ _ := Fk.on w
  have G : Fk _ _ Sy2 Hy2 _ _ := Fk.on g
  have T : St (Low H.n) H Sy2 Hy2 := (inferInstance : On (Low H.n) H Sy2 Hy2).st
  refine KW.callW X0.i rfl rfl rfl rfl rfl (mark_Deal hB0 (k := 1) (by have := size_Deal hB0;  constructor <;> omega) X0.i X0.r) (fun v Hk0 Sk0 mk0 tk0 _ hv => ?_)
  obtain ⟨rfl, _⟩ := hv
  have A0 := A0.w tk0 (fun id p q => by have : id < H.n := p; have := q.1; have := q.2; omega)
  have A1 := A1.w tk0 (fun id p q => by have : id < H.n := p; have := q.1; have := q.2; omega)
  have A2 := A2.w tk0 (fun id p q => by have : id < H.n := p; have := q.1; have := q.2; omega)
  have X1 := X1.w tk0 (fun id p q => by have := p.1; have := p.2; have := q.1; have := q.2; omega)
  have X2 := X2.w tk0 (fun id p q => by have := p.1; have := p.2; have := q.1; have := q.2; omega)
  have W := W.w tk0 (fun id p q => by have := p.1; have := p.2; have := q.1; have := q.2; omega)
  have G := G.w tk0 (fun id p q => by have := p.1; have := p.2; have := q.1; have := q.2; omega)
  have T := tk0.low T (fun id p q => by have := q.1; omega)
  refine KW.callW X1.i rfl rfl rfl rfl rfl (mark_DeedS hB1 (k := 1 + (sz_Deal ar0 : Nat)) (by have := size_DeedS hB1; have := size_Deal hB0; constructor <;> omega) X1.i X1.r) (fun v Hk1 Sk1 mk1 tk1 _ hv => ?_)
  obtain ⟨rfl, _⟩ := hv
  have A0 := A0.w tk1 (fun id p q => by have : id < H.n := p; have := q.1; have := q.2; omega)
  have A1 := A1.w tk1 (fun id p q => by have : id < H.n := p; have := q.1; have := q.2; omega)
  have A2 := A2.w tk1 (fun id p q => by have : id < H.n := p; have := q.1; have := q.2; omega)
  have X2 := X2.w tk1 (fun id p q => by have := p.1; have := p.2; have := q.1; have := q.2; omega)
  have W := W.w tk1 (fun id p q => by have := p.1; have := p.2; have := q.1; have := q.2; omega)
  have G := G.w tk1 (fun id p q => by have := p.1; have := p.2; have := q.1; have := q.2; omega)
  have T := tk1.low T (fun id p q => by have := q.1; omega)
  refine KW.callW X2.i rfl rfl rfl rfl rfl (mark_Int64S hB2 (k := 1 + (sz_Deal ar0 : Nat) + (sz_DeedS ar1 : Nat)) (by have := size_Int64S hB2; have := size_Deal hB0; have := size_DeedS hB1; constructor <;> omega) X2.i X2.r) (fun v Hk2 Sk2 mk2 tk2 _ hv => ?_)
  obtain ⟨rfl, _⟩ := hv
  have A0 := A0.w tk2 (fun id p q => by have : id < H.n := p; have := q.1; have := q.2; omega)
  have A1 := A1.w tk2 (fun id p q => by have : id < H.n := p; have := q.1; have := q.2; omega)
  have A2 := A2.w tk2 (fun id p q => by have : id < H.n := p; have := q.1; have := q.2; omega)
  have W := W.w tk2 (fun id p q => by have := p.1; have := p.2; have := q.1; have := q.2; omega)
  have G := G.w tk2 (fun id p q => by have := p.1; have := p.2; have := q.1; have := q.2; omega)
  have T := tk2.low T (fun id p q => by have := q.1; omega)
  refine KW.tno rfl rfl (by omega) ?_
  refine KW.callE rfl rfl rfl rfl rfl (eq_DeedS hBr ((le_DeedS).2 _ _ _ _ G.all) ((le_DeedS).2 _ _ _ _ W.all)) (fun _ _ => ?_)
  refine KW.tF rfl rfl (by first | (simp; done) | decide) ?_
  refine KW.cF rfl rfl (by first | (simp; done) | decide) ?_
  refine KW.callW G.i rfl rfl rfl rfl rfl (mark_DeedS hBr (k := 1) (by have := size_DeedS hBr; constructor <;> omega) G.i G.r) (fun v HM SM mM tM _ hv => ?_)
  obtain ⟨rfl, G1⟩ := hv
  have A0 := A0.w tM (fun id p q => by have : id < H.n := p; have := q.1; have := q.2; omega)
  have A1 := A1.w tM (fun id p q => by have : id < H.n := p; have := q.1; have := q.2; omega)
  have A2 := A2.w tM (fun id p q => by have : id < H.n := p; have := q.1; have := q.2; omega)
  have W := W.w tM (fun id p q => by have := p.1; have := p.2; have := q.1; have := q.2; omega)
  have T := tM.low T (fun id p q => by have := q.1; omega)
  have G1 : Fk _ _ SM HM _ _ := ⟨G1, fun id p => (tM id (G.i id p)).1⟩
  refine KW.callE rfl rfl rfl rfl rfl (held_DeedS' hBr (k := 1) (by have := size_DeedS hBr; constructor <;> omega) ((le_DeedS).2 _ _ _ _ G1.all)) (fun _ _ => ?_)
  refine KW.no rfl rfl (by omega) ?_
  refine KW.cF rfl rfl (by first | (simp; done) | decide) ?_
  refine KW.callN1 rfl rfl rfl rfl rfl (to_Deal hB0 A0.all) (fun v Hu0 Su0 mu0 _ _ hv => ?_)
  obtain ⟨wu0, rfl, u0⟩ := hv
  obtain ⟨u0_0, u0c_0, u0_1, u0c_1, u0_2, u0c_2, u0_3, u0c_3, rfl⟩ := formM_Deal u0
  refine KW.callN1 rfl rfl rfl rfl rfl (to_DeedS hB1 A1.all) (fun v Hu1 Su1 mu1 _ _ hv => ?_)
  obtain ⟨u1_0, u1c_0, rfl, u1⟩ := hv
  refine KW.callN1 rfl rfl rfl rfl rfl (to_Int64S hB2 A2.all) (fun v Hu2 Su2 mu2 _ _ hv => ?_)
  obtain ⟨u2_0, u2c_0, rfl, u2⟩ := hv
  refine KW.callN1 rfl rfl rfl rfl rfl (cimpl ((le_Deal).2 _ _ _ _ (On.R u0)) ((le_DeedS).2 _ _ _ _ (On.R u1)) ((le_Int64S).2 _ _ _ _ (On.R u2))) (fun v Hh Sh mh _ _ hv => ?_)
  obtain ⟨h_0, hc_0, rfl, h⟩ := hv
  refine KW.callE rfl rfl rfl rfl rfl (eq_DeedS hBr ((le_DeedS).2 _ _ _ _ (On.R h)) ((le_DeedS).2 _ _ _ _ W.all)) (fun _ _ => ?_)
  refine KW.tF rfl rfl (by first | (simp; done) | decide) ?_
  refine KW.cF rfl rfl (by first | (simp; done) | decide) ?_
  refine KW.callE rfl rfl rfl rfl rfl (held_DeedS' hBr (k := 1) (by have := size_DeedS hBr; constructor <;> omega) ((le_DeedS).2 _ _ _ _ G1.all)) (fun _ _ => ?_)
  refine KW.no rfl rfl (by omega) ?_
  refine KW.cF rfl rfl (by first | (simp; done) | decide) ?_
  exact KW.retM rfl rfl rfl rfl (fun id hid => (T.trans (inferInstance : On SM HM _ _).st) id hid) (fun H1 g => rfl)
end
end Go.Proofs.YtijmkfnmdhpakaaGreat.Am
/- A row's closed facts, each by itself. No condition beyond them. -/
namespace Go.Proofs.YtijmkfnmdhpakaaGreat.Am
open Go
theorem joined_of {P : Program} {f : FuncId} {fn : Func} {s : ChangeSpec} {c : OpenClaim}
    (h0 : (c.wf (OpenSpec.ofChange s)) = true)
    (h1 : (laidOutB P) = true)
    (h2 : (mapsRowed P) = true)
    (h3 : (fn.params.all (P.readableRec ·)) = true)
    (h4 : (namedTie P c.named s.vars) = true)
    (h5 : ((c.stops == [])) = true)
    (h6 : ((P.stops == [])) = true)
    (h7 : ((c.knobs == [])) = true)
    (h8 : ((P.stopKnobs == [])) = true)
    (h9 : ((c.inPlace == P.inPlace f)) = true)
    (h10 : ((c.unfollowed == P.unfollowed f)) = true)
    (h11 : ((c.recurses == P.recurses f)) = true)
    (h12 : ((c.named == P.varsNamed f)) = true)
    (h13 : ((c.maps == (fn.params.toList ++ s.plain.varTypes P).any (P.mapsRec ·))) = true)
    (h14 : ((c.ifaces == (fn.params.toList ++ s.plain.varTypes P).any (P.ifacesRec ·))) = true)
    (h15 : ((c.mapsOut == P.mapsAmong fn.resultTypes.toList)) = true)
    (h16 : ((c.loops == (fn.params.toList ++ s.plain.varTypes P).any (P.loopsFrom ·))) = true)
    (h17 : ((c.wideKeys == (fn.params.toList ++ s.plain.varTypes P ++ fn.resultTypes.toList).any (P.wideKeysFrom ·))) = true)
    (h18 : (s.vars.all (P.varReadable ·)) = true)
    (h19 : (fn.resultTypes.all (fun t => P.readableRec t && decide (t < P.types.size))) = true)
    (h20 : ((c.ifacesOut == fn.resultTypes.toList.any (P.ifacesRec ·))) = true)
    (h21 : ((c.loopsOut == fn.resultTypes.toList.any (P.loopsFrom ·))) = true)
    (h22 : ((c.plainKeys == P.plainKeys)) = true)
    (h23 : (c.shortTexts.isNone) = true)
    (h24 : (P.stopsHeard) = true)
    (h25 : (P.mayEnter) = true)
    (h26 : ((c.lifted == P.liftsFinal)) = true)
    (h27 : ((P.make == some c.make)) = true)
    (h28 : ((c.kinds == (if c.domain.isEmpty then [] else fn.params.toList.map fun t => match P.underlying t with | some (.int k) => some k | _ => none))) = true)
    (h29 : ((c.pinned == c.pinnedBy)) = true)
    (h30 : ((c.veiled == (fn.params.toList ++ s.plain.varTypes P ++ fn.resultTypes.toList).any (P.veiledRec ·))) = true)
    (h31 : (c.veiledFits P fn.params.toList (fn.params.toList ++ s.plain.varTypes P ++ fn.resultTypes.toList)) = true)
    : joinedFacts P f fn s c = true := by
  unfold joinedFacts
  simp only [Bool.and_eq_true]
  exact ⟨⟨⟨⟨⟨⟨⟨⟨⟨⟨⟨⟨⟨⟨⟨⟨⟨⟨⟨⟨⟨⟨⟨⟨⟨⟨⟨⟨⟨⟨⟨h0, h1⟩, h2⟩, h3⟩, h4⟩, h5⟩, h6⟩, h7⟩, h8⟩, h9⟩, h10⟩, h11⟩, h12⟩, h13⟩, h14⟩, h15⟩, h16⟩, h17⟩, h18⟩, h19⟩, h20⟩, h21⟩, h22⟩, h23⟩, h24⟩, h25⟩, h26⟩, h27⟩, h28⟩, h29⟩, h30⟩, h31⟩
end Go.Proofs.YtijmkfnmdhpakaaGreat.Am
