/- Contracts and laws on abstract memory, merged. Each holds under its own conditions. -/
import Derived.Test.YtijmkfnmdhpakaaGreatPCeremonyAfter02
/- A variable's block of whole numbers or truth values, read and written by its list. For every program. No condition beyond each theorem's own. -/
set_option linter.unusedSimpArgs false
set_option linter.unusedVariables false
namespace Go.Proofs.YtijmkfnmdhpakaaGreat.Am
open Go Go.RowKit
theorem mapI_at {ik : IntKind} {F : List Int} {i : Nat} (h : i < F.length) : (F.map (Value.int ik))[i]? = some (.int ik (F.getD i 0)) := by
  rw [List.getElem?_map, List.getElem?_eq_getElem h, List.getD_eq_getElem?_getD, List.getElem?_eq_getElem h]; rfl
theorem mapB_at {F : List Bool} {i : Nat} (h : i < F.length) : (F.map Value.bool)[i]? = some (.bool (F.getD i false)) := by
  rw [List.getElem?_map, List.getElem?_eq_getElem h, List.getD_eq_getElem?_getD, List.getElem?_eq_getElem h]; rfl
section
variable {P : Program} {S : Ids} {H0 : AH} {Q : PostC} {k k1 : List It} {e e1 : Env} {T T1 : List Var} {n n1 : Nat} {l1 r1 : List Nat} {d1 : Tmp}
theorem KW.ldI {o : Oper} {dr : Bool} {t : TypeId} {x : Operand} {id kk : Nat} {sp : Option Nat} {ty : TypeId} {rw_ : Bool} {ik : IntKind} {F : List Int} {td : TypeDesc} (j i : Nat) (h : Go1 P k e T n (.op o dr) k1 e1 T1 n1 l1 r1) (hlr : l1 = r1) (ho : o.op = .load t x) (hd : o.dst = some d1) (hx : ev e1 x = .pointer (some ⟨id, kk, sp⟩)) (hT : T1[j]? = some (id, ⟨ty, rw_, F.map (Value.int ik)⟩))
    (hu : P.underlying t = some td) (hnot : (match td with | .struct _ => false | .array _ _ => false | _ => true) = true) (hkk : kk = i) (hi : i < F.length) (hk : KW P S H0 Q n1 T1 k1 (put1 e1 d1 (.int ik (F.getD i 0)))) : KW P S H0 Q n T k e :=
  KW.ldT j h hlr ho hd hx hT (bload_at (by subst hkk; exact mapI_at hi) hu hnot) hk
theorem KW.stI {o : Oper} {dr : Bool} {t : TypeId} {x y : Operand} {inf : TypeInfo} {id kk : Nat} {sp : Option Nat} {ty : TypeId} {ik : IntKind} {F : List Int} {z : Int} (j i : Nat) (h : Go1 P k e T n (.op o dr) k1 e1 T1 n1 l1 r1) (hlr : l1 = r1) (ho : o.op = .store t x y) (hd : o.dst = none) (hx : ev e1 x = .pointer (some ⟨id, kk, sp⟩)) (hT : T1[j]? = some (id, ⟨ty, true, F.map (Value.int ik)⟩))
    (hy : ev e1 y = .int ik z) (hi : P.info? t = some inf) (hs : inf.size = 1) (hkk : kk = i) (hlt : i < F.length)
    (hk : KW P S H0 Q n1 (T1.set j (id, ⟨ty, true, (F.set i z).map (Value.int ik)⟩)) k1 e1) : KW P S H0 Q n T k e :=
  KW.st1 j h hlr ho hd hx hT hy hi hs rfl rfl rfl (by subst hkk; simpa using hlt) (by subst hkk; rw [← List.map_set]; exact hk)
theorem KW.ldB {o : Oper} {dr : Bool} {t : TypeId} {x : Operand} {id kk : Nat} {sp : Option Nat} {ty : TypeId} {rw_ : Bool} {F : List Bool} {td : TypeDesc} (j i : Nat) (h : Go1 P k e T n (.op o dr) k1 e1 T1 n1 l1 r1) (hlr : l1 = r1) (ho : o.op = .load t x) (hd : o.dst = some d1) (hx : ev e1 x = .pointer (some ⟨id, kk, sp⟩)) (hT : T1[j]? = some (id, ⟨ty, rw_, F.map Value.bool⟩))
    (hu : P.underlying t = some td) (hnot : (match td with | .struct _ => false | .array _ _ => false | _ => true) = true) (hkk : kk = i) (hi : i < F.length) (hk : KW P S H0 Q n1 T1 k1 (put1 e1 d1 (.bool (F.getD i false)))) : KW P S H0 Q n T k e :=
  KW.ldT j h hlr ho hd hx hT (bload_at (by subst hkk; exact mapB_at hi) hu hnot) hk
theorem KW.stBo {o : Oper} {dr : Bool} {t : TypeId} {x y : Operand} {inf : TypeInfo} {id kk : Nat} {sp : Option Nat} {ty : TypeId} {F : List Bool} {z : Bool} (j i : Nat) (h : Go1 P k e T n (.op o dr) k1 e1 T1 n1 l1 r1) (hlr : l1 = r1) (ho : o.op = .store t x y) (hd : o.dst = none) (hx : ev e1 x = .pointer (some ⟨id, kk, sp⟩)) (hT : T1[j]? = some (id, ⟨ty, true, F.map Value.bool⟩))
    (hy : ev e1 y = .bool z) (hi : P.info? t = some inf) (hs : inf.size = 1) (hkk : kk = i) (hlt : i < F.length)
    (hk : KW P S H0 Q n1 (T1.set j (id, ⟨ty, true, (F.set i z).map Value.bool⟩)) k1 e1) : KW P S H0 Q n T k e :=
  KW.st1 j h hlr ho hd hx hT hy hi hs rfl rfl rfl (by subst hkk; simpa using hlt) (by subst hkk; rw [← List.map_set]; exact hk)
/-- The address of an element of a frozen slice. -/
theorem KW.adS {α : Type} {d : Kn α} {xs : List α} {o : Oper} {dr : Bool} {t el : TypeId} {x i : Operand} {inf : TypeInfo} {s : Value} {kk : IntKind} {j : Int} (hs : d.Sl S H0 s xs) (h : Go1 P k e T n (.op o dr) k1 e1 T1 n1 l1 r1) (hlr : l1 = r1) (ho : o.op = .indexAddr t x i) (hd : o.dst = some d1) (hx : ev e1 x = s) (hj : ev e1 i = .int kk j) (hu : P.underlying t = some (.slice el)) (hi : P.info? el = some inf) (he : inf.size = d.es) (h0 : 0 ≤ j) (h1 : j < xs.length)
    (hk : ∀ y cs id q, xs[j.toNat]? = some y → d.R S H0 y cs → Has3 S H0 id q cs → KW P S H0 Q n1 T1 k1 (put1 e1 d1 (.pointer (some ⟨id, q, none⟩)))) : KW P S H0 Q n T k e := by
  obtain ⟨id, off, c, b, y, e1_, e2, e3, e4, e5, e6⟩ := hs.at_ h0 h1
  refine KW.go h hlr (KEvt.idx (c := ⟨_, _, _, _, _, _⟩) ho hs h0 h1 hu hi he hx hj ?_)
  rw [hd, put1_eq]
  subst e1_
  exact hk y _ id (off + j.toNat * d.es) e4 e6 ⟨e3, b, e2, fun q v hq => seg_at rfl hq⟩
end
end Go.Proofs.YtijmkfnmdhpakaaGreat.Am
/- What the laws' own functions do at slices of Deed: marks. Each holds under its own conditions. -/
set_option linter.unusedVariables false
set_option maxRecDepth 20000
namespace Go.Proofs.YtijmkfnmdhpakaaGreat.Am
open Go Go.RowKit Go.Proofs
section
variable {S : Ids} {H0 : AH} {W : Ids} {a a' : Option Addr} {c c' : Nat} {left k : Int}
theorem mark_DeedS {x : List T_Deed} (hB : B_DeedS x) (hk : Mk k (sz_DeedS x)) (hW : ∀ id, W id → S id) (hs : M_DeedS.R W H0 x [.slice a x.length c]) : SpecW Tryz.prog S H0 W 17 [.slice a x.length c, .int .i64 k] (fun n v H1 => v = .int .i64 (k + (sz_DeedS x : Nat)) ∧ M_DeedS.R W H1 (mk_DeedS k x) [.slice a x.length c]) := by
  have hs := ml1 hs
  have hl := hB.len
  have hk1 := hk.1
  have hk2 : k + (sum (x.map szE_Deed) : Nat) ≤ 274877906944 := hk.2
  rcases hs with ⟨rfl, a0, c0, he, ha⟩ | ⟨o, c1, bb, Ws, he, h2, h3, h4, h5, h6, h7, h8, h9⟩
  · refine SpecM.w ?_
    refine SpecM.of Tryz.func17 rfl (by kernel_rfl) rfl (fun H hfin hfz => ?_)
    refine KW.lp rfl rfl (fun _ : Unit => [(0, .slice a 0 c), (1, .int .i64 k), (5, .int .i64 0)]) (fun _ => True) (fun _ => 0) () trivial ⟨rfl, rfl, rfl, trivial⟩ (fun _ _ b n => ?_)
    refine KW.cF rfl rfl (by decide) ?_
    exact KW.retM rfl rfl rfl rfl (fun id hid => ⟨hid, rfl⟩) (fun H1 g => ⟨congrArg (Value.int .i64) (by simp [sz_DeedS, sum]), ml1' (.inl ⟨rfl, a, c, rfl, by cases he; exact ha⟩)⟩)
  · cases he
    refine SpecW.of0 Tryz.func17 rfl (by kernel_rfl) rfl (fun H hfin hfz => ?_)
    obtain ⟨ho1, ho2⟩ := hfz o (hW o h3)
    have hWl : ∀ id, W id → id < H.n := fun id hid => (hfz id (hW id hid)).1
    have h4 := ho2.trans h4
    obtain ⟨ty, rw_, cs0⟩ := bb
    obtain rfl : rw_ = true := h5
    have h6 : x.length * 3 ≤ cs0.length := h6
    refine KW.thaw o ⟨ty, true, cs0⟩ ho1 h4 ?_
    refine KW.lpM rfl rfl (fun s : Nat × Ids × AH × List Value => [(0, .slice (some ⟨o, 0, some 3⟩) x.length c), (1, .int .i64 (k + (sum ((x.map szE_Deed).take s.1) : Nat))), (5, .int .i64 s.1)]) (fun s => s.2.1) (fun s => s.2.2.1) (fun s => [(o, ⟨ty, true, s.2.2.2⟩)])
      (fun s => s.1 ≤ x.length ∧ (∀ id, id < H.n → id ≠ o → s.2.1 id) ∧ (∀ id, id < H.n → id ≠ o → (∀ j, ¬ Ws j id) → s.2.2.1.m id = H.m id) ∧ MkRow M_Deed mkE_Deed szE_Deed x k Ws cs0.length s.1 s.2.2.1 s.2.2.2)
      (fun s => x.length - s.1) (0, fun id => Low H.n id ∧ id ≠ o, H, cs0) ⟨by omega, fun id h1 h2 => ⟨h1, h2⟩, fun id _ _ _ => rfl, rfl, fun j y hx' => ⟨fun _ => (M_Deed).same (fun id hid => (hfz id (hW id (h7 j id hid).1)).2) (h9 j y hx'), fun h => absurd h (by simp)⟩⟩ ⟨rfl, congrArg (Value.int .i64) (by simp [sum]), rfl, trivial⟩ rfl rfl rfl (fun s hi b n => ?_)
    obtain ⟨i, S1, A, cs⟩ := s
    obtain ⟨hi0, hi1, hi2, hi3⟩ := hi
    simp only at hi0 hi1 hi2 hi3
    refine KW.cnd rfl rfl (fun h => ?_) (fun h => ?_)
    · have hil : i < x.length := by omega
      obtain ⟨y, hy⟩ : ∃ y, x[i]? = some y := ⟨x[i], List.getElem?_eq_getElem hil⟩
      have hBy := hB.each y (List.mem_of_getElem? hy)
      have hrow := (hi3.row i y hy).1 (Nat.le_refl _)
      have hyl : (x.map szE_Deed)[i]? = some (szE_Deed y) := by simp [hy]
      have hsum := sum_take hyl
      have hsl := sum_le (l := x.map szE_Deed) (i + 1)
      have hcl := hi3.len
      have hsv := formM_Deed hrow
      have c_0 := seg_at (q := 0) hsv rfl
      have c_1 := seg_at (q := 1) hsv rfl
      have c_2 := seg_at (q := 2) hsv rfl
      have hsz : szE_Deed y = 1 + 1 + 1 := rfl
      have T : ∀ id, id < H.n → id ≠ o → S1 id ∧ ((¬ Ws i id) → A.m id = A.m id) := fun id h1 h2 => ⟨hi1 id h1 h2, fun _ => rfl⟩
      have w_0 : (k + (sum ((x.map szE_Deed).take i) : Nat)) = (k + (sum ((x.map szE_Deed).take i) : Nat)) := rfl
      have w_1 : IntKind.i64.wrap ((k + (sum ((x.map szE_Deed).take i) : Nat)) + 1) = ((k + (sum ((x.map szE_Deed).take i) : Nat)) + ((1 : Nat) : Int)) := (wr (by omega) (by omega)).trans (by omega)
      have w_2 : IntKind.i64.wrap (IntKind.i64.wrap ((k + (sum ((x.map szE_Deed).take i) : Nat)) + 1) + 1) = ((k + (sum ((x.map szE_Deed).take i) : Nat)) + ((1 + 1 : Nat) : Int)) := by
        rw [w_1]
        exact (wr (by omega) (by omega)).trans (by omega)
      have w_3 : IntKind.i64.wrap (IntKind.i64.wrap (IntKind.i64.wrap ((k + (sum ((x.map szE_Deed).take i) : Nat)) + 1) + 1) + 1) = ((k + (sum ((x.map szE_Deed).take i) : Nat)) + ((1 + 1 + 1 : Nat) : Int)) := by
        rw [w_2]
        exact (wr (by omega) (by omega)).trans (by omega)
      refine KW.idx0 rfl rfl rfl rfl rfl rfl rfl rfl rfl (by omega) (by omega) ?_
      refine KW.st1 0 rfl rfl rfl rfl rfl rfl rfl rfl rfl rfl rfl rfl (lt_of c_0) ?_
      refine KW.idx0 rfl rfl rfl rfl rfl rfl rfl rfl rfl (by omega) (by omega) ?_
      refine KW.st1 0 rfl rfl rfl rfl rfl rfl rfl rfl rfl rfl rfl rfl (lt_of (set_ne c_1 (by show 0 + i * 3 + 0 ≠ 0 + i * 3 + 1; omega))) ?_
      refine KW.idx0 rfl rfl rfl rfl rfl rfl rfl rfl rfl (by omega) (by omega) ?_
      refine KW.st1 0 rfl rfl rfl rfl rfl rfl rfl rfl rfl rfl rfl rfl (lt_of (set_ne (set_ne c_2 (by show 0 + i * 3 + 0 ≠ 0 + i * 3 + 2; omega)) (by show 0 + i * 3 + 1 ≠ 0 + i * 3 + 2; omega))) ?_
      refine KW.nxt rfl rfl (fun H' g => ⟨(i + 1, S1, A, ((cs.set (0 + i * 3 + 0) (Value.int .i64 (k + (sum ((x.map szE_Deed).take i) : Nat)))).set (0 + i * 3 + 1) (Value.int .i64 (IntKind.i64.wrap ((k + (sum ((x.map szE_Deed).take i) : Nat)) + 1)))).set (0 + i * 3 + 2) (Value.int .i64 (IntKind.i64.wrap (IntKind.i64.wrap ((k + (sum ((x.map szE_Deed).take i) : Nat)) + 1) + 1)))), ⟨by simp only; omega, fun id h1 h2 => (T id h1 h2).1, fun id h1 h2 hno => ((T id h1 h2).2 (hno i)).trans (hi2 id h1 h2 hno), hi3.next hy (by simp) (fun j hj => ?_) (fun j hj id hid => (T id (hWl id (h7 j id hid).1) (h7 j id hid).2).2 (fun hc => hj (h8 j i id hid hc))) ?_⟩, by simp only; omega, ⟨rfl, congrArg (Value.int .i64) ?_, congrArg (Value.int .i64) (inc64 (by omega)), trivial⟩, g⟩)
      · show List.take 3 (List.drop (0 + j * 3) _) = List.take 3 (List.drop (0 + j * 3) _)
        rcases Nat.lt_or_ge j i with hlt | hge
        · rw [seg_set (by right; show 0 + j * 3 + 3 ≤ 0 + i * 3 + 2; omega)]; rw [seg_set (by right; show 0 + j * 3 + 3 ≤ 0 + i * 3 + 1; omega)]; rw [seg_set (by right; show 0 + j * 3 + 3 ≤ 0 + i * 3 + 0; omega)]
        · have : i < j := by omega
          rw [seg_set (by left; show 0 + i * 3 + 2 < 0 + j * 3; omega)]; rw [seg_set (by left; show 0 + i * 3 + 1 < 0 + j * 3; omega)]; rw [seg_set (by left; show 0 + i * 3 + 0 < 0 + j * 3; omega)]
      · have e : ∀ (l : List Value), (l.drop (0 + i * 3)).take 3 = [.int .i64 (k + (sum ((x.map szE_Deed).take i) : Nat)), .int .i64 ((k + (sum ((x.map szE_Deed).take i) : Nat)) + ((1 : Nat) : Int)), .int .i64 ((k + (sum ((x.map szE_Deed).take i) : Nat)) + ((1 + 1 : Nat) : Int))] → (M_Deed).R (Ws i) A (mkE_Deed (k + (sum ((x.map szE_Deed).take i) : Nat)) y) ((l.drop (0 + i * 3)).take 3) := fun l hl => by
          rw [hl]
          have z1 : (KI).R None_ A ((k + (sum ((x.map szE_Deed).take i) : Nat)) + ((1 + 1 : Nat) : Int)) [.int .i64 ((k + (sum ((x.map szE_Deed).take i) : Nat)) + ((1 + 1 : Nat) : Int))] := (show KI.R None_ A _ [.int .i64 ((k + (sum ((x.map szE_Deed).take i) : Nat)) + ((1 + 1 : Nat) : Int))] from rfl)
          have z2 : (Kn.mp (KI) (KI)).R None_ A (((k + (sum ((x.map szE_Deed).take i) : Nat)) + ((1 : Nat) : Int)), ((k + (sum ((x.map szE_Deed).take i) : Nat)) + ((1 + 1 : Nat) : Int))) [.int .i64 ((k + (sum ((x.map szE_Deed).take i) : Nat)) + ((1 : Nat) : Int)), .int .i64 ((k + (sum ((x.map szE_Deed).take i) : Nat)) + ((1 + 1 : Nat) : Int))] := mpR (X := None_) (Y := None_) (show KI.R None_ A _ [.int .i64 ((k + (sum ((x.map szE_Deed).take i) : Nat)) + ((1 : Nat) : Int))] from rfl) z1 (fun id p => by exact p.elim) (fun id p => by exact p.elim) (fun id o p => by first | exact o.elim | exact p.elim)
          have z3 : (Kn.mp (KI) (Kn.mp (KI) (KI))).R None_ A ((k + (sum ((x.map szE_Deed).take i) : Nat)), ((k + (sum ((x.map szE_Deed).take i) : Nat)) + ((1 : Nat) : Int)), ((k + (sum ((x.map szE_Deed).take i) : Nat)) + ((1 + 1 : Nat) : Int))) [.int .i64 (k + (sum ((x.map szE_Deed).take i) : Nat)), .int .i64 ((k + (sum ((x.map szE_Deed).take i) : Nat)) + ((1 : Nat) : Int)), .int .i64 ((k + (sum ((x.map szE_Deed).take i) : Nat)) + ((1 + 1 : Nat) : Int))] := mpR (X := None_) (Y := None_) (show KI.R None_ A _ [.int .i64 (k + (sum ((x.map szE_Deed).take i) : Nat))] from rfl) z2 (fun id p => by exact p.elim) (fun id p => by exact p.elim) (fun id o p => by first | exact o.elim | exact p.elim)
          exact (M_Deed).more (fun id p => p.elim) z3
        refine e _ (seg_of rfl (fun q v hq => ?_))
        match q, hq with
        | 0, hq => cases hq; exact (set_ne (set_ne (set_eq c_0 rfl) (by show 0 + i * 3 + 1 ≠ 0 + i * 3 + 0; omega)) (by show 0 + i * 3 + 2 ≠ 0 + i * 3 + 0; omega)).trans (congrArg (fun z : Int => some (Value.int .i64 z)) w_0)
        | 1, hq => cases hq; exact (set_ne (set_eq (set_ne c_1 (by show 0 + i * 3 + 0 ≠ 0 + i * 3 + 1; omega)) rfl) (by show 0 + i * 3 + 2 ≠ 0 + i * 3 + 1; omega)).trans (congrArg (fun z : Int => some (Value.int .i64 z)) w_1)
        | 2, hq => cases hq; exact (set_eq (set_ne (set_ne c_2 (by show 0 + i * 3 + 0 ≠ 0 + i * 3 + 2; omega)) (by show 0 + i * 3 + 1 ≠ 0 + i * 3 + 2; omega)) rfl).trans (congrArg (fun z : Int => some (Value.int .i64 z)) w_2)
        | q + 3, hq => simp at hq
      · exact w_3.trans (by show _ = k + (sum ((x.map szE_Deed).take (i + 1)) : Nat); rw [hsum]; omega)
    · obtain rfl : i = x.length := by simp only at h; omega
      refine KW.retW rfl rfl rfl rfl (fun H1 g => ?_) (fun id hid hw => ⟨hi1 id hid (fun e => hw (e ▸ h3)), hi2 id hid (fun e => hw (e ▸ h3)) (fun j hj => hw (h7 j id hj).1)⟩) (fun H1 g => ⟨congrArg (Value.int .i64) ?_, ?_⟩)
      · have := (g.vars 0 _ rfl).2.1
        have := g.n_
        have hlow : ∀ id, id < H.n → id ≤ o ∨ id < H1.n := fun id hid => by
          by_cases e : id = o
          · exact .inl (by omega)
          · have := (g.froz id (hi1 id hid e)).1; exact .inr (by omega)
        rcases Nat.eq_zero_or_pos H.n with h | h
        · omega
        · rcases hlow (H.n - 1) (by omega) with h1 | h1
          · have : o < H1.n := by have := (g.vars 0 _ rfl).2.1; have := g.n_; omega
            omega
          · omega
      · show k + ((sum ((x.map szE_Deed).take x.length) : Nat) : Int) = _
        rw [List.take_of_length_le (by simp)]
      · exact ml1' (mkrow_ml hi3 h2 h6 h3 (g.blk (j := 0) rfl).1 h7 h8 (fun j id hid => (g.froz id (hi1 id (hWl id (h7 j id hid).1) (h7 j id hid).2)).2))
theorem sum3_Deed : ∀ (l : List T_Deed) (i : Nat), i ≤ l.length → sum ((l.map szE_Deed).take i) = 3 * i
  | l, 0, _ => by simp [sum]
  | [], i + 1, h => by simp at h
  | x :: l, i + 1, h => by
    simp only [List.map_cons, List.take_succ_cons, sum]
    rw [sum3_Deed l i (by simp at h; omega)]
    show 1 + 1 + 1 + 3 * i = _
    omega
theorem held_DeedS' {x : List T_Deed} (hB : B_DeedS x) (hk : Mk k (sz_DeedS x)) (hs : K_DeedS.R S H0 (mk_DeedS k x) [.slice a x.length c]) : Spec Tryz.prog S H0 23 [.slice a x.length c, .int .i64 k] (fun v => v = .int .i64 (k + (sz_DeedS x : Nat))) := by
  have hs := sl1 hs
  have hl := hB.len
  have hk1 := hk.1
  have hk2 : k + (sum (x.map szE_Deed) : Nat) ≤ 274877906944 := hk.2
  have h3 := sum3_Deed x x.length (Nat.le_refl _)
  rw [List.take_of_length_le (by simp)] at h3
  have ml : (mk_DeedS k x).length = x.length := mks_len _ _ _ _
  have at_ : ∀ (i : Nat) y, i < x.length → (mk_DeedS k x)[i]? = some y → y = (k + 3 * (i : Int), k + 3 * (i : Int) + 1, k + 3 * (i : Int) + 2) := fun i y hi hy => by
    have h1 := mks_at (mk := mkE_Deed) (sz := szE_Deed) k (List.getElem?_eq_getElem hi)
    have hy : (mks mkE_Deed szE_Deed k x)[i]? = some y := hy
    rw [h1] at hy
    have hy := (Option.some.inj hy).symm
    rw [hy, sum3_Deed x i (by omega)]
    simp only [mkE_Deed]
    refine Prod.ext ?_ (Prod.ext ?_ ?_) <;> simp only <;> omega
  refine Spec.of1 Tryz.func23 rfl (by kernel_rfl) rfl (fun H _ => ?_)
  refine KW.lp rfl rfl (fun i : Nat => [(0, .slice a x.length c), (1, .int .i64 (k + 3 * (i : Int))), (5, .int .i64 i)]) (fun i => i ≤ x.length) (fun i => x.length - i) (0) (Nat.zero_le _) ⟨rfl, congrArg (Value.int .i64) (by simp), rfl, trivial⟩ (fun i hi bE n => ?_)
  refine KW.cnd rfl rfl (fun h => ?_) (fun h => ?_)
  · have h : (i : Int) < (x.length : Int) := h
    have w1 : IntKind.i64.wrap (k + 3 * (i : Int) + 1) = k + 3 * (i : Int) + 1 := wr (by omega) (by omega)
    have w2 : IntKind.i64.wrap (k + 3 * (i : Int) + 1 + 1) = k + 3 * (i : Int) + 2 := (wr (by omega) (by omega)).trans (by omega)
    have w3 : IntKind.i64.wrap (k + 3 * (i : Int) + 2 + 1) = k + 3 * ((i + 1 : Nat) : Int) := (wr (by omega) (by omega)).trans (by omega)
    refine KW.adS hs.up rfl rfl rfl rfl rfl rfl rfl rfl rfl (by omega) (by rw [ml]; exact h) (fun y cy id q hy hsy hat => ?_)
    obtain rfl := form_Deed hsy
    obtain rfl := at_ i y (by omega) hy
    refine KW.ldF 0 hat rfl rfl rfl rfl rfl rfl rfl rfl rfl ?_
    refine KW.cF rfl rfl (by first | (simp; done) | decide) ?_
    refine KW.adS hs.up rfl rfl rfl rfl rfl rfl rfl rfl rfl (by omega) (by rw [ml]; exact h) (fun y cy id2 q2 hy hsy hat2 => ?_)
    obtain rfl := form_Deed hsy
    obtain rfl := at_ i y (by omega) hy
    refine KW.ldF 1 hat2 rfl rfl rfl rfl rfl rfl rfl rfl rfl ?_
    refine KW.cF rfl rfl (by rw [w1]; simp) ?_
    refine KW.adS hs.up rfl rfl rfl rfl rfl rfl rfl rfl rfl (by omega) (by rw [ml]; exact h) (fun y cy id3 q3 hy hsy hat3 => ?_)
    obtain rfl := form_Deed hsy
    obtain rfl := at_ i y (by omega) hy
    refine KW.ldF 2 hat3 rfl rfl rfl rfl rfl rfl rfl rfl rfl ?_
    refine KW.cF rfl rfl (by rw [w1, w2]; simp) ?_
    refine KW.nxt rfl rfl (fun H' g => ⟨i + 1, by omega, by first | omega | (simp only; omega), ⟨rfl, congrArg (Value.int .i64) (by rw [w1, w2, w3]), congrArg (Value.int .i64) (inc64 (by omega)), trivial⟩, g⟩)
  · have : i = x.length := by omega
    subst this
    refine KW.ret rfl rfl rfl rfl (congrArg (Value.int .i64) ?_)
    show _ = k + ((sum (x.map szE_Deed) : Nat) : Int)
    omega
end
end Go.Proofs.YtijmkfnmdhpakaaGreat.Am
/- Slices of elements of several cells: literals, appends (also in place), cuts, clearing. For every program. No condition beyond each theorem's own. -/
set_option linter.unusedSimpArgs false
set_option linter.unusedVariables false
namespace Go.Proofs.YtijmkfnmdhpakaaGreat.Am
open Go Go.RowKit
theorem fold_put (cs : List Value) : ∀ (pre rest : List Value), cs.length ≤ rest.length → List.foldl (fun (a : Array Value) (p : Value × Nat) => a.setIfInBounds (0 + p.2) p.1) (pre ++ rest).toArray (cs.zipIdx pre.length) = (pre ++ cs ++ rest.drop cs.length).toArray := by
  induction cs with
  | nil => intro pre rest _; simp
  | cons c cs ih =>
    intro pre rest h
    match rest, h with
    | r :: rest, h =>
      rw [List.zipIdx_cons, List.foldl_cons]
      have e : (pre ++ r :: rest).toArray.setIfInBounds (0 + pre.length) c = ((pre ++ [c]) ++ rest).toArray := by
        rw [Nat.zero_add]
        simp
      simp only at e ⊢
      rw [e]
      have := ih (pre ++ [c]) rest (by simpa using h)
      rw [List.length_append, List.length_singleton] at this
      rw [this]
      simp
theorem fill_one {z : Array Value} {cs : List Value} {s : Nat} (hz : z.size = s) (hs : cs.length = s) : Instr.fill (fun j => some (j * s, s)) z [(0, .agg cs.toArray)] = some cs.toArray := by
  have hc : (Value.agg cs.toArray).cells = cs.toArray := rfl
  simp only [Instr.fill, hc]
  rw [if_neg (by simp; omega)]
  congr 1
  have h := fold_put cs [] z.toList (by simp; omega)
  simp only [List.nil_append, List.length_nil] at h
  have e : z.toList.drop cs.length = [] := List.drop_eq_nil_of_le (by simp; omega)
  rw [e, List.append_nil] at h
  refine Eq.trans ?_ h
  simp [Nat.zero_mul]
section
variable {P : Program} {S : Ids} {H0 : AH} {Q : PostC} {k k1 : List It} {e e1 : Env} {T T1 : List Var} {n n1 : Nat} {l1 r1 : List Nat} {d1 : Tmp}
/-- The empty literal. -/
theorem KW.litS0 {o : Oper} {dr : Bool} {t el : TypeId} {m : Nat} {parts : Array (Nat × Operand)} {inf : TypeInfo} {z : Value} (h : Go1 P k e T n (.op o dr) k1 e1 T1 n1 l1 r1) (hlr : l1 = r1) (ho : o.op = .buildSlice t m parts) (hd : o.dst = some d1)
    (hu : P.underlying t = some (.slice el)) (hi : P.info? el = some inf) (hz : inf.zero = some z) (hzo : zeroOkL P el = true) (hp : (parts.toList.map fun p => (p.1, ev e1 p.2)) = []) (hm : m = 0)
    (hk : KW P S H0 Q (n1 + 1) (T1 ++ [(n1, ⟨el, true, []⟩)]) k1 (put1 e1 d1 (.slice (some ⟨n1, 0, some inf.size⟩) 0 0))) : KW P S H0 Q n T k e := by
  refine KW.go h hlr (KEvt.heap (c := ⟨_, _, _, _, _, _⟩) _ _ _ (by rw [ho]; exact .inl rfl) (fun H g => ⟨none, _, ?_, g.push _⟩) (by rw [hd, put1_eq]; exact hk))
  rw [ho]
  subst hm
  have h1 : (zarr z 0).size = 0 := by simp [zarr]
  simp only [hop, hp, alit, hu, hi, hz, Nat.zero_mul, Instr.fill, g.n_]
  rw [if_pos ⟨zeroOkL_ok hzo, by omega⟩]
  simp only [h1, if_true]
  have h2 : (zarr z 0).toList = [] := List.eq_nil_of_length_eq_zero (by simpa using h1)
  rw [h2]
/-- A literal of one element. -/
theorem KW.litS1 {o : Oper} {dr : Bool} {t el : TypeId} {m : Nat} {parts : Array (Nat × Operand)} {inf : TypeInfo} {z : Value} {cs : List Value} (h : Go1 P k e T n (.op o dr) k1 e1 T1 n1 l1 r1) (hlr : l1 = r1) (ho : o.op = .buildSlice t m parts) (hd : o.dst = some d1)
    (hu : P.underlying t = some (.slice el)) (hi : P.info? el = some inf) (hz : inf.zero = some z) (hzo : zeroOkL P el = true) (hp : (parts.toList.map fun p => (p.1, ev e1 p.2)) = [(0, .agg cs.toArray)]) (hm : m = 1) (hs : inf.size = cs.length) (hle : Nat.ble cs.length 16777216 = true)
    (hk : KW P S H0 Q (n1 + 1) (T1 ++ [(n1, ⟨el, true, cs⟩)]) k1 (put1 e1 d1 (.slice (some ⟨n1, 0, some inf.size⟩) 1 1))) : KW P S H0 Q n T k e := by
  refine KW.go h hlr (KEvt.heap (c := ⟨_, _, _, _, _, _⟩) _ _ _ (by rw [ho]; exact .inl rfl) (fun H g => ⟨none, _, ?_, g.push _⟩) (by rw [hd, put1_eq]; exact hk))
  rw [ho]
  subst hm
  have hle := Nat.le_of_ble_eq_true hle
  have h1 : (zarr z (1 * inf.size)).size = inf.size := by simp [zarr]
  simp only [hop, hp, alit, hu, hi, hz, fill_one h1 hs.symm, g.n_]
  rw [if_pos ⟨zeroOkL_ok hzo, by omega⟩]
  simp [hs]
/-- append to nil, of elements of any size. -/
theorem KW.appNS {o : Oper} {dr : Bool} {t el : TypeId} {x y : Operand} {inf : TypeInfo} {m : Nat} {ys : List Value} (h : Go1 P k e T n (.op o dr) k1 e1 T1 n1 l1 r1) (hlr : l1 = r1) (ho : o.op = .call { callee := .builtin .append, args := #[x, y], argTypes := #[t, t] }) (hd : o.dst = some d1) (hx : ev e1 x = .slice none 0 0)
    (hu : P.underlying t = some (.slice el)) (hi : P.info? el = some inf) (hs : 0 < inf.size) (hzo : zeroOkL P el = true) (hy : ∀ H, Good S H0 T1 n1 H → acells H (ev e1 y) inf.size = some (m, ys)) (hone : ys.all Value.oneCell' = true) (hm : m ≠ 0) (hb : m * inf.bytes ≤ 140737488355328) (hml : m ≤ 9223372036854775807)
    (hk : KW P S H0 Q (n1 + 1) (T1 ++ [(n1, ⟨el, true, ys⟩)]) k1 (put1 e1 d1 (.slice (some ⟨n1, 0, some inf.size⟩) m m))) : KW P S H0 Q n T k e := by
  refine KW.go h hlr (KEvt.heap (c := ⟨_, _, _, _, _, _⟩) _ _ _ (by rw [ho]; exact .inr rfl) (fun H g => ⟨none, _, ?_, g.push _⟩) (by rw [hd, put1_eq]; exact hk))
  rw [ho]
  have h1 := hy H g
  simp only [hop, aapp, aappend, hu, hi, hx, h1]
  rw [if_pos trivial, if_pos ⟨zeroOkL_ok hzo, hs, hone⟩, if_neg hm, if_pos ⟨hml, hb⟩, g.n_]
/-- append to what is one's own; what stood behind the slice is left. -/
theorem KW.appTS {o : Oper} {dr : Bool} {t el : TypeId} {x y : Operand} {inf : TypeInfo} {m len c id off : Nat} {xs ys : List Value} (j : Nat) (h : Go1 P k e T n (.op o dr) k1 e1 T1 n1 l1 r1) (hlr : l1 = r1) (ho : o.op = .call { callee := .builtin .append, args := #[x, y], argTypes := #[t, t] }) (hd : o.dst = some d1) (hu : P.underlying t = some (.slice el)) (hi : P.info? el = some inf) (hx : ev e1 x = .slice (some ⟨id, off, some inf.size⟩) len c) (hT : T1[j]? = some (id, ⟨el, true, xs⟩))
    (hs : 0 < inf.size) (hzo : zeroOkL P el = true) (hy : ∀ H, Good S H0 T1 n1 H → acells H (ev e1 y) inf.size = some (m, ys)) (hlen : off + len * inf.size ≤ xs.length) (hone : ys.all Value.oneCell' = true) (hm : m ≠ 0) (hb : (len + m) * inf.bytes ≤ 140737488355328) (hml : len + m ≤ 9223372036854775807)
    (hk : KW P S H0 Q (n1 + 1) (T1.set j (n1, ⟨el, true, (xs.drop off).take (len * inf.size) ++ ys⟩)) k1 (put1 e1 d1 (.slice (some ⟨n1, 0, some inf.size⟩) (len + m) (len + m)))) : KW P S H0 Q n T k e := by
  refine KW.go h hlr (KEvt.heap (c := ⟨_, _, _, _, _, _⟩) _ _ _ (by rw [ho]; exact .inr rfl) (fun H g => ⟨none, _, ?_, g.move hT _⟩) (by rw [hd, put1_eq]; exact hk))
  rw [ho]
  have h1 := hy H g
  have h2 := (g.blk hT).1
  simp only [hop, aapp, aappend, hu, hi, hx, h1, h2]
  rw [if_pos trivial, if_pos ⟨zeroOkL_ok hzo, hs, hone⟩, if_neg hm, if_pos ⟨trivial, trivial, trivial, hlen, hml, hb⟩]
  simp only [AH.kill, g.n_]
/-- Nothing is appended. -/
theorem KW.appZS {o : Oper} {dr : Bool} {t el : TypeId} {x y : Operand} {inf : TypeInfo} {a : Option Addr} {len c : Nat} (h : Go1 P k e T n (.op o dr) k1 e1 T1 n1 l1 r1) (hlr : l1 = r1) (ho : o.op = .call { callee := .builtin .append, args := #[x, y], argTypes := #[t, t] }) (hd : o.dst = some d1) (hx : ev e1 x = .slice a len c) (ha : (∃ id off es, a = some ⟨id, off, some es⟩) ∨ (a = none ∧ len = 0 ∧ c = 0))
    (hu : P.underlying t = some (.slice el)) (hi : P.info? el = some inf) (hs : 0 < inf.size) (hzo : zeroOkL P el = true) (hy : ∀ H, Good S H0 T1 n1 H → acells H (ev e1 y) inf.size = some (0, []))
    (hk : KW P S H0 Q n1 T1 k1 (put1 e1 d1 (.slice a len c))) : KW P S H0 Q n T k e := by
  refine KW.go h hlr (KEvt.heap (c := ⟨_, _, _, _, _, _⟩) _ _ _ (by rw [ho]; exact .inr rfl) (fun H g => ⟨none, _, ?_, g⟩) (by rw [hd, put1_eq]; exact hk))
  rw [ho]
  have h1 := hy H g
  simp only [hop, aapp, aappend, hu, hi, hx, h1]
  rw [if_pos trivial, if_pos ⟨zeroOkL_ok hzo, hs, rfl⟩]
  rcases ha with ⟨id, off, es, rfl⟩ | ⟨rfl, rfl, rfl⟩
  · simp
  · simp
/-- append in place. -/
theorem KW.appI {o : Oper} {dr : Bool} {t el : TypeId} {x y : Operand} {inf : TypeInfo} {m len c id off : Nat} {ty : TypeId} {xs ys : List Value} (j : Nat) (h : Go1 P k e T n (.op o dr) k1 e1 T1 n1 l1 r1) (hlr : l1 = r1) (ho : o.op = .call { callee := .builtin .append, args := #[x, y], argTypes := #[t, t] }) (hd : o.dst = some d1) (hu : P.underlying t = some (.slice el)) (hi : P.info? el = some inf) (hx : ev e1 x = .slice (some ⟨id, off, some inf.size⟩) len c) (hT : T1[j]? = some (id, ⟨ty, true, xs⟩))
    (hy : ∀ H, Good S H0 T1 n1 H → acells H (ev e1 y) inf.size = some (m, ys)) (hc : len + m ≤ c) (hlen : off + len * inf.size + ys.length ≤ xs.length) (hone : ys.all Value.oneCell' = true)
    (hk : KW P S H0 Q n1 (T1.set j (id, ⟨ty, true, splice xs (off + len * inf.size) ys⟩)) k1 (put1 e1 d1 (.slice (some ⟨id, off, some inf.size⟩) (len + m) c))) : KW P S H0 Q n T k e := by
  refine KW.go h hlr (KEvt.heap (c := ⟨_, _, _, _, _, _⟩) _ (T1.set j (id, ⟨ty, true, splice xs (off + len * inf.size) ys⟩)) n1 (by rw [ho]; exact .inr rfl) (fun H g => ⟨some 0, _, ?_, g.set hT _⟩) (by rw [hd, put1_eq]; exact hk))
  rw [ho]
  have h1 := hy H g
  have h2 := (g.blk hT).1
  simp only [hop, aapp, aappendI, hu, hi, hx, h1, h2]
  rw [if_pos trivial, if_pos ⟨trivial, trivial, hc, hlen, hone⟩]
theorem acells_seg {H : AH} {id off m c es : Nat} {b : Blk} (hb : H.m id = some b) (hl : off + m * es ≤ b.cells.length) : acells H (.slice (some ⟨id, off, some es⟩) m c) es = some (m, (b.cells.drop off).take (m * es)) := by
  cases m with
  | zero => simp [acells]
  | succ m =>
    simp only [acells, if_true, hb]
    rw [if_pos hl]
theorem acells_nil (H : AH) (a : Option Addr) (c es : Nat) : acells H (.slice a 0 c) es = some (0, []) := by
  simp [acells]
/-- x[lo:hi:max]: it is looked at and left. -/
theorem KW.cut3 {o : Oper} {dr : Bool} {t el : TypeId} {x y z w : Operand} {inf : TypeInfo} {id off es len c l h_ m : Nat} (h : Go1 P k e T n (.op o dr) k1 e1 T1 n1 l1 r1) (hlr : l1 = r1) (ho : o.op = .slice t x (some y) (some z) (some w)) (hd : o.dst = some d1) (hx : ev e1 x = .slice (some ⟨id, off, some es⟩) len c) {kl kh km : IntKind} {il ih im : Int} (hl : ev e1 y = .int kl il) (hh : ev e1 z = .int kh ih) (hm : ev e1 w = .int km im)
    (hu : P.underlying t = some (.slice el)) (hi : P.info? el = some inf) (he : inf.size = es) (e1_ : il = l) (e2_ : ih = h_) (e3_ : im = m) (h1 : l ≤ h_) (h2 : h_ ≤ m) (h3 : m ≤ c) (hk : ∀ v, KW P S H0 Q n1 T1 k1 (put1 e1 d1 v)) : KW P S H0 Q n T k e := by
  subst e1_ e2_ e3_
  have hp : ∃ v, acut3 P t (ev e1 x) (ev e1 y) (ev e1 z) (ev e1 w) = some v := by
    unfold acut3
    simp only [hu, hx, hi, hl, hh, hm, abound]
    rw [if_pos ⟨by omega, by omega⟩]
    simp only
    rw [if_pos ⟨by omega, by omega⟩]
    simp only
    rw [if_pos ⟨by omega, by omega⟩]
    simp only
    rw [if_pos he.symm]
    split <;> exact ⟨_, rfl⟩
  obtain ⟨v, hv⟩ := hp
  exact KW.pure h hlr ho hd rfl v (by simp only [pop]; exact hv) (hk v)
/-- x[lo:hi], where something or room is left behind lo. -/
theorem KW.cutM {o : Oper} {dr : Bool} {t el : TypeId} {x y z : Operand} {inf : TypeInfo} {id off es len c l h_ : Nat} (h : Go1 P k e T n (.op o dr) k1 e1 T1 n1 l1 r1) (hlr : l1 = r1) (ho : o.op = .slice t x (some y) (some z) none) (hd : o.dst = some d1) (hx : ev e1 x = .slice (some ⟨id, off, some es⟩) len c) {kl kh : IntKind} {il ih : Int} (hl : ev e1 y = .int kl il) (hh : ev e1 z = .int kh ih)
    (hu : P.underlying t = some (.slice el)) (hi : P.info? el = some inf) (he : inf.size = es) (e1_ : il = l) (e2_ : ih = h_) (h1 : l ≤ h_) (h2 : h_ ≤ c) (h0 : l < c) (hk : KW P S H0 Q n1 T1 k1 (put1 e1 d1 (.slice (some ⟨id, off + l * es, some es⟩) (h_ - l) (c - l)))) : KW P S H0 Q n T k e := by
  subst e1_ e2_
  refine KW.pure h hlr ho hd rfl _ ?_ hk
  simp only [pop, Option.map, acut, hu, hx, hi, hl, hh, bHi, bLo, abound]
  rw [if_pos ⟨by omega, by omega⟩]
  simp only
  rw [if_pos ⟨by omega, by omega⟩]
  simp only
  rw [if_pos he.symm]
  by_cases hl0 : l = 0
  · subst hl0
    rw [if_pos (by simp)]
    simp [he]
  · rw [if_neg (by simpa using hl0), if_neg (by simp; omega)]
    simp [he]
/-- x[lo:]: a cell or none is left. -/
theorem KW.cutF {o : Oper} {dr : Bool} {t el : TypeId} {x y : Operand} {inf : TypeInfo} {id off es len c l : Nat} (h : Go1 P k e T n (.op o dr) k1 e1 T1 n1 l1 r1) (hlr : l1 = r1) (ho : o.op = .slice t x (some y) none none) (hd : o.dst = some d1) (hx : ev e1 x = .slice (some ⟨id, off, some es⟩) len c) {kl : IntKind} {il : Int} (hl : ev e1 y = .int kl il)
    (hu : P.underlying t = some (.slice el)) (hi : P.info? el = some inf) (he : inf.size = es) (e1_ : il = l) (h1 : l ≤ len) (hc : len ≤ c) (hk : ∀ v, (v = .slice (some ⟨id, off + l * es, some es⟩) (len - l) (c - l) ∨ (len - l = 0 ∧ ∃ a q, v = .slice a 0 q)) → KW P S H0 Q n1 T1 k1 (put1 e1 d1 v)) : KW P S H0 Q n T k e := by
  subst e1_
  by_cases hl0 : l = 0
  · subst hl0
    refine KW.pure h hlr ho hd rfl (.slice (some ⟨id, off, some es⟩) len c) ?_ (hk _ (.inl (by simp)))
    simp only [pop, Option.map, acut, hu, hx, hi, hl, bHi, bLo, abound]
    rw [if_pos ⟨by omega, by omega⟩]
    simp [he]
  · by_cases hlc : c = l
    · refine KW.pure h hlr ho hd rfl (.slice (some ⟨id, off, none⟩) 0 0) ?_ (hk _ (.inr ⟨by omega, _, _, rfl⟩))
      simp only [pop, Option.map, acut, hu, hx, hi, hl, bHi, bLo, abound]
      rw [if_pos ⟨by omega, by omega⟩]
      simp only
      rw [if_pos he.symm, if_neg (by simpa using hl0), if_pos (by simpa using hlc)]
    · refine KW.pure h hlr ho hd rfl (.slice (some ⟨id, off + l * es, some es⟩) (len - l) (c - l)) ?_ (hk _ (.inl rfl))
      simp only [pop, Option.map, acut, hu, hx, hi, hl, bHi, bLo, abound]
      rw [if_pos ⟨by omega, by omega⟩]
      simp only
      rw [if_pos he.symm, if_neg (by simpa using hl0), if_neg (by simpa using hlc)]
      simp [he]
/-- x[:hi] of what is one's own. -/
theorem KW.cutT {o : Oper} {dr : Bool} {t el : TypeId} {x y : Operand} {inf : TypeInfo} {id off es len c m : Nat} {kh : IntKind} {ih : Int} (h : Go1 P k e T n (.op o dr) k1 e1 T1 n1 l1 r1) (hlr : l1 = r1) (ho : o.op = .slice t x none (some y) none) (hd : o.dst = some d1) (hx : ev e1 x = .slice (some ⟨id, off, some es⟩) len c) (hy : ev e1 y = .int kh ih)
    (hu : P.underlying t = some (.slice el)) (hi : P.info? el = some inf) (he : inf.size = es) (e1_ : ih = m) (hm : m ≤ c) (hk : KW P S H0 Q n1 T1 k1 (put1 e1 d1 (.slice (some ⟨id, off, some es⟩) m c))) : KW P S H0 Q n T k e := by
  subst e1_
  refine KW.pure h hlr ho hd rfl _ ?_ hk
  simp only [pop, acut, hu, hx, hi, Option.map, hy, bHi, bLo, abound]
  rw [if_pos ⟨by omega, by omega⟩]
  simp [he]
/-- clear of what is one's own. -/
theorem KW.clr {o : Oper} {dr : Bool} {t el : TypeId} {x : Operand} {inf : TypeInfo} {z : Value} {len c id off : Nat} {ty : TypeId} {xs : List Value} (j : Nat) (h : Go1 P k e T n (.op o dr) k1 e1 T1 n1 l1 r1) (hlr : l1 = r1) (ho : o.op = .call { callee := .builtin .clear, args := #[x], argTypes := #[t] }) (hd : o.dst = none) (hu : P.underlying t = some (.slice el)) (hi : P.info? el = some inf) (hz : inf.zero = some z) (hx : ev e1 x = .slice (some ⟨id, off, some inf.size⟩) len c) (hT : T1[j]? = some (id, ⟨ty, true, xs⟩)) (hzo : zeroOkL P el = true) (hzs : z.cells.size = inf.size)
    (hn : len ≠ 0) (hlen : off + len * inf.size ≤ xs.length) (hone : (zarr z (len * z.cells.size)).all Value.oneCell' = true)
    (hk : KW P S H0 Q n1 (T1.set j (id, ⟨ty, true, splice xs off (zarr z (len * z.cells.size)).toList⟩)) k1 e1) : KW P S H0 Q n T k e := by
  refine KW.go h hlr (KEvt.heap (c := ⟨_, _, _, _, _, _⟩) (.tuple #[]) (T1.set j (id, ⟨ty, true, splice xs off (zarr z (len * z.cells.size)).toList⟩)) n1 (by rw [ho]; exact .inr rfl) (fun H g => ⟨none, H.set id ⟨ty, true, splice xs off (zarr z (len * z.cells.size)).toList⟩, ?_, g.set hT _⟩) (by rw [hd]; exact hk))
  rw [ho]
  have h2 := (g.blk hT).1
  simp only [hop, aclear, hu, hi, hz, hx, h2]
  rw [if_neg hn, if_pos ⟨zeroOkL_ok hzo, trivial, trivial, hzs, hlen, hone⟩]
/-- clear of nothing. -/
theorem KW.clr0 {o : Oper} {dr : Bool} {t el : TypeId} {x : Operand} {inf : TypeInfo} {z : Value} {a : Option Addr} {c : Nat} (h : Go1 P k e T n (.op o dr) k1 e1 T1 n1 l1 r1) (hlr : l1 = r1) (ho : o.op = .call { callee := .builtin .clear, args := #[x], argTypes := #[t] }) (hd : o.dst = none) (hu : P.underlying t = some (.slice el)) (hi : P.info? el = some inf) (hz : inf.zero = some z) (hx : ev e1 x = .slice a 0 c) (ha : a = none ∨ ∃ id k es, a = some ⟨id, k, some es⟩)
    (hk : KW P S H0 Q n1 T1 k1 e1) : KW P S H0 Q n T k e := by
  refine KW.go h hlr (KEvt.heap (c := ⟨_, _, _, _, _, _⟩) (.tuple #[]) T1 n1 (by rw [ho]; exact .inr rfl) (fun H g => ⟨none, H, ?_, g⟩) (by rw [hd]; exact hk))
  rw [ho]
  rcases ha with rfl | ⟨id, k', es, rfl⟩ <;> simp [hop, aclear, hu, hi, hz, hx]
end
end Go.Proofs.YtijmkfnmdhpakaaGreat.Am
/- The ceremony in memory: blocks of elements, a hall and what it leads to. For every program. No condition beyond each theorem's own. -/
set_option linter.unusedSimpArgs false
set_option linter.unusedVariables false
namespace Go.Proofs.YtijmkfnmdhpakaaGreat.Am
open Go Go.RowKit
/-- Cells bear a list's elements. -/
def Cl {α : Type} (d : Kn α) (X : Ids) (A : AH) (xs : List α) (cs : List Value) : Prop := xs.length * d.es ≤ cs.length ∧ ∀ (i : Nat) x, xs[i]? = some x → d.R X A x ((cs.drop (i * d.es)).take d.es)
section
variable {α : Type} {d : Kn α} {X X' S : Ids} {A A' : AH} {xs : List α} {cs : List Value}
theorem Cl.mv (h : Cl d X A xs cs) (hA : ∀ id, X id → A'.m id = A.m id) (hX : ∀ id, X id → X' id) : Cl d X' A' xs cs :=
  ⟨h.1, fun i x hx => d.more hX (d.same hA (h.2 i x hx))⟩
theorem Cl.nil (d : Kn α) (X : Ids) (A : AH) (cs : List Value) : Cl d X A [] cs := ⟨by simp, fun i x h => by simp at h⟩
theorem Cl.sl {id c : Nat} {b : Blk} (h : Cl d X A xs cs) (hS : S id) (hm : A.m id = some b) (hb : b.cells = cs) (hX : ∀ id, X id → S id) (hc : xs.length ≤ c) : d.Sl S A (.slice (some ⟨id, 0, some d.es⟩) xs.length c) xs :=
  .inr ⟨id, 0, c, b, rfl, hc, hS, hm, by rw [hb, Nat.zero_add]; exact h.1, fun i x hx => by rw [hb, Nat.zero_add]; exact d.more hX (h.2 i x hx)⟩
theorem seg_splice {l ys : List Value} {k q n : Nat} (hk : k + ys.length ≤ l.length) (h : q + n ≤ k ∨ k + ys.length ≤ q) : ((splice l k ys).drop q).take n = (l.drop q).take n := by
  refine List.ext_getElem? fun j => ?_
  rw [List.getElem?_take, List.getElem?_take]
  split
  · rename_i hj
    rw [List.getElem?_drop, List.getElem?_drop, splice_get l k ys hk]
    rcases h with h | h
    · rw [if_pos (by omega)]
    · rw [if_neg (by omega), if_neg (by omega)]
  · rfl
theorem seg_in {l ys : List Value} {k : Nat} (hk : k + ys.length ≤ l.length) : ((splice l k ys).drop k).take ys.length = ys := by
  refine List.ext_getElem? fun j => ?_
  rw [List.getElem?_take]
  by_cases hj : j < ys.length
  · rw [if_pos hj, List.getElem?_drop, splice_get l k ys hk, if_neg (by omega), if_pos (by omega)]
    congr 1
    omega
  · rw [if_neg hj, List.getElem?_eq_none (by omega)]
theorem mul_le' {i n e : Nat} (h : i < n) : i * e + e ≤ n * e := by rw [← Nat.succ_mul]; exact Nat.mul_le_mul_right _ h
/-- An element is written. -/
theorem Cl.set {i : Nat} {y : α} {ys : List Value} (h : Cl d X A xs cs) (hi : i < xs.length) (hy : d.R X A y ys) : Cl d X A (xs.set i y) (splice cs (i * d.es) ys) ∧ (splice cs (i * d.es) ys).length = cs.length := by
  have hl := d.len hy
  have h1 := mul_le' (e := d.es) hi
  have hk : i * d.es + ys.length ≤ cs.length := by have := h.1; omega
  have hlen := splice_length cs (i * d.es) ys hk
  refine ⟨⟨by rw [hlen, List.length_set]; exact h.1, fun j x hx => ?_⟩, hlen⟩
  rw [List.getElem?_set] at hx
  split at hx
  · rename_i e
    subst e
    cases hx
    have := seg_in hk
    rw [hl] at this
    rw [this]
    exact hy
  · rename_i e
    rw [seg_splice hk]
    · exact h.2 j x hx
    · rcases Nat.lt_or_gt_of_ne e with h2 | h2
      · right; have := mul_le' (e := d.es) h2; omega
      · left; have := mul_le' (e := d.es) h2; omega
/-- A part of an element is written. -/
theorem Cl.part {i : Nat} {x y : α} {a b b' r : List Value} (h : Cl d X A xs cs) (hx : xs[i]? = some x) (hseg : (cs.drop (i * d.es)).take d.es = a ++ (b ++ r)) (hb : b'.length = b.length) (hXX : ∀ id, X id → X' id) (hy : d.R X' A y (a ++ (b' ++ r))) : Cl d X' A (xs.set i y) (splice cs (i * d.es + a.length) b') ∧ (splice cs (i * d.es + a.length) b').length = cs.length := by
  have hi := (List.getElem?_eq_some_iff.1 hx).1
  have hl := d.len hy
  have h1 := mul_le' (e := d.es) hi
  have h0 := h.1
  simp only [List.length_append] at hl
  have hk : i * d.es + (a ++ (b' ++ r)).length ≤ cs.length := by simp only [List.length_append]; omega
  have hk2 : i * d.es + a.length + b'.length ≤ cs.length := by omega
  have e : splice cs (i * d.es + a.length) b' = splice cs (i * d.es) (a ++ (b' ++ r)) := by
    refine List.ext_getElem? fun j => ?_
    rw [splice_get _ _ _ hk, splice_get _ _ _ hk2]
    simp only [List.length_append]
    by_cases c1 : j < i * d.es
    · rw [if_pos (by omega), if_pos c1]
    · rw [if_neg c1]
      by_cases c2 : j < i * d.es + (a.length + (b'.length + r.length))
      · rw [if_pos c2]
        have old : ∀ (v : Value), (a ++ (b ++ r))[j - i * d.es]? = some v → cs[j]? = some v := fun v hv => by
          have := seg_at hseg hv
          rwa [show i * d.es + (j - i * d.es) = j by omega] at this
        by_cases c3 : j < i * d.es + a.length
        · rw [if_pos c3, List.getElem?_append_left (by omega)]
          have hg : a[j - i * d.es]? = some (a[j - i * d.es]'(by omega)) := List.getElem?_eq_getElem (by omega)
          rw [hg]
          exact old _ (by rw [List.getElem?_append_left (by omega)]; exact hg)
        · rw [if_neg c3]
          by_cases c4 : j < i * d.es + a.length + b'.length
          · rw [if_pos c4, List.getElem?_append_right (by omega), List.getElem?_append_left (by omega)]
            congr 1; omega
          · rw [if_neg c4, List.getElem?_append_right (by omega), List.getElem?_append_right (by omega)]
            have hg : r[j - i * d.es - a.length - b'.length]? = some (r[j - i * d.es - a.length - b'.length]'(by omega)) := List.getElem?_eq_getElem (by omega)
            rw [hg]
            exact old _ (by rw [List.getElem?_append_right (by omega), List.getElem?_append_right (by omega), ← hb]; exact hg)
      · rw [if_neg c2, if_neg (by omega), if_neg (by omega)]
  rw [e]
  exact (h.mv (fun _ _ => rfl) hXX).set hi hy
/-- An element more. -/
theorem Cl.snoc {y : α} {ys : List Value} (h : Cl d X A xs cs) (hy : d.R X A y ys) : Cl d X A (xs ++ [y]) ((cs.drop 0).take (xs.length * d.es) ++ ys) := by
  have hl := d.len hy
  have h1 := h.1
  have ht : ((cs.drop 0).take (xs.length * d.es)).length = xs.length * d.es := by rw [List.length_take, List.drop_zero]; omega
  refine ⟨by rw [List.length_append, List.length_append, List.length_singleton, ht, hl, Nat.add_mul]; omega, fun j x hx => ?_⟩
  by_cases hj : j < xs.length
  · rw [List.getElem?_append_left hj] at hx
    have h2 := mul_le' (e := d.es) hj
    have e : ((((cs.drop 0).take (xs.length * d.es)) ++ ys).drop (j * d.es)).take d.es = (cs.drop (j * d.es)).take d.es := by
      rw [List.drop_append_of_le_length (by omega), List.take_append_of_le_length (by rw [List.length_drop]; omega), List.drop_zero, List.drop_take, List.take_take]
      congr 1
      omega
    rw [e]
    exact h.2 j x hx
  · have hjl := (List.getElem?_eq_some_iff.1 hx).1
    simp at hjl
    obtain rfl : j = xs.length := by omega
    simp at hx
    subst hx
    have e : ((((cs.drop 0).take (xs.length * d.es)) ++ ys).drop (xs.length * d.es)).take d.es = ys := by
      have e1 := List.drop_left (l₁ := (cs.drop 0).take (xs.length * d.es)) (l₂ := ys)
      rw [ht] at e1
      rw [e1, List.take_of_length_le (by omega)]
    rw [e]
    exact hy
theorem Cl.one {y : α} {ys : List Value} (hy : d.R X A y ys) : Cl d X A [y] ys := by
  have hl := d.len hy
  refine ⟨by simp [hl], fun j x hx => ?_⟩
  cases j with
  | zero => cases hx; rw [Nat.zero_mul, List.drop_zero, List.take_of_length_le (by omega)]; exact hy
  | succ j => simp at hx
/-- An element is left out, those behind it come one place nearer; what stands behind them does not count. -/
theorem Cl.erase {i : Nat} {cs' : List Value} (h : Cl d X A xs cs) (hi : i < xs.length) (hl : (xs.length - 1) * d.es ≤ cs'.length) (h1 : ∀ j, j < i → (cs'.drop (j * d.es)).take d.es = (cs.drop (j * d.es)).take d.es) (h2 : ∀ j, i ≤ j → j + 1 < xs.length → (cs'.drop (j * d.es)).take d.es = (cs.drop ((j + 1) * d.es)).take d.es) : Cl d X A (xs.eraseIdx i) cs' := by
  have hle : (xs.eraseIdx i).length = xs.length - 1 := by rw [List.length_eraseIdx, if_pos hi]
  refine ⟨by rw [hle]; exact hl, fun j x hx => ?_⟩
  have hj := (List.getElem?_eq_some_iff.1 hx).1
  rw [hle] at hj
  rw [List.getElem?_eraseIdx] at hx
  split at hx
  · rename_i hlt
    rw [h1 j hlt]
    exact h.2 j x hx
  · rename_i hge
    rw [h2 j (by omega) (by omega)]
    exact h.2 (j + 1) x hx
end
abbrev KB : Kn Bool := Kn.bool
abbrev K_Purse : Kn T_Purse := Kn.pair KI (Kn.pair K_Int64S K_Int64S)
abbrev K_Seat : Kn T_Seat := Kn.pair K_Purse (Kn.pair K_Purse KI)
abbrev K_Packet : Kn T_Packet := Kn.pair KB (Kn.pair KI (Kn.pair KI (Kn.pair K_Int64S K_Int64S)))
section
variable {S X : Ids} {A : AH} {cs : List Value}
theorem KB_of {x : Bool} {cs : List Value} (h : KB.R S A x cs) : cs = [.bool x] := h
theorem split_Purse {x : T_Purse} (h : K_Purse.R S A x cs) : ∃ a1 c1 a2 c2, cs = [.int .i64 x.1, .slice a1 x.2.1.length c1, .slice a2 x.2.2.length c2] ∧ KI.Sl S A (.slice a1 x.2.1.length c1) x.2.1 ∧ KI.Sl S A (.slice a2 x.2.2.length c2) x.2.2 := by
  obtain ⟨e0, d0, rfl, h0, e1, d1, rfl, h1, h2⟩ := h
  obtain rfl := KI_of h0
  obtain ⟨a1, c1, rfl⟩ := slform h1
  obtain ⟨a2, c2, rfl⟩ := slform h2
  exact ⟨a1, c1, a2, c2, rfl, sl1 h1, sl1 h2⟩
theorem mk_Purse {x : T_Purse} {a1 c1 a2 c2} (h1 : KI.Sl S A (.slice a1 x.2.1.length c1) x.2.1) (h2 : KI.Sl S A (.slice a2 x.2.2.length c2) x.2.2) : K_Purse.R S A x [.int .i64 x.1, .slice a1 x.2.1.length c1, .slice a2 x.2.2.length c2] :=
  ⟨[_], [_, _], rfl, rfl, [_], [_], rfl, sl1' h1, sl1' h2⟩
theorem split_Packet {x : T_Packet} (h : K_Packet.R S A x cs) : ∃ a1 c1 a2 c2, cs = [.bool x.1, .int .i64 x.2.1, .int .i64 x.2.2.1, .slice a1 x.2.2.2.1.length c1, .slice a2 x.2.2.2.2.length c2] ∧ KI.Sl S A (.slice a1 x.2.2.2.1.length c1) x.2.2.2.1 ∧ KI.Sl S A (.slice a2 x.2.2.2.2.length c2) x.2.2.2.2 := by
  obtain ⟨e0, d0, rfl, h0, e1, d1, rfl, h1, e2, d2, rfl, h2, e3, d3, rfl, h3, h4⟩ := h
  obtain rfl := KB_of h0
  obtain rfl := KI_of h1
  obtain rfl := KI_of h2
  obtain ⟨a1, c1, rfl⟩ := slform h3
  obtain ⟨a2, c2, rfl⟩ := slform h4
  exact ⟨a1, c1, a2, c2, rfl, sl1 h3, sl1 h4⟩
theorem mk_Packet {x : T_Packet} {a1 c1 a2 c2} (h1 : KI.Sl S A (.slice a1 x.2.2.2.1.length c1) x.2.2.2.1) (h2 : KI.Sl S A (.slice a2 x.2.2.2.2.length c2) x.2.2.2.2) : K_Packet.R S A x [.bool x.1, .int .i64 x.2.1, .int .i64 x.2.2.1, .slice a1 x.2.2.2.1.length c1, .slice a2 x.2.2.2.2.length c2] :=
  ⟨[_], [_, _, _, _], rfl, rfl, [_], [_, _, _], rfl, rfl, [_], [_, _], rfl, rfl, [_], [_], rfl, sl1' h1, sl1' h2⟩
theorem split_Seat {x : T_Seat} (h : K_Seat.R S A x cs) : ∃ ps qs, cs = ps ++ (qs ++ [.int .i64 x.2.2]) ∧ K_Purse.R S A x.1 ps ∧ K_Purse.R S A x.2.1 qs := by
  obtain ⟨e0, d0, rfl, h0, e1, d1, rfl, h1, h2⟩ := h
  obtain rfl := KI_of h2
  exact ⟨e0, e1, rfl, h0, h1⟩
theorem mk_Seat {x : T_Seat} {ps qs : List Value} (h0 : K_Purse.R S A x.1 ps) (h1 : K_Purse.R S A x.2.1 qs) : K_Seat.R S A x (ps ++ (qs ++ [.int .i64 x.2.2])) := ⟨ps, _, rfl, h0, qs, _, rfl, h1, rfl⟩
end
/-- The types of a hall's blocks. -/
structure HT where
  h : TypeId
  s : TypeId
  g : TypeId
  b : TypeId
  p : TypeId
/-- Where a hall's blocks lie; the wire's, with its room, if there is one. -/
structure HD where
  hid : Nat
  sid : Nat
  gid : Nat
  bid : Nat
  nid : Nat
  w : Option (Nat × Nat)
def HD.L (d : HD) : List Nat := [d.hid, d.sid, d.gid, d.bid, d.nid] ++ (match d.w with | some (i, _) => [i] | none => [])
def HD.W (d : HD) : Ids := fun id => id ∈ d.L
def HD.wv (d : HD) (n : Nat) : Value := match d.w with | some (i, c) => .slice (some ⟨i, 0, some 5⟩) n c | none => .slice none 0 0
/-- The hall's cells. -/
def HD.cells (d : HD) (pre post : List Value) (c : Cer) : List Value :=
  pre ++ ([.int .i64 c.ep, .slice (some ⟨d.sid, 0, some 7⟩) c.seats.length c.seats.length, .int .i64 c.oe, .slice (some ⟨d.gid, 0, some 1⟩) c.got.length c.got.length, .slice (some ⟨d.bid, 0, some 1⟩) c.has.length c.has.length, .slice (some ⟨d.nid, 0, some 1⟩) c.named.length c.named.length, d.wv c.wire.length] ++ post)
def SeatsB (t : HT) (S : Ids) (A : AH) (X : Ids) (id : Nat) (xs : List T_Seat) : Prop := S id ∧ ∃ cs, A.m id = some ⟨t.s, true, cs⟩ ∧ Cl K_Seat X A xs cs
def GotB (t : HT) (S : Ids) (A : AH) (X : Ids) (id : Nat) (xs : List (List Int)) : Prop := S id ∧ ∃ cs, A.m id = some ⟨t.g, true, cs⟩ ∧ cs.length = xs.length ∧ Cl KI.sl X A xs cs
def BoolB (t : HT) (S : Ids) (A : AH) (id : Nat) (xs : List Bool) : Prop := S id ∧ A.m id = some ⟨t.b, true, xs.map Value.bool⟩
def WireB (t : HT) (S : Ids) (A : AH) (X : Ids) : Option (Nat × Nat) → List T_Packet → Prop
  | none, xs => xs = []
  | some (i, q), xs => S i ∧ xs.length ≤ q ∧ ∃ cs, A.m i = some ⟨t.p, true, cs⟩ ∧ Cl K_Packet X A xs cs
/-- A ceremony stands in memory, its rows in X. -/
structure Hl (t : HT) (pre post : List Value) (S : Ids) (A : AH) (X : Ids) (d : HD) (c : Cer) : Prop where
  sx : ∀ id, X id → S id
  hall : S d.hid ∧ A.m d.hid = some ⟨t.h, true, d.cells pre post c⟩
  seats : SeatsB t S A X d.sid c.seats
  got : GotB t S A X d.gid c.got
  has : BoolB t S A d.bid c.has
  named : BoolB t S A d.nid c.named
  wire : WireB t S A X d.w c.wire
  dist : d.L.Nodup
  out : ∀ id, X id → ¬ d.W id
section
variable {t : HT} {S S' X X' : Ids} {A A' : AH} {i : Nat}
theorem SeatsB.mv {xs : List T_Seat} (h : SeatsB t S A X i xs) (hi : S' i ∧ A'.m i = A.m i) (hX : ∀ id, X id → A'.m id = A.m id) (hXX : ∀ id, X id → X' id) : SeatsB t S' A' X' i xs := by
  obtain ⟨_, cs, s1, s2⟩ := h
  exact ⟨hi.1, cs, hi.2.trans s1, s2.mv hX hXX⟩
theorem GotB.mv {xs : List (List Int)} (h : GotB t S A X i xs) (hi : S' i ∧ A'.m i = A.m i) (hX : ∀ id, X id → A'.m id = A.m id) (hXX : ∀ id, X id → X' id) : GotB t S' A' X' i xs := by
  obtain ⟨_, cs, s1, s2, s3⟩ := h
  exact ⟨hi.1, cs, hi.2.trans s1, s2, s3.mv hX hXX⟩
theorem BoolB.mv {xs : List Bool} (h : BoolB t S A i xs) (hi : S' i ∧ A'.m i = A.m i) : BoolB t S' A' i xs := ⟨hi.1, hi.2.trans h.2⟩
theorem WireB.mv {w : Option (Nat × Nat)} {xs : List T_Packet} (h : WireB t S A X w xs) (hi : ∀ i q, w = some (i, q) → S' i ∧ A'.m i = A.m i) (hX : ∀ id, X id → A'.m id = A.m id) (hXX : ∀ id, X id → X' id) : WireB t S' A' X' w xs := by
  match w, h with
  | none, h => exact h
  | some (i, q), h =>
    obtain ⟨_, w1, cs, w2, w3⟩ := h
    exact ⟨(hi i q rfl).1, w1, cs, (hi i q rfl).2.trans w2, w3.mv hX hXX⟩
end
section
variable {t : HT} {pre post : List Value} {S S' X X' : Ids} {A A' : AH} {d : HD} {c : Cer}
theorem HD.Win {d : HD} : d.W d.hid ∧ d.W d.sid ∧ d.W d.gid ∧ d.W d.bid ∧ d.W d.nid ∧ ∀ i q, d.w = some (i, q) → d.W i := by
  refine ⟨by simp [HD.W, HD.L], by simp [HD.W, HD.L], by simp [HD.W, HD.L], by simp [HD.W, HD.L], by simp [HD.W, HD.L], fun i q e => by simp [HD.W, HD.L, e]⟩
/-- What S and A speak of goes over. -/
theorem Hl.mv (h : Hl t pre post S A X d c) (hA : ∀ id, (d.W id ∨ X id) → S' id ∧ A'.m id = A.m id) : Hl t pre post S' A' X d c := by
  obtain ⟨l1, l2, l3, l4, l5, l6⟩ := HD.Win (d := d)
  have L : ∀ id, d.W id → S' id ∧ A'.m id = A.m id := fun id hid => hA id (.inl hid)
  have hX : ∀ id, X id → A'.m id = A.m id := fun id hid => (hA id (.inr hid)).2
  exact ⟨fun id hid => (hA id (.inr hid)).1, ⟨(L _ l1).1, (L _ l1).2.trans h.hall.2⟩, h.seats.mv (L _ l2) hX (fun _ p => p), h.got.mv (L _ l3) hX (fun _ p => p), h.has.mv (L _ l4), h.named.mv (L _ l5), h.wire.mv (fun i q e => L _ (l6 i q e)) hX (fun _ p => p), h.dist, h.out⟩
theorem Hl.w (h : Hl t pre post S A X d c) : ∀ id, d.W id → S id := fun id hid => by
  have hw := h.wire
  have hid : id ∈ d.L := hid
  simp only [HD.L, List.mem_append, List.mem_cons, List.not_mem_nil, or_false] at hid
  rcases hid with (e | e | e | e | e) | e
  · rw [e]; exact h.hall.1
  · rw [e]; exact h.seats.1
  · rw [e]; exact h.got.1
  · rw [e]; exact h.has.1
  · rw [e]; exact h.named.1
  · split at e
    · rename_i i q e2
      rw [e2] at hw
      rw [List.mem_singleton.1 e]
      exact hw.1
    · simp at e
theorem Hl.on [o : On S A S' A'] (h : Hl t pre post S A X d c) : Hl t pre post S' A' X d c := h.mv fun id hid => o.st id (hid.elim (h.w id) (h.sx id))
theorem Hl.seatSl (h : Hl t pre post S A X d c) : K_Seat.Sl S A (.slice (some ⟨d.sid, 0, some 7⟩) c.seats.length c.seats.length) c.seats := by
  obtain ⟨s0, cs, s1, s2⟩ := h.seats
  exact s2.sl s0 s1 rfl h.sx (Nat.le_refl _)
theorem Hl.wireSl (h : Hl t pre post S A X d c) : K_Packet.Sl S A (d.wv c.wire.length) c.wire := by
  have hw := h.wire
  unfold HD.wv
  split
  · rename_i i q e
    rw [e] at hw
    obtain ⟨w0, w1, cs, w2, w3⟩ := hw
    exact w3.sl w0 w2 rfl h.sx w1
  · rename_i e
    rw [e] at hw
    have hw : c.wire = [] := hw
    rw [hw]
    exact .inl ⟨rfl, none, 0, rfl, fun _ => rfl⟩
theorem Hl.cellsH (h : Hl t pre post S A X d c) : Has3 S A d.hid 0 (d.cells pre post c) := ⟨h.hall.1, _, h.hall.2, fun i v hi => by rw [Nat.zero_add]; exact hi⟩
end
/-- What a writer of a hall leaves: the hall at a later state; what is in it stood there or is new. -/
def HlPost (t : HT) (pre post : List Value) (X : Ids) (d : HD) (c : Cer) (n : Nat) (H1 : AH) : Prop :=
  ∃ (X' : Ids) (d' : HD), Hl t pre post (fun id => d.W id ∨ X id ∨ New n H1.n id) H1 X' d' c ∧ d'.hid = d.hid ∧ (∀ id, X' id → X id ∨ New n H1.n id) ∧ (∀ id, d'.W id → d.W id ∨ New n H1.n id)
end Go.Proofs.YtijmkfnmdhpakaaGreat.Am
/- What the laws' own functions do at Purse: sizes, copies, equality, marks. Each holds under its own conditions. -/
set_option linter.unusedVariables false
set_option maxRecDepth 20000
namespace Go.Proofs.YtijmkfnmdhpakaaGreat.Am
open Go Go.RowKit Go.Proofs
abbrev M_Purse : Kn T_Purse := Kn.mp (KI) (Kn.mp (M_Int64S) (M_Int64S))
theorem le_Purse : KLe M_Purse K_Purse := KLe.pair ((KLe.refl KI)) (KLe.pair (le_Int64S) (le_Int64S))
abbrev B_Purse (x : T_Purse) : Prop := I64 x.1 ∧ B_Int64S x.2.1 ∧ B_Int64S x.2.2
abbrev W_Purse (x : T_Purse) : Prop := I64 x.1 ∧ W_Int64S x.2.1 ∧ W_Int64S x.2.2
abbrev sz_Purse (x : T_Purse) : Nat := sz_Int64S x.2.1 + sz_Int64S x.2.2
abbrev mkk_Purse (k : Int) (x : T_Purse) : T_Purse := (x.1, mk_Int64S (k) x.2.1, mk_Int64S (k + (sz_Int64S x.2.1 : Nat)) x.2.2)
theorem size_Purse {x : T_Purse} (hB : B_Purse x) : sz_Purse x ≤ 2097152 := by have := size_Int64S hB.2.1; have := size_Int64S hB.2.2; simp only [sz_Purse]; omega
section
variable {S : Ids} {H0 : AH} {W : Ids} {left k : Int}
theorem form_Purse {x : T_Purse} {cs : List Value} (h : K_Purse.R S H0 x cs) : ∃ a1 c1 a2 c2, cs = [.int .i64 x.1, .slice a1 x.2.1.length c1, .slice a2 x.2.2.length c2] := by
  obtain ⟨e0, d0, rfl, h0, h0_⟩ := h
  obtain ⟨e1, d1, rfl, h1, h1_⟩ := h0_
  have h2 := h1_
  obtain rfl := KI_of h0
  obtain ⟨a1, c1, rfl⟩ := slform h1
  obtain ⟨a2, c2, rfl⟩ := slform h2
  exact ⟨a1, c1, a2, c2, rfl⟩
theorem formM_Purse {x : T_Purse} {cs : List Value} (h : M_Purse.R S H0 x cs) : ∃ a1 c1 a2 c2, cs = [.int .i64 x.1, .slice a1 x.2.1.length c1, .slice a2 x.2.2.length c2] := form_Purse (le_Purse.2 _ _ _ _ h)
theorem splitk_Purse {x : T_Purse} {cs : List Value} (h : K_Purse.R S H0 x cs) : ∃ a1 c1 a2 c2, cs = [.int .i64 x.1, .slice a1 x.2.1.length c1, .slice a2 x.2.2.length c2] ∧ K_Int64S.R S H0 x.2.1 [.slice a1 x.2.1.length c1] ∧ K_Int64S.R S H0 x.2.2 [.slice a2 x.2.2.length c2] := by
  obtain ⟨e0, d0, rfl, h0, h0_⟩ := h
  obtain ⟨e1, d1, rfl, h1, h1_⟩ := h0_
  have h2 := h1_
  obtain rfl := KI_of h0
  obtain ⟨a1, c1, rfl⟩ := slform h1
  obtain ⟨a2, c2, rfl⟩ := slform h2
  exact ⟨a1, c1, a2, c2, rfl, h1, h2⟩
theorem splitM_Purse {x : T_Purse} {cs : List Value} (h : M_Purse.R S H0 x cs) : ∃ (a1 : Option Addr) (c1 : Nat) (a2 : Option Addr) (c2 : Nat) (X1 : Ids) (X2 : Ids), cs = [.int .i64 x.1, .slice a1 x.2.1.length c1, .slice a2 x.2.2.length c2] ∧ M_Int64S.R X1 H0 x.2.1 [.slice a1 x.2.1.length c1] ∧ M_Int64S.R X2 H0 x.2.2 [.slice a2 x.2.2.length c2] ∧ (∀ id, X1 id → S id) ∧ (∀ id, X2 id → S id) ∧ (∀ id, X1 id → X2 id → False) := by
  obtain ⟨e0, d0, X0, Y0, rfl, i0, j0, q0, h0, h0_⟩ := h
  obtain ⟨e1, d1, X1, Y1, rfl, i1, j1, q1, h1, h1_⟩ := h0_
  have h2 := h1_
  obtain rfl := KI_of h0
  obtain ⟨a1, c1, rfl⟩ := mlform h1
  obtain ⟨a2, c2, rfl⟩ := mlform h2
  exact ⟨a1, c1, a2, c2, X1, Y1, rfl, h1, h2, fun _ p => j0 _ (i1 _ p), fun _ p => j0 _ (j1 _ p), fun _ o p => q1 _ o (p)⟩
theorem eq_Purse {x : T_Purse} {cs cs' : List Value} (hB : B_Purse x) (h : K_Purse.R S H0 x cs) (h' : K_Purse.R S H0 x cs') : Spec Tryz.prog S H0 120 [.agg cs.toArray, .agg cs'.toArray] (fun v => v = .bool true) := by
  obtain ⟨a1, c1, a2, c2, rfl, h1, h2⟩ := splitk_Purse h
  obtain ⟨b1, d1, b2, d2, rfl, k1, k2⟩ := splitk_Purse h'
  refine Spec.of1 Tryz.func120 rfl (by kernel_rfl) rfl (fun H _ => ?_)
  refine KW.cF rfl rfl (by first | (simp; done) | decide) ?_
  refine KW.callE rfl rfl rfl rfl rfl (eq_Int64S hB.2.1 (On.R h1) (On.R k1)) (fun _ _ => ?_)
  refine KW.cF rfl rfl (by first | (simp; done) | decide) ?_
  refine KW.callE rfl rfl rfl rfl rfl (eq_Int64S hB.2.2 (On.R h2) (On.R k2)) (fun _ _ => ?_)
  refine KW.cF rfl rfl (by first | (simp; done) | decide) ?_
  exact KW.ret rfl rfl rfl rfl (rfl)
end
end Go.Proofs.YtijmkfnmdhpakaaGreat.Am
/- What the laws' own functions do at Seat: sizes, copies, equality, marks. Each holds under its own conditions. -/
set_option linter.unusedVariables false
set_option maxRecDepth 20000
namespace Go.Proofs.YtijmkfnmdhpakaaGreat.Am
open Go Go.RowKit Go.Proofs
abbrev M_Seat : Kn T_Seat := Kn.mp (M_Purse) (Kn.mp (M_Purse) (KI))
theorem le_Seat : KLe M_Seat K_Seat := KLe.pair (le_Purse) (KLe.pair (le_Purse) ((KLe.refl KI)))
abbrev B_Seat (x : T_Seat) : Prop := B_Purse x.1 ∧ B_Purse x.2.1 ∧ I64 x.2.2
abbrev W_Seat (x : T_Seat) : Prop := W_Purse x.1 ∧ W_Purse x.2.1 ∧ I64 x.2.2
abbrev sz_Seat (x : T_Seat) : Nat := sz_Purse x.1 + sz_Purse x.2.1
abbrev mkk_Seat (k : Int) (x : T_Seat) : T_Seat := (mkk_Purse (k) x.1, mkk_Purse (k + (sz_Purse x.1 : Nat)) x.2.1, x.2.2)
theorem size_Seat {x : T_Seat} (hB : B_Seat x) : sz_Seat x ≤ 4194304 := by have := size_Purse hB.1; have := size_Purse hB.2.1; simp only [sz_Seat]; omega
section
variable {S : Ids} {H0 : AH} {W : Ids} {left k : Int}
theorem form_Seat {x : T_Seat} {cs : List Value} (h : K_Seat.R S H0 x cs) : ∃ a1 c1 a2 c2 a3 c3 a4 c4, cs = [.int .i64 x.1.1, .slice a1 x.1.2.1.length c1, .slice a2 x.1.2.2.length c2, .int .i64 x.2.1.1, .slice a3 x.2.1.2.1.length c3, .slice a4 x.2.1.2.2.length c4, .int .i64 x.2.2] := by
  obtain ⟨e0, d0, rfl, h0, h0_⟩ := h
  obtain ⟨e1, d1, rfl, h1, h1_⟩ := h0_
  have h2 := h1_
  obtain ⟨a1, c1, a2, c2, rfl⟩ := form_Purse h0
  obtain ⟨a3, c3, a4, c4, rfl⟩ := form_Purse h1
  obtain rfl := KI_of h2
  exact ⟨a1, c1, a2, c2, a3, c3, a4, c4, rfl⟩
theorem formM_Seat {x : T_Seat} {cs : List Value} (h : M_Seat.R S H0 x cs) : ∃ a1 c1 a2 c2 a3 c3 a4 c4, cs = [.int .i64 x.1.1, .slice a1 x.1.2.1.length c1, .slice a2 x.1.2.2.length c2, .int .i64 x.2.1.1, .slice a3 x.2.1.2.1.length c3, .slice a4 x.2.1.2.2.length c4, .int .i64 x.2.2] := form_Seat (le_Seat.2 _ _ _ _ h)
theorem splitk_Seat {x : T_Seat} {cs : List Value} (h : K_Seat.R S H0 x cs) : ∃ a1 c1 a2 c2 a3 c3 a4 c4, cs = [.int .i64 x.1.1, .slice a1 x.1.2.1.length c1, .slice a2 x.1.2.2.length c2, .int .i64 x.2.1.1, .slice a3 x.2.1.2.1.length c3, .slice a4 x.2.1.2.2.length c4, .int .i64 x.2.2] ∧ K_Purse.R S H0 x.1 [.int .i64 x.1.1, .slice a1 x.1.2.1.length c1, .slice a2 x.1.2.2.length c2] ∧ K_Purse.R S H0 x.2.1 [.int .i64 x.2.1.1, .slice a3 x.2.1.2.1.length c3, .slice a4 x.2.1.2.2.length c4] := by
  obtain ⟨e0, d0, rfl, h0, h0_⟩ := h
  obtain ⟨e1, d1, rfl, h1, h1_⟩ := h0_
  have h2 := h1_
  obtain ⟨a1, c1, a2, c2, rfl⟩ := form_Purse h0
  obtain ⟨a3, c3, a4, c4, rfl⟩ := form_Purse h1
  obtain rfl := KI_of h2
  exact ⟨a1, c1, a2, c2, a3, c3, a4, c4, rfl, h0, h1⟩
theorem splitM_Seat {x : T_Seat} {cs : List Value} (h : M_Seat.R S H0 x cs) : ∃ (a1 : Option Addr) (c1 : Nat) (a2 : Option Addr) (c2 : Nat) (a3 : Option Addr) (c3 : Nat) (a4 : Option Addr) (c4 : Nat) (X0 : Ids) (X1 : Ids), cs = [.int .i64 x.1.1, .slice a1 x.1.2.1.length c1, .slice a2 x.1.2.2.length c2, .int .i64 x.2.1.1, .slice a3 x.2.1.2.1.length c3, .slice a4 x.2.1.2.2.length c4, .int .i64 x.2.2] ∧ M_Purse.R X0 H0 x.1 [.int .i64 x.1.1, .slice a1 x.1.2.1.length c1, .slice a2 x.1.2.2.length c2] ∧ M_Purse.R X1 H0 x.2.1 [.int .i64 x.2.1.1, .slice a3 x.2.1.2.1.length c3, .slice a4 x.2.1.2.2.length c4] ∧ (∀ id, X0 id → S id) ∧ (∀ id, X1 id → S id) ∧ (∀ id, X0 id → X1 id → False) := by
  obtain ⟨e0, d0, X0, Y0, rfl, i0, j0, q0, h0, h0_⟩ := h
  obtain ⟨e1, d1, X1, Y1, rfl, i1, j1, q1, h1, h1_⟩ := h0_
  have h2 := h1_
  obtain ⟨a1, c1, a2, c2, rfl⟩ := formM_Purse h0
  obtain ⟨a3, c3, a4, c4, rfl⟩ := formM_Purse h1
  obtain rfl := KI_of h2
  exact ⟨a1, c1, a2, c2, a3, c3, a4, c4, X0, X1, rfl, h0, h1, fun _ p => i0 _ p, fun _ p => j0 _ (i1 _ p), fun _ o p => q0 _ o (i1 _ p)⟩
theorem splitF_Seat {x : T_Seat} {cs : List Value} (h : M_Seat.R S H0 x cs) : ∃ (a1 : Option Addr) (c1 : Nat) (a2 : Option Addr) (c2 : Nat) (a3 : Option Addr) (c3 : Nat) (a4 : Option Addr) (c4 : Nat) (X1 : Ids) (X2 : Ids) (X4 : Ids) (X5 : Ids), cs = [.int .i64 x.1.1, .slice a1 x.1.2.1.length c1, .slice a2 x.1.2.2.length c2, .int .i64 x.2.1.1, .slice a3 x.2.1.2.1.length c3, .slice a4 x.2.1.2.2.length c4, .int .i64 x.2.2] ∧ M_Int64S.R X1 H0 x.1.2.1 [.slice a1 x.1.2.1.length c1] ∧ M_Int64S.R X2 H0 x.1.2.2 [.slice a2 x.1.2.2.length c2] ∧ M_Int64S.R X4 H0 x.2.1.2.1 [.slice a3 x.2.1.2.1.length c3] ∧ M_Int64S.R X5 H0 x.2.1.2.2 [.slice a4 x.2.1.2.2.length c4] ∧ (∀ id, X1 id → S id) ∧ (∀ id, X2 id → S id) ∧ (∀ id, X4 id → S id) ∧ (∀ id, X5 id → S id) ∧ (∀ id, X1 id → X2 id → False) ∧ (∀ id, X1 id → X4 id → False) ∧ (∀ id, X1 id → X5 id → False) ∧ (∀ id, X2 id → X4 id → False) ∧ (∀ id, X2 id → X5 id → False) ∧ (∀ id, X4 id → X5 id → False) := by
  obtain ⟨a1, c1, a2, c2, a3, c3, a4, c4, Y0, Y1, rfl, h0, h1, i0, i1, q⟩ := splitM_Seat h
  obtain ⟨b1, e1, b2, e2, X1, X2, hc1, g1, g2, j1, j2, q1⟩ := splitM_Purse h0
  obtain ⟨b3, e3, b4, e4, X4, X5, hc2, g4, g5, j4, j5, q4⟩ := splitM_Purse h1
  simp only [List.cons.injEq, Value.slice.injEq, and_true, true_and] at hc1 hc2
  obtain ⟨⟨rfl, rfl⟩, ⟨rfl, rfl⟩⟩ := hc1
  obtain ⟨⟨rfl, rfl⟩, ⟨rfl, rfl⟩⟩ := hc2
  exact ⟨_, _, _, _, _, _, _, _, X1, X2, X4, X5, rfl, g1, g2, g4, g5, fun id p => i0 id (j1 id p), fun id p => i0 id (j2 id p), fun id p => i1 id (j4 id p), fun id p => i1 id (j5 id p), q1, fun id p r => q id (j1 id p) (j4 id r), fun id p r => q id (j1 id p) (j5 id r), fun id p r => q id (j2 id p) (j4 id r), fun id p r => q id (j2 id p) (j5 id r), q4⟩
theorem splitkF_Seat {x : T_Seat} {cs : List Value} (h : K_Seat.R S H0 x cs) : ∃ a1 c1 a2 c2 a3 c3 a4 c4, cs = [.int .i64 x.1.1, .slice a1 x.1.2.1.length c1, .slice a2 x.1.2.2.length c2, .int .i64 x.2.1.1, .slice a3 x.2.1.2.1.length c3, .slice a4 x.2.1.2.2.length c4, .int .i64 x.2.2] ∧ K_Int64S.R S H0 x.1.2.1 [.slice a1 x.1.2.1.length c1] ∧ K_Int64S.R S H0 x.1.2.2 [.slice a2 x.1.2.2.length c2] ∧ K_Int64S.R S H0 x.2.1.2.1 [.slice a3 x.2.1.2.1.length c3] ∧ K_Int64S.R S H0 x.2.1.2.2 [.slice a4 x.2.1.2.2.length c4] := by
  obtain ⟨ps, qs, rfl, h1, h2⟩ := split_Seat h
  obtain ⟨a1, c1, a2, c2, rfl, g1, g2⟩ := split_Purse h1
  obtain ⟨a3, c3, a4, c4, rfl, g3, g4⟩ := split_Purse h2
  exact ⟨_, _, _, _, _, _, _, _, rfl, sl1' g1, sl1' g2, sl1' g3, sl1' g4⟩
theorem eq_Seat {x : T_Seat} {cs cs' : List Value} (hB : B_Seat x) (h : K_Seat.R S H0 x cs) (h' : K_Seat.R S H0 x cs') : Spec Tryz.prog S H0 85 [.agg cs.toArray, .agg cs'.toArray] (fun v => v = .bool true) := by
  obtain ⟨a1, c1, a2, c2, a3, c3, a4, c4, rfl, h0, h1⟩ := splitk_Seat h
  obtain ⟨b1, d1, b2, d2, b3, d3, b4, d4, rfl, k0, k1⟩ := splitk_Seat h'
  refine Spec.of1 Tryz.func85 rfl (by kernel_rfl) rfl (fun H _ => ?_)
  refine KW.callE rfl rfl rfl rfl rfl (eq_Purse hB.1 (On.R h0) (On.R k0)) (fun _ _ => ?_)
  refine KW.cF rfl rfl (by first | (simp; done) | decide) ?_
  refine KW.callE rfl rfl rfl rfl rfl (eq_Purse hB.2.1 (On.R h1) (On.R k1)) (fun _ _ => ?_)
  refine KW.cF rfl rfl (by first | (simp; done) | decide) ?_
  refine KW.cF rfl rfl (by first | (simp; done) | decide) ?_
  exact KW.ret rfl rfl rfl rfl (rfl)
end
end Go.Proofs.YtijmkfnmdhpakaaGreat.Am
/- What the laws' own functions do at slices of Seat: sizes, copies, equality, marks. Each holds under its own conditions. -/
set_option linter.unusedVariables false
set_option maxRecDepth 20000
namespace Go.Proofs.YtijmkfnmdhpakaaGreat.Am
open Go Go.RowKit Go.Proofs
abbrev T_SeatS : Type := List T_Seat
abbrev K_SeatS : Kn (List T_Seat) := K_Seat.sl
abbrev M_SeatS : Kn (List T_Seat) := M_Seat.ml
theorem le_SeatS : KLe M_SeatS K_SeatS := KLe.row le_Seat
abbrev szE_Seat (x : T_Seat) : Nat := 1 + sz_Int64S x.1.2.1 + sz_Int64S x.1.2.2 + 1 + sz_Int64S x.2.1.2.1 + sz_Int64S x.2.1.2.2 + 1
abbrev tsE_Seat (x : T_Seat) : Nat := 0 + sz_Int64S x.1.2.1 + sz_Int64S x.1.2.2 + sz_Int64S x.2.1.2.1 + sz_Int64S x.2.1.2.2
abbrev mkE_Seat (k : Int) (x : T_Seat) : T_Seat := ((k, mk_Int64S (k + ((1 : Nat) : Int)) x.1.2.1, mk_Int64S (k + ((1 + sz_Int64S x.1.2.1 : Nat) : Int)) x.1.2.2), (k + ((1 + sz_Int64S x.1.2.1 + sz_Int64S x.1.2.2 : Nat) : Int), mk_Int64S (k + ((1 + sz_Int64S x.1.2.1 + sz_Int64S x.1.2.2 + 1 : Nat) : Int)) x.2.1.2.1, mk_Int64S (k + ((1 + sz_Int64S x.1.2.1 + sz_Int64S x.1.2.2 + 1 + sz_Int64S x.2.1.2.1 : Nat) : Int)) x.2.1.2.2), k + ((1 + sz_Int64S x.1.2.1 + sz_Int64S x.1.2.2 + 1 + sz_Int64S x.2.1.2.1 + sz_Int64S x.2.1.2.2 : Nat) : Int))
structure B_SeatS (x : List T_Seat) : Prop where
  len : x.length ≤ 1048576
  each : ∀ y ∈ x, B_Seat y
  tot : sum (x.map szE_Seat) ≤ 16777216
abbrev W_SeatS (x : List T_Seat) : Prop := x.length ≤ 9223372036854775807 ∧ ∀ y ∈ x, W_Seat y
abbrev sz_SeatS (x : List T_Seat) : Nat := sum (x.map szE_Seat)
abbrev mk_SeatS (k : Int) (x : List T_Seat) : List T_Seat := mks mkE_Seat szE_Seat k x
theorem size_SeatS {x : List T_Seat} (hB : B_SeatS x) : sz_SeatS x ≤ 16777216 := hB.tot
theorem ts_SeatS (l : List T_Seat) : sum (l.map szE_Seat) = sum (l.map tsE_Seat) + 3 * l.length := by
  induction l with
  | nil => rfl
  | cons x l ih => simp only [List.map_cons, sum, List.length_cons, ih, szE_Seat, tsE_Seat]; omega
theorem one_Seat {S : Ids} {H0 : AH} {x : T_Seat} {cs : List Value} (h : M_Seat.R S H0 x cs) : cs.all Value.oneCell' = true := by
  obtain ⟨a1, c1, a2, c2, a3, c3, a4, c4, rfl⟩ := formM_Seat h
  rfl
section
variable {S : Ids} {H0 : AH} {W : Ids} {a a' : Option Addr} {c c' : Nat} {left k : Int}
theorem eq_SeatS {x : List T_Seat} (hB : B_SeatS x) (hs : K_SeatS.R S H0 x [.slice a x.length c]) (hs' : K_SeatS.R S H0 x [.slice a' x.length c']) : Spec Tryz.prog S H0 54 [.slice a x.length c, .slice a' x.length c'] (fun v => v = .bool true) := by
  have hs := sl1 hs
  have hs' := sl1 hs'
  have hl := hB.len
  refine Spec.of1 Tryz.func54 rfl (by kernel_rfl) rfl (fun H _ => ?_)
  refine KW.cF rfl rfl (by first | (simp; done) | decide) ?_
  refine KW.lp rfl rfl (fun i : Nat => [(0, .slice a x.length c), (1, .slice a' x.length c'), (5, .int .i64 i)]) (fun i => i ≤ x.length) (fun i => x.length - i) (0) (by omega) ⟨rfl, rfl, rfl, trivial⟩ (fun i hi bE n => ?_)
  refine KW.cnd rfl rfl (fun h => ?_) (fun h => ?_)
  · refine KW.getS (td := .struct #[]) hs.up rfl rfl rfl rfl rfl rfl rfl rfl rfl rfl rfl rfl rfl rfl rfl rfl rfl (by omega) h (fun y cy hy hsy => ?_)
    refine KW.getS (td := .struct #[]) hs'.up rfl rfl rfl rfl rfl rfl rfl rfl rfl rfl rfl rfl rfl rfl rfl rfl rfl (by omega) h (fun z cz hz hsz => ?_)
    have hy : x[i]? = some y := hy
    have hz : x[i]? = some z := hz
    rw [hy] at hz
    cases hz
    refine KW.callE rfl rfl rfl rfl rfl (eq_Seat (hB.each y (List.mem_of_getElem? hy)) hsy hsz) (fun _ _ => ?_)
    refine KW.cF rfl rfl (by first | (simp; done) | decide) ?_
    refine KW.nxt rfl rfl (fun H' g => ⟨i + 1, by omega, by first | omega | (simp only; omega), ⟨rfl, rfl, congrArg (Value.int .i64) (inc64 (by omega)), trivial⟩, g⟩)
  · exact KW.ret rfl rfl rfl rfl (rfl)
theorem mark_SeatS {x : List T_Seat} (hB : B_SeatS x) (hk : Mk k (sz_SeatS x)) (hW : ∀ id, W id → S id) (hs : M_SeatS.R W H0 x [.slice a x.length c]) : SpecW Tryz.prog S H0 W 57 [.slice a x.length c, .int .i64 k] (fun n v H1 => v = .int .i64 (k + (sz_SeatS x : Nat)) ∧ M_SeatS.R W H1 (mk_SeatS k x) [.slice a x.length c]) := by
  have hs := ml1 hs
  have hl := hB.len
  have hk1 := hk.1
  have hk2 : k + (sum (x.map szE_Seat) : Nat) ≤ 274877906944 := hk.2
  rcases hs with ⟨rfl, a0, c0, he, ha⟩ | ⟨o, c1, bb, Ws, he, h2, h3, h4, h5, h6, h7, h8, h9⟩
  · refine SpecM.w ?_
    refine SpecM.of Tryz.func57 rfl (by kernel_rfl) rfl (fun H hfin hfz => ?_)
    refine KW.lp rfl rfl (fun _ : Unit => [(0, .slice a 0 c), (1, .int .i64 k), (5, .int .i64 0)]) (fun _ => True) (fun _ => 0) () trivial ⟨rfl, rfl, rfl, trivial⟩ (fun _ _ b n => ?_)
    refine KW.cF rfl rfl (by decide) ?_
    exact KW.retM rfl rfl rfl rfl (fun id hid => ⟨hid, rfl⟩) (fun H1 g => ⟨congrArg (Value.int .i64) (by simp [sz_SeatS, sum]), ml1' (.inl ⟨rfl, a, c, rfl, by cases he; exact ha⟩)⟩)
  · cases he
    refine SpecW.of0 Tryz.func57 rfl (by kernel_rfl) rfl (fun H hfin hfz => ?_)
    obtain ⟨ho1, ho2⟩ := hfz o (hW o h3)
    have hWl : ∀ id, W id → id < H.n := fun id hid => (hfz id (hW id hid)).1
    have h4 := ho2.trans h4
    obtain ⟨ty, rw_, cs0⟩ := bb
    obtain rfl : rw_ = true := h5
    have h6 : x.length * 7 ≤ cs0.length := h6
    refine KW.thaw o ⟨ty, true, cs0⟩ ho1 h4 ?_
    refine KW.lpM rfl rfl (fun s : Nat × Ids × AH × List Value => [(0, .slice (some ⟨o, 0, some 7⟩) x.length c), (1, .int .i64 (k + (sum ((x.map szE_Seat).take s.1) : Nat))), (5, .int .i64 s.1)]) (fun s => s.2.1) (fun s => s.2.2.1) (fun s => [(o, ⟨ty, true, s.2.2.2⟩)])
      (fun s => s.1 ≤ x.length ∧ (∀ id, id < H.n → id ≠ o → s.2.1 id) ∧ (∀ id, id < H.n → id ≠ o → (∀ j, ¬ Ws j id) → s.2.2.1.m id = H.m id) ∧ MkRow M_Seat mkE_Seat szE_Seat x k Ws cs0.length s.1 s.2.2.1 s.2.2.2)
      (fun s => x.length - s.1) (0, fun id => Low H.n id ∧ id ≠ o, H, cs0) ⟨by omega, fun id h1 h2 => ⟨h1, h2⟩, fun id _ _ _ => rfl, rfl, fun j y hx' => ⟨fun _ => (M_Seat).same (fun id hid => (hfz id (hW id (h7 j id hid).1)).2) (h9 j y hx'), fun h => absurd h (by simp)⟩⟩ ⟨rfl, congrArg (Value.int .i64) (by simp [sum]), rfl, trivial⟩ rfl rfl rfl (fun s hi b n => ?_)
    obtain ⟨i, S1, A, cs⟩ := s
    obtain ⟨hi0, hi1, hi2, hi3⟩ := hi
    simp only at hi0 hi1 hi2 hi3
    refine KW.cnd rfl rfl (fun h => ?_) (fun h => ?_)
    · have hil : i < x.length := by omega
      obtain ⟨y, hy⟩ : ∃ y, x[i]? = some y := ⟨x[i], List.getElem?_eq_getElem hil⟩
      have hBy := hB.each y (List.mem_of_getElem? hy)
      have hrow := (hi3.row i y hy).1 (Nat.le_refl _)
      have hyl : (x.map szE_Seat)[i]? = some (szE_Seat y) := by simp [hy]
      have hsum := sum_take hyl
      have hsl := sum_le (l := x.map szE_Seat) (i + 1)
      have hcl := hi3.len
      obtain ⟨a1, c1, a2, c2, a3, c3, a4, c4, X1, X2, X4, X5, hsv, h1, h2, h4, h5, i1, i2, i4, i5, q1_2, q1_4, q1_5, q2_4, q2_5, q4_5⟩ := splitF_Seat hrow
      have c_0 := seg_at (q := 0) hsv rfl
      have c_1 := seg_at (q := 1) hsv rfl
      have c_2 := seg_at (q := 2) hsv rfl
      have c_3 := seg_at (q := 3) hsv rfl
      have c_4 := seg_at (q := 4) hsv rfl
      have c_5 := seg_at (q := 5) hsv rfl
      have c_6 := seg_at (q := 6) hsv rfl
      have hsz : szE_Seat y = 1 + sz_Int64S y.1.2.1 + sz_Int64S y.1.2.2 + 1 + sz_Int64S y.2.1.2.1 + sz_Int64S y.2.1.2.2 + 1 := rfl
      have F1 : Fk M_Int64S X1 S1 A _ _ := ⟨h1, fun id p => by have := h7 i id (i1 id p); exact hi1 id (hWl id this.1) this.2⟩
      have V1 : ∀ id, X1 id → id < H.n := fun id p => hWl id (h7 i id (i1 id p)).1
      have F2 : Fk M_Int64S X2 S1 A _ _ := ⟨h2, fun id p => by have := h7 i id (i2 id p); exact hi1 id (hWl id this.1) this.2⟩
      have V2 : ∀ id, X2 id → id < H.n := fun id p => hWl id (h7 i id (i2 id p)).1
      have F4 : Fk M_Int64S X4 S1 A _ _ := ⟨h4, fun id p => by have := h7 i id (i4 id p); exact hi1 id (hWl id this.1) this.2⟩
      have V4 : ∀ id, X4 id → id < H.n := fun id p => hWl id (h7 i id (i4 id p)).1
      have F5 : Fk M_Int64S X5 S1 A _ _ := ⟨h5, fun id p => by have := h7 i id (i5 id p); exact hi1 id (hWl id this.1) this.2⟩
      have V5 : ∀ id, X5 id → id < H.n := fun id p => hWl id (h7 i id (i5 id p)).1
      have T : ∀ id, id < H.n → id ≠ o → S1 id ∧ ((¬ Ws i id) → A.m id = A.m id) := fun id h1 h2 => ⟨hi1 id h1 h2, fun _ => rfl⟩
      have w_0 : (k + (sum ((x.map szE_Seat).take i) : Nat)) = (k + (sum ((x.map szE_Seat).take i) : Nat)) := rfl
      have w_1 : IntKind.i64.wrap ((k + (sum ((x.map szE_Seat).take i) : Nat)) + 1) = ((k + (sum ((x.map szE_Seat).take i) : Nat)) + ((1 : Nat) : Int)) := (wr (by omega) (by omega)).trans (by omega)
      have w_2 : (((k + (sum ((x.map szE_Seat).take i) : Nat)) + ((1 : Nat) : Int)) + (sz_Int64S y.1.2.1 : Nat)) = ((k + (sum ((x.map szE_Seat).take i) : Nat)) + ((1 + sz_Int64S y.1.2.1 : Nat) : Int)) := by omega
      have w_3 : (((k + (sum ((x.map szE_Seat).take i) : Nat)) + ((1 + sz_Int64S y.1.2.1 : Nat) : Int)) + (sz_Int64S y.1.2.2 : Nat)) = ((k + (sum ((x.map szE_Seat).take i) : Nat)) + ((1 + sz_Int64S y.1.2.1 + sz_Int64S y.1.2.2 : Nat) : Int)) := by omega
      have w_4 : IntKind.i64.wrap ((((k + (sum ((x.map szE_Seat).take i) : Nat)) + ((1 + sz_Int64S y.1.2.1 : Nat) : Int)) + (sz_Int64S y.1.2.2 : Nat)) + 1) = ((k + (sum ((x.map szE_Seat).take i) : Nat)) + ((1 + sz_Int64S y.1.2.1 + sz_Int64S y.1.2.2 + 1 : Nat) : Int)) := by
        rw [w_3]
        exact (wr (by omega) (by omega)).trans (by omega)
      have w_5 : (((k + (sum ((x.map szE_Seat).take i) : Nat)) + ((1 + sz_Int64S y.1.2.1 + sz_Int64S y.1.2.2 + 1 : Nat) : Int)) + (sz_Int64S y.2.1.2.1 : Nat)) = ((k + (sum ((x.map szE_Seat).take i) : Nat)) + ((1 + sz_Int64S y.1.2.1 + sz_Int64S y.1.2.2 + 1 + sz_Int64S y.2.1.2.1 : Nat) : Int)) := by omega
      have w_6 : (((k + (sum ((x.map szE_Seat).take i) : Nat)) + ((1 + sz_Int64S y.1.2.1 + sz_Int64S y.1.2.2 + 1 + sz_Int64S y.2.1.2.1 : Nat) : Int)) + (sz_Int64S y.2.1.2.2 : Nat)) = ((k + (sum ((x.map szE_Seat).take i) : Nat)) + ((1 + sz_Int64S y.1.2.1 + sz_Int64S y.1.2.2 + 1 + sz_Int64S y.2.1.2.1 + sz_Int64S y.2.1.2.2 : Nat) : Int)) := by omega
      have w_7 : IntKind.i64.wrap ((((k + (sum ((x.map szE_Seat).take i) : Nat)) + ((1 + sz_Int64S y.1.2.1 + sz_Int64S y.1.2.2 + 1 + sz_Int64S y.2.1.2.1 : Nat) : Int)) + (sz_Int64S y.2.1.2.2 : Nat)) + 1) = ((k + (sum ((x.map szE_Seat).take i) : Nat)) + ((1 + sz_Int64S y.1.2.1 + sz_Int64S y.1.2.2 + 1 + sz_Int64S y.2.1.2.1 + sz_Int64S y.2.1.2.2 + 1 : Nat) : Int)) := by
        rw [w_6]
        exact (wr (by omega) (by omega)).trans (by omega)
      refine KW.idx0 rfl rfl rfl rfl rfl rfl rfl rfl rfl (by omega) (by omega) ?_
      refine KW.st1 0 rfl rfl rfl rfl rfl rfl rfl rfl rfl rfl rfl rfl (lt_of c_0) ?_
      refine KW.idx0 rfl rfl rfl rfl rfl rfl rfl rfl rfl (by omega) (by omega) ?_
      refine KW.ldT 0 rfl rfl rfl rfl rfl rfl (bload_at (set_ne c_1 (by show 0 + i * 7 + 0 ≠ 0 + i * 7 + 1; omega)) rfl rfl) ?_
      refine KW.callW F1.i rfl rfl rfl rfl rfl (mark_I (k := ((k + (sum ((x.map szE_Seat).take i) : Nat)) + ((1 : Nat) : Int))) w_1 (mark_Int64S (hBy.1.2.1) (k := ((k + (sum ((x.map szE_Seat).take i) : Nat)) + ((1 : Nat) : Int))) (by constructor <;> omega) F1.i F1.r)) (fun v H1 S3 m1 t1 w1 hv => ?_)
      obtain ⟨rfl, g1⟩ := hv
      have F1 : Fk M_Int64S X1 S3 H1 _ _ := ⟨g1, fun id hid => (t1 id (F1.i id hid)).1⟩
      have F2 := F2.w t1 (fun id p o => q1_2 id o p)
      have F4 := F4.w t1 (fun id p o => q1_4 id o p)
      have F5 := F5.w t1 (fun id p o => q1_5 id o p)
      have T : ∀ id, id < H.n → id ≠ o → S3 id ∧ ((¬ Ws i id) → H1.m id = A.m id) := fun id h1 h2 => ⟨(t1 id (T id h1 h2).1).1, fun hw => ((t1 id (T id h1 h2).1).2 (fun o => hw (i1 id o))).trans ((T id h1 h2).2 hw)⟩
      refine KW.idx0 rfl rfl rfl rfl rfl rfl rfl rfl rfl (by omega) (by omega) ?_
      refine KW.ldT 0 rfl rfl rfl rfl rfl rfl (bload_at (set_ne c_2 (by show 0 + i * 7 + 0 ≠ 0 + i * 7 + 2; omega)) rfl rfl) ?_
      refine KW.callW F2.i rfl rfl rfl rfl rfl (mark_I (k := ((k + (sum ((x.map szE_Seat).take i) : Nat)) + ((1 + sz_Int64S y.1.2.1 : Nat) : Int))) w_2 (mark_Int64S (hBy.1.2.2) (k := ((k + (sum ((x.map szE_Seat).take i) : Nat)) + ((1 + sz_Int64S y.1.2.1 : Nat) : Int))) (by constructor <;> omega) F2.i F2.r)) (fun v H2 S4 m2 t2 w2 hv => ?_)
      obtain ⟨rfl, g2⟩ := hv
      have F2 : Fk M_Int64S X2 S4 H2 _ _ := ⟨g2, fun id hid => (t2 id (F2.i id hid)).1⟩
      have F1 := F1.w t2 (fun id p o => q1_2 id p o)
      have F4 := F4.w t2 (fun id p o => q2_4 id o p)
      have F5 := F5.w t2 (fun id p o => q2_5 id o p)
      have T : ∀ id, id < H.n → id ≠ o → S4 id ∧ ((¬ Ws i id) → H2.m id = A.m id) := fun id h1 h2 => ⟨(t2 id (T id h1 h2).1).1, fun hw => ((t2 id (T id h1 h2).1).2 (fun o => hw (i2 id o))).trans ((T id h1 h2).2 hw)⟩
      refine KW.idx0 rfl rfl rfl rfl rfl rfl rfl rfl rfl (by omega) (by omega) ?_
      refine KW.st1 0 rfl rfl rfl rfl rfl rfl rfl rfl rfl rfl rfl rfl (lt_of (set_ne c_3 (by show 0 + i * 7 + 0 ≠ 0 + i * 7 + 3; omega))) ?_
      refine KW.idx0 rfl rfl rfl rfl rfl rfl rfl rfl rfl (by omega) (by omega) ?_
      refine KW.ldT 0 rfl rfl rfl rfl rfl rfl (bload_at (set_ne (set_ne c_4 (by show 0 + i * 7 + 0 ≠ 0 + i * 7 + 4; omega)) (by show 0 + i * 7 + 3 ≠ 0 + i * 7 + 4; omega)) rfl rfl) ?_
      refine KW.callW F4.i rfl rfl rfl rfl rfl (mark_I (k := ((k + (sum ((x.map szE_Seat).take i) : Nat)) + ((1 + sz_Int64S y.1.2.1 + sz_Int64S y.1.2.2 + 1 : Nat) : Int))) w_4 (mark_Int64S (hBy.2.1.2.1) (k := ((k + (sum ((x.map szE_Seat).take i) : Nat)) + ((1 + sz_Int64S y.1.2.1 + sz_Int64S y.1.2.2 + 1 : Nat) : Int))) (by constructor <;> omega) F4.i F4.r)) (fun v H4 S6 m4 t4 w4 hv => ?_)
      obtain ⟨rfl, g4⟩ := hv
      have F4 : Fk M_Int64S X4 S6 H4 _ _ := ⟨g4, fun id hid => (t4 id (F4.i id hid)).1⟩
      have F1 := F1.w t4 (fun id p o => q1_4 id p o)
      have F2 := F2.w t4 (fun id p o => q2_4 id p o)
      have F5 := F5.w t4 (fun id p o => q4_5 id o p)
      have T : ∀ id, id < H.n → id ≠ o → S6 id ∧ ((¬ Ws i id) → H4.m id = A.m id) := fun id h1 h2 => ⟨(t4 id (T id h1 h2).1).1, fun hw => ((t4 id (T id h1 h2).1).2 (fun o => hw (i4 id o))).trans ((T id h1 h2).2 hw)⟩
      refine KW.idx0 rfl rfl rfl rfl rfl rfl rfl rfl rfl (by omega) (by omega) ?_
      refine KW.ldT 0 rfl rfl rfl rfl rfl rfl (bload_at (set_ne (set_ne c_5 (by show 0 + i * 7 + 0 ≠ 0 + i * 7 + 5; omega)) (by show 0 + i * 7 + 3 ≠ 0 + i * 7 + 5; omega)) rfl rfl) ?_
      refine KW.callW F5.i rfl rfl rfl rfl rfl (mark_I (k := ((k + (sum ((x.map szE_Seat).take i) : Nat)) + ((1 + sz_Int64S y.1.2.1 + sz_Int64S y.1.2.2 + 1 + sz_Int64S y.2.1.2.1 : Nat) : Int))) w_5 (mark_Int64S (hBy.2.1.2.2) (k := ((k + (sum ((x.map szE_Seat).take i) : Nat)) + ((1 + sz_Int64S y.1.2.1 + sz_Int64S y.1.2.2 + 1 + sz_Int64S y.2.1.2.1 : Nat) : Int))) (by constructor <;> omega) F5.i F5.r)) (fun v H5 S7 m5 t5 w5 hv => ?_)
      obtain ⟨rfl, g5⟩ := hv
      have F5 : Fk M_Int64S X5 S7 H5 _ _ := ⟨g5, fun id hid => (t5 id (F5.i id hid)).1⟩
      have F1 := F1.w t5 (fun id p o => q1_5 id p o)
      have F2 := F2.w t5 (fun id p o => q2_5 id p o)
      have F4 := F4.w t5 (fun id p o => q4_5 id p o)
      have T : ∀ id, id < H.n → id ≠ o → S7 id ∧ ((¬ Ws i id) → H5.m id = A.m id) := fun id h1 h2 => ⟨(t5 id (T id h1 h2).1).1, fun hw => ((t5 id (T id h1 h2).1).2 (fun o => hw (i5 id o))).trans ((T id h1 h2).2 hw)⟩
      refine KW.idx0 rfl rfl rfl rfl rfl rfl rfl rfl rfl (by omega) (by omega) ?_
      refine KW.st1 0 rfl rfl rfl rfl rfl rfl rfl rfl rfl rfl rfl rfl (lt_of (set_ne (set_ne c_6 (by show 0 + i * 7 + 0 ≠ 0 + i * 7 + 6; omega)) (by show 0 + i * 7 + 3 ≠ 0 + i * 7 + 6; omega))) ?_
      refine KW.nxt rfl rfl (fun H' g => ⟨(i + 1, S7, H5, _), ⟨by simp only; omega, fun id h1 h2 => (T id h1 h2).1, fun id h1 h2 hno => ((T id h1 h2).2 (hno i)).trans (hi2 id h1 h2 hno), hi3.next hy (by simp) (fun j hj => ?_) (fun j hj id hid => (T id (hWl id (h7 j id hid).1) (h7 j id hid).2).2 (fun hc => hj (h8 j i id hid hc))) ?_⟩, by simp only; omega, ⟨rfl, congrArg (Value.int .i64) ?_, congrArg (Value.int .i64) (inc64 (by omega)), trivial⟩, g⟩)
      · show List.take 7 (List.drop (0 + j * 7) _) = List.take 7 (List.drop (0 + j * 7) _)
        rcases Nat.lt_or_ge j i with hlt | hge
        · rw [seg_set (by right; show 0 + j * 7 + 7 ≤ 0 + i * 7 + 6; omega)]; rw [seg_set (by right; show 0 + j * 7 + 7 ≤ 0 + i * 7 + 3; omega)]; rw [seg_set (by right; show 0 + j * 7 + 7 ≤ 0 + i * 7 + 0; omega)]
        · have : i < j := by omega
          rw [seg_set (by left; show 0 + i * 7 + 6 < 0 + j * 7; omega)]; rw [seg_set (by left; show 0 + i * 7 + 3 < 0 + j * 7; omega)]; rw [seg_set (by left; show 0 + i * 7 + 0 < 0 + j * 7; omega)]
      · have e : ∀ (l : List Value), (l.drop (0 + i * 7)).take 7 = [.int .i64 (k + (sum ((x.map szE_Seat).take i) : Nat)), .slice a1 y.1.2.1.length c1, .slice a2 y.1.2.2.length c2, .int .i64 ((k + (sum ((x.map szE_Seat).take i) : Nat)) + ((1 + sz_Int64S y.1.2.1 + sz_Int64S y.1.2.2 : Nat) : Int)), .slice a3 y.2.1.2.1.length c3, .slice a4 y.2.1.2.2.length c4, .int .i64 ((k + (sum ((x.map szE_Seat).take i) : Nat)) + ((1 + sz_Int64S y.1.2.1 + sz_Int64S y.1.2.2 + 1 + sz_Int64S y.2.1.2.1 + sz_Int64S y.2.1.2.2 : Nat) : Int))] → (M_Seat).R (Ws i) H5 (mkE_Seat (k + (sum ((x.map szE_Seat).take i) : Nat)) y) ((l.drop (0 + i * 7)).take 7) := fun l hl => by
          rw [hl]
          have z1 : (KI).R None_ H5 ((k + (sum ((x.map szE_Seat).take i) : Nat)) + ((1 + sz_Int64S y.1.2.1 + sz_Int64S y.1.2.2 + 1 + sz_Int64S y.2.1.2.1 + sz_Int64S y.2.1.2.2 : Nat) : Int)) [.int .i64 ((k + (sum ((x.map szE_Seat).take i) : Nat)) + ((1 + sz_Int64S y.1.2.1 + sz_Int64S y.1.2.2 + 1 + sz_Int64S y.2.1.2.1 + sz_Int64S y.2.1.2.2 : Nat) : Int))] := (show KI.R None_ H5 _ [.int .i64 ((k + (sum ((x.map szE_Seat).take i) : Nat)) + ((1 + sz_Int64S y.1.2.1 + sz_Int64S y.1.2.2 + 1 + sz_Int64S y.2.1.2.1 + sz_Int64S y.2.1.2.2 : Nat) : Int))] from rfl)
          have z2 : (M_Int64S).R (fun id => X5 id) H5 (mk_Int64S ((k + (sum ((x.map szE_Seat).take i) : Nat)) + ((1 + sz_Int64S y.1.2.1 + sz_Int64S y.1.2.2 + 1 + sz_Int64S y.2.1.2.1 : Nat) : Int)) y.2.1.2.2) [.slice a4 y.2.1.2.2.length c4] := F5.r
          have z3 : (Kn.mp (M_Int64S) (M_Int64S)).R (fun id => X4 id ∨ X5 id) H5 ((mk_Int64S ((k + (sum ((x.map szE_Seat).take i) : Nat)) + ((1 + sz_Int64S y.1.2.1 + sz_Int64S y.1.2.2 + 1 : Nat) : Int)) y.2.1.2.1), (mk_Int64S ((k + (sum ((x.map szE_Seat).take i) : Nat)) + ((1 + sz_Int64S y.1.2.1 + sz_Int64S y.1.2.2 + 1 + sz_Int64S y.2.1.2.1 : Nat) : Int)) y.2.1.2.2)) [.slice a3 y.2.1.2.1.length c3, .slice a4 y.2.1.2.2.length c4] := mpR (X := (fun id => X4 id)) (Y := (fun id => X5 id)) F4.r z2 (fun id p => by first | exact p | simp [p]) (fun id p => by first | exact p | simp [p]) (fun id o p => by first | exact q4_5 _ o p)
          have z4 : (Kn.mp (KI) (Kn.mp (M_Int64S) (M_Int64S))).R (fun id => X4 id ∨ X5 id) H5 (((k + (sum ((x.map szE_Seat).take i) : Nat)) + ((1 + sz_Int64S y.1.2.1 + sz_Int64S y.1.2.2 : Nat) : Int)), (mk_Int64S ((k + (sum ((x.map szE_Seat).take i) : Nat)) + ((1 + sz_Int64S y.1.2.1 + sz_Int64S y.1.2.2 + 1 : Nat) : Int)) y.2.1.2.1), (mk_Int64S ((k + (sum ((x.map szE_Seat).take i) : Nat)) + ((1 + sz_Int64S y.1.2.1 + sz_Int64S y.1.2.2 + 1 + sz_Int64S y.2.1.2.1 : Nat) : Int)) y.2.1.2.2)) [.int .i64 ((k + (sum ((x.map szE_Seat).take i) : Nat)) + ((1 + sz_Int64S y.1.2.1 + sz_Int64S y.1.2.2 : Nat) : Int)), .slice a3 y.2.1.2.1.length c3, .slice a4 y.2.1.2.2.length c4] := mpR (X := None_) (Y := (fun id => X4 id ∨ X5 id)) (show KI.R None_ H5 _ [.int .i64 ((k + (sum ((x.map szE_Seat).take i) : Nat)) + ((1 + sz_Int64S y.1.2.1 + sz_Int64S y.1.2.2 : Nat) : Int))] from rfl) z3 (fun id p => by exact p.elim) (fun id p => by rcases p with p | p <;> simp [p]) (fun id o p => by first | exact o.elim | exact p.elim)
          have z5 : (Kn.mp (M_Purse) (KI)).R (fun id => X4 id ∨ X5 id) H5 ((((k + (sum ((x.map szE_Seat).take i) : Nat)) + ((1 + sz_Int64S y.1.2.1 + sz_Int64S y.1.2.2 : Nat) : Int)), (mk_Int64S ((k + (sum ((x.map szE_Seat).take i) : Nat)) + ((1 + sz_Int64S y.1.2.1 + sz_Int64S y.1.2.2 + 1 : Nat) : Int)) y.2.1.2.1), (mk_Int64S ((k + (sum ((x.map szE_Seat).take i) : Nat)) + ((1 + sz_Int64S y.1.2.1 + sz_Int64S y.1.2.2 + 1 + sz_Int64S y.2.1.2.1 : Nat) : Int)) y.2.1.2.2)), ((k + (sum ((x.map szE_Seat).take i) : Nat)) + ((1 + sz_Int64S y.1.2.1 + sz_Int64S y.1.2.2 + 1 + sz_Int64S y.2.1.2.1 + sz_Int64S y.2.1.2.2 : Nat) : Int))) [.int .i64 ((k + (sum ((x.map szE_Seat).take i) : Nat)) + ((1 + sz_Int64S y.1.2.1 + sz_Int64S y.1.2.2 : Nat) : Int)), .slice a3 y.2.1.2.1.length c3, .slice a4 y.2.1.2.2.length c4, .int .i64 ((k + (sum ((x.map szE_Seat).take i) : Nat)) + ((1 + sz_Int64S y.1.2.1 + sz_Int64S y.1.2.2 + 1 + sz_Int64S y.2.1.2.1 + sz_Int64S y.2.1.2.2 : Nat) : Int))] := mpR (X := (fun id => X4 id ∨ X5 id)) (Y := None_) z4 z1 (fun id p => by rcases p with p | p <;> simp [p]) (fun id p => by exact p.elim) (fun id o p => by first | exact o.elim | exact p.elim)
          have z6 : (M_Int64S).R (fun id => X2 id) H5 (mk_Int64S ((k + (sum ((x.map szE_Seat).take i) : Nat)) + ((1 + sz_Int64S y.1.2.1 : Nat) : Int)) y.1.2.2) [.slice a2 y.1.2.2.length c2] := F2.r
          have z7 : (Kn.mp (M_Int64S) (M_Int64S)).R (fun id => X1 id ∨ X2 id) H5 ((mk_Int64S ((k + (sum ((x.map szE_Seat).take i) : Nat)) + ((1 : Nat) : Int)) y.1.2.1), (mk_Int64S ((k + (sum ((x.map szE_Seat).take i) : Nat)) + ((1 + sz_Int64S y.1.2.1 : Nat) : Int)) y.1.2.2)) [.slice a1 y.1.2.1.length c1, .slice a2 y.1.2.2.length c2] := mpR (X := (fun id => X1 id)) (Y := (fun id => X2 id)) F1.r z6 (fun id p => by first | exact p | simp [p]) (fun id p => by first | exact p | simp [p]) (fun id o p => by first | exact q1_2 _ o p)
          have z8 : (Kn.mp (KI) (Kn.mp (M_Int64S) (M_Int64S))).R (fun id => X1 id ∨ X2 id) H5 ((k + (sum ((x.map szE_Seat).take i) : Nat)), (mk_Int64S ((k + (sum ((x.map szE_Seat).take i) : Nat)) + ((1 : Nat) : Int)) y.1.2.1), (mk_Int64S ((k + (sum ((x.map szE_Seat).take i) : Nat)) + ((1 + sz_Int64S y.1.2.1 : Nat) : Int)) y.1.2.2)) [.int .i64 (k + (sum ((x.map szE_Seat).take i) : Nat)), .slice a1 y.1.2.1.length c1, .slice a2 y.1.2.2.length c2] := mpR (X := None_) (Y := (fun id => X1 id ∨ X2 id)) (show KI.R None_ H5 _ [.int .i64 (k + (sum ((x.map szE_Seat).take i) : Nat))] from rfl) z7 (fun id p => by exact p.elim) (fun id p => by rcases p with p | p <;> simp [p]) (fun id o p => by first | exact o.elim | exact p.elim)
          have z9 : (Kn.mp (M_Purse) (Kn.mp (M_Purse) (KI))).R (fun id => X1 id ∨ X2 id ∨ X4 id ∨ X5 id) H5 (((k + (sum ((x.map szE_Seat).take i) : Nat)), (mk_Int64S ((k + (sum ((x.map szE_Seat).take i) : Nat)) + ((1 : Nat) : Int)) y.1.2.1), (mk_Int64S ((k + (sum ((x.map szE_Seat).take i) : Nat)) + ((1 + sz_Int64S y.1.2.1 : Nat) : Int)) y.1.2.2)), (((k + (sum ((x.map szE_Seat).take i) : Nat)) + ((1 + sz_Int64S y.1.2.1 + sz_Int64S y.1.2.2 : Nat) : Int)), (mk_Int64S ((k + (sum ((x.map szE_Seat).take i) : Nat)) + ((1 + sz_Int64S y.1.2.1 + sz_Int64S y.1.2.2 + 1 : Nat) : Int)) y.2.1.2.1), (mk_Int64S ((k + (sum ((x.map szE_Seat).take i) : Nat)) + ((1 + sz_Int64S y.1.2.1 + sz_Int64S y.1.2.2 + 1 + sz_Int64S y.2.1.2.1 : Nat) : Int)) y.2.1.2.2)), ((k + (sum ((x.map szE_Seat).take i) : Nat)) + ((1 + sz_Int64S y.1.2.1 + sz_Int64S y.1.2.2 + 1 + sz_Int64S y.2.1.2.1 + sz_Int64S y.2.1.2.2 : Nat) : Int))) [.int .i64 (k + (sum ((x.map szE_Seat).take i) : Nat)), .slice a1 y.1.2.1.length c1, .slice a2 y.1.2.2.length c2, .int .i64 ((k + (sum ((x.map szE_Seat).take i) : Nat)) + ((1 + sz_Int64S y.1.2.1 + sz_Int64S y.1.2.2 : Nat) : Int)), .slice a3 y.2.1.2.1.length c3, .slice a4 y.2.1.2.2.length c4, .int .i64 ((k + (sum ((x.map szE_Seat).take i) : Nat)) + ((1 + sz_Int64S y.1.2.1 + sz_Int64S y.1.2.2 + 1 + sz_Int64S y.2.1.2.1 + sz_Int64S y.2.1.2.2 : Nat) : Int))] := mpR (X := (fun id => X1 id ∨ X2 id)) (Y := (fun id => X4 id ∨ X5 id)) z8 z5 (fun id p => by rcases p with p | p <;> simp [p]) (fun id p => by rcases p with p | p <;> simp [p]) (fun id o p => by rcases o with o | o <;> rcases p with p | p <;> first | exact q1_4 _ o p | exact q1_5 _ o p | exact q2_4 _ o p | exact q2_5 _ o p)
          exact (M_Seat).more (fun id p => by rcases p with p | p | p | p <;> first | exact i1 id p | exact i2 id p | exact i4 id p | exact i5 id p) z9
        refine e _ (seg_of rfl (fun q v hq => ?_))
        match q, hq with
        | 0, hq => cases hq; exact (set_ne (set_ne (set_eq c_0 rfl) (by show 0 + i * 7 + 3 ≠ 0 + i * 7 + 0; omega)) (by show 0 + i * 7 + 6 ≠ 0 + i * 7 + 0; omega)).trans (congrArg (fun z : Int => some (Value.int .i64 z)) w_0)
        | 1, hq => cases hq; exact (set_ne (set_ne (set_ne c_1 (by show 0 + i * 7 + 0 ≠ 0 + i * 7 + 1; omega)) (by show 0 + i * 7 + 3 ≠ 0 + i * 7 + 1; omega)) (by show 0 + i * 7 + 6 ≠ 0 + i * 7 + 1; omega))
        | 2, hq => cases hq; exact (set_ne (set_ne (set_ne c_2 (by show 0 + i * 7 + 0 ≠ 0 + i * 7 + 2; omega)) (by show 0 + i * 7 + 3 ≠ 0 + i * 7 + 2; omega)) (by show 0 + i * 7 + 6 ≠ 0 + i * 7 + 2; omega))
        | 3, hq => cases hq; exact (set_ne (set_eq (set_ne c_3 (by show 0 + i * 7 + 0 ≠ 0 + i * 7 + 3; omega)) rfl) (by show 0 + i * 7 + 6 ≠ 0 + i * 7 + 3; omega)).trans (congrArg (fun z : Int => some (Value.int .i64 z)) w_3)
        | 4, hq => cases hq; exact (set_ne (set_ne (set_ne c_4 (by show 0 + i * 7 + 0 ≠ 0 + i * 7 + 4; omega)) (by show 0 + i * 7 + 3 ≠ 0 + i * 7 + 4; omega)) (by show 0 + i * 7 + 6 ≠ 0 + i * 7 + 4; omega))
        | 5, hq => cases hq; exact (set_ne (set_ne (set_ne c_5 (by show 0 + i * 7 + 0 ≠ 0 + i * 7 + 5; omega)) (by show 0 + i * 7 + 3 ≠ 0 + i * 7 + 5; omega)) (by show 0 + i * 7 + 6 ≠ 0 + i * 7 + 5; omega))
        | 6, hq => cases hq; exact (set_eq (set_ne (set_ne c_6 (by show 0 + i * 7 + 0 ≠ 0 + i * 7 + 6; omega)) (by show 0 + i * 7 + 3 ≠ 0 + i * 7 + 6; omega)) rfl).trans (congrArg (fun z : Int => some (Value.int .i64 z)) w_6)
        | q + 7, hq => simp at hq
      · exact w_7.trans (by show _ = k + (sum ((x.map szE_Seat).take (i + 1)) : Nat); rw [hsum]; omega)
    · obtain rfl : i = x.length := by simp only at h; omega
      refine KW.retW rfl rfl rfl rfl (fun H1 g => ?_) (fun id hid hw => ⟨hi1 id hid (fun e => hw (e ▸ h3)), hi2 id hid (fun e => hw (e ▸ h3)) (fun j hj => hw (h7 j id hj).1)⟩) (fun H1 g => ⟨congrArg (Value.int .i64) ?_, ?_⟩)
      · have := (g.vars 0 _ rfl).2.1
        have := g.n_
        have hlow : ∀ id, id < H.n → id ≤ o ∨ id < H1.n := fun id hid => by
          by_cases e : id = o
          · exact .inl (by omega)
          · have := (g.froz id (hi1 id hid e)).1; exact .inr (by omega)
        rcases Nat.eq_zero_or_pos H.n with h | h
        · omega
        · rcases hlow (H.n - 1) (by omega) with h1 | h1
          · have : o < H1.n := by have := (g.vars 0 _ rfl).2.1; have := g.n_; omega
            omega
          · omega
      · show k + ((sum ((x.map szE_Seat).take x.length) : Nat) : Int) = _
        rw [List.take_of_length_le (by simp)]
      · exact ml1' (mkrow_ml hi3 h2 h6 h3 (g.blk (j := 0) rfl).1 h7 h8 (fun j id hid => (g.froz id (hi1 id (hWl id (h7 j id hid).1) (h7 j id hid).2)).2))
end
end Go.Proofs.YtijmkfnmdhpakaaGreat.Am
/- What the laws' own functions do at slices of Seat: held. Each holds under its own conditions. -/
set_option linter.unusedVariables false
set_option linter.unusedSimpArgs false
set_option maxRecDepth 20000
namespace Go.Proofs.YtijmkfnmdhpakaaGreat.Am
open Go Go.RowKit Go.Proofs
section
variable {S : Ids} {H0 : AH} {W : Ids} {a a' : Option Addr} {c c' : Nat} {left k : Int}
theorem held_SeatS' {x : List T_Seat} (hB : B_SeatS x) (hk : Mk k (sz_SeatS x)) (hs : K_SeatS.R S H0 (mk_SeatS k x) [.slice a x.length c]) : Spec Tryz.prog S H0 60 [.slice a x.length c, .int .i64 k] (fun v => v = .int .i64 (k + (sz_SeatS x : Nat))) := by
  have hs := sl1 hs
  have hl := hB.len
  have hk1 := hk.1
  have hk2 : k + (sum (x.map szE_Seat) : Nat) ≤ 274877906944 := hk.2
  have ml : (mk_SeatS k x).length = x.length := mks_len _ _ _ _
  refine Spec.of1 Tryz.func60 rfl (by kernel_rfl) rfl (fun H _ => ?_)
  refine KW.lp rfl rfl (fun i : Nat => [(0, .slice a x.length c), (1, .int .i64 (k + (sum ((x.map szE_Seat).take i) : Nat))), (5, .int .i64 i)]) (fun i => i ≤ x.length) (fun i => x.length - i) (0) (Nat.zero_le _) ⟨rfl, congrArg (Value.int .i64) (by simp [sum]), rfl, trivial⟩ (fun i hi bE n => ?_)
  refine KW.cnd rfl rfl (fun h => ?_) (fun h => ?_)
  · have h : (i : Int) < (x.length : Int) := h
    obtain ⟨y, hy⟩ : ∃ y, x[i]? = some y := ⟨x[i], List.getElem?_eq_getElem (by omega)⟩
    have hBy := hB.each y (List.mem_of_getElem? hy)
    have hyl : (x.map szE_Seat)[i]? = some (szE_Seat y) := by simp [hy]
    have hsum := sum_take hyl
    have hsl := sum_le (l := x.map szE_Seat) (i + 1)
    have hm : (mk_SeatS k x)[i]? = _ := mks_at (mk := mkE_Seat) (sz := szE_Seat) k hy
    obtain ⟨e, he⟩ : ∃ e, k + ((sum ((x.map szE_Seat).take i) : Nat) : Int) = e := ⟨_, rfl⟩
    rw [he] at hm
    rw [he]
    have he0 : 0 ≤ e := by omega
    have he1 : e + (szE_Seat y : Nat) ≤ 274877906944 := by omega
    have hsz : szE_Seat y = 1 + sz_Int64S y.1.2.1 + sz_Int64S y.1.2.2 + 1 + sz_Int64S y.2.1.2.1 + sz_Int64S y.2.1.2.2 + 1 := rfl
    have w_1 : IntKind.i64.wrap (e + 1) = (e + ((1 : Nat) : Int)) := (wr (by omega) (by omega)).trans (by omega)
    have w_2 : (e + ((1 : Nat) : Int)) + (sz_Int64S y.1.2.1 : Nat) = (e + ((1 + sz_Int64S y.1.2.1 : Nat) : Int)) := by omega
    have w_3 : (e + ((1 + sz_Int64S y.1.2.1 : Nat) : Int)) + (sz_Int64S y.1.2.2 : Nat) = (e + ((1 + sz_Int64S y.1.2.1 + sz_Int64S y.1.2.2 : Nat) : Int)) := by omega
    have w_4 : IntKind.i64.wrap ((e + ((1 + sz_Int64S y.1.2.1 + sz_Int64S y.1.2.2 : Nat) : Int)) + 1) = (e + ((1 + sz_Int64S y.1.2.1 + sz_Int64S y.1.2.2 + 1 : Nat) : Int)) := (wr (by omega) (by omega)).trans (by omega)
    have w_5 : (e + ((1 + sz_Int64S y.1.2.1 + sz_Int64S y.1.2.2 + 1 : Nat) : Int)) + (sz_Int64S y.2.1.2.1 : Nat) = (e + ((1 + sz_Int64S y.1.2.1 + sz_Int64S y.1.2.2 + 1 + sz_Int64S y.2.1.2.1 : Nat) : Int)) := by omega
    have w_6 : (e + ((1 + sz_Int64S y.1.2.1 + sz_Int64S y.1.2.2 + 1 + sz_Int64S y.2.1.2.1 : Nat) : Int)) + (sz_Int64S y.2.1.2.2 : Nat) = (e + ((1 + sz_Int64S y.1.2.1 + sz_Int64S y.1.2.2 + 1 + sz_Int64S y.2.1.2.1 + sz_Int64S y.2.1.2.2 : Nat) : Int)) := by omega
    have w_7 : IntKind.i64.wrap ((e + ((1 + sz_Int64S y.1.2.1 + sz_Int64S y.1.2.2 + 1 + sz_Int64S y.2.1.2.1 + sz_Int64S y.2.1.2.2 : Nat) : Int)) + 1) = (e + ((szE_Seat y : Nat) : Int)) := (wr (by omega) (by omega)).trans (by omega)
    refine KW.adS hs.up rfl rfl rfl rfl rfl rfl rfl rfl rfl (by omega) (by rw [ml]; exact h) (fun y1 cy id0 z0 hy1 hsy hat0 => ?_)
    obtain rfl : mkE_Seat e y = y1 := Option.some.inj (hm.symm.trans hy1)
    obtain ⟨f1, g1, f2, g2, f3, g3, f4, g4, rfl, h1, h2, h4, h5⟩ := splitkF_Seat hsy
    refine KW.ldF 0 hat0 rfl rfl rfl rfl rfl rfl rfl rfl rfl ?_
    refine KW.cF rfl rfl (by first | (simp; done) | (simp only []; simp [mkE_Seat]; done)) ?_
    refine KW.adS hs.up rfl rfl rfl rfl rfl rfl rfl rfl rfl (by omega) (by rw [ml]; exact h) (fun y1 cy id1 z1 hy1 hsy hat1 => ?_)
    obtain rfl : mkE_Seat e y = y1 := Option.some.inj (hm.symm.trans hy1)
    obtain ⟨f1, g1, f2, g2, f3, g3, f4, g4, rfl, h1, h2, h4, h5⟩ := splitkF_Seat hsy
    refine KW.ldF 1 hat1 rfl rfl rfl rfl rfl rfl rfl rfl rfl ?_
    refine KW.callE rfl rfl rfl rfl rfl (spec_I (k := (e + ((1 : Nat) : Int))) (by first | rfl | (simp only [w_1]; done)) (held_Int64S hBy.1.2.1 (k := (e + ((1 : Nat) : Int))) (by constructor <;> omega) h1)) (fun _ _ => ?_)
    refine KW.no rfl rfl (by omega) ?_
    refine KW.adS hs.up rfl rfl rfl rfl rfl rfl rfl rfl rfl (by omega) (by rw [ml]; exact h) (fun y1 cy id2 z2 hy1 hsy hat2 => ?_)
    obtain rfl : mkE_Seat e y = y1 := Option.some.inj (hm.symm.trans hy1)
    obtain ⟨f1, g1, f2, g2, f3, g3, f4, g4, rfl, h1, h2, h4, h5⟩ := splitkF_Seat hsy
    refine KW.ldF 2 hat2 rfl rfl rfl rfl rfl rfl rfl rfl rfl ?_
    refine KW.callE rfl rfl rfl rfl rfl (spec_I (k := (e + ((1 + sz_Int64S y.1.2.1 : Nat) : Int))) (by first | rfl | (simp only [w_1, w_2]; done)) (held_Int64S hBy.1.2.2 (k := (e + ((1 + sz_Int64S y.1.2.1 : Nat) : Int))) (by constructor <;> omega) h2)) (fun _ _ => ?_)
    refine KW.no rfl rfl (by omega) ?_
    refine KW.adS hs.up rfl rfl rfl rfl rfl rfl rfl rfl rfl (by omega) (by rw [ml]; exact h) (fun y1 cy id3 z3 hy1 hsy hat3 => ?_)
    obtain rfl : mkE_Seat e y = y1 := Option.some.inj (hm.symm.trans hy1)
    obtain ⟨f1, g1, f2, g2, f3, g3, f4, g4, rfl, h1, h2, h4, h5⟩ := splitkF_Seat hsy
    refine KW.ldF 3 hat3 rfl rfl rfl rfl rfl rfl rfl rfl rfl ?_
    refine KW.cF rfl rfl (by first | (simp; done) | (simp only [w_1, w_2, w_3]; simp [mkE_Seat]; done)) ?_
    refine KW.adS hs.up rfl rfl rfl rfl rfl rfl rfl rfl rfl (by omega) (by rw [ml]; exact h) (fun y1 cy id4 z4 hy1 hsy hat4 => ?_)
    obtain rfl : mkE_Seat e y = y1 := Option.some.inj (hm.symm.trans hy1)
    obtain ⟨f1, g1, f2, g2, f3, g3, f4, g4, rfl, h1, h2, h4, h5⟩ := splitkF_Seat hsy
    refine KW.ldF 4 hat4 rfl rfl rfl rfl rfl rfl rfl rfl rfl ?_
    refine KW.callE rfl rfl rfl rfl rfl (spec_I (k := (e + ((1 + sz_Int64S y.1.2.1 + sz_Int64S y.1.2.2 + 1 : Nat) : Int))) (by first | rfl | (simp only [w_1, w_2, w_3, w_4]; done)) (held_Int64S hBy.2.1.2.1 (k := (e + ((1 + sz_Int64S y.1.2.1 + sz_Int64S y.1.2.2 + 1 : Nat) : Int))) (by constructor <;> omega) h4)) (fun _ _ => ?_)
    refine KW.no rfl rfl (by omega) ?_
    refine KW.adS hs.up rfl rfl rfl rfl rfl rfl rfl rfl rfl (by omega) (by rw [ml]; exact h) (fun y1 cy id5 z5 hy1 hsy hat5 => ?_)
    obtain rfl : mkE_Seat e y = y1 := Option.some.inj (hm.symm.trans hy1)
    obtain ⟨f1, g1, f2, g2, f3, g3, f4, g4, rfl, h1, h2, h4, h5⟩ := splitkF_Seat hsy
    refine KW.ldF 5 hat5 rfl rfl rfl rfl rfl rfl rfl rfl rfl ?_
    refine KW.callE rfl rfl rfl rfl rfl (spec_I (k := (e + ((1 + sz_Int64S y.1.2.1 + sz_Int64S y.1.2.2 + 1 + sz_Int64S y.2.1.2.1 : Nat) : Int))) (by first | rfl | (simp only [w_1, w_2, w_3, w_4, w_5]; done)) (held_Int64S hBy.2.1.2.2 (k := (e + ((1 + sz_Int64S y.1.2.1 + sz_Int64S y.1.2.2 + 1 + sz_Int64S y.2.1.2.1 : Nat) : Int))) (by constructor <;> omega) h5)) (fun _ _ => ?_)
    refine KW.no rfl rfl (by omega) ?_
    refine KW.adS hs.up rfl rfl rfl rfl rfl rfl rfl rfl rfl (by omega) (by rw [ml]; exact h) (fun y1 cy id6 z6 hy1 hsy hat6 => ?_)
    obtain rfl : mkE_Seat e y = y1 := Option.some.inj (hm.symm.trans hy1)
    obtain ⟨f1, g1, f2, g2, f3, g3, f4, g4, rfl, h1, h2, h4, h5⟩ := splitkF_Seat hsy
    refine KW.ldF 6 hat6 rfl rfl rfl rfl rfl rfl rfl rfl rfl ?_
    refine KW.cF rfl rfl (by first | (simp; done) | (simp only [w_1, w_2, w_3, w_4, w_5, w_6]; simp [mkE_Seat]; done)) ?_
    refine KW.nxt rfl rfl (fun H' g => ⟨i + 1, by omega, by first | omega | (simp only; omega), ⟨rfl, congrArg (Value.int .i64) (by first | (rw [hsum]; simp only [w_1, w_2, w_3, w_4, w_5, w_6, w_7]; omega) | (rw [hsum]; omega)), congrArg (Value.int .i64) (inc64 (by omega)), trivial⟩, g⟩)
  · have : i = x.length := by omega
    subst this
    refine KW.ret rfl rfl rfl rfl (congrArg (Value.int .i64) ?_)
    rw [List.take_of_length_le (by simp)]
end
end Go.Proofs.YtijmkfnmdhpakaaGreat.Am
/- What the laws' own functions do at Packet: equality. Each holds under its own conditions. -/
set_option linter.unusedVariables false
set_option maxRecDepth 20000
namespace Go.Proofs.YtijmkfnmdhpakaaGreat.Am
open Go Go.RowKit Go.Proofs
abbrev M_Packet : Kn T_Packet := Kn.mp KB (Kn.mp KI (Kn.mp KI (Kn.mp M_Int64S M_Int64S)))
theorem le_Packet : KLe M_Packet K_Packet := KLe.pair (KLe.refl KB) (KLe.pair (KLe.refl KI) (KLe.pair (KLe.refl KI) (KLe.pair le_Int64S le_Int64S)))
abbrev B_Packet (x : T_Packet) : Prop := True ∧ I64 x.2.1 ∧ I64 x.2.2.1 ∧ B_Int64S x.2.2.2.1 ∧ B_Int64S x.2.2.2.2
abbrev W_Packet (x : T_Packet) : Prop := True ∧ I64 x.2.1 ∧ I64 x.2.2.1 ∧ W_Int64S x.2.2.2.1 ∧ W_Int64S x.2.2.2.2
theorem bmark {a : Int} (h : 0 ≤ a) : some (Value.bool (a.tmod 3 == 0)) = some (Value.bool (decide (a % 3 = 0))) := by
  rw [Int.tmod_eq_emod_of_nonneg h]
  by_cases e : a % 3 = 0
  · rw [e]; rfl
  · rw [decide_eq_false e]; congr 2; simpa using e
section
variable {S : Ids} {H0 : AH} {W : Ids} {left k : Int}
theorem form_Packet {x : T_Packet} {cs : List Value} (h : K_Packet.R S H0 x cs) : ∃ a1 c1 a2 c2, cs = [.bool x.1, .int .i64 x.2.1, .int .i64 x.2.2.1, .slice a1 x.2.2.2.1.length c1, .slice a2 x.2.2.2.2.length c2] := by
  obtain ⟨a1, c1, a2, c2, h, _, _⟩ := split_Packet h
  exact ⟨a1, c1, a2, c2, h⟩
theorem formM_Packet {x : T_Packet} {cs : List Value} (h : M_Packet.R S H0 x cs) : ∃ a1 c1 a2 c2, cs = [.bool x.1, .int .i64 x.2.1, .int .i64 x.2.2.1, .slice a1 x.2.2.2.1.length c1, .slice a2 x.2.2.2.2.length c2] := form_Packet (le_Packet.2 _ _ _ _ h)
theorem splitk_Packet {x : T_Packet} {cs : List Value} (h : K_Packet.R S H0 x cs) : ∃ a1 c1 a2 c2, cs = [.bool x.1, .int .i64 x.2.1, .int .i64 x.2.2.1, .slice a1 x.2.2.2.1.length c1, .slice a2 x.2.2.2.2.length c2] ∧ K_Int64S.R S H0 x.2.2.2.1 [.slice a1 x.2.2.2.1.length c1] ∧ K_Int64S.R S H0 x.2.2.2.2 [.slice a2 x.2.2.2.2.length c2] := by
  obtain ⟨a1, c1, a2, c2, h, h1, h2⟩ := split_Packet h
  exact ⟨a1, c1, a2, c2, h, sl1' h1, sl1' h2⟩
theorem splitM_Packet {x : T_Packet} {cs : List Value} (h : M_Packet.R S H0 x cs) : ∃ (a1 : Option Addr) (c1 : Nat) (a2 : Option Addr) (c2 : Nat) (X3 : Ids) (X4 : Ids), cs = [.bool x.1, .int .i64 x.2.1, .int .i64 x.2.2.1, .slice a1 x.2.2.2.1.length c1, .slice a2 x.2.2.2.2.length c2] ∧ M_Int64S.R X3 H0 x.2.2.2.1 [.slice a1 x.2.2.2.1.length c1] ∧ M_Int64S.R X4 H0 x.2.2.2.2 [.slice a2 x.2.2.2.2.length c2] ∧ (∀ id, X3 id → S id) ∧ (∀ id, X4 id → S id) ∧ (∀ id, X3 id → X4 id → False) := by
  obtain ⟨e0, d0, X0, Y0, rfl, i0, j0, q0, h0, h0_⟩ := h
  obtain ⟨e1, d1, X1, Y1, rfl, i1, j1, q1, h1, h1_⟩ := h0_
  obtain ⟨e2, d2, X2, Y2, rfl, i2, j2, q2, h2, h2_⟩ := h1_
  obtain ⟨e3, d3, X3, Y3, rfl, i3, j3, q3, h3, h3_⟩ := h2_
  obtain rfl := KB_of h0
  obtain rfl := KI_of h1
  obtain rfl := KI_of h2
  obtain ⟨a1, c1, rfl⟩ := mlform h3
  obtain ⟨a2, c2, rfl⟩ := mlform h3_
  exact ⟨a1, c1, a2, c2, X3, Y3, rfl, h3, h3_, fun _ p => j0 _ (j1 _ (j2 _ (i3 _ p))), fun _ p => j0 _ (j1 _ (j2 _ (j3 _ p))), fun _ o p => q3 _ o p⟩
theorem eq_Packet {x : T_Packet} {cs cs' : List Value} (hB : B_Packet x) (h : K_Packet.R S H0 x cs) (h' : K_Packet.R S H0 x cs') : Spec Tryz.prog S H0 87 [.agg cs.toArray, .agg cs'.toArray] (fun v => v = .bool true) := by
  obtain ⟨a1, c1, a2, c2, rfl, h1, h2⟩ := splitk_Packet h
  obtain ⟨b1, d1, b2, d2, rfl, k1, k2⟩ := splitk_Packet h'
  refine Spec.of1 Tryz.func87 rfl (by kernel_rfl) rfl (fun H _ => ?_)
  refine KW.cF rfl rfl (by first | (simp; done) | decide) ?_
  refine KW.cF rfl rfl (by first | (simp; done) | decide) ?_
  refine KW.cF rfl rfl (by first | (simp; done) | decide) ?_
  refine KW.callE rfl rfl rfl rfl rfl (eq_Int64S hB.2.2.2.1 (On.R h1) (On.R k1)) (fun _ _ => ?_)
  refine KW.cF rfl rfl (by first | (simp; done) | decide) ?_
  refine KW.callE rfl rfl rfl rfl rfl (eq_Int64S hB.2.2.2.2 (On.R h2) (On.R k2)) (fun _ _ => ?_)
  refine KW.cF rfl rfl (by first | (simp; done) | decide) ?_
  exact KW.ret rfl rfl rfl rfl (rfl)
end
end Go.Proofs.YtijmkfnmdhpakaaGreat.Am
/- What the laws' own functions do at slices of Packet: sizes, copies, equality, marks. Each holds under its own conditions. -/
set_option linter.unusedVariables false
set_option maxRecDepth 20000
namespace Go.Proofs.YtijmkfnmdhpakaaGreat.Am
open Go Go.RowKit Go.Proofs
abbrev T_PacketS : Type := List T_Packet
abbrev K_PacketS : Kn (List T_Packet) := K_Packet.sl
abbrev M_PacketS : Kn (List T_Packet) := M_Packet.ml
theorem le_PacketS : KLe M_PacketS K_PacketS := KLe.row le_Packet
abbrev szE_Packet (x : T_Packet) : Nat := 1 + 1 + 1 + sz_Int64S x.2.2.2.1 + sz_Int64S x.2.2.2.2
abbrev tsE_Packet (x : T_Packet) : Nat := 0 + sz_Int64S x.2.2.2.1 + sz_Int64S x.2.2.2.2
abbrev mkE_Packet (k : Int) (x : T_Packet) : T_Packet := (decide (k % 3 = 0), k + ((1 : Nat) : Int), k + ((1 + 1 : Nat) : Int), mk_Int64S (k + ((1 + 1 + 1 : Nat) : Int)) x.2.2.2.1, mk_Int64S (k + ((1 + 1 + 1 + sz_Int64S x.2.2.2.1 : Nat) : Int)) x.2.2.2.2)
structure B_PacketS (x : List T_Packet) : Prop where
  len : x.length ≤ 1048576
  each : ∀ y ∈ x, B_Packet y
  tot : sum (x.map szE_Packet) ≤ 16777216
abbrev W_PacketS (x : List T_Packet) : Prop := x.length ≤ 9223372036854775807 ∧ ∀ y ∈ x, W_Packet y
abbrev sz_PacketS (x : List T_Packet) : Nat := sum (x.map szE_Packet)
abbrev mk_PacketS (k : Int) (x : List T_Packet) : List T_Packet := mks mkE_Packet szE_Packet k x
theorem size_PacketS {x : List T_Packet} (hB : B_PacketS x) : sz_PacketS x ≤ 16777216 := hB.tot
theorem ts_PacketS (l : List T_Packet) : sum (l.map szE_Packet) = sum (l.map tsE_Packet) + 3 * l.length := by
  induction l with
  | nil => rfl
  | cons x l ih => simp only [List.map_cons, sum, List.length_cons, ih, szE_Packet, tsE_Packet]; omega
theorem one_Packet {S : Ids} {H0 : AH} {x : T_Packet} {cs : List Value} (h : M_Packet.R S H0 x cs) : cs.all Value.oneCell' = true := by
  obtain ⟨a1, c1, a2, c2, rfl⟩ := formM_Packet h
  rfl
section
variable {S : Ids} {H0 : AH} {W : Ids} {a a' : Option Addr} {c c' : Nat} {left k : Int}
theorem eq_PacketS {x : List T_Packet} (hB : B_PacketS x) (hs : K_PacketS.R S H0 x [.slice a x.length c]) (hs' : K_PacketS.R S H0 x [.slice a' x.length c']) : Spec Tryz.prog S H0 56 [.slice a x.length c, .slice a' x.length c'] (fun v => v = .bool true) := by
  have hs := sl1 hs
  have hs' := sl1 hs'
  have hl := hB.len
  refine Spec.of1 Tryz.func56 rfl (by kernel_rfl) rfl (fun H _ => ?_)
  refine KW.cF rfl rfl (by first | (simp; done) | decide) ?_
  refine KW.lp rfl rfl (fun i : Nat => [(0, .slice a x.length c), (1, .slice a' x.length c'), (5, .int .i64 i)]) (fun i => i ≤ x.length) (fun i => x.length - i) (0) (by omega) ⟨rfl, rfl, rfl, trivial⟩ (fun i hi bE n => ?_)
  refine KW.cnd rfl rfl (fun h => ?_) (fun h => ?_)
  · refine KW.getS (td := .struct #[]) hs.up rfl rfl rfl rfl rfl rfl rfl rfl rfl rfl rfl rfl rfl rfl rfl rfl rfl (by omega) h (fun y cy hy hsy => ?_)
    refine KW.getS (td := .struct #[]) hs'.up rfl rfl rfl rfl rfl rfl rfl rfl rfl rfl rfl rfl rfl rfl rfl rfl rfl (by omega) h (fun z cz hz hsz => ?_)
    have hy : x[i]? = some y := hy
    have hz : x[i]? = some z := hz
    rw [hy] at hz
    cases hz
    refine KW.callE rfl rfl rfl rfl rfl (eq_Packet (hB.each y (List.mem_of_getElem? hy)) hsy hsz) (fun _ _ => ?_)
    refine KW.cF rfl rfl (by first | (simp; done) | decide) ?_
    refine KW.nxt rfl rfl (fun H' g => ⟨i + 1, by omega, by first | omega | (simp only; omega), ⟨rfl, rfl, congrArg (Value.int .i64) (inc64 (by omega)), trivial⟩, g⟩)
  · exact KW.ret rfl rfl rfl rfl (rfl)
theorem mark_PacketS {x : List T_Packet} (hB : B_PacketS x) (hk : Mk k (sz_PacketS x)) (hW : ∀ id, W id → S id) (hs : M_PacketS.R W H0 x [.slice a x.length c]) : SpecW Tryz.prog S H0 W 59 [.slice a x.length c, .int .i64 k] (fun n v H1 => v = .int .i64 (k + (sz_PacketS x : Nat)) ∧ M_PacketS.R W H1 (mk_PacketS k x) [.slice a x.length c]) := by
  have hs := ml1 hs
  have hl := hB.len
  have hk1 := hk.1
  have hk2 : k + (sum (x.map szE_Packet) : Nat) ≤ 274877906944 := hk.2
  rcases hs with ⟨rfl, a0, c0, he, ha⟩ | ⟨o, c1, bb, Ws, he, h2, h3, h4, h5, h6, h7, h8, h9⟩
  · refine SpecM.w ?_
    refine SpecM.of Tryz.func59 rfl (by kernel_rfl) rfl (fun H hfin hfz => ?_)
    refine KW.lp rfl rfl (fun _ : Unit => [(0, .slice a 0 c), (1, .int .i64 k), (5, .int .i64 0)]) (fun _ => True) (fun _ => 0) () trivial ⟨rfl, rfl, rfl, trivial⟩ (fun _ _ b n => ?_)
    refine KW.cF rfl rfl (by decide) ?_
    exact KW.retM rfl rfl rfl rfl (fun id hid => ⟨hid, rfl⟩) (fun H1 g => ⟨congrArg (Value.int .i64) (by simp [sz_PacketS, sum]), ml1' (.inl ⟨rfl, a, c, rfl, by cases he; exact ha⟩)⟩)
  · cases he
    refine SpecW.of0 Tryz.func59 rfl (by kernel_rfl) rfl (fun H hfin hfz => ?_)
    obtain ⟨ho1, ho2⟩ := hfz o (hW o h3)
    have hWl : ∀ id, W id → id < H.n := fun id hid => (hfz id (hW id hid)).1
    have h4 := ho2.trans h4
    obtain ⟨ty, rw_, cs0⟩ := bb
    obtain rfl : rw_ = true := h5
    have h6 : x.length * 5 ≤ cs0.length := h6
    refine KW.thaw o ⟨ty, true, cs0⟩ ho1 h4 ?_
    refine KW.lpM rfl rfl (fun s : Nat × Ids × AH × List Value => [(0, .slice (some ⟨o, 0, some 5⟩) x.length c), (1, .int .i64 (k + (sum ((x.map szE_Packet).take s.1) : Nat))), (5, .int .i64 s.1)]) (fun s => s.2.1) (fun s => s.2.2.1) (fun s => [(o, ⟨ty, true, s.2.2.2⟩)])
      (fun s => s.1 ≤ x.length ∧ (∀ id, id < H.n → id ≠ o → s.2.1 id) ∧ (∀ id, id < H.n → id ≠ o → (∀ j, ¬ Ws j id) → s.2.2.1.m id = H.m id) ∧ MkRow M_Packet mkE_Packet szE_Packet x k Ws cs0.length s.1 s.2.2.1 s.2.2.2)
      (fun s => x.length - s.1) (0, fun id => Low H.n id ∧ id ≠ o, H, cs0) ⟨by omega, fun id h1 h2 => ⟨h1, h2⟩, fun id _ _ _ => rfl, rfl, fun j y hx' => ⟨fun _ => (M_Packet).same (fun id hid => (hfz id (hW id (h7 j id hid).1)).2) (h9 j y hx'), fun h => absurd h (by simp)⟩⟩ ⟨rfl, congrArg (Value.int .i64) (by simp [sum]), rfl, trivial⟩ rfl rfl rfl (fun s hi b n => ?_)
    obtain ⟨i, S1, A, cs⟩ := s
    obtain ⟨hi0, hi1, hi2, hi3⟩ := hi
    simp only at hi0 hi1 hi2 hi3
    refine KW.cnd rfl rfl (fun h => ?_) (fun h => ?_)
    · have hil : i < x.length := by omega
      obtain ⟨y, hy⟩ : ∃ y, x[i]? = some y := ⟨x[i], List.getElem?_eq_getElem hil⟩
      have hBy := hB.each y (List.mem_of_getElem? hy)
      have hrow := (hi3.row i y hy).1 (Nat.le_refl _)
      have hyl : (x.map szE_Packet)[i]? = some (szE_Packet y) := by simp [hy]
      have hsum := sum_take hyl
      have hsl := sum_le (l := x.map szE_Packet) (i + 1)
      have hcl := hi3.len
      obtain ⟨a1, c1, a2, c2, X3, X4, hsv, h3, h4, i3, i4, q3_4⟩ := splitM_Packet hrow
      have c_0 := seg_at (q := 0) hsv rfl
      have c_1 := seg_at (q := 1) hsv rfl
      have c_2 := seg_at (q := 2) hsv rfl
      have c_3 := seg_at (q := 3) hsv rfl
      have c_4 := seg_at (q := 4) hsv rfl
      have hsz : szE_Packet y = 1 + 1 + 1 + sz_Int64S y.2.2.2.1 + sz_Int64S y.2.2.2.2 := rfl
      have F3 : Fk M_Int64S X3 S1 A _ _ := ⟨h3, fun id p => by have := h7 i id (i3 id p); exact hi1 id (hWl id this.1) this.2⟩
      have V3 : ∀ id, X3 id → id < H.n := fun id p => hWl id (h7 i id (i3 id p)).1
      have F4 : Fk M_Int64S X4 S1 A _ _ := ⟨h4, fun id p => by have := h7 i id (i4 id p); exact hi1 id (hWl id this.1) this.2⟩
      have V4 : ∀ id, X4 id → id < H.n := fun id p => hWl id (h7 i id (i4 id p)).1
      have T : ∀ id, id < H.n → id ≠ o → S1 id ∧ ((¬ Ws i id) → A.m id = A.m id) := fun id h1 h2 => ⟨hi1 id h1 h2, fun _ => rfl⟩
      have w_0 : (k + (sum ((x.map szE_Packet).take i) : Nat)) = (k + (sum ((x.map szE_Packet).take i) : Nat)) := rfl
      have w_1 : IntKind.i64.wrap ((k + (sum ((x.map szE_Packet).take i) : Nat)) + 1) = ((k + (sum ((x.map szE_Packet).take i) : Nat)) + ((1 : Nat) : Int)) := (wr (by omega) (by omega)).trans (by omega)
      have w_2 : IntKind.i64.wrap (IntKind.i64.wrap ((k + (sum ((x.map szE_Packet).take i) : Nat)) + 1) + 1) = ((k + (sum ((x.map szE_Packet).take i) : Nat)) + ((1 + 1 : Nat) : Int)) := by
        rw [w_1]
        exact (wr (by omega) (by omega)).trans (by omega)
      have w_3 : IntKind.i64.wrap (IntKind.i64.wrap (IntKind.i64.wrap ((k + (sum ((x.map szE_Packet).take i) : Nat)) + 1) + 1) + 1) = ((k + (sum ((x.map szE_Packet).take i) : Nat)) + ((1 + 1 + 1 : Nat) : Int)) := by
        rw [w_2]
        exact (wr (by omega) (by omega)).trans (by omega)
      have w_4 : (((k + (sum ((x.map szE_Packet).take i) : Nat)) + ((1 + 1 + 1 : Nat) : Int)) + (sz_Int64S y.2.2.2.1 : Nat)) = ((k + (sum ((x.map szE_Packet).take i) : Nat)) + ((1 + 1 + 1 + sz_Int64S y.2.2.2.1 : Nat) : Int)) := by omega
      have w_5 : (((k + (sum ((x.map szE_Packet).take i) : Nat)) + ((1 + 1 + 1 + sz_Int64S y.2.2.2.1 : Nat) : Int)) + (sz_Int64S y.2.2.2.2 : Nat)) = ((k + (sum ((x.map szE_Packet).take i) : Nat)) + ((1 + 1 + 1 + sz_Int64S y.2.2.2.1 + sz_Int64S y.2.2.2.2 : Nat) : Int)) := by omega
      refine KW.idx0 rfl rfl rfl rfl rfl rfl rfl rfl rfl (by omega) (by omega) ?_
      refine KW.st1 0 rfl rfl rfl rfl rfl rfl rfl rfl rfl rfl rfl rfl (lt_of c_0) ?_
      refine KW.idx0 rfl rfl rfl rfl rfl rfl rfl rfl rfl (by omega) (by omega) ?_
      refine KW.st1 0 rfl rfl rfl rfl rfl rfl rfl rfl rfl rfl rfl rfl (lt_of (set_ne c_1 (by show 0 + i * 5 + 0 ≠ 0 + i * 5 + 1; omega))) ?_
      refine KW.idx0 rfl rfl rfl rfl rfl rfl rfl rfl rfl (by omega) (by omega) ?_
      refine KW.st1 0 rfl rfl rfl rfl rfl rfl rfl rfl rfl rfl rfl rfl (lt_of (set_ne (set_ne c_2 (by show 0 + i * 5 + 0 ≠ 0 + i * 5 + 2; omega)) (by show 0 + i * 5 + 1 ≠ 0 + i * 5 + 2; omega))) ?_
      refine KW.idx0 rfl rfl rfl rfl rfl rfl rfl rfl rfl (by omega) (by omega) ?_
      refine KW.ldT 0 rfl rfl rfl rfl rfl rfl (bload_at (set_ne (set_ne (set_ne c_3 (by show 0 + i * 5 + 0 ≠ 0 + i * 5 + 3; omega)) (by show 0 + i * 5 + 1 ≠ 0 + i * 5 + 3; omega)) (by show 0 + i * 5 + 2 ≠ 0 + i * 5 + 3; omega)) rfl rfl) ?_
      refine KW.callW F3.i rfl rfl rfl rfl rfl (mark_I (k := ((k + (sum ((x.map szE_Packet).take i) : Nat)) + ((1 + 1 + 1 : Nat) : Int))) w_3 (mark_Int64S (hBy.2.2.2.1) (k := ((k + (sum ((x.map szE_Packet).take i) : Nat)) + ((1 + 1 + 1 : Nat) : Int))) (by constructor <;> omega) F3.i F3.r)) (fun v H3 S5 m3 t3 w3 hv => ?_)
      obtain ⟨rfl, g3⟩ := hv
      have F3 : Fk M_Int64S X3 S5 H3 _ _ := ⟨g3, fun id hid => (t3 id (F3.i id hid)).1⟩
      have F4 := F4.w t3 (fun id p o => q3_4 id o p)
      have T : ∀ id, id < H.n → id ≠ o → S5 id ∧ ((¬ Ws i id) → H3.m id = A.m id) := fun id h1 h2 => ⟨(t3 id (T id h1 h2).1).1, fun hw => ((t3 id (T id h1 h2).1).2 (fun o => hw (i3 id o))).trans ((T id h1 h2).2 hw)⟩
      refine KW.idx0 rfl rfl rfl rfl rfl rfl rfl rfl rfl (by omega) (by omega) ?_
      refine KW.ldT 0 rfl rfl rfl rfl rfl rfl (bload_at (set_ne (set_ne (set_ne c_4 (by show 0 + i * 5 + 0 ≠ 0 + i * 5 + 4; omega)) (by show 0 + i * 5 + 1 ≠ 0 + i * 5 + 4; omega)) (by show 0 + i * 5 + 2 ≠ 0 + i * 5 + 4; omega)) rfl rfl) ?_
      refine KW.callW F4.i rfl rfl rfl rfl rfl (mark_I (k := ((k + (sum ((x.map szE_Packet).take i) : Nat)) + ((1 + 1 + 1 + sz_Int64S y.2.2.2.1 : Nat) : Int))) w_4 (mark_Int64S (hBy.2.2.2.2) (k := ((k + (sum ((x.map szE_Packet).take i) : Nat)) + ((1 + 1 + 1 + sz_Int64S y.2.2.2.1 : Nat) : Int))) (by constructor <;> omega) F4.i F4.r)) (fun v H4 S6 m4 t4 w4 hv => ?_)
      obtain ⟨rfl, g4⟩ := hv
      have F4 : Fk M_Int64S X4 S6 H4 _ _ := ⟨g4, fun id hid => (t4 id (F4.i id hid)).1⟩
      have F3 := F3.w t4 (fun id p o => q3_4 id p o)
      have T : ∀ id, id < H.n → id ≠ o → S6 id ∧ ((¬ Ws i id) → H4.m id = A.m id) := fun id h1 h2 => ⟨(t4 id (T id h1 h2).1).1, fun hw => ((t4 id (T id h1 h2).1).2 (fun o => hw (i4 id o))).trans ((T id h1 h2).2 hw)⟩
      refine KW.nxt rfl rfl (fun H' g => ⟨(i + 1, S6, H4, _), ⟨by simp only; omega, fun id h1 h2 => (T id h1 h2).1, fun id h1 h2 hno => ((T id h1 h2).2 (hno i)).trans (hi2 id h1 h2 hno), hi3.next hy (by simp) (fun j hj => ?_) (fun j hj id hid => (T id (hWl id (h7 j id hid).1) (h7 j id hid).2).2 (fun hc => hj (h8 j i id hid hc))) ?_⟩, by simp only; omega, ⟨rfl, congrArg (Value.int .i64) ?_, congrArg (Value.int .i64) (inc64 (by omega)), trivial⟩, g⟩)
      · show List.take 5 (List.drop (0 + j * 5) _) = List.take 5 (List.drop (0 + j * 5) _)
        rcases Nat.lt_or_ge j i with hlt | hge
        · rw [seg_set (by right; show 0 + j * 5 + 5 ≤ 0 + i * 5 + 2; omega)]; rw [seg_set (by right; show 0 + j * 5 + 5 ≤ 0 + i * 5 + 1; omega)]; rw [seg_set (by right; show 0 + j * 5 + 5 ≤ 0 + i * 5 + 0; omega)]
        · have : i < j := by omega
          rw [seg_set (by left; show 0 + i * 5 + 2 < 0 + j * 5; omega)]; rw [seg_set (by left; show 0 + i * 5 + 1 < 0 + j * 5; omega)]; rw [seg_set (by left; show 0 + i * 5 + 0 < 0 + j * 5; omega)]
      · have e : ∀ (l : List Value), (l.drop (0 + i * 5)).take 5 = [.bool (decide ((k + (sum ((x.map szE_Packet).take i) : Nat)) % 3 = 0)), .int .i64 ((k + (sum ((x.map szE_Packet).take i) : Nat)) + ((1 : Nat) : Int)), .int .i64 ((k + (sum ((x.map szE_Packet).take i) : Nat)) + ((1 + 1 : Nat) : Int)), .slice a1 y.2.2.2.1.length c1, .slice a2 y.2.2.2.2.length c2] → (M_Packet).R (Ws i) H4 (mkE_Packet (k + (sum ((x.map szE_Packet).take i) : Nat)) y) ((l.drop (0 + i * 5)).take 5) := fun l hl => by
          rw [hl]
          have z1 : (M_Int64S).R (fun id => X4 id) H4 (mk_Int64S ((k + (sum ((x.map szE_Packet).take i) : Nat)) + ((1 + 1 + 1 + sz_Int64S y.2.2.2.1 : Nat) : Int)) y.2.2.2.2) [.slice a2 y.2.2.2.2.length c2] := F4.r
          have z2 : (Kn.mp (M_Int64S) (M_Int64S)).R (fun id => X3 id ∨ X4 id) H4 ((mk_Int64S ((k + (sum ((x.map szE_Packet).take i) : Nat)) + ((1 + 1 + 1 : Nat) : Int)) y.2.2.2.1), (mk_Int64S ((k + (sum ((x.map szE_Packet).take i) : Nat)) + ((1 + 1 + 1 + sz_Int64S y.2.2.2.1 : Nat) : Int)) y.2.2.2.2)) [.slice a1 y.2.2.2.1.length c1, .slice a2 y.2.2.2.2.length c2] := mpR (X := (fun id => X3 id)) (Y := (fun id => X4 id)) F3.r z1 (fun id p => by first | exact p | simp [p]) (fun id p => by first | exact p | simp [p]) (fun id o p => by first | exact q3_4 _ o p)
          have z3 : (Kn.mp (KI) (Kn.mp (M_Int64S) (M_Int64S))).R (fun id => X3 id ∨ X4 id) H4 (((k + (sum ((x.map szE_Packet).take i) : Nat)) + ((1 + 1 : Nat) : Int)), (mk_Int64S ((k + (sum ((x.map szE_Packet).take i) : Nat)) + ((1 + 1 + 1 : Nat) : Int)) y.2.2.2.1), (mk_Int64S ((k + (sum ((x.map szE_Packet).take i) : Nat)) + ((1 + 1 + 1 + sz_Int64S y.2.2.2.1 : Nat) : Int)) y.2.2.2.2)) [.int .i64 ((k + (sum ((x.map szE_Packet).take i) : Nat)) + ((1 + 1 : Nat) : Int)), .slice a1 y.2.2.2.1.length c1, .slice a2 y.2.2.2.2.length c2] := mpR (X := None_) (Y := (fun id => X3 id ∨ X4 id)) (show KI.R None_ H4 _ [.int .i64 ((k + (sum ((x.map szE_Packet).take i) : Nat)) + ((1 + 1 : Nat) : Int))] from rfl) z2 (fun id p => by exact p.elim) (fun id p => by rcases p with p | p <;> simp [p]) (fun id o p => by first | exact o.elim | exact p.elim)
          have z4 : (Kn.mp (KI) (Kn.mp (KI) (Kn.mp (M_Int64S) (M_Int64S)))).R (fun id => X3 id ∨ X4 id) H4 (((k + (sum ((x.map szE_Packet).take i) : Nat)) + ((1 : Nat) : Int)), ((k + (sum ((x.map szE_Packet).take i) : Nat)) + ((1 + 1 : Nat) : Int)), (mk_Int64S ((k + (sum ((x.map szE_Packet).take i) : Nat)) + ((1 + 1 + 1 : Nat) : Int)) y.2.2.2.1), (mk_Int64S ((k + (sum ((x.map szE_Packet).take i) : Nat)) + ((1 + 1 + 1 + sz_Int64S y.2.2.2.1 : Nat) : Int)) y.2.2.2.2)) [.int .i64 ((k + (sum ((x.map szE_Packet).take i) : Nat)) + ((1 : Nat) : Int)), .int .i64 ((k + (sum ((x.map szE_Packet).take i) : Nat)) + ((1 + 1 : Nat) : Int)), .slice a1 y.2.2.2.1.length c1, .slice a2 y.2.2.2.2.length c2] := mpR (X := None_) (Y := (fun id => X3 id ∨ X4 id)) (show KI.R None_ H4 _ [.int .i64 ((k + (sum ((x.map szE_Packet).take i) : Nat)) + ((1 : Nat) : Int))] from rfl) z3 (fun id p => by exact p.elim) (fun id p => by rcases p with p | p <;> simp [p]) (fun id o p => by first | exact o.elim | exact p.elim)
          have z5 : (Kn.mp (Kn.bool) (Kn.mp (KI) (Kn.mp (KI) (Kn.mp (M_Int64S) (M_Int64S))))).R (fun id => X3 id ∨ X4 id) H4 ((decide ((k + (sum ((x.map szE_Packet).take i) : Nat)) % 3 = 0)), ((k + (sum ((x.map szE_Packet).take i) : Nat)) + ((1 : Nat) : Int)), ((k + (sum ((x.map szE_Packet).take i) : Nat)) + ((1 + 1 : Nat) : Int)), (mk_Int64S ((k + (sum ((x.map szE_Packet).take i) : Nat)) + ((1 + 1 + 1 : Nat) : Int)) y.2.2.2.1), (mk_Int64S ((k + (sum ((x.map szE_Packet).take i) : Nat)) + ((1 + 1 + 1 + sz_Int64S y.2.2.2.1 : Nat) : Int)) y.2.2.2.2)) [.bool (decide ((k + (sum ((x.map szE_Packet).take i) : Nat)) % 3 = 0)), .int .i64 ((k + (sum ((x.map szE_Packet).take i) : Nat)) + ((1 : Nat) : Int)), .int .i64 ((k + (sum ((x.map szE_Packet).take i) : Nat)) + ((1 + 1 : Nat) : Int)), .slice a1 y.2.2.2.1.length c1, .slice a2 y.2.2.2.2.length c2] := mpR (X := None_) (Y := (fun id => X3 id ∨ X4 id)) (show Kn.bool.R None_ H4 _ [.bool (decide ((k + (sum ((x.map szE_Packet).take i) : Nat)) % 3 = 0))] from rfl) z4 (fun id p => by exact p.elim) (fun id p => by rcases p with p | p <;> simp [p]) (fun id o p => by first | exact o.elim | exact p.elim)
          exact (M_Packet).more (fun id p => by rcases p with p | p <;> first | exact i3 id p | exact i4 id p) z5
        refine e _ (seg_of rfl (fun q v hq => ?_))
        match q, hq with
        | 0, hq => cases hq; exact (set_ne (set_ne (set_eq c_0 rfl) (by show 0 + i * 5 + 1 ≠ 0 + i * 5 + 0; omega)) (by show 0 + i * 5 + 2 ≠ 0 + i * 5 + 0; omega)).trans (bmark (a := k + (sum ((x.map szE_Packet).take i) : Nat)) (by omega))
        | 1, hq => cases hq; exact (set_ne (set_eq (set_ne c_1 (by show 0 + i * 5 + 0 ≠ 0 + i * 5 + 1; omega)) rfl) (by show 0 + i * 5 + 2 ≠ 0 + i * 5 + 1; omega)).trans (congrArg (fun z : Int => some (Value.int .i64 z)) w_1)
        | 2, hq => cases hq; exact (set_eq (set_ne (set_ne c_2 (by show 0 + i * 5 + 0 ≠ 0 + i * 5 + 2; omega)) (by show 0 + i * 5 + 1 ≠ 0 + i * 5 + 2; omega)) rfl).trans (congrArg (fun z : Int => some (Value.int .i64 z)) w_2)
        | 3, hq => cases hq; exact (set_ne (set_ne (set_ne c_3 (by show 0 + i * 5 + 0 ≠ 0 + i * 5 + 3; omega)) (by show 0 + i * 5 + 1 ≠ 0 + i * 5 + 3; omega)) (by show 0 + i * 5 + 2 ≠ 0 + i * 5 + 3; omega))
        | 4, hq => cases hq; exact (set_ne (set_ne (set_ne c_4 (by show 0 + i * 5 + 0 ≠ 0 + i * 5 + 4; omega)) (by show 0 + i * 5 + 1 ≠ 0 + i * 5 + 4; omega)) (by show 0 + i * 5 + 2 ≠ 0 + i * 5 + 4; omega))
        | q + 5, hq => simp at hq
      · exact w_5.trans (by show _ = k + (sum ((x.map szE_Packet).take (i + 1)) : Nat); rw [hsum]; omega)
    · obtain rfl : i = x.length := by simp only at h; omega
      refine KW.retW rfl rfl rfl rfl (fun H1 g => ?_) (fun id hid hw => ⟨hi1 id hid (fun e => hw (e ▸ h3)), hi2 id hid (fun e => hw (e ▸ h3)) (fun j hj => hw (h7 j id hj).1)⟩) (fun H1 g => ⟨congrArg (Value.int .i64) ?_, ?_⟩)
      · have := (g.vars 0 _ rfl).2.1
        have := g.n_
        have hlow : ∀ id, id < H.n → id ≤ o ∨ id < H1.n := fun id hid => by
          by_cases e : id = o
          · exact .inl (by omega)
          · have := (g.froz id (hi1 id hid e)).1; exact .inr (by omega)
        rcases Nat.eq_zero_or_pos H.n with h | h
        · omega
        · rcases hlow (H.n - 1) (by omega) with h1 | h1
          · have : o < H1.n := by have := (g.vars 0 _ rfl).2.1; have := g.n_; omega
            omega
          · omega
      · show k + ((sum ((x.map szE_Packet).take x.length) : Nat) : Int) = _
        rw [List.take_of_length_le (by simp)]
      · exact ml1' (mkrow_ml hi3 h2 h6 h3 (g.blk (j := 0) rfl).1 h7 h8 (fun j id hid => (g.froz id (hi1 id (hWl id (h7 j id hid).1) (h7 j id hid).2)).2))
end
end Go.Proofs.YtijmkfnmdhpakaaGreat.Am
/- What the laws' own functions do at slices of Packet: held. Each holds under its own conditions. -/
set_option linter.unusedVariables false
set_option linter.unusedSimpArgs false
set_option maxRecDepth 20000
namespace Go.Proofs.YtijmkfnmdhpakaaGreat.Am
open Go Go.RowKit Go.Proofs
section
variable {S : Ids} {H0 : AH} {W : Ids} {a a' : Option Addr} {c c' : Nat} {left k : Int}
theorem held_PacketS' {x : List T_Packet} (hB : B_PacketS x) (hk : Mk k (sz_PacketS x)) (hs : K_PacketS.R S H0 (mk_PacketS k x) [.slice a x.length c]) : Spec Tryz.prog S H0 62 [.slice a x.length c, .int .i64 k] (fun v => v = .int .i64 (k + (sz_PacketS x : Nat))) := by
  have hs := sl1 hs
  have hl := hB.len
  have hk1 := hk.1
  have hk2 : k + (sum (x.map szE_Packet) : Nat) ≤ 274877906944 := hk.2
  have ml : (mk_PacketS k x).length = x.length := mks_len _ _ _ _
  refine Spec.of1 Tryz.func62 rfl (by kernel_rfl) rfl (fun H _ => ?_)
  refine KW.lp rfl rfl (fun i : Nat => [(0, .slice a x.length c), (1, .int .i64 (k + (sum ((x.map szE_Packet).take i) : Nat))), (5, .int .i64 i)]) (fun i => i ≤ x.length) (fun i => x.length - i) (0) (Nat.zero_le _) ⟨rfl, congrArg (Value.int .i64) (by simp [sum]), rfl, trivial⟩ (fun i hi bE n => ?_)
  refine KW.cnd rfl rfl (fun h => ?_) (fun h => ?_)
  · have h : (i : Int) < (x.length : Int) := h
    obtain ⟨y, hy⟩ : ∃ y, x[i]? = some y := ⟨x[i], List.getElem?_eq_getElem (by omega)⟩
    have hBy := hB.each y (List.mem_of_getElem? hy)
    have hyl : (x.map szE_Packet)[i]? = some (szE_Packet y) := by simp [hy]
    have hsum := sum_take hyl
    have hsl := sum_le (l := x.map szE_Packet) (i + 1)
    have hm : (mk_PacketS k x)[i]? = _ := mks_at (mk := mkE_Packet) (sz := szE_Packet) k hy
    obtain ⟨e, he⟩ : ∃ e, k + ((sum ((x.map szE_Packet).take i) : Nat) : Int) = e := ⟨_, rfl⟩
    rw [he] at hm
    rw [he]
    have he0 : 0 ≤ e := by omega
    have he1 : e + (szE_Packet y : Nat) ≤ 274877906944 := by omega
    have hsz : szE_Packet y = 1 + 1 + 1 + sz_Int64S y.2.2.2.1 + sz_Int64S y.2.2.2.2 := rfl
    have w_1 : IntKind.i64.wrap (e + 1) = (e + ((1 : Nat) : Int)) := (wr (by omega) (by omega)).trans (by omega)
    have w_2 : IntKind.i64.wrap ((e + ((1 : Nat) : Int)) + 1) = (e + ((1 + 1 : Nat) : Int)) := (wr (by omega) (by omega)).trans (by omega)
    have w_3 : IntKind.i64.wrap ((e + ((1 + 1 : Nat) : Int)) + 1) = (e + ((1 + 1 + 1 : Nat) : Int)) := (wr (by omega) (by omega)).trans (by omega)
    have w_4 : (e + ((1 + 1 + 1 : Nat) : Int)) + (sz_Int64S y.2.2.2.1 : Nat) = (e + ((1 + 1 + 1 + sz_Int64S y.2.2.2.1 : Nat) : Int)) := by omega
    have w_5 : (e + ((1 + 1 + 1 + sz_Int64S y.2.2.2.1 : Nat) : Int)) + (sz_Int64S y.2.2.2.2 : Nat) = (e + ((szE_Packet y : Nat) : Int)) := by omega
    refine KW.adS hs.up rfl rfl rfl rfl rfl rfl rfl rfl rfl (by omega) (by rw [ml]; exact h) (fun y1 cy id0 z0 hy1 hsy hat0 => ?_)
    obtain rfl : mkE_Packet e y = y1 := Option.some.inj (hm.symm.trans hy1)
    obtain ⟨f1, g1, f2, g2, rfl, h3, h4⟩ := splitk_Packet hsy
    refine KW.ldF 0 hat0 rfl rfl rfl rfl rfl rfl rfl rfl rfl ?_
    refine KW.cF rfl rfl (by rw [Int.tmod_eq_emod_of_nonneg he0]; simp [mkE_Packet]; rfl) ?_
    refine KW.adS hs.up rfl rfl rfl rfl rfl rfl rfl rfl rfl (by omega) (by rw [ml]; exact h) (fun y1 cy id1 z1 hy1 hsy hat1 => ?_)
    obtain rfl : mkE_Packet e y = y1 := Option.some.inj (hm.symm.trans hy1)
    obtain ⟨f1, g1, f2, g2, rfl, h3, h4⟩ := splitk_Packet hsy
    refine KW.ldF 1 hat1 rfl rfl rfl rfl rfl rfl rfl rfl rfl ?_
    refine KW.cF rfl rfl (by first | (simp; done) | (simp only [w_1]; simp [mkE_Packet]; done)) ?_
    refine KW.adS hs.up rfl rfl rfl rfl rfl rfl rfl rfl rfl (by omega) (by rw [ml]; exact h) (fun y1 cy id2 z2 hy1 hsy hat2 => ?_)
    obtain rfl : mkE_Packet e y = y1 := Option.some.inj (hm.symm.trans hy1)
    obtain ⟨f1, g1, f2, g2, rfl, h3, h4⟩ := splitk_Packet hsy
    refine KW.ldF 2 hat2 rfl rfl rfl rfl rfl rfl rfl rfl rfl ?_
    refine KW.cF rfl rfl (by first | (simp; done) | (simp only [w_1, w_2]; simp [mkE_Packet]; done)) ?_
    refine KW.adS hs.up rfl rfl rfl rfl rfl rfl rfl rfl rfl (by omega) (by rw [ml]; exact h) (fun y1 cy id3 z3 hy1 hsy hat3 => ?_)
    obtain rfl : mkE_Packet e y = y1 := Option.some.inj (hm.symm.trans hy1)
    obtain ⟨f1, g1, f2, g2, rfl, h3, h4⟩ := splitk_Packet hsy
    refine KW.ldF 3 hat3 rfl rfl rfl rfl rfl rfl rfl rfl rfl ?_
    refine KW.callE rfl rfl rfl rfl rfl (spec_I (k := (e + ((1 + 1 + 1 : Nat) : Int))) (by first | rfl | (simp only [w_1, w_2, w_3]; done)) (held_Int64S hBy.2.2.2.1 (k := (e + ((1 + 1 + 1 : Nat) : Int))) (by constructor <;> omega) h3)) (fun _ _ => ?_)
    refine KW.no rfl rfl (by omega) ?_
    refine KW.adS hs.up rfl rfl rfl rfl rfl rfl rfl rfl rfl (by omega) (by rw [ml]; exact h) (fun y1 cy id4 z4 hy1 hsy hat4 => ?_)
    obtain rfl : mkE_Packet e y = y1 := Option.some.inj (hm.symm.trans hy1)
    obtain ⟨f1, g1, f2, g2, rfl, h3, h4⟩ := splitk_Packet hsy
    refine KW.ldF 4 hat4 rfl rfl rfl rfl rfl rfl rfl rfl rfl ?_
    refine KW.callE rfl rfl rfl rfl rfl (spec_I (k := (e + ((1 + 1 + 1 + sz_Int64S y.2.2.2.1 : Nat) : Int))) (by first | rfl | (simp only [w_1, w_2, w_3, w_4]; done)) (held_Int64S hBy.2.2.2.2 (k := (e + ((1 + 1 + 1 + sz_Int64S y.2.2.2.1 : Nat) : Int))) (by constructor <;> omega) h4)) (fun _ _ => ?_)
    refine KW.no rfl rfl (by omega) ?_
    refine KW.nxt rfl rfl (fun H' g => ⟨i + 1, by omega, by first | omega | (simp only; omega), ⟨rfl, congrArg (Value.int .i64) (by first | (rw [hsum]; simp only [w_1, w_2, w_3, w_4, w_5]; omega) | (rw [hsum]; omega)), congrArg (Value.int .i64) (inc64 (by omega)), trivial⟩, g⟩)
  · have : i = x.length := by omega
    subst this
    refine KW.ret rfl rfl rfl rfl (congrArg (Value.int .i64) ?_)
    rw [List.take_of_length_le (by simp)]
end
end Go.Proofs.YtijmkfnmdhpakaaGreat.Am
/- What the laws' own functions do at slices of Flag: sizes, copies, equality, marks. Each holds under its own conditions. -/
set_option linter.unusedVariables false
set_option maxRecDepth 20000
namespace Go.Proofs.YtijmkfnmdhpakaaGreat.Am
open Go Go.RowKit Go.Proofs
abbrev T_Flag : Type := Bool
abbrev K_Flag : Kn Bool := Kn.bool
abbrev M_Flag : Kn Bool := Kn.bool
theorem le_Flag : KLe M_Flag K_Flag := KLe.refl Kn.bool
abbrev B_Flag (x : Bool) : Prop := True
abbrev W_Flag (x : Bool) : Prop := True
theorem formM_Flag {S : Ids} {A : AH} {x : Bool} {cs : List Value} (h : M_Flag.R S A x cs) : cs = [.bool x] := h
abbrev T_FlagS : Type := List T_Flag
abbrev K_FlagS : Kn (List T_Flag) := K_Flag.sl
abbrev M_FlagS : Kn (List T_Flag) := M_Flag.ml
theorem le_FlagS : KLe M_FlagS K_FlagS := KLe.row le_Flag
abbrev szE_Flag (x : T_Flag) : Nat := 1
abbrev tsE_Flag (x : T_Flag) : Nat := 0
abbrev mkE_Flag (k : Int) (x : T_Flag) : T_Flag := (decide (k % 3 = 0))
structure B_FlagS (x : List T_Flag) : Prop where
  len : x.length ≤ 1048576
  each : ∀ y ∈ x, B_Flag y
  tot : sum (x.map szE_Flag) ≤ 16777216
abbrev W_FlagS (x : List T_Flag) : Prop := x.length ≤ 9223372036854775807 ∧ ∀ y ∈ x, W_Flag y
abbrev sz_FlagS (x : List T_Flag) : Nat := sum (x.map szE_Flag)
abbrev mk_FlagS (k : Int) (x : List T_Flag) : List T_Flag := mks mkE_Flag szE_Flag k x
theorem size_FlagS {x : List T_Flag} (hB : B_FlagS x) : sz_FlagS x ≤ 16777216 := hB.tot
theorem ts_FlagS (l : List T_Flag) : sum (l.map szE_Flag) = sum (l.map tsE_Flag) + 1 * l.length := by
  induction l with
  | nil => rfl
  | cons x l ih => simp only [List.map_cons, sum, List.length_cons, ih, szE_Flag, tsE_Flag]; omega
theorem one_Flag {S : Ids} {H0 : AH} {x : T_Flag} {cs : List Value} (h : M_Flag.R S H0 x cs) : cs.all Value.oneCell' = true := by
  obtain rfl := formM_Flag h
  rfl
section
variable {S : Ids} {H0 : AH} {W : Ids} {a a' : Option Addr} {c c' : Nat} {left k : Int}
theorem mark_FlagS {x : List T_Flag} (hB : B_FlagS x) (hk : Mk k (sz_FlagS x)) (hW : ∀ id, W id → S id) (hs : M_FlagS.R W H0 x [.slice a x.length c]) : SpecW Tryz.prog S H0 W 88 [.slice a x.length c, .int .i64 k] (fun n v H1 => v = .int .i64 (k + (sz_FlagS x : Nat)) ∧ M_FlagS.R W H1 (mk_FlagS k x) [.slice a x.length c]) := by
  have hs := ml1 hs
  have hl := hB.len
  have hk1 := hk.1
  have hk2 : k + (sum (x.map szE_Flag) : Nat) ≤ 274877906944 := hk.2
  rcases hs with ⟨rfl, a0, c0, he, ha⟩ | ⟨o, c1, bb, Ws, he, h2, h3, h4, h5, h6, h7, h8, h9⟩
  · refine SpecM.w ?_
    refine SpecM.of Tryz.func88 rfl (by kernel_rfl) rfl (fun H hfin hfz => ?_)
    refine KW.lp rfl rfl (fun _ : Unit => [(0, .slice a 0 c), (1, .int .i64 k), (5, .int .i64 0)]) (fun _ => True) (fun _ => 0) () trivial ⟨rfl, rfl, rfl, trivial⟩ (fun _ _ b n => ?_)
    refine KW.cF rfl rfl (by decide) ?_
    exact KW.retM rfl rfl rfl rfl (fun id hid => ⟨hid, rfl⟩) (fun H1 g => ⟨congrArg (Value.int .i64) (by simp [sz_FlagS, sum]), ml1' (.inl ⟨rfl, a, c, rfl, by cases he; exact ha⟩)⟩)
  · cases he
    refine SpecW.of0 Tryz.func88 rfl (by kernel_rfl) rfl (fun H hfin hfz => ?_)
    obtain ⟨ho1, ho2⟩ := hfz o (hW o h3)
    have hWl : ∀ id, W id → id < H.n := fun id hid => (hfz id (hW id hid)).1
    have h4 := ho2.trans h4
    obtain ⟨ty, rw_, cs0⟩ := bb
    obtain rfl : rw_ = true := h5
    have h6 : x.length * 1 ≤ cs0.length := h6
    refine KW.thaw o ⟨ty, true, cs0⟩ ho1 h4 ?_
    refine KW.lpM rfl rfl (fun s : Nat × Ids × AH × List Value => [(0, .slice (some ⟨o, 0, some 1⟩) x.length c), (1, .int .i64 (k + (sum ((x.map szE_Flag).take s.1) : Nat))), (5, .int .i64 s.1)]) (fun s => s.2.1) (fun s => s.2.2.1) (fun s => [(o, ⟨ty, true, s.2.2.2⟩)])
      (fun s => s.1 ≤ x.length ∧ (∀ id, id < H.n → id ≠ o → s.2.1 id) ∧ (∀ id, id < H.n → id ≠ o → (∀ j, ¬ Ws j id) → s.2.2.1.m id = H.m id) ∧ MkRow M_Flag mkE_Flag szE_Flag x k Ws cs0.length s.1 s.2.2.1 s.2.2.2)
      (fun s => x.length - s.1) (0, fun id => Low H.n id ∧ id ≠ o, H, cs0) ⟨by omega, fun id h1 h2 => ⟨h1, h2⟩, fun id _ _ _ => rfl, rfl, fun j y hx' => ⟨fun _ => (M_Flag).same (fun id hid => (hfz id (hW id (h7 j id hid).1)).2) (h9 j y hx'), fun h => absurd h (by simp)⟩⟩ ⟨rfl, congrArg (Value.int .i64) (by simp [sum]), rfl, trivial⟩ rfl rfl rfl (fun s hi b n => ?_)
    obtain ⟨i, S1, A, cs⟩ := s
    obtain ⟨hi0, hi1, hi2, hi3⟩ := hi
    simp only at hi0 hi1 hi2 hi3
    refine KW.cnd rfl rfl (fun h => ?_) (fun h => ?_)
    · have hil : i < x.length := by omega
      obtain ⟨y, hy⟩ : ∃ y, x[i]? = some y := ⟨x[i], List.getElem?_eq_getElem hil⟩
      have hBy := hB.each y (List.mem_of_getElem? hy)
      have hrow := (hi3.row i y hy).1 (Nat.le_refl _)
      have hyl : (x.map szE_Flag)[i]? = some (szE_Flag y) := by simp [hy]
      have hsum := sum_take hyl
      have hsl := sum_le (l := x.map szE_Flag) (i + 1)
      have hcl := hi3.len
      have hsv := formM_Flag hrow
      have c_0 := seg_at (q := 0) hsv rfl
      have hsz : szE_Flag y = 1 := rfl
      have T : ∀ id, id < H.n → id ≠ o → S1 id ∧ ((¬ Ws i id) → A.m id = A.m id) := fun id h1 h2 => ⟨hi1 id h1 h2, fun _ => rfl⟩
      have w_0 : (k + (sum ((x.map szE_Flag).take i) : Nat)) = (k + (sum ((x.map szE_Flag).take i) : Nat)) := rfl
      have w_1 : IntKind.i64.wrap ((k + (sum ((x.map szE_Flag).take i) : Nat)) + 1) = ((k + (sum ((x.map szE_Flag).take i) : Nat)) + ((1 : Nat) : Int)) := (wr (by omega) (by omega)).trans (by omega)
      refine KW.idx0 rfl rfl rfl rfl rfl rfl rfl rfl rfl (by omega) (by omega) ?_
      refine KW.st1 0 rfl rfl rfl rfl rfl rfl rfl rfl rfl rfl rfl rfl (lt_of c_0) ?_
      refine KW.nxt rfl rfl (fun H' g => ⟨(i + 1, S1, A, cs.set (0 + i * 1) (Value.bool ((k + (sum ((x.map szE_Flag).take i) : Nat)).tmod 3 == 0))), ⟨by simp only; omega, fun id h1 h2 => (T id h1 h2).1, fun id h1 h2 hno => ((T id h1 h2).2 (hno i)).trans (hi2 id h1 h2 hno), hi3.next hy (by simp) (fun j hj => ?_) (fun j hj id hid => (T id (hWl id (h7 j id hid).1) (h7 j id hid).2).2 (fun hc => hj (h8 j i id hid hc))) ?_⟩, by simp only; omega, ⟨rfl, congrArg (Value.int .i64) ?_, congrArg (Value.int .i64) (inc64 (by omega)), trivial⟩, g⟩)
      · show List.take 1 (List.drop (0 + j * 1) _) = List.take 1 (List.drop (0 + j * 1) _)
        rcases Nat.lt_or_ge j i with hlt | hge
        · rw [seg_set (by right; show 0 + j * 1 + 1 ≤ 0 + i * 1 + 0; omega)]
        · have : i < j := by omega
          rw [seg_set (by left; show 0 + i * 1 + 0 < 0 + j * 1; omega)]
      · have e : ∀ (l : List Value), (l.drop (0 + i * 1)).take 1 = [.bool (decide ((k + (sum ((x.map szE_Flag).take i) : Nat)) % 3 = 0))] → (M_Flag).R (Ws i) A (mkE_Flag (k + (sum ((x.map szE_Flag).take i) : Nat)) y) ((l.drop (0 + i * 1)).take 1) := fun l hl => by
          rw [hl]
          have z1 : (Kn.bool).R None_ A (decide ((k + (sum ((x.map szE_Flag).take i) : Nat)) % 3 = 0)) [.bool (decide ((k + (sum ((x.map szE_Flag).take i) : Nat)) % 3 = 0))] := (show Kn.bool.R None_ A _ [.bool (decide ((k + (sum ((x.map szE_Flag).take i) : Nat)) % 3 = 0))] from rfl)
          exact (M_Flag).more (fun id p => p.elim) z1
        refine e _ (seg_of rfl (fun q v hq => ?_))
        match q, hq with
        | 0, hq => cases hq; exact (set_eq c_0 rfl).trans (bmark (a := k + (sum ((x.map szE_Flag).take i) : Nat)) (by omega))
        | q + 1, hq => simp at hq
      · exact w_1.trans (by show _ = k + (sum ((x.map szE_Flag).take (i + 1)) : Nat); rw [hsum]; omega)
    · obtain rfl : i = x.length := by simp only at h; omega
      refine KW.retW rfl rfl rfl rfl (fun H1 g => ?_) (fun id hid hw => ⟨hi1 id hid (fun e => hw (e ▸ h3)), hi2 id hid (fun e => hw (e ▸ h3)) (fun j hj => hw (h7 j id hj).1)⟩) (fun H1 g => ⟨congrArg (Value.int .i64) ?_, ?_⟩)
      · have := (g.vars 0 _ rfl).2.1
        have := g.n_
        have hlow : ∀ id, id < H.n → id ≤ o ∨ id < H1.n := fun id hid => by
          by_cases e : id = o
          · exact .inl (by omega)
          · have := (g.froz id (hi1 id hid e)).1; exact .inr (by omega)
        rcases Nat.eq_zero_or_pos H.n with h | h
        · omega
        · rcases hlow (H.n - 1) (by omega) with h1 | h1
          · have : o < H1.n := by have := (g.vars 0 _ rfl).2.1; have := g.n_; omega
            omega
          · omega
      · show k + ((sum ((x.map szE_Flag).take x.length) : Nat) : Int) = _
        rw [List.take_of_length_le (by simp)]
      · exact ml1' (mkrow_ml hi3 h2 h6 h3 (g.blk (j := 0) rfl).1 h7 h8 (fun j id hid => (g.froz id (hi1 id (hWl id (h7 j id hid).1) (h7 j id hid).2)).2))
end
end Go.Proofs.YtijmkfnmdhpakaaGreat.Am
/- What the laws' own functions do at slices of truth values: equality, held. Each holds under its own conditions. -/
set_option linter.unusedVariables false
set_option linter.unusedSimpArgs false
set_option maxRecDepth 20000
namespace Go.Proofs.YtijmkfnmdhpakaaGreat.Am
open Go Go.RowKit Go.Proofs
section
variable {S : Ids} {H0 : AH} {W : Ids} {a a' : Option Addr} {c c' : Nat} {left k : Int}
theorem eq_FlagS {x : List Bool} (hB : B_FlagS x) (hs : K_FlagS.R S H0 x [.slice a x.length c]) (hs' : K_FlagS.R S H0 x [.slice a' x.length c']) : Spec Tryz.prog S H0 86 [.slice a x.length c, .slice a' x.length c'] (fun v => v = .bool true) := by
  have hs := sl1 hs
  have hs' := sl1 hs'
  have hl := hB.len
  refine Spec.of1 Tryz.func86 rfl (by kernel_rfl) rfl (fun H _ => ?_)
  refine KW.cF rfl rfl (by first | (simp; done) | decide) ?_
  refine KW.lp rfl rfl (fun i : Nat => [(0, .slice a x.length c), (1, .slice a' x.length c'), (5, .int .i64 i)]) (fun i => i ≤ x.length) (fun i => x.length - i) (0) (Nat.zero_le _) ⟨rfl, rfl, rfl, trivial⟩ (fun i hi bE n => ?_)
  refine KW.cnd rfl rfl (fun h => ?_) (fun h => ?_)
  · have h : (i : Int) < (x.length : Int) := h
    refine KW.getB hs.up rfl rfl rfl rfl rfl rfl rfl rfl rfl rfl rfl rfl rfl rfl rfl rfl (by omega) (h) (fun y hy => ?_)
    refine KW.getB hs'.up rfl rfl rfl rfl rfl rfl rfl rfl rfl rfl rfl rfl rfl rfl rfl rfl (by omega) (h) (fun z hz => ?_)
    obtain rfl : y = z := Option.some.inj (hy.symm.trans hz)
    refine KW.cF rfl rfl (by simp) ?_
    refine KW.nxt rfl rfl (fun H' g => ⟨i + 1, by omega, by first | omega | (simp only; omega), ⟨rfl, rfl, congrArg (Value.int .i64) (inc64 (by omega)), trivial⟩, g⟩)
  · exact KW.ret rfl rfl rfl rfl (rfl)
theorem held_FlagS' {x : List Bool} (hB : B_FlagS x) (hk : Mk k (sz_FlagS x)) (hs : K_FlagS.R S H0 (mk_FlagS k x) [.slice a x.length c]) : Spec Tryz.prog S H0 90 [.slice a x.length c, .int .i64 k] (fun v => v = .int .i64 (k + (sz_FlagS x : Nat))) := by
  have hs := sl1 hs
  have hl := hB.len
  have hk1 := hk.1
  have hk2 : k + (sum (x.map szE_Flag) : Nat) ≤ 274877906944 := hk.2
  have ml : (mk_FlagS k x).length = x.length := mks_len _ _ _ _
  refine Spec.of1 Tryz.func90 rfl (by kernel_rfl) rfl (fun H _ => ?_)
  refine KW.lp rfl rfl (fun i : Nat => [(0, .slice a x.length c), (1, .int .i64 (k + (sum ((x.map szE_Flag).take i) : Nat))), (5, .int .i64 i)]) (fun i => i ≤ x.length) (fun i => x.length - i) (0) (Nat.zero_le _) ⟨rfl, congrArg (Value.int .i64) (by simp [sum]), rfl, trivial⟩ (fun i hi bE n => ?_)
  refine KW.cnd rfl rfl (fun h => ?_) (fun h => ?_)
  · have h : (i : Int) < (x.length : Int) := h
    obtain ⟨y, hy⟩ : ∃ y, x[i]? = some y := ⟨x[i], List.getElem?_eq_getElem (by omega)⟩
    have hyl : (x.map szE_Flag)[i]? = some (szE_Flag y) := by simp [hy]
    have hsum := sum_take hyl
    have hsl := sum_le (l := x.map szE_Flag) (i + 1)
    have hm : (mk_FlagS k x)[i]? = _ := mks_at (mk := mkE_Flag) (sz := szE_Flag) k hy
    obtain ⟨e, he⟩ : ∃ e, k + ((sum ((x.map szE_Flag).take i) : Nat) : Int) = e := ⟨_, rfl⟩
    rw [he] at hm
    rw [he]
    have he0 : 0 ≤ e := by omega
    have hsz : szE_Flag y = 1 := rfl
    have w_1 : IntKind.i64.wrap (e + 1) = e + ((szE_Flag y : Nat) : Int) := (wr (by omega) (by omega)).trans (by omega)
    refine KW.getB hs.up rfl rfl rfl rfl rfl rfl rfl rfl rfl rfl rfl rfl rfl rfl rfl rfl (by omega) (by rw [ml]; exact h) (fun z hz => ?_)
    obtain rfl : mkE_Flag e y = z := Option.some.inj (hm.symm.trans hz)
    refine KW.cF rfl rfl (by rw [Int.tmod_eq_emod_of_nonneg he0]; simp [mkE_Flag]; rfl) ?_
    refine KW.nxt rfl rfl (fun H' g => ⟨i + 1, by omega, by first | omega | (simp only; omega), ⟨rfl, congrArg (Value.int .i64) (by rw [w_1, hsum]; omega), congrArg (Value.int .i64) (inc64 (by omega)), trivial⟩, g⟩)
  · have : i = x.length := by omega
    subst this
    refine KW.ret rfl rfl rfl rfl (congrArg (Value.int .i64) ?_)
    rw [List.take_of_length_le (by simp)]
end
end Go.Proofs.YtijmkfnmdhpakaaGreat.Am
/- Held, as the structs ask. Each holds under its own conditions. -/
set_option linter.unusedVariables false
set_option maxRecDepth 20000
namespace Go.Proofs.YtijmkfnmdhpakaaGreat.Am
open Go Go.RowKit Go.Proofs
section
variable {S : Ids} {H0 : AH} {a : Option Addr} {c : Nat} {k : Int}
theorem held_SeatS {x : List T_Seat} (hB : B_SeatS x) (hk : Mk k (sz_SeatS x)) (hs : K_SeatS.R S H0 (mk_SeatS k x) [.slice a (mk_SeatS k x).length c]) : Spec Tryz.prog S H0 60 [.slice a (mk_SeatS k x).length c, .int .i64 k] (fun v => v = .int .i64 (k + (sz_SeatS x : Nat))) := by
  have e : (mk_SeatS k x).length = x.length := mks_len _ _ _ _
  rw [e] at hs ⊢
  exact held_SeatS' hB hk hs
theorem held_PacketS {x : List T_Packet} (hB : B_PacketS x) (hk : Mk k (sz_PacketS x)) (hs : K_PacketS.R S H0 (mk_PacketS k x) [.slice a (mk_PacketS k x).length c]) : Spec Tryz.prog S H0 62 [.slice a (mk_PacketS k x).length c, .int .i64 k] (fun v => v = .int .i64 (k + (sz_PacketS x : Nat))) := by
  have e : (mk_PacketS k x).length = x.length := mks_len _ _ _ _
  rw [e] at hs ⊢
  exact held_PacketS' hB hk hs
theorem held_FlagS {x : List Bool} (hB : B_FlagS x) (hk : Mk k (sz_FlagS x)) (hs : K_FlagS.R S H0 (mk_FlagS k x) [.slice a (mk_FlagS k x).length c]) : Spec Tryz.prog S H0 90 [.slice a (mk_FlagS k x).length c, .int .i64 k] (fun v => v = .int .i64 (k + (sz_FlagS x : Nat))) := by
  have e : (mk_FlagS k x).length = x.length := mks_len _ _ _ _
  rw [e] at hs ⊢
  exact held_FlagS' hB hk hs
end
end Go.Proofs.YtijmkfnmdhpakaaGreat.Am
/- What the laws' own functions do at Opener: sizes, copies, equality, marks. Each holds under its own conditions. -/
set_option linter.unusedVariables false
set_option maxRecDepth 20000
namespace Go.Proofs.YtijmkfnmdhpakaaGreat.Am
open Go Go.RowKit Go.Proofs
abbrev T_Opener : Type := (Int) × (List (List Int)) × (List Bool) × (List Bool)
abbrev K_Opener : Kn T_Opener := Kn.pair (KI) (Kn.pair (K_Int64SS) (Kn.pair (K_FlagS) (K_FlagS)))
abbrev M_Opener : Kn T_Opener := Kn.mp (KI) (Kn.mp (M_Int64SS) (Kn.mp (M_FlagS) (M_FlagS)))
theorem le_Opener : KLe M_Opener K_Opener := KLe.pair ((KLe.refl KI)) (KLe.pair (le_Int64SS) (KLe.pair (le_FlagS) (le_FlagS)))
abbrev B_Opener (x : T_Opener) : Prop := I64 x.1 ∧ B_Int64SS x.2.1 ∧ B_FlagS x.2.2.1 ∧ B_FlagS x.2.2.2
abbrev W_Opener (x : T_Opener) : Prop := I64 x.1 ∧ W_Int64SS x.2.1 ∧ W_FlagS x.2.2.1 ∧ W_FlagS x.2.2.2
abbrev sz_Opener (x : T_Opener) : Nat := sz_Int64SS x.2.1 + sz_FlagS x.2.2.1 + sz_FlagS x.2.2.2
abbrev mk_Opener (k : Int) (x : T_Opener) : T_Opener := (x.1, mk_Int64SS (k) x.2.1, mk_FlagS (k + (sz_Int64SS x.2.1 : Nat)) x.2.2.1, mk_FlagS (k + (sz_Int64SS x.2.1 : Nat) + (sz_FlagS x.2.2.1 : Nat)) x.2.2.2)
theorem size_Opener {x : T_Opener} (hB : B_Opener x) : sz_Opener x ≤ 34603008 := by have := size_Int64SS hB.2.1; have := size_FlagS hB.2.2.1; have := size_FlagS hB.2.2.2; simp only [sz_Opener]; omega
section
variable {S : Ids} {H0 : AH} {W : Ids} {left k : Int}
theorem form_Opener {x : T_Opener} {cs : List Value} (h : K_Opener.R S H0 x cs) : ∃ a1 c1 a2 c2 a3 c3, cs = [.int .i64 x.1, .slice a1 x.2.1.length c1, .slice a2 x.2.2.1.length c2, .slice a3 x.2.2.2.length c3] := by
  obtain ⟨e0, d0, rfl, h0, h0_⟩ := h
  obtain ⟨e1, d1, rfl, h1, h1_⟩ := h0_
  obtain ⟨e2, d2, rfl, h2, h2_⟩ := h1_
  have h3 := h2_
  obtain rfl := KI_of h0
  obtain ⟨a1, c1, rfl⟩ := slform h1
  obtain ⟨a2, c2, rfl⟩ := slform h2
  obtain ⟨a3, c3, rfl⟩ := slform h3
  exact ⟨a1, c1, a2, c2, a3, c3, rfl⟩
theorem formM_Opener {x : T_Opener} {cs : List Value} (h : M_Opener.R S H0 x cs) : ∃ a1 c1 a2 c2 a3 c3, cs = [.int .i64 x.1, .slice a1 x.2.1.length c1, .slice a2 x.2.2.1.length c2, .slice a3 x.2.2.2.length c3] := form_Opener (le_Opener.2 _ _ _ _ h)
theorem split_Opener {x : T_Opener} {cs : List Value} (h : K_Opener.R S H0 x cs) : ∃ a1 c1 a2 c2 a3 c3, cs = [.int .i64 x.1, .slice a1 x.2.1.length c1, .slice a2 x.2.2.1.length c2, .slice a3 x.2.2.2.length c3] ∧ K_Int64SS.R S H0 x.2.1 [.slice a1 x.2.1.length c1] ∧ K_FlagS.R S H0 x.2.2.1 [.slice a2 x.2.2.1.length c2] ∧ K_FlagS.R S H0 x.2.2.2 [.slice a3 x.2.2.2.length c3] := by
  obtain ⟨e0, d0, rfl, h0, h0_⟩ := h
  obtain ⟨e1, d1, rfl, h1, h1_⟩ := h0_
  obtain ⟨e2, d2, rfl, h2, h2_⟩ := h1_
  have h3 := h2_
  obtain rfl := KI_of h0
  obtain ⟨a1, c1, rfl⟩ := slform h1
  obtain ⟨a2, c2, rfl⟩ := slform h2
  obtain ⟨a3, c3, rfl⟩ := slform h3
  exact ⟨a1, c1, a2, c2, a3, c3, rfl, h1, h2, h3⟩
theorem splitM_Opener {x : T_Opener} {cs : List Value} (h : M_Opener.R S H0 x cs) : ∃ (a1 : Option Addr) (c1 : Nat) (a2 : Option Addr) (c2 : Nat) (a3 : Option Addr) (c3 : Nat) (X1 : Ids) (X2 : Ids) (X3 : Ids), cs = [.int .i64 x.1, .slice a1 x.2.1.length c1, .slice a2 x.2.2.1.length c2, .slice a3 x.2.2.2.length c3] ∧ M_Int64SS.R X1 H0 x.2.1 [.slice a1 x.2.1.length c1] ∧ M_FlagS.R X2 H0 x.2.2.1 [.slice a2 x.2.2.1.length c2] ∧ M_FlagS.R X3 H0 x.2.2.2 [.slice a3 x.2.2.2.length c3] ∧ (∀ id, X1 id → S id) ∧ (∀ id, X2 id → S id) ∧ (∀ id, X3 id → S id) ∧ (∀ id, X1 id → X2 id → False) ∧ (∀ id, X1 id → X3 id → False) ∧ (∀ id, X2 id → X3 id → False) := by
  obtain ⟨e0, d0, X0, Y0, rfl, i0, j0, q0, h0, h0_⟩ := h
  obtain ⟨e1, d1, X1, Y1, rfl, i1, j1, q1, h1, h1_⟩ := h0_
  obtain ⟨e2, d2, X2, Y2, rfl, i2, j2, q2, h2, h2_⟩ := h1_
  have h3 := h2_
  obtain rfl := KI_of h0
  obtain ⟨a1, c1, rfl⟩ := mlform h1
  obtain ⟨a2, c2, rfl⟩ := mlform h2
  obtain ⟨a3, c3, rfl⟩ := mlform h3
  exact ⟨a1, c1, a2, c2, a3, c3, X1, X2, Y2, rfl, h1, h2, h3, fun _ p => j0 _ (i1 _ p), fun _ p => j0 _ (j1 _ (i2 _ p)), fun _ p => j0 _ (j1 _ (j2 _ p)), fun _ o p => q1 _ o (i2 _ p), fun _ o p => q1 _ o (j2 _ p), fun _ o p => q2 _ o (p)⟩
theorem eq_Opener {x : T_Opener} {cs cs' : List Value} (hB : B_Opener x) (h : K_Opener.R S H0 x cs) (h' : K_Opener.R S H0 x cs') : Spec Tryz.prog S H0 55 [.agg cs.toArray, .agg cs'.toArray] (fun v => v = .bool true) := by
  obtain ⟨a1, c1, a2, c2, a3, c3, rfl, h1, h2, h3⟩ := split_Opener h
  obtain ⟨b1, d1, b2, d2, b3, d3, rfl, k1, k2, k3⟩ := split_Opener h'
  refine Spec.of1 Tryz.func55 rfl (by kernel_rfl) rfl (fun H _ => ?_)
  refine KW.cF rfl rfl (by first | (simp; done) | decide) ?_
  refine KW.callE rfl rfl rfl rfl rfl (eq_Int64SS hB.2.1 (On.R h1) (On.R k1)) (fun _ _ => ?_)
  refine KW.cF rfl rfl (by first | (simp; done) | decide) ?_
  refine KW.callE rfl rfl rfl rfl rfl (eq_FlagS hB.2.2.1 (On.R h2) (On.R k2)) (fun _ _ => ?_)
  refine KW.cF rfl rfl (by first | (simp; done) | decide) ?_
  refine KW.callE rfl rfl rfl rfl rfl (eq_FlagS hB.2.2.2 (On.R h3) (On.R k3)) (fun _ _ => ?_)
  refine KW.cF rfl rfl (by first | (simp; done) | decide) ?_
  exact KW.ret rfl rfl rfl rfl (rfl)
theorem mark_Opener {x : T_Opener} {cs : List Value} (hB : B_Opener x) (hk : Mk k (sz_Opener x)) (hW : ∀ id, W id → S id) (h : M_Opener.R W H0 x cs) : SpecW Tryz.prog S H0 W 58 [.agg cs.toArray, .int .i64 k] (fun n v H1 => v = .int .i64 (k + (sz_Opener x : Nat)) ∧ M_Opener.R W H1 (mk_Opener k x) cs) := by
  obtain ⟨a1, c1, a2, c2, a3, c3, X1, X2, X3, rfl, h1, h2, h3, i1, i2, i3, q1_2, q1_3, q2_3⟩ := splitM_Opener h
  refine SpecW.of0 Tryz.func58 rfl (by kernel_rfl) rfl (fun H hfin hfz => ?_)
  have F1 : Fk M_Int64SS X1 (Low H.n) H _ _ := ⟨(M_Int64SS).same (fun id hid => (hfz id (hW id (i1 id hid))).2) h1, fun id hid => (hfz id (hW id (i1 id hid))).1⟩
  have F2 : Fk M_FlagS X2 (Low H.n) H _ _ := ⟨(M_FlagS).same (fun id hid => (hfz id (hW id (i2 id hid))).2) h2, fun id hid => (hfz id (hW id (i2 id hid))).1⟩
  have F3 : Fk M_FlagS X3 (Low H.n) H _ _ := ⟨(M_FlagS).same (fun id hid => (hfz id (hW id (i3 id hid))).2) h3, fun id hid => (hfz id (hW id (i3 id hid))).1⟩
  have T : ∀ id, id < H.n → Low H.n id ∧ (¬ W id → H.m id = H.m id) := fun id hid => ⟨hid, fun _ => rfl⟩
  refine KW.callW F1.i rfl rfl rfl rfl rfl (mark_Int64SS hB.2.1 (k := k) (by have := hk.1; have := hk.2; simp only [sz_Opener] at this; constructor <;> omega) F1.i F1.r) (fun v H1 S1 m1 t1 w1 hv => ?_)
  obtain ⟨rfl, g1⟩ := hv
  have F1 : Fk M_Int64SS X1 S1 H1 _ _ := ⟨g1, fun id hid => (t1 id (F1.i id hid)).1⟩
  have F2 := F2.w t1 (fun id p o => q1_2 id o p)
  have F3 := F3.w t1 (fun id p o => q1_3 id o p)
  have T : ∀ id, id < H.n → S1 id ∧ (¬ W id → H1.m id = H.m id) := fun id hid => ⟨(t1 id (T id hid).1).1, fun hw => ((t1 id (T id hid).1).2 (fun o => hw (i1 id o))).trans ((T id hid).2 hw)⟩
  refine KW.callW F2.i rfl rfl rfl rfl rfl (mark_FlagS hB.2.2.1 (k := k + (sz_Int64SS x.2.1 : Nat)) (by have := hk.1; have := hk.2; simp only [sz_Opener] at this; constructor <;> omega) F2.i F2.r) (fun v H2 S2 m2 t2 w2 hv => ?_)
  obtain ⟨rfl, g2⟩ := hv
  have F2 : Fk M_FlagS X2 S2 H2 _ _ := ⟨g2, fun id hid => (t2 id (F2.i id hid)).1⟩
  have F1 := F1.w t2 (fun id p o => q1_2 id p o)
  have F3 := F3.w t2 (fun id p o => q2_3 id o p)
  have T : ∀ id, id < H.n → S2 id ∧ (¬ W id → H2.m id = H.m id) := fun id hid => ⟨(t2 id (T id hid).1).1, fun hw => ((t2 id (T id hid).1).2 (fun o => hw (i2 id o))).trans ((T id hid).2 hw)⟩
  refine KW.callW F3.i rfl rfl rfl rfl rfl (mark_FlagS hB.2.2.2 (k := k + (sz_Int64SS x.2.1 : Nat) + (sz_FlagS x.2.2.1 : Nat)) (by have := hk.1; have := hk.2; simp only [sz_Opener] at this; constructor <;> omega) F3.i F3.r) (fun v H3 S3 m3 t3 w3 hv => ?_)
  obtain ⟨rfl, g3⟩ := hv
  have F3 : Fk M_FlagS X3 S3 H3 _ _ := ⟨g3, fun id hid => (t3 id (F3.i id hid)).1⟩
  have F1 := F1.w t3 (fun id p o => q1_3 id p o)
  have F2 := F2.w t3 (fun id p o => q2_3 id p o)
  have T : ∀ id, id < H.n → S3 id ∧ (¬ W id → H3.m id = H.m id) := fun id hid => ⟨(t3 id (T id hid).1).1, fun hw => ((t3 id (T id hid).1).2 (fun o => hw (i3 id o))).trans ((T id hid).2 hw)⟩
  refine KW.retW rfl rfl rfl rfl (fun H1 g => by have := g.n_; omega) (fun id hid hw => ⟨(T id hid).1, (T id hid).2 hw⟩) (fun H1 g => ?_)
  have e : k + (sz_Int64SS x.2.1 : Nat) + (sz_FlagS x.2.2.1 : Nat) + (sz_FlagS x.2.2.2 : Nat) = k + ((sz_Opener x : Nat) : Int) := by simp only [sz_Opener]; omega
  refine ⟨congrArg (Value.int .i64) e, ?_⟩
  have G1 := (M_Int64SS).same (H' := H1) (fun id hid => (g.froz id (F1.i id hid)).2) F1.r
  have G2 := (M_FlagS).same (H' := H1) (fun id hid => (g.froz id (F2.i id hid)).2) F2.r
  have G3 := (M_FlagS).same (H' := H1) (fun id hid => (g.froz id (F3.i id hid)).2) F3.r
  have k3 : M_FlagS.R (fun id => X3 id) H1 (mk_FlagS (k + (sz_Int64SS x.2.1 : Nat) + (sz_FlagS x.2.2.1 : Nat)) x.2.2.2) [.slice a3 x.2.2.2.length c3] := G3
  have k2 : (Kn.mp (M_FlagS) (M_FlagS)).R (fun id => X2 id ∨ X3 id) H1 ((mk_FlagS (k + (sz_Int64SS x.2.1 : Nat)) x.2.2.1), (mk_FlagS (k + (sz_Int64SS x.2.1 : Nat) + (sz_FlagS x.2.2.1 : Nat)) x.2.2.2)) [.slice a2 x.2.2.1.length c2, .slice a3 x.2.2.2.length c3] := mpR G2 k3 (fun _ p => .inl p) (fun _ p => .inr p) (fun _ o p => q2_3 _ o p)
  have k1 : (Kn.mp (M_Int64SS) (Kn.mp (M_FlagS) (M_FlagS))).R (fun id => X1 id ∨ X2 id ∨ X3 id) H1 ((mk_Int64SS (k) x.2.1), (mk_FlagS (k + (sz_Int64SS x.2.1 : Nat)) x.2.2.1), (mk_FlagS (k + (sz_Int64SS x.2.1 : Nat) + (sz_FlagS x.2.2.1 : Nat)) x.2.2.2)) [.slice a1 x.2.1.length c1, .slice a2 x.2.2.1.length c2, .slice a3 x.2.2.2.length c3] := mpR G1 k2 (fun _ p => .inl p) (fun _ p => .inr p) (fun _ o p => by rcases p with p | p <;> first | exact q1_2 _ o p | exact q1_3 _ o p)
  have k0 : (Kn.mp (KI) (Kn.mp (M_Int64SS) (Kn.mp (M_FlagS) (M_FlagS)))).R (fun id => X1 id ∨ X2 id ∨ X3 id) H1 (x.1, (mk_Int64SS (k) x.2.1), (mk_FlagS (k + (sz_Int64SS x.2.1 : Nat)) x.2.2.1), (mk_FlagS (k + (sz_Int64SS x.2.1 : Nat) + (sz_FlagS x.2.2.1 : Nat)) x.2.2.2)) [.int .i64 x.1, .slice a1 x.2.1.length c1, .slice a2 x.2.2.1.length c2, .slice a3 x.2.2.2.length c3] := mpR (X := None_) (show KI.R None_ H1 _ [.int .i64 x.1] from rfl) k1 (fun _ p => p.elim) (fun _ p => p) (fun _ p _ => p.elim)
  exact (M_Opener).more (fun id p => by rcases p with p | p | p <;> first | exact i1 id p | exact i2 id p | exact i3 id p) k0
theorem held_Opener {x : T_Opener} {cs : List Value} (hB : B_Opener x) (hk : Mk k (sz_Opener x)) (h : K_Opener.R S H0 (mk_Opener k x) cs) : Spec Tryz.prog S H0 61 [.agg cs.toArray, .int .i64 k] (fun v => v = .int .i64 (k + (sz_Opener x : Nat))) := by
  obtain ⟨a1, c1, a2, c2, a3, c3, rfl, h1, h2, h3⟩ := split_Opener h
  refine Spec.of1 Tryz.func61 rfl (by kernel_rfl) rfl (fun H _ => ?_)
  refine KW.callE rfl rfl rfl rfl rfl (held_Int64SS hB.2.1 (k := k) (by have := hk.1; have := hk.2; simp only [sz_Opener] at this; constructor <;> omega) (On.R h1)) (fun _ _ => ?_)
  refine KW.no rfl rfl (by have := hk.1; omega) ?_
  refine KW.callE rfl rfl rfl rfl rfl (held_FlagS hB.2.2.1 (k := k + (sz_Int64SS x.2.1 : Nat)) (by have := hk.1; have := hk.2; simp only [sz_Opener] at this; constructor <;> omega) (On.R h2)) (fun _ _ => ?_)
  refine KW.no rfl rfl (by have := hk.1; omega) ?_
  refine KW.callE rfl rfl rfl rfl rfl (held_FlagS hB.2.2.2 (k := k + (sz_Int64SS x.2.1 : Nat) + (sz_FlagS x.2.2.1 : Nat)) (by have := hk.1; have := hk.2; simp only [sz_Opener] at this; constructor <;> omega) (On.R h3)) (fun _ _ => ?_)
  refine KW.no rfl rfl (by have := hk.1; omega) ?_
  refine KW.ret rfl rfl rfl rfl (congrArg (Value.int .i64) ?_)
  simp only [sz_Opener]
  omega
end
end Go.Proofs.YtijmkfnmdhpakaaGreat.Am
/- What the laws' own functions do at Ceremony: sizes, copies, equality, marks. Each holds under its own conditions. -/
set_option linter.unusedVariables false
set_option maxRecDepth 20000
namespace Go.Proofs.YtijmkfnmdhpakaaGreat.Am
open Go Go.RowKit Go.Proofs
abbrev T_Ceremony : Type := (Int) × (List T_Seat) × (T_Opener) × (List T_Packet)
abbrev K_Ceremony : Kn T_Ceremony := Kn.pair (KI) (Kn.pair (K_SeatS) (Kn.pair (K_Opener) (K_PacketS)))
abbrev M_Ceremony : Kn T_Ceremony := Kn.mp (KI) (Kn.mp (M_SeatS) (Kn.mp (M_Opener) (M_PacketS)))
theorem le_Ceremony : KLe M_Ceremony K_Ceremony := KLe.pair ((KLe.refl KI)) (KLe.pair (le_SeatS) (KLe.pair (le_Opener) (le_PacketS)))
abbrev B_Ceremony (x : T_Ceremony) : Prop := I64 x.1 ∧ B_SeatS x.2.1 ∧ B_Opener x.2.2.1 ∧ B_PacketS x.2.2.2
abbrev W_Ceremony (x : T_Ceremony) : Prop := I64 x.1 ∧ W_SeatS x.2.1 ∧ W_Opener x.2.2.1 ∧ W_PacketS x.2.2.2
abbrev sz_Ceremony (x : T_Ceremony) : Nat := sz_SeatS x.2.1 + sz_Opener x.2.2.1 + sz_PacketS x.2.2.2
abbrev mk_Ceremony (k : Int) (x : T_Ceremony) : T_Ceremony := (x.1, mk_SeatS (k) x.2.1, mk_Opener (k + (sz_SeatS x.2.1 : Nat)) x.2.2.1, mk_PacketS (k + (sz_SeatS x.2.1 : Nat) + (sz_Opener x.2.2.1 : Nat)) x.2.2.2)
theorem size_Ceremony {x : T_Ceremony} (hB : B_Ceremony x) : sz_Ceremony x ≤ 68157440 := by have := size_SeatS hB.2.1; have := size_Opener hB.2.2.1; have := size_PacketS hB.2.2.2; simp only [sz_Ceremony]; omega
section
variable {S : Ids} {H0 : AH} {W : Ids} {left k : Int}
theorem form_Ceremony {x : T_Ceremony} {cs : List Value} (h : K_Ceremony.R S H0 x cs) : ∃ a1 c1 a2 c2 a3 c3 a4 c4 a5 c5, cs = [.int .i64 x.1, .slice a1 x.2.1.length c1, .int .i64 x.2.2.1.1, .slice a2 x.2.2.1.2.1.length c2, .slice a3 x.2.2.1.2.2.1.length c3, .slice a4 x.2.2.1.2.2.2.length c4, .slice a5 x.2.2.2.length c5] := by
  obtain ⟨e0, d0, rfl, h0, h0_⟩ := h
  obtain ⟨e1, d1, rfl, h1, h1_⟩ := h0_
  obtain ⟨e2, d2, rfl, h2, h2_⟩ := h1_
  have h3 := h2_
  obtain rfl := KI_of h0
  obtain ⟨a1, c1, rfl⟩ := slform h1
  obtain ⟨a2, c2, a3, c3, a4, c4, rfl⟩ := form_Opener h2
  obtain ⟨a5, c5, rfl⟩ := slform h3
  exact ⟨a1, c1, a2, c2, a3, c3, a4, c4, a5, c5, rfl⟩
theorem formM_Ceremony {x : T_Ceremony} {cs : List Value} (h : M_Ceremony.R S H0 x cs) : ∃ a1 c1 a2 c2 a3 c3 a4 c4 a5 c5, cs = [.int .i64 x.1, .slice a1 x.2.1.length c1, .int .i64 x.2.2.1.1, .slice a2 x.2.2.1.2.1.length c2, .slice a3 x.2.2.1.2.2.1.length c3, .slice a4 x.2.2.1.2.2.2.length c4, .slice a5 x.2.2.2.length c5] := form_Ceremony (le_Ceremony.2 _ _ _ _ h)
theorem split_Ceremony {x : T_Ceremony} {cs : List Value} (h : K_Ceremony.R S H0 x cs) : ∃ a1 c1 a2 c2 a3 c3 a4 c4 a5 c5, cs = [.int .i64 x.1, .slice a1 x.2.1.length c1, .int .i64 x.2.2.1.1, .slice a2 x.2.2.1.2.1.length c2, .slice a3 x.2.2.1.2.2.1.length c3, .slice a4 x.2.2.1.2.2.2.length c4, .slice a5 x.2.2.2.length c5] ∧ K_SeatS.R S H0 x.2.1 [.slice a1 x.2.1.length c1] ∧ K_Opener.R S H0 x.2.2.1 [.int .i64 x.2.2.1.1, .slice a2 x.2.2.1.2.1.length c2, .slice a3 x.2.2.1.2.2.1.length c3, .slice a4 x.2.2.1.2.2.2.length c4] ∧ K_PacketS.R S H0 x.2.2.2 [.slice a5 x.2.2.2.length c5] := by
  obtain ⟨e0, d0, rfl, h0, h0_⟩ := h
  obtain ⟨e1, d1, rfl, h1, h1_⟩ := h0_
  obtain ⟨e2, d2, rfl, h2, h2_⟩ := h1_
  have h3 := h2_
  obtain rfl := KI_of h0
  obtain ⟨a1, c1, rfl⟩ := slform h1
  obtain ⟨a2, c2, a3, c3, a4, c4, rfl⟩ := form_Opener h2
  obtain ⟨a5, c5, rfl⟩ := slform h3
  exact ⟨a1, c1, a2, c2, a3, c3, a4, c4, a5, c5, rfl, h1, h2, h3⟩
theorem splitM_Ceremony {x : T_Ceremony} {cs : List Value} (h : M_Ceremony.R S H0 x cs) : ∃ (a1 : Option Addr) (c1 : Nat) (a2 : Option Addr) (c2 : Nat) (a3 : Option Addr) (c3 : Nat) (a4 : Option Addr) (c4 : Nat) (a5 : Option Addr) (c5 : Nat) (X1 : Ids) (X2 : Ids) (X3 : Ids), cs = [.int .i64 x.1, .slice a1 x.2.1.length c1, .int .i64 x.2.2.1.1, .slice a2 x.2.2.1.2.1.length c2, .slice a3 x.2.2.1.2.2.1.length c3, .slice a4 x.2.2.1.2.2.2.length c4, .slice a5 x.2.2.2.length c5] ∧ M_SeatS.R X1 H0 x.2.1 [.slice a1 x.2.1.length c1] ∧ M_Opener.R X2 H0 x.2.2.1 [.int .i64 x.2.2.1.1, .slice a2 x.2.2.1.2.1.length c2, .slice a3 x.2.2.1.2.2.1.length c3, .slice a4 x.2.2.1.2.2.2.length c4] ∧ M_PacketS.R X3 H0 x.2.2.2 [.slice a5 x.2.2.2.length c5] ∧ (∀ id, X1 id → S id) ∧ (∀ id, X2 id → S id) ∧ (∀ id, X3 id → S id) ∧ (∀ id, X1 id → X2 id → False) ∧ (∀ id, X1 id → X3 id → False) ∧ (∀ id, X2 id → X3 id → False) := by
  obtain ⟨e0, d0, X0, Y0, rfl, i0, j0, q0, h0, h0_⟩ := h
  obtain ⟨e1, d1, X1, Y1, rfl, i1, j1, q1, h1, h1_⟩ := h0_
  obtain ⟨e2, d2, X2, Y2, rfl, i2, j2, q2, h2, h2_⟩ := h1_
  have h3 := h2_
  obtain rfl := KI_of h0
  obtain ⟨a1, c1, rfl⟩ := mlform h1
  obtain ⟨a2, c2, a3, c3, a4, c4, rfl⟩ := formM_Opener h2
  obtain ⟨a5, c5, rfl⟩ := mlform h3
  exact ⟨a1, c1, a2, c2, a3, c3, a4, c4, a5, c5, X1, X2, Y2, rfl, h1, h2, h3, fun _ p => j0 _ (i1 _ p), fun _ p => j0 _ (j1 _ (i2 _ p)), fun _ p => j0 _ (j1 _ (j2 _ p)), fun _ o p => q1 _ o (i2 _ p), fun _ o p => q1 _ o (j2 _ p), fun _ o p => q2 _ o (p)⟩
theorem eq_Ceremony {x : T_Ceremony} {cs cs' : List Value} (hB : B_Ceremony x) (h : K_Ceremony.R S H0 x cs) (h' : K_Ceremony.R S H0 x cs') : Spec Tryz.prog S H0 26 [.agg cs.toArray, .agg cs'.toArray] (fun v => v = .bool true) := by
  obtain ⟨a1, c1, a2, c2, a3, c3, a4, c4, a5, c5, rfl, h1, h2, h3⟩ := split_Ceremony h
  obtain ⟨b1, d1, b2, d2, b3, d3, b4, d4, b5, d5, rfl, k1, k2, k3⟩ := split_Ceremony h'
  refine Spec.of1 Tryz.func26 rfl (by kernel_rfl) rfl (fun H _ => ?_)
  refine KW.cF rfl rfl (by first | (simp; done) | decide) ?_
  refine KW.callE rfl rfl rfl rfl rfl (eq_SeatS hB.2.1 (On.R h1) (On.R k1)) (fun _ _ => ?_)
  refine KW.cF rfl rfl (by first | (simp; done) | decide) ?_
  refine KW.callE rfl rfl rfl rfl rfl (eq_Opener hB.2.2.1 (On.R h2) (On.R k2)) (fun _ _ => ?_)
  refine KW.cF rfl rfl (by first | (simp; done) | decide) ?_
  refine KW.callE rfl rfl rfl rfl rfl (eq_PacketS hB.2.2.2 (On.R h3) (On.R k3)) (fun _ _ => ?_)
  refine KW.cF rfl rfl (by first | (simp; done) | decide) ?_
  exact KW.ret rfl rfl rfl rfl (rfl)
theorem mark_Ceremony {x : T_Ceremony} {cs : List Value} (hB : B_Ceremony x) (hk : Mk k (sz_Ceremony x)) (hW : ∀ id, W id → S id) (h : M_Ceremony.R W H0 x cs) : SpecW Tryz.prog S H0 W 27 [.agg cs.toArray, .int .i64 k] (fun n v H1 => v = .int .i64 (k + (sz_Ceremony x : Nat)) ∧ M_Ceremony.R W H1 (mk_Ceremony k x) cs) := by
  obtain ⟨a1, c1, a2, c2, a3, c3, a4, c4, a5, c5, X1, X2, X3, rfl, h1, h2, h3, i1, i2, i3, q1_2, q1_3, q2_3⟩ := splitM_Ceremony h
  refine SpecW.of0 Tryz.func27 rfl (by kernel_rfl) rfl (fun H hfin hfz => ?_)
  have F1 : Fk M_SeatS X1 (Low H.n) H _ _ := ⟨(M_SeatS).same (fun id hid => (hfz id (hW id (i1 id hid))).2) h1, fun id hid => (hfz id (hW id (i1 id hid))).1⟩
  have F2 : Fk M_Opener X2 (Low H.n) H _ _ := ⟨(M_Opener).same (fun id hid => (hfz id (hW id (i2 id hid))).2) h2, fun id hid => (hfz id (hW id (i2 id hid))).1⟩
  have F3 : Fk M_PacketS X3 (Low H.n) H _ _ := ⟨(M_PacketS).same (fun id hid => (hfz id (hW id (i3 id hid))).2) h3, fun id hid => (hfz id (hW id (i3 id hid))).1⟩
  have T : ∀ id, id < H.n → Low H.n id ∧ (¬ W id → H.m id = H.m id) := fun id hid => ⟨hid, fun _ => rfl⟩
  refine KW.callW F1.i rfl rfl rfl rfl rfl (mark_SeatS hB.2.1 (k := k) (by have := hk.1; have := hk.2; simp only [sz_Ceremony] at this; constructor <;> omega) F1.i F1.r) (fun v H1 S1 m1 t1 w1 hv => ?_)
  obtain ⟨rfl, g1⟩ := hv
  have F1 : Fk M_SeatS X1 S1 H1 _ _ := ⟨g1, fun id hid => (t1 id (F1.i id hid)).1⟩
  have F2 := F2.w t1 (fun id p o => q1_2 id o p)
  have F3 := F3.w t1 (fun id p o => q1_3 id o p)
  have T : ∀ id, id < H.n → S1 id ∧ (¬ W id → H1.m id = H.m id) := fun id hid => ⟨(t1 id (T id hid).1).1, fun hw => ((t1 id (T id hid).1).2 (fun o => hw (i1 id o))).trans ((T id hid).2 hw)⟩
  refine KW.callW F2.i rfl rfl rfl rfl rfl (mark_Opener hB.2.2.1 (k := k + (sz_SeatS x.2.1 : Nat)) (by have := hk.1; have := hk.2; simp only [sz_Ceremony] at this; constructor <;> omega) F2.i F2.r) (fun v H2 S2 m2 t2 w2 hv => ?_)
  obtain ⟨rfl, g2⟩ := hv
  have F2 : Fk M_Opener X2 S2 H2 _ _ := ⟨g2, fun id hid => (t2 id (F2.i id hid)).1⟩
  have F1 := F1.w t2 (fun id p o => q1_2 id p o)
  have F3 := F3.w t2 (fun id p o => q2_3 id o p)
  have T : ∀ id, id < H.n → S2 id ∧ (¬ W id → H2.m id = H.m id) := fun id hid => ⟨(t2 id (T id hid).1).1, fun hw => ((t2 id (T id hid).1).2 (fun o => hw (i2 id o))).trans ((T id hid).2 hw)⟩
  refine KW.callW F3.i rfl rfl rfl rfl rfl (mark_PacketS hB.2.2.2 (k := k + (sz_SeatS x.2.1 : Nat) + (sz_Opener x.2.2.1 : Nat)) (by have := hk.1; have := hk.2; simp only [sz_Ceremony] at this; constructor <;> omega) F3.i F3.r) (fun v H3 S3 m3 t3 w3 hv => ?_)
  obtain ⟨rfl, g3⟩ := hv
  have F3 : Fk M_PacketS X3 S3 H3 _ _ := ⟨g3, fun id hid => (t3 id (F3.i id hid)).1⟩
  have F1 := F1.w t3 (fun id p o => q1_3 id p o)
  have F2 := F2.w t3 (fun id p o => q2_3 id p o)
  have T : ∀ id, id < H.n → S3 id ∧ (¬ W id → H3.m id = H.m id) := fun id hid => ⟨(t3 id (T id hid).1).1, fun hw => ((t3 id (T id hid).1).2 (fun o => hw (i3 id o))).trans ((T id hid).2 hw)⟩
  refine KW.retW rfl rfl rfl rfl (fun H1 g => by have := g.n_; omega) (fun id hid hw => ⟨(T id hid).1, (T id hid).2 hw⟩) (fun H1 g => ?_)
  have e : k + (sz_SeatS x.2.1 : Nat) + (sz_Opener x.2.2.1 : Nat) + (sz_PacketS x.2.2.2 : Nat) = k + ((sz_Ceremony x : Nat) : Int) := by simp only [sz_Ceremony]; omega
  refine ⟨congrArg (Value.int .i64) e, ?_⟩
  have G1 := (M_SeatS).same (H' := H1) (fun id hid => (g.froz id (F1.i id hid)).2) F1.r
  have G2 := (M_Opener).same (H' := H1) (fun id hid => (g.froz id (F2.i id hid)).2) F2.r
  have G3 := (M_PacketS).same (H' := H1) (fun id hid => (g.froz id (F3.i id hid)).2) F3.r
  have k3 : M_PacketS.R (fun id => X3 id) H1 (mk_PacketS (k + (sz_SeatS x.2.1 : Nat) + (sz_Opener x.2.2.1 : Nat)) x.2.2.2) [.slice a5 x.2.2.2.length c5] := G3
  have k2 : (Kn.mp (M_Opener) (M_PacketS)).R (fun id => X2 id ∨ X3 id) H1 ((mk_Opener (k + (sz_SeatS x.2.1 : Nat)) x.2.2.1), (mk_PacketS (k + (sz_SeatS x.2.1 : Nat) + (sz_Opener x.2.2.1 : Nat)) x.2.2.2)) [.int .i64 x.2.2.1.1, .slice a2 x.2.2.1.2.1.length c2, .slice a3 x.2.2.1.2.2.1.length c3, .slice a4 x.2.2.1.2.2.2.length c4, .slice a5 x.2.2.2.length c5] := mpR G2 k3 (fun _ p => .inl p) (fun _ p => .inr p) (fun _ o p => q2_3 _ o p)
  have k1 : (Kn.mp (M_SeatS) (Kn.mp (M_Opener) (M_PacketS))).R (fun id => X1 id ∨ X2 id ∨ X3 id) H1 ((mk_SeatS (k) x.2.1), (mk_Opener (k + (sz_SeatS x.2.1 : Nat)) x.2.2.1), (mk_PacketS (k + (sz_SeatS x.2.1 : Nat) + (sz_Opener x.2.2.1 : Nat)) x.2.2.2)) [.slice a1 x.2.1.length c1, .int .i64 x.2.2.1.1, .slice a2 x.2.2.1.2.1.length c2, .slice a3 x.2.2.1.2.2.1.length c3, .slice a4 x.2.2.1.2.2.2.length c4, .slice a5 x.2.2.2.length c5] := mpR G1 k2 (fun _ p => .inl p) (fun _ p => .inr p) (fun _ o p => by rcases p with p | p <;> first | exact q1_2 _ o p | exact q1_3 _ o p)
  have k0 : (Kn.mp (KI) (Kn.mp (M_SeatS) (Kn.mp (M_Opener) (M_PacketS)))).R (fun id => X1 id ∨ X2 id ∨ X3 id) H1 (x.1, (mk_SeatS (k) x.2.1), (mk_Opener (k + (sz_SeatS x.2.1 : Nat)) x.2.2.1), (mk_PacketS (k + (sz_SeatS x.2.1 : Nat) + (sz_Opener x.2.2.1 : Nat)) x.2.2.2)) [.int .i64 x.1, .slice a1 x.2.1.length c1, .int .i64 x.2.2.1.1, .slice a2 x.2.2.1.2.1.length c2, .slice a3 x.2.2.1.2.2.1.length c3, .slice a4 x.2.2.1.2.2.2.length c4, .slice a5 x.2.2.2.length c5] := mpR (X := None_) (show KI.R None_ H1 _ [.int .i64 x.1] from rfl) k1 (fun _ p => p.elim) (fun _ p => p) (fun _ p _ => p.elim)
  exact (M_Ceremony).more (fun id p => by rcases p with p | p | p <;> first | exact i1 id p | exact i2 id p | exact i3 id p) k0
theorem held_Ceremony {x : T_Ceremony} {cs : List Value} (hB : B_Ceremony x) (hk : Mk k (sz_Ceremony x)) (h : K_Ceremony.R S H0 (mk_Ceremony k x) cs) : Spec Tryz.prog S H0 28 [.agg cs.toArray, .int .i64 k] (fun v => v = .int .i64 (k + (sz_Ceremony x : Nat))) := by
  obtain ⟨a1, c1, a2, c2, a3, c3, a4, c4, a5, c5, rfl, h1, h2, h3⟩ := split_Ceremony h
  refine Spec.of1 Tryz.func28 rfl (by kernel_rfl) rfl (fun H _ => ?_)
  refine KW.callE rfl rfl rfl rfl rfl (held_SeatS hB.2.1 (k := k) (by have := hk.1; have := hk.2; simp only [sz_Ceremony] at this; constructor <;> omega) (On.R h1)) (fun _ _ => ?_)
  refine KW.no rfl rfl (by have := hk.1; omega) ?_
  refine KW.callE rfl rfl rfl rfl rfl (held_Opener hB.2.2.1 (k := k + (sz_SeatS x.2.1 : Nat)) (by have := hk.1; have := hk.2; simp only [sz_Ceremony] at this; constructor <;> omega) (On.R h2)) (fun _ _ => ?_)
  refine KW.no rfl rfl (by have := hk.1; omega) ?_
  refine KW.callE rfl rfl rfl rfl rfl (held_PacketS hB.2.2.2 (k := k + (sz_SeatS x.2.1 : Nat) + (sz_Opener x.2.2.1 : Nat)) (by have := hk.1; have := hk.2; simp only [sz_Ceremony] at this; constructor <;> omega) (On.R h3)) (fun _ _ => ?_)
  refine KW.no rfl rfl (by have := hk.1; omega) ?_
  refine KW.ret rfl rfl rfl rfl (congrArg (Value.int .i64) ?_)
  simp only [sz_Ceremony]
  omega
end
end Go.Proofs.YtijmkfnmdhpakaaGreat.Am
/- Contracts: a deed is valid, both sides. Each holds under its own conditions. -/
set_option linter.unusedVariables false
set_option linter.unusedSimpArgs false
set_option maxRecDepth 20000
namespace Go.Proofs.YtijmkfnmdhpakaaGreat.Am
open Go Go.RowKit Go.Proofs
section
variable {S : Ids} {H0 : AH}
theorem deedWord1 : Spec Tryz.prog S H0 111 [.int .i64 1] (fun v => v = .tuple #[.string ⟨#[103, 105, 118, 101]⟩, .int .i64 1]) := by
  refine Spec.of1 Tryz.func111 rfl (by kernel_rfl) rfl (fun H _ => ?_)
  refine KW.cT rfl rfl (by first | (simp; done) | decide) ?_
  exact KW.ret rfl rfl rfl rfl (rfl)
theorem deedWord2 : Spec Tryz.prog S H0 111 [.int .i64 2] (fun v => v = .tuple #[.string ⟨#[104, 97, 110, 100]⟩, .int .i64 1]) := by
  refine Spec.of1 Tryz.func111 rfl (by kernel_rfl) rfl (fun H _ => ?_)
  refine KW.cF rfl rfl (by first | (simp; done) | decide) ?_
  refine KW.cT rfl rfl (by first | (simp; done) | decide) ?_
  exact KW.ret rfl rfl rfl rfl (rfl)
theorem deedWord3 : Spec Tryz.prog S H0 111 [.int .i64 3] (fun v => v = .tuple #[.string ⟨#[100, 101, 108, 105, 118, 101, 114]⟩, .int .i64 1]) := by
  refine Spec.of1 Tryz.func111 rfl (by kernel_rfl) rfl (fun H _ => ?_)
  refine KW.cF rfl rfl (by first | (simp; done) | decide) ?_
  refine KW.cF rfl rfl (by first | (simp; done) | decide) ?_
  refine KW.cT rfl rfl (by first | (simp; done) | decide) ?_
  exact KW.ret rfl rfl rfl rfl (rfl)
theorem deedWord4 : Spec Tryz.prog S H0 111 [.int .i64 4] (fun v => v = .tuple #[.string ⟨#[99, 111, 112, 121]⟩, .int .i64 1]) := by
  refine Spec.of1 Tryz.func111 rfl (by kernel_rfl) rfl (fun H _ => ?_)
  refine KW.cF rfl rfl (by first | (simp; done) | decide) ?_
  refine KW.cF rfl rfl (by first | (simp; done) | decide) ?_
  refine KW.cF rfl rfl (by first | (simp; done) | decide) ?_
  refine KW.cT rfl rfl (by first | (simp; done) | decide) ?_
  exact KW.ret rfl rfl rfl rfl (rfl)
theorem deedWord5 : Spec Tryz.prog S H0 111 [.int .i64 5] (fun v => v = .tuple #[.string ⟨#[100, 114, 111, 112]⟩, .int .i64 1]) := by
  refine Spec.of1 Tryz.func111 rfl (by kernel_rfl) rfl (fun H _ => ?_)
  refine KW.cF rfl rfl (by first | (simp; done) | decide) ?_
  refine KW.cF rfl rfl (by first | (simp; done) | decide) ?_
  refine KW.cF rfl rfl (by first | (simp; done) | decide) ?_
  refine KW.cF rfl rfl (by first | (simp; done) | decide) ?_
  refine KW.cT rfl rfl (by first | (simp; done) | decide) ?_
  exact KW.ret rfl rfl rfl rfl (rfl)
theorem deedWord6 : Spec Tryz.prog S H0 111 [.int .i64 6] (fun v => v = .tuple #[.string ⟨#[108, 105, 101]⟩, .int .i64 2]) := by
  refine Spec.of1 Tryz.func111 rfl (by kernel_rfl) rfl (fun H _ => ?_)
  refine KW.cF rfl rfl (by first | (simp; done) | decide) ?_
  refine KW.cF rfl rfl (by first | (simp; done) | decide) ?_
  refine KW.cF rfl rfl (by first | (simp; done) | decide) ?_
  refine KW.cF rfl rfl (by first | (simp; done) | decide) ?_
  refine KW.cF rfl rfl (by first | (simp; done) | decide) ?_
  refine KW.cT rfl rfl (by first | (simp; done) | decide) ?_
  exact KW.ret rfl rfl rfl rfl (rfl)
theorem deedWord7 : Spec Tryz.prog S H0 111 [.int .i64 7] (fun v => v = .tuple #[.string ⟨#[115, 97, 118, 101]⟩, .int .i64 1]) := by
  refine Spec.of1 Tryz.func111 rfl (by kernel_rfl) rfl (fun H _ => ?_)
  refine KW.cF rfl rfl (by first | (simp; done) | decide) ?_
  refine KW.cF rfl rfl (by first | (simp; done) | decide) ?_
  refine KW.cF rfl rfl (by first | (simp; done) | decide) ?_
  refine KW.cF rfl rfl (by first | (simp; done) | decide) ?_
  refine KW.cF rfl rfl (by first | (simp; done) | decide) ?_
  refine KW.cF rfl rfl (by first | (simp; done) | decide) ?_
  refine KW.cT rfl rfl (by first | (simp; done) | decide) ?_
  exact KW.ret rfl rfl rfl rfl (rfl)
theorem deedWord8 : Spec Tryz.prog S H0 111 [.int .i64 8] (fun v => v = .tuple #[.string ⟨#[99, 114, 97, 115, 104]⟩, .int .i64 1]) := by
  refine Spec.of1 Tryz.func111 rfl (by kernel_rfl) rfl (fun H _ => ?_)
  refine KW.cF rfl rfl (by first | (simp; done) | decide) ?_
  refine KW.cF rfl rfl (by first | (simp; done) | decide) ?_
  refine KW.cF rfl rfl (by first | (simp; done) | decide) ?_
  refine KW.cF rfl rfl (by first | (simp; done) | decide) ?_
  refine KW.cF rfl rfl (by first | (simp; done) | decide) ?_
  refine KW.cF rfl rfl (by first | (simp; done) | decide) ?_
  refine KW.cF rfl rfl (by first | (simp; done) | decide) ?_
  refine KW.cT rfl rfl (by first | (simp; done) | decide) ?_
  exact KW.ret rfl rfl rfl rfl (rfl)
theorem deedWord9 : Spec Tryz.prog S H0 111 [.int .i64 9] (fun v => v = .tuple #[.string ⟨#[114, 101, 110, 101, 119]⟩, .int .i64 0]) := by
  refine Spec.of1 Tryz.func111 rfl (by kernel_rfl) rfl (fun H _ => ?_)
  refine KW.cF rfl rfl (by first | (simp; done) | decide) ?_
  refine KW.cF rfl rfl (by first | (simp; done) | decide) ?_
  refine KW.cF rfl rfl (by first | (simp; done) | decide) ?_
  refine KW.cF rfl rfl (by first | (simp; done) | decide) ?_
  refine KW.cF rfl rfl (by first | (simp; done) | decide) ?_
  refine KW.cF rfl rfl (by first | (simp; done) | decide) ?_
  refine KW.cF rfl rfl (by first | (simp; done) | decide) ?_
  refine KW.cF rfl rfl (by first | (simp; done) | decide) ?_
  refine KW.cT rfl rfl (by first | (simp; done) | decide) ?_
  exact KW.ret rfl rfl rfl rfl (rfl)
theorem deedWordN {k : Int} (h : ¬ (1 ≤ k ∧ k ≤ 9)) : Spec Tryz.prog S H0 111 [.int .i64 k] (fun v => v = .tuple #[.string ⟨#[]⟩, .int .i64 0]) := by
  refine Spec.of1 Tryz.func111 rfl (by kernel_rfl) rfl (fun H _ => ?_)
  refine KW.no rfl rfl (by omega) ?_
  refine KW.no rfl rfl (by omega) ?_
  refine KW.no rfl rfl (by omega) ?_
  refine KW.no rfl rfl (by omega) ?_
  refine KW.no rfl rfl (by omega) ?_
  refine KW.no rfl rfl (by omega) ?_
  refine KW.no rfl rfl (by omega) ?_
  refine KW.no rfl rfl (by omega) ?_
  refine KW.no rfl rfl (by omega) ?_
  exact KW.ret rfl rfl rfl rfl (rfl)
theorem validDeedN {k A B : Int} (h : ¬ (1 ≤ k ∧ k ≤ 9)) : Spec Tryz.prog S H0 75 [.agg [.int .i64 k, .int .i64 A, .int .i64 B].toArray] (fun v => v = .bool (tv (DeedP (k, A, B)))) := by
  refine Spec.of1 Tryz.func75 rfl (by kernel_rfl) rfl (fun H _ => ?_)
  refine KW.callE rfl rfl rfl rfl rfl (deedWordN h) (fun _ _ => ?_)
  refine KW.tF rfl rfl (by simp [ByteArray.toList, ByteArray.toList.loop, ByteArray.size, ByteArray.get!]) ?_
  repeat first | refine KW.tT rfl rfl rfl ?_ | refine KW.tF rfl rfl rfl ?_
  rw [tv_false (fun p => h p.1)]
  exact KW.ret rfl rfl rfl rfl (rfl)
theorem validDeed1 {A B : Int} : Spec Tryz.prog S H0 75 [.agg [.int .i64 1, .int .i64 A, .int .i64 B].toArray] (fun v => v = .bool (tv (DeedP (1, A, B)))) := by
  have e : DeedP (1, A, B) ↔ ((0 ≤ A ∧ A ≤ 999) ∧ (0 ≤ B ∧ B ≤ 999) ∧ B = 0) := by simp [DeedP, cntD]
  rw [tv_congr e]
  refine Spec.of1 Tryz.func75 rfl (by kernel_rfl) rfl (fun H _ => ?_)
  refine KW.callE rfl rfl rfl rfl rfl (deedWord1) (fun _ _ => ?_)
  refine KW.tT rfl rfl (by simp [ByteArray.toList, ByteArray.toList.loop, ByteArray.size, ByteArray.get!]) ?_
  refine KW.callE rfl rfl rfl rfl rfl (within _ _ _) (fun _ _ => ?_)
  refine KW.tst rfl rfl (fun h1 => ?_) (fun h1 => ?_)
  · refine KW.callE rfl rfl rfl rfl rfl (within _ _ _) (fun _ _ => ?_)
    refine KW.tst rfl rfl (fun h2 => ?_) (fun h2 => ?_)
    · repeat first | refine KW.tT rfl rfl rfl ?_ | refine KW.tF rfl rfl rfl ?_
      refine KW.ret rfl rfl rfl rfl ?_
      by_cases h3 : B = 0
      · rw [tv_true ⟨h1, h2, h3⟩, h3]; rfl
      · rw [tv_false (fun p => h3 p.2.2)]; show Value.bool (decide (B = 0)) = _; rw [decide_eq_false h3]
    · repeat first | refine KW.tT rfl rfl rfl ?_ | refine KW.tF rfl rfl rfl ?_
      rw [tv_false (fun p => h2 p.2.1)]
      exact KW.ret rfl rfl rfl rfl (rfl)
  · repeat first | refine KW.tT rfl rfl rfl ?_ | refine KW.tF rfl rfl rfl ?_
    rw [tv_false (fun p => h1 p.1)]
    exact KW.ret rfl rfl rfl rfl (rfl)
theorem validDeed2 {A B : Int} : Spec Tryz.prog S H0 75 [.agg [.int .i64 2, .int .i64 A, .int .i64 B].toArray] (fun v => v = .bool (tv (DeedP (2, A, B)))) := by
  have e : DeedP (2, A, B) ↔ ((0 ≤ A ∧ A ≤ 999) ∧ (0 ≤ B ∧ B ≤ 999) ∧ B = 0) := by simp [DeedP, cntD]
  rw [tv_congr e]
  refine Spec.of1 Tryz.func75 rfl (by kernel_rfl) rfl (fun H _ => ?_)
  refine KW.callE rfl rfl rfl rfl rfl (deedWord2) (fun _ _ => ?_)
  refine KW.tT rfl rfl (by simp [ByteArray.toList, ByteArray.toList.loop, ByteArray.size, ByteArray.get!]) ?_
  refine KW.callE rfl rfl rfl rfl rfl (within _ _ _) (fun _ _ => ?_)
  refine KW.tst rfl rfl (fun h1 => ?_) (fun h1 => ?_)
  · refine KW.callE rfl rfl rfl rfl rfl (within _ _ _) (fun _ _ => ?_)
    refine KW.tst rfl rfl (fun h2 => ?_) (fun h2 => ?_)
    · repeat first | refine KW.tT rfl rfl rfl ?_ | refine KW.tF rfl rfl rfl ?_
      refine KW.ret rfl rfl rfl rfl ?_
      by_cases h3 : B = 0
      · rw [tv_true ⟨h1, h2, h3⟩, h3]; rfl
      · rw [tv_false (fun p => h3 p.2.2)]; show Value.bool (decide (B = 0)) = _; rw [decide_eq_false h3]
    · repeat first | refine KW.tT rfl rfl rfl ?_ | refine KW.tF rfl rfl rfl ?_
      rw [tv_false (fun p => h2 p.2.1)]
      exact KW.ret rfl rfl rfl rfl (rfl)
  · repeat first | refine KW.tT rfl rfl rfl ?_ | refine KW.tF rfl rfl rfl ?_
    rw [tv_false (fun p => h1 p.1)]
    exact KW.ret rfl rfl rfl rfl (rfl)
theorem validDeed3 {A B : Int} : Spec Tryz.prog S H0 75 [.agg [.int .i64 3, .int .i64 A, .int .i64 B].toArray] (fun v => v = .bool (tv (DeedP (3, A, B)))) := by
  have e : DeedP (3, A, B) ↔ ((0 ≤ A ∧ A ≤ 999) ∧ (0 ≤ B ∧ B ≤ 999) ∧ B = 0) := by simp [DeedP, cntD]
  rw [tv_congr e]
  refine Spec.of1 Tryz.func75 rfl (by kernel_rfl) rfl (fun H _ => ?_)
  refine KW.callE rfl rfl rfl rfl rfl (deedWord3) (fun _ _ => ?_)
  refine KW.tT rfl rfl (by simp [ByteArray.toList, ByteArray.toList.loop, ByteArray.size, ByteArray.get!]) ?_
  refine KW.callE rfl rfl rfl rfl rfl (within _ _ _) (fun _ _ => ?_)
  refine KW.tst rfl rfl (fun h1 => ?_) (fun h1 => ?_)
  · refine KW.callE rfl rfl rfl rfl rfl (within _ _ _) (fun _ _ => ?_)
    refine KW.tst rfl rfl (fun h2 => ?_) (fun h2 => ?_)
    · repeat first | refine KW.tT rfl rfl rfl ?_ | refine KW.tF rfl rfl rfl ?_
      refine KW.ret rfl rfl rfl rfl ?_
      by_cases h3 : B = 0
      · rw [tv_true ⟨h1, h2, h3⟩, h3]; rfl
      · rw [tv_false (fun p => h3 p.2.2)]; show Value.bool (decide (B = 0)) = _; rw [decide_eq_false h3]
    · repeat first | refine KW.tT rfl rfl rfl ?_ | refine KW.tF rfl rfl rfl ?_
      rw [tv_false (fun p => h2 p.2.1)]
      exact KW.ret rfl rfl rfl rfl (rfl)
  · repeat first | refine KW.tT rfl rfl rfl ?_ | refine KW.tF rfl rfl rfl ?_
    rw [tv_false (fun p => h1 p.1)]
    exact KW.ret rfl rfl rfl rfl (rfl)
theorem validDeed4 {A B : Int} : Spec Tryz.prog S H0 75 [.agg [.int .i64 4, .int .i64 A, .int .i64 B].toArray] (fun v => v = .bool (tv (DeedP (4, A, B)))) := by
  have e : DeedP (4, A, B) ↔ ((0 ≤ A ∧ A ≤ 999) ∧ (0 ≤ B ∧ B ≤ 999) ∧ B = 0) := by simp [DeedP, cntD]
  rw [tv_congr e]
  refine Spec.of1 Tryz.func75 rfl (by kernel_rfl) rfl (fun H _ => ?_)
  refine KW.callE rfl rfl rfl rfl rfl (deedWord4) (fun _ _ => ?_)
  refine KW.tT rfl rfl (by simp [ByteArray.toList, ByteArray.toList.loop, ByteArray.size, ByteArray.get!]) ?_
  refine KW.callE rfl rfl rfl rfl rfl (within _ _ _) (fun _ _ => ?_)
  refine KW.tst rfl rfl (fun h1 => ?_) (fun h1 => ?_)
  · refine KW.callE rfl rfl rfl rfl rfl (within _ _ _) (fun _ _ => ?_)
    refine KW.tst rfl rfl (fun h2 => ?_) (fun h2 => ?_)
    · repeat first | refine KW.tT rfl rfl rfl ?_ | refine KW.tF rfl rfl rfl ?_
      refine KW.ret rfl rfl rfl rfl ?_
      by_cases h3 : B = 0
      · rw [tv_true ⟨h1, h2, h3⟩, h3]; rfl
      · rw [tv_false (fun p => h3 p.2.2)]; show Value.bool (decide (B = 0)) = _; rw [decide_eq_false h3]
    · repeat first | refine KW.tT rfl rfl rfl ?_ | refine KW.tF rfl rfl rfl ?_
      rw [tv_false (fun p => h2 p.2.1)]
      exact KW.ret rfl rfl rfl rfl (rfl)
  · repeat first | refine KW.tT rfl rfl rfl ?_ | refine KW.tF rfl rfl rfl ?_
    rw [tv_false (fun p => h1 p.1)]
    exact KW.ret rfl rfl rfl rfl (rfl)
theorem validDeed5 {A B : Int} : Spec Tryz.prog S H0 75 [.agg [.int .i64 5, .int .i64 A, .int .i64 B].toArray] (fun v => v = .bool (tv (DeedP (5, A, B)))) := by
  have e : DeedP (5, A, B) ↔ ((0 ≤ A ∧ A ≤ 999) ∧ (0 ≤ B ∧ B ≤ 999) ∧ B = 0) := by simp [DeedP, cntD]
  rw [tv_congr e]
  refine Spec.of1 Tryz.func75 rfl (by kernel_rfl) rfl (fun H _ => ?_)
  refine KW.callE rfl rfl rfl rfl rfl (deedWord5) (fun _ _ => ?_)
  refine KW.tT rfl rfl (by simp [ByteArray.toList, ByteArray.toList.loop, ByteArray.size, ByteArray.get!]) ?_
  refine KW.callE rfl rfl rfl rfl rfl (within _ _ _) (fun _ _ => ?_)
  refine KW.tst rfl rfl (fun h1 => ?_) (fun h1 => ?_)
  · refine KW.callE rfl rfl rfl rfl rfl (within _ _ _) (fun _ _ => ?_)
    refine KW.tst rfl rfl (fun h2 => ?_) (fun h2 => ?_)
    · repeat first | refine KW.tT rfl rfl rfl ?_ | refine KW.tF rfl rfl rfl ?_
      refine KW.ret rfl rfl rfl rfl ?_
      by_cases h3 : B = 0
      · rw [tv_true ⟨h1, h2, h3⟩, h3]; rfl
      · rw [tv_false (fun p => h3 p.2.2)]; show Value.bool (decide (B = 0)) = _; rw [decide_eq_false h3]
    · repeat first | refine KW.tT rfl rfl rfl ?_ | refine KW.tF rfl rfl rfl ?_
      rw [tv_false (fun p => h2 p.2.1)]
      exact KW.ret rfl rfl rfl rfl (rfl)
  · repeat first | refine KW.tT rfl rfl rfl ?_ | refine KW.tF rfl rfl rfl ?_
    rw [tv_false (fun p => h1 p.1)]
    exact KW.ret rfl rfl rfl rfl (rfl)
theorem validDeed6 {A B : Int} : Spec Tryz.prog S H0 75 [.agg [.int .i64 6, .int .i64 A, .int .i64 B].toArray] (fun v => v = .bool (tv (DeedP (6, A, B)))) := by
  have e : DeedP (6, A, B) ↔ ((0 ≤ A ∧ A ≤ 999) ∧ (0 ≤ B ∧ B ≤ 999)) := by simp [DeedP, cntD]
  rw [tv_congr e]
  refine Spec.of1 Tryz.func75 rfl (by kernel_rfl) rfl (fun H _ => ?_)
  refine KW.callE rfl rfl rfl rfl rfl (deedWord6) (fun _ _ => ?_)
  refine KW.tT rfl rfl (by simp [ByteArray.toList, ByteArray.toList.loop, ByteArray.size, ByteArray.get!]) ?_
  refine KW.callE rfl rfl rfl rfl rfl (within _ _ _) (fun _ _ => ?_)
  refine KW.tst rfl rfl (fun h1 => ?_) (fun h1 => ?_)
  · refine KW.callE rfl rfl rfl rfl rfl (within _ _ _) (fun _ _ => ?_)
    refine KW.tst rfl rfl (fun h2 => ?_) (fun h2 => ?_)
    · repeat first | refine KW.tT rfl rfl rfl ?_ | refine KW.tF rfl rfl rfl ?_
      refine KW.ret rfl rfl rfl rfl ?_
      rw [tv_true ⟨h1, h2⟩]
      rfl
    · repeat first | refine KW.tT rfl rfl rfl ?_ | refine KW.tF rfl rfl rfl ?_
      rw [tv_false (fun p => h2 p.2)]
      exact KW.ret rfl rfl rfl rfl (rfl)
  · repeat first | refine KW.tT rfl rfl rfl ?_ | refine KW.tF rfl rfl rfl ?_
    rw [tv_false (fun p => h1 p.1)]
    exact KW.ret rfl rfl rfl rfl (rfl)
theorem validDeed7 {A B : Int} : Spec Tryz.prog S H0 75 [.agg [.int .i64 7, .int .i64 A, .int .i64 B].toArray] (fun v => v = .bool (tv (DeedP (7, A, B)))) := by
  have e : DeedP (7, A, B) ↔ ((0 ≤ A ∧ A ≤ 999) ∧ (0 ≤ B ∧ B ≤ 999) ∧ B = 0) := by simp [DeedP, cntD]
  rw [tv_congr e]
  refine Spec.of1 Tryz.func75 rfl (by kernel_rfl) rfl (fun H _ => ?_)
  refine KW.callE rfl rfl rfl rfl rfl (deedWord7) (fun _ _ => ?_)
  refine KW.tT rfl rfl (by simp [ByteArray.toList, ByteArray.toList.loop, ByteArray.size, ByteArray.get!]) ?_
  refine KW.callE rfl rfl rfl rfl rfl (within _ _ _) (fun _ _ => ?_)
  refine KW.tst rfl rfl (fun h1 => ?_) (fun h1 => ?_)
  · refine KW.callE rfl rfl rfl rfl rfl (within _ _ _) (fun _ _ => ?_)
    refine KW.tst rfl rfl (fun h2 => ?_) (fun h2 => ?_)
    · repeat first | refine KW.tT rfl rfl rfl ?_ | refine KW.tF rfl rfl rfl ?_
      refine KW.ret rfl rfl rfl rfl ?_
      by_cases h3 : B = 0
      · rw [tv_true ⟨h1, h2, h3⟩, h3]; rfl
      · rw [tv_false (fun p => h3 p.2.2)]; show Value.bool (decide (B = 0)) = _; rw [decide_eq_false h3]
    · repeat first | refine KW.tT rfl rfl rfl ?_ | refine KW.tF rfl rfl rfl ?_
      rw [tv_false (fun p => h2 p.2.1)]
      exact KW.ret rfl rfl rfl rfl (rfl)
  · repeat first | refine KW.tT rfl rfl rfl ?_ | refine KW.tF rfl rfl rfl ?_
    rw [tv_false (fun p => h1 p.1)]
    exact KW.ret rfl rfl rfl rfl (rfl)
theorem validDeed8 {A B : Int} : Spec Tryz.prog S H0 75 [.agg [.int .i64 8, .int .i64 A, .int .i64 B].toArray] (fun v => v = .bool (tv (DeedP (8, A, B)))) := by
  have e : DeedP (8, A, B) ↔ ((0 ≤ A ∧ A ≤ 999) ∧ (0 ≤ B ∧ B ≤ 999) ∧ B = 0) := by simp [DeedP, cntD]
  rw [tv_congr e]
  refine Spec.of1 Tryz.func75 rfl (by kernel_rfl) rfl (fun H _ => ?_)
  refine KW.callE rfl rfl rfl rfl rfl (deedWord8) (fun _ _ => ?_)
  refine KW.tT rfl rfl (by simp [ByteArray.toList, ByteArray.toList.loop, ByteArray.size, ByteArray.get!]) ?_
  refine KW.callE rfl rfl rfl rfl rfl (within _ _ _) (fun _ _ => ?_)
  refine KW.tst rfl rfl (fun h1 => ?_) (fun h1 => ?_)
  · refine KW.callE rfl rfl rfl rfl rfl (within _ _ _) (fun _ _ => ?_)
    refine KW.tst rfl rfl (fun h2 => ?_) (fun h2 => ?_)
    · repeat first | refine KW.tT rfl rfl rfl ?_ | refine KW.tF rfl rfl rfl ?_
      refine KW.ret rfl rfl rfl rfl ?_
      by_cases h3 : B = 0
      · rw [tv_true ⟨h1, h2, h3⟩, h3]; rfl
      · rw [tv_false (fun p => h3 p.2.2)]; show Value.bool (decide (B = 0)) = _; rw [decide_eq_false h3]
    · repeat first | refine KW.tT rfl rfl rfl ?_ | refine KW.tF rfl rfl rfl ?_
      rw [tv_false (fun p => h2 p.2.1)]
      exact KW.ret rfl rfl rfl rfl (rfl)
  · repeat first | refine KW.tT rfl rfl rfl ?_ | refine KW.tF rfl rfl rfl ?_
    rw [tv_false (fun p => h1 p.1)]
    exact KW.ret rfl rfl rfl rfl (rfl)
theorem validDeed9 {A B : Int} : Spec Tryz.prog S H0 75 [.agg [.int .i64 9, .int .i64 A, .int .i64 B].toArray] (fun v => v = .bool (tv (DeedP (9, A, B)))) := by
  have e : DeedP (9, A, B) ↔ ((0 ≤ A ∧ A ≤ 999) ∧ (0 ≤ B ∧ B ≤ 999) ∧ A = 0 ∧ B = 0) := by simp [DeedP, cntD]
  rw [tv_congr e]
  refine Spec.of1 Tryz.func75 rfl (by kernel_rfl) rfl (fun H _ => ?_)
  refine KW.callE rfl rfl rfl rfl rfl (deedWord9) (fun _ _ => ?_)
  refine KW.tT rfl rfl (by simp [ByteArray.toList, ByteArray.toList.loop, ByteArray.size, ByteArray.get!]) ?_
  refine KW.callE rfl rfl rfl rfl rfl (within _ _ _) (fun _ _ => ?_)
  refine KW.tst rfl rfl (fun h1 => ?_) (fun h1 => ?_)
  · refine KW.callE rfl rfl rfl rfl rfl (within _ _ _) (fun _ _ => ?_)
    refine KW.tst rfl rfl (fun h2 => ?_) (fun h2 => ?_)
    · repeat first | refine KW.tT rfl rfl rfl ?_ | refine KW.tF rfl rfl rfl ?_
      refine KW.tst rfl rfl (fun h3 => ?_) (fun h3 => ?_)
      · repeat first | refine KW.tT rfl rfl rfl ?_ | refine KW.tF rfl rfl rfl ?_
        refine KW.ret rfl rfl rfl rfl ?_
        by_cases h4 : B = 0
        · rw [tv_true ⟨h1, h2, h3, h4⟩, h4]; rfl
        · rw [tv_false (fun p => h4 p.2.2.2)]; show Value.bool (decide (B = 0)) = _; rw [decide_eq_false h4]
      · repeat first | refine KW.tT rfl rfl rfl ?_ | refine KW.tF rfl rfl rfl ?_
        rw [tv_false (fun p => h3 p.2.2.1)]
        exact KW.ret rfl rfl rfl rfl (rfl)
    · repeat first | refine KW.tT rfl rfl rfl ?_ | refine KW.tF rfl rfl rfl ?_
      rw [tv_false (fun p => h2 p.2.1)]
      exact KW.ret rfl rfl rfl rfl (rfl)
  · repeat first | refine KW.tT rfl rfl rfl ?_ | refine KW.tF rfl rfl rfl ?_
    rw [tv_false (fun p => h1 p.1)]
    exact KW.ret rfl rfl rfl rfl (rfl)
/-- A deed, either side. -/
theorem validDeed (d : T_Deed) : Spec Tryz.prog S H0 75 [.agg [.int .i64 d.1, .int .i64 d.2.1, .int .i64 d.2.2].toArray] (fun v => v = .bool (tv (DeedP d))) := by
  obtain ⟨k, A, B⟩ := d
  by_cases h : 1 ≤ k ∧ k ≤ 9
  · have : k = 1 ∨ k = 2 ∨ k = 3 ∨ k = 4 ∨ k = 5 ∨ k = 6 ∨ k = 7 ∨ k = 8 ∨ k = 9 := by omega
    rcases this with rfl | rfl | rfl | rfl | rfl | rfl | rfl | rfl | rfl
    · exact validDeed1
    · exact validDeed2
    · exact validDeed3
    · exact validDeed4
    · exact validDeed5
    · exact validDeed6
    · exact validDeed7
    · exact validDeed8
    · exact validDeed9
  · exact validDeedN h
theorem l08Words : SpecM Tryz.prog S H0 99 [] (fun n v H1 => ∃ a o, v = .tuple #[.slice (some a) 10 10, .slice (some ⟨o, 0, some 1⟩) 10 10] ∧ KI.Ml (New n H1.n) H1 (.slice (some ⟨o, 0, some 1⟩) 10 10) [0, 1, 1, 1, 1, 1, 2, 1, 1, 0]) := by
  refine SpecM.of1 Tryz.func99 rfl (by kernel_rfl) rfl (fun H _ => ?_)
  refine KW.lit rfl rfl rfl rfl rfl rfl rfl rfl rfl rfl [_, _, _, _, _, _, _, _, _, _] rfl rfl (fun v hv => by simp at hv; rcases hv with rfl | rfl | rfl | rfl | rfl | rfl | rfl | rfl | rfl | rfl <;> rfl) rfl ?_
  refine KW.lit rfl rfl rfl rfl rfl rfl rfl rfl rfl rfl [_, _, _, _, _, _, _, _, _, _] rfl rfl (fun v hv => by simp at hv; rcases hv with rfl | rfl | rfl | rfl | rfl <;> rfl) rfl ?_
  refine KW.retM1 rfl rfl rfl rfl (fun H1 g => ⟨_, _, rfl, int_ml ⟨by omega, by have := g.n_; omega⟩ (g.blk (j := 1) rfl).1 rfl rfl (Nat.le_refl _)⟩)
theorem l08DeedM (d : T_Deed) : SpecM Tryz.prog S H0 68 [.agg [.int .i64 d.1, .int .i64 d.2.1, .int .i64 d.2.2].toArray] (fun _ v _ => v = .bool (tv (DeedP d))) := by
  obtain ⟨k, A, B⟩ := d
  refine SpecM.of1 Tryz.func68 rfl (by kernel_rfl) rfl (fun H _ => ?_)
  refine KW.callE rfl rfl rfl rfl rfl (l00In _ _ _) (fun _ _ => ?_)
  refine KW.tstB rfl rfl (fun h1 => ?_) (fun h1 => ?_)
  · have h1 : ¬ (1 ≤ k ∧ k ≤ 9) := by simp at h1; omega
    repeat first | refine KW.tT rfl rfl rfl ?_ | refine KW.tF rfl rfl rfl ?_
    refine KW.cT rfl rfl (by first | (simp; done) | decide) ?_
    rw [tv_false (fun p => h1 p.1)]
    refine KW.retM1 rfl rfl rfl rfl (fun H1 g => rfl)
  · have h1 : 1 ≤ k ∧ k ≤ 9 := by simpa using h1
    refine KW.callE rfl rfl rfl rfl rfl (l00In _ _ _) (fun _ _ => ?_)
    refine KW.tstB rfl rfl (fun h2 => ?_) (fun h2 => ?_)
    · have h2 : ¬ (0 ≤ A ∧ A ≤ 999) := by simp at h2; omega
      repeat first | refine KW.tT rfl rfl rfl ?_ | refine KW.tF rfl rfl rfl ?_
      refine KW.cT rfl rfl (by first | (simp; done) | decide) ?_
      rw [tv_false (fun p => h2 p.2.1)]
      refine KW.retM1 rfl rfl rfl rfl (fun H1 g => rfl)
    · have h2 : 0 ≤ A ∧ A ≤ 999 := by simpa using h2
      refine KW.callE rfl rfl rfl rfl rfl (l00In _ _ _) (fun _ _ => ?_)
      refine KW.cndB rfl rfl (fun h3 => ?_) (fun h3 => ?_)
      · have h3 : ¬ (0 ≤ B ∧ B ≤ 999) := by simp at h3; omega
        rw [tv_false (fun p => h3 p.2.2.1)]
        refine KW.retM1 rfl rfl rfl rfl (fun H1 g => rfl)
      · have h3 : 0 ≤ B ∧ B ≤ 999 := by simpa using h3
        refine KW.callN1 rfl rfl rfl rfl rfl (l08Words) (fun v H1 S1 m1 _ _ hv => ?_)
        obtain ⟨a, o, rfl, hM⟩ := hv
        refine KW.getI hM.sl.up rfl rfl rfl rfl rfl rfl rfl rfl rfl rfl rfl rfl rfl rfl rfl rfl (by omega) (by show k < 10; omega) (fun y hy => ?_)
        have hyk : y = cntD k := by
          have : k = 1 ∨ k = 2 ∨ k = 3 ∨ k = 4 ∨ k = 5 ∨ k = 6 ∨ k = 7 ∨ k = 8 ∨ k = 9 := by omega
          rcases this with rfl | rfl | rfl | rfl | rfl | rfl | rfl | rfl | rfl <;> (cases hy; rfl)
        subst hyk
        refine KW.tst rfl rfl (fun g1 => ?_) (fun g1 => ?_)
        · have g1 : 0 < cntD k := g1
          repeat first | refine KW.tT rfl rfl rfl ?_ | refine KW.tF rfl rfl rfl ?_
          refine KW.getI hM.sl.up rfl rfl rfl rfl rfl rfl rfl rfl rfl rfl rfl rfl rfl rfl rfl rfl (by omega) (by show k < 10; omega) (fun y2 hy2 => ?_)
          obtain rfl : cntD k = y2 := by have := hy.symm.trans hy2; exact Option.some.inj this
          refine KW.tst rfl rfl (fun g2 => ?_) (fun g2 => ?_)
          · have g2 : 1 < cntD k := g2
            repeat first | refine KW.tT rfl rfl rfl ?_ | refine KW.tF rfl rfl rfl ?_
            rw [tv_true (p := DeedP (k, A, B)) ⟨h1, h2, h3, .inl g1, .inl g2⟩]
            refine KW.retM1 rfl rfl rfl rfl (fun H1 g => rfl)
          · have g2 : ¬ 1 < cntD k := g2
            repeat first | refine KW.tT rfl rfl rfl ?_ | refine KW.tF rfl rfl rfl ?_
            refine KW.retM1 rfl rfl rfl rfl (fun H1 g => ?_)
            by_cases h4 : B = 0
            · rw [tv_true (p := DeedP (k, A, B)) ⟨h1, h2, h3, .inl g1, .inr h4⟩]; show Value.bool (decide (B = 0)) = _; rw [decide_eq_true h4]
            · rw [tv_false (p := DeedP (k, A, B)) (fun p => p.2.2.2.2.elim g2 h4)]; show Value.bool (decide (B = 0)) = _; rw [decide_eq_false h4]
        · have g1 : ¬ 0 < cntD k := g1
          refine KW.tst rfl rfl (fun g3 => ?_) (fun g3 => ?_)
          · have g3 : A = 0 := g3
            repeat first | refine KW.tT rfl rfl rfl ?_ | refine KW.tF rfl rfl rfl ?_
            refine KW.getI hM.sl.up rfl rfl rfl rfl rfl rfl rfl rfl rfl rfl rfl rfl rfl rfl rfl rfl (by omega) (by show k < 10; omega) (fun y2 hy2 => ?_)
            obtain rfl : cntD k = y2 := by have := hy.symm.trans hy2; exact Option.some.inj this
            refine KW.tno rfl rfl (by omega) ?_
            repeat first | refine KW.tT rfl rfl rfl ?_ | refine KW.tF rfl rfl rfl ?_
            refine KW.retM1 rfl rfl rfl rfl (fun H1 g => ?_)
            by_cases h4 : B = 0
            · rw [tv_true (p := DeedP (k, A, B)) ⟨h1, h2, h3, .inr g3, .inr h4⟩]; show Value.bool (decide (B = 0)) = _; rw [decide_eq_true h4]
            · rw [tv_false (p := DeedP (k, A, B)) (fun p => p.2.2.2.2.elim (fun q => by have q : 1 < cntD k := q; omega) h4)]; show Value.bool (decide (B = 0)) = _; rw [decide_eq_false h4]
          · have g3 : ¬ A = 0 := g3
            repeat first | refine KW.tT rfl rfl rfl ?_ | refine KW.tF rfl rfl rfl ?_
            rw [tv_false (p := DeedP (k, A, B)) (fun p => p.2.2.2.1.elim g1 g3)]
            refine KW.retM1 rfl rfl rfl rfl (fun H1 g => rfl)
theorem l08Deed (d : T_Deed) : Spec Tryz.prog S H0 68 [.agg [.int .i64 d.1, .int .i64 d.2.1, .int .i64 d.2.2].toArray] (fun v => v = .bool (tv (DeedP d))) := l08DeedM d
end
end Go.Proofs.YtijmkfnmdhpakaaGreat.Am
/- Contracts: the program's ceremony: sending. Each holds under its own conditions. -/
set_option linter.unusedVariables false
set_option linter.unusedSimpArgs false
set_option maxRecDepth 20000
namespace Go.Proofs.YtijmkfnmdhpakaaGreat.Am
open Go Go.RowKit Go.Proofs
abbrev HTI : HT := ⟨91, 101, 22, 4, 126⟩
theorem send_full {c : Cer} {p : T_Packet} (h : c.wire.length = 12) : send c p = (c, 3) := by unfold send; rw [if_pos h]
theorem send_ok {c : Cer} {p : T_Packet} (h : ¬ c.wire.length = 12) : send c p = (⟨c.ep, c.seats, c.oe, c.got, c.has, c.named, c.wire ++ [p]⟩, 0) := by unfold send; rw [if_neg h]
/-- What a writer of a hall yields. -/
def HlRes (t : HT) (pre post : List Value) (X : Ids) (d : HD) (r : Cer × Int) (n : Nat) (v : Value) (H1 : AH) : Prop := v = .int .i64 r.2 ∧ HlPost t pre post X d r.1 n H1
/-- Nothing has changed. -/
theorem HlPost.same {t : HT} {pre post : List Value} {X X0 : Ids} {d : HD} {c : Cer} {H H1 : AH} (h : Hl t pre post (Low H.n) H X0 d c) (hX : ∀ id, X0 id → X id) (hA : ∀ id, id < H.n → H1.m id = H.m id) : HlPost t pre post X d c H.n H1 :=
  ⟨X0, d, h.mv (fun id hid => ⟨hid.imp (fun p => p) (fun p => .inl (hX id p)), hA id (hid.elim (h.w id) (h.sx id))⟩), rfl, fun id p => .inl (hX id p), fun id p => .inl p⟩
theorem HD.nodup {d : HD} (h : d.L.Nodup) : (d.hid ≠ d.sid ∧ d.hid ≠ d.gid ∧ d.hid ≠ d.bid ∧ d.hid ≠ d.nid) ∧ (d.sid ≠ d.gid ∧ d.sid ≠ d.bid ∧ d.sid ≠ d.nid) ∧ (d.gid ≠ d.bid ∧ d.gid ≠ d.nid) ∧ d.bid ≠ d.nid ∧ ∀ i q, d.w = some (i, q) → i ≠ d.hid ∧ i ≠ d.sid ∧ i ≠ d.gid ∧ i ≠ d.bid ∧ i ≠ d.nid := by
  obtain ⟨a, b, c, e, f, w⟩ := d
  cases w with
  | none =>
    simp [HD.L] at h
    refine ⟨⟨h.1.1, h.1.2.1, h.1.2.2.1, h.1.2.2.2⟩, ⟨h.2.1.1, h.2.1.2.1, h.2.1.2.2⟩, ⟨h.2.2.1.1, h.2.2.1.2⟩, h.2.2.2, fun i q hw => by cases hw⟩
  | some p =>
    simp [HD.L] at h
    refine ⟨⟨h.1.1, h.1.2.1, h.1.2.2.1, h.1.2.2.2.1⟩, ⟨h.2.1.1, h.2.1.2.1, h.2.1.2.2.1⟩, ⟨h.2.2.1.1, h.2.2.1.2.1⟩, h.2.2.2.1.1, fun i q hw => ?_⟩
    cases hw
    exact ⟨fun e => h.1.2.2.2.2 e.symm, fun e => h.2.1.2.2.2 e.symm, fun e => h.2.2.1.2.2 e.symm, fun e => h.2.2.2.1.2 e.symm, fun e => h.2.2.2.2 e.symm⟩
theorem HD.nodup_w {d : HD} (h : d.L.Nodup) {i q : Nat} (hi : i ∉ d.L) : (⟨d.hid, d.sid, d.gid, d.bid, d.nid, some (i, q)⟩ : HD).L.Nodup := by
  obtain ⟨h1, h2, h3, h4, _⟩ := HD.nodup h
  have : i ≠ d.hid ∧ i ≠ d.sid ∧ i ≠ d.gid ∧ i ≠ d.bid ∧ i ≠ d.nid := by
    simp only [HD.L, List.mem_append, List.mem_cons, List.not_mem_nil, or_false, not_or] at hi
    exact ⟨hi.1.1, hi.1.2.1, hi.1.2.2.1, hi.1.2.2.2.1, hi.1.2.2.2.2⟩
  simp only [HD.L, List.cons_append, List.nil_append, List.nodup_cons, List.mem_cons, List.not_mem_nil, or_false, not_or, List.nodup_nil]
  refine ⟨⟨h1.1, h1.2.1, h1.2.2.1, h1.2.2.2, this.1.symm⟩, ⟨h2.1, h2.2.1, h2.2.2, this.2.1.symm⟩, ⟨h3.1, h3.2, this.2.2.1.symm⟩, ⟨h4, this.2.2.2.1.symm⟩, this.2.2.2.2.symm, by simp, trivial⟩
/-- The wire has been written, or has gone to a new block. -/
theorem Hl.reWireK {t : HT} {pre post : List Value} {X PX : Ids} {d : HD} {c : Cer} {H H1 : AH} (h : Hl t pre post (Low H.n) H X d c) (hPX : ∀ id, PX id → id < H.n ∧ ¬ d.W id) {i q : Nat} {cs : List Value} {ps : List T_Packet} (hn : H.n ≤ H1.n) (hi : (H.n ≤ i ∧ i < H1.n) ∨ ∃ q0, d.w = some (i, q0))
    (keep : ∀ id, id < H.n → (d.W id ∨ X id ∨ PX id) → id ≠ d.hid → (∀ i q, d.w = some (i, q) → id ≠ i) → H1.m id = H.m id) (m : Nat) (hlen : ps.length = m) (hh : H1.m d.hid = some ⟨t.h, true, pre ++ ([.int .i64 c.ep, .slice (some ⟨d.sid, 0, some 7⟩) c.seats.length c.seats.length, .int .i64 c.oe, .slice (some ⟨d.gid, 0, some 1⟩) c.got.length c.got.length, .slice (some ⟨d.bid, 0, some 1⟩) c.has.length c.has.length, .slice (some ⟨d.nid, 0, some 1⟩) c.named.length c.named.length, .slice (some ⟨i, 0, some 5⟩) m q] ++ post)⟩)
    (hw : H1.m i = some ⟨t.p, true, cs⟩) (hcl : Cl K_Packet (fun id => X id ∨ PX id) H ps cs) (hq : ps.length ≤ q) : HlPost t pre post (fun id => X id ∨ PX id) d ⟨c.ep, c.seats, c.oe, c.got, c.has, c.named, ps⟩ H.n H1 := by
  subst hlen
  obtain ⟨l1, l2, l3, l4, l5, l6⟩ := HD.Win (d := d)
  obtain ⟨n1, n2, n3, n4, n5⟩ := HD.nodup h.dist
  have lw := fun id (p : d.W id) => h.w id p
  have xw : ∀ id, (X id ∨ PX id) → id < H.n ∧ ¬ d.W id := fun id p => p.elim (fun p => ⟨h.sx id p, h.out id p⟩) (hPX id)
  have xk : ∀ id, (X id ∨ PX id) → H1.m id = H.m id := fun id p => keep id (xw id p).1 (.inr p) (fun e => (xw id p).2 (e ▸ l1)) (fun i q e e2 => (xw id p).2 (e2 ▸ l6 i q e))
  have k2 : H1.m d.sid = H.m d.sid := keep _ (lw _ l2) (.inl l2) n1.1.symm (fun i q e => (n5 i q e).2.1.symm)
  have k3 : H1.m d.gid = H.m d.gid := keep _ (lw _ l3) (.inl l3) n1.2.1.symm (fun i q e => (n5 i q e).2.2.1.symm)
  have k4 : H1.m d.bid = H.m d.bid := keep _ (lw _ l4) (.inl l4) n1.2.2.1.symm (fun i q e => (n5 i q e).2.2.2.1.symm)
  have k5 : H1.m d.nid = H.m d.nid := keep _ (lw _ l5) (.inl l5) n1.2.2.2.symm (fun i q e => (n5 i q e).2.2.2.2.symm)
  have iw : d.W i ∨ New H.n H1.n i := hi.elim .inr (fun ⟨q0, e⟩ => .inl (l6 i q0 e))
  have hd : (⟨d.hid, d.sid, d.gid, d.bid, d.nid, some (i, q)⟩ : HD).L.Nodup := by
    rcases hi with hi | ⟨q0, e⟩
    · exact HD.nodup_w h.dist (fun p => by have : i < H.n := lw i p; omega)
    · have := h.dist
      simp only [HD.L, e] at this
      exact this
  refine ⟨fun id => X id ∨ PX id, ⟨d.hid, d.sid, d.gid, d.bid, d.nid, some (i, q)⟩, ⟨fun id p => .inr (.inl p), ⟨.inl l1, hh⟩, h.seats.mv ⟨.inl l2, k2⟩ (fun id p => xk id (.inl p)) (fun id p => .inl p), h.got.mv ⟨.inl l3, k3⟩ (fun id p => xk id (.inl p)) (fun id p => .inl p), h.has.mv ⟨.inl l4, k4⟩, h.named.mv ⟨.inl l5, k5⟩, ⟨iw.elim .inl (fun p => .inr (.inr p)), hq, cs, hw, hcl.mv xk (fun _ p => p)⟩, hd, fun id p q => ?_⟩, rfl, fun id p => .inl p, fun id p => ?_⟩
  · have hx := xw id p
    have q : id ∈ (⟨d.hid, d.sid, d.gid, d.bid, d.nid, some _⟩ : HD).L := q
    simp only [HD.L, List.mem_append, List.mem_cons, List.not_mem_nil, or_false] at q
    rcases q with (e | e | e | e | e) | e
    · exact hx.2 (e ▸ l1)
    · exact hx.2 (e ▸ l2)
    · exact hx.2 (e ▸ l3)
    · exact hx.2 (e ▸ l4)
    · exact hx.2 (e ▸ l5)
    · rcases hi with hi | ⟨q0, e2⟩
      · omega
      · exact hx.2 (e ▸ l6 i q0 e2)
  · have p : id ∈ (⟨d.hid, d.sid, d.gid, d.bid, d.nid, some _⟩ : HD).L := p
    simp only [HD.L, List.mem_append, List.mem_cons, List.not_mem_nil, or_false] at p
    rcases p with (e | e | e | e | e) | e
    · rw [e]; exact .inl l1
    · rw [e]; exact .inl l2
    · rw [e]; exact .inl l3
    · rw [e]; exact .inl l4
    · rw [e]; exact .inl l5
    · rw [e]; exact iw
theorem Hl.reWire {t : HT} {pre post : List Value} {X PX : Ids} {d : HD} {c : Cer} {H H1 : AH} (h : Hl t pre post (Low H.n) H X d c) (hPX : ∀ id, PX id → id < H.n ∧ ¬ d.W id) {i q : Nat} {cs : List Value} {ps : List T_Packet} (hn : H.n ≤ H1.n) (hi : (H.n ≤ i ∧ i < H1.n) ∨ ∃ q0, d.w = some (i, q0))
    (keep : ∀ id, id < H.n → id ≠ d.hid → (∀ i q, d.w = some (i, q) → id ≠ i) → H1.m id = H.m id) (m : Nat) (hlen : ps.length = m) (hh : H1.m d.hid = some ⟨t.h, true, pre ++ ([.int .i64 c.ep, .slice (some ⟨d.sid, 0, some 7⟩) c.seats.length c.seats.length, .int .i64 c.oe, .slice (some ⟨d.gid, 0, some 1⟩) c.got.length c.got.length, .slice (some ⟨d.bid, 0, some 1⟩) c.has.length c.has.length, .slice (some ⟨d.nid, 0, some 1⟩) c.named.length c.named.length, .slice (some ⟨i, 0, some 5⟩) m q] ++ post)⟩)
    (hw : H1.m i = some ⟨t.p, true, cs⟩) (hcl : Cl K_Packet (fun id => X id ∨ PX id) H ps cs) (hq : ps.length ≤ q) : HlPost t pre post (fun id => X id ∨ PX id) d ⟨c.ep, c.seats, c.oe, c.got, c.has, c.named, ps⟩ H.n H1 :=
  h.reWireK hPX hn hi (fun id a _ b c => keep id a b c) m hlen hh hw hcl hq
/-- The seats have been written. -/
theorem Hl.reSeats {t : HT} {pre post : List Value} {X PX : Ids} {d : HD} {c : Cer} {H H1 : AH} (h : Hl t pre post (Low H.n) H X d c) (hPX : ∀ id, PX id → id < H.n ∧ ¬ d.W id) {cs : List Value} {ss : List T_Seat} (hl : ss.length = c.seats.length)
    (keep : ∀ id, id < H.n → id ≠ d.sid → H1.m id = H.m id) (hs : H1.m d.sid = some ⟨t.s, true, cs⟩) (hcl : Cl K_Seat (fun id => X id ∨ PX id) H ss cs) : HlPost t pre post (fun id => X id ∨ PX id) d ⟨c.ep, ss, c.oe, c.got, c.has, c.named, c.wire⟩ H.n H1 := by
  obtain ⟨l1, l2, l3, l4, l5, l6⟩ := HD.Win (d := d)
  obtain ⟨n1, n2, n3, n4, n5⟩ := HD.nodup h.dist
  have lw := fun id (p : d.W id) => h.w id p
  have xw : ∀ id, (X id ∨ PX id) → id < H.n ∧ ¬ d.W id := fun id p => p.elim (fun p => ⟨h.sx id p, h.out id p⟩) (hPX id)
  have xk : ∀ id, (X id ∨ PX id) → H1.m id = H.m id := fun id p => keep id (xw id p).1 (fun e => (xw id p).2 (e ▸ l2))
  have k1 : H1.m d.hid = H.m d.hid := keep _ (lw _ l1) n1.1
  have k3 : H1.m d.gid = H.m d.gid := keep _ (lw _ l3) n2.1.symm
  have k4 : H1.m d.bid = H.m d.bid := keep _ (lw _ l4) n2.2.1.symm
  have k5 : H1.m d.nid = H.m d.nid := keep _ (lw _ l5) n2.2.2.symm
  have hh := h.hall.2
  refine ⟨fun id => X id ∨ PX id, d, ⟨fun id p => .inr (.inl p), ⟨.inl l1, ?_⟩, ⟨.inl l2, cs, hs, hcl.mv xk (fun _ p => p)⟩, h.got.mv ⟨.inl l3, k3⟩ (fun id p => xk id (.inl p)) (fun id p => .inl p), h.has.mv ⟨.inl l4, k4⟩, h.named.mv ⟨.inl l5, k5⟩, h.wire.mv (fun i q e => ⟨.inl (l6 i q e), keep _ (lw _ (l6 i q e)) (n5 i q e).2.1⟩) (fun id p => xk id (.inl p)) (fun id p => .inl p), h.dist, fun id p => (xw id p).2⟩, rfl, fun id p => .inl p, fun id p => .inl p⟩
  rw [k1, hh]
  simp only [HD.cells, hl]
/-- The opener's part has been written. -/
theorem Hl.reOpen {t : HT} {pre post : List Value} {X PX : Ids} {d : HD} {c c' : Cer} {H H1 : AH} (h : Hl t pre post (Low H.n) H X d c) (hPX : ∀ id, PX id → id < H.n ∧ ¬ d.W id) {gcs : List Value} (hc : c'.seats = c.seats ∧ c'.wire = c.wire)
    (keep : ∀ id, id < H.n → id ≠ d.hid → id ≠ d.gid → id ≠ d.bid → id ≠ d.nid → H1.m id = H.m id) (hh : H1.m d.hid = some ⟨t.h, true, d.cells pre post c'⟩) (hg : H1.m d.gid = some ⟨t.g, true, gcs⟩) (gl : gcs.length = c'.got.length) (hgc : Cl KI.sl (fun id => X id ∨ PX id) H c'.got gcs)
    (hb : H1.m d.bid = some ⟨t.b, true, c'.has.map Value.bool⟩) (hn : H1.m d.nid = some ⟨t.b, true, c'.named.map Value.bool⟩) : HlPost t pre post (fun id => X id ∨ PX id) d c' H.n H1 := by
  obtain ⟨l1, l2, l3, l4, l5, l6⟩ := HD.Win (d := d)
  obtain ⟨n1, n2, n3, n4, n5⟩ := HD.nodup h.dist
  have lw := fun id (p : d.W id) => h.w id p
  have xw : ∀ id, (X id ∨ PX id) → id < H.n ∧ ¬ d.W id := fun id p => p.elim (fun p => ⟨h.sx id p, h.out id p⟩) (hPX id)
  have xk : ∀ id, (X id ∨ PX id) → H1.m id = H.m id := fun id p => keep id (xw id p).1 (fun e => (xw id p).2 (e ▸ l1)) (fun e => (xw id p).2 (e ▸ l3)) (fun e => (xw id p).2 (e ▸ l4)) (fun e => (xw id p).2 (e ▸ l5))
  have k2 : H1.m d.sid = H.m d.sid := keep _ (lw _ l2) n1.1.symm n2.1 n2.2.1 n2.2.2
  obtain ⟨e1, e2⟩ := hc
  refine ⟨fun id => X id ∨ PX id, d, ⟨fun id p => .inr (.inl p), ⟨.inl l1, hh⟩, ?_, ⟨.inl l3, gcs, hg, gl, hgc.mv xk (fun _ p => p)⟩, ⟨.inl l4, hb⟩, ⟨.inl l5, hn⟩, ?_, h.dist, fun id p => (xw id p).2⟩, rfl, fun id p => .inl p, fun id p => .inl p⟩
  · rw [e1]
    exact h.seats.mv ⟨.inl l2, k2⟩ (fun id p => xk id (.inl p)) (fun id p => .inl p)
  · rw [e2]
    exact h.wire.mv (fun i q e => ⟨.inl (l6 i q e), keep _ (lw _ (l6 i q e)) (n5 i q e).1 (n5 i q e).2.2.1 (n5 i q e).2.2.2.1 (n5 i q e).2.2.2.2⟩) (fun id p => xk id (.inl p)) (fun id p => .inl p)
/-- The hall's own cells have been written. -/
theorem Hl.reHall {t : HT} {pre post : List Value} {X : Ids} {d : HD} {c c' : Cer} {H H1 : AH} (h : Hl t pre post (Low H.n) H X d c) (hc : c'.seats = c.seats ∧ c'.got = c.got ∧ c'.has = c.has ∧ c'.named = c.named ∧ c'.wire = c.wire)
    (keep : ∀ id, id < H.n → id ≠ d.hid → H1.m id = H.m id) (hh : H1.m d.hid = some ⟨t.h, true, d.cells pre post c'⟩) : HlPost t pre post X d c' H.n H1 := by
  obtain ⟨l1, l2, l3, l4, l5, l6⟩ := HD.Win (d := d)
  obtain ⟨n1, n2, n3, n4, n5⟩ := HD.nodup h.dist
  have lw := fun id (p : d.W id) => h.w id p
  have xk : ∀ id, X id → H1.m id = H.m id := fun id p => keep id (h.sx id p) (fun e => h.out id p (e ▸ l1))
  obtain ⟨e1, e2, e3, e4, e5⟩ := hc
  refine ⟨X, d, ⟨fun id p => .inr (.inl p), ⟨.inl l1, hh⟩, ?_, ?_, ?_, ?_, ?_, h.dist, h.out⟩, rfl, fun id p => .inl p, fun id p => .inl p⟩
  · rw [e1]; exact h.seats.mv ⟨.inl l2, keep _ (lw _ l2) n1.1.symm⟩ xk (fun _ p => p)
  · rw [e2]; exact h.got.mv ⟨.inl l3, keep _ (lw _ l3) n1.2.1.symm⟩ xk (fun _ p => p)
  · rw [e3]; exact h.has.mv ⟨.inl l4, keep _ (lw _ l4) n1.2.2.1.symm⟩
  · rw [e4]; exact h.named.mv ⟨.inl l5, keep _ (lw _ l5) n1.2.2.2.symm⟩
  · rw [e5]; exact h.wire.mv (fun i q e => ⟨.inl (l6 i q e), keep _ (lw _ (l6 i q e)) (n5 i q e).1⟩) xk (fun _ p => p)
/-- A later state, of a later memory. -/
theorem HlPost.weak {t : HT} {pre post : List Value} {X X' : Ids} {d : HD} {c : Cer} {n : Nat} {H1 : AH} (h : HlPost t pre post X d c n H1) (hX : ∀ id, X id → X' id) : HlPost t pre post X' d c n H1 := by
  obtain ⟨Y, d', h1, h2, h3, h4⟩ := h
  exact ⟨Y, d', h1.mv (fun id hid => ⟨(hid.elim (h1.w id) (h1.sx id)).imp (fun p => p) (fun p => p.imp (hX id) (fun p => p)), rfl⟩), h2, fun id p => (h3 id p).imp (hX id) (fun p => p), h4⟩
theorem KW.idT {P : Program} {S : Ids} {H0 : AH} {Q : PostC} {k : List It} {e : Env} {T T' : List Var} {n : Nat} (h : T = T') (hk : KW P S H0 Q n T' k e) : KW P S H0 Q n T k e := h ▸ hk
/-- A writer with loads that writers do not wait for. -/
theorem SpecW.of0L {P : Program} {S : Ids} {H0 : AH} (Z : List Nat) {W : Ids} {f : FuncId} {fn : Func} {c : Code} {args : List Value} {post : Nat → Value → AH → Prop} (hf : P.funcs[f]? = some fn) (hb : fn.body = some c) (hok : fnOk fn = true) (hst : stC (relab Z c) = true) (hs : Nat.ble args.length fn.ntmps = true)
    (h : ∀ H, Fin' H → Fz S H0 H → KW P (Low H.n) H (Fin1 P fn (fun v H1 => H.n ≤ H1.n ∧ (∀ id, id < H.n → ¬ W id → H1.m id = H.m id) ∧ Fin' H1 ∧ post H.n v H1)) H.n [] [.code (relab Z c)] (fun t => args.getD t undef)) : SpecW P S H0 W f args post := by
  intro H hfin hfz
  refine Run.of hf hb hok (by simpa using Nat.le_of_ble_eq_true hs) ?_
  rw [envL_eq]
  exact ((h H hfin hfz).wc hst (Good.start hfin)).relab
theorem splice_one {l : List Value} {k : Nat} {v : Value} (h : k < l.length) : splice l k [v] = l.set k v := by
  simp only [splice]
  rw [List.set_eq_take_append_cons_drop, if_pos h]
  simp
theorem sl_mk {α : Type} {d : Kn α} {S S' : Ids} {A A' : AH} {v : Value} {xs : List α} (h : d.Sl S A v xs) (hA : ∀ id, S id → S' id ∧ A'.m id = A.m id) : d.Sl S' A' v xs := Kn.Sl.more (fun id p => (hA id p).1) (Kn.Sl.same (fun id p => (hA id p).2) h)
/-- A later state, out of a later memory. -/
theorem HlPost.lift {t : HT} {pre post : List Value} {X X2 : Ids} {d d2 : HD} {c : Cer} {n n2 : Nat} {H1 : AH} (h : HlPost t pre post X2 d2 c n2 H1) (hn : n ≤ n2) (hn2 : n2 ≤ H1.n) (hh : d2.hid = d.hid) (hX : ∀ id, X2 id → X id ∨ New n n2 id) (hd : ∀ id, d2.W id → d.W id ∨ New n n2 id) : HlPost t pre post X d c n H1 := by
  obtain ⟨Y, d', h1, h2, h3, h4⟩ := h
  have nw : ∀ id, New n n2 id → New n H1.n id := fun id p => ⟨p.1, by have := p.2; omega⟩
  have nw2 : ∀ id, New n2 H1.n id → New n H1.n id := fun id p => ⟨by have := p.1; omega, p.2⟩
  have big : ∀ id, (d2.W id ∨ X2 id ∨ New n2 H1.n id) → d.W id ∨ X id ∨ New n H1.n id := fun id p => by
    rcases p with p | p | p
    · exact (hd id p).imp (fun p => p) (fun p => .inr (nw id p))
    · exact .inr ((hX id p).imp (fun p => p) (nw id))
    · exact .inr (.inr (nw2 id p))
  refine ⟨Y, d', h1.mv (fun id hid => ⟨big id (hid.elim (h1.w id) (h1.sx id)), rfl⟩), h2.trans hh, fun id p => ?_, fun id p => ?_⟩
  · rcases h3 id p with p | p
    · exact (hX id p).imp (fun p => p) (nw id)
    · exact .inr (nw2 id p)
  · rcases h4 id p with p | p
    · exact (hd id p).imp (fun p => p) (nw id)
    · exact .inr (nw2 id p)
theorem HlRes.lift {t : HT} {pre post : List Value} {X X2 : Ids} {d d2 : HD} {r : Cer × Int} {n n2 : Nat} {v : Value} {H1 : AH} (h : HlRes t pre post X2 d2 r n2 v H1) (hn : n ≤ n2) (hn2 : n2 ≤ H1.n) (hh : d2.hid = d.hid) (hX : ∀ id, X2 id → X id ∨ New n n2 id) (hd : ∀ id, d2.W id → d.W id ∨ New n n2 id) : HlRes t pre post X d r n v H1 :=
  ⟨h.1, h.2.lift hn hn2 hh hX hd⟩
theorem bload_seg {P : Program} {b : Blk} {t : TypeId} {k : Nat} {ps : List Value} {fs : Array Field} {i : TypeInfo} (hu : P.underlying t = some (.struct fs)) (hi : P.info? t = some i) (hs : i.size = ps.length) (hk : k + ps.length ≤ b.cells.length) (h : (b.cells.drop k).take ps.length = ps) : bload P b t k = some (.agg ps.toArray) := by
  unfold bload
  simp only [hu, hi]
  rw [if_pos (by omega), hs, h]
/-- The end's memory is the callee's. -/
theorem HlPost.mem {t : HT} {pre post : List Value} {X : Ids} {d : HD} {c : Cer} {n : Nat} {H5 H1 : AH} (h : HlPost t pre post X d c n H5) (hA : ∀ id, (d.W id ∨ X id ∨ New n H5.n id) → H1.m id = H5.m id) (hn : H5.n ≤ H1.n) : HlPost t pre post X d c n H1 := by
  obtain ⟨Y, d', h1, h2, h3, h4⟩ := h
  have nw : ∀ id, New n H5.n id → New n H1.n id := fun id p => ⟨p.1, by have := p.2; omega⟩
  refine ⟨Y, d', h1.mv (fun id hid => ?_), h2, fun id p => (h3 id p).imp (fun p => p) (nw id), fun id p => (h4 id p).imp (fun p => p) (nw id)⟩
  have hs := hid.elim (h1.w id) (h1.sx id)
  exact ⟨hs.imp (fun p => p) (fun p => p.imp (fun p => p) (nw id)), hA id hs⟩
section
variable {S : Ids} {H0 : AH} {X PX : Ids} {d : HD} {c : Cer} {post : List Value}
theorem implPost {p : T_Packet} {pcs : List Value} (h : Hl HTI [] post S H0 X d c) (hp : K_Packet.R PX H0 p pcs) (hPX : ∀ id, PX id → S id ∧ ¬ d.W id) (hw : c.wire.length ≤ 12) :
    SpecW Tryz.prog S H0 d.W 117 [.pointer (some ⟨d.hid, 0, none⟩), .agg pcs.toArray] (HlRes HTI [] post (fun id => X id ∨ PX id) d (send c p)) := by
  obtain ⟨pa1, pc1, pa2, pc2, rfl, hp1, hp2⟩ := split_Packet hp
  refine SpecW.of0 Tryz.func117 rfl (by kernel_rfl) rfl (fun H hfin hfz => ?_)
  haveI o : On S H0 (Low H.n) H := ⟨fun id hs => ⟨(hfz id hs).1, (hfz id hs).2⟩⟩
  have h := h.on (S' := Low H.n) (A' := H)
  have hp : K_Packet.R PX H p _ := K_Packet.same (fun id hid => (hfz id (hPX id hid).1).2) hp
  have hPX : ∀ id, PX id → id < H.n ∧ ¬ d.W id := fun id hid => ⟨(hfz id (hPX id hid).1).1, (hPX id hid).2⟩
  obtain ⟨hid, sid, gid, bid, nid, w⟩ := d
  have hc := h.cellsH
  have hh := h.hall
  have hwi := h.wire
  have lh : hid < H.n := hh.1
  by_cases hf : c.wire.length = 12
  · rw [send_full hf]
    cases w with
    | none => have e : c.wire = [] := hwi; rw [e] at hf; cases hf
    | some iq =>
      obtain ⟨i, q⟩ := iq
      refine KW.ldF 6 hc rfl rfl rfl rfl rfl rfl rfl rfl rfl ?_
      refine KW.yes rfl rfl (by omega) ?_
      exact KW.retW rfl rfl rfl rfl (fun H1 g => by have := g.n_; omega) (fun id hid _ => ⟨hid, rfl⟩) (fun H1 g => ⟨rfl, HlPost.same h (fun id p => .inl p) (fun id hid => (g.froz id hid).2)⟩)
  · rw [send_ok hf]
    cases w with
    | none =>
      have e : c.wire = [] := hwi
      refine KW.ldF 6 hc rfl rfl rfl rfl rfl rfl rfl rfl rfl ?_
      refine KW.no rfl rfl (by omega) ?_
      refine KW.thaw hid _ hh.1 hh.2 ?_
      refine KW.ldT 1 rfl rfl rfl rfl rfl rfl rfl ?_
      refine KW.litS1 rfl rfl rfl rfl rfl rfl rfl rfl rfl rfl rfl rfl ?_
      refine KW.appNS rfl rfl rfl rfl rfl rfl rfl (by decide) rfl (fun H1 g => acells_seg (g.blk (j := 2) rfl).1 (by show 0 + 1 * 5 ≤ 5; decide)) rfl (by decide) (by decide) (by decide) ?_
      refine KW.st1 1 rfl rfl rfl rfl rfl rfl rfl rfl rfl rfl rfl rfl (by show 6 < ([_, _, _, _, _, _, _] ++ post).length; simp) ?_
      refine KW.retW rfl rfl rfl rfl (fun H1 g => by have := g.n_; omega) (fun id hid hw => ⟨⟨hid, fun e => hw (e ▸ HD.Win.1)⟩, rfl⟩) (fun H1 g => ⟨rfl, ?_⟩)
      have hn := g.n_
      refine h.reWire hPX (i := H.n + 2) (q := 1) (by omega) (.inl ⟨by omega, by omega⟩) (fun id h1 h2 _ => (g.froz id ⟨h1, h2⟩).2) 1 (by rw [e]; rfl) (g.blk (j := 1) rfl).1 (g.blk (j := 3) rfl).1 (by rw [e]; exact Cl.one ((K_Packet).more (fun id p => .inr p) hp)) (by rw [e]; simp)
    | some iq =>
      obtain ⟨i, q⟩ := iq
      obtain ⟨hi1, hq, wcs, hi2, hcl⟩ := hwi
      have li : i < H.n := hi1
      obtain ⟨n1, n2, n3, n4, n5⟩ := HD.nodup h.dist
      have nh : i ≠ hid := (n5 i q rfl).1
      refine KW.ldF 6 hc rfl rfl rfl rfl rfl rfl rfl rfl rfl ?_
      refine KW.no rfl rfl (by omega) ?_
      refine KW.thaw hid _ hh.1 hh.2 ?_
      refine KW.thaw i _ ⟨hi1, nh⟩ hi2 ?_
      refine KW.ldT 1 rfl rfl rfl rfl rfl rfl rfl ?_
      refine KW.litS1 rfl rfl rfl rfl rfl rfl rfl rfl rfl rfl rfl rfl ?_
      refine KW.appTS 2 rfl rfl rfl rfl rfl rfl rfl rfl (by decide) rfl (fun H1 g => acells_seg (g.blk (j := 3) rfl).1 (by show 0 + 1 * 5 ≤ 5; decide)) (by have := hcl.1; show 0 + c.wire.length * 5 ≤ wcs.length; have : c.wire.length * 5 ≤ wcs.length := this; omega) rfl (by decide) (by show (c.wire.length + 1) * 72 ≤ _; omega) (by omega) ?_
      refine KW.st1 1 rfl rfl rfl rfl rfl rfl rfl rfl rfl rfl rfl rfl (by show 6 < ([_, _, _, _, _, _, _] ++ post).length; simp) ?_
      refine KW.retW rfl rfl rfl rfl (fun H1 g => by have := g.n_; omega) (fun id hid hw => ⟨⟨⟨hid, fun e => hw (e ▸ HD.Win.1)⟩, fun e => hw (by rw [e]; exact HD.Win.2.2.2.2.2 i q rfl)⟩, rfl⟩) (fun H1 g => ⟨rfl, ?_⟩)
      have hn := g.n_
      refine h.reWire hPX (i := H.n + 2) (q := c.wire.length + 1) (by omega) (.inl ⟨by omega, by omega⟩) (fun id h1 h2 h3 => (g.froz id ⟨⟨h1, h2⟩, h3 i q rfl⟩).2) (c.wire.length + 1) (by simp) (g.blk (j := 1) rfl).1 (g.blk (j := 2) rfl).1 (Cl.snoc (hcl.mv (fun _ _ => rfl) (fun id p => .inl p)) ((K_Packet).more (fun id p => .inr p) hp)) (by simp)
end
end Go.Proofs.YtijmkfnmdhpakaaGreat.Am
/- Contracts: TagsFit and LiesThatPass, of the program and of the reference. Each holds under its own conditions. -/
set_option linter.unusedVariables false
set_option linter.unusedSimpArgs false
set_option maxRecDepth 20000
namespace Go.Proofs.YtijmkfnmdhpakaaGreat.Am
open Go Go.RowKit Go.Proofs
/-- Values and tags have the right form. -/
def FitOk (x : T_Deal) (j : Int) (vals tg : List Int) : Prop := vals.length = (rowsOf x.1.2.1 j).length ∧ tg.length = (rowsOf x.1.2.1 j).length ∧ Elems x.1.2.2.1 vals ∧ Elems x.1.2.2.1 tg
noncomputable def r0_TagsFit (x : T_Deal) (e j : Int) (vals tg : List Int) : Bool := if codeD x e j = 0 then (if tv (FitOk x j vals tg) = true then tv (tagsD x e j vals = tg) else false) else false
noncomputable def r1_TagsFit (x : T_Deal) (e j : Int) (vals tg : List Int) : Int := if codeD x e j = 0 then (if tv (FitOk x j vals tg) = true then 0 else 2) else codeD x e j
theorem tf_code {x : T_Deal} {e j : Int} {vals tg : List Int} (hc : ¬ codeD x e j = 0) : Value.tuple #[.bool false, .int .i64 (codeD x e j)] = .tuple #[.bool (r0_TagsFit x e j vals tg), .int .i64 (r1_TagsFit x e j vals tg)] := by unfold r0_TagsFit r1_TagsFit; rw [if_neg hc, if_neg hc]
theorem tf_bad {x : T_Deal} {e j : Int} {vals tg : List Int} (hc : codeD x e j = 0) (h : ¬ FitOk x j vals tg) : Value.tuple #[.bool false, .int .i64 2] = .tuple #[.bool (r0_TagsFit x e j vals tg), .int .i64 (r1_TagsFit x e j vals tg)] := by unfold r0_TagsFit r1_TagsFit; rw [if_pos hc, if_pos hc, tv_false h]; rfl
theorem tf_good {x : T_Deal} {e j : Int} {vals tg : List Int} (hc : codeD x e j = 0) (h : FitOk x j vals tg) : Value.tuple #[.bool (tv (tagsD x e j vals = tg)), .int .i64 0] = .tuple #[.bool (r0_TagsFit x e j vals tg), .int .i64 (r1_TagsFit x e j vals tg)] := by unfold r0_TagsFit r1_TagsFit; rw [if_pos hc, if_pos hc, tv_true h]; rfl
theorem tags_len {x : T_Deal} {e j : Int} {vals : List Int} : (tagsD x e j vals).length = (rowsOf x.1.2.1 j).length := by simp [tagsD, tagsOf]
section
variable {S : Ids} {H0 : AH}
end
/-- The lies below n that pass. -/
noncomputable def passN (x : T_Deal) (e j : Int) (n : Nat) : List Int := rowsP (fun i => tv (tagsD x e j (lieOf x.1.2.2.1 (valsD x e j) (i : Int)) = tagsD x e j (valsD x e j))) n
noncomputable def r0_LiesThatPass (x : T_Deal) (e j : Int) : List Int := if codeD x e j = 0 then passN x e j x.1.2.2.1.toNat else []
noncomputable def r1_LiesThatPass (x : T_Deal) (e j : Int) : Int := codeD x e j
theorem bound_LiesThatPass {x : T_Deal} (e j : Int) (he : I64 e) (hj : I64 j) (hB : B_Deal x) : B_Int64S (r0_LiesThatPass x e j) := by
  unfold r0_LiesThatPass
  split
  · rename_i hc
    obtain ⟨E, J, hd⟩ := codeD_ok hc
    show (passN x e j _).length ≤ 1048576
    have h1 : (passN x e j x.1.2.2.1.toNat).length ≤ x.1.2.2.1.toNat := rowsP_len _ _
    have := hd.sch.mat.pr.2.1
    omega
  · show 0 ≤ _; omega
section
variable {S : Ids} {H0 : AH}
end
end Go.Proofs.YtijmkfnmdhpakaaGreat.Am
/- Writers that some loads do not wait for: stores and appends. For every program. No condition beyond each theorem's own. -/
set_option linter.unusedSimpArgs false
set_option linter.unusedVariables false
namespace Go.Proofs.YtijmkfnmdhpakaaGreat.Am
open Go Go.RowKit
/-- What such a load reads is another variable, or frozen. -/
def Ap (S : Ids) (T : List Var) (e : Env) (j : Nat) (u : Tmp) : Prop := (∃ i b id k s, e u = .pointer (some ⟨id, k, s⟩) ∧ T[i]? = some (id, b) ∧ i ≠ j) ∨ ∃ id k s, e u = .pointer (some ⟨id, k, s⟩) ∧ S id
def AllL (S : Ids) (T : List Var) (e : Env) (j : Nat) : List Tmp → Prop
  | [] => True
  | u :: L => Ap S T e j u ∧ AllL S T e j L
section
variable {P : Program} {S : Ids} {H0 : AH} {Q : PostC} {k k1 k2 : List It} {e e1 e2 : Env} {T T1 T2 : List Var} {n n1 n2 : Nat} {l1 r1 l2 r2 : List Nat} {d1 d2 : Tmp}
theorem AllL.out {L : List Tmp} {j : Nat} {H H1 : AH} {v0 : Var} (g : Good S H0 T n H) (hj : T[j]? = some v0 ∨ j = T.length) (hL : AllL S T e j L) (hH : ∀ id, id < n → (∀ v, T[j]? = some v → id ≠ v.1) → H1.m id = H.m id) : ∀ t ∈ L, ∀ id k s, e t = .pointer (some ⟨id, k, s⟩) → H1.m id = H.m id := by
  induction L with
  | nil => intro t ht; cases ht
  | cons u L ih =>
    intro t ht id k s he
    rcases List.mem_cons.1 ht with rfl | ht
    · rcases hL.1 with ⟨i, b, id', k', s', h1, h2, h3⟩ | ⟨id', k', s', h1, h2⟩
      · rw [h1] at he
        cases he
        exact hH id (g.vars i _ h2).2.1 (fun v hv heq => h3 (g.dist i j _ v h2 hv heq))
      · rw [h1] at he
        cases he
        exact hH id (g.froz id h2).1 (fun v hv heq => (g.vars j v hv).2.2 (heq ▸ h2))
    · exact ih hL.2 t ht id k s he
theorem KEvt.heapL {o : Oper} {dr : Bool} {c : Cf} {L : List Tmp} (v : Value) (T' : List Var) (n' : Nat) (hc : opClass o.op = 1 ∨ opClass o.op = 2) (hp : ∀ H, Good S H0 c.T c.n H → ∃ tag H1, hop P tag o.op c.e H = some (v, H1) ∧ Good S H0 T' n' H1 ∧ ∀ t ∈ L, ∀ id k s, c.e t = .pointer (some ⟨id, k, s⟩) → H1.m id = H.m id) (hk : KW P S H0 Q n' T' c.k (put c.e o.dst v)) : KEvt P S H0 Q (.opL o dr L) c := by
  intro H g
  obtain ⟨tag, H1, h1, g1, h2⟩ := hp H g
  refine ⟨0, v, H1, ?_, h2, hk H1 g1⟩
  unfold evOp
  split
  · rename_i hop; rw [hop] at hc; simp [opClass] at hc
  · split
    · rename_i h0; omega
    · exact ⟨tag, h1⟩
/-- A store to a variable. -/
theorem KW.stZ {o : Oper} {dr : Bool} {L : List Tmp} {t : TypeId} {x y : Operand} {id kk : Nat} {sp : Option Nat} {b b' : Blk} (j : Nat) (h : Go1 P k e T n (.opL o dr L) k1 e1 T1 n1 l1 r1) (hlr : l1 = r1) (ho : o.op = .store t x y) (hd : o.dst = none) (hx : ev e1 x = .pointer (some ⟨id, kk, sp⟩)) (hT : T1[j]? = some (id, b)) (hs : bstore P b t kk (ev e1 y) = some b') (hL : AllL S T1 e1 j L)
    (hk : KW P S H0 Q n1 (T1.set j (id, b')) k1 e1) : KW P S H0 Q n T k e := by
  refine KW.go h hlr (KEvt.heapL (c := ⟨_, _, _, _, _, _⟩) undef (T1.set j (id, b')) n1 (by rw [ho]; exact .inr rfl) (fun H g => ⟨none, H.set id b', ?_, g.set hT _, AllL.out g (.inl hT) hL (fun i hi hne => ?_)⟩) (by rw [hd]; exact hk))
  · rw [ho]
    simp only [hop, hx, bstore_ok (g.blk hT).1 hs]
  · have := hne _ hT
    simp [AH.set, this]
theorem KW.appNL {o : Oper} {dr : Bool} {L : List Tmp} {t el : TypeId} {x y : Operand} {inf : TypeInfo} {m : Nat} {ys : List Value} (h : Go1 P k e T n (.opL o dr L) k1 e1 T1 n1 l1 r1) (hlr : l1 = r1) (ho : o.op = .call { callee := .builtin .append, args := #[x, y], argTypes := #[t, t] }) (hd : o.dst = some d1) (hx : ev e1 x = .slice none 0 0)
    (hu : P.underlying t = some (.slice el)) (hi : P.info? el = some inf) (hs : inf.size = 1) (hzo : zeroOkL P el = true) (hy : ∀ H, Good S H0 T1 n1 H → acells H (ev e1 y) 1 = some (m, ys)) (hone : ∀ v ∈ ys, v.oneCell' = true) (hm : m ≠ 0) (hb : m * inf.bytes ≤ 140737488355328) (hml : m ≤ 9223372036854775807) (hL : AllL S T1 e1 T1.length L)
    (hk : KW P S H0 Q (n1 + 1) (T1 ++ [(n1, ⟨el, true, ys⟩)]) k1 (put1 e1 d1 (.slice (some ⟨n1, 0, some 1⟩) m m))) : KW P S H0 Q n T k e := by
  refine KW.go h hlr (KEvt.heapL (c := ⟨_, _, _, _, _, _⟩) _ _ _ (by rw [ho]; exact .inr rfl) (fun H g => ⟨none, _, ?_, g.push _, AllL.out (v0 := (0, ⟨0, true, []⟩)) g (.inr rfl) hL (fun i hi _ => ?_)⟩) (by rw [hd, put1_eq]; exact hk))
  · rw [ho]
    have h1 := hy H g
    simp only [hop, aapp, aappend, hu, hi, hs, hx, h1]
    rw [if_pos trivial, if_pos ⟨zeroOkL_ok hzo, by omega, List.all_eq_true.2 hone⟩, if_neg hm, if_pos ⟨hml, hb⟩, g.n_]
  · have hn := g.n_
    have hi : i < n1 := hi
    have : ¬ i = H.n := by omega
    simp [AH.push, this]
theorem KW.appTL {o : Oper} {dr : Bool} {L : List Tmp} {t el : TypeId} {x y : Operand} {inf : TypeInfo} {m len c id : Nat} {xs ys : List Value} (j : Nat) (h : Go1 P k e T n (.opL o dr L) k1 e1 T1 n1 l1 r1) (hlr : l1 = r1) (ho : o.op = .call { callee := .builtin .append, args := #[x, y], argTypes := #[t, t] }) (hd : o.dst = some d1) (hx : ev e1 x = .slice (some ⟨id, 0, some 1⟩) len c) (hT : T1[j]? = some (id, ⟨el, true, xs⟩))
    (hu : P.underlying t = some (.slice el)) (hi : P.info? el = some inf) (hs : inf.size = 1) (hzo : zeroOkL P el = true) (hy : ∀ H, Good S H0 T1 n1 H → acells H (ev e1 y) 1 = some (m, ys)) (hlen : xs.length = len) (hone : ∀ v ∈ ys, v.oneCell' = true) (hm : m ≠ 0) (hb : (len + m) * inf.bytes ≤ 140737488355328) (hml : len + m ≤ 9223372036854775807) (hL : AllL S T1 e1 j L)
    (hk : KW P S H0 Q (n1 + 1) (T1.set j (n1, ⟨el, true, xs ++ ys⟩)) k1 (put1 e1 d1 (.slice (some ⟨n1, 0, some 1⟩) (len + m) (len + m)))) : KW P S H0 Q n T k e := by
  refine KW.go h hlr (KEvt.heapL (c := ⟨_, _, _, _, _, _⟩) _ _ _ (by rw [ho]; exact .inr rfl) (fun H g => ⟨none, _, ?_, g.move hT _, AllL.out g (.inl hT) hL (fun i hi hne => ?_)⟩) (by rw [hd, put1_eq]; exact hk))
  · rw [ho]
    have h1 := hy H g
    have h2 := (g.blk hT).1
    simp only [hop, aapp, aappend, hu, hi, hs, hx, h1, h2]
    rw [if_pos trivial, if_pos ⟨zeroOkL_ok hzo, by omega, List.all_eq_true.2 hone⟩, if_neg hm, if_pos ⟨trivial, trivial, trivial, by omega, hml, hb⟩]
    simp only [List.drop_zero, Nat.mul_one, AH.kill, g.n_]
    rw [List.take_of_length_le (by omega)]
  · have hn := g.n_
    have hi : i < n1 := hi
    have h3 : ¬ i = H.n := by omega
    have h4 := hne _ hT
    simp [AH.push, AH.kill, h3, h4]
/-- One element more, to a slice that one has made. -/
theorem KW.app1L (j m0 : Nat) {o o' : Oper} {dr dr' : Bool} {L : List Tmp} {t el t' : TypeId} {m : Nat} {parts : Array (Nat × Operand)} {inf : TypeInfo} {z : Value} {x y : Operand} {len c id : Nat} {xs : List Value} {v : Value} (h : Go1 P k e T n (.op o dr) k1 e1 T1 n1 l1 r1) (hlr : l1 = r1) (ho : o.op = .buildSlice t m parts) (hd : o.dst = some d1)
    (hu : P.underlying t = some (.slice el)) (hi : P.info? el = some inf) (hs : inf.size = 1) (hz : inf.zero = some z) (hz1 : z.cells = #[z]) (hzo : zeroOkL P el = true) (hp : (parts.toList.map fun p => (p.1, ev e1 p.2)) = [(0, v)]) (hm : m = 1) (hv : v.cells = #[v]) (ho1 : v.oneCell' = true)
    (h' : Go1 P k1 (put1 e1 d1 (.slice (some ⟨n1, 0, some 1⟩) 1 1)) (T1 ++ [(n1, ⟨el, true, [v]⟩)]) (n1 + 1) (.opL o' dr' L) k2 e2 T2 n2 l2 r2) (hlr' : l2 = r2) (ho' : o'.op = .call { callee := .builtin .append, args := #[x, y], argTypes := #[t', t'] }) (hd' : o'.dst = some d2) (hx' : ev e2 x = .slice (some ⟨id, 0, some 1⟩) len c) (hT : T2[j]? = some (id, ⟨el, true, xs⟩))
    (hu' : P.underlying t' = some (.slice el)) (hy' : ev e2 y = .slice (some ⟨n1, 0, some 1⟩) 1 1) (hT2 : T2[m0]? = some (n1, ⟨el, true, [v]⟩)) (hlen : xs.length = len) (hb : (len + 1) * inf.bytes ≤ 140737488355328) (hml : len + 1 ≤ 9223372036854775807) (hL : AllL S T2 e2 j L)
    (hk : KW P S H0 Q (n2 + 1) ((T2.set j (n2, ⟨el, true, xs ++ [v]⟩)).take m0) k2 (put1 e2 d2 (.slice (some ⟨n2, 0, some 1⟩) (len + 1) (len + 1)))) : KW P S H0 Q n T k e :=
  KW.lit h hlr ho hd hu hi hs hz hz1 hzo [v] (by rw [hp]; rfl) hm (fun u hu => by rw [List.mem_singleton.1 hu]; exact hv) rfl
    (KW.appTL (ys := [v]) (m := 1) j h' hlr' ho' hd' hx' hT hu' hi hs hzo (fun H g => by rw [hy']; exact acells_T (g.blk hT2).1 rfl rfl) hlen (fun u hu => by rw [List.mem_singleton.1 hu]; exact ho1) (by decide) hb hml hL (KW.take m0 hk))
/-- .. to nil: what has been appended stays behind the rest. -/
theorem KW.app0L {o o' : Oper} {dr dr' : Bool} {L : List Tmp} {t el t' : TypeId} {m : Nat} {parts : Array (Nat × Operand)} {inf : TypeInfo} {z : Value} {x y : Operand} {v : Value} (m0 : Nat) (h : Go1 P k e T n (.op o dr) k1 e1 T1 n1 l1 r1) (hlr : l1 = r1) (ho : o.op = .buildSlice t m parts) (hd : o.dst = some d1)
    (hu : P.underlying t = some (.slice el)) (hi : P.info? el = some inf) (hs : inf.size = 1) (hz : inf.zero = some z) (hz1 : z.cells = #[z]) (hzo : zeroOkL P el = true) (hp : (parts.toList.map fun p => (p.1, ev e1 p.2)) = [(0, v)]) (hm : m = 1) (hv : v.cells = #[v]) (ho1 : v.oneCell' = true)
    (h' : Go1 P k1 (put1 e1 d1 (.slice (some ⟨n1, 0, some 1⟩) 1 1)) (T1 ++ [(n1, ⟨el, true, [v]⟩)]) (n1 + 1) (.opL o' dr' L) k2 e2 T2 n2 l2 r2) (hlr' : l2 = r2) (ho' : o'.op = .call { callee := .builtin .append, args := #[x, y], argTypes := #[t', t'] }) (hd' : o'.dst = some d2) (hx' : ev e2 x = .slice none 0 0)
    (hu' : P.underlying t' = some (.slice el)) (hy' : ev e2 y = .slice (some ⟨n1, 0, some 1⟩) 1 1) (hT2 : T2[m0]? = some (n1, ⟨el, true, [v]⟩)) (hb : inf.bytes ≤ 140737488355328) (hL : AllL S T2 e2 T2.length L)
    (hk : KW P S H0 Q (n2 + 1) (T2 ++ [(n2, ⟨el, true, [v]⟩)]) k2 (put1 e2 d2 (.slice (some ⟨n2, 0, some 1⟩) 1 1))) : KW P S H0 Q n T k e :=
  KW.lit h hlr ho hd hu hi hs hz hz1 hzo [v] (by rw [hp]; rfl) hm (fun u hu => by rw [List.mem_singleton.1 hu]; exact hv) rfl
    (KW.appNL (ys := [v]) (m := 1) h' hlr' ho' hd' hx' hu' hi hs hzo (fun H g => by rw [hy']; exact acells_T (g.blk hT2).1 rfl rfl) (fun u hu => by rw [List.mem_singleton.1 hu]; exact ho1) (by decide) (by omega) (by decide) hL hk)
end
end Go.Proofs.YtijmkfnmdhpakaaGreat.Am
