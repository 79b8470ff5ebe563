/- Contracts and laws on abstract memory, merged. Each holds under its own conditions. -/
import Derived.Test.YtijmkfnmdhpakaaPTags03
/- Contract: the maker of a gate's scheme. It holds under its own conditions. -/
set_option linter.unusedVariables false
set_option linter.unusedSimpArgs false
set_option maxRecDepth 20000
set_option maxHeartbeats 4000000
namespace Go.Proofs.Ytijmkfnmdhpakaa.Am
open Go Go.RowKit Go.Proofs Go.Proofs.Ytijmkfnmdhpakaa.Pl
section
variable {P : Program} {S : Ids} {H0 : AH} {Q : PostC} {k k1 : List It} {e e1 : Env} {T T1 : List Var} {n n1 : Nat} {l1 r1 : List Nat} {d1 : Tmp}
/-- The address of an element; what it leads to is named apart. -/
theorem KW.adX {α : Type} {d : Kn α} {X : Ids} {xs : List α} {o : Oper} {dr : Bool} {t el : TypeId} {x i : Operand} {inf : TypeInfo} {s : Value} {kk : IntKind} {j : Int} (hs : d.Sl X H0 s xs) (hX : ∀ id, X id → S id) (h : Go1 P k e T n (.op o dr) k1 e1 T1 n1 l1 r1) (hlr : l1 = r1) (ho : o.op = .indexAddr t x i) (hd : o.dst = some d1) (hx : ev e1 x = s) (hj : ev e1 i = .int kk j) (hu : P.underlying t = some (.slice el)) (hi : P.info? el = some inf) (he : inf.size = d.es) (h0 : 0 ≤ j) (h1 : j < xs.length)
    (hk : ∀ y cs id q, xs[j.toNat]? = some y → d.R X H0 y cs → Has3 X H0 id q cs → KW P S H0 Q n1 T1 k1 (put1 e1 d1 (.pointer (some ⟨id, q, none⟩)))) : KW P S H0 Q n T k e := by
  obtain ⟨id, off, c, b, y, e1_, e2, e3, e4, e5, e6⟩ := hs.at_ h0 h1
  refine KW.go h hlr (KEvt.idx (c := ⟨_, _, _, _, _, _⟩) ho (hs.more hX) h0 h1 hu hi he hx hj ?_)
  rw [hd, put1_eq]
  subst e1_
  exact hk y _ id (off + j.toNat * d.es) e4 e6 ⟨e3, b, e2, fun q v hq => seg_at rfl hq⟩
end
def MkV (mid : Nat) (oo : Option (Nat × Nat)) : Ids := fun i => i = mid ∨ ∃ a b, oo = some (a, b) ∧ (i = a ∨ i = b)
def mkO (oo : Option (Nat × Nat)) (n : Nat) : Value := match oo with | none => .slice none 0 0 | some (a, _) => .slice (some ⟨a, 0, some 1⟩) n n
def mkR (oo : Option (Nat × Nat)) (n : Nat) : Value := match oo with | none => .slice none 0 0 | some (_, b) => .slice (some ⟨b, 0, some 1⟩) n n
abbrev RwT := Nat × List Int
def rowV (x : RwT) : Value := .slice (some ⟨x.1, 0, some 1⟩) x.2.length x.2.length
def RV (rr : List RwT) : Ids := fun i => ∃ x ∈ rr, x.1 = i
/-- A maker in memory: its lists, the blocks of its rows. -/
structure MkrI (p cols : Int) (ow : List Int) (rr : List RwT) (mid : Nat) (S : Ids) (A : AH) (oo : Option (Nat × Nat)) : Prop where
  mS : S mid
  mm : A.m mid = some ⟨297, true, [.int .i64 p, .int .i64 cols, mkO oo ow.length, mkR oo rr.length]⟩
  len : ow.length = rr.length
  none_ : oo = none → rr = []
  some_ : ∀ a b, oo = some (a, b) → S a ∧ S b ∧ a ≠ mid ∧ b ≠ mid ∧ a ≠ b ∧ A.m a = some ⟨2, true, ow.map (Value.int .i64)⟩ ∧ A.m b = some ⟨28, true, rr.map rowV⟩
  rb : ∀ x ∈ rr, S x.1 ∧ A.m x.1 = some ⟨2, true, x.2.map (Value.int .i64)⟩ ∧ ¬ MkV mid oo x.1
  nd : (rr.map Prod.fst).Nodup
theorem MkrI.wS {p cols : Int} {ow : List Int} {rr : List RwT} {mid : Nat} {S : Ids} {A : AH} {oo : Option (Nat × Nat)} (h : MkrI p cols ow rr mid S A oo) : ∀ j, MkV mid oo j ∨ RV rr j → S j := fun j hj => by
  rcases hj with (hj | ⟨a, b, e, hj⟩) | ⟨x, hx, hj⟩
  · rw [hj]; exact h.mS
  · obtain ⟨h1, h2, _⟩ := h.some_ a b e
    rcases hj with hj | hj
    · rw [hj]; exact h1
    · rw [hj]; exact h2
  · rw [← hj]; exact (h.rb x hx).1
theorem MkrI.mv {p cols : Int} {ow : List Int} {rr : List RwT} {mid : Nat} {S S' : Ids} {A A' : AH} {oo : Option (Nat × Nat)} (h : MkrI p cols ow rr mid S A oo) (k : ∀ j, MkV mid oo j ∨ RV rr j → S' j ∧ A'.m j = A.m j) : MkrI p cols ow rr mid S' A' oo := by
  refine ⟨(k mid (.inl (.inl rfl))).1, (k mid (.inl (.inl rfl))).2.trans h.mm, h.len, h.none_, fun a b e => ?_, fun x hx => ?_, h.nd⟩
  · obtain ⟨h1, h2, h3, h4, h5, h6, h7⟩ := h.some_ a b e
    have ka := k a (.inl (.inr ⟨a, b, e, .inl rfl⟩))
    have kb := k b (.inl (.inr ⟨a, b, e, .inr rfl⟩))
    exact ⟨ka.1, kb.1, h3, h4, h5, ka.2.trans h6, kb.2.trans h7⟩
  · have kx := k x.1 (.inr ⟨x, hx, rfl⟩)
    obtain ⟨h1, h2, h3⟩ := h.rb x hx
    exact ⟨kx.1, kx.2.trans h2, h3⟩
def RowsOk (p cols : Int) (rr : List RwT) : Prop := ∀ r ∈ rr, (1 ≤ r.2.length ∧ (r.2.length : Int) ≤ cols) ∧ ∀ x ∈ r.2, 0 ≤ x ∧ x < p
def cgG : Nat → Nat
  | 0 => 0
  | d + 1 => 3 + 4 * cgG d
def rgG : Nat → Nat
  | 0 => 1
  | d + 1 => 1 + 4 * rgG d
theorem rgG_pos : ∀ d, 1 ≤ rgG d
  | 0 => Nat.le_refl _
  | d + 1 => by simp only [rgG]; omega
/-- What a node leaves. -/
def NdP (p cols : Int) (mid d : Nat) (rr : List RwT) (oo : Option (Nat × Nat)) (lid n : Nat) (H1 : AH) : Prop :=
  ∃ (cols' : Int) (ow' : List Int) (rr' : List RwT) (oo' : Option (Nat × Nat)), MkrI p cols' ow' rr' mid (fun i => MkV mid oo i ∨ RV rr i ∨ i = lid ∨ New n H1.n i) H1 oo' ∧ cols ≤ cols' ∧ cols' ≤ cols + cgG d ∧ rr'.length ≤ rr.length + rgG d ∧ RowsOk p cols' rr' ∧ (∀ i, RV rr' i → RV rr i ∨ i = lid ∨ New n H1.n i) ∧ (∀ i, MkV mid oo' i → MkV mid oo i ∨ New n H1.n i)
section
variable {p N : Int} {mid : Nat}
theorem nodeLeaf {S : Ids} {H0 : AH} {h cols : Int} {ow L : List Int} {rr : List RwT} {GS : Ids} {oo : Option (Nat × Nat)} {gid gk d lid : Nat} {ga : Option Addr} {gc : Nat} (hgv : Has3 GS H0 gid gk [.int .i64 h, .int .i64 0, .slice ga 0 gc]) (hGS : ∀ i, GS i → S i ∧ ¬ MkV mid oo i) (hM : MkrI p cols ow rr mid S H0 oo) (hLS : S lid ∧ ¬ MkV mid oo lid ∧ ¬ RV rr lid) (hL : H0.m lid = some ⟨2, true, L.map (Value.int .i64)⟩) (hLc : 1 ≤ L.length ∧ (L.length : Int) ≤ cols) (hLp : ∀ x ∈ L, 0 ≤ x ∧ x < p) (hr' : RowsOk p cols rr) (hrl : rr.length ≤ 10000) :
    SpecW Try.prog S H0 (MkV mid oo) 249 [.pointer (some ⟨mid, 0, none⟩), .pointer (some ⟨gid, gk, none⟩), rowV (lid, L)] (fun n v H1 => NdP p cols mid d rr oo lid n H1) := by
  refine SpecW.of0 Try.func249 rfl (by kernel_rfl) rfl (fun H hfin hfz => ?_)
  have hM0 : MkrI p cols ow rr mid (Low H.n) H oo := hM.mv fun j hj => hfz j (hM.wS j hj)
  have hgv0 : Has3 (Low H.n) H gid gk [.int .i64 h, .int .i64 0, .slice ga 0 gc] := by
    obtain ⟨q0, b, q1, q2⟩ := hgv
    exact ⟨(hfz gid (hGS gid q0).1).1, b, ((hfz gid (hGS gid q0).1).2).trans q1, q2⟩
  have hgW : ¬ MkV mid oo gid := (hGS gid hgv.1).2
  have hXl : lid < H.n := (hfz lid hLS.1).1
  have hL0 : H.m lid = some ⟨2, true, L.map (Value.int .i64)⟩ := (hfz lid hLS.1).2.trans hL
  obtain ⟨_, hlW, hlV⟩ := hLS
  have hmL : mid < H.n := hM0.mS
  have hrg := rgG_pos d
  refine KW.ldF 2 hgv0 rfl rfl rfl rfl rfl rfl rfl rfl rfl ?_
  refine KW.yes rfl rfl (by simp) ?_
  cases oo with
  | none =>
    obtain rfl : rr = [] := hM0.none_ rfl
    obtain rfl : ow = [] := List.eq_nil_of_length_eq_zero hM0.len
    have hgm : gid ≠ mid := fun e => hgW (.inl e)
    have hlm : lid ≠ mid := fun e => hlW (.inl e)
    refine KW.thaw mid _ hM0.mS hM0.mm ?_
    have hgv1 : Has3 (fun i => Low H.n i ∧ i ≠ mid) H gid gk [.int .i64 h, .int .i64 0, .slice ga 0 gc] := ⟨⟨hgv0.1, hgm⟩, hgv0.2⟩
    refine KW.ldT 0 rfl rfl rfl rfl rfl rfl rfl ?_
    refine KW.ldF 0 hgv1 rfl rfl rfl rfl rfl rfl rfl rfl rfl ?_
    refine KW.app0 (v := .int .i64 h) 1 rfl rfl rfl rfl rfl rfl rfl rfl rfl rfl rfl rfl rfl rfl rfl rfl rfl rfl rfl rfl rfl rfl (by decide) ?_
    refine KW.st1 0 rfl rfl rfl rfl rfl rfl rfl rfl rfl rfl rfl rfl (by simp) ?_
    refine KW.ldT 0 rfl rfl rfl rfl rfl rfl rfl ?_
    refine KW.app0 (v := rowV (lid, L)) 2 rfl rfl rfl rfl rfl rfl rfl rfl rfl rfl rfl rfl rfl rfl rfl rfl rfl rfl rfl rfl rfl rfl (by decide) ?_
    refine KW.st1 0 rfl rfl rfl rfl rfl rfl rfl rfl rfl rfl rfl rfl (by simp) ?_
    refine KW.retW rfl rfl rfl rfl (fun H9 g => by have := g.n_; omega) (fun i h1 h2 => ⟨⟨h1, fun e => h2 (.inl e)⟩, rfl⟩) (fun H9 g => ?_)
    have hn9 := g.n_
    have b0 := (g.blk (j := 0) rfl).1
    have b1 := g.blk (j := 1) rfl
    have b2 := g.blk (j := 2) rfl
    have hL9 : H9.m lid = some ⟨2, true, L.map (Value.int .i64)⟩ := (g.froz lid ⟨hXl, hlm⟩).2.trans hL0
    have n1 : New H.n H9.n (H.n + 1) := ⟨by omega, by omega⟩
    have n3 : New H.n H9.n (H.n + 3) := ⟨by omega, by omega⟩
    refine ⟨cols, [h], [(lid, L)], some (H.n + 1, H.n + 3), ⟨.inl (.inl rfl), b0, rfl, fun e => (by cases e), fun a b e => ?_, fun x hx => ?_, by simp⟩, Int.le_refl _, by omega, by simp only [List.length_nil, List.length_singleton]; omega, fun r hr => by rw [List.mem_singleton.1 hr]; exact ⟨hLc, hLp⟩, fun i hi => ?_, fun i hi => ?_⟩
    · cases e
      exact ⟨.inr (.inr (.inr n1)), .inr (.inr (.inr n3)), by omega, by omega, by omega, b1.1, b2.1⟩
    · rw [List.mem_singleton.1 hx]
      refine ⟨.inr (.inr (.inl rfl)), hL9, fun hw => ?_⟩
      rcases hw with hw | ⟨a, b, e, hw⟩
      · exact hlm hw
      · cases e
        have hw : lid = H.n + 1 ∨ lid = H.n + 3 := hw
        omega
    · obtain ⟨x, hx, e⟩ := hi
      rw [List.mem_singleton.1 hx] at e
      exact .inr (.inl e.symm)
    · rcases hi with hi | ⟨a, b, e, hi⟩
      · exact .inl (.inl hi)
      · cases e
        rcases hi with hi | hi
        · rw [hi]; exact .inr n1
        · rw [hi]; exact .inr n3
  | some ab =>
    obtain ⟨a, b⟩ := ab
    obtain ⟨a1, a2, a3, a4, a5, a6, a7⟩ := hM0.some_ a b rfl
    have hgm : gid ≠ mid := fun e => hgW (.inl e)
    have hga : gid ≠ a := fun e => hgW (.inr ⟨a, b, rfl, .inl e⟩)
    have hgb : gid ≠ b := fun e => hgW (.inr ⟨a, b, rfl, .inr e⟩)
    refine KW.thaw mid _ hM0.mS hM0.mm ?_
    refine KW.thaw a _ ⟨a1, a3⟩ a6 ?_
    refine KW.thaw b _ ⟨⟨a2, a4⟩, fun e => a5 e.symm⟩ a7 ?_
    have hgv1 : Has3 (fun i => ((Low H.n i ∧ i ≠ mid) ∧ i ≠ a) ∧ i ≠ b) H gid gk [.int .i64 h, .int .i64 0, .slice ga 0 gc] := ⟨⟨⟨⟨hgv0.1, hgm⟩, hga⟩, hgb⟩, hgv0.2⟩
    have hol := hM0.len
    refine KW.ldT 0 rfl rfl rfl rfl rfl rfl rfl ?_
    refine KW.ldF 0 hgv1 rfl rfl rfl rfl rfl rfl rfl rfl rfl ?_
    refine KW.app1 (xs := ow.map (Value.int .i64)) (v := .int .i64 h) 1 3 rfl rfl rfl rfl rfl rfl rfl rfl rfl rfl rfl rfl rfl rfl rfl rfl rfl rfl rfl rfl rfl rfl rfl (by simp) (by show (ow.length + 1) * 8 ≤ _; omega) (by omega) ?_
    refine KW.st1 0 rfl rfl rfl rfl rfl rfl rfl rfl rfl rfl rfl rfl (by simp) ?_
    refine KW.ldT 0 rfl rfl rfl rfl rfl rfl rfl ?_
    refine KW.app1 (xs := rr.map rowV) (v := rowV (lid, L)) 2 3 rfl rfl rfl rfl rfl rfl rfl rfl rfl rfl rfl rfl rfl rfl rfl rfl rfl rfl rfl rfl rfl rfl rfl (by simp) (by show (rr.length + 1) * 24 ≤ _; omega) (by omega) ?_
    refine KW.st1 0 rfl rfl rfl rfl rfl rfl rfl rfl rfl rfl rfl rfl (by simp) ?_
    refine KW.retW rfl rfl rfl rfl (fun H9 g => by have := g.n_; omega) (fun i h1 h2 => ⟨⟨⟨⟨h1, fun e => h2 (.inl e)⟩, fun e => h2 (.inr ⟨a, b, rfl, .inl e⟩)⟩, fun e => h2 (.inr ⟨a, b, rfl, .inr e⟩)⟩, rfl⟩) (fun H9 g => ?_)
    have hn9 := g.n_
    have b0 := (g.blk (j := 0) rfl).1
    have b1 := g.blk (j := 1) rfl
    have b2 := g.blk (j := 2) rfl
    have fz : ∀ i, i < H.n → ¬ MkV mid (some (a, b)) i → H9.m i = H.m i := fun i h1 h2 => (g.froz i ⟨⟨⟨h1, fun e => h2 (.inl e)⟩, fun e => h2 (.inr ⟨a, b, rfl, .inl e⟩)⟩, fun e => h2 (.inr ⟨a, b, rfl, .inr e⟩)⟩).2
    have n1 : New H.n H9.n (H.n + 1) := ⟨by omega, by omega⟩
    have n3 : New H.n H9.n (H.n + 3) := ⟨by omega, by omega⟩
    have nW : ∀ i, i < H.n → ¬ MkV mid (some (a, b)) i → ¬ MkV mid (some (H.n + 1, H.n + 3)) i := fun i h1 h2 hw => by
      rcases hw with hw | ⟨a', b', e, hw⟩
      · exact h2 (.inl hw)
      · cases e
        omega
    refine ⟨cols, ow ++ [h], rr ++ [(lid, L)], some (H.n + 1, H.n + 3), ⟨.inl (.inl rfl), b0.trans (by simp only [mkO, mkR, List.length_append, List.length_singleton]; rfl), by simp only [List.length_append, List.length_singleton]; omega, fun e => (by cases e), fun a' b' e => ?_, fun x hx => ?_, ?_⟩, Int.le_refl _, by omega, by simp only [List.length_append, List.length_singleton]; omega, fun r hr => (List.mem_append.1 hr).elim (hr' r) (fun hr => by rw [List.mem_singleton.1 hr]; exact ⟨hLc, hLp⟩), fun i hi => ?_, fun i hi => ?_⟩
    · cases e
      exact ⟨.inr (.inr (.inr n1)), .inr (.inr (.inr n3)), by omega, by omega, by omega, b1.1.trans (by rw [List.map_append]; rfl), b2.1.trans (by rw [List.map_append]; rfl)⟩
    · rcases List.mem_append.1 hx with hx | hx
      · obtain ⟨h1, h2, h3⟩ := hM0.rb x hx
        exact ⟨.inr (.inl ⟨x, hx, rfl⟩), (fz x.1 h1 h3).trans h2, nW x.1 h1 h3⟩
      · rw [List.mem_singleton.1 hx]
        exact ⟨.inr (.inr (.inl rfl)), (fz lid hXl hlW).trans hL0, nW lid hXl hlW⟩
    · rw [List.map_append]
      refine List.nodup_append.2 ⟨hM0.nd, by simp, fun y hy z hz => ?_⟩
      have hz : z = lid := by simpa using hz
      obtain ⟨x, hx, rfl⟩ := List.mem_map.1 hy
      rw [hz]
      exact fun e => hlV ⟨x, hx, e⟩
    · obtain ⟨x, hx, e⟩ := hi
      rcases List.mem_append.1 hx with hx | hx
      · exact .inl ⟨x, hx, e⟩
      · rw [List.mem_singleton.1 hx] at e
        exact .inr (.inl e.symm)
    · rcases hi with hi | ⟨a', b', e, hi⟩
      · exact .inl (.inl hi)
      · cases e
        rcases hi with hi | hi
        · rw [hi]; exact .inr n1
        · rw [hi]; exact .inr n3
end
end Go.Proofs.Ytijmkfnmdhpakaa.Am
/- Contract: the maker of a gate's scheme, nodes of any depth. It holds under its own conditions. -/
set_option linter.unusedVariables false
set_option linter.unusedSimpArgs false
set_option maxRecDepth 20000
set_option maxHeartbeats 4000000
namespace Go.Proofs.Ytijmkfnmdhpakaa.Am
open Go Go.RowKit Go.Proofs Go.Proofs.Ytijmkfnmdhpakaa.Pl
structure NdS where
  i : Nat
  S : Ids
  A : AH
  cols : Int
  ow : List Int
  rr : List RwT
  oo : Option (Nat × Nat)
structure NdI (p c1 : Int) (mid d ks r0 : Nat) (H : AH) (W V0 : Ids) (s : NdS) : Prop where
  le : s.i ≤ ks
  mk_ : MkrI p s.cols s.ow s.rr mid s.S s.A s.oo
  E : GwE H W s.S s.A
  b1 : c1 ≤ s.cols
  b2 : s.cols ≤ c1 + (s.i * cgG d : Nat)
  r : s.rr.length ≤ r0 + s.i * rgG d
  ok : RowsOk p s.cols s.rr
  v : ∀ j, RV s.rr j → V0 j ∨ H.n ≤ j
  w : ∀ j, MkV mid s.oo j → W j ∨ H.n ≤ j
theorem RowsOk.up {p c c' : Int} {rr : List RwT} (h : RowsOk p c rr) (hc : c ≤ c') : RowsOk p c' rr := fun r hr => ⟨⟨(h r hr).1.1, by have := (h r hr).1.2; omega⟩, (h r hr).2⟩
section
variable {p N : Int} {mid : Nat}
theorem node (hp31 : 2 ≤ p ∧ p ≤ 31) : ∀ (d : Nat) {S : Ids} {H0 : AH} {g : Gt} {cs : List Value} {gid gk : Nat} {cols : Int} {ow L : List Int} {rr : List RwT} {GS : Ids} {oo : Option (Nat × Nat)} {lid : Nat}, d ≤ 4 → GF N d g → NW p d g → RG d GS H0 g cs → Has3 GS H0 gid gk cs → (∀ i, GS i → S i ∧ ¬ MkV mid oo i) → MkrI p cols ow rr mid S H0 oo → (S lid ∧ ¬ MkV mid oo lid ∧ ¬ RV rr lid) → H0.m lid = some ⟨2, true, L.map (Value.int .i64)⟩ → (1 ≤ L.length ∧ (L.length : Int) ≤ cols) → (∀ x ∈ L, 0 ≤ x ∧ x < p) → cols + cgG d ≤ 1000 → RowsOk p cols rr → rr.length + rgG d ≤ 10000 →
    SpecW Try.prog S H0 (MkV mid oo) 249 [.pointer (some ⟨mid, 0, none⟩), .pointer (some ⟨gid, gk, none⟩), rowV (lid, L)] (fun n v H1 => NdP p cols mid d rr oo lid n H1) := by
  intro d
  induction d with
  | zero =>
    intro S H0 g cs gid gk cols ow L rr GS oo lid hd hg hw hR hgv hGS hM hLS hL hLc hLp hcb hr hrl
    obtain ⟨a, c, rfl, hk⟩ := hR.form
    rw [hg.1, hg.2.1] at hgv
    exact nodeLeaf hgv hGS hM hLS hL hLc hLp hr (by omega)
  | succ d ih =>
    intro S H0 g cs gid gk cols ow L rr GS oo lid hd hg hw hR hgv hGS hM hLS hL hLc hLp hcb hr hrl
    obtain ⟨ga, gc, rfl, hk⟩ := hR.form
    rcases hg with hg0 | hg1
    · rw [hg0.1, hg0.2.1] at hgv
      exact nodeLeaf hgv hGS hM hLS hL hLc hLp hr (by omega)
    obtain ⟨g1, g2, g3, g4, g5, g6⟩ := hg1
    obtain ⟨w1, w2⟩ := hw
    have hpos : 0 < g.ks.length := List.length_pos_iff.2 g1
    rcases hk with hk | ⟨d', e, hk⟩
    · exact absurd hk g1
    obtain rfl : d' = d := by omega
    simp only [cgG, rgG] at hcb hrl
    refine SpecW.of0 Try.func249 rfl (by kernel_rfl) rfl (fun H hfin hfz => ?_)
    have hM0 : MkrI p cols ow rr mid (Low H.n) H oo := hM.mv fun j hj => hfz j (hM.wS j hj)
    have hGL : ∀ i, GS i → i < H.n ∧ H.m i = H0.m i := fun i hi => hfz i (hGS i hi).1
    have hgv0 : Has3 GS H gid gk [.int .i64 g.h, .int .i64 g.l, .slice ga g.ks.length gc] := by
      obtain ⟨q0, b, q1, q2⟩ := hgv
      exact ⟨q0, b, ((hGL gid q0).2).trans q1, q2⟩
    have hk0 : (KG d').Sl GS H (.slice ga g.ks.length gc) g.ks := hk.same fun i hi => (hGL i hi).2
    have hlL : lid < H.n := (hfz lid hLS.1).1
    have hL0 : H.m lid = some ⟨2, true, L.map (Value.int .i64)⟩ := (hfz lid hLS.1).2.trans hL
    have hmL : mid < H.n := hM0.mS
    have E0 : GwE H (MkV mid oo) (Low H.n) H := ⟨fun i hi => hM0.wS i (.inl hi), fun i h _ => ⟨h, rfl⟩⟩
    have hgS : ∀ {S' : Ids} {A' : AH}, GwE H (MkV mid oo) S' A' → Has3 S' A' gid gk [.int .i64 g.h, .int .i64 g.l, .slice ga g.ks.length gc] := fun E => by
      obtain ⟨q0, b, q1, q2⟩ := hgv0
      have h := E.old gid (hGL gid q0).1 (hGS gid q0).2
      exact ⟨h.1, b, h.2.trans q1, q2⟩
    have hmS : ∀ {S' : Ids} {A' : AH} {cols' : Int} {ow' : List Int} {rr' : List RwT} {oo' : Option (Nat × Nat)}, MkrI p cols' ow' rr' mid S' A' oo' → Has3 S' A' mid 0 [.int .i64 p, .int .i64 cols', mkO oo' ow'.length, mkR oo' rr'.length] := fun h => ⟨h.mS, _, h.mm, fun i v hv => by rw [Nat.zero_add]; exact hv⟩
    have hLl : (L.length : Int) ≤ 1000 := by omega
    have hc0 : 0 ≤ cols := by omega
    refine KW.ldF 2 ((hgS E0)) rfl rfl rfl rfl rfl rfl rfl rfl rfl ?_
    refine KW.no rfl rfl (by omega) ?_
    refine KW.ldF 1 ((hmS hM0)) rfl rfl rfl rfl rfl rfl rfl rfl rfl ?_
    refine KW.ldF 1 ((hmS hM0)) rfl rfl rfl rfl rfl rfl rfl rfl rfl ?_
    refine KW.ldF 1 ((hgS E0)) rfl rfl rfl rfl rfl rfl rfl rfl rfl ?_
    refine KW.thaw mid _ hM0.mS hM0.mm ?_
    refine KW.st1 0 rfl rfl rfl rfl rfl rfl rfl rfl rfl rfl rfl rfl (by simp) ?_
    refine KW.freeze 0 rfl (fun A1 S1 hn1 hS1 st1 hm1 hlt1 hno1 hlow1 => ?_)
    have ewc : IntKind.i64.wrap (cols + IntKind.i64.wrap (g.l - 1)) = cols + (g.l - 1) := by rw [wr (x := g.l - 1) (by omega) (by omega), wr (by omega) (by omega)]
    have w01 : StW (fun i => i = mid) (Low H.n) H S1 A1 := fun i hi => by
      by_cases e : i = mid
      · exact ⟨(hS1 i).2 (.inr e), fun hh => absurd e hh⟩
      · exact ⟨(st1.st i ⟨hi, e⟩).1, fun _ => (st1.st i ⟨hi, e⟩).2⟩
    have E1 := E0.w w01 (fun i hi => .inl (.inl hi))
    have hM1 : MkrI p (cols + (g.l - 1)) ow rr mid S1 A1 oo := by
      have hmm : A1.m mid = some ⟨297, true, [.int .i64 p, .int .i64 (cols + (g.l - 1)), mkO oo ow.length, mkR oo rr.length]⟩ := by
        have h : A1.m mid = some ⟨297, true, [.int .i64 p, .int .i64 (IntKind.i64.wrap (cols + IntKind.i64.wrap (g.l - 1))), mkO oo ow.length, mkR oo rr.length]⟩ := hm1
        rw [ewc] at h
        exact h
      have kk : ∀ j, MkV mid oo j ∨ RV rr j → j ≠ mid → S1 j ∧ A1.m j = H.m j := fun j hj e => ⟨(w01 j (hM0.wS j hj)).1, (w01 j (hM0.wS j hj)).2 e⟩
      refine ⟨(hS1 _).2 (.inr rfl), hmm, hM0.len, hM0.none_, fun a b e => ?_, fun x hx => ?_, hM0.nd⟩
      · obtain ⟨h1, h2, h3, h4, h5, h6, h7⟩ := hM0.some_ a b e
        have ka := kk a (.inl (.inr ⟨a, b, e, .inl rfl⟩)) h3
        have kb := kk b (.inl (.inr ⟨a, b, e, .inr rfl⟩)) h4
        exact ⟨ka.1, kb.1, h3, h4, h5, ka.2.trans h6, kb.2.trans h7⟩
      · obtain ⟨h1, h2, h3⟩ := hM0.rb x hx
        have kx := kk x.1 (.inr ⟨x, hx, rfl⟩) (fun e => h3 (.inl e))
        exact ⟨kx.1, kx.2.trans h2, h3⟩
    refine KW.lpM rfl rfl (fun s : NdS => [(0, .pointer (some ⟨mid, 0, none⟩)), (1, .pointer (some ⟨gid, gk, none⟩)), (2, rowV (lid, L)), (6, .int .i64 cols), (7, .int .i64 s.i)]) (fun s => s.S) (fun s => s.A) (fun s => []) (fun s => NdI p (cols + (g.l - 1)) mid d' g.ks.length rr.length H (MkV mid oo) (RV rr) s) (fun s => g.ks.length - s.i) (⟨0, S1, A1, cols + (g.l - 1), ow, rr, oo⟩) (⟨Nat.zero_le _, hM1, E1, Int.le_refl _, by show cols + (g.l - 1) ≤ cols + (g.l - 1) + ((0 * cgG d' : Nat) : Int); omega, by simp only; omega, hr.up (by show cols ≤ cols + (g.l - 1); omega), fun j hj => .inl hj, fun j hj => .inl hj⟩) ⟨rfl, rfl, rfl, rfl, rfl, trivial⟩ rfl rfl (rfl) (fun s hi bE n => ?_)
    obtain ⟨i, S2, A2, cols2, ow2, rr2, oo2⟩ := s
    obtain ⟨ile, hM2, E2, b1, b2, hr2, ok2, hV2, hW2⟩ := hi
    simp only at ile hM2 E2 b1 b2 hr2 ok2 hV2 hW2
    have hmulc : i * cgG d' ≤ 4 * cgG d' := Nat.mul_le_mul_right _ (by omega)
    have hmulr : i * rgG d' ≤ 4 * rgG d' := Nat.mul_le_mul_right _ (by omega)
    refine KW.ids (fun hlow hvar => ?_)
    have hnn : H.n ≤ n := by
      rcases Nat.lt_or_ge n H.n with h | h
      · have : n < n := hlow n (by
          by_cases hw : MkV mid oo n
          · exact E2.wid n hw
          · exact (E2.old n h hw).1)
        omega
      · exact h
    refine KW.ldF 2 ((hgS E2)) rfl rfl rfl rfl rfl rfl rfl rfl rfl ?_
    refine KW.cnd rfl rfl (fun k1 => ?_) (fun k1 => ?_)
    · have k1 : (i : Int) < (g.ks.length : Int) := k1
      have hsucc : (i + 1) * cgG d' = i * cgG d' + cgG d' := Nat.succ_mul _ _
      have hsuccr : (i + 1) * rgG d' = i * rgG d' + rgG d' := Nat.succ_mul _ _
      have hsucc4 : (i + 1) * cgG d' ≤ 4 * cgG d' := Nat.mul_le_mul_right _ (by omega)
      have hsuccr4 : (i + 1) * rgG d' ≤ 4 * rgG d' := Nat.mul_le_mul_right _ (by omega)
      have hl2 := E2.old lid hlL hLS.2.1
      have hL2 : KI.Sl S2 A2 (.slice (some ⟨lid, 0, some 1⟩) L.length L.length) L := (row_ml (hl2.2.trans hL0)).sl.more (fun j hj => by rw [hj]; exact hl2.1)
      refine KW.callN1 rfl rfl rfl rfl rfl (l00OwnC (by show L.length ≤ _; omega) hL2) (fun v HC SC mC _ _ hv => ?_)
      obtain ⟨o3, rfl, hno3, hmo3⟩ := hv
      have tC := (inferInstance : Stp S2 A2 SC HC).st
      have hSo3 : SC o3 := (inferInstance : On (New _ HC.n) HC SC HC).st o3 hno3 |>.1
      have ho3 : n ≤ o3 := hno3.1
      refine KW.thaw o3 _ hSo3 hmo3 ?_
      have t2 : St S2 A2 (fun j => SC j ∧ j ≠ o3) HC := fun j h => ⟨⟨(tC j h).1, fun e => by have := hlow j h; omega⟩, (tC j h).2⟩
      have E3 := E2.s t2
      have hM3 := hM2.mv (S' := fun j => SC j ∧ j ≠ o3) (A' := HC) (fun j hj => t2 j (hM2.wS j hj))
      refine KW.lpM rfl rfl (fun s : List Int × Nat => [(0, .pointer (some ⟨mid, 0, none⟩)), (1, .pointer (some ⟨gid, gk, none⟩)), (2, rowV (lid, L)), (6, .int .i64 cols), (7, .int .i64 i), (8, .slice (some ⟨s.2, 0, some 1⟩) s.1.length s.1.length)]) (fun s => fun j => SC j ∧ j ≠ o3) (fun s => HC) (fun s => [(s.2, ⟨2, true, s.1.map (Value.int .i64)⟩)]) (fun s => (1 ≤ s.1.length ∧ (s.1.length : Int) ≤ cols) ∧ ∀ x ∈ s.1, 0 ≤ x ∧ x < p) (fun s => cols.toNat - s.1.length) ((L, o3)) (⟨hLc, hLp⟩) ⟨rfl, rfl, rfl, rfl, rfl, rfl, trivial⟩ rfl rfl (rfl) (fun s hi bE n => ?_)
      obtain ⟨xs, o4⟩ := s
      obtain ⟨⟨x0, x1⟩, x2⟩ := hi
      simp only at x0 x1 x2
      refine KW.cnd rfl rfl (fun k2 => ?_) (fun k2 => ?_)
      · have k2 : (xs.length : Int) < cols := k2
        refine KW.app1 (xs := xs.map (Value.int .i64)) (v := .int .i64 0) 0 1 rfl rfl rfl rfl rfl rfl rfl rfl rfl rfl rfl rfl rfl rfl rfl rfl rfl rfl rfl rfl rfl rfl rfl (by simp) (by show (xs.length + 1) * 8 ≤ _; omega) (by omega) ?_
        exact KW.nxt rfl rfl (fun H' g => ⟨(xs ++ [0], _), ⟨by simp only [List.length_append, List.length_singleton]; omega, fun x hx => (List.mem_append.1 hx).elim (x2 x) (fun hx => by rw [List.mem_singleton.1 hx]; omega)⟩, by simp only [List.length_append, List.length_singleton]; omega, ⟨rfl, rfl, rfl, rfl, rfl, by simp only [List.length_append, List.length_singleton]; rfl, trivial⟩, g.eqT (by simp only [List.map_append]; rfl)⟩)
      · have k2 : ¬ (xs.length : Int) < cols := k2
        refine KW.lpM rfl rfl (fun s : Nat × List Int × Nat => [(0, .pointer (some ⟨mid, 0, none⟩)), (1, .pointer (some ⟨gid, gk, none⟩)), (2, rowV (lid, L)), (6, .int .i64 cols), (7, .int .i64 i), (8, .slice (some ⟨s.2.2, 0, some 1⟩) s.2.1.length s.2.1.length), (9, .int .i64 s.1)]) (fun s => fun j => SC j ∧ j ≠ o3) (fun s => HC) (fun s => [(s.2.2, ⟨2, true, s.2.1.map (Value.int .i64)⟩)]) (fun s => (1 ≤ s.1 ∧ (s.1 : Int) ≤ g.l) ∧ (s.2.1.length : Int) = cols + (s.1 - 1) ∧ ∀ x ∈ s.2.1, 0 ≤ x ∧ x < p) (fun s => g.l.toNat - s.1) ((1, xs, o4)) (⟨⟨Nat.le_refl _, g3⟩, by simp only; omega, x2⟩) ⟨rfl, rfl, rfl, rfl, rfl, rfl, rfl, trivial⟩ rfl rfl (rfl) (fun s hi bE n => ?_)
        obtain ⟨k, ys, o5⟩ := s
        obtain ⟨⟨y0, y1⟩, y2, y3⟩ := hi
        simp only at y0 y1 y2 y3
        refine KW.ldF 1 ((hgS E3)) rfl rfl rfl rfl rfl rfl rfl rfl rfl ?_
        refine KW.cnd rfl rfl (fun k3 => ?_) (fun k3 => ?_)
        · have k3 : (k : Int) < g.l := k3
          have e_i : IntKind.i64.wrap ((i : Int) + 1) = (i : Int) + 1 := wr (by omega) (by omega)
          refine KW.ldF 0 ((hmS hM3)) rfl rfl rfl rfl rfl rfl rfl rfl rfl ?_
          refine KW.callE rfl rfl rfl rfl rfl (l03Power p (IntKind.i64.wrap ((i : Int) + 1)) (k : Int) hp31 (by rw [e_i]; omega) (by omega)) (fun _ _ => ?_)
          have hpw := pw_ok hp31.1 (p := p) (a := IntKind.i64.wrap ((i : Int) + 1)) (k : Int).toNat
          refine KW.app1 (xs := ys.map (Value.int .i64)) (v := .int .i64 (pw p (IntKind.i64.wrap ((i : Int) + 1)) (k : Int).toNat)) 0 1 rfl rfl rfl rfl rfl rfl rfl rfl rfl rfl rfl rfl rfl rfl rfl rfl rfl rfl rfl rfl rfl rfl rfl (by simp) (by show (ys.length + 1) * 8 ≤ _; omega) (by show ys.length + 1 ≤ _; omega) ?_
          refine KW.nxt rfl rfl (fun H' g => ⟨(k + 1, ys ++ [pw p (IntKind.i64.wrap ((i : Int) + 1)) (k : Int).toNat], _), ⟨⟨by simp only; omega, by simp only; omega⟩, by simp only [List.length_append, List.length_singleton]; omega, fun x hx => (List.mem_append.1 hx).elim (y3 x) (fun hx => by rw [List.mem_singleton.1 hx]; exact hpw)⟩, by first | omega | (simp only; omega), ⟨rfl, rfl, rfl, rfl, rfl, by simp only [List.length_append, List.length_singleton]; rfl, congrArg (Value.int .i64) (inc64 (by omega)), trivial⟩, g.eqT (by simp only [List.map_append]; rfl)⟩)
        · have k3 : ¬ (k : Int) < g.l := k3
          have ykl : (ys.length : Int) = cols + (g.l - 1) := by omega
          refine KW.ldF 2 ((hgS E3)) rfl rfl rfl rfl rfl rfl rfl rfl rfl ?_
          refine KW.adX (hk0.same (H' := HC) (fun j hj => (E3.old j (hGL j hj).1 (hGS j hj).2).2)) (fun j hj => (E3.old j (hGL j hj).1 (hGS j hj).2).1) rfl rfl rfl rfl rfl rfl rfl rfl rfl (by omega) k1 (fun y cy id2 q hy hRy hat => ?_)
          have hy : g.ks[i]? = some y := hy
          have hym := List.mem_of_getElem? hy
          refine KW.callWF 0 rfl rfl rfl rfl rfl rfl (fun A9 S9 hn9 hS9 t9 hm9 ho9 hno9 hlt9 => ?_)
          have ho9 : o5 < _ := ho9
          have E9 := E3.s t9.st
          have hM9 := hM3.mv (S' := S9) (A' := A9) (fun j hj => t9.st j (hM3.wS j hj))
          have hG9 : ∀ j, GS j → S9 j ∧ A9.m j = H.m j := fun j hj => E9.old j (hGL j hj).1 (hGS j hj).2
          have hGC : ∀ j, GS j → HC.m j = H.m j := fun j hj => (E3.old j (hGL j hj).1 (hGS j hj).2).2
          have hG2 : ∀ j, GS j → ¬ MkV mid oo2 j := fun j hj hw => by
            rcases hW2 j hw with h | h
            · exact (hGS j hj).2 h
            · have := (hGL j hj).1; omega
          have hat9 : Has3 GS A9 id2 q cy := by
            obtain ⟨q0, b, q1, q2⟩ := hat
            exact ⟨q0, b, ((hG9 id2 q0).2.trans (hGC id2 q0).symm).trans q1, q2⟩
          have o5n : H.n ≤ o5 := by
            rcases Nat.lt_or_ge o5 H.n with h | h
            · by_cases hw : MkV mid oo o5
              · exact absurd (E3.wid o5 hw) hno9
              · exact absurd (E3.old o5 h hw).1 hno9
            · exact h
          have key := ih (S := S9) (H0 := A9) (g := y) (cs := cy) (gid := id2) (gk := q) (cols := cols2) (ow := ow2) (L := ys) (rr := rr2) (GS := GS) (oo := oo2) (lid := o5) (by omega) (g6 y hym) (w2 y hym) (RG.same d' (fun j hj => (hG9 j hj).2.trans (hGC j hj).symm) hRy) hat9 (fun j hj => ⟨(hG9 j hj).1, hG2 j hj⟩) hM9 ⟨(hS9 _).2 (.inr rfl), fun hw => hno9 (hM3.wS _ (.inl hw)), fun hv => hno9 (hM3.wS _ (.inr hv))⟩ hm9 ⟨by omega, by omega⟩ y3 (by omega) ok2 (by omega)
          refine ⟨_, _, fun j hj => (t9.st j (hM3.wS j (.inl hj))).1, key, fun v H6 S6 m6 t6 w6 hv6 => ?_⟩
          obtain ⟨cols', ow', rr', oo', hM', c1', c2', r', ok', hV', hW'⟩ := hv6
          have E6 := E9.w t6 (fun j hj => hW2 j hj)
          have hin : ∀ j, (MkV mid oo2 j ∨ RV rr2 j ∨ j = o5 ∨ New _ H6.n j) → S6 j := fun j hj => by
            rcases hj with h | h | h | h
            · exact (t6 j (hM9.wS j (.inl h))).1
            · exact (t6 j (hM9.wS j (.inr h))).1
            · rw [h]; exact (t6 o5 ((hS9 _).2 (.inr rfl))).1
            · exact w6 j h
          have hM6 : MkrI p cols' ow' rr' mid S6 H6 oo' := hM'.mv fun j hj => ⟨hin j (hM'.wS j hj), rfl⟩
          refine KW.nxt rfl rfl (fun H' g => ⟨⟨i + 1, S6, H6, cols', ow', rr', oo'⟩, ⟨by simp only; omega, hM6, E6, by simp only; omega, by simp only; omega, by simp only; omega, ok', fun j hj => by rcases hV' j hj with h | h | h; exact hV2 j h; exact .inr (by omega); exact .inr (by have := h.1; omega), fun j hj => by rcases hW' j hj with h | h; exact hW2 j h; exact .inr (by have := h.1; omega)⟩, by first | omega | (simp only; omega), ⟨rfl, rfl, rfl, rfl, congrArg (Value.int .i64) (inc64 (by omega)), trivial⟩, g⟩)
    · refine KW.endW rfl rfl rfl rfl (fun H9 g => by have := g.n_; omega) (fun j h1 h2 => E2.old j h1 h2) (fun H9 gg => ?_)
      have hn9 := gg.n_
      have hf9 : ∀ j, MkV mid oo2 j ∨ RV rr2 j → j < H9.n ∧ H9.m j = A2.m j := fun j hj => by
        have hf := gg.froz j (hM2.wS j hj)
        exact ⟨by omega, hf.2⟩
      refine ⟨cols2, ow2, rr2, oo2, hM2.mv (fun j hj => ⟨?_, (hf9 j hj).2⟩), by omega, by simp only [cgG]; omega, by simp only [rgG]; omega, ok2, fun j hj => ?_, fun j hj => ?_⟩
      · rcases hj with hj | hj
        · rcases hW2 j hj with h | h
          · exact .inl h
          · exact .inr (.inr (.inr ⟨h, (hf9 j (.inl hj)).1⟩))
        · rcases hV2 j hj with h | h
          · exact .inr (.inl h)
          · exact .inr (.inr (.inr ⟨h, (hf9 j (.inr hj)).1⟩))
      · rcases hV2 j hj with h | h
        · exact .inl h
        · exact .inr (.inr ⟨h, (hf9 j (.inr hj)).1⟩)
      · rcases hW2 j hj with h | h
        · exact .inl h
        · exact .inr ⟨h, (hf9 j (.inl hj)).1⟩
end
end Go.Proofs.Ytijmkfnmdhpakaa.Am
/- Contract: the scheme of a gate. It holds under its own conditions. -/
set_option linter.unusedVariables false
set_option linter.unusedSimpArgs false
set_option maxRecDepth 20000
set_option maxHeartbeats 4000000
namespace Go.Proofs.Ytijmkfnmdhpakaa.Am
open Go Go.RowKit Go.Proofs Go.Proofs.Ytijmkfnmdhpakaa.Pl
theorem rows_sl {X : Ids} {A : AH} {o : Nat} {ty : TypeId} {out : List RwT} (ho : X o) (hm : A.m o = some ⟨ty, true, out.map rowV⟩) (hr : ∀ x ∈ out, X x.1 ∧ A.m x.1 = some ⟨2, true, x.2.map (Value.int .i64)⟩) : KI.sl.Sl X A (.slice (some ⟨o, 0, some 1⟩) out.length out.length) (out.map Prod.snd) := by
  refine .inr ⟨o, 0, out.length, _, by rw [List.length_map]; rfl, by rw [List.length_map]; exact Nat.le_refl _, ho, hm, by simp [Kn.sl], fun i x hx => ?_⟩
  rw [List.getElem?_map] at hx
  obtain ⟨y, hy, rfl⟩ := Option.map_eq_some_iff.1 hx
  obtain ⟨h1, h2⟩ := hr y (List.mem_of_getElem? hy)
  refine ⟨rowV y, ?_, (row_ml h2).sl.more (fun id h => by rw [h]; exact h1)⟩
  show ((out.map rowV).drop (0 + i * 1)).take 1 = [rowV y]
  rw [List.take_one, Nat.zero_add, Nat.mul_one, List.head?_drop, List.getElem?_map, hy]; rfl
/-- A scheme, if the code is 0. -/
def ShP (N p : Int) (n : Nat) (v : Value) (H1 : AH) : Prop :=
  ∃ (h p' c : Int) (a1 a2 : Option Addr) (n1 c1 n2 c2 : Nat) (code : Int), v = .tuple #[.agg #[.int .i64 h, .slice a1 n1 c1, .int .i64 p', .int .i64 c, .slice a2 n2 c2], .int .i64 code] ∧ (code = 0 → ∃ (ow : List Int) (rows : List (List Int)), n1 = ow.length ∧ n2 = rows.length ∧ OkSch h ow p' c rows ∧ h = N ∧ p' = p ∧ KI.Sl (New n H1.n) H1 (.slice a1 ow.length c1) ow ∧ KI.sl.Sl (New n H1.n) H1 (.slice a2 rows.length c2) rows)
section
variable {S : Ids} {H0 : AH}
theorem l04Told (h p c : Int) (hp : I64 p) {a1 c1 a2 c2} {ow : List Int} {rows : List (List Int)} (hO : B_Int64S ow) (hB : B_Int64SS rows) (ho : KI.Sl S H0 (.slice a1 ow.length c1) ow) (hs : KI.sl.Sl S H0 (.slice a2 rows.length c2) rows) :
    Spec Try.prog S H0 250 [.agg #[.int .i64 h, .slice a1 ow.length c1, .int .i64 p, .int .i64 c, .slice a2 rows.length c2]] (fun v => (OkSch h ow p c rows ∧ v = .tuple #[.agg #[.int .i64 h, .slice a1 ow.length c1, .int .i64 p, .int .i64 c, .slice a2 rows.length c2], .int .i64 0]) ∨ v = .tuple #[.agg #[.int .i64 0, .slice none 0 0, .int .i64 0, .int .i64 0, .slice none 0 0], .int .i64 3]) := by
  refine Spec.of1 Try.func250 rfl (by kernel_rfl) rfl (fun H _ => ?_)
  refine KW.callV1 rfl rfl rfl rfl rfl (fun H1 g _ => l04Ok (S := Low H1.n) (H0 := H1) h p c hp hO hB (g.has (j := 0) rfl rfl) ho.up hs.up) (fun n1 m1 => ?_)
  by_cases hk : OkSch h ow p c rows
  · rw [tv_true hk]
    refine KW.cF rfl rfl (by first | (simp; done) | decide) ?_
    exact KW.ret rfl rfl rfl rfl (.inl ⟨hk, rfl⟩)
  · rw [tv_false hk]
    refine KW.cT rfl rfl (by first | (simp; done) | decide) ?_
    refine KW.build rfl rfl rfl rfl rfl (built_Scheme0) ?_
    exact KW.ret rfl rfl rfl rfl (.inr rfl)
structure LgS where
  i : Nat
  S : Ids
  A : AH
  out : List RwT
  l : Value
  tail : List Var
structure LgI (p cols : Int) (oo : Option (Nat × Nat)) (ow : List Int) (rr : List RwT) (H : AH) (s : LgS) : Prop where
  le : s.i ≤ rr.length
  old : ∀ j, j < H.n → s.S j ∧ s.A.m j = H.m j
  ab : ∀ a b, oo = some (a, b) → s.S a ∧ s.S b ∧ s.A.m a = some ⟨2, true, ow.map (Value.int .i64)⟩ ∧ s.A.m b = some ⟨28, true, rr.map rowV⟩ ∧ H.n ≤ a
  rest : ∀ j x, s.i ≤ j → rr[j]? = some x → s.S x.1 ∧ s.A.m x.1 = some ⟨2, true, x.2.map (Value.int .i64)⟩
  out_ : ∀ x ∈ s.out, s.S x.1 ∧ s.A.m x.1 = some ⟨2, true, x.2.map (Value.int .i64)⟩ ∧ H.n ≤ x.1 ∧ ((x.2.length : Int) = cols ∧ ∀ y ∈ x.2, 0 ≤ y ∧ y < p) ∧ (∀ j z, s.i ≤ j → rr[j]? = some z → z.1 ≠ x.1) ∧ ∀ a b, oo = some (a, b) → a ≠ x.1 ∧ b ≠ x.1
  ol : s.out.length = s.i
  form : (s.i = 0 ∧ s.l = .slice none 0 0 ∧ s.tail = []) ∨ (0 < s.i ∧ ∃ o, s.l = .slice (some ⟨o, 0, some 1⟩) s.i s.i ∧ s.tail = [(o, ⟨28, true, s.out.map rowV⟩)])
theorem built_Maker (p : Int) : Try.prog.built 297 [(0, .int .i64 p), (1, .int .i64 1)] = some #[.int .i64 p, .int .i64 1, .slice none 0 0, .slice none 0 0] := by kernel_rfl
theorem l04Gate {N p : Int} (hN : 1 ≤ N ∧ N ≤ 7) (hp31 : 2 ≤ p ∧ p ≤ 31) {g : Gt} {gcs : List Value} {gid gk : Nat} (hg : GF N 4 g) (hR : RG 4 S H0 g gcs) (hgv : Has3 S H0 gid gk gcs) :
    SpecM Try.prog S H0 219 [.int .i64 p, .int .i64 N, .pointer (some ⟨gid, gk, none⟩)] (ShP N p) := by
  refine SpecM.of1 Try.func219 rfl (by kernel_rfl) rfl (fun H _ => ?_)
  have hgv0 := hgv.up (S' := Low H.n) (H' := H)
  have hR0 : RG 4 (Low H.n) H g gcs := On.R (d := KG 4) hR
  refine KW.call rfl rfl rfl rfl rfl (l04Wide 4 hg hR0 hgv0) (fun v nw hnw hv => ?_)
  obtain ⟨b, rfl, hb⟩ := hv
  refine KW.cndB rfl rfl (fun k1 => ?_) (fun k1 => ?_)
  · refine KW.build rfl rfl rfl rfl rfl (built_Scheme0) ?_
    refine KW.retM1 rfl rfl rfl rfl (fun H1 g => ⟨0, 0, 0, none, none, 0, 0, 0, 0, 4, rfl, fun h => by cases h⟩)
  have hw := hb k1
  refine KW.build rfl rfl rfl rfl rfl (built_Maker _) ?_
  refine KW.lit rfl rfl rfl rfl rfl rfl rfl rfl rfl rfl [.int .i64 1] rfl rfl (fun v hv => by simp at hv; subst hv; rfl) rfl ?_
  refine KW.freeze 2 rfl (fun A1 S1 hn1 hS1 st1 hm1 hlt1 hno1 hlow1 => ?_)
  refine KW.freeze 1 rfl (fun A2 S2 hn2 hS2 st2 hm2 hlt2 hno2 hlow2 => ?_)
  have t02 : ∀ j, j < H.n → S2 j ∧ A2.m j = H.m j := fun j hj => by
    have h1 := st1.st j hj
    have h2 := st2.st j h1.1
    exact ⟨h2.1, h2.2.trans h1.2⟩
  have hn1' : H.n + 1 ≤ nw := hnw
  have hlit : S2 (nw + 1) ∧ A2.m (nw + 1) = some ⟨2, true, [1].map (Value.int .i64)⟩ := by
    have h := st2.st (nw + 1) ((hS1 _).2 (.inr rfl))
    exact ⟨h.1, h.2.trans hm1⟩
  have hM2 : MkrI p 1 [] [] nw S2 A2 none := ⟨(hS2 _).2 (.inr rfl), hm2, rfl, fun _ => rfl, fun a b e => (by cases e), fun x hx => (by cases hx), by simp⟩
  have hMkv : ∀ j, MkV nw none j → j = nw := fun j hj => hj.elim id (fun ⟨a, b, e, _⟩ => by cases e)
  have key := node (N := N) (mid := nw) hp31 4 (S := S2) (H0 := A2) (g := g) (cs := gcs) (gid := gid) (gk := gk) (cols := 1) (ow := []) (L := [1]) (rr := []) (GS := Low H.n) (oo := none) (lid := nw + 1) (by omega) hg hw (RG.same 4 (fun j hj => (t02 j hj).2) hR0) (by
    obtain ⟨q0, b, q1, q2⟩ := hgv0
    exact ⟨q0, b, (t02 gid q0).2.trans q1, q2⟩) (fun j hj => ⟨(t02 j hj).1, fun hw => by have := hMkv j hw; have hj : j < H.n := hj; omega⟩) hM2 ⟨hlit.1, fun hw => by have := hMkv _ hw; omega, fun ⟨x, hx, _⟩ => by cases hx⟩ hlit.2 ⟨by simp, by simp⟩ (fun x hx => by rw [List.mem_singleton.1 hx]; omega) (by simp only [cgG]; omega) (fun r hr => by cases hr) (by simp only [rgG, List.length_nil]; omega)
  refine KW.callW (W := MkV nw none) (fun j hj => by rw [hMkv j hj]; exact hM2.mS) rfl rfl rfl rfl rfl key (fun v H6 S6 n6 t6 w6 hv6 => ?_)
  obtain ⟨cols, ow, rr, oo, hM, c1, c2, hrl, ok, hV, hW⟩ := hv6
  simp only [cgG, rgG, List.length_nil] at c2 hrl
  have hin : ∀ j, (MkV nw none j ∨ RV [] j ∨ j = nw + 1 ∨ New _ H6.n j) → S6 j := fun j hj => by
    rcases hj with h | ⟨x, hx, _⟩ | h | h
    · rw [hMkv j h]; exact (t6 nw hM2.mS).1
    · cases hx
    · rw [h]; exact (t6 _ hlit.1).1
    · exact w6 j h
  have hM6 : MkrI p cols ow rr nw S6 H6 oo := hM.mv fun j hj => ⟨hin j (hM.wS j hj), rfl⟩
  have hge : ∀ j, MkV nw oo j ∨ RV rr j → nw ≤ j := fun j hj => by
    rcases hj with h | h
    · rcases hW j h with h | h
      · rw [hMkv j h]; exact Nat.le_refl _
      · have := h.1; omega
    · rcases hV j h with ⟨x, hx, _⟩ | h | h
      · cases hx
      · omega
      · have := h.1; omega
  have old6 : ∀ j, j < H.n → S6 j ∧ H6.m j = H.m j := fun j hj => by
    have h1 := t02 j hj
    exact ⟨(t6 j h1.1).1, ((t6 j h1.1).2 (fun hw => by have := hMkv j hw; omega)).trans h1.2⟩
  obtain ⟨a1, d1, e1⟩ : ∃ a1 d1, mkO oo ow.length = .slice a1 ow.length d1 := by
    cases oo with
    | none => rw [show ow = [] from List.eq_nil_of_length_eq_zero (by rw [hM.len, hM.none_ rfl]; rfl)]; exact ⟨none, 0, rfl⟩
    | some ab => exact ⟨_, _, rfl⟩
  obtain ⟨a2, d2, e2⟩ : ∃ a2 d2, mkR oo rr.length = .slice a2 rr.length d2 := by
    cases oo with
    | none => rw [hM.none_ rfl]; exact ⟨none, 0, rfl⟩
    | some ab => exact ⟨_, _, rfl⟩
  have hmm : H6.m nw = some ⟨297, true, [.int .i64 p, .int .i64 cols, .slice a1 ow.length d1, .slice a2 rr.length d2]⟩ := by rw [← e1, ← e2]; exact hM.mm
  refine KW.thaw nw _ hM6.mS hmm ?_
  refine KW.build rfl rfl rfl rfl rfl (built_Matrix2 _ _) ?_
  refine KW.build rfl rfl rfl rfl rfl (built_Scheme3 _ _ _ _ _ _ _ _ _) ?_
  have hrr : ∀ (j : Nat) x, rr[j]? = some x → x.1 ≠ nw := fun j x hx e => (hM.rb x (List.mem_of_getElem? hx)).2.2 (.inl e)
  refine KW.lpM rfl rfl (fun s : LgS => [(0, .int .i64 p), (1, .int .i64 N), (6, .pointer (some ⟨H.n, 0, some 0⟩)), (7, .int .i64 0), (8, .pointer (some ⟨nw, 0, some 1⟩)), (9, .pointer (some ⟨H6.n, 0, some 2⟩)), (10, .int .i64 s.i)]) (fun s => s.S) (fun s => s.A) (fun s => [(H.n, ⟨69, true, [.int .i64 0, .slice none 0 0, .int .i64 0, .int .i64 0, .slice none 0 0]⟩), (nw, ⟨297, true, [.int .i64 p, .int .i64 cols, .slice a1 ow.length d1, .slice a2 rr.length d2]⟩), (H6.n, ⟨69, true, [.int .i64 N, .slice a1 ow.length d1, .int .i64 p, .int .i64 cols, s.l]⟩)] ++ s.tail) (fun s => LgI p cols oo ow rr H s) (fun s => rr.length - s.i) (⟨0, fun j => S6 j ∧ j ≠ nw, H6, [], .slice none 0 0, []⟩) (⟨Nat.zero_le _, fun j hj => ⟨⟨(old6 j hj).1, by omega⟩, (old6 j hj).2⟩, fun a b e => by obtain ⟨h1, h2, h3, h4, h5, h6, h7⟩ := hM6.some_ a b e; exact ⟨⟨h1, h3⟩, ⟨h2, h4⟩, h6, h7, by have := hge a (.inl (.inr ⟨a, b, e, .inl rfl⟩)); omega⟩, fun j x _ hx => by obtain ⟨h1, h2, h3⟩ := hM6.rb x (List.mem_of_getElem? hx); exact ⟨⟨h1, hrr j x hx⟩, h2⟩, fun x hx => (by cases hx), rfl, .inl ⟨rfl, rfl, rfl⟩⟩) ⟨rfl, rfl, rfl, rfl, rfl, rfl, rfl, trivial⟩ rfl rfl (rfl) (fun s hi bE n => ?_)
  obtain ⟨i, S7, A7, out, l, tail⟩ := s
  obtain ⟨ile, old7, ab7, rest7, out7, ol, hform⟩ := hi
  simp only at ile old7 ab7 rest7 out7 ol hform
  haveI o7 : On (Low H.n) H S7 A7 := ⟨fun j hj => old7 j hj⟩
  have hcolN : ((cols.toNat : Nat) : Int) = cols := Int.toNat_of_nonneg (by omega)
  have hRect : Rect p cols.toNat (out.map Prod.snd) := fun r hr => by
    obtain ⟨x, hx, rfl⟩ := List.mem_map.1 hr
    obtain ⟨_, _, _, ⟨h1, h2⟩, _⟩ := out7 x hx
    exact ⟨by omega, h2⟩
  rcases hform with ⟨hi0, el, et⟩ | ⟨hi0, o, el, et⟩
  case' inl => subst el et
  case' inr => subst el et
  all_goals
    refine KW.cnd rfl rfl (fun k2 => ?gin) (fun k2 => ?gout)
    case gin =>
      have k2 : (i : Int) < (rr.length : Int) := k2
      obtain ⟨a, b, eoo⟩ : ∃ a b, oo = some (a, b) := by
        cases h : oo with
        | none => rw [hM.none_ h] at k2; simp at k2; omega
        | some ab => exact ⟨ab.1, ab.2, rfl⟩
      obtain ⟨q1, q2, q3, q4, q5⟩ := ab7 a b eoo
      have e2' : mkR (some (a, b)) rr.length = .slice a2 rr.length d2 := by rw [← eoo]; exact e2
      cases e2'
      obtain ⟨x, hx⟩ : ∃ x, rr[i]? = some x := ⟨rr[i]'(by omega), List.getElem?_eq_getElem (by omega)⟩
      obtain ⟨x1, x2⟩ := rest7 i x (Nat.le_refl _) hx
      have okx := ok x (List.mem_of_getElem? hx)
      obtain ⟨xo, xr⟩ := x
      simp only at x1 x2 okx
      refine KW.idx0 rfl rfl rfl rfl rfl rfl rfl rfl rfl (by omega) (k2) ?_
      refine KW.ldP q2 q4 rfl rfl rfl rfl rfl (bload_at (v := rowV (xo, xr)) (by show (rr.map rowV)[0 + ((i : Nat) : Int).toNat * 1]? = _; rw [Int.toNat_natCast, Nat.zero_add, Nat.mul_one, List.getElem?_map, hx]; rfl) rfl rfl) ?_
      refine KW.thaw xo _ x1 x2 ?_
      first
        | (refine KW.lpM rfl rfl (fun s : List Int × Nat => [(0, .int .i64 p), (1, .int .i64 N), (6, .pointer (some ⟨H.n, 0, some 0⟩)), (7, .int .i64 0), (8, .pointer (some ⟨nw, 0, some 1⟩)), (9, .pointer (some ⟨H6.n, 0, some 2⟩)), (10, .int .i64 i), (11, .slice (some ⟨s.2, 0, some 1⟩) s.1.length s.1.length)]) (fun _ => fun j => S7 j ∧ j ≠ xo) (fun _ => A7) (fun s => [(H.n, ⟨69, true, [.int .i64 0, .slice none 0 0, .int .i64 0, .int .i64 0, .slice none 0 0]⟩), (nw, ⟨297, true, [.int .i64 p, .int .i64 cols, .slice a1 ow.length d1, .slice (some ⟨b, 0, some 1⟩) rr.length rr.length]⟩), (H6.n, ⟨69, true, [.int .i64 N, .slice a1 ow.length d1, .int .i64 p, .int .i64 cols, .slice (some ⟨o, 0, some 1⟩) i i]⟩), (o, ⟨28, true, out.map rowV⟩), (s.2, ⟨2, true, s.1.map (Value.int .i64)⟩)]) (fun s => (1 ≤ s.1.length ∧ (s.1.length : Int) ≤ cols) ∧ ∀ y ∈ s.1, 0 ≤ y ∧ y < p) (fun s => cols.toNat - s.1.length) (xr, xo) ⟨okx.1, okx.2⟩ ⟨rfl, rfl, rfl, rfl, rfl, rfl, rfl, rfl, trivial⟩ rfl rfl rfl (fun s hi bE n => ?_))
        | (refine KW.lpM rfl rfl (fun s : List Int × Nat => [(0, .int .i64 p), (1, .int .i64 N), (6, .pointer (some ⟨H.n, 0, some 0⟩)), (7, .int .i64 0), (8, .pointer (some ⟨nw, 0, some 1⟩)), (9, .pointer (some ⟨H6.n, 0, some 2⟩)), (10, .int .i64 i), (11, .slice (some ⟨s.2, 0, some 1⟩) s.1.length s.1.length)]) (fun _ => fun j => S7 j ∧ j ≠ xo) (fun _ => A7) (fun s => [(H.n, ⟨69, true, [.int .i64 0, .slice none 0 0, .int .i64 0, .int .i64 0, .slice none 0 0]⟩), (nw, ⟨297, true, [.int .i64 p, .int .i64 cols, .slice a1 ow.length d1, .slice (some ⟨b, 0, some 1⟩) rr.length rr.length]⟩), (H6.n, ⟨69, true, [.int .i64 N, .slice a1 ow.length d1, .int .i64 p, .int .i64 cols, .slice none 0 0]⟩), (s.2, ⟨2, true, s.1.map (Value.int .i64)⟩)]) (fun s => (1 ≤ s.1.length ∧ (s.1.length : Int) ≤ cols) ∧ ∀ y ∈ s.1, 0 ≤ y ∧ y < p) (fun s => cols.toNat - s.1.length) (xr, xo) ⟨okx.1, okx.2⟩ ⟨rfl, rfl, rfl, rfl, rfl, rfl, rfl, rfl, trivial⟩ rfl rfl rfl (fun s hi bE n => ?_))
      obtain ⟨xs, o4⟩ := s
      obtain ⟨⟨x0, x3⟩, x4⟩ := hi
      simp only at x0 x3 x4
      refine KW.cnd rfl rfl (fun k3 => ?_) (fun k3 => ?_)
      · have k3 : (xs.length : Int) < cols := k3
        first
          | (refine KW.app1 (xs := xs.map (Value.int .i64)) (v := .int .i64 0) 4 5 rfl rfl rfl rfl rfl rfl rfl rfl rfl rfl rfl rfl rfl rfl rfl rfl rfl rfl rfl rfl rfl rfl rfl (by simp) (by show (xs.length + 1) * 8 ≤ _; omega) (by omega) ?_
             exact KW.nxt rfl rfl (fun H' g => ⟨(xs ++ [0], _), ⟨⟨by simp only [List.length_append, List.length_singleton]; omega, by simp only [List.length_append, List.length_singleton]; omega⟩, fun y hy => (List.mem_append.1 hy).elim (x4 y) (fun hy => by rw [List.mem_singleton.1 hy]; omega)⟩, by simp only [List.length_append, List.length_singleton]; omega, ⟨rfl, rfl, rfl, rfl, rfl, rfl, rfl, by simp only [List.length_append, List.length_singleton]; rfl, trivial⟩, g.eqT (by simp only [List.map_append]; rfl)⟩))
          | (refine KW.app1 (xs := xs.map (Value.int .i64)) (v := .int .i64 0) 3 4 rfl rfl rfl rfl rfl rfl rfl rfl rfl rfl rfl rfl rfl rfl rfl rfl rfl rfl rfl rfl rfl rfl rfl (by simp) (by show (xs.length + 1) * 8 ≤ _; omega) (by omega) ?_
             exact KW.nxt rfl rfl (fun H' g => ⟨(xs ++ [0], _), ⟨⟨by simp only [List.length_append, List.length_singleton]; omega, by simp only [List.length_append, List.length_singleton]; omega⟩, fun y hy => (List.mem_append.1 hy).elim (x4 y) (fun hy => by rw [List.mem_singleton.1 hy]; omega)⟩, by simp only [List.length_append, List.length_singleton]; omega, ⟨rfl, rfl, rfl, rfl, rfl, rfl, rfl, by simp only [List.length_append, List.length_singleton]; rfl, trivial⟩, g.eqT (by simp only [List.map_append]; rfl)⟩))
      · have k3 : ¬ (xs.length : Int) < cols := k3
        have hxm := List.mem_of_getElem? hx
        have hxW := (hM.rb _ hxm).2.2
        simp only at hxW
        have hxn : nw ≤ xo := hge xo (.inr ⟨_, hxm, rfl⟩)
        have hdiff : ∀ j z, i + 1 ≤ j → rr[j]? = some z → z.1 ≠ xo := fun j z hj hz e => by
          have h1 : (rr.map Prod.fst)[i]? = some xo := by rw [List.getElem?_map, hx]; rfl
          have h2 : (rr.map Prod.fst)[j]? = some xo := by rw [List.getElem?_map, hz]; exact congrArg some e
          have := (List.getElem?_inj (by rw [List.length_map]; omega) hM.nd).1 (h1.trans h2.symm)
          omega
        have step : ∀ (A' : AH) (S' : Ids), (∀ id, S' id ↔ (S7 id ∧ id ≠ xo) ∨ id = o4) → St (fun j => S7 j ∧ j ≠ xo) A7 S' A' → ¬ (S7 o4 ∧ o4 ≠ xo) → A'.m o4 = some ⟨2, true, xs.map (Value.int .i64)⟩ → ∀ (l' : Value) (tl' : List Var), ((i + 1 = 0 ∧ l' = .slice none 0 0 ∧ tl' = []) ∨ (0 < i + 1 ∧ ∃ o, l' = .slice (some ⟨o, 0, some 1⟩) (i + 1) (i + 1) ∧ tl' = [(o, ⟨28, true, (out ++ [(o4, xs)]).map rowV⟩)])) → LgI p cols oo ow rr H ⟨i + 1, S', A', out ++ [(o4, xs)], l', tl'⟩ := fun A' S' h1 h2 h3 h4 l' tl' h5 => by
          have mv : ∀ j, S7 j → j ≠ xo → S' j ∧ A'.m j = A7.m j := fun j hj he => h2 j ⟨hj, he⟩
          refine ⟨by simp only; omega, fun j hj => ?_, fun a' b' e => ?_, fun j z hj hz => ?_, fun z hz => ?_, by simp only [List.length_append, List.length_singleton]; omega, h5⟩
          · have := mv j (old7 j hj).1 (by omega)
            exact ⟨this.1, this.2.trans (old7 j hj).2⟩
          · obtain ⟨r1, r2, r3, r4, r5⟩ := ab7 a' b' e
            have m1 := mv a' r1 (fun e' => hxW (.inr ⟨a', b', e, .inl e'.symm⟩))
            have m2 := mv b' r2 (fun e' => hxW (.inr ⟨a', b', e, .inr e'.symm⟩))
            exact ⟨m1.1, m2.1, m1.2.trans r3, m2.2.trans r4, r5⟩
          · have hj : i + 1 ≤ j := hj
            obtain ⟨r1, r2⟩ := rest7 j z (by omega) hz
            have m1 := mv z.1 r1 (hdiff j z hj hz)
            exact ⟨m1.1, m1.2.trans r2⟩
          · rcases List.mem_append.1 hz with hz | hz
            · obtain ⟨r1, r2, r3, r4, r5, r6⟩ := out7 z hz
              have m1 := mv z.1 r1 (fun e => r5 i _ (Nat.le_refl _) hx e.symm)
              exact ⟨m1.1, m1.2.trans r2, r3, r4, fun j y hj hy => r5 j y (by have hj : i + 1 ≤ j := hj; omega) hy, r6⟩
            · rw [List.mem_singleton.1 hz]
              refine ⟨(h1 _).2 (.inr rfl), h4, ?_, ⟨by show (xs.length : Int) = cols; omega, x4⟩, fun j y hj hy e => ?_, fun a' b' e => ?_⟩
              · rcases Nat.lt_or_ge o4 H.n with h | h
                · exact absurd ⟨(old7 o4 h).1, by omega⟩ h3
                · exact h
              · have hj : i + 1 ≤ j := hj
                have e : y.1 = o4 := e
                obtain ⟨r1, _⟩ := rest7 j y (by omega) hy
                exact h3 (e ▸ ⟨r1, hdiff j y hj hy⟩)
              · obtain ⟨r1, r2, _⟩ := ab7 a' b' e
                exact ⟨fun e' => h3 (by have e' : a' = o4 := e'; rw [← e']; exact ⟨r1, fun e'' => hxW (.inr ⟨a', b', e, .inl e''.symm⟩)⟩), fun e' => h3 (by have e' : b' = o4 := e'; rw [← e']; exact ⟨r2, fun e'' => hxW (.inr ⟨a', b', e, .inr e''.symm⟩)⟩)⟩
        first
          | (refine KW.freeze 4 rfl (fun A' S' hnA hSA stA hmA hoA hnS hlow2 => ?_)
             have key9 := step A' S' hSA stA.st hnS hmA
             refine KW.app1 (xs := out.map rowV) (v := rowV (o4, xs)) 3 4 rfl rfl rfl rfl rfl rfl rfl rfl rfl rfl rfl rfl rfl rfl rfl rfl rfl rfl rfl rfl rfl rfl rfl (by simp [ol]) (by show (_ + 1) * 24 ≤ _; omega) (by omega) ?_
             exact KW.nxt rfl rfl (fun H' g => ⟨⟨i + 1, S', A', out ++ [(o4, xs)], .slice (some ⟨n + 1, 0, some 1⟩) (i + 1) (i + 1), [(n + 1, ⟨28, true, (out ++ [(o4, xs)]).map rowV⟩)]⟩, key9 _ _ (.inr ⟨by omega, _, rfl, rfl⟩), by simp only; omega, ⟨rfl, rfl, rfl, rfl, rfl, rfl, congrArg (Value.int .i64) (inc64 (by omega)), trivial⟩, g.eqT (by simp only [List.map_append]; rfl)⟩))
          | (refine KW.freeze 3 rfl (fun A' S' hnA hSA stA hmA hoA hnS hlow2 => ?_)
             have key9 := step A' S' hSA stA.st hnS hmA
             have ho0 : out = [] := List.eq_nil_of_length_eq_zero (by omega)
             subst ho0
             subst hi0
             refine KW.app0 (v := rowV (o4, xs)) 3 rfl rfl rfl rfl rfl rfl rfl rfl rfl rfl rfl rfl rfl rfl rfl rfl rfl rfl rfl rfl rfl rfl (by decide) ?_
             exact KW.nxt rfl rfl (fun H' g => ⟨⟨1, S', A', [(o4, xs)], .slice (some ⟨n + 1, 0, some 1⟩) (1) (1), [(n + 1, ⟨28, true, ([(o4, xs)]).map rowV⟩)]⟩, key9 _ _ (.inr ⟨by omega, _, rfl, rfl⟩), by simp only; omega, ⟨rfl, rfl, rfl, rfl, rfl, rfl, rfl, trivial⟩, g.eqT (by simp only [List.map_append]; rfl)⟩))
    case gout =>
      have k2 : ¬ (i : Int) < (rr.length : Int) := k2
      have hl : (out.map Prod.snd).length = i := by rw [List.length_map]; exact ol
      have hown : ∀ {X : Ids} {H9 : AH}, (∀ j, S7 j → H.n ≤ j → X j ∧ H9.m j = A7.m j) → KI.Sl X H9 (.slice a1 ow.length d1) ow := fun {X H9} hf => by
        cases hoo : oo with
        | none =>
          have h0 : ow = [] := List.eq_nil_of_length_eq_zero (by rw [hM.len, hM.none_ hoo]; rfl)
          rw [hoo] at e1
          subst h0
          cases e1
          exact .inl ⟨rfl, none, 0, rfl, fun _ => rfl⟩
        | some ab =>
          obtain ⟨a, b⟩ := ab
          obtain ⟨r1, r2, r3, r4, r5⟩ := ab7 a b hoo
          rw [hoo] at e1
          cases e1
          have h1 := hf a r1 r5
          exact (row_ml (h1.2.trans r3)).sl.more (fun j hj => by rw [hj]; exact h1.1)
      have hB2 : B_Int64SS (out.map Prod.snd) := rect_sml hRect (by omega) (by rw [hl]; omega)
      have hO2 : B_Int64S ow := by show ow.length ≤ _; rw [hM.len]; omega
      have hp64 : I64 p := ⟨by omega, by omega⟩
      first
        | (have key := fun (H1 : AH) (T9 : List Var) (n9 : Nat) (g : Good S7 A7 T9 n9 H1) (hb : H1.m o = some ⟨28, true, out.map rowV⟩ ∧ o < H1.n) => l04Told (S := Low H1.n) (H0 := H1) N p cols hp64 (a1 := a1) (c1 := d1) (ow := ow) (a2 := some ⟨o, 0, some 1⟩) (c2 := out.length) (rows := out.map Prod.snd) hO2 hB2 (hown (fun j hj _ => ⟨by have := (g.froz j hj).1; have := g.n_; show j < H1.n; omega, (g.froz j hj).2⟩)) (by rw [List.length_map]; exact rows_sl (X := Low H1.n) hb.2 hb.1 (fun x hx => by obtain ⟨r1, r2, _⟩ := out7 x hx; exact ⟨by have := (g.froz x.1 r1).1; have := g.n_; show x.1 < H1.n; omega, (g.froz x.1 r1).2.trans r2⟩))
           rw [hl] at key
           rw [ol] at key
           refine KW.callVp1 rfl rfl rfl rfl rfl (fun H1 g _ => key H1 _ _ g (g.blk (j := 3) rfl)) (fun v n9 m9 hv => ?_)
           rcases hv with ⟨hk, rfl⟩ | rfl
           · refine KW.retM1 rfl rfl rfl rfl (fun H9 g => ?_)
             refine ⟨N, p, cols, a1, some ⟨o, 0, some 1⟩, ow.length, d1, i, i, 0, rfl, fun _ => ⟨ow, out.map Prod.snd, rfl, hl.symm, hk, rfl, rfl, hown (fun j hj hjn => ⟨⟨hjn, by have := (g.froz j hj).1; have := g.n_; omega⟩, (g.froz j hj).2⟩), ?_⟩⟩
             have hb := g.blk (j := 3) rfl
             have hgv := (g.vars 3 _ rfl).2.2
             have ogeH : H.n ≤ o := by
               rcases Nat.lt_or_ge o H.n with h | h
               · exact absurd (old7 o h).1 hgv
               · exact h
             have h9 := rows_sl (X := New H.n H9.n) (A := H9) (o := o) (out := out) ⟨ogeH, hb.2⟩ hb.1 (fun x hx => by obtain ⟨r1, r2, r3, _⟩ := out7 x hx; exact ⟨⟨r3, by have := (g.froz x.1 r1).1; have := g.n_; omega⟩, (g.froz x.1 r1).2.trans r2⟩)
             rw [ol] at h9
             rw [hl]
             exact h9
           · refine KW.retM1 rfl rfl rfl rfl (fun H9 g => ?_)
             exact ⟨0, 0, 0, none, none, 0, 0, 0, 0, 3, rfl, fun h => by cases h⟩)
        | (have ho0 : out = [] := List.eq_nil_of_length_eq_zero (by omega)
           subst ho0
           have key := fun (H1 : AH) (T9 : List Var) (n9 : Nat) (g : Good S7 A7 T9 n9 H1) => l04Told (S := Low H1.n) (H0 := H1) N p cols hp64 (a1 := a1) (c1 := d1) (ow := ow) (a2 := none) (c2 := 0) (rows := []) hO2 hB2 (hown (fun j hj _ => ⟨by have := (g.froz j hj).1; have := g.n_; show j < H1.n; omega, (g.froz j hj).2⟩)) (.inl ⟨rfl, none, 0, rfl, fun _ => rfl⟩)
           refine KW.callVp1 rfl rfl rfl rfl rfl (fun H1 g _ => key H1 _ _ g) (fun v n9 m9 hv => ?_)
           rcases hv with ⟨hk, rfl⟩ | rfl
           · refine KW.retM1 rfl rfl rfl rfl (fun H9 g => ?_)
             exact ⟨N, p, cols, a1, none, ow.length, d1, 0, 0, 0, rfl, fun _ => ⟨ow, [], rfl, rfl, hk, rfl, rfl, hown (fun j hj hjn => ⟨⟨hjn, by have := (g.froz j hj).1; have := g.n_; omega⟩, (g.froz j hj).2⟩), .inl ⟨rfl, none, 0, rfl, fun _ => rfl⟩⟩⟩
           · refine KW.retM1 rfl rfl rfl rfl (fun H9 g => ?_)
             exact ⟨0, 0, 0, none, none, 0, 0, 0, 0, 3, rfl, fun h => by cases h⟩)
end
end Go.Proofs.Ytijmkfnmdhpakaa.Am
/- Contracts: schemes of curves; the scheme that the reference draws. Each holds under its own conditions. -/
set_option linter.unusedVariables false
set_option linter.unusedSimpArgs false
set_option maxRecDepth 20000
set_option maxHeartbeats 4000000
namespace Go.Proofs.Ytijmkfnmdhpakaa.Am
open Go Go.RowKit Go.Proofs Go.Proofs.Ytijmkfnmdhpakaa.Pl
def powR (p x : Int) (c : Nat) : List Int := (List.range c).map fun k => pw p x k
theorem powR_len {p x : Int} {c : Nat} : (powR p x c).length = c := by simp [powR]
theorem powR_next {p x : Int} {c : Nat} : powR p x (c + 1) = powR p x c ++ [pw p x c] := by simp [powR, List.range_succ]
theorem powR_rect {p : Int} (hp : 2 ≤ p) {c : Nat} {xs : List Int} : Rect p c (xs.map fun x => powR p x c) := fun r hr => by
  obtain ⟨x, _, rfl⟩ := List.mem_map.1 hr
  refine ⟨powR_len, fun y hy => ?_⟩
  obtain ⟨k, _, rfl⟩ := List.mem_map.1 hy
  exact pw_ok hp k
section
variable {S : Ids} {H0 : AH}
theorem l03Powers {p : Int} (hp31 : 2 ≤ p ∧ p ≤ 31) {c : Nat} (hc : c ≤ 20) {xs : List Int} (hxl : xs.length ≤ 20) (hx : ∀ x ∈ xs, 0 ≤ x ∧ x < p) {a1 c1} (hs0 : KI.Sl S H0 (.slice a1 xs.length c1) xs) : SpecM Try.prog S H0 252 [.int .i64 p, .slice a1 xs.length c1, .int .i64 c] (MkMx p c (xs.map fun x => powR p x c)) := by
  refine SpecM.of1 Try.func252 rfl (by kernel_rfl) rfl (fun H _ => ?_)
  have hs := hs0.up (S' := Low H.n) (H' := H)
  refine KW.build rfl rfl rfl rfl rfl (built_Matrix2 _ _) ?_
  refine KW.lpM rfl rfl (fun s : CpS => [(0, .int .i64 p), (1, .slice a1 xs.length c1), (2, .int .i64 c), (6, .pointer (some ⟨H.n, 0, some 0⟩)), (7, .pointer (some ⟨H.n + 1, 0, some 1⟩)), (8, .int .i64 s.i)]) (fun s => s.S) (fun s => s.A) (fun s => [(H.n, ⟨67, true, [.int .i64 0, .int .i64 0, .slice none 0 0]⟩), (H.n + 1, ⟨67, true, [.int .i64 p, .int .i64 c, s.l]⟩)] ++ s.tail) (fun s => CqI (fun x => powR p x c) xs H H (Low H.n) s) (fun s => xs.length - s.i) (⟨0, Low H.n, H, fun _ => False, [], .slice none 0 0, []⟩) (⟨RwI.start, .inl ⟨rfl, rfl, rfl, rfl⟩⟩) ⟨rfl, rfl, rfl, rfl, rfl, rfl, trivial⟩ rfl rfl (rfl) (fun s hi bE n => ?_)
  obtain ⟨i, S1, A1, V, cs, l, tail⟩ := s
  obtain ⟨hq, hform⟩ := hi
  simp only at hq hform
  haveI : Stp (Low H.n) H S1 A1 := ⟨hq.old⟩
  have hle := hq.le
  have hcl := hq.b.len
  rw [List.length_map, List.length_take] at hcl
  simp only at hle hcl
  have hs1 := hs.up (S' := S1) (H' := A1)
  rcases hform with ⟨hi0, e1, e2, e3⟩ | ⟨hi0, o, e1, e2⟩
  case' inl => subst e1 e2 e3
  case' inr => subst e1 e2
  all_goals
    refine KW.cnd rfl rfl (fun j1 => ?gin) (fun j1 => ?gout)
    case gin =>
      have j1 : (i : Int) < (xs.length : Int) := j1
      obtain ⟨y, hy⟩ : ∃ y, xs[i]? = some y := ⟨xs[i]'(by omega), List.getElem?_eq_getElem (by omega)⟩
      have hyb := hx y (List.mem_of_getElem? hy)
      refine KW.lit rfl rfl rfl rfl rfl rfl rfl rfl rfl rfl [] rfl rfl (fun v hv => by simp at hv) rfl ?_
      first
        | (refine KW.lpM rfl rfl (fun s : Nat × Nat => [(0, .int .i64 p), (1, .slice a1 xs.length c1), (2, .int .i64 c), (6, .pointer (some ⟨H.n, 0, some 0⟩)), (7, .pointer (some ⟨H.n + 1, 0, some 1⟩)), (8, .int .i64 i), (9, .slice (some ⟨s.2, 0, some 1⟩) s.1 s.1), (10, .int .i64 s.1)]) (fun _ => S1) (fun _ => A1) (fun s => [(H.n, ⟨67, true, [.int .i64 0, .int .i64 0, .slice none 0 0]⟩), (H.n + 1, ⟨67, true, [.int .i64 p, .int .i64 c, .slice (some ⟨o, 0, some 1⟩) i i]⟩), (o, ⟨28, true, cs⟩), (s.2, ⟨2, true, (powR p y s.1).map (Value.int .i64)⟩)]) (fun s => s.1 ≤ c) (fun s => c - s.1) (0, _) (Nat.zero_le _) ⟨rfl, rfl, rfl, rfl, rfl, rfl, rfl, rfl, trivial⟩ rfl rfl rfl (fun s hi bE n => ?_))
        | (refine KW.lpM rfl rfl (fun s : Nat × Nat => [(0, .int .i64 p), (1, .slice a1 xs.length c1), (2, .int .i64 c), (6, .pointer (some ⟨H.n, 0, some 0⟩)), (7, .pointer (some ⟨H.n + 1, 0, some 1⟩)), (8, .int .i64 i), (9, .slice (some ⟨s.2, 0, some 1⟩) s.1 s.1), (10, .int .i64 s.1)]) (fun _ => S1) (fun _ => A1) (fun s => [(H.n, ⟨67, true, [.int .i64 0, .int .i64 0, .slice none 0 0]⟩), (H.n + 1, ⟨67, true, [.int .i64 p, .int .i64 c, .slice none 0 0]⟩), (s.2, ⟨2, true, (powR p y s.1).map (Value.int .i64)⟩)]) (fun s => s.1 ≤ c) (fun s => c - s.1) (0, _) (Nat.zero_le _) ⟨rfl, rfl, rfl, rfl, rfl, rfl, rfl, rfl, trivial⟩ rfl rfl rfl (fun s hi bE n => ?_))
      obtain ⟨k, o4⟩ := s
      simp only at hi
      refine KW.cnd rfl rfl (fun k2 => ?_) (fun k2 => ?_)
      · have k2 : (k : Int) < (c : Int) := k2
        refine KW.getI hs1 rfl rfl rfl rfl rfl rfl rfl rfl rfl rfl rfl rfl rfl rfl rfl rfl (by omega) (j1) (fun y2 hy2 => ?_)
        have hy2 : xs[i]? = some y2 := hy2
        rw [hy] at hy2
        cases hy2
        refine KW.callE rfl rfl rfl rfl rfl (l03Power p y (k : Int) hp31 hyb (by omega)) (fun _ _ => ?_)
        rw [Int.toNat_natCast]
        first
          | (refine KW.app1 (xs := (powR p y k).map (Value.int .i64)) (v := .int .i64 (pw p y k)) 3 4 rfl rfl rfl rfl rfl rfl rfl rfl rfl rfl rfl rfl rfl rfl rfl rfl rfl rfl rfl rfl rfl rfl rfl (by simp [powR_len]) (by show (k + 1) * 8 ≤ _; omega) (by show k + 1 ≤ _; omega) ?_
             exact KW.nxt rfl rfl (fun H' g => ⟨(k + 1, _), by simp only; omega, by simp only; omega, ⟨rfl, rfl, rfl, rfl, rfl, rfl, rfl, congrArg (Value.int .i64) (inc64 (by omega)), trivial⟩, g.eqT (by rw [powR_next, List.map_append]; rfl)⟩))
          | (refine KW.app1 (xs := (powR p y k).map (Value.int .i64)) (v := .int .i64 (pw p y k)) 2 3 rfl rfl rfl rfl rfl rfl rfl rfl rfl rfl rfl rfl rfl rfl rfl rfl rfl rfl rfl rfl rfl rfl rfl (by simp [powR_len]) (by show (k + 1) * 8 ≤ _; omega) (by show k + 1 ≤ _; omega) ?_
             exact KW.nxt rfl rfl (fun H' g => ⟨(k + 1, _), by simp only; omega, by simp only; omega, ⟨rfl, rfl, rfl, rfl, rfl, rfl, rfl, congrArg (Value.int .i64) (inc64 (by omega)), trivial⟩, g.eqT (by rw [powR_next, List.map_append]; rfl)⟩))
      · have k2 : ¬ (k : Int) < (c : Int) := k2
        obtain rfl : k = c := by omega
        have fin : ∀ (A' : AH) (S' : Ids) (o9 : Nat), (∀ id, S' id ↔ S1 id ∨ id = o9) → St S1 A1 S' A' → ¬ S1 o9 → St S1 A1 S' A' ∧ (∀ id, id = o9 → S' id ∧ H.n ≤ id ∧ ¬ S1 id) := fun A' S' o9 h1 h2 h3 => by
          refine ⟨h2, fun id e => ?_⟩
          subst e
          refine ⟨(h1 _).2 (.inr rfl), ?_, h3⟩
          rcases Nat.lt_or_ge id H.n with h | h
          · exact absurd (hq.old id h).1 h3
          · exact h
        have epl : (powR p y k).length = k := powR_len
        first
          | (refine KW.freeze 3 rfl (fun A' S' hnA hSA stA hmA hoA hnS hlow2 => ?_)
             obtain ⟨f1, f2⟩ := fin A' S' _ hSA stA.st hnS
             have hrow := row_ml (xs := powR p y k) hmA
             rw [epl] at hrow
             refine KW.app1 (xs := cs) (v := .slice (some ⟨o4, 0, some 1⟩) k k) 2 3 rfl rfl rfl rfl rfl rfl rfl rfl rfl rfl rfl rfl rfl rfl rfl rfl rfl rfl rfl rfl rfl rfl rfl (by omega) (by show (_ + 1) * 24 ≤ _; omega) (by omega) ?_
             exact KW.nxt rfl rfl (fun H' g => ⟨⟨i + 1, S', A', _, _, _, _⟩, ⟨hq.nextX (o' := 0) f1 f2 hy hrow, .inr ⟨by simp only; omega, _, rfl, rfl⟩⟩, by simp only; omega, ⟨rfl, rfl, rfl, rfl, rfl, congrArg (Value.int .i64) (inc64 (by omega)), trivial⟩, g⟩))
          | (refine KW.freeze 2 rfl (fun A' S' hnA hSA stA hmA hoA hnS hlow2 => ?_)
             obtain ⟨f1, f2⟩ := fin A' S' _ hSA stA.st hnS
             have hrow := row_ml (xs := powR p y k) hmA
             rw [epl] at hrow
             refine KW.app0 (v := .slice (some ⟨o4, 0, some 1⟩) k k) 2 rfl rfl rfl rfl rfl rfl rfl rfl rfl rfl rfl rfl rfl rfl rfl rfl rfl rfl rfl rfl rfl rfl (by decide) ?_
             subst hi0
             exact KW.nxt rfl rfl (fun H' g => ⟨⟨1, S', A', _, _, _, _⟩, ⟨hq.nextX (o' := 0) f1 f2 hy hrow, .inr ⟨by simp only; omega, _, rfl, rfl⟩⟩, by simp only; omega, ⟨rfl, rfl, rfl, rfl, rfl, rfl, trivial⟩, g⟩))
    case gout =>
      have j1 : ¬ (i : Int) < (xs.length : Int) := j1
      have he : i = xs.length := by omega
      have el : (xs.map fun x => powR p x c).length = xs.length := List.length_map ..
      refine KW.retM1 rfl rfl rfl rfl (fun H1 g => ?_)
      first
        | (have h0 : xs = [] := List.eq_nil_of_length_eq_zero (by omega)
           subst h0
           exact ⟨none, 0, rfl, .inl ⟨rfl, _, _, rfl, fun _ => rfl⟩⟩)
        | (refine ⟨some ⟨o, 0, some 1⟩, i, by rw [el, ← he]; rfl, ?_⟩
           have hm := ((⟨hq.le, hq.old, hq.b, hq.v⟩ : RwI (fun x => powR p x c) xs H (Low H.n) H ⟨i, S1, A1, V, cs, o⟩).ml he g (j := 2) rfl (g.ge (H1 := H) (j := 2) rfl)).to (KLe.row (KLe.refl KI))
           rw [el]
           rw [← he] at hm ⊢
           exact hm)
def upI (b : Int) (c : Nat) : List Int := (List.range c).map fun (k : Nat) => b + (k : Int)
theorem upI_len {b : Int} {c : Nat} : (upI b c).length = c := by simp [upI]
theorem upI_next {b : Int} {c : Nat} : upI b (c + 1) = upI b c ++ [b + (c : Int)] := by simp [upI, List.range_succ]
theorem upI_in {b : Int} {c : Nat} {x : Int} (h : x ∈ upI b c) : b ≤ x ∧ x < b + c := by
  obtain ⟨k, hk, rfl⟩ := List.mem_map.1 h
  have := List.mem_range.1 hk
  omega
/-- A scheme in memory, made and valid. -/
def ScP (m : Nat) (H1 : AH) (cs : List Value) : Prop :=
  ∃ (h p c : Int) (ow : List Int) (rows : List (List Int)) (a1 a2 : Option Addr) (c1 c2 : Nat), cs = [.int .i64 h, .slice a1 ow.length c1, .int .i64 p, .int .i64 c, .slice a2 rows.length c2] ∧ OkSch h ow p c rows ∧ KI.Sl (New m H1.n) H1 (.slice a1 ow.length c1) ow ∧ KI.sl.Sl (New m H1.n) H1 (.slice a2 rows.length c2) rows
theorem prime_small {p : Int} (hp : p = 2 ∨ p = 3 ∨ p = 5 ∨ p = 7 ∨ p = 11) : PrimeP p := by
  rcases hp with rfl | rfl | rfl | rfl | rfl
  · exact ⟨by decide, by decide, fun d h2 hd => by omega⟩
  · exact ⟨by decide, by decide, fun d h2 hd => (by decide : ∀ d : Nat, d < 11 → 2 ≤ d → (d : Int) < 3 → ¬ (3 : Int) % (d : Int) = 0) d (by omega) h2 hd⟩
  · exact ⟨by decide, by decide, fun d h2 hd => (by decide : ∀ d : Nat, d < 11 → 2 ≤ d → (d : Int) < 5 → ¬ (5 : Int) % (d : Int) = 0) d (by omega) h2 hd⟩
  · exact ⟨by decide, by decide, fun d h2 hd => (by decide : ∀ d : Nat, d < 11 → 2 ≤ d → (d : Int) < 7 → ¬ (7 : Int) % (d : Int) = 0) d (by omega) h2 hd⟩
  · exact ⟨by decide, by decide, fun d h2 hd => (by decide : ∀ d : Nat, d < 11 → 2 ≤ d → (d : Int) < 11 → ¬ (11 : Int) % (d : Int) = 0) d (by omega) h2 hd⟩
theorem curve {p : Int} (hp : p = 5 ∨ p = 7 ∨ p = 11) {q least : Nat} (hn : 1 ≤ q ∧ q ≤ 4) (hl : 1 ≤ least ∧ least ≤ q) : SpecM Try.prog S H0 220 [.int .i64 p, .int .i64 q, .int .i64 least] (fun m v H1 => ∃ cs : List Value, v = .tuple #[.agg cs.toArray, .int .i64 0] ∧ ScP m H1 cs) := by
  have hpr : PrimeP p := prime_small (by omega)
  have hp31 : 2 ≤ p ∧ p ≤ 31 := ⟨hpr.1, hpr.2.1⟩
  refine SpecM.of1 Try.func220 rfl (by kernel_rfl) rfl (fun H _ => ?_)
  refine KW.callE rfl rfl rfl rfl rfl (specIsPrime p) (fun _ _ => ?_)
  rw [tv_true hpr]
  refine KW.tF rfl rfl (by first | (simp; done) | decide) ?_
  refine KW.callE rfl rfl rfl rfl rfl (l00In _ _ _) (fun _ _ => ?_)
  refine KW.tF rfl rfl (by simp; omega) ?_
  refine KW.callE rfl rfl rfl rfl rfl (l00In _ _ _) (fun _ _ => ?_)
  refine KW.cF rfl rfl (by simp; omega) ?_
  refine KW.no rfl rfl (by omega) ?_
  refine KW.lit rfl rfl rfl rfl rfl rfl rfl rfl rfl rfl [] rfl rfl (fun v hv => by simp at hv) rfl ?_
  refine KW.lit rfl rfl rfl rfl rfl rfl rfl rfl rfl rfl [] rfl rfl (fun v hv => by simp at hv) rfl ?_
  refine KW.lpM rfl rfl (fun s : Nat × Nat × Nat => [(0, .int .i64 p), (1, .int .i64 q), (2, .int .i64 least), (6, .pointer (some ⟨H.n, 0, some 0⟩)), (8, .slice (some ⟨s.2.1, 0, some 1⟩) s.1 s.1), (9, .slice (some ⟨s.2.2, 0, some 1⟩) s.1 s.1), (10, .int .i64 s.1)]) (fun s => Low H.n) (fun s => H) (fun s => [(H.n, ⟨69, true, [.int .i64 0, .slice none 0 0, .int .i64 0, .int .i64 0, .slice none 0 0]⟩), (s.2.1, ⟨2, true, (upI 1 s.1).map (Value.int .i64)⟩), (s.2.2, ⟨2, true, (upI 0 s.1).map (Value.int .i64)⟩)]) (fun s => s.1 ≤ q) (fun s => q - s.1) ((0, _, _)) (Nat.zero_le _) ⟨rfl, rfl, rfl, rfl, rfl, rfl, rfl, trivial⟩ rfl rfl (rfl) (fun s hi bE n => ?_)
  obtain ⟨i, o1, o2⟩ := s
  simp only at hi
  refine KW.fact (p := H.n < n) (fun H1 g => (g.vars 0 _ rfl).2.1) (fun hfn => ?_)
  refine KW.cnd rfl rfl (fun k1 => ?_) (fun k1 => ?_)
  · have k1 : (i : Int) < (q : Int) := k1
    have e1 : IntKind.i64.wrap ((i : Int) + 1) = 1 + (i : Int) := by rw [wr (by omega) (by omega)]; omega
    refine KW.app1 (xs := (upI 1 i).map (Value.int .i64)) (v := .int .i64 (IntKind.i64.wrap ((i : Int) + 1))) 1 3 rfl rfl rfl rfl rfl rfl rfl rfl rfl rfl rfl rfl rfl rfl rfl rfl rfl rfl rfl rfl rfl rfl rfl (by simp [upI_len]) (by show (i + 1) * 8 ≤ _; omega) (by show i + 1 ≤ _; omega) ?_
    refine KW.app1 (xs := (upI 0 i).map (Value.int .i64)) (v := .int .i64 i) 2 3 rfl rfl rfl rfl rfl rfl rfl rfl rfl rfl rfl rfl rfl rfl rfl rfl rfl rfl rfl rfl rfl rfl rfl (by simp [upI_len]) (by show (i + 1) * 8 ≤ _; omega) (by show i + 1 ≤ _; omega) ?_
    refine KW.nxt rfl rfl (fun H' g => ⟨(i + 1, _, _), by simp only; omega, by first | omega | (simp only; omega), ⟨rfl, rfl, rfl, rfl, rfl, rfl, congrArg (Value.int .i64) (inc64 (by omega)), trivial⟩, g.eqT (by simp only [upI_next, List.map_append, e1, Int.zero_add]; rfl)⟩)
  · have k1 : ¬ (i : Int) < (q : Int) := k1
    have e : i = q := by omega
    have hup : ∀ x ∈ upI 1 i, 0 ≤ x ∧ x < p := fun x hx => by have := upI_in hx; omega
    have key := fun (H1 : AH) (hb : H1.m o1 = some ⟨2, true, (upI 1 i).map (Value.int .i64)⟩ ∧ o1 < H1.n) => l03Powers (S := Low H1.n) (H0 := H1) (p := p) hp31 (c := least) (by omega) (xs := upI 1 i) (by rw [upI_len]; omega) hup (a1 := some ⟨o1, 0, some 1⟩) (c1 := (upI 1 i).length) ((row_ml hb.1).sl.more (fun id h => by rw [h]; exact hb.2))
    rw [upI_len] at key
    refine KW.callNV1 rfl rfl rfl rfl rfl (fun H1 g _ => key H1 (g.blk (j := 1) rfl)) (fun v HP SP mP tP wP hv => ?_)
    obtain ⟨a5, c5, rfl, hP⟩ := hv
    have hlen : ((upI 1 i).map fun x => powR p x least).length = i := by rw [List.length_map, upI_len]
    rw [hlen] at hP ⊢
    have hR : Rect p least ((upI 1 i).map fun x => powR p x least) := powR_rect hp31.1
    have hok : OkSch (q : Int) (upI 0 i) p least ((upI 1 i).map fun x => powR p x least) := ⟨by omega, by omega, ⟨hpr, by omega, by omega, by rw [hlen]; omega, fun r hr => ⟨by have := (hR r hr).1; omega, fun y hy => by have := (hR r hr).2 y hy; omega⟩⟩, by omega, by rw [upI_len, hlen], fun y hy => by have := upI_in hy; omega⟩
    refine KW.build rfl rfl rfl rfl rfl (built_Scheme3 _ _ _ _ _ _ _ _ _) ?_
    refine KW.retM1 rfl rfl rfl rfl (fun H1 g => ?_)
    have hb := g.blk (j := 2) rfl
    have hnv := (g.vars 2 _ rfl).2.2
    have oge : H.n ≤ o2 := by
      rcases Nat.lt_or_ge o2 H.n with h | h
      · exact absurd (tP.st o2 h).1 hnv
      · exact h
    haveI := g.out (X := New n HP.n) (H := HP) (lo := H.n) (fun id hid => by have := hid.1; omega)
    have h1 : KI.Sl (New H.n H1.n) H1 (.slice (some ⟨o2, 0, some 1⟩) (upI 0 i).length (upI 0 i).length) (upI 0 i) := (row_ml hb.1).sl.more (fun id h => by rw [h]; exact ⟨oge, hb.2⟩)
    refine ⟨_, rfl, q, p, least, upI 0 i, (upI 1 i).map (fun x => powR p x least), some ⟨o2, 0, some 1⟩, a5, (upI 0 i).length, c5, by rw [upI_len, hlen]; rfl, hok, h1, ?_⟩
    rw [hlen]
    exact hP.up
end
end Go.Proofs.Ytijmkfnmdhpakaa.Am
/- Contract: the matrix that the reference draws. It holds under its own conditions. -/
set_option linter.unusedVariables false
set_option linter.unusedSimpArgs false
set_option maxRecDepth 20000
set_option maxHeartbeats 4000000
namespace Go.Proofs.Ytijmkfnmdhpakaa.Am
open Go Go.RowKit Go.Proofs Go.Proofs.Ytijmkfnmdhpakaa.Pl
structure FlS where
  i : Nat
  S : Ids
  A : AH
  at_ : Nat
  V : Ids
  G : List (List Int)
  cs : List Value
  l : Value
  tail : List Var
structure FlI (p : Int) (k a0 : Nat) (H : AH) (id : Nat) (ac : Option Addr) (n cc : Nat) (s : FlS) : Prop where
  env : DwE H id s.S s.A
  src : Src ac n cc s.A id s.at_
  at1 : s.at_ ≤ a0 + 20 * s.i
  len : s.G.length = s.i
  b : RowsB KI.ml s.S s.A s.V s.G s.cs
  v : ∀ i, s.V i → H.n ≤ i
  ok : Rect p k s.G
  form : (s.i = 0 ∧ s.l = .slice none 0 0 ∧ s.tail = [] ∧ s.cs = []) ∨ (0 < s.i ∧ ∃ o, s.l = .slice (some ⟨o, 0, some 1⟩) s.i s.i ∧ s.tail = [(o, ⟨28, true, s.cs⟩)])
structure FiI (p : Int) (a0 : Nat) (H : AH) (id : Nat) (ac : Option Addr) (n cc : Nat) (V : Ids) (G : List (List Int)) (cs : List Value) (s : DiS) : Prop where
  env : DwE H id s.S s.A
  src : Src ac n cc s.A id s.at_
  at1 : s.at_ ≤ a0 + 2 * s.h
  b : RowsB KI.ml s.S s.A V G cs
  ok : ∀ x ∈ s.xs, 0 ≤ x ∧ x < p
  len : s.xs.length = s.h
section
variable {S : Ids} {H0 : AH}
theorem l03Filled {bs : List Int} (hb : ∀ x ∈ bs, 0 ≤ x ∧ x < 256) (hl : bs.length ≤ 1048576) {ac : Option Addr} {cc id at_ : Nat} {Y : Ids} {p : Int} (hp : 2 ≤ p ∧ p ≤ 31) {rs k : Nat} (hrs : rs ≤ 6) (hk : k ≤ 6) (hat : at_ ≤ 700000) (hS : S id) (hY : ∀ i, Y i → S i ∧ i ≠ id) (hsrc : Src ac bs.length cc H0 id at_) (hs : KB.Sl Y H0 (.slice ac bs.length cc) bs) :
    SpecW Try.prog S H0 (fun i => i = id) 222 [.pointer (some ⟨id, 0, none⟩), .int .i64 p, .int .i64 rs, .int .i64 k] (fun n v H1 => ∃ (L : List (List Int)) (at' : Nat), L.length = rs ∧ Rect p k L ∧ at' ≤ at_ + 200 ∧ MkMo p k L n v H1 ∧ Src ac bs.length cc H1 id at') := by
  refine SpecW.of0 Try.func222 rfl (by kernel_rfl) rfl (fun H hfin hfz => ?_)
  have fx : ∀ i, S i → Low H.n i ∧ H.m i = H0.m i := fun i hi => hfz i hi
  have hid : id < H.n := (fx id hS).1
  have hsH := hs.stX (S' := fun i => Low H.n i ∧ i ≠ id) (H' := H) (fun i hi => ⟨⟨(fx i (hY i hi).1).1, (hY i hi).2⟩, (fx i (hY i hi).1).2⟩)
  have E0 : DwE H id (Low H.n) H := ⟨hid, fun i hi => ⟨hi.1, rfl⟩⟩
  refine KW.build rfl rfl rfl rfl rfl (built_Matrix2 _ _) ?_
  refine KW.lpM rfl rfl (fun s : FlS => [(0, .pointer (some ⟨id, 0, none⟩)), (1, .int .i64 p), (2, .int .i64 rs), (3, .int .i64 k), (8, .pointer (some ⟨H.n, 0, some 0⟩)), (9, .pointer (some ⟨H.n + 1, 0, some 1⟩)), (10, .int .i64 s.i)]) (fun s => s.S) (fun s => s.A) (fun s => [(H.n, ⟨67, true, [.int .i64 0, .int .i64 0, .slice none 0 0]⟩), (H.n + 1, ⟨67, true, [.int .i64 p, .int .i64 k, s.l]⟩)] ++ s.tail) (fun s => s.i ≤ rs ∧ FlI p k at_ H id ac bs.length cc s) (fun s => rs - s.i) (⟨0, Low H.n, H, at_, fun _ => False, [], [], .slice none 0 0, []⟩) (⟨Nat.zero_le _, E0, hsrc.mv (fx id hS).2, Nat.le_refl _, rfl, RowsB.nil _ _, fun _ h => h.elim, fun r hr => by simp at hr, .inl ⟨rfl, rfl, rfl, rfl⟩⟩) ⟨rfl, rfl, rfl, rfl, rfl, rfl, rfl, trivial⟩ rfl rfl (rfl) (fun s hi bE n => ?_)
  obtain ⟨i, S1, A1, a1, V, G, cs, l, tail⟩ := s
  obtain ⟨hil, E1, src1, at1, lenG, b1, v1, okG, hform⟩ := hi
  simp only at hil E1 src1 at1 lenG b1 v1 okG hform
  have hcl := b1.len
  have vne : ∀ i, V i → i ≠ id := fun i hi e => by have := v1 i hi; omega
  rcases hform with ⟨hi0, e1, e2, e3⟩ | ⟨hi0, o, e1, e2⟩
  case inl =>
    subst e1 e2 e3
    refine KW.cnd rfl rfl (fun k1 => ?gin) (fun k1 => ?gout)
    case gin =>
      have k1 : (i : Int) < (rs : Int) := k1
      refine KW.ids (fun hlow hvar => ?_)
      have hnn := E1.nle hlow
      refine KW.lit rfl rfl rfl rfl rfl rfl rfl rfl rfl rfl [] rfl rfl (fun v hv => by simp at hv) rfl ?_
      refine KW.lpM rfl rfl (fun s : DiS => [(0, .pointer (some ⟨id, 0, none⟩)), (1, .int .i64 p), (2, .int .i64 rs), (3, .int .i64 k), (8, .pointer (some ⟨H.n, 0, some 0⟩)), (9, .pointer (some ⟨H.n + 1, 0, some 1⟩)), (10, .int .i64 i), (11, .slice (some ⟨s.o, 0, some 1⟩) s.xs.length s.xs.length), (12, .int .i64 s.h)]) (fun s => s.S) (fun s => s.A) (fun s => [(H.n, ⟨67, true, [.int .i64 0, .int .i64 0, .slice none 0 0]⟩), (H.n + 1, ⟨67, true, [.int .i64 p, .int .i64 k, .slice none 0 0]⟩)] ++ [(s.o, (⟨2, true, s.xs.map (Value.int .i64)⟩ : Blk))]) (fun s => s.h ≤ k ∧ FiI p a1 H id ac bs.length cc V G [] s) (fun s => k - s.h) ⟨0, S1, A1, a1, [], _⟩ ⟨Nat.zero_le _, E1, src1, Nat.le_refl _, b1, fun x hx => by simp at hx, rfl⟩ ⟨rfl, rfl, rfl, rfl, rfl, rfl, rfl, rfl, rfl, trivial⟩ rfl rfl rfl (fun s hi bE n => ?_)
      obtain ⟨h, S4, A4, a4, xs, o4⟩ := s
      obtain ⟨hq4, E4, src4, at4, b4, ok4, len4⟩ := hi
      simp only at hq4 E4 src4 at4 b4 ok4 len4
      refine KW.cnd rfl rfl (fun k2 => ?hin) (fun k2 => ?hout)
      case hin =>
        have k2 : (h : Int) < (k : Int) := k2
        refine KW.callW (W := fun i => i = id) (fun i hi => by subst hi; exact E4.sid) rfl rfl rfl rfl rfl (srcPick (S := S4) (H0 := A4) hb hl (n := p) (by omega) (by omega) E4.sid (fun i hi => hi) src4 (E4.kb hsH)) (fun v H5 S5 hn5 st5 hw5 hp => ?_)
        obtain ⟨z5, a5, hz5, l5, u5, rfl, src5⟩ := hp
        have hz5 := hz5 (by omega)
        have b5 := b4.mv (S' := S5) (A' := H5) (fun i hi => ⟨(st5 i (b4.sub i hi)).1, (st5 i (b4.sub i hi)).2 (vne i hi)⟩)
        refine KW.app1 (xs := xs.map (Value.int .i64)) (v := .int .i64 z5) 2 3 rfl rfl rfl rfl rfl rfl rfl rfl rfl rfl rfl rfl rfl rfl rfl rfl rfl rfl rfl rfl rfl rfl rfl (by simp) (by show (xs.length + 1) * 8 ≤ _; omega) (by show xs.length + 1 ≤ _; omega) ?_
        exact KW.nxt rfl rfl (fun H' g => ⟨⟨h + 1, S5, H5, a5, xs ++ [(z5 : Int)], _⟩, ⟨by simp only; omega, E4.w st5, src5, by simp only; omega, b5, fun x hx => (List.mem_append.1 hx).elim (ok4 x) (fun hx => by rw [List.mem_singleton.1 hx]; omega), by simp only [List.length_append, List.length_singleton]; omega⟩, by simp only; omega, ⟨rfl, rfl, rfl, rfl, rfl, rfl, rfl, by simp only [List.length_append, List.length_singleton]; rfl, congrArg (Value.int .i64) (inc64 (by omega)), trivial⟩, g.eqT (by simp only [List.map_append]; rfl)⟩)
      case hout =>
        have k2 : ¬ (h : Int) < (k : Int) := k2
        have ehk : h = k := by omega
        refine KW.freeze 2 rfl (fun A6 S6 hn6 hS6 st6 hm6 ho6 hnS6 hlow6 => ?_)
        have o6ge : ∀ i, S6 i ∧ ¬ S4 i → H.n ≤ i := fun i hi => by
          rcases Nat.lt_or_ge i H.n with hh | hh
          · by_cases e : i = id
            · exact (hi.2 (e ▸ E4.sid)).elim
            · exact (hi.2 (E4.old i ⟨hh, e⟩).1).elim
          · exact hh
        have fI := (b4.mv (S' := S6) (A' := A6) (fun i hi => st6.st i (b4.sub i hi))).snoc (ml1' (row_ml (xs := xs) hm6)) (fun i hi => (hS6 i).2 (.inr hi)) (fun i p r => hnS6 (r ▸ b4.sub i p))
        have fok : Rect p k (G ++ [xs]) := fun r hr => (List.mem_append.1 hr).elim (okG r) (fun hr => by rw [List.mem_singleton.1 hr]; exact ⟨len4.trans ehk, ok4⟩)
        have fV : ∀ j, V j ∨ j = o4 → H.n ≤ j := fun j hj => hj.elim (v1 j) (fun e => o6ge j ⟨(hS6 j).2 (.inr e), fun hx => hnS6 (e ▸ hx)⟩)
        subst hi0
        refine KW.app0 (v := .slice (some ⟨o4, 0, some 1⟩) xs.length xs.length) 2 rfl rfl rfl rfl rfl rfl rfl rfl rfl rfl rfl rfl rfl rfl rfl rfl rfl rfl rfl rfl rfl rfl (by decide) ?_
        exact KW.nxt rfl rfl (fun H' g => ⟨⟨1, S6, A6, a4, _, G ++ [xs], _, _, _⟩, ⟨by simp only; omega, E4.s st6.st, src4.mv (st6.st id E4.sid).2, by simp only; omega, by simp only [List.length_append, List.length_singleton]; omega, fI, fV, fok, .inr ⟨by simp only; omega, _, rfl, rfl⟩⟩, by simp only; omega, ⟨rfl, rfl, rfl, rfl, rfl, rfl, rfl, trivial⟩, g⟩)
    case gout =>
      have k1 : ¬ (i : Int) < (rs : Int) := k1
      have er : rs = 0 := by omega
      subst er
      refine KW.ids (fun hlow hvar => ?_)
      have hnn := E1.nle hlow
      refine KW.tno rfl rfl (by omega) ?_
      refine KW.cF rfl rfl (by first | (simp; done) | decide) ?_
      refine KW.retW rfl rfl rfl rfl (fun H9 g => by have := g.n_; omega) (fun i hi hw => E1.old i ⟨hi, hw⟩) (fun H9 g => ⟨[], a1, rfl, fun r hr => by simp at hr, by omega, ⟨none, 0, rfl, .inl ⟨rfl, _, _, rfl, fun _ => rfl⟩⟩, src1.mv (g.froz id E1.sid).2⟩)
  case inr =>
    subst e1 e2
    refine KW.cnd rfl rfl (fun k1 => ?gin) (fun k1 => ?gout)
    case gin =>
      have k1 : (i : Int) < (rs : Int) := k1
      refine KW.ids (fun hlow hvar => ?_)
      have hnn := E1.nle hlow
      refine KW.lit rfl rfl rfl rfl rfl rfl rfl rfl rfl rfl [] rfl rfl (fun v hv => by simp at hv) rfl ?_
      refine KW.lpM rfl rfl (fun s : DiS => [(0, .pointer (some ⟨id, 0, none⟩)), (1, .int .i64 p), (2, .int .i64 rs), (3, .int .i64 k), (8, .pointer (some ⟨H.n, 0, some 0⟩)), (9, .pointer (some ⟨H.n + 1, 0, some 1⟩)), (10, .int .i64 i), (11, .slice (some ⟨s.o, 0, some 1⟩) s.xs.length s.xs.length), (12, .int .i64 s.h)]) (fun s => s.S) (fun s => s.A) (fun s => [(H.n, ⟨67, true, [.int .i64 0, .int .i64 0, .slice none 0 0]⟩), (H.n + 1, ⟨67, true, [.int .i64 p, .int .i64 k, .slice (some ⟨o, 0, some 1⟩) i i]⟩), (o, ⟨28, true, cs⟩)] ++ [(s.o, (⟨2, true, s.xs.map (Value.int .i64)⟩ : Blk))]) (fun s => s.h ≤ k ∧ FiI p a1 H id ac bs.length cc V G cs s) (fun s => k - s.h) ⟨0, S1, A1, a1, [], _⟩ ⟨Nat.zero_le _, E1, src1, Nat.le_refl _, b1, fun x hx => by simp at hx, rfl⟩ ⟨rfl, rfl, rfl, rfl, rfl, rfl, rfl, rfl, rfl, trivial⟩ rfl rfl rfl (fun s hi bE n => ?_)
      obtain ⟨h, S4, A4, a4, xs, o4⟩ := s
      obtain ⟨hq4, E4, src4, at4, b4, ok4, len4⟩ := hi
      simp only at hq4 E4 src4 at4 b4 ok4 len4
      refine KW.cnd rfl rfl (fun k2 => ?hin) (fun k2 => ?hout)
      case hin =>
        have k2 : (h : Int) < (k : Int) := k2
        refine KW.callW (W := fun i => i = id) (fun i hi => by subst hi; exact E4.sid) rfl rfl rfl rfl rfl (srcPick (S := S4) (H0 := A4) hb hl (n := p) (by omega) (by omega) E4.sid (fun i hi => hi) src4 (E4.kb hsH)) (fun v H5 S5 hn5 st5 hw5 hp => ?_)
        obtain ⟨z5, a5, hz5, l5, u5, rfl, src5⟩ := hp
        have hz5 := hz5 (by omega)
        have b5 := b4.mv (S' := S5) (A' := H5) (fun i hi => ⟨(st5 i (b4.sub i hi)).1, (st5 i (b4.sub i hi)).2 (vne i hi)⟩)
        refine KW.app1 (xs := xs.map (Value.int .i64)) (v := .int .i64 z5) 3 4 rfl rfl rfl rfl rfl rfl rfl rfl rfl rfl rfl rfl rfl rfl rfl rfl rfl rfl rfl rfl rfl rfl rfl (by simp) (by show (xs.length + 1) * 8 ≤ _; omega) (by show xs.length + 1 ≤ _; omega) ?_
        exact KW.nxt rfl rfl (fun H' g => ⟨⟨h + 1, S5, H5, a5, xs ++ [(z5 : Int)], _⟩, ⟨by simp only; omega, E4.w st5, src5, by simp only; omega, b5, fun x hx => (List.mem_append.1 hx).elim (ok4 x) (fun hx => by rw [List.mem_singleton.1 hx]; omega), by simp only [List.length_append, List.length_singleton]; omega⟩, by simp only; omega, ⟨rfl, rfl, rfl, rfl, rfl, rfl, rfl, by simp only [List.length_append, List.length_singleton]; rfl, congrArg (Value.int .i64) (inc64 (by omega)), trivial⟩, g.eqT (by simp only [List.map_append]; rfl)⟩)
      case hout =>
        have k2 : ¬ (h : Int) < (k : Int) := k2
        have ehk : h = k := by omega
        refine KW.freeze 3 rfl (fun A6 S6 hn6 hS6 st6 hm6 ho6 hnS6 hlow6 => ?_)
        have o6ge : ∀ i, S6 i ∧ ¬ S4 i → H.n ≤ i := fun i hi => by
          rcases Nat.lt_or_ge i H.n with hh | hh
          · by_cases e : i = id
            · exact (hi.2 (e ▸ E4.sid)).elim
            · exact (hi.2 (E4.old i ⟨hh, e⟩).1).elim
          · exact hh
        have fI := (b4.mv (S' := S6) (A' := A6) (fun i hi => st6.st i (b4.sub i hi))).snoc (ml1' (row_ml (xs := xs) hm6)) (fun i hi => (hS6 i).2 (.inr hi)) (fun i p r => hnS6 (r ▸ b4.sub i p))
        have fok : Rect p k (G ++ [xs]) := fun r hr => (List.mem_append.1 hr).elim (okG r) (fun hr => by rw [List.mem_singleton.1 hr]; exact ⟨len4.trans ehk, ok4⟩)
        have fV : ∀ j, V j ∨ j = o4 → H.n ≤ j := fun j hj => hj.elim (v1 j) (fun e => o6ge j ⟨(hS6 j).2 (.inr e), fun hx => hnS6 (e ▸ hx)⟩)
        refine KW.app1 (xs := cs) (v := .slice (some ⟨o4, 0, some 1⟩) xs.length xs.length) 2 3 rfl rfl rfl rfl rfl rfl rfl rfl rfl rfl rfl rfl rfl rfl rfl rfl rfl rfl rfl rfl rfl rfl rfl (by omega) (by show (_ + 1) * 24 ≤ _; omega) (by omega) ?_
        exact KW.nxt rfl rfl (fun H' g => ⟨⟨i + 1, S6, A6, a4, _, G ++ [xs], _, _, _⟩, ⟨by simp only; omega, E4.s st6.st, src4.mv (st6.st id E4.sid).2, by simp only; omega, by simp only [List.length_append, List.length_singleton]; omega, fI, fV, fok, .inr ⟨by simp only; omega, _, rfl, rfl⟩⟩, by simp only; omega, ⟨rfl, rfl, rfl, rfl, rfl, rfl, congrArg (Value.int .i64) (inc64 (by omega)), trivial⟩, g⟩)
    case gout =>
      have k1 : ¬ (i : Int) < (rs : Int) := k1
      have er : i = rs := by omega
      subst er
      refine KW.ids (fun hlow hvar => ?_)
      have hnn := E1.nle hlow
      have oge : H.n ≤ o := by
        have h2 := (hvar 2 o _ rfl).2
        rcases Nat.lt_or_ge o H.n with hh | hh
        · by_cases e : o = id
          · exact (h2 (e ▸ E1.sid)).elim
          · exact (h2 (E1.old o ⟨hh, e⟩).1).elim
        · exact hh
      have fin : ∀ {S9 : Ids} {A9 : AH} {n9 : Nat} {e9 : Env} {G9 : List (List Int)} {a9 : Nat}, True := fun {_ _ _ _ _ _} => trivial
      refine KW.tst rfl rfl (fun k3 => ?_) (fun k3 => ?_)
      · have k3 : (i : Int) > 1 := k3
        have mvb : ∀ {S S' : Ids} {A A' : AH}, RowsB KI.ml S A V G cs → StW (fun i => i = id) S A S' A' → RowsB KI.ml S' A' V G cs := fun b st => b.mv (fun i hi => ⟨(st i (b.sub i hi)).1, (st i (b.sub i hi)).2 (vne i hi)⟩)
        refine KW.callW (W := fun i => i = id) (fun i hi => by subst hi; exact E1.sid) rfl rfl rfl rfl rfl (srcOne (S := S1) (H0 := A1) hb hl (n := 3) (by omega) (by omega) E1.sid (fun i hi => hi) src1 (E1.kb hsH)) (fun v H5 S5 hn5 st5 hw5 hp => ?_)
        obtain ⟨b0, a5, l5, u5, rfl, src5⟩ := hp
        have E5 := E1.w st5
        have b5 := mvb b1 st5
        refine KW.cndB rfl rfl (fun k4 => ?_) (fun k4 => ?_)
        · refine KW.callW (W := fun i => i = id) (fun i hi => by subst hi; exact E5.sid) rfl rfl rfl rfl rfl (srcPick (S := S5) (H0 := H5) hb hl (n := (i : Int)) (by omega) (by omega) E5.sid (fun i hi => hi) src5 (E5.kb hsH)) (fun v H6 S6 hn6 st6 hw6 hp => ?_)
          obtain ⟨z6, a6, hz6, l6, u6, rfl, src6⟩ := hp
          have hz6 := hz6 (by omega)
          have E6 := E5.w st6
          have b6 := mvb b5 st6
          refine KW.callW (W := fun i => i = id) (fun i hi => by subst hi; exact E6.sid) rfl rfl rfl rfl rfl (srcPick (S := S6) (H0 := H6) hb hl (n := (i : Int)) (by omega) (by omega) E6.sid (fun i hi => hi) src6 (E6.kb hsH)) (fun v H7 S7 hn7 st7 hw7 hp => ?_)
          obtain ⟨z7, a7, hz7, l7, u7, rfl, src7⟩ := hp
          have hz7 := hz7 (by omega)
          have E7 := E6.w st7
          have b7 := mvb b6 st7
          obtain ⟨x6, hx6, _⟩ := at_of (L := G) (k := z6) (by omega)
          obtain ⟨x7, hx7, _⟩ := at_of (L := G) (k := z7) (by omega)
          obtain ⟨v6, W, hv6, hm6, hWV, hrest, hclose⟩ := b7.row1 hx6
          have ok6 := okG.at hx6
          have ok7 := okG.at hx7
          rcases hm6 with ⟨hx0, a0, c0, rfl, _⟩ | ⟨o8, c8, bb, Ws, rfl, h2, h3, h4, h5, h6, h7, h8, h9⟩
          · have hk0 : k = 0 := by rw [← ok6.1, hx0]; rfl
            subst hk0
            refine KW.lp rfl rfl (fun _ : Unit => [(3, .int .i64 (0 : Nat)), (8, .pointer (some ⟨H.n, 0, some 0⟩)), (9, .pointer (some ⟨H.n + 1, 0, some 1⟩)), (15, .int .i64 0)]) (fun _ => True) (fun _ => 0) (()) (trivial) ⟨rfl, rfl, rfl, rfl, trivial⟩ (fun _ hi bE n => ?_)
            refine KW.cF rfl rfl (by first | (simp; done) | decide) ?_
            refine KW.ids (fun hlow9 hvar9 => ?_)
            have hnn9 := E7.nle hlow9
            refine KW.retW rfl rfl rfl rfl (fun H9 g => by have := g.n_; omega) (fun i hi hw => (E7).old i ⟨hi, hw⟩) (fun H9 g => ⟨G, a7, lenG, okG, by omega, ⟨some ⟨o, 0, some 1⟩, i, by rw [lenG]; rfl, ?_⟩, (src7).mv (g.froz id (E7).sid).2⟩)
            have hm := (b7).ml (X := New H.n H9.n) rfl g (j := 2) rfl ⟨oge, by have h1 : o < _ := (g.vars 2 _ rfl).2.1; have := g.n_; omega⟩ (fun i hi => ⟨v1 i hi, by have := (g.froz i ((b7).sub i hi)).1; have := g.n_; omega⟩)
            rw [lenG] at hm ⊢
            exact hm
          · have ho8V := hWV o8 h3
            have ho8S := b7.sub o8 ho8V
            have ho8g := v1 o8 ho8V
            obtain ⟨ty8, rw8, cells8⟩ := bb
            obtain rfl : rw8 = true := h5
            have h6 : x6.length * 1 ≤ cells8.length := h6
            have hget : ∀ (q : Nat) y, x6[q]? = some y → cells8[q]? = some (.int .i64 y) := fun q y hq => by
              have h := cell_of (m := 0 + q * 1) (h9 q y hq)
              rw [Nat.zero_add, Nat.mul_one] at h
              exact h
            refine KW.thaw o8 _ ho8S h4 ?_
            have E8 : DwE H id (fun i => S7 i ∧ i ≠ o8) H7 := ⟨⟨E7.sid, fun e => by omega⟩, fun i hi => ⟨⟨(E7.old i hi).1, fun e => by have h1 : i < H.n := hi.1; omega⟩, (E7.old i hi).2⟩⟩
            have row7 : z7 ≠ z6 → ∃ a c, cs[z7]? = some (.slice a x7.length c) ∧ KI.Sl (fun i => S7 i ∧ i ≠ o8) H7 (.slice a x7.length c) x7 := fun hne => by
              obtain ⟨u, X, hu, hmu, hXV⟩ := hrest z7 x7 hne hx7
              obtain ⟨a, c, rfl⟩ := sl_form hmu.sl
              exact ⟨a, c, hu, hmu.sl.stX (fun i hi => ⟨⟨b7.sub i (hXV i hi).1, fun e => (hXV i hi).2 (e ▸ h3)⟩, rfl⟩)⟩
            refine KW.lpM rfl rfl (fun s : Nat × List Int × List Value => [(1, .int .i64 p), (3, .int .i64 k), (8, .pointer (some ⟨H.n, 0, some 0⟩)), (9, .pointer (some ⟨H.n + 1, 0, some 1⟩)), (13, .int .i64 z6), (14, .int .i64 z7), (15, .int .i64 s.1)]) (fun s => fun i => S7 i ∧ i ≠ o8) (fun s => H7) (fun s => [(H.n, ⟨67, true, [.int .i64 0, .int .i64 0, .slice none 0 0]⟩), (H.n + 1, ⟨67, true, [.int .i64 p, .int .i64 k, .slice (some ⟨o, 0, some 1⟩) i i]⟩), (o, ⟨28, true, cs⟩), (o8, ⟨ty8, true, s.2.2⟩)]) (fun s => s.1 ≤ k ∧ s.2.1.length = k ∧ (∀ y ∈ s.2.1, 0 ≤ y ∧ y < p) ∧ s.2.2.length = cells8.length ∧ ∀ (q : Nat) y, s.2.1[q]? = some y → s.2.2[q]? = some (.int .i64 y)) (fun s => k - s.1) ((0, x6, cells8)) (⟨Nat.zero_le _, ok6.1, ok6.2, rfl, hget⟩) ⟨rfl, rfl, rfl, rfl, rfl, rfl, rfl, trivial⟩ rfl rfl (rfl) (fun s hi bE n => ?_)
            obtain ⟨x, ys, cy⟩ := s
            obtain ⟨m1, m2, m3, m4, m5⟩ := hi
            simp only at m1 m2 m3 m4 m5
            refine KW.cnd rfl rfl (fun k5 => ?win) (fun k5 => ?wout)
            case win =>
              have k5 : (x : Int) < (k : Int) := k5
              refine KW.idx0 rfl rfl rfl rfl rfl rfl rfl rfl rfl (Int.natCast_nonneg _) (hz6) ?_
              refine KW.ldT 2 rfl rfl rfl rfl rfl rfl (bload_at (by show cs[0 + ((z6 : Int)).toNat * 1]? = _; rw [Int.toNat_natCast, Nat.zero_add, Nat.mul_one]; exact hv6) rfl rfl) ?_
              refine KW.idx0 rfl rfl rfl rfl rfl rfl rfl rfl rfl (Int.natCast_nonneg _) (hz7) ?_
              by_cases hz : z7 = z6
              · subst hz
                refine KW.ldT 2 rfl rfl rfl rfl rfl rfl (bload_at (by show cs[0 + ((z7 : Int)).toNat * 1]? = _; rw [Int.toNat_natCast, Nat.zero_add, Nat.mul_one]; exact hv6) rfl rfl) ?_
                refine KW.idx0 rfl rfl rfl rfl rfl rfl rfl rfl rfl (Int.natCast_nonneg _) (by rw [ok6.1]; exact k5) ?_
                obtain ⟨yv, hyv⟩ : ∃ yv, ys[x]? = some yv := ⟨ys[x]'(by omega), List.getElem?_eq_getElem (by omega)⟩
                have hyb := m3 yv (List.mem_of_getElem? hyv)
                refine KW.ldT 3 rfl rfl rfl rfl rfl rfl (bload_at (by show cy[0 + ((x : Int)).toNat * 1]? = _; rw [Int.toNat_natCast, Nat.zero_add, Nat.mul_one]; exact m5 x yv hyv) rfl rfl) ?_
                have ew : IntKind.i64.wrap (yv * 2) = yv * 2 := wr (by omega) (by omega)
                refine KW.rem rfl rfl rfl rfl rfl rfl (by rw [ew]; omega) (by omega) ?_
                refine KW.idx0 rfl rfl rfl rfl rfl rfl rfl rfl rfl (Int.natCast_nonneg _) (by rw [ok6.1]; exact k5) ?_
                refine KW.st1 3 rfl rfl rfl rfl rfl rfl rfl rfl rfl rfl rfl rfl (by show 0 + ((x : Int)).toNat * 1 < cy.length; rw [Int.toNat_natCast]; omega) ?_
                have hb1 : 0 ≤ IntKind.i64.wrap (yv * 2) % p ∧ IntKind.i64.wrap (yv * 2) % p < p := ⟨Int.emod_nonneg _ (by omega), Int.emod_lt_of_pos _ (by omega)⟩
                exact KW.nxt rfl rfl (fun H' g => ⟨(x + 1, ys.set x (IntKind.i64.wrap (yv * 2) % p), cy.set x (.int .i64 (IntKind.i64.wrap (yv * 2) % p))), ⟨by simp only; omega, by simp only [List.length_set]; exact m2, fun y hy => (List.mem_or_eq_of_mem_set hy).elim (m3 y) (fun e => by rw [e]; exact hb1), by simp only [List.length_set]; exact m4, fun q y hq => by
                  simp only [List.getElem?_set] at hq ⊢
                  split at hq
                  · rename_i e
                    subst e
                    rw [if_pos (by omega)] at hq
                    cases hq
                    rw [if_pos rfl, if_pos (by omega)]
                  · rename_i e
                    rw [if_neg e]
                    exact m5 q y hq⟩, by simp only; omega, ⟨rfl, rfl, rfl, rfl, rfl, rfl, congrArg (Value.int .i64) (inc64 (by omega)), trivial⟩, g.eqT (by
                  show [(H.n, (⟨67, true, [.int .i64 0, .int .i64 0, .slice none 0 0]⟩ : Blk)), (H.n + 1, ⟨67, true, [.int .i64 p, .int .i64 k, .slice (some ⟨o, 0, some 1⟩) i i]⟩), (o, ⟨28, true, cs⟩), (o8, ⟨ty8, true, cy.set (0 + ((x : Int)).toNat * 1) _⟩)] = _
                  rw [Int.toNat_natCast, Nat.zero_add, Nat.mul_one]
                  rfl)⟩)
              · obtain ⟨ay, cy7, hcy, hsy⟩ := row7 hz
                refine KW.ldT 2 rfl rfl rfl rfl rfl rfl (bload_at (by show cs[0 + ((z7 : Int)).toNat * 1]? = _; rw [Int.toNat_natCast, Nat.zero_add, Nat.mul_one]; exact hcy) rfl rfl) ?_
                refine KW.getI hsy rfl rfl rfl rfl rfl rfl rfl rfl rfl rfl rfl rfl rfl rfl rfl rfl (by omega) (by rw [ok7.1]; exact k5) (fun yv hyv => ?_)
                have hyb := ok7.2 yv (List.mem_of_getElem? hyv)
                have ew : IntKind.i64.wrap (yv * 2) = yv * 2 := wr (by omega) (by omega)
                refine KW.rem rfl rfl rfl rfl rfl rfl (by rw [ew]; omega) (by omega) ?_
                refine KW.idx0 rfl rfl rfl rfl rfl rfl rfl rfl rfl (Int.natCast_nonneg _) (by rw [ok6.1]; exact k5) ?_
                refine KW.st1 3 rfl rfl rfl rfl rfl rfl rfl rfl rfl rfl rfl rfl (by show 0 + ((x : Int)).toNat * 1 < cy.length; rw [Int.toNat_natCast]; omega) ?_
                have hb1 : 0 ≤ IntKind.i64.wrap (yv * 2) % p ∧ IntKind.i64.wrap (yv * 2) % p < p := ⟨Int.emod_nonneg _ (by omega), Int.emod_lt_of_pos _ (by omega)⟩
                exact KW.nxt rfl rfl (fun H' g => ⟨(x + 1, ys.set x (IntKind.i64.wrap (yv * 2) % p), cy.set x (.int .i64 (IntKind.i64.wrap (yv * 2) % p))), ⟨by simp only; omega, by simp only [List.length_set]; exact m2, fun y hy => (List.mem_or_eq_of_mem_set hy).elim (m3 y) (fun e => by rw [e]; exact hb1), by simp only [List.length_set]; exact m4, fun q y hq => by
                  simp only [List.getElem?_set] at hq ⊢
                  split at hq
                  · rename_i e
                    subst e
                    rw [if_pos (by omega)] at hq
                    cases hq
                    rw [if_pos rfl, if_pos (by omega)]
                  · rename_i e
                    rw [if_neg e]
                    exact m5 q y hq⟩, by simp only; omega, ⟨rfl, rfl, rfl, rfl, rfl, rfl, congrArg (Value.int .i64) (inc64 (by omega)), trivial⟩, g.eqT (by
                  show [(H.n, (⟨67, true, [.int .i64 0, .int .i64 0, .slice none 0 0]⟩ : Blk)), (H.n + 1, ⟨67, true, [.int .i64 p, .int .i64 k, .slice (some ⟨o, 0, some 1⟩) i i]⟩), (o, ⟨28, true, cs⟩), (o8, ⟨ty8, true, cy.set (0 + ((x : Int)).toNat * 1) _⟩)] = _
                  rw [Int.toNat_natCast, Nat.zero_add, Nat.mul_one]
                  rfl)⟩)
            case wout =>
              have k5 : ¬ (x : Int) < (k : Int) := k5
              refine KW.freeze 3 rfl (fun A9 S9 hn9 hS9 st9 hm9 ho9 hnS9 hlow9 => ?_)
              have E9 := E8.s st9.st
              have src9 := src7.mv (st9.st id E8.sid).2
              have b9 : RowsB KI.ml S9 A9 V (G.set z6 ys) cs := hclose S9 A9 ys (fun j hj => by
                by_cases e : j = o8
                · exact ⟨(hS9 j).2 (.inr e), fun hw => (hw (e ▸ h3)).elim⟩
                · exact ⟨(st9.st j ⟨hj, e⟩).1, fun _ => (st9.st j ⟨hj, e⟩).2⟩) (by
                rw [ok6.1, ← m2]
                exact mlI_of h3 hm9 rfl (by rw [m2, ← ok6.1]; exact h2) (by simp only; omega) m5)
              have ok9 : Rect p k (G.set z6 ys) := okG.set ⟨m2, m3⟩
              have len9 : (G.set z6 ys).length = i := by rw [List.length_set]; exact lenG
              refine KW.ids (fun hlow8 hvar8 => ?_)
              have hnn8 := E9.nle hlow8
              refine KW.retW rfl rfl rfl rfl (fun H9 g => by have := g.n_; omega) (fun i hi hw => (E9).old i ⟨hi, hw⟩) (fun H9 g => ⟨(G.set z6 ys), a7, len9, ok9, by omega, ⟨some ⟨o, 0, some 1⟩, i, by rw [len9]; rfl, ?_⟩, (src9).mv (g.froz id (E9).sid).2⟩)
              have hm := (b9).ml (X := New H.n H9.n) rfl g (j := 2) rfl ⟨oge, by have h1 : o < _ := (g.vars 2 _ rfl).2.1; have := g.n_; omega⟩ (fun i hi => ⟨v1 i hi, by have := (g.froz i ((b9).sub i hi)).1; have := g.n_; omega⟩)
              rw [len9] at hm ⊢
              exact hm
        · refine KW.retW rfl rfl rfl rfl (fun H9 g => by have := g.n_; omega) (fun i hi hw => (E5).old i ⟨hi, hw⟩) (fun H9 g => ⟨G, a5, lenG, okG, by omega, ⟨some ⟨o, 0, some 1⟩, i, by rw [lenG]; rfl, ?_⟩, (src5).mv (g.froz id (E5).sid).2⟩)
          have hm := (b5).ml (X := New H.n H9.n) rfl g (j := 2) rfl ⟨oge, by have h1 : o < _ := (g.vars 2 _ rfl).2.1; have := g.n_; omega⟩ (fun i hi => ⟨v1 i hi, by have := (g.froz i ((b5).sub i hi)).1; have := g.n_; omega⟩)
          rw [lenG] at hm ⊢
          exact hm
      · refine KW.cF rfl rfl (by first | (simp; done) | decide) ?_
        refine KW.retW rfl rfl rfl rfl (fun H9 g => by have := g.n_; omega) (fun i hi hw => E1.old i ⟨hi, hw⟩) (fun H9 g => ⟨G, a1, lenG, okG, by omega, ⟨some ⟨o, 0, some 1⟩, i, by rw [lenG]; rfl, ?_⟩, src1.mv (g.froz id E1.sid).2⟩)
        have hm := b1.ml (X := New H.n H9.n) rfl g (j := 2) rfl ⟨oge, by have h1 : o < _ := (g.vars 2 _ rfl).2.1; have := g.n_; omega⟩ (fun i hi => ⟨v1 i hi, by have := (g.froz i (b1.sub i hi)).1; have := g.n_; omega⟩)
        rw [lenG] at hm ⊢
        exact hm
end
end Go.Proofs.Ytijmkfnmdhpakaa.Am
/- Contract: the scheme that the reference draws. It holds under its own conditions. -/
set_option linter.unusedVariables false
set_option linter.unusedSimpArgs false
set_option maxRecDepth 20000
set_option maxHeartbeats 4000000
namespace Go.Proofs.Ytijmkfnmdhpakaa.Am
open Go Go.RowKit Go.Proofs Go.Proofs.Ytijmkfnmdhpakaa.Pl
theorem GwE.nle {H : AH} {W S : Ids} {A : AH} {n : Nat} (e : GwE H W S A) (h : ∀ i, S i → i < n) : H.n ≤ n := by
  rcases Nat.lt_or_ge n H.n with h1 | h1
  · by_cases hw : W n
    · have := h n (e.wid n hw); omega
    · have := h n (e.old n h1 hw).1; omega
  · exact h1
section
variable {S : Ids} {H0 : AH} {bs : List Int} {ac : Option Addr} {cc id B : Nat} {Y : Ids}
theorem amongB {ls : List Int} {a c} (h : SrcB bs ac cc id Y S H0 B) (hB : B ≤ 790000) (hn : ls.length ≤ 1000) (hn1 : 1 ≤ ls.length) (hls : KI.Sl (fun i => S i ∧ i ≠ id) H0 (.slice a ls.length c) ls) : SpecW Try.prog S H0 (fun i => i = id) 221 [.pointer (some ⟨id, 0, none⟩), .slice a ls.length c] (fun _ v H1 => ∃ y : Int, y ∈ ls ∧ v = .int .i64 y ∧ ∃ at_, at_ ≤ B + 2 ∧ Src ac bs.length cc H1 id at_) := fun H hf hz => by
  obtain ⟨q, h1, h2⟩ := h.src
  obtain ⟨m, v, H1, k1, k2, k3, k4, y, at', k5, k6, k7, k8, k9⟩ := srcAmong h.hb h.hl hn hn1 (show q ≤ 800000 by omega) h.sid (fun i hi => hi) h2 (h.kb.more (fun i hi => h.y i hi)) hls H hf hz
  exact ⟨m, v, H1, k1, k2, k3, k4, y, k5, k8, at', by omega, k9⟩
theorem filledB {p : Int} (hp : 2 ≤ p ∧ p ≤ 31) {rs k : Nat} (hrs : rs ≤ 6) (hk : k ≤ 6) (h : SrcB bs ac cc id Y S H0 B) (hB : B ≤ 690000) : SpecW Try.prog S H0 (fun i => i = id) 222 [.pointer (some ⟨id, 0, none⟩), .int .i64 p, .int .i64 rs, .int .i64 k] (fun n v H1 => ∃ L : List (List Int), L.length = rs ∧ Rect p k L ∧ MkMo p k L n v H1 ∧ ∃ at_, at_ ≤ B + 200 ∧ Src ac bs.length cc H1 id at_) := fun H hf hz => by
  obtain ⟨q, h1, h2⟩ := h.src
  obtain ⟨m, v, H1, k1, k2, k3, k4, L, at', k5, k6, k7, k8, k9⟩ := l03Filled h.hb h.hl hp hrs hk (show q ≤ 700000 by omega) h.sid (fun i hi => hi) h2 (h.kb.more (fun i hi => h.y i hi)) H hf hz
  exact ⟨m, v, H1, k1, k2, k3, k4, L, k5, k6, k8, at', by omega, k9⟩
/-- A literal, frozen, is apart from the source. -/
theorem litSl {A : AH} {S S' : Ids} {o : Nat} {ls : List Int} {ty : TypeId} (hm : A.m o = some ⟨ty, true, ls.map (Value.int .i64)⟩) (hS : ∀ i, S' i ↔ S i ∨ i = o) (hno : ¬ S o) (hid : S id) : KI.Sl (fun i => S' i ∧ i ≠ id) A (.slice (some ⟨o, 0, some 1⟩) ls.length ls.length) ls :=
  (row_ml hm).sl.stX (fun i hi => by
    have hi : i = o := hi
    exact ⟨⟨(hS i).2 (.inr hi), fun e => hno (by rw [← hi, e]; exact hid)⟩, rfl⟩)
theorem l04Gated (hsrc : SrcB bs ac cc id Y S H0 B) (hB : B ≤ 600000) :
    SpecW Try.prog S H0 (fun i => i = id) 218 [.pointer (some ⟨id, 0, none⟩)] (fun m v H1 => ∃ (p N : Int) (g : Gt) (cs : List Value), v = .tuple #[.int .i64 p, .int .i64 N, .agg cs.toArray] ∧ p ∈ [5, 5, 7, 3, 2, 11] ∧ (1 ≤ N ∧ N ≤ 4) ∧ RG 4 (New m H1.n) H1 g cs ∧ GF N 4 g ∧ ∃ at_, at_ ≤ B + 2010 ∧ Src ac bs.length cc H1 id at_) := by
  refine SpecW.of0 Try.func218 rfl (by kernel_rfl) rfl (fun H hfin hfz => ?_)
  have SB0 : SrcB bs ac cc id Y (Low H.n) H B := hsrc.s (fun i hi => hfz i hi) (Nat.le_refl _)
  have E0 : GwE H (fun i => i = id) (Low H.n) H := ⟨fun i hi => by rw [hi]; exact SB0.sid, fun i h _ => ⟨h, rfl⟩⟩
  refine KW.lit rfl rfl rfl rfl rfl rfl rfl rfl rfl rfl (([5, 5, 7, 3, 2, 11] : List Int).map (Value.int .i64)) rfl rfl (fun v hv => by obtain ⟨x, _, rfl⟩ := List.mem_map.1 hv; rfl) rfl ?_
  refine KW.freeze 1 rfl (fun A1 S1 hn1 hS1 st1 hm1 ho1 hno1 hlow1 => ?_)
  have SB1 := SB0.s (B' := B) st1.st (Nat.le_refl _)
  have E1 := E0.s st1.st
  refine KW.callW (W := fun i => i = id) (fun i hi => by subst hi; exact SB1.sid) rfl rfl rfl rfl rfl (amongB SB1 (by omega) (ls := [5, 5, 7, 3, 2, 11]) (by decide) (by decide) (litSl hm1 hS1 hno1 SB0.sid)) (fun v H2 S2 n2 st2 w2 hv2 => ?_)
  obtain ⟨p, hp, rfl, src2⟩ := hv2
  have SB2 := SB1.w1 st2 src2
  have E2 := E1.w st2 (fun i hi => .inl hi)
  refine KW.callW (W := fun i => i = id) (fun i hi => by subst hi; exact SB2.sid) rfl rfl rfl rfl rfl (pickB (n := 4) SB2 (by omega) (by omega)) (fun v H3 S3 n3 st3 w3 hv3 => ?_)
  obtain ⟨z3, hz3, rfl, src3⟩ := hv3
  have hz3 := hz3 (by omega)
  have SB3 := SB2.w1 st3 src3
  have E3 := E2.w st3 (fun i hi => .inl hi)
  have e3 : IntKind.i64.wrap (1 + (z3 : Int)) = 1 + z3 := wr (by omega) (by omega)
  refine KW.callW (W := fun i => i = id) (fun i hi => by subst hi; exact SB3.sid) rfl rfl rfl rfl rfl (l02Drawn (N := IntKind.i64.wrap (1 + (z3 : Int))) ⟨by omega, by omega⟩ SB3 (by omega)) (fun v H4 S4 n4 st4 w4 hv4 => ?_)
  obtain ⟨g, cs, rfl, hR, hg, q4, u4, src4⟩ := hv4
  obtain ⟨ag, cg, rfl, _⟩ := hR.form
  have E4 := E3.w st4 (fun i hi => .inl hi)
  refine KW.retW rfl rfl rfl rfl (fun H9 g => by have := (g.vars 0 _ rfl).2.1; have := g.n_; omega) (fun i h1 h2 => E4.old i h1 h2) (fun H9 gg => ?_)
  refine ⟨p, _, g, _, rfl, hp, ⟨by omega, by omega⟩, RG.more 4 (fun i hi => ⟨by have := hi.1; omega, by have := (gg.froz i (w4 i hi)).1; have := gg.n_; omega⟩) (RG.same 4 (fun i hi => (gg.froz i (w4 i hi)).2) hR), hg, q4, by omega, src4.mv (gg.froz id (st4 id SB3.sid).1).2⟩
theorem built_SchemeR (h p c : Int) (a : Option Addr) (n m : Nat) : Try.prog.built 69 [(0, .int .i64 h), (2, .agg #[.int .i64 p, .int .i64 c, .slice a n m])] = some #[.int .i64 h, .slice none 0 0, .int .i64 p, .int .i64 c, .slice a n m] := by kernel_rfl
structure OwS where
  i : Nat
  S : Ids
  A : AH
  xs : List Int
  l : Value
  tail : List Var
structure OwI (bs : List Int) (ac : Option Addr) (cc id : Nat) (Y : Ids) (N : Int) (B z : Nat) (V : Ids) (A4 H : AH) (s : OwS) : Prop where
  le : s.i ≤ z
  src : SrcB bs ac cc id Y s.S s.A (B + 2 * s.i)
  E : GwE H (fun i => i = id) s.S s.A
  v : ∀ j, V j → s.S j ∧ s.A.m j = A4.m j
  xl : s.xs.length = s.i
  xb : ∀ x ∈ s.xs, 0 ≤ x ∧ x ≤ N - 1
  form : (s.i = 0 ∧ s.l = .slice none 0 0 ∧ s.tail = []) ∨ (0 < s.i ∧ ∃ o, s.l = .slice (some ⟨o, 0, some 1⟩) s.i s.i ∧ s.tail = [(o, ⟨2, true, s.xs.map (Value.int .i64)⟩)])
theorem l04Drawn (hsrc : SrcB bs ac cc id Y S H0 B) (hB : B ≤ 500000) :
    SpecW Try.prog S H0 (fun i => i = id) 183 [.pointer (some ⟨id, 0, none⟩)] (fun m v H1 => (∃ cs : List Value, v = .agg cs.toArray ∧ ScP m H1 cs) ∧ ∃ at_, at_ ≤ B + 3000 ∧ Src ac bs.length cc H1 id at_) := by
  refine SpecW.of0L [15] Try.func183 rfl (by kernel_rfl) (by kernel_rfl) rfl (fun H hfin hfz => ?_)
  have SB0 : SrcB bs ac cc id Y (Low H.n) H B := hsrc.s (fun i hi => hfz i hi) (Nat.le_refl _)
  have E0 : GwE H (fun i => i = id) (Low H.n) H := ⟨fun i hi => by rw [hi]; exact SB0.sid, fun i h _ => ⟨h, rfl⟩⟩
  refine KW.callW (W := fun i => i = id) (fun i hi => by subst hi; exact SB0.sid) rfl rfl rfl rfl rfl (oneB (n := 3) SB0 (by omega) (by omega)) (fun v H1 S1 n1 st1 w1 hv1 => ?_)
  obtain ⟨b1, rfl, src1⟩ := hv1
  have SB1 := SB0.w1 st1 src1
  have E1 := E0.w st1 (fun i hi => .inl hi)
  refine KW.cndB rfl rfl (fun k1 => ?gt) (fun k1 => ?ot)
  case' gt =>
    refine KW.callW (W := fun i => i = id) (fun i hi => by subst hi; exact SB1.sid) rfl rfl rfl rfl rfl (l04Gated SB1 (by omega)) (fun v H2 S2 n2 st2 w2 hv2 => ?_)
    obtain ⟨p, N, g, cs, rfl, hp, hN, hR, hg, src2⟩ := hv2
    obtain ⟨ag, cg, rfl, _⟩ := hR.form
    have SB2 := SB1.w1 st2 (B' := B + 2012) (by obtain ⟨q, h1, h2⟩ := src2; exact ⟨q, by omega, h2⟩)
    have E2 := E1.w st2 (fun i hi => .inl hi)
    have hR2 := RG.more 4 (fun i hi => w2 i hi) hR
    have hp31 : 2 ≤ p ∧ p ≤ 31 := by simp at hp; omega
    refine KW.callNV1 rfl rfl rfl rfl rfl (fun H1 g _ => l04Gate (S := Low H1.n) (H0 := H1) (by omega) hp31 hg (On.R (d := KG 4) hR2) (g.has (j := 1) rfl rfl)) (fun v HG SG mG _ _ hv => ?_)
    obtain ⟨h9, p9, c9, a1, a2, m1, d1, m2, d2, code, rfl, hok⟩ := hv
    have tG := (inferInstance : Stp S2 H2 SG HG).st
    have E3 := E2.s tG
    have SB3 := SB2.s (B' := B + 2012) tG (Nat.le_refl _)
    refine KW.cnd rfl rfl (fun k2 => ?gy) (fun k2 => ?gn)
    case gy =>
      have k2 : code = 0 := k2
      obtain ⟨ow, rows, rfl, rfl, hk, rfl, rfl, ho, hs⟩ := hok k2
      refine KW.retW rfl rfl rfl rfl (fun H9 g => by have := (g.vars 0 _ rfl).2.1; have := g.n_; omega) (fun i h1 h2 => E3.old i h1 h2) (fun H9 gg => ?_)
      have hw : ∀ i, New (H2.n + 1) HG.n i → SG i := fun i hi => ((inferInstance : On (New (H2.n + 1) HG.n) HG SG HG).st i hi).1
      have mv : ∀ i, New (H2.n + 1) HG.n i → New H.n H9.n i ∧ H9.m i = HG.m i := fun i hi => ⟨⟨by have := hi.1; omega, by have := (gg.froz i (hw i hi)).1; have := gg.n_; omega⟩, (gg.froz i (hw i hi)).2⟩
      obtain ⟨q3, u3, src3⟩ := SB3.src
      exact ⟨⟨_, rfl, h9, p9, c9, ow, rows, a1, a2, d1, d2, rfl, hk, ho.stX mv, hs.stX mv⟩, q3, by omega, src3.mv (gg.froz id SB3.sid).2⟩
    case' gn =>
      refine KW.take 1 ?_
      have SX := SB3
      have EX := E3
  case' ot =>
    have SX := SB1.s (B' := B + 2012) (fun i hi => ⟨hi, rfl⟩) (by omega)
    have EX := E1
  all_goals
    refine KW.callW (W := fun i => i = id) (fun i hi => by subst hi; exact SX.sid) rfl rfl rfl rfl rfl (oneB (n := 4) SX (by omega) (by omega)) (fun v H4 S4 n4 st4 w4 hv4 => ?_)
    obtain ⟨b4, rfl, src4⟩ := hv4
    have SB4 := SX.w1 st4 src4
    have E4 := EX.w st4 (fun i hi => .inl hi)
    refine KW.cndB rfl rfl (fun k4 => ?cv) (fun k4 => ?fl)
    case cv =>
      refine KW.callW (W := fun i => i = id) (fun i hi => by subst hi; exact SB4.sid) rfl rfl rfl rfl rfl (pickB (n := 4) SB4 (by omega) (by omega)) (fun v H5 S5 n5 st5 w5 hv5 => ?_)
      obtain ⟨z5, hz5, rfl, src5⟩ := hv5
      have hz5 := hz5 (by omega)
      have SB5 := SB4.w1 st5 src5
      have E5 := E4.w st5 (fun i hi => .inl hi)
      have e5 : IntKind.i64.wrap (1 + (z5 : Int)) = ((1 + z5 : Nat) : Int) := by rw [wr (by omega) (by omega)]; omega
      refine KW.lit rfl rfl rfl rfl rfl rfl rfl rfl rfl rfl (([5, 7, 11] : List Int).map (Value.int .i64)) rfl rfl (fun v hv => by obtain ⟨x, _, rfl⟩ := List.mem_map.1 hv; rfl) rfl ?_
      refine KW.freeze 1 rfl (fun A6 S6 hn6 hS6 st6 hm6 ho6 hno6 hlow6 => ?_)
      have SB6 := SB5.s (B' := B + 2012 + 2 + 2) st6.st (Nat.le_refl _)
      have E6 := E5.s st6.st
      refine KW.callW (W := fun i => i = id) (fun i hi => by subst hi; exact SB6.sid) rfl rfl rfl rfl rfl (amongB SB6 (by omega) (ls := [5, 7, 11]) (by decide) (by decide) (litSl hm6 hS6 hno6 SB5.sid)) (fun v H7 S7 n7 st7 w7 hv7 => ?_)
      obtain ⟨p, hp, rfl, src7⟩ := hv7
      have SB7 := SB6.w1 st7 src7
      have E7 := E6.w st7 (fun i hi => .inl hi)
      refine KW.callW (W := fun i => i = id) (fun i hi => by subst hi; exact SB7.sid) rfl rfl rfl rfl rfl (pickB (n := IntKind.i64.wrap (1 + (z5 : Int))) SB7 (by omega) (by omega)) (fun v H8 S8 n8 st8 w8 hv8 => ?_)
      obtain ⟨z8, hz8, rfl, src8⟩ := hv8
      have hz8 := hz8 (by omega)
      have SB8 := SB7.w1 st8 src8
      have E8 := E7.w st8 (fun i hi => .inl hi)
      have e8 : IntKind.i64.wrap (1 + (z8 : Int)) = ((1 + z8 : Nat) : Int) := by rw [wr (by omega) (by omega)]; omega
      have key := curve (S := S8) (H0 := H8) (p := p) (by simp at hp; omega) (q := 1 + z5) (least := 1 + z8) (by omega) (by omega)
      rw [← e5, ← e8] at key
      refine KW.ids (fun hlow8 hvar8 => ?_)
      have hnn8 := E8.nle hlow8
      refine KW.callN1 rfl rfl rfl rfl rfl key (fun v H9 S9 n9 t9 w9 hv9 => ?_)
      obtain ⟨cs, rfl, h9, p9, c9, ow, rows, a1, a2, d1, d2, rfl, hk, ho, hs⟩ := hv9
      have SB9 := SB8.s (B' := B + 2500) t9.st (by omega)
      have E9 := E8.s t9.st
      refine KW.retW rfl rfl rfl rfl (fun H9 g => by have := (g.vars 0 _ rfl).2.1; have := g.n_; omega) (fun i h1 h2 => E9.old i h1 h2) (fun HE gg => ?_)
      have mv : ∀ i, New _ H9.n i → New H.n HE.n i ∧ HE.m i = H9.m i := fun i hi => ⟨⟨by have := hi.1; omega, by have := (gg.froz i (w9.st i hi).1).1; have := gg.n_; omega⟩, (gg.froz i (w9.st i hi).1).2⟩
      obtain ⟨q9, u9, src9⟩ := SB9.src
      exact ⟨⟨_, rfl, h9, p9, c9, ow, rows, a1, a2, d1, d2, rfl, hk, ho.stX mv, hs.stX mv⟩, q9, by omega, src9.mv (gg.froz id SB9.sid).2⟩
    case fl =>
      refine KW.callW (W := fun i => i = id) (fun i hi => by subst hi; exact SB4.sid) rfl rfl rfl rfl rfl (pickB (n := 4) SB4 (by omega) (by omega)) (fun v H5 S5 n5 st5 w5 hv5 => ?_)
      obtain ⟨z5, hz5, rfl, src5⟩ := hv5
      have hz5 := hz5 (by omega)
      have SB5 := SB4.w1 st5 src5
      have E5 := E4.w st5 (fun i hi => .inl hi)
      have e5 : IntKind.i64.wrap (1 + (z5 : Int)) = 1 + (z5 : Int) := wr (by omega) (by omega)
      refine KW.lit rfl rfl rfl rfl rfl rfl rfl rfl rfl rfl (([2, 3, 5] : List Int).map (Value.int .i64)) rfl rfl (fun v hv => by obtain ⟨x, _, rfl⟩ := List.mem_map.1 hv; rfl) rfl ?_
      refine KW.freeze 1 rfl (fun A6 S6 hn6 hS6 st6 hm6 ho6 hno6 hlow6 => ?_)
      have SB6 := SB5.s (B' := B + 2012 + 2 + 2) st6.st (Nat.le_refl _)
      have E6 := E5.s st6.st
      refine KW.callW (W := fun i => i = id) (fun i hi => by subst hi; exact SB6.sid) rfl rfl rfl rfl rfl (amongB SB6 (by omega) (ls := [2, 3, 5]) (by decide) (by decide) (litSl hm6 hS6 hno6 SB5.sid)) (fun v H7 S7 n7 st7 w7 hv7 => ?_)
      obtain ⟨p, hp, rfl, src7⟩ := hv7
      have hp5 : p = 2 ∨ p = 3 ∨ p = 5 ∨ p = 7 ∨ p = 11 := by simp at hp; omega
      have SB7 := SB6.w1 st7 src7
      have E7 := E6.w st7 (fun i hi => .inl hi)
      refine KW.callW (W := fun i => i = id) (fun i hi => by subst hi; exact SB7.sid) rfl rfl rfl rfl rfl (pickB (n := 6) SB7 (by omega) (by omega)) (fun v H8 S8 n8 st8 w8 hv8 => ?_)
      obtain ⟨z8, hz8, rfl, src8⟩ := hv8
      have hz8 := hz8 (by omega)
      have SB8 := SB7.w1 st8 src8
      have E8 := E7.w st8 (fun i hi => .inl hi)
      refine KW.callW (W := fun i => i = id) (fun i hi => by subst hi; exact SB8.sid) rfl rfl rfl rfl rfl (pickB (n := 4) SB8 (by omega) (by omega)) (fun v H9 S9 n9 st9 w9 hv9 => ?_)
      obtain ⟨z9, hz9, rfl, src9⟩ := hv9
      have hz9 := hz9 (by omega)
      have SB9 := SB8.w1 st9 src9
      have E9 := E8.w st9 (fun i hi => .inl hi)
      have e9 : IntKind.i64.wrap (1 + (z9 : Int)) = ((1 + z9 : Nat) : Int) := by rw [wr (by omega) (by omega)]; omega
      refine KW.ids (fun hlow9 hvar9 => ?_)
      have hnn9 := E9.nle hlow9
      have key := filledB (S := S9) (H0 := H9) (p := p) (by omega) (rs := z8) (k := 1 + z9) (by omega) (by omega) SB9 (by omega)
      rw [← e9] at key
      refine KW.callW (W := fun i => i = id) (fun i hi => by subst hi; exact SB9.sid) rfl rfl rfl rfl rfl key (fun v HF SF nF stF wF hvF => ?_)
      obtain ⟨L, hL1, hL2, ⟨b4, d4, rfl, hml⟩, srcF⟩ := hvF
      have SBF := SB9.w1 stF srcF
      have EF := E9.w stF (fun i hi => .inl hi)
      have hsF : KI.sl.Sl (New H9.n HF.n) HF (.slice b4 L.length d4) L := hml.to (KLe.row (KLe.refl KI))
      refine KW.build rfl rfl rfl rfl rfl (built_SchemeR _ _ _ _ _ _) ?_
      refine KW.lpM rfl rfl (fun s : OwS => [(0, .pointer (some ⟨id, 0, none⟩)), (2, .pointer (some ⟨H.n, 0, some 0⟩)), (11, .int .i64 (IntKind.i64.wrap (1 + (z5 : Int)))), (12, .pointer (some ⟨HF.n, 0, some 1⟩)), (13, .int .i64 s.i)]) (fun s => s.S) (fun s => s.A) (fun s => [(H.n, ⟨69, true, [.int .i64 0, .slice none 0 0, .int .i64 0, .int .i64 0, .slice none 0 0]⟩), (HF.n, ⟨69, true, [.int .i64 (IntKind.i64.wrap (1 + (z5 : Int))), s.l, .int .i64 p, .int .i64 (IntKind.i64.wrap (1 + (z9 : Int))), .slice b4 L.length d4]⟩)] ++ s.tail) (fun s => OwI bs ac cc id Y (1 + z5) (B + 2012 + 2 + 2 + 2 + 2 + 2 + 200) L.length (New H9.n HF.n) HF H s) (fun s => L.length - s.i) (⟨0, SF, HF, [], .slice none 0 0, []⟩) (⟨Nat.zero_le _, SBF.s (fun i hi => ⟨hi, rfl⟩) (by simp only; omega), EF, fun j hj => ⟨wF j hj, rfl⟩, rfl, fun x hx => (by cases hx), .inl ⟨rfl, rfl, rfl⟩⟩) ⟨rfl, rfl, rfl, rfl, rfl, trivial⟩ rfl rfl (rfl) (fun s hi bE n => ?_)
      obtain ⟨i, S10, A10, xs, l, tail⟩ := s
      obtain ⟨ile, SB10, E10, v10, xl, xb, hform⟩ := hi
      simp only at ile SB10 E10 v10 xl xb hform
      rcases hform with ⟨hi0, el, et⟩ | ⟨hi0, o, el, et⟩
      case' inl => subst el et
      case' inr => subst el et
      all_goals
        refine KW.cnd rfl rfl (fun k5 => ?gin) (fun k5 => ?gout)
        case gin =>
          have k5 : (i : Int) < (L.length : Int) := k5
          refine KW.callWL (W := fun i => i = id) (fun i hi => by subst hi; exact SB10.sid) rfl rfl rfl rfl rfl ⟨.inl ⟨1, _, _, _, _, rfl, rfl⟩, trivial⟩ (pickB (n := IntKind.i64.wrap (1 + (z5 : Int))) SB10 (by omega) (by omega)) (fun v H11 S11 n11 st11 w11 hv11 => ?_)
          obtain ⟨z11, hz11, rfl, src11⟩ := hv11
          have hz11 := hz11 (by omega)
          have SB11 := SB10.w1 st11 src11
          have E11 := E10.w st11 (fun i hi => .inl hi)
          have hne : ∀ j, New H9.n HF.n j → j ≠ id := fun j hj e => by have := hj.1; have := SB0.sid; have h0 : id < H.n := SB0.sid; omega
          have v11 : ∀ j, New H9.n HF.n j → S11 j ∧ H11.m j = HF.m j := fun j hj => ⟨(st11 j (v10 j hj).1).1, ((st11 j (v10 j hj).1).2 (hne j hj)).trans (v10 j hj).2⟩
          have xb11 : ∀ x ∈ xs ++ [(z11 : Int)], 0 ≤ x ∧ x ≤ 1 + (z5 : Int) - 1 := fun x hx => (List.mem_append.1 hx).elim (xb x) (fun hx => by rw [List.mem_singleton.1 hx]; omega)
          have SB12 := SB11.s (B' := B + 2012 + 2 + 2 + 2 + 2 + 2 + 200 + 2 * (i + 1)) (fun i hi => ⟨hi, rfl⟩) (by omega)
          first
            | (refine KW.app1 (xs := xs.map (Value.int .i64)) (v := .int .i64 z11) 2 3 rfl rfl rfl rfl rfl rfl rfl rfl rfl rfl rfl rfl rfl rfl rfl rfl rfl rfl rfl rfl rfl rfl rfl (by rw [List.length_map]; exact xl) (by show (i + 1) * 8 ≤ _; omega) (by show i + 1 ≤ _; omega) ?_
               exact KW.nxt rfl rfl (fun H' g => ⟨⟨i + 1, S11, H11, xs ++ [(z11 : Int)], .slice (some ⟨H11.n + 1, 0, some 1⟩) (i + 1) (i + 1), [(H11.n + 1, ⟨2, true, (xs ++ [(z11 : Int)]).map (Value.int .i64)⟩)]⟩, ⟨by simp only; omega, SB12, E11, v11, by simp only [List.length_append, List.length_singleton]; omega, xb11, .inr ⟨by simp only; omega, _, rfl, rfl⟩⟩, by simp only; omega, ⟨rfl, rfl, rfl, rfl, congrArg (Value.int .i64) (inc64 (by omega)), trivial⟩, g.eqT (by simp only [List.map_append]; rfl)⟩))
            | (refine KW.app0 (v := .int .i64 z11) 2 rfl rfl rfl rfl rfl rfl rfl rfl rfl rfl rfl rfl rfl rfl rfl rfl rfl rfl rfl rfl rfl rfl (by decide) ?_
               subst hi0
               obtain rfl : xs = [] := List.eq_nil_of_length_eq_zero xl
               exact KW.nxt rfl rfl (fun H' g => ⟨⟨1, S11, H11, [(z11 : Int)], _, _⟩, ⟨by simp only; omega, SB12, E11, v11, rfl, xb11, .inr ⟨by simp only; omega, _, rfl, rfl⟩⟩, by simp only; omega, ⟨rfl, rfl, rfl, rfl, rfl, trivial⟩, g⟩))
        case gout =>
          have k5 : ¬ (i : Int) < (L.length : Int) := k5
          have ei : i = L.length := by omega
          have hpr := prime_small hp5
          have hk : OkSch (IntKind.i64.wrap (1 + (z5 : Int))) xs p (IntKind.i64.wrap (1 + (z9 : Int))) L := ⟨by omega, by omega, ⟨hpr, by omega, by omega, by omega, fun r hr => ⟨by have := (hL2 r hr).1; omega, fun y hy => by have := (hL2 r hr).2 y hy; omega⟩⟩, by omega, by omega, fun y hy => by have := xb y hy; omega⟩
          refine KW.retW rfl rfl rfl rfl (fun H9 g => by have := (g.vars 0 _ rfl).2.1; have := g.n_; omega) (fun i h1 h2 => E10.old i h1 h2) (fun HE gg => ?_)
          have hnE := gg.n_
          have mv : ∀ j, New H9.n HF.n j → New H.n HE.n j ∧ HE.m j = HF.m j := fun j hj => ⟨⟨by have := hj.1; omega, by have := (gg.froz j (v10 j hj).1).1; omega⟩, (gg.froz j (v10 j hj).1).2.trans (v10 j hj).2⟩
          obtain ⟨q9, u9, src9⟩ := SB10.src
          first
            | (have hb := gg.blk (j := 2) rfl
               have hgv := (gg.vars 2 _ rfl).2.2
               have oge : H.n ≤ o := by
                 rcases Nat.lt_or_ge o H.n with h | h
                 · by_cases e : o = id
                   · exact absurd (e ▸ SB10.sid) hgv
                   · exact absurd (E10.old o h e).1 hgv
                 · exact h
               have h1 : KI.Sl (New H.n HE.n) HE (.slice (some ⟨o, 0, some 1⟩) xs.length xs.length) xs := (row_ml hb.1).sl.more (fun j h => by rw [h]; exact ⟨oge, hb.2⟩)
               refine ⟨⟨_, rfl, _, p, _, xs, L, some ⟨o, 0, some 1⟩, b4, xs.length, d4, by rw [xl]; rfl, hk, h1, hsF.stX mv⟩, q9, by omega, src9.mv (gg.froz id SB10.sid).2⟩)
            | (obtain rfl : xs = [] := List.eq_nil_of_length_eq_zero (by omega)
               exact ⟨⟨_, rfl, _, p, _, [], L, none, b4, 0, d4, rfl, hk, .inl ⟨rfl, none, 0, rfl, fun _ => rfl⟩, hsF.stX mv⟩, q9, by omega, src9.mv (gg.froz id SB10.sid).2⟩)
end
end Go.Proofs.Ytijmkfnmdhpakaa.Am
/- Contract: the deal that the reference draws. It holds under its own conditions. -/
set_option linter.unusedVariables false
set_option linter.unusedSimpArgs false
set_option maxRecDepth 20000
set_option maxHeartbeats 4000000
namespace Go.Proofs.Ytijmkfnmdhpakaa.Am
open Go Go.RowKit Go.Proofs Go.Proofs.Ytijmkfnmdhpakaa.Pl
theorem GwE.ge {H : AH} {W S : Ids} {A : AH} {o : Nat} (e : GwE H W S A) (h : ¬ S o) : H.n ≤ o := by
  rcases Nat.lt_or_ge o H.n with h1 | h1
  · by_cases hw : W o
    · exact absurd (e.wid o hw) h
    · exact absurd (e.old o h1 hw).1 h
  · exact h1
theorem Cl.app1 {α : Type} {d : Kn α} {X : Ids} {A : AH} {xs : List α} {cs : List Value} {y : α} {v : Value} (h : Cl d X A xs cs) (he : d.es = 1) (hl : cs.length = xs.length) (hy : d.R X A y [v]) : Cl d X A (xs ++ [y]) (cs ++ [v]) := by
  have h2 := h.snoc hy
  rw [he, Nat.mul_one, List.drop_zero, ← hl, List.take_length] at h2
  exact h2
theorem built_Deal0 (h p c : Int) (a1 : Option Addr) (n1 c1 : Nat) (a2 : Option Addr) (n2 c2 : Nat) : Try.prog.built 71 [(0, .agg #[.int .i64 h, .slice a1 n1 c1, .int .i64 p, .int .i64 c, .slice a2 n2 c2])] = some #[.int .i64 h, .slice a1 n1 c1, .int .i64 p, .int .i64 c, .slice a2 n2 c2, .int .i64 0, .slice none 0 0, .slice none 0 0] := by kernel_rfl
structure DlS where
  m : Nat
  S : Ids
  A : AH
  V : Ids
  bl : List (List Int)
  ks : List (List (List Int))
  bcs : List Value
  kcs : List Value
  l1 : Value
  l2 : Value
structure DlI (bs : List Int) (ac : Option Addr) (cc id : Nat) (Y : Ids) (B : Nat) (p c : Int) (rn : Nat) (VS : Ids) (A1 H : AH) (s : DlS) : Prop where
  le : s.bl.length + s.m ≤ 3
  ge : 1 ≤ s.bl.length + s.m
  src : SrcB bs ac cc id Y s.S s.A (B + s.bl.length * 200)
  E : GwE H (fun i => i = id) s.S s.A
  vs : ∀ j, VS j → s.S j ∧ s.A.m j = A1.m j
  v : ∀ j, s.V j → s.S j ∧ H.n ≤ j
  clb : Cl KI.sl s.V s.A s.bl s.bcs
  bcl : s.bcs.length = s.bl.length
  clk : Cl KI.sl.sl s.V s.A s.ks s.kcs
  kcl : s.kcs.length = s.ks.length
  kl : s.ks.length = s.bl.length
  ok : ∀ (e : Nat) b kk, s.bl[e]? = some b → s.ks[e]? = some kk → ((b.length : Int) = c - 1 ∧ Elems p b) ∧ KeysOk p rn kk
  form : (s.bl.length = 0 ∧ s.l1 = .slice none 0 0 ∧ s.l2 = .slice none 0 0) ∨ (0 < s.bl.length ∧ ∃ o1 o2, s.l1 = .slice (some ⟨o1, 0, some 1⟩) s.bl.length s.bl.length ∧ s.l2 = .slice (some ⟨o2, 0, some 1⟩) s.bl.length s.bl.length ∧ (s.S o1 ∧ H.n ≤ o1 ∧ ¬ s.V o1 ∧ ¬ VS o1 ∧ s.A.m o1 = some ⟨28, true, s.bcs⟩) ∧ (s.S o2 ∧ H.n ≤ o2 ∧ ¬ s.V o2 ∧ ¬ VS o2 ∧ s.A.m o2 = some ⟨22, true, s.kcs⟩) ∧ o1 ≠ o2)
structure BlS where
  h : Nat
  S : Ids
  A : AH
  xs : List Int
  o : Nat
structure BlI (bs : List Int) (ac : Option Addr) (cc id : Nat) (Y : Ids) (B : Nat) (p c : Int) (S3 : Ids) (A3 H : AH) (s : BlS) : Prop where
  h1 : s.xs.length + 1 = s.h
  h2 : (s.h : Int) ≤ c
  src : SrcB bs ac cc id Y s.S s.A (B + 2 * s.xs.length)
  E : GwE H (fun i => i = id) s.S s.A
  keep : StW (fun i => i = id) S3 A3 s.S s.A
  xb : Elems p s.xs
structure KyS where
  i : Nat
  S : Ids
  A : AH
  V : Ids
  kk : List (List Int)
  kc : List Value
  o : Nat
structure KyI (bs : List Int) (ac : Option Addr) (cc id : Nat) (Y : Ids) (B : Nat) (p : Int) (rn : Nat) (S3 : Ids) (A3 H : AH) (s : KyS) : Prop where
  le : s.i ≤ rn
  kl : s.kk.length = s.i
  kc : s.kc.length = s.i
  src : SrcB bs ac cc id Y s.S s.A (B + 6 * s.i)
  E : GwE H (fun i => i = id) s.S s.A
  keep : StW (fun i => i = id) S3 A3 s.S s.A
  v : ∀ j, s.V j → s.S j ∧ H.n ≤ j ∧ ¬ S3 j
  cl : Cl KI.sl s.V s.A s.kk s.kc
  ok : ∀ y ∈ s.kk, y.length = 2 ∧ Elems p y
section
variable {S : Ids} {H0 : AH} {bs : List Int} {ac : Option Addr} {cc id B : Nat} {Y : Ids}
theorem l08Drawn (hsrc : SrcB bs ac cc id Y S H0 B) (hB : B ≤ 400000) :
    SpecW Try.prog S H0 (fun i => i = id) 114 [.pointer (some ⟨id, 0, none⟩)] (fun m v H1 => (∃ (x : T_Deal) (cs : List Value), v = .agg cs.toArray ∧ DealOk x ∧ K_Deal.R (New m H1.n) H1 x cs) ∧ ∃ at_, at_ ≤ B + 4000 ∧ Src ac bs.length cc H1 id at_) := by
  refine SpecW.of0 Try.func114 rfl (by kernel_rfl) rfl (fun H hfin hfz => ?_)
  have SB0 : SrcB bs ac cc id Y (Low H.n) H B := hsrc.s (fun i hi => hfz i hi) (Nat.le_refl _)
  have E0 : GwE H (fun i => i = id) (Low H.n) H := ⟨fun i hi => by rw [hi]; exact SB0.sid, fun i h _ => ⟨h, rfl⟩⟩
  have hidL : id < H.n := SB0.sid
  refine KW.callW (W := fun i => i = id) (fun i hi => by subst hi; exact SB0.sid) rfl rfl rfl rfl rfl (l04Drawn SB0 (by omega)) (fun v H1 S1 n1 st1 w1 hv1 => ?_)
  obtain ⟨⟨cs, rfl, h, p, c, ow, rows, a1, a2, d1, d2, rfl, hk, ho, hs⟩, q1, u1, src1⟩ := hv1
  have SB1 := SB0.w1 (B' := B + 3000) st1 ⟨q1, u1, src1⟩
  have E1 := E0.w st1 (fun i hi => .inl hi)
  have hpr := hk.mat.pr
  have hp2 := hpr.1
  have hp31 := hpr.2.1
  have hc1 := hk.c1
  have hc12 := hk.mat.c1
  have hrl := hk.mat.len
  have hol := hk.len
  refine KW.build rfl rfl rfl rfl rfl (built_Deal0 _ _ _ _ _ _ _ _ _) ?_
  refine KW.callW (W := fun i => i = id) (fun i hi => by subst hi; exact SB1.sid) rfl rfl rfl rfl rfl (pickB (n := p) SB1 (by omega) (by omega)) (fun v H2 S2 n2 st2 w2 hv2 => ?_)
  obtain ⟨z2, hz2, rfl, src2⟩ := hv2
  have hz2 := hz2 (by omega)
  have SB2 := SB1.w1 st2 src2
  have E2 := E1.w st2 (fun i hi => .inl hi)
  refine KW.callW (W := fun i => i = id) (fun i hi => by subst hi; exact SB2.sid) rfl rfl rfl rfl rfl (pickB (n := 3) SB2 (by omega) (by omega)) (fun v H4 S4 n4 st4 w4 hv4 => ?_)
  obtain ⟨z4, hz4, rfl, src4⟩ := hv4
  have hz4 := hz4 (by omega)
  have SB4 := SB2.w1 st4 src4
  have E4 := E2.w st4 (fun i hi => .inl hi)
  have e4 : IntKind.i64.wrap (1 + (z4 : Int)) = ((1 + z4 : Nat) : Int) := by rw [wr (by omega) (by omega)]; omega
  have vs4 : ∀ j, New (H.n + 1) H1.n j → S4 j ∧ H4.m j = H1.m j := fun j hj => by
    have hne : j ≠ id := by have := hj.1; omega
    have h1 := st2 j (w1 j hj)
    have h2 := st4 j h1.1
    exact ⟨h2.1, (h2.2 hne).trans (h1.2 hne)⟩
  refine KW.lpM rfl rfl (fun s : DlS => [(0, .pointer (some ⟨id, 0, none⟩)), (2, .pointer (some ⟨H.n, 0, some 0⟩)), (3, .pointer (some ⟨H1.n, 0, some 1⟩)), (4, .int .i64 p), (5, .int .i64 s.m)]) (fun s => s.S) (fun s => s.A) (fun s => [(H.n, ⟨71, true, [.int .i64 0, .slice none 0 0, .int .i64 0, .int .i64 0, .slice none 0 0, .int .i64 0, .slice none 0 0, .slice none 0 0]⟩), (H1.n, ⟨71, true, [.int .i64 h, .slice a1 ow.length d1, .int .i64 p, .int .i64 c, .slice a2 rows.length d2, .int .i64 z2, s.l1, s.l2]⟩)]) (fun s => DlI bs ac cc id Y (B + 3004) p c rows.length (New (H.n + 1) H1.n) H1 H s) (fun s => s.m) (⟨1 + z4, S4, H4, fun _ => False, [], [], [], [], .slice none 0 0, .slice none 0 0⟩) (⟨by simp only [List.length_nil]; omega, by simp only [List.length_nil]; omega, SB4.s (fun i hi => ⟨hi, rfl⟩) (by simp only [List.length_nil]; omega), E4, vs4, fun _ h => h.elim, Cl.nil _ _ _ _, rfl, Cl.nil _ _ _ _, rfl, rfl, fun e b kk h => (by simp at h), .inl ⟨rfl, rfl, rfl⟩⟩) ⟨rfl, rfl, rfl, rfl, congrArg (Value.int .i64) e4, trivial⟩ rfl rfl (rfl) (fun s hi bE n => ?_)
  obtain ⟨m, S3, A3, V, bl, ks, bcs, kcs, l1, l2⟩ := s
  obtain ⟨ile, ige, SB3, E3, vs3, v3, clb, bcl, clk, kcl, kl, ok3, hform⟩ := hi
  simp only at ile ige SB3 E3 vs3 v3 clb bcl clk kcl kl ok3 hform
  refine KW.cnd rfl rfl (fun k1 => ?_) (fun k1 => ?_)
  · have k1 : (m : Int) > 0 := k1
    refine KW.lit rfl rfl rfl rfl rfl rfl rfl rfl rfl rfl [] rfl rfl (fun v hv => by simp at hv) rfl ?_
    refine KW.lpM rfl rfl (fun s : BlS => [(0, .pointer (some ⟨id, 0, none⟩)), (2, .pointer (some ⟨H.n, 0, some 0⟩)), (3, .pointer (some ⟨H1.n, 0, some 1⟩)), (4, .int .i64 p), (5, .int .i64 m), (6, .slice (some ⟨s.o, 0, some 1⟩) s.xs.length s.xs.length), (7, .int .i64 s.h)]) (fun s => s.S) (fun s => s.A) (fun s => [(H.n, ⟨71, true, [.int .i64 0, .slice none 0 0, .int .i64 0, .int .i64 0, .slice none 0 0, .int .i64 0, .slice none 0 0, .slice none 0 0]⟩), (H1.n, ⟨71, true, [.int .i64 h, .slice a1 ow.length d1, .int .i64 p, .int .i64 c, .slice a2 rows.length d2, .int .i64 z2, l1, l2]⟩), (s.o, ⟨2, true, s.xs.map (Value.int .i64)⟩)]) (fun s => BlI bs ac cc id Y (B + 3004 + bl.length * 200) p c S3 A3 H s) (fun s => c.toNat - s.h) (⟨1, S3, A3, [], _⟩) (⟨rfl, by simp only; omega, SB3.s (fun i hi => ⟨hi, rfl⟩) (by simp only [List.length_nil]; omega), E3, fun j hj => ⟨hj, fun _ => rfl⟩, fun x hx => (by cases hx)⟩) ⟨rfl, rfl, rfl, rfl, rfl, rfl, rfl, trivial⟩ rfl rfl (rfl) (fun s hi bE n => ?_)
    obtain ⟨hh, S5, A5, xs, o5⟩ := s
    obtain ⟨x1, x2, SB5, E5, keep5, xb⟩ := hi
    simp only at x1 x2 SB5 E5 keep5 xb
    refine KW.cnd rfl rfl (fun k2 => ?_) (fun k2 => ?_)
    · have k2 : (hh : Int) < c := k2
      refine KW.callW (W := fun i => i = id) (fun i hi => by subst hi; exact SB5.sid) rfl rfl rfl rfl rfl (pickB (n := p) SB5 (by omega) (by omega)) (fun v H6 S6 n6 st6 w6 hv6 => ?_)
      obtain ⟨z6, hz6, rfl, src6⟩ := hv6
      have hz6 := hz6 (by omega)
      have SB6 := SB5.w1 st6 src6
      have E6 := E5.w st6 (fun i hi => .inl hi)
      have keep6 : StW (fun i => i = id) S3 A3 S6 H6 := fun j hj => ⟨(st6 j (keep5 j hj).1).1, fun hne => ((st6 j (keep5 j hj).1).2 hne).trans ((keep5 j hj).2 hne)⟩
      have xb6 : Elems p (xs ++ [(z6 : Int)]) := fun x hx => (List.mem_append.1 hx).elim (xb x) (fun hx => by rw [List.mem_singleton.1 hx]; omega)
      refine KW.app1 (xs := xs.map (Value.int .i64)) (v := .int .i64 z6) 2 3 rfl rfl rfl rfl rfl rfl rfl rfl rfl rfl rfl rfl rfl rfl rfl rfl rfl rfl rfl rfl rfl rfl rfl (by simp) (by show (xs.length + 1) * 8 ≤ _; omega) (by show xs.length + 1 ≤ _; omega) ?_
      exact KW.nxt rfl rfl (fun H' g => ⟨⟨hh + 1, S6, H6, xs ++ [(z6 : Int)], _⟩, ⟨by simp only [List.length_append, List.length_singleton]; omega, by simp only; omega, SB6.s (fun i hi => ⟨hi, rfl⟩) (by simp only [List.length_append, List.length_singleton]; omega), E6, keep6, xb6⟩, by simp only; omega, ⟨rfl, rfl, rfl, rfl, rfl, by simp only [List.length_append, List.length_singleton]; rfl, congrArg (Value.int .i64) (inc64 (by omega)), trivial⟩, g.eqT (by simp only [List.map_append]; rfl)⟩)
    · have k2 : ¬ (hh : Int) < c := k2
      have hxl : (xs.length : Int) = c - 1 := by omega
      refine KW.lit rfl rfl rfl rfl rfl rfl rfl rfl rfl rfl [] rfl rfl (fun v hv => by simp at hv) rfl ?_
      refine KW.lpM rfl rfl (fun s : KyS => [(0, .pointer (some ⟨id, 0, none⟩)), (2, .pointer (some ⟨H.n, 0, some 0⟩)), (3, .pointer (some ⟨H1.n, 0, some 1⟩)), (4, .int .i64 p), (5, .int .i64 m), (6, .slice (some ⟨o5, 0, some 1⟩) xs.length xs.length), (8, .slice (some ⟨s.o, 0, some 1⟩) s.i s.i), (9, .int .i64 s.i)]) (fun s => s.S) (fun s => s.A) (fun s => [(H.n, ⟨71, true, [.int .i64 0, .slice none 0 0, .int .i64 0, .int .i64 0, .slice none 0 0, .int .i64 0, .slice none 0 0, .slice none 0 0]⟩), (H1.n, ⟨71, true, [.int .i64 h, .slice a1 ow.length d1, .int .i64 p, .int .i64 c, .slice a2 rows.length d2, .int .i64 z2, l1, l2]⟩), (o5, ⟨2, true, xs.map (Value.int .i64)⟩), (s.o, ⟨28, true, s.kc⟩)]) (fun s => KyI bs ac cc id Y (B + 3004 + bl.length * 200 + 2 * xs.length) p rows.length S3 A3 H s) (fun s => rows.length - s.i) (⟨0, S5, A5, fun _ => False, [], [], _⟩) (⟨Nat.zero_le _, rfl, rfl, SB5.s (fun i hi => ⟨hi, rfl⟩) (by simp only; omega), E5, keep5, fun _ h => h.elim, Cl.nil _ _ _ _, fun y hy => (by cases hy)⟩) ⟨rfl, rfl, rfl, rfl, rfl, rfl, rfl, rfl, trivial⟩ rfl rfl (rfl) (fun s hi bE n => ?_)
      obtain ⟨i, S6, A6, V6, kk, kc, o6⟩ := s
      obtain ⟨y1, y2, y3, SB6, E6, keep6, v6, cl6, ok6⟩ := hi
      simp only at y1 y2 y3 SB6 E6 keep6 v6 cl6 ok6
      refine KW.cnd rfl rfl (fun k3 => ?_) (fun k3 => ?_)
      · have k3 : (i : Int) < (ow.length : Int) := k3
        refine KW.callW (W := fun i => i = id) (fun i hi => by subst hi; exact SB6.sid) rfl rfl rfl rfl rfl (pickB (n := IntKind.i64.wrap (p - 1)) SB6 (by omega) (by rw [wr (by omega) (by omega)]; omega)) (fun v H7 S7 n7 st7 w7 hv7 => ?_)
        obtain ⟨z7, hz7, rfl, src7⟩ := hv7
        have ep : IntKind.i64.wrap (p - 1) = p - 1 := wr (by omega) (by omega)
        rw [ep] at hz7
        have hz7 := hz7 (by omega)
        have SB7 := SB6.w1 st7 src7
        have E7 := E6.w st7 (fun i hi => .inl hi)
        have e7 : IntKind.i64.wrap (1 + (z7 : Int)) = 1 + (z7 : Int) := wr (by omega) (by omega)
        refine KW.callW (W := fun i => i = id) (fun i hi => by subst hi; exact SB7.sid) rfl rfl rfl rfl rfl (oneB (n := 12) SB7 (by omega) (by omega)) (fun v H8 S8 n8 st8 w8 hv8 => ?_)
        obtain ⟨b8, rfl, src8⟩ := hv8
        have SB8 := SB7.w1 st8 src8
        have E8 := E7.w st8 (fun i hi => .inl hi)
        refine KW.cndB rfl rfl (fun k4 => ?ty) (fun k4 => ?tn)
        case' ty => have hav : 0 ≤ (0 : Int) ∧ (0 : Int) ≤ p - 1 := by omega
        case' tn => have hav : 0 ≤ IntKind.i64.wrap (1 + (z7 : Int)) ∧ IntKind.i64.wrap (1 + (z7 : Int)) ≤ p - 1 := by omega
        all_goals
          refine KW.callW (W := fun i => i = id) (fun i hi => by subst hi; exact SB8.sid) rfl rfl rfl rfl rfl (pickB (n := p) SB8 (by omega) (by omega)) (fun v H9 S9 n9 st9 w9 hv9 => ?_)
          obtain ⟨z9, hz9, rfl, src9⟩ := hv9
          have hz9 := hz9 (by omega)
          have SB9 := SB8.w1 st9 src9
          have E9 := E8.w st9 (fun i hi => .inl hi)
          have k79 : StW (fun i => i = id) S6 A6 S9 H9 := fun j hj => by
            have h1 := st7 j hj
            have h2 := st8 j h1.1
            have h3 := st9 j h2.1
            exact ⟨h3.1, fun hne => (h3.2 hne).trans ((h2.2 hne).trans (h1.2 hne))⟩
          refine KW.lit rfl rfl rfl rfl rfl rfl rfl rfl rfl rfl [.int .i64 _, .int .i64 z9] rfl rfl (fun v hv => by simp only [List.mem_cons, List.not_mem_nil, or_false] at hv; rcases hv with rfl | rfl <;> rfl) rfl ?_
          refine KW.freeze 4 rfl (fun AA SA hnA hSA stA hmA hoA hnoA hlowA => ?_)
          have SBA := SB9.s (B' := B + 3004 + bl.length * 200 + 2 * xs.length + 6 * (i + 1)) stA.st (by omega)
          have EA := E9.s stA.st
          obtain ⟨yv, hyv, hyl, hye⟩ : ∃ yv : List Int, KI.Sl (fun j => j = _) AA (.slice (some ⟨_, 0, some 1⟩) 2 2) yv ∧ yv.length = 2 ∧ Elems p yv := ⟨_, (row_ml (xs := [_, (z9 : Int)]) hmA).sl, rfl, fun x hx => by
            simp only [List.mem_cons, List.not_mem_nil, or_false] at hx
            rcases hx with rfl | rfl
            · exact hav
            · omega⟩
          have kA : StW (fun i => i = id) S6 A6 SA AA := fun j hj => ⟨(stA.st j (k79 j hj).1).1, fun hne => ((stA.st j (k79 j hj).1).2).trans ((k79 j hj).2 hne)⟩
          have keepA : StW (fun i => i = id) S3 A3 SA AA := fun j hj => ⟨(kA j (keep6 j hj).1).1, fun hne => ((kA j (keep6 j hj).1).2 hne).trans ((keep6 j hj).2 hne)⟩
          have clA := (cl6.mv (X' := fun j => V6 j ∨ j = _) (A' := AA) (fun j hj => (kA j (v6 j hj).1).2 (fun e => by have := (v6 j hj).2.1; omega)) (fun j hj => .inl hj)).app1 rfl (by omega) (sl1' (hyv.more (fun j hj => .inr hj)))
          have vA : ∀ j, (V6 j ∨ j = _) → SA j ∧ H.n ≤ j ∧ ¬ S3 j := fun j hj => by
            rcases hj with hj | hj
            · exact ⟨(kA j (v6 j hj).1).1, (v6 j hj).2⟩
            · rw [hj]
              exact ⟨(hSA _).2 (.inr rfl), E9.ge hnoA, fun h3 => hnoA ((k79 _ (keep6 _ h3).1).1)⟩
          have okA : ∀ y ∈ kk ++ [yv], y.length = 2 ∧ Elems p y := fun y hy => (List.mem_append.1 hy).elim (ok6 y) (fun hy => by rw [List.mem_singleton.1 hy]; exact ⟨hyl, hye⟩)
          refine KW.app1 (xs := kc) (v := .slice (some ⟨_, 0, some 1⟩) 2 2) 3 4 rfl rfl rfl rfl rfl rfl rfl rfl rfl rfl rfl rfl rfl rfl rfl rfl rfl rfl rfl rfl rfl rfl rfl (by omega) (by show (i + 1) * 24 ≤ _; omega) (by show i + 1 ≤ _; omega) ?_
          exact KW.nxt rfl rfl (fun H' g => ⟨⟨i + 1, SA, AA, _, kk ++ [yv], _, _⟩, ⟨by simp only; omega, by simp only [List.length_append, List.length_singleton]; omega, by simp only [List.length_append, List.length_singleton]; omega, SBA, EA, keepA, vA, clA, okA⟩, by simp only; omega, ⟨rfl, rfl, rfl, rfl, rfl, rfl, rfl, congrArg (Value.int .i64) (inc64 (by omega)), trivial⟩, g⟩)
      · have k3 : ¬ (i : Int) < (ow.length : Int) := k3
        have ei : i = rows.length := by omega
        refine KW.freeze 3 rfl (fun A7 S7 hn7 hS7 st7 hm7 ho7 hno7 hlow7 => ?_)
        refine KW.freeze 2 rfl (fun A8 S8 hn8 hS8 st8 hm8 ho8 hno8 hlow8 => ?_)
        have st68 : St S6 A6 S8 A8 := fun j hj => ⟨(st8.st j (st7.st j hj).1).1, ((st8.st j (st7.st j hj).1).2).trans (st7.st j hj).2⟩
        have E8 := E6.s st68
        have SB8 := SB6.s (B' := B + 3004 + (bl.length + 1) * 200) st68 (by omega)
        have keep8 : StW (fun i => i = id) S3 A3 S8 A8 := fun j hj => ⟨(st68 j (keep6 j hj).1).1, fun hne => ((st68 j (keep6 j hj).1).2).trans ((keep6 j hj).2 hne)⟩
        have h67 := st8.st o6 ((hS7 _).2 (.inr rfl))
        have ho6 : ¬ S3 o6 := fun h => hno7 (keep6 o6 h).1
        have ho5 : ¬ S3 o5 := fun h => hno8 ((st7.st o5 (keep6 o5 h).1).1)
        have hg6 : H.n ≤ o6 := E6.ge hno7
        have hg5 : H.n ≤ o5 := (E6.s st7.st).ge hno8
        obtain ⟨V8, eV8⟩ : ∃ V8 : Ids, V8 = fun j => V j ∨ V6 j ∨ j = o5 ∨ j = o6 := ⟨_, rfl⟩
        have v8 : ∀ j, V8 j → S8 j ∧ H.n ≤ j := fun j hj => by
          rw [eV8] at hj
          rcases hj with hj | hj | hj | hj
          · exact ⟨(keep8 j (v3 j hj).1).1, (v3 j hj).2⟩
          · exact ⟨(st68 j (v6 j hj).1).1, (v6 j hj).2.1⟩
          · rw [hj]; exact ⟨(hS8 _).2 (.inr rfl), hg5⟩
          · rw [hj]; exact ⟨h67.1, hg6⟩
        have rb : KI.sl.R V8 A8 xs [.slice (some ⟨o5, 0, some 1⟩) xs.length xs.length] := sl1' ((row_ml hm8).sl.more (fun j hj => by rw [eV8]; exact .inr (.inr (.inl hj))))
        have rk : KI.sl.sl.R V8 A8 kk [.slice (some ⟨o6, 0, some 1⟩) i i] := by
          have h := Cl.sl (cl6.mv (X' := V6) (A' := A8) (fun j hj => (st68 j (v6 j hj).1).2) (fun j hj => hj)) (S := V8) (id := o6) (c := kk.length) (by rw [eV8]; exact .inr (.inr (.inr rfl))) (h67.2.trans hm7) rfl (fun j hj => by rw [eV8]; exact .inr (.inl hj)) (Nat.le_refl _)
          rw [y2] at h
          exact sl1' h
        have hne : ∀ j, V j → j ≠ id := fun j hj e => by have := (v3 j hj).2; omega
        have clb8 := (clb.mv (X' := V8) (A' := A8) (fun j hj => (keep8 j (v3 j hj).1).2 (hne j hj)) (fun j hj => by rw [eV8]; exact .inl hj)).app1 rfl bcl rb
        have clk8 := (clk.mv (X' := V8) (A' := A8) (fun j hj => (keep8 j (v3 j hj).1).2 (hne j hj)) (fun j hj => by rw [eV8]; exact .inl hj)).app1 rfl kcl rk
        have vs8 : ∀ j, New (H.n + 1) H1.n j → S8 j ∧ A8.m j = H1.m j := fun j hj => ⟨(keep8 j (vs3 j hj).1).1, ((keep8 j (vs3 j hj).1).2 (by have := hj.1; omega)).trans (vs3 j hj).2⟩
        have ok8 : ∀ (e : Nat) b k9, (bl ++ [xs])[e]? = some b → (ks ++ [kk])[e]? = some k9 → ((b.length : Int) = c - 1 ∧ Elems p b) ∧ KeysOk p rows.length k9 := fun e b k9 h1 h2 => by
          rcases Nat.lt_or_ge e bl.length with hlt | hge
          · rw [List.getElem?_append_left hlt] at h1
            rw [List.getElem?_append_left (by omega)] at h2
            exact ok3 e b k9 h1 h2
          · have hlt := (List.getElem?_eq_some_iff.1 h1).1
            simp only [List.length_append, List.length_singleton] at hlt
            obtain rfl : e = bl.length := by omega
            rw [List.getElem?_append_right (Nat.le_refl _), Nat.sub_self] at h1
            rw [List.getElem?_append_right (by omega), kl, Nat.sub_self] at h2
            cases h1
            cases h2
            exact ⟨⟨hxl, xb⟩, by omega, ok6⟩
        have em : IntKind.i64.wrap ((m : Int) - 1) = ((m - 1 : Nat) : Int) := by rw [wr (by omega) (by omega)]; omega
        have fin : ∀ (S9 : Ids) (A9 : AH) (o1 o2 : Nat), (∀ j, (V8 j ∨ New (H.n + 1) H1.n j ∨ j = id ∨ Y j ∨ (j < H.n ∧ j ≠ id)) → S9 j ∧ A9.m j = A8.m j) → (S9 o1 ∧ H.n ≤ o1 ∧ ¬ V8 o1 ∧ ¬ New (H.n + 1) H1.n o1 ∧ A9.m o1 = some ⟨28, true, bcs ++ [.slice (some ⟨o5, 0, some 1⟩) xs.length xs.length]⟩) → (S9 o2 ∧ H.n ≤ o2 ∧ ¬ V8 o2 ∧ ¬ New (H.n + 1) H1.n o2 ∧ A9.m o2 = some ⟨22, true, kcs ++ [.slice (some ⟨o6, 0, some 1⟩) i i]⟩) → o1 ≠ o2 →
            DlI bs ac cc id Y (B + 3004) p c rows.length (New (H.n + 1) H1.n) H1 H ⟨m - 1, S9, A9, V8, bl ++ [xs], ks ++ [kk], bcs ++ [.slice (some ⟨o5, 0, some 1⟩) xs.length xs.length], kcs ++ [.slice (some ⟨o6, 0, some 1⟩) i i], .slice (some ⟨o1, 0, some 1⟩) (bl.length + 1) (bl.length + 1), .slice (some ⟨o2, 0, some 1⟩) (bl.length + 1) (bl.length + 1)⟩ := fun S9 A9 o1 o2 h1 h2 h3 h4 => by
          have hl1 : (bl ++ [xs]).length = bl.length + 1 := by simp
          obtain ⟨q8, w8, src8⟩ := SB8.src
          refine ⟨by simp only [hl1]; omega, by simp only [hl1]; omega, ⟨SB8.hb, SB8.hl, (h1 id (.inr (.inr (.inl rfl)))).1, fun j hj => ⟨(h1 j (.inr (.inr (.inr (.inl hj))))).1, (SB8.y j hj).2⟩, ⟨q8, by simp only [hl1]; omega, src8.mv (h1 id (.inr (.inr (.inl rfl)))).2⟩, SB8.kb.stX (fun j hj => ⟨hj, (h1 j (.inr (.inr (.inr (.inl hj))))).2⟩)⟩, ⟨fun j hj => (h1 j (.inr (.inr (.inl hj)))).1, fun j hj hne => ⟨(h1 j (.inr (.inr (.inr (.inr ⟨hj, hne⟩))))).1, (h1 j (.inr (.inr (.inr (.inr ⟨hj, hne⟩))))).2.trans (E8.old j hj hne).2⟩⟩, fun j hj => ⟨(h1 j (.inr (.inl hj))).1, (h1 j (.inr (.inl hj))).2.trans (vs8 j hj).2⟩, fun j hj => ⟨(h1 j (.inl hj)).1, (v8 j hj).2⟩, clb8.mv (fun j hj => (h1 j (.inl hj)).2) (fun j hj => hj), by simp [bcl], clk8.mv (fun j hj => (h1 j (.inl hj)).2) (fun j hj => hj), by simp [kcl], by simp [kl], ok8, .inr ⟨by simp, o1, o2, by simp only [hl1], by simp only [hl1], h2, h3, h4⟩⟩
        rcases hform with ⟨hb0, el1, el2⟩ | ⟨hb0, o1, o2, el1, el2, ⟨f1, f2, f3, f4, f5⟩, ⟨f6, f7, f8, f9, f10⟩, f11⟩
        · subst el1 el2
          obtain rfl : bl = [] := List.eq_nil_of_length_eq_zero hb0
          obtain rfl : ks = [] := List.eq_nil_of_length_eq_zero (by rw [kl]; rfl)
          obtain rfl : bcs = [] := List.eq_nil_of_length_eq_zero bcl
          obtain rfl : kcs = [] := List.eq_nil_of_length_eq_zero kcl
          refine KW.app0 (v := .slice (some ⟨o5, 0, some 1⟩) xs.length xs.length) 2 rfl rfl rfl rfl rfl rfl rfl rfl rfl rfl rfl rfl rfl rfl rfl rfl rfl rfl rfl rfl rfl rfl (by decide) ?_
          refine KW.app0 (v := .slice (some ⟨o6, 0, some 1⟩) i i) 3 rfl rfl rfl rfl rfl rfl rfl rfl rfl rfl rfl rfl rfl rfl rfl rfl rfl rfl rfl rfl rfl rfl (by decide) ?_
          refine KW.freeze 3 rfl (fun A9 S9 hn9 hS9 st9 hm9 ho9 hno9 hlow9 => ?_)
          refine KW.freeze 2 rfl (fun AX SX hnX hSX stX hmX hoX hnoX hlowX => ?_)
          have s8X : St S8 A8 SX AX := fun j hj => ⟨(stX.st j (st9.st j hj).1).1, ((stX.st j (st9.st j hj).1).2).trans (st9.st j hj).2⟩
          have h9X := stX.st _ ((hS9 _).2 (.inr rfl))
          have hno8X : ∀ j, S8 j → (¬ SX j → False) := fun j hj h => h (s8X j hj).1
          refine KW.nxt rfl rfl (fun H' g => ⟨⟨m - 1, SX, AX, V8, [xs], [kk], _, _, _, _⟩, fin SX AX _ _ (fun j hj => s8X j ?_) ⟨(hSX _).2 (.inr rfl), ?_, ?_, ?_, hmX⟩ ⟨h9X.1, ?_, ?_, ?_, h9X.2.trans hm9⟩ ?_, by simp only; omega, ⟨rfl, rfl, rfl, rfl, congrArg (Value.int .i64) em, trivial⟩, g⟩)
          · rcases hj with hj | hj | hj | hj | hj
            · exact (v8 j hj).1
            · exact (vs8 j hj).1
            · rw [hj]; exact SB8.sid
            · exact (SB8.y j hj).1
            · exact (E8.old j hj.1 hj.2).1
          · exact E8.ge (fun h => hnoX (st9.st _ h).1)
          · exact fun h => hnoX (st9.st _ (v8 _ h).1).1
          · exact fun h => hnoX (st9.st _ (vs8 _ h).1).1
          · exact E8.ge hno9
          · exact fun h => hno9 (v8 _ h).1
          · exact fun h => hno9 (vs8 _ h).1
          · exact fun e => hnoX (by rw [e]; exact (hS9 _).2 (.inr rfl))
        · subst el1 el2
          have q1 := keep8 o1 f1
          have q2 := keep8 o2 f6
          have q1m := (q1.2 (by omega)).trans f5
          have q2m := (q2.2 (by omega)).trans f10
          have n15 : o1 ≠ o5 := fun e => ho5 (e ▸ f1)
          have n16 : o1 ≠ o6 := fun e => ho6 (e ▸ f1)
          have n25 : o2 ≠ o5 := fun e => ho5 (e ▸ f6)
          have n26 : o2 ≠ o6 := fun e => ho6 (e ▸ f6)
          refine KW.thaw o1 _ q1.1 q1m ?_
          refine KW.thaw o2 _ ⟨q2.1, fun e => f11 e.symm⟩ q2m ?_
          have vn : ∀ j, V8 j → j ≠ o1 ∧ j ≠ o2 := fun j hj => by
            rw [eV8] at hj
            rcases hj with hj | hj | hj | hj
            · exact ⟨fun e => f3 (e ▸ hj), fun e => f8 (e ▸ hj)⟩
            · exact ⟨fun e => (v6 j hj).2.2 (e ▸ f1), fun e => (v6 j hj).2.2 (e ▸ f6)⟩
            · rw [hj]; exact ⟨fun e => n15 e.symm, fun e => n25 e.symm⟩
            · rw [hj]; exact ⟨fun e => n16 e.symm, fun e => n26 e.symm⟩
          have yn : ∀ j, Y j → j ≠ o1 ∧ j ≠ o2 := fun j hj => by
            have : j < H.n := (SB0.y j hj).1
            exact ⟨by omega, by omega⟩
          refine KW.app1 (xs := bcs) (v := .slice (some ⟨o5, 0, some 1⟩) xs.length xs.length) 2 4 rfl rfl rfl rfl rfl rfl rfl rfl rfl rfl rfl rfl rfl rfl rfl rfl rfl rfl rfl rfl rfl rfl rfl bcl (by show (bl.length + 1) * 24 ≤ _; omega) (by show bl.length + 1 ≤ _; omega) ?_
          refine KW.app1 (xs := kcs) (v := .slice (some ⟨o6, 0, some 1⟩) i i) 3 4 rfl rfl rfl rfl rfl rfl rfl rfl rfl rfl rfl rfl rfl rfl rfl rfl rfl rfl rfl rfl rfl rfl rfl (by omega) (by show (bl.length + 1) * 24 ≤ _; omega) (by show bl.length + 1 ≤ _; omega) ?_
          refine KW.freeze 3 rfl (fun A9 S9 hn9 hS9 st9 hm9 ho9 hno9 hlow9 => ?_)
          refine KW.freeze 2 rfl (fun AX SX hnX hSX stX hmX hoX hnoX hlowX => ?_)
          have s8X : ∀ j, S8 j ∧ j ≠ o1 ∧ j ≠ o2 → SX j ∧ AX.m j = A8.m j := fun j hj => by
            have h9 := st9.st j ⟨⟨hj.1, hj.2.1⟩, hj.2.2⟩
            exact ⟨(stX.st j h9.1).1, ((stX.st j h9.1).2).trans h9.2⟩
          have h9X := stX.st _ ((hS9 _).2 (.inr rfl))
          have hin9 : ∀ j, S8 j ∧ j ≠ o1 ∧ j ≠ o2 → S9 j := fun j hj => (st9.st j ⟨⟨hj.1, hj.2.1⟩, hj.2.2⟩).1
          have hlowS : ∀ j, (V8 j ∨ New (H.n + 1) H1.n j ∨ j = id ∨ Y j ∨ (j < H.n ∧ j ≠ id)) → S8 j ∧ j ≠ o1 ∧ j ≠ o2 := fun j hj => by
            rcases hj with hj | hj | hj | hj | hj
            · exact ⟨(v8 j hj).1, vn j hj⟩
            · exact ⟨(vs8 j hj).1, fun e => f4 (e ▸ hj), fun e => f9 (e ▸ hj)⟩
            · rw [hj]; exact ⟨SB8.sid, by omega, by omega⟩
            · exact ⟨(SB8.y j hj).1, yn j hj⟩
            · exact ⟨(E8.old j hj.1 hj.2).1, by omega, by omega⟩
          have EN : ∀ {o : Nat} {SS : Ids}, ¬ SS o → (∀ j, S8 j ∧ j ≠ o1 ∧ j ≠ o2 → SS j) → H.n ≤ o := fun {o SS} hno hs => by
            rcases Nat.lt_or_ge o H.n with h | h
            · refine absurd (hs o ?_) hno
              by_cases e : o = id
              · rw [e]; exact hlowS id (.inr (.inr (.inl rfl)))
              · exact hlowS o (.inr (.inr (.inr (.inr ⟨h, e⟩))))
            · exact h
          refine KW.nxt rfl rfl (fun H' g => ⟨⟨m - 1, SX, AX, V8, bl ++ [xs], ks ++ [kk], _, _, _, _⟩, fin SX AX _ _ (fun j hj => s8X j (hlowS j hj)) ⟨(hSX _).2 (.inr rfl), ?_, ?_, ?_, hmX⟩ ⟨h9X.1, ?_, ?_, ?_, h9X.2.trans hm9⟩ ?_, by simp only; omega, ⟨rfl, rfl, rfl, rfl, congrArg (Value.int .i64) em, trivial⟩, g⟩)
          · exact EN hnoX hin9
          · exact fun h => hnoX (hin9 _ (hlowS _ (.inl h)))
          · exact fun h => hnoX (hin9 _ (hlowS _ (.inr (.inl h))))
          · exact EN (SS := fun j => (S8 j ∧ j ≠ o1) ∧ j ≠ o2) hno9 (fun j hj => ⟨⟨hj.1, hj.2.1⟩, hj.2.2⟩)
          · exact fun h => hno9 (by have := hlowS _ (.inl h); exact ⟨⟨this.1, this.2.1⟩, this.2.2⟩)
          · exact fun h => hno9 (by have := hlowS _ (.inr (.inl h)); exact ⟨⟨this.1, this.2.1⟩, this.2.2⟩)
          · exact fun e => hnoX (by rw [e]; exact (hS9 _).2 (.inr rfl))
  · have k1 : ¬ (m : Int) > 0 := k1
    rcases hform with ⟨hb0, _⟩ | ⟨hb0, o1, o2, el1, el2, ⟨f1, f2, f3, f4, f5⟩, ⟨f6, f7, f8, f9, f10⟩, f11⟩
    · omega
    · subst el1 el2
      refine KW.retW rfl rfl rfl rfl (fun H9 g => by have := (g.vars 0 _ rfl).2.1; have := g.n_; omega) (fun i h1 h2 => E3.old i h1 h2) (fun H9 gg => ?_)
      have hn9 := gg.n_
      obtain ⟨q3, u3, src3⟩ := SB3.src
      have hX : ∀ j, S3 j ∧ H.n ≤ j → New H.n H9.n j ∧ H9.m j = A3.m j := fun j hj => ⟨⟨hj.2, by have := (gg.froz j hj.1).1; omega⟩, (gg.froz j hj.1).2⟩
      have hmv : ∀ j, New (H.n + 1) H1.n j → New H.n H9.n j ∧ H9.m j = H1.m j := fun j hj => by
        have h1 := hX j ⟨(vs3 j hj).1, by have := hj.1; omega⟩
        exact ⟨h1.1, h1.2.trans (vs3 j hj).2⟩
      have g1 := hX o1 ⟨f1, f2⟩
      have g2 := hX o2 ⟨f6, f7⟩
      have hb := Cl.sl (clb.mv (X' := New H.n H9.n) (A' := H9) (fun j hj => (hX j (v3 j hj)).2) (fun j hj => (hX j (v3 j hj)).1)) (S := New H.n H9.n) (id := o1) (c := bl.length) g1.1 (g1.2.trans f5) rfl (fun j hj => hj) (Nat.le_refl _)
      have hkk := Cl.sl (clk.mv (X' := New H.n H9.n) (A' := H9) (fun j hj => (hX j (v3 j hj)).2) (fun j hj => (hX j (v3 j hj)).1)) (S := New H.n H9.n) (id := o2) (c := ks.length) g2.1 (g2.2.trans f10) rfl (fun j hj => hj) (Nat.le_refl _)
      have hR : K_Deal.R (New H.n H9.n) H9 ((h, ow, p, c, rows), (z2 : Int), bl, ks) _ := prR (a := K_Scheme) (prR (a := KI) (cs := [.int .i64 h]) rfl (prR (sl1' (ho.stX hmv)) (prR (a := KI) (cs := [.int .i64 p]) rfl (prR (a := KI) (cs := [.int .i64 c]) rfl (sl1' (hs.stX hmv)))))) (prR (a := KI) (cs := [.int .i64 z2]) rfl (prR (sl1' hb) (sl1' hkk)))
      refine ⟨⟨((h, ow, p, c, rows), (z2 : Int), bl, ks), _, ?_, ⟨hk, ⟨by show 0 ≤ (z2 : Int); omega, by show (z2 : Int) ≤ p - 1; omega⟩, ⟨by show 1 ≤ bl.length; omega, by show bl.length ≤ 4; omega⟩, kl, ok3⟩, hR⟩, q3, by omega, src3.mv (gg.froz id SB3.sid).2⟩
      rw [kl]
      rfl
theorem a2Deal (hb : ∀ x ∈ bs, 0 ≤ x ∧ x < 256) (hl : bs.length ≤ 1048576) (hs : KB.Sl S H0 (.slice ac bs.length cc) bs) :
    SpecM Try.prog S H0 45 [.slice ac bs.length cc] (fun m v H1 => ∃ (x : T_Deal) (cs : List Value), v = .agg cs.toArray ∧ DealOk x ∧ K_Deal.R (New m H1.n) H1 x cs) := by
  refine SpecM.of1 Try.func45 rfl (by kernel_rfl) rfl (fun H _ => ?_)
  refine KW.callN1 rfl rfl rfl rfl rfl (srcFrom) (fun v HS SS mS _ _ hv => ?_)
  obtain ⟨o, sp, rfl, hnew, hsrc⟩ := hv
  have wS : On (New _ HS.n) HS SS HS := ‹_›
  have tS : On (Low H.n) H SS HS := inferInstance
  have hso := (wS.st o hnew).1
  have hbs := (hs.up (S' := Low H.n) (H' := H)).stX (S' := fun i => SS i ∧ i ≠ o) (H' := HS) (fun i hi => ⟨⟨(tS.st i hi).1, fun e => by have h1 : i < H.n := hi; have := hnew.1; omega⟩, (tS.st i hi).2⟩)
  have SB : SrcB bs ac cc o (fun i => SS i ∧ i ≠ o) SS HS 0 := ⟨hb, hl, hso, fun i hi => hi, ⟨0, Nat.le_refl _, hsrc⟩, hbs⟩
  refine KW.callW (W := fun i => i = o) (fun i hi => by subst hi; exact hso) rfl rfl rfl rfl rfl (l08Drawn SB (by omega)) (fun v H4 S4 hn4 st4 hw4 hp => ?_)
  obtain ⟨⟨x, cs, rfl, hok, hR⟩, _⟩ := hp
  haveI : On (Low H.n) H S4 H4 := ⟨fun i hi => ⟨(st4 i (tS.st i hi).1).1, ((st4 i (tS.st i hi).1).2 (fun e => by have h1 : i < H.n := hi; have h2 : i = o := e; have := hnew.1; omega)).trans (tS.st i hi).2⟩⟩
  obtain ⟨b1, c1, b2, c2, b3, c3, b4, c4, rfl⟩ := form_Deal hR
  refine KW.retM1 rfl rfl rfl rfl (fun H1 g => ?_)
  exact ⟨x, _, rfl, hok, K_Deal.more (fun i hi => ⟨by have := hi.1; omega, by have := (g.froz i (hw4 i hi)).1; have := g.n_; omega⟩) (K_Deal.same (fun i hi => (g.froz i (hw4 i hi)).2) hR)⟩
end
end Go.Proofs.Ytijmkfnmdhpakaa.Am
/- Contracts: TagsFit and LiesThatPass, of the program and of the reference. Each holds under its own conditions. -/
set_option linter.unusedVariables false
set_option linter.unusedSimpArgs false
set_option maxRecDepth 20000
namespace Go.Proofs.Ytijmkfnmdhpakaa.Am
open Go Go.RowKit Go.Proofs
/-- Values and tags have the right form. -/
def FitOk (x : T_Deal) (j : Int) (vals tg : List Int) : Prop := vals.length = (rowsOf x.1.2.1 j).length ∧ tg.length = (rowsOf x.1.2.1 j).length ∧ Elems x.1.2.2.1 vals ∧ Elems x.1.2.2.1 tg
noncomputable def r0_TagsFit (x : T_Deal) (e j : Int) (vals tg : List Int) : Bool := if codeD x e j = 0 then (if tv (FitOk x j vals tg) = true then tv (tagsD x e j vals = tg) else false) else false
noncomputable def r1_TagsFit (x : T_Deal) (e j : Int) (vals tg : List Int) : Int := if codeD x e j = 0 then (if tv (FitOk x j vals tg) = true then 0 else 2) else codeD x e j
theorem tf_code {x : T_Deal} {e j : Int} {vals tg : List Int} (hc : ¬ codeD x e j = 0) : Value.tuple #[.bool false, .int .i64 (codeD x e j)] = .tuple #[.bool (r0_TagsFit x e j vals tg), .int .i64 (r1_TagsFit x e j vals tg)] := by unfold r0_TagsFit r1_TagsFit; rw [if_neg hc, if_neg hc]
theorem tf_bad {x : T_Deal} {e j : Int} {vals tg : List Int} (hc : codeD x e j = 0) (h : ¬ FitOk x j vals tg) : Value.tuple #[.bool false, .int .i64 2] = .tuple #[.bool (r0_TagsFit x e j vals tg), .int .i64 (r1_TagsFit x e j vals tg)] := by unfold r0_TagsFit r1_TagsFit; rw [if_pos hc, if_pos hc, tv_false h]; rfl
theorem tf_good {x : T_Deal} {e j : Int} {vals tg : List Int} (hc : codeD x e j = 0) (h : FitOk x j vals tg) : Value.tuple #[.bool (tv (tagsD x e j vals = tg)), .int .i64 0] = .tuple #[.bool (r0_TagsFit x e j vals tg), .int .i64 (r1_TagsFit x e j vals tg)] := by unfold r0_TagsFit r1_TagsFit; rw [if_pos hc, if_pos hc, tv_true h]; rfl
theorem tags_len {x : T_Deal} {e j : Int} {vals : List Int} : (tagsD x e j vals).length = (rowsOf x.1.2.1 j).length := by simp [tagsD, tagsOf]
section
variable {S : Ids} {H0 : AH}
theorem impl_TagsFit {x : T_Deal} {vals tg : List Int} (e j : Int) (he : I64 e) (hj : I64 j) {cs : List Value} {a5 c5 a6 c6} (hB : B_Deal x) (hBv : B_Int64S vals) (hBt : B_Int64S tg) (h : K_Deal.R S H0 x cs) (hv : K_Int64S.R S H0 vals [.slice a5 vals.length c5]) (ht : K_Int64S.R S H0 tg [.slice a6 tg.length c6]) :
    Spec Try.prog S H0 50 [.agg cs.toArray, .int .i64 e, .int .i64 j, .slice a5 vals.length c5, .slice a6 tg.length c6] (fun v => v = .tuple #[.bool (r0_TagsFit x e j vals tg), .int .i64 (r1_TagsFit x e j vals tg)]) := by
  obtain ⟨a1, c1, a2, c2, a3, c3, a4, c4, rfl, h1, h2, h3, h4⟩ := split2_Deal h
  have hBv' : vals.length ≤ 1048576 := hBv
  have hBt' : tg.length ≤ 1048576 := hBt
  have hv := sl1 hv
  have ht := sl1 ht
  refine Spec.of1 Try.func50 rfl (by kernel_rfl) rfl (fun H _ => ?_)
  refine KW.callE rfl rfl rfl rfl rfl (dealCode x e j hB (On.R h)) (fun _ _ => ?_)
  by_cases hc : codeD x e j = 0
  · obtain ⟨E, J, hd⟩ := codeD_ok hc
    have hol : (rowsOf x.1.2.1 j).length ≤ x.1.2.1.length := rowsP_len _ _
    have hpr := hd.sch.mat.pr
    have hp : I64 x.1.2.2.1 := hB.1.2.2.1
    have hJ : rowsP (fun i => (2 ^ J : Nat).testBit (x.1.2.1.getD i 0).toNat) x.1.2.1.length = rowsOf x.1.2.1 j := by rw [rows_bit (fun y hy => (hd.sch.own y hy).1), hd.jj]
    have h256 := small_pow (m := J) (by have := hd.j6; omega)
    have hjj := hd.jj
    have bad := tf_bad (vals := vals) (tg := tg) hc
    have good := tf_good (vals := vals) (tg := tg) hc
    rw [hc]
    refine KW.cT rfl rfl (by first | (simp; done) | decide) ?_
    refine KW.shlU rfl rfl rfl rfl rfl rfl J hjj (by have := hd.j6; omega) ?_
    refine KW.callN1 rfl rfl rfl rfl rfl (rowsHeld x.1.1 x.1.2.2.1 x.1.2.2.2.1 (2 ^ J) (by omega) hB.1.2.1 hd.sch.own hd.sch.h7 h1.up) (fun v HR SR mR _ _ hv => ?_)
    obtain ⟨a7, c7, rfl, hR⟩ := hv
    rw [hJ] at hR ⊢
    obtain ⟨R, hRe⟩ : ∃ R, rowsOf x.1.2.1 j = R := ⟨_, rfl⟩
    rw [hRe] at hR ⊢
    refine KW.tstB rfl rfl (fun k1 => ?_) (fun k1 => ?_)
    · have k1 : ¬ vals.length = (rowsOf x.1.2.1 j).length := by rw [hRe]; simp at k1; omega
      repeat first | refine KW.tT rfl rfl rfl ?_ | refine KW.tF rfl rfl rfl ?_
      refine KW.cT rfl rfl (by first | (simp; done) | decide) ?_
      refine KW.cT rfl rfl (by first | (simp; done) | decide) ?_
      refine KW.retM1 rfl rfl rfl rfl (fun H1 g => bad (fun hf => k1 hf.1))
    have k1 : vals.length = (rowsOf x.1.2.1 j).length := by rw [hRe]; simp at k1; omega
    refine KW.tstB rfl rfl (fun k2 => ?_) (fun k2 => ?_)
    · have k2 : ¬ tg.length = (rowsOf x.1.2.1 j).length := by rw [hRe]; simp at k2; omega
      repeat first | refine KW.tT rfl rfl rfl ?_ | refine KW.tF rfl rfl rfl ?_
      refine KW.cT rfl rfl (by first | (simp; done) | decide) ?_
      refine KW.cT rfl rfl (by first | (simp; done) | decide) ?_
      refine KW.retM1 rfl rfl rfl rfl (fun H1 g => bad (fun hf => k2 hf.2.1))
    have k2 : tg.length = (rowsOf x.1.2.1 j).length := by rw [hRe]; simp at k2; omega
    refine KW.callE rfl rfl rfl rfl rfl (areElements x.1.2.2.1 hp (by omega) hv.up) (fun _ _ => ?_)
    refine KW.tstB rfl rfl (fun k3 => ?_) (fun k3 => ?_)
    · have k3 : ¬ Elems x.1.2.2.1 vals := fun hx => by rw [tv_true ⟨hpr, hx⟩] at k3; cases k3
      refine KW.cT rfl rfl (by first | (simp; done) | decide) ?_
      refine KW.cT rfl rfl (by first | (simp; done) | decide) ?_
      refine KW.retM1 rfl rfl rfl rfl (fun H1 g => bad (fun hf => k3 hf.2.2.1))
    have k3 : Elems x.1.2.2.1 vals := (tv_iff.1 (by simpa using k3) : PrimeP _ ∧ Elems _ vals).2
    refine KW.callE rfl rfl rfl rfl rfl (areElements x.1.2.2.1 hp (by omega) ht.up) (fun _ _ => ?_)
    refine KW.cndB rfl rfl (fun k4 => ?_) (fun k4 => ?_)
    · have k4 : ¬ Elems x.1.2.2.1 tg := fun hx => by rw [tv_true ⟨hpr, hx⟩] at k4; cases k4
      refine KW.cT rfl rfl (by first | (simp; done) | decide) ?_
      refine KW.retM1 rfl rfl rfl rfl (fun H1 g => bad (fun hf => k4 hf.2.2.2))
    have k4 : Elems x.1.2.2.1 tg := (tv_iff.1 (by simpa using k4) : PrimeP _ ∧ Elems _ tg).2
    refine KW.cF rfl rfl (by first | (simp; done) | decide) ?_
    refine KW.callN1 rfl rfl rfl rfl rfl (tagsDD x e j hd hB (On.R h) k1 k3 hv.up) (fun v HT ST mT _ _ hv => ?_)
    obtain ⟨a8, c8, rfl, hT⟩ := hv
    refine KW.callE rfl rfl rfl rfl rfl (equalI (by rw [tags_len, ← k1]; exact hBv) hT.ups ht.up) (fun _ _ => ?_)
    refine KW.retM1 rfl rfl rfl rfl (fun H1 g => good ⟨k1, k2, k3, k4⟩)
  · refine KW.cndB rfl rfl (fun k1 => ?_) (fun k1 => ?_)
    · exact absurd (by simpa using k1) hc
    refine KW.cndB rfl rfl (fun k2 => ?_) (fun k2 => ?_)
    · exact KW.ret rfl rfl rfl rfl (tf_code hc)
    · exact absurd (by simpa using k2) hc
end
/-- The lies below n that pass. -/
noncomputable def passN (x : T_Deal) (e j : Int) (n : Nat) : List Int := rowsP (fun i => tv (tagsD x e j (lieOf x.1.2.2.1 (valsD x e j) (i : Int)) = tagsD x e j (valsD x e j))) n
noncomputable def r0_LiesThatPass (x : T_Deal) (e j : Int) : List Int := if codeD x e j = 0 then passN x e j x.1.2.2.1.toNat else []
section
variable {S : Ids} {H0 : AH}
theorem impl_LiesThatPass {x : T_Deal} (e j : Int) (he : I64 e) (hj : I64 j) {cs : List Value} (hB : B_Deal x) (h : K_Deal.R S H0 x cs) : SpecM Try.prog S H0 49 [.agg cs.toArray, .int .i64 e, .int .i64 j] (MkLC (r0_LiesThatPass x e j) (codeD x e j)) := by
  obtain ⟨a1, c1, a2, c2, a3, c3, a4, c4, rfl, h1, h2, h3, h4⟩ := split2_Deal h
  refine SpecM.of1 Try.func49 rfl (by kernel_rfl) rfl (fun H _ => ?_)
  refine KW.callE rfl rfl rfl rfl rfl (dealCode x e j hB (On.R h)) (fun _ _ => ?_)
  unfold r0_LiesThatPass
  by_cases hc : codeD x e j = 0
  · obtain ⟨E, J, hd⟩ := codeD_ok hc
    have hpr := hd.sch.mat.pr
    have hp2 := hpr.1
    have hp31 := hpr.2.1
    rw [if_pos hc, hc]
    refine KW.cF rfl rfl (by first | (simp; done) | decide) ?_
    refine KW.fact (fun _ g => g.nle (H1 := H)) (fun hn0 => ?_)
    refine KW.callN1 rfl rfl rfl rfl rfl (valuesD x e j hd hB (On.R h)) (fun v HA SA mA _ _ hv => ?_)
    obtain ⟨a5, c5, rfl, hA⟩ := hv
    refine KW.lit rfl rfl rfl rfl rfl rfl rfl rfl rfl rfl [] rfl rfl (fun v hv => by simp at hv) rfl ?_
    refine KW.callN1 rfl rfl rfl rfl rfl (tagsDD x e j hd hB (On.R h) vals_len (vals_in hpr) hA.ups) (fun v HT ST mT _ _ hv => ?_)
    obtain ⟨a6, c6, rfl, hT⟩ := hv
    have hvl : (valsD x e j).length ≤ 1048576 := by have := bound_DealValues e j he hj hB; unfold r0_DealValues at this; rw [if_pos hc] at this; exact this
    have htl : ∀ vs, (tagsD x e j vs).length ≤ 1048576 := fun vs => by rw [tags_len]; have : (rowsOf x.1.2.1 j).length ≤ x.1.2.1.length := rowsP_len _ _; have h3 : x.1.2.1.length ≤ 1048576 := hB.1.2.1; omega
    refine KW.lpM rfl rfl (fun q : Nat × Nat => [(1, .int .i64 e), (2, .int .i64 j), (3, .pointer (some ⟨H.n, 0, some 0⟩)), (9, .slice a5 (valsD x e j).length c5), (10, .slice (some ⟨q.2, 0, some 1⟩) (passN x e j q.1).length (passN x e j q.1).length), (11, .slice a6 (tagsD x e j (valsD x e j)).length c6), (33, .int .i64 x.1.2.2.1), (34, .int .i64 q.1)]) (fun q => ST) (fun q => HT) (fun q => [(H.n, ⟨71, true, [.int .i64 x.1.1, .slice a1 x.1.2.1.length c1, .int .i64 x.1.2.2.1, .int .i64 x.1.2.2.2.1, .slice a2 x.1.2.2.2.2.length c2, .int .i64 x.2.1, .slice a3 x.2.2.1.length c3, .slice a4 x.2.2.2.length c4]⟩), (q.2, ⟨_, true, (passN x e j q.1).map (Value.int .i64)⟩)]) (fun q => (q.1 : Int) ≤ x.1.2.2.1) (fun q => 32 - q.1) ((0, _)) (by simp only; omega) ⟨rfl, rfl, rfl, rfl, rfl, rfl, rfl, rfl, trivial⟩ rfl rfl (rfl) (fun q hi bE n => ?_)
    obtain ⟨q, o⟩ := q
    simp only at hi
    have hq : (passN x e j q).length ≤ q := rowsP_len _ _
    refine KW.cnd rfl rfl (fun k1 => ?_) (fun k1 => ?_)
    · have k1 : (q : Int) < x.1.2.2.1 := k1
      refine KW.callN1 rfl rfl rfl rfl rfl (lied x.1.1 x.1.2.2.1 x.1.2.2.2.1 x.2.1 hpr q (by omega) hvl (vals_in hpr) hA.ups) (fun v HL SL mL _ _ hv => ?_)
      obtain ⟨a7, c7, rfl, hL⟩ := hv
      refine KW.callN1 rfl rfl rfl rfl rfl (tagsDD x e j hd hB (On.R h) (by rw [lie_len]; exact vals_len) (lie_in hpr (vals_in hpr)) hL.ups) (fun v HU SU mU _ _ hv => ?_)
      obtain ⟨a8, c8, rfl, hU⟩ := hv
      refine KW.callE rfl rfl rfl rfl rfl (equalI (htl _) hU.ups hT.ups) (fun _ _ => ?_)
      have e1 := rowsP_next (fun i => tv (tagsD x e j (lieOf x.1.2.2.1 (valsD x e j) (i : Int)) = tagsD x e j (valsD x e j))) q
      refine KW.cndB rfl rfl (fun k2 => ?_) (fun k2 => ?_)
      · rw [if_pos k2] at e1
        refine KW.app1 (xs := (passN x e j q).map (Value.int .i64)) (v := .int .i64 q) 1 2 rfl rfl rfl rfl rfl rfl rfl rfl rfl rfl rfl rfl rfl rfl rfl rfl rfl rfl rfl rfl rfl rfl rfl (by simp) (by show (_ + 1) * 8 ≤ _; first | omega | (simp only; omega)) (by first | omega | (simp only; omega)) ?_
        refine KW.nxt rfl rfl (fun H' g => ⟨(q + 1, _), by simp only; omega, by first | omega | (simp only; omega), ⟨rfl, rfl, rfl, rfl, by simp only [passN, e1, List.length_append, List.length_singleton]; rfl, rfl, rfl, congrArg (Value.int .i64) (inc64 (by omega)), trivial⟩, g.back.eqT (by simp only [passN, e1, List.map_append]; rfl)⟩)
      · rw [if_neg (by rw [k2]; decide)] at e1
        refine KW.nxt rfl rfl (fun H' g => ⟨(q + 1, o), by simp only; omega, by first | omega | (simp only; omega), ⟨rfl, rfl, rfl, rfl, by simp only [passN, e1]; rfl, rfl, rfl, congrArg (Value.int .i64) (inc64 (by omega)), trivial⟩, g.back.eqT (by simp only [passN, e1])⟩)
    · have k1 : ¬ (q : Int) < x.1.2.2.1 := k1
      obtain rfl : q = x.1.2.2.1.toNat := by omega
      refine KW.retM1 rfl rfl rfl rfl (fun H1 g => ⟨_, _, rfl, ml1' (int_ml ⟨g.ge (H1 := H) (j := 1) rfl, (g.blk (j := 1) rfl).2⟩ (g.blk (j := 1) rfl).1 rfl rfl (Nat.le_refl _))⟩)
  · rw [if_neg hc]
    refine KW.cndB rfl rfl (fun k1 => ?_) (fun k1 => ?_)
    · refine KW.retM1 rfl rfl rfl rfl (fun H1 g => MkLC.nil rfl)
    · exact absurd (by simpa using k1) hc
end
end Go.Proofs.Ytijmkfnmdhpakaa.Am
/- Lies that pass, plain; contracts of what the law of tags calls. Each holds under its own conditions. -/
set_option linter.unusedVariables false
set_option linter.unusedSimpArgs false
set_option maxRecDepth 20000
set_option maxHeartbeats 2000000
namespace Go.Proofs.Ytijmkfnmdhpakaa.Am
open Go Go.RowKit Go.Proofs Go.Proofs.Ytijmkfnmdhpakaa.Pl
theorem rowsP_in {q : Nat → Bool} {n : Nat} {x : Int} : x ∈ rowsP q n ↔ 0 ≤ x ∧ x < n ∧ q x.toNat = true := by
  unfold rowsP
  constructor
  · intro hx
    obtain ⟨i, hi, rfl⟩ := List.mem_map.1 hx
    obtain ⟨h1, h2⟩ := List.mem_filter.1 hi
    have := List.mem_range.1 h1
    exact ⟨by omega, by omega, by simpa using h2⟩
  · rintro ⟨h0, h1, h2⟩
    exact List.mem_map.2 ⟨x.toNat, List.mem_filter.2 ⟨List.mem_range.2 (by omega), h2⟩, by omega⟩
theorem rowsP_all {q : Nat → Bool} {n : Nat} (h : ∀ i, i < n → q i = true) : (rowsP q n).length = n := by
  unfold rowsP
  rw [List.length_map, List.filter_eq_self.2 (fun i hi => h i (List.mem_range.1 hi)), List.length_range]
theorem rowsP_only {q : Nat → Bool} {n : Nat} (hn : 0 < n) (h0 : q 0 = true) (h : ∀ i, 0 < i → i < n → q i = false) : (rowsP q n).length = 1 := by
  induction n with
  | zero => omega
  | succ n ih =>
    rw [rowsP_next]
    by_cases hn0 : n = 0
    · subst hn0
      rw [if_pos h0]
      rfl
    · rw [h n (by omega) (by omega), if_neg (by decide)]
      exact ih (by omega) (fun i h1 h2 => h i h1 (by omega))
theorem lie_zero {p : Int} {vals : List Int} (h : Elems p vals) : lieOf p vals 0 = vals := by
  cases vals with
  | nil => rfl
  | cons v vs =>
    have := h v (List.mem_cons_self ..)
    show ((v + 0) % p) :: vs = _
    rw [Int.add_zero, Int.emod_eq_of_lt this.1 (by omega)]
/-- Only the first tag hangs on the first value. -/
theorem lie_tags {p : Int} {kk : List (List Int)} {R vs : List Int} {v l : Int} (hR : 0 < R.length) : (tagsOf p kk R (lieOf p (v :: vs) l) = tagsOf p kk R (v :: vs)) ↔ tagAt p kk R (lieOf p (v :: vs) l) 0 = tagAt p kk R (v :: vs) 0 := by
  constructor
  · intro h
    have h1 := congrArg (fun t : List Int => t[0]?) h
    simp only [tagsOf, List.getElem?_map, List.getElem?_range hR, Option.map_some, Option.some.injEq] at h1
    exact h1
  · intro h
    unfold tagsOf
    refine List.map_congr_left fun k hk => ?_
    cases k with
    | zero => exact h
    | succ k =>
      unfold tagAt
      rfl
theorem lie_first {p a b v l : Int} (hp : Fer p) (ha : 0 ≤ a ∧ a < p) (hl : 0 ≤ l ∧ l < p) : (a * ((v + l) % p) + b) % p = (a * v + b) % p ↔ a = 0 ∨ l = 0 := by
  have hp2 := hp.1
  have e : (a * ((v + l) % p) + b) % p = (a * (v + l) + b) % p := by
    rw [Int.add_emod, Int.mul_emod, Int.emod_emod_of_dvd _ (Int.dvd_refl p), ← Int.mul_emod, ← Int.add_emod]
  rw [e]
  constructor
  · intro h
    by_cases ha0 : a = 0
    · exact .inl ha0
    · right
      obtain ⟨q, hq⟩ := hp.2 a (by omega) ha.2
      have h1 : p ∣ a * l := by
        have h2 := Int.emod_emod_of_dvd (a * (v + l) + b) (Int.dvd_refl p)
        have h3 : (a * (v + l) + b - (a * v + b)) % p = 0 := by rw [Int.sub_emod, h, Int.sub_self, Int.zero_emod]
        have h4 : a * (v + l) + b - (a * v + b) = a * l := by rw [Int.mul_add]; omega
        rw [h4] at h3
        exact Int.dvd_of_emod_eq_zero h3
      obtain ⟨c, hc⟩ := h1
      have h5 : l = p * (c * pw p a (p - 2).toNat - l * q) := by
        have h6 : a * pw p a (p - 2).toNat * l = (1 + p * q) * l := by rw [hq]
        have h7 : a * pw p a (p - 2).toNat * l = a * l * pw p a (p - 2).toNat := by rw [Int.mul_assoc, Int.mul_comm _ l, ← Int.mul_assoc]
        rw [h7, hc, Int.add_mul, Int.one_mul, Int.mul_assoc, Int.mul_assoc] at h6
        rw [Int.mul_sub, Int.mul_comm l q]
        omega
      have h8 : p ∣ l := ⟨_, h5⟩
      rcases Int.lt_or_le 0 l with hlt | hle
      · have := Int.le_of_dvd hlt h8; omega
      · omega
  · rintro (h | h)
    · subst h; simp
    · subst h; rw [Int.add_zero]
theorem pass_zero {x : T_Deal} {e j : Int} {n : Nat} (hn : 0 < n) (h : Elems x.1.2.2.1 (valsD x e j)) : (0 : Int) ∈ passN x e j n := rowsP_in.2 ⟨Int.le_refl _, by omega, by
  rw [tv_true]
  show tagsD x e j (lieOf _ _ ((0 : Nat) : Int)) = _
  rw [show ((0 : Nat) : Int) = 0 from rfl, lie_zero h]⟩
theorem pass_in {x : T_Deal} {e j l : Int} {n : Nat} (hl : 0 ≤ l ∧ l < n) : l ∈ passN x e j n ↔ tagsD x e j (lieOf x.1.2.2.1 (valsD x e j) l) = tagsD x e j (valsD x e j) := by
  have e1 : ((l.toNat : Nat) : Int) = l := by omega
  unfold passN
  rw [rowsP_in]
  constructor
  · rintro ⟨_, _, h⟩
    have h := tv_iff.1 h
    rw [e1] at h
    exact h
  · intro h
    refine ⟨hl.1, hl.2, tv_true ?_⟩
    rw [e1]
    exact h
theorem pass_nil {x : T_Deal} {e j : Int} {n : Nat} (h : valsD x e j = []) : (passN x e j n).length = n := rowsP_all fun i _ => by
  rw [tv_true]
  rw [h]; rfl
theorem pass_one {x : T_Deal} {e j : Int} {E J : Nat} (hd : DealAt x e j E J) (h : valsD x e j ≠ []) : (passN x e j x.1.2.2.1.toNat).length = 1 ↔ ((kkD x e).getD ((rowsOf x.1.2.1 j).getD 0 0).toNat []).getD 0 0 ≠ 0 := by
  have hpr := hd.sch.mat.pr
  have hp := fer hpr
  have hp2 := hp.1
  have hlen : (valsD x e j).length = (rowsOf x.1.2.1 j).length := vals_len
  obtain ⟨v, vs, hv⟩ : ∃ v vs, valsD x e j = v :: vs := by
    cases h1 : valsD x e j with
    | nil => exact absurd h1 h
    | cons v vs => exact ⟨v, vs, rfl⟩
  have hR : 0 < (rowsOf x.1.2.1 j).length := by rw [← hlen, hv]; simp
  obtain ⟨a, ea⟩ : ∃ a, ((kkD x e).getD ((rowsOf x.1.2.1 j).getD 0 0).toNat []).getD 0 0 = a := ⟨_, rfl⟩
  have ha : 0 ≤ a ∧ a < x.1.2.2.1 := by
    rw [← ea]
    have h2 : Elems x.1.2.2.1 ((kkD x e).getD ((rowsOf x.1.2.1 j).getD 0 0).toNat []) := by
      rw [List.getD_eq_getElem?_getD]
      cases h3 : (kkD x e)[((rowsOf x.1.2.1 j).getD 0 0).toNat]? with
      | none => exact fun y hy => (by cases hy)
      | some y => exact (hd.key.2 y (List.mem_of_getElem? h3)).2
    have := elem_at h2 hpr.1 0
    omega
  have key : ∀ i : Nat, i < x.1.2.2.1.toNat → (tv (tagsD x e j (lieOf x.1.2.2.1 (valsD x e j) (i : Int)) = tagsD x e j (valsD x e j)) = true ↔ a = 0 ∨ (i : Int) = 0) := fun i hi => by
    rw [tv_iff, hv]
    unfold tagsD
    rw [lie_tags hR]
    unfold tagAt
    rw [ea]
    exact lie_first hp ha ⟨by omega, by omega⟩
  rw [ea]
  unfold passN
  by_cases h0 : a = 0
  · rw [rowsP_all (fun i hi => (key i hi).2 (.inl h0))]
    constructor
    · intro h; omega
    · intro h; exact absurd h0 h
  · rw [rowsP_only (by omega) ((key 0 (by omega)).2 (.inr rfl)) (fun i h1 h2 => by
      cases h3 : tv (tagsD x e j (lieOf x.1.2.2.1 (valsD x e j) (i : Int)) = tagsD x e j (valsD x e j)) with
      | false => rfl
      | true =>
        rcases (key i h2).1 h3 with h4 | h4
        · exact absurd h4 h0
        · omega)]
    exact ⟨fun _ => h0, fun _ => rfl⟩
def heldV (ow vs g : List Int) : List Int := (rowsP (fun i => decide (ow.getD i 0 ∈ g)) ow.length).map fun i => vs.getD i.toNat 0
theorem held_one {ow vs : List Int} {j : Int} : heldV ow vs [j] = (rowsOf ow j).map fun i => vs.getD i.toNat 0 := by unfold heldV; rw [rows_one]
section
variable {S : Ids} {H0 : AH}
theorem a2At {bs : List Int} (hb : ∀ x ∈ bs, 0 ≤ x ∧ x < 256) {a : Option Addr} {cc : Nat} {at_ n : Int} (hat : 0 ≤ at_) (hn : 1 ≤ n ∧ n ≤ 1000000) (hs : KB.Sl S H0 (.slice a bs.length cc) bs) : Spec Try.prog S H0 46 [.slice a bs.length cc, .int .i64 at_, .int .i64 n] (fun v => ∃ r : Int, v = .int .i64 r ∧ 0 ≤ r ∧ r < n) := by
  refine Spec.of1 Try.func46 rfl (by kernel_rfl) rfl (fun H _ => ?_)
  refine KW.tst rfl rfl (fun k1 => ?_) (fun k1 => ?_)
  · refine KW.cT rfl rfl (by first | (simp; done) | decide) ?_
    exact KW.ret rfl rfl rfl rfl (⟨0, rfl, Int.le_refl _, by omega⟩)
  · have k1 : ¬ at_ ≥ (bs.length : Int) := k1
    refine KW.no rfl rfl (by omega) ?_
    refine KW.getI hs.up rfl rfl rfl rfl rfl rfl rfl rfl rfl rfl rfl rfl rfl rfl rfl rfl (by omega) (by omega) (fun y hy => ?_)
    have hyb := hb y (List.mem_of_getElem? hy)
    have ey : IntKind.i64.wrap y = y := wr (by omega) (by omega)
    refine KW.rem rfl rfl rfl rfl rfl rfl (by rw [ey]; omega) (by omega) ?_
    exact KW.ret rfl rfl rfl rfl (⟨_, rfl, by rw [ey]; exact Int.emod_nonneg _ (by omega), by rw [ey]; exact Int.emod_lt_of_pos _ (by omega)⟩)
theorem a2Has {xs : List Int} {w : Int} {a : Option Addr} {c : Nat} (hl : xs.length ≤ 1048576) (hs : KI.Sl S H0 (.slice a xs.length c) xs) : Spec Try.prog S H0 51 [.slice a xs.length c, .int .i64 w] (fun v => v = .bool (decide (w ∈ xs))) := by
  refine Spec.of1 Try.func51 rfl (by kernel_rfl) rfl (fun H _ => ?_)
  refine KW.lp rfl rfl (fun i : Nat => [(0, .slice a xs.length c), (1, .int .i64 w), (5, .int .i64 i)]) (fun i => i ≤ xs.length ∧ ∀ j, j < i → ∀ y, xs[j]? = some y → ¬ y = w) (fun i => xs.length - i) (0) (⟨Nat.zero_le _, fun j hj => absurd hj (Nat.not_lt_zero _)⟩) ⟨rfl, rfl, rfl, trivial⟩ (fun i hi bE n => ?_)
  obtain ⟨i1, i2⟩ := hi
  refine KW.cnd rfl rfl (fun k1 => ?_) (fun k1 => ?_)
  · have k1 : (i : Int) < (xs.length : Int) := k1
    refine KW.getI hs.up rfl rfl rfl rfl rfl rfl rfl rfl rfl rfl rfl rfl rfl rfl rfl rfl (by omega) (k1) (fun y hy => ?_)
    have hy : xs[i]? = some y := hy
    refine KW.cnd rfl rfl (fun k2 => ?_) (fun k2 => ?_)
    · have k2 : y = w := k2
      exact KW.ret rfl rfl rfl rfl (by rw [decide_eq_true (show w ∈ xs from k2 ▸ List.mem_of_getElem? hy)]; rfl)
    · have k2 : ¬ y = w := k2
      refine KW.nxt rfl rfl (fun H' g => ⟨i + 1, ⟨by omega, upto i2 (fun z hz => by rw [hy] at hz; cases hz; exact k2)⟩, by first | omega | (simp only; omega), ⟨rfl, rfl, congrArg (Value.int .i64) (inc64 (by omega)), trivial⟩, g⟩)
  · have k1 : ¬ (i : Int) < (xs.length : Int) := k1
    exact KW.ret rfl rfl rfl rfl (by rw [decide_eq_false (show ¬ w ∈ xs from fun hw => (by obtain ⟨j, hj⟩ := List.getElem?_of_mem hw; exact i2 j (by have := (List.getElem?_eq_some_iff.1 hj).1; omega) w hj rfl))]; rfl)
theorem a2Same {xs ys : List Int} {a b : Option Addr} {c d : Nat} (hl : xs.length ≤ 1048576) (hs : KI.Sl S H0 (.slice a xs.length c) xs) (ht : KI.Sl S H0 (.slice b ys.length d) ys) : Spec Try.prog S H0 53 [.slice a xs.length c, .slice b ys.length d] (fun v => v = .bool (decide (xs = ys))) := by
  refine Spec.of1 Try.func53 rfl (by kernel_rfl) rfl (fun H _ => ?_)
  refine KW.cndB rfl rfl (fun k0 => ?_) (fun k0 => ?_)
  · have k0 : ¬ xs.length = ys.length := by simp at k0; omega
    exact KW.ret rfl rfl rfl rfl (by rw [decide_eq_false (show ¬ xs = ys from fun e => k0 (by rw [e]))]; rfl)
  have k0 : xs.length = ys.length := by simp at k0; omega
  refine KW.lp rfl rfl (fun i : Nat => [(0, .slice a xs.length c), (1, .slice b ys.length d), (5, .int .i64 i)]) (fun i => i ≤ xs.length ∧ ∀ j, j < i → ∀ y, xs[j]? = some y → ys[j]? = some y) (fun i => xs.length - i) (0) (⟨Nat.zero_le _, fun j hj => absurd hj (Nat.not_lt_zero _)⟩) ⟨rfl, rfl, rfl, trivial⟩ (fun i hi bE n => ?_)
  obtain ⟨i1, i2⟩ := hi
  refine KW.cnd rfl rfl (fun k1 => ?_) (fun k1 => ?_)
  · have k1 : (i : Int) < (xs.length : Int) := k1
    refine KW.getI hs.up rfl rfl rfl rfl rfl rfl rfl rfl rfl rfl rfl rfl rfl rfl rfl rfl (by omega) (k1) (fun y hy => ?_)
    have hy : xs[i]? = some y := hy
    refine KW.getI ht.up rfl rfl rfl rfl rfl rfl rfl rfl rfl rfl rfl rfl rfl rfl rfl rfl (by omega) (by omega) (fun z hz => ?_)
    have hz : ys[i]? = some z := hz
    refine KW.cndB rfl rfl (fun k2 => ?_) (fun k2 => ?_)
    · have k2 : ¬ y = z := by simpa using k2
      exact KW.ret rfl rfl rfl rfl (by rw [decide_eq_false (show ¬ xs = ys from fun e => k2 (by rw [e, hz] at hy; cases hy; rfl))]; rfl)
    · have k2 : y = z := by simpa using k2
      refine KW.nxt rfl rfl (fun H' g => ⟨i + 1, ⟨by omega, upto i2 (fun w hw => by rw [hy] at hw; cases hw; rw [k2]; exact hz)⟩, by first | omega | (simp only; omega), ⟨rfl, rfl, congrArg (Value.int .i64) (inc64 (by omega)), trivial⟩, g⟩)
  · have k1 : ¬ (i : Int) < (xs.length : Int) := k1
    have hxy : xs = ys := List.ext_getElem? fun j => by
      rcases Nat.lt_or_ge j xs.length with h | h
      · rw [List.getElem?_eq_getElem h]; exact (i2 j (by omega) _ (List.getElem?_eq_getElem h)).symm
      · rw [List.getElem?_eq_none h, List.getElem?_eq_none (by omega)]
    exact KW.ret rfl rfl rfl rfl (by rw [decide_eq_true hxy]; rfl)
end
end Go.Proofs.Ytijmkfnmdhpakaa.Am
/- Contracts of what the law of tags calls: shares, rows held. Each holds under its own conditions. -/
set_option linter.unusedVariables false
set_option linter.unusedSimpArgs false
set_option maxRecDepth 20000
set_option maxHeartbeats 2000000
namespace Go.Proofs.Ytijmkfnmdhpakaa.Am
open Go Go.RowKit Go.Proofs Go.Proofs.Ytijmkfnmdhpakaa.Pl
section
variable {S : Ids} {H0 : AH}
theorem a2Held (h p c : Int) {a1 c1 a3 c3 a4 c4} {v2 : Option Addr} {n2 c2 : Nat} {ow vs gr : List Int} (hO : B_Int64S ow) (hl : vs.length = ow.length) (hg : gr.length ≤ 1048576) (h1 : KI.Sl S H0 (.slice a1 ow.length c1) ow) (h3 : KI.Sl S H0 (.slice a3 vs.length c3) vs) (h4 : KI.Sl S H0 (.slice a4 gr.length c4) gr) :
    SpecM Try.prog S H0 54 [.agg #[.int .i64 h, .slice a1 ow.length c1, .int .i64 p, .int .i64 c, .slice v2 n2 c2], .slice a3 vs.length c3, .slice a4 gr.length c4] (MkL (heldV ow vs gr)) := by
  refine SpecM.of1 Try.func54 rfl (by kernel_rfl) rfl (fun H _ => ?_)
  have hO' : ow.length ≤ 1048576 := hO
  refine KW.lit rfl rfl rfl rfl rfl rfl rfl rfl rfl rfl [] rfl rfl (fun v hv => by simp at hv) rfl ?_
  refine KW.lpM rfl rfl (fun q : Nat × Nat => [(1, .slice a3 vs.length c3), (2, .slice a4 gr.length c4), (3, .pointer (some ⟨H.n, 0, some 0⟩)), (7, .slice (some ⟨q.2, 0, some 1⟩) (rowsP (fun i => decide (ow.getD i 0 ∈ gr)) q.1).length (rowsP (fun i => decide (ow.getD i 0 ∈ gr)) q.1).length), (8, .int .i64 q.1)]) (fun q => Low H.n) (fun q => H) (fun q => [(H.n, ⟨69, true, [.int .i64 h, .slice a1 ow.length c1, .int .i64 p, .int .i64 c, .slice v2 n2 c2]⟩), (q.2, ⟨_, true, ((rowsP (fun i => decide (ow.getD i 0 ∈ gr)) q.1).map fun i => vs.getD i.toNat 0).map (Value.int .i64)⟩)]) (fun q => q.1 ≤ ow.length) (fun q => ow.length - q.1) ((0, _)) (Nat.zero_le _) ⟨rfl, rfl, rfl, rfl, rfl, trivial⟩ rfl rfl (rfl) (fun q hi bE n => ?_)
  obtain ⟨i, o⟩ := q
  simp only at hi
  have hrl : (rowsP (fun i => decide (ow.getD i 0 ∈ gr)) i).length ≤ i := rowsP_len _ _
  refine KW.tst rfl rfl (fun k1 => ?_) (fun k1 => ?_)
  · have k1 : (i : Int) < (ow.length : Int) := k1
    refine KW.yes rfl rfl (by omega) ?_
    refine KW.getI h1.up rfl rfl rfl rfl rfl rfl rfl rfl rfl rfl rfl rfl rfl rfl rfl rfl (by omega) (k1) (fun y hy => ?_)
    have hy : ow[i]? = some y := hy
    have eo : ow.getD i 0 = y := by rw [List.getD_eq_getElem?_getD, hy]; rfl
    refine KW.callE rfl rfl rfl rfl rfl (a2Has hg h4.up) (fun _ _ => ?_)
    by_cases hm : y ∈ gr
    · rw [decide_eq_true hm]
      refine KW.cT rfl rfl (by first | (simp; done) | decide) ?_
      refine KW.getI h3.up rfl rfl rfl rfl rfl rfl rfl rfl rfl rfl rfl rfl rfl rfl rfl rfl (by omega) (by omega) (fun z hz => ?_)
      have hz : vs[i]? = some z := hz
      have e : rowsP (fun i => decide (ow.getD i 0 ∈ gr)) (i + 1) = rowsP (fun i => decide (ow.getD i 0 ∈ gr)) i ++ [(i : Int)] := by rw [rowsP_next, eo, decide_eq_true hm, if_pos rfl]
      have ez : vs.getD (i : Int).toNat 0 = z := by rw [Int.toNat_natCast, List.getD_eq_getElem?_getD, hz]; rfl
      refine KW.app1 (xs := ((rowsP (fun i => decide (ow.getD i 0 ∈ gr)) i).map fun i => vs.getD i.toNat 0).map (Value.int .i64)) (v := .int .i64 z) 1 2 rfl rfl rfl rfl rfl rfl rfl rfl rfl rfl rfl rfl rfl rfl rfl rfl rfl rfl rfl rfl rfl rfl rfl (by simp) (by show ((rowsP (fun i => decide (ow.getD i 0 ∈ gr)) i).length + 1) * 8 ≤ _; omega) (by show (rowsP (fun i => decide (ow.getD i 0 ∈ gr)) i).length + 1 ≤ _; omega) ?_
      refine KW.nxt rfl rfl (fun H' g => ⟨(i + 1, _), by simp only; omega, by first | omega | (simp only; omega), ⟨rfl, rfl, rfl, by simp only [e, List.length_append, List.length_singleton]; rfl, congrArg (Value.int .i64) (inc64 (by omega)), trivial⟩, g.eqT (by simp only [e, List.map_append, List.map_cons, List.map_nil, ez]; rfl)⟩)
    · rw [decide_eq_false hm]
      refine KW.cF rfl rfl (by first | (simp; done) | decide) ?_
      have e : rowsP (fun i => decide (ow.getD i 0 ∈ gr)) (i + 1) = rowsP (fun i => decide (ow.getD i 0 ∈ gr)) i := by rw [rowsP_next, eo, decide_eq_false hm, if_neg (by decide)]
      refine KW.nxt rfl rfl (fun H' g => ⟨(i + 1, o), by simp only; omega, by first | omega | (simp only; omega), ⟨rfl, rfl, rfl, by simp only [e]; rfl, congrArg (Value.int .i64) (inc64 (by omega)), trivial⟩, g.eqT (by simp only [e])⟩)
  · have k1 : ¬ (i : Int) < (ow.length : Int) := k1
    refine KW.cF rfl rfl (by first | (simp; done) | decide) ?_
    have eq : i = ow.length := by omega
    subst eq
    have el : (heldV ow vs gr).length = (rowsP (fun i => decide (ow.getD i 0 ∈ gr)) ow.length).length := by unfold heldV; rw [List.length_map]
    refine KW.retM1 rfl rfl rfl rfl (fun H1 g => ?_)
    have hm := MkL.of (xs := heldV ow vs gr) g (j := 1) rfl (g.ge (H1 := H) (j := 1) rfl)
    rw [el] at hm
    exact hm
theorem rowsHeldP (x : T_Scheme) (j : Int) {a1 c1 a2 c2 a3 c3} (hB : B_Scheme x) (hk : SchOk x) (hj : 0 ≤ j ∧ j ≤ x.1 - 1) (h1 : KI.Sl S H0 (.slice a1 x.2.1.length c1) x.2.1) (h2 : KI.sl.Sl S H0 (.slice a2 x.2.2.2.2.length c2) x.2.2.2.2) (h3 : KI.Sl S H0 (.slice a3 [j].length c3) [j]) :
    SpecM Try.prog S H0 55 [.agg #[.int .i64 x.1, .slice a1 x.2.1.length c1, .int .i64 x.2.2.1, .int .i64 x.2.2.2.1, .slice a2 x.2.2.2.2.length c2], .slice a3 [j].length c3] (MkLC (rowsOf x.2.1 j) 0) := by
  refine SpecM.of1 Try.func55 rfl (by kernel_rfl) rfl (fun H _ => ?_)
  have hk' : OkSch x.1 x.2.1 x.2.2.1 x.2.2.2.1 x.2.2.2.2 := hk
  obtain ⟨q, hq⟩ : ∃ q : Nat, x.1 = q := ⟨x.1.toNat, by have := hk'.h1; omega⟩
  have hq7 := hk'.h7
  have hr : Rises 0 (x.1 - 1) [j] := fun i hi => by
    obtain rfl : i = 0 := by simp at hi; omega
    exact ⟨⟨hj.1, hj.2⟩, fun h0 => by omega⟩
  have hs : codeS x [j] = 0 := by unfold codeS; rw [if_pos (tv_true hk), if_pos (tv_true hr)]
  have hr2 := hr
  rw [hq] at hr2
  have hgs := rises_small hr2
  have hbt : bitsOf [j] < 256 := Nat.lt_of_lt_of_le (bitsOf_lt (m := q) (fun x hx => by have := hgs x hx; omega)) (Nat.pow_le_pow_right (by decide) (show q ≤ 8 by omega))
  have e : rowsP (fun i => (bitsOf [j]).testBit (x.2.1.getD i 0).toNat) x.2.1.length = rowsOf x.2.1 j := by
    have h := rowsG_spec hk' hr
    rw [rows_one] at h
    exact h.symm
  refine KW.callE rfl rfl rfl rfl rfl (schemeCode x [j] hB (by simp) h1.up h2.up h3.up) (fun _ _ => ?_)
  rw [hs]
  refine KW.cF rfl rfl (by first | (simp; done) | decide) ?_
  refine KW.callE rfl rfl rfl rfl rfl (crowdOf (m := q) (by omega) (by simp) hgs h3.up) (fun _ _ => ?_)
  refine KW.callN1 rfl rfl rfl rfl rfl (rowsHeld x.1 x.2.2.1 x.2.2.2.1 (bitsOf [j]) (by omega) hB.2.1 hk'.own hk'.h7 h1.up) (fun v HR SR mR _ _ hv => ?_)
  obtain ⟨a5, c5, rfl, hR⟩ := hv
  rw [e] at hR ⊢
  refine KW.retM1 rfl rfl rfl rfl (fun H1 g => ?_)
  exact ⟨a5, c5, rfl, ml1' (g.made (by omega) hR)⟩
end
end Go.Proofs.Ytijmkfnmdhpakaa.Am
/- How the laws on bytes read their arguments; deals are small. Each holds under its own conditions. -/
set_option linter.unusedVariables false
set_option linter.unusedSimpArgs false
set_option maxRecDepth 20000
namespace Go.Proofs.Ytijmkfnmdhpakaa.Am
open Go Go.RowKit Go.Proofs
abbrev W_B (x : List Int) : Prop := x.length ≤ 9223372036854775807 ∧ ∀ y ∈ x, 0 ≤ y ∧ y < 256
abbrev K_B : Kn (List Int) := KB.sl
section
variable {S : Ids} {H0 : AH}
theorem a2Long {p0 p1 : Option Addr} {n0 n1 q0 q1 : Nat} : Spec Try.prog S H0 44 [.slice p0 n0 q0, .slice p1 n1 q1] (fun v => ∃ b : Bool, v = .bool b ∧ (b = false → n0 ≤ 3000 ∧ n1 ≤ 3000)) := by
  refine Spec.of1 Try.func44 rfl (by kernel_rfl) rfl (fun H _ => ?_)
  refine KW.tst rfl rfl (fun h => ?_) (fun h => ?_)
  · refine KW.ret rfl rfl rfl rfl ?_
    exact ⟨_, rfl, fun h2 => by cases h2⟩
  · have h : ¬ (n0 : Int) > 3000 := h
    refine KW.ret rfl rfl rfl rfl ?_
    exact ⟨_, rfl, fun h2 => by have h2 : decide ((n1 : Int) > 3000) = false := h2; simp at h2; omega⟩
end
theorem sum_bound {l : List Nat} {b : Nat} (h : ∀ x ∈ l, x ≤ b) : sum l ≤ l.length * b := by
  induction l with
  | nil => simp [sum]
  | cons x l ih =>
    have h1 := h x (List.mem_cons_self ..)
    have h2 := ih (fun y hy => h y (List.mem_cons_of_mem _ hy))
    simp only [sum, List.length_cons, Nat.succ_mul]
    omega
theorem sml_small {L : List (List Int)} (hl : L.length ≤ 1000) (h : ∀ r ∈ L, r.length ≤ 1000) : B_Int64SS L := by
  refine ⟨by omega, ?_⟩
  have h1 := sum_bound (l := lens L) (b := 1000) (fun x hx => by
    obtain ⟨r, hr, rfl⟩ := List.mem_map.1 hx
    exact h r hr)
  have h2 : (lens L).length = L.length := by simp [lens]
  have h3 : (lens L).length * 1000 ≤ 1000 * 1000 := Nat.mul_le_mul_right _ (by omega)
  omega
theorem deal_small {x : T_Deal} (hd : DealOk x) : B_Deal x := by
  have hk := hd.sch
  have h1 := hk.h1
  have h7 := hk.h7
  have hl := hk.mat.len
  have hol := hk.len
  have hp1 := hk.mat.pr.1
  have hp2 := hk.mat.pr.2.1
  have hc1 := hk.c1
  have hc2 := hk.mat.c1
  have hb := hd.bl
  have hkl := hd.kl
  have hs := hd.sec
  have hkeys : ∀ y ∈ x.2.2.2, y.length ≤ 20 ∧ ∀ r ∈ y, r.length ≤ 2 := fun y hy => by
    obtain ⟨i, hi⟩ := List.getElem?_of_mem hy
    have hlt := (List.getElem?_eq_some_iff.1 hi).1
    have h := (hd.bk i _ y (List.getElem?_eq_getElem (by omega)) hi).2
    exact ⟨by have := h.1; omega, fun r hr => by have := (h.2 r hr).1; omega⟩
  refine ⟨⟨⟨by omega, by omega⟩, by show x.1.2.1.length ≤ _; omega, ⟨by omega, by omega⟩, ⟨by omega, by omega⟩, sml_small (by omega) (fun r hr => by have := (hk.mat.row r hr).1; omega)⟩, ⟨by omega, by omega⟩, sml_small (by omega) (fun r hr => by
    obtain ⟨i, hi⟩ := List.getElem?_of_mem hr
    have hlt := (List.getElem?_eq_some_iff.1 hi).1
    have h := (hd.bk i r _ hi (List.getElem?_eq_getElem (by omega))).1.1
    omega), ⟨by omega, fun y hy => sml_small (by have := (hkeys y hy).1; omega) (fun r hr => by have := (hkeys y hy).2 r hr; omega), ?_⟩⟩
  have h3 := sum_bound (l := x.2.2.2.map sz_Int64SS) (b := 1000) (fun z hz => by
    obtain ⟨y, hy, rfl⟩ := List.mem_map.1 hz
    have h4 := sum_bound (l := lens y) (b := 2) (fun w hw => by
      obtain ⟨r, hr, rfl⟩ := List.mem_map.1 hw
      exact (hkeys y hy).2 r hr)
    have h5 : (lens y).length = y.length := by simp [lens]
    have h6 := (hkeys y hy).1
    show sum (lens y) ≤ 1000
    omega)
  rw [List.length_map] at h3
  omega
end Go.Proofs.Ytijmkfnmdhpakaa.Am
/- The law FnTags returns true. No condition beyond the reading of the arguments. -/
set_option linter.unusedVariables false
set_option linter.unusedSimpArgs false
set_option maxRecDepth 20000
set_option maxHeartbeats 4000000
namespace Go.Proofs.Ytijmkfnmdhpakaa.Am
open Go Go.RowKit Go.Proofs Go.Proofs.Ytijmkfnmdhpakaa.Pl
section
variable {S : Ids} {H0 : AH}
theorem lawTags {ar0 ar1 : List Int} {p0 p1 : Option Addr} {q0 q1 : Nat} (hW0 : W_B ar0) (h0 : K_B.R S H0 ar0 [.slice p0 ar0.length q0]) (hW1 : W_B ar1) (h1 : K_B.R S H0 ar1 [.slice p1 ar1.length q1]) : Spec Try.prog S H0 8 [.slice p0 ar0.length q0, .slice p1 ar1.length q1] (fun v => v = .bool true) := by
  have s0 := sl1 h0
  have s1 := sl1 h1
  refine Spec.of1 Try.func8 rfl (by kernel_rfl) rfl (fun H _ => ?_)
  refine KW.call rfl rfl rfl rfl rfl (a2Long) (fun v _ _ hv => ?_)
  obtain ⟨b, rfl, hb⟩ := hv
  cases b with
  | true =>
    refine KW.cT rfl rfl (by first | (simp; done) | decide) ?_
    exact KW.ret rfl rfl rfl rfl (rfl)
  | false =>
  have hb := hb rfl
  refine KW.cF rfl rfl (by first | (simp; done) | decide) ?_
  refine KW.callN1 rfl rfl rfl rfl rfl (a2Deal hW0.2 (by omega) s0.up) (fun v HM SM mM _ _ hv => ?_)
  obtain ⟨x, cs, rfl, hd, hR0⟩ := hv
  have hR : K_Deal.R SM HM x cs := On.R hR0
  clear hR0
  obtain ⟨a1, c1, a2, c2, a3, c3, a4, c4, rfl, d1, d2, d3, d4⟩ := split2_Deal hR
  have hB := deal_small hd
  have hk := hd.sch
  have hpr := hk.mat.pr
  have hp2 := hpr.1
  have hp31 := hpr.2.1
  have hh1 := hk.h1
  have hh7 := hk.h7
  have hbl := hd.bl
  refine KW.call rfl rfl rfl rfl rfl (a2At hW1.2 (at_ := 0) (n := (x.2.2.1.length : Int)) (by omega) (by omega) s1.up) (fun v _ _ hv => ?_)
  obtain ⟨e, rfl, e0, e1⟩ := hv
  refine KW.call rfl rfl rfl rfl rfl (a2At hW1.2 (at_ := 1) (n := x.1.1) (by omega) (by omega) s1.up) (fun v _ _ hv => ?_)
  obtain ⟨j, rfl, j0, j1⟩ := hv
  refine KW.call rfl rfl rfl rfl rfl (a2At hW1.2 (at_ := 2) (n := x.1.2.2.1) (by omega) (by omega) s1.up) (fun v _ _ hv => ?_)
  obtain ⟨l, rfl, l0, l1⟩ := hv
  have hcode : codeD x e j = 0 := by unfold codeD; rw [if_pos (tv_true hd), if_pos ⟨⟨e0, by omega⟩, ⟨j0, by omega⟩⟩]
  obtain ⟨E, J, hda⟩ := codeD_ok hcode
  have heI : I64 e := ⟨by omega, by omega⟩
  have hjI : I64 j := ⟨by omega, by omega⟩
  have hlI : I64 l := ⟨by omega, by omega⟩
  have hve : Elems x.1.2.2.1 (valsD x e j) := vals_in hpr
  have hvl : (valsD x e j).length = (rowsOf x.1.2.1 j).length := vals_len
  have htl : (tagsD x e j (valsD x e j)).length = (rowsOf x.1.2.1 j).length := tags_len
  have hol : (rowsOf x.1.2.1 j).length ≤ 20 := by
    have h1 : (rowsOf x.1.2.1 j).length ≤ x.1.2.1.length := rowsP_len _ _
    have := hk.len
    have := hk.mat.len
    omega
  have hte : Elems x.1.2.2.1 (tagsD x e j (valsD x e j)) := fun y hy => by
    unfold tagsD tagsOf at hy
    obtain ⟨k, _, rfl⟩ := List.mem_map.1 hy
    unfold tagAt
    have := Int.emod_nonneg (((kkD x e).getD ((rowsOf x.1.2.1 j).getD k 0).toNat []).getD 0 0 * (valsD x e j).getD k 0 + ((kkD x e).getD ((rowsOf x.1.2.1 j).getD k 0).toNat []).getD 1 0) (show x.1.2.2.1 ≠ 0 by omega)
    have := Int.emod_lt_of_pos (((kkD x e).getD ((rowsOf x.1.2.1 j).getD k 0).toNat []).getD 0 0 * (valsD x e j).getD k 0 + ((kkD x e).getD ((rowsOf x.1.2.1 j).getD k 0).toNat []).getD 1 0) (show 0 < x.1.2.2.1 by omega)
    omega
  have hfit : FitOk x j (valsD x e j) (tagsD x e j (valsD x e j)) := ⟨hvl, htl, hve, hte⟩
  have kv := impl_DealValues (S := SM) (H0 := HM) e j heI hjI hB hR
  unfold r0_DealValues at kv
  rw [if_pos hcode, hcode] at kv
  refine KW.callN1 rfl rfl rfl rfl rfl (kv) (fun v HV SV mV _ _ hv => ?_)
  obtain ⟨av, cv, rfl, hV⟩ := hv
  have hV := ml1 hV
  have kt := impl_DealTags (S := SV) (H0 := HV) e j heI hjI hB (On.R hR)
  unfold r0_DealTags at kt
  rw [if_pos hcode, hcode] at kt
  refine KW.callN1 rfl rfl rfl rfl rfl (kt) (fun v HT ST mT _ _ hv => ?_)
  obtain ⟨at_, ct, rfl, hT⟩ := hv
  have hT := ml1 hT
  have kl := impl_LiesThatPass (S := ST) (H0 := HT) e j heI hjI hB (On.R hR)
  unfold r0_LiesThatPass at kl
  rw [if_pos hcode, hcode] at kl
  refine KW.callN1 rfl rfl rfl rfl rfl (kl) (fun v HL SL mL _ _ hv => ?_)
  obtain ⟨al, cl, rfl, hL⟩ := hv
  have hL := ml1 hL
  have kf := impl_TagsFit (S := SL) (H0 := HL) (vals := valsD x e j) (tg := tagsD x e j (valsD x e j)) (a5 := av) (c5 := cv) (a6 := at_) (c6 := ct) e j heI hjI hB (by show _ ≤ _; omega) (by show _ ≤ _; omega) (On.R hR) (sl1' hV.ups) (sl1' hT.ups)
  unfold r0_TagsFit r1_TagsFit at kf
  rw [if_pos hcode, if_pos hcode, if_pos (tv_true hfit), if_pos (tv_true hfit), tv_true rfl] at kf
  refine KW.callE rfl rfl rfl rfl rfl (kf) (fun _ _ => ?_)
  refine KW.tF rfl rfl (by first | (simp; done) | decide) ?_
  refine KW.tF rfl rfl (by first | (simp; done) | decide) ?_
  refine KW.tF rfl rfl (by first | (simp; done) | decide) ?_
  refine KW.tF rfl rfl (by first | (simp; done) | decide) ?_
  refine KW.tF rfl rfl (by first | (simp; done) | decide) ?_
  refine KW.tF rfl rfl (by simp only [hvl, htl]; simp) ?_
  have hpl : (passN x e j x.1.2.2.1.toNat).length ≤ 31 := by
    have h1 : (passN x e j x.1.2.2.1.toNat).length ≤ x.1.2.2.1.toNat := rowsP_len _ _
    omega
  refine KW.callE rfl rfl rfl rfl rfl (a2Has (w := 0) (by omega) hL.ups) (fun _ _ => ?_)
  rw [decide_eq_true (pass_zero (x := x) (e := e) (j := j) (n := x.1.2.2.1.toNat) (by omega) hve)]
  refine KW.cF rfl rfl (by first | (simp; done) | decide) ?_
  have d3L : KI.sl.Sl SL HL (.slice a3 x.2.2.1.length c3) x.2.2.1 := d3.up
  refine KW.getL d3L rfl rfl rfl rfl rfl rfl rfl rfl rfl rfl rfl rfl rfl rfl rfl rfl (e0) (e1) (fun y ay cy hy hsy => ?_)
  have hy : x.2.2.1[e.toNat]? = some y := hy
  have ey : y = blD x e := by
    have h := hda.hb
    have e2 : E = e.toNat := by have := hda.ee; omega
    rw [e2, hy] at h
    exact Option.some.inj h
  have hyl : (y.length : Int) = x.1.2.2.2.1 - 1 := by rw [ey]; exact hda.bl.1
  have hye : Elems x.1.2.2.1 y := by rw [ey]; exact hda.bl.2
  refine KW.callN1 rfl rfl rfl rfl rfl (sharesOf x.1.1 x.1.2.2.1 x.1.2.2.2.1 x.2.1 hB.1.2.1 hB.1.2.2.2.2 hk hd.sec hyl hye d1.up d2.up hsy) (fun v HS SS mS _ _ hv => ?_)
  obtain ⟨v', rfl, aS, cS, rfl, hS⟩ := hv
  refine KW.tF rfl rfl (by first | (simp; done) | decide) ?_
  refine KW.lit rfl rfl rfl rfl rfl rfl rfl rfl rfl rfl [.int .i64 j] rfl rfl (fun v hv => by simp at hv; subst hv; rfl) rfl ?_
  have hall : (shares x.1.2.2.1 x.1.2.2.2.2 (x.2.1 :: y)).length = x.1.2.1.length := by unfold shares; rw [List.length_map]; exact hk.len.symm
  refine KW.callNV1 rfl rfl rfl rfl rfl (fun H1 g _ => a2Held x.1.1 x.1.2.2.1 x.1.2.2.2.1 (gr := [j]) hB.1.2.1 hall (by simp) d1.up hS.ups (g.ints (j := 1) rfl rfl (by simp))) (fun v HH SH mH _ _ hv => ?_)
  obtain ⟨ah, ch, rfl, hH⟩ := hv
  have hev : heldV x.1.2.1 (shares x.1.2.2.1 x.1.2.2.2.2 (x.2.1 :: y)) [j] = valsD x e j := by rw [held_one, ey]; rfl
  rw [hev] at hH ⊢
  refine KW.callE rfl rfl rfl rfl rfl (a2Same (by omega) hH.ups hV.ups) (fun _ _ => ?_)
  rw [decide_eq_true (rfl : valsD x e j = valsD x e j)]
  refine KW.cF rfl rfl (by first | (simp; done) | decide) ?_
  refine KW.cnd rfl rfl (fun k1 => ?_) (fun k1 => ?_)
  · have k1 : ((valsD x e j).length : Int) = 0 := k1
    have hnil : valsD x e j = [] := List.eq_nil_of_length_eq_zero (by omega)
    have hpn := pass_nil (x := x) (e := e) (j := j) (n := x.1.2.2.1.toNat) hnil
    refine KW.retM rfl rfl rfl rfl (fun id hid => (inferInstance : On (Low H.n) H SH HH).st id hid) (fun H1 g => ?_)
    show Value.bool (((passN x e j x.1.2.2.1.toNat).length : Int) == x.1.2.2.1) = .bool true
    rw [hpn, Int.toNat_of_nonneg (by omega)]
    simp
  · have k1 : ¬ ((valsD x e j).length : Int) = 0 := k1
    have hne : valsD x e j ≠ [] := fun h => k1 (by rw [h]; rfl)
    refine KW.lit rfl rfl rfl rfl rfl rfl rfl rfl rfl rfl [] rfl rfl (fun v hv => by simp at hv) rfl ?_
    refine KW.appV 2 rfl rfl rfl rfl rfl rfl rfl rfl rfl rfl (fun H1 g => acells_I hV.ups g) (by simp) (by simp) (fun v hv => by obtain ⟨_, _, rfl⟩ := List.mem_map.1 hv; rfl) (by show (_ + _) * 8 ≤ _; simp only [List.length_cons, List.length_nil]; omega) (by simp only [List.length_cons, List.length_nil]; omega) (show 0 + (valsD x e j).length = (valsD x e j).length from by omega) (fun ot _ _ => ?_)
    obtain ⟨v, vs, hv⟩ : ∃ v vs, valsD x e j = v :: vs := by
      cases h1 : valsD x e j with
      | nil => exact absurd h1 hne
      | cons v vs => exact ⟨v, vs, rfl⟩
    have hvb : 0 ≤ v ∧ v ≤ x.1.2.2.1 - 1 := hve v (by rw [hv]; exact List.mem_cons_self ..)
    have ew : IntKind.i64.wrap (v + l) = v + l := wr (by omega) (by omega)
    refine KW.idx0 rfl rfl rfl rfl rfl rfl rfl rfl rfl (by omega) (by omega) ?_
    refine KW.ldT 2 rfl rfl rfl rfl rfl rfl (bload_at (by show ([] ++ (valsD x e j).map (Value.int .i64))[0 + (0 : Int).toNat * 1]? = some (.int .i64 v); rw [hv]; rfl) rfl rfl) ?_
    refine KW.rem rfl rfl rfl rfl rfl rfl (by rw [ew]; omega) (by omega) ?_
    refine KW.idx0 rfl rfl rfl rfl rfl rfl rfl rfl rfl (by omega) (by omega) ?_
    refine KW.st1 2 rfl rfl rfl rfl rfl rfl rfl rfl rfl rfl rfl rfl (by rw [hv]; simp) ?_
    refine KW.freeze 2 rfl (fun AF SF hnF hSF stF hmF hoF hnoF hlowF => ?_)
    have hm2 : AF.m ot = some ⟨2, true, (lieOf x.1.2.2.1 (valsD x e j) l).map (Value.int .i64)⟩ := hmF.trans (by
      rw [hv]
      show some (⟨_, true, Value.int .i64 (IntKind.i64.wrap (v + l) % x.1.2.2.1) :: vs.map (Value.int .i64)⟩ : Blk) = _
      rw [ew]; rfl)
    have hTold := (row_ml hm2).sl.more (S' := SF) (fun id h => by rw [h]; exact (hSF _).2 (.inr rfl))
    have hfit2 : FitOk x j (lieOf x.1.2.2.1 (valsD x e j) l) (tagsD x e j (valsD x e j)) := ⟨lie_len.trans hvl, htl, lie_in hpr hve, hte⟩
    have kf2 := impl_TagsFit (S := SF) (H0 := AF) (vals := lieOf x.1.2.2.1 (valsD x e j) l) (tg := tagsD x e j (valsD x e j)) (a5 := some ⟨ot, 0, some 1⟩) (c5 := (lieOf x.1.2.2.1 (valsD x e j) l).length) (a6 := at_) (c6 := ct) e j heI hjI hB (by show _ ≤ _; rw [lie_len]; omega) (by show _ ≤ _; omega) (On.R hR) (sl1' hTold) (sl1' hT.ups)
    unfold r0_TagsFit r1_TagsFit at kf2
    rw [if_pos hcode, if_pos hcode, if_pos (tv_true hfit2), if_pos (tv_true hfit2), lie_len] at kf2
    refine KW.callE rfl rfl rfl rfl rfl (kf2) (fun _ _ => ?_)
    refine KW.lit rfl rfl rfl rfl rfl rfl rfl rfl rfl rfl [.int .i64 j] rfl rfl (fun v hv => by simp at hv; subst hv; rfl) rfl ?_
    refine KW.callNV1 rfl rfl rfl rfl rfl (fun H1 g _ => rowsHeldP x.1 j hB.1 hk ⟨j0, by omega⟩ d1.up d2.up (g.ints (j := 2) rfl rfl (by simp))) (fun v HR SR mR _ _ hv => ?_)
    obtain ⟨ar, cr, rfl, hRw⟩ := hv
    have hRw := ml1 hRw
    refine KW.tF rfl rfl (by first | (simp; done) | decide) ?_
    refine KW.tF rfl rfl (by first | (simp; done) | decide) ?_
    refine KW.tF rfl rfl (by simp; omega) ?_
    refine KW.getI hRw.ups rfl rfl rfl rfl rfl rfl rfl rfl rfl rfl rfl rfl rfl rfl rfl rfl (by omega) (by omega) (fun r0 hr0 => ?_)
    have hr0 : (rowsOf x.1.2.1 j)[0]? = some r0 := hr0
    have hrm := rowsP_mem (List.mem_of_getElem? hr0)
    refine KW.tF rfl rfl (by simp; omega) ?_
    refine KW.getI hRw.ups rfl rfl rfl rfl rfl rfl rfl rfl rfl rfl rfl rfl rfl rfl rfl rfl (by omega) (by omega) (fun r1 hr1 => ?_)
    have hr1 : (rowsOf x.1.2.1 j)[0]? = some r1 := hr1
    obtain rfl : r0 = r1 := by rw [hr0] at hr1; exact Option.some.inj hr1
    have d4R : KI.sl.sl.Sl SR HR (.slice a4 x.2.2.2.length c4) x.2.2.2 := d4.up
    have hkl := hd.kl
    refine KW.getL d4R rfl rfl rfl rfl rfl rfl rfl rfl rfl rfl rfl rfl rfl rfl rfl rfl (e0) (by omega) (fun kk akk ckk hkk hskk => ?_)
    have hkk : x.2.2.2[e.toNat]? = some kk := hkk
    have ekk : kk = kkD x e := by
      have h := hda.hk
      have e2 : E = e.toNat := by have := hda.ee; omega
      rw [e2, hkk] at h
      exact Option.some.inj h
    have hkey : KeysOk x.1.2.2.1 x.1.2.2.2.2.length kk := by rw [ekk]; exact hda.key
    have hkkl := hkey.1
    have holr := hk.len
    refine KW.tF rfl rfl (by simp; omega) ?_
    refine KW.callE rfl rfl rfl rfl rfl (a2Has (w := l) (by omega) hL.ups) (fun _ _ => ?_)
    have ein : tv (tagsD x e j (lieOf x.1.2.2.1 (valsD x e j) l) = tagsD x e j (valsD x e j)) = decide (l ∈ passN x e j x.1.2.2.1.toNat) := by
      by_cases h : tagsD x e j (lieOf x.1.2.2.1 (valsD x e j) l) = tagsD x e j (valsD x e j)
      · rw [tv_true h, decide_eq_true ((pass_in ⟨l0, by omega⟩).2 h)]
      · rw [tv_false h, decide_eq_false (fun hc => h ((pass_in ⟨l0, by omega⟩).1 hc))]
    refine KW.cF rfl rfl (show (!(tv (tagsD x e j (lieOf x.1.2.2.1 (valsD x e j) l) = tagsD x e j (valsD x e j)) == decide (l ∈ passN x e j x.1.2.2.1.toNat))) = false by rw [ein]; simp) ?_
    refine KW.getL d4R rfl rfl rfl rfl rfl rfl rfl rfl rfl rfl rfl rfl rfl rfl rfl rfl (e0) (by omega) (fun k2 ak2 ck2 hk2 hsk2 => ?_)
    have hk2 : x.2.2.2[e.toNat]? = some k2 := hk2
    obtain rfl : kk = k2 := by rw [hkk] at hk2; exact Option.some.inj hk2
    refine KW.getI hRw.ups rfl rfl rfl rfl rfl rfl rfl rfl rfl rfl rfl rfl rfl rfl rfl rfl (by omega) (by omega) (fun r2 hr2 => ?_)
    have hr2 : (rowsOf x.1.2.1 j)[0]? = some r2 := hr2
    obtain rfl : r0 = r2 := by rw [hr0] at hr2; exact Option.some.inj hr2
    refine KW.getL hsk2 rfl rfl rfl rfl rfl rfl rfl rfl rfl rfl rfl rfl rfl rfl rfl rfl (hrm.1) (by omega) (fun kr akr ckr hkr hskr => ?_)
    have hkrl := (hkey.2 kr (List.mem_of_getElem? hkr)).1
    refine KW.getI hskr rfl rfl rfl rfl rfl rfl rfl rfl rfl rfl rfl rfl rfl rfl rfl rfl (by omega) (by omega) (fun z hz => ?_)
    have hz : kr[0]? = some z := hz
    have ez : ((kkD x e).getD ((rowsOf x.1.2.1 j).getD 0 0).toNat []).getD 0 0 = z := by
      rw [← ekk, show (rowsOf x.1.2.1 j).getD 0 0 = r0 from by rw [List.getD_eq_getElem?_getD, hr0]; rfl, show kk.getD r0.toNat [] = kr from by rw [List.getD_eq_getElem?_getD, hkr]; rfl, List.getD_eq_getElem?_getD, hz]
      rfl
    have h1 := pass_one hda hne
    rw [ez] at h1
    refine KW.retM rfl rfl rfl rfl (fun id hid => (inferInstance : On (Low H.n) H SR HR).st id hid) (fun H1 g => ?_)
    show Value.bool ((!(z == 0)) == (((passN x e j x.1.2.2.1.toNat).length : Int) == 1)) = .bool true
    by_cases hz0 : z = 0
    · have h2 : ¬ (passN x e j x.1.2.2.1.toNat).length = 1 := fun h => h1.1 h hz0
      have h3 : (((passN x e j x.1.2.2.1.toNat).length : Int) == 1) = false := by simp; omega
      rw [h3, hz0]; rfl
    · have h2 := h1.2 hz0
      rw [h2]
      simp [hz0]
end
end Go.Proofs.Ytijmkfnmdhpakaa.Am
/- A row's closed facts, each by itself. No condition beyond them. -/
namespace Go.Proofs.Ytijmkfnmdhpakaa.Am
open Go
theorem joined_of {P : Program} {f : FuncId} {fn : Func} {s : ChangeSpec} {c : OpenClaim}
    (h0 : (c.wf (OpenSpec.ofChange s)) = true)
    (h1 : (laidOutB P) = true)
    (h2 : (mapsRowed P) = true)
    (h3 : (fn.params.all (P.readableRec ·)) = true)
    (h4 : (namedTie P c.named s.vars) = true)
    (h5 : ((c.stops == [])) = true)
    (h6 : ((P.stops == [])) = true)
    (h7 : ((c.knobs == [])) = true)
    (h8 : ((P.stopKnobs == [])) = true)
    (h9 : ((c.inPlace == P.inPlace f)) = true)
    (h10 : ((c.unfollowed == P.unfollowed f)) = true)
    (h11 : ((c.recurses == P.recurses f)) = true)
    (h12 : ((c.named == P.varsNamed f)) = true)
    (h13 : ((c.maps == (fn.params.toList ++ s.plain.varTypes P).any (P.mapsRec ·))) = true)
    (h14 : ((c.ifaces == (fn.params.toList ++ s.plain.varTypes P).any (P.ifacesRec ·))) = true)
    (h15 : ((c.mapsOut == P.mapsAmong fn.resultTypes.toList)) = true)
    (h16 : ((c.loops == (fn.params.toList ++ s.plain.varTypes P).any (P.loopsFrom ·))) = true)
    (h17 : ((c.wideKeys == (fn.params.toList ++ s.plain.varTypes P ++ fn.resultTypes.toList).any (P.wideKeysFrom ·))) = true)
    (h18 : (s.vars.all (P.varReadable ·)) = true)
    (h19 : (fn.resultTypes.all (fun t => P.readableRec t && decide (t < P.types.size))) = true)
    (h20 : ((c.ifacesOut == fn.resultTypes.toList.any (P.ifacesRec ·))) = true)
    (h21 : ((c.loopsOut == fn.resultTypes.toList.any (P.loopsFrom ·))) = true)
    (h22 : ((c.plainKeys == P.plainKeys)) = true)
    (h23 : (c.shortTexts.isNone) = true)
    (h24 : (P.stopsHeard) = true)
    (h25 : (P.mayEnter) = true)
    (h26 : ((c.lifted == P.liftsFinal)) = true)
    (h27 : ((P.make == some c.make)) = true)
    (h28 : ((c.kinds == (if c.domain.isEmpty then [] else fn.params.toList.map fun t => match P.underlying t with | some (.int k) => some k | _ => none))) = true)
    (h29 : ((c.pinned == c.pinnedBy)) = true)
    (h30 : ((c.veiled == (fn.params.toList ++ s.plain.varTypes P ++ fn.resultTypes.toList).any (P.veiledRec ·))) = true)
    (h31 : (c.veiledFits P fn.params.toList (fn.params.toList ++ s.plain.varTypes P ++ fn.resultTypes.toList)) = true)
    : joinedFacts P f fn s c = true := by
  unfold joinedFacts
  simp only [Bool.and_eq_true]
  exact ⟨⟨⟨⟨⟨⟨⟨⟨⟨⟨⟨⟨⟨⟨⟨⟨⟨⟨⟨⟨⟨⟨⟨⟨⟨⟨⟨⟨⟨⟨⟨h0, h1⟩, h2⟩, h3⟩, h4⟩, h5⟩, h6⟩, h7⟩, h8⟩, h9⟩, h10⟩, h11⟩, h12⟩, h13⟩, h14⟩, h15⟩, h16⟩, h17⟩, h18⟩, h19⟩, h20⟩, h21⟩, h22⟩, h23⟩, h24⟩, h25⟩, h26⟩, h27⟩, h28⟩, h29⟩, h30⟩, h31⟩
end Go.Proofs.Ytijmkfnmdhpakaa.Am
