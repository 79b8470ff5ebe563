/- Arguments of a law, read as data, stand in abstract memory; and what a contract says holds of the machine's call. For every program. No condition beyond each theorem's own. -/
import Derived.Test.YtaepgfafbnjccaaAm20
import Derived.SizedLaws
import Derived.ChangeSlices
import Derived.ChangeArms
import Derived.Deep.Slices
set_option linter.unusedSimpArgs false
set_option linter.unusedVariables false
namespace Go.Proofs.Ytaepgfafbnjccaa.Am
open Go Go.RowKit Go.ChangeShapes Go.WideShapes
/-- The abstract memory A is the world's, and nothing else is named. -/
structure Pre (w : World) (ρ : Ren) (A : AH) : Prop where
  wr : WR w ρ A w
  free : ∀ id, A.n ≤ id → ρ id = none
structure Up (ρ : Ren) (A : AH) (ρ' : Ren) (A' : AH) : Prop where
  nle : A.n ≤ A'.n
  m : ∀ id, id < A.n → A'.m id = A.m id
  r : ∀ id, id < A.n → ρ' id = ρ id
theorem Up.refl (ρ : Ren) (A : AH) : Up ρ A ρ A := ⟨Nat.le_refl _, fun _ _ => rfl, fun _ _ => rfl⟩
theorem Up.trans {ρ ρ1 ρ2 : Ren} {A A1 A2 : AH} (h : Up ρ A ρ1 A1) (k : Up ρ1 A1 ρ2 A2) : Up ρ A ρ2 A2 := by
  have := h.nle
  have := k.nle
  exact ⟨by omega, fun id hi => by rw [k.m id (by omega), h.m id hi], fun id hi => by rw [k.r id (by omega), h.r id hi]⟩
theorem Up.le {w : World} {ρ ρ' : Ren} {A A' : AH} (h : Up ρ A ρ' A') (p : Pre w ρ A) : Le ρ ρ' := fun id l hl => by
  rcases Nat.lt_or_ge id A.n with hi | hi
  · rw [h.r id hi]; exact hl
  · rw [p.free id hi] at hl; cases hl
def CR (ρ : Ren) (acs cs : List Value) : Prop := acs.length = cs.length ∧ ∀ (i : Nat) v, acs[i]? = some v → ∃ c, cs[i]? = some c ∧ VR ρ v c
theorem CR.mono {ρ ρ' : Ren} (hl : Le ρ ρ') {acs cs : List Value} (h : CR ρ acs cs) : CR ρ' acs cs := ⟨h.1, fun i v hv => by
  obtain ⟨c, h1, h2⟩ := h.2 i v hv
  exact ⟨c, h1, h2.mono hl⟩⟩
theorem CR.one {ρ : Ren} {v c : Value} (h : VR ρ v c) : CR ρ [v] [c] := ⟨rfl, fun i u hu => by
  cases i with
  | zero => cases hu; exact ⟨c, rfl, h⟩
  | succ i => simp at hu⟩
theorem CR.append {ρ : Ren} {a b c d : List Value} (h : CR ρ a c) (k : CR ρ b d) : CR ρ (a ++ b) (c ++ d) := by
  refine ⟨by simp [h.1, k.1], fun i v hv => ?_⟩
  rcases Nat.lt_or_ge i a.length with hi | hi
  · rw [List.getElem?_append_left hi] at hv
    obtain ⟨u, h1, h2⟩ := h.2 i v hv
    exact ⟨u, by rw [List.getElem?_append_left (by rw [← h.1]; exact hi)]; exact h1, h2⟩
  · rw [List.getElem?_append_right hi] at hv
    obtain ⟨u, h1, h2⟩ := k.2 _ v hv
    exact ⟨u, by rw [List.getElem?_append_right (by rw [← h.1]; exact hi), ← h.1]; exact h1, h2⟩
theorem CR.vrs {ρ : Ren} {a c : List Value} (h : CR ρ a c) : VRs ρ a.toArray c.toArray := by
  refine ⟨by simp [h.1], fun i hi => ?_⟩
  have hi' : i < a.length := by simpa using hi
  obtain ⟨u, h1, h2⟩ := h.2 i a[i] (List.getElem?_eq_getElem hi')
  simpa [List.getD_eq_getElem?_getD, h1, List.getElem?_eq_getElem hi'] using h2
theorem CR.agg {ρ : Ren} {a : List Value} {c : Array Value} (h : CR ρ a c.toList) : VR ρ (.agg a.toArray) (.agg c) := by
  have := h.vrs
  simp only [Array.toArray_toList] at this
  exact .agg _ _ this.1 this.2
theorem Pre.push {w : World} {ρ : Ren} {A : AH} (p : Pre w ρ A) {ty : Nat} {F : List Value} {l : Loc} (hb : l.blk < w.heap.size) (hF : ∀ (q : Nat) v, F[q]? = some v → ∃ c, w.cell? ⟨l.blk, l.off + q, none⟩ = some c ∧ VR ρ v c) :
    Pre w (fun id => if id = A.n then some l else ρ id) ⟨A.n + 1, fun id => if id = A.n then some ⟨ty, false, F⟩ else A.m id⟩ ∧ Up ρ A (fun id => if id = A.n then some l else ρ id) ⟨A.n + 1, fun id => if id = A.n then some ⟨ty, false, F⟩ else A.m id⟩ := by
  have up : Up ρ A (fun id => if id = A.n then some l else ρ id) ⟨A.n + 1, fun id => if id = A.n then some ⟨ty, false, F⟩ else A.m id⟩ := ⟨Nat.le_succ _, fun id hi => if_neg (by omega), fun id hi => if_neg (by omega)⟩
  have le := up.le p
  refine ⟨⟨⟨p.wr.below, ?_, ?_, ?_, ?_, ?_⟩, fun id hi => by have hi : A.n + 1 ≤ id := hi; rw [if_neg (by omega)]; exact p.free id (by omega)⟩, up⟩
  · intro id b l' hi hm hr hrw
    simp only at hi hm hr
    split at hm
    · cases hm; cases hrw
    · rename_i hne
      rw [if_neg hne] at hr
      obtain ⟨h1, cs, h2, h3, h4⟩ := p.wr.own id b l' (by omega) hm hr hrw
      exact ⟨h1, cs, h2, h3, fun i v hv => by obtain ⟨c, h5, h6⟩ := h4 i v hv; exact ⟨c, h5, h6.mono le⟩⟩
  · intro id b l' hi hm hr hrw
    simp only at hi hm hr
    split at hm
    · rename_i he
      cases hm
      rw [if_pos he] at hr
      cases hr
      exact ⟨hb, fun i v hv => by obtain ⟨c, h5, h6⟩ := hF i v hv; exact ⟨c, h5, h6.mono le⟩⟩
    · rename_i hne
      rw [if_neg hne] at hr
      obtain ⟨h1, h4⟩ := p.wr.came id b l' (by omega) hm hr hrw
      exact ⟨h1, fun i v hv => by obtain ⟨c, h5, h6⟩ := h4 i v hv; exact ⟨c, h5, h6.mono le⟩⟩
  · intro id id' b b' l1 l2 hi hi' hm hm' hr hr' hrw hrw' he
    simp only at hi hi' hm hm' hr hr'
    split at hm
    · cases hm; cases hrw
    · rename_i hne
      split at hm'
      · cases hm'; cases hrw'
      · rename_i hne'
        rw [if_neg hne] at hr
        rw [if_neg hne'] at hr'
        exact p.wr.inj id id' b b' l1 l2 (by omega) (by omega) hm hm' hr hr' hrw hrw' he
  · intro id l' hr
    have hr : (if id = A.n then some l else ρ id) = some l' := hr
    split at hr
    · cases hr; exact hb
    · exact p.wr.lt id l' hr
  · intro id hi
    have hi : A.n + 1 ≤ id := hi
    show (if id = A.n then _ else _) = _
    rw [if_neg (by omega)]
    exact p.wr.fin id (by omega)
theorem Pre.start (w : World) : Pre w (fun _ => none) ⟨0, fun _ => none⟩ :=
  ⟨⟨Below.refl _ _, fun _ _ _ h => by simp at h, fun _ _ _ h => by simp at h, fun _ _ _ _ _ _ h => by simp at h, fun _ _ h => by simp at h, fun _ _ => rfl⟩, fun _ _ => rfl⟩
/-- A type's cells, read as data of modest weight, stand in abstract memory as d says. -/
def Opn {α : Type} (P : Program) (t : TypeId) (d : Kn α) (wf : α → Prop) : Prop :=
  ∀ (H : Type) (enc : TypeId × Value → H) (w : World) (base : Nat) (held : Bool) (fuel : Nat) (cs : List Value) (x : DataW H × List MemPlace),
    DataW.trod enc P w base (fun _ => true) held fuel t cs = some x → (∀ n ∈ x.1.weights P t, n ≤ reachBytes) → ∀ ρ A, Pre w ρ A →
      ∃ (a : α) (ρ' : Ren) (A' : AH) (acs : List Value), Up ρ A ρ' A' ∧ Pre w ρ' A' ∧ CR ρ' acs cs ∧ d.R (Low A'.n) A' a acs ∧ wf a
section
variable {P : Program} {t : TypeId}
theorem Opn.int {k : IntKind} (ht : P.underlying t = some (.int k)) : Opn P t (Kn.int k) (fun a => (Lit.int k a).wf = true) := by
  intro H enc w base held fuel cs x h _ ρ A p
  obtain ⟨n, rfl, rfl, hw⟩ := DataW.trod_int ht h
  exact ⟨n, ρ, A, _, Up.refl _ _, p, CR.one (.sc _ rfl), rfl, hw⟩
theorem Opn.bool (ht : P.underlying t = some .bool) : Opn P t Kn.bool (fun _ => True) := by
  intro H enc w base held fuel cs x h _ ρ A p
  obtain ⟨b, rfl, rfl⟩ := DataW.trod_bool ht h
  exact ⟨b, ρ, A, _, Up.refl _ _, p, CR.one (.sc _ rfl), rfl, trivial⟩
theorem Opn.string (ht : P.underlying t = some .string) : Opn P t Kn.str (fun a => a.size ≤ 140737488351232) := by
  intro H enc w base held fuel cs x h hw ρ A p
  obtain ⟨s, rfl, rfl, hs⟩ := DataW.trod_string ht h
  refine ⟨s, ρ, A, _, Up.refl _ _, p, CR.one (.sc _ rfl), rfl, ?_⟩
  have := hw s.data.toList.length (by simp [DataW.weights])
  simpa [reachBytes] using this
theorem Kn.up {α : Type} {d : Kn α} {ρ ρ' : Ren} {A A' : AH} (u : Up ρ A ρ' A') {x : α} {cs : List Value} (h : d.R (Low A.n) A x cs) : d.R (Low A'.n) A' x cs :=
  d.more (fun id hi => Nat.lt_of_lt_of_le hi u.nle) (d.same (fun id hi => u.m id hi) h)
theorem grow {α : Type} {w : World} {d : Kn α} {wf : α → Prop} (p : Nat → List Value → Prop) : ∀ n, (∀ i, i < n → ∀ ρ A, Pre w ρ A → ∃ (a : α) (ρ' : Ren) (A' : AH) (acs cs : List Value), p i cs ∧ Up ρ A ρ' A' ∧ Pre w ρ' A' ∧ CR ρ' acs cs ∧ d.R (Low A'.n) A' a acs ∧ wf a) → ∀ ρ A, Pre w ρ A →
    ∃ (xs : List α) (ρ' : Ren) (A' : AH) (F : List Value), xs.length = n ∧ Up ρ A ρ' A' ∧ Pre w ρ' A' ∧ F.length = n * d.es ∧ (∀ (i : Nat) x, xs[i]? = some x → d.R (Low A'.n) A' x ((F.drop (i * d.es)).take d.es) ∧ wf x) ∧ (∀ i, i < n → ∃ cs, p i cs ∧ CR ρ' ((F.drop (i * d.es)).take d.es) cs)
  | 0, _, ρ, A, hp => ⟨[], ρ, A, [], rfl, Up.refl _ _, hp, by simp, fun i x h => by simp at h, fun i h => by omega⟩
  | n + 1, h, ρ, A, hp => by
    obtain ⟨xs, ρ1, A1, F, hxl, hu, hp1, hFl, hR, hC⟩ := grow p n (fun i hi => h i (by omega)) ρ A hp
    obtain ⟨a, ρ2, A2, acs, cs, hpc, hu2, hp2, hcr, hRa, hwa⟩ := h n (by omega) ρ1 A1 hp1
    have hal : acs.length = d.es := d.len hRa
    have cut : ∀ i, i < n → ((F ++ acs).drop (i * d.es)).take d.es = (F.drop (i * d.es)).take d.es := fun i hi => by
      have h1 : (i + 1) * d.es ≤ n * d.es := Nat.mul_le_mul_right _ (by omega)
      rw [Nat.add_mul] at h1
      rw [List.drop_append_of_le_length (by omega), List.take_append_of_le_length (by rw [List.length_drop]; omega)]
    have last : ((F ++ acs).drop (n * d.es)).take d.es = acs := by
      rw [← hFl, List.drop_left, List.take_of_length_le (by omega)]
    refine ⟨xs ++ [a], ρ2, A2, F ++ acs, by simp [hxl], hu.trans hu2, hp2, by rw [List.length_append, hFl, hal, Nat.add_mul]; omega, fun i x hx => ?_, fun i hi => ?_⟩
    · rcases Nat.lt_or_ge i xs.length with hi | hi
      · rw [List.getElem?_append_left hi] at hx
        rw [cut i (by omega)]
        exact ⟨Kn.up hu2 (hR i x hx).1, (hR i x hx).2⟩
      · have hi' : i = n := by
          have := (List.getElem?_eq_some_iff.1 hx).1
          rw [List.length_append, List.length_singleton] at this
          omega
        subst hi'
        rw [← hxl, List.getElem?_append_right (Nat.le_refl _)] at hx
        simp at hx
        subst hx
        rw [last]
        exact ⟨hRa, hwa⟩
    · rcases Nat.lt_or_ge i n with hi' | hi'
      · rw [cut i hi']
        obtain ⟨cs', h1, h2⟩ := hC i hi'
        exact ⟨cs', h1, h2.mono (hu2.le hp1)⟩
      · obtain rfl : i = n := by omega
        rw [last]
        exact ⟨cs, hpc, hcr⟩
theorem cell_spot {w : World} {a : Addr} {v : Value} (h : w.cell? a = some v) : a.spot = none ∧ a.block < w.heap.size := by
  unfold World.cell? at h
  split at h
  · rename_i c _ _ hc
    split at h
    · cases h
    · rename_i hs
      refine ⟨by cases e : a.spot with | none => rfl | some _ => simp [e] at hs, (Array.getElem?_eq_some_iff.1 hc).1⟩
  · cases h
theorem Opn.slice {α : Type} {el : TypeId} {d : Kn α} {wf : α → Prop} {B : Nat} (ht : P.underlying t = some (.slice el)) (hc : P.cellsOf el = d.es) (hB : P.bytesOf el = B) (hpos : 0 < d.es) (he : Opn P el d wf) :
    Opn P t d.sl (fun xs => xs.length ≤ maxLen ∧ xs.length * B ≤ 140737488351232 ∧ ∀ x ∈ xs, wf x) := by
  intro H enc w base held fuel cs x h hw ρ A p
  rcases DataW.trod_slice ht h with ⟨rfl, rfl⟩ | ⟨a, len, cap, elems, rest, n, _, rfl, rfl, hb, hl, hm, hlen, hel, hsp, hns⟩
  · exact ⟨[], ρ, A, [.slice none 0 0], Up.refl _ _, p, CR.one (.sc _ rfl), ⟨_, rfl, .inl ⟨rfl, none, 0, rfl, fun _ => rfl⟩⟩, by simp, by simp, by simp⟩
  · simp only [DataW.weights, ht] at hw
    have hwt := hw _ List.mem_cons_self
    have hml : maxLen = 9223372036854775807 := by first | rfl | simp [maxLen]
    have each : ∀ i, i < len → ∀ ρ A, Pre w ρ A → ∃ (y : α) (ρ' : Ren) (A' : AH) (acs cs : List Value), (cs.length = d.es ∧ ∀ (j : Nat) u, cs[j]? = some u → w.cell? (a.add (i * d.es + j)) = some u) ∧ Up ρ A ρ' A' ∧ Pre w ρ' A' ∧ CR ρ' acs cs ∧ d.R (Low A'.n) A' y acs ∧ wf y := by
      intro i hi ρ A hp
      have h1 := hel i hi
      obtain ⟨y, hy⟩ : ∃ y, elems[i]? = some y := ⟨elems[i]'(by omega), List.getElem?_eq_getElem (by omega)⟩
      rw [hy, Option.bind_eq_some_iff] at h1
      obtain ⟨c, hcs, hy'⟩ := h1
      have hmem : y.1 ∈ elems.map (·.1) := List.mem_map_of_mem (List.mem_of_getElem? hy)
      have hmw : ∀ n ∈ y.1.weights P el, n ∈ DataW.weightsAll P el (elems.map (·.1)) := by
        intro n hn
        generalize elems.map (·.1) = l at hmem
        induction l with
        | nil => simp at hmem
        | cons z l ih =>
          rw [DataW.weightsAll, List.mem_append]
          rcases List.mem_cons.1 hmem with rfl | h
          · exact .inl hn
          · exact .inr (ih h)
      obtain ⟨q, ρ', A', acs, hu, hp', hcr, hR, hwf⟩ := he H enc w base held n c y hy' (fun n hn => hw n (List.mem_cons_of_mem _ (List.mem_append_left _ (hmw n hn)))) ρ A hp
      obtain ⟨_, hcl, hcell⟩ := World.cells?_some hcs
      refine ⟨q, ρ', A', acs, c, ⟨by rw [hcl, hc], fun j u hu => ?_⟩, hu, hp', hcr, hR, hwf⟩
      have hj : j < P.cellsOf el := by rw [← hcl]; exact (List.getElem?_eq_some_iff.1 hu).1
      have := hcell j hj
      rw [hu, Go.Deep.add_add, hc] at this
      exact this
    obtain ⟨xs, ρ1, A1, F, hxl, hu, hp1, hFl, hR, hC⟩ := grow (wf := wf) _ len each ρ A p
    have sz : xs.length * B ≤ 140737488351232 := by
      rw [hxl, ← hB]
      have h1 : (elems.map (·.1)).length = len := by simp [hlen]
      rw [h1] at hwt
      have h2 : len * P.bytesOf el ≤ (len + (rest.map (·.1)).length) * P.bytesOf el := Nat.mul_le_mul_right _ (by omega)
      have h3 : reachBytes = 140737488351232 := by rfl
      omega
    have wfs : ∀ x ∈ xs, wf x := fun x hx => by
      obtain ⟨i, hi⟩ := List.getElem?_of_mem hx
      exact (hR i x hi).2
    rcases Nat.eq_zero_or_pos len with h0 | h0
    · subst h0
      have hx0 : xs = [] := List.eq_nil_of_length_eq_zero hxl
      subst hx0
      exact ⟨[], ρ1, A1, [.slice (some ⟨0, 0, none⟩) 0 0], hu, hp1, CR.one (.sl0 _ _ _ _), ⟨_, rfl, .inl ⟨rfl, _, 0, rfl, fun h => by cases h⟩⟩, by simp, by simp, by simp⟩
    · have hcell : ∀ (q : Nat) v, F[q]? = some v → ∃ c, w.cell? (a.add q) = some c ∧ VR ρ1 v c := fun q v hv => by
        have hq : q < len * d.es := by rw [← hFl]; exact (List.getElem?_eq_some_iff.1 hv).1
        have hi : q / d.es < len := Nat.div_lt_of_lt_mul (by rw [Nat.mul_comm]; exact hq)
        obtain ⟨cs, ⟨_, h1⟩, h2⟩ := hC _ hi
        have hmod := Nat.mod_lt q hpos
        have hdm : q / d.es * d.es + q % d.es = q := by rw [Nat.mul_comm]; exact Nat.div_add_mod q d.es
        obtain ⟨c, h3, h4⟩ := h2.2 (q % d.es) v (by rw [List.getElem?_take, if_pos hmod, List.getElem?_drop, hdm]; exact hv)
        have := h1 _ c h3
        rw [hdm] at this
        exact ⟨c, this, h4⟩
      have hF0 : 0 < F.length := by rw [hFl]; exact Nat.mul_pos h0 hpos
      obtain ⟨c0, hc0, _⟩ := hcell 0 F[0] (List.getElem?_eq_getElem hF0)
      obtain ⟨hspot, hblk⟩ := cell_spot hc0
      obtain ⟨b, o, sp⟩ := a
      have hsp0 : sp = none := hspot
      have hblk : b < w.heap.size := hblk
      subst hsp0
      have hcell : ∀ (q : Nat) v, F[q]? = some v → ∃ c, w.cell? ⟨b, o + q, none⟩ = some c ∧ VR ρ1 v c := fun q v hv => by
        obtain ⟨c, h1, h2⟩ := hcell q v hv
        refine ⟨c, ?_, h2⟩
        rw [← h1]
        unfold Addr.add
        split
        · rename_i h; rw [h]; rfl
        · rfl
      obtain ⟨hp2, hu2⟩ := hp1.push (ty := el) (F := F) (l := ⟨b, o, o + cap * d.es⟩) hblk hcell
      refine ⟨xs, _, _, [.slice (some ⟨A1.n, 0, some d.es⟩) len cap], hu.trans hu2, hp2, CR.one ?_, ⟨_, rfl, .inr ⟨A1.n, 0, cap, ⟨el, false, F⟩, by rw [hxl], by omega, by show A1.n < A1.n + 1; omega, by simp, by simp only; rw [hxl]; omega, fun i x hx => ?_⟩⟩, by rw [hxl]; omega, sz, wfs⟩
      · exact .slc A1.n 0 d.es len cap cap ⟨b, o, o + cap * d.es⟩ (by simp) hl (Nat.le_refl _) (by simp)
      · have := Kn.up hu2 (hR i x hx).1
        simpa using this
end
end Go.Proofs.Ytaepgfafbnjccaa.Am
