/- Contracts: which sets open, and the program's search for a misfit. Each holds under its own conditions. -/
import Derived.Test.YtaepgfafbnjccaaSp7
set_option linter.unusedVariables false
set_option maxRecDepth 20000
namespace Go.Proofs.Ytaepgfafbnjccaa.Am
open Go Go.RowKit Go.Proofs
theorem Fz.trans {S : Ids} {H0 H H' : AH} (h : Fz S H0 H) (k : Fz (Low H.n) H H') : Fz S H0 H' := fun id hid => by
  obtain ⟨h1, h2⟩ := h id hid
  obtain ⟨h3, h4⟩ := k id h1
  exact ⟨h3, h4.trans h2⟩
section
variable {S : Ids} {H0 : AH}
/-- A function value that tells something of each element. -/
def Tells {α : Type} (P : Program) (S : Ids) (H0 : AH) (d : Kn α) (xs : List (List α)) (g : FuncId) (cap : List Value) (p : List α → Bool) : Prop :=
  ∀ H', Fz S H0 H' → ∀ x a c, x ∈ xs → d.Sl (Low H'.n) H' (.slice a x.length c) x → Spec P (Low H'.n) H' g (.slice a x.length c :: cap) (fun v => v = .bool (p x))
theorem Tells.to {α : Type} {P : Program} {d : Kn α} {xs : List (List α)} {g : FuncId} {cap : List Value} {p : List α → Bool} {H : AH} (h : Tells P S H0 d xs g cap p) (hf : Fz S H0 H) : Tells P (Low H.n) H d xs g cap p := fun H' hf' => h H' (hf.trans hf')
theorem indexFunc2 {a c} {xs : List (List Int)} {g : FuncId} {id k : Nat} {sp : Option Nat} {p : List Int → Bool} (hl : xs.length ≤ 1048576) (hs : (Kn.int .i64).sl.Sl S H0 (.slice a xs.length c) xs) (hp : Tells Try.prog S H0 (Kn.int .i64) xs g [.pointer (some ⟨id, k, none⟩)] p) :
    Spec Try.prog S H0 163 [.slice a xs.length c, .func (.func g) #[] #[.pointer (some ⟨id, k, sp⟩)]] (fun v => ∃ r : Int, v = .int .i64 r ∧ (r ≥ 0 ↔ ∃ x ∈ xs, p x = true)) := by
  refine Spec.of Try.func163 rfl (by kernel_rfl) rfl (fun H hfin hfz => ?_)
  have hs := hs.to hfz
  have hp := hp.to hfz
  refine KW.lp rfl rfl (fun i : Nat => [(0, .slice a xs.length c), (1, .func (.func g) #[] #[.pointer (some ⟨id, k, sp⟩)]), (7, .int .i64 xs.length), (8, .int .i64 i)]) (fun i => i ≤ xs.length ∧ ∀ j, j < i → ∀ x, xs[j]? = some x → p x = false) (fun i => xs.length - i) 0 ⟨by omega, fun j h => absurd h (by omega)⟩ ⟨rfl, rfl, rfl, rfl, trivial⟩ (fun i hi b n => ?_)
  obtain ⟨hi, hj⟩ := hi
  refine KW.cnd rfl rfl (fun h => ?_) (fun h => KW.ret rfl rfl rfl rfl ⟨-1, rfl, ?_⟩)
  · refine KW.getL hs rfl rfl rfl rfl rfl rfl rfl rfl rfl rfl rfl rfl rfl rfl rfl rfl (by omega) h (fun x ax cx hx hsx => ?_)
    have hx : xs[i]? = some x := hx
    have hmem := List.mem_of_getElem? hx
    refine KW.callE rfl rfl rfl rfl rfl (hp H (fun id h => ⟨h, rfl⟩) x ax cx hmem hsx) (fun _ _ => ?_)
    refine KW.cndB rfl rfl (fun h2 => KW.ret rfl rfl rfl rfl ⟨(i : Int), rfl, ?_⟩) (fun h2 => ?_)
    · exact ⟨fun _ => ⟨x, hmem, h2⟩, fun _ => by omega⟩
    · exact KW.nxt rfl rfl (fun H g' => ⟨i + 1, ⟨by omega, upto hj (fun y hy => by rw [hx] at hy; cases hy; exact h2)⟩, by omega, ⟨rfl, rfl, rfl, congrArg (Value.int .i64) (inc64 (by omega)), trivial⟩, g'⟩)
  · refine ⟨fun h => absurd h (by decide), fun ⟨x, hx, hpx⟩ => ?_⟩
    obtain ⟨j, hjx⟩ := List.getElem?_of_mem hx
    have := hj j (by have := (List.getElem?_eq_some_iff.1 hjx).1; omega) x hjx
    rw [hpx] at this; cases this
theorem containsFunc2 {a c} {xs : List (List Int)} {g : FuncId} {id k : Nat} {sp : Option Nat} {p : List Int → Bool} (hl : xs.length ≤ 1048576) (hs : (Kn.int .i64).sl.Sl S H0 (.slice a xs.length c) xs) (hp : Tells Try.prog S H0 (Kn.int .i64) xs g [.pointer (some ⟨id, k, none⟩)] p) :
    Spec Try.prog S H0 147 [.slice a xs.length c, .func (.func g) #[] #[.pointer (some ⟨id, k, sp⟩)]] (fun v => v = .bool (tv (∃ x ∈ xs, p x = true))) := by
  refine Spec.of Try.func147 rfl (by kernel_rfl) rfl (fun H hfin hfz => ?_)
  refine KW.call rfl rfl rfl rfl rfl (indexFunc2 hl (hs.to hfz) (hp.to hfz)) (fun v n' _ hv => ?_)
  obtain ⟨r, rfl, hr⟩ := hv
  refine KW.ret rfl rfl rfl rfl ?_
  show Value.bool (decide (r ≥ 0)) = _
  rw [tv_dec, tv_congr hr]
/-- The set c has all holders of a group. -/
def Opens (gs : List (List Int)) (c : Nat) : Prop := ∃ g ∈ gs, c &&& bitsOf g = bitsOf g
/-- All groups are of holders below m. -/
def Below' (m : Nat) (gs : List (List Int)) : Prop := ∀ g ∈ gs, ∀ x ∈ g, 0 ≤ x ∧ x < (m : Int)
theorem below_bits {m : Nat} (hm : m ≤ 7) {gs : List (List Int)} (hb : Below' m gs) {g : List Int} (hg : g ∈ gs) : bitsOf g < 128 := by
  have h3 : bitsOf g < 2 ^ 7 := bitsOf_lt (fun x hx => by have := hb g hg x hx; omega)
  have h4 : (2 : Nat) ^ 7 = 128 := by decide
  omega
theorem FamOk.below {m : Int} {gs : List (List Int)} (h : FamOk m gs) : Below' m.toNat gs := fun g hg x hx => by
  obtain ⟨i, hi⟩ := List.getElem?_of_mem hg
  have h1 := (h.grp i (List.getElem?_eq_some_iff.1 hi).1).1
  rw [getDL_of hi] at h1
  exact rises_bound h.h1 h1 x hx
theorem opens1 {m : Nat} (hm : m ≤ 7) {q : Nat} (hq : q < 4611686018427387904) {g : List Int} (hg : ∀ x ∈ g, 0 ≤ x ∧ x < (m : Int)) (hl : g.length ≤ 1048576) {a c} {id : Nat} {ty : TypeId} {rw : Bool} (hS : S id) (hm' : H0.m id = some ⟨ty, rw, [.int .u64 q]⟩) (hs : (Kn.int .i64).Sl S H0 (.slice a g.length c) g) :
    Spec Try.prog S H0 152 [.slice a g.length c, .pointer (some ⟨id, 0, none⟩)] (fun v => v = .bool (tv (q &&& bitsOf g = bitsOf g))) := by
  refine Spec.of Try.func152 rfl (by kernel_rfl) rfl (fun H hfin hfz => ?_)
  have hm' := ((hfz id hS).2).trans hm'
  have hS : Low H.n id := (hfz id hS).1
  have hb : bitsOf g < 2 ^ m := bitsOf_lt (fun x h => by have := hg x h; omega)
  have hp := small_pow (m := m) (by omega)
  refine KW.ldP hS hm' rfl rfl rfl rfl rfl rfl ?_
  refine KW.callE rfl rfl rfl rfl rfl (crowdOf (m := m) (by omega) (by omega) hg (hs.to hfz)) (fun _ _ => ?_)
  refine KW.callE rfl rfl rfl rfl rfl (contains hq (by omega)) (fun _ _ => ?_)
  exact KW.ret rfl rfl rfl rfl rfl
theorem opens {m : Nat} (hm : m ≤ 7) (h : Int) {q : Nat} (hq : q < 4611686018427387904) {gs : List (List Int)} (hsm : Sml gs) (hb : Below' m gs) {a c} (hs : (Kn.int .i64).sl.Sl S H0 (.slice a gs.length c) gs) :
    Spec Try.prog S H0 110 [familyV h (.slice a gs.length c), .int .u64 q] (fun v => v = .bool (tv (Opens gs q))) := by
  refine Spec.of Try.func110 rfl (by kernel_rfl) rfl (fun H hfin hfz => ?_)
  refine KW.callV rfl rfl rfl rfl rfl (fun H1 g => containsFunc2 (p := fun x => tv (q &&& bitsOf x = bitsOf x)) hsm.len ((hs.to hfz).on (fun id hid => (g.froz id hid).2) (fun id hid => by have := (g.froz id hid).1; have := g.n_; show id < H1.n; omega)) (fun H' hf' x ax cx hx hsx => ?_)) (fun _ _ => ?_)
  · have hb1 := g.blk (j := 1) rfl
    obtain ⟨h1, h2⟩ := hf' _ hb1.2
    exact opens1 hm hq (hb x hx) (hsm.each x hx) h1 (h2.trans hb1.1) hsx
  · refine KW.ret rfl rfl rfl rfl ?_
    show Value.bool (tv _) = _
    congr 1
    exact tv_congr ⟨fun ⟨x, h1, h2⟩ => ⟨x, h1, tv_iff.1 h2⟩, fun ⟨x, h1, h2⟩ => ⟨x, h1, tv_iff.2 h2⟩⟩
end
end Go.Proofs.Ytaepgfafbnjccaa.Am
