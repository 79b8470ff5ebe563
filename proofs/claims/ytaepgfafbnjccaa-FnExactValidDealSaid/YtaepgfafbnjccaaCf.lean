/- Contracts: whether a function value tells true of an element of a slice. Each holds under its own conditions. -/
import Derived.Test.YtaepgfafbnjccaaSp2
import Derived.Test.YtaepgfafbnjccaaLw0
set_option linter.unusedVariables false
set_option maxRecDepth 20000
namespace Go.Proofs.Ytaepgfafbnjccaa.Am
open Go Go.RowKit Go.Proofs
section
variable {S : Ids} {H0 : AH}
/-- A function value that tells something of each number. -/
def TellsI (P : Program) (S : Ids) (H0 : AH) (xs : List Int) (g : FuncId) (cap : List Value) (p : Int → Bool) : Prop :=
  ∀ S' H', On S H0 S' H' → ∀ y ∈ xs, Spec P S' H' g (.int .i64 y :: cap) (fun v => v = .bool (p y))
theorem TellsI.up {P : Program} {S' : Ids} {H' : AH} {xs : List Int} {g : FuncId} {cap : List Value} {p : Int → Bool} [o : On S H0 S' H'] (h : TellsI P S H0 xs g cap p) : TellsI P S' H' xs g cap p := fun S2 H2 o2 => h S2 H2 ⟨o.st.trans o2.st⟩
theorem indexFuncI {a c} {xs : List Int} {g : FuncId} {id k : Nat} {sp : Option Nat} {p : Int → Bool} (hl : xs.length ≤ 4611686018427387904) (hs : KI.Sl S H0 (.slice a xs.length c) xs) (hp : TellsI Try.prog S H0 xs g [.pointer (some ⟨id, k, none⟩)] p) :
    Spec Try.prog S H0 158 [.slice a xs.length c, .func (.func g) #[] #[.pointer (some ⟨id, k, sp⟩)]] (fun v => ∃ r : Int, v = .int .i64 r ∧ (r ≥ 0 ↔ ∃ x ∈ xs, p x = true)) := by
  refine Spec.of1 Try.func158 rfl (by kernel_rfl) rfl (fun H _ => ?_)
  refine KW.lp rfl rfl (fun i : Nat => [(0, .slice a xs.length c), (1, .func (.func g) #[] #[.pointer (some ⟨id, k, sp⟩)]), (7, .int .i64 xs.length), (8, .int .i64 i)]) (fun i => i ≤ xs.length ∧ ∀ j, j < i → ∀ x, xs[j]? = some x → p x = false) (fun i => xs.length - i) (0) (⟨by omega, fun j h => absurd h (by omega)⟩) ⟨rfl, rfl, rfl, rfl, trivial⟩ (fun i hi b n => ?_)
  obtain ⟨hi, hj⟩ := hi
  refine KW.cnd rfl rfl (fun h => ?_) (fun h => ?_)
  · refine KW.getI hs.up rfl rfl rfl rfl rfl rfl rfl rfl rfl rfl rfl rfl rfl rfl rfl rfl (by omega) (h) (fun x hx => ?_)
    have hx : xs[i]? = some x := hx
    have hmem := List.mem_of_getElem? hx
    refine KW.callE rfl rfl rfl rfl rfl (hp _ _ inferInstance x hmem) (fun _ _ => ?_)
    refine KW.cndB rfl rfl (fun h2 => ?_) (fun h2 => ?_)
    · exact KW.ret rfl rfl rfl rfl (⟨(i : Int), rfl, fun _ => ⟨x, hmem, h2⟩, fun _ => by omega⟩)
    · refine KW.nxt rfl rfl (fun H' g => ⟨i + 1, ⟨by omega, upto hj (fun y hy => by rw [hx] at hy; cases hy; exact h2)⟩, by first | omega | (simp only; omega), ⟨rfl, rfl, rfl, congrArg (Value.int .i64) (inc64 (by omega)), trivial⟩, g⟩)
  · refine KW.ret rfl rfl rfl rfl ⟨-1, rfl, fun h => absurd h (by decide), fun ⟨x, hx, hpx⟩ => ?_⟩
    obtain ⟨j, hjx⟩ := List.getElem?_of_mem hx
    have := hj j (by have := (List.getElem?_eq_some_iff.1 hjx).1; omega) x hjx
    rw [hpx] at this; cases this
theorem containsFuncI {a c} {xs : List Int} {g : FuncId} {id k : Nat} {sp : Option Nat} {p : Int → Bool} (hl : xs.length ≤ 4611686018427387904) (hs : KI.Sl S H0 (.slice a xs.length c) xs) (hp : TellsI Try.prog S H0 xs g [.pointer (some ⟨id, k, none⟩)] p) :
    Spec Try.prog S H0 131 [.slice a xs.length c, .func (.func g) #[] #[.pointer (some ⟨id, k, sp⟩)]] (fun v => v = .bool (tv (∃ x ∈ xs, p x = true))) := by
  refine Spec.of1 Try.func131 rfl (by kernel_rfl) rfl (fun H _ => ?_)
  refine KW.call rfl rfl rfl rfl rfl (indexFuncI hl hs.up hp.up) (fun v _ _ hv => ?_)
  obtain ⟨r, rfl, hr⟩ := hv
  refine KW.ret rfl rfl rfl rfl ?_
  show Value.bool (decide (r ≥ 0)) = _
  rw [tv_dec, tv_congr hr]
/-- A function value that tells something of each row. -/
def TellsL (P : Program) (S : Ids) (H0 : AH) (xs : List (List Int)) (g : FuncId) (cap : List Value) (p : List Int → Bool) : Prop :=
  ∀ S' H', On S H0 S' H' → ∀ y ∈ xs, ∀ a c, KI.Sl S' H' (.slice a y.length c) y → Spec P S' H' g (.slice a y.length c :: cap) (fun v => v = .bool (p y))
theorem TellsL.up {P : Program} {S' : Ids} {H' : AH} {xs : List (List Int)} {g : FuncId} {cap : List Value} {p : List Int → Bool} [o : On S H0 S' H'] (h : TellsL P S H0 xs g cap p) : TellsL P S' H' xs g cap p := fun S2 H2 o2 => h S2 H2 ⟨o.st.trans o2.st⟩
theorem indexFuncL {a c} {xs : List (List Int)} {g : FuncId} {id k : Nat} {sp : Option Nat} {p : List Int → Bool} (hl : xs.length ≤ 4611686018427387904) (hs : KI.sl.Sl S H0 (.slice a xs.length c) xs) (hp : TellsL Try.prog S H0 xs g [.pointer (some ⟨id, k, none⟩)] p) :
    Spec Try.prog S H0 163 [.slice a xs.length c, .func (.func g) #[] #[.pointer (some ⟨id, k, sp⟩)]] (fun v => ∃ r : Int, v = .int .i64 r ∧ (r ≥ 0 ↔ ∃ x ∈ xs, p x = true)) := by
  refine Spec.of1 Try.func163 rfl (by kernel_rfl) rfl (fun H _ => ?_)
  refine KW.lp rfl rfl (fun i : Nat => [(0, .slice a xs.length c), (1, .func (.func g) #[] #[.pointer (some ⟨id, k, sp⟩)]), (7, .int .i64 xs.length), (8, .int .i64 i)]) (fun i => i ≤ xs.length ∧ ∀ j, j < i → ∀ x, xs[j]? = some x → p x = false) (fun i => xs.length - i) (0) (⟨by omega, fun j h => absurd h (by omega)⟩) ⟨rfl, rfl, rfl, rfl, trivial⟩ (fun i hi b n => ?_)
  obtain ⟨hi, hj⟩ := hi
  refine KW.cnd rfl rfl (fun h => ?_) (fun h => ?_)
  · refine KW.getL hs.up rfl rfl rfl rfl rfl rfl rfl rfl rfl rfl rfl rfl rfl rfl rfl rfl (by omega) (h) (fun x ax cx hx hsx => ?_)
    have hx : xs[i]? = some x := hx
    have hmem := List.mem_of_getElem? hx
    refine KW.callE rfl rfl rfl rfl rfl (hp _ _ inferInstance x hmem _ _ hsx) (fun _ _ => ?_)
    refine KW.cndB rfl rfl (fun h2 => ?_) (fun h2 => ?_)
    · exact KW.ret rfl rfl rfl rfl (⟨(i : Int), rfl, fun _ => ⟨x, hmem, h2⟩, fun _ => by omega⟩)
    · refine KW.nxt rfl rfl (fun H' g => ⟨i + 1, ⟨by omega, upto hj (fun y hy => by rw [hx] at hy; cases hy; exact h2)⟩, by first | omega | (simp only; omega), ⟨rfl, rfl, rfl, congrArg (Value.int .i64) (inc64 (by omega)), trivial⟩, g⟩)
  · refine KW.ret rfl rfl rfl rfl ⟨-1, rfl, fun h => absurd h (by decide), fun ⟨x, hx, hpx⟩ => ?_⟩
    obtain ⟨j, hjx⟩ := List.getElem?_of_mem hx
    have := hj j (by have := (List.getElem?_eq_some_iff.1 hjx).1; omega) x hjx
    rw [hpx] at this; cases this
theorem containsFuncL {a c} {xs : List (List Int)} {g : FuncId} {id k : Nat} {sp : Option Nat} {p : List Int → Bool} (hl : xs.length ≤ 4611686018427387904) (hs : KI.sl.Sl S H0 (.slice a xs.length c) xs) (hp : TellsL Try.prog S H0 xs g [.pointer (some ⟨id, k, none⟩)] p) :
    Spec Try.prog S H0 147 [.slice a xs.length c, .func (.func g) #[] #[.pointer (some ⟨id, k, sp⟩)]] (fun v => v = .bool (tv (∃ x ∈ xs, p x = true))) := by
  refine Spec.of1 Try.func147 rfl (by kernel_rfl) rfl (fun H _ => ?_)
  refine KW.call rfl rfl rfl rfl rfl (indexFuncL hl hs.up hp.up) (fun v _ _ hv => ?_)
  obtain ⟨r, rfl, hr⟩ := hv
  refine KW.ret rfl rfl rfl rfl ?_
  show Value.bool (decide (r ≥ 0)) = _
  rw [tv_dec, tv_congr hr]
end
end Go.Proofs.Ytaepgfafbnjccaa.Am
