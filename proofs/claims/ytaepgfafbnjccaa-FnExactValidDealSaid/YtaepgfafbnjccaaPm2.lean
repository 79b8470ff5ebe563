/- Families, plain: the order of groups, validity, what opens; a slice cut short. No condition beyond each lemma's own. -/
import Derived.Test.YtaepgfafbnjccaaSp4
set_option linter.unusedVariables false
namespace Go.Proofs.Ytaepgfafbnjccaa.Am
open Go Go.RowKit
def lexB : List Int → List Int → Bool
  | [], [] => false
  | [], _ :: _ => true
  | _ :: _, [] => false
  | a :: xs, b :: ys => if a = b then lexB xs ys else decide (a < b)
theorem drop_at {α : Type} {l : List α} {i : Nat} {x : α} (h : l[i]? = some x) : l.drop i = x :: l.drop (i + 1) := by
  obtain ⟨hi, rfl⟩ := List.getElem?_eq_some_iff.1 h
  exact List.drop_eq_getElem_cons hi
theorem lexB_self_step {a b : List Int} {i : Nat} {x y : Int} (hx : a[i]? = some x) (hy : b[i]? = some y) : lexB (a.drop i) (b.drop i) = if x = y then lexB (a.drop (i + 1)) (b.drop (i + 1)) else decide (x < y) := by
  rw [drop_at hx, drop_at hy]; rfl
theorem lexB_end {a b : List Int} {i : Nat} (h : i = a.length ∨ i = b.length) (ha : i ≤ a.length) (hb : i ≤ b.length) : lexB (a.drop i) (b.drop i) = decide (a.length < b.length) := by
  rcases h with rfl | rfl
  · rw [List.drop_length]
    rcases Nat.lt_or_ge a.length b.length with h | h
    · rw [drop_at (List.getElem?_eq_getElem h)]; simp [lexB, h]
    · rw [List.drop_eq_nil_of_le h]; simp [lexB]; omega
  · rw [List.drop_length]
    rcases Nat.lt_or_ge b.length a.length with h | h
    · rw [drop_at (List.getElem?_eq_getElem h)]; simp [lexB]; omega
    · rw [List.drop_eq_nil_of_le h]; simp [lexB]; omega
def GrpAt (h : Int) (gs : List (List Int)) (i : Nat) : Prop := Rises 0 (h - 1) (gs.getD i []) ∧ (0 < i → lexB (gs.getD (i - 1) []) (gs.getD i []) = true)
def Sub (gs : List (List Int)) (i j : Nat) : Prop := bitsOf (gs.getD i []) &&& bitsOf (gs.getD j []) = bitsOf (gs.getD i [])
structure FamOk (h : Int) (gs : List (List Int)) : Prop where
  h1 : 1 ≤ h
  h2 : h ≤ 7
  grp : ∀ i, i < gs.length → GrpAt h gs i
  free : ∀ i, i < gs.length → ∀ j, j < gs.length → i ≠ j → ¬ Sub gs i j
/-- Lists short enough that no counter wraps. -/
structure Sml (gs : List (List Int)) : Prop where
  len : gs.length ≤ 1048576
  tot : sum (lens gs) ≤ 1048576
theorem Sml.each {gs : List (List Int)} (h : Sml gs) : ∀ x ∈ gs, x.length ≤ 1048576 := fun x hx => Nat.le_trans (sum_mem (List.mem_map_of_mem hx)) h.tot
theorem getDL_of {g : List (List Int)} {i : Nat} {y : List Int} (h : g[i]? = some y) : g.getD i [] = y := by rw [List.getD_eq_getElem?_getD, h]; rfl
theorem rises_bound {h : Int} {g : List Int} (h1 : 1 ≤ h) (hr : Rises 0 (h - 1) g) : ∀ x ∈ g, 0 ≤ x ∧ x < (h.toNat : Nat) := fun x hx => by
  have := rises_mem hr x hx
  omega
theorem bits_small {h : Int} {g : List Int} (h1 : 1 ≤ h) (h2 : h ≤ 7) (hr : Rises 0 (h - 1) g) : bitsOf g < 128 := by
  have h3 : bitsOf g < 2 ^ 7 := bitsOf_lt (fun x hx => by have := rises_mem hr x hx; omega)
  have h4 : (2 : Nat) ^ 7 = 128 := by decide
  omega
section
variable {P : Program} {S : Ids} {H0 : AH} {Q : PostC} {k k1 : List It} {e e1 : Env} {T T1 : List Var} {n n1 : Nat} {l1 r1 : List Nat} {d1 : Tmp}
/-- x[:m] -/
theorem KW.cutTo {α : Type} {d : Kn α} {xs : List α} {s : Value} {o : Oper} {dr : Bool} {t el : TypeId} {x y : Operand} {inf : TypeInfo} {kk : IntKind} {j : Int} (hs : d.Sl S H0 s xs) (h : Go1 P k e T n (.op o dr) k1 e1 T1 n1 l1 r1) (hlr : l1 = r1) (ho : o.op = .slice t x none (some y) none) (hd : o.dst = some d1)
    (hx : ev e1 x = s) (hy : ev e1 y = .int kk j) (hu : P.underlying t = some (.slice el)) (hi : P.info? el = some inf) (he : inf.size = d.es) (m : Nat) (hj : j = m) (hm : m ≤ xs.length) (h0 : 0 < xs.length)
    (hk : ∀ a c, d.Sl S H0 (.slice a (xs.take m).length c) (xs.take m) → KW P S H0 Q n1 T1 k1 (put1 e1 d1 (.slice a (xs.take m).length c))) : KW P S H0 Q n T k e := by
  have hml : (xs.take m).length = m := by simp; omega
  rcases hs with ⟨hx0, _⟩ | ⟨id, off, c, b, hsv, hcap, hS, hb, hlen, hR⟩
  · subst hx0; simp at h0
  · have hle : m * d.es ≤ xs.length * d.es := Nat.mul_le_mul_right _ hm
    refine KW.pure h hlr ho hd rfl _ ?_ (hk (some ⟨id, off, some d.es⟩) c (.inr ⟨id, off, c, b, rfl, by omega, hS, hb, by rw [hml]; omega, fun i z hz => hR i z ?_⟩))
    · subst hj
      simp only [pop, Option.map_none, Option.map_some, hx, hsv, hy, acut, hu, hi, he, bHi, bLo, abound]
      rw [if_pos ⟨by omega, by omega⟩]
      simp only [if_true, hml, Int.toNat_natCast]
    · rw [List.getElem?_take] at hz
      split at hz
      · exact hz
      · cases hz
end
end Go.Proofs.Ytaepgfafbnjccaa.Am
