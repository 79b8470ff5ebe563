/- Facts on memory with what they rest on, carried over calls. For every program. No condition beyond each theorem's own. -/
import Derived.Test.YtaepgfafbnjccaaAm26
set_option linter.unusedVariables false
namespace Go.Proofs.Ytaepgfafbnjccaa.Am
open Go Go.RowKit
/-- A slice reads as a list, and rests on X, which is frozen. -/
structure Fc {α : Type} (d : Kn α) (X S : Ids) (H : AH) (s : Value) (xs : List α) : Prop where
  r : d.Sl X H s xs
  i : ∀ id, X id → S id
/-- .. an owned one. -/
structure Fm {α : Type} (d : Kn α) (X S : Ids) (H : AH) (s : Value) (xs : List α) : Prop where
  r : d.Ml X H s xs
  i : ∀ id, X id → S id
section
variable {α : Type} {d : Kn α} {X S S' : Ids} {H H1 : AH} {s : Value} {xs : List α}
theorem Fc.st (h : Fc d X S H s xs) (t : St S H S' H1) : Fc d X S' H1 s xs := ⟨h.r.same (fun id hid => (t id (h.i id hid)).2), fun id hid => (t id (h.i id hid)).1⟩
theorem Fm.st (h : Fm d X S H s xs) (t : St S H S' H1) : Fm d X S' H1 s xs := ⟨h.r.same (fun id hid => (t id (h.i id hid)).2), fun id hid => (t id (h.i id hid)).1⟩
theorem Fc.w {W : Ids} (h : Fc d X S H s xs) (t : StW W S H S' H1) (hd : ∀ id, X id → W id → False) : Fc d X S' H1 s xs := ⟨h.r.same (fun id hid => (t id (h.i id hid)).2 (hd id hid)), fun id hid => (t id (h.i id hid)).1⟩
theorem Fm.w {W : Ids} (h : Fm d X S H s xs) (t : StW W S H S' H1) (hd : ∀ id, X id → W id → False) : Fm d X S' H1 s xs := ⟨h.r.same (fun id hid => (t id (h.i id hid)).2 (hd id hid)), fun id hid => (t id (h.i id hid)).1⟩
theorem Fc.sl (h : Fc d X S H s xs) : d.Sl S H s xs := h.r.more h.i
theorem Fm.ml (h : Fm d X S H s xs) : d.Ml S H s xs := h.r.more h.i
theorem Fm.sl (h : Fm d X S H s xs) : d.Sl S H s xs := h.ml.sl
theorem Fm.fc {d' : Kn α} (k : KLe d d') (h : Fm d X S H s xs) : Fc d' X S H s xs := ⟨h.r.to k, h.i⟩
end
/-- What stays frozen over a writer, of what lay below. -/
theorem StW.low {W S S' : Ids} {H H1 : AH} {m : Nat} {H0 : AH} (t : StW W S H S' H1) (h : St (Low m) H0 S H) (hd : ∀ id, id < m → W id → False) : St (Low m) H0 S' H1 := fun id hid => ⟨(t id (h id hid).1).1, ((t id (h id hid).1).2 (hd id hid)).trans (h id hid).2⟩
end Go.Proofs.Ytaepgfafbnjccaa.Am
