/- Shapes of arguments: whole numbers, rows of them, ranks, families. For every program. No condition beyond each theorem's own. -/
import Derived.Test.YtaepgfafbnjccaaAm23
set_option linter.unusedVariables false
namespace Go.Proofs.Ytaepgfafbnjccaa.Am
open Go Go.RowKit
theorem Opn.weak {α : Type} {P : Program} {t : TypeId} {d : Kn α} {wf wf' : α → Prop} (h : Opn P t d wf) (hw : ∀ a, wf a → wf' a) : Opn P t d wf' := by
  intro H enc w base held fuel cs x hx hwt ρ A p
  obtain ⟨a, ρ', A', acs, h1, h2, h3, h4, h5⟩ := h H enc w base held fuel cs x hx hwt ρ A p
  exact ⟨a, ρ', A', acs, h1, h2, h3, h4, hw a h5⟩
def I64 (a : Int) : Prop := -9223372036854775808 ≤ a ∧ a ≤ 9223372036854775807
/-- A row, its elements being so. -/
def RowOf {α : Type} (w : α → Prop) (xs : List α) : Prop := xs.length ≤ 9223372036854775807 ∧ ∀ x ∈ xs, w x
abbrev KI : Kn Int := Kn.int .i64
theorem OpnI {P : Program} {t : TypeId} (ht : P.underlying t = some (.int .i64)) : Opn P t KI I64 := (Opn.int ht).weak fun a h => by
  simp only [Lit.wf, IntKind.min, IntKind.max, IntKind.signed, IntKind.bits, Bool.and_eq_true, decide_eq_true_eq, if_true] at h
  unfold I64
  omega
theorem OpnRow {α : Type} {P : Program} {t el : TypeId} {d : Kn α} {w : α → Prop} (ht : P.underlying t = some (.slice el)) (hc : P.cellsOf el = d.es) (hpos : 0 < d.es) (he : Opn P el d w) : Opn P t d.sl (RowOf w) :=
  (Opn.slice ht hc rfl hpos he).weak fun xs h => ⟨by have := h.1; have : maxLen = 9223372036854775807 := (by first | rfl | simp [maxLen]); omega, h.2.2⟩
section
variable {S : Ids} {H : AH}
theorem KI_of {x : Int} {cs : List Value} (h : KI.R S H x cs) : cs = [.int .i64 x] := h
theorem sl_of {α : Type} {d : Kn α} {xs : List α} {cs : List Value} (h : d.sl.R S H xs cs) : ∃ a c, cs = [.slice a xs.length c] ∧ d.Sl S H (.slice a xs.length c) xs := by
  obtain ⟨s, rfl, h⟩ := h
  obtain ⟨a, c, rfl⟩ := h.form
  exact ⟨a, c, rfl, h⟩
abbrev KRanks : Kn (Int × Int × List Int) := Kn.pair KI (Kn.pair KI KI.sl)
abbrev KFamily : Kn (Int × List (List Int)) := Kn.pair KI KI.sl.sl
theorem ranks_of {r : Int × Int × List Int} {cs : List Value} (h : KRanks.R S H r cs) : ∃ a c, cs = [.int .i64 r.1, .int .i64 r.2.1, .slice a r.2.2.length c] ∧ KI.Sl S H (.slice a r.2.2.length c) r.2.2 := by
  obtain ⟨c1, d1, rfl, h1, c2, d2, rfl, h2, h3⟩ := h
  obtain ⟨a, c, rfl, h4⟩ := sl_of h3
  obtain rfl := KI_of h1
  obtain rfl := KI_of h2
  exact ⟨a, c, rfl, h4⟩
theorem family_of {r : Int × List (List Int)} {cs : List Value} (h : KFamily.R S H r cs) : ∃ a c, cs = [.int .i64 r.1, .slice a r.2.length c] ∧ KI.sl.Sl S H (.slice a r.2.length c) r.2 := by
  obtain ⟨c1, d1, rfl, h1, h3⟩ := h
  obtain ⟨a, c, rfl, h4⟩ := sl_of h3
  obtain rfl := KI_of h1
  exact ⟨a, c, rfl, h4⟩
end
section
variable {P : Program}
theorem OpnS {t el : TypeId} (ht : P.underlying t = some (.slice el)) (hel : P.underlying el = some (.int .i64)) (hc : P.cellsOf el = 1) : Opn P t KI.sl (RowOf I64) := OpnRow ht hc (by decide) (OpnI hel)
theorem OpnSS {t t1 el : TypeId} (ht : P.underlying t = some (.slice t1)) (hc' : P.cellsOf t1 = 1) (ht1 : P.underlying t1 = some (.slice el)) (hel : P.underlying el = some (.int .i64)) (hc : P.cellsOf el = 1) : Opn P t KI.sl.sl (RowOf (RowOf I64)) := OpnRow ht hc' (by decide) (OpnS ht1 hel hc)
end
end Go.Proofs.Ytaepgfafbnjccaa.Am
