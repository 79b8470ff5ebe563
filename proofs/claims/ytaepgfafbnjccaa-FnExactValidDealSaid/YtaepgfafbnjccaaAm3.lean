/- The machine yields what carries the abstract value, at each operation that asks nothing of memory. For every program. No condition beyond each theorem's own. -/
import Derived.Test.YtaepgfafbnjccaaAm2
import Derived.Laws.Cover3
import Derived.Laws.Concat
import Derived.Laws.Small
namespace Go.Proofs.Ytaepgfafbnjccaa.Am
open Go Go.RowKit
section
variable {P : Program} {ρ : Ren}
theorem VR.int_ {k : IntKind} {n : Int} {c : Value} (h : VR ρ (.int k n) c) : c = .int k n := by cases h; rfl
theorem VR.bool_ {b : Bool} {c : Value} (h : VR ρ (.bool b) c) : c = .bool b := by cases h; rfl
theorem VR.string_ {b : ByteArray} {c : Value} (h : VR ρ (.string b) c) : c = .string b := by cases h; rfl
theorem VR.ptr_ {id k : Nat} {sp : Option Nat} {c : Value} (h : VR ρ (.pointer (some ⟨id, k, sp⟩)) c) : ∃ l, ρ id = some l ∧ c = .pointer (some ⟨l.blk, l.off + k, none⟩) := by
  cases h with
  | sc v h => simp [scal] at h
  | ptr id k sp l h => exact ⟨l, h, rfl⟩
theorem VR.tup_ {a : Array Value} {c : Value} (h : VR ρ (.tuple a) c) : ∃ a', c = .tuple a' ∧ VRs ρ a a' := by
  cases h with
  | sc v h => simp [scal] at h
  | tup a a' ha h => exact ⟨a', rfl, ha, h⟩
theorem VR.agg_ {a : Array Value} {c : Value} (h : VR ρ (.agg a) c) : ∃ a', c = .agg a' ∧ VRs ρ a a' := by
  cases h with
  | sc v h => simp [scal] at h
  | agg a a' ha h => exact ⟨a', rfl, ha, h⟩
theorem VR.slice_ {a : Option Addr} {n m : Nat} {c : Value} (h : VR ρ (.slice a n m) c) : ∃ a' m', c = .slice a' n m' ∧ a'.isNone = a.isNone ∧ m ≤ m' := by
  cases h with
  | sc v h => exact ⟨a, m, rfl, rfl, Nat.le_refl _⟩
  | slc id k es n c c' l h hn hc hs => exact ⟨_, c', rfl, rfl, hc⟩
  | sl0 id k a c' => exact ⟨_, c', rfl, rfl, Nat.zero_le _⟩
theorem VRs.some_ {a a' : Array Value} (h : VRs ρ a a') {i : Nat} {v : Value} (hv : a[i]? = some v) : ∃ c, a'[i]? = some c ∧ VR ρ v c := by
  obtain ⟨hi, rfl⟩ := Array.getElem?_eq_some_iff.1 hv
  have hi' : i < a'.size := by rw [← h.1]; exact hi
  refine ⟨a'[i], by simp [hi'], ?_⟩
  have := h.2 i hi
  simpa [hi, hi'] using this
theorem aargs_ok {e : Env} {a : Act} {nt : Nat} (hE : ER ρ e a nt) {xs : Array Operand} (hx : xs.all (opOk nt) = true) : VRs ρ (aargs e xs) (xs.map a.eval) := by
  refine ⟨by simp [aargs], fun i hi => ?_⟩
  have hi' : i < xs.size := by simpa [aargs] using hi
  have h1 : (aargs e xs).getD i undef = ev e xs[i] := by simp [aargs, hi']
  have h2 : (xs.map a.eval).getD i undef = a.eval xs[i] := by simp [hi']
  rw [h1, h2]
  exact hE.ev (Array.all_eq_true.1 hx i hi')
theorem aun_ok (w : World) {op : UnOp} {x v : Value} {c : Value} (hx : VR ρ x c) (h : aun op x = some v) : VR ρ v v ∧ (Op.unary op c).run P w = .ok v w := by
  unfold aun at h
  split at h <;> first | (cases h; done) | skip
  · obtain rfl := hx.int_; cases h; exact ⟨.sc _ rfl, rfl⟩
  · obtain rfl := hx.bool_; cases h; exact ⟨.sc _ rfl, rfl⟩
  · obtain rfl := hx.int_; cases h; exact ⟨.sc _ rfl, rfl⟩
theorem aint_ok (w : World) (t : TypeId) {op : BinOp} {k : IntKind} {x y : Int} {v : Value} (h : aint op k x y = some v) (hs : op ≠ .shl) (hs' : op ≠ .shr) : VR ρ v v ∧ (binOp op t (.int k x) (.int k y)).run P w = .ok v w := by
  cases op <;> simp only [aint] at h <;> first
    | (cases h; done)
    | exact absurd rfl hs
    | exact absurd rfl hs'
    | (cases h; exact ⟨.sc _ rfl, by simp [binOp, Op.intArith, Op.intBits, Op.intCmp]⟩)
    | (split at h
       · cases h
       · rename_i hy; cases h; exact ⟨.sc _ rfl, by simp [binOp, Op.intDiv, hy]⟩)
theorem ashift_ok (w : World) (t : TypeId) {op : BinOp} {k k' : IntKind} {x y : Int} {v : Value} (h : ashift op k x y = some v) (ho : op = .shl ∨ op = .shr) : VR ρ v v ∧ (binOp op t (.int k x) (.int k' y)).run P w = .ok v w := by
  unfold ashift at h
  split at h
  · cases h
  · rename_i hy
    rcases ho with rfl | rfl <;> (cases h; exact ⟨.sc _ rfl, by simp [binOp, Op.shift, hy]⟩)
theorem astr_ok (w : World) (t : TypeId) {op : BinOp} {x y : ByteArray} {v : Value} (h : astr op x y = some v) : VR ρ v v ∧ (binOp op t (.string x) (.string y)).run P w = .ok v w := by
  cases op <;> simp only [astr] at h <;> first
    | (cases h; done)
    | (cases h; exact ⟨.sc _ rfl, by simp [binOp, Op.stringOp]⟩)
    | (split at h
       · rename_i hy; cases h; exact ⟨.sc _ rfl, by
           have := run_string_add_sum (P := P) w x y hy
           simpa [binOp] using this⟩
       · cases h)
theorem abin_ok (w : World) {op : BinOp} {t : TypeId} {x y v c d : Value} (hx : VR ρ x c) (hy : VR ρ y d) (h : abin P op t x y = some v) : VR ρ v v ∧ (binOp op t c d).run P w = .ok v w := by
  unfold abin at h
  split at h
  · obtain rfl := hx.int_
    obtain rfl := hy.int_
    split at h
    · exact ashift_ok w t h (.inl rfl)
    · exact ashift_ok w t h (.inr rfl)
    · rename_i h1 h2
      split at h
      · rename_i hk
        subst hk
        exact aint_ok w t h (fun e => h1 e) (fun e => h2 e)
      · cases h
  · obtain rfl := hx.string_
    obtain rfl := hy.string_
    exact astr_ok w t h
  · obtain rfl := hx.bool_
    obtain rfl := hy.bool_
    split at h
    · rename_i hu
      cases op <;> simp only [abool] at h <;> first
        | (cases h; done)
        | (cases h; exact ⟨.sc _ rfl, run_eql_bool w t _ _ hu⟩)
        | (cases h; exact ⟨.sc _ rfl, run_neq_bool w t _ _ hu⟩)
    · cases h
  · obtain ⟨a', m', rfl, hn, _⟩ := hx.slice_
    obtain rfl := scal_eq rfl hy
    split at h
    · rename_i el hu
      have he := fun l => run_equal_slice_nil (P := P) w t el a' l m' hu
      cases op <;> simp only [abool] at h <;> first
        | (cases h; done)
        | (cases h; refine ⟨.sc _ rfl, ?_⟩; simp only [binOp, Sem.run_bind, he, Result.andThen_ok]; simp [hn])
    · cases h
  · cases h
theorem eqGuard_ok (w : World) {op : BinOp} {t : TypeId} {x y : Operand} {u v r c d : Value} (hx : VR ρ u c) (hy : VR ρ v d) (h : abin P op t u v = some r) : (eqGuard op t x y c d).run P w = .ok () w := by
  unfold abin at h
  unfold eqGuard
  split at h
  · obtain rfl := hx.int_; obtain rfl := hy.int_; cases op <;> rfl
  · obtain rfl := hx.string_; obtain rfl := hy.string_; cases op <;> rfl
  · obtain rfl := hx.bool_; obtain rfl := hy.bool_; cases op <;> rfl
  · obtain ⟨a', m', rfl, hn, _⟩ := hx.slice_
    obtain rfl := scal_eq rfl hy
    cases op <;> rfl
  · cases h
theorem aconv_ok (w : World) {s d : TypeId} {x v c : Value} (hx : VR ρ x c) (h : aconv P s d x = some v) : VR ρ v v ∧ (convert s d c).run P w = .ok v w := by
  unfold aconv at h
  split at h
  · rename_i _ _ _ k k' n hs hd
    obtain rfl := hx.int_; cases h
    refine ⟨.sc _ rfl, ?_⟩
    simp [convert, run_underlying hs, run_underlying hd, Conv.intToInt]
  · rename_i _ _ _ b hs hd
    obtain rfl := hx.string_; cases h
    refine ⟨.sc _ rfl, ?_⟩
    simp [convert, run_underlying hs, run_underlying hd]
  · cases h
theorem abound_ok (w : World) {v c : Value} {top n : Nat} (code : BoundsCode) (hv : VR ρ v c) (h : abound v top = some n) : (Instr.sliceBound c top code).run P w = .ok n w ∧ n ≤ top := by
  unfold abound at h
  split at h
  · obtain rfl := hv.int_
    split at h
    · rename_i hi
      cases h
      refine ⟨by simp [Instr.sliceBound, asIntOf, hi], by omega⟩
    · cases h
  · cases h
theorem opt_ok {lo : Option Operand} {e : Env} {a : Act} {nt : Nat} (hE : ER ρ e a nt) (hlo : (lo.toArray).all (opOk nt) = true) {x : Operand} (hx : lo = some x) : VR ρ (ev e x) (a.eval x) :=
  hE.ev (by subst hx; simpa using hlo)
theorem sliceBounds_ok (w : World) {s : Bool} {n c h l : Nat} {lo hi clo chi : Option Value} (hlo : ∀ v, lo = some v → ∃ c, clo = some c ∧ VR ρ v c) (hlo' : lo = none → clo = none) (hhi : ∀ v, hi = some v → ∃ c, chi = some c ∧ VR ρ v c) (hhi' : hi = none → chi = none)
    {c' : Nat} (hc : c ≤ c') (h1 : bHi hi n c = some h) (h2 : bLo lo h = some l) : (Instr.sliceBounds s n c' clo chi none).run P w = .ok (l, h, c') w ∧ l ≤ h := by
  have up : ∀ {v : Value} {x : Nat}, abound v c = some x → abound v c' = some x := by
    intro v x hv
    unfold abound at hv ⊢
    split at hv
    · split at hv
      · rename_i hi; rw [if_pos (by omega)]; exact hv
      · cases hv
    · cases hv
  unfold bHi at h1
  unfold bLo at h2
  cases lo with
  | none =>
    have := hlo' rfl; subst this
    simp at h2
    subst h2
    cases hi with
    | none => have := hhi' rfl; subst this; simp at h1; subst h1; simp [Instr.sliceBounds]
    | some v =>
      obtain ⟨d, rfl, hd⟩ := hhi v rfl
      have := (abound_ok (P := P) w (if s = true then .sliceAcap else .sliceAlen) hd (up h1)).1
      simp [Instr.sliceBounds, this]
  | some u =>
    obtain ⟨d, rfl, hd⟩ := hlo u rfl
    have hb := abound_ok (P := P) w .sliceB hd h2
    refine ⟨?_, hb.2⟩
    cases hi with
    | none => have := hhi' rfl; subst this; simp at h1; subst h1; simp [Instr.sliceBounds, hb.1]
    | some v =>
      obtain ⟨d', rfl, hd'⟩ := hhi v rfl
      have := (abound_ok (P := P) w (if s = true then .sliceAcap else .sliceAlen) hd' (up h1)).1
      simp [Instr.sliceBounds, this, hb.1]
end
end Go.Proofs.Ytaepgfafbnjccaa.Am
