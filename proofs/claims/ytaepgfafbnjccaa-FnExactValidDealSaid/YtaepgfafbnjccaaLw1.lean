/- What has been held, at rows of numbers. Each holds under its own conditions. -/
import Derived.Test.YtaepgfafbnjccaaLw0
set_option linter.unusedVariables false
set_option maxRecDepth 20000
namespace Go.Proofs.Ytaepgfafbnjccaa.Am
open Go Go.RowKit Go.Proofs
section
variable {S : Ids} {H0 : AH} {W : Ids} {a a' : Option Addr} {c c' : Nat} {left k : Int}
theorem held_Int64S {x : List Int} (hB : B_Int64S x) (hk : Mk k (sz_Int64S x)) (hs : K_Int64S.R S H0 (mk_Int64S k x) [.slice a (mk_Int64S k x).length c]) : Spec Try.prog S H0 34 [.slice a (mk_Int64S k x).length c, .int .i64 k] (fun v => v = .int .i64 (k + sz_Int64S x)) := heldInt64S (by show x.length ≤ _; have : x.length ≤ 1048576 := hB; omega) ⟨hk.1, by have := hk.2; omega⟩ (sl1 hs)
theorem held_Int64SS {x : List (List Int)} (hB : B_Int64SS x) (hk : Mk k (sz_Int64SS x)) (hs : K_Int64SS.R S H0 (mk_Int64SS k x) [.slice a (mk_Int64SS k x).length c]) : Spec Try.prog S H0 106 [.slice a (mk_Int64SS k x).length c, .int .i64 k] (fun v => v = .int .i64 (k + sz_Int64SS x)) := by
  have hs := sl1 hs
  have hn : (mk_Int64SS k x).length = x.length := mks_len _ _ _ _
  have hxl : x.length ≤ 1048576 := hB.len
  refine Spec.of1 Try.func106 rfl (by kernel_rfl) rfl (fun H _ => ?_)
  refine KW.lp rfl rfl (fun i : Nat => [(0, .slice a (mk_Int64SS k x).length c), (1, .int .i64 (k + sum ((x.map sz_Int64S).take i))), (5, .int .i64 i)]) (fun i => i ≤ x.length) (fun i => x.length - i) (0) (by omega) ⟨rfl, congrArg (Value.int .i64) (by simp [sum]), rfl, trivial⟩ (fun i hi b n => ?_)
  have hsl := sum_le (l := x.map sz_Int64S) i
  have hk1 := hk.1
  have hk2 : k + (sum (x.map sz_Int64S) : Nat) ≤ 274877906944 := hk.2
  refine KW.cnd rfl rfl (fun h => ?_) (fun h => ?_)
  · refine KW.getL hs.up rfl rfl rfl rfl rfl rfl rfl rfl rfl rfl rfl rfl rfl rfl rfl rfl (by omega) (by omega) (fun y a' m hy hsy => ?_)
    have hy : (mk_Int64SS k x)[i]? = some y := hy
    obtain ⟨z, hz⟩ : ∃ z, x[i]? = some z := ⟨x[i]'(by omega), List.getElem?_eq_getElem (by omega)⟩
    rw [mks_at k hz] at hy
    cases hy
    have hzl : (x.map sz_Int64S)[i]? = some (sz_Int64S z) := by simp [hz]
    have hsum := sum_take hzl
    have hsl1 := sum_le (l := x.map sz_Int64S) (i + 1)
    refine KW.callE rfl rfl rfl rfl rfl (held_Int64S (hB.each z (List.mem_of_getElem? hz)) (by constructor <;> omega) (sl1' hsy)) (fun _ _ => ?_)
    refine KW.cnd rfl rfl (fun h => absurd h (by omega)) (fun _ => ?_)
    refine KW.nxt rfl rfl (fun H' g => ⟨i + 1, by omega, by first | omega | (simp only; omega), ⟨rfl, congrArg (Value.int .i64) (by rw [hsum]; omega), congrArg (Value.int .i64) (inc64 (by omega)), trivial⟩, g⟩)
  · refine KW.ret rfl rfl rfl rfl (congrArg (Value.int .i64) ?_)
    obtain rfl : i = x.length := by omega
    rw [List.take_of_length_le (by simp)]
end
end Go.Proofs.Ytaepgfafbnjccaa.Am
