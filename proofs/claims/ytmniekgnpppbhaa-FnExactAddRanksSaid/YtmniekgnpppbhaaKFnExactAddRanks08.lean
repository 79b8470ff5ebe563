/- Words, walks and laws that the proof of FnExactAddRanks stands on, each under its own conditions alone. -/
import Derived.Test.YtmniekgnpppbhaaKFnExactAddRanks01
import Derived.Test.YtmniekgnpppbhaaKFnExactAddRanks03
import Derived.Test.YtmniekgnpppbhaaKFnExactAddRanks04
import Derived.Test.YtmniekgnpppbhaaKFnExactAddRanks05
import Derived.Test.YtmniekgnpppbhaaKFnExactAddRanks07
section
namespace Go.Proofs.Ytmniekgnpppbhaa.F
open Go.RowKit Go.Proofs.YtmniekgnpppbhaaW.PrintWords Go.Proofs.YtmniekgnpppbhaaW.PrintLast Go.Proofs.YtmniekgnpppbhaaW.PrintMore
attribute [local go_sem] max2_int min2_int max_two min_two max_three min_three max_four min_four
set_option linter.unusedVariables false
set_option linter.unusedSimpArgs false
set_option maxHeartbeats 8000000 in
set_option maxRecDepth 100000 in
theorem laws_FnExactAddRanks.calls (k : Nat) (a0_0 : Int) (a0_1 : Int) (A0_2 : Option Addr) (c0_2 : Nat) (l0_2 : List Int) (a1_0 : Int) (a1_1 : Int) (A1_2 : Option Addr) (c1_2 : Nat) (l1_2 : List Int) (r : Bool) (w : World) (hr0_2 : Kd.C (Kd.int .i64) w A0_2 l0_2.length l0_2) (hc0_2 : l0_2.length ≤ c0_2) (hr1_2 : Kd.C (Kd.int .i64) w A1_2 l1_2.length l1_2) (hc1_2 : l1_2.length ≤ c1_2) (h : laws_FnExactAddRanks.f k a0_0 a0_1 l0_2 a1_0 a1_1 l1_2 = some r) :
  Calls Try.prog 8 #[.agg #[.int .i64 a0_0, .int .i64 a0_1, .slice A0_2 l0_2.length c0_2], .agg #[.int .i64 a1_0, .int .i64 a1_1, .slice A1_2 l1_2.length c1_2]] w fun e w' => e = .returned (.bool r) ∧ Below w.heap.size w w' := by
 have hu30 := Try.underlying30
 have hu33 := Try.underlying33
 have HR0_2 := Aside0.mk hr0_2
 have HC0_2 := Aside0.mk hc0_2
 clear hr0_2 hc0_2
 have HR1_2 := Aside0.mk hr1_2
 have HC1_2 := Aside0.mk hc1_2
 clear hr1_2 hc1_2
 have HB := Aside0.mk (Below.refl w.heap.size w)
 have H : ((laws_szRanks.f a0_0 a0_1 l0_2 1048576).bind fun t103 => (if t103 < 0 then (some true) else ((laws_szRanks.f a1_0 a1_1 l1_2 t103).bind fun t104 => (if t104 < 0 then (some true) else ((laws_toRanks.f k a0_0 a0_1 l0_2).bind fun bt105 => ((laws_toRanks.f k a1_0 a1_1 l1_2).bind fun bt110 => ((spec_AddRanks.f k bt105.1 bt105.2.1 bt105.2.2 bt110.1 bt110.2.1 bt110.2.2).bind fun bt115 => ((laws_toRanks.f k a0_0 a0_1 l0_2).bind fun bt122 => ((laws_toRanks.f k a1_0 a1_1 l1_2).bind fun bt128 => ((impl_AddRanks.f k bt122.1 bt122.2.1 bt122.2.2 bt128.1 bt128.2.1 bt128.2.2).bind fun bt134 => ((laws_eqRanks.f k bt134.1 bt134.2.1 bt134.2.2.1 bt115.1 bt115.2.1 bt115.2.2.1).bind fun t141 => (if t141 = true then (laws_FnExactAddRanks.j0 k bt115.2.2.2 bt134.2.2.2 (bt134.2.2.2 != bt115.2.2.2) a0_0 a0_1 l0_2 a1_0 a1_1 l1_2 bt115.1 bt115.2.1 bt115.2.2.1 bt122.1 bt122.2.1 bt122.2.2 bt128.1 bt128.2.1 bt128.2.2 bt134.1 bt134.2.1 bt134.2.2.1) else (none))))))))))))) = some r := h
 clear h
 replace H := Option.bind_eq_some_iff.mp H
 obtain ⟨t103, A30, H⟩ := H
 replace H : (if t103 < 0 then (some true) else ((laws_szRanks.f a1_0 a1_1 l1_2 t103).bind fun t104 => (if t104 < 0 then (some true) else ((laws_toRanks.f k a0_0 a0_1 l0_2).bind fun bt105 => ((laws_toRanks.f k a1_0 a1_1 l1_2).bind fun bt110 => ((spec_AddRanks.f k bt105.1 bt105.2.1 bt105.2.2 bt110.1 bt110.2.1 bt110.2.2).bind fun bt115 => ((laws_toRanks.f k a0_0 a0_1 l0_2).bind fun bt122 => ((laws_toRanks.f k a1_0 a1_1 l1_2).bind fun bt128 => ((impl_AddRanks.f k bt122.1 bt122.2.1 bt122.2.2 bt128.1 bt128.2.1 bt128.2.2).bind fun bt134 => ((laws_eqRanks.f k bt134.1 bt134.2.1 bt134.2.2.1 bt115.1 bt115.2.1 bt115.2.2.1).bind fun t141 => (if t141 = true then (laws_FnExactAddRanks.j0 k bt115.2.2.2 bt134.2.2.2 (bt134.2.2.2 != bt115.2.2.2) a0_0 a0_1 l0_2 a1_0 a1_1 l1_2 bt115.1 bt115.2.1 bt115.2.2.1 bt122.1 bt122.2.1 bt122.2.2 bt128.1 bt128.2.1 bt128.2.2 bt134.1 bt134.2.1 bt134.2.2.1) else (none)))))))))))) = some r := H
 have A3 := Aside0.mk A30
 clear A30
 by_cases c4 : t103 < 0
 ·rw [if_pos c4] at H
  have c4b0 : decide (t103 < 0) = true := decide_eq_true c4
  clear c4
  obtain rfl := Option.some.inj H
  go_enter Try.func8, Try.ntmps8
  go_wp2_with (first | ((with_reducible refine gate_dst (N := 2) rfl ?_); refine box_event ?hg (N := 2) ?hd (cs := #[.int .i64 a0_0, .int .i64 a0_1, .slice A0_2 l0_2.length c0_2]) (t := 30) ?hr ?_; (case hd => rfl); (case hg => rfl); (case hr => first | (go_simp; done) | (go_simp; rfl)); intro gb101 hg w5 hbox hb; have n0_ := Aside0.mk (below_step (bw_ HB.out) hb); have n1_ := Aside0.mk (hbox); have n2_ := Aside0.mk ((sz_ (below_size (bw_ HB.out)) hg : w.heap.size ≤ gb101)); have n3_ := Aside0.mk ((sz_ (below_size (bw_ HB.out)) hg : w.heap.size ≤ gb101)); clear HB; have HB := n0_; have BK101 := n1_; have GW101 := n2_; have GE101 := n3_; clear n0_ n1_ n2_ n3_; clear hb hbox hg) | ((with_reducible refine gate_dst (N := 3) rfl ?_); refine box_event ?hg (N := 3) ?hd (cs := #[.int .i64 a1_0, .int .i64 a1_1, .slice A1_2 l1_2.length c1_2]) (t := 30) ?hr ?_; (case hd => rfl); (case hg => rfl); (case hr => first | (go_simp; done) | (go_simp; rfl)); intro gb102 hg w6 hbox hb; have n0_ := Aside0.mk (blk_below (bz_ BK101.out) hb); have n1_ := Aside0.mk (below_step (bw_ HB.out) hb); have n2_ := Aside0.mk (hbox); have n3_ := Aside0.mk ((sz_ (below_size (bw_ HB.out)) hg : w.heap.size ≤ gb102)); have n4_ := Aside0.mk ((sz_ (below_size (bw_ HB.out)) hg : w.heap.size ≤ gb102)); have n5_ := Aside0.mk ((nl_ (blk_lt (bz_ BK101.out)) hg : gb101 ≠ gb102)); have n6_ := Aside0.mk ((ng_ (blk_lt (bz_ BK101.out)) hg : gb102 ≠ gb101)); clear BK101 HB; have BK101 := n0_; have HB := n1_; have BK102 := n2_; have GW102 := n3_; have GE102 := n4_; have NB101_102 := n5_; have NB102_101 := n6_; clear n0_ n1_ n2_ n3_ n4_ n5_ n6_; clear hb hbox hg; have hnb7 := NB101_102.out; have hnc7 := NB102_101.out; have hcz8_0 : w6.cell? ⟨gb101, 0, none⟩ = some (.int .i64 a0_0) := (blk_cell BK101.out 0).trans rfl; have hcz8_1 : w6.cell? ⟨gb101, 1, none⟩ = some (.int .i64 a0_1) := (blk_cell BK101.out 1).trans rfl; have hcz8_2 : w6.cell? ⟨gb101, 2, none⟩ = some (.slice A0_2 l0_2.length c0_2) := (blk_cell BK101.out 2).trans rfl; have hfz8_0 := blk_frozen BK101.out 0; have hfz8_1 := blk_frozen BK101.out 1; have hfz8_2 := blk_frozen BK101.out 2) | ((with_reducible refine gate_callee (f := 12) rfl ?_); refine goesL_ (some 19) rfl rfl Try.func12 (by kernel_rfl) rfl #[.agg #[.int .i64 a0_0, .int .i64 a0_1, .slice A0_2 l0_2.length c0_2], .int .i64 1048576] rfl am_ ?_; (with_reducible refine (laws_szRanks.calls a0_0 a0_1 _ _ l0_2 1048576 t103 _ ?side1 ?side2 A3.out).mono ?_); (case side1 => repeat (first | exact (Kd.C_below HR0_2.out HB.out) | (with_reducible refine Kd.C_alloc ?_ _) | (with_reducible refine Kd.C_drewN ?_ _) | (with_reducible refine Kd.C_drew ?_))); (case side2 => exact HC0_2.out); rintro e w9 ⟨rfl, hb⟩; refine ⟨_, rfl, ?_⟩; have n0_ := Aside0.mk (blk_below (bz_ BK101.out) hb); have n1_ := Aside0.mk (blk_below (bz_ BK102.out) hb); have n2_ := Aside0.mk (below_step (bw_ HB.out) hb); clear BK101 BK102 HB; have BK101 := n0_; have BK102 := n1_; have HB := n2_; clear n0_ n1_ n2_; (try clear hb); (try clear hb2); (try clear hk); (try clear hi)))
  go_ret
  exact ⟨by first | rfl | (simp [errW_none, errW_some] <;> rfl) | (simp [*, errW_none, errW_some] <;> rfl), by repeat (first | (with_reducible first | exact HB.out | apply below_alloc | apply pw_below_drewN | apply below_drew1 | refine below_set ?_ GE101.out | refine below_set ?_ GE102.out) | exact HB.out)⟩
 ·rw [if_neg c4] at H
  have c4b0 : decide (t103 < 0) = false := decide_eq_false c4
  clear c4
  replace H := Option.bind_eq_some_iff.mp H
  obtain ⟨t104, A100, H⟩ := H
  replace H : (if t104 < 0 then (some true) else ((laws_toRanks.f k a0_0 a0_1 l0_2).bind fun bt105 => ((laws_toRanks.f k a1_0 a1_1 l1_2).bind fun bt110 => ((spec_AddRanks.f k bt105.1 bt105.2.1 bt105.2.2 bt110.1 bt110.2.1 bt110.2.2).bind fun bt115 => ((laws_toRanks.f k a0_0 a0_1 l0_2).bind fun bt122 => ((laws_toRanks.f k a1_0 a1_1 l1_2).bind fun bt128 => ((impl_AddRanks.f k bt122.1 bt122.2.1 bt122.2.2 bt128.1 bt128.2.1 bt128.2.2).bind fun bt134 => ((laws_eqRanks.f k bt134.1 bt134.2.1 bt134.2.2.1 bt115.1 bt115.2.1 bt115.2.2.1).bind fun t141 => (if t141 = true then (laws_FnExactAddRanks.j0 k bt115.2.2.2 bt134.2.2.2 (bt134.2.2.2 != bt115.2.2.2) a0_0 a0_1 l0_2 a1_0 a1_1 l1_2 bt115.1 bt115.2.1 bt115.2.2.1 bt122.1 bt122.2.1 bt122.2.2 bt128.1 bt128.2.1 bt128.2.2 bt134.1 bt134.2.1 bt134.2.2.1) else (none)))))))))) = some r := H
  have A10 := Aside0.mk A100
  clear A100
  by_cases c11 : t104 < 0
  ·rw [if_pos c11] at H
   have c11b0 : decide (t104 < 0) = true := decide_eq_true c11
   clear c11
   obtain rfl := Option.some.inj H
   go_enter Try.func8, Try.ntmps8
   go_wp2_with (first | ((with_reducible refine gate_dst (N := 2) rfl ?_); refine box_event ?hg (N := 2) ?hd (cs := #[.int .i64 a0_0, .int .i64 a0_1, .slice A0_2 l0_2.length c0_2]) (t := 30) ?hr ?_; (case hd => rfl); (case hg => rfl); (case hr => first | (go_simp; done) | (go_simp; rfl)); intro gb101 hg w12 hbox hb; have n0_ := Aside0.mk (below_step (bw_ HB.out) hb); have n1_ := Aside0.mk (hbox); have n2_ := Aside0.mk ((sz_ (below_size (bw_ HB.out)) hg : w.heap.size ≤ gb101)); have n3_ := Aside0.mk ((sz_ (below_size (bw_ HB.out)) hg : w.heap.size ≤ gb101)); clear HB; have HB := n0_; have BK101 := n1_; have GW101 := n2_; have GE101 := n3_; clear n0_ n1_ n2_ n3_; clear hb hbox hg) | ((with_reducible refine gate_dst (N := 3) rfl ?_); refine box_event ?hg (N := 3) ?hd (cs := #[.int .i64 a1_0, .int .i64 a1_1, .slice A1_2 l1_2.length c1_2]) (t := 30) ?hr ?_; (case hd => rfl); (case hg => rfl); (case hr => first | (go_simp; done) | (go_simp; rfl)); intro gb102 hg w13 hbox hb; have n0_ := Aside0.mk (blk_below (bz_ BK101.out) hb); have n1_ := Aside0.mk (below_step (bw_ HB.out) hb); have n2_ := Aside0.mk (hbox); have n3_ := Aside0.mk ((sz_ (below_size (bw_ HB.out)) hg : w.heap.size ≤ gb102)); have n4_ := Aside0.mk ((sz_ (below_size (bw_ HB.out)) hg : w.heap.size ≤ gb102)); have n5_ := Aside0.mk ((nl_ (blk_lt (bz_ BK101.out)) hg : gb101 ≠ gb102)); have n6_ := Aside0.mk ((ng_ (blk_lt (bz_ BK101.out)) hg : gb102 ≠ gb101)); clear BK101 HB; have BK101 := n0_; have HB := n1_; have BK102 := n2_; have GW102 := n3_; have GE102 := n4_; have NB101_102 := n5_; have NB102_101 := n6_; clear n0_ n1_ n2_ n3_ n4_ n5_ n6_; clear hb hbox hg; have hnb14 := NB101_102.out; have hnc14 := NB102_101.out; have hcz15_0 : w13.cell? ⟨gb101, 0, none⟩ = some (.int .i64 a0_0) := (blk_cell BK101.out 0).trans rfl; have hcz15_1 : w13.cell? ⟨gb101, 1, none⟩ = some (.int .i64 a0_1) := (blk_cell BK101.out 1).trans rfl; have hcz15_2 : w13.cell? ⟨gb101, 2, none⟩ = some (.slice A0_2 l0_2.length c0_2) := (blk_cell BK101.out 2).trans rfl; have hfz15_0 := blk_frozen BK101.out 0; have hfz15_1 := blk_frozen BK101.out 1; have hfz15_2 := blk_frozen BK101.out 2) | ((with_reducible refine gate_callee (f := 12) rfl ?_); refine goesL_ (some 19) rfl rfl Try.func12 (by kernel_rfl) rfl #[.agg #[.int .i64 a0_0, .int .i64 a0_1, .slice A0_2 l0_2.length c0_2], .int .i64 1048576] rfl am_ ?_; (with_reducible refine (laws_szRanks.calls a0_0 a0_1 _ _ l0_2 1048576 t103 _ ?side1 ?side2 A3.out).mono ?_); (case side1 => repeat (first | exact (Kd.C_below HR0_2.out HB.out) | (with_reducible refine Kd.C_alloc ?_ _) | (with_reducible refine Kd.C_drewN ?_ _) | (with_reducible refine Kd.C_drew ?_))); (case side2 => exact HC0_2.out); rintro e w16 ⟨rfl, hb⟩; refine ⟨_, rfl, ?_⟩; have n0_ := Aside0.mk (blk_below (bz_ BK101.out) hb); have n1_ := Aside0.mk (blk_below (bz_ BK102.out) hb); have n2_ := Aside0.mk (below_step (bw_ HB.out) hb); clear BK101 BK102 HB; have BK101 := n0_; have BK102 := n1_; have HB := n2_; clear n0_ n1_ n2_; (try clear hb); (try clear hb2); (try clear hk); (try clear hi); have hcz17_0 : w16.cell? ⟨gb102, 0, none⟩ = some (.int .i64 a1_0) := (blk_cell BK102.out 0).trans rfl; have hcz17_1 : w16.cell? ⟨gb102, 1, none⟩ = some (.int .i64 a1_1) := (blk_cell BK102.out 1).trans rfl; have hcz17_2 : w16.cell? ⟨gb102, 2, none⟩ = some (.slice A1_2 l1_2.length c1_2) := (blk_cell BK102.out 2).trans rfl; have hfz17_0 := blk_frozen BK102.out 0; have hfz17_1 := blk_frozen BK102.out 1; have hfz17_2 := blk_frozen BK102.out 2) | ((with_reducible refine gate_callee (f := 12) rfl ?_); refine goesL_ (some 24) rfl rfl Try.func12 (by kernel_rfl) rfl #[.agg #[.int .i64 a1_0, .int .i64 a1_1, .slice A1_2 l1_2.length c1_2], .int .i64 t103] rfl am_ ?_; (with_reducible refine (laws_szRanks.calls a1_0 a1_1 _ _ l1_2 t103 t104 _ ?side1 ?side2 A10.out).mono ?_); (case side1 => repeat (first | exact (Kd.C_below HR1_2.out HB.out) | (with_reducible refine Kd.C_alloc ?_ _) | (with_reducible refine Kd.C_drewN ?_ _) | (with_reducible refine Kd.C_drew ?_))); (case side2 => exact HC1_2.out); rintro e w18 ⟨rfl, hb⟩; refine ⟨_, rfl, ?_⟩; have n0_ := Aside0.mk (blk_below (bz_ BK101.out) hb); have n1_ := Aside0.mk (blk_below (bz_ BK102.out) hb); have n2_ := Aside0.mk (below_step (bw_ HB.out) hb); clear BK101 BK102 HB; have BK101 := n0_; have BK102 := n1_; have HB := n2_; clear n0_ n1_ n2_; (try clear hb); (try clear hb2); (try clear hk); (try clear hi)))
   go_ret
   exact ⟨by first | rfl | (simp [errW_none, errW_some] <;> rfl) | (simp [*, errW_none, errW_some] <;> rfl), by repeat (first | (with_reducible first | exact HB.out | apply below_alloc | apply pw_below_drewN | apply below_drew1 | refine below_set ?_ GE101.out | refine below_set ?_ GE102.out) | exact HB.out)⟩
  ·rw [if_neg c11] at H
   have c11b0 : decide (t104 < 0) = false := decide_eq_false c11
   clear c11
   replace H := Option.bind_eq_some_iff.mp H
   obtain ⟨⟨t105, t106, t107⟩, A190, H⟩ := H
   replace H : ((laws_toRanks.f k a1_0 a1_1 l1_2).bind fun bt110 => ((spec_AddRanks.f k t105 t106 t107 bt110.1 bt110.2.1 bt110.2.2).bind fun bt115 => ((laws_toRanks.f k a0_0 a0_1 l0_2).bind fun bt122 => ((laws_toRanks.f k a1_0 a1_1 l1_2).bind fun bt128 => ((impl_AddRanks.f k bt122.1 bt122.2.1 bt122.2.2 bt128.1 bt128.2.1 bt128.2.2).bind fun bt134 => ((laws_eqRanks.f k bt134.1 bt134.2.1 bt134.2.2.1 bt115.1 bt115.2.1 bt115.2.2.1).bind fun t141 => (if t141 = true then (laws_FnExactAddRanks.j0 k bt115.2.2.2 bt134.2.2.2 (bt134.2.2.2 != bt115.2.2.2) a0_0 a0_1 l0_2 a1_0 a1_1 l1_2 bt115.1 bt115.2.1 bt115.2.2.1 bt122.1 bt122.2.1 bt122.2.2 bt128.1 bt128.2.1 bt128.2.2 bt134.1 bt134.2.1 bt134.2.2.1) else (none)))))))) = some r := H
   have A19 := Aside0.mk A190
   clear A190
   replace H := Option.bind_eq_some_iff.mp H
   obtain ⟨⟨t110, t111, t112⟩, A200, H⟩ := H
   replace H : ((spec_AddRanks.f k t105 t106 t107 t110 t111 t112).bind fun bt115 => ((laws_toRanks.f k a0_0 a0_1 l0_2).bind fun bt122 => ((laws_toRanks.f k a1_0 a1_1 l1_2).bind fun bt128 => ((impl_AddRanks.f k bt122.1 bt122.2.1 bt122.2.2 bt128.1 bt128.2.1 bt128.2.2).bind fun bt134 => ((laws_eqRanks.f k bt134.1 bt134.2.1 bt134.2.2.1 bt115.1 bt115.2.1 bt115.2.2.1).bind fun t141 => (if t141 = true then (laws_FnExactAddRanks.j0 k bt115.2.2.2 bt134.2.2.2 (bt134.2.2.2 != bt115.2.2.2) a0_0 a0_1 l0_2 a1_0 a1_1 l1_2 bt115.1 bt115.2.1 bt115.2.2.1 bt122.1 bt122.2.1 bt122.2.2 bt128.1 bt128.2.1 bt128.2.2 bt134.1 bt134.2.1 bt134.2.2.1) else (none))))))) = some r := H
   have A20 := Aside0.mk A200
   clear A200
   replace H := Option.bind_eq_some_iff.mp H
   obtain ⟨⟨t115, t116, t117, t120⟩, A210, H⟩ := H
   replace H : ((laws_toRanks.f k a0_0 a0_1 l0_2).bind fun bt122 => ((laws_toRanks.f k a1_0 a1_1 l1_2).bind fun bt128 => ((impl_AddRanks.f k bt122.1 bt122.2.1 bt122.2.2 bt128.1 bt128.2.1 bt128.2.2).bind fun bt134 => ((laws_eqRanks.f k bt134.1 bt134.2.1 bt134.2.2.1 t115 t116 t117).bind fun t141 => (if t141 = true then (laws_FnExactAddRanks.j0 k t120 bt134.2.2.2 (bt134.2.2.2 != t120) a0_0 a0_1 l0_2 a1_0 a1_1 l1_2 t115 t116 t117 bt122.1 bt122.2.1 bt122.2.2 bt128.1 bt128.2.1 bt128.2.2 bt134.1 bt134.2.1 bt134.2.2.1) else (none)))))) = some r := H
   have A21 := Aside0.mk A210
   clear A210
   replace H := Option.bind_eq_some_iff.mp H
   obtain ⟨⟨t122, t123, t124⟩, A220, H⟩ := H
   replace H : ((laws_toRanks.f k a1_0 a1_1 l1_2).bind fun bt128 => ((impl_AddRanks.f k t122 t123 t124 bt128.1 bt128.2.1 bt128.2.2).bind fun bt134 => ((laws_eqRanks.f k bt134.1 bt134.2.1 bt134.2.2.1 t115 t116 t117).bind fun t141 => (if t141 = true then (laws_FnExactAddRanks.j0 k t120 bt134.2.2.2 (bt134.2.2.2 != t120) a0_0 a0_1 l0_2 a1_0 a1_1 l1_2 t115 t116 t117 t122 t123 t124 bt128.1 bt128.2.1 bt128.2.2 bt134.1 bt134.2.1 bt134.2.2.1) else (none))))) = some r := H
   have A22 := Aside0.mk A220
   clear A220
   replace H := Option.bind_eq_some_iff.mp H
   obtain ⟨⟨t128, t129, t130⟩, A230, H⟩ := H
   replace H : ((impl_AddRanks.f k t122 t123 t124 t128 t129 t130).bind fun bt134 => ((laws_eqRanks.f k bt134.1 bt134.2.1 bt134.2.2.1 t115 t116 t117).bind fun t141 => (if t141 = true then (laws_FnExactAddRanks.j0 k t120 bt134.2.2.2 (bt134.2.2.2 != t120) a0_0 a0_1 l0_2 a1_0 a1_1 l1_2 t115 t116 t117 t122 t123 t124 t128 t129 t130 bt134.1 bt134.2.1 bt134.2.2.1) else (none)))) = some r := H
   have A23 := Aside0.mk A230
   clear A230
   replace H := Option.bind_eq_some_iff.mp H
   obtain ⟨⟨t134, t135, t136, t139⟩, A240, H⟩ := H
   replace H : ((laws_eqRanks.f k t134 t135 t136 t115 t116 t117).bind fun t141 => (if t141 = true then (laws_FnExactAddRanks.j0 k t120 t139 (t139 != t120) a0_0 a0_1 l0_2 a1_0 a1_1 l1_2 t115 t116 t117 t122 t123 t124 t128 t129 t130 t134 t135 t136) else (none))) = some r := H
   have A24 := Aside0.mk A240
   clear A240
   have HC25 := Aside0.mk H
   clear H
   go_enter Try.func8, Try.ntmps8
   try go_wp2_with (first | ((with_reducible refine gate_dst (N := 2) rfl ?_); refine box_event ?hg (N := 2) ?hd (cs := #[.int .i64 a0_0, .int .i64 a0_1, .slice A0_2 l0_2.length c0_2]) (t := 30) ?hr ?_; (case hd => rfl); (case hg => rfl); (case hr => first | (go_simp; done) | (go_simp; rfl)); intro gb101 hg w26 hbox hb; have n0_ := Aside0.mk (below_step (bw_ HB.out) hb); have n1_ := Aside0.mk (hbox); have n2_ := Aside0.mk ((sz_ (below_size (bw_ HB.out)) hg : w.heap.size ≤ gb101)); have n3_ := Aside0.mk ((sz_ (below_size (bw_ HB.out)) hg : w.heap.size ≤ gb101)); clear HB; have HB := n0_; have BK101 := n1_; have GW101 := n2_; have GE101 := n3_; clear n0_ n1_ n2_ n3_; clear hb hbox hg) | ((with_reducible refine gate_dst (N := 3) rfl ?_); refine box_event ?hg (N := 3) ?hd (cs := #[.int .i64 a1_0, .int .i64 a1_1, .slice A1_2 l1_2.length c1_2]) (t := 30) ?hr ?_; (case hd => rfl); (case hg => rfl); (case hr => first | (go_simp; done) | (go_simp; rfl)); intro gb102 hg w27 hbox hb; have n0_ := Aside0.mk (blk_below (bz_ BK101.out) hb); have n1_ := Aside0.mk (below_step (bw_ HB.out) hb); have n2_ := Aside0.mk (hbox); have n3_ := Aside0.mk ((sz_ (below_size (bw_ HB.out)) hg : w.heap.size ≤ gb102)); have n4_ := Aside0.mk ((sz_ (below_size (bw_ HB.out)) hg : w.heap.size ≤ gb102)); have n5_ := Aside0.mk ((nl_ (blk_lt (bz_ BK101.out)) hg : gb101 ≠ gb102)); have n6_ := Aside0.mk ((ng_ (blk_lt (bz_ BK101.out)) hg : gb102 ≠ gb101)); clear BK101 HB; have BK101 := n0_; have HB := n1_; have BK102 := n2_; have GW102 := n3_; have GE102 := n4_; have NB101_102 := n5_; have NB102_101 := n6_; clear n0_ n1_ n2_ n3_ n4_ n5_ n6_; clear hb hbox hg; have hnb28 := NB101_102.out; have hnc28 := NB102_101.out; have hcz29_0 : w27.cell? ⟨gb101, 0, none⟩ = some (.int .i64 a0_0) := (blk_cell BK101.out 0).trans rfl; have hcz29_1 : w27.cell? ⟨gb101, 1, none⟩ = some (.int .i64 a0_1) := (blk_cell BK101.out 1).trans rfl; have hcz29_2 : w27.cell? ⟨gb101, 2, none⟩ = some (.slice A0_2 l0_2.length c0_2) := (blk_cell BK101.out 2).trans rfl; have hfz29_0 := blk_frozen BK101.out 0; have hfz29_1 := blk_frozen BK101.out 1; have hfz29_2 := blk_frozen BK101.out 2) | ((with_reducible refine gate_callee (f := 12) rfl ?_); refine goesL_ (some 19) rfl rfl Try.func12 (by kernel_rfl) rfl #[.agg #[.int .i64 a0_0, .int .i64 a0_1, .slice A0_2 l0_2.length c0_2], .int .i64 1048576] rfl am_ ?_; (with_reducible refine (laws_szRanks.calls a0_0 a0_1 _ _ l0_2 1048576 t103 _ ?side1 ?side2 A3.out).mono ?_); (case side1 => repeat (first | exact (Kd.C_below HR0_2.out HB.out) | (with_reducible refine Kd.C_alloc ?_ _) | (with_reducible refine Kd.C_drewN ?_ _) | (with_reducible refine Kd.C_drew ?_))); (case side2 => exact HC0_2.out); rintro e w30 ⟨rfl, hb⟩; refine ⟨_, rfl, ?_⟩; have n0_ := Aside0.mk (blk_below (bz_ BK101.out) hb); have n1_ := Aside0.mk (blk_below (bz_ BK102.out) hb); have n2_ := Aside0.mk (below_step (bw_ HB.out) hb); clear BK101 BK102 HB; have BK101 := n0_; have BK102 := n1_; have HB := n2_; clear n0_ n1_ n2_; (try clear hb); (try clear hb2); (try clear hk); (try clear hi); have hcz31_0 : w30.cell? ⟨gb102, 0, none⟩ = some (.int .i64 a1_0) := (blk_cell BK102.out 0).trans rfl; have hcz31_1 : w30.cell? ⟨gb102, 1, none⟩ = some (.int .i64 a1_1) := (blk_cell BK102.out 1).trans rfl; have hcz31_2 : w30.cell? ⟨gb102, 2, none⟩ = some (.slice A1_2 l1_2.length c1_2) := (blk_cell BK102.out 2).trans rfl; have hfz31_0 := blk_frozen BK102.out 0; have hfz31_1 := blk_frozen BK102.out 1; have hfz31_2 := blk_frozen BK102.out 2) | ((with_reducible refine gate_callee (f := 12) rfl ?_); refine goesL_ (some 24) rfl rfl Try.func12 (by kernel_rfl) rfl #[.agg #[.int .i64 a1_0, .int .i64 a1_1, .slice A1_2 l1_2.length c1_2], .int .i64 t103] rfl am_ ?_; (with_reducible refine (laws_szRanks.calls a1_0 a1_1 _ _ l1_2 t103 t104 _ ?side1 ?side2 A10.out).mono ?_); (case side1 => repeat (first | exact (Kd.C_below HR1_2.out HB.out) | (with_reducible refine Kd.C_alloc ?_ _) | (with_reducible refine Kd.C_drewN ?_ _) | (with_reducible refine Kd.C_drew ?_))); (case side2 => exact HC1_2.out); rintro e w32 ⟨rfl, hb⟩; refine ⟨_, rfl, ?_⟩; have n0_ := Aside0.mk (blk_below (bz_ BK101.out) hb); have n1_ := Aside0.mk (blk_below (bz_ BK102.out) hb); have n2_ := Aside0.mk (below_step (bw_ HB.out) hb); clear BK101 BK102 HB; have BK101 := n0_; have BK102 := n1_; have HB := n2_; clear n0_ n1_ n2_; (try clear hb); (try clear hb2); (try clear hk); (try clear hi)))
   have n0_ := Aside0.mk (blk_drew BK101.out)
   have n1_ := Aside0.mk (blk_drew BK102.out)
   have n2_ := Aside0.mk (below_drew1 HB.out)
   clear BK101
   clear BK102
   clear HB
   have BK101 := n0_
   have BK102 := n1_
   have HB := n2_
   clear n0_ n1_ n2_
   refine start_ (n := 11) (S := fun w' => w'.cell? ⟨gb101, 0, none⟩ = some (.int .i64 a0_0) ∧ w'.cell? ⟨gb101, 1, none⟩ = some (.int .i64 a0_1) ∧ w'.cell? ⟨gb101, 2, none⟩ = some (.slice A0_2 l0_2.length c0_2) ∧ w'.cell? ⟨gb102, 0, none⟩ = some (.int .i64 a1_0) ∧ w'.cell? ⟨gb102, 1, none⟩ = some (.int .i64 a1_1) ∧ w'.cell? ⟨gb102, 2, none⟩ = some (.slice A1_2 l1_2.length c1_2)) (ds := []) (fl 11 0) (by kernel_rfl) rfl rfl ⟨(blk_cell BK101.out 0).trans rfl, (blk_cell BK101.out 1).trans rfl, (blk_cell BK101.out 2).trans rfl, (blk_cell BK102.out 0).trans rfl, (blk_cell BK102.out 1).trans rfl, (blk_cell BK102.out 2).trans rfl⟩ (fun hHeld => ?_); refine with_tabW laws_FnExactAddRanks.tab8 laws_FnExactAddRanks.bits8 (fun HT_ HW_ => ?_)
   generalize w32.drew = w33 at BK101 BK102 HB hHeld ⊢
   refine tk_ (i := 0) (N := some 28) HT_.out HW_.out (fl 11 1) (by kernel_rfl) hHeld ?_
   refine tk_ (i := 2) (N := some 30) HT_.out HW_.out (fl 11 5) (by kernel_rfl) hHeld ?_
   refine join_ (σ := Value × Value × Value × Nat) 2 (fl 11 511) (fun s_ => [(29, .agg #[.int .i64 t105, .int .i64 t106, s_.1]), (31, .agg #[.int .i64 t110, .int .i64 t111, s_.2.1]), (32, .tuple #[.agg #[.int .i64 t115, .int .i64 t116, s_.2.2.1], .int .i64 t120]), (6, .pointer (some ⟨s_.2.2.2, 0, none⟩)), (27, .tuple #[.agg #[.int .i64 t115, .int .i64 t116, s_.2.2.1], .int .i64 t120]), (33, .agg #[.int .i64 t115, .int .i64 t116, s_.2.2.1]), (34, .int .i64 t120)]) (fun s_ w' => (w'.cell? ⟨gb101, 0, none⟩ = some (.int .i64 a0_0) ∧ w'.cell? ⟨gb101, 1, none⟩ = some (.int .i64 a0_1) ∧ w'.cell? ⟨gb101, 2, none⟩ = some (.slice A0_2 l0_2.length c0_2) ∧ w'.cell? ⟨gb102, 0, none⟩ = some (.int .i64 a1_0) ∧ w'.cell? ⟨gb102, 1, none⟩ = some (.int .i64 a1_1) ∧ w'.cell? ⟨gb102, 2, none⟩ = some (.slice A1_2 l1_2.length c1_2)) ∧ (Kd.R (Kd.int .i64) 2 w' w.heap.size (fun k_ => some k_ ≠ (s_.2.1 : Value).ownBlock ∧ some k_ ≠ (s_.2.2.1 : Value).ownBlock) s_.1 t107) ∧ (Kd.R (Kd.int .i64) 2 w' w.heap.size (fun k_ => some k_ ≠ (s_.1 : Value).ownBlock ∧ some k_ ≠ (s_.2.2.1 : Value).ownBlock) s_.2.1 t112) ∧ (Kd.R (Kd.int .i64) 2 w' w.heap.size (fun k_ => some k_ ≠ (s_.1 : Value).ownBlock ∧ some k_ ≠ (s_.2.1 : Value).ownBlock) s_.2.2.1 t117) ∧ (w'.heap[gb101]? = some (.cells #[.int .i64 a0_0, .int .i64 a0_1, .slice A0_2 l0_2.length c0_2] 30 (0, 0))) ∧ (w'.heap[gb102]? = some (.cells #[.int .i64 a1_0, .int .i64 a1_1, .slice A1_2 l1_2.length c1_2] 30 (0, 0))) ∧ (w'.heap[s_.2.2.2]? = some (.cells #[.int .i64 0, .int .i64 0, .slice none 0 0] 33 (0, 0))) ∧ (w.heap.size ≤ s_.2.2.2) ∧ (w.heap.size ≤ s_.2.2.2) ∧ (gb101 ≠ s_.2.2.2) ∧ (s_.2.2.2 ≠ gb101) ∧ (gb102 ≠ s_.2.2.2) ∧ (s_.2.2.2 ≠ gb102) ∧ (Below w.heap.size w w')) ?_ ?_
   rotate_left
   ·intro hCont
    refine two_ (i := 1) (j := 8) (Ni := some 29) (Nj := some 6) (fl 11 7) (fl 11 261) rfl rfl rfl rfl (two_of HT_.out (by kernel_rfl)) (by decide) (by decide) (fun K hK => ?_) (fun K hK => ?_)
    ·skip
     refine goes_ Try.func14 (by kernel_rfl) rfl #[.agg #[.int .i64 a0_0, .int .i64 a0_1, .slice A0_2 l0_2.length c0_2]] (by rfl) rfl rfl am_ ?_
     with_reducible refine (laws_toRanks.calls k a0_0 a0_1 _ _ l0_2 t105 t106 t107 _ ?side1 ?side2 A19.out).mono ?_
     (case side1 => repeat (first | exact (Kd.C_below HR0_2.out HB.out) | (with_reducible refine Kd.C_alloc ?_ _) | (with_reducible refine Kd.C_drewN ?_ _) | (with_reducible refine Kd.C_drew ?_)))
     (case side2 => exact HC0_2.out)
     rintro e w34 ⟨v108, rfl, ho0, hb⟩
     refine ⟨_, rfl, ?_⟩
     have n0_ := Aside0.mk (Kd.R_lower ho0 (below_size (bw_ HB.out)))
     have n1_ := Aside0.mk (blk_below (bz_ BK101.out) hb)
     have n2_ := Aside0.mk (blk_below (bz_ BK102.out) hb)
     have n3_ := Aside0.mk (below_step (bw_ HB.out) hb)
     clear BK101
     clear BK102
     clear HB
     have HO109 := n0_
     have BK101 := n1_
     have BK102 := n2_
     have HB := n3_
     clear n0_ n1_ n2_ n3_
     (try clear hb)
     (try clear hb2)
     (try clear hk)
     (try clear hi)
     (try clear ho0)
     refine hK.out _ _ ⟨(blk_cell BK101.out 0).trans rfl, (blk_cell BK101.out 1).trans rfl, (blk_cell BK101.out 2).trans rfl, (blk_cell BK102.out 0).trans rfl, (blk_cell BK102.out 1).trans rfl, (blk_cell BK102.out 2).trans rfl⟩ (fun hHeld => ?_)
     clear hK K
     refine norm_ (a' := ?_) ?_ ?_
     rotate_left
     ·show Act.put _ (some 29) _ = _
      simp only [Act.put, List.setIfInBounds_toArray, List.set_cons_zero, List.set_cons_succ, i64_w, i32_w]
      rfl
     refine two_ (i := 3) (j := 8) (Ni := some 31) (Nj := some 6) (fl 11 15) (fl 11 263) rfl rfl rfl rfl (two_of HT_.out (by kernel_rfl)) (by decide) (by decide) (fun K hK => ?_) (fun K hK => ?_)
     ·skip
      refine goes_ Try.func14 (by kernel_rfl) rfl #[.agg #[.int .i64 a1_0, .int .i64 a1_1, .slice A1_2 l1_2.length c1_2]] (by rfl) rfl rfl am_ ?_
      with_reducible refine (laws_toRanks.calls k a1_0 a1_1 _ _ l1_2 t110 t111 t112 _ ?side1 ?side2 A20.out).mono ?_
      (case side1 => repeat (first | exact (Kd.C_below HR1_2.out HB.out) | (with_reducible refine Kd.C_alloc ?_ _) | (with_reducible refine Kd.C_drewN ?_ _) | (with_reducible refine Kd.C_drew ?_)))
      (case side2 => exact HC1_2.out)
      rintro e w35 ⟨v113, rfl, ho0, hb⟩
      refine ⟨_, rfl, ?_⟩
      have n0_ := Aside0.mk (Kd.R_elder' (rz_ HO109.out) (Kd.R_base ho0) hb)
      have n1_ := Aside0.mk (Kd.R_lower (Kd.R_new' ho0 (Kd.R_lt (rz_ HO109.out))) (below_size (bw_ HB.out)))
      have n2_ := Aside0.mk (blk_below (bz_ BK101.out) hb)
      have n3_ := Aside0.mk (blk_below (bz_ BK102.out) hb)
      have n4_ := Aside0.mk (below_step (bw_ HB.out) hb)
      clear HO109
      clear BK101
      clear BK102
      clear HB
      have HO109 := n0_
      have HO114 := n1_
      have BK101 := n2_
      have BK102 := n3_
      have HB := n4_
      clear n0_ n1_ n2_ n3_ n4_
      (try clear hb)
      (try clear hb2)
      (try clear hk)
      (try clear hi)
      (try clear ho0)
      obtain ⟨Ao36, co36, eo36⟩ := Kd.R_slice HO109.out
      (first | subst eo36 | (injection eo36 with f1_ f2_ f3_; have f4_ := f1_.symm; have f5_ := f3_.symm; clear f1_ f2_ f3_; subst f4_; subst f5_))
      obtain ⟨Ao37, co37, eo37⟩ := Kd.R_slice HO114.out
      (first | subst eo37 | (injection eo37 with f1_ f2_ f3_; have f4_ := f1_.symm; have f5_ := f3_.symm; clear f1_ f2_ f3_; subst f4_; subst f5_))
      refine hK.out _ _ ⟨(blk_cell BK101.out 0).trans rfl, (blk_cell BK101.out 1).trans rfl, (blk_cell BK101.out 2).trans rfl, (blk_cell BK102.out 0).trans rfl, (blk_cell BK102.out 1).trans rfl, (blk_cell BK102.out 2).trans rfl⟩ (fun hHeld => ?_)
      clear hK K
      refine norm_ (a' := ?_) ?_ ?_
      rotate_left
      ·show Act.put _ (some 31) _ = _
       simp only [Act.put, List.setIfInBounds_toArray, List.set_cons_zero, List.set_cons_succ, i64_w, i32_w]
       rfl
      refine two_ (i := 4) (j := 8) (Ni := some 32) (Nj := some 6) (fl 11 31) (fl 11 271) rfl rfl rfl rfl (two_of HT_.out (by kernel_rfl)) (by decide) (by decide) (fun K hK => ?_) (fun K hK => ?_)
      ·skip
       refine goes_ Try.func27 (by kernel_rfl) rfl #[.agg #[.int .i64 t105, .int .i64 t106, .slice Ao36 t107.length co36], .agg #[.int .i64 t110, .int .i64 t111, .slice Ao37 t112.length co37]] (by rfl) rfl rfl am_ ?_
       with_reducible refine (spec_AddRanks.calls k t105 t106 _ _ t107 t110 t111 _ _ t112 t115 t116 t117 t120 _ ?side1 ?side2 ?side3 ?side4 A21.out).mono ?_
       (case side1 => repeat (first | exact (Kd.R_reads' HO109.out).2.2 | (with_reducible refine Kd.C_alloc ?_ _) | (with_reducible refine Kd.C_drewN ?_ _) | (with_reducible refine Kd.C_drew ?_)))
       (case side2 => exact (Kd.R_reads' HO109.out).2.1)
       (case side3 => repeat (first | exact (Kd.R_reads' HO114.out).2.2 | (with_reducible refine Kd.C_alloc ?_ _) | (with_reducible refine Kd.C_drewN ?_ _) | (with_reducible refine Kd.C_drew ?_)))
       (case side4 => exact (Kd.R_reads' HO114.out).2.1)
       rintro e w38 ⟨v118, rfl, ho0, hb⟩
       refine ⟨_, rfl, ?_⟩
       have n0_ := Aside0.mk (Kd.R_elder' (rz_ HO109.out) (Kd.R_base ho0) hb)
       have n1_ := Aside0.mk (Kd.R_elder' (rz_ HO114.out) (Kd.R_base ho0) hb)
       have n2_ := Aside0.mk (Kd.R_lower (Kd.R_new' (Kd.R_new' ho0 (Kd.R_lt (rz_ HO109.out))) (Kd.R_lt (rz_ HO114.out))) (below_size (bw_ HB.out)))
       have n3_ := Aside0.mk (blk_below (bz_ BK101.out) hb)
       have n4_ := Aside0.mk (blk_below (bz_ BK102.out) hb)
       have n5_ := Aside0.mk (below_step (bw_ HB.out) hb)
       clear HO109
       clear HO114
       clear BK101
       clear BK102
       clear HB
       have HO109 := n0_
       have HO114 := n1_
       have HO119 := n2_
       have BK101 := n3_
       have BK102 := n4_
       have HB := n5_
       clear n0_ n1_ n2_ n3_ n4_ n5_
       (try clear hb)
       (try clear hb2)
       (try clear hk)
       (try clear hi)
       (try clear ho0)
       refine hK.out _ _ ⟨(blk_cell BK101.out 0).trans rfl, (blk_cell BK101.out 1).trans rfl, (blk_cell BK101.out 2).trans rfl, (blk_cell BK102.out 0).trans rfl, (blk_cell BK102.out 1).trans rfl, (blk_cell BK102.out 2).trans rfl⟩ (fun hHeld => ?_)
       clear hK K
       refine norm_ (a' := ?_) ?_ ?_
       rotate_left
       ·show Act.put _ (some 32) _ = _
        simp only [Act.put, List.setIfInBounds_toArray, List.set_cons_zero, List.set_cons_succ, i64_w, i32_w]
        rfl
       refine pu_ (i := 5) (N := some 27) HT_.out (fl 11 63) (by kernel_rfl) ?_
       refine pu_ (i := 6) (N := some 33) HT_.out (fl 11 127) (by kernel_rfl) ?_
       refine pu_ (i := 7) (N := some 34) HT_.out (fl 11 255) (by kernel_rfl) ?_
       refine one_ (i := 8) (N := some 6) (fl 11 511) rfl rfl (one_of HT_.out (by kernel_rfl)) (by decide) (fun K hK => ?_)
       refine box_step ?hg (N := 6) ?hd (cs := #[.int .i64 0, .int .i64 0, .slice none 0 0]) (t := 33) ?hr ?_; (case hd => rfl); (case hg => rfl); (case hr => first | (go_simp; done) | (go_simp; rfl))
       intro gb121 hg w39 hbox hb
       have n0_ := Aside0.mk (Kd.R_below (rz_ HO109.out) hb)
       have n1_ := Aside0.mk (Kd.R_below (rz_ HO114.out) hb)
       have n2_ := Aside0.mk (Kd.R_below (rz_ HO119.out) hb)
       have n3_ := Aside0.mk (blk_below (bz_ BK101.out) hb)
       have n4_ := Aside0.mk (blk_below (bz_ BK102.out) hb)
       have n5_ := Aside0.mk (below_step (bw_ HB.out) hb)
       have n6_ := Aside0.mk (hbox)
       have n7_ := Aside0.mk ((sz_ (below_size (bw_ HB.out)) hg : w.heap.size ≤ gb121))
       have n8_ := Aside0.mk ((sz_ (below_size (bw_ HB.out)) hg : w.heap.size ≤ gb121))
       have n9_ := Aside0.mk ((nl_ (blk_lt (bz_ BK101.out)) hg : gb101 ≠ gb121))
       have n10_ := Aside0.mk ((ng_ (blk_lt (bz_ BK101.out)) hg : gb121 ≠ gb101))
       have n11_ := Aside0.mk ((nl_ (blk_lt (bz_ BK102.out)) hg : gb102 ≠ gb121))
       have n12_ := Aside0.mk ((ng_ (blk_lt (bz_ BK102.out)) hg : gb121 ≠ gb102))
       clear HO109
       clear HO114
       clear HO119
       clear BK101
       clear BK102
       clear HB
       have HO109 := n0_
       have HO114 := n1_
       have HO119 := n2_
       have BK101 := n3_
       have BK102 := n4_
       have HB := n5_
       have BK121 := n6_
       have GW121 := n7_
       have GE121 := n8_
       have NB101_121 := n9_
       have NB121_101 := n10_
       have NB102_121 := n11_
       have NB121_102 := n12_
       clear n0_ n1_ n2_ n3_ n4_ n5_ n6_ n7_ n8_ n9_ n10_ n11_ n12_
       clear hb hbox hg
       refine hK.out _ _ ⟨(blk_cell BK101.out 0).trans rfl, (blk_cell BK101.out 1).trans rfl, (blk_cell BK101.out 2).trans rfl, (blk_cell BK102.out 0).trans rfl, (blk_cell BK102.out 1).trans rfl, (blk_cell BK102.out 2).trans rfl⟩ (fun hHeld => ?_)
       clear hK K
       refine norm_ (a' := ?_) ?_ ?_
       rotate_left
       ·show Act.put _ (some 6) _ = _
        simp only [Act.put, List.setIfInBounds_toArray, List.set_cons_zero, List.set_cons_succ, i64_w, i32_w]
        rfl
       exact norm_ (by simp only [putAll, Act.put, List.setIfInBounds_toArray, List.set_cons_zero, List.set_cons_succ]) (hCont (.slice Ao36 t107.length co36, .slice Ao37 t112.length co37, v118, gb121) _ ⟨hHeld, (by (with_reducible repeat (first | apply Kd.R_alloc | apply Kd.R_drewN | apply Kd.R_drew)); exact Kd.R_mono HO109.out (fun _ hk => ⟨hk.1.2, hk.2⟩)), (by (with_reducible repeat (first | apply Kd.R_alloc | apply Kd.R_drewN | apply Kd.R_drew)); exact Kd.R_mono HO114.out (fun _ hk => ⟨hk.1.2, hk.2⟩)), (by (with_reducible repeat (first | apply Kd.R_alloc | apply Kd.R_drewN | apply Kd.R_drew)); exact Kd.R_mono HO119.out (fun _ hk => ⟨hk.1.2, hk.2⟩)), (bz_ BK101.out), (bz_ BK102.out), (bz_ BK121.out), GW121.out, GE121.out, NB101_121.out, NB121_101.out, NB102_121.out, NB121_102.out, (bw_ HB.out)⟩)
      ·skip
       refine box_step ?hg (N := 6) ?hd (cs := #[.int .i64 0, .int .i64 0, .slice none 0 0]) (t := 33) ?hr ?_; (case hd => rfl); (case hg => rfl); (case hr => first | (go_simp; done) | (go_simp; rfl))
       intro gb121 hg w36 hbox hb
       have n0_ := Aside0.mk (Kd.R_below (rz_ HO109.out) hb)
       have n1_ := Aside0.mk (Kd.R_below (rz_ HO114.out) hb)
       have n2_ := Aside0.mk (blk_below (bz_ BK101.out) hb)
       have n3_ := Aside0.mk (blk_below (bz_ BK102.out) hb)
       have n4_ := Aside0.mk (below_step (bw_ HB.out) hb)
       have n5_ := Aside0.mk (hbox)
       have n6_ := Aside0.mk ((sz_ (below_size (bw_ HB.out)) hg : w.heap.size ≤ gb121))
       have n7_ := Aside0.mk ((sz_ (below_size (bw_ HB.out)) hg : w.heap.size ≤ gb121))
       have n8_ := Aside0.mk ((nl_ (blk_lt (bz_ BK101.out)) hg : gb101 ≠ gb121))
       have n9_ := Aside0.mk ((ng_ (blk_lt (bz_ BK101.out)) hg : gb121 ≠ gb101))
       have n10_ := Aside0.mk ((nl_ (blk_lt (bz_ BK102.out)) hg : gb102 ≠ gb121))
       have n11_ := Aside0.mk ((ng_ (blk_lt (bz_ BK102.out)) hg : gb121 ≠ gb102))
       clear HO109
       clear HO114
       clear BK101
       clear BK102
       clear HB
       have HO109 := n0_
       have HO114 := n1_
       have BK101 := n2_
       have BK102 := n3_
       have HB := n4_
       have BK121 := n5_
       have GW121 := n6_
       have GE121 := n7_
       have NB101_121 := n8_
       have NB121_101 := n9_
       have NB102_121 := n10_
       have NB121_102 := n11_
       clear n0_ n1_ n2_ n3_ n4_ n5_ n6_ n7_ n8_ n9_ n10_ n11_
       clear hb hbox hg
       obtain ⟨Ao37, co37, eo37⟩ := Kd.R_slice HO109.out
       (first | subst eo37 | (injection eo37 with f1_ f2_ f3_; have f4_ := f1_.symm; have f5_ := f3_.symm; clear f1_ f2_ f3_; subst f4_; subst f5_))
       obtain ⟨Ao38, co38, eo38⟩ := Kd.R_slice HO114.out
       (first | subst eo38 | (injection eo38 with f1_ f2_ f3_; have f4_ := f1_.symm; have f5_ := f3_.symm; clear f1_ f2_ f3_; subst f4_; subst f5_))
       refine hK.out _ _ ⟨(blk_cell BK101.out 0).trans rfl, (blk_cell BK101.out 1).trans rfl, (blk_cell BK101.out 2).trans rfl, (blk_cell BK102.out 0).trans rfl, (blk_cell BK102.out 1).trans rfl, (blk_cell BK102.out 2).trans rfl⟩ (fun hHeld => ?_)
       clear hK K
       refine norm_ (a' := ?_) ?_ ?_
       rotate_left
       ·show Act.put _ (some 6) _ = _
        simp only [Act.put, List.setIfInBounds_toArray, List.set_cons_zero, List.set_cons_succ, i64_w, i32_w]
        rfl
       refine one_ (i := 4) (N := some 32) (fl 11 287) rfl rfl (one_of HT_.out (by kernel_rfl)) (by decide) (fun K hK => ?_)
       refine goes_ Try.func27 (by kernel_rfl) rfl #[.agg #[.int .i64 t105, .int .i64 t106, .slice Ao37 t107.length co37], .agg #[.int .i64 t110, .int .i64 t111, .slice Ao38 t112.length co38]] (by rfl) rfl rfl am_ ?_
       with_reducible refine (spec_AddRanks.calls k t105 t106 _ _ t107 t110 t111 _ _ t112 t115 t116 t117 t120 _ ?side1 ?side2 ?side3 ?side4 A21.out).mono ?_
       (case side1 => repeat (first | exact (Kd.R_reads' HO109.out).2.2 | (with_reducible refine Kd.C_alloc ?_ _) | (with_reducible refine Kd.C_drewN ?_ _) | (with_reducible refine Kd.C_drew ?_)))
       (case side2 => exact (Kd.R_reads' HO109.out).2.1)
       (case side3 => repeat (first | exact (Kd.R_reads' HO114.out).2.2 | (with_reducible refine Kd.C_alloc ?_ _) | (with_reducible refine Kd.C_drewN ?_ _) | (with_reducible refine Kd.C_drew ?_)))
       (case side4 => exact (Kd.R_reads' HO114.out).2.1)
       rintro e w39 ⟨v118, rfl, ho0, hb⟩
       refine ⟨_, rfl, ?_⟩
       have n0_ := Aside0.mk (Kd.R_elder' (rz_ HO109.out) (Kd.R_base ho0) hb)
       have n1_ := Aside0.mk (Kd.R_elder' (rz_ HO114.out) (Kd.R_base ho0) hb)
       have n2_ := Aside0.mk (Kd.R_lower (Kd.R_new' (Kd.R_new' ho0 (Kd.R_lt (rz_ HO109.out))) (Kd.R_lt (rz_ HO114.out))) (below_size (bw_ HB.out)))
       have n3_ := Aside0.mk (blk_below (bz_ BK101.out) hb)
       have n4_ := Aside0.mk (blk_below (bz_ BK102.out) hb)
       have n5_ := Aside0.mk (blk_below (bz_ BK121.out) hb)
       have n6_ := Aside0.mk (below_step (bw_ HB.out) hb)
       clear HO109
       clear HO114
       clear BK101
       clear BK102
       clear BK121
       clear HB
       have HO109 := n0_
       have HO114 := n1_
       have HO119 := n2_
       have BK101 := n3_
       have BK102 := n4_
       have BK121 := n5_
       have HB := n6_
       clear n0_ n1_ n2_ n3_ n4_ n5_ n6_
       (try clear hb)
       (try clear hb2)
       (try clear hk)
       (try clear hi)
       (try clear ho0)
       refine hK.out _ _ ⟨(blk_cell BK101.out 0).trans rfl, (blk_cell BK101.out 1).trans rfl, (blk_cell BK101.out 2).trans rfl, (blk_cell BK102.out 0).trans rfl, (blk_cell BK102.out 1).trans rfl, (blk_cell BK102.out 2).trans rfl⟩ (fun hHeld => ?_)
       clear hK K
       refine norm_ (a' := ?_) ?_ ?_
       rotate_left
       ·show Act.put _ (some 32) _ = _
        simp only [Act.put, List.setIfInBounds_toArray, List.set_cons_zero, List.set_cons_succ, i64_w, i32_w]
        rfl
       refine pu_ (i := 5) (N := some 27) HT_.out (fl 11 319) (by kernel_rfl) ?_
       refine pu_ (i := 6) (N := some 33) HT_.out (fl 11 383) (by kernel_rfl) ?_
       refine pu_ (i := 7) (N := some 34) HT_.out (fl 11 511) (by kernel_rfl) ?_
       exact norm_ (by simp only [putAll, Act.put, List.setIfInBounds_toArray, List.set_cons_zero, List.set_cons_succ]) (hCont (.slice Ao37 t107.length co37, .slice Ao38 t112.length co38, v118, gb121) _ ⟨hHeld, (by (with_reducible repeat (first | apply Kd.R_alloc | apply Kd.R_drewN | apply Kd.R_drew)); exact Kd.R_mono HO109.out (fun _ hk => ⟨hk.1.2, hk.2⟩)), (by (with_reducible repeat (first | apply Kd.R_alloc | apply Kd.R_drewN | apply Kd.R_drew)); exact Kd.R_mono HO114.out (fun _ hk => ⟨hk.1.2, hk.2⟩)), (by (with_reducible repeat (first | apply Kd.R_alloc | apply Kd.R_drewN | apply Kd.R_drew)); exact Kd.R_mono HO119.out (fun _ hk => ⟨hk.1.2, hk.2⟩)), (bz_ BK101.out), (bz_ BK102.out), (bz_ BK121.out), GW121.out, GE121.out, NB101_121.out, NB121_101.out, NB102_121.out, NB121_102.out, (bw_ HB.out)⟩)
     ·skip
      refine box_step ?hg (N := 6) ?hd (cs := #[.int .i64 0, .int .i64 0, .slice none 0 0]) (t := 33) ?hr ?_; (case hd => rfl); (case hg => rfl); (case hr => first | (go_simp; done) | (go_simp; rfl))
      intro gb121 hg w35 hbox hb
      have n0_ := Aside0.mk (Kd.R_below (rz_ HO109.out) hb)
      have n1_ := Aside0.mk (blk_below (bz_ BK101.out) hb)
      have n2_ := Aside0.mk (blk_below (bz_ BK102.out) hb)
      have n3_ := Aside0.mk (below_step (bw_ HB.out) hb)
      have n4_ := Aside0.mk (hbox)
      have n5_ := Aside0.mk ((sz_ (below_size (bw_ HB.out)) hg : w.heap.size ≤ gb121))
      have n6_ := Aside0.mk ((sz_ (below_size (bw_ HB.out)) hg : w.heap.size ≤ gb121))
      have n7_ := Aside0.mk ((nl_ (blk_lt (bz_ BK101.out)) hg : gb101 ≠ gb121))
      have n8_ := Aside0.mk ((ng_ (blk_lt (bz_ BK101.out)) hg : gb121 ≠ gb101))
      have n9_ := Aside0.mk ((nl_ (blk_lt (bz_ BK102.out)) hg : gb102 ≠ gb121))
      have n10_ := Aside0.mk ((ng_ (blk_lt (bz_ BK102.out)) hg : gb121 ≠ gb102))
      clear HO109
      clear BK101
      clear BK102
      clear HB
      have HO109 := n0_
      have BK101 := n1_
      have BK102 := n2_
      have HB := n3_
      have BK121 := n4_
      have GW121 := n5_
      have GE121 := n6_
      have NB101_121 := n7_
      have NB121_101 := n8_
      have NB102_121 := n9_
      have NB121_102 := n10_
      clear n0_ n1_ n2_ n3_ n4_ n5_ n6_ n7_ n8_ n9_ n10_
      clear hb hbox hg
      refine hK.out _ _ ⟨(blk_cell BK101.out 0).trans rfl, (blk_cell BK101.out 1).trans rfl, (blk_cell BK101.out 2).trans rfl, (blk_cell BK102.out 0).trans rfl, (blk_cell BK102.out 1).trans rfl, (blk_cell BK102.out 2).trans rfl⟩ (fun hHeld => ?_)
      clear hK K
      refine norm_ (a' := ?_) ?_ ?_
      rotate_left
      ·show Act.put _ (some 6) _ = _
       simp only [Act.put, List.setIfInBounds_toArray, List.set_cons_zero, List.set_cons_succ, i64_w, i32_w]
       rfl
      refine one_ (i := 3) (N := some 31) (fl 11 271) rfl rfl (one_of HT_.out (by kernel_rfl)) (by decide) (fun K hK => ?_)
      refine goes_ Try.func14 (by kernel_rfl) rfl #[.agg #[.int .i64 a1_0, .int .i64 a1_1, .slice A1_2 l1_2.length c1_2]] (by rfl) rfl rfl am_ ?_
      with_reducible refine (laws_toRanks.calls k a1_0 a1_1 _ _ l1_2 t110 t111 t112 _ ?side1 ?side2 A20.out).mono ?_
      (case side1 => repeat (first | exact (Kd.C_below HR1_2.out HB.out) | (with_reducible refine Kd.C_alloc ?_ _) | (with_reducible refine Kd.C_drewN ?_ _) | (with_reducible refine Kd.C_drew ?_)))
      (case side2 => exact HC1_2.out)
      rintro e w36 ⟨v113, rfl, ho0, hb⟩
      refine ⟨_, rfl, ?_⟩
      have n0_ := Aside0.mk (Kd.R_elder' (rz_ HO109.out) (Kd.R_base ho0) hb)
      have n1_ := Aside0.mk (Kd.R_lower (Kd.R_new' ho0 (Kd.R_lt (rz_ HO109.out))) (below_size (bw_ HB.out)))
      have n2_ := Aside0.mk (blk_below (bz_ BK101.out) hb)
      have n3_ := Aside0.mk (blk_below (bz_ BK102.out) hb)
      have n4_ := Aside0.mk (blk_below (bz_ BK121.out) hb)
      have n5_ := Aside0.mk (below_step (bw_ HB.out) hb)
      clear HO109
      clear BK101
      clear BK102
      clear BK121
      clear HB
      have HO109 := n0_
      have HO114 := n1_
      have BK101 := n2_
      have BK102 := n3_
      have BK121 := n4_
      have HB := n5_
      clear n0_ n1_ n2_ n3_ n4_ n5_
      (try clear hb)
      (try clear hb2)
      (try clear hk)
      (try clear hi)
      (try clear ho0)
      obtain ⟨Ao37, co37, eo37⟩ := Kd.R_slice HO109.out
      (first | subst eo37 | (injection eo37 with f1_ f2_ f3_; have f4_ := f1_.symm; have f5_ := f3_.symm; clear f1_ f2_ f3_; subst f4_; subst f5_))
      obtain ⟨Ao38, co38, eo38⟩ := Kd.R_slice HO114.out
      (first | subst eo38 | (injection eo38 with f1_ f2_ f3_; have f4_ := f1_.symm; have f5_ := f3_.symm; clear f1_ f2_ f3_; subst f4_; subst f5_))
      refine hK.out _ _ ⟨(blk_cell BK101.out 0).trans rfl, (blk_cell BK101.out 1).trans rfl, (blk_cell BK101.out 2).trans rfl, (blk_cell BK102.out 0).trans rfl, (blk_cell BK102.out 1).trans rfl, (blk_cell BK102.out 2).trans rfl⟩ (fun hHeld => ?_)
      clear hK K
      refine norm_ (a' := ?_) ?_ ?_
      rotate_left
      ·show Act.put _ (some 31) _ = _
       simp only [Act.put, List.setIfInBounds_toArray, List.set_cons_zero, List.set_cons_succ, i64_w, i32_w]
       rfl
      refine one_ (i := 4) (N := some 32) (fl 11 287) rfl rfl (one_of HT_.out (by kernel_rfl)) (by decide) (fun K hK => ?_)
      refine goes_ Try.func27 (by kernel_rfl) rfl #[.agg #[.int .i64 t105, .int .i64 t106, .slice Ao37 t107.length co37], .agg #[.int .i64 t110, .int .i64 t111, .slice Ao38 t112.length co38]] (by rfl) rfl rfl am_ ?_
      with_reducible refine (spec_AddRanks.calls k t105 t106 _ _ t107 t110 t111 _ _ t112 t115 t116 t117 t120 _ ?side1 ?side2 ?side3 ?side4 A21.out).mono ?_
      (case side1 => repeat (first | exact (Kd.R_reads' HO109.out).2.2 | (with_reducible refine Kd.C_alloc ?_ _) | (with_reducible refine Kd.C_drewN ?_ _) | (with_reducible refine Kd.C_drew ?_)))
      (case side2 => exact (Kd.R_reads' HO109.out).2.1)
      (case side3 => repeat (first | exact (Kd.R_reads' HO114.out).2.2 | (with_reducible refine Kd.C_alloc ?_ _) | (with_reducible refine Kd.C_drewN ?_ _) | (with_reducible refine Kd.C_drew ?_)))
      (case side4 => exact (Kd.R_reads' HO114.out).2.1)
      rintro e w39 ⟨v118, rfl, ho0, hb⟩
      refine ⟨_, rfl, ?_⟩
      have n0_ := Aside0.mk (Kd.R_elder' (rz_ HO109.out) (Kd.R_base ho0) hb)
      have n1_ := Aside0.mk (Kd.R_elder' (rz_ HO114.out) (Kd.R_base ho0) hb)
      have n2_ := Aside0.mk (Kd.R_lower (Kd.R_new' (Kd.R_new' ho0 (Kd.R_lt (rz_ HO109.out))) (Kd.R_lt (rz_ HO114.out))) (below_size (bw_ HB.out)))
      have n3_ := Aside0.mk (blk_below (bz_ BK101.out) hb)
      have n4_ := Aside0.mk (blk_below (bz_ BK102.out) hb)
      have n5_ := Aside0.mk (blk_below (bz_ BK121.out) hb)
      have n6_ := Aside0.mk (below_step (bw_ HB.out) hb)
      clear HO109
      clear HO114
      clear BK101
      clear BK102
      clear BK121
      clear HB
      have HO109 := n0_
      have HO114 := n1_
      have HO119 := n2_
      have BK101 := n3_
      have BK102 := n4_
      have BK121 := n5_
      have HB := n6_
      clear n0_ n1_ n2_ n3_ n4_ n5_ n6_
      (try clear hb)
      (try clear hb2)
      (try clear hk)
      (try clear hi)
      (try clear ho0)
      refine hK.out _ _ ⟨(blk_cell BK101.out 0).trans rfl, (blk_cell BK101.out 1).trans rfl, (blk_cell BK101.out 2).trans rfl, (blk_cell BK102.out 0).trans rfl, (blk_cell BK102.out 1).trans rfl, (blk_cell BK102.out 2).trans rfl⟩ (fun hHeld => ?_)
      clear hK K
      refine norm_ (a' := ?_) ?_ ?_
      rotate_left
      ·show Act.put _ (some 32) _ = _
       simp only [Act.put, List.setIfInBounds_toArray, List.set_cons_zero, List.set_cons_succ, i64_w, i32_w]
       rfl
      refine pu_ (i := 5) (N := some 27) HT_.out (fl 11 319) (by kernel_rfl) ?_
      refine pu_ (i := 6) (N := some 33) HT_.out (fl 11 383) (by kernel_rfl) ?_
      refine pu_ (i := 7) (N := some 34) HT_.out (fl 11 511) (by kernel_rfl) ?_
      exact norm_ (by simp only [putAll, Act.put, List.setIfInBounds_toArray, List.set_cons_zero, List.set_cons_succ]) (hCont (.slice Ao37 t107.length co37, .slice Ao38 t112.length co38, v118, gb121) _ ⟨hHeld, (by (with_reducible repeat (first | apply Kd.R_alloc | apply Kd.R_drewN | apply Kd.R_drew)); exact Kd.R_mono HO109.out (fun _ hk => ⟨hk.1.2, hk.2⟩)), (by (with_reducible repeat (first | apply Kd.R_alloc | apply Kd.R_drewN | apply Kd.R_drew)); exact Kd.R_mono HO114.out (fun _ hk => ⟨hk.1.2, hk.2⟩)), (by (with_reducible repeat (first | apply Kd.R_alloc | apply Kd.R_drewN | apply Kd.R_drew)); exact Kd.R_mono HO119.out (fun _ hk => ⟨hk.1.2, hk.2⟩)), (bz_ BK101.out), (bz_ BK102.out), (bz_ BK121.out), GW121.out, GE121.out, NB101_121.out, NB121_101.out, NB102_121.out, NB121_102.out, (bw_ HB.out)⟩)
    ·skip
     refine box_step ?hg (N := 6) ?hd (cs := #[.int .i64 0, .int .i64 0, .slice none 0 0]) (t := 33) ?hr ?_; (case hd => rfl); (case hg => rfl); (case hr => first | (go_simp; done) | (go_simp; rfl))
     intro gb121 hg w34 hbox hb
     have n0_ := Aside0.mk (blk_below (bz_ BK101.out) hb)
     have n1_ := Aside0.mk (blk_below (bz_ BK102.out) hb)
     have n2_ := Aside0.mk (below_step (bw_ HB.out) hb)
     have n3_ := Aside0.mk (hbox)
     have n4_ := Aside0.mk ((sz_ (below_size (bw_ HB.out)) hg : w.heap.size ≤ gb121))
     have n5_ := Aside0.mk ((sz_ (below_size (bw_ HB.out)) hg : w.heap.size ≤ gb121))
     have n6_ := Aside0.mk ((nl_ (blk_lt (bz_ BK101.out)) hg : gb101 ≠ gb121))
     have n7_ := Aside0.mk ((ng_ (blk_lt (bz_ BK101.out)) hg : gb121 ≠ gb101))
     have n8_ := Aside0.mk ((nl_ (blk_lt (bz_ BK102.out)) hg : gb102 ≠ gb121))
     have n9_ := Aside0.mk ((ng_ (blk_lt (bz_ BK102.out)) hg : gb121 ≠ gb102))
     clear BK101
     clear BK102
     clear HB
     have BK101 := n0_
     have BK102 := n1_
     have HB := n2_
     have BK121 := n3_
     have GW121 := n4_
     have GE121 := n5_
     have NB101_121 := n6_
     have NB121_101 := n7_
     have NB102_121 := n8_
     have NB121_102 := n9_
     clear n0_ n1_ n2_ n3_ n4_ n5_ n6_ n7_ n8_ n9_
     clear hb hbox hg
     refine hK.out _ _ ⟨(blk_cell BK101.out 0).trans rfl, (blk_cell BK101.out 1).trans rfl, (blk_cell BK101.out 2).trans rfl, (blk_cell BK102.out 0).trans rfl, (blk_cell BK102.out 1).trans rfl, (blk_cell BK102.out 2).trans rfl⟩ (fun hHeld => ?_)
     clear hK K
     refine norm_ (a' := ?_) ?_ ?_
     rotate_left
     ·show Act.put _ (some 6) _ = _
      simp only [Act.put, List.setIfInBounds_toArray, List.set_cons_zero, List.set_cons_succ, i64_w, i32_w]
      rfl
     refine one_ (i := 1) (N := some 29) (fl 11 263) rfl rfl (one_of HT_.out (by kernel_rfl)) (by decide) (fun K hK => ?_)
     refine goes_ Try.func14 (by kernel_rfl) rfl #[.agg #[.int .i64 a0_0, .int .i64 a0_1, .slice A0_2 l0_2.length c0_2]] (by rfl) rfl rfl am_ ?_
     with_reducible refine (laws_toRanks.calls k a0_0 a0_1 _ _ l0_2 t105 t106 t107 _ ?side1 ?side2 A19.out).mono ?_
     (case side1 => repeat (first | exact (Kd.C_below HR0_2.out HB.out) | (with_reducible refine Kd.C_alloc ?_ _) | (with_reducible refine Kd.C_drewN ?_ _) | (with_reducible refine Kd.C_drew ?_)))
     (case side2 => exact HC0_2.out)
     rintro e w35 ⟨v108, rfl, ho0, hb⟩
     refine ⟨_, rfl, ?_⟩
     have n0_ := Aside0.mk (Kd.R_lower ho0 (below_size (bw_ HB.out)))
     have n1_ := Aside0.mk (blk_below (bz_ BK101.out) hb)
     have n2_ := Aside0.mk (blk_below (bz_ BK102.out) hb)
     have n3_ := Aside0.mk (blk_below (bz_ BK121.out) hb)
     have n4_ := Aside0.mk (below_step (bw_ HB.out) hb)
     clear BK101
     clear BK102
     clear BK121
     clear HB
     have HO109 := n0_
     have BK101 := n1_
     have BK102 := n2_
     have BK121 := n3_
     have HB := n4_
     clear n0_ n1_ n2_ n3_ n4_
     (try clear hb)
     (try clear hb2)
     (try clear hk)
     (try clear hi)
     (try clear ho0)
     refine hK.out _ _ ⟨(blk_cell BK101.out 0).trans rfl, (blk_cell BK101.out 1).trans rfl, (blk_cell BK101.out 2).trans rfl, (blk_cell BK102.out 0).trans rfl, (blk_cell BK102.out 1).trans rfl, (blk_cell BK102.out 2).trans rfl⟩ (fun hHeld => ?_)
     clear hK K
     refine norm_ (a' := ?_) ?_ ?_
     rotate_left
     ·show Act.put _ (some 29) _ = _
      simp only [Act.put, List.setIfInBounds_toArray, List.set_cons_zero, List.set_cons_succ, i64_w, i32_w]
      rfl
     refine one_ (i := 3) (N := some 31) (fl 11 271) rfl rfl (one_of HT_.out (by kernel_rfl)) (by decide) (fun K hK => ?_)
     refine goes_ Try.func14 (by kernel_rfl) rfl #[.agg #[.int .i64 a1_0, .int .i64 a1_1, .slice A1_2 l1_2.length c1_2]] (by rfl) rfl rfl am_ ?_
     with_reducible refine (laws_toRanks.calls k a1_0 a1_1 _ _ l1_2 t110 t111 t112 _ ?side1 ?side2 A20.out).mono ?_
     (case side1 => repeat (first | exact (Kd.C_below HR1_2.out HB.out) | (with_reducible refine Kd.C_alloc ?_ _) | (with_reducible refine Kd.C_drewN ?_ _) | (with_reducible refine Kd.C_drew ?_)))
     (case side2 => exact HC1_2.out)
     rintro e w36 ⟨v113, rfl, ho0, hb⟩
     refine ⟨_, rfl, ?_⟩
     have n0_ := Aside0.mk (Kd.R_elder' (rz_ HO109.out) (Kd.R_base ho0) hb)
     have n1_ := Aside0.mk (Kd.R_lower (Kd.R_new' ho0 (Kd.R_lt (rz_ HO109.out))) (below_size (bw_ HB.out)))
     have n2_ := Aside0.mk (blk_below (bz_ BK101.out) hb)
     have n3_ := Aside0.mk (blk_below (bz_ BK102.out) hb)
     have n4_ := Aside0.mk (blk_below (bz_ BK121.out) hb)
     have n5_ := Aside0.mk (below_step (bw_ HB.out) hb)
     clear HO109
     clear BK101
     clear BK102
     clear BK121
     clear HB
     have HO109 := n0_
     have HO114 := n1_
     have BK101 := n2_
     have BK102 := n3_
     have BK121 := n4_
     have HB := n5_
     clear n0_ n1_ n2_ n3_ n4_ n5_
     (try clear hb)
     (try clear hb2)
     (try clear hk)
     (try clear hi)
     (try clear ho0)
     obtain ⟨Ao37, co37, eo37⟩ := Kd.R_slice HO109.out
     (first | subst eo37 | (injection eo37 with f1_ f2_ f3_; have f4_ := f1_.symm; have f5_ := f3_.symm; clear f1_ f2_ f3_; subst f4_; subst f5_))
     obtain ⟨Ao38, co38, eo38⟩ := Kd.R_slice HO114.out
     (first | subst eo38 | (injection eo38 with f1_ f2_ f3_; have f4_ := f1_.symm; have f5_ := f3_.symm; clear f1_ f2_ f3_; subst f4_; subst f5_))
     refine hK.out _ _ ⟨(blk_cell BK101.out 0).trans rfl, (blk_cell BK101.out 1).trans rfl, (blk_cell BK101.out 2).trans rfl, (blk_cell BK102.out 0).trans rfl, (blk_cell BK102.out 1).trans rfl, (blk_cell BK102.out 2).trans rfl⟩ (fun hHeld => ?_)
     clear hK K
     refine norm_ (a' := ?_) ?_ ?_
     rotate_left
     ·show Act.put _ (some 31) _ = _
      simp only [Act.put, List.setIfInBounds_toArray, List.set_cons_zero, List.set_cons_succ, i64_w, i32_w]
      rfl
     refine one_ (i := 4) (N := some 32) (fl 11 287) rfl rfl (one_of HT_.out (by kernel_rfl)) (by decide) (fun K hK => ?_)
     refine goes_ Try.func27 (by kernel_rfl) rfl #[.agg #[.int .i64 t105, .int .i64 t106, .slice Ao37 t107.length co37], .agg #[.int .i64 t110, .int .i64 t111, .slice Ao38 t112.length co38]] (by rfl) rfl rfl am_ ?_
     with_reducible refine (spec_AddRanks.calls k t105 t106 _ _ t107 t110 t111 _ _ t112 t115 t116 t117 t120 _ ?side1 ?side2 ?side3 ?side4 A21.out).mono ?_
     (case side1 => repeat (first | exact (Kd.R_reads' HO109.out).2.2 | (with_reducible refine Kd.C_alloc ?_ _) | (with_reducible refine Kd.C_drewN ?_ _) | (with_reducible refine Kd.C_drew ?_)))
     (case side2 => exact (Kd.R_reads' HO109.out).2.1)
     (case side3 => repeat (first | exact (Kd.R_reads' HO114.out).2.2 | (with_reducible refine Kd.C_alloc ?_ _) | (with_reducible refine Kd.C_drewN ?_ _) | (with_reducible refine Kd.C_drew ?_)))
     (case side4 => exact (Kd.R_reads' HO114.out).2.1)
     rintro e w39 ⟨v118, rfl, ho0, hb⟩
     refine ⟨_, rfl, ?_⟩
     have n0_ := Aside0.mk (Kd.R_elder' (rz_ HO109.out) (Kd.R_base ho0) hb)
     have n1_ := Aside0.mk (Kd.R_elder' (rz_ HO114.out) (Kd.R_base ho0) hb)
     have n2_ := Aside0.mk (Kd.R_lower (Kd.R_new' (Kd.R_new' ho0 (Kd.R_lt (rz_ HO109.out))) (Kd.R_lt (rz_ HO114.out))) (below_size (bw_ HB.out)))
     have n3_ := Aside0.mk (blk_below (bz_ BK101.out) hb)
     have n4_ := Aside0.mk (blk_below (bz_ BK102.out) hb)
     have n5_ := Aside0.mk (blk_below (bz_ BK121.out) hb)
     have n6_ := Aside0.mk (below_step (bw_ HB.out) hb)
     clear HO109
     clear HO114
     clear BK101
     clear BK102
     clear BK121
     clear HB
     have HO109 := n0_
     have HO114 := n1_
     have HO119 := n2_
     have BK101 := n3_
     have BK102 := n4_
     have BK121 := n5_
     have HB := n6_
     clear n0_ n1_ n2_ n3_ n4_ n5_ n6_
     (try clear hb)
     (try clear hb2)
     (try clear hk)
     (try clear hi)
     (try clear ho0)
     refine hK.out _ _ ⟨(blk_cell BK101.out 0).trans rfl, (blk_cell BK101.out 1).trans rfl, (blk_cell BK101.out 2).trans rfl, (blk_cell BK102.out 0).trans rfl, (blk_cell BK102.out 1).trans rfl, (blk_cell BK102.out 2).trans rfl⟩ (fun hHeld => ?_)
     clear hK K
     refine norm_ (a' := ?_) ?_ ?_
     rotate_left
     ·show Act.put _ (some 32) _ = _
      simp only [Act.put, List.setIfInBounds_toArray, List.set_cons_zero, List.set_cons_succ, i64_w, i32_w]
      rfl
     refine pu_ (i := 5) (N := some 27) HT_.out (fl 11 319) (by kernel_rfl) ?_
     refine pu_ (i := 6) (N := some 33) HT_.out (fl 11 383) (by kernel_rfl) ?_
     refine pu_ (i := 7) (N := some 34) HT_.out (fl 11 511) (by kernel_rfl) ?_
     exact norm_ (by simp only [putAll, Act.put, List.setIfInBounds_toArray, List.set_cons_zero, List.set_cons_succ]) (hCont (.slice Ao37 t107.length co37, .slice Ao38 t112.length co38, v118, gb121) _ ⟨hHeld, (by (with_reducible repeat (first | apply Kd.R_alloc | apply Kd.R_drewN | apply Kd.R_drew)); exact Kd.R_mono HO109.out (fun _ hk => ⟨hk.1.2, hk.2⟩)), (by (with_reducible repeat (first | apply Kd.R_alloc | apply Kd.R_drewN | apply Kd.R_drew)); exact Kd.R_mono HO114.out (fun _ hk => ⟨hk.1.2, hk.2⟩)), (by (with_reducible repeat (first | apply Kd.R_alloc | apply Kd.R_drewN | apply Kd.R_drew)); exact Kd.R_mono HO119.out (fun _ hk => ⟨hk.1.2, hk.2⟩)), (bz_ BK101.out), (bz_ BK102.out), (bz_ BK121.out), GW121.out, GE121.out, NB101_121.out, NB121_101.out, NB102_121.out, NB121_102.out, (bw_ HB.out)⟩)
   rintro ⟨v108, v113, v118, gb121⟩ w40 ⟨hS_, h0_, h1_, h2_, h3_, h4_, h5_, h6_, h7_, h8_, h9_, h10_, h11_, h12_⟩
   have n0_ : Aside0 (Kd.R (Kd.int .i64) 2 w40 w.heap.size (fun k_ => some k_ ≠ (v113 : Value).ownBlock ∧ some k_ ≠ (v118 : Value).ownBlock) v108 t107) := ⟨h0_⟩
   have n1_ : Aside0 (Kd.R (Kd.int .i64) 2 w40 w.heap.size (fun k_ => some k_ ≠ (v108 : Value).ownBlock ∧ some k_ ≠ (v118 : Value).ownBlock) v113 t112) := ⟨h1_⟩
   have n2_ : Aside0 (Kd.R (Kd.int .i64) 2 w40 w.heap.size (fun k_ => some k_ ≠ (v108 : Value).ownBlock ∧ some k_ ≠ (v113 : Value).ownBlock) v118 t117) := ⟨h2_⟩
   have n3_ : Aside0 (w40.heap[gb101]? = some (.cells #[.int .i64 a0_0, .int .i64 a0_1, .slice A0_2 l0_2.length c0_2] 30 (0, 0))) := ⟨h3_⟩
   have n4_ : Aside0 (w40.heap[gb102]? = some (.cells #[.int .i64 a1_0, .int .i64 a1_1, .slice A1_2 l1_2.length c1_2] 30 (0, 0))) := ⟨h4_⟩
   have n5_ : Aside0 (w40.heap[gb121]? = some (.cells #[.int .i64 0, .int .i64 0, .slice none 0 0] 33 (0, 0))) := ⟨h5_⟩
   have n6_ : Aside0 (w.heap.size ≤ gb121) := ⟨h6_⟩
   have n7_ : Aside0 (w.heap.size ≤ gb121) := ⟨h7_⟩
   have n8_ : Aside0 (gb101 ≠ gb121) := ⟨h8_⟩
   have n9_ : Aside0 (gb121 ≠ gb101) := ⟨h9_⟩
   have n10_ : Aside0 (gb102 ≠ gb121) := ⟨h10_⟩
   have n11_ : Aside0 (gb121 ≠ gb102) := ⟨h11_⟩
   have n12_ : Aside0 (Below w.heap.size w w40) := ⟨h12_⟩
   clear BK101
   clear BK102
   clear HB
   clear h0_ h1_ h2_ h3_ h4_ h5_ h6_ h7_ h8_ h9_ h10_ h11_ h12_
   have HO109 := n0_
   have HO114 := n1_
   have HO119 := n2_
   have BK101 := n3_
   have BK102 := n4_
   have BK121 := n5_
   have GW121 := n6_
   have GE121 := n7_
   have NB101_121 := n8_
   have NB121_101 := n9_
   have NB102_121 := n10_
   have NB121_102 := n11_
   have HB := n12_
   clear n0_ n1_ n2_ n3_ n4_ n5_ n6_ n7_ n8_ n9_ n10_ n11_ n12_
   have hHeld : w40.cell? ⟨gb101, 0, none⟩ = some (.int .i64 a0_0) ∧ w40.cell? ⟨gb101, 1, none⟩ = some (.int .i64 a0_1) ∧ w40.cell? ⟨gb101, 2, none⟩ = some (.slice A0_2 l0_2.length c0_2) ∧ w40.cell? ⟨gb102, 0, none⟩ = some (.int .i64 a1_0) ∧ w40.cell? ⟨gb102, 1, none⟩ = some (.int .i64 a1_1) ∧ w40.cell? ⟨gb102, 2, none⟩ = some (.slice A1_2 l1_2.length c1_2) := hS_
   obtain ⟨Ao43, co43, eo43⟩ := Kd.R_slice HO119.out
   (first | subst eo43 | (injection eo43 with f1_ f2_ f3_; have f4_ := f1_.symm; have f5_ := f3_.symm; clear f1_ f2_ f3_; subst f4_; subst f5_))
   refine norm_ (a' := ?_) ?_ ?_
   rotate_left
   ·simp only [putAll, Act.put, List.setIfInBounds_toArray, List.set_cons_zero, List.set_cons_succ]
    rfl
   refine one_ (i := 9) (N := none) (fl 11 1023) rfl rfl (one_of HT_.out (by kernel_rfl)) (by decide) (fun K hK => ?_)
   have hs41 : w40.cell? ⟨gb121, 0, none⟩ = some (.int .i64 0) := (blk_cell BK121.out 0).trans rfl
   have hfs41 := blk_frozen BK121.out 0
   have hns41_0 := NB101_121.out
   have hns41_1 := NB102_121.out
   have hms41_0 := NB121_101.out
   have hms41_1 := NB121_102.out
   have hs42 : w40.cell? ⟨gb121, 1, none⟩ = some (.int .i64 0) := (blk_cell BK121.out 1).trans rfl
   have hfs42 := blk_frozen BK121.out 1
   have hns42_0 := NB101_121.out
   have hns42_1 := NB102_121.out
   have hms42_0 := NB121_101.out
   have hms42_1 := NB121_102.out
   have hs44 : w40.cell? ⟨gb121, 2, none⟩ = some (.slice none 0 0) := (blk_cell BK121.out 2).trans rfl
   have hfs44 := blk_frozen BK121.out 2
   have hns44_0 := NB101_121.out
   have hns44_1 := NB102_121.out
   have hms44_0 := NB121_101.out
   have hms44_1 := NB121_102.out
   refine skip_ (w1 := ?_) (by rfl) rfl ?_ ?_
   rotate_left
   ·go_simp
    rfl
   refine hK.out _ _ ⟨((cell_far (p := ⟨gb121, _, none⟩) NB101_121.out _).trans (((cell_far (p := ⟨gb121, _, none⟩) NB101_121.out _).trans (((cell_far (p := ⟨gb121, _, none⟩) NB101_121.out _).trans (hHeld.1)))))), ((cell_far (p := ⟨gb121, _, none⟩) NB101_121.out _).trans (((cell_far (p := ⟨gb121, _, none⟩) NB101_121.out _).trans (((cell_far (p := ⟨gb121, _, none⟩) NB101_121.out _).trans (hHeld.2.1)))))), ((cell_far (p := ⟨gb121, _, none⟩) NB101_121.out _).trans (((cell_far (p := ⟨gb121, _, none⟩) NB101_121.out _).trans (((cell_far (p := ⟨gb121, _, none⟩) NB101_121.out _).trans (hHeld.2.2.1)))))), ((cell_far (p := ⟨gb121, _, none⟩) NB102_121.out _).trans (((cell_far (p := ⟨gb121, _, none⟩) NB102_121.out _).trans (((cell_far (p := ⟨gb121, _, none⟩) NB102_121.out _).trans (hHeld.2.2.2.1)))))), ((cell_far (p := ⟨gb121, _, none⟩) NB102_121.out _).trans (((cell_far (p := ⟨gb121, _, none⟩) NB102_121.out _).trans (((cell_far (p := ⟨gb121, _, none⟩) NB102_121.out _).trans (hHeld.2.2.2.2.1)))))), ((cell_far (p := ⟨gb121, _, none⟩) NB102_121.out _).trans (((cell_far (p := ⟨gb121, _, none⟩) NB102_121.out _).trans (((cell_far (p := ⟨gb121, _, none⟩) NB102_121.out _).trans (hHeld.2.2.2.2.2))))))⟩ (fun hHeld => ?_)
   clear hK K
   refine pu_ (i := 10) (N := some 7) HT_.out (fl 11 2047) (by kernel_rfl) ?_
   refine done_ (done_of HT_.out (by kernel_rfl)) ?_
   have hnb45 := NB101_121.out
   have hnc45 := NB121_101.out
   have hcz46_0 : w40.cell? ⟨gb101, 0, none⟩ = some (.int .i64 a0_0) := (blk_cell BK101.out 0).trans rfl
   have hcz46_1 : w40.cell? ⟨gb101, 1, none⟩ = some (.int .i64 a0_1) := (blk_cell BK101.out 1).trans rfl
   have hcz46_2 : w40.cell? ⟨gb101, 2, none⟩ = some (.slice A0_2 l0_2.length c0_2) := (blk_cell BK101.out 2).trans rfl
   have hfz46_0 := blk_frozen BK101.out 0
   have hfz46_1 := blk_frozen BK101.out 1
   have hfz46_2 := blk_frozen BK101.out 2
   go_upto_region 12 with (first | ((with_reducible refine gate_callee (f := 14) rfl ?_); refine goesL_ (some 36) rfl rfl Try.func14 (by kernel_rfl) rfl #[.agg #[.int .i64 a0_0, .int .i64 a0_1, .slice A0_2 l0_2.length c0_2]] rfl am_ ?_; (with_reducible refine (laws_toRanks.calls k a0_0 a0_1 _ _ l0_2 t122 t123 t124 _ ?side1 ?side2 A22.out).mono ?_); (case side1 => exact Kd.C_below HR0_2.out (bw_ HB.out)); (case side2 => exact HC0_2.out); rintro e w47 ⟨v125, rfl, ho0, hb⟩; refine ⟨_, rfl, ?_⟩; have n0_ := Aside0.mk (Kd.R_elder' (by (with_reducible repeat (first | apply Kd.R_alloc | apply Kd.R_drewN | apply Kd.R_drew)); exact (Kd.R_mono (Kd.R_far (p := ⟨gb121, 2, none⟩) (Kd.R_far (p := ⟨gb121, 1, none⟩) (Kd.R_far (p := ⟨gb121, 0, none⟩) (Kd.R_types HO109.out BK121.out (by decide)) (fun _ hk => hk.2) (.int .i64 t115)) (fun _ hk => hk.2) (.int .i64 t116)) (fun _ hk => hk.2) (.slice Ao43 t117.length co43)) (fun _ h_ => h_.1))) (Kd.R_base ho0) hb); have n1_ := Aside0.mk (Kd.R_elder' (by (with_reducible repeat (first | apply Kd.R_alloc | apply Kd.R_drewN | apply Kd.R_drew)); exact (Kd.R_mono (Kd.R_far (p := ⟨gb121, 2, none⟩) (Kd.R_far (p := ⟨gb121, 1, none⟩) (Kd.R_far (p := ⟨gb121, 0, none⟩) (Kd.R_types HO114.out BK121.out (by decide)) (fun _ hk => hk.2) (.int .i64 t115)) (fun _ hk => hk.2) (.int .i64 t116)) (fun _ hk => hk.2) (.slice Ao43 t117.length co43)) (fun _ h_ => h_.1))) (Kd.R_base ho0) hb); have n2_ := Aside0.mk (Kd.R_elder' (by (with_reducible repeat (first | apply Kd.R_alloc | apply Kd.R_drewN | apply Kd.R_drew)); exact (Kd.R_mono (Kd.R_far (p := ⟨gb121, 2, none⟩) (Kd.R_far (p := ⟨gb121, 1, none⟩) (Kd.R_far (p := ⟨gb121, 0, none⟩) (Kd.R_types HO119.out BK121.out (by decide)) (fun _ hk => hk.2) (.int .i64 t115)) (fun _ hk => hk.2) (.int .i64 t116)) (fun _ hk => hk.2) (.slice Ao43 t117.length co43)) (fun _ h_ => h_.1))) (Kd.R_base ho0) hb); have n3_ := Aside0.mk (Kd.R_lower (Kd.R_new' (Kd.R_new' (Kd.R_new' ho0 (Kd.R_lt (by (with_reducible repeat (first | apply Kd.R_alloc | apply Kd.R_drewN | apply Kd.R_drew)); exact (Kd.R_mono (Kd.R_far (p := ⟨gb121, 2, none⟩) (Kd.R_far (p := ⟨gb121, 1, none⟩) (Kd.R_far (p := ⟨gb121, 0, none⟩) (Kd.R_types HO109.out BK121.out (by decide)) (fun _ hk => hk.2) (.int .i64 t115)) (fun _ hk => hk.2) (.int .i64 t116)) (fun _ hk => hk.2) (.slice Ao43 t117.length co43)) (fun _ h_ => h_.1))))) (Kd.R_lt (by (with_reducible repeat (first | apply Kd.R_alloc | apply Kd.R_drewN | apply Kd.R_drew)); exact (Kd.R_mono (Kd.R_far (p := ⟨gb121, 2, none⟩) (Kd.R_far (p := ⟨gb121, 1, none⟩) (Kd.R_far (p := ⟨gb121, 0, none⟩) (Kd.R_types HO114.out BK121.out (by decide)) (fun _ hk => hk.2) (.int .i64 t115)) (fun _ hk => hk.2) (.int .i64 t116)) (fun _ hk => hk.2) (.slice Ao43 t117.length co43)) (fun _ h_ => h_.1))))) (Kd.R_lt (by (with_reducible repeat (first | apply Kd.R_alloc | apply Kd.R_drewN | apply Kd.R_drew)); exact (Kd.R_mono (Kd.R_far (p := ⟨gb121, 2, none⟩) (Kd.R_far (p := ⟨gb121, 1, none⟩) (Kd.R_far (p := ⟨gb121, 0, none⟩) (Kd.R_types HO119.out BK121.out (by decide)) (fun _ hk => hk.2) (.int .i64 t115)) (fun _ hk => hk.2) (.int .i64 t116)) (fun _ hk => hk.2) (.slice Ao43 t117.length co43)) (fun _ h_ => h_.1))))) (below_size (bw_ HB.out))); have n4_ := Aside0.mk (blk_below (g := gb101) (o := .cells #[.int .i64 a0_0, .int .i64 a0_1, .slice A0_2 l0_2.length c0_2] 30 (0, 0)) (by (with_reducible repeat (first | refine blk_drewN ?_ _ | refine blk_drew ?_ | refine blk_alloc ?_ _)); refine blk_far ?_ NB101_121.out _; (with_reducible repeat (first | refine blk_drewN ?_ _ | refine blk_drew ?_ | refine blk_alloc ?_ _)); refine blk_far ?_ NB101_121.out _; (with_reducible repeat (first | refine blk_drewN ?_ _ | refine blk_drew ?_ | refine blk_alloc ?_ _)); refine blk_far ?_ NB101_121.out _; (with_reducible repeat (first | refine blk_drewN ?_ _ | refine blk_drew ?_ | refine blk_alloc ?_ _)); exact BK101.out) hb); have n5_ := Aside0.mk (blk_below (g := gb102) (o := .cells #[.int .i64 a1_0, .int .i64 a1_1, .slice A1_2 l1_2.length c1_2] 30 (0, 0)) (by (with_reducible repeat (first | refine blk_drewN ?_ _ | refine blk_drew ?_ | refine blk_alloc ?_ _)); refine blk_far ?_ NB102_121.out _; (with_reducible repeat (first | refine blk_drewN ?_ _ | refine blk_drew ?_ | refine blk_alloc ?_ _)); refine blk_far ?_ NB102_121.out _; (with_reducible repeat (first | refine blk_drewN ?_ _ | refine blk_drew ?_ | refine blk_alloc ?_ _)); refine blk_far ?_ NB102_121.out _; (with_reducible repeat (first | refine blk_drewN ?_ _ | refine blk_drew ?_ | refine blk_alloc ?_ _)); exact BK102.out) hb); have n6_ := Aside0.mk (blk_below (g := gb121) (o := .cells #[.int .i64 t115, .int .i64 t116, .slice Ao43 t117.length co43] 33 (0, 0)) (by (with_reducible repeat (first | refine blk_drewN ?_ _ | refine blk_drew ?_ | refine blk_alloc ?_ _)); refine blk_put (cs := #[.int .i64 t115, .int .i64 t116, .slice none 0 0]) ?_ 2 _ rfl; (with_reducible repeat (first | refine blk_drewN ?_ _ | refine blk_drew ?_ | refine blk_alloc ?_ _)); refine blk_put (cs := #[.int .i64 t115, .int .i64 0, .slice none 0 0]) ?_ 1 _ rfl; (with_reducible repeat (first | refine blk_drewN ?_ _ | refine blk_drew ?_ | refine blk_alloc ?_ _)); refine blk_put (cs := #[.int .i64 0, .int .i64 0, .slice none 0 0]) ?_ 0 _ rfl; (with_reducible repeat (first | refine blk_drewN ?_ _ | refine blk_drew ?_ | refine blk_alloc ?_ _)); exact BK121.out) hb); have n7_ := Aside0.mk (below_step (bw_ HB.out) hb); clear HO109 HO114 HO119 BK101 BK102 BK121 HB; have HO109 := n0_; have HO114 := n1_; have HO119 := n2_; have HO126 := n3_; have BK101 := n4_; have BK102 := n5_; have BK121 := n6_; have HB := n7_; clear n0_ n1_ n2_ n3_ n4_ n5_ n6_ n7_; (try clear hb); (try clear hb2); (try clear hk); (try clear hi); (try clear ho0)) | ((with_reducible refine gate_dst (N := 8) rfl ?_); refine box_event ?hg (N := 8) ?hd (cs := #[.int .i64 0, .int .i64 0, .slice none 0 0]) (t := 33) ?hr ?_; (case hd => rfl); (case hg => rfl); (case hr => first | (go_simp; done) | (go_simp; rfl)); intro gb127 hg w48 hbox hb; have n0_ := Aside0.mk (Kd.R_below (rz_ HO109.out) hb); have n1_ := Aside0.mk (Kd.R_below (rz_ HO114.out) hb); have n2_ := Aside0.mk (Kd.R_below (rz_ HO119.out) hb); have n3_ := Aside0.mk (Kd.R_below (rz_ HO126.out) hb); have n4_ := Aside0.mk (blk_below (bz_ BK101.out) hb); have n5_ := Aside0.mk (blk_below (bz_ BK102.out) hb); have n6_ := Aside0.mk (blk_below (bz_ BK121.out) hb); have n7_ := Aside0.mk (below_step (bw_ HB.out) hb); have n8_ := Aside0.mk (hbox); have n9_ := Aside0.mk ((sz_ (below_size (bw_ HB.out)) hg : w.heap.size ≤ gb127)); have n10_ := Aside0.mk ((sz_ (below_size (bw_ HB.out)) hg : w.heap.size ≤ gb127)); have n11_ := Aside0.mk ((nl_ (blk_lt (bz_ BK101.out)) hg : gb101 ≠ gb127)); have n12_ := Aside0.mk ((ng_ (blk_lt (bz_ BK101.out)) hg : gb127 ≠ gb101)); have n13_ := Aside0.mk ((nl_ (blk_lt (bz_ BK102.out)) hg : gb102 ≠ gb127)); have n14_ := Aside0.mk ((ng_ (blk_lt (bz_ BK102.out)) hg : gb127 ≠ gb102)); have n15_ := Aside0.mk ((nl_ (blk_lt (bz_ BK121.out)) hg : gb121 ≠ gb127)); have n16_ := Aside0.mk ((ng_ (blk_lt (bz_ BK121.out)) hg : gb127 ≠ gb121)); clear HO109 HO114 HO119 HO126 BK101 BK102 BK121 HB; have HO109 := n0_; have HO114 := n1_; have HO119 := n2_; have HO126 := n3_; have BK101 := n4_; have BK102 := n5_; have BK121 := n6_; have HB := n7_; have BK127 := n8_; have GW127 := n9_; have GE127 := n10_; have NB101_127 := n11_; have NB127_101 := n12_; have NB102_127 := n13_; have NB127_102 := n14_; have NB121_127 := n15_; have NB127_121 := n16_; clear n0_ n1_ n2_ n3_ n4_ n5_ n6_ n7_ n8_ n9_ n10_ n11_ n12_ n13_ n14_ n15_ n16_; clear hb hbox hg; have hnb49 := NB127_101.out; have hnc49 := NB101_127.out; have hnb50 := NB127_102.out; have hnc50 := NB102_127.out; have hnb51 := NB127_121.out; have hnc51 := NB121_127.out; have hcz52_0 : w48.cell? ⟨gb127, 0, none⟩ = some (.int .i64 0) := (blk_cell BK127.out 0).trans rfl; have hcz52_1 : w48.cell? ⟨gb127, 1, none⟩ = some (.int .i64 0) := (blk_cell BK127.out 1).trans rfl; have hcz52_2 : w48.cell? ⟨gb127, 2, none⟩ = some (.slice none 0 0) := (blk_cell BK127.out 2).trans rfl; have hfz52_0 := blk_frozen BK127.out 0; have hfz52_1 := blk_frozen BK127.out 1; have hfz52_2 := blk_frozen BK127.out 2; obtain ⟨Ao53, co53, eo53⟩ := Kd.R_slice HO126.out; subst eo53; have hnb54 := NB102_121.out; have hnc54 := NB121_102.out; have hcz55_0 : w48.cell? ⟨gb102, 0, none⟩ = some (.int .i64 a1_0) := (blk_cell BK102.out 0).trans rfl; have hcz55_1 : w48.cell? ⟨gb102, 1, none⟩ = some (.int .i64 a1_1) := (blk_cell BK102.out 1).trans rfl; have hcz55_2 : w48.cell? ⟨gb102, 2, none⟩ = some (.slice A1_2 l1_2.length c1_2) := (blk_cell BK102.out 2).trans rfl; have hfz55_0 := blk_frozen BK102.out 0; have hfz55_1 := blk_frozen BK102.out 1; have hfz55_2 := blk_frozen BK102.out 2) | ((with_reducible refine gate_callee (f := 14) rfl ?_); refine goesL_ (some 38) rfl rfl Try.func14 (by kernel_rfl) rfl #[.agg #[.int .i64 a1_0, .int .i64 a1_1, .slice A1_2 l1_2.length c1_2]] rfl am_ ?_; (with_reducible refine (laws_toRanks.calls k a1_0 a1_1 _ _ l1_2 t128 t129 t130 _ ?side1 ?side2 A23.out).mono ?_); (case side1 => exact Kd.C_below HR1_2.out (bw_ HB.out)); (case side2 => exact HC1_2.out); rintro e w56 ⟨v131, rfl, ho0, hb⟩; refine ⟨_, rfl, ?_⟩; have n0_ := Aside0.mk (Kd.R_elder' (by (with_reducible repeat (first | apply Kd.R_alloc | apply Kd.R_drewN | apply Kd.R_drew)); exact (Kd.R_mono (Kd.R_far (p := ⟨gb127, 2, none⟩) (Kd.R_far (p := ⟨gb127, 1, none⟩) (Kd.R_far (p := ⟨gb127, 0, none⟩) (Kd.R_types HO109.out BK127.out (by decide)) (fun _ hk => hk.2) (.int .i64 t122)) (fun _ hk => hk.2) (.int .i64 t123)) (fun _ hk => hk.2) (.slice Ao53 t124.length co53)) (fun _ h_ => h_.1))) (Kd.R_base ho0) hb); have n1_ := Aside0.mk (Kd.R_elder' (by (with_reducible repeat (first | apply Kd.R_alloc | apply Kd.R_drewN | apply Kd.R_drew)); exact (Kd.R_mono (Kd.R_far (p := ⟨gb127, 2, none⟩) (Kd.R_far (p := ⟨gb127, 1, none⟩) (Kd.R_far (p := ⟨gb127, 0, none⟩) (Kd.R_types HO114.out BK127.out (by decide)) (fun _ hk => hk.2) (.int .i64 t122)) (fun _ hk => hk.2) (.int .i64 t123)) (fun _ hk => hk.2) (.slice Ao53 t124.length co53)) (fun _ h_ => h_.1))) (Kd.R_base ho0) hb); have n2_ := Aside0.mk (Kd.R_elder' (by (with_reducible repeat (first | apply Kd.R_alloc | apply Kd.R_drewN | apply Kd.R_drew)); exact (Kd.R_mono (Kd.R_far (p := ⟨gb127, 2, none⟩) (Kd.R_far (p := ⟨gb127, 1, none⟩) (Kd.R_far (p := ⟨gb127, 0, none⟩) (Kd.R_types HO119.out BK127.out (by decide)) (fun _ hk => hk.2) (.int .i64 t122)) (fun _ hk => hk.2) (.int .i64 t123)) (fun _ hk => hk.2) (.slice Ao53 t124.length co53)) (fun _ h_ => h_.1))) (Kd.R_base ho0) hb); have n3_ := Aside0.mk (Kd.R_elder' (by (with_reducible repeat (first | apply Kd.R_alloc | apply Kd.R_drewN | apply Kd.R_drew)); exact (Kd.R_mono (Kd.R_far (p := ⟨gb127, 2, none⟩) (Kd.R_far (p := ⟨gb127, 1, none⟩) (Kd.R_far (p := ⟨gb127, 0, none⟩) (Kd.R_types HO126.out BK127.out (by decide)) (fun _ hk => hk.2) (.int .i64 t122)) (fun _ hk => hk.2) (.int .i64 t123)) (fun _ hk => hk.2) (.slice Ao53 t124.length co53)) (fun _ h_ => h_.1))) (Kd.R_base ho0) hb); have n4_ := Aside0.mk (Kd.R_lower (Kd.R_new' (Kd.R_new' (Kd.R_new' (Kd.R_new' ho0 (Kd.R_lt (by (with_reducible repeat (first | apply Kd.R_alloc | apply Kd.R_drewN | apply Kd.R_drew)); exact (Kd.R_mono (Kd.R_far (p := ⟨gb127, 2, none⟩) (Kd.R_far (p := ⟨gb127, 1, none⟩) (Kd.R_far (p := ⟨gb127, 0, none⟩) (Kd.R_types HO109.out BK127.out (by decide)) (fun _ hk => hk.2) (.int .i64 t122)) (fun _ hk => hk.2) (.int .i64 t123)) (fun _ hk => hk.2) (.slice Ao53 t124.length co53)) (fun _ h_ => h_.1))))) (Kd.R_lt (by (with_reducible repeat (first | apply Kd.R_alloc | apply Kd.R_drewN | apply Kd.R_drew)); exact (Kd.R_mono (Kd.R_far (p := ⟨gb127, 2, none⟩) (Kd.R_far (p := ⟨gb127, 1, none⟩) (Kd.R_far (p := ⟨gb127, 0, none⟩) (Kd.R_types HO114.out BK127.out (by decide)) (fun _ hk => hk.2) (.int .i64 t122)) (fun _ hk => hk.2) (.int .i64 t123)) (fun _ hk => hk.2) (.slice Ao53 t124.length co53)) (fun _ h_ => h_.1))))) (Kd.R_lt (by (with_reducible repeat (first | apply Kd.R_alloc | apply Kd.R_drewN | apply Kd.R_drew)); exact (Kd.R_mono (Kd.R_far (p := ⟨gb127, 2, none⟩) (Kd.R_far (p := ⟨gb127, 1, none⟩) (Kd.R_far (p := ⟨gb127, 0, none⟩) (Kd.R_types HO119.out BK127.out (by decide)) (fun _ hk => hk.2) (.int .i64 t122)) (fun _ hk => hk.2) (.int .i64 t123)) (fun _ hk => hk.2) (.slice Ao53 t124.length co53)) (fun _ h_ => h_.1))))) (Kd.R_lt (by (with_reducible repeat (first | apply Kd.R_alloc | apply Kd.R_drewN | apply Kd.R_drew)); exact (Kd.R_mono (Kd.R_far (p := ⟨gb127, 2, none⟩) (Kd.R_far (p := ⟨gb127, 1, none⟩) (Kd.R_far (p := ⟨gb127, 0, none⟩) (Kd.R_types HO126.out BK127.out (by decide)) (fun _ hk => hk.2) (.int .i64 t122)) (fun _ hk => hk.2) (.int .i64 t123)) (fun _ hk => hk.2) (.slice Ao53 t124.length co53)) (fun _ h_ => h_.1))))) (below_size (bw_ HB.out))); have n5_ := Aside0.mk (blk_below (g := gb101) (o := .cells #[.int .i64 a0_0, .int .i64 a0_1, .slice A0_2 l0_2.length c0_2] 30 (0, 0)) (by (with_reducible repeat (first | refine blk_drewN ?_ _ | refine blk_drew ?_ | refine blk_alloc ?_ _)); refine blk_far ?_ NB101_127.out _; (with_reducible repeat (first | refine blk_drewN ?_ _ | refine blk_drew ?_ | refine blk_alloc ?_ _)); refine blk_far ?_ NB101_127.out _; (with_reducible repeat (first | refine blk_drewN ?_ _ | refine blk_drew ?_ | refine blk_alloc ?_ _)); refine blk_far ?_ NB101_127.out _; (with_reducible repeat (first | refine blk_drewN ?_ _ | refine blk_drew ?_ | refine blk_alloc ?_ _)); exact BK101.out) hb); have n6_ := Aside0.mk (blk_below (g := gb102) (o := .cells #[.int .i64 a1_0, .int .i64 a1_1, .slice A1_2 l1_2.length c1_2] 30 (0, 0)) (by (with_reducible repeat (first | refine blk_drewN ?_ _ | refine blk_drew ?_ | refine blk_alloc ?_ _)); refine blk_far ?_ NB102_127.out _; (with_reducible repeat (first | refine blk_drewN ?_ _ | refine blk_drew ?_ | refine blk_alloc ?_ _)); refine blk_far ?_ NB102_127.out _; (with_reducible repeat (first | refine blk_drewN ?_ _ | refine blk_drew ?_ | refine blk_alloc ?_ _)); refine blk_far ?_ NB102_127.out _; (with_reducible repeat (first | refine blk_drewN ?_ _ | refine blk_drew ?_ | refine blk_alloc ?_ _)); exact BK102.out) hb); have n7_ := Aside0.mk (blk_below (g := gb121) (o := .cells #[.int .i64 t115, .int .i64 t116, .slice Ao43 t117.length co43] 33 (0, 0)) (by (with_reducible repeat (first | refine blk_drewN ?_ _ | refine blk_drew ?_ | refine blk_alloc ?_ _)); refine blk_far ?_ NB121_127.out _; (with_reducible repeat (first | refine blk_drewN ?_ _ | refine blk_drew ?_ | refine blk_alloc ?_ _)); refine blk_far ?_ NB121_127.out _; (with_reducible repeat (first | refine blk_drewN ?_ _ | refine blk_drew ?_ | refine blk_alloc ?_ _)); refine blk_far ?_ NB121_127.out _; (with_reducible repeat (first | refine blk_drewN ?_ _ | refine blk_drew ?_ | refine blk_alloc ?_ _)); exact BK121.out) hb); have n8_ := Aside0.mk (blk_below (g := gb127) (o := .cells #[.int .i64 t122, .int .i64 t123, .slice Ao53 t124.length co53] 33 (0, 0)) (by (with_reducible repeat (first | refine blk_drewN ?_ _ | refine blk_drew ?_ | refine blk_alloc ?_ _)); refine blk_put (cs := #[.int .i64 t122, .int .i64 t123, .slice none 0 0]) ?_ 2 _ rfl; (with_reducible repeat (first | refine blk_drewN ?_ _ | refine blk_drew ?_ | refine blk_alloc ?_ _)); refine blk_put (cs := #[.int .i64 t122, .int .i64 0, .slice none 0 0]) ?_ 1 _ rfl; (with_reducible repeat (first | refine blk_drewN ?_ _ | refine blk_drew ?_ | refine blk_alloc ?_ _)); refine blk_put (cs := #[.int .i64 0, .int .i64 0, .slice none 0 0]) ?_ 0 _ rfl; (with_reducible repeat (first | refine blk_drewN ?_ _ | refine blk_drew ?_ | refine blk_alloc ?_ _)); exact BK127.out) hb); have n9_ := Aside0.mk (below_step (bw_ HB.out) hb); clear HO109 HO114 HO119 HO126 BK101 BK102 BK121 BK127 HB; have HO109 := n0_; have HO114 := n1_; have HO119 := n2_; have HO126 := n3_; have HO132 := n4_; have BK101 := n5_; have BK102 := n6_; have BK121 := n7_; have BK127 := n8_; have HB := n9_; clear n0_ n1_ n2_ n3_ n4_ n5_ n6_ n7_ n8_ n9_; (try clear hb); (try clear hb2); (try clear hk); (try clear hi); (try clear ho0)) | ((with_reducible refine gate_dst (N := 9) rfl ?_); refine box_event ?hg (N := 9) ?hd (cs := #[.int .i64 0, .int .i64 0, .slice none 0 0]) (t := 33) ?hr ?_; (case hd => rfl); (case hg => rfl); (case hr => first | (go_simp; done) | (go_simp; rfl)); intro gb133 hg w57 hbox hb; have n0_ := Aside0.mk (Kd.R_below (rz_ HO109.out) hb); have n1_ := Aside0.mk (Kd.R_below (rz_ HO114.out) hb); have n2_ := Aside0.mk (Kd.R_below (rz_ HO119.out) hb); have n3_ := Aside0.mk (Kd.R_below (rz_ HO126.out) hb); have n4_ := Aside0.mk (Kd.R_below (rz_ HO132.out) hb); have n5_ := Aside0.mk (blk_below (bz_ BK101.out) hb); have n6_ := Aside0.mk (blk_below (bz_ BK102.out) hb); have n7_ := Aside0.mk (blk_below (bz_ BK121.out) hb); have n8_ := Aside0.mk (blk_below (bz_ BK127.out) hb); have n9_ := Aside0.mk (below_step (bw_ HB.out) hb); have n10_ := Aside0.mk (hbox); have n11_ := Aside0.mk ((sz_ (below_size (bw_ HB.out)) hg : w.heap.size ≤ gb133)); have n12_ := Aside0.mk ((sz_ (below_size (bw_ HB.out)) hg : w.heap.size ≤ gb133)); have n13_ := Aside0.mk ((nl_ (blk_lt (bz_ BK101.out)) hg : gb101 ≠ gb133)); have n14_ := Aside0.mk ((ng_ (blk_lt (bz_ BK101.out)) hg : gb133 ≠ gb101)); have n15_ := Aside0.mk ((nl_ (blk_lt (bz_ BK102.out)) hg : gb102 ≠ gb133)); have n16_ := Aside0.mk ((ng_ (blk_lt (bz_ BK102.out)) hg : gb133 ≠ gb102)); have n17_ := Aside0.mk ((nl_ (blk_lt (bz_ BK121.out)) hg : gb121 ≠ gb133)); have n18_ := Aside0.mk ((ng_ (blk_lt (bz_ BK121.out)) hg : gb133 ≠ gb121)); have n19_ := Aside0.mk ((nl_ (blk_lt (bz_ BK127.out)) hg : gb127 ≠ gb133)); have n20_ := Aside0.mk ((ng_ (blk_lt (bz_ BK127.out)) hg : gb133 ≠ gb127)); clear HO109 HO114 HO119 HO126 HO132 BK101 BK102 BK121 BK127 HB; have HO109 := n0_; have HO114 := n1_; have HO119 := n2_; have HO126 := n3_; have HO132 := n4_; have BK101 := n5_; have BK102 := n6_; have BK121 := n7_; have BK127 := n8_; have HB := n9_; have BK133 := n10_; have GW133 := n11_; have GE133 := n12_; have NB101_133 := n13_; have NB133_101 := n14_; have NB102_133 := n15_; have NB133_102 := n16_; have NB121_133 := n17_; have NB133_121 := n18_; have NB127_133 := n19_; have NB133_127 := n20_; clear n0_ n1_ n2_ n3_ n4_ n5_ n6_ n7_ n8_ n9_ n10_ n11_ n12_ n13_ n14_ n15_ n16_ n17_ n18_ n19_ n20_; clear hb hbox hg; have hnb58 := NB133_101.out; have hnc58 := NB101_133.out; have hnb59 := NB133_102.out; have hnc59 := NB102_133.out; have hnb60 := NB133_121.out; have hnc60 := NB121_133.out; have hnb61 := NB133_127.out; have hnc61 := NB127_133.out; have hcz62_0 : w57.cell? ⟨gb133, 0, none⟩ = some (.int .i64 0) := (blk_cell BK133.out 0).trans rfl; have hcz62_1 : w57.cell? ⟨gb133, 1, none⟩ = some (.int .i64 0) := (blk_cell BK133.out 1).trans rfl; have hcz62_2 : w57.cell? ⟨gb133, 2, none⟩ = some (.slice none 0 0) := (blk_cell BK133.out 2).trans rfl; have hfz62_0 := blk_frozen BK133.out 0; have hfz62_1 := blk_frozen BK133.out 1; have hfz62_2 := blk_frozen BK133.out 2; obtain ⟨Ao63, co63, eo63⟩ := Kd.R_slice HO132.out; subst eo63; have hcz64_0 : w57.cell? ⟨gb127, 0, none⟩ = some (.int .i64 t122) := (blk_cell BK127.out 0).trans rfl; have hcz64_1 : w57.cell? ⟨gb127, 1, none⟩ = some (.int .i64 t123) := (blk_cell BK127.out 1).trans rfl; have hcz64_2 : w57.cell? ⟨gb127, 2, none⟩ = some (.slice Ao53 t124.length co53) := (blk_cell BK127.out 2).trans rfl; have hfz64_0 := blk_frozen BK127.out 0; have hfz64_1 := blk_frozen BK127.out 1; have hfz64_2 := blk_frozen BK127.out 2) | ((with_reducible refine gate_callee (f := 28) rfl ?_); refine goesL_ (some 42) rfl rfl Try.func28 (by kernel_rfl) rfl #[.agg #[.int .i64 t122, .int .i64 t123, .slice Ao53 t124.length co53], .agg #[.int .i64 t128, .int .i64 t129, .slice Ao63 t130.length co63]] rfl am_ ?_; (with_reducible refine (impl_AddRanks.calls k t122 t123 _ _ t124 t128 t129 _ _ t130 t134 t135 t136 t139 _ ?side1 ?side2 ?side3 ?side4 A24.out).mono ?_); (case side1 => refine (Kd.R_reads' (e := 2) (base := w.heap.size) (ok := fun k_ => ((((True ∧ some k_ ≠ (v108 : Value).ownBlock) ∧ some k_ ≠ (v113 : Value).ownBlock) ∧ some k_ ≠ (.slice Ao43 t117.length co43 : Value).ownBlock) ∧ some k_ ≠ (.slice Ao63 t130.length co63 : Value).ownBlock)) (n := t124.length) (c := co53) ?_).2.2; exact (by (with_reducible repeat (first | apply Kd.R_alloc | apply Kd.R_drewN | apply Kd.R_drew)); exact (Kd.R_mono (Kd.R_far (p := ⟨gb133, 2, none⟩) (Kd.R_far (p := ⟨gb133, 1, none⟩) (Kd.R_far (p := ⟨gb133, 0, none⟩) (Kd.R_types HO126.out BK133.out (by decide)) (fun _ hk => hk.2) (.int .i64 t128)) (fun _ hk => hk.2) (.int .i64 t129)) (fun _ hk => hk.2) (.slice Ao63 t130.length co63)) (fun _ h_ => h_.1)))); (case side2 => exact (Kd.R_reads' HO126.out).2.1); (case side3 => refine (Kd.R_reads' (e := 2) (base := w.heap.size) (ok := fun k_ => ((((True ∧ some k_ ≠ (v108 : Value).ownBlock) ∧ some k_ ≠ (v113 : Value).ownBlock) ∧ some k_ ≠ (.slice Ao43 t117.length co43 : Value).ownBlock) ∧ some k_ ≠ (.slice Ao53 t124.length co53 : Value).ownBlock)) (n := t130.length) (c := co63) ?_).2.2; exact (by (with_reducible repeat (first | apply Kd.R_alloc | apply Kd.R_drewN | apply Kd.R_drew)); exact (Kd.R_mono (Kd.R_far (p := ⟨gb133, 2, none⟩) (Kd.R_far (p := ⟨gb133, 1, none⟩) (Kd.R_far (p := ⟨gb133, 0, none⟩) (Kd.R_types HO132.out BK133.out (by decide)) (fun _ hk => hk.2) (.int .i64 t128)) (fun _ hk => hk.2) (.int .i64 t129)) (fun _ hk => hk.2) (.slice Ao63 t130.length co63)) (fun _ h_ => h_.1)))); (case side4 => exact (Kd.R_reads' HO132.out).2.1); rintro e w65 ⟨v137, rfl, ho0, hb⟩; refine ⟨_, rfl, ?_⟩; have n0_ := Aside0.mk (Kd.R_elder' (by (with_reducible repeat (first | apply Kd.R_alloc | apply Kd.R_drewN | apply Kd.R_drew)); exact (Kd.R_mono (Kd.R_far (p := ⟨gb133, 2, none⟩) (Kd.R_far (p := ⟨gb133, 1, none⟩) (Kd.R_far (p := ⟨gb133, 0, none⟩) (Kd.R_types HO109.out BK133.out (by decide)) (fun _ hk => hk.2) (.int .i64 t128)) (fun _ hk => hk.2) (.int .i64 t129)) (fun _ hk => hk.2) (.slice Ao63 t130.length co63)) (fun _ h_ => h_.1))) (Kd.R_base ho0) hb); have n1_ := Aside0.mk (Kd.R_elder' (by (with_reducible repeat (first | apply Kd.R_alloc | apply Kd.R_drewN | apply Kd.R_drew)); exact (Kd.R_mono (Kd.R_far (p := ⟨gb133, 2, none⟩) (Kd.R_far (p := ⟨gb133, 1, none⟩) (Kd.R_far (p := ⟨gb133, 0, none⟩) (Kd.R_types HO114.out BK133.out (by decide)) (fun _ hk => hk.2) (.int .i64 t128)) (fun _ hk => hk.2) (.int .i64 t129)) (fun _ hk => hk.2) (.slice Ao63 t130.length co63)) (fun _ h_ => h_.1))) (Kd.R_base ho0) hb); have n2_ := Aside0.mk (Kd.R_elder' (by (with_reducible repeat (first | apply Kd.R_alloc | apply Kd.R_drewN | apply Kd.R_drew)); exact (Kd.R_mono (Kd.R_far (p := ⟨gb133, 2, none⟩) (Kd.R_far (p := ⟨gb133, 1, none⟩) (Kd.R_far (p := ⟨gb133, 0, none⟩) (Kd.R_types HO119.out BK133.out (by decide)) (fun _ hk => hk.2) (.int .i64 t128)) (fun _ hk => hk.2) (.int .i64 t129)) (fun _ hk => hk.2) (.slice Ao63 t130.length co63)) (fun _ h_ => h_.1))) (Kd.R_base ho0) hb); have n3_ := Aside0.mk (Kd.R_elder' (by (with_reducible repeat (first | apply Kd.R_alloc | apply Kd.R_drewN | apply Kd.R_drew)); exact (Kd.R_mono (Kd.R_far (p := ⟨gb133, 2, none⟩) (Kd.R_far (p := ⟨gb133, 1, none⟩) (Kd.R_far (p := ⟨gb133, 0, none⟩) (Kd.R_types HO126.out BK133.out (by decide)) (fun _ hk => hk.2) (.int .i64 t128)) (fun _ hk => hk.2) (.int .i64 t129)) (fun _ hk => hk.2) (.slice Ao63 t130.length co63)) (fun _ h_ => h_.1))) (Kd.R_base ho0) hb); have n4_ := Aside0.mk (Kd.R_elder' (by (with_reducible repeat (first | apply Kd.R_alloc | apply Kd.R_drewN | apply Kd.R_drew)); exact (Kd.R_mono (Kd.R_far (p := ⟨gb133, 2, none⟩) (Kd.R_far (p := ⟨gb133, 1, none⟩) (Kd.R_far (p := ⟨gb133, 0, none⟩) (Kd.R_types HO132.out BK133.out (by decide)) (fun _ hk => hk.2) (.int .i64 t128)) (fun _ hk => hk.2) (.int .i64 t129)) (fun _ hk => hk.2) (.slice Ao63 t130.length co63)) (fun _ h_ => h_.1))) (Kd.R_base ho0) hb); have n5_ := Aside0.mk (Kd.R_lower (Kd.R_new' (Kd.R_new' (Kd.R_new' (Kd.R_new' (Kd.R_new' ho0 (Kd.R_lt (by (with_reducible repeat (first | apply Kd.R_alloc | apply Kd.R_drewN | apply Kd.R_drew)); exact (Kd.R_mono (Kd.R_far (p := ⟨gb133, 2, none⟩) (Kd.R_far (p := ⟨gb133, 1, none⟩) (Kd.R_far (p := ⟨gb133, 0, none⟩) (Kd.R_types HO109.out BK133.out (by decide)) (fun _ hk => hk.2) (.int .i64 t128)) (fun _ hk => hk.2) (.int .i64 t129)) (fun _ hk => hk.2) (.slice Ao63 t130.length co63)) (fun _ h_ => h_.1))))) (Kd.R_lt (by (with_reducible repeat (first | apply Kd.R_alloc | apply Kd.R_drewN | apply Kd.R_drew)); exact (Kd.R_mono (Kd.R_far (p := ⟨gb133, 2, none⟩) (Kd.R_far (p := ⟨gb133, 1, none⟩) (Kd.R_far (p := ⟨gb133, 0, none⟩) (Kd.R_types HO114.out BK133.out (by decide)) (fun _ hk => hk.2) (.int .i64 t128)) (fun _ hk => hk.2) (.int .i64 t129)) (fun _ hk => hk.2) (.slice Ao63 t130.length co63)) (fun _ h_ => h_.1))))) (Kd.R_lt (by (with_reducible repeat (first | apply Kd.R_alloc | apply Kd.R_drewN | apply Kd.R_drew)); exact (Kd.R_mono (Kd.R_far (p := ⟨gb133, 2, none⟩) (Kd.R_far (p := ⟨gb133, 1, none⟩) (Kd.R_far (p := ⟨gb133, 0, none⟩) (Kd.R_types HO119.out BK133.out (by decide)) (fun _ hk => hk.2) (.int .i64 t128)) (fun _ hk => hk.2) (.int .i64 t129)) (fun _ hk => hk.2) (.slice Ao63 t130.length co63)) (fun _ h_ => h_.1))))) (Kd.R_lt (by (with_reducible repeat (first | apply Kd.R_alloc | apply Kd.R_drewN | apply Kd.R_drew)); exact (Kd.R_mono (Kd.R_far (p := ⟨gb133, 2, none⟩) (Kd.R_far (p := ⟨gb133, 1, none⟩) (Kd.R_far (p := ⟨gb133, 0, none⟩) (Kd.R_types HO126.out BK133.out (by decide)) (fun _ hk => hk.2) (.int .i64 t128)) (fun _ hk => hk.2) (.int .i64 t129)) (fun _ hk => hk.2) (.slice Ao63 t130.length co63)) (fun _ h_ => h_.1))))) (Kd.R_lt (by (with_reducible repeat (first | apply Kd.R_alloc | apply Kd.R_drewN | apply Kd.R_drew)); exact (Kd.R_mono (Kd.R_far (p := ⟨gb133, 2, none⟩) (Kd.R_far (p := ⟨gb133, 1, none⟩) (Kd.R_far (p := ⟨gb133, 0, none⟩) (Kd.R_types HO132.out BK133.out (by decide)) (fun _ hk => hk.2) (.int .i64 t128)) (fun _ hk => hk.2) (.int .i64 t129)) (fun _ hk => hk.2) (.slice Ao63 t130.length co63)) (fun _ h_ => h_.1))))) (below_size (bw_ HB.out))); have n6_ := Aside0.mk (blk_below (g := gb101) (o := .cells #[.int .i64 a0_0, .int .i64 a0_1, .slice A0_2 l0_2.length c0_2] 30 (0, 0)) (by (with_reducible repeat (first | refine blk_drewN ?_ _ | refine blk_drew ?_ | refine blk_alloc ?_ _)); refine blk_far ?_ NB101_133.out _; (with_reducible repeat (first | refine blk_drewN ?_ _ | refine blk_drew ?_ | refine blk_alloc ?_ _)); refine blk_far ?_ NB101_133.out _; (with_reducible repeat (first | refine blk_drewN ?_ _ | refine blk_drew ?_ | refine blk_alloc ?_ _)); refine blk_far ?_ NB101_133.out _; (with_reducible repeat (first | refine blk_drewN ?_ _ | refine blk_drew ?_ | refine blk_alloc ?_ _)); exact BK101.out) hb); have n7_ := Aside0.mk (blk_below (g := gb102) (o := .cells #[.int .i64 a1_0, .int .i64 a1_1, .slice A1_2 l1_2.length c1_2] 30 (0, 0)) (by (with_reducible repeat (first | refine blk_drewN ?_ _ | refine blk_drew ?_ | refine blk_alloc ?_ _)); refine blk_far ?_ NB102_133.out _; (with_reducible repeat (first | refine blk_drewN ?_ _ | refine blk_drew ?_ | refine blk_alloc ?_ _)); refine blk_far ?_ NB102_133.out _; (with_reducible repeat (first | refine blk_drewN ?_ _ | refine blk_drew ?_ | refine blk_alloc ?_ _)); refine blk_far ?_ NB102_133.out _; (with_reducible repeat (first | refine blk_drewN ?_ _ | refine blk_drew ?_ | refine blk_alloc ?_ _)); exact BK102.out) hb); have n8_ := Aside0.mk (blk_below (g := gb121) (o := .cells #[.int .i64 t115, .int .i64 t116, .slice Ao43 t117.length co43] 33 (0, 0)) (by (with_reducible repeat (first | refine blk_drewN ?_ _ | refine blk_drew ?_ | refine blk_alloc ?_ _)); refine blk_far ?_ NB121_133.out _; (with_reducible repeat (first | refine blk_drewN ?_ _ | refine blk_drew ?_ | refine blk_alloc ?_ _)); refine blk_far ?_ NB121_133.out _; (with_reducible repeat (first | refine blk_drewN ?_ _ | refine blk_drew ?_ | refine blk_alloc ?_ _)); refine blk_far ?_ NB121_133.out _; (with_reducible repeat (first | refine blk_drewN ?_ _ | refine blk_drew ?_ | refine blk_alloc ?_ _)); exact BK121.out) hb); have n9_ := Aside0.mk (blk_below (g := gb127) (o := .cells #[.int .i64 t122, .int .i64 t123, .slice Ao53 t124.length co53] 33 (0, 0)) (by (with_reducible repeat (first | refine blk_drewN ?_ _ | refine blk_drew ?_ | refine blk_alloc ?_ _)); refine blk_far ?_ NB127_133.out _; (with_reducible repeat (first | refine blk_drewN ?_ _ | refine blk_drew ?_ | refine blk_alloc ?_ _)); refine blk_far ?_ NB127_133.out _; (with_reducible repeat (first | refine blk_drewN ?_ _ | refine blk_drew ?_ | refine blk_alloc ?_ _)); refine blk_far ?_ NB127_133.out _; (with_reducible repeat (first | refine blk_drewN ?_ _ | refine blk_drew ?_ | refine blk_alloc ?_ _)); exact BK127.out) hb); have n10_ := Aside0.mk (blk_below (g := gb133) (o := .cells #[.int .i64 t128, .int .i64 t129, .slice Ao63 t130.length co63] 33 (0, 0)) (by (with_reducible repeat (first | refine blk_drewN ?_ _ | refine blk_drew ?_ | refine blk_alloc ?_ _)); refine blk_put (cs := #[.int .i64 t128, .int .i64 t129, .slice none 0 0]) ?_ 2 _ rfl; (with_reducible repeat (first | refine blk_drewN ?_ _ | refine blk_drew ?_ | refine blk_alloc ?_ _)); refine blk_put (cs := #[.int .i64 t128, .int .i64 0, .slice none 0 0]) ?_ 1 _ rfl; (with_reducible repeat (first | refine blk_drewN ?_ _ | refine blk_drew ?_ | refine blk_alloc ?_ _)); refine blk_put (cs := #[.int .i64 0, .int .i64 0, .slice none 0 0]) ?_ 0 _ rfl; (with_reducible repeat (first | refine blk_drewN ?_ _ | refine blk_drew ?_ | refine blk_alloc ?_ _)); exact BK133.out) hb); have n11_ := Aside0.mk (below_step (bw_ HB.out) hb); clear HO109 HO114 HO119 HO126 HO132 BK101 BK102 BK121 BK127 BK133 HB; have HO109 := n0_; have HO114 := n1_; have HO119 := n2_; have HO126 := n3_; have HO132 := n4_; have HO138 := n5_; have BK101 := n6_; have BK102 := n7_; have BK121 := n8_; have BK127 := n9_; have BK133 := n10_; have HB := n11_; clear n0_ n1_ n2_ n3_ n4_ n5_ n6_ n7_ n8_ n9_ n10_ n11_; (try clear hb); (try clear hb2); (try clear hk); (try clear hi); (try clear ho0)) | ((with_reducible refine gate_dst (N := 10) rfl ?_); refine box_event ?hg (N := 10) ?hd (cs := #[.int .i64 0, .int .i64 0, .slice none 0 0]) (t := 33) ?hr ?_; (case hd => rfl); (case hg => rfl); (case hr => first | (go_simp; done) | (go_simp; rfl)); intro gb140 hg w66 hbox hb; have n0_ := Aside0.mk (Kd.R_below (rz_ HO109.out) hb); have n1_ := Aside0.mk (Kd.R_below (rz_ HO114.out) hb); have n2_ := Aside0.mk (Kd.R_below (rz_ HO119.out) hb); have n3_ := Aside0.mk (Kd.R_below (rz_ HO126.out) hb); have n4_ := Aside0.mk (Kd.R_below (rz_ HO132.out) hb); have n5_ := Aside0.mk (Kd.R_below (rz_ HO138.out) hb); have n6_ := Aside0.mk (blk_below (bz_ BK101.out) hb); have n7_ := Aside0.mk (blk_below (bz_ BK102.out) hb); have n8_ := Aside0.mk (blk_below (bz_ BK121.out) hb); have n9_ := Aside0.mk (blk_below (bz_ BK127.out) hb); have n10_ := Aside0.mk (blk_below (bz_ BK133.out) hb); have n11_ := Aside0.mk (below_step (bw_ HB.out) hb); have n12_ := Aside0.mk (hbox); have n13_ := Aside0.mk ((sz_ (below_size (bw_ HB.out)) hg : w.heap.size ≤ gb140)); have n14_ := Aside0.mk ((sz_ (below_size (bw_ HB.out)) hg : w.heap.size ≤ gb140)); have n15_ := Aside0.mk ((nl_ (blk_lt (bz_ BK101.out)) hg : gb101 ≠ gb140)); have n16_ := Aside0.mk ((ng_ (blk_lt (bz_ BK101.out)) hg : gb140 ≠ gb101)); have n17_ := Aside0.mk ((nl_ (blk_lt (bz_ BK102.out)) hg : gb102 ≠ gb140)); have n18_ := Aside0.mk ((ng_ (blk_lt (bz_ BK102.out)) hg : gb140 ≠ gb102)); have n19_ := Aside0.mk ((nl_ (blk_lt (bz_ BK121.out)) hg : gb121 ≠ gb140)); have n20_ := Aside0.mk ((ng_ (blk_lt (bz_ BK121.out)) hg : gb140 ≠ gb121)); have n21_ := Aside0.mk ((nl_ (blk_lt (bz_ BK127.out)) hg : gb127 ≠ gb140)); have n22_ := Aside0.mk ((ng_ (blk_lt (bz_ BK127.out)) hg : gb140 ≠ gb127)); have n23_ := Aside0.mk ((nl_ (blk_lt (bz_ BK133.out)) hg : gb133 ≠ gb140)); have n24_ := Aside0.mk ((ng_ (blk_lt (bz_ BK133.out)) hg : gb140 ≠ gb133)); clear HO109 HO114 HO119 HO126 HO132 HO138 BK101 BK102 BK121 BK127 BK133 HB; have HO109 := n0_; have HO114 := n1_; have HO119 := n2_; have HO126 := n3_; have HO132 := n4_; have HO138 := n5_; have BK101 := n6_; have BK102 := n7_; have BK121 := n8_; have BK127 := n9_; have BK133 := n10_; have HB := n11_; have BK140 := n12_; have GW140 := n13_; have GE140 := n14_; have NB101_140 := n15_; have NB140_101 := n16_; have NB102_140 := n17_; have NB140_102 := n18_; have NB121_140 := n19_; have NB140_121 := n20_; have NB127_140 := n21_; have NB140_127 := n22_; have NB133_140 := n23_; have NB140_133 := n24_; clear n0_ n1_ n2_ n3_ n4_ n5_ n6_ n7_ n8_ n9_ n10_ n11_ n12_ n13_ n14_ n15_ n16_ n17_ n18_ n19_ n20_ n21_ n22_ n23_ n24_; clear hb hbox hg; have hnb67 := NB140_101.out; have hnc67 := NB101_140.out; have hnb68 := NB140_102.out; have hnc68 := NB102_140.out; have hnb69 := NB140_121.out; have hnc69 := NB121_140.out; have hnb70 := NB140_127.out; have hnc70 := NB127_140.out; have hnb71 := NB140_133.out; have hnc71 := NB133_140.out; have hcz72_0 : w66.cell? ⟨gb140, 0, none⟩ = some (.int .i64 0) := (blk_cell BK140.out 0).trans rfl; have hcz72_1 : w66.cell? ⟨gb140, 1, none⟩ = some (.int .i64 0) := (blk_cell BK140.out 1).trans rfl; have hcz72_2 : w66.cell? ⟨gb140, 2, none⟩ = some (.slice none 0 0) := (blk_cell BK140.out 2).trans rfl; have hfz72_0 := blk_frozen BK140.out 0; have hfz72_1 := blk_frozen BK140.out 1; have hfz72_2 := blk_frozen BK140.out 2; obtain ⟨Ao73, co73, eo73⟩ := Kd.R_slice HO138.out; subst eo73))
   (try simp only [Act.put, List.setIfInBounds_toArray, List.set_cons_zero, List.set_cons_succ])
   go_cut [53] (fun v53 wc => ∃ (kq : Nat) (x53_24 : Bool), v53 = .bool x53_24 ∧ Aside0 (laws_FnExactAddRanks.j0 kq t120 t139 x53_24 a0_0 a0_1 l0_2 a1_0 a1_1 l1_2 t115 t116 t117 t122 t123 t124 t128 t129 t130 t134 t135 t136 = some r) ∧ Aside0 (kq ≤ k) ∧ Aside0 (Kd.R (Kd.int .i64) 2 wc w.heap.size (fun k_ => some k_ ≠ ((.slice Ao53 t124.length co53) : Value).ownBlock ∧ some k_ ≠ ((.slice Ao63 t130.length co63) : Value).ownBlock ∧ some k_ ≠ ((.slice Ao73 t136.length co73) : Value).ownBlock) (.slice Ao43 t117.length co43) t117) ∧ Aside0 (Kd.R (Kd.int .i64) 2 wc w.heap.size (fun k_ => some k_ ≠ ((.slice Ao43 t117.length co43) : Value).ownBlock ∧ some k_ ≠ ((.slice Ao63 t130.length co63) : Value).ownBlock ∧ some k_ ≠ ((.slice Ao73 t136.length co73) : Value).ownBlock) (.slice Ao53 t124.length co53) t124) ∧ Aside0 (Kd.R (Kd.int .i64) 2 wc w.heap.size (fun k_ => some k_ ≠ ((.slice Ao43 t117.length co43) : Value).ownBlock ∧ some k_ ≠ ((.slice Ao53 t124.length co53) : Value).ownBlock ∧ some k_ ≠ ((.slice Ao73 t136.length co73) : Value).ownBlock) (.slice Ao63 t130.length co63) t130) ∧ Aside0 (Kd.R (Kd.int .i64) 2 wc w.heap.size (fun k_ => some k_ ≠ ((.slice Ao43 t117.length co43) : Value).ownBlock ∧ some k_ ≠ ((.slice Ao53 t124.length co53) : Value).ownBlock ∧ some k_ ≠ ((.slice Ao63 t130.length co63) : Value).ownBlock) (.slice Ao73 t136.length co73) t136) ∧ Aside0 (wc.heap[gb101]? = some (.cells #[.int .i64 a0_0, .int .i64 a0_1, (.slice A0_2 l0_2.length c0_2)] 30 (0, 0))) ∧ Aside0 (wc.heap[gb102]? = some (.cells #[.int .i64 a1_0, .int .i64 a1_1, (.slice A1_2 l1_2.length c1_2)] 30 (0, 0))) ∧ Aside0 (wc.heap[gb121]? = some (.cells #[.int .i64 t115, .int .i64 t116, (.slice Ao43 t117.length co43)] 33 (0, 0))) ∧ Aside0 (wc.heap[gb127]? = some (.cells #[.int .i64 t122, .int .i64 t123, (.slice Ao53 t124.length co53)] 33 (0, 0))) ∧ Aside0 (wc.heap[gb133]? = some (.cells #[.int .i64 t128, .int .i64 t129, (.slice Ao63 t130.length co63)] 33 (0, 0))) ∧ Aside0 (wc.heap[gb140]? = some (.cells #[.int .i64 t134, .int .i64 t135, (.slice Ao73 t136.length co73)] 33 (0, 0))) ∧ Aside0 (Below w.heap.size w wc))
   case first =>
    have H := HC25.out
    clear HC25
    replace H := Option.bind_eq_some_iff.mp H
    obtain ⟨t141, A740, H⟩ := H
    replace H : (if t141 = true then (laws_FnExactAddRanks.j0 k t120 t139 (t139 != t120) a0_0 a0_1 l0_2 a1_0 a1_1 l1_2 t115 t116 t117 t122 t123 t124 t128 t129 t130 t134 t135 t136) else (none)) = some r := H
    have A74 := Aside0.mk A740
    clear A740
    by_cases c75 : t141 = true
    ·subst c75
     have H1 : (laws_FnExactAddRanks.j0 k t120 t139 (t139 != t120) a0_0 a0_1 l0_2 a1_0 a1_1 l1_2 t115 t116 t117 t122 t123 t124 t128 t129 t130 t134 t135 t136) = some r := by rw [if_pos rfl] at H; exact H
     clear H
     have H := H1
     clear H1
     have H' := Aside0.mk H
     clear H
     have hnb76 := NB140_101.out
     have hnc76 := NB101_140.out
     have hnb77 := NB140_102.out
     have hnc77 := NB102_140.out
     have hnb78 := NB140_121.out
     have hnc78 := NB121_140.out
     have hnb79 := NB140_127.out
     have hnc79 := NB127_140.out
     have hnb80 := NB140_133.out
     have hnc80 := NB133_140.out
     have hcz81_0 : w66.cell? ⟨gb140, 0, none⟩ = some (.int .i64 0) := (blk_cell BK140.out 0).trans rfl
     have hcz81_1 : w66.cell? ⟨gb140, 1, none⟩ = some (.int .i64 0) := (blk_cell BK140.out 1).trans rfl
     have hcz81_2 : w66.cell? ⟨gb140, 2, none⟩ = some (.slice none 0 0) := (blk_cell BK140.out 2).trans rfl
     have hfz81_0 := blk_frozen BK140.out 0
     have hfz81_1 := blk_frozen BK140.out 1
     have hfz81_2 := blk_frozen BK140.out 2
     have hnb82 := NB121_101.out
     have hnc82 := NB101_121.out
     have hnb83 := NB121_102.out
     have hnc83 := NB102_121.out
     have hnb84 := NB121_127.out
     have hnc84 := NB127_121.out
     have hnb85 := NB121_133.out
     have hnc85 := NB133_121.out
     have hcz86_0 : w66.cell? ⟨gb121, 0, none⟩ = some (.int .i64 t115) := (blk_cell BK121.out 0).trans rfl
     have hcz86_1 : w66.cell? ⟨gb121, 1, none⟩ = some (.int .i64 t116) := (blk_cell BK121.out 1).trans rfl
     have hcz86_2 : w66.cell? ⟨gb121, 2, none⟩ = some (.slice Ao43 t117.length co43) := (blk_cell BK121.out 2).trans rfl
     have hfz86_0 := blk_frozen BK121.out 0
     have hfz86_1 := blk_frozen BK121.out 1
     have hfz86_2 := blk_frozen BK121.out 2
     go_wp2_with (first | ((with_reducible refine gate_callee (f := 16) rfl ?_); refine goesL_ (some 47) rfl rfl Try.func16 (by kernel_rfl) rfl #[.agg #[.int .i64 t134, .int .i64 t135, .slice Ao73 t136.length co73], .agg #[.int .i64 t115, .int .i64 t116, .slice Ao43 t117.length co43]] rfl am_ ?_; (with_reducible refine (laws_eqRanks.calls k t134 t135 _ _ t136 t115 t116 _ _ t117 true _ ?side1 ?side2 ?side3 ?side4 A74.out).mono ?_); (case side1 => refine (Kd.R_reads' (e := 2) (base := w.heap.size) (ok := fun k_ => (((((True ∧ some k_ ≠ (v108 : Value).ownBlock) ∧ some k_ ≠ (v113 : Value).ownBlock) ∧ some k_ ≠ (.slice Ao43 t117.length co43 : Value).ownBlock) ∧ some k_ ≠ (.slice Ao53 t124.length co53 : Value).ownBlock) ∧ some k_ ≠ (.slice Ao63 t130.length co63 : Value).ownBlock)) (n := t136.length) (c := co73) ?_).2.2; exact (by (with_reducible repeat (first | apply Kd.R_alloc | apply Kd.R_drewN | apply Kd.R_drew)); exact (Kd.R_mono (Kd.R_far (p := ⟨gb140, 2, none⟩) (Kd.R_far (p := ⟨gb140, 1, none⟩) (Kd.R_far (p := ⟨gb140, 0, none⟩) (Kd.R_types HO138.out BK140.out (by decide)) (fun _ hk => hk.2) (.int .i64 t134)) (fun _ hk => hk.2) (.int .i64 t135)) (fun _ hk => hk.2) (.slice Ao73 t136.length co73)) (fun _ h_ => h_.1)))); (case side2 => exact (Kd.R_reads' HO138.out).2.1); (case side3 => refine (Kd.R_reads' (e := 2) (base := w.heap.size) (ok := fun k_ => ((((some k_ ≠ (v108 : Value).ownBlock ∧ some k_ ≠ (v113 : Value).ownBlock) ∧ some k_ ≠ (.slice Ao53 t124.length co53 : Value).ownBlock) ∧ some k_ ≠ (.slice Ao63 t130.length co63 : Value).ownBlock) ∧ some k_ ≠ (.slice Ao73 t136.length co73 : Value).ownBlock)) (n := t117.length) (c := co43) ?_).2.2; exact (by (with_reducible repeat (first | apply Kd.R_alloc | apply Kd.R_drewN | apply Kd.R_drew)); exact (Kd.R_mono (Kd.R_far (p := ⟨gb140, 2, none⟩) (Kd.R_far (p := ⟨gb140, 1, none⟩) (Kd.R_far (p := ⟨gb140, 0, none⟩) (Kd.R_types HO119.out BK140.out (by decide)) (fun _ hk => hk.2) (.int .i64 t134)) (fun _ hk => hk.2) (.int .i64 t135)) (fun _ hk => hk.2) (.slice Ao73 t136.length co73)) (fun _ h_ => h_.1)))); (case side4 => exact (Kd.R_reads' HO119.out).2.1); rintro e w87 ⟨rfl, hb⟩; refine ⟨_, rfl, ?_⟩; have n0_ := Aside0.mk (Kd.R_below (by (with_reducible repeat (first | apply Kd.R_alloc | apply Kd.R_drewN | apply Kd.R_drew)); exact (Kd.R_mono (Kd.R_far (p := ⟨gb140, 2, none⟩) (Kd.R_far (p := ⟨gb140, 1, none⟩) (Kd.R_far (p := ⟨gb140, 0, none⟩) (Kd.R_types HO109.out BK140.out (by decide)) (fun _ hk => hk.2) (.int .i64 t134)) (fun _ hk => hk.2) (.int .i64 t135)) (fun _ hk => hk.2) (.slice Ao73 t136.length co73)) (fun _ h_ => h_.1))) hb); have n1_ := Aside0.mk (Kd.R_below (by (with_reducible repeat (first | apply Kd.R_alloc | apply Kd.R_drewN | apply Kd.R_drew)); exact (Kd.R_mono (Kd.R_far (p := ⟨gb140, 2, none⟩) (Kd.R_far (p := ⟨gb140, 1, none⟩) (Kd.R_far (p := ⟨gb140, 0, none⟩) (Kd.R_types HO114.out BK140.out (by decide)) (fun _ hk => hk.2) (.int .i64 t134)) (fun _ hk => hk.2) (.int .i64 t135)) (fun _ hk => hk.2) (.slice Ao73 t136.length co73)) (fun _ h_ => h_.1))) hb); have n2_ := Aside0.mk (Kd.R_below (by (with_reducible repeat (first | apply Kd.R_alloc | apply Kd.R_drewN | apply Kd.R_drew)); exact (Kd.R_mono (Kd.R_far (p := ⟨gb140, 2, none⟩) (Kd.R_far (p := ⟨gb140, 1, none⟩) (Kd.R_far (p := ⟨gb140, 0, none⟩) (Kd.R_types HO119.out BK140.out (by decide)) (fun _ hk => hk.2) (.int .i64 t134)) (fun _ hk => hk.2) (.int .i64 t135)) (fun _ hk => hk.2) (.slice Ao73 t136.length co73)) (fun _ h_ => h_.1))) hb); have n3_ := Aside0.mk (Kd.R_below (by (with_reducible repeat (first | apply Kd.R_alloc | apply Kd.R_drewN | apply Kd.R_drew)); exact (Kd.R_mono (Kd.R_far (p := ⟨gb140, 2, none⟩) (Kd.R_far (p := ⟨gb140, 1, none⟩) (Kd.R_far (p := ⟨gb140, 0, none⟩) (Kd.R_types HO126.out BK140.out (by decide)) (fun _ hk => hk.2) (.int .i64 t134)) (fun _ hk => hk.2) (.int .i64 t135)) (fun _ hk => hk.2) (.slice Ao73 t136.length co73)) (fun _ h_ => h_.1))) hb); have n4_ := Aside0.mk (Kd.R_below (by (with_reducible repeat (first | apply Kd.R_alloc | apply Kd.R_drewN | apply Kd.R_drew)); exact (Kd.R_mono (Kd.R_far (p := ⟨gb140, 2, none⟩) (Kd.R_far (p := ⟨gb140, 1, none⟩) (Kd.R_far (p := ⟨gb140, 0, none⟩) (Kd.R_types HO132.out BK140.out (by decide)) (fun _ hk => hk.2) (.int .i64 t134)) (fun _ hk => hk.2) (.int .i64 t135)) (fun _ hk => hk.2) (.slice Ao73 t136.length co73)) (fun _ h_ => h_.1))) hb); have n5_ := Aside0.mk (Kd.R_below (by (with_reducible repeat (first | apply Kd.R_alloc | apply Kd.R_drewN | apply Kd.R_drew)); exact (Kd.R_mono (Kd.R_far (p := ⟨gb140, 2, none⟩) (Kd.R_far (p := ⟨gb140, 1, none⟩) (Kd.R_far (p := ⟨gb140, 0, none⟩) (Kd.R_types HO138.out BK140.out (by decide)) (fun _ hk => hk.2) (.int .i64 t134)) (fun _ hk => hk.2) (.int .i64 t135)) (fun _ hk => hk.2) (.slice Ao73 t136.length co73)) (fun _ h_ => h_.1))) hb); have n6_ := Aside0.mk (blk_below (g := gb101) (o := .cells #[.int .i64 a0_0, .int .i64 a0_1, .slice A0_2 l0_2.length c0_2] 30 (0, 0)) (by (with_reducible repeat (first | refine blk_drewN ?_ _ | refine blk_drew ?_ | refine blk_alloc ?_ _)); refine blk_far ?_ NB101_140.out _; (with_reducible repeat (first | refine blk_drewN ?_ _ | refine blk_drew ?_ | refine blk_alloc ?_ _)); refine blk_far ?_ NB101_140.out _; (with_reducible repeat (first | refine blk_drewN ?_ _ | refine blk_drew ?_ | refine blk_alloc ?_ _)); refine blk_far ?_ NB101_140.out _; (with_reducible repeat (first | refine blk_drewN ?_ _ | refine blk_drew ?_ | refine blk_alloc ?_ _)); exact BK101.out) hb); have n7_ := Aside0.mk (blk_below (g := gb102) (o := .cells #[.int .i64 a1_0, .int .i64 a1_1, .slice A1_2 l1_2.length c1_2] 30 (0, 0)) (by (with_reducible repeat (first | refine blk_drewN ?_ _ | refine blk_drew ?_ | refine blk_alloc ?_ _)); refine blk_far ?_ NB102_140.out _; (with_reducible repeat (first | refine blk_drewN ?_ _ | refine blk_drew ?_ | refine blk_alloc ?_ _)); refine blk_far ?_ NB102_140.out _; (with_reducible repeat (first | refine blk_drewN ?_ _ | refine blk_drew ?_ | refine blk_alloc ?_ _)); refine blk_far ?_ NB102_140.out _; (with_reducible repeat (first | refine blk_drewN ?_ _ | refine blk_drew ?_ | refine blk_alloc ?_ _)); exact BK102.out) hb); have n8_ := Aside0.mk (blk_below (g := gb121) (o := .cells #[.int .i64 t115, .int .i64 t116, .slice Ao43 t117.length co43] 33 (0, 0)) (by (with_reducible repeat (first | refine blk_drewN ?_ _ | refine blk_drew ?_ | refine blk_alloc ?_ _)); refine blk_far ?_ NB121_140.out _; (with_reducible repeat (first | refine blk_drewN ?_ _ | refine blk_drew ?_ | refine blk_alloc ?_ _)); refine blk_far ?_ NB121_140.out _; (with_reducible repeat (first | refine blk_drewN ?_ _ | refine blk_drew ?_ | refine blk_alloc ?_ _)); refine blk_far ?_ NB121_140.out _; (with_reducible repeat (first | refine blk_drewN ?_ _ | refine blk_drew ?_ | refine blk_alloc ?_ _)); exact BK121.out) hb); have n9_ := Aside0.mk (blk_below (g := gb127) (o := .cells #[.int .i64 t122, .int .i64 t123, .slice Ao53 t124.length co53] 33 (0, 0)) (by (with_reducible repeat (first | refine blk_drewN ?_ _ | refine blk_drew ?_ | refine blk_alloc ?_ _)); refine blk_far ?_ NB127_140.out _; (with_reducible repeat (first | refine blk_drewN ?_ _ | refine blk_drew ?_ | refine blk_alloc ?_ _)); refine blk_far ?_ NB127_140.out _; (with_reducible repeat (first | refine blk_drewN ?_ _ | refine blk_drew ?_ | refine blk_alloc ?_ _)); refine blk_far ?_ NB127_140.out _; (with_reducible repeat (first | refine blk_drewN ?_ _ | refine blk_drew ?_ | refine blk_alloc ?_ _)); exact BK127.out) hb); have n10_ := Aside0.mk (blk_below (g := gb133) (o := .cells #[.int .i64 t128, .int .i64 t129, .slice Ao63 t130.length co63] 33 (0, 0)) (by (with_reducible repeat (first | refine blk_drewN ?_ _ | refine blk_drew ?_ | refine blk_alloc ?_ _)); refine blk_far ?_ NB133_140.out _; (with_reducible repeat (first | refine blk_drewN ?_ _ | refine blk_drew ?_ | refine blk_alloc ?_ _)); refine blk_far ?_ NB133_140.out _; (with_reducible repeat (first | refine blk_drewN ?_ _ | refine blk_drew ?_ | refine blk_alloc ?_ _)); refine blk_far ?_ NB133_140.out _; (with_reducible repeat (first | refine blk_drewN ?_ _ | refine blk_drew ?_ | refine blk_alloc ?_ _)); exact BK133.out) hb); have n11_ := Aside0.mk (blk_below (g := gb140) (o := .cells #[.int .i64 t134, .int .i64 t135, .slice Ao73 t136.length co73] 33 (0, 0)) (by (with_reducible repeat (first | refine blk_drewN ?_ _ | refine blk_drew ?_ | refine blk_alloc ?_ _)); refine blk_put (cs := #[.int .i64 t134, .int .i64 t135, .slice none 0 0]) ?_ 2 _ rfl; (with_reducible repeat (first | refine blk_drewN ?_ _ | refine blk_drew ?_ | refine blk_alloc ?_ _)); refine blk_put (cs := #[.int .i64 t134, .int .i64 0, .slice none 0 0]) ?_ 1 _ rfl; (with_reducible repeat (first | refine blk_drewN ?_ _ | refine blk_drew ?_ | refine blk_alloc ?_ _)); refine blk_put (cs := #[.int .i64 0, .int .i64 0, .slice none 0 0]) ?_ 0 _ rfl; (with_reducible repeat (first | refine blk_drewN ?_ _ | refine blk_drew ?_ | refine blk_alloc ?_ _)); exact BK140.out) hb); have n12_ := Aside0.mk (below_step (bw_ HB.out) hb); clear HO109 HO114 HO119 HO126 HO132 HO138 BK101 BK102 BK121 BK127 BK133 BK140 HB; have HO109 := n0_; have HO114 := n1_; have HO119 := n2_; have HO126 := n3_; have HO132 := n4_; have HO138 := n5_; have BK101 := n6_; have BK102 := n7_; have BK121 := n8_; have BK127 := n9_; have BK133 := n10_; have BK140 := n11_; have HB := n12_; clear n0_ n1_ n2_ n3_ n4_ n5_ n6_ n7_ n8_ n9_ n10_ n11_ n12_; (try clear hb); (try clear hb2); (try clear hk); (try clear hi)))
     go_meet
     case rel => exact ⟨_, ((t139 != t120)), (by first | rfl | (simp; done) | (simp [*]; done)), H', ⟨by first | omega | exact Nat.le_refl _⟩, ⟨by (with_reducible repeat (first | apply Kd.R_alloc | apply Kd.R_drewN | apply Kd.R_drew)); exact Kd.R_mono HO119.out (fun _ hk => ⟨hk.1.1.2, ⟨hk.1.2, hk.2⟩⟩)⟩, ⟨by (with_reducible repeat (first | apply Kd.R_alloc | apply Kd.R_drewN | apply Kd.R_drew)); exact Kd.R_mono HO126.out (fun _ hk => ⟨hk.1.1.2, ⟨hk.1.2, hk.2⟩⟩)⟩, ⟨by (with_reducible repeat (first | apply Kd.R_alloc | apply Kd.R_drewN | apply Kd.R_drew)); exact Kd.R_mono HO132.out (fun _ hk => ⟨hk.1.1.2, ⟨hk.1.2, hk.2⟩⟩)⟩, ⟨by (with_reducible repeat (first | apply Kd.R_alloc | apply Kd.R_drewN | apply Kd.R_drew)); exact Kd.R_mono HO138.out (fun _ hk => ⟨hk.1.1.2, ⟨hk.1.2, hk.2⟩⟩)⟩, ⟨by (with_reducible repeat (first | refine blk_drewN ?_ _ | refine blk_drew ?_ | refine blk_alloc ?_ _)); exact BK101.out⟩, ⟨by (with_reducible repeat (first | refine blk_drewN ?_ _ | refine blk_drew ?_ | refine blk_alloc ?_ _)); exact BK102.out⟩, ⟨by (with_reducible repeat (first | refine blk_drewN ?_ _ | refine blk_drew ?_ | refine blk_alloc ?_ _)); exact BK121.out⟩, ⟨by (with_reducible repeat (first | refine blk_drewN ?_ _ | refine blk_drew ?_ | refine blk_alloc ?_ _)); exact BK127.out⟩, ⟨by (with_reducible repeat (first | refine blk_drewN ?_ _ | refine blk_drew ?_ | refine blk_alloc ?_ _)); exact BK133.out⟩, ⟨by (with_reducible repeat (first | refine blk_drewN ?_ _ | refine blk_drew ?_ | refine blk_alloc ?_ _)); exact BK140.out⟩, ⟨by repeat (first | (with_reducible first | exact HB.out | apply below_alloc | apply pw_below_drewN | apply below_drew1 | refine below_set ?_ GE101.out | refine below_set ?_ GE102.out | refine below_set ?_ GE121.out | refine below_set ?_ GE127.out | refine below_set ?_ GE133.out | refine below_set ?_ GE140.out) | exact HB.out)⟩⟩
    ·replace c75 := Bool.eq_false_iff.mpr c75
     subst c75
     have H1 : (none) = some r := by rw [if_neg (show ¬ (false = true) by decide)] at H; exact H
     clear H
     have H := H1
     clear H1
     exact absurd H (by simp)
   case rest =>
    clear HC25
    try clear c1
    try clear c2
    try clear p2
    try clear c4
    try clear c5
    try clear c6
    try clear c7
    try clear c8
    try clear c14
    try clear c16
    try clear c27
    try clear c28
    try clear c45
    try clear c49
    try clear c50
    try clear c51
    try clear c54
    try clear c58
    try clear c59
    try clear c60
    try clear c61
    try clear c67
    try clear c68
    try clear c69
    try clear c70
    try clear c71
    try clear c75
    try clear c76
    try clear c77
    try clear c78
    try clear c79
    try clear c80
    try clear c82
    try clear c83
    try clear c84
    try clear c85
    try clear hcz46_0
    try clear hcz46_1
    try clear hcz46_2
    try clear hcz52_0
    try clear hcz52_1
    try clear hcz52_2
    try clear hcz55_0
    try clear hcz55_1
    try clear hcz55_2
    try clear hcz62_0
    try clear hcz62_1
    try clear hcz62_2
    try clear hcz64_0
    try clear hcz64_1
    try clear hcz64_2
    try clear hcz72_0
    try clear hcz72_1
    try clear hcz72_2
    try clear hcz81_0
    try clear hcz81_1
    try clear hcz81_2
    try clear hcz86_0
    try clear hcz86_1
    try clear hcz86_2
    try clear hfz46_0
    try clear hfz46_1
    try clear hfz46_2
    try clear hfz52_0
    try clear hfz52_1
    try clear hfz52_2
    try clear hfz55_0
    try clear hfz55_1
    try clear hfz55_2
    try clear hfz62_0
    try clear hfz62_1
    try clear hfz62_2
    try clear hfz64_0
    try clear hfz64_1
    try clear hfz64_2
    try clear hfz72_0
    try clear hfz72_1
    try clear hfz72_2
    try clear hfz81_0
    try clear hfz81_1
    try clear hfz81_2
    try clear hfz86_0
    try clear hfz86_1
    try clear hfz86_2
    obtain ⟨kq, x53_24, rfl, HA, HJ24, HO_122002, HO_128002, HO_134002, HO_141002, BK101, BK102, BK121, BK127, BK133, BK140, HB⟩ := hcut
    cases kq with
    | zero => exact absurd HA.out (by simp [laws_FnExactAddRanks.j0])
    | succ kj24 =>
     have H := HA.out
     clear HA
     simp only [laws_FnExactAddRanks.j0] at H
     by_cases c88 : x53_24 = true
     ·subst c88
      have H1 : (none) = some r := by rw [if_pos rfl] at H; exact H
      clear H
      have H := H1
      clear H1
      exact absurd H (by simp)
     ·replace c88 := Bool.eq_false_iff.mpr c88
      subst c88
      have H1 : ((laws_toRanks.f kj24 a0_0 a0_1 l0_2).bind fun bt142 => ((laws_eqRanks.f kj24 t122 t123 t124 bt142.1 bt142.2.1 bt142.2.2).bind fun t147 => (if t147 = true then ((laws_toRanks.f kj24 a1_0 a1_1 l1_2).bind fun bt148 => ((laws_eqRanks.f kj24 t128 t129 t130 bt148.1 bt148.2.1 bt148.2.2).bind fun t153 => (if t153 = true then ((laws_markRanks.f kj24 t122 t123 t124 1).bind fun bt154 => ((laws_markRanks.f kj24 t128 t129 t130 bt154.1).bind fun bt156 => (if bt156.1 < 0 then (none) else ((laws_eqRanks.f kj24 t134 t135 t136 t115 t116 t117).bind fun t158 => (if t158 = true then (laws_FnExactAddRanks.j1 kj24 t120 (t139 != t120) a0_0 a0_1 l0_2 a1_0 a1_1 l1_2 t115 t116 t117 t134 t135 t136) else (none)))))) else (none)))) else (none)))) = some r := by rw [if_neg (show ¬ (false = true) by decide)] at H; exact H
      clear H
      have H := H1
      clear H1
      replace H := Option.bind_eq_some_iff.mp H
      obtain ⟨⟨t142, t143, t144⟩, A890, H⟩ := H
      replace H : ((laws_eqRanks.f kj24 t122 t123 t124 t142 t143 t144).bind fun t147 => (if t147 = true then ((laws_toRanks.f kj24 a1_0 a1_1 l1_2).bind fun bt148 => ((laws_eqRanks.f kj24 t128 t129 t130 bt148.1 bt148.2.1 bt148.2.2).bind fun t153 => (if t153 = true then ((laws_markRanks.f kj24 t122 t123 t124 1).bind fun bt154 => ((laws_markRanks.f kj24 t128 t129 t130 bt154.1).bind fun bt156 => (if bt156.1 < 0 then (none) else ((laws_eqRanks.f kj24 t134 t135 t136 t115 t116 t117).bind fun t158 => (if t158 = true then (laws_FnExactAddRanks.j1 kj24 t120 (t139 != t120) a0_0 a0_1 l0_2 a1_0 a1_1 l1_2 t115 t116 t117 t134 t135 t136) else (none)))))) else (none)))) else (none))) = some r := H
      have A89 := Aside0.mk A890
      clear A890
      replace H := Option.bind_eq_some_iff.mp H
      obtain ⟨t147, A900, H⟩ := H
      replace H : (if t147 = true then ((laws_toRanks.f kj24 a1_0 a1_1 l1_2).bind fun bt148 => ((laws_eqRanks.f kj24 t128 t129 t130 bt148.1 bt148.2.1 bt148.2.2).bind fun t153 => (if t153 = true then ((laws_markRanks.f kj24 t122 t123 t124 1).bind fun bt154 => ((laws_markRanks.f kj24 t128 t129 t130 bt154.1).bind fun bt156 => (if bt156.1 < 0 then (none) else ((laws_eqRanks.f kj24 t134 t135 t136 t115 t116 t117).bind fun t158 => (if t158 = true then (laws_FnExactAddRanks.j1 kj24 t120 (t139 != t120) a0_0 a0_1 l0_2 a1_0 a1_1 l1_2 t115 t116 t117 t134 t135 t136) else (none)))))) else (none)))) else (none)) = some r := H
      have A90 := Aside0.mk A900
      clear A900
      by_cases c91 : t147 = true
      ·subst c91
       have H1 : ((laws_toRanks.f kj24 a1_0 a1_1 l1_2).bind fun bt148 => ((laws_eqRanks.f kj24 t128 t129 t130 bt148.1 bt148.2.1 bt148.2.2).bind fun t153 => (if t153 = true then ((laws_markRanks.f kj24 t122 t123 t124 1).bind fun bt154 => ((laws_markRanks.f kj24 t128 t129 t130 bt154.1).bind fun bt156 => (if bt156.1 < 0 then (none) else ((laws_eqRanks.f kj24 t134 t135 t136 t115 t116 t117).bind fun t158 => (if t158 = true then (laws_FnExactAddRanks.j1 kj24 t120 (t139 != t120) a0_0 a0_1 l0_2 a1_0 a1_1 l1_2 t115 t116 t117 t134 t135 t136) else (none)))))) else (none)))) = some r := by rw [if_pos rfl] at H; exact H
       clear H
       have H := H1
       clear H1
       replace H := Option.bind_eq_some_iff.mp H
       obtain ⟨⟨t148, t149, t150⟩, A920, H⟩ := H
       replace H : ((laws_eqRanks.f kj24 t128 t129 t130 t148 t149 t150).bind fun t153 => (if t153 = true then ((laws_markRanks.f kj24 t122 t123 t124 1).bind fun bt154 => ((laws_markRanks.f kj24 t128 t129 t130 bt154.1).bind fun bt156 => (if bt156.1 < 0 then (none) else ((laws_eqRanks.f kj24 t134 t135 t136 t115 t116 t117).bind fun t158 => (if t158 = true then (laws_FnExactAddRanks.j1 kj24 t120 (t139 != t120) a0_0 a0_1 l0_2 a1_0 a1_1 l1_2 t115 t116 t117 t134 t135 t136) else (none)))))) else (none))) = some r := H
       have A92 := Aside0.mk A920
       clear A920
       replace H := Option.bind_eq_some_iff.mp H
       obtain ⟨t153, A930, H⟩ := H
       replace H : (if t153 = true then ((laws_markRanks.f kj24 t122 t123 t124 1).bind fun bt154 => ((laws_markRanks.f kj24 t128 t129 t130 bt154.1).bind fun bt156 => (if bt156.1 < 0 then (none) else ((laws_eqRanks.f kj24 t134 t135 t136 t115 t116 t117).bind fun t158 => (if t158 = true then (laws_FnExactAddRanks.j1 kj24 t120 (t139 != t120) a0_0 a0_1 l0_2 a1_0 a1_1 l1_2 t115 t116 t117 t134 t135 t136) else (none)))))) else (none)) = some r := H
       have A93 := Aside0.mk A930
       clear A930
       by_cases c94 : t153 = true
       ·subst c94
        have H1 : ((laws_markRanks.f kj24 t122 t123 t124 1).bind fun bt154 => ((laws_markRanks.f kj24 t128 t129 t130 bt154.1).bind fun bt156 => (if bt156.1 < 0 then (none) else ((laws_eqRanks.f kj24 t134 t135 t136 t115 t116 t117).bind fun t158 => (if t158 = true then (laws_FnExactAddRanks.j1 kj24 t120 (t139 != t120) a0_0 a0_1 l0_2 a1_0 a1_1 l1_2 t115 t116 t117 t134 t135 t136) else (none)))))) = some r := by rw [if_pos rfl] at H; exact H
        clear H
        have H := H1
        clear H1
        replace H := Option.bind_eq_some_iff.mp H
        obtain ⟨⟨t154, t155⟩, A950, H⟩ := H
        replace H : ((laws_markRanks.f kj24 t128 t129 t130 t154).bind fun bt156 => (if bt156.1 < 0 then (none) else ((laws_eqRanks.f kj24 t134 t135 t136 t115 t116 t117).bind fun t158 => (if t158 = true then (laws_FnExactAddRanks.j1 kj24 t120 (t139 != t120) a0_0 a0_1 l0_2 a1_0 a1_1 l1_2 t115 t116 t117 t134 t135 t136) else (none))))) = some r := H
        have A95 := Aside0.mk A950
        clear A950
        replace H := Option.bind_eq_some_iff.mp H
        obtain ⟨⟨t156, t157⟩, A960, H⟩ := H
        replace H : (if t156 < 0 then (none) else ((laws_eqRanks.f kj24 t134 t135 t136 t115 t116 t117).bind fun t158 => (if t158 = true then (laws_FnExactAddRanks.j1 kj24 t120 (t139 != t120) a0_0 a0_1 l0_2 a1_0 a1_1 l1_2 t115 t116 t117 t134 t135 t136) else (none)))) = some r := H
        have A96 := Aside0.mk A960
        clear A960
        have HC97 := Aside0.mk H
        clear H
        try go_wp2
        have n0_ := Aside0.mk (Kd.R_drew HO_122002.out)
        have n1_ := Aside0.mk (Kd.R_drew HO_128002.out)
        have n2_ := Aside0.mk (Kd.R_drew HO_134002.out)
        have n3_ := Aside0.mk (Kd.R_drew HO_141002.out)
        have n4_ := Aside0.mk (blk_drew BK101.out)
        have n5_ := Aside0.mk (blk_drew BK102.out)
        have n6_ := Aside0.mk (blk_drew BK121.out)
        have n7_ := Aside0.mk (blk_drew BK127.out)
        have n8_ := Aside0.mk (blk_drew BK133.out)
        have n9_ := Aside0.mk (blk_drew BK140.out)
        have n10_ := Aside0.mk (below_drew1 HB.out)
        clear HO_122002
        clear HO_128002
        clear HO_134002
        clear HO_141002
        clear BK101
        clear BK102
        clear BK121
        clear BK127
        clear BK133
        clear BK140
        clear HB
        have HO_122002 := n0_
        have HO_128002 := n1_
        have HO_134002 := n2_
        have HO_141002 := n3_
        have BK101 := n4_
        have BK102 := n5_
        have BK121 := n6_
        have BK127 := n7_
        have BK133 := n8_
        have BK140 := n9_
        have HB := n10_
        clear n0_ n1_ n2_ n3_ n4_ n5_ n6_ n7_ n8_ n9_ n10_
        refine start_ (n := 5) (S := fun w' => w'.cell? ⟨gb127, 0, none⟩ = some (.int .i64 t122) ∧ w'.cell? ⟨gb127, 1, none⟩ = some (.int .i64 t123) ∧ w'.cell? ⟨gb127, 2, none⟩ = some (.slice Ao53 t124.length co53) ∧ w'.cell? ⟨gb101, 0, none⟩ = some (.int .i64 a0_0) ∧ w'.cell? ⟨gb101, 1, none⟩ = some (.int .i64 a0_1) ∧ w'.cell? ⟨gb101, 2, none⟩ = some (.slice A0_2 l0_2.length c0_2)) (ds := []) (fl 5 0) (by kernel_rfl) rfl rfl ⟨(blk_cell BK127.out 0).trans rfl, (blk_cell BK127.out 1).trans rfl, (blk_cell BK127.out 2).trans rfl, (blk_cell BK101.out 0).trans rfl, (blk_cell BK101.out 1).trans rfl, (blk_cell BK101.out 2).trans rfl⟩ (fun hHeld => ?_)
        generalize wc.drew = w98 at HO_122002 HO_128002 HO_134002 HO_141002 BK101 BK102 BK121 BK127 BK133 BK140 HB hHeld ⊢
        refine take_ (i := 0) (N := some 54) (v := ?_) (a' := ?_) (fl 5 1) rfl rfl (by kernel_rfl) (fun _ _ _ h => h) (Or.inl ⟨by rfl, ?_⟩) hHeld ?_ ?_
        rotate_left
        ·rintro w' ⟨s0, s1, s2, s3, s4, s5⟩
         go_simp
         with_reducible rfl
        rotate_left
        ·simp only [Act.put, List.setIfInBounds_toArray, List.set_cons_zero, List.set_cons_succ, i64_w, i32_w]
         rfl
        refine take_ (i := 1) (N := some 55) (v := ?_) (a' := ?_) (fl 5 3) rfl rfl (by kernel_rfl) (fun _ _ _ h => h) (Or.inl ⟨by rfl, ?_⟩) hHeld ?_ ?_
        rotate_left
        ·rintro w' ⟨s0, s1, s2, s3, s4, s5⟩
         go_simp
         with_reducible rfl
        rotate_left
        ·simp only [Act.put, List.setIfInBounds_toArray, List.set_cons_zero, List.set_cons_succ, i64_w, i32_w]
         rfl
        refine one_ (i := 2) (N := some 56) (fl 5 7) rfl rfl (by kernel_rfl) (by decide) (fun K hK => ?_)
        refine goes_ Try.func14 (by kernel_rfl) rfl #[.agg #[.int .i64 a0_0, .int .i64 a0_1, .slice A0_2 l0_2.length c0_2]] (by rfl) rfl rfl am_ ?_
        with_reducible refine (laws_toRanks.calls kj24 a0_0 a0_1 _ _ l0_2 t142 t143 t144 _ ?side1 ?side2 A89.out).mono ?_
        (case side1 => repeat (first | exact (Kd.C_below HR0_2.out HB.out) | (with_reducible refine Kd.C_alloc ?_ _) | (with_reducible refine Kd.C_drewN ?_ _) | (with_reducible refine Kd.C_drew ?_)))
        (case side2 => exact HC0_2.out)
        rintro e w99 ⟨v145, rfl, ho0, hb⟩
        refine ⟨_, rfl, ?_⟩
        have n0_ := Aside0.mk (Kd.R_elder' (rz_ HO_122002.out) (Kd.R_base ho0) hb)
        have n1_ := Aside0.mk (Kd.R_elder' (rz_ HO_128002.out) (Kd.R_base ho0) hb)
        have n2_ := Aside0.mk (Kd.R_elder' (rz_ HO_134002.out) (Kd.R_base ho0) hb)
        have n3_ := Aside0.mk (Kd.R_elder' (rz_ HO_141002.out) (Kd.R_base ho0) hb)
        have n4_ := Aside0.mk (Kd.R_lower (Kd.R_new' (Kd.R_new' (Kd.R_new' (Kd.R_new' ho0 (Kd.R_lt (rz_ HO_122002.out))) (Kd.R_lt (rz_ HO_128002.out))) (Kd.R_lt (rz_ HO_134002.out))) (Kd.R_lt (rz_ HO_141002.out))) (below_size (bw_ HB.out)))
        have n5_ := Aside0.mk (blk_below (bz_ BK101.out) hb)
        have n6_ := Aside0.mk (blk_below (bz_ BK102.out) hb)
        have n7_ := Aside0.mk (blk_below (bz_ BK121.out) hb)
        have n8_ := Aside0.mk (blk_below (bz_ BK127.out) hb)
        have n9_ := Aside0.mk (blk_below (bz_ BK133.out) hb)
        have n10_ := Aside0.mk (blk_below (bz_ BK140.out) hb)
        have n11_ := Aside0.mk (below_step (bw_ HB.out) hb)
        clear HO_122002
        clear HO_128002
        clear HO_134002
        clear HO_141002
        clear BK101
        clear BK102
        clear BK121
        clear BK127
        clear BK133
        clear BK140
        clear HB
        have HO_122002 := n0_
        have HO_128002 := n1_
        have HO_134002 := n2_
        have HO_141002 := n3_
        have HO146 := n4_
        have BK101 := n5_
        have BK102 := n6_
        have BK121 := n7_
        have BK127 := n8_
        have BK133 := n9_
        have BK140 := n10_
        have HB := n11_
        clear n0_ n1_ n2_ n3_ n4_ n5_ n6_ n7_ n8_ n9_ n10_ n11_
        (try clear hb)
        (try clear hb2)
        (try clear hk)
        (try clear hi)
        (try clear ho0)
        obtain ⟨Ao100, co100, eo100⟩ := Kd.R_slice HO146.out
        (first | subst eo100 | (injection eo100 with f1_ f2_ f3_; have f4_ := f1_.symm; have f5_ := f3_.symm; clear f1_ f2_ f3_; subst f4_; subst f5_))
        refine hK.out _ _ ⟨(blk_cell BK127.out 0).trans rfl, (blk_cell BK127.out 1).trans rfl, (blk_cell BK127.out 2).trans rfl, (blk_cell BK101.out 0).trans rfl, (blk_cell BK101.out 1).trans rfl, (blk_cell BK101.out 2).trans rfl⟩ (fun hHeld => ?_)
        clear hK K
        refine norm_ (a' := ?_) ?_ ?_
        rotate_left
        ·show Act.put _ (some 56) _ = _
         simp only [Act.put, List.setIfInBounds_toArray, List.set_cons_zero, List.set_cons_succ, i64_w, i32_w]
         rfl
        refine one_ (i := 3) (N := some 57) (fl 5 15) rfl rfl (by kernel_rfl) (by decide) (fun K hK => ?_)
        refine goes_ Try.func16 (by kernel_rfl) rfl #[.agg #[.int .i64 t122, .int .i64 t123, .slice Ao53 t124.length co53], .agg #[.int .i64 t142, .int .i64 t143, .slice Ao100 t144.length co100]] (by rfl) rfl rfl am_ ?_
        with_reducible refine (laws_eqRanks.calls kj24 t122 t123 _ _ t124 t142 t143 _ _ t144 true _ ?side1 ?side2 ?side3 ?side4 A90.out).mono ?_
        (case side1 => repeat (first | exact (Kd.R_reads' HO_128002.out).2.2 | (with_reducible refine Kd.C_alloc ?_ _) | (with_reducible refine Kd.C_drewN ?_ _) | (with_reducible refine Kd.C_drew ?_)))
        (case side2 => exact (Kd.R_reads' HO_128002.out).2.1)
        (case side3 => repeat (first | exact (Kd.R_reads' HO146.out).2.2 | (with_reducible refine Kd.C_alloc ?_ _) | (with_reducible refine Kd.C_drewN ?_ _) | (with_reducible refine Kd.C_drew ?_)))
        (case side4 => exact (Kd.R_reads' HO146.out).2.1)
        rintro e w101 ⟨rfl, hb⟩
        refine ⟨_, rfl, ?_⟩
        have n0_ := Aside0.mk (Kd.R_below (rz_ HO_122002.out) hb)
        have n1_ := Aside0.mk (Kd.R_below (rz_ HO_128002.out) hb)
        have n2_ := Aside0.mk (Kd.R_below (rz_ HO_134002.out) hb)
        have n3_ := Aside0.mk (Kd.R_below (rz_ HO_141002.out) hb)
        have n4_ := Aside0.mk (Kd.R_below (rz_ HO146.out) hb)
        have n5_ := Aside0.mk (blk_below (bz_ BK101.out) hb)
        have n6_ := Aside0.mk (blk_below (bz_ BK102.out) hb)
        have n7_ := Aside0.mk (blk_below (bz_ BK121.out) hb)
        have n8_ := Aside0.mk (blk_below (bz_ BK127.out) hb)
        have n9_ := Aside0.mk (blk_below (bz_ BK133.out) hb)
        have n10_ := Aside0.mk (blk_below (bz_ BK140.out) hb)
        have n11_ := Aside0.mk (below_step (bw_ HB.out) hb)
        clear HO_122002
        clear HO_128002
        clear HO_134002
        clear HO_141002
        clear HO146
        clear BK101
        clear BK102
        clear BK121
        clear BK127
        clear BK133
        clear BK140
        clear HB
        have HO_122002 := n0_
        have HO_128002 := n1_
        have HO_134002 := n2_
        have HO_141002 := n3_
        have HO146 := n4_
        have BK101 := n5_
        have BK102 := n6_
        have BK121 := n7_
        have BK127 := n8_
        have BK133 := n9_
        have BK140 := n10_
        have HB := n11_
        clear n0_ n1_ n2_ n3_ n4_ n5_ n6_ n7_ n8_ n9_ n10_ n11_
        (try clear hb)
        (try clear hb2)
        (try clear hk)
        (try clear hi)
        refine hK.out _ _ ⟨(blk_cell BK127.out 0).trans rfl, (blk_cell BK127.out 1).trans rfl, (blk_cell BK127.out 2).trans rfl, (blk_cell BK101.out 0).trans rfl, (blk_cell BK101.out 1).trans rfl, (blk_cell BK101.out 2).trans rfl⟩ (fun hHeld => ?_)
        clear hK K
        refine norm_ (a' := ?_) ?_ ?_
        rotate_left
        ·show Act.put _ (some 57) _ = _
         simp only [Act.put, List.setIfInBounds_toArray, List.set_cons_zero, List.set_cons_succ, i64_w, i32_w]
         rfl
        refine pure_ (i := 4) (N := some 58) (v := ?_) (a' := ?_) (fl 5 31) rfl rfl (by kernel_rfl) (fun _ _ _ h => h) (Or.inl ⟨by rfl, ?_⟩) ?_ ?_
        rotate_left
        ·intro w'
         go_simp
         with_reducible rfl
        rotate_left
        ·simp only [Act.put, List.setIfInBounds_toArray, List.set_cons_zero, List.set_cons_succ, i64_w, i32_w]
         rfl
        refine done_ (by kernel_rfl) ?_
        try go_wp2
        have n0_ := Aside0.mk (Kd.R_drew HO_122002.out)
        have n1_ := Aside0.mk (Kd.R_drew HO_128002.out)
        have n2_ := Aside0.mk (Kd.R_drew HO_134002.out)
        have n3_ := Aside0.mk (Kd.R_drew HO_141002.out)
        have n4_ := Aside0.mk (Kd.R_drew HO146.out)
        have n5_ := Aside0.mk (blk_drew BK101.out)
        have n6_ := Aside0.mk (blk_drew BK102.out)
        have n7_ := Aside0.mk (blk_drew BK121.out)
        have n8_ := Aside0.mk (blk_drew BK127.out)
        have n9_ := Aside0.mk (blk_drew BK133.out)
        have n10_ := Aside0.mk (blk_drew BK140.out)
        have n11_ := Aside0.mk (below_drew1 HB.out)
        clear HO_122002
        clear HO_128002
        clear HO_134002
        clear HO_141002
        clear HO146
        clear BK101
        clear BK102
        clear BK121
        clear BK127
        clear BK133
        clear BK140
        clear HB
        have HO_122002 := n0_
        have HO_128002 := n1_
        have HO_134002 := n2_
        have HO_141002 := n3_
        have HO146 := n4_
        have BK101 := n5_
        have BK102 := n6_
        have BK121 := n7_
        have BK127 := n8_
        have BK133 := n9_
        have BK140 := n10_
        have HB := n11_
        clear n0_ n1_ n2_ n3_ n4_ n5_ n6_ n7_ n8_ n9_ n10_ n11_
        refine start_ (n := 5) (S := fun w' => w'.cell? ⟨gb133, 0, none⟩ = some (.int .i64 t128) ∧ w'.cell? ⟨gb133, 1, none⟩ = some (.int .i64 t129) ∧ w'.cell? ⟨gb133, 2, none⟩ = some (.slice Ao63 t130.length co63) ∧ w'.cell? ⟨gb102, 0, none⟩ = some (.int .i64 a1_0) ∧ w'.cell? ⟨gb102, 1, none⟩ = some (.int .i64 a1_1) ∧ w'.cell? ⟨gb102, 2, none⟩ = some (.slice A1_2 l1_2.length c1_2)) (ds := []) (fl 5 0) (by kernel_rfl) rfl rfl ⟨(blk_cell BK133.out 0).trans rfl, (blk_cell BK133.out 1).trans rfl, (blk_cell BK133.out 2).trans rfl, (blk_cell BK102.out 0).trans rfl, (blk_cell BK102.out 1).trans rfl, (blk_cell BK102.out 2).trans rfl⟩ (fun hHeld => ?_)
        generalize w101.drew = w102 at HO_122002 HO_128002 HO_134002 HO_141002 HO146 BK101 BK102 BK121 BK127 BK133 BK140 HB hHeld ⊢
        refine take_ (i := 0) (N := some 59) (v := ?_) (a' := ?_) (fl 5 1) rfl rfl (by kernel_rfl) (fun _ _ _ h => h) (Or.inl ⟨by rfl, ?_⟩) hHeld ?_ ?_
        rotate_left
        ·rintro w' ⟨s0, s1, s2, s3, s4, s5⟩
         go_simp
         with_reducible rfl
        rotate_left
        ·simp only [Act.put, List.setIfInBounds_toArray, List.set_cons_zero, List.set_cons_succ, i64_w, i32_w]
         rfl
        refine take_ (i := 1) (N := some 60) (v := ?_) (a' := ?_) (fl 5 3) rfl rfl (by kernel_rfl) (fun _ _ _ h => h) (Or.inl ⟨by rfl, ?_⟩) hHeld ?_ ?_
        rotate_left
        ·rintro w' ⟨s0, s1, s2, s3, s4, s5⟩
         go_simp
         with_reducible rfl
        rotate_left
        ·simp only [Act.put, List.setIfInBounds_toArray, List.set_cons_zero, List.set_cons_succ, i64_w, i32_w]
         rfl
        refine one_ (i := 2) (N := some 61) (fl 5 7) rfl rfl (by kernel_rfl) (by decide) (fun K hK => ?_)
        refine goes_ Try.func14 (by kernel_rfl) rfl #[.agg #[.int .i64 a1_0, .int .i64 a1_1, .slice A1_2 l1_2.length c1_2]] (by rfl) rfl rfl am_ ?_
        with_reducible refine (laws_toRanks.calls kj24 a1_0 a1_1 _ _ l1_2 t148 t149 t150 _ ?side1 ?side2 A92.out).mono ?_
        (case side1 => repeat (first | exact (Kd.C_below HR1_2.out HB.out) | (with_reducible refine Kd.C_alloc ?_ _) | (with_reducible refine Kd.C_drewN ?_ _) | (with_reducible refine Kd.C_drew ?_)))
        (case side2 => exact HC1_2.out)
        rintro e w103 ⟨v151, rfl, ho0, hb⟩
        refine ⟨_, rfl, ?_⟩
        have n0_ := Aside0.mk (Kd.R_elder' (rz_ HO_122002.out) (Kd.R_base ho0) hb)
        have n1_ := Aside0.mk (Kd.R_elder' (rz_ HO_128002.out) (Kd.R_base ho0) hb)
        have n2_ := Aside0.mk (Kd.R_elder' (rz_ HO_134002.out) (Kd.R_base ho0) hb)
        have n3_ := Aside0.mk (Kd.R_elder' (rz_ HO_141002.out) (Kd.R_base ho0) hb)
        have n4_ := Aside0.mk (Kd.R_elder' (rz_ HO146.out) (Kd.R_base ho0) hb)
        have n5_ := Aside0.mk (Kd.R_lower (Kd.R_new' (Kd.R_new' (Kd.R_new' (Kd.R_new' (Kd.R_new' ho0 (Kd.R_lt (rz_ HO_122002.out))) (Kd.R_lt (rz_ HO_128002.out))) (Kd.R_lt (rz_ HO_134002.out))) (Kd.R_lt (rz_ HO_141002.out))) (Kd.R_lt (rz_ HO146.out))) (below_size (bw_ HB.out)))
        have n6_ := Aside0.mk (blk_below (bz_ BK101.out) hb)
        have n7_ := Aside0.mk (blk_below (bz_ BK102.out) hb)
        have n8_ := Aside0.mk (blk_below (bz_ BK121.out) hb)
        have n9_ := Aside0.mk (blk_below (bz_ BK127.out) hb)
        have n10_ := Aside0.mk (blk_below (bz_ BK133.out) hb)
        have n11_ := Aside0.mk (blk_below (bz_ BK140.out) hb)
        have n12_ := Aside0.mk (below_step (bw_ HB.out) hb)
        clear HO_122002
        clear HO_128002
        clear HO_134002
        clear HO_141002
        clear HO146
        clear BK101
        clear BK102
        clear BK121
        clear BK127
        clear BK133
        clear BK140
        clear HB
        have HO_122002 := n0_
        have HO_128002 := n1_
        have HO_134002 := n2_
        have HO_141002 := n3_
        have HO146 := n4_
        have HO152 := n5_
        have BK101 := n6_
        have BK102 := n7_
        have BK121 := n8_
        have BK127 := n9_
        have BK133 := n10_
        have BK140 := n11_
        have HB := n12_
        clear n0_ n1_ n2_ n3_ n4_ n5_ n6_ n7_ n8_ n9_ n10_ n11_ n12_
        (try clear hb)
        (try clear hb2)
        (try clear hk)
        (try clear hi)
        (try clear ho0)
        obtain ⟨Ao104, co104, eo104⟩ := Kd.R_slice HO152.out
        (first | subst eo104 | (injection eo104 with f1_ f2_ f3_; have f4_ := f1_.symm; have f5_ := f3_.symm; clear f1_ f2_ f3_; subst f4_; subst f5_))
        refine hK.out _ _ ⟨(blk_cell BK133.out 0).trans rfl, (blk_cell BK133.out 1).trans rfl, (blk_cell BK133.out 2).trans rfl, (blk_cell BK102.out 0).trans rfl, (blk_cell BK102.out 1).trans rfl, (blk_cell BK102.out 2).trans rfl⟩ (fun hHeld => ?_)
        clear hK K
        refine norm_ (a' := ?_) ?_ ?_
        rotate_left
        ·show Act.put _ (some 61) _ = _
         simp only [Act.put, List.setIfInBounds_toArray, List.set_cons_zero, List.set_cons_succ, i64_w, i32_w]
         rfl
        refine one_ (i := 3) (N := some 62) (fl 5 15) rfl rfl (by kernel_rfl) (by decide) (fun K hK => ?_)
        refine goes_ Try.func16 (by kernel_rfl) rfl #[.agg #[.int .i64 t128, .int .i64 t129, .slice Ao63 t130.length co63], .agg #[.int .i64 t148, .int .i64 t149, .slice Ao104 t150.length co104]] (by rfl) rfl rfl am_ ?_
        with_reducible refine (laws_eqRanks.calls kj24 t128 t129 _ _ t130 t148 t149 _ _ t150 true _ ?side1 ?side2 ?side3 ?side4 A93.out).mono ?_
        (case side1 => repeat (first | exact (Kd.R_reads' HO_134002.out).2.2 | (with_reducible refine Kd.C_alloc ?_ _) | (with_reducible refine Kd.C_drewN ?_ _) | (with_reducible refine Kd.C_drew ?_)))
        (case side2 => exact (Kd.R_reads' HO_134002.out).2.1)
        (case side3 => repeat (first | exact (Kd.R_reads' HO152.out).2.2 | (with_reducible refine Kd.C_alloc ?_ _) | (with_reducible refine Kd.C_drewN ?_ _) | (with_reducible refine Kd.C_drew ?_)))
        (case side4 => exact (Kd.R_reads' HO152.out).2.1)
        rintro e w105 ⟨rfl, hb⟩
        refine ⟨_, rfl, ?_⟩
        have n0_ := Aside0.mk (Kd.R_below (rz_ HO_122002.out) hb)
        have n1_ := Aside0.mk (Kd.R_below (rz_ HO_128002.out) hb)
        have n2_ := Aside0.mk (Kd.R_below (rz_ HO_134002.out) hb)
        have n3_ := Aside0.mk (Kd.R_below (rz_ HO_141002.out) hb)
        have n4_ := Aside0.mk (Kd.R_below (rz_ HO146.out) hb)
        have n5_ := Aside0.mk (Kd.R_below (rz_ HO152.out) hb)
        have n6_ := Aside0.mk (blk_below (bz_ BK101.out) hb)
        have n7_ := Aside0.mk (blk_below (bz_ BK102.out) hb)
        have n8_ := Aside0.mk (blk_below (bz_ BK121.out) hb)
        have n9_ := Aside0.mk (blk_below (bz_ BK127.out) hb)
        have n10_ := Aside0.mk (blk_below (bz_ BK133.out) hb)
        have n11_ := Aside0.mk (blk_below (bz_ BK140.out) hb)
        have n12_ := Aside0.mk (below_step (bw_ HB.out) hb)
        clear HO_122002
        clear HO_128002
        clear HO_134002
        clear HO_141002
        clear HO146
        clear HO152
        clear BK101
        clear BK102
        clear BK121
        clear BK127
        clear BK133
        clear BK140
        clear HB
        have HO_122002 := n0_
        have HO_128002 := n1_
        have HO_134002 := n2_
        have HO_141002 := n3_
        have HO146 := n4_
        have HO152 := n5_
        have BK101 := n6_
        have BK102 := n7_
        have BK121 := n8_
        have BK127 := n9_
        have BK133 := n10_
        have BK140 := n11_
        have HB := n12_
        clear n0_ n1_ n2_ n3_ n4_ n5_ n6_ n7_ n8_ n9_ n10_ n11_ n12_
        (try clear hb)
        (try clear hb2)
        (try clear hk)
        (try clear hi)
        refine hK.out _ _ ⟨(blk_cell BK133.out 0).trans rfl, (blk_cell BK133.out 1).trans rfl, (blk_cell BK133.out 2).trans rfl, (blk_cell BK102.out 0).trans rfl, (blk_cell BK102.out 1).trans rfl, (blk_cell BK102.out 2).trans rfl⟩ (fun hHeld => ?_)
        clear hK K
        refine norm_ (a' := ?_) ?_ ?_
        rotate_left
        ·show Act.put _ (some 62) _ = _
         simp only [Act.put, List.setIfInBounds_toArray, List.set_cons_zero, List.set_cons_succ, i64_w, i32_w]
         rfl
        refine pure_ (i := 4) (N := some 63) (v := ?_) (a' := ?_) (fl 5 31) rfl rfl (by kernel_rfl) (fun _ _ _ h => h) (Or.inl ⟨by rfl, ?_⟩) ?_ ?_
        rotate_left
        ·intro w'
         go_simp
         with_reducible rfl
        rotate_left
        ·simp only [Act.put, List.setIfInBounds_toArray, List.set_cons_zero, List.set_cons_succ, i64_w, i32_w]
         rfl
        refine done_ (by kernel_rfl) ?_
        have hnb106 := NB127_101.out
        have hnc106 := NB101_127.out
        have hnb107 := NB127_102.out
        have hnc107 := NB102_127.out
        have hnb108 := NB127_121.out
        have hnc108 := NB121_127.out
        have hnb109 := NB127_133.out
        have hnc109 := NB133_127.out
        have hnb110 := NB127_140.out
        have hnc110 := NB140_127.out
        have hcz111_0 : w105.cell? ⟨gb127, 0, none⟩ = some (.int .i64 t122) := (blk_cell BK127.out 0).trans rfl
        have hcz111_1 : w105.cell? ⟨gb127, 1, none⟩ = some (.int .i64 t123) := (blk_cell BK127.out 1).trans rfl
        have hcz111_2 : w105.cell? ⟨gb127, 2, none⟩ = some (.slice Ao53 t124.length co53) := (blk_cell BK127.out 2).trans rfl
        have hfz111_0 := blk_frozen BK127.out 0
        have hfz111_1 := blk_frozen BK127.out 1
        have hfz111_2 := blk_frozen BK127.out 2
        go_upto_region 21 with (first | ((with_reducible refine gate_callee (f := 25) rfl ?_); refine goesL_ (some 66) rfl rfl Try.func25 (by kernel_rfl) rfl #[.agg #[.int .i64 t122, .int .i64 t123, .slice Ao53 t124.length co53], .int .i64 1] rfl am_ ?_; (with_reducible refine (laws_markRanks.calls kj24 t122 t123 (fun k_ => some k_ = (.slice Ao53 t124.length co53 : Value).ownBlock) (.slice Ao53 t124.length co53) t124 1 t154 t155 w _ ?side1 ?side2 A95.out).mono ?_); (case side1 => repeat (first | (with_reducible first | exact HB.out | apply below_alloc | apply pw_below_drewN | apply below_drew1 | refine below_set ?_ GE101.out | refine below_set ?_ GE102.out | refine below_set ?_ GE121.out | refine below_set ?_ GE127.out | refine below_set ?_ GE133.out | refine below_set ?_ GE140.out) | exact HB.out)); (case side2 => exact Kd.R_tight rfl HO_128002.out); rintro e w112 ⟨rfl, hy0, hb, hkp⟩; refine ⟨_, rfl, ?_⟩; have n0_ := Aside0.mk (Kd.R_mono (ok' := fun k_ => some k_ ≠ (.slice Ao53 t124.length co53 : Value).ownBlock ∧ some k_ ≠ (.slice Ao63 t130.length co63 : Value).ownBlock ∧ some k_ ≠ (.slice Ao73 t136.length co73 : Value).ownBlock ∧ some k_ ≠ (.slice Ao100 t144.length co100 : Value).ownBlock ∧ some k_ ≠ (.slice Ao104 t150.length co104 : Value).ownBlock) (Kd.R_keptB (HO_122002.out) hkp (fun k_ hk_ hs_ => (hk_.1.1.1) hs_)) (fun k_ hk_ => ⟨hk_.1.1.1.1, hk_.1.1.1.2.1, hk_.1.1.1.2.2, hk_.1.1.2, hk_.1.2⟩)); have n1_ := Aside0.mk (Kd.R_reok rfl hy0 (fun k_ e_ => HO_128002.out.1 k_ e_)); have n2_ := Aside0.mk (Kd.R_mono (ok' := fun k_ => some k_ ≠ (.slice Ao43 t117.length co43 : Value).ownBlock ∧ some k_ ≠ (.slice Ao53 t124.length co53 : Value).ownBlock ∧ some k_ ≠ (.slice Ao73 t136.length co73 : Value).ownBlock ∧ some k_ ≠ (.slice Ao100 t144.length co100 : Value).ownBlock ∧ some k_ ≠ (.slice Ao104 t150.length co104 : Value).ownBlock) (Kd.R_keptB (HO_134002.out) hkp (fun k_ hk_ hs_ => (hk_.1.1.2.1) hs_)) (fun k_ hk_ => ⟨hk_.1.1.1.1, hk_.1.1.1.2.1, hk_.1.1.1.2.2, hk_.1.1.2, hk_.1.2⟩)); have n3_ := Aside0.mk (Kd.R_mono (ok' := fun k_ => some k_ ≠ (.slice Ao43 t117.length co43 : Value).ownBlock ∧ some k_ ≠ (.slice Ao53 t124.length co53 : Value).ownBlock ∧ some k_ ≠ (.slice Ao63 t130.length co63 : Value).ownBlock ∧ some k_ ≠ (.slice Ao100 t144.length co100 : Value).ownBlock ∧ some k_ ≠ (.slice Ao104 t150.length co104 : Value).ownBlock) (Kd.R_keptB (HO_141002.out) hkp (fun k_ hk_ hs_ => (hk_.1.1.2.1) hs_)) (fun k_ hk_ => ⟨hk_.1.1.1.1, hk_.1.1.1.2.1, hk_.1.1.1.2.2, hk_.1.1.2, hk_.1.2⟩)); have n4_ := Aside0.mk (blk_kept (bz_ BK101.out) hkp (fun hs_ => (fun e_ => (Kd.R_ne HO_128002.out BK101.out (by decide)) e_) hs_)); have n5_ := Aside0.mk (blk_kept (bz_ BK102.out) hkp (fun hs_ => (fun e_ => (Kd.R_ne HO_128002.out BK102.out (by decide)) e_) hs_)); have n6_ := Aside0.mk (blk_kept (bz_ BK121.out) hkp (fun hs_ => (fun e_ => (Kd.R_ne HO_128002.out BK121.out (by decide)) e_) hs_)); have n7_ := Aside0.mk (blk_kept (bz_ BK127.out) hkp (fun hs_ => (fun e_ => (Kd.R_ne HO_128002.out BK127.out (by decide)) e_) hs_)); have n8_ := Aside0.mk (blk_kept (bz_ BK133.out) hkp (fun hs_ => (fun e_ => (Kd.R_ne HO_128002.out BK133.out (by decide)) e_) hs_)); have n9_ := Aside0.mk (blk_kept (bz_ BK140.out) hkp (fun hs_ => (fun e_ => (Kd.R_ne HO_128002.out BK140.out (by decide)) e_) hs_)); have n10_ := Aside0.mk (Kd.R_mono (ok' := fun k_ => some k_ ≠ (.slice Ao43 t117.length co43 : Value).ownBlock ∧ some k_ ≠ (.slice Ao53 t124.length co53 : Value).ownBlock ∧ some k_ ≠ (.slice Ao63 t130.length co63 : Value).ownBlock ∧ some k_ ≠ (.slice Ao73 t136.length co73 : Value).ownBlock ∧ some k_ ≠ (.slice Ao104 t150.length co104 : Value).ownBlock) (Kd.R_keptB (HO146.out) hkp (fun k_ hk_ hs_ => (hk_.1.1.1.2) hs_)) (fun k_ hk_ => ⟨hk_.1.1.1.1.1.2, hk_.1.1.1.1.2, hk_.1.1.1.2, hk_.1.1.2, hk_.1.2⟩)); have n11_ := Aside0.mk (Kd.R_mono (ok' := fun k_ => some k_ ≠ (.slice Ao43 t117.length co43 : Value).ownBlock ∧ some k_ ≠ (.slice Ao53 t124.length co53 : Value).ownBlock ∧ some k_ ≠ (.slice Ao63 t130.length co63 : Value).ownBlock ∧ some k_ ≠ (.slice Ao73 t136.length co73 : Value).ownBlock ∧ some k_ ≠ (.slice Ao100 t144.length co100 : Value).ownBlock) (Kd.R_keptB (HO152.out) hkp (fun k_ hk_ hs_ => (hk_.1.1.1.2) hs_)) (fun k_ hk_ => ⟨hk_.1.1.1.1.1.2, hk_.1.1.1.1.2, hk_.1.1.1.2, hk_.1.1.2, hk_.1.2⟩)); have n12_ := Aside0.mk (hb); clear HO_122002 HO_128002 HO_134002 HO_141002 BK101 BK102 BK121 BK127 BK133 BK140 HO146 HO152 HB; have HO_122002 := n0_; have HO_128002 := n1_; have HO_134002 := n2_; have HO_141002 := n3_; have BK101 := n4_; have BK102 := n5_; have BK121 := n6_; have BK127 := n7_; have BK133 := n8_; have BK140 := n9_; have HO146 := n10_; have HO152 := n11_; have HB := n12_; clear n0_ n1_ n2_ n3_ n4_ n5_ n6_ n7_ n8_ n9_ n10_ n11_ n12_; (try clear hb); (try clear hkp); (try clear hy0); have hnb113 := NB133_101.out; have hnc113 := NB101_133.out; have hnb114 := NB133_102.out; have hnc114 := NB102_133.out; have hnb115 := NB133_121.out; have hnc115 := NB121_133.out; have hnb116 := NB133_140.out; have hnc116 := NB140_133.out; have hcz117_0 : w112.cell? ⟨gb133, 0, none⟩ = some (.int .i64 t128) := (blk_cell BK133.out 0).trans rfl; have hcz117_1 : w112.cell? ⟨gb133, 1, none⟩ = some (.int .i64 t129) := (blk_cell BK133.out 1).trans rfl; have hcz117_2 : w112.cell? ⟨gb133, 2, none⟩ = some (.slice Ao63 t130.length co63) := (blk_cell BK133.out 2).trans rfl; have hfz117_0 := blk_frozen BK133.out 0; have hfz117_1 := blk_frozen BK133.out 1; have hfz117_2 := blk_frozen BK133.out 2) | ((with_reducible refine gate_callee (f := 25) rfl ?_); refine goesL_ (some 69) rfl rfl Try.func25 (by kernel_rfl) rfl #[.agg #[.int .i64 t128, .int .i64 t129, .slice Ao63 t130.length co63], .int .i64 t154] rfl am_ ?_; (with_reducible refine (laws_markRanks.calls kj24 t128 t129 (fun k_ => some k_ = (.slice Ao63 t130.length co63 : Value).ownBlock) (.slice Ao63 t130.length co63) t130 t154 t156 t157 w _ ?side1 ?side2 A96.out).mono ?_); (case side1 => repeat (first | (with_reducible first | exact HB.out | apply below_alloc | apply pw_below_drewN | apply below_drew1 | refine below_set ?_ GE101.out | refine below_set ?_ GE102.out | refine below_set ?_ GE121.out | refine below_set ?_ GE127.out | refine below_set ?_ GE133.out | refine below_set ?_ GE140.out) | exact HB.out)); (case side2 => exact Kd.R_tight rfl HO_134002.out); rintro e w118 ⟨rfl, hy0, hb, hkp⟩; refine ⟨_, rfl, ?_⟩; have n0_ := Aside0.mk (Kd.R_mono (ok' := fun k_ => some k_ ≠ (.slice Ao53 t124.length co53 : Value).ownBlock ∧ some k_ ≠ (.slice Ao63 t130.length co63 : Value).ownBlock ∧ some k_ ≠ (.slice Ao73 t136.length co73 : Value).ownBlock ∧ some k_ ≠ (.slice Ao100 t144.length co100 : Value).ownBlock ∧ some k_ ≠ (.slice Ao104 t150.length co104 : Value).ownBlock) (Kd.R_keptB (HO_122002.out) hkp (fun k_ hk_ hs_ => (hk_.2.1) hs_)) (fun k_ hk_ => ⟨hk_.1.1, hk_.1.2.1, hk_.1.2.2.1, hk_.1.2.2.2.1, hk_.1.2.2.2.2⟩)); have n1_ := Aside0.mk (Kd.R_mono (ok' := fun k_ => some k_ ≠ (.slice Ao43 t117.length co43 : Value).ownBlock ∧ some k_ ≠ (.slice Ao63 t130.length co63 : Value).ownBlock ∧ some k_ ≠ (.slice Ao73 t136.length co73 : Value).ownBlock ∧ some k_ ≠ (.slice Ao100 t144.length co100 : Value).ownBlock ∧ some k_ ≠ (.slice Ao104 t150.length co104 : Value).ownBlock) (Kd.R_keptB (HO_128002.out) hkp (fun k_ hk_ hs_ => (hk_.1.1.2.1) hs_)) (fun k_ hk_ => ⟨hk_.1.1.1.1, hk_.1.1.1.2.1, hk_.1.1.1.2.2, hk_.1.1.2, hk_.1.2⟩)); have n2_ := Aside0.mk (Kd.R_reok rfl hy0 (fun k_ e_ => HO_134002.out.1 k_ e_)); have n3_ := Aside0.mk (Kd.R_mono (ok' := fun k_ => some k_ ≠ (.slice Ao43 t117.length co43 : Value).ownBlock ∧ some k_ ≠ (.slice Ao53 t124.length co53 : Value).ownBlock ∧ some k_ ≠ (.slice Ao63 t130.length co63 : Value).ownBlock ∧ some k_ ≠ (.slice Ao100 t144.length co100 : Value).ownBlock ∧ some k_ ≠ (.slice Ao104 t150.length co104 : Value).ownBlock) (Kd.R_keptB (HO_141002.out) hkp (fun k_ hk_ hs_ => (hk_.2.2.1) hs_)) (fun k_ hk_ => ⟨hk_.1.1, hk_.1.2.1, hk_.1.2.2.1, hk_.1.2.2.2.1, hk_.1.2.2.2.2⟩)); have n4_ := Aside0.mk (blk_kept (bz_ BK101.out) hkp (fun hs_ => (fun e_ => (Kd.R_ne HO_134002.out BK101.out (by decide)) e_) hs_)); have n5_ := Aside0.mk (blk_kept (bz_ BK102.out) hkp (fun hs_ => (fun e_ => (Kd.R_ne HO_134002.out BK102.out (by decide)) e_) hs_)); have n6_ := Aside0.mk (blk_kept (bz_ BK121.out) hkp (fun hs_ => (fun e_ => (Kd.R_ne HO_134002.out BK121.out (by decide)) e_) hs_)); have n7_ := Aside0.mk (blk_kept (bz_ BK127.out) hkp (fun hs_ => (fun e_ => (Kd.R_ne HO_134002.out BK127.out (by decide)) e_) hs_)); have n8_ := Aside0.mk (blk_kept (bz_ BK133.out) hkp (fun hs_ => (fun e_ => (Kd.R_ne HO_134002.out BK133.out (by decide)) e_) hs_)); have n9_ := Aside0.mk (blk_kept (bz_ BK140.out) hkp (fun hs_ => (fun e_ => (Kd.R_ne HO_134002.out BK140.out (by decide)) e_) hs_)); have n10_ := Aside0.mk (Kd.R_mono (ok' := fun k_ => some k_ ≠ (.slice Ao43 t117.length co43 : Value).ownBlock ∧ some k_ ≠ (.slice Ao53 t124.length co53 : Value).ownBlock ∧ some k_ ≠ (.slice Ao63 t130.length co63 : Value).ownBlock ∧ some k_ ≠ (.slice Ao73 t136.length co73 : Value).ownBlock ∧ some k_ ≠ (.slice Ao104 t150.length co104 : Value).ownBlock) (Kd.R_keptB (HO146.out) hkp (fun k_ hk_ hs_ => (hk_.2.2.1) hs_)) (fun k_ hk_ => ⟨hk_.1.1, hk_.1.2.1, hk_.1.2.2.1, hk_.1.2.2.2.1, hk_.1.2.2.2.2⟩)); have n11_ := Aside0.mk (Kd.R_mono (ok' := fun k_ => some k_ ≠ (.slice Ao43 t117.length co43 : Value).ownBlock ∧ some k_ ≠ (.slice Ao53 t124.length co53 : Value).ownBlock ∧ some k_ ≠ (.slice Ao63 t130.length co63 : Value).ownBlock ∧ some k_ ≠ (.slice Ao73 t136.length co73 : Value).ownBlock ∧ some k_ ≠ (.slice Ao100 t144.length co100 : Value).ownBlock) (Kd.R_keptB (HO152.out) hkp (fun k_ hk_ hs_ => (hk_.2.2.1) hs_)) (fun k_ hk_ => ⟨hk_.1.1, hk_.1.2.1, hk_.1.2.2.1, hk_.1.2.2.2.1, hk_.1.2.2.2.2⟩)); have n12_ := Aside0.mk (hb); clear HO_122002 HO_128002 HO_134002 HO_141002 BK101 BK102 BK121 BK127 BK133 BK140 HO146 HO152 HB; have HO_122002 := n0_; have HO_128002 := n1_; have HO_134002 := n2_; have HO_141002 := n3_; have BK101 := n4_; have BK102 := n5_; have BK121 := n6_; have BK127 := n7_; have BK133 := n8_; have BK140 := n9_; have HO146 := n10_; have HO152 := n11_; have HB := n12_; clear n0_ n1_ n2_ n3_ n4_ n5_ n6_ n7_ n8_ n9_ n10_ n11_ n12_; (try clear hb); (try clear hkp); (try clear hy0)))
        (try simp only [Act.put, List.setIfInBounds_toArray, List.set_cons_zero, List.set_cons_succ])
        go_cut [82] (fun v82 wc => ∃ (kq : Nat) (x82_96 : Bool), v82 = .bool x82_96 ∧ Aside0 (laws_FnExactAddRanks.j1 kq t120 x82_96 a0_0 a0_1 l0_2 a1_0 a1_1 l1_2 t115 t116 t117 t134 t135 t136 = some r) ∧ Aside0 (kq ≤ kj24) ∧ Aside0 (Kd.R (Kd.int .i64) 2 wc w.heap.size (fun k_ => some k_ ≠ ((.slice Ao53 t124.length co53) : Value).ownBlock ∧ some k_ ≠ ((.slice Ao63 t130.length co63) : Value).ownBlock ∧ some k_ ≠ ((.slice Ao73 t136.length co73) : Value).ownBlock) (.slice Ao43 t117.length co43) t117) ∧ Aside0 (Kd.R (Kd.int .i64) 2 wc w.heap.size (fun k_ => some k_ ≠ ((.slice Ao43 t117.length co43) : Value).ownBlock ∧ some k_ ≠ ((.slice Ao63 t130.length co63) : Value).ownBlock ∧ some k_ ≠ ((.slice Ao73 t136.length co73) : Value).ownBlock) (.slice Ao53 t124.length co53) t155) ∧ Aside0 (Kd.R (Kd.int .i64) 2 wc w.heap.size (fun k_ => some k_ ≠ ((.slice Ao43 t117.length co43) : Value).ownBlock ∧ some k_ ≠ ((.slice Ao53 t124.length co53) : Value).ownBlock ∧ some k_ ≠ ((.slice Ao73 t136.length co73) : Value).ownBlock) (.slice Ao63 t130.length co63) t157) ∧ Aside0 (Kd.R (Kd.int .i64) 2 wc w.heap.size (fun k_ => some k_ ≠ ((.slice Ao43 t117.length co43) : Value).ownBlock ∧ some k_ ≠ ((.slice Ao53 t124.length co53) : Value).ownBlock ∧ some k_ ≠ ((.slice Ao63 t130.length co63) : Value).ownBlock) (.slice Ao73 t136.length co73) t136) ∧ Aside0 (wc.heap[gb101]? = some (.cells #[.int .i64 a0_0, .int .i64 a0_1, (.slice A0_2 l0_2.length c0_2)] 30 (0, 0))) ∧ Aside0 (wc.heap[gb102]? = some (.cells #[.int .i64 a1_0, .int .i64 a1_1, (.slice A1_2 l1_2.length c1_2)] 30 (0, 0))) ∧ Aside0 (wc.heap[gb121]? = some (.cells #[.int .i64 t115, .int .i64 t116, (.slice Ao43 t117.length co43)] 33 (0, 0))) ∧ Aside0 (wc.heap[gb127]? = some (.cells #[.int .i64 t122, .int .i64 t123, (.slice Ao53 t124.length co53)] 33 (0, 0))) ∧ Aside0 (wc.heap[gb133]? = some (.cells #[.int .i64 t128, .int .i64 t129, (.slice Ao63 t130.length co63)] 33 (0, 0))) ∧ Aside0 (wc.heap[gb140]? = some (.cells #[.int .i64 t134, .int .i64 t135, (.slice Ao73 t136.length co73)] 33 (0, 0))) ∧ Aside0 (Below w.heap.size w wc))
        case first =>
         have H := HC97.out
         clear HC97
         by_cases c119 : t156 < 0
         ·rw [if_pos c119] at H
          exact absurd H (by simp)
         ·rw [if_neg c119] at H
          have c119b0 : decide (t156 < 0) = false := decide_eq_false c119
          clear c119
          (first | rw [c119b0] | (simp only [i64_w, i32_w]; rw [c119b0]) | skip)
          replace H := Option.bind_eq_some_iff.mp H
          obtain ⟨t158, A1200, H⟩ := H
          replace H : (if t158 = true then (laws_FnExactAddRanks.j1 kj24 t120 (t139 != t120) a0_0 a0_1 l0_2 a1_0 a1_1 l1_2 t115 t116 t117 t134 t135 t136) else (none)) = some r := H
          have A120 := Aside0.mk A1200
          clear A1200
          by_cases c121 : t158 = true
          ·subst c121
           have H1 : (laws_FnExactAddRanks.j1 kj24 t120 (t139 != t120) a0_0 a0_1 l0_2 a1_0 a1_1 l1_2 t115 t116 t117 t134 t135 t136) = some r := by rw [if_pos rfl] at H; exact H
           clear H
           have H := H1
           clear H1
           have H' := Aside0.mk H
           clear H
           have hnb122 := NB140_101.out
           have hnc122 := NB101_140.out
           have hnb123 := NB140_102.out
           have hnc123 := NB102_140.out
           have hnb124 := NB140_121.out
           have hnc124 := NB121_140.out
           have hnb125 := NB140_127.out
           have hnc125 := NB127_140.out
           have hnb126 := NB140_133.out
           have hnc126 := NB133_140.out
           have hcz127_0 : w118.cell? ⟨gb140, 0, none⟩ = some (.int .i64 t134) := (blk_cell BK140.out 0).trans rfl
           have hcz127_1 : w118.cell? ⟨gb140, 1, none⟩ = some (.int .i64 t135) := (blk_cell BK140.out 1).trans rfl
           have hcz127_2 : w118.cell? ⟨gb140, 2, none⟩ = some (.slice Ao73 t136.length co73) := (blk_cell BK140.out 2).trans rfl
           have hfz127_0 := blk_frozen BK140.out 0
           have hfz127_1 := blk_frozen BK140.out 1
           have hfz127_2 := blk_frozen BK140.out 2
           have hnb128 := NB121_101.out
           have hnc128 := NB101_121.out
           have hnb129 := NB121_102.out
           have hnc129 := NB102_121.out
           have hnb130 := NB121_127.out
           have hnc130 := NB127_121.out
           have hnb131 := NB121_133.out
           have hnc131 := NB133_121.out
           have hcz132_0 : w118.cell? ⟨gb121, 0, none⟩ = some (.int .i64 t115) := (blk_cell BK121.out 0).trans rfl
           have hcz132_1 : w118.cell? ⟨gb121, 1, none⟩ = some (.int .i64 t116) := (blk_cell BK121.out 1).trans rfl
           have hcz132_2 : w118.cell? ⟨gb121, 2, none⟩ = some (.slice Ao43 t117.length co43) := (blk_cell BK121.out 2).trans rfl
           have hfz132_0 := blk_frozen BK121.out 0
           have hfz132_1 := blk_frozen BK121.out 1
           have hfz132_2 := blk_frozen BK121.out 2
           go_wp2_with (first | (go_at_call 16; (with_reducible refine (laws_eqRanks.calls kj24 t134 t135 _ _ t136 t115 t116 _ _ t117 true _ ?side1 ?side2 ?side3 ?side4 A120.out).mono ?_); (case side1 => repeat (first | exact (Kd.R_reads' HO_141002.out).2.2 | (with_reducible refine Kd.C_alloc ?_ _) | (with_reducible refine Kd.C_drewN ?_ _) | (with_reducible refine Kd.C_drew ?_))); (case side2 => exact (Kd.R_reads' HO_141002.out).2.1); (case side3 => repeat (first | exact (Kd.R_reads' HO_122002.out).2.2 | (with_reducible refine Kd.C_alloc ?_ _) | (with_reducible refine Kd.C_drewN ?_ _) | (with_reducible refine Kd.C_drew ?_))); (case side4 => exact (Kd.R_reads' HO_122002.out).2.1); rintro e w133 ⟨rfl, hb⟩; have n0_ := Aside0.mk (Kd.R_below (rz_ HO_122002.out) hb); have n1_ := Aside0.mk (Kd.R_below (rz_ HO_128002.out) hb); have n2_ := Aside0.mk (Kd.R_below (rz_ HO_134002.out) hb); have n3_ := Aside0.mk (Kd.R_below (rz_ HO_141002.out) hb); have n4_ := Aside0.mk (Kd.R_below (rz_ HO146.out) hb); have n5_ := Aside0.mk (Kd.R_below (rz_ HO152.out) hb); have n6_ := Aside0.mk (blk_below (bz_ BK101.out) hb); have n7_ := Aside0.mk (blk_below (bz_ BK102.out) hb); have n8_ := Aside0.mk (blk_below (bz_ BK121.out) hb); have n9_ := Aside0.mk (blk_below (bz_ BK127.out) hb); have n10_ := Aside0.mk (blk_below (bz_ BK133.out) hb); have n11_ := Aside0.mk (blk_below (bz_ BK140.out) hb); have n12_ := Aside0.mk (below_step (bw_ HB.out) hb); clear HO_122002 HO_128002 HO_134002 HO_141002 HO146 HO152 BK101 BK102 BK121 BK127 BK133 BK140 HB; have HO_122002 := n0_; have HO_128002 := n1_; have HO_134002 := n2_; have HO_141002 := n3_; have HO146 := n4_; have HO152 := n5_; have BK101 := n6_; have BK102 := n7_; have BK121 := n8_; have BK127 := n9_; have BK133 := n10_; have BK140 := n11_; have HB := n12_; clear n0_ n1_ n2_ n3_ n4_ n5_ n6_ n7_ n8_ n9_ n10_ n11_ n12_; (try clear hb); (try clear hb2); (try clear hk); (try clear hi)))
           go_meet
           case rel => exact ⟨_, ((t139 != t120)), (by first | rfl | (simp; done) | (simp [*]; done)), H', ⟨by have := HJ24.out; first | omega | exact Nat.le_refl _⟩, ⟨by (with_reducible repeat (first | apply Kd.R_alloc | apply Kd.R_drewN | apply Kd.R_drew)); exact Kd.R_mono HO_122002.out (fun _ hk => ⟨hk.1, ⟨hk.2.1, hk.2.2.1⟩⟩)⟩, ⟨by (with_reducible repeat (first | apply Kd.R_alloc | apply Kd.R_drewN | apply Kd.R_drew)); exact Kd.R_mono HO_128002.out (fun _ hk => ⟨hk.1, ⟨hk.2.1, hk.2.2.1⟩⟩)⟩, ⟨by (with_reducible repeat (first | apply Kd.R_alloc | apply Kd.R_drewN | apply Kd.R_drew)); exact Kd.R_mono HO_134002.out (fun _ hk => ⟨hk.1, ⟨hk.2.1, hk.2.2.1⟩⟩)⟩, ⟨by (with_reducible repeat (first | apply Kd.R_alloc | apply Kd.R_drewN | apply Kd.R_drew)); exact Kd.R_mono HO_141002.out (fun _ hk => ⟨hk.1, ⟨hk.2.1, hk.2.2.1⟩⟩)⟩, ⟨by (with_reducible repeat (first | refine blk_drewN ?_ _ | refine blk_drew ?_ | refine blk_alloc ?_ _)); exact BK101.out⟩, ⟨by (with_reducible repeat (first | refine blk_drewN ?_ _ | refine blk_drew ?_ | refine blk_alloc ?_ _)); exact BK102.out⟩, ⟨by (with_reducible repeat (first | refine blk_drewN ?_ _ | refine blk_drew ?_ | refine blk_alloc ?_ _)); exact BK121.out⟩, ⟨by (with_reducible repeat (first | refine blk_drewN ?_ _ | refine blk_drew ?_ | refine blk_alloc ?_ _)); exact BK127.out⟩, ⟨by (with_reducible repeat (first | refine blk_drewN ?_ _ | refine blk_drew ?_ | refine blk_alloc ?_ _)); exact BK133.out⟩, ⟨by (with_reducible repeat (first | refine blk_drewN ?_ _ | refine blk_drew ?_ | refine blk_alloc ?_ _)); exact BK140.out⟩, ⟨by repeat (first | (with_reducible first | exact HB.out | apply below_alloc | apply pw_below_drewN | apply below_drew1 | refine below_set ?_ GE101.out | refine below_set ?_ GE102.out | refine below_set ?_ GE121.out | refine below_set ?_ GE127.out | refine below_set ?_ GE133.out | refine below_set ?_ GE140.out) | exact HB.out)⟩⟩
          ·replace c121 := Bool.eq_false_iff.mpr c121
           subst c121
           have H1 : (none) = some r := by rw [if_neg (show ¬ (false = true) by decide)] at H; exact H
           clear H
           have H := H1
           clear H1
           exact absurd H (by simp)
        case rest =>
         clear HC97
         try clear c1
         try clear c2
         try clear p2
         try clear c4
         try clear c5
         try clear c6
         try clear c7
         try clear c8
         try clear c9
         try clear c10
         try clear c11
         try clear c12
         try clear c13
         try clear c14
         try clear c16
         try clear c25
         try clear c27
         try clear c28
         try clear c45
         try clear c49
         try clear c50
         try clear c51
         try clear c54
         try clear c58
         try clear c59
         try clear c60
         try clear c61
         try clear c67
         try clear c68
         try clear c69
         try clear c70
         try clear c71
         try clear c75
         try clear c76
         try clear c77
         try clear c78
         try clear c79
         try clear c80
         try clear c82
         try clear c83
         try clear c84
         try clear c85
         try clear c88
         try clear c91
         try clear c94
         try clear c106
         try clear c107
         try clear c108
         try clear c109
         try clear c110
         try clear c113
         try clear c114
         try clear c115
         try clear c116
         try clear c119
         try clear c119b0
         try clear c121
         try clear c122
         try clear c123
         try clear c124
         try clear c125
         try clear c126
         try clear c128
         try clear c129
         try clear c130
         try clear c131
         try clear hcz111_0
         try clear hcz111_1
         try clear hcz111_2
         try clear hcz117_0
         try clear hcz117_1
         try clear hcz117_2
         try clear hcz127_0
         try clear hcz127_1
         try clear hcz127_2
         try clear hcz132_0
         try clear hcz132_1
         try clear hcz132_2
         try clear hcz46_0
         try clear hcz46_1
         try clear hcz46_2
         try clear hcz52_0
         try clear hcz52_1
         try clear hcz52_2
         try clear hcz55_0
         try clear hcz55_1
         try clear hcz55_2
         try clear hcz62_0
         try clear hcz62_1
         try clear hcz62_2
         try clear hcz64_0
         try clear hcz64_1
         try clear hcz64_2
         try clear hcz72_0
         try clear hcz72_1
         try clear hcz72_2
         try clear hcz81_0
         try clear hcz81_1
         try clear hcz81_2
         try clear hcz86_0
         try clear hcz86_1
         try clear hcz86_2
         try clear hfz111_0
         try clear hfz111_1
         try clear hfz111_2
         try clear hfz117_0
         try clear hfz117_1
         try clear hfz117_2
         try clear hfz127_0
         try clear hfz127_1
         try clear hfz127_2
         try clear hfz132_0
         try clear hfz132_1
         try clear hfz132_2
         try clear hfz46_0
         try clear hfz46_1
         try clear hfz46_2
         try clear hfz52_0
         try clear hfz52_1
         try clear hfz52_2
         try clear hfz55_0
         try clear hfz55_1
         try clear hfz55_2
         try clear hfz62_0
         try clear hfz62_1
         try clear hfz62_2
         try clear hfz64_0
         try clear hfz64_1
         try clear hfz64_2
         try clear hfz72_0
         try clear hfz72_1
         try clear hfz72_2
         try clear hfz81_0
         try clear hfz81_1
         try clear hfz81_2
         try clear hfz86_0
         try clear hfz86_1
         try clear hfz86_2
         try clear p2
         obtain ⟨kq, x82_96, rfl, HA, HJ96, HO_122002, HO_128002, HO_134002, HO_141002, BK101, BK102, BK121, BK127, BK133, BK140, HB⟩ := hcut
         have hl128002_96 := (Kd.R_reads' HO_128002.out).1
         rw [hl128002_96] at HO_128002
         (try simp only [hl128002_96])
         (try simp only [hl128002_96] at BK101)
         (try simp only [hl128002_96] at BK102)
         (try simp only [hl128002_96] at BK121)
         (try simp only [hl128002_96] at BK127)
         (try simp only [hl128002_96] at BK133)
         (try simp only [hl128002_96] at BK140)
         (try simp only [hl128002_96] at HO_122002)
         (try simp only [hl128002_96] at HO_134002)
         (try simp only [hl128002_96] at HO_141002)
         have hl134002_96 := (Kd.R_reads' HO_134002.out).1
         rw [hl134002_96] at HO_134002
         (try simp only [hl134002_96])
         (try simp only [hl134002_96] at BK101)
         (try simp only [hl134002_96] at BK102)
         (try simp only [hl134002_96] at BK121)
         (try simp only [hl134002_96] at BK127)
         (try simp only [hl134002_96] at BK133)
         (try simp only [hl134002_96] at BK140)
         (try simp only [hl134002_96] at HO_122002)
         (try simp only [hl134002_96] at HO_128002)
         (try simp only [hl134002_96] at HO_141002)
         cases kq with
         | zero => exact absurd HA.out (by simp [laws_FnExactAddRanks.j1])
         | succ kj96 =>
          have H := HA.out
          clear HA
          simp only [laws_FnExactAddRanks.j1] at H
          by_cases c134 : x82_96 = true
          ·subst c134
           have H1 : (none) = some r := by rw [if_pos rfl] at H; exact H
           clear H
           have H := H1
           clear H1
           exact absurd H (by simp)
          ·replace c134 := Bool.eq_false_iff.mpr c134
           subst c134
           have H1 : ((laws_markRanks.f kj96 t134 t135 t136 1).bind fun bt159 => ((laws_heldRanks.f kj96 t134 t135 bt159.2 1).bind fun t161 => (if t161 < 0 then (none) else (if t161 = bt159.1 then ((laws_toRanks.f kj96 a0_0 a0_1 l0_2).bind fun bt162 => ((laws_toRanks.f kj96 a1_0 a1_1 l1_2).bind fun bt167 => ((impl_AddRanks.f kj96 bt162.1 bt162.2.1 bt162.2.2 bt167.1 bt167.2.1 bt167.2.2).bind fun bt172 => ((laws_eqRanks.f kj96 bt172.1 bt172.2.1 bt172.2.2.1 t115 t116 t117).bind fun t179 => (if t179 = true then (laws_FnExactAddRanks.j2 kj96 bt159.1 (bt172.2.2.2 != t120) t134 t135 bt159.2) else (none)))))) else (none))))) = some r := by rw [if_neg (show ¬ (false = true) by decide)] at H; exact H
           clear H
           have H := H1
           clear H1
           replace H := Option.bind_eq_some_iff.mp H
           obtain ⟨⟨t159, t160⟩, A1350, H⟩ := H
           replace H : ((laws_heldRanks.f kj96 t134 t135 t160 1).bind fun t161 => (if t161 < 0 then (none) else (if t161 = t159 then ((laws_toRanks.f kj96 a0_0 a0_1 l0_2).bind fun bt162 => ((laws_toRanks.f kj96 a1_0 a1_1 l1_2).bind fun bt167 => ((impl_AddRanks.f kj96 bt162.1 bt162.2.1 bt162.2.2 bt167.1 bt167.2.1 bt167.2.2).bind fun bt172 => ((laws_eqRanks.f kj96 bt172.1 bt172.2.1 bt172.2.2.1 t115 t116 t117).bind fun t179 => (if t179 = true then (laws_FnExactAddRanks.j2 kj96 t159 (bt172.2.2.2 != t120) t134 t135 t160) else (none)))))) else (none)))) = some r := H
           have A135 := Aside0.mk A1350
           clear A1350
           replace H := Option.bind_eq_some_iff.mp H
           obtain ⟨t161, A1360, H⟩ := H
           replace H : (if t161 < 0 then (none) else (if t161 = t159 then ((laws_toRanks.f kj96 a0_0 a0_1 l0_2).bind fun bt162 => ((laws_toRanks.f kj96 a1_0 a1_1 l1_2).bind fun bt167 => ((impl_AddRanks.f kj96 bt162.1 bt162.2.1 bt162.2.2 bt167.1 bt167.2.1 bt167.2.2).bind fun bt172 => ((laws_eqRanks.f kj96 bt172.1 bt172.2.1 bt172.2.2.1 t115 t116 t117).bind fun t179 => (if t179 = true then (laws_FnExactAddRanks.j2 kj96 t159 (bt172.2.2.2 != t120) t134 t135 t160) else (none)))))) else (none))) = some r := H
           have A136 := Aside0.mk A1360
           clear A1360
           by_cases c137 : t161 < 0
           ·rw [if_pos c137] at H
            exact absurd H (by simp)
           ·rw [if_neg c137] at H
            have c137b0 : decide (t161 < 0) = false := decide_eq_false c137
            clear c137
            by_cases c138 : t161 = t159
            ·rw [if_pos c138] at H
             have c138b0 : (t161 == t159) = true := beq_iff_eq.mpr c138
             have c138b1 : (t161 != t159) = false := bne_eq_false_iff_eq.mpr c138
             clear c138
             replace H := Option.bind_eq_some_iff.mp H
             obtain ⟨⟨t162, t163, t164⟩, A1390, H⟩ := H
             replace H : ((laws_toRanks.f kj96 a1_0 a1_1 l1_2).bind fun bt167 => ((impl_AddRanks.f kj96 t162 t163 t164 bt167.1 bt167.2.1 bt167.2.2).bind fun bt172 => ((laws_eqRanks.f kj96 bt172.1 bt172.2.1 bt172.2.2.1 t115 t116 t117).bind fun t179 => (if t179 = true then (laws_FnExactAddRanks.j2 kj96 t159 (bt172.2.2.2 != t120) t134 t135 t160) else (none))))) = some r := H
             have A139 := Aside0.mk A1390
             clear A1390
             replace H := Option.bind_eq_some_iff.mp H
             obtain ⟨⟨t167, t168, t169⟩, A1400, H⟩ := H
             replace H : ((impl_AddRanks.f kj96 t162 t163 t164 t167 t168 t169).bind fun bt172 => ((laws_eqRanks.f kj96 bt172.1 bt172.2.1 bt172.2.2.1 t115 t116 t117).bind fun t179 => (if t179 = true then (laws_FnExactAddRanks.j2 kj96 t159 (bt172.2.2.2 != t120) t134 t135 t160) else (none)))) = some r := H
             have A140 := Aside0.mk A1400
             clear A1400
             replace H := Option.bind_eq_some_iff.mp H
             obtain ⟨⟨t172, t173, t174, t177⟩, A1410, H⟩ := H
             replace H : ((laws_eqRanks.f kj96 t172 t173 t174 t115 t116 t117).bind fun t179 => (if t179 = true then (laws_FnExactAddRanks.j2 kj96 t159 (t177 != t120) t134 t135 t160) else (none))) = some r := H
             have A141 := Aside0.mk A1410
             clear A1410
             have HC142 := Aside0.mk H
             clear H
             have hnb143 := NB140_101.out
             have hnc143 := NB101_140.out
             have hnb144 := NB140_102.out
             have hnc144 := NB102_140.out
             have hnb145 := NB140_121.out
             have hnc145 := NB121_140.out
             have hnb146 := NB140_127.out
             have hnc146 := NB127_140.out
             have hnb147 := NB140_133.out
             have hnc147 := NB133_140.out
             have hcz148_0 : wc.cell? ⟨gb140, 0, none⟩ = some (.int .i64 t134) := (blk_cell BK140.out 0).trans rfl
             have hcz148_1 : wc.cell? ⟨gb140, 1, none⟩ = some (.int .i64 t135) := (blk_cell BK140.out 1).trans rfl
             have hcz148_2 : wc.cell? ⟨gb140, 2, none⟩ = some (.slice Ao73 t136.length co73) := (blk_cell BK140.out 2).trans rfl
             have hfz148_0 := blk_frozen BK140.out 0
             have hfz148_1 := blk_frozen BK140.out 1
             have hfz148_2 := blk_frozen BK140.out 2
             try go_wp2_with (first | ((with_reducible refine gate_callee (f := 25) rfl ?_); refine goesL_ (some 85) rfl rfl Try.func25 (by kernel_rfl) rfl #[.agg #[.int .i64 t134, .int .i64 t135, .slice Ao73 t136.length co73], .int .i64 1] rfl am_ ?_; (with_reducible refine (laws_markRanks.calls kj96 t134 t135 (fun k_ => some k_ = (.slice Ao73 t136.length co73 : Value).ownBlock) (.slice Ao73 t136.length co73) t136 1 t159 t160 w _ ?side1 ?side2 A135.out).mono ?_); (case side1 => repeat (first | (with_reducible first | exact HB.out | apply below_alloc | apply pw_below_drewN | apply below_drew1 | refine below_set ?_ GE101.out | refine below_set ?_ GE102.out | refine below_set ?_ GE121.out | refine below_set ?_ GE127.out | refine below_set ?_ GE133.out | refine below_set ?_ GE140.out) | exact HB.out)); (case side2 => exact Kd.R_tight rfl HO_141002.out); rintro e w149 ⟨rfl, hy0, hb, hkp⟩; refine ⟨_, rfl, ?_⟩; have n0_ := Aside0.mk (Kd.R_mono (ok' := fun k_ => some k_ ≠ (.slice Ao53 t155.length co53 : Value).ownBlock ∧ some k_ ≠ (.slice Ao63 t157.length co63 : Value).ownBlock ∧ some k_ ≠ (.slice Ao73 t136.length co73 : Value).ownBlock) (Kd.R_keptB (HO_122002.out) hkp (fun k_ hk_ hs_ => (hk_.2.2) hs_)) (fun k_ hk_ => ⟨hk_.1.1, hk_.1.2.1, hk_.1.2.2⟩)); have n1_ := Aside0.mk (Kd.R_mono (ok' := fun k_ => some k_ ≠ (.slice Ao43 t117.length co43 : Value).ownBlock ∧ some k_ ≠ (.slice Ao63 t157.length co63 : Value).ownBlock ∧ some k_ ≠ (.slice Ao73 t136.length co73 : Value).ownBlock) (Kd.R_keptB (HO_128002.out) hkp (fun k_ hk_ hs_ => (hk_.2.2) hs_)) (fun k_ hk_ => ⟨hk_.1.1, hk_.1.2.1, hk_.1.2.2⟩)); have n2_ := Aside0.mk (Kd.R_mono (ok' := fun k_ => some k_ ≠ (.slice Ao43 t117.length co43 : Value).ownBlock ∧ some k_ ≠ (.slice Ao53 t155.length co53 : Value).ownBlock ∧ some k_ ≠ (.slice Ao73 t136.length co73 : Value).ownBlock) (Kd.R_keptB (HO_134002.out) hkp (fun k_ hk_ hs_ => (hk_.2.2) hs_)) (fun k_ hk_ => ⟨hk_.1.1, hk_.1.2.1, hk_.1.2.2⟩)); have n3_ := Aside0.mk (Kd.R_reok rfl hy0 (fun k_ e_ => HO_141002.out.1 k_ e_)); have n4_ := Aside0.mk (blk_kept (bz_ BK101.out) hkp (fun hs_ => (fun e_ => (Kd.R_ne HO_141002.out BK101.out (by decide)) e_) hs_)); have n5_ := Aside0.mk (blk_kept (bz_ BK102.out) hkp (fun hs_ => (fun e_ => (Kd.R_ne HO_141002.out BK102.out (by decide)) e_) hs_)); have n6_ := Aside0.mk (blk_kept (bz_ BK121.out) hkp (fun hs_ => (fun e_ => (Kd.R_ne HO_141002.out BK121.out (by decide)) e_) hs_)); have n7_ := Aside0.mk (blk_kept (bz_ BK127.out) hkp (fun hs_ => (fun e_ => (Kd.R_ne HO_141002.out BK127.out (by decide)) e_) hs_)); have n8_ := Aside0.mk (blk_kept (bz_ BK133.out) hkp (fun hs_ => (fun e_ => (Kd.R_ne HO_141002.out BK133.out (by decide)) e_) hs_)); have n9_ := Aside0.mk (blk_kept (bz_ BK140.out) hkp (fun hs_ => (fun e_ => (Kd.R_ne HO_141002.out BK140.out (by decide)) e_) hs_)); have n10_ := Aside0.mk (hb); clear HO_122002 HO_128002 HO_134002 HO_141002 BK101 BK102 BK121 BK127 BK133 BK140 HB; have HO_122002 := n0_; have HO_128002 := n1_; have HO_134002 := n2_; have HO_141002 := n3_; have BK101 := n4_; have BK102 := n5_; have BK121 := n6_; have BK127 := n7_; have BK133 := n8_; have BK140 := n9_; have HB := n10_; clear n0_ n1_ n2_ n3_ n4_ n5_ n6_ n7_ n8_ n9_ n10_; (try clear hb); (try clear hkp); (try clear hy0); have hcz150_0 : w149.cell? ⟨gb140, 0, none⟩ = some (.int .i64 t134) := (blk_cell BK140.out 0).trans rfl; have hcz150_1 : w149.cell? ⟨gb140, 1, none⟩ = some (.int .i64 t135) := (blk_cell BK140.out 1).trans rfl; have hcz150_2 : w149.cell? ⟨gb140, 2, none⟩ = some (.slice Ao73 t136.length co73) := (blk_cell BK140.out 2).trans rfl; have hfz150_0 := blk_frozen BK140.out 0; have hfz150_1 := blk_frozen BK140.out 1; have hfz150_2 := blk_frozen BK140.out 2) | ((with_reducible refine gate_callee (f := 26) rfl ?_); refine goesL_ (some 88) rfl rfl Try.func26 (by kernel_rfl) rfl #[.agg #[.int .i64 t134, .int .i64 t135, .slice Ao73 t160.length co73], .int .i64 1] rfl (by (try simp only [List.map_toArray, List.map_cons, List.map_nil]); first | done | (rw [show t160.length = t136.length from (Kd.R_reads' HO_141002.out).1.symm] <;> rfl) | rfl | (simp only [List.length_drop, List.length_take]; rfl)) ?_; (with_reducible refine (laws_heldRanks.calls kj96 t134 t135 _ _ t160 1 t161 _ ?side1 ?side2 A136.out).mono ?_); (case side1 => repeat (first | exact (Kd.R_reads' HO_141002.out).2.2 | (with_reducible refine Kd.C_alloc ?_ _) | (with_reducible refine Kd.C_drewN ?_ _) | (with_reducible refine Kd.C_drew ?_))); (case side2 => rw [show t160.length = t136.length from (Kd.R_reads' HO_141002.out).1.symm]; exact (Kd.R_reads' HO_141002.out).2.1); rintro e w151 ⟨rfl, hb⟩; refine ⟨_, rfl, ?_⟩; have n0_ := Aside0.mk (Kd.R_below (rz_ HO_122002.out) hb); have n1_ := Aside0.mk (Kd.R_below (rz_ HO_128002.out) hb); have n2_ := Aside0.mk (Kd.R_below (rz_ HO_134002.out) hb); have n3_ := Aside0.mk (Kd.R_below (rz_ HO_141002.out) hb); have n4_ := Aside0.mk (blk_below (bz_ BK101.out) hb); have n5_ := Aside0.mk (blk_below (bz_ BK102.out) hb); have n6_ := Aside0.mk (blk_below (bz_ BK121.out) hb); have n7_ := Aside0.mk (blk_below (bz_ BK127.out) hb); have n8_ := Aside0.mk (blk_below (bz_ BK133.out) hb); have n9_ := Aside0.mk (blk_below (bz_ BK140.out) hb); have n10_ := Aside0.mk (below_step (bw_ HB.out) hb); clear HO_122002 HO_128002 HO_134002 HO_141002 BK101 BK102 BK121 BK127 BK133 BK140 HB; have HO_122002 := n0_; have HO_128002 := n1_; have HO_134002 := n2_; have HO_141002 := n3_; have BK101 := n4_; have BK102 := n5_; have BK121 := n6_; have BK127 := n7_; have BK133 := n8_; have BK140 := n9_; have HB := n10_; clear n0_ n1_ n2_ n3_ n4_ n5_ n6_ n7_ n8_ n9_ n10_; (try clear hb); (try clear hb2); (try clear hk); (try clear hi)))
             have n0_ := Aside0.mk (Kd.R_drew HO_122002.out)
             have n1_ := Aside0.mk (Kd.R_drew HO_128002.out)
             have n2_ := Aside0.mk (Kd.R_drew HO_134002.out)
             have n3_ := Aside0.mk (Kd.R_drew HO_141002.out)
             have n4_ := Aside0.mk (blk_drew BK101.out)
             have n5_ := Aside0.mk (blk_drew BK102.out)
             have n6_ := Aside0.mk (blk_drew BK121.out)
             have n7_ := Aside0.mk (blk_drew BK127.out)
             have n8_ := Aside0.mk (blk_drew BK133.out)
             have n9_ := Aside0.mk (blk_drew BK140.out)
             have n10_ := Aside0.mk (below_drew1 HB.out)
             clear HO_122002
             clear HO_128002
             clear HO_134002
             clear HO_141002
             clear BK101
             clear BK102
             clear BK121
             clear BK127
             clear BK133
             clear BK140
             clear HB
             have HO_122002 := n0_
             have HO_128002 := n1_
             have HO_134002 := n2_
             have HO_141002 := n3_
             have BK101 := n4_
             have BK102 := n5_
             have BK121 := n6_
             have BK127 := n7_
             have BK133 := n8_
             have BK140 := n9_
             have HB := n10_
             clear n0_ n1_ n2_ n3_ n4_ n5_ n6_ n7_ n8_ n9_ n10_
             refine start_ (n := 11) (S := fun w' => w'.cell? ⟨gb101, 0, none⟩ = some (.int .i64 a0_0) ∧ w'.cell? ⟨gb101, 1, none⟩ = some (.int .i64 a0_1) ∧ w'.cell? ⟨gb101, 2, none⟩ = some (.slice A0_2 l0_2.length c0_2) ∧ w'.cell? ⟨gb102, 0, none⟩ = some (.int .i64 a1_0) ∧ w'.cell? ⟨gb102, 1, none⟩ = some (.int .i64 a1_1) ∧ w'.cell? ⟨gb102, 2, none⟩ = some (.slice A1_2 l1_2.length c1_2)) (ds := []) (fl 11 0) (by kernel_rfl) rfl rfl ⟨(blk_cell BK101.out 0).trans rfl, (blk_cell BK101.out 1).trans rfl, (blk_cell BK101.out 2).trans rfl, (blk_cell BK102.out 0).trans rfl, (blk_cell BK102.out 1).trans rfl, (blk_cell BK102.out 2).trans rfl⟩ (fun hHeld => ?_); refine with_tabW laws_FnExactAddRanks.tab31 laws_FnExactAddRanks.bits31 (fun HT_ HW_ => ?_)
             generalize w151.drew = w152 at HO_122002 HO_128002 HO_134002 HO_141002 BK101 BK102 BK121 BK127 BK133 BK140 HB hHeld ⊢
             refine tk_ (i := 0) (N := some 95) HT_.out HW_.out (fl 11 1) (by kernel_rfl) hHeld ?_
             refine tk_ (i := 2) (N := some 97) HT_.out HW_.out (fl 11 5) (by kernel_rfl) hHeld ?_
             refine join_ (σ := Value × Value × Value × Nat) 2 (fl 11 511) (fun s_ => [(96, .agg #[.int .i64 t162, .int .i64 t163, s_.1]), (98, .agg #[.int .i64 t167, .int .i64 t168, s_.2.1]), (99, .tuple #[.agg #[.int .i64 t172, .int .i64 t173, s_.2.2.1], .int .i64 t177]), (15, .pointer (some ⟨s_.2.2.2, 0, none⟩)), (94, .tuple #[.agg #[.int .i64 t172, .int .i64 t173, s_.2.2.1], .int .i64 t177]), (100, .agg #[.int .i64 t172, .int .i64 t173, s_.2.2.1]), (101, .int .i64 t177)]) (fun s_ w' => (w'.cell? ⟨gb101, 0, none⟩ = some (.int .i64 a0_0) ∧ w'.cell? ⟨gb101, 1, none⟩ = some (.int .i64 a0_1) ∧ w'.cell? ⟨gb101, 2, none⟩ = some (.slice A0_2 l0_2.length c0_2) ∧ w'.cell? ⟨gb102, 0, none⟩ = some (.int .i64 a1_0) ∧ w'.cell? ⟨gb102, 1, none⟩ = some (.int .i64 a1_1) ∧ w'.cell? ⟨gb102, 2, none⟩ = some (.slice A1_2 l1_2.length c1_2)) ∧ (Kd.R (Kd.int .i64) 2 w' w.heap.size (fun k_ => some k_ ≠ (s_.2.1 : Value).ownBlock ∧ some k_ ≠ (s_.2.2.1 : Value).ownBlock ∧ some k_ ≠ (.slice Ao43 t117.length co43 : Value).ownBlock ∧ some k_ ≠ (.slice Ao53 t155.length co53 : Value).ownBlock ∧ some k_ ≠ (.slice Ao63 t157.length co63 : Value).ownBlock ∧ some k_ ≠ (.slice Ao73 t136.length co73 : Value).ownBlock) s_.1 t164) ∧ (Kd.R (Kd.int .i64) 2 w' w.heap.size (fun k_ => some k_ ≠ (s_.1 : Value).ownBlock ∧ some k_ ≠ (s_.2.2.1 : Value).ownBlock ∧ some k_ ≠ (.slice Ao43 t117.length co43 : Value).ownBlock ∧ some k_ ≠ (.slice Ao53 t155.length co53 : Value).ownBlock ∧ some k_ ≠ (.slice Ao63 t157.length co63 : Value).ownBlock ∧ some k_ ≠ (.slice Ao73 t136.length co73 : Value).ownBlock) s_.2.1 t169) ∧ (Kd.R (Kd.int .i64) 2 w' w.heap.size (fun k_ => some k_ ≠ (s_.1 : Value).ownBlock ∧ some k_ ≠ (s_.2.1 : Value).ownBlock ∧ some k_ ≠ (.slice Ao43 t117.length co43 : Value).ownBlock ∧ some k_ ≠ (.slice Ao53 t155.length co53 : Value).ownBlock ∧ some k_ ≠ (.slice Ao63 t157.length co63 : Value).ownBlock ∧ some k_ ≠ (.slice Ao73 t136.length co73 : Value).ownBlock) s_.2.2.1 t174) ∧ (Kd.R (Kd.int .i64) 2 w' w.heap.size (fun k_ => some k_ ≠ (s_.1 : Value).ownBlock ∧ some k_ ≠ (s_.2.1 : Value).ownBlock ∧ some k_ ≠ (s_.2.2.1 : Value).ownBlock ∧ some k_ ≠ (.slice Ao53 t155.length co53 : Value).ownBlock ∧ some k_ ≠ (.slice Ao63 t157.length co63 : Value).ownBlock ∧ some k_ ≠ (.slice Ao73 t136.length co73 : Value).ownBlock) (.slice Ao43 t117.length co43) t117) ∧ (Kd.R (Kd.int .i64) 2 w' w.heap.size (fun k_ => some k_ ≠ (s_.1 : Value).ownBlock ∧ some k_ ≠ (s_.2.1 : Value).ownBlock ∧ some k_ ≠ (s_.2.2.1 : Value).ownBlock ∧ some k_ ≠ (.slice Ao43 t117.length co43 : Value).ownBlock ∧ some k_ ≠ (.slice Ao63 t157.length co63 : Value).ownBlock ∧ some k_ ≠ (.slice Ao73 t136.length co73 : Value).ownBlock) (.slice Ao53 t155.length co53) t155) ∧ (Kd.R (Kd.int .i64) 2 w' w.heap.size (fun k_ => some k_ ≠ (s_.1 : Value).ownBlock ∧ some k_ ≠ (s_.2.1 : Value).ownBlock ∧ some k_ ≠ (s_.2.2.1 : Value).ownBlock ∧ some k_ ≠ (.slice Ao43 t117.length co43 : Value).ownBlock ∧ some k_ ≠ (.slice Ao53 t155.length co53 : Value).ownBlock ∧ some k_ ≠ (.slice Ao73 t136.length co73 : Value).ownBlock) (.slice Ao63 t157.length co63) t157) ∧ (Kd.R (Kd.int .i64) 2 w' w.heap.size (fun k_ => some k_ ≠ (s_.1 : Value).ownBlock ∧ some k_ ≠ (s_.2.1 : Value).ownBlock ∧ some k_ ≠ (s_.2.2.1 : Value).ownBlock ∧ some k_ ≠ (.slice Ao43 t117.length co43 : Value).ownBlock ∧ some k_ ≠ (.slice Ao53 t155.length co53 : Value).ownBlock ∧ some k_ ≠ (.slice Ao63 t157.length co63 : Value).ownBlock) (.slice Ao73 t136.length co73) t160) ∧ (w'.heap[gb101]? = some (.cells #[.int .i64 a0_0, .int .i64 a0_1, .slice A0_2 l0_2.length c0_2] 30 (0, 0))) ∧ (w'.heap[gb102]? = some (.cells #[.int .i64 a1_0, .int .i64 a1_1, .slice A1_2 l1_2.length c1_2] 30 (0, 0))) ∧ (w'.heap[gb121]? = some (.cells #[.int .i64 t115, .int .i64 t116, .slice Ao43 t117.length co43] 33 (0, 0))) ∧ (w'.heap[gb127]? = some (.cells #[.int .i64 t122, .int .i64 t123, .slice Ao53 t155.length co53] 33 (0, 0))) ∧ (w'.heap[gb133]? = some (.cells #[.int .i64 t128, .int .i64 t129, .slice Ao63 t157.length co63] 33 (0, 0))) ∧ (w'.heap[gb140]? = some (.cells #[.int .i64 t134, .int .i64 t135, .slice Ao73 t136.length co73] 33 (0, 0))) ∧ (w'.heap[s_.2.2.2]? = some (.cells #[.int .i64 0, .int .i64 0, .slice none 0 0] 33 (0, 0))) ∧ (w.heap.size ≤ s_.2.2.2) ∧ (w.heap.size ≤ s_.2.2.2) ∧ (gb101 ≠ s_.2.2.2) ∧ (s_.2.2.2 ≠ gb101) ∧ (gb102 ≠ s_.2.2.2) ∧ (s_.2.2.2 ≠ gb102) ∧ (gb121 ≠ s_.2.2.2) ∧ (s_.2.2.2 ≠ gb121) ∧ (gb127 ≠ s_.2.2.2) ∧ (s_.2.2.2 ≠ gb127) ∧ (gb133 ≠ s_.2.2.2) ∧ (s_.2.2.2 ≠ gb133) ∧ (gb140 ≠ s_.2.2.2) ∧ (s_.2.2.2 ≠ gb140) ∧ (Below w.heap.size w w')) ?_ ?_
             rotate_left
             ·intro hCont
              refine two_ (i := 1) (j := 8) (Ni := some 96) (Nj := some 15) (fl 11 7) (fl 11 261) rfl rfl rfl rfl (two_of HT_.out (by kernel_rfl)) (by decide) (by decide) (fun K hK => ?_) (fun K hK => ?_)
              ·skip
               refine goes_ Try.func14 (by kernel_rfl) rfl #[.agg #[.int .i64 a0_0, .int .i64 a0_1, .slice A0_2 l0_2.length c0_2]] (by rfl) rfl rfl am_ ?_
               with_reducible refine (laws_toRanks.calls kj96 a0_0 a0_1 _ _ l0_2 t162 t163 t164 _ ?side1 ?side2 A139.out).mono ?_
               (case side1 => repeat (first | exact (Kd.C_below HR0_2.out HB.out) | (with_reducible refine Kd.C_alloc ?_ _) | (with_reducible refine Kd.C_drewN ?_ _) | (with_reducible refine Kd.C_drew ?_)))
               (case side2 => exact HC0_2.out)
               rintro e w153 ⟨v165, rfl, ho0, hb⟩
               refine ⟨_, rfl, ?_⟩
               have n0_ := Aside0.mk (Kd.R_elder' (rz_ HO_122002.out) (Kd.R_base ho0) hb)
               have n1_ := Aside0.mk (Kd.R_elder' (rz_ HO_128002.out) (Kd.R_base ho0) hb)
               have n2_ := Aside0.mk (Kd.R_elder' (rz_ HO_134002.out) (Kd.R_base ho0) hb)
               have n3_ := Aside0.mk (Kd.R_elder' (rz_ HO_141002.out) (Kd.R_base ho0) hb)
               have n4_ := Aside0.mk (Kd.R_lower (Kd.R_new' (Kd.R_new' (Kd.R_new' (Kd.R_new' ho0 (Kd.R_lt (rz_ HO_122002.out))) (Kd.R_lt (rz_ HO_128002.out))) (Kd.R_lt (rz_ HO_134002.out))) (Kd.R_lt (rz_ HO_141002.out))) (below_size (bw_ HB.out)))
               have n5_ := Aside0.mk (blk_below (bz_ BK101.out) hb)
               have n6_ := Aside0.mk (blk_below (bz_ BK102.out) hb)
               have n7_ := Aside0.mk (blk_below (bz_ BK121.out) hb)
               have n8_ := Aside0.mk (blk_below (bz_ BK127.out) hb)
               have n9_ := Aside0.mk (blk_below (bz_ BK133.out) hb)
               have n10_ := Aside0.mk (blk_below (bz_ BK140.out) hb)
               have n11_ := Aside0.mk (below_step (bw_ HB.out) hb)
               clear HO_122002
               clear HO_128002
               clear HO_134002
               clear HO_141002
               clear BK101
               clear BK102
               clear BK121
               clear BK127
               clear BK133
               clear BK140
               clear HB
               have HO_122002 := n0_
               have HO_128002 := n1_
               have HO_134002 := n2_
               have HO_141002 := n3_
               have HO166 := n4_
               have BK101 := n5_
               have BK102 := n6_
               have BK121 := n7_
               have BK127 := n8_
               have BK133 := n9_
               have BK140 := n10_
               have HB := n11_
               clear n0_ n1_ n2_ n3_ n4_ n5_ n6_ n7_ n8_ n9_ n10_ n11_
               (try clear hb)
               (try clear hb2)
               (try clear hk)
               (try clear hi)
               (try clear ho0)
               refine hK.out _ _ ⟨(blk_cell BK101.out 0).trans rfl, (blk_cell BK101.out 1).trans rfl, (blk_cell BK101.out 2).trans rfl, (blk_cell BK102.out 0).trans rfl, (blk_cell BK102.out 1).trans rfl, (blk_cell BK102.out 2).trans rfl⟩ (fun hHeld => ?_)
               clear hK K
               refine norm_ (a' := ?_) ?_ ?_
               rotate_left
               ·show Act.put _ (some 96) _ = _
                simp only [Act.put, List.setIfInBounds_toArray, List.set_cons_zero, List.set_cons_succ, i64_w, i32_w]
                rfl
               refine two_ (i := 3) (j := 8) (Ni := some 98) (Nj := some 15) (fl 11 15) (fl 11 263) rfl rfl rfl rfl (two_of HT_.out (by kernel_rfl)) (by decide) (by decide) (fun K hK => ?_) (fun K hK => ?_)
               ·skip
                refine goes_ Try.func14 (by kernel_rfl) rfl #[.agg #[.int .i64 a1_0, .int .i64 a1_1, .slice A1_2 l1_2.length c1_2]] (by rfl) rfl rfl am_ ?_
                with_reducible refine (laws_toRanks.calls kj96 a1_0 a1_1 _ _ l1_2 t167 t168 t169 _ ?side1 ?side2 A140.out).mono ?_
                (case side1 => repeat (first | exact (Kd.C_below HR1_2.out HB.out) | (with_reducible refine Kd.C_alloc ?_ _) | (with_reducible refine Kd.C_drewN ?_ _) | (with_reducible refine Kd.C_drew ?_)))
                (case side2 => exact HC1_2.out)
                rintro e w154 ⟨v170, rfl, ho0, hb⟩
                refine ⟨_, rfl, ?_⟩
                have n0_ := Aside0.mk (Kd.R_elder' (rz_ HO_122002.out) (Kd.R_base ho0) hb)
                have n1_ := Aside0.mk (Kd.R_elder' (rz_ HO_128002.out) (Kd.R_base ho0) hb)
                have n2_ := Aside0.mk (Kd.R_elder' (rz_ HO_134002.out) (Kd.R_base ho0) hb)
                have n3_ := Aside0.mk (Kd.R_elder' (rz_ HO_141002.out) (Kd.R_base ho0) hb)
                have n4_ := Aside0.mk (Kd.R_elder' (rz_ HO166.out) (Kd.R_base ho0) hb)
                have n5_ := Aside0.mk (Kd.R_lower (Kd.R_new' (Kd.R_new' (Kd.R_new' (Kd.R_new' (Kd.R_new' ho0 (Kd.R_lt (rz_ HO_122002.out))) (Kd.R_lt (rz_ HO_128002.out))) (Kd.R_lt (rz_ HO_134002.out))) (Kd.R_lt (rz_ HO_141002.out))) (Kd.R_lt (rz_ HO166.out))) (below_size (bw_ HB.out)))
                have n6_ := Aside0.mk (blk_below (bz_ BK101.out) hb)
                have n7_ := Aside0.mk (blk_below (bz_ BK102.out) hb)
                have n8_ := Aside0.mk (blk_below (bz_ BK121.out) hb)
                have n9_ := Aside0.mk (blk_below (bz_ BK127.out) hb)
                have n10_ := Aside0.mk (blk_below (bz_ BK133.out) hb)
                have n11_ := Aside0.mk (blk_below (bz_ BK140.out) hb)
                have n12_ := Aside0.mk (below_step (bw_ HB.out) hb)
                clear HO_122002
                clear HO_128002
                clear HO_134002
                clear HO_141002
                clear HO166
                clear BK101
                clear BK102
                clear BK121
                clear BK127
                clear BK133
                clear BK140
                clear HB
                have HO_122002 := n0_
                have HO_128002 := n1_
                have HO_134002 := n2_
                have HO_141002 := n3_
                have HO166 := n4_
                have HO171 := n5_
                have BK101 := n6_
                have BK102 := n7_
                have BK121 := n8_
                have BK127 := n9_
                have BK133 := n10_
                have BK140 := n11_
                have HB := n12_
                clear n0_ n1_ n2_ n3_ n4_ n5_ n6_ n7_ n8_ n9_ n10_ n11_ n12_
                (try clear hb)
                (try clear hb2)
                (try clear hk)
                (try clear hi)
                (try clear ho0)
                obtain ⟨Ao155, co155, eo155⟩ := Kd.R_slice HO166.out
                (first | subst eo155 | (injection eo155 with f1_ f2_ f3_; have f4_ := f1_.symm; have f5_ := f3_.symm; clear f1_ f2_ f3_; subst f4_; subst f5_))
                obtain ⟨Ao156, co156, eo156⟩ := Kd.R_slice HO171.out
                (first | subst eo156 | (injection eo156 with f1_ f2_ f3_; have f4_ := f1_.symm; have f5_ := f3_.symm; clear f1_ f2_ f3_; subst f4_; subst f5_))
                refine hK.out _ _ ⟨(blk_cell BK101.out 0).trans rfl, (blk_cell BK101.out 1).trans rfl, (blk_cell BK101.out 2).trans rfl, (blk_cell BK102.out 0).trans rfl, (blk_cell BK102.out 1).trans rfl, (blk_cell BK102.out 2).trans rfl⟩ (fun hHeld => ?_)
                clear hK K
                refine norm_ (a' := ?_) ?_ ?_
                rotate_left
                ·show Act.put _ (some 98) _ = _
                 simp only [Act.put, List.setIfInBounds_toArray, List.set_cons_zero, List.set_cons_succ, i64_w, i32_w]
                 rfl
                refine two_ (i := 4) (j := 8) (Ni := some 99) (Nj := some 15) (fl 11 31) (fl 11 271) rfl rfl rfl rfl (two_of HT_.out (by kernel_rfl)) (by decide) (by decide) (fun K hK => ?_) (fun K hK => ?_)
                ·skip
                 refine goes_ Try.func28 (by kernel_rfl) rfl #[.agg #[.int .i64 t162, .int .i64 t163, .slice Ao155 t164.length co155], .agg #[.int .i64 t167, .int .i64 t168, .slice Ao156 t169.length co156]] (by rfl) rfl rfl am_ ?_
                 with_reducible refine (impl_AddRanks.calls kj96 t162 t163 _ _ t164 t167 t168 _ _ t169 t172 t173 t174 t177 _ ?side1 ?side2 ?side3 ?side4 A141.out).mono ?_
                 (case side1 => repeat (first | exact (Kd.R_reads' HO166.out).2.2 | (with_reducible refine Kd.C_alloc ?_ _) | (with_reducible refine Kd.C_drewN ?_ _) | (with_reducible refine Kd.C_drew ?_)))
                 (case side2 => exact (Kd.R_reads' HO166.out).2.1)
                 (case side3 => repeat (first | exact (Kd.R_reads' HO171.out).2.2 | (with_reducible refine Kd.C_alloc ?_ _) | (with_reducible refine Kd.C_drewN ?_ _) | (with_reducible refine Kd.C_drew ?_)))
                 (case side4 => exact (Kd.R_reads' HO171.out).2.1)
                 rintro e w157 ⟨v175, rfl, ho0, hb⟩
                 refine ⟨_, rfl, ?_⟩
                 have n0_ := Aside0.mk (Kd.R_elder' (rz_ HO_122002.out) (Kd.R_base ho0) hb)
                 have n1_ := Aside0.mk (Kd.R_elder' (rz_ HO_128002.out) (Kd.R_base ho0) hb)
                 have n2_ := Aside0.mk (Kd.R_elder' (rz_ HO_134002.out) (Kd.R_base ho0) hb)
                 have n3_ := Aside0.mk (Kd.R_elder' (rz_ HO_141002.out) (Kd.R_base ho0) hb)
                 have n4_ := Aside0.mk (Kd.R_elder' (rz_ HO166.out) (Kd.R_base ho0) hb)
                 have n5_ := Aside0.mk (Kd.R_elder' (rz_ HO171.out) (Kd.R_base ho0) hb)
                 have n6_ := Aside0.mk (Kd.R_lower (Kd.R_new' (Kd.R_new' (Kd.R_new' (Kd.R_new' (Kd.R_new' (Kd.R_new' ho0 (Kd.R_lt (rz_ HO_122002.out))) (Kd.R_lt (rz_ HO_128002.out))) (Kd.R_lt (rz_ HO_134002.out))) (Kd.R_lt (rz_ HO_141002.out))) (Kd.R_lt (rz_ HO166.out))) (Kd.R_lt (rz_ HO171.out))) (below_size (bw_ HB.out)))
                 have n7_ := Aside0.mk (blk_below (bz_ BK101.out) hb)
                 have n8_ := Aside0.mk (blk_below (bz_ BK102.out) hb)
                 have n9_ := Aside0.mk (blk_below (bz_ BK121.out) hb)
                 have n10_ := Aside0.mk (blk_below (bz_ BK127.out) hb)
                 have n11_ := Aside0.mk (blk_below (bz_ BK133.out) hb)
                 have n12_ := Aside0.mk (blk_below (bz_ BK140.out) hb)
                 have n13_ := Aside0.mk (below_step (bw_ HB.out) hb)
                 clear HO_122002
                 clear HO_128002
                 clear HO_134002
                 clear HO_141002
                 clear HO166
                 clear HO171
                 clear BK101
                 clear BK102
                 clear BK121
                 clear BK127
                 clear BK133
                 clear BK140
                 clear HB
                 have HO_122002 := n0_
                 have HO_128002 := n1_
                 have HO_134002 := n2_
                 have HO_141002 := n3_
                 have HO166 := n4_
                 have HO171 := n5_
                 have HO176 := n6_
                 have BK101 := n7_
                 have BK102 := n8_
                 have BK121 := n9_
                 have BK127 := n10_
                 have BK133 := n11_
                 have BK140 := n12_
                 have HB := n13_
                 clear n0_ n1_ n2_ n3_ n4_ n5_ n6_ n7_ n8_ n9_ n10_ n11_ n12_ n13_
                 (try clear hb)
                 (try clear hb2)
                 (try clear hk)
                 (try clear hi)
                 (try clear ho0)
                 refine hK.out _ _ ⟨(blk_cell BK101.out 0).trans rfl, (blk_cell BK101.out 1).trans rfl, (blk_cell BK101.out 2).trans rfl, (blk_cell BK102.out 0).trans rfl, (blk_cell BK102.out 1).trans rfl, (blk_cell BK102.out 2).trans rfl⟩ (fun hHeld => ?_)
                 clear hK K
                 refine norm_ (a' := ?_) ?_ ?_
                 rotate_left
                 ·show Act.put _ (some 99) _ = _
                  simp only [Act.put, List.setIfInBounds_toArray, List.set_cons_zero, List.set_cons_succ, i64_w, i32_w]
                  rfl
                 refine pu_ (i := 5) (N := some 94) HT_.out (fl 11 63) (by kernel_rfl) ?_
                 refine pu_ (i := 6) (N := some 100) HT_.out (fl 11 127) (by kernel_rfl) ?_
                 refine pu_ (i := 7) (N := some 101) HT_.out (fl 11 255) (by kernel_rfl) ?_
                 refine one_ (i := 8) (N := some 15) (fl 11 511) rfl rfl (one_of HT_.out (by kernel_rfl)) (by decide) (fun K hK => ?_)
                 refine box_step ?hg (N := 15) ?hd (cs := #[.int .i64 0, .int .i64 0, .slice none 0 0]) (t := 33) ?hr ?_; (case hd => rfl); (case hg => rfl); (case hr => first | (go_simp; done) | (go_simp; rfl))
                 intro gb178 hg w158 hbox hb
                 have n0_ := Aside0.mk (Kd.R_below (rz_ HO_122002.out) hb)
                 have n1_ := Aside0.mk (Kd.R_below (rz_ HO_128002.out) hb)
                 have n2_ := Aside0.mk (Kd.R_below (rz_ HO_134002.out) hb)
                 have n3_ := Aside0.mk (Kd.R_below (rz_ HO_141002.out) hb)
                 have n4_ := Aside0.mk (Kd.R_below (rz_ HO166.out) hb)
                 have n5_ := Aside0.mk (Kd.R_below (rz_ HO171.out) hb)
                 have n6_ := Aside0.mk (Kd.R_below (rz_ HO176.out) hb)
                 have n7_ := Aside0.mk (blk_below (bz_ BK101.out) hb)
                 have n8_ := Aside0.mk (blk_below (bz_ BK102.out) hb)
                 have n9_ := Aside0.mk (blk_below (bz_ BK121.out) hb)
                 have n10_ := Aside0.mk (blk_below (bz_ BK127.out) hb)
                 have n11_ := Aside0.mk (blk_below (bz_ BK133.out) hb)
                 have n12_ := Aside0.mk (blk_below (bz_ BK140.out) hb)
                 have n13_ := Aside0.mk (below_step (bw_ HB.out) hb)
                 have n14_ := Aside0.mk (hbox)
                 have n15_ := Aside0.mk ((sz_ (below_size (bw_ HB.out)) hg : w.heap.size ≤ gb178))
                 have n16_ := Aside0.mk ((sz_ (below_size (bw_ HB.out)) hg : w.heap.size ≤ gb178))
                 have n17_ := Aside0.mk ((nl_ (blk_lt (bz_ BK101.out)) hg : gb101 ≠ gb178))
                 have n18_ := Aside0.mk ((ng_ (blk_lt (bz_ BK101.out)) hg : gb178 ≠ gb101))
                 have n19_ := Aside0.mk ((nl_ (blk_lt (bz_ BK102.out)) hg : gb102 ≠ gb178))
                 have n20_ := Aside0.mk ((ng_ (blk_lt (bz_ BK102.out)) hg : gb178 ≠ gb102))
                 have n21_ := Aside0.mk ((nl_ (blk_lt (bz_ BK121.out)) hg : gb121 ≠ gb178))
                 have n22_ := Aside0.mk ((ng_ (blk_lt (bz_ BK121.out)) hg : gb178 ≠ gb121))
                 have n23_ := Aside0.mk ((nl_ (blk_lt (bz_ BK127.out)) hg : gb127 ≠ gb178))
                 have n24_ := Aside0.mk ((ng_ (blk_lt (bz_ BK127.out)) hg : gb178 ≠ gb127))
                 have n25_ := Aside0.mk ((nl_ (blk_lt (bz_ BK133.out)) hg : gb133 ≠ gb178))
                 have n26_ := Aside0.mk ((ng_ (blk_lt (bz_ BK133.out)) hg : gb178 ≠ gb133))
                 have n27_ := Aside0.mk ((nl_ (blk_lt (bz_ BK140.out)) hg : gb140 ≠ gb178))
                 have n28_ := Aside0.mk ((ng_ (blk_lt (bz_ BK140.out)) hg : gb178 ≠ gb140))
                 clear HO_122002
                 clear HO_128002
                 clear HO_134002
                 clear HO_141002
                 clear HO166
                 clear HO171
                 clear HO176
                 clear BK101
                 clear BK102
                 clear BK121
                 clear BK127
                 clear BK133
                 clear BK140
                 clear HB
                 have HO_122002 := n0_
                 have HO_128002 := n1_
                 have HO_134002 := n2_
                 have HO_141002 := n3_
                 have HO166 := n4_
                 have HO171 := n5_
                 have HO176 := n6_
                 have BK101 := n7_
                 have BK102 := n8_
                 have BK121 := n9_
                 have BK127 := n10_
                 have BK133 := n11_
                 have BK140 := n12_
                 have HB := n13_
                 have BK178 := n14_
                 have GW178 := n15_
                 have GE178 := n16_
                 have NB101_178 := n17_
                 have NB178_101 := n18_
                 have NB102_178 := n19_
                 have NB178_102 := n20_
                 have NB121_178 := n21_
                 have NB178_121 := n22_
                 have NB127_178 := n23_
                 have NB178_127 := n24_
                 have NB133_178 := n25_
                 have NB178_133 := n26_
                 have NB140_178 := n27_
                 have NB178_140 := n28_
                 clear n0_ n1_ n2_ n3_ n4_ n5_ n6_ n7_ n8_ n9_ n10_ n11_ n12_ n13_ n14_ n15_ n16_ n17_ n18_ n19_ n20_ n21_ n22_ n23_ n24_ n25_ n26_ n27_ n28_
                 clear hb hbox hg
                 refine hK.out _ _ ⟨(blk_cell BK101.out 0).trans rfl, (blk_cell BK101.out 1).trans rfl, (blk_cell BK101.out 2).trans rfl, (blk_cell BK102.out 0).trans rfl, (blk_cell BK102.out 1).trans rfl, (blk_cell BK102.out 2).trans rfl⟩ (fun hHeld => ?_)
                 clear hK K
                 refine norm_ (a' := ?_) ?_ ?_
                 rotate_left
                 ·show Act.put _ (some 15) _ = _
                  simp only [Act.put, List.setIfInBounds_toArray, List.set_cons_zero, List.set_cons_succ, i64_w, i32_w]
                  rfl
                 exact norm_ (by simp only [putAll, Act.put, List.setIfInBounds_toArray, List.set_cons_zero, List.set_cons_succ]) (hCont (.slice Ao155 t164.length co155, .slice Ao156 t169.length co156, v175, gb178) _ ⟨hHeld, (by (with_reducible repeat (first | apply Kd.R_alloc | apply Kd.R_drewN | apply Kd.R_drew)); exact Kd.R_mono HO166.out (fun _ hk => ⟨hk.1.2, ⟨hk.2, ⟨hk.1.1.1.1.1.2, ⟨hk.1.1.1.1.2, ⟨hk.1.1.1.2, hk.1.1.2⟩⟩⟩⟩⟩)), (by (with_reducible repeat (first | apply Kd.R_alloc | apply Kd.R_drewN | apply Kd.R_drew)); exact Kd.R_mono HO171.out (fun _ hk => ⟨hk.1.2, ⟨hk.2, ⟨hk.1.1.1.1.1.2, ⟨hk.1.1.1.1.2, ⟨hk.1.1.1.2, hk.1.1.2⟩⟩⟩⟩⟩)), (by (with_reducible repeat (first | apply Kd.R_alloc | apply Kd.R_drewN | apply Kd.R_drew)); exact Kd.R_mono HO176.out (fun _ hk => ⟨hk.1.2, ⟨hk.2, ⟨hk.1.1.1.1.1.2, ⟨hk.1.1.1.1.2, ⟨hk.1.1.1.2, hk.1.1.2⟩⟩⟩⟩⟩)), (by (with_reducible repeat (first | apply Kd.R_alloc | apply Kd.R_drewN | apply Kd.R_drew)); exact Kd.R_mono HO_122002.out (fun _ hk => ⟨hk.1.1.2, ⟨hk.1.2, ⟨hk.2, ⟨hk.1.1.1.1, ⟨hk.1.1.1.2.1, hk.1.1.1.2.2⟩⟩⟩⟩⟩)), (by (with_reducible repeat (first | apply Kd.R_alloc | apply Kd.R_drewN | apply Kd.R_drew)); exact Kd.R_mono HO_128002.out (fun _ hk => ⟨hk.1.1.2, ⟨hk.1.2, ⟨hk.2, ⟨hk.1.1.1.1, ⟨hk.1.1.1.2.1, hk.1.1.1.2.2⟩⟩⟩⟩⟩)), (by (with_reducible repeat (first | apply Kd.R_alloc | apply Kd.R_drewN | apply Kd.R_drew)); exact Kd.R_mono HO_134002.out (fun _ hk => ⟨hk.1.1.2, ⟨hk.1.2, ⟨hk.2, ⟨hk.1.1.1.1, ⟨hk.1.1.1.2.1, hk.1.1.1.2.2⟩⟩⟩⟩⟩)), (by (with_reducible repeat (first | apply Kd.R_alloc | apply Kd.R_drewN | apply Kd.R_drew)); exact Kd.R_mono HO_141002.out (fun _ hk => ⟨hk.1.1.2, ⟨hk.1.2, ⟨hk.2, ⟨hk.1.1.1.1, ⟨hk.1.1.1.2.1, hk.1.1.1.2.2⟩⟩⟩⟩⟩)), (bz_ BK101.out), (bz_ BK102.out), (bz_ BK121.out), (bz_ BK127.out), (bz_ BK133.out), (bz_ BK140.out), (bz_ BK178.out), GW178.out, GE178.out, NB101_178.out, NB178_101.out, NB102_178.out, NB178_102.out, NB121_178.out, NB178_121.out, NB127_178.out, NB178_127.out, NB133_178.out, NB178_133.out, NB140_178.out, NB178_140.out, (bw_ HB.out)⟩)
                ·skip
                 refine box_step ?hg (N := 15) ?hd (cs := #[.int .i64 0, .int .i64 0, .slice none 0 0]) (t := 33) ?hr ?_; (case hd => rfl); (case hg => rfl); (case hr => first | (go_simp; done) | (go_simp; rfl))
                 intro gb178 hg w155 hbox hb
                 have n0_ := Aside0.mk (Kd.R_below (rz_ HO_122002.out) hb)
                 have n1_ := Aside0.mk (Kd.R_below (rz_ HO_128002.out) hb)
                 have n2_ := Aside0.mk (Kd.R_below (rz_ HO_134002.out) hb)
                 have n3_ := Aside0.mk (Kd.R_below (rz_ HO_141002.out) hb)
                 have n4_ := Aside0.mk (Kd.R_below (rz_ HO166.out) hb)
                 have n5_ := Aside0.mk (Kd.R_below (rz_ HO171.out) hb)
                 have n6_ := Aside0.mk (blk_below (bz_ BK101.out) hb)
                 have n7_ := Aside0.mk (blk_below (bz_ BK102.out) hb)
                 have n8_ := Aside0.mk (blk_below (bz_ BK121.out) hb)
                 have n9_ := Aside0.mk (blk_below (bz_ BK127.out) hb)
                 have n10_ := Aside0.mk (blk_below (bz_ BK133.out) hb)
                 have n11_ := Aside0.mk (blk_below (bz_ BK140.out) hb)
                 have n12_ := Aside0.mk (below_step (bw_ HB.out) hb)
                 have n13_ := Aside0.mk (hbox)
                 have n14_ := Aside0.mk ((sz_ (below_size (bw_ HB.out)) hg : w.heap.size ≤ gb178))
                 have n15_ := Aside0.mk ((sz_ (below_size (bw_ HB.out)) hg : w.heap.size ≤ gb178))
                 have n16_ := Aside0.mk ((nl_ (blk_lt (bz_ BK101.out)) hg : gb101 ≠ gb178))
                 have n17_ := Aside0.mk ((ng_ (blk_lt (bz_ BK101.out)) hg : gb178 ≠ gb101))
                 have n18_ := Aside0.mk ((nl_ (blk_lt (bz_ BK102.out)) hg : gb102 ≠ gb178))
                 have n19_ := Aside0.mk ((ng_ (blk_lt (bz_ BK102.out)) hg : gb178 ≠ gb102))
                 have n20_ := Aside0.mk ((nl_ (blk_lt (bz_ BK121.out)) hg : gb121 ≠ gb178))
                 have n21_ := Aside0.mk ((ng_ (blk_lt (bz_ BK121.out)) hg : gb178 ≠ gb121))
                 have n22_ := Aside0.mk ((nl_ (blk_lt (bz_ BK127.out)) hg : gb127 ≠ gb178))
                 have n23_ := Aside0.mk ((ng_ (blk_lt (bz_ BK127.out)) hg : gb178 ≠ gb127))
                 have n24_ := Aside0.mk ((nl_ (blk_lt (bz_ BK133.out)) hg : gb133 ≠ gb178))
                 have n25_ := Aside0.mk ((ng_ (blk_lt (bz_ BK133.out)) hg : gb178 ≠ gb133))
                 have n26_ := Aside0.mk ((nl_ (blk_lt (bz_ BK140.out)) hg : gb140 ≠ gb178))
                 have n27_ := Aside0.mk ((ng_ (blk_lt (bz_ BK140.out)) hg : gb178 ≠ gb140))
                 clear HO_122002
                 clear HO_128002
                 clear HO_134002
                 clear HO_141002
                 clear HO166
                 clear HO171
                 clear BK101
                 clear BK102
                 clear BK121
                 clear BK127
                 clear BK133
                 clear BK140
                 clear HB
                 have HO_122002 := n0_
                 have HO_128002 := n1_
                 have HO_134002 := n2_
                 have HO_141002 := n3_
                 have HO166 := n4_
                 have HO171 := n5_
                 have BK101 := n6_
                 have BK102 := n7_
                 have BK121 := n8_
                 have BK127 := n9_
                 have BK133 := n10_
                 have BK140 := n11_
                 have HB := n12_
                 have BK178 := n13_
                 have GW178 := n14_
                 have GE178 := n15_
                 have NB101_178 := n16_
                 have NB178_101 := n17_
                 have NB102_178 := n18_
                 have NB178_102 := n19_
                 have NB121_178 := n20_
                 have NB178_121 := n21_
                 have NB127_178 := n22_
                 have NB178_127 := n23_
                 have NB133_178 := n24_
                 have NB178_133 := n25_
                 have NB140_178 := n26_
                 have NB178_140 := n27_
                 clear n0_ n1_ n2_ n3_ n4_ n5_ n6_ n7_ n8_ n9_ n10_ n11_ n12_ n13_ n14_ n15_ n16_ n17_ n18_ n19_ n20_ n21_ n22_ n23_ n24_ n25_ n26_ n27_
                 clear hb hbox hg
                 obtain ⟨Ao156, co156, eo156⟩ := Kd.R_slice HO166.out
                 (first | subst eo156 | (injection eo156 with f1_ f2_ f3_; have f4_ := f1_.symm; have f5_ := f3_.symm; clear f1_ f2_ f3_; subst f4_; subst f5_))
                 obtain ⟨Ao157, co157, eo157⟩ := Kd.R_slice HO171.out
                 (first | subst eo157 | (injection eo157 with f1_ f2_ f3_; have f4_ := f1_.symm; have f5_ := f3_.symm; clear f1_ f2_ f3_; subst f4_; subst f5_))
                 refine hK.out _ _ ⟨(blk_cell BK101.out 0).trans rfl, (blk_cell BK101.out 1).trans rfl, (blk_cell BK101.out 2).trans rfl, (blk_cell BK102.out 0).trans rfl, (blk_cell BK102.out 1).trans rfl, (blk_cell BK102.out 2).trans rfl⟩ (fun hHeld => ?_)
                 clear hK K
                 refine norm_ (a' := ?_) ?_ ?_
                 rotate_left
                 ·show Act.put _ (some 15) _ = _
                  simp only [Act.put, List.setIfInBounds_toArray, List.set_cons_zero, List.set_cons_succ, i64_w, i32_w]
                  rfl
                 refine one_ (i := 4) (N := some 99) (fl 11 287) rfl rfl (one_of HT_.out (by kernel_rfl)) (by decide) (fun K hK => ?_)
                 refine goes_ Try.func28 (by kernel_rfl) rfl #[.agg #[.int .i64 t162, .int .i64 t163, .slice Ao156 t164.length co156], .agg #[.int .i64 t167, .int .i64 t168, .slice Ao157 t169.length co157]] (by rfl) rfl rfl am_ ?_
                 with_reducible refine (impl_AddRanks.calls kj96 t162 t163 _ _ t164 t167 t168 _ _ t169 t172 t173 t174 t177 _ ?side1 ?side2 ?side3 ?side4 A141.out).mono ?_
                 (case side1 => repeat (first | exact (Kd.R_reads' HO166.out).2.2 | (with_reducible refine Kd.C_alloc ?_ _) | (with_reducible refine Kd.C_drewN ?_ _) | (with_reducible refine Kd.C_drew ?_)))
                 (case side2 => exact (Kd.R_reads' HO166.out).2.1)
                 (case side3 => repeat (first | exact (Kd.R_reads' HO171.out).2.2 | (with_reducible refine Kd.C_alloc ?_ _) | (with_reducible refine Kd.C_drewN ?_ _) | (with_reducible refine Kd.C_drew ?_)))
                 (case side4 => exact (Kd.R_reads' HO171.out).2.1)
                 rintro e w158 ⟨v175, rfl, ho0, hb⟩
                 refine ⟨_, rfl, ?_⟩
                 have n0_ := Aside0.mk (Kd.R_elder' (rz_ HO_122002.out) (Kd.R_base ho0) hb)
                 have n1_ := Aside0.mk (Kd.R_elder' (rz_ HO_128002.out) (Kd.R_base ho0) hb)
                 have n2_ := Aside0.mk (Kd.R_elder' (rz_ HO_134002.out) (Kd.R_base ho0) hb)
                 have n3_ := Aside0.mk (Kd.R_elder' (rz_ HO_141002.out) (Kd.R_base ho0) hb)
                 have n4_ := Aside0.mk (Kd.R_elder' (rz_ HO166.out) (Kd.R_base ho0) hb)
                 have n5_ := Aside0.mk (Kd.R_elder' (rz_ HO171.out) (Kd.R_base ho0) hb)
                 have n6_ := Aside0.mk (Kd.R_lower (Kd.R_new' (Kd.R_new' (Kd.R_new' (Kd.R_new' (Kd.R_new' (Kd.R_new' ho0 (Kd.R_lt (rz_ HO_122002.out))) (Kd.R_lt (rz_ HO_128002.out))) (Kd.R_lt (rz_ HO_134002.out))) (Kd.R_lt (rz_ HO_141002.out))) (Kd.R_lt (rz_ HO166.out))) (Kd.R_lt (rz_ HO171.out))) (below_size (bw_ HB.out)))
                 have n7_ := Aside0.mk (blk_below (bz_ BK101.out) hb)
                 have n8_ := Aside0.mk (blk_below (bz_ BK102.out) hb)
                 have n9_ := Aside0.mk (blk_below (bz_ BK121.out) hb)
                 have n10_ := Aside0.mk (blk_below (bz_ BK127.out) hb)
                 have n11_ := Aside0.mk (blk_below (bz_ BK133.out) hb)
                 have n12_ := Aside0.mk (blk_below (bz_ BK140.out) hb)
                 have n13_ := Aside0.mk (blk_below (bz_ BK178.out) hb)
                 have n14_ := Aside0.mk (below_step (bw_ HB.out) hb)
                 clear HO_122002
                 clear HO_128002
                 clear HO_134002
                 clear HO_141002
                 clear HO166
                 clear HO171
                 clear BK101
                 clear BK102
                 clear BK121
                 clear BK127
                 clear BK133
                 clear BK140
                 clear BK178
                 clear HB
                 have HO_122002 := n0_
                 have HO_128002 := n1_
                 have HO_134002 := n2_
                 have HO_141002 := n3_
                 have HO166 := n4_
                 have HO171 := n5_
                 have HO176 := n6_
                 have BK101 := n7_
                 have BK102 := n8_
                 have BK121 := n9_
                 have BK127 := n10_
                 have BK133 := n11_
                 have BK140 := n12_
                 have BK178 := n13_
                 have HB := n14_
                 clear n0_ n1_ n2_ n3_ n4_ n5_ n6_ n7_ n8_ n9_ n10_ n11_ n12_ n13_ n14_
                 (try clear hb)
                 (try clear hb2)
                 (try clear hk)
                 (try clear hi)
                 (try clear ho0)
                 refine hK.out _ _ ⟨(blk_cell BK101.out 0).trans rfl, (blk_cell BK101.out 1).trans rfl, (blk_cell BK101.out 2).trans rfl, (blk_cell BK102.out 0).trans rfl, (blk_cell BK102.out 1).trans rfl, (blk_cell BK102.out 2).trans rfl⟩ (fun hHeld => ?_)
                 clear hK K
                 refine norm_ (a' := ?_) ?_ ?_
                 rotate_left
                 ·show Act.put _ (some 99) _ = _
                  simp only [Act.put, List.setIfInBounds_toArray, List.set_cons_zero, List.set_cons_succ, i64_w, i32_w]
                  rfl
                 refine pu_ (i := 5) (N := some 94) HT_.out (fl 11 319) (by kernel_rfl) ?_
                 refine pu_ (i := 6) (N := some 100) HT_.out (fl 11 383) (by kernel_rfl) ?_
                 refine pu_ (i := 7) (N := some 101) HT_.out (fl 11 511) (by kernel_rfl) ?_
                 exact norm_ (by simp only [putAll, Act.put, List.setIfInBounds_toArray, List.set_cons_zero, List.set_cons_succ]) (hCont (.slice Ao156 t164.length co156, .slice Ao157 t169.length co157, v175, gb178) _ ⟨hHeld, (by (with_reducible repeat (first | apply Kd.R_alloc | apply Kd.R_drewN | apply Kd.R_drew)); exact Kd.R_mono HO166.out (fun _ hk => ⟨hk.1.2, ⟨hk.2, ⟨hk.1.1.1.1.1.2, ⟨hk.1.1.1.1.2, ⟨hk.1.1.1.2, hk.1.1.2⟩⟩⟩⟩⟩)), (by (with_reducible repeat (first | apply Kd.R_alloc | apply Kd.R_drewN | apply Kd.R_drew)); exact Kd.R_mono HO171.out (fun _ hk => ⟨hk.1.2, ⟨hk.2, ⟨hk.1.1.1.1.1.2, ⟨hk.1.1.1.1.2, ⟨hk.1.1.1.2, hk.1.1.2⟩⟩⟩⟩⟩)), (by (with_reducible repeat (first | apply Kd.R_alloc | apply Kd.R_drewN | apply Kd.R_drew)); exact Kd.R_mono HO176.out (fun _ hk => ⟨hk.1.2, ⟨hk.2, ⟨hk.1.1.1.1.1.2, ⟨hk.1.1.1.1.2, ⟨hk.1.1.1.2, hk.1.1.2⟩⟩⟩⟩⟩)), (by (with_reducible repeat (first | apply Kd.R_alloc | apply Kd.R_drewN | apply Kd.R_drew)); exact Kd.R_mono HO_122002.out (fun _ hk => ⟨hk.1.1.2, ⟨hk.1.2, ⟨hk.2, ⟨hk.1.1.1.1, ⟨hk.1.1.1.2.1, hk.1.1.1.2.2⟩⟩⟩⟩⟩)), (by (with_reducible repeat (first | apply Kd.R_alloc | apply Kd.R_drewN | apply Kd.R_drew)); exact Kd.R_mono HO_128002.out (fun _ hk => ⟨hk.1.1.2, ⟨hk.1.2, ⟨hk.2, ⟨hk.1.1.1.1, ⟨hk.1.1.1.2.1, hk.1.1.1.2.2⟩⟩⟩⟩⟩)), (by (with_reducible repeat (first | apply Kd.R_alloc | apply Kd.R_drewN | apply Kd.R_drew)); exact Kd.R_mono HO_134002.out (fun _ hk => ⟨hk.1.1.2, ⟨hk.1.2, ⟨hk.2, ⟨hk.1.1.1.1, ⟨hk.1.1.1.2.1, hk.1.1.1.2.2⟩⟩⟩⟩⟩)), (by (with_reducible repeat (first | apply Kd.R_alloc | apply Kd.R_drewN | apply Kd.R_drew)); exact Kd.R_mono HO_141002.out (fun _ hk => ⟨hk.1.1.2, ⟨hk.1.2, ⟨hk.2, ⟨hk.1.1.1.1, ⟨hk.1.1.1.2.1, hk.1.1.1.2.2⟩⟩⟩⟩⟩)), (bz_ BK101.out), (bz_ BK102.out), (bz_ BK121.out), (bz_ BK127.out), (bz_ BK133.out), (bz_ BK140.out), (bz_ BK178.out), GW178.out, GE178.out, NB101_178.out, NB178_101.out, NB102_178.out, NB178_102.out, NB121_178.out, NB178_121.out, NB127_178.out, NB178_127.out, NB133_178.out, NB178_133.out, NB140_178.out, NB178_140.out, (bw_ HB.out)⟩)
               ·skip
                refine box_step ?hg (N := 15) ?hd (cs := #[.int .i64 0, .int .i64 0, .slice none 0 0]) (t := 33) ?hr ?_; (case hd => rfl); (case hg => rfl); (case hr => first | (go_simp; done) | (go_simp; rfl))
                intro gb178 hg w154 hbox hb
                have n0_ := Aside0.mk (Kd.R_below (rz_ HO_122002.out) hb)
                have n1_ := Aside0.mk (Kd.R_below (rz_ HO_128002.out) hb)
                have n2_ := Aside0.mk (Kd.R_below (rz_ HO_134002.out) hb)
                have n3_ := Aside0.mk (Kd.R_below (rz_ HO_141002.out) hb)
                have n4_ := Aside0.mk (Kd.R_below (rz_ HO166.out) hb)
                have n5_ := Aside0.mk (blk_below (bz_ BK101.out) hb)
                have n6_ := Aside0.mk (blk_below (bz_ BK102.out) hb)
                have n7_ := Aside0.mk (blk_below (bz_ BK121.out) hb)
                have n8_ := Aside0.mk (blk_below (bz_ BK127.out) hb)
                have n9_ := Aside0.mk (blk_below (bz_ BK133.out) hb)
                have n10_ := Aside0.mk (blk_below (bz_ BK140.out) hb)
                have n11_ := Aside0.mk (below_step (bw_ HB.out) hb)
                have n12_ := Aside0.mk (hbox)
                have n13_ := Aside0.mk ((sz_ (below_size (bw_ HB.out)) hg : w.heap.size ≤ gb178))
                have n14_ := Aside0.mk ((sz_ (below_size (bw_ HB.out)) hg : w.heap.size ≤ gb178))
                have n15_ := Aside0.mk ((nl_ (blk_lt (bz_ BK101.out)) hg : gb101 ≠ gb178))
                have n16_ := Aside0.mk ((ng_ (blk_lt (bz_ BK101.out)) hg : gb178 ≠ gb101))
                have n17_ := Aside0.mk ((nl_ (blk_lt (bz_ BK102.out)) hg : gb102 ≠ gb178))
                have n18_ := Aside0.mk ((ng_ (blk_lt (bz_ BK102.out)) hg : gb178 ≠ gb102))
                have n19_ := Aside0.mk ((nl_ (blk_lt (bz_ BK121.out)) hg : gb121 ≠ gb178))
                have n20_ := Aside0.mk ((ng_ (blk_lt (bz_ BK121.out)) hg : gb178 ≠ gb121))
                have n21_ := Aside0.mk ((nl_ (blk_lt (bz_ BK127.out)) hg : gb127 ≠ gb178))
                have n22_ := Aside0.mk ((ng_ (blk_lt (bz_ BK127.out)) hg : gb178 ≠ gb127))
                have n23_ := Aside0.mk ((nl_ (blk_lt (bz_ BK133.out)) hg : gb133 ≠ gb178))
                have n24_ := Aside0.mk ((ng_ (blk_lt (bz_ BK133.out)) hg : gb178 ≠ gb133))
                have n25_ := Aside0.mk ((nl_ (blk_lt (bz_ BK140.out)) hg : gb140 ≠ gb178))
                have n26_ := Aside0.mk ((ng_ (blk_lt (bz_ BK140.out)) hg : gb178 ≠ gb140))
                clear HO_122002
                clear HO_128002
                clear HO_134002
                clear HO_141002
                clear HO166
                clear BK101
                clear BK102
                clear BK121
                clear BK127
                clear BK133
                clear BK140
                clear HB
                have HO_122002 := n0_
                have HO_128002 := n1_
                have HO_134002 := n2_
                have HO_141002 := n3_
                have HO166 := n4_
                have BK101 := n5_
                have BK102 := n6_
                have BK121 := n7_
                have BK127 := n8_
                have BK133 := n9_
                have BK140 := n10_
                have HB := n11_
                have BK178 := n12_
                have GW178 := n13_
                have GE178 := n14_
                have NB101_178 := n15_
                have NB178_101 := n16_
                have NB102_178 := n17_
                have NB178_102 := n18_
                have NB121_178 := n19_
                have NB178_121 := n20_
                have NB127_178 := n21_
                have NB178_127 := n22_
                have NB133_178 := n23_
                have NB178_133 := n24_
                have NB140_178 := n25_
                have NB178_140 := n26_
                clear n0_ n1_ n2_ n3_ n4_ n5_ n6_ n7_ n8_ n9_ n10_ n11_ n12_ n13_ n14_ n15_ n16_ n17_ n18_ n19_ n20_ n21_ n22_ n23_ n24_ n25_ n26_
                clear hb hbox hg
                refine hK.out _ _ ⟨(blk_cell BK101.out 0).trans rfl, (blk_cell BK101.out 1).trans rfl, (blk_cell BK101.out 2).trans rfl, (blk_cell BK102.out 0).trans rfl, (blk_cell BK102.out 1).trans rfl, (blk_cell BK102.out 2).trans rfl⟩ (fun hHeld => ?_)
                clear hK K
                refine norm_ (a' := ?_) ?_ ?_
                rotate_left
                ·show Act.put _ (some 15) _ = _
                 simp only [Act.put, List.setIfInBounds_toArray, List.set_cons_zero, List.set_cons_succ, i64_w, i32_w]
                 rfl
                refine one_ (i := 3) (N := some 98) (fl 11 271) rfl rfl (one_of HT_.out (by kernel_rfl)) (by decide) (fun K hK => ?_)
                refine goes_ Try.func14 (by kernel_rfl) rfl #[.agg #[.int .i64 a1_0, .int .i64 a1_1, .slice A1_2 l1_2.length c1_2]] (by rfl) rfl rfl am_ ?_
                with_reducible refine (laws_toRanks.calls kj96 a1_0 a1_1 _ _ l1_2 t167 t168 t169 _ ?side1 ?side2 A140.out).mono ?_
                (case side1 => repeat (first | exact (Kd.C_below HR1_2.out HB.out) | (with_reducible refine Kd.C_alloc ?_ _) | (with_reducible refine Kd.C_drewN ?_ _) | (with_reducible refine Kd.C_drew ?_)))
                (case side2 => exact HC1_2.out)
                rintro e w155 ⟨v170, rfl, ho0, hb⟩
                refine ⟨_, rfl, ?_⟩
                have n0_ := Aside0.mk (Kd.R_elder' (rz_ HO_122002.out) (Kd.R_base ho0) hb)
                have n1_ := Aside0.mk (Kd.R_elder' (rz_ HO_128002.out) (Kd.R_base ho0) hb)
                have n2_ := Aside0.mk (Kd.R_elder' (rz_ HO_134002.out) (Kd.R_base ho0) hb)
                have n3_ := Aside0.mk (Kd.R_elder' (rz_ HO_141002.out) (Kd.R_base ho0) hb)
                have n4_ := Aside0.mk (Kd.R_elder' (rz_ HO166.out) (Kd.R_base ho0) hb)
                have n5_ := Aside0.mk (Kd.R_lower (Kd.R_new' (Kd.R_new' (Kd.R_new' (Kd.R_new' (Kd.R_new' ho0 (Kd.R_lt (rz_ HO_122002.out))) (Kd.R_lt (rz_ HO_128002.out))) (Kd.R_lt (rz_ HO_134002.out))) (Kd.R_lt (rz_ HO_141002.out))) (Kd.R_lt (rz_ HO166.out))) (below_size (bw_ HB.out)))
                have n6_ := Aside0.mk (blk_below (bz_ BK101.out) hb)
                have n7_ := Aside0.mk (blk_below (bz_ BK102.out) hb)
                have n8_ := Aside0.mk (blk_below (bz_ BK121.out) hb)
                have n9_ := Aside0.mk (blk_below (bz_ BK127.out) hb)
                have n10_ := Aside0.mk (blk_below (bz_ BK133.out) hb)
                have n11_ := Aside0.mk (blk_below (bz_ BK140.out) hb)
                have n12_ := Aside0.mk (blk_below (bz_ BK178.out) hb)
                have n13_ := Aside0.mk (below_step (bw_ HB.out) hb)
                clear HO_122002
                clear HO_128002
                clear HO_134002
                clear HO_141002
                clear HO166
                clear BK101
                clear BK102
                clear BK121
                clear BK127
                clear BK133
                clear BK140
                clear BK178
                clear HB
                have HO_122002 := n0_
                have HO_128002 := n1_
                have HO_134002 := n2_
                have HO_141002 := n3_
                have HO166 := n4_
                have HO171 := n5_
                have BK101 := n6_
                have BK102 := n7_
                have BK121 := n8_
                have BK127 := n9_
                have BK133 := n10_
                have BK140 := n11_
                have BK178 := n12_
                have HB := n13_
                clear n0_ n1_ n2_ n3_ n4_ n5_ n6_ n7_ n8_ n9_ n10_ n11_ n12_ n13_
                (try clear hb)
                (try clear hb2)
                (try clear hk)
                (try clear hi)
                (try clear ho0)
                obtain ⟨Ao156, co156, eo156⟩ := Kd.R_slice HO166.out
                (first | subst eo156 | (injection eo156 with f1_ f2_ f3_; have f4_ := f1_.symm; have f5_ := f3_.symm; clear f1_ f2_ f3_; subst f4_; subst f5_))
                obtain ⟨Ao157, co157, eo157⟩ := Kd.R_slice HO171.out
                (first | subst eo157 | (injection eo157 with f1_ f2_ f3_; have f4_ := f1_.symm; have f5_ := f3_.symm; clear f1_ f2_ f3_; subst f4_; subst f5_))
                refine hK.out _ _ ⟨(blk_cell BK101.out 0).trans rfl, (blk_cell BK101.out 1).trans rfl, (blk_cell BK101.out 2).trans rfl, (blk_cell BK102.out 0).trans rfl, (blk_cell BK102.out 1).trans rfl, (blk_cell BK102.out 2).trans rfl⟩ (fun hHeld => ?_)
                clear hK K
                refine norm_ (a' := ?_) ?_ ?_
                rotate_left
                ·show Act.put _ (some 98) _ = _
                 simp only [Act.put, List.setIfInBounds_toArray, List.set_cons_zero, List.set_cons_succ, i64_w, i32_w]
                 rfl
                refine one_ (i := 4) (N := some 99) (fl 11 287) rfl rfl (one_of HT_.out (by kernel_rfl)) (by decide) (fun K hK => ?_)
                refine goes_ Try.func28 (by kernel_rfl) rfl #[.agg #[.int .i64 t162, .int .i64 t163, .slice Ao156 t164.length co156], .agg #[.int .i64 t167, .int .i64 t168, .slice Ao157 t169.length co157]] (by rfl) rfl rfl am_ ?_
                with_reducible refine (impl_AddRanks.calls kj96 t162 t163 _ _ t164 t167 t168 _ _ t169 t172 t173 t174 t177 _ ?side1 ?side2 ?side3 ?side4 A141.out).mono ?_
                (case side1 => repeat (first | exact (Kd.R_reads' HO166.out).2.2 | (with_reducible refine Kd.C_alloc ?_ _) | (with_reducible refine Kd.C_drewN ?_ _) | (with_reducible refine Kd.C_drew ?_)))
                (case side2 => exact (Kd.R_reads' HO166.out).2.1)
                (case side3 => repeat (first | exact (Kd.R_reads' HO171.out).2.2 | (with_reducible refine Kd.C_alloc ?_ _) | (with_reducible refine Kd.C_drewN ?_ _) | (with_reducible refine Kd.C_drew ?_)))
                (case side4 => exact (Kd.R_reads' HO171.out).2.1)
                rintro e w158 ⟨v175, rfl, ho0, hb⟩
                refine ⟨_, rfl, ?_⟩
                have n0_ := Aside0.mk (Kd.R_elder' (rz_ HO_122002.out) (Kd.R_base ho0) hb)
                have n1_ := Aside0.mk (Kd.R_elder' (rz_ HO_128002.out) (Kd.R_base ho0) hb)
                have n2_ := Aside0.mk (Kd.R_elder' (rz_ HO_134002.out) (Kd.R_base ho0) hb)
                have n3_ := Aside0.mk (Kd.R_elder' (rz_ HO_141002.out) (Kd.R_base ho0) hb)
                have n4_ := Aside0.mk (Kd.R_elder' (rz_ HO166.out) (Kd.R_base ho0) hb)
                have n5_ := Aside0.mk (Kd.R_elder' (rz_ HO171.out) (Kd.R_base ho0) hb)
                have n6_ := Aside0.mk (Kd.R_lower (Kd.R_new' (Kd.R_new' (Kd.R_new' (Kd.R_new' (Kd.R_new' (Kd.R_new' ho0 (Kd.R_lt (rz_ HO_122002.out))) (Kd.R_lt (rz_ HO_128002.out))) (Kd.R_lt (rz_ HO_134002.out))) (Kd.R_lt (rz_ HO_141002.out))) (Kd.R_lt (rz_ HO166.out))) (Kd.R_lt (rz_ HO171.out))) (below_size (bw_ HB.out)))
                have n7_ := Aside0.mk (blk_below (bz_ BK101.out) hb)
                have n8_ := Aside0.mk (blk_below (bz_ BK102.out) hb)
                have n9_ := Aside0.mk (blk_below (bz_ BK121.out) hb)
                have n10_ := Aside0.mk (blk_below (bz_ BK127.out) hb)
                have n11_ := Aside0.mk (blk_below (bz_ BK133.out) hb)
                have n12_ := Aside0.mk (blk_below (bz_ BK140.out) hb)
                have n13_ := Aside0.mk (blk_below (bz_ BK178.out) hb)
                have n14_ := Aside0.mk (below_step (bw_ HB.out) hb)
                clear HO_122002
                clear HO_128002
                clear HO_134002
                clear HO_141002
                clear HO166
                clear HO171
                clear BK101
                clear BK102
                clear BK121
                clear BK127
                clear BK133
                clear BK140
                clear BK178
                clear HB
                have HO_122002 := n0_
                have HO_128002 := n1_
                have HO_134002 := n2_
                have HO_141002 := n3_
                have HO166 := n4_
                have HO171 := n5_
                have HO176 := n6_
                have BK101 := n7_
                have BK102 := n8_
                have BK121 := n9_
                have BK127 := n10_
                have BK133 := n11_
                have BK140 := n12_
                have BK178 := n13_
                have HB := n14_
                clear n0_ n1_ n2_ n3_ n4_ n5_ n6_ n7_ n8_ n9_ n10_ n11_ n12_ n13_ n14_
                (try clear hb)
                (try clear hb2)
                (try clear hk)
                (try clear hi)
                (try clear ho0)
                refine hK.out _ _ ⟨(blk_cell BK101.out 0).trans rfl, (blk_cell BK101.out 1).trans rfl, (blk_cell BK101.out 2).trans rfl, (blk_cell BK102.out 0).trans rfl, (blk_cell BK102.out 1).trans rfl, (blk_cell BK102.out 2).trans rfl⟩ (fun hHeld => ?_)
                clear hK K
                refine norm_ (a' := ?_) ?_ ?_
                rotate_left
                ·show Act.put _ (some 99) _ = _
                 simp only [Act.put, List.setIfInBounds_toArray, List.set_cons_zero, List.set_cons_succ, i64_w, i32_w]
                 rfl
                refine pu_ (i := 5) (N := some 94) HT_.out (fl 11 319) (by kernel_rfl) ?_
                refine pu_ (i := 6) (N := some 100) HT_.out (fl 11 383) (by kernel_rfl) ?_
                refine pu_ (i := 7) (N := some 101) HT_.out (fl 11 511) (by kernel_rfl) ?_
                exact norm_ (by simp only [putAll, Act.put, List.setIfInBounds_toArray, List.set_cons_zero, List.set_cons_succ]) (hCont (.slice Ao156 t164.length co156, .slice Ao157 t169.length co157, v175, gb178) _ ⟨hHeld, (by (with_reducible repeat (first | apply Kd.R_alloc | apply Kd.R_drewN | apply Kd.R_drew)); exact Kd.R_mono HO166.out (fun _ hk => ⟨hk.1.2, ⟨hk.2, ⟨hk.1.1.1.1.1.2, ⟨hk.1.1.1.1.2, ⟨hk.1.1.1.2, hk.1.1.2⟩⟩⟩⟩⟩)), (by (with_reducible repeat (first | apply Kd.R_alloc | apply Kd.R_drewN | apply Kd.R_drew)); exact Kd.R_mono HO171.out (fun _ hk => ⟨hk.1.2, ⟨hk.2, ⟨hk.1.1.1.1.1.2, ⟨hk.1.1.1.1.2, ⟨hk.1.1.1.2, hk.1.1.2⟩⟩⟩⟩⟩)), (by (with_reducible repeat (first | apply Kd.R_alloc | apply Kd.R_drewN | apply Kd.R_drew)); exact Kd.R_mono HO176.out (fun _ hk => ⟨hk.1.2, ⟨hk.2, ⟨hk.1.1.1.1.1.2, ⟨hk.1.1.1.1.2, ⟨hk.1.1.1.2, hk.1.1.2⟩⟩⟩⟩⟩)), (by (with_reducible repeat (first | apply Kd.R_alloc | apply Kd.R_drewN | apply Kd.R_drew)); exact Kd.R_mono HO_122002.out (fun _ hk => ⟨hk.1.1.2, ⟨hk.1.2, ⟨hk.2, ⟨hk.1.1.1.1, ⟨hk.1.1.1.2.1, hk.1.1.1.2.2⟩⟩⟩⟩⟩)), (by (with_reducible repeat (first | apply Kd.R_alloc | apply Kd.R_drewN | apply Kd.R_drew)); exact Kd.R_mono HO_128002.out (fun _ hk => ⟨hk.1.1.2, ⟨hk.1.2, ⟨hk.2, ⟨hk.1.1.1.1, ⟨hk.1.1.1.2.1, hk.1.1.1.2.2⟩⟩⟩⟩⟩)), (by (with_reducible repeat (first | apply Kd.R_alloc | apply Kd.R_drewN | apply Kd.R_drew)); exact Kd.R_mono HO_134002.out (fun _ hk => ⟨hk.1.1.2, ⟨hk.1.2, ⟨hk.2, ⟨hk.1.1.1.1, ⟨hk.1.1.1.2.1, hk.1.1.1.2.2⟩⟩⟩⟩⟩)), (by (with_reducible repeat (first | apply Kd.R_alloc | apply Kd.R_drewN | apply Kd.R_drew)); exact Kd.R_mono HO_141002.out (fun _ hk => ⟨hk.1.1.2, ⟨hk.1.2, ⟨hk.2, ⟨hk.1.1.1.1, ⟨hk.1.1.1.2.1, hk.1.1.1.2.2⟩⟩⟩⟩⟩)), (bz_ BK101.out), (bz_ BK102.out), (bz_ BK121.out), (bz_ BK127.out), (bz_ BK133.out), (bz_ BK140.out), (bz_ BK178.out), GW178.out, GE178.out, NB101_178.out, NB178_101.out, NB102_178.out, NB178_102.out, NB121_178.out, NB178_121.out, NB127_178.out, NB178_127.out, NB133_178.out, NB178_133.out, NB140_178.out, NB178_140.out, (bw_ HB.out)⟩)
              ·skip
               refine box_step ?hg (N := 15) ?hd (cs := #[.int .i64 0, .int .i64 0, .slice none 0 0]) (t := 33) ?hr ?_; (case hd => rfl); (case hg => rfl); (case hr => first | (go_simp; done) | (go_simp; rfl))
               intro gb178 hg w153 hbox hb
               have n0_ := Aside0.mk (Kd.R_below (rz_ HO_122002.out) hb)
               have n1_ := Aside0.mk (Kd.R_below (rz_ HO_128002.out) hb)
               have n2_ := Aside0.mk (Kd.R_below (rz_ HO_134002.out) hb)
               have n3_ := Aside0.mk (Kd.R_below (rz_ HO_141002.out) hb)
               have n4_ := Aside0.mk (blk_below (bz_ BK101.out) hb)
               have n5_ := Aside0.mk (blk_below (bz_ BK102.out) hb)
               have n6_ := Aside0.mk (blk_below (bz_ BK121.out) hb)
               have n7_ := Aside0.mk (blk_below (bz_ BK127.out) hb)
               have n8_ := Aside0.mk (blk_below (bz_ BK133.out) hb)
               have n9_ := Aside0.mk (blk_below (bz_ BK140.out) hb)
               have n10_ := Aside0.mk (below_step (bw_ HB.out) hb)
               have n11_ := Aside0.mk (hbox)
               have n12_ := Aside0.mk ((sz_ (below_size (bw_ HB.out)) hg : w.heap.size ≤ gb178))
               have n13_ := Aside0.mk ((sz_ (below_size (bw_ HB.out)) hg : w.heap.size ≤ gb178))
               have n14_ := Aside0.mk ((nl_ (blk_lt (bz_ BK101.out)) hg : gb101 ≠ gb178))
               have n15_ := Aside0.mk ((ng_ (blk_lt (bz_ BK101.out)) hg : gb178 ≠ gb101))
               have n16_ := Aside0.mk ((nl_ (blk_lt (bz_ BK102.out)) hg : gb102 ≠ gb178))
               have n17_ := Aside0.mk ((ng_ (blk_lt (bz_ BK102.out)) hg : gb178 ≠ gb102))
               have n18_ := Aside0.mk ((nl_ (blk_lt (bz_ BK121.out)) hg : gb121 ≠ gb178))
               have n19_ := Aside0.mk ((ng_ (blk_lt (bz_ BK121.out)) hg : gb178 ≠ gb121))
               have n20_ := Aside0.mk ((nl_ (blk_lt (bz_ BK127.out)) hg : gb127 ≠ gb178))
               have n21_ := Aside0.mk ((ng_ (blk_lt (bz_ BK127.out)) hg : gb178 ≠ gb127))
               have n22_ := Aside0.mk ((nl_ (blk_lt (bz_ BK133.out)) hg : gb133 ≠ gb178))
               have n23_ := Aside0.mk ((ng_ (blk_lt (bz_ BK133.out)) hg : gb178 ≠ gb133))
               have n24_ := Aside0.mk ((nl_ (blk_lt (bz_ BK140.out)) hg : gb140 ≠ gb178))
               have n25_ := Aside0.mk ((ng_ (blk_lt (bz_ BK140.out)) hg : gb178 ≠ gb140))
               clear HO_122002
               clear HO_128002
               clear HO_134002
               clear HO_141002
               clear BK101
               clear BK102
               clear BK121
               clear BK127
               clear BK133
               clear BK140
               clear HB
               have HO_122002 := n0_
               have HO_128002 := n1_
               have HO_134002 := n2_
               have HO_141002 := n3_
               have BK101 := n4_
               have BK102 := n5_
               have BK121 := n6_
               have BK127 := n7_
               have BK133 := n8_
               have BK140 := n9_
               have HB := n10_
               have BK178 := n11_
               have GW178 := n12_
               have GE178 := n13_
               have NB101_178 := n14_
               have NB178_101 := n15_
               have NB102_178 := n16_
               have NB178_102 := n17_
               have NB121_178 := n18_
               have NB178_121 := n19_
               have NB127_178 := n20_
               have NB178_127 := n21_
               have NB133_178 := n22_
               have NB178_133 := n23_
               have NB140_178 := n24_
               have NB178_140 := n25_
               clear n0_ n1_ n2_ n3_ n4_ n5_ n6_ n7_ n8_ n9_ n10_ n11_ n12_ n13_ n14_ n15_ n16_ n17_ n18_ n19_ n20_ n21_ n22_ n23_ n24_ n25_
               clear hb hbox hg
               refine hK.out _ _ ⟨(blk_cell BK101.out 0).trans rfl, (blk_cell BK101.out 1).trans rfl, (blk_cell BK101.out 2).trans rfl, (blk_cell BK102.out 0).trans rfl, (blk_cell BK102.out 1).trans rfl, (blk_cell BK102.out 2).trans rfl⟩ (fun hHeld => ?_)
               clear hK K
               refine norm_ (a' := ?_) ?_ ?_
               rotate_left
               ·show Act.put _ (some 15) _ = _
                simp only [Act.put, List.setIfInBounds_toArray, List.set_cons_zero, List.set_cons_succ, i64_w, i32_w]
                rfl
               refine one_ (i := 1) (N := some 96) (fl 11 263) rfl rfl (one_of HT_.out (by kernel_rfl)) (by decide) (fun K hK => ?_)
               refine goes_ Try.func14 (by kernel_rfl) rfl #[.agg #[.int .i64 a0_0, .int .i64 a0_1, .slice A0_2 l0_2.length c0_2]] (by rfl) rfl rfl am_ ?_
               with_reducible refine (laws_toRanks.calls kj96 a0_0 a0_1 _ _ l0_2 t162 t163 t164 _ ?side1 ?side2 A139.out).mono ?_
               (case side1 => repeat (first | exact (Kd.C_below HR0_2.out HB.out) | (with_reducible refine Kd.C_alloc ?_ _) | (with_reducible refine Kd.C_drewN ?_ _) | (with_reducible refine Kd.C_drew ?_)))
               (case side2 => exact HC0_2.out)
               rintro e w154 ⟨v165, rfl, ho0, hb⟩
               refine ⟨_, rfl, ?_⟩
               have n0_ := Aside0.mk (Kd.R_elder' (rz_ HO_122002.out) (Kd.R_base ho0) hb)
               have n1_ := Aside0.mk (Kd.R_elder' (rz_ HO_128002.out) (Kd.R_base ho0) hb)
               have n2_ := Aside0.mk (Kd.R_elder' (rz_ HO_134002.out) (Kd.R_base ho0) hb)
               have n3_ := Aside0.mk (Kd.R_elder' (rz_ HO_141002.out) (Kd.R_base ho0) hb)
               have n4_ := Aside0.mk (Kd.R_lower (Kd.R_new' (Kd.R_new' (Kd.R_new' (Kd.R_new' ho0 (Kd.R_lt (rz_ HO_122002.out))) (Kd.R_lt (rz_ HO_128002.out))) (Kd.R_lt (rz_ HO_134002.out))) (Kd.R_lt (rz_ HO_141002.out))) (below_size (bw_ HB.out)))
               have n5_ := Aside0.mk (blk_below (bz_ BK101.out) hb)
               have n6_ := Aside0.mk (blk_below (bz_ BK102.out) hb)
               have n7_ := Aside0.mk (blk_below (bz_ BK121.out) hb)
               have n8_ := Aside0.mk (blk_below (bz_ BK127.out) hb)
               have n9_ := Aside0.mk (blk_below (bz_ BK133.out) hb)
               have n10_ := Aside0.mk (blk_below (bz_ BK140.out) hb)
               have n11_ := Aside0.mk (blk_below (bz_ BK178.out) hb)
               have n12_ := Aside0.mk (below_step (bw_ HB.out) hb)
               clear HO_122002
               clear HO_128002
               clear HO_134002
               clear HO_141002
               clear BK101
               clear BK102
               clear BK121
               clear BK127
               clear BK133
               clear BK140
               clear BK178
               clear HB
               have HO_122002 := n0_
               have HO_128002 := n1_
               have HO_134002 := n2_
               have HO_141002 := n3_
               have HO166 := n4_
               have BK101 := n5_
               have BK102 := n6_
               have BK121 := n7_
               have BK127 := n8_
               have BK133 := n9_
               have BK140 := n10_
               have BK178 := n11_
               have HB := n12_
               clear n0_ n1_ n2_ n3_ n4_ n5_ n6_ n7_ n8_ n9_ n10_ n11_ n12_
               (try clear hb)
               (try clear hb2)
               (try clear hk)
               (try clear hi)
               (try clear ho0)
               refine hK.out _ _ ⟨(blk_cell BK101.out 0).trans rfl, (blk_cell BK101.out 1).trans rfl, (blk_cell BK101.out 2).trans rfl, (blk_cell BK102.out 0).trans rfl, (blk_cell BK102.out 1).trans rfl, (blk_cell BK102.out 2).trans rfl⟩ (fun hHeld => ?_)
               clear hK K
               refine norm_ (a' := ?_) ?_ ?_
               rotate_left
               ·show Act.put _ (some 96) _ = _
                simp only [Act.put, List.setIfInBounds_toArray, List.set_cons_zero, List.set_cons_succ, i64_w, i32_w]
                rfl
               refine one_ (i := 3) (N := some 98) (fl 11 271) rfl rfl (one_of HT_.out (by kernel_rfl)) (by decide) (fun K hK => ?_)
               refine goes_ Try.func14 (by kernel_rfl) rfl #[.agg #[.int .i64 a1_0, .int .i64 a1_1, .slice A1_2 l1_2.length c1_2]] (by rfl) rfl rfl am_ ?_
               with_reducible refine (laws_toRanks.calls kj96 a1_0 a1_1 _ _ l1_2 t167 t168 t169 _ ?side1 ?side2 A140.out).mono ?_
               (case side1 => repeat (first | exact (Kd.C_below HR1_2.out HB.out) | (with_reducible refine Kd.C_alloc ?_ _) | (with_reducible refine Kd.C_drewN ?_ _) | (with_reducible refine Kd.C_drew ?_)))
               (case side2 => exact HC1_2.out)
               rintro e w155 ⟨v170, rfl, ho0, hb⟩
               refine ⟨_, rfl, ?_⟩
               have n0_ := Aside0.mk (Kd.R_elder' (rz_ HO_122002.out) (Kd.R_base ho0) hb)
               have n1_ := Aside0.mk (Kd.R_elder' (rz_ HO_128002.out) (Kd.R_base ho0) hb)
               have n2_ := Aside0.mk (Kd.R_elder' (rz_ HO_134002.out) (Kd.R_base ho0) hb)
               have n3_ := Aside0.mk (Kd.R_elder' (rz_ HO_141002.out) (Kd.R_base ho0) hb)
               have n4_ := Aside0.mk (Kd.R_elder' (rz_ HO166.out) (Kd.R_base ho0) hb)
               have n5_ := Aside0.mk (Kd.R_lower (Kd.R_new' (Kd.R_new' (Kd.R_new' (Kd.R_new' (Kd.R_new' ho0 (Kd.R_lt (rz_ HO_122002.out))) (Kd.R_lt (rz_ HO_128002.out))) (Kd.R_lt (rz_ HO_134002.out))) (Kd.R_lt (rz_ HO_141002.out))) (Kd.R_lt (rz_ HO166.out))) (below_size (bw_ HB.out)))
               have n6_ := Aside0.mk (blk_below (bz_ BK101.out) hb)
               have n7_ := Aside0.mk (blk_below (bz_ BK102.out) hb)
               have n8_ := Aside0.mk (blk_below (bz_ BK121.out) hb)
               have n9_ := Aside0.mk (blk_below (bz_ BK127.out) hb)
               have n10_ := Aside0.mk (blk_below (bz_ BK133.out) hb)
               have n11_ := Aside0.mk (blk_below (bz_ BK140.out) hb)
               have n12_ := Aside0.mk (blk_below (bz_ BK178.out) hb)
               have n13_ := Aside0.mk (below_step (bw_ HB.out) hb)
               clear HO_122002
               clear HO_128002
               clear HO_134002
               clear HO_141002
               clear HO166
               clear BK101
               clear BK102
               clear BK121
               clear BK127
               clear BK133
               clear BK140
               clear BK178
               clear HB
               have HO_122002 := n0_
               have HO_128002 := n1_
               have HO_134002 := n2_
               have HO_141002 := n3_
               have HO166 := n4_
               have HO171 := n5_
               have BK101 := n6_
               have BK102 := n7_
               have BK121 := n8_
               have BK127 := n9_
               have BK133 := n10_
               have BK140 := n11_
               have BK178 := n12_
               have HB := n13_
               clear n0_ n1_ n2_ n3_ n4_ n5_ n6_ n7_ n8_ n9_ n10_ n11_ n12_ n13_
               (try clear hb)
               (try clear hb2)
               (try clear hk)
               (try clear hi)
               (try clear ho0)
               obtain ⟨Ao156, co156, eo156⟩ := Kd.R_slice HO166.out
               (first | subst eo156 | (injection eo156 with f1_ f2_ f3_; have f4_ := f1_.symm; have f5_ := f3_.symm; clear f1_ f2_ f3_; subst f4_; subst f5_))
               obtain ⟨Ao157, co157, eo157⟩ := Kd.R_slice HO171.out
               (first | subst eo157 | (injection eo157 with f1_ f2_ f3_; have f4_ := f1_.symm; have f5_ := f3_.symm; clear f1_ f2_ f3_; subst f4_; subst f5_))
               refine hK.out _ _ ⟨(blk_cell BK101.out 0).trans rfl, (blk_cell BK101.out 1).trans rfl, (blk_cell BK101.out 2).trans rfl, (blk_cell BK102.out 0).trans rfl, (blk_cell BK102.out 1).trans rfl, (blk_cell BK102.out 2).trans rfl⟩ (fun hHeld => ?_)
               clear hK K
               refine norm_ (a' := ?_) ?_ ?_
               rotate_left
               ·show Act.put _ (some 98) _ = _
                simp only [Act.put, List.setIfInBounds_toArray, List.set_cons_zero, List.set_cons_succ, i64_w, i32_w]
                rfl
               refine one_ (i := 4) (N := some 99) (fl 11 287) rfl rfl (one_of HT_.out (by kernel_rfl)) (by decide) (fun K hK => ?_)
               refine goes_ Try.func28 (by kernel_rfl) rfl #[.agg #[.int .i64 t162, .int .i64 t163, .slice Ao156 t164.length co156], .agg #[.int .i64 t167, .int .i64 t168, .slice Ao157 t169.length co157]] (by rfl) rfl rfl am_ ?_
               with_reducible refine (impl_AddRanks.calls kj96 t162 t163 _ _ t164 t167 t168 _ _ t169 t172 t173 t174 t177 _ ?side1 ?side2 ?side3 ?side4 A141.out).mono ?_
               (case side1 => repeat (first | exact (Kd.R_reads' HO166.out).2.2 | (with_reducible refine Kd.C_alloc ?_ _) | (with_reducible refine Kd.C_drewN ?_ _) | (with_reducible refine Kd.C_drew ?_)))
               (case side2 => exact (Kd.R_reads' HO166.out).2.1)
               (case side3 => repeat (first | exact (Kd.R_reads' HO171.out).2.2 | (with_reducible refine Kd.C_alloc ?_ _) | (with_reducible refine Kd.C_drewN ?_ _) | (with_reducible refine Kd.C_drew ?_)))
               (case side4 => exact (Kd.R_reads' HO171.out).2.1)
               rintro e w158 ⟨v175, rfl, ho0, hb⟩
               refine ⟨_, rfl, ?_⟩
               have n0_ := Aside0.mk (Kd.R_elder' (rz_ HO_122002.out) (Kd.R_base ho0) hb)
               have n1_ := Aside0.mk (Kd.R_elder' (rz_ HO_128002.out) (Kd.R_base ho0) hb)
               have n2_ := Aside0.mk (Kd.R_elder' (rz_ HO_134002.out) (Kd.R_base ho0) hb)
               have n3_ := Aside0.mk (Kd.R_elder' (rz_ HO_141002.out) (Kd.R_base ho0) hb)
               have n4_ := Aside0.mk (Kd.R_elder' (rz_ HO166.out) (Kd.R_base ho0) hb)
               have n5_ := Aside0.mk (Kd.R_elder' (rz_ HO171.out) (Kd.R_base ho0) hb)
               have n6_ := Aside0.mk (Kd.R_lower (Kd.R_new' (Kd.R_new' (Kd.R_new' (Kd.R_new' (Kd.R_new' (Kd.R_new' ho0 (Kd.R_lt (rz_ HO_122002.out))) (Kd.R_lt (rz_ HO_128002.out))) (Kd.R_lt (rz_ HO_134002.out))) (Kd.R_lt (rz_ HO_141002.out))) (Kd.R_lt (rz_ HO166.out))) (Kd.R_lt (rz_ HO171.out))) (below_size (bw_ HB.out)))
               have n7_ := Aside0.mk (blk_below (bz_ BK101.out) hb)
               have n8_ := Aside0.mk (blk_below (bz_ BK102.out) hb)
               have n9_ := Aside0.mk (blk_below (bz_ BK121.out) hb)
               have n10_ := Aside0.mk (blk_below (bz_ BK127.out) hb)
               have n11_ := Aside0.mk (blk_below (bz_ BK133.out) hb)
               have n12_ := Aside0.mk (blk_below (bz_ BK140.out) hb)
               have n13_ := Aside0.mk (blk_below (bz_ BK178.out) hb)
               have n14_ := Aside0.mk (below_step (bw_ HB.out) hb)
               clear HO_122002
               clear HO_128002
               clear HO_134002
               clear HO_141002
               clear HO166
               clear HO171
               clear BK101
               clear BK102
               clear BK121
               clear BK127
               clear BK133
               clear BK140
               clear BK178
               clear HB
               have HO_122002 := n0_
               have HO_128002 := n1_
               have HO_134002 := n2_
               have HO_141002 := n3_
               have HO166 := n4_
               have HO171 := n5_
               have HO176 := n6_
               have BK101 := n7_
               have BK102 := n8_
               have BK121 := n9_
               have BK127 := n10_
               have BK133 := n11_
               have BK140 := n12_
               have BK178 := n13_
               have HB := n14_
               clear n0_ n1_ n2_ n3_ n4_ n5_ n6_ n7_ n8_ n9_ n10_ n11_ n12_ n13_ n14_
               (try clear hb)
               (try clear hb2)
               (try clear hk)
               (try clear hi)
               (try clear ho0)
               refine hK.out _ _ ⟨(blk_cell BK101.out 0).trans rfl, (blk_cell BK101.out 1).trans rfl, (blk_cell BK101.out 2).trans rfl, (blk_cell BK102.out 0).trans rfl, (blk_cell BK102.out 1).trans rfl, (blk_cell BK102.out 2).trans rfl⟩ (fun hHeld => ?_)
               clear hK K
               refine norm_ (a' := ?_) ?_ ?_
               rotate_left
               ·show Act.put _ (some 99) _ = _
                simp only [Act.put, List.setIfInBounds_toArray, List.set_cons_zero, List.set_cons_succ, i64_w, i32_w]
                rfl
               refine pu_ (i := 5) (N := some 94) HT_.out (fl 11 319) (by kernel_rfl) ?_
               refine pu_ (i := 6) (N := some 100) HT_.out (fl 11 383) (by kernel_rfl) ?_
               refine pu_ (i := 7) (N := some 101) HT_.out (fl 11 511) (by kernel_rfl) ?_
               exact norm_ (by simp only [putAll, Act.put, List.setIfInBounds_toArray, List.set_cons_zero, List.set_cons_succ]) (hCont (.slice Ao156 t164.length co156, .slice Ao157 t169.length co157, v175, gb178) _ ⟨hHeld, (by (with_reducible repeat (first | apply Kd.R_alloc | apply Kd.R_drewN | apply Kd.R_drew)); exact Kd.R_mono HO166.out (fun _ hk => ⟨hk.1.2, ⟨hk.2, ⟨hk.1.1.1.1.1.2, ⟨hk.1.1.1.1.2, ⟨hk.1.1.1.2, hk.1.1.2⟩⟩⟩⟩⟩)), (by (with_reducible repeat (first | apply Kd.R_alloc | apply Kd.R_drewN | apply Kd.R_drew)); exact Kd.R_mono HO171.out (fun _ hk => ⟨hk.1.2, ⟨hk.2, ⟨hk.1.1.1.1.1.2, ⟨hk.1.1.1.1.2, ⟨hk.1.1.1.2, hk.1.1.2⟩⟩⟩⟩⟩)), (by (with_reducible repeat (first | apply Kd.R_alloc | apply Kd.R_drewN | apply Kd.R_drew)); exact Kd.R_mono HO176.out (fun _ hk => ⟨hk.1.2, ⟨hk.2, ⟨hk.1.1.1.1.1.2, ⟨hk.1.1.1.1.2, ⟨hk.1.1.1.2, hk.1.1.2⟩⟩⟩⟩⟩)), (by (with_reducible repeat (first | apply Kd.R_alloc | apply Kd.R_drewN | apply Kd.R_drew)); exact Kd.R_mono HO_122002.out (fun _ hk => ⟨hk.1.1.2, ⟨hk.1.2, ⟨hk.2, ⟨hk.1.1.1.1, ⟨hk.1.1.1.2.1, hk.1.1.1.2.2⟩⟩⟩⟩⟩)), (by (with_reducible repeat (first | apply Kd.R_alloc | apply Kd.R_drewN | apply Kd.R_drew)); exact Kd.R_mono HO_128002.out (fun _ hk => ⟨hk.1.1.2, ⟨hk.1.2, ⟨hk.2, ⟨hk.1.1.1.1, ⟨hk.1.1.1.2.1, hk.1.1.1.2.2⟩⟩⟩⟩⟩)), (by (with_reducible repeat (first | apply Kd.R_alloc | apply Kd.R_drewN | apply Kd.R_drew)); exact Kd.R_mono HO_134002.out (fun _ hk => ⟨hk.1.1.2, ⟨hk.1.2, ⟨hk.2, ⟨hk.1.1.1.1, ⟨hk.1.1.1.2.1, hk.1.1.1.2.2⟩⟩⟩⟩⟩)), (by (with_reducible repeat (first | apply Kd.R_alloc | apply Kd.R_drewN | apply Kd.R_drew)); exact Kd.R_mono HO_141002.out (fun _ hk => ⟨hk.1.1.2, ⟨hk.1.2, ⟨hk.2, ⟨hk.1.1.1.1, ⟨hk.1.1.1.2.1, hk.1.1.1.2.2⟩⟩⟩⟩⟩)), (bz_ BK101.out), (bz_ BK102.out), (bz_ BK121.out), (bz_ BK127.out), (bz_ BK133.out), (bz_ BK140.out), (bz_ BK178.out), GW178.out, GE178.out, NB101_178.out, NB178_101.out, NB102_178.out, NB178_102.out, NB121_178.out, NB178_121.out, NB127_178.out, NB178_127.out, NB133_178.out, NB178_133.out, NB140_178.out, NB178_140.out, (bw_ HB.out)⟩)
             rintro ⟨v165, v170, v175, gb178⟩ w159 ⟨hS_, h0_, h1_, h2_, h3_, h4_, h5_, h6_, h7_, h8_, h9_, h10_, h11_, h12_, h13_, h14_, h15_, h16_, h17_, h18_, h19_, h20_, h21_, h22_, h23_, h24_, h25_, h26_, h27_, h28_⟩
             have n0_ : Aside0 (Kd.R (Kd.int .i64) 2 w159 w.heap.size (fun k_ => some k_ ≠ (v170 : Value).ownBlock ∧ some k_ ≠ (v175 : Value).ownBlock ∧ some k_ ≠ (.slice Ao43 t117.length co43 : Value).ownBlock ∧ some k_ ≠ (.slice Ao53 t155.length co53 : Value).ownBlock ∧ some k_ ≠ (.slice Ao63 t157.length co63 : Value).ownBlock ∧ some k_ ≠ (.slice Ao73 t136.length co73 : Value).ownBlock) v165 t164) := ⟨h0_⟩
             have n1_ : Aside0 (Kd.R (Kd.int .i64) 2 w159 w.heap.size (fun k_ => some k_ ≠ (v165 : Value).ownBlock ∧ some k_ ≠ (v175 : Value).ownBlock ∧ some k_ ≠ (.slice Ao43 t117.length co43 : Value).ownBlock ∧ some k_ ≠ (.slice Ao53 t155.length co53 : Value).ownBlock ∧ some k_ ≠ (.slice Ao63 t157.length co63 : Value).ownBlock ∧ some k_ ≠ (.slice Ao73 t136.length co73 : Value).ownBlock) v170 t169) := ⟨h1_⟩
             have n2_ : Aside0 (Kd.R (Kd.int .i64) 2 w159 w.heap.size (fun k_ => some k_ ≠ (v165 : Value).ownBlock ∧ some k_ ≠ (v170 : Value).ownBlock ∧ some k_ ≠ (.slice Ao43 t117.length co43 : Value).ownBlock ∧ some k_ ≠ (.slice Ao53 t155.length co53 : Value).ownBlock ∧ some k_ ≠ (.slice Ao63 t157.length co63 : Value).ownBlock ∧ some k_ ≠ (.slice Ao73 t136.length co73 : Value).ownBlock) v175 t174) := ⟨h2_⟩
             have n3_ : Aside0 (Kd.R (Kd.int .i64) 2 w159 w.heap.size (fun k_ => some k_ ≠ (v165 : Value).ownBlock ∧ some k_ ≠ (v170 : Value).ownBlock ∧ some k_ ≠ (v175 : Value).ownBlock ∧ some k_ ≠ (.slice Ao53 t155.length co53 : Value).ownBlock ∧ some k_ ≠ (.slice Ao63 t157.length co63 : Value).ownBlock ∧ some k_ ≠ (.slice Ao73 t136.length co73 : Value).ownBlock) (.slice Ao43 t117.length co43) t117) := ⟨h3_⟩
             have n4_ : Aside0 (Kd.R (Kd.int .i64) 2 w159 w.heap.size (fun k_ => some k_ ≠ (v165 : Value).ownBlock ∧ some k_ ≠ (v170 : Value).ownBlock ∧ some k_ ≠ (v175 : Value).ownBlock ∧ some k_ ≠ (.slice Ao43 t117.length co43 : Value).ownBlock ∧ some k_ ≠ (.slice Ao63 t157.length co63 : Value).ownBlock ∧ some k_ ≠ (.slice Ao73 t136.length co73 : Value).ownBlock) (.slice Ao53 t155.length co53) t155) := ⟨h4_⟩
             have n5_ : Aside0 (Kd.R (Kd.int .i64) 2 w159 w.heap.size (fun k_ => some k_ ≠ (v165 : Value).ownBlock ∧ some k_ ≠ (v170 : Value).ownBlock ∧ some k_ ≠ (v175 : Value).ownBlock ∧ some k_ ≠ (.slice Ao43 t117.length co43 : Value).ownBlock ∧ some k_ ≠ (.slice Ao53 t155.length co53 : Value).ownBlock ∧ some k_ ≠ (.slice Ao73 t136.length co73 : Value).ownBlock) (.slice Ao63 t157.length co63) t157) := ⟨h5_⟩
             have n6_ : Aside0 (Kd.R (Kd.int .i64) 2 w159 w.heap.size (fun k_ => some k_ ≠ (v165 : Value).ownBlock ∧ some k_ ≠ (v170 : Value).ownBlock ∧ some k_ ≠ (v175 : Value).ownBlock ∧ some k_ ≠ (.slice Ao43 t117.length co43 : Value).ownBlock ∧ some k_ ≠ (.slice Ao53 t155.length co53 : Value).ownBlock ∧ some k_ ≠ (.slice Ao63 t157.length co63 : Value).ownBlock) (.slice Ao73 t136.length co73) t160) := ⟨h6_⟩
             have n7_ : Aside0 (w159.heap[gb101]? = some (.cells #[.int .i64 a0_0, .int .i64 a0_1, .slice A0_2 l0_2.length c0_2] 30 (0, 0))) := ⟨h7_⟩
             have n8_ : Aside0 (w159.heap[gb102]? = some (.cells #[.int .i64 a1_0, .int .i64 a1_1, .slice A1_2 l1_2.length c1_2] 30 (0, 0))) := ⟨h8_⟩
             have n9_ : Aside0 (w159.heap[gb121]? = some (.cells #[.int .i64 t115, .int .i64 t116, .slice Ao43 t117.length co43] 33 (0, 0))) := ⟨h9_⟩
             have n10_ : Aside0 (w159.heap[gb127]? = some (.cells #[.int .i64 t122, .int .i64 t123, .slice Ao53 t155.length co53] 33 (0, 0))) := ⟨h10_⟩
             have n11_ : Aside0 (w159.heap[gb133]? = some (.cells #[.int .i64 t128, .int .i64 t129, .slice Ao63 t157.length co63] 33 (0, 0))) := ⟨h11_⟩
             have n12_ : Aside0 (w159.heap[gb140]? = some (.cells #[.int .i64 t134, .int .i64 t135, .slice Ao73 t136.length co73] 33 (0, 0))) := ⟨h12_⟩
             have n13_ : Aside0 (w159.heap[gb178]? = some (.cells #[.int .i64 0, .int .i64 0, .slice none 0 0] 33 (0, 0))) := ⟨h13_⟩
             have n14_ : Aside0 (w.heap.size ≤ gb178) := ⟨h14_⟩
             have n15_ : Aside0 (w.heap.size ≤ gb178) := ⟨h15_⟩
             have n16_ : Aside0 (gb101 ≠ gb178) := ⟨h16_⟩
             have n17_ : Aside0 (gb178 ≠ gb101) := ⟨h17_⟩
             have n18_ : Aside0 (gb102 ≠ gb178) := ⟨h18_⟩
             have n19_ : Aside0 (gb178 ≠ gb102) := ⟨h19_⟩
             have n20_ : Aside0 (gb121 ≠ gb178) := ⟨h20_⟩
             have n21_ : Aside0 (gb178 ≠ gb121) := ⟨h21_⟩
             have n22_ : Aside0 (gb127 ≠ gb178) := ⟨h22_⟩
             have n23_ : Aside0 (gb178 ≠ gb127) := ⟨h23_⟩
             have n24_ : Aside0 (gb133 ≠ gb178) := ⟨h24_⟩
             have n25_ : Aside0 (gb178 ≠ gb133) := ⟨h25_⟩
             have n26_ : Aside0 (gb140 ≠ gb178) := ⟨h26_⟩
             have n27_ : Aside0 (gb178 ≠ gb140) := ⟨h27_⟩
             have n28_ : Aside0 (Below w.heap.size w w159) := ⟨h28_⟩
             clear HO_122002
             clear HO_128002
             clear HO_134002
             clear HO_141002
             clear BK101
             clear BK102
             clear BK121
             clear BK127
             clear BK133
             clear BK140
             clear HB
             clear h0_ h1_ h2_ h3_ h4_ h5_ h6_ h7_ h8_ h9_ h10_ h11_ h12_ h13_ h14_ h15_ h16_ h17_ h18_ h19_ h20_ h21_ h22_ h23_ h24_ h25_ h26_ h27_ h28_
             have HO166 := n0_
             have HO171 := n1_
             have HO176 := n2_
             have HO_122002 := n3_
             have HO_128002 := n4_
             have HO_134002 := n5_
             have HO_141002 := n6_
             have BK101 := n7_
             have BK102 := n8_
             have BK121 := n9_
             have BK127 := n10_
             have BK133 := n11_
             have BK140 := n12_
             have BK178 := n13_
             have GW178 := n14_
             have GE178 := n15_
             have NB101_178 := n16_
             have NB178_101 := n17_
             have NB102_178 := n18_
             have NB178_102 := n19_
             have NB121_178 := n20_
             have NB178_121 := n21_
             have NB127_178 := n22_
             have NB178_127 := n23_
             have NB133_178 := n24_
             have NB178_133 := n25_
             have NB140_178 := n26_
             have NB178_140 := n27_
             have HB := n28_
             clear n0_ n1_ n2_ n3_ n4_ n5_ n6_ n7_ n8_ n9_ n10_ n11_ n12_ n13_ n14_ n15_ n16_ n17_ n18_ n19_ n20_ n21_ n22_ n23_ n24_ n25_ n26_ n27_ n28_
             have hHeld : w159.cell? ⟨gb101, 0, none⟩ = some (.int .i64 a0_0) ∧ w159.cell? ⟨gb101, 1, none⟩ = some (.int .i64 a0_1) ∧ w159.cell? ⟨gb101, 2, none⟩ = some (.slice A0_2 l0_2.length c0_2) ∧ w159.cell? ⟨gb102, 0, none⟩ = some (.int .i64 a1_0) ∧ w159.cell? ⟨gb102, 1, none⟩ = some (.int .i64 a1_1) ∧ w159.cell? ⟨gb102, 2, none⟩ = some (.slice A1_2 l1_2.length c1_2) := hS_
             obtain ⟨Ao162, co162, eo162⟩ := Kd.R_slice HO176.out
             (first | subst eo162 | (injection eo162 with f1_ f2_ f3_; have f4_ := f1_.symm; have f5_ := f3_.symm; clear f1_ f2_ f3_; subst f4_; subst f5_))
             refine norm_ (a' := ?_) ?_ ?_
             rotate_left
             ·simp only [putAll, Act.put, List.setIfInBounds_toArray, List.set_cons_zero, List.set_cons_succ]
              rfl
             refine one_ (i := 9) (N := none) (fl 11 1023) rfl rfl (one_of HT_.out (by kernel_rfl)) (by decide) (fun K hK => ?_)
             have hs160 : w159.cell? ⟨gb178, 0, none⟩ = some (.int .i64 0) := (blk_cell BK178.out 0).trans rfl
             have hfs160 := blk_frozen BK178.out 0
             have hns160_0 := NB101_178.out
             have hns160_1 := NB102_178.out
             have hns160_2 := NB121_178.out
             have hns160_3 := NB127_178.out
             have hns160_4 := NB133_178.out
             have hns160_5 := NB140_178.out
             have hms160_0 := NB178_101.out
             have hms160_1 := NB178_102.out
             have hms160_2 := NB178_121.out
             have hms160_3 := NB178_127.out
             have hms160_4 := NB178_133.out
             have hms160_5 := NB178_140.out
             have hs161 : w159.cell? ⟨gb178, 1, none⟩ = some (.int .i64 0) := (blk_cell BK178.out 1).trans rfl
             have hfs161 := blk_frozen BK178.out 1
             have hns161_0 := NB101_178.out
             have hns161_1 := NB102_178.out
             have hns161_2 := NB121_178.out
             have hns161_3 := NB127_178.out
             have hns161_4 := NB133_178.out
             have hns161_5 := NB140_178.out
             have hms161_0 := NB178_101.out
             have hms161_1 := NB178_102.out
             have hms161_2 := NB178_121.out
             have hms161_3 := NB178_127.out
             have hms161_4 := NB178_133.out
             have hms161_5 := NB178_140.out
             have hs163 : w159.cell? ⟨gb178, 2, none⟩ = some (.slice none 0 0) := (blk_cell BK178.out 2).trans rfl
             have hfs163 := blk_frozen BK178.out 2
             have hns163_0 := NB101_178.out
             have hns163_1 := NB102_178.out
             have hns163_2 := NB121_178.out
             have hns163_3 := NB127_178.out
             have hns163_4 := NB133_178.out
             have hns163_5 := NB140_178.out
             have hms163_0 := NB178_101.out
             have hms163_1 := NB178_102.out
             have hms163_2 := NB178_121.out
             have hms163_3 := NB178_127.out
             have hms163_4 := NB178_133.out
             have hms163_5 := NB178_140.out
             refine skip_ (w1 := ?_) (by rfl) rfl ?_ ?_
             rotate_left
             ·go_simp
              rfl
             refine hK.out _ _ ⟨((cell_far (p := ⟨gb178, _, none⟩) NB101_178.out _).trans (((cell_far (p := ⟨gb178, _, none⟩) NB101_178.out _).trans (((cell_far (p := ⟨gb178, _, none⟩) NB101_178.out _).trans (hHeld.1)))))), ((cell_far (p := ⟨gb178, _, none⟩) NB101_178.out _).trans (((cell_far (p := ⟨gb178, _, none⟩) NB101_178.out _).trans (((cell_far (p := ⟨gb178, _, none⟩) NB101_178.out _).trans (hHeld.2.1)))))), ((cell_far (p := ⟨gb178, _, none⟩) NB101_178.out _).trans (((cell_far (p := ⟨gb178, _, none⟩) NB101_178.out _).trans (((cell_far (p := ⟨gb178, _, none⟩) NB101_178.out _).trans (hHeld.2.2.1)))))), ((cell_far (p := ⟨gb178, _, none⟩) NB102_178.out _).trans (((cell_far (p := ⟨gb178, _, none⟩) NB102_178.out _).trans (((cell_far (p := ⟨gb178, _, none⟩) NB102_178.out _).trans (hHeld.2.2.2.1)))))), ((cell_far (p := ⟨gb178, _, none⟩) NB102_178.out _).trans (((cell_far (p := ⟨gb178, _, none⟩) NB102_178.out _).trans (((cell_far (p := ⟨gb178, _, none⟩) NB102_178.out _).trans (hHeld.2.2.2.2.1)))))), ((cell_far (p := ⟨gb178, _, none⟩) NB102_178.out _).trans (((cell_far (p := ⟨gb178, _, none⟩) NB102_178.out _).trans (((cell_far (p := ⟨gb178, _, none⟩) NB102_178.out _).trans (hHeld.2.2.2.2.2))))))⟩ (fun hHeld => ?_)
             clear hK K
             refine pu_ (i := 10) (N := some 16) HT_.out (fl 11 2047) (by kernel_rfl) ?_
             refine done_ (done_of HT_.out (by kernel_rfl)) ?_
             go_upto_region 32 with (fail)
             go_cut [110] (fun v110 wc => ∃ (kq : Nat) (x110_141 : Bool), v110 = .bool x110_141 ∧ Aside0 (laws_FnExactAddRanks.j2 kq t159 x110_141 t134 t135 t160 = some r) ∧ Aside0 (kq ≤ kj96) ∧ Aside0 (Kd.R (Kd.int .i64) 2 wc w.heap.size (fun k_ => some k_ ≠ ((.slice Ao53 t155.length co53) : Value).ownBlock ∧ some k_ ≠ ((.slice Ao63 t157.length co63) : Value).ownBlock ∧ some k_ ≠ ((.slice Ao73 t136.length co73) : Value).ownBlock ∧ some k_ ≠ ((.slice Ao162 t174.length co162) : Value).ownBlock) (.slice Ao43 t117.length co43) t117) ∧ Aside0 (Kd.R (Kd.int .i64) 2 wc w.heap.size (fun k_ => some k_ ≠ ((.slice Ao43 t117.length co43) : Value).ownBlock ∧ some k_ ≠ ((.slice Ao63 t157.length co63) : Value).ownBlock ∧ some k_ ≠ ((.slice Ao73 t136.length co73) : Value).ownBlock ∧ some k_ ≠ ((.slice Ao162 t174.length co162) : Value).ownBlock) (.slice Ao53 t155.length co53) t155) ∧ Aside0 (Kd.R (Kd.int .i64) 2 wc w.heap.size (fun k_ => some k_ ≠ ((.slice Ao43 t117.length co43) : Value).ownBlock ∧ some k_ ≠ ((.slice Ao53 t155.length co53) : Value).ownBlock ∧ some k_ ≠ ((.slice Ao73 t136.length co73) : Value).ownBlock ∧ some k_ ≠ ((.slice Ao162 t174.length co162) : Value).ownBlock) (.slice Ao63 t157.length co63) t157) ∧ Aside0 (Kd.R (Kd.int .i64) 2 wc w.heap.size (fun k_ => some k_ ≠ ((.slice Ao43 t117.length co43) : Value).ownBlock ∧ some k_ ≠ ((.slice Ao53 t155.length co53) : Value).ownBlock ∧ some k_ ≠ ((.slice Ao63 t157.length co63) : Value).ownBlock ∧ some k_ ≠ ((.slice Ao162 t174.length co162) : Value).ownBlock) (.slice Ao73 t136.length co73) t160) ∧ Aside0 (Kd.R (Kd.int .i64) 2 wc w.heap.size (fun k_ => some k_ ≠ ((.slice Ao43 t117.length co43) : Value).ownBlock ∧ some k_ ≠ ((.slice Ao53 t155.length co53) : Value).ownBlock ∧ some k_ ≠ ((.slice Ao63 t157.length co63) : Value).ownBlock ∧ some k_ ≠ ((.slice Ao73 t136.length co73) : Value).ownBlock) (.slice Ao162 t174.length co162) t174) ∧ Aside0 (wc.heap[gb101]? = some (.cells #[.int .i64 a0_0, .int .i64 a0_1, (.slice A0_2 l0_2.length c0_2)] 30 (0, 0))) ∧ Aside0 (wc.heap[gb102]? = some (.cells #[.int .i64 a1_0, .int .i64 a1_1, (.slice A1_2 l1_2.length c1_2)] 30 (0, 0))) ∧ Aside0 (wc.heap[gb121]? = some (.cells #[.int .i64 t115, .int .i64 t116, (.slice Ao43 t117.length co43)] 33 (0, 0))) ∧ Aside0 (wc.heap[gb127]? = some (.cells #[.int .i64 t122, .int .i64 t123, (.slice Ao53 t155.length co53)] 33 (0, 0))) ∧ Aside0 (wc.heap[gb133]? = some (.cells #[.int .i64 t128, .int .i64 t129, (.slice Ao63 t157.length co63)] 33 (0, 0))) ∧ Aside0 (wc.heap[gb140]? = some (.cells #[.int .i64 t134, .int .i64 t135, (.slice Ao73 t136.length co73)] 33 (0, 0))) ∧ Aside0 (wc.heap[gb178]? = some (.cells #[.int .i64 t172, .int .i64 t173, (.slice Ao162 t174.length co162)] 33 (0, 0))) ∧ Aside0 (Below w.heap.size w wc))
             case first =>
              have H := HC142.out
              clear HC142
              replace H := Option.bind_eq_some_iff.mp H
              obtain ⟨t179, A1640, H⟩ := H
              replace H : (if t179 = true then (laws_FnExactAddRanks.j2 kj96 t159 (t177 != t120) t134 t135 t160) else (none)) = some r := H
              have A164 := Aside0.mk A1640
              clear A1640
              by_cases c165 : t179 = true
              ·subst c165
               have H1 : (laws_FnExactAddRanks.j2 kj96 t159 (t177 != t120) t134 t135 t160) = some r := by rw [if_pos rfl] at H; exact H
               clear H
               have H := H1
               clear H1
               have H' := Aside0.mk H
               clear H
               have hnb166 := NB178_101.out
               have hnc166 := NB101_178.out
               have hnb167 := NB178_102.out
               have hnc167 := NB102_178.out
               have hnb168 := NB178_121.out
               have hnc168 := NB121_178.out
               have hnb169 := NB178_127.out
               have hnc169 := NB127_178.out
               have hnb170 := NB178_133.out
               have hnc170 := NB133_178.out
               have hnb171 := NB178_140.out
               have hnc171 := NB140_178.out
               have hcz172_0 : w159.cell? ⟨gb178, 0, none⟩ = some (.int .i64 0) := (blk_cell BK178.out 0).trans rfl
               have hcz172_1 : w159.cell? ⟨gb178, 1, none⟩ = some (.int .i64 0) := (blk_cell BK178.out 1).trans rfl
               have hcz172_2 : w159.cell? ⟨gb178, 2, none⟩ = some (.slice none 0 0) := (blk_cell BK178.out 2).trans rfl
               have hfz172_0 := blk_frozen BK178.out 0
               have hfz172_1 := blk_frozen BK178.out 1
               have hfz172_2 := blk_frozen BK178.out 2
               have hnb173 := NB121_101.out
               have hnc173 := NB101_121.out
               have hnb174 := NB121_102.out
               have hnc174 := NB102_121.out
               have hnb175 := NB121_127.out
               have hnc175 := NB127_121.out
               have hnb176 := NB121_133.out
               have hnc176 := NB133_121.out
               have hnb177 := NB121_140.out
               have hnc177 := NB140_121.out
               have hcz178_0 : w159.cell? ⟨gb121, 0, none⟩ = some (.int .i64 t115) := (blk_cell BK121.out 0).trans rfl
               have hcz178_1 : w159.cell? ⟨gb121, 1, none⟩ = some (.int .i64 t116) := (blk_cell BK121.out 1).trans rfl
               have hcz178_2 : w159.cell? ⟨gb121, 2, none⟩ = some (.slice Ao43 t117.length co43) := (blk_cell BK121.out 2).trans rfl
               have hfz178_0 := blk_frozen BK121.out 0
               have hfz178_1 := blk_frozen BK121.out 1
               have hfz178_2 := blk_frozen BK121.out 2
               go_wp2_with (first | ((with_reducible refine gate_callee (f := 16) rfl ?_); refine goesL_ (some 104) rfl rfl Try.func16 (by kernel_rfl) rfl #[.agg #[.int .i64 t172, .int .i64 t173, .slice Ao162 t174.length co162], .agg #[.int .i64 t115, .int .i64 t116, .slice Ao43 t117.length co43]] rfl am_ ?_; (with_reducible refine (laws_eqRanks.calls kj96 t172 t173 _ _ t174 t115 t116 _ _ t117 true _ ?side1 ?side2 ?side3 ?side4 A164.out).mono ?_); (case side1 => refine (Kd.R_reads' (e := 2) (base := w.heap.size) (ok := fun k_ => (some k_ ≠ (v165 : Value).ownBlock ∧ (some k_ ≠ (v170 : Value).ownBlock ∧ (some k_ ≠ (.slice Ao43 t117.length co43 : Value).ownBlock ∧ (some k_ ≠ (.slice Ao53 t155.length co53 : Value).ownBlock ∧ (some k_ ≠ (.slice Ao63 t157.length co63 : Value).ownBlock ∧ some k_ ≠ (.slice Ao73 t136.length co73 : Value).ownBlock)))))) (n := t174.length) (c := co162) ?_).2.2; exact (by (with_reducible repeat (first | apply Kd.R_alloc | apply Kd.R_drewN | apply Kd.R_drew)); exact (Kd.R_mono (Kd.R_far (p := ⟨gb178, 2, none⟩) (Kd.R_far (p := ⟨gb178, 1, none⟩) (Kd.R_far (p := ⟨gb178, 0, none⟩) (Kd.R_types HO176.out BK178.out (by decide)) (fun _ hk => hk.2) (.int .i64 t172)) (fun _ hk => hk.2) (.int .i64 t173)) (fun _ hk => hk.2) (.slice Ao162 t174.length co162)) (fun _ h_ => h_.1)))); (case side2 => exact (Kd.R_reads' HO176.out).2.1); (case side3 => refine (Kd.R_reads' (e := 2) (base := w.heap.size) (ok := fun k_ => (some k_ ≠ (v165 : Value).ownBlock ∧ (some k_ ≠ (v170 : Value).ownBlock ∧ (some k_ ≠ (.slice Ao162 t174.length co162 : Value).ownBlock ∧ (some k_ ≠ (.slice Ao53 t155.length co53 : Value).ownBlock ∧ (some k_ ≠ (.slice Ao63 t157.length co63 : Value).ownBlock ∧ some k_ ≠ (.slice Ao73 t136.length co73 : Value).ownBlock)))))) (n := t117.length) (c := co43) ?_).2.2; exact (by (with_reducible repeat (first | apply Kd.R_alloc | apply Kd.R_drewN | apply Kd.R_drew)); exact (Kd.R_mono (Kd.R_far (p := ⟨gb178, 2, none⟩) (Kd.R_far (p := ⟨gb178, 1, none⟩) (Kd.R_far (p := ⟨gb178, 0, none⟩) (Kd.R_types HO_122002.out BK178.out (by decide)) (fun _ hk => hk.2) (.int .i64 t172)) (fun _ hk => hk.2) (.int .i64 t173)) (fun _ hk => hk.2) (.slice Ao162 t174.length co162)) (fun _ h_ => h_.1)))); (case side4 => exact (Kd.R_reads' HO_122002.out).2.1); rintro e w179 ⟨rfl, hb⟩; refine ⟨_, rfl, ?_⟩; have n0_ := Aside0.mk (Kd.R_below (by (with_reducible repeat (first | apply Kd.R_alloc | apply Kd.R_drewN | apply Kd.R_drew)); exact (Kd.R_mono (Kd.R_far (p := ⟨gb178, 2, none⟩) (Kd.R_far (p := ⟨gb178, 1, none⟩) (Kd.R_far (p := ⟨gb178, 0, none⟩) (Kd.R_types HO_122002.out BK178.out (by decide)) (fun _ hk => hk.2) (.int .i64 t172)) (fun _ hk => hk.2) (.int .i64 t173)) (fun _ hk => hk.2) (.slice Ao162 t174.length co162)) (fun _ h_ => h_.1))) hb); have n1_ := Aside0.mk (Kd.R_below (by (with_reducible repeat (first | apply Kd.R_alloc | apply Kd.R_drewN | apply Kd.R_drew)); exact (Kd.R_mono (Kd.R_far (p := ⟨gb178, 2, none⟩) (Kd.R_far (p := ⟨gb178, 1, none⟩) (Kd.R_far (p := ⟨gb178, 0, none⟩) (Kd.R_types HO_128002.out BK178.out (by decide)) (fun _ hk => hk.2) (.int .i64 t172)) (fun _ hk => hk.2) (.int .i64 t173)) (fun _ hk => hk.2) (.slice Ao162 t174.length co162)) (fun _ h_ => h_.1))) hb); have n2_ := Aside0.mk (Kd.R_below (by (with_reducible repeat (first | apply Kd.R_alloc | apply Kd.R_drewN | apply Kd.R_drew)); exact (Kd.R_mono (Kd.R_far (p := ⟨gb178, 2, none⟩) (Kd.R_far (p := ⟨gb178, 1, none⟩) (Kd.R_far (p := ⟨gb178, 0, none⟩) (Kd.R_types HO_134002.out BK178.out (by decide)) (fun _ hk => hk.2) (.int .i64 t172)) (fun _ hk => hk.2) (.int .i64 t173)) (fun _ hk => hk.2) (.slice Ao162 t174.length co162)) (fun _ h_ => h_.1))) hb); have n3_ := Aside0.mk (Kd.R_below (by (with_reducible repeat (first | apply Kd.R_alloc | apply Kd.R_drewN | apply Kd.R_drew)); exact (Kd.R_mono (Kd.R_far (p := ⟨gb178, 2, none⟩) (Kd.R_far (p := ⟨gb178, 1, none⟩) (Kd.R_far (p := ⟨gb178, 0, none⟩) (Kd.R_types HO_141002.out BK178.out (by decide)) (fun _ hk => hk.2) (.int .i64 t172)) (fun _ hk => hk.2) (.int .i64 t173)) (fun _ hk => hk.2) (.slice Ao162 t174.length co162)) (fun _ h_ => h_.1))) hb); have n4_ := Aside0.mk (Kd.R_below (by (with_reducible repeat (first | apply Kd.R_alloc | apply Kd.R_drewN | apply Kd.R_drew)); exact (Kd.R_mono (Kd.R_far (p := ⟨gb178, 2, none⟩) (Kd.R_far (p := ⟨gb178, 1, none⟩) (Kd.R_far (p := ⟨gb178, 0, none⟩) (Kd.R_types HO166.out BK178.out (by decide)) (fun _ hk => hk.2) (.int .i64 t172)) (fun _ hk => hk.2) (.int .i64 t173)) (fun _ hk => hk.2) (.slice Ao162 t174.length co162)) (fun _ h_ => h_.1))) hb); have n5_ := Aside0.mk (Kd.R_below (by (with_reducible repeat (first | apply Kd.R_alloc | apply Kd.R_drewN | apply Kd.R_drew)); exact (Kd.R_mono (Kd.R_far (p := ⟨gb178, 2, none⟩) (Kd.R_far (p := ⟨gb178, 1, none⟩) (Kd.R_far (p := ⟨gb178, 0, none⟩) (Kd.R_types HO171.out BK178.out (by decide)) (fun _ hk => hk.2) (.int .i64 t172)) (fun _ hk => hk.2) (.int .i64 t173)) (fun _ hk => hk.2) (.slice Ao162 t174.length co162)) (fun _ h_ => h_.1))) hb); have n6_ := Aside0.mk (Kd.R_below (by (with_reducible repeat (first | apply Kd.R_alloc | apply Kd.R_drewN | apply Kd.R_drew)); exact (Kd.R_mono (Kd.R_far (p := ⟨gb178, 2, none⟩) (Kd.R_far (p := ⟨gb178, 1, none⟩) (Kd.R_far (p := ⟨gb178, 0, none⟩) (Kd.R_types HO176.out BK178.out (by decide)) (fun _ hk => hk.2) (.int .i64 t172)) (fun _ hk => hk.2) (.int .i64 t173)) (fun _ hk => hk.2) (.slice Ao162 t174.length co162)) (fun _ h_ => h_.1))) hb); have n7_ := Aside0.mk (blk_below (g := gb101) (o := .cells #[.int .i64 a0_0, .int .i64 a0_1, .slice A0_2 l0_2.length c0_2] 30 (0, 0)) (by (with_reducible repeat (first | refine blk_drewN ?_ _ | refine blk_drew ?_ | refine blk_alloc ?_ _)); refine blk_far ?_ NB101_178.out _; (with_reducible repeat (first | refine blk_drewN ?_ _ | refine blk_drew ?_ | refine blk_alloc ?_ _)); refine blk_far ?_ NB101_178.out _; (with_reducible repeat (first | refine blk_drewN ?_ _ | refine blk_drew ?_ | refine blk_alloc ?_ _)); refine blk_far ?_ NB101_178.out _; (with_reducible repeat (first | refine blk_drewN ?_ _ | refine blk_drew ?_ | refine blk_alloc ?_ _)); exact BK101.out) hb); have n8_ := Aside0.mk (blk_below (g := gb102) (o := .cells #[.int .i64 a1_0, .int .i64 a1_1, .slice A1_2 l1_2.length c1_2] 30 (0, 0)) (by (with_reducible repeat (first | refine blk_drewN ?_ _ | refine blk_drew ?_ | refine blk_alloc ?_ _)); refine blk_far ?_ NB102_178.out _; (with_reducible repeat (first | refine blk_drewN ?_ _ | refine blk_drew ?_ | refine blk_alloc ?_ _)); refine blk_far ?_ NB102_178.out _; (with_reducible repeat (first | refine blk_drewN ?_ _ | refine blk_drew ?_ | refine blk_alloc ?_ _)); refine blk_far ?_ NB102_178.out _; (with_reducible repeat (first | refine blk_drewN ?_ _ | refine blk_drew ?_ | refine blk_alloc ?_ _)); exact BK102.out) hb); have n9_ := Aside0.mk (blk_below (g := gb121) (o := .cells #[.int .i64 t115, .int .i64 t116, .slice Ao43 t117.length co43] 33 (0, 0)) (by (with_reducible repeat (first | refine blk_drewN ?_ _ | refine blk_drew ?_ | refine blk_alloc ?_ _)); refine blk_far ?_ NB121_178.out _; (with_reducible repeat (first | refine blk_drewN ?_ _ | refine blk_drew ?_ | refine blk_alloc ?_ _)); refine blk_far ?_ NB121_178.out _; (with_reducible repeat (first | refine blk_drewN ?_ _ | refine blk_drew ?_ | refine blk_alloc ?_ _)); refine blk_far ?_ NB121_178.out _; (with_reducible repeat (first | refine blk_drewN ?_ _ | refine blk_drew ?_ | refine blk_alloc ?_ _)); exact BK121.out) hb); have n10_ := Aside0.mk (blk_below (g := gb127) (o := .cells #[.int .i64 t122, .int .i64 t123, .slice Ao53 t155.length co53] 33 (0, 0)) (by (with_reducible repeat (first | refine blk_drewN ?_ _ | refine blk_drew ?_ | refine blk_alloc ?_ _)); refine blk_far ?_ NB127_178.out _; (with_reducible repeat (first | refine blk_drewN ?_ _ | refine blk_drew ?_ | refine blk_alloc ?_ _)); refine blk_far ?_ NB127_178.out _; (with_reducible repeat (first | refine blk_drewN ?_ _ | refine blk_drew ?_ | refine blk_alloc ?_ _)); refine blk_far ?_ NB127_178.out _; (with_reducible repeat (first | refine blk_drewN ?_ _ | refine blk_drew ?_ | refine blk_alloc ?_ _)); exact BK127.out) hb); have n11_ := Aside0.mk (blk_below (g := gb133) (o := .cells #[.int .i64 t128, .int .i64 t129, .slice Ao63 t157.length co63] 33 (0, 0)) (by (with_reducible repeat (first | refine blk_drewN ?_ _ | refine blk_drew ?_ | refine blk_alloc ?_ _)); refine blk_far ?_ NB133_178.out _; (with_reducible repeat (first | refine blk_drewN ?_ _ | refine blk_drew ?_ | refine blk_alloc ?_ _)); refine blk_far ?_ NB133_178.out _; (with_reducible repeat (first | refine blk_drewN ?_ _ | refine blk_drew ?_ | refine blk_alloc ?_ _)); refine blk_far ?_ NB133_178.out _; (with_reducible repeat (first | refine blk_drewN ?_ _ | refine blk_drew ?_ | refine blk_alloc ?_ _)); exact BK133.out) hb); have n12_ := Aside0.mk (blk_below (g := gb140) (o := .cells #[.int .i64 t134, .int .i64 t135, .slice Ao73 t136.length co73] 33 (0, 0)) (by (with_reducible repeat (first | refine blk_drewN ?_ _ | refine blk_drew ?_ | refine blk_alloc ?_ _)); refine blk_far ?_ NB140_178.out _; (with_reducible repeat (first | refine blk_drewN ?_ _ | refine blk_drew ?_ | refine blk_alloc ?_ _)); refine blk_far ?_ NB140_178.out _; (with_reducible repeat (first | refine blk_drewN ?_ _ | refine blk_drew ?_ | refine blk_alloc ?_ _)); refine blk_far ?_ NB140_178.out _; (with_reducible repeat (first | refine blk_drewN ?_ _ | refine blk_drew ?_ | refine blk_alloc ?_ _)); exact BK140.out) hb); have n13_ := Aside0.mk (blk_below (g := gb178) (o := .cells #[.int .i64 t172, .int .i64 t173, .slice Ao162 t174.length co162] 33 (0, 0)) (by (with_reducible repeat (first | refine blk_drewN ?_ _ | refine blk_drew ?_ | refine blk_alloc ?_ _)); refine blk_put (cs := #[.int .i64 t172, .int .i64 t173, .slice none 0 0]) ?_ 2 _ rfl; (with_reducible repeat (first | refine blk_drewN ?_ _ | refine blk_drew ?_ | refine blk_alloc ?_ _)); refine blk_put (cs := #[.int .i64 t172, .int .i64 0, .slice none 0 0]) ?_ 1 _ rfl; (with_reducible repeat (first | refine blk_drewN ?_ _ | refine blk_drew ?_ | refine blk_alloc ?_ _)); refine blk_put (cs := #[.int .i64 0, .int .i64 0, .slice none 0 0]) ?_ 0 _ rfl; (with_reducible repeat (first | refine blk_drewN ?_ _ | refine blk_drew ?_ | refine blk_alloc ?_ _)); exact BK178.out) hb); have n14_ := Aside0.mk (below_step (bw_ HB.out) hb); clear HO_122002 HO_128002 HO_134002 HO_141002 HO166 HO171 HO176 BK101 BK102 BK121 BK127 BK133 BK140 BK178 HB; have HO_122002 := n0_; have HO_128002 := n1_; have HO_134002 := n2_; have HO_141002 := n3_; have HO166 := n4_; have HO171 := n5_; have HO176 := n6_; have BK101 := n7_; have BK102 := n8_; have BK121 := n9_; have BK127 := n10_; have BK133 := n11_; have BK140 := n12_; have BK178 := n13_; have HB := n14_; clear n0_ n1_ n2_ n3_ n4_ n5_ n6_ n7_ n8_ n9_ n10_ n11_ n12_ n13_ n14_; (try clear hb); (try clear hb2); (try clear hk); (try clear hi)))
               go_meet
               case rel => exact ⟨_, ((t177 != t120)), (by first | rfl | (simp; done) | (simp [*]; done)), H', ⟨by have := HJ24.out; have := HJ96.out; first | omega | exact Nat.le_refl _⟩, ⟨by (try simp only [hl128002_96]); (try simp only [hl134002_96]); (with_reducible repeat (first | apply Kd.R_alloc | apply Kd.R_drewN | apply Kd.R_drew)); exact Kd.R_mono HO_122002.out (fun _ hk => ⟨hk.2.2.2.1, ⟨hk.2.2.2.2.1, ⟨hk.2.2.2.2.2, hk.2.2.1⟩⟩⟩)⟩, ⟨by (try simp only [hl128002_96]); (try simp only [hl134002_96]); (with_reducible repeat (first | apply Kd.R_alloc | apply Kd.R_drewN | apply Kd.R_drew)); exact Kd.R_mono HO_128002.out (fun _ hk => ⟨hk.2.2.2.1, ⟨hk.2.2.2.2.1, ⟨hk.2.2.2.2.2, hk.2.2.1⟩⟩⟩)⟩, ⟨by (try simp only [hl128002_96]); (try simp only [hl134002_96]); (with_reducible repeat (first | apply Kd.R_alloc | apply Kd.R_drewN | apply Kd.R_drew)); exact Kd.R_mono HO_134002.out (fun _ hk => ⟨hk.2.2.2.1, ⟨hk.2.2.2.2.1, ⟨hk.2.2.2.2.2, hk.2.2.1⟩⟩⟩)⟩, ⟨by (try simp only [hl128002_96]); (try simp only [hl134002_96]); (with_reducible repeat (first | apply Kd.R_alloc | apply Kd.R_drewN | apply Kd.R_drew)); exact Kd.R_mono HO_141002.out (fun _ hk => ⟨hk.2.2.2.1, ⟨hk.2.2.2.2.1, ⟨hk.2.2.2.2.2, hk.2.2.1⟩⟩⟩)⟩, ⟨by (try simp only [hl128002_96]); (try simp only [hl134002_96]); (with_reducible repeat (first | apply Kd.R_alloc | apply Kd.R_drewN | apply Kd.R_drew)); exact Kd.R_mono HO176.out (fun _ hk => ⟨hk.2.2.1, ⟨hk.2.2.2.1, ⟨hk.2.2.2.2.1, hk.2.2.2.2.2⟩⟩⟩)⟩, ⟨by (try simp only [hl128002_96]); (try simp only [hl134002_96]); (with_reducible repeat (first | refine blk_drewN ?_ _ | refine blk_drew ?_ | refine blk_alloc ?_ _)); exact BK101.out⟩, ⟨by (try simp only [hl128002_96]); (try simp only [hl134002_96]); (with_reducible repeat (first | refine blk_drewN ?_ _ | refine blk_drew ?_ | refine blk_alloc ?_ _)); exact BK102.out⟩, ⟨by (try simp only [hl128002_96]); (try simp only [hl134002_96]); (with_reducible repeat (first | refine blk_drewN ?_ _ | refine blk_drew ?_ | refine blk_alloc ?_ _)); exact BK121.out⟩, ⟨by (try simp only [hl128002_96]); (try simp only [hl134002_96]); (with_reducible repeat (first | refine blk_drewN ?_ _ | refine blk_drew ?_ | refine blk_alloc ?_ _)); exact BK127.out⟩, ⟨by (try simp only [hl128002_96]); (try simp only [hl134002_96]); (with_reducible repeat (first | refine blk_drewN ?_ _ | refine blk_drew ?_ | refine blk_alloc ?_ _)); exact BK133.out⟩, ⟨by (try simp only [hl128002_96]); (try simp only [hl134002_96]); (with_reducible repeat (first | refine blk_drewN ?_ _ | refine blk_drew ?_ | refine blk_alloc ?_ _)); exact BK140.out⟩, ⟨by (try simp only [hl128002_96]); (try simp only [hl134002_96]); (with_reducible repeat (first | refine blk_drewN ?_ _ | refine blk_drew ?_ | refine blk_alloc ?_ _)); exact BK178.out⟩, ⟨by repeat (first | (with_reducible first | exact HB.out | apply below_alloc | apply pw_below_drewN | apply below_drew1 | refine below_set ?_ GE101.out | refine below_set ?_ GE102.out | refine below_set ?_ GE121.out | refine below_set ?_ GE127.out | refine below_set ?_ GE133.out | refine below_set ?_ GE140.out | refine below_set ?_ GE178.out) | exact HB.out)⟩⟩
              ·replace c165 := Bool.eq_false_iff.mpr c165
               subst c165
               have H1 : (none) = some r := by rw [if_neg (show ¬ (false = true) by decide)] at H; exact H
               clear H
               have H := H1
               clear H1
               exact absurd H (by simp)
             case rest =>
              clear HC142
              try clear c1
              try clear c2
              try clear p2
              try clear c14
              try clear c16
              try clear c17
              try clear c28
              try clear c165
              try clear c166
              try clear c167
              try clear c168
              try clear c169
              try clear c170
              try clear c171
              try clear c173
              try clear c174
              try clear c175
              try clear c176
              try clear c177
              try clear hcz172_0
              try clear hcz172_1
              try clear hcz172_2
              try clear hcz178_0
              try clear hcz178_1
              try clear hcz178_2
              try clear hfz172_0
              try clear hfz172_1
              try clear hfz172_2
              try clear hfz178_0
              try clear hfz178_1
              try clear hfz178_2
              obtain ⟨kq, x110_141, rfl, HA, HJ141, HO_122002, HO_128002, HO_134002, HO_141002, HO_179002, BK101, BK102, BK121, BK127, BK133, BK140, BK178, HB⟩ := hcut
              have hl141002_141 := (Kd.R_reads' HO_141002.out).1
              rw [hl141002_141] at HO_141002
              (try simp only [hl141002_141])
              (try simp only [hl141002_141] at BK101)
              (try simp only [hl141002_141] at BK102)
              (try simp only [hl141002_141] at BK121)
              (try simp only [hl141002_141] at BK127)
              (try simp only [hl141002_141] at BK133)
              (try simp only [hl141002_141] at BK140)
              (try simp only [hl141002_141] at BK178)
              (try simp only [hl141002_141] at HO_122002)
              (try simp only [hl141002_141] at HO_128002)
              (try simp only [hl141002_141] at HO_134002)
              (try simp only [hl141002_141] at HO_179002)
              cases kq with
              | zero => exact absurd HA.out (by simp [laws_FnExactAddRanks.j2])
              | succ kj141 =>
               have H := HA.out
               clear HA
               simp only [laws_FnExactAddRanks.j2] at H
               by_cases c180 : x110_141 = true
               ·subst c180
                have H1 : (none) = some r := by rw [if_pos rfl] at H; exact H
                clear H
                have H := H1
                clear H1
                exact absurd H (by simp)
               ·replace c180 := Bool.eq_false_iff.mpr c180
                subst c180
                have H1 : ((laws_heldRanks.f kj141 t134 t135 t160 1).bind fun t180 => (if t180 < 0 then (none) else (if t180 = t159 then (some true) else (none)))) = some r := by rw [if_neg (show ¬ (false = true) by decide)] at H; exact H
                clear H
                have H := H1
                clear H1
                replace H := Option.bind_eq_some_iff.mp H
                obtain ⟨t180, A1810, H⟩ := H
                replace H : (if t180 < 0 then (none) else (if t180 = t159 then (some true) else (none))) = some r := H
                have A181 := Aside0.mk A1810
                clear A1810
                by_cases c182 : t180 < 0
                ·rw [if_pos c182] at H
                 exact absurd H (by simp)
                ·rw [if_neg c182] at H
                 have c182b0 : decide (t180 < 0) = false := decide_eq_false c182
                 clear c182
                 by_cases c183 : t180 = t159
                 ·rw [if_pos c183] at H
                  have c183b0 : (t180 == t159) = true := beq_iff_eq.mpr c183
                  have c183b1 : (t180 != t159) = false := bne_eq_false_iff_eq.mpr c183
                  clear c183
                  obtain rfl := Option.some.inj H
                  have hnb184 := NB140_101.out
                  have hnc184 := NB101_140.out
                  have hnb185 := NB140_102.out
                  have hnc185 := NB102_140.out
                  have hnb186 := NB140_121.out
                  have hnc186 := NB121_140.out
                  have hnb187 := NB140_127.out
                  have hnc187 := NB127_140.out
                  have hnb188 := NB140_133.out
                  have hnc188 := NB133_140.out
                  have hnb189 := NB140_178.out
                  have hnc189 := NB178_140.out
                  have hcz190_0 : wc.cell? ⟨gb140, 0, none⟩ = some (.int .i64 t134) := (blk_cell BK140.out 0).trans rfl
                  have hcz190_1 : wc.cell? ⟨gb140, 1, none⟩ = some (.int .i64 t135) := (blk_cell BK140.out 1).trans rfl
                  have hcz190_2 : wc.cell? ⟨gb140, 2, none⟩ = some (.slice Ao73 t160.length co73) := (blk_cell BK140.out 2).trans rfl
                  have hfz190_0 := blk_frozen BK140.out 0
                  have hfz190_1 := blk_frozen BK140.out 1
                  have hfz190_2 := blk_frozen BK140.out 2
                  go_wp2_with (first | ((with_reducible refine gate_callee (f := 26) rfl ?_); refine goesL_ (some 113) rfl rfl Try.func26 (by kernel_rfl) rfl #[.agg #[.int .i64 t134, .int .i64 t135, .slice Ao73 t160.length co73], .int .i64 1] rfl am_ ?_; (with_reducible refine (laws_heldRanks.calls kj141 t134 t135 _ _ t160 1 t180 _ ?side1 ?side2 A181.out).mono ?_); (case side1 => repeat (first | exact (Kd.R_reads' HO_141002.out).2.2 | (with_reducible refine Kd.C_alloc ?_ _) | (with_reducible refine Kd.C_drewN ?_ _) | (with_reducible refine Kd.C_drew ?_))); (case side2 => exact (Kd.R_reads' HO_141002.out).2.1); rintro e w191 ⟨rfl, hb⟩; refine ⟨_, rfl, ?_⟩; have n0_ := Aside0.mk (Kd.R_below (rz_ HO_122002.out) hb); have n1_ := Aside0.mk (Kd.R_below (rz_ HO_128002.out) hb); have n2_ := Aside0.mk (Kd.R_below (rz_ HO_134002.out) hb); have n3_ := Aside0.mk (Kd.R_below (rz_ HO_141002.out) hb); have n4_ := Aside0.mk (Kd.R_below (rz_ HO_179002.out) hb); have n5_ := Aside0.mk (blk_below (bz_ BK101.out) hb); have n6_ := Aside0.mk (blk_below (bz_ BK102.out) hb); have n7_ := Aside0.mk (blk_below (bz_ BK121.out) hb); have n8_ := Aside0.mk (blk_below (bz_ BK127.out) hb); have n9_ := Aside0.mk (blk_below (bz_ BK133.out) hb); have n10_ := Aside0.mk (blk_below (bz_ BK140.out) hb); have n11_ := Aside0.mk (blk_below (bz_ BK178.out) hb); have n12_ := Aside0.mk (below_step (bw_ HB.out) hb); clear HO_122002 HO_128002 HO_134002 HO_141002 HO_179002 BK101 BK102 BK121 BK127 BK133 BK140 BK178 HB; have HO_122002 := n0_; have HO_128002 := n1_; have HO_134002 := n2_; have HO_141002 := n3_; have HO_179002 := n4_; have BK101 := n5_; have BK102 := n6_; have BK121 := n7_; have BK127 := n8_; have BK133 := n9_; have BK140 := n10_; have BK178 := n11_; have HB := n12_; clear n0_ n1_ n2_ n3_ n4_ n5_ n6_ n7_ n8_ n9_ n10_ n11_ n12_; (try clear hb); (try clear hb2); (try clear hk); (try clear hi)))
                  go_ret
                  exact ⟨by first | rfl | (simp [errW_none, errW_some] <;> rfl) | (simp [*, errW_none, errW_some] <;> rfl), by repeat (first | (with_reducible first | exact HB.out | apply below_alloc | apply pw_below_drewN | apply below_drew1 | refine below_set ?_ GE101.out | refine below_set ?_ GE102.out | refine below_set ?_ GE121.out | refine below_set ?_ GE127.out | refine below_set ?_ GE133.out | refine below_set ?_ GE140.out | refine below_set ?_ GE178.out) | exact HB.out)⟩
                 ·rw [if_neg c183] at H
                  exact absurd H (by simp)
            ·rw [if_neg c138] at H
             exact absurd H (by simp)
       ·replace c94 := Bool.eq_false_iff.mpr c94
        subst c94
        have H1 : (none) = some r := by rw [if_neg (show ¬ (false = true) by decide)] at H; exact H
        clear H
        have H := H1
        clear H1
        exact absurd H (by simp)
      ·replace c91 := Bool.eq_false_iff.mpr c91
       subst c91
       have H1 : (none) = some r := by rw [if_neg (show ¬ (false = true) by decide)] at H; exact H
       clear H
       have H := H1
       clear H1
       exact absurd H (by simp)
end Go.Proofs.Ytmniekgnpppbhaa.F
end
