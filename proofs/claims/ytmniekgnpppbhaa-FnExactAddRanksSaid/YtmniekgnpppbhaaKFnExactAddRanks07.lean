/- Words, walks and laws that the proof of FnExactAddRanks stands on, each under its own conditions alone. -/
import Derived.Test.YtmniekgnpppbhaaKFnExactAddRanks01
import Derived.Test.YtmniekgnpppbhaaKFnExactAddRanks06
import Derived.Test.YtmniekgnpppbhaaKFnExactAddRanks03
import Derived.Test.YtmniekgnpppbhaaKFnExactAddRanks04
import Derived.Test.YtmniekgnpppbhaaKFnExactAddRanks05
section
namespace Go.Proofs.Ytmniekgnpppbhaa.F
open Go.RowKit Go.Proofs.YtmniekgnpppbhaaW.PrintWords Go.Proofs.YtmniekgnpppbhaaW.PrintLast Go.Proofs.YtmniekgnpppbhaaW.PrintMore
attribute [local go_sem] max2_int min2_int max_two min_two max_three min_three max_four min_four
set_option linter.unusedVariables false
set_option linter.unusedSimpArgs false
mutual
def spec_AddRanks.j0 : Nat → Bool → Int → Int → List Int → Int → Int → List Int → Option (Int × Int × List Int × Int)
 | 0, _, _, _, _, _, _, _ => none
 | k + 1, x13, x102000, x102001, x102002, x103000, x103001, x103002 => if x13 = true then (some (0, 0, ([] : List Int), 1)) else (if x102000 = x103000 then (spec_AddRanks.l0 k 0 x102000 x102001 x102002 x103000 x103001 x103002 x102000 (wrap64 (x102001 + x103001)) ([] : List Int)) else (some (0, 0, ([] : List Int), 2)))
def spec_AddRanks.l0 : Nat → Int → Int → Int → List Int → Int → Int → List Int → Int → Int → List Int → Option (Int × Int × List Int × Int)
 | 0, _, _, _, _, _, _, _, _, _, _ => none
 | k + 1, x7, x102000, x102001, x102002, x103000, x103001, x103002, x107000, x107001, x107002 => if x7 < (x102002.length : Int) then (if 0 ≤ x7 then (if x7 < (x103002.length : Int) then (if x107002.length < 17592186044416 then (spec_AddRanks.l0 k (wrap64 (x7 + 1)) x102000 x102001 x102002 x103000 x103001 x103002 x107000 x107001 (x107002 ++ [wrap64 ((rd x102002 x7) + (rd x103002 x7))])) else (none)) else (none)) else (none)) else ((spec_l07Ok.f k x107000 x107001 x107002).bind fun t112 => (if t112 = true then (some (x107000, x107001, x107002, 0)) else (some (0, 0, ([] : List Int), 3))))
end
def spec_AddRanks.f (k : Nat) (a0_0 : Int) (a0_1 : Int) (l0_2 : List Int) (a1_0 : Int) (a1_1 : Int) (l1_2 : List Int) : Option (Int × Int × List Int × Int) := (spec_l07Ok.f k a0_0 a0_1 l0_2).bind fun t104 => (if t104 = true then ((spec_l07Ok.f k a1_0 a1_1 l1_2).bind fun t105 => (spec_AddRanks.j0 k (!t105) a0_0 a0_1 l0_2 a1_0 a1_1 l1_2)) else (spec_AddRanks.j0 k true a0_0 a0_1 l0_2 a1_0 a1_1 l1_2))
theorem spec_AddRanks.mono_l : ∀ k, (∀ y0 y1 y2 y3 y4 y5 y6, LeO (spec_AddRanks.j0 k y0 y1 y2 y3 y4 y5 y6) (spec_AddRanks.j0 (k + 1) y0 y1 y2 y3 y4 y5 y6)) ∧ (∀ y0 y1 y2 y3 y4 y5 y6 y7 y8 y9, LeO (spec_AddRanks.l0 k y0 y1 y2 y3 y4 y5 y6 y7 y8 y9) (spec_AddRanks.l0 (k + 1) y0 y1 y2 y3 y4 y5 y6 y7 y8 y9))
 | 0 => ⟨fun _ _ _ _ _ _ _ r h => by simp [spec_AddRanks.j0] at h, fun _ _ _ _ _ _ _ _ _ _ r h => by simp [spec_AddRanks.l0] at h⟩
 | k + 1 => by
  obtain ⟨ih0, ih1⟩ := spec_AddRanks.mono_l k
  refine ⟨?_, ?_⟩
  ·intro y0 y1 y2 y3 y4 y5 y6
   unfold spec_AddRanks.j0
   repeat' first
   | (with_reducible exact ih0 _ _ _ _ _ _ _)
   | (with_reducible exact ih1 _ _ _ _ _ _ _ _ _ _)
   | (with_reducible exact spec_l07Ok.mono _ _ _ _)
   | (with_reducible exact LeO.refl _)
   | (with_reducible exact LeO.none _)
   | (with_reducible refine LeO.ite ?_ ?_)
   | (with_reducible refine LeO.bind ?_ (fun _ => ?_))
   | exact ih0 _ _ _ _ _ _ _
   | exact ih1 _ _ _ _ _ _ _ _ _ _
   | exact spec_l07Ok.mono _ _ _ _
   | exact LeO.none _
   | refine LeO.ite ?_ ?_
   | refine LeO.bind ?_ (fun _ => ?_)
  ·intro y0 y1 y2 y3 y4 y5 y6 y7 y8 y9
   unfold spec_AddRanks.l0
   repeat' first
   | (with_reducible exact ih0 _ _ _ _ _ _ _)
   | (with_reducible exact ih1 _ _ _ _ _ _ _ _ _ _)
   | (with_reducible exact spec_l07Ok.mono _ _ _ _)
   | (with_reducible exact LeO.refl _)
   | (with_reducible exact LeO.none _)
   | (with_reducible refine LeO.ite ?_ ?_)
   | (with_reducible refine LeO.bind ?_ (fun _ => ?_))
   | exact ih0 _ _ _ _ _ _ _
   | exact ih1 _ _ _ _ _ _ _ _ _ _
   | exact spec_l07Ok.mono _ _ _ _
   | exact LeO.none _
   | refine LeO.ite ?_ ?_
   | refine LeO.bind ?_ (fun _ => ?_)
theorem spec_AddRanks.mono : ∀ a0 a1 a2 a3 a4 a5 k, LeO (spec_AddRanks.f k a0 a1 a2 a3 a4 a5) (spec_AddRanks.f (k + 1) a0 a1 a2 a3 a4 a5) := by
 intro a0 a1 a2 a3 a4 a5 k
 obtain ⟨ih0, ih1⟩ := spec_AddRanks.mono_l k
 unfold spec_AddRanks.f
 repeat' first
   | (with_reducible exact ih0 _ _ _ _ _ _ _)
   | (with_reducible exact ih1 _ _ _ _ _ _ _ _ _ _)
   | (with_reducible exact spec_l07Ok.mono _ _ _ _)
   | (with_reducible exact LeO.refl _)
   | (with_reducible exact LeO.none _)
   | (with_reducible refine LeO.ite ?_ ?_)
   | (with_reducible refine LeO.bind ?_ (fun _ => ?_))
   | exact ih0 _ _ _ _ _ _ _
   | exact ih1 _ _ _ _ _ _ _ _ _ _
   | exact spec_l07Ok.mono _ _ _ _
   | exact LeO.none _
   | refine LeO.ite ?_ ?_
   | refine LeO.bind ?_ (fun _ => ?_)
def spec_AddRanks.T9 : Bool × List (List Nat × List Nat) := (true, [([], []), ([0], [0]), ([], []), ([2], [2]), ([], []), ([3, 4], [3, 4]), ([5], [5]), ([], []), ([7], [7]), ([], []), ([8, 9], [8, 9]), ([10], [10]), ([6, 11], [6, 11]), ([12], [12]), ([1, 13], [1, 13]), ([0, 1, 2, 3, 4, 5, 6, 7, 8, 9, 10, 11, 12, 13, 14], []), ([15, 14, 14, 0, 1, 2, 3, 4, 5, 6, 7, 8, 9, 10, 11, 12, 13, 14], [14, 15])])
def spec_AddRanks.B9 : List Nat := [0, 1, 0, 4, 0, 28, 60, 0, 128, 0, 896, 1920, 4092, 8188, 16383, 32767, 65535]
theorem spec_AddRanks.tab9 : rtab .any (opsOf Try.f27 9) = spec_AddRanks.T9 := by kernel_rfl
theorem spec_AddRanks.bits9 : waitsOk spec_AddRanks.T9.2 spec_AddRanks.B9 = true := by kernel_rfl
set_option maxHeartbeats 8000000 in
set_option maxRecDepth 100000 in
theorem spec_AddRanks.calls (k : Nat) (a0_0 : Int) (a0_1 : Int) (A0_2 : Option Addr) (c0_2 : Nat) (l0_2 : List Int) (a1_0 : Int) (a1_1 : Int) (A1_2 : Option Addr) (c1_2 : Nat) (l1_2 : List Int) (r1 : Int) (r2 : Int) (r3 : List Int) (r4 : Int) (w : World) (hr0_2 : Kd.C (Kd.int .i64) w A0_2 l0_2.length l0_2) (hc0_2 : l0_2.length ≤ c0_2) (hr1_2 : Kd.C (Kd.int .i64) w A1_2 l1_2.length l1_2) (hc1_2 : l1_2.length ≤ c1_2) (h : spec_AddRanks.f k a0_0 a0_1 l0_2 a1_0 a1_1 l1_2 = some (r1, r2, r3, r4)) :
  Calls Try.prog 27 #[.agg #[.int .i64 a0_0, .int .i64 a0_1, .slice A0_2 l0_2.length c0_2], .agg #[.int .i64 a1_0, .int .i64 a1_1, .slice A1_2 l1_2.length c1_2]] w fun e w' => ∃ v2_ : Value, e = .returned (.tuple #[.agg #[.int .i64 r1, .int .i64 r2, v2_], .int .i64 r4]) ∧ Kd.R (Kd.int .i64) 2 w' w.heap.size (fun _ => True) v2_ r3 ∧ Below w.heap.size w w' := by
 have hu33 := Try.underlying33
 have HR0_2 := Aside0.mk hr0_2
 have HC0_2 := Aside0.mk hc0_2
 clear hr0_2 hc0_2
 have HR1_2 := Aside0.mk hr1_2
 have HC1_2 := Aside0.mk hc1_2
 clear hr1_2 hc1_2
 have HB := Aside0.mk (Below.refl w.heap.size w)
 have H : ((spec_l07Ok.f k a0_0 a0_1 l0_2).bind fun t104 => (if t104 = true then ((spec_l07Ok.f k a1_0 a1_1 l1_2).bind fun t105 => (spec_AddRanks.j0 k (!t105) a0_0 a0_1 l0_2 a1_0 a1_1 l1_2)) else (spec_AddRanks.j0 k true a0_0 a0_1 l0_2 a1_0 a1_1 l1_2))) = some (r1, r2, r3, r4) := h
 clear h
 have HC3 := Aside0.mk H
 clear H
 go_enter Try.func27, Try.ntmps27
 go_upto_region 1 with (first | ((with_reducible refine gate_dst (N := 2) rfl ?_); refine box_event ?hg (N := 2) ?hd (cs := #[.int .i64 a0_0, .int .i64 a0_1, .slice A0_2 l0_2.length c0_2]) (t := 33) ?hr ?_; (case hd => rfl); (case hg => rfl); (case hr => first | (go_simp; done) | (go_simp; rfl)); intro gb101 hg w4 hbox hb; have n0_ := Aside0.mk (below_step (bw_ HB.out) hb); have n1_ := Aside0.mk (hbox); have n2_ := Aside0.mk ((sz_ (below_size (bw_ HB.out)) hg : w.heap.size ≤ gb101)); have n3_ := Aside0.mk ((sz_ (below_size (bw_ HB.out)) hg : w.heap.size ≤ gb101)); clear HB; have HB := n0_; have BK101 := n1_; have GW101 := n2_; have GE101 := n3_; clear n0_ n1_ n2_ n3_; clear hb hbox hg) | ((with_reducible refine gate_dst (N := 3) rfl ?_); refine box_event ?hg (N := 3) ?hd (cs := #[.int .i64 a1_0, .int .i64 a1_1, .slice A1_2 l1_2.length c1_2]) (t := 33) ?hr ?_; (case hd => rfl); (case hg => rfl); (case hr => first | (go_simp; done) | (go_simp; rfl)); intro gb102 hg w5 hbox hb; have n0_ := Aside0.mk (blk_below (bz_ BK101.out) hb); have n1_ := Aside0.mk (below_step (bw_ HB.out) hb); have n2_ := Aside0.mk (hbox); have n3_ := Aside0.mk ((sz_ (below_size (bw_ HB.out)) hg : w.heap.size ≤ gb102)); have n4_ := Aside0.mk ((sz_ (below_size (bw_ HB.out)) hg : w.heap.size ≤ gb102)); have n5_ := Aside0.mk ((nl_ (blk_lt (bz_ BK101.out)) hg : gb101 ≠ gb102)); have n6_ := Aside0.mk ((ng_ (blk_lt (bz_ BK101.out)) hg : gb102 ≠ gb101)); clear BK101 HB; have BK101 := n0_; have HB := n1_; have BK102 := n2_; have GW102 := n3_; have GE102 := n4_; have NB101_102 := n5_; have NB102_101 := n6_; clear n0_ n1_ n2_ n3_ n4_ n5_ n6_; clear hb hbox hg) | ((with_reducible refine gate_dst (N := 4) rfl ?_); refine box_event ?hg (N := 4) ?hd (cs := #[.int .i64 0, .int .i64 0, .slice none 0 0]) (t := 33) ?hr ?_; (case hd => rfl); (case hg => rfl); (case hr => first | (go_simp; done) | (go_simp; rfl)); intro gb103 hg w6 hbox hb; have n0_ := Aside0.mk (blk_below (bz_ BK101.out) hb); have n1_ := Aside0.mk (blk_below (bz_ BK102.out) hb); have n2_ := Aside0.mk (below_step (bw_ HB.out) hb); have n3_ := Aside0.mk (hbox); have n4_ := Aside0.mk ((sz_ (below_size (bw_ HB.out)) hg : w.heap.size ≤ gb103)); have n5_ := Aside0.mk ((sz_ (below_size (bw_ HB.out)) hg : w.heap.size ≤ gb103)); have n6_ := Aside0.mk ((nl_ (blk_lt (bz_ BK101.out)) hg : gb101 ≠ gb103)); have n7_ := Aside0.mk ((ng_ (blk_lt (bz_ BK101.out)) hg : gb103 ≠ gb101)); have n8_ := Aside0.mk ((nl_ (blk_lt (bz_ BK102.out)) hg : gb102 ≠ gb103)); have n9_ := Aside0.mk ((ng_ (blk_lt (bz_ BK102.out)) hg : gb103 ≠ gb102)); clear BK101 BK102 HB; have BK101 := n0_; have BK102 := n1_; have HB := n2_; have BK103 := n3_; have GW103 := n4_; have GE103 := n5_; have NB101_103 := n6_; have NB103_101 := n7_; have NB102_103 := n8_; have NB103_102 := n9_; clear n0_ n1_ n2_ n3_ n4_ n5_ n6_ n7_ n8_ n9_; clear hb hbox hg))
 (try simp only [Act.put, List.setIfInBounds_toArray, List.set_cons_zero, List.set_cons_succ])
 go_cut [13] (fun v13 wc => ∃ (kq : Nat) (x13_2 : Bool) (x102000_2 : Int) (x102001_2 : Int) (x103000_2 : Int) (x103001_2 : Int), v13 = .bool x13_2 ∧ Aside0 (spec_AddRanks.j0 kq x13_2 x102000_2 x102001_2 l0_2 x103000_2 x103001_2 l1_2 = some (r1, r2, r3, r4)) ∧ Aside0 (kq ≤ k) ∧ Aside0 (wc.heap[gb101]? = some (.cells #[.int .i64 x102000_2, .int .i64 x102001_2, (.slice A0_2 l0_2.length c0_2)] 33 (0, 0))) ∧ Aside0 (wc.heap[gb102]? = some (.cells #[.int .i64 x103000_2, .int .i64 x103001_2, (.slice A1_2 l1_2.length c1_2)] 33 (0, 0))) ∧ Aside0 (wc.heap[gb103]? = some (.cells #[.int .i64 0, .int .i64 0, (.slice none 0 0)] 33 (0, 0))) ∧ Aside0 (Below w.heap.size w wc))
 case first =>
  have H := HC3.out
  clear HC3
  replace H := Option.bind_eq_some_iff.mp H
  obtain ⟨t104, A70, H⟩ := H
  replace H : (if t104 = true then ((spec_l07Ok.f k a1_0 a1_1 l1_2).bind fun t105 => (spec_AddRanks.j0 k (!t105) a0_0 a0_1 l0_2 a1_0 a1_1 l1_2)) else (spec_AddRanks.j0 k true a0_0 a0_1 l0_2 a1_0 a1_1 l1_2)) = some (r1, r2, r3, r4) := H
  have A7 := Aside0.mk A70
  clear A70
  by_cases c8 : t104 = true
  ·subst c8
   have H1 : ((spec_l07Ok.f k a1_0 a1_1 l1_2).bind fun t105 => (spec_AddRanks.j0 k (!t105) a0_0 a0_1 l0_2 a1_0 a1_1 l1_2)) = some (r1, r2, r3, r4) := by rw [if_pos rfl] at H; exact H
   clear H
   have H := H1
   clear H1
   replace H := Option.bind_eq_some_iff.mp H
   obtain ⟨t105, A90, H⟩ := H
   replace H : (spec_AddRanks.j0 k (!t105) a0_0 a0_1 l0_2 a1_0 a1_1 l1_2) = some (r1, r2, r3, r4) := H
   have A9 := Aside0.mk A90
   clear A90
   have H' := Aside0.mk H
   clear H
   go_wp2_with (first | ((with_reducible refine gate_callee (f := 33) rfl ?_); refine goesL_ (some 8) rfl rfl Try.func33 (by kernel_rfl) rfl #[.pointer (some ⟨gb101, 0, none⟩)] rfl am_ ?_; (with_reducible refine (spec_l07Ok.calls k gb101 a0_0 a0_1 A0_2 c0_2 l0_2 true _ ?side1 ?side2 ?side3 A7.out).mono ?_); (case side1 => repeat (first | exact (Kd.C_below HR0_2.out HB.out) | (with_reducible refine Kd.C_alloc ?_ _) | (with_reducible refine Kd.C_drewN ?_ _) | (with_reducible refine Kd.C_drew ?_))); (case side2 => exact HC0_2.out); (case side3 => exact (bz_ BK101.out)); rintro e w10 ⟨rfl, hb⟩; refine ⟨_, rfl, ?_⟩; have n0_ := Aside0.mk (blk_below (bz_ BK101.out) hb); have n1_ := Aside0.mk (blk_below (bz_ BK102.out) hb); have n2_ := Aside0.mk (blk_below (bz_ BK103.out) hb); have n3_ := Aside0.mk (below_step (bw_ HB.out) hb); clear BK101 BK102 BK103 HB; have BK101 := n0_; have BK102 := n1_; have BK103 := n2_; have HB := n3_; clear n0_ n1_ n2_ n3_; (try clear hb); (try clear hb2); (try clear hk); (try clear hi)) | (go_at_call 33; (with_reducible refine (spec_l07Ok.calls k gb102 a1_0 a1_1 A1_2 c1_2 l1_2 t105 _ ?side1 ?side2 ?side3 A9.out).mono ?_); (case side1 => repeat (first | exact (Kd.C_below HR1_2.out HB.out) | (with_reducible refine Kd.C_alloc ?_ _) | (with_reducible refine Kd.C_drewN ?_ _) | (with_reducible refine Kd.C_drew ?_))); (case side2 => exact HC1_2.out); (case side3 => exact (bz_ BK102.out)); rintro e w11 ⟨rfl, hb⟩; have n0_ := Aside0.mk (blk_below (bz_ BK101.out) hb); have n1_ := Aside0.mk (blk_below (bz_ BK102.out) hb); have n2_ := Aside0.mk (blk_below (bz_ BK103.out) hb); have n3_ := Aside0.mk (below_step (bw_ HB.out) hb); clear BK101 BK102 BK103 HB; have BK101 := n0_; have BK102 := n1_; have BK103 := n2_; have HB := n3_; clear n0_ n1_ n2_ n3_; (try clear hb); (try clear hb2); (try clear hk); (try clear hi)))
   go_meet
   case rel => exact ⟨_, (!t105), (a0_0), (a0_1), (a1_0), (a1_1), (by first | rfl | (simp; done) | (simp [*]; done)), H', ⟨by first | omega | exact Nat.le_refl _⟩, ⟨by (with_reducible repeat (first | refine blk_drewN ?_ _ | refine blk_drew ?_ | refine blk_alloc ?_ _)); exact BK101.out⟩, ⟨by (with_reducible repeat (first | refine blk_drewN ?_ _ | refine blk_drew ?_ | refine blk_alloc ?_ _)); exact BK102.out⟩, ⟨by (with_reducible repeat (first | refine blk_drewN ?_ _ | refine blk_drew ?_ | refine blk_alloc ?_ _)); exact BK103.out⟩, ⟨by repeat (first | (with_reducible first | exact HB.out | apply below_alloc | apply pw_below_drewN | apply below_drew1 | refine below_set ?_ GE101.out | refine below_set ?_ GE102.out | refine below_set ?_ GE103.out) | exact HB.out)⟩⟩
  ·replace c8 := Bool.eq_false_iff.mpr c8
   subst c8
   have H1 : (spec_AddRanks.j0 k true a0_0 a0_1 l0_2 a1_0 a1_1 l1_2) = some (r1, r2, r3, r4) := by rw [if_neg (show ¬ (false = true) by decide)] at H; exact H
   clear H
   have H := H1
   clear H1
   have H' := Aside0.mk H
   clear H
   go_wp2_with (first | ((with_reducible refine gate_callee (f := 33) rfl ?_); refine goesL_ (some 8) rfl rfl Try.func33 (by kernel_rfl) rfl #[.pointer (some ⟨gb101, 0, none⟩)] rfl am_ ?_; (with_reducible refine (spec_l07Ok.calls k gb101 a0_0 a0_1 A0_2 c0_2 l0_2 false _ ?side1 ?side2 ?side3 A7.out).mono ?_); (case side1 => repeat (first | exact (Kd.C_below HR0_2.out HB.out) | (with_reducible refine Kd.C_alloc ?_ _) | (with_reducible refine Kd.C_drewN ?_ _) | (with_reducible refine Kd.C_drew ?_))); (case side2 => exact HC0_2.out); (case side3 => exact (bz_ BK101.out)); rintro e w12 ⟨rfl, hb⟩; refine ⟨_, rfl, ?_⟩; have n0_ := Aside0.mk (blk_below (bz_ BK101.out) hb); have n1_ := Aside0.mk (blk_below (bz_ BK102.out) hb); have n2_ := Aside0.mk (blk_below (bz_ BK103.out) hb); have n3_ := Aside0.mk (below_step (bw_ HB.out) hb); clear BK101 BK102 BK103 HB; have BK101 := n0_; have BK102 := n1_; have BK103 := n2_; have HB := n3_; clear n0_ n1_ n2_ n3_; (try clear hb); (try clear hb2); (try clear hk); (try clear hi)))
   go_meet
   case rel => exact ⟨_, (true), (a0_0), (a0_1), (a1_0), (a1_1), (by first | rfl | (simp; done) | (simp [*]; done)), H', ⟨by first | omega | exact Nat.le_refl _⟩, ⟨by (with_reducible repeat (first | refine blk_drewN ?_ _ | refine blk_drew ?_ | refine blk_alloc ?_ _)); exact BK101.out⟩, ⟨by (with_reducible repeat (first | refine blk_drewN ?_ _ | refine blk_drew ?_ | refine blk_alloc ?_ _)); exact BK102.out⟩, ⟨by (with_reducible repeat (first | refine blk_drewN ?_ _ | refine blk_drew ?_ | refine blk_alloc ?_ _)); exact BK103.out⟩, ⟨by repeat (first | (with_reducible first | exact HB.out | apply below_alloc | apply pw_below_drewN | apply below_drew1 | refine below_set ?_ GE101.out | refine below_set ?_ GE102.out | refine below_set ?_ GE103.out) | exact HB.out)⟩⟩
 case rest =>
  clear HC3
  try clear c1
  try clear c2
  try clear p2
  try clear c3
  try clear c8
  obtain ⟨kq, x13_2, x102000_2, x102001_2, x103000_2, x103001_2, rfl, HA, HJ2, BK101, BK102, BK103, HB⟩ := hcut
  cases kq with
  | zero => exact absurd HA.out (by simp [spec_AddRanks.j0])
  | succ kj2 =>
   have H := HA.out
   clear HA
   simp only [spec_AddRanks.j0] at H
   by_cases c13 : x13_2 = true
   ·subst c13
    have H1 : (some (0, 0, ([] : List Int), 1)) = some (r1, r2, r3, r4) := by rw [if_pos rfl] at H; exact H
    clear H
    have H := H1
    clear H1
    simp only [Option.some.injEq, Prod.mk.injEq] at H
    obtain ⟨rfl, rfl, rfl, rfl⟩ := H
    have hnb14 := NB103_101.out
    have hnc14 := NB101_103.out
    have hnb15 := NB103_102.out
    have hnc15 := NB102_103.out
    have hcz16_0 : wc.cell? ⟨gb103, 0, none⟩ = some (.int .i64 0) := (blk_cell BK103.out 0).trans rfl
    have hcz16_1 : wc.cell? ⟨gb103, 1, none⟩ = some (.int .i64 0) := (blk_cell BK103.out 1).trans rfl
    have hcz16_2 : wc.cell? ⟨gb103, 2, none⟩ = some (.slice none 0 0) := (blk_cell BK103.out 2).trans rfl
    have hfz16_0 := blk_frozen BK103.out 0
    have hfz16_1 := blk_frozen BK103.out 1
    have hfz16_2 := blk_frozen BK103.out 2
    go_wp2
    refine bodyPost_ret (results_ct rfl _ _ gb103 33 #[.int .i64 0, .int .i64 0, .slice none 0 0] (0, 0) _ rfl (by (with_reducible repeat (first | refine blk_drewN ?_ _ | refine blk_drew ?_ | refine blk_alloc ?_ _)); refine blk_put (cs := #[.int .i64 0, .int .i64 0, .slice none 0 0]) ?_ 2 _ rfl; (with_reducible repeat (first | refine blk_drewN ?_ _ | refine blk_drew ?_ | refine blk_alloc ?_ _)); refine blk_put (cs := #[.int .i64 0, .int .i64 0, .slice none 0 0]) ?_ 1 _ rfl; (with_reducible repeat (first | refine blk_drewN ?_ _ | refine blk_drew ?_ | refine blk_alloc ?_ _)); refine blk_put (cs := #[.int .i64 0, .int .i64 0, .slice none 0 0]) ?_ 0 _ rfl; (with_reducible repeat (first | refine blk_drewN ?_ _ | refine blk_drew ?_ | refine blk_alloc ?_ _)); exact BK103.out) Try.underlying33 rfl (by kernel_rfl)) rfl ?_
    exact ⟨_, by first | rfl | (simp [errW_none, errW_some] <;> rfl) | (simp [*, errW_none, errW_some] <;> rfl), by first | exact Kd.R_nil _ _ _ _ _ | exact Kd.N_nil _ _ _ _ _ | exact Kd.V_nil _ _ _ _ _ | exact Kd.Q_nil _ _ _ _ _ | exact Kd.S_nil _ _ _ _ _, by repeat (first | (with_reducible first | exact HB.out | apply below_alloc | apply pw_below_drewN | apply below_drew1 | refine below_set ?_ GE101.out | refine below_set ?_ GE102.out | refine below_set ?_ GE103.out) | exact HB.out)⟩
   ·replace c13 := Bool.eq_false_iff.mpr c13
    subst c13
    have H1 : (if x102000_2 = x103000_2 then (spec_AddRanks.l0 kj2 0 x102000_2 x102001_2 l0_2 x103000_2 x103001_2 l1_2 x102000_2 (wrap64 (x102001_2 + x103001_2)) ([] : List Int)) else (some (0, 0, ([] : List Int), 2))) = some (r1, r2, r3, r4) := by rw [if_neg (show ¬ (false = true) by decide)] at H; exact H
    clear H
    have H := H1
    clear H1
    by_cases c17 : x102000_2 = x103000_2
    ·rw [if_pos c17] at H
     have c17b0 : (x102000_2 == x103000_2) = true := beq_iff_eq.mpr c17
     have c17b1 : (x102000_2 != x103000_2) = false := bne_eq_false_iff_eq.mpr c17
     clear c17
     have H' := Aside0.mk H
     clear H
     have hnb18 := NB101_102.out
     have hnc18 := NB102_101.out
     have hnb19 := NB101_103.out
     have hnc19 := NB103_101.out
     have hcz20_0 : wc.cell? ⟨gb101, 0, none⟩ = some (.int .i64 x102000_2) := (blk_cell BK101.out 0).trans rfl
     have hcz20_1 : wc.cell? ⟨gb101, 1, none⟩ = some (.int .i64 x102001_2) := (blk_cell BK101.out 1).trans rfl
     have hcz20_2 : wc.cell? ⟨gb101, 2, none⟩ = some (.slice A0_2 l0_2.length c0_2) := (blk_cell BK101.out 2).trans rfl
     have hfz20_0 := blk_frozen BK101.out 0
     have hfz20_1 := blk_frozen BK101.out 1
     have hfz20_2 := blk_frozen BK101.out 2
     have hnb21 := NB102_103.out
     have hnc21 := NB103_102.out
     have hcz22_0 : wc.cell? ⟨gb102, 0, none⟩ = some (.int .i64 x103000_2) := (blk_cell BK102.out 0).trans rfl
     have hcz22_1 : wc.cell? ⟨gb102, 1, none⟩ = some (.int .i64 x103001_2) := (blk_cell BK102.out 1).trans rfl
     have hcz22_2 : wc.cell? ⟨gb102, 2, none⟩ = some (.slice A1_2 l1_2.length c1_2) := (blk_cell BK102.out 2).trans rfl
     have hfz22_0 := blk_frozen BK102.out 0
     have hfz22_1 := blk_frozen BK102.out 1
     have hfz22_2 := blk_frozen BK102.out 2
     go_wp2_with (first | ((with_reducible refine gate_dst (N := 6) rfl ?_); refine box_event ?hg (N := 6) ?hd (cs := #[.int .i64 0, .int .i64 0, .slice none 0 0]) (t := 33) ?hr ?_; (case hd => rfl); (case hg => rfl); (case hr => first | (go_simp; done) | (go_simp; rfl)); intro gb106 hg w23 hbox hb; have n0_ := Aside0.mk (blk_below (bz_ BK101.out) hb); have n1_ := Aside0.mk (blk_below (bz_ BK102.out) hb); have n2_ := Aside0.mk (blk_below (bz_ BK103.out) hb); have n3_ := Aside0.mk (below_step (bw_ HB.out) hb); have n4_ := Aside0.mk (hbox); have n5_ := Aside0.mk ((sz_ (below_size (bw_ HB.out)) hg : w.heap.size ≤ gb106)); have n6_ := Aside0.mk ((sz_ (below_size (bw_ HB.out)) hg : w.heap.size ≤ gb106)); have n7_ := Aside0.mk ((nl_ (blk_lt (bz_ BK101.out)) hg : gb101 ≠ gb106)); have n8_ := Aside0.mk ((ng_ (blk_lt (bz_ BK101.out)) hg : gb106 ≠ gb101)); have n9_ := Aside0.mk ((nl_ (blk_lt (bz_ BK102.out)) hg : gb102 ≠ gb106)); have n10_ := Aside0.mk ((ng_ (blk_lt (bz_ BK102.out)) hg : gb106 ≠ gb102)); have n11_ := Aside0.mk ((nl_ (blk_lt (bz_ BK103.out)) hg : gb103 ≠ gb106)); have n12_ := Aside0.mk ((ng_ (blk_lt (bz_ BK103.out)) hg : gb106 ≠ gb103)); clear BK101 BK102 BK103 HB; have BK101 := n0_; have BK102 := n1_; have BK103 := n2_; have HB := n3_; have BK106 := n4_; have GW106 := n5_; have GE106 := n6_; have NB101_106 := n7_; have NB106_101 := n8_; have NB102_106 := n9_; have NB106_102 := n10_; have NB103_106 := n11_; have NB106_103 := n12_; clear n0_ n1_ n2_ n3_ n4_ n5_ n6_ n7_ n8_ n9_ n10_ n11_ n12_; clear hb hbox hg; have hnb24 := NB106_101.out; have hnc24 := NB101_106.out; have hnb25 := NB106_102.out; have hnc25 := NB102_106.out; have hnb26 := NB106_103.out; have hnc26 := NB103_106.out; have hcz27_0 : w23.cell? ⟨gb106, 0, none⟩ = some (.int .i64 0) := (blk_cell BK106.out 0).trans rfl; have hcz27_1 : w23.cell? ⟨gb106, 1, none⟩ = some (.int .i64 0) := (blk_cell BK106.out 1).trans rfl; have hcz27_2 : w23.cell? ⟨gb106, 2, none⟩ = some (.slice none 0 0) := (blk_cell BK106.out 2).trans rfl; have hfz27_0 := blk_frozen BK106.out 0; have hfz27_1 := blk_frozen BK106.out 1; have hfz27_2 := blk_frozen BK106.out 2))
     go_loopg [7] kj2 (fun kq v7 w' => ∃ (x7_2 : Int) (x107002_2 : List Int) (u107002 : Value), v7 = .int .i64 x7_2 ∧ Aside0 (spec_AddRanks.l0 kq x7_2 x102000_2 x102001_2 l0_2 x103000_2 x103001_2 l1_2 x102000_2 (wrap64 (x102001_2 + x103001_2)) x107002_2 = some (r1, r2, r3, r4)) ∧ Aside0 (kq ≤ kj2) ∧ Aside0 (Kd.R (Kd.int .i64) 2 w' w.heap.size (fun _ => True) u107002 x107002_2) ∧ Aside0 (w'.heap[gb101]? = some (.cells #[.int .i64 x102000_2, .int .i64 x102001_2, (.slice A0_2 l0_2.length c0_2)] 33 (0, 0))) ∧ Aside0 (w'.heap[gb102]? = some (.cells #[.int .i64 x103000_2, .int .i64 x103001_2, (.slice A1_2 l1_2.length c1_2)] 33 (0, 0))) ∧ Aside0 (w'.heap[gb103]? = some (.cells #[.int .i64 0, .int .i64 0, (.slice none 0 0)] 33 (0, 0))) ∧ Aside0 (w'.heap[gb106]? = some (.cells #[.int .i64 x102000_2, .int .i64 (wrap64 (x102001_2 + x103001_2)), u107002] 33 (0, 0))) ∧ Aside0 (Below w.heap.size w w'))
     case atStart => exact ⟨(0), (([] : List Int)), (.slice none 0 0), (by first | rfl | (simp; done) | (simp [*]; done)), H', ⟨Nat.le_refl _⟩, ⟨by first | exact Kd.R_nil _ _ _ _ _ | exact Kd.N_nil _ _ _ _ _ | exact Kd.V_nil _ _ _ _ _ | exact Kd.Q_nil _ _ _ _ _ | exact Kd.S_nil _ _ _ _ _⟩, ⟨by (with_reducible repeat (first | refine blk_drewN ?_ _ | refine blk_drew ?_ | refine blk_alloc ?_ _)); refine blk_far ?_ NB101_106.out _; (with_reducible repeat (first | refine blk_drewN ?_ _ | refine blk_drew ?_ | refine blk_alloc ?_ _)); refine blk_far ?_ NB101_106.out _; (with_reducible repeat (first | refine blk_drewN ?_ _ | refine blk_drew ?_ | refine blk_alloc ?_ _)); refine blk_far ?_ NB101_106.out _; (with_reducible repeat (first | refine blk_drewN ?_ _ | refine blk_drew ?_ | refine blk_alloc ?_ _)); exact BK101.out⟩, ⟨by (with_reducible repeat (first | refine blk_drewN ?_ _ | refine blk_drew ?_ | refine blk_alloc ?_ _)); refine blk_far ?_ NB102_106.out _; (with_reducible repeat (first | refine blk_drewN ?_ _ | refine blk_drew ?_ | refine blk_alloc ?_ _)); refine blk_far ?_ NB102_106.out _; (with_reducible repeat (first | refine blk_drewN ?_ _ | refine blk_drew ?_ | refine blk_alloc ?_ _)); refine blk_far ?_ NB102_106.out _; (with_reducible repeat (first | refine blk_drewN ?_ _ | refine blk_drew ?_ | refine blk_alloc ?_ _)); exact BK102.out⟩, ⟨by (with_reducible repeat (first | refine blk_drewN ?_ _ | refine blk_drew ?_ | refine blk_alloc ?_ _)); refine blk_far ?_ NB103_106.out _; (with_reducible repeat (first | refine blk_drewN ?_ _ | refine blk_drew ?_ | refine blk_alloc ?_ _)); refine blk_far ?_ NB103_106.out _; (with_reducible repeat (first | refine blk_drewN ?_ _ | refine blk_drew ?_ | refine blk_alloc ?_ _)); refine blk_far ?_ NB103_106.out _; (with_reducible repeat (first | refine blk_drewN ?_ _ | refine blk_drew ?_ | refine blk_alloc ?_ _)); exact BK103.out⟩, ⟨by (with_reducible repeat (first | refine blk_drewN ?_ _ | refine blk_drew ?_ | refine blk_alloc ?_ _)); refine blk_put (cs := #[.int .i64 x102000_2, .int .i64 (wrap64 (x102001_2 + x103001_2)), .slice none 0 0]) ?_ 2 _ rfl; (with_reducible repeat (first | refine blk_drewN ?_ _ | refine blk_drew ?_ | refine blk_alloc ?_ _)); refine blk_put (cs := #[.int .i64 x102000_2, .int .i64 0, .slice none 0 0]) ?_ 1 _ rfl; (with_reducible repeat (first | refine blk_drewN ?_ _ | refine blk_drew ?_ | refine blk_alloc ?_ _)); refine blk_put (cs := #[.int .i64 0, .int .i64 0, .slice none 0 0]) ?_ 0 _ rfl; (with_reducible repeat (first | refine blk_drewN ?_ _ | refine blk_drew ?_ | refine blk_alloc ?_ _)); exact BK106.out⟩, ⟨by repeat (first | (with_reducible first | exact HB.out | apply below_alloc | apply pw_below_drewN | apply below_drew1 | refine below_set ?_ GE101.out | refine below_set ?_ GE102.out | refine below_set ?_ GE103.out | refine below_set ?_ GE106.out) | exact HB.out)⟩⟩
     case round =>
      clear H'
      try clear c1
      try clear c2
      try clear p2
      try clear c3
      try clear p6
      try clear c8
      try clear c13
      try clear c14
      try clear c15
      try clear c17
      try clear c17b0
      try clear c17b1
      try clear c18
      try clear c19
      try clear c21
      try clear c24
      try clear c25
      try clear c26
      try clear c27
      try clear hcz16_0
      try clear hcz16_1
      try clear hcz16_2
      try clear hcz20_0
      try clear hcz20_1
      try clear hcz20_2
      try clear hcz22_0
      try clear hcz22_1
      try clear hcz22_2
      try clear hcz27_0
      try clear hcz27_1
      try clear hcz27_2
      try clear hfz16_0
      try clear hfz16_1
      try clear hfz16_2
      try clear hfz20_0
      try clear hfz20_1
      try clear hfz20_2
      try clear hfz22_0
      try clear hfz22_1
      try clear hfz22_2
      try clear hfz27_0
      try clear hfz27_1
      try clear hfz27_2
      try clear p2
      obtain ⟨x7_2, x107002_2, u107002, rfl, HA, HK2, HO_107002, BK101, BK102, BK103, BK106, HB⟩ := hrel
      cases gk with
      | zero => exact absurd HA.out (by simp [spec_AddRanks.l0])
      | succ k2 =>
       have H := HA.out
       clear HA
       simp only [spec_AddRanks.l0] at H
       by_cases c28 : x7_2 < (l0_2.length : Int)
       ·rw [if_pos c28] at H
        have c28b0 : decide (x7_2 < (l0_2.length : Int)) = true := decide_eq_true c28
        clear c28
        by_cases c29 : 0 ≤ x7_2
        ·rw [if_pos c29] at H
         have c29b0 : decide (0 ≤ x7_2) = true := decide_eq_true c29
         clear c29
         by_cases c30 : x7_2 < (l1_2.length : Int)
         ·rw [if_pos c30] at H
          have c30b0 : decide (x7_2 < (l1_2.length : Int)) = true := decide_eq_true c30
          clear c30
          by_cases c31 : x107002_2.length < 17592186044416
          ·rw [if_pos c31] at H
           have LMc31 := Aside0.mk c31
           clear c31
           obtain ⟨y109, hy109⟩ : ∃ y_ : List Int, y_ = (x107002_2 ++ [wrap64 ((rd l0_2 x7_2) + (rd l1_2 x7_2))]) := ⟨_, rfl⟩
           replace H : (spec_AddRanks.l0 k2 (wrap64 (x7_2 + 1)) x102000_2 x102001_2 l0_2 x103000_2 x103001_2 l1_2 x102000_2 (wrap64 (x102001_2 + x103001_2)) y109) = some (r1, r2, r3, r4) := by first | (rw [hy109]; with_reducible exact H) | (have H2_ := (Option.bind_some _ _).symm.trans H; rw [hy109]; with_reducible exact H2_) | (have H2_ := (Option.bind_some _ _).symm.trans H; with_reducible exact H2_) | with_reducible exact H | (rw [hy109]; exact H) | exact H
           have Ny109 := Aside0.mk hy109
           clear hy109
           have H' := Aside0.mk H
           clear H
           have hnb32 := NB101_102.out
           have hnc32 := NB102_101.out
           have hnb33 := NB101_103.out
           have hnc33 := NB103_101.out
           have hnb34 := NB101_106.out
           have hnc34 := NB106_101.out
           have hcz35_0 : wr.cell? ⟨gb101, 0, none⟩ = some (.int .i64 x102000_2) := (blk_cell BK101.out 0).trans rfl
           have hcz35_1 : wr.cell? ⟨gb101, 1, none⟩ = some (.int .i64 x102001_2) := (blk_cell BK101.out 1).trans rfl
           have hcz35_2 : wr.cell? ⟨gb101, 2, none⟩ = some (.slice A0_2 l0_2.length c0_2) := (blk_cell BK101.out 2).trans rfl
           have hfz35_0 := blk_frozen BK101.out 0
           have hfz35_1 := blk_frozen BK101.out 1
           have hfz35_2 := blk_frozen BK101.out 2
           try go_wp2
           have n0_ := Aside0.mk (Kd.R_drew HO_107002.out)
           have n1_ := Aside0.mk (blk_drew BK101.out)
           have n2_ := Aside0.mk (blk_drew BK102.out)
           have n3_ := Aside0.mk (blk_drew BK103.out)
           have n4_ := Aside0.mk (blk_drew BK106.out)
           have n5_ := Aside0.mk (below_drew1 HB.out)
           clear HO_107002
           clear BK101
           clear BK102
           clear BK103
           clear BK106
           clear HB
           have HO_107002 := n0_
           have BK101 := n1_
           have BK102 := n2_
           have BK103 := n3_
           have BK106 := n4_
           have HB := n5_
           clear n0_ n1_ n2_ n3_ n4_ n5_
           have p107 : 0 ≤ (x7_2 : Int) := of_decide_eq_true (by first | (with_reducible assumption) | assumption)
           have q107 : x7_2 < (l0_2.length : Int) := of_decide_eq_true (by first | (with_reducible assumption) | assumption)
           obtain ⟨ad107, e107, hx107_0⟩ := Kd.at_int HR0_2.out x7_2 p107 q107
           have hw107_0 := hx107_0
           cases e107
           replace hx107_0 := (HB.out.cell (World.block_lt_of_cell? w _ hx107_0)).trans hx107_0
           replace p107 := eq_true p107
           replace q107 := eq_true q107
           have p108 : 0 ≤ (x7_2 : Int) := of_decide_eq_true (by first | (with_reducible assumption) | assumption)
           have q108 : x7_2 < (l1_2.length : Int) := of_decide_eq_true (by first | (with_reducible assumption) | assumption)
           obtain ⟨ad108, e108, hx108_0⟩ := Kd.at_int HR1_2.out x7_2 p108 q108
           have hw108_0 := hx108_0
           cases e108
           replace hx108_0 := (HB.out.cell (World.block_lt_of_cell? w _ hx108_0)).trans hx108_0
           replace p108 := eq_true p108
           replace q108 := eq_true q108
           refine start_ (n := 17) (S := fun w' => w'.cell? ⟨gb106, 0, none⟩ = some (.int .i64 x102000_2) ∧ w'.cell? ⟨gb106, 1, none⟩ = some (.int .i64 (wrap64 (x102001_2 + x103001_2))) ∧ w'.cell? ⟨gb106, 2, none⟩ = some (u107002) ∧ w'.cell? ⟨gb101, 0, none⟩ = some (.int .i64 x102000_2) ∧ w'.cell? ⟨gb101, 1, none⟩ = some (.int .i64 x102001_2) ∧ w'.cell? ⟨gb101, 2, none⟩ = some (.slice (some ad107) l0_2.length c0_2) ∧ w'.cell? ⟨gb102, 0, none⟩ = some (.int .i64 x103000_2) ∧ w'.cell? ⟨gb102, 1, none⟩ = some (.int .i64 x103001_2) ∧ w'.cell? ⟨gb102, 2, none⟩ = some (.slice (some ad108) l1_2.length c1_2) ∧ w'.cell? (ad107.add (x7_2).toNat) = some (.int .i64 (rd l0_2 x7_2)) ∧ w'.cell? (ad108.add (x7_2).toNat) = some (.int .i64 (rd l1_2 x7_2))) (ds := [16]) (fl 17 0) (by kernel_rfl) rfl rfl ⟨(blk_cell BK106.out 0).trans rfl, (blk_cell BK106.out 1).trans rfl, (blk_cell BK106.out 2).trans rfl, (blk_cell BK101.out 0).trans rfl, (blk_cell BK101.out 1).trans rfl, (blk_cell BK101.out 2).trans rfl, (blk_cell BK102.out 0).trans rfl, (blk_cell BK102.out 1).trans rfl, (blk_cell BK102.out 2).trans rfl, ((HB.out.cell (World.block_lt_of_cell? w _ hw107_0)).trans hw107_0), ((HB.out.cell (World.block_lt_of_cell? w _ hw108_0)).trans hw108_0)⟩ (fun hHeld => ?_); refine with_tabW spec_AddRanks.tab9 spec_AddRanks.bits9 (fun HT_ HW_ => ?_)
           generalize wr.drew = w36 at HO_107002 BK101 BK102 BK103 BK106 HB hx107_0 hx108_0 hHeld ⊢
           refine pu_ (i := 0) (N := some 36) HT_.out (fl 17 1) (by kernel_rfl) ?_
           refine pu_ (i := 2) (N := some 38) HT_.out (fl 17 5) (by kernel_rfl) ?_
           refine pu_ (i := 4) (N := some 40) HT_.out (fl 17 21) (by kernel_rfl) ?_
           refine pu_ (i := 7) (N := some 43) HT_.out (fl 17 149) (by kernel_rfl) ?_
           refine pu_ (i := 9) (N := some 45) HT_.out (fl 17 661) (by kernel_rfl) ?_
           refine tk_ (i := 1) (N := some 37) HT_.out HW_.out (fl 17 663) (by kernel_rfl) hHeld ?_
           refine tk_ (i := 3) (N := some 39) HT_.out HW_.out (fl 17 671) (by kernel_rfl) hHeld ?_
           refine pu_ (i := 5) (N := some 41) HT_.out (fl 17 703) (by kernel_rfl) ?_
           refine tk_ (i := 6) (N := some 42) HT_.out HW_.out (fl 17 767) (by kernel_rfl) hHeld ?_
           refine tk_ (i := 8) (N := some 44) HT_.out HW_.out (fl 17 1023) (by kernel_rfl) hHeld ?_
           refine pu_ (i := 10) (N := some 46) HT_.out (fl 17 2047) (by kernel_rfl) ?_
           refine tk_ (i := 11) (N := some 47) HT_.out HW_.out (fl 17 4095) (by kernel_rfl) hHeld ?_
           refine pu_ (i := 12) (N := some 48) HT_.out (fl 17 8191) (by kernel_rfl) ?_
           refine one_ (i := 13) (N := some 49) (fl 17 16383) rfl rfl (one_of HT_.out (by kernel_rfl)) (by decide) (fun K hK => ?_)
           refine value_ (w1 := ?_) (v := ?_) (by rfl) rfl ?_ ?_
           rotate_left 2
           ·go_simp
            constructor
            ·rfl
            ·rfl
           refine hK.out _ _ ⟨(blk_cell (blk_alloc BK106.out _) 0).trans rfl, (blk_cell (blk_alloc BK106.out _) 1).trans rfl, (blk_cell (blk_alloc BK106.out _) 2).trans rfl, (blk_cell (blk_alloc BK101.out _) 0).trans rfl, (blk_cell (blk_alloc BK101.out _) 1).trans rfl, (blk_cell (blk_alloc BK101.out _) 2).trans rfl, (blk_cell (blk_alloc BK102.out _) 0).trans rfl, (blk_cell (blk_alloc BK102.out _) 1).trans rfl, (blk_cell (blk_alloc BK102.out _) 2).trans rfl, (World.cell?_alloc_lt _ _ _ (World.block_lt_of_cell? _ _ (((HB.out.cell (World.block_lt_of_cell? w _ hw107_0)).trans hw107_0)))).trans (((HB.out.cell (World.block_lt_of_cell? w _ hw107_0)).trans hw107_0)), (World.cell?_alloc_lt _ _ _ (World.block_lt_of_cell? _ _ (((HB.out.cell (World.block_lt_of_cell? w _ hw108_0)).trans hw108_0)))).trans (((HB.out.cell (World.block_lt_of_cell? w _ hw108_0)).trans hw108_0))⟩ (fun hHeld => ?_)
           clear hK K
           refine norm_ (a' := ?_) ?_ ?_
           rotate_left
           ·show Act.put _ (some 49) _ = _
            simp only [Act.put, List.setIfInBounds_toArray, List.set_cons_zero, List.set_cons_succ, i64_w, i32_w]
            rfl
           refine one_ (i := 14) (N := some 50) (fl 17 32767) rfl rfl (one_of HT_.out (by kernel_rfl)) (by decide) (fun K hK => ?_)
           refine Kd.R_append_step (Kd.int .i64) (w0 := w) w.heap.size (by rfl) (.tmp 37) (.tmp 49) 28 2 (.int .i64 0) 8 rfl Try.underlying28 info2 rfl (by decide) (by omega) u107002 x107002_2 (wrap64 ((rd l0_2 x7_2) + (rd l1_2 x7_2))) [.int .i64 (wrap64 ((rd l0_2 x7_2) + (rd l1_2 x7_2)))] (fun _ => True) (fun _ => False) rfl rfl ?aP (fun _ hk => hk.elim) ?aF ?aO ?aB ?aS ?aL ?_
           (case aP => exact rfl)
           (case aB => exact (bw_ HB.out))
           (case aF => exact (fun _ _ => trivial))
           (case aO => exact (rz_ HO_107002.out))
           (case aS => exact (below_size (bw_ HB.out)))
           (case aL => have := LMc31.out; omega)
           intro v110 w37 ho hb hg hat
           rw [← Ny109.out] at ho
           have n0_ := Aside0.mk (blk_grown (g := gb101) (o := .cells #[.int .i64 x102000_2, .int .i64 x102001_2, .slice (some ad107) l0_2.length c0_2] 33 (0, 0)) (bz_ BK101.out) hg (Kd.R_ne HO_107002.out BK101.out (by decide)))
           have n1_ := Aside0.mk (blk_grown (g := gb102) (o := .cells #[.int .i64 x103000_2, .int .i64 x103001_2, .slice (some ad108) l1_2.length c1_2] 33 (0, 0)) (bz_ BK102.out) hg (Kd.R_ne HO_107002.out BK102.out (by decide)))
           have n2_ := Aside0.mk (blk_grown (g := gb103) (o := .cells #[.int .i64 0, .int .i64 0, .slice none 0 0] 33 (0, 0)) (bz_ BK103.out) hg (Kd.R_ne HO_107002.out BK103.out (by decide)))
           have n3_ := Aside0.mk (blk_grown (g := gb106) (o := .cells #[.int .i64 x102000_2, .int .i64 (wrap64 (x102001_2 + x103001_2)), u107002] 33 (0, 0)) (bz_ BK106.out) hg (Kd.R_ne HO_107002.out BK106.out (by decide)))
           have n4_ := Aside0.mk (hb)
           have n5_ := Aside0.mk (ho)
           clear BK101
           clear BK102
           clear BK103
           clear BK106
           clear HB
           clear HO_107002
           have BK101 := n0_
           have BK102 := n1_
           have BK103 := n2_
           have BK106 := n3_
           have HB := n4_
           have HO111 := n5_
           clear n0_ n1_ n2_ n3_ n4_ n5_
           clear ho hb hg hat
           obtain ⟨Ao38, co38, eo38⟩ := Kd.R_slice HO111.out
           (first | subst eo38 | (injection eo38 with f1_ f2_ f3_; have f4_ := f1_.symm; have f5_ := f3_.symm; clear f1_ f2_ f3_; subst f4_; subst f5_))
           refine hK.out _ _ ⟨(blk_cell BK106.out 0).trans rfl, (blk_cell BK106.out 1).trans rfl, (blk_cell BK106.out 2).trans rfl, (blk_cell BK101.out 0).trans rfl, (blk_cell BK101.out 1).trans rfl, (blk_cell BK101.out 2).trans rfl, (blk_cell BK102.out 0).trans rfl, (blk_cell BK102.out 1).trans rfl, (blk_cell BK102.out 2).trans rfl, ((HB.out.cell (World.block_lt_of_cell? w _ hw107_0)).trans hw107_0), ((HB.out.cell (World.block_lt_of_cell? w _ hw108_0)).trans hw108_0)⟩ (fun hHeld => ?_)
           clear hK K
           refine norm_ (a' := ?_) ?_ ?_
           rotate_left
           ·show Act.put _ (some 50) _ = _
            simp only [Act.put, List.setIfInBounds_toArray, List.set_cons_zero, List.set_cons_succ, i64_w, i32_w]
            rfl
           refine pu_ (i := 15) (N := some 51) HT_.out (fl 17 65535) (by kernel_rfl) ?_
           refine last_ (i := 16) (N := none) (fl 17 131071) rfl rfl (one_of HT_.out (by kernel_rfl)) (by decide) (fun K hK => ?_)
           have hs39 : w37.cell? ⟨gb106, 2, none⟩ = some (u107002) := (blk_cell BK106.out 2).trans rfl
           have hfs39 := blk_frozen BK106.out 2
           have hns39_0 := NB101_106.out
           have hns39_1 := NB102_106.out
           have hns39_2 := NB103_106.out
           have hms39_0 := NB106_101.out
           have hms39_1 := NB106_102.out
           have hms39_2 := NB106_103.out
           refine skip_ (w1 := ?_) (by rfl) rfl ?_ ?_
           rotate_left
           ·go_simp
            rfl
           refine hK.out _ _ ?_
           clear hK K
           refine done_ (done_of HT_.out (by kernel_rfl)) ?_
           try go_wp2
           go_roundg k2
           case measure => have := HJ2.out; have := HK2.out; omega
           case rel => exact ⟨(wrap64 (x7_2 + 1)), (y109), (.slice Ao38 y109.length co38), (by first | rfl | (simp; done) | (simp [*]; done)), H', ⟨by have := HJ2.out; have := HK2.out; omega⟩, ⟨by (with_reducible repeat (first | apply Kd.R_alloc | apply Kd.R_drewN | apply Kd.R_drew)); exact Kd.R_mono (Kd.R_far (p := ⟨gb106, 2, none⟩) (Kd.R_types HO111.out BK106.out (by decide)) (fun _ hk => hk.2) (.slice Ao38 y109.length co38)) (fun _ hk => trivial)⟩, ⟨by (with_reducible repeat (first | refine blk_drewN ?_ _ | refine blk_drew ?_ | refine blk_alloc ?_ _)); refine blk_far ?_ NB101_106.out _; (with_reducible repeat (first | refine blk_drewN ?_ _ | refine blk_drew ?_ | refine blk_alloc ?_ _)); exact BK101.out⟩, ⟨by (with_reducible repeat (first | refine blk_drewN ?_ _ | refine blk_drew ?_ | refine blk_alloc ?_ _)); refine blk_far ?_ NB102_106.out _; (with_reducible repeat (first | refine blk_drewN ?_ _ | refine blk_drew ?_ | refine blk_alloc ?_ _)); exact BK102.out⟩, ⟨by (with_reducible repeat (first | refine blk_drewN ?_ _ | refine blk_drew ?_ | refine blk_alloc ?_ _)); refine blk_far ?_ NB103_106.out _; (with_reducible repeat (first | refine blk_drewN ?_ _ | refine blk_drew ?_ | refine blk_alloc ?_ _)); exact BK103.out⟩, ⟨by (with_reducible repeat (first | refine blk_drewN ?_ _ | refine blk_drew ?_ | refine blk_alloc ?_ _)); refine blk_put (cs := #[.int .i64 x102000_2, .int .i64 (wrap64 (x102001_2 + x103001_2)), u107002]) ?_ 2 _ rfl; (with_reducible repeat (first | refine blk_drewN ?_ _ | refine blk_drew ?_ | refine blk_alloc ?_ _)); exact BK106.out⟩, ⟨by repeat (first | (with_reducible first | exact HB.out | apply below_alloc | apply pw_below_drewN | apply below_drew1 | refine below_set ?_ GE101.out | refine below_set ?_ GE102.out | refine below_set ?_ GE103.out | refine below_set ?_ GE106.out) | exact HB.out)⟩⟩
          ·rw [if_neg c31] at H
           exact absurd H (by simp)
         ·rw [if_neg c30] at H
          exact absurd H (by simp)
        ·rw [if_neg c29] at H
         exact absurd H (by simp)
       ·rw [if_neg c28] at H
        have c28b0 : decide (x7_2 < (l0_2.length : Int)) = false := decide_eq_false c28
        clear c28
        replace H := Option.bind_eq_some_iff.mp H
        obtain ⟨t112, A400, H⟩ := H
        replace H : (if t112 = true then (some (x102000_2, (wrap64 (x102001_2 + x103001_2)), x107002_2, 0)) else (some (0, 0, ([] : List Int), 3))) = some (r1, r2, r3, r4) := H
        have A40 := Aside0.mk A400
        clear A400
        by_cases c41 : t112 = true
        ·subst c41
         have H1 : (some (x102000_2, (wrap64 (x102001_2 + x103001_2)), x107002_2, 0)) = some (r1, r2, r3, r4) := by rw [if_pos rfl] at H; exact H
         clear H
         have H := H1
         clear H1
         simp only [Option.some.injEq, Prod.mk.injEq] at H
         obtain ⟨rfl, rfl, rfl, rfl⟩ := H
         have hnb42 := NB101_102.out
         have hnc42 := NB102_101.out
         have hnb43 := NB101_103.out
         have hnc43 := NB103_101.out
         have hnb44 := NB101_106.out
         have hnc44 := NB106_101.out
         have hcz45_0 : wr.cell? ⟨gb101, 0, none⟩ = some (.int .i64 x102000_2) := (blk_cell BK101.out 0).trans rfl
         have hcz45_1 : wr.cell? ⟨gb101, 1, none⟩ = some (.int .i64 x102001_2) := (blk_cell BK101.out 1).trans rfl
         have hcz45_2 : wr.cell? ⟨gb101, 2, none⟩ = some (.slice A0_2 l0_2.length c0_2) := (blk_cell BK101.out 2).trans rfl
         have hfz45_0 := blk_frozen BK101.out 0
         have hfz45_1 := blk_frozen BK101.out 1
         have hfz45_2 := blk_frozen BK101.out 2
         obtain ⟨Ao46, co46, eo46⟩ := Kd.R_slice HO_107002.out
         subst eo46
         go_wp2_with (first | ((with_reducible refine gate_callee (f := 33) rfl ?_); refine goesL_ (some 52) rfl rfl Try.func33 (by kernel_rfl) rfl #[.pointer (some ⟨gb106, 0, none⟩)] rfl am_ ?_; (with_reducible refine (spec_l07Ok.calls k2 gb106 x102000_2 (wrap64 (x102001_2 + x103001_2)) Ao46 co46 x107002_2 true _ ?side1 ?side2 ?side3 A40.out).mono ?_); (case side1 => repeat (first | exact (Kd.R_reads' HO_107002.out).2.2 | (with_reducible refine Kd.C_alloc ?_ _) | (with_reducible refine Kd.C_drewN ?_ _) | (with_reducible refine Kd.C_drew ?_))); (case side2 => exact (Kd.R_reads' HO_107002.out).2.1); (case side3 => exact (bz_ BK106.out)); rintro e w47 ⟨rfl, hb⟩; refine ⟨_, rfl, ?_⟩; have n0_ := Aside0.mk (Kd.R_below (rz_ HO_107002.out) hb); have n1_ := Aside0.mk (blk_below (bz_ BK101.out) hb); have n2_ := Aside0.mk (blk_below (bz_ BK102.out) hb); have n3_ := Aside0.mk (blk_below (bz_ BK103.out) hb); have n4_ := Aside0.mk (blk_below (g := gb106) (o := .cells #[.int .i64 x102000_2, .int .i64 (wrap64 (x102001_2 + x103001_2)), .slice Ao46 x107002_2.length co46] 33 (0, 0)) (bz_ BK106.out) hb); have n5_ := Aside0.mk (below_step (bw_ HB.out) hb); clear HO_107002 BK101 BK102 BK103 BK106 HB; have HO_107002 := n0_; have BK101 := n1_; have BK102 := n2_; have BK103 := n3_; have BK106 := n4_; have HB := n5_; clear n0_ n1_ n2_ n3_ n4_ n5_; (try clear hb); (try clear hb2); (try clear hk); (try clear hi); have hnb48 := NB106_102.out; have hnc48 := NB102_106.out; have hnb49 := NB106_103.out; have hnc49 := NB103_106.out; have hcz50_0 : w47.cell? ⟨gb106, 0, none⟩ = some (.int .i64 x102000_2) := (blk_cell BK106.out 0).trans rfl; have hcz50_1 : w47.cell? ⟨gb106, 1, none⟩ = some (.int .i64 (wrap64 (x102001_2 + x103001_2))) := (blk_cell BK106.out 1).trans rfl; have hcz50_2 : w47.cell? ⟨gb106, 2, none⟩ = some (.slice Ao46 x107002_2.length co46) := (blk_cell BK106.out 2).trans rfl; have hfz50_0 := blk_frozen BK106.out 0; have hfz50_1 := blk_frozen BK106.out 1; have hfz50_2 := blk_frozen BK106.out 2; have hnb51 := NB103_102.out; have hnc51 := NB102_103.out; have hcz52_0 : w47.cell? ⟨gb103, 0, none⟩ = some (.int .i64 0) := (blk_cell BK103.out 0).trans rfl; have hcz52_1 : w47.cell? ⟨gb103, 1, none⟩ = some (.int .i64 0) := (blk_cell BK103.out 1).trans rfl; have hcz52_2 : w47.cell? ⟨gb103, 2, none⟩ = some (.slice none 0 0) := (blk_cell BK103.out 2).trans rfl; have hfz52_0 := blk_frozen BK103.out 0; have hfz52_1 := blk_frozen BK103.out 1; have hfz52_2 := blk_frozen BK103.out 2))
         refine bodyPost_ret (results_ct rfl _ _ gb103 33 #[.int .i64 x102000_2, .int .i64 (wrap64 (x102001_2 + x103001_2)), .slice Ao46 x107002_2.length co46] (0, 0) _ rfl (by (with_reducible repeat (first | refine blk_drewN ?_ _ | refine blk_drew ?_ | refine blk_alloc ?_ _)); refine blk_put (cs := #[.int .i64 x102000_2, .int .i64 (wrap64 (x102001_2 + x103001_2)), .slice none 0 0]) ?_ 2 _ rfl; (with_reducible repeat (first | refine blk_drewN ?_ _ | refine blk_drew ?_ | refine blk_alloc ?_ _)); refine blk_put (cs := #[.int .i64 x102000_2, .int .i64 0, .slice none 0 0]) ?_ 1 _ rfl; (with_reducible repeat (first | refine blk_drewN ?_ _ | refine blk_drew ?_ | refine blk_alloc ?_ _)); refine blk_put (cs := #[.int .i64 0, .int .i64 0, .slice none 0 0]) ?_ 0 _ rfl; (with_reducible repeat (first | refine blk_drewN ?_ _ | refine blk_drew ?_ | refine blk_alloc ?_ _)); exact BK103.out) Try.underlying33 rfl (by kernel_rfl)) rfl ?_
         exact ⟨_, by first | rfl | (simp [errW_none, errW_some] <;> rfl) | (simp [*, errW_none, errW_some] <;> rfl), by (with_reducible repeat (first | apply Kd.R_alloc | apply Kd.R_drewN | apply Kd.R_drew)); exact Kd.R_mono (Kd.R_far (p := ⟨gb103, 2, none⟩) (Kd.R_far (p := ⟨gb103, 1, none⟩) (Kd.R_far (p := ⟨gb103, 0, none⟩) (Kd.R_types HO_107002.out BK103.out (by decide)) (fun _ hk => hk.2) (.int .i64 x102000_2)) (fun _ hk => hk.2) (.int .i64 (wrap64 (x102001_2 + x103001_2)))) (fun _ hk => hk.2) (.slice Ao46 x107002_2.length co46)) (fun _ hk => trivial), by repeat (first | (with_reducible first | exact HB.out | apply below_alloc | apply pw_below_drewN | apply below_drew1 | refine below_set ?_ GE101.out | refine below_set ?_ GE102.out | refine below_set ?_ GE103.out | refine below_set ?_ GE106.out) | exact HB.out)⟩
        ·replace c41 := Bool.eq_false_iff.mpr c41
         subst c41
         have H1 : (some (0, 0, ([] : List Int), 3)) = some (r1, r2, r3, r4) := by rw [if_neg (show ¬ (false = true) by decide)] at H; exact H
         clear H
         have H := H1
         clear H1
         simp only [Option.some.injEq, Prod.mk.injEq] at H
         obtain ⟨rfl, rfl, rfl, rfl⟩ := H
         have hnb53 := NB101_102.out
         have hnc53 := NB102_101.out
         have hnb54 := NB101_103.out
         have hnc54 := NB103_101.out
         have hnb55 := NB101_106.out
         have hnc55 := NB106_101.out
         have hcz56_0 : wr.cell? ⟨gb101, 0, none⟩ = some (.int .i64 x102000_2) := (blk_cell BK101.out 0).trans rfl
         have hcz56_1 : wr.cell? ⟨gb101, 1, none⟩ = some (.int .i64 x102001_2) := (blk_cell BK101.out 1).trans rfl
         have hcz56_2 : wr.cell? ⟨gb101, 2, none⟩ = some (.slice A0_2 l0_2.length c0_2) := (blk_cell BK101.out 2).trans rfl
         have hfz56_0 := blk_frozen BK101.out 0
         have hfz56_1 := blk_frozen BK101.out 1
         have hfz56_2 := blk_frozen BK101.out 2
         obtain ⟨Ao57, co57, eo57⟩ := Kd.R_slice HO_107002.out
         subst eo57
         go_wp2_with (first | ((with_reducible refine gate_callee (f := 33) rfl ?_); refine goesL_ (some 52) rfl rfl Try.func33 (by kernel_rfl) rfl #[.pointer (some ⟨gb106, 0, none⟩)] rfl am_ ?_; (with_reducible refine (spec_l07Ok.calls k2 gb106 x102000_2 (wrap64 (x102001_2 + x103001_2)) Ao57 co57 x107002_2 false _ ?side1 ?side2 ?side3 A40.out).mono ?_); (case side1 => repeat (first | exact (Kd.R_reads' HO_107002.out).2.2 | (with_reducible refine Kd.C_alloc ?_ _) | (with_reducible refine Kd.C_drewN ?_ _) | (with_reducible refine Kd.C_drew ?_))); (case side2 => exact (Kd.R_reads' HO_107002.out).2.1); (case side3 => exact (bz_ BK106.out)); rintro e w58 ⟨rfl, hb⟩; refine ⟨_, rfl, ?_⟩; have n0_ := Aside0.mk (Kd.R_below (rz_ HO_107002.out) hb); have n1_ := Aside0.mk (blk_below (bz_ BK101.out) hb); have n2_ := Aside0.mk (blk_below (bz_ BK102.out) hb); have n3_ := Aside0.mk (blk_below (bz_ BK103.out) hb); have n4_ := Aside0.mk (blk_below (g := gb106) (o := .cells #[.int .i64 x102000_2, .int .i64 (wrap64 (x102001_2 + x103001_2)), .slice Ao57 x107002_2.length co57] 33 (0, 0)) (bz_ BK106.out) hb); have n5_ := Aside0.mk (below_step (bw_ HB.out) hb); clear HO_107002 BK101 BK102 BK103 BK106 HB; have HO_107002 := n0_; have BK101 := n1_; have BK102 := n2_; have BK103 := n3_; have BK106 := n4_; have HB := n5_; clear n0_ n1_ n2_ n3_ n4_ n5_; (try clear hb); (try clear hb2); (try clear hk); (try clear hi); have hnb59 := NB103_102.out; have hnc59 := NB102_103.out; have hnb60 := NB103_106.out; have hnc60 := NB106_103.out; have hcz61_0 : w58.cell? ⟨gb103, 0, none⟩ = some (.int .i64 0) := (blk_cell BK103.out 0).trans rfl; have hcz61_1 : w58.cell? ⟨gb103, 1, none⟩ = some (.int .i64 0) := (blk_cell BK103.out 1).trans rfl; have hcz61_2 : w58.cell? ⟨gb103, 2, none⟩ = some (.slice none 0 0) := (blk_cell BK103.out 2).trans rfl; have hfz61_0 := blk_frozen BK103.out 0; have hfz61_1 := blk_frozen BK103.out 1; have hfz61_2 := blk_frozen BK103.out 2))
         refine bodyPost_ret (results_ct rfl _ _ gb103 33 #[.int .i64 0, .int .i64 0, .slice none 0 0] (0, 0) _ rfl (by (with_reducible repeat (first | refine blk_drewN ?_ _ | refine blk_drew ?_ | refine blk_alloc ?_ _)); refine blk_put (cs := #[.int .i64 0, .int .i64 0, .slice none 0 0]) ?_ 2 _ rfl; (with_reducible repeat (first | refine blk_drewN ?_ _ | refine blk_drew ?_ | refine blk_alloc ?_ _)); refine blk_put (cs := #[.int .i64 0, .int .i64 0, .slice none 0 0]) ?_ 1 _ rfl; (with_reducible repeat (first | refine blk_drewN ?_ _ | refine blk_drew ?_ | refine blk_alloc ?_ _)); refine blk_put (cs := #[.int .i64 0, .int .i64 0, .slice none 0 0]) ?_ 0 _ rfl; (with_reducible repeat (first | refine blk_drewN ?_ _ | refine blk_drew ?_ | refine blk_alloc ?_ _)); exact BK103.out) Try.underlying33 rfl (by kernel_rfl)) rfl ?_
         exact ⟨_, by first | rfl | (simp [errW_none, errW_some] <;> rfl) | (simp [*, errW_none, errW_some] <;> rfl), by first | exact Kd.R_nil _ _ _ _ _ | exact Kd.N_nil _ _ _ _ _ | exact Kd.V_nil _ _ _ _ _ | exact Kd.Q_nil _ _ _ _ _ | exact Kd.S_nil _ _ _ _ _, by repeat (first | (with_reducible first | exact HB.out | apply below_alloc | apply pw_below_drewN | apply below_drew1 | refine below_set ?_ GE101.out | refine below_set ?_ GE102.out | refine below_set ?_ GE103.out | refine below_set ?_ GE106.out) | exact HB.out)⟩
    ·rw [if_neg c17] at H
     have c17b0 : (x102000_2 == x103000_2) = false := beq_eq_false_iff_ne.mpr c17
     have c17b1 : (x102000_2 != x103000_2) = true := bne_iff_ne.mpr c17
     simp only [Option.some.injEq, Prod.mk.injEq] at H
     obtain ⟨rfl, rfl, rfl, rfl⟩ := H
     have hnb62 := NB101_102.out
     have hnc62 := NB102_101.out
     have hnb63 := NB101_103.out
     have hnc63 := NB103_101.out
     have hcz64_0 : wc.cell? ⟨gb101, 0, none⟩ = some (.int .i64 x102000_2) := (blk_cell BK101.out 0).trans rfl
     have hcz64_1 : wc.cell? ⟨gb101, 1, none⟩ = some (.int .i64 x102001_2) := (blk_cell BK101.out 1).trans rfl
     have hcz64_2 : wc.cell? ⟨gb101, 2, none⟩ = some (.slice A0_2 l0_2.length c0_2) := (blk_cell BK101.out 2).trans rfl
     have hfz64_0 := blk_frozen BK101.out 0
     have hfz64_1 := blk_frozen BK101.out 1
     have hfz64_2 := blk_frozen BK101.out 2
     have hnb65 := NB102_103.out
     have hnc65 := NB103_102.out
     have hcz66_0 : wc.cell? ⟨gb102, 0, none⟩ = some (.int .i64 x103000_2) := (blk_cell BK102.out 0).trans rfl
     have hcz66_1 : wc.cell? ⟨gb102, 1, none⟩ = some (.int .i64 x103001_2) := (blk_cell BK102.out 1).trans rfl
     have hcz66_2 : wc.cell? ⟨gb102, 2, none⟩ = some (.slice A1_2 l1_2.length c1_2) := (blk_cell BK102.out 2).trans rfl
     have hfz66_0 := blk_frozen BK102.out 0
     have hfz66_1 := blk_frozen BK102.out 1
     have hfz66_2 := blk_frozen BK102.out 2
     have hcz67_0 : wc.cell? ⟨gb103, 0, none⟩ = some (.int .i64 0) := (blk_cell BK103.out 0).trans rfl
     have hcz67_1 : wc.cell? ⟨gb103, 1, none⟩ = some (.int .i64 0) := (blk_cell BK103.out 1).trans rfl
     have hcz67_2 : wc.cell? ⟨gb103, 2, none⟩ = some (.slice none 0 0) := (blk_cell BK103.out 2).trans rfl
     have hfz67_0 := blk_frozen BK103.out 0
     have hfz67_1 := blk_frozen BK103.out 1
     have hfz67_2 := blk_frozen BK103.out 2
     go_wp2
     refine bodyPost_ret (results_ct rfl _ _ gb103 33 #[.int .i64 0, .int .i64 0, .slice none 0 0] (0, 0) _ rfl (by (with_reducible repeat (first | refine blk_drewN ?_ _ | refine blk_drew ?_ | refine blk_alloc ?_ _)); refine blk_put (cs := #[.int .i64 0, .int .i64 0, .slice none 0 0]) ?_ 2 _ rfl; (with_reducible repeat (first | refine blk_drewN ?_ _ | refine blk_drew ?_ | refine blk_alloc ?_ _)); refine blk_put (cs := #[.int .i64 0, .int .i64 0, .slice none 0 0]) ?_ 1 _ rfl; (with_reducible repeat (first | refine blk_drewN ?_ _ | refine blk_drew ?_ | refine blk_alloc ?_ _)); refine blk_put (cs := #[.int .i64 0, .int .i64 0, .slice none 0 0]) ?_ 0 _ rfl; (with_reducible repeat (first | refine blk_drewN ?_ _ | refine blk_drew ?_ | refine blk_alloc ?_ _)); exact BK103.out) Try.underlying33 rfl (by kernel_rfl)) rfl ?_
     exact ⟨_, by first | rfl | (simp [errW_none, errW_some] <;> rfl) | (simp [*, errW_none, errW_some] <;> rfl), by first | exact Kd.R_nil _ _ _ _ _ | exact Kd.N_nil _ _ _ _ _ | exact Kd.V_nil _ _ _ _ _ | exact Kd.Q_nil _ _ _ _ _ | exact Kd.S_nil _ _ _ _ _, by repeat (first | (with_reducible first | exact HB.out | apply below_alloc | apply pw_below_drewN | apply below_drew1 | refine below_set ?_ GE101.out | refine below_set ?_ GE102.out | refine below_set ?_ GE103.out) | exact HB.out)⟩
end Go.Proofs.Ytmniekgnpppbhaa.F
end
section
namespace Go.Proofs.Ytmniekgnpppbhaa.F
open Go.RowKit Go.Proofs.YtmniekgnpppbhaaW.PrintWords Go.Proofs.YtmniekgnpppbhaaW.PrintLast Go.Proofs.YtmniekgnpppbhaaW.PrintMore
attribute [local go_sem] max2_int min2_int max_two min_two max_three min_three max_four min_four
set_option linter.unusedVariables false
set_option linter.unusedSimpArgs false
mutual
def laws_FnExactAddRanks.j0 : Nat → Int → Int → Bool → Int → Int → List Int → Int → Int → List Int → Int → Int → List Int → Int → Int → List Int → Int → Int → List Int → Int → Int → List Int → Option (Bool)
 | 0, _, _, _, _, _, _, _, _, _, _, _, _, _, _, _, _, _, _, _, _, _ => none
 | k + 1, x7, x11, x53, x102000, x102001, x102002, x103000, x103001, x103002, x122000, x122001, x122002, x128000, x128001, x128002, x134000, x134001, x134002, x141000, x141001, x141002 => if x53 = true then (none) else ((laws_toRanks.f k x102000 x102001 x102002).bind fun bt142 => ((laws_eqRanks.f k x128000 x128001 x128002 bt142.1 bt142.2.1 bt142.2.2).bind fun t147 => (if t147 = true then ((laws_toRanks.f k x103000 x103001 x103002).bind fun bt148 => ((laws_eqRanks.f k x134000 x134001 x134002 bt148.1 bt148.2.1 bt148.2.2).bind fun t153 => (if t153 = true then ((laws_markRanks.f k x128000 x128001 x128002 1).bind fun bt154 => ((laws_markRanks.f k x134000 x134001 x134002 bt154.1).bind fun bt156 => (if bt156.1 < 0 then (none) else ((laws_eqRanks.f k x141000 x141001 x141002 x122000 x122001 x122002).bind fun t158 => (if t158 = true then (laws_FnExactAddRanks.j1 k x7 (x11 != x7) x102000 x102001 x102002 x103000 x103001 x103002 x122000 x122001 x122002 x141000 x141001 x141002) else (none)))))) else (none)))) else (none))))
def laws_FnExactAddRanks.j1 : Nat → Int → Bool → Int → Int → List Int → Int → Int → List Int → Int → Int → List Int → Int → Int → List Int → Option (Bool)
 | 0, _, _, _, _, _, _, _, _, _, _, _, _, _, _ => none
 | k + 1, x7, x82, x102000, x102001, x102002, x103000, x103001, x103002, x122000, x122001, x122002, x141000, x141001, x141002 => if x82 = true then (none) else ((laws_markRanks.f k x141000 x141001 x141002 1).bind fun bt159 => ((laws_heldRanks.f k x141000 x141001 bt159.2 1).bind fun t161 => (if t161 < 0 then (none) else (if t161 = bt159.1 then ((laws_toRanks.f k x102000 x102001 x102002).bind fun bt162 => ((laws_toRanks.f k x103000 x103001 x103002).bind fun bt167 => ((impl_AddRanks.f k bt162.1 bt162.2.1 bt162.2.2 bt167.1 bt167.2.1 bt167.2.2).bind fun bt172 => ((laws_eqRanks.f k bt172.1 bt172.2.1 bt172.2.2.1 x122000 x122001 x122002).bind fun t179 => (if t179 = true then (laws_FnExactAddRanks.j2 k bt159.1 (bt172.2.2.2 != x7) x141000 x141001 bt159.2) else (none)))))) else (none)))))
def laws_FnExactAddRanks.j2 : Nat → Int → Bool → Int → Int → List Int → Option (Bool)
 | 0, _, _, _, _, _ => none
 | k + 1, x13, x110, x141000, x141001, x141002 => if x110 = true then (none) else ((laws_heldRanks.f k x141000 x141001 x141002 1).bind fun t180 => (if t180 < 0 then (none) else (if t180 = x13 then (some true) else (none))))
end
def laws_FnExactAddRanks.f (k : Nat) (a0_0 : Int) (a0_1 : Int) (l0_2 : List Int) (a1_0 : Int) (a1_1 : Int) (l1_2 : List Int) : Option (Bool) := (laws_szRanks.f a0_0 a0_1 l0_2 1048576).bind fun t103 => (if t103 < 0 then (some true) else ((laws_szRanks.f a1_0 a1_1 l1_2 t103).bind fun t104 => (if t104 < 0 then (some true) else ((laws_toRanks.f k a0_0 a0_1 l0_2).bind fun bt105 => ((laws_toRanks.f k a1_0 a1_1 l1_2).bind fun bt110 => ((spec_AddRanks.f k bt105.1 bt105.2.1 bt105.2.2 bt110.1 bt110.2.1 bt110.2.2).bind fun bt115 => ((laws_toRanks.f k a0_0 a0_1 l0_2).bind fun bt122 => ((laws_toRanks.f k a1_0 a1_1 l1_2).bind fun bt128 => ((impl_AddRanks.f k bt122.1 bt122.2.1 bt122.2.2 bt128.1 bt128.2.1 bt128.2.2).bind fun bt134 => ((laws_eqRanks.f k bt134.1 bt134.2.1 bt134.2.2.1 bt115.1 bt115.2.1 bt115.2.2.1).bind fun t141 => (if t141 = true then (laws_FnExactAddRanks.j0 k bt115.2.2.2 bt134.2.2.2 (bt134.2.2.2 != bt115.2.2.2) a0_0 a0_1 l0_2 a1_0 a1_1 l1_2 bt115.1 bt115.2.1 bt115.2.2.1 bt122.1 bt122.2.1 bt122.2.2 bt128.1 bt128.2.1 bt128.2.2 bt134.1 bt134.2.1 bt134.2.2.1) else (none))))))))))))
theorem laws_FnExactAddRanks.mono_l : ∀ k, (∀ y0 y1 y2 y3 y4 y5 y6 y7 y8 y9 y10 y11 y12 y13 y14 y15 y16 y17 y18 y19 y20, LeO (laws_FnExactAddRanks.j0 k y0 y1 y2 y3 y4 y5 y6 y7 y8 y9 y10 y11 y12 y13 y14 y15 y16 y17 y18 y19 y20) (laws_FnExactAddRanks.j0 (k + 1) y0 y1 y2 y3 y4 y5 y6 y7 y8 y9 y10 y11 y12 y13 y14 y15 y16 y17 y18 y19 y20)) ∧ (∀ y0 y1 y2 y3 y4 y5 y6 y7 y8 y9 y10 y11 y12 y13, LeO (laws_FnExactAddRanks.j1 k y0 y1 y2 y3 y4 y5 y6 y7 y8 y9 y10 y11 y12 y13) (laws_FnExactAddRanks.j1 (k + 1) y0 y1 y2 y3 y4 y5 y6 y7 y8 y9 y10 y11 y12 y13)) ∧ (∀ y0 y1 y2 y3 y4, LeO (laws_FnExactAddRanks.j2 k y0 y1 y2 y3 y4) (laws_FnExactAddRanks.j2 (k + 1) y0 y1 y2 y3 y4))
 | 0 => ⟨fun _ _ _ _ _ _ _ _ _ _ _ _ _ _ _ _ _ _ _ _ _ r h => by simp [laws_FnExactAddRanks.j0] at h, fun _ _ _ _ _ _ _ _ _ _ _ _ _ _ r h => by simp [laws_FnExactAddRanks.j1] at h, fun _ _ _ _ _ r h => by simp [laws_FnExactAddRanks.j2] at h⟩
 | k + 1 => by
  obtain ⟨ih0, ih1, ih2⟩ := laws_FnExactAddRanks.mono_l k
  refine ⟨?_, ?_, ?_⟩
  ·intro y0 y1 y2 y3 y4 y5 y6 y7 y8 y9 y10 y11 y12 y13 y14 y15 y16 y17 y18 y19 y20
   unfold laws_FnExactAddRanks.j0
   repeat' first
   | (with_reducible exact ih0 _ _ _ _ _ _ _ _ _ _ _ _ _ _ _ _ _ _ _ _ _)
   | (with_reducible exact ih1 _ _ _ _ _ _ _ _ _ _ _ _ _ _)
   | (with_reducible exact ih2 _ _ _ _ _)
   | (with_reducible exact impl_AddRanks.mono _ _ _ _ _ _ _)
   | (with_reducible exact laws_eqRanks.mono _ _ _ _ _ _ _)
   | (with_reducible exact laws_heldRanks.mono _ _ _ _ _)
   | (with_reducible exact laws_markRanks.mono _ _ _ _ _)
   | (with_reducible exact laws_toRanks.mono _ _ _ _)
   | (with_reducible exact spec_AddRanks.mono _ _ _ _ _ _ _)
   | (with_reducible exact LeO.refl _)
   | (with_reducible exact LeO.none _)
   | (with_reducible refine LeO.ite ?_ ?_)
   | (with_reducible refine LeO.bind ?_ (fun _ => ?_))
   | exact ih0 _ _ _ _ _ _ _ _ _ _ _ _ _ _ _ _ _ _ _ _ _
   | exact ih1 _ _ _ _ _ _ _ _ _ _ _ _ _ _
   | exact ih2 _ _ _ _ _
   | exact impl_AddRanks.mono _ _ _ _ _ _ _
   | exact laws_eqRanks.mono _ _ _ _ _ _ _
   | exact laws_heldRanks.mono _ _ _ _ _
   | exact laws_markRanks.mono _ _ _ _ _
   | exact laws_toRanks.mono _ _ _ _
   | exact spec_AddRanks.mono _ _ _ _ _ _ _
   | exact LeO.none _
   | refine LeO.ite ?_ ?_
   | refine LeO.bind ?_ (fun _ => ?_)
  ·intro y0 y1 y2 y3 y4 y5 y6 y7 y8 y9 y10 y11 y12 y13
   unfold laws_FnExactAddRanks.j1
   repeat' first
   | (with_reducible exact ih0 _ _ _ _ _ _ _ _ _ _ _ _ _ _ _ _ _ _ _ _ _)
   | (with_reducible exact ih1 _ _ _ _ _ _ _ _ _ _ _ _ _ _)
   | (with_reducible exact ih2 _ _ _ _ _)
   | (with_reducible exact impl_AddRanks.mono _ _ _ _ _ _ _)
   | (with_reducible exact laws_eqRanks.mono _ _ _ _ _ _ _)
   | (with_reducible exact laws_heldRanks.mono _ _ _ _ _)
   | (with_reducible exact laws_markRanks.mono _ _ _ _ _)
   | (with_reducible exact laws_toRanks.mono _ _ _ _)
   | (with_reducible exact spec_AddRanks.mono _ _ _ _ _ _ _)
   | (with_reducible exact LeO.refl _)
   | (with_reducible exact LeO.none _)
   | (with_reducible refine LeO.ite ?_ ?_)
   | (with_reducible refine LeO.bind ?_ (fun _ => ?_))
   | exact ih0 _ _ _ _ _ _ _ _ _ _ _ _ _ _ _ _ _ _ _ _ _
   | exact ih1 _ _ _ _ _ _ _ _ _ _ _ _ _ _
   | exact ih2 _ _ _ _ _
   | exact impl_AddRanks.mono _ _ _ _ _ _ _
   | exact laws_eqRanks.mono _ _ _ _ _ _ _
   | exact laws_heldRanks.mono _ _ _ _ _
   | exact laws_markRanks.mono _ _ _ _ _
   | exact laws_toRanks.mono _ _ _ _
   | exact spec_AddRanks.mono _ _ _ _ _ _ _
   | exact LeO.none _
   | refine LeO.ite ?_ ?_
   | refine LeO.bind ?_ (fun _ => ?_)
  ·intro y0 y1 y2 y3 y4
   unfold laws_FnExactAddRanks.j2
   repeat' first
   | (with_reducible exact ih0 _ _ _ _ _ _ _ _ _ _ _ _ _ _ _ _ _ _ _ _ _)
   | (with_reducible exact ih1 _ _ _ _ _ _ _ _ _ _ _ _ _ _)
   | (with_reducible exact ih2 _ _ _ _ _)
   | (with_reducible exact impl_AddRanks.mono _ _ _ _ _ _ _)
   | (with_reducible exact laws_eqRanks.mono _ _ _ _ _ _ _)
   | (with_reducible exact laws_heldRanks.mono _ _ _ _ _)
   | (with_reducible exact laws_markRanks.mono _ _ _ _ _)
   | (with_reducible exact laws_toRanks.mono _ _ _ _)
   | (with_reducible exact spec_AddRanks.mono _ _ _ _ _ _ _)
   | (with_reducible exact LeO.refl _)
   | (with_reducible exact LeO.none _)
   | (with_reducible refine LeO.ite ?_ ?_)
   | (with_reducible refine LeO.bind ?_ (fun _ => ?_))
   | exact ih0 _ _ _ _ _ _ _ _ _ _ _ _ _ _ _ _ _ _ _ _ _
   | exact ih1 _ _ _ _ _ _ _ _ _ _ _ _ _ _
   | exact ih2 _ _ _ _ _
   | exact impl_AddRanks.mono _ _ _ _ _ _ _
   | exact laws_eqRanks.mono _ _ _ _ _ _ _
   | exact laws_heldRanks.mono _ _ _ _ _
   | exact laws_markRanks.mono _ _ _ _ _
   | exact laws_toRanks.mono _ _ _ _
   | exact spec_AddRanks.mono _ _ _ _ _ _ _
   | exact LeO.none _
   | refine LeO.ite ?_ ?_
   | refine LeO.bind ?_ (fun _ => ?_)
theorem laws_FnExactAddRanks.mono : ∀ a0 a1 a2 a3 a4 a5 k, LeO (laws_FnExactAddRanks.f k a0 a1 a2 a3 a4 a5) (laws_FnExactAddRanks.f (k + 1) a0 a1 a2 a3 a4 a5) := by
 intro a0 a1 a2 a3 a4 a5 k
 obtain ⟨ih0, ih1, ih2⟩ := laws_FnExactAddRanks.mono_l k
 unfold laws_FnExactAddRanks.f
 repeat' first
   | (with_reducible exact ih0 _ _ _ _ _ _ _ _ _ _ _ _ _ _ _ _ _ _ _ _ _)
   | (with_reducible exact ih1 _ _ _ _ _ _ _ _ _ _ _ _ _ _)
   | (with_reducible exact ih2 _ _ _ _ _)
   | (with_reducible exact impl_AddRanks.mono _ _ _ _ _ _ _)
   | (with_reducible exact laws_eqRanks.mono _ _ _ _ _ _ _)
   | (with_reducible exact laws_heldRanks.mono _ _ _ _ _)
   | (with_reducible exact laws_markRanks.mono _ _ _ _ _)
   | (with_reducible exact laws_toRanks.mono _ _ _ _)
   | (with_reducible exact spec_AddRanks.mono _ _ _ _ _ _ _)
   | (with_reducible exact LeO.refl _)
   | (with_reducible exact LeO.none _)
   | (with_reducible refine LeO.ite ?_ ?_)
   | (with_reducible refine LeO.bind ?_ (fun _ => ?_))
   | exact ih0 _ _ _ _ _ _ _ _ _ _ _ _ _ _ _ _ _ _ _ _ _
   | exact ih1 _ _ _ _ _ _ _ _ _ _ _ _ _ _
   | exact ih2 _ _ _ _ _
   | exact impl_AddRanks.mono _ _ _ _ _ _ _
   | exact laws_eqRanks.mono _ _ _ _ _ _ _
   | exact laws_heldRanks.mono _ _ _ _ _
   | exact laws_markRanks.mono _ _ _ _ _
   | exact laws_toRanks.mono _ _ _ _
   | exact spec_AddRanks.mono _ _ _ _ _ _ _
   | exact LeO.none _
   | refine LeO.ite ?_ ?_
   | refine LeO.bind ?_ (fun _ => ?_)
def laws_FnExactAddRanks.T8 : Bool × List (List Nat × List Nat) := (true, [([], []), ([0], [0]), ([], []), ([2, 1], [2]), ([1, 3, 3], [1, 3]), ([4], [4]), ([5], [5]), ([5], [5]), ([], []), ([8, 6, 4, 0, 1, 2, 3, 4, 5, 6, 8], [6, 8]), ([7, 9, 0, 1, 2, 3, 4, 5, 6, 7, 8, 9], [7])])
def laws_FnExactAddRanks.B8 : List Nat := [0, 1, 0, 7, 15, 31, 63, 63, 0, 383, 1023]
theorem laws_FnExactAddRanks.tab8 : rtab .any (opsOf Try.f8 8) = laws_FnExactAddRanks.T8 := by kernel_rfl
theorem laws_FnExactAddRanks.bits8 : waitsOk laws_FnExactAddRanks.T8.2 laws_FnExactAddRanks.B8 = true := by kernel_rfl
def laws_FnExactAddRanks.T31 : Bool × List (List Nat × List Nat) := (true, [([], []), ([0], [0]), ([], []), ([2, 1], [2]), ([1, 3, 3], [1, 3]), ([4], [4]), ([5], [5]), ([5], [5]), ([], []), ([8, 6, 4, 0, 1, 2, 3, 4, 5, 6, 8], [6, 8]), ([7, 9, 0, 1, 2, 3, 4, 5, 6, 7, 8, 9], [7])])
def laws_FnExactAddRanks.B31 : List Nat := [0, 1, 0, 7, 15, 31, 63, 63, 0, 383, 1023]
theorem laws_FnExactAddRanks.tab31 : rtab .any (opsOf Try.f8 31) = laws_FnExactAddRanks.T31 := by kernel_rfl
theorem laws_FnExactAddRanks.bits31 : waitsOk laws_FnExactAddRanks.T31.2 laws_FnExactAddRanks.B31 = true := by kernel_rfl
end Go.Proofs.Ytmniekgnpppbhaa.F
end
