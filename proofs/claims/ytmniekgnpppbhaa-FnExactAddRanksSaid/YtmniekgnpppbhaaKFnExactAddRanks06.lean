/- Words, walks and laws that the proof of FnExactAddRanks stands on, each under its own conditions alone. -/
import Derived.Test.YtmniekgnpppbhaaKFnExactAddRanks01
import Derived.Test.YtmniekgnpppbhaaKFnExactAddRanks05
section
namespace Go.Proofs.Ytmniekgnpppbhaa.F
open Go.RowKit Go.Proofs.YtmniekgnpppbhaaW.PrintWords Go.Proofs.YtmniekgnpppbhaaW.PrintLast Go.Proofs.YtmniekgnpppbhaaW.PrintMore
attribute [local go_sem] max2_int min2_int max_two min_two max_three min_three max_four min_four
set_option linter.unusedVariables false
set_option linter.unusedSimpArgs false
mutual
def spec_l07Ok.j0 : Nat → Bool → Int → Int → List Int → Option (Bool)
 | 0, _, _, _, _ => none
 | k + 1, x40, x51000, x51001, x51002 => if x40 = true then (some false) else (spec_l07Ok.l0 k 0 x51000 x51001 x51002)
def spec_l07Ok.l0 : Nat → Int → Int → Int → List Int → Option (Bool)
 | 0, _, _, _, _ => none
 | k + 1, x3, x51000, x51001, x51002 => if x3 < (x51002.length : Int) then (if 0 ≤ x3 then ((spec_l00In.f (rd x51002 x3) 0 100000).bind fun t105 => (if t105 = true then (spec_l07Ok.l0 k (wrap64 (x3 + 1)) x51000 x51001 x51002) else (some false))) else (none)) else ((spec_l07Meets.f k x51002).bind fun t106 => (some t106))
end
def spec_l07Ok.f (k : Nat) (a0_0 : Int) (a0_1 : Int) (l0_2 : List Int) : Option (Bool) := (spec_l00In.f a0_0 1 5).bind fun t101 => (if t101 = true then ((spec_l00In.f a0_1 1 100000).bind fun t102 => (if t102 = true then (if 0 ≤ (IntKind.u64.wrap (a0_0)) then (if (l0_2.length : Int) = (shl .i64 1 (IntKind.u64.wrap (a0_0))) then (if 0 < (l0_2.length : Int) then (spec_l07Ok.j0 k ((rd l0_2 0) != 0) a0_0 a0_1 l0_2) else (none)) else (spec_l07Ok.j0 k true a0_0 a0_1 l0_2)) else (none)) else (spec_l07Ok.j0 k true a0_0 a0_1 l0_2))) else (spec_l07Ok.j0 k true a0_0 a0_1 l0_2))
theorem spec_l07Ok.mono_l : ∀ k, (∀ y0 y1 y2 y3, LeO (spec_l07Ok.j0 k y0 y1 y2 y3) (spec_l07Ok.j0 (k + 1) y0 y1 y2 y3)) ∧ (∀ y0 y1 y2 y3, LeO (spec_l07Ok.l0 k y0 y1 y2 y3) (spec_l07Ok.l0 (k + 1) y0 y1 y2 y3))
 | 0 => ⟨fun _ _ _ _ r h => by simp [spec_l07Ok.j0] at h, fun _ _ _ _ r h => by simp [spec_l07Ok.l0] at h⟩
 | k + 1 => by
  obtain ⟨ih0, ih1⟩ := spec_l07Ok.mono_l k
  refine ⟨?_, ?_⟩
  ·intro y0 y1 y2 y3
   unfold spec_l07Ok.j0
   repeat' first
   | (with_reducible exact ih0 _ _ _ _)
   | (with_reducible exact ih1 _ _ _ _)
   | (with_reducible exact spec_l07Meets.mono _ _)
   | (with_reducible exact LeO.refl _)
   | (with_reducible exact LeO.none _)
   | (with_reducible refine LeO.ite ?_ ?_)
   | (with_reducible refine LeO.bind ?_ (fun _ => ?_))
   | exact ih0 _ _ _ _
   | exact ih1 _ _ _ _
   | exact spec_l07Meets.mono _ _
   | exact LeO.none _
   | refine LeO.ite ?_ ?_
   | refine LeO.bind ?_ (fun _ => ?_)
  ·intro y0 y1 y2 y3
   unfold spec_l07Ok.l0
   repeat' first
   | (with_reducible exact ih0 _ _ _ _)
   | (with_reducible exact ih1 _ _ _ _)
   | (with_reducible exact spec_l07Meets.mono _ _)
   | (with_reducible exact LeO.refl _)
   | (with_reducible exact LeO.none _)
   | (with_reducible refine LeO.ite ?_ ?_)
   | (with_reducible refine LeO.bind ?_ (fun _ => ?_))
   | exact ih0 _ _ _ _
   | exact ih1 _ _ _ _
   | exact spec_l07Meets.mono _ _
   | exact LeO.none _
   | refine LeO.ite ?_ ?_
   | refine LeO.bind ?_ (fun _ => ?_)
theorem spec_l07Ok.mono : ∀ a0 a1 a2 k, LeO (spec_l07Ok.f k a0 a1 a2) (spec_l07Ok.f (k + 1) a0 a1 a2) := by
 intro a0 a1 a2 k
 obtain ⟨ih0, ih1⟩ := spec_l07Ok.mono_l k
 unfold spec_l07Ok.f
 repeat' first
   | (with_reducible exact ih0 _ _ _ _)
   | (with_reducible exact ih1 _ _ _ _)
   | (with_reducible exact spec_l07Meets.mono _ _)
   | (with_reducible exact LeO.refl _)
   | (with_reducible exact LeO.none _)
   | (with_reducible refine LeO.ite ?_ ?_)
   | (with_reducible refine LeO.bind ?_ (fun _ => ?_))
   | exact ih0 _ _ _ _
   | exact ih1 _ _ _ _
   | exact spec_l07Meets.mono _ _
   | exact LeO.none _
   | refine LeO.ite ?_ ?_
   | refine LeO.bind ?_ (fun _ => ?_)
def spec_l07Ok.T1 : Bool × List (List Nat × List Nat) := (true, [([], []), ([0], [0]), ([1], [1]), ([2], [2]), ([3], [3]), ([4], [4]), ([5, 4], [5]), ([6], [6]), ([7, 6], [6, 7]), ([8, 6], [6, 8]), ([9, 6], [6, 9]), ([10, 6, 6], [6, 10]), ([11, 6], [6, 11]), ([6, 12], [6, 12]), ([13, 11], [13]), ([14], [14]), ([15, 14], [14, 15]), ([16, 14], [14, 16]), ([17, 14], [14, 17]), ([18, 14], [14, 18]), ([14], [14]), ([20, 14], [14, 20]), ([21, 14], [14, 21]), ([22, 14], [14, 22]), ([23, 14], [14, 23]), ([24, 14], [14, 24]), ([19, 25, 14], [14, 19, 25]), ([14, 26], [14, 26]), ([27, 14], [27]), ([28], [28]), ([29, 28], [28, 29]), ([30, 28], [28, 30]), ([31, 28], [28, 31]), ([32, 28], [28, 32]), ([33, 28], [28, 33]), ([34, 28], [28, 34]), ([28, 35], [28, 35])])
def spec_l07Ok.B1 : List Nat := [0, 1, 3, 7, 15, 31, 63, 127, 255, 511, 1023, 2047, 4095, 8191, 16383, 32767, 65535, 131071, 262143, 524287, 32767, 1081343, 3178495, 7372799, 15761407, 32538623, 67108863, 134217727, 268435455, 536870911, 1073741823, 2147483647, 4294967295, 8589934591, 17179869183, 34359738367, 68719476735]
theorem spec_l07Ok.tab1 : rtab .any (opsOf Try.f33 1) = spec_l07Ok.T1 := by kernel_rfl
theorem spec_l07Ok.bits1 : waitsOk spec_l07Ok.T1.2 spec_l07Ok.B1 = true := by kernel_rfl
set_option maxHeartbeats 8000000 in
set_option maxRecDepth 100000 in
theorem spec_l07Ok.calls (k : Nat) (gb0 : Nat) (a0_0 : Int) (a0_1 : Int) (A0_2 : Option Addr) (c0_2 : Nat) (l0_2 : List Int) (r : Bool) (w : World) (hr0_2 : Kd.C (Kd.int .i64) w A0_2 l0_2.length l0_2) (hc0_2 : l0_2.length ≤ c0_2) (hgb0_ : w.heap[gb0]? = some (.cells #[.int .i64 a0_0, .int .i64 a0_1, .slice A0_2 l0_2.length c0_2] 33 (0, 0))) (h : spec_l07Ok.f k a0_0 a0_1 l0_2 = some r) :
  Calls Try.prog 33 #[.pointer (some ⟨gb0, 0, none⟩)] w fun e w' => e = .returned (.bool r) ∧ Below w.heap.size w w' := by
 have HR0_2 := Aside0.mk hr0_2
 have HC0_2 := Aside0.mk hc0_2
 clear hr0_2 hc0_2
 have BK50 := Aside0.mk hgb0_
 clear hgb0_
 have HB := Aside0.mk (Below.refl w.heap.size w)
 have H : ((spec_l00In.f a0_0 1 5).bind fun t101 => (if t101 = true then ((spec_l00In.f a0_1 1 100000).bind fun t102 => (if t102 = true then (if 0 ≤ (IntKind.u64.wrap (a0_0)) then (if (l0_2.length : Int) = (shl .i64 1 (IntKind.u64.wrap (a0_0))) then (if 0 < (l0_2.length : Int) then (spec_l07Ok.j0 k ((rd l0_2 0) != 0) a0_0 a0_1 l0_2) else (none)) else (spec_l07Ok.j0 k true a0_0 a0_1 l0_2)) else (none)) else (spec_l07Ok.j0 k true a0_0 a0_1 l0_2))) else (spec_l07Ok.j0 k true a0_0 a0_1 l0_2))) = some r := h
 clear h
 have HC2 := Aside0.mk H
 clear H
 go_enter Try.func33, Try.ntmps33
 go_upto_region 1 with (fail)
 go_cut [40] (fun v40 wc => ∃ (kq : Nat) (x40_1 : Bool), v40 = .bool x40_1 ∧ Aside0 (spec_l07Ok.j0 kq x40_1 a0_0 a0_1 l0_2 = some r) ∧ Aside0 (kq ≤ k) ∧ Aside0 (wc.heap[gb0]? = some (.cells #[.int .i64 a0_0, .int .i64 a0_1, (.slice A0_2 l0_2.length c0_2)] 33 (0, 0))) ∧ Aside0 (Below w.heap.size w wc))
 case first =>
  have H := HC2.out
  clear HC2
  replace H := Option.bind_eq_some_iff.mp H
  obtain ⟨t101, A30, H⟩ := H
  replace H : (if t101 = true then ((spec_l00In.f a0_1 1 100000).bind fun t102 => (if t102 = true then (if 0 ≤ (IntKind.u64.wrap (a0_0)) then (if (l0_2.length : Int) = (shl .i64 1 (IntKind.u64.wrap (a0_0))) then (if 0 < (l0_2.length : Int) then (spec_l07Ok.j0 k ((rd l0_2 0) != 0) a0_0 a0_1 l0_2) else (none)) else (spec_l07Ok.j0 k true a0_0 a0_1 l0_2)) else (none)) else (spec_l07Ok.j0 k true a0_0 a0_1 l0_2))) else (spec_l07Ok.j0 k true a0_0 a0_1 l0_2)) = some r := H
  have A3 := Aside0.mk A30
  clear A30
  by_cases c4 : t101 = true
  ·subst c4
   have H1 : ((spec_l00In.f a0_1 1 100000).bind fun t102 => (if t102 = true then (if 0 ≤ (IntKind.u64.wrap (a0_0)) then (if (l0_2.length : Int) = (shl .i64 1 (IntKind.u64.wrap (a0_0))) then (if 0 < (l0_2.length : Int) then (spec_l07Ok.j0 k ((rd l0_2 0) != 0) a0_0 a0_1 l0_2) else (none)) else (spec_l07Ok.j0 k true a0_0 a0_1 l0_2)) else (none)) else (spec_l07Ok.j0 k true a0_0 a0_1 l0_2))) = some r := by rw [if_pos rfl] at H; exact H
   clear H
   have H := H1
   clear H1
   replace H := Option.bind_eq_some_iff.mp H
   obtain ⟨t102, A50, H⟩ := H
   replace H : (if t102 = true then (if 0 ≤ (IntKind.u64.wrap (a0_0)) then (if (l0_2.length : Int) = (shl .i64 1 (IntKind.u64.wrap (a0_0))) then (if 0 < (l0_2.length : Int) then (spec_l07Ok.j0 k ((rd l0_2 0) != 0) a0_0 a0_1 l0_2) else (none)) else (spec_l07Ok.j0 k true a0_0 a0_1 l0_2)) else (none)) else (spec_l07Ok.j0 k true a0_0 a0_1 l0_2)) = some r := H
   have A5 := Aside0.mk A50
   clear A50
   by_cases c6 : t102 = true
   ·subst c6
    have H1 : (if 0 ≤ (IntKind.u64.wrap (a0_0)) then (if (l0_2.length : Int) = (shl .i64 1 (IntKind.u64.wrap (a0_0))) then (if 0 < (l0_2.length : Int) then (spec_l07Ok.j0 k ((rd l0_2 0) != 0) a0_0 a0_1 l0_2) else (none)) else (spec_l07Ok.j0 k true a0_0 a0_1 l0_2)) else (none)) = some r := by rw [if_pos rfl] at H; exact H
    clear H
    have H := H1
    clear H1
    obtain ⟨ji7, hji7⟩ : ∃ j_ : Int, (IntKind.u64.wrap (a0_0)) = j_ := ⟨_, rfl⟩
    replace H : (if 0 ≤ (ji7) then (if (l0_2.length : Int) = (shl .i64 1 (ji7)) then (if 0 < (l0_2.length : Int) then (spec_l07Ok.j0 k ((rd l0_2 0) != 0) a0_0 a0_1 l0_2) else (none)) else (spec_l07Ok.j0 k true a0_0 a0_1 l0_2)) else (none)) = some r := by first | (rw [hji7] at H; exact H) | (simp only [hji7] at H ⊢; exact H)
    (try rw [hji7] at A3)
    (try rw [hji7] at A5)
    by_cases c8 : 0 ≤ (ji7)
    ·rw [if_pos c8] at H
     have c8b0 := eq_true c8
     have c8b1 : decide (0 ≤ (ji7)) = true := decide_eq_true c8
     clear c8
     obtain ⟨ji9, hji9⟩ : ∃ j_ : Int, (shl .i64 1 (ji7)) = j_ := ⟨_, rfl⟩
     replace H : (if (l0_2.length : Int) = (ji9) then (if 0 < (l0_2.length : Int) then (spec_l07Ok.j0 k ((rd l0_2 0) != 0) a0_0 a0_1 l0_2) else (none)) else (spec_l07Ok.j0 k true a0_0 a0_1 l0_2)) = some r := by first | (rw [hji9] at H; exact H) | (simp only [hji9] at H ⊢; exact H)
     (try rw [hji9] at A3)
     (try rw [hji9] at A5)
     have hji9_ : (IntKind.i64.wrap (1 * 2 ^ min (ji7).toNat 64)) = ji9 := hji9
     have hji9z : (ji7) ≤ 64 → (IntKind.i64.wrap (1 * 2 ^ (ji7).toNat)) = ji9 := shl_small hji9
     have hji9u : (IntKind.i64.wrap (2 ^ min (ji7).toNat 64)) = ji9 := by have h_ := hji9_; rw [Int.one_mul] at h_; exact h_
     have hji9v : (ji7) ≤ 64 → (IntKind.i64.wrap (2 ^ (ji7).toNat)) = ji9 := fun hle_ => by have h_ := hji9z hle_; rw [Int.one_mul] at h_; exact h_
     have hji9y : (wrap64 (1 * 2 ^ min (ji7).toNat 64)) = ji9 := (i64_w _).symm.trans hji9_
     have hji9x : (ji7) ≤ 64 → (wrap64 (1 * 2 ^ (ji7).toNat)) = ji9 := fun h_ => (i64_w _).symm.trans (hji9z h_)
     by_cases c10 : (l0_2.length : Int) = (ji9)
     ·rw [if_pos c10] at H
      have c10b0 : ((l0_2.length : Int) == (ji9)) = true := beq_iff_eq.mpr c10
      have c10b1 : ((l0_2.length : Int) != (ji9)) = false := bne_eq_false_iff_eq.mpr c10
      clear c10
      (first | rw [c10b0] | (simp only [i64_w, i32_w]; rw [c10b0]) | skip)
      by_cases c11 : 0 < (l0_2.length : Int)
      ·rw [if_pos c11] at H
       have c11b0 : decide (0 < (l0_2.length : Int)) = true := decide_eq_true c11
       have c11b1 : decide (0 < l0_2.length) = true := decide_eq_true (by omega)
       clear c11
       have H' := Aside0.mk H
       clear H
       try go_wp2
       have n0_ := Aside0.mk (blk_drew BK50.out)
       have n1_ := Aside0.mk (below_drew1 HB.out)
       clear BK50
       clear HB
       have BK50 := n0_
       have HB := n1_
       clear n0_ n1_
       have p103 : 0 ≤ (0 : Int) := (by omega)
       have q103 : 0 < (l0_2.length : Int) := of_decide_eq_true (by first | (with_reducible assumption) | assumption)
       obtain ⟨ad103, e103, hx103_0⟩ := Kd.at_int HR0_2.out 0 p103 q103
       have hw103_0 := hx103_0
       (try rw [show ((0 : Int)).toNat = 0 from rfl] at hw103_0)
       (try rw [show 0 * 1 = 0 from rfl] at hw103_0)
       (try rw [Addr.add_zero'] at hw103_0)
       cases e103
       have qi103 : (0 < l0_2.length) = True := eq_true (by omega)
       (try rw [show ((0 : Int)).toNat = 0 from rfl] at hx103_0)
       (try rw [Addr.add_zero'] at hx103_0)
       replace hx103_0 := (HB.out.cell (World.block_lt_of_cell? w _ hx103_0)).trans hx103_0
       replace p103 := eq_true p103
       replace q103 := eq_true q103
       refine start_ (n := 37) (S := fun w' => w'.cell? ⟨gb0, 0, none⟩ = some (.int .i64 a0_0) ∧ w'.cell? ⟨gb0, 1, none⟩ = some (.int .i64 a0_1) ∧ w'.cell? ⟨gb0, 2, none⟩ = some (.slice (some ad103) l0_2.length c0_2) ∧ w'.cell? ad103 = some (.int .i64 (rd l0_2 0))) (ds := []) (fl 37 0) (by kernel_rfl) rfl rfl ⟨(blk_cell BK50.out 0).trans rfl, (blk_cell BK50.out 1).trans rfl, (blk_cell BK50.out 2).trans rfl, ((HB.out.cell (World.block_lt_of_cell? w _ hw103_0)).trans hw103_0)⟩ (fun hHeld => ?_); refine with_tabW spec_l07Ok.tab1 spec_l07Ok.bits1 (fun HT_ HW_ => ?_)
       generalize w.drew = w12 at BK50 HB hx103_0 hHeld ⊢
       refine pu_ (i := 0) (N := some 4) HT_.out (fl 37 1) (by kernel_rfl) ?_
       refine pu_ (i := 1) (N := some 5) HT_.out (fl 37 3) (by kernel_rfl) ?_
       refine pu_ (i := 2) (N := some 6) HT_.out (fl 37 7) (by kernel_rfl) ?_
       refine tk_ (i := 3) (N := some 7) HT_.out HW_.out (fl 37 15) (by kernel_rfl) hHeld ?_
       refine one_ (i := 4) (N := some 8) (fl 37 31) rfl rfl (one_of HT_.out (by kernel_rfl)) (by decide) (fun K hK => ?_)
       refine goes_ Try.func44 (by kernel_rfl) rfl #[.int .i64 a0_0, .int .i64 1, .int .i64 5] (by rfl) rfl rfl am_ ?_
       with_reducible refine (spec_l00In.calls a0_0 1 5 true _ A3.out).mono ?_
       rintro e w' ⟨rfl, ⟨nd, rfl⟩⟩
       refine ⟨_, rfl, ?_⟩
       refine hK.out _ _ ⟨(blk_cell BK50.out 0).trans rfl, (blk_cell BK50.out 1).trans rfl, (blk_cell BK50.out 2).trans rfl, ((HB.out.cell (World.block_lt_of_cell? w _ hw103_0)).trans hw103_0)⟩ (fun hHeld => ?_)
       clear hK K
       refine norm_ (a' := ?_) ?_ ?_
       rotate_left
       ·show Act.put _ (some 8) _ = _
        simp only [Act.put, List.setIfInBounds_toArray, List.set_cons_zero, List.set_cons_succ, i64_w, i32_w]
        rfl
       refine pu_ (i := 5) (N := some 9) HT_.out (fl 37 63) (by kernel_rfl) ?_
       refine pu_ (i := 6) (N := some 10) HT_.out (fl 37 127) (by kernel_rfl) ?_
       refine pu_ (i := 7) (N := some 11) HT_.out (fl 37 255) (by kernel_rfl) ?_
       refine pu_ (i := 8) (N := some 12) HT_.out (fl 37 511) (by kernel_rfl) ?_
       refine pu_ (i := 9) (N := some 13) HT_.out (fl 37 1023) (by kernel_rfl) ?_
       refine tk_ (i := 10) (N := some 14) HT_.out HW_.out (fl 37 2047) (by kernel_rfl) hHeld ?_
       refine one_ (i := 11) (N := some 15) (fl 37 4095) rfl rfl (one_of HT_.out (by kernel_rfl)) (by decide) (fun K hK => ?_)
       refine goes_ Try.func44 (by kernel_rfl) rfl #[.int .i64 a0_1, .int .i64 1, .int .i64 100000] (by rfl) rfl rfl am_ ?_
       with_reducible refine (spec_l00In.calls a0_1 1 100000 true _ A5.out).mono ?_
       rintro e w' ⟨rfl, ⟨nd, rfl⟩⟩
       refine ⟨_, rfl, ?_⟩
       refine hK.out _ _ ⟨(blk_cell BK50.out 0).trans rfl, (blk_cell BK50.out 1).trans rfl, (blk_cell BK50.out 2).trans rfl, ((HB.out.cell (World.block_lt_of_cell? w _ hw103_0)).trans hw103_0)⟩ (fun hHeld => ?_)
       clear hK K
       refine norm_ (a' := ?_) ?_ ?_
       rotate_left
       ·show Act.put _ (some 15) _ = _
        simp only [Act.put, List.setIfInBounds_toArray, List.set_cons_zero, List.set_cons_succ, i64_w, i32_w]
        rfl
       refine pu_ (i := 12) (N := some 16) HT_.out (fl 37 8191) (by kernel_rfl) ?_
       refine pu_ (i := 13) (N := some 17) HT_.out (fl 37 16383) (by kernel_rfl) ?_
       refine pu_ (i := 14) (N := some 18) HT_.out (fl 37 32767) (by kernel_rfl) ?_
       refine pu_ (i := 15) (N := some 19) HT_.out (fl 37 65535) (by kernel_rfl) ?_
       refine pu_ (i := 16) (N := some 20) HT_.out (fl 37 131071) (by kernel_rfl) ?_
       refine pu_ (i := 17) (N := some 21) HT_.out (fl 37 262143) (by kernel_rfl) ?_
       refine pu_ (i := 20) (N := some 24) HT_.out (fl 37 1310719) (by kernel_rfl) ?_
       refine pu_ (i := 21) (N := some 25) HT_.out (fl 37 3407871) (by kernel_rfl) ?_
       refine pu_ (i := 22) (N := some 26) HT_.out (fl 37 7602175) (by kernel_rfl) ?_
       refine tk_ (i := 18) (N := some 22) HT_.out HW_.out (fl 37 7864319) (by kernel_rfl) hHeld ?_
       refine pu_ (i := 19) (N := some 23) HT_.out (fl 37 8388607) (by kernel_rfl) ?_
       refine tk_ (i := 23) (N := some 27) HT_.out HW_.out (fl 37 16777215) (by kernel_rfl) hHeld ?_
       refine pu_ (i := 24) (N := some 28) HT_.out (fl 37 33554431) (by kernel_rfl) ?_
       refine pu_ (i := 25) (N := some 29) HT_.out (fl 37 67108863) (by kernel_rfl) ?_
       refine pu_ (i := 26) (N := some 30) HT_.out (fl 37 134217727) (by kernel_rfl) ?_
       refine pu_ (i := 27) (N := some 31) HT_.out (fl 37 268435455) (by kernel_rfl) ?_
       refine pu_ (i := 28) (N := some 32) HT_.out (fl 37 536870911) (by kernel_rfl) ?_
       refine pu_ (i := 29) (N := some 33) HT_.out (fl 37 1073741823) (by kernel_rfl) ?_
       refine pu_ (i := 30) (N := some 34) HT_.out (fl 37 2147483647) (by kernel_rfl) ?_
       refine pu_ (i := 31) (N := some 35) HT_.out (fl 37 4294967295) (by kernel_rfl) ?_
       refine tk_ (i := 32) (N := some 36) HT_.out HW_.out (fl 37 8589934591) (by kernel_rfl) hHeld ?_
       refine pu_ (i := 33) (N := some 37) HT_.out (fl 37 17179869183) (by kernel_rfl) ?_
       refine tk_ (i := 34) (N := some 38) HT_.out HW_.out (fl 37 34359738367) (by kernel_rfl) hHeld ?_
       refine pu_ (i := 35) (N := some 39) HT_.out (fl 37 68719476735) (by kernel_rfl) ?_
       refine pu_ (i := 36) (N := some 40) HT_.out (fl 37 137438953471) (by kernel_rfl) ?_
       refine done_ (done_of HT_.out (by kernel_rfl)) ?_
       try go_wp2
       go_meet
       case rel => exact ⟨_, (((rd l0_2 0) != 0)), (by first | rfl | (simp; done) | (simp [*]; done)), H', ⟨by first | omega | exact Nat.le_refl _⟩, ⟨by (with_reducible repeat (first | refine blk_drewN ?_ _ | refine blk_drew ?_ | refine blk_alloc ?_ _)); exact BK50.out⟩, ⟨by repeat (first | (with_reducible first | exact HB.out | apply below_alloc | apply pw_below_drewN | apply below_drew1 | refine below_set ?_ GE50.out) | exact HB.out)⟩⟩
      ·rw [if_neg c11] at H
       exact absurd H (by simp)
     ·rw [if_neg c10] at H
      have c10b0 : ((l0_2.length : Int) == (ji9)) = false := beq_eq_false_iff_ne.mpr c10
      have c10b1 : ((l0_2.length : Int) != (ji9)) = true := bne_iff_ne.mpr c10
      (first | rw [c10b0] | (simp only [i64_w, i32_w]; rw [c10b0]) | skip)
      have H' := Aside0.mk H
      clear H
      try go_wp2
      have n0_ := Aside0.mk (blk_drew BK50.out)
      have n1_ := Aside0.mk (below_drew1 HB.out)
      clear BK50
      clear HB
      have BK50 := n0_
      have HB := n1_
      clear n0_ n1_
      refine start_ (n := 37) (S := fun w' => w'.cell? ⟨gb0, 0, none⟩ = some (.int .i64 a0_0) ∧ w'.cell? ⟨gb0, 1, none⟩ = some (.int .i64 a0_1) ∧ w'.cell? ⟨gb0, 2, none⟩ = some (.slice A0_2 l0_2.length c0_2)) (ds := []) (fl 37 0) (by kernel_rfl) rfl rfl ⟨(blk_cell BK50.out 0).trans rfl, (blk_cell BK50.out 1).trans rfl, (blk_cell BK50.out 2).trans rfl⟩ (fun hHeld => ?_); refine with_tabW spec_l07Ok.tab1 spec_l07Ok.bits1 (fun HT_ HW_ => ?_)
      generalize w.drew = w13 at BK50 HB hHeld ⊢
      refine pu_ (i := 0) (N := some 4) HT_.out (fl 37 1) (by kernel_rfl) ?_
      refine pu_ (i := 1) (N := some 5) HT_.out (fl 37 3) (by kernel_rfl) ?_
      refine pu_ (i := 2) (N := some 6) HT_.out (fl 37 7) (by kernel_rfl) ?_
      refine tk_ (i := 3) (N := some 7) HT_.out HW_.out (fl 37 15) (by kernel_rfl) hHeld ?_
      refine one_ (i := 4) (N := some 8) (fl 37 31) rfl rfl (one_of HT_.out (by kernel_rfl)) (by decide) (fun K hK => ?_)
      refine goes_ Try.func44 (by kernel_rfl) rfl #[.int .i64 a0_0, .int .i64 1, .int .i64 5] (by rfl) rfl rfl am_ ?_
      with_reducible refine (spec_l00In.calls a0_0 1 5 true _ A3.out).mono ?_
      rintro e w' ⟨rfl, ⟨nd, rfl⟩⟩
      refine ⟨_, rfl, ?_⟩
      refine hK.out _ _ ⟨(blk_cell BK50.out 0).trans rfl, (blk_cell BK50.out 1).trans rfl, (blk_cell BK50.out 2).trans rfl⟩ (fun hHeld => ?_)
      clear hK K
      refine norm_ (a' := ?_) ?_ ?_
      rotate_left
      ·show Act.put _ (some 8) _ = _
       simp only [Act.put, List.setIfInBounds_toArray, List.set_cons_zero, List.set_cons_succ, i64_w, i32_w]
       rfl
      refine pu_ (i := 5) (N := some 9) HT_.out (fl 37 63) (by kernel_rfl) ?_
      refine pu_ (i := 6) (N := some 10) HT_.out (fl 37 127) (by kernel_rfl) ?_
      refine pu_ (i := 7) (N := some 11) HT_.out (fl 37 255) (by kernel_rfl) ?_
      refine pu_ (i := 8) (N := some 12) HT_.out (fl 37 511) (by kernel_rfl) ?_
      refine pu_ (i := 9) (N := some 13) HT_.out (fl 37 1023) (by kernel_rfl) ?_
      refine tk_ (i := 10) (N := some 14) HT_.out HW_.out (fl 37 2047) (by kernel_rfl) hHeld ?_
      refine one_ (i := 11) (N := some 15) (fl 37 4095) rfl rfl (one_of HT_.out (by kernel_rfl)) (by decide) (fun K hK => ?_)
      refine goes_ Try.func44 (by kernel_rfl) rfl #[.int .i64 a0_1, .int .i64 1, .int .i64 100000] (by rfl) rfl rfl am_ ?_
      with_reducible refine (spec_l00In.calls a0_1 1 100000 true _ A5.out).mono ?_
      rintro e w' ⟨rfl, ⟨nd, rfl⟩⟩
      refine ⟨_, rfl, ?_⟩
      refine hK.out _ _ ⟨(blk_cell BK50.out 0).trans rfl, (blk_cell BK50.out 1).trans rfl, (blk_cell BK50.out 2).trans rfl⟩ (fun hHeld => ?_)
      clear hK K
      refine norm_ (a' := ?_) ?_ ?_
      rotate_left
      ·show Act.put _ (some 15) _ = _
       simp only [Act.put, List.setIfInBounds_toArray, List.set_cons_zero, List.set_cons_succ, i64_w, i32_w]
       rfl
      refine pu_ (i := 12) (N := some 16) HT_.out (fl 37 8191) (by kernel_rfl) ?_
      refine pu_ (i := 13) (N := some 17) HT_.out (fl 37 16383) (by kernel_rfl) ?_
      refine pu_ (i := 14) (N := some 18) HT_.out (fl 37 32767) (by kernel_rfl) ?_
      refine pu_ (i := 15) (N := some 19) HT_.out (fl 37 65535) (by kernel_rfl) ?_
      refine pu_ (i := 16) (N := some 20) HT_.out (fl 37 131071) (by kernel_rfl) ?_
      refine pu_ (i := 17) (N := some 21) HT_.out (fl 37 262143) (by kernel_rfl) ?_
      refine pu_ (i := 20) (N := some 24) HT_.out (fl 37 1310719) (by kernel_rfl) ?_
      refine pu_ (i := 21) (N := some 25) HT_.out (fl 37 3407871) (by kernel_rfl) ?_
      refine pu_ (i := 22) (N := some 26) HT_.out (fl 37 7602175) (by kernel_rfl) ?_
      refine tk_ (i := 18) (N := some 22) HT_.out HW_.out (fl 37 7864319) (by kernel_rfl) hHeld ?_
      refine pu_ (i := 19) (N := some 23) HT_.out (fl 37 8388607) (by kernel_rfl) ?_
      refine tk_ (i := 23) (N := some 27) HT_.out HW_.out (fl 37 16777215) (by kernel_rfl) hHeld ?_
      refine pu_ (i := 24) (N := some 28) HT_.out (fl 37 33554431) (by kernel_rfl) ?_
      refine pu_ (i := 25) (N := some 29) HT_.out (fl 37 67108863) (by kernel_rfl) ?_
      refine pu_ (i := 26) (N := some 30) HT_.out (fl 37 134217727) (by kernel_rfl) ?_
      refine pu_ (i := 27) (N := some 31) HT_.out (fl 37 268435455) (by kernel_rfl) ?_
      refine pu_ (i := 28) (N := some 32) HT_.out (fl 37 536870911) (by kernel_rfl) ?_
      refine pn_ (i := 29) (N := some 33) HT_.out (fl 37 1073741823) (by kernel_rfl) ?_
      refine pn_ (i := 30) (N := some 34) HT_.out (fl 37 2147483647) (by kernel_rfl) ?_
      refine pn_ (i := 31) (N := some 35) HT_.out (fl 37 4294967295) (by kernel_rfl) ?_
      refine pn_ (i := 32) (N := some 36) HT_.out (fl 37 8589934591) (by kernel_rfl) ?_
      refine pn_ (i := 33) (N := some 37) HT_.out (fl 37 17179869183) (by kernel_rfl) ?_
      refine pn_ (i := 34) (N := some 38) HT_.out (fl 37 34359738367) (by kernel_rfl) ?_
      refine pn_ (i := 35) (N := some 39) HT_.out (fl 37 68719476735) (by kernel_rfl) ?_
      refine pu_ (i := 36) (N := some 40) HT_.out (fl 37 137438953471) (by kernel_rfl) ?_
      refine done_ (done_of HT_.out (by kernel_rfl)) ?_
      try go_wp2
      go_meet
      case rel => exact ⟨_, (true), (by first | rfl | (simp; done) | (simp [*]; done)), H', ⟨by first | omega | exact Nat.le_refl _⟩, ⟨by (with_reducible repeat (first | refine blk_drewN ?_ _ | refine blk_drew ?_ | refine blk_alloc ?_ _)); exact BK50.out⟩, ⟨by repeat (first | (with_reducible first | exact HB.out | apply below_alloc | apply pw_below_drewN | apply below_drew1 | refine below_set ?_ GE50.out) | exact HB.out)⟩⟩
    ·rw [if_neg c8] at H
     exact absurd H (by simp)
   ·replace c6 := Bool.eq_false_iff.mpr c6
    subst c6
    have H1 : (spec_l07Ok.j0 k true a0_0 a0_1 l0_2) = some r := by rw [if_neg (show ¬ (false = true) by decide)] at H; exact H
    clear H
    have H := H1
    clear H1
    have H' := Aside0.mk H
    clear H
    try go_wp2
    have n0_ := Aside0.mk (blk_drew BK50.out)
    have n1_ := Aside0.mk (below_drew1 HB.out)
    clear BK50
    clear HB
    have BK50 := n0_
    have HB := n1_
    clear n0_ n1_
    refine start_ (n := 37) (S := fun w' => w'.cell? ⟨gb0, 0, none⟩ = some (.int .i64 a0_0) ∧ w'.cell? ⟨gb0, 1, none⟩ = some (.int .i64 a0_1) ∧ w'.cell? ⟨gb0, 2, none⟩ = some (.slice A0_2 l0_2.length c0_2)) (ds := []) (fl 37 0) (by kernel_rfl) rfl rfl ⟨(blk_cell BK50.out 0).trans rfl, (blk_cell BK50.out 1).trans rfl, (blk_cell BK50.out 2).trans rfl⟩ (fun hHeld => ?_); refine with_tabW spec_l07Ok.tab1 spec_l07Ok.bits1 (fun HT_ HW_ => ?_)
    generalize w.drew = w14 at BK50 HB hHeld ⊢
    refine pu_ (i := 0) (N := some 4) HT_.out (fl 37 1) (by kernel_rfl) ?_
    refine pu_ (i := 1) (N := some 5) HT_.out (fl 37 3) (by kernel_rfl) ?_
    refine pu_ (i := 2) (N := some 6) HT_.out (fl 37 7) (by kernel_rfl) ?_
    refine tk_ (i := 3) (N := some 7) HT_.out HW_.out (fl 37 15) (by kernel_rfl) hHeld ?_
    refine one_ (i := 4) (N := some 8) (fl 37 31) rfl rfl (one_of HT_.out (by kernel_rfl)) (by decide) (fun K hK => ?_)
    refine goes_ Try.func44 (by kernel_rfl) rfl #[.int .i64 a0_0, .int .i64 1, .int .i64 5] (by rfl) rfl rfl am_ ?_
    with_reducible refine (spec_l00In.calls a0_0 1 5 true _ A3.out).mono ?_
    rintro e w' ⟨rfl, ⟨nd, rfl⟩⟩
    refine ⟨_, rfl, ?_⟩
    refine hK.out _ _ ⟨(blk_cell BK50.out 0).trans rfl, (blk_cell BK50.out 1).trans rfl, (blk_cell BK50.out 2).trans rfl⟩ (fun hHeld => ?_)
    clear hK K
    refine norm_ (a' := ?_) ?_ ?_
    rotate_left
    ·show Act.put _ (some 8) _ = _
     simp only [Act.put, List.setIfInBounds_toArray, List.set_cons_zero, List.set_cons_succ, i64_w, i32_w]
     rfl
    refine pu_ (i := 5) (N := some 9) HT_.out (fl 37 63) (by kernel_rfl) ?_
    refine pu_ (i := 6) (N := some 10) HT_.out (fl 37 127) (by kernel_rfl) ?_
    refine pu_ (i := 7) (N := some 11) HT_.out (fl 37 255) (by kernel_rfl) ?_
    refine pu_ (i := 8) (N := some 12) HT_.out (fl 37 511) (by kernel_rfl) ?_
    refine pu_ (i := 9) (N := some 13) HT_.out (fl 37 1023) (by kernel_rfl) ?_
    refine tk_ (i := 10) (N := some 14) HT_.out HW_.out (fl 37 2047) (by kernel_rfl) hHeld ?_
    refine one_ (i := 11) (N := some 15) (fl 37 4095) rfl rfl (one_of HT_.out (by kernel_rfl)) (by decide) (fun K hK => ?_)
    refine goes_ Try.func44 (by kernel_rfl) rfl #[.int .i64 a0_1, .int .i64 1, .int .i64 100000] (by rfl) rfl rfl am_ ?_
    with_reducible refine (spec_l00In.calls a0_1 1 100000 false _ A5.out).mono ?_
    rintro e w' ⟨rfl, ⟨nd, rfl⟩⟩
    refine ⟨_, rfl, ?_⟩
    refine hK.out _ _ ⟨(blk_cell BK50.out 0).trans rfl, (blk_cell BK50.out 1).trans rfl, (blk_cell BK50.out 2).trans rfl⟩ (fun hHeld => ?_)
    clear hK K
    refine norm_ (a' := ?_) ?_ ?_
    rotate_left
    ·show Act.put _ (some 15) _ = _
     simp only [Act.put, List.setIfInBounds_toArray, List.set_cons_zero, List.set_cons_succ, i64_w, i32_w]
     rfl
    refine pu_ (i := 12) (N := some 16) HT_.out (fl 37 8191) (by kernel_rfl) ?_
    refine pu_ (i := 13) (N := some 17) HT_.out (fl 37 16383) (by kernel_rfl) ?_
    refine pu_ (i := 14) (N := some 18) HT_.out (fl 37 32767) (by kernel_rfl) ?_
    refine pn_ (i := 15) (N := some 19) HT_.out (fl 37 65535) (by kernel_rfl) ?_
    refine pn_ (i := 16) (N := some 20) HT_.out (fl 37 131071) (by kernel_rfl) ?_
    refine pn_ (i := 17) (N := some 21) HT_.out (fl 37 262143) (by kernel_rfl) ?_
    refine pn_ (i := 18) (N := some 22) HT_.out (fl 37 524287) (by kernel_rfl) ?_
    refine pn_ (i := 19) (N := some 23) HT_.out (fl 37 1048575) (by kernel_rfl) ?_
    refine pn_ (i := 20) (N := some 24) HT_.out (fl 37 2097151) (by kernel_rfl) ?_
    refine pn_ (i := 21) (N := some 25) HT_.out (fl 37 4194303) (by kernel_rfl) ?_
    refine pn_ (i := 22) (N := some 26) HT_.out (fl 37 8388607) (by kernel_rfl) ?_
    refine pn_ (i := 23) (N := some 27) HT_.out (fl 37 16777215) (by kernel_rfl) ?_
    refine pn_ (i := 24) (N := some 28) HT_.out (fl 37 33554431) (by kernel_rfl) ?_
    refine pn_ (i := 25) (N := some 29) HT_.out (fl 37 67108863) (by kernel_rfl) ?_
    refine pn_ (i := 26) (N := some 30) HT_.out (fl 37 134217727) (by kernel_rfl) ?_
    refine pu_ (i := 27) (N := some 31) HT_.out (fl 37 268435455) (by kernel_rfl) ?_
    refine pu_ (i := 28) (N := some 32) HT_.out (fl 37 536870911) (by kernel_rfl) ?_
    refine pn_ (i := 29) (N := some 33) HT_.out (fl 37 1073741823) (by kernel_rfl) ?_
    refine pn_ (i := 30) (N := some 34) HT_.out (fl 37 2147483647) (by kernel_rfl) ?_
    refine pn_ (i := 31) (N := some 35) HT_.out (fl 37 4294967295) (by kernel_rfl) ?_
    refine pn_ (i := 32) (N := some 36) HT_.out (fl 37 8589934591) (by kernel_rfl) ?_
    refine pn_ (i := 33) (N := some 37) HT_.out (fl 37 17179869183) (by kernel_rfl) ?_
    refine pn_ (i := 34) (N := some 38) HT_.out (fl 37 34359738367) (by kernel_rfl) ?_
    refine pn_ (i := 35) (N := some 39) HT_.out (fl 37 68719476735) (by kernel_rfl) ?_
    refine pu_ (i := 36) (N := some 40) HT_.out (fl 37 137438953471) (by kernel_rfl) ?_
    refine done_ (done_of HT_.out (by kernel_rfl)) ?_
    try go_wp2
    go_meet
    case rel => exact ⟨_, (true), (by first | rfl | (simp; done) | (simp [*]; done)), H', ⟨by first | omega | exact Nat.le_refl _⟩, ⟨by (with_reducible repeat (first | refine blk_drewN ?_ _ | refine blk_drew ?_ | refine blk_alloc ?_ _)); exact BK50.out⟩, ⟨by repeat (first | (with_reducible first | exact HB.out | apply below_alloc | apply pw_below_drewN | apply below_drew1 | refine below_set ?_ GE50.out) | exact HB.out)⟩⟩
  ·replace c4 := Bool.eq_false_iff.mpr c4
   subst c4
   have H1 : (spec_l07Ok.j0 k true a0_0 a0_1 l0_2) = some r := by rw [if_neg (show ¬ (false = true) by decide)] at H; exact H
   clear H
   have H := H1
   clear H1
   have H' := Aside0.mk H
   clear H
   try go_wp2
   have n0_ := Aside0.mk (blk_drew BK50.out)
   have n1_ := Aside0.mk (below_drew1 HB.out)
   clear BK50
   clear HB
   have BK50 := n0_
   have HB := n1_
   clear n0_ n1_
   refine start_ (n := 37) (S := fun w' => w'.cell? ⟨gb0, 0, none⟩ = some (.int .i64 a0_0) ∧ w'.cell? ⟨gb0, 1, none⟩ = some (.int .i64 a0_1) ∧ w'.cell? ⟨gb0, 2, none⟩ = some (.slice A0_2 l0_2.length c0_2)) (ds := []) (fl 37 0) (by kernel_rfl) rfl rfl ⟨(blk_cell BK50.out 0).trans rfl, (blk_cell BK50.out 1).trans rfl, (blk_cell BK50.out 2).trans rfl⟩ (fun hHeld => ?_); refine with_tabW spec_l07Ok.tab1 spec_l07Ok.bits1 (fun HT_ HW_ => ?_)
   generalize w.drew = w15 at BK50 HB hHeld ⊢
   refine pu_ (i := 0) (N := some 4) HT_.out (fl 37 1) (by kernel_rfl) ?_
   refine pu_ (i := 1) (N := some 5) HT_.out (fl 37 3) (by kernel_rfl) ?_
   refine pu_ (i := 2) (N := some 6) HT_.out (fl 37 7) (by kernel_rfl) ?_
   refine tk_ (i := 3) (N := some 7) HT_.out HW_.out (fl 37 15) (by kernel_rfl) hHeld ?_
   refine one_ (i := 4) (N := some 8) (fl 37 31) rfl rfl (one_of HT_.out (by kernel_rfl)) (by decide) (fun K hK => ?_)
   refine goes_ Try.func44 (by kernel_rfl) rfl #[.int .i64 a0_0, .int .i64 1, .int .i64 5] (by rfl) rfl rfl am_ ?_
   with_reducible refine (spec_l00In.calls a0_0 1 5 false _ A3.out).mono ?_
   rintro e w' ⟨rfl, ⟨nd, rfl⟩⟩
   refine ⟨_, rfl, ?_⟩
   refine hK.out _ _ ⟨(blk_cell BK50.out 0).trans rfl, (blk_cell BK50.out 1).trans rfl, (blk_cell BK50.out 2).trans rfl⟩ (fun hHeld => ?_)
   clear hK K
   refine norm_ (a' := ?_) ?_ ?_
   rotate_left
   ·show Act.put _ (some 8) _ = _
    simp only [Act.put, List.setIfInBounds_toArray, List.set_cons_zero, List.set_cons_succ, i64_w, i32_w]
    rfl
   refine pu_ (i := 5) (N := some 9) HT_.out (fl 37 63) (by kernel_rfl) ?_
   refine pu_ (i := 6) (N := some 10) HT_.out (fl 37 127) (by kernel_rfl) ?_
   refine pn_ (i := 7) (N := some 11) HT_.out (fl 37 255) (by kernel_rfl) ?_
   refine pn_ (i := 8) (N := some 12) HT_.out (fl 37 511) (by kernel_rfl) ?_
   refine pn_ (i := 9) (N := some 13) HT_.out (fl 37 1023) (by kernel_rfl) ?_
   refine pn_ (i := 10) (N := some 14) HT_.out (fl 37 2047) (by kernel_rfl) ?_
   refine pn_ (i := 11) (N := some 15) HT_.out (fl 37 4095) (by kernel_rfl) ?_
   refine pn_ (i := 12) (N := some 16) HT_.out (fl 37 8191) (by kernel_rfl) ?_
   refine pu_ (i := 13) (N := some 17) HT_.out (fl 37 16383) (by kernel_rfl) ?_
   refine pu_ (i := 14) (N := some 18) HT_.out (fl 37 32767) (by kernel_rfl) ?_
   refine pn_ (i := 15) (N := some 19) HT_.out (fl 37 65535) (by kernel_rfl) ?_
   refine pn_ (i := 16) (N := some 20) HT_.out (fl 37 131071) (by kernel_rfl) ?_
   refine pn_ (i := 17) (N := some 21) HT_.out (fl 37 262143) (by kernel_rfl) ?_
   refine pn_ (i := 18) (N := some 22) HT_.out (fl 37 524287) (by kernel_rfl) ?_
   refine pn_ (i := 19) (N := some 23) HT_.out (fl 37 1048575) (by kernel_rfl) ?_
   refine pn_ (i := 20) (N := some 24) HT_.out (fl 37 2097151) (by kernel_rfl) ?_
   refine pn_ (i := 21) (N := some 25) HT_.out (fl 37 4194303) (by kernel_rfl) ?_
   refine pn_ (i := 22) (N := some 26) HT_.out (fl 37 8388607) (by kernel_rfl) ?_
   refine pn_ (i := 23) (N := some 27) HT_.out (fl 37 16777215) (by kernel_rfl) ?_
   refine pn_ (i := 24) (N := some 28) HT_.out (fl 37 33554431) (by kernel_rfl) ?_
   refine pn_ (i := 25) (N := some 29) HT_.out (fl 37 67108863) (by kernel_rfl) ?_
   refine pn_ (i := 26) (N := some 30) HT_.out (fl 37 134217727) (by kernel_rfl) ?_
   refine pu_ (i := 27) (N := some 31) HT_.out (fl 37 268435455) (by kernel_rfl) ?_
   refine pu_ (i := 28) (N := some 32) HT_.out (fl 37 536870911) (by kernel_rfl) ?_
   refine pn_ (i := 29) (N := some 33) HT_.out (fl 37 1073741823) (by kernel_rfl) ?_
   refine pn_ (i := 30) (N := some 34) HT_.out (fl 37 2147483647) (by kernel_rfl) ?_
   refine pn_ (i := 31) (N := some 35) HT_.out (fl 37 4294967295) (by kernel_rfl) ?_
   refine pn_ (i := 32) (N := some 36) HT_.out (fl 37 8589934591) (by kernel_rfl) ?_
   refine pn_ (i := 33) (N := some 37) HT_.out (fl 37 17179869183) (by kernel_rfl) ?_
   refine pn_ (i := 34) (N := some 38) HT_.out (fl 37 34359738367) (by kernel_rfl) ?_
   refine pn_ (i := 35) (N := some 39) HT_.out (fl 37 68719476735) (by kernel_rfl) ?_
   refine pu_ (i := 36) (N := some 40) HT_.out (fl 37 137438953471) (by kernel_rfl) ?_
   refine done_ (done_of HT_.out (by kernel_rfl)) ?_
   try go_wp2
   go_meet
   case rel => exact ⟨_, (true), (by first | rfl | (simp; done) | (simp [*]; done)), H', ⟨by first | omega | exact Nat.le_refl _⟩, ⟨by (with_reducible repeat (first | refine blk_drewN ?_ _ | refine blk_drew ?_ | refine blk_alloc ?_ _)); exact BK50.out⟩, ⟨by repeat (first | (with_reducible first | exact HB.out | apply below_alloc | apply pw_below_drewN | apply below_drew1 | refine below_set ?_ GE50.out) | exact HB.out)⟩⟩
 case rest =>
  clear HC2
  try clear p2
  try clear c4
  try clear c6
  try clear c8
  obtain ⟨kq, x40_1, rfl, HA, HJ1, BK50, HB⟩ := hcut
  cases kq with
  | zero => exact absurd HA.out (by simp [spec_l07Ok.j0])
  | succ kj1 =>
   have H := HA.out
   clear HA
   simp only [spec_l07Ok.j0] at H
   by_cases c16 : x40_1 = true
   ·subst c16
    have H1 : (some false) = some r := by rw [if_pos rfl] at H; exact H
    clear H
    have H := H1
    clear H1
    obtain rfl := Option.some.inj H
    go_wp2
    go_ret
    exact ⟨by first | rfl | (simp [errW_none, errW_some] <;> rfl) | (simp [*, errW_none, errW_some] <;> rfl), by repeat (first | (with_reducible first | exact HB.out | apply below_alloc | apply pw_below_drewN | apply below_drew1 | refine below_set ?_ GE50.out) | exact HB.out)⟩
   ·replace c16 := Bool.eq_false_iff.mpr c16
    subst c16
    have H1 : (spec_l07Ok.l0 kj1 0 a0_0 a0_1 l0_2) = some r := by rw [if_neg (show ¬ (false = true) by decide)] at H; exact H
    clear H
    have H := H1
    clear H1
    have H' := Aside0.mk H
    clear H
    go_wp2
    go_loopg [3] kj1 (fun kq v3 w' => ∃ (x3_2 : Int), v3 = .int .i64 x3_2 ∧ Aside0 (spec_l07Ok.l0 kq x3_2 a0_0 a0_1 l0_2 = some r) ∧ Aside0 (kq ≤ kj1) ∧ Aside0 (w'.heap[gb0]? = some (.cells #[.int .i64 a0_0, .int .i64 a0_1, (.slice A0_2 l0_2.length c0_2)] 33 (0, 0))) ∧ Aside0 (Below w.heap.size w w'))
    case atStart => exact ⟨(0), (by first | rfl | (simp; done) | (simp [*]; done)), H', ⟨Nat.le_refl _⟩, ⟨by (with_reducible repeat (first | refine blk_drewN ?_ _ | refine blk_drew ?_ | refine blk_alloc ?_ _)); exact BK50.out⟩, ⟨by repeat (first | (with_reducible first | exact HB.out | apply below_alloc | apply pw_below_drewN | apply below_drew1 | refine below_set ?_ GE50.out) | exact HB.out)⟩⟩
    case round =>
     clear H'
     try clear c1
     try clear p2
     try clear c4
     try clear c6
     try clear c8
     try clear c16
     try clear p2
     obtain ⟨x3_2, rfl, HA, HK2, BK50, HB⟩ := hrel
     cases gk with
     | zero => exact absurd HA.out (by simp [spec_l07Ok.l0])
     | succ k2 =>
      have H := HA.out
      clear HA
      simp only [spec_l07Ok.l0] at H
      by_cases c17 : x3_2 < (l0_2.length : Int)
      ·rw [if_pos c17] at H
       have c17b0 : decide (x3_2 < (l0_2.length : Int)) = true := decide_eq_true c17
       clear c17
       by_cases c18 : 0 ≤ x3_2
       ·rw [if_pos c18] at H
        have c18b0 : decide (0 ≤ x3_2) = true := decide_eq_true c18
        clear c18
        replace H := Option.bind_eq_some_iff.mp H
        obtain ⟨t105, A190, H⟩ := H
        replace H : (if t105 = true then (spec_l07Ok.l0 k2 (wrap64 (x3_2 + 1)) a0_0 a0_1 l0_2) else (some false)) = some r := H
        have A19 := Aside0.mk A190
        clear A190
        by_cases c20 : t105 = true
        ·subst c20
         have H1 : (spec_l07Ok.l0 k2 (wrap64 (x3_2 + 1)) a0_0 a0_1 l0_2) = some r := by rw [if_pos rfl] at H; exact H
         clear H
         have H := H1
         clear H1
         have H' := Aside0.mk H
         clear H
         have hcz21_0 : wr.cell? ⟨gb0, 0, none⟩ = some (.int .i64 a0_0) := (blk_cell BK50.out 0).trans rfl
         have hcz21_1 : wr.cell? ⟨gb0, 1, none⟩ = some (.int .i64 a0_1) := (blk_cell BK50.out 1).trans rfl
         have hcz21_2 : wr.cell? ⟨gb0, 2, none⟩ = some (.slice A0_2 l0_2.length c0_2) := (blk_cell BK50.out 2).trans rfl
         have hfz21_0 := blk_frozen BK50.out 0
         have hfz21_1 := blk_frozen BK50.out 1
         have hfz21_2 := blk_frozen BK50.out 2
         have p104 : 0 ≤ (x3_2 : Int) := of_decide_eq_true (by first | (with_reducible assumption) | assumption)
         have q104 : x3_2 < (l0_2.length : Int) := of_decide_eq_true (by first | (with_reducible assumption) | assumption)
         obtain ⟨ad104, e104, hx104_0⟩ := Kd.at_int HR0_2.out x3_2 p104 q104
         cases e104
         replace hx104_0 := (HB.out.cell (World.block_lt_of_cell? w _ hx104_0)).trans hx104_0
         replace p104 := eq_true p104
         replace q104 := eq_true q104
         go_wp2_with (first | ((with_reducible refine gate_callee (f := 44) rfl ?_); refine goesL_ (some 57) rfl rfl Try.func44 (by kernel_rfl) rfl #[.int .i64 (rd l0_2 x3_2), .int .i64 0, .int .i64 100000] rfl am_ ?_; (with_reducible refine (spec_l00In.calls (rd l0_2 x3_2) 0 100000 true _ A19.out).mono ?_); rintro e w' ⟨rfl, ⟨nd, rfl⟩⟩; refine ⟨_, rfl, ?_⟩))
         go_roundg k2
         case measure => have := HJ1.out; have := HK2.out; omega
         case rel => exact ⟨(wrap64 (x3_2 + 1)), (by first | rfl | (simp; done) | (simp [*]; done)), H', ⟨by have := HJ1.out; have := HK2.out; omega⟩, ⟨by (with_reducible repeat (first | refine blk_drewN ?_ _ | refine blk_drew ?_ | refine blk_alloc ?_ _)); exact BK50.out⟩, ⟨by repeat (first | (with_reducible first | exact HB.out | apply below_alloc | apply pw_below_drewN | apply below_drew1 | refine below_set ?_ GE50.out) | exact HB.out)⟩⟩
        ·replace c20 := Bool.eq_false_iff.mpr c20
         subst c20
         have H1 : (some false) = some r := by rw [if_neg (show ¬ (false = true) by decide)] at H; exact H
         clear H
         have H := H1
         clear H1
         obtain rfl := Option.some.inj H
         have hcz22_0 : wr.cell? ⟨gb0, 0, none⟩ = some (.int .i64 a0_0) := (blk_cell BK50.out 0).trans rfl
         have hcz22_1 : wr.cell? ⟨gb0, 1, none⟩ = some (.int .i64 a0_1) := (blk_cell BK50.out 1).trans rfl
         have hcz22_2 : wr.cell? ⟨gb0, 2, none⟩ = some (.slice A0_2 l0_2.length c0_2) := (blk_cell BK50.out 2).trans rfl
         have hfz22_0 := blk_frozen BK50.out 0
         have hfz22_1 := blk_frozen BK50.out 1
         have hfz22_2 := blk_frozen BK50.out 2
         have p104 : 0 ≤ (x3_2 : Int) := of_decide_eq_true (by first | (with_reducible assumption) | assumption)
         have q104 : x3_2 < (l0_2.length : Int) := of_decide_eq_true (by first | (with_reducible assumption) | assumption)
         obtain ⟨ad104, e104, hx104_0⟩ := Kd.at_int HR0_2.out x3_2 p104 q104
         cases e104
         replace hx104_0 := (HB.out.cell (World.block_lt_of_cell? w _ hx104_0)).trans hx104_0
         replace p104 := eq_true p104
         replace q104 := eq_true q104
         go_wp2_with (first | ((with_reducible refine gate_callee (f := 44) rfl ?_); refine goesL_ (some 57) rfl rfl Try.func44 (by kernel_rfl) rfl #[.int .i64 (rd l0_2 x3_2), .int .i64 0, .int .i64 100000] rfl am_ ?_; (with_reducible refine (spec_l00In.calls (rd l0_2 x3_2) 0 100000 false _ A19.out).mono ?_); rintro e w' ⟨rfl, ⟨nd, rfl⟩⟩; refine ⟨_, rfl, ?_⟩))
         go_ret
         exact ⟨by first | rfl | (simp [errW_none, errW_some] <;> rfl) | (simp [*, errW_none, errW_some] <;> rfl), by repeat (first | (with_reducible first | exact HB.out | apply below_alloc | apply pw_below_drewN | apply below_drew1 | refine below_set ?_ GE50.out) | exact HB.out)⟩
       ·rw [if_neg c18] at H
        exact absurd H (by simp)
      ·rw [if_neg c17] at H
       have c17b0 : decide (x3_2 < (l0_2.length : Int)) = false := decide_eq_false c17
       clear c17
       replace H := Option.bind_eq_some_iff.mp H
       obtain ⟨t106, A230, H⟩ := H
       replace H : (some t106) = some r := H
       have A23 := Aside0.mk A230
       clear A230
       obtain rfl := Option.some.inj H
       have hcz24_0 : wr.cell? ⟨gb0, 0, none⟩ = some (.int .i64 a0_0) := (blk_cell BK50.out 0).trans rfl
       have hcz24_1 : wr.cell? ⟨gb0, 1, none⟩ = some (.int .i64 a0_1) := (blk_cell BK50.out 1).trans rfl
       have hcz24_2 : wr.cell? ⟨gb0, 2, none⟩ = some (.slice A0_2 l0_2.length c0_2) := (blk_cell BK50.out 2).trans rfl
       have hfz24_0 := blk_frozen BK50.out 0
       have hfz24_1 := blk_frozen BK50.out 1
       have hfz24_2 := blk_frozen BK50.out 2
       go_wp2_with (first | ((with_reducible refine gate_callee (f := 50) rfl ?_); refine goesL_ (some 63) rfl rfl Try.func50 (by kernel_rfl) rfl #[.slice A0_2 l0_2.length c0_2] rfl am_ ?_; (with_reducible refine (spec_l07Meets.calls k2 _ _ l0_2 t106 _ ?side1 ?side2 A23.out).mono ?_); (case side1 => repeat (first | exact (Kd.C_below HR0_2.out HB.out) | (with_reducible refine Kd.C_alloc ?_ _) | (with_reducible refine Kd.C_drewN ?_ _) | (with_reducible refine Kd.C_drew ?_))); (case side2 => exact HC0_2.out); rintro e w' ⟨rfl, ⟨nd, rfl⟩⟩; refine ⟨_, rfl, ?_⟩))
       go_ret
       exact ⟨by first | rfl | (simp [errW_none, errW_some] <;> rfl) | (simp [*, errW_none, errW_some] <;> rfl), by repeat (first | (with_reducible first | exact HB.out | apply below_alloc | apply pw_below_drewN | apply below_drew1 | refine below_set ?_ GE50.out) | exact HB.out)⟩
end Go.Proofs.Ytmniekgnpppbhaa.F
end
