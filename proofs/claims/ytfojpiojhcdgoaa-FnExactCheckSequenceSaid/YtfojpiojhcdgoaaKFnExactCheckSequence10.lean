/- Words, walks and laws that the proof of FnExactCheckSequence stands on, each under its own conditions alone. -/
import Derived.Test.YtfojpiojhcdgoaaKFnExactCheckSequence02
import Derived.Test.YtfojpiojhcdgoaaKFnExactCheckSequence08
import Derived.Test.YtfojpiojhcdgoaaKFnExactCheckSequence09
section
namespace Go.Proofs.Ytfojpiojhcdgoaa.F
open Go.RowKit Go.Proofs.YtfojpiojhcdgoaaW.PrintWords Go.Proofs.YtfojpiojhcdgoaaW.PrintLast Go.Proofs.YtfojpiojhcdgoaaW.PrintMore
attribute [local go_sem] max2_int min2_int max_two min_two max_three min_three max_four min_four
set_option linter.unusedVariables false
set_option linter.unusedSimpArgs false
mutual
def spec_l01Ok.l0 : Nat → Int → Int → List (List Int) → Option (Bool)
 | 0, _, _, _ => none
 | k + 1, x3, x51000, x51001 => if x3 < (x51001.length : Int) then (if 0 ≤ x3 then ((spec_l01Group.f k x51000 (rd_L1 x51001 x3)).bind fun t103 => (if t103 = true then (if x3 > 0 then (if 0 ≤ (wrap64 (x3 - 1)) then (if (wrap64 (x3 - 1)) < (x51001.length : Int) then ((spec_l01Before.f k (rd_L1 x51001 (wrap64 (x3 - 1))) (rd_L1 x51001 x3)).bind fun t106 => (if t106 = true then (spec_l01Ok.l0 k (wrap64 (x3 + 1)) x51000 x51001) else (some false))) else (none)) else (none)) else (spec_l01Ok.l0 k (wrap64 (x3 + 1)) x51000 x51001)) else (some false))) else (none)) else (spec_l01Ok.l1 k 0 x51000 x51001)
def spec_l01Ok.l1 : Nat → Int → Int → List (List Int) → Option (Bool)
 | 0, _, _, _ => none
 | k + 1, x4, x51000, x51001 => if x4 < (x51001.length : Int) then (spec_l01Ok.l2 k x4 0 x51000 x51001) else (some true)
def spec_l01Ok.l2 : Nat → Int → Int → Int → List (List Int) → Option (Bool)
 | 0, _, _, _, _ => none
 | k + 1, x4, x5, x51000, x51001 => if x5 < (x51001.length : Int) then (if x4 = x5 then (spec_l01Ok.l2 k x4 (wrap64 (x5 + 1)) x51000 x51001) else (if 0 ≤ x4 then (if x4 < (x51001.length : Int) then (if 0 ≤ x5 then ((spec_l01Within.f k (rd_L1 x51001 x4) (rd_L1 x51001 x5)).bind fun t109 => (if t109 = true then (some false) else (spec_l01Ok.l2 k x4 (wrap64 (x5 + 1)) x51000 x51001))) else (none)) else (none)) else (none))) else (spec_l01Ok.l1 k (wrap64 (x4 + 1)) x51000 x51001)
end
def spec_l01Ok.f (k : Nat) (a0_0 : Int) (l0_1 : List (List Int)) : Option (Bool) := (spec_l00In.f a0_0 1 7).bind fun t101 => (if t101 = true then (spec_l01Ok.l0 k 0 a0_0 l0_1) else (some false))
theorem spec_l01Ok.mono_l : ∀ k, (∀ y0 y1 y2, LeO (spec_l01Ok.l0 k y0 y1 y2) (spec_l01Ok.l0 (k + 1) y0 y1 y2)) ∧ (∀ y0 y1 y2, LeO (spec_l01Ok.l1 k y0 y1 y2) (spec_l01Ok.l1 (k + 1) y0 y1 y2)) ∧ (∀ y0 y1 y2 y3, LeO (spec_l01Ok.l2 k y0 y1 y2 y3) (spec_l01Ok.l2 (k + 1) y0 y1 y2 y3))
 | 0 => ⟨fun _ _ _ r h => by simp [spec_l01Ok.l0] at h, fun _ _ _ r h => by simp [spec_l01Ok.l1] at h, fun _ _ _ _ r h => by simp [spec_l01Ok.l2] at h⟩
 | k + 1 => by
  obtain ⟨ih0, ih1, ih2⟩ := spec_l01Ok.mono_l k
  refine ⟨?_, ?_, ?_⟩
  ·intro y0 y1 y2
   unfold spec_l01Ok.l0
   repeat' first
   | (with_reducible exact ih0 _ _ _)
   | (with_reducible exact ih1 _ _ _)
   | (with_reducible exact ih2 _ _ _ _)
   | (with_reducible exact spec_l01Before.mono _ _ _)
   | (with_reducible exact spec_l01Group.mono _ _ _)
   | (with_reducible exact spec_l01Within.mono _ _ _)
   | (with_reducible exact LeO.refl _)
   | (with_reducible exact LeO.none _)
   | (with_reducible refine LeO.ite ?_ ?_)
   | (with_reducible refine LeO.bind ?_ (fun _ => ?_))
   | exact ih0 _ _ _
   | exact ih1 _ _ _
   | exact ih2 _ _ _ _
   | exact spec_l01Before.mono _ _ _
   | exact spec_l01Group.mono _ _ _
   | exact spec_l01Within.mono _ _ _
   | exact LeO.none _
   | refine LeO.ite ?_ ?_
   | refine LeO.bind ?_ (fun _ => ?_)
  ·intro y0 y1 y2
   unfold spec_l01Ok.l1
   repeat' first
   | (with_reducible exact ih0 _ _ _)
   | (with_reducible exact ih1 _ _ _)
   | (with_reducible exact ih2 _ _ _ _)
   | (with_reducible exact spec_l01Before.mono _ _ _)
   | (with_reducible exact spec_l01Group.mono _ _ _)
   | (with_reducible exact spec_l01Within.mono _ _ _)
   | (with_reducible exact LeO.refl _)
   | (with_reducible exact LeO.none _)
   | (with_reducible refine LeO.ite ?_ ?_)
   | (with_reducible refine LeO.bind ?_ (fun _ => ?_))
   | exact ih0 _ _ _
   | exact ih1 _ _ _
   | exact ih2 _ _ _ _
   | exact spec_l01Before.mono _ _ _
   | exact spec_l01Group.mono _ _ _
   | exact spec_l01Within.mono _ _ _
   | exact LeO.none _
   | refine LeO.ite ?_ ?_
   | refine LeO.bind ?_ (fun _ => ?_)
  ·intro y0 y1 y2 y3
   unfold spec_l01Ok.l2
   repeat' first
   | (with_reducible exact ih0 _ _ _)
   | (with_reducible exact ih1 _ _ _)
   | (with_reducible exact ih2 _ _ _ _)
   | (with_reducible exact spec_l01Before.mono _ _ _)
   | (with_reducible exact spec_l01Group.mono _ _ _)
   | (with_reducible exact spec_l01Within.mono _ _ _)
   | (with_reducible exact LeO.refl _)
   | (with_reducible exact LeO.none _)
   | (with_reducible refine LeO.ite ?_ ?_)
   | (with_reducible refine LeO.bind ?_ (fun _ => ?_))
   | exact ih0 _ _ _
   | exact ih1 _ _ _
   | exact ih2 _ _ _ _
   | exact spec_l01Before.mono _ _ _
   | exact spec_l01Group.mono _ _ _
   | exact spec_l01Within.mono _ _ _
   | exact LeO.none _
   | refine LeO.ite ?_ ?_
   | refine LeO.bind ?_ (fun _ => ?_)
theorem spec_l01Ok.mono : ∀ a0 a1 k, LeO (spec_l01Ok.f k a0 a1) (spec_l01Ok.f (k + 1) a0 a1) := by
 intro a0 a1 k
 obtain ⟨ih0, ih1, ih2⟩ := spec_l01Ok.mono_l k
 unfold spec_l01Ok.f
 repeat' first
   | (with_reducible exact ih0 _ _ _)
   | (with_reducible exact ih1 _ _ _)
   | (with_reducible exact ih2 _ _ _ _)
   | (with_reducible exact spec_l01Before.mono _ _ _)
   | (with_reducible exact spec_l01Group.mono _ _ _)
   | (with_reducible exact spec_l01Within.mono _ _ _)
   | (with_reducible exact LeO.refl _)
   | (with_reducible exact LeO.none _)
   | (with_reducible refine LeO.ite ?_ ?_)
   | (with_reducible refine LeO.bind ?_ (fun _ => ?_))
   | exact ih0 _ _ _
   | exact ih1 _ _ _
   | exact ih2 _ _ _ _
   | exact spec_l01Before.mono _ _ _
   | exact spec_l01Group.mono _ _ _
   | exact spec_l01Within.mono _ _ _
   | exact LeO.none _
   | refine LeO.ite ?_ ?_
   | refine LeO.bind ?_ (fun _ => ?_)
def spec_l01Ok.T6 : Bool × List (List Nat × List Nat) := (true, [([], []), ([0], [0]), ([1], [1]), ([2], [2]), ([], []), ([4], [4]), ([5], [5]), ([6], [6]), ([], []), ([7, 8], [7, 8]), ([9], [9]), ([3, 10], [3, 10]), ([11], [11]), ([12, 11], [12]), ([13], [13]), ([14, 13], [13, 14]), ([15, 13, 13], [13, 15]), ([16], [16]), ([17, 16], [16, 17]), ([18, 16], [16, 18]), ([19, 16], [16, 19]), ([16], [16]), ([21, 16], [16, 21]), ([20, 22, 16], [16, 20, 22]), ([23, 16], [16, 23]), ([16], [16]), ([25, 16], [16, 25]), ([26, 16], [16, 26]), ([27, 16], [16, 27]), ([16], [16]), ([28, 29, 16], [16, 28, 29]), ([30, 16], [16, 30]), ([24, 31, 16, 16], [16, 24, 31]), ([32, 16], [16, 32]), ([16, 33, 13], [13, 16, 33]), ([13, 34], [13, 34])])
def spec_l01Ok.B6 : List Nat := [0, 1, 3, 7, 0, 16, 48, 112, 0, 496, 1008, 2047, 4095, 8191, 16383, 32767, 65535, 131071, 262143, 524287, 1048575, 131071, 2228223, 8388607, 16777215, 131071, 33685503, 100794367, 235012095, 131071, 1040318463, 2114060287, 4294967295, 8589934591, 17179869183, 34359738367]
theorem spec_l01Ok.tab6 : rtab .any (opsOf Try.f148 6) = spec_l01Ok.T6 := by kernel_rfl
theorem spec_l01Ok.bits6 : waitsOk spec_l01Ok.T6.2 spec_l01Ok.B6 = true := by kernel_rfl
def spec_l01Ok.T14 : Bool × List (List Nat × List Nat) := (true, [([], []), ([], []), ([0, 1], [0, 1]), ([2], [2]), ([3], [3]), ([4, 3], [3, 4]), ([5, 3], [3, 5]), ([6, 3], [3, 6]), ([3], [3]), ([7, 8, 3], [3, 7, 8]), ([9, 3], [3, 9]), ([3], [3]), ([11, 3], [3, 11]), ([12, 3], [3, 12]), ([13, 3], [3, 13]), ([3], [3]), ([14, 15, 3], [3, 14, 15]), ([16, 3], [3, 16]), ([10, 17, 3, 3], [3, 10, 17]), ([3, 18], [3, 18])])
def spec_l01Ok.B14 : List Nat := [0, 0, 3, 7, 15, 31, 63, 127, 15, 511, 1023, 15, 2063, 6159, 14351, 15, 63503, 129039, 262143, 524287]
theorem spec_l01Ok.tab14 : rtab .any (opsOf Try.f148 14) = spec_l01Ok.T14 := by kernel_rfl
theorem spec_l01Ok.bits14 : waitsOk spec_l01Ok.T14.2 spec_l01Ok.B14 = true := by kernel_rfl
set_option maxHeartbeats 8000000 in
set_option maxRecDepth 100000 in
theorem spec_l01Ok.calls (k : Nat) (gb0 : Nat) (a0_0 : Int) (A0_1 : Option Addr) (c0_1 : Nat) (l0_1 : List (List Int)) (r : Bool) (w : World) (hr0_1 : Kd.C (Kd.slice 2 (Kd.int .i64)) w A0_1 l0_1.length l0_1) (hc0_1 : l0_1.length ≤ c0_1) (hgb0_ : w.heap[gb0]? = some (.cells #[.int .i64 a0_0, .slice A0_1 l0_1.length c0_1] 32 (0, 0))) (h : spec_l01Ok.f k a0_0 l0_1 = some r) :
  Calls Try.prog 148 #[.pointer (some ⟨gb0, 0, none⟩)] w fun e w' => e = .returned (.bool r) ∧ Below w.heap.size w w' := by
 have HR0_1 := Aside0.mk hr0_1
 have HC0_1 := Aside0.mk hc0_1
 clear hr0_1 hc0_1
 have BK50 := Aside0.mk hgb0_
 clear hgb0_
 have HB := Aside0.mk (Below.refl w.heap.size w)
 have H : ((spec_l00In.f a0_0 1 7).bind fun t101 => (if t101 = true then (spec_l01Ok.l0 k 0 a0_0 l0_1) else (some false))) = some r := h
 clear h
 replace H := Option.bind_eq_some_iff.mp H
 obtain ⟨t101, A20, H⟩ := H
 replace H : (if t101 = true then (spec_l01Ok.l0 k 0 a0_0 l0_1) else (some false)) = some r := H
 have A2 := Aside0.mk A20
 clear A20
 by_cases c3 : t101 = true
 ·subst c3
  have H1 : (spec_l01Ok.l0 k 0 a0_0 l0_1) = some r := by rw [if_pos rfl] at H; exact H
  clear H
  have H := H1
  clear H1
  have H' := Aside0.mk H
  clear H
  have hcz4_0 : w.cell? ⟨gb0, 0, none⟩ = some (.int .i64 a0_0) := (blk_cell BK50.out 0).trans rfl
  have hcz4_1 : w.cell? ⟨gb0, 1, none⟩ = some (.slice A0_1 l0_1.length c0_1) := (blk_cell BK50.out 1).trans rfl
  have hfz4_0 := blk_frozen BK50.out 0
  have hfz4_1 := blk_frozen BK50.out 1
  go_enter Try.func148, Try.ntmps148
  go_wp2_with (first | ((with_reducible refine gate_callee (f := 128) rfl ?_); refine goesL_ (some 10) rfl rfl Try.func128 (by kernel_rfl) rfl #[.int .i64 a0_0, .int .i64 1, .int .i64 7] rfl (by (try simp only [List.map_toArray, List.map_cons, List.map_nil]); first | done | rfl | (simp only [List.length_drop, List.length_take]; rfl)) ?_; (with_reducible refine (spec_l00In.calls a0_0 1 7 true _ A2.out).mono ?_); rintro e w' ⟨rfl, ⟨nd, rfl⟩⟩; refine ⟨_, rfl, ?_⟩))
  go_loopg [3] k (fun kq v3 w' => ∃ (x3_1 : Int), v3 = .int .i64 x3_1 ∧ Aside0 (spec_l01Ok.l0 kq x3_1 a0_0 l0_1 = some r) ∧ Aside0 (kq ≤ k) ∧ Aside0 (w'.heap[gb0]? = some (.cells #[.int .i64 a0_0, (.slice A0_1 l0_1.length c0_1)] 32 (0, 0))) ∧ Aside0 (Below w.heap.size w w'))
  case atStart => exact ⟨(0), (by first | rfl | (simp; done) | (simp [*]; done)), H', ⟨Nat.le_refl _⟩, ⟨by (with_reducible repeat (first | refine blk_drewN ?_ _ | refine blk_drew ?_ | refine blk_alloc ?_ _)); exact BK50.out⟩, ⟨by repeat (first | (with_reducible first | exact HB.out | apply below_alloc | apply pw_below_drewN | apply below_drew1 | refine below_set ?_ GE50.out) | exact HB.out)⟩⟩
  case round =>
   clear H'
   try clear c1
   try clear p2
   try clear c3
   try clear hcz4_0
   try clear hcz4_1
   try clear hfz4_0
   try clear hfz4_1
   obtain ⟨x3_1, rfl, HA, HK1, BK50, HB⟩ := hrel
   cases gk with
   | zero => exact absurd HA.out (by simp [spec_l01Ok.l0])
   | succ k1 =>
    have H := HA.out
    clear HA
    simp only [spec_l01Ok.l0] at H
    by_cases c5 : x3_1 < (l0_1.length : Int)
    ·rw [if_pos c5] at H
     have c5b0 : decide (x3_1 < (l0_1.length : Int)) = true := decide_eq_true c5
     clear c5
     by_cases c6 : 0 ≤ x3_1
     ·rw [if_pos c6] at H
      have c6b0 : decide (0 ≤ x3_1) = true := decide_eq_true c6
      clear c6
      replace H := Option.bind_eq_some_iff.mp H
      obtain ⟨t103, A70, H⟩ := H
      replace H : (if t103 = true then (if x3_1 > 0 then (if 0 ≤ (wrap64 (x3_1 - 1)) then (if (wrap64 (x3_1 - 1)) < (l0_1.length : Int) then ((spec_l01Before.f k1 (rd_L1 l0_1 (wrap64 (x3_1 - 1))) (rd_L1 l0_1 x3_1)).bind fun t106 => (if t106 = true then (spec_l01Ok.l0 k1 (wrap64 (x3_1 + 1)) a0_0 l0_1) else (some false))) else (none)) else (none)) else (spec_l01Ok.l0 k1 (wrap64 (x3_1 + 1)) a0_0 l0_1)) else (some false)) = some r := H
      have A7 := Aside0.mk A70
      clear A70
      by_cases c8 : t103 = true
      ·subst c8
       have H1 : (if x3_1 > 0 then (if 0 ≤ (wrap64 (x3_1 - 1)) then (if (wrap64 (x3_1 - 1)) < (l0_1.length : Int) then ((spec_l01Before.f k1 (rd_L1 l0_1 (wrap64 (x3_1 - 1))) (rd_L1 l0_1 x3_1)).bind fun t106 => (if t106 = true then (spec_l01Ok.l0 k1 (wrap64 (x3_1 + 1)) a0_0 l0_1) else (some false))) else (none)) else (none)) else (spec_l01Ok.l0 k1 (wrap64 (x3_1 + 1)) a0_0 l0_1)) = some r := by rw [if_pos rfl] at H; exact H
       clear H
       have H := H1
       clear H1
       by_cases c9 : x3_1 > 0
       ·rw [if_pos c9] at H
        have c9b0 : decide (0 < x3_1) = true := decide_eq_true c9
        clear c9
        obtain ⟨ji10, hji10⟩ : ∃ j_ : Int, (wrap64 (x3_1 - 1)) = j_ := ⟨_, rfl⟩
        replace H : (if 0 ≤ (ji10) then (if (ji10) < (l0_1.length : Int) then ((spec_l01Before.f k1 (rd_L1 l0_1 (ji10)) (rd_L1 l0_1 x3_1)).bind fun t106 => (if t106 = true then (spec_l01Ok.l0 k1 (wrap64 (x3_1 + 1)) a0_0 l0_1) else (some false))) else (none)) else (none)) = some r := by first | (rw [hji10] at H; exact H) | (simp only [hji10] at H ⊢; exact H)
        (try rw [hji10] at A7)
        have hji10w : (IntKind.i64.wrap (x3_1 - 1)) = ji10 := (i64_w _).trans hji10
        by_cases c11 : 0 ≤ (ji10)
        ·rw [if_pos c11] at H
         have c11b0 : decide (0 ≤ (ji10)) = true := decide_eq_true c11
         clear c11
         by_cases c12 : (ji10) < (l0_1.length : Int)
         ·rw [if_pos c12] at H
          have c12b0 : decide ((ji10) < (l0_1.length : Int)) = true := decide_eq_true c12
          clear c12
          replace H := Option.bind_eq_some_iff.mp H
          obtain ⟨t106, A130, H⟩ := H
          replace H : (if t106 = true then (spec_l01Ok.l0 k1 (wrap64 (x3_1 + 1)) a0_0 l0_1) else (some false)) = some r := H
          have A13 := Aside0.mk A130
          clear A130
          by_cases c14 : t106 = true
          ·subst c14
           have H1 : (spec_l01Ok.l0 k1 (wrap64 (x3_1 + 1)) a0_0 l0_1) = some r := by rw [if_pos rfl] at H; exact H
           clear H
           have H := H1
           clear H1
           have H' := Aside0.mk H
           clear H
           have hcz15_0 : wr.cell? ⟨gb0, 0, none⟩ = some (.int .i64 a0_0) := (blk_cell BK50.out 0).trans rfl
           have hcz15_1 : wr.cell? ⟨gb0, 1, none⟩ = some (.slice A0_1 l0_1.length c0_1) := (blk_cell BK50.out 1).trans rfl
           have hfz15_0 := blk_frozen BK50.out 0
           have hfz15_1 := blk_frozen BK50.out 1
           try go_wp2
           have n0_ := Aside0.mk (blk_drew BK50.out)
           have n1_ := Aside0.mk (below_drew1 HB.out)
           clear BK50
           clear HB
           have BK50 := n0_
           have HB := n1_
           clear n0_ n1_
           have p102 : 0 ≤ (x3_1 : Int) := of_decide_eq_true (by first | (with_reducible assumption) | assumption)
           have q102 : x3_1 < (l0_1.length : Int) := of_decide_eq_true (by first | (with_reducible assumption) | assumption)
           obtain ⟨ad102, A102_0, c102_0, e102, hx102_0, hl102_0, hi102_0⟩ := at_L1 HR0_1.out x3_1 p102 q102
           have hw102_0 := hx102_0
           cases e102
           replace hx102_0 := (HB.out.cell (World.block_lt_of_cell? w _ hx102_0)).trans hx102_0
           have HR102_0 := Aside0.mk hi102_0
           have HC102_0 := Aside0.mk hl102_0
           clear hi102_0 hl102_0
           replace p102 := eq_true p102
           replace q102 := eq_true q102
           have p104 : 0 ≤ ((ji10) : Int) := of_decide_eq_true (by first | (with_reducible assumption) | assumption)
           have q104 : (ji10) < (l0_1.length : Int) := of_decide_eq_true (by first | (with_reducible assumption) | assumption)
           obtain ⟨ad104, A104_0, c104_0, e104, hx104_0, hl104_0, hi104_0⟩ := at_L1 HR0_1.out (ji10) p104 q104
           have hw104_0 := hx104_0
           obtain rfl : ad102 = ad104 := (by injection e104)
           replace hx104_0 := (HB.out.cell (World.block_lt_of_cell? w _ hx104_0)).trans hx104_0
           have HR104_0 := Aside0.mk hi104_0
           have HC104_0 := Aside0.mk hl104_0
           clear hi104_0 hl104_0
           replace p104 := eq_true p104
           replace q104 := eq_true q104
           have p105 : 0 ≤ (x3_1 : Int) := of_decide_eq_true (by first | (with_reducible assumption) | assumption)
           have q105 : x3_1 < (l0_1.length : Int) := of_decide_eq_true (by first | (with_reducible assumption) | assumption)
           obtain ⟨ad105, A105_0, c105_0, e105, hx105_0, hl105_0, hi105_0⟩ := at_L1 HR0_1.out x3_1 p105 q105
           have hw105_0 := hx105_0
           obtain rfl : ad102 = ad105 := (by injection e105)
           replace hx105_0 := (HB.out.cell (World.block_lt_of_cell? w _ hx105_0)).trans hx105_0
           have HR105_0 := Aside0.mk hi105_0
           have HC105_0 := Aside0.mk hl105_0
           clear hi105_0 hl105_0
           replace p105 := eq_true p105
           replace q105 := eq_true q105
           have ea_ := Option.some.inj (hx102_0.symm.trans hx105_0)
           injection ea_ with ea_ en_ ec_
           subst ea_
           subst ec_
           clear en_
           refine start_ (n := 36) (S := fun w' => w'.cell? ⟨gb0, 0, none⟩ = some (.int .i64 a0_0) ∧ w'.cell? ⟨gb0, 1, none⟩ = some (.slice (some ad102) l0_1.length c0_1) ∧ w'.cell? (ad102.add (x3_1).toNat) = some (.slice A102_0 (rd_L1 l0_1 x3_1).length c102_0) ∧ w'.cell? (ad102.add ((ji10)).toNat) = some (.slice A104_0 (rd_L1 l0_1 (ji10)).length c104_0) ∧ w'.cell? (ad102.add (x3_1).toNat) = some (.slice A102_0 (rd_L1 l0_1 x3_1).length c102_0)) (ds := []) (fl 36 0) (by kernel_rfl) rfl rfl ⟨(blk_cell BK50.out 0).trans rfl, (blk_cell BK50.out 1).trans rfl, ((HB.out.cell (World.block_lt_of_cell? w _ hw102_0)).trans hw102_0), ((HB.out.cell (World.block_lt_of_cell? w _ hw104_0)).trans hw104_0), ((HB.out.cell (World.block_lt_of_cell? w _ hw105_0)).trans hw105_0)⟩ (fun hHeld => ?_); refine with_tabW spec_l01Ok.tab6 spec_l01Ok.bits6 (fun HT_ HW_ => ?_)
           generalize wr.drew = w16 at BK50 HB HR102_0 HR104_0 HR105_0 hx102_0 hx104_0 hx105_0 hHeld ⊢
           refine pu_ (i := 0) (N := some 21) HT_.out (fl 36 1) (by kernel_rfl) ?_
           refine pu_ (i := 1) (N := some 22) HT_.out (fl 36 3) (by kernel_rfl) ?_
           refine pu_ (i := 2) (N := some 23) HT_.out (fl 36 7) (by kernel_rfl) ?_
           refine pu_ (i := 4) (N := some 25) HT_.out (fl 36 23) (by kernel_rfl) ?_
           refine pu_ (i := 5) (N := some 26) HT_.out (fl 36 55) (by kernel_rfl) ?_
           refine pu_ (i := 6) (N := some 27) HT_.out (fl 36 119) (by kernel_rfl) ?_
           refine pu_ (i := 8) (N := some 29) HT_.out (fl 36 375) (by kernel_rfl) ?_
           refine tk_ (i := 3) (N := some 24) HT_.out HW_.out (fl 36 383) (by kernel_rfl) hHeld ?_
           refine tk_ (i := 7) (N := some 28) HT_.out HW_.out (fl 36 511) (by kernel_rfl) hHeld ?_
           refine pu_ (i := 9) (N := some 30) HT_.out (fl 36 1023) (by kernel_rfl) ?_
           refine tk_ (i := 10) (N := some 31) HT_.out HW_.out (fl 36 2047) (by kernel_rfl) hHeld ?_
           refine one_ (i := 11) (N := some 32) (fl 36 4095) rfl rfl (one_of HT_.out (by kernel_rfl)) (by decide) (fun K hK => ?_)
           refine goes_ Try.func136 (by kernel_rfl) rfl #[.int .i64 a0_0, .slice A102_0 (rd_L1 l0_1 x3_1).length c102_0] (by rfl) rfl rfl (by (try simp only [List.map_toArray, List.map_cons, List.map_nil]); first | done | rfl | (simp only [List.length_drop, List.length_take]; rfl)) ?_
           with_reducible refine (spec_l01Group.calls k1 a0_0 _ _ (rd_L1 l0_1 x3_1) true _ ?side1 ?side2 A7.out).mono ?_
           (case side1 => repeat (first | exact (Kd.C_below HR102_0.out HB.out) | (with_reducible refine Kd.C_alloc ?_ _) | (with_reducible refine Kd.C_drewN ?_ _) | (with_reducible refine Kd.C_drew ?_)))
           (case side2 => exact HC102_0.out)
           rintro e w' ⟨rfl, ⟨nd, rfl⟩⟩
           refine ⟨_, rfl, ?_⟩
           refine hK.out _ _ ⟨(blk_cell BK50.out 0).trans rfl, (blk_cell BK50.out 1).trans rfl, ((HB.out.cell (World.block_lt_of_cell? w _ hw102_0)).trans hw102_0), ((HB.out.cell (World.block_lt_of_cell? w _ hw104_0)).trans hw104_0), ((HB.out.cell (World.block_lt_of_cell? w _ hw105_0)).trans hw105_0)⟩ (fun hHeld => ?_)
           clear hK K
           refine norm_ (a' := ?_) ?_ ?_
           rotate_left
           ·show Act.put _ (some 32) _ = _
            simp only [Act.put, List.setIfInBounds_toArray, List.set_cons_zero, List.set_cons_succ, i64_w, i32_w]
            rfl
           refine pu_ (i := 12) (N := some 33) HT_.out (fl 36 8191) (by kernel_rfl) ?_
           refine pu_ (i := 13) (N := some 34) HT_.out (fl 36 16383) (by kernel_rfl) ?_
           refine pu_ (i := 14) (N := some 35) HT_.out (fl 36 32767) (by kernel_rfl) ?_
           refine pu_ (i := 15) (N := some 36) HT_.out (fl 36 65535) (by kernel_rfl) ?_
           refine pu_ (i := 16) (N := some 37) HT_.out (fl 36 131071) (by kernel_rfl) ?_
           refine pu_ (i := 17) (N := some 38) HT_.out (fl 36 262143) (by kernel_rfl) ?_
           refine pu_ (i := 18) (N := some 39) HT_.out (fl 36 524287) (by kernel_rfl) ?_
           refine pu_ (i := 19) (N := some 40) HT_.out (fl 36 1048575) (by kernel_rfl) ?_
           refine pu_ (i := 21) (N := some 42) HT_.out (fl 36 3145727) (by kernel_rfl) ?_
           refine pu_ (i := 22) (N := some 43) HT_.out (fl 36 7340031) (by kernel_rfl) ?_
           refine pu_ (i := 25) (N := some 46) HT_.out (fl 36 40894463) (by kernel_rfl) ?_
           refine pu_ (i := 26) (N := some 47) HT_.out (fl 36 108003327) (by kernel_rfl) ?_
           refine pu_ (i := 27) (N := some 48) HT_.out (fl 36 242221055) (by kernel_rfl) ?_
           refine pu_ (i := 29) (N := some 50) HT_.out (fl 36 779091967) (by kernel_rfl) ?_
           refine tk_ (i := 20) (N := some 41) HT_.out HW_.out (fl 36 780140543) (by kernel_rfl) hHeld ?_
           refine pu_ (i := 23) (N := some 44) HT_.out (fl 36 788529151) (by kernel_rfl) ?_
           refine tk_ (i := 24) (N := some 45) HT_.out HW_.out (fl 36 805306367) (by kernel_rfl) hHeld ?_
           refine tk_ (i := 28) (N := some 49) HT_.out HW_.out (fl 36 1073741823) (by kernel_rfl) hHeld ?_
           refine pu_ (i := 30) (N := some 51) HT_.out (fl 36 2147483647) (by kernel_rfl) ?_
           refine tk_ (i := 31) (N := some 52) HT_.out HW_.out (fl 36 4294967295) (by kernel_rfl) hHeld ?_
           refine one_ (i := 32) (N := some 53) (fl 36 8589934591) rfl rfl (one_of HT_.out (by kernel_rfl)) (by decide) (fun K hK => ?_)
           refine goes_ Try.func160 (by kernel_rfl) rfl #[.slice A104_0 (rd_L1 l0_1 (ji10)).length c104_0, .slice A102_0 (rd_L1 l0_1 x3_1).length c102_0] (by rfl) rfl rfl (by (try simp only [List.map_toArray, List.map_cons, List.map_nil]); first | done | (simp only [hji10]; rfl) | rfl | (simp only [List.length_drop, List.length_take]; rfl)) ?_
           with_reducible refine (spec_l01Before.calls k1 _ _ (rd_L1 l0_1 (ji10)) _ _ (rd_L1 l0_1 x3_1) true _ ?side1 ?side2 ?side3 ?side4 A13.out).mono ?_
           (case side1 => repeat (first | exact (Kd.C_below HR104_0.out (by repeat (first | (with_reducible first | exact HB.out | apply below_alloc | apply pw_below_drewN | apply below_drew1 | refine below_set ?_ GE50.out) | exact HB.out))) | (with_reducible refine Kd.C_alloc ?_ _) | (with_reducible refine Kd.C_drewN ?_ _) | (with_reducible refine Kd.C_drew ?_)))
           (case side2 => exact HC104_0.out)
           (case side3 => repeat (first | exact (Kd.C_below HR105_0.out (by repeat (first | (with_reducible first | exact HB.out | apply below_alloc | apply pw_below_drewN | apply below_drew1 | refine below_set ?_ GE50.out) | exact HB.out))) | (with_reducible refine Kd.C_alloc ?_ _) | (with_reducible refine Kd.C_drewN ?_ _) | (with_reducible refine Kd.C_drew ?_)))
           (case side4 => exact HC105_0.out)
           rintro e w' ⟨rfl, ⟨nd, rfl⟩⟩
           refine ⟨_, rfl, ?_⟩
           refine hK.out _ _ ⟨(blk_cell BK50.out 0).trans rfl, (blk_cell BK50.out 1).trans rfl, ((HB.out.cell (World.block_lt_of_cell? w _ hw102_0)).trans hw102_0), ((HB.out.cell (World.block_lt_of_cell? w _ hw104_0)).trans hw104_0), ((HB.out.cell (World.block_lt_of_cell? w _ hw105_0)).trans hw105_0)⟩ (fun hHeld => ?_)
           clear hK K
           refine norm_ (a' := ?_) ?_ ?_
           rotate_left
           ·show Act.put _ (some 53) _ = _
            simp only [Act.put, List.setIfInBounds_toArray, List.set_cons_zero, List.set_cons_succ, i64_w, i32_w]
            rfl
           refine pu_ (i := 33) (N := some 54) HT_.out (fl 36 17179869183) (by kernel_rfl) ?_
           refine pu_ (i := 34) (N := some 55) HT_.out (fl 36 34359738367) (by kernel_rfl) ?_
           refine pu_ (i := 35) (N := some 56) HT_.out (fl 36 68719476735) (by kernel_rfl) ?_
           refine done_ (done_of HT_.out (by kernel_rfl)) ?_
           try go_wp2
           go_roundg k1
           case measure => have := HK1.out; omega
           case rel => exact ⟨(wrap64 (x3_1 + 1)), (by first | rfl | (simp; done) | (simp [*]; done)), H', ⟨by have := HK1.out; omega⟩, ⟨by (with_reducible repeat (first | refine blk_drewN ?_ _ | refine blk_drew ?_ | refine blk_alloc ?_ _)); exact BK50.out⟩, ⟨by repeat (first | (with_reducible first | exact HB.out | apply below_alloc | apply pw_below_drewN | apply below_drew1 | refine below_set ?_ GE50.out) | exact HB.out)⟩⟩
          ·replace c14 := Bool.eq_false_iff.mpr c14
           subst c14
           have H1 : (some false) = some r := by rw [if_neg (show ¬ (false = true) by decide)] at H; exact H
           clear H
           have H := H1
           clear H1
           obtain rfl := Option.some.inj H
           have hcz17_0 : wr.cell? ⟨gb0, 0, none⟩ = some (.int .i64 a0_0) := (blk_cell BK50.out 0).trans rfl
           have hcz17_1 : wr.cell? ⟨gb0, 1, none⟩ = some (.slice A0_1 l0_1.length c0_1) := (blk_cell BK50.out 1).trans rfl
           have hfz17_0 := blk_frozen BK50.out 0
           have hfz17_1 := blk_frozen BK50.out 1
           try go_wp2
           have n0_ := Aside0.mk (blk_drew BK50.out)
           have n1_ := Aside0.mk (below_drew1 HB.out)
           clear BK50
           clear HB
           have BK50 := n0_
           have HB := n1_
           clear n0_ n1_
           have p102 : 0 ≤ (x3_1 : Int) := of_decide_eq_true (by first | (with_reducible assumption) | assumption)
           have q102 : x3_1 < (l0_1.length : Int) := of_decide_eq_true (by first | (with_reducible assumption) | assumption)
           obtain ⟨ad102, A102_0, c102_0, e102, hx102_0, hl102_0, hi102_0⟩ := at_L1 HR0_1.out x3_1 p102 q102
           have hw102_0 := hx102_0
           cases e102
           replace hx102_0 := (HB.out.cell (World.block_lt_of_cell? w _ hx102_0)).trans hx102_0
           have HR102_0 := Aside0.mk hi102_0
           have HC102_0 := Aside0.mk hl102_0
           clear hi102_0 hl102_0
           replace p102 := eq_true p102
           replace q102 := eq_true q102
           have p104 : 0 ≤ ((ji10) : Int) := of_decide_eq_true (by first | (with_reducible assumption) | assumption)
           have q104 : (ji10) < (l0_1.length : Int) := of_decide_eq_true (by first | (with_reducible assumption) | assumption)
           obtain ⟨ad104, A104_0, c104_0, e104, hx104_0, hl104_0, hi104_0⟩ := at_L1 HR0_1.out (ji10) p104 q104
           have hw104_0 := hx104_0
           obtain rfl : ad102 = ad104 := (by injection e104)
           replace hx104_0 := (HB.out.cell (World.block_lt_of_cell? w _ hx104_0)).trans hx104_0
           have HR104_0 := Aside0.mk hi104_0
           have HC104_0 := Aside0.mk hl104_0
           clear hi104_0 hl104_0
           replace p104 := eq_true p104
           replace q104 := eq_true q104
           have p105 : 0 ≤ (x3_1 : Int) := of_decide_eq_true (by first | (with_reducible assumption) | assumption)
           have q105 : x3_1 < (l0_1.length : Int) := of_decide_eq_true (by first | (with_reducible assumption) | assumption)
           obtain ⟨ad105, A105_0, c105_0, e105, hx105_0, hl105_0, hi105_0⟩ := at_L1 HR0_1.out x3_1 p105 q105
           have hw105_0 := hx105_0
           obtain rfl : ad102 = ad105 := (by injection e105)
           replace hx105_0 := (HB.out.cell (World.block_lt_of_cell? w _ hx105_0)).trans hx105_0
           have HR105_0 := Aside0.mk hi105_0
           have HC105_0 := Aside0.mk hl105_0
           clear hi105_0 hl105_0
           replace p105 := eq_true p105
           replace q105 := eq_true q105
           have ea_ := Option.some.inj (hx102_0.symm.trans hx105_0)
           injection ea_ with ea_ en_ ec_
           subst ea_
           subst ec_
           clear en_
           refine start_ (n := 36) (S := fun w' => w'.cell? ⟨gb0, 0, none⟩ = some (.int .i64 a0_0) ∧ w'.cell? ⟨gb0, 1, none⟩ = some (.slice (some ad102) l0_1.length c0_1) ∧ w'.cell? (ad102.add (x3_1).toNat) = some (.slice A102_0 (rd_L1 l0_1 x3_1).length c102_0) ∧ w'.cell? (ad102.add ((ji10)).toNat) = some (.slice A104_0 (rd_L1 l0_1 (ji10)).length c104_0) ∧ w'.cell? (ad102.add (x3_1).toNat) = some (.slice A102_0 (rd_L1 l0_1 x3_1).length c102_0)) (ds := []) (fl 36 0) (by kernel_rfl) rfl rfl ⟨(blk_cell BK50.out 0).trans rfl, (blk_cell BK50.out 1).trans rfl, ((HB.out.cell (World.block_lt_of_cell? w _ hw102_0)).trans hw102_0), ((HB.out.cell (World.block_lt_of_cell? w _ hw104_0)).trans hw104_0), ((HB.out.cell (World.block_lt_of_cell? w _ hw105_0)).trans hw105_0)⟩ (fun hHeld => ?_); refine with_tabW spec_l01Ok.tab6 spec_l01Ok.bits6 (fun HT_ HW_ => ?_)
           generalize wr.drew = w18 at BK50 HB HR102_0 HR104_0 HR105_0 hx102_0 hx104_0 hx105_0 hHeld ⊢
           refine pu_ (i := 0) (N := some 21) HT_.out (fl 36 1) (by kernel_rfl) ?_
           refine pu_ (i := 1) (N := some 22) HT_.out (fl 36 3) (by kernel_rfl) ?_
           refine pu_ (i := 2) (N := some 23) HT_.out (fl 36 7) (by kernel_rfl) ?_
           refine pu_ (i := 4) (N := some 25) HT_.out (fl 36 23) (by kernel_rfl) ?_
           refine pu_ (i := 5) (N := some 26) HT_.out (fl 36 55) (by kernel_rfl) ?_
           refine pu_ (i := 6) (N := some 27) HT_.out (fl 36 119) (by kernel_rfl) ?_
           refine pu_ (i := 8) (N := some 29) HT_.out (fl 36 375) (by kernel_rfl) ?_
           refine tk_ (i := 3) (N := some 24) HT_.out HW_.out (fl 36 383) (by kernel_rfl) hHeld ?_
           refine tk_ (i := 7) (N := some 28) HT_.out HW_.out (fl 36 511) (by kernel_rfl) hHeld ?_
           refine pu_ (i := 9) (N := some 30) HT_.out (fl 36 1023) (by kernel_rfl) ?_
           refine tk_ (i := 10) (N := some 31) HT_.out HW_.out (fl 36 2047) (by kernel_rfl) hHeld ?_
           refine one_ (i := 11) (N := some 32) (fl 36 4095) rfl rfl (one_of HT_.out (by kernel_rfl)) (by decide) (fun K hK => ?_)
           refine goes_ Try.func136 (by kernel_rfl) rfl #[.int .i64 a0_0, .slice A102_0 (rd_L1 l0_1 x3_1).length c102_0] (by rfl) rfl rfl (by (try simp only [List.map_toArray, List.map_cons, List.map_nil]); first | done | rfl | (simp only [List.length_drop, List.length_take]; rfl)) ?_
           with_reducible refine (spec_l01Group.calls k1 a0_0 _ _ (rd_L1 l0_1 x3_1) true _ ?side1 ?side2 A7.out).mono ?_
           (case side1 => repeat (first | exact (Kd.C_below HR102_0.out HB.out) | (with_reducible refine Kd.C_alloc ?_ _) | (with_reducible refine Kd.C_drewN ?_ _) | (with_reducible refine Kd.C_drew ?_)))
           (case side2 => exact HC102_0.out)
           rintro e w' ⟨rfl, ⟨nd, rfl⟩⟩
           refine ⟨_, rfl, ?_⟩
           refine hK.out _ _ ⟨(blk_cell BK50.out 0).trans rfl, (blk_cell BK50.out 1).trans rfl, ((HB.out.cell (World.block_lt_of_cell? w _ hw102_0)).trans hw102_0), ((HB.out.cell (World.block_lt_of_cell? w _ hw104_0)).trans hw104_0), ((HB.out.cell (World.block_lt_of_cell? w _ hw105_0)).trans hw105_0)⟩ (fun hHeld => ?_)
           clear hK K
           refine norm_ (a' := ?_) ?_ ?_
           rotate_left
           ·show Act.put _ (some 32) _ = _
            simp only [Act.put, List.setIfInBounds_toArray, List.set_cons_zero, List.set_cons_succ, i64_w, i32_w]
            rfl
           refine pu_ (i := 12) (N := some 33) HT_.out (fl 36 8191) (by kernel_rfl) ?_
           refine pu_ (i := 13) (N := some 34) HT_.out (fl 36 16383) (by kernel_rfl) ?_
           refine pu_ (i := 14) (N := some 35) HT_.out (fl 36 32767) (by kernel_rfl) ?_
           refine pu_ (i := 15) (N := some 36) HT_.out (fl 36 65535) (by kernel_rfl) ?_
           refine pu_ (i := 16) (N := some 37) HT_.out (fl 36 131071) (by kernel_rfl) ?_
           refine pu_ (i := 17) (N := some 38) HT_.out (fl 36 262143) (by kernel_rfl) ?_
           refine pu_ (i := 18) (N := some 39) HT_.out (fl 36 524287) (by kernel_rfl) ?_
           refine pu_ (i := 19) (N := some 40) HT_.out (fl 36 1048575) (by kernel_rfl) ?_
           refine pu_ (i := 21) (N := some 42) HT_.out (fl 36 3145727) (by kernel_rfl) ?_
           refine pu_ (i := 22) (N := some 43) HT_.out (fl 36 7340031) (by kernel_rfl) ?_
           refine pu_ (i := 25) (N := some 46) HT_.out (fl 36 40894463) (by kernel_rfl) ?_
           refine pu_ (i := 26) (N := some 47) HT_.out (fl 36 108003327) (by kernel_rfl) ?_
           refine pu_ (i := 27) (N := some 48) HT_.out (fl 36 242221055) (by kernel_rfl) ?_
           refine pu_ (i := 29) (N := some 50) HT_.out (fl 36 779091967) (by kernel_rfl) ?_
           refine tk_ (i := 20) (N := some 41) HT_.out HW_.out (fl 36 780140543) (by kernel_rfl) hHeld ?_
           refine pu_ (i := 23) (N := some 44) HT_.out (fl 36 788529151) (by kernel_rfl) ?_
           refine tk_ (i := 24) (N := some 45) HT_.out HW_.out (fl 36 805306367) (by kernel_rfl) hHeld ?_
           refine tk_ (i := 28) (N := some 49) HT_.out HW_.out (fl 36 1073741823) (by kernel_rfl) hHeld ?_
           refine pu_ (i := 30) (N := some 51) HT_.out (fl 36 2147483647) (by kernel_rfl) ?_
           refine tk_ (i := 31) (N := some 52) HT_.out HW_.out (fl 36 4294967295) (by kernel_rfl) hHeld ?_
           refine one_ (i := 32) (N := some 53) (fl 36 8589934591) rfl rfl (one_of HT_.out (by kernel_rfl)) (by decide) (fun K hK => ?_)
           refine goes_ Try.func160 (by kernel_rfl) rfl #[.slice A104_0 (rd_L1 l0_1 (ji10)).length c104_0, .slice A102_0 (rd_L1 l0_1 x3_1).length c102_0] (by rfl) rfl rfl (by (try simp only [List.map_toArray, List.map_cons, List.map_nil]); first | done | (simp only [hji10]; rfl) | rfl | (simp only [List.length_drop, List.length_take]; rfl)) ?_
           with_reducible refine (spec_l01Before.calls k1 _ _ (rd_L1 l0_1 (ji10)) _ _ (rd_L1 l0_1 x3_1) false _ ?side1 ?side2 ?side3 ?side4 A13.out).mono ?_
           (case side1 => repeat (first | exact (Kd.C_below HR104_0.out (by repeat (first | (with_reducible first | exact HB.out | apply below_alloc | apply pw_below_drewN | apply below_drew1 | refine below_set ?_ GE50.out) | exact HB.out))) | (with_reducible refine Kd.C_alloc ?_ _) | (with_reducible refine Kd.C_drewN ?_ _) | (with_reducible refine Kd.C_drew ?_)))
           (case side2 => exact HC104_0.out)
           (case side3 => repeat (first | exact (Kd.C_below HR105_0.out (by repeat (first | (with_reducible first | exact HB.out | apply below_alloc | apply pw_below_drewN | apply below_drew1 | refine below_set ?_ GE50.out) | exact HB.out))) | (with_reducible refine Kd.C_alloc ?_ _) | (with_reducible refine Kd.C_drewN ?_ _) | (with_reducible refine Kd.C_drew ?_)))
           (case side4 => exact HC105_0.out)
           rintro e w' ⟨rfl, ⟨nd, rfl⟩⟩
           refine ⟨_, rfl, ?_⟩
           refine hK.out _ _ ⟨(blk_cell BK50.out 0).trans rfl, (blk_cell BK50.out 1).trans rfl, ((HB.out.cell (World.block_lt_of_cell? w _ hw102_0)).trans hw102_0), ((HB.out.cell (World.block_lt_of_cell? w _ hw104_0)).trans hw104_0), ((HB.out.cell (World.block_lt_of_cell? w _ hw105_0)).trans hw105_0)⟩ (fun hHeld => ?_)
           clear hK K
           refine norm_ (a' := ?_) ?_ ?_
           rotate_left
           ·show Act.put _ (some 53) _ = _
            simp only [Act.put, List.setIfInBounds_toArray, List.set_cons_zero, List.set_cons_succ, i64_w, i32_w]
            rfl
           refine pu_ (i := 33) (N := some 54) HT_.out (fl 36 17179869183) (by kernel_rfl) ?_
           refine pu_ (i := 34) (N := some 55) HT_.out (fl 36 34359738367) (by kernel_rfl) ?_
           refine pu_ (i := 35) (N := some 56) HT_.out (fl 36 68719476735) (by kernel_rfl) ?_
           refine done_ (done_of HT_.out (by kernel_rfl)) ?_
           try go_wp2
           go_ret
           exact ⟨by first | rfl | (simp [errW_none, errW_some] <;> rfl) | (simp only [← hji10]; first | rfl | (simp [errW_none, errW_some] <;> rfl)) | (simp [*, errW_none, errW_some] <;> rfl), by repeat (first | (with_reducible first | exact HB.out | apply below_alloc | apply pw_below_drewN | apply below_drew1 | refine below_set ?_ GE50.out) | exact HB.out)⟩
         ·rw [if_neg c12] at H
          exact absurd H (by simp)
        ·rw [if_neg c11] at H
         exact absurd H (by simp)
       ·rw [if_neg c9] at H
        have c9b0 : decide (0 < x3_1) = false := decide_eq_false c9
        clear c9
        have H' := Aside0.mk H
        clear H
        have hcz19_0 : wr.cell? ⟨gb0, 0, none⟩ = some (.int .i64 a0_0) := (blk_cell BK50.out 0).trans rfl
        have hcz19_1 : wr.cell? ⟨gb0, 1, none⟩ = some (.slice A0_1 l0_1.length c0_1) := (blk_cell BK50.out 1).trans rfl
        have hfz19_0 := blk_frozen BK50.out 0
        have hfz19_1 := blk_frozen BK50.out 1
        try go_wp2
        have n0_ := Aside0.mk (blk_drew BK50.out)
        have n1_ := Aside0.mk (below_drew1 HB.out)
        clear BK50
        clear HB
        have BK50 := n0_
        have HB := n1_
        clear n0_ n1_
        have p102 : 0 ≤ (x3_1 : Int) := of_decide_eq_true (by first | (with_reducible assumption) | assumption)
        have q102 : x3_1 < (l0_1.length : Int) := of_decide_eq_true (by first | (with_reducible assumption) | assumption)
        obtain ⟨ad102, A102_0, c102_0, e102, hx102_0, hl102_0, hi102_0⟩ := at_L1 HR0_1.out x3_1 p102 q102
        have hw102_0 := hx102_0
        cases e102
        replace hx102_0 := (HB.out.cell (World.block_lt_of_cell? w _ hx102_0)).trans hx102_0
        have HR102_0 := Aside0.mk hi102_0
        have HC102_0 := Aside0.mk hl102_0
        clear hi102_0 hl102_0
        replace p102 := eq_true p102
        replace q102 := eq_true q102
        refine start_ (n := 36) (S := fun w' => w'.cell? ⟨gb0, 0, none⟩ = some (.int .i64 a0_0) ∧ w'.cell? ⟨gb0, 1, none⟩ = some (.slice (some ad102) l0_1.length c0_1) ∧ w'.cell? (ad102.add (x3_1).toNat) = some (.slice A102_0 (rd_L1 l0_1 x3_1).length c102_0)) (ds := []) (fl 36 0) (by kernel_rfl) rfl rfl ⟨(blk_cell BK50.out 0).trans rfl, (blk_cell BK50.out 1).trans rfl, ((HB.out.cell (World.block_lt_of_cell? w _ hw102_0)).trans hw102_0)⟩ (fun hHeld => ?_); refine with_tabW spec_l01Ok.tab6 spec_l01Ok.bits6 (fun HT_ HW_ => ?_)
        generalize wr.drew = w20 at BK50 HB HR102_0 hx102_0 hHeld ⊢
        refine pu_ (i := 0) (N := some 21) HT_.out (fl 36 1) (by kernel_rfl) ?_
        refine pu_ (i := 1) (N := some 22) HT_.out (fl 36 3) (by kernel_rfl) ?_
        refine pu_ (i := 2) (N := some 23) HT_.out (fl 36 7) (by kernel_rfl) ?_
        refine pu_ (i := 4) (N := some 25) HT_.out (fl 36 23) (by kernel_rfl) ?_
        refine pu_ (i := 5) (N := some 26) HT_.out (fl 36 55) (by kernel_rfl) ?_
        refine pu_ (i := 6) (N := some 27) HT_.out (fl 36 119) (by kernel_rfl) ?_
        refine pu_ (i := 8) (N := some 29) HT_.out (fl 36 375) (by kernel_rfl) ?_
        refine tk_ (i := 3) (N := some 24) HT_.out HW_.out (fl 36 383) (by kernel_rfl) hHeld ?_
        refine tk_ (i := 7) (N := some 28) HT_.out HW_.out (fl 36 511) (by kernel_rfl) hHeld ?_
        refine pu_ (i := 9) (N := some 30) HT_.out (fl 36 1023) (by kernel_rfl) ?_
        refine tk_ (i := 10) (N := some 31) HT_.out HW_.out (fl 36 2047) (by kernel_rfl) hHeld ?_
        refine one_ (i := 11) (N := some 32) (fl 36 4095) rfl rfl (one_of HT_.out (by kernel_rfl)) (by decide) (fun K hK => ?_)
        refine goes_ Try.func136 (by kernel_rfl) rfl #[.int .i64 a0_0, .slice A102_0 (rd_L1 l0_1 x3_1).length c102_0] (by rfl) rfl rfl (by (try simp only [List.map_toArray, List.map_cons, List.map_nil]); first | done | rfl | (simp only [List.length_drop, List.length_take]; rfl)) ?_
        with_reducible refine (spec_l01Group.calls k1 a0_0 _ _ (rd_L1 l0_1 x3_1) true _ ?side1 ?side2 A7.out).mono ?_
        (case side1 => repeat (first | exact (Kd.C_below HR102_0.out HB.out) | (with_reducible refine Kd.C_alloc ?_ _) | (with_reducible refine Kd.C_drewN ?_ _) | (with_reducible refine Kd.C_drew ?_)))
        (case side2 => exact HC102_0.out)
        rintro e w' ⟨rfl, ⟨nd, rfl⟩⟩
        refine ⟨_, rfl, ?_⟩
        refine hK.out _ _ ⟨(blk_cell BK50.out 0).trans rfl, (blk_cell BK50.out 1).trans rfl, ((HB.out.cell (World.block_lt_of_cell? w _ hw102_0)).trans hw102_0)⟩ (fun hHeld => ?_)
        clear hK K
        refine norm_ (a' := ?_) ?_ ?_
        rotate_left
        ·show Act.put _ (some 32) _ = _
         simp only [Act.put, List.setIfInBounds_toArray, List.set_cons_zero, List.set_cons_succ, i64_w, i32_w]
         rfl
        refine pu_ (i := 12) (N := some 33) HT_.out (fl 36 8191) (by kernel_rfl) ?_
        refine pu_ (i := 13) (N := some 34) HT_.out (fl 36 16383) (by kernel_rfl) ?_
        refine pu_ (i := 14) (N := some 35) HT_.out (fl 36 32767) (by kernel_rfl) ?_
        refine pu_ (i := 15) (N := some 36) HT_.out (fl 36 65535) (by kernel_rfl) ?_
        refine pu_ (i := 16) (N := some 37) HT_.out (fl 36 131071) (by kernel_rfl) ?_
        refine pn_ (i := 17) (N := some 38) HT_.out (fl 36 262143) (by kernel_rfl) ?_
        refine pn_ (i := 18) (N := some 39) HT_.out (fl 36 524287) (by kernel_rfl) ?_
        refine pn_ (i := 19) (N := some 40) HT_.out (fl 36 1048575) (by kernel_rfl) ?_
        refine pn_ (i := 20) (N := some 41) HT_.out (fl 36 2097151) (by kernel_rfl) ?_
        refine pn_ (i := 21) (N := some 42) HT_.out (fl 36 4194303) (by kernel_rfl) ?_
        refine pn_ (i := 22) (N := some 43) HT_.out (fl 36 8388607) (by kernel_rfl) ?_
        refine pn_ (i := 23) (N := some 44) HT_.out (fl 36 16777215) (by kernel_rfl) ?_
        refine pn_ (i := 24) (N := some 45) HT_.out (fl 36 33554431) (by kernel_rfl) ?_
        refine pn_ (i := 25) (N := some 46) HT_.out (fl 36 67108863) (by kernel_rfl) ?_
        refine pn_ (i := 26) (N := some 47) HT_.out (fl 36 134217727) (by kernel_rfl) ?_
        refine pn_ (i := 27) (N := some 48) HT_.out (fl 36 268435455) (by kernel_rfl) ?_
        refine pn_ (i := 28) (N := some 49) HT_.out (fl 36 536870911) (by kernel_rfl) ?_
        refine pn_ (i := 29) (N := some 50) HT_.out (fl 36 1073741823) (by kernel_rfl) ?_
        refine pn_ (i := 30) (N := some 51) HT_.out (fl 36 2147483647) (by kernel_rfl) ?_
        refine pn_ (i := 31) (N := some 52) HT_.out (fl 36 4294967295) (by kernel_rfl) ?_
        refine pn_ (i := 32) (N := some 53) HT_.out (fl 36 8589934591) (by kernel_rfl) ?_
        refine pn_ (i := 33) (N := some 54) HT_.out (fl 36 17179869183) (by kernel_rfl) ?_
        refine pu_ (i := 34) (N := some 55) HT_.out (fl 36 34359738367) (by kernel_rfl) ?_
        refine pu_ (i := 35) (N := some 56) HT_.out (fl 36 68719476735) (by kernel_rfl) ?_
        refine done_ (done_of HT_.out (by kernel_rfl)) ?_
        try go_wp2
        go_roundg k1
        case measure => have := HK1.out; omega
        case rel => exact ⟨(wrap64 (x3_1 + 1)), (by first | rfl | (simp; done) | (simp [*]; done)), H', ⟨by have := HK1.out; omega⟩, ⟨by (with_reducible repeat (first | refine blk_drewN ?_ _ | refine blk_drew ?_ | refine blk_alloc ?_ _)); exact BK50.out⟩, ⟨by repeat (first | (with_reducible first | exact HB.out | apply below_alloc | apply pw_below_drewN | apply below_drew1 | refine below_set ?_ GE50.out) | exact HB.out)⟩⟩
      ·replace c8 := Bool.eq_false_iff.mpr c8
       subst c8
       have H1 : (some false) = some r := by rw [if_neg (show ¬ (false = true) by decide)] at H; exact H
       clear H
       have H := H1
       clear H1
       obtain rfl := Option.some.inj H
       have hcz21_0 : wr.cell? ⟨gb0, 0, none⟩ = some (.int .i64 a0_0) := (blk_cell BK50.out 0).trans rfl
       have hcz21_1 : wr.cell? ⟨gb0, 1, none⟩ = some (.slice A0_1 l0_1.length c0_1) := (blk_cell BK50.out 1).trans rfl
       have hfz21_0 := blk_frozen BK50.out 0
       have hfz21_1 := blk_frozen BK50.out 1
       try go_wp2
       have n0_ := Aside0.mk (blk_drew BK50.out)
       have n1_ := Aside0.mk (below_drew1 HB.out)
       clear BK50
       clear HB
       have BK50 := n0_
       have HB := n1_
       clear n0_ n1_
       have p102 : 0 ≤ (x3_1 : Int) := of_decide_eq_true (by first | (with_reducible assumption) | assumption)
       have q102 : x3_1 < (l0_1.length : Int) := of_decide_eq_true (by first | (with_reducible assumption) | assumption)
       obtain ⟨ad102, A102_0, c102_0, e102, hx102_0, hl102_0, hi102_0⟩ := at_L1 HR0_1.out x3_1 p102 q102
       have hw102_0 := hx102_0
       cases e102
       replace hx102_0 := (HB.out.cell (World.block_lt_of_cell? w _ hx102_0)).trans hx102_0
       have HR102_0 := Aside0.mk hi102_0
       have HC102_0 := Aside0.mk hl102_0
       clear hi102_0 hl102_0
       replace p102 := eq_true p102
       replace q102 := eq_true q102
       refine start_ (n := 36) (S := fun w' => w'.cell? ⟨gb0, 0, none⟩ = some (.int .i64 a0_0) ∧ w'.cell? ⟨gb0, 1, none⟩ = some (.slice (some ad102) l0_1.length c0_1) ∧ w'.cell? (ad102.add (x3_1).toNat) = some (.slice A102_0 (rd_L1 l0_1 x3_1).length c102_0)) (ds := []) (fl 36 0) (by kernel_rfl) rfl rfl ⟨(blk_cell BK50.out 0).trans rfl, (blk_cell BK50.out 1).trans rfl, ((HB.out.cell (World.block_lt_of_cell? w _ hw102_0)).trans hw102_0)⟩ (fun hHeld => ?_); refine with_tabW spec_l01Ok.tab6 spec_l01Ok.bits6 (fun HT_ HW_ => ?_)
       generalize wr.drew = w22 at BK50 HB HR102_0 hx102_0 hHeld ⊢
       refine pu_ (i := 0) (N := some 21) HT_.out (fl 36 1) (by kernel_rfl) ?_
       refine pu_ (i := 1) (N := some 22) HT_.out (fl 36 3) (by kernel_rfl) ?_
       refine pu_ (i := 2) (N := some 23) HT_.out (fl 36 7) (by kernel_rfl) ?_
       refine pu_ (i := 4) (N := some 25) HT_.out (fl 36 23) (by kernel_rfl) ?_
       refine pu_ (i := 5) (N := some 26) HT_.out (fl 36 55) (by kernel_rfl) ?_
       refine pu_ (i := 6) (N := some 27) HT_.out (fl 36 119) (by kernel_rfl) ?_
       refine pu_ (i := 8) (N := some 29) HT_.out (fl 36 375) (by kernel_rfl) ?_
       refine tk_ (i := 3) (N := some 24) HT_.out HW_.out (fl 36 383) (by kernel_rfl) hHeld ?_
       refine tk_ (i := 7) (N := some 28) HT_.out HW_.out (fl 36 511) (by kernel_rfl) hHeld ?_
       refine pu_ (i := 9) (N := some 30) HT_.out (fl 36 1023) (by kernel_rfl) ?_
       refine tk_ (i := 10) (N := some 31) HT_.out HW_.out (fl 36 2047) (by kernel_rfl) hHeld ?_
       refine one_ (i := 11) (N := some 32) (fl 36 4095) rfl rfl (one_of HT_.out (by kernel_rfl)) (by decide) (fun K hK => ?_)
       refine goes_ Try.func136 (by kernel_rfl) rfl #[.int .i64 a0_0, .slice A102_0 (rd_L1 l0_1 x3_1).length c102_0] (by rfl) rfl rfl (by (try simp only [List.map_toArray, List.map_cons, List.map_nil]); first | done | rfl | (simp only [List.length_drop, List.length_take]; rfl)) ?_
       with_reducible refine (spec_l01Group.calls k1 a0_0 _ _ (rd_L1 l0_1 x3_1) false _ ?side1 ?side2 A7.out).mono ?_
       (case side1 => repeat (first | exact (Kd.C_below HR102_0.out HB.out) | (with_reducible refine Kd.C_alloc ?_ _) | (with_reducible refine Kd.C_drewN ?_ _) | (with_reducible refine Kd.C_drew ?_)))
       (case side2 => exact HC102_0.out)
       rintro e w' ⟨rfl, ⟨nd, rfl⟩⟩
       refine ⟨_, rfl, ?_⟩
       refine hK.out _ _ ⟨(blk_cell BK50.out 0).trans rfl, (blk_cell BK50.out 1).trans rfl, ((HB.out.cell (World.block_lt_of_cell? w _ hw102_0)).trans hw102_0)⟩ (fun hHeld => ?_)
       clear hK K
       refine norm_ (a' := ?_) ?_ ?_
       rotate_left
       ·show Act.put _ (some 32) _ = _
        simp only [Act.put, List.setIfInBounds_toArray, List.set_cons_zero, List.set_cons_succ, i64_w, i32_w]
        rfl
       refine pu_ (i := 12) (N := some 33) HT_.out (fl 36 8191) (by kernel_rfl) ?_
       refine pu_ (i := 13) (N := some 34) HT_.out (fl 36 16383) (by kernel_rfl) ?_
       refine pn_ (i := 14) (N := some 35) HT_.out (fl 36 32767) (by kernel_rfl) ?_
       refine pn_ (i := 15) (N := some 36) HT_.out (fl 36 65535) (by kernel_rfl) ?_
       refine pn_ (i := 16) (N := some 37) HT_.out (fl 36 131071) (by kernel_rfl) ?_
       refine pn_ (i := 17) (N := some 38) HT_.out (fl 36 262143) (by kernel_rfl) ?_
       refine pn_ (i := 18) (N := some 39) HT_.out (fl 36 524287) (by kernel_rfl) ?_
       refine pn_ (i := 19) (N := some 40) HT_.out (fl 36 1048575) (by kernel_rfl) ?_
       refine pn_ (i := 20) (N := some 41) HT_.out (fl 36 2097151) (by kernel_rfl) ?_
       refine pn_ (i := 21) (N := some 42) HT_.out (fl 36 4194303) (by kernel_rfl) ?_
       refine pn_ (i := 22) (N := some 43) HT_.out (fl 36 8388607) (by kernel_rfl) ?_
       refine pn_ (i := 23) (N := some 44) HT_.out (fl 36 16777215) (by kernel_rfl) ?_
       refine pn_ (i := 24) (N := some 45) HT_.out (fl 36 33554431) (by kernel_rfl) ?_
       refine pn_ (i := 25) (N := some 46) HT_.out (fl 36 67108863) (by kernel_rfl) ?_
       refine pn_ (i := 26) (N := some 47) HT_.out (fl 36 134217727) (by kernel_rfl) ?_
       refine pn_ (i := 27) (N := some 48) HT_.out (fl 36 268435455) (by kernel_rfl) ?_
       refine pn_ (i := 28) (N := some 49) HT_.out (fl 36 536870911) (by kernel_rfl) ?_
       refine pn_ (i := 29) (N := some 50) HT_.out (fl 36 1073741823) (by kernel_rfl) ?_
       refine pn_ (i := 30) (N := some 51) HT_.out (fl 36 2147483647) (by kernel_rfl) ?_
       refine pn_ (i := 31) (N := some 52) HT_.out (fl 36 4294967295) (by kernel_rfl) ?_
       refine pn_ (i := 32) (N := some 53) HT_.out (fl 36 8589934591) (by kernel_rfl) ?_
       refine pn_ (i := 33) (N := some 54) HT_.out (fl 36 17179869183) (by kernel_rfl) ?_
       refine pn_ (i := 34) (N := some 55) HT_.out (fl 36 34359738367) (by kernel_rfl) ?_
       refine pu_ (i := 35) (N := some 56) HT_.out (fl 36 68719476735) (by kernel_rfl) ?_
       refine done_ (done_of HT_.out (by kernel_rfl)) ?_
       try go_wp2
       go_ret
       exact ⟨by first | rfl | (simp [errW_none, errW_some] <;> rfl) | (simp [*, errW_none, errW_some] <;> rfl), by repeat (first | (with_reducible first | exact HB.out | apply below_alloc | apply pw_below_drewN | apply below_drew1 | refine below_set ?_ GE50.out) | exact HB.out)⟩
     ·rw [if_neg c6] at H
      exact absurd H (by simp)
    ·rw [if_neg c5] at H
     have c5b0 : decide (x3_1 < (l0_1.length : Int)) = false := decide_eq_false c5
     clear c5
     have H' := Aside0.mk H
     clear H
     have hcz23_0 : wr.cell? ⟨gb0, 0, none⟩ = some (.int .i64 a0_0) := (blk_cell BK50.out 0).trans rfl
     have hcz23_1 : wr.cell? ⟨gb0, 1, none⟩ = some (.slice A0_1 l0_1.length c0_1) := (blk_cell BK50.out 1).trans rfl
     have hfz23_0 := blk_frozen BK50.out 0
     have hfz23_1 := blk_frozen BK50.out 1
     go_wp2
     go_loopg [4] k1 (fun kq v4 w' => ∃ (x4_2 : Int), v4 = .int .i64 x4_2 ∧ Aside0 (spec_l01Ok.l1 kq x4_2 a0_0 l0_1 = some r) ∧ Aside0 (kq ≤ k1) ∧ Aside0 (w'.heap[gb0]? = some (.cells #[.int .i64 a0_0, (.slice A0_1 l0_1.length c0_1)] 32 (0, 0))) ∧ Aside0 (Below w.heap.size w w'))
     case atStart => exact ⟨(0), (by first | rfl | (simp; done) | (simp [*]; done)), H', ⟨Nat.le_refl _⟩, ⟨by (with_reducible repeat (first | refine blk_drewN ?_ _ | refine blk_drew ?_ | refine blk_alloc ?_ _)); exact BK50.out⟩, ⟨by repeat (first | (with_reducible first | exact HB.out | apply below_alloc | apply pw_below_drewN | apply below_drew1 | refine below_set ?_ GE50.out) | exact HB.out)⟩⟩
     case round =>
      clear H'
      try clear c1
      try clear p1
      try clear q1
      try clear hx1
      try clear p2
      try clear c5
      try clear c5b0
      try clear c6
      try clear p6
      try clear c8
      try clear c9
      try clear c9b0
      try clear c10
      try clear p10
      try clear q10
      try clear hx10
      try clear c11
      try clear c12
      try clear c13
      try clear c16
      try clear hcz19_0
      try clear hcz19_1
      try clear hcz21_0
      try clear hcz21_1
      try clear hcz23_0
      try clear hcz23_1
      try clear hfz19_0
      try clear hfz19_1
      try clear hfz21_0
      try clear hfz21_1
      try clear hfz23_0
      try clear hfz23_1
      try clear hx102_0
      try clear p102
      try clear q102
      obtain ⟨x4_2, rfl, HA, HK2, BK50, HB⟩ := hrel
      cases gk with
      | zero => exact absurd HA.out (by simp [spec_l01Ok.l1])
      | succ k2 =>
       have H := HA.out
       clear HA
       simp only [spec_l01Ok.l1] at H
       by_cases c24 : x4_2 < (l0_1.length : Int)
       ·rw [if_pos c24] at H
        have c24b0 : decide (x4_2 < (l0_1.length : Int)) = true := decide_eq_true c24
        clear c24
        have H' := Aside0.mk H
        clear H
        have hcz25_0 : wr.cell? ⟨gb0, 0, none⟩ = some (.int .i64 a0_0) := (blk_cell BK50.out 0).trans rfl
        have hcz25_1 : wr.cell? ⟨gb0, 1, none⟩ = some (.slice A0_1 l0_1.length c0_1) := (blk_cell BK50.out 1).trans rfl
        have hfz25_0 := blk_frozen BK50.out 0
        have hfz25_1 := blk_frozen BK50.out 1
        go_wp2
        go_loopg [5] k2 (fun kq v5 w' => ∃ (x5_3 : Int), v5 = .int .i64 x5_3 ∧ Aside0 (spec_l01Ok.l2 kq x4_2 x5_3 a0_0 l0_1 = some r) ∧ Aside0 (kq ≤ k2) ∧ Aside0 (w'.heap[gb0]? = some (.cells #[.int .i64 a0_0, (.slice A0_1 l0_1.length c0_1)] 32 (0, 0))) ∧ Aside0 (Below w.heap.size w w'))
        case atStart => exact ⟨(0), (by first | rfl | (simp; done) | (simp [*]; done)), H', ⟨Nat.le_refl _⟩, ⟨by (with_reducible repeat (first | refine blk_drewN ?_ _ | refine blk_drew ?_ | refine blk_alloc ?_ _)); exact BK50.out⟩, ⟨by repeat (first | (with_reducible first | exact HB.out | apply below_alloc | apply pw_below_drewN | apply below_drew1 | refine below_set ?_ GE50.out) | exact HB.out)⟩⟩
        case round =>
         clear H'
         try clear c1
         try clear p1
         try clear q1
         try clear hx1
         try clear c2
         try clear p2
         try clear c5
         try clear c5b0
         try clear c6
         try clear p6
         try clear c8
         try clear c9
         try clear c9b0
         try clear c10
         try clear p10
         try clear q10
         try clear hx10
         try clear c11
         try clear c12
         try clear c13
         try clear c16
         try clear c24
         try clear c24b0
         try clear hcz19_0
         try clear hcz19_1
         try clear hcz21_0
         try clear hcz21_1
         try clear hcz23_0
         try clear hcz23_1
         try clear hcz25_0
         try clear hcz25_1
         try clear hfz19_0
         try clear hfz19_1
         try clear hfz21_0
         try clear hfz21_1
         try clear hfz23_0
         try clear hfz23_1
         try clear hfz25_0
         try clear hfz25_1
         try clear hx102_0
         try clear p1
         try clear p10
         try clear p102
         try clear p2
         try clear p6
         try clear q1
         try clear q10
         try clear q102
         obtain ⟨x5_3, rfl, HA, HK3, BK50, HB⟩ := hrel
         cases gk with
         | zero => exact absurd HA.out (by simp [spec_l01Ok.l2])
         | succ k3 =>
          have H := HA.out
          clear HA
          simp only [spec_l01Ok.l2] at H
          by_cases c26 : x5_3 < (l0_1.length : Int)
          ·rw [if_pos c26] at H
           have c26b0 : decide (x5_3 < (l0_1.length : Int)) = true := decide_eq_true c26
           clear c26
           by_cases c27 : x4_2 = x5_3
           ·rw [if_pos c27] at H
            have c27b0 : (x4_2 == x5_3) = true := beq_iff_eq.mpr c27
            have c27b1 : (x4_2 != x5_3) = false := bne_eq_false_iff_eq.mpr c27
            clear c27
            have H' := Aside0.mk H
            clear H
            have hcz28_0 : wr.cell? ⟨gb0, 0, none⟩ = some (.int .i64 a0_0) := (blk_cell BK50.out 0).trans rfl
            have hcz28_1 : wr.cell? ⟨gb0, 1, none⟩ = some (.slice A0_1 l0_1.length c0_1) := (blk_cell BK50.out 1).trans rfl
            have hfz28_0 := blk_frozen BK50.out 0
            have hfz28_1 := blk_frozen BK50.out 1
            try go_wp2
            have n0_ := Aside0.mk (blk_drew BK50.out)
            have n1_ := Aside0.mk (below_drew1 HB.out)
            clear BK50
            clear HB
            have BK50 := n0_
            have HB := n1_
            clear n0_ n1_
            refine start_ (n := 20) (S := fun w' => True) (ds := []) (fl 20 0) (by kernel_rfl) rfl rfl trivial (fun hHeld => ?_); refine with_tabW spec_l01Ok.tab14 spec_l01Ok.bits14 (fun HT_ HW_ => ?_)
            generalize wr.drew = w29 at BK50 HB hHeld ⊢
            refine pu_ (i := 0) (N := some 75) HT_.out (fl 20 1) (by kernel_rfl) ?_
            refine pu_ (i := 1) (N := some 76) HT_.out (fl 20 3) (by kernel_rfl) ?_
            refine pu_ (i := 2) (N := some 77) HT_.out (fl 20 7) (by kernel_rfl) ?_
            refine pu_ (i := 3) (N := some 78) HT_.out (fl 20 15) (by kernel_rfl) ?_
            refine pn_ (i := 4) (N := some 79) HT_.out (fl 20 31) (by kernel_rfl) ?_
            refine pn_ (i := 5) (N := some 80) HT_.out (fl 20 63) (by kernel_rfl) ?_
            refine pn_ (i := 6) (N := some 81) HT_.out (fl 20 127) (by kernel_rfl) ?_
            refine pn_ (i := 7) (N := some 82) HT_.out (fl 20 255) (by kernel_rfl) ?_
            refine pn_ (i := 8) (N := some 83) HT_.out (fl 20 511) (by kernel_rfl) ?_
            refine pn_ (i := 9) (N := some 84) HT_.out (fl 20 1023) (by kernel_rfl) ?_
            refine pn_ (i := 10) (N := some 85) HT_.out (fl 20 2047) (by kernel_rfl) ?_
            refine pn_ (i := 11) (N := some 86) HT_.out (fl 20 4095) (by kernel_rfl) ?_
            refine pn_ (i := 12) (N := some 87) HT_.out (fl 20 8191) (by kernel_rfl) ?_
            refine pn_ (i := 13) (N := some 88) HT_.out (fl 20 16383) (by kernel_rfl) ?_
            refine pn_ (i := 14) (N := some 89) HT_.out (fl 20 32767) (by kernel_rfl) ?_
            refine pn_ (i := 15) (N := some 90) HT_.out (fl 20 65535) (by kernel_rfl) ?_
            refine pn_ (i := 16) (N := some 91) HT_.out (fl 20 131071) (by kernel_rfl) ?_
            refine pn_ (i := 17) (N := some 92) HT_.out (fl 20 262143) (by kernel_rfl) ?_
            refine pn_ (i := 18) (N := some 93) HT_.out (fl 20 524287) (by kernel_rfl) ?_
            refine pu_ (i := 19) (N := some 94) HT_.out (fl 20 1048575) (by kernel_rfl) ?_
            refine done_ (done_of HT_.out (by kernel_rfl)) ?_
            try go_wp2
            go_roundg k3
            case measure => have := HK1.out; have := HK2.out; have := HK3.out; omega
            case rel => exact ⟨(wrap64 (x5_3 + 1)), (by first | rfl | (simp; done) | (simp [*]; done)), H', ⟨by have := HK1.out; have := HK2.out; have := HK3.out; omega⟩, ⟨by (with_reducible repeat (first | refine blk_drewN ?_ _ | refine blk_drew ?_ | refine blk_alloc ?_ _)); exact BK50.out⟩, ⟨by repeat (first | (with_reducible first | exact HB.out | apply below_alloc | apply pw_below_drewN | apply below_drew1 | refine below_set ?_ GE50.out) | exact HB.out)⟩⟩
           ·rw [if_neg c27] at H
            have c27b0 : (x4_2 == x5_3) = false := beq_eq_false_iff_ne.mpr c27
            have c27b1 : (x4_2 != x5_3) = true := bne_iff_ne.mpr c27
            by_cases c30 : 0 ≤ x4_2
            ·rw [if_pos c30] at H
             have c30b0 : decide (0 ≤ x4_2) = true := decide_eq_true c30
             clear c30
             by_cases c31 : x4_2 < (l0_1.length : Int)
             ·rw [if_pos c31] at H
              have c31b0 : decide (x4_2 < (l0_1.length : Int)) = true := decide_eq_true c31
              clear c31
              by_cases c32 : 0 ≤ x5_3
              ·rw [if_pos c32] at H
               have c32b0 : decide (0 ≤ x5_3) = true := decide_eq_true c32
               clear c32
               replace H := Option.bind_eq_some_iff.mp H
               obtain ⟨t109, A330, H⟩ := H
               replace H : (if t109 = true then (some false) else (spec_l01Ok.l2 k3 x4_2 (wrap64 (x5_3 + 1)) a0_0 l0_1)) = some r := H
               have A33 := Aside0.mk A330
               clear A330
               by_cases c34 : t109 = true
               ·subst c34
                have H1 : (some false) = some r := by rw [if_pos rfl] at H; exact H
                clear H
                have H := H1
                clear H1
                obtain rfl := Option.some.inj H
                have hcz35_0 : wr.cell? ⟨gb0, 0, none⟩ = some (.int .i64 a0_0) := (blk_cell BK50.out 0).trans rfl
                have hcz35_1 : wr.cell? ⟨gb0, 1, none⟩ = some (.slice A0_1 l0_1.length c0_1) := (blk_cell BK50.out 1).trans rfl
                have hfz35_0 := blk_frozen BK50.out 0
                have hfz35_1 := blk_frozen BK50.out 1
                try go_wp2
                have n0_ := Aside0.mk (blk_drew BK50.out)
                have n1_ := Aside0.mk (below_drew1 HB.out)
                clear BK50
                clear HB
                have BK50 := n0_
                have HB := n1_
                clear n0_ n1_
                have p107 : 0 ≤ (x4_2 : Int) := of_decide_eq_true (by first | (with_reducible assumption) | assumption)
                have q107 : x4_2 < (l0_1.length : Int) := of_decide_eq_true (by first | (with_reducible assumption) | assumption)
                obtain ⟨ad107, A107_0, c107_0, e107, hx107_0, hl107_0, hi107_0⟩ := at_L1 HR0_1.out x4_2 p107 q107
                have hw107_0 := hx107_0
                cases e107
                replace hx107_0 := (HB.out.cell (World.block_lt_of_cell? w _ hx107_0)).trans hx107_0
                have HR107_0 := Aside0.mk hi107_0
                have HC107_0 := Aside0.mk hl107_0
                clear hi107_0 hl107_0
                replace p107 := eq_true p107
                replace q107 := eq_true q107
                have p108 : 0 ≤ (x5_3 : Int) := of_decide_eq_true (by first | (with_reducible assumption) | assumption)
                have q108 : x5_3 < (l0_1.length : Int) := of_decide_eq_true (by first | (with_reducible assumption) | assumption)
                obtain ⟨ad108, A108_0, c108_0, e108, hx108_0, hl108_0, hi108_0⟩ := at_L1 HR0_1.out x5_3 p108 q108
                have hw108_0 := hx108_0
                obtain rfl : ad107 = ad108 := (by injection e108)
                replace hx108_0 := (HB.out.cell (World.block_lt_of_cell? w _ hx108_0)).trans hx108_0
                have HR108_0 := Aside0.mk hi108_0
                have HC108_0 := Aside0.mk hl108_0
                clear hi108_0 hl108_0
                replace p108 := eq_true p108
                replace q108 := eq_true q108
                refine start_ (n := 20) (S := fun w' => w'.cell? ⟨gb0, 0, none⟩ = some (.int .i64 a0_0) ∧ w'.cell? ⟨gb0, 1, none⟩ = some (.slice (some ad107) l0_1.length c0_1) ∧ w'.cell? (ad107.add (x4_2).toNat) = some (.slice A107_0 (rd_L1 l0_1 x4_2).length c107_0) ∧ w'.cell? (ad107.add (x5_3).toNat) = some (.slice A108_0 (rd_L1 l0_1 x5_3).length c108_0)) (ds := []) (fl 20 0) (by kernel_rfl) rfl rfl ⟨(blk_cell BK50.out 0).trans rfl, (blk_cell BK50.out 1).trans rfl, ((HB.out.cell (World.block_lt_of_cell? w _ hw107_0)).trans hw107_0), ((HB.out.cell (World.block_lt_of_cell? w _ hw108_0)).trans hw108_0)⟩ (fun hHeld => ?_); refine with_tabW spec_l01Ok.tab14 spec_l01Ok.bits14 (fun HT_ HW_ => ?_)
                generalize wr.drew = w36 at BK50 HB HR107_0 HR108_0 hx107_0 hx108_0 hHeld ⊢
                refine pu_ (i := 0) (N := some 75) HT_.out (fl 20 1) (by kernel_rfl) ?_
                refine pu_ (i := 1) (N := some 76) HT_.out (fl 20 3) (by kernel_rfl) ?_
                refine pu_ (i := 2) (N := some 77) HT_.out (fl 20 7) (by kernel_rfl) ?_
                refine pu_ (i := 3) (N := some 78) HT_.out (fl 20 15) (by kernel_rfl) ?_
                refine pu_ (i := 4) (N := some 79) HT_.out (fl 20 31) (by kernel_rfl) ?_
                refine pu_ (i := 5) (N := some 80) HT_.out (fl 20 63) (by kernel_rfl) ?_
                refine pu_ (i := 6) (N := some 81) HT_.out (fl 20 127) (by kernel_rfl) ?_
                refine pu_ (i := 8) (N := some 83) HT_.out (fl 20 383) (by kernel_rfl) ?_
                refine pu_ (i := 11) (N := some 86) HT_.out (fl 20 2431) (by kernel_rfl) ?_
                refine pu_ (i := 12) (N := some 87) HT_.out (fl 20 6527) (by kernel_rfl) ?_
                refine pu_ (i := 13) (N := some 88) HT_.out (fl 20 14719) (by kernel_rfl) ?_
                refine pu_ (i := 15) (N := some 90) HT_.out (fl 20 47487) (by kernel_rfl) ?_
                refine tk_ (i := 7) (N := some 82) HT_.out HW_.out (fl 20 47615) (by kernel_rfl) hHeld ?_
                refine pu_ (i := 9) (N := some 84) HT_.out (fl 20 48127) (by kernel_rfl) ?_
                refine tk_ (i := 10) (N := some 85) HT_.out HW_.out (fl 20 49151) (by kernel_rfl) hHeld ?_
                refine tk_ (i := 14) (N := some 89) HT_.out HW_.out (fl 20 65535) (by kernel_rfl) hHeld ?_
                refine pu_ (i := 16) (N := some 91) HT_.out (fl 20 131071) (by kernel_rfl) ?_
                refine tk_ (i := 17) (N := some 92) HT_.out HW_.out (fl 20 262143) (by kernel_rfl) hHeld ?_
                refine one_ (i := 18) (N := some 93) (fl 20 524287) rfl rfl (one_of HT_.out (by kernel_rfl)) (by decide) (fun K hK => ?_)
                refine goes_ Try.func161 (by kernel_rfl) rfl #[.slice A107_0 (rd_L1 l0_1 x4_2).length c107_0, .slice A108_0 (rd_L1 l0_1 x5_3).length c108_0] (by rfl) rfl rfl (by (try simp only [List.map_toArray, List.map_cons, List.map_nil]); first | done | rfl | (simp only [List.length_drop, List.length_take]; rfl)) ?_
                with_reducible refine (spec_l01Within.calls k3 _ _ (rd_L1 l0_1 x4_2) _ _ (rd_L1 l0_1 x5_3) true _ ?side1 ?side2 ?side3 ?side4 A33.out).mono ?_
                (case side1 => repeat (first | exact (Kd.C_below HR107_0.out HB.out) | (with_reducible refine Kd.C_alloc ?_ _) | (with_reducible refine Kd.C_drewN ?_ _) | (with_reducible refine Kd.C_drew ?_)))
                (case side2 => exact HC107_0.out)
                (case side3 => repeat (first | exact (Kd.C_below HR108_0.out HB.out) | (with_reducible refine Kd.C_alloc ?_ _) | (with_reducible refine Kd.C_drewN ?_ _) | (with_reducible refine Kd.C_drew ?_)))
                (case side4 => exact HC108_0.out)
                rintro e w' ⟨rfl, ⟨nd, rfl⟩⟩
                refine ⟨_, rfl, ?_⟩
                refine hK.out _ _ ⟨(blk_cell BK50.out 0).trans rfl, (blk_cell BK50.out 1).trans rfl, ((HB.out.cell (World.block_lt_of_cell? w _ hw107_0)).trans hw107_0), ((HB.out.cell (World.block_lt_of_cell? w _ hw108_0)).trans hw108_0)⟩ (fun hHeld => ?_)
                clear hK K
                refine norm_ (a' := ?_) ?_ ?_
                rotate_left
                ·show Act.put _ (some 93) _ = _
                 simp only [Act.put, List.setIfInBounds_toArray, List.set_cons_zero, List.set_cons_succ, i64_w, i32_w]
                 rfl
                refine pu_ (i := 19) (N := some 94) HT_.out (fl 20 1048575) (by kernel_rfl) ?_
                refine done_ (done_of HT_.out (by kernel_rfl)) ?_
                try go_wp2
                go_ret
                exact ⟨by first | rfl | (simp [errW_none, errW_some] <;> rfl) | (simp [*, errW_none, errW_some] <;> rfl), by repeat (first | (with_reducible first | exact HB.out | apply below_alloc | apply pw_below_drewN | apply below_drew1 | refine below_set ?_ GE50.out) | exact HB.out)⟩
               ·replace c34 := Bool.eq_false_iff.mpr c34
                subst c34
                have H1 : (spec_l01Ok.l2 k3 x4_2 (wrap64 (x5_3 + 1)) a0_0 l0_1) = some r := by rw [if_neg (show ¬ (false = true) by decide)] at H; exact H
                clear H
                have H := H1
                clear H1
                have H' := Aside0.mk H
                clear H
                have hcz37_0 : wr.cell? ⟨gb0, 0, none⟩ = some (.int .i64 a0_0) := (blk_cell BK50.out 0).trans rfl
                have hcz37_1 : wr.cell? ⟨gb0, 1, none⟩ = some (.slice A0_1 l0_1.length c0_1) := (blk_cell BK50.out 1).trans rfl
                have hfz37_0 := blk_frozen BK50.out 0
                have hfz37_1 := blk_frozen BK50.out 1
                try go_wp2
                have n0_ := Aside0.mk (blk_drew BK50.out)
                have n1_ := Aside0.mk (below_drew1 HB.out)
                clear BK50
                clear HB
                have BK50 := n0_
                have HB := n1_
                clear n0_ n1_
                have p107 : 0 ≤ (x4_2 : Int) := of_decide_eq_true (by first | (with_reducible assumption) | assumption)
                have q107 : x4_2 < (l0_1.length : Int) := of_decide_eq_true (by first | (with_reducible assumption) | assumption)
                obtain ⟨ad107, A107_0, c107_0, e107, hx107_0, hl107_0, hi107_0⟩ := at_L1 HR0_1.out x4_2 p107 q107
                have hw107_0 := hx107_0
                cases e107
                replace hx107_0 := (HB.out.cell (World.block_lt_of_cell? w _ hx107_0)).trans hx107_0
                have HR107_0 := Aside0.mk hi107_0
                have HC107_0 := Aside0.mk hl107_0
                clear hi107_0 hl107_0
                replace p107 := eq_true p107
                replace q107 := eq_true q107
                have p108 : 0 ≤ (x5_3 : Int) := of_decide_eq_true (by first | (with_reducible assumption) | assumption)
                have q108 : x5_3 < (l0_1.length : Int) := of_decide_eq_true (by first | (with_reducible assumption) | assumption)
                obtain ⟨ad108, A108_0, c108_0, e108, hx108_0, hl108_0, hi108_0⟩ := at_L1 HR0_1.out x5_3 p108 q108
                have hw108_0 := hx108_0
                obtain rfl : ad107 = ad108 := (by injection e108)
                replace hx108_0 := (HB.out.cell (World.block_lt_of_cell? w _ hx108_0)).trans hx108_0
                have HR108_0 := Aside0.mk hi108_0
                have HC108_0 := Aside0.mk hl108_0
                clear hi108_0 hl108_0
                replace p108 := eq_true p108
                replace q108 := eq_true q108
                refine start_ (n := 20) (S := fun w' => w'.cell? ⟨gb0, 0, none⟩ = some (.int .i64 a0_0) ∧ w'.cell? ⟨gb0, 1, none⟩ = some (.slice (some ad107) l0_1.length c0_1) ∧ w'.cell? (ad107.add (x4_2).toNat) = some (.slice A107_0 (rd_L1 l0_1 x4_2).length c107_0) ∧ w'.cell? (ad107.add (x5_3).toNat) = some (.slice A108_0 (rd_L1 l0_1 x5_3).length c108_0)) (ds := []) (fl 20 0) (by kernel_rfl) rfl rfl ⟨(blk_cell BK50.out 0).trans rfl, (blk_cell BK50.out 1).trans rfl, ((HB.out.cell (World.block_lt_of_cell? w _ hw107_0)).trans hw107_0), ((HB.out.cell (World.block_lt_of_cell? w _ hw108_0)).trans hw108_0)⟩ (fun hHeld => ?_); refine with_tabW spec_l01Ok.tab14 spec_l01Ok.bits14 (fun HT_ HW_ => ?_)
                generalize wr.drew = w38 at BK50 HB HR107_0 HR108_0 hx107_0 hx108_0 hHeld ⊢
                refine pu_ (i := 0) (N := some 75) HT_.out (fl 20 1) (by kernel_rfl) ?_
                refine pu_ (i := 1) (N := some 76) HT_.out (fl 20 3) (by kernel_rfl) ?_
                refine pu_ (i := 2) (N := some 77) HT_.out (fl 20 7) (by kernel_rfl) ?_
                refine pu_ (i := 3) (N := some 78) HT_.out (fl 20 15) (by kernel_rfl) ?_
                refine pu_ (i := 4) (N := some 79) HT_.out (fl 20 31) (by kernel_rfl) ?_
                refine pu_ (i := 5) (N := some 80) HT_.out (fl 20 63) (by kernel_rfl) ?_
                refine pu_ (i := 6) (N := some 81) HT_.out (fl 20 127) (by kernel_rfl) ?_
                refine pu_ (i := 8) (N := some 83) HT_.out (fl 20 383) (by kernel_rfl) ?_
                refine pu_ (i := 11) (N := some 86) HT_.out (fl 20 2431) (by kernel_rfl) ?_
                refine pu_ (i := 12) (N := some 87) HT_.out (fl 20 6527) (by kernel_rfl) ?_
                refine pu_ (i := 13) (N := some 88) HT_.out (fl 20 14719) (by kernel_rfl) ?_
                refine pu_ (i := 15) (N := some 90) HT_.out (fl 20 47487) (by kernel_rfl) ?_
                refine tk_ (i := 7) (N := some 82) HT_.out HW_.out (fl 20 47615) (by kernel_rfl) hHeld ?_
                refine pu_ (i := 9) (N := some 84) HT_.out (fl 20 48127) (by kernel_rfl) ?_
                refine tk_ (i := 10) (N := some 85) HT_.out HW_.out (fl 20 49151) (by kernel_rfl) hHeld ?_
                refine tk_ (i := 14) (N := some 89) HT_.out HW_.out (fl 20 65535) (by kernel_rfl) hHeld ?_
                refine pu_ (i := 16) (N := some 91) HT_.out (fl 20 131071) (by kernel_rfl) ?_
                refine tk_ (i := 17) (N := some 92) HT_.out HW_.out (fl 20 262143) (by kernel_rfl) hHeld ?_
                refine one_ (i := 18) (N := some 93) (fl 20 524287) rfl rfl (one_of HT_.out (by kernel_rfl)) (by decide) (fun K hK => ?_)
                refine goes_ Try.func161 (by kernel_rfl) rfl #[.slice A107_0 (rd_L1 l0_1 x4_2).length c107_0, .slice A108_0 (rd_L1 l0_1 x5_3).length c108_0] (by rfl) rfl rfl (by (try simp only [List.map_toArray, List.map_cons, List.map_nil]); first | done | rfl | (simp only [List.length_drop, List.length_take]; rfl)) ?_
                with_reducible refine (spec_l01Within.calls k3 _ _ (rd_L1 l0_1 x4_2) _ _ (rd_L1 l0_1 x5_3) false _ ?side1 ?side2 ?side3 ?side4 A33.out).mono ?_
                (case side1 => repeat (first | exact (Kd.C_below HR107_0.out HB.out) | (with_reducible refine Kd.C_alloc ?_ _) | (with_reducible refine Kd.C_drewN ?_ _) | (with_reducible refine Kd.C_drew ?_)))
                (case side2 => exact HC107_0.out)
                (case side3 => repeat (first | exact (Kd.C_below HR108_0.out HB.out) | (with_reducible refine Kd.C_alloc ?_ _) | (with_reducible refine Kd.C_drewN ?_ _) | (with_reducible refine Kd.C_drew ?_)))
                (case side4 => exact HC108_0.out)
                rintro e w' ⟨rfl, ⟨nd, rfl⟩⟩
                refine ⟨_, rfl, ?_⟩
                refine hK.out _ _ ⟨(blk_cell BK50.out 0).trans rfl, (blk_cell BK50.out 1).trans rfl, ((HB.out.cell (World.block_lt_of_cell? w _ hw107_0)).trans hw107_0), ((HB.out.cell (World.block_lt_of_cell? w _ hw108_0)).trans hw108_0)⟩ (fun hHeld => ?_)
                clear hK K
                refine norm_ (a' := ?_) ?_ ?_
                rotate_left
                ·show Act.put _ (some 93) _ = _
                 simp only [Act.put, List.setIfInBounds_toArray, List.set_cons_zero, List.set_cons_succ, i64_w, i32_w]
                 rfl
                refine pu_ (i := 19) (N := some 94) HT_.out (fl 20 1048575) (by kernel_rfl) ?_
                refine done_ (done_of HT_.out (by kernel_rfl)) ?_
                try go_wp2
                go_roundg k3
                case measure => have := HK1.out; have := HK2.out; have := HK3.out; omega
                case rel => exact ⟨(wrap64 (x5_3 + 1)), (by first | rfl | (simp; done) | (simp [*]; done)), H', ⟨by have := HK1.out; have := HK2.out; have := HK3.out; omega⟩, ⟨by (with_reducible repeat (first | refine blk_drewN ?_ _ | refine blk_drew ?_ | refine blk_alloc ?_ _)); exact BK50.out⟩, ⟨by repeat (first | (with_reducible first | exact HB.out | apply below_alloc | apply pw_below_drewN | apply below_drew1 | refine below_set ?_ GE50.out) | exact HB.out)⟩⟩
              ·rw [if_neg c32] at H
               exact absurd H (by simp)
             ·rw [if_neg c31] at H
              exact absurd H (by simp)
            ·rw [if_neg c30] at H
             exact absurd H (by simp)
          ·rw [if_neg c26] at H
           have c26b0 : decide (x5_3 < (l0_1.length : Int)) = false := decide_eq_false c26
           clear c26
           have H' := Aside0.mk H
           clear H
           have hcz39_0 : wr.cell? ⟨gb0, 0, none⟩ = some (.int .i64 a0_0) := (blk_cell BK50.out 0).trans rfl
           have hcz39_1 : wr.cell? ⟨gb0, 1, none⟩ = some (.slice A0_1 l0_1.length c0_1) := (blk_cell BK50.out 1).trans rfl
           have hfz39_0 := blk_frozen BK50.out 0
           have hfz39_1 := blk_frozen BK50.out 1
           go_wp2
           go_roundg k3
           case measure => have := HK1.out; have := HK2.out; have := HK3.out; omega
           case rel => exact ⟨(wrap64 (x4_2 + 1)), (by first | rfl | (simp; done) | (simp [*]; done)), H', ⟨by have := HK1.out; have := HK2.out; have := HK3.out; omega⟩, ⟨by (with_reducible repeat (first | refine blk_drewN ?_ _ | refine blk_drew ?_ | refine blk_alloc ?_ _)); exact BK50.out⟩, ⟨by repeat (first | (with_reducible first | exact HB.out | apply below_alloc | apply pw_below_drewN | apply below_drew1 | refine below_set ?_ GE50.out) | exact HB.out)⟩⟩
       ·rw [if_neg c24] at H
        have c24b0 : decide (x4_2 < (l0_1.length : Int)) = false := decide_eq_false c24
        clear c24
        obtain rfl := Option.some.inj H
        have hcz40_0 : wr.cell? ⟨gb0, 0, none⟩ = some (.int .i64 a0_0) := (blk_cell BK50.out 0).trans rfl
        have hcz40_1 : wr.cell? ⟨gb0, 1, none⟩ = some (.slice A0_1 l0_1.length c0_1) := (blk_cell BK50.out 1).trans rfl
        have hfz40_0 := blk_frozen BK50.out 0
        have hfz40_1 := blk_frozen BK50.out 1
        go_wp2
        go_ret
        exact ⟨by first | rfl | (simp [errW_none, errW_some] <;> rfl) | (simp [*, errW_none, errW_some] <;> rfl), by repeat (first | (with_reducible first | exact HB.out | apply below_alloc | apply pw_below_drewN | apply below_drew1 | refine below_set ?_ GE50.out) | exact HB.out)⟩
 ·replace c3 := Bool.eq_false_iff.mpr c3
  subst c3
  have H1 : (some false) = some r := by rw [if_neg (show ¬ (false = true) by decide)] at H; exact H
  clear H
  have H := H1
  clear H1
  obtain rfl := Option.some.inj H
  have hcz41_0 : w.cell? ⟨gb0, 0, none⟩ = some (.int .i64 a0_0) := (blk_cell BK50.out 0).trans rfl
  have hcz41_1 : w.cell? ⟨gb0, 1, none⟩ = some (.slice A0_1 l0_1.length c0_1) := (blk_cell BK50.out 1).trans rfl
  have hfz41_0 := blk_frozen BK50.out 0
  have hfz41_1 := blk_frozen BK50.out 1
  go_enter Try.func148, Try.ntmps148
  go_wp2_with (first | ((with_reducible refine gate_callee (f := 128) rfl ?_); refine goesL_ (some 10) rfl rfl Try.func128 (by kernel_rfl) rfl #[.int .i64 a0_0, .int .i64 1, .int .i64 7] rfl (by (try simp only [List.map_toArray, List.map_cons, List.map_nil]); first | done | rfl | (simp only [List.length_drop, List.length_take]; rfl)) ?_; (with_reducible refine (spec_l00In.calls a0_0 1 7 false _ A2.out).mono ?_); rintro e w' ⟨rfl, ⟨nd, rfl⟩⟩; refine ⟨_, rfl, ?_⟩))
  go_ret
  exact ⟨by first | rfl | (simp [errW_none, errW_some] <;> rfl) | (simp [*, errW_none, errW_some] <;> rfl), by repeat (first | (with_reducible first | exact HB.out | apply below_alloc | apply pw_below_drewN | apply below_drew1 | refine below_set ?_ GE50.out) | exact HB.out)⟩
end Go.Proofs.Ytfojpiojhcdgoaa.F
end
