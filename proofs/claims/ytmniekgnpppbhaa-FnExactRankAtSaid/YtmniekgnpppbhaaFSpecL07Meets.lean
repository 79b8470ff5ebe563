/- What Go functions of the program compute, and that their code does so (their contracts); printed by an own program over the translation. Conditions: those of each contract. -/
import Derived.Test.YtmniekgnpppbhaaB0
namespace Go.Proofs.Ytmniekgnpppbhaa.F
open Go.RowKit Go.Proofs.YtmniekgnpppbhaaW.PrintWords Go.Proofs.YtmniekgnpppbhaaW.PrintLast Go.Proofs.YtmniekgnpppbhaaW.PrintMore
attribute [local go_sem] max2_int min2_int max_two min_two max_three min_three max_four min_four   -- for this text's walks alone
set_option linter.unusedVariables false
set_option linter.unusedSimpArgs false

/-! ### spec_l07Meets: function 50 -/
mutual
def spec_l07Meets.l0 : Nat → List Int → Int → Option (Bool)
 | 0, _, _ => none
 | k + 1, x0, x3 => if x3 < (x0.length : Int) then (spec_l07Meets.l1 k x0 x3 0) else (some true)
def spec_l07Meets.l1 : Nat → List Int → Int → Int → Option (Bool)
 | 0, _, _, _ => none
 | k + 1, x0, x3, x4 => if x4 < (x0.length : Int) then (if (Go.bits .and .i64 x3 x4) = x3 then (if 0 ≤ x3 then (if x3 < (x0.length : Int) then (if 0 ≤ x4 then (if (rd x0 x3) > (rd x0 x4) then (some false) else (if 0 ≤ (Go.bits .or .i64 x3 x4) then (if (Go.bits .or .i64 x3 x4) < (x0.length : Int) then (if 0 ≤ (Go.bits .and .i64 x3 x4) then (if (Go.bits .and .i64 x3 x4) < (x0.length : Int) then (if (wrap64 ((rd x0 x3) + (rd x0 x4))) < (wrap64 ((rd x0 (Go.bits .or .i64 x3 x4)) + (rd x0 (Go.bits .and .i64 x3 x4)))) then (some false) else (spec_l07Meets.l1 k x0 x3 (wrap64 (x4 + 1)))) else (none)) else (none)) else (none)) else (none))) else (none)) else (none)) else (none)) else (if 0 ≤ x3 then (if x3 < (x0.length : Int) then (if 0 ≤ x4 then (if 0 ≤ (Go.bits .or .i64 x3 x4) then (if (Go.bits .or .i64 x3 x4) < (x0.length : Int) then (if 0 ≤ (Go.bits .and .i64 x3 x4) then (if (Go.bits .and .i64 x3 x4) < (x0.length : Int) then (if (wrap64 ((rd x0 x3) + (rd x0 x4))) < (wrap64 ((rd x0 (Go.bits .or .i64 x3 x4)) + (rd x0 (Go.bits .and .i64 x3 x4)))) then (some false) else (spec_l07Meets.l1 k x0 x3 (wrap64 (x4 + 1)))) else (none)) else (none)) else (none)) else (none)) else (none)) else (none)) else (none))) else (spec_l07Meets.l0 k x0 (wrap64 (x3 + 1)))
end
def spec_l07Meets.f (k : Nat) (l0 : List Int) : Option (Bool) := spec_l07Meets.l0 k l0 0
theorem spec_l07Meets.mono_l : ∀ k, (∀ y0 y1, LeO (spec_l07Meets.l0 k y0 y1) (spec_l07Meets.l0 (k + 1) y0 y1)) ∧ (∀ y0 y1 y2, LeO (spec_l07Meets.l1 k y0 y1 y2) (spec_l07Meets.l1 (k + 1) y0 y1 y2))
 | 0 => ⟨fun _ _ r h => by simp [spec_l07Meets.l0] at h, fun _ _ _ r h => by simp [spec_l07Meets.l1] at h⟩
 | k + 1 => by
  obtain ⟨ih0, ih1⟩ := spec_l07Meets.mono_l k
  refine ⟨?_, ?_⟩
  ·intro y0 y1
   unfold spec_l07Meets.l0
   repeat' first
   | (with_reducible exact ih0 _ _)
   | (with_reducible exact ih1 _ _ _)
   | (with_reducible exact LeO.refl _)
   | (with_reducible exact LeO.none _)
   | (with_reducible refine LeO.ite ?_ ?_)
   | (with_reducible refine LeO.bind ?_ (fun _ => ?_))
   | exact ih0 _ _
   | exact ih1 _ _ _
   | exact LeO.none _
   | refine LeO.ite ?_ ?_
   | refine LeO.bind ?_ (fun _ => ?_)
  ·intro y0 y1 y2
   unfold spec_l07Meets.l1
   repeat' first
   | (with_reducible exact ih0 _ _)
   | (with_reducible exact ih1 _ _ _)
   | (with_reducible exact LeO.refl _)
   | (with_reducible exact LeO.none _)
   | (with_reducible refine LeO.ite ?_ ?_)
   | (with_reducible refine LeO.bind ?_ (fun _ => ?_))
   | exact ih0 _ _
   | exact ih1 _ _ _
   | exact LeO.none _
   | refine LeO.ite ?_ ?_
   | refine LeO.bind ?_ (fun _ => ?_)
theorem spec_l07Meets.mono : ∀ a0 k, LeO (spec_l07Meets.f k a0) (spec_l07Meets.f (k + 1) a0) := by
 intro a0 k
 obtain ⟨ih0, ih1⟩ := spec_l07Meets.mono_l k
 unfold spec_l07Meets.f
 repeat' first
   | (with_reducible exact ih0 _ _)
   | (with_reducible exact ih1 _ _ _)
   | (with_reducible exact LeO.refl _)
   | (with_reducible exact LeO.none _)
   | (with_reducible refine LeO.ite ?_ ?_)
   | (with_reducible refine LeO.bind ?_ (fun _ => ?_))
   | exact ih0 _ _
   | exact ih1 _ _ _
   | exact LeO.none _
   | refine LeO.ite ?_ ?_
   | refine LeO.bind ?_ (fun _ => ?_)
set_option maxHeartbeats 8000000 in
set_option maxRecDepth 100000 in
theorem spec_l07Meets.calls (k : Nat) (A0 : Option Addr) (c0 : Nat) (l0 : List Int) (r : Bool) (w : World) (hr0 : Kd.C (Kd.int .i64) w A0 l0.length l0) (hc0 : l0.length ≤ c0) (h : spec_l07Meets.f k l0 = some r) :
  Calls Try.prog 50 #[.slice A0 l0.length c0] w fun e w' => e = .returned (.bool r) ∧ Drawn0 w w' := by
 have HR0 := Aside0.mk hr0
 have HC0 := Aside0.mk hc0
 clear hr0 hc0
 have H : (spec_l07Meets.l0 k l0 0) = some r := h
 clear h
 have H' := Aside0.mk H
 clear H
 go_enter Try.func50, Try.ntmps50
 go_wp2
 repeat (go_quiet (fail); try go_wp2)
 go_loopg [3] k (fun kq v3 w' => ∃ (x3_1 : Int), v3 = .int .i64 x3_1 ∧ Aside0 (spec_l07Meets.l0 kq l0 x3_1 = some r) ∧ Aside0 (kq ≤ k) ∧ Drawn0 w w')
 case atStart => exact ⟨(0), (by first | rfl | (simp; done) | (simp [*]; done)), H', ⟨Nat.le_refl _⟩, by repeat (first | exact Drawn0.refl _ | apply Drawn0.step)⟩
 case round =>
  clear H'
  obtain ⟨x3_1, rfl, HA, HK1, ⟨m1, rfl⟩⟩ := hrel
  cases gk with
  | zero => exact absurd HA.out (by simp [spec_l07Meets.l0])
  | succ k1 =>
   have H := HA.out
   clear HA
   simp only [spec_l07Meets.l0] at H
   by_cases c2 : x3_1 < (l0.length : Int)
   ·rw [if_pos c2] at H
    have c2b0 : decide (x3_1 < (l0.length : Int)) = true := decide_eq_true c2
    clear c2
    have H' := Aside0.mk H
    clear H
    go_wp2
    repeat (go_quiet (fail); try go_wp2)
    go_loopg [4] k1 (fun kq v4 w' => ∃ (x4_2 : Int), v4 = .int .i64 x4_2 ∧ Aside0 (spec_l07Meets.l1 kq l0 x3_1 x4_2 = some r) ∧ Aside0 (kq ≤ k1) ∧ Drawn0 w w')
    case atStart => exact ⟨(0), (by first | rfl | (simp; done) | (simp [*]; done)), H', ⟨Nat.le_refl _⟩, by repeat (first | exact Drawn0.refl _ | apply Drawn0.step)⟩
    case round =>
     clear H'
     try clear c2
     try clear c2b0
     try clear p2
     obtain ⟨x4_2, rfl, HA, HK2, ⟨m2, rfl⟩⟩ := hrel
     cases gk with
     | zero => exact absurd HA.out (by simp [spec_l07Meets.l1])
     | succ k2 =>
      have H := HA.out
      clear HA
      simp only [spec_l07Meets.l1] at H
      by_cases c3 : x4_2 < (l0.length : Int)
      ·rw [if_pos c3] at H
       have c3b0 : decide (x4_2 < (l0.length : Int)) = true := decide_eq_true c3
       clear c3
       by_cases c4 : (Go.bits .and .i64 x3_1 x4_2) = x3_1
       ·rw [if_pos c4] at H
        have c4b0 : ((Go.bits .and .i64 x3_1 x4_2) == x3_1) = true := beq_iff_eq.mpr c4
        have c4b1 : ((Go.bits .and .i64 x3_1 x4_2) != x3_1) = false := bne_eq_false_iff_eq.mpr c4
        clear c4
        by_cases c5 : 0 ≤ x3_1
        ·rw [if_pos c5] at H
         have c5b0 : decide (0 ≤ x3_1) = true := decide_eq_true c5
         clear c5
         by_cases c6 : x3_1 < (l0.length : Int)
         ·rw [if_pos c6] at H
          have c6b0 : decide (x3_1 < (l0.length : Int)) = true := decide_eq_true c6
          clear c6
          by_cases c7 : 0 ≤ x4_2
          ·rw [if_pos c7] at H
           have c7b0 : decide (0 ≤ x4_2) = true := decide_eq_true c7
           clear c7
           by_cases c8 : (rd l0 x3_1) > (rd l0 x4_2)
           ·rw [if_pos c8] at H
            have c8b0 : decide ((rd l0 x4_2) < (rd l0 x3_1)) = true := decide_eq_true c8
            clear c8
            obtain rfl := Option.some.inj H
            have p101 : 0 ≤ (x3_1 : Int) := of_decide_eq_true (by first | (with_reducible assumption) | assumption)
            have q101 : x3_1 < (l0.length : Int) := of_decide_eq_true (by first | (with_reducible assumption) | assumption)
            obtain ⟨ad101, e101, hx101_0⟩ := Kd.at_int HR0.out x3_1 p101 q101
            cases e101
            replace p101 := eq_true p101
            replace q101 := eq_true q101
            have p102 : 0 ≤ (x4_2 : Int) := of_decide_eq_true (by first | (with_reducible assumption) | assumption)
            have q102 : x4_2 < (l0.length : Int) := of_decide_eq_true (by first | (with_reducible assumption) | assumption)
            obtain ⟨ad102, e102, hx102_0⟩ := Kd.at_int HR0.out x4_2 p102 q102
            obtain rfl : ad101 = ad102 := (by injection e102)
            replace p102 := eq_true p102
            replace q102 := eq_true q102
            go_wp2
            repeat (go_quiet (fail); try go_wp2)
            go_ret
            exact ⟨by first | rfl | (simp; done) | (simp [*]; done), by repeat (first | exact Drawn0.refl _ | apply Drawn0.step)⟩
           ·rw [if_neg c8] at H
            have c8b0 : decide ((rd l0 x4_2) < (rd l0 x3_1)) = false := decide_eq_false c8
            clear c8
            by_cases c9 : 0 ≤ (Go.bits .or .i64 x3_1 x4_2)
            ·rw [if_pos c9] at H
             have c9b0 : decide (0 ≤ (Go.bits .or .i64 x3_1 x4_2)) = true := decide_eq_true c9
             clear c9
             by_cases c10 : (Go.bits .or .i64 x3_1 x4_2) < (l0.length : Int)
             ·rw [if_pos c10] at H
              have c10b0 : decide ((Go.bits .or .i64 x3_1 x4_2) < (l0.length : Int)) = true := decide_eq_true c10
              clear c10
              by_cases c11 : 0 ≤ (Go.bits .and .i64 x3_1 x4_2)
              ·rw [if_pos c11] at H
               have c11b0 : decide (0 ≤ (Go.bits .and .i64 x3_1 x4_2)) = true := decide_eq_true c11
               clear c11
               by_cases c12 : (Go.bits .and .i64 x3_1 x4_2) < (l0.length : Int)
               ·rw [if_pos c12] at H
                have c12b0 : decide ((Go.bits .and .i64 x3_1 x4_2) < (l0.length : Int)) = true := decide_eq_true c12
                clear c12
                by_cases c13 : (wrap64 ((rd l0 x3_1) + (rd l0 x4_2))) < (wrap64 ((rd l0 (Go.bits .or .i64 x3_1 x4_2)) + (rd l0 (Go.bits .and .i64 x3_1 x4_2))))
                ·rw [if_pos c13] at H
                 have c13b0 : decide ((wrap64 ((rd l0 x3_1) + (rd l0 x4_2))) < (wrap64 ((rd l0 (Go.bits .or .i64 x3_1 x4_2)) + (rd l0 (Go.bits .and .i64 x3_1 x4_2))))) = true := decide_eq_true c13
                 clear c13
                 obtain rfl := Option.some.inj H
                 have p101 : 0 ≤ (x3_1 : Int) := of_decide_eq_true (by first | (with_reducible assumption) | assumption)
                 have q101 : x3_1 < (l0.length : Int) := of_decide_eq_true (by first | (with_reducible assumption) | assumption)
                 obtain ⟨ad101, e101, hx101_0⟩ := Kd.at_int HR0.out x3_1 p101 q101
                 cases e101
                 replace p101 := eq_true p101
                 replace q101 := eq_true q101
                 have p102 : 0 ≤ (x4_2 : Int) := of_decide_eq_true (by first | (with_reducible assumption) | assumption)
                 have q102 : x4_2 < (l0.length : Int) := of_decide_eq_true (by first | (with_reducible assumption) | assumption)
                 obtain ⟨ad102, e102, hx102_0⟩ := Kd.at_int HR0.out x4_2 p102 q102
                 obtain rfl : ad101 = ad102 := (by injection e102)
                 replace p102 := eq_true p102
                 replace q102 := eq_true q102
                 have p103 : 0 ≤ (x3_1 : Int) := of_decide_eq_true (by first | (with_reducible assumption) | assumption)
                 have q103 : x3_1 < (l0.length : Int) := of_decide_eq_true (by first | (with_reducible assumption) | assumption)
                 obtain ⟨ad103, e103, hx103_0⟩ := Kd.at_int HR0.out x3_1 p103 q103
                 obtain rfl : ad101 = ad103 := (by injection e103)
                 replace p103 := eq_true p103
                 replace q103 := eq_true q103
                 have p104 : 0 ≤ (x4_2 : Int) := of_decide_eq_true (by first | (with_reducible assumption) | assumption)
                 have q104 : x4_2 < (l0.length : Int) := of_decide_eq_true (by first | (with_reducible assumption) | assumption)
                 obtain ⟨ad104, e104, hx104_0⟩ := Kd.at_int HR0.out x4_2 p104 q104
                 obtain rfl : ad101 = ad104 := (by injection e104)
                 replace p104 := eq_true p104
                 replace q104 := eq_true q104
                 have p105 : 0 ≤ ((Go.bits .or .i64 x3_1 x4_2) : Int) := of_decide_eq_true (by first | (with_reducible assumption) | assumption)
                 have q105 : (Go.bits .or .i64 x3_1 x4_2) < (l0.length : Int) := of_decide_eq_true (by first | (with_reducible assumption) | assumption)
                 obtain ⟨ad105, e105, hx105_0⟩ := Kd.at_int HR0.out (Go.bits .or .i64 x3_1 x4_2) p105 q105
                 obtain rfl : ad101 = ad105 := (by injection e105)
                 replace p105 := eq_true p105
                 replace q105 := eq_true q105
                 have p106 : 0 ≤ ((Go.bits .and .i64 x3_1 x4_2) : Int) := of_decide_eq_true (by first | (with_reducible assumption) | assumption)
                 have q106 : (Go.bits .and .i64 x3_1 x4_2) < (l0.length : Int) := of_decide_eq_true (by first | (with_reducible assumption) | assumption)
                 obtain ⟨ad106, e106, hx106_0⟩ := Kd.at_int HR0.out (Go.bits .and .i64 x3_1 x4_2) p106 q106
                 obtain rfl : ad101 = ad106 := (by injection e106)
                 replace p106 := eq_true p106
                 replace q106 := eq_true q106
                 go_wp2
                 repeat (go_quiet (fail); try go_wp2)
                 go_ret
                 exact ⟨by first | rfl | (simp; done) | (simp [*]; done), by repeat (first | exact Drawn0.refl _ | apply Drawn0.step)⟩
                ·rw [if_neg c13] at H
                 have c13b0 : decide ((wrap64 ((rd l0 x3_1) + (rd l0 x4_2))) < (wrap64 ((rd l0 (Go.bits .or .i64 x3_1 x4_2)) + (rd l0 (Go.bits .and .i64 x3_1 x4_2))))) = false := decide_eq_false c13
                 clear c13
                 have H' := Aside0.mk H
                 clear H
                 have p101 : 0 ≤ (x3_1 : Int) := of_decide_eq_true (by first | (with_reducible assumption) | assumption)
                 have q101 : x3_1 < (l0.length : Int) := of_decide_eq_true (by first | (with_reducible assumption) | assumption)
                 obtain ⟨ad101, e101, hx101_0⟩ := Kd.at_int HR0.out x3_1 p101 q101
                 cases e101
                 replace p101 := eq_true p101
                 replace q101 := eq_true q101
                 have p102 : 0 ≤ (x4_2 : Int) := of_decide_eq_true (by first | (with_reducible assumption) | assumption)
                 have q102 : x4_2 < (l0.length : Int) := of_decide_eq_true (by first | (with_reducible assumption) | assumption)
                 obtain ⟨ad102, e102, hx102_0⟩ := Kd.at_int HR0.out x4_2 p102 q102
                 obtain rfl : ad101 = ad102 := (by injection e102)
                 replace p102 := eq_true p102
                 replace q102 := eq_true q102
                 have p103 : 0 ≤ (x3_1 : Int) := of_decide_eq_true (by first | (with_reducible assumption) | assumption)
                 have q103 : x3_1 < (l0.length : Int) := of_decide_eq_true (by first | (with_reducible assumption) | assumption)
                 obtain ⟨ad103, e103, hx103_0⟩ := Kd.at_int HR0.out x3_1 p103 q103
                 obtain rfl : ad101 = ad103 := (by injection e103)
                 replace p103 := eq_true p103
                 replace q103 := eq_true q103
                 have p104 : 0 ≤ (x4_2 : Int) := of_decide_eq_true (by first | (with_reducible assumption) | assumption)
                 have q104 : x4_2 < (l0.length : Int) := of_decide_eq_true (by first | (with_reducible assumption) | assumption)
                 obtain ⟨ad104, e104, hx104_0⟩ := Kd.at_int HR0.out x4_2 p104 q104
                 obtain rfl : ad101 = ad104 := (by injection e104)
                 replace p104 := eq_true p104
                 replace q104 := eq_true q104
                 have p105 : 0 ≤ ((Go.bits .or .i64 x3_1 x4_2) : Int) := of_decide_eq_true (by first | (with_reducible assumption) | assumption)
                 have q105 : (Go.bits .or .i64 x3_1 x4_2) < (l0.length : Int) := of_decide_eq_true (by first | (with_reducible assumption) | assumption)
                 obtain ⟨ad105, e105, hx105_0⟩ := Kd.at_int HR0.out (Go.bits .or .i64 x3_1 x4_2) p105 q105
                 obtain rfl : ad101 = ad105 := (by injection e105)
                 replace p105 := eq_true p105
                 replace q105 := eq_true q105
                 have p106 : 0 ≤ ((Go.bits .and .i64 x3_1 x4_2) : Int) := of_decide_eq_true (by first | (with_reducible assumption) | assumption)
                 have q106 : (Go.bits .and .i64 x3_1 x4_2) < (l0.length : Int) := of_decide_eq_true (by first | (with_reducible assumption) | assumption)
                 obtain ⟨ad106, e106, hx106_0⟩ := Kd.at_int HR0.out (Go.bits .and .i64 x3_1 x4_2) p106 q106
                 obtain rfl : ad101 = ad106 := (by injection e106)
                 replace p106 := eq_true p106
                 replace q106 := eq_true q106
                 go_wp2
                 repeat (go_quiet (fail); try go_wp2)
                 go_roundg k2
                 case measure => have := HK1.out; have := HK2.out; omega
                 case rel => exact ⟨(wrap64 (x4_2 + 1)), (by first | rfl | (simp; done) | (simp [*]; done)), H', ⟨by have := HK1.out; have := HK2.out; omega⟩, by repeat (first | exact Drawn0.refl _ | apply Drawn0.step)⟩
               ·rw [if_neg c12] at H
                exact absurd H (by simp)
              ·rw [if_neg c11] at H
               exact absurd H (by simp)
             ·rw [if_neg c10] at H
              exact absurd H (by simp)
            ·rw [if_neg c9] at H
             exact absurd H (by simp)
          ·rw [if_neg c7] at H
           exact absurd H (by simp)
         ·rw [if_neg c6] at H
          exact absurd H (by simp)
        ·rw [if_neg c5] at H
         exact absurd H (by simp)
       ·rw [if_neg c4] at H
        have c4b0 : ((Go.bits .and .i64 x3_1 x4_2) == x3_1) = false := beq_eq_false_iff_ne.mpr c4
        have c4b1 : ((Go.bits .and .i64 x3_1 x4_2) != x3_1) = true := bne_iff_ne.mpr c4
        by_cases c14 : 0 ≤ x3_1
        ·rw [if_pos c14] at H
         have c14b0 : decide (0 ≤ x3_1) = true := decide_eq_true c14
         clear c14
         by_cases c15 : x3_1 < (l0.length : Int)
         ·rw [if_pos c15] at H
          have c15b0 : decide (x3_1 < (l0.length : Int)) = true := decide_eq_true c15
          clear c15
          by_cases c16 : 0 ≤ x4_2
          ·rw [if_pos c16] at H
           have c16b0 : decide (0 ≤ x4_2) = true := decide_eq_true c16
           clear c16
           by_cases c17 : 0 ≤ (Go.bits .or .i64 x3_1 x4_2)
           ·rw [if_pos c17] at H
            have c17b0 : decide (0 ≤ (Go.bits .or .i64 x3_1 x4_2)) = true := decide_eq_true c17
            clear c17
            by_cases c18 : (Go.bits .or .i64 x3_1 x4_2) < (l0.length : Int)
            ·rw [if_pos c18] at H
             have c18b0 : decide ((Go.bits .or .i64 x3_1 x4_2) < (l0.length : Int)) = true := decide_eq_true c18
             clear c18
             by_cases c19 : 0 ≤ (Go.bits .and .i64 x3_1 x4_2)
             ·rw [if_pos c19] at H
              have c19b0 : decide (0 ≤ (Go.bits .and .i64 x3_1 x4_2)) = true := decide_eq_true c19
              clear c19
              by_cases c20 : (Go.bits .and .i64 x3_1 x4_2) < (l0.length : Int)
              ·rw [if_pos c20] at H
               have c20b0 : decide ((Go.bits .and .i64 x3_1 x4_2) < (l0.length : Int)) = true := decide_eq_true c20
               clear c20
               by_cases c21 : (wrap64 ((rd l0 x3_1) + (rd l0 x4_2))) < (wrap64 ((rd l0 (Go.bits .or .i64 x3_1 x4_2)) + (rd l0 (Go.bits .and .i64 x3_1 x4_2))))
               ·rw [if_pos c21] at H
                have c21b0 : decide ((wrap64 ((rd l0 x3_1) + (rd l0 x4_2))) < (wrap64 ((rd l0 (Go.bits .or .i64 x3_1 x4_2)) + (rd l0 (Go.bits .and .i64 x3_1 x4_2))))) = true := decide_eq_true c21
                clear c21
                obtain rfl := Option.some.inj H
                have p107 : 0 ≤ (x3_1 : Int) := of_decide_eq_true (by first | (with_reducible assumption) | assumption)
                have q107 : x3_1 < (l0.length : Int) := of_decide_eq_true (by first | (with_reducible assumption) | assumption)
                obtain ⟨ad107, e107, hx107_0⟩ := Kd.at_int HR0.out x3_1 p107 q107
                cases e107
                replace p107 := eq_true p107
                replace q107 := eq_true q107
                have p108 : 0 ≤ (x4_2 : Int) := of_decide_eq_true (by first | (with_reducible assumption) | assumption)
                have q108 : x4_2 < (l0.length : Int) := of_decide_eq_true (by first | (with_reducible assumption) | assumption)
                obtain ⟨ad108, e108, hx108_0⟩ := Kd.at_int HR0.out x4_2 p108 q108
                obtain rfl : ad107 = ad108 := (by injection e108)
                replace p108 := eq_true p108
                replace q108 := eq_true q108
                have p109 : 0 ≤ ((Go.bits .or .i64 x3_1 x4_2) : Int) := of_decide_eq_true (by first | (with_reducible assumption) | assumption)
                have q109 : (Go.bits .or .i64 x3_1 x4_2) < (l0.length : Int) := of_decide_eq_true (by first | (with_reducible assumption) | assumption)
                obtain ⟨ad109, e109, hx109_0⟩ := Kd.at_int HR0.out (Go.bits .or .i64 x3_1 x4_2) p109 q109
                obtain rfl : ad107 = ad109 := (by injection e109)
                replace p109 := eq_true p109
                replace q109 := eq_true q109
                have p110 : 0 ≤ ((Go.bits .and .i64 x3_1 x4_2) : Int) := of_decide_eq_true (by first | (with_reducible assumption) | assumption)
                have q110 : (Go.bits .and .i64 x3_1 x4_2) < (l0.length : Int) := of_decide_eq_true (by first | (with_reducible assumption) | assumption)
                obtain ⟨ad110, e110, hx110_0⟩ := Kd.at_int HR0.out (Go.bits .and .i64 x3_1 x4_2) p110 q110
                obtain rfl : ad107 = ad110 := (by injection e110)
                replace p110 := eq_true p110
                replace q110 := eq_true q110
                go_wp2
                repeat (go_quiet (fail); try go_wp2)
                go_ret
                exact ⟨by first | rfl | (simp; done) | (simp [*]; done), by repeat (first | exact Drawn0.refl _ | apply Drawn0.step)⟩
               ·rw [if_neg c21] at H
                have c21b0 : decide ((wrap64 ((rd l0 x3_1) + (rd l0 x4_2))) < (wrap64 ((rd l0 (Go.bits .or .i64 x3_1 x4_2)) + (rd l0 (Go.bits .and .i64 x3_1 x4_2))))) = false := decide_eq_false c21
                clear c21
                have H' := Aside0.mk H
                clear H
                have p107 : 0 ≤ (x3_1 : Int) := of_decide_eq_true (by first | (with_reducible assumption) | assumption)
                have q107 : x3_1 < (l0.length : Int) := of_decide_eq_true (by first | (with_reducible assumption) | assumption)
                obtain ⟨ad107, e107, hx107_0⟩ := Kd.at_int HR0.out x3_1 p107 q107
                cases e107
                replace p107 := eq_true p107
                replace q107 := eq_true q107
                have p108 : 0 ≤ (x4_2 : Int) := of_decide_eq_true (by first | (with_reducible assumption) | assumption)
                have q108 : x4_2 < (l0.length : Int) := of_decide_eq_true (by first | (with_reducible assumption) | assumption)
                obtain ⟨ad108, e108, hx108_0⟩ := Kd.at_int HR0.out x4_2 p108 q108
                obtain rfl : ad107 = ad108 := (by injection e108)
                replace p108 := eq_true p108
                replace q108 := eq_true q108
                have p109 : 0 ≤ ((Go.bits .or .i64 x3_1 x4_2) : Int) := of_decide_eq_true (by first | (with_reducible assumption) | assumption)
                have q109 : (Go.bits .or .i64 x3_1 x4_2) < (l0.length : Int) := of_decide_eq_true (by first | (with_reducible assumption) | assumption)
                obtain ⟨ad109, e109, hx109_0⟩ := Kd.at_int HR0.out (Go.bits .or .i64 x3_1 x4_2) p109 q109
                obtain rfl : ad107 = ad109 := (by injection e109)
                replace p109 := eq_true p109
                replace q109 := eq_true q109
                have p110 : 0 ≤ ((Go.bits .and .i64 x3_1 x4_2) : Int) := of_decide_eq_true (by first | (with_reducible assumption) | assumption)
                have q110 : (Go.bits .and .i64 x3_1 x4_2) < (l0.length : Int) := of_decide_eq_true (by first | (with_reducible assumption) | assumption)
                obtain ⟨ad110, e110, hx110_0⟩ := Kd.at_int HR0.out (Go.bits .and .i64 x3_1 x4_2) p110 q110
                obtain rfl : ad107 = ad110 := (by injection e110)
                replace p110 := eq_true p110
                replace q110 := eq_true q110
                go_wp2
                repeat (go_quiet (fail); try go_wp2)
                go_roundg k2
                case measure => have := HK1.out; have := HK2.out; omega
                case rel => exact ⟨(wrap64 (x4_2 + 1)), (by first | rfl | (simp; done) | (simp [*]; done)), H', ⟨by have := HK1.out; have := HK2.out; omega⟩, by repeat (first | exact Drawn0.refl _ | apply Drawn0.step)⟩
              ·rw [if_neg c20] at H
               exact absurd H (by simp)
             ·rw [if_neg c19] at H
              exact absurd H (by simp)
            ·rw [if_neg c18] at H
             exact absurd H (by simp)
           ·rw [if_neg c17] at H
            exact absurd H (by simp)
          ·rw [if_neg c16] at H
           exact absurd H (by simp)
         ·rw [if_neg c15] at H
          exact absurd H (by simp)
        ·rw [if_neg c14] at H
         exact absurd H (by simp)
      ·rw [if_neg c3] at H
       have c3b0 : decide (x4_2 < (l0.length : Int)) = false := decide_eq_false c3
       clear c3
       have H' := Aside0.mk H
       clear H
       go_wp2
       repeat (go_quiet (fail); try go_wp2)
       go_roundg k2
       case measure => have := HK1.out; have := HK2.out; omega
       case rel => exact ⟨(wrap64 (x3_1 + 1)), (by first | rfl | (simp; done) | (simp [*]; done)), H', ⟨by have := HK1.out; have := HK2.out; omega⟩, by repeat (first | exact Drawn0.refl _ | apply Drawn0.step)⟩
   ·rw [if_neg c2] at H
    have c2b0 : decide (x3_1 < (l0.length : Int)) = false := decide_eq_false c2
    clear c2
    obtain rfl := Option.some.inj H
    go_wp2
    repeat (go_quiet (fail); try go_wp2)
    go_ret
    exact ⟨by first | rfl | (simp; done) | (simp [*]; done), by repeat (first | exact Drawn0.refl _ | apply Drawn0.step)⟩

end Go.Proofs.Ytmniekgnpppbhaa.F
