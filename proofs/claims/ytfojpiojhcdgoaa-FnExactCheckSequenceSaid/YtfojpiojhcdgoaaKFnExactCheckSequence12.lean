/- Words, walks and laws that the proof of FnExactCheckSequence stands on, each under its own conditions alone. -/
import Derived.Test.YtfojpiojhcdgoaaKFnExactCheckSequence02
section
namespace Go.Proofs.Ytfojpiojhcdgoaa.F
open Go.RowKit Go.Proofs.YtfojpiojhcdgoaaW.PrintWords Go.Proofs.YtfojpiojhcdgoaaW.PrintLast Go.Proofs.YtfojpiojhcdgoaaW.PrintMore
attribute [local go_sem] max2_int min2_int max_two min_two max_three min_three max_four min_four
set_option linter.unusedVariables false
set_option linter.unusedSimpArgs false
def spec_l07Right.f (l0 : List Bool) (l1 : List Int) (a2 : Int) (a3 : Int) : Option (Bool) := if a2 > 0 then (if 0 ≤ (wrap64 (a2 - 1)) then (if (wrap64 (a2 - 1)) < (l1.length : Int) then (if 0 ≤ a2 then (if a2 < (l1.length : Int) then (if 0 ≤ (Go.bits .or .i64 (rd l1 a2) a3) then (if (Go.bits .or .i64 (rd l1 a2) a3) < (l0.length : Int) then (if rdOf false l0 (Go.bits .or .i64 (rd l1 a2) a3) = true then (if 0 ≤ (Go.bits .or .i64 (rd l1 (wrap64 (a2 - 1))) a3) then (if (Go.bits .or .i64 (rd l1 (wrap64 (a2 - 1))) a3) < (l0.length : Int) then (some (!(rdOf false l0 (Go.bits .or .i64 (rd l1 (wrap64 (a2 - 1))) a3)))) else (none)) else (none)) else (some false)) else (none)) else (none)) else (none)) else (none)) else (none)) else (none)) else (if 0 ≤ a2 then (if a2 < (l1.length : Int) then (if 0 ≤ (Go.bits .or .i64 (rd l1 a2) a3) then (if (Go.bits .or .i64 (rd l1 a2) a3) < (l0.length : Int) then (if rdOf false l0 (Go.bits .or .i64 (rd l1 a2) a3) = true then (if 0 ≤ (Go.bits .or .i64 0 a3) then (if (Go.bits .or .i64 0 a3) < (l0.length : Int) then (some (!(rdOf false l0 (Go.bits .or .i64 0 a3)))) else (none)) else (none)) else (some false)) else (none)) else (none)) else (none)) else (none))
set_option maxHeartbeats 8000000 in
set_option maxRecDepth 100000 in
theorem spec_l07Right.calls (A0 : Option Addr) (c0 : Nat) (l0 : List Bool) (A1 : Option Addr) (c1 : Nat) (l1 : List Int) (a2 : Int) (a3 : Int) (r : Bool) (w : World) (hr0 : Kd.C Kd.bool w A0 l0.length l0) (hc0 : l0.length ≤ c0) (hr1 : Kd.C (Kd.int .i64) w A1 l1.length l1) (hc1 : l1.length ≤ c1) (h : spec_l07Right.f l0 l1 a2 a3 = some r) :
  Calls Try.prog 72 #[.slice A0 l0.length c0, .slice A1 l1.length c1, .int .i64 a2, .int .i64 a3] w fun e w' => e = .returned (.bool r) ∧ Drawn0 w w' := by
 have HR0 := Aside0.mk hr0
 have HC0 := Aside0.mk hc0
 clear hr0 hc0
 have HR1 := Aside0.mk hr1
 have HC1 := Aside0.mk hc1
 clear hr1 hc1
 have H : (if a2 > 0 then (if 0 ≤ (wrap64 (a2 - 1)) then (if (wrap64 (a2 - 1)) < (l1.length : Int) then (if 0 ≤ a2 then (if a2 < (l1.length : Int) then (if 0 ≤ (Go.bits .or .i64 (rd l1 a2) a3) then (if (Go.bits .or .i64 (rd l1 a2) a3) < (l0.length : Int) then (if rdOf false l0 (Go.bits .or .i64 (rd l1 a2) a3) = true then (if 0 ≤ (Go.bits .or .i64 (rd l1 (wrap64 (a2 - 1))) a3) then (if (Go.bits .or .i64 (rd l1 (wrap64 (a2 - 1))) a3) < (l0.length : Int) then (some (!(rdOf false l0 (Go.bits .or .i64 (rd l1 (wrap64 (a2 - 1))) a3)))) else (none)) else (none)) else (some false)) else (none)) else (none)) else (none)) else (none)) else (none)) else (none)) else (if 0 ≤ a2 then (if a2 < (l1.length : Int) then (if 0 ≤ (Go.bits .or .i64 (rd l1 a2) a3) then (if (Go.bits .or .i64 (rd l1 a2) a3) < (l0.length : Int) then (if rdOf false l0 (Go.bits .or .i64 (rd l1 a2) a3) = true then (if 0 ≤ (Go.bits .or .i64 0 a3) then (if (Go.bits .or .i64 0 a3) < (l0.length : Int) then (some (!(rdOf false l0 (Go.bits .or .i64 0 a3)))) else (none)) else (none)) else (some false)) else (none)) else (none)) else (none)) else (none))) = some r := h
 clear h
 by_cases c5 : a2 > 0
 ·rw [if_pos c5] at H
  have c5b0 : decide (0 < a2) = true := decide_eq_true c5
  clear c5
  obtain ⟨ji6, hji6⟩ : ∃ j_ : Int, (wrap64 (a2 - 1)) = j_ := ⟨_, rfl⟩
  replace H : (if 0 ≤ (ji6) then (if (ji6) < (l1.length : Int) then (if 0 ≤ a2 then (if a2 < (l1.length : Int) then (if 0 ≤ (Go.bits .or .i64 (rd l1 a2) a3) then (if (Go.bits .or .i64 (rd l1 a2) a3) < (l0.length : Int) then (if rdOf false l0 (Go.bits .or .i64 (rd l1 a2) a3) = true then (if 0 ≤ (Go.bits .or .i64 (rd l1 (ji6)) a3) then (if (Go.bits .or .i64 (rd l1 (ji6)) a3) < (l0.length : Int) then (some (!(rdOf false l0 (Go.bits .or .i64 (rd l1 (ji6)) a3)))) else (none)) else (none)) else (some false)) else (none)) else (none)) else (none)) else (none)) else (none)) else (none)) = some r := by first | (rw [hji6] at H; exact H) | (simp only [hji6] at H ⊢; exact H)
  have hji6w : (IntKind.i64.wrap (a2 - 1)) = ji6 := (i64_w _).trans hji6
  by_cases c7 : 0 ≤ (ji6)
  ·rw [if_pos c7] at H
   have c7b0 : decide (0 ≤ (ji6)) = true := decide_eq_true c7
   clear c7
   by_cases c8 : (ji6) < (l1.length : Int)
   ·rw [if_pos c8] at H
    have c8b0 : decide ((ji6) < (l1.length : Int)) = true := decide_eq_true c8
    clear c8
    by_cases c9 : 0 ≤ a2
    ·rw [if_pos c9] at H
     have c9b0 : decide (0 ≤ a2) = true := decide_eq_true c9
     clear c9
     by_cases c10 : a2 < (l1.length : Int)
     ·rw [if_pos c10] at H
      have c10b0 : decide (a2 < (l1.length : Int)) = true := decide_eq_true c10
      clear c10
      by_cases c11 : 0 ≤ (Go.bits .or .i64 (rd l1 a2) a3)
      ·rw [if_pos c11] at H
       have c11b0 : decide (0 ≤ (Go.bits .or .i64 (rd l1 a2) a3)) = true := decide_eq_true c11
       clear c11
       by_cases c12 : (Go.bits .or .i64 (rd l1 a2) a3) < (l0.length : Int)
       ·rw [if_pos c12] at H
        have c12b0 : decide ((Go.bits .or .i64 (rd l1 a2) a3) < (l0.length : Int)) = true := decide_eq_true c12
        clear c12
        obtain ⟨bq13, hbq13⟩ : ∃ b_ : Bool, b_ = (rdOf false l0 (Go.bits .or .i64 (rd l1 a2) a3)) := ⟨_, rfl⟩
        replace H : (if bq13 = true then (if 0 ≤ (Go.bits .or .i64 (rd l1 (ji6)) a3) then (if (Go.bits .or .i64 (rd l1 (ji6)) a3) < (l0.length : Int) then (some (!(rdOf false l0 (Go.bits .or .i64 (rd l1 (ji6)) a3)))) else (none)) else (none)) else (some false)) = some r := by rw [← hbq13] at H; exact H
        have Nbq13 := Aside0.mk hbq13
        clear hbq13
        by_cases c14 : bq13 = true
        ·subst c14
         have H1 : (if 0 ≤ (Go.bits .or .i64 (rd l1 (ji6)) a3) then (if (Go.bits .or .i64 (rd l1 (ji6)) a3) < (l0.length : Int) then (some (!(rdOf false l0 (Go.bits .or .i64 (rd l1 (ji6)) a3)))) else (none)) else (none)) = some r := by rw [if_pos rfl] at H; exact H
         clear H
         have H := H1
         clear H1
         by_cases c15 : 0 ≤ (Go.bits .or .i64 (rd l1 (ji6)) a3)
         ·rw [if_pos c15] at H
          have c15b0 : decide (0 ≤ (Go.bits .or .i64 (rd l1 (ji6)) a3)) = true := decide_eq_true c15
          clear c15
          by_cases c16 : (Go.bits .or .i64 (rd l1 (ji6)) a3) < (l0.length : Int)
          ·rw [if_pos c16] at H
           have c16b0 : decide ((Go.bits .or .i64 (rd l1 (ji6)) a3) < (l0.length : Int)) = true := decide_eq_true c16
           clear c16
           obtain rfl := Option.some.inj H
           have p101 : 0 ≤ ((ji6) : Int) := of_decide_eq_true (by first | (with_reducible assumption) | assumption)
           have q101 : (ji6) < (l1.length : Int) := of_decide_eq_true (by first | (with_reducible assumption) | assumption)
           obtain ⟨ad101, e101, hx101_0⟩ := Kd.at_int HR1.out (ji6) p101 q101
           cases e101
           replace p101 := eq_true p101
           replace q101 := eq_true q101
           have p102 : 0 ≤ (a2 : Int) := of_decide_eq_true (by first | (with_reducible assumption) | assumption)
           have q102 : a2 < (l1.length : Int) := of_decide_eq_true (by first | (with_reducible assumption) | assumption)
           obtain ⟨ad102, e102, hx102_0⟩ := Kd.at_int HR1.out a2 p102 q102
           obtain rfl : ad101 = ad102 := (by injection e102)
           replace p102 := eq_true p102
           replace q102 := eq_true q102
           have p103 : 0 ≤ ((Go.bits .or .i64 (rd l1 a2) a3) : Int) := of_decide_eq_true (by first | (with_reducible assumption) | assumption)
           have q103 : (Go.bits .or .i64 (rd l1 a2) a3) < (l0.length : Int) := of_decide_eq_true (by first | (with_reducible assumption) | assumption)
           obtain ⟨ad103, e103, hx103_0⟩ := Kd.at_bool HR0.out (Go.bits .or .i64 (rd l1 a2) a3) p103 q103
           (try rw [← Nbq13.out] at hx103_0)
           cases e103
           replace p103 := eq_true p103
           replace q103 := eq_true q103
           have p104 : 0 ≤ ((Go.bits .or .i64 (rd l1 (ji6)) a3) : Int) := of_decide_eq_true (by first | (with_reducible assumption) | assumption)
           have q104 : (Go.bits .or .i64 (rd l1 (ji6)) a3) < (l0.length : Int) := of_decide_eq_true (by first | (with_reducible assumption) | assumption)
           obtain ⟨ad104, e104, hx104_0⟩ := Kd.at_bool HR0.out (Go.bits .or .i64 (rd l1 (ji6)) a3) p104 q104
           (try rw [← Nbq13.out] at hx104_0)
           obtain rfl : ad103 = ad104 := (by injection e104)
           replace p104 := eq_true p104
           replace q104 := eq_true q104
           go_enter Try.func72, Try.ntmps72
           go_wp2
           go_ret
           exact ⟨by first | rfl | (simp; done) | (simp only [← hji6] <;> (first | rfl | simp)) | (simp [*]; done), by repeat (first | exact Drawn0.refl _ | apply Drawn0.step)⟩
          ·rw [if_neg c16] at H
           exact absurd H (by simp)
         ·rw [if_neg c15] at H
          exact absurd H (by simp)
        ·replace c14 := Bool.eq_false_iff.mpr c14
         subst c14
         have H1 : (some false) = some r := by rw [if_neg (show ¬ (false = true) by decide)] at H; exact H
         clear H
         have H := H1
         clear H1
         obtain rfl := Option.some.inj H
         have p101 : 0 ≤ ((ji6) : Int) := of_decide_eq_true (by first | (with_reducible assumption) | assumption)
         have q101 : (ji6) < (l1.length : Int) := of_decide_eq_true (by first | (with_reducible assumption) | assumption)
         obtain ⟨ad101, e101, hx101_0⟩ := Kd.at_int HR1.out (ji6) p101 q101
         cases e101
         replace p101 := eq_true p101
         replace q101 := eq_true q101
         have p102 : 0 ≤ (a2 : Int) := of_decide_eq_true (by first | (with_reducible assumption) | assumption)
         have q102 : a2 < (l1.length : Int) := of_decide_eq_true (by first | (with_reducible assumption) | assumption)
         obtain ⟨ad102, e102, hx102_0⟩ := Kd.at_int HR1.out a2 p102 q102
         obtain rfl : ad101 = ad102 := (by injection e102)
         replace p102 := eq_true p102
         replace q102 := eq_true q102
         have p103 : 0 ≤ ((Go.bits .or .i64 (rd l1 a2) a3) : Int) := of_decide_eq_true (by first | (with_reducible assumption) | assumption)
         have q103 : (Go.bits .or .i64 (rd l1 a2) a3) < (l0.length : Int) := of_decide_eq_true (by first | (with_reducible assumption) | assumption)
         obtain ⟨ad103, e103, hx103_0⟩ := Kd.at_bool HR0.out (Go.bits .or .i64 (rd l1 a2) a3) p103 q103
         (try rw [← Nbq13.out] at hx103_0)
         cases e103
         replace p103 := eq_true p103
         replace q103 := eq_true q103
         go_enter Try.func72, Try.ntmps72
         go_wp2
         go_ret
         exact ⟨by first | rfl | (simp; done) | (simp only [← hji6] <;> (first | rfl | simp)) | (simp [*]; done), by repeat (first | exact Drawn0.refl _ | apply Drawn0.step)⟩
       ·rw [if_neg c12] at H
        exact absurd H (by simp)
      ·rw [if_neg c11] at H
       exact absurd H (by simp)
     ·rw [if_neg c10] at H
      exact absurd H (by simp)
    ·rw [if_neg c9] at H
     exact absurd H (by simp)
   ·rw [if_neg c8] at H
    exact absurd H (by simp)
  ·rw [if_neg c7] at H
   exact absurd H (by simp)
 ·rw [if_neg c5] at H
  have c5b0 : decide (0 < a2) = false := decide_eq_false c5
  clear c5
  by_cases c17 : 0 ≤ a2
  ·rw [if_pos c17] at H
   have c17b0 : decide (0 ≤ a2) = true := decide_eq_true c17
   clear c17
   by_cases c18 : a2 < (l1.length : Int)
   ·rw [if_pos c18] at H
    have c18b0 : decide (a2 < (l1.length : Int)) = true := decide_eq_true c18
    clear c18
    by_cases c19 : 0 ≤ (Go.bits .or .i64 (rd l1 a2) a3)
    ·rw [if_pos c19] at H
     have c19b0 : decide (0 ≤ (Go.bits .or .i64 (rd l1 a2) a3)) = true := decide_eq_true c19
     clear c19
     by_cases c20 : (Go.bits .or .i64 (rd l1 a2) a3) < (l0.length : Int)
     ·rw [if_pos c20] at H
      have c20b0 : decide ((Go.bits .or .i64 (rd l1 a2) a3) < (l0.length : Int)) = true := decide_eq_true c20
      clear c20
      obtain ⟨bq21, hbq21⟩ : ∃ b_ : Bool, b_ = (rdOf false l0 (Go.bits .or .i64 (rd l1 a2) a3)) := ⟨_, rfl⟩
      replace H : (if bq21 = true then (if 0 ≤ (Go.bits .or .i64 0 a3) then (if (Go.bits .or .i64 0 a3) < (l0.length : Int) then (some (!(rdOf false l0 (Go.bits .or .i64 0 a3)))) else (none)) else (none)) else (some false)) = some r := by rw [← hbq21] at H; exact H
      have Nbq21 := Aside0.mk hbq21
      clear hbq21
      by_cases c22 : bq21 = true
      ·subst c22
       have H1 : (if 0 ≤ (Go.bits .or .i64 0 a3) then (if (Go.bits .or .i64 0 a3) < (l0.length : Int) then (some (!(rdOf false l0 (Go.bits .or .i64 0 a3)))) else (none)) else (none)) = some r := by rw [if_pos rfl] at H; exact H
       clear H
       have H := H1
       clear H1
       by_cases c23 : 0 ≤ (Go.bits .or .i64 0 a3)
       ·rw [if_pos c23] at H
        have c23b0 : decide (0 ≤ (Go.bits .or .i64 0 a3)) = true := decide_eq_true c23
        clear c23
        by_cases c24 : (Go.bits .or .i64 0 a3) < (l0.length : Int)
        ·rw [if_pos c24] at H
         have c24b0 : decide ((Go.bits .or .i64 0 a3) < (l0.length : Int)) = true := decide_eq_true c24
         clear c24
         obtain rfl := Option.some.inj H
         have p105 : 0 ≤ (a2 : Int) := of_decide_eq_true (by first | (with_reducible assumption) | assumption)
         have q105 : a2 < (l1.length : Int) := of_decide_eq_true (by first | (with_reducible assumption) | assumption)
         obtain ⟨ad105, e105, hx105_0⟩ := Kd.at_int HR1.out a2 p105 q105
         cases e105
         replace p105 := eq_true p105
         replace q105 := eq_true q105
         have p106 : 0 ≤ ((Go.bits .or .i64 (rd l1 a2) a3) : Int) := of_decide_eq_true (by first | (with_reducible assumption) | assumption)
         have q106 : (Go.bits .or .i64 (rd l1 a2) a3) < (l0.length : Int) := of_decide_eq_true (by first | (with_reducible assumption) | assumption)
         obtain ⟨ad106, e106, hx106_0⟩ := Kd.at_bool HR0.out (Go.bits .or .i64 (rd l1 a2) a3) p106 q106
         (try rw [← Nbq21.out] at hx106_0)
         cases e106
         replace p106 := eq_true p106
         replace q106 := eq_true q106
         have p107 : 0 ≤ ((Go.bits .or .i64 0 a3) : Int) := of_decide_eq_true (by first | (with_reducible assumption) | assumption)
         have q107 : (Go.bits .or .i64 0 a3) < (l0.length : Int) := of_decide_eq_true (by first | (with_reducible assumption) | assumption)
         obtain ⟨ad107, e107, hx107_0⟩ := Kd.at_bool HR0.out (Go.bits .or .i64 0 a3) p107 q107
         (try rw [← Nbq21.out] at hx107_0)
         obtain rfl : ad106 = ad107 := (by injection e107)
         replace p107 := eq_true p107
         replace q107 := eq_true q107
         go_enter Try.func72, Try.ntmps72
         go_wp2
         go_ret
         exact ⟨by first | rfl | (simp; done) | (simp [*]; done), by repeat (first | exact Drawn0.refl _ | apply Drawn0.step)⟩
        ·rw [if_neg c24] at H
         exact absurd H (by simp)
       ·rw [if_neg c23] at H
        exact absurd H (by simp)
      ·replace c22 := Bool.eq_false_iff.mpr c22
       subst c22
       have H1 : (some false) = some r := by rw [if_neg (show ¬ (false = true) by decide)] at H; exact H
       clear H
       have H := H1
       clear H1
       obtain rfl := Option.some.inj H
       have p105 : 0 ≤ (a2 : Int) := of_decide_eq_true (by first | (with_reducible assumption) | assumption)
       have q105 : a2 < (l1.length : Int) := of_decide_eq_true (by first | (with_reducible assumption) | assumption)
       obtain ⟨ad105, e105, hx105_0⟩ := Kd.at_int HR1.out a2 p105 q105
       cases e105
       replace p105 := eq_true p105
       replace q105 := eq_true q105
       have p106 : 0 ≤ ((Go.bits .or .i64 (rd l1 a2) a3) : Int) := of_decide_eq_true (by first | (with_reducible assumption) | assumption)
       have q106 : (Go.bits .or .i64 (rd l1 a2) a3) < (l0.length : Int) := of_decide_eq_true (by first | (with_reducible assumption) | assumption)
       obtain ⟨ad106, e106, hx106_0⟩ := Kd.at_bool HR0.out (Go.bits .or .i64 (rd l1 a2) a3) p106 q106
       (try rw [← Nbq21.out] at hx106_0)
       cases e106
       replace p106 := eq_true p106
       replace q106 := eq_true q106
       go_enter Try.func72, Try.ntmps72
       go_wp2
       go_ret
       exact ⟨by first | rfl | (simp; done) | (simp [*]; done), by repeat (first | exact Drawn0.refl _ | apply Drawn0.step)⟩
     ·rw [if_neg c20] at H
      exact absurd H (by simp)
    ·rw [if_neg c19] at H
     exact absurd H (by simp)
   ·rw [if_neg c18] at H
    exact absurd H (by simp)
  ·rw [if_neg c17] at H
   exact absurd H (by simp)
end Go.Proofs.Ytfojpiojhcdgoaa.F
end
section
namespace Go.Proofs.Ytfojpiojhcdgoaa.F
open Go.RowKit Go.Proofs.YtfojpiojhcdgoaaW.PrintWords Go.Proofs.YtfojpiojhcdgoaaW.PrintLast Go.Proofs.YtfojpiojhcdgoaaW.PrintMore
attribute [local go_sem] max2_int min2_int max_two min_two max_three min_three max_four min_four
set_option linter.unusedVariables false
set_option linter.unusedSimpArgs false
def spec_l07Worth.f (l0 : List Bool) (a1 : Int) (a2 : Int) : Option (Int) := if 0 ≤ a1 then (if a1 < (l0.length : Int) then (if rdOf false l0 a1 = true then (some (wrap64 (a2 + 1))) else (some a2)) else (none)) else (none)
set_option maxHeartbeats 8000000 in
set_option maxRecDepth 100000 in
theorem spec_l07Worth.calls (A0 : Option Addr) (c0 : Nat) (l0 : List Bool) (a1 : Int) (a2 : Int) (r : Int) (w : World) (hr0 : Kd.C Kd.bool w A0 l0.length l0) (hc0 : l0.length ≤ c0) (h : spec_l07Worth.f l0 a1 a2 = some r) :
  Calls Try.prog 73 #[.slice A0 l0.length c0, .int .i64 a1, .int .i64 a2] w fun e w' => e = .returned (.int .i64 r) ∧ Drawn0 w w' := by
 have HR0 := Aside0.mk hr0
 have HC0 := Aside0.mk hc0
 clear hr0 hc0
 have H : (if 0 ≤ a1 then (if a1 < (l0.length : Int) then (if rdOf false l0 a1 = true then (some (wrap64 (a2 + 1))) else (some a2)) else (none)) else (none)) = some r := h
 clear h
 by_cases c4 : 0 ≤ a1
 ·rw [if_pos c4] at H
  have c4b0 : decide (0 ≤ a1) = true := decide_eq_true c4
  clear c4
  by_cases c5 : a1 < (l0.length : Int)
  ·rw [if_pos c5] at H
   have c5b0 : decide (a1 < (l0.length : Int)) = true := decide_eq_true c5
   clear c5
   obtain ⟨bq6, hbq6⟩ : ∃ b_ : Bool, b_ = (rdOf false l0 a1) := ⟨_, rfl⟩
   replace H : (if bq6 = true then (some (wrap64 (a2 + 1))) else (some a2)) = some r := by rw [← hbq6] at H; exact H
   have Nbq6 := Aside0.mk hbq6
   clear hbq6
   by_cases c7 : bq6 = true
   ·subst c7
    have H1 : (some (wrap64 (a2 + 1))) = some r := by rw [if_pos rfl] at H; exact H
    clear H
    have H := H1
    clear H1
    obtain rfl := Option.some.inj H
    have p101 : 0 ≤ (a1 : Int) := of_decide_eq_true (by first | (with_reducible assumption) | assumption)
    have q101 : a1 < (l0.length : Int) := of_decide_eq_true (by first | (with_reducible assumption) | assumption)
    obtain ⟨ad101, e101, hx101_0⟩ := Kd.at_bool HR0.out a1 p101 q101
    (try rw [← Nbq6.out] at hx101_0)
    cases e101
    replace p101 := eq_true p101
    replace q101 := eq_true q101
    go_enter Try.func73, Try.ntmps73
    go_wp2
    go_ret
    exact ⟨by first | rfl | (simp; done) | (simp [*]; done), by repeat (first | exact Drawn0.refl _ | apply Drawn0.step)⟩
   ·replace c7 := Bool.eq_false_iff.mpr c7
    subst c7
    have H1 : (some a2) = some r := by rw [if_neg (show ¬ (false = true) by decide)] at H; exact H
    clear H
    have H := H1
    clear H1
    obtain rfl := Option.some.inj H
    have p101 : 0 ≤ (a1 : Int) := of_decide_eq_true (by first | (with_reducible assumption) | assumption)
    have q101 : a1 < (l0.length : Int) := of_decide_eq_true (by first | (with_reducible assumption) | assumption)
    obtain ⟨ad101, e101, hx101_0⟩ := Kd.at_bool HR0.out a1 p101 q101
    (try rw [← Nbq6.out] at hx101_0)
    cases e101
    replace p101 := eq_true p101
    replace q101 := eq_true q101
    go_enter Try.func73, Try.ntmps73
    go_wp2
    go_ret
    exact ⟨by first | rfl | (simp; done) | (simp [*]; done), by repeat (first | exact Drawn0.refl _ | apply Drawn0.step)⟩
  ·rw [if_neg c5] at H
   exact absurd H (by simp)
 ·rw [if_neg c4] at H
  exact absurd H (by simp)
end Go.Proofs.Ytfojpiojhcdgoaa.F
end
