/- Texts of this seat, one behind the other. -/
import Derived.BigRegion
import Derived.Lib.Hide
import Derived.RangeFuncNested
import Derived.RangeFuncBound
import Derived.RangeFuncCalls
import Derived.RangeFuncLeaves
import Derived.Shelf.Abstract
import Derived.Shelf.RegionOpen
import Derived.OwnWalkIn
import Derived.TacticsInMore
import Derived.LoopNIn
import Derived.LoopIn
import Derived.RangeFuncBox
import Derived.Maps.AppendAt
import Derived.Test.YthcmfjpheanphaaXTreeParses1
set_option linter.unusedVariables false
set_option linter.unusedSimpArgs false
namespace Go.Proofs.Ythcmfjpheanphaa.Pr
open Go.RowKit Go.Proofs.YthcmfjpheanphaaW.PrintWords Go.Proofs.YthcmfjpheanphaaW.PrintLast Go.Proofs.YthcmfjpheanphaaW.PrintMore
attribute [local go_sem] max2_int min2_int max_two min_two max_three min_three max_four min_four
def stylusref04_Same.l0 : Nat → List (S56) → List (S56) → Int → Option (Bool)
 | 0, _, _, _ => none
 | k + 1, x0, x1, x5 => if x5 < (x0.length : Int) then (if 0 ≤ x5 then (if x5 < (x1.length : Int) then (if ((rd_T56 x0 x5).f0) = ((rd_T56 x1 x5).f0) then (if ((rd_T56 x0 x5).f1).toList = ((rd_T56 x1 x5).f1).toList then (if ((rd_T56 x0 x5).f3) = ((rd_T56 x1 x5).f3) then (stylusref04_Same.l0 k x0 x1 (wrap64 (x5 + 1))) else (some false)) else (some false)) else (some false)) else (none)) else (none)) else (some true)
def stylusref04_Same.f (k : Nat) (l0 : List (S56)) (l1 : List (S56)) : Option (Bool) := if (l0.length : Int) = (l1.length : Int) then (stylusref04_Same.l0 k l0 l1 0) else (some false)
theorem stylusref04_Same.mono_l : ∀ k, (∀ y0 y1 y2, LeO (stylusref04_Same.l0 k y0 y1 y2) (stylusref04_Same.l0 (k + 1) y0 y1 y2))
 | 0 => fun _ _ _ r h => by simp [stylusref04_Same.l0] at h
 | k + 1 => by
  have ih0 := stylusref04_Same.mono_l k
  ·intro y0 y1 y2
   unfold stylusref04_Same.l0
   repeat' first
   | (with_reducible exact ih0 _ _ _)
   | (with_reducible exact LeO.refl _)
   | (with_reducible exact LeO.none _)
   | (with_reducible refine LeO.ite ?_ ?_)
   | (with_reducible refine LeO.bind ?_ (fun _ => ?_))
   | exact ih0 _ _ _
   | exact LeO.none _
   | refine LeO.ite ?_ ?_
   | refine LeO.bind ?_ (fun _ => ?_)
theorem stylusref04_Same.mono : ∀ a0 a1 k, LeO (stylusref04_Same.f k a0 a1) (stylusref04_Same.f (k + 1) a0 a1) := by
 intro a0 a1 k
 have ih0 := stylusref04_Same.mono_l k
 unfold stylusref04_Same.f
 repeat' first
   | (with_reducible exact ih0 _ _ _)
   | (with_reducible exact LeO.refl _)
   | (with_reducible exact LeO.none _)
   | (with_reducible refine LeO.ite ?_ ?_)
   | (with_reducible refine LeO.bind ?_ (fun _ => ?_))
   | exact ih0 _ _ _
   | exact LeO.none _
   | refine LeO.ite ?_ ?_
   | refine LeO.bind ?_ (fun _ => ?_)
set_option maxHeartbeats 8000000 in
set_option maxRecDepth 100000 in
theorem stylusref04_Same.calls (k : Nat) (A0 : Option Addr) (c0 : Nat) (l0 : List (S56)) (A1 : Option Addr) (c1 : Nat) (l1 : List (S56)) (r : Bool) (w : World) (hr0 : Kd.C k56 w A0 l0.length l0) (hc0 : l0.length ≤ c0) (hr1 : Kd.C k56 w A1 l1.length l1) (hc1 : l1.length ≤ c1) (h : stylusref04_Same.f k l0 l1 = some r) :
  Calls Try.prog 61 #[.slice A0 l0.length c0, .slice A1 l1.length c1] w fun e w' => e = .returned (.bool r) ∧ Drawn0 w w' := by
 have HR0 := Aside0.mk hr0
 have HC0 := Aside0.mk hc0
 clear hr0 hc0
 have HR1 := Aside0.mk hr1
 have HC1 := Aside0.mk hc1
 clear hr1 hc1
 have H : (if (l0.length : Int) = (l1.length : Int) then (stylusref04_Same.l0 k l0 l1 0) else (some false)) = some r := h
 clear h
 by_cases c3 : (l0.length : Int) = (l1.length : Int)
 ·rw [if_pos c3] at H
  have c3b0 : ((l0.length : Int) == (l1.length : Int)) = true := beq_iff_eq.mpr c3
  have c3b1 : ((l0.length : Int) != (l1.length : Int)) = false := bne_eq_false_iff_eq.mpr c3
  have c3b2 : (l0.length == l1.length) = true := by first | simpa using c3 | (simp at c3 ⊢; omega)
  clear c3
  have H' := Aside0.mk H
  clear H
  go_enter Try.func61, Try.ntmps61
  go_wp2
  repeat (go_quiet (fail); try go_wp2)
  go_loopg [5] k (fun kq v5 w' => ∃ (x5_1 : Int), v5 = .int .i64 x5_1 ∧ Aside0 (stylusref04_Same.l0 kq l0 l1 x5_1 = some r) ∧ Aside0 (kq ≤ k) ∧ Drawn0 w w')
  case atStart => exact ⟨(0), (by first | rfl | (simp; done) | (simp [*]; done)), H', ⟨Nat.le_refl _⟩, by repeat (first | exact Drawn0.refl _ | apply Drawn0.step)⟩
  case round =>
   clear H'
   try clear c1
   try clear p2
   try clear c3
   try clear c3b0
   try clear c3b1
   try clear c3b2
   obtain ⟨x5_1, rfl, HA, HK1, ⟨m1, rfl⟩⟩ := hrel
   cases gk with
   | zero => exact absurd HA.out (by simp [stylusref04_Same.l0])
   | succ k1 =>
    have H := HA.out
    clear HA
    simp only [stylusref04_Same.l0] at H
    by_cases c4 : x5_1 < (l0.length : Int)
    ·rw [if_pos c4] at H
     have c4b0 : decide (x5_1 < (l0.length : Int)) = true := decide_eq_true c4
     clear c4
     by_cases c5 : 0 ≤ x5_1
     ·rw [if_pos c5] at H
      have c5b0 : decide (0 ≤ x5_1) = true := decide_eq_true c5
      clear c5
      by_cases c6 : x5_1 < (l1.length : Int)
      ·rw [if_pos c6] at H
       have c6b0 : decide (x5_1 < (l1.length : Int)) = true := decide_eq_true c6
       clear c6
       by_cases c7 : ((rd_T56 l0 x5_1).f0) = ((rd_T56 l1 x5_1).f0)
       ·rw [if_pos c7] at H
        have c7b0 : (((rd_T56 l0 x5_1).f0) == ((rd_T56 l1 x5_1).f0)) = true := beq_iff_eq.mpr c7
        have c7b1 : (((rd_T56 l0 x5_1).f0) != ((rd_T56 l1 x5_1).f0)) = false := bne_eq_false_iff_eq.mpr c7
        clear c7
        by_cases c8 : ((rd_T56 l0 x5_1).f1).toList = ((rd_T56 l1 x5_1).f1).toList
        ·rw [if_pos c8] at H
         have c8b0 : (((rd_T56 l0 x5_1).f1).toList == ((rd_T56 l1 x5_1).f1).toList) = true := beq_iff_eq.mpr c8
         have c8b1 : (((rd_T56 l0 x5_1).f1).toList != ((rd_T56 l1 x5_1).f1).toList) = false := bne_eq_false_iff_eq.mpr c8
         clear c8
         by_cases c9 : ((rd_T56 l0 x5_1).f3) = ((rd_T56 l1 x5_1).f3)
         ·rw [if_pos c9] at H
          have c9b0 : (((rd_T56 l0 x5_1).f3) == ((rd_T56 l1 x5_1).f3)) = true := beq_iff_eq.mpr c9
          have c9b1 : (((rd_T56 l0 x5_1).f3) != ((rd_T56 l1 x5_1).f3)) = false := bne_eq_false_iff_eq.mpr c9
          clear c9
          have H' := Aside0.mk H
          clear H
          have p216 : 0 ≤ (x5_1 : Int) := of_decide_eq_true (by first | (with_reducible assumption) | assumption)
          have q216 : x5_1 < (l0.length : Int) := of_decide_eq_true (by first | (with_reducible assumption) | assumption)
          obtain ⟨ad216, e216, hx216_0, hx216_1, hx216_2, hx216_3⟩ := at_T56 HR0.out x5_1 p216 q216
          cases e216
          replace p216 := eq_true p216
          replace q216 := eq_true q216
          have p217 : 0 ≤ (x5_1 : Int) := of_decide_eq_true (by first | (with_reducible assumption) | assumption)
          have q217 : x5_1 < (l1.length : Int) := of_decide_eq_true (by first | (with_reducible assumption) | assumption)
          obtain ⟨ad217, e217, hx217_0, hx217_1, hx217_2, hx217_3⟩ := at_T56 HR1.out x5_1 p217 q217
          cases e217
          replace p217 := eq_true p217
          replace q217 := eq_true q217
          have p218 : 0 ≤ (x5_1 : Int) := of_decide_eq_true (by first | (with_reducible assumption) | assumption)
          have q218 : x5_1 < (l0.length : Int) := of_decide_eq_true (by first | (with_reducible assumption) | assumption)
          obtain ⟨ad218, e218, hx218_0, hx218_1, hx218_2, hx218_3⟩ := at_T56 HR0.out x5_1 p218 q218
          obtain rfl : ad216 = ad218 := (by injection e218)
          replace p218 := eq_true p218
          replace q218 := eq_true q218
          have p219 : 0 ≤ (x5_1 : Int) := of_decide_eq_true (by first | (with_reducible assumption) | assumption)
          have q219 : x5_1 < (l1.length : Int) := of_decide_eq_true (by first | (with_reducible assumption) | assumption)
          obtain ⟨ad219, e219, hx219_0, hx219_1, hx219_2, hx219_3⟩ := at_T56 HR1.out x5_1 p219 q219
          obtain rfl : ad217 = ad219 := (by injection e219)
          replace p219 := eq_true p219
          replace q219 := eq_true q219
          have p220 : 0 ≤ (x5_1 : Int) := of_decide_eq_true (by first | (with_reducible assumption) | assumption)
          have q220 : x5_1 < (l0.length : Int) := of_decide_eq_true (by first | (with_reducible assumption) | assumption)
          obtain ⟨ad220, e220, hx220_0, hx220_1, hx220_2, hx220_3⟩ := at_T56 HR0.out x5_1 p220 q220
          obtain rfl : ad216 = ad220 := (by injection e220)
          replace p220 := eq_true p220
          replace q220 := eq_true q220
          have p221 : 0 ≤ (x5_1 : Int) := of_decide_eq_true (by first | (with_reducible assumption) | assumption)
          have q221 : x5_1 < (l1.length : Int) := of_decide_eq_true (by first | (with_reducible assumption) | assumption)
          obtain ⟨ad221, e221, hx221_0, hx221_1, hx221_2, hx221_3⟩ := at_T56 HR1.out x5_1 p221 q221
          obtain rfl : ad217 = ad221 := (by injection e221)
          replace p221 := eq_true p221
          replace q221 := eq_true q221
          go_wp2
          repeat (go_quiet (fail); try go_wp2)
          go_roundg k1
          case measure => have := HK1.out; omega
          case rel => exact ⟨(wrap64 (x5_1 + 1)), (by first | rfl | (simp; done) | (simp [*]; done)), H', ⟨by have := HK1.out; omega⟩, by repeat (first | exact Drawn0.refl _ | apply Drawn0.step)⟩
         ·rw [if_neg c9] at H
          have c9b0 : (((rd_T56 l0 x5_1).f3) == ((rd_T56 l1 x5_1).f3)) = false := beq_eq_false_iff_ne.mpr c9
          have c9b1 : (((rd_T56 l0 x5_1).f3) != ((rd_T56 l1 x5_1).f3)) = true := bne_iff_ne.mpr c9
          obtain rfl := Option.some.inj H
          have p216 : 0 ≤ (x5_1 : Int) := of_decide_eq_true (by first | (with_reducible assumption) | assumption)
          have q216 : x5_1 < (l0.length : Int) := of_decide_eq_true (by first | (with_reducible assumption) | assumption)
          obtain ⟨ad216, e216, hx216_0, hx216_1, hx216_2, hx216_3⟩ := at_T56 HR0.out x5_1 p216 q216
          cases e216
          replace p216 := eq_true p216
          replace q216 := eq_true q216
          have p217 : 0 ≤ (x5_1 : Int) := of_decide_eq_true (by first | (with_reducible assumption) | assumption)
          have q217 : x5_1 < (l1.length : Int) := of_decide_eq_true (by first | (with_reducible assumption) | assumption)
          obtain ⟨ad217, e217, hx217_0, hx217_1, hx217_2, hx217_3⟩ := at_T56 HR1.out x5_1 p217 q217
          cases e217
          replace p217 := eq_true p217
          replace q217 := eq_true q217
          have p218 : 0 ≤ (x5_1 : Int) := of_decide_eq_true (by first | (with_reducible assumption) | assumption)
          have q218 : x5_1 < (l0.length : Int) := of_decide_eq_true (by first | (with_reducible assumption) | assumption)
          obtain ⟨ad218, e218, hx218_0, hx218_1, hx218_2, hx218_3⟩ := at_T56 HR0.out x5_1 p218 q218
          obtain rfl : ad216 = ad218 := (by injection e218)
          replace p218 := eq_true p218
          replace q218 := eq_true q218
          have p219 : 0 ≤ (x5_1 : Int) := of_decide_eq_true (by first | (with_reducible assumption) | assumption)
          have q219 : x5_1 < (l1.length : Int) := of_decide_eq_true (by first | (with_reducible assumption) | assumption)
          obtain ⟨ad219, e219, hx219_0, hx219_1, hx219_2, hx219_3⟩ := at_T56 HR1.out x5_1 p219 q219
          obtain rfl : ad217 = ad219 := (by injection e219)
          replace p219 := eq_true p219
          replace q219 := eq_true q219
          have p220 : 0 ≤ (x5_1 : Int) := of_decide_eq_true (by first | (with_reducible assumption) | assumption)
          have q220 : x5_1 < (l0.length : Int) := of_decide_eq_true (by first | (with_reducible assumption) | assumption)
          obtain ⟨ad220, e220, hx220_0, hx220_1, hx220_2, hx220_3⟩ := at_T56 HR0.out x5_1 p220 q220
          obtain rfl : ad216 = ad220 := (by injection e220)
          replace p220 := eq_true p220
          replace q220 := eq_true q220
          have p221 : 0 ≤ (x5_1 : Int) := of_decide_eq_true (by first | (with_reducible assumption) | assumption)
          have q221 : x5_1 < (l1.length : Int) := of_decide_eq_true (by first | (with_reducible assumption) | assumption)
          obtain ⟨ad221, e221, hx221_0, hx221_1, hx221_2, hx221_3⟩ := at_T56 HR1.out x5_1 p221 q221
          obtain rfl : ad217 = ad221 := (by injection e221)
          replace p221 := eq_true p221
          replace q221 := eq_true q221
          go_wp2
          repeat (go_quiet (fail); try go_wp2)
          go_ret
          exact ⟨by first | rfl | (simp; done) | (simp [*]; done), by repeat (first | exact Drawn0.refl _ | apply Drawn0.step)⟩
        ·rw [if_neg c8] at H
         have c8b0 : (((rd_T56 l0 x5_1).f1).toList == ((rd_T56 l1 x5_1).f1).toList) = false := beq_eq_false_iff_ne.mpr c8
         have c8b1 : (((rd_T56 l0 x5_1).f1).toList != ((rd_T56 l1 x5_1).f1).toList) = true := bne_iff_ne.mpr c8
         obtain rfl := Option.some.inj H
         have p216 : 0 ≤ (x5_1 : Int) := of_decide_eq_true (by first | (with_reducible assumption) | assumption)
         have q216 : x5_1 < (l0.length : Int) := of_decide_eq_true (by first | (with_reducible assumption) | assumption)
         obtain ⟨ad216, e216, hx216_0, hx216_1, hx216_2, hx216_3⟩ := at_T56 HR0.out x5_1 p216 q216
         cases e216
         replace p216 := eq_true p216
         replace q216 := eq_true q216
         have p217 : 0 ≤ (x5_1 : Int) := of_decide_eq_true (by first | (with_reducible assumption) | assumption)
         have q217 : x5_1 < (l1.length : Int) := of_decide_eq_true (by first | (with_reducible assumption) | assumption)
         obtain ⟨ad217, e217, hx217_0, hx217_1, hx217_2, hx217_3⟩ := at_T56 HR1.out x5_1 p217 q217
         cases e217
         replace p217 := eq_true p217
         replace q217 := eq_true q217
         have p218 : 0 ≤ (x5_1 : Int) := of_decide_eq_true (by first | (with_reducible assumption) | assumption)
         have q218 : x5_1 < (l0.length : Int) := of_decide_eq_true (by first | (with_reducible assumption) | assumption)
         obtain ⟨ad218, e218, hx218_0, hx218_1, hx218_2, hx218_3⟩ := at_T56 HR0.out x5_1 p218 q218
         obtain rfl : ad216 = ad218 := (by injection e218)
         replace p218 := eq_true p218
         replace q218 := eq_true q218
         have p219 : 0 ≤ (x5_1 : Int) := of_decide_eq_true (by first | (with_reducible assumption) | assumption)
         have q219 : x5_1 < (l1.length : Int) := of_decide_eq_true (by first | (with_reducible assumption) | assumption)
         obtain ⟨ad219, e219, hx219_0, hx219_1, hx219_2, hx219_3⟩ := at_T56 HR1.out x5_1 p219 q219
         obtain rfl : ad217 = ad219 := (by injection e219)
         replace p219 := eq_true p219
         replace q219 := eq_true q219
         go_wp2
         repeat (go_quiet (fail); try go_wp2)
         go_ret
         exact ⟨by first | rfl | (simp; done) | (simp [*]; done), by repeat (first | exact Drawn0.refl _ | apply Drawn0.step)⟩
       ·rw [if_neg c7] at H
        have c7b0 : (((rd_T56 l0 x5_1).f0) == ((rd_T56 l1 x5_1).f0)) = false := beq_eq_false_iff_ne.mpr c7
        have c7b1 : (((rd_T56 l0 x5_1).f0) != ((rd_T56 l1 x5_1).f0)) = true := bne_iff_ne.mpr c7
        obtain rfl := Option.some.inj H
        have p216 : 0 ≤ (x5_1 : Int) := of_decide_eq_true (by first | (with_reducible assumption) | assumption)
        have q216 : x5_1 < (l0.length : Int) := of_decide_eq_true (by first | (with_reducible assumption) | assumption)
        obtain ⟨ad216, e216, hx216_0, hx216_1, hx216_2, hx216_3⟩ := at_T56 HR0.out x5_1 p216 q216
        cases e216
        replace p216 := eq_true p216
        replace q216 := eq_true q216
        have p217 : 0 ≤ (x5_1 : Int) := of_decide_eq_true (by first | (with_reducible assumption) | assumption)
        have q217 : x5_1 < (l1.length : Int) := of_decide_eq_true (by first | (with_reducible assumption) | assumption)
        obtain ⟨ad217, e217, hx217_0, hx217_1, hx217_2, hx217_3⟩ := at_T56 HR1.out x5_1 p217 q217
        cases e217
        replace p217 := eq_true p217
        replace q217 := eq_true q217
        go_wp2
        repeat (go_quiet (fail); try go_wp2)
        go_ret
        exact ⟨by first | rfl | (simp; done) | (simp [*]; done), by repeat (first | exact Drawn0.refl _ | apply Drawn0.step)⟩
      ·rw [if_neg c6] at H
       exact absurd H (by simp)
     ·rw [if_neg c5] at H
      exact absurd H (by simp)
    ·rw [if_neg c4] at H
     have c4b0 : decide (x5_1 < (l0.length : Int)) = false := decide_eq_false c4
     clear c4
     obtain rfl := Option.some.inj H
     go_wp2
     repeat (go_quiet (fail); try go_wp2)
     go_ret
     exact ⟨by first | rfl | (simp; done) | (simp [*]; done), by repeat (first | exact Drawn0.refl _ | apply Drawn0.step)⟩
 ·rw [if_neg c3] at H
  have c3b0 : ((l0.length : Int) == (l1.length : Int)) = false := beq_eq_false_iff_ne.mpr c3
  have c3b1 : ((l0.length : Int) != (l1.length : Int)) = true := bne_iff_ne.mpr c3
  have c3b2 : (l0.length == l1.length) = false := by first | simpa using c3 | (simp at c3 ⊢; omega)
  obtain rfl := Option.some.inj H
  go_enter Try.func61, Try.ntmps61
  go_wp2
  repeat (go_quiet (fail); try go_wp2)
  go_ret
  exact ⟨by first | rfl | (simp; done) | (simp [*]; done), by repeat (first | exact Drawn0.refl _ | apply Drawn0.step)⟩
mutual
def stylusref04_Like.l0 : Nat → List (S56) → List (S56) → Int → Option (Bool)
 | 0, _, _, _ => none
 | k + 1, x0, x1, x5 => if x5 < (x0.length : Int) then (stylusref04_Like.j1 k x0 x1 x5 (decide (x5 < (x1.length : Int)))) else (stylusref04_Like.j1 k x0 x1 x5 false)
def stylusref04_Like.j1 : Nat → List (S56) → List (S56) → Int → Bool → Option (Bool)
 | 0, _, _, _, _ => none
 | k + 1, x0, x1, x5, x15 => if x15 = true then (if 0 ≤ x5 then (if x5 < (x0.length : Int) then (if x5 < (x1.length : Int) then (if ((rd_T56 x0 x5).f2) = ((rd_T56 x1 x5).f2) then (stylusref04_Like.l0 k x0 x1 (wrap64 (x5 + 1))) else (some false)) else (none)) else (none)) else (none)) else ((stylusref04_Same.f k x0 x1).bind fun t224 => (some t224))
end
def stylusref04_Like.f (k : Nat) (l0 : List (S56)) (l1 : List (S56)) : Option (Bool) := stylusref04_Like.l0 k l0 l1 0
theorem stylusref04_Like.mono_l : ∀ k, (∀ y0 y1 y2, LeO (stylusref04_Like.l0 k y0 y1 y2) (stylusref04_Like.l0 (k + 1) y0 y1 y2)) ∧ (∀ y0 y1 y2 y3, LeO (stylusref04_Like.j1 k y0 y1 y2 y3) (stylusref04_Like.j1 (k + 1) y0 y1 y2 y3))
 | 0 => ⟨fun _ _ _ r h => by simp [stylusref04_Like.l0] at h, fun _ _ _ _ r h => by simp [stylusref04_Like.j1] at h⟩
 | k + 1 => by
  obtain ⟨ih0, ih1⟩ := stylusref04_Like.mono_l k
  refine ⟨?_, ?_⟩
  ·intro y0 y1 y2
   unfold stylusref04_Like.l0
   repeat' first
   | (with_reducible exact ih0 _ _ _)
   | (with_reducible exact ih1 _ _ _ _)
   | (with_reducible exact stylusref04_Same.mono _ _ _)
   | (with_reducible exact LeO.refl _)
   | (with_reducible exact LeO.none _)
   | (with_reducible refine LeO.ite ?_ ?_)
   | (with_reducible refine LeO.bind ?_ (fun _ => ?_))
   | exact ih0 _ _ _
   | exact ih1 _ _ _ _
   | exact stylusref04_Same.mono _ _ _
   | exact LeO.none _
   | refine LeO.ite ?_ ?_
   | refine LeO.bind ?_ (fun _ => ?_)
  ·intro y0 y1 y2 y3
   unfold stylusref04_Like.j1
   repeat' first
   | (with_reducible exact ih0 _ _ _)
   | (with_reducible exact ih1 _ _ _ _)
   | (with_reducible exact stylusref04_Same.mono _ _ _)
   | (with_reducible exact LeO.refl _)
   | (with_reducible exact LeO.none _)
   | (with_reducible refine LeO.ite ?_ ?_)
   | (with_reducible refine LeO.bind ?_ (fun _ => ?_))
   | exact ih0 _ _ _
   | exact ih1 _ _ _ _
   | exact stylusref04_Same.mono _ _ _
   | exact LeO.none _
   | refine LeO.ite ?_ ?_
   | refine LeO.bind ?_ (fun _ => ?_)
theorem stylusref04_Like.mono : ∀ a0 a1 k, LeO (stylusref04_Like.f k a0 a1) (stylusref04_Like.f (k + 1) a0 a1) := by
 intro a0 a1 k
 obtain ⟨ih0, ih1⟩ := stylusref04_Like.mono_l k
 unfold stylusref04_Like.f
 repeat' first
   | (with_reducible exact ih0 _ _ _)
   | (with_reducible exact ih1 _ _ _ _)
   | (with_reducible exact stylusref04_Same.mono _ _ _)
   | (with_reducible exact LeO.refl _)
   | (with_reducible exact LeO.none _)
   | (with_reducible refine LeO.ite ?_ ?_)
   | (with_reducible refine LeO.bind ?_ (fun _ => ?_))
   | exact ih0 _ _ _
   | exact ih1 _ _ _ _
   | exact stylusref04_Same.mono _ _ _
   | exact LeO.none _
   | refine LeO.ite ?_ ?_
   | refine LeO.bind ?_ (fun _ => ?_)
set_option maxHeartbeats 8000000 in
set_option maxRecDepth 100000 in
theorem stylusref04_Like.calls (k : Nat) (A0 : Option Addr) (c0 : Nat) (l0 : List (S56)) (A1 : Option Addr) (c1 : Nat) (l1 : List (S56)) (r : Bool) (w : World) (hr0 : Kd.C k56 w A0 l0.length l0) (hc0 : l0.length ≤ c0) (hr1 : Kd.C k56 w A1 l1.length l1) (hc1 : l1.length ≤ c1) (h : stylusref04_Like.f k l0 l1 = some r) :
  Calls Try.prog 55 #[.slice A0 l0.length c0, .slice A1 l1.length c1] w fun e w' => e = .returned (.bool r) ∧ Drawn0 w w' := by
 have HR0 := Aside0.mk hr0
 have HC0 := Aside0.mk hc0
 clear hr0 hc0
 have HR1 := Aside0.mk hr1
 have HC1 := Aside0.mk hc1
 clear hr1 hc1
 have H : (stylusref04_Like.l0 k l0 l1 0) = some r := h
 clear h
 have H' := Aside0.mk H
 clear H
 go_enter Try.func55, Try.ntmps55
 go_wp2
 repeat (go_quiet (fail); try go_wp2)
 go_loopg [5] k (fun kq v5 w' => ∃ (x5_1 : Int), v5 = .int .i64 x5_1 ∧ Aside0 (stylusref04_Like.l0 kq l0 l1 x5_1 = some r) ∧ Aside0 (kq ≤ k) ∧ Drawn0 w w')
 case atStart => exact ⟨(0), (by first | rfl | (simp; done) | (simp [*]; done)), H', ⟨Nat.le_refl _⟩, by repeat (first | exact Drawn0.refl _ | apply Drawn0.step)⟩
 case round =>
  clear H'
  try clear c1
  try clear p2
  obtain ⟨x5_1, rfl, HA, HK1, ⟨m1, rfl⟩⟩ := hrel
  cases gk with
  | zero => exact absurd HA.out (by simp [stylusref04_Like.l0])
  | succ k1 =>
   have H := HA.out
   clear HA
   simp only [stylusref04_Like.l0] at H
   have HC3 := Aside0.mk H
   clear H
   go_upto_region 2 with (fail)
   repeat (go_quiet (fail); go_upto_region 2 with (fail))
   go_cut [15] (fun v15 wc => ∃ (kq : Nat) (x15_2 : Bool), v15 = .bool x15_2 ∧ Aside0 (stylusref04_Like.j1 kq l0 l1 x5_1 x15_2 = some r) ∧ Aside0 (kq ≤ k1) ∧ Drawn0 w wc)
   case first =>
    have H := HC3.out
    clear HC3
    by_cases c4 : x5_1 < (l0.length : Int)
    ·rw [if_pos c4] at H
     have c4b0 : decide (x5_1 < (l0.length : Int)) = true := decide_eq_true c4
     clear c4
     (first | rw [c4b0] | (simp only [i64_w, i32_w]; rw [c4b0]) | skip)
     have H' := Aside0.mk H
     clear H
     go_wp2
     repeat (go_quiet (fail); try go_wp2)
     go_meet
     case rel => exact ⟨_, (decide (x5_1 < (l1.length : Int))), (by first | rfl | (simp; done) | (simp [*]; done)), H', ⟨by have := HK1.out; first | omega | exact Nat.le_refl _⟩, by repeat (first | exact Drawn0.refl _ | apply Drawn0.step)⟩
    ·rw [if_neg c4] at H
     have c4b0 : decide (x5_1 < (l0.length : Int)) = false := decide_eq_false c4
     clear c4
     (first | rw [c4b0] | (simp only [i64_w, i32_w]; rw [c4b0]) | skip)
     have H' := Aside0.mk H
     clear H
     go_wp2
     repeat (go_quiet (fail); try go_wp2)
     go_meet
     case rel => exact ⟨_, (false), (by first | rfl | (simp; done) | (simp [*]; done)), H', ⟨by have := HK1.out; first | omega | exact Nat.le_refl _⟩, by repeat (first | exact Drawn0.refl _ | apply Drawn0.step)⟩
   case rest =>
    clear HC3
    try clear c1
    try clear p2
    try clear c4
    try clear c4b0
    try clear p2
    obtain ⟨kq, x15_2, rfl, HA, HJ2, ⟨mc2, rfl⟩⟩ := hcut
    cases kq with
    | zero => exact absurd HA.out (by simp [stylusref04_Like.j1])
    | succ kj2 =>
     have H := HA.out
     clear HA
     simp only [stylusref04_Like.j1] at H
     by_cases c5 : x15_2 = true
     ·subst c5
      have H1 : (if 0 ≤ x5_1 then (if x5_1 < (l0.length : Int) then (if x5_1 < (l1.length : Int) then (if ((rd_T56 l0 x5_1).f2) = ((rd_T56 l1 x5_1).f2) then (stylusref04_Like.l0 kj2 l0 l1 (wrap64 (x5_1 + 1))) else (some false)) else (none)) else (none)) else (none)) = some r := by rw [if_pos rfl] at H; exact H
      clear H
      have H := H1
      clear H1
      by_cases c6 : 0 ≤ x5_1
      ·rw [if_pos c6] at H
       have c6b0 : decide (0 ≤ x5_1) = true := decide_eq_true c6
       clear c6
       by_cases c7 : x5_1 < (l0.length : Int)
       ·rw [if_pos c7] at H
        have c7b0 : decide (x5_1 < (l0.length : Int)) = true := decide_eq_true c7
        clear c7
        by_cases c8 : x5_1 < (l1.length : Int)
        ·rw [if_pos c8] at H
         have c8b0 : decide (x5_1 < (l1.length : Int)) = true := decide_eq_true c8
         clear c8
         by_cases c9 : ((rd_T56 l0 x5_1).f2) = ((rd_T56 l1 x5_1).f2)
         ·rw [if_pos c9] at H
          have c9b0 : (((rd_T56 l0 x5_1).f2) == ((rd_T56 l1 x5_1).f2)) = true := beq_iff_eq.mpr c9
          have c9b1 : (((rd_T56 l0 x5_1).f2) != ((rd_T56 l1 x5_1).f2)) = false := bne_eq_false_iff_eq.mpr c9
          clear c9
          have H' := Aside0.mk H
          clear H
          have p222 : 0 ≤ (x5_1 : Int) := of_decide_eq_true (by first | (with_reducible assumption) | assumption)
          have q222 : x5_1 < (l0.length : Int) := of_decide_eq_true (by first | (with_reducible assumption) | assumption)
          obtain ⟨ad222, e222, hx222_0, hx222_1, hx222_2, hx222_3⟩ := at_T56 HR0.out x5_1 p222 q222
          cases e222
          replace p222 := eq_true p222
          replace q222 := eq_true q222
          have p223 : 0 ≤ (x5_1 : Int) := of_decide_eq_true (by first | (with_reducible assumption) | assumption)
          have q223 : x5_1 < (l1.length : Int) := of_decide_eq_true (by first | (with_reducible assumption) | assumption)
          obtain ⟨ad223, e223, hx223_0, hx223_1, hx223_2, hx223_3⟩ := at_T56 HR1.out x5_1 p223 q223
          cases e223
          replace p223 := eq_true p223
          replace q223 := eq_true q223
          go_wp2
          repeat (go_quiet (fail); try go_wp2)
          go_roundg kj2
          case measure => have := HK1.out; have := HJ2.out; omega
          case rel => exact ⟨(wrap64 (x5_1 + 1)), (by first | rfl | (simp; done) | (simp [*]; done)), H', ⟨by have := HK1.out; have := HJ2.out; omega⟩, by repeat (first | exact Drawn0.refl _ | apply Drawn0.step)⟩
         ·rw [if_neg c9] at H
          have c9b0 : (((rd_T56 l0 x5_1).f2) == ((rd_T56 l1 x5_1).f2)) = false := beq_eq_false_iff_ne.mpr c9
          have c9b1 : (((rd_T56 l0 x5_1).f2) != ((rd_T56 l1 x5_1).f2)) = true := bne_iff_ne.mpr c9
          obtain rfl := Option.some.inj H
          have p222 : 0 ≤ (x5_1 : Int) := of_decide_eq_true (by first | (with_reducible assumption) | assumption)
          have q222 : x5_1 < (l0.length : Int) := of_decide_eq_true (by first | (with_reducible assumption) | assumption)
          obtain ⟨ad222, e222, hx222_0, hx222_1, hx222_2, hx222_3⟩ := at_T56 HR0.out x5_1 p222 q222
          cases e222
          replace p222 := eq_true p222
          replace q222 := eq_true q222
          have p223 : 0 ≤ (x5_1 : Int) := of_decide_eq_true (by first | (with_reducible assumption) | assumption)
          have q223 : x5_1 < (l1.length : Int) := of_decide_eq_true (by first | (with_reducible assumption) | assumption)
          obtain ⟨ad223, e223, hx223_0, hx223_1, hx223_2, hx223_3⟩ := at_T56 HR1.out x5_1 p223 q223
          cases e223
          replace p223 := eq_true p223
          replace q223 := eq_true q223
          go_wp2
          repeat (go_quiet (fail); try go_wp2)
          go_ret
          exact ⟨by first | rfl | (simp; done) | (simp [*]; done), by repeat (first | exact Drawn0.refl _ | apply Drawn0.step)⟩
        ·rw [if_neg c8] at H
         exact absurd H (by simp)
       ·rw [if_neg c7] at H
        exact absurd H (by simp)
      ·rw [if_neg c6] at H
       exact absurd H (by simp)
     ·replace c5 := Bool.eq_false_iff.mpr c5
      subst c5
      have H1 : ((stylusref04_Same.f kj2 l0 l1).bind fun t224 => (some t224)) = some r := by rw [if_neg (show ¬ (false = true) by decide)] at H; exact H
      clear H
      have H := H1
      clear H1
      replace H := Option.bind_eq_some_iff.mp H
      obtain ⟨t224, A100, H⟩ := H
      replace H : (some t224) = some r := H
      have A10 := Aside0.mk A100
      clear A100
      obtain rfl := Option.some.inj H
      go_wp2_with (first | (go_at_call 61; (with_reducible refine (stylusref04_Same.calls kj2 _ _ l0 _ _ l1 t224 _ ?side1 ?side2 ?side3 ?side4 A10.out).mono ?_); (case side1 => repeat (first | exact HR0.out | (with_reducible refine Kd.C_alloc ?_ _) | (with_reducible refine Kd.C_drewN ?_ _) | (with_reducible refine Kd.C_drew ?_))); (case side2 => exact HC0.out); (case side3 => repeat (first | exact HR1.out | (with_reducible refine Kd.C_alloc ?_ _) | (with_reducible refine Kd.C_drewN ?_ _) | (with_reducible refine Kd.C_drew ?_))); (case side4 => exact HC1.out); rintro e w' ⟨rfl, ⟨nd, rfl⟩⟩; (try first | exact ⟨rfl, _, World.drewN_drewN _ _ _⟩ | exact ⟨rfl, _, Eq.trans (World.drewN_drewN _ _ _) (congrArg (World.drewN _) (Nat.add_assoc _ _ _))⟩)))
      repeat (go_quiet (first | (go_at_call 61; (with_reducible refine (stylusref04_Same.calls kj2 _ _ l0 _ _ l1 t224 _ ?side1 ?side2 ?side3 ?side4 A10.out).mono ?_); (case side1 => repeat (first | exact HR0.out | (with_reducible refine Kd.C_alloc ?_ _) | (with_reducible refine Kd.C_drewN ?_ _) | (with_reducible refine Kd.C_drew ?_))); (case side2 => exact HC0.out); (case side3 => repeat (first | exact HR1.out | (with_reducible refine Kd.C_alloc ?_ _) | (with_reducible refine Kd.C_drewN ?_ _) | (with_reducible refine Kd.C_drew ?_))); (case side4 => exact HC1.out); rintro e w' ⟨rfl, ⟨nd, rfl⟩⟩; (try first | exact ⟨rfl, _, World.drewN_drewN _ _ _⟩ | exact ⟨rfl, _, Eq.trans (World.drewN_drewN _ _ _) (congrArg (World.drewN _) (Nat.add_assoc _ _ _))⟩))); try go_wp2_with (first | (go_at_call 61; (with_reducible refine (stylusref04_Same.calls kj2 _ _ l0 _ _ l1 t224 _ ?side1 ?side2 ?side3 ?side4 A10.out).mono ?_); (case side1 => repeat (first | exact HR0.out | (with_reducible refine Kd.C_alloc ?_ _) | (with_reducible refine Kd.C_drewN ?_ _) | (with_reducible refine Kd.C_drew ?_))); (case side2 => exact HC0.out); (case side3 => repeat (first | exact HR1.out | (with_reducible refine Kd.C_alloc ?_ _) | (with_reducible refine Kd.C_drewN ?_ _) | (with_reducible refine Kd.C_drew ?_))); (case side4 => exact HC1.out); rintro e w' ⟨rfl, ⟨nd, rfl⟩⟩; (try first | exact ⟨rfl, _, World.drewN_drewN _ _ _⟩ | exact ⟨rfl, _, Eq.trans (World.drewN_drewN _ _ _) (congrArg (World.drewN _) (Nat.add_assoc _ _ _))⟩))))
      go_ret
      exact ⟨by first | rfl | (simp; done) | (simp [*]; done), by repeat (first | exact Drawn0.refl _ | apply Drawn0.step)⟩
theorem eqA47 (d : Nat) (w : World) (x0 y0 : Int) (x1 y1 : Int) (x2 y2 : ByteArray) (x3 y3 : Int) :
  (Op.equalIn (d + 2) 47 (.agg #[.int .i64 x0, .int .u8 x1, .string x2, .int .i64 x3]) (.agg #[.int .i64 y0, .int .u8 y1, .string y2, .int .i64 y3])).run Try.prog w = .ok (x0 == y0 && (x1 == y1 && (x2.toList == y2.toList && (x3 == y3)))) w := by
 refine eqA_of Try.underlying47 (by kernel_rfl) ?_
 refine eqf_cons (by rfl) (by go_simp; rfl) (by go_simp; rfl) (by go_simp) ?_
 refine eqf_cons (by rfl) (by go_simp; rfl) (by go_simp; rfl) (by go_simp) ?_
 refine eqf_cons (by rfl) (by go_simp; rfl) (by go_simp; rfl) (by go_simp) ?_
 exact eqf_last (by rfl) (by go_simp; rfl) (by go_simp; rfl) (by go_simp)
end Go.Proofs.Ythcmfjpheanphaa.Pr
namespace Go.Proofs.Ythcmfjpheanphaa.Pr
open Go.RowKit Go.Proofs.YthcmfjpheanphaaW.PrintWords
theorem heap_new (w : World) (o : Obj) : (w.alloc o).heap[w.heap.size]? = some o := by
 show (w.heap.push o)[w.heap.size]? = some o
 simp
def ofStep (g : List Int) (c : Int) : List Int := g.set (c / 64).toNat (bits .or .u64 (g.getD (c / 64).toNat 0) (IntKind.u64.wrap (2 ^ (c % 64).toNat)))
def ofL (g : List Int) (s : ByteArray) : Nat → List Int
 | 0 => g
 | k + 1 => ofStep (ofL g s k) (bt s k)
theorem ofL_length (g : List Int) (s : ByteArray) : ∀ k, (ofL g s k).length = g.length
 | 0 => rfl
 | k + 1 => by simp [ofL, ofStep, ofL_length g s k]
def u64s (g : List Int) : List Value := g.map (.int .u64)
def Arr4 (W : World) (B : Nat) (g : List Int) : Prop := W.heap[B]? = some (.cells (u64s g).toArray 77 (0, 0))
theorem Arr4.cell {W : World} {B : Nat} {g : List Int} (h : Arr4 W B g) {i : Nat} (hi : i < g.length) : W.cell? ⟨B, i, none⟩ = some (.int .u64 (g.getD i 0)) := by
 unfold Arr4 at h
 simp [World.cell?, h, u64s, hi]
theorem Arr4.frozen {W : World} {B : Nat} {g : List Int} (h : Arr4 W B g) (i : Nat) : W.frozen? ⟨B, i, none⟩ = false := by
 unfold Arr4 at h
 simp [World.frozen?, h]
theorem Arr4.set {W : World} {B : Nat} {g : List Int} (h : Arr4 W B g) (i : Nat) (x : Int) : Arr4 (W.setCell ⟨B, i, none⟩ (.int .u64 x)) B (g.set i x) := by
 unfold Arr4 at *
 have hb := (Array.getElem?_eq_some_iff.1 h)
 simp only [World.setCell, Array.getElem?_modify, if_pos, h]
 simp [u64s, List.map_set]
theorem Arr4.below {W W' : World} {B : Nat} {g : List Int} (h : Arr4 W B g) (hb : Below W.heap.size W W') : Arr4 W' B g := by
 unfold Arr4 at *
 rw [hb.block _ (Array.getElem?_eq_some_iff.1 h).1]; exact h
set_option maxHeartbeats 400000 in
theorem of_calls (s : ByteArray) (w : World) (hs : s.size ≤ 9223372036854775807) :
  Calls Try.prog 128 #[.string s] w fun e w' => e = .returned (.agg (u64s (ofL [0,0,0,0] s s.size)).toArray) ∧ Below w.heap.size w w' := by
 go_enter Try.func128, Try.ntmps128
 go_wp2
 go_loopw [7] (fun v wr => ∃ k : Nat, k ≤ s.size ∧ v = .int .i64 k ∧ Below w.heap.size w wr ∧ w.heap.size + 2 ≤ wr.heap.size ∧ Arr4 wr (w.heap.size + 1) (ofL [0,0,0,0] s k) ∧ Arr4 wr w.heap.size [0,0,0,0]) (fun v _ => s.size - (intOf v).toNat)
 case atStart =>
  refine ⟨0, Nat.zero_le _, rfl, ((Below.refl _ _).alloc (Nat.le_refl _) _).alloc (by simp) _, by simp, ?_, ?_⟩
  ·have := heap_new (w.alloc (.cells #[.int .u64 0, .int .u64 0, .int .u64 0, .int .u64 0] 77)) (.cells #[.int .u64 0, .int .u64 0, .int .u64 0, .int .u64 0] 77)
   rw [World.size_alloc] at this
   exact this
  ·exact (Below.heap_alloc _ _ _ (by simp)).trans (heap_new _ _)
 case round =>
  obtain ⟨k, hk, rfl, hB, hsz, hb, hr⟩ := hrel
  have hlen := ofL_length [0,0,0,0] s k
  by_cases hlt : k < s.size
  ·obtain ⟨c, hc⟩ : ∃ c : Int, ((s[k].toNat : Nat) : Int) = c := ⟨_, rfl⟩
   have hc0 : 0 ≤ c ∧ c < 256 := by rw [← hc]; have := s[k].toNat_lt; omega
   have i0 : 0 ≤ c / 64 := by omega
   have i1 : c / 64 < 4 := by omega
   have hcell := hb.cell (i := (c / 64).toNat) (by rw [hlen]; simp; omega)
   have hfr := hb.frozen (c / 64).toNat
   have h63 : bits .and .u8 c 63 = c % 64 := u8_and63 c hc0.1 hc0.2
   have i2 : 0 ≤ c % 64 := by omega
   have i3 : c % 64 < 64 := by omega
   clear hlen
   go_wp2
   go_region
   go_wp2
   go_roundw
   case rel =>
    refine ⟨k + 1, by omega, by go_num, ?_, by simpa using hsz, ?_, ?_⟩
    ·exact (hB.setCell (by simp) _).drew
    ·have hs1 := hb.set (c / 64).toNat (bits BinOp.or IntKind.u64 ((ofL [0, 0, 0, 0] s k)[(c / 64).toNat]?.getD 0) (IntKind.u64.wrap (2 ^ (c % 64).toNat)))
     have e : ofL [0, 0, 0, 0] s (k + 1) = (ofL [0, 0, 0, 0] s k).set (c / 64).toNat (bits BinOp.or IntKind.u64 ((ofL [0, 0, 0, 0] s k)[(c / 64).toNat]?.getD 0) (IntKind.u64.wrap (2 ^ (c % 64).toNat))) := by
      have hbt : bt s k = c := by rw [← hc]; simp [bt, hlt]
      simp [ofL, ofStep, hbt]
     rw [e]; exact hs1
    ·have := Below.heap_setCell wr ⟨w.heap.size + 1, (c / 64).toNat, none⟩ (.int .u64 (bits BinOp.or IntKind.u64 ((ofL [0, 0, 0, 0] s k)[(c / 64).toNat]?.getD 0) (IntKind.u64.wrap (2 ^ (c % 64).toNat)))) w.heap.size (by simp)
     exact this.trans hr
   case measure => simp [intOf]; omega
  ·obtain rfl : k = s.size := by omega
   obtain ⟨a, b, c, d, hL⟩ : ∃ a b c d, ofL [0,0,0,0] s s.size = [a, b, c, d] := by
    match h : ofL [0,0,0,0] s s.size, hlen with
    | [a, b, c, d], _ => exact ⟨a, b, c, d, rfl⟩
   rw [hL] at hb
   have HL := Lib.hid hL
   clear hL hlen
   have c0 := hb.cell (i := 0) (by simp)
   have c1 := hb.cell (i := 1) (by simp)
   have c2 := hb.cell (i := 2) (by simp)
   have c3 := hb.cell (i := 3) (by simp)
   have r0 := hr.cell (i := 0) (by simp)
   have r1 := hr.cell (i := 1) (by simp)
   have r2 := hr.cell (i := 2) (by simp)
   have r3 := hr.cell (i := 3) (by simp)
   have q0 := hr.frozen 0
   have q1 := hr.frozen 1
   have q2 := hr.frozen 2
   have q3 := hr.frozen 3
   go_wp2
   refine bodyPost_ret (v := .agg #[.int .u64 a, .int .u64 b, .int .u64 c, .int .u64 d]) (by simp [results, Try.results128, go_sem, r0, r1, r2, r3]) rfl ⟨by rw [HL.out]; rfl, ?_⟩
   exact (((hB.setCell (by simp) _).setCell (by simp) _).setCell (by simp) _).setCell (by simp) _
def cLow : Int := 576460743713488896
def cUp : Int := 134217726
def cDig : Int := 287948901175001088
def cMark : Int := 10088330922161078272
def cSp : Int := 4294967296
def cNl : Int := 1024
theorem of_low : ofL [0,0,0,0] ⟨#[97, 98, 99, 100, 101, 102, 103, 104, 105, 106, 107, 108, 109, 110, 111, 112, 113, 114, 115, 116, 117, 118, 119, 120, 121, 122]⟩ 26 = [0, cLow, 0, 0] := by decide +kernel
theorem of_up : ofL [0,0,0,0] ⟨#[65, 66, 67, 68, 69, 70, 71, 72, 73, 74, 75, 76, 77, 78, 79, 80, 81, 82, 83, 84, 85, 86, 87, 88, 89, 90]⟩ 26 = [0, cUp, 0, 0] := by decide +kernel
theorem of_dig : ofL [0,0,0,0] ⟨#[48, 49, 50, 51, 52, 53, 54, 55, 56, 57]⟩ 10 = [cDig, 0, 0, 0] := by decide +kernel
theorem of_mark : ofL [0,0,0,0] ⟨#[46, 44, 59, 58, 33, 63, 39, 34, 45, 40, 41, 47]⟩ 12 = [cMark, 0, 0, 0] := by decide +kernel
theorem of_sp : ofL [0,0,0,0] ⟨#[32]⟩ 1 = [cSp, 0, 0, 0] := by decide +kernel
theorem of_nl : ofL [0,0,0,0] ⟨#[10]⟩ 1 = [cNl, 0, 0, 0] := by decide +kernel
theorem of_c {s : ByteArray} {n : Nat} {a b c d : Int} (hn : s.size = n) (h : ofL [0,0,0,0] s n = [a, b, c, d]) (w : World) (hs : s.size ≤ 9223372036854775807) :
  Calls Try.prog 128 #[.string s] w fun e w' => e = .returned (.agg #[.int .u64 a, .int .u64 b, .int .u64 c, .int .u64 d]) ∧ Below w.heap.size w w' := by
 subst hn
 have := of_calls s w hs
 rw [h] at this
 exact this
set_option maxHeartbeats 400000 in
theorem marks_calls (w : World) : Calls Try.prog 42 #[] w fun e w' => e = .returned (.string ⟨#[46, 44, 59, 58, 33, 63, 39, 34, 45, 40, 41, 47]⟩) ∧ w = w' := by
 go_enter Try.func42, Try.ntmps42
 go_wp2
 go_ret
 exact ⟨rfl, rfl⟩
def clsL : List Int := [0,0,0,0, 0,cLow,0,0, 0,cUp,0,0, cDig,0,0,0, cMark,0,0,0, cSp,0,0,0, cNl,0,0,0]
set_option maxHeartbeats 1000000 in
theorem classes_calls (w : World) :
  Calls Try.prog 77 #[] w fun e w' => e = .returned (.agg (u64s clsL).toArray) ∧ Below w.heap.size w w' := by
 go_enter Try.func77, Try.ntmps77
 go_wp2_with fail
 refine (of_c (by rfl) of_low _ (by decide)).mono ?_
 rintro e w1 ⟨rfl, hb1⟩
 go_wp2_with fail
 refine (of_c (by rfl) of_up _ (by decide)).mono ?_
 rintro e w2 ⟨rfl, hb2⟩
 go_wp2_with fail
 refine (of_c (by rfl) of_dig _ (by decide)).mono ?_
 rintro e w3 ⟨rfl, hb3⟩
 go_wp2_with fail
 refine (marks_calls _).mono ?_
 rintro e w4 ⟨rfl, rfl⟩
 go_wp2_with fail
 refine (of_c (by rfl) of_mark _ (by decide)).mono ?_
 rintro e w4 ⟨rfl, hb4⟩
 go_wp2_with fail
 refine (of_c (by rfl) of_sp _ (by decide)).mono ?_
 rintro e w5 ⟨rfl, hb5⟩
 go_wp2_with fail
 refine (of_c (by rfl) of_nl _ (by decide)).mono ?_
 rintro e w6 ⟨rfl, hb6⟩
 have hba := ((((hb1.trans (hb2.mono hb1.size)).trans (hb3.mono (hb1.trans (hb2.mono hb1.size)).size)).trans (hb4.mono ((hb1.trans (hb2.mono hb1.size)).trans (hb3.mono (hb1.trans (hb2.mono hb1.size)).size)).size)))
 have hbb := hba.trans (hb5.mono hba.size)
 have hbc := hbb.trans (hb6.mono hbb.size)
 have hg : w6.heap[w.heap.size]? = some (.cells (u64s (List.replicate 28 0)).toArray 78 (0, 0)) := (hbc.block w.heap.size (by simp)).trans (heap_new _ _)
 have hbz : Below w.heap.size w w6 := ((Below.refl _ w).alloc (Nat.le_refl _) _).trans (hbc.mono (by simp))
 clear hb1 hb2 hb3 hb4 hb5 hb6 hba hbb hbc
 have Hg := Lib.hid hg
 clear hg
 go_wp2_with (refine wpList_store_row rfl 78 (.tmp 0) (.tmp 8) rfl w.heap.size _ rfl rfl 78 _ Hg.out ?h1 ?h2 ?h3 ?h4)
 case h1 => kernel_rfl
 case h2 => rfl
 case h3 => simp [Value.oneCell']
 case h4 =>
  refine bodyPost_ret (results_cell_row rfl _ _ w.heap.size 78 (u64s clsL).toArray (0, 0) _ rfl ?_ Try.underlying78 rfl (by kernel_rfl)) rfl ⟨rfl, ?_⟩
  ·exact setRow_heap _ _ _ _ _ _ Hg.out
  ·exact hbz.trans ⟨rfl, rfl, rfl, by simp, fun k hk => by simp only [World.setRow, Array.getElem?_modify]; rw [if_neg (by omega)]⟩
def hasB (g : List Int) (c : Int) : Bool := bits .and .u64 (g.getD (c / 64).toNat 0 / 2 ^ (c % 64).toNat) 1 == 1
set_option maxHeartbeats 1000000 in
theorem has_calls (a b c d x : Int) (w : World) (hx : 0 ≤ x) (hx1 : x < 256) :
  Calls Try.prog 78 #[.agg #[.int .u64 a, .int .u64 b, .int .u64 c, .int .u64 d], .int .u8 x] w fun e w' => e = .returned (.bool (hasB [a, b, c, d] x)) ∧ Below w.heap.size w w' := by
 have hz : Arr4 (w.alloc (.cells #[.int .u64 a, .int .u64 b, .int .u64 c, .int .u64 d] 77)) w.heap.size [a, b, c, d] := heap_new _ _
 have i0 : 0 ≤ x / 64 := by omega
 have i1 : x / 64 < 4 := by omega
 have hcell := hz.cell (i := (x / 64).toNat) (by simp; omega)
 have h63 : bits .and .u8 x 63 = x % 64 := u8_and63 x hx hx1
 have i2 : 0 ≤ x % 64 := by omega
 have i3 : x % 64 < 64 := by omega
 go_enter Try.func78, Try.ntmps78
 go_wp2
 go_ret
 exact ⟨by simp [hasB, List.getD_eq_getElem?_getD, List.getElem?_eq_getElem (show (x / 64).toNat < [a, b, c, d].length by simp; omega)], (Below.refl _ w).alloc (Nat.le_refl _) _⟩
def seg (j : Nat) : List Int := (clsL.drop (4 * j)).take 4
def classB (c : Int) : Int := if hasB (seg 0) c then 0 else if hasB (seg 1) c then 1 else if hasB (seg 2) c then 2 else if hasB (seg 3) c then 3 else if hasB (seg 4) c then 4 else if hasB (seg 5) c then 5 else if hasB (seg 6) c then 6 else 0
def classP (c : Int) : Int := if 97 ≤ c ∧ c ≤ 122 then 1 else if 65 ≤ c ∧ c ≤ 90 then 2 else if 48 ≤ c ∧ c ≤ 57 then 3 else if c = 32 then 5 else if c = 10 then 6
 else if c ∈ [46, 44, 59, 58, 33, 63, 39, 34, 45, 40, 41, 47] then 4 else 0
theorem classB_fin : ∀ n : Fin 256, classB (n.val : Int) = classP (n.val : Int) := by decide +kernel
theorem classB_eq (c : Int) (h0 : 0 ≤ c) (h1 : c < 256) : classB c = classP c := by
 have := classB_fin ⟨c.toNat, by omega⟩
 simpa [Int.toNat_of_nonneg h0] using this
set_option maxRecDepth 100000 in
theorem idx_run0 (w : World) : (Instr.index 78 (.agg (u64s clsL).toArray) (.int .i64 (0 : Nat))).run Try.prog w = .ok (.agg (u64s (seg 0)).toArray) w := by kernel_rfl
set_option maxRecDepth 100000 in
theorem idx_run1 (w : World) : (Instr.index 78 (.agg (u64s clsL).toArray) (.int .i64 (1 : Nat))).run Try.prog w = .ok (.agg (u64s (seg 1)).toArray) w := by kernel_rfl
set_option maxRecDepth 100000 in
theorem idx_run2 (w : World) : (Instr.index 78 (.agg (u64s clsL).toArray) (.int .i64 (2 : Nat))).run Try.prog w = .ok (.agg (u64s (seg 2)).toArray) w := by kernel_rfl
set_option maxRecDepth 100000 in
theorem idx_run3 (w : World) : (Instr.index 78 (.agg (u64s clsL).toArray) (.int .i64 (3 : Nat))).run Try.prog w = .ok (.agg (u64s (seg 3)).toArray) w := by kernel_rfl
set_option maxRecDepth 100000 in
theorem idx_run4 (w : World) : (Instr.index 78 (.agg (u64s clsL).toArray) (.int .i64 (4 : Nat))).run Try.prog w = .ok (.agg (u64s (seg 4)).toArray) w := by kernel_rfl
set_option maxRecDepth 100000 in
theorem idx_run5 (w : World) : (Instr.index 78 (.agg (u64s clsL).toArray) (.int .i64 (5 : Nat))).run Try.prog w = .ok (.agg (u64s (seg 5)).toArray) w := by kernel_rfl
set_option maxRecDepth 100000 in
theorem idx_run6 (w : World) : (Instr.index 78 (.agg (u64s clsL).toArray) (.int .i64 (6 : Nat))).run Try.prog w = .ok (.agg (u64s (seg 6)).toArray) w := by kernel_rfl
theorem idx_run (j : Nat) (hj : j < 7) (w : World) : (Instr.index 78 (.agg (u64s clsL).toArray) (.int .i64 j)).run Try.prog w = .ok (.agg (u64s (seg j)).toArray) w := by
 have hj' : j = 0 ∨ j = 1 ∨ j = 2 ∨ j = 3 ∨ j = 4 ∨ j = 5 ∨ j = 6 := by omega
 rcases hj' with rfl | rfl | rfl | rfl | rfl | rfl | rfl
 ·exact idx_run0 w
 ·exact idx_run1 w
 ·exact idx_run2 w
 ·exact idx_run3 w
 ·exact idx_run4 w
 ·exact idx_run5 w
 ·exact idx_run6 w
theorem seg_form (j : Nat) (hj : j < 7) : ∃ a b c d, seg j = [a, b, c, d] := by
 have hj' : j = 0 ∨ j = 1 ∨ j = 2 ∨ j = 3 ∨ j = 4 ∨ j = 5 ∨ j = 6 := by omega
 rcases hj' with rfl | rfl | rfl | rfl | rfl | rfl | rfl
 all_goals exact ⟨_, _, _, _, rfl⟩
theorem classB_at (x : Int) (k : Nat) (hk : k < 7) (h : hasB (seg k) x = true) (hno : ∀ j, j < k → hasB (seg j) x = false) : classB x = k := by
 have hj' : k = 0 ∨ k = 1 ∨ k = 2 ∨ k = 3 ∨ k = 4 ∨ k = 5 ∨ k = 6 := by omega
 unfold classB
 rcases hj' with rfl | rfl | rfl | rfl | rfl | rfl | rfl
 ·rw [h]; rfl
 ·rw [h, hno 0 (by omega)]; rfl
 ·rw [h, hno 0 (by omega), hno 1 (by omega)]; rfl
 ·rw [h, hno 0 (by omega), hno 1 (by omega), hno 2 (by omega)]; rfl
 ·rw [h, hno 0 (by omega), hno 1 (by omega), hno 2 (by omega), hno 3 (by omega)]; rfl
 ·rw [h, hno 0 (by omega), hno 1 (by omega), hno 2 (by omega), hno 3 (by omega), hno 4 (by omega)]; rfl
 ·rw [h, hno 0 (by omega), hno 1 (by omega), hno 2 (by omega), hno 3 (by omega), hno 4 (by omega), hno 5 (by omega)]; rfl
theorem classB_no (x : Int) (hno : ∀ j, j < 7 → hasB (seg j) x = false) : classB x = 0 := by
 unfold classB
 rw [hno 0 (by omega), hno 1 (by omega), hno 2 (by omega), hno 3 (by omega), hno 4 (by omega), hno 5 (by omega), hno 6 (by omega)]; rfl
set_option maxHeartbeats 1000000 in
theorem class_calls (x : Int) (w : World) (hx : 0 ≤ x) (hx1 : x < 256) :
  Calls Try.prog 24 #[.int .u8 x] w fun e w' => e = .returned (.int .i64 (classB x)) ∧ Below w.heap.size w w' := by
 go_enter Try.func24, Try.ntmps24
 go_wp2_with (go_at_call 77; refine (classes_calls _).mono ?_; rintro e w1 ⟨rfl, hb1⟩)
 generalize hv : (Value.agg (u64s clsL).toArray) = V5
 have HV := Lib.hid hv
 clear hv
 go_loopw [6] (fun v wr => ∃ k : Nat, k ≤ 7 ∧ v = .int .i64 k ∧ Below w.heap.size w wr ∧ ∀ j, j < k → hasB (seg j) x = false) (fun v _ => 7 - (intOf v).toNat)
 case atStart => exact ⟨0, by omega, rfl, hb1, fun j hj => by omega⟩
 case round =>
  obtain ⟨k, hk, rfl, hB, hno⟩ := hrel
  have Hno := Lib.hid hno
  clear hno
  by_cases hlt : k < 7
  ·have hix := fun w => idx_run k hlt w
   rw [HV.out] at hix
   have hlt2 : decide ((k : Int) < 7) = true := by simp; omega
   obtain ⟨a, b, c, d, hs⟩ := seg_form k hlt
   rw [hs] at hix
   have hix' : ∀ (w : World), Sem.run Try.prog (Instr.index 78 V5 (Value.int IntKind.i64 ↑k)) w = Result.ok (.agg #[.int .u64 a, .int .u64 b, .int .u64 c, .int .u64 d]) w := hix
   clear hix
   have HS := Lib.hid hs
   clear hs
   cases hh : hasB (seg k) x with
   | true =>
    have HH := Lib.hid hh
    clear hh
    have hc2 := fun w => has_calls a b c d x w hx hx1
    rw [← HS.out, HH.out] at hc2
    have HC2 := Lib.hid hc2
    clear hc2
    go_wp2_with (go_at_call 78; refine (HC2.out _).mono ?_; rintro e w2 ⟨rfl, hb2⟩)
    go_ret
    exact ⟨by rw [classB_at x k hlt HH.out Hno.out]; rfl, (hB.alloc hB.size _).trans (hb2.mono (by simp; exact Nat.le_succ_of_le hB.size))⟩
   | false =>
    have HH := Lib.hid hh
    clear hh
    have hc2 := fun w => has_calls a b c d x w hx hx1
    rw [← HS.out, HH.out] at hc2
    have HC2 := Lib.hid hc2
    clear hc2
    go_wp2_with (go_at_call 78; refine (HC2.out _).mono ?_; rintro e w2 ⟨rfl, hb2⟩)
    go_roundw
    case rel =>
     refine ⟨k + 1, by omega, by go_num, (hB.alloc hB.size _).trans (hb2.mono (by simp; exact Nat.le_succ_of_le hB.size)), fun j hj => ?_⟩
     rcases Nat.lt_or_ge j k with h | h
     ·exact Hno.out j h
     ·obtain rfl : j = k := by omega
      exact HH.out
    case measure => simp [intOf]; omega
  ·have hlt2 : decide ((k : Int) < 7) = false := by simp; omega
   go_wp2
   go_ret
   obtain rfl : k = 7 := by omega
   exact ⟨by rw [classB_no x Hno.out]; rfl, hB⟩
def chars_Class.f (a0 : Int) : Option Int := if 0 ≤ a0 ∧ a0 < 256 then some (classP a0) else none
theorem chars_Class.calls (a0 : Int) (r : Int) (w : World) (h : chars_Class.f a0 = some r) :
  Calls Try.prog 24 #[.int .u8 a0] w fun e w' => e = .returned (.int .i64 r) ∧ Below w.heap.size w w' := by
 unfold chars_Class.f at h
 split at h
 ·rename_i hc
  obtain rfl := Option.some.inj h
  rw [← classB_eq a0 hc.1 hc.2]
  exact class_calls a0 w hc.1 hc.2
 ·cases h
end Go.Proofs.Ythcmfjpheanphaa.Pr
namespace Go.Proofs.Ythcmfjpheanphaa.Pr
open Go.RowKit Go.Proofs.YthcmfjpheanphaaW.PrintWords Go.Proofs.YthcmfjpheanphaaW.PrintLast Go.Proofs.YthcmfjpheanphaaW.PrintMore
attribute [local go_sem] max2_int min2_int max_two min_two max_three min_three max_four min_four
theorem eqA27 (d : Nat) (w : World) (x0 y0 : Int) (x1 y1 : ByteArray) :
  (Op.equalIn (d + 2) 27 (.agg #[.int .i64 x0, .string x1]) (.agg #[.int .i64 y0, .string y1])).run Try.prog w = .ok (x0 == y0 && (x1.toList == y1.toList)) w := by
 refine eqA_of Try.underlying27 (by kernel_rfl) ?_
 refine eqf_cons (by rfl) (by go_simp; rfl) (by go_simp; rfl) (by go_simp) ?_
 exact eqf_last (by rfl) (by go_simp; rfl) (by go_simp; rfl) (by go_simp)
end Go.Proofs.Ythcmfjpheanphaa.Pr
namespace Go.Proofs.Ythcmfjpheanphaa.Pr
open Go.RowKit Go.Shelf Go.Proofs.YthcmfjpheanphaaW.PrintWords
attribute [local go_sem] Oper.semAt_some
def clsAt (s : ByteArray) (i : Nat) : Int := classP (bt s i)
def runTo (s : ByteArray) (c : Int) : Nat → Nat → Nat
 | 0, q => q
 | d + 1, q => if q < s.size ∧ clsAt s q = c then runTo s c d (q + 1) else q
def runsL (s : ByteArray) : Nat → Nat → List S27
 | 0, _ => []
 | d + 1, i => if i < s.size then
   ⟨i, s.extract i (runTo s (clsAt s i) s.size (i + 1))⟩ :: runsL s d (runTo s (clsAt s i) s.size (i + 1)) else []
def KB (B : Nat) (W W' : World) : Prop := W'.heap[B]? = W.heap[B]?
theorem boxed_keptB {W W' : World} {B : Nat} {t : TypeId} {v : Value} (h : Boxed W B t v) (hk : KB B W W') : Boxed W' B t v := Eq.trans hk h
theorem boxed_below {W W' : World} {B : Nat} {t : TypeId} {v : Value} (h : Boxed W B t v) (hb : Below W.heap.size W W') : Boxed W' B t v := h.kept (grown_of_below hb none) (by simp)
theorem boxed_own' {β : Type} (B : Nat) (t : TypeId) (v : Value) : Own (fun (_ : β) W => Boxed W B t v) := boxed_own B t (fun _ => v)
theorem cells_new (w : World) (cs : List Value) (t : TypeId) : ∀ j u, cs[j]? = some u → (w.alloc (.cells cs.toArray t)).cell? ((⟨w.heap.size, 0, none⟩ : Addr).add j) = some u := by
 intro j u hj
 rw [add_plain]
 simp only [World.cell?, heap_new]
 simpa using hj
def styluslaw01_runs.f (a0 : ByteArray) : Option (List S27 × Bool) := if a0.size ≤ 1000000 then some (runsL a0 a0.size 0, true) else none
def caseRuns : List S27 → Int → Int → Bool → Option (Int × Int × Bool)
 | [], sm, rs, fi => some (sm, rs, fi)
 | x :: xs, sm, rs, fi =>
  if classP (bt x.f1 0) = 1 then caseRuns xs (sm + x.f1.size) rs fi
  else if classP (bt x.f1 0) = 2 then (if x.f0 = 0 then caseRuns xs sm (rs + x.f1.size - 1) true else caseRuns xs sm (rs + x.f1.size) fi)
  else none
def caseOut (s : ByteArray) : Option (Int × Int × Bool) → Int
 | none => 0
 | some (sm, rs, fi) => if s.size = 0 then 0 else if sm = s.size then 1 else if fi = true ∧ rs = 0 then 2 else if sm = 0 then 3 else 4
theorem boxed_drew {W : World} {B : Nat} {t : TypeId} {v : Value} (h : Boxed W B t v) : Boxed W.drew B t v := h
theorem empty_size (s : ByteArray) : s.toList.isEmpty = decide (s.size = 0) := by
 rw [ByteArray.toList_eq]
 cases h : s.data.toList with
 | nil =>
  have : s.size = 0 := by
   show s.data.size = 0
   rw [← Array.length_toList, h]; rfl
  rw [this]; rfl
 | cons a l =>
  have : s.size = l.length + 1 := by
   show s.data.size = _
   rw [← Array.length_toList, h]; rfl
  rw [this]; rfl
def chars_Case.f (a0 : ByteArray) : Option Int := if a0.size ≤ 1000000 then some (caseOut a0 (caseRuns (runsL a0 a0.size 0) 0 0 false)) else none
end Go.Proofs.Ythcmfjpheanphaa.Pr
namespace Go.Proofs.Ythcmfjpheanphaa.Pr
open Go.RowKit Go.Proofs.YthcmfjpheanphaaW.PrintWords Go.Proofs.YthcmfjpheanphaaW.PrintLast Go.Proofs.YthcmfjpheanphaaW.PrintMore
attribute [local go_sem] max2_int min2_int max_two min_two max_three min_three max_four min_four
attribute [local go_sem high] eqA27
def chars_Marks.f  : Option (ByteArray) := some (⟨#[46, 44, 59, 58, 33, 63, 39, 34, 45, 40, 41, 47]⟩ : ByteArray)
def styluslaw01_same.l0 : Nat → List (S27) → List (S27) → Int → Option (Bool)
 | 0, _, _, _ => none
 | k + 1, x0, x1, x5 => if x5 < (x0.length : Int) then (if 0 ≤ x5 then (if x5 < (x1.length : Int) then (if (!(((rd_T27 x0 x5).f0) == ((rd_T27 x1 x5).f0)) || (!((((rd_T27 x0 x5).f1).toList) == (((rd_T27 x1 x5).f1).toList)))) = true then (some false) else (styluslaw01_same.l0 k x0 x1 (wrap64 (x5 + 1)))) else (none)) else (none)) else (some true)
def styluslaw01_same.f (k : Nat) (l0 : List (S27)) (l1 : List (S27)) : Option (Bool) := if (l0.length : Int) = (l1.length : Int) then (styluslaw01_same.l0 k l0 l1 0) else (some false)
theorem styluslaw01_same.mono_l : ∀ k, (∀ y0 y1 y2, LeO (styluslaw01_same.l0 k y0 y1 y2) (styluslaw01_same.l0 (k + 1) y0 y1 y2))
 | 0 => fun _ _ _ r h => by simp [styluslaw01_same.l0] at h
 | k + 1 => by
  have ih0 := styluslaw01_same.mono_l k
  ·intro y0 y1 y2
   unfold styluslaw01_same.l0
   repeat' first
   | (with_reducible exact ih0 _ _ _)
   | (with_reducible exact LeO.refl _)
   | (with_reducible exact LeO.none _)
   | (with_reducible refine LeO.ite ?_ ?_)
   | (with_reducible refine LeO.bind ?_ (fun _ => ?_))
   | exact ih0 _ _ _
   | exact LeO.none _
   | refine LeO.ite ?_ ?_
   | refine LeO.bind ?_ (fun _ => ?_)
theorem styluslaw01_same.mono : ∀ a0 a1 k, LeO (styluslaw01_same.f k a0 a1) (styluslaw01_same.f (k + 1) a0 a1) := by
 intro a0 a1 k
 have ih0 := styluslaw01_same.mono_l k
 unfold styluslaw01_same.f
 repeat' first
   | (with_reducible exact ih0 _ _ _)
   | (with_reducible exact LeO.refl _)
   | (with_reducible exact LeO.none _)
   | (with_reducible refine LeO.ite ?_ ?_)
   | (with_reducible refine LeO.bind ?_ (fun _ => ?_))
   | exact ih0 _ _ _
   | exact LeO.none _
   | refine LeO.ite ?_ ?_
   | refine LeO.bind ?_ (fun _ => ?_)
def chars_Lower.f (a0 : Int) : Option (Int) := (chars_Class.f a0).bind fun t103 => (if t103 = 2 then (some (Go.bits .or .u8 a0 32)) else (some a0))
def chars_Upper.f (a0 : Int) : Option (Int) := (chars_Class.f a0).bind fun t104 => (if t104 = 1 then (some (Go.bits .andNot .u8 a0 32)) else (some a0))
def styluslaw01_awake.f (k : Nat)  : Option (Bool) := (styluslaw01_runs.f (⟨#[97, 98, 49, 46, 50]⟩ : ByteArray)).bind fun bt105 => ((chars_Class.f 97).bind fun t109 => (if t109 = 1 then ((chars_Class.f 90).bind fun t110 => (if t110 = 2 then ((chars_Class.f 55).bind fun t111 => (if t111 = 3 then ((chars_Class.f 47).bind fun t112 => (if t112 = 4 then ((chars_Class.f 32).bind fun t113 => (if t113 = 5 then ((chars_Class.f 10).bind fun t114 => (if t114 = 6 then ((chars_Class.f 123).bind fun t115 => (if t115 = 0 then ((chars_Lower.f 81).bind fun t116 => (if t116 = 113 then ((chars_Upper.f 113).bind fun t117 => (if t117 = 81 then ((chars_Lower.f 63).bind fun t118 => (if t118 = 63 then ((chars_Case.f (⟨#[97, 98]⟩ : ByteArray)).bind fun t119 => (if t119 = 1 then ((chars_Case.f (⟨#[65, 98]⟩ : ByteArray)).bind fun t120 => (if t120 = 2 then ((chars_Case.f (⟨#[65]⟩ : ByteArray)).bind fun t121 => (if t121 = 2 then ((chars_Case.f (⟨#[65, 66]⟩ : ByteArray)).bind fun t122 => (if t122 = 3 then ((chars_Case.f (⟨#[97, 66]⟩ : ByteArray)).bind fun t123 => (if t123 = 4 then ((chars_Case.f (⟨#[97, 49]⟩ : ByteArray)).bind fun t124 => (if t124 = 0 then ((chars_Case.f (⟨#[]⟩ : ByteArray)).bind fun t125 => (if t125 = 0 then (if bt105.2 = true then ((styluslaw01_same.f k bt105.1 (([(⟨0, (⟨#[97, 98]⟩ : ByteArray)⟩ : S27), (⟨2, (⟨#[49]⟩ : ByteArray)⟩ : S27), (⟨3, (⟨#[46]⟩ : ByteArray)⟩ : S27), (⟨4, (⟨#[50]⟩ : ByteArray)⟩ : S27)] : List (S27)))).bind fun t129 => (some t129)) else (some false)) else (some false))) else (some false))) else (some false))) else (some false))) else (some false))) else (some false))) else (some false))) else (some false))) else (some false))) else (some false))) else (some false))) else (some false))) else (some false))) else (some false))) else (some false))) else (some false))) else (some false)))
theorem styluslaw01_awake.mono : ∀ k, LeO (styluslaw01_awake.f k ) (styluslaw01_awake.f (k + 1) ) := by
 intro  k
 unfold styluslaw01_awake.f
 repeat' first
   | (with_reducible exact styluslaw01_same.mono _ _ _)
   | (with_reducible exact LeO.refl _)
   | (with_reducible exact LeO.none _)
   | (with_reducible refine LeO.ite ?_ ?_)
   | (with_reducible refine LeO.bind ?_ (fun _ => ?_))
   | exact styluslaw01_same.mono _ _ _
   | exact LeO.none _
   | refine LeO.ite ?_ ?_
   | refine LeO.bind ?_ (fun _ => ?_)
def stylusref01_Marks.f  : Option (ByteArray) := some (⟨#[46, 44, 59, 58, 33, 63, 39, 34, 45, 40, 41, 47]⟩ : ByteArray)
set_option maxHeartbeats 8000000 in
set_option maxRecDepth 100000 in
theorem stylusref01_Marks.calls  (r : ByteArray) (w : World) (h : stylusref01_Marks.f  = some r) :
  Calls Try.prog 43 #[] w fun e w' => e = .returned (.string r) ∧ Drawn0 w w' := by
 have H : (some (⟨#[46, 44, 59, 58, 33, 63, 39, 34, 45, 40, 41, 47]⟩ : ByteArray)) = some r := h
 clear h
 obtain rfl := Option.some.inj H
 go_enter Try.func43, Try.ntmps43
 go_wp2
 go_ret
 exact ⟨by first | rfl | (simp; done) | (simp [*]; done), by repeat (first | exact Drawn0.refl _ | apply Drawn0.step)⟩
end Go.Proofs.Ythcmfjpheanphaa.Pr
namespace Go.Proofs.Ythcmfjpheanphaa.Pr
open Go.RowKit Go.Proofs.YthcmfjpheanphaaW.PrintWords Go.Proofs.YthcmfjpheanphaaW.PrintLast Go.Proofs.YthcmfjpheanphaaW.PrintMore
attribute [local go_sem] max2_int min2_int max_two min_two max_three min_three max_four min_four
mutual
def stylusref01_Class.j0 : Nat → Int → Bool → Option (Int)
 | 0, _, _ => none
 | k + 1, x0, x10 => if x10 = true then (some 1) else (if x0 ≥ 65 then (stylusref01_Class.j1 k x0 (decide (x0 ≤ 90))) else (stylusref01_Class.j1 k x0 false))
def stylusref01_Class.j1 : Nat → Int → Bool → Option (Int)
 | 0, _, _ => none
 | k + 1, x0, x16 => if x16 = true then (some 2) else (if x0 ≥ 48 then (stylusref01_Class.j2 k x0 (decide (x0 ≤ 57))) else (stylusref01_Class.j2 k x0 false))
def stylusref01_Class.j2 : Nat → Int → Bool → Option (Int)
 | 0, _, _ => none
 | k + 1, x0, x22 => if x22 = true then (some 3) else (if x0 = 32 then (some 5) else (if x0 = 10 then (some 6) else ((stylusref01_Marks.f).bind fun t130 => (stylusref01_Class.l0 k x0 t130 0))))
def stylusref01_Class.l0 : Nat → Int → ByteArray → Int → Option (Int)
 | 0, _, _, _ => none
 | k + 1, x0, x3, x4 => if x4 < (x3.size : Int) then (if 0 ≤ x4 then (if (bt x3 x4) = x0 then (some 4) else (stylusref01_Class.l0 k x0 x3 (wrap64 (x4 + 1)))) else (none)) else (some 0)
end
def stylusref01_Class.f (k : Nat) (a0 : Int) : Option (Int) := if a0 ≥ 97 then (stylusref01_Class.j0 k a0 (decide (a0 ≤ 122))) else (stylusref01_Class.j0 k a0 false)
theorem stylusref01_Class.mono_l : ∀ k, (∀ y0 y1, LeO (stylusref01_Class.j0 k y0 y1) (stylusref01_Class.j0 (k + 1) y0 y1)) ∧ (∀ y0 y1, LeO (stylusref01_Class.j1 k y0 y1) (stylusref01_Class.j1 (k + 1) y0 y1)) ∧ (∀ y0 y1, LeO (stylusref01_Class.j2 k y0 y1) (stylusref01_Class.j2 (k + 1) y0 y1)) ∧ (∀ y0 y1 y2, LeO (stylusref01_Class.l0 k y0 y1 y2) (stylusref01_Class.l0 (k + 1) y0 y1 y2))
 | 0 => ⟨fun _ _ r h => by simp [stylusref01_Class.j0] at h, fun _ _ r h => by simp [stylusref01_Class.j1] at h, fun _ _ r h => by simp [stylusref01_Class.j2] at h, fun _ _ _ r h => by simp [stylusref01_Class.l0] at h⟩
 | k + 1 => by
  obtain ⟨ih0, ih1, ih2, ih3⟩ := stylusref01_Class.mono_l k
  refine ⟨?_, ?_, ?_, ?_⟩
  ·intro y0 y1
   unfold stylusref01_Class.j0
   repeat' first
   | (with_reducible exact ih0 _ _)
   | (with_reducible exact ih1 _ _)
   | (with_reducible exact ih2 _ _)
   | (with_reducible exact ih3 _ _ _)
   | (with_reducible exact LeO.refl _)
   | (with_reducible exact LeO.none _)
   | (with_reducible refine LeO.ite ?_ ?_)
   | (with_reducible refine LeO.bind ?_ (fun _ => ?_))
   | exact ih0 _ _
   | exact ih1 _ _
   | exact ih2 _ _
   | exact ih3 _ _ _
   | exact LeO.none _
   | refine LeO.ite ?_ ?_
   | refine LeO.bind ?_ (fun _ => ?_)
  ·intro y0 y1
   unfold stylusref01_Class.j1
   repeat' first
   | (with_reducible exact ih0 _ _)
   | (with_reducible exact ih1 _ _)
   | (with_reducible exact ih2 _ _)
   | (with_reducible exact ih3 _ _ _)
   | (with_reducible exact LeO.refl _)
   | (with_reducible exact LeO.none _)
   | (with_reducible refine LeO.ite ?_ ?_)
   | (with_reducible refine LeO.bind ?_ (fun _ => ?_))
   | exact ih0 _ _
   | exact ih1 _ _
   | exact ih2 _ _
   | exact ih3 _ _ _
   | exact LeO.none _
   | refine LeO.ite ?_ ?_
   | refine LeO.bind ?_ (fun _ => ?_)
  ·intro y0 y1
   unfold stylusref01_Class.j2
   repeat' first
   | (with_reducible exact ih0 _ _)
   | (with_reducible exact ih1 _ _)
   | (with_reducible exact ih2 _ _)
   | (with_reducible exact ih3 _ _ _)
   | (with_reducible exact LeO.refl _)
   | (with_reducible exact LeO.none _)
   | (with_reducible refine LeO.ite ?_ ?_)
   | (with_reducible refine LeO.bind ?_ (fun _ => ?_))
   | exact ih0 _ _
   | exact ih1 _ _
   | exact ih2 _ _
   | exact ih3 _ _ _
   | exact LeO.none _
   | refine LeO.ite ?_ ?_
   | refine LeO.bind ?_ (fun _ => ?_)
  ·intro y0 y1 y2
   unfold stylusref01_Class.l0
   repeat' first
   | (with_reducible exact ih0 _ _)
   | (with_reducible exact ih1 _ _)
   | (with_reducible exact ih2 _ _)
   | (with_reducible exact ih3 _ _ _)
   | (with_reducible exact LeO.refl _)
   | (with_reducible exact LeO.none _)
   | (with_reducible refine LeO.ite ?_ ?_)
   | (with_reducible refine LeO.bind ?_ (fun _ => ?_))
   | exact ih0 _ _
   | exact ih1 _ _
   | exact ih2 _ _
   | exact ih3 _ _ _
   | exact LeO.none _
   | refine LeO.ite ?_ ?_
   | refine LeO.bind ?_ (fun _ => ?_)
theorem stylusref01_Class.mono : ∀ a0 k, LeO (stylusref01_Class.f k a0) (stylusref01_Class.f (k + 1) a0) := by
 intro a0 k
 obtain ⟨ih0, ih1, ih2, ih3⟩ := stylusref01_Class.mono_l k
 unfold stylusref01_Class.f
 repeat' first
   | (with_reducible exact ih0 _ _)
   | (with_reducible exact ih1 _ _)
   | (with_reducible exact ih2 _ _)
   | (with_reducible exact ih3 _ _ _)
   | (with_reducible exact LeO.refl _)
   | (with_reducible exact LeO.none _)
   | (with_reducible refine LeO.ite ?_ ?_)
   | (with_reducible refine LeO.bind ?_ (fun _ => ?_))
   | exact ih0 _ _
   | exact ih1 _ _
   | exact ih2 _ _
   | exact ih3 _ _ _
   | exact LeO.none _
   | refine LeO.ite ?_ ?_
   | refine LeO.bind ?_ (fun _ => ?_)
set_option maxHeartbeats 8000000 in
set_option maxRecDepth 100000 in
theorem stylusref01_Class.calls (k : Nat) (a0 : Int) (r : Int) (w : World) (h : stylusref01_Class.f k a0 = some r) :
  Calls Try.prog 32 #[.int .u8 a0] w fun e w' => e = .returned (.int .i64 r) ∧ Drawn0 w w' := by
 have H : (if a0 ≥ 97 then (stylusref01_Class.j0 k a0 (decide (a0 ≤ 122))) else (stylusref01_Class.j0 k a0 false)) = some r := h
 clear h
 have HC2 := Aside0.mk H
 clear H
 go_enter Try.func32, Try.ntmps32
 go_upto_region 1 with (fail)
 go_cut [10] (fun v10 wc => ∃ (kq : Nat) (x10_1 : Bool), v10 = .bool x10_1 ∧ Aside0 (stylusref01_Class.j0 kq a0 x10_1 = some r) ∧ Aside0 (kq ≤ k) ∧ Drawn0 w wc)
 case first =>
  have H := HC2.out
  clear HC2
  by_cases c3 : a0 ≥ 97
  ·rw [if_pos c3] at H
   have c3b0 : decide (97 ≤ a0) = true := decide_eq_true c3
   clear c3
   (first | rw [c3b0] | (simp only [i64_w, i32_w]; rw [c3b0]) | skip)
   have H' := Aside0.mk H
   clear H
   go_wp2
   go_meet
   case rel => exact ⟨_, (decide (a0 ≤ 122)), (by first | rfl | (simp; done) | (simp [*]; done)), H', ⟨by first | omega | exact Nat.le_refl _⟩, by repeat (first | exact Drawn0.refl _ | apply Drawn0.step)⟩
  ·rw [if_neg c3] at H
   have c3b0 : decide (97 ≤ a0) = false := decide_eq_false c3
   clear c3
   (first | rw [c3b0] | (simp only [i64_w, i32_w]; rw [c3b0]) | skip)
   have H' := Aside0.mk H
   clear H
   go_wp2
   go_meet
   case rel => exact ⟨_, (false), (by first | rfl | (simp; done) | (simp [*]; done)), H', ⟨by first | omega | exact Nat.le_refl _⟩, by repeat (first | exact Drawn0.refl _ | apply Drawn0.step)⟩
 case rest =>
  clear HC2
  try clear p2
  try clear c3
  try clear c3b0
  obtain ⟨kq, x10_1, rfl, HA, HJ1, ⟨mc1, rfl⟩⟩ := hcut
  cases kq with
  | zero => exact absurd HA.out (by simp [stylusref01_Class.j0])
  | succ kj1 =>
   have H := HA.out
   clear HA
   simp only [stylusref01_Class.j0] at H
   by_cases c4 : x10_1 = true
   ·subst c4
    have H1 : (some 1) = some r := by rw [if_pos rfl] at H; exact H
    clear H
    have H := H1
    clear H1
    obtain rfl := Option.some.inj H
    go_wp2
    go_ret
    exact ⟨by first | rfl | (simp; done) | (simp [*]; done), by repeat (first | exact Drawn0.refl _ | apply Drawn0.step)⟩
   ·replace c4 := Bool.eq_false_iff.mpr c4
    subst c4
    have H1 : (if a0 ≥ 65 then (stylusref01_Class.j1 kj1 a0 (decide (a0 ≤ 90))) else (stylusref01_Class.j1 kj1 a0 false)) = some r := by rw [if_neg (show ¬ (false = true) by decide)] at H; exact H
    clear H
    have H := H1
    clear H1
    have HC5 := Aside0.mk H
    clear H
    go_upto_region 3 with (fail)
    go_cut [16] (fun v16 wc => ∃ (kq : Nat) (x16_4 : Bool), v16 = .bool x16_4 ∧ Aside0 (stylusref01_Class.j1 kq a0 x16_4 = some r) ∧ Aside0 (kq ≤ kj1) ∧ Drawn0 w wc)
    case first =>
     have H := HC5.out
     clear HC5
     by_cases c6 : a0 ≥ 65
     ·rw [if_pos c6] at H
      have c6b0 : decide (65 ≤ a0) = true := decide_eq_true c6
      clear c6
      (first | rw [c6b0] | (simp only [i64_w, i32_w]; rw [c6b0]) | skip)
      have H' := Aside0.mk H
      clear H
      go_wp2
      go_meet
      case rel => exact ⟨_, (decide (a0 ≤ 90)), (by first | rfl | (simp; done) | (simp [*]; done)), H', ⟨by have := HJ1.out; first | omega | exact Nat.le_refl _⟩, by repeat (first | exact Drawn0.refl _ | apply Drawn0.step)⟩
     ·rw [if_neg c6] at H
      have c6b0 : decide (65 ≤ a0) = false := decide_eq_false c6
      clear c6
      (first | rw [c6b0] | (simp only [i64_w, i32_w]; rw [c6b0]) | skip)
      have H' := Aside0.mk H
      clear H
      go_wp2
      go_meet
      case rel => exact ⟨_, (false), (by first | rfl | (simp; done) | (simp [*]; done)), H', ⟨by have := HJ1.out; first | omega | exact Nat.le_refl _⟩, by repeat (first | exact Drawn0.refl _ | apply Drawn0.step)⟩
    case rest =>
     clear HC5
     try clear c1
     try clear p2
     try clear c3
     try clear c3b0
     try clear c4
     try clear c6
     try clear c6b0
     try clear p2
     obtain ⟨kq, x16_4, rfl, HA, HJ4, ⟨mc4, rfl⟩⟩ := hcut
     cases kq with
     | zero => exact absurd HA.out (by simp [stylusref01_Class.j1])
     | succ kj4 =>
      have H := HA.out
      clear HA
      simp only [stylusref01_Class.j1] at H
      by_cases c7 : x16_4 = true
      ·subst c7
       have H1 : (some 2) = some r := by rw [if_pos rfl] at H; exact H
       clear H
       have H := H1
       clear H1
       obtain rfl := Option.some.inj H
       go_wp2
       go_ret
       exact ⟨by first | rfl | (simp; done) | (simp [*]; done), by repeat (first | exact Drawn0.refl _ | apply Drawn0.step)⟩
      ·replace c7 := Bool.eq_false_iff.mpr c7
       subst c7
       have H1 : (if a0 ≥ 48 then (stylusref01_Class.j2 kj4 a0 (decide (a0 ≤ 57))) else (stylusref01_Class.j2 kj4 a0 false)) = some r := by rw [if_neg (show ¬ (false = true) by decide)] at H; exact H
       clear H
       have H := H1
       clear H1
       have HC8 := Aside0.mk H
       clear H
       go_upto_region 5 with (fail)
       go_cut [22] (fun v22 wc => ∃ (kq : Nat) (x22_7 : Bool), v22 = .bool x22_7 ∧ Aside0 (stylusref01_Class.j2 kq a0 x22_7 = some r) ∧ Aside0 (kq ≤ kj4) ∧ Drawn0 w wc)
       case first =>
        have H := HC8.out
        clear HC8
        by_cases c9 : a0 ≥ 48
        ·rw [if_pos c9] at H
         have c9b0 : decide (48 ≤ a0) = true := decide_eq_true c9
         clear c9
         (first | rw [c9b0] | (simp only [i64_w, i32_w]; rw [c9b0]) | skip)
         have H' := Aside0.mk H
         clear H
         go_wp2
         go_meet
         case rel => exact ⟨_, (decide (a0 ≤ 57)), (by first | rfl | (simp; done) | (simp [*]; done)), H', ⟨by have := HJ1.out; have := HJ4.out; first | omega | exact Nat.le_refl _⟩, by repeat (first | exact Drawn0.refl _ | apply Drawn0.step)⟩
        ·rw [if_neg c9] at H
         have c9b0 : decide (48 ≤ a0) = false := decide_eq_false c9
         clear c9
         (first | rw [c9b0] | (simp only [i64_w, i32_w]; rw [c9b0]) | skip)
         have H' := Aside0.mk H
         clear H
         go_wp2
         go_meet
         case rel => exact ⟨_, (false), (by first | rfl | (simp; done) | (simp [*]; done)), H', ⟨by have := HJ1.out; have := HJ4.out; first | omega | exact Nat.le_refl _⟩, by repeat (first | exact Drawn0.refl _ | apply Drawn0.step)⟩
       case rest =>
        clear HC8
        try clear c1
        try clear p2
        try clear c3
        try clear c3b0
        try clear c4
        try clear c6
        try clear c6b0
        try clear c7
        try clear c9
        try clear c9b0
        try clear p2
        obtain ⟨kq, x22_7, rfl, HA, HJ7, ⟨mc7, rfl⟩⟩ := hcut
        cases kq with
        | zero => exact absurd HA.out (by simp [stylusref01_Class.j2])
        | succ kj7 =>
         have H := HA.out
         clear HA
         simp only [stylusref01_Class.j2] at H
         by_cases c10 : x22_7 = true
         ·subst c10
          have H1 : (some 3) = some r := by rw [if_pos rfl] at H; exact H
          clear H
          have H := H1
          clear H1
          obtain rfl := Option.some.inj H
          go_wp2
          go_ret
          exact ⟨by first | rfl | (simp; done) | (simp [*]; done), by repeat (first | exact Drawn0.refl _ | apply Drawn0.step)⟩
         ·replace c10 := Bool.eq_false_iff.mpr c10
          subst c10
          have H1 : (if a0 = 32 then (some 5) else (if a0 = 10 then (some 6) else ((stylusref01_Marks.f).bind fun t130 => (stylusref01_Class.l0 kj7 a0 t130 0)))) = some r := by rw [if_neg (show ¬ (false = true) by decide)] at H; exact H
          clear H
          have H := H1
          clear H1
          by_cases c11 : a0 = 32
          ·rw [if_pos c11] at H
           have c11b0 : (a0 == 32) = true := beq_iff_eq.mpr c11
           have c11b1 : (a0 != 32) = false := bne_eq_false_iff_eq.mpr c11
           clear c11
           obtain rfl := Option.some.inj H
           go_wp2
           go_ret
           exact ⟨by first | rfl | (simp; done) | (simp [*]; done), by repeat (first | exact Drawn0.refl _ | apply Drawn0.step)⟩
          ·rw [if_neg c11] at H
           have c11b0 : (a0 == 32) = false := beq_eq_false_iff_ne.mpr c11
           have c11b1 : (a0 != 32) = true := bne_iff_ne.mpr c11
           by_cases c12 : a0 = 10
           ·rw [if_pos c12] at H
            have c12b0 : (a0 == 10) = true := beq_iff_eq.mpr c12
            have c12b1 : (a0 != 10) = false := bne_eq_false_iff_eq.mpr c12
            clear c12
            obtain rfl := Option.some.inj H
            go_wp2
            go_ret
            exact ⟨by first | rfl | (simp; done) | (simp [*]; done), by repeat (first | exact Drawn0.refl _ | apply Drawn0.step)⟩
           ·rw [if_neg c12] at H
            have c12b0 : (a0 == 10) = false := beq_eq_false_iff_ne.mpr c12
            have c12b1 : (a0 != 10) = true := bne_iff_ne.mpr c12
            replace H := Option.bind_eq_some_iff.mp H
            obtain ⟨t130, A130, H⟩ := H
            replace H : (stylusref01_Class.l0 kj7 a0 t130 0) = some r := H
            have A13 := Aside0.mk A130
            clear A130
            have H' := Aside0.mk H
            clear H
            go_wp2_with (first | ((with_reducible refine gate_callee (f := 43) rfl ?_); refine goesL_ (some 27) rfl rfl Try.func43 (by kernel_rfl) rfl #[] rfl (by (try simp only [List.map_toArray, List.map_cons, List.map_nil]); first | done | rfl | (simp only [List.length_drop, List.length_take]; rfl)) ?_; (with_reducible refine (stylusref01_Marks.calls  t130 _ A13.out).mono ?_); rintro e w' ⟨rfl, ⟨nd, rfl⟩⟩; refine ⟨_, rfl, ?_⟩))
            go_loopg [4] kj7 (fun kq v4 w' => ∃ (x4_4 : Int), v4 = .int .i64 x4_4 ∧ Aside0 (stylusref01_Class.l0 kq a0 t130 x4_4 = some r) ∧ Aside0 (kq ≤ kj7) ∧ Drawn0 w w')
            case atStart => exact ⟨(0), (by first | rfl | (simp; done) | (simp [*]; done)), H', ⟨Nat.le_refl _⟩, by repeat (first | exact Drawn0.refl _ | apply Drawn0.step)⟩
            case round =>
             clear H'
             try clear c1
             try clear p2
             try clear c3
             try clear c3b0
             try clear c4
             try clear c6
             try clear c6b0
             try clear c7
             try clear c9
             try clear c9b0
             try clear c10
             try clear c11
             try clear c11b0
             try clear c11b1
             try clear c12
             try clear c12b0
             try clear c12b1
             try clear p2
             obtain ⟨x4_4, rfl, HA, HK4, ⟨m4, rfl⟩⟩ := hrel
             cases gk with
             | zero => exact absurd HA.out (by simp [stylusref01_Class.l0])
             | succ k4 =>
              have H := HA.out
              clear HA
              simp only [stylusref01_Class.l0] at H
              by_cases c14 : x4_4 < (t130.size : Int)
              ·rw [if_pos c14] at H
               have c14b0 : decide (x4_4 < (t130.size : Int)) = true := decide_eq_true c14
               clear c14
               by_cases c15 : 0 ≤ x4_4
               ·rw [if_pos c15] at H
                have c15b0 : decide (0 ≤ x4_4) = true := decide_eq_true c15
                clear c15
                by_cases c17 : (bt t130 x4_4) = a0
                ·rw [if_pos c17] at H
                 have c17b0 : ((bt t130 x4_4) == a0) = true := beq_iff_eq.mpr c17
                 have c17b1 : ((bt t130 x4_4) != a0) = false := bne_eq_false_iff_eq.mpr c17
                 clear c17
                 obtain rfl := Option.some.inj H
                 have p16 : 0 ≤ (x4_4 : Int) := of_decide_eq_true (by first | (with_reducible assumption) | assumption)
                 have q16 : x4_4 < (t130.size : Int) := of_decide_eq_true (by first | (with_reducible assumption) | assumption)
                 have hx16 := bt_at t130 x4_4
                 replace p16 := eq_true p16
                 replace q16 := eq_true q16
                 go_wp2
                 go_ret
                 exact ⟨by first | rfl | (simp; done) | (simp [*]; done), by repeat (first | exact Drawn0.refl _ | apply Drawn0.step)⟩
                ·rw [if_neg c17] at H
                 have c17b0 : ((bt t130 x4_4) == a0) = false := beq_eq_false_iff_ne.mpr c17
                 have c17b1 : ((bt t130 x4_4) != a0) = true := bne_iff_ne.mpr c17
                 have H' := Aside0.mk H
                 clear H
                 have p16 : 0 ≤ (x4_4 : Int) := of_decide_eq_true (by first | (with_reducible assumption) | assumption)
                 have q16 : x4_4 < (t130.size : Int) := of_decide_eq_true (by first | (with_reducible assumption) | assumption)
                 have hx16 := bt_at t130 x4_4
                 replace p16 := eq_true p16
                 replace q16 := eq_true q16
                 go_wp2
                 go_roundg k4
                 case measure => have := HJ1.out; have := HJ4.out; have := HJ7.out; have := HK4.out; omega
                 case rel => exact ⟨(wrap64 (x4_4 + 1)), (by first | rfl | (simp; done) | (simp [*]; done)), H', ⟨by have := HJ1.out; have := HJ4.out; have := HJ7.out; have := HK4.out; omega⟩, by repeat (first | exact Drawn0.refl _ | apply Drawn0.step)⟩
               ·rw [if_neg c15] at H
                exact absurd H (by simp)
              ·rw [if_neg c14] at H
               have c14b0 : decide (x4_4 < (t130.size : Int)) = false := decide_eq_false c14
               clear c14
               obtain rfl := Option.some.inj H
               go_wp2
               go_ret
               exact ⟨by first | rfl | (simp; done) | (simp [*]; done), by repeat (first | exact Drawn0.refl _ | apply Drawn0.step)⟩
def stylusref01_Lower.f (k : Nat) (a0 : Int) : Option (Int) := (stylusref01_Class.f k a0).bind fun t131 => (if t131 = 2 then (some ((((a0 - 65) % 256) + 97) % 256)) else (some a0))
theorem stylusref01_Lower.mono : ∀ a0 k, LeO (stylusref01_Lower.f k a0) (stylusref01_Lower.f (k + 1) a0) := by
 intro a0 k
 unfold stylusref01_Lower.f
 repeat' first
   | (with_reducible exact stylusref01_Class.mono _ _)
   | (with_reducible exact LeO.refl _)
   | (with_reducible exact LeO.none _)
   | (with_reducible refine LeO.ite ?_ ?_)
   | (with_reducible refine LeO.bind ?_ (fun _ => ?_))
   | exact stylusref01_Class.mono _ _
   | exact LeO.none _
   | refine LeO.ite ?_ ?_
   | refine LeO.bind ?_ (fun _ => ?_)
def stylusref01_Low.l0 : Nat → ByteArray → List Int → Int → Option (ByteArray)
 | 0, _, _, _ => none
 | k + 1, x0, x3, x4 => if x4 < (x0.size : Int) then (if 0 ≤ x4 then ((stylusref01_Lower.f k (bt x0 x4)).bind fun t132 => (if x3.length < 140737488355328 then (stylusref01_Low.l0 k x0 (x3 ++ [t132]) (wrap64 (x4 + 1))) else (none))) else (none)) else (some (strOfNums x3))
def stylusref01_Low.f (k : Nat) (a0 : ByteArray) : Option (ByteArray) := stylusref01_Low.l0 k a0 ([] : List Int) 0
theorem stylusref01_Low.mono_l : ∀ k, (∀ y0 y1 y2, LeO (stylusref01_Low.l0 k y0 y1 y2) (stylusref01_Low.l0 (k + 1) y0 y1 y2))
 | 0 => fun _ _ _ r h => by simp [stylusref01_Low.l0] at h
 | k + 1 => by
  have ih0 := stylusref01_Low.mono_l k
  ·intro y0 y1 y2
   unfold stylusref01_Low.l0
   repeat' first
   | (with_reducible exact ih0 _ _ _)
   | (with_reducible exact stylusref01_Lower.mono _ _)
   | (with_reducible exact LeO.refl _)
   | (with_reducible exact LeO.none _)
   | (with_reducible refine LeO.ite ?_ ?_)
   | (with_reducible refine LeO.bind ?_ (fun _ => ?_))
   | exact ih0 _ _ _
   | exact stylusref01_Lower.mono _ _
   | exact LeO.none _
   | refine LeO.ite ?_ ?_
   | refine LeO.bind ?_ (fun _ => ?_)
theorem stylusref01_Low.mono : ∀ a0 k, LeO (stylusref01_Low.f k a0) (stylusref01_Low.f (k + 1) a0) := by
 intro a0 k
 have ih0 := stylusref01_Low.mono_l k
 unfold stylusref01_Low.f
 repeat' first
   | (with_reducible exact ih0 _ _ _)
   | (with_reducible exact stylusref01_Lower.mono _ _)
   | (with_reducible exact LeO.refl _)
   | (with_reducible exact LeO.none _)
   | (with_reducible refine LeO.ite ?_ ?_)
   | (with_reducible refine LeO.bind ?_ (fun _ => ?_))
   | exact ih0 _ _ _
   | exact stylusref01_Lower.mono _ _
   | exact LeO.none _
   | refine LeO.ite ?_ ?_
   | refine LeO.bind ?_ (fun _ => ?_)
def stylusref01_Letter.f (k : Nat) (a0 : Int) : Option (Bool) := (stylusref01_Class.f k a0).bind fun t136 => (if t136 = 1 then (some true) else ((stylusref01_Class.f k a0).bind fun t137 => (some (t137 == 2))))
theorem stylusref01_Letter.mono : ∀ a0 k, LeO (stylusref01_Letter.f k a0) (stylusref01_Letter.f (k + 1) a0) := by
 intro a0 k
 unfold stylusref01_Letter.f
 repeat' first
   | (with_reducible exact stylusref01_Class.mono _ _)
   | (with_reducible exact LeO.refl _)
   | (with_reducible exact LeO.none _)
   | (with_reducible refine LeO.ite ?_ ?_)
   | (with_reducible refine LeO.bind ?_ (fun _ => ?_))
   | exact stylusref01_Class.mono _ _
   | exact LeO.none _
   | refine LeO.ite ?_ ?_
   | refine LeO.bind ?_ (fun _ => ?_)
def chars_Is.f (a0 : Int) : Option (Bool) := (chars_Class.f a0).bind fun t101 => (if t101 = 0 then (some false) else (some (t101 != 6)))
set_option maxHeartbeats 8000000 in
set_option maxRecDepth 100000 in
theorem chars_Is.calls (a0 : Int) (r : Bool) (w : World) (h : chars_Is.f a0 = some r) :
  Calls Try.prog 33 #[.int .u8 a0] w fun e w' => e = .returned (.bool r) ∧ Below w.heap.size w w' := by
 have HB := Aside0.mk (Below.refl w.heap.size w)
 have H : ((chars_Class.f a0).bind fun t101 => (if t101 = 0 then (some false) else (some (t101 != 6)))) = some r := h
 clear h
 replace H := Option.bind_eq_some_iff.mp H
 obtain ⟨t101, A20, H⟩ := H
 replace H : (if t101 = 0 then (some false) else (some (t101 != 6))) = some r := H
 have A2 := Aside0.mk A20
 clear A20
 by_cases c3 : t101 = 0
 ·rw [if_pos c3] at H
  have c3b0 : (t101 == 0) = true := beq_iff_eq.mpr c3
  have c3b1 : (t101 != 0) = false := bne_eq_false_iff_eq.mpr c3
  clear c3
  obtain rfl := Option.some.inj H
  go_enter Try.func33, Try.ntmps33
  go_wp2_with (first | ((with_reducible refine gate_callee (f := 24) rfl ?_); refine goesL_ (some 5) rfl rfl Try.func24 (by kernel_rfl) rfl #[.int .u8 a0] rfl (by (try simp only [List.map_toArray, List.map_cons, List.map_nil]); first | done | rfl | (simp only [List.length_drop, List.length_take]; rfl)) ?_; (with_reducible refine (chars_Class.calls a0 t101 _ A2.out).mono ?_); rintro e w4 ⟨rfl, hb⟩; refine ⟨_, rfl, ?_⟩; have n0_ := Aside0.mk (below_step (by repeat (first | (with_reducible first | exact HB.out | apply below_alloc | apply pw_below_drewN | apply below_drew1) | exact HB.out)) hb); clear HB; have HB := n0_; clear n0_; (try clear hb); (try clear hb2); (try clear hk); (try clear hi)))
  go_ret
  exact ⟨by first | rfl | (simp [errW_none, errW_some] <;> rfl) | (simp [*, errW_none, errW_some] <;> rfl), by repeat (first | (with_reducible first | exact HB.out | apply below_alloc | apply pw_below_drewN | apply below_drew1) | exact HB.out)⟩
 ·rw [if_neg c3] at H
  have c3b0 : (t101 == 0) = false := beq_eq_false_iff_ne.mpr c3
  have c3b1 : (t101 != 0) = true := bne_iff_ne.mpr c3
  obtain rfl := Option.some.inj H
  go_enter Try.func33, Try.ntmps33
  go_wp2_with (first | ((with_reducible refine gate_callee (f := 24) rfl ?_); refine goesL_ (some 5) rfl rfl Try.func24 (by kernel_rfl) rfl #[.int .u8 a0] rfl (by (try simp only [List.map_toArray, List.map_cons, List.map_nil]); first | done | rfl | (simp only [List.length_drop, List.length_take]; rfl)) ?_; (with_reducible refine (chars_Class.calls a0 t101 _ A2.out).mono ?_); rintro e w5 ⟨rfl, hb⟩; refine ⟨_, rfl, ?_⟩; have n0_ := Aside0.mk (below_step (by repeat (first | (with_reducible first | exact HB.out | apply below_alloc | apply pw_below_drewN | apply below_drew1) | exact HB.out)) hb); clear HB; have HB := n0_; clear n0_; (try clear hb); (try clear hb2); (try clear hk); (try clear hi)))
  go_ret
  exact ⟨by first | rfl | (simp [errW_none, errW_some] <;> rfl) | (simp [*, errW_none, errW_some] <;> rfl), by repeat (first | (with_reducible first | exact HB.out | apply below_alloc | apply pw_below_drewN | apply below_drew1) | exact HB.out)⟩
def stylusref01_Is.f (k : Nat) (a0 : Int) : Option (Bool) := (stylusref01_Class.f k a0).bind fun t102 => (if t102 ≥ 1 then ((stylusref01_Class.f k a0).bind fun t103 => (some (decide (t103 ≤ 5)))) else (some false))
theorem stylusref01_Is.mono : ∀ a0 k, LeO (stylusref01_Is.f k a0) (stylusref01_Is.f (k + 1) a0) := by
 intro a0 k
 unfold stylusref01_Is.f
 repeat' first
   | (with_reducible exact stylusref01_Class.mono _ _)
   | (with_reducible exact LeO.refl _)
   | (with_reducible exact LeO.none _)
   | (with_reducible refine LeO.ite ?_ ?_)
   | (with_reducible refine LeO.bind ?_ (fun _ => ?_))
   | exact stylusref01_Class.mono _ _
   | exact LeO.none _
   | refine LeO.ite ?_ ?_
   | refine LeO.bind ?_ (fun _ => ?_)
set_option maxHeartbeats 8000000 in
set_option maxRecDepth 100000 in
theorem stylusref01_Is.calls (k : Nat) (a0 : Int) (r : Bool) (w : World) (h : stylusref01_Is.f k a0 = some r) :
  Calls Try.prog 34 #[.int .u8 a0] w fun e w' => e = .returned (.bool r) ∧ Drawn0 w w' := by
 have H : ((stylusref01_Class.f k a0).bind fun t102 => (if t102 ≥ 1 then ((stylusref01_Class.f k a0).bind fun t103 => (some (decide (t103 ≤ 5)))) else (some false))) = some r := h
 clear h
 replace H := Option.bind_eq_some_iff.mp H
 obtain ⟨t102, A20, H⟩ := H
 replace H : (if t102 ≥ 1 then ((stylusref01_Class.f k a0).bind fun t103 => (some (decide (t103 ≤ 5)))) else (some false)) = some r := H
 have A2 := Aside0.mk A20
 clear A20
 by_cases c3 : t102 ≥ 1
 ·rw [if_pos c3] at H
  have c3b0 : decide (1 ≤ t102) = true := decide_eq_true c3
  clear c3
  replace H := Option.bind_eq_some_iff.mp H
  obtain ⟨t103, A40, H⟩ := H
  replace H : (some (decide (t103 ≤ 5))) = some r := H
  have A4 := Aside0.mk A40
  clear A40
  obtain rfl := Option.some.inj H
  go_enter Try.func34, Try.ntmps34
  go_wp2_with (first | ((with_reducible refine gate_callee (f := 32) rfl ?_); refine goesL_ (some 4) rfl rfl Try.func32 (by kernel_rfl) rfl #[.int .u8 a0] rfl (by (try simp only [List.map_toArray, List.map_cons, List.map_nil]); first | done | rfl | (simp only [List.length_drop, List.length_take]; rfl)) ?_; (with_reducible refine (stylusref01_Class.calls k a0 t102 _ A2.out).mono ?_); rintro e w' ⟨rfl, ⟨nd, rfl⟩⟩; refine ⟨_, rfl, ?_⟩) | (go_at_call 32; (with_reducible refine (stylusref01_Class.calls k a0 t103 _ A4.out).mono ?_); rintro e w' ⟨rfl, ⟨nd, rfl⟩⟩))
  go_ret
  exact ⟨by first | rfl | (simp; done) | (simp [*]; done), by repeat (first | exact Drawn0.refl _ | apply Drawn0.step)⟩
 ·rw [if_neg c3] at H
  have c3b0 : decide (1 ≤ t102) = false := decide_eq_false c3
  clear c3
  obtain rfl := Option.some.inj H
  go_enter Try.func34, Try.ntmps34
  go_wp2_with (first | ((with_reducible refine gate_callee (f := 32) rfl ?_); refine goesL_ (some 4) rfl rfl Try.func32 (by kernel_rfl) rfl #[.int .u8 a0] rfl (by (try simp only [List.map_toArray, List.map_cons, List.map_nil]); first | done | rfl | (simp only [List.length_drop, List.length_take]; rfl)) ?_; (with_reducible refine (stylusref01_Class.calls k a0 t102 _ A2.out).mono ?_); rintro e w' ⟨rfl, ⟨nd, rfl⟩⟩; refine ⟨_, rfl, ?_⟩))
  go_ret
  exact ⟨by first | rfl | (simp; done) | (simp [*]; done), by repeat (first | exact Drawn0.refl _ | apply Drawn0.step)⟩
def chars_White.f (a0 : Int) : Option (Bool) := if a0 = 32 then (some true) else (some (a0 == 10))
set_option maxHeartbeats 8000000 in
set_option maxRecDepth 100000 in
theorem chars_White.calls (a0 : Int) (r : Bool) (w : World) (h : chars_White.f a0 = some r) :
  Calls Try.prog 35 #[.int .u8 a0] w fun e w' => e = .returned (.bool r) ∧ Drawn0 w w' := by
 have H : (if a0 = 32 then (some true) else (some (a0 == 10))) = some r := h
 clear h
 by_cases c2 : a0 = 32
 ·rw [if_pos c2] at H
  have c2b0 : (a0 == 32) = true := beq_iff_eq.mpr c2
  have c2b1 : (a0 != 32) = false := bne_eq_false_iff_eq.mpr c2
  clear c2
  obtain rfl := Option.some.inj H
  go_enter Try.func35, Try.ntmps35
  go_wp2
  go_ret
  exact ⟨by first | rfl | (simp; done) | (simp [*]; done), by repeat (first | exact Drawn0.refl _ | apply Drawn0.step)⟩
 ·rw [if_neg c2] at H
  have c2b0 : (a0 == 32) = false := beq_eq_false_iff_ne.mpr c2
  have c2b1 : (a0 != 32) = true := bne_iff_ne.mpr c2
  obtain rfl := Option.some.inj H
  go_enter Try.func35, Try.ntmps35
  go_wp2
  go_ret
  exact ⟨by first | rfl | (simp; done) | (simp [*]; done), by repeat (first | exact Drawn0.refl _ | apply Drawn0.step)⟩
def chars_Letter.f (a0 : Int) : Option (Bool) := (chars_Class.f a0).bind fun t104 => (if t104 = 1 then (some true) else (some (t104 == 2)))
def stylusref01_Upper.f (k : Nat) (a0 : Int) : Option (Int) := (stylusref01_Class.f k a0).bind fun t105 => (if t105 = 1 then (some ((((a0 - 97) % 256) + 65) % 256)) else (some a0))
theorem stylusref01_Upper.mono : ∀ a0 k, LeO (stylusref01_Upper.f k a0) (stylusref01_Upper.f (k + 1) a0) := by
 intro a0 k
 unfold stylusref01_Upper.f
 repeat' first
   | (with_reducible exact stylusref01_Class.mono _ _)
   | (with_reducible exact LeO.refl _)
   | (with_reducible exact LeO.none _)
   | (with_reducible refine LeO.ite ?_ ?_)
   | (with_reducible refine LeO.bind ?_ (fun _ => ?_))
   | exact stylusref01_Class.mono _ _
   | exact LeO.none _
   | refine LeO.ite ?_ ?_
   | refine LeO.bind ?_ (fun _ => ?_)
def styluslaw01_CharsOf.f (k : Nat) (a0 : Int) : Option (Bool) := (chars_Class.f a0).bind fun t106 => ((stylusref01_Class.f k a0).bind fun t107 => (if t106 = t107 then ((chars_Is.f a0).bind fun t108 => ((stylusref01_Is.f k a0).bind fun t109 => (if (t108 == t109) = true then ((chars_White.f a0).bind fun t110 => (if a0 = 32 then (if (t110 == true) = true then ((chars_Letter.f a0).bind fun t111 => ((stylusref01_Letter.f k a0).bind fun t112 => (if (t111 == t112) = true then ((chars_Lower.f a0).bind fun t113 => ((stylusref01_Lower.f k a0).bind fun t114 => (if t113 = t114 then ((chars_Upper.f a0).bind fun t115 => ((stylusref01_Upper.f k a0).bind fun t116 => (if t115 = t116 then ((chars_Marks.f).bind fun t117 => ((stylusref01_Marks.f).bind fun t118 => (if t117.toList = t118.toList then ((styluslaw01_awake.f k).bind fun t119 => (some t119)) else (some false)))) else (some false)))) else (some false)))) else (some false)))) else (some false)) else (if (t110 == (a0 == 10)) = true then ((chars_Letter.f a0).bind fun t120 => ((stylusref01_Letter.f k a0).bind fun t121 => (if (t120 == t121) = true then ((chars_Lower.f a0).bind fun t122 => ((stylusref01_Lower.f k a0).bind fun t123 => (if t122 = t123 then ((chars_Upper.f a0).bind fun t124 => ((stylusref01_Upper.f k a0).bind fun t125 => (if t124 = t125 then ((chars_Marks.f).bind fun t126 => ((stylusref01_Marks.f).bind fun t127 => (if t126.toList = t127.toList then ((styluslaw01_awake.f k).bind fun t128 => (some t128)) else (some false)))) else (some false)))) else (some false)))) else (some false)))) else (some false)))) else (some false)))) else (some false)))
theorem styluslaw01_CharsOf.mono : ∀ a0 k, LeO (styluslaw01_CharsOf.f k a0) (styluslaw01_CharsOf.f (k + 1) a0) := by
 intro a0 k
 unfold styluslaw01_CharsOf.f
 repeat' first
   | (with_reducible exact styluslaw01_awake.mono _)
   | (with_reducible exact stylusref01_Class.mono _ _)
   | (with_reducible exact stylusref01_Is.mono _ _)
   | (with_reducible exact stylusref01_Letter.mono _ _)
   | (with_reducible exact stylusref01_Lower.mono _ _)
   | (with_reducible exact stylusref01_Upper.mono _ _)
   | (with_reducible exact LeO.refl _)
   | (with_reducible exact LeO.none _)
   | (with_reducible refine LeO.ite ?_ ?_)
   | (with_reducible refine LeO.bind ?_ (fun _ => ?_))
   | exact styluslaw01_awake.mono _
   | exact stylusref01_Class.mono _ _
   | exact stylusref01_Is.mono _ _
   | exact stylusref01_Letter.mono _ _
   | exact stylusref01_Lower.mono _ _
   | exact stylusref01_Upper.mono _ _
   | exact LeO.none _
   | refine LeO.ite ?_ ?_
   | refine LeO.bind ?_ (fun _ => ?_)
def styluslaw01_CharsOf.Pure : Prop := ∀ (a0 : Int), (Lit.int .u8 a0).wf = true → ∃ k, styluslaw01_CharsOf.f k a0 = some true
end Go.Proofs.Ythcmfjpheanphaa.Pr
