/- Texts of this seat, one behind the other. -/
import Derived.Test.YtbddfnmhhmkfkaaXLinesSet1
import Derived.Test.YtbddfnmhhmkfkaaXLinesSet2
import Derived.Test.YtbddfnmhhmkfkaaXLinesSet3
import Derived.Test.YtbddfnmhhmkfkaaXLinesSet4
import Derived.Test.YtbddfnmhhmkfkaaXLinesSet5
import Derived.Test.YtbddfnmhhmkfkaaXLinesSet6
import Derived.Test.YtbddfnmhhmkfkaaXLinesSet7
set_option linter.unusedVariables false
set_option linter.unusedSimpArgs false
namespace Go.Proofs.Ytbddfnmhhmkfkaa.Pr
open Go.RowKit Go.Proofs.YtbddfnmhhmkfkaaW.PrintWords Go.Proofs.YtbddfnmhhmkfkaaW.PrintLast Go.Proofs.YtbddfnmhhmkfkaaW.PrintMore
attribute [local go_sem] max2_int min2_int max_two min_two max_three min_three max_four min_four
def stylusref19_Legal.l0 : Nat → List (S43) → List Int → Int → Int → Option (Bool)
 | 0, _, _, _, _ => none
 | k + 1, x0, x1, x5, x6 => if x6 < (x1.length : Int) then (if 0 ≤ x6 then (if (rd x1 x6) ≤ x5 then (some false) else ((stylusref19_Place.f x0 (rd x1 x6)).bind fun t272 => (if t272 = true then ((stylusref19_Hyphen.f x0 x5).bind fun t273 => (if t273 = true then ((stylusref19_Hyphen.f x0 (rd x1 x6)).bind fun t275 => (if t275 = true then (some false) else (stylusref19_Legal.l0 k x0 x1 (rd x1 x6) (wrap64 (x6 + 1))))) else (stylusref19_Legal.l0 k x0 x1 (rd x1 x6) (wrap64 (x6 + 1))))) else (some false)))) else (none)) else (if (x1.length : Int) > 0 then (some (x5 == (x0.length : Int))) else (some false))
def stylusref19_Legal.f (k : Nat) (l0 : List (S43)) (l1 : List Int) : Option (Bool) := stylusref19_Legal.l0 k l0 l1 (-1) 0
theorem stylusref19_Legal.mono_l : ∀ k, (∀ y0 y1 y2 y3, LeO (stylusref19_Legal.l0 k y0 y1 y2 y3) (stylusref19_Legal.l0 (k + 1) y0 y1 y2 y3))
 | 0 => fun _ _ _ _ r h => by simp [stylusref19_Legal.l0] at h
 | k + 1 => by
  have ih0 := stylusref19_Legal.mono_l k
  ·intro y0 y1 y2 y3
   unfold stylusref19_Legal.l0
   repeat' first
   | (with_reducible exact ih0 _ _ _ _)
   | (with_reducible exact LeO.refl _)
   | (with_reducible exact LeO.none _)
   | (with_reducible refine LeO.ite ?_ ?_)
   | (with_reducible refine LeO.bind ?_ (fun _ => ?_))
   | exact ih0 _ _ _ _
   | exact LeO.none _
   | refine LeO.ite ?_ ?_
   | refine LeO.bind ?_ (fun _ => ?_)
theorem stylusref19_Legal.mono : ∀ a0 a1 k, LeO (stylusref19_Legal.f k a0 a1) (stylusref19_Legal.f (k + 1) a0 a1) := by
 intro a0 a1 k
 have ih0 := stylusref19_Legal.mono_l k
 unfold stylusref19_Legal.f
 repeat' first
   | (with_reducible exact ih0 _ _ _ _)
   | (with_reducible exact LeO.refl _)
   | (with_reducible exact LeO.none _)
   | (with_reducible refine LeO.ite ?_ ?_)
   | (with_reducible refine LeO.bind ?_ (fun _ => ?_))
   | exact ih0 _ _ _ _
   | exact LeO.none _
   | refine LeO.ite ?_ ?_
   | refine LeO.bind ?_ (fun _ => ?_)
set_option maxHeartbeats 8000000 in
set_option maxRecDepth 100000 in
theorem stylusref19_Legal.calls (k : Nat) (A0 : Option Addr) (c0 : Nat) (l0 : List (S43)) (A1 : Option Addr) (c1 : Nat) (l1 : List Int) (r : Bool) (w : World) (hr0 : Kd.C k43 w A0 l0.length l0) (hc0 : l0.length ≤ c0) (hr1 : Kd.C (Kd.int .i64) w A1 l1.length l1) (hc1 : l1.length ≤ c1) (h : stylusref19_Legal.f k l0 l1 = some r) :
  Calls Try.prog 22 #[.slice A0 l0.length c0, .slice A1 l1.length c1] w fun e w' => e = .returned (.bool r) ∧ Drawn0 w w' := by
 have HR0 := Aside0.mk hr0
 have HC0 := Aside0.mk hc0
 clear hr0 hc0
 have HR1 := Aside0.mk hr1
 have HC1 := Aside0.mk hc1
 clear hr1 hc1
 have H : (stylusref19_Legal.l0 k l0 l1 (-1) 0) = some r := h
 clear h
 have H' := Aside0.mk H
 clear H
 go_enter Try.func22, Try.ntmps22
 go_wp2
 go_loopg [5, 6] k (fun kq v5 v6 w' => ∃ (x5_1 : Int) (x6_1 : Int), v5 = .int .i64 x5_1 ∧ v6 = .int .i64 x6_1 ∧ Aside0 (stylusref19_Legal.l0 kq l0 l1 x5_1 x6_1 = some r) ∧ Aside0 (kq ≤ k) ∧ Drawn0 w w')
 case atStart => exact ⟨((-1)), (0), (by first | rfl | (simp; done) | (simp [*]; done)), (by first | rfl | (simp; done) | (simp [*]; done)), H', ⟨Nat.le_refl _⟩, by repeat (first | exact Drawn0.refl _ | apply Drawn0.step)⟩
 case round =>
  clear H'
  try clear c1
  try clear c2
  try clear p2
  obtain ⟨x5_1, x6_1, rfl, rfl, HA, HK1, ⟨m1, rfl⟩⟩ := hrel
  cases gk with
  | zero => exact absurd HA.out (by simp [stylusref19_Legal.l0])
  | succ k1 =>
   have H := HA.out
   clear HA
   simp only [stylusref19_Legal.l0] at H
   by_cases c3 : x6_1 < (l1.length : Int)
   ·rw [if_pos c3] at H
    have c3b0 : decide (x6_1 < (l1.length : Int)) = true := decide_eq_true c3
    clear c3
    by_cases c4 : 0 ≤ x6_1
    ·rw [if_pos c4] at H
     have c4b0 : decide (0 ≤ x6_1) = true := decide_eq_true c4
     clear c4
     by_cases c5 : (rd l1 x6_1) ≤ x5_1
     ·rw [if_pos c5] at H
      have c5b0 : decide ((rd l1 x6_1) ≤ x5_1) = true := decide_eq_true c5
      clear c5
      obtain rfl := Option.some.inj H
      have p270 : 0 ≤ (x6_1 : Int) := of_decide_eq_true (by first | (with_reducible assumption) | assumption)
      have q270 : x6_1 < (l1.length : Int) := of_decide_eq_true (by first | (with_reducible assumption) | assumption)
      obtain ⟨ad270, e270, hx270_0⟩ := Kd.at_int HR1.out x6_1 p270 q270
      cases e270
      replace p270 := eq_true p270
      replace q270 := eq_true q270
      go_wp2
      go_ret
      exact ⟨by first | rfl | (simp; done) | (simp [*]; done), by repeat (first | exact Drawn0.refl _ | apply Drawn0.step)⟩
     ·rw [if_neg c5] at H
      have c5b0 : decide ((rd l1 x6_1) ≤ x5_1) = false := decide_eq_false c5
      clear c5
      replace H := Option.bind_eq_some_iff.mp H
      obtain ⟨t272, A60, H⟩ := H
      replace H : (if t272 = true then ((stylusref19_Hyphen.f l0 x5_1).bind fun t273 => (if t273 = true then ((stylusref19_Hyphen.f l0 (rd l1 x6_1)).bind fun t275 => (if t275 = true then (some false) else (stylusref19_Legal.l0 k1 l0 l1 (rd l1 x6_1) (wrap64 (x6_1 + 1))))) else (stylusref19_Legal.l0 k1 l0 l1 (rd l1 x6_1) (wrap64 (x6_1 + 1))))) else (some false)) = some r := H
      have A6 := Aside0.mk A60
      clear A60
      by_cases c7 : t272 = true
      ·subst c7
       have H1 : ((stylusref19_Hyphen.f l0 x5_1).bind fun t273 => (if t273 = true then ((stylusref19_Hyphen.f l0 (rd l1 x6_1)).bind fun t275 => (if t275 = true then (some false) else (stylusref19_Legal.l0 k1 l0 l1 (rd l1 x6_1) (wrap64 (x6_1 + 1))))) else (stylusref19_Legal.l0 k1 l0 l1 (rd l1 x6_1) (wrap64 (x6_1 + 1))))) = some r := by rw [if_pos rfl] at H; exact H
       clear H
       have H := H1
       clear H1
       replace H := Option.bind_eq_some_iff.mp H
       obtain ⟨t273, A80, H⟩ := H
       replace H : (if t273 = true then ((stylusref19_Hyphen.f l0 (rd l1 x6_1)).bind fun t275 => (if t275 = true then (some false) else (stylusref19_Legal.l0 k1 l0 l1 (rd l1 x6_1) (wrap64 (x6_1 + 1))))) else (stylusref19_Legal.l0 k1 l0 l1 (rd l1 x6_1) (wrap64 (x6_1 + 1)))) = some r := H
       have A8 := Aside0.mk A80
       clear A80
       by_cases c9 : t273 = true
       ·subst c9
        have H1 : ((stylusref19_Hyphen.f l0 (rd l1 x6_1)).bind fun t275 => (if t275 = true then (some false) else (stylusref19_Legal.l0 k1 l0 l1 (rd l1 x6_1) (wrap64 (x6_1 + 1))))) = some r := by rw [if_pos rfl] at H; exact H
        clear H
        have H := H1
        clear H1
        replace H := Option.bind_eq_some_iff.mp H
        obtain ⟨t275, A100, H⟩ := H
        replace H : (if t275 = true then (some false) else (stylusref19_Legal.l0 k1 l0 l1 (rd l1 x6_1) (wrap64 (x6_1 + 1)))) = some r := H
        have A10 := Aside0.mk A100
        clear A100
        by_cases c11 : t275 = true
        ·subst c11
         have H1 : (some false) = some r := by rw [if_pos rfl] at H; exact H
         clear H
         have H := H1
         clear H1
         obtain rfl := Option.some.inj H
         have p270 : 0 ≤ (x6_1 : Int) := of_decide_eq_true (by first | (with_reducible assumption) | assumption)
         have q270 : x6_1 < (l1.length : Int) := of_decide_eq_true (by first | (with_reducible assumption) | assumption)
         obtain ⟨ad270, e270, hx270_0⟩ := Kd.at_int HR1.out x6_1 p270 q270
         cases e270
         replace p270 := eq_true p270
         replace q270 := eq_true q270
         have p271 : 0 ≤ (x6_1 : Int) := of_decide_eq_true (by first | (with_reducible assumption) | assumption)
         have q271 : x6_1 < (l1.length : Int) := of_decide_eq_true (by first | (with_reducible assumption) | assumption)
         obtain ⟨ad271, e271, hx271_0⟩ := Kd.at_int HR1.out x6_1 p271 q271
         obtain rfl : ad270 = ad271 := (by injection e271)
         replace p271 := eq_true p271
         replace q271 := eq_true q271
         go_wp2_with (first | (go_at_call 40; (with_reducible refine (stylusref19_Place.calls _ _ l0 (rd l1 x6_1) true _ ?side1 ?side2 A6.out).mono ?_); (case side1 => repeat (first | exact HR0.out | (with_reducible refine Kd.C_alloc ?_ _) | (with_reducible refine Kd.C_drewN ?_ _) | (with_reducible refine Kd.C_drew ?_))); (case side2 => exact HC0.out); rintro e w' ⟨rfl, ⟨nd, rfl⟩⟩) | (go_at_call 57; (with_reducible refine (stylusref19_Hyphen.calls _ _ l0 x5_1 true _ ?side1 ?side2 A8.out).mono ?_); (case side1 => repeat (first | exact HR0.out | (with_reducible refine Kd.C_alloc ?_ _) | (with_reducible refine Kd.C_drewN ?_ _) | (with_reducible refine Kd.C_drew ?_))); (case side2 => exact HC0.out); rintro e w' ⟨rfl, ⟨nd, rfl⟩⟩; have p274 : 0 ≤ (x6_1 : Int) := of_decide_eq_true (by first | (with_reducible assumption) | assumption); have q274 : x6_1 < (l1.length : Int) := of_decide_eq_true (by first | (with_reducible assumption) | assumption); obtain ⟨ad274, e274, hx274_0⟩ := Kd.at_int HR1.out x6_1 p274 q274; obtain rfl : ad270 = ad274 := (by injection e274); replace p274 := eq_true p274; replace q274 := eq_true q274) | (go_at_call 57; (with_reducible refine (stylusref19_Hyphen.calls _ _ l0 (rd l1 x6_1) true _ ?side1 ?side2 A10.out).mono ?_); (case side1 => repeat (first | exact HR0.out | (with_reducible refine Kd.C_alloc ?_ _) | (with_reducible refine Kd.C_drewN ?_ _) | (with_reducible refine Kd.C_drew ?_))); (case side2 => exact HC0.out); rintro e w' ⟨rfl, ⟨nd, rfl⟩⟩))
         go_ret
         exact ⟨by first | rfl | (simp; done) | (simp [*]; done), by repeat (first | exact Drawn0.refl _ | apply Drawn0.step)⟩
        ·replace c11 := Bool.eq_false_iff.mpr c11
         subst c11
         have H1 : (stylusref19_Legal.l0 k1 l0 l1 (rd l1 x6_1) (wrap64 (x6_1 + 1))) = some r := by rw [if_neg (show ¬ (false = true) by decide)] at H; exact H
         clear H
         have H := H1
         clear H1
         have H' := Aside0.mk H
         clear H
         have p270 : 0 ≤ (x6_1 : Int) := of_decide_eq_true (by first | (with_reducible assumption) | assumption)
         have q270 : x6_1 < (l1.length : Int) := of_decide_eq_true (by first | (with_reducible assumption) | assumption)
         obtain ⟨ad270, e270, hx270_0⟩ := Kd.at_int HR1.out x6_1 p270 q270
         cases e270
         replace p270 := eq_true p270
         replace q270 := eq_true q270
         have p271 : 0 ≤ (x6_1 : Int) := of_decide_eq_true (by first | (with_reducible assumption) | assumption)
         have q271 : x6_1 < (l1.length : Int) := of_decide_eq_true (by first | (with_reducible assumption) | assumption)
         obtain ⟨ad271, e271, hx271_0⟩ := Kd.at_int HR1.out x6_1 p271 q271
         obtain rfl : ad270 = ad271 := (by injection e271)
         replace p271 := eq_true p271
         replace q271 := eq_true q271
         go_wp2_with (first | (go_at_call 40; (with_reducible refine (stylusref19_Place.calls _ _ l0 (rd l1 x6_1) true _ ?side1 ?side2 A6.out).mono ?_); (case side1 => repeat (first | exact HR0.out | (with_reducible refine Kd.C_alloc ?_ _) | (with_reducible refine Kd.C_drewN ?_ _) | (with_reducible refine Kd.C_drew ?_))); (case side2 => exact HC0.out); rintro e w' ⟨rfl, ⟨nd, rfl⟩⟩) | (go_at_call 57; (with_reducible refine (stylusref19_Hyphen.calls _ _ l0 x5_1 true _ ?side1 ?side2 A8.out).mono ?_); (case side1 => repeat (first | exact HR0.out | (with_reducible refine Kd.C_alloc ?_ _) | (with_reducible refine Kd.C_drewN ?_ _) | (with_reducible refine Kd.C_drew ?_))); (case side2 => exact HC0.out); rintro e w' ⟨rfl, ⟨nd, rfl⟩⟩; have p274 : 0 ≤ (x6_1 : Int) := of_decide_eq_true (by first | (with_reducible assumption) | assumption); have q274 : x6_1 < (l1.length : Int) := of_decide_eq_true (by first | (with_reducible assumption) | assumption); obtain ⟨ad274, e274, hx274_0⟩ := Kd.at_int HR1.out x6_1 p274 q274; obtain rfl : ad270 = ad274 := (by injection e274); replace p274 := eq_true p274; replace q274 := eq_true q274) | (go_at_call 57; (with_reducible refine (stylusref19_Hyphen.calls _ _ l0 (rd l1 x6_1) false _ ?side1 ?side2 A10.out).mono ?_); (case side1 => repeat (first | exact HR0.out | (with_reducible refine Kd.C_alloc ?_ _) | (with_reducible refine Kd.C_drewN ?_ _) | (with_reducible refine Kd.C_drew ?_))); (case side2 => exact HC0.out); rintro e w' ⟨rfl, ⟨nd, rfl⟩⟩; have p276 : 0 ≤ (x6_1 : Int) := of_decide_eq_true (by first | (with_reducible assumption) | assumption); have q276 : x6_1 < (l1.length : Int) := of_decide_eq_true (by first | (with_reducible assumption) | assumption); obtain ⟨ad276, e276, hx276_0⟩ := Kd.at_int HR1.out x6_1 p276 q276; obtain rfl : ad270 = ad276 := (by injection e276); replace p276 := eq_true p276; replace q276 := eq_true q276))
         go_roundg k1
         case measure => have := HK1.out; omega
         case rel => exact ⟨(rd l1 x6_1), (wrap64 (x6_1 + 1)), (by first | rfl | (simp; done) | (simp [*]; done)), (by first | rfl | (simp; done) | (simp [*]; done)), H', ⟨by have := HK1.out; omega⟩, by repeat (first | exact Drawn0.refl _ | apply Drawn0.step)⟩
       ·replace c9 := Bool.eq_false_iff.mpr c9
        subst c9
        have H1 : (stylusref19_Legal.l0 k1 l0 l1 (rd l1 x6_1) (wrap64 (x6_1 + 1))) = some r := by rw [if_neg (show ¬ (false = true) by decide)] at H; exact H
        clear H
        have H := H1
        clear H1
        have H' := Aside0.mk H
        clear H
        have p270 : 0 ≤ (x6_1 : Int) := of_decide_eq_true (by first | (with_reducible assumption) | assumption)
        have q270 : x6_1 < (l1.length : Int) := of_decide_eq_true (by first | (with_reducible assumption) | assumption)
        obtain ⟨ad270, e270, hx270_0⟩ := Kd.at_int HR1.out x6_1 p270 q270
        cases e270
        replace p270 := eq_true p270
        replace q270 := eq_true q270
        have p271 : 0 ≤ (x6_1 : Int) := of_decide_eq_true (by first | (with_reducible assumption) | assumption)
        have q271 : x6_1 < (l1.length : Int) := of_decide_eq_true (by first | (with_reducible assumption) | assumption)
        obtain ⟨ad271, e271, hx271_0⟩ := Kd.at_int HR1.out x6_1 p271 q271
        obtain rfl : ad270 = ad271 := (by injection e271)
        replace p271 := eq_true p271
        replace q271 := eq_true q271
        go_wp2_with (first | (go_at_call 40; (with_reducible refine (stylusref19_Place.calls _ _ l0 (rd l1 x6_1) true _ ?side1 ?side2 A6.out).mono ?_); (case side1 => repeat (first | exact HR0.out | (with_reducible refine Kd.C_alloc ?_ _) | (with_reducible refine Kd.C_drewN ?_ _) | (with_reducible refine Kd.C_drew ?_))); (case side2 => exact HC0.out); rintro e w' ⟨rfl, ⟨nd, rfl⟩⟩) | (go_at_call 57; (with_reducible refine (stylusref19_Hyphen.calls _ _ l0 x5_1 false _ ?side1 ?side2 A8.out).mono ?_); (case side1 => repeat (first | exact HR0.out | (with_reducible refine Kd.C_alloc ?_ _) | (with_reducible refine Kd.C_drewN ?_ _) | (with_reducible refine Kd.C_drew ?_))); (case side2 => exact HC0.out); rintro e w' ⟨rfl, ⟨nd, rfl⟩⟩; have p277 : 0 ≤ (x6_1 : Int) := of_decide_eq_true (by first | (with_reducible assumption) | assumption); have q277 : x6_1 < (l1.length : Int) := of_decide_eq_true (by first | (with_reducible assumption) | assumption); obtain ⟨ad277, e277, hx277_0⟩ := Kd.at_int HR1.out x6_1 p277 q277; obtain rfl : ad270 = ad277 := (by injection e277); replace p277 := eq_true p277; replace q277 := eq_true q277))
        go_roundg k1
        case measure => have := HK1.out; omega
        case rel => exact ⟨(rd l1 x6_1), (wrap64 (x6_1 + 1)), (by first | rfl | (simp; done) | (simp [*]; done)), (by first | rfl | (simp; done) | (simp [*]; done)), H', ⟨by have := HK1.out; omega⟩, by repeat (first | exact Drawn0.refl _ | apply Drawn0.step)⟩
      ·replace c7 := Bool.eq_false_iff.mpr c7
       subst c7
       have H1 : (some false) = some r := by rw [if_neg (show ¬ (false = true) by decide)] at H; exact H
       clear H
       have H := H1
       clear H1
       obtain rfl := Option.some.inj H
       have p270 : 0 ≤ (x6_1 : Int) := of_decide_eq_true (by first | (with_reducible assumption) | assumption)
       have q270 : x6_1 < (l1.length : Int) := of_decide_eq_true (by first | (with_reducible assumption) | assumption)
       obtain ⟨ad270, e270, hx270_0⟩ := Kd.at_int HR1.out x6_1 p270 q270
       cases e270
       replace p270 := eq_true p270
       replace q270 := eq_true q270
       have p271 : 0 ≤ (x6_1 : Int) := of_decide_eq_true (by first | (with_reducible assumption) | assumption)
       have q271 : x6_1 < (l1.length : Int) := of_decide_eq_true (by first | (with_reducible assumption) | assumption)
       obtain ⟨ad271, e271, hx271_0⟩ := Kd.at_int HR1.out x6_1 p271 q271
       obtain rfl : ad270 = ad271 := (by injection e271)
       replace p271 := eq_true p271
       replace q271 := eq_true q271
       go_wp2_with (first | (go_at_call 40; (with_reducible refine (stylusref19_Place.calls _ _ l0 (rd l1 x6_1) false _ ?side1 ?side2 A6.out).mono ?_); (case side1 => repeat (first | exact HR0.out | (with_reducible refine Kd.C_alloc ?_ _) | (with_reducible refine Kd.C_drewN ?_ _) | (with_reducible refine Kd.C_drew ?_))); (case side2 => exact HC0.out); rintro e w' ⟨rfl, ⟨nd, rfl⟩⟩))
       go_ret
       exact ⟨by first | rfl | (simp; done) | (simp [*]; done), by repeat (first | exact Drawn0.refl _ | apply Drawn0.step)⟩
    ·rw [if_neg c4] at H
     exact absurd H (by simp)
   ·rw [if_neg c3] at H
    have c3b0 : decide (x6_1 < (l1.length : Int)) = false := decide_eq_false c3
    clear c3
    by_cases c12 : (l1.length : Int) > 0
    ·rw [if_pos c12] at H
     have c12b0 : decide (0 < (l1.length : Int)) = true := decide_eq_true c12
     have c12b1 : decide (0 < l1.length) = true := decide_eq_true (by omega)
     clear c12
     obtain rfl := Option.some.inj H
     go_wp2
     go_ret
     exact ⟨by first | rfl | (simp; done) | (simp [*]; done), by repeat (first | exact Drawn0.refl _ | apply Drawn0.step)⟩
    ·rw [if_neg c12] at H
     have c12b0 : decide (0 < (l1.length : Int)) = false := decide_eq_false c12
     have c12b1 : decide (0 < l1.length) = false := decide_eq_false (by omega)
     clear c12
     obtain rfl := Option.some.inj H
     go_wp2
     go_ret
     exact ⟨by first | rfl | (simp; done) | (simp [*]; done), by repeat (first | exact Drawn0.refl _ | apply Drawn0.step)⟩
end Go.Proofs.Ytbddfnmhhmkfkaa.Pr
namespace Go.Proofs.Ytbddfnmhhmkfkaa.Pr
open Go.RowKit Go.Proofs.YtbddfnmhhmkfkaaW.PrintWords Go.Proofs.YtbddfnmhhmkfkaaW.PrintLast Go.Proofs.YtbddfnmhhmkfkaaW.PrintMore
theorem refCheck_l0 {l : List S43} (hl : l.length ≤ 16384) : ∀ (d i : Nat), i + d = l.length → Ev (fun k => stylusref19_Check.l0 k l i) (if (l.drop i).any oddP = true then 1 else 0)
 | 0, i, h => by
  refine Ev.step (f := fun _ => some 0) (fun k => ?_) ?_
  ·simp only [stylusref19_Check.l0]
   rw [if_neg (by omega)]
  ·rw [List.drop_of_length_le (by omega)]
   exact Ev.now _
 | d + 1, i, h => by
  have hi : i < l.length := by omega
  have hd : l.drop i = rd_T43 l i :: l.drop (i + 1) := by
   rw [List.drop_eq_getElem_cons hi]
   have := rd_get hi
   rw [List.getElem?_eq_getElem hi] at this
   rw [Option.some.inj this]
  have ih := refCheck_l0 hl d (i + 1) (by omega)
  have e : wrap64 ((i : Int) + 1) = ((i + 1 : Nat) : Int) := by rw [w64 (by omega) (by omega)]; omega
  rw [hd, List.any_cons]
  by_cases ho : oddP (rd_T43 l i) = true
  ·rw [ho]
   refine Ev.step (f := fun _ => some 1) (fun k => ?_) (Ev.now _)
   simp only [oddP, farP, Bool.or_eq_true, decide_eq_true_eq] at ho
   simp only [stylusref19_Check.l0]
   rw [if_pos (by omega), if_pos (by omega)]
   repeat (first | (split; · rfl) | (exfalso; omega))
  ·have ho' : oddP (rd_T43 l i) = false := by simpa using ho
   have hk := odd_ok ho'
   obtain ⟨o1, o2, o3, o4, o5, o6, o7, o8⟩ := hk
   rw [ho', Bool.false_or]
   refine Ev.step (fun k => ?_) ih
   simp only [stylusref19_Check.l0]
   rw [if_pos (by omega), if_pos (by omega), if_neg (by omega), if_neg (by omega), if_neg (by omega), if_neg (by omega), if_neg (by omega), if_neg (by omega), if_neg (by omega), if_neg (by omega), e]
theorem refCheck_ev (l : List S43) (w : Int) : Ev (fun k => stylusref19_Check.f k l w) (checkP l w) := by
 by_cases h1 : w < 1
 ·refine Ev.step (f := fun _ => some 1) (fun k => ?_) ?_
  ·unfold stylusref19_Check.f; rw [if_pos h1]; simp only [stylusref19_Check.j0]; rfl
  ·unfold checkP; rw [if_pos (.inl h1)]; exact Ev.now _
 ·by_cases h2 : 1000000 < w
  ·refine Ev.step (f := fun _ => some 1) (fun k => ?_) ?_
   ·unfold stylusref19_Check.f; rw [if_neg h1, if_pos h2]; simp only [stylusref19_Check.j0]; rfl
   ·unfold checkP; rw [if_pos (.inr (.inl h2))]; exact Ev.now _
  ·by_cases h3 : 16384 < l.length
   ·refine Ev.step (f := fun _ => some 1) (fun k => ?_) ?_
    ·unfold stylusref19_Check.f
     rw [if_neg h1, if_neg h2, decide_eq_true (by omega)]
     simp only [stylusref19_Check.j0]; rfl
    ·unfold checkP; rw [if_pos (.inr (.inr (.inl h3)))]; exact Ev.now _
   ·have h := refCheck_l0 (l := l) (by omega) l.length 0 (by omega)
    refine Ev.step (fun k => ?_) (show Ev (fun k => stylusref19_Check.l0 k l 0) (checkP l w) from ?_)
    ·unfold stylusref19_Check.f
     rw [if_neg h1, if_neg h2, decide_eq_false (by omega)]
     simp only [stylusref19_Check.j0]; rfl
    ·have e : checkP l w = if (l.drop 0).any oddP = true then 1 else 0 := by
      unfold checkP
      rw [List.drop_zero]
      by_cases ha : l.any oddP = true
      ·rw [if_pos ha, if_pos (.inr (.inr (.inr ha)))]
      ·rw [if_neg ha, if_neg (by rintro (h | h | h | h) <;> first | exact ha h | omega)]
     rw [e]
     exact h
theorem refLine_l0 {l : List S43} {w : Int} (ok : OkL l w) (t : Nat) (ht : t ≤ l.length) : ∀ (d i : Nat) (n y z : Int), i + d = t → (0 ≤ n ∧ n ≤ 2000 * i) → (0 ≤ y ∧ y ≤ 2000 * i) → (0 ≤ z ∧ z ≤ 2000 * i) →
  Ev (fun k => stylusref19_Line.l0 k l t n y z i) (n + (nS gN l t - nS gN l i) + (if hyphP l t = true then (rd_T43 l t).f1 else 0), y + (nS gY l t - nS gY l i), z + (nS gZ l t - nS gZ l i))
 | 0, i, n, y, z, h, hn, hy, hz => by
  have hl := ok.len
  obtain rfl : i = t := by omega
  refine Ev.step (fun k => ?_) (Ev.now _)
  rw [stylusref19_Line.l0.eq_2, if_neg (by omega), refHyphen_f]
  simp only [Option.bind_some]
  by_cases hh : hyphP l i = true
  ·have hj : (i : Int) < l.length := by
    have := hh
    simp only [hyphP, Bool.and_eq_true, decide_eq_true_eq] at this
    exact this.1.2
   have := rd_ok ok (k := i) (by omega)
   have h3 := this.w0
   have h4 := this.w1
   rw [if_pos hh, if_pos (by omega), if_pos hj, if_pos hh, w64 (by omega) (by omega)]
   simp only [Option.some.injEq, Prod.mk.injEq]
   omega
  ·rw [if_neg hh, if_neg hh]
   simp only [Option.some.injEq, Prod.mk.injEq]
   omega
 | d + 1, i, n, y, z, h, hn, hy, hz => by
  have hl := ok.len
  have hi : i < l.length := by omega
  have ho := rd_ok ok hi
  obtain ⟨b1, b2, b3⟩ := g_bd ho
  have ih := refLine_l0 ok t ht d (i + 1) (n + gN (rd_T43 l i)) (y + gY (rd_T43 l i)) (z + gZ (rd_T43 l i)) (by omega) (by omega) (by omega) (by omega)
  rw [nS_next gN hi, nS_next gY hi, nS_next gZ hi] at ih
  have c1 : (i : Int) < t := by omega
  have c2 : (0 : Int) ≤ i := by omega
  have c3 : (i : Int) < l.length := by omega
  have E1 : n + gN (rd_T43 l i) + (nS gN l t - (nS gN l i + gN (rd_T43 l i))) = n + (nS gN l t - nS gN l i) := by omega
  have E2 : y + gY (rd_T43 l i) + (nS gY l t - (nS gY l i + gY (rd_T43 l i))) = y + (nS gY l t - nS gY l i) := by omega
  have E3 : z + gZ (rd_T43 l i) + (nS gZ l t - (nS gZ l i + gZ (rd_T43 l i))) = z + (nS gZ l t - nS gZ l i) := by omega
  rw [E1, E2, E3] at ih
  clear E1 E2 E3
  have e : wrap64 ((i : Int) + 1) = ((i + 1 : Nat) : Int) := by rw [w64 (by omega) (by omega)]; omega
  refine Ev.step (fun k => ?_) ih
  obtain ⟨o1, o2, o3, o4, o5, o6, o7, o8⟩ := ho
  rw [stylusref19_Line.l0.eq_2, if_pos c1, if_pos c2, if_pos c3, e]
  clear ih e
  unfold gN at b1 ⊢
  unfold gY at b2 ⊢
  unfold gZ at b3 ⊢
  by_cases h3 : (rd_T43 l i).f0 = 3
  ·rw [if_pos h3, if_neg (by omega), if_pos h3, if_neg (by omega), if_neg (by omega), Int.add_zero, Int.add_zero, Int.add_zero]
  ·rw [if_neg h3, if_neg h3]
   by_cases h2 : (rd_T43 l i).f0 = 2
   ·rw [if_pos h2, if_pos h2, if_pos h2, w64 (by omega) (by omega), w64 (by omega) (by omega), w64 (by omega) (by omega)]
   ·rw [if_neg h2, if_neg h2, if_neg h2, w64 (by omega) (by omega), Int.add_zero, Int.add_zero]
theorem refLine_ev {l : List S43} {w : Int} (ok : OkL l w) {f t : Int} (h0 : -1 ≤ f) (h1 : f < t) (h2 : t ≤ l.length) :
  Ev (fun k => stylusref19_Line.f k l f t) (lineN l f t, lineY l f t, lineZ l f t) := by
 have hl := ok.len
 obtain ⟨i, hi⟩ : ∃ i : Nat, f + 1 = i := ⟨(f + 1).toNat, by omega⟩
 obtain ⟨j, rfl⟩ : ∃ j : Nat, t = j := ⟨t.toNat, by omega⟩
 have := refLine_l0 ok j (by omega) (j - i) i 0 0 0 (by omega) (by omega) (by omega) (by omega)
 unfold stylusref19_Line.f lineN lineY lineZ
 rw [w64 (by omega) (by omega), hi]
 simpa using this
theorem refLegal_l0 (l : List S43) (bs : List Int) (hb : bs.length ≤ 100000) (hpos : 0 < bs.length) : ∀ (d i : Nat) (f : Int), i + d = bs.length →
  Ev (fun k => stylusref19_Legal.l0 k l bs f i) (legalB l f (bs.drop i))
 | 0, i, f, h => by
  refine Ev.step (f := fun _ => some (f == (l.length : Int))) (fun k => ?_) ?_
  ·rw [stylusref19_Legal.l0.eq_2, if_neg (by omega), if_pos (by omega)]
  ·rw [List.drop_of_length_le (by omega)]
   exact Ev.now _
 | d + 1, i, f, h => by
  have hi : i < bs.length := by omega
  have ih := refLegal_l0 l bs hb hpos d (i + 1) (rd bs i) (by omega)
  rw [rd_drop hi]
  have c1 : (i : Int) < bs.length := by omega
  have c2 : (0 : Int) ≤ i := by omega
  have e : wrap64 ((i : Int) + 1) = ((i + 1 : Nat) : Int) := by rw [w64 (by omega) (by omega)]; omega
  simp only [legalB]
  by_cases h1 : rd bs i ≤ f
  ·rw [decide_eq_false (by clear e; omega)]
   refine Ev.step (f := fun _ => some false) (fun k => ?_) (Ev.now _)
   rw [stylusref19_Legal.l0.eq_2, if_pos c1, if_pos c2, if_pos h1]
  ·have h1' : decide (f < rd bs i) = true := decide_eq_true (by clear e; omega)
   rw [h1', Bool.true_and]
   cases h2 : placeP l (rd bs i) with
   | false =>
    refine Ev.step (f := fun _ => some false) (fun k => ?_) (Ev.now _)
    rw [stylusref19_Legal.l0.eq_2, if_pos c1, if_pos c2, if_neg h1, refPlace_f, h2]
    rfl
   | true =>
    rw [Bool.true_and]
    cases h3 : legalP l f (rd bs i) with
    | false =>
     obtain ⟨h4, h5⟩ := (legalP_iff _ _ _).1 h3
     refine Ev.step (f := fun _ => some false) (fun k => ?_) (Ev.now _)
     rw [stylusref19_Legal.l0.eq_2, if_pos c1, if_pos c2, if_neg h1, refPlace_f, h2, refHyphen_f, h4, refHyphen_f, h5]
     rfl
    | true =>
     rw [Bool.true_and]
     refine Ev.step (fun k => ?_) ih
     rw [stylusref19_Legal.l0.eq_2, if_pos c1, if_pos c2, if_neg h1, refPlace_f, h2, refHyphen_f, refHyphen_f, e]
     simp only [Option.bind_some, if_true]
     cases h4 : hyphP l f with
     | false => rfl
     | true =>
      cases h5 : hyphP l (rd bs i) with
      | false => rfl
      | true =>
       have := (legalP_iff l f (rd bs i)).2 ⟨h4, h5⟩
       rw [h3] at this
       cases this
theorem refLegal_ev (l : List S43) (bs : List Int) (hb : bs.length ≤ 100000) : Ev (fun k => stylusref19_Legal.f k l bs) (legalL l bs) := by
 unfold stylusref19_Legal.f legalL
 by_cases h : 0 < bs.length
 ·have := refLegal_l0 l bs hb h bs.length 0 (-1) (by omega)
  rw [decide_eq_true h, Bool.true_and]
  simpa using this
 ·rw [decide_eq_false h, Bool.false_and]
  refine Ev.step (f := fun _ => some false) (fun k => ?_) (Ev.now _)
  rw [stylusref19_Legal.l0.eq_2, if_neg (by omega), if_neg (by omega)]
end Go.Proofs.Ytbddfnmhhmkfkaa.Pr
namespace Go.Proofs.Ytbddfnmhhmkfkaa.Pr
open Go.RowKit Go.Proofs.YtbddfnmhhmkfkaaW.PrintWords Go.Proofs.YtbddfnmhhmkfkaaW.PrintLast Go.Proofs.YtbddfnmhhmkfkaaW.PrintMore
attribute [local go_sem] max2_int min2_int max_two min_two max_three min_three max_four min_four
mutual
def stylusref20_Known.l0 : Nat → List (S101) → List (S43) → Int → Option (Bool)
 | 0, _, _, _ => none
 | k + 1, x0, x1, x5 => if x5 < (x1.length : Int) then (if 0 ≤ x5 then (if ((rd_T43 x1 x5).f0) = 3 then (stylusref20_Known.l0 k x0 x1 (wrap64 (x5 + 1))) else (if ((rd_T43 x1 x5).f4) < 0 then (stylusref20_Known.j1 k x0 x1 x5 true ((rd_T43 x1 x5).f0) ((rd_T43 x1 x5).f1) ((rd_T43 x1 x5).f2) ((rd_T43 x1 x5).f3) ((rd_T43 x1 x5).f4)) else (stylusref20_Known.j1 k x0 x1 x5 (decide (((rd_T43 x1 x5).f4) ≥ (x0.length : Int))) ((rd_T43 x1 x5).f0) ((rd_T43 x1 x5).f1) ((rd_T43 x1 x5).f2) ((rd_T43 x1 x5).f3) ((rd_T43 x1 x5).f4)))) else (none)) else (some true)
def stylusref20_Known.j1 : Nat → List (S101) → List (S43) → Int → Bool → Int → Int → Int → Int → Int → Option (Bool)
 | 0, _, _, _, _, _, _, _, _, _ => none
 | k + 1, x0, x1, x5, x30, x495000, x495001, x495002, x495003, x495004 => if x30 = true then (some false) else (if 0 ≤ x495004 then (if x495004 < (x0.length : Int) then (if x495000 = 4 then (if ((rd_T101 x0 x495004).f0) = 2 then (if ((rd_T101 x0 x495004).f1) = 110 then (stylusref20_Known.l0 k x0 x1 (wrap64 (x5 + 1))) else (some false)) else (some false)) else (if ((rd_T101 x0 x495004).f0) = 1 then (stylusref20_Known.l0 k x0 x1 (wrap64 (x5 + 1))) else (some false))) else (none)) else (none))
end
def stylusref20_Known.f (k : Nat) (l0 : List (S101)) (l1 : List (S43)) : Option (Bool) := stylusref20_Known.l0 k l0 l1 0
theorem stylusref20_Known.mono_l : ∀ k, (∀ y0 y1 y2, LeO (stylusref20_Known.l0 k y0 y1 y2) (stylusref20_Known.l0 (k + 1) y0 y1 y2)) ∧ (∀ y0 y1 y2 y3 y4 y5 y6 y7 y8, LeO (stylusref20_Known.j1 k y0 y1 y2 y3 y4 y5 y6 y7 y8) (stylusref20_Known.j1 (k + 1) y0 y1 y2 y3 y4 y5 y6 y7 y8))
 | 0 => ⟨fun _ _ _ r h => by simp [stylusref20_Known.l0] at h, fun _ _ _ _ _ _ _ _ _ r h => by simp [stylusref20_Known.j1] at h⟩
 | k + 1 => by
  obtain ⟨ih0, ih1⟩ := stylusref20_Known.mono_l k
  refine ⟨?_, ?_⟩
  ·intro y0 y1 y2
   unfold stylusref20_Known.l0
   repeat' first
   | (with_reducible exact ih0 _ _ _)
   | (with_reducible exact ih1 _ _ _ _ _ _ _ _ _)
   | (with_reducible exact LeO.refl _)
   | (with_reducible exact LeO.none _)
   | (with_reducible refine LeO.ite ?_ ?_)
   | (with_reducible refine LeO.bind ?_ (fun _ => ?_))
   | exact LeO.none _
   | refine LeO.ite ?_ ?_
   | refine LeO.bind ?_ (fun _ => ?_)
  ·intro y0 y1 y2 y3 y4 y5 y6 y7 y8
   unfold stylusref20_Known.j1
   repeat' first
   | (with_reducible exact ih0 _ _ _)
   | (with_reducible exact ih1 _ _ _ _ _ _ _ _ _)
   | (with_reducible exact LeO.refl _)
   | (with_reducible exact LeO.none _)
   | (with_reducible refine LeO.ite ?_ ?_)
   | (with_reducible refine LeO.bind ?_ (fun _ => ?_))
   | exact LeO.none _
   | refine LeO.ite ?_ ?_
   | refine LeO.bind ?_ (fun _ => ?_)
theorem stylusref20_Known.mono : ∀ a0 a1 k, LeO (stylusref20_Known.f k a0 a1) (stylusref20_Known.f (k + 1) a0 a1) := by
 intro a0 a1 k
 obtain ⟨ih0, ih1⟩ := stylusref20_Known.mono_l k
 unfold stylusref20_Known.f
 repeat' first
   | (with_reducible exact ih0 _ _ _)
   | (with_reducible exact ih1 _ _ _ _ _ _ _ _ _)
   | (with_reducible exact LeO.refl _)
   | (with_reducible exact LeO.none _)
   | (with_reducible refine LeO.ite ?_ ?_)
   | (with_reducible refine LeO.bind ?_ (fun _ => ?_))
   | exact LeO.none _
   | refine LeO.ite ?_ ?_
   | refine LeO.bind ?_ (fun _ => ?_)
set_option maxHeartbeats 8000000 in
set_option maxRecDepth 100000 in
theorem stylusref20_Known.calls (k : Nat) (A0 : Option Addr) (c0 : Nat) (l0 : List (S101)) (A1 : Option Addr) (c1 : Nat) (l1 : List (S43)) (r : Bool) (w : World) (hr0 : Kd.C k101 w A0 l0.length l0) (hc0 : l0.length ≤ c0) (hr1 : Kd.C k43 w A1 l1.length l1) (hc1 : l1.length ≤ c1) (h : stylusref20_Known.f k l0 l1 = some r) :
  Calls Try.prog 64 #[.slice A0 l0.length c0, .slice A1 l1.length c1] w fun e w' => e = .returned (.bool r) ∧ Below w.heap.size w w' := by
 have hu43 := Try.underlying43
 have hu101 := Try.underlying101
 have HR0 := Aside0.mk hr0
 have HC0 := Aside0.mk hc0
 clear hr0 hc0
 have HR1 := Aside0.mk hr1
 have HC1 := Aside0.mk hc1
 clear hr1 hc1
 have HB := Aside0.mk (Below.refl w.heap.size w)
 have H : (stylusref20_Known.l0 k l0 l1 0) = some r := h
 clear h
 have H' := Aside0.mk H
 clear H
 go_enter Try.func64, Try.ntmps64
 go_wp2
 go_loopg [5] k (fun kq v5 w' => ∃ (x5_1 : Int), v5 = .int .i64 x5_1 ∧ Aside0 (stylusref20_Known.l0 kq l0 l1 x5_1 = some r) ∧ Aside0 (kq ≤ k) ∧ Aside0 (Below w.heap.size w w'))
 case atStart => exact ⟨(0), (by first | rfl | (simp; done) | (simp [*]; done)), H', ⟨Nat.le_refl _⟩, ⟨by repeat (with_reducible first | exact HB.out | apply below_alloc | apply pw_below_drewN | apply below_drew1)⟩⟩
 case round =>
  clear H'
  try clear c1
  try clear p2
  obtain ⟨x5_1, rfl, HA, HK1, HB⟩ := hrel
  cases gk with
  | zero => exact absurd HA.out (by simp [stylusref20_Known.l0])
  | succ k1 =>
   have H := HA.out
   clear HA
   simp only [stylusref20_Known.l0] at H
   by_cases c3 : x5_1 < (l1.length : Int)
   ·rw [if_pos c3] at H
    have c3b0 : decide (x5_1 < (l1.length : Int)) = true := decide_eq_true c3
    clear c3
    by_cases c4 : 0 ≤ x5_1
    ·rw [if_pos c4] at H
     have c4b0 : decide (0 ≤ x5_1) = true := decide_eq_true c4
     clear c4
     by_cases c5 : ((rd_T43 l1 x5_1).f0) = 3
     ·rw [if_pos c5] at H
      have c5b0 : (((rd_T43 l1 x5_1).f0) == 3) = true := beq_iff_eq.mpr c5
      have c5b1 : (((rd_T43 l1 x5_1).f0) != 3) = false := bne_eq_false_iff_eq.mpr c5
      clear c5
      have H' := Aside0.mk H
      clear H
      have p493 : 0 ≤ (x5_1 : Int) := of_decide_eq_true (by first | (with_reducible assumption) | assumption)
      have q493 : x5_1 < (l1.length : Int) := of_decide_eq_true (by first | (with_reducible assumption) | assumption)
      obtain ⟨ad493, e493, hx493_0, hx493_1, hx493_2, hx493_3, hx493_4⟩ := at_T43 HR1.out x5_1 p493 q493
      cases e493
      replace hx493_0 := (HB.out.cell (World.block_lt_of_cell? w _ hx493_0)).trans hx493_0
      replace hx493_1 := (HB.out.cell (World.block_lt_of_cell? w _ hx493_1)).trans hx493_1
      replace hx493_2 := (HB.out.cell (World.block_lt_of_cell? w _ hx493_2)).trans hx493_2
      replace hx493_3 := (HB.out.cell (World.block_lt_of_cell? w _ hx493_3)).trans hx493_3
      replace hx493_4 := (HB.out.cell (World.block_lt_of_cell? w _ hx493_4)).trans hx493_4
      replace p493 := eq_true p493
      replace q493 := eq_true q493
      go_wp2_with (first | ((with_reducible refine gate_dst (N := 6) rfl ?_); (try (refine gate_guard (by rfl) ?_; dsimp only)); refine box_event ?hg (N := 6) ?hd (cs := #[.int .i64 0, .int .i64 0, .int .i64 0, .int .i64 0, .int .i64 0]) (t := 43) ?hr ?_; (case hd => rfl); (case hg => rfl); (case hr => first | (go_simp; done) | (go_simp; rfl)); intro gb494 hg w6 hbox hb; have n0_ := Aside0.mk (below_step (by repeat (with_reducible first | exact HB.out | apply below_alloc | apply pw_below_drewN | apply below_drew1)) hb); have n1_ := Aside0.mk (hbox); have n2_ := Aside0.mk ((by rw [hg]; exact (below_size (by repeat (with_reducible first | exact HB.out | apply below_alloc | apply pw_below_drewN | apply below_drew1))) : w.heap.size ≤ gb494)); have n3_ := n2_; clear HB; have HB := n0_; have BK494 := n1_; have GW494 := n2_; have GE494 := n3_; clear n0_ n1_ n2_ n3_; clear hb hbox hg; obtain ⟨hcz7_0, hcz7_1, hcz7_2, hcz7_3, hcz7_4, hfz7_0, hfz7_1, hfz7_2, hfz7_3, hfz7_4⟩ := blks5 BK494.out))
      go_roundg k1
      case measure => have := HK1.out; omega
      case rel => exact ⟨(wrap64 (x5_1 + 1)), (by first | rfl | (simp; done) | (simp [*]; done)), H', ⟨by have := HK1.out; omega⟩, ⟨by repeat (with_reducible first | exact HB.out | apply below_alloc | apply pw_below_drewN | apply below_drew1 | refine below_set ?_ GE494.out)⟩⟩
     ·rw [if_neg c5] at H
      have c5b0 : (((rd_T43 l1 x5_1).f0) == 3) = false := beq_eq_false_iff_ne.mpr c5
      have c5b1 : (((rd_T43 l1 x5_1).f0) != 3) = true := bne_iff_ne.mpr c5
      have HC8 := Aside0.mk H
      clear H
      have p493 : 0 ≤ (x5_1 : Int) := of_decide_eq_true (by first | (with_reducible assumption) | assumption)
      have q493 : x5_1 < (l1.length : Int) := of_decide_eq_true (by first | (with_reducible assumption) | assumption)
      obtain ⟨ad493, e493, hx493_0, hx493_1, hx493_2, hx493_3, hx493_4⟩ := at_T43 HR1.out x5_1 p493 q493
      cases e493
      replace hx493_0 := (HB.out.cell (World.block_lt_of_cell? w _ hx493_0)).trans hx493_0
      replace hx493_1 := (HB.out.cell (World.block_lt_of_cell? w _ hx493_1)).trans hx493_1
      replace hx493_2 := (HB.out.cell (World.block_lt_of_cell? w _ hx493_2)).trans hx493_2
      replace hx493_3 := (HB.out.cell (World.block_lt_of_cell? w _ hx493_3)).trans hx493_3
      replace hx493_4 := (HB.out.cell (World.block_lt_of_cell? w _ hx493_4)).trans hx493_4
      replace p493 := eq_true p493
      replace q493 := eq_true q493
      go_upto_region 6 with (first | ((with_reducible refine gate_dst (N := 6) rfl ?_); (try (refine gate_guard (by rfl) ?_; dsimp only)); refine box_event ?hg (N := 6) ?hd (cs := #[.int .i64 0, .int .i64 0, .int .i64 0, .int .i64 0, .int .i64 0]) (t := 43) ?hr ?_; (case hd => rfl); (case hg => rfl); (case hr => first | (go_simp; done) | (go_simp; rfl)); intro gb494 hg w9 hbox hb; have n0_ := Aside0.mk (below_step (by repeat (with_reducible first | exact HB.out | apply below_alloc | apply pw_below_drewN | apply below_drew1)) hb); have n1_ := Aside0.mk (hbox); have n2_ := Aside0.mk ((by rw [hg]; exact (below_size (by repeat (with_reducible first | exact HB.out | apply below_alloc | apply pw_below_drewN | apply below_drew1))) : w.heap.size ≤ gb494)); have n3_ := n2_; clear HB; have HB := n0_; have BK494 := n1_; have GW494 := n2_; have GE494 := n3_; clear n0_ n1_ n2_ n3_; clear hb hbox hg; obtain ⟨hcz10_0, hcz10_1, hcz10_2, hcz10_3, hcz10_4, hfz10_0, hfz10_1, hfz10_2, hfz10_3, hfz10_4⟩ := blks5 BK494.out))
      (try simp only [Act.put, List.setIfInBounds_toArray, List.set_cons_zero, List.set_cons_succ])
      go_cut [30] (fun v30 wc => ∃ (kq : Nat) (x30_7 : Bool), v30 = .bool x30_7 ∧ Aside0 (stylusref20_Known.j1 kq l0 l1 x5_1 x30_7 ((rd_T43 l1 x5_1).f0) ((rd_T43 l1 x5_1).f1) ((rd_T43 l1 x5_1).f2) ((rd_T43 l1 x5_1).f3) ((rd_T43 l1 x5_1).f4) = some r) ∧ Aside0 (kq ≤ k1) ∧ Aside0 (wc.heap[gb494]? = some (.cells #[.int .i64 ((rd_T43 l1 x5_1).f0), .int .i64 ((rd_T43 l1 x5_1).f1), .int .i64 ((rd_T43 l1 x5_1).f2), .int .i64 ((rd_T43 l1 x5_1).f3), .int .i64 ((rd_T43 l1 x5_1).f4)] 43 (0, 0))) ∧ Aside0 (Below w.heap.size w wc))
      case first =>
       have H := HC8.out
       clear HC8
       by_cases c11 : ((rd_T43 l1 x5_1).f4) < 0
       ·rw [if_pos c11] at H
        have c11b0 : decide (((rd_T43 l1 x5_1).f4) < 0) = true := decide_eq_true c11
        clear c11
        (first | rw [c11b0] | (simp only [i64_w, i32_w]; rw [c11b0]) | skip)
        have H' := Aside0.mk H
        clear H
        have hcz12_0 : w9.cell? ⟨gb494, 0, none⟩ = some (.int .i64 0) := (blk_cell BK494.out 0).trans rfl
        have hcz12_1 : w9.cell? ⟨gb494, 1, none⟩ = some (.int .i64 0) := (blk_cell BK494.out 1).trans rfl
        have hcz12_2 : w9.cell? ⟨gb494, 2, none⟩ = some (.int .i64 0) := (blk_cell BK494.out 2).trans rfl
        have hcz12_3 : w9.cell? ⟨gb494, 3, none⟩ = some (.int .i64 0) := (blk_cell BK494.out 3).trans rfl
        have hcz12_4 : w9.cell? ⟨gb494, 4, none⟩ = some (.int .i64 0) := (blk_cell BK494.out 4).trans rfl
        have hfz12_0 := blk_frozen BK494.out 0
        have hfz12_1 := blk_frozen BK494.out 1
        have hfz12_2 := blk_frozen BK494.out 2
        have hfz12_3 := blk_frozen BK494.out 3
        have hfz12_4 := blk_frozen BK494.out 4
        go_wp2
        go_meet
        case rel => exact ⟨_, (true), (by first | rfl | (simp; done) | (simp [*]; done)), H', ⟨by have := HK1.out; first | omega | exact Nat.le_refl _⟩, ⟨by (with_reducible repeat (first | refine blk_drewN ?_ _ | refine blk_drew ?_ | refine blk_alloc ?_ _)); refine blk_put (cs := #[.int .i64 ((rd_T43 l1 x5_1).f0), .int .i64 ((rd_T43 l1 x5_1).f1), .int .i64 ((rd_T43 l1 x5_1).f2), .int .i64 ((rd_T43 l1 x5_1).f3), .int .i64 0]) ?_ 4 _ rfl; (with_reducible repeat (first | refine blk_drewN ?_ _ | refine blk_drew ?_ | refine blk_alloc ?_ _)); refine blk_put (cs := #[.int .i64 ((rd_T43 l1 x5_1).f0), .int .i64 ((rd_T43 l1 x5_1).f1), .int .i64 ((rd_T43 l1 x5_1).f2), .int .i64 0, .int .i64 0]) ?_ 3 _ rfl; (with_reducible repeat (first | refine blk_drewN ?_ _ | refine blk_drew ?_ | refine blk_alloc ?_ _)); refine blk_put (cs := #[.int .i64 ((rd_T43 l1 x5_1).f0), .int .i64 ((rd_T43 l1 x5_1).f1), .int .i64 0, .int .i64 0, .int .i64 0]) ?_ 2 _ rfl; (with_reducible repeat (first | refine blk_drewN ?_ _ | refine blk_drew ?_ | refine blk_alloc ?_ _)); refine blk_put (cs := #[.int .i64 ((rd_T43 l1 x5_1).f0), .int .i64 0, .int .i64 0, .int .i64 0, .int .i64 0]) ?_ 1 _ rfl; (with_reducible repeat (first | refine blk_drewN ?_ _ | refine blk_drew ?_ | refine blk_alloc ?_ _)); refine blk_put (cs := #[.int .i64 0, .int .i64 0, .int .i64 0, .int .i64 0, .int .i64 0]) ?_ 0 _ rfl; (with_reducible repeat (first | refine blk_drewN ?_ _ | refine blk_drew ?_ | refine blk_alloc ?_ _)); exact BK494.out⟩, ⟨by repeat (with_reducible first | exact HB.out | apply below_alloc | apply pw_below_drewN | apply below_drew1 | refine below_set ?_ GE494.out)⟩⟩
       ·rw [if_neg c11] at H
        have c11b0 : decide (((rd_T43 l1 x5_1).f4) < 0) = false := decide_eq_false c11
        clear c11
        (first | rw [c11b0] | (simp only [i64_w, i32_w]; rw [c11b0]) | skip)
        have H' := Aside0.mk H
        clear H
        have hcz13_0 : w9.cell? ⟨gb494, 0, none⟩ = some (.int .i64 0) := (blk_cell BK494.out 0).trans rfl
        have hcz13_1 : w9.cell? ⟨gb494, 1, none⟩ = some (.int .i64 0) := (blk_cell BK494.out 1).trans rfl
        have hcz13_2 : w9.cell? ⟨gb494, 2, none⟩ = some (.int .i64 0) := (blk_cell BK494.out 2).trans rfl
        have hcz13_3 : w9.cell? ⟨gb494, 3, none⟩ = some (.int .i64 0) := (blk_cell BK494.out 3).trans rfl
        have hcz13_4 : w9.cell? ⟨gb494, 4, none⟩ = some (.int .i64 0) := (blk_cell BK494.out 4).trans rfl
        have hfz13_0 := blk_frozen BK494.out 0
        have hfz13_1 := blk_frozen BK494.out 1
        have hfz13_2 := blk_frozen BK494.out 2
        have hfz13_3 := blk_frozen BK494.out 3
        have hfz13_4 := blk_frozen BK494.out 4
        go_wp2
        go_meet
        case rel => exact ⟨_, (decide (((rd_T43 l1 x5_1).f4) ≥ (l0.length : Int))), (by first | rfl | (simp; done) | (simp [*]; done)), H', ⟨by have := HK1.out; first | omega | exact Nat.le_refl _⟩, ⟨by (with_reducible repeat (first | refine blk_drewN ?_ _ | refine blk_drew ?_ | refine blk_alloc ?_ _)); refine blk_put (cs := #[.int .i64 ((rd_T43 l1 x5_1).f0), .int .i64 ((rd_T43 l1 x5_1).f1), .int .i64 ((rd_T43 l1 x5_1).f2), .int .i64 ((rd_T43 l1 x5_1).f3), .int .i64 0]) ?_ 4 _ rfl; (with_reducible repeat (first | refine blk_drewN ?_ _ | refine blk_drew ?_ | refine blk_alloc ?_ _)); refine blk_put (cs := #[.int .i64 ((rd_T43 l1 x5_1).f0), .int .i64 ((rd_T43 l1 x5_1).f1), .int .i64 ((rd_T43 l1 x5_1).f2), .int .i64 0, .int .i64 0]) ?_ 3 _ rfl; (with_reducible repeat (first | refine blk_drewN ?_ _ | refine blk_drew ?_ | refine blk_alloc ?_ _)); refine blk_put (cs := #[.int .i64 ((rd_T43 l1 x5_1).f0), .int .i64 ((rd_T43 l1 x5_1).f1), .int .i64 0, .int .i64 0, .int .i64 0]) ?_ 2 _ rfl; (with_reducible repeat (first | refine blk_drewN ?_ _ | refine blk_drew ?_ | refine blk_alloc ?_ _)); refine blk_put (cs := #[.int .i64 ((rd_T43 l1 x5_1).f0), .int .i64 0, .int .i64 0, .int .i64 0, .int .i64 0]) ?_ 1 _ rfl; (with_reducible repeat (first | refine blk_drewN ?_ _ | refine blk_drew ?_ | refine blk_alloc ?_ _)); refine blk_put (cs := #[.int .i64 0, .int .i64 0, .int .i64 0, .int .i64 0, .int .i64 0]) ?_ 0 _ rfl; (with_reducible repeat (first | refine blk_drewN ?_ _ | refine blk_drew ?_ | refine blk_alloc ?_ _)); exact BK494.out⟩, ⟨by repeat (with_reducible first | exact HB.out | apply below_alloc | apply pw_below_drewN | apply below_drew1 | refine below_set ?_ GE494.out)⟩⟩
      case rest =>
       clear HC8
       try clear c1
       try clear p2
       try clear c3
       try clear c3b0
       try clear c4
       try clear c4b0
       try clear p4
       try clear q4
       try clear hx4
       try clear c5
       try clear c5b0
       try clear c5b1
       try clear c6
       try clear p6
       try clear c11
       try clear c11b0
       try clear hcz10_0
       try clear hcz10_1
       try clear hcz10_2
       try clear hcz10_3
       try clear hcz10_4
       try clear hcz12_0
       try clear hcz12_1
       try clear hcz12_2
       try clear hcz12_3
       try clear hcz12_4
       try clear hcz13_0
       try clear hcz13_1
       try clear hcz13_2
       try clear hcz13_3
       try clear hcz13_4
       try clear hcz7_0
       try clear hcz7_1
       try clear hcz7_2
       try clear hcz7_3
       try clear hcz7_4
       try clear hfz10_0
       try clear hfz10_1
       try clear hfz10_2
       try clear hfz10_3
       try clear hfz10_4
       try clear hfz12_0
       try clear hfz12_1
       try clear hfz12_2
       try clear hfz12_3
       try clear hfz12_4
       try clear hfz13_0
       try clear hfz13_1
       try clear hfz13_2
       try clear hfz13_3
       try clear hfz13_4
       try clear hfz7_0
       try clear hfz7_1
       try clear hfz7_2
       try clear hfz7_3
       try clear hfz7_4
       try clear hx493_0
       try clear hx493_1
       try clear hx493_2
       try clear hx493_3
       try clear hx493_4
       try clear p2
       try clear p493
       try clear q493
       obtain ⟨kq, x30_7, rfl, HA, HJ7, BK494, HB⟩ := hcut
       cases kq with
       | zero => exact absurd HA.out (by simp [stylusref20_Known.j1])
       | succ kj7 =>
        have H := HA.out
        clear HA
        simp only [stylusref20_Known.j1] at H
        by_cases c14 : x30_7 = true
        ·subst c14
         rw [if_pos rfl] at H
         obtain rfl := Option.some.inj H
         go_wp2
         go_ret
         exact ⟨by first | rfl | (simp [errW_none, errW_some] <;> rfl) | (simp [*, errW_none, errW_some] <;> rfl), by repeat (with_reducible first | exact HB.out | apply below_alloc | apply pw_below_drewN | apply below_drew1 | refine below_set ?_ GE494.out)⟩
        ·replace c14 := Bool.eq_false_iff.mpr c14
         subst c14
         rw [if_neg (show ¬ (false = true) by decide)] at H
         by_cases c15 : 0 ≤ ((rd_T43 l1 x5_1).f4)
         ·rw [if_pos c15] at H
          have c15b0 : decide (0 ≤ ((rd_T43 l1 x5_1).f4)) = true := decide_eq_true c15
          clear c15
          by_cases c16 : ((rd_T43 l1 x5_1).f4) < (l0.length : Int)
          ·rw [if_pos c16] at H
           have c16b0 : decide (((rd_T43 l1 x5_1).f4) < (l0.length : Int)) = true := decide_eq_true c16
           clear c16
           by_cases c17 : ((rd_T43 l1 x5_1).f0) = 4
           ·rw [if_pos c17] at H
            have c17b0 : (((rd_T43 l1 x5_1).f0) == 4) = true := beq_iff_eq.mpr c17
            have c17b1 : (((rd_T43 l1 x5_1).f0) != 4) = false := bne_eq_false_iff_eq.mpr c17
            clear c17
            by_cases c18 : ((rd_T101 l0 ((rd_T43 l1 x5_1).f4)).f0) = 2
            ·rw [if_pos c18] at H
             have c18b0 : (((rd_T101 l0 ((rd_T43 l1 x5_1).f4)).f0) == 2) = true := beq_iff_eq.mpr c18
             have c18b1 : (((rd_T101 l0 ((rd_T43 l1 x5_1).f4)).f0) != 2) = false := bne_eq_false_iff_eq.mpr c18
             clear c18
             by_cases c19 : ((rd_T101 l0 ((rd_T43 l1 x5_1).f4)).f1) = 110
             ·rw [if_pos c19] at H
              have c19b0 : (((rd_T101 l0 ((rd_T43 l1 x5_1).f4)).f1) == 110) = true := beq_iff_eq.mpr c19
              have c19b1 : (((rd_T101 l0 ((rd_T43 l1 x5_1).f4)).f1) != 110) = false := bne_eq_false_iff_eq.mpr c19
              clear c19
              have H' := Aside0.mk H
              clear H
              have hcz20_0 : wc.cell? ⟨gb494, 0, none⟩ = some (.int .i64 ((rd_T43 l1 x5_1).f0)) := (blk_cell BK494.out 0).trans rfl
              have hcz20_1 : wc.cell? ⟨gb494, 1, none⟩ = some (.int .i64 ((rd_T43 l1 x5_1).f1)) := (blk_cell BK494.out 1).trans rfl
              have hcz20_2 : wc.cell? ⟨gb494, 2, none⟩ = some (.int .i64 ((rd_T43 l1 x5_1).f2)) := (blk_cell BK494.out 2).trans rfl
              have hcz20_3 : wc.cell? ⟨gb494, 3, none⟩ = some (.int .i64 ((rd_T43 l1 x5_1).f3)) := (blk_cell BK494.out 3).trans rfl
              have hcz20_4 : wc.cell? ⟨gb494, 4, none⟩ = some (.int .i64 ((rd_T43 l1 x5_1).f4)) := (blk_cell BK494.out 4).trans rfl
              have hfz20_0 := blk_frozen BK494.out 0
              have hfz20_1 := blk_frozen BK494.out 1
              have hfz20_2 := blk_frozen BK494.out 2
              have hfz20_3 := blk_frozen BK494.out 3
              have hfz20_4 := blk_frozen BK494.out 4
              have p495 : 0 ≤ (((rd_T43 l1 x5_1).f4) : Int) := of_decide_eq_true (by first | (with_reducible assumption) | assumption)
              have q495 : ((rd_T43 l1 x5_1).f4) < (l0.length : Int) := of_decide_eq_true (by first | (with_reducible assumption) | assumption)
              obtain ⟨ad495, e495, hx495_0, hx495_1, hx495_2⟩ := at_T101 HR0.out ((rd_T43 l1 x5_1).f4) p495 q495
              cases e495
              replace hx495_0 := (HB.out.cell (World.block_lt_of_cell? w _ hx495_0)).trans hx495_0
              replace hx495_1 := (HB.out.cell (World.block_lt_of_cell? w _ hx495_1)).trans hx495_1
              replace hx495_2 := (HB.out.cell (World.block_lt_of_cell? w _ hx495_2)).trans hx495_2
              replace p495 := eq_true p495
              replace q495 := eq_true q495
              go_wp2_with (first | ((with_reducible refine gate_dst (N := 7) rfl ?_); (try (refine gate_guard (by rfl) ?_; dsimp only)); refine box_event ?hg (N := 7) ?hd (cs := #[.int .i64 0, .int .u8 0, .int .i64 0]) (t := 101) ?hr ?_; (case hd => rfl); (case hg => rfl); (case hr => first | (go_simp; done) | (go_simp; rfl)); intro gb496 hg w21 hbox hb; have n0_ := Aside0.mk (blk_below (g := gb494) (o := .cells #[.int .i64 ((rd_T43 l1 x5_1).f0), .int .i64 ((rd_T43 l1 x5_1).f1), .int .i64 ((rd_T43 l1 x5_1).f2), .int .i64 ((rd_T43 l1 x5_1).f3), .int .i64 ((rd_T43 l1 x5_1).f4)] 43 (0, 0)) (by (with_reducible repeat (first | refine blk_drewN ?_ _ | refine blk_drew ?_ | refine blk_alloc ?_ _)); exact BK494.out) hb); have n1_ := Aside0.mk (below_step (by repeat (with_reducible first | exact HB.out | apply below_alloc | apply pw_below_drewN | apply below_drew1 | refine below_set ?_ GE494.out)) hb); have n2_ := Aside0.mk (hbox); have n3_ := Aside0.mk ((by rw [hg]; exact (below_size (by repeat (with_reducible first | exact HB.out | apply below_alloc | apply pw_below_drewN | apply below_drew1 | refine below_set ?_ GE494.out))) : w.heap.size ≤ gb496)); have n4_ := n3_; have n5_ := Aside0.mk ((by rw [hg]; exact Nat.ne_of_lt (blk_lt (g := gb494) (o := .cells #[.int .i64 ((rd_T43 l1 x5_1).f0), .int .i64 ((rd_T43 l1 x5_1).f1), .int .i64 ((rd_T43 l1 x5_1).f2), .int .i64 ((rd_T43 l1 x5_1).f3), .int .i64 ((rd_T43 l1 x5_1).f4)] 43 (0, 0)) (by (with_reducible repeat (first | refine blk_drewN ?_ _ | refine blk_drew ?_ | refine blk_alloc ?_ _)); exact BK494.out)) : gb494 ≠ gb496)); have n6_ := Aside0.mk ((by rw [hg]; exact Nat.ne_of_gt (blk_lt (g := gb494) (o := .cells #[.int .i64 ((rd_T43 l1 x5_1).f0), .int .i64 ((rd_T43 l1 x5_1).f1), .int .i64 ((rd_T43 l1 x5_1).f2), .int .i64 ((rd_T43 l1 x5_1).f3), .int .i64 ((rd_T43 l1 x5_1).f4)] 43 (0, 0)) (by (with_reducible repeat (first | refine blk_drewN ?_ _ | refine blk_drew ?_ | refine blk_alloc ?_ _)); exact BK494.out)) : gb496 ≠ gb494)); clear BK494; clear HB; have BK494 := n0_; have HB := n1_; have BK496 := n2_; have GW496 := n3_; have GE496 := n4_; have NB494_496 := n5_; have NB496_494 := n6_; clear n0_ n1_ n2_ n3_ n4_ n5_ n6_; clear hb hbox hg; have hnb22 := NB496_494.out; have hnc22 := NB494_496.out; obtain ⟨hcz23_0, hcz23_1, hcz23_2, hfz23_0, hfz23_1, hfz23_2⟩ := blks3 BK496.out; obtain ⟨hcz24_0, hcz24_1, hcz24_2, hcz24_3, hcz24_4, hfz24_0, hfz24_1, hfz24_2, hfz24_3, hfz24_4⟩ := blks5 BK494.out))
              go_roundg kj7
              case measure => have := HK1.out; have := HJ7.out; omega
              case rel => exact ⟨(wrap64 (x5_1 + 1)), (by first | rfl | (simp; done) | (simp [*]; done)), H', ⟨by have := HK1.out; have := HJ7.out; omega⟩, ⟨by repeat (with_reducible first | exact HB.out | apply below_alloc | apply pw_below_drewN | apply below_drew1 | refine below_set ?_ GE494.out | refine below_set ?_ GE496.out)⟩⟩
             ·rw [if_neg c19] at H
              have c19b0 : (((rd_T101 l0 ((rd_T43 l1 x5_1).f4)).f1) == 110) = false := beq_eq_false_iff_ne.mpr c19
              have c19b1 : (((rd_T101 l0 ((rd_T43 l1 x5_1).f4)).f1) != 110) = true := bne_iff_ne.mpr c19
              obtain rfl := Option.some.inj H
              have hcz25_0 : wc.cell? ⟨gb494, 0, none⟩ = some (.int .i64 ((rd_T43 l1 x5_1).f0)) := (blk_cell BK494.out 0).trans rfl
              have hcz25_1 : wc.cell? ⟨gb494, 1, none⟩ = some (.int .i64 ((rd_T43 l1 x5_1).f1)) := (blk_cell BK494.out 1).trans rfl
              have hcz25_2 : wc.cell? ⟨gb494, 2, none⟩ = some (.int .i64 ((rd_T43 l1 x5_1).f2)) := (blk_cell BK494.out 2).trans rfl
              have hcz25_3 : wc.cell? ⟨gb494, 3, none⟩ = some (.int .i64 ((rd_T43 l1 x5_1).f3)) := (blk_cell BK494.out 3).trans rfl
              have hcz25_4 : wc.cell? ⟨gb494, 4, none⟩ = some (.int .i64 ((rd_T43 l1 x5_1).f4)) := (blk_cell BK494.out 4).trans rfl
              have hfz25_0 := blk_frozen BK494.out 0
              have hfz25_1 := blk_frozen BK494.out 1
              have hfz25_2 := blk_frozen BK494.out 2
              have hfz25_3 := blk_frozen BK494.out 3
              have hfz25_4 := blk_frozen BK494.out 4
              have p495 : 0 ≤ (((rd_T43 l1 x5_1).f4) : Int) := of_decide_eq_true (by first | (with_reducible assumption) | assumption)
              have q495 : ((rd_T43 l1 x5_1).f4) < (l0.length : Int) := of_decide_eq_true (by first | (with_reducible assumption) | assumption)
              obtain ⟨ad495, e495, hx495_0, hx495_1, hx495_2⟩ := at_T101 HR0.out ((rd_T43 l1 x5_1).f4) p495 q495
              cases e495
              replace hx495_0 := (HB.out.cell (World.block_lt_of_cell? w _ hx495_0)).trans hx495_0
              replace hx495_1 := (HB.out.cell (World.block_lt_of_cell? w _ hx495_1)).trans hx495_1
              replace hx495_2 := (HB.out.cell (World.block_lt_of_cell? w _ hx495_2)).trans hx495_2
              replace p495 := eq_true p495
              replace q495 := eq_true q495
              go_wp2_with (first | ((with_reducible refine gate_dst (N := 7) rfl ?_); (try (refine gate_guard (by rfl) ?_; dsimp only)); refine box_event ?hg (N := 7) ?hd (cs := #[.int .i64 0, .int .u8 0, .int .i64 0]) (t := 101) ?hr ?_; (case hd => rfl); (case hg => rfl); (case hr => first | (go_simp; done) | (go_simp; rfl)); intro gb496 hg w26 hbox hb; have n0_ := Aside0.mk (blk_below (g := gb494) (o := .cells #[.int .i64 ((rd_T43 l1 x5_1).f0), .int .i64 ((rd_T43 l1 x5_1).f1), .int .i64 ((rd_T43 l1 x5_1).f2), .int .i64 ((rd_T43 l1 x5_1).f3), .int .i64 ((rd_T43 l1 x5_1).f4)] 43 (0, 0)) (by (with_reducible repeat (first | refine blk_drewN ?_ _ | refine blk_drew ?_ | refine blk_alloc ?_ _)); exact BK494.out) hb); have n1_ := Aside0.mk (below_step (by repeat (with_reducible first | exact HB.out | apply below_alloc | apply pw_below_drewN | apply below_drew1 | refine below_set ?_ GE494.out)) hb); have n2_ := Aside0.mk (hbox); have n3_ := Aside0.mk ((by rw [hg]; exact (below_size (by repeat (with_reducible first | exact HB.out | apply below_alloc | apply pw_below_drewN | apply below_drew1 | refine below_set ?_ GE494.out))) : w.heap.size ≤ gb496)); have n4_ := n3_; have n5_ := Aside0.mk ((by rw [hg]; exact Nat.ne_of_lt (blk_lt (g := gb494) (o := .cells #[.int .i64 ((rd_T43 l1 x5_1).f0), .int .i64 ((rd_T43 l1 x5_1).f1), .int .i64 ((rd_T43 l1 x5_1).f2), .int .i64 ((rd_T43 l1 x5_1).f3), .int .i64 ((rd_T43 l1 x5_1).f4)] 43 (0, 0)) (by (with_reducible repeat (first | refine blk_drewN ?_ _ | refine blk_drew ?_ | refine blk_alloc ?_ _)); exact BK494.out)) : gb494 ≠ gb496)); have n6_ := Aside0.mk ((by rw [hg]; exact Nat.ne_of_gt (blk_lt (g := gb494) (o := .cells #[.int .i64 ((rd_T43 l1 x5_1).f0), .int .i64 ((rd_T43 l1 x5_1).f1), .int .i64 ((rd_T43 l1 x5_1).f2), .int .i64 ((rd_T43 l1 x5_1).f3), .int .i64 ((rd_T43 l1 x5_1).f4)] 43 (0, 0)) (by (with_reducible repeat (first | refine blk_drewN ?_ _ | refine blk_drew ?_ | refine blk_alloc ?_ _)); exact BK494.out)) : gb496 ≠ gb494)); clear BK494; clear HB; have BK494 := n0_; have HB := n1_; have BK496 := n2_; have GW496 := n3_; have GE496 := n4_; have NB494_496 := n5_; have NB496_494 := n6_; clear n0_ n1_ n2_ n3_ n4_ n5_ n6_; clear hb hbox hg; have hnb27 := NB496_494.out; have hnc27 := NB494_496.out; obtain ⟨hcz28_0, hcz28_1, hcz28_2, hfz28_0, hfz28_1, hfz28_2⟩ := blks3 BK496.out; obtain ⟨hcz29_0, hcz29_1, hcz29_2, hcz29_3, hcz29_4, hfz29_0, hfz29_1, hfz29_2, hfz29_3, hfz29_4⟩ := blks5 BK494.out))
              go_ret
              exact ⟨by first | rfl | (simp [errW_none, errW_some] <;> rfl) | (simp [*, errW_none, errW_some] <;> rfl), by repeat (with_reducible first | exact HB.out | apply below_alloc | apply pw_below_drewN | apply below_drew1 | refine below_set ?_ GE494.out | refine below_set ?_ GE496.out)⟩
            ·rw [if_neg c18] at H
             have c18b0 : (((rd_T101 l0 ((rd_T43 l1 x5_1).f4)).f0) == 2) = false := beq_eq_false_iff_ne.mpr c18
             have c18b1 : (((rd_T101 l0 ((rd_T43 l1 x5_1).f4)).f0) != 2) = true := bne_iff_ne.mpr c18
             obtain rfl := Option.some.inj H
             have hcz30_0 : wc.cell? ⟨gb494, 0, none⟩ = some (.int .i64 ((rd_T43 l1 x5_1).f0)) := (blk_cell BK494.out 0).trans rfl
             have hcz30_1 : wc.cell? ⟨gb494, 1, none⟩ = some (.int .i64 ((rd_T43 l1 x5_1).f1)) := (blk_cell BK494.out 1).trans rfl
             have hcz30_2 : wc.cell? ⟨gb494, 2, none⟩ = some (.int .i64 ((rd_T43 l1 x5_1).f2)) := (blk_cell BK494.out 2).trans rfl
             have hcz30_3 : wc.cell? ⟨gb494, 3, none⟩ = some (.int .i64 ((rd_T43 l1 x5_1).f3)) := (blk_cell BK494.out 3).trans rfl
             have hcz30_4 : wc.cell? ⟨gb494, 4, none⟩ = some (.int .i64 ((rd_T43 l1 x5_1).f4)) := (blk_cell BK494.out 4).trans rfl
             have hfz30_0 := blk_frozen BK494.out 0
             have hfz30_1 := blk_frozen BK494.out 1
             have hfz30_2 := blk_frozen BK494.out 2
             have hfz30_3 := blk_frozen BK494.out 3
             have hfz30_4 := blk_frozen BK494.out 4
             have p495 : 0 ≤ (((rd_T43 l1 x5_1).f4) : Int) := of_decide_eq_true (by first | (with_reducible assumption) | assumption)
             have q495 : ((rd_T43 l1 x5_1).f4) < (l0.length : Int) := of_decide_eq_true (by first | (with_reducible assumption) | assumption)
             obtain ⟨ad495, e495, hx495_0, hx495_1, hx495_2⟩ := at_T101 HR0.out ((rd_T43 l1 x5_1).f4) p495 q495
             cases e495
             replace hx495_0 := (HB.out.cell (World.block_lt_of_cell? w _ hx495_0)).trans hx495_0
             replace hx495_1 := (HB.out.cell (World.block_lt_of_cell? w _ hx495_1)).trans hx495_1
             replace hx495_2 := (HB.out.cell (World.block_lt_of_cell? w _ hx495_2)).trans hx495_2
             replace p495 := eq_true p495
             replace q495 := eq_true q495
             go_wp2_with (first | ((with_reducible refine gate_dst (N := 7) rfl ?_); (try (refine gate_guard (by rfl) ?_; dsimp only)); refine box_event ?hg (N := 7) ?hd (cs := #[.int .i64 0, .int .u8 0, .int .i64 0]) (t := 101) ?hr ?_; (case hd => rfl); (case hg => rfl); (case hr => first | (go_simp; done) | (go_simp; rfl)); intro gb496 hg w31 hbox hb; have n0_ := Aside0.mk (blk_below (g := gb494) (o := .cells #[.int .i64 ((rd_T43 l1 x5_1).f0), .int .i64 ((rd_T43 l1 x5_1).f1), .int .i64 ((rd_T43 l1 x5_1).f2), .int .i64 ((rd_T43 l1 x5_1).f3), .int .i64 ((rd_T43 l1 x5_1).f4)] 43 (0, 0)) (by (with_reducible repeat (first | refine blk_drewN ?_ _ | refine blk_drew ?_ | refine blk_alloc ?_ _)); exact BK494.out) hb); have n1_ := Aside0.mk (below_step (by repeat (with_reducible first | exact HB.out | apply below_alloc | apply pw_below_drewN | apply below_drew1 | refine below_set ?_ GE494.out)) hb); have n2_ := Aside0.mk (hbox); have n3_ := Aside0.mk ((by rw [hg]; exact (below_size (by repeat (with_reducible first | exact HB.out | apply below_alloc | apply pw_below_drewN | apply below_drew1 | refine below_set ?_ GE494.out))) : w.heap.size ≤ gb496)); have n4_ := n3_; have n5_ := Aside0.mk ((by rw [hg]; exact Nat.ne_of_lt (blk_lt (g := gb494) (o := .cells #[.int .i64 ((rd_T43 l1 x5_1).f0), .int .i64 ((rd_T43 l1 x5_1).f1), .int .i64 ((rd_T43 l1 x5_1).f2), .int .i64 ((rd_T43 l1 x5_1).f3), .int .i64 ((rd_T43 l1 x5_1).f4)] 43 (0, 0)) (by (with_reducible repeat (first | refine blk_drewN ?_ _ | refine blk_drew ?_ | refine blk_alloc ?_ _)); exact BK494.out)) : gb494 ≠ gb496)); have n6_ := Aside0.mk ((by rw [hg]; exact Nat.ne_of_gt (blk_lt (g := gb494) (o := .cells #[.int .i64 ((rd_T43 l1 x5_1).f0), .int .i64 ((rd_T43 l1 x5_1).f1), .int .i64 ((rd_T43 l1 x5_1).f2), .int .i64 ((rd_T43 l1 x5_1).f3), .int .i64 ((rd_T43 l1 x5_1).f4)] 43 (0, 0)) (by (with_reducible repeat (first | refine blk_drewN ?_ _ | refine blk_drew ?_ | refine blk_alloc ?_ _)); exact BK494.out)) : gb496 ≠ gb494)); clear BK494; clear HB; have BK494 := n0_; have HB := n1_; have BK496 := n2_; have GW496 := n3_; have GE496 := n4_; have NB494_496 := n5_; have NB496_494 := n6_; clear n0_ n1_ n2_ n3_ n4_ n5_ n6_; clear hb hbox hg; have hnb32 := NB496_494.out; have hnc32 := NB494_496.out; obtain ⟨hcz33_0, hcz33_1, hcz33_2, hfz33_0, hfz33_1, hfz33_2⟩ := blks3 BK496.out; obtain ⟨hcz34_0, hcz34_1, hcz34_2, hcz34_3, hcz34_4, hfz34_0, hfz34_1, hfz34_2, hfz34_3, hfz34_4⟩ := blks5 BK494.out))
             go_ret
             exact ⟨by first | rfl | (simp [errW_none, errW_some] <;> rfl) | (simp [*, errW_none, errW_some] <;> rfl), by repeat (with_reducible first | exact HB.out | apply below_alloc | apply pw_below_drewN | apply below_drew1 | refine below_set ?_ GE494.out | refine below_set ?_ GE496.out)⟩
           ·rw [if_neg c17] at H
            have c17b0 : (((rd_T43 l1 x5_1).f0) == 4) = false := beq_eq_false_iff_ne.mpr c17
            have c17b1 : (((rd_T43 l1 x5_1).f0) != 4) = true := bne_iff_ne.mpr c17
            by_cases c35 : ((rd_T101 l0 ((rd_T43 l1 x5_1).f4)).f0) = 1
            ·rw [if_pos c35] at H
             have c35b0 : (((rd_T101 l0 ((rd_T43 l1 x5_1).f4)).f0) == 1) = true := beq_iff_eq.mpr c35
             have c35b1 : (((rd_T101 l0 ((rd_T43 l1 x5_1).f4)).f0) != 1) = false := bne_eq_false_iff_eq.mpr c35
             clear c35
             have H' := Aside0.mk H
             clear H
             have hcz36_0 : wc.cell? ⟨gb494, 0, none⟩ = some (.int .i64 ((rd_T43 l1 x5_1).f0)) := (blk_cell BK494.out 0).trans rfl
             have hcz36_1 : wc.cell? ⟨gb494, 1, none⟩ = some (.int .i64 ((rd_T43 l1 x5_1).f1)) := (blk_cell BK494.out 1).trans rfl
             have hcz36_2 : wc.cell? ⟨gb494, 2, none⟩ = some (.int .i64 ((rd_T43 l1 x5_1).f2)) := (blk_cell BK494.out 2).trans rfl
             have hcz36_3 : wc.cell? ⟨gb494, 3, none⟩ = some (.int .i64 ((rd_T43 l1 x5_1).f3)) := (blk_cell BK494.out 3).trans rfl
             have hcz36_4 : wc.cell? ⟨gb494, 4, none⟩ = some (.int .i64 ((rd_T43 l1 x5_1).f4)) := (blk_cell BK494.out 4).trans rfl
             have hfz36_0 := blk_frozen BK494.out 0
             have hfz36_1 := blk_frozen BK494.out 1
             have hfz36_2 := blk_frozen BK494.out 2
             have hfz36_3 := blk_frozen BK494.out 3
             have hfz36_4 := blk_frozen BK494.out 4
             have p495 : 0 ≤ (((rd_T43 l1 x5_1).f4) : Int) := of_decide_eq_true (by first | (with_reducible assumption) | assumption)
             have q495 : ((rd_T43 l1 x5_1).f4) < (l0.length : Int) := of_decide_eq_true (by first | (with_reducible assumption) | assumption)
             obtain ⟨ad495, e495, hx495_0, hx495_1, hx495_2⟩ := at_T101 HR0.out ((rd_T43 l1 x5_1).f4) p495 q495
             cases e495
             replace hx495_0 := (HB.out.cell (World.block_lt_of_cell? w _ hx495_0)).trans hx495_0
             replace hx495_1 := (HB.out.cell (World.block_lt_of_cell? w _ hx495_1)).trans hx495_1
             replace hx495_2 := (HB.out.cell (World.block_lt_of_cell? w _ hx495_2)).trans hx495_2
             replace p495 := eq_true p495
             replace q495 := eq_true q495
             go_wp2_with (first | ((with_reducible refine gate_dst (N := 7) rfl ?_); (try (refine gate_guard (by rfl) ?_; dsimp only)); refine box_event ?hg (N := 7) ?hd (cs := #[.int .i64 0, .int .u8 0, .int .i64 0]) (t := 101) ?hr ?_; (case hd => rfl); (case hg => rfl); (case hr => first | (go_simp; done) | (go_simp; rfl)); intro gb496 hg w37 hbox hb; have n0_ := Aside0.mk (blk_below (g := gb494) (o := .cells #[.int .i64 ((rd_T43 l1 x5_1).f0), .int .i64 ((rd_T43 l1 x5_1).f1), .int .i64 ((rd_T43 l1 x5_1).f2), .int .i64 ((rd_T43 l1 x5_1).f3), .int .i64 ((rd_T43 l1 x5_1).f4)] 43 (0, 0)) (by (with_reducible repeat (first | refine blk_drewN ?_ _ | refine blk_drew ?_ | refine blk_alloc ?_ _)); exact BK494.out) hb); have n1_ := Aside0.mk (below_step (by repeat (with_reducible first | exact HB.out | apply below_alloc | apply pw_below_drewN | apply below_drew1 | refine below_set ?_ GE494.out)) hb); have n2_ := Aside0.mk (hbox); have n3_ := Aside0.mk ((by rw [hg]; exact (below_size (by repeat (with_reducible first | exact HB.out | apply below_alloc | apply pw_below_drewN | apply below_drew1 | refine below_set ?_ GE494.out))) : w.heap.size ≤ gb496)); have n4_ := n3_; have n5_ := Aside0.mk ((by rw [hg]; exact Nat.ne_of_lt (blk_lt (g := gb494) (o := .cells #[.int .i64 ((rd_T43 l1 x5_1).f0), .int .i64 ((rd_T43 l1 x5_1).f1), .int .i64 ((rd_T43 l1 x5_1).f2), .int .i64 ((rd_T43 l1 x5_1).f3), .int .i64 ((rd_T43 l1 x5_1).f4)] 43 (0, 0)) (by (with_reducible repeat (first | refine blk_drewN ?_ _ | refine blk_drew ?_ | refine blk_alloc ?_ _)); exact BK494.out)) : gb494 ≠ gb496)); have n6_ := Aside0.mk ((by rw [hg]; exact Nat.ne_of_gt (blk_lt (g := gb494) (o := .cells #[.int .i64 ((rd_T43 l1 x5_1).f0), .int .i64 ((rd_T43 l1 x5_1).f1), .int .i64 ((rd_T43 l1 x5_1).f2), .int .i64 ((rd_T43 l1 x5_1).f3), .int .i64 ((rd_T43 l1 x5_1).f4)] 43 (0, 0)) (by (with_reducible repeat (first | refine blk_drewN ?_ _ | refine blk_drew ?_ | refine blk_alloc ?_ _)); exact BK494.out)) : gb496 ≠ gb494)); clear BK494; clear HB; have BK494 := n0_; have HB := n1_; have BK496 := n2_; have GW496 := n3_; have GE496 := n4_; have NB494_496 := n5_; have NB496_494 := n6_; clear n0_ n1_ n2_ n3_ n4_ n5_ n6_; clear hb hbox hg; have hnb38 := NB496_494.out; have hnc38 := NB494_496.out; obtain ⟨hcz39_0, hcz39_1, hcz39_2, hfz39_0, hfz39_1, hfz39_2⟩ := blks3 BK496.out; obtain ⟨hcz40_0, hcz40_1, hcz40_2, hcz40_3, hcz40_4, hfz40_0, hfz40_1, hfz40_2, hfz40_3, hfz40_4⟩ := blks5 BK494.out))
             go_roundg kj7
             case measure => have := HK1.out; have := HJ7.out; omega
             case rel => exact ⟨(wrap64 (x5_1 + 1)), (by first | rfl | (simp; done) | (simp [*]; done)), H', ⟨by have := HK1.out; have := HJ7.out; omega⟩, ⟨by repeat (with_reducible first | exact HB.out | apply below_alloc | apply pw_below_drewN | apply below_drew1 | refine below_set ?_ GE494.out | refine below_set ?_ GE496.out)⟩⟩
            ·rw [if_neg c35] at H
             have c35b0 : (((rd_T101 l0 ((rd_T43 l1 x5_1).f4)).f0) == 1) = false := beq_eq_false_iff_ne.mpr c35
             have c35b1 : (((rd_T101 l0 ((rd_T43 l1 x5_1).f4)).f0) != 1) = true := bne_iff_ne.mpr c35
             obtain rfl := Option.some.inj H
             have hcz41_0 : wc.cell? ⟨gb494, 0, none⟩ = some (.int .i64 ((rd_T43 l1 x5_1).f0)) := (blk_cell BK494.out 0).trans rfl
             have hcz41_1 : wc.cell? ⟨gb494, 1, none⟩ = some (.int .i64 ((rd_T43 l1 x5_1).f1)) := (blk_cell BK494.out 1).trans rfl
             have hcz41_2 : wc.cell? ⟨gb494, 2, none⟩ = some (.int .i64 ((rd_T43 l1 x5_1).f2)) := (blk_cell BK494.out 2).trans rfl
             have hcz41_3 : wc.cell? ⟨gb494, 3, none⟩ = some (.int .i64 ((rd_T43 l1 x5_1).f3)) := (blk_cell BK494.out 3).trans rfl
             have hcz41_4 : wc.cell? ⟨gb494, 4, none⟩ = some (.int .i64 ((rd_T43 l1 x5_1).f4)) := (blk_cell BK494.out 4).trans rfl
             have hfz41_0 := blk_frozen BK494.out 0
             have hfz41_1 := blk_frozen BK494.out 1
             have hfz41_2 := blk_frozen BK494.out 2
             have hfz41_3 := blk_frozen BK494.out 3
             have hfz41_4 := blk_frozen BK494.out 4
             have p495 : 0 ≤ (((rd_T43 l1 x5_1).f4) : Int) := of_decide_eq_true (by first | (with_reducible assumption) | assumption)
             have q495 : ((rd_T43 l1 x5_1).f4) < (l0.length : Int) := of_decide_eq_true (by first | (with_reducible assumption) | assumption)
             obtain ⟨ad495, e495, hx495_0, hx495_1, hx495_2⟩ := at_T101 HR0.out ((rd_T43 l1 x5_1).f4) p495 q495
             cases e495
             replace hx495_0 := (HB.out.cell (World.block_lt_of_cell? w _ hx495_0)).trans hx495_0
             replace hx495_1 := (HB.out.cell (World.block_lt_of_cell? w _ hx495_1)).trans hx495_1
             replace hx495_2 := (HB.out.cell (World.block_lt_of_cell? w _ hx495_2)).trans hx495_2
             replace p495 := eq_true p495
             replace q495 := eq_true q495
             go_wp2_with (first | ((with_reducible refine gate_dst (N := 7) rfl ?_); (try (refine gate_guard (by rfl) ?_; dsimp only)); refine box_event ?hg (N := 7) ?hd (cs := #[.int .i64 0, .int .u8 0, .int .i64 0]) (t := 101) ?hr ?_; (case hd => rfl); (case hg => rfl); (case hr => first | (go_simp; done) | (go_simp; rfl)); intro gb496 hg w42 hbox hb; have n0_ := Aside0.mk (blk_below (g := gb494) (o := .cells #[.int .i64 ((rd_T43 l1 x5_1).f0), .int .i64 ((rd_T43 l1 x5_1).f1), .int .i64 ((rd_T43 l1 x5_1).f2), .int .i64 ((rd_T43 l1 x5_1).f3), .int .i64 ((rd_T43 l1 x5_1).f4)] 43 (0, 0)) (by (with_reducible repeat (first | refine blk_drewN ?_ _ | refine blk_drew ?_ | refine blk_alloc ?_ _)); exact BK494.out) hb); have n1_ := Aside0.mk (below_step (by repeat (with_reducible first | exact HB.out | apply below_alloc | apply pw_below_drewN | apply below_drew1 | refine below_set ?_ GE494.out)) hb); have n2_ := Aside0.mk (hbox); have n3_ := Aside0.mk ((by rw [hg]; exact (below_size (by repeat (with_reducible first | exact HB.out | apply below_alloc | apply pw_below_drewN | apply below_drew1 | refine below_set ?_ GE494.out))) : w.heap.size ≤ gb496)); have n4_ := n3_; have n5_ := Aside0.mk ((by rw [hg]; exact Nat.ne_of_lt (blk_lt (g := gb494) (o := .cells #[.int .i64 ((rd_T43 l1 x5_1).f0), .int .i64 ((rd_T43 l1 x5_1).f1), .int .i64 ((rd_T43 l1 x5_1).f2), .int .i64 ((rd_T43 l1 x5_1).f3), .int .i64 ((rd_T43 l1 x5_1).f4)] 43 (0, 0)) (by (with_reducible repeat (first | refine blk_drewN ?_ _ | refine blk_drew ?_ | refine blk_alloc ?_ _)); exact BK494.out)) : gb494 ≠ gb496)); have n6_ := Aside0.mk ((by rw [hg]; exact Nat.ne_of_gt (blk_lt (g := gb494) (o := .cells #[.int .i64 ((rd_T43 l1 x5_1).f0), .int .i64 ((rd_T43 l1 x5_1).f1), .int .i64 ((rd_T43 l1 x5_1).f2), .int .i64 ((rd_T43 l1 x5_1).f3), .int .i64 ((rd_T43 l1 x5_1).f4)] 43 (0, 0)) (by (with_reducible repeat (first | refine blk_drewN ?_ _ | refine blk_drew ?_ | refine blk_alloc ?_ _)); exact BK494.out)) : gb496 ≠ gb494)); clear BK494; clear HB; have BK494 := n0_; have HB := n1_; have BK496 := n2_; have GW496 := n3_; have GE496 := n4_; have NB494_496 := n5_; have NB496_494 := n6_; clear n0_ n1_ n2_ n3_ n4_ n5_ n6_; clear hb hbox hg; have hnb43 := NB496_494.out; have hnc43 := NB494_496.out; obtain ⟨hcz44_0, hcz44_1, hcz44_2, hfz44_0, hfz44_1, hfz44_2⟩ := blks3 BK496.out; obtain ⟨hcz45_0, hcz45_1, hcz45_2, hcz45_3, hcz45_4, hfz45_0, hfz45_1, hfz45_2, hfz45_3, hfz45_4⟩ := blks5 BK494.out))
             go_ret
             exact ⟨by first | rfl | (simp [errW_none, errW_some] <;> rfl) | (simp [*, errW_none, errW_some] <;> rfl), by repeat (with_reducible first | exact HB.out | apply below_alloc | apply pw_below_drewN | apply below_drew1 | refine below_set ?_ GE494.out | refine below_set ?_ GE496.out)⟩
          ·rw [if_neg c16] at H
           exact absurd H (by simp)
         ·rw [if_neg c15] at H
          exact absurd H (by simp)
    ·rw [if_neg c4] at H
     exact absurd H (by simp)
   ·rw [if_neg c3] at H
    have c3b0 : decide (x5_1 < (l1.length : Int)) = false := decide_eq_false c3
    clear c3
    obtain rfl := Option.some.inj H
    go_wp2
    go_ret
    exact ⟨by first | rfl | (simp [errW_none, errW_some] <;> rfl) | (simp [*, errW_none, errW_some] <;> rfl), by repeat (with_reducible first | exact HB.out | apply below_alloc | apply pw_below_drewN | apply below_drew1)⟩
def stylusref20_Slack.j0 : Nat → Int → Int → Int → Bool → Option (Int)
 | 0, _, _, _, _ => none
 | k + 1, x10, x11, x12, x32 => if x32 = true then (some 0) else (if x12 > x10 then (some x10) else (if x12 < (wrap64 (-x11)) then (some (wrap64 (-x11))) else (some x12)))
def stylusref20_Slack.f (k : Nat) (l0 : List (S43)) (a1 : Int) (a2 : Int) (a3 : Int) : Option (Int) := (stylusref19_Line.f k l0 a2 a3).bind fun bt497 => (if a3 = (l0.length : Int) then (stylusref20_Slack.j0 k bt497.2.1 bt497.2.2 (wrap64 (a1 - bt497.1)) (decide (bt497.1 ≤ a1))) else (stylusref20_Slack.j0 k bt497.2.1 bt497.2.2 (wrap64 (a1 - bt497.1)) false))
theorem stylusref20_Slack.mono_l : ∀ k, (∀ y0 y1 y2 y3, LeO (stylusref20_Slack.j0 k y0 y1 y2 y3) (stylusref20_Slack.j0 (k + 1) y0 y1 y2 y3))
 | 0 => fun _ _ _ _ r h => by simp [stylusref20_Slack.j0] at h
 | k + 1 => by
  have ih0 := stylusref20_Slack.mono_l k
  ·intro y0 y1 y2 y3
   unfold stylusref20_Slack.j0
   repeat' first
   | (with_reducible exact ih0 _ _ _ _)
   | (with_reducible exact stylusref19_Line.mono _ _ _ _)
   | (with_reducible exact LeO.refl _)
   | (with_reducible exact LeO.none _)
   | (with_reducible refine LeO.ite ?_ ?_)
   | (with_reducible refine LeO.bind ?_ (fun _ => ?_))
   | exact ih0 _ _ _ _
   | exact stylusref19_Line.mono _ _ _ _
   | exact LeO.none _
   | refine LeO.ite ?_ ?_
   | refine LeO.bind ?_ (fun _ => ?_)
theorem stylusref20_Slack.mono : ∀ a0 a1 a2 a3 k, LeO (stylusref20_Slack.f k a0 a1 a2 a3) (stylusref20_Slack.f (k + 1) a0 a1 a2 a3) := by
 intro a0 a1 a2 a3 k
 have ih0 := stylusref20_Slack.mono_l k
 unfold stylusref20_Slack.f
 repeat' first
   | (with_reducible exact ih0 _ _ _ _)
   | (with_reducible exact stylusref19_Line.mono _ _ _ _)
   | (with_reducible exact LeO.refl _)
   | (with_reducible exact LeO.none _)
   | (with_reducible refine LeO.ite ?_ ?_)
   | (with_reducible refine LeO.bind ?_ (fun _ => ?_))
   | exact ih0 _ _ _ _
   | exact stylusref19_Line.mono _ _ _ _
   | exact LeO.none _
   | refine LeO.ite ?_ ?_
   | refine LeO.bind ?_ (fun _ => ?_)
set_option maxHeartbeats 8000000 in
set_option maxRecDepth 100000 in
theorem stylusref20_Slack.calls (k : Nat) (A0 : Option Addr) (c0 : Nat) (l0 : List (S43)) (a1 : Int) (a2 : Int) (a3 : Int) (r : Int) (w : World) (hr0 : Kd.C k43 w A0 l0.length l0) (hc0 : l0.length ≤ c0) (h : stylusref20_Slack.f k l0 a1 a2 a3 = some r) :
  Calls Try.prog 87 #[.slice A0 l0.length c0, .int .i64 a1, .int .i64 a2, .int .i64 a3] w fun e w' => e = .returned (.int .i64 r) ∧ Drawn0 w w' := by
 have HR0 := Aside0.mk hr0
 have HC0 := Aside0.mk hc0
 clear hr0 hc0
 have H : ((stylusref19_Line.f k l0 a2 a3).bind fun bt497 => (if a3 = (l0.length : Int) then (stylusref20_Slack.j0 k bt497.2.1 bt497.2.2 (wrap64 (a1 - bt497.1)) (decide (bt497.1 ≤ a1))) else (stylusref20_Slack.j0 k bt497.2.1 bt497.2.2 (wrap64 (a1 - bt497.1)) false))) = some r := h
 clear h
 replace H := Option.bind_eq_some_iff.mp H
 obtain ⟨⟨t497, t498, t499⟩, A50, H⟩ := H
 replace H : (if a3 = (l0.length : Int) then (stylusref20_Slack.j0 k t498 t499 (wrap64 (a1 - t497)) (decide (t497 ≤ a1))) else (stylusref20_Slack.j0 k t498 t499 (wrap64 (a1 - t497)) false)) = some r := H
 have A5 := Aside0.mk A50
 clear A50
 have HC6 := Aside0.mk H
 clear H
 go_enter Try.func87, Try.ntmps87
 go_upto_region 3 with (first | ((with_reducible refine gate_callee (f := 55) rfl ?_); refine goesL_ (some 17) rfl rfl Try.func55 (by kernel_rfl) rfl #[.slice A0 l0.length c0, .int .i64 a2, .int .i64 a3] rfl (by (try simp only [List.map_toArray, List.map_cons, List.map_nil]); first | done | rfl | (simp only [List.length_drop, List.length_take]; rfl)) ?_; (with_reducible refine (stylusref19_Line.calls k _ _ l0 a2 a3 t497 t498 t499 _ ?side1 ?side2 A5.out).mono ?_); (case side1 => repeat (first | exact HR0.out | (with_reducible refine Kd.C_alloc ?_ _) | (with_reducible refine Kd.C_drewN ?_ _) | (with_reducible refine Kd.C_drew ?_))); (case side2 => exact HC0.out); rintro e w' ⟨rfl, ⟨nd, rfl⟩⟩; refine ⟨_, rfl, ?_⟩))
 (try simp only [Act.put, List.setIfInBounds_toArray, List.set_cons_zero, List.set_cons_succ])
 go_cut [32] (fun v32 wc => ∃ (kq : Nat) (x32_5 : Bool), v32 = .bool x32_5 ∧ Aside0 (stylusref20_Slack.j0 kq t498 t499 (wrap64 (a1 - t497)) x32_5 = some r) ∧ Aside0 (kq ≤ k) ∧ Drawn0 w wc)
 case first =>
  have H := HC6.out
  clear HC6
  by_cases c7 : a3 = (l0.length : Int)
  ·rw [if_pos c7] at H
   have c7b0 : (a3 == (l0.length : Int)) = true := beq_iff_eq.mpr c7
   have c7b1 : (a3 != (l0.length : Int)) = false := bne_eq_false_iff_eq.mpr c7
   clear c7
   (first | rw [c7b0] | (simp only [i64_w, i32_w]; rw [c7b0]) | skip)
   have H' := Aside0.mk H
   clear H
   go_wp2
   go_meet
   case rel => exact ⟨_, (decide (t497 ≤ a1)), (by first | rfl | (simp; done) | (simp [*]; done)), H', ⟨by first | omega | exact Nat.le_refl _⟩, by repeat (first | exact Drawn0.refl _ | apply Drawn0.step)⟩
  ·rw [if_neg c7] at H
   have c7b0 : (a3 == (l0.length : Int)) = false := beq_eq_false_iff_ne.mpr c7
   have c7b1 : (a3 != (l0.length : Int)) = true := bne_iff_ne.mpr c7
   (first | rw [c7b0] | (simp only [i64_w, i32_w]; rw [c7b0]) | skip)
   have H' := Aside0.mk H
   clear H
   go_wp2
   go_meet
   case rel => exact ⟨_, (false), (by first | rfl | (simp; done) | (simp [*]; done)), H', ⟨by first | omega | exact Nat.le_refl _⟩, by repeat (first | exact Drawn0.refl _ | apply Drawn0.step)⟩
 case rest =>
  clear HC6
  try clear p2
  try clear c5
  try clear p6
  try clear c7
  try clear c7b0
  try clear c7b1
  obtain ⟨kq, x32_5, rfl, HA, HJ5, ⟨mc5, rfl⟩⟩ := hcut
  cases kq with
  | zero => exact absurd HA.out (by simp [stylusref20_Slack.j0])
  | succ kj5 =>
   have H := HA.out
   clear HA
   simp only [stylusref20_Slack.j0] at H
   by_cases c8 : x32_5 = true
   ·subst c8
    have H1 : (some 0) = some r := by rw [if_pos rfl] at H; exact H
    clear H
    have H := H1
    clear H1
    obtain rfl := Option.some.inj H
    go_wp2
    go_ret
    exact ⟨by first | rfl | (simp; done) | (simp [*]; done), by repeat (first | exact Drawn0.refl _ | apply Drawn0.step)⟩
   ·replace c8 := Bool.eq_false_iff.mpr c8
    subst c8
    have H1 : (if (wrap64 (a1 - t497)) > t498 then (some t498) else (if (wrap64 (a1 - t497)) < (wrap64 (-t499)) then (some (wrap64 (-t499))) else (some (wrap64 (a1 - t497))))) = some r := by rw [if_neg (show ¬ (false = true) by decide)] at H; exact H
    clear H
    have H := H1
    clear H1
    by_cases c9 : (wrap64 (a1 - t497)) > t498
    ·rw [if_pos c9] at H
     have c9b0 : decide (t498 < (wrap64 (a1 - t497))) = true := decide_eq_true c9
     clear c9
     obtain rfl := Option.some.inj H
     go_wp2
     go_ret
     exact ⟨by first | rfl | (simp; done) | (simp [*]; done), by repeat (first | exact Drawn0.refl _ | apply Drawn0.step)⟩
    ·rw [if_neg c9] at H
     have c9b0 : decide (t498 < (wrap64 (a1 - t497))) = false := decide_eq_false c9
     clear c9
     by_cases c10 : (wrap64 (a1 - t497)) < (wrap64 (-t499))
     ·rw [if_pos c10] at H
      have c10b0 : decide ((wrap64 (a1 - t497)) < (wrap64 (-t499))) = true := decide_eq_true c10
      clear c10
      obtain rfl := Option.some.inj H
      go_wp2
      go_ret
      exact ⟨by first | rfl | (simp; done) | (simp [*]; done), by repeat (first | exact Drawn0.refl _ | apply Drawn0.step)⟩
     ·rw [if_neg c10] at H
      have c10b0 : decide ((wrap64 (a1 - t497)) < (wrap64 (-t499))) = false := decide_eq_false c10
      clear c10
      obtain rfl := Option.some.inj H
      go_wp2
      go_ret
      exact ⟨by first | rfl | (simp; done) | (simp [*]; done), by repeat (first | exact Drawn0.refl _ | apply Drawn0.step)⟩
def stylusref20_room.f (k : Nat) (l0 : List (S43)) (a1 : Int) (a2 : Int) (a3 : Int) : Option (Int) := (stylusref19_Line.f k l0 a1 a2).bind fun bt500 => (if a3 < 0 then (some bt500.2.2) else (some bt500.2.1))
theorem stylusref20_room.mono : ∀ a0 a1 a2 a3 k, LeO (stylusref20_room.f k a0 a1 a2 a3) (stylusref20_room.f (k + 1) a0 a1 a2 a3) := by
 intro a0 a1 a2 a3 k
 unfold stylusref20_room.f
 repeat' first
   | (with_reducible exact stylusref19_Line.mono _ _ _ _)
   | (with_reducible exact LeO.refl _)
   | (with_reducible exact LeO.none _)
   | (with_reducible refine LeO.ite ?_ ?_)
   | (with_reducible refine LeO.bind ?_ (fun _ => ?_))
   | exact stylusref19_Line.mono _ _ _ _
   | exact LeO.none _
   | refine LeO.ite ?_ ?_
   | refine LeO.bind ?_ (fun _ => ?_)
set_option maxHeartbeats 8000000 in
set_option maxRecDepth 100000 in
theorem stylusref20_room.calls (k : Nat) (A0 : Option Addr) (c0 : Nat) (l0 : List (S43)) (a1 : Int) (a2 : Int) (a3 : Int) (r : Int) (w : World) (hr0 : Kd.C k43 w A0 l0.length l0) (hc0 : l0.length ≤ c0) (h : stylusref20_room.f k l0 a1 a2 a3 = some r) :
  Calls Try.prog 92 #[.slice A0 l0.length c0, .int .i64 a1, .int .i64 a2, .int .i64 a3] w fun e w' => e = .returned (.int .i64 r) ∧ Drawn0 w w' := by
 have HR0 := Aside0.mk hr0
 have HC0 := Aside0.mk hc0
 clear hr0 hc0
 have H : ((stylusref19_Line.f k l0 a1 a2).bind fun bt500 => (if a3 < 0 then (some bt500.2.2) else (some bt500.2.1))) = some r := h
 clear h
 replace H := Option.bind_eq_some_iff.mp H
 obtain ⟨⟨t500, t501, t502⟩, A50, H⟩ := H
 replace H : (if a3 < 0 then (some t502) else (some t501)) = some r := H
 have A5 := Aside0.mk A50
 clear A50
 by_cases c6 : a3 < 0
 ·rw [if_pos c6] at H
  have c6b0 : decide (a3 < 0) = true := decide_eq_true c6
  clear c6
  obtain rfl := Option.some.inj H
  go_enter Try.func92, Try.ntmps92
  go_wp2_with (first | ((with_reducible refine gate_callee (f := 55) rfl ?_); refine goesL_ (some 16) rfl rfl Try.func55 (by kernel_rfl) rfl #[.slice A0 l0.length c0, .int .i64 a1, .int .i64 a2] rfl (by (try simp only [List.map_toArray, List.map_cons, List.map_nil]); first | done | rfl | (simp only [List.length_drop, List.length_take]; rfl)) ?_; (with_reducible refine (stylusref19_Line.calls k _ _ l0 a1 a2 t500 t501 t502 _ ?side1 ?side2 A5.out).mono ?_); (case side1 => repeat (first | exact HR0.out | (with_reducible refine Kd.C_alloc ?_ _) | (with_reducible refine Kd.C_drewN ?_ _) | (with_reducible refine Kd.C_drew ?_))); (case side2 => exact HC0.out); rintro e w' ⟨rfl, ⟨nd, rfl⟩⟩; refine ⟨_, rfl, ?_⟩))
  go_ret
  exact ⟨by first | rfl | (simp; done) | (simp [*]; done), by repeat (first | exact Drawn0.refl _ | apply Drawn0.step)⟩
 ·rw [if_neg c6] at H
  have c6b0 : decide (a3 < 0) = false := decide_eq_false c6
  clear c6
  obtain rfl := Option.some.inj H
  go_enter Try.func92, Try.ntmps92
  go_wp2_with (first | ((with_reducible refine gate_callee (f := 55) rfl ?_); refine goesL_ (some 16) rfl rfl Try.func55 (by kernel_rfl) rfl #[.slice A0 l0.length c0, .int .i64 a1, .int .i64 a2] rfl (by (try simp only [List.map_toArray, List.map_cons, List.map_nil]); first | done | rfl | (simp only [List.length_drop, List.length_take]; rfl)) ?_; (with_reducible refine (stylusref19_Line.calls k _ _ l0 a1 a2 t500 t501 t502 _ ?side1 ?side2 A5.out).mono ?_); (case side1 => repeat (first | exact HR0.out | (with_reducible refine Kd.C_alloc ?_ _) | (with_reducible refine Kd.C_drewN ?_ _) | (with_reducible refine Kd.C_drew ?_))); (case side2 => exact HC0.out); rintro e w' ⟨rfl, ⟨nd, rfl⟩⟩; refine ⟨_, rfl, ?_⟩))
  go_ret
  exact ⟨by first | rfl | (simp; done) | (simp [*]; done), by repeat (first | exact Drawn0.refl _ | apply Drawn0.step)⟩
mutual
def stylusref20_X.l0 : Nat → List (S43) → Int → Int → Int → Int → Int → Int → Option (Int)
 | 0, _, _, _, _, _, _, _ => none
 | k + 1, x0, x2, x4, x11, x12, x13, x14 => if x14 < x4 then (if 0 ≤ x14 then (if x14 < (x0.length : Int) then (if ((rd_T43 x0 x14).f0) = 3 then (stylusref20_X.j1 k x0 x2 x4 x11 x12 x13 x14) else (stylusref20_X.j1 k x0 x2 x4 x11 x12 (wrap64 (x13 + ((rd_T43 x0 x14).f1))) x14)) else (none)) else (none)) else (some x13)
def stylusref20_X.j1 : Nat → List (S43) → Int → Int → Int → Int → Int → Int → Option (Int)
 | 0, _, _, _, _, _, _, _ => none
 | k + 1, x0, x2, x4, x11, x12, x13, x14 => if 0 ≤ x14 then (if x14 < (x0.length : Int) then (if ((rd_T43 x0 x14).f0) = 2 then (stylusref20_X.j2 k x0 x2 x4 x11 x12 x13 x14 (decide (x12 > 0))) else (stylusref20_X.j2 k x0 x2 x4 x11 x12 x13 x14 false)) else (none)) else (none)
def stylusref20_X.j2 : Nat → List (S43) → Int → Int → Int → Int → Int → Int → Bool → Option (Int)
 | 0, _, _, _, _, _, _, _, _ => none
 | k + 1, x0, x2, x4, x11, x12, x13, x14, x56 => if x56 = true then ((stylusref20_room.f k x0 x2 x14 x11).bind fun t508 => ((stylusref20_room.f k x0 x2 (wrap64 (x14 + 1)) x11).bind fun t509 => (if x12 = 0 then (none) else (stylusref20_X.l0 k x0 x2 x4 x11 x12 (wrap64 ((wrap64 (x13 + (wrap64 (Int.tdiv (wrap64 (x11 * t509)) x12)))) - (wrap64 (Int.tdiv (wrap64 (x11 * t508)) x12)))) (wrap64 (x14 + 1)))))) else (stylusref20_X.l0 k x0 x2 x4 x11 x12 x13 (wrap64 (x14 + 1)))
end
def stylusref20_X.f (k : Nat) (l0 : List (S43)) (a1 : Int) (a2 : Int) (a3 : Int) (a4 : Int) : Option (Int) := (stylusref20_Slack.f k l0 a1 a2 a3).bind fun t503 => ((stylusref20_room.f k l0 a2 a3 t503).bind fun t504 => (stylusref20_X.l0 k l0 a2 a4 t503 t504 0 (wrap64 (a2 + 1))))
theorem stylusref20_X.mono_l : ∀ k, (∀ y0 y1 y2 y3 y4 y5 y6, LeO (stylusref20_X.l0 k y0 y1 y2 y3 y4 y5 y6) (stylusref20_X.l0 (k + 1) y0 y1 y2 y3 y4 y5 y6)) ∧ (∀ y0 y1 y2 y3 y4 y5 y6, LeO (stylusref20_X.j1 k y0 y1 y2 y3 y4 y5 y6) (stylusref20_X.j1 (k + 1) y0 y1 y2 y3 y4 y5 y6)) ∧ (∀ y0 y1 y2 y3 y4 y5 y6 y7, LeO (stylusref20_X.j2 k y0 y1 y2 y3 y4 y5 y6 y7) (stylusref20_X.j2 (k + 1) y0 y1 y2 y3 y4 y5 y6 y7))
 | 0 => ⟨fun _ _ _ _ _ _ _ r h => by simp [stylusref20_X.l0] at h, fun _ _ _ _ _ _ _ r h => by simp [stylusref20_X.j1] at h, fun _ _ _ _ _ _ _ _ r h => by simp [stylusref20_X.j2] at h⟩
 | k + 1 => by
  obtain ⟨ih0, ih1, ih2⟩ := stylusref20_X.mono_l k
  refine ⟨?_, ?_, ?_⟩
  ·intro y0 y1 y2 y3 y4 y5 y6
   unfold stylusref20_X.l0
   repeat' first
   | (with_reducible exact ih0 _ _ _ _ _ _ _)
   | (with_reducible exact ih1 _ _ _ _ _ _ _)
   | (with_reducible exact ih2 _ _ _ _ _ _ _ _)
   | (with_reducible exact stylusref20_Slack.mono _ _ _ _ _)
   | (with_reducible exact stylusref20_room.mono _ _ _ _ _)
   | (with_reducible exact LeO.refl _)
   | (with_reducible exact LeO.none _)
   | (with_reducible refine LeO.ite ?_ ?_)
   | (with_reducible refine LeO.bind ?_ (fun _ => ?_))
   | exact LeO.none _
   | refine LeO.ite ?_ ?_
   | refine LeO.bind ?_ (fun _ => ?_)
  ·intro y0 y1 y2 y3 y4 y5 y6
   unfold stylusref20_X.j1
   repeat' first
   | (with_reducible exact ih0 _ _ _ _ _ _ _)
   | (with_reducible exact ih1 _ _ _ _ _ _ _)
   | (with_reducible exact ih2 _ _ _ _ _ _ _ _)
   | (with_reducible exact stylusref20_Slack.mono _ _ _ _ _)
   | (with_reducible exact stylusref20_room.mono _ _ _ _ _)
   | (with_reducible exact LeO.refl _)
   | (with_reducible exact LeO.none _)
   | (with_reducible refine LeO.ite ?_ ?_)
   | (with_reducible refine LeO.bind ?_ (fun _ => ?_))
   | exact LeO.none _
   | refine LeO.ite ?_ ?_
   | refine LeO.bind ?_ (fun _ => ?_)
  ·intro y0 y1 y2 y3 y4 y5 y6 y7
   unfold stylusref20_X.j2
   repeat' first
   | (with_reducible exact ih0 _ _ _ _ _ _ _)
   | (with_reducible exact ih1 _ _ _ _ _ _ _)
   | (with_reducible exact ih2 _ _ _ _ _ _ _ _)
   | (with_reducible exact stylusref20_Slack.mono _ _ _ _ _)
   | (with_reducible exact stylusref20_room.mono _ _ _ _ _)
   | (with_reducible exact LeO.refl _)
   | (with_reducible exact LeO.none _)
   | (with_reducible refine LeO.ite ?_ ?_)
   | (with_reducible refine LeO.bind ?_ (fun _ => ?_))
   | exact LeO.none _
   | refine LeO.ite ?_ ?_
   | refine LeO.bind ?_ (fun _ => ?_)
theorem stylusref20_X.mono : ∀ a0 a1 a2 a3 a4 k, LeO (stylusref20_X.f k a0 a1 a2 a3 a4) (stylusref20_X.f (k + 1) a0 a1 a2 a3 a4) := by
 intro a0 a1 a2 a3 a4 k
 obtain ⟨ih0, ih1, ih2⟩ := stylusref20_X.mono_l k
 unfold stylusref20_X.f
 repeat' first
   | (with_reducible exact ih0 _ _ _ _ _ _ _)
   | (with_reducible exact ih1 _ _ _ _ _ _ _)
   | (with_reducible exact ih2 _ _ _ _ _ _ _ _)
   | (with_reducible exact stylusref20_Slack.mono _ _ _ _ _)
   | (with_reducible exact stylusref20_room.mono _ _ _ _ _)
   | (with_reducible exact LeO.refl _)
   | (with_reducible exact LeO.none _)
   | (with_reducible refine LeO.ite ?_ ?_)
   | (with_reducible refine LeO.bind ?_ (fun _ => ?_))
   | exact ih0 _ _ _ _ _ _ _
   | exact ih1 _ _ _ _ _ _ _
   | exact ih2 _ _ _ _ _ _ _ _
   | exact stylusref20_Slack.mono _ _ _ _ _
   | exact stylusref20_room.mono _ _ _ _ _
   | exact LeO.none _
   | refine LeO.ite ?_ ?_
   | refine LeO.bind ?_ (fun _ => ?_)
set_option maxHeartbeats 8000000 in
set_option maxRecDepth 100000 in
theorem stylusref20_X.calls (k : Nat) (A0 : Option Addr) (c0 : Nat) (l0 : List (S43)) (a1 : Int) (a2 : Int) (a3 : Int) (a4 : Int) (r : Int) (w : World) (hr0 : Kd.C k43 w A0 l0.length l0) (hc0 : l0.length ≤ c0) (h : stylusref20_X.f k l0 a1 a2 a3 a4 = some r) :
  Calls Try.prog 88 #[.slice A0 l0.length c0, .int .i64 a1, .int .i64 a2, .int .i64 a3, .int .i64 a4] w fun e w' => e = .returned (.int .i64 r) ∧ Drawn0 w w' := by
 have HR0 := Aside0.mk hr0
 have HC0 := Aside0.mk hc0
 clear hr0 hc0
 have H : ((stylusref20_Slack.f k l0 a1 a2 a3).bind fun t503 => ((stylusref20_room.f k l0 a2 a3 t503).bind fun t504 => (stylusref20_X.l0 k l0 a2 a4 t503 t504 0 (wrap64 (a2 + 1))))) = some r := h
 clear h
 replace H := Option.bind_eq_some_iff.mp H
 obtain ⟨t503, A60, H⟩ := H
 have A6 := Aside0.mk A60
 clear A60
 replace H := Option.bind_eq_some_iff.mp H
 obtain ⟨t504, A70, H⟩ := H
 have A7 := Aside0.mk A70
 clear A70
 have H' := Aside0.mk H
 clear H
 go_enter Try.func88, Try.ntmps88
 go_wp2_with (first | (go_at_call 87; (with_reducible refine (stylusref20_Slack.calls k _ _ l0 a1 a2 a3 t503 _ ?side1 ?side2 A6.out).mono ?_); (case side1 => repeat (first | exact HR0.out | (with_reducible refine Kd.C_alloc ?_ _) | (with_reducible refine Kd.C_drewN ?_ _) | (with_reducible refine Kd.C_drew ?_))); (case side2 => exact HC0.out); rintro e w' ⟨rfl, ⟨nd, rfl⟩⟩; (try first | exact ⟨rfl, _, World.drewN_drewN _ _ _⟩ | exact ⟨rfl, _, Eq.trans (World.drewN_drewN _ _ _) (congrArg (World.drewN _) (Nat.add_assoc _ _ _))⟩)) | (go_at_call 92; (with_reducible refine (stylusref20_room.calls k _ _ l0 a2 a3 t503 t504 _ ?side1 ?side2 A7.out).mono ?_); (case side1 => repeat (first | exact HR0.out | (with_reducible refine Kd.C_alloc ?_ _) | (with_reducible refine Kd.C_drewN ?_ _) | (with_reducible refine Kd.C_drew ?_))); (case side2 => exact HC0.out); rintro e w' ⟨rfl, ⟨nd, rfl⟩⟩; (try first | exact ⟨rfl, _, World.drewN_drewN _ _ _⟩ | exact ⟨rfl, _, Eq.trans (World.drewN_drewN _ _ _) (congrArg (World.drewN _) (Nat.add_assoc _ _ _))⟩)))
 go_loopg [13, 14] k (fun kq v13 v14 w' => ∃ (x13_1 : Int) (x14_1 : Int), v13 = .int .i64 x13_1 ∧ v14 = .int .i64 x14_1 ∧ Aside0 (stylusref20_X.l0 kq l0 a2 a4 t503 t504 x13_1 x14_1 = some r) ∧ Aside0 (kq ≤ k) ∧ Drawn0 w w')
 case atStart => exact ⟨(0), (wrap64 (a2 + 1)), (by first | rfl | (simp; done) | (simp [*]; done)), (by first | rfl | (simp; done) | (simp [*]; done)), H', ⟨Nat.le_refl _⟩, by repeat (first | exact Drawn0.refl _ | apply Drawn0.step)⟩
 case round =>
  clear H'
  try clear p2
  try clear p6
  obtain ⟨x13_1, x14_1, rfl, rfl, HA, HK1, ⟨m1, rfl⟩⟩ := hrel
  cases gk with
  | zero => exact absurd HA.out (by simp [stylusref20_X.l0])
  | succ k1 =>
   have H := HA.out
   clear HA
   simp only [stylusref20_X.l0] at H
   by_cases c8 : x14_1 < a4
   ·rw [if_pos c8] at H
    have c8b0 : decide (x14_1 < a4) = true := decide_eq_true c8
    clear c8
    by_cases c9 : 0 ≤ x14_1
    ·rw [if_pos c9] at H
     have c9b0 : decide (0 ≤ x14_1) = true := decide_eq_true c9
     clear c9
     by_cases c10 : x14_1 < (l0.length : Int)
     ·rw [if_pos c10] at H
      have c10b0 : decide (x14_1 < (l0.length : Int)) = true := decide_eq_true c10
      clear c10
      have HC11 := Aside0.mk H
      clear H
      have p505 : 0 ≤ (x14_1 : Int) := of_decide_eq_true (by first | (with_reducible assumption) | assumption)
      have q505 : x14_1 < (l0.length : Int) := of_decide_eq_true (by first | (with_reducible assumption) | assumption)
      obtain ⟨ad505, e505, hx505_0, hx505_1, hx505_2, hx505_3, hx505_4⟩ := at_T43 HR0.out x14_1 p505 q505
      cases e505
      replace p505 := eq_true p505
      replace q505 := eq_true q505
      go_upto_if 39 with (fail)
      repeat (go_quiet (fail); go_upto_if 39 with (fail))
      go_cut [13] (fun v13 wc => ∃ (kq : Nat) (x13_10 : Int), v13 = .int .i64 x13_10 ∧ Aside0 (stylusref20_X.j1 kq l0 a2 a4 t503 t504 x13_10 x14_1 = some r) ∧ Aside0 (kq ≤ k1) ∧ Drawn0 w wc)
      case first =>
       have H := HC11.out
       clear HC11
       by_cases c12 : ((rd_T43 l0 x14_1).f0) = 3
       ·rw [if_pos c12] at H
        have c12b0 : (((rd_T43 l0 x14_1).f0) == 3) = true := beq_iff_eq.mpr c12
        have c12b1 : (((rd_T43 l0 x14_1).f0) != 3) = false := bne_eq_false_iff_eq.mpr c12
        clear c12
        (first | rw [c12b0] | (simp only [i64_w, i32_w]; rw [c12b0]) | skip)
        have H' := Aside0.mk H
        clear H
        go_wp2
        repeat (go_quiet (fail); try go_wp2)
        go_meet
        case rel => exact ⟨_, (x13_1), (by first | rfl | (simp; done) | (simp [*]; done)), H', ⟨by have := HK1.out; first | omega | exact Nat.le_refl _⟩, by repeat (first | exact Drawn0.refl _ | apply Drawn0.step)⟩
       ·rw [if_neg c12] at H
        have c12b0 : (((rd_T43 l0 x14_1).f0) == 3) = false := beq_eq_false_iff_ne.mpr c12
        have c12b1 : (((rd_T43 l0 x14_1).f0) != 3) = true := bne_iff_ne.mpr c12
        (first | rw [c12b0] | (simp only [i64_w, i32_w]; rw [c12b0]) | skip)
        have H' := Aside0.mk H
        clear H
        have p506 : 0 ≤ (x14_1 : Int) := of_decide_eq_true (by first | (with_reducible assumption) | assumption)
        have q506 : x14_1 < (l0.length : Int) := of_decide_eq_true (by first | (with_reducible assumption) | assumption)
        obtain ⟨ad506, e506, hx506_0, hx506_1, hx506_2, hx506_3, hx506_4⟩ := at_T43 HR0.out x14_1 p506 q506
        obtain rfl : ad505 = ad506 := (by injection e506)
        replace p506 := eq_true p506
        replace q506 := eq_true q506
        go_wp2
        repeat (go_quiet (fail); try go_wp2)
        go_meet
        case rel => exact ⟨_, (wrap64 (x13_1 + ((rd_T43 l0 x14_1).f1))), (by first | rfl | (simp; done) | (simp [*]; done)), H', ⟨by have := HK1.out; first | omega | exact Nat.le_refl _⟩, by repeat (first | exact Drawn0.refl _ | apply Drawn0.step)⟩
      case rest =>
       clear HC11
       try clear c1
       try clear p2
       try clear p5
       try clear q5
       try clear hx5
       try clear p6
       try clear c8
       try clear c8b0
       try clear c9
       try clear c9b0
       try clear c10
       try clear c10b0
       try clear c12
       try clear c12b0
       try clear c12b1
       try clear hx505_0
       try clear hx505_1
       try clear hx505_2
       try clear hx505_3
       try clear hx505_4
       try clear hx506_0
       try clear hx506_1
       try clear hx506_2
       try clear hx506_3
       try clear hx506_4
       try clear p2
       try clear p505
       try clear p506
       try clear p6
       try clear q505
       try clear q506
       obtain ⟨kq, x13_10, rfl, HA, HJ10, ⟨mc10, rfl⟩⟩ := hcut
       cases kq with
       | zero => exact absurd HA.out (by simp [stylusref20_X.j1])
       | succ kj10 =>
        have H := HA.out
        clear HA
        simp only [stylusref20_X.j1] at H
        have HC13 := Aside0.mk H
        clear H
        go_upto_region 9 with (fail)
        repeat (go_quiet (fail); go_upto_region 9 with (fail))
        go_cut [56] (fun v56 wc => ∃ (kq : Nat) (x56_12 : Bool), v56 = .bool x56_12 ∧ Aside0 (stylusref20_X.j2 kq l0 a2 a4 t503 t504 x13_10 x14_1 x56_12 = some r) ∧ Aside0 (kq ≤ kj10) ∧ Drawn0 w wc)
        case first =>
         have H := HC13.out
         clear HC13
         by_cases c14 : 0 ≤ x14_1
         ·rw [if_pos c14] at H
          have c14b0 : decide (0 ≤ x14_1) = true := decide_eq_true c14
          clear c14
          (first | rw [c14b0] | (simp only [i64_w, i32_w]; rw [c14b0]) | skip)
          by_cases c15 : x14_1 < (l0.length : Int)
          ·rw [if_pos c15] at H
           have c15b0 : decide (x14_1 < (l0.length : Int)) = true := decide_eq_true c15
           clear c15
           by_cases c16 : ((rd_T43 l0 x14_1).f0) = 2
           ·rw [if_pos c16] at H
            have c16b0 : (((rd_T43 l0 x14_1).f0) == 2) = true := beq_iff_eq.mpr c16
            have c16b1 : (((rd_T43 l0 x14_1).f0) != 2) = false := bne_eq_false_iff_eq.mpr c16
            clear c16
            have H' := Aside0.mk H
            clear H
            have p507 : 0 ≤ (x14_1 : Int) := of_decide_eq_true (by first | (with_reducible assumption) | assumption)
            have q507 : x14_1 < (l0.length : Int) := of_decide_eq_true (by first | (with_reducible assumption) | assumption)
            obtain ⟨ad507, e507, hx507_0, hx507_1, hx507_2, hx507_3, hx507_4⟩ := at_T43 HR0.out x14_1 p507 q507
            obtain rfl : ad505 = ad507 := (by injection e507)
            replace p507 := eq_true p507
            replace q507 := eq_true q507
            go_wp2
            repeat (go_quiet (fail); try go_wp2)
            go_meet
            case rel => exact ⟨_, (decide (t504 > 0)), (by first | rfl | (simp; done) | (simp [*]; done)), H', ⟨by have := HK1.out; have := HJ10.out; first | omega | exact Nat.le_refl _⟩, by repeat (first | exact Drawn0.refl _ | apply Drawn0.step)⟩
           ·rw [if_neg c16] at H
            have c16b0 : (((rd_T43 l0 x14_1).f0) == 2) = false := beq_eq_false_iff_ne.mpr c16
            have c16b1 : (((rd_T43 l0 x14_1).f0) != 2) = true := bne_iff_ne.mpr c16
            have H' := Aside0.mk H
            clear H
            have p507 : 0 ≤ (x14_1 : Int) := of_decide_eq_true (by first | (with_reducible assumption) | assumption)
            have q507 : x14_1 < (l0.length : Int) := of_decide_eq_true (by first | (with_reducible assumption) | assumption)
            obtain ⟨ad507, e507, hx507_0, hx507_1, hx507_2, hx507_3, hx507_4⟩ := at_T43 HR0.out x14_1 p507 q507
            obtain rfl : ad505 = ad507 := (by injection e507)
            replace p507 := eq_true p507
            replace q507 := eq_true q507
            go_wp2
            repeat (go_quiet (fail); try go_wp2)
            go_meet
            case rel => exact ⟨_, (false), (by first | rfl | (simp; done) | (simp [*]; done)), H', ⟨by have := HK1.out; have := HJ10.out; first | omega | exact Nat.le_refl _⟩, by repeat (first | exact Drawn0.refl _ | apply Drawn0.step)⟩
          ·rw [if_neg c15] at H
           exact absurd H (by simp)
         ·rw [if_neg c14] at H
          exact absurd H (by simp)
        case rest =>
         clear HC13
         try clear c1
         try clear p2
         try clear p5
         try clear q5
         try clear hx5
         try clear p6
         try clear c8
         try clear c8b0
         try clear c9
         try clear c9b0
         try clear c10
         try clear c10b0
         try clear c12
         try clear c12b0
         try clear c12b1
         try clear c14
         try clear c14b0
         try clear c15
         try clear c15b0
         try clear c16
         try clear c16b0
         try clear c16b1
         try clear hx505_0
         try clear hx505_1
         try clear hx505_2
         try clear hx505_3
         try clear hx505_4
         try clear hx506_0
         try clear hx506_1
         try clear hx506_2
         try clear hx506_3
         try clear hx506_4
         try clear hx507_0
         try clear hx507_1
         try clear hx507_2
         try clear hx507_3
         try clear hx507_4
         try clear p2
         try clear p5
         try clear p505
         try clear p506
         try clear p507
         try clear p6
         try clear q5
         try clear q505
         try clear q506
         try clear q507
         obtain ⟨kq, x56_12, rfl, HA, HJ12, ⟨mc12, rfl⟩⟩ := hcut
         cases kq with
         | zero => exact absurd HA.out (by simp [stylusref20_X.j2])
         | succ kj12 =>
          have H := HA.out
          clear HA
          simp only [stylusref20_X.j2] at H
          by_cases c17 : x56_12 = true
          ·subst c17
           rw [if_pos rfl] at H
           replace H := Option.bind_eq_some_iff.mp H
           obtain ⟨t508, A180, H⟩ := H
           have A18 := Aside0.mk A180
           clear A180
           replace H := Option.bind_eq_some_iff.mp H
           obtain ⟨t509, A190, H⟩ := H
           have A19 := Aside0.mk A190
           clear A190
           by_cases c20 : t504 = 0
           ·rw [if_pos c20] at H
            exact absurd H (by simp)
           ·rw [if_neg c20] at H
            have c20b0 : (t504 == 0) = false := beq_eq_false_iff_ne.mpr c20
            have c20b1 : (t504 != 0) = true := bne_iff_ne.mpr c20
            have H' := Aside0.mk H
            clear H
            go_wp2_with (first | (go_at_call 92; (with_reducible refine (stylusref20_room.calls kj12 _ _ l0 a2 x14_1 t503 t508 _ ?side1 ?side2 A18.out).mono ?_); (case side1 => repeat (first | exact HR0.out | (with_reducible refine Kd.C_alloc ?_ _) | (with_reducible refine Kd.C_drewN ?_ _) | (with_reducible refine Kd.C_drew ?_))); (case side2 => exact HC0.out); rintro e w' ⟨rfl, ⟨nd, rfl⟩⟩; (try first | exact ⟨rfl, _, World.drewN_drewN _ _ _⟩ | exact ⟨rfl, _, Eq.trans (World.drewN_drewN _ _ _) (congrArg (World.drewN _) (Nat.add_assoc _ _ _))⟩)) | (go_at_call 92; (with_reducible refine (stylusref20_room.calls kj12 _ _ l0 a2 (wrap64 (x14_1 + 1)) t503 t509 _ ?side1 ?side2 A19.out).mono ?_); (case side1 => repeat (first | exact HR0.out | (with_reducible refine Kd.C_alloc ?_ _) | (with_reducible refine Kd.C_drewN ?_ _) | (with_reducible refine Kd.C_drew ?_))); (case side2 => exact HC0.out); rintro e w' ⟨rfl, ⟨nd, rfl⟩⟩; (try first | exact ⟨rfl, _, World.drewN_drewN _ _ _⟩ | exact ⟨rfl, _, Eq.trans (World.drewN_drewN _ _ _) (congrArg (World.drewN _) (Nat.add_assoc _ _ _))⟩)))
            repeat (go_quiet (first | (go_at_call 92; (with_reducible refine (stylusref20_room.calls kj12 _ _ l0 a2 x14_1 t503 t508 _ ?side1 ?side2 A18.out).mono ?_); (case side1 => repeat (first | exact HR0.out | (with_reducible refine Kd.C_alloc ?_ _) | (with_reducible refine Kd.C_drewN ?_ _) | (with_reducible refine Kd.C_drew ?_))); (case side2 => exact HC0.out); rintro e w' ⟨rfl, ⟨nd, rfl⟩⟩; (try first | exact ⟨rfl, _, World.drewN_drewN _ _ _⟩ | exact ⟨rfl, _, Eq.trans (World.drewN_drewN _ _ _) (congrArg (World.drewN _) (Nat.add_assoc _ _ _))⟩)) | (go_at_call 92; (with_reducible refine (stylusref20_room.calls kj12 _ _ l0 a2 (wrap64 (x14_1 + 1)) t503 t509 _ ?side1 ?side2 A19.out).mono ?_); (case side1 => repeat (first | exact HR0.out | (with_reducible refine Kd.C_alloc ?_ _) | (with_reducible refine Kd.C_drewN ?_ _) | (with_reducible refine Kd.C_drew ?_))); (case side2 => exact HC0.out); rintro e w' ⟨rfl, ⟨nd, rfl⟩⟩; (try first | exact ⟨rfl, _, World.drewN_drewN _ _ _⟩ | exact ⟨rfl, _, Eq.trans (World.drewN_drewN _ _ _) (congrArg (World.drewN _) (Nat.add_assoc _ _ _))⟩))); try go_wp2_with (first | (go_at_call 92; (with_reducible refine (stylusref20_room.calls kj12 _ _ l0 a2 x14_1 t503 t508 _ ?side1 ?side2 A18.out).mono ?_); (case side1 => repeat (first | exact HR0.out | (with_reducible refine Kd.C_alloc ?_ _) | (with_reducible refine Kd.C_drewN ?_ _) | (with_reducible refine Kd.C_drew ?_))); (case side2 => exact HC0.out); rintro e w' ⟨rfl, ⟨nd, rfl⟩⟩; (try first | exact ⟨rfl, _, World.drewN_drewN _ _ _⟩ | exact ⟨rfl, _, Eq.trans (World.drewN_drewN _ _ _) (congrArg (World.drewN _) (Nat.add_assoc _ _ _))⟩)) | (go_at_call 92; (with_reducible refine (stylusref20_room.calls kj12 _ _ l0 a2 (wrap64 (x14_1 + 1)) t503 t509 _ ?side1 ?side2 A19.out).mono ?_); (case side1 => repeat (first | exact HR0.out | (with_reducible refine Kd.C_alloc ?_ _) | (with_reducible refine Kd.C_drewN ?_ _) | (with_reducible refine Kd.C_drew ?_))); (case side2 => exact HC0.out); rintro e w' ⟨rfl, ⟨nd, rfl⟩⟩; (try first | exact ⟨rfl, _, World.drewN_drewN _ _ _⟩ | exact ⟨rfl, _, Eq.trans (World.drewN_drewN _ _ _) (congrArg (World.drewN _) (Nat.add_assoc _ _ _))⟩))))
            go_roundg kj12
            case measure => have := HK1.out; have := HJ10.out; have := HJ12.out; omega
            case rel => exact ⟨(wrap64 ((wrap64 (x13_10 + (wrap64 (Int.tdiv (wrap64 (t503 * t509)) t504)))) - (wrap64 (Int.tdiv (wrap64 (t503 * t508)) t504)))), (wrap64 (x14_1 + 1)), (by first | rfl | (simp; done) | (simp [*]; done)), (by first | rfl | (simp; done) | (simp [*]; done)), H', ⟨by have := HK1.out; have := HJ10.out; have := HJ12.out; omega⟩, by repeat (first | exact Drawn0.refl _ | apply Drawn0.step)⟩
          ·replace c17 := Bool.eq_false_iff.mpr c17
           subst c17
           rw [if_neg (show ¬ (false = true) by decide)] at H
           have H' := Aside0.mk H
           clear H
           go_wp2
           repeat (go_quiet (fail); try go_wp2)
           go_roundg kj12
           case measure => have := HK1.out; have := HJ10.out; have := HJ12.out; omega
           case rel => exact ⟨(x13_10), (wrap64 (x14_1 + 1)), (by first | rfl | (simp; done) | (simp [*]; done)), (by first | rfl | (simp; done) | (simp [*]; done)), H', ⟨by have := HK1.out; have := HJ10.out; have := HJ12.out; omega⟩, by repeat (first | exact Drawn0.refl _ | apply Drawn0.step)⟩
     ·rw [if_neg c10] at H
      exact absurd H (by simp)
    ·rw [if_neg c9] at H
     exact absurd H (by simp)
   ·rw [if_neg c8] at H
    have c8b0 : decide (x14_1 < a4) = false := decide_eq_false c8
    clear c8
    obtain rfl := Option.some.inj H
    go_wp2
    repeat (go_quiet (fail); try go_wp2)
    go_ret
    exact ⟨by first | rfl | (simp; done) | (simp [*]; done), by repeat (first | exact Drawn0.refl _ | apply Drawn0.step)⟩
end Go.Proofs.Ytbddfnmhhmkfkaa.Pr
