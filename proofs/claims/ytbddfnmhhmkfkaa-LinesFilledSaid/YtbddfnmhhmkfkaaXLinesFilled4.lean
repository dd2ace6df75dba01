/- Texts of this seat, one behind the other. -/
import Derived.Test.YtbddfnmhhmkfkaaXLinesFilled1
import Derived.Test.YtbddfnmhhmkfkaaXLinesFilled2
import Derived.Test.YtbddfnmhhmkfkaaXLinesFilled3
namespace Go.Proofs.Ytbddfnmhhmkfkaa.Pr
open Go.RowKit Go.Proofs.YtbddfnmhhmkfkaaW.PrintWords Go.Proofs.YtbddfnmhhmkfkaaW.PrintLast Go.Proofs.YtbddfnmhhmkfkaaW.PrintMore
attribute [local go_sem] max2_int min2_int max_two min_two max_three min_three max_four min_four
set_option linter.unusedVariables false
set_option linter.unusedSimpArgs false
mutual
def s20_LinesFilled.j0 : Nat → List (S43) → Int → List Int → Bool → Option (Bool)
 | 0, _, _, _, _ => none
 | k + 1, x0, x1, x5, x51 => if x51 = true then (some false) else (s20_LinesFilled.l0 k x0 x1 x5 0 0)
def s20_LinesFilled.l0 : Nat → List (S43) → Int → List Int → Int → Int → Option (Bool)
 | 0, _, _, _, _, _ => none
 | k + 1, x0, x1, x5, x7, x8 => if x8 < (x5.length : Int) then (if 0 ≤ x8 then (if (rd x5 x8) < x7 then (s20_LinesFilled.j2 k x0 x1 x5 x7 x8 true) else (if (rd x5 x8) > (x0.length : Int) then (s20_LinesFilled.j2 k x0 x1 x5 x7 x8 true) else (if (rd x5 x8) < (x0.length : Int) then ((s20_kind.f x0 (rd x5 x8)).bind fun t608 => (s20_LinesFilled.j2 k x0 x1 x5 x7 x8 (t608 != 2))) else (s20_LinesFilled.j2 k x0 x1 x5 x7 x8 false)))) else (none)) else ((s20_awake.f k).bind fun t603 => (some t603))
def s20_LinesFilled.j2 : Nat → List (S43) → Int → List Int → Int → Int → Bool → Option (Bool)
 | 0, _, _, _, _, _, _ => none
 | k + 1, x0, x1, x5, x7, x8, x90 => if x90 = true then (some false) else (s20_LinesFilled.l1 k x0 x1 x5 x8 0 0 x7)
def s20_LinesFilled.l1 : Nat → List (S43) → Int → List Int → Int → Int → Int → Int → Option (Bool)
 | 0, _, _, _, _, _, _, _ => none
 | k + 1, x0, x1, x5, x8, x9, x10, x11 => if 0 ≤ x8 then (if x8 < (x5.length : Int) then (if x11 < (rd x5 x8) then (if 0 ≤ x11 then (if x11 < (x0.length : Int) then (if ((rd_T43 x0 x11).f0) = 3 then (if ((rd_T43 x0 x11).f0) = 2 then (s20_LinesFilled.l1 k x0 x1 x5 x8 x9 (wrap64 (x10 + 1)) (wrap64 (x11 + 1))) else (s20_LinesFilled.l1 k x0 x1 x5 x8 x9 x10 (wrap64 (x11 + 1)))) else (if ((rd_T43 x0 x11).f0) = 2 then (s20_LinesFilled.l1 k x0 x1 x5 x8 (wrap64 (x9 + ((rd_T43 x0 x11).f1))) (wrap64 (x10 + 1)) (wrap64 (x11 + 1))) else (s20_LinesFilled.l1 k x0 x1 x5 x8 (wrap64 (x9 + ((rd_T43 x0 x11).f1))) x10 (wrap64 (x11 + 1))))) else (none)) else (none)) else (if x9 > x1 then (s20_LinesFilled.j4 k x0 x1 x5 x8 x9 (decide (x10 > 0))) else (s20_LinesFilled.j4 k x0 x1 x5 x8 x9 false))) else (none)) else (none)
def s20_LinesFilled.j4 : Nat → List (S43) → Int → List Int → Int → Int → Bool → Option (Bool)
 | 0, _, _, _, _, _, _ => none
 | k + 1, x0, x1, x5, x8, x9, x127 => if x127 = true then (some false) else (if x8 < (wrap64 ((x5.length : Int) - 1)) then (s20_LinesFilled.j5 k x0 x1 x5 x8 x9 (decide (x9 ≤ x1))) else (s20_LinesFilled.j5 k x0 x1 x5 x8 x9 false))
def s20_LinesFilled.j5 : Nat → List (S43) → Int → List Int → Int → Int → Bool → Option (Bool)
 | 0, _, _, _, _, _, _ => none
 | k + 1, x0, x1, x5, x8, x9, x137 => if x137 = true then (if 0 ≤ x8 then (if x8 < (x5.length : Int) then (if 0 ≤ (rd x5 x8) then (if (rd x5 x8) < (x0.length : Int) then (s20_LinesFilled.l2 k x0 x1 x5 x8 (wrap64 (x9 + ((rd_T43 x0 (rd x5 x8)).f1))) (wrap64 ((rd x5 x8) + 1))) else (none)) else (none)) else (none)) else (none)) else (if 0 ≤ x8 then (if x8 < (x5.length : Int) then (s20_LinesFilled.l0 k x0 x1 x5 (wrap64 ((rd x5 x8) + 1)) (wrap64 (x8 + 1))) else (none)) else (none))
def s20_LinesFilled.l2 : Nat → List (S43) → Int → List Int → Int → Int → Int → Option (Bool)
 | 0, _, _, _, _, _, _ => none
 | k + 1, x0, x1, x5, x8, x9, x12 => if x12 < (x0.length : Int) then (if 0 ≤ x12 then (s20_LinesFilled.j7 k x0 x1 x5 x8 x9 x12 (((rd_T43 x0 x12).f0) != 2)) else (none)) else (s20_LinesFilled.j7 k x0 x1 x5 x8 x9 x12 false)
def s20_LinesFilled.j7 : Nat → List (S43) → Int → List Int → Int → Int → Int → Bool → Option (Bool)
 | 0, _, _, _, _, _, _, _ => none
 | k + 1, x0, x1, x5, x8, x9, x12, x164 => if x164 = true then (if 0 ≤ x12 then (if x12 < (x0.length : Int) then (if ((rd_T43 x0 x12).f0) = 3 then (s20_LinesFilled.l2 k x0 x1 x5 x8 x9 (wrap64 (x12 + 1))) else (s20_LinesFilled.l2 k x0 x1 x5 x8 (wrap64 (x9 + ((rd_T43 x0 x12).f1))) (wrap64 (x12 + 1)))) else (none)) else (none)) else (if x9 ≤ x1 then (some false) else (if 0 ≤ x8 then (if x8 < (x5.length : Int) then (s20_LinesFilled.l0 k x0 x1 x5 (wrap64 ((rd x5 x8) + 1)) (wrap64 (x8 + 1))) else (none)) else (none)))
end
def s20_LinesFilled.f (k : Nat) (l0 : List (S43)) (a1 : Int) : Option (Bool) := if (l0.length : Int) > 120 then ((s20_awake.f k).bind fun t595 => (some t595)) else ((lines_Fill.f k l0 a1).bind fun bt596 => (if bt596.2 = 0 then (if (bt596.1.length : Int) = 0 then (s20_LinesFilled.j0 k l0 a1 bt596.1 true) else (if 0 ≤ (wrap64 ((bt596.1.length : Int) - 1)) then (if (wrap64 ((bt596.1.length : Int) - 1)) < (bt596.1.length : Int) then (s20_LinesFilled.j0 k l0 a1 bt596.1 ((rd bt596.1 (wrap64 ((bt596.1.length : Int) - 1))) != (l0.length : Int))) else (none)) else (none))) else (if (bt596.1.length : Int) = 0 then ((best_Check.f l0 a1).bind fun t600 => (if t600 = bt596.2 then ((s20_awake.f k).bind fun t601 => (some t601)) else (some false))) else (some false))))
theorem s20_LinesFilled.mono_l : ∀ k, (∀ y0 y1 y2 y3, LeO (s20_LinesFilled.j0 k y0 y1 y2 y3) (s20_LinesFilled.j0 (k + 1) y0 y1 y2 y3)) ∧ (∀ y0 y1 y2 y3 y4, LeO (s20_LinesFilled.l0 k y0 y1 y2 y3 y4) (s20_LinesFilled.l0 (k + 1) y0 y1 y2 y3 y4)) ∧ (∀ y0 y1 y2 y3 y4 y5, LeO (s20_LinesFilled.j2 k y0 y1 y2 y3 y4 y5) (s20_LinesFilled.j2 (k + 1) y0 y1 y2 y3 y4 y5)) ∧ (∀ y0 y1 y2 y3 y4 y5 y6, LeO (s20_LinesFilled.l1 k y0 y1 y2 y3 y4 y5 y6) (s20_LinesFilled.l1 (k + 1) y0 y1 y2 y3 y4 y5 y6)) ∧ (∀ y0 y1 y2 y3 y4 y5, LeO (s20_LinesFilled.j4 k y0 y1 y2 y3 y4 y5) (s20_LinesFilled.j4 (k + 1) y0 y1 y2 y3 y4 y5)) ∧ (∀ y0 y1 y2 y3 y4 y5, LeO (s20_LinesFilled.j5 k y0 y1 y2 y3 y4 y5) (s20_LinesFilled.j5 (k + 1) y0 y1 y2 y3 y4 y5)) ∧ (∀ y0 y1 y2 y3 y4 y5, LeO (s20_LinesFilled.l2 k y0 y1 y2 y3 y4 y5) (s20_LinesFilled.l2 (k + 1) y0 y1 y2 y3 y4 y5)) ∧ (∀ y0 y1 y2 y3 y4 y5 y6, LeO (s20_LinesFilled.j7 k y0 y1 y2 y3 y4 y5 y6) (s20_LinesFilled.j7 (k + 1) y0 y1 y2 y3 y4 y5 y6))
 | 0 => ⟨fun _ _ _ _ r h => by simp [s20_LinesFilled.j0] at h, fun _ _ _ _ _ r h => by simp [s20_LinesFilled.l0] at h, fun _ _ _ _ _ _ r h => by simp [s20_LinesFilled.j2] at h, fun _ _ _ _ _ _ _ r h => by simp [s20_LinesFilled.l1] at h, fun _ _ _ _ _ _ r h => by simp [s20_LinesFilled.j4] at h, fun _ _ _ _ _ _ r h => by simp [s20_LinesFilled.j5] at h, fun _ _ _ _ _ _ r h => by simp [s20_LinesFilled.l2] at h, fun _ _ _ _ _ _ _ r h => by simp [s20_LinesFilled.j7] at h⟩
 | k + 1 => by
  obtain ⟨ih0, ih1, ih2, ih3, ih4, ih5, ih6, ih7⟩ := s20_LinesFilled.mono_l k
  refine ⟨?_, ?_, ?_, ?_, ?_, ?_, ?_, ?_⟩
  ·intro y0 y1 y2 y3
   unfold s20_LinesFilled.j0
   repeat' first
   | (with_reducible exact ih0 _ _ _ _)
   | (with_reducible exact ih1 _ _ _ _ _)
   | (with_reducible exact ih2 _ _ _ _ _ _)
   | (with_reducible exact ih3 _ _ _ _ _ _ _)
   | (with_reducible exact ih4 _ _ _ _ _ _)
   | (with_reducible exact ih5 _ _ _ _ _ _)
   | (with_reducible exact ih6 _ _ _ _ _ _)
   | (with_reducible exact ih7 _ _ _ _ _ _ _)
   | (with_reducible exact lines_Fill.mono _ _ _)
   | (with_reducible exact s20_awake.mono _)
   | (with_reducible exact LeO.refl _)
   | (with_reducible exact LeO.none _)
   | (with_reducible refine LeO.ite ?_ ?_)
   | (with_reducible refine LeO.bind ?_ (fun _ => ?_))
   | exact ih0 _ _ _ _
   | exact ih1 _ _ _ _ _
   | exact ih2 _ _ _ _ _ _
   | exact ih3 _ _ _ _ _ _ _
   | exact ih4 _ _ _ _ _ _
   | exact ih5 _ _ _ _ _ _
   | exact ih6 _ _ _ _ _ _
   | exact ih7 _ _ _ _ _ _ _
   | exact lines_Fill.mono _ _ _
   | exact s20_awake.mono _
   | exact LeO.none _
   | refine LeO.ite ?_ ?_
   | refine LeO.bind ?_ (fun _ => ?_)
  ·intro y0 y1 y2 y3 y4
   unfold s20_LinesFilled.l0
   repeat' first
   | (with_reducible exact ih0 _ _ _ _)
   | (with_reducible exact ih1 _ _ _ _ _)
   | (with_reducible exact ih2 _ _ _ _ _ _)
   | (with_reducible exact ih3 _ _ _ _ _ _ _)
   | (with_reducible exact ih4 _ _ _ _ _ _)
   | (with_reducible exact ih5 _ _ _ _ _ _)
   | (with_reducible exact ih6 _ _ _ _ _ _)
   | (with_reducible exact ih7 _ _ _ _ _ _ _)
   | (with_reducible exact lines_Fill.mono _ _ _)
   | (with_reducible exact s20_awake.mono _)
   | (with_reducible exact LeO.refl _)
   | (with_reducible exact LeO.none _)
   | (with_reducible refine LeO.ite ?_ ?_)
   | (with_reducible refine LeO.bind ?_ (fun _ => ?_))
   | exact ih0 _ _ _ _
   | exact ih1 _ _ _ _ _
   | exact ih2 _ _ _ _ _ _
   | exact ih3 _ _ _ _ _ _ _
   | exact ih4 _ _ _ _ _ _
   | exact ih5 _ _ _ _ _ _
   | exact ih6 _ _ _ _ _ _
   | exact ih7 _ _ _ _ _ _ _
   | exact lines_Fill.mono _ _ _
   | exact s20_awake.mono _
   | exact LeO.none _
   | refine LeO.ite ?_ ?_
   | refine LeO.bind ?_ (fun _ => ?_)
  ·intro y0 y1 y2 y3 y4 y5
   unfold s20_LinesFilled.j2
   repeat' first
   | (with_reducible exact ih0 _ _ _ _)
   | (with_reducible exact ih1 _ _ _ _ _)
   | (with_reducible exact ih2 _ _ _ _ _ _)
   | (with_reducible exact ih3 _ _ _ _ _ _ _)
   | (with_reducible exact ih4 _ _ _ _ _ _)
   | (with_reducible exact ih5 _ _ _ _ _ _)
   | (with_reducible exact ih6 _ _ _ _ _ _)
   | (with_reducible exact ih7 _ _ _ _ _ _ _)
   | (with_reducible exact lines_Fill.mono _ _ _)
   | (with_reducible exact s20_awake.mono _)
   | (with_reducible exact LeO.refl _)
   | (with_reducible exact LeO.none _)
   | (with_reducible refine LeO.ite ?_ ?_)
   | (with_reducible refine LeO.bind ?_ (fun _ => ?_))
   | exact ih0 _ _ _ _
   | exact ih1 _ _ _ _ _
   | exact ih2 _ _ _ _ _ _
   | exact ih3 _ _ _ _ _ _ _
   | exact ih4 _ _ _ _ _ _
   | exact ih5 _ _ _ _ _ _
   | exact ih6 _ _ _ _ _ _
   | exact ih7 _ _ _ _ _ _ _
   | exact lines_Fill.mono _ _ _
   | exact s20_awake.mono _
   | exact LeO.none _
   | refine LeO.ite ?_ ?_
   | refine LeO.bind ?_ (fun _ => ?_)
  ·intro y0 y1 y2 y3 y4 y5 y6
   unfold s20_LinesFilled.l1
   repeat' first
   | (with_reducible exact ih0 _ _ _ _)
   | (with_reducible exact ih1 _ _ _ _ _)
   | (with_reducible exact ih2 _ _ _ _ _ _)
   | (with_reducible exact ih3 _ _ _ _ _ _ _)
   | (with_reducible exact ih4 _ _ _ _ _ _)
   | (with_reducible exact ih5 _ _ _ _ _ _)
   | (with_reducible exact ih6 _ _ _ _ _ _)
   | (with_reducible exact ih7 _ _ _ _ _ _ _)
   | (with_reducible exact lines_Fill.mono _ _ _)
   | (with_reducible exact s20_awake.mono _)
   | (with_reducible exact LeO.refl _)
   | (with_reducible exact LeO.none _)
   | (with_reducible refine LeO.ite ?_ ?_)
   | (with_reducible refine LeO.bind ?_ (fun _ => ?_))
   | exact ih0 _ _ _ _
   | exact ih1 _ _ _ _ _
   | exact ih2 _ _ _ _ _ _
   | exact ih3 _ _ _ _ _ _ _
   | exact ih4 _ _ _ _ _ _
   | exact ih5 _ _ _ _ _ _
   | exact ih6 _ _ _ _ _ _
   | exact ih7 _ _ _ _ _ _ _
   | exact lines_Fill.mono _ _ _
   | exact s20_awake.mono _
   | exact LeO.none _
   | refine LeO.ite ?_ ?_
   | refine LeO.bind ?_ (fun _ => ?_)
  ·intro y0 y1 y2 y3 y4 y5
   unfold s20_LinesFilled.j4
   repeat' first
   | (with_reducible exact ih0 _ _ _ _)
   | (with_reducible exact ih1 _ _ _ _ _)
   | (with_reducible exact ih2 _ _ _ _ _ _)
   | (with_reducible exact ih3 _ _ _ _ _ _ _)
   | (with_reducible exact ih4 _ _ _ _ _ _)
   | (with_reducible exact ih5 _ _ _ _ _ _)
   | (with_reducible exact ih6 _ _ _ _ _ _)
   | (with_reducible exact ih7 _ _ _ _ _ _ _)
   | (with_reducible exact lines_Fill.mono _ _ _)
   | (with_reducible exact s20_awake.mono _)
   | (with_reducible exact LeO.refl _)
   | (with_reducible exact LeO.none _)
   | (with_reducible refine LeO.ite ?_ ?_)
   | (with_reducible refine LeO.bind ?_ (fun _ => ?_))
   | exact ih0 _ _ _ _
   | exact ih1 _ _ _ _ _
   | exact ih2 _ _ _ _ _ _
   | exact ih3 _ _ _ _ _ _ _
   | exact ih4 _ _ _ _ _ _
   | exact ih5 _ _ _ _ _ _
   | exact ih6 _ _ _ _ _ _
   | exact ih7 _ _ _ _ _ _ _
   | exact lines_Fill.mono _ _ _
   | exact s20_awake.mono _
   | exact LeO.none _
   | refine LeO.ite ?_ ?_
   | refine LeO.bind ?_ (fun _ => ?_)
  ·intro y0 y1 y2 y3 y4 y5
   unfold s20_LinesFilled.j5
   repeat' first
   | (with_reducible exact ih0 _ _ _ _)
   | (with_reducible exact ih1 _ _ _ _ _)
   | (with_reducible exact ih2 _ _ _ _ _ _)
   | (with_reducible exact ih3 _ _ _ _ _ _ _)
   | (with_reducible exact ih4 _ _ _ _ _ _)
   | (with_reducible exact ih5 _ _ _ _ _ _)
   | (with_reducible exact ih6 _ _ _ _ _ _)
   | (with_reducible exact ih7 _ _ _ _ _ _ _)
   | (with_reducible exact lines_Fill.mono _ _ _)
   | (with_reducible exact s20_awake.mono _)
   | (with_reducible exact LeO.refl _)
   | (with_reducible exact LeO.none _)
   | (with_reducible refine LeO.ite ?_ ?_)
   | (with_reducible refine LeO.bind ?_ (fun _ => ?_))
   | exact ih0 _ _ _ _
   | exact ih1 _ _ _ _ _
   | exact ih2 _ _ _ _ _ _
   | exact ih3 _ _ _ _ _ _ _
   | exact ih4 _ _ _ _ _ _
   | exact ih5 _ _ _ _ _ _
   | exact ih6 _ _ _ _ _ _
   | exact ih7 _ _ _ _ _ _ _
   | exact lines_Fill.mono _ _ _
   | exact s20_awake.mono _
   | exact LeO.none _
   | refine LeO.ite ?_ ?_
   | refine LeO.bind ?_ (fun _ => ?_)
  ·intro y0 y1 y2 y3 y4 y5
   unfold s20_LinesFilled.l2
   repeat' first
   | (with_reducible exact ih0 _ _ _ _)
   | (with_reducible exact ih1 _ _ _ _ _)
   | (with_reducible exact ih2 _ _ _ _ _ _)
   | (with_reducible exact ih3 _ _ _ _ _ _ _)
   | (with_reducible exact ih4 _ _ _ _ _ _)
   | (with_reducible exact ih5 _ _ _ _ _ _)
   | (with_reducible exact ih6 _ _ _ _ _ _)
   | (with_reducible exact ih7 _ _ _ _ _ _ _)
   | (with_reducible exact lines_Fill.mono _ _ _)
   | (with_reducible exact s20_awake.mono _)
   | (with_reducible exact LeO.refl _)
   | (with_reducible exact LeO.none _)
   | (with_reducible refine LeO.ite ?_ ?_)
   | (with_reducible refine LeO.bind ?_ (fun _ => ?_))
   | exact ih0 _ _ _ _
   | exact ih1 _ _ _ _ _
   | exact ih2 _ _ _ _ _ _
   | exact ih3 _ _ _ _ _ _ _
   | exact ih4 _ _ _ _ _ _
   | exact ih5 _ _ _ _ _ _
   | exact ih6 _ _ _ _ _ _
   | exact ih7 _ _ _ _ _ _ _
   | exact lines_Fill.mono _ _ _
   | exact s20_awake.mono _
   | exact LeO.none _
   | refine LeO.ite ?_ ?_
   | refine LeO.bind ?_ (fun _ => ?_)
  ·intro y0 y1 y2 y3 y4 y5 y6
   unfold s20_LinesFilled.j7
   repeat' first
   | (with_reducible exact ih0 _ _ _ _)
   | (with_reducible exact ih1 _ _ _ _ _)
   | (with_reducible exact ih2 _ _ _ _ _ _)
   | (with_reducible exact ih3 _ _ _ _ _ _ _)
   | (with_reducible exact ih4 _ _ _ _ _ _)
   | (with_reducible exact ih5 _ _ _ _ _ _)
   | (with_reducible exact ih6 _ _ _ _ _ _)
   | (with_reducible exact ih7 _ _ _ _ _ _ _)
   | (with_reducible exact lines_Fill.mono _ _ _)
   | (with_reducible exact s20_awake.mono _)
   | (with_reducible exact LeO.refl _)
   | (with_reducible exact LeO.none _)
   | (with_reducible refine LeO.ite ?_ ?_)
   | (with_reducible refine LeO.bind ?_ (fun _ => ?_))
   | exact ih0 _ _ _ _
   | exact ih1 _ _ _ _ _
   | exact ih2 _ _ _ _ _ _
   | exact ih3 _ _ _ _ _ _ _
   | exact ih4 _ _ _ _ _ _
   | exact ih5 _ _ _ _ _ _
   | exact ih6 _ _ _ _ _ _
   | exact ih7 _ _ _ _ _ _ _
   | exact lines_Fill.mono _ _ _
   | exact s20_awake.mono _
   | exact LeO.none _
   | refine LeO.ite ?_ ?_
   | refine LeO.bind ?_ (fun _ => ?_)
theorem s20_LinesFilled.mono : ∀ a0 a1 k, LeO (s20_LinesFilled.f k a0 a1) (s20_LinesFilled.f (k + 1) a0 a1) := by
 intro a0 a1 k
 obtain ⟨ih0, ih1, ih2, ih3, ih4, ih5, ih6, ih7⟩ := s20_LinesFilled.mono_l k
 unfold s20_LinesFilled.f
 repeat' first
   | (with_reducible exact ih0 _ _ _ _)
   | (with_reducible exact ih1 _ _ _ _ _)
   | (with_reducible exact ih2 _ _ _ _ _ _)
   | (with_reducible exact ih3 _ _ _ _ _ _ _)
   | (with_reducible exact ih4 _ _ _ _ _ _)
   | (with_reducible exact ih5 _ _ _ _ _ _)
   | (with_reducible exact ih6 _ _ _ _ _ _)
   | (with_reducible exact ih7 _ _ _ _ _ _ _)
   | (with_reducible exact lines_Fill.mono _ _ _)
   | (with_reducible exact s20_awake.mono _)
   | (with_reducible exact LeO.refl _)
   | (with_reducible exact LeO.none _)
   | (with_reducible refine LeO.ite ?_ ?_)
   | (with_reducible refine LeO.bind ?_ (fun _ => ?_))
   | exact ih0 _ _ _ _
   | exact ih1 _ _ _ _ _
   | exact ih2 _ _ _ _ _ _
   | exact ih3 _ _ _ _ _ _ _
   | exact ih4 _ _ _ _ _ _
   | exact ih5 _ _ _ _ _ _
   | exact ih6 _ _ _ _ _ _
   | exact ih7 _ _ _ _ _ _ _
   | exact lines_Fill.mono _ _ _
   | exact s20_awake.mono _
   | exact LeO.none _
   | refine LeO.ite ?_ ?_
   | refine LeO.bind ?_ (fun _ => ?_)
set_option maxHeartbeats 8000000 in
set_option maxRecDepth 100000 in
theorem s20_LinesFilled.calls (k : Nat) (A0 : Option Addr) (c0 : Nat) (l0 : List (S43)) (a1 : Int) (r : Bool) (w : World) (hr0 : Kd.C k43 w A0 l0.length l0) (hc0 : l0.length ≤ c0) (h : s20_LinesFilled.f k l0 a1 = some r) :
  Calls Try.prog 9 #[.slice A0 l0.length c0, .int .i64 a1] w fun e w' => e = .returned (.bool r) ∧ Below w.heap.size w w' := by
 have HR0 := Aside0.mk hr0
 have HC0 := Aside0.mk hc0
 clear hr0 hc0
 have HB := Aside0.mk (Below.refl w.heap.size w)
 have H : (if (l0.length : Int) > 120 then ((s20_awake.f k).bind fun t595 => (some t595)) else ((lines_Fill.f k l0 a1).bind fun bt596 => (if bt596.2 = 0 then (if (bt596.1.length : Int) = 0 then (s20_LinesFilled.j0 k l0 a1 bt596.1 true) else (if 0 ≤ (wrap64 ((bt596.1.length : Int) - 1)) then (if (wrap64 ((bt596.1.length : Int) - 1)) < (bt596.1.length : Int) then (s20_LinesFilled.j0 k l0 a1 bt596.1 ((rd bt596.1 (wrap64 ((bt596.1.length : Int) - 1))) != (l0.length : Int))) else (none)) else (none))) else (if (bt596.1.length : Int) = 0 then ((best_Check.f l0 a1).bind fun t600 => (if t600 = bt596.2 then ((s20_awake.f k).bind fun t601 => (some t601)) else (some false))) else (some false))))) = some r := h
 clear h
 by_cases c3 : (l0.length : Int) > 120
 ·rw [if_pos c3] at H
  have c3b0 : decide (120 < (l0.length : Int)) = true := decide_eq_true c3
  have c3b1 : decide (120 < l0.length) = true := decide_eq_true (by omega)
  clear c3
  replace H := Option.bind_eq_some_iff.mp H
  obtain ⟨t595, A40, H⟩ := H
  replace H : (some t595) = some r := H
  have A4 := Aside0.mk A40
  clear A40
  obtain rfl := Option.some.inj H
  go_enter Try.func9, Try.ntmps9
  go_wp2_with (first | ((with_reducible refine gate_callee (f := 25) rfl ?_); refine goesL_ (some 16) rfl rfl Try.func25 (by kernel_rfl) rfl #[] rfl (by (try simp only [List.map_toArray, List.map_cons, List.map_nil]); first | done | rfl | (simp only [List.length_drop, List.length_take]; rfl)) ?_; (with_reducible refine (s20_awake.calls k  t595 _ A4.out).mono ?_); rintro e w5 ⟨rfl, hb⟩; refine ⟨_, rfl, ?_⟩; have n0_ := Aside0.mk (below_step (by repeat (first | (with_reducible first | exact HB.out | apply below_alloc | apply pw_below_drewN | apply below_drew1) | exact HB.out)) hb); clear HB; have HB := n0_; clear n0_; (try clear hb); (try clear hb2); (try clear hk); (try clear hi)))
  go_ret
  exact ⟨by first | rfl | (simp [errW_none, errW_some] <;> rfl) | (simp [*, errW_none, errW_some] <;> rfl), by repeat (first | (with_reducible first | exact HB.out | apply below_alloc | apply pw_below_drewN | apply below_drew1) | exact HB.out)⟩
 ·rw [if_neg c3] at H
  have c3b0 : decide (120 < (l0.length : Int)) = false := decide_eq_false c3
  have c3b1 : decide (120 < l0.length) = false := decide_eq_false (by omega)
  clear c3
  replace H := Option.bind_eq_some_iff.mp H
  obtain ⟨⟨t596, t597⟩, A60, H⟩ := H
  replace H : (if t597 = 0 then (if (t596.length : Int) = 0 then (s20_LinesFilled.j0 k l0 a1 t596 true) else (if 0 ≤ (wrap64 ((t596.length : Int) - 1)) then (if (wrap64 ((t596.length : Int) - 1)) < (t596.length : Int) then (s20_LinesFilled.j0 k l0 a1 t596 ((rd t596 (wrap64 ((t596.length : Int) - 1))) != (l0.length : Int))) else (none)) else (none))) else (if (t596.length : Int) = 0 then ((best_Check.f l0 a1).bind fun t600 => (if t600 = t597 then ((s20_awake.f k).bind fun t601 => (some t601)) else (some false))) else (some false))) = some r := H
  have A6 := Aside0.mk A60
  clear A60
  by_cases c7 : t597 = 0
  ·rw [if_pos c7] at H
   have c7b0 : (t597 == 0) = true := beq_iff_eq.mpr c7
   have c7b1 : (t597 != 0) = false := bne_eq_false_iff_eq.mpr c7
   clear c7
   have HC8 := Aside0.mk H
   clear H
   go_enter Try.func9, Try.ntmps9
   go_upto_region 6 with (first | ((with_reducible refine gate_callee (f := 33) rfl ?_); refine goesL_ (some 20) rfl rfl Try.func33 (by kernel_rfl) rfl #[.slice A0 l0.length c0, .int .i64 a1] rfl (by (try simp only [List.map_toArray, List.map_cons, List.map_nil]); first | done | rfl | (simp only [List.length_drop, List.length_take]; rfl)) ?_; (with_reducible refine (lines_Fill.calls k _ _ l0 a1 t596 t597 _ ?side1 ?side2 A6.out).mono ?_); (case side1 => repeat (first | exact HR0.out | (with_reducible refine Kd.C_alloc ?_ _) | (with_reducible refine Kd.C_drewN ?_ _) | (with_reducible refine Kd.C_drew ?_))); (case side2 => exact HC0.out); rintro e w9 ⟨v598, rfl, ho0, hb⟩; refine ⟨_, rfl, ?_⟩; have n0_ := Aside0.mk (Kd.R_lower ho0 (below_size (by repeat (first | (with_reducible first | exact HB.out | apply below_alloc | apply pw_below_drewN | apply below_drew1) | exact HB.out)))); have n1_ := Aside0.mk (below_step (by repeat (first | (with_reducible first | exact HB.out | apply below_alloc | apply pw_below_drewN | apply below_drew1) | exact HB.out)) hb); clear HB; have HO599 := n0_; have HB := n1_; clear n0_ n1_; (try clear hb); (try clear hb2); (try clear hk); (try clear hi); (try clear ho0)))
   (try simp only [Act.put, List.setIfInBounds_toArray, List.set_cons_zero, List.set_cons_succ])
   go_cut [51] (fun v51 wc => ∃ (kq : Nat) (x51_7 : Bool), v51 = .bool x51_7 ∧ Aside0 (s20_LinesFilled.j0 kq l0 a1 t596 x51_7 = some r) ∧ Aside0 (kq ≤ k) ∧ Aside0 (Kd.R (Kd.int .i64) 3 wc w.heap.size (fun _ => True) v598 t596) ∧ Aside0 (Below w.heap.size w wc))
   case first =>
    have H := HC8.out
    clear HC8
    by_cases c10 : (t596.length : Int) = 0
    ·rw [if_pos c10] at H
     have c10b0 : ((t596.length : Int) == 0) = true := beq_iff_eq.mpr c10
     have c10b1 : ((t596.length : Int) != 0) = false := bne_eq_false_iff_eq.mpr c10
     clear c10
     (first | rw [c10b0] | (simp only [i64_w, i32_w]; rw [c10b0]) | skip)
     have H' := Aside0.mk H
     clear H
     obtain ⟨Ao11, co11, eo11⟩ := Kd.R_slice HO599.out
     subst eo11
     go_wp2
     go_meet
     case rel => exact ⟨_, (true), (by first | rfl | (simp; done) | (simp [*]; done)), H', ⟨by first | omega | exact Nat.le_refl _⟩, ⟨by (with_reducible repeat (first | apply Kd.R_alloc | apply Kd.R_drewN | apply Kd.R_drew)); exact HO599.out⟩, ⟨by repeat (first | (with_reducible first | exact HB.out | apply below_alloc | apply pw_below_drewN | apply below_drew1) | exact HB.out)⟩⟩
    ·rw [if_neg c10] at H
     have c10b0 : ((t596.length : Int) == 0) = false := beq_eq_false_iff_ne.mpr c10
     have c10b1 : ((t596.length : Int) != 0) = true := bne_iff_ne.mpr c10
     have c10b2 : ¬ (t596 = []) := fun h_ => c10 (by rw [h_]; rfl)
     (first | rw [c10b0] | (simp only [i64_w, i32_w]; rw [c10b0]) | skip)
     obtain ⟨ji12, hji12⟩ : ∃ j_ : Int, (wrap64 ((t596.length : Int) - 1)) = j_ := ⟨_, rfl⟩
     replace H : (if 0 ≤ (ji12) then (if (ji12) < (t596.length : Int) then (s20_LinesFilled.j0 k l0 a1 t596 ((rd t596 (ji12)) != (l0.length : Int))) else (none)) else (none)) = some r := by first | (rw [hji12] at H; exact H) | (simp only [hji12] at H ⊢; exact H)
     have hji12w : (IntKind.i64.wrap ((t596.length : Int) - 1)) = ji12 := (i64_w _).trans hji12
     by_cases c13 : 0 ≤ (ji12)
     ·rw [if_pos c13] at H
      have c13b0 : decide (0 ≤ (ji12)) = true := decide_eq_true c13
      clear c13
      by_cases c14 : (ji12) < (t596.length : Int)
      ·rw [if_pos c14] at H
       have c14b0 : decide ((ji12) < (t596.length : Int)) = true := decide_eq_true c14
       clear c14
       have H' := Aside0.mk H
       clear H
       obtain ⟨Ao15, co15, eo15⟩ := Kd.R_slice HO599.out
       subst eo15
       have p602 : 0 ≤ ((ji12) : Int) := of_decide_eq_true (by first | (with_reducible assumption) | assumption)
       have q602 : (ji12) < (t596.length : Int) := of_decide_eq_true (by first | (with_reducible assumption) | assumption)
       obtain ⟨ad602, e602, hx602_0⟩ := Kd.at_int (Kd.R_reads' HO599.out).2.2 (ji12) p602 q602
       cases e602
       replace p602 := eq_true p602
       replace q602 := eq_true q602
       go_wp2
       go_meet
       case rel => exact ⟨_, (((rd t596 (ji12)) != (l0.length : Int))), (by first | rfl | (simp; done) | (simp only [← hji12] <;> (first | rfl | simp)) | (simp [*]; done)), H', ⟨by first | omega | exact Nat.le_refl _⟩, ⟨by (with_reducible repeat (first | apply Kd.R_alloc | apply Kd.R_drewN | apply Kd.R_drew)); exact HO599.out⟩, ⟨by repeat (first | (with_reducible first | exact HB.out | apply below_alloc | apply pw_below_drewN | apply below_drew1) | exact HB.out)⟩⟩
      ·rw [if_neg c14] at H
       exact absurd H (by simp)
     ·rw [if_neg c13] at H
      exact absurd H (by simp)
   case rest =>
    clear HC8
    try clear c1
    try clear c2
    try clear p2
    try clear c3
    try clear c3b0
    try clear c3b1
    try clear p6
    try clear q6
    try clear hx6
    try clear c7
    try clear c7b0
    try clear c7b1
    try clear c9
    try clear c10
    try clear c10b0
    try clear c10b1
    try clear c10b2
    try clear c13
    try clear c13b0
    try clear c14
    try clear c14b0
    try clear hx602_0
    try clear p602
    try clear q602
    obtain ⟨kq, x51_7, rfl, HA, HJ7, HO_5, HB⟩ := hcut
    cases kq with
    | zero => exact absurd HA.out (by simp [s20_LinesFilled.j0])
    | succ kj7 =>
     have H := HA.out
     clear HA
     simp only [s20_LinesFilled.j0] at H
     by_cases c16 : x51_7 = true
     ·subst c16
      have H1 : (some false) = some r := by rw [if_pos rfl] at H; exact H
      clear H
      have H := H1
      clear H1
      obtain rfl := Option.some.inj H
      go_wp2
      go_ret
      exact ⟨by first | rfl | (simp [errW_none, errW_some] <;> rfl) | (simp [*, errW_none, errW_some] <;> rfl), by repeat (first | (with_reducible first | exact HB.out | apply below_alloc | apply pw_below_drewN | apply below_drew1) | exact HB.out)⟩
     ·replace c16 := Bool.eq_false_iff.mpr c16
      subst c16
      have H1 : (s20_LinesFilled.l0 kj7 l0 a1 t596 0 0) = some r := by rw [if_neg (show ¬ (false = true) by decide)] at H; exact H
      clear H
      have H := H1
      clear H1
      have H' := Aside0.mk H
      clear H
      go_wp2
      go_loopg [7, 8] kj7 (fun kq v7 v8 w' => ∃ (x7_2 : Int) (x8_2 : Int), v7 = .int .i64 x7_2 ∧ v8 = .int .i64 x8_2 ∧ Aside0 (s20_LinesFilled.l0 kq l0 a1 t596 x7_2 x8_2 = some r) ∧ Aside0 (kq ≤ kj7) ∧ Aside0 (Kd.R (Kd.int .i64) 3 w' w.heap.size (fun _ => True) v598 t596) ∧ Aside0 (Below w.heap.size w w'))
      case atStart => exact ⟨(0), (0), (by first | rfl | (simp; done) | (simp [*]; done)), (by first | rfl | (simp; done) | (simp [*]; done)), H', ⟨Nat.le_refl _⟩, ⟨by (with_reducible repeat (first | apply Kd.R_alloc | apply Kd.R_drewN | apply Kd.R_drew)); exact HO_5.out⟩, ⟨by repeat (first | (with_reducible first | exact HB.out | apply below_alloc | apply pw_below_drewN | apply below_drew1) | exact HB.out)⟩⟩
      case round =>
       clear H'
       try clear c1
       try clear c2
       try clear p2
       try clear c3
       try clear c3b0
       try clear c3b1
       try clear p6
       try clear q6
       try clear hx6
       try clear c7
       try clear c7b0
       try clear c7b1
       try clear c9
       try clear c10
       try clear c10b0
       try clear c10b1
       try clear c10b2
       try clear c13
       try clear c13b0
       try clear c14
       try clear c14b0
       try clear c16
       try clear hx602_0
       try clear p2
       try clear p6
       try clear p602
       try clear q6
       try clear q602
       obtain ⟨x7_2, x8_2, rfl, rfl, HA, HK2, HO_5, HB⟩ := hrel
       cases gk with
       | zero => exact absurd HA.out (by simp [s20_LinesFilled.l0])
       | succ k2 =>
        have H := HA.out
        clear HA
        simp only [s20_LinesFilled.l0] at H
        by_cases c17 : x8_2 < (t596.length : Int)
        ·rw [if_pos c17] at H
         have c17b0 : decide (x8_2 < (t596.length : Int)) = true := decide_eq_true c17
         clear c17
         have HC18 := Aside0.mk H
         clear H
         obtain ⟨Ao19, co19, eo19⟩ := Kd.R_slice HO_5.out
         subst eo19
         go_upto_region 12 with (fail)
         go_cut [90] (fun v90 wc => ∃ (kq : Nat) (x90_17 : Bool), v90 = .bool x90_17 ∧ Aside0 (s20_LinesFilled.j2 kq l0 a1 t596 x7_2 x8_2 x90_17 = some r) ∧ Aside0 (kq ≤ k2) ∧ Aside0 (Kd.R (Kd.int .i64) 3 wc w.heap.size (fun _ => True) (.slice Ao19 t596.length co19) t596) ∧ Aside0 (Below w.heap.size w wc))
         case first =>
          have H := HC18.out
          clear HC18
          by_cases c20 : 0 ≤ x8_2
          ·rw [if_pos c20] at H
           have c20b0 : decide (0 ≤ x8_2) = true := decide_eq_true c20
           clear c20
           (first | rw [c20b0] | (simp only [i64_w, i32_w]; rw [c20b0]) | skip)
           by_cases c21 : (rd t596 x8_2) < x7_2
           ·rw [if_pos c21] at H
            have c21b0 : decide ((rd t596 x8_2) < x7_2) = true := decide_eq_true c21
            clear c21
            have H' := Aside0.mk H
            clear H
            have p604 : 0 ≤ (x8_2 : Int) := of_decide_eq_true (by first | (with_reducible assumption) | assumption)
            have q604 : x8_2 < (t596.length : Int) := of_decide_eq_true (by first | (with_reducible assumption) | assumption)
            obtain ⟨ad604, e604, hx604_0⟩ := Kd.at_int (Kd.R_reads' HO_5.out).2.2 x8_2 p604 q604
            cases e604
            replace p604 := eq_true p604
            replace q604 := eq_true q604
            go_wp2
            go_meet
            case rel => exact ⟨_, (true), (by first | rfl | (simp; done) | (simp [*]; done)), H', ⟨by have := HJ7.out; have := HK2.out; first | omega | exact Nat.le_refl _⟩, ⟨by (with_reducible repeat (first | apply Kd.R_alloc | apply Kd.R_drewN | apply Kd.R_drew)); exact HO_5.out⟩, ⟨by repeat (first | (with_reducible first | exact HB.out | apply below_alloc | apply pw_below_drewN | apply below_drew1) | exact HB.out)⟩⟩
           ·rw [if_neg c21] at H
            have c21b0 : decide ((rd t596 x8_2) < x7_2) = false := decide_eq_false c21
            clear c21
            by_cases c22 : (rd t596 x8_2) > (l0.length : Int)
            ·rw [if_pos c22] at H
             have c22b0 : decide ((l0.length : Int) < (rd t596 x8_2)) = true := decide_eq_true c22
             clear c22
             have H' := Aside0.mk H
             clear H
             have p604 : 0 ≤ (x8_2 : Int) := of_decide_eq_true (by first | (with_reducible assumption) | assumption)
             have q604 : x8_2 < (t596.length : Int) := of_decide_eq_true (by first | (with_reducible assumption) | assumption)
             obtain ⟨ad604, e604, hx604_0⟩ := Kd.at_int (Kd.R_reads' HO_5.out).2.2 x8_2 p604 q604
             cases e604
             replace p604 := eq_true p604
             replace q604 := eq_true q604
             have p605 : 0 ≤ (x8_2 : Int) := of_decide_eq_true (by first | (with_reducible assumption) | assumption)
             have q605 : x8_2 < (t596.length : Int) := of_decide_eq_true (by first | (with_reducible assumption) | assumption)
             obtain ⟨ad605, e605, hx605_0⟩ := Kd.at_int (Kd.R_reads' HO_5.out).2.2 x8_2 p605 q605
             obtain rfl : ad604 = ad605 := (by injection e605)
             replace p605 := eq_true p605
             replace q605 := eq_true q605
             go_wp2
             go_meet
             case rel => exact ⟨_, (true), (by first | rfl | (simp; done) | (simp [*]; done)), H', ⟨by have := HJ7.out; have := HK2.out; first | omega | exact Nat.le_refl _⟩, ⟨by (with_reducible repeat (first | apply Kd.R_alloc | apply Kd.R_drewN | apply Kd.R_drew)); exact HO_5.out⟩, ⟨by repeat (first | (with_reducible first | exact HB.out | apply below_alloc | apply pw_below_drewN | apply below_drew1) | exact HB.out)⟩⟩
            ·rw [if_neg c22] at H
             have c22b0 : decide ((l0.length : Int) < (rd t596 x8_2)) = false := decide_eq_false c22
             clear c22
             by_cases c23 : (rd t596 x8_2) < (l0.length : Int)
             ·rw [if_pos c23] at H
              have c23b0 : decide ((rd t596 x8_2) < (l0.length : Int)) = true := decide_eq_true c23
              clear c23
              replace H := Option.bind_eq_some_iff.mp H
              obtain ⟨t608, A240, H⟩ := H
              replace H : (s20_LinesFilled.j2 k2 l0 a1 t596 x7_2 x8_2 (t608 != 2)) = some r := H
              have A24 := Aside0.mk A240
              clear A240
              have H' := Aside0.mk H
              clear H
              have p604 : 0 ≤ (x8_2 : Int) := of_decide_eq_true (by first | (with_reducible assumption) | assumption)
              have q604 : x8_2 < (t596.length : Int) := of_decide_eq_true (by first | (with_reducible assumption) | assumption)
              obtain ⟨ad604, e604, hx604_0⟩ := Kd.at_int (Kd.R_reads' HO_5.out).2.2 x8_2 p604 q604
              cases e604
              replace p604 := eq_true p604
              replace q604 := eq_true q604
              have p605 : 0 ≤ (x8_2 : Int) := of_decide_eq_true (by first | (with_reducible assumption) | assumption)
              have q605 : x8_2 < (t596.length : Int) := of_decide_eq_true (by first | (with_reducible assumption) | assumption)
              obtain ⟨ad605, e605, hx605_0⟩ := Kd.at_int (Kd.R_reads' HO_5.out).2.2 x8_2 p605 q605
              obtain rfl : ad604 = ad605 := (by injection e605)
              replace p605 := eq_true p605
              replace q605 := eq_true q605
              have p606 : 0 ≤ (x8_2 : Int) := of_decide_eq_true (by first | (with_reducible assumption) | assumption)
              have q606 : x8_2 < (t596.length : Int) := of_decide_eq_true (by first | (with_reducible assumption) | assumption)
              obtain ⟨ad606, e606, hx606_0⟩ := Kd.at_int (Kd.R_reads' HO_5.out).2.2 x8_2 p606 q606
              obtain rfl : ad604 = ad606 := (by injection e606)
              replace p606 := eq_true p606
              replace q606 := eq_true q606
              have p607 : 0 ≤ (x8_2 : Int) := of_decide_eq_true (by first | (with_reducible assumption) | assumption)
              have q607 : x8_2 < (t596.length : Int) := of_decide_eq_true (by first | (with_reducible assumption) | assumption)
              obtain ⟨ad607, e607, hx607_0⟩ := Kd.at_int (Kd.R_reads' HO_5.out).2.2 x8_2 p607 q607
              obtain rfl : ad604 = ad607 := (by injection e607)
              replace p607 := eq_true p607
              replace q607 := eq_true q607
              go_wp2_with (first | (go_at_call 32; (with_reducible refine (s20_kind.calls _ _ l0 (rd t596 x8_2) t608 _ ?side1 ?side2 A24.out).mono ?_); (case side1 => repeat (first | exact (Kd.C_below HR0.out HB.out) | (with_reducible refine Kd.C_alloc ?_ _) | (with_reducible refine Kd.C_drewN ?_ _) | (with_reducible refine Kd.C_drew ?_))); (case side2 => exact HC0.out); rintro e w' ⟨rfl, ⟨nd, rfl⟩⟩))
              go_meet
              case rel => exact ⟨_, ((t608 != 2)), (by first | rfl | (simp; done) | (simp [*]; done)), H', ⟨by have := HJ7.out; have := HK2.out; first | omega | exact Nat.le_refl _⟩, ⟨by (with_reducible repeat (first | apply Kd.R_alloc | apply Kd.R_drewN | apply Kd.R_drew)); exact HO_5.out⟩, ⟨by repeat (first | (with_reducible first | exact HB.out | apply below_alloc | apply pw_below_drewN | apply below_drew1) | exact HB.out)⟩⟩
             ·rw [if_neg c23] at H
              have c23b0 : decide ((rd t596 x8_2) < (l0.length : Int)) = false := decide_eq_false c23
              clear c23
              have H' := Aside0.mk H
              clear H
              have p604 : 0 ≤ (x8_2 : Int) := of_decide_eq_true (by first | (with_reducible assumption) | assumption)
              have q604 : x8_2 < (t596.length : Int) := of_decide_eq_true (by first | (with_reducible assumption) | assumption)
              obtain ⟨ad604, e604, hx604_0⟩ := Kd.at_int (Kd.R_reads' HO_5.out).2.2 x8_2 p604 q604
              cases e604
              replace p604 := eq_true p604
              replace q604 := eq_true q604
              have p605 : 0 ≤ (x8_2 : Int) := of_decide_eq_true (by first | (with_reducible assumption) | assumption)
              have q605 : x8_2 < (t596.length : Int) := of_decide_eq_true (by first | (with_reducible assumption) | assumption)
              obtain ⟨ad605, e605, hx605_0⟩ := Kd.at_int (Kd.R_reads' HO_5.out).2.2 x8_2 p605 q605
              obtain rfl : ad604 = ad605 := (by injection e605)
              replace p605 := eq_true p605
              replace q605 := eq_true q605
              have p606 : 0 ≤ (x8_2 : Int) := of_decide_eq_true (by first | (with_reducible assumption) | assumption)
              have q606 : x8_2 < (t596.length : Int) := of_decide_eq_true (by first | (with_reducible assumption) | assumption)
              obtain ⟨ad606, e606, hx606_0⟩ := Kd.at_int (Kd.R_reads' HO_5.out).2.2 x8_2 p606 q606
              obtain rfl : ad604 = ad606 := (by injection e606)
              replace p606 := eq_true p606
              replace q606 := eq_true q606
              go_wp2
              go_meet
              case rel => exact ⟨_, (false), (by first | rfl | (simp; done) | (simp [*]; done)), H', ⟨by have := HJ7.out; have := HK2.out; first | omega | exact Nat.le_refl _⟩, ⟨by (with_reducible repeat (first | apply Kd.R_alloc | apply Kd.R_drewN | apply Kd.R_drew)); exact HO_5.out⟩, ⟨by repeat (first | (with_reducible first | exact HB.out | apply below_alloc | apply pw_below_drewN | apply below_drew1) | exact HB.out)⟩⟩
          ·rw [if_neg c20] at H
           exact absurd H (by simp)
         case rest =>
          clear HC18
          try clear c1
          try clear c2
          try clear p2
          try clear c3
          try clear c3b0
          try clear c3b1
          try clear p6
          try clear q6
          try clear hx6
          try clear c7
          try clear c7b0
          try clear c7b1
          try clear c9
          try clear c10
          try clear c10b0
          try clear c10b1
          try clear c10b2
          try clear c13
          try clear c13b0
          try clear c14
          try clear c14b0
          try clear c16
          try clear c17
          try clear c17b0
          try clear c20
          try clear c20b0
          try clear c21
          try clear c21b0
          try clear c22
          try clear c22b0
          try clear c23
          try clear c23b0
          try clear hx602_0
          try clear hx604_0
          try clear hx605_0
          try clear hx606_0
          try clear hx607_0
          try clear p2
          try clear p6
          try clear p602
          try clear p604
          try clear p605
          try clear p606
          try clear p607
          try clear q6
          try clear q602
          try clear q604
          try clear q605
          try clear q606
          try clear q607
          obtain ⟨kq, x90_17, rfl, HA, HJ17, HO_5, HB⟩ := hcut
          cases kq with
          | zero => exact absurd HA.out (by simp [s20_LinesFilled.j2])
          | succ kj17 =>
           have H := HA.out
           clear HA
           simp only [s20_LinesFilled.j2] at H
           by_cases c25 : x90_17 = true
           ·subst c25
            have H1 : (some false) = some r := by rw [if_pos rfl] at H; exact H
            clear H
            have H := H1
            clear H1
            obtain rfl := Option.some.inj H
            go_wp2
            go_ret
            exact ⟨by first | rfl | (simp [errW_none, errW_some] <;> rfl) | (simp [*, errW_none, errW_some] <;> rfl), by repeat (first | (with_reducible first | exact HB.out | apply below_alloc | apply pw_below_drewN | apply below_drew1) | exact HB.out)⟩
           ·replace c25 := Bool.eq_false_iff.mpr c25
            subst c25
            have H1 : (s20_LinesFilled.l1 kj17 l0 a1 t596 x8_2 0 0 x7_2) = some r := by rw [if_neg (show ¬ (false = true) by decide)] at H; exact H
            clear H
            have H := H1
            clear H1
            have H' := Aside0.mk H
            clear H
            go_wp2
            go_loopg [9, 10, 11] kj17 (fun kq v9 v10 v11 w' => ∃ (x9_4 : Int) (x10_4 : Int) (x11_4 : Int), v9 = .int .i64 x9_4 ∧ v10 = .int .i64 x10_4 ∧ v11 = .int .i64 x11_4 ∧ Aside0 (s20_LinesFilled.l1 kq l0 a1 t596 x8_2 x9_4 x10_4 x11_4 = some r) ∧ Aside0 (kq ≤ kj17) ∧ Aside0 (Kd.R (Kd.int .i64) 3 w' w.heap.size (fun _ => True) (.slice Ao19 t596.length co19) t596) ∧ Aside0 (Below w.heap.size w w'))
            case atStart => exact ⟨(0), (0), (x7_2), (by first | rfl | (simp; done) | (simp [*]; done)), (by first | rfl | (simp; done) | (simp [*]; done)), (by first | rfl | (simp; done) | (simp [*]; done)), H', ⟨Nat.le_refl _⟩, ⟨by (with_reducible repeat (first | apply Kd.R_alloc | apply Kd.R_drewN | apply Kd.R_drew)); exact HO_5.out⟩, ⟨by repeat (first | (with_reducible first | exact HB.out | apply below_alloc | apply pw_below_drewN | apply below_drew1) | exact HB.out)⟩⟩
            case round =>
             clear H'
             try clear c1
             try clear c2
             try clear p2
             try clear c3
             try clear c3b0
             try clear c3b1
             try clear p6
             try clear q6
             try clear hx6
             try clear c7
             try clear c7b0
             try clear c7b1
             try clear c9
             try clear c10
             try clear c10b0
             try clear c10b1
             try clear c10b2
             try clear c13
             try clear c13b0
             try clear c14
             try clear c14b0
             try clear c16
             try clear c17
             try clear c17b0
             try clear c20
             try clear c20b0
             try clear c21
             try clear c21b0
             try clear c22
             try clear c22b0
             try clear c23
             try clear c23b0
             try clear c25
             try clear hx602_0
             try clear hx604_0
             try clear hx605_0
             try clear hx606_0
             try clear hx607_0
             try clear p2
             try clear p6
             try clear p602
             try clear p604
             try clear p605
             try clear p606
             try clear p607
             try clear q6
             try clear q602
             try clear q604
             try clear q605
             try clear q606
             try clear q607
             obtain ⟨x9_4, x10_4, x11_4, rfl, rfl, rfl, HA, HK4, HO_5, HB⟩ := hrel
             cases gk with
             | zero => exact absurd HA.out (by simp [s20_LinesFilled.l1])
             | succ k4 =>
              have H := HA.out
              clear HA
              simp only [s20_LinesFilled.l1] at H
              by_cases c26 : 0 ≤ x8_2
              ·rw [if_pos c26] at H
               have c26b0 : decide (0 ≤ x8_2) = true := decide_eq_true c26
               clear c26
               by_cases c27 : x8_2 < (t596.length : Int)
               ·rw [if_pos c27] at H
                have c27b0 : decide (x8_2 < (t596.length : Int)) = true := decide_eq_true c27
                clear c27
                by_cases c28 : x11_4 < (rd t596 x8_2)
                ·rw [if_pos c28] at H
                 have c28b0 : decide (x11_4 < (rd t596 x8_2)) = true := decide_eq_true c28
                 clear c28
                 by_cases c29 : 0 ≤ x11_4
                 ·rw [if_pos c29] at H
                  have c29b0 : decide (0 ≤ x11_4) = true := decide_eq_true c29
                  clear c29
                  by_cases c30 : x11_4 < (l0.length : Int)
                  ·rw [if_pos c30] at H
                   have c30b0 : decide (x11_4 < (l0.length : Int)) = true := decide_eq_true c30
                   clear c30
                   by_cases c31 : ((rd_T43 l0 x11_4).f0) = 3
                   ·rw [if_pos c31] at H
                    have c31b0 : (((rd_T43 l0 x11_4).f0) == 3) = true := beq_iff_eq.mpr c31
                    have c31b1 : (((rd_T43 l0 x11_4).f0) != 3) = false := bne_eq_false_iff_eq.mpr c31
                    clear c31
                    by_cases c32 : ((rd_T43 l0 x11_4).f0) = 2
                    ·rw [if_pos c32] at H
                     have c32b0 : (((rd_T43 l0 x11_4).f0) == 2) = true := beq_iff_eq.mpr c32
                     have c32b1 : (((rd_T43 l0 x11_4).f0) != 2) = false := bne_eq_false_iff_eq.mpr c32
                     clear c32
                     have H' := Aside0.mk H
                     clear H
                     have p609 : 0 ≤ (x8_2 : Int) := of_decide_eq_true (by first | (with_reducible assumption) | assumption)
                     have q609 : x8_2 < (t596.length : Int) := of_decide_eq_true (by first | (with_reducible assumption) | assumption)
                     obtain ⟨ad609, e609, hx609_0⟩ := Kd.at_int (Kd.R_reads' HO_5.out).2.2 x8_2 p609 q609
                     cases e609
                     replace p609 := eq_true p609
                     replace q609 := eq_true q609
                     have p610 : 0 ≤ (x11_4 : Int) := of_decide_eq_true (by first | (with_reducible assumption) | assumption)
                     have q610 : x11_4 < (l0.length : Int) := of_decide_eq_true (by first | (with_reducible assumption) | assumption)
                     obtain ⟨ad610, e610, hx610_0, hx610_1, hx610_2, hx610_3, hx610_4⟩ := at_T43 HR0.out x11_4 p610 q610
                     cases e610
                     replace hx610_0 := (HB.out.cell (World.block_lt_of_cell? w _ hx610_0)).trans hx610_0
                     replace hx610_1 := (HB.out.cell (World.block_lt_of_cell? w _ hx610_1)).trans hx610_1
                     replace hx610_2 := (HB.out.cell (World.block_lt_of_cell? w _ hx610_2)).trans hx610_2
                     replace hx610_3 := (HB.out.cell (World.block_lt_of_cell? w _ hx610_3)).trans hx610_3
                     replace hx610_4 := (HB.out.cell (World.block_lt_of_cell? w _ hx610_4)).trans hx610_4
                     replace p610 := eq_true p610
                     replace q610 := eq_true q610
                     have p611 : 0 ≤ (x11_4 : Int) := of_decide_eq_true (by first | (with_reducible assumption) | assumption)
                     have q611 : x11_4 < (l0.length : Int) := of_decide_eq_true (by first | (with_reducible assumption) | assumption)
                     obtain ⟨ad611, e611, hx611_0, hx611_1, hx611_2, hx611_3, hx611_4⟩ := at_T43 HR0.out x11_4 p611 q611
                     obtain rfl : ad610 = ad611 := (by injection e611)
                     replace hx611_0 := (HB.out.cell (World.block_lt_of_cell? w _ hx611_0)).trans hx611_0
                     replace hx611_1 := (HB.out.cell (World.block_lt_of_cell? w _ hx611_1)).trans hx611_1
                     replace hx611_2 := (HB.out.cell (World.block_lt_of_cell? w _ hx611_2)).trans hx611_2
                     replace hx611_3 := (HB.out.cell (World.block_lt_of_cell? w _ hx611_3)).trans hx611_3
                     replace hx611_4 := (HB.out.cell (World.block_lt_of_cell? w _ hx611_4)).trans hx611_4
                     replace p611 := eq_true p611
                     replace q611 := eq_true q611
                     go_wp2
                     go_roundg k4
                     case measure => have := HJ7.out; have := HK2.out; have := HJ17.out; have := HK4.out; omega
                     case rel => exact ⟨(x9_4), (wrap64 (x10_4 + 1)), (wrap64 (x11_4 + 1)), (by first | rfl | (simp; done) | (simp [*]; done)), (by first | rfl | (simp; done) | (simp [*]; done)), (by first | rfl | (simp; done) | (simp [*]; done)), H', ⟨by have := HJ7.out; have := HK2.out; have := HJ17.out; have := HK4.out; omega⟩, ⟨by (with_reducible repeat (first | apply Kd.R_alloc | apply Kd.R_drewN | apply Kd.R_drew)); exact HO_5.out⟩, ⟨by repeat (first | (with_reducible first | exact HB.out | apply below_alloc | apply pw_below_drewN | apply below_drew1) | exact HB.out)⟩⟩
                    ·rw [if_neg c32] at H
                     have c32b0 : (((rd_T43 l0 x11_4).f0) == 2) = false := beq_eq_false_iff_ne.mpr c32
                     have c32b1 : (((rd_T43 l0 x11_4).f0) != 2) = true := bne_iff_ne.mpr c32
                     have H' := Aside0.mk H
                     clear H
                     have p609 : 0 ≤ (x8_2 : Int) := of_decide_eq_true (by first | (with_reducible assumption) | assumption)
                     have q609 : x8_2 < (t596.length : Int) := of_decide_eq_true (by first | (with_reducible assumption) | assumption)
                     obtain ⟨ad609, e609, hx609_0⟩ := Kd.at_int (Kd.R_reads' HO_5.out).2.2 x8_2 p609 q609
                     cases e609
                     replace p609 := eq_true p609
                     replace q609 := eq_true q609
                     have p610 : 0 ≤ (x11_4 : Int) := of_decide_eq_true (by first | (with_reducible assumption) | assumption)
                     have q610 : x11_4 < (l0.length : Int) := of_decide_eq_true (by first | (with_reducible assumption) | assumption)
                     obtain ⟨ad610, e610, hx610_0, hx610_1, hx610_2, hx610_3, hx610_4⟩ := at_T43 HR0.out x11_4 p610 q610
                     cases e610
                     replace hx610_0 := (HB.out.cell (World.block_lt_of_cell? w _ hx610_0)).trans hx610_0
                     replace hx610_1 := (HB.out.cell (World.block_lt_of_cell? w _ hx610_1)).trans hx610_1
                     replace hx610_2 := (HB.out.cell (World.block_lt_of_cell? w _ hx610_2)).trans hx610_2
                     replace hx610_3 := (HB.out.cell (World.block_lt_of_cell? w _ hx610_3)).trans hx610_3
                     replace hx610_4 := (HB.out.cell (World.block_lt_of_cell? w _ hx610_4)).trans hx610_4
                     replace p610 := eq_true p610
                     replace q610 := eq_true q610
                     have p611 : 0 ≤ (x11_4 : Int) := of_decide_eq_true (by first | (with_reducible assumption) | assumption)
                     have q611 : x11_4 < (l0.length : Int) := of_decide_eq_true (by first | (with_reducible assumption) | assumption)
                     obtain ⟨ad611, e611, hx611_0, hx611_1, hx611_2, hx611_3, hx611_4⟩ := at_T43 HR0.out x11_4 p611 q611
                     obtain rfl : ad610 = ad611 := (by injection e611)
                     replace hx611_0 := (HB.out.cell (World.block_lt_of_cell? w _ hx611_0)).trans hx611_0
                     replace hx611_1 := (HB.out.cell (World.block_lt_of_cell? w _ hx611_1)).trans hx611_1
                     replace hx611_2 := (HB.out.cell (World.block_lt_of_cell? w _ hx611_2)).trans hx611_2
                     replace hx611_3 := (HB.out.cell (World.block_lt_of_cell? w _ hx611_3)).trans hx611_3
                     replace hx611_4 := (HB.out.cell (World.block_lt_of_cell? w _ hx611_4)).trans hx611_4
                     replace p611 := eq_true p611
                     replace q611 := eq_true q611
                     go_wp2
                     go_roundg k4
                     case measure => have := HJ7.out; have := HK2.out; have := HJ17.out; have := HK4.out; omega
                     case rel => exact ⟨(x9_4), (x10_4), (wrap64 (x11_4 + 1)), (by first | rfl | (simp; done) | (simp [*]; done)), (by first | rfl | (simp; done) | (simp [*]; done)), (by first | rfl | (simp; done) | (simp [*]; done)), H', ⟨by have := HJ7.out; have := HK2.out; have := HJ17.out; have := HK4.out; omega⟩, ⟨by (with_reducible repeat (first | apply Kd.R_alloc | apply Kd.R_drewN | apply Kd.R_drew)); exact HO_5.out⟩, ⟨by repeat (first | (with_reducible first | exact HB.out | apply below_alloc | apply pw_below_drewN | apply below_drew1) | exact HB.out)⟩⟩
                   ·rw [if_neg c31] at H
                    have c31b0 : (((rd_T43 l0 x11_4).f0) == 3) = false := beq_eq_false_iff_ne.mpr c31
                    have c31b1 : (((rd_T43 l0 x11_4).f0) != 3) = true := bne_iff_ne.mpr c31
                    by_cases c33 : ((rd_T43 l0 x11_4).f0) = 2
                    ·rw [if_pos c33] at H
                     have c33b0 : (((rd_T43 l0 x11_4).f0) == 2) = true := beq_iff_eq.mpr c33
                     have c33b1 : (((rd_T43 l0 x11_4).f0) != 2) = false := bne_eq_false_iff_eq.mpr c33
                     clear c33
                     have H' := Aside0.mk H
                     clear H
                     have p609 : 0 ≤ (x8_2 : Int) := of_decide_eq_true (by first | (with_reducible assumption) | assumption)
                     have q609 : x8_2 < (t596.length : Int) := of_decide_eq_true (by first | (with_reducible assumption) | assumption)
                     obtain ⟨ad609, e609, hx609_0⟩ := Kd.at_int (Kd.R_reads' HO_5.out).2.2 x8_2 p609 q609
                     cases e609
                     replace p609 := eq_true p609
                     replace q609 := eq_true q609
                     have p610 : 0 ≤ (x11_4 : Int) := of_decide_eq_true (by first | (with_reducible assumption) | assumption)
                     have q610 : x11_4 < (l0.length : Int) := of_decide_eq_true (by first | (with_reducible assumption) | assumption)
                     obtain ⟨ad610, e610, hx610_0, hx610_1, hx610_2, hx610_3, hx610_4⟩ := at_T43 HR0.out x11_4 p610 q610
                     cases e610
                     replace hx610_0 := (HB.out.cell (World.block_lt_of_cell? w _ hx610_0)).trans hx610_0
                     replace hx610_1 := (HB.out.cell (World.block_lt_of_cell? w _ hx610_1)).trans hx610_1
                     replace hx610_2 := (HB.out.cell (World.block_lt_of_cell? w _ hx610_2)).trans hx610_2
                     replace hx610_3 := (HB.out.cell (World.block_lt_of_cell? w _ hx610_3)).trans hx610_3
                     replace hx610_4 := (HB.out.cell (World.block_lt_of_cell? w _ hx610_4)).trans hx610_4
                     replace p610 := eq_true p610
                     replace q610 := eq_true q610
                     have p612 : 0 ≤ (x11_4 : Int) := of_decide_eq_true (by first | (with_reducible assumption) | assumption)
                     have q612 : x11_4 < (l0.length : Int) := of_decide_eq_true (by first | (with_reducible assumption) | assumption)
                     obtain ⟨ad612, e612, hx612_0, hx612_1, hx612_2, hx612_3, hx612_4⟩ := at_T43 HR0.out x11_4 p612 q612
                     obtain rfl : ad610 = ad612 := (by injection e612)
                     replace hx612_0 := (HB.out.cell (World.block_lt_of_cell? w _ hx612_0)).trans hx612_0
                     replace hx612_1 := (HB.out.cell (World.block_lt_of_cell? w _ hx612_1)).trans hx612_1
                     replace hx612_2 := (HB.out.cell (World.block_lt_of_cell? w _ hx612_2)).trans hx612_2
                     replace hx612_3 := (HB.out.cell (World.block_lt_of_cell? w _ hx612_3)).trans hx612_3
                     replace hx612_4 := (HB.out.cell (World.block_lt_of_cell? w _ hx612_4)).trans hx612_4
                     replace p612 := eq_true p612
                     replace q612 := eq_true q612
                     have p613 : 0 ≤ (x11_4 : Int) := of_decide_eq_true (by first | (with_reducible assumption) | assumption)
                     have q613 : x11_4 < (l0.length : Int) := of_decide_eq_true (by first | (with_reducible assumption) | assumption)
                     obtain ⟨ad613, e613, hx613_0, hx613_1, hx613_2, hx613_3, hx613_4⟩ := at_T43 HR0.out x11_4 p613 q613
                     obtain rfl : ad610 = ad613 := (by injection e613)
                     replace hx613_0 := (HB.out.cell (World.block_lt_of_cell? w _ hx613_0)).trans hx613_0
                     replace hx613_1 := (HB.out.cell (World.block_lt_of_cell? w _ hx613_1)).trans hx613_1
                     replace hx613_2 := (HB.out.cell (World.block_lt_of_cell? w _ hx613_2)).trans hx613_2
                     replace hx613_3 := (HB.out.cell (World.block_lt_of_cell? w _ hx613_3)).trans hx613_3
                     replace hx613_4 := (HB.out.cell (World.block_lt_of_cell? w _ hx613_4)).trans hx613_4
                     replace p613 := eq_true p613
                     replace q613 := eq_true q613
                     go_wp2
                     go_roundg k4
                     case measure => have := HJ7.out; have := HK2.out; have := HJ17.out; have := HK4.out; omega
                     case rel => exact ⟨(wrap64 (x9_4 + ((rd_T43 l0 x11_4).f1))), (wrap64 (x10_4 + 1)), (wrap64 (x11_4 + 1)), (by first | rfl | (simp; done) | (simp [*]; done)), (by first | rfl | (simp; done) | (simp [*]; done)), (by first | rfl | (simp; done) | (simp [*]; done)), H', ⟨by have := HJ7.out; have := HK2.out; have := HJ17.out; have := HK4.out; omega⟩, ⟨by (with_reducible repeat (first | apply Kd.R_alloc | apply Kd.R_drewN | apply Kd.R_drew)); exact HO_5.out⟩, ⟨by repeat (first | (with_reducible first | exact HB.out | apply below_alloc | apply pw_below_drewN | apply below_drew1) | exact HB.out)⟩⟩
                    ·rw [if_neg c33] at H
                     have c33b0 : (((rd_T43 l0 x11_4).f0) == 2) = false := beq_eq_false_iff_ne.mpr c33
                     have c33b1 : (((rd_T43 l0 x11_4).f0) != 2) = true := bne_iff_ne.mpr c33
                     have H' := Aside0.mk H
                     clear H
                     have p609 : 0 ≤ (x8_2 : Int) := of_decide_eq_true (by first | (with_reducible assumption) | assumption)
                     have q609 : x8_2 < (t596.length : Int) := of_decide_eq_true (by first | (with_reducible assumption) | assumption)
                     obtain ⟨ad609, e609, hx609_0⟩ := Kd.at_int (Kd.R_reads' HO_5.out).2.2 x8_2 p609 q609
                     cases e609
                     replace p609 := eq_true p609
                     replace q609 := eq_true q609
                     have p610 : 0 ≤ (x11_4 : Int) := of_decide_eq_true (by first | (with_reducible assumption) | assumption)
                     have q610 : x11_4 < (l0.length : Int) := of_decide_eq_true (by first | (with_reducible assumption) | assumption)
                     obtain ⟨ad610, e610, hx610_0, hx610_1, hx610_2, hx610_3, hx610_4⟩ := at_T43 HR0.out x11_4 p610 q610
                     cases e610
                     replace hx610_0 := (HB.out.cell (World.block_lt_of_cell? w _ hx610_0)).trans hx610_0
                     replace hx610_1 := (HB.out.cell (World.block_lt_of_cell? w _ hx610_1)).trans hx610_1
                     replace hx610_2 := (HB.out.cell (World.block_lt_of_cell? w _ hx610_2)).trans hx610_2
                     replace hx610_3 := (HB.out.cell (World.block_lt_of_cell? w _ hx610_3)).trans hx610_3
                     replace hx610_4 := (HB.out.cell (World.block_lt_of_cell? w _ hx610_4)).trans hx610_4
                     replace p610 := eq_true p610
                     replace q610 := eq_true q610
                     have p612 : 0 ≤ (x11_4 : Int) := of_decide_eq_true (by first | (with_reducible assumption) | assumption)
                     have q612 : x11_4 < (l0.length : Int) := of_decide_eq_true (by first | (with_reducible assumption) | assumption)
                     obtain ⟨ad612, e612, hx612_0, hx612_1, hx612_2, hx612_3, hx612_4⟩ := at_T43 HR0.out x11_4 p612 q612
                     obtain rfl : ad610 = ad612 := (by injection e612)
                     replace hx612_0 := (HB.out.cell (World.block_lt_of_cell? w _ hx612_0)).trans hx612_0
                     replace hx612_1 := (HB.out.cell (World.block_lt_of_cell? w _ hx612_1)).trans hx612_1
                     replace hx612_2 := (HB.out.cell (World.block_lt_of_cell? w _ hx612_2)).trans hx612_2
                     replace hx612_3 := (HB.out.cell (World.block_lt_of_cell? w _ hx612_3)).trans hx612_3
                     replace hx612_4 := (HB.out.cell (World.block_lt_of_cell? w _ hx612_4)).trans hx612_4
                     replace p612 := eq_true p612
                     replace q612 := eq_true q612
                     have p613 : 0 ≤ (x11_4 : Int) := of_decide_eq_true (by first | (with_reducible assumption) | assumption)
                     have q613 : x11_4 < (l0.length : Int) := of_decide_eq_true (by first | (with_reducible assumption) | assumption)
                     obtain ⟨ad613, e613, hx613_0, hx613_1, hx613_2, hx613_3, hx613_4⟩ := at_T43 HR0.out x11_4 p613 q613
                     obtain rfl : ad610 = ad613 := (by injection e613)
                     replace hx613_0 := (HB.out.cell (World.block_lt_of_cell? w _ hx613_0)).trans hx613_0
                     replace hx613_1 := (HB.out.cell (World.block_lt_of_cell? w _ hx613_1)).trans hx613_1
                     replace hx613_2 := (HB.out.cell (World.block_lt_of_cell? w _ hx613_2)).trans hx613_2
                     replace hx613_3 := (HB.out.cell (World.block_lt_of_cell? w _ hx613_3)).trans hx613_3
                     replace hx613_4 := (HB.out.cell (World.block_lt_of_cell? w _ hx613_4)).trans hx613_4
                     replace p613 := eq_true p613
                     replace q613 := eq_true q613
                     go_wp2
                     go_roundg k4
                     case measure => have := HJ7.out; have := HK2.out; have := HJ17.out; have := HK4.out; omega
                     case rel => exact ⟨(wrap64 (x9_4 + ((rd_T43 l0 x11_4).f1))), (x10_4), (wrap64 (x11_4 + 1)), (by first | rfl | (simp; done) | (simp [*]; done)), (by first | rfl | (simp; done) | (simp [*]; done)), (by first | rfl | (simp; done) | (simp [*]; done)), H', ⟨by have := HJ7.out; have := HK2.out; have := HJ17.out; have := HK4.out; omega⟩, ⟨by (with_reducible repeat (first | apply Kd.R_alloc | apply Kd.R_drewN | apply Kd.R_drew)); exact HO_5.out⟩, ⟨by repeat (first | (with_reducible first | exact HB.out | apply below_alloc | apply pw_below_drewN | apply below_drew1) | exact HB.out)⟩⟩
                  ·rw [if_neg c30] at H
                   exact absurd H (by simp)
                 ·rw [if_neg c29] at H
                  exact absurd H (by simp)
                ·rw [if_neg c28] at H
                 have c28b0 : decide (x11_4 < (rd t596 x8_2)) = false := decide_eq_false c28
                 clear c28
                 have HC34 := Aside0.mk H
                 clear H
                 have p609 : 0 ≤ (x8_2 : Int) := of_decide_eq_true (by first | (with_reducible assumption) | assumption)
                 have q609 : x8_2 < (t596.length : Int) := of_decide_eq_true (by first | (with_reducible assumption) | assumption)
                 obtain ⟨ad609, e609, hx609_0⟩ := Kd.at_int (Kd.R_reads' HO_5.out).2.2 x8_2 p609 q609
                 cases e609
                 replace p609 := eq_true p609
                 replace q609 := eq_true q609
                 go_upto_region 22 with (fail)
                 go_cut [127] (fun v127 wc => ∃ (kq : Nat) (x127_33 : Bool), v127 = .bool x127_33 ∧ Aside0 (s20_LinesFilled.j4 kq l0 a1 t596 x8_2 x9_4 x127_33 = some r) ∧ Aside0 (kq ≤ k4) ∧ Aside0 (Kd.R (Kd.int .i64) 3 wc w.heap.size (fun _ => True) (.slice (some ad609) t596.length co19) t596) ∧ Aside0 (Below w.heap.size w wc))
                 case first =>
                  have H := HC34.out
                  clear HC34
                  by_cases c35 : x9_4 > a1
                  ·rw [if_pos c35] at H
                   have c35b0 : decide (a1 < x9_4) = true := decide_eq_true c35
                   clear c35
                   (first | rw [c35b0] | (simp only [i64_w, i32_w]; rw [c35b0]) | skip)
                   have H' := Aside0.mk H
                   clear H
                   go_wp2
                   go_meet
                   case rel => exact ⟨_, (decide (x10_4 > 0)), (by first | rfl | (simp; done) | (simp [*]; done)), H', ⟨by have := HJ7.out; have := HK2.out; have := HJ17.out; have := HK4.out; first | omega | exact Nat.le_refl _⟩, ⟨by (with_reducible repeat (first | apply Kd.R_alloc | apply Kd.R_drewN | apply Kd.R_drew)); exact HO_5.out⟩, ⟨by repeat (first | (with_reducible first | exact HB.out | apply below_alloc | apply pw_below_drewN | apply below_drew1) | exact HB.out)⟩⟩
                  ·rw [if_neg c35] at H
                   have c35b0 : decide (a1 < x9_4) = false := decide_eq_false c35
                   clear c35
                   (first | rw [c35b0] | (simp only [i64_w, i32_w]; rw [c35b0]) | skip)
                   have H' := Aside0.mk H
                   clear H
                   go_wp2
                   go_meet
                   case rel => exact ⟨_, (false), (by first | rfl | (simp; done) | (simp [*]; done)), H', ⟨by have := HJ7.out; have := HK2.out; have := HJ17.out; have := HK4.out; first | omega | exact Nat.le_refl _⟩, ⟨by (with_reducible repeat (first | apply Kd.R_alloc | apply Kd.R_drewN | apply Kd.R_drew)); exact HO_5.out⟩, ⟨by repeat (first | (with_reducible first | exact HB.out | apply below_alloc | apply pw_below_drewN | apply below_drew1) | exact HB.out)⟩⟩
                 case rest =>
                  clear HC34
                  try clear c1
                  try clear c2
                  try clear p2
                  try clear c3
                  try clear c3b0
                  try clear c3b1
                  try clear p6
                  try clear q6
                  try clear hx6
                  try clear c7
                  try clear c7b0
                  try clear c7b1
                  try clear c9
                  try clear c10
                  try clear c10b0
                  try clear c10b1
                  try clear c10b2
                  try clear c13
                  try clear c13b0
                  try clear c14
                  try clear c14b0
                  try clear c16
                  try clear c17
                  try clear c17b0
                  try clear c20
                  try clear c20b0
                  try clear c21
                  try clear c21b0
                  try clear c22
                  try clear c22b0
                  try clear c23
                  try clear c23b0
                  try clear c25
                  try clear c26
                  try clear c26b0
                  try clear c27
                  try clear c27b0
                  try clear c28
                  try clear c28b0
                  try clear c29
                  try clear c29b0
                  try clear c30
                  try clear c30b0
                  try clear c31
                  try clear c31b0
                  try clear c31b1
                  try clear c32
                  try clear c32b0
                  try clear c32b1
                  try clear c33
                  try clear c33b0
                  try clear c33b1
                  try clear c35
                  try clear c35b0
                  try clear hx602_0
                  try clear hx604_0
                  try clear hx605_0
                  try clear hx606_0
                  try clear hx607_0
                  try clear hx609_0
                  try clear hx610_0
                  try clear hx610_1
                  try clear hx610_2
                  try clear hx610_3
                  try clear hx610_4
                  try clear hx611_0
                  try clear hx611_1
                  try clear hx611_2
                  try clear hx611_3
                  try clear hx611_4
                  try clear hx612_0
                  try clear hx612_1
                  try clear hx612_2
                  try clear hx612_3
                  try clear hx612_4
                  try clear hx613_0
                  try clear hx613_1
                  try clear hx613_2
                  try clear hx613_3
                  try clear hx613_4
                  try clear p2
                  try clear p6
                  try clear p602
                  try clear p604
                  try clear p605
                  try clear p606
                  try clear p607
                  try clear p609
                  try clear p610
                  try clear p611
                  try clear p612
                  try clear p613
                  try clear q6
                  try clear q602
                  try clear q604
                  try clear q605
                  try clear q606
                  try clear q607
                  try clear q609
                  try clear q610
                  try clear q611
                  try clear q612
                  try clear q613
                  obtain ⟨kq, x127_33, rfl, HA, HJ33, HO_5, HB⟩ := hcut
                  cases kq with
                  | zero => exact absurd HA.out (by simp [s20_LinesFilled.j4])
                  | succ kj33 =>
                   have H := HA.out
                   clear HA
                   simp only [s20_LinesFilled.j4] at H
                   by_cases c36 : x127_33 = true
                   ·subst c36
                    have H1 : (some false) = some r := by rw [if_pos rfl] at H; exact H
                    clear H
                    have H := H1
                    clear H1
                    obtain rfl := Option.some.inj H
                    go_wp2
                    go_ret
                    exact ⟨by first | rfl | (simp [errW_none, errW_some] <;> rfl) | (simp [*, errW_none, errW_some] <;> rfl), by repeat (first | (with_reducible first | exact HB.out | apply below_alloc | apply pw_below_drewN | apply below_drew1) | exact HB.out)⟩
                   ·replace c36 := Bool.eq_false_iff.mpr c36
                    subst c36
                    have H1 : (if x8_2 < (wrap64 ((t596.length : Int) - 1)) then (s20_LinesFilled.j5 kj33 l0 a1 t596 x8_2 x9_4 (decide (x9_4 ≤ a1))) else (s20_LinesFilled.j5 kj33 l0 a1 t596 x8_2 x9_4 false)) = some r := by rw [if_neg (show ¬ (false = true) by decide)] at H; exact H
                    clear H
                    have H := H1
                    clear H1
                    have HC37 := Aside0.mk H
                    clear H
                    go_upto_region 24 with (fail)
                    go_cut [137] (fun v137 wc => ∃ (kq : Nat) (x137_36 : Bool), v137 = .bool x137_36 ∧ Aside0 (s20_LinesFilled.j5 kq l0 a1 t596 x8_2 x9_4 x137_36 = some r) ∧ Aside0 (kq ≤ kj33) ∧ Aside0 (Kd.R (Kd.int .i64) 3 wc w.heap.size (fun _ => True) (.slice (some ad609) t596.length co19) t596) ∧ Aside0 (Below w.heap.size w wc))
                    case first =>
                     have H := HC37.out
                     clear HC37
                     by_cases c38 : x8_2 < (wrap64 ((t596.length : Int) - 1))
                     ·rw [if_pos c38] at H
                      have c38b0 : decide (x8_2 < (wrap64 ((t596.length : Int) - 1))) = true := decide_eq_true c38
                      clear c38
                      (first | rw [c38b0] | (simp only [i64_w, i32_w]; rw [c38b0]) | skip)
                      have H' := Aside0.mk H
                      clear H
                      go_wp2
                      go_meet
                      case rel => exact ⟨_, (decide (x9_4 ≤ a1)), (by first | rfl | (simp; done) | (simp [*]; done)), H', ⟨by have := HJ7.out; have := HK2.out; have := HJ17.out; have := HK4.out; have := HJ33.out; first | omega | exact Nat.le_refl _⟩, ⟨by (with_reducible repeat (first | apply Kd.R_alloc | apply Kd.R_drewN | apply Kd.R_drew)); exact HO_5.out⟩, ⟨by repeat (first | (with_reducible first | exact HB.out | apply below_alloc | apply pw_below_drewN | apply below_drew1) | exact HB.out)⟩⟩
                     ·rw [if_neg c38] at H
                      have c38b0 : decide (x8_2 < (wrap64 ((t596.length : Int) - 1))) = false := decide_eq_false c38
                      clear c38
                      (first | rw [c38b0] | (simp only [i64_w, i32_w]; rw [c38b0]) | skip)
                      have H' := Aside0.mk H
                      clear H
                      go_wp2
                      go_meet
                      case rel => exact ⟨_, (false), (by first | rfl | (simp; done) | (simp [*]; done)), H', ⟨by have := HJ7.out; have := HK2.out; have := HJ17.out; have := HK4.out; have := HJ33.out; first | omega | exact Nat.le_refl _⟩, ⟨by (with_reducible repeat (first | apply Kd.R_alloc | apply Kd.R_drewN | apply Kd.R_drew)); exact HO_5.out⟩, ⟨by repeat (first | (with_reducible first | exact HB.out | apply below_alloc | apply pw_below_drewN | apply below_drew1) | exact HB.out)⟩⟩
                    case rest =>
                     clear HC37
                     try clear c1
                     try clear c2
                     try clear p2
                     try clear c3
                     try clear c3b0
                     try clear c3b1
                     try clear p6
                     try clear q6
                     try clear hx6
                     try clear c7
                     try clear c7b0
                     try clear c7b1
                     try clear c9
                     try clear c10
                     try clear c10b0
                     try clear c10b1
                     try clear c10b2
                     try clear c13
                     try clear c13b0
                     try clear c14
                     try clear c14b0
                     try clear c16
                     try clear c17
                     try clear c17b0
                     try clear c20
                     try clear c20b0
                     try clear c21
                     try clear c21b0
                     try clear c22
                     try clear c22b0
                     try clear c23
                     try clear c23b0
                     try clear c25
                     try clear c26
                     try clear c26b0
                     try clear c27
                     try clear c27b0
                     try clear c28
                     try clear c28b0
                     try clear c29
                     try clear c29b0
                     try clear c30
                     try clear c30b0
                     try clear c31
                     try clear c31b0
                     try clear c31b1
                     try clear c32
                     try clear c32b0
                     try clear c32b1
                     try clear c33
                     try clear c33b0
                     try clear c33b1
                     try clear c35
                     try clear c35b0
                     try clear c36
                     try clear c38
                     try clear c38b0
                     try clear hx602_0
                     try clear hx604_0
                     try clear hx605_0
                     try clear hx606_0
                     try clear hx607_0
                     try clear hx609_0
                     try clear hx610_0
                     try clear hx610_1
                     try clear hx610_2
                     try clear hx610_3
                     try clear hx610_4
                     try clear hx611_0
                     try clear hx611_1
                     try clear hx611_2
                     try clear hx611_3
                     try clear hx611_4
                     try clear hx612_0
                     try clear hx612_1
                     try clear hx612_2
                     try clear hx612_3
                     try clear hx612_4
                     try clear hx613_0
                     try clear hx613_1
                     try clear hx613_2
                     try clear hx613_3
                     try clear hx613_4
                     try clear p2
                     try clear p6
                     try clear p602
                     try clear p604
                     try clear p605
                     try clear p606
                     try clear p607
                     try clear p609
                     try clear p610
                     try clear p611
                     try clear p612
                     try clear p613
                     try clear q6
                     try clear q602
                     try clear q604
                     try clear q605
                     try clear q606
                     try clear q607
                     try clear q609
                     try clear q610
                     try clear q611
                     try clear q612
                     try clear q613
                     obtain ⟨kq, x137_36, rfl, HA, HJ36, HO_5, HB⟩ := hcut
                     cases kq with
                     | zero => exact absurd HA.out (by simp [s20_LinesFilled.j5])
                     | succ kj36 =>
                      have H := HA.out
                      clear HA
                      simp only [s20_LinesFilled.j5] at H
                      by_cases c39 : x137_36 = true
                      ·subst c39
                       have H1 : (if 0 ≤ x8_2 then (if x8_2 < (t596.length : Int) then (if 0 ≤ (rd t596 x8_2) then (if (rd t596 x8_2) < (l0.length : Int) then (s20_LinesFilled.l2 kj36 l0 a1 t596 x8_2 (wrap64 (x9_4 + ((rd_T43 l0 (rd t596 x8_2)).f1))) (wrap64 ((rd t596 x8_2) + 1))) else (none)) else (none)) else (none)) else (none)) = some r := by rw [if_pos rfl] at H; exact H
                       clear H
                       have H := H1
                       clear H1
                       by_cases c40 : 0 ≤ x8_2
                       ·rw [if_pos c40] at H
                        have c40b0 : decide (0 ≤ x8_2) = true := decide_eq_true c40
                        clear c40
                        by_cases c41 : x8_2 < (t596.length : Int)
                        ·rw [if_pos c41] at H
                         have c41b0 : decide (x8_2 < (t596.length : Int)) = true := decide_eq_true c41
                         clear c41
                         by_cases c42 : 0 ≤ (rd t596 x8_2)
                         ·rw [if_pos c42] at H
                          have c42b0 : decide (0 ≤ (rd t596 x8_2)) = true := decide_eq_true c42
                          clear c42
                          by_cases c43 : (rd t596 x8_2) < (l0.length : Int)
                          ·rw [if_pos c43] at H
                           have c43b0 : decide ((rd t596 x8_2) < (l0.length : Int)) = true := decide_eq_true c43
                           clear c43
                           have H' := Aside0.mk H
                           clear H
                           have p614 : 0 ≤ (x8_2 : Int) := of_decide_eq_true (by first | (with_reducible assumption) | assumption)
                           have q614 : x8_2 < (t596.length : Int) := of_decide_eq_true (by first | (with_reducible assumption) | assumption)
                           obtain ⟨ad614, e614, hx614_0⟩ := Kd.at_int (Kd.R_reads' HO_5.out).2.2 x8_2 p614 q614
                           obtain rfl : ad609 = ad614 := (by injection e614)
                           replace p614 := eq_true p614
                           replace q614 := eq_true q614
                           have p615 : 0 ≤ ((rd t596 x8_2) : Int) := of_decide_eq_true (by first | (with_reducible assumption) | assumption)
                           have q615 : (rd t596 x8_2) < (l0.length : Int) := of_decide_eq_true (by first | (with_reducible assumption) | assumption)
                           obtain ⟨ad615, e615, hx615_0, hx615_1, hx615_2, hx615_3, hx615_4⟩ := at_T43 HR0.out (rd t596 x8_2) p615 q615
                           cases e615
                           replace hx615_0 := (HB.out.cell (World.block_lt_of_cell? w _ hx615_0)).trans hx615_0
                           replace hx615_1 := (HB.out.cell (World.block_lt_of_cell? w _ hx615_1)).trans hx615_1
                           replace hx615_2 := (HB.out.cell (World.block_lt_of_cell? w _ hx615_2)).trans hx615_2
                           replace hx615_3 := (HB.out.cell (World.block_lt_of_cell? w _ hx615_3)).trans hx615_3
                           replace hx615_4 := (HB.out.cell (World.block_lt_of_cell? w _ hx615_4)).trans hx615_4
                           replace p615 := eq_true p615
                           replace q615 := eq_true q615
                           have p616 : 0 ≤ (x8_2 : Int) := of_decide_eq_true (by first | (with_reducible assumption) | assumption)
                           have q616 : x8_2 < (t596.length : Int) := of_decide_eq_true (by first | (with_reducible assumption) | assumption)
                           obtain ⟨ad616, e616, hx616_0⟩ := Kd.at_int (Kd.R_reads' HO_5.out).2.2 x8_2 p616 q616
                           obtain rfl : ad609 = ad616 := (by injection e616)
                           replace p616 := eq_true p616
                           replace q616 := eq_true q616
                           go_wp2
                           go_loopg [9, 12] kj36 (fun kq v9 v12 w' => ∃ (x9_7 : Int) (x12_7 : Int), v9 = .int .i64 x9_7 ∧ v12 = .int .i64 x12_7 ∧ Aside0 (s20_LinesFilled.l2 kq l0 a1 t596 x8_2 x9_7 x12_7 = some r) ∧ Aside0 (kq ≤ kj36) ∧ Aside0 (Kd.R (Kd.int .i64) 3 w' w.heap.size (fun _ => True) (.slice (some ad609) t596.length co19) t596) ∧ Aside0 (Below w.heap.size w w'))
                           case atStart => exact ⟨(wrap64 (x9_4 + ((rd_T43 l0 (rd t596 x8_2)).f1))), (wrap64 ((rd t596 x8_2) + 1)), (by first | rfl | (simp; done) | (simp [*]; done)), (by first | rfl | (simp; done) | (simp [*]; done)), H', ⟨Nat.le_refl _⟩, ⟨by (with_reducible repeat (first | apply Kd.R_alloc | apply Kd.R_drewN | apply Kd.R_drew)); exact HO_5.out⟩, ⟨by repeat (first | (with_reducible first | exact HB.out | apply below_alloc | apply pw_below_drewN | apply below_drew1) | exact HB.out)⟩⟩
                           case round =>
                            clear H'
                            try clear c1
                            try clear c2
                            try clear p2
                            try clear c3
                            try clear c3b0
                            try clear c3b1
                            try clear c4
                            try clear p6
                            try clear q6
                            try clear hx6
                            try clear c7
                            try clear c7b0
                            try clear c7b1
                            try clear c9
                            try clear c10
                            try clear c10b0
                            try clear c10b1
                            try clear c10b2
                            try clear c13
                            try clear c13b0
                            try clear c14
                            try clear c14b0
                            try clear c16
                            try clear c17
                            try clear c17b0
                            try clear c20
                            try clear c20b0
                            try clear c21
                            try clear c21b0
                            try clear c22
                            try clear c22b0
                            try clear c23
                            try clear c23b0
                            try clear c25
                            try clear c26
                            try clear c26b0
                            try clear c27
                            try clear c27b0
                            try clear c28
                            try clear c28b0
                            try clear c29
                            try clear c29b0
                            try clear c30
                            try clear c30b0
                            try clear c31
                            try clear c31b0
                            try clear c31b1
                            try clear c32
                            try clear c32b0
                            try clear c32b1
                            try clear c33
                            try clear c33b0
                            try clear c33b1
                            try clear c35
                            try clear c35b0
                            try clear c36
                            try clear c38
                            try clear c38b0
                            try clear c39
                            try clear c40
                            try clear c40b0
                            try clear c41
                            try clear c41b0
                            try clear c42
                            try clear c42b0
                            try clear c43
                            try clear c43b0
                            try clear hx602_0
                            try clear hx604_0
                            try clear hx605_0
                            try clear hx606_0
                            try clear hx607_0
                            try clear hx609_0
                            try clear hx610_0
                            try clear hx610_1
                            try clear hx610_2
                            try clear hx610_3
                            try clear hx610_4
                            try clear hx611_0
                            try clear hx611_1
                            try clear hx611_2
                            try clear hx611_3
                            try clear hx611_4
                            try clear hx612_0
                            try clear hx612_1
                            try clear hx612_2
                            try clear hx612_3
                            try clear hx612_4
                            try clear hx613_0
                            try clear hx613_1
                            try clear hx613_2
                            try clear hx613_3
                            try clear hx613_4
                            try clear hx614_0
                            try clear hx615_0
                            try clear hx615_1
                            try clear hx615_2
                            try clear hx615_3
                            try clear hx615_4
                            try clear hx616_0
                            try clear p2
                            try clear p6
                            try clear p602
                            try clear p604
                            try clear p605
                            try clear p606
                            try clear p607
                            try clear p609
                            try clear p610
                            try clear p611
                            try clear p612
                            try clear p613
                            try clear p614
                            try clear p615
                            try clear p616
                            try clear q6
                            try clear q602
                            try clear q604
                            try clear q605
                            try clear q606
                            try clear q607
                            try clear q609
                            try clear q610
                            try clear q611
                            try clear q612
                            try clear q613
                            try clear q614
                            try clear q615
                            try clear q616
                            obtain ⟨x9_7, x12_7, rfl, rfl, HA, HK7, HO_5, HB⟩ := hrel
                            cases gk with
                            | zero => exact absurd HA.out (by simp [s20_LinesFilled.l2])
                            | succ k7 =>
                             have H := HA.out
                             clear HA
                             simp only [s20_LinesFilled.l2] at H
                             have HC44 := Aside0.mk H
                             clear H
                             go_upto_region 27 with (fail)
                             go_cut [164] (fun v164 wc => ∃ (kq : Nat) (x164_43 : Bool), v164 = .bool x164_43 ∧ Aside0 (s20_LinesFilled.j7 kq l0 a1 t596 x8_2 x9_7 x12_7 x164_43 = some r) ∧ Aside0 (kq ≤ k7) ∧ Aside0 (Kd.R (Kd.int .i64) 3 wc w.heap.size (fun _ => True) (.slice (some ad609) t596.length co19) t596) ∧ Aside0 (Below w.heap.size w wc))
                             case first =>
                              have H := HC44.out
                              clear HC44
                              by_cases c45 : x12_7 < (l0.length : Int)
                              ·rw [if_pos c45] at H
                               have c45b0 : decide (x12_7 < (l0.length : Int)) = true := decide_eq_true c45
                               clear c45
                               (first | rw [c45b0] | (simp only [i64_w, i32_w]; rw [c45b0]) | skip)
                               by_cases c46 : 0 ≤ x12_7
                               ·rw [if_pos c46] at H
                                have c46b0 : decide (0 ≤ x12_7) = true := decide_eq_true c46
                                clear c46
                                have H' := Aside0.mk H
                                clear H
                                have p617 : 0 ≤ (x12_7 : Int) := of_decide_eq_true (by first | (with_reducible assumption) | assumption)
                                have q617 : x12_7 < (l0.length : Int) := of_decide_eq_true (by first | (with_reducible assumption) | assumption)
                                obtain ⟨ad617, e617, hx617_0, hx617_1, hx617_2, hx617_3, hx617_4⟩ := at_T43 HR0.out x12_7 p617 q617
                                obtain rfl : ad615 = ad617 := (by injection e617)
                                replace hx617_0 := (HB.out.cell (World.block_lt_of_cell? w _ hx617_0)).trans hx617_0
                                replace hx617_1 := (HB.out.cell (World.block_lt_of_cell? w _ hx617_1)).trans hx617_1
                                replace hx617_2 := (HB.out.cell (World.block_lt_of_cell? w _ hx617_2)).trans hx617_2
                                replace hx617_3 := (HB.out.cell (World.block_lt_of_cell? w _ hx617_3)).trans hx617_3
                                replace hx617_4 := (HB.out.cell (World.block_lt_of_cell? w _ hx617_4)).trans hx617_4
                                replace p617 := eq_true p617
                                replace q617 := eq_true q617
                                go_wp2
                                go_meet
                                case rel => exact ⟨_, ((((rd_T43 l0 x12_7).f0) != 2)), (by first | rfl | (simp; done) | (simp [*]; done)), H', ⟨by have := HJ7.out; have := HK2.out; have := HJ17.out; have := HK4.out; have := HJ33.out; have := HJ36.out; have := HK7.out; first | omega | exact Nat.le_refl _⟩, ⟨by (with_reducible repeat (first | apply Kd.R_alloc | apply Kd.R_drewN | apply Kd.R_drew)); exact HO_5.out⟩, ⟨by repeat (first | (with_reducible first | exact HB.out | apply below_alloc | apply pw_below_drewN | apply below_drew1) | exact HB.out)⟩⟩
                               ·rw [if_neg c46] at H
                                exact absurd H (by simp)
                              ·rw [if_neg c45] at H
                               have c45b0 : decide (x12_7 < (l0.length : Int)) = false := decide_eq_false c45
                               clear c45
                               (first | rw [c45b0] | (simp only [i64_w, i32_w]; rw [c45b0]) | skip)
                               have H' := Aside0.mk H
                               clear H
                               go_wp2
                               go_meet
                               case rel => exact ⟨_, (false), (by first | rfl | (simp; done) | (simp [*]; done)), H', ⟨by have := HJ7.out; have := HK2.out; have := HJ17.out; have := HK4.out; have := HJ33.out; have := HJ36.out; have := HK7.out; first | omega | exact Nat.le_refl _⟩, ⟨by (with_reducible repeat (first | apply Kd.R_alloc | apply Kd.R_drewN | apply Kd.R_drew)); exact HO_5.out⟩, ⟨by repeat (first | (with_reducible first | exact HB.out | apply below_alloc | apply pw_below_drewN | apply below_drew1) | exact HB.out)⟩⟩
                             case rest =>
                              clear HC44
                              try clear c1
                              try clear c2
                              try clear p2
                              try clear c3
                              try clear c3b0
                              try clear c3b1
                              try clear c4
                              try clear p6
                              try clear q6
                              try clear hx6
                              try clear c7
                              try clear c7b0
                              try clear c7b1
                              try clear c9
                              try clear c10
                              try clear c10b0
                              try clear c10b1
                              try clear c10b2
                              try clear c13
                              try clear c13b0
                              try clear c14
                              try clear c14b0
                              try clear c16
                              try clear c17
                              try clear c17b0
                              try clear c20
                              try clear c20b0
                              try clear c21
                              try clear c21b0
                              try clear c22
                              try clear c22b0
                              try clear c23
                              try clear c23b0
                              try clear c25
                              try clear c26
                              try clear c26b0
                              try clear c27
                              try clear c27b0
                              try clear c28
                              try clear c28b0
                              try clear c29
                              try clear c29b0
                              try clear c30
                              try clear c30b0
                              try clear c31
                              try clear c31b0
                              try clear c31b1
                              try clear c32
                              try clear c32b0
                              try clear c32b1
                              try clear c33
                              try clear c33b0
                              try clear c33b1
                              try clear c35
                              try clear c35b0
                              try clear c36
                              try clear c38
                              try clear c38b0
                              try clear c39
                              try clear c40
                              try clear c40b0
                              try clear c41
                              try clear c41b0
                              try clear c42
                              try clear c42b0
                              try clear c43
                              try clear c43b0
                              try clear c45
                              try clear c45b0
                              try clear c46
                              try clear c46b0
                              try clear hx602_0
                              try clear hx604_0
                              try clear hx605_0
                              try clear hx606_0
                              try clear hx607_0
                              try clear hx609_0
                              try clear hx610_0
                              try clear hx610_1
                              try clear hx610_2
                              try clear hx610_3
                              try clear hx610_4
                              try clear hx611_0
                              try clear hx611_1
                              try clear hx611_2
                              try clear hx611_3
                              try clear hx611_4
                              try clear hx612_0
                              try clear hx612_1
                              try clear hx612_2
                              try clear hx612_3
                              try clear hx612_4
                              try clear hx613_0
                              try clear hx613_1
                              try clear hx613_2
                              try clear hx613_3
                              try clear hx613_4
                              try clear hx614_0
                              try clear hx615_0
                              try clear hx615_1
                              try clear hx615_2
                              try clear hx615_3
                              try clear hx615_4
                              try clear hx616_0
                              try clear hx617_0
                              try clear hx617_1
                              try clear hx617_2
                              try clear hx617_3
                              try clear hx617_4
                              try clear p2
                              try clear p6
                              try clear p602
                              try clear p604
                              try clear p605
                              try clear p606
                              try clear p607
                              try clear p609
                              try clear p610
                              try clear p611
                              try clear p612
                              try clear p613
                              try clear p614
                              try clear p615
                              try clear p616
                              try clear p617
                              try clear q6
                              try clear q602
                              try clear q604
                              try clear q605
                              try clear q606
                              try clear q607
                              try clear q609
                              try clear q610
                              try clear q611
                              try clear q612
                              try clear q613
                              try clear q614
                              try clear q615
                              try clear q616
                              try clear q617
                              obtain ⟨kq, x164_43, rfl, HA, HJ43, HO_5, HB⟩ := hcut
                              cases kq with
                              | zero => exact absurd HA.out (by simp [s20_LinesFilled.j7])
                              | succ kj43 =>
                               have H := HA.out
                               clear HA
                               simp only [s20_LinesFilled.j7] at H
                               by_cases c47 : x164_43 = true
                               ·subst c47
                                have H1 : (if 0 ≤ x12_7 then (if x12_7 < (l0.length : Int) then (if ((rd_T43 l0 x12_7).f0) = 3 then (s20_LinesFilled.l2 kj43 l0 a1 t596 x8_2 x9_7 (wrap64 (x12_7 + 1))) else (s20_LinesFilled.l2 kj43 l0 a1 t596 x8_2 (wrap64 (x9_7 + ((rd_T43 l0 x12_7).f1))) (wrap64 (x12_7 + 1)))) else (none)) else (none)) = some r := by rw [if_pos rfl] at H; exact H
                                clear H
                                have H := H1
                                clear H1
                                by_cases c48 : 0 ≤ x12_7
                                ·rw [if_pos c48] at H
                                 have c48b0 : decide (0 ≤ x12_7) = true := decide_eq_true c48
                                 clear c48
                                 by_cases c49 : x12_7 < (l0.length : Int)
                                 ·rw [if_pos c49] at H
                                  have c49b0 : decide (x12_7 < (l0.length : Int)) = true := decide_eq_true c49
                                  clear c49
                                  by_cases c50 : ((rd_T43 l0 x12_7).f0) = 3
                                  ·rw [if_pos c50] at H
                                   have c50b0 : (((rd_T43 l0 x12_7).f0) == 3) = true := beq_iff_eq.mpr c50
                                   have c50b1 : (((rd_T43 l0 x12_7).f0) != 3) = false := bne_eq_false_iff_eq.mpr c50
                                   clear c50
                                   have H' := Aside0.mk H
                                   clear H
                                   have p618 : 0 ≤ (x12_7 : Int) := of_decide_eq_true (by first | (with_reducible assumption) | assumption)
                                   have q618 : x12_7 < (l0.length : Int) := of_decide_eq_true (by first | (with_reducible assumption) | assumption)
                                   obtain ⟨ad618, e618, hx618_0, hx618_1, hx618_2, hx618_3, hx618_4⟩ := at_T43 HR0.out x12_7 p618 q618
                                   obtain rfl : ad615 = ad618 := (by injection e618)
                                   replace hx618_0 := (HB.out.cell (World.block_lt_of_cell? w _ hx618_0)).trans hx618_0
                                   replace hx618_1 := (HB.out.cell (World.block_lt_of_cell? w _ hx618_1)).trans hx618_1
                                   replace hx618_2 := (HB.out.cell (World.block_lt_of_cell? w _ hx618_2)).trans hx618_2
                                   replace hx618_3 := (HB.out.cell (World.block_lt_of_cell? w _ hx618_3)).trans hx618_3
                                   replace hx618_4 := (HB.out.cell (World.block_lt_of_cell? w _ hx618_4)).trans hx618_4
                                   replace p618 := eq_true p618
                                   replace q618 := eq_true q618
                                   go_wp2
                                   go_roundg kj43
                                   case measure => have := HJ7.out; have := HK2.out; have := HJ17.out; have := HK4.out; have := HJ33.out; have := HJ36.out; have := HK7.out; have := HJ43.out; omega
                                   case rel => exact ⟨(x9_7), (wrap64 (x12_7 + 1)), (by first | rfl | (simp; done) | (simp [*]; done)), (by first | rfl | (simp; done) | (simp [*]; done)), H', ⟨by have := HJ7.out; have := HK2.out; have := HJ17.out; have := HK4.out; have := HJ33.out; have := HJ36.out; have := HK7.out; have := HJ43.out; omega⟩, ⟨by (with_reducible repeat (first | apply Kd.R_alloc | apply Kd.R_drewN | apply Kd.R_drew)); exact HO_5.out⟩, ⟨by repeat (first | (with_reducible first | exact HB.out | apply below_alloc | apply pw_below_drewN | apply below_drew1) | exact HB.out)⟩⟩
                                  ·rw [if_neg c50] at H
                                   have c50b0 : (((rd_T43 l0 x12_7).f0) == 3) = false := beq_eq_false_iff_ne.mpr c50
                                   have c50b1 : (((rd_T43 l0 x12_7).f0) != 3) = true := bne_iff_ne.mpr c50
                                   have H' := Aside0.mk H
                                   clear H
                                   have p618 : 0 ≤ (x12_7 : Int) := of_decide_eq_true (by first | (with_reducible assumption) | assumption)
                                   have q618 : x12_7 < (l0.length : Int) := of_decide_eq_true (by first | (with_reducible assumption) | assumption)
                                   obtain ⟨ad618, e618, hx618_0, hx618_1, hx618_2, hx618_3, hx618_4⟩ := at_T43 HR0.out x12_7 p618 q618
                                   obtain rfl : ad615 = ad618 := (by injection e618)
                                   replace hx618_0 := (HB.out.cell (World.block_lt_of_cell? w _ hx618_0)).trans hx618_0
                                   replace hx618_1 := (HB.out.cell (World.block_lt_of_cell? w _ hx618_1)).trans hx618_1
                                   replace hx618_2 := (HB.out.cell (World.block_lt_of_cell? w _ hx618_2)).trans hx618_2
                                   replace hx618_3 := (HB.out.cell (World.block_lt_of_cell? w _ hx618_3)).trans hx618_3
                                   replace hx618_4 := (HB.out.cell (World.block_lt_of_cell? w _ hx618_4)).trans hx618_4
                                   replace p618 := eq_true p618
                                   replace q618 := eq_true q618
                                   have p619 : 0 ≤ (x12_7 : Int) := of_decide_eq_true (by first | (with_reducible assumption) | assumption)
                                   have q619 : x12_7 < (l0.length : Int) := of_decide_eq_true (by first | (with_reducible assumption) | assumption)
                                   obtain ⟨ad619, e619, hx619_0, hx619_1, hx619_2, hx619_3, hx619_4⟩ := at_T43 HR0.out x12_7 p619 q619
                                   obtain rfl : ad615 = ad619 := (by injection e619)
                                   replace hx619_0 := (HB.out.cell (World.block_lt_of_cell? w _ hx619_0)).trans hx619_0
                                   replace hx619_1 := (HB.out.cell (World.block_lt_of_cell? w _ hx619_1)).trans hx619_1
                                   replace hx619_2 := (HB.out.cell (World.block_lt_of_cell? w _ hx619_2)).trans hx619_2
                                   replace hx619_3 := (HB.out.cell (World.block_lt_of_cell? w _ hx619_3)).trans hx619_3
                                   replace hx619_4 := (HB.out.cell (World.block_lt_of_cell? w _ hx619_4)).trans hx619_4
                                   replace p619 := eq_true p619
                                   replace q619 := eq_true q619
                                   go_wp2
                                   go_roundg kj43
                                   case measure => have := HJ7.out; have := HK2.out; have := HJ17.out; have := HK4.out; have := HJ33.out; have := HJ36.out; have := HK7.out; have := HJ43.out; omega
                                   case rel => exact ⟨(wrap64 (x9_7 + ((rd_T43 l0 x12_7).f1))), (wrap64 (x12_7 + 1)), (by first | rfl | (simp; done) | (simp [*]; done)), (by first | rfl | (simp; done) | (simp [*]; done)), H', ⟨by have := HJ7.out; have := HK2.out; have := HJ17.out; have := HK4.out; have := HJ33.out; have := HJ36.out; have := HK7.out; have := HJ43.out; omega⟩, ⟨by (with_reducible repeat (first | apply Kd.R_alloc | apply Kd.R_drewN | apply Kd.R_drew)); exact HO_5.out⟩, ⟨by repeat (first | (with_reducible first | exact HB.out | apply below_alloc | apply pw_below_drewN | apply below_drew1) | exact HB.out)⟩⟩
                                 ·rw [if_neg c49] at H
                                  exact absurd H (by simp)
                                ·rw [if_neg c48] at H
                                 exact absurd H (by simp)
                               ·replace c47 := Bool.eq_false_iff.mpr c47
                                subst c47
                                have H1 : (if x9_7 ≤ a1 then (some false) else (if 0 ≤ x8_2 then (if x8_2 < (t596.length : Int) then (s20_LinesFilled.l0 kj43 l0 a1 t596 (wrap64 ((rd t596 x8_2) + 1)) (wrap64 (x8_2 + 1))) else (none)) else (none))) = some r := by rw [if_neg (show ¬ (false = true) by decide)] at H; exact H
                                clear H
                                have H := H1
                                clear H1
                                by_cases c51 : x9_7 ≤ a1
                                ·rw [if_pos c51] at H
                                 have c51b0 : decide (x9_7 ≤ a1) = true := decide_eq_true c51
                                 clear c51
                                 obtain rfl := Option.some.inj H
                                 go_wp2
                                 go_ret
                                 exact ⟨by first | rfl | (simp [errW_none, errW_some] <;> rfl) | (simp [*, errW_none, errW_some] <;> rfl), by repeat (first | (with_reducible first | exact HB.out | apply below_alloc | apply pw_below_drewN | apply below_drew1) | exact HB.out)⟩
                                ·rw [if_neg c51] at H
                                 have c51b0 : decide (x9_7 ≤ a1) = false := decide_eq_false c51
                                 clear c51
                                 by_cases c52 : 0 ≤ x8_2
                                 ·rw [if_pos c52] at H
                                  have c52b0 : decide (0 ≤ x8_2) = true := decide_eq_true c52
                                  clear c52
                                  by_cases c53 : x8_2 < (t596.length : Int)
                                  ·rw [if_pos c53] at H
                                   have c53b0 : decide (x8_2 < (t596.length : Int)) = true := decide_eq_true c53
                                   clear c53
                                   have H' := Aside0.mk H
                                   clear H
                                   have p620 : 0 ≤ (x8_2 : Int) := of_decide_eq_true (by first | (with_reducible assumption) | assumption)
                                   have q620 : x8_2 < (t596.length : Int) := of_decide_eq_true (by first | (with_reducible assumption) | assumption)
                                   obtain ⟨ad620, e620, hx620_0⟩ := Kd.at_int (Kd.R_reads' HO_5.out).2.2 x8_2 p620 q620
                                   obtain rfl : ad609 = ad620 := (by injection e620)
                                   replace p620 := eq_true p620
                                   replace q620 := eq_true q620
                                   go_wp2
                                   go_roundg kj43
                                   case measure => have := HJ7.out; have := HK2.out; have := HJ17.out; have := HK4.out; have := HJ33.out; have := HJ36.out; have := HK7.out; have := HJ43.out; omega
                                   case rel => exact ⟨(wrap64 ((rd t596 x8_2) + 1)), (wrap64 (x8_2 + 1)), (by first | rfl | (simp; done) | (simp [*]; done)), (by first | rfl | (simp; done) | (simp [*]; done)), H', ⟨by have := HJ7.out; have := HK2.out; have := HJ17.out; have := HK4.out; have := HJ33.out; have := HJ36.out; have := HK7.out; have := HJ43.out; omega⟩, ⟨by (with_reducible repeat (first | apply Kd.R_alloc | apply Kd.R_drewN | apply Kd.R_drew)); exact HO_5.out⟩, ⟨by repeat (first | (with_reducible first | exact HB.out | apply below_alloc | apply pw_below_drewN | apply below_drew1) | exact HB.out)⟩⟩
                                  ·rw [if_neg c53] at H
                                   exact absurd H (by simp)
                                 ·rw [if_neg c52] at H
                                  exact absurd H (by simp)
                          ·rw [if_neg c43] at H
                           exact absurd H (by simp)
                         ·rw [if_neg c42] at H
                          exact absurd H (by simp)
                        ·rw [if_neg c41] at H
                         exact absurd H (by simp)
                       ·rw [if_neg c40] at H
                        exact absurd H (by simp)
                      ·replace c39 := Bool.eq_false_iff.mpr c39
                       subst c39
                       have H1 : (if 0 ≤ x8_2 then (if x8_2 < (t596.length : Int) then (s20_LinesFilled.l0 kj36 l0 a1 t596 (wrap64 ((rd t596 x8_2) + 1)) (wrap64 (x8_2 + 1))) else (none)) else (none)) = some r := by rw [if_neg (show ¬ (false = true) by decide)] at H; exact H
                       clear H
                       have H := H1
                       clear H1
                       by_cases c54 : 0 ≤ x8_2
                       ·rw [if_pos c54] at H
                        have c54b0 : decide (0 ≤ x8_2) = true := decide_eq_true c54
                        clear c54
                        by_cases c55 : x8_2 < (t596.length : Int)
                        ·rw [if_pos c55] at H
                         have c55b0 : decide (x8_2 < (t596.length : Int)) = true := decide_eq_true c55
                         clear c55
                         have H' := Aside0.mk H
                         clear H
                         have p621 : 0 ≤ (x8_2 : Int) := of_decide_eq_true (by first | (with_reducible assumption) | assumption)
                         have q621 : x8_2 < (t596.length : Int) := of_decide_eq_true (by first | (with_reducible assumption) | assumption)
                         obtain ⟨ad621, e621, hx621_0⟩ := Kd.at_int (Kd.R_reads' HO_5.out).2.2 x8_2 p621 q621
                         obtain rfl : ad609 = ad621 := (by injection e621)
                         replace p621 := eq_true p621
                         replace q621 := eq_true q621
                         go_wp2
                         go_roundg kj36
                         case measure => have := HJ7.out; have := HK2.out; have := HJ17.out; have := HK4.out; have := HJ33.out; have := HJ36.out; omega
                         case rel => exact ⟨(wrap64 ((rd t596 x8_2) + 1)), (wrap64 (x8_2 + 1)), (by first | rfl | (simp; done) | (simp [*]; done)), (by first | rfl | (simp; done) | (simp [*]; done)), H', ⟨by have := HJ7.out; have := HK2.out; have := HJ17.out; have := HK4.out; have := HJ33.out; have := HJ36.out; omega⟩, ⟨by (with_reducible repeat (first | apply Kd.R_alloc | apply Kd.R_drewN | apply Kd.R_drew)); exact HO_5.out⟩, ⟨by repeat (first | (with_reducible first | exact HB.out | apply below_alloc | apply pw_below_drewN | apply below_drew1) | exact HB.out)⟩⟩
                        ·rw [if_neg c55] at H
                         exact absurd H (by simp)
                       ·rw [if_neg c54] at H
                        exact absurd H (by simp)
               ·rw [if_neg c27] at H
                exact absurd H (by simp)
              ·rw [if_neg c26] at H
               exact absurd H (by simp)
        ·rw [if_neg c17] at H
         have c17b0 : decide (x8_2 < (t596.length : Int)) = false := decide_eq_false c17
         clear c17
         replace H := Option.bind_eq_some_iff.mp H
         obtain ⟨t603, A560, H⟩ := H
         replace H : (some t603) = some r := H
         have A56 := Aside0.mk A560
         clear A560
         obtain rfl := Option.some.inj H
         obtain ⟨Ao57, co57, eo57⟩ := Kd.R_slice HO_5.out
         subst eo57
         go_wp2_with (first | ((with_reducible refine gate_callee (f := 25) rfl ?_); refine goesL_ (some 188) rfl rfl Try.func25 (by kernel_rfl) rfl #[] rfl (by (try simp only [List.map_toArray, List.map_cons, List.map_nil]); first | done | rfl | (simp only [List.length_drop, List.length_take]; rfl)) ?_; (with_reducible refine (s20_awake.calls k2  t603 _ A56.out).mono ?_); rintro e w58 ⟨rfl, hb⟩; refine ⟨_, rfl, ?_⟩; have n0_ := Aside0.mk (Kd.R_below (by (with_reducible repeat (first | apply Kd.R_alloc | apply Kd.R_drewN | apply Kd.R_drew)); exact HO_5.out) hb); have n1_ := Aside0.mk (below_step (by repeat (first | (with_reducible first | exact HB.out | apply below_alloc | apply pw_below_drewN | apply below_drew1) | exact HB.out)) hb); clear HO_5; clear HB; have HO_5 := n0_; have HB := n1_; clear n0_ n1_; (try clear hb); (try clear hb2); (try clear hk); (try clear hi)))
         go_ret
         exact ⟨by first | rfl | (simp [errW_none, errW_some] <;> rfl) | (simp [*, errW_none, errW_some] <;> rfl), by repeat (first | (with_reducible first | exact HB.out | apply below_alloc | apply pw_below_drewN | apply below_drew1) | exact HB.out)⟩
  ·rw [if_neg c7] at H
   have c7b0 : (t597 == 0) = false := beq_eq_false_iff_ne.mpr c7
   have c7b1 : (t597 != 0) = true := bne_iff_ne.mpr c7
   by_cases c59 : (t596.length : Int) = 0
   ·rw [if_pos c59] at H
    have c59b0 : ((t596.length : Int) == 0) = true := beq_iff_eq.mpr c59
    have c59b1 : ((t596.length : Int) != 0) = false := bne_eq_false_iff_eq.mpr c59
    clear c59
    replace H := Option.bind_eq_some_iff.mp H
    obtain ⟨t600, A600, H⟩ := H
    replace H : (if t600 = t597 then ((s20_awake.f k).bind fun t601 => (some t601)) else (some false)) = some r := H
    have A60 := Aside0.mk A600
    clear A600
    by_cases c61 : t600 = t597
    ·rw [if_pos c61] at H
     have c61b0 : (t600 == t597) = true := beq_iff_eq.mpr c61
     have c61b1 : (t600 != t597) = false := bne_eq_false_iff_eq.mpr c61
     clear c61
     replace H := Option.bind_eq_some_iff.mp H
     obtain ⟨t601, A620, H⟩ := H
     replace H : (some t601) = some r := H
     have A62 := Aside0.mk A620
     clear A620
     obtain rfl := Option.some.inj H
     go_enter Try.func9, Try.ntmps9
     go_wp2_with (first | ((with_reducible refine gate_callee (f := 33) rfl ?_); refine goesL_ (some 20) rfl rfl Try.func33 (by kernel_rfl) rfl #[.slice A0 l0.length c0, .int .i64 a1] rfl (by (try simp only [List.map_toArray, List.map_cons, List.map_nil]); first | done | rfl | (simp only [List.length_drop, List.length_take]; rfl)) ?_; (with_reducible refine (lines_Fill.calls k _ _ l0 a1 t596 t597 _ ?side1 ?side2 A6.out).mono ?_); (case side1 => repeat (first | exact HR0.out | (with_reducible refine Kd.C_alloc ?_ _) | (with_reducible refine Kd.C_drewN ?_ _) | (with_reducible refine Kd.C_drew ?_))); (case side2 => exact HC0.out); rintro e w63 ⟨v598, rfl, ho0, hb⟩; refine ⟨_, rfl, ?_⟩; have n0_ := Aside0.mk (Kd.R_lower ho0 (below_size (by repeat (first | (with_reducible first | exact HB.out | apply below_alloc | apply pw_below_drewN | apply below_drew1) | exact HB.out)))); have n1_ := Aside0.mk (below_step (by repeat (first | (with_reducible first | exact HB.out | apply below_alloc | apply pw_below_drewN | apply below_drew1) | exact HB.out)) hb); clear HB; have HO599 := n0_; have HB := n1_; clear n0_ n1_; (try clear hb); (try clear hb2); (try clear hk); (try clear hi); (try clear ho0); obtain ⟨Ao64, co64, eo64⟩ := Kd.R_slice HO599.out; subst eo64) | (go_at_call 16; (with_reducible refine (best_Check.calls _ _ l0 a1 t600 _ ?side1 ?side2 A60.out).mono ?_); (case side1 => repeat (first | exact (Kd.C_below HR0.out HB.out) | (with_reducible refine Kd.C_alloc ?_ _) | (with_reducible refine Kd.C_drewN ?_ _) | (with_reducible refine Kd.C_drew ?_))); (case side2 => exact HC0.out); rintro e w65 ⟨rfl, hb⟩; have n0_ := Aside0.mk (Kd.R_below (by (with_reducible repeat (first | apply Kd.R_alloc | apply Kd.R_drewN | apply Kd.R_drew)); exact HO599.out) hb); have n1_ := Aside0.mk (below_step (by repeat (first | (with_reducible first | exact HB.out | apply below_alloc | apply pw_below_drewN | apply below_drew1) | exact HB.out)) hb); clear HO599; clear HB; have HO599 := n0_; have HB := n1_; clear n0_ n1_; (try clear hb); (try clear hb2); (try clear hk); (try clear hi)) | (go_at_call 25; (with_reducible refine (s20_awake.calls k  t601 _ A62.out).mono ?_); rintro e w66 ⟨rfl, hb⟩; have n0_ := Aside0.mk (Kd.R_below (by (with_reducible repeat (first | apply Kd.R_alloc | apply Kd.R_drewN | apply Kd.R_drew)); exact HO599.out) hb); have n1_ := Aside0.mk (below_step (by repeat (first | (with_reducible first | exact HB.out | apply below_alloc | apply pw_below_drewN | apply below_drew1) | exact HB.out)) hb); clear HO599; clear HB; have HO599 := n0_; have HB := n1_; clear n0_ n1_; (try clear hb); (try clear hb2); (try clear hk); (try clear hi)))
     go_ret
     exact ⟨by first | rfl | (simp [errW_none, errW_some] <;> rfl) | (simp [*, errW_none, errW_some] <;> rfl), by repeat (first | (with_reducible first | exact HB.out | apply below_alloc | apply pw_below_drewN | apply below_drew1) | exact HB.out)⟩
    ·rw [if_neg c61] at H
     have c61b0 : (t600 == t597) = false := beq_eq_false_iff_ne.mpr c61
     have c61b1 : (t600 != t597) = true := bne_iff_ne.mpr c61
     obtain rfl := Option.some.inj H
     go_enter Try.func9, Try.ntmps9
     go_wp2_with (first | ((with_reducible refine gate_callee (f := 33) rfl ?_); refine goesL_ (some 20) rfl rfl Try.func33 (by kernel_rfl) rfl #[.slice A0 l0.length c0, .int .i64 a1] rfl (by (try simp only [List.map_toArray, List.map_cons, List.map_nil]); first | done | rfl | (simp only [List.length_drop, List.length_take]; rfl)) ?_; (with_reducible refine (lines_Fill.calls k _ _ l0 a1 t596 t597 _ ?side1 ?side2 A6.out).mono ?_); (case side1 => repeat (first | exact HR0.out | (with_reducible refine Kd.C_alloc ?_ _) | (with_reducible refine Kd.C_drewN ?_ _) | (with_reducible refine Kd.C_drew ?_))); (case side2 => exact HC0.out); rintro e w67 ⟨v598, rfl, ho0, hb⟩; refine ⟨_, rfl, ?_⟩; have n0_ := Aside0.mk (Kd.R_lower ho0 (below_size (by repeat (first | (with_reducible first | exact HB.out | apply below_alloc | apply pw_below_drewN | apply below_drew1) | exact HB.out)))); have n1_ := Aside0.mk (below_step (by repeat (first | (with_reducible first | exact HB.out | apply below_alloc | apply pw_below_drewN | apply below_drew1) | exact HB.out)) hb); clear HB; have HO599 := n0_; have HB := n1_; clear n0_ n1_; (try clear hb); (try clear hb2); (try clear hk); (try clear hi); (try clear ho0); obtain ⟨Ao68, co68, eo68⟩ := Kd.R_slice HO599.out; subst eo68) | (go_at_call 16; (with_reducible refine (best_Check.calls _ _ l0 a1 t600 _ ?side1 ?side2 A60.out).mono ?_); (case side1 => repeat (first | exact (Kd.C_below HR0.out HB.out) | (with_reducible refine Kd.C_alloc ?_ _) | (with_reducible refine Kd.C_drewN ?_ _) | (with_reducible refine Kd.C_drew ?_))); (case side2 => exact HC0.out); rintro e w69 ⟨rfl, hb⟩; have n0_ := Aside0.mk (Kd.R_below (by (with_reducible repeat (first | apply Kd.R_alloc | apply Kd.R_drewN | apply Kd.R_drew)); exact HO599.out) hb); have n1_ := Aside0.mk (below_step (by repeat (first | (with_reducible first | exact HB.out | apply below_alloc | apply pw_below_drewN | apply below_drew1) | exact HB.out)) hb); clear HO599; clear HB; have HO599 := n0_; have HB := n1_; clear n0_ n1_; (try clear hb); (try clear hb2); (try clear hk); (try clear hi)))
     go_ret
     exact ⟨by first | rfl | (simp [errW_none, errW_some] <;> rfl) | (simp [*, errW_none, errW_some] <;> rfl), by repeat (first | (with_reducible first | exact HB.out | apply below_alloc | apply pw_below_drewN | apply below_drew1) | exact HB.out)⟩
   ·rw [if_neg c59] at H
    have c59b0 : ((t596.length : Int) == 0) = false := beq_eq_false_iff_ne.mpr c59
    have c59b1 : ((t596.length : Int) != 0) = true := bne_iff_ne.mpr c59
    have c59b2 : ¬ (t596 = []) := fun h_ => c59 (by rw [h_]; rfl)
    obtain rfl := Option.some.inj H
    go_enter Try.func9, Try.ntmps9
    go_wp2_with (first | ((with_reducible refine gate_callee (f := 33) rfl ?_); refine goesL_ (some 20) rfl rfl Try.func33 (by kernel_rfl) rfl #[.slice A0 l0.length c0, .int .i64 a1] rfl (by (try simp only [List.map_toArray, List.map_cons, List.map_nil]); first | done | rfl | (simp only [List.length_drop, List.length_take]; rfl)) ?_; (with_reducible refine (lines_Fill.calls k _ _ l0 a1 t596 t597 _ ?side1 ?side2 A6.out).mono ?_); (case side1 => repeat (first | exact HR0.out | (with_reducible refine Kd.C_alloc ?_ _) | (with_reducible refine Kd.C_drewN ?_ _) | (with_reducible refine Kd.C_drew ?_))); (case side2 => exact HC0.out); rintro e w70 ⟨v598, rfl, ho0, hb⟩; refine ⟨_, rfl, ?_⟩; have n0_ := Aside0.mk (Kd.R_lower ho0 (below_size (by repeat (first | (with_reducible first | exact HB.out | apply below_alloc | apply pw_below_drewN | apply below_drew1) | exact HB.out)))); have n1_ := Aside0.mk (below_step (by repeat (first | (with_reducible first | exact HB.out | apply below_alloc | apply pw_below_drewN | apply below_drew1) | exact HB.out)) hb); clear HB; have HO599 := n0_; have HB := n1_; clear n0_ n1_; (try clear hb); (try clear hb2); (try clear hk); (try clear hi); (try clear ho0); obtain ⟨Ao71, co71, eo71⟩ := Kd.R_slice HO599.out; subst eo71))
    go_ret
    exact ⟨by first | rfl | (simp [errW_none, errW_some] <;> rfl) | (simp [*, errW_none, errW_some] <;> rfl), by repeat (first | (with_reducible first | exact HB.out | apply below_alloc | apply pw_below_drewN | apply below_drew1) | exact HB.out)⟩
end Go.Proofs.Ytbddfnmhhmkfkaa.Pr
namespace Go.Proofs.Ytbddfnmhhmkfkaa.Pr
set_option linter.unusedVariables false
set_option linter.unusedSimpArgs false
open Go.RowKit Go.Proofs.YtbddfnmhhmkfkaaW.PrintWords Go.Proofs.YtbddfnmhhmkfkaaW.PrintLast Go.Proofs.YtbddfnmhhmkfkaaW.PrintMore
theorem kind_f (l : List S43) (o : Nat) (h : o < l.length) : s20_kind.f l o = some (rd_T43 l o).f0 := by
 unfold s20_kind.f
 rw [if_neg (by omega), if_neg (by omega), if_pos (by omega), if_pos (by omega)]
theorem rd_at {out : List Int} {i : Nat} {e : Int} {rest : List Int} (h : out.drop i = e :: rest) : i < out.length ∧ rd out i = e ∧ out.drop (i + 1) = rest := by
 have hi : i < out.length := by
  have := congrArg List.length h
  simp at this
  omega
 rw [rd_drop hi] at h
 injection h with h1 h2
 exact ⟨hi, h1, h2⟩
theorem FillB.cons {l : List S43} {w : Int} {f : Nat} {out : List Int} (h : FillB l w f out) : ∃ (o : Nat) (rest : List Int), out = (o : Int) :: rest ∧ EndS l w f o ∧ ((rest = [] ∧ o = l.length) ∨ (o < l.length ∧ FillB l w (o + 1) rest)) := by
 cases h with
 | last f h => exact ⟨l.length, [], rfl, h, .inl ⟨rfl, rfl⟩⟩
 | next f o rest h1 h2 h3 => exact ⟨o, rest, rfl, h1, .inr ⟨h2, h3⟩⟩
theorem FillB.end_ {l : List S43} {w : Int} : ∀ {f : Nat} {out : List Int}, FillB l w f out → 0 < out.length ∧ out.length + f ≤ l.length + 1 ∧ rd out ((out.length : Int) - 1) = l.length := by
 intro f out h
 induction h with
 | last f h => exact ⟨by simp, by have := h.le; simp; omega, rfl⟩
 | next f o rest h1 h2 h3 ih =>
  obtain ⟨i1, i2, i3⟩ := ih
  have := h1.le
  refine ⟨by simp, by simp; omega, ?_⟩
  rw [List.length_cons, ← i3]
  unfold rd
  rw [show ((rest.length + 1 : Nat) : Int) - 1 = ((rest.length - 1 + 1 : Nat) : Int) by omega, show (rest.length : Int) - 1 = ((rest.length - 1 : Nat) : Int) by omega, Int.toNat_natCast, Int.toNat_natCast]
  simp [List.getD_eq_getElem?_getD]
theorem filled_l2 {l : List S43} {w : Int} (ok : OkL l w) (out : List Int) (hw : True) {i f o c : Nat} {rest : List Int} (hi : out.drop i = (o : Int) :: rest) (hc : c ≤ l.length) (hcc : candB l c = true) (hno : ∀ c', o < c' → c' < c → candB l c' = false) (hf : f ≤ o) (hbig : w < nS gN l c - nS gN l f) (hsm : i ≤ 1000) (r : Bool)
  (hnext : Ev (fun k => s20_LinesFilled.l0 k l w out ((o + 1 : Nat) : Int) ((i + 1 : Nat) : Int)) r) : ∀ (d x : Nat), x + d = c → o < x → Ev (fun k => s20_LinesFilled.l2 k l w out i (nS gN l x - nS gN l f) x) r
 | 0, x, h, hx => by
  have hl := ok.len
  obtain rfl : x = c := by omega
  obtain ⟨q1, q2, q3⟩ := rd_at hi
  have goon : Ev (fun k => s20_LinesFilled.j7 k l w out i (nS gN l x - nS gN l f) x false) r := by
   refine Ev.step (fun k => ?_) hnext
   rw [s20_LinesFilled.j7.eq_2, if_neg (by simp), if_neg (by omega), if_pos (by omega), if_pos (by omega), q2, w64 (by omega) (by omega), w64 (by omega) (by omega)]
   rfl
  refine Ev.step (fun k => ?_) goon
  rw [s20_LinesFilled.l2.eq_2]
  by_cases he : x = l.length
  ·rw [if_neg (by omega)]
  ·rw [cand_glue (by omega)] at hcc
   rw [if_pos (by omega), if_pos (by omega), bne, hcc]
   rfl
 | d + 1, x, h, hx => by
  have hl := ok.len
  have hxl : x < l.length := by omega
  have hg := hno x hx (by omega)
  rw [cand_glue hxl] at hg
  have ih := filled_l2 ok out hw hi hc hcc hno hf hbig hsm r hnext d (x + 1) (by omega) (by omega)
  have bd := nat_bd ok (show f ≤ x by omega) (show x ≤ l.length by omega)
  have bd2 := nat_bd ok (show f ≤ x + 1 by omega) (show x + 1 ≤ l.length by omega)
  have hn := nS_next (l := l) gN hxl
  refine Ev.step (f := fun k => s20_LinesFilled.j7 k l w out i (nS gN l x - nS gN l f) x true) (fun k => ?_) (Ev.step (fun k => ?_) ih)
  ·rw [s20_LinesFilled.l2.eq_2, if_pos (by omega), if_pos (by omega), bne, hg]
   rfl
  ·rw [s20_LinesFilled.j7.eq_2, if_pos rfl, if_pos (by omega), if_pos (by omega), w64 (n := (x : Int) + 1) (by omega) (by omega)]
   by_cases h3 : (rd_T43 l x).f0 = 3
   ·have hgn : gN (rd_T43 l x) = 0 := if_pos h3
    rw [if_pos h3, show nS gN l (x + 1) = nS gN l x by omega]
    rfl
   ·have hgn : gN (rd_T43 l x) = (rd_T43 l x).f1 := if_neg h3
    rw [if_neg h3, ← hgn, w64 (by omega) (by omega), show nS gN l x - nS gN l f + gN (rd_T43 l x) = nS gN l (x + 1) - nS gN l f by omega]
    rfl
theorem filled_j4 {l : List S43} {w : Int} (ok : OkL l w) (out : List Int) {i f o : Nat} {rest : List Int} (hi : out.drop i = (o : Int) :: rest) (hS : EndS l w f o) (hlast : rest = [] → o = l.length) (hmid : rest ≠ [] → o < l.length) (hsm : out.length ≤ 1000) (r : Bool)
  (hnext : Ev (fun k => s20_LinesFilled.l0 k l w out ((o + 1 : Nat) : Int) ((i + 1 : Nat) : Int)) r) : Ev (fun k => s20_LinesFilled.j4 k l w out i (nS gN l o - nS gN l f) false) r := by
 have hl := ok.len
 obtain ⟨q1, q2, q3⟩ := rd_at hi
 have h1 := hS.le
 have h2 := hS.hi
 have e1 : wrap64 ((out.length : Int) - 1) = (out.length : Int) - 1 := w64 (by omega) (by omega)
 have no5 : Ev (fun k => s20_LinesFilled.j5 k l w out i (nS gN l o - nS gN l f) false) r := by
  refine Ev.step (fun k => ?_) hnext
  rw [s20_LinesFilled.j5.eq_2, if_neg (by simp), if_pos (by omega), if_pos (by omega), q2, w64 (by omega) (by omega), w64 (by omega) (by omega)]
  rfl
 by_cases hr : rest = []
 ·subst hr
  have : i + 1 = out.length := by
   have := congrArg List.length hi
   simp at this
   omega
  refine Ev.step (fun k => ?_) no5
  rw [s20_LinesFilled.j4.eq_2, if_neg (by simp), e1, if_neg (by omega)]
 ·have hol := hmid hr
  have : i + 1 < out.length := by
   have := congrArg List.length hi
   have := List.length_pos_iff.2 hr
   simp at *
   omega
  by_cases hn : nS gN l o - nS gN l f ≤ w
  ·obtain ⟨c, m1, m2, m3, m4, m5⟩ := hS.more hn hol
   have hcand := hS.cand
   rw [cand_glue hol, beq_iff_eq] at hcand
   have hnn := nS_next (l := l) gN hol
   have hgn : gN (rd_T43 l o) = (rd_T43 l o).f1 := if_neg (by omega)
   have bd := nat_bd ok (show f ≤ o by omega) (show o ≤ l.length by omega)
   have bd2 := nat_bd ok (show f ≤ o + 1 by omega) (show o + 1 ≤ l.length by omega)
   have h5 := filled_l2 ok out trivial hi m2 m3 m4 h1 m5 (by omega) r hnext (c - (o + 1)) (o + 1) (by omega) (by omega)
   refine Ev.step (f := fun k => s20_LinesFilled.j5 k l w out i (nS gN l o - nS gN l f) true) (fun k => ?_) (Ev.step (fun k => ?_) h5)
   ·rw [s20_LinesFilled.j4.eq_2, if_neg (by simp), e1, if_pos (by omega), decide_eq_true hn]
   ·rw [s20_LinesFilled.j5.eq_2, if_pos rfl, if_pos (by omega), if_pos (by omega), q2, if_pos (by omega), if_pos (by omega), w64 (n := (o : Int) + 1) (by omega) (by omega), ← hgn, w64 (by omega) (by omega),
     show nS gN l o - nS gN l f + gN (rd_T43 l o) = nS gN l (o + 1) - nS gN l f by omega]
    rfl
  ·refine Ev.step (fun k => ?_) no5
   rw [s20_LinesFilled.j4.eq_2, if_neg (by simp), e1, if_pos (by omega), decide_eq_false hn]
theorem filled_l1 {l : List S43} {w : Int} (ok : OkL l w) (out : List Int) {i f o : Nat} {rest : List Int} (hi : out.drop i = (o : Int) :: rest) (hS : EndS l w f o) (hlast : rest = [] → o = l.length) (hmid : rest ≠ [] → o < l.length) (hsm : out.length ≤ 1000) (r : Bool)
  (hnext : Ev (fun k => s20_LinesFilled.l0 k l w out ((o + 1 : Nat) : Int) ((i + 1 : Nat) : Int)) r) : ∀ (d x : Nat) (g : Int), x + d = o → f ≤ x → 0 ≤ g → g ≤ x → (0 < g → ∃ c, f ≤ c ∧ c < x ∧ candB l c = true) →
  Ev (fun k => s20_LinesFilled.l1 k l w out i (nS gN l x - nS gN l f) g x) r
 | 0, x, g, h, hx, g0, g1, hg => by
  have hl := ok.len
  obtain rfl : x = o := by omega
  obtain ⟨q1, q2, q3⟩ := rd_at hi
  refine Ev.step (fun k => ?_) (filled_j4 ok out hi hS hlast hmid hsm r hnext)
  rw [s20_LinesFilled.l1.eq_2, if_pos (by omega), if_pos (by omega), q2, if_neg (by omega)]
  by_cases hn : nS gN l x - nS gN l f > w
  ·have : ¬ g > 0 := fun hp => by
    obtain ⟨c, c1, c2, c3⟩ := hg hp
    rcases hS.fit with h1 | h1
    ·omega
    ·have := h1 c c1 c2
     rw [c3] at this
     cases this
   rw [if_pos hn, decide_eq_false this]
  ·rw [if_neg hn]
 | d + 1, x, g, h, hx, g0, g1, hg => by
  have hl := ok.len
  have h2 := hS.hi
  have hxl : x < l.length := by omega
  obtain ⟨q1, q2, q3⟩ := rd_at hi
  have bd := nat_bd ok (show f ≤ x by omega) (show x ≤ l.length by omega)
  have bd2 := nat_bd ok (show f ≤ x + 1 by omega) (show x + 1 ≤ l.length by omega)
  have hn := nS_next (l := l) gN hxl
  have ih := fun g' => filled_l1 ok out hi hS hlast hmid hsm r hnext d (x + 1) g' (by omega) (by omega)
  by_cases hk : (rd_T43 l x).f0 = 2
  ·have hgn : gN (rd_T43 l x) = (rd_T43 l x).f1 := if_neg (by omega)
   refine Ev.step (fun k => ?_) (ih (g + 1) (by omega) (by omega) (fun _ => ⟨x, hx, by omega, by rw [cand_glue hxl, hk]; rfl⟩))
   rw [s20_LinesFilled.l1.eq_2, if_pos (by omega), if_pos (by omega), q2, if_pos (by omega), if_pos (by omega), if_pos (by omega), if_neg (by omega), if_pos hk, w64 (n := (x : Int) + 1) (by omega) (by omega), w64 (n := g + 1) (by omega) (by omega), ← hgn,
    w64 (by omega) (by omega), show nS gN l x - nS gN l f + gN (rd_T43 l x) = nS gN l (x + 1) - nS gN l f by omega]
   rfl
  ·refine Ev.step (fun k => ?_) (ih g g0 (by omega) (fun hp => by obtain ⟨c, c1, c2, c3⟩ := hg hp; exact ⟨c, c1, by omega, c3⟩))
   rw [s20_LinesFilled.l1.eq_2, if_pos (by omega), if_pos (by omega), q2, if_pos (by omega), if_pos (by omega), if_pos (by omega), if_neg hk, if_neg hk, w64 (n := (x : Int) + 1) (by omega) (by omega)]
   by_cases h3 : (rd_T43 l x).f0 = 3
   ·have hgn : gN (rd_T43 l x) = 0 := if_pos h3
    rw [if_pos h3, show nS gN l (x + 1) = nS gN l x by omega]
    rfl
   ·have hgn : gN (rd_T43 l x) = (rd_T43 l x).f1 := if_neg h3
    rw [if_neg h3, ← hgn, w64 (by omega) (by omega), show nS gN l x - nS gN l f + gN (rd_T43 l x) = nS gN l (x + 1) - nS gN l f by omega]
    rfl
theorem filled_l0 {l : List S43} {w : Int} (ok : OkL l w) (out : List Int) (hsm : out.length ≤ 1000) (haw : Ev (fun k => (s20_awake.f k).bind fun t => some t) true) : ∀ (d i f : Nat), i + d = out.length → (d = 0 ∨ FillB l w f (out.drop i)) → Ev (fun k => s20_LinesFilled.l0 k l w out f i) true
 | 0, i, f, h, hB => by
  refine Ev.step (fun k => ?_) haw
  rw [s20_LinesFilled.l0.eq_2, if_neg (by omega)]
 | d + 1, i, f, h, hB => by
  have hl := ok.len
  have hB := hB.resolve_left (by omega)
  obtain ⟨o, rest, hi, hS, hcase⟩ := hB.cons
  obtain ⟨q1, q2, q3⟩ := rd_at hi
  have h1 := hS.le
  have h2 := hS.hi
  have hnext : Ev (fun k => s20_LinesFilled.l0 k l w out ((o + 1 : Nat) : Int) ((i + 1 : Nat) : Int)) true := by
   refine filled_l0 ok out hsm haw d (i + 1) (o + 1) (by omega) ?_
   rw [q3]
   rcases hcase with ⟨rfl, _⟩ | ⟨_, hR⟩
   ·have := congrArg List.length hi
    simp at this
    exact .inl (by omega)
   ·exact .inr hR
  have hl1 := filled_l1 ok out hi hS (fun e => by
   rcases hcase with ⟨_, h⟩ | ⟨_, h⟩
   ·exact h
   ·subst e; cases h) (fun e => by
   rcases hcase with ⟨h, _⟩ | ⟨h, _⟩
   ·exact absurd h e
   ·exact h) hsm true hnext (o - f) f 0 (by omega) (Nat.le_refl _) (by omega) (by omega) (fun h => by omega)
  rw [Int.sub_self] at hl1
  refine Ev.step (f := fun k => s20_LinesFilled.j2 k l w out f i false) (fun k => ?_) (Ev.step (fun k => ?_) hl1)
  ·rw [s20_LinesFilled.l0.eq_2, if_pos (by omega), if_pos (by omega), q2, if_neg (by omega), if_neg (by omega)]
   by_cases ho : o < l.length
   ·have hc := hS.cand
    rw [cand_glue ho, beq_iff_eq] at hc
    rw [if_pos (by omega), kind_f l o ho, hc]
    rfl
   ·rw [if_neg (by omega)]
  ·rw [s20_LinesFilled.j2.eq_2, if_neg (by simp)]
theorem linesFilled_pure (l : List S43) (w : Int) : Ev (fun k => s20_LinesFilled.f k l w) true := by
 by_cases hn : (l.length : Int) > 120
 ·refine Ev.congr (fun k => ?_) awake20_ev
  unfold s20_LinesFilled.f
  rw [if_pos hn]
 ·by_cases h0 : checkP l w = 0
  ·have ok := check_ok h0
   obtain ⟨out, ho, hB⟩ := fill_ev h0
   obtain ⟨e1, e2, e3⟩ := hB.end_
   have h1 := filled_l0 ok out (by omega) awake20_ev out.length 0 0 (by omega) (.inr hB)
   refine Ev.congr (g := fun k => s20_LinesFilled.f k l w) (f := fun k => (lines_Fill.f k l w).bind fun bt596 => _) (fun k => if_neg hn) (Ev.bind ho ?_)
   refine Ev.congr (f := fun k => s20_LinesFilled.j0 k l w out false) (fun k => ?_) (Ev.step (fun k => ?_) h1)
   ·refine (if_pos rfl).trans ?_
    show (if (out.length : Int) = 0 then _ else if 0 ≤ wrap64 ((out.length : Int) - 1) then if wrap64 ((out.length : Int) - 1) < (out.length : Int) then s20_LinesFilled.j0 k l w out (rd out (wrap64 ((out.length : Int) - 1)) != (l.length : Int)) else none else none) = _
    rw [if_neg (by omega), w64 (by omega) (by omega), if_pos (by omega), if_pos (by omega), e3, bne, beq_self_eq_true]
    rfl
   ·rw [s20_LinesFilled.j0.eq_2, if_neg (by simp)]
    rfl
  ·refine Ev.congr (g := fun k => s20_LinesFilled.f k l w) (f := fun k => (lines_Fill.f k l w).bind fun bt596 => _) (fun k => if_neg hn) (Ev.bind (fill_bad h0) ?_)
   refine Ev.congr (fun k => ?_) awake20_ev
   refine (if_neg h0).trans ((if_pos rfl).trans ?_)
   unfold best_Check.f
   rw [Option.bind_some]
   exact if_pos rfl
theorem linesFilled_walk (A0 : Option Addr) (c0 : Nat) (l0 : List S43) (a1 : Int) (w : World) (hr0 : Kd.C k43 w A0 l0.length l0) (hc0 : l0.length ≤ c0) (_ : l0.length * 40 ≤ 140737488351232) :
  Calls Try.prog 9 #[.slice A0 l0.length c0, .int .i64 a1] w fun e w' => e = .returned (.bool true) ∧ Below w.heap.size w w' := by
 obtain ⟨k, h⟩ := (linesFilled_pure l0 a1).rounds
 exact s20_LinesFilled.calls k A0 c0 l0 a1 true w hr0 hc0 h
end Go.Proofs.Ytbddfnmhhmkfkaa.Pr
