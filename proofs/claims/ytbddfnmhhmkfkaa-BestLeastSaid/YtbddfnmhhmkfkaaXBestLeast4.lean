/- Texts of this seat, one behind the other. -/
import Derived.Test.YtbddfnmhhmkfkaaXBestLeast1
import Derived.Test.YtbddfnmhhmkfkaaXBestLeast2
import Derived.Test.YtbddfnmhhmkfkaaXBestLeast3
/- Walks of the Go functions of this seat, and the Lean functions that they come to: written by a program (mkprint.py over the kit's print). -/
namespace Go.Proofs.Ytbddfnmhhmkfkaa.Pr
open Go.RowKit Go.Proofs.YtbddfnmhhmkfkaaW.PrintWords Go.Proofs.YtbddfnmhhmkfkaaW.PrintLast Go.Proofs.YtbddfnmhhmkfkaaW.PrintMore
attribute [local go_sem] max2_int min2_int max_two min_two max_three min_three max_four min_four   -- for this text's walks alone
set_option linter.unusedVariables false
set_option linter.unusedSimpArgs false

/-! ### styluslaw19_BestLeast: function 5 -/
mutual
def styluslaw19_BestLeast.j0 : Nat → List (S43) → Int → List Int → Bool → Option (Bool)
  | 0, _, _, _, _ => none
  | k + 1, x0, x1, x2, x29 => if x29 = true then ((styluslaw19_awake.f k).bind fun t306 => (some t306)) else ((best_Of.f x0 x1).bind fun bt307 => (if bt307.2 = 0 then ((best_Demerits.f x0 x1 bt307.1).bind fun bt313 => (if bt313.2 = 0 then (if (bt307.1.length : Int) = 0 then (styluslaw19_BestLeast.j1 k x0 x1 x2 bt307.1 bt313.1 true) else (if 0 ≤ (wrap64 ((bt307.1.length : Int) - 1)) then (if (wrap64 ((bt307.1.length : Int) - 1)) < (bt307.1.length : Int) then (styluslaw19_BestLeast.j1 k x0 x1 x2 bt307.1 bt313.1 ((rd bt307.1 (wrap64 ((bt307.1.length : Int) - 1))) != (x0.length : Int))) else (none)) else (none))) else (styluslaw19_BestLeast.j1 k x0 x1 x2 bt307.1 bt313.1 true))) else (if (bt307.1.length : Int) = 0 then ((best_Check.f x0 x1).bind fun t311 => (if t311 = bt307.2 then ((styluslaw19_awake.f k).bind fun t312 => (some t312)) else (some false))) else (some false))))
def styluslaw19_BestLeast.j1 : Nat → List (S43) → Int → List Int → List Int → Int → Bool → Option (Bool)
  | 0, _, _, _, _, _, _ => none
  | k + 1, x0, x1, x2, x7, x9, x76 => if x76 = true then (some false) else ((best_Demerits.f x0 x1 x2).bind fun bt316 => (if bt316.2 = 0 then (if bt316.1 < x9 then (styluslaw19_BestLeast.j2 k x0 x1 x7 x9 true) else ((styluslaw19_over.f bt316.1).bind fun t318 => ((styluslaw19_over.f x9).bind fun t319 => (styluslaw19_BestLeast.j2 k x0 x1 x7 x9 (decide (t318 < t319)))))) else (styluslaw19_BestLeast.j2 k x0 x1 x7 x9 false)))
def styluslaw19_BestLeast.j2 : Nat → List (S43) → Int → List Int → Int → Bool → Option (Bool)
  | 0, _, _, _, _, _ => none
  | k + 1, x0, x1, x7, x9, x97 => if x97 = true then (some false) else (styluslaw19_BestLeast.l0 k x0 x1 x7 x9 0)
def styluslaw19_BestLeast.l0 : Nat → List (S43) → Int → List Int → Int → Int → Option (Bool)
  | 0, _, _, _, _, _ => none
  | k + 1, x0, x1, x7, x9, x13 => if x13 < (wrap64 ((x7.length : Int) - 1)) then ((some (([] : List Int) : List Int)).bind fun y320 => (if 0 ≤ x13 then (if x13 ≤ (x7.length : Int) then ((some (x7.take (x13 : Int).toNat : List Int)).bind fun y323 => (if y320.length + y323.length < 17592186044416 then ((some (y320 ++ y323 : List Int)).bind fun y327 => (if 0 ≤ (wrap64 (x13 + 1)) then (if (wrap64 (x13 + 1)) ≤ (x7.length : Int) then ((some (x7.drop ((wrap64 (x13 + 1)) : Int).toNat : List Int)).bind fun y330 => (if y327.length + y330.length < 17592186044416 then ((best_Demerits.f x0 x1 (y327 ++ y330)).bind fun bt337 => (if bt337.2 = 0 then (if bt337.1 < x9 then (some false) else (styluslaw19_BestLeast.l0 k x0 x1 x7 x9 (wrap64 (x13 + 1)))) else (styluslaw19_BestLeast.l0 k x0 x1 x7 x9 (wrap64 (x13 + 1))))) else (none))) else (none)) else (none))) else (none))) else (none)) else (none))) else (styluslaw19_BestLeast.l1 k x0 x1 x7 x9 0)
def styluslaw19_BestLeast.l1 : Nat → List (S43) → Int → List Int → Int → Int → Option (Bool)
  | 0, _, _, _, _, _ => none
  | k + 1, x0, x1, x7, x9, x17 => if x17 < (x0.length : Int) then (styluslaw19_BestLeast.l2 k x0 x1 x7 x9 x17 ([] : List Int) 0) else ((styluslaw19_awake.f k).bind fun t339 => (some t339))
def styluslaw19_BestLeast.l2 : Nat → List (S43) → Int → List Int → Int → Int → List Int → Int → Option (Bool)
  | 0, _, _, _, _, _, _, _ => none
  | k + 1, x0, x1, x7, x9, x17, x18, x19 => if x19 < (x7.length : Int) then (if 0 ≤ x19 then (if (rd x7 x19) > x17 then (if x19 = 0 then (if x18.length < 17592186044416 then ((some (x18 ++ [x17] : List Int)).bind fun y341 => (if y341.length < 17592186044416 then (styluslaw19_BestLeast.l2 k x0 x1 x7 x9 x17 (y341 ++ [rd x7 x19]) (wrap64 (x19 + 1))) else (none))) else (none)) else (if 0 ≤ (wrap64 (x19 - 1)) then (if (wrap64 (x19 - 1)) < (x7.length : Int) then (if (rd x7 (wrap64 (x19 - 1))) < x17 then (if x18.length < 17592186044416 then ((some (x18 ++ [x17] : List Int)).bind fun y349 => (if y349.length < 17592186044416 then (styluslaw19_BestLeast.l2 k x0 x1 x7 x9 x17 (y349 ++ [rd x7 x19]) (wrap64 (x19 + 1))) else (none))) else (none)) else (if x18.length < 17592186044416 then (styluslaw19_BestLeast.l2 k x0 x1 x7 x9 x17 (x18 ++ [rd x7 x19]) (wrap64 (x19 + 1))) else (none))) else (none)) else (none))) else (if x18.length < 17592186044416 then (styluslaw19_BestLeast.l2 k x0 x1 x7 x9 x17 (x18 ++ [rd x7 x19]) (wrap64 (x19 + 1))) else (none))) else (none)) else ((best_Demerits.f x0 x1 x18).bind fun bt364 => (if bt364.2 = 0 then (if bt364.1 < x9 then (some false) else (styluslaw19_BestLeast.l1 k x0 x1 x7 x9 (wrap64 (x17 + 1)))) else (styluslaw19_BestLeast.l1 k x0 x1 x7 x9 (wrap64 (x17 + 1)))))
end
def styluslaw19_BestLeast.f (k : Nat) (l0 : List (S43)) (a1 : Int) (l2 : List Int) : Option (Bool) := if (l0.length : Int) > 300 then (styluslaw19_BestLeast.j0 k l0 a1 l2 true) else (styluslaw19_BestLeast.j0 k l0 a1 l2 (decide ((l2.length : Int) > 300)))
theorem styluslaw19_BestLeast.mono_l : ∀ k, (∀ y0 y1 y2 y3, LeO (styluslaw19_BestLeast.j0 k y0 y1 y2 y3) (styluslaw19_BestLeast.j0 (k + 1) y0 y1 y2 y3)) ∧ (∀ y0 y1 y2 y3 y4 y5, LeO (styluslaw19_BestLeast.j1 k y0 y1 y2 y3 y4 y5) (styluslaw19_BestLeast.j1 (k + 1) y0 y1 y2 y3 y4 y5)) ∧ (∀ y0 y1 y2 y3 y4, LeO (styluslaw19_BestLeast.j2 k y0 y1 y2 y3 y4) (styluslaw19_BestLeast.j2 (k + 1) y0 y1 y2 y3 y4)) ∧ (∀ y0 y1 y2 y3 y4, LeO (styluslaw19_BestLeast.l0 k y0 y1 y2 y3 y4) (styluslaw19_BestLeast.l0 (k + 1) y0 y1 y2 y3 y4)) ∧ (∀ y0 y1 y2 y3 y4, LeO (styluslaw19_BestLeast.l1 k y0 y1 y2 y3 y4) (styluslaw19_BestLeast.l1 (k + 1) y0 y1 y2 y3 y4)) ∧ (∀ y0 y1 y2 y3 y4 y5 y6, LeO (styluslaw19_BestLeast.l2 k y0 y1 y2 y3 y4 y5 y6) (styluslaw19_BestLeast.l2 (k + 1) y0 y1 y2 y3 y4 y5 y6))
  | 0 => ⟨fun _ _ _ _ r h => by simp [styluslaw19_BestLeast.j0] at h, fun _ _ _ _ _ _ r h => by simp [styluslaw19_BestLeast.j1] at h, fun _ _ _ _ _ r h => by simp [styluslaw19_BestLeast.j2] at h, fun _ _ _ _ _ r h => by simp [styluslaw19_BestLeast.l0] at h, fun _ _ _ _ _ r h => by simp [styluslaw19_BestLeast.l1] at h, fun _ _ _ _ _ _ _ r h => by simp [styluslaw19_BestLeast.l2] at h⟩
  | k + 1 => by
    obtain ⟨ih0, ih1, ih2, ih3, ih4, ih5⟩ := styluslaw19_BestLeast.mono_l k
    refine ⟨?_, ?_, ?_, ?_, ?_, ?_⟩
    · intro y0 y1 y2 y3
      unfold styluslaw19_BestLeast.j0
      repeat' first
      | (with_reducible exact ih0 _ _ _ _)
      | (with_reducible exact ih1 _ _ _ _ _ _)
      | (with_reducible exact ih2 _ _ _ _ _)
      | (with_reducible exact ih3 _ _ _ _ _)
      | (with_reducible exact ih4 _ _ _ _ _)
      | (with_reducible exact ih5 _ _ _ _ _ _ _)
      | (with_reducible exact styluslaw19_awake.mono _)
      | (with_reducible exact LeO.refl _)
      | (with_reducible exact LeO.none _)
      | (with_reducible refine LeO.ite ?_ ?_)
      | (with_reducible refine LeO.bind ?_ (fun _ => ?_))
      | exact ih0 _ _ _ _
      | exact ih1 _ _ _ _ _ _
      | exact ih2 _ _ _ _ _
      | exact ih3 _ _ _ _ _
      | exact ih4 _ _ _ _ _
      | exact ih5 _ _ _ _ _ _ _
      | exact styluslaw19_awake.mono _
      | exact LeO.none _
      | refine LeO.ite ?_ ?_
      | refine LeO.bind ?_ (fun _ => ?_)
    · intro y0 y1 y2 y3 y4 y5
      unfold styluslaw19_BestLeast.j1
      repeat' first
      | (with_reducible exact ih0 _ _ _ _)
      | (with_reducible exact ih1 _ _ _ _ _ _)
      | (with_reducible exact ih2 _ _ _ _ _)
      | (with_reducible exact ih3 _ _ _ _ _)
      | (with_reducible exact ih4 _ _ _ _ _)
      | (with_reducible exact ih5 _ _ _ _ _ _ _)
      | (with_reducible exact styluslaw19_awake.mono _)
      | (with_reducible exact LeO.refl _)
      | (with_reducible exact LeO.none _)
      | (with_reducible refine LeO.ite ?_ ?_)
      | (with_reducible refine LeO.bind ?_ (fun _ => ?_))
      | exact ih0 _ _ _ _
      | exact ih1 _ _ _ _ _ _
      | exact ih2 _ _ _ _ _
      | exact ih3 _ _ _ _ _
      | exact ih4 _ _ _ _ _
      | exact ih5 _ _ _ _ _ _ _
      | exact styluslaw19_awake.mono _
      | exact LeO.none _
      | refine LeO.ite ?_ ?_
      | refine LeO.bind ?_ (fun _ => ?_)
    · intro y0 y1 y2 y3 y4
      unfold styluslaw19_BestLeast.j2
      repeat' first
      | (with_reducible exact ih0 _ _ _ _)
      | (with_reducible exact ih1 _ _ _ _ _ _)
      | (with_reducible exact ih2 _ _ _ _ _)
      | (with_reducible exact ih3 _ _ _ _ _)
      | (with_reducible exact ih4 _ _ _ _ _)
      | (with_reducible exact ih5 _ _ _ _ _ _ _)
      | (with_reducible exact styluslaw19_awake.mono _)
      | (with_reducible exact LeO.refl _)
      | (with_reducible exact LeO.none _)
      | (with_reducible refine LeO.ite ?_ ?_)
      | (with_reducible refine LeO.bind ?_ (fun _ => ?_))
      | exact ih0 _ _ _ _
      | exact ih1 _ _ _ _ _ _
      | exact ih2 _ _ _ _ _
      | exact ih3 _ _ _ _ _
      | exact ih4 _ _ _ _ _
      | exact ih5 _ _ _ _ _ _ _
      | exact styluslaw19_awake.mono _
      | exact LeO.none _
      | refine LeO.ite ?_ ?_
      | refine LeO.bind ?_ (fun _ => ?_)
    · intro y0 y1 y2 y3 y4
      unfold styluslaw19_BestLeast.l0
      repeat' first
      | (with_reducible exact ih0 _ _ _ _)
      | (with_reducible exact ih1 _ _ _ _ _ _)
      | (with_reducible exact ih2 _ _ _ _ _)
      | (with_reducible exact ih3 _ _ _ _ _)
      | (with_reducible exact ih4 _ _ _ _ _)
      | (with_reducible exact ih5 _ _ _ _ _ _ _)
      | (with_reducible exact styluslaw19_awake.mono _)
      | (with_reducible exact LeO.refl _)
      | (with_reducible exact LeO.none _)
      | (with_reducible refine LeO.ite ?_ ?_)
      | (with_reducible refine LeO.bind ?_ (fun _ => ?_))
      | exact ih0 _ _ _ _
      | exact ih1 _ _ _ _ _ _
      | exact ih2 _ _ _ _ _
      | exact ih3 _ _ _ _ _
      | exact ih4 _ _ _ _ _
      | exact ih5 _ _ _ _ _ _ _
      | exact styluslaw19_awake.mono _
      | exact LeO.none _
      | refine LeO.ite ?_ ?_
      | refine LeO.bind ?_ (fun _ => ?_)
    · intro y0 y1 y2 y3 y4
      unfold styluslaw19_BestLeast.l1
      repeat' first
      | (with_reducible exact ih0 _ _ _ _)
      | (with_reducible exact ih1 _ _ _ _ _ _)
      | (with_reducible exact ih2 _ _ _ _ _)
      | (with_reducible exact ih3 _ _ _ _ _)
      | (with_reducible exact ih4 _ _ _ _ _)
      | (with_reducible exact ih5 _ _ _ _ _ _ _)
      | (with_reducible exact styluslaw19_awake.mono _)
      | (with_reducible exact LeO.refl _)
      | (with_reducible exact LeO.none _)
      | (with_reducible refine LeO.ite ?_ ?_)
      | (with_reducible refine LeO.bind ?_ (fun _ => ?_))
      | exact ih0 _ _ _ _
      | exact ih1 _ _ _ _ _ _
      | exact ih2 _ _ _ _ _
      | exact ih3 _ _ _ _ _
      | exact ih4 _ _ _ _ _
      | exact ih5 _ _ _ _ _ _ _
      | exact styluslaw19_awake.mono _
      | exact LeO.none _
      | refine LeO.ite ?_ ?_
      | refine LeO.bind ?_ (fun _ => ?_)
    · intro y0 y1 y2 y3 y4 y5 y6
      unfold styluslaw19_BestLeast.l2
      repeat' first
      | (with_reducible exact ih0 _ _ _ _)
      | (with_reducible exact ih1 _ _ _ _ _ _)
      | (with_reducible exact ih2 _ _ _ _ _)
      | (with_reducible exact ih3 _ _ _ _ _)
      | (with_reducible exact ih4 _ _ _ _ _)
      | (with_reducible exact ih5 _ _ _ _ _ _ _)
      | (with_reducible exact styluslaw19_awake.mono _)
      | (with_reducible exact LeO.refl _)
      | (with_reducible exact LeO.none _)
      | (with_reducible refine LeO.ite ?_ ?_)
      | (with_reducible refine LeO.bind ?_ (fun _ => ?_))
      | exact ih0 _ _ _ _
      | exact ih1 _ _ _ _ _ _
      | exact ih2 _ _ _ _ _
      | exact ih3 _ _ _ _ _
      | exact ih4 _ _ _ _ _
      | exact ih5 _ _ _ _ _ _ _
      | exact styluslaw19_awake.mono _
      | exact LeO.none _
      | refine LeO.ite ?_ ?_
      | refine LeO.bind ?_ (fun _ => ?_)
theorem styluslaw19_BestLeast.mono : ∀ a0 a1 a2 k, LeO (styluslaw19_BestLeast.f k a0 a1 a2) (styluslaw19_BestLeast.f (k + 1) a0 a1 a2) := by
  intro a0 a1 a2 k
  obtain ⟨ih0, ih1, ih2, ih3, ih4, ih5⟩ := styluslaw19_BestLeast.mono_l k
  unfold styluslaw19_BestLeast.f
  repeat' first
      | (with_reducible exact ih0 _ _ _ _)
      | (with_reducible exact ih1 _ _ _ _ _ _)
      | (with_reducible exact ih2 _ _ _ _ _)
      | (with_reducible exact ih3 _ _ _ _ _)
      | (with_reducible exact ih4 _ _ _ _ _)
      | (with_reducible exact ih5 _ _ _ _ _ _ _)
      | (with_reducible exact styluslaw19_awake.mono _)
      | (with_reducible exact LeO.refl _)
      | (with_reducible exact LeO.none _)
      | (with_reducible refine LeO.ite ?_ ?_)
      | (with_reducible refine LeO.bind ?_ (fun _ => ?_))
      | exact ih0 _ _ _ _
      | exact ih1 _ _ _ _ _ _
      | exact ih2 _ _ _ _ _
      | exact ih3 _ _ _ _ _
      | exact ih4 _ _ _ _ _
      | exact ih5 _ _ _ _ _ _ _
      | exact styluslaw19_awake.mono _
      | exact LeO.none _
      | refine LeO.ite ?_ ?_
      | refine LeO.bind ?_ (fun _ => ?_)
def styluslaw19_BestLeast.T15 : Bool × List (List Nat × List Nat) := (true, [([], []), ([], []), ([], []), ([1, 2], [1, 2]), ([0, 3], [0, 3]), ([], []), ([], []), ([6], [6]), ([5, 7], [5, 7]), ([4, 8, 4], [4, 8]), ([9, 9, 0, 1, 2, 3, 4, 5, 6, 7, 8, 9], [9])])
def styluslaw19_BestLeast.B15 : List Nat := [0, 0, 0, 6, 15, 0, 0, 64, 224, 511, 1023]
theorem styluslaw19_BestLeast.tab15 : rtab .any (opsOf Try.f5 15) = styluslaw19_BestLeast.T15 := by kernel_rfl
theorem styluslaw19_BestLeast.bits15 : waitsOk styluslaw19_BestLeast.T15.2 styluslaw19_BestLeast.B15 = true := by kernel_rfl
set_option maxHeartbeats 8000000 in
set_option maxRecDepth 100000 in
theorem styluslaw19_BestLeast.calls (k : Nat) (A0 : Option Addr) (c0 : Nat) (l0 : List (S43)) (a1 : Int) (A2 : Option Addr) (c2 : Nat) (l2 : List Int) (r : Bool) (w : World) (hr0 : Kd.C k43 w A0 l0.length l0) (hc0 : l0.length ≤ c0) (hr2 : Kd.C (Kd.int .i64) w A2 l2.length l2) (hc2 : l2.length ≤ c2) (h : styluslaw19_BestLeast.f k l0 a1 l2 = some r) :
    Calls Try.prog 5 #[.slice A0 l0.length c0, .int .i64 a1, .slice A2 l2.length c2] w fun e w' => e = .returned (.bool r) ∧ Below w.heap.size w w' := by
  have HR0 := Aside0.mk hr0
  have HC0 := Aside0.mk hc0
  clear hr0 hc0
  have HR2 := Aside0.mk hr2
  have HC2 := Aside0.mk hc2
  clear hr2 hc2
  have HB := Aside0.mk (Below.refl w.heap.size w)
  have H : (if (l0.length : Int) > 300 then (styluslaw19_BestLeast.j0 k l0 a1 l2 true) else (styluslaw19_BestLeast.j0 k l0 a1 l2 (decide ((l2.length : Int) > 300)))) = some r := h
  clear h
  have HC4 := Aside0.mk H
  clear H
  go_enter Try.func5, Try.ntmps5
  go_upto_region 1 with (fail)
  go_cut [29] (fun v29 wc => ∃ (kq : Nat) (x29_3 : Bool), v29 = .bool x29_3 ∧ Aside0 (styluslaw19_BestLeast.j0 kq l0 a1 l2 x29_3 = some r) ∧ Aside0 (kq ≤ k) ∧ Aside0 (Below w.heap.size w wc))
  case first =>
    have H := HC4.out
    clear HC4
    by_cases c5 : (l0.length : Int) > 300
    · rw [if_pos c5] at H
      have c5b0 : decide (300 < (l0.length : Int)) = true := decide_eq_true c5
      have c5b1 : decide (300 < l0.length) = true := decide_eq_true (by omega)
      clear c5
      (first | rw [c5b0] | (simp only [i64_w, i32_w]; rw [c5b0]) | skip)
      have H' := Aside0.mk H
      clear H
      go_wp2
      go_meet
      case rel => exact ⟨_, (true), (by first | rfl | (simp; done) | (simp [*]; done)), H', ⟨by first | omega | exact Nat.le_refl _⟩, ⟨by repeat (first | (with_reducible first | exact HB.out | apply below_alloc | apply pw_below_drewN | apply below_drew1) | exact HB.out)⟩⟩
    · rw [if_neg c5] at H
      have c5b0 : decide (300 < (l0.length : Int)) = false := decide_eq_false c5
      have c5b1 : decide (300 < l0.length) = false := decide_eq_false (by omega)
      clear c5
      (first | rw [c5b0] | (simp only [i64_w, i32_w]; rw [c5b0]) | skip)
      have H' := Aside0.mk H
      clear H
      go_wp2
      go_meet
      case rel => exact ⟨_, (decide ((l2.length : Int) > 300)), (by first | rfl | (simp; done) | (simp [*]; done)), H', ⟨by first | omega | exact Nat.le_refl _⟩, ⟨by repeat (first | (with_reducible first | exact HB.out | apply below_alloc | apply pw_below_drewN | apply below_drew1) | exact HB.out)⟩⟩
  case rest =>
    clear HC4
    try clear c2
    try clear p2
    try clear c5
    try clear c5b0
    try clear c5b1
    obtain ⟨kq, x29_3, rfl, HA, HJ3, HB⟩ := hcut
    cases kq with
    | zero => exact absurd HA.out (by simp [styluslaw19_BestLeast.j0])
    | succ kj3 =>
      have H := HA.out
      clear HA
      simp only [styluslaw19_BestLeast.j0] at H
      by_cases c6 : x29_3 = true
      · subst c6
        have H1 : ((styluslaw19_awake.f kj3).bind fun t306 => (some t306)) = some r := by rw [if_pos rfl] at H; exact H
        clear H
        have H := H1
        clear H1
        replace H := Option.bind_eq_some_iff.mp H
        obtain ⟨t306, A70, H⟩ := H
        replace H : (some t306) = some r := H
        have A7 := Aside0.mk A70
        clear A70
        obtain rfl := Option.some.inj H
        go_wp2_with (first | ((with_reducible refine gate_callee (f := 12) rfl ?_); refine goesL_ (some 30) rfl rfl Try.func12 (by kernel_rfl) rfl #[] rfl (by (try simp only [List.map_toArray, List.map_cons, List.map_nil]); first | done | rfl | (simp only [List.length_drop, List.length_take]; rfl)) ?_; (with_reducible refine (styluslaw19_awake.calls kj3  t306 _ A7.out).mono ?_); rintro e w8 ⟨rfl, hb⟩; refine ⟨_, rfl, ?_⟩; have n0_ := Aside0.mk (below_step (by repeat (first | (with_reducible first | exact HB.out | apply below_alloc | apply pw_below_drewN | apply below_drew1) | exact HB.out)) hb); clear HB; have HB := n0_; clear n0_; (try clear hb); (try clear hb2); (try clear hk); (try clear hi)))
        go_ret
        exact ⟨by first | rfl | (simp [errW_none, errW_some] <;> rfl) | (simp [*, errW_none, errW_some] <;> rfl), by repeat (first | (with_reducible first | exact HB.out | apply below_alloc | apply pw_below_drewN | apply below_drew1) | exact HB.out)⟩
      · replace c6 := Bool.eq_false_iff.mpr c6
        subst c6
        have H1 : ((best_Of.f l0 a1).bind fun bt307 => (if bt307.2 = 0 then ((best_Demerits.f l0 a1 bt307.1).bind fun bt313 => (if bt313.2 = 0 then (if (bt307.1.length : Int) = 0 then (styluslaw19_BestLeast.j1 kj3 l0 a1 l2 bt307.1 bt313.1 true) else (if 0 ≤ (wrap64 ((bt307.1.length : Int) - 1)) then (if (wrap64 ((bt307.1.length : Int) - 1)) < (bt307.1.length : Int) then (styluslaw19_BestLeast.j1 kj3 l0 a1 l2 bt307.1 bt313.1 ((rd bt307.1 (wrap64 ((bt307.1.length : Int) - 1))) != (l0.length : Int))) else (none)) else (none))) else (styluslaw19_BestLeast.j1 kj3 l0 a1 l2 bt307.1 bt313.1 true))) else (if (bt307.1.length : Int) = 0 then ((best_Check.f l0 a1).bind fun t311 => (if t311 = bt307.2 then ((styluslaw19_awake.f kj3).bind fun t312 => (some t312)) else (some false))) else (some false)))) = some r := by rw [if_neg (show ¬ (false = true) by decide)] at H; exact H
        clear H
        have H := H1
        clear H1
        replace H := Option.bind_eq_some_iff.mp H
        obtain ⟨⟨t307, t308⟩, A90, H⟩ := H
        replace H : (if t308 = 0 then ((best_Demerits.f l0 a1 t307).bind fun bt313 => (if bt313.2 = 0 then (if (t307.length : Int) = 0 then (styluslaw19_BestLeast.j1 kj3 l0 a1 l2 t307 bt313.1 true) else (if 0 ≤ (wrap64 ((t307.length : Int) - 1)) then (if (wrap64 ((t307.length : Int) - 1)) < (t307.length : Int) then (styluslaw19_BestLeast.j1 kj3 l0 a1 l2 t307 bt313.1 ((rd t307 (wrap64 ((t307.length : Int) - 1))) != (l0.length : Int))) else (none)) else (none))) else (styluslaw19_BestLeast.j1 kj3 l0 a1 l2 t307 bt313.1 true))) else (if (t307.length : Int) = 0 then ((best_Check.f l0 a1).bind fun t311 => (if t311 = t308 then ((styluslaw19_awake.f kj3).bind fun t312 => (some t312)) else (some false))) else (some false))) = some r := H
        have A9 := Aside0.mk A90
        clear A90
        by_cases c10 : t308 = 0
        · rw [if_pos c10] at H
          have c10b0 : (t308 == 0) = true := beq_iff_eq.mpr c10
          have c10b1 : (t308 != 0) = false := bne_eq_false_iff_eq.mpr c10
          clear c10
          replace H := Option.bind_eq_some_iff.mp H
          obtain ⟨⟨t313, t314⟩, A110, H⟩ := H
          replace H : (if t314 = 0 then (if (t307.length : Int) = 0 then (styluslaw19_BestLeast.j1 kj3 l0 a1 l2 t307 t313 true) else (if 0 ≤ (wrap64 ((t307.length : Int) - 1)) then (if (wrap64 ((t307.length : Int) - 1)) < (t307.length : Int) then (styluslaw19_BestLeast.j1 kj3 l0 a1 l2 t307 t313 ((rd t307 (wrap64 ((t307.length : Int) - 1))) != (l0.length : Int))) else (none)) else (none))) else (styluslaw19_BestLeast.j1 kj3 l0 a1 l2 t307 t313 true)) = some r := H
          have A11 := Aside0.mk A110
          clear A110
          have HC12 := Aside0.mk H
          clear H
          go_upto_region 7 with (first | ((with_reducible refine gate_callee (f := 13) rfl ?_); refine goesL_ (some 34) rfl rfl Try.func13 (by kernel_rfl) rfl #[.slice A0 l0.length c0, .int .i64 a1] rfl (by (try simp only [List.map_toArray, List.map_cons, List.map_nil]); first | done | rfl | (simp only [List.length_drop, List.length_take]; rfl)) ?_; (with_reducible refine (best_Of.calls _ _ l0 a1 t307 t308 _ ?side1 ?side2 A9.out).mono ?_); (case side1 => repeat (first | exact (Kd.C_below HR0.out HB.out) | (with_reducible refine Kd.C_alloc ?_ _) | (with_reducible refine Kd.C_drewN ?_ _) | (with_reducible refine Kd.C_drew ?_))); (case side2 => exact HC0.out); rintro e w13 ⟨v309, rfl, ho0, hb⟩; refine ⟨_, rfl, ?_⟩; have n0_ := Aside0.mk (Kd.R_lower ho0 (below_size (by repeat (first | (with_reducible first | exact HB.out | apply below_alloc | apply pw_below_drewN | apply below_drew1) | exact HB.out)))); have n1_ := Aside0.mk (below_step (by repeat (first | (with_reducible first | exact HB.out | apply below_alloc | apply pw_below_drewN | apply below_drew1) | exact HB.out)) hb); clear HB; have HO310 := n0_; have HB := n1_; clear n0_ n1_; (try clear hb); (try clear hb2); (try clear hk); (try clear hi); (try clear ho0); obtain ⟨Ao14, co14, eo14⟩ := Kd.R_slice HO310.out; subst eo14) | ((with_reducible refine gate_callee (f := 21) rfl ?_); refine goesL_ (some 56) rfl rfl Try.func21 (by kernel_rfl) rfl #[.slice A0 l0.length c0, .int .i64 a1, .slice Ao14 t307.length co14] rfl (by (try simp only [List.map_toArray, List.map_cons, List.map_nil]); first | done | rfl | (simp only [List.length_drop, List.length_take]; rfl)) ?_; (with_reducible refine (best_Demerits.calls _ _ l0 a1 _ _ t307 t313 t314 _ ?side1 ?side2 ?side3 ?side4 A11.out).mono ?_); (case side1 => repeat (first | exact (Kd.C_below HR0.out HB.out) | (with_reducible refine Kd.C_alloc ?_ _) | (with_reducible refine Kd.C_drewN ?_ _) | (with_reducible refine Kd.C_drew ?_))); (case side2 => exact HC0.out); (case side3 => repeat (first | exact (Kd.R_reads' HO310.out).2.2 | (with_reducible refine Kd.C_alloc ?_ _) | (with_reducible refine Kd.C_drewN ?_ _) | (with_reducible refine Kd.C_drew ?_))); (case side4 => exact (Kd.R_reads' HO310.out).2.1); rintro e w15 ⟨rfl, hb⟩; refine ⟨_, rfl, ?_⟩; have n0_ := Aside0.mk (Kd.R_below (by (with_reducible repeat (first | apply Kd.R_alloc | apply Kd.R_drewN | apply Kd.R_drew)); exact HO310.out) hb); have n1_ := Aside0.mk (below_step (by repeat (first | (with_reducible first | exact HB.out | apply below_alloc | apply pw_below_drewN | apply below_drew1) | exact HB.out)) hb); clear HO310; clear HB; have HO310 := n0_; have HB := n1_; clear n0_ n1_; (try clear hb); (try clear hb2); (try clear hk); (try clear hi)))
          (try simp only [Act.put, List.setIfInBounds_toArray, List.set_cons_zero, List.set_cons_succ])
          go_cut [76] (fun v76 wc => ∃ (kq : Nat) (x76_11 : Bool), v76 = .bool x76_11 ∧ Aside0 (styluslaw19_BestLeast.j1 kq l0 a1 l2 t307 t313 x76_11 = some r) ∧ Aside0 (kq ≤ kj3) ∧ Aside0 (Kd.R (Kd.int .i64) 3 wc w.heap.size (fun _ => True) (.slice Ao14 t307.length co14) t307) ∧ Aside0 (Below w.heap.size w wc))
          case first =>
            have H := HC12.out
            clear HC12
            by_cases c16 : t314 = 0
            · rw [if_pos c16] at H
              have c16b0 : (t314 == 0) = true := beq_iff_eq.mpr c16
              have c16b1 : (t314 != 0) = false := bne_eq_false_iff_eq.mpr c16
              clear c16
              (first | rw [c16b0] | (simp only [i64_w, i32_w]; rw [c16b0]) | skip)
              by_cases c17 : (t307.length : Int) = 0
              · rw [if_pos c17] at H
                have c17b0 : ((t307.length : Int) == 0) = true := beq_iff_eq.mpr c17
                have c17b1 : ((t307.length : Int) != 0) = false := bne_eq_false_iff_eq.mpr c17
                clear c17
                have H' := Aside0.mk H
                clear H
                go_wp2
                go_meet
                case rel => exact ⟨_, (true), (by first | rfl | (simp; done) | (simp [*]; done)), H', ⟨by have := HJ3.out; first | omega | exact Nat.le_refl _⟩, ⟨by (with_reducible repeat (first | apply Kd.R_alloc | apply Kd.R_drewN | apply Kd.R_drew)); exact HO310.out⟩, ⟨by repeat (first | (with_reducible first | exact HB.out | apply below_alloc | apply pw_below_drewN | apply below_drew1) | exact HB.out)⟩⟩
              · rw [if_neg c17] at H
                have c17b0 : ((t307.length : Int) == 0) = false := beq_eq_false_iff_ne.mpr c17
                have c17b1 : ((t307.length : Int) != 0) = true := bne_iff_ne.mpr c17
                have c17b2 : ¬ (t307 = []) := fun h_ => c17 (by rw [h_]; rfl)
                obtain ⟨ji18, hji18⟩ : ∃ j_ : Int, (wrap64 ((t307.length : Int) - 1)) = j_ := ⟨_, rfl⟩
                replace H : (if 0 ≤ (ji18) then (if (ji18) < (t307.length : Int) then (styluslaw19_BestLeast.j1 kj3 l0 a1 l2 t307 t313 ((rd t307 (ji18)) != (l0.length : Int))) else (none)) else (none)) = some r := by first | (rw [hji18] at H; exact H) | (simp only [hji18] at H ⊢; exact H)
                have hji18w : (IntKind.i64.wrap ((t307.length : Int) - 1)) = ji18 := (i64_w _).trans hji18
                by_cases c19 : 0 ≤ (ji18)
                · rw [if_pos c19] at H
                  have c19b0 : decide (0 ≤ (ji18)) = true := decide_eq_true c19
                  clear c19
                  by_cases c20 : (ji18) < (t307.length : Int)
                  · rw [if_pos c20] at H
                    have c20b0 : decide ((ji18) < (t307.length : Int)) = true := decide_eq_true c20
                    clear c20
                    have H' := Aside0.mk H
                    clear H
                    have p315 : 0 ≤ ((ji18) : Int) := of_decide_eq_true (by first | (with_reducible assumption) | assumption)
                    have q315 : (ji18) < (t307.length : Int) := of_decide_eq_true (by first | (with_reducible assumption) | assumption)
                    obtain ⟨ad315, e315, hx315_0⟩ := Kd.at_int (Kd.R_reads' HO310.out).2.2 (ji18) p315 q315
                    cases e315
                    replace p315 := eq_true p315
                    replace q315 := eq_true q315
                    go_wp2
                    go_meet
                    case rel => exact ⟨_, (((rd t307 (ji18)) != (l0.length : Int))), (by first | rfl | (simp; done) | (simp only [← hji18] <;> (first | rfl | simp)) | (simp [*]; done)), H', ⟨by have := HJ3.out; first | omega | exact Nat.le_refl _⟩, ⟨by (with_reducible repeat (first | apply Kd.R_alloc | apply Kd.R_drewN | apply Kd.R_drew)); exact HO310.out⟩, ⟨by repeat (first | (with_reducible first | exact HB.out | apply below_alloc | apply pw_below_drewN | apply below_drew1) | exact HB.out)⟩⟩
                  · rw [if_neg c20] at H
                    exact absurd H (by simp)
                · rw [if_neg c19] at H
                  exact absurd H (by simp)
            · rw [if_neg c16] at H
              have c16b0 : (t314 == 0) = false := beq_eq_false_iff_ne.mpr c16
              have c16b1 : (t314 != 0) = true := bne_iff_ne.mpr c16
              (first | rw [c16b0] | (simp only [i64_w, i32_w]; rw [c16b0]) | skip)
              have H' := Aside0.mk H
              clear H
              go_wp2
              go_meet
              case rel => exact ⟨_, (true), (by first | rfl | (simp; done) | (simp [*]; done)), H', ⟨by have := HJ3.out; first | omega | exact Nat.le_refl _⟩, ⟨by (with_reducible repeat (first | apply Kd.R_alloc | apply Kd.R_drewN | apply Kd.R_drew)); exact HO310.out⟩, ⟨by repeat (first | (with_reducible first | exact HB.out | apply below_alloc | apply pw_below_drewN | apply below_drew1) | exact HB.out)⟩⟩
          case rest =>
            clear HC12
            try clear c1
            try clear c2
            try clear p2
            try clear p3
            try clear q3
            try clear hx3
            try clear c5
            try clear c5b0
            try clear c5b1
            try clear c6
            try clear p6
            try clear c10
            try clear c10b0
            try clear c10b1
            try clear c12
            try clear c13
            try clear c16
            try clear c16b0
            try clear c16b1
            try clear c17
            try clear c17b0
            try clear c17b1
            try clear c17b2
            try clear c19
            try clear c19b0
            try clear c20
            try clear c20b0
            try clear hx315_0
            try clear p2
            try clear p315
            try clear q315
            obtain ⟨kq, x76_11, rfl, HA, HJ11, HO_7, HB⟩ := hcut
            cases kq with
            | zero => exact absurd HA.out (by simp [styluslaw19_BestLeast.j1])
            | succ kj11 =>
              have H := HA.out
              clear HA
              simp only [styluslaw19_BestLeast.j1] at H
              by_cases c21 : x76_11 = true
              · subst c21
                have H1 : (some false) = some r := by rw [if_pos rfl] at H; exact H
                clear H
                have H := H1
                clear H1
                obtain rfl := Option.some.inj H
                go_wp2
                go_ret
                exact ⟨by first | rfl | (simp [errW_none, errW_some] <;> rfl) | (simp [*, errW_none, errW_some] <;> rfl), by repeat (first | (with_reducible first | exact HB.out | apply below_alloc | apply pw_below_drewN | apply below_drew1) | exact HB.out)⟩
              · replace c21 := Bool.eq_false_iff.mpr c21
                subst c21
                have H1 : ((best_Demerits.f l0 a1 l2).bind fun bt316 => (if bt316.2 = 0 then (if bt316.1 < t313 then (styluslaw19_BestLeast.j2 kj11 l0 a1 t307 t313 true) else ((styluslaw19_over.f bt316.1).bind fun t318 => ((styluslaw19_over.f t313).bind fun t319 => (styluslaw19_BestLeast.j2 kj11 l0 a1 t307 t313 (decide (t318 < t319)))))) else (styluslaw19_BestLeast.j2 kj11 l0 a1 t307 t313 false))) = some r := by rw [if_neg (show ¬ (false = true) by decide)] at H; exact H
                clear H
                have H := H1
                clear H1
                replace H := Option.bind_eq_some_iff.mp H
                obtain ⟨⟨t316, t317⟩, A220, H⟩ := H
                replace H : (if t317 = 0 then (if t316 < t313 then (styluslaw19_BestLeast.j2 kj11 l0 a1 t307 t313 true) else ((styluslaw19_over.f t316).bind fun t318 => ((styluslaw19_over.f t313).bind fun t319 => (styluslaw19_BestLeast.j2 kj11 l0 a1 t307 t313 (decide (t318 < t319)))))) else (styluslaw19_BestLeast.j2 kj11 l0 a1 t307 t313 false)) = some r := H
                have A22 := Aside0.mk A220
                clear A220
                have HC23 := Aside0.mk H
                clear H
                go_upto_region 10 with (first | ((with_reducible refine gate_callee (f := 21) rfl ?_); refine goesL_ (some 81) rfl rfl Try.func21 (by kernel_rfl) rfl #[.slice A0 l0.length c0, .int .i64 a1, .slice A2 l2.length c2] rfl (by (try simp only [List.map_toArray, List.map_cons, List.map_nil]); first | done | rfl | (simp only [List.length_drop, List.length_take]; rfl)) ?_; (with_reducible refine (best_Demerits.calls _ _ l0 a1 _ _ l2 t316 t317 _ ?side1 ?side2 ?side3 ?side4 A22.out).mono ?_); (case side1 => repeat (first | exact (Kd.C_below HR0.out HB.out) | (with_reducible refine Kd.C_alloc ?_ _) | (with_reducible refine Kd.C_drewN ?_ _) | (with_reducible refine Kd.C_drew ?_))); (case side2 => exact HC0.out); (case side3 => repeat (first | exact (Kd.C_below HR2.out HB.out) | (with_reducible refine Kd.C_alloc ?_ _) | (with_reducible refine Kd.C_drewN ?_ _) | (with_reducible refine Kd.C_drew ?_))); (case side4 => exact HC2.out); rintro e w24 ⟨rfl, hb⟩; refine ⟨_, rfl, ?_⟩; have n0_ := Aside0.mk (Kd.R_below (by (with_reducible repeat (first | apply Kd.R_alloc | apply Kd.R_drewN | apply Kd.R_drew)); exact HO_7.out) hb); have n1_ := Aside0.mk (below_step (by repeat (first | (with_reducible first | exact HB.out | apply below_alloc | apply pw_below_drewN | apply below_drew1) | exact HB.out)) hb); clear HO_7; clear HB; have HO_7 := n0_; have HB := n1_; clear n0_ n1_; (try clear hb); (try clear hb2); (try clear hk); (try clear hi)))
                (try simp only [Act.put, List.setIfInBounds_toArray, List.set_cons_zero, List.set_cons_succ])
                go_cut [97] (fun v97 wc => ∃ (kq : Nat) (x97_22 : Bool), v97 = .bool x97_22 ∧ Aside0 (styluslaw19_BestLeast.j2 kq l0 a1 t307 t313 x97_22 = some r) ∧ Aside0 (kq ≤ kj11) ∧ Aside0 (Kd.R (Kd.int .i64) 3 wc w.heap.size (fun _ => True) (.slice Ao14 t307.length co14) t307) ∧ Aside0 (Below w.heap.size w wc))
                case first =>
                  have H := HC23.out
                  clear HC23
                  by_cases c25 : t317 = 0
                  · rw [if_pos c25] at H
                    have c25b0 : (t317 == 0) = true := beq_iff_eq.mpr c25
                    have c25b1 : (t317 != 0) = false := bne_eq_false_iff_eq.mpr c25
                    clear c25
                    (first | rw [c25b0] | (simp only [i64_w, i32_w]; rw [c25b0]) | skip)
                    by_cases c26 : t316 < t313
                    · rw [if_pos c26] at H
                      have c26b0 : decide (t316 < t313) = true := decide_eq_true c26
                      clear c26
                      have H' := Aside0.mk H
                      clear H
                      go_wp2
                      go_meet
                      case rel => exact ⟨_, (true), (by first | rfl | (simp; done) | (simp [*]; done)), H', ⟨by have := HJ3.out; have := HJ11.out; first | omega | exact Nat.le_refl _⟩, ⟨by (with_reducible repeat (first | apply Kd.R_alloc | apply Kd.R_drewN | apply Kd.R_drew)); exact HO_7.out⟩, ⟨by repeat (first | (with_reducible first | exact HB.out | apply below_alloc | apply pw_below_drewN | apply below_drew1) | exact HB.out)⟩⟩
                    · rw [if_neg c26] at H
                      have c26b0 : decide (t316 < t313) = false := decide_eq_false c26
                      clear c26
                      replace H := Option.bind_eq_some_iff.mp H
                      obtain ⟨t318, A270, H⟩ := H
                      replace H : ((styluslaw19_over.f t313).bind fun t319 => (styluslaw19_BestLeast.j2 kj11 l0 a1 t307 t313 (decide (t318 < t319)))) = some r := H
                      have A27 := Aside0.mk A270
                      clear A270
                      replace H := Option.bind_eq_some_iff.mp H
                      obtain ⟨t319, A280, H⟩ := H
                      replace H : (styluslaw19_BestLeast.j2 kj11 l0 a1 t307 t313 (decide (t318 < t319))) = some r := H
                      have A28 := Aside0.mk A280
                      clear A280
                      have H' := Aside0.mk H
                      clear H
                      go_wp2_with (first | (go_at_call 24; (with_reducible refine (styluslaw19_over.calls t316 t318 _ A27.out).mono ?_); rintro e w' ⟨rfl, ⟨nd, rfl⟩⟩) | (go_at_call 24; (with_reducible refine (styluslaw19_over.calls t313 t319 _ A28.out).mono ?_); rintro e w' ⟨rfl, ⟨nd, rfl⟩⟩))
                      go_meet
                      case rel => exact ⟨_, (decide (t318 < t319)), (by first | rfl | (simp; done) | (simp [*]; done)), H', ⟨by have := HJ3.out; have := HJ11.out; first | omega | exact Nat.le_refl _⟩, ⟨by (with_reducible repeat (first | apply Kd.R_alloc | apply Kd.R_drewN | apply Kd.R_drew)); exact HO_7.out⟩, ⟨by repeat (first | (with_reducible first | exact HB.out | apply below_alloc | apply pw_below_drewN | apply below_drew1) | exact HB.out)⟩⟩
                  · rw [if_neg c25] at H
                    have c25b0 : (t317 == 0) = false := beq_eq_false_iff_ne.mpr c25
                    have c25b1 : (t317 != 0) = true := bne_iff_ne.mpr c25
                    (first | rw [c25b0] | (simp only [i64_w, i32_w]; rw [c25b0]) | skip)
                    have H' := Aside0.mk H
                    clear H
                    go_wp2
                    go_meet
                    case rel => exact ⟨_, (false), (by first | rfl | (simp; done) | (simp [*]; done)), H', ⟨by have := HJ3.out; have := HJ11.out; first | omega | exact Nat.le_refl _⟩, ⟨by (with_reducible repeat (first | apply Kd.R_alloc | apply Kd.R_drewN | apply Kd.R_drew)); exact HO_7.out⟩, ⟨by repeat (first | (with_reducible first | exact HB.out | apply below_alloc | apply pw_below_drewN | apply below_drew1) | exact HB.out)⟩⟩
                case rest =>
                  clear HC23
                  try clear c1
                  try clear c2
                  try clear p2
                  try clear p3
                  try clear q3
                  try clear hx3
                  try clear c5
                  try clear c5b0
                  try clear c5b1
                  try clear c6
                  try clear p6
                  try clear c10
                  try clear c10b0
                  try clear c10b1
                  try clear c12
                  try clear c13
                  try clear c16
                  try clear c16b0
                  try clear c16b1
                  try clear c17
                  try clear c17b0
                  try clear c17b1
                  try clear c17b2
                  try clear c19
                  try clear c19b0
                  try clear c20
                  try clear c20b0
                  try clear c21
                  try clear c25
                  try clear c25b0
                  try clear c25b1
                  try clear c26
                  try clear c26b0
                  try clear hx315_0
                  try clear p2
                  try clear p3
                  try clear p315
                  try clear p6
                  try clear q3
                  try clear q315
                  obtain ⟨kq, x97_22, rfl, HA, HJ22, HO_7, HB⟩ := hcut
                  cases kq with
                  | zero => exact absurd HA.out (by simp [styluslaw19_BestLeast.j2])
                  | succ kj22 =>
                    have H := HA.out
                    clear HA
                    simp only [styluslaw19_BestLeast.j2] at H
                    by_cases c29 : x97_22 = true
                    · subst c29
                      have H1 : (some false) = some r := by rw [if_pos rfl] at H; exact H
                      clear H
                      have H := H1
                      clear H1
                      obtain rfl := Option.some.inj H
                      go_wp2
                      go_ret
                      exact ⟨by first | rfl | (simp [errW_none, errW_some] <;> rfl) | (simp [*, errW_none, errW_some] <;> rfl), by repeat (first | (with_reducible first | exact HB.out | apply below_alloc | apply pw_below_drewN | apply below_drew1) | exact HB.out)⟩
                    · replace c29 := Bool.eq_false_iff.mpr c29
                      subst c29
                      have H1 : (styluslaw19_BestLeast.l0 kj22 l0 a1 t307 t313 0) = some r := by rw [if_neg (show ¬ (false = true) by decide)] at H; exact H
                      clear H
                      have H := H1
                      clear H1
                      have H' := Aside0.mk H
                      clear H
                      go_wp2
                      go_loopg [13] kj22 (fun kq v13 w' => ∃ (x13_4 : Int), v13 = .int .i64 x13_4 ∧ Aside0 (styluslaw19_BestLeast.l0 kq l0 a1 t307 t313 x13_4 = some r) ∧ Aside0 (kq ≤ kj22) ∧ Aside0 (Kd.R (Kd.int .i64) 3 w' w.heap.size (fun _ => True) (.slice Ao14 t307.length co14) t307) ∧ Aside0 (Below w.heap.size w w'))
                      case atStart => exact ⟨(0), (by first | rfl | (simp; done) | (simp [*]; done)), H', ⟨Nat.le_refl _⟩, ⟨by (with_reducible repeat (first | apply Kd.R_alloc | apply Kd.R_drewN | apply Kd.R_drew)); exact HO_7.out⟩, ⟨by repeat (first | (with_reducible first | exact HB.out | apply below_alloc | apply pw_below_drewN | apply below_drew1) | exact HB.out)⟩⟩
                      case round =>
                        clear H'
                        try clear c1
                        try clear c2
                        try clear p2
                        try clear p3
                        try clear q3
                        try clear hx3
                        try clear c5
                        try clear c5b0
                        try clear c5b1
                        try clear c6
                        try clear p6
                        try clear c10
                        try clear c10b0
                        try clear c10b1
                        try clear c12
                        try clear c13
                        try clear c16
                        try clear c16b0
                        try clear c16b1
                        try clear c17
                        try clear c17b0
                        try clear c17b1
                        try clear c17b2
                        try clear c19
                        try clear c19b0
                        try clear c20
                        try clear c20b0
                        try clear c21
                        try clear c25
                        try clear c25b0
                        try clear c25b1
                        try clear c26
                        try clear c26b0
                        try clear c29
                        try clear hx315_0
                        try clear p2
                        try clear p3
                        try clear p315
                        try clear p6
                        try clear q3
                        try clear q315
                        obtain ⟨x13_4, rfl, HA, HK4, HO_7, HB⟩ := hrel
                        cases gk with
                        | zero => exact absurd HA.out (by simp [styluslaw19_BestLeast.l0])
                        | succ k4 =>
                          have H := HA.out
                          clear HA
                          simp only [styluslaw19_BestLeast.l0] at H
                          by_cases c30 : x13_4 < (wrap64 ((t307.length : Int) - 1))
                          · rw [if_pos c30] at H
                            have c30b0 : decide (x13_4 < (wrap64 ((t307.length : Int) - 1))) = true := decide_eq_true c30
                            clear c30
                            obtain ⟨y320, hy320⟩ : ∃ y_ : List Int, y_ = (([] : List Int)) := ⟨_, rfl⟩
                            replace H : (if 0 ≤ x13_4 then (if x13_4 ≤ (t307.length : Int) then ((some (t307.take (x13_4 : Int).toNat : List Int)).bind fun y323 => (if y320.length + y323.length < 17592186044416 then ((some (y320 ++ y323 : List Int)).bind fun y327 => (if 0 ≤ (wrap64 (x13_4 + 1)) then (if (wrap64 (x13_4 + 1)) ≤ (t307.length : Int) then ((some (t307.drop ((wrap64 (x13_4 + 1)) : Int).toNat : List Int)).bind fun y330 => (if y327.length + y330.length < 17592186044416 then ((best_Demerits.f l0 a1 (y327 ++ y330)).bind fun bt337 => (if bt337.2 = 0 then (if bt337.1 < t313 then (some false) else (styluslaw19_BestLeast.l0 k4 l0 a1 t307 t313 (wrap64 (x13_4 + 1)))) else (styluslaw19_BestLeast.l0 k4 l0 a1 t307 t313 (wrap64 (x13_4 + 1))))) else (none))) else (none)) else (none))) else (none))) else (none)) else (none)) = some r := by first | (rw [hy320]; with_reducible exact H) | (have H2_ := (Option.bind_some _ _).symm.trans H; rw [hy320]; with_reducible exact H2_) | (have H2_ := (Option.bind_some _ _).symm.trans H; with_reducible exact H2_) | with_reducible exact H | (rw [hy320]; exact H) | exact H
                            have Ny320 := Aside0.mk hy320
                            clear hy320
                            by_cases c31 : 0 ≤ x13_4
                            · rw [if_pos c31] at H
                              have c31b0 := eq_true c31
                              have c31b1 : decide (0 ≤ x13_4) = true := decide_eq_true c31
                              clear c31
                              by_cases c32 : x13_4 ≤ (t307.length : Int)
                              · rw [if_pos c32] at H
                                have c32b0 := eq_true c32
                                have c32b1 : decide (x13_4 ≤ (t307.length : Int)) = true := decide_eq_true c32
                                clear c32
                                obtain ⟨y323, hy323⟩ : ∃ y_ : List Int, y_ = (t307.take (x13_4 : Int).toNat) := ⟨_, rfl⟩
                                replace H : (if y320.length + y323.length < 17592186044416 then ((some (y320 ++ y323 : List Int)).bind fun y327 => (if 0 ≤ (wrap64 (x13_4 + 1)) then (if (wrap64 (x13_4 + 1)) ≤ (t307.length : Int) then ((some (t307.drop ((wrap64 (x13_4 + 1)) : Int).toNat : List Int)).bind fun y330 => (if y327.length + y330.length < 17592186044416 then ((best_Demerits.f l0 a1 (y327 ++ y330)).bind fun bt337 => (if bt337.2 = 0 then (if bt337.1 < t313 then (some false) else (styluslaw19_BestLeast.l0 k4 l0 a1 t307 t313 (wrap64 (x13_4 + 1)))) else (styluslaw19_BestLeast.l0 k4 l0 a1 t307 t313 (wrap64 (x13_4 + 1))))) else (none))) else (none)) else (none))) else (none)) = some r := by first | (rw [hy323]; with_reducible exact H) | (have H2_ := (Option.bind_some _ _).symm.trans H; rw [hy323]; with_reducible exact H2_) | (have H2_ := (Option.bind_some _ _).symm.trans H; with_reducible exact H2_) | with_reducible exact H | (rw [hy323]; exact H) | exact H
                                have Ny323 := Aside0.mk hy323
                                clear hy323
                                by_cases c33 : y320.length + y323.length < 17592186044416
                                · rw [if_pos c33] at H
                                  have LMc33 := Aside0.mk c33
                                  clear c33
                                  obtain ⟨y327, hy327⟩ : ∃ y_ : List Int, y_ = (y320 ++ y323) := ⟨_, rfl⟩
                                  replace H : (if 0 ≤ (wrap64 (x13_4 + 1)) then (if (wrap64 (x13_4 + 1)) ≤ (t307.length : Int) then ((some (t307.drop ((wrap64 (x13_4 + 1)) : Int).toNat : List Int)).bind fun y330 => (if y327.length + y330.length < 17592186044416 then ((best_Demerits.f l0 a1 (y327 ++ y330)).bind fun bt337 => (if bt337.2 = 0 then (if bt337.1 < t313 then (some false) else (styluslaw19_BestLeast.l0 k4 l0 a1 t307 t313 (wrap64 (x13_4 + 1)))) else (styluslaw19_BestLeast.l0 k4 l0 a1 t307 t313 (wrap64 (x13_4 + 1))))) else (none))) else (none)) else (none)) = some r := by first | (rw [hy327]; with_reducible exact H) | (have H2_ := (Option.bind_some _ _).symm.trans H; rw [hy327]; with_reducible exact H2_) | (have H2_ := (Option.bind_some _ _).symm.trans H; with_reducible exact H2_) | with_reducible exact H | (rw [hy327]; exact H) | exact H
                                  have Ny327 := Aside0.mk hy327
                                  clear hy327
                                  obtain ⟨ji34, hji34⟩ : ∃ j_ : Int, (wrap64 (x13_4 + 1)) = j_ := ⟨_, rfl⟩
                                  replace H : (if 0 ≤ (ji34) then (if (ji34) ≤ (t307.length : Int) then ((some (t307.drop ((ji34) : Int).toNat : List Int)).bind fun y330 => (if y327.length + y330.length < 17592186044416 then ((best_Demerits.f l0 a1 (y327 ++ y330)).bind fun bt337 => (if bt337.2 = 0 then (if bt337.1 < t313 then (some false) else (styluslaw19_BestLeast.l0 k4 l0 a1 t307 t313 ji34)) else (styluslaw19_BestLeast.l0 k4 l0 a1 t307 t313 ji34))) else (none))) else (none)) else (none)) = some r := by first | (rw [hji34] at H; exact H) | (simp only [hji34] at H ⊢; exact H)
                                  have hji34w : (IntKind.i64.wrap (x13_4 + 1)) = ji34 := (i64_w _).trans hji34
                                  by_cases c35 : 0 ≤ (ji34)
                                  · rw [if_pos c35] at H
                                    have c35b0 := eq_true c35
                                    have c35b1 : decide (0 ≤ (ji34)) = true := decide_eq_true c35
                                    clear c35
                                    by_cases c36 : (ji34) ≤ (t307.length : Int)
                                    · rw [if_pos c36] at H
                                      have c36b0 := eq_true c36
                                      have c36b1 : decide ((ji34) ≤ (t307.length : Int)) = true := decide_eq_true c36
                                      clear c36
                                      obtain ⟨y330, hy330⟩ : ∃ y_ : List Int, y_ = (t307.drop ((ji34) : Int).toNat) := ⟨_, rfl⟩
                                      replace H : (if y327.length + y330.length < 17592186044416 then ((best_Demerits.f l0 a1 (y327 ++ y330)).bind fun bt337 => (if bt337.2 = 0 then (if bt337.1 < t313 then (some false) else (styluslaw19_BestLeast.l0 k4 l0 a1 t307 t313 ji34)) else (styluslaw19_BestLeast.l0 k4 l0 a1 t307 t313 ji34))) else (none)) = some r := by first | (rw [hy330]; with_reducible exact H) | (have H2_ := (Option.bind_some _ _).symm.trans H; rw [hy330]; with_reducible exact H2_) | (have H2_ := (Option.bind_some _ _).symm.trans H; with_reducible exact H2_) | with_reducible exact H | (rw [hy330]; exact H) | exact H
                                      have Ny330 := Aside0.mk hy330
                                      clear hy330
                                      by_cases c37 : y327.length + y330.length < 17592186044416
                                      · rw [if_pos c37] at H
                                        have LMc37 := Aside0.mk c37
                                        clear c37
                                        obtain ⟨y334, hy334⟩ : ∃ y_ : List Int, y_ = (y327 ++ y330) := ⟨_, rfl⟩
                                        replace H : ((best_Demerits.f l0 a1 y334).bind fun bt337 => (if bt337.2 = 0 then (if bt337.1 < t313 then (some false) else (styluslaw19_BestLeast.l0 k4 l0 a1 t307 t313 ji34)) else (styluslaw19_BestLeast.l0 k4 l0 a1 t307 t313 ji34))) = some r := by first | (rw [hy334]; with_reducible exact H) | (have H2_ := (Option.bind_some _ _).symm.trans H; rw [hy334]; with_reducible exact H2_) | (have H2_ := (Option.bind_some _ _).symm.trans H; with_reducible exact H2_) | with_reducible exact H | (rw [hy334]; exact H) | exact H
                                        have Ny334 := Aside0.mk hy334
                                        clear hy334
                                        replace H := Option.bind_eq_some_iff.mp H
                                        obtain ⟨⟨t337, t338⟩, A380, H⟩ := H
                                        replace H : (if t338 = 0 then (if t337 < t313 then (some false) else (styluslaw19_BestLeast.l0 k4 l0 a1 t307 t313 ji34)) else (styluslaw19_BestLeast.l0 k4 l0 a1 t307 t313 ji34)) = some r := H
                                        have A38 := Aside0.mk A380
                                        clear A380
                                        by_cases c39 : t338 = 0
                                        · rw [if_pos c39] at H
                                          have c39b0 : (t338 == 0) = true := beq_iff_eq.mpr c39
                                          have c39b1 : (t338 != 0) = false := bne_eq_false_iff_eq.mpr c39
                                          clear c39
                                          by_cases c40 : t337 < t313
                                          · rw [if_pos c40] at H
                                            have c40b0 : decide (t337 < t313) = true := decide_eq_true c40
                                            clear c40
                                            obtain rfl := Option.some.inj H
                                            try go_wp2
                                            have n0_ := Aside0.mk (Kd.R_drew HO_7.out)
                                            have n1_ := Aside0.mk (below_drew1 HB.out)
                                            clear HO_7
                                            clear HB
                                            have HO_7 := n0_
                                            have HB := n1_
                                            clear n0_ n1_
                                            have q42 : (x13_4 : Int) ≤ ((t307.length : Int) : Int) := of_decide_eq_true (by first | (with_reducible assumption) | assumption)
                                            obtain ⟨i042, hi042, _, hsz42, _⟩ := info_parts info3
                                            have hroom42 : t307.length ≤ co14 := (Kd.R_reads' HO_7.out).2.1
                                            have hC42 : Kd.C (Kd.int .i64) _ Ao14 t307.length t307 := (Kd.R_reads' HO_7.out).2.2
                                            have hcut42 := cut_to (P := Try.prog) 25 3 .i64 Try.underlying25 hi042 Ao14 t307.length co14 x13_4 (of_decide_eq_true (by first | (with_reducible assumption) | assumption)) q42 hroom42
                                            have hr42 := Kd.C_take (m := (x13_4 : Int).toNat) hC42 (by omega)
                                            have hy42 : y323.length = (x13_4 : Int).toNat := (by rw [Ny323.out, List.length_take]; omega)
                                            rw [← Ny323.out] at hr42
                                            rw [← hy42] at hcut42
                                            have HR326 := Aside0.mk hr42
                                            have HC326 := Aside0.mk (show y323.length ≤ co14 from by omega)
                                            clear hr42 hC42 hroom42 hi042 hsz42
                                            have KY42 := Aside0.mk hy42
                                            clear hy42
                                            have KL42 := Aside0.mk (show (x13_4 : Int).toNat ≤ t307.length from by omega)
                                            replace q42 := eq_true q42
                                            have q43 : ((ji34) : Int) ≤ ((t307.length : Int) : Int) := of_decide_eq_true (by first | (with_reducible assumption) | assumption)
                                            obtain ⟨i043, hi043, _, hsz43, _⟩ := info_parts info3
                                            have hroom43 : t307.length ≤ co14 := (Kd.R_reads' HO_7.out).2.1
                                            have hC43 : Kd.C (Kd.int .i64) _ Ao14 t307.length t307 := (Kd.R_reads' HO_7.out).2.2
                                            have q043 : (0 : Int) ≤ ((ji34) : Int) := of_decide_eq_true (by first | (with_reducible assumption) | assumption)
                                            have hcut43 := cut_from (P := Try.prog) 25 3 .i64 Try.underlying25 hi043 1 hsz43 Ao14 t307.length co14 (ji34) q043 q43
                                            have hr43 := Kd.C_drop (m := ((ji34) : Int).toNat) (c := co14) hC43 (by omega) hroom43
                                            obtain ⟨A43, hA43⟩ : ∃ A1, A1 = (if co14 = ((ji34) : Int).toNat then Ao14 else (Ao14 : Option Addr).map (·.add (((ji34) : Int).toNat * 1))) := ⟨_, rfl⟩
                                            obtain ⟨c43, hc43⟩ : ∃ c1, c1 = co14 - ((ji34) : Int).toNat := ⟨_, rfl⟩
                                            have hy43 : y330.length = t307.length - ((ji34) : Int).toNat := (by rw [Ny330.out, List.length_drop] <;> omega)
                                            rw [show (t307).drop ((ji34) : Int).toNat = y330 from Ny330.out.symm] at hr43
                                            replace hr43 : Kd.C (Kd.int .i64) _ A43 y330.length y330 := (by rw [hA43]; exact hr43)
                                            rw [← hy43, ← hA43, ← hc43] at hcut43
                                            have HR333 := Aside0.mk hr43
                                            have HC333 := Aside0.mk (show y330.length ≤ c43 from by rw [hy43, hc43]; exact Nat.sub_le_sub_right hroom43 _)
                                            clear hr43 hC43 hroom43 hi043 hsz43 hc43
                                            have KY43 := Aside0.mk hy43
                                            have KA43 := Aside0.mk hA43
                                            clear hy43 hA43
                                            have KL43 := Aside0.mk (show ((ji34) : Int).toNat ≤ t307.length from by omega)
                                            replace q43 := eq_true q43
                                            refine start_ (n := 11) (S := fun w' => True) (ds := []) #[false, false, false, false, false, false, false, false, false, false, false] (by kernel_rfl) rfl rfl trivial (fun hHeld => ?_); refine with_tabW styluslaw19_BestLeast.tab15 styluslaw19_BestLeast.bits15 (fun HT_ HW_ => ?_)
                                            generalize wr.drew = w41 at HO_7 HB HR326 HR333 hHeld ⊢
                                            refine pure_ (i := 1) (N := some 106) (v := ?_) (a' := ?_) #[false, true, false, false, false, false, false, false, false, false, false] rfl rfl (any_of HT_.out (by kernel_rfl)) (fun _ _ _ h => h) (Or.inl ⟨by rfl, ?_⟩) ?_ ?_
                                            rotate_left
                                            · intro w'
                                              go_simp
                                              with_reducible rfl
                                            rotate_left
                                            · simp only [Act.put, List.setIfInBounds_toArray, List.set_cons_zero, List.set_cons_succ, i64_w, i32_w]
                                              rfl
                                            refine pure_ (i := 2) (N := some 107) (v := ?_) (a' := ?_) #[false, true, true, false, false, false, false, false, false, false, false] rfl rfl (any_of HT_.out (by kernel_rfl)) (fun _ _ _ h => h) (Or.inl ⟨by rfl, ?_⟩) ?_ ?_
                                            rotate_left
                                            · intro w'
                                              go_simp
                                              with_reducible rfl
                                            rotate_left
                                            · simp only [Act.put, List.setIfInBounds_toArray, List.set_cons_zero, List.set_cons_succ, i64_w, i32_w]
                                              rfl
                                            refine pure_ (i := 3) (N := some 108) (v := ?_) (a' := ?_) #[false, true, true, true, false, false, false, false, false, false, false] rfl rfl (any_of HT_.out (by kernel_rfl)) (fun _ _ _ h => h) (Or.inl ⟨by rfl, ?_⟩) ?_ ?_
                                            rotate_left
                                            · intro w'
                                              go_simp
                                              with_reducible rfl
                                            rotate_left
                                            · simp only [Act.put, List.setIfInBounds_toArray, List.set_cons_zero, List.set_cons_succ, i64_w, i32_w]
                                              rfl
                                            refine pure_ (i := 5) (N := some 110) (v := ?_) (a' := ?_) #[false, true, true, true, false, true, false, false, false, false, false] rfl rfl (any_of HT_.out (by kernel_rfl)) (fun _ _ _ h => h) (Or.inl ⟨by rfl, ?_⟩) ?_ ?_
                                            rotate_left
                                            · intro w'
                                              go_simp
                                              with_reducible rfl
                                            rotate_left
                                            · simp only [Act.put, List.setIfInBounds_toArray, List.set_cons_zero, List.set_cons_succ, i64_w, i32_w]
                                              rfl
                                            refine pure_ (i := 6) (N := some 111) (v := ?_) (a' := ?_) #[false, true, true, true, false, true, true, false, false, false, false] rfl rfl (any_of HT_.out (by kernel_rfl)) (fun _ _ _ h => h) (Or.inl ⟨by rfl, ?_⟩) ?_ ?_
                                            rotate_left
                                            · intro w'
                                              go_simp
                                              with_reducible rfl
                                            rotate_left
                                            · simp only [Act.put, List.setIfInBounds_toArray, List.set_cons_zero, List.set_cons_succ, i64_w, i32_w]
                                              rfl
                                            refine pure_ (i := 7) (N := some 112) (v := ?_) (a' := ?_) #[false, true, true, true, false, true, true, true, false, false, false] rfl rfl (any_of HT_.out (by kernel_rfl)) (fun _ _ _ h => h) (Or.inl ⟨by rfl, ?_⟩) ?_ ?_
                                            rotate_left
                                            · intro w'
                                              go_simp
                                              with_reducible rfl
                                            rotate_left
                                            · simp only [Act.put, List.setIfInBounds_toArray, List.set_cons_zero, List.set_cons_succ, i64_w, i32_w]
                                              rfl
                                            refine pure_ (i := 8) (N := some 113) (v := ?_) (a' := ?_) #[false, true, true, true, false, true, true, true, true, false, false] rfl rfl (any_of HT_.out (by kernel_rfl)) (fun _ _ _ h => h) (Or.inl ⟨by rfl, ?_⟩) ?_ ?_
                                            rotate_left
                                            · intro w'
                                              go_simp
                                              with_reducible rfl
                                            rotate_left
                                            · simp only [Act.put, List.setIfInBounds_toArray, List.set_cons_zero, List.set_cons_succ, i64_w, i32_w]
                                              rfl
                                            refine one_ (i := 0) (N := some 105) #[true, true, true, true, false, true, true, true, true, false, false] rfl rfl (one_of HT_.out (by kernel_rfl)) (by decide) (fun K hK => ?_)
                                            refine Kd.R_lit_step (Kd.int .i64) _ 3 ?hg (N := 105) ?hd (xs := ([] : List Int)) (inner := []) (ok := fun _ => True) (okp := fun _ => True) ?hr ?hp (fun _ hk => hk) trivial (Below.refl _ _) (Nat.le_refl _) (by simp) ?_; (case hd => rfl); (case hg => rfl); (case hr => first | (go_simp; done) | (go_simp; rfl)); (case hp => exact (Reps.none _ _))
                                            intro v321 w44 ho45 hb hg_ hnew_
                                            clear hg_ hnew_
                                            (first | rw [← Ny320.out] at ho45 | (simp only [Int.reduceToNat] at ho45; rw [← Ny320.out] at ho45))
                                            have n0_ := Aside0.mk (Kd.R_elder' (by (with_reducible repeat (first | apply Kd.R_alloc | apply Kd.R_drewN | apply Kd.R_drew)); exact HO_7.out) (Kd.R_base ho45) hb)
                                            have n1_ := Aside0.mk (Kd.R_lower (Kd.R_new' ho45 (Kd.R_lt (by (with_reducible repeat (first | apply Kd.R_alloc | apply Kd.R_drewN | apply Kd.R_drew)); exact HO_7.out))) (below_size (by repeat (first | (with_reducible first | exact HB.out | apply below_alloc | apply pw_below_drewN | apply below_drew1) | exact HB.out))))
                                            have n2_ := Aside0.mk (Kd.C_below (by repeat (first | (with_reducible exact HR326.out) | (with_reducible refine Kd.C_alloc ?_ _) | (with_reducible refine Kd.C_drewN ?_ _) | (with_reducible refine Kd.C_drew ?_) | exact HR326.out)) hb)
                                            have n3_ := Aside0.mk (Kd.C_below (by repeat (first | (with_reducible exact HR333.out) | (with_reducible refine Kd.C_alloc ?_ _) | (with_reducible refine Kd.C_drewN ?_ _) | (with_reducible refine Kd.C_drew ?_) | exact HR333.out)) hb)
                                            have n4_ := Aside0.mk (below_step (by repeat (first | (with_reducible first | exact HB.out | apply below_alloc | apply pw_below_drewN | apply below_drew1) | exact HB.out)) hb)
                                            clear HO_7
                                            clear HR326
                                            clear HR333
                                            clear HB
                                            have HO_7 := n0_
                                            have HO322 := n1_
                                            have HR326 := n2_
                                            have HR333 := n3_
                                            have HB := n4_
                                            clear n0_ n1_ n2_ n3_ n4_
                                            clear hb ho45
                                            refine hK.out _ _ trivial (fun hHeld => ?_)
                                            clear hK K
                                            refine norm_ (a' := ?_) ?_ ?_
                                            rotate_left
                                            · show Act.put _ (some 105) _ = _
                                              simp only [Act.put, List.setIfInBounds_toArray, List.set_cons_zero, List.set_cons_succ, i64_w, i32_w]
                                              rfl
                                            refine one_ (i := 4) (N := some 109) #[true, true, true, true, true, true, true, true, true, false, false] rfl rfl (one_of HT_.out (by kernel_rfl)) (by decide) (fun K hK => ?_)
                                            refine Kd.R_append_rows_step (Kd.int .i64) (w0 := w) w.heap.size (by rfl) (.tmp 105) (.tmp 108) 25 3 (.int .i64 0) 8 rfl Try.underlying25 info3 rfl (by decide) (by omega) v321 y320 y323 _ _ _ (fun k_ => some k_ ≠ (.slice Ao14 t307.length co14 : Value).ownBlock) (fun _ => False) rfl rfl ?aO ?aR (fun _ _ h => h) (fun _ h => h.elim) ?aF ?aB ?aS ?aL ?_
                                            (case aR => repeat (first | exact (by repeat (first | (with_reducible exact HR326.out) | (with_reducible refine Kd.C_alloc ?_ _) | (with_reducible refine Kd.C_drewN ?_ _) | (with_reducible refine Kd.C_drew ?_) | exact HR326.out)) | (with_reducible refine Kd.C_alloc ?_ _) | (with_reducible refine Kd.C_drewN ?_ _) | (with_reducible refine Kd.C_drew ?_)))
                                            (case aB => exact (by repeat (first | (with_reducible first | exact HB.out | apply below_alloc | apply pw_below_drewN | apply below_drew1) | exact HB.out)))
                                            (case aF => exact (fun k_ hk => Kd.fresh' (Kd.R_lt (by (with_reducible repeat (first | apply Kd.R_alloc | apply Kd.R_drewN | apply Kd.R_drew)); exact HO_7.out)) k_ hk))
                                            (case aO => exact (by (with_reducible repeat (first | apply Kd.R_alloc | apply Kd.R_drewN | apply Kd.R_drew)); exact Kd.R_mono HO322.out (fun _ hk => hk.2)))
                                            (case aS => exact (below_size (by repeat (first | (with_reducible first | exact HB.out | apply below_alloc | apply pw_below_drewN | apply below_drew1) | exact HB.out))))
                                            (case aL => have := LMc33.out; omega)
                                            intro v328 w46 ho hb hg hat
                                            rw [← Ny327.out] at ho
                                            have n0_ := Aside0.mk (Kd.R_after (ok := (fun _ => True)) (by (with_reducible repeat (first | apply Kd.R_alloc | apply Kd.R_drewN | apply Kd.R_drew)); exact HO_7.out) hg hat)
                                            have n1_ := Aside0.mk (hb)
                                            have n2_ := Aside0.mk ((show Kd.C (Kd.int .i64) w46 Ao14 y323.length y323 from by rw [Ny323.out]; exact Kd.C_take (m := (x13_4 : Int).toNat) ((Kd.R_reads' (Kd.R_after (ok := (fun _ => True)) (by (with_reducible repeat (first | apply Kd.R_alloc | apply Kd.R_drewN | apply Kd.R_drew)); exact HO_7.out) hg hat)).2.2) KL42.out))
                                            have n3_ := Aside0.mk ((show Kd.C (Kd.int .i64) w46 A43 y330.length y330 from by rw [Ny330.out, KA43.out]; exact Kd.C_drop (m := ((ji34) : Int).toNat) (c := co14) ((Kd.R_reads' (Kd.R_after (ok := (fun _ => True)) (by (with_reducible repeat (first | apply Kd.R_alloc | apply Kd.R_drewN | apply Kd.R_drew)); exact HO_7.out) hg hat)).2.2) KL43.out ((Kd.R_reads' (Kd.R_after (ok := (fun _ => True)) (by (with_reducible repeat (first | apply Kd.R_alloc | apply Kd.R_drewN | apply Kd.R_drew)); exact HO_7.out) hg hat)).2.1)))
                                            have n4_ := Aside0.mk (ho)
                                            clear HO_7
                                            clear HB
                                            clear HR326
                                            clear HR333
                                            clear HO322
                                            have HO_7 := n0_
                                            have HB := n1_
                                            have HR326 := n2_
                                            have HR333 := n3_
                                            have HO329 := n4_
                                            clear n0_ n1_ n2_ n3_ n4_
                                            clear ho hb hg hat
                                            refine hK.out _ _ trivial (fun hHeld => ?_)
                                            clear hK K
                                            refine norm_ (a' := ?_) ?_ ?_
                                            rotate_left
                                            · show Act.put _ (some 109) _ = _
                                              simp only [Act.put, List.setIfInBounds_toArray, List.set_cons_zero, List.set_cons_succ, i64_w, i32_w]
                                              rfl
                                            refine one_ (i := 9) (N := some 114) #[true, true, true, true, true, true, true, true, true, true, false] rfl rfl (one_of HT_.out (by kernel_rfl)) (by decide) (fun K hK => ?_)
                                            refine Kd.R_append_rows_step (Kd.int .i64) (w0 := w) w.heap.size (by rfl) (.tmp 109) (.tmp 113) 25 3 (.int .i64 0) 8 rfl Try.underlying25 info3 rfl (by decide) (by omega) v328 y327 y330 _ _ _ (fun k_ => some k_ ≠ (.slice Ao14 t307.length co14 : Value).ownBlock) (fun _ => False) rfl rfl ?aO ?aR (fun _ _ h => h) (fun _ h => h.elim) ?aF ?aB ?aS ?aL ?_
                                            (case aR => repeat (first | exact (by repeat (first | (with_reducible exact HR333.out) | (with_reducible refine Kd.C_alloc ?_ _) | (with_reducible refine Kd.C_drewN ?_ _) | (with_reducible refine Kd.C_drew ?_) | exact HR333.out)) | (with_reducible refine Kd.C_alloc ?_ _) | (with_reducible refine Kd.C_drewN ?_ _) | (with_reducible refine Kd.C_drew ?_)))
                                            (case aB => exact (by repeat (first | (with_reducible first | exact HB.out | apply below_alloc | apply pw_below_drewN | apply below_drew1) | exact HB.out)))
                                            (case aF => exact (fun k_ hk => Kd.fresh' (Kd.R_lt (by (with_reducible repeat (first | apply Kd.R_alloc | apply Kd.R_drewN | apply Kd.R_drew)); exact HO_7.out)) k_ hk))
                                            (case aO => exact (by (with_reducible repeat (first | apply Kd.R_alloc | apply Kd.R_drewN | apply Kd.R_drew)); exact HO329.out))
                                            (case aS => exact (below_size (by repeat (first | (with_reducible first | exact HB.out | apply below_alloc | apply pw_below_drewN | apply below_drew1) | exact HB.out))))
                                            (case aL => have := LMc37.out; omega)
                                            intro v335 w47 ho hb hg hat
                                            rw [← Ny334.out] at ho
                                            have n0_ := Aside0.mk (Kd.R_after (ok := (fun _ => True)) (by (with_reducible repeat (first | apply Kd.R_alloc | apply Kd.R_drewN | apply Kd.R_drew)); exact HO_7.out) hg hat)
                                            have n1_ := Aside0.mk (hb)
                                            have n2_ := Aside0.mk ((show Kd.C (Kd.int .i64) w47 Ao14 y323.length y323 from by rw [Ny323.out]; exact Kd.C_take (m := (x13_4 : Int).toNat) ((Kd.R_reads' (Kd.R_after (ok := (fun _ => True)) (by (with_reducible repeat (first | apply Kd.R_alloc | apply Kd.R_drewN | apply Kd.R_drew)); exact HO_7.out) hg hat)).2.2) KL42.out))
                                            have n3_ := Aside0.mk ((show Kd.C (Kd.int .i64) w47 A43 y330.length y330 from by rw [Ny330.out, KA43.out]; exact Kd.C_drop (m := ((ji34) : Int).toNat) (c := co14) ((Kd.R_reads' (Kd.R_after (ok := (fun _ => True)) (by (with_reducible repeat (first | apply Kd.R_alloc | apply Kd.R_drewN | apply Kd.R_drew)); exact HO_7.out) hg hat)).2.2) KL43.out ((Kd.R_reads' (Kd.R_after (ok := (fun _ => True)) (by (with_reducible repeat (first | apply Kd.R_alloc | apply Kd.R_drewN | apply Kd.R_drew)); exact HO_7.out) hg hat)).2.1)))
                                            have n4_ := Aside0.mk (ho)
                                            clear HO_7
                                            clear HB
                                            clear HR326
                                            clear HR333
                                            clear HO329
                                            have HO_7 := n0_
                                            have HB := n1_
                                            have HR326 := n2_
                                            have HR333 := n3_
                                            have HO336 := n4_
                                            clear n0_ n1_ n2_ n3_ n4_
                                            clear ho hb hg hat
                                            refine hK.out _ _ trivial (fun hHeld => ?_)
                                            clear hK K
                                            refine norm_ (a' := ?_) ?_ ?_
                                            rotate_left
                                            · show Act.put _ (some 114) _ = _
                                              simp only [Act.put, List.setIfInBounds_toArray, List.set_cons_zero, List.set_cons_succ, i64_w, i32_w]
                                              rfl
                                            refine pure_ (i := 10) (N := some 14) (v := ?_) (a' := ?_) #[true, true, true, true, true, true, true, true, true, true, true] rfl rfl (any_of HT_.out (by kernel_rfl)) (fun _ _ _ h => h) (Or.inl ⟨by rfl, ?_⟩) ?_ ?_
                                            rotate_left
                                            · intro w'
                                              go_simp
                                              with_reducible rfl
                                            rotate_left
                                            · simp only [Act.put, List.setIfInBounds_toArray, List.set_cons_zero, List.set_cons_succ, i64_w, i32_w]
                                              rfl
                                            refine done_ (done_of HT_.out (by kernel_rfl)) ?_
                                            obtain ⟨Ao48, co48, eo48⟩ := Kd.R_slice HO336.out
                                            subst eo48
                                            try go_wp2_with (first | ((with_reducible refine gate_callee (f := 21) rfl ?_); refine goesL_ (some 119) rfl rfl Try.func21 (by kernel_rfl) rfl #[.slice A0 l0.length c0, .int .i64 a1, .slice Ao48 y334.length co48] rfl (by (try simp only [List.map_toArray, List.map_cons, List.map_nil]); first | done | rfl | (simp only [List.length_drop, List.length_take]; rfl)) ?_; (with_reducible refine (best_Demerits.calls _ _ l0 a1 _ _ y334 t337 t338 _ ?side1 ?side2 ?side3 ?side4 A38.out).mono ?_); (case side1 => repeat (first | exact (Kd.C_below HR0.out HB.out) | (with_reducible refine Kd.C_alloc ?_ _) | (with_reducible refine Kd.C_drewN ?_ _) | (with_reducible refine Kd.C_drew ?_))); (case side2 => exact HC0.out); (case side3 => repeat (first | exact (Kd.R_reads' HO336.out).2.2 | (with_reducible refine Kd.C_alloc ?_ _) | (with_reducible refine Kd.C_drewN ?_ _) | (with_reducible refine Kd.C_drew ?_))); (case side4 => exact (Kd.R_reads' HO336.out).2.1); rintro e w49 ⟨rfl, hb⟩; refine ⟨_, rfl, ?_⟩; have n0_ := Aside0.mk (Kd.R_below (by (with_reducible repeat (first | apply Kd.R_alloc | apply Kd.R_drewN | apply Kd.R_drew)); exact HO_7.out) hb); have n1_ := Aside0.mk (Kd.R_below (by (with_reducible repeat (first | apply Kd.R_alloc | apply Kd.R_drewN | apply Kd.R_drew)); exact HO336.out) hb); have n2_ := Aside0.mk (Kd.C_below (by repeat (first | (with_reducible exact HR326.out) | (with_reducible refine Kd.C_alloc ?_ _) | (with_reducible refine Kd.C_drewN ?_ _) | (with_reducible refine Kd.C_drew ?_) | exact HR326.out)) hb); have n3_ := Aside0.mk (Kd.C_below (by repeat (first | (with_reducible exact HR333.out) | (with_reducible refine Kd.C_alloc ?_ _) | (with_reducible refine Kd.C_drewN ?_ _) | (with_reducible refine Kd.C_drew ?_) | exact HR333.out)) hb); have n4_ := Aside0.mk (below_step (by repeat (first | (with_reducible first | exact HB.out | apply below_alloc | apply pw_below_drewN | apply below_drew1) | exact HB.out)) hb); clear HO_7; clear HO336; clear HR326; clear HR333; clear HB; have HO_7 := n0_; have HO336 := n1_; have HR326 := n2_; have HR333 := n3_; have HB := n4_; clear n0_ n1_ n2_ n3_ n4_; (try clear hb); (try clear hb2); (try clear hk); (try clear hi)))
                                            go_ret
                                            exact ⟨by first | rfl | (simp [errW_none, errW_some] <;> rfl) | (simp only [← hji34]; first | rfl | (simp [errW_none, errW_some] <;> rfl)) | (simp [*, errW_none, errW_some] <;> rfl), by repeat (first | (with_reducible first | exact HB.out | apply below_alloc | apply pw_below_drewN | apply below_drew1) | exact HB.out)⟩
                                          · rw [if_neg c40] at H
                                            have c40b0 : decide (t337 < t313) = false := decide_eq_false c40
                                            clear c40
                                            have H' := Aside0.mk H
                                            clear H
                                            try go_wp2
                                            have n0_ := Aside0.mk (Kd.R_drew HO_7.out)
                                            have n1_ := Aside0.mk (below_drew1 HB.out)
                                            clear HO_7
                                            clear HB
                                            have HO_7 := n0_
                                            have HB := n1_
                                            clear n0_ n1_
                                            have q51 : (x13_4 : Int) ≤ ((t307.length : Int) : Int) := of_decide_eq_true (by first | (with_reducible assumption) | assumption)
                                            obtain ⟨i051, hi051, _, hsz51, _⟩ := info_parts info3
                                            have hroom51 : t307.length ≤ co14 := (Kd.R_reads' HO_7.out).2.1
                                            have hC51 : Kd.C (Kd.int .i64) _ Ao14 t307.length t307 := (Kd.R_reads' HO_7.out).2.2
                                            have hcut51 := cut_to (P := Try.prog) 25 3 .i64 Try.underlying25 hi051 Ao14 t307.length co14 x13_4 (of_decide_eq_true (by first | (with_reducible assumption) | assumption)) q51 hroom51
                                            have hr51 := Kd.C_take (m := (x13_4 : Int).toNat) hC51 (by omega)
                                            have hy51 : y323.length = (x13_4 : Int).toNat := (by rw [Ny323.out, List.length_take]; omega)
                                            rw [← Ny323.out] at hr51
                                            rw [← hy51] at hcut51
                                            have HR326 := Aside0.mk hr51
                                            have HC326 := Aside0.mk (show y323.length ≤ co14 from by omega)
                                            clear hr51 hC51 hroom51 hi051 hsz51
                                            have KY51 := Aside0.mk hy51
                                            clear hy51
                                            have KL51 := Aside0.mk (show (x13_4 : Int).toNat ≤ t307.length from by omega)
                                            replace q51 := eq_true q51
                                            have q52 : ((ji34) : Int) ≤ ((t307.length : Int) : Int) := of_decide_eq_true (by first | (with_reducible assumption) | assumption)
                                            obtain ⟨i052, hi052, _, hsz52, _⟩ := info_parts info3
                                            have hroom52 : t307.length ≤ co14 := (Kd.R_reads' HO_7.out).2.1
                                            have hC52 : Kd.C (Kd.int .i64) _ Ao14 t307.length t307 := (Kd.R_reads' HO_7.out).2.2
                                            have q052 : (0 : Int) ≤ ((ji34) : Int) := of_decide_eq_true (by first | (with_reducible assumption) | assumption)
                                            have hcut52 := cut_from (P := Try.prog) 25 3 .i64 Try.underlying25 hi052 1 hsz52 Ao14 t307.length co14 (ji34) q052 q52
                                            have hr52 := Kd.C_drop (m := ((ji34) : Int).toNat) (c := co14) hC52 (by omega) hroom52
                                            obtain ⟨A52, hA52⟩ : ∃ A1, A1 = (if co14 = ((ji34) : Int).toNat then Ao14 else (Ao14 : Option Addr).map (·.add (((ji34) : Int).toNat * 1))) := ⟨_, rfl⟩
                                            obtain ⟨c52, hc52⟩ : ∃ c1, c1 = co14 - ((ji34) : Int).toNat := ⟨_, rfl⟩
                                            have hy52 : y330.length = t307.length - ((ji34) : Int).toNat := (by rw [Ny330.out, List.length_drop] <;> omega)
                                            rw [show (t307).drop ((ji34) : Int).toNat = y330 from Ny330.out.symm] at hr52
                                            replace hr52 : Kd.C (Kd.int .i64) _ A52 y330.length y330 := (by rw [hA52]; exact hr52)
                                            rw [← hy52, ← hA52, ← hc52] at hcut52
                                            have HR333 := Aside0.mk hr52
                                            have HC333 := Aside0.mk (show y330.length ≤ c52 from by rw [hy52, hc52]; exact Nat.sub_le_sub_right hroom52 _)
                                            clear hr52 hC52 hroom52 hi052 hsz52 hc52
                                            have KY52 := Aside0.mk hy52
                                            have KA52 := Aside0.mk hA52
                                            clear hy52 hA52
                                            have KL52 := Aside0.mk (show ((ji34) : Int).toNat ≤ t307.length from by omega)
                                            replace q52 := eq_true q52
                                            refine start_ (n := 11) (S := fun w' => True) (ds := []) #[false, false, false, false, false, false, false, false, false, false, false] (by kernel_rfl) rfl rfl trivial (fun hHeld => ?_); refine with_tabW styluslaw19_BestLeast.tab15 styluslaw19_BestLeast.bits15 (fun HT_ HW_ => ?_)
                                            generalize wr.drew = w50 at HO_7 HB HR326 HR333 hHeld ⊢
                                            refine pure_ (i := 1) (N := some 106) (v := ?_) (a' := ?_) #[false, true, false, false, false, false, false, false, false, false, false] rfl rfl (any_of HT_.out (by kernel_rfl)) (fun _ _ _ h => h) (Or.inl ⟨by rfl, ?_⟩) ?_ ?_
                                            rotate_left
                                            · intro w'
                                              go_simp
                                              with_reducible rfl
                                            rotate_left
                                            · simp only [Act.put, List.setIfInBounds_toArray, List.set_cons_zero, List.set_cons_succ, i64_w, i32_w]
                                              rfl
                                            refine pure_ (i := 2) (N := some 107) (v := ?_) (a' := ?_) #[false, true, true, false, false, false, false, false, false, false, false] rfl rfl (any_of HT_.out (by kernel_rfl)) (fun _ _ _ h => h) (Or.inl ⟨by rfl, ?_⟩) ?_ ?_
                                            rotate_left
                                            · intro w'
                                              go_simp
                                              with_reducible rfl
                                            rotate_left
                                            · simp only [Act.put, List.setIfInBounds_toArray, List.set_cons_zero, List.set_cons_succ, i64_w, i32_w]
                                              rfl
                                            refine pure_ (i := 3) (N := some 108) (v := ?_) (a' := ?_) #[false, true, true, true, false, false, false, false, false, false, false] rfl rfl (any_of HT_.out (by kernel_rfl)) (fun _ _ _ h => h) (Or.inl ⟨by rfl, ?_⟩) ?_ ?_
                                            rotate_left
                                            · intro w'
                                              go_simp
                                              with_reducible rfl
                                            rotate_left
                                            · simp only [Act.put, List.setIfInBounds_toArray, List.set_cons_zero, List.set_cons_succ, i64_w, i32_w]
                                              rfl
                                            refine pure_ (i := 5) (N := some 110) (v := ?_) (a' := ?_) #[false, true, true, true, false, true, false, false, false, false, false] rfl rfl (any_of HT_.out (by kernel_rfl)) (fun _ _ _ h => h) (Or.inl ⟨by rfl, ?_⟩) ?_ ?_
                                            rotate_left
                                            · intro w'
                                              go_simp
                                              with_reducible rfl
                                            rotate_left
                                            · simp only [Act.put, List.setIfInBounds_toArray, List.set_cons_zero, List.set_cons_succ, i64_w, i32_w]
                                              rfl
                                            refine pure_ (i := 6) (N := some 111) (v := ?_) (a' := ?_) #[false, true, true, true, false, true, true, false, false, false, false] rfl rfl (any_of HT_.out (by kernel_rfl)) (fun _ _ _ h => h) (Or.inl ⟨by rfl, ?_⟩) ?_ ?_
                                            rotate_left
                                            · intro w'
                                              go_simp
                                              with_reducible rfl
                                            rotate_left
                                            · simp only [Act.put, List.setIfInBounds_toArray, List.set_cons_zero, List.set_cons_succ, i64_w, i32_w]
                                              rfl
                                            refine pure_ (i := 7) (N := some 112) (v := ?_) (a' := ?_) #[false, true, true, true, false, true, true, true, false, false, false] rfl rfl (any_of HT_.out (by kernel_rfl)) (fun _ _ _ h => h) (Or.inl ⟨by rfl, ?_⟩) ?_ ?_
                                            rotate_left
                                            · intro w'
                                              go_simp
                                              with_reducible rfl
                                            rotate_left
                                            · simp only [Act.put, List.setIfInBounds_toArray, List.set_cons_zero, List.set_cons_succ, i64_w, i32_w]
                                              rfl
                                            refine pure_ (i := 8) (N := some 113) (v := ?_) (a' := ?_) #[false, true, true, true, false, true, true, true, true, false, false] rfl rfl (any_of HT_.out (by kernel_rfl)) (fun _ _ _ h => h) (Or.inl ⟨by rfl, ?_⟩) ?_ ?_
                                            rotate_left
                                            · intro w'
                                              go_simp
                                              with_reducible rfl
                                            rotate_left
                                            · simp only [Act.put, List.setIfInBounds_toArray, List.set_cons_zero, List.set_cons_succ, i64_w, i32_w]
                                              rfl
                                            refine one_ (i := 0) (N := some 105) #[true, true, true, true, false, true, true, true, true, false, false] rfl rfl (one_of HT_.out (by kernel_rfl)) (by decide) (fun K hK => ?_)
                                            refine Kd.R_lit_step (Kd.int .i64) _ 3 ?hg (N := 105) ?hd (xs := ([] : List Int)) (inner := []) (ok := fun _ => True) (okp := fun _ => True) ?hr ?hp (fun _ hk => hk) trivial (Below.refl _ _) (Nat.le_refl _) (by simp) ?_; (case hd => rfl); (case hg => rfl); (case hr => first | (go_simp; done) | (go_simp; rfl)); (case hp => exact (Reps.none _ _))
                                            intro v321 w53 ho54 hb hg_ hnew_
                                            clear hg_ hnew_
                                            (first | rw [← Ny320.out] at ho54 | (simp only [Int.reduceToNat] at ho54; rw [← Ny320.out] at ho54))
                                            have n0_ := Aside0.mk (Kd.R_elder' (by (with_reducible repeat (first | apply Kd.R_alloc | apply Kd.R_drewN | apply Kd.R_drew)); exact HO_7.out) (Kd.R_base ho54) hb)
                                            have n1_ := Aside0.mk (Kd.R_lower (Kd.R_new' ho54 (Kd.R_lt (by (with_reducible repeat (first | apply Kd.R_alloc | apply Kd.R_drewN | apply Kd.R_drew)); exact HO_7.out))) (below_size (by repeat (first | (with_reducible first | exact HB.out | apply below_alloc | apply pw_below_drewN | apply below_drew1) | exact HB.out))))
                                            have n2_ := Aside0.mk (Kd.C_below (by repeat (first | (with_reducible exact HR326.out) | (with_reducible refine Kd.C_alloc ?_ _) | (with_reducible refine Kd.C_drewN ?_ _) | (with_reducible refine Kd.C_drew ?_) | exact HR326.out)) hb)
                                            have n3_ := Aside0.mk (Kd.C_below (by repeat (first | (with_reducible exact HR333.out) | (with_reducible refine Kd.C_alloc ?_ _) | (with_reducible refine Kd.C_drewN ?_ _) | (with_reducible refine Kd.C_drew ?_) | exact HR333.out)) hb)
                                            have n4_ := Aside0.mk (below_step (by repeat (first | (with_reducible first | exact HB.out | apply below_alloc | apply pw_below_drewN | apply below_drew1) | exact HB.out)) hb)
                                            clear HO_7
                                            clear HR326
                                            clear HR333
                                            clear HB
                                            have HO_7 := n0_
                                            have HO322 := n1_
                                            have HR326 := n2_
                                            have HR333 := n3_
                                            have HB := n4_
                                            clear n0_ n1_ n2_ n3_ n4_
                                            clear hb ho54
                                            refine hK.out _ _ trivial (fun hHeld => ?_)
                                            clear hK K
                                            refine norm_ (a' := ?_) ?_ ?_
                                            rotate_left
                                            · show Act.put _ (some 105) _ = _
                                              simp only [Act.put, List.setIfInBounds_toArray, List.set_cons_zero, List.set_cons_succ, i64_w, i32_w]
                                              rfl
                                            refine one_ (i := 4) (N := some 109) #[true, true, true, true, true, true, true, true, true, false, false] rfl rfl (one_of HT_.out (by kernel_rfl)) (by decide) (fun K hK => ?_)
                                            refine Kd.R_append_rows_step (Kd.int .i64) (w0 := w) w.heap.size (by rfl) (.tmp 105) (.tmp 108) 25 3 (.int .i64 0) 8 rfl Try.underlying25 info3 rfl (by decide) (by omega) v321 y320 y323 _ _ _ (fun k_ => some k_ ≠ (.slice Ao14 t307.length co14 : Value).ownBlock) (fun _ => False) rfl rfl ?aO ?aR (fun _ _ h => h) (fun _ h => h.elim) ?aF ?aB ?aS ?aL ?_
                                            (case aR => repeat (first | exact (by repeat (first | (with_reducible exact HR326.out) | (with_reducible refine Kd.C_alloc ?_ _) | (with_reducible refine Kd.C_drewN ?_ _) | (with_reducible refine Kd.C_drew ?_) | exact HR326.out)) | (with_reducible refine Kd.C_alloc ?_ _) | (with_reducible refine Kd.C_drewN ?_ _) | (with_reducible refine Kd.C_drew ?_)))
                                            (case aB => exact (by repeat (first | (with_reducible first | exact HB.out | apply below_alloc | apply pw_below_drewN | apply below_drew1) | exact HB.out)))
                                            (case aF => exact (fun k_ hk => Kd.fresh' (Kd.R_lt (by (with_reducible repeat (first | apply Kd.R_alloc | apply Kd.R_drewN | apply Kd.R_drew)); exact HO_7.out)) k_ hk))
                                            (case aO => exact (by (with_reducible repeat (first | apply Kd.R_alloc | apply Kd.R_drewN | apply Kd.R_drew)); exact Kd.R_mono HO322.out (fun _ hk => hk.2)))
                                            (case aS => exact (below_size (by repeat (first | (with_reducible first | exact HB.out | apply below_alloc | apply pw_below_drewN | apply below_drew1) | exact HB.out))))
                                            (case aL => have := LMc33.out; omega)
                                            intro v328 w55 ho hb hg hat
                                            rw [← Ny327.out] at ho
                                            have n0_ := Aside0.mk (Kd.R_after (ok := (fun _ => True)) (by (with_reducible repeat (first | apply Kd.R_alloc | apply Kd.R_drewN | apply Kd.R_drew)); exact HO_7.out) hg hat)
                                            have n1_ := Aside0.mk (hb)
                                            have n2_ := Aside0.mk ((show Kd.C (Kd.int .i64) w55 Ao14 y323.length y323 from by rw [Ny323.out]; exact Kd.C_take (m := (x13_4 : Int).toNat) ((Kd.R_reads' (Kd.R_after (ok := (fun _ => True)) (by (with_reducible repeat (first | apply Kd.R_alloc | apply Kd.R_drewN | apply Kd.R_drew)); exact HO_7.out) hg hat)).2.2) KL51.out))
                                            have n3_ := Aside0.mk ((show Kd.C (Kd.int .i64) w55 A52 y330.length y330 from by rw [Ny330.out, KA52.out]; exact Kd.C_drop (m := ((ji34) : Int).toNat) (c := co14) ((Kd.R_reads' (Kd.R_after (ok := (fun _ => True)) (by (with_reducible repeat (first | apply Kd.R_alloc | apply Kd.R_drewN | apply Kd.R_drew)); exact HO_7.out) hg hat)).2.2) KL52.out ((Kd.R_reads' (Kd.R_after (ok := (fun _ => True)) (by (with_reducible repeat (first | apply Kd.R_alloc | apply Kd.R_drewN | apply Kd.R_drew)); exact HO_7.out) hg hat)).2.1)))
                                            have n4_ := Aside0.mk (ho)
                                            clear HO_7
                                            clear HB
                                            clear HR326
                                            clear HR333
                                            clear HO322
                                            have HO_7 := n0_
                                            have HB := n1_
                                            have HR326 := n2_
                                            have HR333 := n3_
                                            have HO329 := n4_
                                            clear n0_ n1_ n2_ n3_ n4_
                                            clear ho hb hg hat
                                            refine hK.out _ _ trivial (fun hHeld => ?_)
                                            clear hK K
                                            refine norm_ (a' := ?_) ?_ ?_
                                            rotate_left
                                            · show Act.put _ (some 109) _ = _
                                              simp only [Act.put, List.setIfInBounds_toArray, List.set_cons_zero, List.set_cons_succ, i64_w, i32_w]
                                              rfl
                                            refine one_ (i := 9) (N := some 114) #[true, true, true, true, true, true, true, true, true, true, false] rfl rfl (one_of HT_.out (by kernel_rfl)) (by decide) (fun K hK => ?_)
                                            refine Kd.R_append_rows_step (Kd.int .i64) (w0 := w) w.heap.size (by rfl) (.tmp 109) (.tmp 113) 25 3 (.int .i64 0) 8 rfl Try.underlying25 info3 rfl (by decide) (by omega) v328 y327 y330 _ _ _ (fun k_ => some k_ ≠ (.slice Ao14 t307.length co14 : Value).ownBlock) (fun _ => False) rfl rfl ?aO ?aR (fun _ _ h => h) (fun _ h => h.elim) ?aF ?aB ?aS ?aL ?_
                                            (case aR => repeat (first | exact (by repeat (first | (with_reducible exact HR333.out) | (with_reducible refine Kd.C_alloc ?_ _) | (with_reducible refine Kd.C_drewN ?_ _) | (with_reducible refine Kd.C_drew ?_) | exact HR333.out)) | (with_reducible refine Kd.C_alloc ?_ _) | (with_reducible refine Kd.C_drewN ?_ _) | (with_reducible refine Kd.C_drew ?_)))
                                            (case aB => exact (by repeat (first | (with_reducible first | exact HB.out | apply below_alloc | apply pw_below_drewN | apply below_drew1) | exact HB.out)))
                                            (case aF => exact (fun k_ hk => Kd.fresh' (Kd.R_lt (by (with_reducible repeat (first | apply Kd.R_alloc | apply Kd.R_drewN | apply Kd.R_drew)); exact HO_7.out)) k_ hk))
                                            (case aO => exact (by (with_reducible repeat (first | apply Kd.R_alloc | apply Kd.R_drewN | apply Kd.R_drew)); exact HO329.out))
                                            (case aS => exact (below_size (by repeat (first | (with_reducible first | exact HB.out | apply below_alloc | apply pw_below_drewN | apply below_drew1) | exact HB.out))))
                                            (case aL => have := LMc37.out; omega)
                                            intro v335 w56 ho hb hg hat
                                            rw [← Ny334.out] at ho
                                            have n0_ := Aside0.mk (Kd.R_after (ok := (fun _ => True)) (by (with_reducible repeat (first | apply Kd.R_alloc | apply Kd.R_drewN | apply Kd.R_drew)); exact HO_7.out) hg hat)
                                            have n1_ := Aside0.mk (hb)
                                            have n2_ := Aside0.mk ((show Kd.C (Kd.int .i64) w56 Ao14 y323.length y323 from by rw [Ny323.out]; exact Kd.C_take (m := (x13_4 : Int).toNat) ((Kd.R_reads' (Kd.R_after (ok := (fun _ => True)) (by (with_reducible repeat (first | apply Kd.R_alloc | apply Kd.R_drewN | apply Kd.R_drew)); exact HO_7.out) hg hat)).2.2) KL51.out))
                                            have n3_ := Aside0.mk ((show Kd.C (Kd.int .i64) w56 A52 y330.length y330 from by rw [Ny330.out, KA52.out]; exact Kd.C_drop (m := ((ji34) : Int).toNat) (c := co14) ((Kd.R_reads' (Kd.R_after (ok := (fun _ => True)) (by (with_reducible repeat (first | apply Kd.R_alloc | apply Kd.R_drewN | apply Kd.R_drew)); exact HO_7.out) hg hat)).2.2) KL52.out ((Kd.R_reads' (Kd.R_after (ok := (fun _ => True)) (by (with_reducible repeat (first | apply Kd.R_alloc | apply Kd.R_drewN | apply Kd.R_drew)); exact HO_7.out) hg hat)).2.1)))
                                            have n4_ := Aside0.mk (ho)
                                            clear HO_7
                                            clear HB
                                            clear HR326
                                            clear HR333
                                            clear HO329
                                            have HO_7 := n0_
                                            have HB := n1_
                                            have HR326 := n2_
                                            have HR333 := n3_
                                            have HO336 := n4_
                                            clear n0_ n1_ n2_ n3_ n4_
                                            clear ho hb hg hat
                                            refine hK.out _ _ trivial (fun hHeld => ?_)
                                            clear hK K
                                            refine norm_ (a' := ?_) ?_ ?_
                                            rotate_left
                                            · show Act.put _ (some 114) _ = _
                                              simp only [Act.put, List.setIfInBounds_toArray, List.set_cons_zero, List.set_cons_succ, i64_w, i32_w]
                                              rfl
                                            refine pure_ (i := 10) (N := some 14) (v := ?_) (a' := ?_) #[true, true, true, true, true, true, true, true, true, true, true] rfl rfl (any_of HT_.out (by kernel_rfl)) (fun _ _ _ h => h) (Or.inl ⟨by rfl, ?_⟩) ?_ ?_
                                            rotate_left
                                            · intro w'
                                              go_simp
                                              with_reducible rfl
                                            rotate_left
                                            · simp only [Act.put, List.setIfInBounds_toArray, List.set_cons_zero, List.set_cons_succ, i64_w, i32_w]
                                              rfl
                                            refine done_ (done_of HT_.out (by kernel_rfl)) ?_
                                            obtain ⟨Ao57, co57, eo57⟩ := Kd.R_slice HO336.out
                                            subst eo57
                                            try go_wp2_with (first | ((with_reducible refine gate_callee (f := 21) rfl ?_); refine goesL_ (some 119) rfl rfl Try.func21 (by kernel_rfl) rfl #[.slice A0 l0.length c0, .int .i64 a1, .slice Ao57 y334.length co57] rfl (by (try simp only [List.map_toArray, List.map_cons, List.map_nil]); first | done | rfl | (simp only [List.length_drop, List.length_take]; rfl)) ?_; (with_reducible refine (best_Demerits.calls _ _ l0 a1 _ _ y334 t337 t338 _ ?side1 ?side2 ?side3 ?side4 A38.out).mono ?_); (case side1 => repeat (first | exact (Kd.C_below HR0.out HB.out) | (with_reducible refine Kd.C_alloc ?_ _) | (with_reducible refine Kd.C_drewN ?_ _) | (with_reducible refine Kd.C_drew ?_))); (case side2 => exact HC0.out); (case side3 => repeat (first | exact (Kd.R_reads' HO336.out).2.2 | (with_reducible refine Kd.C_alloc ?_ _) | (with_reducible refine Kd.C_drewN ?_ _) | (with_reducible refine Kd.C_drew ?_))); (case side4 => exact (Kd.R_reads' HO336.out).2.1); rintro e w58 ⟨rfl, hb⟩; refine ⟨_, rfl, ?_⟩; have n0_ := Aside0.mk (Kd.R_below (by (with_reducible repeat (first | apply Kd.R_alloc | apply Kd.R_drewN | apply Kd.R_drew)); exact HO_7.out) hb); have n1_ := Aside0.mk (Kd.R_below (by (with_reducible repeat (first | apply Kd.R_alloc | apply Kd.R_drewN | apply Kd.R_drew)); exact HO336.out) hb); have n2_ := Aside0.mk (Kd.C_below (by repeat (first | (with_reducible exact HR326.out) | (with_reducible refine Kd.C_alloc ?_ _) | (with_reducible refine Kd.C_drewN ?_ _) | (with_reducible refine Kd.C_drew ?_) | exact HR326.out)) hb); have n3_ := Aside0.mk (Kd.C_below (by repeat (first | (with_reducible exact HR333.out) | (with_reducible refine Kd.C_alloc ?_ _) | (with_reducible refine Kd.C_drewN ?_ _) | (with_reducible refine Kd.C_drew ?_) | exact HR333.out)) hb); have n4_ := Aside0.mk (below_step (by repeat (first | (with_reducible first | exact HB.out | apply below_alloc | apply pw_below_drewN | apply below_drew1) | exact HB.out)) hb); clear HO_7; clear HO336; clear HR326; clear HR333; clear HB; have HO_7 := n0_; have HO336 := n1_; have HR326 := n2_; have HR333 := n3_; have HB := n4_; clear n0_ n1_ n2_ n3_ n4_; (try clear hb); (try clear hb2); (try clear hk); (try clear hi)))
                                            go_roundg k4
                                            case measure => have := HJ3.out; have := HJ11.out; have := HJ22.out; have := HK4.out; omega
                                            case rel => exact ⟨(ji34), (by first | rfl | (simp; done) | (simp only [← hji34] <;> (first | rfl | simp)) | (simp [*]; done)), H', ⟨by have := HJ3.out; have := HJ11.out; have := HJ22.out; have := HK4.out; omega⟩, ⟨by (with_reducible repeat (first | apply Kd.R_alloc | apply Kd.R_drewN | apply Kd.R_drew)); exact Kd.R_mono HO_7.out (fun _ hk => trivial)⟩, ⟨by repeat (first | (with_reducible first | exact HB.out | apply below_alloc | apply pw_below_drewN | apply below_drew1) | exact HB.out)⟩⟩
                                        · rw [if_neg c39] at H
                                          have c39b0 : (t338 == 0) = false := beq_eq_false_iff_ne.mpr c39
                                          have c39b1 : (t338 != 0) = true := bne_iff_ne.mpr c39
                                          have H' := Aside0.mk H
                                          clear H
                                          try go_wp2
                                          have n0_ := Aside0.mk (Kd.R_drew HO_7.out)
                                          have n1_ := Aside0.mk (below_drew1 HB.out)
                                          clear HO_7
                                          clear HB
                                          have HO_7 := n0_
                                          have HB := n1_
                                          clear n0_ n1_
                                          have q60 : (x13_4 : Int) ≤ ((t307.length : Int) : Int) := of_decide_eq_true (by first | (with_reducible assumption) | assumption)
                                          obtain ⟨i060, hi060, _, hsz60, _⟩ := info_parts info3
                                          have hroom60 : t307.length ≤ co14 := (Kd.R_reads' HO_7.out).2.1
                                          have hC60 : Kd.C (Kd.int .i64) _ Ao14 t307.length t307 := (Kd.R_reads' HO_7.out).2.2
                                          have hcut60 := cut_to (P := Try.prog) 25 3 .i64 Try.underlying25 hi060 Ao14 t307.length co14 x13_4 (of_decide_eq_true (by first | (with_reducible assumption) | assumption)) q60 hroom60
                                          have hr60 := Kd.C_take (m := (x13_4 : Int).toNat) hC60 (by omega)
                                          have hy60 : y323.length = (x13_4 : Int).toNat := (by rw [Ny323.out, List.length_take]; omega)
                                          rw [← Ny323.out] at hr60
                                          rw [← hy60] at hcut60
                                          have HR326 := Aside0.mk hr60
                                          have HC326 := Aside0.mk (show y323.length ≤ co14 from by omega)
                                          clear hr60 hC60 hroom60 hi060 hsz60
                                          have KY60 := Aside0.mk hy60
                                          clear hy60
                                          have KL60 := Aside0.mk (show (x13_4 : Int).toNat ≤ t307.length from by omega)
                                          replace q60 := eq_true q60
                                          have q61 : ((ji34) : Int) ≤ ((t307.length : Int) : Int) := of_decide_eq_true (by first | (with_reducible assumption) | assumption)
                                          obtain ⟨i061, hi061, _, hsz61, _⟩ := info_parts info3
                                          have hroom61 : t307.length ≤ co14 := (Kd.R_reads' HO_7.out).2.1
                                          have hC61 : Kd.C (Kd.int .i64) _ Ao14 t307.length t307 := (Kd.R_reads' HO_7.out).2.2
                                          have q061 : (0 : Int) ≤ ((ji34) : Int) := of_decide_eq_true (by first | (with_reducible assumption) | assumption)
                                          have hcut61 := cut_from (P := Try.prog) 25 3 .i64 Try.underlying25 hi061 1 hsz61 Ao14 t307.length co14 (ji34) q061 q61
                                          have hr61 := Kd.C_drop (m := ((ji34) : Int).toNat) (c := co14) hC61 (by omega) hroom61
                                          obtain ⟨A61, hA61⟩ : ∃ A1, A1 = (if co14 = ((ji34) : Int).toNat then Ao14 else (Ao14 : Option Addr).map (·.add (((ji34) : Int).toNat * 1))) := ⟨_, rfl⟩
                                          obtain ⟨c61, hc61⟩ : ∃ c1, c1 = co14 - ((ji34) : Int).toNat := ⟨_, rfl⟩
                                          have hy61 : y330.length = t307.length - ((ji34) : Int).toNat := (by rw [Ny330.out, List.length_drop] <;> omega)
                                          rw [show (t307).drop ((ji34) : Int).toNat = y330 from Ny330.out.symm] at hr61
                                          replace hr61 : Kd.C (Kd.int .i64) _ A61 y330.length y330 := (by rw [hA61]; exact hr61)
                                          rw [← hy61, ← hA61, ← hc61] at hcut61
                                          have HR333 := Aside0.mk hr61
                                          have HC333 := Aside0.mk (show y330.length ≤ c61 from by rw [hy61, hc61]; exact Nat.sub_le_sub_right hroom61 _)
                                          clear hr61 hC61 hroom61 hi061 hsz61 hc61
                                          have KY61 := Aside0.mk hy61
                                          have KA61 := Aside0.mk hA61
                                          clear hy61 hA61
                                          have KL61 := Aside0.mk (show ((ji34) : Int).toNat ≤ t307.length from by omega)
                                          replace q61 := eq_true q61
                                          refine start_ (n := 11) (S := fun w' => True) (ds := []) #[false, false, false, false, false, false, false, false, false, false, false] (by kernel_rfl) rfl rfl trivial (fun hHeld => ?_); refine with_tabW styluslaw19_BestLeast.tab15 styluslaw19_BestLeast.bits15 (fun HT_ HW_ => ?_)
                                          generalize wr.drew = w59 at HO_7 HB HR326 HR333 hHeld ⊢
                                          refine pure_ (i := 1) (N := some 106) (v := ?_) (a' := ?_) #[false, true, false, false, false, false, false, false, false, false, false] rfl rfl (any_of HT_.out (by kernel_rfl)) (fun _ _ _ h => h) (Or.inl ⟨by rfl, ?_⟩) ?_ ?_
                                          rotate_left
                                          · intro w'
                                            go_simp
                                            with_reducible rfl
                                          rotate_left
                                          · simp only [Act.put, List.setIfInBounds_toArray, List.set_cons_zero, List.set_cons_succ, i64_w, i32_w]
                                            rfl
                                          refine pure_ (i := 2) (N := some 107) (v := ?_) (a' := ?_) #[false, true, true, false, false, false, false, false, false, false, false] rfl rfl (any_of HT_.out (by kernel_rfl)) (fun _ _ _ h => h) (Or.inl ⟨by rfl, ?_⟩) ?_ ?_
                                          rotate_left
                                          · intro w'
                                            go_simp
                                            with_reducible rfl
                                          rotate_left
                                          · simp only [Act.put, List.setIfInBounds_toArray, List.set_cons_zero, List.set_cons_succ, i64_w, i32_w]
                                            rfl
                                          refine pure_ (i := 3) (N := some 108) (v := ?_) (a' := ?_) #[false, true, true, true, false, false, false, false, false, false, false] rfl rfl (any_of HT_.out (by kernel_rfl)) (fun _ _ _ h => h) (Or.inl ⟨by rfl, ?_⟩) ?_ ?_
                                          rotate_left
                                          · intro w'
                                            go_simp
                                            with_reducible rfl
                                          rotate_left
                                          · simp only [Act.put, List.setIfInBounds_toArray, List.set_cons_zero, List.set_cons_succ, i64_w, i32_w]
                                            rfl
                                          refine pure_ (i := 5) (N := some 110) (v := ?_) (a' := ?_) #[false, true, true, true, false, true, false, false, false, false, false] rfl rfl (any_of HT_.out (by kernel_rfl)) (fun _ _ _ h => h) (Or.inl ⟨by rfl, ?_⟩) ?_ ?_
                                          rotate_left
                                          · intro w'
                                            go_simp
                                            with_reducible rfl
                                          rotate_left
                                          · simp only [Act.put, List.setIfInBounds_toArray, List.set_cons_zero, List.set_cons_succ, i64_w, i32_w]
                                            rfl
                                          refine pure_ (i := 6) (N := some 111) (v := ?_) (a' := ?_) #[false, true, true, true, false, true, true, false, false, false, false] rfl rfl (any_of HT_.out (by kernel_rfl)) (fun _ _ _ h => h) (Or.inl ⟨by rfl, ?_⟩) ?_ ?_
                                          rotate_left
                                          · intro w'
                                            go_simp
                                            with_reducible rfl
                                          rotate_left
                                          · simp only [Act.put, List.setIfInBounds_toArray, List.set_cons_zero, List.set_cons_succ, i64_w, i32_w]
                                            rfl
                                          refine pure_ (i := 7) (N := some 112) (v := ?_) (a' := ?_) #[false, true, true, true, false, true, true, true, false, false, false] rfl rfl (any_of HT_.out (by kernel_rfl)) (fun _ _ _ h => h) (Or.inl ⟨by rfl, ?_⟩) ?_ ?_
                                          rotate_left
                                          · intro w'
                                            go_simp
                                            with_reducible rfl
                                          rotate_left
                                          · simp only [Act.put, List.setIfInBounds_toArray, List.set_cons_zero, List.set_cons_succ, i64_w, i32_w]
                                            rfl
                                          refine pure_ (i := 8) (N := some 113) (v := ?_) (a' := ?_) #[false, true, true, true, false, true, true, true, true, false, false] rfl rfl (any_of HT_.out (by kernel_rfl)) (fun _ _ _ h => h) (Or.inl ⟨by rfl, ?_⟩) ?_ ?_
                                          rotate_left
                                          · intro w'
                                            go_simp
                                            with_reducible rfl
                                          rotate_left
                                          · simp only [Act.put, List.setIfInBounds_toArray, List.set_cons_zero, List.set_cons_succ, i64_w, i32_w]
                                            rfl
                                          refine one_ (i := 0) (N := some 105) #[true, true, true, true, false, true, true, true, true, false, false] rfl rfl (one_of HT_.out (by kernel_rfl)) (by decide) (fun K hK => ?_)
                                          refine Kd.R_lit_step (Kd.int .i64) _ 3 ?hg (N := 105) ?hd (xs := ([] : List Int)) (inner := []) (ok := fun _ => True) (okp := fun _ => True) ?hr ?hp (fun _ hk => hk) trivial (Below.refl _ _) (Nat.le_refl _) (by simp) ?_; (case hd => rfl); (case hg => rfl); (case hr => first | (go_simp; done) | (go_simp; rfl)); (case hp => exact (Reps.none _ _))
                                          intro v321 w62 ho63 hb hg_ hnew_
                                          clear hg_ hnew_
                                          (first | rw [← Ny320.out] at ho63 | (simp only [Int.reduceToNat] at ho63; rw [← Ny320.out] at ho63))
                                          have n0_ := Aside0.mk (Kd.R_elder' (by (with_reducible repeat (first | apply Kd.R_alloc | apply Kd.R_drewN | apply Kd.R_drew)); exact HO_7.out) (Kd.R_base ho63) hb)
                                          have n1_ := Aside0.mk (Kd.R_lower (Kd.R_new' ho63 (Kd.R_lt (by (with_reducible repeat (first | apply Kd.R_alloc | apply Kd.R_drewN | apply Kd.R_drew)); exact HO_7.out))) (below_size (by repeat (first | (with_reducible first | exact HB.out | apply below_alloc | apply pw_below_drewN | apply below_drew1) | exact HB.out))))
                                          have n2_ := Aside0.mk (Kd.C_below (by repeat (first | (with_reducible exact HR326.out) | (with_reducible refine Kd.C_alloc ?_ _) | (with_reducible refine Kd.C_drewN ?_ _) | (with_reducible refine Kd.C_drew ?_) | exact HR326.out)) hb)
                                          have n3_ := Aside0.mk (Kd.C_below (by repeat (first | (with_reducible exact HR333.out) | (with_reducible refine Kd.C_alloc ?_ _) | (with_reducible refine Kd.C_drewN ?_ _) | (with_reducible refine Kd.C_drew ?_) | exact HR333.out)) hb)
                                          have n4_ := Aside0.mk (below_step (by repeat (first | (with_reducible first | exact HB.out | apply below_alloc | apply pw_below_drewN | apply below_drew1) | exact HB.out)) hb)
                                          clear HO_7
                                          clear HR326
                                          clear HR333
                                          clear HB
                                          have HO_7 := n0_
                                          have HO322 := n1_
                                          have HR326 := n2_
                                          have HR333 := n3_
                                          have HB := n4_
                                          clear n0_ n1_ n2_ n3_ n4_
                                          clear hb ho63
                                          refine hK.out _ _ trivial (fun hHeld => ?_)
                                          clear hK K
                                          refine norm_ (a' := ?_) ?_ ?_
                                          rotate_left
                                          · show Act.put _ (some 105) _ = _
                                            simp only [Act.put, List.setIfInBounds_toArray, List.set_cons_zero, List.set_cons_succ, i64_w, i32_w]
                                            rfl
                                          refine one_ (i := 4) (N := some 109) #[true, true, true, true, true, true, true, true, true, false, false] rfl rfl (one_of HT_.out (by kernel_rfl)) (by decide) (fun K hK => ?_)
                                          refine Kd.R_append_rows_step (Kd.int .i64) (w0 := w) w.heap.size (by rfl) (.tmp 105) (.tmp 108) 25 3 (.int .i64 0) 8 rfl Try.underlying25 info3 rfl (by decide) (by omega) v321 y320 y323 _ _ _ (fun k_ => some k_ ≠ (.slice Ao14 t307.length co14 : Value).ownBlock) (fun _ => False) rfl rfl ?aO ?aR (fun _ _ h => h) (fun _ h => h.elim) ?aF ?aB ?aS ?aL ?_
                                          (case aR => repeat (first | exact (by repeat (first | (with_reducible exact HR326.out) | (with_reducible refine Kd.C_alloc ?_ _) | (with_reducible refine Kd.C_drewN ?_ _) | (with_reducible refine Kd.C_drew ?_) | exact HR326.out)) | (with_reducible refine Kd.C_alloc ?_ _) | (with_reducible refine Kd.C_drewN ?_ _) | (with_reducible refine Kd.C_drew ?_)))
                                          (case aB => exact (by repeat (first | (with_reducible first | exact HB.out | apply below_alloc | apply pw_below_drewN | apply below_drew1) | exact HB.out)))
                                          (case aF => exact (fun k_ hk => Kd.fresh' (Kd.R_lt (by (with_reducible repeat (first | apply Kd.R_alloc | apply Kd.R_drewN | apply Kd.R_drew)); exact HO_7.out)) k_ hk))
                                          (case aO => exact (by (with_reducible repeat (first | apply Kd.R_alloc | apply Kd.R_drewN | apply Kd.R_drew)); exact Kd.R_mono HO322.out (fun _ hk => hk.2)))
                                          (case aS => exact (below_size (by repeat (first | (with_reducible first | exact HB.out | apply below_alloc | apply pw_below_drewN | apply below_drew1) | exact HB.out))))
                                          (case aL => have := LMc33.out; omega)
                                          intro v328 w64 ho hb hg hat
                                          rw [← Ny327.out] at ho
                                          have n0_ := Aside0.mk (Kd.R_after (ok := (fun _ => True)) (by (with_reducible repeat (first | apply Kd.R_alloc | apply Kd.R_drewN | apply Kd.R_drew)); exact HO_7.out) hg hat)
                                          have n1_ := Aside0.mk (hb)
                                          have n2_ := Aside0.mk ((show Kd.C (Kd.int .i64) w64 Ao14 y323.length y323 from by rw [Ny323.out]; exact Kd.C_take (m := (x13_4 : Int).toNat) ((Kd.R_reads' (Kd.R_after (ok := (fun _ => True)) (by (with_reducible repeat (first | apply Kd.R_alloc | apply Kd.R_drewN | apply Kd.R_drew)); exact HO_7.out) hg hat)).2.2) KL60.out))
                                          have n3_ := Aside0.mk ((show Kd.C (Kd.int .i64) w64 A61 y330.length y330 from by rw [Ny330.out, KA61.out]; exact Kd.C_drop (m := ((ji34) : Int).toNat) (c := co14) ((Kd.R_reads' (Kd.R_after (ok := (fun _ => True)) (by (with_reducible repeat (first | apply Kd.R_alloc | apply Kd.R_drewN | apply Kd.R_drew)); exact HO_7.out) hg hat)).2.2) KL61.out ((Kd.R_reads' (Kd.R_after (ok := (fun _ => True)) (by (with_reducible repeat (first | apply Kd.R_alloc | apply Kd.R_drewN | apply Kd.R_drew)); exact HO_7.out) hg hat)).2.1)))
                                          have n4_ := Aside0.mk (ho)
                                          clear HO_7
                                          clear HB
                                          clear HR326
                                          clear HR333
                                          clear HO322
                                          have HO_7 := n0_
                                          have HB := n1_
                                          have HR326 := n2_
                                          have HR333 := n3_
                                          have HO329 := n4_
                                          clear n0_ n1_ n2_ n3_ n4_
                                          clear ho hb hg hat
                                          refine hK.out _ _ trivial (fun hHeld => ?_)
                                          clear hK K
                                          refine norm_ (a' := ?_) ?_ ?_
                                          rotate_left
                                          · show Act.put _ (some 109) _ = _
                                            simp only [Act.put, List.setIfInBounds_toArray, List.set_cons_zero, List.set_cons_succ, i64_w, i32_w]
                                            rfl
                                          refine one_ (i := 9) (N := some 114) #[true, true, true, true, true, true, true, true, true, true, false] rfl rfl (one_of HT_.out (by kernel_rfl)) (by decide) (fun K hK => ?_)
                                          refine Kd.R_append_rows_step (Kd.int .i64) (w0 := w) w.heap.size (by rfl) (.tmp 109) (.tmp 113) 25 3 (.int .i64 0) 8 rfl Try.underlying25 info3 rfl (by decide) (by omega) v328 y327 y330 _ _ _ (fun k_ => some k_ ≠ (.slice Ao14 t307.length co14 : Value).ownBlock) (fun _ => False) rfl rfl ?aO ?aR (fun _ _ h => h) (fun _ h => h.elim) ?aF ?aB ?aS ?aL ?_
                                          (case aR => repeat (first | exact (by repeat (first | (with_reducible exact HR333.out) | (with_reducible refine Kd.C_alloc ?_ _) | (with_reducible refine Kd.C_drewN ?_ _) | (with_reducible refine Kd.C_drew ?_) | exact HR333.out)) | (with_reducible refine Kd.C_alloc ?_ _) | (with_reducible refine Kd.C_drewN ?_ _) | (with_reducible refine Kd.C_drew ?_)))
                                          (case aB => exact (by repeat (first | (with_reducible first | exact HB.out | apply below_alloc | apply pw_below_drewN | apply below_drew1) | exact HB.out)))
                                          (case aF => exact (fun k_ hk => Kd.fresh' (Kd.R_lt (by (with_reducible repeat (first | apply Kd.R_alloc | apply Kd.R_drewN | apply Kd.R_drew)); exact HO_7.out)) k_ hk))
                                          (case aO => exact (by (with_reducible repeat (first | apply Kd.R_alloc | apply Kd.R_drewN | apply Kd.R_drew)); exact HO329.out))
                                          (case aS => exact (below_size (by repeat (first | (with_reducible first | exact HB.out | apply below_alloc | apply pw_below_drewN | apply below_drew1) | exact HB.out))))
                                          (case aL => have := LMc37.out; omega)
                                          intro v335 w65 ho hb hg hat
                                          rw [← Ny334.out] at ho
                                          have n0_ := Aside0.mk (Kd.R_after (ok := (fun _ => True)) (by (with_reducible repeat (first | apply Kd.R_alloc | apply Kd.R_drewN | apply Kd.R_drew)); exact HO_7.out) hg hat)
                                          have n1_ := Aside0.mk (hb)
                                          have n2_ := Aside0.mk ((show Kd.C (Kd.int .i64) w65 Ao14 y323.length y323 from by rw [Ny323.out]; exact Kd.C_take (m := (x13_4 : Int).toNat) ((Kd.R_reads' (Kd.R_after (ok := (fun _ => True)) (by (with_reducible repeat (first | apply Kd.R_alloc | apply Kd.R_drewN | apply Kd.R_drew)); exact HO_7.out) hg hat)).2.2) KL60.out))
                                          have n3_ := Aside0.mk ((show Kd.C (Kd.int .i64) w65 A61 y330.length y330 from by rw [Ny330.out, KA61.out]; exact Kd.C_drop (m := ((ji34) : Int).toNat) (c := co14) ((Kd.R_reads' (Kd.R_after (ok := (fun _ => True)) (by (with_reducible repeat (first | apply Kd.R_alloc | apply Kd.R_drewN | apply Kd.R_drew)); exact HO_7.out) hg hat)).2.2) KL61.out ((Kd.R_reads' (Kd.R_after (ok := (fun _ => True)) (by (with_reducible repeat (first | apply Kd.R_alloc | apply Kd.R_drewN | apply Kd.R_drew)); exact HO_7.out) hg hat)).2.1)))
                                          have n4_ := Aside0.mk (ho)
                                          clear HO_7
                                          clear HB
                                          clear HR326
                                          clear HR333
                                          clear HO329
                                          have HO_7 := n0_
                                          have HB := n1_
                                          have HR326 := n2_
                                          have HR333 := n3_
                                          have HO336 := n4_
                                          clear n0_ n1_ n2_ n3_ n4_
                                          clear ho hb hg hat
                                          refine hK.out _ _ trivial (fun hHeld => ?_)
                                          clear hK K
                                          refine norm_ (a' := ?_) ?_ ?_
                                          rotate_left
                                          · show Act.put _ (some 114) _ = _
                                            simp only [Act.put, List.setIfInBounds_toArray, List.set_cons_zero, List.set_cons_succ, i64_w, i32_w]
                                            rfl
                                          refine pure_ (i := 10) (N := some 14) (v := ?_) (a' := ?_) #[true, true, true, true, true, true, true, true, true, true, true] rfl rfl (any_of HT_.out (by kernel_rfl)) (fun _ _ _ h => h) (Or.inl ⟨by rfl, ?_⟩) ?_ ?_
                                          rotate_left
                                          · intro w'
                                            go_simp
                                            with_reducible rfl
                                          rotate_left
                                          · simp only [Act.put, List.setIfInBounds_toArray, List.set_cons_zero, List.set_cons_succ, i64_w, i32_w]
                                            rfl
                                          refine done_ (done_of HT_.out (by kernel_rfl)) ?_
                                          obtain ⟨Ao66, co66, eo66⟩ := Kd.R_slice HO336.out
                                          subst eo66
                                          try go_wp2_with (first | ((with_reducible refine gate_callee (f := 21) rfl ?_); refine goesL_ (some 119) rfl rfl Try.func21 (by kernel_rfl) rfl #[.slice A0 l0.length c0, .int .i64 a1, .slice Ao66 y334.length co66] rfl (by (try simp only [List.map_toArray, List.map_cons, List.map_nil]); first | done | rfl | (simp only [List.length_drop, List.length_take]; rfl)) ?_; (with_reducible refine (best_Demerits.calls _ _ l0 a1 _ _ y334 t337 t338 _ ?side1 ?side2 ?side3 ?side4 A38.out).mono ?_); (case side1 => repeat (first | exact (Kd.C_below HR0.out HB.out) | (with_reducible refine Kd.C_alloc ?_ _) | (with_reducible refine Kd.C_drewN ?_ _) | (with_reducible refine Kd.C_drew ?_))); (case side2 => exact HC0.out); (case side3 => repeat (first | exact (Kd.R_reads' HO336.out).2.2 | (with_reducible refine Kd.C_alloc ?_ _) | (with_reducible refine Kd.C_drewN ?_ _) | (with_reducible refine Kd.C_drew ?_))); (case side4 => exact (Kd.R_reads' HO336.out).2.1); rintro e w67 ⟨rfl, hb⟩; refine ⟨_, rfl, ?_⟩; have n0_ := Aside0.mk (Kd.R_below (by (with_reducible repeat (first | apply Kd.R_alloc | apply Kd.R_drewN | apply Kd.R_drew)); exact HO_7.out) hb); have n1_ := Aside0.mk (Kd.R_below (by (with_reducible repeat (first | apply Kd.R_alloc | apply Kd.R_drewN | apply Kd.R_drew)); exact HO336.out) hb); have n2_ := Aside0.mk (Kd.C_below (by repeat (first | (with_reducible exact HR326.out) | (with_reducible refine Kd.C_alloc ?_ _) | (with_reducible refine Kd.C_drewN ?_ _) | (with_reducible refine Kd.C_drew ?_) | exact HR326.out)) hb); have n3_ := Aside0.mk (Kd.C_below (by repeat (first | (with_reducible exact HR333.out) | (with_reducible refine Kd.C_alloc ?_ _) | (with_reducible refine Kd.C_drewN ?_ _) | (with_reducible refine Kd.C_drew ?_) | exact HR333.out)) hb); have n4_ := Aside0.mk (below_step (by repeat (first | (with_reducible first | exact HB.out | apply below_alloc | apply pw_below_drewN | apply below_drew1) | exact HB.out)) hb); clear HO_7; clear HO336; clear HR326; clear HR333; clear HB; have HO_7 := n0_; have HO336 := n1_; have HR326 := n2_; have HR333 := n3_; have HB := n4_; clear n0_ n1_ n2_ n3_ n4_; (try clear hb); (try clear hb2); (try clear hk); (try clear hi)))
                                          go_roundg k4
                                          case measure => have := HJ3.out; have := HJ11.out; have := HJ22.out; have := HK4.out; omega
                                          case rel => exact ⟨(ji34), (by first | rfl | (simp; done) | (simp only [← hji34] <;> (first | rfl | simp)) | (simp [*]; done)), H', ⟨by have := HJ3.out; have := HJ11.out; have := HJ22.out; have := HK4.out; omega⟩, ⟨by (with_reducible repeat (first | apply Kd.R_alloc | apply Kd.R_drewN | apply Kd.R_drew)); exact Kd.R_mono HO_7.out (fun _ hk => trivial)⟩, ⟨by repeat (first | (with_reducible first | exact HB.out | apply below_alloc | apply pw_below_drewN | apply below_drew1) | exact HB.out)⟩⟩
                                      · rw [if_neg c37] at H
                                        exact absurd H (by simp)
                                    · rw [if_neg c36] at H
                                      exact absurd H (by simp)
                                  · rw [if_neg c35] at H
                                    exact absurd H (by simp)
                                · rw [if_neg c33] at H
                                  exact absurd H (by simp)
                              · rw [if_neg c32] at H
                                exact absurd H (by simp)
                            · rw [if_neg c31] at H
                              exact absurd H (by simp)
                          · rw [if_neg c30] at H
                            have c30b0 : decide (x13_4 < (wrap64 ((t307.length : Int) - 1))) = false := decide_eq_false c30
                            clear c30
                            have H' := Aside0.mk H
                            clear H
                            go_wp2
                            go_loopg [17] k4 (fun kq v17 w' => ∃ (x17_5 : Int), v17 = .int .i64 x17_5 ∧ Aside0 (styluslaw19_BestLeast.l1 kq l0 a1 t307 t313 x17_5 = some r) ∧ Aside0 (kq ≤ k4) ∧ Aside0 (Kd.R (Kd.int .i64) 3 w' w.heap.size (fun _ => True) (.slice Ao14 t307.length co14) t307) ∧ Aside0 (Below w.heap.size w w'))
                            case atStart => exact ⟨(0), (by first | rfl | (simp; done) | (simp [*]; done)), H', ⟨Nat.le_refl _⟩, ⟨by (with_reducible repeat (first | apply Kd.R_alloc | apply Kd.R_drewN | apply Kd.R_drew)); exact HO_7.out⟩, ⟨by repeat (first | (with_reducible first | exact HB.out | apply below_alloc | apply pw_below_drewN | apply below_drew1) | exact HB.out)⟩⟩
                            case round =>
                              clear H'
                              try clear c1
                              try clear c2
                              try clear p2
                              try clear c3
                              try clear c4
                              try clear c5
                              try clear q5
                              try clear c6
                              try clear p6
                              try clear q6
                              try clear c21
                              try clear c30
                              try clear c30b0
                              try clear c31
                              try clear c32
                              try clear c33
                              try clear c35
                              try clear c36
                              try clear c37
                              try clear c39
                              try clear c39b0
                              try clear c39b1
                              try clear c40
                              try clear c40b0
                              try clear q51
                              try clear c52
                              try clear q52
                              try clear q60
                              try clear c61
                              try clear q61
                              try clear p64
                              try clear q052
                              try clear q061
                              try clear q51
                              try clear q52
                              try clear q60
                              try clear q61
                              obtain ⟨x17_5, rfl, HA, HK5, HO_7, HB⟩ := hrel
                              cases gk with
                              | zero => exact absurd HA.out (by simp [styluslaw19_BestLeast.l1])
                              | succ k5 =>
                                have H := HA.out
                                clear HA
                                simp only [styluslaw19_BestLeast.l1] at H
                                by_cases c68 : x17_5 < (l0.length : Int)
                                · rw [if_pos c68] at H
                                  have c68b0 : decide (x17_5 < (l0.length : Int)) = true := decide_eq_true c68
                                  clear c68
                                  have H' := Aside0.mk H
                                  clear H
                                  go_wp2
                                  go_loopg [18, 19] k5 (fun kq v18 v19 w' => ∃ (x18_6 : List Int) (x19_6 : Int), v19 = .int .i64 x19_6 ∧ Aside0 (styluslaw19_BestLeast.l2 kq l0 a1 t307 t313 x17_5 x18_6 x19_6 = some r) ∧ Aside0 (kq ≤ k5) ∧ Aside0 (Kd.R (Kd.int .i64) 3 w' w.heap.size (fun k_ => some k_ ≠ (v18 : Value).ownBlock) (.slice Ao14 t307.length co14) t307) ∧ Aside0 (Kd.R (Kd.int .i64) 3 w' w.heap.size (fun k_ => some k_ ≠ ((.slice Ao14 t307.length co14) : Value).ownBlock) v18 x18_6) ∧ Aside0 (Below w.heap.size w w'))
                                  case atStart => exact ⟨(([] : List Int)), (0), (by first | rfl | (simp; done) | (simp [*]; done)), H', ⟨Nat.le_refl _⟩, ⟨by (with_reducible repeat (first | apply Kd.R_alloc | apply Kd.R_drewN | apply Kd.R_drew)); exact Kd.R_mono HO_7.out (fun _ hk => (by simp [Value.ownBlock]))⟩, ⟨by first | exact Kd.R_nil _ _ _ _ _ | exact Kd.N_nil _ _ _ _ _ | exact Kd.V_nil _ _ _ _ _ | exact Kd.Q_nil _ _ _ _ _ | exact Kd.S_nil _ _ _ _ _⟩, ⟨by repeat (first | (with_reducible first | exact HB.out | apply below_alloc | apply pw_below_drewN | apply below_drew1) | exact HB.out)⟩⟩
                                  case round =>
                                    clear H'
                                    try clear c1
                                    try clear c2
                                    try clear p2
                                    try clear c3
                                    try clear c4
                                    try clear c5
                                    try clear q5
                                    try clear c6
                                    try clear p6
                                    try clear q6
                                    try clear c21
                                    try clear c30
                                    try clear c30b0
                                    try clear c31
                                    try clear c32
                                    try clear c33
                                    try clear c35
                                    try clear c36
                                    try clear c37
                                    try clear c39
                                    try clear c39b0
                                    try clear c39b1
                                    try clear c40
                                    try clear c40b0
                                    try clear q51
                                    try clear c52
                                    try clear q52
                                    try clear q60
                                    try clear c61
                                    try clear q61
                                    try clear p64
                                    try clear c68
                                    try clear c68b0
                                    try clear p2
                                    try clear p6
                                    try clear p64
                                    try clear q052
                                    try clear q061
                                    try clear q5
                                    try clear q51
                                    try clear q52
                                    try clear q6
                                    try clear q60
                                    try clear q61
                                    obtain ⟨x18_6, x19_6, rfl, HA, HK6, HO_7, HO_18, HB⟩ := hrel
                                    cases gk with
                                    | zero => exact absurd HA.out (by simp [styluslaw19_BestLeast.l2])
                                    | succ k6 =>
                                      have H := HA.out
                                      clear HA
                                      simp only [styluslaw19_BestLeast.l2] at H
                                      by_cases c69 : x19_6 < (t307.length : Int)
                                      · rw [if_pos c69] at H
                                        have c69b0 : decide (x19_6 < (t307.length : Int)) = true := decide_eq_true c69
                                        clear c69
                                        by_cases c70 : 0 ≤ x19_6
                                        · rw [if_pos c70] at H
                                          have c70b0 : decide (0 ≤ x19_6) = true := decide_eq_true c70
                                          clear c70
                                          by_cases c71 : (rd t307 x19_6) > x17_5
                                          · rw [if_pos c71] at H
                                            have c71b0 : decide (x17_5 < (rd t307 x19_6)) = true := decide_eq_true c71
                                            clear c71
                                            by_cases c72 : x19_6 = 0
                                            · rw [if_pos c72] at H
                                              have c72b0 : (x19_6 == 0) = true := beq_iff_eq.mpr c72
                                              have c72b1 : (x19_6 != 0) = false := bne_eq_false_iff_eq.mpr c72
                                              clear c72
                                              by_cases c73 : x18_6.length < 17592186044416
                                              · rw [if_pos c73] at H
                                                have LMc73 := Aside0.mk c73
                                                clear c73
                                                obtain ⟨y341, hy341⟩ : ∃ y_ : List Int, y_ = (x18_6 ++ [x17_5]) := ⟨_, rfl⟩
                                                replace H : (if y341.length < 17592186044416 then (styluslaw19_BestLeast.l2 k6 l0 a1 t307 t313 x17_5 (y341 ++ [rd t307 x19_6]) (wrap64 (x19_6 + 1))) else (none)) = some r := by first | (rw [hy341]; with_reducible exact H) | (have H2_ := (Option.bind_some _ _).symm.trans H; rw [hy341]; with_reducible exact H2_) | (have H2_ := (Option.bind_some _ _).symm.trans H; with_reducible exact H2_) | with_reducible exact H | (rw [hy341]; exact H) | exact H
                                                have Ny341 := Aside0.mk hy341
                                                clear hy341
                                                by_cases c74 : y341.length < 17592186044416
                                                · rw [if_pos c74] at H
                                                  have LMc74 := Aside0.mk c74
                                                  clear c74
                                                  obtain ⟨y345, hy345⟩ : ∃ y_ : List Int, y_ = (y341 ++ [rd t307 x19_6]) := ⟨_, rfl⟩
                                                  replace H : (styluslaw19_BestLeast.l2 k6 l0 a1 t307 t313 x17_5 y345 (wrap64 (x19_6 + 1))) = some r := by first | (rw [hy345]; with_reducible exact H) | (have H2_ := (Option.bind_some _ _).symm.trans H; rw [hy345]; with_reducible exact H2_) | (have H2_ := (Option.bind_some _ _).symm.trans H; with_reducible exact H2_) | with_reducible exact H | (rw [hy345]; exact H) | exact H
                                                  have Ny345 := Aside0.mk hy345
                                                  clear hy345
                                                  have H' := Aside0.mk H
                                                  clear H
                                                  have p340 : 0 ≤ (x19_6 : Int) := of_decide_eq_true (by first | (with_reducible assumption) | assumption)
                                                  have q340 : x19_6 < (t307.length : Int) := of_decide_eq_true (by first | (with_reducible assumption) | assumption)
                                                  obtain ⟨ad340, e340, hx340_0⟩ := Kd.at_int (Kd.R_reads' HO_7.out).2.2 x19_6 p340 q340
                                                  cases e340
                                                  replace p340 := eq_true p340
                                                  replace q340 := eq_true q340
                                                  go_wp2_with (first | ((with_reducible refine gate_builtin (b := .append) (xs := #[.tmp 160, .tmp 162]) rfl ?_); (try (refine gate_guard (by rfl) ?_; dsimp only)); at_builtin; refine Kd.R_append (Kd.int .i64) (w0 := w) w.heap.size rfl (.tmp 160) (.tmp 162) 25 3 (.int .i64 0) 8 rfl Try.underlying25 info3 rfl (by decide) (by omega) u18 x18_6 x17_5 [.int .i64 x17_5] (fun k_ => some k_ ≠ (.slice (some ad340) t307.length co14 : Value).ownBlock) (fun _ => False) rfl rfl ?aP (fun _ hk => hk.elim) ?aF ?aO ?aB ?aS ?aL ?_; (case aP => exact rfl); (case aB => exact (by repeat (first | (with_reducible first | exact HB.out | apply below_alloc | apply pw_below_drewN | apply below_drew1) | exact HB.out))); (case aF => exact (fun k_ hk => Kd.fresh' (Kd.R_lt (by (with_reducible repeat (first | apply Kd.R_alloc | apply Kd.R_drewN | apply Kd.R_drew)); exact HO_7.out)) k_ hk)); (case aO => exact (by (with_reducible repeat (first | apply Kd.R_alloc | apply Kd.R_drewN | apply Kd.R_drew)); exact HO_18.out)); (case aS => exact (below_size (by repeat (first | (with_reducible first | exact HB.out | apply below_alloc | apply pw_below_drewN | apply below_drew1) | exact HB.out)))); (case aL => have := LMc73.out; omega); intro v342 w75 ho hb hg hat; rw [← Ny341.out] at ho; have n0_ := Aside0.mk (Kd.R_after (ok := (fun _ => True)) (by (with_reducible repeat (first | apply Kd.R_alloc | apply Kd.R_drewN | apply Kd.R_drew)); exact Kd.R_mono HO_7.out (fun _ hk => ⟨trivial, hk⟩)) hg hat); have n1_ := Aside0.mk (hb); have n2_ := Aside0.mk (ho); clear HO_7; clear HB; clear HO_18; have HO_7 := n0_; have HB := n1_; have HO343 := n2_; clear n0_ n1_ n2_; clear ho hb hg hat; have p344 : 0 ≤ (x19_6 : Int) := of_decide_eq_true (by first | (with_reducible assumption) | assumption); have q344 : x19_6 < (t307.length : Int) := of_decide_eq_true (by first | (with_reducible assumption) | assumption); obtain ⟨ad344, e344, hx344_0⟩ := Kd.at_int (Kd.R_reads' HO_7.out).2.2 x19_6 p344 q344; obtain rfl : ad340 = ad344 := (by injection e344); replace p344 := eq_true p344; replace q344 := eq_true q344) | ((with_reducible refine gate_builtin (b := .append) (xs := #[.tmp 164, .tmp 169]) rfl ?_); (try (refine gate_guard (by rfl) ?_; dsimp only)); at_builtin; refine Kd.R_append (Kd.int .i64) (w0 := w) w.heap.size rfl (.tmp 164) (.tmp 169) 25 3 (.int .i64 0) 8 rfl Try.underlying25 info3 rfl (by decide) (by omega) v342 y341 (rd t307 x19_6) [.int .i64 (rd t307 x19_6)] (fun k_ => some k_ ≠ (.slice (some ad340) t307.length co14 : Value).ownBlock) (fun _ => False) rfl rfl ?aP (fun _ hk => hk.elim) ?aF ?aO ?aB ?aS ?aL ?_; (case aP => exact rfl); (case aB => exact (by repeat (first | (with_reducible first | exact HB.out | apply below_alloc | apply pw_below_drewN | apply below_drew1) | exact HB.out))); (case aF => exact (fun k_ hk => Kd.fresh' (Kd.R_lt (by (with_reducible repeat (first | apply Kd.R_alloc | apply Kd.R_drewN | apply Kd.R_drew)); exact HO_7.out)) k_ hk)); (case aO => exact (by (with_reducible repeat (first | apply Kd.R_alloc | apply Kd.R_drewN | apply Kd.R_drew)); exact HO343.out)); (case aS => exact (below_size (by repeat (first | (with_reducible first | exact HB.out | apply below_alloc | apply pw_below_drewN | apply below_drew1) | exact HB.out)))); (case aL => have := LMc74.out; omega); intro v346 w76 ho hb hg hat; rw [← Ny345.out] at ho; have n0_ := Aside0.mk (Kd.R_after (ok := (fun _ => True)) (by (with_reducible repeat (first | apply Kd.R_alloc | apply Kd.R_drewN | apply Kd.R_drew)); exact HO_7.out) hg hat); have n1_ := Aside0.mk (hb); have n2_ := Aside0.mk (ho); clear HO_7; clear HB; clear HO343; have HO_7 := n0_; have HB := n1_; have HO347 := n2_; clear n0_ n1_ n2_; clear ho hb hg hat))
                                                  go_roundg k6
                                                  case measure => have := HJ3.out; have := HJ11.out; have := HJ22.out; have := HK4.out; have := HK5.out; have := HK6.out; omega
                                                  case rel => exact ⟨(y345), (wrap64 (x19_6 + 1)), (by first | rfl | (simp; done) | (simp [*]; done)), H', ⟨by have := HJ3.out; have := HJ11.out; have := HJ22.out; have := HK4.out; have := HK5.out; have := HK6.out; omega⟩, ⟨by (with_reducible repeat (first | apply Kd.R_alloc | apply Kd.R_drewN | apply Kd.R_drew)); exact Kd.R_mono HO_7.out (fun _ hk => hk.2)⟩, ⟨by (with_reducible repeat (first | apply Kd.R_alloc | apply Kd.R_drewN | apply Kd.R_drew)); exact HO347.out⟩, ⟨by repeat (first | (with_reducible first | exact HB.out | apply below_alloc | apply pw_below_drewN | apply below_drew1) | exact HB.out)⟩⟩
                                                · rw [if_neg c74] at H
                                                  exact absurd H (by simp)
                                              · rw [if_neg c73] at H
                                                exact absurd H (by simp)
                                            · rw [if_neg c72] at H
                                              have c72b0 : (x19_6 == 0) = false := beq_eq_false_iff_ne.mpr c72
                                              have c72b1 : (x19_6 != 0) = true := bne_iff_ne.mpr c72
                                              obtain ⟨ji77, hji77⟩ : ∃ j_ : Int, (wrap64 (x19_6 - 1)) = j_ := ⟨_, rfl⟩
                                              replace H : (if 0 ≤ (ji77) then (if (ji77) < (t307.length : Int) then (if (rd t307 (ji77)) < x17_5 then (if x18_6.length < 17592186044416 then ((some (x18_6 ++ [x17_5] : List Int)).bind fun y349 => (if y349.length < 17592186044416 then (styluslaw19_BestLeast.l2 k6 l0 a1 t307 t313 x17_5 (y349 ++ [rd t307 x19_6]) (wrap64 (x19_6 + 1))) else (none))) else (none)) else (if x18_6.length < 17592186044416 then (styluslaw19_BestLeast.l2 k6 l0 a1 t307 t313 x17_5 (x18_6 ++ [rd t307 x19_6]) (wrap64 (x19_6 + 1))) else (none))) else (none)) else (none)) = some r := by first | (rw [hji77] at H; exact H) | (simp only [hji77] at H ⊢; exact H)
                                              have hji77w : (IntKind.i64.wrap (x19_6 - 1)) = ji77 := (i64_w _).trans hji77
                                              by_cases c78 : 0 ≤ (ji77)
                                              · rw [if_pos c78] at H
                                                have c78b0 : decide (0 ≤ (ji77)) = true := decide_eq_true c78
                                                clear c78
                                                by_cases c79 : (ji77) < (t307.length : Int)
                                                · rw [if_pos c79] at H
                                                  have c79b0 : decide ((ji77) < (t307.length : Int)) = true := decide_eq_true c79
                                                  clear c79
                                                  by_cases c80 : (rd t307 (ji77)) < x17_5
                                                  · rw [if_pos c80] at H
                                                    have c80b0 : decide ((rd t307 (ji77)) < x17_5) = true := decide_eq_true c80
                                                    clear c80
                                                    by_cases c81 : x18_6.length < 17592186044416
                                                    · rw [if_pos c81] at H
                                                      have LMc81 := Aside0.mk c81
                                                      clear c81
                                                      obtain ⟨y349, hy349⟩ : ∃ y_ : List Int, y_ = (x18_6 ++ [x17_5]) := ⟨_, rfl⟩
                                                      replace H : (if y349.length < 17592186044416 then (styluslaw19_BestLeast.l2 k6 l0 a1 t307 t313 x17_5 (y349 ++ [rd t307 x19_6]) (wrap64 (x19_6 + 1))) else (none)) = some r := by first | (rw [hy349]; with_reducible exact H) | (have H2_ := (Option.bind_some _ _).symm.trans H; rw [hy349]; with_reducible exact H2_) | (have H2_ := (Option.bind_some _ _).symm.trans H; with_reducible exact H2_) | with_reducible exact H | (rw [hy349]; exact H) | exact H
                                                      have Ny349 := Aside0.mk hy349
                                                      clear hy349
                                                      by_cases c82 : y349.length < 17592186044416
                                                      · rw [if_pos c82] at H
                                                        have LMc82 := Aside0.mk c82
                                                        clear c82
                                                        obtain ⟨y353, hy353⟩ : ∃ y_ : List Int, y_ = (y349 ++ [rd t307 x19_6]) := ⟨_, rfl⟩
                                                        replace H : (styluslaw19_BestLeast.l2 k6 l0 a1 t307 t313 x17_5 y353 (wrap64 (x19_6 + 1))) = some r := by first | (rw [hy353]; with_reducible exact H) | (have H2_ := (Option.bind_some _ _).symm.trans H; rw [hy353]; with_reducible exact H2_) | (have H2_ := (Option.bind_some _ _).symm.trans H; with_reducible exact H2_) | with_reducible exact H | (rw [hy353]; exact H) | exact H
                                                        have Ny353 := Aside0.mk hy353
                                                        clear hy353
                                                        have H' := Aside0.mk H
                                                        clear H
                                                        have p340 : 0 ≤ (x19_6 : Int) := of_decide_eq_true (by first | (with_reducible assumption) | assumption)
                                                        have q340 : x19_6 < (t307.length : Int) := of_decide_eq_true (by first | (with_reducible assumption) | assumption)
                                                        obtain ⟨ad340, e340, hx340_0⟩ := Kd.at_int (Kd.R_reads' HO_7.out).2.2 x19_6 p340 q340
                                                        cases e340
                                                        replace p340 := eq_true p340
                                                        replace q340 := eq_true q340
                                                        have p348 : 0 ≤ ((ji77) : Int) := of_decide_eq_true (by first | (with_reducible assumption) | assumption)
                                                        have q348 : (ji77) < (t307.length : Int) := of_decide_eq_true (by first | (with_reducible assumption) | assumption)
                                                        obtain ⟨ad348, e348, hx348_0⟩ := Kd.at_int (Kd.R_reads' HO_7.out).2.2 (ji77) p348 q348
                                                        obtain rfl : ad340 = ad348 := (by injection e348)
                                                        replace p348 := eq_true p348
                                                        replace q348 := eq_true q348
                                                        go_wp2_with (first | ((with_reducible refine gate_builtin (b := .append) (xs := #[.tmp 160, .tmp 162]) rfl ?_); (try (refine gate_guard (by rfl) ?_; dsimp only)); at_builtin; refine Kd.R_append (Kd.int .i64) (w0 := w) w.heap.size rfl (.tmp 160) (.tmp 162) 25 3 (.int .i64 0) 8 rfl Try.underlying25 info3 rfl (by decide) (by omega) u18 x18_6 x17_5 [.int .i64 x17_5] (fun k_ => some k_ ≠ (.slice (some ad340) t307.length co14 : Value).ownBlock) (fun _ => False) rfl rfl ?aP (fun _ hk => hk.elim) ?aF ?aO ?aB ?aS ?aL ?_; (case aP => exact rfl); (case aB => exact (by repeat (first | (with_reducible first | exact HB.out | apply below_alloc | apply pw_below_drewN | apply below_drew1) | exact HB.out))); (case aF => exact (fun k_ hk => Kd.fresh' (Kd.R_lt (by (with_reducible repeat (first | apply Kd.R_alloc | apply Kd.R_drewN | apply Kd.R_drew)); exact HO_7.out)) k_ hk)); (case aO => exact (by (with_reducible repeat (first | apply Kd.R_alloc | apply Kd.R_drewN | apply Kd.R_drew)); exact HO_18.out)); (case aS => exact (below_size (by repeat (first | (with_reducible first | exact HB.out | apply below_alloc | apply pw_below_drewN | apply below_drew1) | exact HB.out)))); (case aL => have := LMc81.out; omega); intro v350 w83 ho hb hg hat; rw [← Ny349.out] at ho; have n0_ := Aside0.mk (Kd.R_after (ok := (fun _ => True)) (by (with_reducible repeat (first | apply Kd.R_alloc | apply Kd.R_drewN | apply Kd.R_drew)); exact Kd.R_mono HO_7.out (fun _ hk => ⟨trivial, hk⟩)) hg hat); have n1_ := Aside0.mk (hb); have n2_ := Aside0.mk (ho); clear HO_7; clear HB; clear HO_18; have HO_7 := n0_; have HB := n1_; have HO351 := n2_; clear n0_ n1_ n2_; clear ho hb hg hat; have p352 : 0 ≤ (x19_6 : Int) := of_decide_eq_true (by first | (with_reducible assumption) | assumption); have q352 : x19_6 < (t307.length : Int) := of_decide_eq_true (by first | (with_reducible assumption) | assumption); obtain ⟨ad352, e352, hx352_0⟩ := Kd.at_int (Kd.R_reads' HO_7.out).2.2 x19_6 p352 q352; obtain rfl : ad340 = ad352 := (by injection e352); replace p352 := eq_true p352; replace q352 := eq_true q352) | ((with_reducible refine gate_builtin (b := .append) (xs := #[.tmp 164, .tmp 169]) rfl ?_); (try (refine gate_guard (by rfl) ?_; dsimp only)); at_builtin; refine Kd.R_append (Kd.int .i64) (w0 := w) w.heap.size rfl (.tmp 164) (.tmp 169) 25 3 (.int .i64 0) 8 rfl Try.underlying25 info3 rfl (by decide) (by omega) v350 y349 (rd t307 x19_6) [.int .i64 (rd t307 x19_6)] (fun k_ => some k_ ≠ (.slice (some ad340) t307.length co14 : Value).ownBlock) (fun _ => False) rfl rfl ?aP (fun _ hk => hk.elim) ?aF ?aO ?aB ?aS ?aL ?_; (case aP => exact rfl); (case aB => exact (by repeat (first | (with_reducible first | exact HB.out | apply below_alloc | apply pw_below_drewN | apply below_drew1) | exact HB.out))); (case aF => exact (fun k_ hk => Kd.fresh' (Kd.R_lt (by (with_reducible repeat (first | apply Kd.R_alloc | apply Kd.R_drewN | apply Kd.R_drew)); exact HO_7.out)) k_ hk)); (case aO => exact (by (with_reducible repeat (first | apply Kd.R_alloc | apply Kd.R_drewN | apply Kd.R_drew)); exact HO351.out)); (case aS => exact (below_size (by repeat (first | (with_reducible first | exact HB.out | apply below_alloc | apply pw_below_drewN | apply below_drew1) | exact HB.out)))); (case aL => have := LMc82.out; omega); intro v354 w84 ho hb hg hat; rw [← Ny353.out] at ho; have n0_ := Aside0.mk (Kd.R_after (ok := (fun _ => True)) (by (with_reducible repeat (first | apply Kd.R_alloc | apply Kd.R_drewN | apply Kd.R_drew)); exact HO_7.out) hg hat); have n1_ := Aside0.mk (hb); have n2_ := Aside0.mk (ho); clear HO_7; clear HB; clear HO351; have HO_7 := n0_; have HB := n1_; have HO355 := n2_; clear n0_ n1_ n2_; clear ho hb hg hat))
                                                        go_roundg k6
                                                        case measure => have := HJ3.out; have := HJ11.out; have := HJ22.out; have := HK4.out; have := HK5.out; have := HK6.out; omega
                                                        case rel => exact ⟨(y353), (wrap64 (x19_6 + 1)), (by first | rfl | (simp; done) | (simp [*]; done)), H', ⟨by have := HJ3.out; have := HJ11.out; have := HJ22.out; have := HK4.out; have := HK5.out; have := HK6.out; omega⟩, ⟨by (with_reducible repeat (first | apply Kd.R_alloc | apply Kd.R_drewN | apply Kd.R_drew)); exact Kd.R_mono HO_7.out (fun _ hk => hk.2)⟩, ⟨by (with_reducible repeat (first | apply Kd.R_alloc | apply Kd.R_drewN | apply Kd.R_drew)); exact HO355.out⟩, ⟨by repeat (first | (with_reducible first | exact HB.out | apply below_alloc | apply pw_below_drewN | apply below_drew1) | exact HB.out)⟩⟩
                                                      · rw [if_neg c82] at H
                                                        exact absurd H (by simp)
                                                    · rw [if_neg c81] at H
                                                      exact absurd H (by simp)
                                                  · rw [if_neg c80] at H
                                                    have c80b0 : decide ((rd t307 (ji77)) < x17_5) = false := decide_eq_false c80
                                                    clear c80
                                                    by_cases c85 : x18_6.length < 17592186044416
                                                    · rw [if_pos c85] at H
                                                      have LMc85 := Aside0.mk c85
                                                      clear c85
                                                      obtain ⟨y357, hy357⟩ : ∃ y_ : List Int, y_ = (x18_6 ++ [rd t307 x19_6]) := ⟨_, rfl⟩
                                                      replace H : (styluslaw19_BestLeast.l2 k6 l0 a1 t307 t313 x17_5 y357 (wrap64 (x19_6 + 1))) = some r := by first | (rw [hy357]; with_reducible exact H) | (have H2_ := (Option.bind_some _ _).symm.trans H; rw [hy357]; with_reducible exact H2_) | (have H2_ := (Option.bind_some _ _).symm.trans H; with_reducible exact H2_) | with_reducible exact H | (rw [hy357]; exact H) | exact H
                                                      have Ny357 := Aside0.mk hy357
                                                      clear hy357
                                                      have H' := Aside0.mk H
                                                      clear H
                                                      have p340 : 0 ≤ (x19_6 : Int) := of_decide_eq_true (by first | (with_reducible assumption) | assumption)
                                                      have q340 : x19_6 < (t307.length : Int) := of_decide_eq_true (by first | (with_reducible assumption) | assumption)
                                                      obtain ⟨ad340, e340, hx340_0⟩ := Kd.at_int (Kd.R_reads' HO_7.out).2.2 x19_6 p340 q340
                                                      cases e340
                                                      replace p340 := eq_true p340
                                                      replace q340 := eq_true q340
                                                      have p348 : 0 ≤ ((ji77) : Int) := of_decide_eq_true (by first | (with_reducible assumption) | assumption)
                                                      have q348 : (ji77) < (t307.length : Int) := of_decide_eq_true (by first | (with_reducible assumption) | assumption)
                                                      obtain ⟨ad348, e348, hx348_0⟩ := Kd.at_int (Kd.R_reads' HO_7.out).2.2 (ji77) p348 q348
                                                      obtain rfl : ad340 = ad348 := (by injection e348)
                                                      replace p348 := eq_true p348
                                                      replace q348 := eq_true q348
                                                      have p356 : 0 ≤ (x19_6 : Int) := of_decide_eq_true (by first | (with_reducible assumption) | assumption)
                                                      have q356 : x19_6 < (t307.length : Int) := of_decide_eq_true (by first | (with_reducible assumption) | assumption)
                                                      obtain ⟨ad356, e356, hx356_0⟩ := Kd.at_int (Kd.R_reads' HO_7.out).2.2 x19_6 p356 q356
                                                      obtain rfl : ad340 = ad356 := (by injection e356)
                                                      replace p356 := eq_true p356
                                                      replace q356 := eq_true q356
                                                      go_wp2_with (first | ((with_reducible refine gate_builtin (b := .append) (xs := #[.tmp 164, .tmp 169]) rfl ?_); (try (refine gate_guard (by rfl) ?_; dsimp only)); at_builtin; refine Kd.R_append (Kd.int .i64) (w0 := w) w.heap.size rfl (.tmp 164) (.tmp 169) 25 3 (.int .i64 0) 8 rfl Try.underlying25 info3 rfl (by decide) (by omega) u18 x18_6 (rd t307 x19_6) [.int .i64 (rd t307 x19_6)] (fun k_ => some k_ ≠ (.slice (some ad340) t307.length co14 : Value).ownBlock) (fun _ => False) rfl rfl ?aP (fun _ hk => hk.elim) ?aF ?aO ?aB ?aS ?aL ?_; (case aP => exact rfl); (case aB => exact (by repeat (first | (with_reducible first | exact HB.out | apply below_alloc | apply pw_below_drewN | apply below_drew1) | exact HB.out))); (case aF => exact (fun k_ hk => Kd.fresh' (Kd.R_lt (by (with_reducible repeat (first | apply Kd.R_alloc | apply Kd.R_drewN | apply Kd.R_drew)); exact HO_7.out)) k_ hk)); (case aO => exact (by (with_reducible repeat (first | apply Kd.R_alloc | apply Kd.R_drewN | apply Kd.R_drew)); exact HO_18.out)); (case aS => exact (below_size (by repeat (first | (with_reducible first | exact HB.out | apply below_alloc | apply pw_below_drewN | apply below_drew1) | exact HB.out)))); (case aL => have := LMc85.out; omega); intro v358 w86 ho hb hg hat; rw [← Ny357.out] at ho; have n0_ := Aside0.mk (Kd.R_after (ok := (fun _ => True)) (by (with_reducible repeat (first | apply Kd.R_alloc | apply Kd.R_drewN | apply Kd.R_drew)); exact Kd.R_mono HO_7.out (fun _ hk => ⟨trivial, hk⟩)) hg hat); have n1_ := Aside0.mk (hb); have n2_ := Aside0.mk (ho); clear HO_7; clear HB; clear HO_18; have HO_7 := n0_; have HB := n1_; have HO359 := n2_; clear n0_ n1_ n2_; clear ho hb hg hat))
                                                      go_roundg k6
                                                      case measure => have := HJ3.out; have := HJ11.out; have := HJ22.out; have := HK4.out; have := HK5.out; have := HK6.out; omega
                                                      case rel => exact ⟨(y357), (wrap64 (x19_6 + 1)), (by first | rfl | (simp; done) | (simp [*]; done)), H', ⟨by have := HJ3.out; have := HJ11.out; have := HJ22.out; have := HK4.out; have := HK5.out; have := HK6.out; omega⟩, ⟨by (with_reducible repeat (first | apply Kd.R_alloc | apply Kd.R_drewN | apply Kd.R_drew)); exact Kd.R_mono HO_7.out (fun _ hk => hk.2)⟩, ⟨by (with_reducible repeat (first | apply Kd.R_alloc | apply Kd.R_drewN | apply Kd.R_drew)); exact HO359.out⟩, ⟨by repeat (first | (with_reducible first | exact HB.out | apply below_alloc | apply pw_below_drewN | apply below_drew1) | exact HB.out)⟩⟩
                                                    · rw [if_neg c85] at H
                                                      exact absurd H (by simp)
                                                · rw [if_neg c79] at H
                                                  exact absurd H (by simp)
                                              · rw [if_neg c78] at H
                                                exact absurd H (by simp)
                                          · rw [if_neg c71] at H
                                            have c71b0 : decide (x17_5 < (rd t307 x19_6)) = false := decide_eq_false c71
                                            clear c71
                                            by_cases c87 : x18_6.length < 17592186044416
                                            · rw [if_pos c87] at H
                                              have LMc87 := Aside0.mk c87
                                              clear c87
                                              obtain ⟨y361, hy361⟩ : ∃ y_ : List Int, y_ = (x18_6 ++ [rd t307 x19_6]) := ⟨_, rfl⟩
                                              replace H : (styluslaw19_BestLeast.l2 k6 l0 a1 t307 t313 x17_5 y361 (wrap64 (x19_6 + 1))) = some r := by first | (rw [hy361]; with_reducible exact H) | (have H2_ := (Option.bind_some _ _).symm.trans H; rw [hy361]; with_reducible exact H2_) | (have H2_ := (Option.bind_some _ _).symm.trans H; with_reducible exact H2_) | with_reducible exact H | (rw [hy361]; exact H) | exact H
                                              have Ny361 := Aside0.mk hy361
                                              clear hy361
                                              have H' := Aside0.mk H
                                              clear H
                                              have p340 : 0 ≤ (x19_6 : Int) := of_decide_eq_true (by first | (with_reducible assumption) | assumption)
                                              have q340 : x19_6 < (t307.length : Int) := of_decide_eq_true (by first | (with_reducible assumption) | assumption)
                                              obtain ⟨ad340, e340, hx340_0⟩ := Kd.at_int (Kd.R_reads' HO_7.out).2.2 x19_6 p340 q340
                                              cases e340
                                              replace p340 := eq_true p340
                                              replace q340 := eq_true q340
                                              have p360 : 0 ≤ (x19_6 : Int) := of_decide_eq_true (by first | (with_reducible assumption) | assumption)
                                              have q360 : x19_6 < (t307.length : Int) := of_decide_eq_true (by first | (with_reducible assumption) | assumption)
                                              obtain ⟨ad360, e360, hx360_0⟩ := Kd.at_int (Kd.R_reads' HO_7.out).2.2 x19_6 p360 q360
                                              obtain rfl : ad340 = ad360 := (by injection e360)
                                              replace p360 := eq_true p360
                                              replace q360 := eq_true q360
                                              go_wp2_with (first | ((with_reducible refine gate_builtin (b := .append) (xs := #[.tmp 164, .tmp 169]) rfl ?_); (try (refine gate_guard (by rfl) ?_; dsimp only)); at_builtin; refine Kd.R_append (Kd.int .i64) (w0 := w) w.heap.size rfl (.tmp 164) (.tmp 169) 25 3 (.int .i64 0) 8 rfl Try.underlying25 info3 rfl (by decide) (by omega) u18 x18_6 (rd t307 x19_6) [.int .i64 (rd t307 x19_6)] (fun k_ => some k_ ≠ (.slice (some ad340) t307.length co14 : Value).ownBlock) (fun _ => False) rfl rfl ?aP (fun _ hk => hk.elim) ?aF ?aO ?aB ?aS ?aL ?_; (case aP => exact rfl); (case aB => exact (by repeat (first | (with_reducible first | exact HB.out | apply below_alloc | apply pw_below_drewN | apply below_drew1) | exact HB.out))); (case aF => exact (fun k_ hk => Kd.fresh' (Kd.R_lt (by (with_reducible repeat (first | apply Kd.R_alloc | apply Kd.R_drewN | apply Kd.R_drew)); exact HO_7.out)) k_ hk)); (case aO => exact (by (with_reducible repeat (first | apply Kd.R_alloc | apply Kd.R_drewN | apply Kd.R_drew)); exact HO_18.out)); (case aS => exact (below_size (by repeat (first | (with_reducible first | exact HB.out | apply below_alloc | apply pw_below_drewN | apply below_drew1) | exact HB.out)))); (case aL => have := LMc87.out; omega); intro v362 w88 ho hb hg hat; rw [← Ny361.out] at ho; have n0_ := Aside0.mk (Kd.R_after (ok := (fun _ => True)) (by (with_reducible repeat (first | apply Kd.R_alloc | apply Kd.R_drewN | apply Kd.R_drew)); exact Kd.R_mono HO_7.out (fun _ hk => ⟨trivial, hk⟩)) hg hat); have n1_ := Aside0.mk (hb); have n2_ := Aside0.mk (ho); clear HO_7; clear HB; clear HO_18; have HO_7 := n0_; have HB := n1_; have HO363 := n2_; clear n0_ n1_ n2_; clear ho hb hg hat))
                                              go_roundg k6
                                              case measure => have := HJ3.out; have := HJ11.out; have := HJ22.out; have := HK4.out; have := HK5.out; have := HK6.out; omega
                                              case rel => exact ⟨(y361), (wrap64 (x19_6 + 1)), (by first | rfl | (simp; done) | (simp [*]; done)), H', ⟨by have := HJ3.out; have := HJ11.out; have := HJ22.out; have := HK4.out; have := HK5.out; have := HK6.out; omega⟩, ⟨by (with_reducible repeat (first | apply Kd.R_alloc | apply Kd.R_drewN | apply Kd.R_drew)); exact Kd.R_mono HO_7.out (fun _ hk => hk.2)⟩, ⟨by (with_reducible repeat (first | apply Kd.R_alloc | apply Kd.R_drewN | apply Kd.R_drew)); exact HO363.out⟩, ⟨by repeat (first | (with_reducible first | exact HB.out | apply below_alloc | apply pw_below_drewN | apply below_drew1) | exact HB.out)⟩⟩
                                            · rw [if_neg c87] at H
                                              exact absurd H (by simp)
                                        · rw [if_neg c70] at H
                                          exact absurd H (by simp)
                                      · rw [if_neg c69] at H
                                        have c69b0 : decide (x19_6 < (t307.length : Int)) = false := decide_eq_false c69
                                        clear c69
                                        replace H := Option.bind_eq_some_iff.mp H
                                        obtain ⟨⟨t364, t365⟩, A890, H⟩ := H
                                        replace H : (if t365 = 0 then (if t364 < t313 then (some false) else (styluslaw19_BestLeast.l1 k6 l0 a1 t307 t313 (wrap64 (x17_5 + 1)))) else (styluslaw19_BestLeast.l1 k6 l0 a1 t307 t313 (wrap64 (x17_5 + 1)))) = some r := H
                                        have A89 := Aside0.mk A890
                                        clear A890
                                        by_cases c90 : t365 = 0
                                        · rw [if_pos c90] at H
                                          have c90b0 : (t365 == 0) = true := beq_iff_eq.mpr c90
                                          have c90b1 : (t365 != 0) = false := bne_eq_false_iff_eq.mpr c90
                                          clear c90
                                          by_cases c91 : t364 < t313
                                          · rw [if_pos c91] at H
                                            have c91b0 : decide (t364 < t313) = true := decide_eq_true c91
                                            clear c91
                                            obtain rfl := Option.some.inj H
                                            obtain ⟨Ao92, co92, eo92⟩ := Kd.R_slice HO_18.out
                                            subst eo92
                                            go_wp2_with (first | ((with_reducible refine gate_callee (f := 21) rfl ?_); refine goesL_ (some 175) rfl rfl Try.func21 (by kernel_rfl) rfl #[.slice A0 l0.length c0, .int .i64 a1, .slice Ao92 x18_6.length co92] rfl (by (try simp only [List.map_toArray, List.map_cons, List.map_nil]); first | done | rfl | (simp only [List.length_drop, List.length_take]; rfl)) ?_; (with_reducible refine (best_Demerits.calls _ _ l0 a1 _ _ x18_6 t364 t365 _ ?side1 ?side2 ?side3 ?side4 A89.out).mono ?_); (case side1 => repeat (first | exact (Kd.C_below HR0.out HB.out) | (with_reducible refine Kd.C_alloc ?_ _) | (with_reducible refine Kd.C_drewN ?_ _) | (with_reducible refine Kd.C_drew ?_))); (case side2 => exact HC0.out); (case side3 => repeat (first | exact (Kd.R_reads' HO_18.out).2.2 | (with_reducible refine Kd.C_alloc ?_ _) | (with_reducible refine Kd.C_drewN ?_ _) | (with_reducible refine Kd.C_drew ?_))); (case side4 => exact (Kd.R_reads' HO_18.out).2.1); rintro e w93 ⟨rfl, hb⟩; refine ⟨_, rfl, ?_⟩; have n0_ := Aside0.mk (Kd.R_below (by (with_reducible repeat (first | apply Kd.R_alloc | apply Kd.R_drewN | apply Kd.R_drew)); exact HO_7.out) hb); have n1_ := Aside0.mk (Kd.R_below (by (with_reducible repeat (first | apply Kd.R_alloc | apply Kd.R_drewN | apply Kd.R_drew)); exact HO_18.out) hb); have n2_ := Aside0.mk (below_step (by repeat (first | (with_reducible first | exact HB.out | apply below_alloc | apply pw_below_drewN | apply below_drew1) | exact HB.out)) hb); clear HO_7; clear HO_18; clear HB; have HO_7 := n0_; have HO_18 := n1_; have HB := n2_; clear n0_ n1_ n2_; (try clear hb); (try clear hb2); (try clear hk); (try clear hi)))
                                            go_ret
                                            exact ⟨by first | rfl | (simp [errW_none, errW_some] <;> rfl) | (simp [*, errW_none, errW_some] <;> rfl), by repeat (first | (with_reducible first | exact HB.out | apply below_alloc | apply pw_below_drewN | apply below_drew1) | exact HB.out)⟩
                                          · rw [if_neg c91] at H
                                            have c91b0 : decide (t364 < t313) = false := decide_eq_false c91
                                            clear c91
                                            have H' := Aside0.mk H
                                            clear H
                                            obtain ⟨Ao94, co94, eo94⟩ := Kd.R_slice HO_18.out
                                            subst eo94
                                            go_wp2_with (first | ((with_reducible refine gate_callee (f := 21) rfl ?_); refine goesL_ (some 175) rfl rfl Try.func21 (by kernel_rfl) rfl #[.slice A0 l0.length c0, .int .i64 a1, .slice Ao94 x18_6.length co94] rfl (by (try simp only [List.map_toArray, List.map_cons, List.map_nil]); first | done | rfl | (simp only [List.length_drop, List.length_take]; rfl)) ?_; (with_reducible refine (best_Demerits.calls _ _ l0 a1 _ _ x18_6 t364 t365 _ ?side1 ?side2 ?side3 ?side4 A89.out).mono ?_); (case side1 => repeat (first | exact (Kd.C_below HR0.out HB.out) | (with_reducible refine Kd.C_alloc ?_ _) | (with_reducible refine Kd.C_drewN ?_ _) | (with_reducible refine Kd.C_drew ?_))); (case side2 => exact HC0.out); (case side3 => repeat (first | exact (Kd.R_reads' HO_18.out).2.2 | (with_reducible refine Kd.C_alloc ?_ _) | (with_reducible refine Kd.C_drewN ?_ _) | (with_reducible refine Kd.C_drew ?_))); (case side4 => exact (Kd.R_reads' HO_18.out).2.1); rintro e w95 ⟨rfl, hb⟩; refine ⟨_, rfl, ?_⟩; have n0_ := Aside0.mk (Kd.R_below (by (with_reducible repeat (first | apply Kd.R_alloc | apply Kd.R_drewN | apply Kd.R_drew)); exact HO_7.out) hb); have n1_ := Aside0.mk (Kd.R_below (by (with_reducible repeat (first | apply Kd.R_alloc | apply Kd.R_drewN | apply Kd.R_drew)); exact HO_18.out) hb); have n2_ := Aside0.mk (below_step (by repeat (first | (with_reducible first | exact HB.out | apply below_alloc | apply pw_below_drewN | apply below_drew1) | exact HB.out)) hb); clear HO_7; clear HO_18; clear HB; have HO_7 := n0_; have HO_18 := n1_; have HB := n2_; clear n0_ n1_ n2_; (try clear hb); (try clear hb2); (try clear hk); (try clear hi)))
                                            go_roundg k6
                                            case measure => have := HJ3.out; have := HJ11.out; have := HJ22.out; have := HK4.out; have := HK5.out; have := HK6.out; omega
                                            case rel => exact ⟨(wrap64 (x17_5 + 1)), (by first | rfl | (simp; done) | (simp [*]; done)), H', ⟨by have := HJ3.out; have := HJ11.out; have := HJ22.out; have := HK4.out; have := HK5.out; have := HK6.out; omega⟩, ⟨by (with_reducible repeat (first | apply Kd.R_alloc | apply Kd.R_drewN | apply Kd.R_drew)); exact Kd.R_mono HO_7.out (fun _ hk => trivial)⟩, ⟨by repeat (first | (with_reducible first | exact HB.out | apply below_alloc | apply pw_below_drewN | apply below_drew1) | exact HB.out)⟩⟩
                                        · rw [if_neg c90] at H
                                          have c90b0 : (t365 == 0) = false := beq_eq_false_iff_ne.mpr c90
                                          have c90b1 : (t365 != 0) = true := bne_iff_ne.mpr c90
                                          have H' := Aside0.mk H
                                          clear H
                                          obtain ⟨Ao96, co96, eo96⟩ := Kd.R_slice HO_18.out
                                          subst eo96
                                          go_wp2_with (first | ((with_reducible refine gate_callee (f := 21) rfl ?_); refine goesL_ (some 175) rfl rfl Try.func21 (by kernel_rfl) rfl #[.slice A0 l0.length c0, .int .i64 a1, .slice Ao96 x18_6.length co96] rfl (by (try simp only [List.map_toArray, List.map_cons, List.map_nil]); first | done | rfl | (simp only [List.length_drop, List.length_take]; rfl)) ?_; (with_reducible refine (best_Demerits.calls _ _ l0 a1 _ _ x18_6 t364 t365 _ ?side1 ?side2 ?side3 ?side4 A89.out).mono ?_); (case side1 => repeat (first | exact (Kd.C_below HR0.out HB.out) | (with_reducible refine Kd.C_alloc ?_ _) | (with_reducible refine Kd.C_drewN ?_ _) | (with_reducible refine Kd.C_drew ?_))); (case side2 => exact HC0.out); (case side3 => repeat (first | exact (Kd.R_reads' HO_18.out).2.2 | (with_reducible refine Kd.C_alloc ?_ _) | (with_reducible refine Kd.C_drewN ?_ _) | (with_reducible refine Kd.C_drew ?_))); (case side4 => exact (Kd.R_reads' HO_18.out).2.1); rintro e w97 ⟨rfl, hb⟩; refine ⟨_, rfl, ?_⟩; have n0_ := Aside0.mk (Kd.R_below (by (with_reducible repeat (first | apply Kd.R_alloc | apply Kd.R_drewN | apply Kd.R_drew)); exact HO_7.out) hb); have n1_ := Aside0.mk (Kd.R_below (by (with_reducible repeat (first | apply Kd.R_alloc | apply Kd.R_drewN | apply Kd.R_drew)); exact HO_18.out) hb); have n2_ := Aside0.mk (below_step (by repeat (first | (with_reducible first | exact HB.out | apply below_alloc | apply pw_below_drewN | apply below_drew1) | exact HB.out)) hb); clear HO_7; clear HO_18; clear HB; have HO_7 := n0_; have HO_18 := n1_; have HB := n2_; clear n0_ n1_ n2_; (try clear hb); (try clear hb2); (try clear hk); (try clear hi)))
                                          go_roundg k6
                                          case measure => have := HJ3.out; have := HJ11.out; have := HJ22.out; have := HK4.out; have := HK5.out; have := HK6.out; omega
                                          case rel => exact ⟨(wrap64 (x17_5 + 1)), (by first | rfl | (simp; done) | (simp [*]; done)), H', ⟨by have := HJ3.out; have := HJ11.out; have := HJ22.out; have := HK4.out; have := HK5.out; have := HK6.out; omega⟩, ⟨by (with_reducible repeat (first | apply Kd.R_alloc | apply Kd.R_drewN | apply Kd.R_drew)); exact Kd.R_mono HO_7.out (fun _ hk => trivial)⟩, ⟨by repeat (first | (with_reducible first | exact HB.out | apply below_alloc | apply pw_below_drewN | apply below_drew1) | exact HB.out)⟩⟩
                                · rw [if_neg c68] at H
                                  have c68b0 : decide (x17_5 < (l0.length : Int)) = false := decide_eq_false c68
                                  clear c68
                                  replace H := Option.bind_eq_some_iff.mp H
                                  obtain ⟨t339, A980, H⟩ := H
                                  replace H : (some t339) = some r := H
                                  have A98 := Aside0.mk A980
                                  clear A980
                                  obtain rfl := Option.some.inj H
                                  go_wp2_with (first | ((with_reducible refine gate_callee (f := 12) rfl ?_); refine goesL_ (some 185) rfl rfl Try.func12 (by kernel_rfl) rfl #[] rfl (by (try simp only [List.map_toArray, List.map_cons, List.map_nil]); first | done | rfl | (simp only [List.length_drop, List.length_take]; rfl)) ?_; (with_reducible refine (styluslaw19_awake.calls k5  t339 _ A98.out).mono ?_); rintro e w99 ⟨rfl, hb⟩; refine ⟨_, rfl, ?_⟩; have n0_ := Aside0.mk (Kd.R_below (by (with_reducible repeat (first | apply Kd.R_alloc | apply Kd.R_drewN | apply Kd.R_drew)); exact HO_7.out) hb); have n1_ := Aside0.mk (below_step (by repeat (first | (with_reducible first | exact HB.out | apply below_alloc | apply pw_below_drewN | apply below_drew1) | exact HB.out)) hb); clear HO_7; clear HB; have HO_7 := n0_; have HB := n1_; clear n0_ n1_; (try clear hb); (try clear hb2); (try clear hk); (try clear hi)))
                                  go_ret
                                  exact ⟨by first | rfl | (simp [errW_none, errW_some] <;> rfl) | (simp [*, errW_none, errW_some] <;> rfl), by repeat (first | (with_reducible first | exact HB.out | apply below_alloc | apply pw_below_drewN | apply below_drew1) | exact HB.out)⟩
        · rw [if_neg c10] at H
          have c10b0 : (t308 == 0) = false := beq_eq_false_iff_ne.mpr c10
          have c10b1 : (t308 != 0) = true := bne_iff_ne.mpr c10
          by_cases c100 : (t307.length : Int) = 0
          · rw [if_pos c100] at H
            have c100b0 : ((t307.length : Int) == 0) = true := beq_iff_eq.mpr c100
            have c100b1 : ((t307.length : Int) != 0) = false := bne_eq_false_iff_eq.mpr c100
            clear c100
            replace H := Option.bind_eq_some_iff.mp H
            obtain ⟨t311, A1010, H⟩ := H
            replace H : (if t311 = t308 then ((styluslaw19_awake.f kj3).bind fun t312 => (some t312)) else (some false)) = some r := H
            have A101 := Aside0.mk A1010
            clear A1010
            by_cases c102 : t311 = t308
            · rw [if_pos c102] at H
              have c102b0 : (t311 == t308) = true := beq_iff_eq.mpr c102
              have c102b1 : (t311 != t308) = false := bne_eq_false_iff_eq.mpr c102
              clear c102
              replace H := Option.bind_eq_some_iff.mp H
              obtain ⟨t312, A1030, H⟩ := H
              replace H : (some t312) = some r := H
              have A103 := Aside0.mk A1030
              clear A1030
              obtain rfl := Option.some.inj H
              go_wp2_with (first | ((with_reducible refine gate_callee (f := 13) rfl ?_); refine goesL_ (some 34) rfl rfl Try.func13 (by kernel_rfl) rfl #[.slice A0 l0.length c0, .int .i64 a1] rfl (by (try simp only [List.map_toArray, List.map_cons, List.map_nil]); first | done | rfl | (simp only [List.length_drop, List.length_take]; rfl)) ?_; (with_reducible refine (best_Of.calls _ _ l0 a1 t307 t308 _ ?side1 ?side2 A9.out).mono ?_); (case side1 => repeat (first | exact (Kd.C_below HR0.out HB.out) | (with_reducible refine Kd.C_alloc ?_ _) | (with_reducible refine Kd.C_drewN ?_ _) | (with_reducible refine Kd.C_drew ?_))); (case side2 => exact HC0.out); rintro e w104 ⟨v309, rfl, ho0, hb⟩; refine ⟨_, rfl, ?_⟩; have n0_ := Aside0.mk (Kd.R_lower ho0 (below_size (by repeat (first | (with_reducible first | exact HB.out | apply below_alloc | apply pw_below_drewN | apply below_drew1) | exact HB.out)))); have n1_ := Aside0.mk (below_step (by repeat (first | (with_reducible first | exact HB.out | apply below_alloc | apply pw_below_drewN | apply below_drew1) | exact HB.out)) hb); clear HB; have HO310 := n0_; have HB := n1_; clear n0_ n1_; (try clear hb); (try clear hb2); (try clear hk); (try clear hi); (try clear ho0); obtain ⟨Ao105, co105, eo105⟩ := Kd.R_slice HO310.out; subst eo105) | (go_at_call 16; (with_reducible refine (best_Check.calls _ _ l0 a1 t311 _ ?side1 ?side2 A101.out).mono ?_); (case side1 => repeat (first | exact (Kd.C_below HR0.out HB.out) | (with_reducible refine Kd.C_alloc ?_ _) | (with_reducible refine Kd.C_drewN ?_ _) | (with_reducible refine Kd.C_drew ?_))); (case side2 => exact HC0.out); rintro e w106 ⟨rfl, hb⟩; have n0_ := Aside0.mk (Kd.R_below (by (with_reducible repeat (first | apply Kd.R_alloc | apply Kd.R_drewN | apply Kd.R_drew)); exact HO310.out) hb); have n1_ := Aside0.mk (below_step (by repeat (first | (with_reducible first | exact HB.out | apply below_alloc | apply pw_below_drewN | apply below_drew1) | exact HB.out)) hb); clear HO310; clear HB; have HO310 := n0_; have HB := n1_; clear n0_ n1_; (try clear hb); (try clear hb2); (try clear hk); (try clear hi)) | (go_at_call 12; (with_reducible refine (styluslaw19_awake.calls kj3  t312 _ A103.out).mono ?_); rintro e w107 ⟨rfl, hb⟩; have n0_ := Aside0.mk (Kd.R_below (by (with_reducible repeat (first | apply Kd.R_alloc | apply Kd.R_drewN | apply Kd.R_drew)); exact HO310.out) hb); have n1_ := Aside0.mk (below_step (by repeat (first | (with_reducible first | exact HB.out | apply below_alloc | apply pw_below_drewN | apply below_drew1) | exact HB.out)) hb); clear HO310; clear HB; have HO310 := n0_; have HB := n1_; clear n0_ n1_; (try clear hb); (try clear hb2); (try clear hk); (try clear hi)))
              go_ret
              exact ⟨by first | rfl | (simp [errW_none, errW_some] <;> rfl) | (simp [*, errW_none, errW_some] <;> rfl), by repeat (first | (with_reducible first | exact HB.out | apply below_alloc | apply pw_below_drewN | apply below_drew1) | exact HB.out)⟩
            · rw [if_neg c102] at H
              have c102b0 : (t311 == t308) = false := beq_eq_false_iff_ne.mpr c102
              have c102b1 : (t311 != t308) = true := bne_iff_ne.mpr c102
              obtain rfl := Option.some.inj H
              go_wp2_with (first | ((with_reducible refine gate_callee (f := 13) rfl ?_); refine goesL_ (some 34) rfl rfl Try.func13 (by kernel_rfl) rfl #[.slice A0 l0.length c0, .int .i64 a1] rfl (by (try simp only [List.map_toArray, List.map_cons, List.map_nil]); first | done | rfl | (simp only [List.length_drop, List.length_take]; rfl)) ?_; (with_reducible refine (best_Of.calls _ _ l0 a1 t307 t308 _ ?side1 ?side2 A9.out).mono ?_); (case side1 => repeat (first | exact (Kd.C_below HR0.out HB.out) | (with_reducible refine Kd.C_alloc ?_ _) | (with_reducible refine Kd.C_drewN ?_ _) | (with_reducible refine Kd.C_drew ?_))); (case side2 => exact HC0.out); rintro e w108 ⟨v309, rfl, ho0, hb⟩; refine ⟨_, rfl, ?_⟩; have n0_ := Aside0.mk (Kd.R_lower ho0 (below_size (by repeat (first | (with_reducible first | exact HB.out | apply below_alloc | apply pw_below_drewN | apply below_drew1) | exact HB.out)))); have n1_ := Aside0.mk (below_step (by repeat (first | (with_reducible first | exact HB.out | apply below_alloc | apply pw_below_drewN | apply below_drew1) | exact HB.out)) hb); clear HB; have HO310 := n0_; have HB := n1_; clear n0_ n1_; (try clear hb); (try clear hb2); (try clear hk); (try clear hi); (try clear ho0); obtain ⟨Ao109, co109, eo109⟩ := Kd.R_slice HO310.out; subst eo109) | (go_at_call 16; (with_reducible refine (best_Check.calls _ _ l0 a1 t311 _ ?side1 ?side2 A101.out).mono ?_); (case side1 => repeat (first | exact (Kd.C_below HR0.out HB.out) | (with_reducible refine Kd.C_alloc ?_ _) | (with_reducible refine Kd.C_drewN ?_ _) | (with_reducible refine Kd.C_drew ?_))); (case side2 => exact HC0.out); rintro e w110 ⟨rfl, hb⟩; have n0_ := Aside0.mk (Kd.R_below (by (with_reducible repeat (first | apply Kd.R_alloc | apply Kd.R_drewN | apply Kd.R_drew)); exact HO310.out) hb); have n1_ := Aside0.mk (below_step (by repeat (first | (with_reducible first | exact HB.out | apply below_alloc | apply pw_below_drewN | apply below_drew1) | exact HB.out)) hb); clear HO310; clear HB; have HO310 := n0_; have HB := n1_; clear n0_ n1_; (try clear hb); (try clear hb2); (try clear hk); (try clear hi)))
              go_ret
              exact ⟨by first | rfl | (simp [errW_none, errW_some] <;> rfl) | (simp [*, errW_none, errW_some] <;> rfl), by repeat (first | (with_reducible first | exact HB.out | apply below_alloc | apply pw_below_drewN | apply below_drew1) | exact HB.out)⟩
          · rw [if_neg c100] at H
            have c100b0 : ((t307.length : Int) == 0) = false := beq_eq_false_iff_ne.mpr c100
            have c100b1 : ((t307.length : Int) != 0) = true := bne_iff_ne.mpr c100
            have c100b2 : ¬ (t307 = []) := fun h_ => c100 (by rw [h_]; rfl)
            obtain rfl := Option.some.inj H
            go_wp2_with (first | ((with_reducible refine gate_callee (f := 13) rfl ?_); refine goesL_ (some 34) rfl rfl Try.func13 (by kernel_rfl) rfl #[.slice A0 l0.length c0, .int .i64 a1] rfl (by (try simp only [List.map_toArray, List.map_cons, List.map_nil]); first | done | rfl | (simp only [List.length_drop, List.length_take]; rfl)) ?_; (with_reducible refine (best_Of.calls _ _ l0 a1 t307 t308 _ ?side1 ?side2 A9.out).mono ?_); (case side1 => repeat (first | exact (Kd.C_below HR0.out HB.out) | (with_reducible refine Kd.C_alloc ?_ _) | (with_reducible refine Kd.C_drewN ?_ _) | (with_reducible refine Kd.C_drew ?_))); (case side2 => exact HC0.out); rintro e w111 ⟨v309, rfl, ho0, hb⟩; refine ⟨_, rfl, ?_⟩; have n0_ := Aside0.mk (Kd.R_lower ho0 (below_size (by repeat (first | (with_reducible first | exact HB.out | apply below_alloc | apply pw_below_drewN | apply below_drew1) | exact HB.out)))); have n1_ := Aside0.mk (below_step (by repeat (first | (with_reducible first | exact HB.out | apply below_alloc | apply pw_below_drewN | apply below_drew1) | exact HB.out)) hb); clear HB; have HO310 := n0_; have HB := n1_; clear n0_ n1_; (try clear hb); (try clear hb2); (try clear hk); (try clear hi); (try clear ho0); obtain ⟨Ao112, co112, eo112⟩ := Kd.R_slice HO310.out; subst eo112))
            go_ret
            exact ⟨by first | rfl | (simp [errW_none, errW_some] <;> rfl) | (simp [*, errW_none, errW_some] <;> rfl), by repeat (first | (with_reducible first | exact HB.out | apply below_alloc | apply pw_below_drewN | apply below_drew1) | exact HB.out)⟩

end Go.Proofs.Ytbddfnmhhmkfkaa.Pr
/- BestLeast: the plain law. -/
namespace Go.Proofs.Ytbddfnmhhmkfkaa.Pr
set_option linter.unusedVariables false
set_option linter.unusedSimpArgs false
open Go.RowKit Go.Proofs.YtbddfnmhhmkfkaaW.PrintWords Go.Proofs.YtbddfnmhhmkfkaaW.PrintLast Go.Proofs.YtbddfnmhhmkfkaaW.PrintMore
/-! ### BestLeast -/
/-- no breaking is better than the best one -/
theorem of_least {l : List S43} {w : Int} (hk : checkP l w = 0) : ∃ d, demeritsP l w (ofP l w).1 = (d, 0) ∧ 0 ≤ d ∧ d ≤ 1000100202600 * (l.length + 1) ∧ (∀ bs, (demeritsP l w bs).2 = 0 → d ≤ (demeritsP l w bs).1 ∧ (demeritsP l w bs).1 ≤ 1000100202600 * (l.length + 1)) ∧ 0 < (ofP l w).1.length ∧ rd (ofP l w).1 (((ofP l w).1.length : Int) - 1) = l.length := by
  have ok := check_ok hk
  obtain ⟨s, _, hh, hb⟩ := best_row ok
  have ho : (ofP l w).1 = (rowR l w).reverse := by unfold ofP; rw [if_pos hk]
  rw [ho]
  have hbr : Br l (-1) (rowR l w).reverse := (Go.DP.row_fw (placeP l) (legalP l) _).1 hb.1
  have hlast : (rowR l w).reverse.getLast?.getD (-1) = l.length := by rw [Go.DP.hd_rev, hh]
  have hB : legalB l (-1) (rowR l w).reverse = true := (legalB_iff l _ _).2 ⟨hbr, hlast⟩
  have hpos : 0 < (rowR l w).reverse.length := by
    cases hr : rowR l w with
    | nil => rw [hr] at hh; simp only [Go.DP.hd] at hh; omega
    | cons x r => simp
  have hL : legalL l (rowR l w).reverse = true := by unfold legalL; rw [hB, decide_eq_true hpos]; rfl
  have hs : TotP l w (-1) (rowR l w).reverse = s := by rw [hb.2.1]; unfold TotP; rw [Go.DP.tot_fw]
  have hd : demeritsP l w (rowR l w).reverse = (s, 0) := by unfold demeritsP; rw [if_pos ⟨hk, hL⟩, hs]
  have hbnd : ∀ bs : List Int, Br l (-1) bs → bs.getLast?.getD (-1) = l.length → 0 ≤ TotP l w (-1) bs ∧ TotP l w (-1) bs ≤ 1000100202600 * (l.length + 1) := fun bs h1 h2 => by
    have h3 := tot_bd ok bs (-1) (by omega) h1
    have h4 : RowP l bs.reverse := (Go.DP.row_fw (placeP l) (legalP l) _).2 (by rw [List.reverse_reverse]; exact h1)
    have h5 := row_len l _ h4
    have h6 : Go.DP.hd bs.reverse = l.length := by
      rw [← Go.DP.hd_rev, List.reverse_reverse]
      exact h2
    rw [h6, List.length_reverse] at h5
    omega
  have hb0 := hbnd _ hbr hlast
  rw [hs] at hb0
  refine ⟨s, hd, hb0.1, hb0.2, fun bs hbs => ?_, hpos, legalB_last l _ _ hpos hB⟩
  have hlb : legalL l bs = true := by
    unfold demeritsP at hbs
    split at hbs
    · rename_i h; exact h.2
    · cases hbs
  have hdb : demeritsP l w bs = (TotP l w (-1) bs, 0) := by unfold demeritsP; rw [if_pos ⟨hk, hlb⟩]
  unfold legalL at hlb
  simp only [Bool.and_eq_true] at hlb
  obtain ⟨h1, h2⟩ := (legalB_iff l bs (-1)).1 hlb.2
  have h3 : RowP l bs.reverse := (Go.DP.row_fw (placeP l) (legalP l) _).2 (by rw [List.reverse_reverse]; exact h1)
  have h4 : Go.DP.hd bs.reverse = Go.DP.hd (rowR l w) := by rw [hh, ← Go.DP.hd_rev, List.reverse_reverse]; exact h2
  have h5 := hb.2.2 bs.reverse h3 h4
  have h6 : Go.DP.tot (costP l w) bs.reverse = TotP l w (-1) bs := by unfold TotP; rw [Go.DP.tot_fw, List.reverse_reverse]
  rw [hdb]
  refine ⟨?_, (hbnd bs h1 h2).2⟩
  rcases h5 with h5 | h5 | h5
  · rw [← h6, h5, hb.2.1]; exact Int.le_refl _
  · rw [← h6]; exact Int.le_of_lt h5
  · rw [← h6, h5.1]; exact Int.le_refl _
/-- what is known of the best one's demerits -/
structure Least (l : List S43) (w d : Int) (a : List Int) : Prop where
  d0 : 0 ≤ d
  d1 : d ≤ 1000100202600 * (l.length + 1)
  least : ∀ bs, (demeritsP l w bs).2 = 0 → d ≤ (demeritsP l w bs).1 ∧ (demeritsP l w bs).1 ≤ 1000100202600 * (l.length + 1)
  len : l.length ≤ 300
  la : a.length ≤ 301
  pos : 0 < a.length
theorem dem_f {l : List S43} (hl : l.length ≤ 300) (w : Int) {bs : List Int} (hb : bs.length ≤ 100000) : best_Demerits.f l w bs = some (demeritsP l w bs) := if_pos ⟨by omega, hb⟩
theorem bestLeast_l2 {l : List S43} {w d : Int} {a : List Int} (h : Least l w d a) (t : Nat) (ht : t < l.length) (next : Ev (fun k => styluslaw19_BestLeast.l1 k l w a d ((t + 1 : Nat) : Int)) true) :
    ∀ (m i : Nat) (x : List Int), i + m = a.length → x.length ≤ 2 * i → Ev (fun k => styluslaw19_BestLeast.l2 k l w a d t x i) true
  | 0, i, x, hm, hx => by
    have hl := h.len
    have hla := h.la
    have e : wrap64 ((t : Int) + 1) = ((t + 1 : Nat) : Int) := by rw [w64 (by omega) (by omega)]; omega
    refine Ev.step (fun k => ?_) next
    rw [styluslaw19_BestLeast.l2.eq_2, if_neg (by clear e; omega), dem_f h.len w (by clear e; omega)]
    simp only [Option.bind_some]
    by_cases hz : (demeritsP l w x).2 = 0
    · have := (h.least x hz).1
      rw [if_pos hz, if_neg (by clear e; omega), e]
    · rw [if_neg hz, e]
  | m + 1, i, x, hm, hx => by
    have hl := h.len
    have hla := h.la
    have c1 : (i : Int) < a.length := by omega
    have c2 : (0 : Int) ≤ i := by omega
    have l1 : x.length < 17592186044416 := by omega
    have l2 : ∀ y : Int, (x ++ [y]).length < 17592186044416 := fun y => by rw [List.length_append, List.length_singleton]; omega
    have ih1 := bestLeast_l2 h t ht next m (i + 1) (x ++ [rd a i]) (by omega) (by rw [List.length_append, List.length_singleton]; omega)
    have ih2 := bestLeast_l2 h t ht next m (i + 1) (x ++ [(t : Int)] ++ [rd a i]) (by omega) (by rw [List.length_append, List.length_append, List.length_singleton, List.length_singleton]; omega)
    have e : wrap64 ((i : Int) + 1) = ((i + 1 : Nat) : Int) := by rw [w64 (by omega) (by omega)]; omega
    by_cases h1 : rd a i > (t : Int)
    · by_cases h2 : (i : Int) = 0
      · refine Ev.step (fun k => ?_) ih2
        rw [styluslaw19_BestLeast.l2.eq_2, if_pos c1, if_pos c2, if_pos h1, if_pos h2, if_pos l1]
        simp only [Option.bind_some]
        rw [if_pos (l2 _), e]
      · have e2 : wrap64 ((i : Int) - 1) = (i : Int) - 1 := w64 (by clear e; omega) (by clear e; omega)
        have c3 : (0 : Int) ≤ (i : Int) - 1 := by clear e e2; omega
        have c4 : (i : Int) - 1 < a.length := by clear e e2; omega
        by_cases h3 : rd a ((i : Int) - 1) < (t : Int)
        · refine Ev.step (fun k => ?_) ih2
          rw [styluslaw19_BestLeast.l2.eq_2, if_pos c1, if_pos c2, if_pos h1, if_neg h2, e2, if_pos c3, if_pos c4, if_pos h3, if_pos l1]
          simp only [Option.bind_some]
          rw [if_pos (l2 _), e]
        · refine Ev.step (fun k => ?_) ih1
          rw [styluslaw19_BestLeast.l2.eq_2, if_pos c1, if_pos c2, if_pos h1, if_neg h2, e2, if_pos c3, if_pos c4, if_neg h3, if_pos l1, e]
    · refine Ev.step (fun k => ?_) ih1
      rw [styluslaw19_BestLeast.l2.eq_2, if_pos c1, if_pos c2, if_neg h1, if_pos l1, e]
theorem bestLeast_l1 {l : List S43} {w d : Int} {a : List Int} (h : Least l w d a) : ∀ (m t : Nat), t + m = l.length → Ev (fun k => styluslaw19_BestLeast.l1 k l w a d (t : Int)) true
  | 0, t, hm => by
    refine Ev.step (fun k => ?_) awake_ev
    rw [styluslaw19_BestLeast.l1.eq_2, if_neg (by omega)]
  | m + 1, t, hm => by
    have ih := bestLeast_l1 h m (t + 1) (by omega)
    have h2 := bestLeast_l2 h t (by omega) ih a.length 0 [] (by omega) (by simp)
    refine Ev.step (fun k => ?_) h2
    rw [styluslaw19_BestLeast.l1.eq_2, if_pos (by omega)]
    rfl
theorem bestLeast_l0 {l : List S43} {w d : Int} {a : List Int} (h : Least l w d a) : ∀ (m i : Nat), i + m + 1 = a.length → Ev (fun k => styluslaw19_BestLeast.l0 k l w a d (i : Int)) true
  | 0, i, hm => by
    have hla := h.la
    have hp := h.pos
    refine Ev.step (fun k => ?_) (bestLeast_l1 h l.length 0 (by omega))
    have e2 : wrap64 ((a.length : Int) - 1) = (a.length : Int) - 1 := w64 (by omega) (by omega)
    rw [styluslaw19_BestLeast.l0.eq_2, e2, if_neg (by clear e2; omega)]
    rfl
  | m + 1, i, hm => by
    have hl := h.len
    have hla := h.la
    have ih := bestLeast_l0 h m (i + 1) (by omega)
    have e2 : wrap64 ((a.length : Int) - 1) = (a.length : Int) - 1 := w64 (by omega) (by omega)
    have e : wrap64 ((i : Int) + 1) = ((i + 1 : Nat) : Int) := by clear e2; rw [w64 (by omega) (by omega)]; omega
    have c1 : (i : Int) < (a.length : Int) - 1 := by clear e e2; omega
    have c2 : (0 : Int) ≤ i := by clear e e2; omega
    have c3 : (i : Int) ≤ a.length := by clear e e2; omega
    have c4 : (0 : Int) ≤ ((i + 1 : Nat) : Int) := by clear e e2; omega
    have c5 : ((i + 1 : Nat) : Int) ≤ a.length := by clear e e2; omega
    have l1 : ([] : List Int).length + (a.take (i : Int).toNat).length < 17592186044416 := by clear e e2; rw [List.length_take]; simp; omega
    have l2 : ([] ++ a.take (i : Int).toNat).length + (a.drop ((i + 1 : Nat) : Int).toNat).length < 17592186044416 := by clear e e2; rw [List.nil_append, List.length_take, List.length_drop]; omega
    have l3 : ([] ++ a.take (i : Int).toNat ++ a.drop ((i + 1 : Nat) : Int).toNat).length ≤ 100000 := by clear e e2 l1 l2; rw [List.nil_append, List.length_append, List.length_take, List.length_drop]; omega
    refine Ev.step (fun k => ?_) ih
    rw [styluslaw19_BestLeast.l0.eq_2, e2, if_pos c1, Option.bind_some, if_pos c2, if_pos c3, Option.bind_some, if_pos l1, Option.bind_some, e, if_pos c4, if_pos c5, Option.bind_some, if_pos l2, dem_f h.len w l3, Option.bind_some]
    generalize ([] ++ a.take (i : Int).toNat ++ a.drop ((i + 1 : Nat) : Int).toNat) = x
    by_cases hz : (demeritsP l w x).2 = 0
    · have := (h.least x hz).1
      rw [if_pos hz, if_neg (by clear e e2; omega)]
    · rw [if_neg hz]
theorem over_f {x : Int} (h0 : 0 ≤ x) (h1 : x ≤ 1000100202600 * 400) : styluslaw19_over.f x = some (x / 1000000000000) := by
  unfold styluslaw19_over.f
  rw [Int.tdiv_eq_ediv_of_nonneg h0, w64 (by omega) (by omega)]
theorem bestLeast_j1 {l : List S43} {w d : Int} {a : List Int} (h : Least l w d a) {bs : List Int} (hb : bs.length ≤ 300) : Ev (fun k => styluslaw19_BestLeast.j1 k l w bs a d false) true := by
  have hl := h.len
  have hp := h.pos
  have l0 := bestLeast_l0 h (a.length - 1) 0 (by omega)
  have j2 : Ev (fun k => styluslaw19_BestLeast.j2 k l w a d false) true := Ev.step (fun k => by rw [styluslaw19_BestLeast.j2.eq_2, if_neg (by simp)]; rfl) l0
  refine Ev.step (fun k => ?_) j2
  rw [styluslaw19_BestLeast.j1.eq_2, if_neg (by simp), dem_f h.len w (by omega)]
  simp only [Option.bind_some]
  by_cases hz : (demeritsP l w bs).2 = 0
  · obtain ⟨h1, h2⟩ := h.least bs hz
    have d0 := h.d0
    have d1 := h.d1
    rw [if_pos hz, if_neg (by omega), over_f (by omega) (by omega), over_f (by omega) (by omega)]
    simp only [Option.bind_some]
    rw [decide_eq_false (by
      have := Int.ediv_le_ediv (show (0 : Int) < 1000000000000 by decide) h1
      omega)]
  · rw [if_neg hz]
theorem bestLeast_j0 (l : List S43) (w : Int) (bs : List Int) : Ev (fun k => styluslaw19_BestLeast.j0 k l w bs true) true :=
  Ev.step (fun k => by rw [styluslaw19_BestLeast.j0.eq_2, if_pos rfl]) awake_ev
theorem bestLeast_pure (l : List S43) (w : Int) (bs : List Int) : Ev (fun k => styluslaw19_BestLeast.f k l w bs) true := by
  unfold styluslaw19_BestLeast.f
  by_cases hl : (l.length : Int) > 300
  · simp only [if_pos hl]
    exact bestLeast_j0 _ _ _
  · simp only [if_neg hl]
    by_cases hb : (bs.length : Int) > 300
    · rw [decide_eq_true hb]
      exact bestLeast_j0 _ _ _
    · rw [decide_eq_false hb]
      rcases check_01 l w with hk | hk
      · obtain ⟨d, hd, d0, d1, hle, hpos, hlast⟩ := of_least hk
        have hz : (ofP l w).2 = 0 := by unfold ofP; rw [if_pos hk]
        have hal := of_len l w
        have hL : Least l w d (ofP l w).1 := ⟨d0, d1, hle, by omega, by omega, hpos⟩
        refine Ev.step (fun k => ?_) (bestLeast_j1 hL (bs := bs) (by omega))
        rw [styluslaw19_BestLeast.j0.eq_2, if_neg (by simp), of_f (by omega)]
        simp only [Option.bind_some]
        rw [if_pos hz, dem_f (by omega) w (by omega), hd]
        simp only [Option.bind_some, if_true]
        have e2 : wrap64 (((ofP l w).1.length : Int) - 1) = ((ofP l w).1.length : Int) - 1 := w64 (by omega) (by omega)
        rw [if_neg (by clear e2; omega), e2, if_pos (by clear e2; omega), if_pos (by clear e2; omega), hlast]
        simp
      · have ho : ofP l w = ([], 1) := by unfold ofP; rw [hk, if_neg (by decide)]
        refine Ev.step (fun k => ?_) awake_ev
        rw [styluslaw19_BestLeast.j0.eq_2, if_neg (by simp), of_f (by omega), ho]
        simp only [Option.bind_some]
        rw [if_neg (by decide), if_pos (by simp)]
        unfold best_Check.f
        simp only [Option.bind_some]
        rw [if_pos hk]
theorem bestLeast_walk (A0 : Option Addr) (c0 : Nat) (l0 : List S43) (a1 : Int) (A2 : Option Addr) (c2 : Nat) (l2 : List Int) (w : World) (hr0 : Kd.C k43 w A0 l0.length l0) (hc0 : l0.length ≤ c0) (_ : l0.length * 40 ≤ 140737488351232) (hr2 : Kd.C (Kd.int .i64) w A2 l2.length l2) (hc2 : l2.length ≤ c2) (_ : l2.length * 8 ≤ 140737488351232) :
    Calls Try.prog 5 #[.slice A0 l0.length c0, .int .i64 a1, .slice A2 l2.length c2] w fun e w' => e = .returned (.bool true) ∧ Below w.heap.size w w' := by
  obtain ⟨k, h⟩ := (bestLeast_pure l0 a1 l2).rounds
  exact styluslaw19_BestLeast.calls k A0 c0 l0 a1 A2 c2 l2 true w hr0 hc0 hr2 hc2 h
end Go.Proofs.Ytbddfnmhhmkfkaa.Pr
