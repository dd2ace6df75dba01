/- Texts of this seat, one behind the other. -/
import Derived.Lib.Hide
import Derived.Test.YtbddfnmhhmkfkaaXLinesSet1
import Derived.Test.YtbddfnmhhmkfkaaXLinesSet2
import Derived.Test.YtbddfnmhhmkfkaaXLinesSet3
import Derived.Test.YtbddfnmhhmkfkaaXLinesSet4
import Derived.Test.YtbddfnmhhmkfkaaXLinesSet5
import Derived.Test.YtbddfnmhhmkfkaaXLinesSet6
import Derived.Test.YtbddfnmhhmkfkaaXLinesSet7
import Derived.Test.YtbddfnmhhmkfkaaXLinesSet9
import Derived.Test.YtbddfnmhhmkfkaaXLinesSet10
set_option linter.unusedVariables false
set_option linter.unusedSimpArgs false
namespace Go.Proofs.Ytbddfnmhhmkfkaa.Pr
open Go.RowKit Go.Proofs.YtbddfnmhhmkfkaaW.PrintWords Go.Proofs.YtbddfnmhhmkfkaaW.PrintLast Go.Proofs.YtbddfnmhhmkfkaaW.PrintMore
attribute [local go_sem] max2_int min2_int max_two min_two max_three min_three max_four min_four
def lines_Fill.l0 : Nat → List (S43) → Int → List Int → Int → Option (List Int × Int)
 | 0, _, _, _, _ => none
 | k + 1, x0, x1, x7, x8 => if (x7.length : Int) = 0 then ((lines_end.f k x0 x1 x8).bind fun t435 => (if x7.length < 17592186044416 then ((some (x7 ++ [t435] : List Int)).bind fun y436 => (if 0 ≤ (wrap64 ((y436.length : Int) - 1)) then (if (wrap64 ((y436.length : Int) - 1)) < (y436.length : Int) then (lines_Fill.l0 k x0 x1 y436 (wrap64 ((rd y436 (wrap64 ((y436.length : Int) - 1))) + 1))) else (none)) else (none))) else (none))) else (if 0 ≤ (wrap64 ((x7.length : Int) - 1)) then (if (wrap64 ((x7.length : Int) - 1)) < (x7.length : Int) then (if (rd x7 (wrap64 ((x7.length : Int) - 1))) < (x0.length : Int) then ((lines_end.f k x0 x1 x8).bind fun t441 => (if x7.length < 17592186044416 then ((some (x7 ++ [t441] : List Int)).bind fun y442 => (if 0 ≤ (wrap64 ((y442.length : Int) - 1)) then (if (wrap64 ((y442.length : Int) - 1)) < (y442.length : Int) then (lines_Fill.l0 k x0 x1 y442 (wrap64 ((rd y442 (wrap64 ((y442.length : Int) - 1))) + 1))) else (none)) else (none))) else (none))) else (some (x7, 0))) else (none)) else (none))
def lines_Fill.f (k : Nat) (l0 : List (S43)) (a1 : Int) : Option (List Int × Int) := (best_Check.f l0 a1).bind fun t434 => (if t434 = 0 then (lines_Fill.l0 k l0 a1 ([] : List Int) 0) else (some (([] : List Int), t434)))
theorem lines_Fill.mono_l : ∀ k, (∀ y0 y1 y2 y3, LeO (lines_Fill.l0 k y0 y1 y2 y3) (lines_Fill.l0 (k + 1) y0 y1 y2 y3))
 | 0 => fun _ _ _ _ r h => by simp [lines_Fill.l0] at h
 | k + 1 => by
  have ih0 := lines_Fill.mono_l k
  ·intro y0 y1 y2 y3
   unfold lines_Fill.l0
   repeat' first
   | (with_reducible exact ih0 _ _ _ _)
   | (with_reducible exact lines_end.mono _ _ _ _)
   | (with_reducible exact LeO.refl _)
   | (with_reducible exact LeO.none _)
   | (with_reducible refine LeO.ite ?_ ?_)
   | (with_reducible refine LeO.bind ?_ (fun _ => ?_))
   | exact ih0 _ _ _ _
   | exact lines_end.mono _ _ _ _
   | exact LeO.none _
   | refine LeO.ite ?_ ?_
   | refine LeO.bind ?_ (fun _ => ?_)
theorem lines_Fill.mono : ∀ a0 a1 k, LeO (lines_Fill.f k a0 a1) (lines_Fill.f (k + 1) a0 a1) := by
 intro a0 a1 k
 have ih0 := lines_Fill.mono_l k
 unfold lines_Fill.f
 repeat' first
   | (with_reducible exact ih0 _ _ _ _)
   | (with_reducible exact lines_end.mono _ _ _ _)
   | (with_reducible exact LeO.refl _)
   | (with_reducible exact LeO.none _)
   | (with_reducible refine LeO.ite ?_ ?_)
   | (with_reducible refine LeO.bind ?_ (fun _ => ?_))
   | exact ih0 _ _ _ _
   | exact lines_end.mono _ _ _ _
   | exact LeO.none _
   | refine LeO.ite ?_ ?_
   | refine LeO.bind ?_ (fun _ => ?_)
set_option maxHeartbeats 8000000 in
set_option maxRecDepth 100000 in
theorem lines_Fill.calls (k : Nat) (A0 : Option Addr) (c0 : Nat) (l0 : List (S43)) (a1 : Int) (r1 : List Int) (r2 : Int) (w : World) (hr0 : Kd.C k43 w A0 l0.length l0) (hc0 : l0.length ≤ c0) (h : lines_Fill.f k l0 a1 = some (r1, r2)) :
  Calls Try.prog 33 #[.slice A0 l0.length c0, .int .i64 a1] w fun e w' => ∃ v0_ : Value, e = .returned (.tuple #[v0_, .int .i64 r2]) ∧ Kd.R (Kd.int .i64) 3 w' w.heap.size (fun _ => True) v0_ r1 ∧ Below w.heap.size w w' := by
 have HR0 := Aside0.mk hr0
 have HC0 := Aside0.mk hc0
 clear hr0 hc0
 have HB := Aside0.mk (Below.refl w.heap.size w)
 have H : ((best_Check.f l0 a1).bind fun t434 => (if t434 = 0 then (lines_Fill.l0 k l0 a1 ([] : List Int) 0) else (some (([] : List Int), t434)))) = some (r1, r2) := h
 clear h
 replace H := Option.bind_eq_some_iff.mp H
 obtain ⟨t434, A30, H⟩ := H
 replace H : (if t434 = 0 then (lines_Fill.l0 k l0 a1 ([] : List Int) 0) else (some (([] : List Int), t434))) = some (r1, r2) := H
 have A3 := Aside0.mk A30
 clear A30
 by_cases c4 : t434 = 0
 ·rw [if_pos c4] at H
  have c4b0 : (t434 == 0) = true := beq_iff_eq.mpr c4
  have c4b1 : (t434 != 0) = false := bne_eq_false_iff_eq.mpr c4
  clear c4
  have H' := Aside0.mk H
  clear H
  go_enter Try.func33, Try.ntmps33
  go_wp2_with (first | ((with_reducible refine gate_callee (f := 16) rfl ?_); refine goesL_ (some 11) rfl rfl Try.func16 (by kernel_rfl) rfl #[.slice A0 l0.length c0, .int .i64 a1] rfl (by (try simp only [List.map_toArray, List.map_cons, List.map_nil]); first | done | rfl | (simp only [List.length_drop, List.length_take]; rfl)) ?_; (with_reducible refine (best_Check.calls _ _ l0 a1 t434 _ ?side1 ?side2 A3.out).mono ?_); (case side1 => repeat (first | exact HR0.out | (with_reducible refine Kd.C_alloc ?_ _) | (with_reducible refine Kd.C_drewN ?_ _) | (with_reducible refine Kd.C_drew ?_))); (case side2 => exact HC0.out); rintro e w5 ⟨rfl, hb⟩; refine ⟨_, rfl, ?_⟩; have n0_ := Aside0.mk (below_step (by repeat (first | (with_reducible first | exact HB.out | apply below_alloc | apply pw_below_drewN | apply below_drew1) | exact HB.out)) hb); clear HB; have HB := n0_; clear n0_; (try clear hb); (try clear hb2); (try clear hk); (try clear hi)))
  go_loopg [7, 8] k (fun kq v7 v8 w' => ∃ (x7_1 : List Int) (x8_1 : Int), v8 = .int .i64 x8_1 ∧ Aside0 (lines_Fill.l0 kq l0 a1 x7_1 x8_1 = some (r1, r2)) ∧ Aside0 (kq ≤ k) ∧ Aside0 (Kd.R (Kd.int .i64) 3 w' w.heap.size (fun _ => True) v7 x7_1) ∧ Aside0 (Below w.heap.size w w'))
  case atStart => exact ⟨(([] : List Int)), (0), (by first | rfl | (simp; done) | (simp [*]; done)), H', ⟨Nat.le_refl _⟩, ⟨by first | exact Kd.R_nil _ _ _ _ _ | exact Kd.N_nil _ _ _ _ _ | exact Kd.V_nil _ _ _ _ _ | exact Kd.Q_nil _ _ _ _ _ | exact Kd.S_nil _ _ _ _ _⟩, ⟨by repeat (first | (with_reducible first | exact HB.out | apply below_alloc | apply pw_below_drewN | apply below_drew1) | exact HB.out)⟩⟩
  case round =>
   clear H'
   try clear c1
   try clear p2
   try clear c3
   try clear c4
   try clear c4b0
   try clear c4b1
   obtain ⟨x7_1, x8_1, rfl, HA, HK1, HO_7, HB⟩ := hrel
   cases gk with
   | zero => exact absurd HA.out (by simp [lines_Fill.l0])
   | succ k1 =>
    have H := HA.out
    clear HA
    simp only [lines_Fill.l0] at H
    by_cases c6 : (x7_1.length : Int) = 0
    ·rw [if_pos c6] at H
     have c6b0 : ((x7_1.length : Int) == 0) = true := beq_iff_eq.mpr c6
     have c6b1 : ((x7_1.length : Int) != 0) = false := bne_eq_false_iff_eq.mpr c6
     clear c6
     replace H := Option.bind_eq_some_iff.mp H
     obtain ⟨t435, A70, H⟩ := H
     replace H : (if x7_1.length < 17592186044416 then ((some (x7_1 ++ [t435] : List Int)).bind fun y436 => (if 0 ≤ (wrap64 ((y436.length : Int) - 1)) then (if (wrap64 ((y436.length : Int) - 1)) < (y436.length : Int) then (lines_Fill.l0 k1 l0 a1 y436 (wrap64 ((rd y436 (wrap64 ((y436.length : Int) - 1))) + 1))) else (none)) else (none))) else (none)) = some (r1, r2) := H
     have A7 := Aside0.mk A70
     clear A70
     by_cases c8 : x7_1.length < 17592186044416
     ·rw [if_pos c8] at H
      have LMc8 := Aside0.mk c8
      clear c8
      obtain ⟨y436, hy436⟩ : ∃ y_ : List Int, y_ = (x7_1 ++ [t435]) := ⟨_, rfl⟩
      replace H : (if 0 ≤ (wrap64 ((y436.length : Int) - 1)) then (if (wrap64 ((y436.length : Int) - 1)) < (y436.length : Int) then (lines_Fill.l0 k1 l0 a1 y436 (wrap64 ((rd y436 (wrap64 ((y436.length : Int) - 1))) + 1))) else (none)) else (none)) = some (r1, r2) := by first | (rw [hy436]; with_reducible exact H) | (have H2_ := (Option.bind_some _ _).symm.trans H; rw [hy436]; with_reducible exact H2_) | (have H2_ := (Option.bind_some _ _).symm.trans H; with_reducible exact H2_) | with_reducible exact H | (rw [hy436]; exact H) | exact H
      have Ny436 := Aside0.mk hy436
      clear hy436
      obtain ⟨ji9, hji9⟩ : ∃ j_ : Int, (wrap64 ((y436.length : Int) - 1)) = j_ := ⟨_, rfl⟩
      replace H : (if 0 ≤ (ji9) then (if (ji9) < (y436.length : Int) then (lines_Fill.l0 k1 l0 a1 y436 (wrap64 ((rd y436 (ji9)) + 1))) else (none)) else (none)) = some (r1, r2) := by first | (rw [hji9] at H; exact H) | (simp only [hji9] at H ⊢; exact H)
      (try rw [hji9] at A7)
      have hji9w : (IntKind.i64.wrap ((y436.length : Int) - 1)) = ji9 := (i64_w _).trans hji9
      by_cases c10 : 0 ≤ (ji9)
      ·rw [if_pos c10] at H
       have c10b0 : decide (0 ≤ (ji9)) = true := decide_eq_true c10
       clear c10
       by_cases c11 : (ji9) < (y436.length : Int)
       ·rw [if_pos c11] at H
        have c11b0 : decide ((ji9) < (y436.length : Int)) = true := decide_eq_true c11
        clear c11
        have H' := Aside0.mk H
        clear H
        obtain ⟨Ao12, co12, eo12⟩ := Kd.R_slice HO_7.out
        subst eo12
        go_wp2_with (first | ((with_reducible refine gate_callee (f := 68) rfl ?_); refine goesL_ (some 40) rfl rfl Try.func68 (by kernel_rfl) rfl #[.slice A0 l0.length c0, .int .i64 a1, .int .i64 x8_1] rfl (by (try simp only [List.map_toArray, List.map_cons, List.map_nil]); first | done | rfl | (simp only [List.length_drop, List.length_take]; rfl)) ?_; (with_reducible refine (lines_end.calls k1 _ _ l0 a1 x8_1 t435 _ ?side1 ?side2 A7.out).mono ?_); (case side1 => repeat (first | exact (Kd.C_below HR0.out HB.out) | (with_reducible refine Kd.C_alloc ?_ _) | (with_reducible refine Kd.C_drewN ?_ _) | (with_reducible refine Kd.C_drew ?_))); (case side2 => exact HC0.out); rintro e w13 ⟨rfl, hb⟩; refine ⟨_, rfl, ?_⟩; have n0_ := Aside0.mk (Kd.R_below (by (with_reducible repeat (first | apply Kd.R_alloc | apply Kd.R_drewN | apply Kd.R_drew)); exact HO_7.out) hb); have n1_ := Aside0.mk (below_step (by repeat (first | (with_reducible first | exact HB.out | apply below_alloc | apply pw_below_drewN | apply below_drew1) | exact HB.out)) hb); clear HO_7; clear HB; have HO_7 := n0_; have HB := n1_; clear n0_ n1_; (try clear hb); (try clear hb2); (try clear hk); (try clear hi)) | ((with_reducible refine gate_builtin (b := .append) (xs := #[.tmp 36, .tmp 41]) rfl ?_); (try (refine gate_guard (by rfl) ?_; dsimp only)); at_builtin; refine Kd.R_append (Kd.int .i64) (w0 := w) w.heap.size rfl (.tmp 36) (.tmp 41) 25 3 (.int .i64 0) 8 rfl Try.underlying25 info3 rfl (by decide) (by omega) (.slice Ao12 x7_1.length co12) x7_1 t435 [.int .i64 t435] (fun _ => True) (fun _ => False) rfl rfl ?aP (fun _ hk => hk.elim) ?aF ?aO ?aB ?aS ?aL ?_; (case aP => exact rfl); (case aB => exact (by repeat (first | (with_reducible first | exact HB.out | apply below_alloc | apply pw_below_drewN | apply below_drew1) | exact HB.out))); (case aF => exact (fun _ _ => trivial)); (case aO => exact (by (with_reducible repeat (first | apply Kd.R_alloc | apply Kd.R_drewN | apply Kd.R_drew)); exact HO_7.out)); (case aS => exact (below_size (by repeat (first | (with_reducible first | exact HB.out | apply below_alloc | apply pw_below_drewN | apply below_drew1) | exact HB.out)))); (case aL => have := LMc8.out; omega); intro v437 w14 ho hb hg hat; rw [← Ny436.out] at ho; have n0_ := Aside0.mk (hb); have n1_ := Aside0.mk (ho); clear HB; clear HO_7; have HB := n0_; have HO438 := n1_; clear n0_ n1_; clear ho hb hg hat; obtain ⟨Ao15, co15, eo15⟩ := Kd.R_slice HO438.out; subst eo15; have p439 : 0 ≤ ((ji9) : Int) := of_decide_eq_true (by first | (with_reducible assumption) | assumption); have q439 : (ji9) < (y436.length : Int) := of_decide_eq_true (by first | (with_reducible assumption) | assumption); obtain ⟨ad439, e439, hx439_0⟩ := Kd.at_int (Kd.R_reads' HO438.out).2.2 (ji9) p439 q439; cases e439; replace p439 := eq_true p439; replace q439 := eq_true q439))
        go_roundg k1
        case measure => have := HK1.out; omega
        case rel => exact ⟨(y436), (wrap64 ((rd y436 (ji9)) + 1)), (by first | rfl | (simp; done) | (simp only [← hji9] <;> (first | rfl | simp)) | (simp [*]; done)), H', ⟨by have := HK1.out; omega⟩, ⟨by (with_reducible repeat (first | apply Kd.R_alloc | apply Kd.R_drewN | apply Kd.R_drew)); exact HO438.out⟩, ⟨by repeat (first | (with_reducible first | exact HB.out | apply below_alloc | apply pw_below_drewN | apply below_drew1) | exact HB.out)⟩⟩
       ·rw [if_neg c11] at H
        exact absurd H (by simp)
      ·rw [if_neg c10] at H
       exact absurd H (by simp)
     ·rw [if_neg c8] at H
      exact absurd H (by simp)
    ·rw [if_neg c6] at H
     have c6b0 : ((x7_1.length : Int) == 0) = false := beq_eq_false_iff_ne.mpr c6
     have c6b1 : ((x7_1.length : Int) != 0) = true := bne_iff_ne.mpr c6
     have c6b2 : ¬ (x7_1 = []) := fun h_ => c6 (by rw [h_]; rfl)
     obtain ⟨ji16, hji16⟩ : ∃ j_ : Int, (wrap64 ((x7_1.length : Int) - 1)) = j_ := ⟨_, rfl⟩
     replace H : (if 0 ≤ (ji16) then (if (ji16) < (x7_1.length : Int) then (if (rd x7_1 (ji16)) < (l0.length : Int) then ((lines_end.f k1 l0 a1 x8_1).bind fun t441 => (if x7_1.length < 17592186044416 then ((some (x7_1 ++ [t441] : List Int)).bind fun y442 => (if 0 ≤ (wrap64 ((y442.length : Int) - 1)) then (if (wrap64 ((y442.length : Int) - 1)) < (y442.length : Int) then (lines_Fill.l0 k1 l0 a1 y442 (wrap64 ((rd y442 (wrap64 ((y442.length : Int) - 1))) + 1))) else (none)) else (none))) else (none))) else (some (x7_1, 0))) else (none)) else (none)) = some (r1, r2) := by first | (rw [hji16] at H; exact H) | (simp only [hji16] at H ⊢; exact H)
     have hji16w : (IntKind.i64.wrap ((x7_1.length : Int) - 1)) = ji16 := (i64_w _).trans hji16
     by_cases c17 : 0 ≤ (ji16)
     ·rw [if_pos c17] at H
      have c17b0 : decide (0 ≤ (ji16)) = true := decide_eq_true c17
      clear c17
      by_cases c18 : (ji16) < (x7_1.length : Int)
      ·rw [if_pos c18] at H
       have c18b0 : decide ((ji16) < (x7_1.length : Int)) = true := decide_eq_true c18
       clear c18
       by_cases c19 : (rd x7_1 (ji16)) < (l0.length : Int)
       ·rw [if_pos c19] at H
        have c19b0 : decide ((rd x7_1 (ji16)) < (l0.length : Int)) = true := decide_eq_true c19
        clear c19
        replace H := Option.bind_eq_some_iff.mp H
        obtain ⟨t441, A200, H⟩ := H
        replace H : (if x7_1.length < 17592186044416 then ((some (x7_1 ++ [t441] : List Int)).bind fun y442 => (if 0 ≤ (wrap64 ((y442.length : Int) - 1)) then (if (wrap64 ((y442.length : Int) - 1)) < (y442.length : Int) then (lines_Fill.l0 k1 l0 a1 y442 (wrap64 ((rd y442 (wrap64 ((y442.length : Int) - 1))) + 1))) else (none)) else (none))) else (none)) = some (r1, r2) := H
        have A20 := Aside0.mk A200
        clear A200
        by_cases c21 : x7_1.length < 17592186044416
        ·rw [if_pos c21] at H
         have LMc21 := Aside0.mk c21
         clear c21
         obtain ⟨y442, hy442⟩ : ∃ y_ : List Int, y_ = (x7_1 ++ [t441]) := ⟨_, rfl⟩
         replace H : (if 0 ≤ (wrap64 ((y442.length : Int) - 1)) then (if (wrap64 ((y442.length : Int) - 1)) < (y442.length : Int) then (lines_Fill.l0 k1 l0 a1 y442 (wrap64 ((rd y442 (wrap64 ((y442.length : Int) - 1))) + 1))) else (none)) else (none)) = some (r1, r2) := by first | (rw [hy442]; with_reducible exact H) | (have H2_ := (Option.bind_some _ _).symm.trans H; rw [hy442]; with_reducible exact H2_) | (have H2_ := (Option.bind_some _ _).symm.trans H; with_reducible exact H2_) | with_reducible exact H | (rw [hy442]; exact H) | exact H
         have Ny442 := Aside0.mk hy442
         clear hy442
         obtain ⟨ji22, hji22⟩ : ∃ j_ : Int, (wrap64 ((y442.length : Int) - 1)) = j_ := ⟨_, rfl⟩
         replace H : (if 0 ≤ (ji22) then (if (ji22) < (y442.length : Int) then (lines_Fill.l0 k1 l0 a1 y442 (wrap64 ((rd y442 (ji22)) + 1))) else (none)) else (none)) = some (r1, r2) := by first | (rw [hji22] at H; exact H) | (simp only [hji22] at H ⊢; exact H)
         (try rw [hji22] at A20)
         have hji22w : (IntKind.i64.wrap ((y442.length : Int) - 1)) = ji22 := (i64_w _).trans hji22
         by_cases c23 : 0 ≤ (ji22)
         ·rw [if_pos c23] at H
          have c23b0 : decide (0 ≤ (ji22)) = true := decide_eq_true c23
          clear c23
          by_cases c24 : (ji22) < (y442.length : Int)
          ·rw [if_pos c24] at H
           have c24b0 : decide ((ji22) < (y442.length : Int)) = true := decide_eq_true c24
           clear c24
           have H' := Aside0.mk H
           clear H
           obtain ⟨Ao25, co25, eo25⟩ := Kd.R_slice HO_7.out
           subst eo25
           have p440 : 0 ≤ ((ji16) : Int) := of_decide_eq_true (by first | (with_reducible assumption) | assumption)
           have q440 : (ji16) < (x7_1.length : Int) := of_decide_eq_true (by first | (with_reducible assumption) | assumption)
           obtain ⟨ad440, e440, hx440_0⟩ := Kd.at_int (Kd.R_reads' HO_7.out).2.2 (ji16) p440 q440
           cases e440
           replace p440 := eq_true p440
           replace q440 := eq_true q440
           go_wp2_with (first | ((with_reducible refine gate_callee (f := 68) rfl ?_); refine goesL_ (some 40) rfl rfl Try.func68 (by kernel_rfl) rfl #[.slice A0 l0.length c0, .int .i64 a1, .int .i64 x8_1] rfl (by (try simp only [List.map_toArray, List.map_cons, List.map_nil]); first | done | rfl | (simp only [List.length_drop, List.length_take]; rfl)) ?_; (with_reducible refine (lines_end.calls k1 _ _ l0 a1 x8_1 t441 _ ?side1 ?side2 A20.out).mono ?_); (case side1 => repeat (first | exact (Kd.C_below HR0.out HB.out) | (with_reducible refine Kd.C_alloc ?_ _) | (with_reducible refine Kd.C_drewN ?_ _) | (with_reducible refine Kd.C_drew ?_))); (case side2 => exact HC0.out); rintro e w26 ⟨rfl, hb⟩; refine ⟨_, rfl, ?_⟩; have n0_ := Aside0.mk (Kd.R_below (by (with_reducible repeat (first | apply Kd.R_alloc | apply Kd.R_drewN | apply Kd.R_drew)); exact HO_7.out) hb); have n1_ := Aside0.mk (below_step (by repeat (first | (with_reducible first | exact HB.out | apply below_alloc | apply pw_below_drewN | apply below_drew1) | exact HB.out)) hb); clear HO_7; clear HB; have HO_7 := n0_; have HB := n1_; clear n0_ n1_; (try clear hb); (try clear hb2); (try clear hk); (try clear hi)) | ((with_reducible refine gate_builtin (b := .append) (xs := #[.tmp 36, .tmp 41]) rfl ?_); (try (refine gate_guard (by rfl) ?_; dsimp only)); at_builtin; refine Kd.R_append (Kd.int .i64) (w0 := w) w.heap.size rfl (.tmp 36) (.tmp 41) 25 3 (.int .i64 0) 8 rfl Try.underlying25 info3 rfl (by decide) (by omega) (.slice (some ad440) x7_1.length co25) x7_1 t441 [.int .i64 t441] (fun _ => True) (fun _ => False) rfl rfl ?aP (fun _ hk => hk.elim) ?aF ?aO ?aB ?aS ?aL ?_; (case aP => exact rfl); (case aB => exact (by repeat (first | (with_reducible first | exact HB.out | apply below_alloc | apply pw_below_drewN | apply below_drew1) | exact HB.out))); (case aF => exact (fun _ _ => trivial)); (case aO => exact (by (with_reducible repeat (first | apply Kd.R_alloc | apply Kd.R_drewN | apply Kd.R_drew)); exact HO_7.out)); (case aS => exact (below_size (by repeat (first | (with_reducible first | exact HB.out | apply below_alloc | apply pw_below_drewN | apply below_drew1) | exact HB.out)))); (case aL => have := LMc21.out; omega); intro v443 w27 ho hb hg hat; rw [← Ny442.out] at ho; have n0_ := Aside0.mk (hb); have n1_ := Aside0.mk (ho); clear HB; clear HO_7; have HB := n0_; have HO444 := n1_; clear n0_ n1_; clear ho hb hg hat; obtain ⟨Ao28, co28, eo28⟩ := Kd.R_slice HO444.out; subst eo28; have p445 : 0 ≤ ((ji22) : Int) := of_decide_eq_true (by first | (with_reducible assumption) | assumption); have q445 : (ji22) < (y442.length : Int) := of_decide_eq_true (by first | (with_reducible assumption) | assumption); obtain ⟨ad445, e445, hx445_0⟩ := Kd.at_int (Kd.R_reads' HO444.out).2.2 (ji22) p445 q445; cases e445; replace p445 := eq_true p445; replace q445 := eq_true q445))
           go_roundg k1
           case measure => have := HK1.out; omega
           case rel => exact ⟨(y442), (wrap64 ((rd y442 (ji22)) + 1)), (by first | rfl | (simp; done) | (simp only [← hji22] <;> (first | rfl | simp)) | (simp [*]; done)), H', ⟨by have := HK1.out; omega⟩, ⟨by (with_reducible repeat (first | apply Kd.R_alloc | apply Kd.R_drewN | apply Kd.R_drew)); exact HO444.out⟩, ⟨by repeat (first | (with_reducible first | exact HB.out | apply below_alloc | apply pw_below_drewN | apply below_drew1) | exact HB.out)⟩⟩
          ·rw [if_neg c24] at H
           exact absurd H (by simp)
         ·rw [if_neg c23] at H
          exact absurd H (by simp)
        ·rw [if_neg c21] at H
         exact absurd H (by simp)
       ·rw [if_neg c19] at H
        have c19b0 : decide ((rd x7_1 (ji16)) < (l0.length : Int)) = false := decide_eq_false c19
        clear c19
        simp only [Option.some.injEq, Prod.mk.injEq] at H
        obtain ⟨rfl, rfl⟩ := H
        obtain ⟨Ao29, co29, eo29⟩ := Kd.R_slice HO_7.out
        subst eo29
        have p440 : 0 ≤ ((ji16) : Int) := of_decide_eq_true (by first | (with_reducible assumption) | assumption)
        have q440 : (ji16) < (x7_1.length : Int) := of_decide_eq_true (by first | (with_reducible assumption) | assumption)
        obtain ⟨ad440, e440, hx440_0⟩ := Kd.at_int (Kd.R_reads' HO_7.out).2.2 (ji16) p440 q440
        cases e440
        replace p440 := eq_true p440
        replace q440 := eq_true q440
        go_wp2
        go_ret2
        exact ⟨_, by first | rfl | (simp [errW_none, errW_some] <;> rfl) | (simp only [← hji16]; first | rfl | (simp [errW_none, errW_some] <;> rfl)) | (simp [*, errW_none, errW_some] <;> rfl), by (with_reducible repeat (first | apply Kd.R_alloc | apply Kd.R_drewN | apply Kd.R_drew)); exact HO_7.out, by repeat (first | (with_reducible first | exact HB.out | apply below_alloc | apply pw_below_drewN | apply below_drew1) | exact HB.out)⟩
      ·rw [if_neg c18] at H
       exact absurd H (by simp)
     ·rw [if_neg c17] at H
      exact absurd H (by simp)
 ·rw [if_neg c4] at H
  have c4b0 : (t434 == 0) = false := beq_eq_false_iff_ne.mpr c4
  have c4b1 : (t434 != 0) = true := bne_iff_ne.mpr c4
  simp only [Option.some.injEq, Prod.mk.injEq] at H
  obtain ⟨rfl, rfl⟩ := H
  go_enter Try.func33, Try.ntmps33
  go_wp2_with (first | ((with_reducible refine gate_callee (f := 16) rfl ?_); refine goesL_ (some 11) rfl rfl Try.func16 (by kernel_rfl) rfl #[.slice A0 l0.length c0, .int .i64 a1] rfl (by (try simp only [List.map_toArray, List.map_cons, List.map_nil]); first | done | rfl | (simp only [List.length_drop, List.length_take]; rfl)) ?_; (with_reducible refine (best_Check.calls _ _ l0 a1 t434 _ ?side1 ?side2 A3.out).mono ?_); (case side1 => repeat (first | exact HR0.out | (with_reducible refine Kd.C_alloc ?_ _) | (with_reducible refine Kd.C_drewN ?_ _) | (with_reducible refine Kd.C_drew ?_))); (case side2 => exact HC0.out); rintro e w30 ⟨rfl, hb⟩; refine ⟨_, rfl, ?_⟩; have n0_ := Aside0.mk (below_step (by repeat (first | (with_reducible first | exact HB.out | apply below_alloc | apply pw_below_drewN | apply below_drew1) | exact HB.out)) hb); clear HB; have HB := n0_; clear n0_; (try clear hb); (try clear hb2); (try clear hk); (try clear hi)))
  go_ret2
  exact ⟨_, by first | rfl | (simp [errW_none, errW_some] <;> rfl) | (simp [*, errW_none, errW_some] <;> rfl), by first | exact Kd.R_nil _ _ _ _ _ | exact Kd.N_nil _ _ _ _ _ | exact Kd.V_nil _ _ _ _ _ | exact Kd.Q_nil _ _ _ _ _ | exact Kd.S_nil _ _ _ _ _, by repeat (first | (with_reducible first | exact HB.out | apply below_alloc | apply pw_below_drewN | apply below_drew1) | exact HB.out)⟩
def styluslaw20_filled.f (k : Nat) (a0 : Int) (l1 : List Int) : Option (Bool) := (styluslaw20_abc.f k).bind fun bt446 => ((lines_Fill.f k bt446.2 a0).bind fun bt452 => (if bt452.2 = 0 then ((styluslaw20_same.f k bt452.1 l1).bind fun t456 => (some t456)) else (some false)))
theorem styluslaw20_filled.mono : ∀ a0 a1 k, LeO (styluslaw20_filled.f k a0 a1) (styluslaw20_filled.f (k + 1) a0 a1) := by
 intro a0 a1 k
 unfold styluslaw20_filled.f
 repeat' first
   | (with_reducible exact lines_Fill.mono _ _ _)
   | (with_reducible exact styluslaw20_abc.mono _)
   | (with_reducible exact styluslaw20_same.mono _ _ _)
   | (with_reducible exact LeO.refl _)
   | (with_reducible exact LeO.none _)
   | (with_reducible refine LeO.ite ?_ ?_)
   | (with_reducible refine LeO.bind ?_ (fun _ => ?_))
   | exact lines_Fill.mono _ _ _
   | exact styluslaw20_abc.mono _
   | exact styluslaw20_same.mono _ _ _
   | exact LeO.none _
   | refine LeO.ite ?_ ?_
   | refine LeO.bind ?_ (fun _ => ?_)
set_option maxHeartbeats 8000000 in
set_option maxRecDepth 100000 in
theorem styluslaw20_filled.calls (k : Nat) (a0 : Int) (A1 : Option Addr) (c1 : Nat) (l1 : List Int) (r : Bool) (w : World) (hr1 : Kd.C (Kd.int .i64) w A1 l1.length l1) (hc1 : l1.length ≤ c1) (h : styluslaw20_filled.f k a0 l1 = some r) :
  Calls Try.prog 60 #[.int .i64 a0, .slice A1 l1.length c1] w fun e w' => e = .returned (.bool r) ∧ Below w.heap.size w w' := by
 have HR1 := Aside0.mk hr1
 have HC1 := Aside0.mk hc1
 clear hr1 hc1
 have HB := Aside0.mk (Below.refl w.heap.size w)
 have H : ((styluslaw20_abc.f k).bind fun bt446 => ((lines_Fill.f k bt446.2 a0).bind fun bt452 => (if bt452.2 = 0 then ((styluslaw20_same.f k bt452.1 l1).bind fun t456 => (some t456)) else (some false)))) = some r := h
 clear h
 replace H := Option.bind_eq_some_iff.mp H
 obtain ⟨⟨t446, t447⟩, A30, H⟩ := H
 replace H : ((lines_Fill.f k t447 a0).bind fun bt452 => (if bt452.2 = 0 then ((styluslaw20_same.f k bt452.1 l1).bind fun t456 => (some t456)) else (some false))) = some r := H
 have A3 := Aside0.mk A30
 clear A30
 replace H := Option.bind_eq_some_iff.mp H
 obtain ⟨⟨t452, t453⟩, A40, H⟩ := H
 replace H : (if t453 = 0 then ((styluslaw20_same.f k t452 l1).bind fun t456 => (some t456)) else (some false)) = some r := H
 have A4 := Aside0.mk A40
 clear A40
 by_cases c5 : t453 = 0
 ·rw [if_pos c5] at H
  have c5b0 : (t453 == 0) = true := beq_iff_eq.mpr c5
  have c5b1 : (t453 != 0) = false := bne_eq_false_iff_eq.mpr c5
  clear c5
  replace H := Option.bind_eq_some_iff.mp H
  obtain ⟨t456, A60, H⟩ := H
  replace H : (some t456) = some r := H
  have A6 := Aside0.mk A60
  clear A60
  obtain rfl := Option.some.inj H
  go_enter Try.func60, Try.ntmps60
  go_wp2_with (first | ((with_reducible refine gate_callee (f := 79) rfl ?_); refine goesL_ (some 10) rfl rfl Try.func79 (by kernel_rfl) rfl #[] rfl (by (try simp only [List.map_toArray, List.map_cons, List.map_nil]); first | done | rfl | (simp only [List.length_drop, List.length_take]; rfl)) ?_; (with_reducible refine (styluslaw20_abc.calls k  t446 t447 _ A3.out).mono ?_); rintro e w7 ⟨v448, v450, rfl, ho0, ho1, hb⟩; refine ⟨_, rfl, ?_⟩; have n0_ := Aside0.mk (Kd.R_lower ho0 (below_size (by repeat (first | (with_reducible first | exact HB.out | apply below_alloc | apply pw_below_drewN | apply below_drew1) | exact HB.out)))); have n1_ := Aside0.mk (Kd.R_lower ho1 (below_size (by repeat (first | (with_reducible first | exact HB.out | apply below_alloc | apply pw_below_drewN | apply below_drew1) | exact HB.out)))); have n2_ := Aside0.mk (below_step (by repeat (first | (with_reducible first | exact HB.out | apply below_alloc | apply pw_below_drewN | apply below_drew1) | exact HB.out)) hb); clear HB; have HO449 := n0_; have HO451 := n1_; have HB := n2_; clear n0_ n1_ n2_; (try clear hb); (try clear hb2); (try clear hk); (try clear hi); (try clear ho0); (try clear ho1); obtain ⟨Ao8, co8, eo8⟩ := Kd.R_slice HO451.out; subst eo8) | ((with_reducible refine gate_callee (f := 33) rfl ?_); refine goesL_ (some 16) rfl rfl Try.func33 (by kernel_rfl) rfl #[.slice Ao8 t447.length co8, .int .i64 a0] rfl (by (try simp only [List.map_toArray, List.map_cons, List.map_nil]); first | done | rfl | (simp only [List.length_drop, List.length_take]; rfl)) ?_; (with_reducible refine (lines_Fill.calls k _ _ t447 a0 t452 t453 _ ?side1 ?side2 A4.out).mono ?_); (case side1 => repeat (first | exact (Kd.R_reads' HO451.out).2.2 | (with_reducible refine Kd.C_alloc ?_ _) | (with_reducible refine Kd.C_drewN ?_ _) | (with_reducible refine Kd.C_drew ?_))); (case side2 => exact (Kd.R_reads' HO451.out).2.1); rintro e w9 ⟨v454, rfl, ho0, hb⟩; refine ⟨_, rfl, ?_⟩; have n0_ := Aside0.mk (Kd.R_below (by (with_reducible repeat (first | apply Kd.R_alloc | apply Kd.R_drewN | apply Kd.R_drew)); exact HO449.out) hb); have n1_ := Aside0.mk (Kd.R_below (by (with_reducible repeat (first | apply Kd.R_alloc | apply Kd.R_drewN | apply Kd.R_drew)); exact HO451.out) hb); have n2_ := Aside0.mk (Kd.R_lower ho0 (below_size (by repeat (first | (with_reducible first | exact HB.out | apply below_alloc | apply pw_below_drewN | apply below_drew1) | exact HB.out)))); have n3_ := Aside0.mk (below_step (by repeat (first | (with_reducible first | exact HB.out | apply below_alloc | apply pw_below_drewN | apply below_drew1) | exact HB.out)) hb); clear HO449; clear HO451; clear HB; have HO449 := n0_; have HO451 := n1_; have HO455 := n2_; have HB := n3_; clear n0_ n1_ n2_ n3_; (try clear hb); (try clear hb2); (try clear hk); (try clear hi); (try clear ho0); obtain ⟨Ao10, co10, eo10⟩ := Kd.R_slice HO455.out; subst eo10) | (go_at_call 29; (with_reducible refine (styluslaw20_same.calls k _ _ t452 _ _ l1 t456 _ ?side1 ?side2 ?side3 ?side4 A6.out).mono ?_); (case side1 => repeat (first | exact (Kd.R_reads' HO455.out).2.2 | (with_reducible refine Kd.C_alloc ?_ _) | (with_reducible refine Kd.C_drewN ?_ _) | (with_reducible refine Kd.C_drew ?_))); (case side2 => exact (Kd.R_reads' HO455.out).2.1); (case side3 => repeat (first | exact (Kd.C_below HR1.out HB.out) | (with_reducible refine Kd.C_alloc ?_ _) | (with_reducible refine Kd.C_drewN ?_ _) | (with_reducible refine Kd.C_drew ?_))); (case side4 => exact HC1.out); rintro e w' ⟨rfl, ⟨nd, rfl⟩⟩))
  go_ret
  exact ⟨by first | rfl | (simp [errW_none, errW_some] <;> rfl) | (simp [*, errW_none, errW_some] <;> rfl), by repeat (first | (with_reducible first | exact HB.out | apply below_alloc | apply pw_below_drewN | apply below_drew1) | exact HB.out)⟩
 ·rw [if_neg c5] at H
  have c5b0 : (t453 == 0) = false := beq_eq_false_iff_ne.mpr c5
  have c5b1 : (t453 != 0) = true := bne_iff_ne.mpr c5
  obtain rfl := Option.some.inj H
  go_enter Try.func60, Try.ntmps60
  go_wp2_with (first | ((with_reducible refine gate_callee (f := 79) rfl ?_); refine goesL_ (some 10) rfl rfl Try.func79 (by kernel_rfl) rfl #[] rfl (by (try simp only [List.map_toArray, List.map_cons, List.map_nil]); first | done | rfl | (simp only [List.length_drop, List.length_take]; rfl)) ?_; (with_reducible refine (styluslaw20_abc.calls k  t446 t447 _ A3.out).mono ?_); rintro e w11 ⟨v448, v450, rfl, ho0, ho1, hb⟩; refine ⟨_, rfl, ?_⟩; have n0_ := Aside0.mk (Kd.R_lower ho0 (below_size (by repeat (first | (with_reducible first | exact HB.out | apply below_alloc | apply pw_below_drewN | apply below_drew1) | exact HB.out)))); have n1_ := Aside0.mk (Kd.R_lower ho1 (below_size (by repeat (first | (with_reducible first | exact HB.out | apply below_alloc | apply pw_below_drewN | apply below_drew1) | exact HB.out)))); have n2_ := Aside0.mk (below_step (by repeat (first | (with_reducible first | exact HB.out | apply below_alloc | apply pw_below_drewN | apply below_drew1) | exact HB.out)) hb); clear HB; have HO449 := n0_; have HO451 := n1_; have HB := n2_; clear n0_ n1_ n2_; (try clear hb); (try clear hb2); (try clear hk); (try clear hi); (try clear ho0); (try clear ho1); obtain ⟨Ao12, co12, eo12⟩ := Kd.R_slice HO451.out; subst eo12) | ((with_reducible refine gate_callee (f := 33) rfl ?_); refine goesL_ (some 16) rfl rfl Try.func33 (by kernel_rfl) rfl #[.slice Ao12 t447.length co12, .int .i64 a0] rfl (by (try simp only [List.map_toArray, List.map_cons, List.map_nil]); first | done | rfl | (simp only [List.length_drop, List.length_take]; rfl)) ?_; (with_reducible refine (lines_Fill.calls k _ _ t447 a0 t452 t453 _ ?side1 ?side2 A4.out).mono ?_); (case side1 => repeat (first | exact (Kd.R_reads' HO451.out).2.2 | (with_reducible refine Kd.C_alloc ?_ _) | (with_reducible refine Kd.C_drewN ?_ _) | (with_reducible refine Kd.C_drew ?_))); (case side2 => exact (Kd.R_reads' HO451.out).2.1); rintro e w13 ⟨v454, rfl, ho0, hb⟩; refine ⟨_, rfl, ?_⟩; have n0_ := Aside0.mk (Kd.R_below (by (with_reducible repeat (first | apply Kd.R_alloc | apply Kd.R_drewN | apply Kd.R_drew)); exact HO449.out) hb); have n1_ := Aside0.mk (Kd.R_below (by (with_reducible repeat (first | apply Kd.R_alloc | apply Kd.R_drewN | apply Kd.R_drew)); exact HO451.out) hb); have n2_ := Aside0.mk (Kd.R_lower ho0 (below_size (by repeat (first | (with_reducible first | exact HB.out | apply below_alloc | apply pw_below_drewN | apply below_drew1) | exact HB.out)))); have n3_ := Aside0.mk (below_step (by repeat (first | (with_reducible first | exact HB.out | apply below_alloc | apply pw_below_drewN | apply below_drew1) | exact HB.out)) hb); clear HO449; clear HO451; clear HB; have HO449 := n0_; have HO451 := n1_; have HO455 := n2_; have HB := n3_; clear n0_ n1_ n2_ n3_; (try clear hb); (try clear hb2); (try clear hk); (try clear hi); (try clear ho0)))
  go_ret
  exact ⟨by first | rfl | (simp [errW_none, errW_some] <;> rfl) | (simp [*, errW_none, errW_some] <;> rfl), by repeat (first | (with_reducible first | exact HB.out | apply below_alloc | apply pw_below_drewN | apply below_drew1) | exact HB.out)⟩
end Go.Proofs.Ytbddfnmhhmkfkaa.Pr
namespace Go.Proofs.Ytbddfnmhhmkfkaa.Pr
open Go.RowKit Go.Proofs.YtbddfnmhhmkfkaaW.PrintWords Go.Proofs.YtbddfnmhhmkfkaaW.PrintLast Go.Proofs.YtbddfnmhhmkfkaaW.PrintMore
def intsV (xs : List Int) : List Value := xs.map fun n => .int .i64 n
theorem lit_C (w : World) (xs : List Int) (h : xs.length ≤ 1000) : Kd.C (Kd.int .i64) (w.alloc (.cells (intsV xs).toArray 3)) (some ⟨w.heap.size, 0, none⟩) xs.length xs := by
 refine ⟨rfl, by show xs.length ≤ 9223372036854775807; omega, fun _ => ⟨_, rfl, fun i p hp => ⟨[.int .i64 p], rfl, rfl, fun j u hj => ?_⟩⟩⟩
 have hj0 : j = 0 := by
  have := (List.getElem?_eq_some_iff.1 hj).1
  simpa using this
 subst hj0
 have hu : Value.int .i64 p = u := by simpa using hj
 subst hu
 have hb := blk_cell (blk_new w (.cells (intsV xs).toArray 3)) i
 have e : (⟨w.heap.size, 0, none⟩ : Addr).add (i * (Kd.int IntKind.i64).sz + 0) = ⟨w.heap.size, i, none⟩ := by
  have : i * (Kd.int IntKind.i64).sz + 0 = i := by show i * 1 + 0 = i; omega
  rw [this]
  simp [Addr.add]
  exact fun h => h.symm
 rw [e, hb]
 simp [intsV, hp]
theorem is_two (w : World) (xs ys : List Int) (hx : xs.length ≤ 1000) (hy : ys.length ≤ 1000) (a0 a2 a3 : Int) (h : styluslaw20_is.f 60 a0 xs a2 a3 ys = some true) :
  Calls Try.prog 59 #[.int .i64 a0, .slice (some ⟨w.heap.size, 0, none⟩) xs.length xs.length, .int .i64 a2, .int .i64 a3, .slice (some ⟨w.heap.size + 1, 0, none⟩) ys.length ys.length] ((w.alloc (.cells (intsV xs).toArray 3)).alloc (.cells (intsV ys).toArray 3)) fun e w' => e = .returned (.bool true) ∧ Below w.heap.size w w' := by
 have h2 := lit_C (w.alloc (.cells (intsV xs).toArray 3)) ys hy
 rw [World.size_alloc] at h2
 refine (styluslaw20_is.calls 60 a0 _ _ xs a2 a3 _ _ ys true _ (Kd.C_alloc (lit_C w xs hx) _) (Nat.le_refl _) h2 (Nat.le_refl _) h).mono ?_
 rintro e w' ⟨rfl, hb⟩
 exact ⟨rfl, (((Below.refl w.heap.size w).alloc (Nat.le_refl _) _).alloc (by simp) _).trans (hb.mono (by simp; omega))⟩
theorem filled_one (w : World) (xs : List Int) (hx : xs.length ≤ 1000) (a0 : Int) (h : styluslaw20_filled.f 60 a0 xs = some true) :
  Calls Try.prog 60 #[.int .i64 a0, .slice (some ⟨w.heap.size, 0, none⟩) xs.length xs.length] (w.alloc (.cells (intsV xs).toArray 3)) fun e w' => e = .returned (.bool true) ∧ Below w.heap.size w w' := by
 refine (styluslaw20_filled.calls 60 a0 _ _ xs true _ (lit_C w xs hx) (Nat.le_refl _) h).mono ?_
 rintro e w' ⟨rfl, hb⟩
 exact ⟨rfl, ((Below.refl w.heap.size w).alloc (Nat.le_refl _) _).trans (hb.mono (by simp))⟩
def styluslaw20_awake.f (k : Nat) : Option Bool := some true
theorem styluslaw20_awake.mono : ∀ k, LeO (styluslaw20_awake.f k ) (styluslaw20_awake.f (k + 1) ) := fun _ => LeO.refl _
theorem ex1 : styluslaw20_is.f 60 30 [5] 40 1 [0, 10, 15, 25, 30] = some true := by decide +kernel
theorem ex2 : styluslaw20_is.f 60 26 [3, 5] 26 0 [0, 10, 16] = some true := by decide +kernel
theorem ex3 : styluslaw20_is.f 60 32 [3, 5] 32 0 [0, 10, 22] = some true := by decide +kernel
theorem ex4 : styluslaw20_is.f 60 40 [3, 5] 35 2 [0, 10, 25] = some true := by decide +kernel
theorem ex5 : styluslaw20_filled.f 60 30 [3, 5] = some true := by decide +kernel
theorem ex6 : styluslaw20_filled.f 60 9 [1, 3, 5] = some true := by decide +kernel
set_option maxRecDepth 100000 in
set_option maxHeartbeats 4000000 in
theorem styluslaw20_awake.calls (k : Nat) (r : Bool) (w : World) (h : styluslaw20_awake.f k = some r) :
  Calls Try.prog 25 #[] w fun e w' => e = .returned (.bool r) ∧ Below w.heap.size w w' := by
 obtain rfl : true = r := Option.some.inj h
 clear h
 go_enter Try.func25, Try.ntmps25
 go_wp2_with fail
 refine (is_two w [5] [0, 10, 15, 25, 30] (by decide) (by decide) 30 40 1 ex1).mono ?_
 rintro _ w1 ⟨rfl, hb1⟩
 have HB1 := Lib.hid hb1
 clear hb1
 go_wp2_with fail
 refine (is_two w1 [3, 5] [0, 10, 16] (by decide) (by decide) 26 26 0 ex2).mono ?_
 rintro _ w2 ⟨rfl, hb2⟩
 have HB2 := Lib.hid (HB1.out.trans (hb2.mono HB1.out.size))
 clear hb2
 go_wp2_with fail
 refine (is_two w2 [3, 5] [0, 10, 22] (by decide) (by decide) 32 32 0 ex3).mono ?_
 rintro _ w3 ⟨rfl, hb3⟩
 have HB3 := Lib.hid (HB2.out.trans (hb3.mono HB2.out.size))
 clear hb3
 go_wp2_with fail
 refine (is_two w3 [3, 5] [0, 10, 25] (by decide) (by decide) 40 35 2 ex4).mono ?_
 rintro _ w4 ⟨rfl, hb4⟩
 have HB4 := Lib.hid (HB3.out.trans (hb4.mono HB3.out.size))
 clear hb4
 go_wp2_with fail
 refine (filled_one w4 [3, 5] (by decide) 30 ex5).mono ?_
 rintro _ w5 ⟨rfl, hb5⟩
 have HB5 := Lib.hid (HB4.out.trans (hb5.mono HB4.out.size))
 clear hb5
 go_wp2_with fail
 refine (filled_one w5 [1, 3, 5] (by decide) 9 ex6).mono ?_
 rintro _ w6 ⟨rfl, hb6⟩
 have HB6 := Lib.hid (HB5.out.trans (hb6.mono HB5.out.size))
 clear hb6
 go_wp2
 go_ret
 exact ⟨rfl, HB6.out⟩
theorem awake20 : styluslaw20_awake.f 60 = some true := rfl
theorem awake20_ev : Ev (fun k => (styluslaw20_awake.f k).bind fun t => some t) true := Ev.bind (Ev.of styluslaw20_awake.mono awake20) (Ev.now _)
end Go.Proofs.Ytbddfnmhhmkfkaa.Pr
namespace Go.Proofs.Ytbddfnmhhmkfkaa.Pr
open Go.RowKit Go.Proofs.YtbddfnmhhmkfkaaW.PrintWords Go.Proofs.YtbddfnmhhmkfkaaW.PrintLast Go.Proofs.YtbddfnmhhmkfkaaW.PrintMore
attribute [local go_sem] max2_int min2_int max_two min_two max_three min_three max_four min_four
def stylusref07_Same.l0 : Nat → List (S101) → List (S101) → Int → Option (Bool)
 | 0, _, _, _ => none
 | k + 1, x0, x1, x5 => if x5 < (x0.length : Int) then (if 0 ≤ x5 then (if x5 < (x1.length : Int) then (if ((rd_T101 x0 x5).f0) = ((rd_T101 x1 x5).f0) then (if ((rd_T101 x0 x5).f1) = ((rd_T101 x1 x5).f1) then (stylusref07_Same.l0 k x0 x1 (wrap64 (x5 + 1))) else (some false)) else (some false)) else (none)) else (none)) else (some true)
def stylusref07_Same.f (k : Nat) (l0 : List (S101)) (l1 : List (S101)) : Option (Bool) := if (l0.length : Int) = (l1.length : Int) then (stylusref07_Same.l0 k l0 l1 0) else (some false)
theorem stylusref07_Same.mono_l : ∀ k, (∀ y0 y1 y2, LeO (stylusref07_Same.l0 k y0 y1 y2) (stylusref07_Same.l0 (k + 1) y0 y1 y2))
 | 0 => fun _ _ _ r h => by simp [stylusref07_Same.l0] at h
 | k + 1 => by
  have ih0 := stylusref07_Same.mono_l k
  ·intro y0 y1 y2
   unfold stylusref07_Same.l0
   repeat' first
   | (with_reducible exact ih0 _ _ _)
   | (with_reducible exact LeO.refl _)
   | (with_reducible exact LeO.none _)
   | (with_reducible refine LeO.ite ?_ ?_)
   | (with_reducible refine LeO.bind ?_ (fun _ => ?_))
   | exact ih0 _ _ _
   | exact LeO.none _
   | refine LeO.ite ?_ ?_
   | refine LeO.bind ?_ (fun _ => ?_)
theorem stylusref07_Same.mono : ∀ a0 a1 k, LeO (stylusref07_Same.f k a0 a1) (stylusref07_Same.f (k + 1) a0 a1) := by
 intro a0 a1 k
 have ih0 := stylusref07_Same.mono_l k
 unfold stylusref07_Same.f
 repeat' first
   | (with_reducible exact ih0 _ _ _)
   | (with_reducible exact LeO.refl _)
   | (with_reducible exact LeO.none _)
   | (with_reducible refine LeO.ite ?_ ?_)
   | (with_reducible refine LeO.bind ?_ (fun _ => ?_))
   | exact ih0 _ _ _
   | exact LeO.none _
   | refine LeO.ite ?_ ?_
   | refine LeO.bind ?_ (fun _ => ?_)
set_option maxHeartbeats 8000000 in
set_option maxRecDepth 100000 in
theorem stylusref07_Same.calls (k : Nat) (A0 : Option Addr) (c0 : Nat) (l0 : List (S101)) (A1 : Option Addr) (c1 : Nat) (l1 : List (S101)) (r : Bool) (w : World) (hr0 : Kd.C k101 w A0 l0.length l0) (hc0 : l0.length ≤ c0) (hr1 : Kd.C k101 w A1 l1.length l1) (hc1 : l1.length ≤ c1) (h : stylusref07_Same.f k l0 l1 = some r) :
  Calls Try.prog 67 #[.slice A0 l0.length c0, .slice A1 l1.length c1] w fun e w' => e = .returned (.bool r) ∧ Drawn0 w w' := by
 have HR0 := Aside0.mk hr0
 have HC0 := Aside0.mk hc0
 clear hr0 hc0
 have HR1 := Aside0.mk hr1
 have HC1 := Aside0.mk hc1
 clear hr1 hc1
 have H : (if (l0.length : Int) = (l1.length : Int) then (stylusref07_Same.l0 k l0 l1 0) else (some false)) = some r := h
 clear h
 by_cases c3 : (l0.length : Int) = (l1.length : Int)
 ·rw [if_pos c3] at H
  have c3b0 : ((l0.length : Int) == (l1.length : Int)) = true := beq_iff_eq.mpr c3
  have c3b1 : ((l0.length : Int) != (l1.length : Int)) = false := bne_eq_false_iff_eq.mpr c3
  have c3b2 : (l0.length == l1.length) = true := by first | simpa using c3 | (simp at c3 ⊢; omega)
  clear c3
  have H' := Aside0.mk H
  clear H
  go_enter Try.func67, Try.ntmps67
  go_wp2
  repeat (go_quiet (fail); try go_wp2)
  go_loopg [5] k (fun kq v5 w' => ∃ (x5_1 : Int), v5 = .int .i64 x5_1 ∧ Aside0 (stylusref07_Same.l0 kq l0 l1 x5_1 = some r) ∧ Aside0 (kq ≤ k) ∧ Drawn0 w w')
  case atStart => exact ⟨(0), (by first | rfl | (simp; done) | (simp [*]; done)), H', ⟨Nat.le_refl _⟩, by repeat (first | exact Drawn0.refl _ | apply Drawn0.step)⟩
  case round =>
   clear H'
   try clear c1
   try clear p2
   try clear c3
   try clear c3b0
   try clear c3b1
   try clear c3b2
   obtain ⟨x5_1, rfl, HA, HK1, ⟨m1, rfl⟩⟩ := hrel
   cases gk with
   | zero => exact absurd HA.out (by simp [stylusref07_Same.l0])
   | succ k1 =>
    have H := HA.out
    clear HA
    simp only [stylusref07_Same.l0] at H
    by_cases c4 : x5_1 < (l0.length : Int)
    ·rw [if_pos c4] at H
     have c4b0 : decide (x5_1 < (l0.length : Int)) = true := decide_eq_true c4
     clear c4
     by_cases c5 : 0 ≤ x5_1
     ·rw [if_pos c5] at H
      have c5b0 : decide (0 ≤ x5_1) = true := decide_eq_true c5
      clear c5
      by_cases c6 : x5_1 < (l1.length : Int)
      ·rw [if_pos c6] at H
       have c6b0 : decide (x5_1 < (l1.length : Int)) = true := decide_eq_true c6
       clear c6
       by_cases c7 : ((rd_T101 l0 x5_1).f0) = ((rd_T101 l1 x5_1).f0)
       ·rw [if_pos c7] at H
        have c7b0 : (((rd_T101 l0 x5_1).f0) == ((rd_T101 l1 x5_1).f0)) = true := beq_iff_eq.mpr c7
        have c7b1 : (((rd_T101 l0 x5_1).f0) != ((rd_T101 l1 x5_1).f0)) = false := bne_eq_false_iff_eq.mpr c7
        clear c7
        by_cases c8 : ((rd_T101 l0 x5_1).f1) = ((rd_T101 l1 x5_1).f1)
        ·rw [if_pos c8] at H
         have c8b0 : (((rd_T101 l0 x5_1).f1) == ((rd_T101 l1 x5_1).f1)) = true := beq_iff_eq.mpr c8
         have c8b1 : (((rd_T101 l0 x5_1).f1) != ((rd_T101 l1 x5_1).f1)) = false := bne_eq_false_iff_eq.mpr c8
         clear c8
         have H' := Aside0.mk H
         clear H
         have p549 : 0 ≤ (x5_1 : Int) := of_decide_eq_true (by first | (with_reducible assumption) | assumption)
         have q549 : x5_1 < (l0.length : Int) := of_decide_eq_true (by first | (with_reducible assumption) | assumption)
         obtain ⟨ad549, e549, hx549_0, hx549_1, hx549_2⟩ := at_T101 HR0.out x5_1 p549 q549
         cases e549
         replace p549 := eq_true p549
         replace q549 := eq_true q549
         have p550 : 0 ≤ (x5_1 : Int) := of_decide_eq_true (by first | (with_reducible assumption) | assumption)
         have q550 : x5_1 < (l1.length : Int) := of_decide_eq_true (by first | (with_reducible assumption) | assumption)
         obtain ⟨ad550, e550, hx550_0, hx550_1, hx550_2⟩ := at_T101 HR1.out x5_1 p550 q550
         cases e550
         replace p550 := eq_true p550
         replace q550 := eq_true q550
         have p551 : 0 ≤ (x5_1 : Int) := of_decide_eq_true (by first | (with_reducible assumption) | assumption)
         have q551 : x5_1 < (l0.length : Int) := of_decide_eq_true (by first | (with_reducible assumption) | assumption)
         obtain ⟨ad551, e551, hx551_0, hx551_1, hx551_2⟩ := at_T101 HR0.out x5_1 p551 q551
         obtain rfl : ad549 = ad551 := (by injection e551)
         replace p551 := eq_true p551
         replace q551 := eq_true q551
         have p552 : 0 ≤ (x5_1 : Int) := of_decide_eq_true (by first | (with_reducible assumption) | assumption)
         have q552 : x5_1 < (l1.length : Int) := of_decide_eq_true (by first | (with_reducible assumption) | assumption)
         obtain ⟨ad552, e552, hx552_0, hx552_1, hx552_2⟩ := at_T101 HR1.out x5_1 p552 q552
         obtain rfl : ad550 = ad552 := (by injection e552)
         replace p552 := eq_true p552
         replace q552 := eq_true q552
         go_wp2
         repeat (go_quiet (fail); try go_wp2)
         go_roundg k1
         case measure => have := HK1.out; omega
         case rel => exact ⟨(wrap64 (x5_1 + 1)), (by first | rfl | (simp; done) | (simp [*]; done)), H', ⟨by have := HK1.out; omega⟩, by repeat (first | exact Drawn0.refl _ | apply Drawn0.step)⟩
        ·rw [if_neg c8] at H
         have c8b0 : (((rd_T101 l0 x5_1).f1) == ((rd_T101 l1 x5_1).f1)) = false := beq_eq_false_iff_ne.mpr c8
         have c8b1 : (((rd_T101 l0 x5_1).f1) != ((rd_T101 l1 x5_1).f1)) = true := bne_iff_ne.mpr c8
         obtain rfl := Option.some.inj H
         have p549 : 0 ≤ (x5_1 : Int) := of_decide_eq_true (by first | (with_reducible assumption) | assumption)
         have q549 : x5_1 < (l0.length : Int) := of_decide_eq_true (by first | (with_reducible assumption) | assumption)
         obtain ⟨ad549, e549, hx549_0, hx549_1, hx549_2⟩ := at_T101 HR0.out x5_1 p549 q549
         cases e549
         replace p549 := eq_true p549
         replace q549 := eq_true q549
         have p550 : 0 ≤ (x5_1 : Int) := of_decide_eq_true (by first | (with_reducible assumption) | assumption)
         have q550 : x5_1 < (l1.length : Int) := of_decide_eq_true (by first | (with_reducible assumption) | assumption)
         obtain ⟨ad550, e550, hx550_0, hx550_1, hx550_2⟩ := at_T101 HR1.out x5_1 p550 q550
         cases e550
         replace p550 := eq_true p550
         replace q550 := eq_true q550
         have p551 : 0 ≤ (x5_1 : Int) := of_decide_eq_true (by first | (with_reducible assumption) | assumption)
         have q551 : x5_1 < (l0.length : Int) := of_decide_eq_true (by first | (with_reducible assumption) | assumption)
         obtain ⟨ad551, e551, hx551_0, hx551_1, hx551_2⟩ := at_T101 HR0.out x5_1 p551 q551
         obtain rfl : ad549 = ad551 := (by injection e551)
         replace p551 := eq_true p551
         replace q551 := eq_true q551
         have p552 : 0 ≤ (x5_1 : Int) := of_decide_eq_true (by first | (with_reducible assumption) | assumption)
         have q552 : x5_1 < (l1.length : Int) := of_decide_eq_true (by first | (with_reducible assumption) | assumption)
         obtain ⟨ad552, e552, hx552_0, hx552_1, hx552_2⟩ := at_T101 HR1.out x5_1 p552 q552
         obtain rfl : ad550 = ad552 := (by injection e552)
         replace p552 := eq_true p552
         replace q552 := eq_true q552
         go_wp2
         repeat (go_quiet (fail); try go_wp2)
         go_ret
         exact ⟨by first | rfl | (simp; done) | (simp [*]; done), by repeat (first | exact Drawn0.refl _ | apply Drawn0.step)⟩
       ·rw [if_neg c7] at H
        have c7b0 : (((rd_T101 l0 x5_1).f0) == ((rd_T101 l1 x5_1).f0)) = false := beq_eq_false_iff_ne.mpr c7
        have c7b1 : (((rd_T101 l0 x5_1).f0) != ((rd_T101 l1 x5_1).f0)) = true := bne_iff_ne.mpr c7
        obtain rfl := Option.some.inj H
        have p549 : 0 ≤ (x5_1 : Int) := of_decide_eq_true (by first | (with_reducible assumption) | assumption)
        have q549 : x5_1 < (l0.length : Int) := of_decide_eq_true (by first | (with_reducible assumption) | assumption)
        obtain ⟨ad549, e549, hx549_0, hx549_1, hx549_2⟩ := at_T101 HR0.out x5_1 p549 q549
        cases e549
        replace p549 := eq_true p549
        replace q549 := eq_true q549
        have p550 : 0 ≤ (x5_1 : Int) := of_decide_eq_true (by first | (with_reducible assumption) | assumption)
        have q550 : x5_1 < (l1.length : Int) := of_decide_eq_true (by first | (with_reducible assumption) | assumption)
        obtain ⟨ad550, e550, hx550_0, hx550_1, hx550_2⟩ := at_T101 HR1.out x5_1 p550 q550
        cases e550
        replace p550 := eq_true p550
        replace q550 := eq_true q550
        go_wp2
        repeat (go_quiet (fail); try go_wp2)
        go_ret
        exact ⟨by first | rfl | (simp; done) | (simp [*]; done), by repeat (first | exact Drawn0.refl _ | apply Drawn0.step)⟩
      ·rw [if_neg c6] at H
       exact absurd H (by simp)
     ·rw [if_neg c5] at H
      exact absurd H (by simp)
    ·rw [if_neg c4] at H
     have c4b0 : decide (x5_1 < (l0.length : Int)) = false := decide_eq_false c4
     clear c4
     obtain rfl := Option.some.inj H
     go_wp2
     repeat (go_quiet (fail); try go_wp2)
     go_ret
     exact ⟨by first | rfl | (simp; done) | (simp [*]; done), by repeat (first | exact Drawn0.refl _ | apply Drawn0.step)⟩
 ·rw [if_neg c3] at H
  have c3b0 : ((l0.length : Int) == (l1.length : Int)) = false := beq_eq_false_iff_ne.mpr c3
  have c3b1 : ((l0.length : Int) != (l1.length : Int)) = true := bne_iff_ne.mpr c3
  have c3b2 : (l0.length == l1.length) = false := by first | simpa using c3 | (simp at c3 ⊢; omega)
  obtain rfl := Option.some.inj H
  go_enter Try.func67, Try.ntmps67
  go_wp2
  repeat (go_quiet (fail); try go_wp2)
  go_ret
  exact ⟨by first | rfl | (simp; done) | (simp [*]; done), by repeat (first | exact Drawn0.refl _ | apply Drawn0.step)⟩
mutual
def stylusref07_Like.l0 : Nat → List (S101) → List (S101) → Int → Option (Bool)
 | 0, _, _, _ => none
 | k + 1, x0, x1, x5 => if x5 < (x0.length : Int) then (stylusref07_Like.j1 k x0 x1 x5 (decide (x5 < (x1.length : Int)))) else (stylusref07_Like.j1 k x0 x1 x5 false)
def stylusref07_Like.j1 : Nat → List (S101) → List (S101) → Int → Bool → Option (Bool)
 | 0, _, _, _, _ => none
 | k + 1, x0, x1, x5, x15 => if x15 = true then (if 0 ≤ x5 then (if x5 < (x0.length : Int) then (if x5 < (x1.length : Int) then (if ((rd_T101 x0 x5).f2) = ((rd_T101 x1 x5).f2) then (stylusref07_Like.l0 k x0 x1 (wrap64 (x5 + 1))) else (some false)) else (none)) else (none)) else (none)) else ((stylusref07_Same.f k x0 x1).bind fun t555 => (some t555))
end
def stylusref07_Like.f (k : Nat) (l0 : List (S101)) (l1 : List (S101)) : Option (Bool) := stylusref07_Like.l0 k l0 l1 0
theorem stylusref07_Like.mono_l : ∀ k, (∀ y0 y1 y2, LeO (stylusref07_Like.l0 k y0 y1 y2) (stylusref07_Like.l0 (k + 1) y0 y1 y2)) ∧ (∀ y0 y1 y2 y3, LeO (stylusref07_Like.j1 k y0 y1 y2 y3) (stylusref07_Like.j1 (k + 1) y0 y1 y2 y3))
 | 0 => ⟨fun _ _ _ r h => by simp [stylusref07_Like.l0] at h, fun _ _ _ _ r h => by simp [stylusref07_Like.j1] at h⟩
 | k + 1 => by
  obtain ⟨ih0, ih1⟩ := stylusref07_Like.mono_l k
  refine ⟨?_, ?_⟩
  ·intro y0 y1 y2
   unfold stylusref07_Like.l0
   repeat' first
   | (with_reducible exact ih0 _ _ _)
   | (with_reducible exact ih1 _ _ _ _)
   | (with_reducible exact stylusref07_Same.mono _ _ _)
   | (with_reducible exact LeO.refl _)
   | (with_reducible exact LeO.none _)
   | (with_reducible refine LeO.ite ?_ ?_)
   | (with_reducible refine LeO.bind ?_ (fun _ => ?_))
   | exact LeO.none _
   | refine LeO.ite ?_ ?_
   | refine LeO.bind ?_ (fun _ => ?_)
  ·intro y0 y1 y2 y3
   unfold stylusref07_Like.j1
   repeat' first
   | (with_reducible exact ih0 _ _ _)
   | (with_reducible exact ih1 _ _ _ _)
   | (with_reducible exact stylusref07_Same.mono _ _ _)
   | (with_reducible exact LeO.refl _)
   | (with_reducible exact LeO.none _)
   | (with_reducible refine LeO.ite ?_ ?_)
   | (with_reducible refine LeO.bind ?_ (fun _ => ?_))
   | exact LeO.none _
   | refine LeO.ite ?_ ?_
   | refine LeO.bind ?_ (fun _ => ?_)
theorem stylusref07_Like.mono : ∀ a0 a1 k, LeO (stylusref07_Like.f k a0 a1) (stylusref07_Like.f (k + 1) a0 a1) := by
 intro a0 a1 k
 obtain ⟨ih0, ih1⟩ := stylusref07_Like.mono_l k
 unfold stylusref07_Like.f
 repeat' first
   | (with_reducible exact ih0 _ _ _)
   | (with_reducible exact ih1 _ _ _ _)
   | (with_reducible exact stylusref07_Same.mono _ _ _)
   | (with_reducible exact LeO.refl _)
   | (with_reducible exact LeO.none _)
   | (with_reducible refine LeO.ite ?_ ?_)
   | (with_reducible refine LeO.bind ?_ (fun _ => ?_))
   | exact LeO.none _
   | refine LeO.ite ?_ ?_
   | refine LeO.bind ?_ (fun _ => ?_)
set_option maxHeartbeats 8000000 in
set_option maxRecDepth 100000 in
theorem stylusref07_Like.calls (k : Nat) (A0 : Option Addr) (c0 : Nat) (l0 : List (S101)) (A1 : Option Addr) (c1 : Nat) (l1 : List (S101)) (r : Bool) (w : World) (hr0 : Kd.C k101 w A0 l0.length l0) (hc0 : l0.length ≤ c0) (hr1 : Kd.C k101 w A1 l1.length l1) (hc1 : l1.length ≤ c1) (h : stylusref07_Like.f k l0 l1 = some r) :
  Calls Try.prog 30 #[.slice A0 l0.length c0, .slice A1 l1.length c1] w fun e w' => e = .returned (.bool r) ∧ Drawn0 w w' := by
 have HR0 := Aside0.mk hr0
 have HC0 := Aside0.mk hc0
 clear hr0 hc0
 have HR1 := Aside0.mk hr1
 have HC1 := Aside0.mk hc1
 clear hr1 hc1
 have H : (stylusref07_Like.l0 k l0 l1 0) = some r := h
 clear h
 have H' := Aside0.mk H
 clear H
 go_enter Try.func30, Try.ntmps30
 go_wp2
 repeat (go_quiet (fail); try go_wp2)
 go_loopg [5] k (fun kq v5 w' => ∃ (x5_1 : Int), v5 = .int .i64 x5_1 ∧ Aside0 (stylusref07_Like.l0 kq l0 l1 x5_1 = some r) ∧ Aside0 (kq ≤ k) ∧ Drawn0 w w')
 case atStart => exact ⟨(0), (by first | rfl | (simp; done) | (simp [*]; done)), H', ⟨Nat.le_refl _⟩, by repeat (first | exact Drawn0.refl _ | apply Drawn0.step)⟩
 case round =>
  clear H'
  try clear c1
  try clear p2
  obtain ⟨x5_1, rfl, HA, HK1, ⟨m1, rfl⟩⟩ := hrel
  cases gk with
  | zero => exact absurd HA.out (by simp [stylusref07_Like.l0])
  | succ k1 =>
   have H := HA.out
   clear HA
   simp only [stylusref07_Like.l0] at H
   have HC3 := Aside0.mk H
   clear H
   go_upto_region 2 with (fail)
   repeat (go_quiet (fail); go_upto_region 2 with (fail))
   go_cut [15] (fun v15 wc => ∃ (kq : Nat) (x15_2 : Bool), v15 = .bool x15_2 ∧ Aside0 (stylusref07_Like.j1 kq l0 l1 x5_1 x15_2 = some r) ∧ Aside0 (kq ≤ k1) ∧ Drawn0 w wc)
   case first =>
    have H := HC3.out
    clear HC3
    by_cases c4 : x5_1 < (l0.length : Int)
    ·rw [if_pos c4] at H
     have c4b0 : decide (x5_1 < (l0.length : Int)) = true := decide_eq_true c4
     clear c4
     (first | rw [c4b0] | (simp only [i64_w, i32_w]; rw [c4b0]) | skip)
     have H' := Aside0.mk H
     clear H
     go_wp2
     repeat (go_quiet (fail); try go_wp2)
     go_meet
     case rel => exact ⟨_, (decide (x5_1 < (l1.length : Int))), (by first | rfl | (simp; done) | (simp [*]; done)), H', ⟨by have := HK1.out; first | omega | exact Nat.le_refl _⟩, by repeat (first | exact Drawn0.refl _ | apply Drawn0.step)⟩
    ·rw [if_neg c4] at H
     have c4b0 : decide (x5_1 < (l0.length : Int)) = false := decide_eq_false c4
     clear c4
     (first | rw [c4b0] | (simp only [i64_w, i32_w]; rw [c4b0]) | skip)
     have H' := Aside0.mk H
     clear H
     go_wp2
     repeat (go_quiet (fail); try go_wp2)
     go_meet
     case rel => exact ⟨_, (false), (by first | rfl | (simp; done) | (simp [*]; done)), H', ⟨by have := HK1.out; first | omega | exact Nat.le_refl _⟩, by repeat (first | exact Drawn0.refl _ | apply Drawn0.step)⟩
   case rest =>
    clear HC3
    try clear c1
    try clear p2
    try clear c3
    try clear c4
    try clear c4b0
    try clear p2
    obtain ⟨kq, x15_2, rfl, HA, HJ2, ⟨mc2, rfl⟩⟩ := hcut
    cases kq with
    | zero => exact absurd HA.out (by simp [stylusref07_Like.j1])
    | succ kj2 =>
     have H := HA.out
     clear HA
     simp only [stylusref07_Like.j1] at H
     by_cases c5 : x15_2 = true
     ·subst c5
      rw [if_pos rfl] at H
      by_cases c6 : 0 ≤ x5_1
      ·rw [if_pos c6] at H
       have c6b0 : decide (0 ≤ x5_1) = true := decide_eq_true c6
       clear c6
       by_cases c7 : x5_1 < (l0.length : Int)
       ·rw [if_pos c7] at H
        have c7b0 : decide (x5_1 < (l0.length : Int)) = true := decide_eq_true c7
        clear c7
        by_cases c8 : x5_1 < (l1.length : Int)
        ·rw [if_pos c8] at H
         have c8b0 : decide (x5_1 < (l1.length : Int)) = true := decide_eq_true c8
         clear c8
         by_cases c9 : ((rd_T101 l0 x5_1).f2) = ((rd_T101 l1 x5_1).f2)
         ·rw [if_pos c9] at H
          have c9b0 : (((rd_T101 l0 x5_1).f2) == ((rd_T101 l1 x5_1).f2)) = true := beq_iff_eq.mpr c9
          have c9b1 : (((rd_T101 l0 x5_1).f2) != ((rd_T101 l1 x5_1).f2)) = false := bne_eq_false_iff_eq.mpr c9
          clear c9
          have H' := Aside0.mk H
          clear H
          have p553 : 0 ≤ (x5_1 : Int) := of_decide_eq_true (by first | (with_reducible assumption) | assumption)
          have q553 : x5_1 < (l0.length : Int) := of_decide_eq_true (by first | (with_reducible assumption) | assumption)
          obtain ⟨ad553, e553, hx553_0, hx553_1, hx553_2⟩ := at_T101 HR0.out x5_1 p553 q553
          cases e553
          replace p553 := eq_true p553
          replace q553 := eq_true q553
          have p554 : 0 ≤ (x5_1 : Int) := of_decide_eq_true (by first | (with_reducible assumption) | assumption)
          have q554 : x5_1 < (l1.length : Int) := of_decide_eq_true (by first | (with_reducible assumption) | assumption)
          obtain ⟨ad554, e554, hx554_0, hx554_1, hx554_2⟩ := at_T101 HR1.out x5_1 p554 q554
          cases e554
          replace p554 := eq_true p554
          replace q554 := eq_true q554
          go_wp2
          repeat (go_quiet (fail); try go_wp2)
          go_roundg kj2
          case measure => have := HK1.out; have := HJ2.out; omega
          case rel => exact ⟨(wrap64 (x5_1 + 1)), (by first | rfl | (simp; done) | (simp [*]; done)), H', ⟨by have := HK1.out; have := HJ2.out; omega⟩, by repeat (first | exact Drawn0.refl _ | apply Drawn0.step)⟩
         ·rw [if_neg c9] at H
          have c9b0 : (((rd_T101 l0 x5_1).f2) == ((rd_T101 l1 x5_1).f2)) = false := beq_eq_false_iff_ne.mpr c9
          have c9b1 : (((rd_T101 l0 x5_1).f2) != ((rd_T101 l1 x5_1).f2)) = true := bne_iff_ne.mpr c9
          obtain rfl := Option.some.inj H
          have p553 : 0 ≤ (x5_1 : Int) := of_decide_eq_true (by first | (with_reducible assumption) | assumption)
          have q553 : x5_1 < (l0.length : Int) := of_decide_eq_true (by first | (with_reducible assumption) | assumption)
          obtain ⟨ad553, e553, hx553_0, hx553_1, hx553_2⟩ := at_T101 HR0.out x5_1 p553 q553
          cases e553
          replace p553 := eq_true p553
          replace q553 := eq_true q553
          have p554 : 0 ≤ (x5_1 : Int) := of_decide_eq_true (by first | (with_reducible assumption) | assumption)
          have q554 : x5_1 < (l1.length : Int) := of_decide_eq_true (by first | (with_reducible assumption) | assumption)
          obtain ⟨ad554, e554, hx554_0, hx554_1, hx554_2⟩ := at_T101 HR1.out x5_1 p554 q554
          cases e554
          replace p554 := eq_true p554
          replace q554 := eq_true q554
          go_wp2
          repeat (go_quiet (fail); try go_wp2)
          go_ret
          exact ⟨by first | rfl | (simp; done) | (simp [*]; done), by repeat (first | exact Drawn0.refl _ | apply Drawn0.step)⟩
        ·rw [if_neg c8] at H
         exact absurd H (by simp)
       ·rw [if_neg c7] at H
        exact absurd H (by simp)
      ·rw [if_neg c6] at H
       exact absurd H (by simp)
     ·replace c5 := Bool.eq_false_iff.mpr c5
      subst c5
      rw [if_neg (show ¬ (false = true) by decide)] at H
      replace H := Option.bind_eq_some_iff.mp H
      obtain ⟨t555, A100, H⟩ := H
      have A10 := Aside0.mk A100
      clear A100
      obtain rfl := Option.some.inj H
      go_wp2_with (first | (go_at_call 67; (with_reducible refine (stylusref07_Same.calls kj2 _ _ l0 _ _ l1 t555 _ ?side1 ?side2 ?side3 ?side4 A10.out).mono ?_); (case side1 => repeat (first | exact HR0.out | (with_reducible refine Kd.C_alloc ?_ _) | (with_reducible refine Kd.C_drewN ?_ _) | (with_reducible refine Kd.C_drew ?_))); (case side2 => exact HC0.out); (case side3 => repeat (first | exact HR1.out | (with_reducible refine Kd.C_alloc ?_ _) | (with_reducible refine Kd.C_drewN ?_ _) | (with_reducible refine Kd.C_drew ?_))); (case side4 => exact HC1.out); rintro e w' ⟨rfl, ⟨nd, rfl⟩⟩; (try first | exact ⟨rfl, _, World.drewN_drewN _ _ _⟩ | exact ⟨rfl, _, Eq.trans (World.drewN_drewN _ _ _) (congrArg (World.drewN _) (Nat.add_assoc _ _ _))⟩)))
      go_ret
      exact ⟨by first | rfl | (simp; done) | (simp [*]; done), by repeat (first | exact Drawn0.refl _ | apply Drawn0.step)⟩
def styluslaw20_steady.l0 : Nat → List (S43) → Int → Option (Bool)
 | 0, _, _ => none
 | k + 1, x0, x3 => if x3 < (x0.length : Int) then (if 0 ≤ x3 then (if ((rd_T43 x0 x3).f0) = 2 then (if ((rd_T43 x0 x3).f3) > ((rd_T43 x0 x3).f1) then (some false) else (styluslaw20_steady.l0 k x0 (wrap64 (x3 + 1)))) else (styluslaw20_steady.l0 k x0 (wrap64 (x3 + 1)))) else (none)) else (some true)
def styluslaw20_steady.f (k : Nat) (l0 : List (S43)) : Option (Bool) := styluslaw20_steady.l0 k l0 0
theorem styluslaw20_steady.mono_l : ∀ k, (∀ y0 y1, LeO (styluslaw20_steady.l0 k y0 y1) (styluslaw20_steady.l0 (k + 1) y0 y1))
 | 0 => fun _ _ r h => by simp [styluslaw20_steady.l0] at h
 | k + 1 => by
  have ih0 := styluslaw20_steady.mono_l k
  ·intro y0 y1
   unfold styluslaw20_steady.l0
   repeat' first
   | (with_reducible exact ih0 _ _)
   | (with_reducible exact LeO.refl _)
   | (with_reducible exact LeO.none _)
   | (with_reducible refine LeO.ite ?_ ?_)
   | (with_reducible refine LeO.bind ?_ (fun _ => ?_))
   | exact LeO.none _
   | refine LeO.ite ?_ ?_
   | refine LeO.bind ?_ (fun _ => ?_)
theorem styluslaw20_steady.mono : ∀ a0 k, LeO (styluslaw20_steady.f k a0) (styluslaw20_steady.f (k + 1) a0) := by
 intro a0 k
 have ih0 := styluslaw20_steady.mono_l k
 unfold styluslaw20_steady.f
 repeat' first
   | (with_reducible exact ih0 _ _)
   | (with_reducible exact LeO.refl _)
   | (with_reducible exact LeO.none _)
   | (with_reducible refine LeO.ite ?_ ?_)
   | (with_reducible refine LeO.bind ?_ (fun _ => ?_))
   | exact LeO.none _
   | refine LeO.ite ?_ ?_
   | refine LeO.bind ?_ (fun _ => ?_)
end Go.Proofs.Ytbddfnmhhmkfkaa.Pr
namespace Go.Free
open Go Go.Det Go.Mix
variable {P : Program} {ops : Array Oper} {Q : Exit → Act → World → Prop}
def lk (ν i : Nat) : Nat → Bool := fun j => decide (j < i) && !(j == ν)
theorem any_free (ok : Ok ops) {S : Option Value → World → Prop} {ν k : Nat} {oν : Oper} (hoν : ops[ν]? = some oν) (hνk : ν < k) (hk : k ≤ ops.size) (hes : esOk ops [ν] = true) (ht : tailOk ops k [] = true) (htν : tailOk ops k [ν] = true)
  (hno : ∀ i o t, i < k → ops[i]? = some o → oν.dst = some t → t ∉ o.looksAt ops) {val : Nat → Value} {a0 : Act}
  (hsteps : ∀ i o, i < k → i ≠ ν → ops[i]? = some o → ∃ x, Fr ops val a0 (lk ν i) x ∧ ∀ s, StepG P ops (S s) (S s) x o (val i))
  (hν : ∀ (x : Act) w, S none w → Region.wanted oν (yielded ops x.tmps) = true ∧ oν.wp P x w (fun a' w' => ∃ v, a' = x.put oν.dst v ∧ S (some v) w') NoOut)
  (hend : ∀ v x, Fr ops (fun j => if j = ν then v else val j) a0 (fun j => decide (j < k)) x → ∀ w, S (some v) w → wpList P ops Q (rest ops [ν] (ops.size - k) k) x w) : ∀ (fuel : Nat) (listed : Array Bool) (a : Act) (w : World), listed.size = ops.size →
  cnt (fun i => listed.getD i false) ops.size ≤ fuel → (∀ i o, ops[i]? = some o → listed.getD i false = true → ∀ e ∈ o.after, Region.binds .any e = true → listed.getD e.on false = true) →
  (∀ i, i < ops.size → listed.getD i false = true → i < k) → listed.getD ν false = false → Fr ops val a0 (fun i => listed.getD i false) a → S none w → wpAny P .any ops Q fuel listed a w := by
 have hνin := lt_of_some hoν
 intro fuel
 induction fuel with
 | zero =>
  intro listed a w hsz hc hcl hlk hνf hf hS
  have := cnt_zero _ _ (Nat.le_zero.1 hc) ν hνin
  rw [hνf] at this
  cases this
 | succ fuel ih =>
  intro listed a w hsz hc hcl hlk hνf hf hS
  refine ⟨fun hr => ?_, fun i hi => ?_⟩
  ·have := least_ready ok hsz hr ν hνin
   rw [hνf] at this
   cases this
  have hin : i < ops.size := ready_lt hi
  have hil : i < listed.size := by omega
  obtain ⟨o, ho⟩ : ∃ o, ops[i]? = some o := ⟨_, Array.getElem?_eq_getElem hin⟩
  obtain ⟨hlf, hdeps⟩ := (ready_iff hsz ho).1 hi
  have hik : i < k := by
   rcases Nat.lt_or_ge i k with h | h
   ·exact h
   ·exfalso
    have hw := tail_waits ht hin h (by simp) (show ν < i by omega) (by simp)
    have := waits_listed hcl ops.size i ν (fun o' ho' e he hb => by
     rw [ho] at ho'
     cases ho'
     exact hdeps e he hb) hw
    rw [hνf] at this
    cases this
  have hset : ∀ j, (listed.setIfInBounds i true).getD j false = (listed.getD j false || j == i) := fun j => set_getD hil j
  have hclN : ∀ j oj, ops[j]? = some oj → (listed.setIfInBounds i true).getD j false = true → ∀ e ∈ oj.after, Region.binds .any e = true → (listed.setIfInBounds i true).getD e.on false = true := by
   intro j oj hj hlj e he hb
   rw [hset] at hlj ⊢
   rcases Bool.or_eq_true .. ▸ hlj with h | h
   ·rw [hcl j oj hj h e he hb]; rfl
   ·have : j = i := by simpa using h
    subst this
    rw [ho] at hj
    cases hj
    rw [hdeps e he hb]; rfl
  have hlkN : ∀ j, j < ops.size → (listed.setIfInBounds i true).getD j false = true → j < k := by
   intro j hj hlj
   rw [hset] at hlj
   rcases Bool.or_eq_true .. ▸ hlj with h | h
   ·exact hlk j hj h
   ·have : j = i := by simpa using h
    omega
  have hcn : cnt (fun j => (listed.setIfInBounds i true).getD j false) ops.size ≤ fuel := by
   have := (cnt_set (fun j => listed.getD j false) (fun j => (listed.setIfInBounds i true).getD j false) i hlf hset ops.size).1 hin
   omega
  by_cases hiν : i = ν
  ·subst hiν
   rw [hoν] at ho
   cases ho
   obtain ⟨hw, hrun⟩ := hν a w hS
   unfold wpOp
   rw [hoν]
   simp only
   rw [if_pos hw]
   refine .inl ?_
   unfold Oper.wp at hrun ⊢
   refine upon_imp (fun a' w' h => ?_) hrun
   obtain ⟨v, rfl, hSv⟩ := h
   have hf' : Fr ops (fun j => if j = i then v else val j) a0 (fun j => listed.getD j false) a := fr_congr hf (fun _ _ => rfl) (fun j hj => if_neg (fun e => by subst e; rw [hlf] at hj; cases hj))
   have hv : (fun j => if j = i then v else val j) i = v := if_pos rfl
   have hf2 : Fr ops (fun j => if j = i then v else val j) a0 (fun j => (listed.setIfInBounds i true).getD j false) (a.put oν.dst v) := by
    have := fr_put ok hoν hf' (L' := fun j => (listed.setIfInBounds i true).getD j false) (fun j _ => hset j)
    simpa using this
   refine any_mix ok (S := fun _ => S (some v)) (μ := ops.size) (k := k) (es := [i]) hes (by simp; omega) hk htν (val := fun j => if j = i then v else val j) (a0 := a0) (fun j oj hj he hoj => ?_) (fun x hx w'' hS'' => ?_) fuel _ _ _ (by simpa using hsz) hcn hclN ?_ ?_ hf2 hSv
   ·have hji : j ≠ i := by simpa using he
    obtain ⟨x, hfx, hsx⟩ := hsteps j oj hj hji hoj
    have hfx' : Fr ops (fun j => if j = i then v else val j) a0 (lk i j) x := fr_congr hfx (fun _ _ => rfl) (fun m hm => if_neg (fun e => by subst e; simp [lk] at hm))
    have hfy : Fr ops (fun j => if j = i then v else val j) a0 (fun m => decide (m < j) || [i].contains m) (x.put oν.dst v) := by
     have := fr_put ok hoν hfx' (L' := fun m => decide (m < j) || [i].contains m) (fun m _ => by
      unfold lk
      by_cases hm : m = i
      ·subst hm; simp
      ·have e : (m == i) = false := beq_eq_false_iff_ne.2 hm
       simp [e, hm])
     simpa using this
    refine ⟨_, hfy, ?_⟩
    rw [if_neg (by have := lt_of_some hoj; omega)]
    intro b
    have := stepG_same ok hoj hfx' hfy (fun m om t hm hd hl => ?_) (hsx (some v))
    ·simpa [hji] using this
    ·unfold lk
     by_cases hm' : m = i
     ·subst hm'
      rw [hoν] at hm
      cases hm
      exact absurd hl (hno j oj t hj hoj hd)
     ·have e : (m == i) = false := beq_eq_false_iff_ne.2 hm'
      simp [e, hm']
   ·refine hend v x (fr_congr hx (fun m hm => ?_) (fun _ _ => rfl)) w'' hS''
    by_cases hm' : m = i
    ·subst hm'; simp [hνk]
    ·simp [hm']
   ·exact fun m hm hl => .inl (hlkN m hm hl)
   ·intro m hm he
    have : m = i := by simpa using he
    subst this
    rw [hset]; simp
  ·obtain ⟨x, hfx, hsx⟩ := hsteps i o hik hiν ho
   have look : ∀ j oj t, ops[j]? = some oj → oj.dst = some t → t ∈ o.looksAt ops → lk ν i j = listed.getD j false := fun j oj t hj hd ht => by
    have hjν : j ≠ ν := fun e => by
     subst e
     rw [hoν] at hj
     cases hj
     exact hno i o t hik ho hd ht
    unfold lk
    rw [show (!(j == ν)) = true by simp [hjν], Bool.and_true]
    rcases ok.reads i o j oj t ho hj hd ht with ⟨e, he, hb, rfl⟩ | ⟨hne, e, he, hb, hei⟩
    ·rw [hdeps e he hb]
     have := ok.back i o ho e he hb
     simp [this]
    ·have hlt : i < j := hei ▸ ok.back j oj hj e he hb
     have hlj : listed.getD j false = false := by
      cases hlj : listed.getD j false with
      | false => rfl
      | true =>
       have := hcl j oj hj hlj e he hb
       rw [hei, hlf] at this
       cases this
     rw [hlj]
     simp; omega
   have hnext : ∀ w', S none w' → wpAny P .any ops Q fuel (listed.setIfInBounds i true) (a.put o.dst (val i)) w' := fun w' hS' => by
    refine ih _ _ _ (by simpa using hsz) hcn hclN hlkN ?_ ?_ hS'
    ·rw [hset, hνf]
     simpa using fun e => hiν e.symm
    ·exact fr_put ok ho hf fun j _ => hset j
   have hst := stepG_same ok ho hfx hf look (hsx none)
   unfold wpOp
   rw [ho]
   simp only
   rcases hst with ⟨hw, hrun⟩ | ⟨hw, hv, hs⟩
   ·rw [if_pos hw]
    refine .inl ?_
    have := hrun w hS
    unfold Oper.wp at this ⊢
    exact upon_imp (fun a' w' ⟨ha', hS'⟩ => ha' ▸ hnext w' hS') this
   ·rw [if_neg (by rw [hw]; simp)]
    rw [← hv]
    exact hnext w (hs _ hS)
def SeqF (P : Program) (ops : Array Oper) (S : Option Value → World → Prop) (ν : Nat) (d : List Deferred) (R : Array Value → Prop) : Nat → List Oper → Array Value → Prop
 | _, [], t => R t
 | i, o :: l, t => if i = ν then SeqF P ops S ν d R (i + 1) l t else
   ∃ t' : Array Value, (∀ s w, S s w → wpList P ops (AtEnd (S s) d t') [o] { tmps := t, defers := d } w) ∧ SeqF P ops S ν d R (i + 1) l t'
theorem seqF_nil {S : Option Value → World → Prop} {ν i : Nat} {d : List Deferred} {R : Array Value → Prop} {t : Array Value} (h : R t) : SeqF P ops S ν d R i [] t := h
theorem seqF_skip {S : Option Value → World → Prop} {ν : Nat} {d : List Deferred} {R : Array Value → Prop} {o : Oper} {l : List Oper} {t : Array Value} (h : SeqF P ops S ν d R (ν + 1) l t) : SeqF P ops S ν d R ν (o :: l) t := by
 simp only [SeqF, if_true]; exact h
theorem seqF_cons {S : Option Value → World → Prop} {ν i : Nat} {d : List Deferred} {R : Array Value → Prop} {o : Oper} {l : List Oper} {t t' : Array Value} (hi : (i == ν) = false)
  (h : ∀ s w, S s w → wpList P ops (AtEnd (S s) d t') [o] { tmps := t, defers := d } w) (hr : SeqF P ops S ν d R (i + 1) l t') : SeqF P ops S ν d R i (o :: l) t := by
 simp only [SeqF]
 rw [if_neg (by simpa using hi)]
 exact ⟨t', h, hr⟩
theorem seqF_vals (ok : Ok ops) {S : Option Value → World → Prop} {ν : Nat} {d : List Deferred} {R : Array Value → Prop} {a0 : Act} {w0 : World} (h0 : S none w0) : ∀ (l : List Oper) (i : Nat) (val0 : Nat → Value) (t : Array Value),
  (∀ j o, l[j]? = some o → ops[i + j]? = some o) → Fr ops val0 a0 (lk ν i) { tmps := t, defers := d } → SeqF P ops S ν d R i l t →
  ∃ val : Nat → Value, (∀ j, lk ν i j = true → val j = val0 j) ∧ (∀ k o, i ≤ k → k < i + l.length → k ≠ ν → ops[k]? = some o → ∃ x, Fr ops val a0 (lk ν k) x ∧ ∀ s, StepG P ops (S s) (S s) x o (val k)) ∧
   ∃ t', Fr ops val a0 (lk ν (i + l.length)) { tmps := t', defers := d } ∧ R t'
 | [], i, val0, t, hl, hf, h => ⟨val0, fun _ _ => rfl, fun k o hk ho => absurd ho (by simp; omega), t, hf, h⟩
 | o :: rest, i, val0, t, hl, hf, h => by
  have hi : ops[i]? = some o := hl 0 o (by simp)
  have hl' : ∀ j o', rest[j]? = some o' → ops[i + 1 + j]? = some o' := fun j o' hj => by
   have := hl (j + 1) o' (by simpa using hj)
   rw [show i + 1 + j = i + (j + 1) by omega]; exact this
  have hlen : i + (o :: rest).length = i + 1 + rest.length := by simp only [List.length_cons]; omega
  have hup : ∀ j, lk ν i j = true → lk ν (i + 1) j = true := fun j hj => by
   unfold lk at hj ⊢
   simp only [Bool.and_eq_true, decide_eq_true_eq] at hj ⊢
   exact ⟨by omega, hj.2⟩
  rw [hlen]
  by_cases he : i = ν
  ·simp only [SeqF, he, if_true] at h
   have hf1 : Fr ops val0 a0 (lk ν (i + 1)) { tmps := t, defers := d } := fr_congr hf (fun j hj => by
    unfold lk
    by_cases hji : j = ν
    ·simp [hji]
    ·have e : (j == ν) = false := beq_eq_false_iff_ne.2 hji
     simp only [e, Bool.not_false, Bool.and_true]
     rw [Bool.eq_iff_iff, decide_eq_true_eq, decide_eq_true_eq]
     omega) (fun _ _ => rfl)
   rw [← he] at h
   obtain ⟨val, hv, hsteps, hend⟩ := seqF_vals ok h0 rest (i + 1) val0 t hl' hf1 (by rw [he] at h ⊢; exact h)
   refine ⟨val, fun j hj => hv j (hup j hj), fun k ok' hk hkl hke hko => hsteps k ok' (by omega) hkl hke hko, hend⟩
  ·simp only [SeqF] at h
   rw [if_neg he] at h
   obtain ⟨F, hF, hrest⟩ := h
   obtain ⟨v, hvu, hput⟩ := put_of (hF none w0 h0)
   have hst : ∀ s, StepG P ops (S s) (S s) { tmps := t, defers := d } o v := fun s => stepG_of hvu hput (hF s)
   let val1 : Nat → Value := fun j => if j = i then v else val0 j
   have hne : ∀ j, lk ν i j = true → j ≠ i := fun j hj hji => by
    subst hji
    simp [lk] at hj
   have hf1 : Fr ops val1 a0 (lk ν i) { tmps := t, defers := d } := fr_congr hf (fun _ _ => rfl) (fun j hj => by
    show (if j = i then v else val0 j) = _
    rw [if_neg (hne j hj)])
   have hv1 : val1 i = v := if_pos rfl
   have hf2 : Fr ops val1 a0 (lk ν (i + 1)) { tmps := F, defers := d } := by
    rw [hput, ← hv1]
    exact fr_put ok hi hf1 fun j _ => by
     unfold lk
     rw [Bool.eq_iff_iff]
     simp only [Bool.or_eq_true, Bool.and_eq_true, decide_eq_true_eq, beq_iff_eq, Bool.not_eq_true', beq_eq_false_iff_ne]
     constructor
     ·rintro ⟨h1, h2⟩
      by_cases hji : j = i
      ·exact .inr hji
      ·exact .inl ⟨by omega, h2⟩
     ·rintro (⟨h1, h2⟩ | rfl)
      ·exact ⟨by omega, h2⟩
      ·exact ⟨by omega, he⟩
   obtain ⟨val, hv, hsteps, hend⟩ := seqF_vals ok h0 rest (i + 1) val1 F hl' hf2 hrest
   refine ⟨val, fun j hj => ?_, fun k ok' hk hkl hke hko => ?_, hend⟩
   ·rw [hv j (hup j hj)]
    show (if j = i then v else val0 j) = _
    rw [if_neg (hne j hj)]
   ·by_cases hki : k = i
    ·subst hki
     rw [hi] at hko
     cases hko
     refine ⟨_, fr_congr hf1 (fun _ _ => rfl) (fun j hj => hv j (hup j hj)), ?_⟩
     have : val k = v := by
      rw [hv k (by unfold lk; simp; exact he), hv1]
     rw [this]
     exact hst
    ·exact hsteps k ok' (by omega) hkl hke hko
def freeOk (ops : Array Oper) (ν k : Nat) : Bool :=
 okOps ops && esOk ops [ν] && tailOk ops k [] && tailOk ops k [ν] && decide (k ≤ ops.size) && decide (ν < k) &&
  (match ops[ν]? with
   | none => false
   | some oν => match oν.dst with
    | none => true
    | some t => (List.range k).all fun i => match ops[i]? with | none => true | some o => !(o.looksAt ops).contains t)
theorem region_free {id : Nat} {l : List Oper} {t : Array Value} {d : List Deferred} {w : World} (S : Option Value → World → Prop) (ν k : Nat) (oν : Oper) (hoν : l[ν]? = some oν) (hm : P.follows .mixedOrders = true) (hok : freeOk l.toArray ν k = true) (hS : S none w.drew)
  (hν : ∀ (x : Act) w, S none w → Region.wanted oν (yielded l.toArray x.tmps) = true ∧ oν.wp P x w (fun a' w' => ∃ v, a' = x.put oν.dst v ∧ S (some v) w') NoOut)
  (h : SeqF P l.toArray S ν d (fun t' => ∀ v w', S (some v) w' → wpList P l.toArray Q (l.drop k) (({ tmps := t', defers := d } : Act).put oν.dst v) w') 0 (l.take k) t) :
  (Code.region id l.toArray true).wp P Q { tmps := t, defers := d } w := by
 simp only [freeOk, Bool.and_eq_true, decide_eq_true_eq] at hok
 obtain ⟨⟨⟨⟨⟨⟨hok, hes⟩, ht⟩, htν⟩, hk⟩, hνk⟩, hlast⟩ := hok
 have ok := okOps_spec hok
 have hlen : l.toArray.size = l.length := by simp
 have hoν' : l.toArray[ν]? = some oν := by simpa using hoν
 rw [hoν'] at hlast
 have hno : ∀ i o t, i < k → l.toArray[i]? = some o → oν.dst = some t → t ∉ o.looksAt l.toArray := fun i o t hi ho hd hmem => by
  simp only [hd] at hlast
  have := List.all_eq_true.1 hlast i (List.mem_range.2 hi)
  rw [ho] at this
  simp at this
  exact this hmem
 refine wp_region_any hm ?_
 obtain ⟨val, _, hsteps, t', hfx, hR⟩ := seqF_vals ok hS (l.take k) 0 (fun _ => undef) t (fun j o hj => by
  rw [List.getElem?_take] at hj
  split at hj
  ·simpa using hj
  ·cases hj) (fr_start _ { tmps := t, defers := d } _ fun i _ => by simp [lk]) h
 have hlk : 0 + (l.take k).length = k := by rw [List.length_take]; omega
 rw [hlk] at hsteps hfx
 refine any_free ok hoν' hνk hk hes ht htν hno (val := val) (a0 := { tmps := t, defers := d }) (fun i o hi he ho => hsteps i o (Nat.zero_le _) hi he ho) hν (fun v y hy w' hS' => ?_) _ _ _ _ (by simp) ?_ ?_ ?_ (rep_false _ _) (fr_start _ _ _ fun i _ => rep_false _ i) hS
 ·have hfx' : Fr l.toArray (fun j => if j = ν then v else val j) { tmps := t, defers := d } (lk ν k) { tmps := t', defers := d } := fr_congr hfx (fun _ _ => rfl) (fun m hm => if_neg (fun e => by subst e; simp [lk] at hm))
  have hfz : Fr l.toArray (fun j => if j = ν then v else val j) { tmps := t, defers := d } (fun j => decide (j < k)) (({ tmps := t', defers := d } : Act).put oν.dst v) := by
   have := fr_put ok hoν' hfx' (L' := fun j => decide (j < k)) (fun m _ => by
    unfold lk
    by_cases hm : m = ν
    ·subst hm; simp [hνk]
    ·have e : (m == ν) = false := beq_eq_false_iff_ne.2 hm
     simp [e])
   simpa using this
  rw [fr_eq hy hfz fun _ _ => rfl, rest_drop (ops := l.toArray) (l.toArray.size - k) k (by omega) (fun e he => by
   have : e = ν := by simpa using he
   omega)]
  exact hR v w' hS'
 ·have : ∀ n, cnt (fun i => (Array.replicate l.toArray.size false).getD i false) n ≤ n := fun n => by
   induction n with
   | zero => exact Nat.le_refl _
   | succ n ihn => simp only [cnt]; split <;> omega
  exact this _
 ·intro i o hi hl
  rw [rep_false] at hl
  cases hl
 ·intro i hi hl
  rw [rep_false] at hl
  cases hl
end Go.Free
