/- Texts of this seat, one behind the other. -/
import Derived.Test.YtbddfnmhhmkfkaaXBestOf1
import Derived.Test.YtbddfnmhhmkfkaaXBestOf2
import Derived.Test.YtbddfnmhhmkfkaaXBestOf3
namespace Go.Proofs.Ytbddfnmhhmkfkaa.Pr
open Go.RowKit Go.Proofs.YtbddfnmhhmkfkaaW.PrintWords Go.Proofs.YtbddfnmhhmkfkaaW.PrintLast Go.Proofs.YtbddfnmhhmkfkaaW.PrintMore
attribute [local go_sem] max2_int min2_int max_two min_two max_three min_three max_four min_four
set_option linter.unusedVariables false
set_option linter.unusedSimpArgs false
def r19_Ratio.j0 : Nat → List (S43) → Int → Int → Int → Bool → Option (Int × Int × Int)
 | 0, _, _, _, _, _ => none
 | k + 1, x0, x1, x2, x3, x44 => if x44 = true then (some (0, 0, 1)) else ((r19_Line.f k x0 x2 x3).bind fun bt266 => ((r19_Rate.f k x0 x1 x2 x3).bind fun t269 => (some (bt266.1, t269, 0))))
def r19_Ratio.f (k : Nat) (l0 : List (S43)) (a1 : Int) (a2 : Int) (a3 : Int) : Option (Int × Int × Int) := (r19_Check.f k l0 a1).bind fun t262 => (if t262 = 0 then (if a2 = (-1) then ((r19_Place.f l0 a3).bind fun t263 => (if t263 = true then (r19_Ratio.j0 k l0 a1 a2 a3 (decide (a3 ≤ a2))) else (r19_Ratio.j0 k l0 a1 a2 a3 true))) else (if a2 = (l0.length : Int) then (r19_Ratio.j0 k l0 a1 a2 a3 true) else ((r19_Place.f l0 a2).bind fun t264 => (if t264 = true then ((r19_Place.f l0 a3).bind fun t265 => (if t265 = true then (r19_Ratio.j0 k l0 a1 a2 a3 (decide (a3 ≤ a2))) else (r19_Ratio.j0 k l0 a1 a2 a3 true))) else (r19_Ratio.j0 k l0 a1 a2 a3 true))))) else (r19_Ratio.j0 k l0 a1 a2 a3 true))
theorem r19_Ratio.mono_l : ∀ k, (∀ y0 y1 y2 y3 y4, LeO (r19_Ratio.j0 k y0 y1 y2 y3 y4) (r19_Ratio.j0 (k + 1) y0 y1 y2 y3 y4))
 | 0 => fun _ _ _ _ _ r h => by simp [r19_Ratio.j0] at h
 | k + 1 => by
  have ih0 := r19_Ratio.mono_l k
  ·intro y0 y1 y2 y3 y4
   unfold r19_Ratio.j0
   repeat' first
   | (with_reducible exact ih0 _ _ _ _ _)
   | (with_reducible exact r19_Check.mono _ _ _)
   | (with_reducible exact r19_Line.mono _ _ _ _)
   | (with_reducible exact r19_Rate.mono _ _ _ _ _)
   | (with_reducible exact LeO.refl _)
   | (with_reducible exact LeO.none _)
   | (with_reducible refine LeO.ite ?_ ?_)
   | (with_reducible refine LeO.bind ?_ (fun _ => ?_))
   | exact ih0 _ _ _ _ _
   | exact r19_Check.mono _ _ _
   | exact r19_Line.mono _ _ _ _
   | exact r19_Rate.mono _ _ _ _ _
   | exact LeO.none _
   | refine LeO.ite ?_ ?_
   | refine LeO.bind ?_ (fun _ => ?_)
theorem r19_Ratio.mono : ∀ a0 a1 a2 a3 k, LeO (r19_Ratio.f k a0 a1 a2 a3) (r19_Ratio.f (k + 1) a0 a1 a2 a3) := by
 intro a0 a1 a2 a3 k
 have ih0 := r19_Ratio.mono_l k
 unfold r19_Ratio.f
 repeat' first
   | (with_reducible exact ih0 _ _ _ _ _)
   | (with_reducible exact r19_Check.mono _ _ _)
   | (with_reducible exact r19_Line.mono _ _ _ _)
   | (with_reducible exact r19_Rate.mono _ _ _ _ _)
   | (with_reducible exact LeO.refl _)
   | (with_reducible exact LeO.none _)
   | (with_reducible refine LeO.ite ?_ ?_)
   | (with_reducible refine LeO.bind ?_ (fun _ => ?_))
   | exact ih0 _ _ _ _ _
   | exact r19_Check.mono _ _ _
   | exact r19_Line.mono _ _ _ _
   | exact r19_Rate.mono _ _ _ _ _
   | exact LeO.none _
   | refine LeO.ite ?_ ?_
   | refine LeO.bind ?_ (fun _ => ?_)
set_option maxHeartbeats 8000000 in
set_option maxRecDepth 100000 in
theorem r19_Ratio.calls (k : Nat) (A0 : Option Addr) (c0 : Nat) (l0 : List (S43)) (a1 : Int) (a2 : Int) (a3 : Int) (r1 : Int) (r2 : Int) (r3 : Int) (w : World) (hr0 : Kd.C k43 w A0 l0.length l0) (hc0 : l0.length ≤ c0) (h : r19_Ratio.f k l0 a1 a2 a3 = some (r1, r2, r3)) :
  Calls Try.prog 20 #[.slice A0 l0.length c0, .int .i64 a1, .int .i64 a2, .int .i64 a3] w fun e w' => e = .returned (.tuple #[.int .i64 r1, .int .i64 r2, .int .i64 r3]) ∧ Below w.heap.size w w' := by
 have HR0 := Aside0.mk hr0
 have HC0 := Aside0.mk hc0
 clear hr0 hc0
 have HB := Aside0.mk (Below.refl w.heap.size w)
 have H : ((r19_Check.f k l0 a1).bind fun t262 => (if t262 = 0 then (if a2 = (-1) then ((r19_Place.f l0 a3).bind fun t263 => (if t263 = true then (r19_Ratio.j0 k l0 a1 a2 a3 (decide (a3 ≤ a2))) else (r19_Ratio.j0 k l0 a1 a2 a3 true))) else (if a2 = (l0.length : Int) then (r19_Ratio.j0 k l0 a1 a2 a3 true) else ((r19_Place.f l0 a2).bind fun t264 => (if t264 = true then ((r19_Place.f l0 a3).bind fun t265 => (if t265 = true then (r19_Ratio.j0 k l0 a1 a2 a3 (decide (a3 ≤ a2))) else (r19_Ratio.j0 k l0 a1 a2 a3 true))) else (r19_Ratio.j0 k l0 a1 a2 a3 true))))) else (r19_Ratio.j0 k l0 a1 a2 a3 true))) = some (r1, r2, r3) := h
 clear h
 have HC5 := Aside0.mk H
 clear H
 go_enter Try.func20, Try.ntmps20
 go_upto_region 1 with (fail)
 go_cut [44] (fun v44 wc => ∃ (kq : Nat) (x44_4 : Bool), v44 = .bool x44_4 ∧ Aside0 (r19_Ratio.j0 kq l0 a1 a2 a3 x44_4 = some (r1, r2, r3)) ∧ Aside0 (kq ≤ k) ∧ Aside0 (Below w.heap.size w wc))
 case first =>
  have H := HC5.out
  clear HC5
  replace H := Option.bind_eq_some_iff.mp H
  obtain ⟨t262, A60, H⟩ := H
  replace H : (if t262 = 0 then (if a2 = (-1) then ((r19_Place.f l0 a3).bind fun t263 => (if t263 = true then (r19_Ratio.j0 k l0 a1 a2 a3 (decide (a3 ≤ a2))) else (r19_Ratio.j0 k l0 a1 a2 a3 true))) else (if a2 = (l0.length : Int) then (r19_Ratio.j0 k l0 a1 a2 a3 true) else ((r19_Place.f l0 a2).bind fun t264 => (if t264 = true then ((r19_Place.f l0 a3).bind fun t265 => (if t265 = true then (r19_Ratio.j0 k l0 a1 a2 a3 (decide (a3 ≤ a2))) else (r19_Ratio.j0 k l0 a1 a2 a3 true))) else (r19_Ratio.j0 k l0 a1 a2 a3 true))))) else (r19_Ratio.j0 k l0 a1 a2 a3 true)) = some (r1, r2, r3) := H
  have A6 := Aside0.mk A60
  clear A60
  by_cases c7 : t262 = 0
  ·rw [if_pos c7] at H
   have c7b0 : (t262 == 0) = true := beq_iff_eq.mpr c7
   have c7b1 : (t262 != 0) = false := bne_eq_false_iff_eq.mpr c7
   clear c7
   (first | rw [c7b0] | (simp only [i64_w, i32_w]; rw [c7b0]) | skip)
   by_cases c8 : a2 = (-1)
   ·rw [if_pos c8] at H
    have c8b0 : (a2 == (-1)) = true := beq_iff_eq.mpr c8
    have c8b1 : (a2 != (-1)) = false := bne_eq_false_iff_eq.mpr c8
    clear c8
    replace H := Option.bind_eq_some_iff.mp H
    obtain ⟨t263, A90, H⟩ := H
    replace H : (if t263 = true then (r19_Ratio.j0 k l0 a1 a2 a3 (decide (a3 ≤ a2))) else (r19_Ratio.j0 k l0 a1 a2 a3 true)) = some (r1, r2, r3) := H
    have A9 := Aside0.mk A90
    clear A90
    by_cases c10 : t263 = true
    ·subst c10
     have H1 : (r19_Ratio.j0 k l0 a1 a2 a3 (decide (a3 ≤ a2))) = some (r1, r2, r3) := by rw [if_pos rfl] at H; exact H
     clear H
     have H := H1
     clear H1
     have H' := Aside0.mk H
     clear H
     go_wp2_with (first | ((with_reducible refine gate_callee (f := 17) rfl ?_); refine goesL_ (some 16) rfl rfl Try.func17 (by kernel_rfl) rfl #[.slice A0 l0.length c0, .int .i64 a1] rfl (by (try simp only [List.map_toArray, List.map_cons, List.map_nil]); first | done | rfl | (simp only [List.length_drop, List.length_take]; rfl)) ?_; (with_reducible refine (r19_Check.calls k _ _ l0 a1 t262 _ ?side1 ?side2 A6.out).mono ?_); (case side1 => repeat (first | exact (Kd.C_below HR0.out HB.out) | (with_reducible refine Kd.C_alloc ?_ _) | (with_reducible refine Kd.C_drewN ?_ _) | (with_reducible refine Kd.C_drew ?_))); (case side2 => exact HC0.out); rintro e w11 ⟨rfl, hb⟩; refine ⟨_, rfl, ?_⟩; have n0_ := Aside0.mk (below_step (by repeat (first | (with_reducible first | exact HB.out | apply below_alloc | apply pw_below_drewN | apply below_drew1) | exact HB.out)) hb); clear HB; have HB := n0_; clear n0_; (try clear hb); (try clear hb2); (try clear hk); (try clear hi)) | (go_at_call 40; (with_reducible refine (r19_Place.calls _ _ l0 a3 true _ ?side1 ?side2 A9.out).mono ?_); (case side1 => repeat (first | exact (Kd.C_below HR0.out HB.out) | (with_reducible refine Kd.C_alloc ?_ _) | (with_reducible refine Kd.C_drewN ?_ _) | (with_reducible refine Kd.C_drew ?_))); (case side2 => exact HC0.out); rintro e w' ⟨rfl, ⟨nd, rfl⟩⟩))
     go_meet
     case rel => exact ⟨_, (decide (a3 ≤ a2)), (by first | rfl | (simp; done) | (simp [*]; done)), H', ⟨by first | omega | exact Nat.le_refl _⟩, ⟨by repeat (first | (with_reducible first | exact HB.out | apply below_alloc | apply pw_below_drewN | apply below_drew1) | exact HB.out)⟩⟩
    ·replace c10 := Bool.eq_false_iff.mpr c10
     subst c10
     have H1 : (r19_Ratio.j0 k l0 a1 a2 a3 true) = some (r1, r2, r3) := by rw [if_neg (show ¬ (false = true) by decide)] at H; exact H
     clear H
     have H := H1
     clear H1
     have H' := Aside0.mk H
     clear H
     go_wp2_with (first | ((with_reducible refine gate_callee (f := 17) rfl ?_); refine goesL_ (some 16) rfl rfl Try.func17 (by kernel_rfl) rfl #[.slice A0 l0.length c0, .int .i64 a1] rfl (by (try simp only [List.map_toArray, List.map_cons, List.map_nil]); first | done | rfl | (simp only [List.length_drop, List.length_take]; rfl)) ?_; (with_reducible refine (r19_Check.calls k _ _ l0 a1 t262 _ ?side1 ?side2 A6.out).mono ?_); (case side1 => repeat (first | exact (Kd.C_below HR0.out HB.out) | (with_reducible refine Kd.C_alloc ?_ _) | (with_reducible refine Kd.C_drewN ?_ _) | (with_reducible refine Kd.C_drew ?_))); (case side2 => exact HC0.out); rintro e w12 ⟨rfl, hb⟩; refine ⟨_, rfl, ?_⟩; have n0_ := Aside0.mk (below_step (by repeat (first | (with_reducible first | exact HB.out | apply below_alloc | apply pw_below_drewN | apply below_drew1) | exact HB.out)) hb); clear HB; have HB := n0_; clear n0_; (try clear hb); (try clear hb2); (try clear hk); (try clear hi)) | (go_at_call 40; (with_reducible refine (r19_Place.calls _ _ l0 a3 false _ ?side1 ?side2 A9.out).mono ?_); (case side1 => repeat (first | exact (Kd.C_below HR0.out HB.out) | (with_reducible refine Kd.C_alloc ?_ _) | (with_reducible refine Kd.C_drewN ?_ _) | (with_reducible refine Kd.C_drew ?_))); (case side2 => exact HC0.out); rintro e w' ⟨rfl, ⟨nd, rfl⟩⟩))
     go_meet
     case rel => exact ⟨_, (true), (by first | rfl | (simp; done) | (simp [*]; done)), H', ⟨by first | omega | exact Nat.le_refl _⟩, ⟨by repeat (first | (with_reducible first | exact HB.out | apply below_alloc | apply pw_below_drewN | apply below_drew1) | exact HB.out)⟩⟩
   ·rw [if_neg c8] at H
    have c8b0 : (a2 == (-1)) = false := beq_eq_false_iff_ne.mpr c8
    have c8b1 : (a2 != (-1)) = true := bne_iff_ne.mpr c8
    by_cases c13 : a2 = (l0.length : Int)
    ·rw [if_pos c13] at H
     have c13b0 : (a2 == (l0.length : Int)) = true := beq_iff_eq.mpr c13
     have c13b1 : (a2 != (l0.length : Int)) = false := bne_eq_false_iff_eq.mpr c13
     clear c13
     have H' := Aside0.mk H
     clear H
     go_wp2_with (first | ((with_reducible refine gate_callee (f := 17) rfl ?_); refine goesL_ (some 16) rfl rfl Try.func17 (by kernel_rfl) rfl #[.slice A0 l0.length c0, .int .i64 a1] rfl (by (try simp only [List.map_toArray, List.map_cons, List.map_nil]); first | done | rfl | (simp only [List.length_drop, List.length_take]; rfl)) ?_; (with_reducible refine (r19_Check.calls k _ _ l0 a1 t262 _ ?side1 ?side2 A6.out).mono ?_); (case side1 => repeat (first | exact (Kd.C_below HR0.out HB.out) | (with_reducible refine Kd.C_alloc ?_ _) | (with_reducible refine Kd.C_drewN ?_ _) | (with_reducible refine Kd.C_drew ?_))); (case side2 => exact HC0.out); rintro e w14 ⟨rfl, hb⟩; refine ⟨_, rfl, ?_⟩; have n0_ := Aside0.mk (below_step (by repeat (first | (with_reducible first | exact HB.out | apply below_alloc | apply pw_below_drewN | apply below_drew1) | exact HB.out)) hb); clear HB; have HB := n0_; clear n0_; (try clear hb); (try clear hb2); (try clear hk); (try clear hi)))
     go_meet
     case rel => exact ⟨_, (true), (by first | rfl | (simp; done) | (simp [*]; done)), H', ⟨by first | omega | exact Nat.le_refl _⟩, ⟨by repeat (first | (with_reducible first | exact HB.out | apply below_alloc | apply pw_below_drewN | apply below_drew1) | exact HB.out)⟩⟩
    ·rw [if_neg c13] at H
     have c13b0 : (a2 == (l0.length : Int)) = false := beq_eq_false_iff_ne.mpr c13
     have c13b1 : (a2 != (l0.length : Int)) = true := bne_iff_ne.mpr c13
     replace H := Option.bind_eq_some_iff.mp H
     obtain ⟨t264, A150, H⟩ := H
     replace H : (if t264 = true then ((r19_Place.f l0 a3).bind fun t265 => (if t265 = true then (r19_Ratio.j0 k l0 a1 a2 a3 (decide (a3 ≤ a2))) else (r19_Ratio.j0 k l0 a1 a2 a3 true))) else (r19_Ratio.j0 k l0 a1 a2 a3 true)) = some (r1, r2, r3) := H
     have A15 := Aside0.mk A150
     clear A150
     by_cases c16 : t264 = true
     ·subst c16
      have H1 : ((r19_Place.f l0 a3).bind fun t265 => (if t265 = true then (r19_Ratio.j0 k l0 a1 a2 a3 (decide (a3 ≤ a2))) else (r19_Ratio.j0 k l0 a1 a2 a3 true))) = some (r1, r2, r3) := by rw [if_pos rfl] at H; exact H
      clear H
      have H := H1
      clear H1
      replace H := Option.bind_eq_some_iff.mp H
      obtain ⟨t265, A170, H⟩ := H
      replace H : (if t265 = true then (r19_Ratio.j0 k l0 a1 a2 a3 (decide (a3 ≤ a2))) else (r19_Ratio.j0 k l0 a1 a2 a3 true)) = some (r1, r2, r3) := H
      have A17 := Aside0.mk A170
      clear A170
      by_cases c18 : t265 = true
      ·subst c18
       have H1 : (r19_Ratio.j0 k l0 a1 a2 a3 (decide (a3 ≤ a2))) = some (r1, r2, r3) := by rw [if_pos rfl] at H; exact H
       clear H
       have H := H1
       clear H1
       have H' := Aside0.mk H
       clear H
       go_wp2_with (first | ((with_reducible refine gate_callee (f := 17) rfl ?_); refine goesL_ (some 16) rfl rfl Try.func17 (by kernel_rfl) rfl #[.slice A0 l0.length c0, .int .i64 a1] rfl (by (try simp only [List.map_toArray, List.map_cons, List.map_nil]); first | done | rfl | (simp only [List.length_drop, List.length_take]; rfl)) ?_; (with_reducible refine (r19_Check.calls k _ _ l0 a1 t262 _ ?side1 ?side2 A6.out).mono ?_); (case side1 => repeat (first | exact (Kd.C_below HR0.out HB.out) | (with_reducible refine Kd.C_alloc ?_ _) | (with_reducible refine Kd.C_drewN ?_ _) | (with_reducible refine Kd.C_drew ?_))); (case side2 => exact HC0.out); rintro e w19 ⟨rfl, hb⟩; refine ⟨_, rfl, ?_⟩; have n0_ := Aside0.mk (below_step (by repeat (first | (with_reducible first | exact HB.out | apply below_alloc | apply pw_below_drewN | apply below_drew1) | exact HB.out)) hb); clear HB; have HB := n0_; clear n0_; (try clear hb); (try clear hb2); (try clear hk); (try clear hi)) | (go_at_call 40; (with_reducible refine (r19_Place.calls _ _ l0 a2 true _ ?side1 ?side2 A15.out).mono ?_); (case side1 => repeat (first | exact (Kd.C_below HR0.out HB.out) | (with_reducible refine Kd.C_alloc ?_ _) | (with_reducible refine Kd.C_drewN ?_ _) | (with_reducible refine Kd.C_drew ?_))); (case side2 => exact HC0.out); rintro e w' ⟨rfl, ⟨nd, rfl⟩⟩) | (go_at_call 40; (with_reducible refine (r19_Place.calls _ _ l0 a3 true _ ?side1 ?side2 A17.out).mono ?_); (case side1 => repeat (first | exact (Kd.C_below HR0.out (by repeat (first | (with_reducible first | exact HB.out | apply below_alloc | apply pw_below_drewN | apply below_drew1) | exact HB.out))) | (with_reducible refine Kd.C_alloc ?_ _) | (with_reducible refine Kd.C_drewN ?_ _) | (with_reducible refine Kd.C_drew ?_))); (case side2 => exact HC0.out); rintro e w' ⟨rfl, ⟨nd, rfl⟩⟩))
       go_meet
       case rel => exact ⟨_, (decide (a3 ≤ a2)), (by first | rfl | (simp; done) | (simp [*]; done)), H', ⟨by first | omega | exact Nat.le_refl _⟩, ⟨by repeat (first | (with_reducible first | exact HB.out | apply below_alloc | apply pw_below_drewN | apply below_drew1) | exact HB.out)⟩⟩
      ·replace c18 := Bool.eq_false_iff.mpr c18
       subst c18
       have H1 : (r19_Ratio.j0 k l0 a1 a2 a3 true) = some (r1, r2, r3) := by rw [if_neg (show ¬ (false = true) by decide)] at H; exact H
       clear H
       have H := H1
       clear H1
       have H' := Aside0.mk H
       clear H
       go_wp2_with (first | ((with_reducible refine gate_callee (f := 17) rfl ?_); refine goesL_ (some 16) rfl rfl Try.func17 (by kernel_rfl) rfl #[.slice A0 l0.length c0, .int .i64 a1] rfl (by (try simp only [List.map_toArray, List.map_cons, List.map_nil]); first | done | rfl | (simp only [List.length_drop, List.length_take]; rfl)) ?_; (with_reducible refine (r19_Check.calls k _ _ l0 a1 t262 _ ?side1 ?side2 A6.out).mono ?_); (case side1 => repeat (first | exact (Kd.C_below HR0.out HB.out) | (with_reducible refine Kd.C_alloc ?_ _) | (with_reducible refine Kd.C_drewN ?_ _) | (with_reducible refine Kd.C_drew ?_))); (case side2 => exact HC0.out); rintro e w20 ⟨rfl, hb⟩; refine ⟨_, rfl, ?_⟩; have n0_ := Aside0.mk (below_step (by repeat (first | (with_reducible first | exact HB.out | apply below_alloc | apply pw_below_drewN | apply below_drew1) | exact HB.out)) hb); clear HB; have HB := n0_; clear n0_; (try clear hb); (try clear hb2); (try clear hk); (try clear hi)) | (go_at_call 40; (with_reducible refine (r19_Place.calls _ _ l0 a2 true _ ?side1 ?side2 A15.out).mono ?_); (case side1 => repeat (first | exact (Kd.C_below HR0.out HB.out) | (with_reducible refine Kd.C_alloc ?_ _) | (with_reducible refine Kd.C_drewN ?_ _) | (with_reducible refine Kd.C_drew ?_))); (case side2 => exact HC0.out); rintro e w' ⟨rfl, ⟨nd, rfl⟩⟩) | (go_at_call 40; (with_reducible refine (r19_Place.calls _ _ l0 a3 false _ ?side1 ?side2 A17.out).mono ?_); (case side1 => repeat (first | exact (Kd.C_below HR0.out (by repeat (first | (with_reducible first | exact HB.out | apply below_alloc | apply pw_below_drewN | apply below_drew1) | exact HB.out))) | (with_reducible refine Kd.C_alloc ?_ _) | (with_reducible refine Kd.C_drewN ?_ _) | (with_reducible refine Kd.C_drew ?_))); (case side2 => exact HC0.out); rintro e w' ⟨rfl, ⟨nd, rfl⟩⟩))
       go_meet
       case rel => exact ⟨_, (true), (by first | rfl | (simp; done) | (simp [*]; done)), H', ⟨by first | omega | exact Nat.le_refl _⟩, ⟨by repeat (first | (with_reducible first | exact HB.out | apply below_alloc | apply pw_below_drewN | apply below_drew1) | exact HB.out)⟩⟩
     ·replace c16 := Bool.eq_false_iff.mpr c16
      subst c16
      have H1 : (r19_Ratio.j0 k l0 a1 a2 a3 true) = some (r1, r2, r3) := by rw [if_neg (show ¬ (false = true) by decide)] at H; exact H
      clear H
      have H := H1
      clear H1
      have H' := Aside0.mk H
      clear H
      go_wp2_with (first | ((with_reducible refine gate_callee (f := 17) rfl ?_); refine goesL_ (some 16) rfl rfl Try.func17 (by kernel_rfl) rfl #[.slice A0 l0.length c0, .int .i64 a1] rfl (by (try simp only [List.map_toArray, List.map_cons, List.map_nil]); first | done | rfl | (simp only [List.length_drop, List.length_take]; rfl)) ?_; (with_reducible refine (r19_Check.calls k _ _ l0 a1 t262 _ ?side1 ?side2 A6.out).mono ?_); (case side1 => repeat (first | exact (Kd.C_below HR0.out HB.out) | (with_reducible refine Kd.C_alloc ?_ _) | (with_reducible refine Kd.C_drewN ?_ _) | (with_reducible refine Kd.C_drew ?_))); (case side2 => exact HC0.out); rintro e w21 ⟨rfl, hb⟩; refine ⟨_, rfl, ?_⟩; have n0_ := Aside0.mk (below_step (by repeat (first | (with_reducible first | exact HB.out | apply below_alloc | apply pw_below_drewN | apply below_drew1) | exact HB.out)) hb); clear HB; have HB := n0_; clear n0_; (try clear hb); (try clear hb2); (try clear hk); (try clear hi)) | (go_at_call 40; (with_reducible refine (r19_Place.calls _ _ l0 a2 false _ ?side1 ?side2 A15.out).mono ?_); (case side1 => repeat (first | exact (Kd.C_below HR0.out HB.out) | (with_reducible refine Kd.C_alloc ?_ _) | (with_reducible refine Kd.C_drewN ?_ _) | (with_reducible refine Kd.C_drew ?_))); (case side2 => exact HC0.out); rintro e w' ⟨rfl, ⟨nd, rfl⟩⟩))
      go_meet
      case rel => exact ⟨_, (true), (by first | rfl | (simp; done) | (simp [*]; done)), H', ⟨by first | omega | exact Nat.le_refl _⟩, ⟨by repeat (first | (with_reducible first | exact HB.out | apply below_alloc | apply pw_below_drewN | apply below_drew1) | exact HB.out)⟩⟩
  ·rw [if_neg c7] at H
   have c7b0 : (t262 == 0) = false := beq_eq_false_iff_ne.mpr c7
   have c7b1 : (t262 != 0) = true := bne_iff_ne.mpr c7
   (first | rw [c7b0] | (simp only [i64_w, i32_w]; rw [c7b0]) | skip)
   have H' := Aside0.mk H
   clear H
   go_wp2_with (first | ((with_reducible refine gate_callee (f := 17) rfl ?_); refine goesL_ (some 16) rfl rfl Try.func17 (by kernel_rfl) rfl #[.slice A0 l0.length c0, .int .i64 a1] rfl (by (try simp only [List.map_toArray, List.map_cons, List.map_nil]); first | done | rfl | (simp only [List.length_drop, List.length_take]; rfl)) ?_; (with_reducible refine (r19_Check.calls k _ _ l0 a1 t262 _ ?side1 ?side2 A6.out).mono ?_); (case side1 => repeat (first | exact (Kd.C_below HR0.out HB.out) | (with_reducible refine Kd.C_alloc ?_ _) | (with_reducible refine Kd.C_drewN ?_ _) | (with_reducible refine Kd.C_drew ?_))); (case side2 => exact HC0.out); rintro e w22 ⟨rfl, hb⟩; refine ⟨_, rfl, ?_⟩; have n0_ := Aside0.mk (below_step (by repeat (first | (with_reducible first | exact HB.out | apply below_alloc | apply pw_below_drewN | apply below_drew1) | exact HB.out)) hb); clear HB; have HB := n0_; clear n0_; (try clear hb); (try clear hb2); (try clear hk); (try clear hi)))
   go_meet
   case rel => exact ⟨_, (true), (by first | rfl | (simp; done) | (simp [*]; done)), H', ⟨by first | omega | exact Nat.le_refl _⟩, ⟨by repeat (first | (with_reducible first | exact HB.out | apply below_alloc | apply pw_below_drewN | apply below_drew1) | exact HB.out)⟩⟩
 case rest =>
  clear HC5
  try clear c1
  try clear c2
  try clear p2
  try clear c7
  try clear c7b0
  try clear c7b1
  try clear c8
  try clear c8b0
  try clear c8b1
  try clear c10
  try clear c13
  try clear c13b0
  try clear c13b1
  try clear c16
  try clear c17
  try clear c18
  try clear c20
  obtain ⟨kq, x44_4, rfl, HA, HJ4, HB⟩ := hcut
  cases kq with
  | zero => exact absurd HA.out (by simp [r19_Ratio.j0])
  | succ kj4 =>
   have H := HA.out
   clear HA
   simp only [r19_Ratio.j0] at H
   by_cases c23 : x44_4 = true
   ·subst c23
    have H1 : (some (0, 0, 1)) = some (r1, r2, r3) := by rw [if_pos rfl] at H; exact H
    clear H
    have H := H1
    clear H1
    simp only [Option.some.injEq, Prod.mk.injEq] at H
    obtain ⟨rfl, rfl, rfl⟩ := H
    go_wp2
    go_ret3
    exact ⟨by first | rfl | (simp [errW_none, errW_some] <;> rfl) | (simp [*, errW_none, errW_some] <;> rfl), by repeat (first | (with_reducible first | exact HB.out | apply below_alloc | apply pw_below_drewN | apply below_drew1) | exact HB.out)⟩
   ·replace c23 := Bool.eq_false_iff.mpr c23
    subst c23
    have H1 : ((r19_Line.f kj4 l0 a2 a3).bind fun bt266 => ((r19_Rate.f kj4 l0 a1 a2 a3).bind fun t269 => (some (bt266.1, t269, 0)))) = some (r1, r2, r3) := by rw [if_neg (show ¬ (false = true) by decide)] at H; exact H
    clear H
    have H := H1
    clear H1
    replace H := Option.bind_eq_some_iff.mp H
    obtain ⟨⟨t266, t267, t268⟩, A240, H⟩ := H
    replace H : ((r19_Rate.f kj4 l0 a1 a2 a3).bind fun t269 => (some (t266, t269, 0))) = some (r1, r2, r3) := H
    have A24 := Aside0.mk A240
    clear A240
    replace H := Option.bind_eq_some_iff.mp H
    obtain ⟨t269, A250, H⟩ := H
    replace H : (some (t266, t269, 0)) = some (r1, r2, r3) := H
    have A25 := Aside0.mk A250
    clear A250
    simp only [Option.some.injEq, Prod.mk.injEq] at H
    obtain ⟨rfl, rfl, rfl⟩ := H
    go_wp2_with (first | ((with_reducible refine gate_callee (f := 55) rfl ?_); refine goesL_ (some 49) rfl rfl Try.func55 (by kernel_rfl) rfl #[.slice A0 l0.length c0, .int .i64 a2, .int .i64 a3] rfl (by (try simp only [List.map_toArray, List.map_cons, List.map_nil]); first | done | rfl | (simp only [List.length_drop, List.length_take]; rfl)) ?_; (with_reducible refine (r19_Line.calls kj4 _ _ l0 a2 a3 t266 t267 t268 _ ?side1 ?side2 A24.out).mono ?_); (case side1 => repeat (first | exact (Kd.C_below HR0.out HB.out) | (with_reducible refine Kd.C_alloc ?_ _) | (with_reducible refine Kd.C_drewN ?_ _) | (with_reducible refine Kd.C_drew ?_))); (case side2 => exact HC0.out); rintro e w' ⟨rfl, ⟨nd, rfl⟩⟩; refine ⟨_, rfl, ?_⟩) | ((with_reducible refine gate_callee (f := 56) rfl ?_); refine goesL_ (some 58) rfl rfl Try.func56 (by kernel_rfl) rfl #[.slice A0 l0.length c0, .int .i64 a1, .int .i64 a2, .int .i64 a3] rfl (by (try simp only [List.map_toArray, List.map_cons, List.map_nil]); first | done | rfl | (simp only [List.length_drop, List.length_take]; rfl)) ?_; (with_reducible refine (r19_Rate.calls kj4 _ _ l0 a1 a2 a3 t269 _ ?side1 ?side2 A25.out).mono ?_); (case side1 => repeat (first | exact (Kd.C_below HR0.out (by repeat (first | (with_reducible first | exact HB.out | apply below_alloc | apply pw_below_drewN | apply below_drew1) | exact HB.out))) | (with_reducible refine Kd.C_alloc ?_ _) | (with_reducible refine Kd.C_drewN ?_ _) | (with_reducible refine Kd.C_drew ?_))); (case side2 => exact HC0.out); rintro e w26 ⟨rfl, hb⟩; refine ⟨_, rfl, ?_⟩; have n0_ := Aside0.mk (below_step (by repeat (first | (with_reducible first | exact HB.out | apply below_alloc | apply pw_below_drewN | apply below_drew1) | exact HB.out)) hb); clear HB; have HB := n0_; clear n0_; (try clear hb); (try clear hb2); (try clear hk); (try clear hi)))
    go_ret3
    exact ⟨by first | rfl | (simp [errW_none, errW_some] <;> rfl) | (simp [*, errW_none, errW_some] <;> rfl), by repeat (first | (with_reducible first | exact HB.out | apply below_alloc | apply pw_below_drewN | apply below_drew1) | exact HB.out)⟩
def r19_Legal.l0 : Nat → List (S43) → List Int → Int → Int → Option (Bool)
 | 0, _, _, _, _ => none
 | k + 1, x0, x1, x5, x6 => if x6 < (x1.length : Int) then (if 0 ≤ x6 then (if (rd x1 x6) ≤ x5 then (some false) else ((r19_Place.f x0 (rd x1 x6)).bind fun t272 => (if t272 = true then ((r19_Hyphen.f x0 x5).bind fun t273 => (if t273 = true then ((r19_Hyphen.f x0 (rd x1 x6)).bind fun t275 => (if t275 = true then (some false) else (r19_Legal.l0 k x0 x1 (rd x1 x6) (wrap64 (x6 + 1))))) else (r19_Legal.l0 k x0 x1 (rd x1 x6) (wrap64 (x6 + 1))))) else (some false)))) else (none)) else (if (x1.length : Int) > 0 then (some (x5 == (x0.length : Int))) else (some false))
def r19_Legal.f (k : Nat) (l0 : List (S43)) (l1 : List Int) : Option (Bool) := r19_Legal.l0 k l0 l1 (-1) 0
theorem r19_Legal.mono_l : ∀ k, (∀ y0 y1 y2 y3, LeO (r19_Legal.l0 k y0 y1 y2 y3) (r19_Legal.l0 (k + 1) y0 y1 y2 y3))
 | 0 => fun _ _ _ _ r h => by simp [r19_Legal.l0] at h
 | k + 1 => by
  have ih0 := r19_Legal.mono_l k
  ·intro y0 y1 y2 y3
   unfold r19_Legal.l0
   repeat' first
   | (with_reducible exact ih0 _ _ _ _)
   | (with_reducible exact LeO.refl _)
   | (with_reducible exact LeO.none _)
   | (with_reducible refine LeO.ite ?_ ?_)
   | (with_reducible refine LeO.bind ?_ (fun _ => ?_))
   | exact ih0 _ _ _ _
   | exact LeO.none _
   | refine LeO.ite ?_ ?_
   | refine LeO.bind ?_ (fun _ => ?_)
theorem r19_Legal.mono : ∀ a0 a1 k, LeO (r19_Legal.f k a0 a1) (r19_Legal.f (k + 1) a0 a1) := by
 intro a0 a1 k
 have ih0 := r19_Legal.mono_l k
 unfold r19_Legal.f
 repeat' first
   | (with_reducible exact ih0 _ _ _ _)
   | (with_reducible exact LeO.refl _)
   | (with_reducible exact LeO.none _)
   | (with_reducible refine LeO.ite ?_ ?_)
   | (with_reducible refine LeO.bind ?_ (fun _ => ?_))
   | exact ih0 _ _ _ _
   | exact LeO.none _
   | refine LeO.ite ?_ ?_
   | refine LeO.bind ?_ (fun _ => ?_)
set_option maxHeartbeats 8000000 in
set_option maxRecDepth 100000 in
theorem r19_Legal.calls (k : Nat) (A0 : Option Addr) (c0 : Nat) (l0 : List (S43)) (A1 : Option Addr) (c1 : Nat) (l1 : List Int) (r : Bool) (w : World) (hr0 : Kd.C k43 w A0 l0.length l0) (hc0 : l0.length ≤ c0) (hr1 : Kd.C (Kd.int .i64) w A1 l1.length l1) (hc1 : l1.length ≤ c1) (h : r19_Legal.f k l0 l1 = some r) :
  Calls Try.prog 22 #[.slice A0 l0.length c0, .slice A1 l1.length c1] w fun e w' => e = .returned (.bool r) ∧ Drawn0 w w' := by
 have HR0 := Aside0.mk hr0
 have HC0 := Aside0.mk hc0
 clear hr0 hc0
 have HR1 := Aside0.mk hr1
 have HC1 := Aside0.mk hc1
 clear hr1 hc1
 have H : (r19_Legal.l0 k l0 l1 (-1) 0) = some r := h
 clear h
 have H' := Aside0.mk H
 clear H
 go_enter Try.func22, Try.ntmps22
 go_wp2
 go_loopg [5, 6] k (fun kq v5 v6 w' => ∃ (x5_1 : Int) (x6_1 : Int), v5 = .int .i64 x5_1 ∧ v6 = .int .i64 x6_1 ∧ Aside0 (r19_Legal.l0 kq l0 l1 x5_1 x6_1 = some r) ∧ Aside0 (kq ≤ k) ∧ Drawn0 w w')
 case atStart => exact ⟨((-1)), (0), (by first | rfl | (simp; done) | (simp [*]; done)), (by first | rfl | (simp; done) | (simp [*]; done)), H', ⟨Nat.le_refl _⟩, by repeat (first | exact Drawn0.refl _ | apply Drawn0.step)⟩
 case round =>
  clear H'
  try clear c1
  try clear c2
  try clear p2
  obtain ⟨x5_1, x6_1, rfl, rfl, HA, HK1, ⟨m1, rfl⟩⟩ := hrel
  cases gk with
  | zero => exact absurd HA.out (by simp [r19_Legal.l0])
  | succ k1 =>
   have H := HA.out
   clear HA
   simp only [r19_Legal.l0] at H
   by_cases c3 : x6_1 < (l1.length : Int)
   ·rw [if_pos c3] at H
    have c3b0 : decide (x6_1 < (l1.length : Int)) = true := decide_eq_true c3
    clear c3
    by_cases c4 : 0 ≤ x6_1
    ·rw [if_pos c4] at H
     have c4b0 : decide (0 ≤ x6_1) = true := decide_eq_true c4
     clear c4
     by_cases c5 : (rd l1 x6_1) ≤ x5_1
     ·rw [if_pos c5] at H
      have c5b0 : decide ((rd l1 x6_1) ≤ x5_1) = true := decide_eq_true c5
      clear c5
      obtain rfl := Option.some.inj H
      have p270 : 0 ≤ (x6_1 : Int) := of_decide_eq_true (by first | (with_reducible assumption) | assumption)
      have q270 : x6_1 < (l1.length : Int) := of_decide_eq_true (by first | (with_reducible assumption) | assumption)
      obtain ⟨ad270, e270, hx270_0⟩ := Kd.at_int HR1.out x6_1 p270 q270
      cases e270
      replace p270 := eq_true p270
      replace q270 := eq_true q270
      go_wp2
      go_ret
      exact ⟨by first | rfl | (simp; done) | (simp [*]; done), by repeat (first | exact Drawn0.refl _ | apply Drawn0.step)⟩
     ·rw [if_neg c5] at H
      have c5b0 : decide ((rd l1 x6_1) ≤ x5_1) = false := decide_eq_false c5
      clear c5
      replace H := Option.bind_eq_some_iff.mp H
      obtain ⟨t272, A60, H⟩ := H
      replace H : (if t272 = true then ((r19_Hyphen.f l0 x5_1).bind fun t273 => (if t273 = true then ((r19_Hyphen.f l0 (rd l1 x6_1)).bind fun t275 => (if t275 = true then (some false) else (r19_Legal.l0 k1 l0 l1 (rd l1 x6_1) (wrap64 (x6_1 + 1))))) else (r19_Legal.l0 k1 l0 l1 (rd l1 x6_1) (wrap64 (x6_1 + 1))))) else (some false)) = some r := H
      have A6 := Aside0.mk A60
      clear A60
      by_cases c7 : t272 = true
      ·subst c7
       have H1 : ((r19_Hyphen.f l0 x5_1).bind fun t273 => (if t273 = true then ((r19_Hyphen.f l0 (rd l1 x6_1)).bind fun t275 => (if t275 = true then (some false) else (r19_Legal.l0 k1 l0 l1 (rd l1 x6_1) (wrap64 (x6_1 + 1))))) else (r19_Legal.l0 k1 l0 l1 (rd l1 x6_1) (wrap64 (x6_1 + 1))))) = some r := by rw [if_pos rfl] at H; exact H
       clear H
       have H := H1
       clear H1
       replace H := Option.bind_eq_some_iff.mp H
       obtain ⟨t273, A80, H⟩ := H
       replace H : (if t273 = true then ((r19_Hyphen.f l0 (rd l1 x6_1)).bind fun t275 => (if t275 = true then (some false) else (r19_Legal.l0 k1 l0 l1 (rd l1 x6_1) (wrap64 (x6_1 + 1))))) else (r19_Legal.l0 k1 l0 l1 (rd l1 x6_1) (wrap64 (x6_1 + 1)))) = some r := H
       have A8 := Aside0.mk A80
       clear A80
       by_cases c9 : t273 = true
       ·subst c9
        have H1 : ((r19_Hyphen.f l0 (rd l1 x6_1)).bind fun t275 => (if t275 = true then (some false) else (r19_Legal.l0 k1 l0 l1 (rd l1 x6_1) (wrap64 (x6_1 + 1))))) = some r := by rw [if_pos rfl] at H; exact H
        clear H
        have H := H1
        clear H1
        replace H := Option.bind_eq_some_iff.mp H
        obtain ⟨t275, A100, H⟩ := H
        replace H : (if t275 = true then (some false) else (r19_Legal.l0 k1 l0 l1 (rd l1 x6_1) (wrap64 (x6_1 + 1)))) = some r := H
        have A10 := Aside0.mk A100
        clear A100
        by_cases c11 : t275 = true
        ·subst c11
         have H1 : (some false) = some r := by rw [if_pos rfl] at H; exact H
         clear H
         have H := H1
         clear H1
         obtain rfl := Option.some.inj H
         have p270 : 0 ≤ (x6_1 : Int) := of_decide_eq_true (by first | (with_reducible assumption) | assumption)
         have q270 : x6_1 < (l1.length : Int) := of_decide_eq_true (by first | (with_reducible assumption) | assumption)
         obtain ⟨ad270, e270, hx270_0⟩ := Kd.at_int HR1.out x6_1 p270 q270
         cases e270
         replace p270 := eq_true p270
         replace q270 := eq_true q270
         have p271 : 0 ≤ (x6_1 : Int) := of_decide_eq_true (by first | (with_reducible assumption) | assumption)
         have q271 : x6_1 < (l1.length : Int) := of_decide_eq_true (by first | (with_reducible assumption) | assumption)
         obtain ⟨ad271, e271, hx271_0⟩ := Kd.at_int HR1.out x6_1 p271 q271
         obtain rfl : ad270 = ad271 := (by injection e271)
         replace p271 := eq_true p271
         replace q271 := eq_true q271
         go_wp2_with (first | (go_at_call 40; (with_reducible refine (r19_Place.calls _ _ l0 (rd l1 x6_1) true _ ?side1 ?side2 A6.out).mono ?_); (case side1 => repeat (first | exact HR0.out | (with_reducible refine Kd.C_alloc ?_ _) | (with_reducible refine Kd.C_drewN ?_ _) | (with_reducible refine Kd.C_drew ?_))); (case side2 => exact HC0.out); rintro e w' ⟨rfl, ⟨nd, rfl⟩⟩) | (go_at_call 57; (with_reducible refine (r19_Hyphen.calls _ _ l0 x5_1 true _ ?side1 ?side2 A8.out).mono ?_); (case side1 => repeat (first | exact HR0.out | (with_reducible refine Kd.C_alloc ?_ _) | (with_reducible refine Kd.C_drewN ?_ _) | (with_reducible refine Kd.C_drew ?_))); (case side2 => exact HC0.out); rintro e w' ⟨rfl, ⟨nd, rfl⟩⟩; have p274 : 0 ≤ (x6_1 : Int) := of_decide_eq_true (by first | (with_reducible assumption) | assumption); have q274 : x6_1 < (l1.length : Int) := of_decide_eq_true (by first | (with_reducible assumption) | assumption); obtain ⟨ad274, e274, hx274_0⟩ := Kd.at_int HR1.out x6_1 p274 q274; obtain rfl : ad270 = ad274 := (by injection e274); replace p274 := eq_true p274; replace q274 := eq_true q274) | (go_at_call 57; (with_reducible refine (r19_Hyphen.calls _ _ l0 (rd l1 x6_1) true _ ?side1 ?side2 A10.out).mono ?_); (case side1 => repeat (first | exact HR0.out | (with_reducible refine Kd.C_alloc ?_ _) | (with_reducible refine Kd.C_drewN ?_ _) | (with_reducible refine Kd.C_drew ?_))); (case side2 => exact HC0.out); rintro e w' ⟨rfl, ⟨nd, rfl⟩⟩))
         go_ret
         exact ⟨by first | rfl | (simp; done) | (simp [*]; done), by repeat (first | exact Drawn0.refl _ | apply Drawn0.step)⟩
        ·replace c11 := Bool.eq_false_iff.mpr c11
         subst c11
         have H1 : (r19_Legal.l0 k1 l0 l1 (rd l1 x6_1) (wrap64 (x6_1 + 1))) = some r := by rw [if_neg (show ¬ (false = true) by decide)] at H; exact H
         clear H
         have H := H1
         clear H1
         have H' := Aside0.mk H
         clear H
         have p270 : 0 ≤ (x6_1 : Int) := of_decide_eq_true (by first | (with_reducible assumption) | assumption)
         have q270 : x6_1 < (l1.length : Int) := of_decide_eq_true (by first | (with_reducible assumption) | assumption)
         obtain ⟨ad270, e270, hx270_0⟩ := Kd.at_int HR1.out x6_1 p270 q270
         cases e270
         replace p270 := eq_true p270
         replace q270 := eq_true q270
         have p271 : 0 ≤ (x6_1 : Int) := of_decide_eq_true (by first | (with_reducible assumption) | assumption)
         have q271 : x6_1 < (l1.length : Int) := of_decide_eq_true (by first | (with_reducible assumption) | assumption)
         obtain ⟨ad271, e271, hx271_0⟩ := Kd.at_int HR1.out x6_1 p271 q271
         obtain rfl : ad270 = ad271 := (by injection e271)
         replace p271 := eq_true p271
         replace q271 := eq_true q271
         go_wp2_with (first | (go_at_call 40; (with_reducible refine (r19_Place.calls _ _ l0 (rd l1 x6_1) true _ ?side1 ?side2 A6.out).mono ?_); (case side1 => repeat (first | exact HR0.out | (with_reducible refine Kd.C_alloc ?_ _) | (with_reducible refine Kd.C_drewN ?_ _) | (with_reducible refine Kd.C_drew ?_))); (case side2 => exact HC0.out); rintro e w' ⟨rfl, ⟨nd, rfl⟩⟩) | (go_at_call 57; (with_reducible refine (r19_Hyphen.calls _ _ l0 x5_1 true _ ?side1 ?side2 A8.out).mono ?_); (case side1 => repeat (first | exact HR0.out | (with_reducible refine Kd.C_alloc ?_ _) | (with_reducible refine Kd.C_drewN ?_ _) | (with_reducible refine Kd.C_drew ?_))); (case side2 => exact HC0.out); rintro e w' ⟨rfl, ⟨nd, rfl⟩⟩; have p274 : 0 ≤ (x6_1 : Int) := of_decide_eq_true (by first | (with_reducible assumption) | assumption); have q274 : x6_1 < (l1.length : Int) := of_decide_eq_true (by first | (with_reducible assumption) | assumption); obtain ⟨ad274, e274, hx274_0⟩ := Kd.at_int HR1.out x6_1 p274 q274; obtain rfl : ad270 = ad274 := (by injection e274); replace p274 := eq_true p274; replace q274 := eq_true q274) | (go_at_call 57; (with_reducible refine (r19_Hyphen.calls _ _ l0 (rd l1 x6_1) false _ ?side1 ?side2 A10.out).mono ?_); (case side1 => repeat (first | exact HR0.out | (with_reducible refine Kd.C_alloc ?_ _) | (with_reducible refine Kd.C_drewN ?_ _) | (with_reducible refine Kd.C_drew ?_))); (case side2 => exact HC0.out); rintro e w' ⟨rfl, ⟨nd, rfl⟩⟩; have p276 : 0 ≤ (x6_1 : Int) := of_decide_eq_true (by first | (with_reducible assumption) | assumption); have q276 : x6_1 < (l1.length : Int) := of_decide_eq_true (by first | (with_reducible assumption) | assumption); obtain ⟨ad276, e276, hx276_0⟩ := Kd.at_int HR1.out x6_1 p276 q276; obtain rfl : ad270 = ad276 := (by injection e276); replace p276 := eq_true p276; replace q276 := eq_true q276))
         go_roundg k1
         case measure => have := HK1.out; omega
         case rel => exact ⟨(rd l1 x6_1), (wrap64 (x6_1 + 1)), (by first | rfl | (simp; done) | (simp [*]; done)), (by first | rfl | (simp; done) | (simp [*]; done)), H', ⟨by have := HK1.out; omega⟩, by repeat (first | exact Drawn0.refl _ | apply Drawn0.step)⟩
       ·replace c9 := Bool.eq_false_iff.mpr c9
        subst c9
        have H1 : (r19_Legal.l0 k1 l0 l1 (rd l1 x6_1) (wrap64 (x6_1 + 1))) = some r := by rw [if_neg (show ¬ (false = true) by decide)] at H; exact H
        clear H
        have H := H1
        clear H1
        have H' := Aside0.mk H
        clear H
        have p270 : 0 ≤ (x6_1 : Int) := of_decide_eq_true (by first | (with_reducible assumption) | assumption)
        have q270 : x6_1 < (l1.length : Int) := of_decide_eq_true (by first | (with_reducible assumption) | assumption)
        obtain ⟨ad270, e270, hx270_0⟩ := Kd.at_int HR1.out x6_1 p270 q270
        cases e270
        replace p270 := eq_true p270
        replace q270 := eq_true q270
        have p271 : 0 ≤ (x6_1 : Int) := of_decide_eq_true (by first | (with_reducible assumption) | assumption)
        have q271 : x6_1 < (l1.length : Int) := of_decide_eq_true (by first | (with_reducible assumption) | assumption)
        obtain ⟨ad271, e271, hx271_0⟩ := Kd.at_int HR1.out x6_1 p271 q271
        obtain rfl : ad270 = ad271 := (by injection e271)
        replace p271 := eq_true p271
        replace q271 := eq_true q271
        go_wp2_with (first | (go_at_call 40; (with_reducible refine (r19_Place.calls _ _ l0 (rd l1 x6_1) true _ ?side1 ?side2 A6.out).mono ?_); (case side1 => repeat (first | exact HR0.out | (with_reducible refine Kd.C_alloc ?_ _) | (with_reducible refine Kd.C_drewN ?_ _) | (with_reducible refine Kd.C_drew ?_))); (case side2 => exact HC0.out); rintro e w' ⟨rfl, ⟨nd, rfl⟩⟩) | (go_at_call 57; (with_reducible refine (r19_Hyphen.calls _ _ l0 x5_1 false _ ?side1 ?side2 A8.out).mono ?_); (case side1 => repeat (first | exact HR0.out | (with_reducible refine Kd.C_alloc ?_ _) | (with_reducible refine Kd.C_drewN ?_ _) | (with_reducible refine Kd.C_drew ?_))); (case side2 => exact HC0.out); rintro e w' ⟨rfl, ⟨nd, rfl⟩⟩; have p277 : 0 ≤ (x6_1 : Int) := of_decide_eq_true (by first | (with_reducible assumption) | assumption); have q277 : x6_1 < (l1.length : Int) := of_decide_eq_true (by first | (with_reducible assumption) | assumption); obtain ⟨ad277, e277, hx277_0⟩ := Kd.at_int HR1.out x6_1 p277 q277; obtain rfl : ad270 = ad277 := (by injection e277); replace p277 := eq_true p277; replace q277 := eq_true q277))
        go_roundg k1
        case measure => have := HK1.out; omega
        case rel => exact ⟨(rd l1 x6_1), (wrap64 (x6_1 + 1)), (by first | rfl | (simp; done) | (simp [*]; done)), (by first | rfl | (simp; done) | (simp [*]; done)), H', ⟨by have := HK1.out; omega⟩, by repeat (first | exact Drawn0.refl _ | apply Drawn0.step)⟩
      ·replace c7 := Bool.eq_false_iff.mpr c7
       subst c7
       have H1 : (some false) = some r := by rw [if_neg (show ¬ (false = true) by decide)] at H; exact H
       clear H
       have H := H1
       clear H1
       obtain rfl := Option.some.inj H
       have p270 : 0 ≤ (x6_1 : Int) := of_decide_eq_true (by first | (with_reducible assumption) | assumption)
       have q270 : x6_1 < (l1.length : Int) := of_decide_eq_true (by first | (with_reducible assumption) | assumption)
       obtain ⟨ad270, e270, hx270_0⟩ := Kd.at_int HR1.out x6_1 p270 q270
       cases e270
       replace p270 := eq_true p270
       replace q270 := eq_true q270
       have p271 : 0 ≤ (x6_1 : Int) := of_decide_eq_true (by first | (with_reducible assumption) | assumption)
       have q271 : x6_1 < (l1.length : Int) := of_decide_eq_true (by first | (with_reducible assumption) | assumption)
       obtain ⟨ad271, e271, hx271_0⟩ := Kd.at_int HR1.out x6_1 p271 q271
       obtain rfl : ad270 = ad271 := (by injection e271)
       replace p271 := eq_true p271
       replace q271 := eq_true q271
       go_wp2_with (first | (go_at_call 40; (with_reducible refine (r19_Place.calls _ _ l0 (rd l1 x6_1) false _ ?side1 ?side2 A6.out).mono ?_); (case side1 => repeat (first | exact HR0.out | (with_reducible refine Kd.C_alloc ?_ _) | (with_reducible refine Kd.C_drewN ?_ _) | (with_reducible refine Kd.C_drew ?_))); (case side2 => exact HC0.out); rintro e w' ⟨rfl, ⟨nd, rfl⟩⟩))
       go_ret
       exact ⟨by first | rfl | (simp; done) | (simp [*]; done), by repeat (first | exact Drawn0.refl _ | apply Drawn0.step)⟩
    ·rw [if_neg c4] at H
     exact absurd H (by simp)
   ·rw [if_neg c3] at H
    have c3b0 : decide (x6_1 < (l1.length : Int)) = false := decide_eq_false c3
    clear c3
    by_cases c12 : (l1.length : Int) > 0
    ·rw [if_pos c12] at H
     have c12b0 : decide (0 < (l1.length : Int)) = true := decide_eq_true c12
     have c12b1 : decide (0 < l1.length) = true := decide_eq_true (by omega)
     clear c12
     obtain rfl := Option.some.inj H
     go_wp2
     go_ret
     exact ⟨by first | rfl | (simp; done) | (simp [*]; done), by repeat (first | exact Drawn0.refl _ | apply Drawn0.step)⟩
    ·rw [if_neg c12] at H
     have c12b0 : decide (0 < (l1.length : Int)) = false := decide_eq_false c12
     have c12b1 : decide (0 < l1.length) = false := decide_eq_false (by omega)
     clear c12
     obtain rfl := Option.some.inj H
     go_wp2
     go_ret
     exact ⟨by first | rfl | (simp; done) | (simp [*]; done), by repeat (first | exact Drawn0.refl _ | apply Drawn0.step)⟩
end Go.Proofs.Ytbddfnmhhmkfkaa.Pr
namespace Go.Proofs.Ytbddfnmhhmkfkaa.Pr
set_option linter.unusedVariables false
set_option linter.unusedSimpArgs false
open Go.RowKit Go.Proofs.YtbddfnmhhmkfkaaW.PrintWords Go.Proofs.YtbddfnmhhmkfkaaW.PrintLast Go.Proofs.YtbddfnmhhmkfkaaW.PrintMore
theorem refCheck_l0 {l : List S43} (hl : l.length ≤ 16384) : ∀ (d i : Nat), i + d = l.length → Ev (fun k => r19_Check.l0 k l i) (if (l.drop i).any oddP = true then 1 else 0)
 | 0, i, h => by
  refine Ev.step (f := fun _ => some 0) (fun k => ?_) ?_
  ·simp only [r19_Check.l0]
   rw [if_neg (by omega)]
  ·rw [List.drop_of_length_le (by omega)]
   exact Ev.now _
 | d + 1, i, h => by
  have hi : i < l.length := by omega
  have hd : l.drop i = rd_T43 l i :: l.drop (i + 1) := by
   rw [List.drop_eq_getElem_cons hi]
   have := rd_get hi
   rw [List.getElem?_eq_getElem hi] at this
   rw [Option.some.inj this]
  have ih := refCheck_l0 hl d (i + 1) (by omega)
  have e : wrap64 ((i : Int) + 1) = ((i + 1 : Nat) : Int) := by rw [w64 (by omega) (by omega)]; omega
  rw [hd, List.any_cons]
  by_cases ho : oddP (rd_T43 l i) = true
  ·rw [ho]
   refine Ev.step (f := fun _ => some 1) (fun k => ?_) (Ev.now _)
   simp only [oddP, farP, Bool.or_eq_true, decide_eq_true_eq] at ho
   simp only [r19_Check.l0]
   rw [if_pos (by omega), if_pos (by omega)]
   repeat (first | (split; · rfl) | (exfalso; omega))
  ·have ho' : oddP (rd_T43 l i) = false := by simpa using ho
   have hk := odd_ok ho'
   obtain ⟨o1, o2, o3, o4, o5, o6, o7, o8⟩ := hk
   rw [ho', Bool.false_or]
   refine Ev.step (fun k => ?_) ih
   simp only [r19_Check.l0]
   rw [if_pos (by omega), if_pos (by omega), if_neg (by omega), if_neg (by omega), if_neg (by omega), if_neg (by omega), if_neg (by omega), if_neg (by omega), if_neg (by omega), if_neg (by omega), e]
theorem refCheck_ev (l : List S43) (w : Int) : Ev (fun k => r19_Check.f k l w) (checkP l w) := by
 by_cases h1 : w < 1
 ·refine Ev.step (f := fun _ => some 1) (fun k => ?_) ?_
  ·unfold r19_Check.f; rw [if_pos h1]; simp only [r19_Check.j0]; rfl
  ·unfold checkP; rw [if_pos (.inl h1)]; exact Ev.now _
 ·by_cases h2 : 1000000 < w
  ·refine Ev.step (f := fun _ => some 1) (fun k => ?_) ?_
   ·unfold r19_Check.f; rw [if_neg h1, if_pos h2]; simp only [r19_Check.j0]; rfl
   ·unfold checkP; rw [if_pos (.inr (.inl h2))]; exact Ev.now _
  ·by_cases h3 : 16384 < l.length
   ·refine Ev.step (f := fun _ => some 1) (fun k => ?_) ?_
    ·unfold r19_Check.f
     rw [if_neg h1, if_neg h2, decide_eq_true (by omega)]
     simp only [r19_Check.j0]; rfl
    ·unfold checkP; rw [if_pos (.inr (.inr (.inl h3)))]; exact Ev.now _
   ·have h := refCheck_l0 (l := l) (by omega) l.length 0 (by omega)
    refine Ev.step (fun k => ?_) (show Ev (fun k => r19_Check.l0 k l 0) (checkP l w) from ?_)
    ·unfold r19_Check.f
     rw [if_neg h1, if_neg h2, decide_eq_false (by omega)]
     simp only [r19_Check.j0]; rfl
    ·have e : checkP l w = if (l.drop 0).any oddP = true then 1 else 0 := by
      unfold checkP
      rw [List.drop_zero]
      by_cases ha : l.any oddP = true
      ·rw [if_pos ha, if_pos (.inr (.inr (.inr ha)))]
      ·rw [if_neg ha, if_neg (by rintro (h | h | h | h) <;> first | exact ha h | omega)]
     rw [e]
     exact h
theorem refLine_l0 {l : List S43} {w : Int} (ok : OkL l w) (t : Nat) (ht : t ≤ l.length) : ∀ (d i : Nat) (n y z : Int), i + d = t → (0 ≤ n ∧ n ≤ 2000 * i) → (0 ≤ y ∧ y ≤ 2000 * i) → (0 ≤ z ∧ z ≤ 2000 * i) →
  Ev (fun k => r19_Line.l0 k l t n y z i) (n + (nS gN l t - nS gN l i) + (if hyphP l t = true then (rd_T43 l t).f1 else 0), y + (nS gY l t - nS gY l i), z + (nS gZ l t - nS gZ l i))
 | 0, i, n, y, z, h, hn, hy, hz => by
  have hl := ok.len
  obtain rfl : i = t := by omega
  refine Ev.step (fun k => ?_) (Ev.now _)
  rw [r19_Line.l0.eq_2, if_neg (by omega), refHyphen_f]
  simp only [Option.bind_some]
  by_cases hh : hyphP l i = true
  ·have hj : (i : Int) < l.length := by
    have := hh
    simp only [hyphP, Bool.and_eq_true, decide_eq_true_eq] at this
    exact this.1.2
   have := rd_ok ok (k := i) (by omega)
   have h3 := this.w0
   have h4 := this.w1
   rw [if_pos hh, if_pos (by omega), if_pos hj, if_pos hh, w64 (by omega) (by omega)]
   simp only [Option.some.injEq, Prod.mk.injEq]
   omega
  ·rw [if_neg hh, if_neg hh]
   simp only [Option.some.injEq, Prod.mk.injEq]
   omega
 | d + 1, i, n, y, z, h, hn, hy, hz => by
  have hl := ok.len
  have hi : i < l.length := by omega
  have ho := rd_ok ok hi
  obtain ⟨b1, b2, b3⟩ := g_bd ho
  have ih := refLine_l0 ok t ht d (i + 1) (n + gN (rd_T43 l i)) (y + gY (rd_T43 l i)) (z + gZ (rd_T43 l i)) (by omega) (by omega) (by omega) (by omega)
  rw [nS_next gN hi, nS_next gY hi, nS_next gZ hi] at ih
  have c1 : (i : Int) < t := by omega
  have c2 : (0 : Int) ≤ i := by omega
  have c3 : (i : Int) < l.length := by omega
  have E1 : n + gN (rd_T43 l i) + (nS gN l t - (nS gN l i + gN (rd_T43 l i))) = n + (nS gN l t - nS gN l i) := by omega
  have E2 : y + gY (rd_T43 l i) + (nS gY l t - (nS gY l i + gY (rd_T43 l i))) = y + (nS gY l t - nS gY l i) := by omega
  have E3 : z + gZ (rd_T43 l i) + (nS gZ l t - (nS gZ l i + gZ (rd_T43 l i))) = z + (nS gZ l t - nS gZ l i) := by omega
  rw [E1, E2, E3] at ih
  clear E1 E2 E3
  have e : wrap64 ((i : Int) + 1) = ((i + 1 : Nat) : Int) := by rw [w64 (by omega) (by omega)]; omega
  refine Ev.step (fun k => ?_) ih
  obtain ⟨o1, o2, o3, o4, o5, o6, o7, o8⟩ := ho
  rw [r19_Line.l0.eq_2, if_pos c1, if_pos c2, if_pos c3, e]
  clear ih e
  unfold gN at b1 ⊢
  unfold gY at b2 ⊢
  unfold gZ at b3 ⊢
  by_cases h3 : (rd_T43 l i).f0 = 3
  ·rw [if_pos h3, if_neg (by omega), if_pos h3, if_neg (by omega), if_neg (by omega), Int.add_zero, Int.add_zero, Int.add_zero]
  ·rw [if_neg h3, if_neg h3]
   by_cases h2 : (rd_T43 l i).f0 = 2
   ·rw [if_pos h2, if_pos h2, if_pos h2, w64 (by omega) (by omega), w64 (by omega) (by omega), w64 (by omega) (by omega)]
   ·rw [if_neg h2, if_neg h2, if_neg h2, w64 (by omega) (by omega), Int.add_zero, Int.add_zero]
theorem refLine_ev {l : List S43} {w : Int} (ok : OkL l w) {f t : Int} (h0 : -1 ≤ f) (h1 : f < t) (h2 : t ≤ l.length) :
  Ev (fun k => r19_Line.f k l f t) (lineN l f t, lineY l f t, lineZ l f t) := by
 have hl := ok.len
 obtain ⟨i, hi⟩ : ∃ i : Nat, f + 1 = i := ⟨(f + 1).toNat, by omega⟩
 obtain ⟨j, rfl⟩ : ∃ j : Nat, t = j := ⟨t.toNat, by omega⟩
 have := refLine_l0 ok j (by omega) (j - i) i 0 0 0 (by omega) (by omega) (by omega) (by omega)
 unfold r19_Line.f lineN lineY lineZ
 rw [w64 (by omega) (by omega), hi]
 simpa using this
theorem quotient_f {a b : Int} (ha : 0 ≤ a) (ha2 : a ≤ 32770000) (hb : 0 ≤ b) : r19_quotient.f a b = some (quo a b) := by
 unfold r19_quotient.f quo
 by_cases h' : b = 0
 ·rw [if_pos h', if_pos h']
 ·rw [if_neg h', if_neg h', w64 (n := a * 128) (by omega) (by omega)]
  have q1 : (a * 128).tdiv b = a * 128 / b := Int.tdiv_eq_ediv_of_nonneg (by omega)
  have q2 : 0 ≤ a * 128 / b := Int.ediv_nonneg (by omega) hb
  have q3 : a * 128 / b ≤ a * 128 := Int.ediv_le_self _ (by omega)
  rw [q1, w64 (by omega) (by omega)]
theorem refRate_ev {l : List S43} {w : Int} (ok : OkL l w) {f t : Int} (h0 : -1 ≤ f) (h1 : f < t) (h2 : t ≤ l.length) :
  Ev (fun k => r19_Rate.f k l w f t) (rateP l w f t) := by
 have hw0 := ok.w0
 have hw1 := ok.w1
 obtain ⟨bN, bY, bZ⟩ := line_bd ok h0 h1 h2
 have hL := refLine_ev ok h0 h1 h2
 unfold rateP
 generalize lineN l f t = n at *
 generalize lineY l f t = y at *
 generalize lineZ l f t = z at *
 refine Ev.bind hL ?_
 simp only
 refine Ev.step (f := fun _ => some (rateOf w n y z (t == (l.length : Int)))) (fun k => ?_) (Ev.now _)
 simp only [r19_Rate.j0]
 rw [if_true]
 unfold rateOf
 by_cases c1 : n = w
 ·rw [if_pos c1, if_pos (.inl c1)]
 ·rw [if_neg c1]
  by_cases c2 : n < w
  ·rw [if_pos c2]
   cases hb : (t == (l.length : Int))
   ·rw [if_neg (by simp), if_pos c2, if_neg (by simp [c1]), if_pos c2, w64 (by omega) (by omega), quotient_f (by omega) (by omega) bY.1]
    rfl
   ·rw [if_pos rfl, if_pos (.inr ⟨c2, rfl⟩)]
  ·rw [if_neg c2, if_neg (by simp), if_neg c2, if_neg (by rintro (h | h) <;> omega), if_neg c2, w64 (by omega) (by omega), quotient_f (by omega) (by omega) bZ.1]
   rfl
theorem refCost_ev {l : List S43} {w : Int} (ok : OkL l w) {f t : Int} (h0 : -1 ≤ f) (h1 : f < t) (h2 : t ≤ l.length) :
  Ev (fun k => r19_Cost.f k l w f t) (costP l w f t) := by
 obtain ⟨bN, bY, bZ⟩ := line_bd ok h0 h1 h2
 have hr := rateP_bd ok h0 h1 h2
 have hL := refLine_ev ok h0 h1 h2
 have hR := refRate_ev ok h0 h1 h2
 unfold r19_Cost.f
 refine Ev.bind hR ?_
 simp only [refHyphen_f, Option.bind_some]
 unfold costP overP
 generalize lineN l f t = n at *
 generalize lineY l f t = y at *
 generalize lineZ l f t = z at *
 generalize rateP l w f t = r at *
 obtain ⟨a1, a2, a3⟩ := cube_bd hr.1 hr.2
 have hs := bad_spec hr.1 hr.2 (hyphP l t) (decide (n - z > w))
 have q1 : (100 * r * r * r).tdiv 2097152 = 100 * r * r * r / 2097152 := Int.tdiv_eq_ediv_of_nonneg (by omega)
 rw [w64 (n := 100 * r) (by omega) (by omega), w64 (n := 100 * r * r) (by omega) (by omega), w64 (n := 100 * r * r * r) (by omega) (by omega)] at hs ⊢
 rw [q1, w64 (n := 100 * r * r * r / 2097152) (by omega) (by omega)]
 have e3 : wrap64 (n - z) = n - z := w64 (by omega) (by omega)
 cases hh : hyphP l t
 all_goals
  rw [hh] at hs
  first
   | (refine Ev.congr (fun k => if_neg Bool.false_ne_true) ?_; rw [if_neg Bool.false_ne_true] at hs)
   | (refine Ev.congr (fun k => if_pos rfl) ?_; rw [if_pos rfl] at hs)
  refine Ev.bind hL ?_
  refine Ev.congr (fun k => ?_) (Ev.now _)
  refine Eq.trans ?_ hs
  dsimp only
  rw [e3]
  by_cases c : n - z > w
  ·rw [if_pos c, if_pos (decide_eq_true c)]
  ·rw [if_neg c, if_neg (by simpa using c)]
theorem refTotal_l0 {l : List S43} {w : Int} (ok : OkL l w) (bs : List Int) (hb : bs.length ≤ 100000) : ∀ (d i : Nat) (s f : Int), i + d = bs.length → -1 ≤ f → Br l f (bs.drop i) → (0 ≤ s ∧ s ≤ 1000100202600 * i) →
  Ev (fun k => r19_Total.l0 k l w bs s f i) (s + TotP l w f (bs.drop i))
 | 0, i, s, f, h, h0, hbr, hs => by
  refine Ev.step (f := fun _ => some s) (fun k => ?_) ?_
  ·rw [r19_Total.l0.eq_2, if_neg (by omega)]
  ·rw [List.drop_of_length_le (by omega)]
   simp only [TotP, Go.DP.totF, Int.add_zero]
   exact Ev.now _
 | d + 1, i, s, f, h, h0, hbr, hs => by
  have hi : i < bs.length := by omega
  rw [rd_drop hi] at hbr ⊢
  obtain ⟨h1, h2, h3, h4⟩ := hbr
  have hp := place_le h2
  have hc := costP_bd ok h0 h1 hp.2
  have ih := refTotal_l0 ok bs hb d (i + 1) (s + costP l w f (rd bs i)) (rd bs i) (by omega) (by omega) h4 (by omega)
  have e0 : s + TotP l w f (rd bs i :: bs.drop (i + 1)) = s + costP l w f (rd bs i) + TotP l w (rd bs i) (bs.drop (i + 1)) := by
   simp only [TotP, Go.DP.totF]; omega
  rw [e0]
  have c1 : (i : Int) < bs.length := by omega
  have c2 : (0 : Int) ≤ i := by omega
  have e2 : wrap64 (s + costP l w f (rd bs i)) = s + costP l w f (rd bs i) := w64 (by omega) (by omega)
  have e : wrap64 ((i : Int) + 1) = ((i + 1 : Nat) : Int) := by rw [w64 (by omega) (by omega)]; omega
  refine Ev.step (f := fun k => (r19_Cost.f k l w f (rd bs i)).bind fun t215 => (r19_Total.l0 k l w bs (wrap64 (s + t215)) (rd bs i) (wrap64 ((i : Int) + 1)))) (fun k => ?_) ?_
  ·rw [r19_Total.l0.eq_2, if_pos c1, if_pos c2]
  ·refine Ev.bind (refCost_ev ok h0 h1 hp.2) ?_
   rw [e2, e]
   exact ih
theorem refTotal_ev {l : List S43} {w : Int} (ok : OkL l w) (bs : List Int) (hb : bs.length ≤ 100000) (hbr : Br l (-1) bs) : Ev (fun k => r19_Total.f k l w bs) (TotP l w (-1) bs) := by
 have := refTotal_l0 ok bs hb bs.length 0 0 (-1) (by omega) (by omega) hbr (by omega)
 unfold r19_Total.f
 simpa using this
theorem refLegal_l0 (l : List S43) (bs : List Int) (hb : bs.length ≤ 100000) (hpos : 0 < bs.length) : ∀ (d i : Nat) (f : Int), i + d = bs.length →
  Ev (fun k => r19_Legal.l0 k l bs f i) (legalB l f (bs.drop i))
 | 0, i, f, h => by
  refine Ev.step (f := fun _ => some (f == (l.length : Int))) (fun k => ?_) ?_
  ·rw [r19_Legal.l0.eq_2, if_neg (by omega), if_pos (by omega)]
  ·rw [List.drop_of_length_le (by omega)]
   exact Ev.now _
 | d + 1, i, f, h => by
  have hi : i < bs.length := by omega
  have ih := refLegal_l0 l bs hb hpos d (i + 1) (rd bs i) (by omega)
  rw [rd_drop hi]
  have c1 : (i : Int) < bs.length := by omega
  have c2 : (0 : Int) ≤ i := by omega
  have e : wrap64 ((i : Int) + 1) = ((i + 1 : Nat) : Int) := by rw [w64 (by omega) (by omega)]; omega
  simp only [legalB]
  by_cases h1 : rd bs i ≤ f
  ·rw [decide_eq_false (by clear e; omega)]
   refine Ev.step (f := fun _ => some false) (fun k => ?_) (Ev.now _)
   rw [r19_Legal.l0.eq_2, if_pos c1, if_pos c2, if_pos h1]
  ·have h1' : decide (f < rd bs i) = true := decide_eq_true (by clear e; omega)
   rw [h1', Bool.true_and]
   cases h2 : placeP l (rd bs i) with
   | false =>
    refine Ev.step (f := fun _ => some false) (fun k => ?_) (Ev.now _)
    rw [r19_Legal.l0.eq_2, if_pos c1, if_pos c2, if_neg h1, refPlace_f, h2]
    rfl
   | true =>
    rw [Bool.true_and]
    cases h3 : legalP l f (rd bs i) with
    | false =>
     obtain ⟨h4, h5⟩ := (legalP_iff _ _ _).1 h3
     refine Ev.step (f := fun _ => some false) (fun k => ?_) (Ev.now _)
     rw [r19_Legal.l0.eq_2, if_pos c1, if_pos c2, if_neg h1, refPlace_f, h2, refHyphen_f, h4, refHyphen_f, h5]
     rfl
    | true =>
     rw [Bool.true_and]
     refine Ev.step (fun k => ?_) ih
     rw [r19_Legal.l0.eq_2, if_pos c1, if_pos c2, if_neg h1, refPlace_f, h2, refHyphen_f, refHyphen_f, e]
     simp only [Option.bind_some, if_true]
     cases h4 : hyphP l f with
     | false => rfl
     | true =>
      cases h5 : hyphP l (rd bs i) with
      | false => rfl
      | true =>
       have := (legalP_iff l f (rd bs i)).2 ⟨h4, h5⟩
       rw [h3] at this
       cases this
end Go.Proofs.Ytbddfnmhhmkfkaa.Pr
namespace Go.Proofs.Ytbddfnmhhmkfkaa.Pr
open Go.RowKit Go.Proofs.YtbddfnmhhmkfkaaW.PrintWords Go.Proofs.YtbddfnmhhmkfkaaW.PrintLast Go.Proofs.YtbddfnmhhmkfkaaW.PrintMore
attribute [local go_sem] max2_int min2_int max_two min_two max_three min_three max_four min_four
set_option linter.unusedVariables false
set_option linter.unusedSimpArgs false
mutual
def r19_all.l0 : Nat → List (S43) → Int → List (List Int) → Int → Option ((List (List Int)))
 | 0, _, _, _, _ => none
 | k + 1, x0, x1, x5, x6 => if x6 ≤ (x0.length : Int) then ((r19_Place.f x0 x6).bind fun t220 => (if t220 = true then ((r19_Hyphen.f x0 x1).bind fun t221 => (if t221 = true then ((r19_Hyphen.f x0 x6).bind fun t222 => (r19_all.j1 k x0 x1 x5 x6 t222)) else (r19_all.j1 k x0 x1 x5 x6 false))) else (r19_all.j1 k x0 x1 x5 x6 true))) else (some x5)
def r19_all.j1 : Nat → List (S43) → Int → List (List Int) → Int → Bool → Option ((List (List Int)))
 | 0, _, _, _, _, _ => none
 | k + 1, x0, x1, x5, x6, x35 => if x35 = true then (r19_all.l0 k x0 x1 x5 (wrap64 (x6 + 1))) else ((r19_all.f k x0 x6).bind fun t223 => (r19_all.l1 k x0 x1 x5 x6 t223 0))
def r19_all.l1 : Nat → List (S43) → Int → List (List Int) → Int → List (List Int) → Int → Option ((List (List Int)))
 | 0, _, _, _, _, _, _ => none
 | k + 1, x0, x1, x5, x6, x7, x8 => if x8 < (x7.length : Int) then ((some (([x6] : List Int) : List Int)).bind fun y226 => (if 0 ≤ x8 then (if y226.length + (rd_L4 x7 x8).length < 17592186044416 then (if x5.length < 5864062014805 then (r19_all.l1 k x0 x1 (x5 ++ [(y226 ++ (rd_L4 x7 x8))]) x6 x7 (wrap64 (x8 + 1))) else (none)) else (none)) else (none))) else (r19_all.l0 k x0 x1 x5 (wrap64 (x6 + 1)))
def r19_all.f : Nat → List (S43) → Int → Option ((List (List Int)))
 | 0, _, _ => none
 | k + 1, l0, a1 => if a1 = (l0.length : Int) then (some (([[]] : List (List Int)))) else (r19_all.l0 k l0 a1 ([] : List (List Int)) (wrap64 (a1 + 1)))
end
theorem r19_all.mono_l : ∀ k, (∀ y0 y1, LeO (r19_all.f k y0 y1) (r19_all.f (k + 1) y0 y1)) ∧ (∀ y0 y1 y2 y3, LeO (r19_all.l0 k y0 y1 y2 y3) (r19_all.l0 (k + 1) y0 y1 y2 y3)) ∧ (∀ y0 y1 y2 y3 y4, LeO (r19_all.j1 k y0 y1 y2 y3 y4) (r19_all.j1 (k + 1) y0 y1 y2 y3 y4)) ∧ (∀ y0 y1 y2 y3 y4 y5, LeO (r19_all.l1 k y0 y1 y2 y3 y4 y5) (r19_all.l1 (k + 1) y0 y1 y2 y3 y4 y5))
 | 0 => ⟨fun _ _ r h => by simp [r19_all.f] at h, fun _ _ _ _ r h => by simp [r19_all.l0] at h, fun _ _ _ _ _ r h => by simp [r19_all.j1] at h, fun _ _ _ _ _ _ r h => by simp [r19_all.l1] at h⟩
 | k + 1 => by
  obtain ⟨ih0, ih1, ih2, ih3⟩ := r19_all.mono_l k
  refine ⟨?_, ?_, ?_, ?_⟩
  ·intro y0 y1
   unfold r19_all.f
   repeat' first
   | (with_reducible exact ih0 _ _)
   | (with_reducible exact ih1 _ _ _ _)
   | (with_reducible exact ih2 _ _ _ _ _)
   | (with_reducible exact ih3 _ _ _ _ _ _)
   | (with_reducible exact LeO.refl _)
   | (with_reducible exact LeO.none _)
   | (with_reducible refine LeO.ite ?_ ?_)
   | (with_reducible refine LeO.bind ?_ (fun _ => ?_))
   | exact ih0 _ _
   | exact ih1 _ _ _ _
   | exact ih2 _ _ _ _ _
   | exact ih3 _ _ _ _ _ _
   | exact LeO.none _
   | refine LeO.ite ?_ ?_
   | refine LeO.bind ?_ (fun _ => ?_)
  ·intro y0 y1 y2 y3
   unfold r19_all.l0
   repeat' first
   | (with_reducible exact ih0 _ _)
   | (with_reducible exact ih1 _ _ _ _)
   | (with_reducible exact ih2 _ _ _ _ _)
   | (with_reducible exact ih3 _ _ _ _ _ _)
   | (with_reducible exact LeO.refl _)
   | (with_reducible exact LeO.none _)
   | (with_reducible refine LeO.ite ?_ ?_)
   | (with_reducible refine LeO.bind ?_ (fun _ => ?_))
   | exact ih0 _ _
   | exact ih1 _ _ _ _
   | exact ih2 _ _ _ _ _
   | exact ih3 _ _ _ _ _ _
   | exact LeO.none _
   | refine LeO.ite ?_ ?_
   | refine LeO.bind ?_ (fun _ => ?_)
  ·intro y0 y1 y2 y3 y4
   unfold r19_all.j1
   repeat' first
   | (with_reducible exact ih0 _ _)
   | (with_reducible exact ih1 _ _ _ _)
   | (with_reducible exact ih2 _ _ _ _ _)
   | (with_reducible exact ih3 _ _ _ _ _ _)
   | (with_reducible exact LeO.refl _)
   | (with_reducible exact LeO.none _)
   | (with_reducible refine LeO.ite ?_ ?_)
   | (with_reducible refine LeO.bind ?_ (fun _ => ?_))
   | exact ih0 _ _
   | exact ih1 _ _ _ _
   | exact ih2 _ _ _ _ _
   | exact ih3 _ _ _ _ _ _
   | exact LeO.none _
   | refine LeO.ite ?_ ?_
   | refine LeO.bind ?_ (fun _ => ?_)
  ·intro y0 y1 y2 y3 y4 y5
   unfold r19_all.l1
   repeat' first
   | (with_reducible exact ih0 _ _)
   | (with_reducible exact ih1 _ _ _ _)
   | (with_reducible exact ih2 _ _ _ _ _)
   | (with_reducible exact ih3 _ _ _ _ _ _)
   | (with_reducible exact LeO.refl _)
   | (with_reducible exact LeO.none _)
   | (with_reducible refine LeO.ite ?_ ?_)
   | (with_reducible refine LeO.bind ?_ (fun _ => ?_))
   | exact ih0 _ _
   | exact ih1 _ _ _ _
   | exact ih2 _ _ _ _ _
   | exact ih3 _ _ _ _ _ _
   | exact LeO.none _
   | refine LeO.ite ?_ ?_
   | refine LeO.bind ?_ (fun _ => ?_)
theorem r19_all.mono : ∀ a0 a1 k, LeO (r19_all.f k a0 a1) (r19_all.f (k + 1) a0 a1) := by
 intro a0 a1 k
 obtain ⟨ih0, ih1, ih2, ih3⟩ := r19_all.mono_l k
 exact ih0 a0 a1
set_option maxHeartbeats 8000000 in
set_option maxRecDepth 100000 in
theorem r19_all.calls (k : Nat) : ∀ (A0 : Option Addr) (c0 : Nat) (l0 : List (S43)) (a1 : Int) (r : List (List Int)) (w : World) (hr0 : Kd.C k43 w A0 l0.length l0) (hc0 : l0.length ≤ c0) (h : r19_all.f k l0 a1 = some r),
  Calls Try.prog 48 #[.slice A0 l0.length c0, .int .i64 a1] w fun e w' => ∃ v0_ : Value, e = .returned (v0_) ∧ Kd.S (Kd.slice 3 (Kd.int .i64)) 25 w' w.heap.size (fun _ => True) v0_ r ∧ Below w.heap.size w w' := by
 induction k using Nat.strongRecOn with
 | _ k ih =>
 intro A0 c0 l0 a1 r w hr0 hc0 h
 cases k with
 | zero => exact absurd h (by simp [r19_all.f])
 | succ k =>
 simp only [r19_all.f] at h
 have HR0 := Aside0.mk hr0
 have HC0 := Aside0.mk hc0
 clear hr0 hc0
 have HB := Aside0.mk (Below.refl w.heap.size w)
 have H : (if a1 = (l0.length : Int) then (some (([[]] : List (List Int)))) else (r19_all.l0 k l0 a1 ([] : List (List Int)) (wrap64 (a1 + 1)))) = some r := h
 clear h
 by_cases c3 : a1 = (l0.length : Int)
 ·rw [if_pos c3] at H
  have c3b0 : (a1 == (l0.length : Int)) = true := beq_iff_eq.mpr c3
  have c3b1 : (a1 != (l0.length : Int)) = false := bne_eq_false_iff_eq.mpr c3
  clear c3
  obtain ⟨y217, hy217⟩ : ∃ y_ : List (List Int), y_ = (([[]] : List (List Int))) := ⟨_, rfl⟩
  replace H : (some y217) = some r := by first | (rw [hy217]; with_reducible exact H) | (have H2_ := (Option.bind_some _ _).symm.trans H; rw [hy217]; with_reducible exact H2_) | (have H2_ := (Option.bind_some _ _).symm.trans H; with_reducible exact H2_) | with_reducible exact H | (rw [hy217]; exact H) | exact H
  have Ny217 := Aside0.mk hy217
  clear hy217
  obtain rfl := Option.some.inj H
  go_enter Try.func48, Try.ntmps48
  go_wp2_with (first | ((with_reducible refine gate_dst (N := 13) rfl ?_); refine Kd.S_lit (Kd.slice 3 (Kd.int .i64)) _ 25 ?hg (N := 13) ?hd (xs := ([[]] : List (List Int))) (inner := [.slice none 0 0]) (ok := fun _ => True) (okp := fun _ => True) ?hr ?hp (fun _ hk => hk) trivial (Below.refl _ _) (Nat.le_refl _) (by simp) ?_; (case hd => rfl); (case hg => rfl); (case hr => first | (go_simp; done) | (go_simp; rfl)); (case hp => exact (Reps.one (show Kd.M (Kd.slice 3 (Kd.int .i64)) _ _ _ [] [.slice none 0 0] from ⟨_, rfl, Kd.R_nil _ _ _ _ _⟩) (Reps.none _ _))); intro v218 w4 ho5 hb hg_ hnew_; clear hg_ hnew_; (first | rw [← Ny217.out] at ho5 | (simp only [Int.reduceToNat] at ho5; rw [← Ny217.out] at ho5)); have n0_ := Aside0.mk (Kd.S_lower ho5 (below_size (by repeat (first | (with_reducible first | exact HB.out | apply below_alloc | apply pw_below_drewN | apply below_drew1) | exact HB.out)))); have n1_ := Aside0.mk (below_step (by repeat (first | (with_reducible first | exact HB.out | apply below_alloc | apply pw_below_drewN | apply below_drew1) | exact HB.out)) hb); clear HB; have HO219 := n0_; have HB := n1_; clear n0_ n1_; clear hb ho5))
  go_ret
  exact ⟨_, by first | rfl | (simp [errW_none, errW_some] <;> rfl) | (simp [*, errW_none, errW_some] <;> rfl), by (with_reducible repeat (first | apply Kd.S_alloc | apply Kd.S_drewN | apply Kd.S_drew)); exact HO219.out, by repeat (first | (with_reducible first | exact HB.out | apply below_alloc | apply pw_below_drewN | apply below_drew1) | exact HB.out)⟩
 ·rw [if_neg c3] at H
  have c3b0 : (a1 == (l0.length : Int)) = false := beq_eq_false_iff_ne.mpr c3
  have c3b1 : (a1 != (l0.length : Int)) = true := bne_iff_ne.mpr c3
  have H' := Aside0.mk H
  clear H
  go_enter Try.func48, Try.ntmps48
  go_wp2
  go_loopg [5, 6] k (fun kq v5 v6 w' => ∃ (x5_1 : List (List Int)) (x6_1 : Int), v6 = .int .i64 x6_1 ∧ Aside0 (r19_all.l0 kq l0 a1 x5_1 x6_1 = some r) ∧ Aside0 (kq ≤ k) ∧ Aside0 (Kd.S (Kd.slice 3 (Kd.int .i64)) 25 w' w.heap.size (fun _ => True) v5 x5_1) ∧ Aside0 (Below w.heap.size w w'))
  case atStart => exact ⟨(([] : List (List Int))), (wrap64 (a1 + 1)), (by first | rfl | (simp; done) | (simp [*]; done)), H', ⟨Nat.le_refl _⟩, ⟨by first | exact Kd.S_nil _ _ _ _ _ | exact Kd.N_nil _ _ _ _ _ | exact Kd.V_nil _ _ _ _ _ | exact Kd.Q_nil _ _ _ _ _ | exact Kd.R_nil _ _ _ _ _⟩, ⟨by repeat (first | (with_reducible first | exact HB.out | apply below_alloc | apply pw_below_drewN | apply below_drew1) | exact HB.out)⟩⟩
  case round =>
   clear H'
   try clear p2
   try clear c3
   try clear c3b0
   try clear c3b1
   try clear c4
   obtain ⟨x5_1, x6_1, rfl, HA, HK1, HO_5, HB⟩ := hrel
   cases gk with
   | zero => exact absurd HA.out (by simp [r19_all.l0])
   | succ k1 =>
    have H := HA.out
    clear HA
    simp only [r19_all.l0] at H
    by_cases c6 : x6_1 ≤ (l0.length : Int)
    ·rw [if_pos c6] at H
     have c6b0 : decide (x6_1 ≤ (l0.length : Int)) = true := decide_eq_true c6
     clear c6
     have HC7 := Aside0.mk H
     clear H
     go_upto_region 7 with (fail)
     go_cut [35] (fun v35 wc => ∃ (kq : Nat) (x35_6 : Bool), v35 = .bool x35_6 ∧ Aside0 (r19_all.j1 kq l0 a1 x5_1 x6_1 x35_6 = some r) ∧ Aside0 (kq ≤ k1) ∧ Aside0 (Kd.S (Kd.slice 3 (Kd.int .i64)) 25 wc w.heap.size (fun _ => True) u5 x5_1) ∧ Aside0 (Below w.heap.size w wc))
     case first =>
      have H := HC7.out
      clear HC7
      replace H := Option.bind_eq_some_iff.mp H
      obtain ⟨t220, A80, H⟩ := H
      replace H : (if t220 = true then ((r19_Hyphen.f l0 a1).bind fun t221 => (if t221 = true then ((r19_Hyphen.f l0 x6_1).bind fun t222 => (r19_all.j1 k1 l0 a1 x5_1 x6_1 t222)) else (r19_all.j1 k1 l0 a1 x5_1 x6_1 false))) else (r19_all.j1 k1 l0 a1 x5_1 x6_1 true)) = some r := H
      have A8 := Aside0.mk A80
      clear A80
      by_cases c9 : t220 = true
      ·subst c9
       have H1 : ((r19_Hyphen.f l0 a1).bind fun t221 => (if t221 = true then ((r19_Hyphen.f l0 x6_1).bind fun t222 => (r19_all.j1 k1 l0 a1 x5_1 x6_1 t222)) else (r19_all.j1 k1 l0 a1 x5_1 x6_1 false))) = some r := by rw [if_pos rfl] at H; exact H
       clear H
       have H := H1
       clear H1
       replace H := Option.bind_eq_some_iff.mp H
       obtain ⟨t221, A100, H⟩ := H
       replace H : (if t221 = true then ((r19_Hyphen.f l0 x6_1).bind fun t222 => (r19_all.j1 k1 l0 a1 x5_1 x6_1 t222)) else (r19_all.j1 k1 l0 a1 x5_1 x6_1 false)) = some r := H
       have A10 := Aside0.mk A100
       clear A100
       by_cases c11 : t221 = true
       ·subst c11
        have H1 : ((r19_Hyphen.f l0 x6_1).bind fun t222 => (r19_all.j1 k1 l0 a1 x5_1 x6_1 t222)) = some r := by rw [if_pos rfl] at H; exact H
        clear H
        have H := H1
        clear H1
        replace H := Option.bind_eq_some_iff.mp H
        obtain ⟨t222, A120, H⟩ := H
        replace H : (r19_all.j1 k1 l0 a1 x5_1 x6_1 t222) = some r := H
        have A12 := Aside0.mk A120
        clear A120
        have H' := Aside0.mk H
        clear H
        go_wp2_with (first | ((with_reducible refine gate_callee (f := 40) rfl ?_); refine goesL_ (some 24) rfl rfl Try.func40 (by kernel_rfl) rfl #[.slice A0 l0.length c0, .int .i64 x6_1] rfl (by (try simp only [List.map_toArray, List.map_cons, List.map_nil]); first | done | rfl | (simp only [List.length_drop, List.length_take]; rfl)) ?_; (with_reducible refine (r19_Place.calls _ _ l0 x6_1 true _ ?side1 ?side2 A8.out).mono ?_); (case side1 => repeat (first | exact (Kd.C_below HR0.out HB.out) | (with_reducible refine Kd.C_alloc ?_ _) | (with_reducible refine Kd.C_drewN ?_ _) | (with_reducible refine Kd.C_drew ?_))); (case side2 => exact HC0.out); rintro e w' ⟨rfl, ⟨nd, rfl⟩⟩; refine ⟨_, rfl, ?_⟩) | (go_at_call 57; (with_reducible refine (r19_Hyphen.calls _ _ l0 a1 true _ ?side1 ?side2 A10.out).mono ?_); (case side1 => repeat (first | exact (Kd.C_below HR0.out (by repeat (first | (with_reducible first | exact HB.out | apply below_alloc | apply pw_below_drewN | apply below_drew1) | exact HB.out))) | (with_reducible refine Kd.C_alloc ?_ _) | (with_reducible refine Kd.C_drewN ?_ _) | (with_reducible refine Kd.C_drew ?_))); (case side2 => exact HC0.out); rintro e w' ⟨rfl, ⟨nd, rfl⟩⟩) | (go_at_call 57; (with_reducible refine (r19_Hyphen.calls _ _ l0 x6_1 t222 _ ?side1 ?side2 A12.out).mono ?_); (case side1 => repeat (first | exact (Kd.C_below HR0.out (by repeat (first | (with_reducible first | exact HB.out | apply below_alloc | apply pw_below_drewN | apply below_drew1) | exact HB.out))) | (with_reducible refine Kd.C_alloc ?_ _) | (with_reducible refine Kd.C_drewN ?_ _) | (with_reducible refine Kd.C_drew ?_))); (case side2 => exact HC0.out); rintro e w' ⟨rfl, ⟨nd, rfl⟩⟩))
        go_meet
        case rel => exact ⟨_, (t222), (by first | rfl | (simp; done) | (simp [*]; done)), H', ⟨by have := HK1.out; first | omega | exact Nat.le_refl _⟩, ⟨by (with_reducible repeat (first | apply Kd.S_alloc | apply Kd.S_drewN | apply Kd.S_drew)); exact HO_5.out⟩, ⟨by repeat (first | (with_reducible first | exact HB.out | apply below_alloc | apply pw_below_drewN | apply below_drew1) | exact HB.out)⟩⟩
       ·replace c11 := Bool.eq_false_iff.mpr c11
        subst c11
        have H1 : (r19_all.j1 k1 l0 a1 x5_1 x6_1 false) = some r := by rw [if_neg (show ¬ (false = true) by decide)] at H; exact H
        clear H
        have H := H1
        clear H1
        have H' := Aside0.mk H
        clear H
        go_wp2_with (first | ((with_reducible refine gate_callee (f := 40) rfl ?_); refine goesL_ (some 24) rfl rfl Try.func40 (by kernel_rfl) rfl #[.slice A0 l0.length c0, .int .i64 x6_1] rfl (by (try simp only [List.map_toArray, List.map_cons, List.map_nil]); first | done | rfl | (simp only [List.length_drop, List.length_take]; rfl)) ?_; (with_reducible refine (r19_Place.calls _ _ l0 x6_1 true _ ?side1 ?side2 A8.out).mono ?_); (case side1 => repeat (first | exact (Kd.C_below HR0.out HB.out) | (with_reducible refine Kd.C_alloc ?_ _) | (with_reducible refine Kd.C_drewN ?_ _) | (with_reducible refine Kd.C_drew ?_))); (case side2 => exact HC0.out); rintro e w' ⟨rfl, ⟨nd, rfl⟩⟩; refine ⟨_, rfl, ?_⟩) | (go_at_call 57; (with_reducible refine (r19_Hyphen.calls _ _ l0 a1 false _ ?side1 ?side2 A10.out).mono ?_); (case side1 => repeat (first | exact (Kd.C_below HR0.out (by repeat (first | (with_reducible first | exact HB.out | apply below_alloc | apply pw_below_drewN | apply below_drew1) | exact HB.out))) | (with_reducible refine Kd.C_alloc ?_ _) | (with_reducible refine Kd.C_drewN ?_ _) | (with_reducible refine Kd.C_drew ?_))); (case side2 => exact HC0.out); rintro e w' ⟨rfl, ⟨nd, rfl⟩⟩))
        go_meet
        case rel => exact ⟨_, (false), (by first | rfl | (simp; done) | (simp [*]; done)), H', ⟨by have := HK1.out; first | omega | exact Nat.le_refl _⟩, ⟨by (with_reducible repeat (first | apply Kd.S_alloc | apply Kd.S_drewN | apply Kd.S_drew)); exact HO_5.out⟩, ⟨by repeat (first | (with_reducible first | exact HB.out | apply below_alloc | apply pw_below_drewN | apply below_drew1) | exact HB.out)⟩⟩
      ·replace c9 := Bool.eq_false_iff.mpr c9
       subst c9
       have H1 : (r19_all.j1 k1 l0 a1 x5_1 x6_1 true) = some r := by rw [if_neg (show ¬ (false = true) by decide)] at H; exact H
       clear H
       have H := H1
       clear H1
       have H' := Aside0.mk H
       clear H
       go_wp2_with (first | ((with_reducible refine gate_callee (f := 40) rfl ?_); refine goesL_ (some 24) rfl rfl Try.func40 (by kernel_rfl) rfl #[.slice A0 l0.length c0, .int .i64 x6_1] rfl (by (try simp only [List.map_toArray, List.map_cons, List.map_nil]); first | done | rfl | (simp only [List.length_drop, List.length_take]; rfl)) ?_; (with_reducible refine (r19_Place.calls _ _ l0 x6_1 false _ ?side1 ?side2 A8.out).mono ?_); (case side1 => repeat (first | exact (Kd.C_below HR0.out HB.out) | (with_reducible refine Kd.C_alloc ?_ _) | (with_reducible refine Kd.C_drewN ?_ _) | (with_reducible refine Kd.C_drew ?_))); (case side2 => exact HC0.out); rintro e w' ⟨rfl, ⟨nd, rfl⟩⟩; refine ⟨_, rfl, ?_⟩))
       go_meet
       case rel => exact ⟨_, (true), (by first | rfl | (simp; done) | (simp [*]; done)), H', ⟨by have := HK1.out; first | omega | exact Nat.le_refl _⟩, ⟨by (with_reducible repeat (first | apply Kd.S_alloc | apply Kd.S_drewN | apply Kd.S_drew)); exact HO_5.out⟩, ⟨by repeat (first | (with_reducible first | exact HB.out | apply below_alloc | apply pw_below_drewN | apply below_drew1) | exact HB.out)⟩⟩
     case rest =>
      clear HC7
      try clear c1
      try clear p2
      try clear c3
      try clear c3b0
      try clear c3b1
      try clear c4
      try clear c6
      try clear c6b0
      try clear p6
      try clear c9
      try clear c11
      try clear p2
      obtain ⟨kq, x35_6, rfl, HA, HJ6, HO_5, HB⟩ := hcut
      cases kq with
      | zero => exact absurd HA.out (by simp [r19_all.j1])
      | succ kj6 =>
       have H := HA.out
       clear HA
       simp only [r19_all.j1] at H
       by_cases c13 : x35_6 = true
       ·subst c13
        have H1 : (r19_all.l0 kj6 l0 a1 x5_1 (wrap64 (x6_1 + 1))) = some r := by rw [if_pos rfl] at H; exact H
        clear H
        have H := H1
        clear H1
        have H' := Aside0.mk H
        clear H
        go_wp2
        go_roundg kj6
        case measure => have := HK1.out; have := HJ6.out; omega
        case rel => exact ⟨(x5_1), (wrap64 (x6_1 + 1)), (by first | rfl | (simp; done) | (simp [*]; done)), H', ⟨by have := HK1.out; have := HJ6.out; omega⟩, ⟨by (with_reducible repeat (first | apply Kd.S_alloc | apply Kd.S_drewN | apply Kd.S_drew)); exact HO_5.out⟩, ⟨by repeat (first | (with_reducible first | exact HB.out | apply below_alloc | apply pw_below_drewN | apply below_drew1) | exact HB.out)⟩⟩
       ·replace c13 := Bool.eq_false_iff.mpr c13
        subst c13
        have H1 : ((r19_all.f kj6 l0 x6_1).bind fun t223 => (r19_all.l1 kj6 l0 a1 x5_1 x6_1 t223 0)) = some r := by rw [if_neg (show ¬ (false = true) by decide)] at H; exact H
        clear H
        have H := H1
        clear H1
        replace H := Option.bind_eq_some_iff.mp H
        obtain ⟨t223, A140, H⟩ := H
        replace H : (r19_all.l1 kj6 l0 a1 x5_1 x6_1 t223 0) = some r := H
        have A14 := Aside0.mk A140
        clear A140
        have H' := Aside0.mk H
        clear H
        go_wp2_with (first | ((with_reducible refine gate_callee (f := 48) rfl ?_); refine goesL_ (some 38) rfl rfl Try.func48 (by kernel_rfl) rfl #[.slice A0 l0.length c0, .int .i64 x6_1] rfl (by (try simp only [List.map_toArray, List.map_cons, List.map_nil]); first | done | rfl | (simp only [List.length_drop, List.length_take]; rfl)) ?_; (with_reducible refine (ih kj6 (by have := HK1.out; have := HJ6.out; omega) _ _ l0 x6_1 t223 _ ?side1 ?side2 A14.out).mono ?_); (case side1 => repeat (first | exact (Kd.C_below HR0.out HB.out) | (with_reducible refine Kd.C_alloc ?_ _) | (with_reducible refine Kd.C_drewN ?_ _) | (with_reducible refine Kd.C_drew ?_))); (case side2 => exact HC0.out); rintro e w15 ⟨v224, rfl, ho0, hb⟩; refine ⟨_, rfl, ?_⟩; have n0_ := Aside0.mk (Kd.S_elder' (by (with_reducible repeat (first | apply Kd.S_alloc | apply Kd.S_drewN | apply Kd.S_drew)); exact HO_5.out) (Kd.S_base ho0) hb); have n1_ := Aside0.mk (Kd.S_lower (Kd.S_new' ho0 (Kd.S_lt (by (with_reducible repeat (first | apply Kd.S_alloc | apply Kd.S_drewN | apply Kd.S_drew)); exact HO_5.out))) (below_size (by repeat (first | (with_reducible first | exact HB.out | apply below_alloc | apply pw_below_drewN | apply below_drew1) | exact HB.out)))); have n2_ := Aside0.mk (below_step (by repeat (first | (with_reducible first | exact HB.out | apply below_alloc | apply pw_below_drewN | apply below_drew1) | exact HB.out)) hb); clear HO_5; clear HB; have HO_5 := n0_; have HO225 := n1_; have HB := n2_; clear n0_ n1_ n2_; (try clear hb); (try clear hb2); (try clear hk); (try clear hi); (try clear ho0)))
        go_loopg [5, 8] kj6 (fun kq v5 v8 w' => ∃ (x5_3 : List (List Int)) (x8_3 : Int), v8 = .int .i64 x8_3 ∧ Aside0 (r19_all.l1 kq l0 a1 x5_3 x6_1 t223 x8_3 = some r) ∧ Aside0 (kq ≤ kj6) ∧ Aside0 (Kd.S (Kd.slice 3 (Kd.int .i64)) 25 w' w.heap.size (fun k_ => some k_ ≠ (v224 : Value).ownBlock) v5 x5_3) ∧ Aside0 (Kd.S (Kd.slice 3 (Kd.int .i64)) 25 w' w.heap.size (fun k_ => some k_ ≠ (v5 : Value).ownBlock) v224 t223) ∧ Aside0 (Below w.heap.size w w'))
        case atStart => exact ⟨(x5_1), (0), (by first | rfl | (simp; done) | (simp [*]; done)), H', ⟨Nat.le_refl _⟩, ⟨by (with_reducible repeat (first | apply Kd.S_alloc | apply Kd.S_drewN | apply Kd.S_drew)); exact Kd.S_mono HO_5.out (fun _ hk => hk.2)⟩, ⟨by (with_reducible repeat (first | apply Kd.S_alloc | apply Kd.S_drewN | apply Kd.S_drew)); exact Kd.S_mono HO225.out (fun _ hk => hk.2)⟩, ⟨by repeat (first | (with_reducible first | exact HB.out | apply below_alloc | apply pw_below_drewN | apply below_drew1) | exact HB.out)⟩⟩
        case round =>
         clear H'
         try clear c1
         try clear p2
         try clear c3
         try clear c3b0
         try clear c3b1
         try clear c4
         try clear c6
         try clear c6b0
         try clear p6
         try clear c9
         try clear c11
         try clear c13
         try clear p2
         try clear p6
         obtain ⟨x5_3, x8_3, rfl, HA, HK3, HO_5, HO_7, HB⟩ := hrel
         cases gk with
         | zero => exact absurd HA.out (by simp [r19_all.l1])
         | succ k3 =>
          have H := HA.out
          clear HA
          simp only [r19_all.l1] at H
          by_cases c16 : x8_3 < (t223.length : Int)
          ·rw [if_pos c16] at H
           have c16b0 : decide (x8_3 < (t223.length : Int)) = true := decide_eq_true c16
           clear c16
           obtain ⟨y226, hy226⟩ : ∃ y_ : List Int, y_ = (([x6_1] : List Int)) := ⟨_, rfl⟩
           replace H : (if 0 ≤ x8_3 then (if y226.length + (rd_L4 t223 x8_3).length < 17592186044416 then (if x5_3.length < 5864062014805 then (r19_all.l1 k3 l0 a1 (x5_3 ++ [(y226 ++ (rd_L4 t223 x8_3))]) x6_1 t223 (wrap64 (x8_3 + 1))) else (none)) else (none)) else (none)) = some r := by first | (rw [hy226]; with_reducible exact H) | (have H2_ := (Option.bind_some _ _).symm.trans H; rw [hy226]; with_reducible exact H2_) | (have H2_ := (Option.bind_some _ _).symm.trans H; with_reducible exact H2_) | with_reducible exact H | (rw [hy226]; exact H) | exact H
           have Ny226 := Aside0.mk hy226
           clear hy226
           by_cases c17 : 0 ≤ x8_3
           ·rw [if_pos c17] at H
            have c17b0 : decide (0 ≤ x8_3) = true := decide_eq_true c17
            clear c17
            by_cases c18 : y226.length + (rd_L4 t223 x8_3).length < 17592186044416
            ·rw [if_pos c18] at H
             have LMc18 := Aside0.mk c18
             clear c18
             obtain ⟨y230, hy230⟩ : ∃ y_ : List Int, y_ = (y226 ++ (rd_L4 t223 x8_3)) := ⟨_, rfl⟩
             replace H : (if x5_3.length < 5864062014805 then (r19_all.l1 k3 l0 a1 (x5_3 ++ [y230]) x6_1 t223 (wrap64 (x8_3 + 1))) else (none)) = some r := by first | (rw [hy230]; with_reducible exact H) | (have H2_ := (Option.bind_some _ _).symm.trans H; rw [hy230]; with_reducible exact H2_) | (have H2_ := (Option.bind_some _ _).symm.trans H; with_reducible exact H2_) | with_reducible exact H | (rw [hy230]; exact H) | exact H
             have Ny230 := Aside0.mk hy230
             clear hy230
             by_cases c19 : x5_3.length < 5864062014805
             ·rw [if_pos c19] at H
              have LMc19 := Aside0.mk c19
              clear c19
              obtain ⟨y233, hy233⟩ : ∃ y_ : List (List Int), y_ = (x5_3 ++ [y230]) := ⟨_, rfl⟩
              replace H : (r19_all.l1 k3 l0 a1 y233 x6_1 t223 (wrap64 (x8_3 + 1))) = some r := by first | (rw [hy233]; with_reducible exact H) | (have H2_ := (Option.bind_some _ _).symm.trans H; rw [hy233]; with_reducible exact H2_) | (have H2_ := (Option.bind_some _ _).symm.trans H; with_reducible exact H2_) | with_reducible exact H | (rw [hy233]; exact H) | exact H
              have Ny233 := Aside0.mk hy233
              clear hy233
              have H' := Aside0.mk H
              clear H
              obtain ⟨Ao20, co20, eo20⟩ := Kd.S_slice HO_7.out
              subst eo20
              go_wp2_with (first | ((with_reducible refine gate_dst (N := 47) rfl ?_); refine Kd.R_lit (Kd.int .i64) _ 3 ?hg (N := 47) ?hd (xs := ([x6_1] : List Int)) (inner := [.int .i64 x6_1]) (ok := fun _ => True) (okp := fun _ => True) ?hr ?hp (fun _ hk => hk) trivial (Below.refl _ _) (Nat.le_refl _) (by simp) ?_; (case hd => rfl); (case hg => rfl); (case hr => first | (go_simp; done) | (go_simp; rfl)); (case hp => exact (Reps.one (show Kd.M (Kd.int .i64) _ _ _ x6_1 [.int .i64 x6_1] from rfl) (Reps.none _ _))); intro v227 w21 ho22 hb hg_ hnew_; clear hg_ hnew_; (first | rw [← Ny226.out] at ho22 | (simp only [Int.reduceToNat] at ho22; rw [← Ny226.out] at ho22)); have n0_ := Aside0.mk (Kd.S_elder' (by (with_reducible repeat (first | apply Kd.S_alloc | apply Kd.S_drewN | apply Kd.S_drew)); exact HO_5.out) (Kd.R_base ho22) hb); have n1_ := Aside0.mk (Kd.S_elder' (by (with_reducible repeat (first | apply Kd.S_alloc | apply Kd.S_drewN | apply Kd.S_drew)); exact HO_7.out) (Kd.R_base ho22) hb); have n2_ := Aside0.mk (Kd.R_lower ho22 (below_size (by repeat (first | (with_reducible first | exact HB.out | apply below_alloc | apply pw_below_drewN | apply below_drew1) | exact HB.out)))); have n3_ := Aside0.mk (below_step (by repeat (first | (with_reducible first | exact HB.out | apply below_alloc | apply pw_below_drewN | apply below_drew1) | exact HB.out)) hb); clear HO_5; clear HO_7; clear HB; have HO_5 := n0_; have HO_7 := n1_; have HO228 := n2_; have HB := n3_; clear n0_ n1_ n2_ n3_; clear hb ho22; have p229 : 0 ≤ (x8_3 : Int) := of_decide_eq_true (by first | (with_reducible assumption) | assumption); have q229 : x8_3 < (t223.length : Int) := of_decide_eq_true (by first | (with_reducible assumption) | assumption); obtain ⟨ad229, A229_0, c229_0, e229, hx229_0, hl229_0, hi229_0⟩ := at_L4 (Kd.S_reads' HO_7.out).2.2 x8_3 p229 q229; cases e229; obtain ⟨ce229, hce229, hMe229, hcc229⟩ := Kd.S_get HO_7.out [] x8_3 p229 (by first | exact q229 | exact of_decide_eq_true (by first | (with_reducible assumption) | assumption) | (have e_ := (Kd.S_reads' HO_7.out).1; omega)); obtain ⟨ve229_0, rfl, ge229_0⟩ := hMe229; have hv229_0 := hcc229 0 _ rfl; rw [Nat.add_zero, show ((Kd.slice 3 (Kd.int .i64))).sz = 1 from rfl, Nat.mul_one] at hv229_0; replace hv229_0 := Option.some.inj (hv229_0.symm.trans hx229_0); rw [hv229_0] at ge229_0; have HL229_0 := Aside0.mk (show Kd.R (Kd.int .i64) 3 _ _ _ _ (rd_L4 t223 x8_3) from ge229_0); clear hv229_0 ge229_0; clear hcc229 hce229; have HR229_0 := Aside0.mk hi229_0; have HC229_0 := Aside0.mk hl229_0; clear hi229_0 hl229_0; replace p229 := eq_true p229; replace q229 := eq_true q229) | ((with_reducible refine gate_builtin (b := .append) (xs := #[.tmp 47, .tmp 51]) rfl ?_); at_builtin; refine Kd.R_append_rows (Kd.int .i64) (w0 := w) w.heap.size rfl (.tmp 47) (.tmp 51) 25 3 (.int .i64 0) 8 rfl Try.underlying25 info3 rfl (by decide) (by omega) v227 y226 (rd_L4 t223 x8_3) _ _ _ (fun _ => True) (fun _ => False) rfl rfl ?aO ?aR (fun _ _ h => h) (fun _ h => h.elim) ?aF ?aB ?aS ?aL ?_; (case aR => repeat (first | exact (by repeat (first | (with_reducible exact HR229_0.out) | (with_reducible refine Kd.C_alloc ?_ _) | (with_reducible refine Kd.C_drewN ?_ _) | (with_reducible refine Kd.C_drew ?_) | exact HR229_0.out)) | (with_reducible refine Kd.C_alloc ?_ _) | (with_reducible refine Kd.C_drewN ?_ _) | (with_reducible refine Kd.C_drew ?_))); (case aB => exact (by repeat (first | (with_reducible first | exact HB.out | apply below_alloc | apply pw_below_drewN | apply below_drew1) | exact HB.out))); (case aF => exact (fun _ _ => trivial)); (case aO => exact (by (with_reducible repeat (first | apply Kd.R_alloc | apply Kd.R_drewN | apply Kd.R_drew)); exact HO228.out)); (case aS => exact (below_size (by repeat (first | (with_reducible first | exact HB.out | apply below_alloc | apply pw_below_drewN | apply below_drew1) | exact HB.out)))); (case aL => have := LMc18.out; omega); intro v231 w23 ho hb hg hat; rw [← Ny230.out] at ho; have n0_ := Aside0.mk (Kd.S_after (ok := (fun k_ => some k_ ≠ (.slice (some ad229) t223.length co20 : Value).ownBlock)) (by (with_reducible repeat (first | apply Kd.S_alloc | apply Kd.S_drewN | apply Kd.S_drew)); exact HO_5.out) hg hat); have n1_ := Aside0.mk (Kd.S_after (ok := (fun k_ => some k_ ≠ (u5 : Value).ownBlock)) (by (with_reducible repeat (first | apply Kd.S_alloc | apply Kd.S_drewN | apply Kd.S_drew)); exact HO_7.out) hg hat); have n2_ := Aside0.mk (Kd.R_after (ok := (fun k_ => some k_ ≠ (u5 : Value).ownBlock ∧ some k_ ≠ (.slice (some ad229) t223.length co20 : Value).ownBlock)) (by (with_reducible repeat (first | apply Kd.R_alloc | apply Kd.R_drewN | apply Kd.R_drew)); exact Kd.R_mono HL229_0.out (fun _ hk => ⟨⟨hk.1.1, hk.2⟩, hk.1.2⟩)) hg hat); have n3_ := Aside0.mk (hb); have n4_ := Aside0.mk (ho); clear HO_5; clear HO_7; clear HL229_0; clear HB; clear HO228; have HO_5 := n0_; have HO_7 := n1_; have HL229_0 := n2_; have HB := n3_; have HO232 := n4_; clear n0_ n1_ n2_ n3_ n4_; clear ho hb hg hat; obtain ⟨Ao25, co25, eo25⟩ := Kd.R_slice HO232.out; subst eo25) | ((with_reducible refine gate_builtin (b := .append) (xs := #[.tmp 45, .tmp 53]) rfl ?_); at_builtin; refine Kd.S_append (Kd.slice 3 (Kd.int .i64)) (w0 := w) w.heap.size rfl (.tmp 45) (.tmp 53) 79 25 (.slice none 0 0) 24 rfl Try.underlying79 info25 rfl (by decide) (by omega) u5 x5_3 y230 [.slice Ao25 y230.length co25] (fun k_ => some k_ ≠ (.slice (some ad229) t223.length co20 : Value).ownBlock) (fun k_ => some k_ = (.slice Ao25 y230.length co25 : Value).ownBlock) rfl rfl ?aP (fun k_ hk_ => ((Kd.R_mono (ok' := fun k_ => ((fun k_ => some k_ ≠ (.slice (some ad229) t223.length co20 : Value).ownBlock)) k_ ∧ some k_ ≠ (u5 : Value).ownBlock) (Kd.R_apart' (Kd.R_apart' (HO232.out) (Kd.S_typed HO_7.out) (by decide)) (Kd.S_typed HO_5.out) (by decide)) (fun k_ hk => ⟨hk.1.2, hk.2⟩))).1 k_ hk_.symm) ?aF ?aO ?aB ?aS ?aL ?_; (case aP => exact Kd.M_row (Kd.R_mono (Kd.R_tight rfl (Kd.R_mono (ok' := fun k_ => ((fun k_ => some k_ ≠ (.slice (some ad229) t223.length co20 : Value).ownBlock)) k_ ∧ some k_ ≠ (u5 : Value).ownBlock) (Kd.R_apart' (Kd.R_apart' (HO232.out) (Kd.S_typed HO_7.out) (by decide)) (Kd.S_typed HO_5.out) (by decide)) (fun k_ hk => ⟨hk.1.2, hk.2⟩))) (fun _ h_ => h_))); (case aB => exact (by repeat (first | (with_reducible first | exact HB.out | apply below_alloc | apply pw_below_drewN | apply below_drew1) | exact HB.out))); (case aF => exact (fun k_ hk => Kd.fresh' (Kd.S_lt (by (with_reducible repeat (first | apply Kd.S_alloc | apply Kd.S_drewN | apply Kd.S_drew)); exact HO_7.out)) k_ hk)); (case aO => exact (by (with_reducible repeat (first | apply Kd.S_alloc | apply Kd.S_drewN | apply Kd.S_drew)); exact Kd.S_mono HO_5.out (fun k_ hk => ⟨hk.1, fun e_ => hk.2 e_⟩))); (case aS => exact (below_size (by repeat (first | (with_reducible first | exact HB.out | apply below_alloc | apply pw_below_drewN | apply below_drew1) | exact HB.out)))); (case aL => have := LMc19.out; omega); intro v234 w24 ho hb hg hat; rw [← Ny233.out] at ho; have n0_ := Aside0.mk (Kd.S_after (ok := (fun k_ => some k_ ≠ (.slice Ao25 y230.length co25 : Value).ownBlock)) (by (with_reducible repeat (first | apply Kd.S_alloc | apply Kd.S_drewN | apply Kd.S_drew)); exact Kd.S_mono HO_7.out (fun _ hk => ⟨hk.2, hk.1⟩)) hg hat); have n1_ := Aside0.mk (Kd.R_after (ok := (fun k_ => some k_ ≠ (.slice (some ad229) t223.length co20 : Value).ownBlock ∧ some k_ ≠ (.slice Ao25 y230.length co25 : Value).ownBlock)) (by (with_reducible repeat (first | apply Kd.R_alloc | apply Kd.R_drewN | apply Kd.R_drew)); exact Kd.R_mono HL229_0.out (fun _ hk => ⟨⟨hk.1.2, hk.2⟩, hk.1.1⟩)) hg hat); have n2_ := Aside0.mk (hb); have n3_ := Aside0.mk (ho); clear HO_7; clear HL229_0; clear HB; clear HO_5; clear HO232; have HO_7 := n0_; have HL229_0 := n1_; have HB := n2_; have HO235 := n3_; clear n0_ n1_ n2_ n3_; clear ho hb hg hat))
              go_roundg k3
              case measure => have := HK1.out; have := HJ6.out; have := HK3.out; omega
              case rel => exact ⟨(y233), (wrap64 (x8_3 + 1)), (by first | rfl | (simp; done) | (simp [*]; done)), H', ⟨by have := HK1.out; have := HJ6.out; have := HK3.out; omega⟩, ⟨by (with_reducible repeat (first | apply Kd.S_alloc | apply Kd.S_drewN | apply Kd.S_drew)); exact HO235.out⟩, ⟨by (with_reducible repeat (first | apply Kd.S_alloc | apply Kd.S_drewN | apply Kd.S_drew)); exact Kd.S_mono HO_7.out (fun _ hk => hk.2)⟩, ⟨by repeat (first | (with_reducible first | exact HB.out | apply below_alloc | apply pw_below_drewN | apply below_drew1) | exact HB.out)⟩⟩
             ·rw [if_neg c19] at H
              exact absurd H (by simp)
            ·rw [if_neg c18] at H
             exact absurd H (by simp)
           ·rw [if_neg c17] at H
            exact absurd H (by simp)
          ·rw [if_neg c16] at H
           have c16b0 : decide (x8_3 < (t223.length : Int)) = false := decide_eq_false c16
           clear c16
           have H' := Aside0.mk H
           clear H
           obtain ⟨Ao26, co26, eo26⟩ := Kd.S_slice HO_7.out
           subst eo26
           go_wp2
           go_roundg k3
           case measure => have := HK1.out; have := HJ6.out; have := HK3.out; omega
           case rel => exact ⟨(x5_3), (wrap64 (x6_1 + 1)), (by first | rfl | (simp; done) | (simp [*]; done)), H', ⟨by have := HK1.out; have := HJ6.out; have := HK3.out; omega⟩, ⟨by (with_reducible repeat (first | apply Kd.S_alloc | apply Kd.S_drewN | apply Kd.S_drew)); exact Kd.S_mono HO_5.out (fun _ hk => trivial)⟩, ⟨by repeat (first | (with_reducible first | exact HB.out | apply below_alloc | apply pw_below_drewN | apply below_drew1) | exact HB.out)⟩⟩
    ·rw [if_neg c6] at H
     have c6b0 : decide (x6_1 ≤ (l0.length : Int)) = false := decide_eq_false c6
     clear c6
     obtain rfl := Option.some.inj H
     go_wp2
     go_ret
     exact ⟨_, by first | rfl | (simp [errW_none, errW_some] <;> rfl) | (simp [*, errW_none, errW_some] <;> rfl), by (with_reducible repeat (first | apply Kd.S_alloc | apply Kd.S_drewN | apply Kd.S_drew)); exact HO_5.out, by repeat (first | (with_reducible first | exact HB.out | apply below_alloc | apply pw_below_drewN | apply below_drew1) | exact HB.out)⟩
mutual
def r19_earlier.l0 : Nat → List Int → List Int → Int → Option (Bool)
 | 0, _, _, _ => none
 | k + 1, x0, x1, x5 => if (x0.length : Int) ≥ x5 then (if 0 ≤ (wrap64 ((x0.length : Int) - x5)) then (if (wrap64 ((x0.length : Int) - x5)) < (x0.length : Int) then (r19_earlier.j1 k x0 x1 x5 (rd x0 (wrap64 ((x0.length : Int) - x5))) (-1)) else (none)) else (none)) else (r19_earlier.j1 k x0 x1 x5 (-1) (-1))
def r19_earlier.j1 : Nat → List Int → List Int → Int → Int → Int → Option (Bool)
 | 0, _, _, _, _, _ => none
 | k + 1, x0, x1, x5, x6, x7 => if (x1.length : Int) ≥ x5 then (if 0 ≤ (wrap64 ((x1.length : Int) - x5)) then (if (wrap64 ((x1.length : Int) - x5)) < (x1.length : Int) then (if x6 = (rd x1 (wrap64 ((x1.length : Int) - x5))) then (if x6 = (-1) then (some (decide (x6 < (rd x1 (wrap64 ((x1.length : Int) - x5)))))) else (r19_earlier.l0 k x0 x1 (wrap64 (x5 + 1)))) else (some (decide (x6 < (rd x1 (wrap64 ((x1.length : Int) - x5))))))) else (none)) else (none)) else (if x6 = x7 then (if x6 = (-1) then (some (decide (x6 < x7))) else (r19_earlier.l0 k x0 x1 (wrap64 (x5 + 1)))) else (some (decide (x6 < x7))))
end
def r19_earlier.f (k : Nat) (l0 : List Int) (l1 : List Int) : Option (Bool) := r19_earlier.l0 k l0 l1 2
theorem r19_earlier.mono_l : ∀ k, (∀ y0 y1 y2, LeO (r19_earlier.l0 k y0 y1 y2) (r19_earlier.l0 (k + 1) y0 y1 y2)) ∧ (∀ y0 y1 y2 y3 y4, LeO (r19_earlier.j1 k y0 y1 y2 y3 y4) (r19_earlier.j1 (k + 1) y0 y1 y2 y3 y4))
 | 0 => ⟨fun _ _ _ r h => by simp [r19_earlier.l0] at h, fun _ _ _ _ _ r h => by simp [r19_earlier.j1] at h⟩
 | k + 1 => by
  obtain ⟨ih0, ih1⟩ := r19_earlier.mono_l k
  refine ⟨?_, ?_⟩
  ·intro y0 y1 y2
   unfold r19_earlier.l0
   repeat' first
   | (with_reducible exact ih0 _ _ _)
   | (with_reducible exact ih1 _ _ _ _ _)
   | (with_reducible exact LeO.refl _)
   | (with_reducible exact LeO.none _)
   | (with_reducible refine LeO.ite ?_ ?_)
   | (with_reducible refine LeO.bind ?_ (fun _ => ?_))
   | exact ih0 _ _ _
   | exact ih1 _ _ _ _ _
   | exact LeO.none _
   | refine LeO.ite ?_ ?_
   | refine LeO.bind ?_ (fun _ => ?_)
  ·intro y0 y1 y2 y3 y4
   unfold r19_earlier.j1
   repeat' first
   | (with_reducible exact ih0 _ _ _)
   | (with_reducible exact ih1 _ _ _ _ _)
   | (with_reducible exact LeO.refl _)
   | (with_reducible exact LeO.none _)
   | (with_reducible refine LeO.ite ?_ ?_)
   | (with_reducible refine LeO.bind ?_ (fun _ => ?_))
   | exact ih0 _ _ _
   | exact ih1 _ _ _ _ _
   | exact LeO.none _
   | refine LeO.ite ?_ ?_
   | refine LeO.bind ?_ (fun _ => ?_)
theorem r19_earlier.mono : ∀ a0 a1 k, LeO (r19_earlier.f k a0 a1) (r19_earlier.f (k + 1) a0 a1) := by
 intro a0 a1 k
 obtain ⟨ih0, ih1⟩ := r19_earlier.mono_l k
 unfold r19_earlier.f
 repeat' first
   | (with_reducible exact ih0 _ _ _)
   | (with_reducible exact ih1 _ _ _ _ _)
   | (with_reducible exact LeO.refl _)
   | (with_reducible exact LeO.none _)
   | (with_reducible refine LeO.ite ?_ ?_)
   | (with_reducible refine LeO.bind ?_ (fun _ => ?_))
   | exact ih0 _ _ _
   | exact ih1 _ _ _ _ _
   | exact LeO.none _
   | refine LeO.ite ?_ ?_
   | refine LeO.bind ?_ (fun _ => ?_)
set_option maxHeartbeats 8000000 in
set_option maxRecDepth 100000 in
theorem r19_earlier.calls (k : Nat) (A0 : Option Addr) (c0 : Nat) (l0 : List Int) (A1 : Option Addr) (c1 : Nat) (l1 : List Int) (r : Bool) (w : World) (hr0 : Kd.C (Kd.int .i64) w A0 l0.length l0) (hc0 : l0.length ≤ c0) (hr1 : Kd.C (Kd.int .i64) w A1 l1.length l1) (hc1 : l1.length ≤ c1) (h : r19_earlier.f k l0 l1 = some r) :
  Calls Try.prog 49 #[.slice A0 l0.length c0, .slice A1 l1.length c1] w fun e w' => e = .returned (.bool r) ∧ Drawn0 w w' := by
 have HR0 := Aside0.mk hr0
 have HC0 := Aside0.mk hc0
 clear hr0 hc0
 have HR1 := Aside0.mk hr1
 have HC1 := Aside0.mk hc1
 clear hr1 hc1
 have H : (r19_earlier.l0 k l0 l1 2) = some r := h
 clear h
 have H' := Aside0.mk H
 clear H
 go_enter Try.func49, Try.ntmps49
 go_wp2
 go_loopg [5] k (fun kq v5 w' => ∃ (x5_1 : Int), v5 = .int .i64 x5_1 ∧ Aside0 (r19_earlier.l0 kq l0 l1 x5_1 = some r) ∧ Aside0 (kq ≤ k) ∧ Drawn0 w w')
 case atStart => exact ⟨(2), (by first | rfl | (simp; done) | (simp [*]; done)), H', ⟨Nat.le_refl _⟩, by repeat (first | exact Drawn0.refl _ | apply Drawn0.step)⟩
 case round =>
  clear H'
  try clear c1
  try clear p2
  obtain ⟨x5_1, rfl, HA, HK1, ⟨m1, rfl⟩⟩ := hrel
  cases gk with
  | zero => exact absurd HA.out (by simp [r19_earlier.l0])
  | succ k1 =>
   have H := HA.out
   clear HA
   simp only [r19_earlier.l0] at H
   have HC3 := Aside0.mk H
   clear H
   go_upto_if 13 with (fail)
   go_cut [6] (fun v6 wc => ∃ (kq : Nat) (x6_2 : Int), v6 = .int .i64 x6_2 ∧ Aside0 (r19_earlier.j1 kq l0 l1 x5_1 x6_2 (-1) = some r) ∧ Aside0 (kq ≤ k1) ∧ Drawn0 w wc)
   case first =>
    have H := HC3.out
    clear HC3
    by_cases c4 : (l0.length : Int) ≥ x5_1
    ·rw [if_pos c4] at H
     have c4b0 : decide (x5_1 ≤ (l0.length : Int)) = true := decide_eq_true c4
     clear c4
     (first | rw [c4b0] | (simp only [i64_w, i32_w]; rw [c4b0]) | skip)
     obtain ⟨ji5, hji5⟩ : ∃ j_ : Int, (wrap64 ((l0.length : Int) - x5_1)) = j_ := ⟨_, rfl⟩
     replace H : (if 0 ≤ (ji5) then (if (ji5) < (l0.length : Int) then (r19_earlier.j1 k1 l0 l1 x5_1 (rd l0 (ji5)) (-1)) else (none)) else (none)) = some r := by first | (rw [hji5] at H; exact H) | (simp only [hji5] at H ⊢; exact H)
     have hji5w : (IntKind.i64.wrap ((l0.length : Int) - x5_1)) = ji5 := (i64_w _).trans hji5
     by_cases c6 : 0 ≤ (ji5)
     ·rw [if_pos c6] at H
      have c6b0 : decide (0 ≤ (ji5)) = true := decide_eq_true c6
      clear c6
      by_cases c7 : (ji5) < (l0.length : Int)
      ·rw [if_pos c7] at H
       have c7b0 : decide ((ji5) < (l0.length : Int)) = true := decide_eq_true c7
       clear c7
       have H' := Aside0.mk H
       clear H
       have p236 : 0 ≤ ((ji5) : Int) := of_decide_eq_true (by first | (with_reducible assumption) | assumption)
       have q236 : (ji5) < (l0.length : Int) := of_decide_eq_true (by first | (with_reducible assumption) | assumption)
       obtain ⟨ad236, e236, hx236_0⟩ := Kd.at_int HR0.out (ji5) p236 q236
       cases e236
       replace p236 := eq_true p236
       replace q236 := eq_true q236
       go_wp2
       go_meet
       case rel => exact ⟨_, (rd l0 (ji5)), (by first | rfl | (simp; done) | (simp only [← hji5] <;> (first | rfl | simp)) | (simp [*]; done)), H', ⟨by have := HK1.out; first | omega | exact Nat.le_refl _⟩, by repeat (first | exact Drawn0.refl _ | apply Drawn0.step)⟩
      ·rw [if_neg c7] at H
       exact absurd H (by simp)
     ·rw [if_neg c6] at H
      exact absurd H (by simp)
    ·rw [if_neg c4] at H
     have c4b0 : decide (x5_1 ≤ (l0.length : Int)) = false := decide_eq_false c4
     clear c4
     (first | rw [c4b0] | (simp only [i64_w, i32_w]; rw [c4b0]) | skip)
     have H' := Aside0.mk H
     clear H
     go_wp2
     go_meet
     case rel => exact ⟨_, ((-1)), (by first | rfl | (simp; done) | (simp [*]; done)), H', ⟨by have := HK1.out; first | omega | exact Nat.le_refl _⟩, by repeat (first | exact Drawn0.refl _ | apply Drawn0.step)⟩
   case rest =>
    clear HC3
    try clear c1
    try clear p2
    try clear q2
    try clear hx2
    try clear c4
    try clear c4b0
    try clear c6
    try clear c6b0
    try clear p6
    try clear c7
    try clear c7b0
    try clear hx236_0
    try clear p2
    try clear p236
    try clear q236
    obtain ⟨kq, x6_2, rfl, HA, HJ2, ⟨mc2, rfl⟩⟩ := hcut
    cases kq with
    | zero => exact absurd HA.out (by simp [r19_earlier.j1])
    | succ kj2 =>
     have H := HA.out
     clear HA
     simp only [r19_earlier.j1] at H
     by_cases c8 : (l1.length : Int) ≥ x5_1
     ·rw [if_pos c8] at H
      have c8b0 : decide (x5_1 ≤ (l1.length : Int)) = true := decide_eq_true c8
      clear c8
      obtain ⟨ji9, hji9⟩ : ∃ j_ : Int, (wrap64 ((l1.length : Int) - x5_1)) = j_ := ⟨_, rfl⟩
      replace H : (if 0 ≤ (ji9) then (if (ji9) < (l1.length : Int) then (if x6_2 = (rd l1 (ji9)) then (if x6_2 = (-1) then (some (decide (x6_2 < (rd l1 (ji9))))) else (r19_earlier.l0 kj2 l0 l1 (wrap64 (x5_1 + 1)))) else (some (decide (x6_2 < (rd l1 (ji9)))))) else (none)) else (none)) = some r := by first | (rw [hji9] at H; exact H) | (simp only [hji9] at H ⊢; exact H)
      have hji9w : (IntKind.i64.wrap ((l1.length : Int) - x5_1)) = ji9 := (i64_w _).trans hji9
      by_cases c10 : 0 ≤ (ji9)
      ·rw [if_pos c10] at H
       have c10b0 : decide (0 ≤ (ji9)) = true := decide_eq_true c10
       clear c10
       by_cases c11 : (ji9) < (l1.length : Int)
       ·rw [if_pos c11] at H
        have c11b0 : decide ((ji9) < (l1.length : Int)) = true := decide_eq_true c11
        clear c11
        by_cases c12 : x6_2 = (rd l1 (ji9))
        ·rw [if_pos c12] at H
         have c12b0 : (x6_2 == (rd l1 (ji9))) = true := beq_iff_eq.mpr c12
         have c12b1 : (x6_2 != (rd l1 (ji9))) = false := bne_eq_false_iff_eq.mpr c12
         clear c12
         by_cases c13 : x6_2 = (-1)
         ·rw [if_pos c13] at H
          have c13b0 : (x6_2 == (-1)) = true := beq_iff_eq.mpr c13
          have c13b1 : (x6_2 != (-1)) = false := bne_eq_false_iff_eq.mpr c13
          clear c13
          obtain rfl := Option.some.inj H
          have p237 : 0 ≤ ((ji9) : Int) := of_decide_eq_true (by first | (with_reducible assumption) | assumption)
          have q237 : (ji9) < (l1.length : Int) := of_decide_eq_true (by first | (with_reducible assumption) | assumption)
          obtain ⟨ad237, e237, hx237_0⟩ := Kd.at_int HR1.out (ji9) p237 q237
          cases e237
          replace p237 := eq_true p237
          replace q237 := eq_true q237
          go_wp2
          go_ret
          exact ⟨by first | rfl | (simp; done) | (simp only [← hji9] <;> (first | rfl | simp)) | (simp [*]; done), by repeat (first | exact Drawn0.refl _ | apply Drawn0.step)⟩
         ·rw [if_neg c13] at H
          have c13b0 : (x6_2 == (-1)) = false := beq_eq_false_iff_ne.mpr c13
          have c13b1 : (x6_2 != (-1)) = true := bne_iff_ne.mpr c13
          have H' := Aside0.mk H
          clear H
          have p237 : 0 ≤ ((ji9) : Int) := of_decide_eq_true (by first | (with_reducible assumption) | assumption)
          have q237 : (ji9) < (l1.length : Int) := of_decide_eq_true (by first | (with_reducible assumption) | assumption)
          obtain ⟨ad237, e237, hx237_0⟩ := Kd.at_int HR1.out (ji9) p237 q237
          cases e237
          replace p237 := eq_true p237
          replace q237 := eq_true q237
          go_wp2
          go_roundg kj2
          case measure => have := HK1.out; have := HJ2.out; omega
          case rel => exact ⟨(wrap64 (x5_1 + 1)), (by first | rfl | (simp; done) | (simp [*]; done)), H', ⟨by have := HK1.out; have := HJ2.out; omega⟩, by repeat (first | exact Drawn0.refl _ | apply Drawn0.step)⟩
        ·rw [if_neg c12] at H
         have c12b0 : (x6_2 == (rd l1 (ji9))) = false := beq_eq_false_iff_ne.mpr c12
         have c12b1 : (x6_2 != (rd l1 (ji9))) = true := bne_iff_ne.mpr c12
         obtain rfl := Option.some.inj H
         have p237 : 0 ≤ ((ji9) : Int) := of_decide_eq_true (by first | (with_reducible assumption) | assumption)
         have q237 : (ji9) < (l1.length : Int) := of_decide_eq_true (by first | (with_reducible assumption) | assumption)
         obtain ⟨ad237, e237, hx237_0⟩ := Kd.at_int HR1.out (ji9) p237 q237
         cases e237
         replace p237 := eq_true p237
         replace q237 := eq_true q237
         go_wp2
         go_ret
         exact ⟨by first | rfl | (simp; done) | (simp only [← hji9] <;> (first | rfl | simp)) | (simp [*]; done), by repeat (first | exact Drawn0.refl _ | apply Drawn0.step)⟩
       ·rw [if_neg c11] at H
        exact absurd H (by simp)
      ·rw [if_neg c10] at H
       exact absurd H (by simp)
     ·rw [if_neg c8] at H
      have c8b0 : decide (x5_1 ≤ (l1.length : Int)) = false := decide_eq_false c8
      clear c8
      by_cases c14 : x6_2 = (-1)
      ·rw [if_pos c14] at H
       have c14b0 : (x6_2 == (-1)) = true := beq_iff_eq.mpr c14
       have c14b1 : (x6_2 != (-1)) = false := bne_eq_false_iff_eq.mpr c14
       clear c14
       by_cases c15 : x6_2 = (-1)
       ·rw [if_pos c15] at H
        have c15b0 : (x6_2 == (-1)) = true := beq_iff_eq.mpr c15
        have c15b1 : (x6_2 != (-1)) = false := bne_eq_false_iff_eq.mpr c15
        clear c15
        obtain rfl := Option.some.inj H
        go_wp2
        go_ret
        exact ⟨by first | rfl | (simp; done) | (simp [*]; done), by repeat (first | exact Drawn0.refl _ | apply Drawn0.step)⟩
       ·exact absurd (beq_iff_eq.mp c14b0) c15
      ·rw [if_neg c14] at H
       have c14b0 : (x6_2 == (-1)) = false := beq_eq_false_iff_ne.mpr c14
       have c14b1 : (x6_2 != (-1)) = true := bne_iff_ne.mpr c14
       obtain rfl := Option.some.inj H
       go_wp2
       go_ret
       exact ⟨by first | rfl | (simp; done) | (simp [*]; done), by repeat (first | exact Drawn0.refl _ | apply Drawn0.step)⟩
end Go.Proofs.Ytbddfnmhhmkfkaa.Pr
namespace Go.Proofs.Ytbddfnmhhmkfkaa.Pr
set_option linter.unusedVariables false
set_option linter.unusedSimpArgs false
open Go.RowKit Go.Proofs.YtbddfnmhhmkfkaaW.PrintWords Go.Proofs.YtbddfnmhhmkfkaaW.PrintLast Go.Proofs.YtbddfnmhhmkfkaaW.PrintMore
def PF (l : List S43) : Nat → Nat → List Int
 | 0, _ => []
 | d + 1, i => (if placeP l i = true then [(i : Int)] else []) ++ PF l d (i + 1)
theorem PF_eq (l : List S43) : ∀ (d i : Nat), placesTo l (i + d) = placesTo l i ++ PF l d i
 | 0, i => by simp [PF]
 | d + 1, i => by
  have := PF_eq l d (i + 1)
  rw [show i + 1 + d = i + (d + 1) by omega] at this
  rw [this, placesTo_succ, PF, List.append_assoc]
theorem PF_all (l : List S43) : PF l (l.length + 1) 0 = placesP l := by
 have := PF_eq l (l.length + 1) 0
 simp only [Nat.zero_add] at this
 rw [placesP, this]
 simp [placesTo]
def loopQ (l : List S43) : List Int → Int → List (List Int)
 | [], _ => []
 | t :: ts, f => (if legalP l f t = true then (if t = l.length then [[]] else loopQ l ts t).map (t :: ·) else []) ++ loopQ l ts f
theorem loopQ_len (l : List S43) : ∀ (ps : List Int) (f : Int), (loopQ l ps f).length ≤ 2 ^ ps.length
 | [], f => by simp [loopQ]
 | t :: ts, f => by
  have h1 := loopQ_len l ts f
  have h2 := loopQ_len l ts t
  have h3 : 1 ≤ 2 ^ ts.length := Nat.one_le_two_pow
  simp only [loopQ, List.length_append, List.length_cons, Nat.pow_succ]
  split
  ·rw [List.length_map]
   split
   ·simp; omega
   ·omega
  ·simp; omega
theorem loopQ_row (l : List S43) : ∀ (ps : List Int) (f : Int) (x : List Int), x ∈ loopQ l ps f → x.length ≤ ps.length
 | [], f, x, h => by simp [loopQ] at h
 | t :: ts, f, x, h => by
  simp only [loopQ, List.mem_append] at h
  rcases h with h | h
  ·split at h
   ·obtain ⟨y, hy, rfl⟩ := List.mem_map.1 h
    split at hy
    ·obtain rfl := List.mem_singleton.1 hy
     simp
    ·have := loopQ_row l ts t y hy
     simp only [List.length_cons]
     omega
   ·cases h
  ·have := loopQ_row l ts f x h
   simp only [List.length_cons]
   omega
structure PL (l : List S43) (f : Int) (ps : List Int) : Prop where
 gt : ∀ t ∈ ps, f < t
 pl : ∀ t ∈ ps, placeP l t = true
 all : ∀ t, placeP l t = true → f < t → t ∈ ps
 up : List.Pairwise (· < ·) ps
theorem PL.tail {l : List S43} {f t : Int} {ts : List Int} (h : PL l f (t :: ts)) : PL l t ts := by
 have hp := List.pairwise_cons.1 h.up
 refine ⟨hp.1, fun x hx => h.pl x (List.mem_cons_of_mem _ hx), fun x hx hlt => ?_, hp.2⟩
 have := h.all x hx (by have := h.gt t (by simp); omega)
 rcases List.mem_cons.1 this with h' | h'
 ·omega
 ·exact h'
theorem loopQ_legal (l : List S43) : ∀ (ps : List Int) (f : Int), (∀ t ∈ ps, f < t ∧ placeP l t = true) → List.Pairwise (· < ·) ps → ∀ x ∈ loopQ l ps f, legalB l f x = true
 | [], f, _, _, x, h => by simp [loopQ] at h
 | t :: ts, f, hg, hs, x, h => by
  have hp := List.pairwise_cons.1 hs
  simp only [loopQ, List.mem_append] at h
  rcases h with h | h
  ·split at h
   ·rename_i hl
    obtain ⟨y, hy, rfl⟩ := List.mem_map.1 h
    obtain ⟨h1, h2⟩ := hg t (by simp)
    simp only [legalB, Bool.and_eq_true, decide_eq_true_eq]
    refine ⟨⟨⟨h1, h2⟩, hl⟩, ?_⟩
    split at hy
    ·rename_i he
     obtain rfl := List.mem_singleton.1 hy
     simp [legalB, he]
    ·exact loopQ_legal l ts t (fun u hu => ⟨hp.1 u hu, (hg u (List.mem_cons_of_mem _ hu)).2⟩) hp.2 y hy
   ·cases h
  ·exact loopQ_legal l ts f (fun u hu => hg u (List.mem_cons_of_mem _ hu)) hp.2 x h
theorem loopQ_all (l : List S43) : ∀ (ps : List Int) (f : Int) (t : Int) (y : List Int), List.Pairwise (· < ·) ps → (∀ u ∈ ps, placeP l u = true) → t ∈ ps → (∀ u, placeP l u = true → t < u → u ∈ ps) → legalB l f (t :: y) = true → (t :: y) ∈ loopQ l ps f
 | [], f, t, y, _, _, h, _, _ => by cases h
 | u :: us, f, t, y, hs, hpl, ht, hall, hl => by
  have hp := List.pairwise_cons.1 hs
  simp only [loopQ, List.mem_append]
  rcases List.mem_cons.1 ht with rfl | ht
  ·left
   have hl2 := hl
   simp only [legalB, Bool.and_eq_true, decide_eq_true_eq] at hl2
   obtain ⟨⟨⟨h1, h2⟩, h3⟩, h4⟩ := hl2
   rw [if_pos h3]
   refine List.mem_map.2 ⟨y, ?_, rfl⟩
   have htl := place_le h2
   cases y with
   | nil =>
    simp only [legalB, beq_iff_eq] at h4
    rw [if_pos h4]
    simp
   | cons z y =>
    have h5 := h4
    simp only [legalB, Bool.and_eq_true, decide_eq_true_eq] at h5
    have hz := place_le h5.1.1.2
    rw [if_neg (by omega)]
    have hmem : ∀ v, placeP l v = true → t < v → v ∈ us := fun v hv hlt => by
     rcases List.mem_cons.1 (hall v hv hlt) with h | h
     ·omega
     ·exact h
    exact loopQ_all l us t z y hp.2 (fun v hv => hpl v (List.mem_cons_of_mem _ hv)) (hmem z h5.1.1.2 h5.1.1.1) (fun v hv hlt => hmem v hv (by omega)) h4
  ·right
   have hut : u < t := hp.1 t ht
   refine loopQ_all l us f t y hp.2 (fun v hv => hpl v (List.mem_cons_of_mem _ hv)) ht (fun v hv hlt => ?_) hl
   rcases List.mem_cons.1 (hall v hv hlt) with h | h
   ·omega
   ·exact h
theorem rdL_drop {bs : List (List Int)} {i : Nat} (h : i < bs.length) : bs.drop i = rd_L4 bs i :: bs.drop (i + 1) := by
 rw [List.drop_eq_getElem_cons h]
 congr 1
 unfold rd_L4
 rw [Int.toNat_natCast, List.getD_eq_getElem?_getD, List.getElem?_eq_getElem h]
 rfl
theorem all_l1 (l : List S43) (f : Int) (t : Nat) (rest : List (List Int)) (hr : rest.length ≤ 2000000) (hrow : ∀ x ∈ rest, x.length ≤ 1000000) (fin : List (List Int)) : ∀ (d i : Nat) (out : List (List Int)), i + d = rest.length → out.length + d ≤ 2000000 →
  (Ev (fun k => r19_all.l0 k l f (out ++ (rest.drop i).map ((t : Int) :: ·)) (wrap64 ((t : Int) + 1))) fin) → Ev (fun k => r19_all.l1 k l f out t rest i) fin
 | 0, i, out, h, ho, next => by
  rw [List.drop_of_length_le (by omega), List.map_nil, List.append_nil] at next
  refine Ev.step (fun k => ?_) next
  rw [r19_all.l1.eq_2, if_neg (by omega)]
 | d + 1, i, out, h, ho, next => by
  have hi : i < rest.length := by omega
  have hd := rdL_drop hi
  have hx := hrow (rd_L4 rest i) (List.mem_of_mem_drop (i := i) (by rw [hd]; simp))
  rw [hd, List.map_cons] at next
  have ih := all_l1 l f t rest hr hrow fin d (i + 1) (out ++ [(t : Int) :: rd_L4 rest i]) (by omega) (by rw [List.length_append, List.length_singleton]; omega) (by rw [List.append_assoc]; exact next)
  have c1 : (i : Int) < rest.length := by omega
  have c2 : (0 : Int) ≤ i := by omega
  have l1 : ([(t : Int)] : List Int).length + (rd_L4 rest i).length < 17592186044416 := by rw [List.length_singleton]; omega
  have l2 : out.length < 5864062014805 := by omega
  have e : wrap64 ((i : Int) + 1) = ((i + 1 : Nat) : Int) := by clear next ih; rw [w64 (by omega) (by omega)]; omega
  refine Ev.step (fun k => ?_) ih
  rw [r19_all.l1.eq_2, if_pos c1, Option.bind_some, if_pos c2, if_pos l1, if_pos l2, e]
  rfl
theorem all_l0 (l : List S43) (hl : l.length ≤ 100000) : ∀ (d i : Nat) (f : Int) (out : List (List Int)), i + d = l.length + 1 → out.length + (loopQ l (PF l d i) f).length ≤ 1000000 →
  Ev (fun k => r19_all.l0 k l f out i) (out ++ loopQ l (PF l d i) f)
 | 0, i, f, out, h, ho => by
  refine Ev.step (f := fun _ => some out) (fun k => ?_) ?_
  ·rw [r19_all.l0.eq_2, if_neg (by omega)]
  ·simp only [PF, loopQ, List.append_nil]
   exact Ev.now _
 | d + 1, i, f, out, h, ho => by
  have c1 : (i : Int) ≤ l.length := by omega
  have e : wrap64 ((i : Int) + 1) = ((i + 1 : Nat) : Int) := by rw [w64 (by omega) (by omega)]; omega
  have ihf := fun out ho => all_l0 l hl d (i + 1) f out (by clear e; omega) ho
  have iht := fun ho => all_l0 l hl d (i + 1) (i : Int) [] (by clear e; omega) ho
  have skip : ∀ out', (out'.length + (loopQ l (PF l d (i + 1)) f).length ≤ 1000000) → Ev (fun k => r19_all.l0 k l f out' (wrap64 ((i : Int) + 1))) (out' ++ loopQ l (PF l d (i + 1)) f) := fun out' ho' => by rw [e]; exact ihf out' ho'
  have skipj : (out.length + (loopQ l (PF l d (i + 1)) f).length ≤ 1000000) → Ev (fun k => r19_all.j1 k l f out i true) (out ++ loopQ l (PF l d (i + 1)) f) := fun ho' => Ev.step (fun k => by rw [r19_all.j1.eq_2, if_pos rfl]) (skip out ho')
  cases hp : placeP l (i : Int) with
  | false =>
   have hPF : PF l (d + 1) i = PF l d (i + 1) := by rw [PF, hp]; simp
   rw [hPF] at ho ⊢
   refine Ev.step (fun k => ?_) (skipj ho)
   rw [r19_all.l0.eq_2, if_pos c1, refPlace_f, hp, Option.bind_some, if_neg (by simp)]
  | true =>
   have hPF : PF l (d + 1) i = (i : Int) :: PF l d (i + 1) := by rw [PF, hp]; simp
   rw [hPF] at ho ⊢
   have hstep : ∀ k, r19_all.l0 (k + 1) l f out i = r19_all.j1 k l f out i (!legalP l f i) := fun k => by
    rw [r19_all.l0.eq_2, if_pos c1, refPlace_f, hp, Option.bind_some, if_pos rfl, refHyphen_f, Option.bind_some]
    unfold legalP
    cases hyphP l f with
    | false => simp
    | true => rw [if_pos rfl, refHyphen_f, Option.bind_some]; simp
   refine Ev.step hstep ?_
   cases hlg : legalP l f (i : Int) with
   | false =>
    have hQ : loopQ l ((i : Int) :: PF l d (i + 1)) f = loopQ l (PF l d (i + 1)) f := by rw [loopQ, hlg]; simp
    rw [hQ] at ho ⊢
    exact skipj ho
   | true =>
    have hQ : loopQ l ((i : Int) :: PF l d (i + 1)) f = (if (i : Int) = l.length then [[]] else loopQ l (PF l d (i + 1)) i).map ((i : Int) :: ·) ++ loopQ l (PF l d (i + 1)) f := by rw [loopQ, hlg, if_pos rfl]
    rw [hQ] at ho ⊢
    rw [List.length_append, List.length_map] at ho
    have hPFl : (PF l d (i + 1)).length ≤ 100001 := by
     have h1 := PF_eq l d (i + 1)
     have h2 := places_len l (i + 1 + d)
     rw [h1, List.length_append] at h2
     clear e
     omega
    obtain ⟨rest, hrest⟩ : ∃ r, (if (i : Int) = l.length then [[]] else loopQ l (PF l d (i + 1)) i) = r := ⟨_, rfl⟩
    have hall : Ev (fun k => r19_all.f k l i) rest := by
     by_cases hil : (i : Int) = l.length
     ·rw [if_pos hil] at hrest
      refine Ev.step (f := fun _ => some [[]]) (fun k => ?_) (hrest ▸ Ev.now _)
      rw [r19_all.f.eq_2, if_pos hil]
     ·rw [if_neg hil] at hrest ho
      have := iht (by rw [List.length_nil]; clear e; omega)
      rw [List.nil_append, hrest, ← e] at this
      refine Ev.step (fun k => ?_) this
      rw [r19_all.f.eq_2, if_neg hil]
    have hrow : ∀ x ∈ rest, x.length ≤ 1000000 := fun x hx => by
     rw [← hrest] at hx
     split at hx
     ·obtain rfl := List.mem_singleton.1 hx; simp
     ·have := loopQ_row l _ _ x hx
      clear e
      omega
    rw [hrest] at ho ⊢
    refine Ev.step (fun k => ?_) (Ev.bind (f := fun k r => r19_all.l1 k l f out (i : Int) r 0) hall (all_l1 l f i rest (by clear e; omega) hrow _ rest.length 0 out (by omega) (by clear e; omega) ?_))
    ·rw [r19_all.j1.eq_2, if_neg (by simp)]
    ·rw [List.drop_zero, ← List.append_assoc]
     exact skip _ (by rw [List.length_append, List.length_map]; clear e; omega)
def allP (l : List S43) : List (List Int) := loopQ l (placesP l) (-1)
theorem all_ev (l : List S43) (hl : l.length ≤ 100000) (hp : (placesP l).length ≤ 16) : Ev (fun k => r19_all.f k l (-1)) (allP l) := by
 have h1 := loopQ_len l (placesP l) (-1)
 have h2 : 2 ^ (placesP l).length ≤ 2 ^ 16 := Nat.pow_le_pow_right (by omega) hp
 have := all_l0 l hl (l.length + 1) 0 (-1) [] (by omega) (by rw [PF_all, List.length_nil]; omega)
 rw [PF_all, List.nil_append] at this
 refine Ev.step (fun k => ?_) this
 rw [r19_all.f.eq_2, if_neg (by omega), w64 (by omega) (by omega)]
 rfl
theorem all_legal (l : List S43) : ∀ x ∈ allP l, legalB l (-1) x = true := by
 refine loopQ_legal l (placesP l) (-1) (fun t ht => ?_) (places_sorted l _)
 have hp := (places_iff l t).2 ht
 have := place_le hp
 exact ⟨by omega, hp⟩
theorem all_has (l : List S43) {x : List Int} (h : legalB l (-1) x = true) (hx : x ≠ []) : x ∈ allP l := by
 cases x with
 | nil => exact absurd rfl hx
 | cons t y =>
  have h2 := h
  simp only [legalB, Bool.and_eq_true] at h2
  exact loopQ_all l (placesP l) (-1) t y (places_sorted l _) (fun u hu => (places_iff l u).2 hu) ((places_iff l t).1 h2.1.1.2) (fun u hu _ => (places_iff l u).1 hu) h
def earlB : List Int → List Int → Bool
 | [], [] => false
 | [], y :: _ => decide (-1 < y)
 | x :: _, [] => decide (x < -1)
 | x :: a, y :: b => decide (x < y) || (decide (x = y) && earlB a b)
theorem earlB_iff : ∀ a b, earlB a b = true ↔ Go.DP.earl a b
 | [], [] => by simp [earlB, Go.DP.earl]
 | [], y :: b => by simp [earlB, Go.DP.earl]
 | x :: a, [] => by simp [earlB, Go.DP.earl]
 | x :: a, y :: b => by simp [earlB, Go.DP.earl, earlB_iff a b]
theorem rev_rd (a : List Int) (k : Nat) (h0 : 1 ≤ k) (h : k ≤ a.length) : a.reverse.drop (k - 1) = rd a ((a.length : Int) - k) :: a.reverse.drop k := by
 have hk : k - 1 < a.reverse.length := by rw [List.length_reverse]; omega
 rw [List.drop_eq_getElem_cons hk, show k - 1 + 1 = k by omega]
 congr 1
 unfold rd
 rw [List.getElem_reverse, show ((a.length : Int) - k).toNat = a.length - k by omega, List.getD_eq_getElem?_getD, List.getElem?_eq_getElem (by omega)]
 simp only [Option.getD_some]
 congr 1
 omega
theorem earlier_l0 (a b : List Int) (ha : ∀ x ∈ a, 0 ≤ x) (hb : ∀ x ∈ b, 0 ≤ x) (hal : a.length ≤ 1000000) (hbl : b.length ≤ 1000000) : ∀ (d k : Nat), 1 ≤ k → a.length < k + d →
  Ev (fun n => r19_earlier.l0 n a b k) (earlB (a.reverse.drop (k - 1)) (b.reverse.drop (k - 1)))
 | d, k, hk, hd => by
  have r0 : ∀ (c : List Int), (∀ x ∈ c, 0 ≤ x) → k ≤ c.length → 0 ≤ rd c ((c.length : Int) - k) := fun c hc hkc => by
   have := rev_rd c k hk hkc
   have hm : rd c ((c.length : Int) - k) ∈ c.reverse := List.mem_of_mem_drop (i := k - 1) (by rw [this]; simp)
   exact hc _ (List.mem_reverse.1 hm)
  have more : k ≤ a.length → k ≤ b.length → rd a ((a.length : Int) - k) = rd b ((b.length : Int) - k) → Ev (fun n => r19_earlier.l0 n a b (wrap64 ((k : Int) + 1))) (earlB (a.reverse.drop (k - 1)) (b.reverse.drop (k - 1))) := fun h1 h2 he => by
   match d, hd with
   | 0, hd => omega
   | d + 1, hd =>
    have ih := earlier_l0 a b ha hb hal hbl d (k + 1) (by omega) (by omega)
    have e : wrap64 ((k : Int) + 1) = ((k + 1 : Nat) : Int) := by rw [w64 (by omega) (by omega)]; omega
    rw [rev_rd a k hk h1, rev_rd b k hk h2, he, earlB]
    have e2 : (decide (rd b ((b.length : Int) - k) < rd b ((b.length : Int) - k)) || (decide (rd b ((b.length : Int) - k) = rd b ((b.length : Int) - k)) && earlB (a.reverse.drop k) (b.reverse.drop k))) = earlB (a.reverse.drop k) (b.reverse.drop k) := by simp
    rw [e2, e]
    exact ih
  have ra := r0 a ha
  have rb := r0 b hb
  have wa : wrap64 ((a.length : Int) - k) = (a.length : Int) - k ∨ ¬ k ≤ a.length := by
   by_cases h : k ≤ a.length
   ·exact .inl (w64 (by omega) (by omega))
   ·exact .inr h
  have wb : wrap64 ((b.length : Int) - k) = (b.length : Int) - k ∨ ¬ k ≤ b.length := by
   by_cases h : k ≤ b.length
   ·exact .inl (w64 (by omega) (by omega))
   ·exact .inr h
  have half : ∀ x : Int, (k ≤ a.length ∧ x = rd a ((a.length : Int) - k)) ∨ (¬ k ≤ a.length ∧ x = -1) → Ev (fun n => r19_earlier.j1 n a b k x (-1)) (earlB (a.reverse.drop (k - 1)) (b.reverse.drop (k - 1))) := fun x hx => by
   by_cases h2 : k ≤ b.length
   ·have wb' : wrap64 ((b.length : Int) - k) = (b.length : Int) - k := wb.resolve_right (fun h => h h2)
    have rb' := rb h2
    obtain ⟨y, hy⟩ : ∃ y, rd b ((b.length : Int) - k) = y := ⟨_, rfl⟩
    rcases hx with ⟨h1, rfl⟩ | ⟨h1, rfl⟩
    ·have ra' := ra h1
     by_cases he : rd a ((a.length : Int) - k) = rd b ((b.length : Int) - k)
     ·refine Ev.step (fun n => ?_) (more h1 h2 he)
      rw [r19_earlier.j1.eq_2, if_pos (by omega), wb', if_pos (by clear wb'; omega), if_pos (by clear wb'; omega), if_pos he, if_neg (by clear wb'; omega)]
     ·have e2 : earlB (a.reverse.drop (k - 1)) (b.reverse.drop (k - 1)) = decide (rd a ((a.length : Int) - k) < rd b ((b.length : Int) - k)) := by
       rw [rev_rd a k hk h1, rev_rd b k hk h2, earlB, decide_eq_false he]
       simp
      rw [e2]
      refine Ev.step (f := fun _ => some _) (fun n => ?_) (Ev.now _)
      rw [r19_earlier.j1.eq_2, if_pos (by omega), wb', if_pos (by clear wb'; omega), if_pos (by clear wb'; omega), if_neg he]
    ·have e2 : earlB (a.reverse.drop (k - 1)) (b.reverse.drop (k - 1)) = decide (-1 < rd b ((b.length : Int) - k)) := by
      rw [List.drop_of_length_le (show a.reverse.length ≤ k - 1 by rw [List.length_reverse]; omega), rev_rd b k hk h2, earlB]
     rw [e2]
     refine Ev.step (f := fun _ => some _) (fun n => ?_) (Ev.now _)
     rw [r19_earlier.j1.eq_2, if_pos (by omega), wb', if_pos (by clear wb'; omega), if_pos (by clear wb'; omega), if_neg (by clear wb'; omega)]
   ·have hb2 : b.reverse.drop (k - 1) = [] := List.drop_of_length_le (by rw [List.length_reverse]; omega)
    rcases hx with ⟨h1, rfl⟩ | ⟨h1, rfl⟩
    ·have ra' := ra h1
     have e2 : earlB (a.reverse.drop (k - 1)) (b.reverse.drop (k - 1)) = decide (rd a ((a.length : Int) - k) < -1) := by
      rw [hb2, rev_rd a k hk h1, earlB]
     rw [e2]
     refine Ev.step (f := fun _ => some _) (fun n => ?_) (Ev.now _)
     rw [r19_earlier.j1.eq_2, if_neg (by omega), if_neg (by omega)]
    ·have e2 : earlB (a.reverse.drop (k - 1)) (b.reverse.drop (k - 1)) = false := by
      rw [hb2, List.drop_of_length_le (show a.reverse.length ≤ k - 1 by rw [List.length_reverse]; omega)]
      rfl
     rw [e2]
     refine Ev.step (f := fun _ => some false) (fun n => ?_) (Ev.now _)
     rw [r19_earlier.j1.eq_2, if_neg (by omega), if_pos rfl, if_pos rfl]
     rfl
  by_cases h1 : k ≤ a.length
  ·have wa' : wrap64 ((a.length : Int) - k) = (a.length : Int) - k := wa.resolve_right (fun h => h h1)
   refine Ev.step (fun n => ?_) (half _ (.inl ⟨h1, rfl⟩))
   rw [r19_earlier.l0.eq_2, if_pos (by omega), wa', if_pos (by clear wa'; omega), if_pos (by clear wa'; omega)]
  ·refine Ev.step (fun n => ?_) (half _ (.inr ⟨h1, rfl⟩))
   rw [r19_earlier.l0.eq_2, if_neg (by omega)]
theorem earlier_ev (a b : List Int) (ha : ∀ x ∈ a, 0 ≤ x) (hb : ∀ x ∈ b, 0 ≤ x) (hal : a.length ≤ 1000000) (hbl : b.length ≤ 1000000) : Ev (fun n => r19_earlier.f n a b) (earlB a.reverse.tail b.reverse.tail) := by
 have := earlier_l0 a b ha hb hal hbl a.length 2 (by omega) (by omega)
 simp only [show 2 - 1 = 1 from rfl, List.drop_one] at this
 exact this
def betterP (l : List S43) (w : Int) (a b : List Int) : Bool := decide (TotP l w (-1) a < TotP l w (-1) b) || (decide (TotP l w (-1) a = TotP l w (-1) b) && earlB a.reverse.tail b.reverse.tail)
def refOfP (l : List S43) (w : Int) : List Int × Int :=
 if checkP l w = 0 then (if l.length = 0 then ([0], 0) else (match allP l with | [] => ([], 0) | b :: xs => (Go.DP.bestOf (betterP l w) xs b, 0))) else ([], checkP l w)
def r19_Of.f (l0 : List S43) (a1 : Int) : Option (List Int × Int) := if l0.length ≤ 100000 ∧ (checkP l0 a1 = 0 → (placesP l0).length ≤ 16) then some (refOfP l0 a1) else none
end Go.Proofs.Ytbddfnmhhmkfkaa.Pr
namespace Go.Proofs.Ytbddfnmhhmkfkaa.Pr
open Go.RowKit Go.Proofs.YtbddfnmhhmkfkaaW.PrintWords Go.Proofs.YtbddfnmhhmkfkaaW.PrintLast Go.Proofs.YtbddfnmhhmkfkaaW.PrintMore
attribute [local go_sem] max2_int min2_int max_two min_two max_three min_three max_four min_four
set_option linter.unusedVariables false
set_option linter.unusedSimpArgs false
def r19_Many.l0 : Nat → List (S43) → Int → Int → Option (Int)
 | 0, _, _, _ => none
 | k + 1, x0, x3, x4 => if x4 ≤ (x0.length : Int) then ((r19_Place.f x0 x4).bind fun t103 => (if t103 = true then (r19_Many.l0 k x0 (wrap64 (x3 + 1)) (wrap64 (x4 + 1))) else (r19_Many.l0 k x0 x3 (wrap64 (x4 + 1))))) else (some x3)
def r19_Many.f (k : Nat) (l0 : List (S43)) : Option (Int) := r19_Many.l0 k l0 0 0
theorem r19_Many.mono_l : ∀ k, (∀ y0 y1 y2, LeO (r19_Many.l0 k y0 y1 y2) (r19_Many.l0 (k + 1) y0 y1 y2))
 | 0 => fun _ _ _ r h => by simp [r19_Many.l0] at h
 | k + 1 => by
  have ih0 := r19_Many.mono_l k
  ·intro y0 y1 y2
   unfold r19_Many.l0
   repeat' first
   | (with_reducible exact ih0 _ _ _)
   | (with_reducible exact LeO.refl _)
   | (with_reducible exact LeO.none _)
   | (with_reducible refine LeO.ite ?_ ?_)
   | (with_reducible refine LeO.bind ?_ (fun _ => ?_))
   | exact ih0 _ _ _
   | exact LeO.none _
   | refine LeO.ite ?_ ?_
   | refine LeO.bind ?_ (fun _ => ?_)
theorem r19_Many.mono : ∀ a0 k, LeO (r19_Many.f k a0) (r19_Many.f (k + 1) a0) := by
 intro a0 k
 have ih0 := r19_Many.mono_l k
 unfold r19_Many.f
 repeat' first
   | (with_reducible exact ih0 _ _ _)
   | (with_reducible exact LeO.refl _)
   | (with_reducible exact LeO.none _)
   | (with_reducible refine LeO.ite ?_ ?_)
   | (with_reducible refine LeO.bind ?_ (fun _ => ?_))
   | exact ih0 _ _ _
   | exact LeO.none _
   | refine LeO.ite ?_ ?_
   | refine LeO.bind ?_ (fun _ => ?_)
set_option maxHeartbeats 8000000 in
set_option maxRecDepth 100000 in
theorem r19_Many.calls (k : Nat) (A0 : Option Addr) (c0 : Nat) (l0 : List (S43)) (r : Int) (w : World) (hr0 : Kd.C k43 w A0 l0.length l0) (hc0 : l0.length ≤ c0) (h : r19_Many.f k l0 = some r) :
  Calls Try.prog 11 #[.slice A0 l0.length c0] w fun e w' => e = .returned (.int .i64 r) ∧ Drawn0 w w' := by
 have HR0 := Aside0.mk hr0
 have HC0 := Aside0.mk hc0
 clear hr0 hc0
 have H : (r19_Many.l0 k l0 0 0) = some r := h
 clear h
 have H' := Aside0.mk H
 clear H
 go_enter Try.func11, Try.ntmps11
 go_wp2
 go_loopg [3, 4] k (fun kq v3 v4 w' => ∃ (x3_1 : Int) (x4_1 : Int), v3 = .int .i64 x3_1 ∧ v4 = .int .i64 x4_1 ∧ Aside0 (r19_Many.l0 kq l0 x3_1 x4_1 = some r) ∧ Aside0 (kq ≤ k) ∧ Drawn0 w w')
 case atStart => exact ⟨(0), (0), (by first | rfl | (simp; done) | (simp [*]; done)), (by first | rfl | (simp; done) | (simp [*]; done)), H', ⟨Nat.le_refl _⟩, by repeat (first | exact Drawn0.refl _ | apply Drawn0.step)⟩
 case round =>
  clear H'
  try clear c1
  obtain ⟨x3_1, x4_1, rfl, rfl, HA, HK1, ⟨m1, rfl⟩⟩ := hrel
  cases gk with
  | zero => exact absurd HA.out (by simp [r19_Many.l0])
  | succ k1 =>
   have H := HA.out
   clear HA
   simp only [r19_Many.l0] at H
   by_cases c2 : x4_1 ≤ (l0.length : Int)
   ·rw [if_pos c2] at H
    have c2b0 : decide (x4_1 ≤ (l0.length : Int)) = true := decide_eq_true c2
    clear c2
    replace H := Option.bind_eq_some_iff.mp H
    obtain ⟨t103, A30, H⟩ := H
    replace H : (if t103 = true then (r19_Many.l0 k1 l0 (wrap64 (x3_1 + 1)) (wrap64 (x4_1 + 1))) else (r19_Many.l0 k1 l0 x3_1 (wrap64 (x4_1 + 1)))) = some r := H
    have A3 := Aside0.mk A30
    clear A30
    by_cases c4 : t103 = true
    ·subst c4
     have H1 : (r19_Many.l0 k1 l0 (wrap64 (x3_1 + 1)) (wrap64 (x4_1 + 1))) = some r := by rw [if_pos rfl] at H; exact H
     clear H
     have H := H1
     clear H1
     have H' := Aside0.mk H
     clear H
     go_wp2_with (first | ((with_reducible refine gate_callee (f := 40) rfl ?_); refine goesL_ (some 13) rfl rfl Try.func40 (by kernel_rfl) rfl #[.slice A0 l0.length c0, .int .i64 x4_1] rfl (by (try simp only [List.map_toArray, List.map_cons, List.map_nil]); first | done | rfl | (simp only [List.length_drop, List.length_take]; rfl)) ?_; (with_reducible refine (r19_Place.calls _ _ l0 x4_1 true _ ?side1 ?side2 A3.out).mono ?_); (case side1 => repeat (first | exact HR0.out | (with_reducible refine Kd.C_alloc ?_ _) | (with_reducible refine Kd.C_drewN ?_ _) | (with_reducible refine Kd.C_drew ?_))); (case side2 => exact HC0.out); rintro e w' ⟨rfl, ⟨nd, rfl⟩⟩; refine ⟨_, rfl, ?_⟩))
     go_roundg k1
     case measure => have := HK1.out; omega
     case rel => exact ⟨(wrap64 (x3_1 + 1)), (wrap64 (x4_1 + 1)), (by first | rfl | (simp; done) | (simp [*]; done)), (by first | rfl | (simp; done) | (simp [*]; done)), H', ⟨by have := HK1.out; omega⟩, by repeat (first | exact Drawn0.refl _ | apply Drawn0.step)⟩
    ·replace c4 := Bool.eq_false_iff.mpr c4
     subst c4
     have H1 : (r19_Many.l0 k1 l0 x3_1 (wrap64 (x4_1 + 1))) = some r := by rw [if_neg (show ¬ (false = true) by decide)] at H; exact H
     clear H
     have H := H1
     clear H1
     have H' := Aside0.mk H
     clear H
     go_wp2_with (first | ((with_reducible refine gate_callee (f := 40) rfl ?_); refine goesL_ (some 13) rfl rfl Try.func40 (by kernel_rfl) rfl #[.slice A0 l0.length c0, .int .i64 x4_1] rfl (by (try simp only [List.map_toArray, List.map_cons, List.map_nil]); first | done | rfl | (simp only [List.length_drop, List.length_take]; rfl)) ?_; (with_reducible refine (r19_Place.calls _ _ l0 x4_1 false _ ?side1 ?side2 A3.out).mono ?_); (case side1 => repeat (first | exact HR0.out | (with_reducible refine Kd.C_alloc ?_ _) | (with_reducible refine Kd.C_drewN ?_ _) | (with_reducible refine Kd.C_drew ?_))); (case side2 => exact HC0.out); rintro e w' ⟨rfl, ⟨nd, rfl⟩⟩; refine ⟨_, rfl, ?_⟩))
     go_roundg k1
     case measure => have := HK1.out; omega
     case rel => exact ⟨(x3_1), (wrap64 (x4_1 + 1)), (by first | rfl | (simp; done) | (simp [*]; done)), (by first | rfl | (simp; done) | (simp [*]; done)), H', ⟨by have := HK1.out; omega⟩, by repeat (first | exact Drawn0.refl _ | apply Drawn0.step)⟩
   ·rw [if_neg c2] at H
    have c2b0 : decide (x4_1 ≤ (l0.length : Int)) = false := decide_eq_false c2
    clear c2
    obtain rfl := Option.some.inj H
    go_wp2
    go_ret
    exact ⟨by first | rfl | (simp; done) | (simp [*]; done), by repeat (first | exact Drawn0.refl _ | apply Drawn0.step)⟩
end Go.Proofs.Ytbddfnmhhmkfkaa.Pr
namespace Go.Proofs.Ytbddfnmhhmkfkaa.Pr
set_option linter.unusedVariables false
set_option linter.unusedSimpArgs false
open Go.RowKit Go.Proofs.YtbddfnmhhmkfkaaW.PrintWords
attribute [local go_sem] Oper.semAt_some
theorem legalB_nonneg (l : List S43) : ∀ (bs : List Int) (f : Int), legalB l f bs = true → ∀ x ∈ bs, 0 ≤ x
 | [], f, _, x, h => by cases h
 | b :: bs, f, hl, x, h => by
  simp only [legalB, Bool.and_eq_true, decide_eq_true_eq] at hl
  rcases List.mem_cons.1 h with rfl | h
  ·exact (place_le hl.1.1.2).1
  ·exact legalB_nonneg l bs b hl.2 x h
theorem all_row (l : List S43) (hl : l.length ≤ 100000) : ∀ x ∈ allP l, x.length ≤ 100001 := fun x hx => by
 have := loopQ_row l (placesP l) (-1) x hx
 have h2 := places_len l (l.length + 1)
 unfold placesP at this
 omega
set_option maxRecDepth 100000 in
set_option maxHeartbeats 4000000 in
theorem refof_good (A0 : Option Addr) (c0 : Nat) (l0 : List S43) (a1 : Int) (b : List Int) (xs : List (List Int)) (w : World) (hl : l0.length ≤ 100000) (hp : (placesP l0).length ≤ 16) (hr0 : Kd.C k43 w A0 l0.length l0) (hc0 : l0.length ≤ c0) (hk : checkP l0 a1 = 0) (hn : l0.length ≠ 0) (hA : allP l0 = b :: xs) :
  Calls Try.prog 14 #[.slice A0 l0.length c0, .int .i64 a1] w fun e w' => ∃ v, e = .returned (.tuple #[v, .int .i64 0]) ∧ Kd.R (Kd.int .i64) 3 w' w.heap.size (fun _ => True) v (Go.DP.bestOf (betterP l0 a1) xs b) ∧ Below w.heap.size w w' := by
 obtain ⟨k1, h1⟩ := (refCheck_ev l0 a1).rounds
 rw [hk] at h1
 have hck := r19_Check.calls k1 A0 c0 l0 a1 0 w hr0 hc0 h1
 obtain ⟨k2, h2⟩ := (all_ev l0 hl hp).rounds
 rw [hA] at h2
 have hall := fun W hW => r19_all.calls k2 A0 c0 l0 (-1) _ W (Kd.C_below hr0 hW) hc0 h2
 have hrows : ∀ x ∈ b :: xs, legalB l0 (-1) x = true ∧ x.length ≤ 100001 := fun x hx => by rw [← hA] at hx; exact ⟨all_legal l0 x hx, all_row l0 hl x hx⟩
 have htot : ∀ x ∈ b :: xs, ∃ k, r19_Total.f k l0 a1 x = some (TotP l0 a1 (-1) x) := fun x hx => by
  obtain ⟨g1, g2⟩ := hrows x hx
  have ok := check_ok hk
  have hlen := ok.len
  obtain ⟨g3, _⟩ := (legalB_iff l0 x (-1)).1 g1
  have g4 : x.length ≤ 100000 := by
   have h3 : RowP l0 x.reverse := (Go.DP.row_fw (placeP l0) (legalP l0) _).2 (by rw [List.reverse_reverse]; exact g3)
   have h4 := row_len l0 _ h3
   rw [List.length_reverse] at h4
   omega
  exact (refTotal_ev ok x g4 g3).rounds
 have hear : ∀ x ∈ b :: xs, ∀ y ∈ b :: xs, ∃ k, r19_earlier.f k x y = some (earlB x.reverse.tail y.reverse.tail) := fun x hx y hy =>
  (earlier_ev x y (legalB_nonneg l0 x _ (hrows x hx).1) (legalB_nonneg l0 y _ (hrows y hy).1) (by have := (hrows x hx).2; omega) (by have := (hrows y hy).2; omega)).rounds
 have HCK := Lib.hid hck
 have HALL := Lib.hid hall
 have HR := Lib.hid hr0
 have HC0 := Lib.hid hc0
 have HT := Lib.hid htot
 have HE := Lib.hid hear
 have hcnt : (b :: xs).length ≤ 65536 := by
  have g1 := loopQ_len l0 (placesP l0) (-1)
  have g2 : 2 ^ (placesP l0).length ≤ 2 ^ 16 := Nat.pow_le_pow_right (by omega) hp
  rw [← hA]
  exact Nat.le_trans g1 g2
 have HCNT := Lib.hid hcnt
 clear hcnt
 have hl1 : (l0.length : Int) ≤ 100000 := by omega
 have hn1 : ((l0.length : Int) == 0) = false := beq_eq_false_iff_ne.2 (by omega)
 have hn2 : 0 < (l0.length : Int) := by omega
 clear hck hall hr0 hc0 htot hear hrows hk hA h1 h2 hp hn
 go_enter Try.func14, Try.ntmps14
 go_wp2_with fail
 refine HCK.out.mono ?_
 rintro _ w1 ⟨rfl, hb1⟩
 go_wp2_with fail
 refine (HALL.out _ hb1).mono ?_
 rintro _ w2 ⟨v0, rfl, hS, hb2⟩
 replace hS := Kd.S_lower hS hb1.size
 replace hb2 := below_step hb1 hb2
 clear hb1
 obtain ⟨n, hn⟩ : ∃ n, (b :: xs).length = n := ⟨_, rfl⟩
 have hn0 : 1 ≤ n := by rw [← hn]; simp
 obtain ⟨g, cap, rfl, _, _, _⟩ := Kd.S_form hS (by simp)
 have hrow : ∀ i : Nat, i < n → ∃ A c, ∀ W, Below w2.heap.size w2 W → W.cell? ⟨g, i, none⟩ = some (.slice A (rd_L4 (b :: xs) i).length c) ∧ Kd.R (Kd.int .i64) 3 W w.heap.size (fun _ => True) (.slice A (rd_L4 (b :: xs) i).length c) (rd_L4 (b :: xs) i) := fun i hi => by
  obtain ⟨cs, hcl, ⟨v, rfl, hM⟩, hcell⟩ := Kd.S_get hS ([] : List Int) i (by omega) (by rw [hn]; omega)
  rw [Int.toNat_natCast] at hcell hM
  have hM2 : Kd.R (Kd.int .i64) 3 w2 w.heap.size (fun _ => True) v (rd_L4 (b :: xs) i) := Kd.R_mono (by unfold rd_L4; rw [Int.toNat_natCast]; exact hM) (fun _ _ => trivial)
  obtain ⟨A, c, rfl⟩ := Kd.R_slice hM2
  refine ⟨A, c, fun W hW => ⟨?_, Kd.R_below hM2 hW⟩⟩
  have h0 := hcell 0 _ rfl
  simp only [Nat.add_zero] at h0
  have h1 := pw_cell_below hW h0
  rw [add_plain] at h1
  simpa [Kd.slice] using h1
 rw [hn]
 have HROW := Lib.hid hrow
 have HN := Lib.hid hn
 obtain ⟨A1, d1, hb0⟩ := hrow 0 (by omega)
 obtain ⟨z0, zR⟩ := hb0 w2 (Below.refl _ _)
 have e0 : rd_L4 (b :: xs) ((0 : Nat) : Int) = b := rfl
 rw [e0] at hb0 z0 zR
 have HB0 := Lib.hid hb0
 clear hrow hb0 zR hS hn
 have hnp : 0 < n := hn0
 have hnn : (n : Int) ≤ 65536 := by have := HCNT.out; have := HN.out; omega
 go_wp2_with fail
 go_loopw [8, 9] (fun v8 v9 wr => ∃ (i : Nat) (bb : List Int) (A : Option Addr) (c : Nat), 1 ≤ i ∧ i ≤ n ∧ v9 = .int .i64 i ∧ v8 = .slice A bb.length c ∧ bb ∈ b :: xs ∧ Hid (Go.DP.bestOf (betterP l0 a1) ((b :: xs).drop i) bb = Go.DP.bestOf (betterP l0 a1) xs b) ∧ Hid (∀ W, Below w2.heap.size w2 W → Kd.R (Kd.int .i64) 3 W w.heap.size (fun _ => True) (.slice A bb.length c) bb) ∧ Below w2.heap.size w2 wr) (fun _ v9 _ => n - (intOf v9).toNat)
 case atStart => exact ⟨1, b, A1, d1, Nat.le_refl _, hn0, by go_num, rfl, by simp, Lib.hid rfl, Lib.hid (fun W hW => (HB0.out W hW).2), Below.refl _ _⟩
 case round =>
  clear z0
  obtain ⟨i, bb, A, c, hi1, hin, rfl, rfl, hmem, HB, HBR, hB⟩ := hrel
  have HM := Lib.hid hmem
  clear hmem
  by_cases hlt : i < n
  ·have hlt1 : (i : Int) < (n : Int) := by omega
   obtain ⟨Ax, cx, hx⟩ := HROW.out i hlt
   obtain ⟨hx0, hxR⟩ := hx wr hB
   have hil : i < (b :: xs).length := by have := HN.out; omega
   have hdr := rdL_drop hil
   have hxm : rd_L4 (b :: xs) i ∈ b :: xs := List.mem_of_mem_drop (i := i) (by rw [hdr]; simp)
   have hstep : Go.DP.bestOf (betterP l0 a1) ((b :: xs).drop (i + 1)) (if betterP l0 a1 (rd_L4 (b :: xs) i) bb = true then rd_L4 (b :: xs) i else bb) = Go.DP.bestOf (betterP l0 a1) xs b := by
    rw [← HB.out, hdr]
    rfl
   obtain ⟨kx, htx⟩ := HT.out _ hxm
   obtain ⟨kb, htb⟩ := HT.out _ HM.out
   obtain ⟨ke, hte⟩ := HE.out _ hxm _ HM.out
   have HX := Lib.hid hx
   have HXM := Lib.hid hxm
   have HST := Lib.hid hstep
   generalize rd_L4 (b :: xs) i = x at *
   unfold betterP at HST
   generalize TotP l0 a1 (-1) x = tx at *
   generalize TotP l0 a1 (-1) bb = tb at *
   generalize earlB x.reverse.tail bb.reverse.tail = eb at *
   have hxc := (Kd.R_reads' hxR).2
   have hbc := (Kd.R_reads' (HBR.out wr hB)).2
   have HXC := Lib.hid hxc
   have HBC := Lib.hid hbc
   have HTX := Lib.hid htx
   have HTB := Lib.hid htb
   have HTE := Lib.hid hte
   have hsz2 := hb2.size
   have hcx := r19_Total.calls kx A0 c0 l0 a1 Ax cx x tx wr (Kd.C_below HR.out (hb2.trans (hB.mono hsz2))) HC0.out hxc.2 hxc.1 htx
   have HCX := Lib.hid hcx
   clear hdr hxm hstep hx hxR hxc hbc htx htb hte hcx hil
   go_wp2_with fail
   refine HCX.out.mono ?_
   rintro _ w3 ⟨rfl, hb3⟩
   have hB3 := below_step hB hb3
   have hcb := r19_Total.calls kb A0 c0 l0 a1 A c bb tb w3 (Kd.C_below HR.out (hb2.trans (hB3.mono hsz2))) HC0.out (Kd.C_below HBC.out.2 hb3) HBC.out.1 HTB.out
   have HCB := Lib.hid hcb
   clear hcb hx0
   go_wp2_with fail
   refine HCB.out.mono ?_
   rintro _ w4 ⟨rfl, hb4⟩
   have hB4 := below_step hB3 hb4
   have hx4 := (HX.out w4 hB4).1
   have hb34 := below_step hb3 hb4
   clear hb3 hb4 HCX HCB hB hB3
   by_cases h1 : tx < tb
   ·have e1 : (decide (tx < tb) || (decide (tx = tb) && eb)) = true := by simp [h1]
    have HE1 := Lib.hid e1
    clear e1
    go_wp2
    go_roundw
    case rel => exact ⟨i + 1, x, Ax, cx, by omega, by omega, by go_num, rfl, HXM.out, Lib.hid (by have := HST.out; rw [if_pos HE1.out] at this; exact this), Lib.hid (fun W hW => (HX.out W hW).2), hB4⟩
    case measure => simp [intOf]; omega
   ·by_cases h2 : tx = tb
    ·subst h2
     have hq : (tx == tx) = true := by simp
     have hce := r19_earlier.calls ke Ax cx x A c bb eb w4 (Kd.C_below HXC.out.2 hb34) HXC.out.1 (Kd.C_below HBC.out.2 hb34) HBC.out.1 HTE.out
     have HCE := Lib.hid hce
     clear hce
     cases eb
     ·go_wp2_with fail
      refine HCE.out.mono ?_
      rintro _ w5 ⟨rfl, hd5⟩
      have hB5 := hB4.trans (hd5.below.mono hB4.size)
      clear hd5 hx4
      go_wp2
      go_roundw
      case rel => exact ⟨i + 1, bb, A, c, by omega, by omega, by go_num, rfl, HM.out, Lib.hid (by have := HST.out; rw [if_neg (by simp)] at this; exact this), HBR, hB5⟩
      case measure => simp [intOf]; omega
     ·go_wp2_with fail
      refine HCE.out.mono ?_
      rintro _ w5 ⟨rfl, hd5⟩
      have hB5 := hB4.trans (hd5.below.mono hB4.size)
      have hx5 := (HX.out w5 hB5).1
      clear hd5 hx4
      go_wp2
      go_roundw
      case rel => exact ⟨i + 1, x, Ax, cx, by omega, by omega, by go_num, rfl, HXM.out, Lib.hid (by have := HST.out; rw [if_pos (by simp)] at this; exact this), Lib.hid (fun W hW => (HX.out W hW).2), hB5⟩
      case measure => simp [intOf]; omega
    ·have hq : (tx == tb) = false := beq_eq_false_iff_ne.2 h2
     have e1 : (decide (tx < tb) || (decide (tx = tb) && eb)) = false := by simp [h1, h2]
     have HE1 := Lib.hid e1
     clear e1
     go_wp2
     go_roundw
     case rel => exact ⟨i + 1, bb, A, c, by omega, by omega, by go_num, rfl, HM.out, Lib.hid (by have := HST.out; rw [if_neg (by rw [HE1.out]; simp)] at this; exact this), HBR, hB4⟩
     case measure => simp [intOf]; omega
  ·obtain rfl : i = n := by omega
   have hlt1 : ¬ (i : Int) < (i : Int) := by omega
   have hfin := HB.out
   rw [List.drop_of_length_le (by have := HN.out; omega)] at hfin
   have hfin2 : bb = Go.DP.bestOf (betterP l0 a1) xs b := hfin
   have hRf := HBR.out wr hB
   have hRg : Kd.R (Kd.int .i64) 3 wr w.heap.size (fun _ => True) (.slice A bb.length c) (Go.DP.bestOf (betterP l0 a1) xs b) := by rw [← hfin2]; exact hRf
   have HRG := Lib.hid hRg
   clear hfin hfin2 hRf hRg
   go_wp2
   go_ret2
   exact ⟨_, rfl, HRG.out, hb2.trans (hB.mono hb2.size)⟩
set_option maxRecDepth 100000 in
set_option maxHeartbeats 4000000 in
theorem refof_none (A0 : Option Addr) (c0 : Nat) (l0 : List S43) (a1 : Int) (w : World) (hr0 : Kd.C k43 w A0 l0.length l0) (hc0 : l0.length ≤ c0) (hk : checkP l0 a1 = 0) (hn : l0.length = 0) :
  Calls Try.prog 14 #[.slice A0 l0.length c0, .int .i64 a1] w fun e w' => ∃ v, e = .returned (.tuple #[v, .int .i64 0]) ∧ Kd.R (Kd.int .i64) 3 w' w.heap.size (fun _ => True) v [0] ∧ Below w.heap.size w w' := by
 obtain ⟨k1, h1⟩ := (refCheck_ev l0 a1).rounds
 rw [hk] at h1
 have hck := r19_Check.calls k1 A0 c0 l0 a1 0 w hr0 hc0 h1
 rw [hn] at hck ⊢
 have HCK := Lib.hid hck
 clear hck hr0 hc0 h1 hk hn
 go_enter Try.func14, Try.ntmps14
 go_wp2_with fail
 refine HCK.out.mono ?_
 rintro _ w1 ⟨rfl, hb1⟩
 go_wp2
 go_ret2
 have ho : (w1.alloc (.cells #[.int .i64 0] 3)).ownsRow w1.heap.size 3 1 (.slice (some ⟨w1.heap.size, 0, none⟩) 1 1) ([0] : List Int).length (nums .i64 [0]) :=
  ⟨rfl, .inr ⟨w1.heap.size, 1, _, rfl, Nat.le_refl _, heap_alloc_new _ _, Nat.le_refl _, by unfold maxLen; omega, rfl, rfl⟩⟩
 exact ⟨_, rfl, own_RI ho _ hb1.size _ (fun _ _ => trivial), below_alloc hb1 _⟩
set_option maxRecDepth 100000 in
set_option maxHeartbeats 4000000 in
theorem refof_bad (A0 : Option Addr) (c0 : Nat) (l0 : List S43) (a1 : Int) (w : World) (hr0 : Kd.C k43 w A0 l0.length l0) (hc0 : l0.length ≤ c0) (hk : checkP l0 a1 = 1) :
  Calls Try.prog 14 #[.slice A0 l0.length c0, .int .i64 a1] w fun e w' => e = .returned (.tuple #[.slice none 0 0, .int .i64 1]) ∧ Below w.heap.size w w' := by
 obtain ⟨k1, h1⟩ := (refCheck_ev l0 a1).rounds
 rw [hk] at h1
 have hck := r19_Check.calls k1 A0 c0 l0 a1 1 w hr0 hc0 h1
 have HCK := Lib.hid hck
 clear hck hr0 hc0 h1 hk
 go_enter Try.func14, Try.ntmps14
 go_wp2_with fail
 refine HCK.out.mono ?_
 rintro _ w1 ⟨rfl, hb1⟩
 go_wp2
 go_ret2
 exact ⟨rfl, hb1⟩
theorem r19_Of.calls (A0 : Option Addr) (c0 : Nat) (l0 : List S43) (a1 : Int) (r1 : List Int) (r2 : Int) (w : World) (hr0 : Kd.C k43 w A0 l0.length l0) (hc0 : l0.length ≤ c0) (h : r19_Of.f l0 a1 = some (r1, r2)) :
  Calls Try.prog 14 #[.slice A0 l0.length c0, .int .i64 a1] w fun e w' => ∃ v, e = .returned (.tuple #[v, .int .i64 r2]) ∧ Kd.R (Kd.int .i64) 3 w' w.heap.size (fun _ => True) v r1 ∧ Below w.heap.size w w' := by
 unfold r19_Of.f at h
 split at h
 ·rename_i hl
  replace h := Option.some.inj h
  unfold refOfP at h
  rcases check_01 l0 a1 with hk | hk
  ·rw [if_pos hk] at h
   by_cases hn : l0.length = 0
   ·rw [if_pos hn] at h
    cases h
    exact refof_none A0 c0 l0 a1 w hr0 hc0 hk hn
   ·rw [if_neg hn] at h
    cases hA : allP l0 with
    | nil =>
     exfalso
     have ok := check_ok hk
     obtain ⟨s, _, hh, hb⟩ := best_row ok
     have hbr : Br l0 (-1) (rowR l0 a1).reverse := (Go.DP.row_fw (placeP l0) (legalP l0) _).1 hb.1
     have hB : legalB l0 (-1) (rowR l0 a1).reverse = true := (legalB_iff l0 _ _).2 ⟨hbr, by rw [Go.DP.hd_rev, hh]⟩
     have hne : rowR l0 a1 ≠ [] := fun e => by rw [e] at hh; simp only [Go.DP.hd] at hh; omega
     have := all_has l0 hB (by simpa using hne)
     rw [hA] at this
     cases this
    | cons b xs =>
     rw [hA] at h
     cases h
     exact refof_good A0 c0 l0 a1 b xs w hl.1 (hl.2 hk) hr0 hc0 hk hn hA
  ·rw [if_neg (by rw [hk]; simp), hk] at h
   cases h
   refine (refof_bad A0 c0 l0 a1 w hr0 hc0 hk).mono ?_
   rintro e w' ⟨rfl, hb⟩
   exact ⟨_, rfl, Kd.R_nil _ _ _ _ _, hb⟩
 ·cases h
end Go.Proofs.Ytbddfnmhhmkfkaa.Pr
namespace Go.Proofs.Ytbddfnmhhmkfkaa.Pr
open Go.RowKit Go.Proofs.YtbddfnmhhmkfkaaW.PrintWords Go.Proofs.YtbddfnmhhmkfkaaW.PrintLast Go.Proofs.YtbddfnmhhmkfkaaW.PrintMore
attribute [local go_sem] max2_int min2_int max_two min_two max_three min_three max_four min_four
set_option linter.unusedVariables false
set_option linter.unusedSimpArgs false
def s19_BestOf.j0 : Nat → List (S43) → Int → Bool → Option (Bool)
 | 0, _, _, _ => none
 | k + 1, x0, x1, x32 => if x32 = true then ((s19_awake.f k).bind fun t242 => (some t242)) else ((some (([] : List (S43)) : List (S43))).bind fun y243 => (if y243.length + x0.length < 3518437208883 then ((some (y243 ++ x0 : List (S43))).bind fun y246 => ((best_Of.f y246 x1).bind fun bt249 => ((r19_Of.f x0 x1).bind fun bt253 => ((s19_same.f k bt249.1 bt253.1).bind fun t257 => (if t257 = true then (if bt249.2 = bt253.2 then ((best_Check.f y246 x1).bind fun t258 => ((r19_Check.f k x0 x1).bind fun t259 => (if t258 = t259 then ((s19_kept.f k y246 x0).bind fun t260 => (if t260 = true then ((s19_awake.f k).bind fun t261 => (some t261)) else (some false))) else (some false)))) else (some false)) else (some false)))))) else (none)))
def s19_BestOf.f (k : Nat) (l0 : List (S43)) (a1 : Int) : Option (Bool) := if (l0.length : Int) > 60 then (if (l0.length : Int) ≤ 16384 then (s19_BestOf.j0 k l0 a1 true) else (if (l0.length : Int) > 17000 then (s19_BestOf.j0 k l0 a1 true) else (if (l0.length : Int) ≤ 60 then ((r19_Many.f k l0).bind fun t240 => (s19_BestOf.j0 k l0 a1 (decide (t240 > 10)))) else (s19_BestOf.j0 k l0 a1 false)))) else (if (l0.length : Int) > 17000 then (s19_BestOf.j0 k l0 a1 true) else (if (l0.length : Int) ≤ 60 then ((r19_Many.f k l0).bind fun t241 => (s19_BestOf.j0 k l0 a1 (decide (t241 > 10)))) else (s19_BestOf.j0 k l0 a1 false)))
theorem s19_BestOf.mono_l : ∀ k, (∀ y0 y1 y2, LeO (s19_BestOf.j0 k y0 y1 y2) (s19_BestOf.j0 (k + 1) y0 y1 y2))
 | 0 => fun _ _ _ r h => by simp [s19_BestOf.j0] at h
 | k + 1 => by
  have ih0 := s19_BestOf.mono_l k
  ·intro y0 y1 y2
   unfold s19_BestOf.j0
   repeat' first
   | (with_reducible exact ih0 _ _ _)
   | (with_reducible exact s19_awake.mono _)
   | (with_reducible exact s19_kept.mono _ _ _)
   | (with_reducible exact s19_same.mono _ _ _)
   | (with_reducible exact r19_Check.mono _ _ _)
   | (with_reducible exact r19_Many.mono _ _)
   | (with_reducible exact LeO.refl _)
   | (with_reducible exact LeO.none _)
   | (with_reducible refine LeO.ite ?_ ?_)
   | (with_reducible refine LeO.bind ?_ (fun _ => ?_))
   | exact ih0 _ _ _
   | exact s19_awake.mono _
   | exact s19_kept.mono _ _ _
   | exact s19_same.mono _ _ _
   | exact r19_Check.mono _ _ _
   | exact r19_Many.mono _ _
   | exact LeO.none _
   | refine LeO.ite ?_ ?_
   | refine LeO.bind ?_ (fun _ => ?_)
theorem s19_BestOf.mono : ∀ a0 a1 k, LeO (s19_BestOf.f k a0 a1) (s19_BestOf.f (k + 1) a0 a1) := by
 intro a0 a1 k
 have ih0 := s19_BestOf.mono_l k
 unfold s19_BestOf.f
 repeat' first
   | (with_reducible exact ih0 _ _ _)
   | (with_reducible exact s19_awake.mono _)
   | (with_reducible exact s19_kept.mono _ _ _)
   | (with_reducible exact s19_same.mono _ _ _)
   | (with_reducible exact r19_Check.mono _ _ _)
   | (with_reducible exact r19_Many.mono _ _)
   | (with_reducible exact LeO.refl _)
   | (with_reducible exact LeO.none _)
   | (with_reducible refine LeO.ite ?_ ?_)
   | (with_reducible refine LeO.bind ?_ (fun _ => ?_))
   | exact ih0 _ _ _
   | exact s19_awake.mono _
   | exact s19_kept.mono _ _ _
   | exact s19_same.mono _ _ _
   | exact r19_Check.mono _ _ _
   | exact r19_Many.mono _ _
   | exact LeO.none _
   | refine LeO.ite ?_ ?_
   | refine LeO.bind ?_ (fun _ => ?_)
set_option maxHeartbeats 8000000 in
set_option maxRecDepth 100000 in
theorem s19_BestOf.calls (k : Nat) (A0 : Option Addr) (c0 : Nat) (l0 : List (S43)) (a1 : Int) (r : Bool) (w : World) (hr0 : Kd.C k43 w A0 l0.length l0) (hc0 : l0.length ≤ c0) (h : s19_BestOf.f k l0 a1 = some r) :
  Calls Try.prog 3 #[.slice A0 l0.length c0, .int .i64 a1] w fun e w' => e = .returned (.bool r) ∧ Below w.heap.size w w' := by
 have HR0 := Aside0.mk hr0
 have HC0 := Aside0.mk hc0
 clear hr0 hc0
 have HB := Aside0.mk (Below.refl w.heap.size w)
 have H : (if (l0.length : Int) > 60 then (if (l0.length : Int) ≤ 16384 then (s19_BestOf.j0 k l0 a1 true) else (if (l0.length : Int) > 17000 then (s19_BestOf.j0 k l0 a1 true) else (if (l0.length : Int) ≤ 60 then ((r19_Many.f k l0).bind fun t240 => (s19_BestOf.j0 k l0 a1 (decide (t240 > 10)))) else (s19_BestOf.j0 k l0 a1 false)))) else (if (l0.length : Int) > 17000 then (s19_BestOf.j0 k l0 a1 true) else (if (l0.length : Int) ≤ 60 then ((r19_Many.f k l0).bind fun t241 => (s19_BestOf.j0 k l0 a1 (decide (t241 > 10)))) else (s19_BestOf.j0 k l0 a1 false)))) = some r := h
 clear h
 have HC3 := Aside0.mk H
 clear H
 go_enter Try.func3, Try.ntmps3
 go_upto_region 1 with (fail)
 go_cut [32] (fun v32 wc => ∃ (kq : Nat) (x32_2 : Bool), v32 = .bool x32_2 ∧ Aside0 (s19_BestOf.j0 kq l0 a1 x32_2 = some r) ∧ Aside0 (kq ≤ k) ∧ Aside0 (Below w.heap.size w wc))
 case first =>
  have H := HC3.out
  clear HC3
  by_cases c4 : (l0.length : Int) > 60
  ·rw [if_pos c4] at H
   have c4b0 : decide (60 < (l0.length : Int)) = true := decide_eq_true c4
   have c4b1 : decide (60 < l0.length) = true := decide_eq_true (by omega)
   clear c4
   (first | rw [c4b0] | (simp only [i64_w, i32_w]; rw [c4b0]) | skip)
   by_cases c5 : (l0.length : Int) ≤ 16384
   ·rw [if_pos c5] at H
    have c5b0 : decide ((l0.length : Int) ≤ 16384) = true := decide_eq_true c5
    have c5b1 : decide (l0.length ≤ 16384) = true := decide_eq_true (by omega)
    clear c5
    have H' := Aside0.mk H
    clear H
    go_wp2
    go_meet
    case rel => exact ⟨_, (true), (by first | rfl | (simp; done) | (simp [*]; done)), H', ⟨by first | omega | exact Nat.le_refl _⟩, ⟨by repeat (first | (with_reducible first | exact HB.out | apply below_alloc | apply pw_below_drewN | apply below_drew1) | exact HB.out)⟩⟩
   ·rw [if_neg c5] at H
    have c5b0 : decide ((l0.length : Int) ≤ 16384) = false := decide_eq_false c5
    have c5b1 : decide (l0.length ≤ 16384) = false := decide_eq_false (by omega)
    clear c5
    by_cases c6 : (l0.length : Int) > 17000
    ·rw [if_pos c6] at H
     have c6b0 : decide (17000 < (l0.length : Int)) = true := decide_eq_true c6
     have c6b1 : decide (17000 < l0.length) = true := decide_eq_true (by omega)
     clear c6
     have H' := Aside0.mk H
     clear H
     go_wp2
     go_meet
     case rel => exact ⟨_, (true), (by first | rfl | (simp; done) | (simp [*]; done)), H', ⟨by first | omega | exact Nat.le_refl _⟩, ⟨by repeat (first | (with_reducible first | exact HB.out | apply below_alloc | apply pw_below_drewN | apply below_drew1) | exact HB.out)⟩⟩
    ·rw [if_neg c6] at H
     have c6b0 : decide (17000 < (l0.length : Int)) = false := decide_eq_false c6
     have c6b1 : decide (17000 < l0.length) = false := decide_eq_false (by omega)
     clear c6
     by_cases c7 : (l0.length : Int) ≤ 60
     ·rw [if_pos c7] at H
      have c7b0 : decide ((l0.length : Int) ≤ 60) = true := decide_eq_true c7
      have c7b1 : decide (l0.length ≤ 60) = true := decide_eq_true (by omega)
      clear c7
      replace H := Option.bind_eq_some_iff.mp H
      obtain ⟨t240, A80, H⟩ := H
      replace H : (s19_BestOf.j0 k l0 a1 (decide (t240 > 10))) = some r := H
      have A8 := Aside0.mk A80
      clear A80
      have H' := Aside0.mk H
      clear H
      go_wp2_with (first | (go_at_call 11; (with_reducible refine (r19_Many.calls k _ _ l0 t240 _ ?side1 ?side2 A8.out).mono ?_); (case side1 => repeat (first | exact (Kd.C_below HR0.out HB.out) | (with_reducible refine Kd.C_alloc ?_ _) | (with_reducible refine Kd.C_drewN ?_ _) | (with_reducible refine Kd.C_drew ?_))); (case side2 => exact HC0.out); rintro e w' ⟨rfl, ⟨nd, rfl⟩⟩))
      go_meet
      case rel => exact ⟨_, (decide (t240 > 10)), (by first | rfl | (simp; done) | (simp [*]; done)), H', ⟨by first | omega | exact Nat.le_refl _⟩, ⟨by repeat (first | (with_reducible first | exact HB.out | apply below_alloc | apply pw_below_drewN | apply below_drew1) | exact HB.out)⟩⟩
     ·rw [if_neg c7] at H
      have c7b0 : decide ((l0.length : Int) ≤ 60) = false := decide_eq_false c7
      have c7b1 : decide (l0.length ≤ 60) = false := decide_eq_false (by omega)
      clear c7
      have H' := Aside0.mk H
      clear H
      go_wp2
      go_meet
      case rel => exact ⟨_, (false), (by first | rfl | (simp; done) | (simp [*]; done)), H', ⟨by first | omega | exact Nat.le_refl _⟩, ⟨by repeat (first | (with_reducible first | exact HB.out | apply below_alloc | apply pw_below_drewN | apply below_drew1) | exact HB.out)⟩⟩
  ·rw [if_neg c4] at H
   have c4b0 : decide (60 < (l0.length : Int)) = false := decide_eq_false c4
   have c4b1 : decide (60 < l0.length) = false := decide_eq_false (by omega)
   clear c4
   (first | rw [c4b0] | (simp only [i64_w, i32_w]; rw [c4b0]) | skip)
   by_cases c9 : (l0.length : Int) > 17000
   ·rw [if_pos c9] at H
    have c9b0 : decide (17000 < (l0.length : Int)) = true := decide_eq_true c9
    have c9b1 : decide (17000 < l0.length) = true := decide_eq_true (by omega)
    clear c9
    have H' := Aside0.mk H
    clear H
    go_wp2
    go_meet
    case rel => exact ⟨_, (true), (by first | rfl | (simp; done) | (simp [*]; done)), H', ⟨by first | omega | exact Nat.le_refl _⟩, ⟨by repeat (first | (with_reducible first | exact HB.out | apply below_alloc | apply pw_below_drewN | apply below_drew1) | exact HB.out)⟩⟩
   ·rw [if_neg c9] at H
    have c9b0 : decide (17000 < (l0.length : Int)) = false := decide_eq_false c9
    have c9b1 : decide (17000 < l0.length) = false := decide_eq_false (by omega)
    clear c9
    by_cases c10 : (l0.length : Int) ≤ 60
    ·rw [if_pos c10] at H
     have c10b0 : decide ((l0.length : Int) ≤ 60) = true := decide_eq_true c10
     have c10b1 : decide (l0.length ≤ 60) = true := decide_eq_true (by omega)
     clear c10
     replace H := Option.bind_eq_some_iff.mp H
     obtain ⟨t241, A110, H⟩ := H
     replace H : (s19_BestOf.j0 k l0 a1 (decide (t241 > 10))) = some r := H
     have A11 := Aside0.mk A110
     clear A110
     have H' := Aside0.mk H
     clear H
     go_wp2_with (first | (go_at_call 11; (with_reducible refine (r19_Many.calls k _ _ l0 t241 _ ?side1 ?side2 A11.out).mono ?_); (case side1 => repeat (first | exact (Kd.C_below HR0.out HB.out) | (with_reducible refine Kd.C_alloc ?_ _) | (with_reducible refine Kd.C_drewN ?_ _) | (with_reducible refine Kd.C_drew ?_))); (case side2 => exact HC0.out); rintro e w' ⟨rfl, ⟨nd, rfl⟩⟩))
     go_meet
     case rel => exact ⟨_, (decide (t241 > 10)), (by first | rfl | (simp; done) | (simp [*]; done)), H', ⟨by first | omega | exact Nat.le_refl _⟩, ⟨by repeat (first | (with_reducible first | exact HB.out | apply below_alloc | apply pw_below_drewN | apply below_drew1) | exact HB.out)⟩⟩
    ·rw [if_neg c10] at H
     have c10b0 : decide ((l0.length : Int) ≤ 60) = false := decide_eq_false c10
     have c10b1 : decide (l0.length ≤ 60) = false := decide_eq_false (by omega)
     clear c10
     have H' := Aside0.mk H
     clear H
     go_wp2
     go_meet
     case rel => exact ⟨_, (false), (by first | rfl | (simp; done) | (simp [*]; done)), H', ⟨by first | omega | exact Nat.le_refl _⟩, ⟨by repeat (first | (with_reducible first | exact HB.out | apply below_alloc | apply pw_below_drewN | apply below_drew1) | exact HB.out)⟩⟩
 case rest =>
  clear HC3
  try clear c1
  try clear p2
  try clear c3
  try clear c4
  try clear c4b0
  try clear c4b1
  try clear c5
  try clear c5b0
  try clear c5b1
  try clear c6
  try clear c6b0
  try clear c6b1
  try clear c7
  try clear c7b0
  try clear c7b1
  try clear c9
  try clear c9b0
  try clear c9b1
  try clear c10
  try clear c10b0
  try clear c10b1
  obtain ⟨kq, x32_2, rfl, HA, HJ2, HB⟩ := hcut
  cases kq with
  | zero => exact absurd HA.out (by simp [s19_BestOf.j0])
  | succ kj2 =>
   have H := HA.out
   clear HA
   simp only [s19_BestOf.j0] at H
   by_cases c12 : x32_2 = true
   ·subst c12
    have H1 : ((s19_awake.f kj2).bind fun t242 => (some t242)) = some r := by rw [if_pos rfl] at H; exact H
    clear H
    have H := H1
    clear H1
    replace H := Option.bind_eq_some_iff.mp H
    obtain ⟨t242, A130, H⟩ := H
    replace H : (some t242) = some r := H
    have A13 := Aside0.mk A130
    clear A130
    obtain rfl := Option.some.inj H
    go_wp2_with (first | ((with_reducible refine gate_callee (f := 12) rfl ?_); refine goesL_ (some 33) rfl rfl Try.func12 (by kernel_rfl) rfl #[] rfl (by (try simp only [List.map_toArray, List.map_cons, List.map_nil]); first | done | rfl | (simp only [List.length_drop, List.length_take]; rfl)) ?_; (with_reducible refine (s19_awake.calls kj2  t242 _ A13.out).mono ?_); rintro e w14 ⟨rfl, hb⟩; refine ⟨_, rfl, ?_⟩; have n0_ := Aside0.mk (below_step (by repeat (first | (with_reducible first | exact HB.out | apply below_alloc | apply pw_below_drewN | apply below_drew1) | exact HB.out)) hb); clear HB; have HB := n0_; clear n0_; (try clear hb); (try clear hb2); (try clear hk); (try clear hi)))
    go_ret
    exact ⟨by first | rfl | (simp [errW_none, errW_some] <;> rfl) | (simp [*, errW_none, errW_some] <;> rfl), by repeat (first | (with_reducible first | exact HB.out | apply below_alloc | apply pw_below_drewN | apply below_drew1) | exact HB.out)⟩
   ·replace c12 := Bool.eq_false_iff.mpr c12
    subst c12
    have H1 : ((some (([] : List (S43)) : List (S43))).bind fun y243 => (if y243.length + l0.length < 3518437208883 then ((some (y243 ++ l0 : List (S43))).bind fun y246 => ((best_Of.f y246 a1).bind fun bt249 => ((r19_Of.f l0 a1).bind fun bt253 => ((s19_same.f kj2 bt249.1 bt253.1).bind fun t257 => (if t257 = true then (if bt249.2 = bt253.2 then ((best_Check.f y246 a1).bind fun t258 => ((r19_Check.f kj2 l0 a1).bind fun t259 => (if t258 = t259 then ((s19_kept.f kj2 y246 l0).bind fun t260 => (if t260 = true then ((s19_awake.f kj2).bind fun t261 => (some t261)) else (some false))) else (some false)))) else (some false)) else (some false)))))) else (none))) = some r := by rw [if_neg (show ¬ (false = true) by decide)] at H; exact H
    clear H
    have H := H1
    clear H1
    obtain ⟨y243, hy243⟩ : ∃ y_ : List (S43), y_ = (([] : List (S43))) := ⟨_, rfl⟩
    replace H : (if y243.length + l0.length < 3518437208883 then ((some (y243 ++ l0 : List (S43))).bind fun y246 => ((best_Of.f y246 a1).bind fun bt249 => ((r19_Of.f l0 a1).bind fun bt253 => ((s19_same.f kj2 bt249.1 bt253.1).bind fun t257 => (if t257 = true then (if bt249.2 = bt253.2 then ((best_Check.f y246 a1).bind fun t258 => ((r19_Check.f kj2 l0 a1).bind fun t259 => (if t258 = t259 then ((s19_kept.f kj2 y246 l0).bind fun t260 => (if t260 = true then ((s19_awake.f kj2).bind fun t261 => (some t261)) else (some false))) else (some false)))) else (some false)) else (some false)))))) else (none)) = some r := by first | (rw [hy243]; with_reducible exact H) | (have H2_ := (Option.bind_some _ _).symm.trans H; rw [hy243]; with_reducible exact H2_) | (have H2_ := (Option.bind_some _ _).symm.trans H; with_reducible exact H2_) | with_reducible exact H | (rw [hy243]; exact H) | exact H
    have Ny243 := Aside0.mk hy243
    clear hy243
    by_cases c15 : y243.length + l0.length < 3518437208883
    ·rw [if_pos c15] at H
     have LMc15 := Aside0.mk c15
     clear c15
     obtain ⟨y246, hy246⟩ : ∃ y_ : List (S43), y_ = (y243 ++ l0) := ⟨_, rfl⟩
     replace H : ((best_Of.f y246 a1).bind fun bt249 => ((r19_Of.f l0 a1).bind fun bt253 => ((s19_same.f kj2 bt249.1 bt253.1).bind fun t257 => (if t257 = true then (if bt249.2 = bt253.2 then ((best_Check.f y246 a1).bind fun t258 => ((r19_Check.f kj2 l0 a1).bind fun t259 => (if t258 = t259 then ((s19_kept.f kj2 y246 l0).bind fun t260 => (if t260 = true then ((s19_awake.f kj2).bind fun t261 => (some t261)) else (some false))) else (some false)))) else (some false)) else (some false))))) = some r := by first | (rw [hy246]; with_reducible exact H) | (have H2_ := (Option.bind_some _ _).symm.trans H; rw [hy246]; with_reducible exact H2_) | (have H2_ := (Option.bind_some _ _).symm.trans H; with_reducible exact H2_) | with_reducible exact H | (rw [hy246]; exact H) | exact H
     have Ny246 := Aside0.mk hy246
     clear hy246
     replace H := Option.bind_eq_some_iff.mp H
     obtain ⟨⟨t249, t250⟩, A160, H⟩ := H
     replace H : ((r19_Of.f l0 a1).bind fun bt253 => ((s19_same.f kj2 t249 bt253.1).bind fun t257 => (if t257 = true then (if t250 = bt253.2 then ((best_Check.f y246 a1).bind fun t258 => ((r19_Check.f kj2 l0 a1).bind fun t259 => (if t258 = t259 then ((s19_kept.f kj2 y246 l0).bind fun t260 => (if t260 = true then ((s19_awake.f kj2).bind fun t261 => (some t261)) else (some false))) else (some false)))) else (some false)) else (some false)))) = some r := H
     have A16 := Aside0.mk A160
     clear A160
     replace H := Option.bind_eq_some_iff.mp H
     obtain ⟨⟨t253, t254⟩, A170, H⟩ := H
     replace H : ((s19_same.f kj2 t249 t253).bind fun t257 => (if t257 = true then (if t250 = t254 then ((best_Check.f y246 a1).bind fun t258 => ((r19_Check.f kj2 l0 a1).bind fun t259 => (if t258 = t259 then ((s19_kept.f kj2 y246 l0).bind fun t260 => (if t260 = true then ((s19_awake.f kj2).bind fun t261 => (some t261)) else (some false))) else (some false)))) else (some false)) else (some false))) = some r := H
     have A17 := Aside0.mk A170
     clear A170
     replace H := Option.bind_eq_some_iff.mp H
     obtain ⟨t257, A180, H⟩ := H
     replace H : (if t257 = true then (if t250 = t254 then ((best_Check.f y246 a1).bind fun t258 => ((r19_Check.f kj2 l0 a1).bind fun t259 => (if t258 = t259 then ((s19_kept.f kj2 y246 l0).bind fun t260 => (if t260 = true then ((s19_awake.f kj2).bind fun t261 => (some t261)) else (some false))) else (some false)))) else (some false)) else (some false)) = some r := H
     have A18 := Aside0.mk A180
     clear A180
     by_cases c19 : t257 = true
     ·subst c19
      have H1 : (if t250 = t254 then ((best_Check.f y246 a1).bind fun t258 => ((r19_Check.f kj2 l0 a1).bind fun t259 => (if t258 = t259 then ((s19_kept.f kj2 y246 l0).bind fun t260 => (if t260 = true then ((s19_awake.f kj2).bind fun t261 => (some t261)) else (some false))) else (some false)))) else (some false)) = some r := by rw [if_pos rfl] at H; exact H
      clear H
      have H := H1
      clear H1
      by_cases c20 : t250 = t254
      ·rw [if_pos c20] at H
       have c20b0 : (t250 == t254) = true := beq_iff_eq.mpr c20
       have c20b1 : (t250 != t254) = false := bne_eq_false_iff_eq.mpr c20
       clear c20
       replace H := Option.bind_eq_some_iff.mp H
       obtain ⟨t258, A210, H⟩ := H
       replace H : ((r19_Check.f kj2 l0 a1).bind fun t259 => (if t258 = t259 then ((s19_kept.f kj2 y246 l0).bind fun t260 => (if t260 = true then ((s19_awake.f kj2).bind fun t261 => (some t261)) else (some false))) else (some false))) = some r := H
       have A21 := Aside0.mk A210
       clear A210
       replace H := Option.bind_eq_some_iff.mp H
       obtain ⟨t259, A220, H⟩ := H
       replace H : (if t258 = t259 then ((s19_kept.f kj2 y246 l0).bind fun t260 => (if t260 = true then ((s19_awake.f kj2).bind fun t261 => (some t261)) else (some false))) else (some false)) = some r := H
       have A22 := Aside0.mk A220
       clear A220
       by_cases c23 : t258 = t259
       ·rw [if_pos c23] at H
        have c23b0 : (t258 == t259) = true := beq_iff_eq.mpr c23
        have c23b1 : (t258 != t259) = false := bne_eq_false_iff_eq.mpr c23
        clear c23
        replace H := Option.bind_eq_some_iff.mp H
        obtain ⟨t260, A240, H⟩ := H
        replace H : (if t260 = true then ((s19_awake.f kj2).bind fun t261 => (some t261)) else (some false)) = some r := H
        have A24 := Aside0.mk A240
        clear A240
        by_cases c25 : t260 = true
        ·subst c25
         have H1 : ((s19_awake.f kj2).bind fun t261 => (some t261)) = some r := by rw [if_pos rfl] at H; exact H
         clear H
         have H := H1
         clear H1
         replace H := Option.bind_eq_some_iff.mp H
         obtain ⟨t261, A260, H⟩ := H
         replace H : (some t261) = some r := H
         have A26 := Aside0.mk A260
         clear A260
         obtain rfl := Option.some.inj H
         go_wp2_with (first | ((with_reducible refine gate_dst (N := 34) rfl ?_); (try (refine gate_guard (by rfl) ?_; dsimp only)); refine Kd.R_lit k43 _ 43 ?hg (N := 34) ?hd (xs := ([] : List (S43))) (inner := []) (ok := fun _ => True) (okp := fun _ => True) ?hr ?hp (fun _ hk => hk) trivial (Below.refl _ _) (Nat.le_refl _) (by simp) ?_; (case hd => rfl); (case hg => rfl); (case hr => first | (go_simp; done) | (go_simp; rfl)); (case hp => exact (Reps.none _ _)); intro v244 w27 ho28 hb hg_ hnew_; clear hg_ hnew_; (first | rw [← Ny243.out] at ho28 | (simp only [Int.reduceToNat] at ho28; rw [← Ny243.out] at ho28)); have n0_ := Aside0.mk (Kd.R_lower ho28 (below_size (by repeat (first | (with_reducible first | exact HB.out | apply below_alloc | apply pw_below_drewN | apply below_drew1) | exact HB.out)))); have n1_ := Aside0.mk (below_step (by repeat (first | (with_reducible first | exact HB.out | apply below_alloc | apply pw_below_drewN | apply below_drew1) | exact HB.out)) hb); clear HB; have HO245 := n0_; have HB := n1_; clear n0_ n1_; clear hb ho28) | ((with_reducible refine gate_builtin (b := .append) (xs := #[.tmp 34, .tmp 35]) rfl ?_); (try (refine gate_guard (by rfl) ?_; dsimp only)); at_builtin; refine Kd.R_append_rows k43 (w0 := w) w.heap.size rfl (.tmp 34) (.tmp 35) 22 43 (.agg #[(.int .i64 0), (.int .i64 0), (.int .i64 0), (.int .i64 0), (.int .i64 0)]) 40 rfl Try.underlying22 info43 rfl (by decide) (by omega) v244 y243 l0 _ _ _ (fun _ => True) (fun _ => False) rfl rfl ?aO ?aR (fun _ _ h => h) (fun _ h => h.elim) ?aF ?aB ?aS ?aL ?_; (case aR => repeat (first | exact (Kd.C_below HR0.out HB.out) | (with_reducible refine Kd.C_alloc ?_ _) | (with_reducible refine Kd.C_drewN ?_ _) | (with_reducible refine Kd.C_drew ?_))); (case aB => exact (by repeat (first | (with_reducible first | exact HB.out | apply below_alloc | apply pw_below_drewN | apply below_drew1) | exact HB.out))); (case aF => exact (fun _ _ => trivial)); (case aO => exact (by (with_reducible repeat (first | apply Kd.R_alloc | apply Kd.R_drewN | apply Kd.R_drew)); exact HO245.out)); (case aS => exact (below_size (by repeat (first | (with_reducible first | exact HB.out | apply below_alloc | apply pw_below_drewN | apply below_drew1) | exact HB.out)))); (case aL => have := LMc15.out; omega); intro v247 w29 ho hb hg hat; rw [← Ny246.out] at ho; have n0_ := Aside0.mk (hb); have n1_ := Aside0.mk (ho); clear HB; clear HO245; have HB := n0_; have HO248 := n1_; clear n0_ n1_; clear ho hb hg hat; obtain ⟨Ao30, co30, eo30⟩ := Kd.R_slice HO248.out; subst eo30) | ((with_reducible refine gate_callee (f := 13) rfl ?_); refine goesL_ (some 40) rfl rfl Try.func13 (by kernel_rfl) rfl #[.slice Ao30 y246.length co30, .int .i64 a1] rfl (by (try simp only [List.map_toArray, List.map_cons, List.map_nil]); first | done | rfl | (simp only [List.length_drop, List.length_take]; rfl)) ?_; (with_reducible refine (best_Of.calls _ _ y246 a1 t249 t250 _ ?side1 ?side2 A16.out).mono ?_); (case side1 => repeat (first | exact (Kd.R_reads' HO248.out).2.2 | (with_reducible refine Kd.C_alloc ?_ _) | (with_reducible refine Kd.C_drewN ?_ _) | (with_reducible refine Kd.C_drew ?_))); (case side2 => exact (Kd.R_reads' HO248.out).2.1); rintro e w31 ⟨v251, rfl, ho0, hb⟩; refine ⟨_, rfl, ?_⟩; have n0_ := Aside0.mk (Kd.R_below (by (with_reducible repeat (first | apply Kd.R_alloc | apply Kd.R_drewN | apply Kd.R_drew)); exact HO248.out) hb); have n1_ := Aside0.mk (Kd.R_lower ho0 (below_size (by repeat (first | (with_reducible first | exact HB.out | apply below_alloc | apply pw_below_drewN | apply below_drew1) | exact HB.out)))); have n2_ := Aside0.mk (below_step (by repeat (first | (with_reducible first | exact HB.out | apply below_alloc | apply pw_below_drewN | apply below_drew1) | exact HB.out)) hb); clear HO248; clear HB; have HO248 := n0_; have HO252 := n1_; have HB := n2_; clear n0_ n1_ n2_; (try clear hb); (try clear hb2); (try clear hk); (try clear hi); (try clear ho0)) | ((with_reducible refine gate_callee (f := 14) rfl ?_); refine goesL_ (some 46) rfl rfl Try.func14 (by kernel_rfl) rfl #[.slice A0 l0.length c0, .int .i64 a1] rfl (by (try simp only [List.map_toArray, List.map_cons, List.map_nil]); first | done | rfl | (simp only [List.length_drop, List.length_take]; rfl)) ?_; (with_reducible refine (r19_Of.calls _ _ l0 a1 t253 t254 _ ?side1 ?side2 A17.out).mono ?_); (case side1 => repeat (first | exact (Kd.C_below HR0.out HB.out) | (with_reducible refine Kd.C_alloc ?_ _) | (with_reducible refine Kd.C_drewN ?_ _) | (with_reducible refine Kd.C_drew ?_))); (case side2 => exact HC0.out); rintro e w32 ⟨v255, rfl, ho0, hb⟩; refine ⟨_, rfl, ?_⟩; have n0_ := Aside0.mk (Kd.R_below (by (with_reducible repeat (first | apply Kd.R_alloc | apply Kd.R_drewN | apply Kd.R_drew)); exact HO248.out) hb); have n1_ := Aside0.mk (Kd.R_elder' (by (with_reducible repeat (first | apply Kd.R_alloc | apply Kd.R_drewN | apply Kd.R_drew)); exact HO252.out) (Kd.R_base ho0) hb); have n2_ := Aside0.mk (Kd.R_lower (Kd.R_new' ho0 (Kd.R_lt (by (with_reducible repeat (first | apply Kd.R_alloc | apply Kd.R_drewN | apply Kd.R_drew)); exact HO252.out))) (below_size (by repeat (first | (with_reducible first | exact HB.out | apply below_alloc | apply pw_below_drewN | apply below_drew1) | exact HB.out)))); have n3_ := Aside0.mk (below_step (by repeat (first | (with_reducible first | exact HB.out | apply below_alloc | apply pw_below_drewN | apply below_drew1) | exact HB.out)) hb); clear HO248; clear HO252; clear HB; have HO248 := n0_; have HO252 := n1_; have HO256 := n2_; have HB := n3_; clear n0_ n1_ n2_ n3_; (try clear hb); (try clear hb2); (try clear hk); (try clear hi); (try clear ho0); obtain ⟨Ao33, co33, eo33⟩ := Kd.R_slice HO252.out; subst eo33; obtain ⟨Ao34, co34, eo34⟩ := Kd.R_slice HO256.out; subst eo34) | ((with_reducible refine gate_callee (f := 15) rfl ?_); refine goesL_ (some 51) rfl rfl Try.func15 (by kernel_rfl) rfl #[.slice Ao33 t249.length co33, .slice Ao34 t253.length co34] rfl (by (try simp only [List.map_toArray, List.map_cons, List.map_nil]); first | done | rfl | (simp only [List.length_drop, List.length_take]; rfl)) ?_; (with_reducible refine (s19_same.calls kj2 _ _ t249 _ _ t253 true _ ?side1 ?side2 ?side3 ?side4 A18.out).mono ?_); (case side1 => repeat (first | exact (Kd.R_reads' HO252.out).2.2 | (with_reducible refine Kd.C_alloc ?_ _) | (with_reducible refine Kd.C_drewN ?_ _) | (with_reducible refine Kd.C_drew ?_))); (case side2 => exact (Kd.R_reads' HO252.out).2.1); (case side3 => repeat (first | exact (Kd.R_reads' HO256.out).2.2 | (with_reducible refine Kd.C_alloc ?_ _) | (with_reducible refine Kd.C_drewN ?_ _) | (with_reducible refine Kd.C_drew ?_))); (case side4 => exact (Kd.R_reads' HO256.out).2.1); rintro e w' ⟨rfl, ⟨nd, rfl⟩⟩; refine ⟨_, rfl, ?_⟩) | (go_at_call 16; (with_reducible refine (best_Check.calls _ _ y246 a1 t258 _ ?side1 ?side2 A21.out).mono ?_); (case side1 => repeat (first | exact (Kd.R_reads' HO248.out).2.2 | (with_reducible refine Kd.C_alloc ?_ _) | (with_reducible refine Kd.C_drewN ?_ _) | (with_reducible refine Kd.C_drew ?_))); (case side2 => exact (Kd.R_reads' HO248.out).2.1); rintro e w35 ⟨rfl, hb⟩; have n0_ := Aside0.mk (Kd.R_below (by (with_reducible repeat (first | apply Kd.R_alloc | apply Kd.R_drewN | apply Kd.R_drew)); exact HO248.out) hb); have n1_ := Aside0.mk (Kd.R_below (by (with_reducible repeat (first | apply Kd.R_alloc | apply Kd.R_drewN | apply Kd.R_drew)); exact HO252.out) hb); have n2_ := Aside0.mk (Kd.R_below (by (with_reducible repeat (first | apply Kd.R_alloc | apply Kd.R_drewN | apply Kd.R_drew)); exact HO256.out) hb); have n3_ := Aside0.mk (below_step (by repeat (first | (with_reducible first | exact HB.out | apply below_alloc | apply pw_below_drewN | apply below_drew1) | exact HB.out)) hb); clear HO248; clear HO252; clear HO256; clear HB; have HO248 := n0_; have HO252 := n1_; have HO256 := n2_; have HB := n3_; clear n0_ n1_ n2_ n3_; (try clear hb); (try clear hb2); (try clear hk); (try clear hi)) | (go_at_call 17; (with_reducible refine (r19_Check.calls kj2 _ _ l0 a1 t259 _ ?side1 ?side2 A22.out).mono ?_); (case side1 => repeat (first | exact (Kd.C_below HR0.out HB.out) | (with_reducible refine Kd.C_alloc ?_ _) | (with_reducible refine Kd.C_drewN ?_ _) | (with_reducible refine Kd.C_drew ?_))); (case side2 => exact HC0.out); rintro e w36 ⟨rfl, hb⟩; have n0_ := Aside0.mk (Kd.R_below (by (with_reducible repeat (first | apply Kd.R_alloc | apply Kd.R_drewN | apply Kd.R_drew)); exact HO248.out) hb); have n1_ := Aside0.mk (Kd.R_below (by (with_reducible repeat (first | apply Kd.R_alloc | apply Kd.R_drewN | apply Kd.R_drew)); exact HO252.out) hb); have n2_ := Aside0.mk (Kd.R_below (by (with_reducible repeat (first | apply Kd.R_alloc | apply Kd.R_drewN | apply Kd.R_drew)); exact HO256.out) hb); have n3_ := Aside0.mk (below_step (by repeat (first | (with_reducible first | exact HB.out | apply below_alloc | apply pw_below_drewN | apply below_drew1) | exact HB.out)) hb); clear HO248; clear HO252; clear HO256; clear HB; have HO248 := n0_; have HO252 := n1_; have HO256 := n2_; have HB := n3_; clear n0_ n1_ n2_ n3_; (try clear hb); (try clear hb2); (try clear hk); (try clear hi)) | (go_at_call 18; (with_reducible refine (s19_kept.calls kj2 _ _ y246 _ _ l0 true _ ?side1 ?side2 ?side3 ?side4 A24.out).mono ?_); (case side1 => repeat (first | exact (Kd.R_reads' HO248.out).2.2 | (with_reducible refine Kd.C_alloc ?_ _) | (with_reducible refine Kd.C_drewN ?_ _) | (with_reducible refine Kd.C_drew ?_))); (case side2 => exact (Kd.R_reads' HO248.out).2.1); (case side3 => repeat (first | exact (Kd.C_below HR0.out HB.out) | (with_reducible refine Kd.C_alloc ?_ _) | (with_reducible refine Kd.C_drewN ?_ _) | (with_reducible refine Kd.C_drew ?_))); (case side4 => exact HC0.out); rintro e w' ⟨rfl, ⟨nd, rfl⟩⟩) | (go_at_call 12; (with_reducible refine (s19_awake.calls kj2  t261 _ A26.out).mono ?_); rintro e w37 ⟨rfl, hb⟩; have n0_ := Aside0.mk (Kd.R_below (by (with_reducible repeat (first | apply Kd.R_alloc | apply Kd.R_drewN | apply Kd.R_drew)); exact HO248.out) hb); have n1_ := Aside0.mk (Kd.R_below (by (with_reducible repeat (first | apply Kd.R_alloc | apply Kd.R_drewN | apply Kd.R_drew)); exact HO252.out) hb); have n2_ := Aside0.mk (Kd.R_below (by (with_reducible repeat (first | apply Kd.R_alloc | apply Kd.R_drewN | apply Kd.R_drew)); exact HO256.out) hb); have n3_ := Aside0.mk (below_step (by repeat (first | (with_reducible first | exact HB.out | apply below_alloc | apply pw_below_drewN | apply below_drew1) | exact HB.out)) hb); clear HO248; clear HO252; clear HO256; clear HB; have HO248 := n0_; have HO252 := n1_; have HO256 := n2_; have HB := n3_; clear n0_ n1_ n2_ n3_; (try clear hb); (try clear hb2); (try clear hk); (try clear hi)))
         go_ret
         exact ⟨by first | rfl | (simp [errW_none, errW_some] <;> rfl) | (simp [*, errW_none, errW_some] <;> rfl), by repeat (first | (with_reducible first | exact HB.out | apply below_alloc | apply pw_below_drewN | apply below_drew1) | exact HB.out)⟩
        ·replace c25 := Bool.eq_false_iff.mpr c25
         subst c25
         have H1 : (some false) = some r := by rw [if_neg (show ¬ (false = true) by decide)] at H; exact H
         clear H
         have H := H1
         clear H1
         obtain rfl := Option.some.inj H
         go_wp2_with (first | ((with_reducible refine gate_dst (N := 34) rfl ?_); (try (refine gate_guard (by rfl) ?_; dsimp only)); refine Kd.R_lit k43 _ 43 ?hg (N := 34) ?hd (xs := ([] : List (S43))) (inner := []) (ok := fun _ => True) (okp := fun _ => True) ?hr ?hp (fun _ hk => hk) trivial (Below.refl _ _) (Nat.le_refl _) (by simp) ?_; (case hd => rfl); (case hg => rfl); (case hr => first | (go_simp; done) | (go_simp; rfl)); (case hp => exact (Reps.none _ _)); intro v244 w38 ho39 hb hg_ hnew_; clear hg_ hnew_; (first | rw [← Ny243.out] at ho39 | (simp only [Int.reduceToNat] at ho39; rw [← Ny243.out] at ho39)); have n0_ := Aside0.mk (Kd.R_lower ho39 (below_size (by repeat (first | (with_reducible first | exact HB.out | apply below_alloc | apply pw_below_drewN | apply below_drew1) | exact HB.out)))); have n1_ := Aside0.mk (below_step (by repeat (first | (with_reducible first | exact HB.out | apply below_alloc | apply pw_below_drewN | apply below_drew1) | exact HB.out)) hb); clear HB; have HO245 := n0_; have HB := n1_; clear n0_ n1_; clear hb ho39) | ((with_reducible refine gate_builtin (b := .append) (xs := #[.tmp 34, .tmp 35]) rfl ?_); (try (refine gate_guard (by rfl) ?_; dsimp only)); at_builtin; refine Kd.R_append_rows k43 (w0 := w) w.heap.size rfl (.tmp 34) (.tmp 35) 22 43 (.agg #[(.int .i64 0), (.int .i64 0), (.int .i64 0), (.int .i64 0), (.int .i64 0)]) 40 rfl Try.underlying22 info43 rfl (by decide) (by omega) v244 y243 l0 _ _ _ (fun _ => True) (fun _ => False) rfl rfl ?aO ?aR (fun _ _ h => h) (fun _ h => h.elim) ?aF ?aB ?aS ?aL ?_; (case aR => repeat (first | exact (Kd.C_below HR0.out HB.out) | (with_reducible refine Kd.C_alloc ?_ _) | (with_reducible refine Kd.C_drewN ?_ _) | (with_reducible refine Kd.C_drew ?_))); (case aB => exact (by repeat (first | (with_reducible first | exact HB.out | apply below_alloc | apply pw_below_drewN | apply below_drew1) | exact HB.out))); (case aF => exact (fun _ _ => trivial)); (case aO => exact (by (with_reducible repeat (first | apply Kd.R_alloc | apply Kd.R_drewN | apply Kd.R_drew)); exact HO245.out)); (case aS => exact (below_size (by repeat (first | (with_reducible first | exact HB.out | apply below_alloc | apply pw_below_drewN | apply below_drew1) | exact HB.out)))); (case aL => have := LMc15.out; omega); intro v247 w40 ho hb hg hat; rw [← Ny246.out] at ho; have n0_ := Aside0.mk (hb); have n1_ := Aside0.mk (ho); clear HB; clear HO245; have HB := n0_; have HO248 := n1_; clear n0_ n1_; clear ho hb hg hat; obtain ⟨Ao41, co41, eo41⟩ := Kd.R_slice HO248.out; subst eo41) | ((with_reducible refine gate_callee (f := 13) rfl ?_); refine goesL_ (some 40) rfl rfl Try.func13 (by kernel_rfl) rfl #[.slice Ao41 y246.length co41, .int .i64 a1] rfl (by (try simp only [List.map_toArray, List.map_cons, List.map_nil]); first | done | rfl | (simp only [List.length_drop, List.length_take]; rfl)) ?_; (with_reducible refine (best_Of.calls _ _ y246 a1 t249 t250 _ ?side1 ?side2 A16.out).mono ?_); (case side1 => repeat (first | exact (Kd.R_reads' HO248.out).2.2 | (with_reducible refine Kd.C_alloc ?_ _) | (with_reducible refine Kd.C_drewN ?_ _) | (with_reducible refine Kd.C_drew ?_))); (case side2 => exact (Kd.R_reads' HO248.out).2.1); rintro e w42 ⟨v251, rfl, ho0, hb⟩; refine ⟨_, rfl, ?_⟩; have n0_ := Aside0.mk (Kd.R_below (by (with_reducible repeat (first | apply Kd.R_alloc | apply Kd.R_drewN | apply Kd.R_drew)); exact HO248.out) hb); have n1_ := Aside0.mk (Kd.R_lower ho0 (below_size (by repeat (first | (with_reducible first | exact HB.out | apply below_alloc | apply pw_below_drewN | apply below_drew1) | exact HB.out)))); have n2_ := Aside0.mk (below_step (by repeat (first | (with_reducible first | exact HB.out | apply below_alloc | apply pw_below_drewN | apply below_drew1) | exact HB.out)) hb); clear HO248; clear HB; have HO248 := n0_; have HO252 := n1_; have HB := n2_; clear n0_ n1_ n2_; (try clear hb); (try clear hb2); (try clear hk); (try clear hi); (try clear ho0)) | ((with_reducible refine gate_callee (f := 14) rfl ?_); refine goesL_ (some 46) rfl rfl Try.func14 (by kernel_rfl) rfl #[.slice A0 l0.length c0, .int .i64 a1] rfl (by (try simp only [List.map_toArray, List.map_cons, List.map_nil]); first | done | rfl | (simp only [List.length_drop, List.length_take]; rfl)) ?_; (with_reducible refine (r19_Of.calls _ _ l0 a1 t253 t254 _ ?side1 ?side2 A17.out).mono ?_); (case side1 => repeat (first | exact (Kd.C_below HR0.out HB.out) | (with_reducible refine Kd.C_alloc ?_ _) | (with_reducible refine Kd.C_drewN ?_ _) | (with_reducible refine Kd.C_drew ?_))); (case side2 => exact HC0.out); rintro e w43 ⟨v255, rfl, ho0, hb⟩; refine ⟨_, rfl, ?_⟩; have n0_ := Aside0.mk (Kd.R_below (by (with_reducible repeat (first | apply Kd.R_alloc | apply Kd.R_drewN | apply Kd.R_drew)); exact HO248.out) hb); have n1_ := Aside0.mk (Kd.R_elder' (by (with_reducible repeat (first | apply Kd.R_alloc | apply Kd.R_drewN | apply Kd.R_drew)); exact HO252.out) (Kd.R_base ho0) hb); have n2_ := Aside0.mk (Kd.R_lower (Kd.R_new' ho0 (Kd.R_lt (by (with_reducible repeat (first | apply Kd.R_alloc | apply Kd.R_drewN | apply Kd.R_drew)); exact HO252.out))) (below_size (by repeat (first | (with_reducible first | exact HB.out | apply below_alloc | apply pw_below_drewN | apply below_drew1) | exact HB.out)))); have n3_ := Aside0.mk (below_step (by repeat (first | (with_reducible first | exact HB.out | apply below_alloc | apply pw_below_drewN | apply below_drew1) | exact HB.out)) hb); clear HO248; clear HO252; clear HB; have HO248 := n0_; have HO252 := n1_; have HO256 := n2_; have HB := n3_; clear n0_ n1_ n2_ n3_; (try clear hb); (try clear hb2); (try clear hk); (try clear hi); (try clear ho0); obtain ⟨Ao44, co44, eo44⟩ := Kd.R_slice HO252.out; subst eo44; obtain ⟨Ao45, co45, eo45⟩ := Kd.R_slice HO256.out; subst eo45) | ((with_reducible refine gate_callee (f := 15) rfl ?_); refine goesL_ (some 51) rfl rfl Try.func15 (by kernel_rfl) rfl #[.slice Ao44 t249.length co44, .slice Ao45 t253.length co45] rfl (by (try simp only [List.map_toArray, List.map_cons, List.map_nil]); first | done | rfl | (simp only [List.length_drop, List.length_take]; rfl)) ?_; (with_reducible refine (s19_same.calls kj2 _ _ t249 _ _ t253 true _ ?side1 ?side2 ?side3 ?side4 A18.out).mono ?_); (case side1 => repeat (first | exact (Kd.R_reads' HO252.out).2.2 | (with_reducible refine Kd.C_alloc ?_ _) | (with_reducible refine Kd.C_drewN ?_ _) | (with_reducible refine Kd.C_drew ?_))); (case side2 => exact (Kd.R_reads' HO252.out).2.1); (case side3 => repeat (first | exact (Kd.R_reads' HO256.out).2.2 | (with_reducible refine Kd.C_alloc ?_ _) | (with_reducible refine Kd.C_drewN ?_ _) | (with_reducible refine Kd.C_drew ?_))); (case side4 => exact (Kd.R_reads' HO256.out).2.1); rintro e w' ⟨rfl, ⟨nd, rfl⟩⟩; refine ⟨_, rfl, ?_⟩) | (go_at_call 16; (with_reducible refine (best_Check.calls _ _ y246 a1 t258 _ ?side1 ?side2 A21.out).mono ?_); (case side1 => repeat (first | exact (Kd.R_reads' HO248.out).2.2 | (with_reducible refine Kd.C_alloc ?_ _) | (with_reducible refine Kd.C_drewN ?_ _) | (with_reducible refine Kd.C_drew ?_))); (case side2 => exact (Kd.R_reads' HO248.out).2.1); rintro e w46 ⟨rfl, hb⟩; have n0_ := Aside0.mk (Kd.R_below (by (with_reducible repeat (first | apply Kd.R_alloc | apply Kd.R_drewN | apply Kd.R_drew)); exact HO248.out) hb); have n1_ := Aside0.mk (Kd.R_below (by (with_reducible repeat (first | apply Kd.R_alloc | apply Kd.R_drewN | apply Kd.R_drew)); exact HO252.out) hb); have n2_ := Aside0.mk (Kd.R_below (by (with_reducible repeat (first | apply Kd.R_alloc | apply Kd.R_drewN | apply Kd.R_drew)); exact HO256.out) hb); have n3_ := Aside0.mk (below_step (by repeat (first | (with_reducible first | exact HB.out | apply below_alloc | apply pw_below_drewN | apply below_drew1) | exact HB.out)) hb); clear HO248; clear HO252; clear HO256; clear HB; have HO248 := n0_; have HO252 := n1_; have HO256 := n2_; have HB := n3_; clear n0_ n1_ n2_ n3_; (try clear hb); (try clear hb2); (try clear hk); (try clear hi)) | (go_at_call 17; (with_reducible refine (r19_Check.calls kj2 _ _ l0 a1 t259 _ ?side1 ?side2 A22.out).mono ?_); (case side1 => repeat (first | exact (Kd.C_below HR0.out HB.out) | (with_reducible refine Kd.C_alloc ?_ _) | (with_reducible refine Kd.C_drewN ?_ _) | (with_reducible refine Kd.C_drew ?_))); (case side2 => exact HC0.out); rintro e w47 ⟨rfl, hb⟩; have n0_ := Aside0.mk (Kd.R_below (by (with_reducible repeat (first | apply Kd.R_alloc | apply Kd.R_drewN | apply Kd.R_drew)); exact HO248.out) hb); have n1_ := Aside0.mk (Kd.R_below (by (with_reducible repeat (first | apply Kd.R_alloc | apply Kd.R_drewN | apply Kd.R_drew)); exact HO252.out) hb); have n2_ := Aside0.mk (Kd.R_below (by (with_reducible repeat (first | apply Kd.R_alloc | apply Kd.R_drewN | apply Kd.R_drew)); exact HO256.out) hb); have n3_ := Aside0.mk (below_step (by repeat (first | (with_reducible first | exact HB.out | apply below_alloc | apply pw_below_drewN | apply below_drew1) | exact HB.out)) hb); clear HO248; clear HO252; clear HO256; clear HB; have HO248 := n0_; have HO252 := n1_; have HO256 := n2_; have HB := n3_; clear n0_ n1_ n2_ n3_; (try clear hb); (try clear hb2); (try clear hk); (try clear hi)) | (go_at_call 18; (with_reducible refine (s19_kept.calls kj2 _ _ y246 _ _ l0 false _ ?side1 ?side2 ?side3 ?side4 A24.out).mono ?_); (case side1 => repeat (first | exact (Kd.R_reads' HO248.out).2.2 | (with_reducible refine Kd.C_alloc ?_ _) | (with_reducible refine Kd.C_drewN ?_ _) | (with_reducible refine Kd.C_drew ?_))); (case side2 => exact (Kd.R_reads' HO248.out).2.1); (case side3 => repeat (first | exact (Kd.C_below HR0.out HB.out) | (with_reducible refine Kd.C_alloc ?_ _) | (with_reducible refine Kd.C_drewN ?_ _) | (with_reducible refine Kd.C_drew ?_))); (case side4 => exact HC0.out); rintro e w' ⟨rfl, ⟨nd, rfl⟩⟩))
         go_ret
         exact ⟨by first | rfl | (simp [errW_none, errW_some] <;> rfl) | (simp [*, errW_none, errW_some] <;> rfl), by repeat (first | (with_reducible first | exact HB.out | apply below_alloc | apply pw_below_drewN | apply below_drew1) | exact HB.out)⟩
       ·rw [if_neg c23] at H
        have c23b0 : (t258 == t259) = false := beq_eq_false_iff_ne.mpr c23
        have c23b1 : (t258 != t259) = true := bne_iff_ne.mpr c23
        obtain rfl := Option.some.inj H
        go_wp2_with (first | ((with_reducible refine gate_dst (N := 34) rfl ?_); (try (refine gate_guard (by rfl) ?_; dsimp only)); refine Kd.R_lit k43 _ 43 ?hg (N := 34) ?hd (xs := ([] : List (S43))) (inner := []) (ok := fun _ => True) (okp := fun _ => True) ?hr ?hp (fun _ hk => hk) trivial (Below.refl _ _) (Nat.le_refl _) (by simp) ?_; (case hd => rfl); (case hg => rfl); (case hr => first | (go_simp; done) | (go_simp; rfl)); (case hp => exact (Reps.none _ _)); intro v244 w48 ho49 hb hg_ hnew_; clear hg_ hnew_; (first | rw [← Ny243.out] at ho49 | (simp only [Int.reduceToNat] at ho49; rw [← Ny243.out] at ho49)); have n0_ := Aside0.mk (Kd.R_lower ho49 (below_size (by repeat (first | (with_reducible first | exact HB.out | apply below_alloc | apply pw_below_drewN | apply below_drew1) | exact HB.out)))); have n1_ := Aside0.mk (below_step (by repeat (first | (with_reducible first | exact HB.out | apply below_alloc | apply pw_below_drewN | apply below_drew1) | exact HB.out)) hb); clear HB; have HO245 := n0_; have HB := n1_; clear n0_ n1_; clear hb ho49) | ((with_reducible refine gate_builtin (b := .append) (xs := #[.tmp 34, .tmp 35]) rfl ?_); (try (refine gate_guard (by rfl) ?_; dsimp only)); at_builtin; refine Kd.R_append_rows k43 (w0 := w) w.heap.size rfl (.tmp 34) (.tmp 35) 22 43 (.agg #[(.int .i64 0), (.int .i64 0), (.int .i64 0), (.int .i64 0), (.int .i64 0)]) 40 rfl Try.underlying22 info43 rfl (by decide) (by omega) v244 y243 l0 _ _ _ (fun _ => True) (fun _ => False) rfl rfl ?aO ?aR (fun _ _ h => h) (fun _ h => h.elim) ?aF ?aB ?aS ?aL ?_; (case aR => repeat (first | exact (Kd.C_below HR0.out HB.out) | (with_reducible refine Kd.C_alloc ?_ _) | (with_reducible refine Kd.C_drewN ?_ _) | (with_reducible refine Kd.C_drew ?_))); (case aB => exact (by repeat (first | (with_reducible first | exact HB.out | apply below_alloc | apply pw_below_drewN | apply below_drew1) | exact HB.out))); (case aF => exact (fun _ _ => trivial)); (case aO => exact (by (with_reducible repeat (first | apply Kd.R_alloc | apply Kd.R_drewN | apply Kd.R_drew)); exact HO245.out)); (case aS => exact (below_size (by repeat (first | (with_reducible first | exact HB.out | apply below_alloc | apply pw_below_drewN | apply below_drew1) | exact HB.out)))); (case aL => have := LMc15.out; omega); intro v247 w50 ho hb hg hat; rw [← Ny246.out] at ho; have n0_ := Aside0.mk (hb); have n1_ := Aside0.mk (ho); clear HB; clear HO245; have HB := n0_; have HO248 := n1_; clear n0_ n1_; clear ho hb hg hat; obtain ⟨Ao51, co51, eo51⟩ := Kd.R_slice HO248.out; subst eo51) | ((with_reducible refine gate_callee (f := 13) rfl ?_); refine goesL_ (some 40) rfl rfl Try.func13 (by kernel_rfl) rfl #[.slice Ao51 y246.length co51, .int .i64 a1] rfl (by (try simp only [List.map_toArray, List.map_cons, List.map_nil]); first | done | rfl | (simp only [List.length_drop, List.length_take]; rfl)) ?_; (with_reducible refine (best_Of.calls _ _ y246 a1 t249 t250 _ ?side1 ?side2 A16.out).mono ?_); (case side1 => repeat (first | exact (Kd.R_reads' HO248.out).2.2 | (with_reducible refine Kd.C_alloc ?_ _) | (with_reducible refine Kd.C_drewN ?_ _) | (with_reducible refine Kd.C_drew ?_))); (case side2 => exact (Kd.R_reads' HO248.out).2.1); rintro e w52 ⟨v251, rfl, ho0, hb⟩; refine ⟨_, rfl, ?_⟩; have n0_ := Aside0.mk (Kd.R_below (by (with_reducible repeat (first | apply Kd.R_alloc | apply Kd.R_drewN | apply Kd.R_drew)); exact HO248.out) hb); have n1_ := Aside0.mk (Kd.R_lower ho0 (below_size (by repeat (first | (with_reducible first | exact HB.out | apply below_alloc | apply pw_below_drewN | apply below_drew1) | exact HB.out)))); have n2_ := Aside0.mk (below_step (by repeat (first | (with_reducible first | exact HB.out | apply below_alloc | apply pw_below_drewN | apply below_drew1) | exact HB.out)) hb); clear HO248; clear HB; have HO248 := n0_; have HO252 := n1_; have HB := n2_; clear n0_ n1_ n2_; (try clear hb); (try clear hb2); (try clear hk); (try clear hi); (try clear ho0)) | ((with_reducible refine gate_callee (f := 14) rfl ?_); refine goesL_ (some 46) rfl rfl Try.func14 (by kernel_rfl) rfl #[.slice A0 l0.length c0, .int .i64 a1] rfl (by (try simp only [List.map_toArray, List.map_cons, List.map_nil]); first | done | rfl | (simp only [List.length_drop, List.length_take]; rfl)) ?_; (with_reducible refine (r19_Of.calls _ _ l0 a1 t253 t254 _ ?side1 ?side2 A17.out).mono ?_); (case side1 => repeat (first | exact (Kd.C_below HR0.out HB.out) | (with_reducible refine Kd.C_alloc ?_ _) | (with_reducible refine Kd.C_drewN ?_ _) | (with_reducible refine Kd.C_drew ?_))); (case side2 => exact HC0.out); rintro e w53 ⟨v255, rfl, ho0, hb⟩; refine ⟨_, rfl, ?_⟩; have n0_ := Aside0.mk (Kd.R_below (by (with_reducible repeat (first | apply Kd.R_alloc | apply Kd.R_drewN | apply Kd.R_drew)); exact HO248.out) hb); have n1_ := Aside0.mk (Kd.R_elder' (by (with_reducible repeat (first | apply Kd.R_alloc | apply Kd.R_drewN | apply Kd.R_drew)); exact HO252.out) (Kd.R_base ho0) hb); have n2_ := Aside0.mk (Kd.R_lower (Kd.R_new' ho0 (Kd.R_lt (by (with_reducible repeat (first | apply Kd.R_alloc | apply Kd.R_drewN | apply Kd.R_drew)); exact HO252.out))) (below_size (by repeat (first | (with_reducible first | exact HB.out | apply below_alloc | apply pw_below_drewN | apply below_drew1) | exact HB.out)))); have n3_ := Aside0.mk (below_step (by repeat (first | (with_reducible first | exact HB.out | apply below_alloc | apply pw_below_drewN | apply below_drew1) | exact HB.out)) hb); clear HO248; clear HO252; clear HB; have HO248 := n0_; have HO252 := n1_; have HO256 := n2_; have HB := n3_; clear n0_ n1_ n2_ n3_; (try clear hb); (try clear hb2); (try clear hk); (try clear hi); (try clear ho0); obtain ⟨Ao54, co54, eo54⟩ := Kd.R_slice HO252.out; subst eo54; obtain ⟨Ao55, co55, eo55⟩ := Kd.R_slice HO256.out; subst eo55) | ((with_reducible refine gate_callee (f := 15) rfl ?_); refine goesL_ (some 51) rfl rfl Try.func15 (by kernel_rfl) rfl #[.slice Ao54 t249.length co54, .slice Ao55 t253.length co55] rfl (by (try simp only [List.map_toArray, List.map_cons, List.map_nil]); first | done | rfl | (simp only [List.length_drop, List.length_take]; rfl)) ?_; (with_reducible refine (s19_same.calls kj2 _ _ t249 _ _ t253 true _ ?side1 ?side2 ?side3 ?side4 A18.out).mono ?_); (case side1 => repeat (first | exact (Kd.R_reads' HO252.out).2.2 | (with_reducible refine Kd.C_alloc ?_ _) | (with_reducible refine Kd.C_drewN ?_ _) | (with_reducible refine Kd.C_drew ?_))); (case side2 => exact (Kd.R_reads' HO252.out).2.1); (case side3 => repeat (first | exact (Kd.R_reads' HO256.out).2.2 | (with_reducible refine Kd.C_alloc ?_ _) | (with_reducible refine Kd.C_drewN ?_ _) | (with_reducible refine Kd.C_drew ?_))); (case side4 => exact (Kd.R_reads' HO256.out).2.1); rintro e w' ⟨rfl, ⟨nd, rfl⟩⟩; refine ⟨_, rfl, ?_⟩) | (go_at_call 16; (with_reducible refine (best_Check.calls _ _ y246 a1 t258 _ ?side1 ?side2 A21.out).mono ?_); (case side1 => repeat (first | exact (Kd.R_reads' HO248.out).2.2 | (with_reducible refine Kd.C_alloc ?_ _) | (with_reducible refine Kd.C_drewN ?_ _) | (with_reducible refine Kd.C_drew ?_))); (case side2 => exact (Kd.R_reads' HO248.out).2.1); rintro e w56 ⟨rfl, hb⟩; have n0_ := Aside0.mk (Kd.R_below (by (with_reducible repeat (first | apply Kd.R_alloc | apply Kd.R_drewN | apply Kd.R_drew)); exact HO248.out) hb); have n1_ := Aside0.mk (Kd.R_below (by (with_reducible repeat (first | apply Kd.R_alloc | apply Kd.R_drewN | apply Kd.R_drew)); exact HO252.out) hb); have n2_ := Aside0.mk (Kd.R_below (by (with_reducible repeat (first | apply Kd.R_alloc | apply Kd.R_drewN | apply Kd.R_drew)); exact HO256.out) hb); have n3_ := Aside0.mk (below_step (by repeat (first | (with_reducible first | exact HB.out | apply below_alloc | apply pw_below_drewN | apply below_drew1) | exact HB.out)) hb); clear HO248; clear HO252; clear HO256; clear HB; have HO248 := n0_; have HO252 := n1_; have HO256 := n2_; have HB := n3_; clear n0_ n1_ n2_ n3_; (try clear hb); (try clear hb2); (try clear hk); (try clear hi)) | (go_at_call 17; (with_reducible refine (r19_Check.calls kj2 _ _ l0 a1 t259 _ ?side1 ?side2 A22.out).mono ?_); (case side1 => repeat (first | exact (Kd.C_below HR0.out HB.out) | (with_reducible refine Kd.C_alloc ?_ _) | (with_reducible refine Kd.C_drewN ?_ _) | (with_reducible refine Kd.C_drew ?_))); (case side2 => exact HC0.out); rintro e w57 ⟨rfl, hb⟩; have n0_ := Aside0.mk (Kd.R_below (by (with_reducible repeat (first | apply Kd.R_alloc | apply Kd.R_drewN | apply Kd.R_drew)); exact HO248.out) hb); have n1_ := Aside0.mk (Kd.R_below (by (with_reducible repeat (first | apply Kd.R_alloc | apply Kd.R_drewN | apply Kd.R_drew)); exact HO252.out) hb); have n2_ := Aside0.mk (Kd.R_below (by (with_reducible repeat (first | apply Kd.R_alloc | apply Kd.R_drewN | apply Kd.R_drew)); exact HO256.out) hb); have n3_ := Aside0.mk (below_step (by repeat (first | (with_reducible first | exact HB.out | apply below_alloc | apply pw_below_drewN | apply below_drew1) | exact HB.out)) hb); clear HO248; clear HO252; clear HO256; clear HB; have HO248 := n0_; have HO252 := n1_; have HO256 := n2_; have HB := n3_; clear n0_ n1_ n2_ n3_; (try clear hb); (try clear hb2); (try clear hk); (try clear hi)))
        go_ret
        exact ⟨by first | rfl | (simp [errW_none, errW_some] <;> rfl) | (simp [*, errW_none, errW_some] <;> rfl), by repeat (first | (with_reducible first | exact HB.out | apply below_alloc | apply pw_below_drewN | apply below_drew1) | exact HB.out)⟩
      ·rw [if_neg c20] at H
       have c20b0 : (t250 == t254) = false := beq_eq_false_iff_ne.mpr c20
       have c20b1 : (t250 != t254) = true := bne_iff_ne.mpr c20
       obtain rfl := Option.some.inj H
       go_wp2_with (first | ((with_reducible refine gate_dst (N := 34) rfl ?_); (try (refine gate_guard (by rfl) ?_; dsimp only)); refine Kd.R_lit k43 _ 43 ?hg (N := 34) ?hd (xs := ([] : List (S43))) (inner := []) (ok := fun _ => True) (okp := fun _ => True) ?hr ?hp (fun _ hk => hk) trivial (Below.refl _ _) (Nat.le_refl _) (by simp) ?_; (case hd => rfl); (case hg => rfl); (case hr => first | (go_simp; done) | (go_simp; rfl)); (case hp => exact (Reps.none _ _)); intro v244 w58 ho59 hb hg_ hnew_; clear hg_ hnew_; (first | rw [← Ny243.out] at ho59 | (simp only [Int.reduceToNat] at ho59; rw [← Ny243.out] at ho59)); have n0_ := Aside0.mk (Kd.R_lower ho59 (below_size (by repeat (first | (with_reducible first | exact HB.out | apply below_alloc | apply pw_below_drewN | apply below_drew1) | exact HB.out)))); have n1_ := Aside0.mk (below_step (by repeat (first | (with_reducible first | exact HB.out | apply below_alloc | apply pw_below_drewN | apply below_drew1) | exact HB.out)) hb); clear HB; have HO245 := n0_; have HB := n1_; clear n0_ n1_; clear hb ho59) | ((with_reducible refine gate_builtin (b := .append) (xs := #[.tmp 34, .tmp 35]) rfl ?_); (try (refine gate_guard (by rfl) ?_; dsimp only)); at_builtin; refine Kd.R_append_rows k43 (w0 := w) w.heap.size rfl (.tmp 34) (.tmp 35) 22 43 (.agg #[(.int .i64 0), (.int .i64 0), (.int .i64 0), (.int .i64 0), (.int .i64 0)]) 40 rfl Try.underlying22 info43 rfl (by decide) (by omega) v244 y243 l0 _ _ _ (fun _ => True) (fun _ => False) rfl rfl ?aO ?aR (fun _ _ h => h) (fun _ h => h.elim) ?aF ?aB ?aS ?aL ?_; (case aR => repeat (first | exact (Kd.C_below HR0.out HB.out) | (with_reducible refine Kd.C_alloc ?_ _) | (with_reducible refine Kd.C_drewN ?_ _) | (with_reducible refine Kd.C_drew ?_))); (case aB => exact (by repeat (first | (with_reducible first | exact HB.out | apply below_alloc | apply pw_below_drewN | apply below_drew1) | exact HB.out))); (case aF => exact (fun _ _ => trivial)); (case aO => exact (by (with_reducible repeat (first | apply Kd.R_alloc | apply Kd.R_drewN | apply Kd.R_drew)); exact HO245.out)); (case aS => exact (below_size (by repeat (first | (with_reducible first | exact HB.out | apply below_alloc | apply pw_below_drewN | apply below_drew1) | exact HB.out)))); (case aL => have := LMc15.out; omega); intro v247 w60 ho hb hg hat; rw [← Ny246.out] at ho; have n0_ := Aside0.mk (hb); have n1_ := Aside0.mk (ho); clear HB; clear HO245; have HB := n0_; have HO248 := n1_; clear n0_ n1_; clear ho hb hg hat; obtain ⟨Ao61, co61, eo61⟩ := Kd.R_slice HO248.out; subst eo61) | ((with_reducible refine gate_callee (f := 13) rfl ?_); refine goesL_ (some 40) rfl rfl Try.func13 (by kernel_rfl) rfl #[.slice Ao61 y246.length co61, .int .i64 a1] rfl (by (try simp only [List.map_toArray, List.map_cons, List.map_nil]); first | done | rfl | (simp only [List.length_drop, List.length_take]; rfl)) ?_; (with_reducible refine (best_Of.calls _ _ y246 a1 t249 t250 _ ?side1 ?side2 A16.out).mono ?_); (case side1 => repeat (first | exact (Kd.R_reads' HO248.out).2.2 | (with_reducible refine Kd.C_alloc ?_ _) | (with_reducible refine Kd.C_drewN ?_ _) | (with_reducible refine Kd.C_drew ?_))); (case side2 => exact (Kd.R_reads' HO248.out).2.1); rintro e w62 ⟨v251, rfl, ho0, hb⟩; refine ⟨_, rfl, ?_⟩; have n0_ := Aside0.mk (Kd.R_below (by (with_reducible repeat (first | apply Kd.R_alloc | apply Kd.R_drewN | apply Kd.R_drew)); exact HO248.out) hb); have n1_ := Aside0.mk (Kd.R_lower ho0 (below_size (by repeat (first | (with_reducible first | exact HB.out | apply below_alloc | apply pw_below_drewN | apply below_drew1) | exact HB.out)))); have n2_ := Aside0.mk (below_step (by repeat (first | (with_reducible first | exact HB.out | apply below_alloc | apply pw_below_drewN | apply below_drew1) | exact HB.out)) hb); clear HO248; clear HB; have HO248 := n0_; have HO252 := n1_; have HB := n2_; clear n0_ n1_ n2_; (try clear hb); (try clear hb2); (try clear hk); (try clear hi); (try clear ho0)) | ((with_reducible refine gate_callee (f := 14) rfl ?_); refine goesL_ (some 46) rfl rfl Try.func14 (by kernel_rfl) rfl #[.slice A0 l0.length c0, .int .i64 a1] rfl (by (try simp only [List.map_toArray, List.map_cons, List.map_nil]); first | done | rfl | (simp only [List.length_drop, List.length_take]; rfl)) ?_; (with_reducible refine (r19_Of.calls _ _ l0 a1 t253 t254 _ ?side1 ?side2 A17.out).mono ?_); (case side1 => repeat (first | exact (Kd.C_below HR0.out HB.out) | (with_reducible refine Kd.C_alloc ?_ _) | (with_reducible refine Kd.C_drewN ?_ _) | (with_reducible refine Kd.C_drew ?_))); (case side2 => exact HC0.out); rintro e w63 ⟨v255, rfl, ho0, hb⟩; refine ⟨_, rfl, ?_⟩; have n0_ := Aside0.mk (Kd.R_below (by (with_reducible repeat (first | apply Kd.R_alloc | apply Kd.R_drewN | apply Kd.R_drew)); exact HO248.out) hb); have n1_ := Aside0.mk (Kd.R_elder' (by (with_reducible repeat (first | apply Kd.R_alloc | apply Kd.R_drewN | apply Kd.R_drew)); exact HO252.out) (Kd.R_base ho0) hb); have n2_ := Aside0.mk (Kd.R_lower (Kd.R_new' ho0 (Kd.R_lt (by (with_reducible repeat (first | apply Kd.R_alloc | apply Kd.R_drewN | apply Kd.R_drew)); exact HO252.out))) (below_size (by repeat (first | (with_reducible first | exact HB.out | apply below_alloc | apply pw_below_drewN | apply below_drew1) | exact HB.out)))); have n3_ := Aside0.mk (below_step (by repeat (first | (with_reducible first | exact HB.out | apply below_alloc | apply pw_below_drewN | apply below_drew1) | exact HB.out)) hb); clear HO248; clear HO252; clear HB; have HO248 := n0_; have HO252 := n1_; have HO256 := n2_; have HB := n3_; clear n0_ n1_ n2_ n3_; (try clear hb); (try clear hb2); (try clear hk); (try clear hi); (try clear ho0); obtain ⟨Ao64, co64, eo64⟩ := Kd.R_slice HO252.out; subst eo64; obtain ⟨Ao65, co65, eo65⟩ := Kd.R_slice HO256.out; subst eo65) | ((with_reducible refine gate_callee (f := 15) rfl ?_); refine goesL_ (some 51) rfl rfl Try.func15 (by kernel_rfl) rfl #[.slice Ao64 t249.length co64, .slice Ao65 t253.length co65] rfl (by (try simp only [List.map_toArray, List.map_cons, List.map_nil]); first | done | rfl | (simp only [List.length_drop, List.length_take]; rfl)) ?_; (with_reducible refine (s19_same.calls kj2 _ _ t249 _ _ t253 true _ ?side1 ?side2 ?side3 ?side4 A18.out).mono ?_); (case side1 => repeat (first | exact (Kd.R_reads' HO252.out).2.2 | (with_reducible refine Kd.C_alloc ?_ _) | (with_reducible refine Kd.C_drewN ?_ _) | (with_reducible refine Kd.C_drew ?_))); (case side2 => exact (Kd.R_reads' HO252.out).2.1); (case side3 => repeat (first | exact (Kd.R_reads' HO256.out).2.2 | (with_reducible refine Kd.C_alloc ?_ _) | (with_reducible refine Kd.C_drewN ?_ _) | (with_reducible refine Kd.C_drew ?_))); (case side4 => exact (Kd.R_reads' HO256.out).2.1); rintro e w' ⟨rfl, ⟨nd, rfl⟩⟩; refine ⟨_, rfl, ?_⟩))
       go_ret
       exact ⟨by first | rfl | (simp [errW_none, errW_some] <;> rfl) | (simp [*, errW_none, errW_some] <;> rfl), by repeat (first | (with_reducible first | exact HB.out | apply below_alloc | apply pw_below_drewN | apply below_drew1) | exact HB.out)⟩
     ·replace c19 := Bool.eq_false_iff.mpr c19
      subst c19
      have H1 : (some false) = some r := by rw [if_neg (show ¬ (false = true) by decide)] at H; exact H
      clear H
      have H := H1
      clear H1
      obtain rfl := Option.some.inj H
      go_wp2_with (first | ((with_reducible refine gate_dst (N := 34) rfl ?_); (try (refine gate_guard (by rfl) ?_; dsimp only)); refine Kd.R_lit k43 _ 43 ?hg (N := 34) ?hd (xs := ([] : List (S43))) (inner := []) (ok := fun _ => True) (okp := fun _ => True) ?hr ?hp (fun _ hk => hk) trivial (Below.refl _ _) (Nat.le_refl _) (by simp) ?_; (case hd => rfl); (case hg => rfl); (case hr => first | (go_simp; done) | (go_simp; rfl)); (case hp => exact (Reps.none _ _)); intro v244 w66 ho67 hb hg_ hnew_; clear hg_ hnew_; (first | rw [← Ny243.out] at ho67 | (simp only [Int.reduceToNat] at ho67; rw [← Ny243.out] at ho67)); have n0_ := Aside0.mk (Kd.R_lower ho67 (below_size (by repeat (first | (with_reducible first | exact HB.out | apply below_alloc | apply pw_below_drewN | apply below_drew1) | exact HB.out)))); have n1_ := Aside0.mk (below_step (by repeat (first | (with_reducible first | exact HB.out | apply below_alloc | apply pw_below_drewN | apply below_drew1) | exact HB.out)) hb); clear HB; have HO245 := n0_; have HB := n1_; clear n0_ n1_; clear hb ho67) | ((with_reducible refine gate_builtin (b := .append) (xs := #[.tmp 34, .tmp 35]) rfl ?_); (try (refine gate_guard (by rfl) ?_; dsimp only)); at_builtin; refine Kd.R_append_rows k43 (w0 := w) w.heap.size rfl (.tmp 34) (.tmp 35) 22 43 (.agg #[(.int .i64 0), (.int .i64 0), (.int .i64 0), (.int .i64 0), (.int .i64 0)]) 40 rfl Try.underlying22 info43 rfl (by decide) (by omega) v244 y243 l0 _ _ _ (fun _ => True) (fun _ => False) rfl rfl ?aO ?aR (fun _ _ h => h) (fun _ h => h.elim) ?aF ?aB ?aS ?aL ?_; (case aR => repeat (first | exact (Kd.C_below HR0.out HB.out) | (with_reducible refine Kd.C_alloc ?_ _) | (with_reducible refine Kd.C_drewN ?_ _) | (with_reducible refine Kd.C_drew ?_))); (case aB => exact (by repeat (first | (with_reducible first | exact HB.out | apply below_alloc | apply pw_below_drewN | apply below_drew1) | exact HB.out))); (case aF => exact (fun _ _ => trivial)); (case aO => exact (by (with_reducible repeat (first | apply Kd.R_alloc | apply Kd.R_drewN | apply Kd.R_drew)); exact HO245.out)); (case aS => exact (below_size (by repeat (first | (with_reducible first | exact HB.out | apply below_alloc | apply pw_below_drewN | apply below_drew1) | exact HB.out)))); (case aL => have := LMc15.out; omega); intro v247 w68 ho hb hg hat; rw [← Ny246.out] at ho; have n0_ := Aside0.mk (hb); have n1_ := Aside0.mk (ho); clear HB; clear HO245; have HB := n0_; have HO248 := n1_; clear n0_ n1_; clear ho hb hg hat; obtain ⟨Ao69, co69, eo69⟩ := Kd.R_slice HO248.out; subst eo69) | ((with_reducible refine gate_callee (f := 13) rfl ?_); refine goesL_ (some 40) rfl rfl Try.func13 (by kernel_rfl) rfl #[.slice Ao69 y246.length co69, .int .i64 a1] rfl (by (try simp only [List.map_toArray, List.map_cons, List.map_nil]); first | done | rfl | (simp only [List.length_drop, List.length_take]; rfl)) ?_; (with_reducible refine (best_Of.calls _ _ y246 a1 t249 t250 _ ?side1 ?side2 A16.out).mono ?_); (case side1 => repeat (first | exact (Kd.R_reads' HO248.out).2.2 | (with_reducible refine Kd.C_alloc ?_ _) | (with_reducible refine Kd.C_drewN ?_ _) | (with_reducible refine Kd.C_drew ?_))); (case side2 => exact (Kd.R_reads' HO248.out).2.1); rintro e w70 ⟨v251, rfl, ho0, hb⟩; refine ⟨_, rfl, ?_⟩; have n0_ := Aside0.mk (Kd.R_below (by (with_reducible repeat (first | apply Kd.R_alloc | apply Kd.R_drewN | apply Kd.R_drew)); exact HO248.out) hb); have n1_ := Aside0.mk (Kd.R_lower ho0 (below_size (by repeat (first | (with_reducible first | exact HB.out | apply below_alloc | apply pw_below_drewN | apply below_drew1) | exact HB.out)))); have n2_ := Aside0.mk (below_step (by repeat (first | (with_reducible first | exact HB.out | apply below_alloc | apply pw_below_drewN | apply below_drew1) | exact HB.out)) hb); clear HO248; clear HB; have HO248 := n0_; have HO252 := n1_; have HB := n2_; clear n0_ n1_ n2_; (try clear hb); (try clear hb2); (try clear hk); (try clear hi); (try clear ho0)) | ((with_reducible refine gate_callee (f := 14) rfl ?_); refine goesL_ (some 46) rfl rfl Try.func14 (by kernel_rfl) rfl #[.slice A0 l0.length c0, .int .i64 a1] rfl (by (try simp only [List.map_toArray, List.map_cons, List.map_nil]); first | done | rfl | (simp only [List.length_drop, List.length_take]; rfl)) ?_; (with_reducible refine (r19_Of.calls _ _ l0 a1 t253 t254 _ ?side1 ?side2 A17.out).mono ?_); (case side1 => repeat (first | exact (Kd.C_below HR0.out HB.out) | (with_reducible refine Kd.C_alloc ?_ _) | (with_reducible refine Kd.C_drewN ?_ _) | (with_reducible refine Kd.C_drew ?_))); (case side2 => exact HC0.out); rintro e w71 ⟨v255, rfl, ho0, hb⟩; refine ⟨_, rfl, ?_⟩; have n0_ := Aside0.mk (Kd.R_below (by (with_reducible repeat (first | apply Kd.R_alloc | apply Kd.R_drewN | apply Kd.R_drew)); exact HO248.out) hb); have n1_ := Aside0.mk (Kd.R_elder' (by (with_reducible repeat (first | apply Kd.R_alloc | apply Kd.R_drewN | apply Kd.R_drew)); exact HO252.out) (Kd.R_base ho0) hb); have n2_ := Aside0.mk (Kd.R_lower (Kd.R_new' ho0 (Kd.R_lt (by (with_reducible repeat (first | apply Kd.R_alloc | apply Kd.R_drewN | apply Kd.R_drew)); exact HO252.out))) (below_size (by repeat (first | (with_reducible first | exact HB.out | apply below_alloc | apply pw_below_drewN | apply below_drew1) | exact HB.out)))); have n3_ := Aside0.mk (below_step (by repeat (first | (with_reducible first | exact HB.out | apply below_alloc | apply pw_below_drewN | apply below_drew1) | exact HB.out)) hb); clear HO248; clear HO252; clear HB; have HO248 := n0_; have HO252 := n1_; have HO256 := n2_; have HB := n3_; clear n0_ n1_ n2_ n3_; (try clear hb); (try clear hb2); (try clear hk); (try clear hi); (try clear ho0); obtain ⟨Ao72, co72, eo72⟩ := Kd.R_slice HO252.out; subst eo72; obtain ⟨Ao73, co73, eo73⟩ := Kd.R_slice HO256.out; subst eo73) | ((with_reducible refine gate_callee (f := 15) rfl ?_); refine goesL_ (some 51) rfl rfl Try.func15 (by kernel_rfl) rfl #[.slice Ao72 t249.length co72, .slice Ao73 t253.length co73] rfl (by (try simp only [List.map_toArray, List.map_cons, List.map_nil]); first | done | rfl | (simp only [List.length_drop, List.length_take]; rfl)) ?_; (with_reducible refine (s19_same.calls kj2 _ _ t249 _ _ t253 false _ ?side1 ?side2 ?side3 ?side4 A18.out).mono ?_); (case side1 => repeat (first | exact (Kd.R_reads' HO252.out).2.2 | (with_reducible refine Kd.C_alloc ?_ _) | (with_reducible refine Kd.C_drewN ?_ _) | (with_reducible refine Kd.C_drew ?_))); (case side2 => exact (Kd.R_reads' HO252.out).2.1); (case side3 => repeat (first | exact (Kd.R_reads' HO256.out).2.2 | (with_reducible refine Kd.C_alloc ?_ _) | (with_reducible refine Kd.C_drewN ?_ _) | (with_reducible refine Kd.C_drew ?_))); (case side4 => exact (Kd.R_reads' HO256.out).2.1); rintro e w' ⟨rfl, ⟨nd, rfl⟩⟩; refine ⟨_, rfl, ?_⟩))
      go_ret
      exact ⟨by first | rfl | (simp [errW_none, errW_some] <;> rfl) | (simp [*, errW_none, errW_some] <;> rfl), by repeat (first | (with_reducible first | exact HB.out | apply below_alloc | apply pw_below_drewN | apply below_drew1) | exact HB.out)⟩
    ·rw [if_neg c15] at H
     exact absurd H (by simp)
end Go.Proofs.Ytbddfnmhhmkfkaa.Pr
namespace Go.Proofs.Ytbddfnmhhmkfkaa.Pr
set_option linter.unusedVariables false
set_option linter.unusedSimpArgs false
open Go.RowKit Go.Proofs.YtbddfnmhhmkfkaaW.PrintWords Go.Proofs.YtbddfnmhhmkfkaaW.PrintLast Go.Proofs.YtbddfnmhhmkfkaaW.PrintMore
theorem better_irrefl (l : List S43) (w : Int) (a : List Int) : betterP l w a a = false := by
 unfold betterP
 have : earlB a.reverse.tail a.reverse.tail = false := by
  cases h : earlB a.reverse.tail a.reverse.tail with
  | false => rfl
  | true => exact absurd ((earlB_iff _ _).1 h) (Go.DP.earl_irrefl _)
 rw [this]
 simp
theorem refOf_eq (l : List S43) (w : Int) : refOfP l w = ofP l w := by
 unfold refOfP
 by_cases hk : checkP l w = 0
 ·rw [if_pos hk]
  by_cases hl : l.length = 0
  ·rw [if_pos hl]
   have hn : l = [] := List.eq_nil_of_length_eq_zero hl
   subst hn
   have := of_one hk (l := []) (by
    have := (check_ok hk).w0
    show lineN [] (-1) 0 ≤ w
    have h0 : lineN [] (-1) 0 = 0 := by decide
    omega)
   rw [this]
   rfl
  ·rw [if_neg hl]
   have ok := check_ok hk
   obtain ⟨s, _, hh, hb⟩ := best_row ok
   have ho : ofP l w = ((rowR l w).reverse, 0) := by unfold ofP; rw [if_pos hk]
   rw [ho]
   have hbr : Br l (-1) (rowR l w).reverse := (Go.DP.row_fw (placeP l) (legalP l) _).1 hb.1
   have hB : legalB l (-1) (rowR l w).reverse = true := (legalB_iff l _ _).2 ⟨hbr, by rw [Go.DP.hd_rev, hh]⟩
   have hne : rowR l w ≠ [] := fun e => by rw [e] at hh; simp only [Go.DP.hd] at hh; omega
   have hmem := all_has l hB (by simpa using hne)
   have hbetter : ∀ x ∈ allP l, x ≠ (rowR l w).reverse → betterP l w (rowR l w).reverse x = true ∧ betterP l w x (rowR l w).reverse = false := fun x hx hxp => by
    obtain ⟨h1, h2⟩ := (legalB_iff l x (-1)).1 (all_legal l x hx)
    have h3 : RowP l x.reverse := (Go.DP.row_fw (placeP l) (legalP l) _).2 (by rw [List.reverse_reverse]; exact h1)
    have h4 : Go.DP.hd x.reverse = Go.DP.hd (rowR l w) := by rw [hh, ← Go.DP.hd_rev, List.reverse_reverse]; exact h2
    have h5 := hb.2.2 x.reverse h3 h4
    have h6 : Go.DP.tot (costP l w) x.reverse = TotP l w (-1) x := by unfold TotP; rw [Go.DP.tot_fw, List.reverse_reverse]
    have h7 : TotP l w (-1) (rowR l w).reverse = s := by rw [hb.2.1]; unfold TotP; rw [Go.DP.tot_fw]
    unfold betterP
    rw [h7, List.reverse_reverse]
    rw [h6] at h5
    rcases h5 with h5 | h5 | ⟨h5, h8⟩
    ·exact absurd (by rw [← h5, List.reverse_reverse]) hxp
    ·have n1 : ¬ TotP l w (-1) x < s := by omega
     have n2 : ¬ TotP l w (-1) x = s := by omega
     simp [h5, n1, n2]
    ·
     obtain ⟨t, r, hr⟩ : ∃ t r, rowR l w = t :: r := by
      cases h : rowR l w with
      | nil => exact absurd h hne
      | cons t r => exact ⟨t, r, rfl⟩
     have hxne : x.reverse ≠ [] := fun e => by rw [e, hr] at h4; simp only [Go.DP.hd] at h4; rw [hr] at hh; simp only [Go.DP.hd] at hh; omega
     obtain ⟨t', r', hr'⟩ : ∃ t r, x.reverse = t :: r := by
      cases h : x.reverse with
      | nil => exact absurd h hxne
      | cons t r => exact ⟨t, r, rfl⟩
     rw [hr, hr'] at h8 ⊢
     rw [hr, hr'] at h4
     simp only [Go.DP.hd] at h4
     subst h4
     simp only [List.tail_cons]
     have h9 : Go.DP.earl r r' := by
      rcases h8 with h8 | h8
      ·omega
      ·exact h8.2
     have h10 : earlB r r' = true := (earlB_iff _ _).2 h9
     have h11 : earlB r' r = false := by
      cases h : earlB r' r with
      | false => rfl
      | true => exact absurd ((earlB_iff _ _).1 h) (Go.DP.earl_asymm _ _ h9)
     rw [h5, h10, h11]
     simp
   cases hA : allP l with
   | nil => rw [hA] at hmem; cases hmem
   | cons b xs =>
    rw [hA] at hmem hbetter
    have := Go.DP.bestOf_is (better_irrefl l w (rowR l w).reverse) xs b (by
     rcases List.mem_cons.1 hmem with h | h
     ·exact .inl h.symm
     ·exact .inr h) (fun x hx hxp => hbetter x (by
     rcases hx with h | h
     ·rw [h]; simp
     ·exact List.mem_cons_of_mem _ h) hxp)
    simp only [this]
 ·rw [if_neg hk]
  unfold ofP
  rw [if_neg hk]
theorem many_l0 (l : List S43) (hl : l.length ≤ 100000) : ∀ (d i : Nat), i + d = l.length + 1 → Ev (fun k => r19_Many.l0 k l ((placesTo l i).length : Int) i) ((placesP l).length : Int)
 | 0, i, h => by
  obtain rfl : i = l.length + 1 := by omega
  refine Ev.step (f := fun _ => some _) (fun k => ?_) (Ev.now _)
  rw [r19_Many.l0.eq_2, if_neg (by omega)]
  rfl
 | d + 1, i, h => by
  have hpl := places_len l i
  have ih := many_l0 l hl d (i + 1) (by omega)
  have e : wrap64 ((i : Int) + 1) = ((i + 1 : Nat) : Int) := by rw [w64 (by omega) (by omega)]; omega
  cases hp : placeP l (i : Int) with
  | true =>
   have e2 : wrap64 (((placesTo l i).length : Int) + 1) = ((placesTo l (i + 1)).length : Int) := by
    rw [placesTo_succ, hp, if_pos rfl, List.length_append, List.length_singleton, w64 (by clear e; omega) (by clear e; omega)]; rfl
   refine Ev.step (fun k => ?_) ih
   rw [r19_Many.l0.eq_2, if_pos (by clear e e2; omega), refPlace_f, hp, Option.bind_some, if_pos rfl, e, e2]
  | false =>
   have e2 : placesTo l (i + 1) = placesTo l i := by rw [placesTo_succ, hp]; simp
   rw [e2] at ih
   refine Ev.step (fun k => ?_) ih
   rw [r19_Many.l0.eq_2, if_pos (by clear e; omega), refPlace_f, hp, Option.bind_some, if_neg (by simp), e]
theorem many_ev (l : List S43) (hl : l.length ≤ 100000) : Ev (fun k => r19_Many.f k l) ((placesP l).length : Int) := many_l0 l hl (l.length + 1) 0 (by omega)
theorem bestOf_j0t (l : List S43) (w : Int) : Ev (fun k => s19_BestOf.j0 k l w true) true := Ev.step (fun k => by rw [s19_BestOf.j0.eq_2, if_pos rfl]) awake_ev
theorem bestOf_j0f (l : List S43) (w : Int) (hl : l.length ≤ 17000) (hp : checkP l w = 0 → (placesP l).length ≤ 16) : Ev (fun k => s19_BestOf.j0 k l w false) true := by
 have h1 := of_f (show l.length ≤ 1000000 by omega) w
 have h2 : r19_Of.f l w = some (ofP l w) := by
  unfold r19_Of.f
  rw [if_pos ⟨by omega, hp⟩, refOf_eq]
 refine Ev.step (f := fun k => (s19_same.f k (ofP l w).1 (ofP l w).1).bind fun t257 => (if t257 = true then ((r19_Check.f k l w).bind fun t259 => (if checkP l w = t259 then ((s19_kept.f k l l).bind fun t260 => (if t260 = true then ((s19_awake.f k).bind fun t261 => (some t261)) else (some false))) else (some false))) else (some false))) (fun k => ?_) ?_
 ·rw [s19_BestOf.j0.eq_2, if_neg (by simp), Option.bind_some, if_pos (by rw [List.length_nil]; omega), Option.bind_some, List.nil_append, h1, Option.bind_some, h2, Option.bind_some]
  unfold best_Check.f
  simp only [if_true]
  rfl
 ·refine Ev.bind (same_ev _ _ (by have := of_len l w; omega)) ?_
  simp only [decide_true, if_true]
  refine Ev.bind (refCheck_ev l w) ?_
  simp only [if_true]
  refine Ev.bind (kept_ev l (by omega)) ?_
  simp only [if_true]
  exact awake_ev
theorem bestOf_pure (l : List S43) (w : Int) : Ev (fun k => s19_BestOf.f k l w) true := by
 unfold s19_BestOf.f
 by_cases h1 : (l.length : Int) > 60
 ·simp only [if_pos h1]
  by_cases h2 : (l.length : Int) ≤ 16384
  ·simp only [if_pos h2]
   exact bestOf_j0t l w
  ·simp only [if_neg h2]
   by_cases h3 : (l.length : Int) > 17000
   ·simp only [if_pos h3]
    exact bestOf_j0t l w
   ·simp only [if_neg h3, if_neg (show ¬ (l.length : Int) ≤ 60 by omega)]
    refine bestOf_j0f l w (by omega) (fun hk => ?_)
    have := (check_ok hk).len
    omega
 ·simp only [if_neg h1, if_neg (show ¬ (l.length : Int) > 17000 by omega), if_pos (show (l.length : Int) ≤ 60 by omega)]
  refine Ev.bind (many_ev l (by omega)) ?_
  by_cases h4 : ((placesP l).length : Int) > 10
  ·rw [decide_eq_true h4]
   exact bestOf_j0t l w
  ·rw [decide_eq_false h4]
   exact bestOf_j0f l w (by omega) (fun _ => by omega)
theorem bestOf_walk (A0 : Option Addr) (c0 : Nat) (l0 : List S43) (a1 : Int) (w : World) (hr0 : Kd.C k43 w A0 l0.length l0) (hc0 : l0.length ≤ c0) (_ : l0.length * 40 ≤ 140737488351232) :
  Calls Try.prog 3 #[.slice A0 l0.length c0, .int .i64 a1] w fun e w' => e = .returned (.bool true) ∧ Below w.heap.size w w' := by
 obtain ⟨k, h⟩ := (bestOf_pure l0 a1).rounds
 exact s19_BestOf.calls k A0 c0 l0 a1 true w hr0 hc0 h
end Go.Proofs.Ytbddfnmhhmkfkaa.Pr
