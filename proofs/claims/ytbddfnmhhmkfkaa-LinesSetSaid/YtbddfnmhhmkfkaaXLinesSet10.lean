/- Texts of this seat, one behind the other. -/
import Derived.Test.YtbddfnmhhmkfkaaXLinesSet1
import Derived.Test.YtbddfnmhhmkfkaaXLinesSet2
import Derived.Test.YtbddfnmhhmkfkaaXLinesSet3
import Derived.Test.YtbddfnmhhmkfkaaXLinesSet4
import Derived.Test.YtbddfnmhhmkfkaaXLinesSet5
import Derived.Test.YtbddfnmhhmkfkaaXLinesSet6
import Derived.Test.YtbddfnmhhmkfkaaXLinesSet7
import Derived.Test.YtbddfnmhhmkfkaaXLinesSet9
set_option linter.unusedVariables false
set_option linter.unusedSimpArgs false
namespace Go.Proofs.Ytbddfnmhhmkfkaa.Pr
open Go.RowKit Go.Proofs.YtbddfnmhhmkfkaaW.PrintWords Go.Proofs.YtbddfnmhhmkfkaaW.PrintLast Go.Proofs.YtbddfnmhhmkfkaaW.PrintMore
attribute [local go_sem] max2_int min2_int max_two min_two max_three min_three max_four min_four
mutual
def styluslaw20_is.j0 : Nat → List Int → List (S55) → Bool → Option (Bool)
 | 0, _, _, _ => none
 | k + 1, x4, x13, x62 => if x62 = true then (some false) else (styluslaw20_is.l0 k x4 x13 0)
def styluslaw20_is.l0 : Nat → List Int → List (S55) → Int → Option (Bool)
 | 0, _, _, _ => none
 | k + 1, x4, x13, x15 => if x15 < (x4.length : Int) then (if 0 < (x13.length : Int) then (if 0 ≤ x15 then (if x15 < (((rd_T55 x13 0).f0).length : Int) then (if ((rd_T57 ((rd_T55 x13 0).f0) x15).f0) = (rd x4 x15) then (if x15 < 5 then (if ((rd_T57 ((rd_T55 x13 0).f0) x15).f1) = (bt (⟨#[97, 32, 98, 32, 99]⟩ : ByteArray) x15) then (if ((rd_T57 ((rd_T55 x13 0).f0) x15).f3) = x15 then (styluslaw20_is.l0 k x4 x13 (wrap64 (x15 + 1))) else (some false)) else (some false)) else (none)) else (some false)) else (none)) else (none)) else (none)) else (some true)
end
def styluslaw20_is.f (k : Nat) (a0 : Int) (l1 : List Int) (a2 : Int) (a3 : Int) (l4 : List Int) : Option (Bool) := (styluslaw20_abc.f k).bind fun bt407 => ((lines_Of.f bt407.1 bt407.2 a0 l1).bind fun bt413 => (if bt413.2 = 0 then (if (bt413.1.length : Int) = (l1.length : Int) then (if 0 < (bt413.1.length : Int) then (if ((rd_T55 bt413.1 0).f1) = a2 then (if ((rd_T55 bt413.1 0).f2) = a3 then (styluslaw20_is.j0 k l4 bt413.1 ((((rd_T55 bt413.1 0).f0).length : Int) != (l4.length : Int))) else (styluslaw20_is.j0 k l4 bt413.1 true)) else (styluslaw20_is.j0 k l4 bt413.1 true)) else (none)) else (styluslaw20_is.j0 k l4 bt413.1 true)) else (styluslaw20_is.j0 k l4 bt413.1 true)))
theorem styluslaw20_is.mono_l : ∀ k, (∀ y0 y1 y2, LeO (styluslaw20_is.j0 k y0 y1 y2) (styluslaw20_is.j0 (k + 1) y0 y1 y2)) ∧ (∀ y0 y1 y2, LeO (styluslaw20_is.l0 k y0 y1 y2) (styluslaw20_is.l0 (k + 1) y0 y1 y2))
 | 0 => ⟨fun _ _ _ r h => by simp [styluslaw20_is.j0] at h, fun _ _ _ r h => by simp [styluslaw20_is.l0] at h⟩
 | k + 1 => by
  obtain ⟨ih0, ih1⟩ := styluslaw20_is.mono_l k
  refine ⟨?_, ?_⟩
  ·intro y0 y1 y2
   unfold styluslaw20_is.j0
   repeat' first
   | (with_reducible exact ih0 _ _ _)
   | (with_reducible exact ih1 _ _ _)
   | (with_reducible exact styluslaw20_abc.mono _)
   | (with_reducible exact LeO.refl _)
   | (with_reducible exact LeO.none _)
   | (with_reducible refine LeO.ite ?_ ?_)
   | (with_reducible refine LeO.bind ?_ (fun _ => ?_))
   | exact LeO.none _
   | refine LeO.ite ?_ ?_
   | refine LeO.bind ?_ (fun _ => ?_)
  ·intro y0 y1 y2
   unfold styluslaw20_is.l0
   repeat' first
   | (with_reducible exact ih0 _ _ _)
   | (with_reducible exact ih1 _ _ _)
   | (with_reducible exact styluslaw20_abc.mono _)
   | (with_reducible exact LeO.refl _)
   | (with_reducible exact LeO.none _)
   | (with_reducible refine LeO.ite ?_ ?_)
   | (with_reducible refine LeO.bind ?_ (fun _ => ?_))
   | exact LeO.none _
   | refine LeO.ite ?_ ?_
   | refine LeO.bind ?_ (fun _ => ?_)
theorem styluslaw20_is.mono : ∀ a0 a1 a2 a3 a4 k, LeO (styluslaw20_is.f k a0 a1 a2 a3 a4) (styluslaw20_is.f (k + 1) a0 a1 a2 a3 a4) := by
 intro a0 a1 a2 a3 a4 k
 obtain ⟨ih0, ih1⟩ := styluslaw20_is.mono_l k
 unfold styluslaw20_is.f
 repeat' first
   | (with_reducible exact ih0 _ _ _)
   | (with_reducible exact ih1 _ _ _)
   | (with_reducible exact styluslaw20_abc.mono _)
   | (with_reducible exact LeO.refl _)
   | (with_reducible exact LeO.none _)
   | (with_reducible refine LeO.ite ?_ ?_)
   | (with_reducible refine LeO.bind ?_ (fun _ => ?_))
   | exact ih0 _ _ _
   | exact ih1 _ _ _
   | exact styluslaw20_abc.mono _
   | exact LeO.none _
   | refine LeO.ite ?_ ?_
   | refine LeO.bind ?_ (fun _ => ?_)
set_option maxHeartbeats 8000000 in
set_option maxRecDepth 100000 in
theorem styluslaw20_is.calls (k : Nat) (a0 : Int) (A1 : Option Addr) (c1 : Nat) (l1 : List Int) (a2 : Int) (a3 : Int) (A4 : Option Addr) (c4 : Nat) (l4 : List Int) (r : Bool) (w : World) (hr1 : Kd.C (Kd.int .i64) w A1 l1.length l1) (hc1 : l1.length ≤ c1) (hr4 : Kd.C (Kd.int .i64) w A4 l4.length l4) (hc4 : l4.length ≤ c4) (h : styluslaw20_is.f k a0 l1 a2 a3 l4 = some r) :
  Calls Try.prog 59 #[.int .i64 a0, .slice A1 l1.length c1, .int .i64 a2, .int .i64 a3, .slice A4 l4.length c4] w fun e w' => e = .returned (.bool r) ∧ Below w.heap.size w w' := by
 have HR1 := Aside0.mk hr1
 have HC1 := Aside0.mk hc1
 clear hr1 hc1
 have HR4 := Aside0.mk hr4
 have HC4 := Aside0.mk hc4
 clear hr4 hc4
 have HB := Aside0.mk (Below.refl w.heap.size w)
 have H : ((styluslaw20_abc.f k).bind fun bt407 => ((lines_Of.f bt407.1 bt407.2 a0 l1).bind fun bt413 => (if bt413.2 = 0 then (if (bt413.1.length : Int) = (l1.length : Int) then (if 0 < (bt413.1.length : Int) then (if ((rd_T55 bt413.1 0).f1) = a2 then (if ((rd_T55 bt413.1 0).f2) = a3 then (styluslaw20_is.j0 k l4 bt413.1 ((((rd_T55 bt413.1 0).f0).length : Int) != (l4.length : Int))) else (styluslaw20_is.j0 k l4 bt413.1 true)) else (styluslaw20_is.j0 k l4 bt413.1 true)) else (none)) else (styluslaw20_is.j0 k l4 bt413.1 true)) else (styluslaw20_is.j0 k l4 bt413.1 true)))) = some r := h
 clear h
 replace H := Option.bind_eq_some_iff.mp H
 obtain ⟨⟨t407, t408⟩, A60, H⟩ := H
 dsimp only at H
 have A6 := Aside0.mk A60
 clear A60
 replace H := Option.bind_eq_some_iff.mp H
 obtain ⟨⟨t413, t414⟩, A70, H⟩ := H
 dsimp only at H
 have A7 := Aside0.mk A70
 clear A70
 have HC8 := Aside0.mk H
 clear H
 go_enter Try.func59, Try.ntmps59
 go_upto_region 3 with (first | (go_at_call 79; (with_reducible refine (styluslaw20_abc.calls k  t407 t408 _ A6.out).mono ?_); rintro e w9 ⟨v409, v411, rfl, ho0, ho1, hb⟩; have n0_ := Aside0.mk (Kd.R_lower ho0 (below_size (by repeat (with_reducible first | exact HB.out | apply below_alloc | apply pw_below_drewN | apply below_drew1)))); have n1_ := Aside0.mk (Kd.R_lower ho1 (below_size (by repeat (with_reducible first | exact HB.out | apply below_alloc | apply pw_below_drewN | apply below_drew1)))); have n2_ := Aside0.mk (below_step (by repeat (with_reducible first | exact HB.out | apply below_alloc | apply pw_below_drewN | apply below_drew1)) hb); clear HB; have HO410 := n0_; have HO412 := n1_; have HB := n2_; clear n0_ n1_ n2_; (try clear hb); (try clear hb2); (try clear hk); (try clear hi); (try clear ho0); (try clear ho1); obtain ⟨Ao10, co10, eo10⟩ := Kd.R_slice HO410.out; subst eo10; obtain ⟨Ao11, co11, eo11⟩ := Kd.R_slice HO412.out; subst eo11) | (go_at_call 26; (with_reducible refine (lines_Of.calls _ _ t407 _ _ t408 a0 _ _ l1 t413 t414 _ ?side1 ?side2 ?side3 ?side4 ?side5 ?side6 A7.out).mono ?_); (case side1 => repeat (first | exact (Kd.R_reads' HO410.out).2.2 | (with_reducible refine Kd.C_alloc ?_ _) | (with_reducible refine Kd.C_drewN ?_ _) | (with_reducible refine Kd.C_drew ?_))); (case side2 => exact (Kd.R_reads' HO410.out).2.1); (case side3 => repeat (first | exact (Kd.R_reads' HO412.out).2.2 | (with_reducible refine Kd.C_alloc ?_ _) | (with_reducible refine Kd.C_drewN ?_ _) | (with_reducible refine Kd.C_drew ?_))); (case side4 => exact (Kd.R_reads' HO412.out).2.1); (case side5 => repeat (first | exact (Kd.C_below HR1.out HB.out) | (with_reducible refine Kd.C_alloc ?_ _) | (with_reducible refine Kd.C_drewN ?_ _) | (with_reducible refine Kd.C_drew ?_))); (case side6 => exact HC1.out); rintro e w12 ⟨v415, rfl, ho0, hb⟩; have n0_ := Aside0.mk (Kd.R_below (by (with_reducible repeat (first | apply Kd.R_alloc | apply Kd.R_drewN | apply Kd.R_drew)); exact HO410.out) hb); have n1_ := Aside0.mk (Kd.R_below (by (with_reducible repeat (first | apply Kd.R_alloc | apply Kd.R_drewN | apply Kd.R_drew)); exact HO412.out) hb); have n2_ := Aside0.mk (Kd.S_lower ho0 (below_size (by repeat (with_reducible first | exact HB.out | apply below_alloc | apply pw_below_drewN | apply below_drew1)))); have n3_ := Aside0.mk (below_step (by repeat (with_reducible first | exact HB.out | apply below_alloc | apply pw_below_drewN | apply below_drew1)) hb); clear HO410; clear HO412; clear HB; have HO410 := n0_; have HO412 := n1_; have HO416 := n2_; have HB := n3_; clear n0_ n1_ n2_ n3_; (try clear hb); (try clear hb2); (try clear hk); (try clear hi); (try clear ho0)))
 (try simp only [Act.put, List.setIfInBounds_toArray, List.set_cons_zero, List.set_cons_succ])
 go_cut [62] (fun v62 wc => ∃ (kq : Nat) (x62_7 : Bool), v62 = .bool x62_7 ∧ Aside0 (styluslaw20_is.j0 kq l4 t413 x62_7 = some r) ∧ Aside0 (kq ≤ k) ∧ Aside0 (Kd.S k55 55 wc w.heap.size (fun _ => True) v415 t413) ∧ Aside0 (Below w.heap.size w wc))
 case first =>
  have H := HC8.out
  clear HC8
  by_cases c13 : t414 = 0
  ·rw [if_pos c13] at H
   have c13b0 : (t414 == 0) = true := beq_iff_eq.mpr c13
   have c13b1 : (t414 != 0) = false := bne_eq_false_iff_eq.mpr c13
   clear c13
   (first | rw [c13b0] | (simp only [i64_w, i32_w]; rw [c13b0]) | skip)
   by_cases c14 : (t413.length : Int) = (l1.length : Int)
   ·rw [if_pos c14] at H
    have c14b0 : ((t413.length : Int) == (l1.length : Int)) = true := beq_iff_eq.mpr c14
    have c14b1 : ((t413.length : Int) != (l1.length : Int)) = false := bne_eq_false_iff_eq.mpr c14
    have c14b2 : (t413.length == l1.length) = true := by first | simpa using c14 | (simp at c14 ⊢; omega)
    clear c14
    by_cases c15 : 0 < (t413.length : Int)
    ·rw [if_pos c15] at H
     have c15b0 : decide (0 < (t413.length : Int)) = true := decide_eq_true c15
     have c15b1 : decide (0 < t413.length) = true := decide_eq_true (by omega)
     clear c15
     by_cases c16 : ((rd_T55 t413 0).f1) = a2
     ·rw [if_pos c16] at H
      have c16b0 : (((rd_T55 t413 0).f1) == a2) = true := beq_iff_eq.mpr c16
      have c16b1 : (((rd_T55 t413 0).f1) != a2) = false := bne_eq_false_iff_eq.mpr c16
      clear c16
      by_cases c17 : ((rd_T55 t413 0).f2) = a3
      ·rw [if_pos c17] at H
       have c17b0 : (((rd_T55 t413 0).f2) == a3) = true := beq_iff_eq.mpr c17
       have c17b1 : (((rd_T55 t413 0).f2) != a3) = false := bne_eq_false_iff_eq.mpr c17
       clear c17
       have H' := Aside0.mk H
       clear H
       obtain ⟨Ao18, co18, eo18⟩ := Kd.S_slice HO416.out
       subst eo18
       have p417 : 0 ≤ (0 : Int) := (by omega)
       have q417 : 0 < (t413.length : Int) := of_decide_eq_true (by first | (with_reducible assumption) | assumption)
       obtain ⟨ad417, A417_0, c417_0, e417, hx417_0, hx417_1, hx417_2, hl417_0, hi417_0⟩ := at_T55 (Kd.S_reads' HO416.out).2.2 0 p417 q417
       cases e417
       obtain ⟨ce417, hce417, hMe417, hcc417⟩ := Kd.S_get HO416.out z55 0 p417 (by first | exact q417 | exact of_decide_eq_true (by first | (with_reducible assumption) | assumption) | (have e_ := (Kd.S_reads' HO416.out).1; omega))
       obtain ⟨ve417_0, rfl, ge417_0⟩ := k55_openM hMe417
       have hv417_0 := hcc417 0 _ rfl
       rw [Nat.add_zero] at hv417_0
       replace hv417_0 := Option.some.inj (hv417_0.symm.trans hx417_0)
       rw [hv417_0] at ge417_0
       have HL417_0 := Aside0.mk (show Kd.R k57 57 _ _ _ _ ((rd_T55 t413 0).f0) from ge417_0)
       clear hv417_0 ge417_0 hcc417 hce417
       have qi417 : (0 < t413.length) = True := eq_true (by omega)
       (try rw [show ((0 : Int)).toNat = 0 from rfl] at hx417_0)
       (try rw [show 0 * 3 = 0 from rfl] at hx417_0)
       (try rw [Addr.add_zero'] at hx417_0)
       (try rw [show ((0 : Int)).toNat = 0 from rfl] at hx417_1)
       (try rw [show 0 * 3 = 0 from rfl] at hx417_1)
       (try rw [Addr.add_zero'] at hx417_1)
       (try rw [show ((0 : Int)).toNat = 0 from rfl] at hx417_2)
       (try rw [show 0 * 3 = 0 from rfl] at hx417_2)
       (try rw [Addr.add_zero'] at hx417_2)
       have HR417_0 := Aside0.mk hi417_0
       have HC417_0 := Aside0.mk hl417_0
       clear hi417_0 hl417_0
       replace p417 := eq_true p417
       replace q417 := eq_true q417
       have p418 : 0 ≤ (0 : Int) := (by omega)
       have q418 : 0 < (t413.length : Int) := of_decide_eq_true (by first | (with_reducible assumption) | assumption)
       obtain ⟨ad418, A418_0, c418_0, e418, hx418_0, hx418_1, hx418_2, hl418_0, hi418_0⟩ := at_T55 (Kd.S_reads' HO416.out).2.2 0 p418 q418
       obtain rfl : ad417 = ad418 := (by injection e418)
       obtain ⟨ce418, hce418, hMe418, hcc418⟩ := Kd.S_get HO416.out z55 0 p418 (by first | exact q418 | exact of_decide_eq_true (by first | (with_reducible assumption) | assumption) | (have e_ := (Kd.S_reads' HO416.out).1; omega))
       obtain ⟨ve418_0, rfl, ge418_0⟩ := k55_openM hMe418
       have hv418_0 := hcc418 0 _ rfl
       rw [Nat.add_zero] at hv418_0
       replace hv418_0 := Option.some.inj (hv418_0.symm.trans hx418_0)
       rw [hv418_0] at ge418_0
       have HL418_0 := Aside0.mk (show Kd.R k57 57 _ _ _ _ ((rd_T55 t413 0).f0) from ge418_0)
       clear hv418_0 ge418_0 hcc418 hce418
       have qi418 : (0 < t413.length) = True := eq_true (by omega)
       (try rw [show ((0 : Int)).toNat = 0 from rfl] at hx418_0)
       (try rw [show 0 * 3 = 0 from rfl] at hx418_0)
       (try rw [Addr.add_zero'] at hx418_0)
       (try rw [show ((0 : Int)).toNat = 0 from rfl] at hx418_1)
       (try rw [show 0 * 3 = 0 from rfl] at hx418_1)
       (try rw [Addr.add_zero'] at hx418_1)
       (try rw [show ((0 : Int)).toNat = 0 from rfl] at hx418_2)
       (try rw [show 0 * 3 = 0 from rfl] at hx418_2)
       (try rw [Addr.add_zero'] at hx418_2)
       have HR418_0 := Aside0.mk hi418_0
       have HC418_0 := Aside0.mk hl418_0
       clear hi418_0 hl418_0
       replace p418 := eq_true p418
       replace q418 := eq_true q418
       have ea_ := Option.some.inj (hx417_0.symm.trans hx418_0)
       injection ea_ with ea_ en_ ec_
       subst ea_
       subst ec_
       clear en_
       have p419 : 0 ≤ (0 : Int) := (by omega)
       have q419 : 0 < (t413.length : Int) := of_decide_eq_true (by first | (with_reducible assumption) | assumption)
       obtain ⟨ad419, A419_0, c419_0, e419, hx419_0, hx419_1, hx419_2, hl419_0, hi419_0⟩ := at_T55 (Kd.S_reads' HO416.out).2.2 0 p419 q419
       obtain rfl : ad417 = ad419 := (by injection e419)
       obtain ⟨ce419, hce419, hMe419, hcc419⟩ := Kd.S_get HO416.out z55 0 p419 (by first | exact q419 | exact of_decide_eq_true (by first | (with_reducible assumption) | assumption) | (have e_ := (Kd.S_reads' HO416.out).1; omega))
       obtain ⟨ve419_0, rfl, ge419_0⟩ := k55_openM hMe419
       have hv419_0 := hcc419 0 _ rfl
       rw [Nat.add_zero] at hv419_0
       replace hv419_0 := Option.some.inj (hv419_0.symm.trans hx419_0)
       rw [hv419_0] at ge419_0
       have HL419_0 := Aside0.mk (show Kd.R k57 57 _ _ _ _ ((rd_T55 t413 0).f0) from ge419_0)
       clear hv419_0 ge419_0 hcc419 hce419
       have qi419 : (0 < t413.length) = True := eq_true (by omega)
       (try rw [show ((0 : Int)).toNat = 0 from rfl] at hx419_0)
       (try rw [show 0 * 3 = 0 from rfl] at hx419_0)
       (try rw [Addr.add_zero'] at hx419_0)
       (try rw [show ((0 : Int)).toNat = 0 from rfl] at hx419_1)
       (try rw [show 0 * 3 = 0 from rfl] at hx419_1)
       (try rw [Addr.add_zero'] at hx419_1)
       (try rw [show ((0 : Int)).toNat = 0 from rfl] at hx419_2)
       (try rw [show 0 * 3 = 0 from rfl] at hx419_2)
       (try rw [Addr.add_zero'] at hx419_2)
       have HR419_0 := Aside0.mk hi419_0
       have HC419_0 := Aside0.mk hl419_0
       clear hi419_0 hl419_0
       replace p419 := eq_true p419
       replace q419 := eq_true q419
       have ea_ := Option.some.inj (hx417_0.symm.trans hx419_0)
       injection ea_ with ea_ en_ ec_
       subst ea_
       subst ec_
       clear en_
       go_wp2
       repeat (go_quiet (fail); try go_wp2)
       go_meet
       case rel => exact ⟨_, (((((rd_T55 t413 0).f0).length : Int) != (l4.length : Int))), (by first | rfl | (simp; done) | (simp [*]; done)), H', ⟨by first | omega | exact Nat.le_refl _⟩, ⟨by (with_reducible repeat (first | apply Kd.S_alloc | apply Kd.S_drewN | apply Kd.S_drew)); exact HO416.out⟩, ⟨by repeat (with_reducible first | exact HB.out | apply below_alloc | apply pw_below_drewN | apply below_drew1)⟩⟩
      ·rw [if_neg c17] at H
       have c17b0 : (((rd_T55 t413 0).f2) == a3) = false := beq_eq_false_iff_ne.mpr c17
       have c17b1 : (((rd_T55 t413 0).f2) != a3) = true := bne_iff_ne.mpr c17
       have H' := Aside0.mk H
       clear H
       obtain ⟨Ao19, co19, eo19⟩ := Kd.S_slice HO416.out
       subst eo19
       have p417 : 0 ≤ (0 : Int) := (by omega)
       have q417 : 0 < (t413.length : Int) := of_decide_eq_true (by first | (with_reducible assumption) | assumption)
       obtain ⟨ad417, A417_0, c417_0, e417, hx417_0, hx417_1, hx417_2, hl417_0, hi417_0⟩ := at_T55 (Kd.S_reads' HO416.out).2.2 0 p417 q417
       cases e417
       obtain ⟨ce417, hce417, hMe417, hcc417⟩ := Kd.S_get HO416.out z55 0 p417 (by first | exact q417 | exact of_decide_eq_true (by first | (with_reducible assumption) | assumption) | (have e_ := (Kd.S_reads' HO416.out).1; omega))
       obtain ⟨ve417_0, rfl, ge417_0⟩ := k55_openM hMe417
       have hv417_0 := hcc417 0 _ rfl
       rw [Nat.add_zero] at hv417_0
       replace hv417_0 := Option.some.inj (hv417_0.symm.trans hx417_0)
       rw [hv417_0] at ge417_0
       have HL417_0 := Aside0.mk (show Kd.R k57 57 _ _ _ _ ((rd_T55 t413 0).f0) from ge417_0)
       clear hv417_0 ge417_0 hcc417 hce417
       have qi417 : (0 < t413.length) = True := eq_true (by omega)
       (try rw [show ((0 : Int)).toNat = 0 from rfl] at hx417_0)
       (try rw [show 0 * 3 = 0 from rfl] at hx417_0)
       (try rw [Addr.add_zero'] at hx417_0)
       (try rw [show ((0 : Int)).toNat = 0 from rfl] at hx417_1)
       (try rw [show 0 * 3 = 0 from rfl] at hx417_1)
       (try rw [Addr.add_zero'] at hx417_1)
       (try rw [show ((0 : Int)).toNat = 0 from rfl] at hx417_2)
       (try rw [show 0 * 3 = 0 from rfl] at hx417_2)
       (try rw [Addr.add_zero'] at hx417_2)
       have HR417_0 := Aside0.mk hi417_0
       have HC417_0 := Aside0.mk hl417_0
       clear hi417_0 hl417_0
       replace p417 := eq_true p417
       replace q417 := eq_true q417
       have p418 : 0 ≤ (0 : Int) := (by omega)
       have q418 : 0 < (t413.length : Int) := of_decide_eq_true (by first | (with_reducible assumption) | assumption)
       obtain ⟨ad418, A418_0, c418_0, e418, hx418_0, hx418_1, hx418_2, hl418_0, hi418_0⟩ := at_T55 (Kd.S_reads' HO416.out).2.2 0 p418 q418
       obtain rfl : ad417 = ad418 := (by injection e418)
       obtain ⟨ce418, hce418, hMe418, hcc418⟩ := Kd.S_get HO416.out z55 0 p418 (by first | exact q418 | exact of_decide_eq_true (by first | (with_reducible assumption) | assumption) | (have e_ := (Kd.S_reads' HO416.out).1; omega))
       obtain ⟨ve418_0, rfl, ge418_0⟩ := k55_openM hMe418
       have hv418_0 := hcc418 0 _ rfl
       rw [Nat.add_zero] at hv418_0
       replace hv418_0 := Option.some.inj (hv418_0.symm.trans hx418_0)
       rw [hv418_0] at ge418_0
       have HL418_0 := Aside0.mk (show Kd.R k57 57 _ _ _ _ ((rd_T55 t413 0).f0) from ge418_0)
       clear hv418_0 ge418_0 hcc418 hce418
       have qi418 : (0 < t413.length) = True := eq_true (by omega)
       (try rw [show ((0 : Int)).toNat = 0 from rfl] at hx418_0)
       (try rw [show 0 * 3 = 0 from rfl] at hx418_0)
       (try rw [Addr.add_zero'] at hx418_0)
       (try rw [show ((0 : Int)).toNat = 0 from rfl] at hx418_1)
       (try rw [show 0 * 3 = 0 from rfl] at hx418_1)
       (try rw [Addr.add_zero'] at hx418_1)
       (try rw [show ((0 : Int)).toNat = 0 from rfl] at hx418_2)
       (try rw [show 0 * 3 = 0 from rfl] at hx418_2)
       (try rw [Addr.add_zero'] at hx418_2)
       have HR418_0 := Aside0.mk hi418_0
       have HC418_0 := Aside0.mk hl418_0
       clear hi418_0 hl418_0
       replace p418 := eq_true p418
       replace q418 := eq_true q418
       have ea_ := Option.some.inj (hx417_0.symm.trans hx418_0)
       injection ea_ with ea_ en_ ec_
       subst ea_
       subst ec_
       clear en_
       go_wp2
       repeat (go_quiet (fail); try go_wp2)
       go_meet
       case rel => exact ⟨_, (true), (by first | rfl | (simp; done) | (simp [*]; done)), H', ⟨by first | omega | exact Nat.le_refl _⟩, ⟨by (with_reducible repeat (first | apply Kd.S_alloc | apply Kd.S_drewN | apply Kd.S_drew)); exact HO416.out⟩, ⟨by repeat (with_reducible first | exact HB.out | apply below_alloc | apply pw_below_drewN | apply below_drew1)⟩⟩
     ·rw [if_neg c16] at H
      have c16b0 : (((rd_T55 t413 0).f1) == a2) = false := beq_eq_false_iff_ne.mpr c16
      have c16b1 : (((rd_T55 t413 0).f1) != a2) = true := bne_iff_ne.mpr c16
      have H' := Aside0.mk H
      clear H
      obtain ⟨Ao20, co20, eo20⟩ := Kd.S_slice HO416.out
      subst eo20
      have p417 : 0 ≤ (0 : Int) := (by omega)
      have q417 : 0 < (t413.length : Int) := of_decide_eq_true (by first | (with_reducible assumption) | assumption)
      obtain ⟨ad417, A417_0, c417_0, e417, hx417_0, hx417_1, hx417_2, hl417_0, hi417_0⟩ := at_T55 (Kd.S_reads' HO416.out).2.2 0 p417 q417
      cases e417
      obtain ⟨ce417, hce417, hMe417, hcc417⟩ := Kd.S_get HO416.out z55 0 p417 (by first | exact q417 | exact of_decide_eq_true (by first | (with_reducible assumption) | assumption) | (have e_ := (Kd.S_reads' HO416.out).1; omega))
      obtain ⟨ve417_0, rfl, ge417_0⟩ := k55_openM hMe417
      have hv417_0 := hcc417 0 _ rfl
      rw [Nat.add_zero] at hv417_0
      replace hv417_0 := Option.some.inj (hv417_0.symm.trans hx417_0)
      rw [hv417_0] at ge417_0
      have HL417_0 := Aside0.mk (show Kd.R k57 57 _ _ _ _ ((rd_T55 t413 0).f0) from ge417_0)
      clear hv417_0 ge417_0 hcc417 hce417
      have qi417 : (0 < t413.length) = True := eq_true (by omega)
      (try rw [show ((0 : Int)).toNat = 0 from rfl] at hx417_0)
      (try rw [show 0 * 3 = 0 from rfl] at hx417_0)
      (try rw [Addr.add_zero'] at hx417_0)
      (try rw [show ((0 : Int)).toNat = 0 from rfl] at hx417_1)
      (try rw [show 0 * 3 = 0 from rfl] at hx417_1)
      (try rw [Addr.add_zero'] at hx417_1)
      (try rw [show ((0 : Int)).toNat = 0 from rfl] at hx417_2)
      (try rw [show 0 * 3 = 0 from rfl] at hx417_2)
      (try rw [Addr.add_zero'] at hx417_2)
      have HR417_0 := Aside0.mk hi417_0
      have HC417_0 := Aside0.mk hl417_0
      clear hi417_0 hl417_0
      replace p417 := eq_true p417
      replace q417 := eq_true q417
      go_wp2
      repeat (go_quiet (fail); try go_wp2)
      go_meet
      case rel => exact ⟨_, (true), (by first | rfl | (simp; done) | (simp [*]; done)), H', ⟨by first | omega | exact Nat.le_refl _⟩, ⟨by (with_reducible repeat (first | apply Kd.S_alloc | apply Kd.S_drewN | apply Kd.S_drew)); exact HO416.out⟩, ⟨by repeat (with_reducible first | exact HB.out | apply below_alloc | apply pw_below_drewN | apply below_drew1)⟩⟩
    ·rw [if_neg c15] at H
     exact absurd H (by simp)
   ·rw [if_neg c14] at H
    have c14b0 : ((t413.length : Int) == (l1.length : Int)) = false := beq_eq_false_iff_ne.mpr c14
    have c14b1 : ((t413.length : Int) != (l1.length : Int)) = true := bne_iff_ne.mpr c14
    have c14b2 : (t413.length == l1.length) = false := by first | simpa using c14 | (simp at c14 ⊢; omega)
    have H' := Aside0.mk H
    clear H
    obtain ⟨Ao21, co21, eo21⟩ := Kd.S_slice HO416.out
    subst eo21
    go_wp2
    repeat (go_quiet (fail); try go_wp2)
    go_meet
    case rel => exact ⟨_, (true), (by first | rfl | (simp; done) | (simp [*]; done)), H', ⟨by first | omega | exact Nat.le_refl _⟩, ⟨by (with_reducible repeat (first | apply Kd.S_alloc | apply Kd.S_drewN | apply Kd.S_drew)); exact HO416.out⟩, ⟨by repeat (with_reducible first | exact HB.out | apply below_alloc | apply pw_below_drewN | apply below_drew1)⟩⟩
  ·rw [if_neg c13] at H
   have c13b0 : (t414 == 0) = false := beq_eq_false_iff_ne.mpr c13
   have c13b1 : (t414 != 0) = true := bne_iff_ne.mpr c13
   (first | rw [c13b0] | (simp only [i64_w, i32_w]; rw [c13b0]) | skip)
   have H' := Aside0.mk H
   clear H
   go_wp2
   repeat (go_quiet (fail); try go_wp2)
   go_meet
   case rel => exact ⟨_, (true), (by first | rfl | (simp; done) | (simp [*]; done)), H', ⟨by first | omega | exact Nat.le_refl _⟩, ⟨by (with_reducible repeat (first | apply Kd.S_alloc | apply Kd.S_drewN | apply Kd.S_drew)); exact HO416.out⟩, ⟨by repeat (with_reducible first | exact HB.out | apply below_alloc | apply pw_below_drewN | apply below_drew1)⟩⟩
 case rest =>
  clear HC8
  try clear c1
  try clear p2
  try clear c4
  try clear p4
  try clear q4
  try clear hx4
  try clear qi4
  try clear c5
  try clear c13
  try clear c13b0
  try clear c13b1
  try clear c14
  try clear c14b0
  try clear c14b1
  try clear c14b2
  try clear c15
  try clear c15b0
  try clear c15b1
  try clear c16
  try clear c16b0
  try clear c16b1
  try clear c17
  try clear c17b0
  try clear c17b1
  try clear hx417_0
  try clear hx417_1
  try clear hx417_2
  try clear hx418_0
  try clear hx418_1
  try clear hx418_2
  try clear hx419_0
  try clear hx419_1
  try clear hx419_2
  try clear p417
  try clear p418
  try clear p419
  try clear q417
  try clear q418
  try clear q419
  obtain ⟨kq, x62_7, rfl, HA, HJ7, HO_13, HB⟩ := hcut
  cases kq with
  | zero => exact absurd HA.out (by simp [styluslaw20_is.j0])
  | succ kj7 =>
   have H := HA.out
   clear HA
   simp only [styluslaw20_is.j0] at H
   by_cases c22 : x62_7 = true
   ·subst c22
    rw [if_pos rfl] at H
    obtain rfl := Option.some.inj H
    go_wp2
    repeat (go_quiet (fail); try go_wp2)
    go_ret
    exact ⟨by first | rfl | (simp [errW_none, errW_some] <;> rfl) | (simp [*, errW_none, errW_some] <;> rfl), by repeat (with_reducible first | exact HB.out | apply below_alloc | apply pw_below_drewN | apply below_drew1)⟩
   ·replace c22 := Bool.eq_false_iff.mpr c22
    subst c22
    rw [if_neg (show ¬ (false = true) by decide)] at H
    have H' := Aside0.mk H
    clear H
    go_wp2
    repeat (go_quiet (fail); try go_wp2)
    go_loopg [15] kj7 (fun kq v15 w' => ∃ (x15_2 : Int), v15 = .int .i64 x15_2 ∧ Aside0 (styluslaw20_is.l0 kq l4 t413 x15_2 = some r) ∧ Aside0 (kq ≤ kj7) ∧ Aside0 (Kd.S k55 55 w' w.heap.size (fun _ => True) v415 t413) ∧ Aside0 (Below w.heap.size w w'))
    case atStart => exact ⟨(0), (by first | rfl | (simp; done) | (simp [*]; done)), H', ⟨Nat.le_refl _⟩, ⟨by (with_reducible repeat (first | apply Kd.S_alloc | apply Kd.S_drewN | apply Kd.S_drew)); exact HO_13.out⟩, ⟨by repeat (with_reducible first | exact HB.out | apply below_alloc | apply pw_below_drewN | apply below_drew1)⟩⟩
    case round =>
     clear H'
     try clear c1
     try clear c2
     try clear p2
     try clear c4
     try clear p4
     try clear q4
     try clear hx4
     try clear qi4
     try clear c5
     try clear c13
     try clear c13b0
     try clear c13b1
     try clear c14
     try clear c14b0
     try clear c14b1
     try clear c14b2
     try clear c15
     try clear c15b0
     try clear c15b1
     try clear c16
     try clear c16b0
     try clear c16b1
     try clear c17
     try clear c17b0
     try clear c17b1
     try clear c22
     try clear hx417_0
     try clear hx417_1
     try clear hx417_2
     try clear hx418_0
     try clear hx418_1
     try clear hx418_2
     try clear hx419_0
     try clear hx419_1
     try clear hx419_2
     try clear p2
     try clear p4
     try clear p417
     try clear p418
     try clear p419
     try clear q4
     try clear q417
     try clear q418
     try clear q419
     obtain ⟨x15_2, rfl, HA, HK2, HO_13, HB⟩ := hrel
     cases gk with
     | zero => exact absurd HA.out (by simp [styluslaw20_is.l0])
     | succ k2 =>
      have H := HA.out
      clear HA
      simp only [styluslaw20_is.l0] at H
      by_cases c23 : x15_2 < (l4.length : Int)
      ·rw [if_pos c23] at H
       have c23b0 : decide (x15_2 < (l4.length : Int)) = true := decide_eq_true c23
       clear c23
       by_cases c24 : 0 < (t413.length : Int)
       ·rw [if_pos c24] at H
        have c24b0 : decide (0 < (t413.length : Int)) = true := decide_eq_true c24
        have c24b1 : decide (0 < t413.length) = true := decide_eq_true (by omega)
        clear c24
        by_cases c25 : 0 ≤ x15_2
        ·rw [if_pos c25] at H
         have c25b0 : decide (0 ≤ x15_2) = true := decide_eq_true c25
         clear c25
         by_cases c26 : x15_2 < (((rd_T55 t413 0).f0).length : Int)
         ·rw [if_pos c26] at H
          have c26b0 : decide (x15_2 < (((rd_T55 t413 0).f0).length : Int)) = true := decide_eq_true c26
          clear c26
          by_cases c27 : ((rd_T57 ((rd_T55 t413 0).f0) x15_2).f0) = (rd l4 x15_2)
          ·rw [if_pos c27] at H
           have c27b0 : (((rd_T57 ((rd_T55 t413 0).f0) x15_2).f0) == (rd l4 x15_2)) = true := beq_iff_eq.mpr c27
           have c27b1 : (((rd_T57 ((rd_T55 t413 0).f0) x15_2).f0) != (rd l4 x15_2)) = false := bne_eq_false_iff_eq.mpr c27
           clear c27
           by_cases c28 : x15_2 < 5
           ·rw [if_pos c28] at H
            have c28b0 : decide (x15_2 < 5) = true := decide_eq_true c28
            clear c28
            by_cases c30 : ((rd_T57 ((rd_T55 t413 0).f0) x15_2).f1) = (bt (⟨#[97, 32, 98, 32, 99]⟩ : ByteArray) x15_2)
            ·rw [if_pos c30] at H
             have c30b0 : (((rd_T57 ((rd_T55 t413 0).f0) x15_2).f1) == (bt (⟨#[97, 32, 98, 32, 99]⟩ : ByteArray) x15_2)) = true := beq_iff_eq.mpr c30
             have c30b1 : (((rd_T57 ((rd_T55 t413 0).f0) x15_2).f1) != (bt (⟨#[97, 32, 98, 32, 99]⟩ : ByteArray) x15_2)) = false := bne_eq_false_iff_eq.mpr c30
             clear c30
             by_cases c31 : ((rd_T57 ((rd_T55 t413 0).f0) x15_2).f3) = x15_2
             ·rw [if_pos c31] at H
              have c31b0 : (((rd_T57 ((rd_T55 t413 0).f0) x15_2).f3) == x15_2) = true := beq_iff_eq.mpr c31
              have c31b1 : (((rd_T57 ((rd_T55 t413 0).f0) x15_2).f3) != x15_2) = false := bne_eq_false_iff_eq.mpr c31
              clear c31
              have H' := Aside0.mk H
              clear H
              obtain ⟨Ao32, co32, eo32⟩ := Kd.S_slice HO_13.out
              subst eo32
              have p420 : 0 ≤ (0 : Int) := (by omega)
              have q420 : 0 < (t413.length : Int) := of_decide_eq_true (by first | (with_reducible assumption) | assumption)
              obtain ⟨ad420, A420_0, c420_0, e420, hx420_0, hx420_1, hx420_2, hl420_0, hi420_0⟩ := at_T55 (Kd.S_reads' HO_13.out).2.2 0 p420 q420
              cases e420
              obtain ⟨ce420, hce420, hMe420, hcc420⟩ := Kd.S_get HO_13.out z55 0 p420 (by first | exact q420 | exact of_decide_eq_true (by first | (with_reducible assumption) | assumption) | (have e_ := (Kd.S_reads' HO_13.out).1; omega))
              obtain ⟨ve420_0, rfl, ge420_0⟩ := k55_openM hMe420
              have hv420_0 := hcc420 0 _ rfl
              rw [Nat.add_zero] at hv420_0
              replace hv420_0 := Option.some.inj (hv420_0.symm.trans hx420_0)
              rw [hv420_0] at ge420_0
              have HL420_0 := Aside0.mk (show Kd.R k57 57 _ _ _ _ ((rd_T55 t413 0).f0) from ge420_0)
              clear hv420_0 ge420_0 hcc420 hce420
              have qi420 : (0 < t413.length) = True := eq_true (by omega)
              (try rw [show ((0 : Int)).toNat = 0 from rfl] at hx420_0)
              (try rw [show 0 * 3 = 0 from rfl] at hx420_0)
              (try rw [Addr.add_zero'] at hx420_0)
              (try rw [show ((0 : Int)).toNat = 0 from rfl] at hx420_1)
              (try rw [show 0 * 3 = 0 from rfl] at hx420_1)
              (try rw [Addr.add_zero'] at hx420_1)
              (try rw [show ((0 : Int)).toNat = 0 from rfl] at hx420_2)
              (try rw [show 0 * 3 = 0 from rfl] at hx420_2)
              (try rw [Addr.add_zero'] at hx420_2)
              have HR420_0 := Aside0.mk hi420_0
              have HC420_0 := Aside0.mk hl420_0
              clear hi420_0 hl420_0
              replace p420 := eq_true p420
              replace q420 := eq_true q420
              have p421 : 0 ≤ (x15_2 : Int) := of_decide_eq_true (by first | (with_reducible assumption) | assumption)
              have q421 : x15_2 < (((rd_T55 t413 0).f0).length : Int) := of_decide_eq_true (by first | (with_reducible assumption) | assumption)
              obtain ⟨ad421, e421, hx421_0, hx421_1, hx421_2, hx421_3⟩ := at_T57 (by repeat (first | (with_reducible exact HR420_0.out) | (with_reducible refine Kd.C_alloc ?_ _) | (with_reducible refine Kd.C_drewN ?_ _) | (with_reducible refine Kd.C_drew ?_) | exact HR420_0.out)) x15_2 p421 q421
              cases e421
              replace p421 := eq_true p421
              replace q421 := eq_true q421
              have p422 : 0 ≤ (x15_2 : Int) := of_decide_eq_true (by first | (with_reducible assumption) | assumption)
              have q422 : x15_2 < (l4.length : Int) := of_decide_eq_true (by first | (with_reducible assumption) | assumption)
              obtain ⟨ad422, e422, hx422_0⟩ := Kd.at_int HR4.out x15_2 p422 q422
              cases e422
              replace hx422_0 := (HB.out.cell (World.block_lt_of_cell? w _ hx422_0)).trans hx422_0
              replace p422 := eq_true p422
              replace q422 := eq_true q422
              have p423 : 0 ≤ (0 : Int) := (by omega)
              have q423 : 0 < (t413.length : Int) := of_decide_eq_true (by first | (with_reducible assumption) | assumption)
              obtain ⟨ad423, A423_0, c423_0, e423, hx423_0, hx423_1, hx423_2, hl423_0, hi423_0⟩ := at_T55 (Kd.S_reads' HO_13.out).2.2 0 p423 q423
              obtain rfl : ad420 = ad423 := (by injection e423)
              obtain ⟨ce423, hce423, hMe423, hcc423⟩ := Kd.S_get HO_13.out z55 0 p423 (by first | exact q423 | exact of_decide_eq_true (by first | (with_reducible assumption) | assumption) | (have e_ := (Kd.S_reads' HO_13.out).1; omega))
              obtain ⟨ve423_0, rfl, ge423_0⟩ := k55_openM hMe423
              have hv423_0 := hcc423 0 _ rfl
              rw [Nat.add_zero] at hv423_0
              replace hv423_0 := Option.some.inj (hv423_0.symm.trans hx423_0)
              rw [hv423_0] at ge423_0
              have HL423_0 := Aside0.mk (show Kd.R k57 57 _ _ _ _ ((rd_T55 t413 0).f0) from ge423_0)
              clear hv423_0 ge423_0 hcc423 hce423
              have qi423 : (0 < t413.length) = True := eq_true (by omega)
              (try rw [show ((0 : Int)).toNat = 0 from rfl] at hx423_0)
              (try rw [show 0 * 3 = 0 from rfl] at hx423_0)
              (try rw [Addr.add_zero'] at hx423_0)
              (try rw [show ((0 : Int)).toNat = 0 from rfl] at hx423_1)
              (try rw [show 0 * 3 = 0 from rfl] at hx423_1)
              (try rw [Addr.add_zero'] at hx423_1)
              (try rw [show ((0 : Int)).toNat = 0 from rfl] at hx423_2)
              (try rw [show 0 * 3 = 0 from rfl] at hx423_2)
              (try rw [Addr.add_zero'] at hx423_2)
              have HR423_0 := Aside0.mk hi423_0
              have HC423_0 := Aside0.mk hl423_0
              clear hi423_0 hl423_0
              replace p423 := eq_true p423
              replace q423 := eq_true q423
              have ea_ := Option.some.inj (hx420_0.symm.trans hx423_0)
              injection ea_ with ea_ en_ ec_
              subst ea_
              subst ec_
              clear en_
              have p424 : 0 ≤ (x15_2 : Int) := of_decide_eq_true (by first | (with_reducible assumption) | assumption)
              have q424 : x15_2 < (((rd_T55 t413 0).f0).length : Int) := of_decide_eq_true (by first | (with_reducible assumption) | assumption)
              obtain ⟨ad424, e424, hx424_0, hx424_1, hx424_2, hx424_3⟩ := at_T57 (by repeat (first | (with_reducible exact HR423_0.out) | (with_reducible refine Kd.C_alloc ?_ _) | (with_reducible refine Kd.C_drewN ?_ _) | (with_reducible refine Kd.C_drew ?_) | exact HR423_0.out)) x15_2 p424 q424
              cases e424
              replace p424 := eq_true p424
              replace q424 := eq_true q424
              have p29 : 0 ≤ (x15_2 : Int) := of_decide_eq_true (by first | (with_reducible assumption) | assumption)
              have q29 : x15_2 < (5 : Int) := of_decide_eq_true (by first | (with_reducible assumption) | assumption)
              have hx29 := bt_at (⟨#[97, 32, 98, 32, 99]⟩ : ByteArray) x15_2
              replace p29 := eq_true p29
              replace q29 := eq_true q29
              have p425 : 0 ≤ (0 : Int) := (by omega)
              have q425 : 0 < (t413.length : Int) := of_decide_eq_true (by first | (with_reducible assumption) | assumption)
              obtain ⟨ad425, A425_0, c425_0, e425, hx425_0, hx425_1, hx425_2, hl425_0, hi425_0⟩ := at_T55 (Kd.S_reads' HO_13.out).2.2 0 p425 q425
              obtain rfl : ad420 = ad425 := (by injection e425)
              obtain ⟨ce425, hce425, hMe425, hcc425⟩ := Kd.S_get HO_13.out z55 0 p425 (by first | exact q425 | exact of_decide_eq_true (by first | (with_reducible assumption) | assumption) | (have e_ := (Kd.S_reads' HO_13.out).1; omega))
              obtain ⟨ve425_0, rfl, ge425_0⟩ := k55_openM hMe425
              have hv425_0 := hcc425 0 _ rfl
              rw [Nat.add_zero] at hv425_0
              replace hv425_0 := Option.some.inj (hv425_0.symm.trans hx425_0)
              rw [hv425_0] at ge425_0
              have HL425_0 := Aside0.mk (show Kd.R k57 57 _ _ _ _ ((rd_T55 t413 0).f0) from ge425_0)
              clear hv425_0 ge425_0 hcc425 hce425
              have qi425 : (0 < t413.length) = True := eq_true (by omega)
              (try rw [show ((0 : Int)).toNat = 0 from rfl] at hx425_0)
              (try rw [show 0 * 3 = 0 from rfl] at hx425_0)
              (try rw [Addr.add_zero'] at hx425_0)
              (try rw [show ((0 : Int)).toNat = 0 from rfl] at hx425_1)
              (try rw [show 0 * 3 = 0 from rfl] at hx425_1)
              (try rw [Addr.add_zero'] at hx425_1)
              (try rw [show ((0 : Int)).toNat = 0 from rfl] at hx425_2)
              (try rw [show 0 * 3 = 0 from rfl] at hx425_2)
              (try rw [Addr.add_zero'] at hx425_2)
              have HR425_0 := Aside0.mk hi425_0
              have HC425_0 := Aside0.mk hl425_0
              clear hi425_0 hl425_0
              replace p425 := eq_true p425
              replace q425 := eq_true q425
              have ea_ := Option.some.inj (hx420_0.symm.trans hx425_0)
              injection ea_ with ea_ en_ ec_
              subst ea_
              subst ec_
              clear en_
              have p426 : 0 ≤ (x15_2 : Int) := of_decide_eq_true (by first | (with_reducible assumption) | assumption)
              have q426 : x15_2 < (((rd_T55 t413 0).f0).length : Int) := of_decide_eq_true (by first | (with_reducible assumption) | assumption)
              obtain ⟨ad426, e426, hx426_0, hx426_1, hx426_2, hx426_3⟩ := at_T57 (by repeat (first | (with_reducible exact HR425_0.out) | (with_reducible refine Kd.C_alloc ?_ _) | (with_reducible refine Kd.C_drewN ?_ _) | (with_reducible refine Kd.C_drew ?_) | exact HR425_0.out)) x15_2 p426 q426
              cases e426
              replace p426 := eq_true p426
              replace q426 := eq_true q426
              go_wp2
              repeat (go_quiet (fail); try go_wp2)
              go_roundg k2
              case measure => have := HJ7.out; have := HK2.out; omega
              case rel => exact ⟨(wrap64 (x15_2 + 1)), (by first | rfl | (simp; done) | (simp [*]; done)), H', ⟨by have := HJ7.out; have := HK2.out; omega⟩, ⟨by (with_reducible repeat (first | apply Kd.S_alloc | apply Kd.S_drewN | apply Kd.S_drew)); exact HO_13.out⟩, ⟨by repeat (with_reducible first | exact HB.out | apply below_alloc | apply pw_below_drewN | apply below_drew1)⟩⟩
             ·rw [if_neg c31] at H
              have c31b0 : (((rd_T57 ((rd_T55 t413 0).f0) x15_2).f3) == x15_2) = false := beq_eq_false_iff_ne.mpr c31
              have c31b1 : (((rd_T57 ((rd_T55 t413 0).f0) x15_2).f3) != x15_2) = true := bne_iff_ne.mpr c31
              obtain rfl := Option.some.inj H
              obtain ⟨Ao33, co33, eo33⟩ := Kd.S_slice HO_13.out
              subst eo33
              have p420 : 0 ≤ (0 : Int) := (by omega)
              have q420 : 0 < (t413.length : Int) := of_decide_eq_true (by first | (with_reducible assumption) | assumption)
              obtain ⟨ad420, A420_0, c420_0, e420, hx420_0, hx420_1, hx420_2, hl420_0, hi420_0⟩ := at_T55 (Kd.S_reads' HO_13.out).2.2 0 p420 q420
              cases e420
              obtain ⟨ce420, hce420, hMe420, hcc420⟩ := Kd.S_get HO_13.out z55 0 p420 (by first | exact q420 | exact of_decide_eq_true (by first | (with_reducible assumption) | assumption) | (have e_ := (Kd.S_reads' HO_13.out).1; omega))
              obtain ⟨ve420_0, rfl, ge420_0⟩ := k55_openM hMe420
              have hv420_0 := hcc420 0 _ rfl
              rw [Nat.add_zero] at hv420_0
              replace hv420_0 := Option.some.inj (hv420_0.symm.trans hx420_0)
              rw [hv420_0] at ge420_0
              have HL420_0 := Aside0.mk (show Kd.R k57 57 _ _ _ _ ((rd_T55 t413 0).f0) from ge420_0)
              clear hv420_0 ge420_0 hcc420 hce420
              have qi420 : (0 < t413.length) = True := eq_true (by omega)
              (try rw [show ((0 : Int)).toNat = 0 from rfl] at hx420_0)
              (try rw [show 0 * 3 = 0 from rfl] at hx420_0)
              (try rw [Addr.add_zero'] at hx420_0)
              (try rw [show ((0 : Int)).toNat = 0 from rfl] at hx420_1)
              (try rw [show 0 * 3 = 0 from rfl] at hx420_1)
              (try rw [Addr.add_zero'] at hx420_1)
              (try rw [show ((0 : Int)).toNat = 0 from rfl] at hx420_2)
              (try rw [show 0 * 3 = 0 from rfl] at hx420_2)
              (try rw [Addr.add_zero'] at hx420_2)
              have HR420_0 := Aside0.mk hi420_0
              have HC420_0 := Aside0.mk hl420_0
              clear hi420_0 hl420_0
              replace p420 := eq_true p420
              replace q420 := eq_true q420
              have p421 : 0 ≤ (x15_2 : Int) := of_decide_eq_true (by first | (with_reducible assumption) | assumption)
              have q421 : x15_2 < (((rd_T55 t413 0).f0).length : Int) := of_decide_eq_true (by first | (with_reducible assumption) | assumption)
              obtain ⟨ad421, e421, hx421_0, hx421_1, hx421_2, hx421_3⟩ := at_T57 (by repeat (first | (with_reducible exact HR420_0.out) | (with_reducible refine Kd.C_alloc ?_ _) | (with_reducible refine Kd.C_drewN ?_ _) | (with_reducible refine Kd.C_drew ?_) | exact HR420_0.out)) x15_2 p421 q421
              cases e421
              replace p421 := eq_true p421
              replace q421 := eq_true q421
              have p422 : 0 ≤ (x15_2 : Int) := of_decide_eq_true (by first | (with_reducible assumption) | assumption)
              have q422 : x15_2 < (l4.length : Int) := of_decide_eq_true (by first | (with_reducible assumption) | assumption)
              obtain ⟨ad422, e422, hx422_0⟩ := Kd.at_int HR4.out x15_2 p422 q422
              cases e422
              replace hx422_0 := (HB.out.cell (World.block_lt_of_cell? w _ hx422_0)).trans hx422_0
              replace p422 := eq_true p422
              replace q422 := eq_true q422
              have p423 : 0 ≤ (0 : Int) := (by omega)
              have q423 : 0 < (t413.length : Int) := of_decide_eq_true (by first | (with_reducible assumption) | assumption)
              obtain ⟨ad423, A423_0, c423_0, e423, hx423_0, hx423_1, hx423_2, hl423_0, hi423_0⟩ := at_T55 (Kd.S_reads' HO_13.out).2.2 0 p423 q423
              obtain rfl : ad420 = ad423 := (by injection e423)
              obtain ⟨ce423, hce423, hMe423, hcc423⟩ := Kd.S_get HO_13.out z55 0 p423 (by first | exact q423 | exact of_decide_eq_true (by first | (with_reducible assumption) | assumption) | (have e_ := (Kd.S_reads' HO_13.out).1; omega))
              obtain ⟨ve423_0, rfl, ge423_0⟩ := k55_openM hMe423
              have hv423_0 := hcc423 0 _ rfl
              rw [Nat.add_zero] at hv423_0
              replace hv423_0 := Option.some.inj (hv423_0.symm.trans hx423_0)
              rw [hv423_0] at ge423_0
              have HL423_0 := Aside0.mk (show Kd.R k57 57 _ _ _ _ ((rd_T55 t413 0).f0) from ge423_0)
              clear hv423_0 ge423_0 hcc423 hce423
              have qi423 : (0 < t413.length) = True := eq_true (by omega)
              (try rw [show ((0 : Int)).toNat = 0 from rfl] at hx423_0)
              (try rw [show 0 * 3 = 0 from rfl] at hx423_0)
              (try rw [Addr.add_zero'] at hx423_0)
              (try rw [show ((0 : Int)).toNat = 0 from rfl] at hx423_1)
              (try rw [show 0 * 3 = 0 from rfl] at hx423_1)
              (try rw [Addr.add_zero'] at hx423_1)
              (try rw [show ((0 : Int)).toNat = 0 from rfl] at hx423_2)
              (try rw [show 0 * 3 = 0 from rfl] at hx423_2)
              (try rw [Addr.add_zero'] at hx423_2)
              have HR423_0 := Aside0.mk hi423_0
              have HC423_0 := Aside0.mk hl423_0
              clear hi423_0 hl423_0
              replace p423 := eq_true p423
              replace q423 := eq_true q423
              have ea_ := Option.some.inj (hx420_0.symm.trans hx423_0)
              injection ea_ with ea_ en_ ec_
              subst ea_
              subst ec_
              clear en_
              have p424 : 0 ≤ (x15_2 : Int) := of_decide_eq_true (by first | (with_reducible assumption) | assumption)
              have q424 : x15_2 < (((rd_T55 t413 0).f0).length : Int) := of_decide_eq_true (by first | (with_reducible assumption) | assumption)
              obtain ⟨ad424, e424, hx424_0, hx424_1, hx424_2, hx424_3⟩ := at_T57 (by repeat (first | (with_reducible exact HR423_0.out) | (with_reducible refine Kd.C_alloc ?_ _) | (with_reducible refine Kd.C_drewN ?_ _) | (with_reducible refine Kd.C_drew ?_) | exact HR423_0.out)) x15_2 p424 q424
              cases e424
              replace p424 := eq_true p424
              replace q424 := eq_true q424
              have p29 : 0 ≤ (x15_2 : Int) := of_decide_eq_true (by first | (with_reducible assumption) | assumption)
              have q29 : x15_2 < (5 : Int) := of_decide_eq_true (by first | (with_reducible assumption) | assumption)
              have hx29 := bt_at (⟨#[97, 32, 98, 32, 99]⟩ : ByteArray) x15_2
              replace p29 := eq_true p29
              replace q29 := eq_true q29
              have p425 : 0 ≤ (0 : Int) := (by omega)
              have q425 : 0 < (t413.length : Int) := of_decide_eq_true (by first | (with_reducible assumption) | assumption)
              obtain ⟨ad425, A425_0, c425_0, e425, hx425_0, hx425_1, hx425_2, hl425_0, hi425_0⟩ := at_T55 (Kd.S_reads' HO_13.out).2.2 0 p425 q425
              obtain rfl : ad420 = ad425 := (by injection e425)
              obtain ⟨ce425, hce425, hMe425, hcc425⟩ := Kd.S_get HO_13.out z55 0 p425 (by first | exact q425 | exact of_decide_eq_true (by first | (with_reducible assumption) | assumption) | (have e_ := (Kd.S_reads' HO_13.out).1; omega))
              obtain ⟨ve425_0, rfl, ge425_0⟩ := k55_openM hMe425
              have hv425_0 := hcc425 0 _ rfl
              rw [Nat.add_zero] at hv425_0
              replace hv425_0 := Option.some.inj (hv425_0.symm.trans hx425_0)
              rw [hv425_0] at ge425_0
              have HL425_0 := Aside0.mk (show Kd.R k57 57 _ _ _ _ ((rd_T55 t413 0).f0) from ge425_0)
              clear hv425_0 ge425_0 hcc425 hce425
              have qi425 : (0 < t413.length) = True := eq_true (by omega)
              (try rw [show ((0 : Int)).toNat = 0 from rfl] at hx425_0)
              (try rw [show 0 * 3 = 0 from rfl] at hx425_0)
              (try rw [Addr.add_zero'] at hx425_0)
              (try rw [show ((0 : Int)).toNat = 0 from rfl] at hx425_1)
              (try rw [show 0 * 3 = 0 from rfl] at hx425_1)
              (try rw [Addr.add_zero'] at hx425_1)
              (try rw [show ((0 : Int)).toNat = 0 from rfl] at hx425_2)
              (try rw [show 0 * 3 = 0 from rfl] at hx425_2)
              (try rw [Addr.add_zero'] at hx425_2)
              have HR425_0 := Aside0.mk hi425_0
              have HC425_0 := Aside0.mk hl425_0
              clear hi425_0 hl425_0
              replace p425 := eq_true p425
              replace q425 := eq_true q425
              have ea_ := Option.some.inj (hx420_0.symm.trans hx425_0)
              injection ea_ with ea_ en_ ec_
              subst ea_
              subst ec_
              clear en_
              have p426 : 0 ≤ (x15_2 : Int) := of_decide_eq_true (by first | (with_reducible assumption) | assumption)
              have q426 : x15_2 < (((rd_T55 t413 0).f0).length : Int) := of_decide_eq_true (by first | (with_reducible assumption) | assumption)
              obtain ⟨ad426, e426, hx426_0, hx426_1, hx426_2, hx426_3⟩ := at_T57 (by repeat (first | (with_reducible exact HR425_0.out) | (with_reducible refine Kd.C_alloc ?_ _) | (with_reducible refine Kd.C_drewN ?_ _) | (with_reducible refine Kd.C_drew ?_) | exact HR425_0.out)) x15_2 p426 q426
              cases e426
              replace p426 := eq_true p426
              replace q426 := eq_true q426
              go_wp2
              repeat (go_quiet (fail); try go_wp2)
              go_ret
              exact ⟨by first | rfl | (simp [errW_none, errW_some] <;> rfl) | (simp [*, errW_none, errW_some] <;> rfl), by repeat (with_reducible first | exact HB.out | apply below_alloc | apply pw_below_drewN | apply below_drew1)⟩
            ·rw [if_neg c30] at H
             have c30b0 : (((rd_T57 ((rd_T55 t413 0).f0) x15_2).f1) == (bt (⟨#[97, 32, 98, 32, 99]⟩ : ByteArray) x15_2)) = false := beq_eq_false_iff_ne.mpr c30
             have c30b1 : (((rd_T57 ((rd_T55 t413 0).f0) x15_2).f1) != (bt (⟨#[97, 32, 98, 32, 99]⟩ : ByteArray) x15_2)) = true := bne_iff_ne.mpr c30
             obtain rfl := Option.some.inj H
             obtain ⟨Ao34, co34, eo34⟩ := Kd.S_slice HO_13.out
             subst eo34
             have p420 : 0 ≤ (0 : Int) := (by omega)
             have q420 : 0 < (t413.length : Int) := of_decide_eq_true (by first | (with_reducible assumption) | assumption)
             obtain ⟨ad420, A420_0, c420_0, e420, hx420_0, hx420_1, hx420_2, hl420_0, hi420_0⟩ := at_T55 (Kd.S_reads' HO_13.out).2.2 0 p420 q420
             cases e420
             obtain ⟨ce420, hce420, hMe420, hcc420⟩ := Kd.S_get HO_13.out z55 0 p420 (by first | exact q420 | exact of_decide_eq_true (by first | (with_reducible assumption) | assumption) | (have e_ := (Kd.S_reads' HO_13.out).1; omega))
             obtain ⟨ve420_0, rfl, ge420_0⟩ := k55_openM hMe420
             have hv420_0 := hcc420 0 _ rfl
             rw [Nat.add_zero] at hv420_0
             replace hv420_0 := Option.some.inj (hv420_0.symm.trans hx420_0)
             rw [hv420_0] at ge420_0
             have HL420_0 := Aside0.mk (show Kd.R k57 57 _ _ _ _ ((rd_T55 t413 0).f0) from ge420_0)
             clear hv420_0 ge420_0 hcc420 hce420
             have qi420 : (0 < t413.length) = True := eq_true (by omega)
             (try rw [show ((0 : Int)).toNat = 0 from rfl] at hx420_0)
             (try rw [show 0 * 3 = 0 from rfl] at hx420_0)
             (try rw [Addr.add_zero'] at hx420_0)
             (try rw [show ((0 : Int)).toNat = 0 from rfl] at hx420_1)
             (try rw [show 0 * 3 = 0 from rfl] at hx420_1)
             (try rw [Addr.add_zero'] at hx420_1)
             (try rw [show ((0 : Int)).toNat = 0 from rfl] at hx420_2)
             (try rw [show 0 * 3 = 0 from rfl] at hx420_2)
             (try rw [Addr.add_zero'] at hx420_2)
             have HR420_0 := Aside0.mk hi420_0
             have HC420_0 := Aside0.mk hl420_0
             clear hi420_0 hl420_0
             replace p420 := eq_true p420
             replace q420 := eq_true q420
             have p421 : 0 ≤ (x15_2 : Int) := of_decide_eq_true (by first | (with_reducible assumption) | assumption)
             have q421 : x15_2 < (((rd_T55 t413 0).f0).length : Int) := of_decide_eq_true (by first | (with_reducible assumption) | assumption)
             obtain ⟨ad421, e421, hx421_0, hx421_1, hx421_2, hx421_3⟩ := at_T57 (by repeat (first | (with_reducible exact HR420_0.out) | (with_reducible refine Kd.C_alloc ?_ _) | (with_reducible refine Kd.C_drewN ?_ _) | (with_reducible refine Kd.C_drew ?_) | exact HR420_0.out)) x15_2 p421 q421
             cases e421
             replace p421 := eq_true p421
             replace q421 := eq_true q421
             have p422 : 0 ≤ (x15_2 : Int) := of_decide_eq_true (by first | (with_reducible assumption) | assumption)
             have q422 : x15_2 < (l4.length : Int) := of_decide_eq_true (by first | (with_reducible assumption) | assumption)
             obtain ⟨ad422, e422, hx422_0⟩ := Kd.at_int HR4.out x15_2 p422 q422
             cases e422
             replace hx422_0 := (HB.out.cell (World.block_lt_of_cell? w _ hx422_0)).trans hx422_0
             replace p422 := eq_true p422
             replace q422 := eq_true q422
             have p423 : 0 ≤ (0 : Int) := (by omega)
             have q423 : 0 < (t413.length : Int) := of_decide_eq_true (by first | (with_reducible assumption) | assumption)
             obtain ⟨ad423, A423_0, c423_0, e423, hx423_0, hx423_1, hx423_2, hl423_0, hi423_0⟩ := at_T55 (Kd.S_reads' HO_13.out).2.2 0 p423 q423
             obtain rfl : ad420 = ad423 := (by injection e423)
             obtain ⟨ce423, hce423, hMe423, hcc423⟩ := Kd.S_get HO_13.out z55 0 p423 (by first | exact q423 | exact of_decide_eq_true (by first | (with_reducible assumption) | assumption) | (have e_ := (Kd.S_reads' HO_13.out).1; omega))
             obtain ⟨ve423_0, rfl, ge423_0⟩ := k55_openM hMe423
             have hv423_0 := hcc423 0 _ rfl
             rw [Nat.add_zero] at hv423_0
             replace hv423_0 := Option.some.inj (hv423_0.symm.trans hx423_0)
             rw [hv423_0] at ge423_0
             have HL423_0 := Aside0.mk (show Kd.R k57 57 _ _ _ _ ((rd_T55 t413 0).f0) from ge423_0)
             clear hv423_0 ge423_0 hcc423 hce423
             have qi423 : (0 < t413.length) = True := eq_true (by omega)
             (try rw [show ((0 : Int)).toNat = 0 from rfl] at hx423_0)
             (try rw [show 0 * 3 = 0 from rfl] at hx423_0)
             (try rw [Addr.add_zero'] at hx423_0)
             (try rw [show ((0 : Int)).toNat = 0 from rfl] at hx423_1)
             (try rw [show 0 * 3 = 0 from rfl] at hx423_1)
             (try rw [Addr.add_zero'] at hx423_1)
             (try rw [show ((0 : Int)).toNat = 0 from rfl] at hx423_2)
             (try rw [show 0 * 3 = 0 from rfl] at hx423_2)
             (try rw [Addr.add_zero'] at hx423_2)
             have HR423_0 := Aside0.mk hi423_0
             have HC423_0 := Aside0.mk hl423_0
             clear hi423_0 hl423_0
             replace p423 := eq_true p423
             replace q423 := eq_true q423
             have ea_ := Option.some.inj (hx420_0.symm.trans hx423_0)
             injection ea_ with ea_ en_ ec_
             subst ea_
             subst ec_
             clear en_
             have p424 : 0 ≤ (x15_2 : Int) := of_decide_eq_true (by first | (with_reducible assumption) | assumption)
             have q424 : x15_2 < (((rd_T55 t413 0).f0).length : Int) := of_decide_eq_true (by first | (with_reducible assumption) | assumption)
             obtain ⟨ad424, e424, hx424_0, hx424_1, hx424_2, hx424_3⟩ := at_T57 (by repeat (first | (with_reducible exact HR423_0.out) | (with_reducible refine Kd.C_alloc ?_ _) | (with_reducible refine Kd.C_drewN ?_ _) | (with_reducible refine Kd.C_drew ?_) | exact HR423_0.out)) x15_2 p424 q424
             cases e424
             replace p424 := eq_true p424
             replace q424 := eq_true q424
             have p29 : 0 ≤ (x15_2 : Int) := of_decide_eq_true (by first | (with_reducible assumption) | assumption)
             have q29 : x15_2 < (5 : Int) := of_decide_eq_true (by first | (with_reducible assumption) | assumption)
             have hx29 := bt_at (⟨#[97, 32, 98, 32, 99]⟩ : ByteArray) x15_2
             replace p29 := eq_true p29
             replace q29 := eq_true q29
             go_wp2
             repeat (go_quiet (fail); try go_wp2)
             go_ret
             exact ⟨by first | rfl | (simp [errW_none, errW_some] <;> rfl) | (simp [*, errW_none, errW_some] <;> rfl), by repeat (with_reducible first | exact HB.out | apply below_alloc | apply pw_below_drewN | apply below_drew1)⟩
           ·rw [if_neg c28] at H
            exact absurd H (by simp)
          ·rw [if_neg c27] at H
           have c27b0 : (((rd_T57 ((rd_T55 t413 0).f0) x15_2).f0) == (rd l4 x15_2)) = false := beq_eq_false_iff_ne.mpr c27
           have c27b1 : (((rd_T57 ((rd_T55 t413 0).f0) x15_2).f0) != (rd l4 x15_2)) = true := bne_iff_ne.mpr c27
           obtain rfl := Option.some.inj H
           obtain ⟨Ao35, co35, eo35⟩ := Kd.S_slice HO_13.out
           subst eo35
           have p420 : 0 ≤ (0 : Int) := (by omega)
           have q420 : 0 < (t413.length : Int) := of_decide_eq_true (by first | (with_reducible assumption) | assumption)
           obtain ⟨ad420, A420_0, c420_0, e420, hx420_0, hx420_1, hx420_2, hl420_0, hi420_0⟩ := at_T55 (Kd.S_reads' HO_13.out).2.2 0 p420 q420
           cases e420
           obtain ⟨ce420, hce420, hMe420, hcc420⟩ := Kd.S_get HO_13.out z55 0 p420 (by first | exact q420 | exact of_decide_eq_true (by first | (with_reducible assumption) | assumption) | (have e_ := (Kd.S_reads' HO_13.out).1; omega))
           obtain ⟨ve420_0, rfl, ge420_0⟩ := k55_openM hMe420
           have hv420_0 := hcc420 0 _ rfl
           rw [Nat.add_zero] at hv420_0
           replace hv420_0 := Option.some.inj (hv420_0.symm.trans hx420_0)
           rw [hv420_0] at ge420_0
           have HL420_0 := Aside0.mk (show Kd.R k57 57 _ _ _ _ ((rd_T55 t413 0).f0) from ge420_0)
           clear hv420_0 ge420_0 hcc420 hce420
           have qi420 : (0 < t413.length) = True := eq_true (by omega)
           (try rw [show ((0 : Int)).toNat = 0 from rfl] at hx420_0)
           (try rw [show 0 * 3 = 0 from rfl] at hx420_0)
           (try rw [Addr.add_zero'] at hx420_0)
           (try rw [show ((0 : Int)).toNat = 0 from rfl] at hx420_1)
           (try rw [show 0 * 3 = 0 from rfl] at hx420_1)
           (try rw [Addr.add_zero'] at hx420_1)
           (try rw [show ((0 : Int)).toNat = 0 from rfl] at hx420_2)
           (try rw [show 0 * 3 = 0 from rfl] at hx420_2)
           (try rw [Addr.add_zero'] at hx420_2)
           have HR420_0 := Aside0.mk hi420_0
           have HC420_0 := Aside0.mk hl420_0
           clear hi420_0 hl420_0
           replace p420 := eq_true p420
           replace q420 := eq_true q420
           have p421 : 0 ≤ (x15_2 : Int) := of_decide_eq_true (by first | (with_reducible assumption) | assumption)
           have q421 : x15_2 < (((rd_T55 t413 0).f0).length : Int) := of_decide_eq_true (by first | (with_reducible assumption) | assumption)
           obtain ⟨ad421, e421, hx421_0, hx421_1, hx421_2, hx421_3⟩ := at_T57 (by repeat (first | (with_reducible exact HR420_0.out) | (with_reducible refine Kd.C_alloc ?_ _) | (with_reducible refine Kd.C_drewN ?_ _) | (with_reducible refine Kd.C_drew ?_) | exact HR420_0.out)) x15_2 p421 q421
           cases e421
           replace p421 := eq_true p421
           replace q421 := eq_true q421
           have p422 : 0 ≤ (x15_2 : Int) := of_decide_eq_true (by first | (with_reducible assumption) | assumption)
           have q422 : x15_2 < (l4.length : Int) := of_decide_eq_true (by first | (with_reducible assumption) | assumption)
           obtain ⟨ad422, e422, hx422_0⟩ := Kd.at_int HR4.out x15_2 p422 q422
           cases e422
           replace hx422_0 := (HB.out.cell (World.block_lt_of_cell? w _ hx422_0)).trans hx422_0
           replace p422 := eq_true p422
           replace q422 := eq_true q422
           go_wp2
           repeat (go_quiet (fail); try go_wp2)
           go_ret
           exact ⟨by first | rfl | (simp [errW_none, errW_some] <;> rfl) | (simp [*, errW_none, errW_some] <;> rfl), by repeat (with_reducible first | exact HB.out | apply below_alloc | apply pw_below_drewN | apply below_drew1)⟩
         ·rw [if_neg c26] at H
          exact absurd H (by simp)
        ·rw [if_neg c25] at H
         exact absurd H (by simp)
       ·rw [if_neg c24] at H
        exact absurd H (by simp)
      ·rw [if_neg c23] at H
       have c23b0 : decide (x15_2 < (l4.length : Int)) = false := decide_eq_false c23
       clear c23
       obtain rfl := Option.some.inj H
       go_wp2
       repeat (go_quiet (fail); try go_wp2)
       go_ret
       exact ⟨by first | rfl | (simp [errW_none, errW_some] <;> rfl) | (simp [*, errW_none, errW_some] <;> rfl), by repeat (with_reducible first | exact HB.out | apply below_alloc | apply pw_below_drewN | apply below_drew1)⟩
def styluslaw20_same.l0 : Nat → List Int → List Int → Int → Option (Bool)
 | 0, _, _, _ => none
 | k + 1, x0, x1, x5 => if x5 < (x0.length : Int) then (if 0 ≤ x5 then (if x5 < (x1.length : Int) then (if (rd x0 x5) = (rd x1 x5) then (styluslaw20_same.l0 k x0 x1 (wrap64 (x5 + 1))) else (some false)) else (none)) else (none)) else (some true)
def styluslaw20_same.f (k : Nat) (l0 : List Int) (l1 : List Int) : Option (Bool) := if (l0.length : Int) = (l1.length : Int) then (styluslaw20_same.l0 k l0 l1 0) else (some false)
theorem styluslaw20_same.mono_l : ∀ k, (∀ y0 y1 y2, LeO (styluslaw20_same.l0 k y0 y1 y2) (styluslaw20_same.l0 (k + 1) y0 y1 y2))
 | 0 => fun _ _ _ r h => by simp [styluslaw20_same.l0] at h
 | k + 1 => by
  have ih0 := styluslaw20_same.mono_l k
  ·intro y0 y1 y2
   unfold styluslaw20_same.l0
   repeat' first
   | (with_reducible exact ih0 _ _ _)
   | (with_reducible exact LeO.refl _)
   | (with_reducible exact LeO.none _)
   | (with_reducible refine LeO.ite ?_ ?_)
   | (with_reducible refine LeO.bind ?_ (fun _ => ?_))
   | exact ih0 _ _ _
   | exact LeO.none _
   | refine LeO.ite ?_ ?_
   | refine LeO.bind ?_ (fun _ => ?_)
theorem styluslaw20_same.mono : ∀ a0 a1 k, LeO (styluslaw20_same.f k a0 a1) (styluslaw20_same.f (k + 1) a0 a1) := by
 intro a0 a1 k
 have ih0 := styluslaw20_same.mono_l k
 unfold styluslaw20_same.f
 repeat' first
   | (with_reducible exact ih0 _ _ _)
   | (with_reducible exact LeO.refl _)
   | (with_reducible exact LeO.none _)
   | (with_reducible refine LeO.ite ?_ ?_)
   | (with_reducible refine LeO.bind ?_ (fun _ => ?_))
   | exact ih0 _ _ _
   | exact LeO.none _
   | refine LeO.ite ?_ ?_
   | refine LeO.bind ?_ (fun _ => ?_)
set_option maxHeartbeats 8000000 in
set_option maxRecDepth 100000 in
theorem styluslaw20_same.calls (k : Nat) (A0 : Option Addr) (c0 : Nat) (l0 : List Int) (A1 : Option Addr) (c1 : Nat) (l1 : List Int) (r : Bool) (w : World) (hr0 : Kd.C (Kd.int .i64) w A0 l0.length l0) (hc0 : l0.length ≤ c0) (hr1 : Kd.C (Kd.int .i64) w A1 l1.length l1) (hc1 : l1.length ≤ c1) (h : styluslaw20_same.f k l0 l1 = some r) :
  Calls Try.prog 29 #[.slice A0 l0.length c0, .slice A1 l1.length c1] w fun e w' => e = .returned (.bool r) ∧ Drawn0 w w' := by
 have HR0 := Aside0.mk hr0
 have HC0 := Aside0.mk hc0
 clear hr0 hc0
 have HR1 := Aside0.mk hr1
 have HC1 := Aside0.mk hc1
 clear hr1 hc1
 have H : (if (l0.length : Int) = (l1.length : Int) then (styluslaw20_same.l0 k l0 l1 0) else (some false)) = some r := h
 clear h
 by_cases c3 : (l0.length : Int) = (l1.length : Int)
 ·rw [if_pos c3] at H
  have c3b0 : ((l0.length : Int) == (l1.length : Int)) = true := beq_iff_eq.mpr c3
  have c3b1 : ((l0.length : Int) != (l1.length : Int)) = false := bne_eq_false_iff_eq.mpr c3
  have c3b2 : (l0.length == l1.length) = true := by first | simpa using c3 | (simp at c3 ⊢; omega)
  clear c3
  have H' := Aside0.mk H
  clear H
  go_enter Try.func29, Try.ntmps29
  go_wp2
  repeat (go_quiet (fail); try go_wp2)
  go_loopg [5] k (fun kq v5 w' => ∃ (x5_1 : Int), v5 = .int .i64 x5_1 ∧ Aside0 (styluslaw20_same.l0 kq l0 l1 x5_1 = some r) ∧ Aside0 (kq ≤ k) ∧ Drawn0 w w')
  case atStart => exact ⟨(0), (by first | rfl | (simp; done) | (simp [*]; done)), H', ⟨Nat.le_refl _⟩, by repeat (first | exact Drawn0.refl _ | apply Drawn0.step)⟩
  case round =>
   clear H'
   try clear c1
   try clear c2
   try clear p2
   try clear c3
   try clear c3b0
   try clear c3b1
   try clear c3b2
   obtain ⟨x5_1, rfl, HA, HK1, ⟨m1, rfl⟩⟩ := hrel
   cases gk with
   | zero => exact absurd HA.out (by simp [styluslaw20_same.l0])
   | succ k1 =>
    have H := HA.out
    clear HA
    simp only [styluslaw20_same.l0] at H
    by_cases c4 : x5_1 < (l0.length : Int)
    ·rw [if_pos c4] at H
     have c4b0 : decide (x5_1 < (l0.length : Int)) = true := decide_eq_true c4
     clear c4
     by_cases c5 : 0 ≤ x5_1
     ·rw [if_pos c5] at H
      have c5b0 : decide (0 ≤ x5_1) = true := decide_eq_true c5
      clear c5
      by_cases c6 : x5_1 < (l1.length : Int)
      ·rw [if_pos c6] at H
       have c6b0 : decide (x5_1 < (l1.length : Int)) = true := decide_eq_true c6
       clear c6
       by_cases c7 : (rd l0 x5_1) = (rd l1 x5_1)
       ·rw [if_pos c7] at H
        have c7b0 : ((rd l0 x5_1) == (rd l1 x5_1)) = true := beq_iff_eq.mpr c7
        have c7b1 : ((rd l0 x5_1) != (rd l1 x5_1)) = false := bne_eq_false_iff_eq.mpr c7
        clear c7
        have H' := Aside0.mk H
        clear H
        have p427 : 0 ≤ (x5_1 : Int) := of_decide_eq_true (by first | (with_reducible assumption) | assumption)
        have q427 : x5_1 < (l0.length : Int) := of_decide_eq_true (by first | (with_reducible assumption) | assumption)
        obtain ⟨ad427, e427, hx427_0⟩ := Kd.at_int HR0.out x5_1 p427 q427
        cases e427
        replace p427 := eq_true p427
        replace q427 := eq_true q427
        have p428 : 0 ≤ (x5_1 : Int) := of_decide_eq_true (by first | (with_reducible assumption) | assumption)
        have q428 : x5_1 < (l1.length : Int) := of_decide_eq_true (by first | (with_reducible assumption) | assumption)
        obtain ⟨ad428, e428, hx428_0⟩ := Kd.at_int HR1.out x5_1 p428 q428
        cases e428
        replace p428 := eq_true p428
        replace q428 := eq_true q428
        go_wp2
        repeat (go_quiet (fail); try go_wp2)
        go_roundg k1
        case measure => have := HK1.out; omega
        case rel => exact ⟨(wrap64 (x5_1 + 1)), (by first | rfl | (simp; done) | (simp [*]; done)), H', ⟨by have := HK1.out; omega⟩, by repeat (first | exact Drawn0.refl _ | apply Drawn0.step)⟩
       ·rw [if_neg c7] at H
        have c7b0 : ((rd l0 x5_1) == (rd l1 x5_1)) = false := beq_eq_false_iff_ne.mpr c7
        have c7b1 : ((rd l0 x5_1) != (rd l1 x5_1)) = true := bne_iff_ne.mpr c7
        obtain rfl := Option.some.inj H
        have p427 : 0 ≤ (x5_1 : Int) := of_decide_eq_true (by first | (with_reducible assumption) | assumption)
        have q427 : x5_1 < (l0.length : Int) := of_decide_eq_true (by first | (with_reducible assumption) | assumption)
        obtain ⟨ad427, e427, hx427_0⟩ := Kd.at_int HR0.out x5_1 p427 q427
        cases e427
        replace p427 := eq_true p427
        replace q427 := eq_true q427
        have p428 : 0 ≤ (x5_1 : Int) := of_decide_eq_true (by first | (with_reducible assumption) | assumption)
        have q428 : x5_1 < (l1.length : Int) := of_decide_eq_true (by first | (with_reducible assumption) | assumption)
        obtain ⟨ad428, e428, hx428_0⟩ := Kd.at_int HR1.out x5_1 p428 q428
        cases e428
        replace p428 := eq_true p428
        replace q428 := eq_true q428
        go_wp2
        repeat (go_quiet (fail); try go_wp2)
        go_ret
        exact ⟨by first | rfl | (simp; done) | (simp [*]; done), by repeat (first | exact Drawn0.refl _ | apply Drawn0.step)⟩
      ·rw [if_neg c6] at H
       exact absurd H (by simp)
     ·rw [if_neg c5] at H
      exact absurd H (by simp)
    ·rw [if_neg c4] at H
     have c4b0 : decide (x5_1 < (l0.length : Int)) = false := decide_eq_false c4
     clear c4
     obtain rfl := Option.some.inj H
     go_wp2
     repeat (go_quiet (fail); try go_wp2)
     go_ret
     exact ⟨by first | rfl | (simp; done) | (simp [*]; done), by repeat (first | exact Drawn0.refl _ | apply Drawn0.step)⟩
 ·rw [if_neg c3] at H
  have c3b0 : ((l0.length : Int) == (l1.length : Int)) = false := beq_eq_false_iff_ne.mpr c3
  have c3b1 : ((l0.length : Int) != (l1.length : Int)) = true := bne_iff_ne.mpr c3
  have c3b2 : (l0.length == l1.length) = false := by first | simpa using c3 | (simp at c3 ⊢; omega)
  obtain rfl := Option.some.inj H
  go_enter Try.func29, Try.ntmps29
  go_wp2
  repeat (go_quiet (fail); try go_wp2)
  go_ret
  exact ⟨by first | rfl | (simp; done) | (simp [*]; done), by repeat (first | exact Drawn0.refl _ | apply Drawn0.step)⟩
mutual
def lines_end.l0 : Nat → List (S43) → Int → Int → Int → Int → Option (Int)
 | 0, _, _, _, _, _ => none
 | k + 1, x0, x1, x7, x8, x9 => if x9 ≤ (x0.length : Int) then (if x9 = (x0.length : Int) then (lines_end.j1 k x0 x1 x7 x8 x9 true) else (if 0 ≤ x9 then (if x9 < (x0.length : Int) then (lines_end.j1 k x0 x1 x7 x8 x9 (((rd_T43 x0 x9).f0) == 2)) else (none)) else (none))) else (some x7)
def lines_end.j1 : Nat → List (S43) → Int → Int → Int → Int → Bool → Option (Int)
 | 0, _, _, _, _, _, _ => none
 | k + 1, x0, x1, x7, x8, x9, x28 => if x28 = true then (if x7 ≥ 0 then (lines_end.j2 k x0 x1 x7 x8 x9 (decide (x8 > x1))) else (lines_end.j2 k x0 x1 x7 x8 x9 false)) else (if x9 < (x0.length : Int) then (if 0 ≤ x9 then ((lines_wide.f ((rd_T43 x0 x9).f0) ((rd_T43 x0 x9).f1) ((rd_T43 x0 x9).f2) ((rd_T43 x0 x9).f3) ((rd_T43 x0 x9).f4)).bind fun t433 => (lines_end.l0 k x0 x1 x7 (wrap64 (x8 + t433)) (wrap64 (x9 + 1)))) else (none)) else (lines_end.l0 k x0 x1 x7 x8 (wrap64 (x9 + 1))))
def lines_end.j2 : Nat → List (S43) → Int → Int → Int → Int → Bool → Option (Int)
 | 0, _, _, _, _, _, _ => none
 | k + 1, x0, x1, x7, x8, x9, x35 => if x35 = true then (some x7) else (if x8 > x1 then (some x9) else (if x9 < (x0.length : Int) then (if 0 ≤ x9 then ((lines_wide.f ((rd_T43 x0 x9).f0) ((rd_T43 x0 x9).f1) ((rd_T43 x0 x9).f2) ((rd_T43 x0 x9).f3) ((rd_T43 x0 x9).f4)).bind fun t431 => (lines_end.l0 k x0 x1 x9 (wrap64 (x8 + t431)) (wrap64 (x9 + 1)))) else (none)) else (lines_end.l0 k x0 x1 x9 x8 (wrap64 (x9 + 1)))))
end
def lines_end.f (k : Nat) (l0 : List (S43)) (a1 : Int) (a2 : Int) : Option (Int) := lines_end.l0 k l0 a1 (-1) 0 a2
theorem lines_end.mono_l : ∀ k, (∀ y0 y1 y2 y3 y4, LeO (lines_end.l0 k y0 y1 y2 y3 y4) (lines_end.l0 (k + 1) y0 y1 y2 y3 y4)) ∧ (∀ y0 y1 y2 y3 y4 y5, LeO (lines_end.j1 k y0 y1 y2 y3 y4 y5) (lines_end.j1 (k + 1) y0 y1 y2 y3 y4 y5)) ∧ (∀ y0 y1 y2 y3 y4 y5, LeO (lines_end.j2 k y0 y1 y2 y3 y4 y5) (lines_end.j2 (k + 1) y0 y1 y2 y3 y4 y5))
 | 0 => ⟨fun _ _ _ _ _ r h => by simp [lines_end.l0] at h, fun _ _ _ _ _ _ r h => by simp [lines_end.j1] at h, fun _ _ _ _ _ _ r h => by simp [lines_end.j2] at h⟩
 | k + 1 => by
  obtain ⟨ih0, ih1, ih2⟩ := lines_end.mono_l k
  refine ⟨?_, ?_, ?_⟩
  ·intro y0 y1 y2 y3 y4
   unfold lines_end.l0
   repeat' first
   | (with_reducible exact ih0 _ _ _ _ _)
   | (with_reducible exact ih1 _ _ _ _ _ _)
   | (with_reducible exact ih2 _ _ _ _ _ _)
   | (with_reducible exact LeO.refl _)
   | (with_reducible exact LeO.none _)
   | (with_reducible refine LeO.ite ?_ ?_)
   | (with_reducible refine LeO.bind ?_ (fun _ => ?_))
   | exact LeO.none _
   | refine LeO.ite ?_ ?_
   | refine LeO.bind ?_ (fun _ => ?_)
  ·intro y0 y1 y2 y3 y4 y5
   unfold lines_end.j1
   repeat' first
   | (with_reducible exact ih0 _ _ _ _ _)
   | (with_reducible exact ih1 _ _ _ _ _ _)
   | (with_reducible exact ih2 _ _ _ _ _ _)
   | (with_reducible exact LeO.refl _)
   | (with_reducible exact LeO.none _)
   | (with_reducible refine LeO.ite ?_ ?_)
   | (with_reducible refine LeO.bind ?_ (fun _ => ?_))
   | exact LeO.none _
   | refine LeO.ite ?_ ?_
   | refine LeO.bind ?_ (fun _ => ?_)
  ·intro y0 y1 y2 y3 y4 y5
   unfold lines_end.j2
   repeat' first
   | (with_reducible exact ih0 _ _ _ _ _)
   | (with_reducible exact ih1 _ _ _ _ _ _)
   | (with_reducible exact ih2 _ _ _ _ _ _)
   | (with_reducible exact LeO.refl _)
   | (with_reducible exact LeO.none _)
   | (with_reducible refine LeO.ite ?_ ?_)
   | (with_reducible refine LeO.bind ?_ (fun _ => ?_))
   | exact LeO.none _
   | refine LeO.ite ?_ ?_
   | refine LeO.bind ?_ (fun _ => ?_)
theorem lines_end.mono : ∀ a0 a1 a2 k, LeO (lines_end.f k a0 a1 a2) (lines_end.f (k + 1) a0 a1 a2) := by
 intro a0 a1 a2 k
 obtain ⟨ih0, ih1, ih2⟩ := lines_end.mono_l k
 unfold lines_end.f
 repeat' first
   | (with_reducible exact ih0 _ _ _ _ _)
   | (with_reducible exact ih1 _ _ _ _ _ _)
   | (with_reducible exact ih2 _ _ _ _ _ _)
   | (with_reducible exact LeO.refl _)
   | (with_reducible exact LeO.none _)
   | (with_reducible refine LeO.ite ?_ ?_)
   | (with_reducible refine LeO.bind ?_ (fun _ => ?_))
   | exact LeO.none _
   | refine LeO.ite ?_ ?_
   | refine LeO.bind ?_ (fun _ => ?_)
set_option maxHeartbeats 8000000 in
set_option maxRecDepth 100000 in
theorem lines_end.calls (k : Nat) (A0 : Option Addr) (c0 : Nat) (l0 : List (S43)) (a1 : Int) (a2 : Int) (r : Int) (w : World) (hr0 : Kd.C k43 w A0 l0.length l0) (hc0 : l0.length ≤ c0) (h : lines_end.f k l0 a1 a2 = some r) :
  Calls Try.prog 68 #[.slice A0 l0.length c0, .int .i64 a1, .int .i64 a2] w fun e w' => e = .returned (.int .i64 r) ∧ Below w.heap.size w w' := by
 have hu43 := Try.underlying43
 have HR0 := Aside0.mk hr0
 have HC0 := Aside0.mk hc0
 clear hr0 hc0
 have HB := Aside0.mk (Below.refl w.heap.size w)
 have H : (lines_end.l0 k l0 a1 (-1) 0 a2) = some r := h
 clear h
 have H' := Aside0.mk H
 clear H
 go_enter Try.func68, Try.ntmps68
 go_wp2
 go_loopg [7, 8, 9] k (fun kq v7 v8 v9 w' => ∃ (x7_1 : Int) (x8_1 : Int) (x9_1 : Int), v7 = .int .i64 x7_1 ∧ v8 = .int .i64 x8_1 ∧ v9 = .int .i64 x9_1 ∧ Aside0 (lines_end.l0 kq l0 a1 x7_1 x8_1 x9_1 = some r) ∧ Aside0 (kq ≤ k) ∧ Aside0 (Below w.heap.size w w'))
 case atStart => exact ⟨((-1)), (0), (a2), (by first | rfl | (simp; done) | (simp [*]; done)), (by first | rfl | (simp; done) | (simp [*]; done)), (by first | rfl | (simp; done) | (simp [*]; done)), H', ⟨Nat.le_refl _⟩, ⟨by repeat (with_reducible first | exact HB.out | apply below_alloc | apply pw_below_drewN | apply below_drew1)⟩⟩
 case round =>
  clear H'
  try clear p2
  obtain ⟨x7_1, x8_1, x9_1, rfl, rfl, rfl, HA, HK1, HB⟩ := hrel
  cases gk with
  | zero => exact absurd HA.out (by simp [lines_end.l0])
  | succ k1 =>
   have H := HA.out
   clear HA
   simp only [lines_end.l0] at H
   by_cases c4 : x9_1 ≤ (l0.length : Int)
   ·rw [if_pos c4] at H
    have c4b0 : decide (x9_1 ≤ (l0.length : Int)) = true := decide_eq_true c4
    clear c4
    have HC5 := Aside0.mk H
    clear H
    go_upto_region 5 with (fail)
    go_cut [28] (fun v28 wc => ∃ (kq : Nat) (x28_4 : Bool), v28 = .bool x28_4 ∧ Aside0 (lines_end.j1 kq l0 a1 x7_1 x8_1 x9_1 x28_4 = some r) ∧ Aside0 (kq ≤ k1) ∧ Aside0 (Below w.heap.size w wc))
    case first =>
     have H := HC5.out
     clear HC5
     by_cases c6 : x9_1 = (l0.length : Int)
     ·rw [if_pos c6] at H
      have c6b0 : (x9_1 == (l0.length : Int)) = true := beq_iff_eq.mpr c6
      have c6b1 : (x9_1 != (l0.length : Int)) = false := bne_eq_false_iff_eq.mpr c6
      clear c6
      (first | rw [c6b0] | (simp only [i64_w, i32_w]; rw [c6b0]) | skip)
      have H' := Aside0.mk H
      clear H
      go_wp2
      go_meet
      case rel => exact ⟨_, (true), (by first | rfl | (simp; done) | (simp [*]; done)), H', ⟨by have := HK1.out; first | omega | exact Nat.le_refl _⟩, ⟨by repeat (with_reducible first | exact HB.out | apply below_alloc | apply pw_below_drewN | apply below_drew1)⟩⟩
     ·rw [if_neg c6] at H
      have c6b0 : (x9_1 == (l0.length : Int)) = false := beq_eq_false_iff_ne.mpr c6
      have c6b1 : (x9_1 != (l0.length : Int)) = true := bne_iff_ne.mpr c6
      (first | rw [c6b0] | (simp only [i64_w, i32_w]; rw [c6b0]) | skip)
      by_cases c7 : 0 ≤ x9_1
      ·rw [if_pos c7] at H
       have c7b0 : decide (0 ≤ x9_1) = true := decide_eq_true c7
       clear c7
       by_cases c8 : x9_1 < (l0.length : Int)
       ·rw [if_pos c8] at H
        have c8b0 : decide (x9_1 < (l0.length : Int)) = true := decide_eq_true c8
        clear c8
        have H' := Aside0.mk H
        clear H
        have p429 : 0 ≤ (x9_1 : Int) := of_decide_eq_true (by first | (with_reducible assumption) | assumption)
        have q429 : x9_1 < (l0.length : Int) := of_decide_eq_true (by first | (with_reducible assumption) | assumption)
        obtain ⟨ad429, e429, hx429_0, hx429_1, hx429_2, hx429_3, hx429_4⟩ := at_T43 HR0.out x9_1 p429 q429
        cases e429
        replace hx429_0 := (HB.out.cell (World.block_lt_of_cell? w _ hx429_0)).trans hx429_0
        replace hx429_1 := (HB.out.cell (World.block_lt_of_cell? w _ hx429_1)).trans hx429_1
        replace hx429_2 := (HB.out.cell (World.block_lt_of_cell? w _ hx429_2)).trans hx429_2
        replace hx429_3 := (HB.out.cell (World.block_lt_of_cell? w _ hx429_3)).trans hx429_3
        replace hx429_4 := (HB.out.cell (World.block_lt_of_cell? w _ hx429_4)).trans hx429_4
        replace p429 := eq_true p429
        replace q429 := eq_true q429
        go_wp2
        go_meet
        case rel => exact ⟨_, ((((rd_T43 l0 x9_1).f0) == 2)), (by first | rfl | (simp; done) | (simp [*]; done)), H', ⟨by have := HK1.out; first | omega | exact Nat.le_refl _⟩, ⟨by repeat (with_reducible first | exact HB.out | apply below_alloc | apply pw_below_drewN | apply below_drew1)⟩⟩
       ·rw [if_neg c8] at H
        exact absurd H (by simp)
      ·rw [if_neg c7] at H
       exact absurd H (by simp)
    case rest =>
     clear HC5
     try clear p2
     try clear c4
     try clear c4b0
     try clear p4
     try clear q4
     try clear hx4
     try clear c6
     try clear c6b0
     try clear c6b1
     try clear c7
     try clear c7b0
     try clear c8
     try clear c8b0
     try clear hx429_0
     try clear hx429_1
     try clear hx429_2
     try clear hx429_3
     try clear hx429_4
     try clear p2
     try clear p429
     try clear q429
     obtain ⟨kq, x28_4, rfl, HA, HJ4, HB⟩ := hcut
     cases kq with
     | zero => exact absurd HA.out (by simp [lines_end.j1])
     | succ kj4 =>
      have H := HA.out
      clear HA
      simp only [lines_end.j1] at H
      by_cases c9 : x28_4 = true
      ·subst c9
       rw [if_pos rfl] at H
       have HC10 := Aside0.mk H
       clear H
       go_upto_region 6 with (fail)
       go_cut [35] (fun v35 wc => ∃ (kq : Nat) (x35_9 : Bool), v35 = .bool x35_9 ∧ Aside0 (lines_end.j2 kq l0 a1 x7_1 x8_1 x9_1 x35_9 = some r) ∧ Aside0 (kq ≤ kj4) ∧ Aside0 (Below w.heap.size w wc))
       case first =>
        have H := HC10.out
        clear HC10
        by_cases c11 : x7_1 ≥ 0
        ·rw [if_pos c11] at H
         have c11b0 : decide (0 ≤ x7_1) = true := decide_eq_true c11
         clear c11
         (first | rw [c11b0] | (simp only [i64_w, i32_w]; rw [c11b0]) | skip)
         have H' := Aside0.mk H
         clear H
         go_wp2
         go_meet
         case rel => exact ⟨_, (decide (x8_1 > a1)), (by first | rfl | (simp; done) | (simp [*]; done)), H', ⟨by have := HK1.out; have := HJ4.out; first | omega | exact Nat.le_refl _⟩, ⟨by repeat (with_reducible first | exact HB.out | apply below_alloc | apply pw_below_drewN | apply below_drew1)⟩⟩
        ·rw [if_neg c11] at H
         have c11b0 : decide (0 ≤ x7_1) = false := decide_eq_false c11
         clear c11
         (first | rw [c11b0] | (simp only [i64_w, i32_w]; rw [c11b0]) | skip)
         have H' := Aside0.mk H
         clear H
         go_wp2
         go_meet
         case rel => exact ⟨_, (false), (by first | rfl | (simp; done) | (simp [*]; done)), H', ⟨by have := HK1.out; have := HJ4.out; first | omega | exact Nat.le_refl _⟩, ⟨by repeat (with_reducible first | exact HB.out | apply below_alloc | apply pw_below_drewN | apply below_drew1)⟩⟩
       case rest =>
        clear HC10
        try clear c1
        try clear p2
        try clear c4
        try clear c4b0
        try clear p4
        try clear q4
        try clear hx4
        try clear c6
        try clear c6b0
        try clear c6b1
        try clear c7
        try clear c7b0
        try clear c8
        try clear c8b0
        try clear c9
        try clear c11
        try clear c11b0
        try clear hx429_0
        try clear hx429_1
        try clear hx429_2
        try clear hx429_3
        try clear hx429_4
        try clear p2
        try clear p4
        try clear p429
        try clear q4
        try clear q429
        obtain ⟨kq, x35_9, rfl, HA, HJ9, HB⟩ := hcut
        cases kq with
        | zero => exact absurd HA.out (by simp [lines_end.j2])
        | succ kj9 =>
         have H := HA.out
         clear HA
         simp only [lines_end.j2] at H
         by_cases c12 : x35_9 = true
         ·subst c12
          rw [if_pos rfl] at H
          obtain rfl := Option.some.inj H
          go_wp2
          go_ret
          exact ⟨by first | rfl | (simp [errW_none, errW_some] <;> rfl) | (simp [*, errW_none, errW_some] <;> rfl), by repeat (with_reducible first | exact HB.out | apply below_alloc | apply pw_below_drewN | apply below_drew1)⟩
         ·replace c12 := Bool.eq_false_iff.mpr c12
          subst c12
          rw [if_neg (show ¬ (false = true) by decide)] at H
          by_cases c13 : x8_1 > a1
          ·rw [if_pos c13] at H
           have c13b0 : decide (a1 < x8_1) = true := decide_eq_true c13
           clear c13
           obtain rfl := Option.some.inj H
           go_wp2
           go_ret
           exact ⟨by first | rfl | (simp [errW_none, errW_some] <;> rfl) | (simp [*, errW_none, errW_some] <;> rfl), by repeat (with_reducible first | exact HB.out | apply below_alloc | apply pw_below_drewN | apply below_drew1)⟩
          ·rw [if_neg c13] at H
           have c13b0 : decide (a1 < x8_1) = false := decide_eq_false c13
           clear c13
           by_cases c14 : x9_1 < (l0.length : Int)
           ·rw [if_pos c14] at H
            have c14b0 : decide (x9_1 < (l0.length : Int)) = true := decide_eq_true c14
            clear c14
            by_cases c15 : 0 ≤ x9_1
            ·rw [if_pos c15] at H
             have c15b0 : decide (0 ≤ x9_1) = true := decide_eq_true c15
             clear c15
             replace H := Option.bind_eq_some_iff.mp H
             obtain ⟨t431, A160, H⟩ := H
             have A16 := Aside0.mk A160
             clear A160
             have H' := Aside0.mk H
             clear H
             have p430 : 0 ≤ (x9_1 : Int) := of_decide_eq_true (by first | (with_reducible assumption) | assumption)
             have q430 : x9_1 < (l0.length : Int) := of_decide_eq_true (by first | (with_reducible assumption) | assumption)
             obtain ⟨ad430, e430, hx430_0, hx430_1, hx430_2, hx430_3, hx430_4⟩ := at_T43 HR0.out x9_1 p430 q430
             cases e430
             replace hx430_0 := (HB.out.cell (World.block_lt_of_cell? w _ hx430_0)).trans hx430_0
             replace hx430_1 := (HB.out.cell (World.block_lt_of_cell? w _ hx430_1)).trans hx430_1
             replace hx430_2 := (HB.out.cell (World.block_lt_of_cell? w _ hx430_2)).trans hx430_2
             replace hx430_3 := (HB.out.cell (World.block_lt_of_cell? w _ hx430_3)).trans hx430_3
             replace hx430_4 := (HB.out.cell (World.block_lt_of_cell? w _ hx430_4)).trans hx430_4
             replace p430 := eq_true p430
             replace q430 := eq_true q430
             go_wp2_with (first | ((with_reducible refine gate_callee (f := 81) rfl ?_); refine goesL_ (some 51) rfl rfl Try.func81 (by kernel_rfl) rfl #[.agg #[.int .i64 ((rd_T43 l0 x9_1).f0), .int .i64 ((rd_T43 l0 x9_1).f1), .int .i64 ((rd_T43 l0 x9_1).f2), .int .i64 ((rd_T43 l0 x9_1).f3), .int .i64 ((rd_T43 l0 x9_1).f4)]] rfl (by (try simp only [List.map_toArray, List.map_cons, List.map_nil]); first | done | rfl | (simp only [List.length_drop, List.length_take]; rfl)) ?_; (with_reducible refine (lines_wide.calls ((rd_T43 l0 x9_1).f0) ((rd_T43 l0 x9_1).f1) ((rd_T43 l0 x9_1).f2) ((rd_T43 l0 x9_1).f3) ((rd_T43 l0 x9_1).f4) t431 _ A16.out).mono ?_); rintro e w17 ⟨rfl, hb⟩; refine ⟨_, rfl, ?_⟩; have n0_ := Aside0.mk (below_step (by repeat (with_reducible first | exact HB.out | apply below_alloc | apply pw_below_drewN | apply below_drew1)) hb); clear HB; have HB := n0_; clear n0_; (try clear hb); (try clear hb2); (try clear hk); (try clear hi)))
             go_roundg kj9
             case measure => have := HK1.out; have := HJ4.out; have := HJ9.out; omega
             case rel => exact ⟨(x9_1), (wrap64 (x8_1 + t431)), (wrap64 (x9_1 + 1)), (by first | rfl | (simp; done) | (simp [*]; done)), (by first | rfl | (simp; done) | (simp [*]; done)), (by first | rfl | (simp; done) | (simp [*]; done)), H', ⟨by have := HK1.out; have := HJ4.out; have := HJ9.out; omega⟩, ⟨by repeat (with_reducible first | exact HB.out | apply below_alloc | apply pw_below_drewN | apply below_drew1)⟩⟩
            ·rw [if_neg c15] at H
             exact absurd H (by simp)
           ·rw [if_neg c14] at H
            have c14b0 : decide (x9_1 < (l0.length : Int)) = false := decide_eq_false c14
            clear c14
            have H' := Aside0.mk H
            clear H
            go_wp2
            go_roundg kj9
            case measure => have := HK1.out; have := HJ4.out; have := HJ9.out; omega
            case rel => exact ⟨(x9_1), (x8_1), (wrap64 (x9_1 + 1)), (by first | rfl | (simp; done) | (simp [*]; done)), (by first | rfl | (simp; done) | (simp [*]; done)), (by first | rfl | (simp; done) | (simp [*]; done)), H', ⟨by have := HK1.out; have := HJ4.out; have := HJ9.out; omega⟩, ⟨by repeat (with_reducible first | exact HB.out | apply below_alloc | apply pw_below_drewN | apply below_drew1)⟩⟩
      ·replace c9 := Bool.eq_false_iff.mpr c9
       subst c9
       rw [if_neg (show ¬ (false = true) by decide)] at H
       by_cases c18 : x9_1 < (l0.length : Int)
       ·rw [if_pos c18] at H
        have c18b0 : decide (x9_1 < (l0.length : Int)) = true := decide_eq_true c18
        clear c18
        by_cases c19 : 0 ≤ x9_1
        ·rw [if_pos c19] at H
         have c19b0 : decide (0 ≤ x9_1) = true := decide_eq_true c19
         clear c19
         replace H := Option.bind_eq_some_iff.mp H
         obtain ⟨t433, A200, H⟩ := H
         have A20 := Aside0.mk A200
         clear A200
         have H' := Aside0.mk H
         clear H
         have p432 : 0 ≤ (x9_1 : Int) := of_decide_eq_true (by first | (with_reducible assumption) | assumption)
         have q432 : x9_1 < (l0.length : Int) := of_decide_eq_true (by first | (with_reducible assumption) | assumption)
         obtain ⟨ad432, e432, hx432_0, hx432_1, hx432_2, hx432_3, hx432_4⟩ := at_T43 HR0.out x9_1 p432 q432
         cases e432
         replace hx432_0 := (HB.out.cell (World.block_lt_of_cell? w _ hx432_0)).trans hx432_0
         replace hx432_1 := (HB.out.cell (World.block_lt_of_cell? w _ hx432_1)).trans hx432_1
         replace hx432_2 := (HB.out.cell (World.block_lt_of_cell? w _ hx432_2)).trans hx432_2
         replace hx432_3 := (HB.out.cell (World.block_lt_of_cell? w _ hx432_3)).trans hx432_3
         replace hx432_4 := (HB.out.cell (World.block_lt_of_cell? w _ hx432_4)).trans hx432_4
         replace p432 := eq_true p432
         replace q432 := eq_true q432
         go_wp2_with (first | ((with_reducible refine gate_callee (f := 81) rfl ?_); refine goesL_ (some 51) rfl rfl Try.func81 (by kernel_rfl) rfl #[.agg #[.int .i64 ((rd_T43 l0 x9_1).f0), .int .i64 ((rd_T43 l0 x9_1).f1), .int .i64 ((rd_T43 l0 x9_1).f2), .int .i64 ((rd_T43 l0 x9_1).f3), .int .i64 ((rd_T43 l0 x9_1).f4)]] rfl (by (try simp only [List.map_toArray, List.map_cons, List.map_nil]); first | done | rfl | (simp only [List.length_drop, List.length_take]; rfl)) ?_; (with_reducible refine (lines_wide.calls ((rd_T43 l0 x9_1).f0) ((rd_T43 l0 x9_1).f1) ((rd_T43 l0 x9_1).f2) ((rd_T43 l0 x9_1).f3) ((rd_T43 l0 x9_1).f4) t433 _ A20.out).mono ?_); rintro e w21 ⟨rfl, hb⟩; refine ⟨_, rfl, ?_⟩; have n0_ := Aside0.mk (below_step (by repeat (with_reducible first | exact HB.out | apply below_alloc | apply pw_below_drewN | apply below_drew1)) hb); clear HB; have HB := n0_; clear n0_; (try clear hb); (try clear hb2); (try clear hk); (try clear hi)))
         go_roundg kj4
         case measure => have := HK1.out; have := HJ4.out; omega
         case rel => exact ⟨(x7_1), (wrap64 (x8_1 + t433)), (wrap64 (x9_1 + 1)), (by first | rfl | (simp; done) | (simp [*]; done)), (by first | rfl | (simp; done) | (simp [*]; done)), (by first | rfl | (simp; done) | (simp [*]; done)), H', ⟨by have := HK1.out; have := HJ4.out; omega⟩, ⟨by repeat (with_reducible first | exact HB.out | apply below_alloc | apply pw_below_drewN | apply below_drew1)⟩⟩
        ·rw [if_neg c19] at H
         exact absurd H (by simp)
       ·rw [if_neg c18] at H
        have c18b0 : decide (x9_1 < (l0.length : Int)) = false := decide_eq_false c18
        clear c18
        have H' := Aside0.mk H
        clear H
        go_wp2
        go_roundg kj4
        case measure => have := HK1.out; have := HJ4.out; omega
        case rel => exact ⟨(x7_1), (x8_1), (wrap64 (x9_1 + 1)), (by first | rfl | (simp; done) | (simp [*]; done)), (by first | rfl | (simp; done) | (simp [*]; done)), (by first | rfl | (simp; done) | (simp [*]; done)), H', ⟨by have := HK1.out; have := HJ4.out; omega⟩, ⟨by repeat (with_reducible first | exact HB.out | apply below_alloc | apply pw_below_drewN | apply below_drew1)⟩⟩
   ·rw [if_neg c4] at H
    have c4b0 : decide (x9_1 ≤ (l0.length : Int)) = false := decide_eq_false c4
    clear c4
    obtain rfl := Option.some.inj H
    go_wp2
    go_ret
    exact ⟨by first | rfl | (simp [errW_none, errW_some] <;> rfl) | (simp [*, errW_none, errW_some] <;> rfl), by repeat (with_reducible first | exact HB.out | apply below_alloc | apply pw_below_drewN | apply below_drew1)⟩
end Go.Proofs.Ytbddfnmhhmkfkaa.Pr
