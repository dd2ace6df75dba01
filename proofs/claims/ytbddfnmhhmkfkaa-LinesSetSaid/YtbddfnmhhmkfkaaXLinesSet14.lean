/- Texts of this seat, one behind the other. -/
import Derived.SizedLaws
import Derived.ChangeSlices
import Derived.Test.YtbddfnmhhmkfkaaXLinesSet1
import Derived.Test.YtbddfnmhhmkfkaaXLinesSet2
import Derived.Test.YtbddfnmhhmkfkaaXLinesSet3
import Derived.Test.YtbddfnmhhmkfkaaXLinesSet4
import Derived.Test.YtbddfnmhhmkfkaaXLinesSet5
import Derived.Test.YtbddfnmhhmkfkaaXLinesSet6
import Derived.Test.YtbddfnmhhmkfkaaXLinesSet7
import Derived.Test.YtbddfnmhhmkfkaaXLinesSet8
import Derived.Test.YtbddfnmhhmkfkaaXLinesSet9
import Derived.Test.YtbddfnmhhmkfkaaXLinesSet10
import Derived.Test.YtbddfnmhhmkfkaaXLinesSet11
import Derived.Test.YtbddfnmhhmkfkaaXLinesSet12
import Derived.Test.YtbddfnmhhmkfkaaXLinesSet13
set_option linter.unusedVariables false
set_option linter.unusedSimpArgs false
namespace Go.Proofs.Ytbddfnmhhmkfkaa.Pr
open Go.RowKit Go.Proofs.YtbddfnmhhmkfkaaW.PrintWords Go.Proofs.YtbddfnmhhmkfkaaW.PrintLast Go.Proofs.YtbddfnmhhmkfkaaW.PrintMore
attribute [local go_sem] max2_int min2_int max_two min_two max_three min_three max_four min_four
attribute [local go_sem high] eqA43
mutual
def styluslaw20_LinesSet.j0 : Nat → List (S101) → List (S43) → Int → List Int → Bool → Option (Bool)
 | 0, _, _, _, _, _ => none
 | k + 1, x0, x1, x2, x3, x24 => if x24 = true then ((styluslaw20_awake.f k).bind fun t330 => (some t330)) else ((some (([] : List (S101)) : List (S101))).bind fun y331 => (if y331.length + x0.length < 5864062014805 then ((some (y331 ++ x0 : List (S101))).bind fun y334 => ((some (([] : List (S43)) : List (S43))).bind fun y337 => (if y337.length + x1.length < 3518437208883 then ((some (y337 ++ x1 : List (S43))).bind fun y340 => ((some (([] : List Int) : List Int)).bind fun y343 => (if y343.length + x3.length < 17592186044416 then ((some (y343 ++ x3 : List Int)).bind fun y346 => ((lines_Of.f y334 y340 x2 y346).bind fun bt349 => ((stylusref20_Of.f k x0 x1 x2 x3).bind fun bt353 => (if bt349.2 = bt353.2 then ((stylusref20_Same.f k bt349.1 bt353.1).bind fun t357 => (if t357 = true then ((styluslaw20_same.f k y346 x3).bind fun t358 => (if t358 = true then ((stylusref07_Like.f k y334 x0).bind fun t359 => (styluslaw20_LinesSet.j1 k x1 y340 (!t359))) else (styluslaw20_LinesSet.j1 k x1 y340 true))) else (styluslaw20_LinesSet.j1 k x1 y340 true))) else (styluslaw20_LinesSet.j1 k x1 y340 true))))) else (none)))) else (none)))) else (none)))
def styluslaw20_LinesSet.j1 : Nat → List (S43) → List (S43) → Bool → Option (Bool)
 | 0, _, _, _ => none
 | k + 1, x1, x10, x71 => if x71 = true then (some false) else (styluslaw20_LinesSet.l0 k x1 x10 0)
def styluslaw20_LinesSet.l0 : Nat → List (S43) → List (S43) → Int → Option (Bool)
 | 0, _, _, _ => none
 | k + 1, x1, x10, x16 => if x16 < (x1.length : Int) then (if 0 ≤ x16 then (if x16 < (x10.length : Int) then (if (!(((rd_T43 x10 x16).f0) == ((rd_T43 x1 x16).f0)) || (!(((rd_T43 x10 x16).f1) == ((rd_T43 x1 x16).f1)) || (!(((rd_T43 x10 x16).f2) == ((rd_T43 x1 x16).f2)) || (!(((rd_T43 x10 x16).f3) == ((rd_T43 x1 x16).f3)) || (!(((rd_T43 x10 x16).f4) == ((rd_T43 x1 x16).f4))))))) = true then (some false) else (styluslaw20_LinesSet.l0 k x1 x10 (wrap64 (x16 + 1)))) else (none)) else (none)) else ((styluslaw20_awake.f k).bind fun t362 => (some t362))
end
def styluslaw20_LinesSet.f (k : Nat) (l0 : List (S101)) (l1 : List (S43)) (a2 : Int) (l3 : List Int) : Option (Bool) := if (l1.length : Int) > 120 then (styluslaw20_LinesSet.j0 k l0 l1 a2 l3 true) else (styluslaw20_LinesSet.j0 k l0 l1 a2 l3 (decide ((l3.length : Int) > 120)))
theorem styluslaw20_LinesSet.mono_l : ∀ k, (∀ y0 y1 y2 y3 y4, LeO (styluslaw20_LinesSet.j0 k y0 y1 y2 y3 y4) (styluslaw20_LinesSet.j0 (k + 1) y0 y1 y2 y3 y4)) ∧ (∀ y0 y1 y2, LeO (styluslaw20_LinesSet.j1 k y0 y1 y2) (styluslaw20_LinesSet.j1 (k + 1) y0 y1 y2)) ∧ (∀ y0 y1 y2, LeO (styluslaw20_LinesSet.l0 k y0 y1 y2) (styluslaw20_LinesSet.l0 (k + 1) y0 y1 y2))
 | 0 => ⟨fun _ _ _ _ _ r h => by simp [styluslaw20_LinesSet.j0] at h, fun _ _ _ r h => by simp [styluslaw20_LinesSet.j1] at h, fun _ _ _ r h => by simp [styluslaw20_LinesSet.l0] at h⟩
 | k + 1 => by
  obtain ⟨ih0, ih1, ih2⟩ := styluslaw20_LinesSet.mono_l k
  refine ⟨?_, ?_, ?_⟩
  ·intro y0 y1 y2 y3 y4
   unfold styluslaw20_LinesSet.j0
   repeat' first
   | (with_reducible exact ih0 _ _ _ _ _)
   | (with_reducible exact ih1 _ _ _)
   | (with_reducible exact ih2 _ _ _)
   | (with_reducible exact styluslaw20_awake.mono _)
   | (with_reducible exact styluslaw20_same.mono _ _ _)
   | (with_reducible exact stylusref07_Like.mono _ _ _)
   | (with_reducible exact stylusref20_Of.mono _ _ _ _ _)
   | (with_reducible exact stylusref20_Same.mono _ _ _)
   | (with_reducible exact LeO.refl _)
   | (with_reducible exact LeO.none _)
   | (with_reducible refine LeO.ite ?_ ?_)
   | (with_reducible refine LeO.bind ?_ (fun _ => ?_))
   | exact LeO.none _
   | refine LeO.ite ?_ ?_
   | refine LeO.bind ?_ (fun _ => ?_)
  ·intro y0 y1 y2
   unfold styluslaw20_LinesSet.j1
   repeat' first
   | (with_reducible exact ih0 _ _ _ _ _)
   | (with_reducible exact ih1 _ _ _)
   | (with_reducible exact ih2 _ _ _)
   | (with_reducible exact styluslaw20_awake.mono _)
   | (with_reducible exact styluslaw20_same.mono _ _ _)
   | (with_reducible exact stylusref07_Like.mono _ _ _)
   | (with_reducible exact stylusref20_Of.mono _ _ _ _ _)
   | (with_reducible exact stylusref20_Same.mono _ _ _)
   | (with_reducible exact LeO.refl _)
   | (with_reducible exact LeO.none _)
   | (with_reducible refine LeO.ite ?_ ?_)
   | (with_reducible refine LeO.bind ?_ (fun _ => ?_))
   | exact LeO.none _
   | refine LeO.ite ?_ ?_
   | refine LeO.bind ?_ (fun _ => ?_)
  ·intro y0 y1 y2
   unfold styluslaw20_LinesSet.l0
   repeat' first
   | (with_reducible exact ih0 _ _ _ _ _)
   | (with_reducible exact ih1 _ _ _)
   | (with_reducible exact ih2 _ _ _)
   | (with_reducible exact styluslaw20_awake.mono _)
   | (with_reducible exact styluslaw20_same.mono _ _ _)
   | (with_reducible exact stylusref07_Like.mono _ _ _)
   | (with_reducible exact stylusref20_Of.mono _ _ _ _ _)
   | (with_reducible exact stylusref20_Same.mono _ _ _)
   | (with_reducible exact LeO.refl _)
   | (with_reducible exact LeO.none _)
   | (with_reducible refine LeO.ite ?_ ?_)
   | (with_reducible refine LeO.bind ?_ (fun _ => ?_))
   | exact LeO.none _
   | refine LeO.ite ?_ ?_
   | refine LeO.bind ?_ (fun _ => ?_)
theorem styluslaw20_LinesSet.mono : ∀ a0 a1 a2 a3 k, LeO (styluslaw20_LinesSet.f k a0 a1 a2 a3) (styluslaw20_LinesSet.f (k + 1) a0 a1 a2 a3) := by
 intro a0 a1 a2 a3 k
 obtain ⟨ih0, ih1, ih2⟩ := styluslaw20_LinesSet.mono_l k
 unfold styluslaw20_LinesSet.f
 repeat' first
   | (with_reducible exact ih0 _ _ _ _ _)
   | (with_reducible exact ih1 _ _ _)
   | (with_reducible exact ih2 _ _ _)
   | (with_reducible exact styluslaw20_awake.mono _)
   | (with_reducible exact styluslaw20_same.mono _ _ _)
   | (with_reducible exact stylusref07_Like.mono _ _ _)
   | (with_reducible exact stylusref20_Of.mono _ _ _ _ _)
   | (with_reducible exact stylusref20_Same.mono _ _ _)
   | (with_reducible exact LeO.refl _)
   | (with_reducible exact LeO.none _)
   | (with_reducible refine LeO.ite ?_ ?_)
   | (with_reducible refine LeO.bind ?_ (fun _ => ?_))
   | exact ih0 _ _ _ _ _
   | exact ih1 _ _ _
   | exact ih2 _ _ _
   | exact styluslaw20_awake.mono _
   | exact styluslaw20_same.mono _ _ _
   | exact stylusref07_Like.mono _ _ _
   | exact stylusref20_Of.mono _ _ _ _ _
   | exact stylusref20_Same.mono _ _ _
   | exact LeO.none _
   | refine LeO.ite ?_ ?_
   | refine LeO.bind ?_ (fun _ => ?_)
set_option maxHeartbeats 8000000 in
set_option maxRecDepth 100000 in
theorem styluslaw20_LinesSet.calls (k : Nat) (A0 : Option Addr) (c0 : Nat) (l0 : List (S101)) (A1 : Option Addr) (c1 : Nat) (l1 : List (S43)) (a2 : Int) (A3 : Option Addr) (c3 : Nat) (l3 : List Int) (r : Bool) (w : World) (hr0 : Kd.C k101 w A0 l0.length l0) (hc0 : l0.length ≤ c0) (hr1 : Kd.C k43 w A1 l1.length l1) (hc1 : l1.length ≤ c1) (hr3 : Kd.C (Kd.int .i64) w A3 l3.length l3) (hc3 : l3.length ≤ c3) (h : styluslaw20_LinesSet.f k l0 l1 a2 l3 = some r) :
  Calls Try.prog 7 #[.slice A0 l0.length c0, .slice A1 l1.length c1, .int .i64 a2, .slice A3 l3.length c3] w fun e w' => e = .returned (.bool r) ∧ Below w.heap.size w w' := by
 have hu43 := Try.underlying43
 have HR0 := Aside0.mk hr0
 have HC0 := Aside0.mk hc0
 clear hr0 hc0
 have HR1 := Aside0.mk hr1
 have HC1 := Aside0.mk hc1
 clear hr1 hc1
 have HR3 := Aside0.mk hr3
 have HC3 := Aside0.mk hc3
 clear hr3 hc3
 have HB := Aside0.mk (Below.refl w.heap.size w)
 have H : (if (l1.length : Int) > 120 then (styluslaw20_LinesSet.j0 k l0 l1 a2 l3 true) else (styluslaw20_LinesSet.j0 k l0 l1 a2 l3 (decide ((l3.length : Int) > 120)))) = some r := h
 clear h
 have HC5 := Aside0.mk H
 clear H
 go_enter Try.func7, Try.ntmps7
 go_upto_region 1 with (fail)
 repeat (go_quiet (fail); go_upto_region 1 with (fail))
 go_cut [24] (fun v24 wc => ∃ (kq : Nat) (x24_4 : Bool), v24 = .bool x24_4 ∧ Aside0 (styluslaw20_LinesSet.j0 kq l0 l1 a2 l3 x24_4 = some r) ∧ Aside0 (kq ≤ k) ∧ Aside0 (Below w.heap.size w wc))
 case first =>
  have H := HC5.out
  clear HC5
  by_cases c6 : (l1.length : Int) > 120
  ·rw [if_pos c6] at H
   have c6b0 : decide (120 < (l1.length : Int)) = true := decide_eq_true c6
   have c6b1 : decide (120 < l1.length) = true := decide_eq_true (by omega)
   clear c6
   (first | rw [c6b0] | (simp only [i64_w, i32_w]; rw [c6b0]) | skip)
   have H' := Aside0.mk H
   clear H
   go_wp2
   repeat (go_quiet (fail); try go_wp2)
   go_meet
   case rel => exact ⟨_, (true), (by first | rfl | (simp; done) | (simp [*]; done)), H', ⟨by first | omega | exact Nat.le_refl _⟩, ⟨by repeat (with_reducible first | exact HB.out | apply below_alloc | apply pw_below_drewN | apply below_drew1)⟩⟩
  ·rw [if_neg c6] at H
   have c6b0 : decide (120 < (l1.length : Int)) = false := decide_eq_false c6
   have c6b1 : decide (120 < l1.length) = false := decide_eq_false (by omega)
   clear c6
   (first | rw [c6b0] | (simp only [i64_w, i32_w]; rw [c6b0]) | skip)
   have H' := Aside0.mk H
   clear H
   go_wp2
   repeat (go_quiet (fail); try go_wp2)
   go_meet
   case rel => exact ⟨_, (decide ((l3.length : Int) > 120)), (by first | rfl | (simp; done) | (simp [*]; done)), H', ⟨by first | omega | exact Nat.le_refl _⟩, ⟨by repeat (with_reducible first | exact HB.out | apply below_alloc | apply pw_below_drewN | apply below_drew1)⟩⟩
 case rest =>
  clear HC5
  try clear c1
  try clear p2
  try clear c3
  try clear c6
  try clear c6b0
  try clear c6b1
  obtain ⟨kq, x24_4, rfl, HA, HJ4, HB⟩ := hcut
  cases kq with
  | zero => exact absurd HA.out (by simp [styluslaw20_LinesSet.j0])
  | succ kj4 =>
   have H := HA.out
   clear HA
   simp only [styluslaw20_LinesSet.j0] at H
   by_cases c7 : x24_4 = true
   ·subst c7
    rw [if_pos rfl] at H
    replace H := Option.bind_eq_some_iff.mp H
    obtain ⟨t330, A80, H⟩ := H
    have A8 := Aside0.mk A80
    clear A80
    obtain rfl := Option.some.inj H
    go_wp2_with (first | (go_at_call 25; (with_reducible refine (styluslaw20_awake.calls kj4  t330 _ A8.out).mono ?_); rintro e w9 ⟨rfl, hb⟩; have n0_ := Aside0.mk (below_step (by repeat (with_reducible first | exact HB.out | apply below_alloc | apply pw_below_drewN | apply below_drew1)) hb); clear HB; have HB := n0_; clear n0_; (try clear hb); (try clear hb2); (try clear hk); (try clear hi)))
    go_ret
    exact ⟨by first | rfl | (simp [errW_none, errW_some] <;> rfl) | (simp [*, errW_none, errW_some] <;> rfl), by repeat (with_reducible first | exact HB.out | apply below_alloc | apply pw_below_drewN | apply below_drew1)⟩
   ·replace c7 := Bool.eq_false_iff.mpr c7
    subst c7
    rw [if_neg (show ¬ (false = true) by decide)] at H
    obtain ⟨y331, hy331, H⟩ := bsE H
    have Ny331 := Aside0.mk hy331
    clear hy331
    by_cases c10 : y331.length + l0.length < 5864062014805
    ·rw [if_pos c10] at H
     have LMc10 := Aside0.mk c10
     clear c10
     obtain ⟨y334, hy334, H⟩ := bsE H
     have Ny334 := Aside0.mk hy334
     clear hy334
     obtain ⟨y337, hy337, H⟩ := bsE H
     have Ny337 := Aside0.mk hy337
     clear hy337
     by_cases c11 : y337.length + l1.length < 3518437208883
     ·rw [if_pos c11] at H
      have LMc11 := Aside0.mk c11
      clear c11
      obtain ⟨y340, hy340, H⟩ := bsE H
      have Ny340 := Aside0.mk hy340
      clear hy340
      obtain ⟨y343, hy343, H⟩ := bsE H
      have Ny343 := Aside0.mk hy343
      clear hy343
      by_cases c12 : y343.length + l3.length < 17592186044416
      ·rw [if_pos c12] at H
       have LMc12 := Aside0.mk c12
       clear c12
       obtain ⟨y346, hy346, H⟩ := bsE H
       have Ny346 := Aside0.mk hy346
       clear hy346
       replace H := Option.bind_eq_some_iff.mp H
       obtain ⟨⟨t349, t350⟩, A130, H⟩ := H
       dsimp only at H
       have A13 := Aside0.mk A130
       clear A130
       replace H := Option.bind_eq_some_iff.mp H
       obtain ⟨⟨t353, t354⟩, A140, H⟩ := H
       dsimp only at H
       have A14 := Aside0.mk A140
       clear A140
       have HC15 := Aside0.mk H
       clear H
       go_upto_region 6 with (first | ((with_reducible refine gate_dst (N := 26) rfl ?_); (try (refine gate_guard (by rfl) ?_; dsimp only)); refine Kd.R_lit k101 _ 101 ?hg (N := 26) ?hd (xs := ([] : List (S101))) (inner := []) (ok := fun _ => True) (okp := fun _ => True) ?hr ?hp (fun _ hk => hk) trivial (Below.refl _ _) (Nat.le_refl _) (by simp) ?_; (case hd => rfl); (case hg => rfl); (case hr => first | (go_simp; done) | (go_simp; rfl)); (case hp => exact (Reps.none _ _)); intro v332 w16 ho17 hb hg_ hnew_; clear hg_ hnew_; (first | rw [← Ny331.out] at ho17 | (simp only [Int.reduceToNat] at ho17; rw [← Ny331.out] at ho17)); have n0_ := Aside0.mk (Kd.R_lower ho17 (below_size (by repeat (with_reducible first | exact HB.out | apply below_alloc | apply pw_below_drewN | apply below_drew1)))); have n1_ := Aside0.mk (below_step (by repeat (with_reducible first | exact HB.out | apply below_alloc | apply pw_below_drewN | apply below_drew1)) hb); clear HB; have HO333 := n0_; have HB := n1_; clear n0_ n1_; clear hb ho17) | ((with_reducible refine gate_builtin (b := .append) (xs := #[.tmp 26, .tmp 27]) rfl ?_); (try (refine gate_guard (by rfl) ?_; dsimp only)); at_builtin; refine Kd.R_append_rows k101 (w0 := w) w.heap.size rfl (.tmp 26) (.tmp 27) 44 101 (.agg #[(.int .i64 0), (.int .u8 0), (.int .i64 0)]) 24 rfl Try.underlying44 info101 rfl (by decide) (by omega) v332 y331 l0 _ _ _ (fun _ => True) (fun _ => False) rfl rfl ?aO ?aR (fun _ _ h => h) (fun _ h => h.elim) ?aF ?aB ?aS ?aL ?_; (case aR => repeat (first | exact (Kd.C_below HR0.out HB.out) | (with_reducible refine Kd.C_alloc ?_ _) | (with_reducible refine Kd.C_drewN ?_ _) | (with_reducible refine Kd.C_drew ?_))); (case aB => exact (by repeat (with_reducible first | exact HB.out | apply below_alloc | apply pw_below_drewN | apply below_drew1))); (case aF => exact (fun _ _ => trivial)); (case aO => exact (by (with_reducible repeat (first | apply Kd.R_alloc | apply Kd.R_drewN | apply Kd.R_drew)); exact HO333.out)); (case aS => exact (below_size (by repeat (with_reducible first | exact HB.out | apply below_alloc | apply pw_below_drewN | apply below_drew1)))); (case aL => have := LMc10.out; omega); intro v335 w18 ho hb hg hat; rw [← Ny334.out] at ho; have n0_ := Aside0.mk (hb); have n1_ := Aside0.mk (ho); clear HB; clear HO333; have HB := n0_; have HO336 := n1_; clear n0_ n1_; clear ho hb hg hat) | ((with_reducible refine gate_dst (N := 29) rfl ?_); (try (refine gate_guard (by rfl) ?_; dsimp only)); refine Kd.R_lit k43 _ 43 ?hg (N := 29) ?hd (xs := ([] : List (S43))) (inner := []) (ok := fun _ => True) (okp := fun _ => True) ?hr ?hp (fun _ hk => hk) trivial (Below.refl _ _) (Nat.le_refl _) (by simp) ?_; (case hd => rfl); (case hg => rfl); (case hr => first | (go_simp; done) | (go_simp; rfl)); (case hp => exact (Reps.none _ _)); intro v338 w19 ho20 hb hg_ hnew_; clear hg_ hnew_; (first | rw [← Ny337.out] at ho20 | (simp only [Int.reduceToNat] at ho20; rw [← Ny337.out] at ho20)); have n0_ := Aside0.mk (Kd.R_below (by (with_reducible repeat (first | apply Kd.R_alloc | apply Kd.R_drewN | apply Kd.R_drew)); exact HO336.out) hb); have n1_ := Aside0.mk (Kd.R_lower ho20 (below_size (by repeat (with_reducible first | exact HB.out | apply below_alloc | apply pw_below_drewN | apply below_drew1)))); have n2_ := Aside0.mk (below_step (by repeat (with_reducible first | exact HB.out | apply below_alloc | apply pw_below_drewN | apply below_drew1)) hb); clear HO336; clear HB; have HO336 := n0_; have HO339 := n1_; have HB := n2_; clear n0_ n1_ n2_; clear hb ho20) | ((with_reducible refine gate_builtin (b := .append) (xs := #[.tmp 29, .tmp 30]) rfl ?_); (try (refine gate_guard (by rfl) ?_; dsimp only)); at_builtin; refine Kd.R_append_rows k43 (w0 := w) w.heap.size rfl (.tmp 29) (.tmp 30) 22 43 (.agg #[(.int .i64 0), (.int .i64 0), (.int .i64 0), (.int .i64 0), (.int .i64 0)]) 40 rfl Try.underlying22 info43 rfl (by decide) (by omega) v338 y337 l1 _ _ _ (fun _ => True) (fun _ => False) rfl rfl ?aO ?aR (fun _ _ h => h) (fun _ h => h.elim) ?aF ?aB ?aS ?aL ?_; (case aR => repeat (first | exact (Kd.C_below HR1.out HB.out) | (with_reducible refine Kd.C_alloc ?_ _) | (with_reducible refine Kd.C_drewN ?_ _) | (with_reducible refine Kd.C_drew ?_))); (case aB => exact (by repeat (with_reducible first | exact HB.out | apply below_alloc | apply pw_below_drewN | apply below_drew1))); (case aF => exact (fun _ _ => trivial)); (case aO => exact (by (with_reducible repeat (first | apply Kd.R_alloc | apply Kd.R_drewN | apply Kd.R_drew)); exact HO339.out)); (case aS => exact (below_size (by repeat (with_reducible first | exact HB.out | apply below_alloc | apply pw_below_drewN | apply below_drew1)))); (case aL => have := LMc11.out; omega); intro v341 w21 ho hb hg hat; rw [← Ny340.out] at ho; have n0_ := Aside0.mk (Kd.R_over' (by (with_reducible repeat (first | apply Kd.R_alloc | apply Kd.R_drewN | apply Kd.R_drew)); exact HO336.out) (Kd.R_typed (by (with_reducible repeat (first | apply Kd.R_alloc | apply Kd.R_drewN | apply Kd.R_drew)); exact HO339.out)) (by decide) hg); have n1_ := Aside0.mk (hb); have n2_ := Aside0.mk (ho); clear HO336; clear HB; clear HO339; have HO336 := n0_; have HB := n1_; have HO342 := n2_; clear n0_ n1_ n2_; clear ho hb hg hat) | ((with_reducible refine gate_dst (N := 32) rfl ?_); (try (refine gate_guard (by rfl) ?_; dsimp only)); refine Kd.R_lit (Kd.int .i64) _ 3 ?hg (N := 32) ?hd (xs := ([] : List Int)) (inner := []) (ok := fun _ => True) (okp := fun _ => True) ?hr ?hp (fun _ hk => hk) trivial (Below.refl _ _) (Nat.le_refl _) (by simp) ?_; (case hd => rfl); (case hg => rfl); (case hr => first | (go_simp; done) | (go_simp; rfl)); (case hp => exact (Reps.none _ _)); intro v344 w22 ho23 hb hg_ hnew_; clear hg_ hnew_; (first | rw [← Ny343.out] at ho23 | (simp only [Int.reduceToNat] at ho23; rw [← Ny343.out] at ho23)); have n0_ := Aside0.mk (Kd.R_below (by (with_reducible repeat (first | apply Kd.R_alloc | apply Kd.R_drewN | apply Kd.R_drew)); exact HO336.out) hb); have n1_ := Aside0.mk (Kd.R_below (by (with_reducible repeat (first | apply Kd.R_alloc | apply Kd.R_drewN | apply Kd.R_drew)); exact HO342.out) hb); have n2_ := Aside0.mk (Kd.R_lower ho23 (below_size (by repeat (with_reducible first | exact HB.out | apply below_alloc | apply pw_below_drewN | apply below_drew1)))); have n3_ := Aside0.mk (below_step (by repeat (with_reducible first | exact HB.out | apply below_alloc | apply pw_below_drewN | apply below_drew1)) hb); clear HO336; clear HO342; clear HB; have HO336 := n0_; have HO342 := n1_; have HO345 := n2_; have HB := n3_; clear n0_ n1_ n2_ n3_; clear hb ho23) | ((with_reducible refine gate_builtin (b := .append) (xs := #[.tmp 32, .tmp 33]) rfl ?_); (try (refine gate_guard (by rfl) ?_; dsimp only)); at_builtin; refine Kd.R_append_rows (Kd.int .i64) (w0 := w) w.heap.size rfl (.tmp 32) (.tmp 33) 25 3 (.int .i64 0) 8 rfl Try.underlying25 info3 rfl (by decide) (by omega) v344 y343 l3 _ _ _ (fun _ => True) (fun _ => False) rfl rfl ?aO ?aR (fun _ _ h => h) (fun _ h => h.elim) ?aF ?aB ?aS ?aL ?_; (case aR => repeat (first | exact (Kd.C_below HR3.out HB.out) | (with_reducible refine Kd.C_alloc ?_ _) | (with_reducible refine Kd.C_drewN ?_ _) | (with_reducible refine Kd.C_drew ?_))); (case aB => exact (by repeat (with_reducible first | exact HB.out | apply below_alloc | apply pw_below_drewN | apply below_drew1))); (case aF => exact (fun _ _ => trivial)); (case aO => exact (by (with_reducible repeat (first | apply Kd.R_alloc | apply Kd.R_drewN | apply Kd.R_drew)); exact HO345.out)); (case aS => exact (below_size (by repeat (with_reducible first | exact HB.out | apply below_alloc | apply pw_below_drewN | apply below_drew1)))); (case aL => have := LMc12.out; omega); intro v347 w24 ho hb hg hat; rw [← Ny346.out] at ho; have n0_ := Aside0.mk (Kd.R_over' (by (with_reducible repeat (first | apply Kd.R_alloc | apply Kd.R_drewN | apply Kd.R_drew)); exact HO336.out) (Kd.R_typed (by (with_reducible repeat (first | apply Kd.R_alloc | apply Kd.R_drewN | apply Kd.R_drew)); exact HO345.out)) (by decide) hg); have n1_ := Aside0.mk (Kd.R_over' (by (with_reducible repeat (first | apply Kd.R_alloc | apply Kd.R_drewN | apply Kd.R_drew)); exact HO342.out) (Kd.R_typed (by (with_reducible repeat (first | apply Kd.R_alloc | apply Kd.R_drewN | apply Kd.R_drew)); exact HO345.out)) (by decide) hg); have n2_ := Aside0.mk (hb); have n3_ := Aside0.mk (ho); clear HO336; clear HO342; clear HB; clear HO345; have HO336 := n0_; have HO342 := n1_; have HB := n2_; have HO348 := n3_; clear n0_ n1_ n2_ n3_; clear ho hb hg hat; obtain ⟨Ao25, co25, eo25⟩ := Kd.R_slice HO336.out; subst eo25; obtain ⟨Ao26, co26, eo26⟩ := Kd.R_slice HO342.out; subst eo26; obtain ⟨Ao27, co27, eo27⟩ := Kd.R_slice HO348.out; subst eo27) | (go_at_call 26; (with_reducible refine (lines_Of.calls _ _ y334 _ _ y340 a2 _ _ y346 t349 t350 _ ?side1 ?side2 ?side3 ?side4 ?side5 ?side6 A13.out).mono ?_); (case side1 => repeat (first | exact (Kd.R_reads' HO336.out).2.2 | (with_reducible refine Kd.C_alloc ?_ _) | (with_reducible refine Kd.C_drewN ?_ _) | (with_reducible refine Kd.C_drew ?_))); (case side2 => exact (Kd.R_reads' HO336.out).2.1); (case side3 => repeat (first | exact (Kd.R_reads' HO342.out).2.2 | (with_reducible refine Kd.C_alloc ?_ _) | (with_reducible refine Kd.C_drewN ?_ _) | (with_reducible refine Kd.C_drew ?_))); (case side4 => exact (Kd.R_reads' HO342.out).2.1); (case side5 => repeat (first | exact (Kd.R_reads' HO348.out).2.2 | (with_reducible refine Kd.C_alloc ?_ _) | (with_reducible refine Kd.C_drewN ?_ _) | (with_reducible refine Kd.C_drew ?_))); (case side6 => exact (Kd.R_reads' HO348.out).2.1); rintro e w28 ⟨v351, rfl, ho0, hb⟩; have n0_ := Aside0.mk (Kd.R_below (by (with_reducible repeat (first | apply Kd.R_alloc | apply Kd.R_drewN | apply Kd.R_drew)); exact HO336.out) hb); have n1_ := Aside0.mk (Kd.R_below (by (with_reducible repeat (first | apply Kd.R_alloc | apply Kd.R_drewN | apply Kd.R_drew)); exact HO342.out) hb); have n2_ := Aside0.mk (Kd.R_below (by (with_reducible repeat (first | apply Kd.R_alloc | apply Kd.R_drewN | apply Kd.R_drew)); exact HO348.out) hb); have n3_ := Aside0.mk (Kd.S_lower ho0 (below_size (by repeat (with_reducible first | exact HB.out | apply below_alloc | apply pw_below_drewN | apply below_drew1)))); have n4_ := Aside0.mk (below_step (by repeat (with_reducible first | exact HB.out | apply below_alloc | apply pw_below_drewN | apply below_drew1)) hb); clear HO336; clear HO342; clear HO348; clear HB; have HO336 := n0_; have HO342 := n1_; have HO348 := n2_; have HO352 := n3_; have HB := n4_; clear n0_ n1_ n2_ n3_ n4_; (try clear hb); (try clear hb2); (try clear hk); (try clear hi); (try clear ho0)) | (go_at_call 27; (with_reducible refine (stylusref20_Of.calls kj4 _ _ l0 _ _ l1 a2 _ _ l3 t353 t354 _ ?side1 ?side2 ?side3 ?side4 ?side5 ?side6 A14.out).mono ?_); (case side1 => repeat (first | exact (Kd.C_below HR0.out HB.out) | (with_reducible refine Kd.C_alloc ?_ _) | (with_reducible refine Kd.C_drewN ?_ _) | (with_reducible refine Kd.C_drew ?_))); (case side2 => exact HC0.out); (case side3 => repeat (first | exact (Kd.C_below HR1.out HB.out) | (with_reducible refine Kd.C_alloc ?_ _) | (with_reducible refine Kd.C_drewN ?_ _) | (with_reducible refine Kd.C_drew ?_))); (case side4 => exact HC1.out); (case side5 => repeat (first | exact (Kd.C_below HR3.out HB.out) | (with_reducible refine Kd.C_alloc ?_ _) | (with_reducible refine Kd.C_drewN ?_ _) | (with_reducible refine Kd.C_drew ?_))); (case side6 => exact HC3.out); rintro e w29 ⟨v355, rfl, ho0, hb⟩; have n0_ := Aside0.mk (Kd.R_below (by (with_reducible repeat (first | apply Kd.R_alloc | apply Kd.R_drewN | apply Kd.R_drew)); exact HO336.out) hb); have n1_ := Aside0.mk (Kd.R_below (by (with_reducible repeat (first | apply Kd.R_alloc | apply Kd.R_drewN | apply Kd.R_drew)); exact HO342.out) hb); have n2_ := Aside0.mk (Kd.R_below (by (with_reducible repeat (first | apply Kd.R_alloc | apply Kd.R_drewN | apply Kd.R_drew)); exact HO348.out) hb); have n3_ := Aside0.mk (Kd.S_elder' (by (with_reducible repeat (first | apply Kd.S_alloc | apply Kd.S_drewN | apply Kd.S_drew)); exact HO352.out) (Kd.S_base ho0) hb); have n4_ := Aside0.mk (Kd.S_lower (Kd.S_new' ho0 (Kd.S_lt (by (with_reducible repeat (first | apply Kd.S_alloc | apply Kd.S_drewN | apply Kd.S_drew)); exact HO352.out))) (below_size (by repeat (with_reducible first | exact HB.out | apply below_alloc | apply pw_below_drewN | apply below_drew1)))); have n5_ := Aside0.mk (below_step (by repeat (with_reducible first | exact HB.out | apply below_alloc | apply pw_below_drewN | apply below_drew1)) hb); clear HO336; clear HO342; clear HO348; clear HO352; clear HB; have HO336 := n0_; have HO342 := n1_; have HO348 := n2_; have HO352 := n3_; have HO356 := n4_; have HB := n5_; clear n0_ n1_ n2_ n3_ n4_ n5_; (try clear hb); (try clear hb2); (try clear hk); (try clear hi); (try clear ho0)))
       (try simp only [Act.put, List.setIfInBounds_toArray, List.set_cons_zero, List.set_cons_succ])
       go_cut [71] (fun v71 wc => ∃ (kq : Nat) (x71_14 : Bool), v71 = .bool x71_14 ∧ Aside0 (styluslaw20_LinesSet.j1 kq l1 y340 x71_14 = some r) ∧ Aside0 (kq ≤ kj4) ∧ Aside0 (Kd.R k43 43 wc w.heap.size (fun _ => True) (.slice Ao26 y340.length co26) y340) ∧ Aside0 (Below w.heap.size w wc))
       case first =>
        have H := HC15.out
        clear HC15
        by_cases c30 : t350 = t354
        ·rw [if_pos c30] at H
         have c30b0 : (t350 == t354) = true := beq_iff_eq.mpr c30
         have c30b1 : (t350 != t354) = false := bne_eq_false_iff_eq.mpr c30
         clear c30
         (first | rw [c30b0] | (simp only [i64_w, i32_w]; rw [c30b0]) | skip)
         replace H := Option.bind_eq_some_iff.mp H
         obtain ⟨t357, A310, H⟩ := H
         have A31 := Aside0.mk A310
         clear A310
         by_cases c32 : t357 = true
         ·subst c32
          rw [if_pos rfl] at H
          replace H := Option.bind_eq_some_iff.mp H
          obtain ⟨t358, A330, H⟩ := H
          have A33 := Aside0.mk A330
          clear A330
          by_cases c34 : t358 = true
          ·subst c34
           rw [if_pos rfl] at H
           replace H := Option.bind_eq_some_iff.mp H
           obtain ⟨t359, A350, H⟩ := H
           have A35 := Aside0.mk A350
           clear A350
           have H' := Aside0.mk H
           clear H
           obtain ⟨Ao36, co36, eo36⟩ := Kd.S_slice HO352.out
           subst eo36
           obtain ⟨Ao37, co37, eo37⟩ := Kd.S_slice HO356.out
           subst eo37
           go_wp2_with (first | (go_at_call 28; (with_reducible refine (stylusref20_Same.calls kj4 _ _ t349 _ _ t353 true _ ?side1 ?side2 ?side3 ?side4 A31.out).mono ?_); (case side1 => repeat (first | exact (Kd.S_reads' HO352.out).2.2 | (with_reducible refine Kd.C_alloc ?_ _) | (with_reducible refine Kd.C_drewN ?_ _) | (with_reducible refine Kd.C_drew ?_))); (case side2 => exact (Kd.S_reads' HO352.out).2.1); (case side3 => repeat (first | exact (Kd.S_reads' HO356.out).2.2 | (with_reducible refine Kd.C_alloc ?_ _) | (with_reducible refine Kd.C_drewN ?_ _) | (with_reducible refine Kd.C_drew ?_))); (case side4 => exact (Kd.S_reads' HO356.out).2.1); rintro e w38 ⟨rfl, hb⟩; have n0_ := Aside0.mk (Kd.R_below (by (with_reducible repeat (first | apply Kd.R_alloc | apply Kd.R_drewN | apply Kd.R_drew)); exact HO336.out) hb); have n1_ := Aside0.mk (Kd.R_below (by (with_reducible repeat (first | apply Kd.R_alloc | apply Kd.R_drewN | apply Kd.R_drew)); exact HO342.out) hb); have n2_ := Aside0.mk (Kd.R_below (by (with_reducible repeat (first | apply Kd.R_alloc | apply Kd.R_drewN | apply Kd.R_drew)); exact HO348.out) hb); have n3_ := Aside0.mk (Kd.S_below (by (with_reducible repeat (first | apply Kd.S_alloc | apply Kd.S_drewN | apply Kd.S_drew)); exact HO352.out) hb); have n4_ := Aside0.mk (Kd.S_below (by (with_reducible repeat (first | apply Kd.S_alloc | apply Kd.S_drewN | apply Kd.S_drew)); exact HO356.out) hb); have n5_ := Aside0.mk (below_step (by repeat (with_reducible first | exact HB.out | apply below_alloc | apply pw_below_drewN | apply below_drew1)) hb); clear HO336; clear HO342; clear HO348; clear HO352; clear HO356; clear HB; have HO336 := n0_; have HO342 := n1_; have HO348 := n2_; have HO352 := n3_; have HO356 := n4_; have HB := n5_; clear n0_ n1_ n2_ n3_ n4_ n5_; (try clear hb); (try clear hb2); (try clear hk); (try clear hi)) | (go_at_call 29; (with_reducible refine (styluslaw20_same.calls kj4 _ _ y346 _ _ l3 true _ ?side1 ?side2 ?side3 ?side4 A33.out).mono ?_); (case side1 => repeat (first | exact (Kd.R_reads' HO348.out).2.2 | (with_reducible refine Kd.C_alloc ?_ _) | (with_reducible refine Kd.C_drewN ?_ _) | (with_reducible refine Kd.C_drew ?_))); (case side2 => exact (Kd.R_reads' HO348.out).2.1); (case side3 => repeat (first | exact (Kd.C_below HR3.out HB.out) | (with_reducible refine Kd.C_alloc ?_ _) | (with_reducible refine Kd.C_drewN ?_ _) | (with_reducible refine Kd.C_drew ?_))); (case side4 => exact HC3.out); rintro e w' ⟨rfl, ⟨nd, rfl⟩⟩; (try first | exact ⟨rfl, _, World.drewN_drewN _ _ _⟩ | exact ⟨rfl, _, Eq.trans (World.drewN_drewN _ _ _) (congrArg (World.drewN _) (Nat.add_assoc _ _ _))⟩)) | (go_at_call 30; (with_reducible refine (stylusref07_Like.calls kj4 _ _ y334 _ _ l0 t359 _ ?side1 ?side2 ?side3 ?side4 A35.out).mono ?_); (case side1 => repeat (first | exact (Kd.R_reads' HO336.out).2.2 | (with_reducible refine Kd.C_alloc ?_ _) | (with_reducible refine Kd.C_drewN ?_ _) | (with_reducible refine Kd.C_drew ?_))); (case side2 => exact (Kd.R_reads' HO336.out).2.1); (case side3 => repeat (first | exact (Kd.C_below HR0.out (by repeat (with_reducible first | exact HB.out | apply below_alloc | apply pw_below_drewN | apply below_drew1))) | (with_reducible refine Kd.C_alloc ?_ _) | (with_reducible refine Kd.C_drewN ?_ _) | (with_reducible refine Kd.C_drew ?_))); (case side4 => exact HC0.out); rintro e w' ⟨rfl, ⟨nd, rfl⟩⟩; (try first | exact ⟨rfl, _, World.drewN_drewN _ _ _⟩ | exact ⟨rfl, _, Eq.trans (World.drewN_drewN _ _ _) (congrArg (World.drewN _) (Nat.add_assoc _ _ _))⟩)))
           go_meet
           case rel => exact ⟨_, (!t359), (by first | rfl | (simp; done) | (simp [*]; done)), H', ⟨by have := HJ4.out; first | omega | exact Nat.le_refl _⟩, ⟨by (with_reducible repeat (first | apply Kd.R_alloc | apply Kd.R_drewN | apply Kd.R_drew)); exact HO342.out⟩, ⟨by repeat (with_reducible first | exact HB.out | apply below_alloc | apply pw_below_drewN | apply below_drew1)⟩⟩
          ·replace c34 := Bool.eq_false_iff.mpr c34
           subst c34
           rw [if_neg (show ¬ (false = true) by decide)] at H
           have H' := Aside0.mk H
           clear H
           obtain ⟨Ao39, co39, eo39⟩ := Kd.S_slice HO352.out
           subst eo39
           obtain ⟨Ao40, co40, eo40⟩ := Kd.S_slice HO356.out
           subst eo40
           go_wp2_with (first | (go_at_call 28; (with_reducible refine (stylusref20_Same.calls kj4 _ _ t349 _ _ t353 true _ ?side1 ?side2 ?side3 ?side4 A31.out).mono ?_); (case side1 => repeat (first | exact (Kd.S_reads' HO352.out).2.2 | (with_reducible refine Kd.C_alloc ?_ _) | (with_reducible refine Kd.C_drewN ?_ _) | (with_reducible refine Kd.C_drew ?_))); (case side2 => exact (Kd.S_reads' HO352.out).2.1); (case side3 => repeat (first | exact (Kd.S_reads' HO356.out).2.2 | (with_reducible refine Kd.C_alloc ?_ _) | (with_reducible refine Kd.C_drewN ?_ _) | (with_reducible refine Kd.C_drew ?_))); (case side4 => exact (Kd.S_reads' HO356.out).2.1); rintro e w41 ⟨rfl, hb⟩; have n0_ := Aside0.mk (Kd.R_below (by (with_reducible repeat (first | apply Kd.R_alloc | apply Kd.R_drewN | apply Kd.R_drew)); exact HO336.out) hb); have n1_ := Aside0.mk (Kd.R_below (by (with_reducible repeat (first | apply Kd.R_alloc | apply Kd.R_drewN | apply Kd.R_drew)); exact HO342.out) hb); have n2_ := Aside0.mk (Kd.R_below (by (with_reducible repeat (first | apply Kd.R_alloc | apply Kd.R_drewN | apply Kd.R_drew)); exact HO348.out) hb); have n3_ := Aside0.mk (Kd.S_below (by (with_reducible repeat (first | apply Kd.S_alloc | apply Kd.S_drewN | apply Kd.S_drew)); exact HO352.out) hb); have n4_ := Aside0.mk (Kd.S_below (by (with_reducible repeat (first | apply Kd.S_alloc | apply Kd.S_drewN | apply Kd.S_drew)); exact HO356.out) hb); have n5_ := Aside0.mk (below_step (by repeat (with_reducible first | exact HB.out | apply below_alloc | apply pw_below_drewN | apply below_drew1)) hb); clear HO336; clear HO342; clear HO348; clear HO352; clear HO356; clear HB; have HO336 := n0_; have HO342 := n1_; have HO348 := n2_; have HO352 := n3_; have HO356 := n4_; have HB := n5_; clear n0_ n1_ n2_ n3_ n4_ n5_; (try clear hb); (try clear hb2); (try clear hk); (try clear hi)) | (go_at_call 29; (with_reducible refine (styluslaw20_same.calls kj4 _ _ y346 _ _ l3 false _ ?side1 ?side2 ?side3 ?side4 A33.out).mono ?_); (case side1 => repeat (first | exact (Kd.R_reads' HO348.out).2.2 | (with_reducible refine Kd.C_alloc ?_ _) | (with_reducible refine Kd.C_drewN ?_ _) | (with_reducible refine Kd.C_drew ?_))); (case side2 => exact (Kd.R_reads' HO348.out).2.1); (case side3 => repeat (first | exact (Kd.C_below HR3.out HB.out) | (with_reducible refine Kd.C_alloc ?_ _) | (with_reducible refine Kd.C_drewN ?_ _) | (with_reducible refine Kd.C_drew ?_))); (case side4 => exact HC3.out); rintro e w' ⟨rfl, ⟨nd, rfl⟩⟩; (try first | exact ⟨rfl, _, World.drewN_drewN _ _ _⟩ | exact ⟨rfl, _, Eq.trans (World.drewN_drewN _ _ _) (congrArg (World.drewN _) (Nat.add_assoc _ _ _))⟩)))
           go_meet
           case rel => exact ⟨_, (true), (by first | rfl | (simp; done) | (simp [*]; done)), H', ⟨by have := HJ4.out; first | omega | exact Nat.le_refl _⟩, ⟨by (with_reducible repeat (first | apply Kd.R_alloc | apply Kd.R_drewN | apply Kd.R_drew)); exact HO342.out⟩, ⟨by repeat (with_reducible first | exact HB.out | apply below_alloc | apply pw_below_drewN | apply below_drew1)⟩⟩
         ·replace c32 := Bool.eq_false_iff.mpr c32
          subst c32
          rw [if_neg (show ¬ (false = true) by decide)] at H
          have H' := Aside0.mk H
          clear H
          obtain ⟨Ao42, co42, eo42⟩ := Kd.S_slice HO352.out
          subst eo42
          obtain ⟨Ao43, co43, eo43⟩ := Kd.S_slice HO356.out
          subst eo43
          go_wp2_with (first | (go_at_call 28; (with_reducible refine (stylusref20_Same.calls kj4 _ _ t349 _ _ t353 false _ ?side1 ?side2 ?side3 ?side4 A31.out).mono ?_); (case side1 => repeat (first | exact (Kd.S_reads' HO352.out).2.2 | (with_reducible refine Kd.C_alloc ?_ _) | (with_reducible refine Kd.C_drewN ?_ _) | (with_reducible refine Kd.C_drew ?_))); (case side2 => exact (Kd.S_reads' HO352.out).2.1); (case side3 => repeat (first | exact (Kd.S_reads' HO356.out).2.2 | (with_reducible refine Kd.C_alloc ?_ _) | (with_reducible refine Kd.C_drewN ?_ _) | (with_reducible refine Kd.C_drew ?_))); (case side4 => exact (Kd.S_reads' HO356.out).2.1); rintro e w44 ⟨rfl, hb⟩; have n0_ := Aside0.mk (Kd.R_below (by (with_reducible repeat (first | apply Kd.R_alloc | apply Kd.R_drewN | apply Kd.R_drew)); exact HO336.out) hb); have n1_ := Aside0.mk (Kd.R_below (by (with_reducible repeat (first | apply Kd.R_alloc | apply Kd.R_drewN | apply Kd.R_drew)); exact HO342.out) hb); have n2_ := Aside0.mk (Kd.R_below (by (with_reducible repeat (first | apply Kd.R_alloc | apply Kd.R_drewN | apply Kd.R_drew)); exact HO348.out) hb); have n3_ := Aside0.mk (Kd.S_below (by (with_reducible repeat (first | apply Kd.S_alloc | apply Kd.S_drewN | apply Kd.S_drew)); exact HO352.out) hb); have n4_ := Aside0.mk (Kd.S_below (by (with_reducible repeat (first | apply Kd.S_alloc | apply Kd.S_drewN | apply Kd.S_drew)); exact HO356.out) hb); have n5_ := Aside0.mk (below_step (by repeat (with_reducible first | exact HB.out | apply below_alloc | apply pw_below_drewN | apply below_drew1)) hb); clear HO336; clear HO342; clear HO348; clear HO352; clear HO356; clear HB; have HO336 := n0_; have HO342 := n1_; have HO348 := n2_; have HO352 := n3_; have HO356 := n4_; have HB := n5_; clear n0_ n1_ n2_ n3_ n4_ n5_; (try clear hb); (try clear hb2); (try clear hk); (try clear hi)))
          go_meet
          case rel => exact ⟨_, (true), (by first | rfl | (simp; done) | (simp [*]; done)), H', ⟨by have := HJ4.out; first | omega | exact Nat.le_refl _⟩, ⟨by (with_reducible repeat (first | apply Kd.R_alloc | apply Kd.R_drewN | apply Kd.R_drew)); exact HO342.out⟩, ⟨by repeat (with_reducible first | exact HB.out | apply below_alloc | apply pw_below_drewN | apply below_drew1)⟩⟩
        ·rw [if_neg c30] at H
         have c30b0 : (t350 == t354) = false := beq_eq_false_iff_ne.mpr c30
         have c30b1 : (t350 != t354) = true := bne_iff_ne.mpr c30
         (first | rw [c30b0] | (simp only [i64_w, i32_w]; rw [c30b0]) | skip)
         have H' := Aside0.mk H
         clear H
         go_wp2
         repeat (go_quiet (fail); try go_wp2)
         go_meet
         case rel => exact ⟨_, (true), (by first | rfl | (simp; done) | (simp [*]; done)), H', ⟨by have := HJ4.out; first | omega | exact Nat.le_refl _⟩, ⟨by (with_reducible repeat (first | apply Kd.R_alloc | apply Kd.R_drewN | apply Kd.R_drew)); exact HO342.out⟩, ⟨by repeat (with_reducible first | exact HB.out | apply below_alloc | apply pw_below_drewN | apply below_drew1)⟩⟩
       case rest =>
        clear HC15
        try clear c1
        try clear p2
        try clear c3
        try clear c6
        try clear c6b0
        try clear c6b1
        try clear c7
        try clear c10
        try clear c11
        try clear c12
        try clear c30
        try clear c30b0
        try clear c30b1
        try clear c32
        try clear c34
        try clear p2
        obtain ⟨kq, x71_14, rfl, HA, HJ14, HO_10, HB⟩ := hcut
        cases kq with
        | zero => exact absurd HA.out (by simp [styluslaw20_LinesSet.j1])
        | succ kj14 =>
         have H := HA.out
         clear HA
         simp only [styluslaw20_LinesSet.j1] at H
         by_cases c45 : x71_14 = true
         ·subst c45
          rw [if_pos rfl] at H
          obtain rfl := Option.some.inj H
          go_wp2
          repeat (go_quiet (fail); try go_wp2)
          go_ret
          exact ⟨by first | rfl | (simp [errW_none, errW_some] <;> rfl) | (simp [*, errW_none, errW_some] <;> rfl), by repeat (with_reducible first | exact HB.out | apply below_alloc | apply pw_below_drewN | apply below_drew1)⟩
         ·replace c45 := Bool.eq_false_iff.mpr c45
          subst c45
          rw [if_neg (show ¬ (false = true) by decide)] at H
          have H' := Aside0.mk H
          clear H
          go_wp2
          repeat (go_quiet (fail); try go_wp2)
          go_loopg [16] kj14 (fun kq v16 w' => ∃ (x16_3 : Int), v16 = .int .i64 x16_3 ∧ Aside0 (styluslaw20_LinesSet.l0 kq l1 y340 x16_3 = some r) ∧ Aside0 (kq ≤ kj14) ∧ Aside0 (Kd.R k43 43 w' w.heap.size (fun _ => True) (.slice Ao26 y340.length co26) y340) ∧ Aside0 (Below w.heap.size w w'))
          case atStart => exact ⟨(0), (by first | rfl | (simp; done) | (simp [*]; done)), H', ⟨Nat.le_refl _⟩, ⟨by (with_reducible repeat (first | apply Kd.R_alloc | apply Kd.R_drewN | apply Kd.R_drew)); exact HO_10.out⟩, ⟨by repeat (with_reducible first | exact HB.out | apply below_alloc | apply pw_below_drewN | apply below_drew1)⟩⟩
          case round =>
           clear H'
           try clear c1
           try clear p2
           try clear c3
           try clear c4
           try clear c6
           try clear c6b0
           try clear c6b1
           try clear c7
           try clear c10
           try clear c11
           try clear c12
           try clear c30
           try clear c30b0
           try clear c30b1
           try clear c32
           try clear c34
           try clear c45
           try clear p2
           obtain ⟨x16_3, rfl, HA, HK3, HO_10, HB⟩ := hrel
           cases gk with
           | zero => exact absurd HA.out (by simp [styluslaw20_LinesSet.l0])
           | succ k3 =>
            have H := HA.out
            clear HA
            simp only [styluslaw20_LinesSet.l0] at H
            by_cases c46 : x16_3 < (l1.length : Int)
            ·rw [if_pos c46] at H
             have c46b0 : decide (x16_3 < (l1.length : Int)) = true := decide_eq_true c46
             clear c46
             by_cases c47 : 0 ≤ x16_3
             ·rw [if_pos c47] at H
              have c47b0 : decide (0 ≤ x16_3) = true := decide_eq_true c47
              clear c47
              by_cases c48 : x16_3 < (y340.length : Int)
              ·rw [if_pos c48] at H
               have c48b0 : decide (x16_3 < (y340.length : Int)) = true := decide_eq_true c48
               clear c48
               by_cases c49 : (!(((rd_T43 y340 x16_3).f0) == ((rd_T43 l1 x16_3).f0)) || (!(((rd_T43 y340 x16_3).f1) == ((rd_T43 l1 x16_3).f1)) || (!(((rd_T43 y340 x16_3).f2) == ((rd_T43 l1 x16_3).f2)) || (!(((rd_T43 y340 x16_3).f3) == ((rd_T43 l1 x16_3).f3)) || (!(((rd_T43 y340 x16_3).f4) == ((rd_T43 l1 x16_3).f4))))))) = true
               ·rw [if_pos c49] at H
                have c49b0 : (!(((rd_T43 y340 x16_3).f0) == ((rd_T43 l1 x16_3).f0)) || (!(((rd_T43 y340 x16_3).f1) == ((rd_T43 l1 x16_3).f1)) || (!(((rd_T43 y340 x16_3).f2) == ((rd_T43 l1 x16_3).f2)) || (!(((rd_T43 y340 x16_3).f3) == ((rd_T43 l1 x16_3).f3)) || (!(((rd_T43 y340 x16_3).f4) == ((rd_T43 l1 x16_3).f4))))))) = true := c49
                clear c49
                obtain rfl := Option.some.inj H
                have p360 : 0 ≤ (x16_3 : Int) := of_decide_eq_true (by first | (with_reducible assumption) | assumption)
                have q360 : x16_3 < (y340.length : Int) := of_decide_eq_true (by first | (with_reducible assumption) | assumption)
                obtain ⟨ad360, e360, hx360_0, hx360_1, hx360_2, hx360_3, hx360_4⟩ := at_T43 (Kd.R_reads' HO_10.out).2.2 x16_3 p360 q360
                cases e360
                replace p360 := eq_true p360
                replace q360 := eq_true q360
                have p361 : 0 ≤ (x16_3 : Int) := of_decide_eq_true (by first | (with_reducible assumption) | assumption)
                have q361 : x16_3 < (l1.length : Int) := of_decide_eq_true (by first | (with_reducible assumption) | assumption)
                obtain ⟨ad361, e361, hx361_0, hx361_1, hx361_2, hx361_3, hx361_4⟩ := at_T43 HR1.out x16_3 p361 q361
                cases e361
                replace hx361_0 := (HB.out.cell (World.block_lt_of_cell? w _ hx361_0)).trans hx361_0
                replace hx361_1 := (HB.out.cell (World.block_lt_of_cell? w _ hx361_1)).trans hx361_1
                replace hx361_2 := (HB.out.cell (World.block_lt_of_cell? w _ hx361_2)).trans hx361_2
                replace hx361_3 := (HB.out.cell (World.block_lt_of_cell? w _ hx361_3)).trans hx361_3
                replace hx361_4 := (HB.out.cell (World.block_lt_of_cell? w _ hx361_4)).trans hx361_4
                replace p361 := eq_true p361
                replace q361 := eq_true q361
                go_wp2
                repeat (go_quiet (fail); try go_wp2)
                go_ret
                exact ⟨by first | rfl | (simp [errW_none, errW_some] <;> rfl) | (simp [*, errW_none, errW_some] <;> rfl), by repeat (with_reducible first | exact HB.out | apply below_alloc | apply pw_below_drewN | apply below_drew1)⟩
               ·rw [if_neg c49] at H
                have c49b0 : (!(((rd_T43 y340 x16_3).f0) == ((rd_T43 l1 x16_3).f0)) || (!(((rd_T43 y340 x16_3).f1) == ((rd_T43 l1 x16_3).f1)) || (!(((rd_T43 y340 x16_3).f2) == ((rd_T43 l1 x16_3).f2)) || (!(((rd_T43 y340 x16_3).f3) == ((rd_T43 l1 x16_3).f3)) || (!(((rd_T43 y340 x16_3).f4) == ((rd_T43 l1 x16_3).f4))))))) = false := by simpa using c49
                clear c49
                have H' := Aside0.mk H
                clear H
                have p360 : 0 ≤ (x16_3 : Int) := of_decide_eq_true (by first | (with_reducible assumption) | assumption)
                have q360 : x16_3 < (y340.length : Int) := of_decide_eq_true (by first | (with_reducible assumption) | assumption)
                obtain ⟨ad360, e360, hx360_0, hx360_1, hx360_2, hx360_3, hx360_4⟩ := at_T43 (Kd.R_reads' HO_10.out).2.2 x16_3 p360 q360
                cases e360
                replace p360 := eq_true p360
                replace q360 := eq_true q360
                have p361 : 0 ≤ (x16_3 : Int) := of_decide_eq_true (by first | (with_reducible assumption) | assumption)
                have q361 : x16_3 < (l1.length : Int) := of_decide_eq_true (by first | (with_reducible assumption) | assumption)
                obtain ⟨ad361, e361, hx361_0, hx361_1, hx361_2, hx361_3, hx361_4⟩ := at_T43 HR1.out x16_3 p361 q361
                cases e361
                replace hx361_0 := (HB.out.cell (World.block_lt_of_cell? w _ hx361_0)).trans hx361_0
                replace hx361_1 := (HB.out.cell (World.block_lt_of_cell? w _ hx361_1)).trans hx361_1
                replace hx361_2 := (HB.out.cell (World.block_lt_of_cell? w _ hx361_2)).trans hx361_2
                replace hx361_3 := (HB.out.cell (World.block_lt_of_cell? w _ hx361_3)).trans hx361_3
                replace hx361_4 := (HB.out.cell (World.block_lt_of_cell? w _ hx361_4)).trans hx361_4
                replace p361 := eq_true p361
                replace q361 := eq_true q361
                go_wp2
                repeat (go_quiet (fail); try go_wp2)
                go_roundg k3
                case measure => have := HJ4.out; have := HJ14.out; have := HK3.out; omega
                case rel => exact ⟨(wrap64 (x16_3 + 1)), (by first | rfl | (simp; done) | (simp [*]; done)), H', ⟨by have := HJ4.out; have := HJ14.out; have := HK3.out; omega⟩, ⟨by (with_reducible repeat (first | apply Kd.R_alloc | apply Kd.R_drewN | apply Kd.R_drew)); exact HO_10.out⟩, ⟨by repeat (with_reducible first | exact HB.out | apply below_alloc | apply pw_below_drewN | apply below_drew1)⟩⟩
              ·rw [if_neg c48] at H
               exact absurd H (by simp)
             ·rw [if_neg c47] at H
              exact absurd H (by simp)
            ·rw [if_neg c46] at H
             have c46b0 : decide (x16_3 < (l1.length : Int)) = false := decide_eq_false c46
             clear c46
             replace H := Option.bind_eq_some_iff.mp H
             obtain ⟨t362, A500, H⟩ := H
             have A50 := Aside0.mk A500
             clear A500
             obtain rfl := Option.some.inj H
             go_wp2_with (first | (go_at_call 25; (with_reducible refine (styluslaw20_awake.calls k3  t362 _ A50.out).mono ?_); rintro e w51 ⟨rfl, hb⟩; have n0_ := Aside0.mk (Kd.R_below (by (with_reducible repeat (first | apply Kd.R_alloc | apply Kd.R_drewN | apply Kd.R_drew)); exact HO_10.out) hb); have n1_ := Aside0.mk (below_step (by repeat (with_reducible first | exact HB.out | apply below_alloc | apply pw_below_drewN | apply below_drew1)) hb); clear HO_10; clear HB; have HO_10 := n0_; have HB := n1_; clear n0_ n1_; (try clear hb); (try clear hb2); (try clear hk); (try clear hi)))
             go_ret
             exact ⟨by first | rfl | (simp [errW_none, errW_some] <;> rfl) | (simp [*, errW_none, errW_some] <;> rfl), by repeat (with_reducible first | exact HB.out | apply below_alloc | apply pw_below_drewN | apply below_drew1)⟩
      ·rw [if_neg c12] at H
       exact absurd H (by simp)
     ·rw [if_neg c11] at H
      exact absurd H (by simp)
    ·rw [if_neg c10] at H
     exact absurd H (by simp)
end Go.Proofs.Ytbddfnmhhmkfkaa.Pr
namespace Go.Proofs.Ytbddfnmhhmkfkaa.Pr
open Go.RowKit Go.Proofs.YtbddfnmhhmkfkaaW.PrintWords Go.Proofs.YtbddfnmhhmkfkaaW.PrintLast Go.Proofs.YtbddfnmhhmkfkaaW.PrintMore
theorem refSet_ev (toks : List S101) {l : List S43} {w : Int} (hck : checkP l w = 0) (hl : l.length ≤ 1000) (hk : l.any (oddT toks) = false) {a b : Nat} (hab : a ≤ b) (hb : b ≤ l.length) :
  Ev (fun k => stylusref20_Set.f k toks l w ((a : Int) - 1) b) ((lineC toks l w ((a : Int) - 1) b).f0, (lineC toks l w ((a : Int) - 1) b).f1, (lineC toks l w ((a : Int) - 1) b).f2) :=
 Ev.congr (fun k => if_pos ⟨hck, hl, hk, by omega, by omega, by omega⟩) (Ev.now _)
theorem refOf_l0 (toks : List S101) {l : List S43} {w : Int} (hck : checkP l w = 0) (hl1 : l.length ≤ 1000) (hk : l.any (oddT toks) = false) (bs : List Int) (hbs : bs.length ≤ 100000) : ∀ (d i : Nat) (f : Int) (out : List S55), i + d = bs.length → -1 ≤ f → Br l f (bs.drop i) → out.length ≤ i →
  Ev (fun k => stylusref20_Of.l0 k toks l w bs out f i) (out ++ linesC toks l w f (bs.drop i), 0)
 | 0, i, f, out, h, hf, hB, ho => by
  rw [List.drop_of_length_le (by omega)]
  refine Ev.step (fun k => ?_) (Ev.now _)
  rw [stylusref20_Of.l0.eq_2, if_neg (by omega), linesC, List.append_nil]
 | d + 1, i, f, out, h, hf, hB, ho => by
  rw [rd_drop (bs := bs) (by omega)] at hB ⊢
  obtain ⟨h1, h2, h3, h4⟩ := hB
  obtain ⟨p1, p2⟩ := place_le h2
  have c1 : (i : Int) < bs.length := by omega
  have c2 : (0 : Int) ≤ i := by omega
  have e : ∀ _ : Unit, wrap64 ((i : Int) + 1) = ((i + 1 : Nat) : Int) := fun _ => by rw [w64 (by omega) (by omega)]; omega
  obtain ⟨a, ha⟩ : ∃ a : Nat, f + 1 = a := ⟨(f + 1).toNat, by omega⟩
  obtain ⟨c, hc⟩ : ∃ c : Nat, rd bs i = c := ⟨(rd bs i).toNat, by omega⟩
  rw [hc] at h1 h2 h3 h4 p1 p2 ⊢
  have ih := refOf_l0 toks hck hl1 hk bs hbs d (i + 1) c (out ++ [lineC toks l w f c]) (by omega) (by omega) h4 (by simp; omega)
  rw [List.append_assoc, List.singleton_append] at ih
  rw [linesC]
  have hS := refSet_ev toks hck hl1 hk (a := a) (b := c) (by omega) (by omega)
  rw [show (a : Int) - 1 = f by omega] at hS
  refine Ev.step (f := fun k => (stylusref20_Set.f k toks l w f c).bind fun bt307 => stylusref20_Of.l0 k toks l w bs (out ++ [(⟨bt307.1, bt307.2.1, bt307.2.2⟩ : S55)]) c ((i + 1 : Nat) : Int)) (fun k => ?_) (Ev.bind hS ih)
  rw [stylusref20_Of.l0.eq_2, if_pos c1, if_pos c2, hc, e ()]
  congr 1
  funext bt
  rw [if_pos (by omega)]
theorem refLinesOf_ev (toks : List S101) (l : List S43) (w : Int) (bs : List Int) (hl1 : l.length ≤ 1000) (hbs : bs.length ≤ 100000) :
  Ev (fun k => stylusref20_Of.f k toks l w bs) (if checkP l w = 0 ∧ legalL l bs = true then (if l.any (oddT toks) = true then ([], 1) else (linesC toks l w (-1) bs, 0)) else ([], 1)) := by
 have bad : ∀ b : Bool, b = true → Ev (fun k => stylusref20_Of.j0 k toks l w bs b) (([] : List S55), (1 : Int)) := fun b hb => Ev.step (fun k => by rw [stylusref20_Of.j0.eq_2, if_pos hb]) (Ev.now _)
 refine Ev.bind (refCheck_ev l w) ?_
 by_cases h0 : checkP l w = 0
 ·have ok := check_ok h0
  simp only [if_pos h0]
  refine Ev.bind (refLegal_ev l bs hbs) ?_
  by_cases h1 : legalL l bs = true
  ·simp only [if_pos h1]
   rw [if_pos ⟨h0, h1⟩]
   refine Ev.bind (refKnown_ev toks ok.len) ?_
   by_cases h2 : l.any (oddT toks) = true
   ·rw [if_pos h2, h2]
    exact bad _ rfl
   ·rw [if_neg h2]
    have hf : l.any (oddT toks) = false := by simpa using h2
    have hbr : Br l (-1) bs := by
     have := h1
     unfold legalL at this
     rw [Bool.and_eq_true] at this
     exact ((legalB_iff l bs (-1)).1 this.2).1
    have h3 := refOf_l0 toks h0 hl1 hf bs hbs bs.length 0 (-1) [] (by omega) (by omega) hbr (by simp)
    rw [hf]
    refine Ev.step (fun k => ?_) h3
    rw [stylusref20_Of.j0.eq_2, if_neg (by simp)]
    rfl
  ·simp only [if_neg h1]
   rw [if_neg (fun h => h1 h.2)]
   exact bad _ rfl
 ·simp only [if_neg h0]
  rw [if_neg (fun h => h0 h.1)]
  exact bad _ rfl
theorem one_refl (sp : List S57) (a b : Int) (h : sp.length ≤ 1000000) : Ev (fun k => stylusref20_One.f k sp a b sp a b) true := by
 have loop : ∀ (d i : Nat), i + d = sp.length → Ev (fun k => stylusref20_One.l0 k i sp a b sp a b) true := by
  intro d
  induction d with
  | zero => exact fun i hi => Ev.step (fun k => by rw [stylusref20_One.l0.eq_2, if_neg (by omega)]) (Ev.now _)
  | succ d ih =>
   intro i hi
   have c1 : (i : Int) < sp.length := by omega
   have c2 : (0 : Int) ≤ i := by omega
   have e : wrap64 ((i : Int) + 1) = ((i + 1 : Nat) : Int) := by rw [w64 (by omega) (by omega)]; omega
   refine Ev.step (fun k => ?_) (ih (i + 1) (by omega))
   rw [stylusref20_One.l0.eq_2, if_pos c1, if_pos c2, if_pos c1, if_neg (by simp), e]
 refine Ev.congr (f := fun k => stylusref20_One.j0 k false sp a b sp a b) (fun k => ?_) (Ev.step (fun k => ?_) (loop sp.length 0 (by omega)))
 ·unfold stylusref20_One.f
  rw [if_pos rfl, if_pos rfl, bne_self_eq_false]
 ·rw [stylusref20_One.j0.eq_2, if_neg (by simp)]
  rfl
theorem rdT55_get (xs : List S55) (i : Nat) (h : i < xs.length) : rd_T55 xs i ∈ xs := by
 unfold rd_T55
 rw [Int.toNat_natCast, List.getD_eq_getElem?_getD, List.getElem?_eq_getElem h]
 exact List.getElem_mem h
theorem same_refl (xs : List S55) (h : xs.length ≤ 1000000) (hx : ∀ x ∈ xs, x.f0.length ≤ 1000000) : Ev (fun k => stylusref20_Same.f k xs xs) true := by
 have loop : ∀ (d i : Nat), i + d = xs.length → Ev (fun k => stylusref20_Same.l0 k xs xs i) true := by
  intro d
  induction d with
  | zero => exact fun i hi => Ev.step (fun k => by rw [stylusref20_Same.l0.eq_2, if_neg (by omega)]) (Ev.now _)
  | succ d ih =>
   intro i hi
   have c1 : (i : Int) < xs.length := by omega
   have c2 : (0 : Int) ≤ i := by omega
   have e : wrap64 ((i : Int) + 1) = ((i + 1 : Nat) : Int) := by rw [w64 (by omega) (by omega)]; omega
   have ho := one_refl (rd_T55 xs i).f0 (rd_T55 xs i).f1 (rd_T55 xs i).f2 (hx _ (rdT55_get xs i (by omega)))
   refine Ev.step (f := fun k => (stylusref20_One.f k (rd_T55 xs i).f0 (rd_T55 xs i).f1 (rd_T55 xs i).f2 (rd_T55 xs i).f0 (rd_T55 xs i).f1 (rd_T55 xs i).f2).bind fun t => if t = true then stylusref20_Same.l0 k xs xs ((i + 1 : Nat) : Int) else some false) (fun k => ?_) (Ev.bind ho ?_)
   ·rw [stylusref20_Same.l0.eq_2, if_pos c1, if_pos c2, if_pos c1, e]
   ·simpa using ih (i + 1) (by omega)
 refine Ev.congr (fun k => ?_) (loop xs.length 0 (by omega))
 unfold stylusref20_Same.f
 rw [if_pos rfl]
 rfl
theorem same07_refl (xs : List S101) (h : xs.length ≤ 1000000000000000) : Ev (fun k => stylusref07_Same.f k xs xs) true := by
 have loop : ∀ (d i : Nat), i + d = xs.length → Ev (fun k => stylusref07_Same.l0 k xs xs i) true := by
  intro d
  induction d with
  | zero => exact fun i hi => Ev.step (fun k => by rw [stylusref07_Same.l0.eq_2, if_neg (by omega)]) (Ev.now _)
  | succ d ih =>
   intro i hi
   have c1 : (i : Int) < xs.length := by omega
   have c2 : (0 : Int) ≤ i := by omega
   have e : wrap64 ((i : Int) + 1) = ((i + 1 : Nat) : Int) := by rw [w64 (by omega) (by omega)]; omega
   refine Ev.step (fun k => ?_) (ih (i + 1) (by omega))
   rw [stylusref07_Same.l0.eq_2, if_pos c1, if_pos c2, if_pos c1, if_pos rfl, if_pos rfl, e]
 refine Ev.congr (fun k => ?_) (loop xs.length 0 (by omega))
 unfold stylusref07_Same.f
 rw [if_pos rfl]
 rfl
theorem like07_refl (xs : List S101) (h : xs.length ≤ 1000000000000000) : Ev (fun k => stylusref07_Like.f k xs xs) true := by
 have loop : ∀ (d i : Nat), i + d = xs.length → Ev (fun k => stylusref07_Like.l0 k xs xs i) true := by
  intro d
  induction d with
  | zero =>
   intro i hi
   refine Ev.step (f := fun k => stylusref07_Like.j1 k xs xs i false) (fun k => by rw [stylusref07_Like.l0.eq_2, if_neg (by omega)]) ?_
   refine Ev.step (f := fun k => (stylusref07_Same.f k xs xs).bind fun t => some t) (fun k => by rw [stylusref07_Like.j1.eq_2, if_neg (by simp)]) (Ev.bind (same07_refl xs h) (Ev.now _))
  | succ d ih =>
   intro i hi
   have c1 : (i : Int) < xs.length := by omega
   have c2 : (0 : Int) ≤ i := by omega
   have e : wrap64 ((i : Int) + 1) = ((i + 1 : Nat) : Int) := by rw [w64 (by omega) (by omega)]; omega
   refine Ev.step (f := fun k => stylusref07_Like.j1 k xs xs i true) (fun k => by rw [stylusref07_Like.l0.eq_2, if_pos c1, decide_eq_true c1]) (Ev.step (fun k => ?_) (ih (i + 1) (by omega)))
   rw [stylusref07_Like.j1.eq_2, if_pos rfl, if_pos c2, if_pos c1, if_pos c1, if_pos rfl, e]
 exact loop xs.length 0 (by omega)
theorem same20_refl (a : List Int) (hl : a.length ≤ 1000000) : Ev (fun k => styluslaw20_same.f k a a) true := by
 have loop : ∀ (d i : Nat), i + d = a.length → Ev (fun k => styluslaw20_same.l0 k a a i) true := by
  intro d
  induction d with
  | zero => exact fun i hi => Ev.step (fun k => by rw [styluslaw20_same.l0.eq_2, if_neg (by omega)]) (Ev.now _)
  | succ d ih =>
   intro i hi
   have c1 : (i : Int) < a.length := by omega
   have c2 : (0 : Int) ≤ i := by omega
   have e : wrap64 ((i : Int) + 1) = ((i + 1 : Nat) : Int) := by rw [w64 (by omega) (by omega)]; omega
   refine Ev.step (fun k => ?_) (ih (i + 1) (by omega))
   rw [styluslaw20_same.l0.eq_2, if_pos c1, if_pos c2, if_pos c1, if_pos rfl, e]
 refine Ev.congr (fun k => ?_) (loop a.length 0 (by omega))
 unfold styluslaw20_same.f
 rw [if_pos rfl]
 rfl
theorem linesSet_l0 (l : List S43) (hl : l.length ≤ 120) : ∀ (d i : Nat), i + d = l.length → Ev (fun k => styluslaw20_LinesSet.l0 k l l i) true
 | 0, i, h => Ev.step (fun k => by rw [styluslaw20_LinesSet.l0.eq_2, if_neg (by omega)]) awake20_ev
 | d + 1, i, h => by
  have c1 : (i : Int) < l.length := by omega
  have c2 : (0 : Int) ≤ i := by omega
  have e : wrap64 ((i : Int) + 1) = ((i + 1 : Nat) : Int) := by rw [w64 (by omega) (by omega)]; omega
  refine Ev.step (fun k => ?_) (linesSet_l0 l hl d (i + 1) (by omega))
  rw [styluslaw20_LinesSet.l0.eq_2, if_pos c1, if_pos c2, if_pos c1, if_neg (by simp), e]
theorem linesSet_pure (toks : List S101) (l : List S43) (w : Int) (bs : List Int) (ht : toks.length * 24 ≤ 140737488351232) : Ev (fun k => styluslaw20_LinesSet.f k toks l w bs) true := by
 have easy : Ev (fun k => styluslaw20_LinesSet.j0 k toks l w bs true) true := Ev.step (fun k => by rw [styluslaw20_LinesSet.j0.eq_2, if_pos rfl]) awake20_ev
 by_cases hn : (l.length : Int) > 120
 ·exact Ev.congr (g := fun k => styluslaw20_LinesSet.f k toks l w bs) (fun k => if_pos hn) easy
 refine Ev.congr (g := fun k => styluslaw20_LinesSet.f k toks l w bs) (fun k => if_neg hn) ?_
 by_cases hb : (bs.length : Int) > 120
 ·rw [decide_eq_true hb]
  exact easy
 rw [decide_eq_false hb]
 have hR := refLinesOf_ev toks l w bs (by omega) (by omega)
 have hP := lines_Of_f toks l w bs (by omega) (by omega)
 obtain ⟨res, hres⟩ : ∃ res, (if checkP l w = 0 ∧ legalL l bs = true then (if l.any (oddT toks) = true then (([] : List S55), (1 : Int)) else (linesC toks l w (-1) bs, 0)) else ([], 1)) = res := ⟨_, rfl⟩
 have hlen : res.1.length ≤ 120 ∧ ∀ x ∈ res.1, x.f0.length ≤ 121 := by
  rw [← hres]
  split
  ·rename_i h
   split
   ·exact ⟨by simp, fun x hx => by cases hx⟩
   ·have hbr : Br l (-1) bs := by
     have := h.2
     unfold legalL at this
     rw [Bool.and_eq_true] at this
     exact ((legalB_iff l bs (-1)).1 this.2).1
    obtain ⟨i1, i2⟩ := linesC_mem toks w bs (-1) hbr
    exact ⟨by rw [i1]; omega, fun x hx => by have := i2 x hx; omega⟩
  ·exact ⟨by simp, fun x hx => by cases hx⟩
 rw [hres] at hR hP
 clear hres
 refine Ev.step (f := fun k => ((some res : Option (List S55 × Int)).bind fun bt349 => ((stylusref20_Of.f k toks l w bs).bind fun bt353 => (if bt349.2 = bt353.2 then ((stylusref20_Same.f k bt349.1 bt353.1).bind fun t357 => (if t357 = true then ((styluslaw20_same.f k bs bs).bind fun t358 => (if t358 = true then ((stylusref07_Like.f k toks toks).bind fun t359 => (styluslaw20_LinesSet.j1 k l l (!t359))) else (styluslaw20_LinesSet.j1 k l l true))) else (styluslaw20_LinesSet.j1 k l l true))) else (styluslaw20_LinesSet.j1 k l l true))))) (fun k => ?_) ?_
 ·rw [styluslaw20_LinesSet.j0.eq_2, if_neg (by simp), ← hP]
  simp only [Option.bind_some, List.nil_append, List.length_nil, Nat.zero_add]
  rw [if_pos (by omega), if_pos (by omega), if_pos (by omega)]
 ·refine Ev.bind (Ev.now res) (Ev.bind hR ?_)
  simp only [if_true]
  refine Ev.bind (same_refl res.1 (by omega) (fun x hx => by have := hlen.2 x hx; omega)) ?_
  simp only [if_true]
  refine Ev.bind (same20_refl bs (by omega)) ?_
  simp only [if_true]
  refine Ev.bind (like07_refl toks (by omega)) ?_
  refine Ev.step (fun k => ?_) (linesSet_l0 l (by omega) l.length 0 (by omega))
  rw [styluslaw20_LinesSet.j1.eq_2, if_neg (by simp)]
  rfl
theorem linesSet_walk (A0 : Option Addr) (c0 : Nat) (l0 : List S101) (A1 : Option Addr) (c1 : Nat) (l1 : List S43) (a2 : Int) (A3 : Option Addr) (c3 : Nat) (l3 : List Int) (w : World) (hr0 : Kd.C k101 w A0 l0.length l0) (hc0 : l0.length ≤ c0) (h0 : l0.length * 24 ≤ 140737488351232)
  (hr1 : Kd.C k43 w A1 l1.length l1) (hc1 : l1.length ≤ c1) (_ : l1.length * 40 ≤ 140737488351232) (hr3 : Kd.C (Kd.int .i64) w A3 l3.length l3) (hc3 : l3.length ≤ c3) (_ : l3.length * 8 ≤ 140737488351232) :
  Calls Try.prog 7 #[.slice A0 l0.length c0, .slice A1 l1.length c1, .int .i64 a2, .slice A3 l3.length c3] w fun e w' => e = .returned (.bool true) ∧ Below w.heap.size w w' := by
 obtain ⟨k, h⟩ := (linesSet_pure l0 l1 a2 l3 h0).rounds
 exact styluslaw20_LinesSet.calls k A0 c0 l0 A1 c1 l1 a2 A3 c3 l3 true w hr0 hc0 hr1 hc1 hr3 hc3 h
end Go.Proofs.Ytbddfnmhhmkfkaa.Pr
namespace Go.Proofs.YtbddfnmhhmkfkaaW.PrintWords
open Go.ChangeShapes Go.WideShapes
theorem sized_ints {H : Type} {enc : TypeId × Value → H} {P : Program} {W : World} {base : Nat} {spare : Nat → Bool} {held : Bool} {t e : TypeId} {k : IntKind} {a : Option Addr} {len cap : Nat} {d : DataW H} {ps : List MemPlace} {ts : List TypeId} {ds : List (DataW H)} {j : Nat}
  (hsz : (DataW.weightsEach P ts ds).all (· ≤ reachBytes) = true) (ht : ts[j]? = some t) (hd : ds[j]? = some d) (hu : P.underlying t = some (.slice e)) (he : P.underlying e = some (.int k)) (hc : P.cellsOf e = 1) {B : Nat} (hB : P.bytesOf e = B)
  (h : DataW.Trod enc P W base spare held t (.slice a len cap) d ps) : len * B ≤ 140737488351232 := by
 obtain ⟨fuel, hf⟩ := h
 rcases open_ints hu he hc hf with ⟨hcs, _⟩ | ⟨x, l, c, zs, hcs, _, hl, _, hz, hx, _, _⟩
 ·simp [Value.cells] at hcs
  obtain ⟨rfl, rfl, rfl⟩ := hcs
  simp
 ·simp [Value.cells] at hcs
  obtain ⟨rfl, rfl, rfl⟩ := hcs
  obtain ⟨hx, _⟩ := Prod.mk.inj hx
  subst hx
  have z := sized_slice hsz ht hd hu
  rw [hB] at z
  have hl2 : len ≤ zs.length := by
   rw [hz]
   split
   ·exact hl
   ·exact Nat.le_refl _
  have h1 : (lits (H := H) k (zs.take len)).length + (lits (H := H) k (zs.drop len)).length = zs.length := by
   simp [lits]
   omega
  rw [h1] at z
  exact Nat.le_trans (Nat.mul_le_mul_right _ hl2) z
end Go.Proofs.YtbddfnmhhmkfkaaW.PrintWords
