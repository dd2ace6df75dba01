/- Texts of this seat, one behind the other. -/
import Derived.WalkKit
import Derived.Test.YtbddfnmhhmkfkaaXLinesSet1
import Derived.Test.YtbddfnmhhmkfkaaXLinesSet2
import Derived.Test.YtbddfnmhhmkfkaaXLinesSet3
import Derived.Test.YtbddfnmhhmkfkaaXLinesSet4
import Derived.Test.YtbddfnmhhmkfkaaXLinesSet5
set_option linter.unusedVariables false
set_option linter.unusedSimpArgs false
namespace Go.Proofs.Ytbddfnmhhmkfkaa.Pr
open Go.RowKit Go.Proofs.YtbddfnmhhmkfkaaW.PrintWords Go.Proofs.YtbddfnmhhmkfkaaW.PrintLast Go.Proofs.YtbddfnmhhmkfkaaW.PrintMore
attribute [local go_sem] max2_int min2_int max_two min_two max_three min_three max_four min_four
def best_flow_legal.f (l0_0 : List (S43)) (a0_1 : Int) (l0_2 : List (S85)) (a1 : Int) (a2 : Int) : Option (Bool) := (best_flow_hyphen.f l0_0 a0_1 l0_2 a1).bind fun t133 => (if t133 = true then ((best_flow_hyphen.f l0_0 a0_1 l0_2 a2).bind fun t134 => (some (!t134))) else (some true))
set_option maxHeartbeats 8000000 in
set_option maxRecDepth 100000 in
theorem best_flow_legal.calls (A0_0 : Option Addr) (c0_0 : Nat) (l0_0 : List (S43)) (a0_1 : Int) (A0_2 : Option Addr) (c0_2 : Nat) (l0_2 : List (S85)) (a1 : Int) (a2 : Int) (r : Bool) (w : World) (hr0_0 : Kd.C k43 w A0_0 l0_0.length l0_0) (hc0_0 : l0_0.length ≤ c0_0) (hr0_2 : Kd.C k85 w A0_2 l0_2.length l0_2) (hc0_2 : l0_2.length ≤ c0_2) (h : best_flow_legal.f l0_0 a0_1 l0_2 a1 a2 = some r) :
  Calls Try.prog 45 #[.agg #[.slice A0_0 l0_0.length c0_0, .int .i64 a0_1, .slice A0_2 l0_2.length c0_2], .int .i64 a1, .int .i64 a2] w fun e w' => e = .returned (.bool r) ∧ Below w.heap.size w w' := by
 have hu67 := Try.underlying67
 have HR0_0 := Aside0.mk hr0_0
 have HC0_0 := Aside0.mk hc0_0
 clear hr0_0 hc0_0
 have HR0_2 := Aside0.mk hr0_2
 have HC0_2 := Aside0.mk hc0_2
 clear hr0_2 hc0_2
 have HB := Aside0.mk (Below.refl w.heap.size w)
 have H : ((best_flow_hyphen.f l0_0 a0_1 l0_2 a1).bind fun t133 => (if t133 = true then ((best_flow_hyphen.f l0_0 a0_1 l0_2 a2).bind fun t134 => (some (!t134))) else (some true))) = some r := h
 clear h
 replace H := Option.bind_eq_some_iff.mp H
 obtain ⟨t133, A40, H⟩ := H
 replace H : (if t133 = true then ((best_flow_hyphen.f l0_0 a0_1 l0_2 a2).bind fun t134 => (some (!t134))) else (some true)) = some r := H
 have A4 := Aside0.mk A40
 clear A40
 by_cases c5 : t133 = true
 ·subst c5
  have H1 : ((best_flow_hyphen.f l0_0 a0_1 l0_2 a2).bind fun t134 => (some (!t134))) = some r := by rw [if_pos rfl] at H; exact H
  clear H
  have H := H1
  clear H1
  replace H := Option.bind_eq_some_iff.mp H
  obtain ⟨t134, A60, H⟩ := H
  replace H : (some (!t134)) = some r := H
  have A6 := Aside0.mk A60
  clear A60
  obtain rfl := Option.some.inj H
  go_enter Try.func45, Try.ntmps45
  go_wp2_with (first | ((with_reducible refine gate_dst (N := 3) rfl ?_); refine box_event ?hg (N := 3) ?hd (cs := #[.slice A0_0 l0_0.length c0_0, .int .i64 a0_1, .slice A0_2 l0_2.length c0_2]) (t := 67) ?hr ?_; (case hd => rfl); (case hg => rfl); (case hr => first | (go_simp; done) | (go_simp; rfl)); intro gb132 hg w7 hbox hb; have n0_ := Aside0.mk (below_step (by repeat (first | (with_reducible first | exact HB.out | apply below_alloc | apply pw_below_drewN | apply below_drew1) | exact HB.out)) hb); have n1_ := Aside0.mk (hbox); have n2_ := Aside0.mk ((by rw [hg]; exact (below_size (by repeat (first | (with_reducible first | exact HB.out | apply below_alloc | apply pw_below_drewN | apply below_drew1) | exact HB.out))) : w.heap.size ≤ gb132)); have n3_ := Aside0.mk ((by rw [hg]; exact (below_size (by repeat (first | (with_reducible first | exact HB.out | apply below_alloc | apply pw_below_drewN | apply below_drew1) | exact HB.out))) : w.heap.size ≤ gb132)); clear HB; have HB := n0_; have BK132 := n1_; have GW132 := n2_; have GE132 := n3_; clear n0_ n1_ n2_ n3_; clear hb hbox hg; have hcz8_0 : w7.cell? ⟨gb132, 0, none⟩ = some (.slice A0_0 l0_0.length c0_0) := (blk_cell BK132.out 0).trans rfl; have hcz8_1 : w7.cell? ⟨gb132, 1, none⟩ = some (.int .i64 a0_1) := (blk_cell BK132.out 1).trans rfl; have hcz8_2 : w7.cell? ⟨gb132, 2, none⟩ = some (.slice A0_2 l0_2.length c0_2) := (blk_cell BK132.out 2).trans rfl; have hfz8_0 := blk_frozen BK132.out 0; have hfz8_1 := blk_frozen BK132.out 1; have hfz8_2 := blk_frozen BK132.out 2) | ((with_reducible refine gate_callee (f := 75) rfl ?_); refine goesL_ (some 9) rfl rfl Try.func75 (by kernel_rfl) rfl #[.agg #[.slice A0_0 l0_0.length c0_0, .int .i64 a0_1, .slice A0_2 l0_2.length c0_2], .int .i64 a1] rfl (by (try simp only [List.map_toArray, List.map_cons, List.map_nil]); first | done | rfl | (simp only [List.length_drop, List.length_take]; rfl)) ?_; (with_reducible refine (best_flow_hyphen.calls _ _ l0_0 a0_1 _ _ l0_2 a1 true _ ?side1 ?side2 ?side3 ?side4 A4.out).mono ?_); (case side1 => repeat (first | exact (Kd.C_below HR0_0.out HB.out) | (with_reducible refine Kd.C_alloc ?_ _) | (with_reducible refine Kd.C_drewN ?_ _) | (with_reducible refine Kd.C_drew ?_))); (case side2 => exact HC0_0.out); (case side3 => repeat (first | exact (Kd.C_below HR0_2.out HB.out) | (with_reducible refine Kd.C_alloc ?_ _) | (with_reducible refine Kd.C_drewN ?_ _) | (with_reducible refine Kd.C_drew ?_))); (case side4 => exact HC0_2.out); rintro e w9 ⟨rfl, hb⟩; refine ⟨_, rfl, ?_⟩; have n0_ := Aside0.mk (blk_below (g := gb132) (o := .cells #[.slice A0_0 l0_0.length c0_0, .int .i64 a0_1, .slice A0_2 l0_2.length c0_2] 67 (0, 0)) (by (with_reducible repeat (first | refine blk_drewN ?_ _ | refine blk_drew ?_ | refine blk_alloc ?_ _)); exact BK132.out) hb); have n1_ := Aside0.mk (below_step (by repeat (first | (with_reducible first | exact HB.out | apply below_alloc | apply pw_below_drewN | apply below_drew1 | refine below_set ?_ GE132.out) | exact HB.out)) hb); clear BK132; clear HB; have BK132 := n0_; have HB := n1_; clear n0_ n1_; (try clear hb); (try clear hb2); (try clear hk); (try clear hi); have hcz10_0 : w9.cell? ⟨gb132, 0, none⟩ = some (.slice A0_0 l0_0.length c0_0) := (blk_cell BK132.out 0).trans rfl; have hcz10_1 : w9.cell? ⟨gb132, 1, none⟩ = some (.int .i64 a0_1) := (blk_cell BK132.out 1).trans rfl; have hcz10_2 : w9.cell? ⟨gb132, 2, none⟩ = some (.slice A0_2 l0_2.length c0_2) := (blk_cell BK132.out 2).trans rfl; have hfz10_0 := blk_frozen BK132.out 0; have hfz10_1 := blk_frozen BK132.out 1; have hfz10_2 := blk_frozen BK132.out 2) | (go_at_call 75; (with_reducible refine (best_flow_hyphen.calls _ _ l0_0 a0_1 _ _ l0_2 a2 t134 _ ?side1 ?side2 ?side3 ?side4 A6.out).mono ?_); (case side1 => repeat (first | exact (Kd.C_below HR0_0.out HB.out) | (with_reducible refine Kd.C_alloc ?_ _) | (with_reducible refine Kd.C_drewN ?_ _) | (with_reducible refine Kd.C_drew ?_))); (case side2 => exact HC0_0.out); (case side3 => repeat (first | exact (Kd.C_below HR0_2.out HB.out) | (with_reducible refine Kd.C_alloc ?_ _) | (with_reducible refine Kd.C_drewN ?_ _) | (with_reducible refine Kd.C_drew ?_))); (case side4 => exact HC0_2.out); rintro e w11 ⟨rfl, hb⟩; have n0_ := Aside0.mk (blk_below (g := gb132) (o := .cells #[.slice A0_0 l0_0.length c0_0, .int .i64 a0_1, .slice A0_2 l0_2.length c0_2] 67 (0, 0)) (by (with_reducible repeat (first | refine blk_drewN ?_ _ | refine blk_drew ?_ | refine blk_alloc ?_ _)); exact BK132.out) hb); have n1_ := Aside0.mk (below_step (by repeat (first | (with_reducible first | exact HB.out | apply below_alloc | apply pw_below_drewN | apply below_drew1 | refine below_set ?_ GE132.out) | exact HB.out)) hb); clear BK132; clear HB; have BK132 := n0_; have HB := n1_; clear n0_ n1_; (try clear hb); (try clear hb2); (try clear hk); (try clear hi)))
  go_ret
  exact ⟨by first | rfl | (simp [errW_none, errW_some] <;> rfl) | (simp [*, errW_none, errW_some] <;> rfl), by repeat (first | (with_reducible first | exact HB.out | apply below_alloc | apply pw_below_drewN | apply below_drew1 | refine below_set ?_ GE132.out) | exact HB.out)⟩
 ·replace c5 := Bool.eq_false_iff.mpr c5
  subst c5
  have H1 : (some true) = some r := by rw [if_neg (show ¬ (false = true) by decide)] at H; exact H
  clear H
  have H := H1
  clear H1
  obtain rfl := Option.some.inj H
  go_enter Try.func45, Try.ntmps45
  go_wp2_with (first | ((with_reducible refine gate_dst (N := 3) rfl ?_); refine box_event ?hg (N := 3) ?hd (cs := #[.slice A0_0 l0_0.length c0_0, .int .i64 a0_1, .slice A0_2 l0_2.length c0_2]) (t := 67) ?hr ?_; (case hd => rfl); (case hg => rfl); (case hr => first | (go_simp; done) | (go_simp; rfl)); intro gb132 hg w12 hbox hb; have n0_ := Aside0.mk (below_step (by repeat (first | (with_reducible first | exact HB.out | apply below_alloc | apply pw_below_drewN | apply below_drew1) | exact HB.out)) hb); have n1_ := Aside0.mk (hbox); have n2_ := Aside0.mk ((by rw [hg]; exact (below_size (by repeat (first | (with_reducible first | exact HB.out | apply below_alloc | apply pw_below_drewN | apply below_drew1) | exact HB.out))) : w.heap.size ≤ gb132)); have n3_ := Aside0.mk ((by rw [hg]; exact (below_size (by repeat (first | (with_reducible first | exact HB.out | apply below_alloc | apply pw_below_drewN | apply below_drew1) | exact HB.out))) : w.heap.size ≤ gb132)); clear HB; have HB := n0_; have BK132 := n1_; have GW132 := n2_; have GE132 := n3_; clear n0_ n1_ n2_ n3_; clear hb hbox hg; have hcz13_0 : w12.cell? ⟨gb132, 0, none⟩ = some (.slice A0_0 l0_0.length c0_0) := (blk_cell BK132.out 0).trans rfl; have hcz13_1 : w12.cell? ⟨gb132, 1, none⟩ = some (.int .i64 a0_1) := (blk_cell BK132.out 1).trans rfl; have hcz13_2 : w12.cell? ⟨gb132, 2, none⟩ = some (.slice A0_2 l0_2.length c0_2) := (blk_cell BK132.out 2).trans rfl; have hfz13_0 := blk_frozen BK132.out 0; have hfz13_1 := blk_frozen BK132.out 1; have hfz13_2 := blk_frozen BK132.out 2) | ((with_reducible refine gate_callee (f := 75) rfl ?_); refine goesL_ (some 9) rfl rfl Try.func75 (by kernel_rfl) rfl #[.agg #[.slice A0_0 l0_0.length c0_0, .int .i64 a0_1, .slice A0_2 l0_2.length c0_2], .int .i64 a1] rfl (by (try simp only [List.map_toArray, List.map_cons, List.map_nil]); first | done | rfl | (simp only [List.length_drop, List.length_take]; rfl)) ?_; (with_reducible refine (best_flow_hyphen.calls _ _ l0_0 a0_1 _ _ l0_2 a1 false _ ?side1 ?side2 ?side3 ?side4 A4.out).mono ?_); (case side1 => repeat (first | exact (Kd.C_below HR0_0.out HB.out) | (with_reducible refine Kd.C_alloc ?_ _) | (with_reducible refine Kd.C_drewN ?_ _) | (with_reducible refine Kd.C_drew ?_))); (case side2 => exact HC0_0.out); (case side3 => repeat (first | exact (Kd.C_below HR0_2.out HB.out) | (with_reducible refine Kd.C_alloc ?_ _) | (with_reducible refine Kd.C_drewN ?_ _) | (with_reducible refine Kd.C_drew ?_))); (case side4 => exact HC0_2.out); rintro e w14 ⟨rfl, hb⟩; refine ⟨_, rfl, ?_⟩; have n0_ := Aside0.mk (blk_below (g := gb132) (o := .cells #[.slice A0_0 l0_0.length c0_0, .int .i64 a0_1, .slice A0_2 l0_2.length c0_2] 67 (0, 0)) (by (with_reducible repeat (first | refine blk_drewN ?_ _ | refine blk_drew ?_ | refine blk_alloc ?_ _)); exact BK132.out) hb); have n1_ := Aside0.mk (below_step (by repeat (first | (with_reducible first | exact HB.out | apply below_alloc | apply pw_below_drewN | apply below_drew1 | refine below_set ?_ GE132.out) | exact HB.out)) hb); clear BK132; clear HB; have BK132 := n0_; have HB := n1_; clear n0_ n1_; (try clear hb); (try clear hb2); (try clear hk); (try clear hi)))
  go_ret
  exact ⟨by first | rfl | (simp [errW_none, errW_some] <;> rfl) | (simp [*, errW_none, errW_some] <;> rfl), by repeat (first | (with_reducible first | exact HB.out | apply below_alloc | apply pw_below_drewN | apply below_drew1 | refine below_set ?_ GE132.out) | exact HB.out)⟩
def best_flow_demerits.f (k : Nat) (l0_0 : List (S43)) (a0_1 : Int) (l0_2 : List (S85)) (a1 : Int) (a2 : Int) : Option (Int) := (best_flow_line.f k l0_0 a0_1 l0_2 a1 a2).bind fun bt136 => ((best_flow_hyphen.f l0_0 a0_1 l0_2 a2).bind fun t142 => (if t142 = true then (if bt136.2.2.2.2 = true then (some (wrap64 ((wrap64 ((wrap64 ((wrap64 (10 + (mn ((wrap64 ((wrap64 ((wrap64 (100 * bt136.2.2.2.1)) * bt136.2.2.2.1)) * bt136.2.2.2.1)) / 2097152) 10000))) * (wrap64 (10 + (mn ((wrap64 ((wrap64 ((wrap64 (100 * bt136.2.2.2.1)) * bt136.2.2.2.1)) * bt136.2.2.2.1)) / 2097152) 10000))))) + 2500)) + 1000000000000))) else (some (wrap64 ((wrap64 ((wrap64 (10 + (mn ((wrap64 ((wrap64 ((wrap64 (100 * bt136.2.2.2.1)) * bt136.2.2.2.1)) * bt136.2.2.2.1)) / 2097152) 10000))) * (wrap64 (10 + (mn ((wrap64 ((wrap64 ((wrap64 (100 * bt136.2.2.2.1)) * bt136.2.2.2.1)) * bt136.2.2.2.1)) / 2097152) 10000))))) + 2500)))) else (if bt136.2.2.2.2 = true then (some (wrap64 ((wrap64 ((wrap64 (10 + (mn ((wrap64 ((wrap64 ((wrap64 (100 * bt136.2.2.2.1)) * bt136.2.2.2.1)) * bt136.2.2.2.1)) / 2097152) 10000))) * (wrap64 (10 + (mn ((wrap64 ((wrap64 ((wrap64 (100 * bt136.2.2.2.1)) * bt136.2.2.2.1)) * bt136.2.2.2.1)) / 2097152) 10000))))) + 1000000000000))) else (some (wrap64 ((wrap64 (10 + (mn ((wrap64 ((wrap64 ((wrap64 (100 * bt136.2.2.2.1)) * bt136.2.2.2.1)) * bt136.2.2.2.1)) / 2097152) 10000))) * (wrap64 (10 + (mn ((wrap64 ((wrap64 ((wrap64 (100 * bt136.2.2.2.1)) * bt136.2.2.2.1)) * bt136.2.2.2.1)) / 2097152) 10000)))))))))
theorem best_flow_demerits.mono : ∀ a0 a1 a2 a3 a4 k, LeO (best_flow_demerits.f k a0 a1 a2 a3 a4) (best_flow_demerits.f (k + 1) a0 a1 a2 a3 a4) := by
 intro a0 a1 a2 a3 a4 k
 unfold best_flow_demerits.f
 repeat' first
   | (with_reducible exact best_flow_line.mono _ _ _ _ _ _)
   | (with_reducible exact LeO.refl _)
   | (with_reducible exact LeO.none _)
   | (with_reducible refine LeO.ite ?_ ?_)
   | (with_reducible refine LeO.bind ?_ (fun _ => ?_))
   | exact best_flow_line.mono _ _ _ _ _ _
   | exact LeO.none _
   | refine LeO.ite ?_ ?_
   | refine LeO.bind ?_ (fun _ => ?_)
set_option maxHeartbeats 8000000 in
set_option maxRecDepth 100000 in
theorem best_flow_demerits.calls (k : Nat) (A0_0 : Option Addr) (c0_0 : Nat) (l0_0 : List (S43)) (a0_1 : Int) (A0_2 : Option Addr) (c0_2 : Nat) (l0_2 : List (S85)) (a1 : Int) (a2 : Int) (r : Int) (w : World) (hr0_0 : Kd.C k43 w A0_0 l0_0.length l0_0) (hc0_0 : l0_0.length ≤ c0_0) (hr0_2 : Kd.C k85 w A0_2 l0_2.length l0_2) (hc0_2 : l0_2.length ≤ c0_2) (h : best_flow_demerits.f k l0_0 a0_1 l0_2 a1 a2 = some r) :
  Calls Try.prog 46 #[.agg #[.slice A0_0 l0_0.length c0_0, .int .i64 a0_1, .slice A0_2 l0_2.length c0_2], .int .i64 a1, .int .i64 a2] w fun e w' => e = .returned (.int .i64 r) ∧ Below w.heap.size w w' := by
 have hu67 := Try.underlying67
 have hu87 := Try.underlying87
 have HR0_0 := Aside0.mk hr0_0
 have HC0_0 := Aside0.mk hc0_0
 clear hr0_0 hc0_0
 have HR0_2 := Aside0.mk hr0_2
 have HC0_2 := Aside0.mk hc0_2
 clear hr0_2 hc0_2
 have HB := Aside0.mk (Below.refl w.heap.size w)
 have H : ((best_flow_line.f k l0_0 a0_1 l0_2 a1 a2).bind fun bt136 => ((best_flow_hyphen.f l0_0 a0_1 l0_2 a2).bind fun t142 => (if t142 = true then (if bt136.2.2.2.2 = true then (some (wrap64 ((wrap64 ((wrap64 ((wrap64 (10 + (mn ((wrap64 ((wrap64 ((wrap64 (100 * bt136.2.2.2.1)) * bt136.2.2.2.1)) * bt136.2.2.2.1)) / 2097152) 10000))) * (wrap64 (10 + (mn ((wrap64 ((wrap64 ((wrap64 (100 * bt136.2.2.2.1)) * bt136.2.2.2.1)) * bt136.2.2.2.1)) / 2097152) 10000))))) + 2500)) + 1000000000000))) else (some (wrap64 ((wrap64 ((wrap64 (10 + (mn ((wrap64 ((wrap64 ((wrap64 (100 * bt136.2.2.2.1)) * bt136.2.2.2.1)) * bt136.2.2.2.1)) / 2097152) 10000))) * (wrap64 (10 + (mn ((wrap64 ((wrap64 ((wrap64 (100 * bt136.2.2.2.1)) * bt136.2.2.2.1)) * bt136.2.2.2.1)) / 2097152) 10000))))) + 2500)))) else (if bt136.2.2.2.2 = true then (some (wrap64 ((wrap64 ((wrap64 (10 + (mn ((wrap64 ((wrap64 ((wrap64 (100 * bt136.2.2.2.1)) * bt136.2.2.2.1)) * bt136.2.2.2.1)) / 2097152) 10000))) * (wrap64 (10 + (mn ((wrap64 ((wrap64 ((wrap64 (100 * bt136.2.2.2.1)) * bt136.2.2.2.1)) * bt136.2.2.2.1)) / 2097152) 10000))))) + 1000000000000))) else (some (wrap64 ((wrap64 (10 + (mn ((wrap64 ((wrap64 ((wrap64 (100 * bt136.2.2.2.1)) * bt136.2.2.2.1)) * bt136.2.2.2.1)) / 2097152) 10000))) * (wrap64 (10 + (mn ((wrap64 ((wrap64 ((wrap64 (100 * bt136.2.2.2.1)) * bt136.2.2.2.1)) * bt136.2.2.2.1)) / 2097152) 10000)))))))))) = some r := h
 clear h
 replace H := Option.bind_eq_some_iff.mp H
 obtain ⟨⟨t136, t137, t138, t139, t140⟩, A40, H⟩ := H
 dsimp only at H
 have A4 := Aside0.mk A40
 clear A40
 obtain ⟨ji5, hji5⟩ : ∃ j_ : Int, (mn ((wrap64 ((wrap64 ((wrap64 (100 * t139)) * t139)) * t139)) / 2097152) 10000) = j_ := ⟨_, rfl⟩
 replace H : ((best_flow_hyphen.f l0_0 a0_1 l0_2 a2).bind fun t142 => (if t142 = true then (if t140 = true then (some (wrap64 ((wrap64 ((wrap64 ((wrap64 (10 + (ji5))) * (wrap64 (10 + (ji5))))) + 2500)) + 1000000000000))) else (some (wrap64 ((wrap64 ((wrap64 (10 + (ji5))) * (wrap64 (10 + (ji5))))) + 2500)))) else (if t140 = true then (some (wrap64 ((wrap64 ((wrap64 (10 + (ji5))) * (wrap64 (10 + (ji5))))) + 1000000000000))) else (some (wrap64 ((wrap64 (10 + (ji5))) * (wrap64 (10 + (ji5))))))))) = some r := by first | (rw [hji5] at H; exact H) | (simp only [hji5] at H ⊢; exact H)
 (try rw [hji5] at A4)
 (try (have hji5h : ji5 ≤ 10000 := by (rw [← hji5]; unfold mn; (repeat' split) <;> omega)))
 (try (have hji5g : ji5 ≤ 64 := by omega))
 have hji5_ : (if 10000 < ((wrap64 ((wrap64 ((wrap64 (100 * t139)) * t139)) * t139)) / 2097152) then 10000 else ((wrap64 ((wrap64 ((wrap64 (100 * t139)) * t139)) * t139)) / 2097152)) = ji5 := hji5
 replace H := Option.bind_eq_some_iff.mp H
 obtain ⟨t142, A60, H⟩ := H
 have A6 := Aside0.mk A60
 clear A60
 by_cases c7 : t142 = true
 ·subst c7
  rw [if_pos rfl] at H
  by_cases c8 : t140 = true
  ·subst c8
   rw [if_pos rfl] at H
   obtain rfl := Option.some.inj H
   go_enter Try.func46, Try.ntmps46
   go_wp2_with (first | ((with_reducible refine gate_dst (N := 3) rfl ?_); refine box_event ?hg (N := 3) ?hd (cs := #[.slice A0_0 l0_0.length c0_0, .int .i64 a0_1, .slice A0_2 l0_2.length c0_2]) (t := 67) ?hr ?_; (case hd => rfl); (case hg => rfl); (case hr => first | (go_simp; done) | (go_simp; rfl)); intro gb135 hg w9 hbox hb; have n0_ := Aside0.mk (below_step (by repeat (with_reducible first | exact HB.out | apply below_alloc | apply pw_below_drewN | apply below_drew1)) hb); have n1_ := Aside0.mk (hbox); have n2_ := Aside0.mk ((by rw [hg]; exact (below_size (by repeat (with_reducible first | exact HB.out | apply below_alloc | apply pw_below_drewN | apply below_drew1))) : w.heap.size ≤ gb135)); have n3_ := n2_; clear HB; have HB := n0_; have BK135 := n1_; have GW135 := n2_; have GE135 := n3_; clear n0_ n1_ n2_ n3_; clear hb hbox hg; obtain ⟨hcz10_0, hcz10_1, hcz10_2, hfz10_0, hfz10_1, hfz10_2⟩ := blks3 BK135.out) | ((with_reducible refine gate_callee (f := 54) rfl ?_); refine goesL_ (some 13) rfl rfl Try.func54 (by kernel_rfl) rfl #[.agg #[.slice A0_0 l0_0.length c0_0, .int .i64 a0_1, .slice A0_2 l0_2.length c0_2], .int .i64 a1, .int .i64 a2] rfl (by (try simp only [List.map_toArray, List.map_cons, List.map_nil]); first | done | rfl | (simp only [List.length_drop, List.length_take]; rfl)) ?_; (with_reducible refine (best_flow_line.calls k _ _ l0_0 a0_1 _ _ l0_2 a1 a2 t136 t137 t138 t139 true _ ?side1 ?side2 ?side3 ?side4 A4.out).mono ?_); (case side1 => repeat (first | exact (Kd.C_below HR0_0.out HB.out) | (with_reducible refine Kd.C_alloc ?_ _) | (with_reducible refine Kd.C_drewN ?_ _) | (with_reducible refine Kd.C_drew ?_))); (case side2 => exact HC0_0.out); (case side3 => repeat (first | exact (Kd.C_below HR0_2.out HB.out) | (with_reducible refine Kd.C_alloc ?_ _) | (with_reducible refine Kd.C_drewN ?_ _) | (with_reducible refine Kd.C_drew ?_))); (case side4 => exact HC0_2.out); rintro e w11 ⟨rfl, hb⟩; refine ⟨_, rfl, ?_⟩; have n0_ := Aside0.mk (blk_below (g := gb135) (o := .cells #[.slice A0_0 l0_0.length c0_0, .int .i64 a0_1, .slice A0_2 l0_2.length c0_2] 67 (0, 0)) (by (with_reducible repeat (first | refine blk_drewN ?_ _ | refine blk_drew ?_ | refine blk_alloc ?_ _)); exact BK135.out) hb); have n1_ := Aside0.mk (below_step (by repeat (with_reducible first | exact HB.out | apply below_alloc | apply pw_below_drewN | apply below_drew1 | refine below_set ?_ GE135.out)) hb); clear BK135; clear HB; have BK135 := n0_; have HB := n1_; clear n0_ n1_; (try clear hb); (try clear hb2); (try clear hk); (try clear hi)) | ((with_reducible refine gate_dst (N := 7) rfl ?_); refine box_event ?hg (N := 7) ?hd (cs := #[.int .i64 0, .int .i64 0, .int .i64 0, .int .i64 0, .bool false]) (t := 87) ?hr ?_; (case hd => rfl); (case hg => rfl); (case hr => first | (go_simp; done) | (go_simp; rfl)); intro gb141 hg w12 hbox hb; have n0_ := Aside0.mk (blk_below (g := gb135) (o := .cells #[.slice A0_0 l0_0.length c0_0, .int .i64 a0_1, .slice A0_2 l0_2.length c0_2] 67 (0, 0)) (by (with_reducible repeat (first | refine blk_drewN ?_ _ | refine blk_drew ?_ | refine blk_alloc ?_ _)); exact BK135.out) hb); have n1_ := Aside0.mk (below_step (by repeat (with_reducible first | exact HB.out | apply below_alloc | apply pw_below_drewN | apply below_drew1 | refine below_set ?_ GE135.out)) hb); have n2_ := Aside0.mk (hbox); have n3_ := Aside0.mk ((by rw [hg]; exact (below_size (by repeat (with_reducible first | exact HB.out | apply below_alloc | apply pw_below_drewN | apply below_drew1 | refine below_set ?_ GE135.out))) : w.heap.size ≤ gb141)); have n4_ := n3_; have n5_ := Aside0.mk ((by rw [hg]; exact Nat.ne_of_lt (blk_lt (g := gb135) (o := .cells #[.slice A0_0 l0_0.length c0_0, .int .i64 a0_1, .slice A0_2 l0_2.length c0_2] 67 (0, 0)) (by (with_reducible repeat (first | refine blk_drewN ?_ _ | refine blk_drew ?_ | refine blk_alloc ?_ _)); exact BK135.out)) : gb135 ≠ gb141)); have n6_ := Aside0.mk ((by rw [hg]; exact Nat.ne_of_gt (blk_lt (g := gb135) (o := .cells #[.slice A0_0 l0_0.length c0_0, .int .i64 a0_1, .slice A0_2 l0_2.length c0_2] 67 (0, 0)) (by (with_reducible repeat (first | refine blk_drewN ?_ _ | refine blk_drew ?_ | refine blk_alloc ?_ _)); exact BK135.out)) : gb141 ≠ gb135)); clear BK135; clear HB; have BK135 := n0_; have HB := n1_; have BK141 := n2_; have GW141 := n3_; have GE141 := n4_; have NB135_141 := n5_; have NB141_135 := n6_; clear n0_ n1_ n2_ n3_ n4_ n5_ n6_; clear hb hbox hg; have hnb13 := NB141_135.out; have hnc13 := NB135_141.out; obtain ⟨hcz14_0, hcz14_1, hcz14_2, hcz14_3, hcz14_4, hfz14_0, hfz14_1, hfz14_2, hfz14_3, hfz14_4⟩ := blks5 BK141.out; obtain ⟨hcz15_0, hcz15_1, hcz15_2, hfz15_0, hfz15_1, hfz15_2⟩ := blks3 BK135.out) | ((with_reducible refine gate_callee (f := 75) rfl ?_); refine goesL_ (some 31) rfl rfl Try.func75 (by kernel_rfl) rfl #[.agg #[.slice A0_0 l0_0.length c0_0, .int .i64 a0_1, .slice A0_2 l0_2.length c0_2], .int .i64 a2] rfl (by (try simp only [List.map_toArray, List.map_cons, List.map_nil]); first | done | rfl | (simp only [List.length_drop, List.length_take]; rfl)) ?_; (with_reducible refine (best_flow_hyphen.calls _ _ l0_0 a0_1 _ _ l0_2 a2 true _ ?side1 ?side2 ?side3 ?side4 A6.out).mono ?_); (case side1 => exact Kd.C_below HR0_0.out (by repeat (with_reducible first | exact HB.out | apply below_alloc | apply pw_below_drewN | apply below_drew1 | refine below_set ?_ GE135.out | refine below_set ?_ GE141.out))); (case side2 => exact HC0_0.out); (case side3 => exact Kd.C_below HR0_2.out (by repeat (with_reducible first | exact HB.out | apply below_alloc | apply pw_below_drewN | apply below_drew1 | refine below_set ?_ GE135.out | refine below_set ?_ GE141.out))); (case side4 => exact HC0_2.out); rintro e w16 ⟨rfl, hb⟩; refine ⟨_, rfl, ?_⟩; have n0_ := Aside0.mk (blk_below (g := gb135) (o := .cells #[.slice A0_0 l0_0.length c0_0, .int .i64 a0_1, .slice A0_2 l0_2.length c0_2] 67 (0, 0)) (by (with_reducible repeat (first | refine blk_drewN ?_ _ | refine blk_drew ?_ | refine blk_alloc ?_ _)); refine blk_far ?_ NB135_141.out _; (with_reducible repeat (first | refine blk_drewN ?_ _ | refine blk_drew ?_ | refine blk_alloc ?_ _)); refine blk_far ?_ NB135_141.out _; (with_reducible repeat (first | refine blk_drewN ?_ _ | refine blk_drew ?_ | refine blk_alloc ?_ _)); refine blk_far ?_ NB135_141.out _; (with_reducible repeat (first | refine blk_drewN ?_ _ | refine blk_drew ?_ | refine blk_alloc ?_ _)); refine blk_far ?_ NB135_141.out _; (with_reducible repeat (first | refine blk_drewN ?_ _ | refine blk_drew ?_ | refine blk_alloc ?_ _)); refine blk_far ?_ NB135_141.out _; (with_reducible repeat (first | refine blk_drewN ?_ _ | refine blk_drew ?_ | refine blk_alloc ?_ _)); exact BK135.out) hb); have n1_ := Aside0.mk (blk_below (g := gb141) (o := .cells #[.int .i64 t136, .int .i64 t137, .int .i64 t138, .int .i64 t139, .bool true] 87 (0, 0)) (by (with_reducible repeat (first | refine blk_drewN ?_ _ | refine blk_drew ?_ | refine blk_alloc ?_ _)); refine blk_put (cs := #[.int .i64 t136, .int .i64 t137, .int .i64 t138, .int .i64 t139, .bool false]) ?_ 4 _ rfl; (with_reducible repeat (first | refine blk_drewN ?_ _ | refine blk_drew ?_ | refine blk_alloc ?_ _)); refine blk_put (cs := #[.int .i64 t136, .int .i64 t137, .int .i64 t138, .int .i64 0, .bool false]) ?_ 3 _ rfl; (with_reducible repeat (first | refine blk_drewN ?_ _ | refine blk_drew ?_ | refine blk_alloc ?_ _)); refine blk_put (cs := #[.int .i64 t136, .int .i64 t137, .int .i64 0, .int .i64 0, .bool false]) ?_ 2 _ rfl; (with_reducible repeat (first | refine blk_drewN ?_ _ | refine blk_drew ?_ | refine blk_alloc ?_ _)); refine blk_put (cs := #[.int .i64 t136, .int .i64 0, .int .i64 0, .int .i64 0, .bool false]) ?_ 1 _ rfl; (with_reducible repeat (first | refine blk_drewN ?_ _ | refine blk_drew ?_ | refine blk_alloc ?_ _)); refine blk_put (cs := #[.int .i64 0, .int .i64 0, .int .i64 0, .int .i64 0, .bool false]) ?_ 0 _ rfl; (with_reducible repeat (first | refine blk_drewN ?_ _ | refine blk_drew ?_ | refine blk_alloc ?_ _)); exact BK141.out) hb); have n2_ := Aside0.mk (below_step (by repeat (with_reducible first | exact HB.out | apply below_alloc | apply pw_below_drewN | apply below_drew1 | refine below_set ?_ GE135.out | refine below_set ?_ GE141.out)) hb); clear BK135; clear BK141; clear HB; have BK135 := n0_; have BK141 := n1_; have HB := n2_; clear n0_ n1_ n2_; (try clear hb); (try clear hb2); (try clear hk); (try clear hi); obtain ⟨hcz17_0, hcz17_1, hcz17_2, hcz17_3, hcz17_4, hfz17_0, hfz17_1, hfz17_2, hfz17_3, hfz17_4⟩ := blks5 BK141.out))
   go_ret
   exact ⟨by first | rfl | (simp [errW_none, errW_some] <;> rfl) | (simp only [← hji5]; first | rfl | (simp [errW_none, errW_some] <;> rfl)) | (simp [*, errW_none, errW_some] <;> rfl), by repeat (with_reducible first | exact HB.out | apply below_alloc | apply pw_below_drewN | apply below_drew1 | refine below_set ?_ GE135.out | refine below_set ?_ GE141.out)⟩
  ·replace c8 := Bool.eq_false_iff.mpr c8
   subst c8
   rw [if_neg (show ¬ (false = true) by decide)] at H
   obtain rfl := Option.some.inj H
   go_enter Try.func46, Try.ntmps46
   go_wp2_with (first | ((with_reducible refine gate_dst (N := 3) rfl ?_); refine box_event ?hg (N := 3) ?hd (cs := #[.slice A0_0 l0_0.length c0_0, .int .i64 a0_1, .slice A0_2 l0_2.length c0_2]) (t := 67) ?hr ?_; (case hd => rfl); (case hg => rfl); (case hr => first | (go_simp; done) | (go_simp; rfl)); intro gb135 hg w18 hbox hb; have n0_ := Aside0.mk (below_step (by repeat (with_reducible first | exact HB.out | apply below_alloc | apply pw_below_drewN | apply below_drew1)) hb); have n1_ := Aside0.mk (hbox); have n2_ := Aside0.mk ((by rw [hg]; exact (below_size (by repeat (with_reducible first | exact HB.out | apply below_alloc | apply pw_below_drewN | apply below_drew1))) : w.heap.size ≤ gb135)); have n3_ := n2_; clear HB; have HB := n0_; have BK135 := n1_; have GW135 := n2_; have GE135 := n3_; clear n0_ n1_ n2_ n3_; clear hb hbox hg; obtain ⟨hcz19_0, hcz19_1, hcz19_2, hfz19_0, hfz19_1, hfz19_2⟩ := blks3 BK135.out) | ((with_reducible refine gate_callee (f := 54) rfl ?_); refine goesL_ (some 13) rfl rfl Try.func54 (by kernel_rfl) rfl #[.agg #[.slice A0_0 l0_0.length c0_0, .int .i64 a0_1, .slice A0_2 l0_2.length c0_2], .int .i64 a1, .int .i64 a2] rfl (by (try simp only [List.map_toArray, List.map_cons, List.map_nil]); first | done | rfl | (simp only [List.length_drop, List.length_take]; rfl)) ?_; (with_reducible refine (best_flow_line.calls k _ _ l0_0 a0_1 _ _ l0_2 a1 a2 t136 t137 t138 t139 false _ ?side1 ?side2 ?side3 ?side4 A4.out).mono ?_); (case side1 => repeat (first | exact (Kd.C_below HR0_0.out HB.out) | (with_reducible refine Kd.C_alloc ?_ _) | (with_reducible refine Kd.C_drewN ?_ _) | (with_reducible refine Kd.C_drew ?_))); (case side2 => exact HC0_0.out); (case side3 => repeat (first | exact (Kd.C_below HR0_2.out HB.out) | (with_reducible refine Kd.C_alloc ?_ _) | (with_reducible refine Kd.C_drewN ?_ _) | (with_reducible refine Kd.C_drew ?_))); (case side4 => exact HC0_2.out); rintro e w20 ⟨rfl, hb⟩; refine ⟨_, rfl, ?_⟩; have n0_ := Aside0.mk (blk_below (g := gb135) (o := .cells #[.slice A0_0 l0_0.length c0_0, .int .i64 a0_1, .slice A0_2 l0_2.length c0_2] 67 (0, 0)) (by (with_reducible repeat (first | refine blk_drewN ?_ _ | refine blk_drew ?_ | refine blk_alloc ?_ _)); exact BK135.out) hb); have n1_ := Aside0.mk (below_step (by repeat (with_reducible first | exact HB.out | apply below_alloc | apply pw_below_drewN | apply below_drew1 | refine below_set ?_ GE135.out)) hb); clear BK135; clear HB; have BK135 := n0_; have HB := n1_; clear n0_ n1_; (try clear hb); (try clear hb2); (try clear hk); (try clear hi)) | ((with_reducible refine gate_dst (N := 7) rfl ?_); refine box_event ?hg (N := 7) ?hd (cs := #[.int .i64 0, .int .i64 0, .int .i64 0, .int .i64 0, .bool false]) (t := 87) ?hr ?_; (case hd => rfl); (case hg => rfl); (case hr => first | (go_simp; done) | (go_simp; rfl)); intro gb141 hg w21 hbox hb; have n0_ := Aside0.mk (blk_below (g := gb135) (o := .cells #[.slice A0_0 l0_0.length c0_0, .int .i64 a0_1, .slice A0_2 l0_2.length c0_2] 67 (0, 0)) (by (with_reducible repeat (first | refine blk_drewN ?_ _ | refine blk_drew ?_ | refine blk_alloc ?_ _)); exact BK135.out) hb); have n1_ := Aside0.mk (below_step (by repeat (with_reducible first | exact HB.out | apply below_alloc | apply pw_below_drewN | apply below_drew1 | refine below_set ?_ GE135.out)) hb); have n2_ := Aside0.mk (hbox); have n3_ := Aside0.mk ((by rw [hg]; exact (below_size (by repeat (with_reducible first | exact HB.out | apply below_alloc | apply pw_below_drewN | apply below_drew1 | refine below_set ?_ GE135.out))) : w.heap.size ≤ gb141)); have n4_ := n3_; have n5_ := Aside0.mk ((by rw [hg]; exact Nat.ne_of_lt (blk_lt (g := gb135) (o := .cells #[.slice A0_0 l0_0.length c0_0, .int .i64 a0_1, .slice A0_2 l0_2.length c0_2] 67 (0, 0)) (by (with_reducible repeat (first | refine blk_drewN ?_ _ | refine blk_drew ?_ | refine blk_alloc ?_ _)); exact BK135.out)) : gb135 ≠ gb141)); have n6_ := Aside0.mk ((by rw [hg]; exact Nat.ne_of_gt (blk_lt (g := gb135) (o := .cells #[.slice A0_0 l0_0.length c0_0, .int .i64 a0_1, .slice A0_2 l0_2.length c0_2] 67 (0, 0)) (by (with_reducible repeat (first | refine blk_drewN ?_ _ | refine blk_drew ?_ | refine blk_alloc ?_ _)); exact BK135.out)) : gb141 ≠ gb135)); clear BK135; clear HB; have BK135 := n0_; have HB := n1_; have BK141 := n2_; have GW141 := n3_; have GE141 := n4_; have NB135_141 := n5_; have NB141_135 := n6_; clear n0_ n1_ n2_ n3_ n4_ n5_ n6_; clear hb hbox hg; have hnb22 := NB141_135.out; have hnc22 := NB135_141.out; obtain ⟨hcz23_0, hcz23_1, hcz23_2, hcz23_3, hcz23_4, hfz23_0, hfz23_1, hfz23_2, hfz23_3, hfz23_4⟩ := blks5 BK141.out; obtain ⟨hcz24_0, hcz24_1, hcz24_2, hfz24_0, hfz24_1, hfz24_2⟩ := blks3 BK135.out) | ((with_reducible refine gate_callee (f := 75) rfl ?_); refine goesL_ (some 31) rfl rfl Try.func75 (by kernel_rfl) rfl #[.agg #[.slice A0_0 l0_0.length c0_0, .int .i64 a0_1, .slice A0_2 l0_2.length c0_2], .int .i64 a2] rfl (by (try simp only [List.map_toArray, List.map_cons, List.map_nil]); first | done | rfl | (simp only [List.length_drop, List.length_take]; rfl)) ?_; (with_reducible refine (best_flow_hyphen.calls _ _ l0_0 a0_1 _ _ l0_2 a2 true _ ?side1 ?side2 ?side3 ?side4 A6.out).mono ?_); (case side1 => exact Kd.C_below HR0_0.out (by repeat (with_reducible first | exact HB.out | apply below_alloc | apply pw_below_drewN | apply below_drew1 | refine below_set ?_ GE135.out | refine below_set ?_ GE141.out))); (case side2 => exact HC0_0.out); (case side3 => exact Kd.C_below HR0_2.out (by repeat (with_reducible first | exact HB.out | apply below_alloc | apply pw_below_drewN | apply below_drew1 | refine below_set ?_ GE135.out | refine below_set ?_ GE141.out))); (case side4 => exact HC0_2.out); rintro e w25 ⟨rfl, hb⟩; refine ⟨_, rfl, ?_⟩; have n0_ := Aside0.mk (blk_below (g := gb135) (o := .cells #[.slice A0_0 l0_0.length c0_0, .int .i64 a0_1, .slice A0_2 l0_2.length c0_2] 67 (0, 0)) (by (with_reducible repeat (first | refine blk_drewN ?_ _ | refine blk_drew ?_ | refine blk_alloc ?_ _)); refine blk_far ?_ NB135_141.out _; (with_reducible repeat (first | refine blk_drewN ?_ _ | refine blk_drew ?_ | refine blk_alloc ?_ _)); refine blk_far ?_ NB135_141.out _; (with_reducible repeat (first | refine blk_drewN ?_ _ | refine blk_drew ?_ | refine blk_alloc ?_ _)); refine blk_far ?_ NB135_141.out _; (with_reducible repeat (first | refine blk_drewN ?_ _ | refine blk_drew ?_ | refine blk_alloc ?_ _)); refine blk_far ?_ NB135_141.out _; (with_reducible repeat (first | refine blk_drewN ?_ _ | refine blk_drew ?_ | refine blk_alloc ?_ _)); refine blk_far ?_ NB135_141.out _; (with_reducible repeat (first | refine blk_drewN ?_ _ | refine blk_drew ?_ | refine blk_alloc ?_ _)); exact BK135.out) hb); have n1_ := Aside0.mk (blk_below (g := gb141) (o := .cells #[.int .i64 t136, .int .i64 t137, .int .i64 t138, .int .i64 t139, .bool false] 87 (0, 0)) (by (with_reducible repeat (first | refine blk_drewN ?_ _ | refine blk_drew ?_ | refine blk_alloc ?_ _)); refine blk_put (cs := #[.int .i64 t136, .int .i64 t137, .int .i64 t138, .int .i64 t139, .bool false]) ?_ 4 _ rfl; (with_reducible repeat (first | refine blk_drewN ?_ _ | refine blk_drew ?_ | refine blk_alloc ?_ _)); refine blk_put (cs := #[.int .i64 t136, .int .i64 t137, .int .i64 t138, .int .i64 0, .bool false]) ?_ 3 _ rfl; (with_reducible repeat (first | refine blk_drewN ?_ _ | refine blk_drew ?_ | refine blk_alloc ?_ _)); refine blk_put (cs := #[.int .i64 t136, .int .i64 t137, .int .i64 0, .int .i64 0, .bool false]) ?_ 2 _ rfl; (with_reducible repeat (first | refine blk_drewN ?_ _ | refine blk_drew ?_ | refine blk_alloc ?_ _)); refine blk_put (cs := #[.int .i64 t136, .int .i64 0, .int .i64 0, .int .i64 0, .bool false]) ?_ 1 _ rfl; (with_reducible repeat (first | refine blk_drewN ?_ _ | refine blk_drew ?_ | refine blk_alloc ?_ _)); refine blk_put (cs := #[.int .i64 0, .int .i64 0, .int .i64 0, .int .i64 0, .bool false]) ?_ 0 _ rfl; (with_reducible repeat (first | refine blk_drewN ?_ _ | refine blk_drew ?_ | refine blk_alloc ?_ _)); exact BK141.out) hb); have n2_ := Aside0.mk (below_step (by repeat (with_reducible first | exact HB.out | apply below_alloc | apply pw_below_drewN | apply below_drew1 | refine below_set ?_ GE135.out | refine below_set ?_ GE141.out)) hb); clear BK135; clear BK141; clear HB; have BK135 := n0_; have BK141 := n1_; have HB := n2_; clear n0_ n1_ n2_; (try clear hb); (try clear hb2); (try clear hk); (try clear hi); obtain ⟨hcz26_0, hcz26_1, hcz26_2, hcz26_3, hcz26_4, hfz26_0, hfz26_1, hfz26_2, hfz26_3, hfz26_4⟩ := blks5 BK141.out))
   go_ret
   exact ⟨by first | rfl | (simp [errW_none, errW_some] <;> rfl) | (simp only [← hji5]; first | rfl | (simp [errW_none, errW_some] <;> rfl)) | (simp [*, errW_none, errW_some] <;> rfl), by repeat (with_reducible first | exact HB.out | apply below_alloc | apply pw_below_drewN | apply below_drew1 | refine below_set ?_ GE135.out | refine below_set ?_ GE141.out)⟩
 ·replace c7 := Bool.eq_false_iff.mpr c7
  subst c7
  rw [if_neg (show ¬ (false = true) by decide)] at H
  by_cases c27 : t140 = true
  ·subst c27
   rw [if_pos rfl] at H
   obtain rfl := Option.some.inj H
   go_enter Try.func46, Try.ntmps46
   go_wp2_with (first | ((with_reducible refine gate_dst (N := 3) rfl ?_); refine box_event ?hg (N := 3) ?hd (cs := #[.slice A0_0 l0_0.length c0_0, .int .i64 a0_1, .slice A0_2 l0_2.length c0_2]) (t := 67) ?hr ?_; (case hd => rfl); (case hg => rfl); (case hr => first | (go_simp; done) | (go_simp; rfl)); intro gb135 hg w28 hbox hb; have n0_ := Aside0.mk (below_step (by repeat (with_reducible first | exact HB.out | apply below_alloc | apply pw_below_drewN | apply below_drew1)) hb); have n1_ := Aside0.mk (hbox); have n2_ := Aside0.mk ((by rw [hg]; exact (below_size (by repeat (with_reducible first | exact HB.out | apply below_alloc | apply pw_below_drewN | apply below_drew1))) : w.heap.size ≤ gb135)); have n3_ := n2_; clear HB; have HB := n0_; have BK135 := n1_; have GW135 := n2_; have GE135 := n3_; clear n0_ n1_ n2_ n3_; clear hb hbox hg; obtain ⟨hcz29_0, hcz29_1, hcz29_2, hfz29_0, hfz29_1, hfz29_2⟩ := blks3 BK135.out) | ((with_reducible refine gate_callee (f := 54) rfl ?_); refine goesL_ (some 13) rfl rfl Try.func54 (by kernel_rfl) rfl #[.agg #[.slice A0_0 l0_0.length c0_0, .int .i64 a0_1, .slice A0_2 l0_2.length c0_2], .int .i64 a1, .int .i64 a2] rfl (by (try simp only [List.map_toArray, List.map_cons, List.map_nil]); first | done | rfl | (simp only [List.length_drop, List.length_take]; rfl)) ?_; (with_reducible refine (best_flow_line.calls k _ _ l0_0 a0_1 _ _ l0_2 a1 a2 t136 t137 t138 t139 true _ ?side1 ?side2 ?side3 ?side4 A4.out).mono ?_); (case side1 => repeat (first | exact (Kd.C_below HR0_0.out HB.out) | (with_reducible refine Kd.C_alloc ?_ _) | (with_reducible refine Kd.C_drewN ?_ _) | (with_reducible refine Kd.C_drew ?_))); (case side2 => exact HC0_0.out); (case side3 => repeat (first | exact (Kd.C_below HR0_2.out HB.out) | (with_reducible refine Kd.C_alloc ?_ _) | (with_reducible refine Kd.C_drewN ?_ _) | (with_reducible refine Kd.C_drew ?_))); (case side4 => exact HC0_2.out); rintro e w30 ⟨rfl, hb⟩; refine ⟨_, rfl, ?_⟩; have n0_ := Aside0.mk (blk_below (g := gb135) (o := .cells #[.slice A0_0 l0_0.length c0_0, .int .i64 a0_1, .slice A0_2 l0_2.length c0_2] 67 (0, 0)) (by (with_reducible repeat (first | refine blk_drewN ?_ _ | refine blk_drew ?_ | refine blk_alloc ?_ _)); exact BK135.out) hb); have n1_ := Aside0.mk (below_step (by repeat (with_reducible first | exact HB.out | apply below_alloc | apply pw_below_drewN | apply below_drew1 | refine below_set ?_ GE135.out)) hb); clear BK135; clear HB; have BK135 := n0_; have HB := n1_; clear n0_ n1_; (try clear hb); (try clear hb2); (try clear hk); (try clear hi)) | ((with_reducible refine gate_dst (N := 7) rfl ?_); refine box_event ?hg (N := 7) ?hd (cs := #[.int .i64 0, .int .i64 0, .int .i64 0, .int .i64 0, .bool false]) (t := 87) ?hr ?_; (case hd => rfl); (case hg => rfl); (case hr => first | (go_simp; done) | (go_simp; rfl)); intro gb141 hg w31 hbox hb; have n0_ := Aside0.mk (blk_below (g := gb135) (o := .cells #[.slice A0_0 l0_0.length c0_0, .int .i64 a0_1, .slice A0_2 l0_2.length c0_2] 67 (0, 0)) (by (with_reducible repeat (first | refine blk_drewN ?_ _ | refine blk_drew ?_ | refine blk_alloc ?_ _)); exact BK135.out) hb); have n1_ := Aside0.mk (below_step (by repeat (with_reducible first | exact HB.out | apply below_alloc | apply pw_below_drewN | apply below_drew1 | refine below_set ?_ GE135.out)) hb); have n2_ := Aside0.mk (hbox); have n3_ := Aside0.mk ((by rw [hg]; exact (below_size (by repeat (with_reducible first | exact HB.out | apply below_alloc | apply pw_below_drewN | apply below_drew1 | refine below_set ?_ GE135.out))) : w.heap.size ≤ gb141)); have n4_ := n3_; have n5_ := Aside0.mk ((by rw [hg]; exact Nat.ne_of_lt (blk_lt (g := gb135) (o := .cells #[.slice A0_0 l0_0.length c0_0, .int .i64 a0_1, .slice A0_2 l0_2.length c0_2] 67 (0, 0)) (by (with_reducible repeat (first | refine blk_drewN ?_ _ | refine blk_drew ?_ | refine blk_alloc ?_ _)); exact BK135.out)) : gb135 ≠ gb141)); have n6_ := Aside0.mk ((by rw [hg]; exact Nat.ne_of_gt (blk_lt (g := gb135) (o := .cells #[.slice A0_0 l0_0.length c0_0, .int .i64 a0_1, .slice A0_2 l0_2.length c0_2] 67 (0, 0)) (by (with_reducible repeat (first | refine blk_drewN ?_ _ | refine blk_drew ?_ | refine blk_alloc ?_ _)); exact BK135.out)) : gb141 ≠ gb135)); clear BK135; clear HB; have BK135 := n0_; have HB := n1_; have BK141 := n2_; have GW141 := n3_; have GE141 := n4_; have NB135_141 := n5_; have NB141_135 := n6_; clear n0_ n1_ n2_ n3_ n4_ n5_ n6_; clear hb hbox hg; have hnb32 := NB141_135.out; have hnc32 := NB135_141.out; obtain ⟨hcz33_0, hcz33_1, hcz33_2, hcz33_3, hcz33_4, hfz33_0, hfz33_1, hfz33_2, hfz33_3, hfz33_4⟩ := blks5 BK141.out; obtain ⟨hcz34_0, hcz34_1, hcz34_2, hfz34_0, hfz34_1, hfz34_2⟩ := blks3 BK135.out) | ((with_reducible refine gate_callee (f := 75) rfl ?_); refine goesL_ (some 31) rfl rfl Try.func75 (by kernel_rfl) rfl #[.agg #[.slice A0_0 l0_0.length c0_0, .int .i64 a0_1, .slice A0_2 l0_2.length c0_2], .int .i64 a2] rfl (by (try simp only [List.map_toArray, List.map_cons, List.map_nil]); first | done | rfl | (simp only [List.length_drop, List.length_take]; rfl)) ?_; (with_reducible refine (best_flow_hyphen.calls _ _ l0_0 a0_1 _ _ l0_2 a2 false _ ?side1 ?side2 ?side3 ?side4 A6.out).mono ?_); (case side1 => exact Kd.C_below HR0_0.out (by repeat (with_reducible first | exact HB.out | apply below_alloc | apply pw_below_drewN | apply below_drew1 | refine below_set ?_ GE135.out | refine below_set ?_ GE141.out))); (case side2 => exact HC0_0.out); (case side3 => exact Kd.C_below HR0_2.out (by repeat (with_reducible first | exact HB.out | apply below_alloc | apply pw_below_drewN | apply below_drew1 | refine below_set ?_ GE135.out | refine below_set ?_ GE141.out))); (case side4 => exact HC0_2.out); rintro e w35 ⟨rfl, hb⟩; refine ⟨_, rfl, ?_⟩; have n0_ := Aside0.mk (blk_below (g := gb135) (o := .cells #[.slice A0_0 l0_0.length c0_0, .int .i64 a0_1, .slice A0_2 l0_2.length c0_2] 67 (0, 0)) (by (with_reducible repeat (first | refine blk_drewN ?_ _ | refine blk_drew ?_ | refine blk_alloc ?_ _)); refine blk_far ?_ NB135_141.out _; (with_reducible repeat (first | refine blk_drewN ?_ _ | refine blk_drew ?_ | refine blk_alloc ?_ _)); refine blk_far ?_ NB135_141.out _; (with_reducible repeat (first | refine blk_drewN ?_ _ | refine blk_drew ?_ | refine blk_alloc ?_ _)); refine blk_far ?_ NB135_141.out _; (with_reducible repeat (first | refine blk_drewN ?_ _ | refine blk_drew ?_ | refine blk_alloc ?_ _)); refine blk_far ?_ NB135_141.out _; (with_reducible repeat (first | refine blk_drewN ?_ _ | refine blk_drew ?_ | refine blk_alloc ?_ _)); refine blk_far ?_ NB135_141.out _; (with_reducible repeat (first | refine blk_drewN ?_ _ | refine blk_drew ?_ | refine blk_alloc ?_ _)); exact BK135.out) hb); have n1_ := Aside0.mk (blk_below (g := gb141) (o := .cells #[.int .i64 t136, .int .i64 t137, .int .i64 t138, .int .i64 t139, .bool true] 87 (0, 0)) (by (with_reducible repeat (first | refine blk_drewN ?_ _ | refine blk_drew ?_ | refine blk_alloc ?_ _)); refine blk_put (cs := #[.int .i64 t136, .int .i64 t137, .int .i64 t138, .int .i64 t139, .bool false]) ?_ 4 _ rfl; (with_reducible repeat (first | refine blk_drewN ?_ _ | refine blk_drew ?_ | refine blk_alloc ?_ _)); refine blk_put (cs := #[.int .i64 t136, .int .i64 t137, .int .i64 t138, .int .i64 0, .bool false]) ?_ 3 _ rfl; (with_reducible repeat (first | refine blk_drewN ?_ _ | refine blk_drew ?_ | refine blk_alloc ?_ _)); refine blk_put (cs := #[.int .i64 t136, .int .i64 t137, .int .i64 0, .int .i64 0, .bool false]) ?_ 2 _ rfl; (with_reducible repeat (first | refine blk_drewN ?_ _ | refine blk_drew ?_ | refine blk_alloc ?_ _)); refine blk_put (cs := #[.int .i64 t136, .int .i64 0, .int .i64 0, .int .i64 0, .bool false]) ?_ 1 _ rfl; (with_reducible repeat (first | refine blk_drewN ?_ _ | refine blk_drew ?_ | refine blk_alloc ?_ _)); refine blk_put (cs := #[.int .i64 0, .int .i64 0, .int .i64 0, .int .i64 0, .bool false]) ?_ 0 _ rfl; (with_reducible repeat (first | refine blk_drewN ?_ _ | refine blk_drew ?_ | refine blk_alloc ?_ _)); exact BK141.out) hb); have n2_ := Aside0.mk (below_step (by repeat (with_reducible first | exact HB.out | apply below_alloc | apply pw_below_drewN | apply below_drew1 | refine below_set ?_ GE135.out | refine below_set ?_ GE141.out)) hb); clear BK135; clear BK141; clear HB; have BK135 := n0_; have BK141 := n1_; have HB := n2_; clear n0_ n1_ n2_; (try clear hb); (try clear hb2); (try clear hk); (try clear hi); obtain ⟨hcz36_0, hcz36_1, hcz36_2, hcz36_3, hcz36_4, hfz36_0, hfz36_1, hfz36_2, hfz36_3, hfz36_4⟩ := blks5 BK141.out))
   go_ret
   exact ⟨by first | rfl | (simp [errW_none, errW_some] <;> rfl) | (simp only [← hji5]; first | rfl | (simp [errW_none, errW_some] <;> rfl)) | (simp [*, errW_none, errW_some] <;> rfl), by repeat (with_reducible first | exact HB.out | apply below_alloc | apply pw_below_drewN | apply below_drew1 | refine below_set ?_ GE135.out | refine below_set ?_ GE141.out)⟩
  ·replace c27 := Bool.eq_false_iff.mpr c27
   subst c27
   rw [if_neg (show ¬ (false = true) by decide)] at H
   obtain rfl := Option.some.inj H
   go_enter Try.func46, Try.ntmps46
   go_wp2_with (first | ((with_reducible refine gate_dst (N := 3) rfl ?_); refine box_event ?hg (N := 3) ?hd (cs := #[.slice A0_0 l0_0.length c0_0, .int .i64 a0_1, .slice A0_2 l0_2.length c0_2]) (t := 67) ?hr ?_; (case hd => rfl); (case hg => rfl); (case hr => first | (go_simp; done) | (go_simp; rfl)); intro gb135 hg w37 hbox hb; have n0_ := Aside0.mk (below_step (by repeat (with_reducible first | exact HB.out | apply below_alloc | apply pw_below_drewN | apply below_drew1)) hb); have n1_ := Aside0.mk (hbox); have n2_ := Aside0.mk ((by rw [hg]; exact (below_size (by repeat (with_reducible first | exact HB.out | apply below_alloc | apply pw_below_drewN | apply below_drew1))) : w.heap.size ≤ gb135)); have n3_ := n2_; clear HB; have HB := n0_; have BK135 := n1_; have GW135 := n2_; have GE135 := n3_; clear n0_ n1_ n2_ n3_; clear hb hbox hg; obtain ⟨hcz38_0, hcz38_1, hcz38_2, hfz38_0, hfz38_1, hfz38_2⟩ := blks3 BK135.out) | ((with_reducible refine gate_callee (f := 54) rfl ?_); refine goesL_ (some 13) rfl rfl Try.func54 (by kernel_rfl) rfl #[.agg #[.slice A0_0 l0_0.length c0_0, .int .i64 a0_1, .slice A0_2 l0_2.length c0_2], .int .i64 a1, .int .i64 a2] rfl (by (try simp only [List.map_toArray, List.map_cons, List.map_nil]); first | done | rfl | (simp only [List.length_drop, List.length_take]; rfl)) ?_; (with_reducible refine (best_flow_line.calls k _ _ l0_0 a0_1 _ _ l0_2 a1 a2 t136 t137 t138 t139 false _ ?side1 ?side2 ?side3 ?side4 A4.out).mono ?_); (case side1 => repeat (first | exact (Kd.C_below HR0_0.out HB.out) | (with_reducible refine Kd.C_alloc ?_ _) | (with_reducible refine Kd.C_drewN ?_ _) | (with_reducible refine Kd.C_drew ?_))); (case side2 => exact HC0_0.out); (case side3 => repeat (first | exact (Kd.C_below HR0_2.out HB.out) | (with_reducible refine Kd.C_alloc ?_ _) | (with_reducible refine Kd.C_drewN ?_ _) | (with_reducible refine Kd.C_drew ?_))); (case side4 => exact HC0_2.out); rintro e w39 ⟨rfl, hb⟩; refine ⟨_, rfl, ?_⟩; have n0_ := Aside0.mk (blk_below (g := gb135) (o := .cells #[.slice A0_0 l0_0.length c0_0, .int .i64 a0_1, .slice A0_2 l0_2.length c0_2] 67 (0, 0)) (by (with_reducible repeat (first | refine blk_drewN ?_ _ | refine blk_drew ?_ | refine blk_alloc ?_ _)); exact BK135.out) hb); have n1_ := Aside0.mk (below_step (by repeat (with_reducible first | exact HB.out | apply below_alloc | apply pw_below_drewN | apply below_drew1 | refine below_set ?_ GE135.out)) hb); clear BK135; clear HB; have BK135 := n0_; have HB := n1_; clear n0_ n1_; (try clear hb); (try clear hb2); (try clear hk); (try clear hi)) | ((with_reducible refine gate_dst (N := 7) rfl ?_); refine box_event ?hg (N := 7) ?hd (cs := #[.int .i64 0, .int .i64 0, .int .i64 0, .int .i64 0, .bool false]) (t := 87) ?hr ?_; (case hd => rfl); (case hg => rfl); (case hr => first | (go_simp; done) | (go_simp; rfl)); intro gb141 hg w40 hbox hb; have n0_ := Aside0.mk (blk_below (g := gb135) (o := .cells #[.slice A0_0 l0_0.length c0_0, .int .i64 a0_1, .slice A0_2 l0_2.length c0_2] 67 (0, 0)) (by (with_reducible repeat (first | refine blk_drewN ?_ _ | refine blk_drew ?_ | refine blk_alloc ?_ _)); exact BK135.out) hb); have n1_ := Aside0.mk (below_step (by repeat (with_reducible first | exact HB.out | apply below_alloc | apply pw_below_drewN | apply below_drew1 | refine below_set ?_ GE135.out)) hb); have n2_ := Aside0.mk (hbox); have n3_ := Aside0.mk ((by rw [hg]; exact (below_size (by repeat (with_reducible first | exact HB.out | apply below_alloc | apply pw_below_drewN | apply below_drew1 | refine below_set ?_ GE135.out))) : w.heap.size ≤ gb141)); have n4_ := n3_; have n5_ := Aside0.mk ((by rw [hg]; exact Nat.ne_of_lt (blk_lt (g := gb135) (o := .cells #[.slice A0_0 l0_0.length c0_0, .int .i64 a0_1, .slice A0_2 l0_2.length c0_2] 67 (0, 0)) (by (with_reducible repeat (first | refine blk_drewN ?_ _ | refine blk_drew ?_ | refine blk_alloc ?_ _)); exact BK135.out)) : gb135 ≠ gb141)); have n6_ := Aside0.mk ((by rw [hg]; exact Nat.ne_of_gt (blk_lt (g := gb135) (o := .cells #[.slice A0_0 l0_0.length c0_0, .int .i64 a0_1, .slice A0_2 l0_2.length c0_2] 67 (0, 0)) (by (with_reducible repeat (first | refine blk_drewN ?_ _ | refine blk_drew ?_ | refine blk_alloc ?_ _)); exact BK135.out)) : gb141 ≠ gb135)); clear BK135; clear HB; have BK135 := n0_; have HB := n1_; have BK141 := n2_; have GW141 := n3_; have GE141 := n4_; have NB135_141 := n5_; have NB141_135 := n6_; clear n0_ n1_ n2_ n3_ n4_ n5_ n6_; clear hb hbox hg; have hnb41 := NB141_135.out; have hnc41 := NB135_141.out; obtain ⟨hcz42_0, hcz42_1, hcz42_2, hcz42_3, hcz42_4, hfz42_0, hfz42_1, hfz42_2, hfz42_3, hfz42_4⟩ := blks5 BK141.out; obtain ⟨hcz43_0, hcz43_1, hcz43_2, hfz43_0, hfz43_1, hfz43_2⟩ := blks3 BK135.out) | ((with_reducible refine gate_callee (f := 75) rfl ?_); refine goesL_ (some 31) rfl rfl Try.func75 (by kernel_rfl) rfl #[.agg #[.slice A0_0 l0_0.length c0_0, .int .i64 a0_1, .slice A0_2 l0_2.length c0_2], .int .i64 a2] rfl (by (try simp only [List.map_toArray, List.map_cons, List.map_nil]); first | done | rfl | (simp only [List.length_drop, List.length_take]; rfl)) ?_; (with_reducible refine (best_flow_hyphen.calls _ _ l0_0 a0_1 _ _ l0_2 a2 false _ ?side1 ?side2 ?side3 ?side4 A6.out).mono ?_); (case side1 => exact Kd.C_below HR0_0.out (by repeat (with_reducible first | exact HB.out | apply below_alloc | apply pw_below_drewN | apply below_drew1 | refine below_set ?_ GE135.out | refine below_set ?_ GE141.out))); (case side2 => exact HC0_0.out); (case side3 => exact Kd.C_below HR0_2.out (by repeat (with_reducible first | exact HB.out | apply below_alloc | apply pw_below_drewN | apply below_drew1 | refine below_set ?_ GE135.out | refine below_set ?_ GE141.out))); (case side4 => exact HC0_2.out); rintro e w44 ⟨rfl, hb⟩; refine ⟨_, rfl, ?_⟩; have n0_ := Aside0.mk (blk_below (g := gb135) (o := .cells #[.slice A0_0 l0_0.length c0_0, .int .i64 a0_1, .slice A0_2 l0_2.length c0_2] 67 (0, 0)) (by (with_reducible repeat (first | refine blk_drewN ?_ _ | refine blk_drew ?_ | refine blk_alloc ?_ _)); refine blk_far ?_ NB135_141.out _; (with_reducible repeat (first | refine blk_drewN ?_ _ | refine blk_drew ?_ | refine blk_alloc ?_ _)); refine blk_far ?_ NB135_141.out _; (with_reducible repeat (first | refine blk_drewN ?_ _ | refine blk_drew ?_ | refine blk_alloc ?_ _)); refine blk_far ?_ NB135_141.out _; (with_reducible repeat (first | refine blk_drewN ?_ _ | refine blk_drew ?_ | refine blk_alloc ?_ _)); refine blk_far ?_ NB135_141.out _; (with_reducible repeat (first | refine blk_drewN ?_ _ | refine blk_drew ?_ | refine blk_alloc ?_ _)); refine blk_far ?_ NB135_141.out _; (with_reducible repeat (first | refine blk_drewN ?_ _ | refine blk_drew ?_ | refine blk_alloc ?_ _)); exact BK135.out) hb); have n1_ := Aside0.mk (blk_below (g := gb141) (o := .cells #[.int .i64 t136, .int .i64 t137, .int .i64 t138, .int .i64 t139, .bool false] 87 (0, 0)) (by (with_reducible repeat (first | refine blk_drewN ?_ _ | refine blk_drew ?_ | refine blk_alloc ?_ _)); refine blk_put (cs := #[.int .i64 t136, .int .i64 t137, .int .i64 t138, .int .i64 t139, .bool false]) ?_ 4 _ rfl; (with_reducible repeat (first | refine blk_drewN ?_ _ | refine blk_drew ?_ | refine blk_alloc ?_ _)); refine blk_put (cs := #[.int .i64 t136, .int .i64 t137, .int .i64 t138, .int .i64 0, .bool false]) ?_ 3 _ rfl; (with_reducible repeat (first | refine blk_drewN ?_ _ | refine blk_drew ?_ | refine blk_alloc ?_ _)); refine blk_put (cs := #[.int .i64 t136, .int .i64 t137, .int .i64 0, .int .i64 0, .bool false]) ?_ 2 _ rfl; (with_reducible repeat (first | refine blk_drewN ?_ _ | refine blk_drew ?_ | refine blk_alloc ?_ _)); refine blk_put (cs := #[.int .i64 t136, .int .i64 0, .int .i64 0, .int .i64 0, .bool false]) ?_ 1 _ rfl; (with_reducible repeat (first | refine blk_drewN ?_ _ | refine blk_drew ?_ | refine blk_alloc ?_ _)); refine blk_put (cs := #[.int .i64 0, .int .i64 0, .int .i64 0, .int .i64 0, .bool false]) ?_ 0 _ rfl; (with_reducible repeat (first | refine blk_drewN ?_ _ | refine blk_drew ?_ | refine blk_alloc ?_ _)); exact BK141.out) hb); have n2_ := Aside0.mk (below_step (by repeat (with_reducible first | exact HB.out | apply below_alloc | apply pw_below_drewN | apply below_drew1 | refine below_set ?_ GE135.out | refine below_set ?_ GE141.out)) hb); clear BK135; clear BK141; clear HB; have BK135 := n0_; have BK141 := n1_; have HB := n2_; clear n0_ n1_ n2_; (try clear hb); (try clear hb2); (try clear hk); (try clear hi); obtain ⟨hcz45_0, hcz45_1, hcz45_2, hcz45_3, hcz45_4, hfz45_0, hfz45_1, hfz45_2, hfz45_3, hfz45_4⟩ := blks5 BK141.out))
   go_ret
   exact ⟨by first | rfl | (simp [errW_none, errW_some] <;> rfl) | (simp only [← hji5]; first | rfl | (simp [errW_none, errW_some] <;> rfl)) | (simp [*, errW_none, errW_some] <;> rfl), by repeat (with_reducible first | exact HB.out | apply below_alloc | apply pw_below_drewN | apply below_drew1 | refine below_set ?_ GE135.out | refine below_set ?_ GE141.out)⟩
def stylusref19_Hyphen.f (l0 : List (S43)) (a1 : Int) : Option (Bool) := if a1 ≥ 0 then (if a1 < (l0.length : Int) then (if 0 ≤ a1 then (some (((rd_T43 l0 a1).f0) == 3)) else (none)) else (some false)) else (some false)
set_option maxHeartbeats 8000000 in
set_option maxRecDepth 100000 in
theorem stylusref19_Hyphen.calls (A0 : Option Addr) (c0 : Nat) (l0 : List (S43)) (a1 : Int) (r : Bool) (w : World) (hr0 : Kd.C k43 w A0 l0.length l0) (hc0 : l0.length ≤ c0) (h : stylusref19_Hyphen.f l0 a1 = some r) :
  Calls Try.prog 57 #[.slice A0 l0.length c0, .int .i64 a1] w fun e w' => e = .returned (.bool r) ∧ Drawn0 w w' := by
 have HR0 := Aside0.mk hr0
 have HC0 := Aside0.mk hc0
 clear hr0 hc0
 have H : (if a1 ≥ 0 then (if a1 < (l0.length : Int) then (if 0 ≤ a1 then (some (((rd_T43 l0 a1).f0) == 3)) else (none)) else (some false)) else (some false)) = some r := h
 clear h
 by_cases c3 : a1 ≥ 0
 ·rw [if_pos c3] at H
  have c3b0 : decide (0 ≤ a1) = true := decide_eq_true c3
  clear c3
  by_cases c4 : a1 < (l0.length : Int)
  ·rw [if_pos c4] at H
   have c4b0 : decide (a1 < (l0.length : Int)) = true := decide_eq_true c4
   clear c4
   by_cases c5 : 0 ≤ a1
   ·rw [if_pos c5] at H
    have c5b0 : decide (0 ≤ a1) = true := decide_eq_true c5
    clear c5
    obtain rfl := Option.some.inj H
    have p190 : 0 ≤ (a1 : Int) := of_decide_eq_true (by first | (with_reducible assumption) | assumption)
    have q190 : a1 < (l0.length : Int) := of_decide_eq_true (by first | (with_reducible assumption) | assumption)
    obtain ⟨ad190, e190, hx190_0, hx190_1, hx190_2, hx190_3, hx190_4⟩ := at_T43 HR0.out a1 p190 q190
    cases e190
    replace p190 := eq_true p190
    replace q190 := eq_true q190
    go_enter Try.func57, Try.ntmps57
    go_wp2
    go_ret
    exact ⟨by first | rfl | (simp; done) | (simp [*]; done), by repeat (first | exact Drawn0.refl _ | apply Drawn0.step)⟩
   ·rw [if_neg c5] at H
    exact absurd H (by simp)
  ·rw [if_neg c4] at H
   have c4b0 : decide (a1 < (l0.length : Int)) = false := decide_eq_false c4
   clear c4
   obtain rfl := Option.some.inj H
   go_enter Try.func57, Try.ntmps57
   go_wp2
   go_ret
   exact ⟨by first | rfl | (simp; done) | (simp [*]; done), by repeat (first | exact Drawn0.refl _ | apply Drawn0.step)⟩
 ·rw [if_neg c3] at H
  have c3b0 : decide (0 ≤ a1) = false := decide_eq_false c3
  clear c3
  obtain rfl := Option.some.inj H
  go_enter Try.func57, Try.ntmps57
  go_wp2
  go_ret
  exact ⟨by first | rfl | (simp; done) | (simp [*]; done), by repeat (first | exact Drawn0.refl _ | apply Drawn0.step)⟩
end Go.Proofs.Ytbddfnmhhmkfkaa.Pr
namespace Go.DP
def hd : List Int → Int | [] => -1 | x :: _ => x
section
variable (pl : Int → Bool) (legal : Int → Int → Bool) (cost : Int → Int → Int)
def tot : List Int → Int | [] => 0 | t :: r => tot r + cost (hd r) t
def Fw : Int → List Int → Prop | _, [] => True | f, b :: bs => f < b ∧ pl b = true ∧ legal f b = true ∧ Fw b bs
def totF : Int → List Int → Int | _, [] => 0 | f, b :: bs => cost f b + totF b bs
end
end Go.DP
namespace Go.Proofs.Ytbddfnmhhmkfkaa.Pr
open Go.RowKit Go.Proofs.YtbddfnmhhmkfkaaW.PrintWords Go.Proofs.YtbddfnmhhmkfkaaW.PrintLast Go.Proofs.YtbddfnmhhmkfkaaW.PrintMore
theorem w64 {n : Int} (h0 : -9223372036854775808 ≤ n) (h1 : n ≤ 9223372036854775807) : wrap64 n = n := by unfold wrap64; omega
structure OkItem (x : S43) : Prop where
 k1 : 1 ≤ x.f0
 k4 : x.f0 ≤ 4
 w0 : 0 ≤ x.f1
 w1 : x.f1 ≤ 2000
 y0 : 0 ≤ x.f2
 y1 : x.f2 ≤ 2000
 z0 : 0 ≤ x.f3
 z1 : x.f3 ≤ 2000
theorem odd_ok {x : S43} (h : oddP x = false) : OkItem x := by
 simp only [oddP, farP, Bool.or_eq_false_iff, decide_eq_false_iff_not] at h
 obtain ⟨⟨⟨⟨h1, h2⟩, h3, h4⟩, h5, h6⟩, h7, h8⟩ := h
 exact ⟨by omega, by omega, by omega, by omega, by omega, by omega, by omega, by omega⟩
structure OkL (l : List S43) (w : Int) : Prop where
 len : l.length ≤ 16384
 item : ∀ x ∈ l, OkItem x
 w0 : 1 ≤ w
 w1 : w ≤ 1000000
theorem check_01 (l : List S43) (w : Int) : checkP l w = 0 ∨ checkP l w = 1 := by
 unfold checkP; split <;> simp
theorem check_ok {l : List S43} {w : Int} (h : checkP l w = 0) : OkL l w := by
 unfold checkP at h
 split at h
 ·cases h
 ·rename_i h1
  refine ⟨by omega, fun x hx => odd_ok ?_, by omega, by omega⟩
  cases ho : oddP x with
  | false => rfl
  | true => exact absurd (.inr (.inr (.inr (List.any_eq_true.2 ⟨x, hx, ho⟩)))) h1
def gN (x : S43) : Int := if x.f0 = 3 then 0 else x.f1
def gY (x : S43) : Int := if x.f0 = 2 then x.f2 else 0
def gZ (x : S43) : Int := if x.f0 = 2 then x.f3 else 0
def nS (g : S43 → Int) (l : List S43) (k : Nat) : Int := ((l.take k).map g).sum
theorem nS_succ (g : S43 → Int) (l : List S43) (k : Nat) (x : S43) (h : l[k]? = some x) : nS g l (k + 1) = nS g l k + g x := by
 unfold nS
 rw [List.take_add_one, h]
 simp
theorem rd_get {l : List S43} {k : Nat} (h : k < l.length) : l[k]? = some (rd_T43 l k) := by
 unfold rd_T43
 rw [Int.toNat_natCast, List.getD_eq_getElem?_getD, List.getElem?_eq_getElem h]
 rfl
theorem rd_ok {l : List S43} {w : Int} (ok : OkL l w) {k : Nat} (h : k < l.length) : OkItem (rd_T43 l k) := ok.item _ (List.mem_of_getElem? (rd_get h))
theorem nS_next {l : List S43} (g : S43 → Int) {k : Nat} (h : k < l.length) : nS g l (k + 1) = nS g l k + g (rd_T43 l k) := nS_succ g l k _ (rd_get h)
theorem g_bd {x : S43} (h : OkItem x) : (0 ≤ gN x ∧ gN x ≤ 2000) ∧ (0 ≤ gY x ∧ gY x ≤ 2000) ∧ (0 ≤ gZ x ∧ gZ x ≤ 2000) := by
 obtain ⟨a, b, c, d, e, f, g, i⟩ := h
 refine ⟨?_, ?_, ?_⟩
 ·unfold gN; split <;> omega
 ·unfold gY; split <;> omega
 ·unfold gZ; split <;> omega
theorem nS_bd {l : List S43} {w : Int} (ok : OkL l w) (g : S43 → Int) (hg : ∀ x, OkItem x → 0 ≤ g x ∧ g x ≤ 2000) : ∀ k : Nat, k ≤ l.length → 0 ≤ nS g l k ∧ nS g l k ≤ 2000 * k
 | 0, _ => by simp [nS]
 | k + 1, h => by
  have ih := nS_bd ok g hg k (by omega)
  have := hg _ (rd_ok ok (show k < l.length by omega))
  rw [nS_next g (by omega)]
  omega
theorem nS_mono {l : List S43} {w : Int} (ok : OkL l w) (g : S43 → Int) (hg : ∀ x, OkItem x → 0 ≤ g x ∧ g x ≤ 2000) (i : Nat) : ∀ d : Nat, i + d ≤ l.length → nS g l i ≤ nS g l (i + d)
 | 0, _ => Int.le_refl _
 | d + 1, h => by
  have ih := nS_mono ok g hg i d (by omega)
  have := hg _ (rd_ok ok (show i + d < l.length by omega))
  rw [show i + (d + 1) = (i + d) + 1 by omega, nS_next g (by omega)]
  omega
theorem sumAt_ok {l : List S43} {w : Int} (ok : OkL l w) : ∀ k : Nat, k ≤ l.length → sumAt l k = ⟨nS gN l k, nS gY l k, nS gZ l k⟩
 | 0, _ => rfl
 | k + 1, h => by
  have hk : k < l.length := by omega
  have ho := rd_ok ok hk
  obtain ⟨b1, b2, b3⟩ := g_bd ho
  have n1 := nS_bd ok gN (fun x hx => (g_bd hx).1) k (by omega)
  have n2 := nS_bd ok gY (fun x hx => (g_bd hx).2.1) k (by omega)
  have n3 := nS_bd ok gZ (fun x hx => (g_bd hx).2.2) k (by omega)
  have hl := ok.len
  rw [sumAt_succ l k _ (rd_get hk), sumAt_ok ok k (by omega), nS_next gN hk, nS_next gY hk, nS_next gZ hk]
  generalize rd_T43 l k = x at *
  obtain ⟨o1, o2, o3, o4, o5, o6, o7, o8⟩ := ho
  generalize nS gN l k = a1 at *
  generalize nS gY l k = a2 at *
  generalize nS gZ l k = a3 at *
  simp only [sumP, gN, gY, gZ] at *
  by_cases h2 : x.f0 = 2
  ·simp only [h2, if_true] at *
   rw [if_neg (by omega)]
   rw [w64 (by omega) (by omega), w64 (by omega) (by omega), w64 (by omega) (by omega)]
  ·by_cases h3 : x.f0 = 3
   ·simp only [h3, if_true] at *
    simp
   ·rw [if_neg h2, if_pos (by omega), if_neg h3, if_neg h2, if_neg h2, w64 (by omega) (by omega), Int.add_zero, Int.add_zero]
theorem sums_len (l : List S43) (k : Nat) : (sumsTo l k).length = k + 1 := by simp [sumsTo]
theorem rd_sums (l : List S43) (n k : Nat) (h : k ≤ n) : rd_T85 (sumsTo l n) k = sumAt l k := by
 unfold rd_T85 sumsTo
 rw [Int.toNat_natCast, List.getD_eq_getElem?_getD, List.getElem?_map, List.getElem?_range (by omega)]
 rfl
def hyphP (l : List S43) (a : Int) : Bool := decide (0 ≤ a) && decide (a < l.length) && ((rd_T43 l a).f0 == 3)
def placeP (l : List S43) (a : Int) : Bool := decide (a = l.length) || (decide (0 ≤ a) && decide (a < l.length) && (((rd_T43 l a).f0 == 3) || ((rd_T43 l a).f0 == 2)))
def legalP (l : List S43) (a b : Int) : Bool := !hyphP l a || !hyphP l b
theorem hyphen_f (l : List S43) (w : Int) (s : List S85) (a : Int) : best_flow_hyphen.f l w s a = some (hyphP l a) := by
 unfold best_flow_hyphen.f hyphP
 by_cases h1 : 0 ≤ a
 ·by_cases h2 : a < l.length
  ·simp [h1, h2]
  ·simp [h1, h2]
 ·simp [h1]
theorem place_f (l : List S43) (w : Int) (s : List S85) (a : Int) : best_flow_place.f l w s a = some (placeP l a) := by
 unfold best_flow_place.f placeP
 rw [hyphen_f]
 unfold hyphP
 by_cases h0 : a = l.length
 ·simp [h0]
 ·by_cases h1 : 0 ≤ a
  ·by_cases h2 : a < l.length
   ·by_cases h3 : (rd_T43 l a).f0 = 3
    ·simp [h0, h1, h2, h3]
    ·simp [h0, h1, h2, h3]
   ·simp [h0, h1, h2]
  ·simp [h0, h1]
theorem legal_f (l : List S43) (w : Int) (s : List S85) (a b : Int) : best_flow_legal.f l w s a b = some (legalP l a b) := by
 unfold best_flow_legal.f legalP
 rw [hyphen_f, hyphen_f]
 cases hyphP l a <;> cases hyphP l b <;> rfl
theorem refHyphen_f (l : List S43) (a : Int) : stylusref19_Hyphen.f l a = some (hyphP l a) := by
 unfold stylusref19_Hyphen.f hyphP
 by_cases h1 : 0 ≤ a
 ·by_cases h2 : a < l.length
  ·simp [h1, h2]
  ·simp [h1, h2]
 ·simp [h1]
theorem refPlace_f (l : List S43) (a : Int) : stylusref19_Place.f l a = some (placeP l a) := by
 unfold stylusref19_Place.f placeP
 by_cases h0 : a = l.length
 ·simp [h0]
 ·by_cases h1 : 0 ≤ a
  ·by_cases h2 : a < l.length
   ·by_cases h3 : (rd_T43 l a).f0 = 2
    ·simp [h0, h1, h2, h3]
    ·simp [h0, h1, h2, h3]
   ·simp [h0, h1, h2]
  ·simp [h0, h1]
theorem place_le {l : List S43} {a : Int} (h : placeP l a = true) : 0 ≤ a ∧ a ≤ l.length := by
 simp only [placeP, Bool.or_eq_true, Bool.and_eq_true, decide_eq_true_eq] at h
 omega
def lineN (l : List S43) (f t : Int) : Int := nS gN l t.toNat - nS gN l (f + 1).toNat + if hyphP l t = true then (rd_T43 l t).f1 else 0
def lineY (l : List S43) (f t : Int) : Int := nS gY l t.toNat - nS gY l (f + 1).toNat
def lineZ (l : List S43) (f t : Int) : Int := nS gZ l t.toNat - nS gZ l (f + 1).toNat
def quo (a b : Int) : Int := if b = 0 then 1024 else mn (a * 128 / b) 1024
def rateOf (w n y z : Int) (last : Bool) : Int := if n = w ∨ n < w ∧ last = true then 0 else if n < w then quo (w - n) y else quo (n - w) z
def rateP (l : List S43) (w f t : Int) : Int := rateOf w (lineN l f t) (lineY l f t) (lineZ l f t) (t == (l.length : Int))
def overP (l : List S43) (w f t : Int) : Bool := decide (lineN l f t - lineZ l f t > w)
def costOf (r : Int) (h o : Bool) : Int := (10 + mn (100 * r * r * r / 2097152) 10000) * (10 + mn (100 * r * r * r / 2097152) 10000) + (if h = true then 2500 else 0) + if o = true then 1000000000000 else 0
def costP (l : List S43) (w f t : Int) : Int := costOf (rateP l w f t) (hyphP l t) (overP l w f t)
theorem mn_le (a b : Int) : mn a b ≤ a ∧ mn a b ≤ b := by unfold mn; split <;> omega
theorem mn_ge {a b c : Int} (h : c ≤ a) (h' : c ≤ b) : c ≤ mn a b := by unfold mn; split <;> omega
theorem quo_bd {a b : Int} (ha : 0 ≤ a) (hb : 0 ≤ b) : 0 ≤ quo a b ∧ quo a b ≤ 1024 := by
 unfold quo
 split
 ·omega
 ·exact ⟨mn_ge (Int.ediv_nonneg (by omega) hb) (by omega), (mn_le _ _).2⟩
theorem line_bd {l : List S43} {w : Int} (ok : OkL l w) {f t : Int} (h0 : -1 ≤ f) (h1 : f < t) (h2 : t ≤ l.length) :
  (0 ≤ lineN l f t ∧ lineN l f t ≤ 32770000) ∧ (0 ≤ lineY l f t ∧ lineY l f t ≤ 32770000) ∧ (0 ≤ lineZ l f t ∧ lineZ l f t ≤ 32770000) := by
 have hl := ok.len
 obtain ⟨i, hi⟩ : ∃ i : Nat, f + 1 = i := ⟨(f + 1).toNat, by omega⟩
 obtain ⟨d, hd⟩ : ∃ d : Nat, t = ((i + d : Nat) : Int) := ⟨(t - (f + 1)).toNat, by omega⟩
 unfold lineN lineY lineZ
 rw [hi, hd]
 simp only [Int.toNat_natCast]
 have m1 := nS_mono ok gN (fun x hx => (g_bd hx).1) i d (by omega)
 have m2 := nS_mono ok gY (fun x hx => (g_bd hx).2.1) i d (by omega)
 have m3 := nS_mono ok gZ (fun x hx => (g_bd hx).2.2) i d (by omega)
 have n1 := nS_bd ok gN (fun x hx => (g_bd hx).1) (i + d) (by omega)
 have n2 := nS_bd ok gY (fun x hx => (g_bd hx).2.1) (i + d) (by omega)
 have n3 := nS_bd ok gZ (fun x hx => (g_bd hx).2.2) (i + d) (by omega)
 have p1 := nS_bd ok gN (fun x hx => (g_bd hx).1) i (by omega)
 have p2 := nS_bd ok gY (fun x hx => (g_bd hx).2.1) i (by omega)
 have p3 := nS_bd ok gZ (fun x hx => (g_bd hx).2.2) i (by omega)
 refine ⟨?_, by omega, by omega⟩
 split
 ·rename_i hh
  simp only [hyphP, Bool.and_eq_true, decide_eq_true_eq] at hh
  have := rd_ok ok (k := i + d) (by omega)
  have h3 := this.w0
  have h4 := this.w1
  omega
 ·omega
theorem rate_bd {w n y z : Int} (h0 : 0 ≤ y) (h1 : 0 ≤ z) (b : Bool) : 0 ≤ rateOf w n y z b ∧ rateOf w n y z b ≤ 1024 := by
 unfold rateOf
 split
 ·omega
 ·split
  ·exact quo_bd (by omega) h0
  ·exact quo_bd (by omega) h1
theorem rateP_bd {l : List S43} {w : Int} (ok : OkL l w) {f t : Int} (h0 : -1 ≤ f) (h1 : f < t) (h2 : t ≤ l.length) : 0 ≤ rateP l w f t ∧ rateP l w f t ≤ 1024 := by
 obtain ⟨_, b2, b3⟩ := line_bd ok h0 h1 h2
 exact rate_bd b2.1 b3.1 _
theorem cube_bd {r : Int} (h0 : 0 ≤ r) (h1 : r ≤ 1024) : (0 ≤ 100 * r ∧ 100 * r ≤ 102400) ∧ (0 ≤ 100 * r * r ∧ 100 * r * r ≤ 104857600) ∧ (0 ≤ 100 * r * r * r ∧ 100 * r * r * r ≤ 107374182400) := by
 have a1 : 0 ≤ 100 * r ∧ 100 * r ≤ 102400 := by omega
 have a2 : 0 ≤ 100 * r * r := Int.mul_nonneg a1.1 h0
 have a3 : 100 * r * r ≤ 102400 * 1024 := Int.mul_le_mul a1.2 h1 h0 (by omega)
 have a4 : 0 ≤ 100 * r * r * r := Int.mul_nonneg a2 h0
 have a5 : 100 * r * r * r ≤ 102400 * 1024 * 1024 := Int.mul_le_mul a3 h1 h0 (by omega)
 exact ⟨a1, ⟨a2, by omega⟩, ⟨a4, by omega⟩⟩
theorem bad_bd {r : Int} (h0 : 0 ≤ r) (h1 : r ≤ 1024) : 0 ≤ mn (100 * r * r * r / 2097152) 10000 ∧ mn (100 * r * r * r / 2097152) 10000 ≤ 10000 := by
 obtain ⟨_, _, b⟩ := cube_bd h0 h1
 exact ⟨mn_ge (by omega) (by omega), (mn_le _ _).2⟩
theorem sq_bd {b : Int} (h0 : 0 ≤ b) (h1 : b ≤ 10000) : 100 ≤ (10 + b) * (10 + b) ∧ (10 + b) * (10 + b) ≤ 100200100 := by
 have h2 : (10 : Int) * 10 ≤ (10 + b) * (10 + b) := Int.mul_le_mul (by omega) (by omega) (by omega) (by omega)
 have h3 : (10 + b) * (10 + b) ≤ 10010 * 10010 := Int.mul_le_mul (by omega) (by omega) (by omega) (by omega)
 omega
theorem cost_bd {r : Int} (h0 : 0 ≤ r) (h1 : r ≤ 1024) (h o : Bool) : 100 ≤ costOf r h o ∧ costOf r h o ≤ 1000100202600 := by
 obtain ⟨b0, b1⟩ := bad_bd h0 h1
 have := sq_bd b0 b1
 unfold costOf
 split <;> split <;> omega
theorem costP_bd {l : List S43} {w : Int} (ok : OkL l w) {f t : Int} (h0 : -1 ≤ f) (h1 : f < t) (h2 : t ≤ l.length) : 100 ≤ costP l w f t ∧ costP l w f t ≤ 1000100202600 := by
 have := rateP_bd ok h0 h1 h2
 exact cost_bd this.1 this.2 _ _
theorem line_spec {l : List S43} {w : Int} (ok : OkL l w) {f t : Int} (h0 : -1 ≤ f) (h1 : f < t) (h2 : t ≤ l.length) (k : Nat) :
  best_flow_line.f (k + 2) l w (sumsTo l l.length) f t = some (lineN l f t, lineY l f t, lineZ l f t, rateP l w f t, overP l w f t) := by
 have hl := ok.len
 have hw0 := ok.w0
 have hw1 := ok.w1
 obtain ⟨i, hi⟩ : ∃ i : Nat, f + 1 = i := ⟨(f + 1).toNat, by omega⟩
 obtain ⟨j, rfl⟩ : ∃ j : Nat, t = j := ⟨t.toNat, by omega⟩
 have hii : i ≤ j := by omega
 obtain ⟨bN, bY, bZ⟩ := line_bd ok h0 h1 h2
 have n1 := nS_bd ok gN (fun x hx => (g_bd hx).1) j (by omega)
 have n2 := nS_bd ok gY (fun x hx => (g_bd hx).2.1) j (by omega)
 have n3 := nS_bd ok gZ (fun x hx => (g_bd hx).2.2) j (by omega)
 have p1 := nS_bd ok gN (fun x hx => (g_bd hx).1) i (by omega)
 have p2 := nS_bd ok gY (fun x hx => (g_bd hx).2.1) i (by omega)
 have p3 := nS_bd ok gZ (fun x hx => (g_bd hx).2.2) i (by omega)
 have hrate := rateP_bd ok h0 h1 h2
 unfold best_flow_line.f best_sums_less.f
 rw [if_pos (by omega), if_pos (by rw [sums_len]; omega), w64 (n := f + 1) (by omega) (by omega), hi, if_pos (by omega), if_pos (by rw [sums_len]; omega)]
 rw [rd_sums l l.length j (by omega), rd_sums l l.length i (by omega), sumAt_ok ok j (by omega), sumAt_ok ok i (by omega)]
 simp only [Option.bind_some, hyphen_f]
 have tail : ∀ n y z : Int, (0 ≤ n ∧ n ≤ 32770000) → (0 ≤ y ∧ y ≤ 32770000) → (0 ≤ z ∧ z ≤ 32770000) →
   best_flow_line.j0 (k + 2) j l w (sumsTo l l.length) n y z 0 false = some (n, y, z, rateOf w n y z ((j : Int) == (l.length : Int)), decide (n - z > w)) := by
  intro n y z hn hy hz
  simp only [best_flow_line.j0]
  have e1 : wrap64 (w - n) = w - n := w64 (by omega) (by omega)
  have e2 : wrap64 (-(w - n)) = n - w := by rw [w64 (by omega) (by omega)]; omega
  have e3 : wrap64 (n - z) = n - z := w64 (by omega) (by omega)
  have fin : ∀ g r : Int, (0 ≤ g ∧ g ≤ 32770000) → 0 ≤ r → best_flow_line.j1 (k + 1) g r l w (sumsTo l l.length) n y z 0 false = some (n, y, z, (if g = 0 then 0 else quo g r), decide (n - z > w)) := by
   intro g r hg hr
   simp only [best_flow_line.j1]
   rw [e3]
   by_cases h : g = 0
   ·rw [if_pos h, if_pos h]
   ·rw [if_neg h, if_neg h]
    unfold quo
    by_cases h' : r = 0
    ·rw [if_pos h', if_pos h']
    ·rw [if_neg h', if_neg h', w64 (n := g * 128) (by omega) (by omega)]
     have q1 : (g * 128).tdiv r = g * 128 / r := Int.tdiv_eq_ediv_of_nonneg (by omega)
     have q2 : 0 ≤ g * 128 / r := Int.ediv_nonneg (by omega) hr
     have q3 : g * 128 / r ≤ g * 128 := Int.ediv_le_self _ (by omega)
     rw [q1, w64 (by omega) (by omega)]
  rw [e1]
  by_cases c1 : w - n < 0
  ·rw [if_pos c1, e2, fin _ _ (by omega) hz.1]
   unfold rateOf
   rw [if_neg (by omega), if_neg (by omega), if_neg (by omega)]
  ·rw [if_neg c1]
   by_cases c2 : (j : Int) = l.length
   ·rw [if_pos c2, fin _ _ (by omega) hy.1]
    unfold rateOf
    rw [if_pos rfl, if_pos (by simp [c2]; omega)]
   ·rw [if_neg c2, fin _ _ (by omega) hy.1]
    unfold rateOf
    by_cases c3 : w - n = 0
    ·rw [if_pos c3, if_pos (by omega)]
    ·rw [if_neg c3, if_neg (by simp [c2]; omega), if_pos (by omega)]
 have r0 := tail (lineN l f j) (lineY l f j) (lineZ l f j) bN bY bZ
 unfold rateP overP
 rw [← r0]
 have eY : wrap64 (nS gY l j - nS gY l i) = lineY l f j := by
  unfold lineY; rw [hi]; simp only [Int.toNat_natCast]; exact w64 (by omega) (by omega)
 have eZ : wrap64 (nS gZ l j - nS gZ l i) = lineZ l f j := by
  unfold lineZ; rw [hi]; simp only [Int.toNat_natCast]; exact w64 (by omega) (by omega)
 rw [eY, eZ]
 unfold lineN at bN ⊢
 rw [hi] at bN ⊢
 simp only [Int.toNat_natCast] at bN ⊢
 rw [w64 (n := nS gN l j - nS gN l i) (by omega) (by omega)]
 by_cases hh : hyphP l j = true
 ·have hj : (j : Int) < l.length := by
   simp only [hyphP, Bool.and_eq_true, decide_eq_true_eq] at hh
   exact hh.1.2
  rw [if_pos hh] at bN ⊢
  rw [if_pos hh, if_pos hj, w64 (by omega) (by omega)]
 ·rw [if_neg hh] at bN ⊢
  rw [if_neg hh, Int.add_zero]
theorem bad_spec {r : Int} (h0 : 0 ≤ r) (h1 : r ≤ 1024) (h o : Bool) :
  (if h = true then (if o = true then (some (wrap64 ((wrap64 ((wrap64 ((wrap64 (10 + (mn ((wrap64 ((wrap64 ((wrap64 (100 * r)) * r)) * r)) / 2097152) 10000))) * (wrap64 (10 + (mn ((wrap64 ((wrap64 ((wrap64 (100 * r)) * r)) * r)) / 2097152) 10000))))) + 2500)) + 1000000000000))) else (some (wrap64 ((wrap64 ((wrap64 (10 + (mn ((wrap64 ((wrap64 ((wrap64 (100 * r)) * r)) * r)) / 2097152) 10000))) * (wrap64 (10 + (mn ((wrap64 ((wrap64 ((wrap64 (100 * r)) * r)) * r)) / 2097152) 10000))))) + 2500)))) else (if o = true then (some (wrap64 ((wrap64 ((wrap64 (10 + (mn ((wrap64 ((wrap64 ((wrap64 (100 * r)) * r)) * r)) / 2097152) 10000))) * (wrap64 (10 + (mn ((wrap64 ((wrap64 ((wrap64 (100 * r)) * r)) * r)) / 2097152) 10000))))) + 1000000000000))) else (some (wrap64 ((wrap64 (10 + (mn ((wrap64 ((wrap64 ((wrap64 (100 * r)) * r)) * r)) / 2097152) 10000))) * (wrap64 (10 + (mn ((wrap64 ((wrap64 ((wrap64 (100 * r)) * r)) * r)) / 2097152) 10000)))))))) = some (costOf r h o) := by
 obtain ⟨a1, a2, a3⟩ := cube_bd h0 h1
 obtain ⟨b0, b1⟩ := bad_bd h0 h1
 have hs := sq_bd b0 b1
 rw [w64 (n := 100 * r) (by omega) (by omega), w64 (n := 100 * r * r) (by omega) (by omega), w64 (n := 100 * r * r * r) (by omega) (by omega)]
 unfold costOf
 generalize mn (100 * r * r * r / 2097152) 10000 = b at *
 rw [w64 (n := 10 + b) (by omega) (by omega)]
 generalize (10 + b) * (10 + b) = q at *
 rw [w64 (n := q) (by omega) (by omega), w64 (n := q + 2500) (by omega) (by omega), w64 (n := q + 2500 + 1000000000000) (by omega) (by omega), w64 (n := q + 1000000000000) (by omega) (by omega)]
 cases h <;> cases o <;> simp
theorem demerits_spec {l : List S43} {w : Int} (ok : OkL l w) {f t : Int} (h0 : -1 ≤ f) (h1 : f < t) (h2 : t ≤ l.length) (k : Nat) :
  best_flow_demerits.f (k + 2) l w (sumsTo l l.length) f t = some (costP l w f t) := by
 have hr := rateP_bd ok h0 h1 h2
 unfold best_flow_demerits.f
 rw [line_spec ok h0 h1 h2 k, hyphen_f]
 simp only [Option.bind_some]
 exact bad_spec hr.1 hr.2 _ _
def Br (l : List S43) : Int → List Int → Prop := Go.DP.Fw (placeP l) (legalP l)
def TotP (l : List S43) (w : Int) : Int → List Int → Int := Go.DP.totF (costP l w)
def legalB (l : List S43) : Int → List Int → Bool
 | f, [] => f == (l.length : Int)
 | f, b :: bs => decide (f < b) && placeP l b && legalP l f b && legalB l b bs
theorem rd_drop {bs : List Int} {i : Nat} (h : i < bs.length) : bs.drop i = rd bs i :: bs.drop (i + 1) := by
 rw [List.drop_eq_getElem_cons h]
 congr 1
 unfold rd
 rw [Int.toNat_natCast, List.getD_eq_getElem?_getD, List.getElem?_eq_getElem h]
 rfl
theorem legalP_iff (l : List S43) (a b : Int) : legalP l a b = false ↔ hyphP l a = true ∧ hyphP l b = true := by
 unfold legalP; cases hyphP l a <;> cases hyphP l b <;> simp
def legalL (l : List S43) (bs : List Int) : Bool := decide (0 < bs.length) && legalB l (-1) bs
theorem legalB_iff (l : List S43) : ∀ (bs : List Int) (f : Int), legalB l f bs = true ↔ Br l f bs ∧ bs.getLast?.getD f = l.length
 | [], f => by simp [legalB, Br, Go.DP.Fw]
 | b :: bs, f => by
  have e : ((b :: bs).getLast?).getD f = (bs.getLast?).getD b := by
   cases bs with
   | nil => rfl
   | cons c cs => simp [List.getLast?_cons]
  rw [e]
  simp only [legalB, Bool.and_eq_true, decide_eq_true_eq, legalB_iff l bs b]
  simp only [Br, Go.DP.Fw]
  constructor
  ·rintro ⟨⟨⟨h1, h2⟩, h3⟩, h4, h5⟩; exact ⟨⟨h1, h2, h3, h4⟩, h5⟩
  ·rintro ⟨⟨h1, h2, h3, h4⟩, h5⟩; exact ⟨⟨⟨h1, h2⟩, h3⟩, h4, h5⟩
def ratioP (l : List S43) (w f t : Int) : Int × Int × Int :=
 if checkP l w = 0 ∧ (f = -1 ∨ (f ≠ l.length ∧ placeP l f = true)) ∧ placeP l t = true ∧ f < t then (lineN l f t, rateP l w f t, 0) else (0, 0, 1)
def demeritsP (l : List S43) (w : Int) (bs : List Int) : Int × Int := if checkP l w = 0 ∧ legalL l bs = true then (TotP l w (-1) bs, 0) else (0, 1)
end Go.Proofs.Ytbddfnmhhmkfkaa.Pr
namespace Go.Proofs.Ytbddfnmhhmkfkaa.Pr
open Go.RowKit Go.Proofs.YtbddfnmhhmkfkaaW.PrintWords
attribute [local go_sem] Oper.semAt_some
theorem flat85_at (xs : List S85) : ∀ (j : Nat) (p : S85), xs[j]? = some p → ((flat85 xs).drop (j * 3)).take 3 = [.int .i64 p.f0, .int .i64 p.f1, .int .i64 p.f2] := by
 induction xs with
 | nil => intro j p h; simp at h
 | cons x xs ih =>
  intro j p h
  cases j with
  | zero => simp at h; subst h; simp [flat85]
  | succ j =>
   have := ih j p (by simpa using h)
   rw [Nat.succ_mul]
   simp only [flat85, List.flatMap_cons] at this ⊢
   rw [show ∀ l : List Value, (([.int .i64 x.f0, .int .i64 x.f1, .int .i64 x.f2] : List Value) ++ l).drop (j * 3 + 3) = l.drop (j * 3) from fun l => rfl]
   exact this
theorem own_R85 {w : World} {base : Nat} {v : Value} {xs : List S85} (h : w.ownsRow base 85 3 v xs.length (flat85 xs)) (b' : Nat) (hb : b' ≤ base) : Kd.R k85 85 w b' (fun _ => True) v xs := by
 refine Kd.R_lower (base := base) ⟨fun _ _ => trivial, flat85 xs, h, flat85_length xs, fun j p hp => ?_⟩ hb
 have := flat85_at xs j p hp
 show k85.M _ _ _ _ (((flat85 xs).drop (j * 3)).take 3)
 rw [this]
 exact k85_mkM _ _ _ _
theorem begin_flow (A : Option Addr) (c : Nat) (l : List S43) (wd : Int) (w : World) (hl : l.length ≤ 1000000) (hA : Kd.C k43 w A l.length l) :
  Calls Try.prog 43 #[.slice A l.length c, .int .i64 wd] w fun e w' => ∃ A2 c2, e = .returned (.agg #[.slice A l.length c, .int .i64 wd, .slice A2 (sumsTo l l.length).length c2]) ∧
   Kd.C k85 w' A2 (sumsTo l l.length).length (sumsTo l l.length) ∧ (sumsTo l l.length).length ≤ c2 ∧ Below w.heap.size w w' := by
 refine (begin_calls A c l wd w hl hA).mono ?_
 rintro e w' ⟨v, rfl, ho, hb⟩
 have e1 := sums_len l l.length
 rw [← e1] at ho
 obtain ⟨A2, c2, rfl⟩ := own_slice ho
 have hr := Kd.R_reads' (own_R85 ho _ (Nat.le_refl _))
 exact ⟨A2, c2, rfl, hr.2.2, hr.2.1, hb⟩
theorem flow_cells {w : World} {g : Nat} {A : Option Addr} {n c : Nat} {wd : Int} {v : Value} (h : w.heap[g]? = some (.cells #[.slice A n c, .int .i64 wd, v] 67 (0, 0))) :
  w.cell? ⟨g, 0, none⟩ = some (.slice A n c) ∧ w.cell? ⟨g, 1, none⟩ = some (.int .i64 wd) ∧ w.cell? ⟨g, 2, none⟩ = some v :=
 ⟨by rw [blk_cell h 0]; rfl, by rw [blk_cell h 1]; rfl, by rw [blk_cell h 2]; rfl⟩
def best_Ratio.f (l0 : List S43) (a1 a2 a3 : Int) : Option (Int × Int × Int) := if l0.length ≤ 1000000 then some (ratioP l0 a1 a2 a3) else none
def best_Demerits.f (l0 : List S43) (a1 : Int) (l2 : List Int) : Option (Int × Int) := if l0.length ≤ 1000000 ∧ l2.length ≤ 100000 then some (demeritsP l0 a1 l2) else none
structure DemInv (l : List S43) (a1 : Int) (bs : List Int) (k : Nat) (f s : Int) : Prop where
 leg : legalB l (-1) bs = legalB l f (bs.drop k)
 tot : TotP l a1 (-1) bs = s + TotP l a1 f (bs.drop k)
 f0 : -1 ≤ f
 f1 : f ≤ l.length
 s0 : 0 ≤ s
 s1 : s ≤ 1000100202600 * k
 last : (k = 0 ∧ f = -1) ∨ (0 < k ∧ f = rd bs ((k : Int) - 1))
theorem dem_start (l : List S43) (a1 : Int) (bs : List Int) : DemInv l a1 bs 0 (-1) 0 := by
 refine ⟨rfl, ?_, ?_, ?_, ?_, ?_, ?_⟩
 ·rw [List.drop_zero]; exact (Int.zero_add _).symm
 ·omega
 ·omega
 ·omega
 ·omega
 ·exact .inl ⟨rfl, rfl⟩
theorem dem_next {l : List S43} {a1 : Int} (ok : OkL l a1) {bs : List Int} {k : Nat} {f s : Int} (h : DemInv l a1 bs k f s) (hk : k < bs.length) (h1 : f < rd bs k) (h2 : placeP l (rd bs k) = true) (h3 : legalP l f (rd bs k) = true) :
  DemInv l a1 bs (k + 1) (rd bs k) (s + costP l a1 f (rd bs k)) := by
 have hp := place_le h2
 have hc := costP_bd ok h.f0 h1 hp.2
 have d := rd_drop hk
 have a := h.s0
 have b := h.s1
 refine ⟨?_, ?_, ?_, ?_, ?_, ?_, ?_⟩
 ·rw [h.leg, d]
  simp only [legalB]
  rw [decide_eq_true h1, h2, h3]
  rfl
 ·rw [h.tot, d]
  simp only [TotP, Go.DP.totF]
  omega
 ·omega
 ·omega
 ·omega
 ·omega
 ·refine .inr ⟨by omega, ?_⟩
  congr 1
  omega
theorem dem_end {l : List S43} {a1 : Int} {bs : List Int} {f s : Int} (h : DemInv l a1 bs bs.length f s) (hp : 0 < bs.length) (hl : rd bs ((bs.length : Int) - 1) = l.length) (hc : checkP l a1 = 0) : demeritsP l a1 bs = (s, 0) := by
 have h1 := h.leg
 have h2 := h.tot
 have h3 : f = l.length := by
  rcases h.last with h | h
  ·omega
  ·rw [h.2, hl]
 rw [List.drop_length] at h1 h2
 have h4 : legalB l (-1) bs = true := by rw [h1, h3]; simp [legalB]
 unfold demeritsP legalL
 rw [h4, decide_eq_true hp, if_pos ⟨hc, rfl⟩, h2]
 simp [TotP, Go.DP.totF]
theorem dem_bad {l : List S43} {a1 : Int} {bs : List Int} {k : Nat} {f s : Int} (h : DemInv l a1 bs k f s) (hk : k < bs.length) (hbad : rd bs k ≤ f ∨ placeP l (rd bs k) = false ∨ legalP l f (rd bs k) = false) : demeritsP l a1 bs = (0, 1) := by
 have h1 := h.leg
 rw [rd_drop hk] at h1
 have h2 : legalB l (-1) bs = false := by
  rw [h1]
  simp only [legalB]
  rcases hbad with h | h | h
  ·rw [decide_eq_false (by omega)]; rfl
  ·rw [h]; simp
  ·rw [h]; simp
 unfold demeritsP legalL
 rw [h2, if_neg (by simp)]
theorem legalB_last (l : List S43) : ∀ (bs : List Int) (f : Int), 0 < bs.length → legalB l f bs = true → rd bs ((bs.length : Int) - 1) = l.length := by
 intro bs f hp h
 have := ((legalB_iff l bs f).1 h).2
 rw [List.getLast?_eq_getElem?] at this
 unfold rd
 rw [List.getD_eq_getElem?_getD, show ((bs.length : Int) - 1).toNat = bs.length - 1 by omega]
 rw [List.getElem?_eq_getElem (by omega)] at this ⊢
 simpa using this
set_option maxRecDepth 100000 in
set_option maxHeartbeats 8000000 in
theorem best_Demerits.calls (A0 : Option Addr) (c0 : Nat) (l0 : List S43) (a1 : Int) (A2 : Option Addr) (c2 : Nat) (l2 : List Int) (r1 r2 : Int) (w : World) (hr0 : Kd.C k43 w A0 l0.length l0) (hc0 : l0.length ≤ c0) (hr2 : Kd.C (Kd.int .i64) w A2 l2.length l2) (hc2 : l2.length ≤ c2) (h : best_Demerits.f l0 a1 l2 = some (r1, r2)) :
  Calls Try.prog 21 #[.slice A0 l0.length c0, .int .i64 a1, .slice A2 l2.length c2] w fun e w' => e = .returned (.tuple #[.int .i64 r1, .int .i64 r2]) ∧ Below w.heap.size w w' := by
 unfold best_Demerits.f at h
 have hl : l0.length ≤ 1000000 ∧ l2.length ≤ 100000 := by
  by_cases hl : l0.length ≤ 1000000 ∧ l2.length ≤ 100000
  ·exact hl
  ·rw [if_neg hl] at h; cases h
 rw [if_pos hl] at h
 obtain ⟨hl, hl2⟩ := hl
 replace h := Option.some.inj h
 have hb := begin_flow A0 c0 l0 a1 w hl hr0
 have HB := Lib.hid hb
 have hck := fun W (hW : Below w.heap.size w W) => best_Check.calls A0 c0 l0 a1 _ W (Kd.C_below hr0 hW) hc0 rfl
 have HCK := Lib.hid hck
 obtain ⟨S, hS⟩ : ∃ S, sumsTo l0 l0.length = S := ⟨_, rfl⟩
 have hpl := fun a A2 c2 W (hc2 : S.length ≤ c2) (hW : Below w.heap.size w W) (hs : Kd.C k85 W A2 S.length S) => best_flow_place.calls A0 c0 l0 a1 A2 c2 S a _ W (Kd.C_below hr0 hW) hc0 hs hc2 (place_f l0 a1 S a)
 have hlg := fun a b A2 c2 W (hc2 : S.length ≤ c2) (hW : Below w.heap.size w W) (hs : Kd.C k85 W A2 S.length S) => best_flow_legal.calls A0 c0 l0 a1 A2 c2 S a b _ W (Kd.C_below hr0 hW) hc0 hs hc2 (legal_f l0 a1 S a b)
 have hdm := fun a b r A2 c2 W (hc2 : S.length ≤ c2) (hW : Below w.heap.size w W) (hs : Kd.C k85 W A2 S.length S) (hf : best_flow_demerits.f 2 l0 a1 S a b = some r) => best_flow_demerits.calls 2 A0 c0 l0 a1 A2 c2 S a b r W (Kd.C_below hr0 hW) hc0 hs hc2 hf
 rw [hS] at HB
 have HP := Lib.hid hpl
 have HL := Lib.hid hlg
 have HD := Lib.hid hdm
 have HR := Lib.hid hr0
 have HR2 := Lib.hid hr2
 have HC0 := Lib.hid hc0
 have H := Lib.hid h
 have HS := Lib.hid hS
 have hnl : (l0.length : Int) ≤ 1000000 := by omega
 obtain ⟨n, hn⟩ : ∃ n, l2.length = n := ⟨_, rfl⟩
 have hnl2 : (n : Int) ≤ 100000 := by omega
 rw [hn] at hl2 ⊢
 have HN := Lib.hid hn
 clear hb hr0 hc0 h hck hpl hlg hdm hS hr2 hc2 hn
 rcases check_01 l0 a1 with hk | hk
 ·rw [hk] at HCK
  have HK := Lib.hid hk
  clear hk
  by_cases h0 : n = 0
  ·subst h0
   obtain ⟨rfl, rfl⟩ : r1 = 0 ∧ r2 = 1 := by
    have := H.out
    rw [show demeritsP l0 a1 l2 = (0, 1) by unfold demeritsP legalL; rw [if_neg (by rw [HN.out]; simp)]] at this
    simp only [Prod.mk.injEq] at this
    omega
   clear H
   go_enter Try.func21, Try.ntmps21
   go_wp2_with fail
   refine HB.out.mono ?_
   rintro _ w1 ⟨A3, c3, rfl, hs, hc3, hb1⟩
   have hB2 : Below w.heap.size w (w1.alloc (.cells #[.slice A0 l0.length c0, .int .i64 a1, .slice A3 S.length c3] 67)) := below_alloc hb1 _
   have hX2 := blk_new w1 (.cells #[.slice A0 l0.length c0, .int .i64 a1, .slice A3 S.length c3] 67)
   have hS2 := Kd.C_alloc hs (.cells #[.slice A0 l0.length c0, .int .i64 a1, .slice A3 S.length c3] 67)
   go_wp2_with fail
   refine (HCK.out _ hB2).mono ?_
   rintro _ w2 ⟨rfl, hb⟩
   replace hX2 := blk_below hX2 hb
   replace hS2 := Kd.C_below hS2 hb
   replace hB2 := below_step hB2 hb
   have hgB : w.heap.size ≤ w1.heap.size := hb1.size
   clear hs hb hb1
   go_wp2
   go_ret2
   exact ⟨rfl, hB2⟩
  ·have hpos : 0 < (n : Int) := by omega
   have hp1 : 1 ≤ (n : Int) := by omega
   have hn0 : ((n : Int) == 0) = false := beq_eq_false_iff_ne.2 (by omega)
   have hlast : ∀ W, Below w.heap.size w W → ∃ ad, A2 = some ad ∧ W.cell? (ad.add ((n : Int) - 1).toNat) = some (.int .i64 (rd l2 ((n : Int) - 1))) := fun W hW => Kd.at_int (Kd.C_below HR2.out hW) ((n : Int) - 1) (by omega) (by have := HN.out; omega)
   obtain ⟨x, hx⟩ : ∃ x, rd l2 ((n : Int) - 1) = x := ⟨_, rfl⟩
   rw [hx] at hlast
   obtain ⟨ad, rfl, _⟩ := hlast w (Below.refl _ _)
   have HLA : Hid (∀ W, Below w.heap.size w W → W.cell? (ad.add (n - 1)) = some (.int .i64 x)) := Lib.hid fun W hW => by
    obtain ⟨ad', e, hc⟩ := hlast W hW
    cases e
    rw [show ((n : Int) - 1).toNat = n - 1 by omega] at hc
    exact hc
   have HX := Lib.hid hx
   clear hx hlast
   by_cases hxl : x = l0.length
   ·have g1 : (x == (l0.length : Int)) = true := beq_iff_eq.2 hxl
    have g2 : (x != (l0.length : Int)) = false := bne_eq_false_iff_eq.2 hxl
    have HXL := Lib.hid hxl
    clear hxl
    go_enter Try.func21, Try.ntmps21
    go_wp2_with fail
    refine HB.out.mono ?_
    rintro _ w1 ⟨A3, c3, rfl, hs, hc3, hb1⟩
    have hB2 : Below w.heap.size w (w1.alloc (.cells #[.slice A0 l0.length c0, .int .i64 a1, .slice A3 S.length c3] 67)) := below_alloc hb1 _
    have hX2 := blk_new w1 (.cells #[.slice A0 l0.length c0, .int .i64 a1, .slice A3 S.length c3] 67)
    have hS2 := Kd.C_alloc hs (.cells #[.slice A0 l0.length c0, .int .i64 a1, .slice A3 S.length c3] 67)
    go_wp2_with fail
    refine (HCK.out _ hB2).mono ?_
    rintro _ w2 ⟨rfl, hb⟩
    replace hX2 := blk_below hX2 hb
    replace hS2 := Kd.C_below hS2 hb
    replace hB2 := below_step hB2 hb
    have hgB : w.heap.size ≤ w1.heap.size := hb1.size
    clear hs hb hb1
    have hlc := HLA.out _ hB2
    go_wp2_with fail
    clear hlc
    go_loopw [38, 9, 10] (fun v s f wr => ∃ (k : Nat) (sum from_ : Int), DemInv l0 a1 l2 k from_ sum ∧ v = .int .i64 k ∧ s = .int .i64 sum ∧ f = .int .i64 from_ ∧ k ≤ n ∧ wr.heap[w1.heap.size]? = some (.cells #[.slice A0 l0.length c0, .int .i64 a1, .slice A3 S.length c3] 67 (0, 0)) ∧ Kd.C k85 wr A3 S.length S ∧ Below w.heap.size w wr) (fun v _ _ _ => n - (intOf v).toNat)
    case atStart => exact ⟨0, 0, -1, dem_start _ _ _, rfl, rfl, rfl, Nat.zero_le _, hX2, hS2, hB2⟩
    case round =>
     clear hX2 hS2 hB2
     obtain ⟨k, sum, from_, hJ, rfl, rfl, rfl, hk, hX2, hS2, hB2⟩ := hrel
     have j1 := hJ.f0
     have j2 := hJ.f1
     have j3 := hJ.s0
     have j4 := hJ.s1
     have HJ := Lib.hid hJ
     clear hJ
     by_cases hlt : k < n
     ·have hlt1 : (k : Int) < (n : Int) := by omega
      have hkl : k < l2.length := by have := HN.out; omega
      obtain ⟨ad', e1, q0⟩ := Kd.at_int (Kd.C_below HR2.out hB2) k (by omega) (by omega)
      cases e1
      simp only [Int.toNat_natCast] at q0
      obtain ⟨b, hb0⟩ : ∃ b, rd l2 (k : Int) = b := ⟨_, rfl⟩
      rw [hb0] at q0
      have HBB := Lib.hid hb0
      clear hb0
      by_cases h1 : b ≤ from_
      ·obtain ⟨rfl, rfl⟩ : r1 = 0 ∧ r2 = 1 := by
        have := H.out
        rw [dem_bad HJ.out hkl (.inl (by rw [HBB.out]; exact h1))] at this
        simp only [Prod.mk.injEq] at this
        omega
       clear H
       go_wp2
       go_ret2
       exact ⟨rfl, hB2⟩
      ·have h1' : from_ < b := by omega
       obtain ⟨b2, e2⟩ : ∃ x, placeP l0 b = x := ⟨_, rfl⟩
       obtain ⟨b3, e3⟩ : ∃ x, legalP l0 from_ b = x := ⟨_, rfl⟩
       have hp2 := HP.out b
       have hp3 := HL.out from_ b
       rw [e2] at hp2
       rw [e3] at hp3
       have HP2 := Lib.hid hp2
       have HP3 := Lib.hid hp3
       have E2 := Lib.hid e2
       have E3 := Lib.hid e3
       clear hp2 hp3 e2 e3 hkl
       cases b2
       ·obtain ⟨rfl, rfl⟩ : r1 = 0 ∧ r2 = 1 := by
         have := H.out
         rw [dem_bad HJ.out (by have := HN.out; omega) (.inr (.inl (by rw [HBB.out]; exact E2.out)))] at this
         simp only [Prod.mk.injEq] at this
         omega
        clear H
        obtain ⟨x0, x1, x2⟩ := flow_cells hX2
        have HX2 := Lib.hid hX2
        clear hX2
        go_wp2_with fail
        refine (HP2.out A3 c3 _ hc3 hB2 hS2).mono ?_
        rintro _ w3 ⟨rfl, hb⟩
        clear x0 x1 x2
        have hX2 := blk_below HX2.out hb
        replace hS2 := Kd.C_below hS2 hb
        replace hB2 := below_step hB2 hb
        clear hb HX2
        go_wp2
        go_ret2
        exact ⟨rfl, hB2⟩
       ·cases b3
        ·obtain ⟨rfl, rfl⟩ : r1 = 0 ∧ r2 = 1 := by
          have := H.out
          rw [dem_bad HJ.out (by have := HN.out; omega) (.inr (.inr (by rw [HBB.out]; exact E3.out)))] at this
          simp only [Prod.mk.injEq] at this
          omega
         clear H
         obtain ⟨x0, x1, x2⟩ := flow_cells hX2
         have HX2 := Lib.hid hX2
         clear hX2
         go_wp2_with fail
         refine (HP2.out A3 c3 _ hc3 hB2 hS2).mono ?_
         rintro _ w3 ⟨rfl, hb⟩
         clear x0 x1 x2
         have hX2 := blk_below HX2.out hb
         replace hS2 := Kd.C_below hS2 hb
         replace hB2 := below_step hB2 hb
         clear hb HX2
         obtain ⟨x0, x1, x2⟩ := flow_cells hX2
         have HX2 := Lib.hid hX2
         clear hX2
         go_wp2_with fail
         refine (HP3.out A3 c3 _ hc3 hB2 hS2).mono ?_
         rintro _ w4 ⟨rfl, hb⟩
         clear x0 x1 x2
         have hX2 := blk_below HX2.out hb
         replace hS2 := Kd.C_below hS2 hb
         replace hB2 := below_step hB2 hb
         clear hb HX2
         go_wp2
         go_ret2
         exact ⟨rfl, hB2⟩
        ·have hp := place_le E2.out
         have ok := check_ok HK.out
         have hcb := costP_bd ok j1 h1' hp.2
         have hcost := demerits_spec ok j1 h1' hp.2 0
         have hnx := dem_next ok HJ.out (by have := HN.out; omega) (by rw [HBB.out]; exact h1') (by rw [HBB.out]; exact E2.out) (by rw [HBB.out]; exact E3.out)
         rw [HBB.out] at hnx
         rw [HS.out] at hcost
         generalize costP l0 a1 from_ b = cc at *
         have HNX := Lib.hid hnx
         have HCO := Lib.hid hcost
         clear hnx hcost ok
         obtain ⟨x0, x1, x2⟩ := flow_cells hX2
         have HX2 := Lib.hid hX2
         clear hX2
         go_wp2_with fail
         refine (HP2.out A3 c3 _ hc3 hB2 hS2).mono ?_
         rintro _ w3 ⟨rfl, hb⟩
         clear x0 x1 x2
         have hX2 := blk_below HX2.out hb
         replace hS2 := Kd.C_below hS2 hb
         replace hB2 := below_step hB2 hb
         clear hb HX2
         obtain ⟨x0, x1, x2⟩ := flow_cells hX2
         have HX2 := Lib.hid hX2
         clear hX2
         go_wp2_with fail
         refine (HP3.out A3 c3 _ hc3 hB2 hS2).mono ?_
         rintro _ w4 ⟨rfl, hb⟩
         clear x0 x1 x2
         have hX2 := blk_below HX2.out hb
         replace hS2 := Kd.C_below hS2 hb
         replace hB2 := below_step hB2 hb
         clear hb HX2
         obtain ⟨x0, x1, x2⟩ := flow_cells hX2
         have HX2 := Lib.hid hX2
         clear hX2
         go_wp2_with fail
         refine (HD.out _ _ _ A3 c3 _ hc3 hB2 hS2 HCO.out).mono ?_
         rintro _ w5 ⟨rfl, hb⟩
         clear x0 x1 x2
         have hX2 := blk_below HX2.out hb
         replace hS2 := Kd.C_below hS2 hb
         replace hB2 := below_step hB2 hb
         clear hb HX2
         go_wp2
         go_roundw
         case rel => exact ⟨k + 1, sum + cc, b, HNX.out, by go_num, rfl, rfl, by omega, hX2, hS2, hB2⟩
         case measure => simp [intOf]; omega
     ·obtain rfl : k = n := by omega
      have hlt1 : ¬ (k : Int) < (k : Int) := by omega
      obtain ⟨rfl, rfl⟩ : r1 = sum ∧ r2 = 0 := by
       have h5 := HJ.out
       have h6 := HX.out
       rw [← HN.out] at h5 h6
       have := dem_end h5 (by have := HN.out; omega) (by rw [h6]; exact HXL.out) HK.out
       rw [H.out] at this
       simpa using this
      go_wp2
      go_ret2
      exact ⟨rfl, hB2⟩
   ·have g1 : (x == (l0.length : Int)) = false := beq_eq_false_iff_ne.2 hxl
    have g2 : (x != (l0.length : Int)) = true := bne_iff_ne.2 hxl
    have HXL := Lib.hid hxl
    clear hxl
    obtain ⟨rfl, rfl⟩ : r1 = 0 ∧ r2 = 1 := by
     have := H.out
     rw [show demeritsP l0 a1 l2 = (0, 1) by
      unfold demeritsP legalL
      rw [if_neg]
      rintro ⟨_, h⟩
      simp only [Bool.and_eq_true, decide_eq_true_eq] at h
      have := legalB_last l0 l2 _ h.1 h.2
      rw [HN.out, HX.out] at this
      exact HXL.out this] at this
     simp only [Prod.mk.injEq] at this
     omega
    clear H
    go_enter Try.func21, Try.ntmps21
    go_wp2_with fail
    refine HB.out.mono ?_
    rintro _ w1 ⟨A3, c3, rfl, hs, hc3, hb1⟩
    have hB2 : Below w.heap.size w (w1.alloc (.cells #[.slice A0 l0.length c0, .int .i64 a1, .slice A3 S.length c3] 67)) := below_alloc hb1 _
    have hX2 := blk_new w1 (.cells #[.slice A0 l0.length c0, .int .i64 a1, .slice A3 S.length c3] 67)
    have hS2 := Kd.C_alloc hs (.cells #[.slice A0 l0.length c0, .int .i64 a1, .slice A3 S.length c3] 67)
    go_wp2_with fail
    refine (HCK.out _ hB2).mono ?_
    rintro _ w2 ⟨rfl, hb⟩
    replace hX2 := blk_below hX2 hb
    replace hS2 := Kd.C_below hS2 hb
    replace hB2 := below_step hB2 hb
    have hgB : w.heap.size ≤ w1.heap.size := hb1.size
    clear hs hb hb1
    have hlc := HLA.out _ hB2
    go_wp2
    go_ret2
    exact ⟨rfl, hB2⟩
 ·rw [hk] at HCK
  obtain ⟨rfl, rfl⟩ : r1 = 0 ∧ r2 = 1 := by
   have := H.out
   rw [show demeritsP l0 a1 l2 = (0, 1) by unfold demeritsP; rw [if_neg (by rw [hk]; rintro ⟨h, _⟩; cases h)]] at this
   simp only [Prod.mk.injEq] at this
   omega
  clear H hk
  go_enter Try.func21, Try.ntmps21
  go_wp2_with fail
  refine HB.out.mono ?_
  rintro _ w1 ⟨A3, c3, rfl, hs, hc3, hb1⟩
  have hB2 : Below w.heap.size w (w1.alloc (.cells #[.slice A0 l0.length c0, .int .i64 a1, .slice A3 S.length c3] 67)) := below_alloc hb1 _
  have hX2 := blk_new w1 (.cells #[.slice A0 l0.length c0, .int .i64 a1, .slice A3 S.length c3] 67)
  have hS2 := Kd.C_alloc hs (.cells #[.slice A0 l0.length c0, .int .i64 a1, .slice A3 S.length c3] 67)
  go_wp2_with fail
  refine (HCK.out _ hB2).mono ?_
  rintro _ w2 ⟨rfl, hb⟩
  replace hX2 := blk_below hX2 hb
  replace hS2 := Kd.C_below hS2 hb
  replace hB2 := below_step hB2 hb
  have hgB : w.heap.size ≤ w1.heap.size := hb1.size
  clear hs hb hb1
  go_wp2
  go_ret2
  exact ⟨rfl, hB2⟩
end Go.Proofs.Ytbddfnmhhmkfkaa.Pr
