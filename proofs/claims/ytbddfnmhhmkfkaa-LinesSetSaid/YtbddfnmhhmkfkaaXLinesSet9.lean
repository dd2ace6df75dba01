/- Texts of this seat, one behind the other. -/
import Derived.Lib.Hide
import Derived.Test.YtbddfnmhhmkfkaaXLinesSet1
import Derived.Test.YtbddfnmhhmkfkaaXLinesSet2
import Derived.Test.YtbddfnmhhmkfkaaXLinesSet3
import Derived.Test.YtbddfnmhhmkfkaaXLinesSet4
import Derived.Test.YtbddfnmhhmkfkaaXLinesSet5
import Derived.Test.YtbddfnmhhmkfkaaXLinesSet6
import Derived.Test.YtbddfnmhhmkfkaaXLinesSet7
import Derived.Test.YtbddfnmhhmkfkaaXLinesSet8
set_option linter.unusedVariables false
set_option linter.unusedSimpArgs false
namespace Go.Proofs.Ytbddfnmhhmkfkaa.Pr
open Go.RowKit Go.Proofs.YtbddfnmhhmkfkaaW.PrintWords Go.Proofs.YtbddfnmhhmkfkaaW.PrintLast Go.Proofs.YtbddfnmhhmkfkaaW.PrintMore
attribute [local go_sem] max2_int min2_int max_two min_two max_three min_three max_four min_four
mutual
def stylusref20_Shows.j0 : Nat → List (S101) → Bool → Int → Int → Int → Int → Int → Option (Int)
 | 0, _, _, _, _, _, _, _ => none
 | k + 1, x0, x18, x511000, x511001, x511002, x511003, x511004 => if x18 = true then (some 0) else (if 0 ≤ x511004 then (if x511004 < (x0.length : Int) then (if x511000 = 4 then (if ((rd_T101 x0 x511004).f0) = 2 then (stylusref20_Shows.j1 k (((rd_T101 x0 x511004).f1) == 110)) else (stylusref20_Shows.j1 k false)) else (if ((rd_T101 x0 x511004).f0) = 1 then (some ((rd_T101 x0 x511004).f1)) else (some 0))) else (none)) else (none))
def stylusref20_Shows.j1 : Nat → Bool → Option (Int)
 | 0, _ => none
 | k + 1, x34 => if x34 = true then (some 42) else (some 0)
end
def stylusref20_Shows.f (k : Nat) (l0 : List (S101)) (a1_0 : Int) (a1_1 : Int) (a1_2 : Int) (a1_3 : Int) (a1_4 : Int) : Option (Int) := if a1_0 = 3 then (some 45) else (if a1_4 < 0 then (stylusref20_Shows.j0 k l0 true a1_0 a1_1 a1_2 a1_3 a1_4) else (stylusref20_Shows.j0 k l0 (decide (a1_4 ≥ (l0.length : Int))) a1_0 a1_1 a1_2 a1_3 a1_4))
theorem stylusref20_Shows.mono_l : ∀ k, (∀ y0 y1 y2 y3 y4 y5 y6, LeO (stylusref20_Shows.j0 k y0 y1 y2 y3 y4 y5 y6) (stylusref20_Shows.j0 (k + 1) y0 y1 y2 y3 y4 y5 y6)) ∧ (∀ y0, LeO (stylusref20_Shows.j1 k y0) (stylusref20_Shows.j1 (k + 1) y0))
 | 0 => ⟨fun _ _ _ _ _ _ _ r h => by simp [stylusref20_Shows.j0] at h, fun _ r h => by simp [stylusref20_Shows.j1] at h⟩
 | k + 1 => by
  obtain ⟨ih0, ih1⟩ := stylusref20_Shows.mono_l k
  refine ⟨?_, ?_⟩
  ·intro y0 y1 y2 y3 y4 y5 y6
   unfold stylusref20_Shows.j0
   repeat' first
   | (with_reducible exact ih0 _ _ _ _ _ _ _)
   | (with_reducible exact ih1 _)
   | (with_reducible exact LeO.refl _)
   | (with_reducible exact LeO.none _)
   | (with_reducible refine LeO.ite ?_ ?_)
   | (with_reducible refine LeO.bind ?_ (fun _ => ?_))
   | exact LeO.none _
   | refine LeO.ite ?_ ?_
   | refine LeO.bind ?_ (fun _ => ?_)
  ·intro y0
   unfold stylusref20_Shows.j1
   repeat' first
   | (with_reducible exact ih0 _ _ _ _ _ _ _)
   | (with_reducible exact ih1 _)
   | (with_reducible exact LeO.refl _)
   | (with_reducible exact LeO.none _)
   | (with_reducible refine LeO.ite ?_ ?_)
   | (with_reducible refine LeO.bind ?_ (fun _ => ?_))
   | exact LeO.none _
   | refine LeO.ite ?_ ?_
   | refine LeO.bind ?_ (fun _ => ?_)
theorem stylusref20_Shows.mono : ∀ a0 a1 a2 a3 a4 a5 k, LeO (stylusref20_Shows.f k a0 a1 a2 a3 a4 a5) (stylusref20_Shows.f (k + 1) a0 a1 a2 a3 a4 a5) := by
 intro a0 a1 a2 a3 a4 a5 k
 obtain ⟨ih0, ih1⟩ := stylusref20_Shows.mono_l k
 unfold stylusref20_Shows.f
 repeat' first
   | (with_reducible exact ih0 _ _ _ _ _ _ _)
   | (with_reducible exact ih1 _)
   | (with_reducible exact LeO.refl _)
   | (with_reducible exact LeO.none _)
   | (with_reducible refine LeO.ite ?_ ?_)
   | (with_reducible refine LeO.bind ?_ (fun _ => ?_))
   | exact ih0 _ _ _ _ _ _ _
   | exact ih1 _
   | exact LeO.none _
   | refine LeO.ite ?_ ?_
   | refine LeO.bind ?_ (fun _ => ?_)
set_option maxHeartbeats 8000000 in
set_option maxRecDepth 100000 in
theorem stylusref20_Shows.calls (k : Nat) (A0 : Option Addr) (c0 : Nat) (l0 : List (S101)) (a1_0 : Int) (a1_1 : Int) (a1_2 : Int) (a1_3 : Int) (a1_4 : Int) (r : Int) (w : World) (hr0 : Kd.C k101 w A0 l0.length l0) (hc0 : l0.length ≤ c0) (h : stylusref20_Shows.f k l0 a1_0 a1_1 a1_2 a1_3 a1_4 = some r) :
  Calls Try.prog 89 #[.slice A0 l0.length c0, .agg #[.int .i64 a1_0, .int .i64 a1_1, .int .i64 a1_2, .int .i64 a1_3, .int .i64 a1_4]] w fun e w' => e = .returned (.int .u8 r) ∧ Below w.heap.size w w' := by
 have hu43 := Try.underlying43
 have hu101 := Try.underlying101
 have HR0 := Aside0.mk hr0
 have HC0 := Aside0.mk hc0
 clear hr0 hc0
 have HB := Aside0.mk (Below.refl w.heap.size w)
 have H : (if a1_0 = 3 then (some 45) else (if a1_4 < 0 then (stylusref20_Shows.j0 k l0 true a1_0 a1_1 a1_2 a1_3 a1_4) else (stylusref20_Shows.j0 k l0 (decide (a1_4 ≥ (l0.length : Int))) a1_0 a1_1 a1_2 a1_3 a1_4))) = some r := h
 clear h
 by_cases c3 : a1_0 = 3
 ·rw [if_pos c3] at H
  have c3b0 : (a1_0 == 3) = true := beq_iff_eq.mpr c3
  have c3b1 : (a1_0 != 3) = false := bne_eq_false_iff_eq.mpr c3
  clear c3
  obtain rfl := Option.some.inj H
  go_enter Try.func89, Try.ntmps89
  go_wp2_with (first | ((with_reducible refine gate_dst (N := 3) rfl ?_); (try (refine gate_guard (by rfl) ?_; dsimp only)); refine box_event ?hg (N := 3) ?hd (cs := #[.int .i64 a1_0, .int .i64 a1_1, .int .i64 a1_2, .int .i64 a1_3, .int .i64 a1_4]) (t := 43) ?hr ?_; (case hd => rfl); (case hg => rfl); (case hr => first | (go_simp; done) | (go_simp; rfl)); intro gb510 hg w4 hbox hb; have n0_ := Aside0.mk (below_step (by repeat (with_reducible first | exact HB.out | apply below_alloc | apply pw_below_drewN | apply below_drew1)) hb); have n1_ := Aside0.mk (hbox); have n2_ := Aside0.mk ((by rw [hg]; exact (below_size (by repeat (with_reducible first | exact HB.out | apply below_alloc | apply pw_below_drewN | apply below_drew1))) : w.heap.size ≤ gb510)); have n3_ := n2_; clear HB; have HB := n0_; have BK510 := n1_; have GW510 := n2_; have GE510 := n3_; clear n0_ n1_ n2_ n3_; clear hb hbox hg; obtain ⟨hcz5_0, hcz5_1, hcz5_2, hcz5_3, hcz5_4, hfz5_0, hfz5_1, hfz5_2, hfz5_3, hfz5_4⟩ := blks5 BK510.out))
  go_ret
  exact ⟨by first | rfl | (simp [errW_none, errW_some] <;> rfl) | (simp [*, errW_none, errW_some] <;> rfl), by repeat (with_reducible first | exact HB.out | apply below_alloc | apply pw_below_drewN | apply below_drew1 | refine below_set ?_ GE510.out)⟩
 ·rw [if_neg c3] at H
  have c3b0 : (a1_0 == 3) = false := beq_eq_false_iff_ne.mpr c3
  have c3b1 : (a1_0 != 3) = true := bne_iff_ne.mpr c3
  have HC6 := Aside0.mk H
  clear H
  go_enter Try.func89, Try.ntmps89
  go_upto_region 3 with (first | ((with_reducible refine gate_dst (N := 3) rfl ?_); (try (refine gate_guard (by rfl) ?_; dsimp only)); refine box_event ?hg (N := 3) ?hd (cs := #[.int .i64 a1_0, .int .i64 a1_1, .int .i64 a1_2, .int .i64 a1_3, .int .i64 a1_4]) (t := 43) ?hr ?_; (case hd => rfl); (case hg => rfl); (case hr => first | (go_simp; done) | (go_simp; rfl)); intro gb510 hg w7 hbox hb; have n0_ := Aside0.mk (below_step (by repeat (with_reducible first | exact HB.out | apply below_alloc | apply pw_below_drewN | apply below_drew1)) hb); have n1_ := Aside0.mk (hbox); have n2_ := Aside0.mk ((by rw [hg]; exact (below_size (by repeat (with_reducible first | exact HB.out | apply below_alloc | apply pw_below_drewN | apply below_drew1))) : w.heap.size ≤ gb510)); have n3_ := n2_; clear HB; have HB := n0_; have BK510 := n1_; have GW510 := n2_; have GE510 := n3_; clear n0_ n1_ n2_ n3_; clear hb hbox hg; obtain ⟨hcz8_0, hcz8_1, hcz8_2, hcz8_3, hcz8_4, hfz8_0, hfz8_1, hfz8_2, hfz8_3, hfz8_4⟩ := blks5 BK510.out))
  (try simp only [Act.put, List.setIfInBounds_toArray, List.set_cons_zero, List.set_cons_succ])
  go_cut [18] (fun v18 wc => ∃ (kq : Nat) (x18_5 : Bool), v18 = .bool x18_5 ∧ Aside0 (stylusref20_Shows.j0 kq l0 x18_5 a1_0 a1_1 a1_2 a1_3 a1_4 = some r) ∧ Aside0 (kq ≤ k) ∧ Aside0 (wc.heap[gb510]? = some (.cells #[.int .i64 a1_0, .int .i64 a1_1, .int .i64 a1_2, .int .i64 a1_3, .int .i64 a1_4] 43 (0, 0))) ∧ Aside0 (Below w.heap.size w wc))
  case first =>
   have H := HC6.out
   clear HC6
   by_cases c9 : a1_4 < 0
   ·rw [if_pos c9] at H
    have c9b0 : decide (a1_4 < 0) = true := decide_eq_true c9
    clear c9
    (first | rw [c9b0] | (simp only [i64_w, i32_w]; rw [c9b0]) | skip)
    have H' := Aside0.mk H
    clear H
    have hcz10_0 : w7.cell? ⟨gb510, 0, none⟩ = some (.int .i64 a1_0) := (blk_cell BK510.out 0).trans rfl
    have hcz10_1 : w7.cell? ⟨gb510, 1, none⟩ = some (.int .i64 a1_1) := (blk_cell BK510.out 1).trans rfl
    have hcz10_2 : w7.cell? ⟨gb510, 2, none⟩ = some (.int .i64 a1_2) := (blk_cell BK510.out 2).trans rfl
    have hcz10_3 : w7.cell? ⟨gb510, 3, none⟩ = some (.int .i64 a1_3) := (blk_cell BK510.out 3).trans rfl
    have hcz10_4 : w7.cell? ⟨gb510, 4, none⟩ = some (.int .i64 a1_4) := (blk_cell BK510.out 4).trans rfl
    have hfz10_0 := blk_frozen BK510.out 0
    have hfz10_1 := blk_frozen BK510.out 1
    have hfz10_2 := blk_frozen BK510.out 2
    have hfz10_3 := blk_frozen BK510.out 3
    have hfz10_4 := blk_frozen BK510.out 4
    go_wp2
    go_meet
    case rel => exact ⟨_, (true), (by first | rfl | (simp; done) | (simp [*]; done)), H', ⟨by first | omega | exact Nat.le_refl _⟩, ⟨by (with_reducible repeat (first | refine blk_drewN ?_ _ | refine blk_drew ?_ | refine blk_alloc ?_ _)); exact BK510.out⟩, ⟨by repeat (with_reducible first | exact HB.out | apply below_alloc | apply pw_below_drewN | apply below_drew1 | refine below_set ?_ GE510.out)⟩⟩
   ·rw [if_neg c9] at H
    have c9b0 : decide (a1_4 < 0) = false := decide_eq_false c9
    clear c9
    (first | rw [c9b0] | (simp only [i64_w, i32_w]; rw [c9b0]) | skip)
    have H' := Aside0.mk H
    clear H
    have hcz11_0 : w7.cell? ⟨gb510, 0, none⟩ = some (.int .i64 a1_0) := (blk_cell BK510.out 0).trans rfl
    have hcz11_1 : w7.cell? ⟨gb510, 1, none⟩ = some (.int .i64 a1_1) := (blk_cell BK510.out 1).trans rfl
    have hcz11_2 : w7.cell? ⟨gb510, 2, none⟩ = some (.int .i64 a1_2) := (blk_cell BK510.out 2).trans rfl
    have hcz11_3 : w7.cell? ⟨gb510, 3, none⟩ = some (.int .i64 a1_3) := (blk_cell BK510.out 3).trans rfl
    have hcz11_4 : w7.cell? ⟨gb510, 4, none⟩ = some (.int .i64 a1_4) := (blk_cell BK510.out 4).trans rfl
    have hfz11_0 := blk_frozen BK510.out 0
    have hfz11_1 := blk_frozen BK510.out 1
    have hfz11_2 := blk_frozen BK510.out 2
    have hfz11_3 := blk_frozen BK510.out 3
    have hfz11_4 := blk_frozen BK510.out 4
    go_wp2
    go_meet
    case rel => exact ⟨_, (decide (a1_4 ≥ (l0.length : Int))), (by first | rfl | (simp; done) | (simp [*]; done)), H', ⟨by first | omega | exact Nat.le_refl _⟩, ⟨by (with_reducible repeat (first | refine blk_drewN ?_ _ | refine blk_drew ?_ | refine blk_alloc ?_ _)); exact BK510.out⟩, ⟨by repeat (with_reducible first | exact HB.out | apply below_alloc | apply pw_below_drewN | apply below_drew1 | refine below_set ?_ GE510.out)⟩⟩
  case rest =>
   clear HC6
   try clear p2
   try clear c3
   try clear c3b0
   try clear c3b1
   try clear c8
   try clear c9
   try clear c9b0
   try clear hcz10_0
   try clear hcz10_1
   try clear hcz10_2
   try clear hcz10_3
   try clear hcz10_4
   try clear hcz11_0
   try clear hcz11_1
   try clear hcz11_2
   try clear hcz11_3
   try clear hcz11_4
   try clear hcz5_0
   try clear hcz5_1
   try clear hcz5_2
   try clear hcz5_3
   try clear hcz5_4
   try clear hcz8_0
   try clear hcz8_1
   try clear hcz8_2
   try clear hcz8_3
   try clear hcz8_4
   try clear hfz10_0
   try clear hfz10_1
   try clear hfz10_2
   try clear hfz10_3
   try clear hfz10_4
   try clear hfz11_0
   try clear hfz11_1
   try clear hfz11_2
   try clear hfz11_3
   try clear hfz11_4
   try clear hfz5_0
   try clear hfz5_1
   try clear hfz5_2
   try clear hfz5_3
   try clear hfz5_4
   try clear hfz8_0
   try clear hfz8_1
   try clear hfz8_2
   try clear hfz8_3
   try clear hfz8_4
   obtain ⟨kq, x18_5, rfl, HA, HJ5, BK510, HB⟩ := hcut
   cases kq with
   | zero => exact absurd HA.out (by simp [stylusref20_Shows.j0])
   | succ kj5 =>
    have H := HA.out
    clear HA
    simp only [stylusref20_Shows.j0] at H
    by_cases c12 : x18_5 = true
    ·subst c12
     rw [if_pos rfl] at H
     obtain rfl := Option.some.inj H
     go_wp2
     go_ret
     exact ⟨by first | rfl | (simp [errW_none, errW_some] <;> rfl) | (simp [*, errW_none, errW_some] <;> rfl), by repeat (with_reducible first | exact HB.out | apply below_alloc | apply pw_below_drewN | apply below_drew1 | refine below_set ?_ GE510.out)⟩
    ·replace c12 := Bool.eq_false_iff.mpr c12
     subst c12
     rw [if_neg (show ¬ (false = true) by decide)] at H
     by_cases c13 : 0 ≤ a1_4
     ·rw [if_pos c13] at H
      have c13b0 : decide (0 ≤ a1_4) = true := decide_eq_true c13
      clear c13
      by_cases c14 : a1_4 < (l0.length : Int)
      ·rw [if_pos c14] at H
       have c14b0 : decide (a1_4 < (l0.length : Int)) = true := decide_eq_true c14
       clear c14
       by_cases c15 : a1_0 = 4
       ·rw [if_pos c15] at H
        have c15b0 : (a1_0 == 4) = true := beq_iff_eq.mpr c15
        have c15b1 : (a1_0 != 4) = false := bne_eq_false_iff_eq.mpr c15
        clear c15
        have HC16 := Aside0.mk H
        clear H
        have hcz17_0 : wc.cell? ⟨gb510, 0, none⟩ = some (.int .i64 a1_0) := (blk_cell BK510.out 0).trans rfl
        have hcz17_1 : wc.cell? ⟨gb510, 1, none⟩ = some (.int .i64 a1_1) := (blk_cell BK510.out 1).trans rfl
        have hcz17_2 : wc.cell? ⟨gb510, 2, none⟩ = some (.int .i64 a1_2) := (blk_cell BK510.out 2).trans rfl
        have hcz17_3 : wc.cell? ⟨gb510, 3, none⟩ = some (.int .i64 a1_3) := (blk_cell BK510.out 3).trans rfl
        have hcz17_4 : wc.cell? ⟨gb510, 4, none⟩ = some (.int .i64 a1_4) := (blk_cell BK510.out 4).trans rfl
        have hfz17_0 := blk_frozen BK510.out 0
        have hfz17_1 := blk_frozen BK510.out 1
        have hfz17_2 := blk_frozen BK510.out 2
        have hfz17_3 := blk_frozen BK510.out 3
        have hfz17_4 := blk_frozen BK510.out 4
        have p511 : 0 ≤ (a1_4 : Int) := of_decide_eq_true (by first | (with_reducible assumption) | assumption)
        have q511 : a1_4 < (l0.length : Int) := of_decide_eq_true (by first | (with_reducible assumption) | assumption)
        obtain ⟨ad511, e511, hx511_0, hx511_1, hx511_2⟩ := at_T101 HR0.out a1_4 p511 q511
        cases e511
        replace hx511_0 := (HB.out.cell (World.block_lt_of_cell? w _ hx511_0)).trans hx511_0
        replace hx511_1 := (HB.out.cell (World.block_lt_of_cell? w _ hx511_1)).trans hx511_1
        replace hx511_2 := (HB.out.cell (World.block_lt_of_cell? w _ hx511_2)).trans hx511_2
        replace p511 := eq_true p511
        replace q511 := eq_true q511
        go_upto_region 7 with (first | ((with_reducible refine gate_dst (N := 5) rfl ?_); (try (refine gate_guard (by rfl) ?_; dsimp only)); refine box_event ?hg (N := 5) ?hd (cs := #[.int .i64 0, .int .u8 0, .int .i64 0]) (t := 101) ?hr ?_; (case hd => rfl); (case hg => rfl); (case hr => first | (go_simp; done) | (go_simp; rfl)); intro gb512 hg w18 hbox hb; have n0_ := Aside0.mk (blk_below (g := gb510) (o := .cells #[.int .i64 a1_0, .int .i64 a1_1, .int .i64 a1_2, .int .i64 a1_3, .int .i64 a1_4] 43 (0, 0)) (by (with_reducible repeat (first | refine blk_drewN ?_ _ | refine blk_drew ?_ | refine blk_alloc ?_ _)); exact BK510.out) hb); have n1_ := Aside0.mk (below_step (by repeat (with_reducible first | exact HB.out | apply below_alloc | apply pw_below_drewN | apply below_drew1 | refine below_set ?_ GE510.out)) hb); have n2_ := Aside0.mk (hbox); have n3_ := Aside0.mk ((by rw [hg]; exact (below_size (by repeat (with_reducible first | exact HB.out | apply below_alloc | apply pw_below_drewN | apply below_drew1 | refine below_set ?_ GE510.out))) : w.heap.size ≤ gb512)); have n4_ := n3_; have n5_ := Aside0.mk ((by rw [hg]; exact Nat.ne_of_lt (blk_lt (g := gb510) (o := .cells #[.int .i64 a1_0, .int .i64 a1_1, .int .i64 a1_2, .int .i64 a1_3, .int .i64 a1_4] 43 (0, 0)) (by (with_reducible repeat (first | refine blk_drewN ?_ _ | refine blk_drew ?_ | refine blk_alloc ?_ _)); exact BK510.out)) : gb510 ≠ gb512)); have n6_ := Aside0.mk ((by rw [hg]; exact Nat.ne_of_gt (blk_lt (g := gb510) (o := .cells #[.int .i64 a1_0, .int .i64 a1_1, .int .i64 a1_2, .int .i64 a1_3, .int .i64 a1_4] 43 (0, 0)) (by (with_reducible repeat (first | refine blk_drewN ?_ _ | refine blk_drew ?_ | refine blk_alloc ?_ _)); exact BK510.out)) : gb512 ≠ gb510)); clear BK510; clear HB; have BK510 := n0_; have HB := n1_; have BK512 := n2_; have GW512 := n3_; have GE512 := n4_; have NB510_512 := n5_; have NB512_510 := n6_; clear n0_ n1_ n2_ n3_ n4_ n5_ n6_; clear hb hbox hg; have hnb19 := NB512_510.out; have hnc19 := NB510_512.out; obtain ⟨hcz20_0, hcz20_1, hcz20_2, hfz20_0, hfz20_1, hfz20_2⟩ := blks3 BK512.out; obtain ⟨hcz21_0, hcz21_1, hcz21_2, hcz21_3, hcz21_4, hfz21_0, hfz21_1, hfz21_2, hfz21_3, hfz21_4⟩ := blks5 BK510.out))
        (try simp only [Act.put, List.setIfInBounds_toArray, List.set_cons_zero, List.set_cons_succ])
        go_cut [34] (fun v34 wc => ∃ (kq : Nat) (x34_15 : Bool), v34 = .bool x34_15 ∧ Aside0 (stylusref20_Shows.j1 kq x34_15 = some r) ∧ Aside0 (kq ≤ kj5) ∧ Aside0 (wc.heap[gb510]? = some (.cells #[.int .i64 a1_0, .int .i64 a1_1, .int .i64 a1_2, .int .i64 a1_3, .int .i64 a1_4] 43 (0, 0))) ∧ Aside0 (wc.heap[gb512]? = some (.cells #[.int .i64 ((rd_T101 l0 a1_4).f0), .int .u8 ((rd_T101 l0 a1_4).f1), .int .i64 ((rd_T101 l0 a1_4).f2)] 101 (0, 0))) ∧ Aside0 (Below w.heap.size w wc))
        case first =>
         have H := HC16.out
         clear HC16
         by_cases c22 : ((rd_T101 l0 a1_4).f0) = 2
         ·rw [if_pos c22] at H
          have c22b0 : (((rd_T101 l0 a1_4).f0) == 2) = true := beq_iff_eq.mpr c22
          have c22b1 : (((rd_T101 l0 a1_4).f0) != 2) = false := bne_eq_false_iff_eq.mpr c22
          clear c22
          (first | rw [c22b0] | (simp only [i64_w, i32_w]; rw [c22b0]) | skip)
          have H' := Aside0.mk H
          clear H
          have hnb23 := NB512_510.out
          have hnc23 := NB510_512.out
          have hcz24_0 : w18.cell? ⟨gb512, 0, none⟩ = some (.int .i64 0) := (blk_cell BK512.out 0).trans rfl
          have hcz24_1 : w18.cell? ⟨gb512, 1, none⟩ = some (.int .u8 0) := (blk_cell BK512.out 1).trans rfl
          have hcz24_2 : w18.cell? ⟨gb512, 2, none⟩ = some (.int .i64 0) := (blk_cell BK512.out 2).trans rfl
          have hfz24_0 := blk_frozen BK512.out 0
          have hfz24_1 := blk_frozen BK512.out 1
          have hfz24_2 := blk_frozen BK512.out 2
          go_wp2
          go_meet
          case rel => exact ⟨_, ((((rd_T101 l0 a1_4).f1) == 110)), (by first | rfl | (simp; done) | (simp [*]; done)), H', ⟨by have := HJ5.out; first | omega | exact Nat.le_refl _⟩, ⟨by (with_reducible repeat (first | refine blk_drewN ?_ _ | refine blk_drew ?_ | refine blk_alloc ?_ _)); refine blk_far ?_ NB510_512.out _; (with_reducible repeat (first | refine blk_drewN ?_ _ | refine blk_drew ?_ | refine blk_alloc ?_ _)); refine blk_far ?_ NB510_512.out _; (with_reducible repeat (first | refine blk_drewN ?_ _ | refine blk_drew ?_ | refine blk_alloc ?_ _)); refine blk_far ?_ NB510_512.out _; (with_reducible repeat (first | refine blk_drewN ?_ _ | refine blk_drew ?_ | refine blk_alloc ?_ _)); exact BK510.out⟩, ⟨by (with_reducible repeat (first | refine blk_drewN ?_ _ | refine blk_drew ?_ | refine blk_alloc ?_ _)); refine blk_put (cs := #[.int .i64 ((rd_T101 l0 a1_4).f0), .int .u8 ((rd_T101 l0 a1_4).f1), .int .i64 0]) ?_ 2 _ rfl; (with_reducible repeat (first | refine blk_drewN ?_ _ | refine blk_drew ?_ | refine blk_alloc ?_ _)); refine blk_put (cs := #[.int .i64 ((rd_T101 l0 a1_4).f0), .int .u8 0, .int .i64 0]) ?_ 1 _ rfl; (with_reducible repeat (first | refine blk_drewN ?_ _ | refine blk_drew ?_ | refine blk_alloc ?_ _)); refine blk_put (cs := #[.int .i64 0, .int .u8 0, .int .i64 0]) ?_ 0 _ rfl; (with_reducible repeat (first | refine blk_drewN ?_ _ | refine blk_drew ?_ | refine blk_alloc ?_ _)); exact BK512.out⟩, ⟨by repeat (with_reducible first | exact HB.out | apply below_alloc | apply pw_below_drewN | apply below_drew1 | refine below_set ?_ GE510.out | refine below_set ?_ GE512.out)⟩⟩
         ·rw [if_neg c22] at H
          have c22b0 : (((rd_T101 l0 a1_4).f0) == 2) = false := beq_eq_false_iff_ne.mpr c22
          have c22b1 : (((rd_T101 l0 a1_4).f0) != 2) = true := bne_iff_ne.mpr c22
          (first | rw [c22b0] | (simp only [i64_w, i32_w]; rw [c22b0]) | skip)
          have H' := Aside0.mk H
          clear H
          have hnb25 := NB512_510.out
          have hnc25 := NB510_512.out
          have hcz26_0 : w18.cell? ⟨gb512, 0, none⟩ = some (.int .i64 0) := (blk_cell BK512.out 0).trans rfl
          have hcz26_1 : w18.cell? ⟨gb512, 1, none⟩ = some (.int .u8 0) := (blk_cell BK512.out 1).trans rfl
          have hcz26_2 : w18.cell? ⟨gb512, 2, none⟩ = some (.int .i64 0) := (blk_cell BK512.out 2).trans rfl
          have hfz26_0 := blk_frozen BK512.out 0
          have hfz26_1 := blk_frozen BK512.out 1
          have hfz26_2 := blk_frozen BK512.out 2
          go_wp2
          go_meet
          case rel => exact ⟨_, (false), (by first | rfl | (simp; done) | (simp [*]; done)), H', ⟨by have := HJ5.out; first | omega | exact Nat.le_refl _⟩, ⟨by (with_reducible repeat (first | refine blk_drewN ?_ _ | refine blk_drew ?_ | refine blk_alloc ?_ _)); refine blk_far ?_ NB510_512.out _; (with_reducible repeat (first | refine blk_drewN ?_ _ | refine blk_drew ?_ | refine blk_alloc ?_ _)); refine blk_far ?_ NB510_512.out _; (with_reducible repeat (first | refine blk_drewN ?_ _ | refine blk_drew ?_ | refine blk_alloc ?_ _)); refine blk_far ?_ NB510_512.out _; (with_reducible repeat (first | refine blk_drewN ?_ _ | refine blk_drew ?_ | refine blk_alloc ?_ _)); exact BK510.out⟩, ⟨by (with_reducible repeat (first | refine blk_drewN ?_ _ | refine blk_drew ?_ | refine blk_alloc ?_ _)); refine blk_put (cs := #[.int .i64 ((rd_T101 l0 a1_4).f0), .int .u8 ((rd_T101 l0 a1_4).f1), .int .i64 0]) ?_ 2 _ rfl; (with_reducible repeat (first | refine blk_drewN ?_ _ | refine blk_drew ?_ | refine blk_alloc ?_ _)); refine blk_put (cs := #[.int .i64 ((rd_T101 l0 a1_4).f0), .int .u8 0, .int .i64 0]) ?_ 1 _ rfl; (with_reducible repeat (first | refine blk_drewN ?_ _ | refine blk_drew ?_ | refine blk_alloc ?_ _)); refine blk_put (cs := #[.int .i64 0, .int .u8 0, .int .i64 0]) ?_ 0 _ rfl; (with_reducible repeat (first | refine blk_drewN ?_ _ | refine blk_drew ?_ | refine blk_alloc ?_ _)); exact BK512.out⟩, ⟨by repeat (with_reducible first | exact HB.out | apply below_alloc | apply pw_below_drewN | apply below_drew1 | refine below_set ?_ GE510.out | refine below_set ?_ GE512.out)⟩⟩
        case rest =>
         clear HC16
         try clear c1
         try clear c2
         try clear p2
         try clear c3
         try clear c3b0
         try clear c3b1
         try clear p5
         try clear q5
         try clear hx5
         try clear c8
         try clear c9
         try clear c9b0
         try clear c12
         try clear c13
         try clear c13b0
         try clear c14
         try clear c14b0
         try clear c15
         try clear c15b0
         try clear c15b1
         try clear c19
         try clear c22
         try clear c22b0
         try clear c22b1
         try clear c23
         try clear c25
         try clear hcz10_0
         try clear hcz10_1
         try clear hcz10_2
         try clear hcz10_3
         try clear hcz10_4
         try clear hcz11_0
         try clear hcz11_1
         try clear hcz11_2
         try clear hcz11_3
         try clear hcz11_4
         try clear hcz17_0
         try clear hcz17_1
         try clear hcz17_2
         try clear hcz17_3
         try clear hcz17_4
         try clear hcz20_0
         try clear hcz20_1
         try clear hcz20_2
         try clear hcz21_0
         try clear hcz21_1
         try clear hcz21_2
         try clear hcz21_3
         try clear hcz21_4
         try clear hcz24_0
         try clear hcz24_1
         try clear hcz24_2
         try clear hcz26_0
         try clear hcz26_1
         try clear hcz26_2
         try clear hcz5_0
         try clear hcz5_1
         try clear hcz5_2
         try clear hcz5_3
         try clear hcz5_4
         try clear hcz8_0
         try clear hcz8_1
         try clear hcz8_2
         try clear hcz8_3
         try clear hcz8_4
         try clear hfz10_0
         try clear hfz10_1
         try clear hfz10_2
         try clear hfz10_3
         try clear hfz10_4
         try clear hfz11_0
         try clear hfz11_1
         try clear hfz11_2
         try clear hfz11_3
         try clear hfz11_4
         try clear hfz17_0
         try clear hfz17_1
         try clear hfz17_2
         try clear hfz17_3
         try clear hfz17_4
         try clear hfz20_0
         try clear hfz20_1
         try clear hfz20_2
         try clear hfz21_0
         try clear hfz21_1
         try clear hfz21_2
         try clear hfz21_3
         try clear hfz21_4
         try clear hfz24_0
         try clear hfz24_1
         try clear hfz24_2
         try clear hfz26_0
         try clear hfz26_1
         try clear hfz26_2
         try clear hfz5_0
         try clear hfz5_1
         try clear hfz5_2
         try clear hfz5_3
         try clear hfz5_4
         try clear hfz8_0
         try clear hfz8_1
         try clear hfz8_2
         try clear hfz8_3
         try clear hfz8_4
         try clear hx511_0
         try clear hx511_1
         try clear hx511_2
         try clear p2
         try clear p511
         try clear q511
         obtain ⟨kq, x34_15, rfl, HA, HJ15, BK510, BK512, HB⟩ := hcut
         cases kq with
         | zero => exact absurd HA.out (by simp [stylusref20_Shows.j1])
         | succ kj15 =>
          have H := HA.out
          clear HA
          simp only [stylusref20_Shows.j1] at H
          by_cases c27 : x34_15 = true
          ·subst c27
           rw [if_pos rfl] at H
           obtain rfl := Option.some.inj H
           go_wp2
           go_ret
           exact ⟨by first | rfl | (simp [errW_none, errW_some] <;> rfl) | (simp [*, errW_none, errW_some] <;> rfl), by repeat (with_reducible first | exact HB.out | apply below_alloc | apply pw_below_drewN | apply below_drew1 | refine below_set ?_ GE510.out | refine below_set ?_ GE512.out)⟩
          ·replace c27 := Bool.eq_false_iff.mpr c27
           subst c27
           rw [if_neg (show ¬ (false = true) by decide)] at H
           obtain rfl := Option.some.inj H
           go_wp2
           go_ret
           exact ⟨by first | rfl | (simp [errW_none, errW_some] <;> rfl) | (simp [*, errW_none, errW_some] <;> rfl), by repeat (with_reducible first | exact HB.out | apply below_alloc | apply pw_below_drewN | apply below_drew1 | refine below_set ?_ GE510.out | refine below_set ?_ GE512.out)⟩
       ·rw [if_neg c15] at H
        have c15b0 : (a1_0 == 4) = false := beq_eq_false_iff_ne.mpr c15
        have c15b1 : (a1_0 != 4) = true := bne_iff_ne.mpr c15
        by_cases c28 : ((rd_T101 l0 a1_4).f0) = 1
        ·rw [if_pos c28] at H
         have c28b0 : (((rd_T101 l0 a1_4).f0) == 1) = true := beq_iff_eq.mpr c28
         have c28b1 : (((rd_T101 l0 a1_4).f0) != 1) = false := bne_eq_false_iff_eq.mpr c28
         clear c28
         obtain rfl := Option.some.inj H
         have hcz29_0 : wc.cell? ⟨gb510, 0, none⟩ = some (.int .i64 a1_0) := (blk_cell BK510.out 0).trans rfl
         have hcz29_1 : wc.cell? ⟨gb510, 1, none⟩ = some (.int .i64 a1_1) := (blk_cell BK510.out 1).trans rfl
         have hcz29_2 : wc.cell? ⟨gb510, 2, none⟩ = some (.int .i64 a1_2) := (blk_cell BK510.out 2).trans rfl
         have hcz29_3 : wc.cell? ⟨gb510, 3, none⟩ = some (.int .i64 a1_3) := (blk_cell BK510.out 3).trans rfl
         have hcz29_4 : wc.cell? ⟨gb510, 4, none⟩ = some (.int .i64 a1_4) := (blk_cell BK510.out 4).trans rfl
         have hfz29_0 := blk_frozen BK510.out 0
         have hfz29_1 := blk_frozen BK510.out 1
         have hfz29_2 := blk_frozen BK510.out 2
         have hfz29_3 := blk_frozen BK510.out 3
         have hfz29_4 := blk_frozen BK510.out 4
         have p511 : 0 ≤ (a1_4 : Int) := of_decide_eq_true (by first | (with_reducible assumption) | assumption)
         have q511 : a1_4 < (l0.length : Int) := of_decide_eq_true (by first | (with_reducible assumption) | assumption)
         obtain ⟨ad511, e511, hx511_0, hx511_1, hx511_2⟩ := at_T101 HR0.out a1_4 p511 q511
         cases e511
         replace hx511_0 := (HB.out.cell (World.block_lt_of_cell? w _ hx511_0)).trans hx511_0
         replace hx511_1 := (HB.out.cell (World.block_lt_of_cell? w _ hx511_1)).trans hx511_1
         replace hx511_2 := (HB.out.cell (World.block_lt_of_cell? w _ hx511_2)).trans hx511_2
         replace p511 := eq_true p511
         replace q511 := eq_true q511
         go_wp2_with (first | ((with_reducible refine gate_dst (N := 5) rfl ?_); (try (refine gate_guard (by rfl) ?_; dsimp only)); refine box_event ?hg (N := 5) ?hd (cs := #[.int .i64 0, .int .u8 0, .int .i64 0]) (t := 101) ?hr ?_; (case hd => rfl); (case hg => rfl); (case hr => first | (go_simp; done) | (go_simp; rfl)); intro gb512 hg w30 hbox hb; have n0_ := Aside0.mk (blk_below (g := gb510) (o := .cells #[.int .i64 a1_0, .int .i64 a1_1, .int .i64 a1_2, .int .i64 a1_3, .int .i64 a1_4] 43 (0, 0)) (by (with_reducible repeat (first | refine blk_drewN ?_ _ | refine blk_drew ?_ | refine blk_alloc ?_ _)); exact BK510.out) hb); have n1_ := Aside0.mk (below_step (by repeat (with_reducible first | exact HB.out | apply below_alloc | apply pw_below_drewN | apply below_drew1 | refine below_set ?_ GE510.out)) hb); have n2_ := Aside0.mk (hbox); have n3_ := Aside0.mk ((by rw [hg]; exact (below_size (by repeat (with_reducible first | exact HB.out | apply below_alloc | apply pw_below_drewN | apply below_drew1 | refine below_set ?_ GE510.out))) : w.heap.size ≤ gb512)); have n4_ := n3_; have n5_ := Aside0.mk ((by rw [hg]; exact Nat.ne_of_lt (blk_lt (g := gb510) (o := .cells #[.int .i64 a1_0, .int .i64 a1_1, .int .i64 a1_2, .int .i64 a1_3, .int .i64 a1_4] 43 (0, 0)) (by (with_reducible repeat (first | refine blk_drewN ?_ _ | refine blk_drew ?_ | refine blk_alloc ?_ _)); exact BK510.out)) : gb510 ≠ gb512)); have n6_ := Aside0.mk ((by rw [hg]; exact Nat.ne_of_gt (blk_lt (g := gb510) (o := .cells #[.int .i64 a1_0, .int .i64 a1_1, .int .i64 a1_2, .int .i64 a1_3, .int .i64 a1_4] 43 (0, 0)) (by (with_reducible repeat (first | refine blk_drewN ?_ _ | refine blk_drew ?_ | refine blk_alloc ?_ _)); exact BK510.out)) : gb512 ≠ gb510)); clear BK510; clear HB; have BK510 := n0_; have HB := n1_; have BK512 := n2_; have GW512 := n3_; have GE512 := n4_; have NB510_512 := n5_; have NB512_510 := n6_; clear n0_ n1_ n2_ n3_ n4_ n5_ n6_; clear hb hbox hg; have hnb31 := NB512_510.out; have hnc31 := NB510_512.out; obtain ⟨hcz32_0, hcz32_1, hcz32_2, hfz32_0, hfz32_1, hfz32_2⟩ := blks3 BK512.out; obtain ⟨hcz33_0, hcz33_1, hcz33_2, hcz33_3, hcz33_4, hfz33_0, hfz33_1, hfz33_2, hfz33_3, hfz33_4⟩ := blks5 BK510.out))
         go_ret
         exact ⟨by first | rfl | (simp [errW_none, errW_some] <;> rfl) | (simp [*, errW_none, errW_some] <;> rfl), by repeat (with_reducible first | exact HB.out | apply below_alloc | apply pw_below_drewN | apply below_drew1 | refine below_set ?_ GE510.out | refine below_set ?_ GE512.out)⟩
        ·rw [if_neg c28] at H
         have c28b0 : (((rd_T101 l0 a1_4).f0) == 1) = false := beq_eq_false_iff_ne.mpr c28
         have c28b1 : (((rd_T101 l0 a1_4).f0) != 1) = true := bne_iff_ne.mpr c28
         obtain rfl := Option.some.inj H
         have hcz34_0 : wc.cell? ⟨gb510, 0, none⟩ = some (.int .i64 a1_0) := (blk_cell BK510.out 0).trans rfl
         have hcz34_1 : wc.cell? ⟨gb510, 1, none⟩ = some (.int .i64 a1_1) := (blk_cell BK510.out 1).trans rfl
         have hcz34_2 : wc.cell? ⟨gb510, 2, none⟩ = some (.int .i64 a1_2) := (blk_cell BK510.out 2).trans rfl
         have hcz34_3 : wc.cell? ⟨gb510, 3, none⟩ = some (.int .i64 a1_3) := (blk_cell BK510.out 3).trans rfl
         have hcz34_4 : wc.cell? ⟨gb510, 4, none⟩ = some (.int .i64 a1_4) := (blk_cell BK510.out 4).trans rfl
         have hfz34_0 := blk_frozen BK510.out 0
         have hfz34_1 := blk_frozen BK510.out 1
         have hfz34_2 := blk_frozen BK510.out 2
         have hfz34_3 := blk_frozen BK510.out 3
         have hfz34_4 := blk_frozen BK510.out 4
         have p511 : 0 ≤ (a1_4 : Int) := of_decide_eq_true (by first | (with_reducible assumption) | assumption)
         have q511 : a1_4 < (l0.length : Int) := of_decide_eq_true (by first | (with_reducible assumption) | assumption)
         obtain ⟨ad511, e511, hx511_0, hx511_1, hx511_2⟩ := at_T101 HR0.out a1_4 p511 q511
         cases e511
         replace hx511_0 := (HB.out.cell (World.block_lt_of_cell? w _ hx511_0)).trans hx511_0
         replace hx511_1 := (HB.out.cell (World.block_lt_of_cell? w _ hx511_1)).trans hx511_1
         replace hx511_2 := (HB.out.cell (World.block_lt_of_cell? w _ hx511_2)).trans hx511_2
         replace p511 := eq_true p511
         replace q511 := eq_true q511
         go_wp2_with (first | ((with_reducible refine gate_dst (N := 5) rfl ?_); (try (refine gate_guard (by rfl) ?_; dsimp only)); refine box_event ?hg (N := 5) ?hd (cs := #[.int .i64 0, .int .u8 0, .int .i64 0]) (t := 101) ?hr ?_; (case hd => rfl); (case hg => rfl); (case hr => first | (go_simp; done) | (go_simp; rfl)); intro gb512 hg w35 hbox hb; have n0_ := Aside0.mk (blk_below (g := gb510) (o := .cells #[.int .i64 a1_0, .int .i64 a1_1, .int .i64 a1_2, .int .i64 a1_3, .int .i64 a1_4] 43 (0, 0)) (by (with_reducible repeat (first | refine blk_drewN ?_ _ | refine blk_drew ?_ | refine blk_alloc ?_ _)); exact BK510.out) hb); have n1_ := Aside0.mk (below_step (by repeat (with_reducible first | exact HB.out | apply below_alloc | apply pw_below_drewN | apply below_drew1 | refine below_set ?_ GE510.out)) hb); have n2_ := Aside0.mk (hbox); have n3_ := Aside0.mk ((by rw [hg]; exact (below_size (by repeat (with_reducible first | exact HB.out | apply below_alloc | apply pw_below_drewN | apply below_drew1 | refine below_set ?_ GE510.out))) : w.heap.size ≤ gb512)); have n4_ := n3_; have n5_ := Aside0.mk ((by rw [hg]; exact Nat.ne_of_lt (blk_lt (g := gb510) (o := .cells #[.int .i64 a1_0, .int .i64 a1_1, .int .i64 a1_2, .int .i64 a1_3, .int .i64 a1_4] 43 (0, 0)) (by (with_reducible repeat (first | refine blk_drewN ?_ _ | refine blk_drew ?_ | refine blk_alloc ?_ _)); exact BK510.out)) : gb510 ≠ gb512)); have n6_ := Aside0.mk ((by rw [hg]; exact Nat.ne_of_gt (blk_lt (g := gb510) (o := .cells #[.int .i64 a1_0, .int .i64 a1_1, .int .i64 a1_2, .int .i64 a1_3, .int .i64 a1_4] 43 (0, 0)) (by (with_reducible repeat (first | refine blk_drewN ?_ _ | refine blk_drew ?_ | refine blk_alloc ?_ _)); exact BK510.out)) : gb512 ≠ gb510)); clear BK510; clear HB; have BK510 := n0_; have HB := n1_; have BK512 := n2_; have GW512 := n3_; have GE512 := n4_; have NB510_512 := n5_; have NB512_510 := n6_; clear n0_ n1_ n2_ n3_ n4_ n5_ n6_; clear hb hbox hg; have hnb36 := NB512_510.out; have hnc36 := NB510_512.out; obtain ⟨hcz37_0, hcz37_1, hcz37_2, hfz37_0, hfz37_1, hfz37_2⟩ := blks3 BK512.out; obtain ⟨hcz38_0, hcz38_1, hcz38_2, hcz38_3, hcz38_4, hfz38_0, hfz38_1, hfz38_2, hfz38_3, hfz38_4⟩ := blks5 BK510.out))
         go_ret
         exact ⟨by first | rfl | (simp [errW_none, errW_some] <;> rfl) | (simp [*, errW_none, errW_some] <;> rfl), by repeat (with_reducible first | exact HB.out | apply below_alloc | apply pw_below_drewN | apply below_drew1 | refine below_set ?_ GE510.out | refine below_set ?_ GE512.out)⟩
      ·rw [if_neg c14] at H
       exact absurd H (by simp)
     ·rw [if_neg c13] at H
      exact absurd H (by simp)
end Go.Proofs.Ytbddfnmhhmkfkaa.Pr
namespace Go.Proofs.Ytbddfnmhhmkfkaa.Pr
open Go.RowKit Go.Proofs.YtbddfnmhhmkfkaaW.PrintWords Go.Proofs.YtbddfnmhhmkfkaaW.PrintLast Go.Proofs.YtbddfnmhhmkfkaaW.PrintMore
theorem refSlack_ev {l : List S43} {w : Int} (ok : OkL l w) {f t : Int} (h0 : -1 ≤ f) (h1 : f < t) (h2 : t ≤ l.length) : Ev (fun k => stylusref20_Slack.f k l w f t) (slackL l w f t) := by
 have hw0 := ok.w0
 have hw1 := ok.w1
 obtain ⟨bN, bY, bZ⟩ := line_bd ok h0 h1 h2
 have hL := refLine_ev ok h0 h1 h2
 unfold slackL
 generalize lineN l f t = n at *
 generalize lineY l f t = y at *
 generalize lineZ l f t = z at *
 refine Ev.bind hL ?_
 refine Ev.step (f := fun _ => some (slackO w n y z (t == (l.length : Int)))) (fun k => ?_) (Ev.now _)
 have e1 : wrap64 (w - n) = w - n := w64 (by omega) (by omega)
 have e2 : wrap64 (-z) = -z := w64 (by omega) (by omega)
 show (if t = (l.length : Int) then stylusref20_Slack.j0 (k + 1) y z (wrap64 (w - n)) (decide (n ≤ w)) else stylusref20_Slack.j0 (k + 1) y z (wrap64 (w - n)) false) = _
 have key : ∀ (b : Bool) (P : Prop) [Decidable P], (b = true ↔ P) → stylusref20_Slack.j0 (k + 1) y z (w - n) b = some (if P then 0 else if w - n > y then y else if w - n < -z then -z else w - n) := by
  intro b P _ hb
  rw [stylusref20_Slack.j0.eq_2, e2]
  by_cases hP : P
  ·rw [if_pos (hb.2 hP), if_pos hP]
  ·rw [if_neg (fun h => hP (hb.1 h)), if_neg hP]
   by_cases q : w - n > y
   ·rw [if_pos q, if_pos q]
   ·rw [if_neg q, if_neg q]
    by_cases q : w - n < -z
    ·rw [if_pos q, if_pos q]
    ·rw [if_neg q, if_neg q]
 rw [e1]
 unfold slackO
 by_cases c1 : t = (l.length : Int)
 ·rw [if_pos c1]
  exact key _ _ (by simp [c1])
 ·rw [if_neg c1]
  exact key _ _ (by simp [c1])
theorem gT_roomO (l : List S43) (d f t : Int) : roomO d (lineY l f t) (lineZ l f t) = nS (gT d) l t.toNat - nS (gT d) l (f + 1).toNat := by
 unfold roomO gT lineY lineZ
 by_cases h : d < 0
 ·rw [if_pos h, if_pos h]
 ·rw [if_neg h, if_neg h]
theorem refRoom_ev {l : List S43} {w : Int} (ok : OkL l w) {f t : Int} (h0 : -1 ≤ f) (h1 : f < t) (h2 : t ≤ l.length) (d : Int) : Ev (fun k => stylusref20_room.f k l f t d) (nS (gT d) l t.toNat - nS (gT d) l (f + 1).toNat) := by
 rw [← gT_roomO]
 refine Ev.bind (refLine_ev ok h0 h1 h2) ?_
 unfold roomO
 refine Ev.congr (f := fun _ => some (if d < 0 then lineZ l f t else lineY l f t)) (fun k => ?_) (Ev.now _)
 split <;> rfl
theorem refX_l0 {l : List S43} {w : Int} (ok : OkL l w) {a b : Nat} {sl al : Int} (hK : LineK l w a b sl al) (at_ : Nat) (hat : at_ ≤ b) : ∀ (d i : Nat), i + d = at_ → a ≤ i → Ev (fun k => stylusref20_X.l0 k l ((a : Int) - 1) at_ sl al (xS l sl al a i) i) (xS l sl al a at_)
 | 0, i, h, hi => by
  obtain rfl : i = at_ := by omega
  exact Ev.step (fun k => by rw [stylusref20_X.l0.eq_2, if_neg (by omega)]) (Ev.now _)
 | d + 1, i, h, hi => by
  have hl := ok.len
  have hbl := hK.bl
  have hil : i < l.length := by omega
  have ih := refX_l0 ok hK at_ hat d (i + 1) (by omega) (by omega)
  have hn := nS_next (l := l) gN hil
  have ht := nS_next (l := l) (gT sl) hil
  obtain ⟨o1, o2, o3, o4, o5, o6, o7, o8⟩ := rd_ok ok hil
  have b1 := seg_bd ok (g := gN) (fun x hx => (g_bd hx).1) hi (show i ≤ l.length by omega)
  have b1' := seg_bd ok (g := gN) (fun x hx => (g_bd hx).1) (show a ≤ i + 1 by omega) (show i + 1 ≤ l.length by omega)
  have b2 := hK.part (i := i) (by omega) (by omega)
  have b3 := hK.part (i := i + 1) (by omega) (by omega)
  obtain ⟨p1, p1', _⟩ := partO_bd hK.lo hK.hi b2.1 b2.2.1
  obtain ⟨p2, p2', _⟩ := partO_bd hK.lo hK.hi b3.1 b3.2.1
  have hlo := hK.lo
  have hhi := hK.hi
  have e : ∀ _ : Unit, wrap64 ((i : Int) + 1) = ((i + 1 : Nat) : Int) := fun _ => by rw [w64 (by omega) (by omega)]; omega
  have hX : xS l sl al a i = nS gN l i - nS gN l a + partO sl al (nS (gT sl) l i - nS (gT sl) l a) := rfl
  have hX1 : xS l sl al a (i + 1) = nS gN l (i + 1) - nS gN l a + partO sl al (nS (gT sl) l (i + 1) - nS (gT sl) l a) := rfl
  have xb : -40000000 ≤ xS l sl al a i ∧ xS l sl al a i ≤ 70000000 := by omega
  have xb1 : -40000000 ≤ xS l sl al a (i + 1) ∧ xS l sl al a (i + 1) ≤ 70000000 := by omega
  have c1 : (i : Int) < at_ := by omega
  have c2 : (0 : Int) ≤ i := by omega
  have c3 : (i : Int) < l.length := by omega
  have r1 := refRoom_ev ok (f := (a : Int) - 1) (t := (i : Int)) (by omega) (by omega) (by omega) sl
  have r2 := refRoom_ev ok (f := (a : Int) - 1) (t := ((i + 1 : Nat) : Int)) (by omega) (by omega) (by omega) sl
  rw [Int.toNat_natCast, show ((a : Int) - 1 + 1).toNat = a by omega] at r1 r2
  have q1 := fun (_ : Unit) h0 => quoP_partO hK.lo hK.hi b2.1 b2.2.1 (by omega) h0
  have q2 := fun (_ : Unit) h0 => quoP_partO hK.lo hK.hi b3.1 b3.2.1 (by omega) h0
  unfold quoP at q1 q2
  have pz : Unit → al = 0 → partO sl al (nS (gT sl) l i - nS (gT sl) l a) = 0 ∧ partO sl al (nS (gT sl) l (i + 1) - nS (gT sl) l a) = 0 := fun _ h => by
   unfold partO
   rw [if_pos h, if_pos h]
   exact ⟨rfl, rfl⟩
  have pe : Unit → gT sl (rd_T43 l i) = 0 → partO sl al (nS (gT sl) l (i + 1) - nS (gT sl) l a) = partO sl al (nS (gT sl) l i - nS (gT sl) l a) := fun _ h => by
   rw [ht, h, Int.add_zero]
  have pb : (-40000000 ≤ partO sl al (nS (gT sl) l i - nS (gT sl) l a) ∧ partO sl al (nS (gT sl) l i - nS (gT sl) l a) ≤ 40000000) ∧ (-40000000 ≤ partO sl al (nS (gT sl) l (i + 1) - nS (gT sl) l a) ∧ partO sl al (nS (gT sl) l (i + 1) - nS (gT sl) l a) ≤ 40000000) := by omega
  have hal : al ≤ 32768000 ∧ 0 ≤ al := by omega
  clear p1 p2 p1' p2' b1 b1' b2 b3 hK ht
  generalize partO sl al (nS (gT sl) l i - nS (gT sl) l a) = P0 at *
  generalize partO sl al (nS (gT sl) l (i + 1) - nS (gT sl) l a) = P1 at *
  generalize nS (gT sl) l i - nS (gT sl) l a = S0 at *
  generalize nS (gT sl) l (i + 1) - nS (gT sl) l a = S1 at *
  generalize xS l sl al a at_ = XF at *
  generalize xS l sl al a i = X0 at *
  generalize xS l sl al a (i + 1) = X1 at *
  have hD : X1 = X0 + gN (rd_T43 l i) + P1 - P0 := by omega
  clear hX hX1 hn
  by_cases h2 : (rd_T43 l i).f0 = 2
  ·have hgn : gN (rd_T43 l i) = (rd_T43 l i).f1 := if_neg (by omega)
   have e3 : ∀ _ : Unit, wrap64 (X0 + (rd_T43 l i).f1) = X0 + (rd_T43 l i).f1 := fun _ => w64 (by omega) (by omega)
   have toj : Ev (fun k => stylusref20_X.j2 k l ((a : Int) - 1) at_ sl al (X0 + (rd_T43 l i).f1) i (decide (al > 0))) XF → Ev (fun k => stylusref20_X.l0 k l ((a : Int) - 1) at_ sl al X0 i) XF := fun hj => by
    refine Ev.step (f := fun k => stylusref20_X.j1 k l ((a : Int) - 1) at_ sl al (X0 + (rd_T43 l i).f1) i) (fun k => ?_) (Ev.step (fun k => ?_) hj)
    ·rw [stylusref20_X.l0.eq_2, if_pos c1, if_pos c2, if_pos c3, if_neg (by omega), e3 ()]
    ·rw [stylusref20_X.j1.eq_2, if_pos c2, if_pos c3, if_pos h2]
   refine toj ?_
   by_cases h0 : al > 0
   ·have h00 : al ≠ 0 := by omega
    refine Ev.step (f := fun k => (stylusref20_room.f k l ((a : Int) - 1) i sl).bind fun t508 => ((stylusref20_room.f k l ((a : Int) - 1) ((i + 1 : Nat) : Int) sl).bind fun t509 => (if al = 0 then (none) else (stylusref20_X.l0 k l ((a : Int) - 1) at_ sl al (wrap64 ((wrap64 ((X0 + (rd_T43 l i).f1) + (wrap64 (Int.tdiv (wrap64 (sl * t509)) al)))) - (wrap64 (Int.tdiv (wrap64 (sl * t508)) al)))) ((i + 1 : Nat) : Int))))) (fun k => ?_) ?_
    ·rw [stylusref20_X.j2.eq_2, if_pos (decide_eq_true h0), e ()]
    ·refine Ev.bind r1 (Ev.bind r2 ?_)
     refine Ev.congr (fun k => ?_) ih
     have z3 : ∀ _ : Unit, wrap64 (X0 + (rd_T43 l i).f1 + P1) = X0 + (rd_T43 l i).f1 + P1 := fun _ => w64 (by omega) (by omega)
     have z4 : ∀ _ : Unit, wrap64 (X0 + (rd_T43 l i).f1 + P1 - P0) = X1 := fun _ => by rw [w64 (by omega) (by omega)]; omega
     have z1 := q1 () h00
     have z2 := q2 () h00
     rw [if_neg h00, z1, z2, z3 (), z4 ()]
   ·have h00 : al = 0 := by omega
    have := pz () h00
    refine Ev.step (fun k => ?_) ih
    rw [stylusref20_X.j2.eq_2, if_neg (by rw [decide_eq_false h0]; exact Bool.false_ne_true), e (), show X0 + (rd_T43 l i).f1 = X1 by omega]
  ·have hgt : gT sl (rd_T43 l i) = 0 := by
    unfold gT
    split
    ·exact if_neg h2
    ·exact if_neg h2
   have hp := pe () hgt
   refine Ev.step (f := fun k => stylusref20_X.j1 k l ((a : Int) - 1) at_ sl al X1 i) (fun k => ?_) (Ev.step (f := fun k => stylusref20_X.j2 k l ((a : Int) - 1) at_ sl al X1 i false) (fun k => ?_) (Ev.step (fun k => ?_) ih))
   ·rw [stylusref20_X.l0.eq_2, if_pos c1, if_pos c2, if_pos c3]
    by_cases h3 : (rd_T43 l i).f0 = 3
    ·have := gN_hyph h3
     rw [if_pos h3, show X0 = X1 by omega]
    ·have hgn : gN (rd_T43 l i) = (rd_T43 l i).f1 := if_neg h3
     rw [if_neg h3, show wrap64 (X0 + (rd_T43 l i).f1) = X1 by rw [w64 (by omega) (by omega)]; omega]
   ·rw [stylusref20_X.j1.eq_2, if_pos c2, if_pos c3, if_neg h2]
   ·rw [stylusref20_X.j2.eq_2, if_neg Bool.false_ne_true, e ()]
theorem refX_ev {l : List S43} {w : Int} (ok : OkL l w) {a b i : Nat} (hab : a ≤ b) (hb : b ≤ l.length) (hlt : a < b + 1) (hi : a ≤ i) (hib : i ≤ b) : Ev (fun k => stylusref20_X.f k l w ((a : Int) - 1) b i) (xL l w ((a : Int) - 1) b i) := by
 have hl := ok.len
 have hK := line_known ok hab hb
 have h1 := refX_l0 ok hK i hib (i - a) a (by omega) (Nat.le_refl _)
 have e0 : xS l (slackL l w ((a : Int) - 1) b) (roomL l w ((a : Int) - 1) b) a a = 0 := by
  unfold xS partO
  simp
 rw [e0] at h1
 have ex : xL l w ((a : Int) - 1) b i = xS l (slackL l w ((a : Int) - 1) b) (roomL l w ((a : Int) - 1) b) a i := by
  unfold xL xS
  rw [show ((a : Int) - 1 + 1).toNat = a by omega]
 rw [ex]
 refine Ev.bind (refSlack_ev ok (by omega) (by omega) (by omega)) ?_
 refine Ev.bind (a := roomL l w ((a : Int) - 1) b) ?_ ?_
 ·unfold roomL
  rw [gT_roomO]
  exact refRoom_ev ok (by omega) (by omega) (by omega) _
 ·refine Ev.congr (fun k => ?_) h1
  rw [w64 (by omega) (by omega), show (a : Int) - 1 + 1 = (a : Int) by omega]
theorem oddT_false {toks : List S101} {x : S43} (h : oddT toks x = false) : (showP toks x).2 = true := by
 unfold oddT at h
 simpa using h
theorem refShows_ev (toks : List S101) (x : S43) (h : oddT toks x = false) : Ev (fun k => stylusref20_Shows.f k toks x.f0 x.f1 x.f2 x.f3 x.f4) (showP toks x).1 := by
 have h := oddT_false h
 unfold stylusref20_Shows.f
 unfold showP at h ⊢
 by_cases h3 : x.f0 = 3
 ·refine Ev.congr (f := fun _ => some 45) (fun k => ?_) ?_
  ·rw [if_pos h3]
  ·rw [if_pos h3]
   exact Ev.now _
 ·rw [if_neg h3] at h
  by_cases hr : 0 ≤ x.f4 ∧ x.f4 < (toks.length : Int)
  ·rw [if_pos hr] at h
   simp only [if_neg h3, if_pos hr]
   refine Ev.congr (f := fun k => stylusref20_Shows.j0 k toks false x.f0 x.f1 x.f2 x.f3 x.f4) (fun k => ?_) ?_
   ·rw [if_neg (by omega), show decide (x.f4 ≥ (toks.length : Int)) = false by simp; omega]
   ·by_cases h4 : x.f0 = 4
    ·rw [if_pos h4] at h
     simp only [Bool.and_eq_true, decide_eq_true_eq] at h
     rw [if_pos h4]
     refine Ev.step (f := fun k => stylusref20_Shows.j1 k true) (fun k => ?_) (Ev.step (fun k => ?_) (Ev.now _))
     ·rw [stylusref20_Shows.j0.eq_2, if_neg (by simp), if_pos hr.1, if_pos hr.2, if_pos h4, if_pos h.1, h.2]
     ·rw [stylusref20_Shows.j1.eq_2, if_pos rfl]
    ·rw [if_neg h4] at h
     simp only [beq_iff_eq] at h
     rw [if_neg h4]
     refine Ev.step (fun k => ?_) (Ev.now _)
     rw [stylusref20_Shows.j0.eq_2, if_neg (by simp), if_pos hr.1, if_pos hr.2, if_neg h4, if_pos h]
  ·rw [if_neg hr] at h
   cases h
theorem refKnown_l0 (toks : List S101) {l : List S43} (hl : l.length ≤ 16384) : ∀ (d i : Nat), i + d = l.length → Ev (fun k => stylusref20_Known.l0 k toks l i) (!(l.drop i).any (oddT toks))
 | 0, i, h => by
  rw [List.drop_of_length_le (by omega)]
  exact Ev.step (fun k => by rw [stylusref20_Known.l0.eq_2, if_neg (by omega)]; rfl) (Ev.now _)
 | d + 1, i, h => by
  have hil : i < l.length := by omega
  have ih := refKnown_l0 toks hl d (i + 1) (by omega)
  have e : wrap64 ((i : Int) + 1) = ((i + 1 : Nat) : Int) := by rw [w64 (by omega) (by omega)]; omega
  have hd : l.drop i = rd_T43 l i :: l.drop (i + 1) := by
   have := rd_get hil
   rw [List.getElem?_eq_getElem hil] at this
   rw [List.drop_eq_getElem_cons hil, Option.some.inj this]
  rw [hd, List.any_cons]
  have open0 : ∀ k, stylusref20_Known.l0 (k + 1) toks l i = if (rd_T43 l i).f0 = 3 then stylusref20_Known.l0 k toks l ((i + 1 : Nat) : Int) else if (rd_T43 l i).f4 < 0 then stylusref20_Known.j1 k toks l i true (rd_T43 l i).f0 (rd_T43 l i).f1 (rd_T43 l i).f2 (rd_T43 l i).f3 (rd_T43 l i).f4 else stylusref20_Known.j1 k toks l i (decide ((rd_T43 l i).f4 ≥ (toks.length : Int))) (rd_T43 l i).f0 (rd_T43 l i).f1 (rd_T43 l i).f2 (rd_T43 l i).f3 (rd_T43 l i).f4 := fun k => by
   rw [stylusref20_Known.l0.eq_2, if_pos (by omega), if_pos (by omega), e]
  generalize rd_T43 l i = x at *
  generalize hrr : (!(l.drop (i + 1)).any (oddT toks)) = r at ih
  by_cases h3 : x.f0 = 3
  ·have ho : oddT toks x = false := by unfold oddT showP; rw [if_pos h3]; rfl
   rw [ho, Bool.false_or, hrr]
   exact Ev.step (fun k => by rw [open0, if_pos h3]) ih
  ·by_cases hr : 0 ≤ x.f4 ∧ x.f4 < (toks.length : Int)
   ·have hs : ∀ k, stylusref20_Known.l0 (k + 1) toks l i = stylusref20_Known.j1 k toks l i false x.f0 x.f1 x.f2 x.f3 x.f4 := fun k => by
     rw [open0, if_neg h3, if_neg (by omega), show decide (x.f4 ≥ (toks.length : Int)) = false by simp; omega]
    refine Ev.step hs ?_
    by_cases h4 : x.f0 = 4
    ·have ho : oddT toks x = !(decide ((rd_T101 toks x.f4).f0 = 2) && (rd_T101 toks x.f4).f1 == 110) := by unfold oddT showP; rw [if_neg h3, if_pos hr, if_pos h4]
     by_cases q1 : (rd_T101 toks x.f4).f0 = 2
     ·by_cases q2 : (rd_T101 toks x.f4).f1 = 110
      ·rw [show oddT toks x = false by rw [ho]; simp [q1, q2], Bool.false_or, hrr]
       exact Ev.step (fun k => by rw [stylusref20_Known.j1.eq_2, if_neg (by simp), if_pos hr.1, if_pos hr.2, if_pos h4, if_pos q1, if_pos q2, e]) ih
      ·rw [show oddT toks x = true by rw [ho]; simp [q2], Bool.true_or]
       exact Ev.step (fun k => by rw [stylusref20_Known.j1.eq_2, if_neg (by simp), if_pos hr.1, if_pos hr.2, if_pos h4, if_pos q1, if_neg q2]; rfl) (Ev.now _)
     ·rw [show oddT toks x = true by rw [ho]; simp [q1], Bool.true_or]
      exact Ev.step (fun k => by rw [stylusref20_Known.j1.eq_2, if_neg (by simp), if_pos hr.1, if_pos hr.2, if_pos h4, if_neg q1]; rfl) (Ev.now _)
    ·have ho : oddT toks x = !((rd_T101 toks x.f4).f0 == 1) := by unfold oddT showP; rw [if_neg h3, if_pos hr, if_neg h4]
     by_cases q1 : (rd_T101 toks x.f4).f0 = 1
     ·rw [show oddT toks x = false by rw [ho]; simp [q1], Bool.false_or, hrr]
      exact Ev.step (fun k => by rw [stylusref20_Known.j1.eq_2, if_neg (by simp), if_pos hr.1, if_pos hr.2, if_neg h4, if_pos q1, e]) ih
     ·rw [show oddT toks x = true by rw [ho]; simp [q1], Bool.true_or]
      exact Ev.step (fun k => by rw [stylusref20_Known.j1.eq_2, if_neg (by simp), if_pos hr.1, if_pos hr.2, if_neg h4, if_neg q1]; rfl) (Ev.now _)
   ·rw [show oddT toks x = true by unfold oddT showP; rw [if_neg h3, if_neg hr]; rfl, Bool.true_or]
    refine Ev.step (f := fun k => stylusref20_Known.j1 k toks l i true x.f0 x.f1 x.f2 x.f3 x.f4) (fun k => ?_) (Ev.step (fun k => ?_) (Ev.now _))
    ·rw [open0, if_neg h3]
     by_cases q : x.f4 < 0
     ·rw [if_pos q]
     ·rw [if_neg q, show decide (x.f4 ≥ (toks.length : Int)) = true by simp; omega]
    ·rw [stylusref20_Known.j1.eq_2, if_pos rfl]
     rfl
theorem refKnown_ev (toks : List S101) {l : List S43} (hl : l.length ≤ 16384) : Ev (fun k => stylusref20_Known.f k toks l) (!l.any (oddT toks)) := refKnown_l0 toks hl l.length 0 (by omega)
def abcT : List S101 := [⟨1, 97, 0⟩, ⟨1, 32, 0⟩, ⟨1, 98, 0⟩, ⟨1, 32, 0⟩, ⟨1, 99, 0⟩]
def abcI : List S43 := [⟨1, 10, 0, 0, 0⟩, ⟨2, 10, 5, 5, 1⟩, ⟨1, 10, 0, 0, 2⟩, ⟨2, 10, 5, 5, 3⟩, ⟨1, 10, 0, 0, 4⟩]
def styluslaw20_abc.f (k : Nat) : Option (List S101 × List S43) := some (abcT, abcI)
theorem styluslaw20_abc.mono : ∀ k, LeO (styluslaw20_abc.f k ) (styluslaw20_abc.f (k + 1) ) := fun _ => LeO.refl _
set_option maxRecDepth 100000 in
set_option maxHeartbeats 4000000 in
theorem styluslaw20_abc.calls (k : Nat) (r1 : List (S101)) (r2 : List (S43)) (w : World) (h : styluslaw20_abc.f k = some (r1, r2)) :
  Calls Try.prog 79 #[] w fun e w' => ∃ v0_ v1_ : Value, e = .returned (.tuple #[v0_, v1_]) ∧ Kd.R k101 101 w' w.heap.size (fun _ => True) v0_ r1 ∧ Kd.R k43 43 w' w.heap.size (fun _ => True) v1_ r2 ∧ Below w.heap.size w w' := by
 have h1 : abcT = r1 := congrArg (fun p => p.1) (Option.some.inj h)
 have h2 : abcI = r2 := congrArg (fun p => p.2) (Option.some.inj h)
 have H1 := Lib.hid h1
 have H2 := Lib.hid h2
 clear h h1 h2
 go_enter Try.func79, Try.ntmps79
 go_wp2_with fail
 go_loopw [2, 3, 4] (fun v2 v3 v4 wr => ∃ (k : Nat), v4 = .int .i64 k ∧ k ≤ 5 ∧ Aside0 (Kd.R k101 101 wr w.heap.size (fun _ => True) v2 (abcT.take k)) ∧ Aside0 (Kd.R k43 43 wr w.heap.size (fun _ => True) v3 (abcI.take k)) ∧ Aside0 (Below w.heap.size w wr)) (fun _ _ v _ => 5 - (intOf v).toNat)
 case atStart => exact ⟨0, rfl, by omega, ⟨Kd.R_nil _ _ _ _ _⟩, ⟨Kd.R_nil _ _ _ _ _⟩, ⟨Below.refl _ _⟩⟩
 case round =>
  obtain ⟨k, rfl, hk, HT, HI, HB⟩ := hrel
  rcases (show k = 5 ∨ k = 0 ∨ k = 1 ∨ k = 2 ∨ k = 3 ∨ k = 4 by omega) with rfl | rfl | rfl | rfl | rfl | rfl
  ·go_wp2
   go_ret2
   exact ⟨_, _, rfl, by rw [← H1.out]; exact HT.out, by rw [← H2.out]; exact HI.out, HB.out⟩
  ·go_wp2_with (at_builtin; refine Kd.R_append k101 (w0 := w) w.heap.size rfl (.tmp 10) (.tmp 14) 44 101 (.agg #[(.int .i64 0), (.int .u8 0), (.int .i64 0)]) 24 rfl Try.underlying44 info101 rfl (by decide) (by omega) u2 (abcT.take 0) (⟨1, 97, 0⟩ : S101) [.int .i64 1, .int .u8 97, .int .i64 0] (fun _ => True) (fun _ => False) rfl rfl (k101_mkM _ _ _ (⟨1, 97, 0⟩ : S101)) (fun _ hk => hk.elim) (fun _ _ => trivial) HT.out HB.out HB.out.size ?aL0 ?aN0)
   case aL0 => simp [abcT]
   case aN0 =>
    intro v1 w1 ho hb hg hat
    have HI1 := Aside0.mk (Kd.R_over' HI.out (Kd.R_typed HT.out) (by decide) hg)
    have HT1 : Aside0 (Kd.R k101 101 w1 w.heap.size (fun _ => True) v1 (abcT.take (0 + 1))) := Aside0.mk ho
    have HB1 := Aside0.mk hb
    clear HI HT HB ho hb hg hat
    go_wp2_with (at_builtin; refine Kd.R_append k43 (w0 := w) w.heap.size rfl (.tmp 23) (.tmp 25) 22 43 (.agg #[(.int .i64 0), (.int .i64 0), (.int .i64 0), (.int .i64 0), (.int .i64 0)]) 40 rfl Try.underlying22 info43 rfl (by decide) (by omega) u3 (abcI.take 0) (⟨1, 10, 0, 0, 0⟩ : S43) [.int .i64 1, .int .i64 10, .int .i64 0, .int .i64 0, .int .i64 0] (fun _ => True) (fun _ => False) rfl (by first | (go_simp; done) | (go_simp; rfl)) (k43_mkM _ _ _ (⟨1, 10, 0, 0, 0⟩ : S43)) (fun _ hk => hk.elim) (fun _ _ => trivial) (Kd.R_alloc HI1.out _) (HB1.out.alloc HB1.out.size _) (by have := HB1.out.size; simp; omega) ?bL0 ?bN0)
    case bL0 => simp [abcI]
    case bN0 =>
     intro v2 w2 ho hb hg hat
     have HT2 := Aside0.mk (Kd.R_over' (Kd.R_alloc HT1.out _) (Kd.R_typed (Kd.R_alloc HI1.out _)) (by decide) hg)
     have HI2 : Aside0 (Kd.R k43 43 w2 w.heap.size (fun _ => True) v2 (abcI.take (0 + 1))) := Aside0.mk ho
     have HB2 := Aside0.mk hb
     clear HI1 HT1 HB1 ho hb hg hat
     go_wp2
     refine ⟨⟨0 + 1, by simp, by omega, HT2, HI2, HB2⟩, by simp [intOf]⟩
  ·go_wp2_with (at_builtin; refine Kd.R_append k101 (w0 := w) w.heap.size rfl (.tmp 10) (.tmp 14) 44 101 (.agg #[(.int .i64 0), (.int .u8 0), (.int .i64 0)]) 24 rfl Try.underlying44 info101 rfl (by decide) (by omega) u2 (abcT.take 1) (⟨1, 32, 0⟩ : S101) [.int .i64 1, .int .u8 32, .int .i64 0] (fun _ => True) (fun _ => False) rfl rfl (k101_mkM _ _ _ (⟨1, 32, 0⟩ : S101)) (fun _ hk => hk.elim) (fun _ _ => trivial) HT.out HB.out HB.out.size ?aL1 ?aN1)
   case aL1 => simp [abcT]
   case aN1 =>
    intro v1 w1 ho hb hg hat
    have HI1 := Aside0.mk (Kd.R_over' HI.out (Kd.R_typed HT.out) (by decide) hg)
    have HT1 : Aside0 (Kd.R k101 101 w1 w.heap.size (fun _ => True) v1 (abcT.take (1 + 1))) := Aside0.mk ho
    have HB1 := Aside0.mk hb
    clear HI HT HB ho hb hg hat
    go_wp2_with (at_builtin; refine Kd.R_append k43 (w0 := w) w.heap.size rfl (.tmp 23) (.tmp 25) 22 43 (.agg #[(.int .i64 0), (.int .i64 0), (.int .i64 0), (.int .i64 0), (.int .i64 0)]) 40 rfl Try.underlying22 info43 rfl (by decide) (by omega) u3 (abcI.take 1) (⟨2, 10, 5, 5, 1⟩ : S43) [.int .i64 2, .int .i64 10, .int .i64 5, .int .i64 5, .int .i64 1] (fun _ => True) (fun _ => False) rfl (by first | (go_simp; done) | (go_simp; rfl)) (k43_mkM _ _ _ (⟨2, 10, 5, 5, 1⟩ : S43)) (fun _ hk => hk.elim) (fun _ _ => trivial) (Kd.R_alloc HI1.out _) (HB1.out.alloc HB1.out.size _) (by have := HB1.out.size; simp; omega) ?bL1 ?bN1)
    case bL1 => simp [abcI]
    case bN1 =>
     intro v2 w2 ho hb hg hat
     have HT2 := Aside0.mk (Kd.R_over' (Kd.R_alloc HT1.out _) (Kd.R_typed (Kd.R_alloc HI1.out _)) (by decide) hg)
     have HI2 : Aside0 (Kd.R k43 43 w2 w.heap.size (fun _ => True) v2 (abcI.take (1 + 1))) := Aside0.mk ho
     have HB2 := Aside0.mk hb
     clear HI1 HT1 HB1 ho hb hg hat
     go_wp2
     refine ⟨⟨1 + 1, by simp, by omega, HT2, HI2, HB2⟩, by simp [intOf]⟩
  ·go_wp2_with (at_builtin; refine Kd.R_append k101 (w0 := w) w.heap.size rfl (.tmp 10) (.tmp 14) 44 101 (.agg #[(.int .i64 0), (.int .u8 0), (.int .i64 0)]) 24 rfl Try.underlying44 info101 rfl (by decide) (by omega) u2 (abcT.take 2) (⟨1, 98, 0⟩ : S101) [.int .i64 1, .int .u8 98, .int .i64 0] (fun _ => True) (fun _ => False) rfl rfl (k101_mkM _ _ _ (⟨1, 98, 0⟩ : S101)) (fun _ hk => hk.elim) (fun _ _ => trivial) HT.out HB.out HB.out.size ?aL2 ?aN2)
   case aL2 => simp [abcT]
   case aN2 =>
    intro v1 w1 ho hb hg hat
    have HI1 := Aside0.mk (Kd.R_over' HI.out (Kd.R_typed HT.out) (by decide) hg)
    have HT1 : Aside0 (Kd.R k101 101 w1 w.heap.size (fun _ => True) v1 (abcT.take (2 + 1))) := Aside0.mk ho
    have HB1 := Aside0.mk hb
    clear HI HT HB ho hb hg hat
    go_wp2_with (at_builtin; refine Kd.R_append k43 (w0 := w) w.heap.size rfl (.tmp 23) (.tmp 25) 22 43 (.agg #[(.int .i64 0), (.int .i64 0), (.int .i64 0), (.int .i64 0), (.int .i64 0)]) 40 rfl Try.underlying22 info43 rfl (by decide) (by omega) u3 (abcI.take 2) (⟨1, 10, 0, 0, 2⟩ : S43) [.int .i64 1, .int .i64 10, .int .i64 0, .int .i64 0, .int .i64 2] (fun _ => True) (fun _ => False) rfl (by first | (go_simp; done) | (go_simp; rfl)) (k43_mkM _ _ _ (⟨1, 10, 0, 0, 2⟩ : S43)) (fun _ hk => hk.elim) (fun _ _ => trivial) (Kd.R_alloc HI1.out _) (HB1.out.alloc HB1.out.size _) (by have := HB1.out.size; simp; omega) ?bL2 ?bN2)
    case bL2 => simp [abcI]
    case bN2 =>
     intro v2 w2 ho hb hg hat
     have HT2 := Aside0.mk (Kd.R_over' (Kd.R_alloc HT1.out _) (Kd.R_typed (Kd.R_alloc HI1.out _)) (by decide) hg)
     have HI2 : Aside0 (Kd.R k43 43 w2 w.heap.size (fun _ => True) v2 (abcI.take (2 + 1))) := Aside0.mk ho
     have HB2 := Aside0.mk hb
     clear HI1 HT1 HB1 ho hb hg hat
     go_wp2
     refine ⟨⟨2 + 1, by simp, by omega, HT2, HI2, HB2⟩, by simp [intOf]⟩
  ·go_wp2_with (at_builtin; refine Kd.R_append k101 (w0 := w) w.heap.size rfl (.tmp 10) (.tmp 14) 44 101 (.agg #[(.int .i64 0), (.int .u8 0), (.int .i64 0)]) 24 rfl Try.underlying44 info101 rfl (by decide) (by omega) u2 (abcT.take 3) (⟨1, 32, 0⟩ : S101) [.int .i64 1, .int .u8 32, .int .i64 0] (fun _ => True) (fun _ => False) rfl rfl (k101_mkM _ _ _ (⟨1, 32, 0⟩ : S101)) (fun _ hk => hk.elim) (fun _ _ => trivial) HT.out HB.out HB.out.size ?aL3 ?aN3)
   case aL3 => simp [abcT]
   case aN3 =>
    intro v1 w1 ho hb hg hat
    have HI1 := Aside0.mk (Kd.R_over' HI.out (Kd.R_typed HT.out) (by decide) hg)
    have HT1 : Aside0 (Kd.R k101 101 w1 w.heap.size (fun _ => True) v1 (abcT.take (3 + 1))) := Aside0.mk ho
    have HB1 := Aside0.mk hb
    clear HI HT HB ho hb hg hat
    go_wp2_with (at_builtin; refine Kd.R_append k43 (w0 := w) w.heap.size rfl (.tmp 23) (.tmp 25) 22 43 (.agg #[(.int .i64 0), (.int .i64 0), (.int .i64 0), (.int .i64 0), (.int .i64 0)]) 40 rfl Try.underlying22 info43 rfl (by decide) (by omega) u3 (abcI.take 3) (⟨2, 10, 5, 5, 3⟩ : S43) [.int .i64 2, .int .i64 10, .int .i64 5, .int .i64 5, .int .i64 3] (fun _ => True) (fun _ => False) rfl (by first | (go_simp; done) | (go_simp; rfl)) (k43_mkM _ _ _ (⟨2, 10, 5, 5, 3⟩ : S43)) (fun _ hk => hk.elim) (fun _ _ => trivial) (Kd.R_alloc HI1.out _) (HB1.out.alloc HB1.out.size _) (by have := HB1.out.size; simp; omega) ?bL3 ?bN3)
    case bL3 => simp [abcI]
    case bN3 =>
     intro v2 w2 ho hb hg hat
     have HT2 := Aside0.mk (Kd.R_over' (Kd.R_alloc HT1.out _) (Kd.R_typed (Kd.R_alloc HI1.out _)) (by decide) hg)
     have HI2 : Aside0 (Kd.R k43 43 w2 w.heap.size (fun _ => True) v2 (abcI.take (3 + 1))) := Aside0.mk ho
     have HB2 := Aside0.mk hb
     clear HI1 HT1 HB1 ho hb hg hat
     go_wp2
     refine ⟨⟨3 + 1, by simp, by omega, HT2, HI2, HB2⟩, by simp [intOf]⟩
  ·go_wp2_with (at_builtin; refine Kd.R_append k101 (w0 := w) w.heap.size rfl (.tmp 10) (.tmp 14) 44 101 (.agg #[(.int .i64 0), (.int .u8 0), (.int .i64 0)]) 24 rfl Try.underlying44 info101 rfl (by decide) (by omega) u2 (abcT.take 4) (⟨1, 99, 0⟩ : S101) [.int .i64 1, .int .u8 99, .int .i64 0] (fun _ => True) (fun _ => False) rfl rfl (k101_mkM _ _ _ (⟨1, 99, 0⟩ : S101)) (fun _ hk => hk.elim) (fun _ _ => trivial) HT.out HB.out HB.out.size ?aL4 ?aN4)
   case aL4 => simp [abcT]
   case aN4 =>
    intro v1 w1 ho hb hg hat
    have HI1 := Aside0.mk (Kd.R_over' HI.out (Kd.R_typed HT.out) (by decide) hg)
    have HT1 : Aside0 (Kd.R k101 101 w1 w.heap.size (fun _ => True) v1 (abcT.take (4 + 1))) := Aside0.mk ho
    have HB1 := Aside0.mk hb
    clear HI HT HB ho hb hg hat
    go_wp2_with (at_builtin; refine Kd.R_append k43 (w0 := w) w.heap.size rfl (.tmp 23) (.tmp 25) 22 43 (.agg #[(.int .i64 0), (.int .i64 0), (.int .i64 0), (.int .i64 0), (.int .i64 0)]) 40 rfl Try.underlying22 info43 rfl (by decide) (by omega) u3 (abcI.take 4) (⟨1, 10, 0, 0, 4⟩ : S43) [.int .i64 1, .int .i64 10, .int .i64 0, .int .i64 0, .int .i64 4] (fun _ => True) (fun _ => False) rfl (by first | (go_simp; done) | (go_simp; rfl)) (k43_mkM _ _ _ (⟨1, 10, 0, 0, 4⟩ : S43)) (fun _ hk => hk.elim) (fun _ _ => trivial) (Kd.R_alloc HI1.out _) (HB1.out.alloc HB1.out.size _) (by have := HB1.out.size; simp; omega) ?bL4 ?bN4)
    case bL4 => simp [abcI]
    case bN4 =>
     intro v2 w2 ho hb hg hat
     have HT2 := Aside0.mk (Kd.R_over' (Kd.R_alloc HT1.out _) (Kd.R_typed (Kd.R_alloc HI1.out _)) (by decide) hg)
     have HI2 : Aside0 (Kd.R k43 43 w2 w.heap.size (fun _ => True) v2 (abcI.take (4 + 1))) := Aside0.mk ho
     have HB2 := Aside0.mk hb
     clear HI1 HT1 HB1 ho hb hg hat
     go_wp2
     refine ⟨⟨4 + 1, by simp, by omega, HT2, HI2, HB2⟩, by simp [intOf]⟩
end Go.Proofs.Ytbddfnmhhmkfkaa.Pr
