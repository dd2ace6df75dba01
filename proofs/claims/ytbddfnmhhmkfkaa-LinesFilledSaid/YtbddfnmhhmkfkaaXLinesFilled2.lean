/- Texts of this seat, one behind the other. -/
import Derived.RangeFuncBox
import Derived.Maps.AppendAt
import Derived.WalkKit
import Derived.Test.YtbddfnmhhmkfkaaXLinesFilled1
namespace Go.Proofs.Ytbddfnmhhmkfkaa.Pr
open Go.RowKit Go.Proofs.YtbddfnmhhmkfkaaW.PrintWords Go.Proofs.YtbddfnmhhmkfkaaW.PrintLast Go.Proofs.YtbddfnmhhmkfkaaW.PrintMore
attribute [local go_sem] max2_int min2_int max_two min_two max_three min_three max_four min_four
set_option linter.unusedVariables false
set_option linter.unusedSimpArgs false
mutual
def bfl.j0 : Nat → Int → List (S43) → Int → List (S85) → Int → Int → Int → Int → Bool → Option (Int × Int × Int × Int × Bool)
 | 0, _, _, _, _, _, _, _, _, _ => none
 | k + 1, x2, x114000, x114001, x114002, x121000, x121001, x121002, x121003, x121004 => if (wrap64 (x114001 - x121000)) < 0 then (bfl.j1 k (wrap64 (-(wrap64 (x114001 - x121000)))) x121002 x114000 x114001 x114002 x121000 x121001 x121002 x121003 x121004) else (if x2 = (x114000.length : Int) then (bfl.j1 k 0 x121001 x114000 x114001 x114002 x121000 x121001 x121002 x121003 x121004) else (bfl.j1 k (wrap64 (x114001 - x121000)) x121001 x114000 x114001 x114002 x121000 x121001 x121002 x121003 x121004))
def bfl.j1 : Nat → Int → Int → List (S43) → Int → List (S85) → Int → Int → Int → Int → Bool → Option (Int × Int × Int × Int × Bool)
 | 0, _, _, _, _, _, _, _, _, _, _ => none
 | k + 1, x8, x9, x114000, x114001, x114002, x121000, x121001, x121002, x121003, x121004 => if x8 = 0 then (some (x121000, x121001, x121002, x121003, decide ((wrap64 (x121000 - x121002)) > x114001))) else (if x9 = 0 then (some (x121000, x121001, x121002, 1024, decide ((wrap64 (x121000 - x121002)) > x114001))) else (some (x121000, x121001, x121002, mn (wrap64 (Int.tdiv (wrap64 (x8 * 128)) x9)) 1024, decide ((wrap64 (x121000 - x121002)) > x114001))))
end
def bfl.f (k : Nat) (l0_0 : List (S43)) (a0_1 : Int) (l0_2 : List (S85)) (a1 : Int) (a2 : Int) : Option (Int × Int × Int × Int × Bool) := if 0 ≤ a2 then (if a2 < (l0_2.length : Int) then (if 0 ≤ (wrap64 (a1 + 1)) then (if (wrap64 (a1 + 1)) < (l0_2.length : Int) then ((best_sums_less.f ((rd_T85 l0_2 a2).f0) ((rd_T85 l0_2 a2).f1) ((rd_T85 l0_2 a2).f2) ((rd_T85 l0_2 (wrap64 (a1 + 1))).f0) ((rd_T85 l0_2 (wrap64 (a1 + 1))).f1) ((rd_T85 l0_2 (wrap64 (a1 + 1))).f2)).bind fun bt117 => ((best_flow_hyphen.f l0_0 a0_1 l0_2 a2).bind fun t121 => (if t121 = true then (if a2 < (l0_0.length : Int) then (bfl.j0 k a2 l0_0 a0_1 l0_2 (wrap64 (bt117.1 + ((rd_T43 l0_0 a2).f1))) bt117.2.1 bt117.2.2 0 false) else (none)) else (bfl.j0 k a2 l0_0 a0_1 l0_2 bt117.1 bt117.2.1 bt117.2.2 0 false)))) else (none)) else (none)) else (none)) else (none)
theorem bfl.mono_l : ∀ k, (∀ y0 y1 y2 y3 y4 y5 y6 y7 y8, LeO (bfl.j0 k y0 y1 y2 y3 y4 y5 y6 y7 y8) (bfl.j0 (k + 1) y0 y1 y2 y3 y4 y5 y6 y7 y8)) ∧ (∀ y0 y1 y2 y3 y4 y5 y6 y7 y8 y9, LeO (bfl.j1 k y0 y1 y2 y3 y4 y5 y6 y7 y8 y9) (bfl.j1 (k + 1) y0 y1 y2 y3 y4 y5 y6 y7 y8 y9))
 | 0 => ⟨fun _ _ _ _ _ _ _ _ _ r h => by simp [bfl.j0] at h, fun _ _ _ _ _ _ _ _ _ _ r h => by simp [bfl.j1] at h⟩
 | k + 1 => by
  obtain ⟨ih0, ih1⟩ := bfl.mono_l k
  refine ⟨?_, ?_⟩
  ·intro y0 y1 y2 y3 y4 y5 y6 y7 y8
   unfold bfl.j0
   repeat' first
   | (with_reducible exact ih0 _ _ _ _ _ _ _ _ _)
   | (with_reducible exact ih1 _ _ _ _ _ _ _ _ _ _)
   | (with_reducible exact LeO.refl _)
   | (with_reducible exact LeO.none _)
   | (with_reducible refine LeO.ite ?_ ?_)
   | (with_reducible refine LeO.bind ?_ (fun _ => ?_))
   | exact ih0 _ _ _ _ _ _ _ _ _
   | exact ih1 _ _ _ _ _ _ _ _ _ _
   | exact LeO.none _
   | refine LeO.ite ?_ ?_
   | refine LeO.bind ?_ (fun _ => ?_)
  ·intro y0 y1 y2 y3 y4 y5 y6 y7 y8 y9
   unfold bfl.j1
   repeat' first
   | (with_reducible exact ih0 _ _ _ _ _ _ _ _ _)
   | (with_reducible exact ih1 _ _ _ _ _ _ _ _ _ _)
   | (with_reducible exact LeO.refl _)
   | (with_reducible exact LeO.none _)
   | (with_reducible refine LeO.ite ?_ ?_)
   | (with_reducible refine LeO.bind ?_ (fun _ => ?_))
   | exact ih0 _ _ _ _ _ _ _ _ _
   | exact ih1 _ _ _ _ _ _ _ _ _ _
   | exact LeO.none _
   | refine LeO.ite ?_ ?_
   | refine LeO.bind ?_ (fun _ => ?_)
theorem bfl.mono : ∀ a0 a1 a2 a3 a4 k, LeO (bfl.f k a0 a1 a2 a3 a4) (bfl.f (k + 1) a0 a1 a2 a3 a4) := by
 intro a0 a1 a2 a3 a4 k
 obtain ⟨ih0, ih1⟩ := bfl.mono_l k
 unfold bfl.f
 repeat' first
   | (with_reducible exact ih0 _ _ _ _ _ _ _ _ _)
   | (with_reducible exact ih1 _ _ _ _ _ _ _ _ _ _)
   | (with_reducible exact LeO.refl _)
   | (with_reducible exact LeO.none _)
   | (with_reducible refine LeO.ite ?_ ?_)
   | (with_reducible refine LeO.bind ?_ (fun _ => ?_))
   | exact ih0 _ _ _ _ _ _ _ _ _
   | exact ih1 _ _ _ _ _ _ _ _ _ _
   | exact LeO.none _
   | refine LeO.ite ?_ ?_
   | refine LeO.bind ?_ (fun _ => ?_)
def bfl.T1 : Bool × List (List Nat × List Nat) := (true, [([], []), ([0], [0]), ([], []), ([1, 2], [1, 2]), ([3], [3]), ([], []), ([5], [5]), ([], []), ([7], [7]), ([6, 8], [6, 8]), ([9], [9]), ([4, 10], [4, 10]), ([11], [11]), ([], []), ([13, 12, 11, 0, 1, 2, 3, 4, 5, 6, 7, 8, 9, 10, 11, 12, 13], [12, 13])])
def bfl.B1 : List Nat := [0, 1, 0, 7, 15, 0, 32, 0, 128, 480, 992, 2047, 4095, 0, 16383]
theorem bfl.tab1 : rtab .any (opsOf Try.f54 1) = bfl.T1 := by kernel_rfl
theorem bfl.bits1 : waitsOk bfl.T1.2 bfl.B1 = true := by kernel_rfl
def bfl.T3 : Bool × List (List Nat × List Nat) := (true, [([], []), ([0], [0]), ([1], [1]), ([], []), ([3], [3]), ([], []), ([4, 5], [4, 5]), ([6], [6]), ([7], [7]), ([2, 8], [2, 8]), ([0, 1, 2, 3, 4, 5, 6, 7, 8, 9], []), ([10, 0, 1, 2, 3, 4, 5, 6, 7, 8, 9], [10]), ([11, 9, 0, 1, 2, 3, 4, 5, 6, 7, 8, 9], [9, 11])])
def bfl.B3 : List Nat := [0, 1, 3, 0, 8, 0, 56, 120, 248, 511, 1023, 2047, 4095]
theorem bfl.tab3 : rtab .any (opsOf Try.f54 3) = bfl.T3 := by kernel_rfl
theorem bfl.bits3 : waitsOk bfl.T3.2 bfl.B3 = true := by kernel_rfl
def bfl.T4 : Bool × List (List Nat × List Nat) := (true, [([], []), ([0], [0]), ([], []), ([2], [2]), ([3], [3]), ([1, 4], [1, 4]), ([], []), ([6], [6]), ([7], [7]), ([5, 0, 1, 2, 3, 4, 5], [5]), ([8, 9, 0, 1, 2, 3, 4, 5, 6, 7, 8, 9], [8])])
def bfl.B4 : List Nat := [0, 1, 0, 4, 12, 31, 0, 64, 192, 63, 1023]
theorem bfl.tab4 : rtab .any (opsOf Try.f54 4) = bfl.T4 := by kernel_rfl
theorem bfl.bits4 : waitsOk bfl.T4.2 bfl.B4 = true := by kernel_rfl
set_option maxHeartbeats 8000000 in
set_option maxRecDepth 100000 in
theorem bfl.calls (k : Nat) (A0_0 : Option Addr) (c0_0 : Nat) (l0_0 : List (S43)) (a0_1 : Int) (A0_2 : Option Addr) (c0_2 : Nat) (l0_2 : List (S85)) (a1 : Int) (a2 : Int) (r1 : Int) (r2 : Int) (r3 : Int) (r4 : Int) (r5 : Bool) (w : World) (hr0_0 : Kd.C k43 w A0_0 l0_0.length l0_0) (hc0_0 : l0_0.length ≤ c0_0) (hr0_2 : Kd.C k85 w A0_2 l0_2.length l0_2) (hc0_2 : l0_2.length ≤ c0_2) (h : bfl.f k l0_0 a0_1 l0_2 a1 a2 = some (r1, r2, r3, r4, r5)) :
  Calls Try.prog 54 #[.agg #[.slice A0_0 l0_0.length c0_0, .int .i64 a0_1, .slice A0_2 l0_2.length c0_2], .int .i64 a1, .int .i64 a2] w fun e w' => e = .returned (.agg #[.int .i64 r1, .int .i64 r2, .int .i64 r3, .int .i64 r4, .bool r5]) ∧ Below w.heap.size w w' := by
 have hu67 := Try.underlying67
 have hu87 := Try.underlying87
 have hu85 := Try.underlying85
 have HR0_0 := Aside0.mk hr0_0
 have HC0_0 := Aside0.mk hc0_0
 clear hr0_0 hc0_0
 have HR0_2 := Aside0.mk hr0_2
 have HC0_2 := Aside0.mk hc0_2
 clear hr0_2 hc0_2
 have HB := Aside0.mk (Below.refl w.heap.size w)
 have H : (if 0 ≤ a2 then (if a2 < (l0_2.length : Int) then (if 0 ≤ (wrap64 (a1 + 1)) then (if (wrap64 (a1 + 1)) < (l0_2.length : Int) then ((best_sums_less.f ((rd_T85 l0_2 a2).f0) ((rd_T85 l0_2 a2).f1) ((rd_T85 l0_2 a2).f2) ((rd_T85 l0_2 (wrap64 (a1 + 1))).f0) ((rd_T85 l0_2 (wrap64 (a1 + 1))).f1) ((rd_T85 l0_2 (wrap64 (a1 + 1))).f2)).bind fun bt117 => ((best_flow_hyphen.f l0_0 a0_1 l0_2 a2).bind fun t121 => (if t121 = true then (if a2 < (l0_0.length : Int) then (bfl.j0 k a2 l0_0 a0_1 l0_2 (wrap64 (bt117.1 + ((rd_T43 l0_0 a2).f1))) bt117.2.1 bt117.2.2 0 false) else (none)) else (bfl.j0 k a2 l0_0 a0_1 l0_2 bt117.1 bt117.2.1 bt117.2.2 0 false)))) else (none)) else (none)) else (none)) else (none)) = some (r1, r2, r3, r4, r5) := h
 clear h
 by_cases c4 : 0 ≤ a2
 ·rw [if_pos c4] at H
  have c4b0 : decide (0 ≤ a2) = true := decide_eq_true c4
  clear c4
  by_cases c5 : a2 < (l0_2.length : Int)
  ·rw [if_pos c5] at H
   have c5b0 : decide (a2 < (l0_2.length : Int)) = true := decide_eq_true c5
   clear c5
   obtain ⟨ji6, hji6⟩ : ∃ j_ : Int, (wrap64 (a1 + 1)) = j_ := ⟨_, rfl⟩
   replace H : (if 0 ≤ (ji6) then (if (ji6) < (l0_2.length : Int) then ((best_sums_less.f ((rd_T85 l0_2 a2).f0) ((rd_T85 l0_2 a2).f1) ((rd_T85 l0_2 a2).f2) ((rd_T85 l0_2 (ji6)).f0) ((rd_T85 l0_2 (ji6)).f1) ((rd_T85 l0_2 (ji6)).f2)).bind fun bt117 => ((best_flow_hyphen.f l0_0 a0_1 l0_2 a2).bind fun t121 => (if t121 = true then (if a2 < (l0_0.length : Int) then (bfl.j0 k a2 l0_0 a0_1 l0_2 (wrap64 (bt117.1 + ((rd_T43 l0_0 a2).f1))) bt117.2.1 bt117.2.2 0 false) else (none)) else (bfl.j0 k a2 l0_0 a0_1 l0_2 bt117.1 bt117.2.1 bt117.2.2 0 false)))) else (none)) else (none)) = some (r1, r2, r3, r4, r5) := by first | (rw [hji6] at H; exact H) | (simp only [hji6] at H ⊢; exact H)
   have hji6w : (IntKind.i64.wrap (a1 + 1)) = ji6 := (i64_w _).trans hji6
   by_cases c7 : 0 ≤ (ji6)
   ·rw [if_pos c7] at H
    have c7b0 : decide (0 ≤ (ji6)) = true := decide_eq_true c7
    clear c7
    by_cases c8 : (ji6) < (l0_2.length : Int)
    ·rw [if_pos c8] at H
     have c8b0 : decide ((ji6) < (l0_2.length : Int)) = true := decide_eq_true c8
     clear c8
     replace H := Option.bind_eq_some_iff.mp H
     obtain ⟨⟨t117, t118, t119⟩, A90, H⟩ := H
     replace H : ((best_flow_hyphen.f l0_0 a0_1 l0_2 a2).bind fun t121 => (if t121 = true then (if a2 < (l0_0.length : Int) then (bfl.j0 k a2 l0_0 a0_1 l0_2 (wrap64 (t117 + ((rd_T43 l0_0 a2).f1))) t118 t119 0 false) else (none)) else (bfl.j0 k a2 l0_0 a0_1 l0_2 t117 t118 t119 0 false))) = some (r1, r2, r3, r4, r5) := H
     have A9 := Aside0.mk A90
     clear A90
     replace H := Option.bind_eq_some_iff.mp H
     obtain ⟨t121, A100, H⟩ := H
     replace H : (if t121 = true then (if a2 < (l0_0.length : Int) then (bfl.j0 k a2 l0_0 a0_1 l0_2 (wrap64 (t117 + ((rd_T43 l0_0 a2).f1))) t118 t119 0 false) else (none)) else (bfl.j0 k a2 l0_0 a0_1 l0_2 t117 t118 t119 0 false)) = some (r1, r2, r3, r4, r5) := H
     have A10 := Aside0.mk A100
     clear A100
     have HC11 := Aside0.mk H
     clear H
     go_enter Try.func54, Try.ntmps54
     try go_wp2_with (first | ((with_reducible refine gate_dst (N := 3) rfl ?_); refine box_event ?hg (N := 3) ?hd (cs := #[.slice A0_0 l0_0.length c0_0, .int .i64 a0_1, .slice A0_2 l0_2.length c0_2]) (t := 67) ?hr ?_; (case hd => rfl); (case hg => rfl); (case hr => first | (go_simp; done) | (go_simp; rfl)); intro gb113 hg w12 hbox hb; have n0_ := Aside0.mk (below_step (by repeat (first | (with_reducible first | exact HB.out | apply below_alloc | apply pw_below_drewN | apply below_drew1) | exact HB.out)) hb); have n1_ := Aside0.mk (hbox); have n2_ := Aside0.mk ((by rw [hg]; exact (below_size (by repeat (first | (with_reducible first | exact HB.out | apply below_alloc | apply pw_below_drewN | apply below_drew1) | exact HB.out))) : w.heap.size ≤ gb113)); have n3_ := Aside0.mk ((by rw [hg]; exact (below_size (by repeat (first | (with_reducible first | exact HB.out | apply below_alloc | apply pw_below_drewN | apply below_drew1) | exact HB.out))) : w.heap.size ≤ gb113)); clear HB; have HB := n0_; have BK113 := n1_; have GW113 := n2_; have GE113 := n3_; clear n0_ n1_ n2_ n3_; clear hb hbox hg) | ((with_reducible refine gate_dst (N := 6) rfl ?_); refine box_event ?hg (N := 6) ?hd (cs := #[.int .i64 0, .int .i64 0, .int .i64 0, .int .i64 0, .bool false]) (t := 87) ?hr ?_; (case hd => rfl); (case hg => rfl); (case hr => first | (go_simp; done) | (go_simp; rfl)); intro gb114 hg w13 hbox hb; have n0_ := Aside0.mk (blk_below (g := gb113) (o := .cells #[.slice A0_0 l0_0.length c0_0, .int .i64 a0_1, .slice A0_2 l0_2.length c0_2] 67 (0, 0)) (by (with_reducible repeat (first | refine blk_drewN ?_ _ | refine blk_drew ?_ | refine blk_alloc ?_ _)); exact BK113.out) hb); have n1_ := Aside0.mk (below_step (by repeat (first | (with_reducible first | exact HB.out | apply below_alloc | apply pw_below_drewN | apply below_drew1 | refine below_set ?_ GE113.out) | exact HB.out)) hb); have n2_ := Aside0.mk (hbox); have n3_ := Aside0.mk ((by rw [hg]; exact (below_size (by repeat (first | (with_reducible first | exact HB.out | apply below_alloc | apply pw_below_drewN | apply below_drew1 | refine below_set ?_ GE113.out) | exact HB.out))) : w.heap.size ≤ gb114)); have n4_ := Aside0.mk ((by rw [hg]; exact (below_size (by repeat (first | (with_reducible first | exact HB.out | apply below_alloc | apply pw_below_drewN | apply below_drew1 | refine below_set ?_ GE113.out) | exact HB.out))) : w.heap.size ≤ gb114)); have n5_ := Aside0.mk ((by rw [hg]; exact Nat.ne_of_lt (blk_lt (g := gb113) (o := .cells #[.slice A0_0 l0_0.length c0_0, .int .i64 a0_1, .slice A0_2 l0_2.length c0_2] 67 (0, 0)) (by (with_reducible repeat (first | refine blk_drewN ?_ _ | refine blk_drew ?_ | refine blk_alloc ?_ _)); exact BK113.out)) : gb113 ≠ gb114)); have n6_ := Aside0.mk ((by rw [hg]; exact Nat.ne_of_gt (blk_lt (g := gb113) (o := .cells #[.slice A0_0 l0_0.length c0_0, .int .i64 a0_1, .slice A0_2 l0_2.length c0_2] 67 (0, 0)) (by (with_reducible repeat (first | refine blk_drewN ?_ _ | refine blk_drew ?_ | refine blk_alloc ?_ _)); exact BK113.out)) : gb114 ≠ gb113)); clear BK113; clear HB; have BK113 := n0_; have HB := n1_; have BK114 := n2_; have GW114 := n3_; have GE114 := n4_; have NB113_114 := n5_; have NB114_113 := n6_; clear n0_ n1_ n2_ n3_ n4_ n5_ n6_; clear hb hbox hg))
     have n0_ := Aside0.mk (blk_drew BK113.out)
     have n1_ := Aside0.mk (blk_drew BK114.out)
     have n2_ := Aside0.mk (below_drew1 HB.out)
     clear BK113 BK114 HB
     have BK113 := n0_
     have BK114 := n1_
     have HB := n2_
     clear n0_ n1_ n2_
     have p115 : 0 ≤ (a2 : Int) := of_decide_eq_true (by first | (with_reducible assumption) | assumption)
     have q115 : a2 < (l0_2.length : Int) := of_decide_eq_true (by first | (with_reducible assumption) | assumption)
     obtain ⟨ad115, e115, hx115_0, hx115_1, hx115_2⟩ := at_T85 HR0_2.out a2 p115 q115
     have hw115_2 := hx115_2
     have hw115_1 := hx115_1
     have hw115_0 := hx115_0
     cases e115
     replace hx115_0 := (HB.out.cell (World.block_lt_of_cell? w _ hx115_0)).trans hx115_0
     replace hx115_1 := (HB.out.cell (World.block_lt_of_cell? w _ hx115_1)).trans hx115_1
     replace hx115_2 := (HB.out.cell (World.block_lt_of_cell? w _ hx115_2)).trans hx115_2
     replace p115 := eq_true p115
     replace q115 := eq_true q115
     have p116 : 0 ≤ ((ji6) : Int) := of_decide_eq_true (by first | (with_reducible assumption) | assumption)
     have q116 : (ji6) < (l0_2.length : Int) := of_decide_eq_true (by first | (with_reducible assumption) | assumption)
     obtain ⟨ad116, e116, hx116_0, hx116_1, hx116_2⟩ := at_T85 HR0_2.out (ji6) p116 q116
     have hw116_2 := hx116_2
     have hw116_1 := hx116_1
     have hw116_0 := hx116_0
     obtain rfl : ad115 = ad116 := (by injection e116)
     replace hx116_0 := (HB.out.cell (World.block_lt_of_cell? w _ hx116_0)).trans hx116_0
     replace hx116_1 := (HB.out.cell (World.block_lt_of_cell? w _ hx116_1)).trans hx116_1
     replace hx116_2 := (HB.out.cell (World.block_lt_of_cell? w _ hx116_2)).trans hx116_2
     replace p116 := eq_true p116
     replace q116 := eq_true q116
     refine start_ (n := 15) (S := fun w' => w'.cell? ⟨gb113, 0, none⟩ = some (.slice A0_0 l0_0.length c0_0) ∧ w'.cell? ⟨gb113, 1, none⟩ = some (.int .i64 a0_1) ∧ w'.cell? ⟨gb113, 2, none⟩ = some (.slice (some ad115) l0_2.length c0_2) ∧ w'.cell? (ad115.add ((a2).toNat * 3)) = some (.int .i64 ((rd_T85 l0_2 a2).f0)) ∧ w'.cell? ⟨(ad115.add ((a2).toNat * 3)).block, (ad115.add ((a2).toNat * 3)).off + 1, none⟩ = some (.int .i64 ((rd_T85 l0_2 a2).f1)) ∧ w'.cell? ⟨(ad115.add ((a2).toNat * 3)).block, (ad115.add ((a2).toNat * 3)).off + 2, none⟩ = some (.int .i64 ((rd_T85 l0_2 a2).f2)) ∧ w'.cell? (ad115.add (((ji6)).toNat * 3)) = some (.int .i64 ((rd_T85 l0_2 (ji6)).f0)) ∧ w'.cell? ⟨(ad115.add (((ji6)).toNat * 3)).block, (ad115.add (((ji6)).toNat * 3)).off + 1, none⟩ = some (.int .i64 ((rd_T85 l0_2 (ji6)).f1)) ∧ w'.cell? ⟨(ad115.add (((ji6)).toNat * 3)).block, (ad115.add (((ji6)).toNat * 3)).off + 2, none⟩ = some (.int .i64 ((rd_T85 l0_2 (ji6)).f2))) (ds := []) #[false, false, false, false, false, false, false, false, false, false, false, false, false, false, false] (by kernel_rfl) rfl rfl ⟨(blk_cell BK113.out 0).trans rfl, (blk_cell BK113.out 1).trans rfl, (blk_cell BK113.out 2).trans rfl, ((HB.out.cell (World.block_lt_of_cell? w _ hw115_0)).trans hw115_0), ((HB.out.cell (World.block_lt_of_cell? w _ hw115_1)).trans hw115_1), ((HB.out.cell (World.block_lt_of_cell? w _ hw115_2)).trans hw115_2), ((HB.out.cell (World.block_lt_of_cell? w _ hw116_0)).trans hw116_0), ((HB.out.cell (World.block_lt_of_cell? w _ hw116_1)).trans hw116_1), ((HB.out.cell (World.block_lt_of_cell? w _ hw116_2)).trans hw116_2)⟩ (fun hHeld => ?_); refine with_tabW bfl.tab1 bfl.bits1 (fun HT_ HW_ => ?_)
     generalize w13.drew = w14 at BK113 BK114 HB hx115_0 hx115_1 hx115_2 hx116_0 hx116_1 hx116_2 hHeld ⊢
     refine pure_ (i := 0) (N := some 10) (v := ?_) (a' := ?_) #[true, false, false, false, false, false, false, false, false, false, false, false, false, false, false] rfl rfl (any_of HT_.out (by kernel_rfl)) (fun _ _ _ h => h) (Or.inl ⟨by rfl, ?_⟩) ?_ ?_
     rotate_left
     ·intro w'
      go_simp
      with_reducible rfl
     rotate_left
     ·simp only [Act.put, List.setIfInBounds_toArray, List.set_cons_zero, List.set_cons_succ, i64_w, i32_w]
      rfl
     refine pure_ (i := 2) (N := some 12) (v := ?_) (a' := ?_) #[true, false, true, false, false, false, false, false, false, false, false, false, false, false, false] rfl rfl (any_of HT_.out (by kernel_rfl)) (fun _ _ _ h => h) (Or.inl ⟨by rfl, ?_⟩) ?_ ?_
     rotate_left
     ·intro w'
      go_simp
      with_reducible rfl
     rotate_left
     ·simp only [Act.put, List.setIfInBounds_toArray, List.set_cons_zero, List.set_cons_succ, i64_w, i32_w]
      rfl
     refine pure_ (i := 5) (N := some 15) (v := ?_) (a' := ?_) #[true, false, true, false, false, true, false, false, false, false, false, false, false, false, false] rfl rfl (any_of HT_.out (by kernel_rfl)) (fun _ _ _ h => h) (Or.inl ⟨by rfl, ?_⟩) ?_ ?_
     rotate_left
     ·intro w'
      go_simp
      with_reducible rfl
     rotate_left
     ·simp only [Act.put, List.setIfInBounds_toArray, List.set_cons_zero, List.set_cons_succ, i64_w, i32_w]
      rfl
     refine pure_ (i := 7) (N := some 17) (v := ?_) (a' := ?_) #[true, false, true, false, false, true, false, true, false, false, false, false, false, false, false] rfl rfl (any_of HT_.out (by kernel_rfl)) (fun _ _ _ h => h) (Or.inl ⟨by rfl, ?_⟩) ?_ ?_
     rotate_left
     ·intro w'
      go_simp
      with_reducible rfl
     rotate_left
     ·simp only [Act.put, List.setIfInBounds_toArray, List.set_cons_zero, List.set_cons_succ, i64_w, i32_w]
      rfl
     refine pure_ (i := 8) (N := some 18) (v := ?_) (a' := ?_) #[true, false, true, false, false, true, false, true, true, false, false, false, false, false, false] rfl rfl (any_of HT_.out (by kernel_rfl)) (fun _ _ _ h => h) (Or.inl ⟨by rfl, ?_⟩) ?_ ?_
     rotate_left
     ·intro w'
      go_simp
      with_reducible rfl
     rotate_left
     ·simp only [Act.put, List.setIfInBounds_toArray, List.set_cons_zero, List.set_cons_succ, i64_w, i32_w]
      rfl
     refine take_ (i := 1) (N := some 11) (v := ?_) (a' := ?_) #[true, true, true, false, false, true, false, true, true, false, false, false, false, false, false] rfl rfl (take_ofW HT_.out HW_.out (by kernel_rfl)) (fun _ _ _ h => h) (Or.inl ⟨by rfl, ?_⟩) hHeld ?_ ?_
     rotate_left
     ·rintro w' ⟨s0, s1, s2, s3, s4, s5, s6, s7, s8⟩
      go_simp
      with_reducible rfl
     rotate_left
     ·simp only [Act.put, List.setIfInBounds_toArray, List.set_cons_zero, List.set_cons_succ, i64_w, i32_w]
      rfl
     refine pure_ (i := 3) (N := some 13) (v := ?_) (a' := ?_) #[true, true, true, true, false, true, false, true, true, false, false, false, false, false, false] rfl rfl (any_of HT_.out (by kernel_rfl)) (fun _ _ _ h => h) (Or.inl ⟨by rfl, ?_⟩) ?_ ?_
     rotate_left
     ·intro w'
      go_simp
      with_reducible rfl
     rotate_left
     ·simp only [Act.put, List.setIfInBounds_toArray, List.set_cons_zero, List.set_cons_succ, i64_w, i32_w]
      rfl
     refine take_ (i := 4) (N := some 14) (v := ?_) (a' := ?_) #[true, true, true, true, true, true, false, true, true, false, false, false, false, false, false] rfl rfl (take_ofW HT_.out HW_.out (by kernel_rfl)) (fun _ _ _ h => h) (Or.inl ⟨by rfl, ?_⟩) hHeld ?_ ?_
     rotate_left
     ·rintro w' ⟨s0, s1, s2, s3, s4, s5, s6, s7, s8⟩
      go_simp
      with_reducible rfl
     rotate_left
     ·simp only [Act.put, List.setIfInBounds_toArray, List.set_cons_zero, List.set_cons_succ, i64_w, i32_w]
      rfl
     refine take_ (i := 6) (N := some 16) (v := ?_) (a' := ?_) #[true, true, true, true, true, true, true, true, true, false, false, false, false, false, false] rfl rfl (take_ofW HT_.out HW_.out (by kernel_rfl)) (fun _ _ _ h => h) (Or.inl ⟨by rfl, ?_⟩) hHeld ?_ ?_
     rotate_left
     ·rintro w' ⟨s0, s1, s2, s3, s4, s5, s6, s7, s8⟩
      go_simp
      with_reducible rfl
     rotate_left
     ·simp only [Act.put, List.setIfInBounds_toArray, List.set_cons_zero, List.set_cons_succ, i64_w, i32_w]
      rfl
     refine pure_ (i := 9) (N := some 19) (v := ?_) (a' := ?_) #[true, true, true, true, true, true, true, true, true, true, false, false, false, false, false] rfl rfl (any_of HT_.out (by kernel_rfl)) (fun _ _ _ h => h) (Or.inl ⟨by rfl, ?_⟩) ?_ ?_
     rotate_left
     ·intro w'
      go_simp
      with_reducible rfl
     rotate_left
     ·simp only [Act.put, List.setIfInBounds_toArray, List.set_cons_zero, List.set_cons_succ, i64_w, i32_w]
      rfl
     refine take_ (i := 10) (N := some 20) (v := ?_) (a' := ?_) #[true, true, true, true, true, true, true, true, true, true, true, false, false, false, false] rfl rfl (take_ofW HT_.out HW_.out (by kernel_rfl)) (fun _ _ _ h => h) (Or.inl ⟨by rfl, ?_⟩) hHeld ?_ ?_
     rotate_left
     ·rintro w' ⟨s0, s1, s2, s3, s4, s5, s6, s7, s8⟩
      go_simp
      with_reducible rfl
     rotate_left
     ·simp only [Act.put, List.setIfInBounds_toArray, List.set_cons_zero, List.set_cons_succ, i64_w, i32_w]
      rfl
     refine join_ (σ := Nat) 1 #[true, true, true, true, true, true, true, true, true, true, true, true, true, true, false] (fun s_ => [(21, .agg #[.int .i64 t117, .int .i64 t118, .int .i64 t119]), (7, .pointer (some ⟨s_, 0, none⟩)), (22, .agg #[.int .i64 t117, .int .i64 t118, .int .i64 t119, .int .i64 0, .bool false])]) (fun s_ w' => (w'.cell? ⟨gb113, 0, none⟩ = some (.slice A0_0 l0_0.length c0_0) ∧ w'.cell? ⟨gb113, 1, none⟩ = some (.int .i64 a0_1) ∧ w'.cell? ⟨gb113, 2, none⟩ = some (.slice (some ad115) l0_2.length c0_2) ∧ w'.cell? (ad115.add ((a2).toNat * 3)) = some (.int .i64 ((rd_T85 l0_2 a2).f0)) ∧ w'.cell? ⟨(ad115.add ((a2).toNat * 3)).block, (ad115.add ((a2).toNat * 3)).off + 1, none⟩ = some (.int .i64 ((rd_T85 l0_2 a2).f1)) ∧ w'.cell? ⟨(ad115.add ((a2).toNat * 3)).block, (ad115.add ((a2).toNat * 3)).off + 2, none⟩ = some (.int .i64 ((rd_T85 l0_2 a2).f2)) ∧ w'.cell? (ad115.add (((ji6)).toNat * 3)) = some (.int .i64 ((rd_T85 l0_2 (ji6)).f0)) ∧ w'.cell? ⟨(ad115.add (((ji6)).toNat * 3)).block, (ad115.add (((ji6)).toNat * 3)).off + 1, none⟩ = some (.int .i64 ((rd_T85 l0_2 (ji6)).f1)) ∧ w'.cell? ⟨(ad115.add (((ji6)).toNat * 3)).block, (ad115.add (((ji6)).toNat * 3)).off + 2, none⟩ = some (.int .i64 ((rd_T85 l0_2 (ji6)).f2))) ∧ (w'.heap[gb113]? = some (.cells #[.slice A0_0 l0_0.length c0_0, .int .i64 a0_1, .slice (some ad115) l0_2.length c0_2] 67 (0, 0))) ∧ (w'.heap[gb114]? = some (.cells #[.int .i64 0, .int .i64 0, .int .i64 0, .int .i64 0, .bool false] 87 (0, 0))) ∧ (w'.heap[s_]? = some (.cells #[.int .i64 0, .int .i64 0, .int .i64 0, .int .i64 0, .bool false] 87 (0, 0))) ∧ (w.heap.size ≤ s_) ∧ (w.heap.size ≤ s_) ∧ (gb113 ≠ s_) ∧ (s_ ≠ gb113) ∧ (gb114 ≠ s_) ∧ (s_ ≠ gb114) ∧ (Below w.heap.size w w')) ?_ ?_
     rotate_left
     ·intro hCont
      refine two_ (i := 11) (j := 13) (Ni := some 21) (Nj := some 7) #[true, true, true, true, true, true, true, true, true, true, true, true, false, false, false] #[true, true, true, true, true, true, true, true, true, true, true, false, false, true, false] rfl rfl rfl rfl (two_of HT_.out (by kernel_rfl)) (by decide) (by decide) (fun K hK => ?_) (fun K hK => ?_)
      ·skip
       refine goes_ Try.func77 (by kernel_rfl) rfl #[.agg #[.int .i64 ((rd_T85 l0_2 a2).f0), .int .i64 ((rd_T85 l0_2 a2).f1), .int .i64 ((rd_T85 l0_2 a2).f2)], .agg #[.int .i64 ((rd_T85 l0_2 (ji6)).f0), .int .i64 ((rd_T85 l0_2 (ji6)).f1), .int .i64 ((rd_T85 l0_2 (ji6)).f2)]] (by rfl) rfl rfl (by (try simp only [List.map_toArray, List.map_cons, List.map_nil]); first | done | (simp only [hji6]; rfl) | rfl | (simp only [List.length_drop, List.length_take]; rfl)) ?_
       with_reducible refine (best_sums_less.calls ((rd_T85 l0_2 a2).f0) ((rd_T85 l0_2 a2).f1) ((rd_T85 l0_2 a2).f2) ((rd_T85 l0_2 (ji6)).f0) ((rd_T85 l0_2 (ji6)).f1) ((rd_T85 l0_2 (ji6)).f2) t117 t118 t119 _ A9.out).mono ?_
       rintro e w15 ⟨rfl, hb⟩
       refine ⟨_, rfl, ?_⟩
       have n0_ := Aside0.mk (blk_below (g := gb113) (o := .cells #[.slice A0_0 l0_0.length c0_0, .int .i64 a0_1, .slice (some ad115) l0_2.length c0_2] 67 (0, 0)) (by (with_reducible repeat (first | refine blk_drewN ?_ _ | refine blk_drew ?_ | refine blk_alloc ?_ _)); exact BK113.out) hb)
       have n1_ := Aside0.mk (blk_below (g := gb114) (o := .cells #[.int .i64 0, .int .i64 0, .int .i64 0, .int .i64 0, .bool false] 87 (0, 0)) (by (with_reducible repeat (first | refine blk_drewN ?_ _ | refine blk_drew ?_ | refine blk_alloc ?_ _)); exact BK114.out) hb)
       have n2_ := Aside0.mk (below_step (by repeat (first | (with_reducible first | exact HB.out | apply below_alloc | apply pw_below_drewN | apply below_drew1 | refine below_set ?_ GE113.out | refine below_set ?_ GE114.out) | exact HB.out)) hb)
       clear BK113 BK114 HB
       have BK113 := n0_
       have BK114 := n1_
       have HB := n2_
       clear n0_ n1_ n2_
       (try clear hb)
       (try clear hb2)
       (try clear hk)
       (try clear hi)
       refine hK.out _ _ ⟨(blk_cell BK113.out 0).trans rfl, (blk_cell BK113.out 1).trans rfl, (blk_cell BK113.out 2).trans rfl, ((HB.out.cell (World.block_lt_of_cell? w _ hw115_0)).trans hw115_0), ((HB.out.cell (World.block_lt_of_cell? w _ hw115_1)).trans hw115_1), ((HB.out.cell (World.block_lt_of_cell? w _ hw115_2)).trans hw115_2), ((HB.out.cell (World.block_lt_of_cell? w _ hw116_0)).trans hw116_0), ((HB.out.cell (World.block_lt_of_cell? w _ hw116_1)).trans hw116_1), ((HB.out.cell (World.block_lt_of_cell? w _ hw116_2)).trans hw116_2)⟩ (fun hHeld => ?_)
       clear hK K
       refine norm_ (a' := ?_) ?_ ?_
       rotate_left
       ·show Act.put _ (some 21) _ = _
        simp only [Act.put, List.setIfInBounds_toArray, List.set_cons_zero, List.set_cons_succ, i64_w, i32_w]
        rfl
       refine pure_ (i := 12) (N := some 22) (v := ?_) (a' := ?_) #[true, true, true, true, true, true, true, true, true, true, true, true, true, false, false] rfl rfl (any_of HT_.out (by kernel_rfl)) (fun _ _ _ h => h) (Or.inl ⟨by rfl, ?_⟩) ?_ ?_
       rotate_left
       ·intro w'
        go_simp
        with_reducible rfl
       rotate_left
       ·simp only [Act.put, List.setIfInBounds_toArray, List.set_cons_zero, List.set_cons_succ, i64_w, i32_w]
        rfl
       refine one_ (i := 13) (N := some 7) #[true, true, true, true, true, true, true, true, true, true, true, true, true, true, false] rfl rfl (one_of HT_.out (by kernel_rfl)) (by decide) (fun K hK => ?_)
       refine box_step ?hg (N := 7) ?hd (cs := #[.int .i64 0, .int .i64 0, .int .i64 0, .int .i64 0, .bool false]) (t := 87) ?hr ?_; (case hd => rfl); (case hg => rfl); (case hr => first | (go_simp; done) | (go_simp; rfl))
       intro gb120 hg w16 hbox hb
       have n0_ := Aside0.mk (blk_below (g := gb113) (o := .cells #[.slice A0_0 l0_0.length c0_0, .int .i64 a0_1, .slice (some ad115) l0_2.length c0_2] 67 (0, 0)) (by (with_reducible repeat (first | refine blk_drewN ?_ _ | refine blk_drew ?_ | refine blk_alloc ?_ _)); exact BK113.out) hb)
       have n1_ := Aside0.mk (blk_below (g := gb114) (o := .cells #[.int .i64 0, .int .i64 0, .int .i64 0, .int .i64 0, .bool false] 87 (0, 0)) (by (with_reducible repeat (first | refine blk_drewN ?_ _ | refine blk_drew ?_ | refine blk_alloc ?_ _)); exact BK114.out) hb)
       have n2_ := Aside0.mk (below_step (by repeat (first | (with_reducible first | exact HB.out | apply below_alloc | apply pw_below_drewN | apply below_drew1 | refine below_set ?_ GE113.out | refine below_set ?_ GE114.out) | exact HB.out)) hb)
       have n3_ := Aside0.mk (hbox)
       have n4_ := Aside0.mk ((by rw [hg]; exact (below_size (by repeat (first | (with_reducible first | exact HB.out | apply below_alloc | apply pw_below_drewN | apply below_drew1 | refine below_set ?_ GE113.out | refine below_set ?_ GE114.out) | exact HB.out))) : w.heap.size ≤ gb120))
       have n5_ := Aside0.mk ((by rw [hg]; exact (below_size (by repeat (first | (with_reducible first | exact HB.out | apply below_alloc | apply pw_below_drewN | apply below_drew1 | refine below_set ?_ GE113.out | refine below_set ?_ GE114.out) | exact HB.out))) : w.heap.size ≤ gb120))
       have n6_ := Aside0.mk ((by rw [hg]; exact Nat.ne_of_lt (blk_lt (g := gb113) (o := .cells #[.slice A0_0 l0_0.length c0_0, .int .i64 a0_1, .slice (some ad115) l0_2.length c0_2] 67 (0, 0)) (by (with_reducible repeat (first | refine blk_drewN ?_ _ | refine blk_drew ?_ | refine blk_alloc ?_ _)); exact BK113.out)) : gb113 ≠ gb120))
       have n7_ := Aside0.mk ((by rw [hg]; exact Nat.ne_of_gt (blk_lt (g := gb113) (o := .cells #[.slice A0_0 l0_0.length c0_0, .int .i64 a0_1, .slice (some ad115) l0_2.length c0_2] 67 (0, 0)) (by (with_reducible repeat (first | refine blk_drewN ?_ _ | refine blk_drew ?_ | refine blk_alloc ?_ _)); exact BK113.out)) : gb120 ≠ gb113))
       have n8_ := Aside0.mk ((by rw [hg]; exact Nat.ne_of_lt (blk_lt (g := gb114) (o := .cells #[.int .i64 0, .int .i64 0, .int .i64 0, .int .i64 0, .bool false] 87 (0, 0)) (by (with_reducible repeat (first | refine blk_drewN ?_ _ | refine blk_drew ?_ | refine blk_alloc ?_ _)); exact BK114.out)) : gb114 ≠ gb120))
       have n9_ := Aside0.mk ((by rw [hg]; exact Nat.ne_of_gt (blk_lt (g := gb114) (o := .cells #[.int .i64 0, .int .i64 0, .int .i64 0, .int .i64 0, .bool false] 87 (0, 0)) (by (with_reducible repeat (first | refine blk_drewN ?_ _ | refine blk_drew ?_ | refine blk_alloc ?_ _)); exact BK114.out)) : gb120 ≠ gb114))
       clear BK113 BK114 HB
       have BK113 := n0_
       have BK114 := n1_
       have HB := n2_
       have BK120 := n3_
       have GW120 := n4_
       have GE120 := n5_
       have NB113_120 := n6_
       have NB120_113 := n7_
       have NB114_120 := n8_
       have NB120_114 := n9_
       clear n0_ n1_ n2_ n3_ n4_ n5_ n6_ n7_ n8_ n9_ hb hbox hg
       refine hK.out _ _ ⟨(blk_cell BK113.out 0).trans rfl, (blk_cell BK113.out 1).trans rfl, (blk_cell BK113.out 2).trans rfl, ((HB.out.cell (World.block_lt_of_cell? w _ hw115_0)).trans hw115_0), ((HB.out.cell (World.block_lt_of_cell? w _ hw115_1)).trans hw115_1), ((HB.out.cell (World.block_lt_of_cell? w _ hw115_2)).trans hw115_2), ((HB.out.cell (World.block_lt_of_cell? w _ hw116_0)).trans hw116_0), ((HB.out.cell (World.block_lt_of_cell? w _ hw116_1)).trans hw116_1), ((HB.out.cell (World.block_lt_of_cell? w _ hw116_2)).trans hw116_2)⟩ (fun hHeld => ?_)
       clear hK K
       refine norm_ (a' := ?_) ?_ ?_
       rotate_left
       ·show Act.put _ (some 7) _ = _
        simp only [Act.put, List.setIfInBounds_toArray, List.set_cons_zero, List.set_cons_succ, i64_w, i32_w]
        rfl
       exact norm_ (by simp only [putAll, Act.put, List.setIfInBounds_toArray, List.set_cons_zero, List.set_cons_succ]) (hCont (gb120) _ ⟨hHeld, (by (with_reducible repeat (first | refine blk_drewN ?_ _ | refine blk_drew ?_ | refine blk_alloc ?_ _)); exact BK113.out), (by (with_reducible repeat (first | refine blk_drewN ?_ _ | refine blk_drew ?_ | refine blk_alloc ?_ _)); exact BK114.out), (by (with_reducible repeat (first | refine blk_drewN ?_ _ | refine blk_drew ?_ | refine blk_alloc ?_ _)); exact BK120.out), GW120.out, GE120.out, NB113_120.out, NB120_113.out, NB114_120.out, NB120_114.out, (by repeat (first | (with_reducible first | exact HB.out | apply below_alloc | apply pw_below_drewN | apply below_drew1 | refine below_set ?_ GE113.out | refine below_set ?_ GE114.out | refine below_set ?_ GE120.out) | exact HB.out))⟩)
      ·skip
       refine box_step ?hg (N := 7) ?hd (cs := #[.int .i64 0, .int .i64 0, .int .i64 0, .int .i64 0, .bool false]) (t := 87) ?hr ?_; (case hd => rfl); (case hg => rfl); (case hr => first | (go_simp; done) | (go_simp; rfl))
       intro gb120 hg w15 hbox hb
       have n0_ := Aside0.mk (blk_below (g := gb113) (o := .cells #[.slice A0_0 l0_0.length c0_0, .int .i64 a0_1, .slice (some ad115) l0_2.length c0_2] 67 (0, 0)) (by (with_reducible repeat (first | refine blk_drewN ?_ _ | refine blk_drew ?_ | refine blk_alloc ?_ _)); exact BK113.out) hb)
       have n1_ := Aside0.mk (blk_below (g := gb114) (o := .cells #[.int .i64 0, .int .i64 0, .int .i64 0, .int .i64 0, .bool false] 87 (0, 0)) (by (with_reducible repeat (first | refine blk_drewN ?_ _ | refine blk_drew ?_ | refine blk_alloc ?_ _)); exact BK114.out) hb)
       have n2_ := Aside0.mk (below_step (by repeat (first | (with_reducible first | exact HB.out | apply below_alloc | apply pw_below_drewN | apply below_drew1 | refine below_set ?_ GE113.out | refine below_set ?_ GE114.out) | exact HB.out)) hb)
       have n3_ := Aside0.mk (hbox)
       have n4_ := Aside0.mk ((by rw [hg]; exact (below_size (by repeat (first | (with_reducible first | exact HB.out | apply below_alloc | apply pw_below_drewN | apply below_drew1 | refine below_set ?_ GE113.out | refine below_set ?_ GE114.out) | exact HB.out))) : w.heap.size ≤ gb120))
       have n5_ := Aside0.mk ((by rw [hg]; exact (below_size (by repeat (first | (with_reducible first | exact HB.out | apply below_alloc | apply pw_below_drewN | apply below_drew1 | refine below_set ?_ GE113.out | refine below_set ?_ GE114.out) | exact HB.out))) : w.heap.size ≤ gb120))
       have n6_ := Aside0.mk ((by rw [hg]; exact Nat.ne_of_lt (blk_lt (g := gb113) (o := .cells #[.slice A0_0 l0_0.length c0_0, .int .i64 a0_1, .slice (some ad115) l0_2.length c0_2] 67 (0, 0)) (by (with_reducible repeat (first | refine blk_drewN ?_ _ | refine blk_drew ?_ | refine blk_alloc ?_ _)); exact BK113.out)) : gb113 ≠ gb120))
       have n7_ := Aside0.mk ((by rw [hg]; exact Nat.ne_of_gt (blk_lt (g := gb113) (o := .cells #[.slice A0_0 l0_0.length c0_0, .int .i64 a0_1, .slice (some ad115) l0_2.length c0_2] 67 (0, 0)) (by (with_reducible repeat (first | refine blk_drewN ?_ _ | refine blk_drew ?_ | refine blk_alloc ?_ _)); exact BK113.out)) : gb120 ≠ gb113))
       have n8_ := Aside0.mk ((by rw [hg]; exact Nat.ne_of_lt (blk_lt (g := gb114) (o := .cells #[.int .i64 0, .int .i64 0, .int .i64 0, .int .i64 0, .bool false] 87 (0, 0)) (by (with_reducible repeat (first | refine blk_drewN ?_ _ | refine blk_drew ?_ | refine blk_alloc ?_ _)); exact BK114.out)) : gb114 ≠ gb120))
       have n9_ := Aside0.mk ((by rw [hg]; exact Nat.ne_of_gt (blk_lt (g := gb114) (o := .cells #[.int .i64 0, .int .i64 0, .int .i64 0, .int .i64 0, .bool false] 87 (0, 0)) (by (with_reducible repeat (first | refine blk_drewN ?_ _ | refine blk_drew ?_ | refine blk_alloc ?_ _)); exact BK114.out)) : gb120 ≠ gb114))
       clear BK113 BK114 HB
       have BK113 := n0_
       have BK114 := n1_
       have HB := n2_
       have BK120 := n3_
       have GW120 := n4_
       have GE120 := n5_
       have NB113_120 := n6_
       have NB120_113 := n7_
       have NB114_120 := n8_
       have NB120_114 := n9_
       clear n0_ n1_ n2_ n3_ n4_ n5_ n6_ n7_ n8_ n9_ hb hbox hg
       refine hK.out _ _ ⟨(blk_cell BK113.out 0).trans rfl, (blk_cell BK113.out 1).trans rfl, (blk_cell BK113.out 2).trans rfl, ((HB.out.cell (World.block_lt_of_cell? w _ hw115_0)).trans hw115_0), ((HB.out.cell (World.block_lt_of_cell? w _ hw115_1)).trans hw115_1), ((HB.out.cell (World.block_lt_of_cell? w _ hw115_2)).trans hw115_2), ((HB.out.cell (World.block_lt_of_cell? w _ hw116_0)).trans hw116_0), ((HB.out.cell (World.block_lt_of_cell? w _ hw116_1)).trans hw116_1), ((HB.out.cell (World.block_lt_of_cell? w _ hw116_2)).trans hw116_2)⟩ (fun hHeld => ?_)
       clear hK K
       refine norm_ (a' := ?_) ?_ ?_
       rotate_left
       ·show Act.put _ (some 7) _ = _
        simp only [Act.put, List.setIfInBounds_toArray, List.set_cons_zero, List.set_cons_succ, i64_w, i32_w]
        rfl
       refine one_ (i := 11) (N := some 21) #[true, true, true, true, true, true, true, true, true, true, true, true, false, true, false] rfl rfl (one_of HT_.out (by kernel_rfl)) (by decide) (fun K hK => ?_)
       refine goes_ Try.func77 (by kernel_rfl) rfl #[.agg #[.int .i64 ((rd_T85 l0_2 a2).f0), .int .i64 ((rd_T85 l0_2 a2).f1), .int .i64 ((rd_T85 l0_2 a2).f2)], .agg #[.int .i64 ((rd_T85 l0_2 (ji6)).f0), .int .i64 ((rd_T85 l0_2 (ji6)).f1), .int .i64 ((rd_T85 l0_2 (ji6)).f2)]] (by rfl) rfl rfl (by (try simp only [List.map_toArray, List.map_cons, List.map_nil]); first | done | (simp only [hji6]; rfl) | rfl | (simp only [List.length_drop, List.length_take]; rfl)) ?_
       with_reducible refine (best_sums_less.calls ((rd_T85 l0_2 a2).f0) ((rd_T85 l0_2 a2).f1) ((rd_T85 l0_2 a2).f2) ((rd_T85 l0_2 (ji6)).f0) ((rd_T85 l0_2 (ji6)).f1) ((rd_T85 l0_2 (ji6)).f2) t117 t118 t119 _ A9.out).mono ?_
       rintro e w16 ⟨rfl, hb⟩
       refine ⟨_, rfl, ?_⟩
       have n0_ := Aside0.mk (blk_below (g := gb113) (o := .cells #[.slice A0_0 l0_0.length c0_0, .int .i64 a0_1, .slice (some ad115) l0_2.length c0_2] 67 (0, 0)) (by (with_reducible repeat (first | refine blk_drewN ?_ _ | refine blk_drew ?_ | refine blk_alloc ?_ _)); exact BK113.out) hb)
       have n1_ := Aside0.mk (blk_below (g := gb114) (o := .cells #[.int .i64 0, .int .i64 0, .int .i64 0, .int .i64 0, .bool false] 87 (0, 0)) (by (with_reducible repeat (first | refine blk_drewN ?_ _ | refine blk_drew ?_ | refine blk_alloc ?_ _)); exact BK114.out) hb)
       have n2_ := Aside0.mk (blk_below (g := gb120) (o := .cells #[.int .i64 0, .int .i64 0, .int .i64 0, .int .i64 0, .bool false] 87 (0, 0)) (by (with_reducible repeat (first | refine blk_drewN ?_ _ | refine blk_drew ?_ | refine blk_alloc ?_ _)); exact BK120.out) hb)
       have n3_ := Aside0.mk (below_step (by repeat (first | (with_reducible first | exact HB.out | apply below_alloc | apply pw_below_drewN | apply below_drew1 | refine below_set ?_ GE113.out | refine below_set ?_ GE114.out | refine below_set ?_ GE120.out) | exact HB.out)) hb)
       clear BK113 BK114 BK120 HB
       have BK113 := n0_
       have BK114 := n1_
       have BK120 := n2_
       have HB := n3_
       clear n0_ n1_ n2_ n3_
       (try clear hb)
       (try clear hb2)
       (try clear hk)
       (try clear hi)
       refine hK.out _ _ ⟨(blk_cell BK113.out 0).trans rfl, (blk_cell BK113.out 1).trans rfl, (blk_cell BK113.out 2).trans rfl, ((HB.out.cell (World.block_lt_of_cell? w _ hw115_0)).trans hw115_0), ((HB.out.cell (World.block_lt_of_cell? w _ hw115_1)).trans hw115_1), ((HB.out.cell (World.block_lt_of_cell? w _ hw115_2)).trans hw115_2), ((HB.out.cell (World.block_lt_of_cell? w _ hw116_0)).trans hw116_0), ((HB.out.cell (World.block_lt_of_cell? w _ hw116_1)).trans hw116_1), ((HB.out.cell (World.block_lt_of_cell? w _ hw116_2)).trans hw116_2)⟩ (fun hHeld => ?_)
       clear hK K
       refine norm_ (a' := ?_) ?_ ?_
       rotate_left
       ·show Act.put _ (some 21) _ = _
        simp only [Act.put, List.setIfInBounds_toArray, List.set_cons_zero, List.set_cons_succ, i64_w, i32_w]
        rfl
       refine pure_ (i := 12) (N := some 22) (v := ?_) (a' := ?_) #[true, true, true, true, true, true, true, true, true, true, true, true, true, true, false] rfl rfl (any_of HT_.out (by kernel_rfl)) (fun _ _ _ h => h) (Or.inl ⟨by rfl, ?_⟩) ?_ ?_
       rotate_left
       ·intro w'
        go_simp
        with_reducible rfl
       rotate_left
       ·simp only [Act.put, List.setIfInBounds_toArray, List.set_cons_zero, List.set_cons_succ, i64_w, i32_w]
        rfl
       exact norm_ (by simp only [putAll, Act.put, List.setIfInBounds_toArray, List.set_cons_zero, List.set_cons_succ]) (hCont (gb120) _ ⟨hHeld, (by (with_reducible repeat (first | refine blk_drewN ?_ _ | refine blk_drew ?_ | refine blk_alloc ?_ _)); exact BK113.out), (by (with_reducible repeat (first | refine blk_drewN ?_ _ | refine blk_drew ?_ | refine blk_alloc ?_ _)); exact BK114.out), (by (with_reducible repeat (first | refine blk_drewN ?_ _ | refine blk_drew ?_ | refine blk_alloc ?_ _)); exact BK120.out), GW120.out, GE120.out, NB113_120.out, NB120_113.out, NB114_120.out, NB120_114.out, (by repeat (first | (with_reducible first | exact HB.out | apply below_alloc | apply pw_below_drewN | apply below_drew1 | refine below_set ?_ GE113.out | refine below_set ?_ GE114.out | refine below_set ?_ GE120.out) | exact HB.out))⟩)
     rintro gb120 w17 ⟨hS_, h0_, h1_, h2_, h3_, h4_, h5_, h6_, h7_, h8_, h9_⟩
     have n0_ : Aside0 (w17.heap[gb113]? = some (.cells #[.slice A0_0 l0_0.length c0_0, .int .i64 a0_1, .slice (some ad115) l0_2.length c0_2] 67 (0, 0))) := ⟨h0_⟩
     have n1_ : Aside0 (w17.heap[gb114]? = some (.cells #[.int .i64 0, .int .i64 0, .int .i64 0, .int .i64 0, .bool false] 87 (0, 0))) := ⟨h1_⟩
     have n2_ : Aside0 (w17.heap[gb120]? = some (.cells #[.int .i64 0, .int .i64 0, .int .i64 0, .int .i64 0, .bool false] 87 (0, 0))) := ⟨h2_⟩
     have n3_ : Aside0 (w.heap.size ≤ gb120) := ⟨h3_⟩
     have n4_ : Aside0 (w.heap.size ≤ gb120) := ⟨h4_⟩
     have n5_ : Aside0 (gb113 ≠ gb120) := ⟨h5_⟩
     have n6_ : Aside0 (gb120 ≠ gb113) := ⟨h6_⟩
     have n7_ : Aside0 (gb114 ≠ gb120) := ⟨h7_⟩
     have n8_ : Aside0 (gb120 ≠ gb114) := ⟨h8_⟩
     have n9_ : Aside0 (Below w.heap.size w w17) := ⟨h9_⟩
     clear BK113 BK114 HB h0_ h1_ h2_ h3_ h4_ h5_ h6_ h7_ h8_ h9_
     have BK113 := n0_
     have BK114 := n1_
     have BK120 := n2_
     have GW120 := n3_
     have GE120 := n4_
     have NB113_120 := n5_
     have NB120_113 := n6_
     have NB114_120 := n7_
     have NB120_114 := n8_
     have HB := n9_
     clear n0_ n1_ n2_ n3_ n4_ n5_ n6_ n7_ n8_ n9_
     have hHeld : w17.cell? ⟨gb113, 0, none⟩ = some (.slice A0_0 l0_0.length c0_0) ∧ w17.cell? ⟨gb113, 1, none⟩ = some (.int .i64 a0_1) ∧ w17.cell? ⟨gb113, 2, none⟩ = some (.slice (some ad115) l0_2.length c0_2) ∧ w17.cell? (ad115.add ((a2).toNat * 3)) = some (.int .i64 ((rd_T85 l0_2 a2).f0)) ∧ w17.cell? ⟨(ad115.add ((a2).toNat * 3)).block, (ad115.add ((a2).toNat * 3)).off + 1, none⟩ = some (.int .i64 ((rd_T85 l0_2 a2).f1)) ∧ w17.cell? ⟨(ad115.add ((a2).toNat * 3)).block, (ad115.add ((a2).toNat * 3)).off + 2, none⟩ = some (.int .i64 ((rd_T85 l0_2 a2).f2)) ∧ w17.cell? (ad115.add (((ji6)).toNat * 3)) = some (.int .i64 ((rd_T85 l0_2 (ji6)).f0)) ∧ w17.cell? ⟨(ad115.add (((ji6)).toNat * 3)).block, (ad115.add (((ji6)).toNat * 3)).off + 1, none⟩ = some (.int .i64 ((rd_T85 l0_2 (ji6)).f1)) ∧ w17.cell? ⟨(ad115.add (((ji6)).toNat * 3)).block, (ad115.add (((ji6)).toNat * 3)).off + 2, none⟩ = some (.int .i64 ((rd_T85 l0_2 (ji6)).f2)) := hS_
     refine norm_ (a' := ?_) ?_ ?_
     rotate_left
     ·simp only [putAll, Act.put, List.setIfInBounds_toArray, List.set_cons_zero, List.set_cons_succ]
      rfl
     refine one_ (i := 14) (N := none) #[true, true, true, true, true, true, true, true, true, true, true, true, true, true, true] rfl rfl (one_of HT_.out (by kernel_rfl)) (by decide) (fun K hK => ?_)
     have hs18 : w17.cell? ⟨gb120, 0, none⟩ = some (.int .i64 0) := (blk_cell BK120.out 0).trans rfl
     have hfs18 := blk_frozen BK120.out 0
     have hns18_0 := NB113_120.out
     have hns18_1 := NB114_120.out
     have hms18_0 := NB120_113.out
     have hms18_1 := NB120_114.out
     have hs19 : w17.cell? ⟨gb120, 1, none⟩ = some (.int .i64 0) := (blk_cell BK120.out 1).trans rfl
     have hfs19 := blk_frozen BK120.out 1
     have hns19_0 := NB113_120.out
     have hns19_1 := NB114_120.out
     have hms19_0 := NB120_113.out
     have hms19_1 := NB120_114.out
     have hs20 : w17.cell? ⟨gb120, 2, none⟩ = some (.int .i64 0) := (blk_cell BK120.out 2).trans rfl
     have hfs20 := blk_frozen BK120.out 2
     have hns20_0 := NB113_120.out
     have hns20_1 := NB114_120.out
     have hms20_0 := NB120_113.out
     have hms20_1 := NB120_114.out
     have hs21 : w17.cell? ⟨gb120, 3, none⟩ = some (.int .i64 0) := (blk_cell BK120.out 3).trans rfl
     have hfs21 := blk_frozen BK120.out 3
     have hns21_0 := NB113_120.out
     have hns21_1 := NB114_120.out
     have hms21_0 := NB120_113.out
     have hms21_1 := NB120_114.out
     have hs22 : w17.cell? ⟨gb120, 4, none⟩ = some (.bool false) := (blk_cell BK120.out 4).trans rfl
     have hfs22 := blk_frozen BK120.out 4
     have hns22_0 := NB113_120.out
     have hns22_1 := NB114_120.out
     have hms22_0 := NB120_113.out
     have hms22_1 := NB120_114.out
     refine skip_ (w1 := ?_) (by rfl) rfl ?_ ?_
     rotate_left
     ·go_simp
      rfl
     refine hK.out _ _ ⟨((cell_far (p := ⟨gb120, _, none⟩) NB113_120.out _).trans (((cell_far (p := ⟨gb120, _, none⟩) NB113_120.out _).trans (((cell_far (p := ⟨gb120, _, none⟩) NB113_120.out _).trans (((cell_far (p := ⟨gb120, _, none⟩) NB113_120.out _).trans (((cell_far (p := ⟨gb120, _, none⟩) NB113_120.out _).trans (hHeld.1)))))))))), ((cell_far (p := ⟨gb120, _, none⟩) NB113_120.out _).trans (((cell_far (p := ⟨gb120, _, none⟩) NB113_120.out _).trans (((cell_far (p := ⟨gb120, _, none⟩) NB113_120.out _).trans (((cell_far (p := ⟨gb120, _, none⟩) NB113_120.out _).trans (((cell_far (p := ⟨gb120, _, none⟩) NB113_120.out _).trans (hHeld.2.1)))))))))), ((cell_far (p := ⟨gb120, _, none⟩) NB113_120.out _).trans (((cell_far (p := ⟨gb120, _, none⟩) NB113_120.out _).trans (((cell_far (p := ⟨gb120, _, none⟩) NB113_120.out _).trans (((cell_far (p := ⟨gb120, _, none⟩) NB113_120.out _).trans (((cell_far (p := ⟨gb120, _, none⟩) NB113_120.out _).trans (hHeld.2.2.1)))))))))), ((cell_far (p := ⟨gb120, _, none⟩) (by first | exact Nat.ne_of_lt (Nat.lt_of_lt_of_le (by have := World.block_lt_of_cell? _ _ hw115_0; first | rwa [add_block] at this | exact this) GW120.out) | (rw [add_block]; exact Nat.ne_of_lt (Nat.lt_of_lt_of_le (by have := World.block_lt_of_cell? _ _ hw115_0; first | rwa [add_block] at this | exact this) GW120.out)) | (show (Addr.add _ _).block ≠ _; rw [add_block]; exact Nat.ne_of_lt (Nat.lt_of_lt_of_le (by have := World.block_lt_of_cell? _ _ hw115_0; first | rwa [add_block] at this | exact this) GW120.out)) | (dsimp only; exact Nat.ne_of_lt (Nat.lt_of_lt_of_le (by have := World.block_lt_of_cell? _ _ hw115_0; first | rwa [add_block] at this | exact this) GW120.out))) _).trans (((cell_far (p := ⟨gb120, _, none⟩) (by first | exact Nat.ne_of_lt (Nat.lt_of_lt_of_le (by have := World.block_lt_of_cell? _ _ hw115_0; first | rwa [add_block] at this | exact this) GW120.out) | (rw [add_block]; exact Nat.ne_of_lt (Nat.lt_of_lt_of_le (by have := World.block_lt_of_cell? _ _ hw115_0; first | rwa [add_block] at this | exact this) GW120.out)) | (show (Addr.add _ _).block ≠ _; rw [add_block]; exact Nat.ne_of_lt (Nat.lt_of_lt_of_le (by have := World.block_lt_of_cell? _ _ hw115_0; first | rwa [add_block] at this | exact this) GW120.out)) | (dsimp only; exact Nat.ne_of_lt (Nat.lt_of_lt_of_le (by have := World.block_lt_of_cell? _ _ hw115_0; first | rwa [add_block] at this | exact this) GW120.out))) _).trans (((cell_far (p := ⟨gb120, _, none⟩) (by first | exact Nat.ne_of_lt (Nat.lt_of_lt_of_le (by have := World.block_lt_of_cell? _ _ hw115_0; first | rwa [add_block] at this | exact this) GW120.out) | (rw [add_block]; exact Nat.ne_of_lt (Nat.lt_of_lt_of_le (by have := World.block_lt_of_cell? _ _ hw115_0; first | rwa [add_block] at this | exact this) GW120.out)) | (show (Addr.add _ _).block ≠ _; rw [add_block]; exact Nat.ne_of_lt (Nat.lt_of_lt_of_le (by have := World.block_lt_of_cell? _ _ hw115_0; first | rwa [add_block] at this | exact this) GW120.out)) | (dsimp only; exact Nat.ne_of_lt (Nat.lt_of_lt_of_le (by have := World.block_lt_of_cell? _ _ hw115_0; first | rwa [add_block] at this | exact this) GW120.out))) _).trans (((cell_far (p := ⟨gb120, _, none⟩) (by first | exact Nat.ne_of_lt (Nat.lt_of_lt_of_le (by have := World.block_lt_of_cell? _ _ hw115_0; first | rwa [add_block] at this | exact this) GW120.out) | (rw [add_block]; exact Nat.ne_of_lt (Nat.lt_of_lt_of_le (by have := World.block_lt_of_cell? _ _ hw115_0; first | rwa [add_block] at this | exact this) GW120.out)) | (show (Addr.add _ _).block ≠ _; rw [add_block]; exact Nat.ne_of_lt (Nat.lt_of_lt_of_le (by have := World.block_lt_of_cell? _ _ hw115_0; first | rwa [add_block] at this | exact this) GW120.out)) | (dsimp only; exact Nat.ne_of_lt (Nat.lt_of_lt_of_le (by have := World.block_lt_of_cell? _ _ hw115_0; first | rwa [add_block] at this | exact this) GW120.out))) _).trans (((cell_far (p := ⟨gb120, _, none⟩) (by first | exact Nat.ne_of_lt (Nat.lt_of_lt_of_le (by have := World.block_lt_of_cell? _ _ hw115_0; first | rwa [add_block] at this | exact this) GW120.out) | (rw [add_block]; exact Nat.ne_of_lt (Nat.lt_of_lt_of_le (by have := World.block_lt_of_cell? _ _ hw115_0; first | rwa [add_block] at this | exact this) GW120.out)) | (show (Addr.add _ _).block ≠ _; rw [add_block]; exact Nat.ne_of_lt (Nat.lt_of_lt_of_le (by have := World.block_lt_of_cell? _ _ hw115_0; first | rwa [add_block] at this | exact this) GW120.out)) | (dsimp only; exact Nat.ne_of_lt (Nat.lt_of_lt_of_le (by have := World.block_lt_of_cell? _ _ hw115_0; first | rwa [add_block] at this | exact this) GW120.out))) _).trans (hHeld.2.2.2.1)))))))))), ((cell_far (p := ⟨gb120, _, none⟩) (by first | exact Nat.ne_of_lt (Nat.lt_of_lt_of_le (by have := World.block_lt_of_cell? _ _ hw115_1; first | rwa [add_block] at this | exact this) GW120.out) | (rw [add_block]; exact Nat.ne_of_lt (Nat.lt_of_lt_of_le (by have := World.block_lt_of_cell? _ _ hw115_1; first | rwa [add_block] at this | exact this) GW120.out)) | (show (Addr.add _ _).block ≠ _; rw [add_block]; exact Nat.ne_of_lt (Nat.lt_of_lt_of_le (by have := World.block_lt_of_cell? _ _ hw115_1; first | rwa [add_block] at this | exact this) GW120.out)) | (dsimp only; exact Nat.ne_of_lt (Nat.lt_of_lt_of_le (by have := World.block_lt_of_cell? _ _ hw115_1; first | rwa [add_block] at this | exact this) GW120.out))) _).trans (((cell_far (p := ⟨gb120, _, none⟩) (by first | exact Nat.ne_of_lt (Nat.lt_of_lt_of_le (by have := World.block_lt_of_cell? _ _ hw115_1; first | rwa [add_block] at this | exact this) GW120.out) | (rw [add_block]; exact Nat.ne_of_lt (Nat.lt_of_lt_of_le (by have := World.block_lt_of_cell? _ _ hw115_1; first | rwa [add_block] at this | exact this) GW120.out)) | (show (Addr.add _ _).block ≠ _; rw [add_block]; exact Nat.ne_of_lt (Nat.lt_of_lt_of_le (by have := World.block_lt_of_cell? _ _ hw115_1; first | rwa [add_block] at this | exact this) GW120.out)) | (dsimp only; exact Nat.ne_of_lt (Nat.lt_of_lt_of_le (by have := World.block_lt_of_cell? _ _ hw115_1; first | rwa [add_block] at this | exact this) GW120.out))) _).trans (((cell_far (p := ⟨gb120, _, none⟩) (by first | exact Nat.ne_of_lt (Nat.lt_of_lt_of_le (by have := World.block_lt_of_cell? _ _ hw115_1; first | rwa [add_block] at this | exact this) GW120.out) | (rw [add_block]; exact Nat.ne_of_lt (Nat.lt_of_lt_of_le (by have := World.block_lt_of_cell? _ _ hw115_1; first | rwa [add_block] at this | exact this) GW120.out)) | (show (Addr.add _ _).block ≠ _; rw [add_block]; exact Nat.ne_of_lt (Nat.lt_of_lt_of_le (by have := World.block_lt_of_cell? _ _ hw115_1; first | rwa [add_block] at this | exact this) GW120.out)) | (dsimp only; exact Nat.ne_of_lt (Nat.lt_of_lt_of_le (by have := World.block_lt_of_cell? _ _ hw115_1; first | rwa [add_block] at this | exact this) GW120.out))) _).trans (((cell_far (p := ⟨gb120, _, none⟩) (by first | exact Nat.ne_of_lt (Nat.lt_of_lt_of_le (by have := World.block_lt_of_cell? _ _ hw115_1; first | rwa [add_block] at this | exact this) GW120.out) | (rw [add_block]; exact Nat.ne_of_lt (Nat.lt_of_lt_of_le (by have := World.block_lt_of_cell? _ _ hw115_1; first | rwa [add_block] at this | exact this) GW120.out)) | (show (Addr.add _ _).block ≠ _; rw [add_block]; exact Nat.ne_of_lt (Nat.lt_of_lt_of_le (by have := World.block_lt_of_cell? _ _ hw115_1; first | rwa [add_block] at this | exact this) GW120.out)) | (dsimp only; exact Nat.ne_of_lt (Nat.lt_of_lt_of_le (by have := World.block_lt_of_cell? _ _ hw115_1; first | rwa [add_block] at this | exact this) GW120.out))) _).trans (((cell_far (p := ⟨gb120, _, none⟩) (by first | exact Nat.ne_of_lt (Nat.lt_of_lt_of_le (by have := World.block_lt_of_cell? _ _ hw115_1; first | rwa [add_block] at this | exact this) GW120.out) | (rw [add_block]; exact Nat.ne_of_lt (Nat.lt_of_lt_of_le (by have := World.block_lt_of_cell? _ _ hw115_1; first | rwa [add_block] at this | exact this) GW120.out)) | (show (Addr.add _ _).block ≠ _; rw [add_block]; exact Nat.ne_of_lt (Nat.lt_of_lt_of_le (by have := World.block_lt_of_cell? _ _ hw115_1; first | rwa [add_block] at this | exact this) GW120.out)) | (dsimp only; exact Nat.ne_of_lt (Nat.lt_of_lt_of_le (by have := World.block_lt_of_cell? _ _ hw115_1; first | rwa [add_block] at this | exact this) GW120.out))) _).trans (hHeld.2.2.2.2.1)))))))))), ((cell_far (p := ⟨gb120, _, none⟩) (by first | exact Nat.ne_of_lt (Nat.lt_of_lt_of_le (by have := World.block_lt_of_cell? _ _ hw115_2; first | rwa [add_block] at this | exact this) GW120.out) | (rw [add_block]; exact Nat.ne_of_lt (Nat.lt_of_lt_of_le (by have := World.block_lt_of_cell? _ _ hw115_2; first | rwa [add_block] at this | exact this) GW120.out)) | (show (Addr.add _ _).block ≠ _; rw [add_block]; exact Nat.ne_of_lt (Nat.lt_of_lt_of_le (by have := World.block_lt_of_cell? _ _ hw115_2; first | rwa [add_block] at this | exact this) GW120.out)) | (dsimp only; exact Nat.ne_of_lt (Nat.lt_of_lt_of_le (by have := World.block_lt_of_cell? _ _ hw115_2; first | rwa [add_block] at this | exact this) GW120.out))) _).trans (((cell_far (p := ⟨gb120, _, none⟩) (by first | exact Nat.ne_of_lt (Nat.lt_of_lt_of_le (by have := World.block_lt_of_cell? _ _ hw115_2; first | rwa [add_block] at this | exact this) GW120.out) | (rw [add_block]; exact Nat.ne_of_lt (Nat.lt_of_lt_of_le (by have := World.block_lt_of_cell? _ _ hw115_2; first | rwa [add_block] at this | exact this) GW120.out)) | (show (Addr.add _ _).block ≠ _; rw [add_block]; exact Nat.ne_of_lt (Nat.lt_of_lt_of_le (by have := World.block_lt_of_cell? _ _ hw115_2; first | rwa [add_block] at this | exact this) GW120.out)) | (dsimp only; exact Nat.ne_of_lt (Nat.lt_of_lt_of_le (by have := World.block_lt_of_cell? _ _ hw115_2; first | rwa [add_block] at this | exact this) GW120.out))) _).trans (((cell_far (p := ⟨gb120, _, none⟩) (by first | exact Nat.ne_of_lt (Nat.lt_of_lt_of_le (by have := World.block_lt_of_cell? _ _ hw115_2; first | rwa [add_block] at this | exact this) GW120.out) | (rw [add_block]; exact Nat.ne_of_lt (Nat.lt_of_lt_of_le (by have := World.block_lt_of_cell? _ _ hw115_2; first | rwa [add_block] at this | exact this) GW120.out)) | (show (Addr.add _ _).block ≠ _; rw [add_block]; exact Nat.ne_of_lt (Nat.lt_of_lt_of_le (by have := World.block_lt_of_cell? _ _ hw115_2; first | rwa [add_block] at this | exact this) GW120.out)) | (dsimp only; exact Nat.ne_of_lt (Nat.lt_of_lt_of_le (by have := World.block_lt_of_cell? _ _ hw115_2; first | rwa [add_block] at this | exact this) GW120.out))) _).trans (((cell_far (p := ⟨gb120, _, none⟩) (by first | exact Nat.ne_of_lt (Nat.lt_of_lt_of_le (by have := World.block_lt_of_cell? _ _ hw115_2; first | rwa [add_block] at this | exact this) GW120.out) | (rw [add_block]; exact Nat.ne_of_lt (Nat.lt_of_lt_of_le (by have := World.block_lt_of_cell? _ _ hw115_2; first | rwa [add_block] at this | exact this) GW120.out)) | (show (Addr.add _ _).block ≠ _; rw [add_block]; exact Nat.ne_of_lt (Nat.lt_of_lt_of_le (by have := World.block_lt_of_cell? _ _ hw115_2; first | rwa [add_block] at this | exact this) GW120.out)) | (dsimp only; exact Nat.ne_of_lt (Nat.lt_of_lt_of_le (by have := World.block_lt_of_cell? _ _ hw115_2; first | rwa [add_block] at this | exact this) GW120.out))) _).trans (((cell_far (p := ⟨gb120, _, none⟩) (by first | exact Nat.ne_of_lt (Nat.lt_of_lt_of_le (by have := World.block_lt_of_cell? _ _ hw115_2; first | rwa [add_block] at this | exact this) GW120.out) | (rw [add_block]; exact Nat.ne_of_lt (Nat.lt_of_lt_of_le (by have := World.block_lt_of_cell? _ _ hw115_2; first | rwa [add_block] at this | exact this) GW120.out)) | (show (Addr.add _ _).block ≠ _; rw [add_block]; exact Nat.ne_of_lt (Nat.lt_of_lt_of_le (by have := World.block_lt_of_cell? _ _ hw115_2; first | rwa [add_block] at this | exact this) GW120.out)) | (dsimp only; exact Nat.ne_of_lt (Nat.lt_of_lt_of_le (by have := World.block_lt_of_cell? _ _ hw115_2; first | rwa [add_block] at this | exact this) GW120.out))) _).trans (hHeld.2.2.2.2.2.1)))))))))), ((cell_far (p := ⟨gb120, _, none⟩) (by first | exact Nat.ne_of_lt (Nat.lt_of_lt_of_le (by have := World.block_lt_of_cell? _ _ hw116_0; first | rwa [add_block] at this | exact this) GW120.out) | (rw [add_block]; exact Nat.ne_of_lt (Nat.lt_of_lt_of_le (by have := World.block_lt_of_cell? _ _ hw116_0; first | rwa [add_block] at this | exact this) GW120.out)) | (show (Addr.add _ _).block ≠ _; rw [add_block]; exact Nat.ne_of_lt (Nat.lt_of_lt_of_le (by have := World.block_lt_of_cell? _ _ hw116_0; first | rwa [add_block] at this | exact this) GW120.out)) | (dsimp only; exact Nat.ne_of_lt (Nat.lt_of_lt_of_le (by have := World.block_lt_of_cell? _ _ hw116_0; first | rwa [add_block] at this | exact this) GW120.out))) _).trans (((cell_far (p := ⟨gb120, _, none⟩) (by first | exact Nat.ne_of_lt (Nat.lt_of_lt_of_le (by have := World.block_lt_of_cell? _ _ hw116_0; first | rwa [add_block] at this | exact this) GW120.out) | (rw [add_block]; exact Nat.ne_of_lt (Nat.lt_of_lt_of_le (by have := World.block_lt_of_cell? _ _ hw116_0; first | rwa [add_block] at this | exact this) GW120.out)) | (show (Addr.add _ _).block ≠ _; rw [add_block]; exact Nat.ne_of_lt (Nat.lt_of_lt_of_le (by have := World.block_lt_of_cell? _ _ hw116_0; first | rwa [add_block] at this | exact this) GW120.out)) | (dsimp only; exact Nat.ne_of_lt (Nat.lt_of_lt_of_le (by have := World.block_lt_of_cell? _ _ hw116_0; first | rwa [add_block] at this | exact this) GW120.out))) _).trans (((cell_far (p := ⟨gb120, _, none⟩) (by first | exact Nat.ne_of_lt (Nat.lt_of_lt_of_le (by have := World.block_lt_of_cell? _ _ hw116_0; first | rwa [add_block] at this | exact this) GW120.out) | (rw [add_block]; exact Nat.ne_of_lt (Nat.lt_of_lt_of_le (by have := World.block_lt_of_cell? _ _ hw116_0; first | rwa [add_block] at this | exact this) GW120.out)) | (show (Addr.add _ _).block ≠ _; rw [add_block]; exact Nat.ne_of_lt (Nat.lt_of_lt_of_le (by have := World.block_lt_of_cell? _ _ hw116_0; first | rwa [add_block] at this | exact this) GW120.out)) | (dsimp only; exact Nat.ne_of_lt (Nat.lt_of_lt_of_le (by have := World.block_lt_of_cell? _ _ hw116_0; first | rwa [add_block] at this | exact this) GW120.out))) _).trans (((cell_far (p := ⟨gb120, _, none⟩) (by first | exact Nat.ne_of_lt (Nat.lt_of_lt_of_le (by have := World.block_lt_of_cell? _ _ hw116_0; first | rwa [add_block] at this | exact this) GW120.out) | (rw [add_block]; exact Nat.ne_of_lt (Nat.lt_of_lt_of_le (by have := World.block_lt_of_cell? _ _ hw116_0; first | rwa [add_block] at this | exact this) GW120.out)) | (show (Addr.add _ _).block ≠ _; rw [add_block]; exact Nat.ne_of_lt (Nat.lt_of_lt_of_le (by have := World.block_lt_of_cell? _ _ hw116_0; first | rwa [add_block] at this | exact this) GW120.out)) | (dsimp only; exact Nat.ne_of_lt (Nat.lt_of_lt_of_le (by have := World.block_lt_of_cell? _ _ hw116_0; first | rwa [add_block] at this | exact this) GW120.out))) _).trans (((cell_far (p := ⟨gb120, _, none⟩) (by first | exact Nat.ne_of_lt (Nat.lt_of_lt_of_le (by have := World.block_lt_of_cell? _ _ hw116_0; first | rwa [add_block] at this | exact this) GW120.out) | (rw [add_block]; exact Nat.ne_of_lt (Nat.lt_of_lt_of_le (by have := World.block_lt_of_cell? _ _ hw116_0; first | rwa [add_block] at this | exact this) GW120.out)) | (show (Addr.add _ _).block ≠ _; rw [add_block]; exact Nat.ne_of_lt (Nat.lt_of_lt_of_le (by have := World.block_lt_of_cell? _ _ hw116_0; first | rwa [add_block] at this | exact this) GW120.out)) | (dsimp only; exact Nat.ne_of_lt (Nat.lt_of_lt_of_le (by have := World.block_lt_of_cell? _ _ hw116_0; first | rwa [add_block] at this | exact this) GW120.out))) _).trans (hHeld.2.2.2.2.2.2.1)))))))))), ((cell_far (p := ⟨gb120, _, none⟩) (by first | exact Nat.ne_of_lt (Nat.lt_of_lt_of_le (by have := World.block_lt_of_cell? _ _ hw116_1; first | rwa [add_block] at this | exact this) GW120.out) | (rw [add_block]; exact Nat.ne_of_lt (Nat.lt_of_lt_of_le (by have := World.block_lt_of_cell? _ _ hw116_1; first | rwa [add_block] at this | exact this) GW120.out)) | (show (Addr.add _ _).block ≠ _; rw [add_block]; exact Nat.ne_of_lt (Nat.lt_of_lt_of_le (by have := World.block_lt_of_cell? _ _ hw116_1; first | rwa [add_block] at this | exact this) GW120.out)) | (dsimp only; exact Nat.ne_of_lt (Nat.lt_of_lt_of_le (by have := World.block_lt_of_cell? _ _ hw116_1; first | rwa [add_block] at this | exact this) GW120.out))) _).trans (((cell_far (p := ⟨gb120, _, none⟩) (by first | exact Nat.ne_of_lt (Nat.lt_of_lt_of_le (by have := World.block_lt_of_cell? _ _ hw116_1; first | rwa [add_block] at this | exact this) GW120.out) | (rw [add_block]; exact Nat.ne_of_lt (Nat.lt_of_lt_of_le (by have := World.block_lt_of_cell? _ _ hw116_1; first | rwa [add_block] at this | exact this) GW120.out)) | (show (Addr.add _ _).block ≠ _; rw [add_block]; exact Nat.ne_of_lt (Nat.lt_of_lt_of_le (by have := World.block_lt_of_cell? _ _ hw116_1; first | rwa [add_block] at this | exact this) GW120.out)) | (dsimp only; exact Nat.ne_of_lt (Nat.lt_of_lt_of_le (by have := World.block_lt_of_cell? _ _ hw116_1; first | rwa [add_block] at this | exact this) GW120.out))) _).trans (((cell_far (p := ⟨gb120, _, none⟩) (by first | exact Nat.ne_of_lt (Nat.lt_of_lt_of_le (by have := World.block_lt_of_cell? _ _ hw116_1; first | rwa [add_block] at this | exact this) GW120.out) | (rw [add_block]; exact Nat.ne_of_lt (Nat.lt_of_lt_of_le (by have := World.block_lt_of_cell? _ _ hw116_1; first | rwa [add_block] at this | exact this) GW120.out)) | (show (Addr.add _ _).block ≠ _; rw [add_block]; exact Nat.ne_of_lt (Nat.lt_of_lt_of_le (by have := World.block_lt_of_cell? _ _ hw116_1; first | rwa [add_block] at this | exact this) GW120.out)) | (dsimp only; exact Nat.ne_of_lt (Nat.lt_of_lt_of_le (by have := World.block_lt_of_cell? _ _ hw116_1; first | rwa [add_block] at this | exact this) GW120.out))) _).trans (((cell_far (p := ⟨gb120, _, none⟩) (by first | exact Nat.ne_of_lt (Nat.lt_of_lt_of_le (by have := World.block_lt_of_cell? _ _ hw116_1; first | rwa [add_block] at this | exact this) GW120.out) | (rw [add_block]; exact Nat.ne_of_lt (Nat.lt_of_lt_of_le (by have := World.block_lt_of_cell? _ _ hw116_1; first | rwa [add_block] at this | exact this) GW120.out)) | (show (Addr.add _ _).block ≠ _; rw [add_block]; exact Nat.ne_of_lt (Nat.lt_of_lt_of_le (by have := World.block_lt_of_cell? _ _ hw116_1; first | rwa [add_block] at this | exact this) GW120.out)) | (dsimp only; exact Nat.ne_of_lt (Nat.lt_of_lt_of_le (by have := World.block_lt_of_cell? _ _ hw116_1; first | rwa [add_block] at this | exact this) GW120.out))) _).trans (((cell_far (p := ⟨gb120, _, none⟩) (by first | exact Nat.ne_of_lt (Nat.lt_of_lt_of_le (by have := World.block_lt_of_cell? _ _ hw116_1; first | rwa [add_block] at this | exact this) GW120.out) | (rw [add_block]; exact Nat.ne_of_lt (Nat.lt_of_lt_of_le (by have := World.block_lt_of_cell? _ _ hw116_1; first | rwa [add_block] at this | exact this) GW120.out)) | (show (Addr.add _ _).block ≠ _; rw [add_block]; exact Nat.ne_of_lt (Nat.lt_of_lt_of_le (by have := World.block_lt_of_cell? _ _ hw116_1; first | rwa [add_block] at this | exact this) GW120.out)) | (dsimp only; exact Nat.ne_of_lt (Nat.lt_of_lt_of_le (by have := World.block_lt_of_cell? _ _ hw116_1; first | rwa [add_block] at this | exact this) GW120.out))) _).trans (hHeld.2.2.2.2.2.2.2.1)))))))))), ((cell_far (p := ⟨gb120, _, none⟩) (by first | exact Nat.ne_of_lt (Nat.lt_of_lt_of_le (by have := World.block_lt_of_cell? _ _ hw116_2; first | rwa [add_block] at this | exact this) GW120.out) | (rw [add_block]; exact Nat.ne_of_lt (Nat.lt_of_lt_of_le (by have := World.block_lt_of_cell? _ _ hw116_2; first | rwa [add_block] at this | exact this) GW120.out)) | (show (Addr.add _ _).block ≠ _; rw [add_block]; exact Nat.ne_of_lt (Nat.lt_of_lt_of_le (by have := World.block_lt_of_cell? _ _ hw116_2; first | rwa [add_block] at this | exact this) GW120.out)) | (dsimp only; exact Nat.ne_of_lt (Nat.lt_of_lt_of_le (by have := World.block_lt_of_cell? _ _ hw116_2; first | rwa [add_block] at this | exact this) GW120.out))) _).trans (((cell_far (p := ⟨gb120, _, none⟩) (by first | exact Nat.ne_of_lt (Nat.lt_of_lt_of_le (by have := World.block_lt_of_cell? _ _ hw116_2; first | rwa [add_block] at this | exact this) GW120.out) | (rw [add_block]; exact Nat.ne_of_lt (Nat.lt_of_lt_of_le (by have := World.block_lt_of_cell? _ _ hw116_2; first | rwa [add_block] at this | exact this) GW120.out)) | (show (Addr.add _ _).block ≠ _; rw [add_block]; exact Nat.ne_of_lt (Nat.lt_of_lt_of_le (by have := World.block_lt_of_cell? _ _ hw116_2; first | rwa [add_block] at this | exact this) GW120.out)) | (dsimp only; exact Nat.ne_of_lt (Nat.lt_of_lt_of_le (by have := World.block_lt_of_cell? _ _ hw116_2; first | rwa [add_block] at this | exact this) GW120.out))) _).trans (((cell_far (p := ⟨gb120, _, none⟩) (by first | exact Nat.ne_of_lt (Nat.lt_of_lt_of_le (by have := World.block_lt_of_cell? _ _ hw116_2; first | rwa [add_block] at this | exact this) GW120.out) | (rw [add_block]; exact Nat.ne_of_lt (Nat.lt_of_lt_of_le (by have := World.block_lt_of_cell? _ _ hw116_2; first | rwa [add_block] at this | exact this) GW120.out)) | (show (Addr.add _ _).block ≠ _; rw [add_block]; exact Nat.ne_of_lt (Nat.lt_of_lt_of_le (by have := World.block_lt_of_cell? _ _ hw116_2; first | rwa [add_block] at this | exact this) GW120.out)) | (dsimp only; exact Nat.ne_of_lt (Nat.lt_of_lt_of_le (by have := World.block_lt_of_cell? _ _ hw116_2; first | rwa [add_block] at this | exact this) GW120.out))) _).trans (((cell_far (p := ⟨gb120, _, none⟩) (by first | exact Nat.ne_of_lt (Nat.lt_of_lt_of_le (by have := World.block_lt_of_cell? _ _ hw116_2; first | rwa [add_block] at this | exact this) GW120.out) | (rw [add_block]; exact Nat.ne_of_lt (Nat.lt_of_lt_of_le (by have := World.block_lt_of_cell? _ _ hw116_2; first | rwa [add_block] at this | exact this) GW120.out)) | (show (Addr.add _ _).block ≠ _; rw [add_block]; exact Nat.ne_of_lt (Nat.lt_of_lt_of_le (by have := World.block_lt_of_cell? _ _ hw116_2; first | rwa [add_block] at this | exact this) GW120.out)) | (dsimp only; exact Nat.ne_of_lt (Nat.lt_of_lt_of_le (by have := World.block_lt_of_cell? _ _ hw116_2; first | rwa [add_block] at this | exact this) GW120.out))) _).trans (((cell_far (p := ⟨gb120, _, none⟩) (by first | exact Nat.ne_of_lt (Nat.lt_of_lt_of_le (by have := World.block_lt_of_cell? _ _ hw116_2; first | rwa [add_block] at this | exact this) GW120.out) | (rw [add_block]; exact Nat.ne_of_lt (Nat.lt_of_lt_of_le (by have := World.block_lt_of_cell? _ _ hw116_2; first | rwa [add_block] at this | exact this) GW120.out)) | (show (Addr.add _ _).block ≠ _; rw [add_block]; exact Nat.ne_of_lt (Nat.lt_of_lt_of_le (by have := World.block_lt_of_cell? _ _ hw116_2; first | rwa [add_block] at this | exact this) GW120.out)) | (dsimp only; exact Nat.ne_of_lt (Nat.lt_of_lt_of_le (by have := World.block_lt_of_cell? _ _ hw116_2; first | rwa [add_block] at this | exact this) GW120.out))) _).trans (hHeld.2.2.2.2.2.2.2.2))))))))))⟩ (fun hHeld => ?_)
     clear hK K
     refine done_ (done_of HT_.out (by kernel_rfl)) ?_
     have hnb23 := NB113_114.out
     have hnc23 := NB114_113.out
     have hnb24 := NB113_120.out
     have hnc24 := NB120_113.out
     have hcz25_0 : w17.cell? ⟨gb113, 0, none⟩ = some (.slice A0_0 l0_0.length c0_0) := (blk_cell BK113.out 0).trans rfl
     have hcz25_1 : w17.cell? ⟨gb113, 1, none⟩ = some (.int .i64 a0_1) := (blk_cell BK113.out 1).trans rfl
     have hcz25_2 : w17.cell? ⟨gb113, 2, none⟩ = some (.slice (some ad115) l0_2.length c0_2) := (blk_cell BK113.out 2).trans rfl
     have hfz25_0 := blk_frozen BK113.out 0
     have hfz25_1 := blk_frozen BK113.out 1
     have hfz25_2 := blk_frozen BK113.out 2
     go_upto_if 25 with (first | ((with_reducible refine gate_callee (f := 75) rfl ?_); refine goesL_ (some 25) rfl rfl Try.func75 (by kernel_rfl) rfl #[.agg #[.slice A0_0 l0_0.length c0_0, .int .i64 a0_1, .slice (some ad115) l0_2.length c0_2], .int .i64 a2] rfl (by (try simp only [List.map_toArray, List.map_cons, List.map_nil]); first | done | rfl | (simp only [List.length_drop, List.length_take]; rfl)) ?_; (with_reducible refine (best_flow_hyphen.calls _ _ l0_0 a0_1 _ _ l0_2 a2 t121 _ ?side1 ?side2 ?side3 ?side4 A10.out).mono ?_); (case side1 => exact Kd.C_below HR0_0.out (by repeat (first | (with_reducible first | exact HB.out | apply below_alloc | apply pw_below_drewN | apply below_drew1 | refine below_set ?_ GE113.out | refine below_set ?_ GE114.out | refine below_set ?_ GE120.out) | exact HB.out))); (case side2 => exact HC0_0.out); (case side3 => exact Kd.C_below HR0_2.out (by repeat (first | (with_reducible first | exact HB.out | apply below_alloc | apply pw_below_drewN | apply below_drew1 | refine below_set ?_ GE113.out | refine below_set ?_ GE114.out | refine below_set ?_ GE120.out) | exact HB.out))); (case side4 => exact HC0_2.out); rintro e w26 ⟨rfl, hb⟩; refine ⟨_, rfl, ?_⟩; have n0_ := Aside0.mk (blk_below (g := gb113) (o := .cells #[.slice A0_0 l0_0.length c0_0, .int .i64 a0_1, .slice (some ad115) l0_2.length c0_2] 67 (0, 0)) (by (with_reducible repeat (first | refine blk_drewN ?_ _ | refine blk_drew ?_ | refine blk_alloc ?_ _)); refine blk_far ?_ NB113_120.out _; (with_reducible repeat (first | refine blk_drewN ?_ _ | refine blk_drew ?_ | refine blk_alloc ?_ _)); refine blk_far ?_ NB113_120.out _; (with_reducible repeat (first | refine blk_drewN ?_ _ | refine blk_drew ?_ | refine blk_alloc ?_ _)); refine blk_far ?_ NB113_120.out _; (with_reducible repeat (first | refine blk_drewN ?_ _ | refine blk_drew ?_ | refine blk_alloc ?_ _)); refine blk_far ?_ NB113_120.out _; (with_reducible repeat (first | refine blk_drewN ?_ _ | refine blk_drew ?_ | refine blk_alloc ?_ _)); refine blk_far ?_ NB113_120.out _; (with_reducible repeat (first | refine blk_drewN ?_ _ | refine blk_drew ?_ | refine blk_alloc ?_ _)); exact BK113.out) hb); have n1_ := Aside0.mk (blk_below (g := gb114) (o := .cells #[.int .i64 0, .int .i64 0, .int .i64 0, .int .i64 0, .bool false] 87 (0, 0)) (by (with_reducible repeat (first | refine blk_drewN ?_ _ | refine blk_drew ?_ | refine blk_alloc ?_ _)); refine blk_far ?_ NB114_120.out _; (with_reducible repeat (first | refine blk_drewN ?_ _ | refine blk_drew ?_ | refine blk_alloc ?_ _)); refine blk_far ?_ NB114_120.out _; (with_reducible repeat (first | refine blk_drewN ?_ _ | refine blk_drew ?_ | refine blk_alloc ?_ _)); refine blk_far ?_ NB114_120.out _; (with_reducible repeat (first | refine blk_drewN ?_ _ | refine blk_drew ?_ | refine blk_alloc ?_ _)); refine blk_far ?_ NB114_120.out _; (with_reducible repeat (first | refine blk_drewN ?_ _ | refine blk_drew ?_ | refine blk_alloc ?_ _)); refine blk_far ?_ NB114_120.out _; (with_reducible repeat (first | refine blk_drewN ?_ _ | refine blk_drew ?_ | refine blk_alloc ?_ _)); exact BK114.out) hb); have n2_ := Aside0.mk (blk_below (g := gb120) (o := .cells #[.int .i64 t117, .int .i64 t118, .int .i64 t119, .int .i64 0, .bool false] 87 (0, 0)) (by (with_reducible repeat (first | refine blk_drewN ?_ _ | refine blk_drew ?_ | refine blk_alloc ?_ _)); refine blk_put (cs := #[.int .i64 t117, .int .i64 t118, .int .i64 t119, .int .i64 0, .bool false]) ?_ 4 _ rfl; (with_reducible repeat (first | refine blk_drewN ?_ _ | refine blk_drew ?_ | refine blk_alloc ?_ _)); refine blk_put (cs := #[.int .i64 t117, .int .i64 t118, .int .i64 t119, .int .i64 0, .bool false]) ?_ 3 _ rfl; (with_reducible repeat (first | refine blk_drewN ?_ _ | refine blk_drew ?_ | refine blk_alloc ?_ _)); refine blk_put (cs := #[.int .i64 t117, .int .i64 t118, .int .i64 0, .int .i64 0, .bool false]) ?_ 2 _ rfl; (with_reducible repeat (first | refine blk_drewN ?_ _ | refine blk_drew ?_ | refine blk_alloc ?_ _)); refine blk_put (cs := #[.int .i64 t117, .int .i64 0, .int .i64 0, .int .i64 0, .bool false]) ?_ 1 _ rfl; (with_reducible repeat (first | refine blk_drewN ?_ _ | refine blk_drew ?_ | refine blk_alloc ?_ _)); refine blk_put (cs := #[.int .i64 0, .int .i64 0, .int .i64 0, .int .i64 0, .bool false]) ?_ 0 _ rfl; (with_reducible repeat (first | refine blk_drewN ?_ _ | refine blk_drew ?_ | refine blk_alloc ?_ _)); exact BK120.out) hb); have n3_ := Aside0.mk (below_step (by repeat (first | (with_reducible first | exact HB.out | apply below_alloc | apply pw_below_drewN | apply below_drew1 | refine below_set ?_ GE113.out | refine below_set ?_ GE114.out | refine below_set ?_ GE120.out) | exact HB.out)) hb); clear BK113; clear BK114; clear BK120; clear HB; have BK113 := n0_; have BK114 := n1_; have BK120 := n2_; have HB := n3_; clear n0_ n1_ n2_ n3_; (try clear hb); (try clear hb2); (try clear hk); (try clear hi)))
     (try simp only [Act.put, List.setIfInBounds_toArray, List.set_cons_zero, List.set_cons_succ])
     go_cut [] (fun wc => ∃ (kq : Nat) (x121000_10 : Int), Aside0 (bfl.j0 kq a2 l0_0 a0_1 l0_2 x121000_10 t118 t119 0 false = some (r1, r2, r3, r4, r5)) ∧ Aside0 (kq ≤ k) ∧ Aside0 (wc.heap[gb113]? = some (.cells #[(.slice A0_0 l0_0.length c0_0), .int .i64 a0_1, (.slice (some ad115) l0_2.length c0_2)] 67 (0, 0))) ∧ Aside0 (wc.heap[gb114]? = some (.cells #[.int .i64 0, .int .i64 0, .int .i64 0, .int .i64 0, .bool false] 87 (0, 0))) ∧ Aside0 (wc.heap[gb120]? = some (.cells #[.int .i64 x121000_10, .int .i64 t118, .int .i64 t119, .int .i64 0, .bool false] 87 (0, 0))) ∧ Aside0 (Below w.heap.size w wc))
     case first =>
      have H := HC11.out
      clear HC11
      by_cases c27 : t121 = true
      ·subst c27
       have H1 : (if a2 < (l0_0.length : Int) then (bfl.j0 k a2 l0_0 a0_1 l0_2 (wrap64 (t117 + ((rd_T43 l0_0 a2).f1))) t118 t119 0 false) else (none)) = some (r1, r2, r3, r4, r5) := by rw [if_pos rfl] at H; exact H
       clear H
       have H := H1
       clear H1
       by_cases c28 : a2 < (l0_0.length : Int)
       ·rw [if_pos c28] at H
        have c28b0 : decide (a2 < (l0_0.length : Int)) = true := decide_eq_true c28
        clear c28
        (first | rw [c28b0] | (simp only [i64_w, i32_w]; rw [c28b0]) | skip)
        have H' := Aside0.mk H
        clear H
        try go_wp2
        have n0_ := Aside0.mk (blk_drew BK113.out)
        have n1_ := Aside0.mk (blk_drew BK114.out)
        have n2_ := Aside0.mk (blk_drew BK120.out)
        have n3_ := Aside0.mk (below_drew1 HB.out)
        clear BK113 BK114 BK120 HB
        have BK113 := n0_
        have BK114 := n1_
        have BK120 := n2_
        have HB := n3_
        clear n0_ n1_ n2_ n3_
        have p122 : 0 ≤ (a2 : Int) := of_decide_eq_true (by first | (with_reducible assumption) | assumption)
        have q122 : a2 < (l0_0.length : Int) := of_decide_eq_true (by first | (with_reducible assumption) | assumption)
        obtain ⟨ad122, e122, hx122_0, hx122_1, hx122_2, hx122_3, hx122_4⟩ := at_T43 HR0_0.out a2 p122 q122
        have hw122_4 := hx122_4
        have hw122_3 := hx122_3
        have hw122_2 := hx122_2
        have hw122_1 := hx122_1
        have hw122_0 := hx122_0
        cases e122
        replace hx122_0 := (HB.out.cell (World.block_lt_of_cell? w _ hx122_0)).trans hx122_0
        replace hx122_1 := (HB.out.cell (World.block_lt_of_cell? w _ hx122_1)).trans hx122_1
        replace hx122_2 := (HB.out.cell (World.block_lt_of_cell? w _ hx122_2)).trans hx122_2
        replace hx122_3 := (HB.out.cell (World.block_lt_of_cell? w _ hx122_3)).trans hx122_3
        replace hx122_4 := (HB.out.cell (World.block_lt_of_cell? w _ hx122_4)).trans hx122_4
        replace p122 := eq_true p122
        replace q122 := eq_true q122
        refine start_ (n := 13) (S := fun w' => w'.cell? ⟨gb120, 0, none⟩ = some (.int .i64 t117) ∧ w'.cell? ⟨gb120, 1, none⟩ = some (.int .i64 t118) ∧ w'.cell? ⟨gb120, 2, none⟩ = some (.int .i64 t119) ∧ w'.cell? ⟨gb120, 3, none⟩ = some (.int .i64 0) ∧ w'.cell? ⟨gb120, 4, none⟩ = some (.bool false) ∧ w'.cell? ⟨gb113, 0, none⟩ = some (.slice (some ad122) l0_0.length c0_0) ∧ w'.cell? ⟨gb113, 1, none⟩ = some (.int .i64 a0_1) ∧ w'.cell? ⟨gb113, 2, none⟩ = some (.slice (some ad115) l0_2.length c0_2) ∧ w'.cell? (ad122.add ((a2).toNat * 5)) = some (.int .i64 ((rd_T43 l0_0 a2).f0)) ∧ w'.cell? ⟨(ad122.add ((a2).toNat * 5)).block, (ad122.add ((a2).toNat * 5)).off + 1, none⟩ = some (.int .i64 ((rd_T43 l0_0 a2).f1)) ∧ w'.cell? ⟨(ad122.add ((a2).toNat * 5)).block, (ad122.add ((a2).toNat * 5)).off + 2, none⟩ = some (.int .i64 ((rd_T43 l0_0 a2).f2)) ∧ w'.cell? ⟨(ad122.add ((a2).toNat * 5)).block, (ad122.add ((a2).toNat * 5)).off + 3, none⟩ = some (.int .i64 ((rd_T43 l0_0 a2).f3)) ∧ w'.cell? ⟨(ad122.add ((a2).toNat * 5)).block, (ad122.add ((a2).toNat * 5)).off + 4, none⟩ = some (.int .i64 ((rd_T43 l0_0 a2).f4))) (ds := [12]) #[false, false, false, false, false, false, false, false, false, false, false, false, false] (by kernel_rfl) rfl rfl ⟨(blk_cell BK120.out 0).trans rfl, (blk_cell BK120.out 1).trans rfl, (blk_cell BK120.out 2).trans rfl, (blk_cell BK120.out 3).trans rfl, (blk_cell BK120.out 4).trans rfl, (blk_cell BK113.out 0).trans rfl, (blk_cell BK113.out 1).trans rfl, (blk_cell BK113.out 2).trans rfl, ((HB.out.cell (World.block_lt_of_cell? w _ hw122_0)).trans hw122_0), ((HB.out.cell (World.block_lt_of_cell? w _ hw122_1)).trans hw122_1), ((HB.out.cell (World.block_lt_of_cell? w _ hw122_2)).trans hw122_2), ((HB.out.cell (World.block_lt_of_cell? w _ hw122_3)).trans hw122_3), ((HB.out.cell (World.block_lt_of_cell? w _ hw122_4)).trans hw122_4)⟩ (fun hHeld => ?_); refine with_tabW bfl.tab3 bfl.bits3 (fun HT_ HW_ => ?_)
        generalize w26.drew = w29 at BK113 BK114 BK120 HB hx122_0 hx122_1 hx122_2 hx122_3 hx122_4 hHeld ⊢
        refine pure_ (i := 0) (N := some 26) (v := ?_) (a' := ?_) #[true, false, false, false, false, false, false, false, false, false, false, false, false] rfl rfl (any_of HT_.out (by kernel_rfl)) (fun _ _ _ h => h) (Or.inl ⟨by rfl, ?_⟩) ?_ ?_
        rotate_left
        ·intro w'
         go_simp
         with_reducible rfl
        rotate_left
        ·simp only [Act.put, List.setIfInBounds_toArray, List.set_cons_zero, List.set_cons_succ, i64_w, i32_w]
         rfl
        refine pure_ (i := 1) (N := some 27) (v := ?_) (a' := ?_) #[true, true, false, false, false, false, false, false, false, false, false, false, false] rfl rfl (any_of HT_.out (by kernel_rfl)) (fun _ _ _ h => h) (Or.inl ⟨by rfl, ?_⟩) ?_ ?_
        rotate_left
        ·intro w'
         go_simp
         with_reducible rfl
        rotate_left
        ·simp only [Act.put, List.setIfInBounds_toArray, List.set_cons_zero, List.set_cons_succ, i64_w, i32_w]
         rfl
        refine pure_ (i := 3) (N := some 29) (v := ?_) (a' := ?_) #[true, true, false, true, false, false, false, false, false, false, false, false, false] rfl rfl (any_of HT_.out (by kernel_rfl)) (fun _ _ _ h => h) (Or.inl ⟨by rfl, ?_⟩) ?_ ?_
        rotate_left
        ·intro w'
         go_simp
         with_reducible rfl
        rotate_left
        ·simp only [Act.put, List.setIfInBounds_toArray, List.set_cons_zero, List.set_cons_succ, i64_w, i32_w]
         rfl
        refine pure_ (i := 5) (N := some 31) (v := ?_) (a' := ?_) #[true, true, false, true, false, true, false, false, false, false, false, false, false] rfl rfl (any_of HT_.out (by kernel_rfl)) (fun _ _ _ h => h) (Or.inl ⟨by rfl, ?_⟩) ?_ ?_
        rotate_left
        ·intro w'
         go_simp
         with_reducible rfl
        rotate_left
        ·simp only [Act.put, List.setIfInBounds_toArray, List.set_cons_zero, List.set_cons_succ, i64_w, i32_w]
         rfl
        refine take_ (i := 2) (N := some 28) (v := ?_) (a' := ?_) #[true, true, true, true, false, true, false, false, false, false, false, false, false] rfl rfl (take_ofW HT_.out HW_.out (by kernel_rfl)) (fun _ _ _ h => h) (Or.inl ⟨by rfl, ?_⟩) hHeld ?_ ?_
        rotate_left
        ·rintro w' ⟨s0, s1, s2, s3, s4, s5, s6, s7, s8, s9, s10, s11, s12⟩
         go_simp
         with_reducible rfl
        rotate_left
        ·simp only [Act.put, List.setIfInBounds_toArray, List.set_cons_zero, List.set_cons_succ, i64_w, i32_w]
         rfl
        refine take_ (i := 4) (N := some 30) (v := ?_) (a' := ?_) #[true, true, true, true, true, true, false, false, false, false, false, false, false] rfl rfl (take_ofW HT_.out HW_.out (by kernel_rfl)) (fun _ _ _ h => h) (Or.inl ⟨by rfl, ?_⟩) hHeld ?_ ?_
        rotate_left
        ·rintro w' ⟨s0, s1, s2, s3, s4, s5, s6, s7, s8, s9, s10, s11, s12⟩
         go_simp
         with_reducible rfl
        rotate_left
        ·simp only [Act.put, List.setIfInBounds_toArray, List.set_cons_zero, List.set_cons_succ, i64_w, i32_w]
         rfl
        refine pure_ (i := 6) (N := some 32) (v := ?_) (a' := ?_) #[true, true, true, true, true, true, true, false, false, false, false, false, false] rfl rfl (any_of HT_.out (by kernel_rfl)) (fun _ _ _ h => h) (Or.inl ⟨by rfl, ?_⟩) ?_ ?_
        rotate_left
        ·intro w'
         go_simp
         with_reducible rfl
        rotate_left
        ·simp only [Act.put, List.setIfInBounds_toArray, List.set_cons_zero, List.set_cons_succ, i64_w, i32_w]
         rfl
        refine pure_ (i := 7) (N := some 33) (v := ?_) (a' := ?_) #[true, true, true, true, true, true, true, true, false, false, false, false, false] rfl rfl (any_of HT_.out (by kernel_rfl)) (fun _ _ _ h => h) (Or.inl ⟨by rfl, ?_⟩) ?_ ?_
        rotate_left
        ·intro w'
         go_simp
         with_reducible rfl
        rotate_left
        ·simp only [Act.put, List.setIfInBounds_toArray, List.set_cons_zero, List.set_cons_succ, i64_w, i32_w]
         rfl
        refine take_ (i := 8) (N := some 34) (v := ?_) (a' := ?_) #[true, true, true, true, true, true, true, true, true, false, false, false, false] rfl rfl (take_ofW HT_.out HW_.out (by kernel_rfl)) (fun _ _ _ h => h) (Or.inl ⟨by rfl, ?_⟩) hHeld ?_ ?_
        rotate_left
        ·rintro w' ⟨s0, s1, s2, s3, s4, s5, s6, s7, s8, s9, s10, s11, s12⟩
         go_simp
         with_reducible rfl
        rotate_left
        ·simp only [Act.put, List.setIfInBounds_toArray, List.set_cons_zero, List.set_cons_succ, i64_w, i32_w]
         rfl
        refine pure_ (i := 9) (N := some 35) (v := ?_) (a' := ?_) #[true, true, true, true, true, true, true, true, true, true, false, false, false] rfl rfl (any_of HT_.out (by kernel_rfl)) (fun _ _ _ h => h) (Or.inl ⟨by rfl, ?_⟩) ?_ ?_
        rotate_left
        ·intro w'
         go_simp
         with_reducible rfl
        rotate_left
        ·simp only [Act.put, List.setIfInBounds_toArray, List.set_cons_zero, List.set_cons_succ, i64_w, i32_w]
         rfl
        refine pure_ (i := 10) (N := some 36) (v := ?_) (a' := ?_) #[true, true, true, true, true, true, true, true, true, true, true, false, false] rfl rfl (any_of HT_.out (by kernel_rfl)) (fun _ _ _ h => h) (Or.inl ⟨by rfl, ?_⟩) ?_ ?_
        rotate_left
        ·intro w'
         go_simp
         with_reducible rfl
        rotate_left
        ·simp only [Act.put, List.setIfInBounds_toArray, List.set_cons_zero, List.set_cons_succ, i64_w, i32_w]
         rfl
        refine pure_ (i := 11) (N := some 37) (v := ?_) (a' := ?_) #[true, true, true, true, true, true, true, true, true, true, true, true, false] rfl rfl (any_of HT_.out (by kernel_rfl)) (fun _ _ _ h => h) (Or.inl ⟨by rfl, ?_⟩) ?_ ?_
        rotate_left
        ·intro w'
         go_simp
         with_reducible rfl
        rotate_left
        ·simp only [Act.put, List.setIfInBounds_toArray, List.set_cons_zero, List.set_cons_succ, i64_w, i32_w]
         rfl
        refine last_ (i := 12) (N := none) #[true, true, true, true, true, true, true, true, true, true, true, true, true] rfl rfl (one_of HT_.out (by kernel_rfl)) (by decide) (fun K hK => ?_)
        have hs30 : w29.cell? ⟨gb120, 0, none⟩ = some (.int .i64 t117) := (blk_cell BK120.out 0).trans rfl
        have hfs30 := blk_frozen BK120.out 0
        have hns30_0 := NB113_120.out
        have hns30_1 := NB114_120.out
        have hms30_0 := NB120_113.out
        have hms30_1 := NB120_114.out
        refine skip_ (w1 := ?_) (by rfl) rfl ?_ ?_
        rotate_left
        ·go_simp
         rfl
        refine hK.out _ _ ?_
        clear hK K
        refine done_ (done_of HT_.out (by kernel_rfl)) ?_
        try go_wp2
        go_meet
        case rel => exact ⟨_, (wrap64 (t117 + ((rd_T43 l0_0 a2).f1))), H', ⟨by first | omega | exact Nat.le_refl _⟩, ⟨by (with_reducible repeat (first | refine blk_drewN ?_ _ | refine blk_drew ?_ | refine blk_alloc ?_ _)); refine blk_far ?_ NB113_120.out _; (with_reducible repeat (first | refine blk_drewN ?_ _ | refine blk_drew ?_ | refine blk_alloc ?_ _)); exact BK113.out⟩, ⟨by (with_reducible repeat (first | refine blk_drewN ?_ _ | refine blk_drew ?_ | refine blk_alloc ?_ _)); refine blk_far ?_ NB114_120.out _; (with_reducible repeat (first | refine blk_drewN ?_ _ | refine blk_drew ?_ | refine blk_alloc ?_ _)); exact BK114.out⟩, ⟨by (with_reducible repeat (first | refine blk_drewN ?_ _ | refine blk_drew ?_ | refine blk_alloc ?_ _)); refine blk_put (cs := #[.int .i64 t117, .int .i64 t118, .int .i64 t119, .int .i64 0, .bool false]) ?_ 0 _ rfl; (with_reducible repeat (first | refine blk_drewN ?_ _ | refine blk_drew ?_ | refine blk_alloc ?_ _)); exact BK120.out⟩, ⟨by repeat (first | (with_reducible first | exact HB.out | apply below_alloc | apply pw_below_drewN | apply below_drew1 | refine below_set ?_ GE113.out | refine below_set ?_ GE114.out | refine below_set ?_ GE120.out) | exact HB.out)⟩⟩
       ·rw [if_neg c28] at H
        exact absurd H (by simp)
      ·replace c27 := Bool.eq_false_iff.mpr c27
       subst c27
       have H1 : (bfl.j0 k a2 l0_0 a0_1 l0_2 t117 t118 t119 0 false) = some (r1, r2, r3, r4, r5) := by rw [if_neg (show ¬ (false = true) by decide)] at H; exact H
       clear H
       have H := H1
       clear H1
       have H' := Aside0.mk H
       clear H
       go_wp2
       go_meet
       case rel => exact ⟨_, (t117), H', ⟨by first | omega | exact Nat.le_refl _⟩, ⟨by (with_reducible repeat (first | refine blk_drewN ?_ _ | refine blk_drew ?_ | refine blk_alloc ?_ _)); exact BK113.out⟩, ⟨by (with_reducible repeat (first | refine blk_drewN ?_ _ | refine blk_drew ?_ | refine blk_alloc ?_ _)); exact BK114.out⟩, ⟨by (with_reducible repeat (first | refine blk_drewN ?_ _ | refine blk_drew ?_ | refine blk_alloc ?_ _)); exact BK120.out⟩, ⟨by repeat (first | (with_reducible first | exact HB.out | apply below_alloc | apply pw_below_drewN | apply below_drew1 | refine below_set ?_ GE113.out | refine below_set ?_ GE114.out | refine below_set ?_ GE120.out) | exact HB.out)⟩⟩
     case rest =>
      clear HC11
      try clear p1
      try clear q1
      try clear hx1
      try clear c2
      try clear p2
      try clear c4
      try clear c4b0
      try clear c5
      try clear c5b0
      try clear p6
      try clear c7
      try clear c7b0
      try clear c8
      try clear c8b0
      try clear p11
      try clear q11
      try clear hx11
      try clear p12
      try clear q12
      try clear hx12
      try clear c23
      try clear c24
      try clear c27
      try clear c28
      try clear c28b0
      try clear hcz25_0
      try clear hcz25_1
      try clear hcz25_2
      try clear hfz25_0
      try clear hfz25_1
      try clear hfz25_2
      try clear hx115_0
      try clear hx115_1
      try clear hx115_2
      try clear hx116_0
      try clear hx116_1
      try clear hx116_2
      try clear hx122_0
      try clear hx122_1
      try clear hx122_2
      try clear hx122_3
      try clear hx122_4
      try clear p115
      try clear p116
      try clear p122
      try clear q115
      try clear q116
      try clear q122
      obtain ⟨kq, x121000_10, HA, HJ10, BK113, BK114, BK120, HB⟩ := hcut
      cases kq with
      | zero => exact absurd HA.out (by simp [bfl.j0])
      | succ kj10 =>
       have H := HA.out
       clear HA
       simp only [bfl.j0] at H
       have HC31 := Aside0.mk H
       clear H
       try go_wp2
       have n0_ := Aside0.mk (blk_drew BK113.out)
       have n1_ := Aside0.mk (blk_drew BK114.out)
       have n2_ := Aside0.mk (blk_drew BK120.out)
       have n3_ := Aside0.mk (below_drew1 HB.out)
       clear BK113 BK114 BK120 HB
       have BK113 := n0_
       have BK114 := n1_
       have BK120 := n2_
       have HB := n3_
       clear n0_ n1_ n2_ n3_
       refine start_ (n := 11) (S := fun w' => w'.cell? ⟨gb113, 0, none⟩ = some (.slice A0_0 l0_0.length c0_0) ∧ w'.cell? ⟨gb113, 1, none⟩ = some (.int .i64 a0_1) ∧ w'.cell? ⟨gb113, 2, none⟩ = some (.slice (some ad115) l0_2.length c0_2) ∧ w'.cell? ⟨gb120, 0, none⟩ = some (.int .i64 x121000_10) ∧ w'.cell? ⟨gb120, 1, none⟩ = some (.int .i64 t118) ∧ w'.cell? ⟨gb120, 2, none⟩ = some (.int .i64 t119) ∧ w'.cell? ⟨gb120, 3, none⟩ = some (.int .i64 0) ∧ w'.cell? ⟨gb120, 4, none⟩ = some (.bool false)) (ds := []) #[false, false, false, false, false, false, false, false, false, false, false] (by kernel_rfl) rfl rfl ⟨(blk_cell BK113.out 0).trans rfl, (blk_cell BK113.out 1).trans rfl, (blk_cell BK113.out 2).trans rfl, (blk_cell BK120.out 0).trans rfl, (blk_cell BK120.out 1).trans rfl, (blk_cell BK120.out 2).trans rfl, (blk_cell BK120.out 3).trans rfl, (blk_cell BK120.out 4).trans rfl⟩ (fun hHeld => ?_); refine with_tabW bfl.tab4 bfl.bits4 (fun HT_ HW_ => ?_)
       generalize wc.drew = w32 at BK113 BK114 BK120 HB hHeld ⊢
       refine pure_ (i := 0) (N := some 38) (v := ?_) (a' := ?_) #[true, false, false, false, false, false, false, false, false, false, false] rfl rfl (any_of HT_.out (by kernel_rfl)) (fun _ _ _ h => h) (Or.inl ⟨by rfl, ?_⟩) ?_ ?_
       rotate_left
       ·intro w'
        go_simp
        with_reducible rfl
       rotate_left
       ·simp only [Act.put, List.setIfInBounds_toArray, List.set_cons_zero, List.set_cons_succ, i64_w, i32_w]
        rfl
       refine pure_ (i := 2) (N := some 40) (v := ?_) (a' := ?_) #[true, false, true, false, false, false, false, false, false, false, false] rfl rfl (any_of HT_.out (by kernel_rfl)) (fun _ _ _ h => h) (Or.inl ⟨by rfl, ?_⟩) ?_ ?_
       rotate_left
       ·intro w'
        go_simp
        with_reducible rfl
       rotate_left
       ·simp only [Act.put, List.setIfInBounds_toArray, List.set_cons_zero, List.set_cons_succ, i64_w, i32_w]
        rfl
       refine pure_ (i := 3) (N := some 41) (v := ?_) (a' := ?_) #[true, false, true, true, false, false, false, false, false, false, false] rfl rfl (any_of HT_.out (by kernel_rfl)) (fun _ _ _ h => h) (Or.inl ⟨by rfl, ?_⟩) ?_ ?_
       rotate_left
       ·intro w'
        go_simp
        with_reducible rfl
       rotate_left
       ·simp only [Act.put, List.setIfInBounds_toArray, List.set_cons_zero, List.set_cons_succ, i64_w, i32_w]
        rfl
       refine pure_ (i := 6) (N := some 44) (v := ?_) (a' := ?_) #[true, false, true, true, false, false, true, false, false, false, false] rfl rfl (any_of HT_.out (by kernel_rfl)) (fun _ _ _ h => h) (Or.inl ⟨by rfl, ?_⟩) ?_ ?_
       rotate_left
       ·intro w'
        go_simp
        with_reducible rfl
       rotate_left
       ·simp only [Act.put, List.setIfInBounds_toArray, List.set_cons_zero, List.set_cons_succ, i64_w, i32_w]
        rfl
       refine pure_ (i := 7) (N := some 45) (v := ?_) (a' := ?_) #[true, false, true, true, false, false, true, true, false, false, false] rfl rfl (any_of HT_.out (by kernel_rfl)) (fun _ _ _ h => h) (Or.inl ⟨by rfl, ?_⟩) ?_ ?_
       rotate_left
       ·intro w'
        go_simp
        with_reducible rfl
       rotate_left
       ·simp only [Act.put, List.setIfInBounds_toArray, List.set_cons_zero, List.set_cons_succ, i64_w, i32_w]
        rfl
       refine take_ (i := 1) (N := some 39) (v := ?_) (a' := ?_) #[true, true, true, true, false, false, true, true, false, false, false] rfl rfl (take_ofW HT_.out HW_.out (by kernel_rfl)) (fun _ _ _ h => h) (Or.inl ⟨by rfl, ?_⟩) hHeld ?_ ?_
       rotate_left
       ·rintro w' ⟨s0, s1, s2, s3, s4, s5, s6, s7⟩
        go_simp
        with_reducible rfl
       rotate_left
       ·simp only [Act.put, List.setIfInBounds_toArray, List.set_cons_zero, List.set_cons_succ, i64_w, i32_w]
        rfl
       refine take_ (i := 4) (N := some 42) (v := ?_) (a' := ?_) #[true, true, true, true, true, false, true, true, false, false, false] rfl rfl (take_ofW HT_.out HW_.out (by kernel_rfl)) (fun _ _ _ h => h) (Or.inl ⟨by rfl, ?_⟩) hHeld ?_ ?_
       rotate_left
       ·rintro w' ⟨s0, s1, s2, s3, s4, s5, s6, s7⟩
        go_simp
        with_reducible rfl
       rotate_left
       ·simp only [Act.put, List.setIfInBounds_toArray, List.set_cons_zero, List.set_cons_succ, i64_w, i32_w]
        rfl
       refine pure_ (i := 5) (N := some 43) (v := ?_) (a' := ?_) #[true, true, true, true, true, true, true, true, false, false, false] rfl rfl (any_of HT_.out (by kernel_rfl)) (fun _ _ _ h => h) (Or.inl ⟨by rfl, ?_⟩) ?_ ?_
       rotate_left
       ·intro w'
        go_simp
        with_reducible rfl
       rotate_left
       ·simp only [Act.put, List.setIfInBounds_toArray, List.set_cons_zero, List.set_cons_succ, i64_w, i32_w]
        rfl
       refine pure_ (i := 9) (N := some 8) (v := ?_) (a' := ?_) #[true, true, true, true, true, true, true, true, false, true, false] rfl rfl (any_of HT_.out (by kernel_rfl)) (fun _ _ _ h => h) (Or.inl ⟨by rfl, ?_⟩) ?_ ?_
       rotate_left
       ·intro w'
        go_simp
        with_reducible rfl
       rotate_left
       ·simp only [Act.put, List.setIfInBounds_toArray, List.set_cons_zero, List.set_cons_succ, i64_w, i32_w]
        rfl
       refine take_ (i := 8) (N := some 46) (v := ?_) (a' := ?_) #[true, true, true, true, true, true, true, true, true, true, false] rfl rfl (take_ofW HT_.out HW_.out (by kernel_rfl)) (fun _ _ _ h => h) (Or.inl ⟨by rfl, ?_⟩) hHeld ?_ ?_
       rotate_left
       ·rintro w' ⟨s0, s1, s2, s3, s4, s5, s6, s7⟩
        go_simp
        with_reducible rfl
       rotate_left
       ·simp only [Act.put, List.setIfInBounds_toArray, List.set_cons_zero, List.set_cons_succ, i64_w, i32_w]
        rfl
       refine pure_ (i := 10) (N := some 9) (v := ?_) (a' := ?_) #[true, true, true, true, true, true, true, true, true, true, true] rfl rfl (any_of HT_.out (by kernel_rfl)) (fun _ _ _ h => h) (Or.inl ⟨by rfl, ?_⟩) ?_ ?_
       rotate_left
       ·intro w'
        go_simp
        with_reducible rfl
       rotate_left
       ·simp only [Act.put, List.setIfInBounds_toArray, List.set_cons_zero, List.set_cons_succ, i64_w, i32_w]
        rfl
       refine done_ (done_of HT_.out (by kernel_rfl)) ?_
       go_upto_if 48 with (fail)
       go_cut [8, 9] (fun v8 v9 wc => ∃ (kq : Nat) (x8_30 : Int) (x9_30 : Int), v8 = .int .i64 x8_30 ∧ v9 = .int .i64 x9_30 ∧ Aside0 (bfl.j1 kq x8_30 x9_30 l0_0 a0_1 l0_2 x121000_10 t118 t119 0 false = some (r1, r2, r3, r4, r5)) ∧ Aside0 (kq ≤ kj10) ∧ Aside0 (wc.heap[gb113]? = some (.cells #[(.slice A0_0 l0_0.length c0_0), .int .i64 a0_1, (.slice (some ad115) l0_2.length c0_2)] 67 (0, 0))) ∧ Aside0 (wc.heap[gb114]? = some (.cells #[.int .i64 0, .int .i64 0, .int .i64 0, .int .i64 0, .bool false] 87 (0, 0))) ∧ Aside0 (wc.heap[gb120]? = some (.cells #[.int .i64 x121000_10, .int .i64 t118, .int .i64 t119, .int .i64 0, .bool false] 87 (0, 0))) ∧ Aside0 (Below w.heap.size w wc))
       case first =>
        have H := HC31.out
        clear HC31
        by_cases c33 : (wrap64 (a0_1 - x121000_10)) < 0
        ·rw [if_pos c33] at H
         have c33b0 : decide ((wrap64 (a0_1 - x121000_10)) < 0) = true := decide_eq_true c33
         clear c33
         (first | rw [c33b0] | (simp only [i64_w, i32_w]; rw [c33b0]) | skip)
         have H' := Aside0.mk H
         clear H
         try go_wp2
         have n0_ := Aside0.mk (blk_drew BK113.out)
         have n1_ := Aside0.mk (blk_drew BK114.out)
         have n2_ := Aside0.mk (blk_drew BK120.out)
         have n3_ := Aside0.mk (below_drew1 HB.out)
         clear BK113 BK114 BK120 HB
         have BK113 := n0_
         have BK114 := n1_
         have BK120 := n2_
         have HB := n3_
         clear n0_ n1_ n2_ n3_
         refine start_ (n := 7) (S := fun w' => w'.cell? ⟨gb120, 0, none⟩ = some (.int .i64 x121000_10) ∧ w'.cell? ⟨gb120, 1, none⟩ = some (.int .i64 t118) ∧ w'.cell? ⟨gb120, 2, none⟩ = some (.int .i64 t119) ∧ w'.cell? ⟨gb120, 3, none⟩ = some (.int .i64 0) ∧ w'.cell? ⟨gb120, 4, none⟩ = some (.bool false)) (ds := []) #[false, false, false, false, false, false, false] (by kernel_rfl) rfl rfl ⟨(blk_cell BK120.out 0).trans rfl, (blk_cell BK120.out 1).trans rfl, (blk_cell BK120.out 2).trans rfl, (blk_cell BK120.out 3).trans rfl, (blk_cell BK120.out 4).trans rfl⟩ (fun hHeld => ?_)
         generalize w32.drew = w34 at BK113 BK114 BK120 HB hHeld ⊢
         refine pure_ (i := 0) (N := some 49) (v := ?_) (a' := ?_) #[true, false, false, false, false, false, false] rfl rfl (by kernel_rfl) (fun _ _ _ h => h) (Or.inl ⟨by rfl, ?_⟩) ?_ ?_
         rotate_left
         ·intro w'
          go_simp
          with_reducible rfl
         rotate_left
         ·simp only [Act.put, List.setIfInBounds_toArray, List.set_cons_zero, List.set_cons_succ, i64_w, i32_w]
          rfl
         refine pure_ (i := 1) (N := some 50) (v := ?_) (a' := ?_) #[true, true, false, false, false, false, false] rfl rfl (by kernel_rfl) (fun _ _ _ h => h) (Or.inl ⟨by rfl, ?_⟩) ?_ ?_
         rotate_left
         ·intro w'
          go_simp
          with_reducible rfl
         rotate_left
         ·simp only [Act.put, List.setIfInBounds_toArray, List.set_cons_zero, List.set_cons_succ, i64_w, i32_w]
          rfl
         refine pure_ (i := 2) (N := some 51) (v := ?_) (a' := ?_) #[true, true, true, false, false, false, false] rfl rfl (by kernel_rfl) (fun _ _ _ h => h) (Or.inl ⟨by rfl, ?_⟩) ?_ ?_
         rotate_left
         ·intro w'
          go_simp
          with_reducible rfl
         rotate_left
         ·simp only [Act.put, List.setIfInBounds_toArray, List.set_cons_zero, List.set_cons_succ, i64_w, i32_w]
          rfl
         refine pure_ (i := 3) (N := some 52) (v := ?_) (a' := ?_) #[true, true, true, true, false, false, false] rfl rfl (by kernel_rfl) (fun _ _ _ h => h) (Or.inl ⟨by rfl, ?_⟩) ?_ ?_
         rotate_left
         ·intro w'
          go_simp
          with_reducible rfl
         rotate_left
         ·simp only [Act.put, List.setIfInBounds_toArray, List.set_cons_zero, List.set_cons_succ, i64_w, i32_w]
          rfl
         refine pure_ (i := 5) (N := some 8) (v := ?_) (a' := ?_) #[true, true, true, true, false, true, false] rfl rfl (by kernel_rfl) (fun _ _ _ h => h) (Or.inl ⟨by rfl, ?_⟩) ?_ ?_
         rotate_left
         ·intro w'
          go_simp
          with_reducible rfl
         rotate_left
         ·simp only [Act.put, List.setIfInBounds_toArray, List.set_cons_zero, List.set_cons_succ, i64_w, i32_w]
          rfl
         refine take_ (i := 4) (N := some 53) (v := ?_) (a' := ?_) #[true, true, true, true, true, true, false] rfl rfl (by kernel_rfl) (fun _ _ _ h => h) (Or.inl ⟨by rfl, ?_⟩) hHeld ?_ ?_
         rotate_left
         ·rintro w' ⟨s0, s1, s2, s3, s4⟩
          go_simp
          with_reducible rfl
         rotate_left
         ·simp only [Act.put, List.setIfInBounds_toArray, List.set_cons_zero, List.set_cons_succ, i64_w, i32_w]
          rfl
         refine pure_ (i := 6) (N := some 9) (v := ?_) (a' := ?_) #[true, true, true, true, true, true, true] rfl rfl (by kernel_rfl) (fun _ _ _ h => h) (Or.inl ⟨by rfl, ?_⟩) ?_ ?_
         rotate_left
         ·intro w'
          go_simp
          with_reducible rfl
         rotate_left
         ·simp only [Act.put, List.setIfInBounds_toArray, List.set_cons_zero, List.set_cons_succ, i64_w, i32_w]
          rfl
         refine done_ (by kernel_rfl) ?_
         try go_wp2
         go_meet
         case rel => exact ⟨_, (wrap64 (-(wrap64 (a0_1 - x121000_10)))), (t119), (by first | rfl | (simp; done) | (simp [*]; done)), (by first | rfl | (simp; done) | (simp [*]; done)), H', ⟨by have := HJ10.out; first | omega | exact Nat.le_refl _⟩, ⟨by (with_reducible repeat (first | refine blk_drewN ?_ _ | refine blk_drew ?_ | refine blk_alloc ?_ _)); exact BK113.out⟩, ⟨by (with_reducible repeat (first | refine blk_drewN ?_ _ | refine blk_drew ?_ | refine blk_alloc ?_ _)); exact BK114.out⟩, ⟨by (with_reducible repeat (first | refine blk_drewN ?_ _ | refine blk_drew ?_ | refine blk_alloc ?_ _)); exact BK120.out⟩, ⟨by repeat (first | (with_reducible first | exact HB.out | apply below_alloc | apply pw_below_drewN | apply below_drew1 | refine below_set ?_ GE113.out | refine below_set ?_ GE114.out | refine below_set ?_ GE120.out) | exact HB.out)⟩⟩
        ·rw [if_neg c33] at H
         have c33b0 : decide ((wrap64 (a0_1 - x121000_10)) < 0) = false := decide_eq_false c33
         clear c33
         (first | rw [c33b0] | (simp only [i64_w, i32_w]; rw [c33b0]) | skip)
         by_cases c35 : a2 = (l0_0.length : Int)
         ·rw [if_pos c35] at H
          have c35b0 : (a2 == (l0_0.length : Int)) = true := beq_iff_eq.mpr c35
          have c35b1 : (a2 != (l0_0.length : Int)) = false := bne_eq_false_iff_eq.mpr c35
          clear c35
          have H' := Aside0.mk H
          clear H
          have hnb36 := NB113_114.out
          have hnc36 := NB114_113.out
          have hnb37 := NB113_120.out
          have hnc37 := NB120_113.out
          have hcz38_0 : w32.cell? ⟨gb113, 0, none⟩ = some (.slice A0_0 l0_0.length c0_0) := (blk_cell BK113.out 0).trans rfl
          have hcz38_1 : w32.cell? ⟨gb113, 1, none⟩ = some (.int .i64 a0_1) := (blk_cell BK113.out 1).trans rfl
          have hcz38_2 : w32.cell? ⟨gb113, 2, none⟩ = some (.slice (some ad115) l0_2.length c0_2) := (blk_cell BK113.out 2).trans rfl
          have hfz38_0 := blk_frozen BK113.out 0
          have hfz38_1 := blk_frozen BK113.out 1
          have hfz38_2 := blk_frozen BK113.out 2
          go_wp2
          go_meet
          case rel => exact ⟨_, (0), (t118), (by first | rfl | (simp; done) | (simp [*]; done)), (by first | rfl | (simp; done) | (simp [*]; done)), H', ⟨by have := HJ10.out; first | omega | exact Nat.le_refl _⟩, ⟨by (with_reducible repeat (first | refine blk_drewN ?_ _ | refine blk_drew ?_ | refine blk_alloc ?_ _)); exact BK113.out⟩, ⟨by (with_reducible repeat (first | refine blk_drewN ?_ _ | refine blk_drew ?_ | refine blk_alloc ?_ _)); exact BK114.out⟩, ⟨by (with_reducible repeat (first | refine blk_drewN ?_ _ | refine blk_drew ?_ | refine blk_alloc ?_ _)); exact BK120.out⟩, ⟨by repeat (first | (with_reducible first | exact HB.out | apply below_alloc | apply pw_below_drewN | apply below_drew1 | refine below_set ?_ GE113.out | refine below_set ?_ GE114.out | refine below_set ?_ GE120.out) | exact HB.out)⟩⟩
         ·rw [if_neg c35] at H
          have c35b0 : (a2 == (l0_0.length : Int)) = false := beq_eq_false_iff_ne.mpr c35
          have c35b1 : (a2 != (l0_0.length : Int)) = true := bne_iff_ne.mpr c35
          have H' := Aside0.mk H
          clear H
          have hnb39 := NB113_114.out
          have hnc39 := NB114_113.out
          have hnb40 := NB113_120.out
          have hnc40 := NB120_113.out
          have hcz41_0 : w32.cell? ⟨gb113, 0, none⟩ = some (.slice A0_0 l0_0.length c0_0) := (blk_cell BK113.out 0).trans rfl
          have hcz41_1 : w32.cell? ⟨gb113, 1, none⟩ = some (.int .i64 a0_1) := (blk_cell BK113.out 1).trans rfl
          have hcz41_2 : w32.cell? ⟨gb113, 2, none⟩ = some (.slice (some ad115) l0_2.length c0_2) := (blk_cell BK113.out 2).trans rfl
          have hfz41_0 := blk_frozen BK113.out 0
          have hfz41_1 := blk_frozen BK113.out 1
          have hfz41_2 := blk_frozen BK113.out 2
          go_wp2
          go_meet
          case rel => exact ⟨_, (wrap64 (a0_1 - x121000_10)), (t118), (by first | rfl | (simp; done) | (simp [*]; done)), (by first | rfl | (simp; done) | (simp [*]; done)), H', ⟨by have := HJ10.out; first | omega | exact Nat.le_refl _⟩, ⟨by (with_reducible repeat (first | refine blk_drewN ?_ _ | refine blk_drew ?_ | refine blk_alloc ?_ _)); exact BK113.out⟩, ⟨by (with_reducible repeat (first | refine blk_drewN ?_ _ | refine blk_drew ?_ | refine blk_alloc ?_ _)); exact BK114.out⟩, ⟨by (with_reducible repeat (first | refine blk_drewN ?_ _ | refine blk_drew ?_ | refine blk_alloc ?_ _)); exact BK120.out⟩, ⟨by repeat (first | (with_reducible first | exact HB.out | apply below_alloc | apply pw_below_drewN | apply below_drew1 | refine below_set ?_ GE113.out | refine below_set ?_ GE114.out | refine below_set ?_ GE120.out) | exact HB.out)⟩⟩
       case rest =>
        clear HC31
        try clear p1
        try clear q1
        try clear hx1
        try clear c2
        try clear p2
        try clear c3
        try clear c4
        try clear c4b0
        try clear c5
        try clear c5b0
        try clear p6
        try clear c7
        try clear c7b0
        try clear c8
        try clear c8b0
        try clear p11
        try clear q11
        try clear hx11
        try clear p12
        try clear q12
        try clear hx12
        try clear c23
        try clear c24
        try clear c27
        try clear c28
        try clear c28b0
        try clear c33
        try clear c33b0
        try clear c35
        try clear c35b0
        try clear c35b1
        try clear c36
        try clear c37
        try clear c39
        try clear c40
        try clear hcz25_0
        try clear hcz25_1
        try clear hcz25_2
        try clear hcz38_0
        try clear hcz38_1
        try clear hcz38_2
        try clear hcz41_0
        try clear hcz41_1
        try clear hcz41_2
        try clear hfz25_0
        try clear hfz25_1
        try clear hfz25_2
        try clear hfz38_0
        try clear hfz38_1
        try clear hfz38_2
        try clear hfz41_0
        try clear hfz41_1
        try clear hfz41_2
        try clear hx115_0
        try clear hx115_1
        try clear hx115_2
        try clear hx116_0
        try clear hx116_1
        try clear hx116_2
        try clear hx122_0
        try clear hx122_1
        try clear hx122_2
        try clear hx122_3
        try clear hx122_4
        try clear p1
        try clear p11
        try clear p115
        try clear p116
        try clear p12
        try clear p122
        try clear p2
        try clear p6
        try clear q1
        try clear q11
        try clear q115
        try clear q116
        try clear q12
        try clear q122
        obtain ⟨kq, x8_30, x9_30, rfl, rfl, HA, HJ30, BK113, BK114, BK120, HB⟩ := hcut
        cases kq with
        | zero => exact absurd HA.out (by simp [bfl.j1])
        | succ kj30 =>
         have H := HA.out
         clear HA
         simp only [bfl.j1] at H
         by_cases c42 : x8_30 = 0
         ·rw [if_pos c42] at H
          have c42b0 : (x8_30 == 0) = true := beq_iff_eq.mpr c42
          have c42b1 : (x8_30 != 0) = false := bne_eq_false_iff_eq.mpr c42
          clear c42
          simp only [Option.some.injEq, Prod.mk.injEq] at H
          obtain ⟨rfl, rfl, rfl, rfl, rfl⟩ := H
          have hnb43 := NB120_113.out
          have hnc43 := NB113_120.out
          have hnb44 := NB120_114.out
          have hnc44 := NB114_120.out
          have hcz45_0 : wc.cell? ⟨gb120, 0, none⟩ = some (.int .i64 x121000_10) := (blk_cell BK120.out 0).trans rfl
          have hcz45_1 : wc.cell? ⟨gb120, 1, none⟩ = some (.int .i64 t118) := (blk_cell BK120.out 1).trans rfl
          have hcz45_2 : wc.cell? ⟨gb120, 2, none⟩ = some (.int .i64 t119) := (blk_cell BK120.out 2).trans rfl
          have hcz45_3 : wc.cell? ⟨gb120, 3, none⟩ = some (.int .i64 0) := (blk_cell BK120.out 3).trans rfl
          have hcz45_4 : wc.cell? ⟨gb120, 4, none⟩ = some (.bool false) := (blk_cell BK120.out 4).trans rfl
          have hfz45_0 := blk_frozen BK120.out 0
          have hfz45_1 := blk_frozen BK120.out 1
          have hfz45_2 := blk_frozen BK120.out 2
          have hfz45_3 := blk_frozen BK120.out 3
          have hfz45_4 := blk_frozen BK120.out 4
          have hnb46 := NB113_114.out
          have hnc46 := NB114_113.out
          have hcz47_0 : wc.cell? ⟨gb113, 0, none⟩ = some (.slice A0_0 l0_0.length c0_0) := (blk_cell BK113.out 0).trans rfl
          have hcz47_1 : wc.cell? ⟨gb113, 1, none⟩ = some (.int .i64 a0_1) := (blk_cell BK113.out 1).trans rfl
          have hcz47_2 : wc.cell? ⟨gb113, 2, none⟩ = some (.slice (some ad115) l0_2.length c0_2) := (blk_cell BK113.out 2).trans rfl
          have hfz47_0 := blk_frozen BK113.out 0
          have hfz47_1 := blk_frozen BK113.out 1
          have hfz47_2 := blk_frozen BK113.out 2
          have hcz48_0 : wc.cell? ⟨gb114, 0, none⟩ = some (.int .i64 0) := (blk_cell BK114.out 0).trans rfl
          have hcz48_1 : wc.cell? ⟨gb114, 1, none⟩ = some (.int .i64 0) := (blk_cell BK114.out 1).trans rfl
          have hcz48_2 : wc.cell? ⟨gb114, 2, none⟩ = some (.int .i64 0) := (blk_cell BK114.out 2).trans rfl
          have hcz48_3 : wc.cell? ⟨gb114, 3, none⟩ = some (.int .i64 0) := (blk_cell BK114.out 3).trans rfl
          have hcz48_4 : wc.cell? ⟨gb114, 4, none⟩ = some (.bool false) := (blk_cell BK114.out 4).trans rfl
          have hfz48_0 := blk_frozen BK114.out 0
          have hfz48_1 := blk_frozen BK114.out 1
          have hfz48_2 := blk_frozen BK114.out 2
          have hfz48_3 := blk_frozen BK114.out 3
          have hfz48_4 := blk_frozen BK114.out 4
          go_wp2
          refine bodyPost_ret (results_cell_row rfl _ _ gb114 87 #[.int .i64 x121000_10, .int .i64 t118, .int .i64 t119, .int .i64 0, .bool (decide ((wrap64 (x121000_10 - t119)) > a0_1))] (0, 0) _ rfl (by (with_reducible repeat (first | refine blk_drewN ?_ _ | refine blk_drew ?_ | refine blk_alloc ?_ _)); refine blk_put (cs := #[.int .i64 x121000_10, .int .i64 t118, .int .i64 t119, .int .i64 0, .bool false]) ?_ 4 _ rfl; (with_reducible repeat (first | refine blk_drewN ?_ _ | refine blk_drew ?_ | refine blk_alloc ?_ _)); refine blk_put (cs := #[.int .i64 x121000_10, .int .i64 t118, .int .i64 t119, .int .i64 0, .bool false]) ?_ 3 _ rfl; (with_reducible repeat (first | refine blk_drewN ?_ _ | refine blk_drew ?_ | refine blk_alloc ?_ _)); refine blk_put (cs := #[.int .i64 x121000_10, .int .i64 t118, .int .i64 0, .int .i64 0, .bool false]) ?_ 2 _ rfl; (with_reducible repeat (first | refine blk_drewN ?_ _ | refine blk_drew ?_ | refine blk_alloc ?_ _)); refine blk_put (cs := #[.int .i64 x121000_10, .int .i64 0, .int .i64 0, .int .i64 0, .bool false]) ?_ 1 _ rfl; (with_reducible repeat (first | refine blk_drewN ?_ _ | refine blk_drew ?_ | refine blk_alloc ?_ _)); refine blk_put (cs := #[.int .i64 0, .int .i64 0, .int .i64 0, .int .i64 0, .bool false]) ?_ 0 _ rfl; (with_reducible repeat (first | refine blk_drewN ?_ _ | refine blk_drew ?_ | refine blk_alloc ?_ _)); refine blk_far ?_ NB114_120.out _; (with_reducible repeat (first | refine blk_drewN ?_ _ | refine blk_drew ?_ | refine blk_alloc ?_ _)); exact BK114.out) Try.underlying87 rfl (by kernel_rfl)) rfl ?_
          exact ⟨by first | rfl | (simp [errW_none, errW_some] <;> rfl) | (simp only [← hji6]; first | rfl | (simp [errW_none, errW_some] <;> rfl)) | (simp [*, errW_none, errW_some] <;> rfl), by repeat (first | (with_reducible first | exact HB.out | apply below_alloc | apply pw_below_drewN | apply below_drew1 | refine below_set ?_ GE113.out | refine below_set ?_ GE114.out | refine below_set ?_ GE120.out) | exact HB.out)⟩
         ·rw [if_neg c42] at H
          have c42b0 : (x8_30 == 0) = false := beq_eq_false_iff_ne.mpr c42
          have c42b1 : (x8_30 != 0) = true := bne_iff_ne.mpr c42
          by_cases c49 : x9_30 = 0
          ·rw [if_pos c49] at H
           have c49b0 : (x9_30 == 0) = true := beq_iff_eq.mpr c49
           have c49b1 : (x9_30 != 0) = false := bne_eq_false_iff_eq.mpr c49
           clear c49
           simp only [Option.some.injEq, Prod.mk.injEq] at H
           obtain ⟨rfl, rfl, rfl, rfl, rfl⟩ := H
           have hnb50 := NB120_113.out
           have hnc50 := NB113_120.out
           have hnb51 := NB120_114.out
           have hnc51 := NB114_120.out
           have hcz52_0 : wc.cell? ⟨gb120, 0, none⟩ = some (.int .i64 x121000_10) := (blk_cell BK120.out 0).trans rfl
           have hcz52_1 : wc.cell? ⟨gb120, 1, none⟩ = some (.int .i64 t118) := (blk_cell BK120.out 1).trans rfl
           have hcz52_2 : wc.cell? ⟨gb120, 2, none⟩ = some (.int .i64 t119) := (blk_cell BK120.out 2).trans rfl
           have hcz52_3 : wc.cell? ⟨gb120, 3, none⟩ = some (.int .i64 0) := (blk_cell BK120.out 3).trans rfl
           have hcz52_4 : wc.cell? ⟨gb120, 4, none⟩ = some (.bool false) := (blk_cell BK120.out 4).trans rfl
           have hfz52_0 := blk_frozen BK120.out 0
           have hfz52_1 := blk_frozen BK120.out 1
           have hfz52_2 := blk_frozen BK120.out 2
           have hfz52_3 := blk_frozen BK120.out 3
           have hfz52_4 := blk_frozen BK120.out 4
           have hnb53 := NB113_114.out
           have hnc53 := NB114_113.out
           have hcz54_0 : wc.cell? ⟨gb113, 0, none⟩ = some (.slice A0_0 l0_0.length c0_0) := (blk_cell BK113.out 0).trans rfl
           have hcz54_1 : wc.cell? ⟨gb113, 1, none⟩ = some (.int .i64 a0_1) := (blk_cell BK113.out 1).trans rfl
           have hcz54_2 : wc.cell? ⟨gb113, 2, none⟩ = some (.slice (some ad115) l0_2.length c0_2) := (blk_cell BK113.out 2).trans rfl
           have hfz54_0 := blk_frozen BK113.out 0
           have hfz54_1 := blk_frozen BK113.out 1
           have hfz54_2 := blk_frozen BK113.out 2
           have hcz55_0 : wc.cell? ⟨gb114, 0, none⟩ = some (.int .i64 0) := (blk_cell BK114.out 0).trans rfl
           have hcz55_1 : wc.cell? ⟨gb114, 1, none⟩ = some (.int .i64 0) := (blk_cell BK114.out 1).trans rfl
           have hcz55_2 : wc.cell? ⟨gb114, 2, none⟩ = some (.int .i64 0) := (blk_cell BK114.out 2).trans rfl
           have hcz55_3 : wc.cell? ⟨gb114, 3, none⟩ = some (.int .i64 0) := (blk_cell BK114.out 3).trans rfl
           have hcz55_4 : wc.cell? ⟨gb114, 4, none⟩ = some (.bool false) := (blk_cell BK114.out 4).trans rfl
           have hfz55_0 := blk_frozen BK114.out 0
           have hfz55_1 := blk_frozen BK114.out 1
           have hfz55_2 := blk_frozen BK114.out 2
           have hfz55_3 := blk_frozen BK114.out 3
           have hfz55_4 := blk_frozen BK114.out 4
           go_wp2
           refine bodyPost_ret (results_cell_row rfl _ _ gb114 87 #[.int .i64 x121000_10, .int .i64 t118, .int .i64 t119, .int .i64 1024, .bool (decide ((wrap64 (x121000_10 - t119)) > a0_1))] (0, 0) _ rfl (by (with_reducible repeat (first | refine blk_drewN ?_ _ | refine blk_drew ?_ | refine blk_alloc ?_ _)); refine blk_put (cs := #[.int .i64 x121000_10, .int .i64 t118, .int .i64 t119, .int .i64 1024, .bool false]) ?_ 4 _ rfl; (with_reducible repeat (first | refine blk_drewN ?_ _ | refine blk_drew ?_ | refine blk_alloc ?_ _)); refine blk_put (cs := #[.int .i64 x121000_10, .int .i64 t118, .int .i64 t119, .int .i64 0, .bool false]) ?_ 3 _ rfl; (with_reducible repeat (first | refine blk_drewN ?_ _ | refine blk_drew ?_ | refine blk_alloc ?_ _)); refine blk_put (cs := #[.int .i64 x121000_10, .int .i64 t118, .int .i64 0, .int .i64 0, .bool false]) ?_ 2 _ rfl; (with_reducible repeat (first | refine blk_drewN ?_ _ | refine blk_drew ?_ | refine blk_alloc ?_ _)); refine blk_put (cs := #[.int .i64 x121000_10, .int .i64 0, .int .i64 0, .int .i64 0, .bool false]) ?_ 1 _ rfl; (with_reducible repeat (first | refine blk_drewN ?_ _ | refine blk_drew ?_ | refine blk_alloc ?_ _)); refine blk_put (cs := #[.int .i64 0, .int .i64 0, .int .i64 0, .int .i64 0, .bool false]) ?_ 0 _ rfl; (with_reducible repeat (first | refine blk_drewN ?_ _ | refine blk_drew ?_ | refine blk_alloc ?_ _)); refine blk_far ?_ NB114_120.out _; (with_reducible repeat (first | refine blk_drewN ?_ _ | refine blk_drew ?_ | refine blk_alloc ?_ _)); refine blk_far ?_ NB114_120.out _; (with_reducible repeat (first | refine blk_drewN ?_ _ | refine blk_drew ?_ | refine blk_alloc ?_ _)); exact BK114.out) Try.underlying87 rfl (by kernel_rfl)) rfl ?_
           exact ⟨by first | rfl | (simp [errW_none, errW_some] <;> rfl) | (simp only [← hji6]; first | rfl | (simp [errW_none, errW_some] <;> rfl)) | (simp [*, errW_none, errW_some] <;> rfl), by repeat (first | (with_reducible first | exact HB.out | apply below_alloc | apply pw_below_drewN | apply below_drew1 | refine below_set ?_ GE113.out | refine below_set ?_ GE114.out | refine below_set ?_ GE120.out) | exact HB.out)⟩
          ·rw [if_neg c49] at H
           have c49b0 : (x9_30 == 0) = false := beq_eq_false_iff_ne.mpr c49
           have c49b1 : (x9_30 != 0) = true := bne_iff_ne.mpr c49
           obtain ⟨ji56, hji56⟩ : ∃ j_ : Int, (mn (wrap64 (Int.tdiv (wrap64 (x8_30 * 128)) x9_30)) 1024) = j_ := ⟨_, rfl⟩
           replace H : (some (x121000_10, t118, t119, ji56, decide ((wrap64 (x121000_10 - t119)) > a0_1))) = some (r1, r2, r3, r4, r5) := by first | (rw [hji56] at H; exact H) | (simp only [hji56] at H ⊢; exact H)
           have hji56_ : (if 1024 < (wrap64 (Int.tdiv (wrap64 (x8_30 * 128)) x9_30)) then 1024 else (wrap64 (Int.tdiv (wrap64 (x8_30 * 128)) x9_30))) = ji56 := hji56
           simp only [Option.some.injEq, Prod.mk.injEq] at H
           obtain ⟨rfl, rfl, rfl, rfl, rfl⟩ := H
           have hnb57 := NB120_113.out
           have hnc57 := NB113_120.out
           have hnb58 := NB120_114.out
           have hnc58 := NB114_120.out
           have hcz59_0 : wc.cell? ⟨gb120, 0, none⟩ = some (.int .i64 x121000_10) := (blk_cell BK120.out 0).trans rfl
           have hcz59_1 : wc.cell? ⟨gb120, 1, none⟩ = some (.int .i64 t118) := (blk_cell BK120.out 1).trans rfl
           have hcz59_2 : wc.cell? ⟨gb120, 2, none⟩ = some (.int .i64 t119) := (blk_cell BK120.out 2).trans rfl
           have hcz59_3 : wc.cell? ⟨gb120, 3, none⟩ = some (.int .i64 0) := (blk_cell BK120.out 3).trans rfl
           have hcz59_4 : wc.cell? ⟨gb120, 4, none⟩ = some (.bool false) := (blk_cell BK120.out 4).trans rfl
           have hfz59_0 := blk_frozen BK120.out 0
           have hfz59_1 := blk_frozen BK120.out 1
           have hfz59_2 := blk_frozen BK120.out 2
           have hfz59_3 := blk_frozen BK120.out 3
           have hfz59_4 := blk_frozen BK120.out 4
           have hnb60 := NB113_114.out
           have hnc60 := NB114_113.out
           have hcz61_0 : wc.cell? ⟨gb113, 0, none⟩ = some (.slice A0_0 l0_0.length c0_0) := (blk_cell BK113.out 0).trans rfl
           have hcz61_1 : wc.cell? ⟨gb113, 1, none⟩ = some (.int .i64 a0_1) := (blk_cell BK113.out 1).trans rfl
           have hcz61_2 : wc.cell? ⟨gb113, 2, none⟩ = some (.slice (some ad115) l0_2.length c0_2) := (blk_cell BK113.out 2).trans rfl
           have hfz61_0 := blk_frozen BK113.out 0
           have hfz61_1 := blk_frozen BK113.out 1
           have hfz61_2 := blk_frozen BK113.out 2
           have hcz62_0 : wc.cell? ⟨gb114, 0, none⟩ = some (.int .i64 0) := (blk_cell BK114.out 0).trans rfl
           have hcz62_1 : wc.cell? ⟨gb114, 1, none⟩ = some (.int .i64 0) := (blk_cell BK114.out 1).trans rfl
           have hcz62_2 : wc.cell? ⟨gb114, 2, none⟩ = some (.int .i64 0) := (blk_cell BK114.out 2).trans rfl
           have hcz62_3 : wc.cell? ⟨gb114, 3, none⟩ = some (.int .i64 0) := (blk_cell BK114.out 3).trans rfl
           have hcz62_4 : wc.cell? ⟨gb114, 4, none⟩ = some (.bool false) := (blk_cell BK114.out 4).trans rfl
           have hfz62_0 := blk_frozen BK114.out 0
           have hfz62_1 := blk_frozen BK114.out 1
           have hfz62_2 := blk_frozen BK114.out 2
           have hfz62_3 := blk_frozen BK114.out 3
           have hfz62_4 := blk_frozen BK114.out 4
           go_wp2
           refine bodyPost_ret (results_cell_row rfl _ _ gb114 87 #[.int .i64 x121000_10, .int .i64 t118, .int .i64 t119, .int .i64 ji56, .bool (decide ((wrap64 (x121000_10 - t119)) > a0_1))] (0, 0) _ rfl (by (with_reducible repeat (first | refine blk_drewN ?_ _ | refine blk_drew ?_ | refine blk_alloc ?_ _)); refine blk_put (cs := #[.int .i64 x121000_10, .int .i64 t118, .int .i64 t119, .int .i64 ji56, .bool false]) ?_ 4 _ rfl; (with_reducible repeat (first | refine blk_drewN ?_ _ | refine blk_drew ?_ | refine blk_alloc ?_ _)); refine blk_put (cs := #[.int .i64 x121000_10, .int .i64 t118, .int .i64 t119, .int .i64 0, .bool false]) ?_ 3 _ rfl; (with_reducible repeat (first | refine blk_drewN ?_ _ | refine blk_drew ?_ | refine blk_alloc ?_ _)); refine blk_put (cs := #[.int .i64 x121000_10, .int .i64 t118, .int .i64 0, .int .i64 0, .bool false]) ?_ 2 _ rfl; (with_reducible repeat (first | refine blk_drewN ?_ _ | refine blk_drew ?_ | refine blk_alloc ?_ _)); refine blk_put (cs := #[.int .i64 x121000_10, .int .i64 0, .int .i64 0, .int .i64 0, .bool false]) ?_ 1 _ rfl; (with_reducible repeat (first | refine blk_drewN ?_ _ | refine blk_drew ?_ | refine blk_alloc ?_ _)); refine blk_put (cs := #[.int .i64 0, .int .i64 0, .int .i64 0, .int .i64 0, .bool false]) ?_ 0 _ rfl; (with_reducible repeat (first | refine blk_drewN ?_ _ | refine blk_drew ?_ | refine blk_alloc ?_ _)); refine blk_far ?_ NB114_120.out _; (with_reducible repeat (first | refine blk_drewN ?_ _ | refine blk_drew ?_ | refine blk_alloc ?_ _)); refine blk_far ?_ NB114_120.out _; (with_reducible repeat (first | refine blk_drewN ?_ _ | refine blk_drew ?_ | refine blk_alloc ?_ _)); exact BK114.out) Try.underlying87 rfl (by kernel_rfl)) rfl ?_
           exact ⟨by first | rfl | (simp [errW_none, errW_some] <;> rfl) | (simp only [← hji6, ← hji56]; first | rfl | (simp [errW_none, errW_some] <;> rfl)) | (simp [*, errW_none, errW_some] <;> rfl), by repeat (first | (with_reducible first | exact HB.out | apply below_alloc | apply pw_below_drewN | apply below_drew1 | refine below_set ?_ GE113.out | refine below_set ?_ GE114.out | refine below_set ?_ GE120.out) | exact HB.out)⟩
    ·rw [if_neg c8] at H
     exact absurd H (by simp)
   ·rw [if_neg c7] at H
    exact absurd H (by simp)
  ·rw [if_neg c5] at H
   exact absurd H (by simp)
 ·rw [if_neg c4] at H
  exact absurd H (by simp)
def best_flow_legal.f (l0_0 : List (S43)) (a0_1 : Int) (l0_2 : List (S85)) (a1 : Int) (a2 : Int) : Option (Bool) := (best_flow_hyphen.f l0_0 a0_1 l0_2 a1).bind fun t133 => (if t133 = true then ((best_flow_hyphen.f l0_0 a0_1 l0_2 a2).bind fun t134 => (some (!t134))) else (some true))
set_option maxHeartbeats 8000000 in
set_option maxRecDepth 100000 in
theorem best_flow_legal.calls (A0_0 : Option Addr) (c0_0 : Nat) (l0_0 : List (S43)) (a0_1 : Int) (A0_2 : Option Addr) (c0_2 : Nat) (l0_2 : List (S85)) (a1 : Int) (a2 : Int) (r : Bool) (w : World) (hr0_0 : Kd.C k43 w A0_0 l0_0.length l0_0) (hc0_0 : l0_0.length ≤ c0_0) (hr0_2 : Kd.C k85 w A0_2 l0_2.length l0_2) (hc0_2 : l0_2.length ≤ c0_2) (h : best_flow_legal.f l0_0 a0_1 l0_2 a1 a2 = some r) :
  Calls Try.prog 45 #[.agg #[.slice A0_0 l0_0.length c0_0, .int .i64 a0_1, .slice A0_2 l0_2.length c0_2], .int .i64 a1, .int .i64 a2] w fun e w' => e = .returned (.bool r) ∧ Below w.heap.size w w' := by
 have hu67 := Try.underlying67
 have HR0_0 := Aside0.mk hr0_0
 have HC0_0 := Aside0.mk hc0_0
 clear hr0_0 hc0_0
 have HR0_2 := Aside0.mk hr0_2
 have HC0_2 := Aside0.mk hc0_2
 clear hr0_2 hc0_2
 have HB := Aside0.mk (Below.refl w.heap.size w)
 have H : ((best_flow_hyphen.f l0_0 a0_1 l0_2 a1).bind fun t133 => (if t133 = true then ((best_flow_hyphen.f l0_0 a0_1 l0_2 a2).bind fun t134 => (some (!t134))) else (some true))) = some r := h
 clear h
 replace H := Option.bind_eq_some_iff.mp H
 obtain ⟨t133, A40, H⟩ := H
 replace H : (if t133 = true then ((best_flow_hyphen.f l0_0 a0_1 l0_2 a2).bind fun t134 => (some (!t134))) else (some true)) = some r := H
 have A4 := Aside0.mk A40
 clear A40
 by_cases c5 : t133 = true
 ·subst c5
  have H1 : ((best_flow_hyphen.f l0_0 a0_1 l0_2 a2).bind fun t134 => (some (!t134))) = some r := by rw [if_pos rfl] at H; exact H
  clear H
  have H := H1
  clear H1
  replace H := Option.bind_eq_some_iff.mp H
  obtain ⟨t134, A60, H⟩ := H
  replace H : (some (!t134)) = some r := H
  have A6 := Aside0.mk A60
  clear A60
  obtain rfl := Option.some.inj H
  go_enter Try.func45, Try.ntmps45
  go_wp2_with (first | ((with_reducible refine gate_dst (N := 3) rfl ?_); refine box_event ?hg (N := 3) ?hd (cs := #[.slice A0_0 l0_0.length c0_0, .int .i64 a0_1, .slice A0_2 l0_2.length c0_2]) (t := 67) ?hr ?_; (case hd => rfl); (case hg => rfl); (case hr => first | (go_simp; done) | (go_simp; rfl)); intro gb132 hg w7 hbox hb; have n0_ := Aside0.mk (below_step (by repeat (first | (with_reducible first | exact HB.out | apply below_alloc | apply pw_below_drewN | apply below_drew1) | exact HB.out)) hb); have n1_ := Aside0.mk (hbox); have n2_ := Aside0.mk ((by rw [hg]; exact (below_size (by repeat (first | (with_reducible first | exact HB.out | apply below_alloc | apply pw_below_drewN | apply below_drew1) | exact HB.out))) : w.heap.size ≤ gb132)); have n3_ := Aside0.mk ((by rw [hg]; exact (below_size (by repeat (first | (with_reducible first | exact HB.out | apply below_alloc | apply pw_below_drewN | apply below_drew1) | exact HB.out))) : w.heap.size ≤ gb132)); clear HB; have HB := n0_; have BK132 := n1_; have GW132 := n2_; have GE132 := n3_; clear n0_ n1_ n2_ n3_; clear hb hbox hg; have hcz8_0 : w7.cell? ⟨gb132, 0, none⟩ = some (.slice A0_0 l0_0.length c0_0) := (blk_cell BK132.out 0).trans rfl; have hcz8_1 : w7.cell? ⟨gb132, 1, none⟩ = some (.int .i64 a0_1) := (blk_cell BK132.out 1).trans rfl; have hcz8_2 : w7.cell? ⟨gb132, 2, none⟩ = some (.slice A0_2 l0_2.length c0_2) := (blk_cell BK132.out 2).trans rfl; have hfz8_0 := blk_frozen BK132.out 0; have hfz8_1 := blk_frozen BK132.out 1; have hfz8_2 := blk_frozen BK132.out 2) | ((with_reducible refine gate_callee (f := 75) rfl ?_); refine goesL_ (some 9) rfl rfl Try.func75 (by kernel_rfl) rfl #[.agg #[.slice A0_0 l0_0.length c0_0, .int .i64 a0_1, .slice A0_2 l0_2.length c0_2], .int .i64 a1] rfl (by (try simp only [List.map_toArray, List.map_cons, List.map_nil]); first | done | rfl | (simp only [List.length_drop, List.length_take]; rfl)) ?_; (with_reducible refine (best_flow_hyphen.calls _ _ l0_0 a0_1 _ _ l0_2 a1 true _ ?side1 ?side2 ?side3 ?side4 A4.out).mono ?_); (case side1 => repeat (first | exact (Kd.C_below HR0_0.out HB.out) | (with_reducible refine Kd.C_alloc ?_ _) | (with_reducible refine Kd.C_drewN ?_ _) | (with_reducible refine Kd.C_drew ?_))); (case side2 => exact HC0_0.out); (case side3 => repeat (first | exact (Kd.C_below HR0_2.out HB.out) | (with_reducible refine Kd.C_alloc ?_ _) | (with_reducible refine Kd.C_drewN ?_ _) | (with_reducible refine Kd.C_drew ?_))); (case side4 => exact HC0_2.out); rintro e w9 ⟨rfl, hb⟩; refine ⟨_, rfl, ?_⟩; have n0_ := Aside0.mk (blk_below (g := gb132) (o := .cells #[.slice A0_0 l0_0.length c0_0, .int .i64 a0_1, .slice A0_2 l0_2.length c0_2] 67 (0, 0)) (by (with_reducible repeat (first | refine blk_drewN ?_ _ | refine blk_drew ?_ | refine blk_alloc ?_ _)); exact BK132.out) hb); have n1_ := Aside0.mk (below_step (by repeat (first | (with_reducible first | exact HB.out | apply below_alloc | apply pw_below_drewN | apply below_drew1 | refine below_set ?_ GE132.out) | exact HB.out)) hb); clear BK132; clear HB; have BK132 := n0_; have HB := n1_; clear n0_ n1_; (try clear hb); (try clear hb2); (try clear hk); (try clear hi); have hcz10_0 : w9.cell? ⟨gb132, 0, none⟩ = some (.slice A0_0 l0_0.length c0_0) := (blk_cell BK132.out 0).trans rfl; have hcz10_1 : w9.cell? ⟨gb132, 1, none⟩ = some (.int .i64 a0_1) := (blk_cell BK132.out 1).trans rfl; have hcz10_2 : w9.cell? ⟨gb132, 2, none⟩ = some (.slice A0_2 l0_2.length c0_2) := (blk_cell BK132.out 2).trans rfl; have hfz10_0 := blk_frozen BK132.out 0; have hfz10_1 := blk_frozen BK132.out 1; have hfz10_2 := blk_frozen BK132.out 2) | (go_at_call 75; (with_reducible refine (best_flow_hyphen.calls _ _ l0_0 a0_1 _ _ l0_2 a2 t134 _ ?side1 ?side2 ?side3 ?side4 A6.out).mono ?_); (case side1 => repeat (first | exact (Kd.C_below HR0_0.out HB.out) | (with_reducible refine Kd.C_alloc ?_ _) | (with_reducible refine Kd.C_drewN ?_ _) | (with_reducible refine Kd.C_drew ?_))); (case side2 => exact HC0_0.out); (case side3 => repeat (first | exact (Kd.C_below HR0_2.out HB.out) | (with_reducible refine Kd.C_alloc ?_ _) | (with_reducible refine Kd.C_drewN ?_ _) | (with_reducible refine Kd.C_drew ?_))); (case side4 => exact HC0_2.out); rintro e w11 ⟨rfl, hb⟩; have n0_ := Aside0.mk (blk_below (g := gb132) (o := .cells #[.slice A0_0 l0_0.length c0_0, .int .i64 a0_1, .slice A0_2 l0_2.length c0_2] 67 (0, 0)) (by (with_reducible repeat (first | refine blk_drewN ?_ _ | refine blk_drew ?_ | refine blk_alloc ?_ _)); exact BK132.out) hb); have n1_ := Aside0.mk (below_step (by repeat (first | (with_reducible first | exact HB.out | apply below_alloc | apply pw_below_drewN | apply below_drew1 | refine below_set ?_ GE132.out) | exact HB.out)) hb); clear BK132; clear HB; have BK132 := n0_; have HB := n1_; clear n0_ n1_; (try clear hb); (try clear hb2); (try clear hk); (try clear hi)))
  go_ret
  exact ⟨by first | rfl | (simp [errW_none, errW_some] <;> rfl) | (simp [*, errW_none, errW_some] <;> rfl), by repeat (first | (with_reducible first | exact HB.out | apply below_alloc | apply pw_below_drewN | apply below_drew1 | refine below_set ?_ GE132.out) | exact HB.out)⟩
 ·replace c5 := Bool.eq_false_iff.mpr c5
  subst c5
  have H1 : (some true) = some r := by rw [if_neg (show ¬ (false = true) by decide)] at H; exact H
  clear H
  have H := H1
  clear H1
  obtain rfl := Option.some.inj H
  go_enter Try.func45, Try.ntmps45
  go_wp2_with (first | ((with_reducible refine gate_dst (N := 3) rfl ?_); refine box_event ?hg (N := 3) ?hd (cs := #[.slice A0_0 l0_0.length c0_0, .int .i64 a0_1, .slice A0_2 l0_2.length c0_2]) (t := 67) ?hr ?_; (case hd => rfl); (case hg => rfl); (case hr => first | (go_simp; done) | (go_simp; rfl)); intro gb132 hg w12 hbox hb; have n0_ := Aside0.mk (below_step (by repeat (first | (with_reducible first | exact HB.out | apply below_alloc | apply pw_below_drewN | apply below_drew1) | exact HB.out)) hb); have n1_ := Aside0.mk (hbox); have n2_ := Aside0.mk ((by rw [hg]; exact (below_size (by repeat (first | (with_reducible first | exact HB.out | apply below_alloc | apply pw_below_drewN | apply below_drew1) | exact HB.out))) : w.heap.size ≤ gb132)); have n3_ := Aside0.mk ((by rw [hg]; exact (below_size (by repeat (first | (with_reducible first | exact HB.out | apply below_alloc | apply pw_below_drewN | apply below_drew1) | exact HB.out))) : w.heap.size ≤ gb132)); clear HB; have HB := n0_; have BK132 := n1_; have GW132 := n2_; have GE132 := n3_; clear n0_ n1_ n2_ n3_; clear hb hbox hg; have hcz13_0 : w12.cell? ⟨gb132, 0, none⟩ = some (.slice A0_0 l0_0.length c0_0) := (blk_cell BK132.out 0).trans rfl; have hcz13_1 : w12.cell? ⟨gb132, 1, none⟩ = some (.int .i64 a0_1) := (blk_cell BK132.out 1).trans rfl; have hcz13_2 : w12.cell? ⟨gb132, 2, none⟩ = some (.slice A0_2 l0_2.length c0_2) := (blk_cell BK132.out 2).trans rfl; have hfz13_0 := blk_frozen BK132.out 0; have hfz13_1 := blk_frozen BK132.out 1; have hfz13_2 := blk_frozen BK132.out 2) | ((with_reducible refine gate_callee (f := 75) rfl ?_); refine goesL_ (some 9) rfl rfl Try.func75 (by kernel_rfl) rfl #[.agg #[.slice A0_0 l0_0.length c0_0, .int .i64 a0_1, .slice A0_2 l0_2.length c0_2], .int .i64 a1] rfl (by (try simp only [List.map_toArray, List.map_cons, List.map_nil]); first | done | rfl | (simp only [List.length_drop, List.length_take]; rfl)) ?_; (with_reducible refine (best_flow_hyphen.calls _ _ l0_0 a0_1 _ _ l0_2 a1 false _ ?side1 ?side2 ?side3 ?side4 A4.out).mono ?_); (case side1 => repeat (first | exact (Kd.C_below HR0_0.out HB.out) | (with_reducible refine Kd.C_alloc ?_ _) | (with_reducible refine Kd.C_drewN ?_ _) | (with_reducible refine Kd.C_drew ?_))); (case side2 => exact HC0_0.out); (case side3 => repeat (first | exact (Kd.C_below HR0_2.out HB.out) | (with_reducible refine Kd.C_alloc ?_ _) | (with_reducible refine Kd.C_drewN ?_ _) | (with_reducible refine Kd.C_drew ?_))); (case side4 => exact HC0_2.out); rintro e w14 ⟨rfl, hb⟩; refine ⟨_, rfl, ?_⟩; have n0_ := Aside0.mk (blk_below (g := gb132) (o := .cells #[.slice A0_0 l0_0.length c0_0, .int .i64 a0_1, .slice A0_2 l0_2.length c0_2] 67 (0, 0)) (by (with_reducible repeat (first | refine blk_drewN ?_ _ | refine blk_drew ?_ | refine blk_alloc ?_ _)); exact BK132.out) hb); have n1_ := Aside0.mk (below_step (by repeat (first | (with_reducible first | exact HB.out | apply below_alloc | apply pw_below_drewN | apply below_drew1 | refine below_set ?_ GE132.out) | exact HB.out)) hb); clear BK132; clear HB; have BK132 := n0_; have HB := n1_; clear n0_ n1_; (try clear hb); (try clear hb2); (try clear hk); (try clear hi)))
  go_ret
  exact ⟨by first | rfl | (simp [errW_none, errW_some] <;> rfl) | (simp [*, errW_none, errW_some] <;> rfl), by repeat (first | (with_reducible first | exact HB.out | apply below_alloc | apply pw_below_drewN | apply below_drew1 | refine below_set ?_ GE132.out) | exact HB.out)⟩
def best_flow_demerits.f (k : Nat) (l0_0 : List (S43)) (a0_1 : Int) (l0_2 : List (S85)) (a1 : Int) (a2 : Int) : Option (Int) := (bfl.f k l0_0 a0_1 l0_2 a1 a2).bind fun bt136 => ((best_flow_hyphen.f l0_0 a0_1 l0_2 a2).bind fun t142 => (if t142 = true then (if bt136.2.2.2.2 = true then (some (wrap64 ((wrap64 ((wrap64 ((wrap64 (10 + (mn ((wrap64 ((wrap64 ((wrap64 (100 * bt136.2.2.2.1)) * bt136.2.2.2.1)) * bt136.2.2.2.1)) / 2097152) 10000))) * (wrap64 (10 + (mn ((wrap64 ((wrap64 ((wrap64 (100 * bt136.2.2.2.1)) * bt136.2.2.2.1)) * bt136.2.2.2.1)) / 2097152) 10000))))) + 2500)) + 1000000000000))) else (some (wrap64 ((wrap64 ((wrap64 (10 + (mn ((wrap64 ((wrap64 ((wrap64 (100 * bt136.2.2.2.1)) * bt136.2.2.2.1)) * bt136.2.2.2.1)) / 2097152) 10000))) * (wrap64 (10 + (mn ((wrap64 ((wrap64 ((wrap64 (100 * bt136.2.2.2.1)) * bt136.2.2.2.1)) * bt136.2.2.2.1)) / 2097152) 10000))))) + 2500)))) else (if bt136.2.2.2.2 = true then (some (wrap64 ((wrap64 ((wrap64 (10 + (mn ((wrap64 ((wrap64 ((wrap64 (100 * bt136.2.2.2.1)) * bt136.2.2.2.1)) * bt136.2.2.2.1)) / 2097152) 10000))) * (wrap64 (10 + (mn ((wrap64 ((wrap64 ((wrap64 (100 * bt136.2.2.2.1)) * bt136.2.2.2.1)) * bt136.2.2.2.1)) / 2097152) 10000))))) + 1000000000000))) else (some (wrap64 ((wrap64 (10 + (mn ((wrap64 ((wrap64 ((wrap64 (100 * bt136.2.2.2.1)) * bt136.2.2.2.1)) * bt136.2.2.2.1)) / 2097152) 10000))) * (wrap64 (10 + (mn ((wrap64 ((wrap64 ((wrap64 (100 * bt136.2.2.2.1)) * bt136.2.2.2.1)) * bt136.2.2.2.1)) / 2097152) 10000)))))))))
theorem best_flow_demerits.mono : ∀ a0 a1 a2 a3 a4 k, LeO (best_flow_demerits.f k a0 a1 a2 a3 a4) (best_flow_demerits.f (k + 1) a0 a1 a2 a3 a4) := by
 intro a0 a1 a2 a3 a4 k
 unfold best_flow_demerits.f
 repeat' first
   | (with_reducible exact bfl.mono _ _ _ _ _ _)
   | (with_reducible exact LeO.refl _)
   | (with_reducible exact LeO.none _)
   | (with_reducible refine LeO.ite ?_ ?_)
   | (with_reducible refine LeO.bind ?_ (fun _ => ?_))
   | exact bfl.mono _ _ _ _ _ _
   | exact LeO.none _
   | refine LeO.ite ?_ ?_
   | refine LeO.bind ?_ (fun _ => ?_)
set_option maxHeartbeats 8000000 in
set_option maxRecDepth 100000 in
theorem best_flow_demerits.calls (k : Nat) (A0_0 : Option Addr) (c0_0 : Nat) (l0_0 : List (S43)) (a0_1 : Int) (A0_2 : Option Addr) (c0_2 : Nat) (l0_2 : List (S85)) (a1 : Int) (a2 : Int) (r : Int) (w : World) (hr0_0 : Kd.C k43 w A0_0 l0_0.length l0_0) (hc0_0 : l0_0.length ≤ c0_0) (hr0_2 : Kd.C k85 w A0_2 l0_2.length l0_2) (hc0_2 : l0_2.length ≤ c0_2) (h : best_flow_demerits.f k l0_0 a0_1 l0_2 a1 a2 = some r) :
  Calls Try.prog 46 #[.agg #[.slice A0_0 l0_0.length c0_0, .int .i64 a0_1, .slice A0_2 l0_2.length c0_2], .int .i64 a1, .int .i64 a2] w fun e w' => e = .returned (.int .i64 r) ∧ Below w.heap.size w w' := by
 have hu67 := Try.underlying67
 have hu87 := Try.underlying87
 have HR0_0 := Aside0.mk hr0_0
 have HC0_0 := Aside0.mk hc0_0
 clear hr0_0 hc0_0
 have HR0_2 := Aside0.mk hr0_2
 have HC0_2 := Aside0.mk hc0_2
 clear hr0_2 hc0_2
 have HB := Aside0.mk (Below.refl w.heap.size w)
 have H : ((bfl.f k l0_0 a0_1 l0_2 a1 a2).bind fun bt136 => ((best_flow_hyphen.f l0_0 a0_1 l0_2 a2).bind fun t142 => (if t142 = true then (if bt136.2.2.2.2 = true then (some (wrap64 ((wrap64 ((wrap64 ((wrap64 (10 + (mn ((wrap64 ((wrap64 ((wrap64 (100 * bt136.2.2.2.1)) * bt136.2.2.2.1)) * bt136.2.2.2.1)) / 2097152) 10000))) * (wrap64 (10 + (mn ((wrap64 ((wrap64 ((wrap64 (100 * bt136.2.2.2.1)) * bt136.2.2.2.1)) * bt136.2.2.2.1)) / 2097152) 10000))))) + 2500)) + 1000000000000))) else (some (wrap64 ((wrap64 ((wrap64 (10 + (mn ((wrap64 ((wrap64 ((wrap64 (100 * bt136.2.2.2.1)) * bt136.2.2.2.1)) * bt136.2.2.2.1)) / 2097152) 10000))) * (wrap64 (10 + (mn ((wrap64 ((wrap64 ((wrap64 (100 * bt136.2.2.2.1)) * bt136.2.2.2.1)) * bt136.2.2.2.1)) / 2097152) 10000))))) + 2500)))) else (if bt136.2.2.2.2 = true then (some (wrap64 ((wrap64 ((wrap64 (10 + (mn ((wrap64 ((wrap64 ((wrap64 (100 * bt136.2.2.2.1)) * bt136.2.2.2.1)) * bt136.2.2.2.1)) / 2097152) 10000))) * (wrap64 (10 + (mn ((wrap64 ((wrap64 ((wrap64 (100 * bt136.2.2.2.1)) * bt136.2.2.2.1)) * bt136.2.2.2.1)) / 2097152) 10000))))) + 1000000000000))) else (some (wrap64 ((wrap64 (10 + (mn ((wrap64 ((wrap64 ((wrap64 (100 * bt136.2.2.2.1)) * bt136.2.2.2.1)) * bt136.2.2.2.1)) / 2097152) 10000))) * (wrap64 (10 + (mn ((wrap64 ((wrap64 ((wrap64 (100 * bt136.2.2.2.1)) * bt136.2.2.2.1)) * bt136.2.2.2.1)) / 2097152) 10000)))))))))) = some r := h
 clear h
 replace H := Option.bind_eq_some_iff.mp H
 obtain ⟨⟨t136, t137, t138, t139, t140⟩, A40, H⟩ := H
 replace H : ((best_flow_hyphen.f l0_0 a0_1 l0_2 a2).bind fun t142 => (if t142 = true then (if t140 = true then (some (wrap64 ((wrap64 ((wrap64 ((wrap64 (10 + (mn ((wrap64 ((wrap64 ((wrap64 (100 * t139)) * t139)) * t139)) / 2097152) 10000))) * (wrap64 (10 + (mn ((wrap64 ((wrap64 ((wrap64 (100 * t139)) * t139)) * t139)) / 2097152) 10000))))) + 2500)) + 1000000000000))) else (some (wrap64 ((wrap64 ((wrap64 (10 + (mn ((wrap64 ((wrap64 ((wrap64 (100 * t139)) * t139)) * t139)) / 2097152) 10000))) * (wrap64 (10 + (mn ((wrap64 ((wrap64 ((wrap64 (100 * t139)) * t139)) * t139)) / 2097152) 10000))))) + 2500)))) else (if t140 = true then (some (wrap64 ((wrap64 ((wrap64 (10 + (mn ((wrap64 ((wrap64 ((wrap64 (100 * t139)) * t139)) * t139)) / 2097152) 10000))) * (wrap64 (10 + (mn ((wrap64 ((wrap64 ((wrap64 (100 * t139)) * t139)) * t139)) / 2097152) 10000))))) + 1000000000000))) else (some (wrap64 ((wrap64 (10 + (mn ((wrap64 ((wrap64 ((wrap64 (100 * t139)) * t139)) * t139)) / 2097152) 10000))) * (wrap64 (10 + (mn ((wrap64 ((wrap64 ((wrap64 (100 * t139)) * t139)) * t139)) / 2097152) 10000))))))))) = some r := H
 have A4 := Aside0.mk A40
 clear A40
 obtain ⟨ji5, hji5⟩ : ∃ j_ : Int, (mn ((wrap64 ((wrap64 ((wrap64 (100 * t139)) * t139)) * t139)) / 2097152) 10000) = j_ := ⟨_, rfl⟩
 replace H : ((best_flow_hyphen.f l0_0 a0_1 l0_2 a2).bind fun t142 => (if t142 = true then (if t140 = true then (some (wrap64 ((wrap64 ((wrap64 ((wrap64 (10 + (ji5))) * (wrap64 (10 + (ji5))))) + 2500)) + 1000000000000))) else (some (wrap64 ((wrap64 ((wrap64 (10 + (ji5))) * (wrap64 (10 + (ji5))))) + 2500)))) else (if t140 = true then (some (wrap64 ((wrap64 ((wrap64 (10 + (ji5))) * (wrap64 (10 + (ji5))))) + 1000000000000))) else (some (wrap64 ((wrap64 (10 + (ji5))) * (wrap64 (10 + (ji5))))))))) = some r := by first | (rw [hji5] at H; exact H) | (simp only [hji5] at H ⊢; exact H)
 (try rw [hji5] at A4)
 (try (have hji5h : ji5 ≤ 10000 := by (rw [← hji5]; unfold mn; (repeat' split) <;> omega)))
 (try (have hji5g : ji5 ≤ 64 := by omega))
 have hji5_ : (if 10000 < ((wrap64 ((wrap64 ((wrap64 (100 * t139)) * t139)) * t139)) / 2097152) then 10000 else ((wrap64 ((wrap64 ((wrap64 (100 * t139)) * t139)) * t139)) / 2097152)) = ji5 := hji5
 replace H := Option.bind_eq_some_iff.mp H
 obtain ⟨t142, A60, H⟩ := H
 replace H : (if t142 = true then (if t140 = true then (some (wrap64 ((wrap64 ((wrap64 ((wrap64 (10 + (ji5))) * (wrap64 (10 + (ji5))))) + 2500)) + 1000000000000))) else (some (wrap64 ((wrap64 ((wrap64 (10 + (ji5))) * (wrap64 (10 + (ji5))))) + 2500)))) else (if t140 = true then (some (wrap64 ((wrap64 ((wrap64 (10 + (ji5))) * (wrap64 (10 + (ji5))))) + 1000000000000))) else (some (wrap64 ((wrap64 (10 + (ji5))) * (wrap64 (10 + (ji5)))))))) = some r := H
 have A6 := Aside0.mk A60
 clear A60
 by_cases c7 : t142 = true
 ·subst c7
  have H1 : (if t140 = true then (some (wrap64 ((wrap64 ((wrap64 ((wrap64 (10 + (ji5))) * (wrap64 (10 + (ji5))))) + 2500)) + 1000000000000))) else (some (wrap64 ((wrap64 ((wrap64 (10 + (ji5))) * (wrap64 (10 + (ji5))))) + 2500)))) = some r := by rw [if_pos rfl] at H; exact H
  clear H
  have H := H1
  clear H1
  by_cases c8 : t140 = true
  ·subst c8
   have H1 : (some (wrap64 ((wrap64 ((wrap64 ((wrap64 (10 + (ji5))) * (wrap64 (10 + (ji5))))) + 2500)) + 1000000000000))) = some r := by rw [if_pos rfl] at H; exact H
   clear H
   have H := H1
   clear H1
   obtain rfl := Option.some.inj H
   go_enter Try.func46, Try.ntmps46
   go_wp2_with (first | ((with_reducible refine gate_dst (N := 3) rfl ?_); refine box_event ?hg (N := 3) ?hd (cs := #[.slice A0_0 l0_0.length c0_0, .int .i64 a0_1, .slice A0_2 l0_2.length c0_2]) (t := 67) ?hr ?_; (case hd => rfl); (case hg => rfl); (case hr => first | (go_simp; done) | (go_simp; rfl)); intro gb135 hg w9 hbox hb; have n0_ := Aside0.mk (below_step (by repeat (first | (with_reducible first | exact HB.out | apply below_alloc | apply pw_below_drewN | apply below_drew1) | exact HB.out)) hb); have n1_ := Aside0.mk (hbox); have n2_ := Aside0.mk ((by rw [hg]; exact (below_size (by repeat (first | (with_reducible first | exact HB.out | apply below_alloc | apply pw_below_drewN | apply below_drew1) | exact HB.out))) : w.heap.size ≤ gb135)); have n3_ := Aside0.mk ((by rw [hg]; exact (below_size (by repeat (first | (with_reducible first | exact HB.out | apply below_alloc | apply pw_below_drewN | apply below_drew1) | exact HB.out))) : w.heap.size ≤ gb135)); clear HB; have HB := n0_; have BK135 := n1_; have GW135 := n2_; have GE135 := n3_; clear n0_ n1_ n2_ n3_; clear hb hbox hg; have hcz10_0 : w9.cell? ⟨gb135, 0, none⟩ = some (.slice A0_0 l0_0.length c0_0) := (blk_cell BK135.out 0).trans rfl; have hcz10_1 : w9.cell? ⟨gb135, 1, none⟩ = some (.int .i64 a0_1) := (blk_cell BK135.out 1).trans rfl; have hcz10_2 : w9.cell? ⟨gb135, 2, none⟩ = some (.slice A0_2 l0_2.length c0_2) := (blk_cell BK135.out 2).trans rfl; have hfz10_0 := blk_frozen BK135.out 0; have hfz10_1 := blk_frozen BK135.out 1; have hfz10_2 := blk_frozen BK135.out 2) | ((with_reducible refine gate_callee (f := 54) rfl ?_); refine goesL_ (some 13) rfl rfl Try.func54 (by kernel_rfl) rfl #[.agg #[.slice A0_0 l0_0.length c0_0, .int .i64 a0_1, .slice A0_2 l0_2.length c0_2], .int .i64 a1, .int .i64 a2] rfl (by (try simp only [List.map_toArray, List.map_cons, List.map_nil]); first | done | rfl | (simp only [List.length_drop, List.length_take]; rfl)) ?_; (with_reducible refine (bfl.calls k _ _ l0_0 a0_1 _ _ l0_2 a1 a2 t136 t137 t138 t139 true _ ?side1 ?side2 ?side3 ?side4 A4.out).mono ?_); (case side1 => repeat (first | exact (Kd.C_below HR0_0.out HB.out) | (with_reducible refine Kd.C_alloc ?_ _) | (with_reducible refine Kd.C_drewN ?_ _) | (with_reducible refine Kd.C_drew ?_))); (case side2 => exact HC0_0.out); (case side3 => repeat (first | exact (Kd.C_below HR0_2.out HB.out) | (with_reducible refine Kd.C_alloc ?_ _) | (with_reducible refine Kd.C_drewN ?_ _) | (with_reducible refine Kd.C_drew ?_))); (case side4 => exact HC0_2.out); rintro e w11 ⟨rfl, hb⟩; refine ⟨_, rfl, ?_⟩; have n0_ := Aside0.mk (blk_below (g := gb135) (o := .cells #[.slice A0_0 l0_0.length c0_0, .int .i64 a0_1, .slice A0_2 l0_2.length c0_2] 67 (0, 0)) (by (with_reducible repeat (first | refine blk_drewN ?_ _ | refine blk_drew ?_ | refine blk_alloc ?_ _)); exact BK135.out) hb); have n1_ := Aside0.mk (below_step (by repeat (first | (with_reducible first | exact HB.out | apply below_alloc | apply pw_below_drewN | apply below_drew1 | refine below_set ?_ GE135.out) | exact HB.out)) hb); clear BK135; clear HB; have BK135 := n0_; have HB := n1_; clear n0_ n1_; (try clear hb); (try clear hb2); (try clear hk); (try clear hi)) | ((with_reducible refine gate_dst (N := 7) rfl ?_); refine box_event ?hg (N := 7) ?hd (cs := #[.int .i64 0, .int .i64 0, .int .i64 0, .int .i64 0, .bool false]) (t := 87) ?hr ?_; (case hd => rfl); (case hg => rfl); (case hr => first | (go_simp; done) | (go_simp; rfl)); intro gb141 hg w12 hbox hb; have n0_ := Aside0.mk (blk_below (g := gb135) (o := .cells #[.slice A0_0 l0_0.length c0_0, .int .i64 a0_1, .slice A0_2 l0_2.length c0_2] 67 (0, 0)) (by (with_reducible repeat (first | refine blk_drewN ?_ _ | refine blk_drew ?_ | refine blk_alloc ?_ _)); exact BK135.out) hb); have n1_ := Aside0.mk (below_step (by repeat (first | (with_reducible first | exact HB.out | apply below_alloc | apply pw_below_drewN | apply below_drew1 | refine below_set ?_ GE135.out) | exact HB.out)) hb); have n2_ := Aside0.mk (hbox); have n3_ := Aside0.mk ((by rw [hg]; exact (below_size (by repeat (first | (with_reducible first | exact HB.out | apply below_alloc | apply pw_below_drewN | apply below_drew1 | refine below_set ?_ GE135.out) | exact HB.out))) : w.heap.size ≤ gb141)); have n4_ := Aside0.mk ((by rw [hg]; exact (below_size (by repeat (first | (with_reducible first | exact HB.out | apply below_alloc | apply pw_below_drewN | apply below_drew1 | refine below_set ?_ GE135.out) | exact HB.out))) : w.heap.size ≤ gb141)); have n5_ := Aside0.mk ((by rw [hg]; exact Nat.ne_of_lt (blk_lt (g := gb135) (o := .cells #[.slice A0_0 l0_0.length c0_0, .int .i64 a0_1, .slice A0_2 l0_2.length c0_2] 67 (0, 0)) (by (with_reducible repeat (first | refine blk_drewN ?_ _ | refine blk_drew ?_ | refine blk_alloc ?_ _)); exact BK135.out)) : gb135 ≠ gb141)); have n6_ := Aside0.mk ((by rw [hg]; exact Nat.ne_of_gt (blk_lt (g := gb135) (o := .cells #[.slice A0_0 l0_0.length c0_0, .int .i64 a0_1, .slice A0_2 l0_2.length c0_2] 67 (0, 0)) (by (with_reducible repeat (first | refine blk_drewN ?_ _ | refine blk_drew ?_ | refine blk_alloc ?_ _)); exact BK135.out)) : gb141 ≠ gb135)); clear BK135; clear HB; have BK135 := n0_; have HB := n1_; have BK141 := n2_; have GW141 := n3_; have GE141 := n4_; have NB135_141 := n5_; have NB141_135 := n6_; clear n0_ n1_ n2_ n3_ n4_ n5_ n6_; clear hb hbox hg; have hnb13 := NB141_135.out; have hnc13 := NB135_141.out; have hcz14_0 : w12.cell? ⟨gb141, 0, none⟩ = some (.int .i64 0) := (blk_cell BK141.out 0).trans rfl; have hcz14_1 : w12.cell? ⟨gb141, 1, none⟩ = some (.int .i64 0) := (blk_cell BK141.out 1).trans rfl; have hcz14_2 : w12.cell? ⟨gb141, 2, none⟩ = some (.int .i64 0) := (blk_cell BK141.out 2).trans rfl; have hcz14_3 : w12.cell? ⟨gb141, 3, none⟩ = some (.int .i64 0) := (blk_cell BK141.out 3).trans rfl; have hcz14_4 : w12.cell? ⟨gb141, 4, none⟩ = some (.bool false) := (blk_cell BK141.out 4).trans rfl; have hfz14_0 := blk_frozen BK141.out 0; have hfz14_1 := blk_frozen BK141.out 1; have hfz14_2 := blk_frozen BK141.out 2; have hfz14_3 := blk_frozen BK141.out 3; have hfz14_4 := blk_frozen BK141.out 4; have hcz15_0 : w12.cell? ⟨gb135, 0, none⟩ = some (.slice A0_0 l0_0.length c0_0) := (blk_cell BK135.out 0).trans rfl; have hcz15_1 : w12.cell? ⟨gb135, 1, none⟩ = some (.int .i64 a0_1) := (blk_cell BK135.out 1).trans rfl; have hcz15_2 : w12.cell? ⟨gb135, 2, none⟩ = some (.slice A0_2 l0_2.length c0_2) := (blk_cell BK135.out 2).trans rfl; have hfz15_0 := blk_frozen BK135.out 0; have hfz15_1 := blk_frozen BK135.out 1; have hfz15_2 := blk_frozen BK135.out 2) | ((with_reducible refine gate_callee (f := 75) rfl ?_); refine goesL_ (some 31) rfl rfl Try.func75 (by kernel_rfl) rfl #[.agg #[.slice A0_0 l0_0.length c0_0, .int .i64 a0_1, .slice A0_2 l0_2.length c0_2], .int .i64 a2] rfl (by (try simp only [List.map_toArray, List.map_cons, List.map_nil]); first | done | rfl | (simp only [List.length_drop, List.length_take]; rfl)) ?_; (with_reducible refine (best_flow_hyphen.calls _ _ l0_0 a0_1 _ _ l0_2 a2 true _ ?side1 ?side2 ?side3 ?side4 A6.out).mono ?_); (case side1 => exact Kd.C_below HR0_0.out (by repeat (first | (with_reducible first | exact HB.out | apply below_alloc | apply pw_below_drewN | apply below_drew1 | refine below_set ?_ GE135.out | refine below_set ?_ GE141.out) | exact HB.out))); (case side2 => exact HC0_0.out); (case side3 => exact Kd.C_below HR0_2.out (by repeat (first | (with_reducible first | exact HB.out | apply below_alloc | apply pw_below_drewN | apply below_drew1 | refine below_set ?_ GE135.out | refine below_set ?_ GE141.out) | exact HB.out))); (case side4 => exact HC0_2.out); rintro e w16 ⟨rfl, hb⟩; refine ⟨_, rfl, ?_⟩; have n0_ := Aside0.mk (blk_below (g := gb135) (o := .cells #[.slice A0_0 l0_0.length c0_0, .int .i64 a0_1, .slice A0_2 l0_2.length c0_2] 67 (0, 0)) (by (with_reducible repeat (first | refine blk_drewN ?_ _ | refine blk_drew ?_ | refine blk_alloc ?_ _)); refine blk_far ?_ NB135_141.out _; (with_reducible repeat (first | refine blk_drewN ?_ _ | refine blk_drew ?_ | refine blk_alloc ?_ _)); refine blk_far ?_ NB135_141.out _; (with_reducible repeat (first | refine blk_drewN ?_ _ | refine blk_drew ?_ | refine blk_alloc ?_ _)); refine blk_far ?_ NB135_141.out _; (with_reducible repeat (first | refine blk_drewN ?_ _ | refine blk_drew ?_ | refine blk_alloc ?_ _)); refine blk_far ?_ NB135_141.out _; (with_reducible repeat (first | refine blk_drewN ?_ _ | refine blk_drew ?_ | refine blk_alloc ?_ _)); refine blk_far ?_ NB135_141.out _; (with_reducible repeat (first | refine blk_drewN ?_ _ | refine blk_drew ?_ | refine blk_alloc ?_ _)); exact BK135.out) hb); have n1_ := Aside0.mk (blk_below (g := gb141) (o := .cells #[.int .i64 t136, .int .i64 t137, .int .i64 t138, .int .i64 t139, .bool true] 87 (0, 0)) (by (with_reducible repeat (first | refine blk_drewN ?_ _ | refine blk_drew ?_ | refine blk_alloc ?_ _)); refine blk_put (cs := #[.int .i64 t136, .int .i64 t137, .int .i64 t138, .int .i64 t139, .bool false]) ?_ 4 _ rfl; (with_reducible repeat (first | refine blk_drewN ?_ _ | refine blk_drew ?_ | refine blk_alloc ?_ _)); refine blk_put (cs := #[.int .i64 t136, .int .i64 t137, .int .i64 t138, .int .i64 0, .bool false]) ?_ 3 _ rfl; (with_reducible repeat (first | refine blk_drewN ?_ _ | refine blk_drew ?_ | refine blk_alloc ?_ _)); refine blk_put (cs := #[.int .i64 t136, .int .i64 t137, .int .i64 0, .int .i64 0, .bool false]) ?_ 2 _ rfl; (with_reducible repeat (first | refine blk_drewN ?_ _ | refine blk_drew ?_ | refine blk_alloc ?_ _)); refine blk_put (cs := #[.int .i64 t136, .int .i64 0, .int .i64 0, .int .i64 0, .bool false]) ?_ 1 _ rfl; (with_reducible repeat (first | refine blk_drewN ?_ _ | refine blk_drew ?_ | refine blk_alloc ?_ _)); refine blk_put (cs := #[.int .i64 0, .int .i64 0, .int .i64 0, .int .i64 0, .bool false]) ?_ 0 _ rfl; (with_reducible repeat (first | refine blk_drewN ?_ _ | refine blk_drew ?_ | refine blk_alloc ?_ _)); exact BK141.out) hb); have n2_ := Aside0.mk (below_step (by repeat (first | (with_reducible first | exact HB.out | apply below_alloc | apply pw_below_drewN | apply below_drew1 | refine below_set ?_ GE135.out | refine below_set ?_ GE141.out) | exact HB.out)) hb); clear BK135; clear BK141; clear HB; have BK135 := n0_; have BK141 := n1_; have HB := n2_; clear n0_ n1_ n2_; (try clear hb); (try clear hb2); (try clear hk); (try clear hi); have hcz17_0 : w16.cell? ⟨gb141, 0, none⟩ = some (.int .i64 t136) := (blk_cell BK141.out 0).trans rfl; have hcz17_1 : w16.cell? ⟨gb141, 1, none⟩ = some (.int .i64 t137) := (blk_cell BK141.out 1).trans rfl; have hcz17_2 : w16.cell? ⟨gb141, 2, none⟩ = some (.int .i64 t138) := (blk_cell BK141.out 2).trans rfl; have hcz17_3 : w16.cell? ⟨gb141, 3, none⟩ = some (.int .i64 t139) := (blk_cell BK141.out 3).trans rfl; have hcz17_4 : w16.cell? ⟨gb141, 4, none⟩ = some (.bool true) := (blk_cell BK141.out 4).trans rfl; have hfz17_0 := blk_frozen BK141.out 0; have hfz17_1 := blk_frozen BK141.out 1; have hfz17_2 := blk_frozen BK141.out 2; have hfz17_3 := blk_frozen BK141.out 3; have hfz17_4 := blk_frozen BK141.out 4))
   go_ret
   exact ⟨by first | rfl | (simp [errW_none, errW_some] <;> rfl) | (simp only [← hji5]; first | rfl | (simp [errW_none, errW_some] <;> rfl)) | (simp [*, errW_none, errW_some] <;> rfl), by repeat (first | (with_reducible first | exact HB.out | apply below_alloc | apply pw_below_drewN | apply below_drew1 | refine below_set ?_ GE135.out | refine below_set ?_ GE141.out) | exact HB.out)⟩
  ·replace c8 := Bool.eq_false_iff.mpr c8
   subst c8
   have H1 : (some (wrap64 ((wrap64 ((wrap64 (10 + (ji5))) * (wrap64 (10 + (ji5))))) + 2500))) = some r := by rw [if_neg (show ¬ (false = true) by decide)] at H; exact H
   clear H
   have H := H1
   clear H1
   obtain rfl := Option.some.inj H
   go_enter Try.func46, Try.ntmps46
   go_wp2_with (first | ((with_reducible refine gate_dst (N := 3) rfl ?_); refine box_event ?hg (N := 3) ?hd (cs := #[.slice A0_0 l0_0.length c0_0, .int .i64 a0_1, .slice A0_2 l0_2.length c0_2]) (t := 67) ?hr ?_; (case hd => rfl); (case hg => rfl); (case hr => first | (go_simp; done) | (go_simp; rfl)); intro gb135 hg w18 hbox hb; have n0_ := Aside0.mk (below_step (by repeat (first | (with_reducible first | exact HB.out | apply below_alloc | apply pw_below_drewN | apply below_drew1) | exact HB.out)) hb); have n1_ := Aside0.mk (hbox); have n2_ := Aside0.mk ((by rw [hg]; exact (below_size (by repeat (first | (with_reducible first | exact HB.out | apply below_alloc | apply pw_below_drewN | apply below_drew1) | exact HB.out))) : w.heap.size ≤ gb135)); have n3_ := Aside0.mk ((by rw [hg]; exact (below_size (by repeat (first | (with_reducible first | exact HB.out | apply below_alloc | apply pw_below_drewN | apply below_drew1) | exact HB.out))) : w.heap.size ≤ gb135)); clear HB; have HB := n0_; have BK135 := n1_; have GW135 := n2_; have GE135 := n3_; clear n0_ n1_ n2_ n3_; clear hb hbox hg; have hcz19_0 : w18.cell? ⟨gb135, 0, none⟩ = some (.slice A0_0 l0_0.length c0_0) := (blk_cell BK135.out 0).trans rfl; have hcz19_1 : w18.cell? ⟨gb135, 1, none⟩ = some (.int .i64 a0_1) := (blk_cell BK135.out 1).trans rfl; have hcz19_2 : w18.cell? ⟨gb135, 2, none⟩ = some (.slice A0_2 l0_2.length c0_2) := (blk_cell BK135.out 2).trans rfl; have hfz19_0 := blk_frozen BK135.out 0; have hfz19_1 := blk_frozen BK135.out 1; have hfz19_2 := blk_frozen BK135.out 2) | ((with_reducible refine gate_callee (f := 54) rfl ?_); refine goesL_ (some 13) rfl rfl Try.func54 (by kernel_rfl) rfl #[.agg #[.slice A0_0 l0_0.length c0_0, .int .i64 a0_1, .slice A0_2 l0_2.length c0_2], .int .i64 a1, .int .i64 a2] rfl (by (try simp only [List.map_toArray, List.map_cons, List.map_nil]); first | done | rfl | (simp only [List.length_drop, List.length_take]; rfl)) ?_; (with_reducible refine (bfl.calls k _ _ l0_0 a0_1 _ _ l0_2 a1 a2 t136 t137 t138 t139 false _ ?side1 ?side2 ?side3 ?side4 A4.out).mono ?_); (case side1 => repeat (first | exact (Kd.C_below HR0_0.out HB.out) | (with_reducible refine Kd.C_alloc ?_ _) | (with_reducible refine Kd.C_drewN ?_ _) | (with_reducible refine Kd.C_drew ?_))); (case side2 => exact HC0_0.out); (case side3 => repeat (first | exact (Kd.C_below HR0_2.out HB.out) | (with_reducible refine Kd.C_alloc ?_ _) | (with_reducible refine Kd.C_drewN ?_ _) | (with_reducible refine Kd.C_drew ?_))); (case side4 => exact HC0_2.out); rintro e w20 ⟨rfl, hb⟩; refine ⟨_, rfl, ?_⟩; have n0_ := Aside0.mk (blk_below (g := gb135) (o := .cells #[.slice A0_0 l0_0.length c0_0, .int .i64 a0_1, .slice A0_2 l0_2.length c0_2] 67 (0, 0)) (by (with_reducible repeat (first | refine blk_drewN ?_ _ | refine blk_drew ?_ | refine blk_alloc ?_ _)); exact BK135.out) hb); have n1_ := Aside0.mk (below_step (by repeat (first | (with_reducible first | exact HB.out | apply below_alloc | apply pw_below_drewN | apply below_drew1 | refine below_set ?_ GE135.out) | exact HB.out)) hb); clear BK135; clear HB; have BK135 := n0_; have HB := n1_; clear n0_ n1_; (try clear hb); (try clear hb2); (try clear hk); (try clear hi)) | ((with_reducible refine gate_dst (N := 7) rfl ?_); refine box_event ?hg (N := 7) ?hd (cs := #[.int .i64 0, .int .i64 0, .int .i64 0, .int .i64 0, .bool false]) (t := 87) ?hr ?_; (case hd => rfl); (case hg => rfl); (case hr => first | (go_simp; done) | (go_simp; rfl)); intro gb141 hg w21 hbox hb; have n0_ := Aside0.mk (blk_below (g := gb135) (o := .cells #[.slice A0_0 l0_0.length c0_0, .int .i64 a0_1, .slice A0_2 l0_2.length c0_2] 67 (0, 0)) (by (with_reducible repeat (first | refine blk_drewN ?_ _ | refine blk_drew ?_ | refine blk_alloc ?_ _)); exact BK135.out) hb); have n1_ := Aside0.mk (below_step (by repeat (first | (with_reducible first | exact HB.out | apply below_alloc | apply pw_below_drewN | apply below_drew1 | refine below_set ?_ GE135.out) | exact HB.out)) hb); have n2_ := Aside0.mk (hbox); have n3_ := Aside0.mk ((by rw [hg]; exact (below_size (by repeat (first | (with_reducible first | exact HB.out | apply below_alloc | apply pw_below_drewN | apply below_drew1 | refine below_set ?_ GE135.out) | exact HB.out))) : w.heap.size ≤ gb141)); have n4_ := Aside0.mk ((by rw [hg]; exact (below_size (by repeat (first | (with_reducible first | exact HB.out | apply below_alloc | apply pw_below_drewN | apply below_drew1 | refine below_set ?_ GE135.out) | exact HB.out))) : w.heap.size ≤ gb141)); have n5_ := Aside0.mk ((by rw [hg]; exact Nat.ne_of_lt (blk_lt (g := gb135) (o := .cells #[.slice A0_0 l0_0.length c0_0, .int .i64 a0_1, .slice A0_2 l0_2.length c0_2] 67 (0, 0)) (by (with_reducible repeat (first | refine blk_drewN ?_ _ | refine blk_drew ?_ | refine blk_alloc ?_ _)); exact BK135.out)) : gb135 ≠ gb141)); have n6_ := Aside0.mk ((by rw [hg]; exact Nat.ne_of_gt (blk_lt (g := gb135) (o := .cells #[.slice A0_0 l0_0.length c0_0, .int .i64 a0_1, .slice A0_2 l0_2.length c0_2] 67 (0, 0)) (by (with_reducible repeat (first | refine blk_drewN ?_ _ | refine blk_drew ?_ | refine blk_alloc ?_ _)); exact BK135.out)) : gb141 ≠ gb135)); clear BK135; clear HB; have BK135 := n0_; have HB := n1_; have BK141 := n2_; have GW141 := n3_; have GE141 := n4_; have NB135_141 := n5_; have NB141_135 := n6_; clear n0_ n1_ n2_ n3_ n4_ n5_ n6_; clear hb hbox hg; have hnb22 := NB141_135.out; have hnc22 := NB135_141.out; have hcz23_0 : w21.cell? ⟨gb141, 0, none⟩ = some (.int .i64 0) := (blk_cell BK141.out 0).trans rfl; have hcz23_1 : w21.cell? ⟨gb141, 1, none⟩ = some (.int .i64 0) := (blk_cell BK141.out 1).trans rfl; have hcz23_2 : w21.cell? ⟨gb141, 2, none⟩ = some (.int .i64 0) := (blk_cell BK141.out 2).trans rfl; have hcz23_3 : w21.cell? ⟨gb141, 3, none⟩ = some (.int .i64 0) := (blk_cell BK141.out 3).trans rfl; have hcz23_4 : w21.cell? ⟨gb141, 4, none⟩ = some (.bool false) := (blk_cell BK141.out 4).trans rfl; have hfz23_0 := blk_frozen BK141.out 0; have hfz23_1 := blk_frozen BK141.out 1; have hfz23_2 := blk_frozen BK141.out 2; have hfz23_3 := blk_frozen BK141.out 3; have hfz23_4 := blk_frozen BK141.out 4; have hcz24_0 : w21.cell? ⟨gb135, 0, none⟩ = some (.slice A0_0 l0_0.length c0_0) := (blk_cell BK135.out 0).trans rfl; have hcz24_1 : w21.cell? ⟨gb135, 1, none⟩ = some (.int .i64 a0_1) := (blk_cell BK135.out 1).trans rfl; have hcz24_2 : w21.cell? ⟨gb135, 2, none⟩ = some (.slice A0_2 l0_2.length c0_2) := (blk_cell BK135.out 2).trans rfl; have hfz24_0 := blk_frozen BK135.out 0; have hfz24_1 := blk_frozen BK135.out 1; have hfz24_2 := blk_frozen BK135.out 2) | ((with_reducible refine gate_callee (f := 75) rfl ?_); refine goesL_ (some 31) rfl rfl Try.func75 (by kernel_rfl) rfl #[.agg #[.slice A0_0 l0_0.length c0_0, .int .i64 a0_1, .slice A0_2 l0_2.length c0_2], .int .i64 a2] rfl (by (try simp only [List.map_toArray, List.map_cons, List.map_nil]); first | done | rfl | (simp only [List.length_drop, List.length_take]; rfl)) ?_; (with_reducible refine (best_flow_hyphen.calls _ _ l0_0 a0_1 _ _ l0_2 a2 true _ ?side1 ?side2 ?side3 ?side4 A6.out).mono ?_); (case side1 => exact Kd.C_below HR0_0.out (by repeat (first | (with_reducible first | exact HB.out | apply below_alloc | apply pw_below_drewN | apply below_drew1 | refine below_set ?_ GE135.out | refine below_set ?_ GE141.out) | exact HB.out))); (case side2 => exact HC0_0.out); (case side3 => exact Kd.C_below HR0_2.out (by repeat (first | (with_reducible first | exact HB.out | apply below_alloc | apply pw_below_drewN | apply below_drew1 | refine below_set ?_ GE135.out | refine below_set ?_ GE141.out) | exact HB.out))); (case side4 => exact HC0_2.out); rintro e w25 ⟨rfl, hb⟩; refine ⟨_, rfl, ?_⟩; have n0_ := Aside0.mk (blk_below (g := gb135) (o := .cells #[.slice A0_0 l0_0.length c0_0, .int .i64 a0_1, .slice A0_2 l0_2.length c0_2] 67 (0, 0)) (by (with_reducible repeat (first | refine blk_drewN ?_ _ | refine blk_drew ?_ | refine blk_alloc ?_ _)); refine blk_far ?_ NB135_141.out _; (with_reducible repeat (first | refine blk_drewN ?_ _ | refine blk_drew ?_ | refine blk_alloc ?_ _)); refine blk_far ?_ NB135_141.out _; (with_reducible repeat (first | refine blk_drewN ?_ _ | refine blk_drew ?_ | refine blk_alloc ?_ _)); refine blk_far ?_ NB135_141.out _; (with_reducible repeat (first | refine blk_drewN ?_ _ | refine blk_drew ?_ | refine blk_alloc ?_ _)); refine blk_far ?_ NB135_141.out _; (with_reducible repeat (first | refine blk_drewN ?_ _ | refine blk_drew ?_ | refine blk_alloc ?_ _)); refine blk_far ?_ NB135_141.out _; (with_reducible repeat (first | refine blk_drewN ?_ _ | refine blk_drew ?_ | refine blk_alloc ?_ _)); exact BK135.out) hb); have n1_ := Aside0.mk (blk_below (g := gb141) (o := .cells #[.int .i64 t136, .int .i64 t137, .int .i64 t138, .int .i64 t139, .bool false] 87 (0, 0)) (by (with_reducible repeat (first | refine blk_drewN ?_ _ | refine blk_drew ?_ | refine blk_alloc ?_ _)); refine blk_put (cs := #[.int .i64 t136, .int .i64 t137, .int .i64 t138, .int .i64 t139, .bool false]) ?_ 4 _ rfl; (with_reducible repeat (first | refine blk_drewN ?_ _ | refine blk_drew ?_ | refine blk_alloc ?_ _)); refine blk_put (cs := #[.int .i64 t136, .int .i64 t137, .int .i64 t138, .int .i64 0, .bool false]) ?_ 3 _ rfl; (with_reducible repeat (first | refine blk_drewN ?_ _ | refine blk_drew ?_ | refine blk_alloc ?_ _)); refine blk_put (cs := #[.int .i64 t136, .int .i64 t137, .int .i64 0, .int .i64 0, .bool false]) ?_ 2 _ rfl; (with_reducible repeat (first | refine blk_drewN ?_ _ | refine blk_drew ?_ | refine blk_alloc ?_ _)); refine blk_put (cs := #[.int .i64 t136, .int .i64 0, .int .i64 0, .int .i64 0, .bool false]) ?_ 1 _ rfl; (with_reducible repeat (first | refine blk_drewN ?_ _ | refine blk_drew ?_ | refine blk_alloc ?_ _)); refine blk_put (cs := #[.int .i64 0, .int .i64 0, .int .i64 0, .int .i64 0, .bool false]) ?_ 0 _ rfl; (with_reducible repeat (first | refine blk_drewN ?_ _ | refine blk_drew ?_ | refine blk_alloc ?_ _)); exact BK141.out) hb); have n2_ := Aside0.mk (below_step (by repeat (first | (with_reducible first | exact HB.out | apply below_alloc | apply pw_below_drewN | apply below_drew1 | refine below_set ?_ GE135.out | refine below_set ?_ GE141.out) | exact HB.out)) hb); clear BK135; clear BK141; clear HB; have BK135 := n0_; have BK141 := n1_; have HB := n2_; clear n0_ n1_ n2_; (try clear hb); (try clear hb2); (try clear hk); (try clear hi); have hcz26_0 : w25.cell? ⟨gb141, 0, none⟩ = some (.int .i64 t136) := (blk_cell BK141.out 0).trans rfl; have hcz26_1 : w25.cell? ⟨gb141, 1, none⟩ = some (.int .i64 t137) := (blk_cell BK141.out 1).trans rfl; have hcz26_2 : w25.cell? ⟨gb141, 2, none⟩ = some (.int .i64 t138) := (blk_cell BK141.out 2).trans rfl; have hcz26_3 : w25.cell? ⟨gb141, 3, none⟩ = some (.int .i64 t139) := (blk_cell BK141.out 3).trans rfl; have hcz26_4 : w25.cell? ⟨gb141, 4, none⟩ = some (.bool false) := (blk_cell BK141.out 4).trans rfl; have hfz26_0 := blk_frozen BK141.out 0; have hfz26_1 := blk_frozen BK141.out 1; have hfz26_2 := blk_frozen BK141.out 2; have hfz26_3 := blk_frozen BK141.out 3; have hfz26_4 := blk_frozen BK141.out 4))
   go_ret
   exact ⟨by first | rfl | (simp [errW_none, errW_some] <;> rfl) | (simp only [← hji5]; first | rfl | (simp [errW_none, errW_some] <;> rfl)) | (simp [*, errW_none, errW_some] <;> rfl), by repeat (first | (with_reducible first | exact HB.out | apply below_alloc | apply pw_below_drewN | apply below_drew1 | refine below_set ?_ GE135.out | refine below_set ?_ GE141.out) | exact HB.out)⟩
 ·replace c7 := Bool.eq_false_iff.mpr c7
  subst c7
  have H1 : (if t140 = true then (some (wrap64 ((wrap64 ((wrap64 (10 + (ji5))) * (wrap64 (10 + (ji5))))) + 1000000000000))) else (some (wrap64 ((wrap64 (10 + (ji5))) * (wrap64 (10 + (ji5))))))) = some r := by rw [if_neg (show ¬ (false = true) by decide)] at H; exact H
  clear H
  have H := H1
  clear H1
  by_cases c27 : t140 = true
  ·subst c27
   have H1 : (some (wrap64 ((wrap64 ((wrap64 (10 + (ji5))) * (wrap64 (10 + (ji5))))) + 1000000000000))) = some r := by rw [if_pos rfl] at H; exact H
   clear H
   have H := H1
   clear H1
   obtain rfl := Option.some.inj H
   go_enter Try.func46, Try.ntmps46
   go_wp2_with (first | ((with_reducible refine gate_dst (N := 3) rfl ?_); refine box_event ?hg (N := 3) ?hd (cs := #[.slice A0_0 l0_0.length c0_0, .int .i64 a0_1, .slice A0_2 l0_2.length c0_2]) (t := 67) ?hr ?_; (case hd => rfl); (case hg => rfl); (case hr => first | (go_simp; done) | (go_simp; rfl)); intro gb135 hg w28 hbox hb; have n0_ := Aside0.mk (below_step (by repeat (first | (with_reducible first | exact HB.out | apply below_alloc | apply pw_below_drewN | apply below_drew1) | exact HB.out)) hb); have n1_ := Aside0.mk (hbox); have n2_ := Aside0.mk ((by rw [hg]; exact (below_size (by repeat (first | (with_reducible first | exact HB.out | apply below_alloc | apply pw_below_drewN | apply below_drew1) | exact HB.out))) : w.heap.size ≤ gb135)); have n3_ := Aside0.mk ((by rw [hg]; exact (below_size (by repeat (first | (with_reducible first | exact HB.out | apply below_alloc | apply pw_below_drewN | apply below_drew1) | exact HB.out))) : w.heap.size ≤ gb135)); clear HB; have HB := n0_; have BK135 := n1_; have GW135 := n2_; have GE135 := n3_; clear n0_ n1_ n2_ n3_; clear hb hbox hg; have hcz29_0 : w28.cell? ⟨gb135, 0, none⟩ = some (.slice A0_0 l0_0.length c0_0) := (blk_cell BK135.out 0).trans rfl; have hcz29_1 : w28.cell? ⟨gb135, 1, none⟩ = some (.int .i64 a0_1) := (blk_cell BK135.out 1).trans rfl; have hcz29_2 : w28.cell? ⟨gb135, 2, none⟩ = some (.slice A0_2 l0_2.length c0_2) := (blk_cell BK135.out 2).trans rfl; have hfz29_0 := blk_frozen BK135.out 0; have hfz29_1 := blk_frozen BK135.out 1; have hfz29_2 := blk_frozen BK135.out 2) | ((with_reducible refine gate_callee (f := 54) rfl ?_); refine goesL_ (some 13) rfl rfl Try.func54 (by kernel_rfl) rfl #[.agg #[.slice A0_0 l0_0.length c0_0, .int .i64 a0_1, .slice A0_2 l0_2.length c0_2], .int .i64 a1, .int .i64 a2] rfl (by (try simp only [List.map_toArray, List.map_cons, List.map_nil]); first | done | rfl | (simp only [List.length_drop, List.length_take]; rfl)) ?_; (with_reducible refine (bfl.calls k _ _ l0_0 a0_1 _ _ l0_2 a1 a2 t136 t137 t138 t139 true _ ?side1 ?side2 ?side3 ?side4 A4.out).mono ?_); (case side1 => repeat (first | exact (Kd.C_below HR0_0.out HB.out) | (with_reducible refine Kd.C_alloc ?_ _) | (with_reducible refine Kd.C_drewN ?_ _) | (with_reducible refine Kd.C_drew ?_))); (case side2 => exact HC0_0.out); (case side3 => repeat (first | exact (Kd.C_below HR0_2.out HB.out) | (with_reducible refine Kd.C_alloc ?_ _) | (with_reducible refine Kd.C_drewN ?_ _) | (with_reducible refine Kd.C_drew ?_))); (case side4 => exact HC0_2.out); rintro e w30 ⟨rfl, hb⟩; refine ⟨_, rfl, ?_⟩; have n0_ := Aside0.mk (blk_below (g := gb135) (o := .cells #[.slice A0_0 l0_0.length c0_0, .int .i64 a0_1, .slice A0_2 l0_2.length c0_2] 67 (0, 0)) (by (with_reducible repeat (first | refine blk_drewN ?_ _ | refine blk_drew ?_ | refine blk_alloc ?_ _)); exact BK135.out) hb); have n1_ := Aside0.mk (below_step (by repeat (first | (with_reducible first | exact HB.out | apply below_alloc | apply pw_below_drewN | apply below_drew1 | refine below_set ?_ GE135.out) | exact HB.out)) hb); clear BK135; clear HB; have BK135 := n0_; have HB := n1_; clear n0_ n1_; (try clear hb); (try clear hb2); (try clear hk); (try clear hi)) | ((with_reducible refine gate_dst (N := 7) rfl ?_); refine box_event ?hg (N := 7) ?hd (cs := #[.int .i64 0, .int .i64 0, .int .i64 0, .int .i64 0, .bool false]) (t := 87) ?hr ?_; (case hd => rfl); (case hg => rfl); (case hr => first | (go_simp; done) | (go_simp; rfl)); intro gb141 hg w31 hbox hb; have n0_ := Aside0.mk (blk_below (g := gb135) (o := .cells #[.slice A0_0 l0_0.length c0_0, .int .i64 a0_1, .slice A0_2 l0_2.length c0_2] 67 (0, 0)) (by (with_reducible repeat (first | refine blk_drewN ?_ _ | refine blk_drew ?_ | refine blk_alloc ?_ _)); exact BK135.out) hb); have n1_ := Aside0.mk (below_step (by repeat (first | (with_reducible first | exact HB.out | apply below_alloc | apply pw_below_drewN | apply below_drew1 | refine below_set ?_ GE135.out) | exact HB.out)) hb); have n2_ := Aside0.mk (hbox); have n3_ := Aside0.mk ((by rw [hg]; exact (below_size (by repeat (first | (with_reducible first | exact HB.out | apply below_alloc | apply pw_below_drewN | apply below_drew1 | refine below_set ?_ GE135.out) | exact HB.out))) : w.heap.size ≤ gb141)); have n4_ := Aside0.mk ((by rw [hg]; exact (below_size (by repeat (first | (with_reducible first | exact HB.out | apply below_alloc | apply pw_below_drewN | apply below_drew1 | refine below_set ?_ GE135.out) | exact HB.out))) : w.heap.size ≤ gb141)); have n5_ := Aside0.mk ((by rw [hg]; exact Nat.ne_of_lt (blk_lt (g := gb135) (o := .cells #[.slice A0_0 l0_0.length c0_0, .int .i64 a0_1, .slice A0_2 l0_2.length c0_2] 67 (0, 0)) (by (with_reducible repeat (first | refine blk_drewN ?_ _ | refine blk_drew ?_ | refine blk_alloc ?_ _)); exact BK135.out)) : gb135 ≠ gb141)); have n6_ := Aside0.mk ((by rw [hg]; exact Nat.ne_of_gt (blk_lt (g := gb135) (o := .cells #[.slice A0_0 l0_0.length c0_0, .int .i64 a0_1, .slice A0_2 l0_2.length c0_2] 67 (0, 0)) (by (with_reducible repeat (first | refine blk_drewN ?_ _ | refine blk_drew ?_ | refine blk_alloc ?_ _)); exact BK135.out)) : gb141 ≠ gb135)); clear BK135; clear HB; have BK135 := n0_; have HB := n1_; have BK141 := n2_; have GW141 := n3_; have GE141 := n4_; have NB135_141 := n5_; have NB141_135 := n6_; clear n0_ n1_ n2_ n3_ n4_ n5_ n6_; clear hb hbox hg; have hnb32 := NB141_135.out; have hnc32 := NB135_141.out; have hcz33_0 : w31.cell? ⟨gb141, 0, none⟩ = some (.int .i64 0) := (blk_cell BK141.out 0).trans rfl; have hcz33_1 : w31.cell? ⟨gb141, 1, none⟩ = some (.int .i64 0) := (blk_cell BK141.out 1).trans rfl; have hcz33_2 : w31.cell? ⟨gb141, 2, none⟩ = some (.int .i64 0) := (blk_cell BK141.out 2).trans rfl; have hcz33_3 : w31.cell? ⟨gb141, 3, none⟩ = some (.int .i64 0) := (blk_cell BK141.out 3).trans rfl; have hcz33_4 : w31.cell? ⟨gb141, 4, none⟩ = some (.bool false) := (blk_cell BK141.out 4).trans rfl; have hfz33_0 := blk_frozen BK141.out 0; have hfz33_1 := blk_frozen BK141.out 1; have hfz33_2 := blk_frozen BK141.out 2; have hfz33_3 := blk_frozen BK141.out 3; have hfz33_4 := blk_frozen BK141.out 4; have hcz34_0 : w31.cell? ⟨gb135, 0, none⟩ = some (.slice A0_0 l0_0.length c0_0) := (blk_cell BK135.out 0).trans rfl; have hcz34_1 : w31.cell? ⟨gb135, 1, none⟩ = some (.int .i64 a0_1) := (blk_cell BK135.out 1).trans rfl; have hcz34_2 : w31.cell? ⟨gb135, 2, none⟩ = some (.slice A0_2 l0_2.length c0_2) := (blk_cell BK135.out 2).trans rfl; have hfz34_0 := blk_frozen BK135.out 0; have hfz34_1 := blk_frozen BK135.out 1; have hfz34_2 := blk_frozen BK135.out 2) | ((with_reducible refine gate_callee (f := 75) rfl ?_); refine goesL_ (some 31) rfl rfl Try.func75 (by kernel_rfl) rfl #[.agg #[.slice A0_0 l0_0.length c0_0, .int .i64 a0_1, .slice A0_2 l0_2.length c0_2], .int .i64 a2] rfl (by (try simp only [List.map_toArray, List.map_cons, List.map_nil]); first | done | rfl | (simp only [List.length_drop, List.length_take]; rfl)) ?_; (with_reducible refine (best_flow_hyphen.calls _ _ l0_0 a0_1 _ _ l0_2 a2 false _ ?side1 ?side2 ?side3 ?side4 A6.out).mono ?_); (case side1 => exact Kd.C_below HR0_0.out (by repeat (first | (with_reducible first | exact HB.out | apply below_alloc | apply pw_below_drewN | apply below_drew1 | refine below_set ?_ GE135.out | refine below_set ?_ GE141.out) | exact HB.out))); (case side2 => exact HC0_0.out); (case side3 => exact Kd.C_below HR0_2.out (by repeat (first | (with_reducible first | exact HB.out | apply below_alloc | apply pw_below_drewN | apply below_drew1 | refine below_set ?_ GE135.out | refine below_set ?_ GE141.out) | exact HB.out))); (case side4 => exact HC0_2.out); rintro e w35 ⟨rfl, hb⟩; refine ⟨_, rfl, ?_⟩; have n0_ := Aside0.mk (blk_below (g := gb135) (o := .cells #[.slice A0_0 l0_0.length c0_0, .int .i64 a0_1, .slice A0_2 l0_2.length c0_2] 67 (0, 0)) (by (with_reducible repeat (first | refine blk_drewN ?_ _ | refine blk_drew ?_ | refine blk_alloc ?_ _)); refine blk_far ?_ NB135_141.out _; (with_reducible repeat (first | refine blk_drewN ?_ _ | refine blk_drew ?_ | refine blk_alloc ?_ _)); refine blk_far ?_ NB135_141.out _; (with_reducible repeat (first | refine blk_drewN ?_ _ | refine blk_drew ?_ | refine blk_alloc ?_ _)); refine blk_far ?_ NB135_141.out _; (with_reducible repeat (first | refine blk_drewN ?_ _ | refine blk_drew ?_ | refine blk_alloc ?_ _)); refine blk_far ?_ NB135_141.out _; (with_reducible repeat (first | refine blk_drewN ?_ _ | refine blk_drew ?_ | refine blk_alloc ?_ _)); refine blk_far ?_ NB135_141.out _; (with_reducible repeat (first | refine blk_drewN ?_ _ | refine blk_drew ?_ | refine blk_alloc ?_ _)); exact BK135.out) hb); have n1_ := Aside0.mk (blk_below (g := gb141) (o := .cells #[.int .i64 t136, .int .i64 t137, .int .i64 t138, .int .i64 t139, .bool true] 87 (0, 0)) (by (with_reducible repeat (first | refine blk_drewN ?_ _ | refine blk_drew ?_ | refine blk_alloc ?_ _)); refine blk_put (cs := #[.int .i64 t136, .int .i64 t137, .int .i64 t138, .int .i64 t139, .bool false]) ?_ 4 _ rfl; (with_reducible repeat (first | refine blk_drewN ?_ _ | refine blk_drew ?_ | refine blk_alloc ?_ _)); refine blk_put (cs := #[.int .i64 t136, .int .i64 t137, .int .i64 t138, .int .i64 0, .bool false]) ?_ 3 _ rfl; (with_reducible repeat (first | refine blk_drewN ?_ _ | refine blk_drew ?_ | refine blk_alloc ?_ _)); refine blk_put (cs := #[.int .i64 t136, .int .i64 t137, .int .i64 0, .int .i64 0, .bool false]) ?_ 2 _ rfl; (with_reducible repeat (first | refine blk_drewN ?_ _ | refine blk_drew ?_ | refine blk_alloc ?_ _)); refine blk_put (cs := #[.int .i64 t136, .int .i64 0, .int .i64 0, .int .i64 0, .bool false]) ?_ 1 _ rfl; (with_reducible repeat (first | refine blk_drewN ?_ _ | refine blk_drew ?_ | refine blk_alloc ?_ _)); refine blk_put (cs := #[.int .i64 0, .int .i64 0, .int .i64 0, .int .i64 0, .bool false]) ?_ 0 _ rfl; (with_reducible repeat (first | refine blk_drewN ?_ _ | refine blk_drew ?_ | refine blk_alloc ?_ _)); exact BK141.out) hb); have n2_ := Aside0.mk (below_step (by repeat (first | (with_reducible first | exact HB.out | apply below_alloc | apply pw_below_drewN | apply below_drew1 | refine below_set ?_ GE135.out | refine below_set ?_ GE141.out) | exact HB.out)) hb); clear BK135; clear BK141; clear HB; have BK135 := n0_; have BK141 := n1_; have HB := n2_; clear n0_ n1_ n2_; (try clear hb); (try clear hb2); (try clear hk); (try clear hi); have hcz36_0 : w35.cell? ⟨gb141, 0, none⟩ = some (.int .i64 t136) := (blk_cell BK141.out 0).trans rfl; have hcz36_1 : w35.cell? ⟨gb141, 1, none⟩ = some (.int .i64 t137) := (blk_cell BK141.out 1).trans rfl; have hcz36_2 : w35.cell? ⟨gb141, 2, none⟩ = some (.int .i64 t138) := (blk_cell BK141.out 2).trans rfl; have hcz36_3 : w35.cell? ⟨gb141, 3, none⟩ = some (.int .i64 t139) := (blk_cell BK141.out 3).trans rfl; have hcz36_4 : w35.cell? ⟨gb141, 4, none⟩ = some (.bool true) := (blk_cell BK141.out 4).trans rfl; have hfz36_0 := blk_frozen BK141.out 0; have hfz36_1 := blk_frozen BK141.out 1; have hfz36_2 := blk_frozen BK141.out 2; have hfz36_3 := blk_frozen BK141.out 3; have hfz36_4 := blk_frozen BK141.out 4))
   go_ret
   exact ⟨by first | rfl | (simp [errW_none, errW_some] <;> rfl) | (simp only [← hji5]; first | rfl | (simp [errW_none, errW_some] <;> rfl)) | (simp [*, errW_none, errW_some] <;> rfl), by repeat (first | (with_reducible first | exact HB.out | apply below_alloc | apply pw_below_drewN | apply below_drew1 | refine below_set ?_ GE135.out | refine below_set ?_ GE141.out) | exact HB.out)⟩
  ·replace c27 := Bool.eq_false_iff.mpr c27
   subst c27
   have H1 : (some (wrap64 ((wrap64 (10 + (ji5))) * (wrap64 (10 + (ji5)))))) = some r := by rw [if_neg (show ¬ (false = true) by decide)] at H; exact H
   clear H
   have H := H1
   clear H1
   obtain rfl := Option.some.inj H
   go_enter Try.func46, Try.ntmps46
   go_wp2_with (first | ((with_reducible refine gate_dst (N := 3) rfl ?_); refine box_event ?hg (N := 3) ?hd (cs := #[.slice A0_0 l0_0.length c0_0, .int .i64 a0_1, .slice A0_2 l0_2.length c0_2]) (t := 67) ?hr ?_; (case hd => rfl); (case hg => rfl); (case hr => first | (go_simp; done) | (go_simp; rfl)); intro gb135 hg w37 hbox hb; have n0_ := Aside0.mk (below_step (by repeat (first | (with_reducible first | exact HB.out | apply below_alloc | apply pw_below_drewN | apply below_drew1) | exact HB.out)) hb); have n1_ := Aside0.mk (hbox); have n2_ := Aside0.mk ((by rw [hg]; exact (below_size (by repeat (first | (with_reducible first | exact HB.out | apply below_alloc | apply pw_below_drewN | apply below_drew1) | exact HB.out))) : w.heap.size ≤ gb135)); have n3_ := Aside0.mk ((by rw [hg]; exact (below_size (by repeat (first | (with_reducible first | exact HB.out | apply below_alloc | apply pw_below_drewN | apply below_drew1) | exact HB.out))) : w.heap.size ≤ gb135)); clear HB; have HB := n0_; have BK135 := n1_; have GW135 := n2_; have GE135 := n3_; clear n0_ n1_ n2_ n3_; clear hb hbox hg; have hcz38_0 : w37.cell? ⟨gb135, 0, none⟩ = some (.slice A0_0 l0_0.length c0_0) := (blk_cell BK135.out 0).trans rfl; have hcz38_1 : w37.cell? ⟨gb135, 1, none⟩ = some (.int .i64 a0_1) := (blk_cell BK135.out 1).trans rfl; have hcz38_2 : w37.cell? ⟨gb135, 2, none⟩ = some (.slice A0_2 l0_2.length c0_2) := (blk_cell BK135.out 2).trans rfl; have hfz38_0 := blk_frozen BK135.out 0; have hfz38_1 := blk_frozen BK135.out 1; have hfz38_2 := blk_frozen BK135.out 2) | ((with_reducible refine gate_callee (f := 54) rfl ?_); refine goesL_ (some 13) rfl rfl Try.func54 (by kernel_rfl) rfl #[.agg #[.slice A0_0 l0_0.length c0_0, .int .i64 a0_1, .slice A0_2 l0_2.length c0_2], .int .i64 a1, .int .i64 a2] rfl (by (try simp only [List.map_toArray, List.map_cons, List.map_nil]); first | done | rfl | (simp only [List.length_drop, List.length_take]; rfl)) ?_; (with_reducible refine (bfl.calls k _ _ l0_0 a0_1 _ _ l0_2 a1 a2 t136 t137 t138 t139 false _ ?side1 ?side2 ?side3 ?side4 A4.out).mono ?_); (case side1 => repeat (first | exact (Kd.C_below HR0_0.out HB.out) | (with_reducible refine Kd.C_alloc ?_ _) | (with_reducible refine Kd.C_drewN ?_ _) | (with_reducible refine Kd.C_drew ?_))); (case side2 => exact HC0_0.out); (case side3 => repeat (first | exact (Kd.C_below HR0_2.out HB.out) | (with_reducible refine Kd.C_alloc ?_ _) | (with_reducible refine Kd.C_drewN ?_ _) | (with_reducible refine Kd.C_drew ?_))); (case side4 => exact HC0_2.out); rintro e w39 ⟨rfl, hb⟩; refine ⟨_, rfl, ?_⟩; have n0_ := Aside0.mk (blk_below (g := gb135) (o := .cells #[.slice A0_0 l0_0.length c0_0, .int .i64 a0_1, .slice A0_2 l0_2.length c0_2] 67 (0, 0)) (by (with_reducible repeat (first | refine blk_drewN ?_ _ | refine blk_drew ?_ | refine blk_alloc ?_ _)); exact BK135.out) hb); have n1_ := Aside0.mk (below_step (by repeat (first | (with_reducible first | exact HB.out | apply below_alloc | apply pw_below_drewN | apply below_drew1 | refine below_set ?_ GE135.out) | exact HB.out)) hb); clear BK135; clear HB; have BK135 := n0_; have HB := n1_; clear n0_ n1_; (try clear hb); (try clear hb2); (try clear hk); (try clear hi)) | ((with_reducible refine gate_dst (N := 7) rfl ?_); refine box_event ?hg (N := 7) ?hd (cs := #[.int .i64 0, .int .i64 0, .int .i64 0, .int .i64 0, .bool false]) (t := 87) ?hr ?_; (case hd => rfl); (case hg => rfl); (case hr => first | (go_simp; done) | (go_simp; rfl)); intro gb141 hg w40 hbox hb; have n0_ := Aside0.mk (blk_below (g := gb135) (o := .cells #[.slice A0_0 l0_0.length c0_0, .int .i64 a0_1, .slice A0_2 l0_2.length c0_2] 67 (0, 0)) (by (with_reducible repeat (first | refine blk_drewN ?_ _ | refine blk_drew ?_ | refine blk_alloc ?_ _)); exact BK135.out) hb); have n1_ := Aside0.mk (below_step (by repeat (first | (with_reducible first | exact HB.out | apply below_alloc | apply pw_below_drewN | apply below_drew1 | refine below_set ?_ GE135.out) | exact HB.out)) hb); have n2_ := Aside0.mk (hbox); have n3_ := Aside0.mk ((by rw [hg]; exact (below_size (by repeat (first | (with_reducible first | exact HB.out | apply below_alloc | apply pw_below_drewN | apply below_drew1 | refine below_set ?_ GE135.out) | exact HB.out))) : w.heap.size ≤ gb141)); have n4_ := Aside0.mk ((by rw [hg]; exact (below_size (by repeat (first | (with_reducible first | exact HB.out | apply below_alloc | apply pw_below_drewN | apply below_drew1 | refine below_set ?_ GE135.out) | exact HB.out))) : w.heap.size ≤ gb141)); have n5_ := Aside0.mk ((by rw [hg]; exact Nat.ne_of_lt (blk_lt (g := gb135) (o := .cells #[.slice A0_0 l0_0.length c0_0, .int .i64 a0_1, .slice A0_2 l0_2.length c0_2] 67 (0, 0)) (by (with_reducible repeat (first | refine blk_drewN ?_ _ | refine blk_drew ?_ | refine blk_alloc ?_ _)); exact BK135.out)) : gb135 ≠ gb141)); have n6_ := Aside0.mk ((by rw [hg]; exact Nat.ne_of_gt (blk_lt (g := gb135) (o := .cells #[.slice A0_0 l0_0.length c0_0, .int .i64 a0_1, .slice A0_2 l0_2.length c0_2] 67 (0, 0)) (by (with_reducible repeat (first | refine blk_drewN ?_ _ | refine blk_drew ?_ | refine blk_alloc ?_ _)); exact BK135.out)) : gb141 ≠ gb135)); clear BK135; clear HB; have BK135 := n0_; have HB := n1_; have BK141 := n2_; have GW141 := n3_; have GE141 := n4_; have NB135_141 := n5_; have NB141_135 := n6_; clear n0_ n1_ n2_ n3_ n4_ n5_ n6_; clear hb hbox hg; have hnb41 := NB141_135.out; have hnc41 := NB135_141.out; have hcz42_0 : w40.cell? ⟨gb141, 0, none⟩ = some (.int .i64 0) := (blk_cell BK141.out 0).trans rfl; have hcz42_1 : w40.cell? ⟨gb141, 1, none⟩ = some (.int .i64 0) := (blk_cell BK141.out 1).trans rfl; have hcz42_2 : w40.cell? ⟨gb141, 2, none⟩ = some (.int .i64 0) := (blk_cell BK141.out 2).trans rfl; have hcz42_3 : w40.cell? ⟨gb141, 3, none⟩ = some (.int .i64 0) := (blk_cell BK141.out 3).trans rfl; have hcz42_4 : w40.cell? ⟨gb141, 4, none⟩ = some (.bool false) := (blk_cell BK141.out 4).trans rfl; have hfz42_0 := blk_frozen BK141.out 0; have hfz42_1 := blk_frozen BK141.out 1; have hfz42_2 := blk_frozen BK141.out 2; have hfz42_3 := blk_frozen BK141.out 3; have hfz42_4 := blk_frozen BK141.out 4; have hcz43_0 : w40.cell? ⟨gb135, 0, none⟩ = some (.slice A0_0 l0_0.length c0_0) := (blk_cell BK135.out 0).trans rfl; have hcz43_1 : w40.cell? ⟨gb135, 1, none⟩ = some (.int .i64 a0_1) := (blk_cell BK135.out 1).trans rfl; have hcz43_2 : w40.cell? ⟨gb135, 2, none⟩ = some (.slice A0_2 l0_2.length c0_2) := (blk_cell BK135.out 2).trans rfl; have hfz43_0 := blk_frozen BK135.out 0; have hfz43_1 := blk_frozen BK135.out 1; have hfz43_2 := blk_frozen BK135.out 2) | ((with_reducible refine gate_callee (f := 75) rfl ?_); refine goesL_ (some 31) rfl rfl Try.func75 (by kernel_rfl) rfl #[.agg #[.slice A0_0 l0_0.length c0_0, .int .i64 a0_1, .slice A0_2 l0_2.length c0_2], .int .i64 a2] rfl (by (try simp only [List.map_toArray, List.map_cons, List.map_nil]); first | done | rfl | (simp only [List.length_drop, List.length_take]; rfl)) ?_; (with_reducible refine (best_flow_hyphen.calls _ _ l0_0 a0_1 _ _ l0_2 a2 false _ ?side1 ?side2 ?side3 ?side4 A6.out).mono ?_); (case side1 => exact Kd.C_below HR0_0.out (by repeat (first | (with_reducible first | exact HB.out | apply below_alloc | apply pw_below_drewN | apply below_drew1 | refine below_set ?_ GE135.out | refine below_set ?_ GE141.out) | exact HB.out))); (case side2 => exact HC0_0.out); (case side3 => exact Kd.C_below HR0_2.out (by repeat (first | (with_reducible first | exact HB.out | apply below_alloc | apply pw_below_drewN | apply below_drew1 | refine below_set ?_ GE135.out | refine below_set ?_ GE141.out) | exact HB.out))); (case side4 => exact HC0_2.out); rintro e w44 ⟨rfl, hb⟩; refine ⟨_, rfl, ?_⟩; have n0_ := Aside0.mk (blk_below (g := gb135) (o := .cells #[.slice A0_0 l0_0.length c0_0, .int .i64 a0_1, .slice A0_2 l0_2.length c0_2] 67 (0, 0)) (by (with_reducible repeat (first | refine blk_drewN ?_ _ | refine blk_drew ?_ | refine blk_alloc ?_ _)); refine blk_far ?_ NB135_141.out _; (with_reducible repeat (first | refine blk_drewN ?_ _ | refine blk_drew ?_ | refine blk_alloc ?_ _)); refine blk_far ?_ NB135_141.out _; (with_reducible repeat (first | refine blk_drewN ?_ _ | refine blk_drew ?_ | refine blk_alloc ?_ _)); refine blk_far ?_ NB135_141.out _; (with_reducible repeat (first | refine blk_drewN ?_ _ | refine blk_drew ?_ | refine blk_alloc ?_ _)); refine blk_far ?_ NB135_141.out _; (with_reducible repeat (first | refine blk_drewN ?_ _ | refine blk_drew ?_ | refine blk_alloc ?_ _)); refine blk_far ?_ NB135_141.out _; (with_reducible repeat (first | refine blk_drewN ?_ _ | refine blk_drew ?_ | refine blk_alloc ?_ _)); exact BK135.out) hb); have n1_ := Aside0.mk (blk_below (g := gb141) (o := .cells #[.int .i64 t136, .int .i64 t137, .int .i64 t138, .int .i64 t139, .bool false] 87 (0, 0)) (by (with_reducible repeat (first | refine blk_drewN ?_ _ | refine blk_drew ?_ | refine blk_alloc ?_ _)); refine blk_put (cs := #[.int .i64 t136, .int .i64 t137, .int .i64 t138, .int .i64 t139, .bool false]) ?_ 4 _ rfl; (with_reducible repeat (first | refine blk_drewN ?_ _ | refine blk_drew ?_ | refine blk_alloc ?_ _)); refine blk_put (cs := #[.int .i64 t136, .int .i64 t137, .int .i64 t138, .int .i64 0, .bool false]) ?_ 3 _ rfl; (with_reducible repeat (first | refine blk_drewN ?_ _ | refine blk_drew ?_ | refine blk_alloc ?_ _)); refine blk_put (cs := #[.int .i64 t136, .int .i64 t137, .int .i64 0, .int .i64 0, .bool false]) ?_ 2 _ rfl; (with_reducible repeat (first | refine blk_drewN ?_ _ | refine blk_drew ?_ | refine blk_alloc ?_ _)); refine blk_put (cs := #[.int .i64 t136, .int .i64 0, .int .i64 0, .int .i64 0, .bool false]) ?_ 1 _ rfl; (with_reducible repeat (first | refine blk_drewN ?_ _ | refine blk_drew ?_ | refine blk_alloc ?_ _)); refine blk_put (cs := #[.int .i64 0, .int .i64 0, .int .i64 0, .int .i64 0, .bool false]) ?_ 0 _ rfl; (with_reducible repeat (first | refine blk_drewN ?_ _ | refine blk_drew ?_ | refine blk_alloc ?_ _)); exact BK141.out) hb); have n2_ := Aside0.mk (below_step (by repeat (first | (with_reducible first | exact HB.out | apply below_alloc | apply pw_below_drewN | apply below_drew1 | refine below_set ?_ GE135.out | refine below_set ?_ GE141.out) | exact HB.out)) hb); clear BK135; clear BK141; clear HB; have BK135 := n0_; have BK141 := n1_; have HB := n2_; clear n0_ n1_ n2_; (try clear hb); (try clear hb2); (try clear hk); (try clear hi); have hcz45_0 : w44.cell? ⟨gb141, 0, none⟩ = some (.int .i64 t136) := (blk_cell BK141.out 0).trans rfl; have hcz45_1 : w44.cell? ⟨gb141, 1, none⟩ = some (.int .i64 t137) := (blk_cell BK141.out 1).trans rfl; have hcz45_2 : w44.cell? ⟨gb141, 2, none⟩ = some (.int .i64 t138) := (blk_cell BK141.out 2).trans rfl; have hcz45_3 : w44.cell? ⟨gb141, 3, none⟩ = some (.int .i64 t139) := (blk_cell BK141.out 3).trans rfl; have hcz45_4 : w44.cell? ⟨gb141, 4, none⟩ = some (.bool false) := (blk_cell BK141.out 4).trans rfl; have hfz45_0 := blk_frozen BK141.out 0; have hfz45_1 := blk_frozen BK141.out 1; have hfz45_2 := blk_frozen BK141.out 2; have hfz45_3 := blk_frozen BK141.out 3; have hfz45_4 := blk_frozen BK141.out 4))
   go_ret
   exact ⟨by first | rfl | (simp [errW_none, errW_some] <;> rfl) | (simp only [← hji5]; first | rfl | (simp [errW_none, errW_some] <;> rfl)) | (simp [*, errW_none, errW_some] <;> rfl), by repeat (first | (with_reducible first | exact HB.out | apply below_alloc | apply pw_below_drewN | apply below_drew1 | refine below_set ?_ GE135.out | refine below_set ?_ GE141.out) | exact HB.out)⟩
def r19_Hyphen.f (l0 : List (S43)) (a1 : Int) : Option (Bool) := if a1 ≥ 0 then (if a1 < (l0.length : Int) then (if 0 ≤ a1 then (some (((rd_T43 l0 a1).f0) == 3)) else (none)) else (some false)) else (some false)
set_option maxHeartbeats 8000000 in
set_option maxRecDepth 100000 in
theorem r19_Hyphen.calls (A0 : Option Addr) (c0 : Nat) (l0 : List (S43)) (a1 : Int) (r : Bool) (w : World) (hr0 : Kd.C k43 w A0 l0.length l0) (hc0 : l0.length ≤ c0) (h : r19_Hyphen.f l0 a1 = some r) :
  Calls Try.prog 57 #[.slice A0 l0.length c0, .int .i64 a1] w fun e w' => e = .returned (.bool r) ∧ Drawn0 w w' := by
 have HR0 := Aside0.mk hr0
 have HC0 := Aside0.mk hc0
 clear hr0 hc0
 have H : (if a1 ≥ 0 then (if a1 < (l0.length : Int) then (if 0 ≤ a1 then (some (((rd_T43 l0 a1).f0) == 3)) else (none)) else (some false)) else (some false)) = some r := h
 clear h
 by_cases c3 : a1 ≥ 0
 ·rw [if_pos c3] at H
  have c3b0 : decide (0 ≤ a1) = true := decide_eq_true c3
  clear c3
  by_cases c4 : a1 < (l0.length : Int)
  ·rw [if_pos c4] at H
   have c4b0 : decide (a1 < (l0.length : Int)) = true := decide_eq_true c4
   clear c4
   by_cases c5 : 0 ≤ a1
   ·rw [if_pos c5] at H
    have c5b0 : decide (0 ≤ a1) = true := decide_eq_true c5
    clear c5
    obtain rfl := Option.some.inj H
    have p190 : 0 ≤ (a1 : Int) := of_decide_eq_true (by first | (with_reducible assumption) | assumption)
    have q190 : a1 < (l0.length : Int) := of_decide_eq_true (by first | (with_reducible assumption) | assumption)
    obtain ⟨ad190, e190, hx190_0, hx190_1, hx190_2, hx190_3, hx190_4⟩ := at_T43 HR0.out a1 p190 q190
    cases e190
    replace p190 := eq_true p190
    replace q190 := eq_true q190
    go_enter Try.func57, Try.ntmps57
    go_wp2
    go_ret
    exact ⟨by first | rfl | (simp; done) | (simp [*]; done), by repeat (first | exact Drawn0.refl _ | apply Drawn0.step)⟩
   ·rw [if_neg c5] at H
    exact absurd H (by simp)
  ·rw [if_neg c4] at H
   have c4b0 : decide (a1 < (l0.length : Int)) = false := decide_eq_false c4
   clear c4
   obtain rfl := Option.some.inj H
   go_enter Try.func57, Try.ntmps57
   go_wp2
   go_ret
   exact ⟨by first | rfl | (simp; done) | (simp [*]; done), by repeat (first | exact Drawn0.refl _ | apply Drawn0.step)⟩
 ·rw [if_neg c3] at H
  have c3b0 : decide (0 ≤ a1) = false := decide_eq_false c3
  clear c3
  obtain rfl := Option.some.inj H
  go_enter Try.func57, Try.ntmps57
  go_wp2
  go_ret
  exact ⟨by first | rfl | (simp; done) | (simp [*]; done), by repeat (first | exact Drawn0.refl _ | apply Drawn0.step)⟩
end Go.Proofs.Ytbddfnmhhmkfkaa.Pr
namespace Go.Proofs.Ytbddfnmhhmkfkaa.Pr
set_option linter.unusedVariables false
set_option linter.unusedSimpArgs false
open Go.RowKit Go.Proofs.YtbddfnmhhmkfkaaW.PrintWords
attribute [local go_sem] Oper.semAt_some
def sumP (s : S85) (x : S43) : S85 :=
 if x.f0 = 2 then ⟨wrap64 (s.f0 + x.f1), wrap64 (s.f1 + x.f2), wrap64 (s.f2 + x.f3)⟩
 else if x.f0 = 1 ∨ x.f0 = 4 then ⟨wrap64 (s.f0 + x.f1), s.f1, s.f2⟩ else s
def sumsP : S85 → List S43 → List S85
 | s, [] => [s]
 | s, x :: l => s :: sumsP (sumP s x) l
def sumAt (l : List S43) (k : Nat) : S85 := (l.take k).foldl sumP z85
def sumsTo (l : List S43) (k : Nat) : List S85 := (List.range (k + 1)).map (sumAt l)
def flat85 (xs : List S85) : List Value := xs.flatMap fun x => [.int .i64 x.f0, .int .i64 x.f1, .int .i64 x.f2]
theorem flat85_length (xs : List S85) : (flat85 xs).length = xs.length * 3 := by
 induction xs with
 | nil => rfl
 | cons x xs ih => simp [flat85] at ih ⊢; omega
theorem flat85_snoc (xs : List S85) (x : S85) : flat85 (xs ++ [x]) = flat85 xs ++ [.int .i64 x.f0, .int .i64 x.f1, .int .i64 x.f2] := by simp [flat85]
theorem sumsTo_succ (l : List S43) (k : Nat) : sumsTo l (k + 1) = sumsTo l k ++ [sumAt l (k + 1)] := by
 unfold sumsTo
 rw [List.range_succ, List.map_append]
 rfl
theorem sumAt_succ (l : List S43) (k : Nat) (x : S43) (h : l[k]? = some x) : sumAt l (k + 1) = sumP (sumAt l k) x := by
 unfold sumAt
 rw [List.take_add_one, h]
 simp
theorem info85h : (Try.prog.info? 85).map (fun i => (i.zero, i.size, i.bytes)) = some (some (.agg #[(.int .i64 0), (.int .i64 0), (.int .i64 0)]), 3, 24) := by kernel_rfl
theorem sums_last (l : List S43) (k : Nat) : ∃ pre, flat85 (sumsTo l k) = pre ++ [.int .i64 (sumAt l k).f0, .int .i64 (sumAt l k).f1, .int .i64 (sumAt l k).f2] ∧ pre.length = k * 3 := by
 refine ⟨flat85 ((List.range k).map (sumAt l)), ?_, by rw [flat85_length]; simp⟩
 unfold sumsTo
 rw [List.range_succ, List.map_append]
 exact flat85_snoc _ _
theorem sums_next (l : List S43) (k : Nat) (x : S43) (h : l[k]? = some x) : flat85 (sumsTo l (k + 1)) = flat85 (sumsTo l k) ++ [.int .i64 (sumP (sumAt l k) x).f0, .int .i64 (sumP (sumAt l k) x).f1, .int .i64 (sumP (sumAt l k) x).f2] := by
 rw [sumsTo_succ, flat85_snoc, sumAt_succ l k x h]
theorem cells_new (w : World) (cs : List Value) (t : TypeId) : ∀ j u, cs[j]? = some u → (w.alloc (.cells cs.toArray t)).cell? ((⟨w.heap.size, 0, none⟩ : Addr).add j) = some u := by
 intro j u hj
 rw [add_plain]
 simp only [World.cell?, heap_alloc_new]
 simpa using hj
theorem made3 (n : Nat) : (madeCells #[.int .i64 0, .int .i64 0, .int .i64 0] ((n + 1) * 3)).toList.take (1 * 3) = [.int .i64 0, .int .i64 0, .int .i64 0] := by
 apply List.ext_getElem?
 intro j
 rw [List.getElem?_take]
 rcases j with _ | _ | _ | j
 ·simp [madeCells]
 ·have h1 : 1 < (n + 1) * 3 := by omega
  simp [madeCells, h1]
 ·have h2 : 2 < (n + 1) * 3 := by omega
  simp [madeCells, h2]
 ·rw [if_neg (by omega)]
  rfl
theorem own_apart {w : World} {base e size n : Nat} {v : Value} {xs : List Value} (h : w.ownsRow base e size v n xs) {b : Nat} {t : TypeId} {cs : Array Value} (hb : w.heap[b]? = some (.cells cs t (0, 0))) (hne : t ≠ e) : some b ≠ v.ownBlock := by
 rcases h.2 with ⟨rfl, _⟩ | ⟨g, cap, cur, rfl, _, hg, _⟩
 ·simp [Value.ownBlock]
 ·have := blk_ne hb hg hne
  simpa [Value.ownBlock] using this
set_option pp.maxSteps 3000 in
set_option maxRecDepth 100000 in
set_option maxHeartbeats 2000000 in
theorem begin_calls (A : Option Addr) (c : Nat) (l : List S43) (wd : Int) (w : World) (hl : l.length ≤ 1000000) (hA : Kd.C k43 w A l.length l) :
  Calls Try.prog 43 #[.slice A l.length c, .int .i64 wd] w fun e w' => ∃ v, e = .returned (.agg #[.slice A l.length c, .int .i64 wd, v]) ∧ w'.ownsRow w.heap.size 85 3 v (l.length + 1) (flat85 (sumsTo l l.length)) ∧ Below w.heap.size w w' := by
 obtain ⟨i0, hi, hz0, hz1, hz2⟩ := info_parts info85h
 have HA := Lib.hid hA
 obtain ⟨n, hn⟩ : ∃ n, l.length = n := ⟨_, rfl⟩
 rw [hn] at hl ⊢
 have HN := Lib.hid hn
 clear hn hA
 have hn1 : (n : Int) ≤ 1000000 := by omega
 have hmk : ∀ W : World, (Instr.makeSlice 65 (.int .i64 1) (.int .i64 ((n : Int) + 1))).run Try.prog W = .ok (.slice (some ⟨W.heap.size, 0, none⟩) 1 (n + 1)) (W.alloc (.cells (madeCells #[.int .i64 0, .int .i64 0, .int .i64 0] ((n + 1) * 3)) 85)) := fun W => by
  have hr := run_make (P := Try.prog) W 65 85 i0 _ Try.underlying65 hi hz0 .i64 .i64 1 ((n : Int) + 1) (by omega) (by omega) (by rw [hz2]; omega) (by omega)
  rw [hz1, show ((n : Int) + 1).toNat = n + 1 by omega] at hr
  exact hr
 have hrow0 : ∀ W : World, (W.alloc (.cells (madeCells #[.int .i64 0, .int .i64 0, .int .i64 0] ((n + 1) * 3)) 85)).ownsRow W.heap.size 85 3 (.slice (some ⟨W.heap.size, 0, none⟩) 1 (n + 1)) 1 [.int .i64 0, .int .i64 0, .int .i64 0] := fun W => by
  refine ⟨rfl, .inr ⟨W.heap.size, n + 1, _, rfl, Nat.le_refl _, heap_alloc_new W _, by omega, by unfold maxLen; omega, size_madeCells _ _, ?_⟩⟩
  exact made3 n
 have HR0 := Lib.hid hrow0
 clear hrow0
 go_enter Try.func43, Try.ntmps43
 go_wp2_with fail
 go_loopw [18] (fun v wr => ∃ (k : Nat) (u : Value), v = .int .i64 k ∧ k ≤ n ∧ wr.heap[w.heap.size + 1 + 1]? = some (.cells #[.slice A n c, .int .i64 wd, u] 67 (0, 0)) ∧ wr.heap[w.heap.size]? = some (.cells #[.slice none 0 0, .int .i64 0, .slice none 0 0] 67 (0, 0)) ∧
   wr.ownsRow (w.heap.size + 1) 85 3 u (k + 1) (flat85 (sumsTo l k)) ∧ Below w.heap.size w wr) (fun v _ => n - (intOf v).toNat)
 case atStart =>
  have b1 := blk_new w (.cells #[.slice none 0 0, .int .i64 0, .slice none 0 0] 67)
  have r1 := HR0.out (w.alloc (.cells #[.slice none 0 0, .int .i64 0, .slice none 0 0] 67))
  have hB1 := (((Below.refl _ w).alloc (Nat.le_refl _) (.cells #[.slice none 0 0, .int .i64 0, .slice none 0 0] 67)).alloc (by simp) (.cells (madeCells #[.int .i64 0, .int .i64 0, .int .i64 0] ((n + 1) * 3)) 85))
  have b2 := blk_alloc b1 (.cells (madeCells #[.int .i64 0, .int .i64 0, .int .i64 0] ((n + 1) * 3)) 85)
  have b3 := blk_new ((w.alloc (.cells #[.slice none 0 0, .int .i64 0, .slice none 0 0] 67)).alloc (.cells (madeCells #[.int .i64 0, .int .i64 0, .int .i64 0] ((n + 1) * 3)) 85)) (.cells #[.slice A n c, .int .i64 wd, .slice (some ⟨w.heap.size + 1, 0, none⟩) 1 (n + 1)] 67)
  simp only [World.size_alloc] at r1 b3
  exact ⟨0, _, rfl, Nat.zero_le _, b3, blk_alloc b2 _, r1.alloc _, hB1.alloc (by simp; omega) _⟩
 case round =>
  obtain ⟨k, u, rfl, hk, hF, hR, hown, hB⟩ := hrel
  by_cases hlt : k < n
  ·have hlt1 : (k : Int) < (n : Int) := by omega
   obtain ⟨ad, e1, q0, q1, q2, q3, q4⟩ := at_T43 (Kd.C_below HA.out hB) k (by omega) (by have := HN.out; omega)
   cases e1
   have hxk : l[k]? = some (rd_T43 l k) := by
    unfold rd_T43
    rw [Int.toNat_natCast, List.getD_eq_getElem?_getD, List.getElem?_eq_getElem (by have := HN.out; omega)]
    rfl
   have hnx := sums_next l k _ hxk
   obtain ⟨pre, hp, hpl⟩ := sums_last l k
   obtain ⟨g, cap, rfl⟩ := ownsRow_succ hown
   have HP := Lib.hid hp
   have HNX := Lib.hid hnx
   have HO := Lib.hid hown
   have HF := Lib.hid hF
   have HRR := Lib.hid hR
   have hca : ∀ o : Obj, (wr.alloc o).cell? ⟨w.heap.size + 1 + 1, 2, none⟩ = some (.slice (some ⟨g, 0, none⟩) (k + 1) cap) ∧ (wr.alloc o).cell? ⟨g, k * 3, none⟩ = some (.int .i64 (sumAt l k).f0) ∧ (wr.alloc o).cell? ⟨g, k * 3 + 1, none⟩ = some (.int .i64 (sumAt l k).f1) ∧ (wr.alloc o).cell? ⟨g, k * 3 + 2, none⟩ = some (.int .i64 (sumAt l k).f2) := fun o => by
    have s0 := (HO.out.alloc o).cellAt (k * 3) (by omega)
    have s1 := (HO.out.alloc o).cellAt (k * 3 + 1) (by omega)
    have s2 := (HO.out.alloc o).cellAt (k * 3 + 2) (by omega)
    rw [hp, List.getElem?_append_right (by omega), hpl, Nat.sub_self] at s0
    rw [hp, List.getElem?_append_right (by omega), hpl, show k * 3 + 1 - k * 3 = 1 by omega] at s1
    rw [hp, List.getElem?_append_right (by omega), hpl, show k * 3 + 2 - k * 3 = 2 by omega] at s2
    exact ⟨by rw [blk_cell (blk_alloc HF.out o) 2]; rfl, s0, s1, s2⟩
   clear hnx hp hpl hxk hown HP hF hR
   generalize rd_T43 l k = x at *
   generalize sumAt l k = s at *
   obtain ⟨f0, f1, f2, f3, f4⟩ := x
   obtain ⟨t0, t1, t2⟩ := s
   obtain ⟨c2, s0, s1, s2⟩ := hca (.cells #[.int .i64 f0, .int .i64 f1, .int .i64 f2, .int .i64 f3, .int .i64 f4] 43)
   simp only [Int.toNat_natCast] at q0 q1 q2 q3 q4 s0 s1 s2
   have hcb : ∀ o o' : Obj, ((wr.alloc o).alloc o').cell? ⟨w.heap.size + 1 + 1, 2, none⟩ = some (.slice (some ⟨g, 0, none⟩) (k + 1) cap) := fun o o' => by rw [blk_cell (blk_alloc (blk_alloc HF.out o) o') 2]; rfl
   by_cases h2 : f0 = 2
   ·subst h2
    go_wp2_with (at_builtin; refine wpList_append_own _ rfl _ _ 65 rfl (w.heap.size + 1) 85 i0 (.agg #[(.int .i64 0), (.int .i64 0), (.int .i64 0)]) 3 24 Try.underlying65 hi hz0 hz1 hz2 rfl (by decide) _ _ _ rfl (((HO.out.alloc _).alloc _).alloc _) _ 1 1 [.int .i64 (wrap64 (t0 + f1)), .int .i64 (wrap64 (t1 + f2)), .int .i64 (wrap64 (t2 + f3))] rfl rfl ?e1 ?e2 ?e3 ?e4 ?e5 ?e6)
    try (case e1 =>
     have := cells_new ((wr.alloc (.cells #[.int .i64 f0, .int .i64 f1, .int .i64 f2, .int .i64 f3, .int .i64 f4] 43)).alloc (.cells #[.int .i64 (wrap64 (t0 + f1)), .int .i64 (wrap64 (t1 + f2)), .int .i64 (wrap64 (t2 + f3))] 85)) [.int .i64 (wrap64 (t0 + f1)), .int .i64 (wrap64 (t1 + f2)), .int .i64 (wrap64 (t2 + f3))] 85
     simp only [World.size_alloc] at this
     exact this)
    case e2 => simp [Value.oneCell']
    case e3 => unfold maxLen; omega
    case e4 => omega
    case e5 => have := hB.size; simp; omega
    case e6 =>
     intro v' w1 hown' hgrow _
     obtain ⟨A', c', rfl⟩ := own_slice hown'
     have hF1 := blk_grown (blk_alloc (blk_alloc (blk_alloc HF.out _) _) _) hgrow (own_apart HO.out HF.out (by decide))
     have hR1 := blk_grown (blk_alloc (blk_alloc (blk_alloc HRR.out _) _) _) hgrow (own_apart HO.out HRR.out (by decide))
     have hBs := hB.size
     have hB1 : Below w.heap.size w w1 := (((hB.alloc hBs _).alloc (by simp; omega) _).alloc (by simp; omega) _).grown hgrow (by simp; omega) fun j hj => (by have := own_base HO.out j hj; omega)
     have hne1 := own_apart hown' hF1 (by decide)
     have hnx : flat85 (sumsTo l (k + 1)) = flat85 (sumsTo l k) ++ [.int .i64 (wrap64 (t0 + f1)), .int .i64 (wrap64 (t1 + f2)), .int .i64 (wrap64 (t2 + f3))] := by
      refine HNX.out.trans ?_
      simp [sumP]
     rw [← hnx] at hown'
     have c0 := blk_cell hF1 2
     simp only [List.getElem?_toArray, List.getElem?_cons_succ, List.getElem?_cons_zero] at c0
     have z0 := blk_frozen hF1 2
     have HF1 := Lib.hid hF1
     have HR1 := Lib.hid hR1
     have HO1 := Lib.hid hown'
     have HN1 := Lib.hid hne1
     clear hF1 hR1 hown' hne1 hgrow q0 q1 q2 q3 q4 s0 s1 s2 c2 hca hcb hnx
     go_wp2
     go_roundw
     case rel => exact ⟨k + 1, .slice A' (k + 1 + 1) c', by go_num, by omega, blk_put HF1.out 2 _ rfl, blk_far HR1.out (by simp; omega) _, own_setCell HO1.out HN1.out _, hB1.setCell (by simp; omega) _⟩
     case measure => simp [intOf]; omega
   ·by_cases h1 : f0 = 1
    ·subst h1
     go_wp2_with (at_builtin; refine wpList_append_own _ rfl _ _ 65 rfl (w.heap.size + 1) 85 i0 (.agg #[(.int .i64 0), (.int .i64 0), (.int .i64 0)]) 3 24 Try.underlying65 hi hz0 hz1 hz2 rfl (by decide) _ _ _ rfl (((HO.out.alloc _).alloc _).alloc _) _ 1 1 [.int .i64 (wrap64 (t0 + f1)), .int .i64 (t1), .int .i64 (t2)] rfl rfl ?x1 ?x2 ?x3 ?x4 ?x5 ?x6)
     try (case x1 =>
      have := cells_new ((wr.alloc (.cells #[.int .i64 f0, .int .i64 f1, .int .i64 f2, .int .i64 f3, .int .i64 f4] 43)).alloc (.cells #[.int .i64 (wrap64 (t0 + f1)), .int .i64 (t1), .int .i64 (t2)] 85)) [.int .i64 (wrap64 (t0 + f1)), .int .i64 (t1), .int .i64 (t2)] 85
      simp only [World.size_alloc] at this
      exact this)
     case x2 => simp [Value.oneCell']
     case x3 => unfold maxLen; omega
     case x4 => omega
     case x5 => have := hB.size; simp; omega
     case x6 =>
      intro v' w1 hown' hgrow _
      obtain ⟨A', c', rfl⟩ := own_slice hown'
      have hF1 := blk_grown (blk_alloc (blk_alloc (blk_alloc HF.out _) _) _) hgrow (own_apart HO.out HF.out (by decide))
      have hR1 := blk_grown (blk_alloc (blk_alloc (blk_alloc HRR.out _) _) _) hgrow (own_apart HO.out HRR.out (by decide))
      have hBs := hB.size
      have hB1 : Below w.heap.size w w1 := (((hB.alloc hBs _).alloc (by simp; omega) _).alloc (by simp; omega) _).grown hgrow (by simp; omega) fun j hj => (by have := own_base HO.out j hj; omega)
      have hne1 := own_apart hown' hF1 (by decide)
      have hnx : flat85 (sumsTo l (k + 1)) = flat85 (sumsTo l k) ++ [.int .i64 (wrap64 (t0 + f1)), .int .i64 (t1), .int .i64 (t2)] := by
       refine HNX.out.trans ?_
       simp [sumP]
      rw [← hnx] at hown'
      have c0 := blk_cell hF1 2
      simp only [List.getElem?_toArray, List.getElem?_cons_succ, List.getElem?_cons_zero] at c0
      have z0 := blk_frozen hF1 2
      have HF1 := Lib.hid hF1
      have HR1 := Lib.hid hR1
      have HO1 := Lib.hid hown'
      have HN1 := Lib.hid hne1
      clear hF1 hR1 hown' hne1 hgrow q0 q1 q2 q3 q4 s0 s1 s2 c2 hca hcb hnx
      go_wp2
      go_roundw
      case rel => exact ⟨k + 1, .slice A' (k + 1 + 1) c', by go_num, by omega, blk_put HF1.out 2 _ rfl, blk_far HR1.out (by simp; omega) _, own_setCell HO1.out HN1.out _, hB1.setCell (by simp; omega) _⟩
      case measure => simp [intOf]; omega
    ·by_cases h4 : f0 = 4
     ·subst h4
      go_wp2_with (at_builtin; refine wpList_append_own _ rfl _ _ 65 rfl (w.heap.size + 1) 85 i0 (.agg #[(.int .i64 0), (.int .i64 0), (.int .i64 0)]) 3 24 Try.underlying65 hi hz0 hz1 hz2 rfl (by decide) _ _ _ rfl (((HO.out.alloc _).alloc _).alloc _) _ 1 1 [.int .i64 (wrap64 (t0 + f1)), .int .i64 (t1), .int .i64 (t2)] rfl rfl ?y1 ?y2 ?y3 ?y4 ?y5 ?y6)
      try (case y1 =>
       have := cells_new ((wr.alloc (.cells #[.int .i64 f0, .int .i64 f1, .int .i64 f2, .int .i64 f3, .int .i64 f4] 43)).alloc (.cells #[.int .i64 (wrap64 (t0 + f1)), .int .i64 (t1), .int .i64 (t2)] 85)) [.int .i64 (wrap64 (t0 + f1)), .int .i64 (t1), .int .i64 (t2)] 85
       simp only [World.size_alloc] at this
       exact this)
      case y2 => simp [Value.oneCell']
      case y3 => unfold maxLen; omega
      case y4 => omega
      case y5 => have := hB.size; simp; omega
      case y6 =>
       intro v' w1 hown' hgrow _
       obtain ⟨A', c', rfl⟩ := own_slice hown'
       have hF1 := blk_grown (blk_alloc (blk_alloc (blk_alloc HF.out _) _) _) hgrow (own_apart HO.out HF.out (by decide))
       have hR1 := blk_grown (blk_alloc (blk_alloc (blk_alloc HRR.out _) _) _) hgrow (own_apart HO.out HRR.out (by decide))
       have hBs := hB.size
       have hB1 : Below w.heap.size w w1 := (((hB.alloc hBs _).alloc (by simp; omega) _).alloc (by simp; omega) _).grown hgrow (by simp; omega) fun j hj => (by have := own_base HO.out j hj; omega)
       have hne1 := own_apart hown' hF1 (by decide)
       have hnx : flat85 (sumsTo l (k + 1)) = flat85 (sumsTo l k) ++ [.int .i64 (wrap64 (t0 + f1)), .int .i64 (t1), .int .i64 (t2)] := by
        refine HNX.out.trans ?_
        simp [sumP]
       rw [← hnx] at hown'
       have c0 := blk_cell hF1 2
       simp only [List.getElem?_toArray, List.getElem?_cons_succ, List.getElem?_cons_zero] at c0
       have z0 := blk_frozen hF1 2
       have HF1 := Lib.hid hF1
       have HR1 := Lib.hid hR1
       have HO1 := Lib.hid hown'
       have HN1 := Lib.hid hne1
       clear hF1 hR1 hown' hne1 hgrow q0 q1 q2 q3 q4 s0 s1 s2 c2 hca hcb hnx
       go_wp2
       go_roundw
       case rel => exact ⟨k + 1, .slice A' (k + 1 + 1) c', by go_num, by omega, blk_put HF1.out 2 _ rfl, blk_far HR1.out (by simp; omega) _, own_setCell HO1.out HN1.out _, hB1.setCell (by simp; omega) _⟩
       case measure => simp [intOf]; omega
     ·have g2 : (f0 == 2) = false := beq_eq_false_iff_ne.2 h2
      have g1 : (f0 == 1) = false := beq_eq_false_iff_ne.2 h1
      have g4 : (f0 == 4) = false := beq_eq_false_iff_ne.2 h4
      go_wp2_with (at_builtin; refine wpList_append_own _ rfl _ _ 65 rfl (w.heap.size + 1) 85 i0 (.agg #[(.int .i64 0), (.int .i64 0), (.int .i64 0)]) 3 24 Try.underlying65 hi hz0 hz1 hz2 rfl (by decide) _ _ _ rfl (((HO.out.alloc _).alloc _).alloc _) _ 1 1 [.int .i64 (t0), .int .i64 (t1), .int .i64 (t2)] rfl rfl ?z1 ?z2 ?z3 ?z4 ?z5 ?z6)
      try (case z1 =>
       have := cells_new ((wr.alloc (.cells #[.int .i64 f0, .int .i64 f1, .int .i64 f2, .int .i64 f3, .int .i64 f4] 43)).alloc (.cells #[.int .i64 (t0), .int .i64 (t1), .int .i64 (t2)] 85)) [.int .i64 (t0), .int .i64 (t1), .int .i64 (t2)] 85
       simp only [World.size_alloc] at this
       exact this)
      case z2 => simp [Value.oneCell']
      case z3 => unfold maxLen; omega
      case z4 => omega
      case z5 => have := hB.size; simp; omega
      case z6 =>
       intro v' w1 hown' hgrow _
       obtain ⟨A', c', rfl⟩ := own_slice hown'
       have hF1 := blk_grown (blk_alloc (blk_alloc (blk_alloc HF.out _) _) _) hgrow (own_apart HO.out HF.out (by decide))
       have hR1 := blk_grown (blk_alloc (blk_alloc (blk_alloc HRR.out _) _) _) hgrow (own_apart HO.out HRR.out (by decide))
       have hBs := hB.size
       have hB1 : Below w.heap.size w w1 := (((hB.alloc hBs _).alloc (by simp; omega) _).alloc (by simp; omega) _).grown hgrow (by simp; omega) fun j hj => (by have := own_base HO.out j hj; omega)
       have hne1 := own_apart hown' hF1 (by decide)
       have hnx : flat85 (sumsTo l (k + 1)) = flat85 (sumsTo l k) ++ [.int .i64 (t0), .int .i64 (t1), .int .i64 (t2)] := by
        refine HNX.out.trans ?_
        simp [sumP, h1, h2, h4]
       rw [← hnx] at hown'
       have c0 := blk_cell hF1 2
       simp only [List.getElem?_toArray, List.getElem?_cons_succ, List.getElem?_cons_zero] at c0
       have z0 := blk_frozen hF1 2
       have HF1 := Lib.hid hF1
       have HR1 := Lib.hid hR1
       have HO1 := Lib.hid hown'
       have HN1 := Lib.hid hne1
       clear hF1 hR1 hown' hne1 hgrow q0 q1 q2 q3 q4 s0 s1 s2 c2 hca hcb hnx
       go_wp2
       go_roundw
       case rel => exact ⟨k + 1, .slice A' (k + 1 + 1) c', by go_num, by omega, blk_put HF1.out 2 _ rfl, blk_far HR1.out (by simp; omega) _, own_setCell HO1.out HN1.out _, hB1.setCell (by simp; omega) _⟩
       case measure => simp [intOf]; omega
  ·obtain rfl : k = n := by omega
   have hlt1 : ¬ (k : Int) < (k : Int) := by omega
   have c0 := blk_cell hF 0
   have c1 := blk_cell hF 1
   have c2 := blk_cell hF 2
   have d0 := blk_cell hR 0
   have d1 := blk_cell hR 1
   have d2 := blk_cell hR 2
   simp only [List.getElem?_toArray, List.getElem?_cons_succ, List.getElem?_cons_zero] at c0 c1 c2 d0 d1 d2
   have f0 := blk_frozen hR 0
   have f1 := blk_frozen hR 1
   have f2 := blk_frozen hR 2
   have HO := Lib.hid hown
   have HR := Lib.hid hR
   obtain ⟨A2, c2', rfl⟩ := own_slice hown
   clear hown hmk hR hF
   go_wp2
   have n0 : some w.heap.size ≠ (Value.slice A2 (k + 1) c2').ownBlock := fun e => by have := own_base HO.out _ e.symm; omega
   have hro := own_setCell (own_setCell (own_setCell HO.out (p := ⟨w.heap.size, 0, none⟩) n0 (.slice A k c)) (p := ⟨w.heap.size, 1, none⟩) n0 (.int .i64 wd)) (p := ⟨w.heap.size, 2, none⟩) n0 (.slice A2 (k + 1) c2')
   have hbb := ((hB.setCell (show w.heap.size ≤ w.heap.size from Nat.le_refl _) (.slice A k c) (p := ⟨w.heap.size, 0, none⟩)).setCell (show w.heap.size ≤ w.heap.size from Nat.le_refl _) (.int .i64 wd) (p := ⟨w.heap.size, 1, none⟩)).setCell (show w.heap.size ≤ w.heap.size from Nat.le_refl _) (.slice A2 (k + 1) c2') (p := ⟨w.heap.size, 2, none⟩)
   have hr2 := blk_set (blk_set (blk_set HR.out 0 (.slice A k c)) 1 (.int .i64 wd)) 2 (.slice A2 (k + 1) c2')
   generalize (((wr.setCell { block := w.heap.size, off := 0 } (Value.slice A k c)).setCell { block := w.heap.size, off := 1 } (Value.int IntKind.i64 wd)).setCell { block := w.heap.size, off := 2 } (Value.slice A2 (k + 1) c2')) = W2 at *
   have z0 := blk_cell hr2 0
   have z1 := blk_cell hr2 1
   have z2 := blk_cell hr2 2
   simp at z0 z1 z2
   refine bodyPost_ret (v := .agg #[.slice A k c, .int .i64 wd, .slice A2 (k + 1) c2']) ?_ rfl ⟨_, rfl, own_weaken hro (by omega), hbb⟩
   simp [results, Try.results43, go_sem, z0, z1, z2]
end Go.Proofs.Ytbddfnmhhmkfkaa.Pr
namespace Go.DP
set_option linter.unusedVariables false
def hd : List Int → Int | [] => -1 | x :: _ => x
section
variable (pl : Int → Bool) (legal : Int → Int → Bool) (cost : Int → Int → Int)
def Row : List Int → Prop | [] => True | t :: r => pl t = true ∧ hd r < t ∧ legal (hd r) t = true ∧ Row r
def tot : List Int → Int | [] => 0 | t :: r => tot r + cost (hd r) t
def earl : List Int → List Int → Prop
 | [], [] => False
 | [], y :: _ => -1 < y
 | x :: _, [] => x < -1
 | x :: a, y :: b => x < y ∨ (x = y ∧ earl a b)
theorem earl_irrefl : ∀ a, ¬ earl a a
 | [] => id
 | x :: a => fun h => h.elim (by omega) fun h => earl_irrefl a h.2
theorem earl_hd {a b : List Int} (h : hd a < hd b) : earl a b := by
 cases a <;> cases b <;> simp only [hd, earl] at * <;> omega
theorem earl_asymm : ∀ a b, earl a b → ¬ earl b a
 | [], [], h, _ => h
 | [], y :: b, h, h' => by simp only [earl] at *; omega
 | x :: a, [], h, h' => by simp only [earl] at *; omega
 | x :: a, y :: b, h, h' => by
  simp only [earl] at *
  rcases h with h | ⟨rfl, h⟩
  ·omega
  ·rcases h' with h' | ⟨_, h'⟩
   ·omega
   ·exact earl_asymm a b h h'
theorem earl_cons {t : Int} {a b : List Int} (h : earl a b) : earl (t :: a) (t :: b) := .inr ⟨rfl, h⟩
def pick (t : Int) : List (List Int × Int) → Option (List Int × Int) → Option (List Int × Int)
 | [], b => b
 | x :: xs, b => pick t xs (if legal (hd x.1) t = true ∧ (∀ y, b = some y → x.2 + cost (hd x.1) t < y.2) then some (t :: x.1, x.2 + cost (hd x.1) t) else b)
theorem pick_spec (t : Int) : ∀ (xs : List (List Int × Int)) (b : Option (List Int × Int)) (seen : List (List Int × Int)),
  (List.Pairwise (fun a c => hd a.1 < hd c.1) (seen ++ xs)) →
  (match b with
   | none => ∀ y ∈ seen, legal (hd y.1) t = false
   | some q => ∃ p, p ∈ seen ∧ legal (hd p.1) t = true ∧ q = (t :: p.1, p.2 + cost (hd p.1) t) ∧ ∀ y ∈ seen, legal (hd y.1) t = true → p.2 + cost (hd p.1) t < y.2 + cost (hd y.1) t ∨ (p.2 + cost (hd p.1) t = y.2 + cost (hd y.1) t ∧ hd p.1 ≤ hd y.1)) →
  (match pick legal cost t xs b with
   | none => ∀ y ∈ seen ++ xs, legal (hd y.1) t = false
   | some q => ∃ p, p ∈ seen ++ xs ∧ legal (hd p.1) t = true ∧ q = (t :: p.1, p.2 + cost (hd p.1) t) ∧ ∀ y ∈ seen ++ xs, legal (hd y.1) t = true → p.2 + cost (hd p.1) t < y.2 + cost (hd y.1) t ∨ (p.2 + cost (hd p.1) t = y.2 + cost (hd y.1) t ∧ hd p.1 ≤ hd y.1))
 | [], b, seen, hp, h => by simpa [pick] using h
 | x :: xs, b, seen, hp, h => by
  have ih := pick_spec t xs (if legal (hd x.1) t = true ∧ (∀ y, b = some y → x.2 + cost (hd x.1) t < y.2) then some (t :: x.1, x.2 + cost (hd x.1) t) else b) (seen ++ [x]) (by simpa using hp)
  simp only [List.append_assoc, List.singleton_append] at ih
  refine ih ?_
  clear ih
  have hlt : ∀ y ∈ seen, hd y.1 < hd x.1 := fun y hy => by
   rw [List.pairwise_append] at hp
   exact hp.2.2 y hy x (by simp)
  by_cases hl : legal (hd x.1) t = true
  ·cases b with
   | none =>
    rw [if_pos ⟨hl, by simp⟩]
    refine ⟨x, by simp, hl, rfl, fun y hy hly => ?_⟩
    rcases List.mem_append.1 hy with hy | hy
    ·have := h y hy; rw [hly] at this; cases this
    ·obtain rfl : y = x := by simpa using hy
     exact .inr ⟨rfl, Int.le_refl _⟩
   | some q =>
    obtain ⟨p, hp1, hp2, rfl, hp3⟩ := h
    by_cases hc : x.2 + cost (hd x.1) t < p.2 + cost (hd p.1) t
    ·rw [if_pos ⟨hl, by rintro y ⟨⟩; exact hc⟩]
     refine ⟨x, by simp, hl, rfl, fun y hy hly => ?_⟩
     rcases List.mem_append.1 hy with hy | hy
     ·have := hp3 y hy hly; omega
     ·obtain rfl : y = x := by simpa using hy
      exact .inr ⟨rfl, Int.le_refl _⟩
    ·rw [if_neg (fun h => hc (h.2 _ rfl))]
     refine ⟨p, by simp [hp1], hp2, rfl, fun y hy hly => ?_⟩
     rcases List.mem_append.1 hy with hy | hy
     ·exact hp3 y hy hly
     ·obtain rfl : y = x := by simpa using hy
      have := hlt p hp1
      omega
  ·rw [if_neg (fun h => hl h.1)]
   cases b with
   | none =>
    intro y hy
    rcases List.mem_append.1 hy with hy | hy
    ·exact h y hy
    ·obtain rfl : y = x := by simpa using hy
     simpa using hl
   | some q =>
    obtain ⟨p, hp1, hp2, rfl, hp3⟩ := h
    refine ⟨p, by simp [hp1], hp2, rfl, fun y hy hly => ?_⟩
    rcases List.mem_append.1 hy with hy | hy
    ·exact hp3 y hy hly
    ·obtain rfl : y = x := by simpa using hy
     exact absurd hly hl
def Best (p : List Int) (s : Int) : Prop :=
 Row pl legal p ∧ s = tot cost p ∧ ∀ x, Row pl legal x → hd x = hd p → x = p ∨ s < tot cost x ∨ (s = tot cost x ∧ earl p x)
structure Inv (done : List Int) (ws : List (List Int × Int)) : Prop where
 ends : ws.map (fun x => hd x.1) = -1 :: done
 best : ∀ x ∈ ws, Best pl legal cost x.1 x.2
 tail : ∀ x ∈ ws, x.1 = [] ∨ ∃ s, (x.1.tail, s) ∈ ws
 sorted : List.Pairwise (· < ·) (-1 :: done)
theorem inv_next (h1 : ∀ t, pl t = true → legal (-1) t = true) {done : List Int} {ws : List (List Int × Int)} (h : Inv pl legal cost done ws) (t : Int)
  (ht : pl t = true) (hpl : ∀ y, pl y = true → y < t → y ∈ done) (hlt : ∀ y ∈ -1 :: done, y < t) :
  ∃ q, pick legal cost t ws none = some q ∧ Inv pl legal cost (done ++ [t]) (ws ++ [q]) ∧ hd q.1 = t := by
 have hsort : List.Pairwise (fun a c : List Int × Int => hd a.1 < hd c.1) ws := by
  have := h.sorted
  rw [← h.ends, List.pairwise_map] at this
  exact this
 have hs := pick_spec legal cost t ws none [] (by simpa using hsort) (by intro y hy; cases hy)
 have hfirst : ∃ x ∈ ws, hd x.1 = -1 := by
  have : (-1 : Int) ∈ ws.map (fun x => hd x.1) := by rw [h.ends]; simp
  simpa using this
 cases hq : pick legal cost t ws none with
 | none =>
  exfalso
  rw [hq] at hs
  obtain ⟨x, hx, he⟩ := hfirst
  have := hs x (by simpa using hx)
  rw [he, h1 t ht] at this
  cases this
 | some q =>
  rw [hq] at hs
  obtain ⟨p, hp, hl, rfl, hmin⟩ := hs
  simp only [List.nil_append] at hp hmin
  refine ⟨_, rfl, ⟨?_, ?_, ?_, ?_⟩, rfl⟩
  ·rw [List.map_append, h.ends]; rfl
  ·intro x hx
   rcases List.mem_append.1 hx with hx | hx
   ·exact h.best x hx
   ·obtain rfl := List.mem_singleton.1 hx
    have hbp := h.best p hp
    have hpt : hd p.1 < t := by
     apply hlt
     have : hd p.1 ∈ ws.map (fun x => hd x.1) := List.mem_map.2 ⟨p, hp, rfl⟩
     rwa [h.ends] at this
    refine ⟨⟨ht, hpt, hl, hbp.1⟩, by simp only [tot]; rw [← hbp.2.1], fun z hz he => ?_⟩
    cases z with
    | nil =>
     simp only [hd] at he
     have := hlt (-1) (by simp)
     omega
    | cons t' r =>
     simp only [hd] at he
     subst he
     have x1 := hz.1
     have x2 := hz.2.1
     have x3 := hz.2.2.1
     have x4 := hz.2.2.2
     have hmem : hd r ∈ -1 :: done := by
      cases r with
      | nil => simp [hd]
      | cons u r => exact List.mem_cons_of_mem _ (hpl u x4.1 x2)
     rw [← h.ends] at hmem
     obtain ⟨y, hy, hye⟩ := List.mem_map.1 hmem
     have hby := h.best y hy
     have hm := hmin y hy (by rw [hye]; exact x3)
     have hr := hby.2.2 r x4 hye.symm
     rw [hye] at hm
     simp only [tot]
     have hle : y.2 ≤ tot cost r := by
      rcases hr with hr | hr | hr
      ·rw [hr, hby.2.1]; exact Int.le_refl _
      ·omega
      ·omega
     rcases hm with hm | ⟨hm, hh⟩
     ·exact .inr (.inl (by omega))
     ·rcases Int.lt_or_eq_of_le hh with hh | hh
      ·by_cases e : y.2 + cost (hd r) t' < tot cost r + cost (hd r) t'
       ·exact .inr (.inl (by omega))
       ·exact .inr (.inr ⟨by omega, .inr ⟨rfl, earl_hd hh⟩⟩)
      ·
       have hyp : y = p := by
        have hinj : ∀ (l : List (List Int × Int)), List.Pairwise (fun a c : List Int × Int => hd a.1 < hd c.1) l → ∀ a ∈ l, ∀ b ∈ l, hd a.1 = hd b.1 → a = b := by
         intro l hl
         induction hl with
         | nil => intro a ha; cases ha
         | cons h1 _ ih =>
          intro a ha b hb e
          rcases List.mem_cons.1 ha with ea | ha' <;> rcases List.mem_cons.1 hb with eb | hb'
          ·rw [ea, eb]
          ·have := h1 b hb'; rw [ea] at e; omega
          ·have := h1 a ha'; rw [eb] at e; omega
          ·exact ih a ha' b hb' e
        exact hinj ws hsort y hy p hp (by omega)
       subst hyp
       rcases hr with hr | hr | ⟨hr, hr2⟩
       ·exact .inl (by rw [hr])
       ·exact .inr (.inl (by omega))
       ·exact .inr (.inr ⟨by omega, earl_cons hr2⟩)
  ·intro x hx
   rcases List.mem_append.1 hx with hx | hx
   ·rcases h.tail x hx with h' | ⟨s, h'⟩
    ·exact .inl h'
    ·exact .inr ⟨s, List.mem_append_left _ h'⟩
   ·obtain rfl := List.mem_singleton.1 hx
    exact .inr ⟨p.2, List.mem_append_left _ hp⟩
  ·have := h.sorted
   rw [show -1 :: (done ++ [t]) = (-1 :: done) ++ [t] from rfl, List.pairwise_append]
   exact ⟨this, by simp, fun a ha b hb => by
    obtain rfl : b = t := by simpa using hb
    exact hlt a ha⟩
def waysL : List Int → List (List Int × Int) → List (List Int × Int)
 | [], ws => ws
 | t :: ts, ws => waysL ts (match pick legal cost t ws none with | some q => ws ++ [q] | none => ws)
theorem waysL_append : ∀ (a b : List Int) (ws : List (List Int × Int)), waysL legal cost (a ++ b) ws = waysL legal cost b (waysL legal cost a ws)
 | [], b, ws => rfl
 | t :: a, b, ws => by simp only [List.cons_append, waysL]; exact waysL_append a b _
theorem inv_step (h0 : ∀ t, pl t = true → 0 ≤ t) (h1 : ∀ t, pl t = true → legal (-1) t = true) {done ts : List Int} {t : Int} {ws : List (List Int × Int)} (h : Inv pl legal cost done ws)
  (hall : ∀ y, pl y = true ↔ y ∈ done ++ t :: ts) (hs : List.Pairwise (· < ·) (done ++ t :: ts)) :
  ∃ q, pick legal cost t ws none = some q ∧ Inv pl legal cost (done ++ [t]) (ws ++ [q]) ∧ hd q.1 = t := by
 have ht : pl t = true := (hall t).2 (by simp)
 rw [List.pairwise_append] at hs
 refine inv_next pl legal cost h1 h t ht (fun y hy hlt => ?_) (fun y hy => ?_)
 ·rcases List.mem_append.1 ((hall y).1 hy) with h' | h'
  ·exact h'
  ·rcases List.mem_cons.1 h' with h' | h'
   ·omega
   ·have := (List.pairwise_cons.1 hs.2.1).1 y h'
    omega
 ·rcases List.mem_cons.1 hy with rfl | hy
  ·have := h0 t ht; omega
  ·exact hs.2.2 y hy t (by simp)
theorem inv_all (h0 : ∀ t, pl t = true → 0 ≤ t) (h1 : ∀ t, pl t = true → legal (-1) t = true) : ∀ (ts done : List Int) (ws : List (List Int × Int)), Inv pl legal cost done ws →
  (∀ y, pl y = true ↔ y ∈ done ++ ts) → List.Pairwise (· < ·) (done ++ ts) → Inv pl legal cost (done ++ ts) (waysL legal cost ts ws)
 | [], done, ws, h, _, _ => by simpa [waysL] using h
 | t :: ts, done, ws, h, hall, hs => by
  obtain ⟨q, hq, hi, _⟩ := inv_step pl legal cost h0 h1 h hall hs
  simp only [waysL, hq]
  have e : done ++ t :: ts = (done ++ [t]) ++ ts := by simp
  rw [e] at hall hs ⊢
  exact inv_all h0 h1 ts (done ++ [t]) (ws ++ [q]) hi hall hs
def Fw : Int → List Int → Prop | _, [] => True | f, b :: bs => f < b ∧ pl b = true ∧ legal f b = true ∧ Fw b bs
def totF : Int → List Int → Int | _, [] => 0 | f, b :: bs => cost f b + totF b bs
theorem fw_snoc (t : Int) : ∀ (a : List Int) (f : Int), Fw pl legal f (a ++ [t]) ↔ Fw pl legal f a ∧ a.getLast?.getD f < t ∧ pl t = true ∧ legal (a.getLast?.getD f) t = true
 | [], f => by simp [Fw]
 | b :: bs, f => by
  have e : ((b :: bs).getLast?).getD f = (bs.getLast?).getD b := by
   cases bs with
   | nil => rfl
   | cons c cs => simp [List.getLast?_cons]
  rw [e, List.cons_append]
  simp only [Fw, fw_snoc t bs b]
  constructor
  ·rintro ⟨h1, h2, h3, h4, h5⟩; exact ⟨⟨h1, h2, h3, h4⟩, h5⟩
  ·rintro ⟨⟨h1, h2, h3, h4⟩, h5⟩; exact ⟨h1, h2, h3, h4, h5⟩
theorem totF_snoc (t : Int) : ∀ (a : List Int) (f : Int), totF cost f (a ++ [t]) = totF cost f a + cost (a.getLast?.getD f) t
 | [], f => by simp [totF]
 | b :: bs, f => by
  have e : ((b :: bs).getLast?).getD f = (bs.getLast?).getD b := by
   cases bs with
   | nil => rfl
   | cons c cs => simp [List.getLast?_cons]
  rw [e, List.cons_append]
  simp only [totF, totF_snoc t bs b]
  omega
theorem hd_rev (r : List Int) : r.reverse.getLast?.getD (-1) = hd r := by
 cases r with
 | nil => rfl
 | cons x r => simp [hd]
theorem row_fw : ∀ r : List Int, Row pl legal r ↔ Fw pl legal (-1) r.reverse
 | [] => by simp [Row, Fw]
 | t :: r => by
  rw [List.reverse_cons, fw_snoc, hd_rev, ← row_fw r]
  simp only [Row]
  constructor
  ·rintro ⟨h1, h2, h3, h4⟩; exact ⟨h4, h2, h1, h3⟩
  ·rintro ⟨h4, h2, h1, h3⟩; exact ⟨h1, h2, h3, h4⟩
theorem tot_fw : ∀ r : List Int, tot cost r = totF cost (-1) r.reverse
 | [] => rfl
 | t :: r => by
  rw [List.reverse_cons, totF_snoc, hd_rev, ← tot_fw r]
  rfl
end
def bestOf {α : Type} (better : α → α → Bool) : List α → α → α
 | [], b => b
 | x :: xs, b => bestOf better xs (if better x b = true then x else b)
theorem bestOf_is {α : Type} {better : α → α → Bool} {p : α} (h0 : better p p = false) : ∀ (xs : List α) (b : α), (b = p ∨ p ∈ xs) → (∀ x, x = b ∨ x ∈ xs → x ≠ p → better p x = true ∧ better x p = false) → bestOf better xs b = p
 | [], b, h, _ => by
  rcases h with h | h
  ·exact h
  ·cases h
 | x :: xs, b, h, hb => by
  refine bestOf_is h0 xs _ ?_ (fun y hy hne => ?_)
  ·rcases h with rfl | h
   ·left
    by_cases hx : x = b
    ·rw [hx, h0]; rfl
    ·rw [(hb x (.inr (by simp)) hx).2]; rfl
   ·rcases List.mem_cons.1 h with h' | h'
    ·left
     by_cases hx : b = p
     ·by_cases e : better x b = true
      ·rw [if_pos e, h']
      ·rw [if_neg e, hx]
     ·have := (hb b (.inl rfl) hx).1
      rw [← h', this]
      rfl
    ·exact .inr h'
  ·rcases hy with hy | hy
   ·apply hb y _ hne
    subst hy
    by_cases e : better x b = true
    ·rw [if_pos e]; exact .inr (by simp)
    ·rw [if_neg e]; exact .inl rfl
   ·exact hb y (.inr (List.mem_cons_of_mem _ hy)) hne
end Go.DP
namespace Go.Proofs.Ytbddfnmhhmkfkaa.Pr
set_option linter.unusedVariables false
set_option linter.unusedSimpArgs false
open Go.RowKit Go.Proofs.YtbddfnmhhmkfkaaW.PrintWords Go.Proofs.YtbddfnmhhmkfkaaW.PrintLast Go.Proofs.YtbddfnmhhmkfkaaW.PrintMore
theorem w64 {n : Int} (h0 : -9223372036854775808 ≤ n) (h1 : n ≤ 9223372036854775807) : wrap64 n = n := by unfold wrap64; omega
structure OkItem (x : S43) : Prop where
 k1 : 1 ≤ x.f0
 k4 : x.f0 ≤ 4
 w0 : 0 ≤ x.f1
 w1 : x.f1 ≤ 2000
 y0 : 0 ≤ x.f2
 y1 : x.f2 ≤ 2000
 z0 : 0 ≤ x.f3
 z1 : x.f3 ≤ 2000
theorem odd_ok {x : S43} (h : oddP x = false) : OkItem x := by
 simp only [oddP, farP, Bool.or_eq_false_iff, decide_eq_false_iff_not] at h
 obtain ⟨⟨⟨⟨h1, h2⟩, h3, h4⟩, h5, h6⟩, h7, h8⟩ := h
 exact ⟨by omega, by omega, by omega, by omega, by omega, by omega, by omega, by omega⟩
structure OkL (l : List S43) (w : Int) : Prop where
 len : l.length ≤ 16384
 item : ∀ x ∈ l, OkItem x
 w0 : 1 ≤ w
 w1 : w ≤ 1000000
theorem check_01 (l : List S43) (w : Int) : checkP l w = 0 ∨ checkP l w = 1 := by
 unfold checkP; split <;> simp
theorem check_ok {l : List S43} {w : Int} (h : checkP l w = 0) : OkL l w := by
 unfold checkP at h
 split at h
 ·cases h
 ·rename_i h1
  refine ⟨by omega, fun x hx => odd_ok ?_, by omega, by omega⟩
  cases ho : oddP x with
  | false => rfl
  | true => exact absurd (.inr (.inr (.inr (List.any_eq_true.2 ⟨x, hx, ho⟩)))) h1
def gN (x : S43) : Int := if x.f0 = 3 then 0 else x.f1
def gY (x : S43) : Int := if x.f0 = 2 then x.f2 else 0
def gZ (x : S43) : Int := if x.f0 = 2 then x.f3 else 0
def nS (g : S43 → Int) (l : List S43) (k : Nat) : Int := ((l.take k).map g).sum
theorem nS_succ (g : S43 → Int) (l : List S43) (k : Nat) (x : S43) (h : l[k]? = some x) : nS g l (k + 1) = nS g l k + g x := by
 unfold nS
 rw [List.take_add_one, h]
 simp
theorem rd_get {l : List S43} {k : Nat} (h : k < l.length) : l[k]? = some (rd_T43 l k) := by
 unfold rd_T43
 rw [Int.toNat_natCast, List.getD_eq_getElem?_getD, List.getElem?_eq_getElem h]
 rfl
theorem rd_ok {l : List S43} {w : Int} (ok : OkL l w) {k : Nat} (h : k < l.length) : OkItem (rd_T43 l k) := ok.item _ (List.mem_of_getElem? (rd_get h))
theorem nS_next {l : List S43} (g : S43 → Int) {k : Nat} (h : k < l.length) : nS g l (k + 1) = nS g l k + g (rd_T43 l k) := nS_succ g l k _ (rd_get h)
theorem g_bd {x : S43} (h : OkItem x) : (0 ≤ gN x ∧ gN x ≤ 2000) ∧ (0 ≤ gY x ∧ gY x ≤ 2000) ∧ (0 ≤ gZ x ∧ gZ x ≤ 2000) := by
 obtain ⟨a, b, c, d, e, f, g, i⟩ := h
 refine ⟨?_, ?_, ?_⟩
 ·unfold gN; split <;> omega
 ·unfold gY; split <;> omega
 ·unfold gZ; split <;> omega
theorem nS_bd {l : List S43} {w : Int} (ok : OkL l w) (g : S43 → Int) (hg : ∀ x, OkItem x → 0 ≤ g x ∧ g x ≤ 2000) : ∀ k : Nat, k ≤ l.length → 0 ≤ nS g l k ∧ nS g l k ≤ 2000 * k
 | 0, _ => by simp [nS]
 | k + 1, h => by
  have ih := nS_bd ok g hg k (by omega)
  have := hg _ (rd_ok ok (show k < l.length by omega))
  rw [nS_next g (by omega)]
  omega
theorem nS_mono {l : List S43} {w : Int} (ok : OkL l w) (g : S43 → Int) (hg : ∀ x, OkItem x → 0 ≤ g x ∧ g x ≤ 2000) (i : Nat) : ∀ d : Nat, i + d ≤ l.length → nS g l i ≤ nS g l (i + d)
 | 0, _ => Int.le_refl _
 | d + 1, h => by
  have ih := nS_mono ok g hg i d (by omega)
  have := hg _ (rd_ok ok (show i + d < l.length by omega))
  rw [show i + (d + 1) = (i + d) + 1 by omega, nS_next g (by omega)]
  omega
theorem sumAt_ok {l : List S43} {w : Int} (ok : OkL l w) : ∀ k : Nat, k ≤ l.length → sumAt l k = ⟨nS gN l k, nS gY l k, nS gZ l k⟩
 | 0, _ => rfl
 | k + 1, h => by
  have hk : k < l.length := by omega
  have ho := rd_ok ok hk
  obtain ⟨b1, b2, b3⟩ := g_bd ho
  have n1 := nS_bd ok gN (fun x hx => (g_bd hx).1) k (by omega)
  have n2 := nS_bd ok gY (fun x hx => (g_bd hx).2.1) k (by omega)
  have n3 := nS_bd ok gZ (fun x hx => (g_bd hx).2.2) k (by omega)
  have hl := ok.len
  rw [sumAt_succ l k _ (rd_get hk), sumAt_ok ok k (by omega), nS_next gN hk, nS_next gY hk, nS_next gZ hk]
  generalize rd_T43 l k = x at *
  obtain ⟨o1, o2, o3, o4, o5, o6, o7, o8⟩ := ho
  generalize nS gN l k = a1 at *
  generalize nS gY l k = a2 at *
  generalize nS gZ l k = a3 at *
  simp only [sumP, gN, gY, gZ] at *
  by_cases h2 : x.f0 = 2
  ·simp only [h2, if_true] at *
   rw [if_neg (by omega)]
   rw [w64 (by omega) (by omega), w64 (by omega) (by omega), w64 (by omega) (by omega)]
  ·by_cases h3 : x.f0 = 3
   ·simp only [h3, if_true] at *
    simp
   ·rw [if_neg h2, if_pos (by omega), if_neg h3, if_neg h2, if_neg h2, w64 (by omega) (by omega), Int.add_zero, Int.add_zero]
theorem sums_len (l : List S43) (k : Nat) : (sumsTo l k).length = k + 1 := by simp [sumsTo]
theorem rd_sums (l : List S43) (n k : Nat) (h : k ≤ n) : rd_T85 (sumsTo l n) k = sumAt l k := by
 unfold rd_T85 sumsTo
 rw [Int.toNat_natCast, List.getD_eq_getElem?_getD, List.getElem?_map, List.getElem?_range (by omega)]
 rfl
def hyphP (l : List S43) (a : Int) : Bool := decide (0 ≤ a) && decide (a < l.length) && ((rd_T43 l a).f0 == 3)
def placeP (l : List S43) (a : Int) : Bool := decide (a = l.length) || (decide (0 ≤ a) && decide (a < l.length) && (((rd_T43 l a).f0 == 3) || ((rd_T43 l a).f0 == 2)))
def legalP (l : List S43) (a b : Int) : Bool := !hyphP l a || !hyphP l b
theorem hyphen_f (l : List S43) (w : Int) (s : List S85) (a : Int) : best_flow_hyphen.f l w s a = some (hyphP l a) := by
 unfold best_flow_hyphen.f hyphP
 by_cases h1 : 0 ≤ a
 ·by_cases h2 : a < l.length
  ·simp [h1, h2]
  ·simp [h1, h2]
 ·simp [h1]
theorem place_f (l : List S43) (w : Int) (s : List S85) (a : Int) : best_flow_place.f l w s a = some (placeP l a) := by
 unfold best_flow_place.f placeP
 rw [hyphen_f]
 unfold hyphP
 by_cases h0 : a = l.length
 ·simp [h0]
 ·by_cases h1 : 0 ≤ a
  ·by_cases h2 : a < l.length
   ·by_cases h3 : (rd_T43 l a).f0 = 3
    ·simp [h0, h1, h2, h3]
    ·simp [h0, h1, h2, h3]
   ·simp [h0, h1, h2]
  ·simp [h0, h1]
theorem legal_f (l : List S43) (w : Int) (s : List S85) (a b : Int) : best_flow_legal.f l w s a b = some (legalP l a b) := by
 unfold best_flow_legal.f legalP
 rw [hyphen_f, hyphen_f]
 cases hyphP l a <;> cases hyphP l b <;> rfl
theorem place_le {l : List S43} {a : Int} (h : placeP l a = true) : 0 ≤ a ∧ a ≤ l.length := by
 simp only [placeP, Bool.or_eq_true, Bool.and_eq_true, decide_eq_true_eq] at h
 omega
theorem hyph_neg (l : List S43) {a : Int} (h : a < 0) : hyphP l a = false := by
 have : ¬ 0 ≤ a := by omega
 simp [hyphP, this]
theorem legal_neg (l : List S43) (b : Int) : legalP l (-1) b = true := by unfold legalP; rw [hyph_neg l (by omega)]; rfl
def lineN (l : List S43) (f t : Int) : Int := nS gN l t.toNat - nS gN l (f + 1).toNat + if hyphP l t = true then (rd_T43 l t).f1 else 0
def lineY (l : List S43) (f t : Int) : Int := nS gY l t.toNat - nS gY l (f + 1).toNat
def lineZ (l : List S43) (f t : Int) : Int := nS gZ l t.toNat - nS gZ l (f + 1).toNat
def quo (a b : Int) : Int := if b = 0 then 1024 else mn (a * 128 / b) 1024
def rateOf (w n y z : Int) (last : Bool) : Int := if n = w ∨ n < w ∧ last = true then 0 else if n < w then quo (w - n) y else quo (n - w) z
def rateP (l : List S43) (w f t : Int) : Int := rateOf w (lineN l f t) (lineY l f t) (lineZ l f t) (t == (l.length : Int))
def overP (l : List S43) (w f t : Int) : Bool := decide (lineN l f t - lineZ l f t > w)
def costOf (r : Int) (h o : Bool) : Int := (10 + mn (100 * r * r * r / 2097152) 10000) * (10 + mn (100 * r * r * r / 2097152) 10000) + (if h = true then 2500 else 0) + if o = true then 1000000000000 else 0
def costP (l : List S43) (w f t : Int) : Int := costOf (rateP l w f t) (hyphP l t) (overP l w f t)
theorem mn_le (a b : Int) : mn a b ≤ a ∧ mn a b ≤ b := by unfold mn; split <;> omega
theorem mn_ge {a b c : Int} (h : c ≤ a) (h' : c ≤ b) : c ≤ mn a b := by unfold mn; split <;> omega
theorem quo_bd {a b : Int} (ha : 0 ≤ a) (hb : 0 ≤ b) : 0 ≤ quo a b ∧ quo a b ≤ 1024 := by
 unfold quo
 split
 ·omega
 ·exact ⟨mn_ge (Int.ediv_nonneg (by omega) hb) (by omega), (mn_le _ _).2⟩
theorem line_bd {l : List S43} {w : Int} (ok : OkL l w) {f t : Int} (h0 : -1 ≤ f) (h1 : f < t) (h2 : t ≤ l.length) :
  (0 ≤ lineN l f t ∧ lineN l f t ≤ 32770000) ∧ (0 ≤ lineY l f t ∧ lineY l f t ≤ 32770000) ∧ (0 ≤ lineZ l f t ∧ lineZ l f t ≤ 32770000) := by
 have hl := ok.len
 obtain ⟨i, hi⟩ : ∃ i : Nat, f + 1 = i := ⟨(f + 1).toNat, by omega⟩
 obtain ⟨d, hd⟩ : ∃ d : Nat, t = ((i + d : Nat) : Int) := ⟨(t - (f + 1)).toNat, by omega⟩
 unfold lineN lineY lineZ
 rw [hi, hd]
 simp only [Int.toNat_natCast]
 have m1 := nS_mono ok gN (fun x hx => (g_bd hx).1) i d (by omega)
 have m2 := nS_mono ok gY (fun x hx => (g_bd hx).2.1) i d (by omega)
 have m3 := nS_mono ok gZ (fun x hx => (g_bd hx).2.2) i d (by omega)
 have n1 := nS_bd ok gN (fun x hx => (g_bd hx).1) (i + d) (by omega)
 have n2 := nS_bd ok gY (fun x hx => (g_bd hx).2.1) (i + d) (by omega)
 have n3 := nS_bd ok gZ (fun x hx => (g_bd hx).2.2) (i + d) (by omega)
 have p1 := nS_bd ok gN (fun x hx => (g_bd hx).1) i (by omega)
 have p2 := nS_bd ok gY (fun x hx => (g_bd hx).2.1) i (by omega)
 have p3 := nS_bd ok gZ (fun x hx => (g_bd hx).2.2) i (by omega)
 refine ⟨?_, by omega, by omega⟩
 split
 ·rename_i hh
  simp only [hyphP, Bool.and_eq_true, decide_eq_true_eq] at hh
  have := rd_ok ok (k := i + d) (by omega)
  have h3 := this.w0
  have h4 := this.w1
  omega
 ·omega
theorem rate_bd {w n y z : Int} (h0 : 0 ≤ y) (h1 : 0 ≤ z) (b : Bool) : 0 ≤ rateOf w n y z b ∧ rateOf w n y z b ≤ 1024 := by
 unfold rateOf
 split
 ·omega
 ·split
  ·exact quo_bd (by omega) h0
  ·exact quo_bd (by omega) h1
theorem rateP_bd {l : List S43} {w : Int} (ok : OkL l w) {f t : Int} (h0 : -1 ≤ f) (h1 : f < t) (h2 : t ≤ l.length) : 0 ≤ rateP l w f t ∧ rateP l w f t ≤ 1024 := by
 obtain ⟨_, b2, b3⟩ := line_bd ok h0 h1 h2
 exact rate_bd b2.1 b3.1 _
theorem cube_bd {r : Int} (h0 : 0 ≤ r) (h1 : r ≤ 1024) : (0 ≤ 100 * r ∧ 100 * r ≤ 102400) ∧ (0 ≤ 100 * r * r ∧ 100 * r * r ≤ 104857600) ∧ (0 ≤ 100 * r * r * r ∧ 100 * r * r * r ≤ 107374182400) := by
 have a1 : 0 ≤ 100 * r ∧ 100 * r ≤ 102400 := by omega
 have a2 : 0 ≤ 100 * r * r := Int.mul_nonneg a1.1 h0
 have a3 : 100 * r * r ≤ 102400 * 1024 := Int.mul_le_mul a1.2 h1 h0 (by omega)
 have a4 : 0 ≤ 100 * r * r * r := Int.mul_nonneg a2 h0
 have a5 : 100 * r * r * r ≤ 102400 * 1024 * 1024 := Int.mul_le_mul a3 h1 h0 (by omega)
 exact ⟨a1, ⟨a2, by omega⟩, ⟨a4, by omega⟩⟩
theorem bad_bd {r : Int} (h0 : 0 ≤ r) (h1 : r ≤ 1024) : 0 ≤ mn (100 * r * r * r / 2097152) 10000 ∧ mn (100 * r * r * r / 2097152) 10000 ≤ 10000 := by
 obtain ⟨_, _, b⟩ := cube_bd h0 h1
 exact ⟨mn_ge (by omega) (by omega), (mn_le _ _).2⟩
theorem sq_bd {b : Int} (h0 : 0 ≤ b) (h1 : b ≤ 10000) : 100 ≤ (10 + b) * (10 + b) ∧ (10 + b) * (10 + b) ≤ 100200100 := by
 have h2 : (10 : Int) * 10 ≤ (10 + b) * (10 + b) := Int.mul_le_mul (by omega) (by omega) (by omega) (by omega)
 have h3 : (10 + b) * (10 + b) ≤ 10010 * 10010 := Int.mul_le_mul (by omega) (by omega) (by omega) (by omega)
 omega
theorem cost_bd {r : Int} (h0 : 0 ≤ r) (h1 : r ≤ 1024) (h o : Bool) : 100 ≤ costOf r h o ∧ costOf r h o ≤ 1000100202600 := by
 obtain ⟨b0, b1⟩ := bad_bd h0 h1
 have := sq_bd b0 b1
 unfold costOf
 split <;> split <;> omega
theorem costP_bd {l : List S43} {w : Int} (ok : OkL l w) {f t : Int} (h0 : -1 ≤ f) (h1 : f < t) (h2 : t ≤ l.length) : 100 ≤ costP l w f t ∧ costP l w f t ≤ 1000100202600 := by
 have := rateP_bd ok h0 h1 h2
 exact cost_bd this.1 this.2 _ _
theorem line_spec {l : List S43} {w : Int} (ok : OkL l w) {f t : Int} (h0 : -1 ≤ f) (h1 : f < t) (h2 : t ≤ l.length) (k : Nat) :
  bfl.f (k + 2) l w (sumsTo l l.length) f t = some (lineN l f t, lineY l f t, lineZ l f t, rateP l w f t, overP l w f t) := by
 have hl := ok.len
 have hw0 := ok.w0
 have hw1 := ok.w1
 obtain ⟨i, hi⟩ : ∃ i : Nat, f + 1 = i := ⟨(f + 1).toNat, by omega⟩
 obtain ⟨j, rfl⟩ : ∃ j : Nat, t = j := ⟨t.toNat, by omega⟩
 have hii : i ≤ j := by omega
 obtain ⟨bN, bY, bZ⟩ := line_bd ok h0 h1 h2
 have n1 := nS_bd ok gN (fun x hx => (g_bd hx).1) j (by omega)
 have n2 := nS_bd ok gY (fun x hx => (g_bd hx).2.1) j (by omega)
 have n3 := nS_bd ok gZ (fun x hx => (g_bd hx).2.2) j (by omega)
 have p1 := nS_bd ok gN (fun x hx => (g_bd hx).1) i (by omega)
 have p2 := nS_bd ok gY (fun x hx => (g_bd hx).2.1) i (by omega)
 have p3 := nS_bd ok gZ (fun x hx => (g_bd hx).2.2) i (by omega)
 have hrate := rateP_bd ok h0 h1 h2
 unfold bfl.f best_sums_less.f
 rw [if_pos (by omega), if_pos (by rw [sums_len]; omega), w64 (n := f + 1) (by omega) (by omega), hi, if_pos (by omega), if_pos (by rw [sums_len]; omega)]
 rw [rd_sums l l.length j (by omega), rd_sums l l.length i (by omega), sumAt_ok ok j (by omega), sumAt_ok ok i (by omega)]
 simp only [Option.bind_some, hyphen_f]
 have tail : ∀ n y z : Int, (0 ≤ n ∧ n ≤ 32770000) → (0 ≤ y ∧ y ≤ 32770000) → (0 ≤ z ∧ z ≤ 32770000) →
   bfl.j0 (k + 2) j l w (sumsTo l l.length) n y z 0 false = some (n, y, z, rateOf w n y z ((j : Int) == (l.length : Int)), decide (n - z > w)) := by
  intro n y z hn hy hz
  simp only [bfl.j0]
  have e1 : wrap64 (w - n) = w - n := w64 (by omega) (by omega)
  have e2 : wrap64 (-(w - n)) = n - w := by rw [w64 (by omega) (by omega)]; omega
  have e3 : wrap64 (n - z) = n - z := w64 (by omega) (by omega)
  have fin : ∀ g r : Int, (0 ≤ g ∧ g ≤ 32770000) → 0 ≤ r → bfl.j1 (k + 1) g r l w (sumsTo l l.length) n y z 0 false = some (n, y, z, (if g = 0 then 0 else quo g r), decide (n - z > w)) := by
   intro g r hg hr
   simp only [bfl.j1]
   rw [e3]
   by_cases h : g = 0
   ·rw [if_pos h, if_pos h]
   ·rw [if_neg h, if_neg h]
    unfold quo
    by_cases h' : r = 0
    ·rw [if_pos h', if_pos h']
    ·rw [if_neg h', if_neg h', w64 (n := g * 128) (by omega) (by omega)]
     have q1 : (g * 128).tdiv r = g * 128 / r := Int.tdiv_eq_ediv_of_nonneg (by omega)
     have q2 : 0 ≤ g * 128 / r := Int.ediv_nonneg (by omega) hr
     have q3 : g * 128 / r ≤ g * 128 := Int.ediv_le_self _ (by omega)
     rw [q1, w64 (by omega) (by omega)]
  rw [e1]
  by_cases c1 : w - n < 0
  ·rw [if_pos c1, e2, fin _ _ (by omega) hz.1]
   unfold rateOf
   rw [if_neg (by omega), if_neg (by omega), if_neg (by omega)]
  ·rw [if_neg c1]
   by_cases c2 : (j : Int) = l.length
   ·rw [if_pos c2, fin _ _ (by omega) hy.1]
    unfold rateOf
    rw [if_pos rfl, if_pos (by simp [c2]; omega)]
   ·rw [if_neg c2, fin _ _ (by omega) hy.1]
    unfold rateOf
    by_cases c3 : w - n = 0
    ·rw [if_pos c3, if_pos (by omega)]
    ·rw [if_neg c3, if_neg (by simp [c2]; omega), if_pos (by omega)]
 have r0 := tail (lineN l f j) (lineY l f j) (lineZ l f j) bN bY bZ
 unfold rateP overP
 rw [← r0]
 have eY : wrap64 (nS gY l j - nS gY l i) = lineY l f j := by
  unfold lineY; rw [hi]; simp only [Int.toNat_natCast]; exact w64 (by omega) (by omega)
 have eZ : wrap64 (nS gZ l j - nS gZ l i) = lineZ l f j := by
  unfold lineZ; rw [hi]; simp only [Int.toNat_natCast]; exact w64 (by omega) (by omega)
 rw [eY, eZ]
 unfold lineN at bN ⊢
 rw [hi] at bN ⊢
 simp only [Int.toNat_natCast] at bN ⊢
 rw [w64 (n := nS gN l j - nS gN l i) (by omega) (by omega)]
 by_cases hh : hyphP l j = true
 ·have hj : (j : Int) < l.length := by
   simp only [hyphP, Bool.and_eq_true, decide_eq_true_eq] at hh
   exact hh.1.2
  rw [if_pos hh] at bN ⊢
  rw [if_pos hh, if_pos hj, w64 (by omega) (by omega)]
 ·rw [if_neg hh] at bN ⊢
  rw [if_neg hh, Int.add_zero]
theorem bad_spec {r : Int} (h0 : 0 ≤ r) (h1 : r ≤ 1024) (h o : Bool) :
  (if h = true then (if o = true then (some (wrap64 ((wrap64 ((wrap64 ((wrap64 (10 + (mn ((wrap64 ((wrap64 ((wrap64 (100 * r)) * r)) * r)) / 2097152) 10000))) * (wrap64 (10 + (mn ((wrap64 ((wrap64 ((wrap64 (100 * r)) * r)) * r)) / 2097152) 10000))))) + 2500)) + 1000000000000))) else (some (wrap64 ((wrap64 ((wrap64 (10 + (mn ((wrap64 ((wrap64 ((wrap64 (100 * r)) * r)) * r)) / 2097152) 10000))) * (wrap64 (10 + (mn ((wrap64 ((wrap64 ((wrap64 (100 * r)) * r)) * r)) / 2097152) 10000))))) + 2500)))) else (if o = true then (some (wrap64 ((wrap64 ((wrap64 (10 + (mn ((wrap64 ((wrap64 ((wrap64 (100 * r)) * r)) * r)) / 2097152) 10000))) * (wrap64 (10 + (mn ((wrap64 ((wrap64 ((wrap64 (100 * r)) * r)) * r)) / 2097152) 10000))))) + 1000000000000))) else (some (wrap64 ((wrap64 (10 + (mn ((wrap64 ((wrap64 ((wrap64 (100 * r)) * r)) * r)) / 2097152) 10000))) * (wrap64 (10 + (mn ((wrap64 ((wrap64 ((wrap64 (100 * r)) * r)) * r)) / 2097152) 10000)))))))) = some (costOf r h o) := by
 obtain ⟨a1, a2, a3⟩ := cube_bd h0 h1
 obtain ⟨b0, b1⟩ := bad_bd h0 h1
 have hs := sq_bd b0 b1
 rw [w64 (n := 100 * r) (by omega) (by omega), w64 (n := 100 * r * r) (by omega) (by omega), w64 (n := 100 * r * r * r) (by omega) (by omega)]
 unfold costOf
 generalize mn (100 * r * r * r / 2097152) 10000 = b at *
 rw [w64 (n := 10 + b) (by omega) (by omega)]
 generalize (10 + b) * (10 + b) = q at *
 rw [w64 (n := q) (by omega) (by omega), w64 (n := q + 2500) (by omega) (by omega), w64 (n := q + 2500 + 1000000000000) (by omega) (by omega), w64 (n := q + 1000000000000) (by omega) (by omega)]
 cases h <;> cases o <;> simp
theorem demerits_spec {l : List S43} {w : Int} (ok : OkL l w) {f t : Int} (h0 : -1 ≤ f) (h1 : f < t) (h2 : t ≤ l.length) (k : Nat) :
  best_flow_demerits.f (k + 2) l w (sumsTo l l.length) f t = some (costP l w f t) := by
 have hr := rateP_bd ok h0 h1 h2
 unfold best_flow_demerits.f
 rw [line_spec ok h0 h1 h2 k, hyphen_f]
 simp only [Option.bind_some]
 exact bad_spec hr.1 hr.2 _ _
def Br (l : List S43) : Int → List Int → Prop := Go.DP.Fw (placeP l) (legalP l)
def TotP (l : List S43) (w : Int) : Int → List Int → Int := Go.DP.totF (costP l w)
def legalB (l : List S43) : Int → List Int → Bool
 | f, [] => f == (l.length : Int)
 | f, b :: bs => decide (f < b) && placeP l b && legalP l f b && legalB l b bs
theorem tot_bd {l : List S43} {w : Int} (ok : OkL l w) : ∀ (bs : List Int) (f : Int), -1 ≤ f → Br l f bs → 100 * bs.length ≤ TotP l w f bs ∧ TotP l w f bs ≤ 1000100202600 * bs.length
 | [], f, _, _ => by simp [TotP, Go.DP.totF]
 | b :: bs, f, h0, h => by
  obtain ⟨h1, h2, h3, h4⟩ := h
  have hp := place_le h2
  have ih := tot_bd ok bs b (by omega) h4
  have hc := costP_bd ok h0 h1 hp.2
  unfold TotP at *
  simp only [Go.DP.totF, List.length_cons]
  omega
theorem rd_drop {bs : List Int} {i : Nat} (h : i < bs.length) : bs.drop i = rd bs i :: bs.drop (i + 1) := by
 rw [List.drop_eq_getElem_cons h]
 congr 1
 unfold rd
 rw [Int.toNat_natCast, List.getD_eq_getElem?_getD, List.getElem?_eq_getElem h]
 rfl
def legalL (l : List S43) (bs : List Int) : Bool := decide (0 < bs.length) && legalB l (-1) bs
theorem legalB_iff (l : List S43) : ∀ (bs : List Int) (f : Int), legalB l f bs = true ↔ Br l f bs ∧ bs.getLast?.getD f = l.length
 | [], f => by simp [legalB, Br, Go.DP.Fw]
 | b :: bs, f => by
  have e : ((b :: bs).getLast?).getD f = (bs.getLast?).getD b := by
   cases bs with
   | nil => rfl
   | cons c cs => simp [List.getLast?_cons]
  rw [e]
  simp only [legalB, Bool.and_eq_true, decide_eq_true_eq, legalB_iff l bs b]
  simp only [Br, Go.DP.Fw]
  constructor
  ·rintro ⟨⟨⟨h1, h2⟩, h3⟩, h4, h5⟩; exact ⟨⟨h1, h2, h3, h4⟩, h5⟩
  ·rintro ⟨⟨h1, h2, h3, h4⟩, h5⟩; exact ⟨⟨⟨h1, h2⟩, h3⟩, h4, h5⟩
def ratioP (l : List S43) (w f t : Int) : Int × Int × Int :=
 if checkP l w = 0 ∧ (f = -1 ∨ (f ≠ l.length ∧ placeP l f = true)) ∧ placeP l t = true ∧ f < t then (lineN l f t, rateP l w f t, 0) else (0, 0, 1)
def demeritsP (l : List S43) (w : Int) (bs : List Int) : Int × Int := if checkP l w = 0 ∧ legalL l bs = true then (TotP l w (-1) bs, 0) else (0, 1)
def candB (l : List S43) (o : Nat) : Bool := o == l.length || (decide (o < l.length) && ((rd_T43 l o).f0 == 2))
theorem cand_end (l : List S43) : candB l l.length = true := by simp [candB]
theorem cand_glue {l : List S43} {o : Nat} (h : o < l.length) : candB l o = ((rd_T43 l o).f0 == 2) := by
 unfold candB
 rw [beq_eq_false_iff_ne.2 (by omega), decide_eq_true h]
 simp
theorem wide_f (x : S43) : lines_wide.f x.f0 x.f1 x.f2 x.f3 x.f4 = some (gN x) := by
 unfold lines_wide.f gN
 split <;> rfl
structure EndS (l : List S43) (w : Int) (f o : Nat) : Prop where
 le : f ≤ o
 hi : o ≤ l.length
 cand : candB l o = true
 fit : nS gN l o - nS gN l f ≤ w ∨ ∀ c, f ≤ c → c < o → candB l c = false
 more : nS gN l o - nS gN l f ≤ w → o < l.length → ∃ c, o < c ∧ c ≤ l.length ∧ candB l c = true ∧ (∀ c', o < c' → c' < c → candB l c' = false) ∧ w < nS gN l c - nS gN l f
def EndI (l : List S43) (w : Int) (f at_ : Nat) (out : Int) : Prop :=
 (out = -1 ∧ ∀ c, f ≤ c → c < at_ → candB l c = false) ∨
 ∃ o : Nat, out = o ∧ f ≤ o ∧ o < at_ ∧ candB l o = true ∧ nS gN l o - nS gN l f ≤ w ∧ ∀ c, o < c → c < at_ → candB l c = false
theorem nat_bd {l : List S43} {w : Int} (ok : OkL l w) {f o : Nat} (h : f ≤ o) (ho : o ≤ l.length) : 0 ≤ nS gN l o - nS gN l f ∧ nS gN l o - nS gN l f ≤ 32768000 := by
 have hl := ok.len
 have h1 := nS_bd ok gN (fun x hx => (g_bd hx).1) o ho
 have h2 := nS_bd ok gN (fun x hx => (g_bd hx).1) f (by omega)
 have h3 := nS_mono ok gN (fun x hx => (g_bd hx).1) f (o - f) (by omega)
 rw [show f + (o - f) = o by omega] at h3
 omega
theorem end_l0 {l : List S43} {w : Int} (ok : OkL l w) (f : Nat) : ∀ (d at_ : Nat) (out : Int), at_ + d = l.length + 1 → f ≤ at_ → f ≤ l.length → EndI l w f at_ out →
  ∃ o : Nat, Ev (fun k => lines_end.l0 k l w out (if at_ ≤ l.length then nS gN l at_ - nS gN l f else nS gN l l.length - nS gN l f) at_) (o : Int) ∧ EndS l w f o
 | 0, at_, out, h, hf, hfl, hI => by
  have hl := ok.len
  obtain ⟨o, rfl, h1, h2, h3, h4, h5⟩ : ∃ o : Nat, out = o ∧ f ≤ o ∧ o < at_ ∧ candB l o = true ∧ nS gN l o - nS gN l f ≤ w ∧ ∀ c, o < c → c < at_ → candB l c = false := by
   rcases hI with ⟨_, h1⟩ | h1
   ·have := h1 l.length hfl (by omega)
    rw [cand_end] at this
    cases this
   ·exact h1
  refine ⟨o, Ev.step (fun k => by rw [lines_end.l0.eq_2, if_neg (by omega)]) (Ev.now _), h1, by omega, h3, .inl h4, fun _ ho => ?_⟩
  have := h5 l.length ho (by omega)
  rw [cand_end] at this
  cases this
 | d + 1, at_, out, h, hf, hfl, hI => by
  have hl := ok.len
  have hle : at_ ≤ l.length := by omega
  have bd := nat_bd ok hf hle
  have e : wrap64 ((at_ : Int) + 1) = ((at_ + 1 : Nat) : Int) := by rw [w64 (by omega) (by omega)]; omega
  rw [if_pos hle]
  have pass : ∀ (out' : Int), EndI l w f (at_ + 1) out' → ∃ o : Nat, Ev (fun k => if (at_ : Int) < (l.length : Int) then (if (0 : Int) ≤ at_ then (lines_wide.f (rd_T43 l at_).f0 (rd_T43 l at_).f1 (rd_T43 l at_).f2 (rd_T43 l at_).f3 (rd_T43 l at_).f4).bind fun t => lines_end.l0 k l w out' (wrap64 (nS gN l at_ - nS gN l f + t)) (wrap64 ((at_ : Int) + 1)) else none) else lines_end.l0 k l w out' (nS gN l at_ - nS gN l f) (wrap64 ((at_ : Int) + 1))) (o : Int) ∧ EndS l w f o := fun out' hI' => by
   obtain ⟨o, ho, hS⟩ := end_l0 ok f d (at_ + 1) out' (by omega) (by omega) hfl hI'
   refine ⟨o, Ev.congr (fun k => ?_) ho, hS⟩
   rw [e]
   by_cases hlt : at_ < l.length
   ·have bd2 := nat_bd ok (show f ≤ at_ + 1 by omega) (show at_ + 1 ≤ l.length by omega)
    have hn := nS_next (l := l) gN hlt
    rw [if_pos (by omega), if_pos (by omega), wide_f, Option.bind_some, if_pos (show at_ + 1 ≤ l.length by omega), show nS gN l (at_ + 1) - nS gN l f = nS gN l at_ - nS gN l f + gN (rd_T43 l at_) by omega, w64 (by omega) (by omega)]
   ·obtain rfl : at_ = l.length := by omega
    rw [if_neg (by omega), if_neg (by omega)]
  have keep : ∀ out', EndI l w f at_ out' → candB l at_ = false → EndI l w f (at_ + 1) out' := fun out' hI' hc => by
   rcases hI' with ⟨h1, h2⟩ | ⟨o, h1, h2, h3, h4, h5, h6⟩
   ·refine .inl ⟨h1, fun c h3 h4 => ?_⟩
    rcases Nat.lt_or_ge c at_ with h5 | h5
    ·exact h2 c h3 h5
    ·obtain rfl : c = at_ := by omega
     exact hc
   ·refine .inr ⟨o, h1, h2, by omega, h4, h5, fun c h7 h8 => ?_⟩
    rcases Nat.lt_or_ge c at_ with h9 | h9
    ·exact h6 c h7 h9
    ·obtain rfl : c = at_ := by omega
     exact hc
  cases hc : candB l at_ with
  | false =>
   obtain ⟨o, ho, hS⟩ := pass out (keep out hI hc)
   refine ⟨o, ?_, hS⟩
   have hlt : at_ < l.length := by
    rcases Nat.lt_or_ge at_ l.length with h1 | h1
    ·exact h1
    ·obtain rfl : at_ = l.length := by omega
     rw [cand_end] at hc
     cases hc
   rw [cand_glue hlt] at hc
   refine Ev.step (f := fun k => lines_end.j1 k l w out (nS gN l at_ - nS gN l f) at_ false) (fun k => ?_) (Ev.step (fun k => ?_) ho)
   ·rw [lines_end.l0.eq_2, if_pos (by omega), if_neg (by omega), if_pos (by omega), if_pos (by omega), hc]
   ·rw [lines_end.j1.eq_2, if_neg (by simp)]
  | true =>
   have toj : ∀ (o : Nat), Ev (fun k => lines_end.j1 k l w out (nS gN l at_ - nS gN l f) at_ true) (o : Int) → Ev (fun k => lines_end.l0 k l w out (nS gN l at_ - nS gN l f) at_) (o : Int) := fun o ho => by
    refine Ev.step (fun k => ?_) ho
    rw [lines_end.l0.eq_2, if_pos (by omega)]
    by_cases he : at_ = l.length
    ·rw [if_pos (by omega)]
    ·rw [if_neg (by omega), if_pos (by omega), if_pos (by omega), ← cand_glue (by omega), hc]
   by_cases hn : nS gN l at_ - nS gN l f > w
   ·rcases hI with ⟨rfl, h2⟩ | ⟨o, rfl, h2, h3, h4, h5, h6⟩
    ·refine ⟨at_, toj _ (Ev.step (f := fun k => lines_end.j2 k l w (-1) (nS gN l at_ - nS gN l f) at_ false) (fun k => ?_) (Ev.step (fun k => ?_) (Ev.now _))), hf, hle, hc, .inr h2, fun h3 => by omega⟩
     ·rw [lines_end.j1.eq_2, if_pos rfl, if_neg (by omega)]
     ·rw [lines_end.j2.eq_2, if_neg (by simp), if_pos hn]
    ·refine ⟨o, toj _ (Ev.step (f := fun k => lines_end.j2 k l w o (nS gN l at_ - nS gN l f) at_ true) (fun k => ?_) (Ev.step (fun k => ?_) (Ev.now _))), h2, by omega, h4, .inl h5, fun _ _ => ⟨at_, h3, hle, hc, h6, hn⟩⟩
     ·rw [lines_end.j1.eq_2, if_pos rfl, if_pos (by omega), decide_eq_true hn]
     ·rw [lines_end.j2.eq_2, if_pos rfl]
   ·obtain ⟨o, ho, hS⟩ := pass (at_ : Int) (.inr ⟨at_, rfl, hf, by omega, hc, by omega, fun c h1 h2 => by omega⟩)
    refine ⟨o, toj _ (Ev.step (f := fun k => lines_end.j2 k l w out (nS gN l at_ - nS gN l f) at_ false) (fun k => ?_) (Ev.step (fun k => ?_) ho)), hS⟩
    ·rw [lines_end.j1.eq_2, if_pos rfl, decide_eq_false hn]
     split <;> rfl
    ·rw [lines_end.j2.eq_2, if_neg (by simp), if_neg hn]
theorem end_ev {l : List S43} {w : Int} (ok : OkL l w) (f : Nat) (hf : f ≤ l.length) : ∃ o : Nat, Ev (fun k => lines_end.f k l w f) (o : Int) ∧ EndS l w f o := by
 obtain ⟨o, ho, hS⟩ := end_l0 ok f (l.length + 1 - f) f (-1) (by omega) (Nat.le_refl _) hf (.inl ⟨rfl, fun c h1 h2 => by omega⟩)
 rw [if_pos hf, Int.sub_self] at ho
 exact ⟨o, ho, hS⟩
inductive FillB (l : List S43) (w : Int) : Nat → List Int → Prop where
 | last (f : Nat) : EndS l w f l.length → FillB l w f [(l.length : Int)]
 | next (f o : Nat) (rest : List Int) : EndS l w f o → o < l.length → FillB l w (o + 1) rest → FillB l w f ((o : Int) :: rest)
theorem rd_last (xs : List Int) (x : Int) : rd (xs ++ [x]) ((xs.length : Int)) = x := by
 unfold rd
 rw [Int.toNat_natCast, List.getD_eq_getElem?_getD]
 simp
theorem fill_one {l : List S43} {w : Int} (out : List Int) (f : Nat) (hol : out.length ≤ 1000000) (o : Nat) (he : Ev (fun k => lines_end.f k l w f) (o : Int)) (ho : o ≤ 100000) {r : List Int × Int}
  (h : Ev (fun k => lines_Fill.l0 k l w (out ++ [(o : Int)]) ((o + 1 : Nat) : Int)) r) :
  Ev (fun k => (lines_end.f k l w f).bind fun t435 => (if out.length < 17592186044416 then ((some (out ++ [t435] : List Int)).bind fun y436 => (if 0 ≤ (wrap64 ((y436.length : Int) - 1)) then (if (wrap64 ((y436.length : Int) - 1)) < (y436.length : Int) then (lines_Fill.l0 k l w y436 (wrap64 ((rd y436 (wrap64 ((y436.length : Int) - 1))) + 1))) else (none)) else (none))) else (none))) r := by
 refine Ev.bind he (Ev.congr (fun k => ?_) h)
 have e1 : wrap64 (((out ++ [(o : Int)]).length : Int) - 1) = out.length := by
  rw [List.length_append, List.length_singleton, w64 (by omega) (by omega)]
  omega
 rw [if_pos (by omega), Option.bind_some, e1, if_pos (by omega), if_pos (by rw [List.length_append, List.length_singleton]; omega), rd_last, w64 (by omega) (by omega)]
 rfl
theorem fill_l0 {l : List S43} {w : Int} (ok : OkL l w) : ∀ (d f : Nat) (out : List Int), f + d = l.length → out.length ≤ f → (out = [] ∨ ∃ x, rd out ((out.length : Int) - 1) = x ∧ x < l.length) →
  ∃ rest, Ev (fun k => lines_Fill.l0 k l w out f) (out ++ rest, 0) ∧ FillB l w f rest := by
 intro d
 induction d using Nat.strongRecOn with
 | _ d ih =>
  intro f out hd hol hout
  have hl := ok.len
  obtain ⟨o, he, hS⟩ := end_ev ok f (by omega)
  have h1 := hS.le
  have h2 := hS.hi
  have stop : o = l.length → Ev (fun k => lines_Fill.l0 k l w (out ++ [(o : Int)]) ((o + 1 : Nat) : Int)) (out ++ [(o : Int)], 0) := fun heq => by
   have e1 : wrap64 (((out ++ [(o : Int)]).length : Int) - 1) = out.length := by
    rw [List.length_append, List.length_singleton, w64 (by omega) (by omega)]
    omega
   refine Ev.step (fun k => ?_) (Ev.now _)
   rw [lines_Fill.l0.eq_2, if_neg (by simp; omega), e1, if_pos (by omega), if_pos (by rw [List.length_append, List.length_singleton]; omega), rd_last, if_neg (by omega)]
  have tail : ∃ rest, Ev (fun k => lines_Fill.l0 k l w (out ++ [(o : Int)]) ((o + 1 : Nat) : Int)) (out ++ (o : Int) :: rest, 0) ∧ FillB l w f ((o : Int) :: rest) := by
   by_cases heq : o = l.length
   ·subst heq
    exact ⟨[], stop rfl, .last f hS⟩
   ·obtain ⟨rest, hr, hB⟩ := ih (l.length - (o + 1)) (by omega) (o + 1) (out ++ [(o : Int)]) (by omega) (by simp; omega) (.inr ⟨o, by
     rw [List.length_append]
     simp only [List.length_singleton, Int.natCast_add, Int.cast_ofNat_Int, Int.add_sub_cancel]
     exact rd_last out o, by omega⟩)
    refine ⟨rest, ?_, .next f o rest hS (by omega) hB⟩
    rw [List.append_assoc] at hr
    exact hr
  obtain ⟨rest, ht, hB⟩ := tail
  refine ⟨(o : Int) :: rest, ?_, hB⟩
  have h3 := fill_one out f (by omega) o he (by omega) ht
  refine Ev.step (fun k => ?_) h3
  rw [lines_Fill.l0.eq_2]
  rcases hout with rfl | ⟨x, hx, hxl⟩
  ·exact if_pos rfl
  ·by_cases h0 : out = []
   ·subst h0
    exact if_pos rfl
   ·have hp : 0 < out.length := List.length_pos_iff.2 h0
    rw [if_neg (by omega), w64 (n := (out.length : Int) - 1) (by omega) (by omega), if_pos (by omega), if_pos (by omega), hx, if_pos hxl]
theorem fill_ev {l : List S43} {w : Int} (h0 : checkP l w = 0) : ∃ out, Ev (fun k => lines_Fill.f k l w) (out, 0) ∧ FillB l w 0 out := by
 have ok := check_ok h0
 obtain ⟨out, ho, hB⟩ := fill_l0 ok l.length 0 [] (by omega) (by simp) (.inl rfl)
 refine ⟨out, ?_, hB⟩
 refine Ev.congr (fun k => ?_) ho
 unfold lines_Fill.f best_Check.f
 rw [Option.bind_some, if_pos h0]
 rfl
theorem fill_bad {l : List S43} {w : Int} (h0 : ¬ checkP l w = 0) : Ev (fun k => lines_Fill.f k l w) ([], checkP l w) := by
 refine Ev.congr (fun k => ?_) (Ev.now _)
 unfold lines_Fill.f best_Check.f
 rw [Option.bind_some, if_neg h0]
end Go.Proofs.Ytbddfnmhhmkfkaa.Pr
