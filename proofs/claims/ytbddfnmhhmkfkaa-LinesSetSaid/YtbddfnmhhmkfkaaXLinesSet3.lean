/- Texts of this seat, one behind the other. -/
import Derived.RangeFuncBox
import Derived.Maps.AppendAt
import Derived.Test.YtbddfnmhhmkfkaaXLinesSet1
import Derived.Test.YtbddfnmhhmkfkaaXLinesSet2
set_option linter.unusedVariables false
set_option linter.unusedSimpArgs false
namespace Go.Proofs.Ytbddfnmhhmkfkaa.Pr
open Go.RowKit Go.Proofs.YtbddfnmhhmkfkaaW.PrintWords Go.Proofs.YtbddfnmhhmkfkaaW.PrintLast Go.Proofs.YtbddfnmhhmkfkaaW.PrintMore
attribute [local go_sem] max2_int min2_int max_two min_two max_three min_three max_four min_four
def lines_wide.f (a0_0 : Int) (a0_1 : Int) (a0_2 : Int) (a0_3 : Int) (a0_4 : Int) : Option (Int) := if a0_0 = 3 then (some 0) else (some a0_1)
set_option maxHeartbeats 8000000 in
set_option maxRecDepth 100000 in
theorem lines_wide.calls (a0_0 : Int) (a0_1 : Int) (a0_2 : Int) (a0_3 : Int) (a0_4 : Int) (r : Int) (w : World) (h : lines_wide.f a0_0 a0_1 a0_2 a0_3 a0_4 = some r) :
  Calls Try.prog 81 #[.agg #[.int .i64 a0_0, .int .i64 a0_1, .int .i64 a0_2, .int .i64 a0_3, .int .i64 a0_4]] w fun e w' => e = .returned (.int .i64 r) ∧ Below w.heap.size w w' := by
 have hu43 := Try.underlying43
 have HB := Aside0.mk (Below.refl w.heap.size w)
 have H : (if a0_0 = 3 then (some 0) else (some a0_1)) = some r := h
 clear h
 by_cases c2 : a0_0 = 3
 ·rw [if_pos c2] at H
  have c2b0 : (a0_0 == 3) = true := beq_iff_eq.mpr c2
  have c2b1 : (a0_0 != 3) = false := bne_eq_false_iff_eq.mpr c2
  clear c2
  obtain rfl := Option.some.inj H
  go_enter Try.func81, Try.ntmps81
  go_wp2_with (first | ((with_reducible refine gate_dst (N := 1) rfl ?_); refine box_event ?hg (N := 1) ?hd (cs := #[.int .i64 a0_0, .int .i64 a0_1, .int .i64 a0_2, .int .i64 a0_3, .int .i64 a0_4]) (t := 43) ?hr ?_; (case hd => rfl); (case hg => rfl); (case hr => first | (go_simp; done) | (go_simp; rfl)); intro gb389 hg w3 hbox hb; have n0_ := Aside0.mk (below_step (by repeat (with_reducible first | exact HB.out | apply below_alloc | apply pw_below_drewN | apply below_drew1)) hb); have n1_ := Aside0.mk (hbox); have n2_ := Aside0.mk ((by rw [hg]; exact (below_size (by repeat (with_reducible first | exact HB.out | apply below_alloc | apply pw_below_drewN | apply below_drew1))) : w.heap.size ≤ gb389)); have n3_ := n2_; clear HB; have HB := n0_; have BK389 := n1_; have GW389 := n2_; have GE389 := n3_; clear n0_ n1_ n2_ n3_; clear hb hbox hg; obtain ⟨hcz4_0, hcz4_1, hcz4_2, hcz4_3, hcz4_4, hfz4_0, hfz4_1, hfz4_2, hfz4_3, hfz4_4⟩ := blks5 BK389.out))
  go_ret
  exact ⟨by first | rfl | (simp [errW_none, errW_some] <;> rfl) | (simp [*, errW_none, errW_some] <;> rfl), by repeat (with_reducible first | exact HB.out | apply below_alloc | apply pw_below_drewN | apply below_drew1 | refine below_set ?_ GE389.out)⟩
 ·rw [if_neg c2] at H
  have c2b0 : (a0_0 == 3) = false := beq_eq_false_iff_ne.mpr c2
  have c2b1 : (a0_0 != 3) = true := bne_iff_ne.mpr c2
  obtain rfl := Option.some.inj H
  go_enter Try.func81, Try.ntmps81
  go_wp2_with (first | ((with_reducible refine gate_dst (N := 1) rfl ?_); refine box_event ?hg (N := 1) ?hd (cs := #[.int .i64 a0_0, .int .i64 a0_1, .int .i64 a0_2, .int .i64 a0_3, .int .i64 a0_4]) (t := 43) ?hr ?_; (case hd => rfl); (case hg => rfl); (case hr => first | (go_simp; done) | (go_simp; rfl)); intro gb389 hg w5 hbox hb; have n0_ := Aside0.mk (below_step (by repeat (with_reducible first | exact HB.out | apply below_alloc | apply pw_below_drewN | apply below_drew1)) hb); have n1_ := Aside0.mk (hbox); have n2_ := Aside0.mk ((by rw [hg]; exact (below_size (by repeat (with_reducible first | exact HB.out | apply below_alloc | apply pw_below_drewN | apply below_drew1))) : w.heap.size ≤ gb389)); have n3_ := n2_; clear HB; have HB := n0_; have BK389 := n1_; have GW389 := n2_; have GE389 := n3_; clear n0_ n1_ n2_ n3_; clear hb hbox hg; obtain ⟨hcz6_0, hcz6_1, hcz6_2, hcz6_3, hcz6_4, hfz6_0, hfz6_1, hfz6_2, hfz6_3, hfz6_4⟩ := blks5 BK389.out))
  go_ret
  exact ⟨by first | rfl | (simp [errW_none, errW_some] <;> rfl) | (simp [*, errW_none, errW_some] <;> rfl), by repeat (with_reducible first | exact HB.out | apply below_alloc | apply pw_below_drewN | apply below_drew1 | refine below_set ?_ GE389.out)⟩
def lines_grows.f (a0_0 : Int) (a0_1 : Int) (a0_2 : Int) (a0_3 : Int) (a0_4 : Int) : Option (Int) := if a0_0 = 2 then (some a0_2) else (some 0)
set_option maxHeartbeats 8000000 in
set_option maxRecDepth 100000 in
theorem lines_grows.calls (a0_0 : Int) (a0_1 : Int) (a0_2 : Int) (a0_3 : Int) (a0_4 : Int) (r : Int) (w : World) (h : lines_grows.f a0_0 a0_1 a0_2 a0_3 a0_4 = some r) :
  Calls Try.prog 82 #[.agg #[.int .i64 a0_0, .int .i64 a0_1, .int .i64 a0_2, .int .i64 a0_3, .int .i64 a0_4]] w fun e w' => e = .returned (.int .i64 r) ∧ Below w.heap.size w w' := by
 have hu43 := Try.underlying43
 have HB := Aside0.mk (Below.refl w.heap.size w)
 have H : (if a0_0 = 2 then (some a0_2) else (some 0)) = some r := h
 clear h
 by_cases c2 : a0_0 = 2
 ·rw [if_pos c2] at H
  have c2b0 : (a0_0 == 2) = true := beq_iff_eq.mpr c2
  have c2b1 : (a0_0 != 2) = false := bne_eq_false_iff_eq.mpr c2
  clear c2
  obtain rfl := Option.some.inj H
  go_enter Try.func82, Try.ntmps82
  go_wp2_with (first | ((with_reducible refine gate_dst (N := 1) rfl ?_); refine box_event ?hg (N := 1) ?hd (cs := #[.int .i64 a0_0, .int .i64 a0_1, .int .i64 a0_2, .int .i64 a0_3, .int .i64 a0_4]) (t := 43) ?hr ?_; (case hd => rfl); (case hg => rfl); (case hr => first | (go_simp; done) | (go_simp; rfl)); intro gb390 hg w3 hbox hb; have n0_ := Aside0.mk (below_step (by repeat (with_reducible first | exact HB.out | apply below_alloc | apply pw_below_drewN | apply below_drew1)) hb); have n1_ := Aside0.mk (hbox); have n2_ := Aside0.mk ((by rw [hg]; exact (below_size (by repeat (with_reducible first | exact HB.out | apply below_alloc | apply pw_below_drewN | apply below_drew1))) : w.heap.size ≤ gb390)); have n3_ := n2_; clear HB; have HB := n0_; have BK390 := n1_; have GW390 := n2_; have GE390 := n3_; clear n0_ n1_ n2_ n3_; clear hb hbox hg; obtain ⟨hcz4_0, hcz4_1, hcz4_2, hcz4_3, hcz4_4, hfz4_0, hfz4_1, hfz4_2, hfz4_3, hfz4_4⟩ := blks5 BK390.out))
  go_ret
  exact ⟨by first | rfl | (simp [errW_none, errW_some] <;> rfl) | (simp [*, errW_none, errW_some] <;> rfl), by repeat (with_reducible first | exact HB.out | apply below_alloc | apply pw_below_drewN | apply below_drew1 | refine below_set ?_ GE390.out)⟩
 ·rw [if_neg c2] at H
  have c2b0 : (a0_0 == 2) = false := beq_eq_false_iff_ne.mpr c2
  have c2b1 : (a0_0 != 2) = true := bne_iff_ne.mpr c2
  obtain rfl := Option.some.inj H
  go_enter Try.func82, Try.ntmps82
  go_wp2_with (first | ((with_reducible refine gate_dst (N := 1) rfl ?_); refine box_event ?hg (N := 1) ?hd (cs := #[.int .i64 a0_0, .int .i64 a0_1, .int .i64 a0_2, .int .i64 a0_3, .int .i64 a0_4]) (t := 43) ?hr ?_; (case hd => rfl); (case hg => rfl); (case hr => first | (go_simp; done) | (go_simp; rfl)); intro gb390 hg w5 hbox hb; have n0_ := Aside0.mk (below_step (by repeat (with_reducible first | exact HB.out | apply below_alloc | apply pw_below_drewN | apply below_drew1)) hb); have n1_ := Aside0.mk (hbox); have n2_ := Aside0.mk ((by rw [hg]; exact (below_size (by repeat (with_reducible first | exact HB.out | apply below_alloc | apply pw_below_drewN | apply below_drew1))) : w.heap.size ≤ gb390)); have n3_ := n2_; clear HB; have HB := n0_; have BK390 := n1_; have GW390 := n2_; have GE390 := n3_; clear n0_ n1_ n2_ n3_; clear hb hbox hg; obtain ⟨hcz6_0, hcz6_1, hcz6_2, hcz6_3, hcz6_4, hfz6_0, hfz6_1, hfz6_2, hfz6_3, hfz6_4⟩ := blks5 BK390.out))
  go_ret
  exact ⟨by first | rfl | (simp [errW_none, errW_some] <;> rfl) | (simp [*, errW_none, errW_some] <;> rfl), by repeat (with_reducible first | exact HB.out | apply below_alloc | apply pw_below_drewN | apply below_drew1 | refine below_set ?_ GE390.out)⟩
def lines_shrinks.f (a0_0 : Int) (a0_1 : Int) (a0_2 : Int) (a0_3 : Int) (a0_4 : Int) : Option (Int) := if a0_0 = 2 then (some a0_3) else (some 0)
set_option maxHeartbeats 8000000 in
set_option maxRecDepth 100000 in
theorem lines_shrinks.calls (a0_0 : Int) (a0_1 : Int) (a0_2 : Int) (a0_3 : Int) (a0_4 : Int) (r : Int) (w : World) (h : lines_shrinks.f a0_0 a0_1 a0_2 a0_3 a0_4 = some r) :
  Calls Try.prog 83 #[.agg #[.int .i64 a0_0, .int .i64 a0_1, .int .i64 a0_2, .int .i64 a0_3, .int .i64 a0_4]] w fun e w' => e = .returned (.int .i64 r) ∧ Below w.heap.size w w' := by
 have hu43 := Try.underlying43
 have HB := Aside0.mk (Below.refl w.heap.size w)
 have H : (if a0_0 = 2 then (some a0_3) else (some 0)) = some r := h
 clear h
 by_cases c2 : a0_0 = 2
 ·rw [if_pos c2] at H
  have c2b0 : (a0_0 == 2) = true := beq_iff_eq.mpr c2
  have c2b1 : (a0_0 != 2) = false := bne_eq_false_iff_eq.mpr c2
  clear c2
  obtain rfl := Option.some.inj H
  go_enter Try.func83, Try.ntmps83
  go_wp2_with (first | ((with_reducible refine gate_dst (N := 1) rfl ?_); refine box_event ?hg (N := 1) ?hd (cs := #[.int .i64 a0_0, .int .i64 a0_1, .int .i64 a0_2, .int .i64 a0_3, .int .i64 a0_4]) (t := 43) ?hr ?_; (case hd => rfl); (case hg => rfl); (case hr => first | (go_simp; done) | (go_simp; rfl)); intro gb391 hg w3 hbox hb; have n0_ := Aside0.mk (below_step (by repeat (with_reducible first | exact HB.out | apply below_alloc | apply pw_below_drewN | apply below_drew1)) hb); have n1_ := Aside0.mk (hbox); have n2_ := Aside0.mk ((by rw [hg]; exact (below_size (by repeat (with_reducible first | exact HB.out | apply below_alloc | apply pw_below_drewN | apply below_drew1))) : w.heap.size ≤ gb391)); have n3_ := n2_; clear HB; have HB := n0_; have BK391 := n1_; have GW391 := n2_; have GE391 := n3_; clear n0_ n1_ n2_ n3_; clear hb hbox hg; obtain ⟨hcz4_0, hcz4_1, hcz4_2, hcz4_3, hcz4_4, hfz4_0, hfz4_1, hfz4_2, hfz4_3, hfz4_4⟩ := blks5 BK391.out))
  go_ret
  exact ⟨by first | rfl | (simp [errW_none, errW_some] <;> rfl) | (simp [*, errW_none, errW_some] <;> rfl), by repeat (with_reducible first | exact HB.out | apply below_alloc | apply pw_below_drewN | apply below_drew1 | refine below_set ?_ GE391.out)⟩
 ·rw [if_neg c2] at H
  have c2b0 : (a0_0 == 2) = false := beq_eq_false_iff_ne.mpr c2
  have c2b1 : (a0_0 != 2) = true := bne_iff_ne.mpr c2
  obtain rfl := Option.some.inj H
  go_enter Try.func83, Try.ntmps83
  go_wp2_with (first | ((with_reducible refine gate_dst (N := 1) rfl ?_); refine box_event ?hg (N := 1) ?hd (cs := #[.int .i64 a0_0, .int .i64 a0_1, .int .i64 a0_2, .int .i64 a0_3, .int .i64 a0_4]) (t := 43) ?hr ?_; (case hd => rfl); (case hg => rfl); (case hr => first | (go_simp; done) | (go_simp; rfl)); intro gb391 hg w5 hbox hb; have n0_ := Aside0.mk (below_step (by repeat (with_reducible first | exact HB.out | apply below_alloc | apply pw_below_drewN | apply below_drew1)) hb); have n1_ := Aside0.mk (hbox); have n2_ := Aside0.mk ((by rw [hg]; exact (below_size (by repeat (with_reducible first | exact HB.out | apply below_alloc | apply pw_below_drewN | apply below_drew1))) : w.heap.size ≤ gb391)); have n3_ := n2_; clear HB; have HB := n0_; have BK391 := n1_; have GW391 := n2_; have GE391 := n3_; clear n0_ n1_ n2_ n3_; clear hb hbox hg; obtain ⟨hcz6_0, hcz6_1, hcz6_2, hcz6_3, hcz6_4, hfz6_0, hfz6_1, hfz6_2, hfz6_3, hfz6_4⟩ := blks5 BK391.out))
  go_ret
  exact ⟨by first | rfl | (simp [errW_none, errW_some] <;> rfl) | (simp [*, errW_none, errW_some] <;> rfl), by repeat (with_reducible first | exact HB.out | apply below_alloc | apply pw_below_drewN | apply below_drew1 | refine below_set ?_ GE391.out)⟩
def lines_shows.j0 : Nat → List (S101) → Bool → Int → Int → Int → Int → Int → Option (Int × Bool)
 | 0, _, _, _, _, _, _, _ => none
 | k + 1, x0, x19, x393000, x393001, x393002, x393003, x393004 => if x19 = true then (some (0, false)) else (if 0 ≤ x393004 then (if x393004 < (x0.length : Int) then (if x393000 = 4 then (if ((rd_T101 x0 x393004).f0) = 2 then (some (42, (((rd_T101 x0 x393004).f1) == 110))) else (some (42, false))) else (some ((rd_T101 x0 x393004).f1, (((rd_T101 x0 x393004).f0) == 1)))) else (none)) else (none))
def lines_shows.f (k : Nat) (l0 : List (S101)) (a1_0 : Int) (a1_1 : Int) (a1_2 : Int) (a1_3 : Int) (a1_4 : Int) : Option (Int × Bool) := if a1_0 = 3 then (some (45, true)) else (if a1_4 < 0 then (lines_shows.j0 k l0 true a1_0 a1_1 a1_2 a1_3 a1_4) else (lines_shows.j0 k l0 (decide (a1_4 ≥ (l0.length : Int))) a1_0 a1_1 a1_2 a1_3 a1_4))
theorem lines_shows.mono_l : ∀ k, (∀ y0 y1 y2 y3 y4 y5 y6, LeO (lines_shows.j0 k y0 y1 y2 y3 y4 y5 y6) (lines_shows.j0 (k + 1) y0 y1 y2 y3 y4 y5 y6))
 | 0 => fun _ _ _ _ _ _ _ r h => by simp [lines_shows.j0] at h
 | k + 1 => by
  have ih0 := lines_shows.mono_l k
  ·intro y0 y1 y2 y3 y4 y5 y6
   unfold lines_shows.j0
   repeat' first
   | (with_reducible exact ih0 _ _ _ _ _ _ _)
   | (with_reducible exact LeO.refl _)
   | (with_reducible exact LeO.none _)
   | (with_reducible refine LeO.ite ?_ ?_)
   | (with_reducible refine LeO.bind ?_ (fun _ => ?_))
   | exact LeO.none _
   | refine LeO.ite ?_ ?_
   | refine LeO.bind ?_ (fun _ => ?_)
theorem lines_shows.mono : ∀ a0 a1 a2 a3 a4 a5 k, LeO (lines_shows.f k a0 a1 a2 a3 a4 a5) (lines_shows.f (k + 1) a0 a1 a2 a3 a4 a5) := by
 intro a0 a1 a2 a3 a4 a5 k
 have ih0 := lines_shows.mono_l k
 unfold lines_shows.f
 repeat' first
   | (with_reducible exact ih0 _ _ _ _ _ _ _)
   | (with_reducible exact LeO.refl _)
   | (with_reducible exact LeO.none _)
   | (with_reducible refine LeO.ite ?_ ?_)
   | (with_reducible refine LeO.bind ?_ (fun _ => ?_))
   | exact LeO.none _
   | refine LeO.ite ?_ ?_
   | refine LeO.bind ?_ (fun _ => ?_)
set_option maxHeartbeats 8000000 in
set_option maxRecDepth 100000 in
theorem lines_shows.calls (k : Nat) (A0 : Option Addr) (c0 : Nat) (l0 : List (S101)) (a1_0 : Int) (a1_1 : Int) (a1_2 : Int) (a1_3 : Int) (a1_4 : Int) (r1 : Int) (r2 : Bool) (w : World) (hr0 : Kd.C k101 w A0 l0.length l0) (hc0 : l0.length ≤ c0) (h : lines_shows.f k l0 a1_0 a1_1 a1_2 a1_3 a1_4 = some (r1, r2)) :
  Calls Try.prog 62 #[.slice A0 l0.length c0, .agg #[.int .i64 a1_0, .int .i64 a1_1, .int .i64 a1_2, .int .i64 a1_3, .int .i64 a1_4]] w fun e w' => e = .returned (.tuple #[.int .u8 r1, .bool r2]) ∧ Below w.heap.size w w' := by
 have hu43 := Try.underlying43
 have hu101 := Try.underlying101
 have HR0 := Aside0.mk hr0
 have HC0 := Aside0.mk hc0
 clear hr0 hc0
 have HB := Aside0.mk (Below.refl w.heap.size w)
 have H : (if a1_0 = 3 then (some (45, true)) else (if a1_4 < 0 then (lines_shows.j0 k l0 true a1_0 a1_1 a1_2 a1_3 a1_4) else (lines_shows.j0 k l0 (decide (a1_4 ≥ (l0.length : Int))) a1_0 a1_1 a1_2 a1_3 a1_4))) = some (r1, r2) := h
 clear h
 by_cases c3 : a1_0 = 3
 ·rw [if_pos c3] at H
  have c3b0 : (a1_0 == 3) = true := beq_iff_eq.mpr c3
  have c3b1 : (a1_0 != 3) = false := bne_eq_false_iff_eq.mpr c3
  clear c3
  simp only [Option.some.injEq, Prod.mk.injEq] at H
  obtain ⟨rfl, rfl⟩ := H
  go_enter Try.func62, Try.ntmps62
  go_wp2_with (first | ((with_reducible refine gate_dst (N := 3) rfl ?_); (try (refine gate_guard (by rfl) ?_; dsimp only)); refine box_event ?hg (N := 3) ?hd (cs := #[.int .i64 a1_0, .int .i64 a1_1, .int .i64 a1_2, .int .i64 a1_3, .int .i64 a1_4]) (t := 43) ?hr ?_; (case hd => rfl); (case hg => rfl); (case hr => first | (go_simp; done) | (go_simp; rfl)); intro gb392 hg w4 hbox hb; have n0_ := Aside0.mk (below_step (by repeat (with_reducible first | exact HB.out | apply below_alloc | apply pw_below_drewN | apply below_drew1)) hb); have n1_ := Aside0.mk (hbox); have n2_ := Aside0.mk ((by rw [hg]; exact (below_size (by repeat (with_reducible first | exact HB.out | apply below_alloc | apply pw_below_drewN | apply below_drew1))) : w.heap.size ≤ gb392)); have n3_ := n2_; clear HB; have HB := n0_; have BK392 := n1_; have GW392 := n2_; have GE392 := n3_; clear n0_ n1_ n2_ n3_; clear hb hbox hg; obtain ⟨hcz5_0, hcz5_1, hcz5_2, hcz5_3, hcz5_4, hfz5_0, hfz5_1, hfz5_2, hfz5_3, hfz5_4⟩ := blks5 BK392.out))
  go_ret2
  exact ⟨by first | rfl | (simp [errW_none, errW_some] <;> rfl) | (simp [*, errW_none, errW_some] <;> rfl), by repeat (with_reducible first | exact HB.out | apply below_alloc | apply pw_below_drewN | apply below_drew1 | refine below_set ?_ GE392.out)⟩
 ·rw [if_neg c3] at H
  have c3b0 : (a1_0 == 3) = false := beq_eq_false_iff_ne.mpr c3
  have c3b1 : (a1_0 != 3) = true := bne_iff_ne.mpr c3
  have HC6 := Aside0.mk H
  clear H
  go_enter Try.func62, Try.ntmps62
  go_upto_region 3 with (first | ((with_reducible refine gate_dst (N := 3) rfl ?_); (try (refine gate_guard (by rfl) ?_; dsimp only)); refine box_event ?hg (N := 3) ?hd (cs := #[.int .i64 a1_0, .int .i64 a1_1, .int .i64 a1_2, .int .i64 a1_3, .int .i64 a1_4]) (t := 43) ?hr ?_; (case hd => rfl); (case hg => rfl); (case hr => first | (go_simp; done) | (go_simp; rfl)); intro gb392 hg w7 hbox hb; have n0_ := Aside0.mk (below_step (by repeat (with_reducible first | exact HB.out | apply below_alloc | apply pw_below_drewN | apply below_drew1)) hb); have n1_ := Aside0.mk (hbox); have n2_ := Aside0.mk ((by rw [hg]; exact (below_size (by repeat (with_reducible first | exact HB.out | apply below_alloc | apply pw_below_drewN | apply below_drew1))) : w.heap.size ≤ gb392)); have n3_ := n2_; clear HB; have HB := n0_; have BK392 := n1_; have GW392 := n2_; have GE392 := n3_; clear n0_ n1_ n2_ n3_; clear hb hbox hg; obtain ⟨hcz8_0, hcz8_1, hcz8_2, hcz8_3, hcz8_4, hfz8_0, hfz8_1, hfz8_2, hfz8_3, hfz8_4⟩ := blks5 BK392.out))
  (try simp only [Act.put, List.setIfInBounds_toArray, List.set_cons_zero, List.set_cons_succ])
  go_cut [19] (fun v19 wc => ∃ (kq : Nat) (x19_5 : Bool), v19 = .bool x19_5 ∧ Aside0 (lines_shows.j0 kq l0 x19_5 a1_0 a1_1 a1_2 a1_3 a1_4 = some (r1, r2)) ∧ Aside0 (kq ≤ k) ∧ Aside0 (wc.heap[gb392]? = some (.cells #[.int .i64 a1_0, .int .i64 a1_1, .int .i64 a1_2, .int .i64 a1_3, .int .i64 a1_4] 43 (0, 0))) ∧ Aside0 (Below w.heap.size w wc))
  case first =>
   have H := HC6.out
   clear HC6
   by_cases c9 : a1_4 < 0
   ·rw [if_pos c9] at H
    have c9b0 : decide (a1_4 < 0) = true := decide_eq_true c9
    clear c9
    (first | rw [c9b0] | (simp only [i64_w, i32_w]; rw [c9b0]) | skip)
    have H' := Aside0.mk H
    clear H
    have hcz10_0 : w7.cell? ⟨gb392, 0, none⟩ = some (.int .i64 a1_0) := (blk_cell BK392.out 0).trans rfl
    have hcz10_1 : w7.cell? ⟨gb392, 1, none⟩ = some (.int .i64 a1_1) := (blk_cell BK392.out 1).trans rfl
    have hcz10_2 : w7.cell? ⟨gb392, 2, none⟩ = some (.int .i64 a1_2) := (blk_cell BK392.out 2).trans rfl
    have hcz10_3 : w7.cell? ⟨gb392, 3, none⟩ = some (.int .i64 a1_3) := (blk_cell BK392.out 3).trans rfl
    have hcz10_4 : w7.cell? ⟨gb392, 4, none⟩ = some (.int .i64 a1_4) := (blk_cell BK392.out 4).trans rfl
    have hfz10_0 := blk_frozen BK392.out 0
    have hfz10_1 := blk_frozen BK392.out 1
    have hfz10_2 := blk_frozen BK392.out 2
    have hfz10_3 := blk_frozen BK392.out 3
    have hfz10_4 := blk_frozen BK392.out 4
    go_wp2
    repeat (go_quiet (fail); try go_wp2)
    go_meet
    case rel => exact ⟨_, (true), (by first | rfl | (simp; done) | (simp [*]; done)), H', ⟨by first | omega | exact Nat.le_refl _⟩, ⟨by (with_reducible repeat (first | refine blk_drewN ?_ _ | refine blk_drew ?_ | refine blk_alloc ?_ _)); exact BK392.out⟩, ⟨by repeat (with_reducible first | exact HB.out | apply below_alloc | apply pw_below_drewN | apply below_drew1 | refine below_set ?_ GE392.out)⟩⟩
   ·rw [if_neg c9] at H
    have c9b0 : decide (a1_4 < 0) = false := decide_eq_false c9
    clear c9
    (first | rw [c9b0] | (simp only [i64_w, i32_w]; rw [c9b0]) | skip)
    have H' := Aside0.mk H
    clear H
    have hcz11_0 : w7.cell? ⟨gb392, 0, none⟩ = some (.int .i64 a1_0) := (blk_cell BK392.out 0).trans rfl
    have hcz11_1 : w7.cell? ⟨gb392, 1, none⟩ = some (.int .i64 a1_1) := (blk_cell BK392.out 1).trans rfl
    have hcz11_2 : w7.cell? ⟨gb392, 2, none⟩ = some (.int .i64 a1_2) := (blk_cell BK392.out 2).trans rfl
    have hcz11_3 : w7.cell? ⟨gb392, 3, none⟩ = some (.int .i64 a1_3) := (blk_cell BK392.out 3).trans rfl
    have hcz11_4 : w7.cell? ⟨gb392, 4, none⟩ = some (.int .i64 a1_4) := (blk_cell BK392.out 4).trans rfl
    have hfz11_0 := blk_frozen BK392.out 0
    have hfz11_1 := blk_frozen BK392.out 1
    have hfz11_2 := blk_frozen BK392.out 2
    have hfz11_3 := blk_frozen BK392.out 3
    have hfz11_4 := blk_frozen BK392.out 4
    go_wp2
    repeat (go_quiet (fail); try go_wp2)
    go_meet
    case rel => exact ⟨_, (decide (a1_4 ≥ (l0.length : Int))), (by first | rfl | (simp; done) | (simp [*]; done)), H', ⟨by first | omega | exact Nat.le_refl _⟩, ⟨by (with_reducible repeat (first | refine blk_drewN ?_ _ | refine blk_drew ?_ | refine blk_alloc ?_ _)); exact BK392.out⟩, ⟨by repeat (with_reducible first | exact HB.out | apply below_alloc | apply pw_below_drewN | apply below_drew1 | refine below_set ?_ GE392.out)⟩⟩
  case rest =>
   clear HC6
   try clear p2
   try clear c3
   try clear c3b0
   try clear c3b1
   try clear c6
   try clear c9
   try clear c9b0
   try clear hcz10_0
   try clear hcz10_1
   try clear hcz10_2
   try clear hcz10_3
   try clear hcz10_4
   try clear hcz11_0
   try clear hcz11_1
   try clear hcz11_2
   try clear hcz11_3
   try clear hcz11_4
   try clear hcz5_0
   try clear hcz5_1
   try clear hcz5_2
   try clear hcz5_3
   try clear hcz5_4
   try clear hcz8_0
   try clear hcz8_1
   try clear hcz8_2
   try clear hcz8_3
   try clear hcz8_4
   try clear hfz10_0
   try clear hfz10_1
   try clear hfz10_2
   try clear hfz10_3
   try clear hfz10_4
   try clear hfz11_0
   try clear hfz11_1
   try clear hfz11_2
   try clear hfz11_3
   try clear hfz11_4
   try clear hfz5_0
   try clear hfz5_1
   try clear hfz5_2
   try clear hfz5_3
   try clear hfz5_4
   try clear hfz8_0
   try clear hfz8_1
   try clear hfz8_2
   try clear hfz8_3
   try clear hfz8_4
   obtain ⟨kq, x19_5, rfl, HA, HJ5, BK392, HB⟩ := hcut
   cases kq with
   | zero => exact absurd HA.out (by simp [lines_shows.j0])
   | succ kj5 =>
    have H := HA.out
    clear HA
    simp only [lines_shows.j0] at H
    by_cases c12 : x19_5 = true
    ·subst c12
     rw [if_pos rfl] at H
     simp only [Option.some.injEq, Prod.mk.injEq] at H
     obtain ⟨rfl, rfl⟩ := H
     go_wp2
     repeat (go_quiet (fail); try go_wp2)
     go_ret2
     exact ⟨by first | rfl | (simp [errW_none, errW_some] <;> rfl) | (simp [*, errW_none, errW_some] <;> rfl), by repeat (with_reducible first | exact HB.out | apply below_alloc | apply pw_below_drewN | apply below_drew1 | refine below_set ?_ GE392.out)⟩
    ·replace c12 := Bool.eq_false_iff.mpr c12
     subst c12
     rw [if_neg (show ¬ (false = true) by decide)] at H
     by_cases c13 : 0 ≤ a1_4
     ·rw [if_pos c13] at H
      have c13b0 : decide (0 ≤ a1_4) = true := decide_eq_true c13
      clear c13
      by_cases c14 : a1_4 < (l0.length : Int)
      ·rw [if_pos c14] at H
       have c14b0 : decide (a1_4 < (l0.length : Int)) = true := decide_eq_true c14
       clear c14
       by_cases c15 : a1_0 = 4
       ·rw [if_pos c15] at H
        have c15b0 : (a1_0 == 4) = true := beq_iff_eq.mpr c15
        have c15b1 : (a1_0 != 4) = false := bne_eq_false_iff_eq.mpr c15
        clear c15
        by_cases c16 : ((rd_T101 l0 a1_4).f0) = 2
        ·rw [if_pos c16] at H
         have c16b0 : (((rd_T101 l0 a1_4).f0) == 2) = true := beq_iff_eq.mpr c16
         have c16b1 : (((rd_T101 l0 a1_4).f0) != 2) = false := bne_eq_false_iff_eq.mpr c16
         clear c16
         simp only [Option.some.injEq, Prod.mk.injEq] at H
         obtain ⟨rfl, rfl⟩ := H
         have hcz17_0 : wc.cell? ⟨gb392, 0, none⟩ = some (.int .i64 a1_0) := (blk_cell BK392.out 0).trans rfl
         have hcz17_1 : wc.cell? ⟨gb392, 1, none⟩ = some (.int .i64 a1_1) := (blk_cell BK392.out 1).trans rfl
         have hcz17_2 : wc.cell? ⟨gb392, 2, none⟩ = some (.int .i64 a1_2) := (blk_cell BK392.out 2).trans rfl
         have hcz17_3 : wc.cell? ⟨gb392, 3, none⟩ = some (.int .i64 a1_3) := (blk_cell BK392.out 3).trans rfl
         have hcz17_4 : wc.cell? ⟨gb392, 4, none⟩ = some (.int .i64 a1_4) := (blk_cell BK392.out 4).trans rfl
         have hfz17_0 := blk_frozen BK392.out 0
         have hfz17_1 := blk_frozen BK392.out 1
         have hfz17_2 := blk_frozen BK392.out 2
         have hfz17_3 := blk_frozen BK392.out 3
         have hfz17_4 := blk_frozen BK392.out 4
         have p393 : 0 ≤ (a1_4 : Int) := of_decide_eq_true (by first | (with_reducible assumption) | assumption)
         have q393 : a1_4 < (l0.length : Int) := of_decide_eq_true (by first | (with_reducible assumption) | assumption)
         obtain ⟨ad393, e393, hx393_0, hx393_1, hx393_2⟩ := at_T101 HR0.out a1_4 p393 q393
         cases e393
         replace hx393_0 := (HB.out.cell (World.block_lt_of_cell? w _ hx393_0)).trans hx393_0
         replace hx393_1 := (HB.out.cell (World.block_lt_of_cell? w _ hx393_1)).trans hx393_1
         replace hx393_2 := (HB.out.cell (World.block_lt_of_cell? w _ hx393_2)).trans hx393_2
         replace p393 := eq_true p393
         replace q393 := eq_true q393
         go_wp2_with (first | ((with_reducible refine gate_dst (N := 6) rfl ?_); (try (refine gate_guard (by rfl) ?_; dsimp only)); refine box_event ?hg (N := 6) ?hd (cs := #[.int .i64 0, .int .u8 0, .int .i64 0]) (t := 101) ?hr ?_; (case hd => rfl); (case hg => rfl); (case hr => first | (go_simp; done) | (go_simp; rfl)); intro gb394 hg w18 hbox hb; have n0_ := Aside0.mk (blk_below (g := gb392) (o := .cells #[.int .i64 a1_0, .int .i64 a1_1, .int .i64 a1_2, .int .i64 a1_3, .int .i64 a1_4] 43 (0, 0)) (by (with_reducible repeat (first | refine blk_drewN ?_ _ | refine blk_drew ?_ | refine blk_alloc ?_ _)); exact BK392.out) hb); have n1_ := Aside0.mk (below_step (by repeat (with_reducible first | exact HB.out | apply below_alloc | apply pw_below_drewN | apply below_drew1 | refine below_set ?_ GE392.out)) hb); have n2_ := Aside0.mk (hbox); have n3_ := Aside0.mk ((by rw [hg]; exact (below_size (by repeat (with_reducible first | exact HB.out | apply below_alloc | apply pw_below_drewN | apply below_drew1 | refine below_set ?_ GE392.out))) : w.heap.size ≤ gb394)); have n4_ := n3_; have n5_ := Aside0.mk ((by rw [hg]; exact Nat.ne_of_lt (blk_lt (g := gb392) (o := .cells #[.int .i64 a1_0, .int .i64 a1_1, .int .i64 a1_2, .int .i64 a1_3, .int .i64 a1_4] 43 (0, 0)) (by (with_reducible repeat (first | refine blk_drewN ?_ _ | refine blk_drew ?_ | refine blk_alloc ?_ _)); exact BK392.out)) : gb392 ≠ gb394)); have n6_ := Aside0.mk ((by rw [hg]; exact Nat.ne_of_gt (blk_lt (g := gb392) (o := .cells #[.int .i64 a1_0, .int .i64 a1_1, .int .i64 a1_2, .int .i64 a1_3, .int .i64 a1_4] 43 (0, 0)) (by (with_reducible repeat (first | refine blk_drewN ?_ _ | refine blk_drew ?_ | refine blk_alloc ?_ _)); exact BK392.out)) : gb394 ≠ gb392)); clear BK392; clear HB; have BK392 := n0_; have HB := n1_; have BK394 := n2_; have GW394 := n3_; have GE394 := n4_; have NB392_394 := n5_; have NB394_392 := n6_; clear n0_ n1_ n2_ n3_ n4_ n5_ n6_; clear hb hbox hg; have hnb19 := NB394_392.out; have hnc19 := NB392_394.out; obtain ⟨hcz20_0, hcz20_1, hcz20_2, hfz20_0, hfz20_1, hfz20_2⟩ := blks3 BK394.out; obtain ⟨hcz21_0, hcz21_1, hcz21_2, hcz21_3, hcz21_4, hfz21_0, hfz21_1, hfz21_2, hfz21_3, hfz21_4⟩ := blks5 BK392.out))
         repeat (go_quiet (first | ((with_reducible refine gate_dst (N := 6) rfl ?_); (try (refine gate_guard (by rfl) ?_; dsimp only)); refine box_event ?hg (N := 6) ?hd (cs := #[.int .i64 0, .int .u8 0, .int .i64 0]) (t := 101) ?hr ?_; (case hd => rfl); (case hg => rfl); (case hr => first | (go_simp; done) | (go_simp; rfl)); intro gb394 hg w18 hbox hb; have n0_ := Aside0.mk (blk_below (g := gb392) (o := .cells #[.int .i64 a1_0, .int .i64 a1_1, .int .i64 a1_2, .int .i64 a1_3, .int .i64 a1_4] 43 (0, 0)) (by (with_reducible repeat (first | refine blk_drewN ?_ _ | refine blk_drew ?_ | refine blk_alloc ?_ _)); exact BK392.out) hb); have n1_ := Aside0.mk (below_step (by repeat (with_reducible first | exact HB.out | apply below_alloc | apply pw_below_drewN | apply below_drew1 | refine below_set ?_ GE392.out)) hb); have n2_ := Aside0.mk (hbox); have n3_ := Aside0.mk ((by rw [hg]; exact (below_size (by repeat (with_reducible first | exact HB.out | apply below_alloc | apply pw_below_drewN | apply below_drew1 | refine below_set ?_ GE392.out))) : w.heap.size ≤ gb394)); have n4_ := n3_; have n5_ := Aside0.mk ((by rw [hg]; exact Nat.ne_of_lt (blk_lt (g := gb392) (o := .cells #[.int .i64 a1_0, .int .i64 a1_1, .int .i64 a1_2, .int .i64 a1_3, .int .i64 a1_4] 43 (0, 0)) (by (with_reducible repeat (first | refine blk_drewN ?_ _ | refine blk_drew ?_ | refine blk_alloc ?_ _)); exact BK392.out)) : gb392 ≠ gb394)); have n6_ := Aside0.mk ((by rw [hg]; exact Nat.ne_of_gt (blk_lt (g := gb392) (o := .cells #[.int .i64 a1_0, .int .i64 a1_1, .int .i64 a1_2, .int .i64 a1_3, .int .i64 a1_4] 43 (0, 0)) (by (with_reducible repeat (first | refine blk_drewN ?_ _ | refine blk_drew ?_ | refine blk_alloc ?_ _)); exact BK392.out)) : gb394 ≠ gb392)); clear BK392; clear HB; have BK392 := n0_; have HB := n1_; have BK394 := n2_; have GW394 := n3_; have GE394 := n4_; have NB392_394 := n5_; have NB394_392 := n6_; clear n0_ n1_ n2_ n3_ n4_ n5_ n6_; clear hb hbox hg; have hnb19 := NB394_392.out; have hnc19 := NB392_394.out; obtain ⟨hcz20_0, hcz20_1, hcz20_2, hfz20_0, hfz20_1, hfz20_2⟩ := blks3 BK394.out; obtain ⟨hcz21_0, hcz21_1, hcz21_2, hcz21_3, hcz21_4, hfz21_0, hfz21_1, hfz21_2, hfz21_3, hfz21_4⟩ := blks5 BK392.out)); try go_wp2_with (first | ((with_reducible refine gate_dst (N := 6) rfl ?_); (try (refine gate_guard (by rfl) ?_; dsimp only)); refine box_event ?hg (N := 6) ?hd (cs := #[.int .i64 0, .int .u8 0, .int .i64 0]) (t := 101) ?hr ?_; (case hd => rfl); (case hg => rfl); (case hr => first | (go_simp; done) | (go_simp; rfl)); intro gb394 hg w18 hbox hb; have n0_ := Aside0.mk (blk_below (g := gb392) (o := .cells #[.int .i64 a1_0, .int .i64 a1_1, .int .i64 a1_2, .int .i64 a1_3, .int .i64 a1_4] 43 (0, 0)) (by (with_reducible repeat (first | refine blk_drewN ?_ _ | refine blk_drew ?_ | refine blk_alloc ?_ _)); exact BK392.out) hb); have n1_ := Aside0.mk (below_step (by repeat (with_reducible first | exact HB.out | apply below_alloc | apply pw_below_drewN | apply below_drew1 | refine below_set ?_ GE392.out)) hb); have n2_ := Aside0.mk (hbox); have n3_ := Aside0.mk ((by rw [hg]; exact (below_size (by repeat (with_reducible first | exact HB.out | apply below_alloc | apply pw_below_drewN | apply below_drew1 | refine below_set ?_ GE392.out))) : w.heap.size ≤ gb394)); have n4_ := n3_; have n5_ := Aside0.mk ((by rw [hg]; exact Nat.ne_of_lt (blk_lt (g := gb392) (o := .cells #[.int .i64 a1_0, .int .i64 a1_1, .int .i64 a1_2, .int .i64 a1_3, .int .i64 a1_4] 43 (0, 0)) (by (with_reducible repeat (first | refine blk_drewN ?_ _ | refine blk_drew ?_ | refine blk_alloc ?_ _)); exact BK392.out)) : gb392 ≠ gb394)); have n6_ := Aside0.mk ((by rw [hg]; exact Nat.ne_of_gt (blk_lt (g := gb392) (o := .cells #[.int .i64 a1_0, .int .i64 a1_1, .int .i64 a1_2, .int .i64 a1_3, .int .i64 a1_4] 43 (0, 0)) (by (with_reducible repeat (first | refine blk_drewN ?_ _ | refine blk_drew ?_ | refine blk_alloc ?_ _)); exact BK392.out)) : gb394 ≠ gb392)); clear BK392; clear HB; have BK392 := n0_; have HB := n1_; have BK394 := n2_; have GW394 := n3_; have GE394 := n4_; have NB392_394 := n5_; have NB394_392 := n6_; clear n0_ n1_ n2_ n3_ n4_ n5_ n6_; clear hb hbox hg; have hnb19 := NB394_392.out; have hnc19 := NB392_394.out; obtain ⟨hcz20_0, hcz20_1, hcz20_2, hfz20_0, hfz20_1, hfz20_2⟩ := blks3 BK394.out; obtain ⟨hcz21_0, hcz21_1, hcz21_2, hcz21_3, hcz21_4, hfz21_0, hfz21_1, hfz21_2, hfz21_3, hfz21_4⟩ := blks5 BK392.out)))
         go_ret2
         exact ⟨by first | rfl | (simp [errW_none, errW_some] <;> rfl) | (simp [*, errW_none, errW_some] <;> rfl), by repeat (with_reducible first | exact HB.out | apply below_alloc | apply pw_below_drewN | apply below_drew1 | refine below_set ?_ GE392.out | refine below_set ?_ GE394.out)⟩
        ·rw [if_neg c16] at H
         have c16b0 : (((rd_T101 l0 a1_4).f0) == 2) = false := beq_eq_false_iff_ne.mpr c16
         have c16b1 : (((rd_T101 l0 a1_4).f0) != 2) = true := bne_iff_ne.mpr c16
         simp only [Option.some.injEq, Prod.mk.injEq] at H
         obtain ⟨rfl, rfl⟩ := H
         have hcz22_0 : wc.cell? ⟨gb392, 0, none⟩ = some (.int .i64 a1_0) := (blk_cell BK392.out 0).trans rfl
         have hcz22_1 : wc.cell? ⟨gb392, 1, none⟩ = some (.int .i64 a1_1) := (blk_cell BK392.out 1).trans rfl
         have hcz22_2 : wc.cell? ⟨gb392, 2, none⟩ = some (.int .i64 a1_2) := (blk_cell BK392.out 2).trans rfl
         have hcz22_3 : wc.cell? ⟨gb392, 3, none⟩ = some (.int .i64 a1_3) := (blk_cell BK392.out 3).trans rfl
         have hcz22_4 : wc.cell? ⟨gb392, 4, none⟩ = some (.int .i64 a1_4) := (blk_cell BK392.out 4).trans rfl
         have hfz22_0 := blk_frozen BK392.out 0
         have hfz22_1 := blk_frozen BK392.out 1
         have hfz22_2 := blk_frozen BK392.out 2
         have hfz22_3 := blk_frozen BK392.out 3
         have hfz22_4 := blk_frozen BK392.out 4
         have p393 : 0 ≤ (a1_4 : Int) := of_decide_eq_true (by first | (with_reducible assumption) | assumption)
         have q393 : a1_4 < (l0.length : Int) := of_decide_eq_true (by first | (with_reducible assumption) | assumption)
         obtain ⟨ad393, e393, hx393_0, hx393_1, hx393_2⟩ := at_T101 HR0.out a1_4 p393 q393
         cases e393
         replace hx393_0 := (HB.out.cell (World.block_lt_of_cell? w _ hx393_0)).trans hx393_0
         replace hx393_1 := (HB.out.cell (World.block_lt_of_cell? w _ hx393_1)).trans hx393_1
         replace hx393_2 := (HB.out.cell (World.block_lt_of_cell? w _ hx393_2)).trans hx393_2
         replace p393 := eq_true p393
         replace q393 := eq_true q393
         go_wp2_with (first | ((with_reducible refine gate_dst (N := 6) rfl ?_); (try (refine gate_guard (by rfl) ?_; dsimp only)); refine box_event ?hg (N := 6) ?hd (cs := #[.int .i64 0, .int .u8 0, .int .i64 0]) (t := 101) ?hr ?_; (case hd => rfl); (case hg => rfl); (case hr => first | (go_simp; done) | (go_simp; rfl)); intro gb394 hg w23 hbox hb; have n0_ := Aside0.mk (blk_below (g := gb392) (o := .cells #[.int .i64 a1_0, .int .i64 a1_1, .int .i64 a1_2, .int .i64 a1_3, .int .i64 a1_4] 43 (0, 0)) (by (with_reducible repeat (first | refine blk_drewN ?_ _ | refine blk_drew ?_ | refine blk_alloc ?_ _)); exact BK392.out) hb); have n1_ := Aside0.mk (below_step (by repeat (with_reducible first | exact HB.out | apply below_alloc | apply pw_below_drewN | apply below_drew1 | refine below_set ?_ GE392.out)) hb); have n2_ := Aside0.mk (hbox); have n3_ := Aside0.mk ((by rw [hg]; exact (below_size (by repeat (with_reducible first | exact HB.out | apply below_alloc | apply pw_below_drewN | apply below_drew1 | refine below_set ?_ GE392.out))) : w.heap.size ≤ gb394)); have n4_ := n3_; have n5_ := Aside0.mk ((by rw [hg]; exact Nat.ne_of_lt (blk_lt (g := gb392) (o := .cells #[.int .i64 a1_0, .int .i64 a1_1, .int .i64 a1_2, .int .i64 a1_3, .int .i64 a1_4] 43 (0, 0)) (by (with_reducible repeat (first | refine blk_drewN ?_ _ | refine blk_drew ?_ | refine blk_alloc ?_ _)); exact BK392.out)) : gb392 ≠ gb394)); have n6_ := Aside0.mk ((by rw [hg]; exact Nat.ne_of_gt (blk_lt (g := gb392) (o := .cells #[.int .i64 a1_0, .int .i64 a1_1, .int .i64 a1_2, .int .i64 a1_3, .int .i64 a1_4] 43 (0, 0)) (by (with_reducible repeat (first | refine blk_drewN ?_ _ | refine blk_drew ?_ | refine blk_alloc ?_ _)); exact BK392.out)) : gb394 ≠ gb392)); clear BK392; clear HB; have BK392 := n0_; have HB := n1_; have BK394 := n2_; have GW394 := n3_; have GE394 := n4_; have NB392_394 := n5_; have NB394_392 := n6_; clear n0_ n1_ n2_ n3_ n4_ n5_ n6_; clear hb hbox hg; have hnb24 := NB394_392.out; have hnc24 := NB392_394.out; obtain ⟨hcz25_0, hcz25_1, hcz25_2, hfz25_0, hfz25_1, hfz25_2⟩ := blks3 BK394.out; obtain ⟨hcz26_0, hcz26_1, hcz26_2, hcz26_3, hcz26_4, hfz26_0, hfz26_1, hfz26_2, hfz26_3, hfz26_4⟩ := blks5 BK392.out))
         repeat (go_quiet (first | ((with_reducible refine gate_dst (N := 6) rfl ?_); (try (refine gate_guard (by rfl) ?_; dsimp only)); refine box_event ?hg (N := 6) ?hd (cs := #[.int .i64 0, .int .u8 0, .int .i64 0]) (t := 101) ?hr ?_; (case hd => rfl); (case hg => rfl); (case hr => first | (go_simp; done) | (go_simp; rfl)); intro gb394 hg w23 hbox hb; have n0_ := Aside0.mk (blk_below (g := gb392) (o := .cells #[.int .i64 a1_0, .int .i64 a1_1, .int .i64 a1_2, .int .i64 a1_3, .int .i64 a1_4] 43 (0, 0)) (by (with_reducible repeat (first | refine blk_drewN ?_ _ | refine blk_drew ?_ | refine blk_alloc ?_ _)); exact BK392.out) hb); have n1_ := Aside0.mk (below_step (by repeat (with_reducible first | exact HB.out | apply below_alloc | apply pw_below_drewN | apply below_drew1 | refine below_set ?_ GE392.out)) hb); have n2_ := Aside0.mk (hbox); have n3_ := Aside0.mk ((by rw [hg]; exact (below_size (by repeat (with_reducible first | exact HB.out | apply below_alloc | apply pw_below_drewN | apply below_drew1 | refine below_set ?_ GE392.out))) : w.heap.size ≤ gb394)); have n4_ := n3_; have n5_ := Aside0.mk ((by rw [hg]; exact Nat.ne_of_lt (blk_lt (g := gb392) (o := .cells #[.int .i64 a1_0, .int .i64 a1_1, .int .i64 a1_2, .int .i64 a1_3, .int .i64 a1_4] 43 (0, 0)) (by (with_reducible repeat (first | refine blk_drewN ?_ _ | refine blk_drew ?_ | refine blk_alloc ?_ _)); exact BK392.out)) : gb392 ≠ gb394)); have n6_ := Aside0.mk ((by rw [hg]; exact Nat.ne_of_gt (blk_lt (g := gb392) (o := .cells #[.int .i64 a1_0, .int .i64 a1_1, .int .i64 a1_2, .int .i64 a1_3, .int .i64 a1_4] 43 (0, 0)) (by (with_reducible repeat (first | refine blk_drewN ?_ _ | refine blk_drew ?_ | refine blk_alloc ?_ _)); exact BK392.out)) : gb394 ≠ gb392)); clear BK392; clear HB; have BK392 := n0_; have HB := n1_; have BK394 := n2_; have GW394 := n3_; have GE394 := n4_; have NB392_394 := n5_; have NB394_392 := n6_; clear n0_ n1_ n2_ n3_ n4_ n5_ n6_; clear hb hbox hg; have hnb24 := NB394_392.out; have hnc24 := NB392_394.out; obtain ⟨hcz25_0, hcz25_1, hcz25_2, hfz25_0, hfz25_1, hfz25_2⟩ := blks3 BK394.out; obtain ⟨hcz26_0, hcz26_1, hcz26_2, hcz26_3, hcz26_4, hfz26_0, hfz26_1, hfz26_2, hfz26_3, hfz26_4⟩ := blks5 BK392.out)); try go_wp2_with (first | ((with_reducible refine gate_dst (N := 6) rfl ?_); (try (refine gate_guard (by rfl) ?_; dsimp only)); refine box_event ?hg (N := 6) ?hd (cs := #[.int .i64 0, .int .u8 0, .int .i64 0]) (t := 101) ?hr ?_; (case hd => rfl); (case hg => rfl); (case hr => first | (go_simp; done) | (go_simp; rfl)); intro gb394 hg w23 hbox hb; have n0_ := Aside0.mk (blk_below (g := gb392) (o := .cells #[.int .i64 a1_0, .int .i64 a1_1, .int .i64 a1_2, .int .i64 a1_3, .int .i64 a1_4] 43 (0, 0)) (by (with_reducible repeat (first | refine blk_drewN ?_ _ | refine blk_drew ?_ | refine blk_alloc ?_ _)); exact BK392.out) hb); have n1_ := Aside0.mk (below_step (by repeat (with_reducible first | exact HB.out | apply below_alloc | apply pw_below_drewN | apply below_drew1 | refine below_set ?_ GE392.out)) hb); have n2_ := Aside0.mk (hbox); have n3_ := Aside0.mk ((by rw [hg]; exact (below_size (by repeat (with_reducible first | exact HB.out | apply below_alloc | apply pw_below_drewN | apply below_drew1 | refine below_set ?_ GE392.out))) : w.heap.size ≤ gb394)); have n4_ := n3_; have n5_ := Aside0.mk ((by rw [hg]; exact Nat.ne_of_lt (blk_lt (g := gb392) (o := .cells #[.int .i64 a1_0, .int .i64 a1_1, .int .i64 a1_2, .int .i64 a1_3, .int .i64 a1_4] 43 (0, 0)) (by (with_reducible repeat (first | refine blk_drewN ?_ _ | refine blk_drew ?_ | refine blk_alloc ?_ _)); exact BK392.out)) : gb392 ≠ gb394)); have n6_ := Aside0.mk ((by rw [hg]; exact Nat.ne_of_gt (blk_lt (g := gb392) (o := .cells #[.int .i64 a1_0, .int .i64 a1_1, .int .i64 a1_2, .int .i64 a1_3, .int .i64 a1_4] 43 (0, 0)) (by (with_reducible repeat (first | refine blk_drewN ?_ _ | refine blk_drew ?_ | refine blk_alloc ?_ _)); exact BK392.out)) : gb394 ≠ gb392)); clear BK392; clear HB; have BK392 := n0_; have HB := n1_; have BK394 := n2_; have GW394 := n3_; have GE394 := n4_; have NB392_394 := n5_; have NB394_392 := n6_; clear n0_ n1_ n2_ n3_ n4_ n5_ n6_; clear hb hbox hg; have hnb24 := NB394_392.out; have hnc24 := NB392_394.out; obtain ⟨hcz25_0, hcz25_1, hcz25_2, hfz25_0, hfz25_1, hfz25_2⟩ := blks3 BK394.out; obtain ⟨hcz26_0, hcz26_1, hcz26_2, hcz26_3, hcz26_4, hfz26_0, hfz26_1, hfz26_2, hfz26_3, hfz26_4⟩ := blks5 BK392.out)))
         go_ret2
         exact ⟨by first | rfl | (simp [errW_none, errW_some] <;> rfl) | (simp [*, errW_none, errW_some] <;> rfl), by repeat (with_reducible first | exact HB.out | apply below_alloc | apply pw_below_drewN | apply below_drew1 | refine below_set ?_ GE392.out | refine below_set ?_ GE394.out)⟩
       ·rw [if_neg c15] at H
        have c15b0 : (a1_0 == 4) = false := beq_eq_false_iff_ne.mpr c15
        have c15b1 : (a1_0 != 4) = true := bne_iff_ne.mpr c15
        simp only [Option.some.injEq, Prod.mk.injEq] at H
        obtain ⟨rfl, rfl⟩ := H
        have hcz27_0 : wc.cell? ⟨gb392, 0, none⟩ = some (.int .i64 a1_0) := (blk_cell BK392.out 0).trans rfl
        have hcz27_1 : wc.cell? ⟨gb392, 1, none⟩ = some (.int .i64 a1_1) := (blk_cell BK392.out 1).trans rfl
        have hcz27_2 : wc.cell? ⟨gb392, 2, none⟩ = some (.int .i64 a1_2) := (blk_cell BK392.out 2).trans rfl
        have hcz27_3 : wc.cell? ⟨gb392, 3, none⟩ = some (.int .i64 a1_3) := (blk_cell BK392.out 3).trans rfl
        have hcz27_4 : wc.cell? ⟨gb392, 4, none⟩ = some (.int .i64 a1_4) := (blk_cell BK392.out 4).trans rfl
        have hfz27_0 := blk_frozen BK392.out 0
        have hfz27_1 := blk_frozen BK392.out 1
        have hfz27_2 := blk_frozen BK392.out 2
        have hfz27_3 := blk_frozen BK392.out 3
        have hfz27_4 := blk_frozen BK392.out 4
        have p393 : 0 ≤ (a1_4 : Int) := of_decide_eq_true (by first | (with_reducible assumption) | assumption)
        have q393 : a1_4 < (l0.length : Int) := of_decide_eq_true (by first | (with_reducible assumption) | assumption)
        obtain ⟨ad393, e393, hx393_0, hx393_1, hx393_2⟩ := at_T101 HR0.out a1_4 p393 q393
        cases e393
        replace hx393_0 := (HB.out.cell (World.block_lt_of_cell? w _ hx393_0)).trans hx393_0
        replace hx393_1 := (HB.out.cell (World.block_lt_of_cell? w _ hx393_1)).trans hx393_1
        replace hx393_2 := (HB.out.cell (World.block_lt_of_cell? w _ hx393_2)).trans hx393_2
        replace p393 := eq_true p393
        replace q393 := eq_true q393
        go_wp2_with (first | ((with_reducible refine gate_dst (N := 6) rfl ?_); (try (refine gate_guard (by rfl) ?_; dsimp only)); refine box_event ?hg (N := 6) ?hd (cs := #[.int .i64 0, .int .u8 0, .int .i64 0]) (t := 101) ?hr ?_; (case hd => rfl); (case hg => rfl); (case hr => first | (go_simp; done) | (go_simp; rfl)); intro gb394 hg w28 hbox hb; have n0_ := Aside0.mk (blk_below (g := gb392) (o := .cells #[.int .i64 a1_0, .int .i64 a1_1, .int .i64 a1_2, .int .i64 a1_3, .int .i64 a1_4] 43 (0, 0)) (by (with_reducible repeat (first | refine blk_drewN ?_ _ | refine blk_drew ?_ | refine blk_alloc ?_ _)); exact BK392.out) hb); have n1_ := Aside0.mk (below_step (by repeat (with_reducible first | exact HB.out | apply below_alloc | apply pw_below_drewN | apply below_drew1 | refine below_set ?_ GE392.out)) hb); have n2_ := Aside0.mk (hbox); have n3_ := Aside0.mk ((by rw [hg]; exact (below_size (by repeat (with_reducible first | exact HB.out | apply below_alloc | apply pw_below_drewN | apply below_drew1 | refine below_set ?_ GE392.out))) : w.heap.size ≤ gb394)); have n4_ := n3_; have n5_ := Aside0.mk ((by rw [hg]; exact Nat.ne_of_lt (blk_lt (g := gb392) (o := .cells #[.int .i64 a1_0, .int .i64 a1_1, .int .i64 a1_2, .int .i64 a1_3, .int .i64 a1_4] 43 (0, 0)) (by (with_reducible repeat (first | refine blk_drewN ?_ _ | refine blk_drew ?_ | refine blk_alloc ?_ _)); exact BK392.out)) : gb392 ≠ gb394)); have n6_ := Aside0.mk ((by rw [hg]; exact Nat.ne_of_gt (blk_lt (g := gb392) (o := .cells #[.int .i64 a1_0, .int .i64 a1_1, .int .i64 a1_2, .int .i64 a1_3, .int .i64 a1_4] 43 (0, 0)) (by (with_reducible repeat (first | refine blk_drewN ?_ _ | refine blk_drew ?_ | refine blk_alloc ?_ _)); exact BK392.out)) : gb394 ≠ gb392)); clear BK392; clear HB; have BK392 := n0_; have HB := n1_; have BK394 := n2_; have GW394 := n3_; have GE394 := n4_; have NB392_394 := n5_; have NB394_392 := n6_; clear n0_ n1_ n2_ n3_ n4_ n5_ n6_; clear hb hbox hg; have hnb29 := NB394_392.out; have hnc29 := NB392_394.out; obtain ⟨hcz30_0, hcz30_1, hcz30_2, hfz30_0, hfz30_1, hfz30_2⟩ := blks3 BK394.out; obtain ⟨hcz31_0, hcz31_1, hcz31_2, hcz31_3, hcz31_4, hfz31_0, hfz31_1, hfz31_2, hfz31_3, hfz31_4⟩ := blks5 BK392.out))
        repeat (go_quiet (first | ((with_reducible refine gate_dst (N := 6) rfl ?_); (try (refine gate_guard (by rfl) ?_; dsimp only)); refine box_event ?hg (N := 6) ?hd (cs := #[.int .i64 0, .int .u8 0, .int .i64 0]) (t := 101) ?hr ?_; (case hd => rfl); (case hg => rfl); (case hr => first | (go_simp; done) | (go_simp; rfl)); intro gb394 hg w28 hbox hb; have n0_ := Aside0.mk (blk_below (g := gb392) (o := .cells #[.int .i64 a1_0, .int .i64 a1_1, .int .i64 a1_2, .int .i64 a1_3, .int .i64 a1_4] 43 (0, 0)) (by (with_reducible repeat (first | refine blk_drewN ?_ _ | refine blk_drew ?_ | refine blk_alloc ?_ _)); exact BK392.out) hb); have n1_ := Aside0.mk (below_step (by repeat (with_reducible first | exact HB.out | apply below_alloc | apply pw_below_drewN | apply below_drew1 | refine below_set ?_ GE392.out)) hb); have n2_ := Aside0.mk (hbox); have n3_ := Aside0.mk ((by rw [hg]; exact (below_size (by repeat (with_reducible first | exact HB.out | apply below_alloc | apply pw_below_drewN | apply below_drew1 | refine below_set ?_ GE392.out))) : w.heap.size ≤ gb394)); have n4_ := n3_; have n5_ := Aside0.mk ((by rw [hg]; exact Nat.ne_of_lt (blk_lt (g := gb392) (o := .cells #[.int .i64 a1_0, .int .i64 a1_1, .int .i64 a1_2, .int .i64 a1_3, .int .i64 a1_4] 43 (0, 0)) (by (with_reducible repeat (first | refine blk_drewN ?_ _ | refine blk_drew ?_ | refine blk_alloc ?_ _)); exact BK392.out)) : gb392 ≠ gb394)); have n6_ := Aside0.mk ((by rw [hg]; exact Nat.ne_of_gt (blk_lt (g := gb392) (o := .cells #[.int .i64 a1_0, .int .i64 a1_1, .int .i64 a1_2, .int .i64 a1_3, .int .i64 a1_4] 43 (0, 0)) (by (with_reducible repeat (first | refine blk_drewN ?_ _ | refine blk_drew ?_ | refine blk_alloc ?_ _)); exact BK392.out)) : gb394 ≠ gb392)); clear BK392; clear HB; have BK392 := n0_; have HB := n1_; have BK394 := n2_; have GW394 := n3_; have GE394 := n4_; have NB392_394 := n5_; have NB394_392 := n6_; clear n0_ n1_ n2_ n3_ n4_ n5_ n6_; clear hb hbox hg; have hnb29 := NB394_392.out; have hnc29 := NB392_394.out; obtain ⟨hcz30_0, hcz30_1, hcz30_2, hfz30_0, hfz30_1, hfz30_2⟩ := blks3 BK394.out; obtain ⟨hcz31_0, hcz31_1, hcz31_2, hcz31_3, hcz31_4, hfz31_0, hfz31_1, hfz31_2, hfz31_3, hfz31_4⟩ := blks5 BK392.out)); try go_wp2_with (first | ((with_reducible refine gate_dst (N := 6) rfl ?_); (try (refine gate_guard (by rfl) ?_; dsimp only)); refine box_event ?hg (N := 6) ?hd (cs := #[.int .i64 0, .int .u8 0, .int .i64 0]) (t := 101) ?hr ?_; (case hd => rfl); (case hg => rfl); (case hr => first | (go_simp; done) | (go_simp; rfl)); intro gb394 hg w28 hbox hb; have n0_ := Aside0.mk (blk_below (g := gb392) (o := .cells #[.int .i64 a1_0, .int .i64 a1_1, .int .i64 a1_2, .int .i64 a1_3, .int .i64 a1_4] 43 (0, 0)) (by (with_reducible repeat (first | refine blk_drewN ?_ _ | refine blk_drew ?_ | refine blk_alloc ?_ _)); exact BK392.out) hb); have n1_ := Aside0.mk (below_step (by repeat (with_reducible first | exact HB.out | apply below_alloc | apply pw_below_drewN | apply below_drew1 | refine below_set ?_ GE392.out)) hb); have n2_ := Aside0.mk (hbox); have n3_ := Aside0.mk ((by rw [hg]; exact (below_size (by repeat (with_reducible first | exact HB.out | apply below_alloc | apply pw_below_drewN | apply below_drew1 | refine below_set ?_ GE392.out))) : w.heap.size ≤ gb394)); have n4_ := n3_; have n5_ := Aside0.mk ((by rw [hg]; exact Nat.ne_of_lt (blk_lt (g := gb392) (o := .cells #[.int .i64 a1_0, .int .i64 a1_1, .int .i64 a1_2, .int .i64 a1_3, .int .i64 a1_4] 43 (0, 0)) (by (with_reducible repeat (first | refine blk_drewN ?_ _ | refine blk_drew ?_ | refine blk_alloc ?_ _)); exact BK392.out)) : gb392 ≠ gb394)); have n6_ := Aside0.mk ((by rw [hg]; exact Nat.ne_of_gt (blk_lt (g := gb392) (o := .cells #[.int .i64 a1_0, .int .i64 a1_1, .int .i64 a1_2, .int .i64 a1_3, .int .i64 a1_4] 43 (0, 0)) (by (with_reducible repeat (first | refine blk_drewN ?_ _ | refine blk_drew ?_ | refine blk_alloc ?_ _)); exact BK392.out)) : gb394 ≠ gb392)); clear BK392; clear HB; have BK392 := n0_; have HB := n1_; have BK394 := n2_; have GW394 := n3_; have GE394 := n4_; have NB392_394 := n5_; have NB394_392 := n6_; clear n0_ n1_ n2_ n3_ n4_ n5_ n6_; clear hb hbox hg; have hnb29 := NB394_392.out; have hnc29 := NB392_394.out; obtain ⟨hcz30_0, hcz30_1, hcz30_2, hfz30_0, hfz30_1, hfz30_2⟩ := blks3 BK394.out; obtain ⟨hcz31_0, hcz31_1, hcz31_2, hcz31_3, hcz31_4, hfz31_0, hfz31_1, hfz31_2, hfz31_3, hfz31_4⟩ := blks5 BK392.out)))
        go_ret2
        exact ⟨by first | rfl | (simp [errW_none, errW_some] <;> rfl) | (simp [*, errW_none, errW_some] <;> rfl), by repeat (with_reducible first | exact HB.out | apply below_alloc | apply pw_below_drewN | apply below_drew1 | refine below_set ?_ GE392.out | refine below_set ?_ GE394.out)⟩
      ·rw [if_neg c14] at H
       exact absurd H (by simp)
     ·rw [if_neg c13] at H
      exact absurd H (by simp)
end Go.Proofs.Ytbddfnmhhmkfkaa.Pr
namespace Go.Proofs.Ytbddfnmhhmkfkaa.Pr
open Go.RowKit Go.Proofs.YtbddfnmhhmkfkaaW.PrintWords
attribute [local go_sem] Oper.semAt_some
def Tells (f : Nat) (T : S43 → Int) : Prop := (f = 81 ∨ f = 82 ∨ f = 83) ∧ ∀ (a0 a1 a2 a3 a4 : Int) (w : World), Calls Try.prog f #[.agg #[.int .i64 a0, .int .i64 a1, .int .i64 a2, .int .i64 a3, .int .i64 a4]] w fun e w' => e = .returned (.int .i64 (T ⟨a0, a1, a2, a3, a4⟩)) ∧ Below w.heap.size w w'
def wideT (x : S43) : Int := if x.f0 = 3 then 0 else x.f1
def growT (x : S43) : Int := if x.f0 = 2 then x.f2 else 0
def shrinkT (x : S43) : Int := if x.f0 = 2 then x.f3 else 0
theorem wide_tells : Tells 81 wideT := ⟨by decide, fun a0 a1 a2 a3 a4 w => lines_wide.calls a0 a1 a2 a3 a4 _ w (by unfold lines_wide.f wideT; split <;> rfl)⟩
theorem grow_tells : Tells 82 growT := ⟨by decide, fun a0 a1 a2 a3 a4 w => lines_grows.calls a0 a1 a2 a3 a4 _ w (by unfold lines_grows.f growT; split <;> rfl)⟩
theorem shrink_tells : Tells 83 shrinkT := ⟨by decide, fun a0 a1 a2 a3 a4 w => lines_shrinks.calls a0 a1 a2 a3 a4 _ w (by unfold lines_shrinks.f shrinkT; split <;> rfl)⟩
def sumT (T : S43 → Int) (l : List S43) (k : Nat) : Int := (l.take k).foldl (fun n x => wrap64 (n + T x)) 0
theorem sumT_succ (T : S43 → Int) (l : List S43) (k : Nat) (h : k < l.length) : sumT T l (k + 1) = wrap64 (sumT T l k + T (rd_T43 l k)) := by
 have h1 : l[k]? = some (rd_T43 l k) := by
  unfold rd_T43
  rw [Int.toNat_natCast, List.getD_eq_getElem?_getD, List.getElem?_eq_getElem h]
  rfl
 unfold sumT
 rw [List.take_add_one, h1]
 simp only [Option.toList_some, List.foldl_append, List.foldl_cons, List.foldl_nil]
set_option maxRecDepth 100000 in
set_option maxHeartbeats 2000000 in
theorem sum_calls (f : Nat) (T : S43 → Int) (HT : Tells f T) (A : Option Addr) (c : Nat) (l : List S43) (w : World) (hl : l.length ≤ 1000000) (hA : Kd.C k43 w A l.length l) :
  Calls Try.prog 80 #[.slice A l.length c, .func (.func f) #[] #[]] w fun e w' => e = .returned (.int .i64 (sumT T l l.length)) ∧ Below w.heap.size w w' := by
 have HA := Lib.hid hA
 obtain ⟨hf, hT⟩ := HT
 have HT := Lib.hid hT
 obtain ⟨n, hn⟩ : ∃ n, l.length = n := ⟨_, rfl⟩
 rw [hn] at hA hl ⊢
 have HN := Lib.hid hn
 clear hn hA hT
 rcases hf with rfl | rfl | rfl
 all_goals
  go_enter Try.func80, Try.ntmps80
  go_wp2_with fail
  go_loopw [5, 10] (fun v5 v10 wr => ∃ (k : Nat), v10 = .int .i64 k ∧ k ≤ n ∧ v5 = .int .i64 (sumT T l k) ∧ Below w.heap.size w wr) (fun _ v _ => n - (intOf v).toNat)
  case atStart => exact ⟨0, rfl, Nat.zero_le _, rfl, Below.refl _ _⟩
  case round =>
   obtain ⟨k, rfl, hk, rfl, hB⟩ := hrel
   by_cases hlt : k < n
   ·have hlt1 : (k : Int) < (n : Int) := by omega
    obtain ⟨ad, e1, q0, q1, q2, q3, q4⟩ := at_T43 (Kd.C_below HA.out hB) k (by omega) (by have := HN.out; omega)
    cases e1
    have hnx := Lib.hid (sumT_succ T l k (by have := HN.out; omega))
    generalize rd_T43 l k = x at *
    obtain ⟨f0, f1, f2, f3, f4⟩ := x
    simp only [Int.toNat_natCast] at q0 q1 q2 q3 q4
    go_wp2_with fail
    refine (HT.out f0 f1 f2 f3 f4 _).mono ?_
    rintro _ w2 ⟨rfl, hb⟩
    replace hb := (hB.alloc hB.size _).trans (hb.mono (by have := hB.size; simp; omega))
    go_wp2
    go_roundw
    case rel => exact ⟨k + 1, by go_num, by omega, by rw [hnx.out], hb⟩
    case measure => simp [intOf]; omega
   ·obtain rfl : k = n := by omega
    have hlt1 : ¬ (k : Int) < (k : Int) := by omega
    go_wp2
    go_ret
    exact ⟨rfl, hB⟩
theorem below_both {B : Nat} {w W : World} (h : Below B w W) (p : Addr) (u : Value) : Below B (w.setCell p u) (W.setCell p u) :=
 ⟨h.os, h.tape, h.output, by simpa [World.setCell] using h.size, fun k hk => by simp only [World.setCell, Array.getElem?_modify, h.block k hk]⟩
def quoP (s a all : Int) : Int := wrap64 (Int.tdiv (wrap64 (s * a)) all)
def shareP (s all a t : Int) : Int := wrap64 (quoP s (wrap64 (a + t)) all - quoP s a all)
theorem share_none (x : S43) (gA gS gH gT : Nat) (w : World) (hA : w.heap[gA]? = some (.cells #[.int .i64 0] 3 (0, 0))) :
  Calls Try.prog 84 #[.agg #[.int .i64 x.f0, .int .i64 x.f1, .int .i64 x.f2, .int .i64 x.f3, .int .i64 x.f4], .pointer (some ⟨gA, 0, none⟩), .pointer (some ⟨gS, 0, none⟩), .pointer (some ⟨gH, 0, none⟩), .pointer (some ⟨gT, 0, none⟩)] w fun e w' => e = .returned (.int .i64 0) ∧ Below w.heap.size w w' := by
 have hA1 := blk_cell (blk_alloc hA (.cells #[.int .i64 x.f0, .int .i64 x.f1, .int .i64 x.f2, .int .i64 x.f3, .int .i64 x.f4] 43)) 0
 simp only [List.getElem?_toArray, List.getElem?_cons_zero] at hA1
 go_enter Try.func84, Try.ntmps84
 go_wp2
 go_ret
 exact ⟨rfl, (Below.refl _ w).alloc (Nat.le_refl _) _⟩
set_option maxRecDepth 100000 in
set_option maxHeartbeats 2000000 in
theorem share_some (f : Nat) (T : S43 → Int) (HT : Tells f T) (x : S43) (all s a : Int) (gA gS gH gT : Nat) (w : World) (h0 : all ≠ 0) (hA : w.heap[gA]? = some (.cells #[.int .i64 all] 3 (0, 0))) (hS : w.heap[gS]? = some (.cells #[.int .i64 s] 3 (0, 0)))
  (hH : w.heap[gH]? = some (.cells #[.int .i64 a] 3 (0, 0))) (hT : w.heap[gT]? = some (.cells #[.func (.func f) #[] #[]] 118 (0, 0))) (nA : gA ≠ gH) (nS : gS ≠ gH) (nT : gT ≠ gH) :
  Calls Try.prog 84 #[.agg #[.int .i64 x.f0, .int .i64 x.f1, .int .i64 x.f2, .int .i64 x.f3, .int .i64 x.f4], .pointer (some ⟨gA, 0, none⟩), .pointer (some ⟨gS, 0, none⟩), .pointer (some ⟨gH, 0, none⟩), .pointer (some ⟨gT, 0, none⟩)] w fun e w' =>
   e = .returned (.int .i64 (shareP s all a (T x))) ∧ Below w.heap.size (w.setCell ⟨gH, 0, none⟩ (.int .i64 (wrap64 (a + T x)))) w' := by
 obtain ⟨hf, hT'⟩ := HT
 have HF := Lib.hid hT'
 obtain ⟨f0, f1, f2, f3, f4⟩ := x
 have h0b : (all == 0) = false := beq_eq_false_iff_ne.2 h0
 have hx := blk_new w (.cells #[.int .i64 f0, .int .i64 f1, .int .i64 f2, .int .i64 f3, .int .i64 f4] 43)
 have hlt := blk_lt hH
 have hA1 := blk_alloc hA (.cells #[.int .i64 f0, .int .i64 f1, .int .i64 f2, .int .i64 f3, .int .i64 f4] 43)
 have hS1 := blk_alloc hS (.cells #[.int .i64 f0, .int .i64 f1, .int .i64 f2, .int .i64 f3, .int .i64 f4] 43)
 have hH1 := blk_alloc hH (.cells #[.int .i64 f0, .int .i64 f1, .int .i64 f2, .int .i64 f3, .int .i64 f4] 43)
 have hT1 := blk_alloc hT (.cells #[.int .i64 f0, .int .i64 f1, .int .i64 f2, .int .i64 f3, .int .i64 f4] 43)
 obtain ⟨w1, hw1⟩ : ∃ w1, w.alloc (.cells #[.int .i64 f0, .int .i64 f1, .int .i64 f2, .int .i64 f3, .int .i64 f4] 43) = w1 := ⟨_, rfl⟩
 rw [hw1] at hx hA1 hS1 hH1 hT1
 have hsz : w1.heap.size = w.heap.size + 1 := by rw [← hw1]; simp
 have cA := blk_cell hA1 0
 have cS := blk_cell hS1 0
 have cH := blk_cell hH1 0
 simp only [List.getElem?_toArray, List.getElem?_cons_zero] at cA cS cH
 have HW1 := Lib.hid hw1
 have HX := Lib.hid hx
 have HA1 := Lib.hid hA1
 have HS1 := Lib.hid hS1
 have HH1 := Lib.hid hH1
 have HT1 := Lib.hid hT1
 go_enter Try.func84, Try.ntmps84
 clear hx hA1 hS1 hH1 hT1
 go_wp2_with fail
 clear hw1
 rcases hf with rfl | rfl | rfl
 all_goals
  refine Go.Det.region_det (fun W => Below w1.heap.size w1 W) 5 (by kernel_rfl) (by kernel_rfl) (by kernel_rfl) (by decide) (below_drew1 (Below.refl _ _)) ?_
  repeat
   apply Go.Det.seqW_cons
   focus
    intro W hS
    replace hS : Below w1.heap.size w1 W := hS
    have x0 := blk_cell (blk_below HX.out hS) 0
    have x1 := blk_cell (blk_below HX.out hS) 1
    have x2 := blk_cell (blk_below HX.out hS) 2
    have x3 := blk_cell (blk_below HX.out hS) 3
    have x4 := blk_cell (blk_below HX.out hS) 4
    have xH := blk_cell (blk_below HH1.out hS) 0
    have xT := blk_cell (blk_below HT1.out hS) 0
    simp only [List.getElem?_toArray, List.getElem?_cons_succ, List.getElem?_cons_zero] at x0 x1 x2 x3 x4 xH xT
    go_wp2_with (refine (HF.out f0 f1 f2 f3 f4 _).mono ?_; rintro _ W2 ⟨rfl, hb⟩; replace hS := hS.trans (hb.mono hS.size))
    exact Go.Det.AtEnd.mk hS
  refine Go.Det.seqW_nil ?_
  intro W hS
  replace hS : Below w1.heap.size w1 W := hS
  have yH := blk_below HH1.out hS
  have yA := blk_below HA1.out hS
  have yS := blk_below HS1.out hS
  have zH := blk_frozen yH 0
  have kH := blk_cell yH 0
  have kH' := blk_cell (blk_set yH 0 (.int .i64 (wrap64 (a + T ⟨f0, f1, f2, f3, f4⟩)))) 0
  have kA := blk_cell (blk_far yA (p := ⟨gH, 0, none⟩) nA (.int .i64 (wrap64 (a + T ⟨f0, f1, f2, f3, f4⟩)))) 0
  have kS := blk_cell (blk_far yS (p := ⟨gH, 0, none⟩) nS (.int .i64 (wrap64 (a + T ⟨f0, f1, f2, f3, f4⟩)))) 0
  have hfin : Below w.heap.size (w.setCell ⟨gH, 0, none⟩ (.int .i64 (wrap64 (a + T ⟨f0, f1, f2, f3, f4⟩)))) (W.setCell ⟨gH, 0, none⟩ (.int .i64 (wrap64 (a + T ⟨f0, f1, f2, f3, f4⟩)))) := by
   refine below_both ?_ _ _
   have hB1 := (Below.refl w.heap.size w).alloc (Nat.le_refl _) (.cells #[.int .i64 f0, .int .i64 f1, .int .i64 f2, .int .i64 f3, .int .i64 f4] 43)
   rw [HW1.out] at hB1
   exact hB1.trans (hS.mono (by omega))
  have HFin := Lib.hid hfin
  clear hfin
  simp only [List.getElem?_toArray, List.getElem?_cons_succ, List.getElem?_cons_zero, List.setIfInBounds_toArray, List.set_cons_zero] at kH kH' kA kS
  clear hT' hS hA hH hT hlt yH yA yS hsz
  simp only [List.drop_succ_cons, List.drop_zero]
  go_wp2
  go_ret
  exact ⟨rfl, HFin.out⟩
def sumP (s : S85) (x : S43) : S85 :=
 if x.f0 = 2 then ⟨wrap64 (s.f0 + x.f1), wrap64 (s.f1 + x.f2), wrap64 (s.f2 + x.f3)⟩
 else if x.f0 = 1 ∨ x.f0 = 4 then ⟨wrap64 (s.f0 + x.f1), s.f1, s.f2⟩ else s
def sumAt (l : List S43) (k : Nat) : S85 := (l.take k).foldl sumP z85
def sumsTo (l : List S43) (k : Nat) : List S85 := (List.range (k + 1)).map (sumAt l)
def flat85 (xs : List S85) : List Value := xs.flatMap fun x => [.int .i64 x.f0, .int .i64 x.f1, .int .i64 x.f2]
theorem flat85_length (xs : List S85) : (flat85 xs).length = xs.length * 3 := by
 induction xs with
 | nil => rfl
 | cons x xs ih => simp [flat85] at ih ⊢; omega
theorem flat85_snoc (xs : List S85) (x : S85) : flat85 (xs ++ [x]) = flat85 xs ++ [.int .i64 x.f0, .int .i64 x.f1, .int .i64 x.f2] := by simp [flat85]
theorem sumsTo_succ (l : List S43) (k : Nat) : sumsTo l (k + 1) = sumsTo l k ++ [sumAt l (k + 1)] := by
 unfold sumsTo
 rw [List.range_succ, List.map_append]
 rfl
theorem sumAt_succ (l : List S43) (k : Nat) (x : S43) (h : l[k]? = some x) : sumAt l (k + 1) = sumP (sumAt l k) x := by
 unfold sumAt
 rw [List.take_add_one, h]
 simp
theorem info85h : (Try.prog.info? 85).map (fun i => (i.zero, i.size, i.bytes)) = some (some (.agg #[(.int .i64 0), (.int .i64 0), (.int .i64 0)]), 3, 24) := by kernel_rfl
theorem sums_last (l : List S43) (k : Nat) : ∃ pre, flat85 (sumsTo l k) = pre ++ [.int .i64 (sumAt l k).f0, .int .i64 (sumAt l k).f1, .int .i64 (sumAt l k).f2] ∧ pre.length = k * 3 := by
 refine ⟨flat85 ((List.range k).map (sumAt l)), ?_, by rw [flat85_length]; simp⟩
 unfold sumsTo
 rw [List.range_succ, List.map_append]
 exact flat85_snoc _ _
theorem sums_next (l : List S43) (k : Nat) (x : S43) (h : l[k]? = some x) : flat85 (sumsTo l (k + 1)) = flat85 (sumsTo l k) ++ [.int .i64 (sumP (sumAt l k) x).f0, .int .i64 (sumP (sumAt l k) x).f1, .int .i64 (sumP (sumAt l k) x).f2] := by
 rw [sumsTo_succ, flat85_snoc, sumAt_succ l k x h]
theorem cells_new (w : World) (cs : List Value) (t : TypeId) : ∀ j u, cs[j]? = some u → (w.alloc (.cells cs.toArray t)).cell? ((⟨w.heap.size, 0, none⟩ : Addr).add j) = some u := by
 intro j u hj
 rw [add_plain]
 simp only [World.cell?, heap_alloc_new]
 simpa using hj
theorem made3 (n : Nat) : (madeCells #[.int .i64 0, .int .i64 0, .int .i64 0] ((n + 1) * 3)).toList.take (1 * 3) = [.int .i64 0, .int .i64 0, .int .i64 0] := by
 apply List.ext_getElem?
 intro j
 rw [List.getElem?_take]
 rcases j with _ | _ | _ | j
 ·simp [madeCells]
 ·have h1 : 1 < (n + 1) * 3 := by omega
  simp [madeCells, h1]
 ·have h2 : 2 < (n + 1) * 3 := by omega
  simp [madeCells, h2]
 ·rw [if_neg (by omega)]
  rfl
theorem own_apart {w : World} {base e size n : Nat} {v : Value} {xs : List Value} (h : w.ownsRow base e size v n xs) {b : Nat} {t : TypeId} {cs : Array Value} (hb : w.heap[b]? = some (.cells cs t (0, 0))) (hne : t ≠ e) : some b ≠ v.ownBlock := by
 rcases h.2 with ⟨rfl, _⟩ | ⟨g, cap, cur, rfl, _, hg, _⟩
 ·simp [Value.ownBlock]
 ·have := blk_ne hb hg hne
  simpa [Value.ownBlock] using this
set_option pp.maxSteps 3000 in
set_option maxRecDepth 100000 in
set_option maxHeartbeats 2000000 in
theorem begin_calls (A : Option Addr) (c : Nat) (l : List S43) (wd : Int) (w : World) (hl : l.length ≤ 1000000) (hA : Kd.C k43 w A l.length l) :
  Calls Try.prog 43 #[.slice A l.length c, .int .i64 wd] w fun e w' => ∃ v, e = .returned (.agg #[.slice A l.length c, .int .i64 wd, v]) ∧ w'.ownsRow w.heap.size 85 3 v (l.length + 1) (flat85 (sumsTo l l.length)) ∧ Below w.heap.size w w' := by
 obtain ⟨i0, hi, hz0, hz1, hz2⟩ := info_parts info85h
 have HA := Lib.hid hA
 obtain ⟨n, hn⟩ : ∃ n, l.length = n := ⟨_, rfl⟩
 rw [hn] at hl ⊢
 have HN := Lib.hid hn
 clear hn hA
 have hn1 : (n : Int) ≤ 1000000 := by omega
 have hmk : ∀ W : World, (Instr.makeSlice 65 (.int .i64 1) (.int .i64 ((n : Int) + 1))).run Try.prog W = .ok (.slice (some ⟨W.heap.size, 0, none⟩) 1 (n + 1)) (W.alloc (.cells (madeCells #[.int .i64 0, .int .i64 0, .int .i64 0] ((n + 1) * 3)) 85)) := fun W => by
  have hr := run_make (P := Try.prog) W 65 85 i0 _ Try.underlying65 hi hz0 .i64 .i64 1 ((n : Int) + 1) (by omega) (by omega) (by rw [hz2]; omega) (by omega)
  rw [hz1, show ((n : Int) + 1).toNat = n + 1 by omega] at hr
  exact hr
 have hrow0 : ∀ W : World, (W.alloc (.cells (madeCells #[.int .i64 0, .int .i64 0, .int .i64 0] ((n + 1) * 3)) 85)).ownsRow W.heap.size 85 3 (.slice (some ⟨W.heap.size, 0, none⟩) 1 (n + 1)) 1 [.int .i64 0, .int .i64 0, .int .i64 0] := fun W => by
  refine ⟨rfl, .inr ⟨W.heap.size, n + 1, _, rfl, Nat.le_refl _, heap_alloc_new W _, by omega, by unfold maxLen; omega, size_madeCells _ _, ?_⟩⟩
  exact made3 n
 have HR0 := Lib.hid hrow0
 clear hrow0
 go_enter Try.func43, Try.ntmps43
 go_wp2_with fail
 go_loopw [18] (fun v wr => ∃ (k : Nat) (u : Value), v = .int .i64 k ∧ k ≤ n ∧ wr.heap[w.heap.size + 1 + 1]? = some (.cells #[.slice A n c, .int .i64 wd, u] 67 (0, 0)) ∧ wr.heap[w.heap.size]? = some (.cells #[.slice none 0 0, .int .i64 0, .slice none 0 0] 67 (0, 0)) ∧
   wr.ownsRow (w.heap.size + 1) 85 3 u (k + 1) (flat85 (sumsTo l k)) ∧ Below w.heap.size w wr) (fun v _ => n - (intOf v).toNat)
 case atStart =>
  have b1 := blk_new w (.cells #[.slice none 0 0, .int .i64 0, .slice none 0 0] 67)
  have r1 := HR0.out (w.alloc (.cells #[.slice none 0 0, .int .i64 0, .slice none 0 0] 67))
  have hB1 := (((Below.refl _ w).alloc (Nat.le_refl _) (.cells #[.slice none 0 0, .int .i64 0, .slice none 0 0] 67)).alloc (by simp) (.cells (madeCells #[.int .i64 0, .int .i64 0, .int .i64 0] ((n + 1) * 3)) 85))
  have b2 := blk_alloc b1 (.cells (madeCells #[.int .i64 0, .int .i64 0, .int .i64 0] ((n + 1) * 3)) 85)
  have b3 := blk_new ((w.alloc (.cells #[.slice none 0 0, .int .i64 0, .slice none 0 0] 67)).alloc (.cells (madeCells #[.int .i64 0, .int .i64 0, .int .i64 0] ((n + 1) * 3)) 85)) (.cells #[.slice A n c, .int .i64 wd, .slice (some ⟨w.heap.size + 1, 0, none⟩) 1 (n + 1)] 67)
  simp only [World.size_alloc] at r1 b3
  exact ⟨0, _, rfl, Nat.zero_le _, b3, blk_alloc b2 _, r1.alloc _, hB1.alloc (by simp; omega) _⟩
 case round =>
  obtain ⟨k, u, rfl, hk, hF, hR, hown, hB⟩ := hrel
  by_cases hlt : k < n
  ·have hlt1 : (k : Int) < (n : Int) := by omega
   obtain ⟨ad, e1, q0, q1, q2, q3, q4⟩ := at_T43 (Kd.C_below HA.out hB) k (by omega) (by have := HN.out; omega)
   cases e1
   have hxk : l[k]? = some (rd_T43 l k) := by
    unfold rd_T43
    rw [Int.toNat_natCast, List.getD_eq_getElem?_getD, List.getElem?_eq_getElem (by have := HN.out; omega)]
    rfl
   have hnx := sums_next l k _ hxk
   obtain ⟨pre, hp, hpl⟩ := sums_last l k
   obtain ⟨g, cap, rfl⟩ := ownsRow_succ hown
   have HP := Lib.hid hp
   have HNX := Lib.hid hnx
   have HO := Lib.hid hown
   have HF := Lib.hid hF
   have HRR := Lib.hid hR
   have hca : ∀ o : Obj, (wr.alloc o).cell? ⟨w.heap.size + 1 + 1, 2, none⟩ = some (.slice (some ⟨g, 0, none⟩) (k + 1) cap) ∧ (wr.alloc o).cell? ⟨g, k * 3, none⟩ = some (.int .i64 (sumAt l k).f0) ∧ (wr.alloc o).cell? ⟨g, k * 3 + 1, none⟩ = some (.int .i64 (sumAt l k).f1) ∧ (wr.alloc o).cell? ⟨g, k * 3 + 2, none⟩ = some (.int .i64 (sumAt l k).f2) := fun o => by
    have s0 := (HO.out.alloc o).cellAt (k * 3) (by omega)
    have s1 := (HO.out.alloc o).cellAt (k * 3 + 1) (by omega)
    have s2 := (HO.out.alloc o).cellAt (k * 3 + 2) (by omega)
    rw [hp, List.getElem?_append_right (by omega), hpl, Nat.sub_self] at s0
    rw [hp, List.getElem?_append_right (by omega), hpl, show k * 3 + 1 - k * 3 = 1 by omega] at s1
    rw [hp, List.getElem?_append_right (by omega), hpl, show k * 3 + 2 - k * 3 = 2 by omega] at s2
    exact ⟨by rw [blk_cell (blk_alloc HF.out o) 2]; rfl, s0, s1, s2⟩
   clear hnx hp hpl hxk hown HP hF hR
   generalize rd_T43 l k = x at *
   generalize sumAt l k = s at *
   obtain ⟨f0, f1, f2, f3, f4⟩ := x
   obtain ⟨t0, t1, t2⟩ := s
   obtain ⟨c2, s0, s1, s2⟩ := hca (.cells #[.int .i64 f0, .int .i64 f1, .int .i64 f2, .int .i64 f3, .int .i64 f4] 43)
   simp only [Int.toNat_natCast] at q0 q1 q2 q3 q4 s0 s1 s2
   have hcb : ∀ o o' : Obj, ((wr.alloc o).alloc o').cell? ⟨w.heap.size + 1 + 1, 2, none⟩ = some (.slice (some ⟨g, 0, none⟩) (k + 1) cap) := fun o o' => by rw [blk_cell (blk_alloc (blk_alloc HF.out o) o') 2]; rfl
   by_cases h2 : f0 = 2
   ·subst h2
    go_wp2_with (at_builtin; refine wpList_append_own _ rfl _ _ 65 rfl (w.heap.size + 1) 85 i0 (.agg #[(.int .i64 0), (.int .i64 0), (.int .i64 0)]) 3 24 Try.underlying65 hi hz0 hz1 hz2 rfl (by decide) _ _ _ rfl (((HO.out.alloc _).alloc _).alloc _) _ 1 1 [.int .i64 (wrap64 (t0 + f1)), .int .i64 (wrap64 (t1 + f2)), .int .i64 (wrap64 (t2 + f3))] rfl rfl ?e1 ?e2 ?e3 ?e4 ?e5 ?e6)
    try (case e1 =>
     have := cells_new ((wr.alloc (.cells #[.int .i64 f0, .int .i64 f1, .int .i64 f2, .int .i64 f3, .int .i64 f4] 43)).alloc (.cells #[.int .i64 (wrap64 (t0 + f1)), .int .i64 (wrap64 (t1 + f2)), .int .i64 (wrap64 (t2 + f3))] 85)) [.int .i64 (wrap64 (t0 + f1)), .int .i64 (wrap64 (t1 + f2)), .int .i64 (wrap64 (t2 + f3))] 85
     simp only [World.size_alloc] at this
     exact this)
    case e2 => simp [Value.oneCell']
    case e3 => unfold maxLen; omega
    case e4 => omega
    case e5 => have := hB.size; simp; omega
    case e6 =>
     intro v' w1 hown' hgrow _
     obtain ⟨A', c', rfl⟩ := own_slice hown'
     have hF1 := blk_grown (blk_alloc (blk_alloc (blk_alloc HF.out _) _) _) hgrow (own_apart HO.out HF.out (by decide))
     have hR1 := blk_grown (blk_alloc (blk_alloc (blk_alloc HRR.out _) _) _) hgrow (own_apart HO.out HRR.out (by decide))
     have hBs := hB.size
     have hB1 : Below w.heap.size w w1 := (((hB.alloc hBs _).alloc (by simp; omega) _).alloc (by simp; omega) _).grown hgrow (by simp; omega) fun j hj => (by have := own_base HO.out j hj; omega)
     have hne1 := own_apart hown' hF1 (by decide)
     have hnx : flat85 (sumsTo l (k + 1)) = flat85 (sumsTo l k) ++ [.int .i64 (wrap64 (t0 + f1)), .int .i64 (wrap64 (t1 + f2)), .int .i64 (wrap64 (t2 + f3))] := by
      refine HNX.out.trans ?_
      simp [sumP]
     rw [← hnx] at hown'
     have c0 := blk_cell hF1 2
     simp only [List.getElem?_toArray, List.getElem?_cons_succ, List.getElem?_cons_zero] at c0
     have z0 := blk_frozen hF1 2
     have HF1 := Lib.hid hF1
     have HR1 := Lib.hid hR1
     have HO1 := Lib.hid hown'
     have HN1 := Lib.hid hne1
     clear hF1 hR1 hown' hne1 hgrow q0 q1 q2 q3 q4 s0 s1 s2 c2 hca hcb hnx
     go_wp2
     go_roundw
     case rel => exact ⟨k + 1, .slice A' (k + 1 + 1) c', by go_num, by omega, blk_put HF1.out 2 _ rfl, blk_far HR1.out (by simp; omega) _, own_setCell HO1.out HN1.out _, hB1.setCell (by simp; omega) _⟩
     case measure => simp [intOf]; omega
   ·by_cases h1 : f0 = 1
    ·subst h1
     go_wp2_with (at_builtin; refine wpList_append_own _ rfl _ _ 65 rfl (w.heap.size + 1) 85 i0 (.agg #[(.int .i64 0), (.int .i64 0), (.int .i64 0)]) 3 24 Try.underlying65 hi hz0 hz1 hz2 rfl (by decide) _ _ _ rfl (((HO.out.alloc _).alloc _).alloc _) _ 1 1 [.int .i64 (wrap64 (t0 + f1)), .int .i64 (t1), .int .i64 (t2)] rfl rfl ?x1 ?x2 ?x3 ?x4 ?x5 ?x6)
     try (case x1 =>
      have := cells_new ((wr.alloc (.cells #[.int .i64 f0, .int .i64 f1, .int .i64 f2, .int .i64 f3, .int .i64 f4] 43)).alloc (.cells #[.int .i64 (wrap64 (t0 + f1)), .int .i64 (t1), .int .i64 (t2)] 85)) [.int .i64 (wrap64 (t0 + f1)), .int .i64 (t1), .int .i64 (t2)] 85
      simp only [World.size_alloc] at this
      exact this)
     case x2 => simp [Value.oneCell']
     case x3 => unfold maxLen; omega
     case x4 => omega
     case x5 => have := hB.size; simp; omega
     case x6 =>
      intro v' w1 hown' hgrow _
      obtain ⟨A', c', rfl⟩ := own_slice hown'
      have hF1 := blk_grown (blk_alloc (blk_alloc (blk_alloc HF.out _) _) _) hgrow (own_apart HO.out HF.out (by decide))
      have hR1 := blk_grown (blk_alloc (blk_alloc (blk_alloc HRR.out _) _) _) hgrow (own_apart HO.out HRR.out (by decide))
      have hBs := hB.size
      have hB1 : Below w.heap.size w w1 := (((hB.alloc hBs _).alloc (by simp; omega) _).alloc (by simp; omega) _).grown hgrow (by simp; omega) fun j hj => (by have := own_base HO.out j hj; omega)
      have hne1 := own_apart hown' hF1 (by decide)
      have hnx : flat85 (sumsTo l (k + 1)) = flat85 (sumsTo l k) ++ [.int .i64 (wrap64 (t0 + f1)), .int .i64 (t1), .int .i64 (t2)] := by
       refine HNX.out.trans ?_
       simp [sumP]
      rw [← hnx] at hown'
      have c0 := blk_cell hF1 2
      simp only [List.getElem?_toArray, List.getElem?_cons_succ, List.getElem?_cons_zero] at c0
      have z0 := blk_frozen hF1 2
      have HF1 := Lib.hid hF1
      have HR1 := Lib.hid hR1
      have HO1 := Lib.hid hown'
      have HN1 := Lib.hid hne1
      clear hF1 hR1 hown' hne1 hgrow q0 q1 q2 q3 q4 s0 s1 s2 c2 hca hcb hnx
      go_wp2
      go_roundw
      case rel => exact ⟨k + 1, .slice A' (k + 1 + 1) c', by go_num, by omega, blk_put HF1.out 2 _ rfl, blk_far HR1.out (by simp; omega) _, own_setCell HO1.out HN1.out _, hB1.setCell (by simp; omega) _⟩
      case measure => simp [intOf]; omega
    ·by_cases h4 : f0 = 4
     ·subst h4
      go_wp2_with (at_builtin; refine wpList_append_own _ rfl _ _ 65 rfl (w.heap.size + 1) 85 i0 (.agg #[(.int .i64 0), (.int .i64 0), (.int .i64 0)]) 3 24 Try.underlying65 hi hz0 hz1 hz2 rfl (by decide) _ _ _ rfl (((HO.out.alloc _).alloc _).alloc _) _ 1 1 [.int .i64 (wrap64 (t0 + f1)), .int .i64 (t1), .int .i64 (t2)] rfl rfl ?y1 ?y2 ?y3 ?y4 ?y5 ?y6)
      try (case y1 =>
       have := cells_new ((wr.alloc (.cells #[.int .i64 f0, .int .i64 f1, .int .i64 f2, .int .i64 f3, .int .i64 f4] 43)).alloc (.cells #[.int .i64 (wrap64 (t0 + f1)), .int .i64 (t1), .int .i64 (t2)] 85)) [.int .i64 (wrap64 (t0 + f1)), .int .i64 (t1), .int .i64 (t2)] 85
       simp only [World.size_alloc] at this
       exact this)
      case y2 => simp [Value.oneCell']
      case y3 => unfold maxLen; omega
      case y4 => omega
      case y5 => have := hB.size; simp; omega
      case y6 =>
       intro v' w1 hown' hgrow _
       obtain ⟨A', c', rfl⟩ := own_slice hown'
       have hF1 := blk_grown (blk_alloc (blk_alloc (blk_alloc HF.out _) _) _) hgrow (own_apart HO.out HF.out (by decide))
       have hR1 := blk_grown (blk_alloc (blk_alloc (blk_alloc HRR.out _) _) _) hgrow (own_apart HO.out HRR.out (by decide))
       have hBs := hB.size
       have hB1 : Below w.heap.size w w1 := (((hB.alloc hBs _).alloc (by simp; omega) _).alloc (by simp; omega) _).grown hgrow (by simp; omega) fun j hj => (by have := own_base HO.out j hj; omega)
       have hne1 := own_apart hown' hF1 (by decide)
       have hnx : flat85 (sumsTo l (k + 1)) = flat85 (sumsTo l k) ++ [.int .i64 (wrap64 (t0 + f1)), .int .i64 (t1), .int .i64 (t2)] := by
        refine HNX.out.trans ?_
        simp [sumP]
       rw [← hnx] at hown'
       have c0 := blk_cell hF1 2
       simp only [List.getElem?_toArray, List.getElem?_cons_succ, List.getElem?_cons_zero] at c0
       have z0 := blk_frozen hF1 2
       have HF1 := Lib.hid hF1
       have HR1 := Lib.hid hR1
       have HO1 := Lib.hid hown'
       have HN1 := Lib.hid hne1
       clear hF1 hR1 hown' hne1 hgrow q0 q1 q2 q3 q4 s0 s1 s2 c2 hca hcb hnx
       go_wp2
       go_roundw
       case rel => exact ⟨k + 1, .slice A' (k + 1 + 1) c', by go_num, by omega, blk_put HF1.out 2 _ rfl, blk_far HR1.out (by simp; omega) _, own_setCell HO1.out HN1.out _, hB1.setCell (by simp; omega) _⟩
       case measure => simp [intOf]; omega
     ·have g2 : (f0 == 2) = false := beq_eq_false_iff_ne.2 h2
      have g1 : (f0 == 1) = false := beq_eq_false_iff_ne.2 h1
      have g4 : (f0 == 4) = false := beq_eq_false_iff_ne.2 h4
      go_wp2_with (at_builtin; refine wpList_append_own _ rfl _ _ 65 rfl (w.heap.size + 1) 85 i0 (.agg #[(.int .i64 0), (.int .i64 0), (.int .i64 0)]) 3 24 Try.underlying65 hi hz0 hz1 hz2 rfl (by decide) _ _ _ rfl (((HO.out.alloc _).alloc _).alloc _) _ 1 1 [.int .i64 (t0), .int .i64 (t1), .int .i64 (t2)] rfl rfl ?z1 ?z2 ?z3 ?z4 ?z5 ?z6)
      try (case z1 =>
       have := cells_new ((wr.alloc (.cells #[.int .i64 f0, .int .i64 f1, .int .i64 f2, .int .i64 f3, .int .i64 f4] 43)).alloc (.cells #[.int .i64 (t0), .int .i64 (t1), .int .i64 (t2)] 85)) [.int .i64 (t0), .int .i64 (t1), .int .i64 (t2)] 85
       simp only [World.size_alloc] at this
       exact this)
      case z2 => simp [Value.oneCell']
      case z3 => unfold maxLen; omega
      case z4 => omega
      case z5 => have := hB.size; simp; omega
      case z6 =>
       intro v' w1 hown' hgrow _
       obtain ⟨A', c', rfl⟩ := own_slice hown'
       have hF1 := blk_grown (blk_alloc (blk_alloc (blk_alloc HF.out _) _) _) hgrow (own_apart HO.out HF.out (by decide))
       have hR1 := blk_grown (blk_alloc (blk_alloc (blk_alloc HRR.out _) _) _) hgrow (own_apart HO.out HRR.out (by decide))
       have hBs := hB.size
       have hB1 : Below w.heap.size w w1 := (((hB.alloc hBs _).alloc (by simp; omega) _).alloc (by simp; omega) _).grown hgrow (by simp; omega) fun j hj => (by have := own_base HO.out j hj; omega)
       have hne1 := own_apart hown' hF1 (by decide)
       have hnx : flat85 (sumsTo l (k + 1)) = flat85 (sumsTo l k) ++ [.int .i64 (t0), .int .i64 (t1), .int .i64 (t2)] := by
        refine HNX.out.trans ?_
        simp [sumP, h1, h2, h4]
       rw [← hnx] at hown'
       have c0 := blk_cell hF1 2
       simp only [List.getElem?_toArray, List.getElem?_cons_succ, List.getElem?_cons_zero] at c0
       have z0 := blk_frozen hF1 2
       have HF1 := Lib.hid hF1
       have HR1 := Lib.hid hR1
       have HO1 := Lib.hid hown'
       have HN1 := Lib.hid hne1
       clear hF1 hR1 hown' hne1 hgrow q0 q1 q2 q3 q4 s0 s1 s2 c2 hca hcb hnx
       go_wp2
       go_roundw
       case rel => exact ⟨k + 1, .slice A' (k + 1 + 1) c', by go_num, by omega, blk_put HF1.out 2 _ rfl, blk_far HR1.out (by simp; omega) _, own_setCell HO1.out HN1.out _, hB1.setCell (by simp; omega) _⟩
       case measure => simp [intOf]; omega
  ·obtain rfl : k = n := by omega
   have hlt1 : ¬ (k : Int) < (k : Int) := by omega
   have c0 := blk_cell hF 0
   have c1 := blk_cell hF 1
   have c2 := blk_cell hF 2
   have d0 := blk_cell hR 0
   have d1 := blk_cell hR 1
   have d2 := blk_cell hR 2
   simp only [List.getElem?_toArray, List.getElem?_cons_succ, List.getElem?_cons_zero] at c0 c1 c2 d0 d1 d2
   have f0 := blk_frozen hR 0
   have f1 := blk_frozen hR 1
   have f2 := blk_frozen hR 2
   have HO := Lib.hid hown
   have HR := Lib.hid hR
   obtain ⟨A2, c2', rfl⟩ := own_slice hown
   clear hown hmk hR hF
   go_wp2
   have n0 : some w.heap.size ≠ (Value.slice A2 (k + 1) c2').ownBlock := fun e => by have := own_base HO.out _ e.symm; omega
   have hro := own_setCell (own_setCell (own_setCell HO.out (p := ⟨w.heap.size, 0, none⟩) n0 (.slice A k c)) (p := ⟨w.heap.size, 1, none⟩) n0 (.int .i64 wd)) (p := ⟨w.heap.size, 2, none⟩) n0 (.slice A2 (k + 1) c2')
   have hbb := ((hB.setCell (show w.heap.size ≤ w.heap.size from Nat.le_refl _) (.slice A k c) (p := ⟨w.heap.size, 0, none⟩)).setCell (show w.heap.size ≤ w.heap.size from Nat.le_refl _) (.int .i64 wd) (p := ⟨w.heap.size, 1, none⟩)).setCell (show w.heap.size ≤ w.heap.size from Nat.le_refl _) (.slice A2 (k + 1) c2') (p := ⟨w.heap.size, 2, none⟩)
   have hr2 := blk_set (blk_set (blk_set HR.out 0 (.slice A k c)) 1 (.int .i64 wd)) 2 (.slice A2 (k + 1) c2')
   generalize (((wr.setCell { block := w.heap.size, off := 0 } (Value.slice A k c)).setCell { block := w.heap.size, off := 1 } (Value.int IntKind.i64 wd)).setCell { block := w.heap.size, off := 2 } (Value.slice A2 (k + 1) c2')) = W2 at *
   have z0 := blk_cell hr2 0
   have z1 := blk_cell hr2 1
   have z2 := blk_cell hr2 2
   simp at z0 z1 z2
   refine bodyPost_ret (v := .agg #[.slice A k c, .int .i64 wd, .slice A2 (k + 1) c2']) ?_ rfl ⟨_, rfl, own_weaken hro (by omega), hbb⟩
   simp [results, Try.results43, go_sem, z0, z1, z2]
def showP (toks : List S101) (x : S43) : Int × Bool :=
 if x.f0 = 3 then (45, true) else if 0 ≤ x.f4 ∧ x.f4 < (toks.length : Int) then
  (if x.f0 = 4 then (42, decide ((rd_T101 toks x.f4).f0 = 2) && (rd_T101 toks x.f4).f1 == 110) else ((rd_T101 toks x.f4).f1, (rd_T101 toks x.f4).f0 == 1)) else (0, false)
theorem shows_ev (toks : List S101) (x : S43) : lines_shows.f 1 toks x.f0 x.f1 x.f2 x.f3 x.f4 = some (showP toks x) := by
 unfold lines_shows.f showP
 by_cases h3 : x.f0 = 3
 ·rw [if_pos h3, if_pos h3]
 ·rw [if_neg h3, if_neg h3]
  by_cases h0 : x.f4 < 0
  ·rw [if_pos h0, if_neg (by omega)]
   rfl
  ·rw [if_neg h0]
   by_cases h1 : x.f4 < (toks.length : Int)
   ·rw [if_pos (⟨by omega, h1⟩ : _ ∧ _), show decide (x.f4 ≥ (toks.length : Int)) = false by simp; omega]
    rw [lines_shows.j0.eq_2, if_neg (by simp), if_pos (by omega), if_pos h1]
    by_cases h4 : x.f0 = 4
    ·rw [if_pos h4, if_pos h4]
     by_cases h2 : (rd_T101 toks x.f4).f0 = 2
     ·rw [if_pos h2]; simp [h2]
     ·rw [if_neg h2]; simp [h2]
    ·rw [if_neg h4, if_neg h4]
   ·rw [if_neg (by omega), show decide (x.f4 ≥ (toks.length : Int)) = true by simp; omega]
    rw [lines_shows.j0.eq_2, if_pos rfl]
def whatP (k : Int) : Int := if k = 3 then 1 else if k = 4 then 2 else 0
def spotP (toks : List S101) (x : S43) (at_ : Int) : S57 := ⟨at_, (showP toks x).1, whatP x.f0, x.f4⟩
def flat57 (xs : List S57) : List Value := xs.flatMap fun x => [.int .i64 x.f0, .int .u8 x.f1, .int .i64 x.f2, .int .i64 x.f3]
theorem flat57_length (xs : List S57) : (flat57 xs).length = xs.length * 4 := by
 induction xs with
 | nil => rfl
 | cons x xs ih => simp [flat57] at ih ⊢; omega
theorem flat57_snoc (xs : List S57) (x : S57) : flat57 (xs ++ [x]) = flat57 xs ++ [.int .i64 x.f0, .int .u8 x.f1, .int .i64 x.f2, .int .i64 x.f3] := by simp [flat57]
structure KeepS (w w' : World) (g : Nat) (v : Value) : Prop where
 os : w'.os = w.os
 tape : w'.tape = w.tape
 output : w'.output = w.output
 size : w.heap.size ≤ w'.heap.size
 block : ∀ i, i < w.heap.size → i ≠ g → some i ≠ v.ownBlock → w'.heap[i]? = w.heap[i]?
set_option maxRecDepth 100000 in
set_option maxHeartbeats 2000000 in
theorem show_calls (At : Option Addr) (ct : Nat) (toks : List S101) (g base : Nat) (v : Value) (sp : List S57) (wd bits : Int) (x : S43) (d : Int) (w : World)
  (hct : toks.length ≤ ct) (hT : Kd.C k101 w At toks.length toks) (hg : w.heap[g]? = some (.cells #[v, .int .i64 wd, .int .i64 bits, .slice At toks.length ct] 120 (0, 0)))
  (hown : w.ownsRow base 57 4 v sp.length (flat57 sp)) (hbase : base ≤ w.heap.size) (hn : sp.length ≤ 1000000) (hk : x.f0 = 1 ∨ x.f0 = 2 ∨ x.f0 = 3 ∨ x.f0 = 4) :
  Calls Try.prog 85 #[.pointer (some ⟨g, 0, none⟩), .agg #[.int .i64 x.f0, .int .i64 x.f1, .int .i64 x.f2, .int .i64 x.f3, .int .i64 x.f4], .int .i64 d] w fun e w' => e = .returned (.tuple #[]) ∧ ∃ v',
   w'.heap[g]? = some (.cells #[v', .int .i64 (wrap64 (wd + d)), .int .i64 bits, .slice At toks.length ct] 120 (0, 0)) ∧ w'.ownsRow base 57 4 v' (sp.length + 1) (flat57 (sp ++ [spotP toks x wd])) ∧ KeepS w w' g v ∧ (v'.ownBlock = v.ownBlock ∨ ∃ j, v'.ownBlock = some j ∧ w.heap.size ≤ j) := by
 obtain ⟨⟨c, b⟩, hcb⟩ : ∃ p, showP toks x = p := ⟨_, rfl⟩
 have hev := shows_ev toks x
 rw [hcb] at hev
 have hsh := fun W hW => lines_shows.calls 1 At ct toks x.f0 x.f1 x.f2 x.f3 x.f4 c b W (Kd.C_below hT hW) hct hev
 have hspot : spotP toks x wd = ⟨wd, c, whatP x.f0, x.f4⟩ := by unfold spotP; rw [hcb]
 rw [hspot]
 have HSH := Lib.hid hsh
 clear hsh hev hspot hcb
 have hgl := blk_lt hg
 have hne := own_apart hown hg (by decide)
 obtain ⟨f0, f1, f2, f3, f4⟩ := x
 have hx := blk_new w (.cells #[.int .i64 f0, .int .i64 f1, .int .i64 f2, .int .i64 f3, .int .i64 f4] 43)
 have hg1 := blk_alloc hg (.cells #[.int .i64 f0, .int .i64 f1, .int .i64 f2, .int .i64 f3, .int .i64 f4] 43)
 have hown1 := hown.alloc (.cells #[.int .i64 f0, .int .i64 f1, .int .i64 f2, .int .i64 f3, .int .i64 f4] 43)
 have hB1 := (Below.refl w.heap.size w).alloc (Nat.le_refl _) (.cells #[.int .i64 f0, .int .i64 f1, .int .i64 f2, .int .i64 f3, .int .i64 f4] 43)
 obtain ⟨w1, hw1⟩ : ∃ w1, w.alloc (.cells #[.int .i64 f0, .int .i64 f1, .int .i64 f2, .int .i64 f3, .int .i64 f4] 43) = w1 := ⟨_, rfl⟩
 rw [hw1] at hx hg1 hown1 hB1
 have hsz : w1.heap.size = w.heap.size + 1 := by rw [← hw1]; simp
 have HX := Lib.hid hx
 have HG1 := Lib.hid hg1
 have HB1 := Lib.hid hB1
 have HOW1 := Lib.hid hown1
 have cx0 := blk_cell hx 0
 simp only [List.getElem?_toArray, List.getElem?_cons_zero] at cx0
 have hix : ∀ W : World, (Instr.index 127 (.agg #[.int .i64 0, .int .i64 0, .int .i64 0, .int .i64 1, .int .i64 2]) (.int .i64 f0)).run Try.prog W = .ok (.int .i64 (whatP f0)) W := fun W => by
  rcases hk with h | h | h | h <;> (simp only at h; subst h; rfl)
 clear hx hg1 hB1 hown1 hown hg hT
 generalize whatP f0 = wh at *
 go_enter Try.func85, Try.ntmps85
 go_wp2_with fail
 clear hix hk cx0 hw1
 refine Go.Det.region_all (fun W => Below w1.heap.size w1 W) (by kernel_rfl) (by kernel_rfl) (below_drew1 (Below.refl _ _)) ?_
 repeat
  apply Go.Det.seqW_cons
  focus
   intro W hS
   replace hS : Below w1.heap.size w1 W := hS
   have x0 := blk_cell (blk_below HX.out hS) 0
   have x1 := blk_cell (blk_below HX.out hS) 1
   have x2 := blk_cell (blk_below HX.out hS) 2
   have x3 := blk_cell (blk_below HX.out hS) 3
   have x4 := blk_cell (blk_below HX.out hS) 4
   have xT := blk_cell (blk_below HG1.out hS) 3
   simp only [List.getElem?_toArray, List.getElem?_cons_succ, List.getElem?_cons_zero] at x0 x1 x2 x3 x4 xT
   go_wp2_with (refine (HSH.out _ (HB1.out.trans (hS.mono (by omega)))).mono ?_; rintro _ W2 ⟨rfl, hb⟩; replace hS := hS.trans (hb.mono hS.size))
   exact Go.Det.AtEnd.mk hS
 refine Go.Det.seqW_nil ?_
 intro W1 hS
 replace hS : Below w1.heap.size w1 W1 := hS
 have hg2 := blk_below HG1.out hS
 have hx2 := blk_below HX.out hS
 have ho2 := pw_own_below HOW1.out hS
 have hB2 : Below w.heap.size w W1 := HB1.out.trans (hS.mono (by omega))
 have hs2 := hS.size
 simp only [Exit.then]
 go_wp2_with fail
 obtain ⟨W2, hW2⟩ : ∃ W2, W1.drew = W2 := ⟨_, rfl⟩
 have hg3 : W2.heap[g]? = some (.cells #[v, .int .i64 wd, .int .i64 bits, .slice At toks.length ct] 120 (0, 0)) := by rw [← hW2]; exact hg2
 have hx3 : W2.heap[w.heap.size]? = some (.cells #[.int .i64 f0, .int .i64 f1, .int .i64 f2, .int .i64 f3, .int .i64 f4] 43 (0, 0)) := by rw [← hW2]; exact hx2
 have ho3 : W2.ownsRow base 57 4 v sp.length (flat57 sp) := by rw [← hW2]; exact own_drew ho2
 have hB3 : Below w.heap.size w W2 := by rw [← hW2]; exact below_drew1 hB2
 have hs3 : w.heap.size < W2.heap.size := blk_lt hx3
 clear hg2 hx2 ho2 hB2 hS hs2
 have HG3 := Lib.hid hg3
 have HX3 := Lib.hid hx3
 have HO3 := Lib.hid ho3
 have HB3 := Lib.hid hB3
 clear hg3 hx3 ho3 hB3
 refine Go.Mix.region_mix' (fun b W => W = (bif b then W2.alloc (.cells #[.int .i64 wd, .int .u8 c, .int .i64 wh, .int .i64 f4] 57) else W2)) 16 17 [0] (by kernel_rfl) (by kernel_rfl) (fun _ _ _ _ _ h => h) hW2 ?_
 clear hW2
 refine Go.Mix.seqE_cons (t' := #[_, _, _, _, _, _, _, _, _, _, _, _, _, _, _, _, _, _, _, _, _, _, _, _, _, _, _, _, _, _, _, _, _, _, _, _, _, _, _, _, _, _, _, _, _, _, _, _, _, _, _, _, _]) _ (.pointer (some ⟨g, 0, none⟩)) rfl rfl (fun w' => rfl) rfl ?_
 refine Go.Mix.seqE_nil ?_
 refine Go.Mix.seqM_skip (by rfl) ?_
 repeat
  apply Go.Mix.seqM_cons (by rfl) (by rfl)
  focus
   intro b W hS
   have hB : Below W2.heap.size W2 W := by
    rw [hS]
    cases b
    ·exact Below.refl _ _
    ·exact (Below.refl _ _).alloc (Nat.le_refl _) _
   have x4 := blk_cell (blk_below HX3.out hB) 4
   have x0 := blk_cell (blk_below HG3.out hB) 0
   have x1 := blk_cell (blk_below HG3.out hB) 1
   simp only [List.getElem?_toArray, List.getElem?_cons_succ, List.getElem?_cons_zero] at x0 x1 x4
   have HS := Lib.hid hS
   clear hS hB
   go_wp2
   exact Go.Det.AtEnd.mk HS.out
 apply Go.Mix.seqM_main (by rfl)
 focus
  intro W hS
  obtain rfl : W = W2 := hS
  go_wp2
  exact Go.Det.AtEnd.mk rfl
 refine Go.Mix.seqM_nil ?_
 intro W3 hW3
 obtain rfl : W3 = W2.alloc (.cells #[.int .i64 wd, .int .u8 c, .int .i64 wh, .int .i64 f4] 57) := hW3
 simp only [List.drop_succ_cons, List.drop_zero]
 obtain ⟨i0, hi, hz0, hz1, hz2⟩ := info_parts info57
 go_wp2_with (at_builtin; refine wpList_append_own_at _ rfl _ _ 53 rfl base 57 i0 (.agg #[(.int .i64 0), (.int .u8 0), (.int .i64 0), (.int .i64 0)]) 4 32 Try.underlying53 hi hz0 hz1 hz2 rfl (by decide) _ _ _ rfl (HO3.out.alloc _) _ 1 1 [.int .i64 wd, .int .u8 c, .int .i64 wh, .int .i64 f4] rfl rfl ?e1 ?e2 ?e3 ?e4 ?e5 ?e6)
 case e1 => exact cells_new W2 [.int .i64 wd, .int .u8 c, .int .i64 wh, .int .i64 f4] 57
 case e2 => simp [Value.oneCell']
 case e3 => unfold maxLen; omega
 case e4 => omega
 case e5 => simp; omega
 case e6 =>
  intro v' W4 hown' hgrow _ hat
  obtain ⟨A', c', rfl⟩ := own_slice hown'
  have hg4 := blk_grown (blk_alloc HG3.out (.cells #[.int .i64 wd, .int .u8 c, .int .i64 wh, .int .i64 f4] 57)) hgrow hne
  have hgne := own_apart hown' hg4 (by decide)
  have e0 := blk_cell hg4 0
  have e1 := blk_cell hg4 1
  have z0 := blk_frozen hg4 0
  have z1 := blk_frozen hg4 1
  simp only [List.getElem?_toArray, List.getElem?_cons_succ, List.getElem?_cons_zero] at e0 e1
  have hblk := blk_set (blk_set hg4 0 (.slice A' (sp.length + 1) c')) 1 (.int .i64 (wrap64 (wd + d)))
  have hrow := own_setCell (own_setCell hown' (p := ⟨g, 0, none⟩) hgne (.slice A' (sp.length + 1) c')) (p := ⟨g, 1, none⟩) hgne (.int .i64 (wrap64 (wd + d)))
  have hkeep : KeepS w ((W4.setCell ⟨g, 0, none⟩ (.slice A' (sp.length + 1) c')).setCell ⟨g, 1, none⟩ (.int .i64 (wrap64 (wd + d)))) g v := by
   have hB := HB3.out
   refine ⟨hgrow.os.trans hB.os, hgrow.tape.trans hB.tape, hgrow.output.trans hB.output, ?_, fun i hi h1 h2 => ?_⟩
   ·have := hgrow.size
    have := hB.size
    simp [World.setCell] at *
    omega
   ·rw [Below.heap_setCell _ _ _ _ h1, Below.heap_setCell _ _ _ _ h1, hgrow.block i (by simp; omega) h2, Below.heap_alloc _ _ _ (by omega)]
    exact hB.block i hi
  have hat' : (Value.slice A' (sp.length + 1) c').ownBlock = v.ownBlock ∨ ∃ j, (Value.slice A' (sp.length + 1) c').ownBlock = some j ∧ w.heap.size ≤ j := hat.imp id fun h => ⟨_, h, by omega⟩
  rw [← flat57_snoc sp ⟨wd, c, wh, f4⟩] at hrow
  have H1 := Lib.hid hblk
  have H2 := Lib.hid hrow
  have H3 := Lib.hid hkeep
  have H4 := Lib.hid hat'
  clear hblk hrow hkeep hat' hat hown' hgrow hgne hg4 hne
  go_wp2
  refine bodyPost_end (results_none rfl _ _ _) rfl ?_
  exact ⟨rfl, _, H1.out, H2.out, H3.out, H4.out⟩
end Go.Proofs.Ytbddfnmhhmkfkaa.Pr
namespace Go.Proofs.Ytbddfnmhhmkfkaa.Pr
open Go.RowKit Go.Proofs.YtbddfnmhhmkfkaaW.PrintWords
structure SetG where
 r : Nat
 s : Nat
 t : Nat
 a : Nat
 x : Nat
 h : Nat
structure SetG.Ok (G : SetG) (n B : Nat) : Prop where
 lo : n ≤ G.r ∧ n ≤ G.s ∧ n ≤ G.t ∧ n ≤ G.a ∧ n ≤ G.x ∧ n ≤ G.h
 hi : G.r < B ∧ G.s < B ∧ G.t < B ∧ G.a < B ∧ G.x < B ∧ G.h < B
 nh : G.r ≠ G.h ∧ G.s ≠ G.h ∧ G.t ≠ G.h ∧ G.a ≠ G.h ∧ G.x ≠ G.h
 nx : G.r ≠ G.x ∧ G.s ≠ G.x ∧ G.t ≠ G.x ∧ G.a ≠ G.x
structure SetI (w W : World) (B : Nat) (G : SetG) (f : Nat) (At : Option Addr) (nt ct : Nat) (all slack ahead width : Int) (sp : List S57) (v : Value) : Prop where
 hS : W.heap[G.s]? = some (.cells #[.int .i64 slack] 3 (0, 0))
 hT : W.heap[G.t]? = some (.cells #[.func (.func f) #[] #[]] 118 (0, 0))
 hA : W.heap[G.a]? = some (.cells #[.int .i64 all] 3 (0, 0))
 hH : W.heap[G.h]? = some (.cells #[.int .i64 ahead] 3 (0, 0))
 hX : W.heap[G.x]? = some (.cells #[v, .int .i64 width, .int .i64 0, .slice At nt ct] 120 (0, 0))
 hR : W.heap[G.r]? = some (.cells #[.slice none 0 0, .int .i64 0, .int .i64 0] 55 (0, 0))
 own : W.ownsRow B 57 4 v sp.length (flat57 sp)
 le : B ≤ W.heap.size
 hB : Below w.heap.size w W
theorem SetI.below {w W W' : World} {B : Nat} {G : SetG} {f : Nat} {At : Option Addr} {nt ct : Nat} {all slack ahead width : Int} {sp : List S57} {v : Value} (h : SetI w W B G f At nt ct all slack ahead width sp v) (hb : Below W.heap.size W W') : SetI w W' B G f At nt ct all slack ahead width sp v :=
 ⟨blk_below h.hS hb, blk_below h.hT hb, blk_below h.hA hb, blk_below h.hH hb, blk_below h.hX hb, blk_below h.hR hb, pw_own_below h.own hb, Nat.le_trans h.le hb.size, h.hB.trans (hb.mono h.hB.size)⟩
theorem SetI.setH {w W : World} {B : Nat} {G : SetG} {f : Nat} {At : Option Addr} {nt ct : Nat} {all slack ahead width : Int} {sp : List S57} {v : Value} (g : G.Ok w.heap.size B) (h : SetI w W B G f At nt ct all slack ahead width sp v) (u : Int) : SetI w (W.setCell ⟨G.h, 0, none⟩ (.int .i64 u)) B G f At nt ct all slack u width sp v :=
 ⟨blk_far h.hS (p := ⟨G.h, 0, none⟩) g.nh.2.1 _, blk_far h.hT (p := ⟨G.h, 0, none⟩) g.nh.2.2.1 _, blk_far h.hA (p := ⟨G.h, 0, none⟩) g.nh.2.2.2.1 _, blk_put h.hH 0 _ rfl, blk_far h.hX (p := ⟨G.h, 0, none⟩) g.nh.2.2.2.2 _, blk_far h.hR (p := ⟨G.h, 0, none⟩) g.nh.1 _,
  ownsRow_setCell_below h.own (a := ⟨G.h, 0, none⟩) g.hi.2.2.2.2.2 _, by simpa [World.setCell] using h.le, h.hB.setCell (p := ⟨G.h, 0, none⟩) g.lo.2.2.2.2.2 _⟩
def aheadP (all a t : Int) : Int := if all = 0 then a else wrap64 (a + t)
def partP (s all a t : Int) : Int := if all = 0 then 0 else shareP s all a t
theorem set_share {w W : World} {B : Nat} {G : SetG} {f : Nat} {T : S43 → Int} {At : Option Addr} {nt ct : Nat} {all slack ahead width : Int} {sp : List S57} {v : Value} (HT : Tells f T) (g : G.Ok w.heap.size B) (h : SetI w W B G f At nt ct all slack ahead width sp v) (x : S43) :
  Calls Try.prog 84 #[.agg #[.int .i64 x.f0, .int .i64 x.f1, .int .i64 x.f2, .int .i64 x.f3, .int .i64 x.f4], .pointer (some ⟨G.a, 0, none⟩), .pointer (some ⟨G.s, 0, none⟩), .pointer (some ⟨G.h, 0, none⟩), .pointer (some ⟨G.t, 0, none⟩)] W fun e W' =>
   e = .returned (.int .i64 (partP slack all ahead (T x))) ∧ SetI w W' B G f At nt ct all slack (aheadP all ahead (T x)) width sp v ∧ ∀ (i : Nat) (o : Obj), i ≠ G.h → W.heap[i]? = some o → W'.heap[i]? = some o := by
 unfold partP aheadP
 by_cases h0 : all = 0
 ·subst h0
  rw [if_pos rfl, if_pos rfl]
  refine (share_none x G.a G.s G.h G.t W h.hA).mono ?_
  rintro _ W' ⟨rfl, hb⟩
  exact ⟨rfl, h.below hb, fun i o _ ho => blk_below ho hb⟩
 ·rw [if_neg h0, if_neg h0]
  refine (share_some f T HT x all slack ahead G.a G.s G.h G.t W h0 h.hA h.hS h.hH h.hT g.nh.2.2.2.1 g.nh.2.1 g.nh.2.2.1).mono ?_
  rintro _ W' ⟨rfl, hb⟩
  have hb' : Below (W.setCell ⟨G.h, 0, none⟩ (.int .i64 (wrap64 (ahead + T x)))).heap.size (W.setCell ⟨G.h, 0, none⟩ (.int .i64 (wrap64 (ahead + T x)))) W' := by simpa [World.setCell] using hb
  exact ⟨rfl, (h.setH g _).below hb', fun i o hi ho => blk_below ((Below.heap_setCell _ ⟨G.h, 0, none⟩ _ i hi).trans ho) hb'⟩
theorem set_show {w W : World} {B : Nat} {G : SetG} {f : Nat} {At : Option Addr} {ct : Nat} {toks : List S101} {all slack ahead width : Int} {sp : List S57} {v : Value} (g : G.Ok w.heap.size B) (hct : toks.length ≤ ct) (hT : Kd.C k101 w At toks.length toks) (h : SetI w W B G f At toks.length ct all slack ahead width sp v) (hn : sp.length ≤ 1000000) (x : S43) (d : Int) (hk : x.f0 = 1 ∨ x.f0 = 2 ∨ x.f0 = 3 ∨ x.f0 = 4) :
  Calls Try.prog 85 #[.pointer (some ⟨G.x, 0, none⟩), .agg #[.int .i64 x.f0, .int .i64 x.f1, .int .i64 x.f2, .int .i64 x.f3, .int .i64 x.f4], .int .i64 d] W fun e W' => e = .returned (.tuple #[]) ∧ ∃ v', SetI w W' B G f At toks.length ct all slack ahead (wrap64 (width + d)) (sp ++ [spotP toks x width]) v' := by
 refine (show_calls At ct toks G.x B v sp width 0 x d W hct (Kd.C_below hT h.hB) h.hX h.own h.le hn hk).mono ?_
 rintro _ W' ⟨rfl, v', hX, hown, hk, hat⟩
 have keep : ∀ (i : Nat) (t : TypeId) (cs : Array Value), i < B → i ≠ G.x → W.heap[i]? = some (.cells cs t (0, 0)) → W'.heap[i]? = some (.cells cs t (0, 0)) := fun i t cs hi hne ho => by
  refine (hk.block i (blk_lt ho) hne fun e => ?_).trans ho
  have := own_base h.own i e.symm
  omega
 refine ⟨rfl, v', keep _ _ _ g.hi.2.1 g.nx.2.1 h.hS, keep _ _ _ g.hi.2.2.1 g.nx.2.2.1 h.hT, keep _ _ _ g.hi.2.2.2.1 g.nx.2.2.2 h.hA, keep _ _ _ g.hi.2.2.2.2.2 g.nh.2.2.2.2.symm h.hH, hX, keep _ _ _ g.hi.1 g.nx.1 h.hR, by simpa using hown, Nat.le_trans h.le hk.size, ?_⟩
 refine h.hB.trans ⟨hk.os, hk.tape, hk.output, hk.size, fun i hi => ?_⟩
 have h1 := h.hB.size
 have h2 := g.lo.2.2.2.2.1
 refine hk.block i (by omega) (by omega) fun e => ?_
 have := own_base h.own i e.symm
 have := g.lo.1
 have := g.hi.1
 omega
end Go.Proofs.Ytbddfnmhhmkfkaa.Pr
namespace Go.Proofs.Ytbddfnmhhmkfkaa.Pr
open Go.RowKit Go.Proofs.YtbddfnmhhmkfkaaW.PrintWords Go.Proofs.YtbddfnmhhmkfkaaW.PrintLast Go.Proofs.YtbddfnmhhmkfkaaW.PrintMore
attribute [local go_sem] max2_int min2_int max_two min_two max_three min_three max_four min_four
def lines_bit.f (a0 : Bool) (a1 : Int) : Option (Int) := if a0 = true then (if 0 ≤ a1 then (some (shl .i64 1 a1)) else (none)) else (some 0)
set_option maxHeartbeats 8000000 in
set_option maxRecDepth 100000 in
theorem lines_bit.calls (a0 : Bool) (a1 : Int) (r : Int) (w : World) (h : lines_bit.f a0 a1 = some r) :
  Calls Try.prog 86 #[.bool a0, .int .u64 a1] w fun e w' => e = .returned (.int .i64 r) ∧ Drawn0 w w' := by
 have H : (if a0 = true then (if 0 ≤ a1 then (some (shl .i64 1 a1)) else (none)) else (some 0)) = some r := h
 clear h
 by_cases c3 : a0 = true
 ·subst c3
  have H1 : (if 0 ≤ a1 then (some (shl .i64 1 a1)) else (none)) = some r := by rw [if_pos rfl] at H; exact H
  clear H
  have H := H1
  clear H1
  by_cases c4 : 0 ≤ a1
  ·rw [if_pos c4] at H
   have c4b0 := eq_true c4
   have c4b1 : decide (0 ≤ a1) = true := decide_eq_true c4
   clear c4
   obtain ⟨ji5, hji5⟩ : ∃ j_ : Int, (shl .i64 1 a1) = j_ := ⟨_, rfl⟩
   replace H : (some ji5) = some r := by first | (rw [hji5] at H; exact H) | (simp only [hji5] at H ⊢; exact H)
   have hji5_ : (IntKind.i64.wrap (1 * 2 ^ min a1.toNat 64)) = ji5 := hji5
   have hji5z : a1 ≤ 64 → (IntKind.i64.wrap (1 * 2 ^ a1.toNat)) = ji5 := shl_small hji5
   have hji5u : (IntKind.i64.wrap (2 ^ min a1.toNat 64)) = ji5 := by have h_ := hji5_; rw [Int.one_mul] at h_; exact h_
   have hji5v : a1 ≤ 64 → (IntKind.i64.wrap (2 ^ a1.toNat)) = ji5 := fun hle_ => by have h_ := hji5z hle_; rw [Int.one_mul] at h_; exact h_
   have hji5y : (wrap64 (1 * 2 ^ min a1.toNat 64)) = ji5 := (i64_w _).symm.trans hji5_
   have hji5x : a1 ≤ 64 → (wrap64 (1 * 2 ^ a1.toNat)) = ji5 := fun h_ => (i64_w _).symm.trans (hji5z h_)
   obtain rfl := Option.some.inj H
   go_enter Try.func86, Try.ntmps86
   go_wp2
   go_ret
   exact ⟨by first | rfl | (simp; done) | (simp only [← hji5] <;> (first | rfl | simp)) | (simp [*]; done), by repeat (first | exact Drawn0.refl _ | apply Drawn0.step)⟩
  ·rw [if_neg c4] at H
   exact absurd H (by simp)
 ·replace c3 := Bool.eq_false_iff.mpr c3
  subst c3
  have H1 : (some 0) = some r := by rw [if_neg (show ¬ (false = true) by decide)] at H; exact H
  clear H
  have H := H1
  clear H1
  obtain rfl := Option.some.inj H
  go_enter Try.func86, Try.ntmps86
  go_wp2
  go_ret
  exact ⟨by first | rfl | (simp; done) | (simp [*]; done), by repeat (first | exact Drawn0.refl _ | apply Drawn0.step)⟩
end Go.Proofs.Ytbddfnmhhmkfkaa.Pr
