/- Texts of this seat, one behind the other. -/
import Derived.Orders
import Derived.Deep.RegionHeld
import Derived.WalkKit
import Derived.Lib.Hide
import Derived.RangeFuncBox
import Derived.Maps.AppendAt
import Derived.Test.YtbddfnmhhmkfkaaXBestWider1
/- Walks of the Go functions of this seat, and the Lean functions that they come to: written by a program (mkprint.py over the kit's print). -/
namespace Go.Proofs.Ytbddfnmhhmkfkaa.Pr
open Go.RowKit Go.Proofs.YtbddfnmhhmkfkaaW.PrintWords Go.Proofs.YtbddfnmhhmkfkaaW.PrintLast Go.Proofs.YtbddfnmhhmkfkaaW.PrintMore
attribute [local go_sem] max2_int min2_int max_two min_two max_three min_three max_four min_four   -- for this text's walks alone
set_option linter.unusedVariables false
set_option linter.unusedSimpArgs false

/-! ### stylusref19_Check: function 17 -/
mutual
def stylusref19_Check.j0 : Nat → List (S43) → Bool → Option (Int)
  | 0, _, _ => none
  | k + 1, x0, x17 => if x17 = true then (some 1) else (stylusref19_Check.l0 k x0 0)
def stylusref19_Check.l0 : Nat → List (S43) → Int → Option (Int)
  | 0, _, _ => none
  | k + 1, x0, x5 => if x5 < (x0.length : Int) then (if 0 ≤ x5 then (if ((rd_T43 x0 x5).f0) < 1 then (some 1) else (if ((rd_T43 x0 x5).f0) > 4 then (some 1) else (if ((rd_T43 x0 x5).f1) < 0 then (some 1) else (if ((rd_T43 x0 x5).f2) < 0 then (some 1) else (if ((rd_T43 x0 x5).f3) < 0 then (some 1) else (if ((rd_T43 x0 x5).f1) > 2000 then (some 1) else (if ((rd_T43 x0 x5).f2) > 2000 then (some 1) else (if ((rd_T43 x0 x5).f3) > 2000 then (some 1) else (stylusref19_Check.l0 k x0 (wrap64 (x5 + 1))))))))))) else (none)) else (some 0)
end
def stylusref19_Check.f (k : Nat) (l0 : List (S43)) (a1 : Int) : Option (Int) := if a1 < 1 then (stylusref19_Check.j0 k l0 true) else (if a1 > 1000000 then (stylusref19_Check.j0 k l0 true) else (stylusref19_Check.j0 k l0 (decide ((l0.length : Int) > 16384))))
theorem stylusref19_Check.mono_l : ∀ k, (∀ y0 y1, LeO (stylusref19_Check.j0 k y0 y1) (stylusref19_Check.j0 (k + 1) y0 y1)) ∧ (∀ y0 y1, LeO (stylusref19_Check.l0 k y0 y1) (stylusref19_Check.l0 (k + 1) y0 y1))
  | 0 => ⟨fun _ _ r h => by simp [stylusref19_Check.j0] at h, fun _ _ r h => by simp [stylusref19_Check.l0] at h⟩
  | k + 1 => by
    obtain ⟨ih0, ih1⟩ := stylusref19_Check.mono_l k
    refine ⟨?_, ?_⟩
    · intro y0 y1
      unfold stylusref19_Check.j0
      repeat' first
      | (with_reducible exact ih0 _ _)
      | (with_reducible exact ih1 _ _)
      | (with_reducible exact LeO.refl _)
      | (with_reducible exact LeO.none _)
      | (with_reducible refine LeO.ite ?_ ?_)
      | (with_reducible refine LeO.bind ?_ (fun _ => ?_))
      | exact ih0 _ _
      | exact ih1 _ _
      | exact LeO.none _
      | refine LeO.ite ?_ ?_
      | refine LeO.bind ?_ (fun _ => ?_)
    · intro y0 y1
      unfold stylusref19_Check.l0
      repeat' first
      | (with_reducible exact ih0 _ _)
      | (with_reducible exact ih1 _ _)
      | (with_reducible exact LeO.refl _)
      | (with_reducible exact LeO.none _)
      | (with_reducible refine LeO.ite ?_ ?_)
      | (with_reducible refine LeO.bind ?_ (fun _ => ?_))
      | exact ih0 _ _
      | exact ih1 _ _
      | exact LeO.none _
      | refine LeO.ite ?_ ?_
      | refine LeO.bind ?_ (fun _ => ?_)
theorem stylusref19_Check.mono : ∀ a0 a1 k, LeO (stylusref19_Check.f k a0 a1) (stylusref19_Check.f (k + 1) a0 a1) := by
  intro a0 a1 k
  obtain ⟨ih0, ih1⟩ := stylusref19_Check.mono_l k
  unfold stylusref19_Check.f
  repeat' first
      | (with_reducible exact ih0 _ _)
      | (with_reducible exact ih1 _ _)
      | (with_reducible exact LeO.refl _)
      | (with_reducible exact LeO.none _)
      | (with_reducible refine LeO.ite ?_ ?_)
      | (with_reducible refine LeO.bind ?_ (fun _ => ?_))
      | exact ih0 _ _
      | exact ih1 _ _
      | exact LeO.none _
      | refine LeO.ite ?_ ?_
      | refine LeO.bind ?_ (fun _ => ?_)
set_option maxHeartbeats 8000000 in
set_option maxRecDepth 100000 in
theorem stylusref19_Check.calls (k : Nat) (A0 : Option Addr) (c0 : Nat) (l0 : List (S43)) (a1 : Int) (r : Int) (w : World) (hr0 : Kd.C k43 w A0 l0.length l0) (hc0 : l0.length ≤ c0) (h : stylusref19_Check.f k l0 a1 = some r) :
    Calls Try.prog 17 #[.slice A0 l0.length c0, .int .i64 a1] w fun e w' => e = .returned (.int .i64 r) ∧ Below w.heap.size w w' := by
  have hu43 := Try.underlying43
  have HR0 := Aside0.mk hr0
  have HC0 := Aside0.mk hc0
  clear hr0 hc0
  have HB := Aside0.mk (Below.refl w.heap.size w)
  have H : (if a1 < 1 then (stylusref19_Check.j0 k l0 true) else (if a1 > 1000000 then (stylusref19_Check.j0 k l0 true) else (stylusref19_Check.j0 k l0 (decide ((l0.length : Int) > 16384))))) = some r := h
  clear h
  have HC3 := Aside0.mk H
  clear H
  go_enter Try.func17, Try.ntmps17
  go_upto_region 1 with (fail)
  go_cut [17] (fun v17 wc => ∃ (kq : Nat) (x17_2 : Bool), v17 = .bool x17_2 ∧ Aside0 (stylusref19_Check.j0 kq l0 x17_2 = some r) ∧ Aside0 (kq ≤ k) ∧ Aside0 (Below w.heap.size w wc))
  case first =>
    have H := HC3.out
    clear HC3
    by_cases c4 : a1 < 1
    · rw [if_pos c4] at H
      have c4b0 : decide (a1 < 1) = true := decide_eq_true c4
      clear c4
      (first | rw [c4b0] | (simp only [i64_w, i32_w]; rw [c4b0]) | skip)
      have H' := Aside0.mk H
      clear H
      go_wp2
      go_meet
      case rel => exact ⟨_, (true), (by first | rfl | (simp; done) | (simp [*]; done)), H', ⟨by first | omega | exact Nat.le_refl _⟩, ⟨by repeat (first | (with_reducible first | exact HB.out | apply below_alloc | apply pw_below_drewN | apply below_drew1) | exact HB.out)⟩⟩
    · rw [if_neg c4] at H
      have c4b0 : decide (a1 < 1) = false := decide_eq_false c4
      clear c4
      (first | rw [c4b0] | (simp only [i64_w, i32_w]; rw [c4b0]) | skip)
      by_cases c5 : a1 > 1000000
      · rw [if_pos c5] at H
        have c5b0 : decide (1000000 < a1) = true := decide_eq_true c5
        clear c5
        have H' := Aside0.mk H
        clear H
        go_wp2
        go_meet
        case rel => exact ⟨_, (true), (by first | rfl | (simp; done) | (simp [*]; done)), H', ⟨by first | omega | exact Nat.le_refl _⟩, ⟨by repeat (first | (with_reducible first | exact HB.out | apply below_alloc | apply pw_below_drewN | apply below_drew1) | exact HB.out)⟩⟩
      · rw [if_neg c5] at H
        have c5b0 : decide (1000000 < a1) = false := decide_eq_false c5
        clear c5
        have H' := Aside0.mk H
        clear H
        go_wp2
        go_meet
        case rel => exact ⟨_, (decide ((l0.length : Int) > 16384)), (by first | rfl | (simp; done) | (simp [*]; done)), H', ⟨by first | omega | exact Nat.le_refl _⟩, ⟨by repeat (first | (with_reducible first | exact HB.out | apply below_alloc | apply pw_below_drewN | apply below_drew1) | exact HB.out)⟩⟩
  case rest =>
    clear HC3
    try clear c1
    try clear p2
    try clear c4
    try clear c4b0
    try clear c5
    try clear c5b0
    obtain ⟨kq, x17_2, rfl, HA, HJ2, HB⟩ := hcut
    cases kq with
    | zero => exact absurd HA.out (by simp [stylusref19_Check.j0])
    | succ kj2 =>
      have H := HA.out
      clear HA
      simp only [stylusref19_Check.j0] at H
      by_cases c6 : x17_2 = true
      · subst c6
        have H1 : (some 1) = some r := by rw [if_pos rfl] at H; exact H
        clear H
        have H := H1
        clear H1
        obtain rfl := Option.some.inj H
        go_wp2
        go_ret
        exact ⟨by first | rfl | (simp [errW_none, errW_some] <;> rfl) | (simp [*, errW_none, errW_some] <;> rfl), by repeat (first | (with_reducible first | exact HB.out | apply below_alloc | apply pw_below_drewN | apply below_drew1) | exact HB.out)⟩
      · replace c6 := Bool.eq_false_iff.mpr c6
        subst c6
        have H1 : (stylusref19_Check.l0 kj2 l0 0) = some r := by rw [if_neg (show ¬ (false = true) by decide)] at H; exact H
        clear H
        have H := H1
        clear H1
        have H' := Aside0.mk H
        clear H
        go_wp2
        go_loopg [5] kj2 (fun kq v5 w' => ∃ (x5_2 : Int), v5 = .int .i64 x5_2 ∧ Aside0 (stylusref19_Check.l0 kq l0 x5_2 = some r) ∧ Aside0 (kq ≤ kj2) ∧ Aside0 (Below w.heap.size w w'))
        case atStart => exact ⟨(0), (by first | rfl | (simp; done) | (simp [*]; done)), H', ⟨Nat.le_refl _⟩, ⟨by repeat (first | (with_reducible first | exact HB.out | apply below_alloc | apply pw_below_drewN | apply below_drew1) | exact HB.out)⟩⟩
        case round =>
          clear H'
          try clear c1
          try clear p2
          try clear c4
          try clear c4b0
          try clear c5
          try clear c5b0
          try clear c6
          try clear p2
          obtain ⟨x5_2, rfl, HA, HK2, HB⟩ := hrel
          cases gk with
          | zero => exact absurd HA.out (by simp [stylusref19_Check.l0])
          | succ k2 =>
            have H := HA.out
            clear HA
            simp only [stylusref19_Check.l0] at H
            by_cases c7 : x5_2 < (l0.length : Int)
            · rw [if_pos c7] at H
              have c7b0 : decide (x5_2 < (l0.length : Int)) = true := decide_eq_true c7
              clear c7
              by_cases c8 : 0 ≤ x5_2
              · rw [if_pos c8] at H
                have c8b0 : decide (0 ≤ x5_2) = true := decide_eq_true c8
                clear c8
                by_cases c9 : ((rd_T43 l0 x5_2).f0) < 1
                · rw [if_pos c9] at H
                  have c9b0 : decide (((rd_T43 l0 x5_2).f0) < 1) = true := decide_eq_true c9
                  clear c9
                  obtain rfl := Option.some.inj H
                  have p188 : 0 ≤ (x5_2 : Int) := of_decide_eq_true (by first | (with_reducible assumption) | assumption)
                  have q188 : x5_2 < (l0.length : Int) := of_decide_eq_true (by first | (with_reducible assumption) | assumption)
                  obtain ⟨ad188, e188, hx188_0, hx188_1, hx188_2, hx188_3, hx188_4⟩ := at_T43 HR0.out x5_2 p188 q188
                  cases e188
                  replace hx188_0 := (HB.out.cell (World.block_lt_of_cell? w _ hx188_0)).trans hx188_0
                  replace hx188_1 := (HB.out.cell (World.block_lt_of_cell? w _ hx188_1)).trans hx188_1
                  replace hx188_2 := (HB.out.cell (World.block_lt_of_cell? w _ hx188_2)).trans hx188_2
                  replace hx188_3 := (HB.out.cell (World.block_lt_of_cell? w _ hx188_3)).trans hx188_3
                  replace hx188_4 := (HB.out.cell (World.block_lt_of_cell? w _ hx188_4)).trans hx188_4
                  replace p188 := eq_true p188
                  replace q188 := eq_true q188
                  go_wp2_with (first | ((with_reducible refine gate_dst (N := 6) rfl ?_); (try (refine gate_guard (by rfl) ?_; dsimp only)); refine box_event ?hg (N := 6) ?hd (cs := #[.int .i64 0, .int .i64 0, .int .i64 0, .int .i64 0, .int .i64 0]) (t := 43) ?hr ?_; (case hd => rfl); (case hg => rfl); (case hr => first | (go_simp; done) | (go_simp; rfl)); intro gb189 hg w10 hbox hb; have n0_ := Aside0.mk (below_step (by repeat (first | (with_reducible first | exact HB.out | apply below_alloc | apply pw_below_drewN | apply below_drew1) | exact HB.out)) hb); have n1_ := Aside0.mk (hbox); have n2_ := Aside0.mk ((by rw [hg]; exact (below_size (by repeat (first | (with_reducible first | exact HB.out | apply below_alloc | apply pw_below_drewN | apply below_drew1) | exact HB.out))) : w.heap.size ≤ gb189)); have n3_ := Aside0.mk ((by rw [hg]; exact (below_size (by repeat (first | (with_reducible first | exact HB.out | apply below_alloc | apply pw_below_drewN | apply below_drew1) | exact HB.out))) : w.heap.size ≤ gb189)); clear HB; have HB := n0_; have BK189 := n1_; have GW189 := n2_; have GE189 := n3_; clear n0_ n1_ n2_ n3_; clear hb hbox hg; have hcz11_0 : w10.cell? ⟨gb189, 0, none⟩ = some (.int .i64 0) := (blk_cell BK189.out 0).trans rfl; have hcz11_1 : w10.cell? ⟨gb189, 1, none⟩ = some (.int .i64 0) := (blk_cell BK189.out 1).trans rfl; have hcz11_2 : w10.cell? ⟨gb189, 2, none⟩ = some (.int .i64 0) := (blk_cell BK189.out 2).trans rfl; have hcz11_3 : w10.cell? ⟨gb189, 3, none⟩ = some (.int .i64 0) := (blk_cell BK189.out 3).trans rfl; have hcz11_4 : w10.cell? ⟨gb189, 4, none⟩ = some (.int .i64 0) := (blk_cell BK189.out 4).trans rfl; have hfz11_0 := blk_frozen BK189.out 0; have hfz11_1 := blk_frozen BK189.out 1; have hfz11_2 := blk_frozen BK189.out 2; have hfz11_3 := blk_frozen BK189.out 3; have hfz11_4 := blk_frozen BK189.out 4))
                  go_ret
                  exact ⟨by first | rfl | (simp [errW_none, errW_some] <;> rfl) | (simp [*, errW_none, errW_some] <;> rfl), by repeat (first | (with_reducible first | exact HB.out | apply below_alloc | apply pw_below_drewN | apply below_drew1 | refine below_set ?_ GE189.out) | exact HB.out)⟩
                · rw [if_neg c9] at H
                  have c9b0 : decide (((rd_T43 l0 x5_2).f0) < 1) = false := decide_eq_false c9
                  clear c9
                  by_cases c12 : ((rd_T43 l0 x5_2).f0) > 4
                  · rw [if_pos c12] at H
                    have c12b0 : decide (4 < ((rd_T43 l0 x5_2).f0)) = true := decide_eq_true c12
                    clear c12
                    obtain rfl := Option.some.inj H
                    have p188 : 0 ≤ (x5_2 : Int) := of_decide_eq_true (by first | (with_reducible assumption) | assumption)
                    have q188 : x5_2 < (l0.length : Int) := of_decide_eq_true (by first | (with_reducible assumption) | assumption)
                    obtain ⟨ad188, e188, hx188_0, hx188_1, hx188_2, hx188_3, hx188_4⟩ := at_T43 HR0.out x5_2 p188 q188
                    cases e188
                    replace hx188_0 := (HB.out.cell (World.block_lt_of_cell? w _ hx188_0)).trans hx188_0
                    replace hx188_1 := (HB.out.cell (World.block_lt_of_cell? w _ hx188_1)).trans hx188_1
                    replace hx188_2 := (HB.out.cell (World.block_lt_of_cell? w _ hx188_2)).trans hx188_2
                    replace hx188_3 := (HB.out.cell (World.block_lt_of_cell? w _ hx188_3)).trans hx188_3
                    replace hx188_4 := (HB.out.cell (World.block_lt_of_cell? w _ hx188_4)).trans hx188_4
                    replace p188 := eq_true p188
                    replace q188 := eq_true q188
                    go_wp2_with (first | ((with_reducible refine gate_dst (N := 6) rfl ?_); (try (refine gate_guard (by rfl) ?_; dsimp only)); refine box_event ?hg (N := 6) ?hd (cs := #[.int .i64 0, .int .i64 0, .int .i64 0, .int .i64 0, .int .i64 0]) (t := 43) ?hr ?_; (case hd => rfl); (case hg => rfl); (case hr => first | (go_simp; done) | (go_simp; rfl)); intro gb189 hg w13 hbox hb; have n0_ := Aside0.mk (below_step (by repeat (first | (with_reducible first | exact HB.out | apply below_alloc | apply pw_below_drewN | apply below_drew1) | exact HB.out)) hb); have n1_ := Aside0.mk (hbox); have n2_ := Aside0.mk ((by rw [hg]; exact (below_size (by repeat (first | (with_reducible first | exact HB.out | apply below_alloc | apply pw_below_drewN | apply below_drew1) | exact HB.out))) : w.heap.size ≤ gb189)); have n3_ := Aside0.mk ((by rw [hg]; exact (below_size (by repeat (first | (with_reducible first | exact HB.out | apply below_alloc | apply pw_below_drewN | apply below_drew1) | exact HB.out))) : w.heap.size ≤ gb189)); clear HB; have HB := n0_; have BK189 := n1_; have GW189 := n2_; have GE189 := n3_; clear n0_ n1_ n2_ n3_; clear hb hbox hg; have hcz14_0 : w13.cell? ⟨gb189, 0, none⟩ = some (.int .i64 0) := (blk_cell BK189.out 0).trans rfl; have hcz14_1 : w13.cell? ⟨gb189, 1, none⟩ = some (.int .i64 0) := (blk_cell BK189.out 1).trans rfl; have hcz14_2 : w13.cell? ⟨gb189, 2, none⟩ = some (.int .i64 0) := (blk_cell BK189.out 2).trans rfl; have hcz14_3 : w13.cell? ⟨gb189, 3, none⟩ = some (.int .i64 0) := (blk_cell BK189.out 3).trans rfl; have hcz14_4 : w13.cell? ⟨gb189, 4, none⟩ = some (.int .i64 0) := (blk_cell BK189.out 4).trans rfl; have hfz14_0 := blk_frozen BK189.out 0; have hfz14_1 := blk_frozen BK189.out 1; have hfz14_2 := blk_frozen BK189.out 2; have hfz14_3 := blk_frozen BK189.out 3; have hfz14_4 := blk_frozen BK189.out 4))
                    go_ret
                    exact ⟨by first | rfl | (simp [errW_none, errW_some] <;> rfl) | (simp [*, errW_none, errW_some] <;> rfl), by repeat (first | (with_reducible first | exact HB.out | apply below_alloc | apply pw_below_drewN | apply below_drew1 | refine below_set ?_ GE189.out) | exact HB.out)⟩
                  · rw [if_neg c12] at H
                    have c12b0 : decide (4 < ((rd_T43 l0 x5_2).f0)) = false := decide_eq_false c12
                    clear c12
                    by_cases c15 : ((rd_T43 l0 x5_2).f1) < 0
                    · rw [if_pos c15] at H
                      have c15b0 : decide (((rd_T43 l0 x5_2).f1) < 0) = true := decide_eq_true c15
                      clear c15
                      obtain rfl := Option.some.inj H
                      have p188 : 0 ≤ (x5_2 : Int) := of_decide_eq_true (by first | (with_reducible assumption) | assumption)
                      have q188 : x5_2 < (l0.length : Int) := of_decide_eq_true (by first | (with_reducible assumption) | assumption)
                      obtain ⟨ad188, e188, hx188_0, hx188_1, hx188_2, hx188_3, hx188_4⟩ := at_T43 HR0.out x5_2 p188 q188
                      cases e188
                      replace hx188_0 := (HB.out.cell (World.block_lt_of_cell? w _ hx188_0)).trans hx188_0
                      replace hx188_1 := (HB.out.cell (World.block_lt_of_cell? w _ hx188_1)).trans hx188_1
                      replace hx188_2 := (HB.out.cell (World.block_lt_of_cell? w _ hx188_2)).trans hx188_2
                      replace hx188_3 := (HB.out.cell (World.block_lt_of_cell? w _ hx188_3)).trans hx188_3
                      replace hx188_4 := (HB.out.cell (World.block_lt_of_cell? w _ hx188_4)).trans hx188_4
                      replace p188 := eq_true p188
                      replace q188 := eq_true q188
                      go_wp2_with (first | ((with_reducible refine gate_dst (N := 6) rfl ?_); (try (refine gate_guard (by rfl) ?_; dsimp only)); refine box_event ?hg (N := 6) ?hd (cs := #[.int .i64 0, .int .i64 0, .int .i64 0, .int .i64 0, .int .i64 0]) (t := 43) ?hr ?_; (case hd => rfl); (case hg => rfl); (case hr => first | (go_simp; done) | (go_simp; rfl)); intro gb189 hg w16 hbox hb; have n0_ := Aside0.mk (below_step (by repeat (first | (with_reducible first | exact HB.out | apply below_alloc | apply pw_below_drewN | apply below_drew1) | exact HB.out)) hb); have n1_ := Aside0.mk (hbox); have n2_ := Aside0.mk ((by rw [hg]; exact (below_size (by repeat (first | (with_reducible first | exact HB.out | apply below_alloc | apply pw_below_drewN | apply below_drew1) | exact HB.out))) : w.heap.size ≤ gb189)); have n3_ := Aside0.mk ((by rw [hg]; exact (below_size (by repeat (first | (with_reducible first | exact HB.out | apply below_alloc | apply pw_below_drewN | apply below_drew1) | exact HB.out))) : w.heap.size ≤ gb189)); clear HB; have HB := n0_; have BK189 := n1_; have GW189 := n2_; have GE189 := n3_; clear n0_ n1_ n2_ n3_; clear hb hbox hg; have hcz17_0 : w16.cell? ⟨gb189, 0, none⟩ = some (.int .i64 0) := (blk_cell BK189.out 0).trans rfl; have hcz17_1 : w16.cell? ⟨gb189, 1, none⟩ = some (.int .i64 0) := (blk_cell BK189.out 1).trans rfl; have hcz17_2 : w16.cell? ⟨gb189, 2, none⟩ = some (.int .i64 0) := (blk_cell BK189.out 2).trans rfl; have hcz17_3 : w16.cell? ⟨gb189, 3, none⟩ = some (.int .i64 0) := (blk_cell BK189.out 3).trans rfl; have hcz17_4 : w16.cell? ⟨gb189, 4, none⟩ = some (.int .i64 0) := (blk_cell BK189.out 4).trans rfl; have hfz17_0 := blk_frozen BK189.out 0; have hfz17_1 := blk_frozen BK189.out 1; have hfz17_2 := blk_frozen BK189.out 2; have hfz17_3 := blk_frozen BK189.out 3; have hfz17_4 := blk_frozen BK189.out 4))
                      go_ret
                      exact ⟨by first | rfl | (simp [errW_none, errW_some] <;> rfl) | (simp [*, errW_none, errW_some] <;> rfl), by repeat (first | (with_reducible first | exact HB.out | apply below_alloc | apply pw_below_drewN | apply below_drew1 | refine below_set ?_ GE189.out) | exact HB.out)⟩
                    · rw [if_neg c15] at H
                      have c15b0 : decide (((rd_T43 l0 x5_2).f1) < 0) = false := decide_eq_false c15
                      clear c15
                      by_cases c18 : ((rd_T43 l0 x5_2).f2) < 0
                      · rw [if_pos c18] at H
                        have c18b0 : decide (((rd_T43 l0 x5_2).f2) < 0) = true := decide_eq_true c18
                        clear c18
                        obtain rfl := Option.some.inj H
                        have p188 : 0 ≤ (x5_2 : Int) := of_decide_eq_true (by first | (with_reducible assumption) | assumption)
                        have q188 : x5_2 < (l0.length : Int) := of_decide_eq_true (by first | (with_reducible assumption) | assumption)
                        obtain ⟨ad188, e188, hx188_0, hx188_1, hx188_2, hx188_3, hx188_4⟩ := at_T43 HR0.out x5_2 p188 q188
                        cases e188
                        replace hx188_0 := (HB.out.cell (World.block_lt_of_cell? w _ hx188_0)).trans hx188_0
                        replace hx188_1 := (HB.out.cell (World.block_lt_of_cell? w _ hx188_1)).trans hx188_1
                        replace hx188_2 := (HB.out.cell (World.block_lt_of_cell? w _ hx188_2)).trans hx188_2
                        replace hx188_3 := (HB.out.cell (World.block_lt_of_cell? w _ hx188_3)).trans hx188_3
                        replace hx188_4 := (HB.out.cell (World.block_lt_of_cell? w _ hx188_4)).trans hx188_4
                        replace p188 := eq_true p188
                        replace q188 := eq_true q188
                        go_wp2_with (first | ((with_reducible refine gate_dst (N := 6) rfl ?_); (try (refine gate_guard (by rfl) ?_; dsimp only)); refine box_event ?hg (N := 6) ?hd (cs := #[.int .i64 0, .int .i64 0, .int .i64 0, .int .i64 0, .int .i64 0]) (t := 43) ?hr ?_; (case hd => rfl); (case hg => rfl); (case hr => first | (go_simp; done) | (go_simp; rfl)); intro gb189 hg w19 hbox hb; have n0_ := Aside0.mk (below_step (by repeat (first | (with_reducible first | exact HB.out | apply below_alloc | apply pw_below_drewN | apply below_drew1) | exact HB.out)) hb); have n1_ := Aside0.mk (hbox); have n2_ := Aside0.mk ((by rw [hg]; exact (below_size (by repeat (first | (with_reducible first | exact HB.out | apply below_alloc | apply pw_below_drewN | apply below_drew1) | exact HB.out))) : w.heap.size ≤ gb189)); have n3_ := Aside0.mk ((by rw [hg]; exact (below_size (by repeat (first | (with_reducible first | exact HB.out | apply below_alloc | apply pw_below_drewN | apply below_drew1) | exact HB.out))) : w.heap.size ≤ gb189)); clear HB; have HB := n0_; have BK189 := n1_; have GW189 := n2_; have GE189 := n3_; clear n0_ n1_ n2_ n3_; clear hb hbox hg; have hcz20_0 : w19.cell? ⟨gb189, 0, none⟩ = some (.int .i64 0) := (blk_cell BK189.out 0).trans rfl; have hcz20_1 : w19.cell? ⟨gb189, 1, none⟩ = some (.int .i64 0) := (blk_cell BK189.out 1).trans rfl; have hcz20_2 : w19.cell? ⟨gb189, 2, none⟩ = some (.int .i64 0) := (blk_cell BK189.out 2).trans rfl; have hcz20_3 : w19.cell? ⟨gb189, 3, none⟩ = some (.int .i64 0) := (blk_cell BK189.out 3).trans rfl; have hcz20_4 : w19.cell? ⟨gb189, 4, none⟩ = some (.int .i64 0) := (blk_cell BK189.out 4).trans rfl; have hfz20_0 := blk_frozen BK189.out 0; have hfz20_1 := blk_frozen BK189.out 1; have hfz20_2 := blk_frozen BK189.out 2; have hfz20_3 := blk_frozen BK189.out 3; have hfz20_4 := blk_frozen BK189.out 4))
                        go_ret
                        exact ⟨by first | rfl | (simp [errW_none, errW_some] <;> rfl) | (simp [*, errW_none, errW_some] <;> rfl), by repeat (first | (with_reducible first | exact HB.out | apply below_alloc | apply pw_below_drewN | apply below_drew1 | refine below_set ?_ GE189.out) | exact HB.out)⟩
                      · rw [if_neg c18] at H
                        have c18b0 : decide (((rd_T43 l0 x5_2).f2) < 0) = false := decide_eq_false c18
                        clear c18
                        by_cases c21 : ((rd_T43 l0 x5_2).f3) < 0
                        · rw [if_pos c21] at H
                          have c21b0 : decide (((rd_T43 l0 x5_2).f3) < 0) = true := decide_eq_true c21
                          clear c21
                          obtain rfl := Option.some.inj H
                          have p188 : 0 ≤ (x5_2 : Int) := of_decide_eq_true (by first | (with_reducible assumption) | assumption)
                          have q188 : x5_2 < (l0.length : Int) := of_decide_eq_true (by first | (with_reducible assumption) | assumption)
                          obtain ⟨ad188, e188, hx188_0, hx188_1, hx188_2, hx188_3, hx188_4⟩ := at_T43 HR0.out x5_2 p188 q188
                          cases e188
                          replace hx188_0 := (HB.out.cell (World.block_lt_of_cell? w _ hx188_0)).trans hx188_0
                          replace hx188_1 := (HB.out.cell (World.block_lt_of_cell? w _ hx188_1)).trans hx188_1
                          replace hx188_2 := (HB.out.cell (World.block_lt_of_cell? w _ hx188_2)).trans hx188_2
                          replace hx188_3 := (HB.out.cell (World.block_lt_of_cell? w _ hx188_3)).trans hx188_3
                          replace hx188_4 := (HB.out.cell (World.block_lt_of_cell? w _ hx188_4)).trans hx188_4
                          replace p188 := eq_true p188
                          replace q188 := eq_true q188
                          go_wp2_with (first | ((with_reducible refine gate_dst (N := 6) rfl ?_); (try (refine gate_guard (by rfl) ?_; dsimp only)); refine box_event ?hg (N := 6) ?hd (cs := #[.int .i64 0, .int .i64 0, .int .i64 0, .int .i64 0, .int .i64 0]) (t := 43) ?hr ?_; (case hd => rfl); (case hg => rfl); (case hr => first | (go_simp; done) | (go_simp; rfl)); intro gb189 hg w22 hbox hb; have n0_ := Aside0.mk (below_step (by repeat (first | (with_reducible first | exact HB.out | apply below_alloc | apply pw_below_drewN | apply below_drew1) | exact HB.out)) hb); have n1_ := Aside0.mk (hbox); have n2_ := Aside0.mk ((by rw [hg]; exact (below_size (by repeat (first | (with_reducible first | exact HB.out | apply below_alloc | apply pw_below_drewN | apply below_drew1) | exact HB.out))) : w.heap.size ≤ gb189)); have n3_ := Aside0.mk ((by rw [hg]; exact (below_size (by repeat (first | (with_reducible first | exact HB.out | apply below_alloc | apply pw_below_drewN | apply below_drew1) | exact HB.out))) : w.heap.size ≤ gb189)); clear HB; have HB := n0_; have BK189 := n1_; have GW189 := n2_; have GE189 := n3_; clear n0_ n1_ n2_ n3_; clear hb hbox hg; have hcz23_0 : w22.cell? ⟨gb189, 0, none⟩ = some (.int .i64 0) := (blk_cell BK189.out 0).trans rfl; have hcz23_1 : w22.cell? ⟨gb189, 1, none⟩ = some (.int .i64 0) := (blk_cell BK189.out 1).trans rfl; have hcz23_2 : w22.cell? ⟨gb189, 2, none⟩ = some (.int .i64 0) := (blk_cell BK189.out 2).trans rfl; have hcz23_3 : w22.cell? ⟨gb189, 3, none⟩ = some (.int .i64 0) := (blk_cell BK189.out 3).trans rfl; have hcz23_4 : w22.cell? ⟨gb189, 4, none⟩ = some (.int .i64 0) := (blk_cell BK189.out 4).trans rfl; have hfz23_0 := blk_frozen BK189.out 0; have hfz23_1 := blk_frozen BK189.out 1; have hfz23_2 := blk_frozen BK189.out 2; have hfz23_3 := blk_frozen BK189.out 3; have hfz23_4 := blk_frozen BK189.out 4))
                          go_ret
                          exact ⟨by first | rfl | (simp [errW_none, errW_some] <;> rfl) | (simp [*, errW_none, errW_some] <;> rfl), by repeat (first | (with_reducible first | exact HB.out | apply below_alloc | apply pw_below_drewN | apply below_drew1 | refine below_set ?_ GE189.out) | exact HB.out)⟩
                        · rw [if_neg c21] at H
                          have c21b0 : decide (((rd_T43 l0 x5_2).f3) < 0) = false := decide_eq_false c21
                          clear c21
                          by_cases c24 : ((rd_T43 l0 x5_2).f1) > 2000
                          · rw [if_pos c24] at H
                            have c24b0 : decide (2000 < ((rd_T43 l0 x5_2).f1)) = true := decide_eq_true c24
                            clear c24
                            obtain rfl := Option.some.inj H
                            have p188 : 0 ≤ (x5_2 : Int) := of_decide_eq_true (by first | (with_reducible assumption) | assumption)
                            have q188 : x5_2 < (l0.length : Int) := of_decide_eq_true (by first | (with_reducible assumption) | assumption)
                            obtain ⟨ad188, e188, hx188_0, hx188_1, hx188_2, hx188_3, hx188_4⟩ := at_T43 HR0.out x5_2 p188 q188
                            cases e188
                            replace hx188_0 := (HB.out.cell (World.block_lt_of_cell? w _ hx188_0)).trans hx188_0
                            replace hx188_1 := (HB.out.cell (World.block_lt_of_cell? w _ hx188_1)).trans hx188_1
                            replace hx188_2 := (HB.out.cell (World.block_lt_of_cell? w _ hx188_2)).trans hx188_2
                            replace hx188_3 := (HB.out.cell (World.block_lt_of_cell? w _ hx188_3)).trans hx188_3
                            replace hx188_4 := (HB.out.cell (World.block_lt_of_cell? w _ hx188_4)).trans hx188_4
                            replace p188 := eq_true p188
                            replace q188 := eq_true q188
                            go_wp2_with (first | ((with_reducible refine gate_dst (N := 6) rfl ?_); (try (refine gate_guard (by rfl) ?_; dsimp only)); refine box_event ?hg (N := 6) ?hd (cs := #[.int .i64 0, .int .i64 0, .int .i64 0, .int .i64 0, .int .i64 0]) (t := 43) ?hr ?_; (case hd => rfl); (case hg => rfl); (case hr => first | (go_simp; done) | (go_simp; rfl)); intro gb189 hg w25 hbox hb; have n0_ := Aside0.mk (below_step (by repeat (first | (with_reducible first | exact HB.out | apply below_alloc | apply pw_below_drewN | apply below_drew1) | exact HB.out)) hb); have n1_ := Aside0.mk (hbox); have n2_ := Aside0.mk ((by rw [hg]; exact (below_size (by repeat (first | (with_reducible first | exact HB.out | apply below_alloc | apply pw_below_drewN | apply below_drew1) | exact HB.out))) : w.heap.size ≤ gb189)); have n3_ := Aside0.mk ((by rw [hg]; exact (below_size (by repeat (first | (with_reducible first | exact HB.out | apply below_alloc | apply pw_below_drewN | apply below_drew1) | exact HB.out))) : w.heap.size ≤ gb189)); clear HB; have HB := n0_; have BK189 := n1_; have GW189 := n2_; have GE189 := n3_; clear n0_ n1_ n2_ n3_; clear hb hbox hg; have hcz26_0 : w25.cell? ⟨gb189, 0, none⟩ = some (.int .i64 0) := (blk_cell BK189.out 0).trans rfl; have hcz26_1 : w25.cell? ⟨gb189, 1, none⟩ = some (.int .i64 0) := (blk_cell BK189.out 1).trans rfl; have hcz26_2 : w25.cell? ⟨gb189, 2, none⟩ = some (.int .i64 0) := (blk_cell BK189.out 2).trans rfl; have hcz26_3 : w25.cell? ⟨gb189, 3, none⟩ = some (.int .i64 0) := (blk_cell BK189.out 3).trans rfl; have hcz26_4 : w25.cell? ⟨gb189, 4, none⟩ = some (.int .i64 0) := (blk_cell BK189.out 4).trans rfl; have hfz26_0 := blk_frozen BK189.out 0; have hfz26_1 := blk_frozen BK189.out 1; have hfz26_2 := blk_frozen BK189.out 2; have hfz26_3 := blk_frozen BK189.out 3; have hfz26_4 := blk_frozen BK189.out 4))
                            go_ret
                            exact ⟨by first | rfl | (simp [errW_none, errW_some] <;> rfl) | (simp [*, errW_none, errW_some] <;> rfl), by repeat (first | (with_reducible first | exact HB.out | apply below_alloc | apply pw_below_drewN | apply below_drew1 | refine below_set ?_ GE189.out) | exact HB.out)⟩
                          · rw [if_neg c24] at H
                            have c24b0 : decide (2000 < ((rd_T43 l0 x5_2).f1)) = false := decide_eq_false c24
                            clear c24
                            by_cases c27 : ((rd_T43 l0 x5_2).f2) > 2000
                            · rw [if_pos c27] at H
                              have c27b0 : decide (2000 < ((rd_T43 l0 x5_2).f2)) = true := decide_eq_true c27
                              clear c27
                              obtain rfl := Option.some.inj H
                              have p188 : 0 ≤ (x5_2 : Int) := of_decide_eq_true (by first | (with_reducible assumption) | assumption)
                              have q188 : x5_2 < (l0.length : Int) := of_decide_eq_true (by first | (with_reducible assumption) | assumption)
                              obtain ⟨ad188, e188, hx188_0, hx188_1, hx188_2, hx188_3, hx188_4⟩ := at_T43 HR0.out x5_2 p188 q188
                              cases e188
                              replace hx188_0 := (HB.out.cell (World.block_lt_of_cell? w _ hx188_0)).trans hx188_0
                              replace hx188_1 := (HB.out.cell (World.block_lt_of_cell? w _ hx188_1)).trans hx188_1
                              replace hx188_2 := (HB.out.cell (World.block_lt_of_cell? w _ hx188_2)).trans hx188_2
                              replace hx188_3 := (HB.out.cell (World.block_lt_of_cell? w _ hx188_3)).trans hx188_3
                              replace hx188_4 := (HB.out.cell (World.block_lt_of_cell? w _ hx188_4)).trans hx188_4
                              replace p188 := eq_true p188
                              replace q188 := eq_true q188
                              go_wp2_with (first | ((with_reducible refine gate_dst (N := 6) rfl ?_); (try (refine gate_guard (by rfl) ?_; dsimp only)); refine box_event ?hg (N := 6) ?hd (cs := #[.int .i64 0, .int .i64 0, .int .i64 0, .int .i64 0, .int .i64 0]) (t := 43) ?hr ?_; (case hd => rfl); (case hg => rfl); (case hr => first | (go_simp; done) | (go_simp; rfl)); intro gb189 hg w28 hbox hb; have n0_ := Aside0.mk (below_step (by repeat (first | (with_reducible first | exact HB.out | apply below_alloc | apply pw_below_drewN | apply below_drew1) | exact HB.out)) hb); have n1_ := Aside0.mk (hbox); have n2_ := Aside0.mk ((by rw [hg]; exact (below_size (by repeat (first | (with_reducible first | exact HB.out | apply below_alloc | apply pw_below_drewN | apply below_drew1) | exact HB.out))) : w.heap.size ≤ gb189)); have n3_ := Aside0.mk ((by rw [hg]; exact (below_size (by repeat (first | (with_reducible first | exact HB.out | apply below_alloc | apply pw_below_drewN | apply below_drew1) | exact HB.out))) : w.heap.size ≤ gb189)); clear HB; have HB := n0_; have BK189 := n1_; have GW189 := n2_; have GE189 := n3_; clear n0_ n1_ n2_ n3_; clear hb hbox hg; have hcz29_0 : w28.cell? ⟨gb189, 0, none⟩ = some (.int .i64 0) := (blk_cell BK189.out 0).trans rfl; have hcz29_1 : w28.cell? ⟨gb189, 1, none⟩ = some (.int .i64 0) := (blk_cell BK189.out 1).trans rfl; have hcz29_2 : w28.cell? ⟨gb189, 2, none⟩ = some (.int .i64 0) := (blk_cell BK189.out 2).trans rfl; have hcz29_3 : w28.cell? ⟨gb189, 3, none⟩ = some (.int .i64 0) := (blk_cell BK189.out 3).trans rfl; have hcz29_4 : w28.cell? ⟨gb189, 4, none⟩ = some (.int .i64 0) := (blk_cell BK189.out 4).trans rfl; have hfz29_0 := blk_frozen BK189.out 0; have hfz29_1 := blk_frozen BK189.out 1; have hfz29_2 := blk_frozen BK189.out 2; have hfz29_3 := blk_frozen BK189.out 3; have hfz29_4 := blk_frozen BK189.out 4))
                              go_ret
                              exact ⟨by first | rfl | (simp [errW_none, errW_some] <;> rfl) | (simp [*, errW_none, errW_some] <;> rfl), by repeat (first | (with_reducible first | exact HB.out | apply below_alloc | apply pw_below_drewN | apply below_drew1 | refine below_set ?_ GE189.out) | exact HB.out)⟩
                            · rw [if_neg c27] at H
                              have c27b0 : decide (2000 < ((rd_T43 l0 x5_2).f2)) = false := decide_eq_false c27
                              clear c27
                              by_cases c30 : ((rd_T43 l0 x5_2).f3) > 2000
                              · rw [if_pos c30] at H
                                have c30b0 : decide (2000 < ((rd_T43 l0 x5_2).f3)) = true := decide_eq_true c30
                                clear c30
                                obtain rfl := Option.some.inj H
                                have p188 : 0 ≤ (x5_2 : Int) := of_decide_eq_true (by first | (with_reducible assumption) | assumption)
                                have q188 : x5_2 < (l0.length : Int) := of_decide_eq_true (by first | (with_reducible assumption) | assumption)
                                obtain ⟨ad188, e188, hx188_0, hx188_1, hx188_2, hx188_3, hx188_4⟩ := at_T43 HR0.out x5_2 p188 q188
                                cases e188
                                replace hx188_0 := (HB.out.cell (World.block_lt_of_cell? w _ hx188_0)).trans hx188_0
                                replace hx188_1 := (HB.out.cell (World.block_lt_of_cell? w _ hx188_1)).trans hx188_1
                                replace hx188_2 := (HB.out.cell (World.block_lt_of_cell? w _ hx188_2)).trans hx188_2
                                replace hx188_3 := (HB.out.cell (World.block_lt_of_cell? w _ hx188_3)).trans hx188_3
                                replace hx188_4 := (HB.out.cell (World.block_lt_of_cell? w _ hx188_4)).trans hx188_4
                                replace p188 := eq_true p188
                                replace q188 := eq_true q188
                                go_wp2_with (first | ((with_reducible refine gate_dst (N := 6) rfl ?_); (try (refine gate_guard (by rfl) ?_; dsimp only)); refine box_event ?hg (N := 6) ?hd (cs := #[.int .i64 0, .int .i64 0, .int .i64 0, .int .i64 0, .int .i64 0]) (t := 43) ?hr ?_; (case hd => rfl); (case hg => rfl); (case hr => first | (go_simp; done) | (go_simp; rfl)); intro gb189 hg w31 hbox hb; have n0_ := Aside0.mk (below_step (by repeat (first | (with_reducible first | exact HB.out | apply below_alloc | apply pw_below_drewN | apply below_drew1) | exact HB.out)) hb); have n1_ := Aside0.mk (hbox); have n2_ := Aside0.mk ((by rw [hg]; exact (below_size (by repeat (first | (with_reducible first | exact HB.out | apply below_alloc | apply pw_below_drewN | apply below_drew1) | exact HB.out))) : w.heap.size ≤ gb189)); have n3_ := Aside0.mk ((by rw [hg]; exact (below_size (by repeat (first | (with_reducible first | exact HB.out | apply below_alloc | apply pw_below_drewN | apply below_drew1) | exact HB.out))) : w.heap.size ≤ gb189)); clear HB; have HB := n0_; have BK189 := n1_; have GW189 := n2_; have GE189 := n3_; clear n0_ n1_ n2_ n3_; clear hb hbox hg; have hcz32_0 : w31.cell? ⟨gb189, 0, none⟩ = some (.int .i64 0) := (blk_cell BK189.out 0).trans rfl; have hcz32_1 : w31.cell? ⟨gb189, 1, none⟩ = some (.int .i64 0) := (blk_cell BK189.out 1).trans rfl; have hcz32_2 : w31.cell? ⟨gb189, 2, none⟩ = some (.int .i64 0) := (blk_cell BK189.out 2).trans rfl; have hcz32_3 : w31.cell? ⟨gb189, 3, none⟩ = some (.int .i64 0) := (blk_cell BK189.out 3).trans rfl; have hcz32_4 : w31.cell? ⟨gb189, 4, none⟩ = some (.int .i64 0) := (blk_cell BK189.out 4).trans rfl; have hfz32_0 := blk_frozen BK189.out 0; have hfz32_1 := blk_frozen BK189.out 1; have hfz32_2 := blk_frozen BK189.out 2; have hfz32_3 := blk_frozen BK189.out 3; have hfz32_4 := blk_frozen BK189.out 4))
                                go_ret
                                exact ⟨by first | rfl | (simp [errW_none, errW_some] <;> rfl) | (simp [*, errW_none, errW_some] <;> rfl), by repeat (first | (with_reducible first | exact HB.out | apply below_alloc | apply pw_below_drewN | apply below_drew1 | refine below_set ?_ GE189.out) | exact HB.out)⟩
                              · rw [if_neg c30] at H
                                have c30b0 : decide (2000 < ((rd_T43 l0 x5_2).f3)) = false := decide_eq_false c30
                                clear c30
                                have H' := Aside0.mk H
                                clear H
                                have p188 : 0 ≤ (x5_2 : Int) := of_decide_eq_true (by first | (with_reducible assumption) | assumption)
                                have q188 : x5_2 < (l0.length : Int) := of_decide_eq_true (by first | (with_reducible assumption) | assumption)
                                obtain ⟨ad188, e188, hx188_0, hx188_1, hx188_2, hx188_3, hx188_4⟩ := at_T43 HR0.out x5_2 p188 q188
                                cases e188
                                replace hx188_0 := (HB.out.cell (World.block_lt_of_cell? w _ hx188_0)).trans hx188_0
                                replace hx188_1 := (HB.out.cell (World.block_lt_of_cell? w _ hx188_1)).trans hx188_1
                                replace hx188_2 := (HB.out.cell (World.block_lt_of_cell? w _ hx188_2)).trans hx188_2
                                replace hx188_3 := (HB.out.cell (World.block_lt_of_cell? w _ hx188_3)).trans hx188_3
                                replace hx188_4 := (HB.out.cell (World.block_lt_of_cell? w _ hx188_4)).trans hx188_4
                                replace p188 := eq_true p188
                                replace q188 := eq_true q188
                                go_wp2_with (first | ((with_reducible refine gate_dst (N := 6) rfl ?_); (try (refine gate_guard (by rfl) ?_; dsimp only)); refine box_event ?hg (N := 6) ?hd (cs := #[.int .i64 0, .int .i64 0, .int .i64 0, .int .i64 0, .int .i64 0]) (t := 43) ?hr ?_; (case hd => rfl); (case hg => rfl); (case hr => first | (go_simp; done) | (go_simp; rfl)); intro gb189 hg w33 hbox hb; have n0_ := Aside0.mk (below_step (by repeat (first | (with_reducible first | exact HB.out | apply below_alloc | apply pw_below_drewN | apply below_drew1) | exact HB.out)) hb); have n1_ := Aside0.mk (hbox); have n2_ := Aside0.mk ((by rw [hg]; exact (below_size (by repeat (first | (with_reducible first | exact HB.out | apply below_alloc | apply pw_below_drewN | apply below_drew1) | exact HB.out))) : w.heap.size ≤ gb189)); have n3_ := Aside0.mk ((by rw [hg]; exact (below_size (by repeat (first | (with_reducible first | exact HB.out | apply below_alloc | apply pw_below_drewN | apply below_drew1) | exact HB.out))) : w.heap.size ≤ gb189)); clear HB; have HB := n0_; have BK189 := n1_; have GW189 := n2_; have GE189 := n3_; clear n0_ n1_ n2_ n3_; clear hb hbox hg; have hcz34_0 : w33.cell? ⟨gb189, 0, none⟩ = some (.int .i64 0) := (blk_cell BK189.out 0).trans rfl; have hcz34_1 : w33.cell? ⟨gb189, 1, none⟩ = some (.int .i64 0) := (blk_cell BK189.out 1).trans rfl; have hcz34_2 : w33.cell? ⟨gb189, 2, none⟩ = some (.int .i64 0) := (blk_cell BK189.out 2).trans rfl; have hcz34_3 : w33.cell? ⟨gb189, 3, none⟩ = some (.int .i64 0) := (blk_cell BK189.out 3).trans rfl; have hcz34_4 : w33.cell? ⟨gb189, 4, none⟩ = some (.int .i64 0) := (blk_cell BK189.out 4).trans rfl; have hfz34_0 := blk_frozen BK189.out 0; have hfz34_1 := blk_frozen BK189.out 1; have hfz34_2 := blk_frozen BK189.out 2; have hfz34_3 := blk_frozen BK189.out 3; have hfz34_4 := blk_frozen BK189.out 4))
                                go_roundg k2
                                case measure => have := HJ2.out; have := HK2.out; omega
                                case rel => exact ⟨(wrap64 (x5_2 + 1)), (by first | rfl | (simp; done) | (simp [*]; done)), H', ⟨by have := HJ2.out; have := HK2.out; omega⟩, ⟨by repeat (first | (with_reducible first | exact HB.out | apply below_alloc | apply pw_below_drewN | apply below_drew1 | refine below_set ?_ GE189.out) | exact HB.out)⟩⟩
              · rw [if_neg c8] at H
                exact absurd H (by simp)
            · rw [if_neg c7] at H
              have c7b0 : decide (x5_2 < (l0.length : Int)) = false := decide_eq_false c7
              clear c7
              obtain rfl := Option.some.inj H
              go_wp2
              go_ret
              exact ⟨by first | rfl | (simp [errW_none, errW_some] <;> rfl) | (simp [*, errW_none, errW_some] <;> rfl), by repeat (first | (with_reducible first | exact HB.out | apply below_alloc | apply pw_below_drewN | apply below_drew1) | exact HB.out)⟩

end Go.Proofs.Ytbddfnmhhmkfkaa.Pr
/- Walks of the Go functions of this seat, and the Lean functions that they come to: written by a program (mkprint.py over the kit's print). -/
namespace Go.Proofs.Ytbddfnmhhmkfkaa.Pr
open Go.RowKit Go.Proofs.YtbddfnmhhmkfkaaW.PrintWords Go.Proofs.YtbddfnmhhmkfkaaW.PrintLast Go.Proofs.YtbddfnmhhmkfkaaW.PrintMore
attribute [local go_sem] max2_int min2_int max_two min_two max_three min_three max_four min_four   -- for this text's walks alone
set_option linter.unusedVariables false
set_option linter.unusedSimpArgs false

/-! ### stylusref19_Hyphen: function 57 -/
def stylusref19_Hyphen.f (l0 : List (S43)) (a1 : Int) : Option (Bool) := if a1 ≥ 0 then (if a1 < (l0.length : Int) then (if 0 ≤ a1 then (some (((rd_T43 l0 a1).f0) == 3)) else (none)) else (some false)) else (some false)
set_option maxHeartbeats 8000000 in
set_option maxRecDepth 100000 in
theorem stylusref19_Hyphen.calls (A0 : Option Addr) (c0 : Nat) (l0 : List (S43)) (a1 : Int) (r : Bool) (w : World) (hr0 : Kd.C k43 w A0 l0.length l0) (hc0 : l0.length ≤ c0) (h : stylusref19_Hyphen.f l0 a1 = some r) :
    Calls Try.prog 57 #[.slice A0 l0.length c0, .int .i64 a1] w fun e w' => e = .returned (.bool r) ∧ Drawn0 w w' := by
  have HR0 := Aside0.mk hr0
  have HC0 := Aside0.mk hc0
  clear hr0 hc0
  have H : (if a1 ≥ 0 then (if a1 < (l0.length : Int) then (if 0 ≤ a1 then (some (((rd_T43 l0 a1).f0) == 3)) else (none)) else (some false)) else (some false)) = some r := h
  clear h
  by_cases c3 : a1 ≥ 0
  · rw [if_pos c3] at H
    have c3b0 : decide (0 ≤ a1) = true := decide_eq_true c3
    clear c3
    by_cases c4 : a1 < (l0.length : Int)
    · rw [if_pos c4] at H
      have c4b0 : decide (a1 < (l0.length : Int)) = true := decide_eq_true c4
      clear c4
      by_cases c5 : 0 ≤ a1
      · rw [if_pos c5] at H
        have c5b0 : decide (0 ≤ a1) = true := decide_eq_true c5
        clear c5
        obtain rfl := Option.some.inj H
        have p190 : 0 ≤ (a1 : Int) := of_decide_eq_true (by first | (with_reducible assumption) | assumption)
        have q190 : a1 < (l0.length : Int) := of_decide_eq_true (by first | (with_reducible assumption) | assumption)
        obtain ⟨ad190, e190, hx190_0, hx190_1, hx190_2, hx190_3, hx190_4⟩ := at_T43 HR0.out a1 p190 q190
        cases e190
        replace p190 := eq_true p190
        replace q190 := eq_true q190
        go_enter Try.func57, Try.ntmps57
        go_wp2
        go_ret
        exact ⟨by first | rfl | (simp; done) | (simp [*]; done), by repeat (first | exact Drawn0.refl _ | apply Drawn0.step)⟩
      · rw [if_neg c5] at H
        exact absurd H (by simp)
    · rw [if_neg c4] at H
      have c4b0 : decide (a1 < (l0.length : Int)) = false := decide_eq_false c4
      clear c4
      obtain rfl := Option.some.inj H
      go_enter Try.func57, Try.ntmps57
      go_wp2
      go_ret
      exact ⟨by first | rfl | (simp; done) | (simp [*]; done), by repeat (first | exact Drawn0.refl _ | apply Drawn0.step)⟩
  · rw [if_neg c3] at H
    have c3b0 : decide (0 ≤ a1) = false := decide_eq_false c3
    clear c3
    obtain rfl := Option.some.inj H
    go_enter Try.func57, Try.ntmps57
    go_wp2
    go_ret
    exact ⟨by first | rfl | (simp; done) | (simp [*]; done), by repeat (first | exact Drawn0.refl _ | apply Drawn0.step)⟩

end Go.Proofs.Ytbddfnmhhmkfkaa.Pr
/- Walks of the Go functions of this seat, and the Lean functions that they come to: written by a program (mkprint.py over the kit's print). -/
namespace Go.Proofs.Ytbddfnmhhmkfkaa.Pr
open Go.RowKit Go.Proofs.YtbddfnmhhmkfkaaW.PrintWords Go.Proofs.YtbddfnmhhmkfkaaW.PrintLast Go.Proofs.YtbddfnmhhmkfkaaW.PrintMore
attribute [local go_sem] max2_int min2_int max_two min_two max_three min_three max_four min_four   -- for this text's walks alone
set_option linter.unusedVariables false
set_option linter.unusedSimpArgs false

/-! ### stylusref19_Line: function 55 -/
def stylusref19_Line.l0 : Nat → List (S43) → Int → Int → Int → Int → Int → Option (Int × Int × Int)
  | 0, _, _, _, _, _, _ => none
  | k + 1, x0, x2, x9, x10, x11, x12 => if x12 < x2 then (if 0 ≤ x12 then (if x12 < (x0.length : Int) then (if ((rd_T43 x0 x12).f0) = 3 then (if ((rd_T43 x0 x12).f0) = 2 then (stylusref19_Line.l0 k x0 x2 x9 (wrap64 (x10 + ((rd_T43 x0 x12).f2))) (wrap64 (x11 + ((rd_T43 x0 x12).f3))) (wrap64 (x12 + 1))) else (stylusref19_Line.l0 k x0 x2 x9 x10 x11 (wrap64 (x12 + 1)))) else (if ((rd_T43 x0 x12).f0) = 2 then (stylusref19_Line.l0 k x0 x2 (wrap64 (x9 + ((rd_T43 x0 x12).f1))) (wrap64 (x10 + ((rd_T43 x0 x12).f2))) (wrap64 (x11 + ((rd_T43 x0 x12).f3))) (wrap64 (x12 + 1))) else (stylusref19_Line.l0 k x0 x2 (wrap64 (x9 + ((rd_T43 x0 x12).f1))) x10 x11 (wrap64 (x12 + 1))))) else (none)) else (none)) else ((stylusref19_Hyphen.f x0 x2).bind fun t191 => (if t191 = true then (if 0 ≤ x2 then (if x2 < (x0.length : Int) then (some (wrap64 (x9 + ((rd_T43 x0 x2).f1)), x10, x11)) else (none)) else (none)) else (some (x9, x10, x11))))
def stylusref19_Line.f (k : Nat) (l0 : List (S43)) (a1 : Int) (a2 : Int) : Option (Int × Int × Int) := stylusref19_Line.l0 k l0 a2 0 0 0 (wrap64 (a1 + 1))
theorem stylusref19_Line.mono_l : ∀ k, (∀ y0 y1 y2 y3 y4 y5, LeO (stylusref19_Line.l0 k y0 y1 y2 y3 y4 y5) (stylusref19_Line.l0 (k + 1) y0 y1 y2 y3 y4 y5))
  | 0 => fun _ _ _ _ _ _ r h => by simp [stylusref19_Line.l0] at h
  | k + 1 => by
    have ih0 := stylusref19_Line.mono_l k
    · intro y0 y1 y2 y3 y4 y5
      unfold stylusref19_Line.l0
      repeat' first
      | (with_reducible exact ih0 _ _ _ _ _ _)
      | (with_reducible exact LeO.refl _)
      | (with_reducible exact LeO.none _)
      | (with_reducible refine LeO.ite ?_ ?_)
      | (with_reducible refine LeO.bind ?_ (fun _ => ?_))
      | exact ih0 _ _ _ _ _ _
      | exact LeO.none _
      | refine LeO.ite ?_ ?_
      | refine LeO.bind ?_ (fun _ => ?_)
theorem stylusref19_Line.mono : ∀ a0 a1 a2 k, LeO (stylusref19_Line.f k a0 a1 a2) (stylusref19_Line.f (k + 1) a0 a1 a2) := by
  intro a0 a1 a2 k
  have ih0 := stylusref19_Line.mono_l k
  unfold stylusref19_Line.f
  repeat' first
      | (with_reducible exact ih0 _ _ _ _ _ _)
      | (with_reducible exact LeO.refl _)
      | (with_reducible exact LeO.none _)
      | (with_reducible refine LeO.ite ?_ ?_)
      | (with_reducible refine LeO.bind ?_ (fun _ => ?_))
      | exact ih0 _ _ _ _ _ _
      | exact LeO.none _
      | refine LeO.ite ?_ ?_
      | refine LeO.bind ?_ (fun _ => ?_)
set_option maxHeartbeats 8000000 in
set_option maxRecDepth 100000 in
theorem stylusref19_Line.calls (k : Nat) (A0 : Option Addr) (c0 : Nat) (l0 : List (S43)) (a1 : Int) (a2 : Int) (r1 : Int) (r2 : Int) (r3 : Int) (w : World) (hr0 : Kd.C k43 w A0 l0.length l0) (hc0 : l0.length ≤ c0) (h : stylusref19_Line.f k l0 a1 a2 = some (r1, r2, r3)) :
    Calls Try.prog 55 #[.slice A0 l0.length c0, .int .i64 a1, .int .i64 a2] w fun e w' => e = .returned (.tuple #[.int .i64 r1, .int .i64 r2, .int .i64 r3]) ∧ Drawn0 w w' := by
  have HR0 := Aside0.mk hr0
  have HC0 := Aside0.mk hc0
  clear hr0 hc0
  have H : (stylusref19_Line.l0 k l0 a2 0 0 0 (wrap64 (a1 + 1))) = some (r1, r2, r3) := h
  clear h
  have H' := Aside0.mk H
  clear H
  go_enter Try.func55, Try.ntmps55
  go_wp2
  go_loopg [9, 10, 11, 12] k (fun kq v9 v10 v11 v12 w' => ∃ (x9_1 : Int) (x10_1 : Int) (x11_1 : Int) (x12_1 : Int), v9 = .int .i64 x9_1 ∧ v10 = .int .i64 x10_1 ∧ v11 = .int .i64 x11_1 ∧ v12 = .int .i64 x12_1 ∧ Aside0 (stylusref19_Line.l0 kq l0 a2 x9_1 x10_1 x11_1 x12_1 = some (r1, r2, r3)) ∧ Aside0 (kq ≤ k) ∧ Drawn0 w w')
  case atStart => exact ⟨(0), (0), (0), (wrap64 (a1 + 1)), (by first | rfl | (simp; done) | (simp [*]; done)), (by first | rfl | (simp; done) | (simp [*]; done)), (by first | rfl | (simp; done) | (simp [*]; done)), (by first | rfl | (simp; done) | (simp [*]; done)), H', ⟨Nat.le_refl _⟩, by repeat (first | exact Drawn0.refl _ | apply Drawn0.step)⟩
  case round =>
    clear H'
    try clear p2
    obtain ⟨x9_1, x10_1, x11_1, x12_1, rfl, rfl, rfl, rfl, HA, HK1, ⟨m1, rfl⟩⟩ := hrel
    cases gk with
    | zero => exact absurd HA.out (by simp [stylusref19_Line.l0])
    | succ k1 =>
      have H := HA.out
      clear HA
      simp only [stylusref19_Line.l0] at H
      by_cases c4 : x12_1 < a2
      · rw [if_pos c4] at H
        have c4b0 : decide (x12_1 < a2) = true := decide_eq_true c4
        clear c4
        by_cases c5 : 0 ≤ x12_1
        · rw [if_pos c5] at H
          have c5b0 : decide (0 ≤ x12_1) = true := decide_eq_true c5
          clear c5
          by_cases c6 : x12_1 < (l0.length : Int)
          · rw [if_pos c6] at H
            have c6b0 : decide (x12_1 < (l0.length : Int)) = true := decide_eq_true c6
            clear c6
            by_cases c7 : ((rd_T43 l0 x12_1).f0) = 3
            · rw [if_pos c7] at H
              have c7b0 : (((rd_T43 l0 x12_1).f0) == 3) = true := beq_iff_eq.mpr c7
              have c7b1 : (((rd_T43 l0 x12_1).f0) != 3) = false := bne_eq_false_iff_eq.mpr c7
              clear c7
              by_cases c8 : ((rd_T43 l0 x12_1).f0) = 2
              · rw [if_pos c8] at H
                have c8b0 : (((rd_T43 l0 x12_1).f0) == 2) = true := beq_iff_eq.mpr c8
                have c8b1 : (((rd_T43 l0 x12_1).f0) != 2) = false := bne_eq_false_iff_eq.mpr c8
                clear c8
                have H' := Aside0.mk H
                clear H
                have p193 : 0 ≤ (x12_1 : Int) := of_decide_eq_true (by first | (with_reducible assumption) | assumption)
                have q193 : x12_1 < (l0.length : Int) := of_decide_eq_true (by first | (with_reducible assumption) | assumption)
                obtain ⟨ad193, e193, hx193_0, hx193_1, hx193_2, hx193_3, hx193_4⟩ := at_T43 HR0.out x12_1 p193 q193
                cases e193
                replace p193 := eq_true p193
                replace q193 := eq_true q193
                have p194 : 0 ≤ (x12_1 : Int) := of_decide_eq_true (by first | (with_reducible assumption) | assumption)
                have q194 : x12_1 < (l0.length : Int) := of_decide_eq_true (by first | (with_reducible assumption) | assumption)
                obtain ⟨ad194, e194, hx194_0, hx194_1, hx194_2, hx194_3, hx194_4⟩ := at_T43 HR0.out x12_1 p194 q194
                obtain rfl : ad193 = ad194 := (by injection e194)
                replace p194 := eq_true p194
                replace q194 := eq_true q194
                have p195 : 0 ≤ (x12_1 : Int) := of_decide_eq_true (by first | (with_reducible assumption) | assumption)
                have q195 : x12_1 < (l0.length : Int) := of_decide_eq_true (by first | (with_reducible assumption) | assumption)
                obtain ⟨ad195, e195, hx195_0, hx195_1, hx195_2, hx195_3, hx195_4⟩ := at_T43 HR0.out x12_1 p195 q195
                obtain rfl : ad193 = ad195 := (by injection e195)
                replace p195 := eq_true p195
                replace q195 := eq_true q195
                have p196 : 0 ≤ (x12_1 : Int) := of_decide_eq_true (by first | (with_reducible assumption) | assumption)
                have q196 : x12_1 < (l0.length : Int) := of_decide_eq_true (by first | (with_reducible assumption) | assumption)
                obtain ⟨ad196, e196, hx196_0, hx196_1, hx196_2, hx196_3, hx196_4⟩ := at_T43 HR0.out x12_1 p196 q196
                obtain rfl : ad193 = ad196 := (by injection e196)
                replace p196 := eq_true p196
                replace q196 := eq_true q196
                go_wp2
                go_roundg k1
                case measure => have := HK1.out; omega
                case rel => exact ⟨(x9_1), (wrap64 (x10_1 + ((rd_T43 l0 x12_1).f2))), (wrap64 (x11_1 + ((rd_T43 l0 x12_1).f3))), (wrap64 (x12_1 + 1)), (by first | rfl | (simp; done) | (simp [*]; done)), (by first | rfl | (simp; done) | (simp [*]; done)), (by first | rfl | (simp; done) | (simp [*]; done)), (by first | rfl | (simp; done) | (simp [*]; done)), H', ⟨by have := HK1.out; omega⟩, by repeat (first | exact Drawn0.refl _ | apply Drawn0.step)⟩
              · rw [if_neg c8] at H
                have c8b0 : (((rd_T43 l0 x12_1).f0) == 2) = false := beq_eq_false_iff_ne.mpr c8
                have c8b1 : (((rd_T43 l0 x12_1).f0) != 2) = true := bne_iff_ne.mpr c8
                have H' := Aside0.mk H
                clear H
                have p193 : 0 ≤ (x12_1 : Int) := of_decide_eq_true (by first | (with_reducible assumption) | assumption)
                have q193 : x12_1 < (l0.length : Int) := of_decide_eq_true (by first | (with_reducible assumption) | assumption)
                obtain ⟨ad193, e193, hx193_0, hx193_1, hx193_2, hx193_3, hx193_4⟩ := at_T43 HR0.out x12_1 p193 q193
                cases e193
                replace p193 := eq_true p193
                replace q193 := eq_true q193
                have p194 : 0 ≤ (x12_1 : Int) := of_decide_eq_true (by first | (with_reducible assumption) | assumption)
                have q194 : x12_1 < (l0.length : Int) := of_decide_eq_true (by first | (with_reducible assumption) | assumption)
                obtain ⟨ad194, e194, hx194_0, hx194_1, hx194_2, hx194_3, hx194_4⟩ := at_T43 HR0.out x12_1 p194 q194
                obtain rfl : ad193 = ad194 := (by injection e194)
                replace p194 := eq_true p194
                replace q194 := eq_true q194
                go_wp2
                go_roundg k1
                case measure => have := HK1.out; omega
                case rel => exact ⟨(x9_1), (x10_1), (x11_1), (wrap64 (x12_1 + 1)), (by first | rfl | (simp; done) | (simp [*]; done)), (by first | rfl | (simp; done) | (simp [*]; done)), (by first | rfl | (simp; done) | (simp [*]; done)), (by first | rfl | (simp; done) | (simp [*]; done)), H', ⟨by have := HK1.out; omega⟩, by repeat (first | exact Drawn0.refl _ | apply Drawn0.step)⟩
            · rw [if_neg c7] at H
              have c7b0 : (((rd_T43 l0 x12_1).f0) == 3) = false := beq_eq_false_iff_ne.mpr c7
              have c7b1 : (((rd_T43 l0 x12_1).f0) != 3) = true := bne_iff_ne.mpr c7
              by_cases c9 : ((rd_T43 l0 x12_1).f0) = 2
              · rw [if_pos c9] at H
                have c9b0 : (((rd_T43 l0 x12_1).f0) == 2) = true := beq_iff_eq.mpr c9
                have c9b1 : (((rd_T43 l0 x12_1).f0) != 2) = false := bne_eq_false_iff_eq.mpr c9
                clear c9
                have H' := Aside0.mk H
                clear H
                have p193 : 0 ≤ (x12_1 : Int) := of_decide_eq_true (by first | (with_reducible assumption) | assumption)
                have q193 : x12_1 < (l0.length : Int) := of_decide_eq_true (by first | (with_reducible assumption) | assumption)
                obtain ⟨ad193, e193, hx193_0, hx193_1, hx193_2, hx193_3, hx193_4⟩ := at_T43 HR0.out x12_1 p193 q193
                cases e193
                replace p193 := eq_true p193
                replace q193 := eq_true q193
                have p197 : 0 ≤ (x12_1 : Int) := of_decide_eq_true (by first | (with_reducible assumption) | assumption)
                have q197 : x12_1 < (l0.length : Int) := of_decide_eq_true (by first | (with_reducible assumption) | assumption)
                obtain ⟨ad197, e197, hx197_0, hx197_1, hx197_2, hx197_3, hx197_4⟩ := at_T43 HR0.out x12_1 p197 q197
                obtain rfl : ad193 = ad197 := (by injection e197)
                replace p197 := eq_true p197
                replace q197 := eq_true q197
                have p198 : 0 ≤ (x12_1 : Int) := of_decide_eq_true (by first | (with_reducible assumption) | assumption)
                have q198 : x12_1 < (l0.length : Int) := of_decide_eq_true (by first | (with_reducible assumption) | assumption)
                obtain ⟨ad198, e198, hx198_0, hx198_1, hx198_2, hx198_3, hx198_4⟩ := at_T43 HR0.out x12_1 p198 q198
                obtain rfl : ad193 = ad198 := (by injection e198)
                replace p198 := eq_true p198
                replace q198 := eq_true q198
                have p199 : 0 ≤ (x12_1 : Int) := of_decide_eq_true (by first | (with_reducible assumption) | assumption)
                have q199 : x12_1 < (l0.length : Int) := of_decide_eq_true (by first | (with_reducible assumption) | assumption)
                obtain ⟨ad199, e199, hx199_0, hx199_1, hx199_2, hx199_3, hx199_4⟩ := at_T43 HR0.out x12_1 p199 q199
                obtain rfl : ad193 = ad199 := (by injection e199)
                replace p199 := eq_true p199
                replace q199 := eq_true q199
                have p200 : 0 ≤ (x12_1 : Int) := of_decide_eq_true (by first | (with_reducible assumption) | assumption)
                have q200 : x12_1 < (l0.length : Int) := of_decide_eq_true (by first | (with_reducible assumption) | assumption)
                obtain ⟨ad200, e200, hx200_0, hx200_1, hx200_2, hx200_3, hx200_4⟩ := at_T43 HR0.out x12_1 p200 q200
                obtain rfl : ad193 = ad200 := (by injection e200)
                replace p200 := eq_true p200
                replace q200 := eq_true q200
                go_wp2
                go_roundg k1
                case measure => have := HK1.out; omega
                case rel => exact ⟨(wrap64 (x9_1 + ((rd_T43 l0 x12_1).f1))), (wrap64 (x10_1 + ((rd_T43 l0 x12_1).f2))), (wrap64 (x11_1 + ((rd_T43 l0 x12_1).f3))), (wrap64 (x12_1 + 1)), (by first | rfl | (simp; done) | (simp [*]; done)), (by first | rfl | (simp; done) | (simp [*]; done)), (by first | rfl | (simp; done) | (simp [*]; done)), (by first | rfl | (simp; done) | (simp [*]; done)), H', ⟨by have := HK1.out; omega⟩, by repeat (first | exact Drawn0.refl _ | apply Drawn0.step)⟩
              · rw [if_neg c9] at H
                have c9b0 : (((rd_T43 l0 x12_1).f0) == 2) = false := beq_eq_false_iff_ne.mpr c9
                have c9b1 : (((rd_T43 l0 x12_1).f0) != 2) = true := bne_iff_ne.mpr c9
                have H' := Aside0.mk H
                clear H
                have p193 : 0 ≤ (x12_1 : Int) := of_decide_eq_true (by first | (with_reducible assumption) | assumption)
                have q193 : x12_1 < (l0.length : Int) := of_decide_eq_true (by first | (with_reducible assumption) | assumption)
                obtain ⟨ad193, e193, hx193_0, hx193_1, hx193_2, hx193_3, hx193_4⟩ := at_T43 HR0.out x12_1 p193 q193
                cases e193
                replace p193 := eq_true p193
                replace q193 := eq_true q193
                have p197 : 0 ≤ (x12_1 : Int) := of_decide_eq_true (by first | (with_reducible assumption) | assumption)
                have q197 : x12_1 < (l0.length : Int) := of_decide_eq_true (by first | (with_reducible assumption) | assumption)
                obtain ⟨ad197, e197, hx197_0, hx197_1, hx197_2, hx197_3, hx197_4⟩ := at_T43 HR0.out x12_1 p197 q197
                obtain rfl : ad193 = ad197 := (by injection e197)
                replace p197 := eq_true p197
                replace q197 := eq_true q197
                have p198 : 0 ≤ (x12_1 : Int) := of_decide_eq_true (by first | (with_reducible assumption) | assumption)
                have q198 : x12_1 < (l0.length : Int) := of_decide_eq_true (by first | (with_reducible assumption) | assumption)
                obtain ⟨ad198, e198, hx198_0, hx198_1, hx198_2, hx198_3, hx198_4⟩ := at_T43 HR0.out x12_1 p198 q198
                obtain rfl : ad193 = ad198 := (by injection e198)
                replace p198 := eq_true p198
                replace q198 := eq_true q198
                go_wp2
                go_roundg k1
                case measure => have := HK1.out; omega
                case rel => exact ⟨(wrap64 (x9_1 + ((rd_T43 l0 x12_1).f1))), (x10_1), (x11_1), (wrap64 (x12_1 + 1)), (by first | rfl | (simp; done) | (simp [*]; done)), (by first | rfl | (simp; done) | (simp [*]; done)), (by first | rfl | (simp; done) | (simp [*]; done)), (by first | rfl | (simp; done) | (simp [*]; done)), H', ⟨by have := HK1.out; omega⟩, by repeat (first | exact Drawn0.refl _ | apply Drawn0.step)⟩
          · rw [if_neg c6] at H
            exact absurd H (by simp)
        · rw [if_neg c5] at H
          exact absurd H (by simp)
      · rw [if_neg c4] at H
        have c4b0 : decide (x12_1 < a2) = false := decide_eq_false c4
        clear c4
        replace H := Option.bind_eq_some_iff.mp H
        obtain ⟨t191, A100, H⟩ := H
        replace H : (if t191 = true then (if 0 ≤ a2 then (if a2 < (l0.length : Int) then (some (wrap64 (x9_1 + ((rd_T43 l0 a2).f1)), x10_1, x11_1)) else (none)) else (none)) else (some (x9_1, x10_1, x11_1))) = some (r1, r2, r3) := H
        have A10 := Aside0.mk A100
        clear A100
        by_cases c11 : t191 = true
        · subst c11
          have H1 : (if 0 ≤ a2 then (if a2 < (l0.length : Int) then (some (wrap64 (x9_1 + ((rd_T43 l0 a2).f1)), x10_1, x11_1)) else (none)) else (none)) = some (r1, r2, r3) := by rw [if_pos rfl] at H; exact H
          clear H
          have H := H1
          clear H1
          by_cases c12 : 0 ≤ a2
          · rw [if_pos c12] at H
            have c12b0 : decide (0 ≤ a2) = true := decide_eq_true c12
            clear c12
            by_cases c13 : a2 < (l0.length : Int)
            · rw [if_pos c13] at H
              have c13b0 : decide (a2 < (l0.length : Int)) = true := decide_eq_true c13
              clear c13
              simp only [Option.some.injEq, Prod.mk.injEq] at H
              obtain ⟨rfl, rfl, rfl⟩ := H
              go_wp2_with (first | ((with_reducible refine gate_callee (f := 57) rfl ?_); refine goesL_ (some 55) rfl rfl Try.func57 (by kernel_rfl) rfl #[.slice A0 l0.length c0, .int .i64 a2] rfl (by (try simp only [List.map_toArray, List.map_cons, List.map_nil]); first | done | rfl | (simp only [List.length_drop, List.length_take]; rfl)) ?_; (with_reducible refine (stylusref19_Hyphen.calls _ _ l0 a2 true _ ?side1 ?side2 A10.out).mono ?_); (case side1 => repeat (first | exact HR0.out | (with_reducible refine Kd.C_alloc ?_ _) | (with_reducible refine Kd.C_drewN ?_ _) | (with_reducible refine Kd.C_drew ?_))); (case side2 => exact HC0.out); rintro e w' ⟨rfl, ⟨nd, rfl⟩⟩; refine ⟨_, rfl, ?_⟩; have p192 : 0 ≤ (a2 : Int) := of_decide_eq_true (by first | (with_reducible assumption) | assumption); have q192 : a2 < (l0.length : Int) := of_decide_eq_true (by first | (with_reducible assumption) | assumption); obtain ⟨ad192, e192, hx192_0, hx192_1, hx192_2, hx192_3, hx192_4⟩ := at_T43 HR0.out a2 p192 q192; cases e192; replace p192 := eq_true p192; replace q192 := eq_true q192))
              go_ret3
              exact ⟨by first | rfl | (simp; done) | (simp [*]; done), by repeat (first | exact Drawn0.refl _ | apply Drawn0.step)⟩
            · rw [if_neg c13] at H
              exact absurd H (by simp)
          · rw [if_neg c12] at H
            exact absurd H (by simp)
        · replace c11 := Bool.eq_false_iff.mpr c11
          subst c11
          have H1 : (some (x9_1, x10_1, x11_1)) = some (r1, r2, r3) := by rw [if_neg (show ¬ (false = true) by decide)] at H; exact H
          clear H
          have H := H1
          clear H1
          simp only [Option.some.injEq, Prod.mk.injEq] at H
          obtain ⟨rfl, rfl, rfl⟩ := H
          go_wp2_with (first | ((with_reducible refine gate_callee (f := 57) rfl ?_); refine goesL_ (some 55) rfl rfl Try.func57 (by kernel_rfl) rfl #[.slice A0 l0.length c0, .int .i64 a2] rfl (by (try simp only [List.map_toArray, List.map_cons, List.map_nil]); first | done | rfl | (simp only [List.length_drop, List.length_take]; rfl)) ?_; (with_reducible refine (stylusref19_Hyphen.calls _ _ l0 a2 false _ ?side1 ?side2 A10.out).mono ?_); (case side1 => repeat (first | exact HR0.out | (with_reducible refine Kd.C_alloc ?_ _) | (with_reducible refine Kd.C_drewN ?_ _) | (with_reducible refine Kd.C_drew ?_))); (case side2 => exact HC0.out); rintro e w' ⟨rfl, ⟨nd, rfl⟩⟩; refine ⟨_, rfl, ?_⟩))
          go_ret3
          exact ⟨by first | rfl | (simp; done) | (simp [*]; done), by repeat (first | exact Drawn0.refl _ | apply Drawn0.step)⟩

end Go.Proofs.Ytbddfnmhhmkfkaa.Pr
/- Walks of the Go functions of this seat, and the Lean functions that they come to: written by a program (mkprint.py over the kit's print). -/
namespace Go.Proofs.Ytbddfnmhhmkfkaa.Pr
open Go.RowKit Go.Proofs.YtbddfnmhhmkfkaaW.PrintWords Go.Proofs.YtbddfnmhhmkfkaaW.PrintLast Go.Proofs.YtbddfnmhhmkfkaaW.PrintMore
attribute [local go_sem] max2_int min2_int max_two min_two max_three min_three max_four min_four   -- for this text's walks alone
set_option linter.unusedVariables false
set_option linter.unusedSimpArgs false

/-! ### stylusref19_quotient: function 78 -/
def stylusref19_quotient.f (a0 : Int) (a1 : Int) : Option (Int) := if a1 = 0 then (some 1024) else (some (mn (wrap64 (Int.tdiv (wrap64 (a0 * 128)) a1)) 1024))
set_option maxHeartbeats 8000000 in
set_option maxRecDepth 100000 in
theorem stylusref19_quotient.calls (a0 : Int) (a1 : Int) (r : Int) (w : World) (h : stylusref19_quotient.f a0 a1 = some r) :
    Calls Try.prog 78 #[.int .i64 a0, .int .i64 a1] w fun e w' => e = .returned (.int .i64 r) ∧ Below w.heap.size w w' := by
  have HB := Aside0.mk (Below.refl w.heap.size w)
  have H : (if a1 = 0 then (some 1024) else (some (mn (wrap64 (Int.tdiv (wrap64 (a0 * 128)) a1)) 1024))) = some r := h
  clear h
  by_cases c3 : a1 = 0
  · rw [if_pos c3] at H
    have c3b0 : (a1 == 0) = true := beq_iff_eq.mpr c3
    have c3b1 : (a1 != 0) = false := bne_eq_false_iff_eq.mpr c3
    clear c3
    obtain rfl := Option.some.inj H
    go_enter Try.func78, Try.ntmps78
    go_wp2
    go_ret
    exact ⟨by first | rfl | (simp [errW_none, errW_some] <;> rfl) | (simp [*, errW_none, errW_some] <;> rfl), by repeat (first | (with_reducible first | exact HB.out | apply below_alloc | apply pw_below_drewN | apply below_drew1) | exact HB.out)⟩
  · rw [if_neg c3] at H
    have c3b0 : (a1 == 0) = false := beq_eq_false_iff_ne.mpr c3
    have c3b1 : (a1 != 0) = true := bne_iff_ne.mpr c3
    obtain ⟨ji4, hji4⟩ : ∃ j_ : Int, (mn (wrap64 (Int.tdiv (wrap64 (a0 * 128)) a1)) 1024) = j_ := ⟨_, rfl⟩
    replace H : (some ji4) = some r := by first | (rw [hji4] at H; exact H) | (simp only [hji4] at H ⊢; exact H)
    (try (have hji4h : ji4 ≤ 1024 := by (rw [← hji4]; unfold mn; (repeat' split) <;> omega)))
    (try (have hji4g : ji4 ≤ 64 := by omega))
    have hji4_ : (if 1024 < (wrap64 (Int.tdiv (wrap64 (a0 * 128)) a1)) then 1024 else (wrap64 (Int.tdiv (wrap64 (a0 * 128)) a1))) = ji4 := hji4
    obtain rfl := Option.some.inj H
    go_enter Try.func78, Try.ntmps78
    go_wp2
    go_ret
    exact ⟨by first | rfl | (simp [errW_none, errW_some] <;> rfl) | (simp only [← hji4]; first | rfl | (simp [errW_none, errW_some] <;> rfl)) | (simp [*, errW_none, errW_some] <;> rfl), by repeat (first | (with_reducible first | exact HB.out | apply below_alloc | apply pw_below_drewN | apply below_drew1) | exact HB.out)⟩

end Go.Proofs.Ytbddfnmhhmkfkaa.Pr
/- Walks of the Go functions of this seat, and the Lean functions that they come to: written by a program (mkprint.py over the kit's print). -/
namespace Go.Proofs.Ytbddfnmhhmkfkaa.Pr
open Go.RowKit Go.Proofs.YtbddfnmhhmkfkaaW.PrintWords Go.Proofs.YtbddfnmhhmkfkaaW.PrintLast Go.Proofs.YtbddfnmhhmkfkaaW.PrintMore
attribute [local go_sem] max2_int min2_int max_two min_two max_three min_three max_four min_four   -- for this text's walks alone
set_option linter.unusedVariables false
set_option linter.unusedSimpArgs false

/-! ### stylusref19_Rate: function 56 -/
def stylusref19_Rate.j0 : Nat → Int → Int → Int → Int → Bool → Option (Int)
  | 0, _, _, _, _, _ => none
  | k + 1, x1, x9, x10, x11, x33 => if x33 = true then (some 0) else (if x9 < x1 then ((stylusref19_quotient.f (wrap64 (x1 - x9)) x10).bind fun t204 => (some t204)) else ((stylusref19_quotient.f (wrap64 (x9 - x1)) x11).bind fun t205 => (some t205)))
def stylusref19_Rate.f (k : Nat) (l0 : List (S43)) (a1 : Int) (a2 : Int) (a3 : Int) : Option (Int) := (stylusref19_Line.f k l0 a2 a3).bind fun bt201 => (if bt201.1 = a1 then (stylusref19_Rate.j0 k a1 bt201.1 bt201.2.1 bt201.2.2 true) else (if bt201.1 < a1 then (stylusref19_Rate.j0 k a1 bt201.1 bt201.2.1 bt201.2.2 (a3 == (l0.length : Int))) else (stylusref19_Rate.j0 k a1 bt201.1 bt201.2.1 bt201.2.2 false)))
theorem stylusref19_Rate.mono_l : ∀ k, (∀ y0 y1 y2 y3 y4, LeO (stylusref19_Rate.j0 k y0 y1 y2 y3 y4) (stylusref19_Rate.j0 (k + 1) y0 y1 y2 y3 y4))
  | 0 => fun _ _ _ _ _ r h => by simp [stylusref19_Rate.j0] at h
  | k + 1 => by
    have ih0 := stylusref19_Rate.mono_l k
    · intro y0 y1 y2 y3 y4
      unfold stylusref19_Rate.j0
      repeat' first
      | (with_reducible exact ih0 _ _ _ _ _)
      | (with_reducible exact stylusref19_Line.mono _ _ _ _)
      | (with_reducible exact LeO.refl _)
      | (with_reducible exact LeO.none _)
      | (with_reducible refine LeO.ite ?_ ?_)
      | (with_reducible refine LeO.bind ?_ (fun _ => ?_))
      | exact ih0 _ _ _ _ _
      | exact stylusref19_Line.mono _ _ _ _
      | exact LeO.none _
      | refine LeO.ite ?_ ?_
      | refine LeO.bind ?_ (fun _ => ?_)
theorem stylusref19_Rate.mono : ∀ a0 a1 a2 a3 k, LeO (stylusref19_Rate.f k a0 a1 a2 a3) (stylusref19_Rate.f (k + 1) a0 a1 a2 a3) := by
  intro a0 a1 a2 a3 k
  have ih0 := stylusref19_Rate.mono_l k
  unfold stylusref19_Rate.f
  repeat' first
      | (with_reducible exact ih0 _ _ _ _ _)
      | (with_reducible exact stylusref19_Line.mono _ _ _ _)
      | (with_reducible exact LeO.refl _)
      | (with_reducible exact LeO.none _)
      | (with_reducible refine LeO.ite ?_ ?_)
      | (with_reducible refine LeO.bind ?_ (fun _ => ?_))
      | exact ih0 _ _ _ _ _
      | exact stylusref19_Line.mono _ _ _ _
      | exact LeO.none _
      | refine LeO.ite ?_ ?_
      | refine LeO.bind ?_ (fun _ => ?_)
set_option maxHeartbeats 8000000 in
set_option maxRecDepth 100000 in
theorem stylusref19_Rate.calls (k : Nat) (A0 : Option Addr) (c0 : Nat) (l0 : List (S43)) (a1 : Int) (a2 : Int) (a3 : Int) (r : Int) (w : World) (hr0 : Kd.C k43 w A0 l0.length l0) (hc0 : l0.length ≤ c0) (h : stylusref19_Rate.f k l0 a1 a2 a3 = some r) :
    Calls Try.prog 56 #[.slice A0 l0.length c0, .int .i64 a1, .int .i64 a2, .int .i64 a3] w fun e w' => e = .returned (.int .i64 r) ∧ Below w.heap.size w w' := by
  have HR0 := Aside0.mk hr0
  have HC0 := Aside0.mk hc0
  clear hr0 hc0
  have HB := Aside0.mk (Below.refl w.heap.size w)
  have H : ((stylusref19_Line.f k l0 a2 a3).bind fun bt201 => (if bt201.1 = a1 then (stylusref19_Rate.j0 k a1 bt201.1 bt201.2.1 bt201.2.2 true) else (if bt201.1 < a1 then (stylusref19_Rate.j0 k a1 bt201.1 bt201.2.1 bt201.2.2 (a3 == (l0.length : Int))) else (stylusref19_Rate.j0 k a1 bt201.1 bt201.2.1 bt201.2.2 false)))) = some r := h
  clear h
  replace H := Option.bind_eq_some_iff.mp H
  obtain ⟨⟨t201, t202, t203⟩, A50, H⟩ := H
  replace H : (if t201 = a1 then (stylusref19_Rate.j0 k a1 t201 t202 t203 true) else (if t201 < a1 then (stylusref19_Rate.j0 k a1 t201 t202 t203 (a3 == (l0.length : Int))) else (stylusref19_Rate.j0 k a1 t201 t202 t203 false))) = some r := H
  have A5 := Aside0.mk A50
  clear A50
  have HC6 := Aside0.mk H
  clear H
  go_enter Try.func56, Try.ntmps56
  go_upto_region 2 with (first | ((with_reducible refine gate_callee (f := 55) rfl ?_); refine goesL_ (some 16) rfl rfl Try.func55 (by kernel_rfl) rfl #[.slice A0 l0.length c0, .int .i64 a2, .int .i64 a3] rfl (by (try simp only [List.map_toArray, List.map_cons, List.map_nil]); first | done | rfl | (simp only [List.length_drop, List.length_take]; rfl)) ?_; (with_reducible refine (stylusref19_Line.calls k _ _ l0 a2 a3 t201 t202 t203 _ ?side1 ?side2 A5.out).mono ?_); (case side1 => repeat (first | exact HR0.out | (with_reducible refine Kd.C_alloc ?_ _) | (with_reducible refine Kd.C_drewN ?_ _) | (with_reducible refine Kd.C_drew ?_))); (case side2 => exact HC0.out); rintro e w' ⟨rfl, ⟨nd, rfl⟩⟩; refine ⟨_, rfl, ?_⟩))
  (try simp only [Act.put, List.setIfInBounds_toArray, List.set_cons_zero, List.set_cons_succ])
  go_cut [33] (fun v33 wc => ∃ (kq : Nat) (x33_5 : Bool), v33 = .bool x33_5 ∧ Aside0 (stylusref19_Rate.j0 kq a1 t201 t202 t203 x33_5 = some r) ∧ Aside0 (kq ≤ k) ∧ Aside0 (Below w.heap.size w wc))
  case first =>
    have H := HC6.out
    clear HC6
    by_cases c7 : t201 = a1
    · rw [if_pos c7] at H
      have c7b0 : (t201 == a1) = true := beq_iff_eq.mpr c7
      have c7b1 : (t201 != a1) = false := bne_eq_false_iff_eq.mpr c7
      clear c7
      (first | rw [c7b0] | (simp only [i64_w, i32_w]; rw [c7b0]) | skip)
      have H' := Aside0.mk H
      clear H
      go_wp2
      go_meet
      case rel => exact ⟨_, (true), (by first | rfl | (simp; done) | (simp [*]; done)), H', ⟨by first | omega | exact Nat.le_refl _⟩, ⟨by repeat (first | (with_reducible first | exact HB.out | apply below_alloc | apply pw_below_drewN | apply below_drew1) | exact HB.out)⟩⟩
    · rw [if_neg c7] at H
      have c7b0 : (t201 == a1) = false := beq_eq_false_iff_ne.mpr c7
      have c7b1 : (t201 != a1) = true := bne_iff_ne.mpr c7
      (first | rw [c7b0] | (simp only [i64_w, i32_w]; rw [c7b0]) | skip)
      by_cases c8 : t201 < a1
      · rw [if_pos c8] at H
        have c8b0 : decide (t201 < a1) = true := decide_eq_true c8
        clear c8
        have H' := Aside0.mk H
        clear H
        go_wp2
        go_meet
        case rel => exact ⟨_, ((a3 == (l0.length : Int))), (by first | rfl | (simp; done) | (simp [*]; done)), H', ⟨by first | omega | exact Nat.le_refl _⟩, ⟨by repeat (first | (with_reducible first | exact HB.out | apply below_alloc | apply pw_below_drewN | apply below_drew1) | exact HB.out)⟩⟩
      · rw [if_neg c8] at H
        have c8b0 : decide (t201 < a1) = false := decide_eq_false c8
        clear c8
        have H' := Aside0.mk H
        clear H
        go_wp2
        go_meet
        case rel => exact ⟨_, (false), (by first | rfl | (simp; done) | (simp [*]; done)), H', ⟨by first | omega | exact Nat.le_refl _⟩, ⟨by repeat (first | (with_reducible first | exact HB.out | apply below_alloc | apply pw_below_drewN | apply below_drew1) | exact HB.out)⟩⟩
  case rest =>
    clear HC6
    try clear p2
    try clear c5
    try clear c7
    try clear c7b0
    try clear c7b1
    try clear c8
    try clear c8b0
    obtain ⟨kq, x33_5, rfl, HA, HJ5, HB⟩ := hcut
    cases kq with
    | zero => exact absurd HA.out (by simp [stylusref19_Rate.j0])
    | succ kj5 =>
      have H := HA.out
      clear HA
      simp only [stylusref19_Rate.j0] at H
      by_cases c9 : x33_5 = true
      · subst c9
        have H1 : (some 0) = some r := by rw [if_pos rfl] at H; exact H
        clear H
        have H := H1
        clear H1
        obtain rfl := Option.some.inj H
        go_wp2
        go_ret
        exact ⟨by first | rfl | (simp [errW_none, errW_some] <;> rfl) | (simp [*, errW_none, errW_some] <;> rfl), by repeat (first | (with_reducible first | exact HB.out | apply below_alloc | apply pw_below_drewN | apply below_drew1) | exact HB.out)⟩
      · replace c9 := Bool.eq_false_iff.mpr c9
        subst c9
        have H1 : (if t201 < a1 then ((stylusref19_quotient.f (wrap64 (a1 - t201)) t202).bind fun t204 => (some t204)) else ((stylusref19_quotient.f (wrap64 (t201 - a1)) t203).bind fun t205 => (some t205))) = some r := by rw [if_neg (show ¬ (false = true) by decide)] at H; exact H
        clear H
        have H := H1
        clear H1
        by_cases c10 : t201 < a1
        · rw [if_pos c10] at H
          have c10b0 : decide (t201 < a1) = true := decide_eq_true c10
          clear c10
          replace H := Option.bind_eq_some_iff.mp H
          obtain ⟨t204, A110, H⟩ := H
          replace H : (some t204) = some r := H
          have A11 := Aside0.mk A110
          clear A110
          obtain rfl := Option.some.inj H
          go_wp2_with (first | ((with_reducible refine gate_callee (f := 78) rfl ?_); refine goesL_ (some 41) rfl rfl Try.func78 (by kernel_rfl) rfl #[.int .i64 (wrap64 (a1 - t201)), .int .i64 t202] rfl (by (try simp only [List.map_toArray, List.map_cons, List.map_nil]); first | done | rfl | (simp only [List.length_drop, List.length_take]; rfl)) ?_; (with_reducible refine (stylusref19_quotient.calls (wrap64 (a1 - t201)) t202 t204 _ A11.out).mono ?_); rintro e w12 ⟨rfl, hb⟩; refine ⟨_, rfl, ?_⟩; have n0_ := Aside0.mk (below_step (by repeat (first | (with_reducible first | exact HB.out | apply below_alloc | apply pw_below_drewN | apply below_drew1) | exact HB.out)) hb); clear HB; have HB := n0_; clear n0_; (try clear hb); (try clear hb2); (try clear hk); (try clear hi)))
          go_ret
          exact ⟨by first | rfl | (simp [errW_none, errW_some] <;> rfl) | (simp [*, errW_none, errW_some] <;> rfl), by repeat (first | (with_reducible first | exact HB.out | apply below_alloc | apply pw_below_drewN | apply below_drew1) | exact HB.out)⟩
        · rw [if_neg c10] at H
          have c10b0 : decide (t201 < a1) = false := decide_eq_false c10
          clear c10
          replace H := Option.bind_eq_some_iff.mp H
          obtain ⟨t205, A130, H⟩ := H
          replace H : (some t205) = some r := H
          have A13 := Aside0.mk A130
          clear A130
          obtain rfl := Option.some.inj H
          go_wp2_with (first | ((with_reducible refine gate_callee (f := 78) rfl ?_); refine goesL_ (some 46) rfl rfl Try.func78 (by kernel_rfl) rfl #[.int .i64 (wrap64 (t201 - a1)), .int .i64 t203] rfl (by (try simp only [List.map_toArray, List.map_cons, List.map_nil]); first | done | rfl | (simp only [List.length_drop, List.length_take]; rfl)) ?_; (with_reducible refine (stylusref19_quotient.calls (wrap64 (t201 - a1)) t203 t205 _ A13.out).mono ?_); rintro e w14 ⟨rfl, hb⟩; refine ⟨_, rfl, ?_⟩; have n0_ := Aside0.mk (below_step (by repeat (first | (with_reducible first | exact HB.out | apply below_alloc | apply pw_below_drewN | apply below_drew1) | exact HB.out)) hb); clear HB; have HB := n0_; clear n0_; (try clear hb); (try clear hb2); (try clear hk); (try clear hi)))
          go_ret
          exact ⟨by first | rfl | (simp [errW_none, errW_some] <;> rfl) | (simp [*, errW_none, errW_some] <;> rfl), by repeat (first | (with_reducible first | exact HB.out | apply below_alloc | apply pw_below_drewN | apply below_drew1) | exact HB.out)⟩

end Go.Proofs.Ytbddfnmhhmkfkaa.Pr
/- Walks of the Go functions of this seat, and the Lean functions that they come to: written by a program (mkprint.py over the kit's print). -/
namespace Go.Proofs.Ytbddfnmhhmkfkaa.Pr
open Go.RowKit Go.Proofs.YtbddfnmhhmkfkaaW.PrintWords Go.Proofs.YtbddfnmhhmkfkaaW.PrintLast Go.Proofs.YtbddfnmhhmkfkaaW.PrintMore
attribute [local go_sem] max2_int min2_int max_two min_two max_three min_three max_four min_four   -- for this text's walks alone
set_option linter.unusedVariables false
set_option linter.unusedSimpArgs false

/-! ### stylusref19_Cost: function 58 -/
def stylusref19_Cost.f (k : Nat) (l0 : List (S43)) (a1 : Int) (a2 : Int) (a3 : Int) : Option (Int) := (stylusref19_Rate.f k l0 a1 a2 a3).bind fun t206 => ((stylusref19_Hyphen.f l0 a3).bind fun t207 => (if t207 = true then ((stylusref19_Line.f k l0 a2 a3).bind fun bt208 => (if (wrap64 (bt208.1 - bt208.2.2)) > a1 then (some (wrap64 ((wrap64 ((wrap64 ((wrap64 (10 + (mn (wrap64 (Int.tdiv (wrap64 ((wrap64 ((wrap64 (100 * t206)) * t206)) * t206)) 2097152)) 10000))) * (wrap64 (10 + (mn (wrap64 (Int.tdiv (wrap64 ((wrap64 ((wrap64 (100 * t206)) * t206)) * t206)) 2097152)) 10000))))) + 2500)) + 1000000000000))) else (some (wrap64 ((wrap64 ((wrap64 (10 + (mn (wrap64 (Int.tdiv (wrap64 ((wrap64 ((wrap64 (100 * t206)) * t206)) * t206)) 2097152)) 10000))) * (wrap64 (10 + (mn (wrap64 (Int.tdiv (wrap64 ((wrap64 ((wrap64 (100 * t206)) * t206)) * t206)) 2097152)) 10000))))) + 2500))))) else ((stylusref19_Line.f k l0 a2 a3).bind fun bt211 => (if (wrap64 (bt211.1 - bt211.2.2)) > a1 then (some (wrap64 ((wrap64 ((wrap64 (10 + (mn (wrap64 (Int.tdiv (wrap64 ((wrap64 ((wrap64 (100 * t206)) * t206)) * t206)) 2097152)) 10000))) * (wrap64 (10 + (mn (wrap64 (Int.tdiv (wrap64 ((wrap64 ((wrap64 (100 * t206)) * t206)) * t206)) 2097152)) 10000))))) + 1000000000000))) else (some (wrap64 ((wrap64 (10 + (mn (wrap64 (Int.tdiv (wrap64 ((wrap64 ((wrap64 (100 * t206)) * t206)) * t206)) 2097152)) 10000))) * (wrap64 (10 + (mn (wrap64 (Int.tdiv (wrap64 ((wrap64 ((wrap64 (100 * t206)) * t206)) * t206)) 2097152)) 10000))))))))))
theorem stylusref19_Cost.mono : ∀ a0 a1 a2 a3 k, LeO (stylusref19_Cost.f k a0 a1 a2 a3) (stylusref19_Cost.f (k + 1) a0 a1 a2 a3) := by
  intro a0 a1 a2 a3 k
  unfold stylusref19_Cost.f
  repeat' first
      | (with_reducible exact stylusref19_Line.mono _ _ _ _)
      | (with_reducible exact stylusref19_Rate.mono _ _ _ _ _)
      | (with_reducible exact LeO.refl _)
      | (with_reducible exact LeO.none _)
      | (with_reducible refine LeO.ite ?_ ?_)
      | (with_reducible refine LeO.bind ?_ (fun _ => ?_))
      | exact stylusref19_Line.mono _ _ _ _
      | exact stylusref19_Rate.mono _ _ _ _ _
      | exact LeO.none _
      | refine LeO.ite ?_ ?_
      | refine LeO.bind ?_ (fun _ => ?_)
set_option maxHeartbeats 8000000 in
set_option maxRecDepth 100000 in
theorem stylusref19_Cost.calls (k : Nat) (A0 : Option Addr) (c0 : Nat) (l0 : List (S43)) (a1 : Int) (a2 : Int) (a3 : Int) (r : Int) (w : World) (hr0 : Kd.C k43 w A0 l0.length l0) (hc0 : l0.length ≤ c0) (h : stylusref19_Cost.f k l0 a1 a2 a3 = some r) :
    Calls Try.prog 58 #[.slice A0 l0.length c0, .int .i64 a1, .int .i64 a2, .int .i64 a3] w fun e w' => e = .returned (.int .i64 r) ∧ Below w.heap.size w w' := by
  have HR0 := Aside0.mk hr0
  have HC0 := Aside0.mk hc0
  clear hr0 hc0
  have HB := Aside0.mk (Below.refl w.heap.size w)
  have H : ((stylusref19_Rate.f k l0 a1 a2 a3).bind fun t206 => ((stylusref19_Hyphen.f l0 a3).bind fun t207 => (if t207 = true then ((stylusref19_Line.f k l0 a2 a3).bind fun bt208 => (if (wrap64 (bt208.1 - bt208.2.2)) > a1 then (some (wrap64 ((wrap64 ((wrap64 ((wrap64 (10 + (mn (wrap64 (Int.tdiv (wrap64 ((wrap64 ((wrap64 (100 * t206)) * t206)) * t206)) 2097152)) 10000))) * (wrap64 (10 + (mn (wrap64 (Int.tdiv (wrap64 ((wrap64 ((wrap64 (100 * t206)) * t206)) * t206)) 2097152)) 10000))))) + 2500)) + 1000000000000))) else (some (wrap64 ((wrap64 ((wrap64 (10 + (mn (wrap64 (Int.tdiv (wrap64 ((wrap64 ((wrap64 (100 * t206)) * t206)) * t206)) 2097152)) 10000))) * (wrap64 (10 + (mn (wrap64 (Int.tdiv (wrap64 ((wrap64 ((wrap64 (100 * t206)) * t206)) * t206)) 2097152)) 10000))))) + 2500))))) else ((stylusref19_Line.f k l0 a2 a3).bind fun bt211 => (if (wrap64 (bt211.1 - bt211.2.2)) > a1 then (some (wrap64 ((wrap64 ((wrap64 (10 + (mn (wrap64 (Int.tdiv (wrap64 ((wrap64 ((wrap64 (100 * t206)) * t206)) * t206)) 2097152)) 10000))) * (wrap64 (10 + (mn (wrap64 (Int.tdiv (wrap64 ((wrap64 ((wrap64 (100 * t206)) * t206)) * t206)) 2097152)) 10000))))) + 1000000000000))) else (some (wrap64 ((wrap64 (10 + (mn (wrap64 (Int.tdiv (wrap64 ((wrap64 ((wrap64 (100 * t206)) * t206)) * t206)) 2097152)) 10000))) * (wrap64 (10 + (mn (wrap64 (Int.tdiv (wrap64 ((wrap64 ((wrap64 (100 * t206)) * t206)) * t206)) 2097152)) 10000))))))))))) = some r := h
  clear h
  replace H := Option.bind_eq_some_iff.mp H
  obtain ⟨t206, A50, H⟩ := H
  replace H : ((stylusref19_Hyphen.f l0 a3).bind fun t207 => (if t207 = true then ((stylusref19_Line.f k l0 a2 a3).bind fun bt208 => (if (wrap64 (bt208.1 - bt208.2.2)) > a1 then (some (wrap64 ((wrap64 ((wrap64 ((wrap64 (10 + (mn (wrap64 (Int.tdiv (wrap64 ((wrap64 ((wrap64 (100 * t206)) * t206)) * t206)) 2097152)) 10000))) * (wrap64 (10 + (mn (wrap64 (Int.tdiv (wrap64 ((wrap64 ((wrap64 (100 * t206)) * t206)) * t206)) 2097152)) 10000))))) + 2500)) + 1000000000000))) else (some (wrap64 ((wrap64 ((wrap64 (10 + (mn (wrap64 (Int.tdiv (wrap64 ((wrap64 ((wrap64 (100 * t206)) * t206)) * t206)) 2097152)) 10000))) * (wrap64 (10 + (mn (wrap64 (Int.tdiv (wrap64 ((wrap64 ((wrap64 (100 * t206)) * t206)) * t206)) 2097152)) 10000))))) + 2500))))) else ((stylusref19_Line.f k l0 a2 a3).bind fun bt211 => (if (wrap64 (bt211.1 - bt211.2.2)) > a1 then (some (wrap64 ((wrap64 ((wrap64 (10 + (mn (wrap64 (Int.tdiv (wrap64 ((wrap64 ((wrap64 (100 * t206)) * t206)) * t206)) 2097152)) 10000))) * (wrap64 (10 + (mn (wrap64 (Int.tdiv (wrap64 ((wrap64 ((wrap64 (100 * t206)) * t206)) * t206)) 2097152)) 10000))))) + 1000000000000))) else (some (wrap64 ((wrap64 (10 + (mn (wrap64 (Int.tdiv (wrap64 ((wrap64 ((wrap64 (100 * t206)) * t206)) * t206)) 2097152)) 10000))) * (wrap64 (10 + (mn (wrap64 (Int.tdiv (wrap64 ((wrap64 ((wrap64 (100 * t206)) * t206)) * t206)) 2097152)) 10000)))))))))) = some r := H
  have A5 := Aside0.mk A50
  clear A50
  obtain ⟨ji6, hji6⟩ : ∃ j_ : Int, (mn (wrap64 (Int.tdiv (wrap64 ((wrap64 ((wrap64 (100 * t206)) * t206)) * t206)) 2097152)) 10000) = j_ := ⟨_, rfl⟩
  replace H : ((stylusref19_Hyphen.f l0 a3).bind fun t207 => (if t207 = true then ((stylusref19_Line.f k l0 a2 a3).bind fun bt208 => (if (wrap64 (bt208.1 - bt208.2.2)) > a1 then (some (wrap64 ((wrap64 ((wrap64 ((wrap64 (10 + (ji6))) * (wrap64 (10 + (ji6))))) + 2500)) + 1000000000000))) else (some (wrap64 ((wrap64 ((wrap64 (10 + (ji6))) * (wrap64 (10 + (ji6))))) + 2500))))) else ((stylusref19_Line.f k l0 a2 a3).bind fun bt211 => (if (wrap64 (bt211.1 - bt211.2.2)) > a1 then (some (wrap64 ((wrap64 ((wrap64 (10 + (ji6))) * (wrap64 (10 + (ji6))))) + 1000000000000))) else (some (wrap64 ((wrap64 (10 + (ji6))) * (wrap64 (10 + (ji6)))))))))) = some r := by first | (rw [hji6] at H; exact H) | (simp only [hji6] at H ⊢; exact H)
  (try rw [hji6] at A5)
  (try (have hji6h : ji6 ≤ 10000 := by (rw [← hji6]; unfold mn; (repeat' split) <;> omega)))
  (try (have hji6g : ji6 ≤ 64 := by omega))
  have hji6_ : (if 10000 < (wrap64 (Int.tdiv (wrap64 ((wrap64 ((wrap64 (100 * t206)) * t206)) * t206)) 2097152)) then 10000 else (wrap64 (Int.tdiv (wrap64 ((wrap64 ((wrap64 (100 * t206)) * t206)) * t206)) 2097152))) = ji6 := hji6
  replace H := Option.bind_eq_some_iff.mp H
  obtain ⟨t207, A70, H⟩ := H
  replace H : (if t207 = true then ((stylusref19_Line.f k l0 a2 a3).bind fun bt208 => (if (wrap64 (bt208.1 - bt208.2.2)) > a1 then (some (wrap64 ((wrap64 ((wrap64 ((wrap64 (10 + (ji6))) * (wrap64 (10 + (ji6))))) + 2500)) + 1000000000000))) else (some (wrap64 ((wrap64 ((wrap64 (10 + (ji6))) * (wrap64 (10 + (ji6))))) + 2500))))) else ((stylusref19_Line.f k l0 a2 a3).bind fun bt211 => (if (wrap64 (bt211.1 - bt211.2.2)) > a1 then (some (wrap64 ((wrap64 ((wrap64 (10 + (ji6))) * (wrap64 (10 + (ji6))))) + 1000000000000))) else (some (wrap64 ((wrap64 (10 + (ji6))) * (wrap64 (10 + (ji6))))))))) = some r := H
  have A7 := Aside0.mk A70
  clear A70
  by_cases c8 : t207 = true
  · subst c8
    have H1 : ((stylusref19_Line.f k l0 a2 a3).bind fun bt208 => (if (wrap64 (bt208.1 - bt208.2.2)) > a1 then (some (wrap64 ((wrap64 ((wrap64 ((wrap64 (10 + (ji6))) * (wrap64 (10 + (ji6))))) + 2500)) + 1000000000000))) else (some (wrap64 ((wrap64 ((wrap64 (10 + (ji6))) * (wrap64 (10 + (ji6))))) + 2500))))) = some r := by rw [if_pos rfl] at H; exact H
    clear H
    have H := H1
    clear H1
    replace H := Option.bind_eq_some_iff.mp H
    obtain ⟨⟨t208, t209, t210⟩, A90, H⟩ := H
    replace H : (if (wrap64 (t208 - t210)) > a1 then (some (wrap64 ((wrap64 ((wrap64 ((wrap64 (10 + (ji6))) * (wrap64 (10 + (ji6))))) + 2500)) + 1000000000000))) else (some (wrap64 ((wrap64 ((wrap64 (10 + (ji6))) * (wrap64 (10 + (ji6))))) + 2500)))) = some r := H
    have A9 := Aside0.mk A90
    clear A90
    by_cases c10 : (wrap64 (t208 - t210)) > a1
    · rw [if_pos c10] at H
      have c10b0 : decide (a1 < (wrap64 (t208 - t210))) = true := decide_eq_true c10
      clear c10
      obtain rfl := Option.some.inj H
      go_enter Try.func58, Try.ntmps58
      go_wp2_with (first | ((with_reducible refine gate_callee (f := 56) rfl ?_); refine goesL_ (some 19) rfl rfl Try.func56 (by kernel_rfl) rfl #[.slice A0 l0.length c0, .int .i64 a1, .int .i64 a2, .int .i64 a3] rfl (by (try simp only [List.map_toArray, List.map_cons, List.map_nil]); first | done | rfl | (simp only [List.length_drop, List.length_take]; rfl)) ?_; (with_reducible refine (stylusref19_Rate.calls k _ _ l0 a1 a2 a3 t206 _ ?side1 ?side2 A5.out).mono ?_); (case side1 => repeat (first | exact HR0.out | (with_reducible refine Kd.C_alloc ?_ _) | (with_reducible refine Kd.C_drewN ?_ _) | (with_reducible refine Kd.C_drew ?_))); (case side2 => exact HC0.out); rintro e w11 ⟨rfl, hb⟩; refine ⟨_, rfl, ?_⟩; have n0_ := Aside0.mk (below_step (by repeat (first | (with_reducible first | exact HB.out | apply below_alloc | apply pw_below_drewN | apply below_drew1) | exact HB.out)) hb); clear HB; have HB := n0_; clear n0_; (try clear hb); (try clear hb2); (try clear hk); (try clear hi)) | ((with_reducible refine gate_callee (f := 57) rfl ?_); refine goesL_ (some 35) rfl rfl Try.func57 (by kernel_rfl) rfl #[.slice A0 l0.length c0, .int .i64 a3] rfl (by (try simp only [List.map_toArray, List.map_cons, List.map_nil]); first | done | rfl | (simp only [List.length_drop, List.length_take]; rfl)) ?_; (with_reducible refine (stylusref19_Hyphen.calls _ _ l0 a3 true _ ?side1 ?side2 A7.out).mono ?_); (case side1 => repeat (first | exact (Kd.C_below HR0.out HB.out) | (with_reducible refine Kd.C_alloc ?_ _) | (with_reducible refine Kd.C_drewN ?_ _) | (with_reducible refine Kd.C_drew ?_))); (case side2 => exact HC0.out); rintro e w' ⟨rfl, ⟨nd, rfl⟩⟩; refine ⟨_, rfl, ?_⟩) | ((with_reducible refine gate_callee (f := 55) rfl ?_); refine goesL_ (some 42) rfl rfl Try.func55 (by kernel_rfl) rfl #[.slice A0 l0.length c0, .int .i64 a2, .int .i64 a3] rfl (by (try simp only [List.map_toArray, List.map_cons, List.map_nil]); first | done | rfl | (simp only [List.length_drop, List.length_take]; rfl)) ?_; (with_reducible refine (stylusref19_Line.calls k _ _ l0 a2 a3 t208 t209 t210 _ ?side1 ?side2 A9.out).mono ?_); (case side1 => repeat (first | exact (Kd.C_below HR0.out (by repeat (first | (with_reducible first | exact HB.out | apply below_alloc | apply pw_below_drewN | apply below_drew1) | exact HB.out))) | (with_reducible refine Kd.C_alloc ?_ _) | (with_reducible refine Kd.C_drewN ?_ _) | (with_reducible refine Kd.C_drew ?_))); (case side2 => exact HC0.out); rintro e w' ⟨rfl, ⟨nd, rfl⟩⟩; refine ⟨_, rfl, ?_⟩))
      go_ret
      exact ⟨by first | rfl | (simp [errW_none, errW_some] <;> rfl) | (simp only [← hji6]; first | rfl | (simp [errW_none, errW_some] <;> rfl)) | (simp [*, errW_none, errW_some] <;> rfl), by repeat (first | (with_reducible first | exact HB.out | apply below_alloc | apply pw_below_drewN | apply below_drew1) | exact HB.out)⟩
    · rw [if_neg c10] at H
      have c10b0 : decide (a1 < (wrap64 (t208 - t210))) = false := decide_eq_false c10
      clear c10
      obtain rfl := Option.some.inj H
      go_enter Try.func58, Try.ntmps58
      go_wp2_with (first | ((with_reducible refine gate_callee (f := 56) rfl ?_); refine goesL_ (some 19) rfl rfl Try.func56 (by kernel_rfl) rfl #[.slice A0 l0.length c0, .int .i64 a1, .int .i64 a2, .int .i64 a3] rfl (by (try simp only [List.map_toArray, List.map_cons, List.map_nil]); first | done | rfl | (simp only [List.length_drop, List.length_take]; rfl)) ?_; (with_reducible refine (stylusref19_Rate.calls k _ _ l0 a1 a2 a3 t206 _ ?side1 ?side2 A5.out).mono ?_); (case side1 => repeat (first | exact HR0.out | (with_reducible refine Kd.C_alloc ?_ _) | (with_reducible refine Kd.C_drewN ?_ _) | (with_reducible refine Kd.C_drew ?_))); (case side2 => exact HC0.out); rintro e w12 ⟨rfl, hb⟩; refine ⟨_, rfl, ?_⟩; have n0_ := Aside0.mk (below_step (by repeat (first | (with_reducible first | exact HB.out | apply below_alloc | apply pw_below_drewN | apply below_drew1) | exact HB.out)) hb); clear HB; have HB := n0_; clear n0_; (try clear hb); (try clear hb2); (try clear hk); (try clear hi)) | ((with_reducible refine gate_callee (f := 57) rfl ?_); refine goesL_ (some 35) rfl rfl Try.func57 (by kernel_rfl) rfl #[.slice A0 l0.length c0, .int .i64 a3] rfl (by (try simp only [List.map_toArray, List.map_cons, List.map_nil]); first | done | rfl | (simp only [List.length_drop, List.length_take]; rfl)) ?_; (with_reducible refine (stylusref19_Hyphen.calls _ _ l0 a3 true _ ?side1 ?side2 A7.out).mono ?_); (case side1 => repeat (first | exact (Kd.C_below HR0.out HB.out) | (with_reducible refine Kd.C_alloc ?_ _) | (with_reducible refine Kd.C_drewN ?_ _) | (with_reducible refine Kd.C_drew ?_))); (case side2 => exact HC0.out); rintro e w' ⟨rfl, ⟨nd, rfl⟩⟩; refine ⟨_, rfl, ?_⟩) | ((with_reducible refine gate_callee (f := 55) rfl ?_); refine goesL_ (some 42) rfl rfl Try.func55 (by kernel_rfl) rfl #[.slice A0 l0.length c0, .int .i64 a2, .int .i64 a3] rfl (by (try simp only [List.map_toArray, List.map_cons, List.map_nil]); first | done | rfl | (simp only [List.length_drop, List.length_take]; rfl)) ?_; (with_reducible refine (stylusref19_Line.calls k _ _ l0 a2 a3 t208 t209 t210 _ ?side1 ?side2 A9.out).mono ?_); (case side1 => repeat (first | exact (Kd.C_below HR0.out (by repeat (first | (with_reducible first | exact HB.out | apply below_alloc | apply pw_below_drewN | apply below_drew1) | exact HB.out))) | (with_reducible refine Kd.C_alloc ?_ _) | (with_reducible refine Kd.C_drewN ?_ _) | (with_reducible refine Kd.C_drew ?_))); (case side2 => exact HC0.out); rintro e w' ⟨rfl, ⟨nd, rfl⟩⟩; refine ⟨_, rfl, ?_⟩))
      go_ret
      exact ⟨by first | rfl | (simp [errW_none, errW_some] <;> rfl) | (simp only [← hji6]; first | rfl | (simp [errW_none, errW_some] <;> rfl)) | (simp [*, errW_none, errW_some] <;> rfl), by repeat (first | (with_reducible first | exact HB.out | apply below_alloc | apply pw_below_drewN | apply below_drew1) | exact HB.out)⟩
  · replace c8 := Bool.eq_false_iff.mpr c8
    subst c8
    have H1 : ((stylusref19_Line.f k l0 a2 a3).bind fun bt211 => (if (wrap64 (bt211.1 - bt211.2.2)) > a1 then (some (wrap64 ((wrap64 ((wrap64 (10 + (ji6))) * (wrap64 (10 + (ji6))))) + 1000000000000))) else (some (wrap64 ((wrap64 (10 + (ji6))) * (wrap64 (10 + (ji6)))))))) = some r := by rw [if_neg (show ¬ (false = true) by decide)] at H; exact H
    clear H
    have H := H1
    clear H1
    replace H := Option.bind_eq_some_iff.mp H
    obtain ⟨⟨t211, t212, t213⟩, A130, H⟩ := H
    replace H : (if (wrap64 (t211 - t213)) > a1 then (some (wrap64 ((wrap64 ((wrap64 (10 + (ji6))) * (wrap64 (10 + (ji6))))) + 1000000000000))) else (some (wrap64 ((wrap64 (10 + (ji6))) * (wrap64 (10 + (ji6))))))) = some r := H
    have A13 := Aside0.mk A130
    clear A130
    by_cases c14 : (wrap64 (t211 - t213)) > a1
    · rw [if_pos c14] at H
      have c14b0 : decide (a1 < (wrap64 (t211 - t213))) = true := decide_eq_true c14
      clear c14
      obtain rfl := Option.some.inj H
      go_enter Try.func58, Try.ntmps58
      go_wp2_with (first | ((with_reducible refine gate_callee (f := 56) rfl ?_); refine goesL_ (some 19) rfl rfl Try.func56 (by kernel_rfl) rfl #[.slice A0 l0.length c0, .int .i64 a1, .int .i64 a2, .int .i64 a3] rfl (by (try simp only [List.map_toArray, List.map_cons, List.map_nil]); first | done | rfl | (simp only [List.length_drop, List.length_take]; rfl)) ?_; (with_reducible refine (stylusref19_Rate.calls k _ _ l0 a1 a2 a3 t206 _ ?side1 ?side2 A5.out).mono ?_); (case side1 => repeat (first | exact HR0.out | (with_reducible refine Kd.C_alloc ?_ _) | (with_reducible refine Kd.C_drewN ?_ _) | (with_reducible refine Kd.C_drew ?_))); (case side2 => exact HC0.out); rintro e w15 ⟨rfl, hb⟩; refine ⟨_, rfl, ?_⟩; have n0_ := Aside0.mk (below_step (by repeat (first | (with_reducible first | exact HB.out | apply below_alloc | apply pw_below_drewN | apply below_drew1) | exact HB.out)) hb); clear HB; have HB := n0_; clear n0_; (try clear hb); (try clear hb2); (try clear hk); (try clear hi)) | ((with_reducible refine gate_callee (f := 57) rfl ?_); refine goesL_ (some 35) rfl rfl Try.func57 (by kernel_rfl) rfl #[.slice A0 l0.length c0, .int .i64 a3] rfl (by (try simp only [List.map_toArray, List.map_cons, List.map_nil]); first | done | rfl | (simp only [List.length_drop, List.length_take]; rfl)) ?_; (with_reducible refine (stylusref19_Hyphen.calls _ _ l0 a3 false _ ?side1 ?side2 A7.out).mono ?_); (case side1 => repeat (first | exact (Kd.C_below HR0.out HB.out) | (with_reducible refine Kd.C_alloc ?_ _) | (with_reducible refine Kd.C_drewN ?_ _) | (with_reducible refine Kd.C_drew ?_))); (case side2 => exact HC0.out); rintro e w' ⟨rfl, ⟨nd, rfl⟩⟩; refine ⟨_, rfl, ?_⟩) | ((with_reducible refine gate_callee (f := 55) rfl ?_); refine goesL_ (some 42) rfl rfl Try.func55 (by kernel_rfl) rfl #[.slice A0 l0.length c0, .int .i64 a2, .int .i64 a3] rfl (by (try simp only [List.map_toArray, List.map_cons, List.map_nil]); first | done | rfl | (simp only [List.length_drop, List.length_take]; rfl)) ?_; (with_reducible refine (stylusref19_Line.calls k _ _ l0 a2 a3 t211 t212 t213 _ ?side1 ?side2 A13.out).mono ?_); (case side1 => repeat (first | exact (Kd.C_below HR0.out (by repeat (first | (with_reducible first | exact HB.out | apply below_alloc | apply pw_below_drewN | apply below_drew1) | exact HB.out))) | (with_reducible refine Kd.C_alloc ?_ _) | (with_reducible refine Kd.C_drewN ?_ _) | (with_reducible refine Kd.C_drew ?_))); (case side2 => exact HC0.out); rintro e w' ⟨rfl, ⟨nd, rfl⟩⟩; refine ⟨_, rfl, ?_⟩))
      go_ret
      exact ⟨by first | rfl | (simp [errW_none, errW_some] <;> rfl) | (simp only [← hji6]; first | rfl | (simp [errW_none, errW_some] <;> rfl)) | (simp [*, errW_none, errW_some] <;> rfl), by repeat (first | (with_reducible first | exact HB.out | apply below_alloc | apply pw_below_drewN | apply below_drew1) | exact HB.out)⟩
    · rw [if_neg c14] at H
      have c14b0 : decide (a1 < (wrap64 (t211 - t213))) = false := decide_eq_false c14
      clear c14
      obtain rfl := Option.some.inj H
      go_enter Try.func58, Try.ntmps58
      go_wp2_with (first | ((with_reducible refine gate_callee (f := 56) rfl ?_); refine goesL_ (some 19) rfl rfl Try.func56 (by kernel_rfl) rfl #[.slice A0 l0.length c0, .int .i64 a1, .int .i64 a2, .int .i64 a3] rfl (by (try simp only [List.map_toArray, List.map_cons, List.map_nil]); first | done | rfl | (simp only [List.length_drop, List.length_take]; rfl)) ?_; (with_reducible refine (stylusref19_Rate.calls k _ _ l0 a1 a2 a3 t206 _ ?side1 ?side2 A5.out).mono ?_); (case side1 => repeat (first | exact HR0.out | (with_reducible refine Kd.C_alloc ?_ _) | (with_reducible refine Kd.C_drewN ?_ _) | (with_reducible refine Kd.C_drew ?_))); (case side2 => exact HC0.out); rintro e w16 ⟨rfl, hb⟩; refine ⟨_, rfl, ?_⟩; have n0_ := Aside0.mk (below_step (by repeat (first | (with_reducible first | exact HB.out | apply below_alloc | apply pw_below_drewN | apply below_drew1) | exact HB.out)) hb); clear HB; have HB := n0_; clear n0_; (try clear hb); (try clear hb2); (try clear hk); (try clear hi)) | ((with_reducible refine gate_callee (f := 57) rfl ?_); refine goesL_ (some 35) rfl rfl Try.func57 (by kernel_rfl) rfl #[.slice A0 l0.length c0, .int .i64 a3] rfl (by (try simp only [List.map_toArray, List.map_cons, List.map_nil]); first | done | rfl | (simp only [List.length_drop, List.length_take]; rfl)) ?_; (with_reducible refine (stylusref19_Hyphen.calls _ _ l0 a3 false _ ?side1 ?side2 A7.out).mono ?_); (case side1 => repeat (first | exact (Kd.C_below HR0.out HB.out) | (with_reducible refine Kd.C_alloc ?_ _) | (with_reducible refine Kd.C_drewN ?_ _) | (with_reducible refine Kd.C_drew ?_))); (case side2 => exact HC0.out); rintro e w' ⟨rfl, ⟨nd, rfl⟩⟩; refine ⟨_, rfl, ?_⟩) | ((with_reducible refine gate_callee (f := 55) rfl ?_); refine goesL_ (some 42) rfl rfl Try.func55 (by kernel_rfl) rfl #[.slice A0 l0.length c0, .int .i64 a2, .int .i64 a3] rfl (by (try simp only [List.map_toArray, List.map_cons, List.map_nil]); first | done | rfl | (simp only [List.length_drop, List.length_take]; rfl)) ?_; (with_reducible refine (stylusref19_Line.calls k _ _ l0 a2 a3 t211 t212 t213 _ ?side1 ?side2 A13.out).mono ?_); (case side1 => repeat (first | exact (Kd.C_below HR0.out (by repeat (first | (with_reducible first | exact HB.out | apply below_alloc | apply pw_below_drewN | apply below_drew1) | exact HB.out))) | (with_reducible refine Kd.C_alloc ?_ _) | (with_reducible refine Kd.C_drewN ?_ _) | (with_reducible refine Kd.C_drew ?_))); (case side2 => exact HC0.out); rintro e w' ⟨rfl, ⟨nd, rfl⟩⟩; refine ⟨_, rfl, ?_⟩))
      go_ret
      exact ⟨by first | rfl | (simp [errW_none, errW_some] <;> rfl) | (simp only [← hji6]; first | rfl | (simp [errW_none, errW_some] <;> rfl)) | (simp [*, errW_none, errW_some] <;> rfl), by repeat (first | (with_reducible first | exact HB.out | apply below_alloc | apply pw_below_drewN | apply below_drew1) | exact HB.out)⟩

end Go.Proofs.Ytbddfnmhhmkfkaa.Pr
/- Walks of the Go functions of this seat, and the Lean functions that they come to: written by a program (mkprint.py over the kit's print). -/
namespace Go.Proofs.Ytbddfnmhhmkfkaa.Pr
open Go.RowKit Go.Proofs.YtbddfnmhhmkfkaaW.PrintWords Go.Proofs.YtbddfnmhhmkfkaaW.PrintLast Go.Proofs.YtbddfnmhhmkfkaaW.PrintMore
attribute [local go_sem] max2_int min2_int max_two min_two max_three min_three max_four min_four   -- for this text's walks alone
set_option linter.unusedVariables false
set_option linter.unusedSimpArgs false

/-! ### stylusref19_Total: function 23 -/
def stylusref19_Total.l0 : Nat → List (S43) → Int → List Int → Int → Int → Int → Option (Int)
  | 0, _, _, _, _, _, _ => none
  | k + 1, x0, x1, x2, x7, x8, x9 => if x9 < (x2.length : Int) then (if 0 ≤ x9 then ((stylusref19_Cost.f k x0 x1 x8 (rd x2 x9)).bind fun t215 => (stylusref19_Total.l0 k x0 x1 x2 (wrap64 (x7 + t215)) (rd x2 x9) (wrap64 (x9 + 1)))) else (none)) else (some x7)
def stylusref19_Total.f (k : Nat) (l0 : List (S43)) (a1 : Int) (l2 : List Int) : Option (Int) := stylusref19_Total.l0 k l0 a1 l2 0 (-1) 0
theorem stylusref19_Total.mono_l : ∀ k, (∀ y0 y1 y2 y3 y4 y5, LeO (stylusref19_Total.l0 k y0 y1 y2 y3 y4 y5) (stylusref19_Total.l0 (k + 1) y0 y1 y2 y3 y4 y5))
  | 0 => fun _ _ _ _ _ _ r h => by simp [stylusref19_Total.l0] at h
  | k + 1 => by
    have ih0 := stylusref19_Total.mono_l k
    · intro y0 y1 y2 y3 y4 y5
      unfold stylusref19_Total.l0
      repeat' first
      | (with_reducible exact ih0 _ _ _ _ _ _)
      | (with_reducible exact stylusref19_Cost.mono _ _ _ _ _)
      | (with_reducible exact LeO.refl _)
      | (with_reducible exact LeO.none _)
      | (with_reducible refine LeO.ite ?_ ?_)
      | (with_reducible refine LeO.bind ?_ (fun _ => ?_))
      | exact ih0 _ _ _ _ _ _
      | exact stylusref19_Cost.mono _ _ _ _ _
      | exact LeO.none _
      | refine LeO.ite ?_ ?_
      | refine LeO.bind ?_ (fun _ => ?_)
theorem stylusref19_Total.mono : ∀ a0 a1 a2 k, LeO (stylusref19_Total.f k a0 a1 a2) (stylusref19_Total.f (k + 1) a0 a1 a2) := by
  intro a0 a1 a2 k
  have ih0 := stylusref19_Total.mono_l k
  unfold stylusref19_Total.f
  repeat' first
      | (with_reducible exact ih0 _ _ _ _ _ _)
      | (with_reducible exact stylusref19_Cost.mono _ _ _ _ _)
      | (with_reducible exact LeO.refl _)
      | (with_reducible exact LeO.none _)
      | (with_reducible refine LeO.ite ?_ ?_)
      | (with_reducible refine LeO.bind ?_ (fun _ => ?_))
      | exact ih0 _ _ _ _ _ _
      | exact stylusref19_Cost.mono _ _ _ _ _
      | exact LeO.none _
      | refine LeO.ite ?_ ?_
      | refine LeO.bind ?_ (fun _ => ?_)
set_option maxHeartbeats 8000000 in
set_option maxRecDepth 100000 in
theorem stylusref19_Total.calls (k : Nat) (A0 : Option Addr) (c0 : Nat) (l0 : List (S43)) (a1 : Int) (A2 : Option Addr) (c2 : Nat) (l2 : List Int) (r : Int) (w : World) (hr0 : Kd.C k43 w A0 l0.length l0) (hc0 : l0.length ≤ c0) (hr2 : Kd.C (Kd.int .i64) w A2 l2.length l2) (hc2 : l2.length ≤ c2) (h : stylusref19_Total.f k l0 a1 l2 = some r) :
    Calls Try.prog 23 #[.slice A0 l0.length c0, .int .i64 a1, .slice A2 l2.length c2] w fun e w' => e = .returned (.int .i64 r) ∧ Below w.heap.size w w' := by
  have HR0 := Aside0.mk hr0
  have HC0 := Aside0.mk hc0
  clear hr0 hc0
  have HR2 := Aside0.mk hr2
  have HC2 := Aside0.mk hc2
  clear hr2 hc2
  have HB := Aside0.mk (Below.refl w.heap.size w)
  have H : (stylusref19_Total.l0 k l0 a1 l2 0 (-1) 0) = some r := h
  clear h
  have H' := Aside0.mk H
  clear H
  go_enter Try.func23, Try.ntmps23
  go_wp2
  go_loopg [7, 8, 9] k (fun kq v7 v8 v9 w' => ∃ (x7_1 : Int) (x8_1 : Int) (x9_1 : Int), v7 = .int .i64 x7_1 ∧ v8 = .int .i64 x8_1 ∧ v9 = .int .i64 x9_1 ∧ Aside0 (stylusref19_Total.l0 kq l0 a1 l2 x7_1 x8_1 x9_1 = some r) ∧ Aside0 (kq ≤ k) ∧ Aside0 (Below w.heap.size w w'))
  case atStart => exact ⟨(0), ((-1)), (0), (by first | rfl | (simp; done) | (simp [*]; done)), (by first | rfl | (simp; done) | (simp [*]; done)), (by first | rfl | (simp; done) | (simp [*]; done)), H', ⟨Nat.le_refl _⟩, ⟨by repeat (first | (with_reducible first | exact HB.out | apply below_alloc | apply pw_below_drewN | apply below_drew1) | exact HB.out)⟩⟩
  case round =>
    clear H'
    try clear c2
    try clear p2
    obtain ⟨x7_1, x8_1, x9_1, rfl, rfl, rfl, HA, HK1, HB⟩ := hrel
    cases gk with
    | zero => exact absurd HA.out (by simp [stylusref19_Total.l0])
    | succ k1 =>
      have H := HA.out
      clear HA
      simp only [stylusref19_Total.l0] at H
      by_cases c4 : x9_1 < (l2.length : Int)
      · rw [if_pos c4] at H
        have c4b0 : decide (x9_1 < (l2.length : Int)) = true := decide_eq_true c4
        clear c4
        by_cases c5 : 0 ≤ x9_1
        · rw [if_pos c5] at H
          have c5b0 : decide (0 ≤ x9_1) = true := decide_eq_true c5
          clear c5
          replace H := Option.bind_eq_some_iff.mp H
          obtain ⟨t215, A60, H⟩ := H
          replace H : (stylusref19_Total.l0 k1 l0 a1 l2 (wrap64 (x7_1 + t215)) (rd l2 x9_1) (wrap64 (x9_1 + 1))) = some r := H
          have A6 := Aside0.mk A60
          clear A60
          have H' := Aside0.mk H
          clear H
          have p214 : 0 ≤ (x9_1 : Int) := of_decide_eq_true (by first | (with_reducible assumption) | assumption)
          have q214 : x9_1 < (l2.length : Int) := of_decide_eq_true (by first | (with_reducible assumption) | assumption)
          obtain ⟨ad214, e214, hx214_0⟩ := Kd.at_int HR2.out x9_1 p214 q214
          cases e214
          replace hx214_0 := (HB.out.cell (World.block_lt_of_cell? w _ hx214_0)).trans hx214_0
          replace p214 := eq_true p214
          replace q214 := eq_true q214
          go_wp2_with (first | ((with_reducible refine gate_callee (f := 58) rfl ?_); refine goesL_ (some 24) rfl rfl Try.func58 (by kernel_rfl) rfl #[.slice A0 l0.length c0, .int .i64 a1, .int .i64 x8_1, .int .i64 (rd l2 x9_1)] rfl (by (try simp only [List.map_toArray, List.map_cons, List.map_nil]); first | done | rfl | (simp only [List.length_drop, List.length_take]; rfl)) ?_; (with_reducible refine (stylusref19_Cost.calls k1 _ _ l0 a1 x8_1 (rd l2 x9_1) t215 _ ?side1 ?side2 A6.out).mono ?_); (case side1 => repeat (first | exact (Kd.C_below HR0.out HB.out) | (with_reducible refine Kd.C_alloc ?_ _) | (with_reducible refine Kd.C_drewN ?_ _) | (with_reducible refine Kd.C_drew ?_))); (case side2 => exact HC0.out); rintro e w7 ⟨rfl, hb⟩; refine ⟨_, rfl, ?_⟩; have n0_ := Aside0.mk (below_step (by repeat (first | (with_reducible first | exact HB.out | apply below_alloc | apply pw_below_drewN | apply below_drew1) | exact HB.out)) hb); clear HB; have HB := n0_; clear n0_; (try clear hb); (try clear hb2); (try clear hk); (try clear hi); have p216 : 0 ≤ (x9_1 : Int) := of_decide_eq_true (by first | (with_reducible assumption) | assumption); have q216 : x9_1 < (l2.length : Int) := of_decide_eq_true (by first | (with_reducible assumption) | assumption); obtain ⟨ad216, e216, hx216_0⟩ := Kd.at_int HR2.out x9_1 p216 q216; obtain rfl : ad214 = ad216 := (by injection e216); replace hx216_0 := (HB.out.cell (World.block_lt_of_cell? w _ hx216_0)).trans hx216_0; replace p216 := eq_true p216; replace q216 := eq_true q216))
          go_roundg k1
          case measure => have := HK1.out; omega
          case rel => exact ⟨(wrap64 (x7_1 + t215)), (rd l2 x9_1), (wrap64 (x9_1 + 1)), (by first | rfl | (simp; done) | (simp [*]; done)), (by first | rfl | (simp; done) | (simp [*]; done)), (by first | rfl | (simp; done) | (simp [*]; done)), H', ⟨by have := HK1.out; omega⟩, ⟨by repeat (first | (with_reducible first | exact HB.out | apply below_alloc | apply pw_below_drewN | apply below_drew1) | exact HB.out)⟩⟩
        · rw [if_neg c5] at H
          exact absurd H (by simp)
      · rw [if_neg c4] at H
        have c4b0 : decide (x9_1 < (l2.length : Int)) = false := decide_eq_false c4
        clear c4
        obtain rfl := Option.some.inj H
        go_wp2
        go_ret
        exact ⟨by first | rfl | (simp [errW_none, errW_some] <;> rfl) | (simp [*, errW_none, errW_some] <;> rfl), by repeat (first | (with_reducible first | exact HB.out | apply below_alloc | apply pw_below_drewN | apply below_drew1) | exact HB.out)⟩

end Go.Proofs.Ytbddfnmhhmkfkaa.Pr
/- Walks of the Go functions of this seat, and the Lean functions that they come to: written by a program (mkprint.py over the kit's print). -/
namespace Go.Proofs.Ytbddfnmhhmkfkaa.Pr
open Go.RowKit Go.Proofs.YtbddfnmhhmkfkaaW.PrintWords Go.Proofs.YtbddfnmhhmkfkaaW.PrintLast Go.Proofs.YtbddfnmhhmkfkaaW.PrintMore
attribute [local go_sem] max2_int min2_int max_two min_two max_three min_three max_four min_four   -- for this text's walks alone
set_option linter.unusedVariables false
set_option linter.unusedSimpArgs false

/-! ### stylusref19_Ratio: function 20 -/
def stylusref19_Ratio.j0 : Nat → List (S43) → Int → Int → Int → Bool → Option (Int × Int × Int)
  | 0, _, _, _, _, _ => none
  | k + 1, x0, x1, x2, x3, x44 => if x44 = true then (some (0, 0, 1)) else ((stylusref19_Line.f k x0 x2 x3).bind fun bt266 => ((stylusref19_Rate.f k x0 x1 x2 x3).bind fun t269 => (some (bt266.1, t269, 0))))
def stylusref19_Ratio.f (k : Nat) (l0 : List (S43)) (a1 : Int) (a2 : Int) (a3 : Int) : Option (Int × Int × Int) := (stylusref19_Check.f k l0 a1).bind fun t262 => (if t262 = 0 then (if a2 = (-1) then ((stylusref19_Place.f l0 a3).bind fun t263 => (if t263 = true then (stylusref19_Ratio.j0 k l0 a1 a2 a3 (decide (a3 ≤ a2))) else (stylusref19_Ratio.j0 k l0 a1 a2 a3 true))) else (if a2 = (l0.length : Int) then (stylusref19_Ratio.j0 k l0 a1 a2 a3 true) else ((stylusref19_Place.f l0 a2).bind fun t264 => (if t264 = true then ((stylusref19_Place.f l0 a3).bind fun t265 => (if t265 = true then (stylusref19_Ratio.j0 k l0 a1 a2 a3 (decide (a3 ≤ a2))) else (stylusref19_Ratio.j0 k l0 a1 a2 a3 true))) else (stylusref19_Ratio.j0 k l0 a1 a2 a3 true))))) else (stylusref19_Ratio.j0 k l0 a1 a2 a3 true))
theorem stylusref19_Ratio.mono_l : ∀ k, (∀ y0 y1 y2 y3 y4, LeO (stylusref19_Ratio.j0 k y0 y1 y2 y3 y4) (stylusref19_Ratio.j0 (k + 1) y0 y1 y2 y3 y4))
  | 0 => fun _ _ _ _ _ r h => by simp [stylusref19_Ratio.j0] at h
  | k + 1 => by
    have ih0 := stylusref19_Ratio.mono_l k
    · intro y0 y1 y2 y3 y4
      unfold stylusref19_Ratio.j0
      repeat' first
      | (with_reducible exact ih0 _ _ _ _ _)
      | (with_reducible exact stylusref19_Check.mono _ _ _)
      | (with_reducible exact stylusref19_Line.mono _ _ _ _)
      | (with_reducible exact stylusref19_Rate.mono _ _ _ _ _)
      | (with_reducible exact LeO.refl _)
      | (with_reducible exact LeO.none _)
      | (with_reducible refine LeO.ite ?_ ?_)
      | (with_reducible refine LeO.bind ?_ (fun _ => ?_))
      | exact ih0 _ _ _ _ _
      | exact stylusref19_Check.mono _ _ _
      | exact stylusref19_Line.mono _ _ _ _
      | exact stylusref19_Rate.mono _ _ _ _ _
      | exact LeO.none _
      | refine LeO.ite ?_ ?_
      | refine LeO.bind ?_ (fun _ => ?_)
theorem stylusref19_Ratio.mono : ∀ a0 a1 a2 a3 k, LeO (stylusref19_Ratio.f k a0 a1 a2 a3) (stylusref19_Ratio.f (k + 1) a0 a1 a2 a3) := by
  intro a0 a1 a2 a3 k
  have ih0 := stylusref19_Ratio.mono_l k
  unfold stylusref19_Ratio.f
  repeat' first
      | (with_reducible exact ih0 _ _ _ _ _)
      | (with_reducible exact stylusref19_Check.mono _ _ _)
      | (with_reducible exact stylusref19_Line.mono _ _ _ _)
      | (with_reducible exact stylusref19_Rate.mono _ _ _ _ _)
      | (with_reducible exact LeO.refl _)
      | (with_reducible exact LeO.none _)
      | (with_reducible refine LeO.ite ?_ ?_)
      | (with_reducible refine LeO.bind ?_ (fun _ => ?_))
      | exact ih0 _ _ _ _ _
      | exact stylusref19_Check.mono _ _ _
      | exact stylusref19_Line.mono _ _ _ _
      | exact stylusref19_Rate.mono _ _ _ _ _
      | exact LeO.none _
      | refine LeO.ite ?_ ?_
      | refine LeO.bind ?_ (fun _ => ?_)
set_option maxHeartbeats 8000000 in
set_option maxRecDepth 100000 in
theorem stylusref19_Ratio.calls (k : Nat) (A0 : Option Addr) (c0 : Nat) (l0 : List (S43)) (a1 : Int) (a2 : Int) (a3 : Int) (r1 : Int) (r2 : Int) (r3 : Int) (w : World) (hr0 : Kd.C k43 w A0 l0.length l0) (hc0 : l0.length ≤ c0) (h : stylusref19_Ratio.f k l0 a1 a2 a3 = some (r1, r2, r3)) :
    Calls Try.prog 20 #[.slice A0 l0.length c0, .int .i64 a1, .int .i64 a2, .int .i64 a3] w fun e w' => e = .returned (.tuple #[.int .i64 r1, .int .i64 r2, .int .i64 r3]) ∧ Below w.heap.size w w' := by
  have HR0 := Aside0.mk hr0
  have HC0 := Aside0.mk hc0
  clear hr0 hc0
  have HB := Aside0.mk (Below.refl w.heap.size w)
  have H : ((stylusref19_Check.f k l0 a1).bind fun t262 => (if t262 = 0 then (if a2 = (-1) then ((stylusref19_Place.f l0 a3).bind fun t263 => (if t263 = true then (stylusref19_Ratio.j0 k l0 a1 a2 a3 (decide (a3 ≤ a2))) else (stylusref19_Ratio.j0 k l0 a1 a2 a3 true))) else (if a2 = (l0.length : Int) then (stylusref19_Ratio.j0 k l0 a1 a2 a3 true) else ((stylusref19_Place.f l0 a2).bind fun t264 => (if t264 = true then ((stylusref19_Place.f l0 a3).bind fun t265 => (if t265 = true then (stylusref19_Ratio.j0 k l0 a1 a2 a3 (decide (a3 ≤ a2))) else (stylusref19_Ratio.j0 k l0 a1 a2 a3 true))) else (stylusref19_Ratio.j0 k l0 a1 a2 a3 true))))) else (stylusref19_Ratio.j0 k l0 a1 a2 a3 true))) = some (r1, r2, r3) := h
  clear h
  have HC5 := Aside0.mk H
  clear H
  go_enter Try.func20, Try.ntmps20
  go_upto_region 1 with (fail)
  go_cut [44] (fun v44 wc => ∃ (kq : Nat) (x44_4 : Bool), v44 = .bool x44_4 ∧ Aside0 (stylusref19_Ratio.j0 kq l0 a1 a2 a3 x44_4 = some (r1, r2, r3)) ∧ Aside0 (kq ≤ k) ∧ Aside0 (Below w.heap.size w wc))
  case first =>
    have H := HC5.out
    clear HC5
    replace H := Option.bind_eq_some_iff.mp H
    obtain ⟨t262, A60, H⟩ := H
    replace H : (if t262 = 0 then (if a2 = (-1) then ((stylusref19_Place.f l0 a3).bind fun t263 => (if t263 = true then (stylusref19_Ratio.j0 k l0 a1 a2 a3 (decide (a3 ≤ a2))) else (stylusref19_Ratio.j0 k l0 a1 a2 a3 true))) else (if a2 = (l0.length : Int) then (stylusref19_Ratio.j0 k l0 a1 a2 a3 true) else ((stylusref19_Place.f l0 a2).bind fun t264 => (if t264 = true then ((stylusref19_Place.f l0 a3).bind fun t265 => (if t265 = true then (stylusref19_Ratio.j0 k l0 a1 a2 a3 (decide (a3 ≤ a2))) else (stylusref19_Ratio.j0 k l0 a1 a2 a3 true))) else (stylusref19_Ratio.j0 k l0 a1 a2 a3 true))))) else (stylusref19_Ratio.j0 k l0 a1 a2 a3 true)) = some (r1, r2, r3) := H
    have A6 := Aside0.mk A60
    clear A60
    by_cases c7 : t262 = 0
    · rw [if_pos c7] at H
      have c7b0 : (t262 == 0) = true := beq_iff_eq.mpr c7
      have c7b1 : (t262 != 0) = false := bne_eq_false_iff_eq.mpr c7
      clear c7
      (first | rw [c7b0] | (simp only [i64_w, i32_w]; rw [c7b0]) | skip)
      by_cases c8 : a2 = (-1)
      · rw [if_pos c8] at H
        have c8b0 : (a2 == (-1)) = true := beq_iff_eq.mpr c8
        have c8b1 : (a2 != (-1)) = false := bne_eq_false_iff_eq.mpr c8
        clear c8
        replace H := Option.bind_eq_some_iff.mp H
        obtain ⟨t263, A90, H⟩ := H
        replace H : (if t263 = true then (stylusref19_Ratio.j0 k l0 a1 a2 a3 (decide (a3 ≤ a2))) else (stylusref19_Ratio.j0 k l0 a1 a2 a3 true)) = some (r1, r2, r3) := H
        have A9 := Aside0.mk A90
        clear A90
        by_cases c10 : t263 = true
        · subst c10
          have H1 : (stylusref19_Ratio.j0 k l0 a1 a2 a3 (decide (a3 ≤ a2))) = some (r1, r2, r3) := by rw [if_pos rfl] at H; exact H
          clear H
          have H := H1
          clear H1
          have H' := Aside0.mk H
          clear H
          go_wp2_with (first | ((with_reducible refine gate_callee (f := 17) rfl ?_); refine goesL_ (some 16) rfl rfl Try.func17 (by kernel_rfl) rfl #[.slice A0 l0.length c0, .int .i64 a1] rfl (by (try simp only [List.map_toArray, List.map_cons, List.map_nil]); first | done | rfl | (simp only [List.length_drop, List.length_take]; rfl)) ?_; (with_reducible refine (stylusref19_Check.calls k _ _ l0 a1 t262 _ ?side1 ?side2 A6.out).mono ?_); (case side1 => repeat (first | exact (Kd.C_below HR0.out HB.out) | (with_reducible refine Kd.C_alloc ?_ _) | (with_reducible refine Kd.C_drewN ?_ _) | (with_reducible refine Kd.C_drew ?_))); (case side2 => exact HC0.out); rintro e w11 ⟨rfl, hb⟩; refine ⟨_, rfl, ?_⟩; have n0_ := Aside0.mk (below_step (by repeat (first | (with_reducible first | exact HB.out | apply below_alloc | apply pw_below_drewN | apply below_drew1) | exact HB.out)) hb); clear HB; have HB := n0_; clear n0_; (try clear hb); (try clear hb2); (try clear hk); (try clear hi)) | (go_at_call 40; (with_reducible refine (stylusref19_Place.calls _ _ l0 a3 true _ ?side1 ?side2 A9.out).mono ?_); (case side1 => repeat (first | exact (Kd.C_below HR0.out HB.out) | (with_reducible refine Kd.C_alloc ?_ _) | (with_reducible refine Kd.C_drewN ?_ _) | (with_reducible refine Kd.C_drew ?_))); (case side2 => exact HC0.out); rintro e w' ⟨rfl, ⟨nd, rfl⟩⟩))
          go_meet
          case rel => exact ⟨_, (decide (a3 ≤ a2)), (by first | rfl | (simp; done) | (simp [*]; done)), H', ⟨by first | omega | exact Nat.le_refl _⟩, ⟨by repeat (first | (with_reducible first | exact HB.out | apply below_alloc | apply pw_below_drewN | apply below_drew1) | exact HB.out)⟩⟩
        · replace c10 := Bool.eq_false_iff.mpr c10
          subst c10
          have H1 : (stylusref19_Ratio.j0 k l0 a1 a2 a3 true) = some (r1, r2, r3) := by rw [if_neg (show ¬ (false = true) by decide)] at H; exact H
          clear H
          have H := H1
          clear H1
          have H' := Aside0.mk H
          clear H
          go_wp2_with (first | ((with_reducible refine gate_callee (f := 17) rfl ?_); refine goesL_ (some 16) rfl rfl Try.func17 (by kernel_rfl) rfl #[.slice A0 l0.length c0, .int .i64 a1] rfl (by (try simp only [List.map_toArray, List.map_cons, List.map_nil]); first | done | rfl | (simp only [List.length_drop, List.length_take]; rfl)) ?_; (with_reducible refine (stylusref19_Check.calls k _ _ l0 a1 t262 _ ?side1 ?side2 A6.out).mono ?_); (case side1 => repeat (first | exact (Kd.C_below HR0.out HB.out) | (with_reducible refine Kd.C_alloc ?_ _) | (with_reducible refine Kd.C_drewN ?_ _) | (with_reducible refine Kd.C_drew ?_))); (case side2 => exact HC0.out); rintro e w12 ⟨rfl, hb⟩; refine ⟨_, rfl, ?_⟩; have n0_ := Aside0.mk (below_step (by repeat (first | (with_reducible first | exact HB.out | apply below_alloc | apply pw_below_drewN | apply below_drew1) | exact HB.out)) hb); clear HB; have HB := n0_; clear n0_; (try clear hb); (try clear hb2); (try clear hk); (try clear hi)) | (go_at_call 40; (with_reducible refine (stylusref19_Place.calls _ _ l0 a3 false _ ?side1 ?side2 A9.out).mono ?_); (case side1 => repeat (first | exact (Kd.C_below HR0.out HB.out) | (with_reducible refine Kd.C_alloc ?_ _) | (with_reducible refine Kd.C_drewN ?_ _) | (with_reducible refine Kd.C_drew ?_))); (case side2 => exact HC0.out); rintro e w' ⟨rfl, ⟨nd, rfl⟩⟩))
          go_meet
          case rel => exact ⟨_, (true), (by first | rfl | (simp; done) | (simp [*]; done)), H', ⟨by first | omega | exact Nat.le_refl _⟩, ⟨by repeat (first | (with_reducible first | exact HB.out | apply below_alloc | apply pw_below_drewN | apply below_drew1) | exact HB.out)⟩⟩
      · rw [if_neg c8] at H
        have c8b0 : (a2 == (-1)) = false := beq_eq_false_iff_ne.mpr c8
        have c8b1 : (a2 != (-1)) = true := bne_iff_ne.mpr c8
        by_cases c13 : a2 = (l0.length : Int)
        · rw [if_pos c13] at H
          have c13b0 : (a2 == (l0.length : Int)) = true := beq_iff_eq.mpr c13
          have c13b1 : (a2 != (l0.length : Int)) = false := bne_eq_false_iff_eq.mpr c13
          clear c13
          have H' := Aside0.mk H
          clear H
          go_wp2_with (first | ((with_reducible refine gate_callee (f := 17) rfl ?_); refine goesL_ (some 16) rfl rfl Try.func17 (by kernel_rfl) rfl #[.slice A0 l0.length c0, .int .i64 a1] rfl (by (try simp only [List.map_toArray, List.map_cons, List.map_nil]); first | done | rfl | (simp only [List.length_drop, List.length_take]; rfl)) ?_; (with_reducible refine (stylusref19_Check.calls k _ _ l0 a1 t262 _ ?side1 ?side2 A6.out).mono ?_); (case side1 => repeat (first | exact (Kd.C_below HR0.out HB.out) | (with_reducible refine Kd.C_alloc ?_ _) | (with_reducible refine Kd.C_drewN ?_ _) | (with_reducible refine Kd.C_drew ?_))); (case side2 => exact HC0.out); rintro e w14 ⟨rfl, hb⟩; refine ⟨_, rfl, ?_⟩; have n0_ := Aside0.mk (below_step (by repeat (first | (with_reducible first | exact HB.out | apply below_alloc | apply pw_below_drewN | apply below_drew1) | exact HB.out)) hb); clear HB; have HB := n0_; clear n0_; (try clear hb); (try clear hb2); (try clear hk); (try clear hi)))
          go_meet
          case rel => exact ⟨_, (true), (by first | rfl | (simp; done) | (simp [*]; done)), H', ⟨by first | omega | exact Nat.le_refl _⟩, ⟨by repeat (first | (with_reducible first | exact HB.out | apply below_alloc | apply pw_below_drewN | apply below_drew1) | exact HB.out)⟩⟩
        · rw [if_neg c13] at H
          have c13b0 : (a2 == (l0.length : Int)) = false := beq_eq_false_iff_ne.mpr c13
          have c13b1 : (a2 != (l0.length : Int)) = true := bne_iff_ne.mpr c13
          replace H := Option.bind_eq_some_iff.mp H
          obtain ⟨t264, A150, H⟩ := H
          replace H : (if t264 = true then ((stylusref19_Place.f l0 a3).bind fun t265 => (if t265 = true then (stylusref19_Ratio.j0 k l0 a1 a2 a3 (decide (a3 ≤ a2))) else (stylusref19_Ratio.j0 k l0 a1 a2 a3 true))) else (stylusref19_Ratio.j0 k l0 a1 a2 a3 true)) = some (r1, r2, r3) := H
          have A15 := Aside0.mk A150
          clear A150
          by_cases c16 : t264 = true
          · subst c16
            have H1 : ((stylusref19_Place.f l0 a3).bind fun t265 => (if t265 = true then (stylusref19_Ratio.j0 k l0 a1 a2 a3 (decide (a3 ≤ a2))) else (stylusref19_Ratio.j0 k l0 a1 a2 a3 true))) = some (r1, r2, r3) := by rw [if_pos rfl] at H; exact H
            clear H
            have H := H1
            clear H1
            replace H := Option.bind_eq_some_iff.mp H
            obtain ⟨t265, A170, H⟩ := H
            replace H : (if t265 = true then (stylusref19_Ratio.j0 k l0 a1 a2 a3 (decide (a3 ≤ a2))) else (stylusref19_Ratio.j0 k l0 a1 a2 a3 true)) = some (r1, r2, r3) := H
            have A17 := Aside0.mk A170
            clear A170
            by_cases c18 : t265 = true
            · subst c18
              have H1 : (stylusref19_Ratio.j0 k l0 a1 a2 a3 (decide (a3 ≤ a2))) = some (r1, r2, r3) := by rw [if_pos rfl] at H; exact H
              clear H
              have H := H1
              clear H1
              have H' := Aside0.mk H
              clear H
              go_wp2_with (first | ((with_reducible refine gate_callee (f := 17) rfl ?_); refine goesL_ (some 16) rfl rfl Try.func17 (by kernel_rfl) rfl #[.slice A0 l0.length c0, .int .i64 a1] rfl (by (try simp only [List.map_toArray, List.map_cons, List.map_nil]); first | done | rfl | (simp only [List.length_drop, List.length_take]; rfl)) ?_; (with_reducible refine (stylusref19_Check.calls k _ _ l0 a1 t262 _ ?side1 ?side2 A6.out).mono ?_); (case side1 => repeat (first | exact (Kd.C_below HR0.out HB.out) | (with_reducible refine Kd.C_alloc ?_ _) | (with_reducible refine Kd.C_drewN ?_ _) | (with_reducible refine Kd.C_drew ?_))); (case side2 => exact HC0.out); rintro e w19 ⟨rfl, hb⟩; refine ⟨_, rfl, ?_⟩; have n0_ := Aside0.mk (below_step (by repeat (first | (with_reducible first | exact HB.out | apply below_alloc | apply pw_below_drewN | apply below_drew1) | exact HB.out)) hb); clear HB; have HB := n0_; clear n0_; (try clear hb); (try clear hb2); (try clear hk); (try clear hi)) | (go_at_call 40; (with_reducible refine (stylusref19_Place.calls _ _ l0 a2 true _ ?side1 ?side2 A15.out).mono ?_); (case side1 => repeat (first | exact (Kd.C_below HR0.out HB.out) | (with_reducible refine Kd.C_alloc ?_ _) | (with_reducible refine Kd.C_drewN ?_ _) | (with_reducible refine Kd.C_drew ?_))); (case side2 => exact HC0.out); rintro e w' ⟨rfl, ⟨nd, rfl⟩⟩) | (go_at_call 40; (with_reducible refine (stylusref19_Place.calls _ _ l0 a3 true _ ?side1 ?side2 A17.out).mono ?_); (case side1 => repeat (first | exact (Kd.C_below HR0.out (by repeat (first | (with_reducible first | exact HB.out | apply below_alloc | apply pw_below_drewN | apply below_drew1) | exact HB.out))) | (with_reducible refine Kd.C_alloc ?_ _) | (with_reducible refine Kd.C_drewN ?_ _) | (with_reducible refine Kd.C_drew ?_))); (case side2 => exact HC0.out); rintro e w' ⟨rfl, ⟨nd, rfl⟩⟩))
              go_meet
              case rel => exact ⟨_, (decide (a3 ≤ a2)), (by first | rfl | (simp; done) | (simp [*]; done)), H', ⟨by first | omega | exact Nat.le_refl _⟩, ⟨by repeat (first | (with_reducible first | exact HB.out | apply below_alloc | apply pw_below_drewN | apply below_drew1) | exact HB.out)⟩⟩
            · replace c18 := Bool.eq_false_iff.mpr c18
              subst c18
              have H1 : (stylusref19_Ratio.j0 k l0 a1 a2 a3 true) = some (r1, r2, r3) := by rw [if_neg (show ¬ (false = true) by decide)] at H; exact H
              clear H
              have H := H1
              clear H1
              have H' := Aside0.mk H
              clear H
              go_wp2_with (first | ((with_reducible refine gate_callee (f := 17) rfl ?_); refine goesL_ (some 16) rfl rfl Try.func17 (by kernel_rfl) rfl #[.slice A0 l0.length c0, .int .i64 a1] rfl (by (try simp only [List.map_toArray, List.map_cons, List.map_nil]); first | done | rfl | (simp only [List.length_drop, List.length_take]; rfl)) ?_; (with_reducible refine (stylusref19_Check.calls k _ _ l0 a1 t262 _ ?side1 ?side2 A6.out).mono ?_); (case side1 => repeat (first | exact (Kd.C_below HR0.out HB.out) | (with_reducible refine Kd.C_alloc ?_ _) | (with_reducible refine Kd.C_drewN ?_ _) | (with_reducible refine Kd.C_drew ?_))); (case side2 => exact HC0.out); rintro e w20 ⟨rfl, hb⟩; refine ⟨_, rfl, ?_⟩; have n0_ := Aside0.mk (below_step (by repeat (first | (with_reducible first | exact HB.out | apply below_alloc | apply pw_below_drewN | apply below_drew1) | exact HB.out)) hb); clear HB; have HB := n0_; clear n0_; (try clear hb); (try clear hb2); (try clear hk); (try clear hi)) | (go_at_call 40; (with_reducible refine (stylusref19_Place.calls _ _ l0 a2 true _ ?side1 ?side2 A15.out).mono ?_); (case side1 => repeat (first | exact (Kd.C_below HR0.out HB.out) | (with_reducible refine Kd.C_alloc ?_ _) | (with_reducible refine Kd.C_drewN ?_ _) | (with_reducible refine Kd.C_drew ?_))); (case side2 => exact HC0.out); rintro e w' ⟨rfl, ⟨nd, rfl⟩⟩) | (go_at_call 40; (with_reducible refine (stylusref19_Place.calls _ _ l0 a3 false _ ?side1 ?side2 A17.out).mono ?_); (case side1 => repeat (first | exact (Kd.C_below HR0.out (by repeat (first | (with_reducible first | exact HB.out | apply below_alloc | apply pw_below_drewN | apply below_drew1) | exact HB.out))) | (with_reducible refine Kd.C_alloc ?_ _) | (with_reducible refine Kd.C_drewN ?_ _) | (with_reducible refine Kd.C_drew ?_))); (case side2 => exact HC0.out); rintro e w' ⟨rfl, ⟨nd, rfl⟩⟩))
              go_meet
              case rel => exact ⟨_, (true), (by first | rfl | (simp; done) | (simp [*]; done)), H', ⟨by first | omega | exact Nat.le_refl _⟩, ⟨by repeat (first | (with_reducible first | exact HB.out | apply below_alloc | apply pw_below_drewN | apply below_drew1) | exact HB.out)⟩⟩
          · replace c16 := Bool.eq_false_iff.mpr c16
            subst c16
            have H1 : (stylusref19_Ratio.j0 k l0 a1 a2 a3 true) = some (r1, r2, r3) := by rw [if_neg (show ¬ (false = true) by decide)] at H; exact H
            clear H
            have H := H1
            clear H1
            have H' := Aside0.mk H
            clear H
            go_wp2_with (first | ((with_reducible refine gate_callee (f := 17) rfl ?_); refine goesL_ (some 16) rfl rfl Try.func17 (by kernel_rfl) rfl #[.slice A0 l0.length c0, .int .i64 a1] rfl (by (try simp only [List.map_toArray, List.map_cons, List.map_nil]); first | done | rfl | (simp only [List.length_drop, List.length_take]; rfl)) ?_; (with_reducible refine (stylusref19_Check.calls k _ _ l0 a1 t262 _ ?side1 ?side2 A6.out).mono ?_); (case side1 => repeat (first | exact (Kd.C_below HR0.out HB.out) | (with_reducible refine Kd.C_alloc ?_ _) | (with_reducible refine Kd.C_drewN ?_ _) | (with_reducible refine Kd.C_drew ?_))); (case side2 => exact HC0.out); rintro e w21 ⟨rfl, hb⟩; refine ⟨_, rfl, ?_⟩; have n0_ := Aside0.mk (below_step (by repeat (first | (with_reducible first | exact HB.out | apply below_alloc | apply pw_below_drewN | apply below_drew1) | exact HB.out)) hb); clear HB; have HB := n0_; clear n0_; (try clear hb); (try clear hb2); (try clear hk); (try clear hi)) | (go_at_call 40; (with_reducible refine (stylusref19_Place.calls _ _ l0 a2 false _ ?side1 ?side2 A15.out).mono ?_); (case side1 => repeat (first | exact (Kd.C_below HR0.out HB.out) | (with_reducible refine Kd.C_alloc ?_ _) | (with_reducible refine Kd.C_drewN ?_ _) | (with_reducible refine Kd.C_drew ?_))); (case side2 => exact HC0.out); rintro e w' ⟨rfl, ⟨nd, rfl⟩⟩))
            go_meet
            case rel => exact ⟨_, (true), (by first | rfl | (simp; done) | (simp [*]; done)), H', ⟨by first | omega | exact Nat.le_refl _⟩, ⟨by repeat (first | (with_reducible first | exact HB.out | apply below_alloc | apply pw_below_drewN | apply below_drew1) | exact HB.out)⟩⟩
    · rw [if_neg c7] at H
      have c7b0 : (t262 == 0) = false := beq_eq_false_iff_ne.mpr c7
      have c7b1 : (t262 != 0) = true := bne_iff_ne.mpr c7
      (first | rw [c7b0] | (simp only [i64_w, i32_w]; rw [c7b0]) | skip)
      have H' := Aside0.mk H
      clear H
      go_wp2_with (first | ((with_reducible refine gate_callee (f := 17) rfl ?_); refine goesL_ (some 16) rfl rfl Try.func17 (by kernel_rfl) rfl #[.slice A0 l0.length c0, .int .i64 a1] rfl (by (try simp only [List.map_toArray, List.map_cons, List.map_nil]); first | done | rfl | (simp only [List.length_drop, List.length_take]; rfl)) ?_; (with_reducible refine (stylusref19_Check.calls k _ _ l0 a1 t262 _ ?side1 ?side2 A6.out).mono ?_); (case side1 => repeat (first | exact (Kd.C_below HR0.out HB.out) | (with_reducible refine Kd.C_alloc ?_ _) | (with_reducible refine Kd.C_drewN ?_ _) | (with_reducible refine Kd.C_drew ?_))); (case side2 => exact HC0.out); rintro e w22 ⟨rfl, hb⟩; refine ⟨_, rfl, ?_⟩; have n0_ := Aside0.mk (below_step (by repeat (first | (with_reducible first | exact HB.out | apply below_alloc | apply pw_below_drewN | apply below_drew1) | exact HB.out)) hb); clear HB; have HB := n0_; clear n0_; (try clear hb); (try clear hb2); (try clear hk); (try clear hi)))
      go_meet
      case rel => exact ⟨_, (true), (by first | rfl | (simp; done) | (simp [*]; done)), H', ⟨by first | omega | exact Nat.le_refl _⟩, ⟨by repeat (first | (with_reducible first | exact HB.out | apply below_alloc | apply pw_below_drewN | apply below_drew1) | exact HB.out)⟩⟩
  case rest =>
    clear HC5
    try clear c1
    try clear c2
    try clear p2
    try clear c7
    try clear c7b0
    try clear c7b1
    try clear c8
    try clear c8b0
    try clear c8b1
    try clear c10
    try clear c13
    try clear c13b0
    try clear c13b1
    try clear c16
    try clear c17
    try clear c18
    try clear c20
    obtain ⟨kq, x44_4, rfl, HA, HJ4, HB⟩ := hcut
    cases kq with
    | zero => exact absurd HA.out (by simp [stylusref19_Ratio.j0])
    | succ kj4 =>
      have H := HA.out
      clear HA
      simp only [stylusref19_Ratio.j0] at H
      by_cases c23 : x44_4 = true
      · subst c23
        have H1 : (some (0, 0, 1)) = some (r1, r2, r3) := by rw [if_pos rfl] at H; exact H
        clear H
        have H := H1
        clear H1
        simp only [Option.some.injEq, Prod.mk.injEq] at H
        obtain ⟨rfl, rfl, rfl⟩ := H
        go_wp2
        go_ret3
        exact ⟨by first | rfl | (simp [errW_none, errW_some] <;> rfl) | (simp [*, errW_none, errW_some] <;> rfl), by repeat (first | (with_reducible first | exact HB.out | apply below_alloc | apply pw_below_drewN | apply below_drew1) | exact HB.out)⟩
      · replace c23 := Bool.eq_false_iff.mpr c23
        subst c23
        have H1 : ((stylusref19_Line.f kj4 l0 a2 a3).bind fun bt266 => ((stylusref19_Rate.f kj4 l0 a1 a2 a3).bind fun t269 => (some (bt266.1, t269, 0)))) = some (r1, r2, r3) := by rw [if_neg (show ¬ (false = true) by decide)] at H; exact H
        clear H
        have H := H1
        clear H1
        replace H := Option.bind_eq_some_iff.mp H
        obtain ⟨⟨t266, t267, t268⟩, A240, H⟩ := H
        replace H : ((stylusref19_Rate.f kj4 l0 a1 a2 a3).bind fun t269 => (some (t266, t269, 0))) = some (r1, r2, r3) := H
        have A24 := Aside0.mk A240
        clear A240
        replace H := Option.bind_eq_some_iff.mp H
        obtain ⟨t269, A250, H⟩ := H
        replace H : (some (t266, t269, 0)) = some (r1, r2, r3) := H
        have A25 := Aside0.mk A250
        clear A250
        simp only [Option.some.injEq, Prod.mk.injEq] at H
        obtain ⟨rfl, rfl, rfl⟩ := H
        go_wp2_with (first | ((with_reducible refine gate_callee (f := 55) rfl ?_); refine goesL_ (some 49) rfl rfl Try.func55 (by kernel_rfl) rfl #[.slice A0 l0.length c0, .int .i64 a2, .int .i64 a3] rfl (by (try simp only [List.map_toArray, List.map_cons, List.map_nil]); first | done | rfl | (simp only [List.length_drop, List.length_take]; rfl)) ?_; (with_reducible refine (stylusref19_Line.calls kj4 _ _ l0 a2 a3 t266 t267 t268 _ ?side1 ?side2 A24.out).mono ?_); (case side1 => repeat (first | exact (Kd.C_below HR0.out HB.out) | (with_reducible refine Kd.C_alloc ?_ _) | (with_reducible refine Kd.C_drewN ?_ _) | (with_reducible refine Kd.C_drew ?_))); (case side2 => exact HC0.out); rintro e w' ⟨rfl, ⟨nd, rfl⟩⟩; refine ⟨_, rfl, ?_⟩) | ((with_reducible refine gate_callee (f := 56) rfl ?_); refine goesL_ (some 58) rfl rfl Try.func56 (by kernel_rfl) rfl #[.slice A0 l0.length c0, .int .i64 a1, .int .i64 a2, .int .i64 a3] rfl (by (try simp only [List.map_toArray, List.map_cons, List.map_nil]); first | done | rfl | (simp only [List.length_drop, List.length_take]; rfl)) ?_; (with_reducible refine (stylusref19_Rate.calls kj4 _ _ l0 a1 a2 a3 t269 _ ?side1 ?side2 A25.out).mono ?_); (case side1 => repeat (first | exact (Kd.C_below HR0.out (by repeat (first | (with_reducible first | exact HB.out | apply below_alloc | apply pw_below_drewN | apply below_drew1) | exact HB.out))) | (with_reducible refine Kd.C_alloc ?_ _) | (with_reducible refine Kd.C_drewN ?_ _) | (with_reducible refine Kd.C_drew ?_))); (case side2 => exact HC0.out); rintro e w26 ⟨rfl, hb⟩; refine ⟨_, rfl, ?_⟩; have n0_ := Aside0.mk (below_step (by repeat (first | (with_reducible first | exact HB.out | apply below_alloc | apply pw_below_drewN | apply below_drew1) | exact HB.out)) hb); clear HB; have HB := n0_; clear n0_; (try clear hb); (try clear hb2); (try clear hk); (try clear hi)))
        go_ret3
        exact ⟨by first | rfl | (simp [errW_none, errW_some] <;> rfl) | (simp [*, errW_none, errW_some] <;> rfl), by repeat (first | (with_reducible first | exact HB.out | apply below_alloc | apply pw_below_drewN | apply below_drew1) | exact HB.out)⟩

end Go.Proofs.Ytbddfnmhhmkfkaa.Pr
/- Walks of the Go functions of this seat, and the Lean functions that they come to: written by a program (mkprint.py over the kit's print). -/
namespace Go.Proofs.Ytbddfnmhhmkfkaa.Pr
open Go.RowKit Go.Proofs.YtbddfnmhhmkfkaaW.PrintWords Go.Proofs.YtbddfnmhhmkfkaaW.PrintLast Go.Proofs.YtbddfnmhhmkfkaaW.PrintMore
attribute [local go_sem] max2_int min2_int max_two min_two max_three min_three max_four min_four   -- for this text's walks alone
set_option linter.unusedVariables false
set_option linter.unusedSimpArgs false

/-! ### stylusref19_Legal: function 22 -/
def stylusref19_Legal.l0 : Nat → List (S43) → List Int → Int → Int → Option (Bool)
  | 0, _, _, _, _ => none
  | k + 1, x0, x1, x5, x6 => if x6 < (x1.length : Int) then (if 0 ≤ x6 then (if (rd x1 x6) ≤ x5 then (some false) else ((stylusref19_Place.f x0 (rd x1 x6)).bind fun t272 => (if t272 = true then ((stylusref19_Hyphen.f x0 x5).bind fun t273 => (if t273 = true then ((stylusref19_Hyphen.f x0 (rd x1 x6)).bind fun t275 => (if t275 = true then (some false) else (stylusref19_Legal.l0 k x0 x1 (rd x1 x6) (wrap64 (x6 + 1))))) else (stylusref19_Legal.l0 k x0 x1 (rd x1 x6) (wrap64 (x6 + 1))))) else (some false)))) else (none)) else (if (x1.length : Int) > 0 then (some (x5 == (x0.length : Int))) else (some false))
def stylusref19_Legal.f (k : Nat) (l0 : List (S43)) (l1 : List Int) : Option (Bool) := stylusref19_Legal.l0 k l0 l1 (-1) 0
theorem stylusref19_Legal.mono_l : ∀ k, (∀ y0 y1 y2 y3, LeO (stylusref19_Legal.l0 k y0 y1 y2 y3) (stylusref19_Legal.l0 (k + 1) y0 y1 y2 y3))
  | 0 => fun _ _ _ _ r h => by simp [stylusref19_Legal.l0] at h
  | k + 1 => by
    have ih0 := stylusref19_Legal.mono_l k
    · intro y0 y1 y2 y3
      unfold stylusref19_Legal.l0
      repeat' first
      | (with_reducible exact ih0 _ _ _ _)
      | (with_reducible exact LeO.refl _)
      | (with_reducible exact LeO.none _)
      | (with_reducible refine LeO.ite ?_ ?_)
      | (with_reducible refine LeO.bind ?_ (fun _ => ?_))
      | exact ih0 _ _ _ _
      | exact LeO.none _
      | refine LeO.ite ?_ ?_
      | refine LeO.bind ?_ (fun _ => ?_)
theorem stylusref19_Legal.mono : ∀ a0 a1 k, LeO (stylusref19_Legal.f k a0 a1) (stylusref19_Legal.f (k + 1) a0 a1) := by
  intro a0 a1 k
  have ih0 := stylusref19_Legal.mono_l k
  unfold stylusref19_Legal.f
  repeat' first
      | (with_reducible exact ih0 _ _ _ _)
      | (with_reducible exact LeO.refl _)
      | (with_reducible exact LeO.none _)
      | (with_reducible refine LeO.ite ?_ ?_)
      | (with_reducible refine LeO.bind ?_ (fun _ => ?_))
      | exact ih0 _ _ _ _
      | exact LeO.none _
      | refine LeO.ite ?_ ?_
      | refine LeO.bind ?_ (fun _ => ?_)
set_option maxHeartbeats 8000000 in
set_option maxRecDepth 100000 in
theorem stylusref19_Legal.calls (k : Nat) (A0 : Option Addr) (c0 : Nat) (l0 : List (S43)) (A1 : Option Addr) (c1 : Nat) (l1 : List Int) (r : Bool) (w : World) (hr0 : Kd.C k43 w A0 l0.length l0) (hc0 : l0.length ≤ c0) (hr1 : Kd.C (Kd.int .i64) w A1 l1.length l1) (hc1 : l1.length ≤ c1) (h : stylusref19_Legal.f k l0 l1 = some r) :
    Calls Try.prog 22 #[.slice A0 l0.length c0, .slice A1 l1.length c1] w fun e w' => e = .returned (.bool r) ∧ Drawn0 w w' := by
  have HR0 := Aside0.mk hr0
  have HC0 := Aside0.mk hc0
  clear hr0 hc0
  have HR1 := Aside0.mk hr1
  have HC1 := Aside0.mk hc1
  clear hr1 hc1
  have H : (stylusref19_Legal.l0 k l0 l1 (-1) 0) = some r := h
  clear h
  have H' := Aside0.mk H
  clear H
  go_enter Try.func22, Try.ntmps22
  go_wp2
  go_loopg [5, 6] k (fun kq v5 v6 w' => ∃ (x5_1 : Int) (x6_1 : Int), v5 = .int .i64 x5_1 ∧ v6 = .int .i64 x6_1 ∧ Aside0 (stylusref19_Legal.l0 kq l0 l1 x5_1 x6_1 = some r) ∧ Aside0 (kq ≤ k) ∧ Drawn0 w w')
  case atStart => exact ⟨((-1)), (0), (by first | rfl | (simp; done) | (simp [*]; done)), (by first | rfl | (simp; done) | (simp [*]; done)), H', ⟨Nat.le_refl _⟩, by repeat (first | exact Drawn0.refl _ | apply Drawn0.step)⟩
  case round =>
    clear H'
    try clear c1
    try clear c2
    try clear p2
    obtain ⟨x5_1, x6_1, rfl, rfl, HA, HK1, ⟨m1, rfl⟩⟩ := hrel
    cases gk with
    | zero => exact absurd HA.out (by simp [stylusref19_Legal.l0])
    | succ k1 =>
      have H := HA.out
      clear HA
      simp only [stylusref19_Legal.l0] at H
      by_cases c3 : x6_1 < (l1.length : Int)
      · rw [if_pos c3] at H
        have c3b0 : decide (x6_1 < (l1.length : Int)) = true := decide_eq_true c3
        clear c3
        by_cases c4 : 0 ≤ x6_1
        · rw [if_pos c4] at H
          have c4b0 : decide (0 ≤ x6_1) = true := decide_eq_true c4
          clear c4
          by_cases c5 : (rd l1 x6_1) ≤ x5_1
          · rw [if_pos c5] at H
            have c5b0 : decide ((rd l1 x6_1) ≤ x5_1) = true := decide_eq_true c5
            clear c5
            obtain rfl := Option.some.inj H
            have p270 : 0 ≤ (x6_1 : Int) := of_decide_eq_true (by first | (with_reducible assumption) | assumption)
            have q270 : x6_1 < (l1.length : Int) := of_decide_eq_true (by first | (with_reducible assumption) | assumption)
            obtain ⟨ad270, e270, hx270_0⟩ := Kd.at_int HR1.out x6_1 p270 q270
            cases e270
            replace p270 := eq_true p270
            replace q270 := eq_true q270
            go_wp2
            go_ret
            exact ⟨by first | rfl | (simp; done) | (simp [*]; done), by repeat (first | exact Drawn0.refl _ | apply Drawn0.step)⟩
          · rw [if_neg c5] at H
            have c5b0 : decide ((rd l1 x6_1) ≤ x5_1) = false := decide_eq_false c5
            clear c5
            replace H := Option.bind_eq_some_iff.mp H
            obtain ⟨t272, A60, H⟩ := H
            replace H : (if t272 = true then ((stylusref19_Hyphen.f l0 x5_1).bind fun t273 => (if t273 = true then ((stylusref19_Hyphen.f l0 (rd l1 x6_1)).bind fun t275 => (if t275 = true then (some false) else (stylusref19_Legal.l0 k1 l0 l1 (rd l1 x6_1) (wrap64 (x6_1 + 1))))) else (stylusref19_Legal.l0 k1 l0 l1 (rd l1 x6_1) (wrap64 (x6_1 + 1))))) else (some false)) = some r := H
            have A6 := Aside0.mk A60
            clear A60
            by_cases c7 : t272 = true
            · subst c7
              have H1 : ((stylusref19_Hyphen.f l0 x5_1).bind fun t273 => (if t273 = true then ((stylusref19_Hyphen.f l0 (rd l1 x6_1)).bind fun t275 => (if t275 = true then (some false) else (stylusref19_Legal.l0 k1 l0 l1 (rd l1 x6_1) (wrap64 (x6_1 + 1))))) else (stylusref19_Legal.l0 k1 l0 l1 (rd l1 x6_1) (wrap64 (x6_1 + 1))))) = some r := by rw [if_pos rfl] at H; exact H
              clear H
              have H := H1
              clear H1
              replace H := Option.bind_eq_some_iff.mp H
              obtain ⟨t273, A80, H⟩ := H
              replace H : (if t273 = true then ((stylusref19_Hyphen.f l0 (rd l1 x6_1)).bind fun t275 => (if t275 = true then (some false) else (stylusref19_Legal.l0 k1 l0 l1 (rd l1 x6_1) (wrap64 (x6_1 + 1))))) else (stylusref19_Legal.l0 k1 l0 l1 (rd l1 x6_1) (wrap64 (x6_1 + 1)))) = some r := H
              have A8 := Aside0.mk A80
              clear A80
              by_cases c9 : t273 = true
              · subst c9
                have H1 : ((stylusref19_Hyphen.f l0 (rd l1 x6_1)).bind fun t275 => (if t275 = true then (some false) else (stylusref19_Legal.l0 k1 l0 l1 (rd l1 x6_1) (wrap64 (x6_1 + 1))))) = some r := by rw [if_pos rfl] at H; exact H
                clear H
                have H := H1
                clear H1
                replace H := Option.bind_eq_some_iff.mp H
                obtain ⟨t275, A100, H⟩ := H
                replace H : (if t275 = true then (some false) else (stylusref19_Legal.l0 k1 l0 l1 (rd l1 x6_1) (wrap64 (x6_1 + 1)))) = some r := H
                have A10 := Aside0.mk A100
                clear A100
                by_cases c11 : t275 = true
                · subst c11
                  have H1 : (some false) = some r := by rw [if_pos rfl] at H; exact H
                  clear H
                  have H := H1
                  clear H1
                  obtain rfl := Option.some.inj H
                  have p270 : 0 ≤ (x6_1 : Int) := of_decide_eq_true (by first | (with_reducible assumption) | assumption)
                  have q270 : x6_1 < (l1.length : Int) := of_decide_eq_true (by first | (with_reducible assumption) | assumption)
                  obtain ⟨ad270, e270, hx270_0⟩ := Kd.at_int HR1.out x6_1 p270 q270
                  cases e270
                  replace p270 := eq_true p270
                  replace q270 := eq_true q270
                  have p271 : 0 ≤ (x6_1 : Int) := of_decide_eq_true (by first | (with_reducible assumption) | assumption)
                  have q271 : x6_1 < (l1.length : Int) := of_decide_eq_true (by first | (with_reducible assumption) | assumption)
                  obtain ⟨ad271, e271, hx271_0⟩ := Kd.at_int HR1.out x6_1 p271 q271
                  obtain rfl : ad270 = ad271 := (by injection e271)
                  replace p271 := eq_true p271
                  replace q271 := eq_true q271
                  go_wp2_with (first | (go_at_call 40; (with_reducible refine (stylusref19_Place.calls _ _ l0 (rd l1 x6_1) true _ ?side1 ?side2 A6.out).mono ?_); (case side1 => repeat (first | exact HR0.out | (with_reducible refine Kd.C_alloc ?_ _) | (with_reducible refine Kd.C_drewN ?_ _) | (with_reducible refine Kd.C_drew ?_))); (case side2 => exact HC0.out); rintro e w' ⟨rfl, ⟨nd, rfl⟩⟩) | (go_at_call 57; (with_reducible refine (stylusref19_Hyphen.calls _ _ l0 x5_1 true _ ?side1 ?side2 A8.out).mono ?_); (case side1 => repeat (first | exact HR0.out | (with_reducible refine Kd.C_alloc ?_ _) | (with_reducible refine Kd.C_drewN ?_ _) | (with_reducible refine Kd.C_drew ?_))); (case side2 => exact HC0.out); rintro e w' ⟨rfl, ⟨nd, rfl⟩⟩; have p274 : 0 ≤ (x6_1 : Int) := of_decide_eq_true (by first | (with_reducible assumption) | assumption); have q274 : x6_1 < (l1.length : Int) := of_decide_eq_true (by first | (with_reducible assumption) | assumption); obtain ⟨ad274, e274, hx274_0⟩ := Kd.at_int HR1.out x6_1 p274 q274; obtain rfl : ad270 = ad274 := (by injection e274); replace p274 := eq_true p274; replace q274 := eq_true q274) | (go_at_call 57; (with_reducible refine (stylusref19_Hyphen.calls _ _ l0 (rd l1 x6_1) true _ ?side1 ?side2 A10.out).mono ?_); (case side1 => repeat (first | exact HR0.out | (with_reducible refine Kd.C_alloc ?_ _) | (with_reducible refine Kd.C_drewN ?_ _) | (with_reducible refine Kd.C_drew ?_))); (case side2 => exact HC0.out); rintro e w' ⟨rfl, ⟨nd, rfl⟩⟩))
                  go_ret
                  exact ⟨by first | rfl | (simp; done) | (simp [*]; done), by repeat (first | exact Drawn0.refl _ | apply Drawn0.step)⟩
                · replace c11 := Bool.eq_false_iff.mpr c11
                  subst c11
                  have H1 : (stylusref19_Legal.l0 k1 l0 l1 (rd l1 x6_1) (wrap64 (x6_1 + 1))) = some r := by rw [if_neg (show ¬ (false = true) by decide)] at H; exact H
                  clear H
                  have H := H1
                  clear H1
                  have H' := Aside0.mk H
                  clear H
                  have p270 : 0 ≤ (x6_1 : Int) := of_decide_eq_true (by first | (with_reducible assumption) | assumption)
                  have q270 : x6_1 < (l1.length : Int) := of_decide_eq_true (by first | (with_reducible assumption) | assumption)
                  obtain ⟨ad270, e270, hx270_0⟩ := Kd.at_int HR1.out x6_1 p270 q270
                  cases e270
                  replace p270 := eq_true p270
                  replace q270 := eq_true q270
                  have p271 : 0 ≤ (x6_1 : Int) := of_decide_eq_true (by first | (with_reducible assumption) | assumption)
                  have q271 : x6_1 < (l1.length : Int) := of_decide_eq_true (by first | (with_reducible assumption) | assumption)
                  obtain ⟨ad271, e271, hx271_0⟩ := Kd.at_int HR1.out x6_1 p271 q271
                  obtain rfl : ad270 = ad271 := (by injection e271)
                  replace p271 := eq_true p271
                  replace q271 := eq_true q271
                  go_wp2_with (first | (go_at_call 40; (with_reducible refine (stylusref19_Place.calls _ _ l0 (rd l1 x6_1) true _ ?side1 ?side2 A6.out).mono ?_); (case side1 => repeat (first | exact HR0.out | (with_reducible refine Kd.C_alloc ?_ _) | (with_reducible refine Kd.C_drewN ?_ _) | (with_reducible refine Kd.C_drew ?_))); (case side2 => exact HC0.out); rintro e w' ⟨rfl, ⟨nd, rfl⟩⟩) | (go_at_call 57; (with_reducible refine (stylusref19_Hyphen.calls _ _ l0 x5_1 true _ ?side1 ?side2 A8.out).mono ?_); (case side1 => repeat (first | exact HR0.out | (with_reducible refine Kd.C_alloc ?_ _) | (with_reducible refine Kd.C_drewN ?_ _) | (with_reducible refine Kd.C_drew ?_))); (case side2 => exact HC0.out); rintro e w' ⟨rfl, ⟨nd, rfl⟩⟩; have p274 : 0 ≤ (x6_1 : Int) := of_decide_eq_true (by first | (with_reducible assumption) | assumption); have q274 : x6_1 < (l1.length : Int) := of_decide_eq_true (by first | (with_reducible assumption) | assumption); obtain ⟨ad274, e274, hx274_0⟩ := Kd.at_int HR1.out x6_1 p274 q274; obtain rfl : ad270 = ad274 := (by injection e274); replace p274 := eq_true p274; replace q274 := eq_true q274) | (go_at_call 57; (with_reducible refine (stylusref19_Hyphen.calls _ _ l0 (rd l1 x6_1) false _ ?side1 ?side2 A10.out).mono ?_); (case side1 => repeat (first | exact HR0.out | (with_reducible refine Kd.C_alloc ?_ _) | (with_reducible refine Kd.C_drewN ?_ _) | (with_reducible refine Kd.C_drew ?_))); (case side2 => exact HC0.out); rintro e w' ⟨rfl, ⟨nd, rfl⟩⟩; have p276 : 0 ≤ (x6_1 : Int) := of_decide_eq_true (by first | (with_reducible assumption) | assumption); have q276 : x6_1 < (l1.length : Int) := of_decide_eq_true (by first | (with_reducible assumption) | assumption); obtain ⟨ad276, e276, hx276_0⟩ := Kd.at_int HR1.out x6_1 p276 q276; obtain rfl : ad270 = ad276 := (by injection e276); replace p276 := eq_true p276; replace q276 := eq_true q276))
                  go_roundg k1
                  case measure => have := HK1.out; omega
                  case rel => exact ⟨(rd l1 x6_1), (wrap64 (x6_1 + 1)), (by first | rfl | (simp; done) | (simp [*]; done)), (by first | rfl | (simp; done) | (simp [*]; done)), H', ⟨by have := HK1.out; omega⟩, by repeat (first | exact Drawn0.refl _ | apply Drawn0.step)⟩
              · replace c9 := Bool.eq_false_iff.mpr c9
                subst c9
                have H1 : (stylusref19_Legal.l0 k1 l0 l1 (rd l1 x6_1) (wrap64 (x6_1 + 1))) = some r := by rw [if_neg (show ¬ (false = true) by decide)] at H; exact H
                clear H
                have H := H1
                clear H1
                have H' := Aside0.mk H
                clear H
                have p270 : 0 ≤ (x6_1 : Int) := of_decide_eq_true (by first | (with_reducible assumption) | assumption)
                have q270 : x6_1 < (l1.length : Int) := of_decide_eq_true (by first | (with_reducible assumption) | assumption)
                obtain ⟨ad270, e270, hx270_0⟩ := Kd.at_int HR1.out x6_1 p270 q270
                cases e270
                replace p270 := eq_true p270
                replace q270 := eq_true q270
                have p271 : 0 ≤ (x6_1 : Int) := of_decide_eq_true (by first | (with_reducible assumption) | assumption)
                have q271 : x6_1 < (l1.length : Int) := of_decide_eq_true (by first | (with_reducible assumption) | assumption)
                obtain ⟨ad271, e271, hx271_0⟩ := Kd.at_int HR1.out x6_1 p271 q271
                obtain rfl : ad270 = ad271 := (by injection e271)
                replace p271 := eq_true p271
                replace q271 := eq_true q271
                go_wp2_with (first | (go_at_call 40; (with_reducible refine (stylusref19_Place.calls _ _ l0 (rd l1 x6_1) true _ ?side1 ?side2 A6.out).mono ?_); (case side1 => repeat (first | exact HR0.out | (with_reducible refine Kd.C_alloc ?_ _) | (with_reducible refine Kd.C_drewN ?_ _) | (with_reducible refine Kd.C_drew ?_))); (case side2 => exact HC0.out); rintro e w' ⟨rfl, ⟨nd, rfl⟩⟩) | (go_at_call 57; (with_reducible refine (stylusref19_Hyphen.calls _ _ l0 x5_1 false _ ?side1 ?side2 A8.out).mono ?_); (case side1 => repeat (first | exact HR0.out | (with_reducible refine Kd.C_alloc ?_ _) | (with_reducible refine Kd.C_drewN ?_ _) | (with_reducible refine Kd.C_drew ?_))); (case side2 => exact HC0.out); rintro e w' ⟨rfl, ⟨nd, rfl⟩⟩; have p277 : 0 ≤ (x6_1 : Int) := of_decide_eq_true (by first | (with_reducible assumption) | assumption); have q277 : x6_1 < (l1.length : Int) := of_decide_eq_true (by first | (with_reducible assumption) | assumption); obtain ⟨ad277, e277, hx277_0⟩ := Kd.at_int HR1.out x6_1 p277 q277; obtain rfl : ad270 = ad277 := (by injection e277); replace p277 := eq_true p277; replace q277 := eq_true q277))
                go_roundg k1
                case measure => have := HK1.out; omega
                case rel => exact ⟨(rd l1 x6_1), (wrap64 (x6_1 + 1)), (by first | rfl | (simp; done) | (simp [*]; done)), (by first | rfl | (simp; done) | (simp [*]; done)), H', ⟨by have := HK1.out; omega⟩, by repeat (first | exact Drawn0.refl _ | apply Drawn0.step)⟩
            · replace c7 := Bool.eq_false_iff.mpr c7
              subst c7
              have H1 : (some false) = some r := by rw [if_neg (show ¬ (false = true) by decide)] at H; exact H
              clear H
              have H := H1
              clear H1
              obtain rfl := Option.some.inj H
              have p270 : 0 ≤ (x6_1 : Int) := of_decide_eq_true (by first | (with_reducible assumption) | assumption)
              have q270 : x6_1 < (l1.length : Int) := of_decide_eq_true (by first | (with_reducible assumption) | assumption)
              obtain ⟨ad270, e270, hx270_0⟩ := Kd.at_int HR1.out x6_1 p270 q270
              cases e270
              replace p270 := eq_true p270
              replace q270 := eq_true q270
              have p271 : 0 ≤ (x6_1 : Int) := of_decide_eq_true (by first | (with_reducible assumption) | assumption)
              have q271 : x6_1 < (l1.length : Int) := of_decide_eq_true (by first | (with_reducible assumption) | assumption)
              obtain ⟨ad271, e271, hx271_0⟩ := Kd.at_int HR1.out x6_1 p271 q271
              obtain rfl : ad270 = ad271 := (by injection e271)
              replace p271 := eq_true p271
              replace q271 := eq_true q271
              go_wp2_with (first | (go_at_call 40; (with_reducible refine (stylusref19_Place.calls _ _ l0 (rd l1 x6_1) false _ ?side1 ?side2 A6.out).mono ?_); (case side1 => repeat (first | exact HR0.out | (with_reducible refine Kd.C_alloc ?_ _) | (with_reducible refine Kd.C_drewN ?_ _) | (with_reducible refine Kd.C_drew ?_))); (case side2 => exact HC0.out); rintro e w' ⟨rfl, ⟨nd, rfl⟩⟩))
              go_ret
              exact ⟨by first | rfl | (simp; done) | (simp [*]; done), by repeat (first | exact Drawn0.refl _ | apply Drawn0.step)⟩
        · rw [if_neg c4] at H
          exact absurd H (by simp)
      · rw [if_neg c3] at H
        have c3b0 : decide (x6_1 < (l1.length : Int)) = false := decide_eq_false c3
        clear c3
        by_cases c12 : (l1.length : Int) > 0
        · rw [if_pos c12] at H
          have c12b0 : decide (0 < (l1.length : Int)) = true := decide_eq_true c12
          have c12b1 : decide (0 < l1.length) = true := decide_eq_true (by omega)
          clear c12
          obtain rfl := Option.some.inj H
          go_wp2
          go_ret
          exact ⟨by first | rfl | (simp; done) | (simp [*]; done), by repeat (first | exact Drawn0.refl _ | apply Drawn0.step)⟩
        · rw [if_neg c12] at H
          have c12b0 : decide (0 < (l1.length : Int)) = false := decide_eq_false c12
          have c12b1 : decide (0 < l1.length) = false := decide_eq_false (by omega)
          clear c12
          obtain rfl := Option.some.inj H
          go_wp2
          go_ret
          exact ⟨by first | rfl | (simp; done) | (simp [*]; done), by repeat (first | exact Drawn0.refl _ | apply Drawn0.step)⟩

end Go.Proofs.Ytbddfnmhhmkfkaa.Pr
/- One law for drawing regions in which every operation's value is the same in each order. -/
namespace Go.Det
open Go
set_option linter.unusedVariables false
variable {P : Program} {ops : Array Oper} {Q : Exit → Act → World → Prop} {S : World → Prop}

/-- no way out -/
def NoOut : Exit → Act → World → Prop := fun _ _ _ => False
theorem noOut_lets : ¬ LetsOut NoOut := fun ⟨_, _, h⟩ => h
theorem upon_imp {o : Oper} {a : Act} {K K' : Act → World → Prop} {r : Result Next} (h : ∀ a w, K a w → K' a w) (hh : o.upon P a K NoOut r) : o.upon P a K' Q r := by
  cases r with
  | ok n w' =>
    cases n <;> simp only [Oper.upon] at hh ⊢ <;>
      first
        | exact h _ _ hh
        | exact Calls.mono hh (fun e w'' he => by cases e <;> first | exact h _ _ he | exact he.elim | exact (noOut_lets he).elim)
        | exact Rows.mono hh (fun _ _ he => h _ _ he)
  | halt x w' => cases x <;> simp only [Oper.upon] at hh ⊢ <;> exact hh.elim
theorem put_inj {a b : Act} {dst : Option Tmp} {u v : Value} (hs : b.tmps.size = a.tmps.size) (h : a.put dst u = a.put dst v) : b.put dst u = b.put dst v := by
  cases dst with
  | none => rfl
  | some d =>
    by_cases hd : d < a.tmps.size
    · have h1 : (a.put (some d) u).tmps[d]? = (a.put (some d) v).tmps[d]? := by rw [h]
      simp only [Act.put, Array.getElem?_setIfInBounds, if_pos hd, if_true, Option.some.injEq] at h1
      rw [h1]
    · simp only [Act.put]
      rw [Array.setIfInBounds_eq_of_size_le (by rw [hs]; exact Nat.le_of_not_lt hd), Array.setIfInBounds_eq_of_size_le (by rw [hs]; exact Nat.le_of_not_lt hd)]
theorem upon_same {o : Oper} {x y : Act} {v : Value} {r : Result Next} (hs : y.tmps.size = x.tmps.size) (hh : o.upon P x (fun a' w' => a' = x.put o.dst v ∧ S w') NoOut r) :
    o.upon P y (fun a' w' => a' = y.put o.dst v ∧ S w') NoOut r := by
  cases r with
  | ok n w' =>
    cases n <;> simp only [Oper.upon] at hh ⊢ <;>
      first
        | exact ⟨put_inj hs hh.1, hh.2⟩
        | exact Calls.mono hh (fun e w'' he => by cases e <;> first | exact ⟨put_inj hs he.1, he.2⟩ | exact he.elim | exact (noOut_lets he).elim)
        | exact Rows.mono hh (fun _ _ he => ⟨put_inj hs he.1, he.2⟩)
        | skip
    rename_i d
    exfalso
    have := congrArg (fun a : Act => a.defers.length) hh.1
    cases hd : o.dst <;> simp [hd, Act.put] at this
  | halt x w' => cases x <;> simp only [Oper.upon] at hh ⊢ <;> exact hh.elim

/-- an operation's step at a frame: carried out, it yields 'v' from every world that meets S, and S holds behind it; or it is not wanted -/
def StepV (P : Program) (ops : Array Oper) (S : World → Prop) (a : Act) (o : Oper) (v : Value) : Prop :=
  (Region.wanted o (yielded ops a.tmps) = true ∧ ∀ w, S w → o.wp P a w (fun a' w' => a' = a.put o.dst v ∧ S w') NoOut) ∨
  (Region.wanted o (yielded ops a.tmps) = false ∧ v = undef)
/-- the operations one behind the other, in the text's order -/
def SeqL (P : Program) (ops : Array Oper) (S : World → Prop) (R : Act → Prop) : List Oper → Act → Prop
  | [], a => R a
  | o :: rest, a => ∃ v, StepV P ops S a o v ∧ SeqL P ops S R rest (a.put o.dst v)

/-- the check of a region: edges lead back; destinations are distinct; who reads a temporary that another one writes waits for it, or is waited for -/
def okAt (ops : Array Oper) (i : Nat) (o : Oper) : Bool :=
  (o.after.all fun e => decide (e.on < i)) &&
  ((List.range ops.size).all fun j => match ops[j]? with
    | none => true
    | some oj =>
      (match oj.dst with
        | none => true
        | some t => (j == i || o.dst != some t) &&
          (!(o.looksAt ops).contains t || (o.after.any fun e => Region.binds .any e && e.on == j) || (j != i && oj.after.any fun e => Region.binds .any e && e.on == i)))) &&
  (match o.op with | .select _ _ => false | _ => true)
def okOps (ops : Array Oper) : Bool := (List.range ops.size).all fun i => match ops[i]? with | none => true | some o => okAt ops i o

structure Ok (ops : Array Oper) : Prop where
  back : ∀ (i : Nat) (o : Oper), ops[i]? = some o → ∀ e ∈ o.after, e.on < i
  apart : ∀ (i : Nat) (o : Oper) (j : Nat) (oj : Oper) (t : Tmp), ops[i]? = some o → ops[j]? = some oj → oj.dst = some t → j ≠ i → o.dst ≠ some t
  reads : ∀ (i : Nat) (o : Oper) (j : Nat) (oj : Oper) (t : Tmp), ops[i]? = some o → ops[j]? = some oj → oj.dst = some t → t ∈ o.looksAt ops →
    (∃ e ∈ o.after, Region.binds .any e = true ∧ e.on = j) ∨ (j ≠ i ∧ ∃ e ∈ oj.after, Region.binds .any e = true ∧ e.on = i)
  plain : ∀ (i : Nat) (o : Oper), ops[i]? = some o → ∀ cs b, o.op ≠ .select cs b

theorem lt_of_some {i : Nat} {o : Oper} (h : ops[i]? = some o) : i < ops.size := (Array.getElem?_eq_some_iff.1 h).1
theorem okOps_spec (h : okOps ops = true) : Ok ops := by
  have hat : ∀ (i : Nat) (o : Oper), ops[i]? = some o → okAt ops i o = true := fun i o hi => by
    have := List.all_eq_true.1 h i (List.mem_range.2 (lt_of_some hi))
    simpa [hi] using this
  have pair : ∀ (i : Nat) (o : Oper) (j : Nat) (oj : Oper) (t : Tmp), ops[i]? = some o → ops[j]? = some oj → oj.dst = some t → ((j == i || o.dst != some t) &&
          (!(o.looksAt ops).contains t || (o.after.any fun e => Region.binds .any e && e.on == j) || (j != i && oj.after.any fun e => Region.binds .any e && e.on == i))) = true := fun i o j oj t hi hj hd => by
    have := hat i o hi
    simp only [okAt, Bool.and_eq_true] at this
    have h2 := List.all_eq_true.1 this.1.2 j (List.mem_range.2 (lt_of_some hj))
    simp only [hj, hd] at h2
    exact h2
  refine ⟨fun i o hi e he => ?_, fun i o j oj t hi hj hd hne => ?_, fun i o j oj t hi hj hd ht => ?_, fun i o hi cs b hs => ?_⟩
  · have := hat i o hi
    simp only [okAt, Bool.and_eq_true] at this
    have := (Array.all_eq_true_iff_forall_mem.1 this.1.1) e he
    simpa using this
  · have := pair i o j oj t hi hj hd
    simp only [Bool.and_eq_true, Bool.or_eq_true, beq_iff_eq, bne_iff_ne] at this
    rcases this.1 with h1 | h1
    · exact absurd h1 hne
    · exact h1
  · have := pair i o j oj t hi hj hd
    simp only [Bool.and_eq_true, Bool.or_eq_true, beq_iff_eq, bne_iff_ne, Bool.not_eq_true', Array.any_eq_true'] at this
    rcases this.2 with (h1 | h1) | ⟨h0, h1⟩
    · rw [List.contains_eq_mem] at h1
      simp [ht] at h1
    · obtain ⟨e, he, h2⟩ := h1
      exact .inl ⟨e, he, by simpa using h2⟩
    · obtain ⟨e, he, h2⟩ := h1
      exact .inr ⟨h0, e, he, by simpa using h2⟩
  · have := hat i o hi
    simp only [okAt, Bool.and_eq_true, hs] at this
    exact absurd this.2 (by simp)

/-- a frame: the base, with the values of the listed operations -/
def Fr (ops : Array Oper) (val : Nat → Value) (a : Act) (L : Nat → Bool) (x : Act) : Prop :=
  x.defers = a.defers ∧ x.tmps.size = a.tmps.size ∧ ∀ t, t < a.tmps.size →
    (∀ i o, ops[i]? = some o → L i = true → o.dst = some t → x.tmps[t]? = some (val i)) ∧
    ((∀ i o, ops[i]? = some o → L i = true → o.dst ≠ some t) → x.tmps[t]? = a.tmps[t]?)
theorem fr_start (val : Nat → Value) (a : Act) (L : Nat → Bool) (h : ∀ i, i < ops.size → L i = false) : Fr ops val a L a :=
  ⟨rfl, rfl, fun t ht => ⟨fun i o hi hl => (by rw [h i (lt_of_some hi)] at hl; exact absurd hl (by simp)), fun _ => rfl⟩⟩
theorem fr_congr {val val' : Nat → Value} {a x : Act} {L L' : Nat → Bool} (h : Fr ops val a L x) (hL : ∀ i, i < ops.size → L' i = L i) (hv : ∀ i, L i = true → val' i = val i) : Fr ops val' a L' x :=
  ⟨h.1, h.2.1, fun t ht => ⟨fun i o hi hl hd => by
      have hl' : L i = true := by rw [← hL i (lt_of_some hi)]; exact hl
      rw [hv i hl']; exact (h.2.2 t ht).1 i o hi hl' hd,
    fun hn => (h.2.2 t ht).2 fun i o hi hl => hn i o hi (by rw [hL i (lt_of_some hi)]; exact hl)⟩⟩
theorem fr_put (ok : Ok ops) {val : Nat → Value} {a x : Act} {L L' : Nat → Bool} {i : Nat} {o : Oper} (hi : ops[i]? = some o) (h : Fr ops val a L x)
    (hL : ∀ j, j < ops.size → L' j = (L j || j == i)) : Fr ops val a L' (x.put o.dst (val i)) := by
  obtain ⟨h1, h2, h3⟩ := h
  cases hd : o.dst with
  | none =>
    refine ⟨h1, h2, fun t ht => ⟨fun j oj hj hl hdj => ?_, fun hn => ?_⟩⟩
    · rw [hL j (lt_of_some hj)] at hl
      rcases Bool.or_eq_true .. ▸ hl with hl | hl
      · exact (h3 t ht).1 j oj hj hl hdj
      · have : j = i := by simpa using hl
        subst this
        rw [hi] at hj
        cases hj
        rw [hd] at hdj
        cases hdj
    · exact (h3 t ht).2 fun j oj hj hl => hn j oj hj (by rw [hL j (lt_of_some hj), hl]; rfl)
  | some d =>
    refine ⟨h1, by simp [Act.put, h2], fun t ht => ?_⟩
    by_cases htd : d = t
    · subst htd
      have hv : (x.put (some d) (val i)).tmps[d]? = some (val i) := by simp [Act.put, h2, ht]
      refine ⟨fun j oj hj hl hdj => ?_, fun hn => absurd hd (hn i o hi (by rw [hL i (lt_of_some hi)]; simp))⟩
      by_cases hji : j = i
      · subst hji; exact hv
      · exact absurd hd (ok.apart i o j oj d hi hj hdj hji)
    · have hv : (x.put (some d) (val i)).tmps[t]? = x.tmps[t]? := by simp [Act.put, Array.getElem?_setIfInBounds_ne htd]
      rw [hv]
      refine ⟨fun j oj hj hl hdj => ?_, fun hn => (h3 t ht).2 fun j oj hj hl => hn j oj hj (by rw [hL j (lt_of_some hj), hl]; rfl)⟩
      rw [hL j (lt_of_some hj)] at hl
      rcases Bool.or_eq_true .. ▸ hl with hl | hl
      · exact (h3 t ht).1 j oj hj hl hdj
      · have : j = i := by simpa using hl
        subst this
        rw [hi] at hj
        cases hj
        rw [hd] at hdj
        cases hdj
        exact absurd rfl htd
theorem fr_same {val : Nat → Value} {a x y : Act} {L L' : Nat → Bool} (hx : Fr ops val a L x) (hy : Fr ops val a L' y) (t : Tmp)
    (h : ∀ j oj, ops[j]? = some oj → oj.dst = some t → L j = L' j) : x.tmps[t]? = y.tmps[t]? := by
  by_cases ht : t < a.tmps.size
  · by_cases hex : ∃ j oj, ops[j]? = some oj ∧ L j = true ∧ oj.dst = some t
    · obtain ⟨j, oj, hj, hl, hd⟩ := hex
      rw [(hx.2.2 t ht).1 j oj hj hl hd, (hy.2.2 t ht).1 j oj hj (by rw [← h j oj hj hd]; exact hl) hd]
    · have hn : ∀ j oj, ops[j]? = some oj → L j = true → oj.dst ≠ some t := fun j oj hj hl hd => hex ⟨j, oj, hj, hl, hd⟩
      rw [(hx.2.2 t ht).2 hn, (hy.2.2 t ht).2 fun j oj hj hl hd => hn j oj hj (by rw [h j oj hj hd]; exact hl) hd]
  · rw [Array.getElem?_eq_none (by rw [hx.2.1]; exact Nat.le_of_not_lt ht), Array.getElem?_eq_none (by rw [hy.2.1]; exact Nat.le_of_not_lt ht)]
theorem fr_eq {val : Nat → Value} {a x y : Act} {L L' : Nat → Bool} (hx : Fr ops val a L x) (hy : Fr ops val a L' y) (h : ∀ j, j < ops.size → L j = L' j) : x = y := by
  have h1 : x.tmps = y.tmps := Array.ext_getElem? fun t => fr_same hx hy t fun j oj hj _ => h j (lt_of_some hj)
  have h2 : x.defers = y.defers := hx.1.trans hy.1.symm
  cases x; cases y; simp_all

theorem step_same (ok : Ok ops) {val : Nat → Value} {a x y : Act} {L L' : Nat → Bool} {i : Nat} {o : Oper} {v : Value} (hi : ops[i]? = some o) (hx : Fr ops val a L x) (hy : Fr ops val a L' y)
    (h : ∀ j oj t, ops[j]? = some oj → oj.dst = some t → t ∈ o.looksAt ops → L j = L' j) (hs : StepV P ops S x o v) : StepV P ops S y o v := by
  have hev : execOp y.eval o = execOp x.eval o := execOp_congr o (ok.plain i o hi) fun z hz => by
    cases z with
    | tmp t =>
      have := fr_same hx hy t fun j oj hj hd => h j oj t hj hd (List.mem_append_left _ (List.mem_filterMap.2 ⟨.tmp t, by simpa using hz, rfl⟩))
      simp [Act.eval, Array.getD_eq_getD_getElem?, this]
    | _ => rfl
  have hw : Region.wanted o (yielded ops y.tmps) = Region.wanted o (yielded ops x.tmps) := by
    unfold Region.wanted
    cases hg : o.guard with
    | none => rfl
    | some gw =>
      obtain ⟨g, want⟩ := gw
      have : yielded ops y.tmps g = yielded ops x.tmps g := by
        unfold yielded
        cases ht : (ops[g]?).bind (·.dst) with
        | none => rfl
        | some t =>
          have := fr_same hx hy t fun j oj hj hd => h j oj t hj hd (by simp [Oper.looksAt, hg, ht])
          simp [this]
      simp only [this]
  have hsz : y.tmps.size = x.tmps.size := by rw [hx.2.1, hy.2.1]
  rcases hs with ⟨h1, h2⟩ | h1
  · refine .inl ⟨by rw [hw]; exact h1, fun w hS => ?_⟩
    have := h2 w hS
    unfold Oper.wp at this ⊢
    rw [hev]
    exact upon_same hsz this
  · exact .inr (by rw [hw]; exact h1)

def cnt (L : Nat → Bool) : Nat → Nat
  | 0 => 0
  | k + 1 => cnt L k + (if L k = true then 0 else 1)
theorem cnt_zero (L : Nat → Bool) : ∀ n, cnt L n = 0 → ∀ i, i < n → L i = true
  | 0, _, i, hi => absurd hi (by omega)
  | n + 1, h, i, hi => by
    simp only [cnt] at h
    by_cases hin : i = n
    · subst hin
      by_cases hl : L i = true
      · exact hl
      · rw [if_neg hl] at h; omega
    · exact cnt_zero L n (by omega) i (by omega)
theorem cnt_set (L L' : Nat → Bool) (i : Nat) (hi : L i = false) (hL : ∀ j, L' j = (L j || j == i)) : ∀ n, (i < n → cnt L' n + 1 = cnt L n) ∧ (n ≤ i → cnt L' n = cnt L n)
  | 0 => ⟨fun h => absurd h (by omega), fun _ => rfl⟩
  | n + 1 => by
    obtain ⟨h1, h2⟩ := cnt_set L L' i hi hL n
    simp only [cnt, hL n]
    refine ⟨fun h => ?_, fun h => ?_⟩
    · by_cases hin : i = n
      · subst hin
        rw [h2 (by omega), hi]
        simp
      · have := h1 (by omega)
        simp only [show (n == i) = false by simpa using Ne.symm hin, Bool.or_false]
        omega
    · rw [h2 (by omega)]
      simp only [show (n == i) = false by simp; omega, Bool.or_false]

/-- who waits for whom: by a chain of edges -/
def waits (ops : Array Oper) : Nat → Nat → Nat → Bool
  | 0, _, _ => false
  | n + 1, j, i => match ops[j]? with
    | none => false
    | some o => o.after.any fun e => Region.binds .any e && (e.on == i || waits ops n e.on i)
def tailOk (ops : Array Oper) (k : Nat) : Bool := (List.range ops.size).all fun j => decide (j < k) || (List.range j).all fun i => waits ops ops.size j i
theorem waits_listed {listed : Array Bool} (hcl : ∀ (i : Nat) (o : Oper), ops[i]? = some o → listed.getD i false = true → ∀ e ∈ o.after, Region.binds .any e = true → listed.getD e.on false = true) :
    ∀ (n j i : Nat), (∀ (o : Oper), ops[j]? = some o → ∀ e ∈ o.after, Region.binds .any e = true → listed.getD e.on false = true) → waits ops n j i = true → listed.getD i false = true
  | 0, j, i, _, h => by simp [waits] at h
  | n + 1, j, i, hj, h => by
    simp only [waits] at h
    split at h
    · cases h
    · rename_i o ho
      obtain ⟨e, he, h2⟩ := Array.any_eq_true'.1 h
      simp only [Bool.and_eq_true, Bool.or_eq_true, beq_iff_eq] at h2
      have hl := hj o ho e he h2.1
      rcases h2.2 with h3 | h3
      · rw [← h3]; exact hl
      · exact waits_listed hcl n e.on i (fun o' ho' => hcl e.on o' ho' hl) h3
theorem tail_waits {k : Nat} (ht : tailOk ops k = true) {j i : Nat} (hj : j < ops.size) (hk : k ≤ j) (hi : i < j) : waits ops ops.size j i = true := by
  have := List.all_eq_true.1 ht j (List.mem_range.2 hj)
  simp only [Bool.or_eq_true, decide_eq_true_eq] at this
  rcases this with h | h
  · omega
  · exact List.all_eq_true.1 h i (List.mem_range.2 hi)
theorem getD_lt {listed : Array Bool} {i : Nat} (h : i < listed.size) (d : Bool) : listed.getD i d = listed.getD i false := by
  simp [Array.getD_eq_getD_getElem?, Array.getElem?_eq_getElem h]
theorem ready_iff {listed : Array Bool} (hsz : listed.size = ops.size) {i : Nat} {o : Oper} (ho : ops[i]? = some o) :
    i ∈ Region.ready .any ops listed ↔ listed.getD i false = false ∧ ∀ e ∈ o.after, Region.binds .any e = true → listed.getD e.on false = true := by
  have hi : i < ops.size := lt_of_some ho
  unfold Region.ready
  rw [List.mem_filter, ho, getD_lt (by omega)]
  simp only [List.mem_range, hi, true_and, Bool.and_eq_true, Bool.not_eq_true', Option.map_some, Option.getD_some]
  rw [Array.all_eq_true_iff_forall_mem]
  refine and_congr Iff.rfl (forall_congr' fun e => forall_congr' fun he => ?_)
  cases Region.binds .any e <;> simp
theorem ready_lt {listed : Array Bool} {i : Nat} (h : i ∈ Region.ready .any ops listed) : i < ops.size := by
  unfold Region.ready at h
  rw [List.mem_filter] at h
  exact List.mem_range.1 h.1
theorem least_ready (ok : Ok ops) {listed : Array Bool} (hsz : listed.size = ops.size) (hr : Region.ready .any ops listed = []) (i : Nat) (hi : i < ops.size) : listed.getD i false = true := by
  induction i using Nat.strongRecOn with
  | ind i ih =>
    cases hl : listed.getD i false with
    | true => rfl
    | false =>
      exfalso
      have ho : ops[i]? = some ops[i] := Array.getElem?_eq_getElem hi
      have hmem := (ready_iff hsz ho).2 ⟨hl, fun e he _ => by
        have hb := ok.back i _ ho e he
        exact ih e.on hb (by omega)⟩
      rw [hr] at hmem
      cases hmem
theorem set_getD {listed : Array Bool} {i : Nat} (hil : i < listed.size) (j : Nat) : (listed.setIfInBounds i true).getD j false = (listed.getD j false || j == i) := by
  simp only [Array.getD_eq_getD_getElem?, Array.getElem?_setIfInBounds]
  by_cases hij : i = j
  · subst hij; simp [hil]
  · simp [hij, Ne.symm hij]
theorem drop_cons {m : Nat} {o : Oper} (ho : ops[m]? = some o) : ops.toList.drop m = o :: ops.toList.drop (m + 1) := by
  have hm : m < ops.toList.length := by simpa using lt_of_some ho
  rw [List.drop_eq_getElem_cons hm]
  congr 1
  have h1 : ops.toList[m]? = some o := by simpa using ho
  rw [List.getElem?_eq_getElem hm] at h1
  exact Option.some.inj h1

theorem any_tail (ok : Ok ops) {k : Nat} (ht : tailOk ops k = true) : ∀ (fuel m : Nat) (listed : Array Bool) (a : Act) (w : World), listed.size = ops.size → (∀ i, i < ops.size → listed.getD i false = decide (i < m)) →
    k ≤ m → m ≤ ops.size → ops.size ≤ fuel + m → wpList P ops Q (ops.toList.drop m) a w → wpAny P .any ops Q fuel listed a w := by
  intro fuel
  induction fuel with
  | zero =>
    intro m listed a w hsz hL hk hm hf h
    obtain rfl : m = ops.size := by omega
    rw [List.drop_eq_nil_of_le (by simp)] at h
    refine ⟨?_, h⟩
    rw [List.eq_nil_iff_forall_not_mem]
    intro i hi
    have hi' := ready_lt hi
    have := ((ready_iff hsz (Array.getElem?_eq_getElem hi')).1 hi).1
    rw [hL i hi'] at this
    simp at this
    omega
  | succ fuel ih =>
    intro m listed a w hsz hL hk hm hf h
    refine ⟨fun hr => ?_, fun i hi => ?_⟩
    · have hms : m = ops.size := by
        rcases Nat.lt_or_ge m ops.size with h1 | h1
        · have := least_ready ok hsz hr m h1
          rw [hL m h1] at this
          simp at this
        · omega
      subst hms
      rw [List.drop_eq_nil_of_le (by simp)] at h
      exact h
    · have hi' := ready_lt hi
      obtain ⟨h1, h2⟩ := (ready_iff hsz (Array.getElem?_eq_getElem hi')).1 hi
      rw [hL i hi'] at h1
      have hmi : m ≤ i := by simpa using h1
      have him : i = m := by
        rcases Nat.lt_or_ge m i with h3 | h3
        · exfalso
          have hw := tail_waits ht hi' (by omega) h3
          have hcl : ∀ (j : Nat) (o : Oper), ops[j]? = some o → listed.getD j false = true → ∀ e ∈ o.after, Region.binds .any e = true → listed.getD e.on false = true := fun j o hj hl e he _ => by
            have hb := ok.back j o hj e he
            have hj' := lt_of_some hj
            rw [hL j hj'] at hl
            rw [hL e.on (by omega)]
            simp at hl ⊢
            omega
          have := waits_listed hcl ops.size i m (fun o ho e he hb => by
            rw [Array.getElem?_eq_getElem hi'] at ho
            cases ho
            exact h2 e he hb) hw
          rw [hL m (by omega)] at this
          simp at this
        · omega
      subst him
      have ho : ops[i]? = some ops[i] := Array.getElem?_eq_getElem hi'
      rw [drop_cons ho] at h
      have hnext : ∀ a w, wpList P ops Q (ops.toList.drop (i + 1)) a w → wpAny P .any ops Q fuel (listed.setIfInBounds i true) a w := fun a w h' =>
        ih (i + 1) _ a w (by simpa using hsz) (fun j hj => by
          rw [set_getD (by omega), hL j hj, Bool.eq_iff_iff]; simp; omega) (by omega) (by omega) (by omega) h'
      unfold wpOp
      rw [ho]
      simp only
      unfold wpList at h
      split
      · rename_i hw
        rw [if_pos hw] at h
        exact h.imp (Oper.wp_mono hnext) id
      · rename_i hw
        rw [if_neg hw] at h
        exact hnext _ _ h

theorem any_det (ok : Ok ops) {k : Nat} (hkn : k ≤ ops.size) (ht : tailOk ops k = true) {val : Nat → Value} {a0 : Act} (hsteps : ∀ i o, i < k → ops[i]? = some o → ∃ x, Fr ops val a0 (fun j => decide (j < i)) x ∧ StepV P ops S x o (val i))
    (hend : ∀ x, Fr ops val a0 (fun j => decide (j < k)) x → ∀ w, S w → wpList P ops Q (ops.toList.drop k) x w) : ∀ (fuel : Nat) (listed : Array Bool) (a : Act) (w : World), listed.size = ops.size →
    cnt (fun i => listed.getD i false) ops.size ≤ fuel → (∀ i o, ops[i]? = some o → listed.getD i false = true → ∀ e ∈ o.after, Region.binds .any e = true → listed.getD e.on false = true) →
    (∀ i, i < ops.size → listed.getD i false = true → i < k) →
    Fr ops val a0 (fun i => listed.getD i false) a → S w → wpAny P .any ops Q fuel listed a w := by
  intro fuel
  induction fuel with
  | zero =>
    intro listed a w hsz hc hcl hlk hf hS
    have hall := cnt_zero _ _ (Nat.le_zero.1 hc)
    have hks : k = ops.size := by
      rcases Nat.lt_or_ge k ops.size with h | h
      · have := hlk k h (hall k h); omega
      · omega
    refine any_tail ok ht 0 k listed a w hsz (fun i hi => by rw [hall i hi]; simp; omega) (Nat.le_refl _) hkn (by omega) (hend a (fr_congr hf (fun j hj => ?_) (fun _ _ => rfl)) w hS)
    rw [hall j hj]; simp; omega
  | succ fuel ih =>
    intro listed a w hsz hc hcl hlk hf hS
    by_cases hdone : ∀ i, i < k → listed.getD i false = true
    · have hL : ∀ i, i < ops.size → listed.getD i false = decide (i < k) := fun i hi => by
        by_cases hik : i < k
        · rw [hdone i hik]; simp [hik]
        · have : listed.getD i false ≠ true := fun h => hik (hlk i hi h)
          simp only [Bool.not_eq_true] at this
          rw [this]; simp [hik]
      have hcnt : ops.size ≤ cnt (fun i => listed.getD i false) ops.size + k := by
        have : ∀ n, n ≤ ops.size → n ≤ cnt (fun i => listed.getD i false) n + k := fun n => by
          induction n with
          | zero => intro _; omega
          | succ n ihn =>
            intro hn
            simp only [cnt]
            have := ihn (by omega)
            have hLn := hL n (by omega)
            by_cases hnk : n < k
            · split <;> omega
            · rw [if_neg (by rw [hLn]; simp [hnk])]
              omega
        exact this _ (Nat.le_refl _)
      exact any_tail ok ht (fuel + 1) k listed a w hsz hL (Nat.le_refl _) hkn (by omega) (hend a (fr_congr hf (fun j hj => (hL j hj).symm) (fun _ _ => rfl)) w hS)
    refine ⟨fun hr => absurd (fun i hi => least_ready ok hsz hr i (by omega)) hdone, fun i hi => ?_⟩
    have hin : i < ops.size := ready_lt hi
    have hil : i < listed.size := by omega
    obtain ⟨o, ho⟩ : ∃ o, ops[i]? = some o := ⟨_, Array.getElem?_eq_getElem hin⟩
    obtain ⟨hlf, hdeps⟩ := (ready_iff hsz ho).1 hi
    have hik : i < k := by
      rcases Nat.lt_or_ge i k with h | h
      · exact h
      · exfalso
        refine hdone fun j hj => ?_
        have hw := tail_waits ht hin h (show j < i by omega)
        exact waits_listed hcl ops.size i j (fun o' ho' e he hb => by
          rw [ho] at ho'
          cases ho'
          exact hdeps e he hb) hw
    have hset : ∀ j, (listed.setIfInBounds i true).getD j false = (listed.getD j false || j == i) := fun j => set_getD hil j
    obtain ⟨x, hfx, hsx⟩ := hsteps i o hik ho
    have hst : StepV P ops S a o (val i) := step_same ok ho hfx hf (fun j oj t hj hd ht => by
      rcases ok.reads i o j oj t ho hj hd ht with ⟨e, he, hb, rfl⟩ | ⟨hne, e, he, hb, hei⟩
      · rw [hdeps e he hb]
        simpa using ok.back i o ho e he
      · have hlt : i < j := hei ▸ ok.back j oj hj e he
        have : listed.getD j false = false := by
          cases hlj : listed.getD j false with
          | false => rfl
          | true =>
            have := hcl j oj hj hlj e he hb
            rw [hei, hlf] at this
            cases this
        rw [this]
        simp; omega) hsx
    have hnext : ∀ w', S w' → wpAny P .any ops Q fuel (listed.setIfInBounds i true) (a.put o.dst (val i)) w' := fun w' hS' => by
      refine ih _ _ _ (by simpa using hsz) ?_ ?_ ?_ ?_ hS'
      · have := (cnt_set (fun j => listed.getD j false) (fun j => (listed.setIfInBounds i true).getD j false) i hlf hset ops.size).1 hin
        omega
      · intro j oj hj hlj e he hb
        rw [hset] at hlj ⊢
        rcases Bool.or_eq_true .. ▸ hlj with h | h
        · rw [hcl j oj hj h e he hb]; rfl
        · have : j = i := by simpa using h
          subst this
          rw [ho] at hj
          cases hj
          rw [hdeps e he hb]; rfl
      · intro j hj hlj
        rw [hset] at hlj
        rcases Bool.or_eq_true .. ▸ hlj with h | h
        · exact hlk j hj h
        · have : j = i := by simpa using h
          omega
      · exact fr_put ok ho hf fun j _ => hset j
    unfold wpOp
    rw [ho]
    simp only
    rcases hst with ⟨hw, hrun⟩ | ⟨hw, hv⟩
    · rw [if_pos hw]
      refine .inl ?_
      have := hrun w hS
      unfold Oper.wp at this ⊢
      exact upon_imp (fun a' w' ⟨ha', hS'⟩ => ha' ▸ hnext w' hS') this
    · rw [if_neg (by rw [hw]; simp)]
      rw [← hv]
      exact hnext w hS

/-- one operation behind the other, each over every world that meets S -/
def SeqW (P : Program) (ops : Array Oper) (S : World → Prop) (d : List Deferred) (R : Array Value → Prop) : List Oper → Array Value → Prop
  | [], t => R t
  | o :: rest, t => ∃ t' : Array Value, (∀ w, S w → wpList P ops (fun e a' w' => e = .normal ∧ a' = { tmps := t', defers := d } ∧ S w') [o] { tmps := t, defers := d } w) ∧ SeqW P ops S d R rest t'
def putVal (dst : Option Tmp) (t : Array Value) : Value := match dst with | none => undef | some d => t.getD d undef
theorem put_putVal {t F : Array Value} {d : List Deferred} {dst : Option Tmp} {u : Value} (h : ({ tmps := t, defers := d } : Act).put dst u = { tmps := F, defers := d }) :
    ({ tmps := F, defers := d } : Act) = ({ tmps := t, defers := d } : Act).put dst (putVal dst F) := by
  cases dst with
  | none => exact h.symm
  | some x =>
    simp only [Act.put, Act.mk.injEq, and_true] at h ⊢
    subst h
    by_cases hd : x < t.size
    · simp [putVal, Array.getD_eq_getD_getElem?, hd]
    · have hd' : t.size ≤ x := Nat.le_of_not_lt hd
      rw [Array.setIfInBounds_eq_of_size_le hd', Array.setIfInBounds_eq_of_size_le hd']
theorem putVal_undef {t F : Array Value} {d : List Deferred} {dst : Option Tmp} (h : ({ tmps := t, defers := d } : Act).put dst undef = { tmps := F, defers := d }) : putVal dst F = undef := by
  cases dst with
  | none => rfl
  | some x =>
    simp only [Act.put, Act.mk.injEq, and_true] at h
    subst h
    simp only [putVal, Array.getD_eq_getD_getElem?, Array.getElem?_setIfInBounds]
    by_cases hd : x < t.size
    · simp [hd]
    · simp [hd]
theorem upon_some {o : Oper} {t F : Array Value} {d : List Deferred} {r : Result Next} (h : o.upon P { tmps := t, defers := d } (fun a' w' => a' = { tmps := F, defers := d } ∧ S w') NoOut r) :
    ({ tmps := F, defers := d } : Act) = ({ tmps := t, defers := d } : Act).put o.dst (putVal o.dst F) := by
  cases r with
  | ok n w' =>
    cases n <;> simp only [Oper.upon] at h <;>
      first
        | exact put_putVal h.1
        | (obtain ⟨e, w'', fr, he, _⟩ := h []
           cases e <;> first | exact put_putVal he.1 | exact he.elim | exact (noOut_lets he).elim)
        | (obtain ⟨v, w'', hv, _⟩ := h (Frame.enter P 0 #[] .normal) []
           exact put_putVal hv.1)
        | skip
    rename_i x
    exfalso
    have := congrArg (fun a : Act => a.defers.length) h.1
    cases hd : o.dst <;> simp [hd, Act.put] at this
  | halt x w' => cases x <;> simp only [Oper.upon] at h <;> exact h.elim
theorem wpList_one {o : Oper} {t F : Array Value} {d : List Deferred} {w : World} (h : wpList P ops (fun e a' w' => e = .normal ∧ a' = { tmps := F, defers := d } ∧ S w') [o] { tmps := t, defers := d } w) :
    (Region.wanted o (yielded ops t) = true ∧ o.wp P { tmps := t, defers := d } w (fun a' w' => a' = { tmps := F, defers := d } ∧ S w') NoOut) ∨
    (Region.wanted o (yielded ops t) = false ∧ ({ tmps := t, defers := d } : Act).put o.dst undef = { tmps := F, defers := d }) := by
  unfold wpList at h
  split at h
  · rename_i hw
    refine .inl ⟨hw, ?_⟩
    rcases h with h | h
    · unfold Oper.wp at h ⊢
      generalize (execOp ({ tmps := t, defers := d } : Act).eval o).run P w = r at *
      cases r with
      | ok n w' =>
        cases n <;> simp only [Oper.upon, wpList] at h ⊢ <;>
          first
            | exact h.2
            | exact Calls.mono h (fun e w'' he => by cases e <;> first | exact he.2 | exact absurd he.1 (by simp) | (obtain ⟨_, _, h1, _⟩ := he; exact absurd h1 (by simp)))
            | exact Rows.mono h (fun _ _ he => he.2)
      | halt x w' => cases x <;> simp only [Oper.upon] at h ⊢ <;> first | exact h.elim | exact absurd h.1 (by simp)
    · obtain ⟨_, _, _, h1, _⟩ := h
      exact absurd h1 (by simp)
  · rename_i hw
    simp only [wpList] at h
    exact .inr ⟨by simpa using hw, h.2.1⟩
theorem seqL_of_W {d : List Deferred} {R : Array Value → Prop} {w0 : World} (h0 : S w0) : ∀ (l : List Oper) (t : Array Value), SeqW P ops S d R l t → SeqL P ops S (fun a => ∃ t, a = { tmps := t, defers := d } ∧ R t) l { tmps := t, defers := d }
  | [], t, h => ⟨t, rfl, h⟩
  | o :: rest, t, h => by
    obtain ⟨F, hF, hr⟩ := h
    have hr' := seqL_of_W h0 rest F hr
    have h1 := wpList_one (hF w0 h0)
    cases hw : Region.wanted o (yielded ops t) with
    | true =>
      rw [hw] at h1
      rcases h1 with ⟨_, h1⟩ | ⟨h1, _⟩
      · have e := upon_some h1
        refine ⟨putVal o.dst F, .inl ⟨hw, fun w hS => ?_⟩, e ▸ hr'⟩
        rcases wpList_one (hF w hS) with ⟨_, h2⟩ | ⟨h2, _⟩
        · rw [e] at h2; exact h2
        · rw [hw] at h2; cases h2
      · cases h1
    | false =>
      rw [hw] at h1
      rcases h1 with ⟨h1, _⟩ | ⟨_, h1⟩
      · cases h1
      · exact ⟨undef, .inr ⟨hw, rfl⟩, h1 ▸ hr'⟩

theorem seqL_split : ∀ (l l' : List Oper) (R : Act → Prop) (a : Act), SeqL P ops S (fun x => SeqL P ops S R l' x) l a → SeqL P ops S R (l ++ l') a
  | [], l', R, a, h => h
  | o :: l, l', R, a, h => by
    obtain ⟨v, h1, h2⟩ := h
    exact ⟨v, h1, seqL_split l l' R _ h2⟩

/-- the first operations, in the text's order -/
theorem seq_split (ok : Ok ops) {a0 : Act} {R : Act → Prop} : ∀ (l : List Oper) (i : Nat) (val0 : Nat → Value) (a : Act), (∀ j o, l[j]? = some o → ops[i + j]? = some o) → Fr ops val0 a0 (fun j => decide (j < i)) a → SeqL P ops S R l a →
    ∃ val : Nat → Value, (∀ j, j < i → val j = val0 j) ∧ (∀ k o, i ≤ k → k < i + l.length → ops[k]? = some o → ∃ x, Fr ops val a0 (fun j => decide (j < k)) x ∧ StepV P ops S x o (val k)) ∧
      ∃ x, Fr ops val a0 (fun j => decide (j < i + l.length)) x ∧ R x
  | [], i, val0, a, hl, hf, h => ⟨val0, fun _ _ => rfl, fun k o hk ho => absurd ho (by simp; omega), a, hf, h⟩
  | o :: rest, i, val0, a, hl, hf, h => by
    obtain ⟨v, hs, hrest⟩ := h
    have hi : ops[i]? = some o := hl 0 o (by simp)
    let val1 : Nat → Value := fun j => if j = i then v else val0 j
    have hf1 : Fr ops val1 a0 (fun j => decide (j < i)) a := fr_congr hf (fun _ _ => rfl) (fun j hj => by
      have : j < i := by simpa using hj
      show (if j = i then v else val0 j) = _
      rw [if_neg (by omega)])
    have hv1 : val1 i = v := if_pos rfl
    have hf2 : Fr ops val1 a0 (fun j => decide (j < i + 1)) (a.put o.dst v) := by
      rw [← hv1]
      exact fr_put ok hi hf1 fun j _ => by
        rw [Bool.eq_iff_iff]; simp; omega
    obtain ⟨val, hv, hsteps, hend⟩ := seq_split ok rest (i + 1) val1 (a.put o.dst v) (fun j o' hj => by
      have := hl (j + 1) o' (by simpa using hj)
      rw [show i + 1 + j = i + (j + 1) by omega]; exact this) hf2 hrest
    refine ⟨val, fun j hj => ?_, fun k ok' hk hkl hko => ?_, ?_⟩
    · rw [hv j (by omega)]
      show (if j = i then v else val0 j) = _
      rw [if_neg (by omega)]
    · by_cases hki : k = i
      · subst hki
        rw [hi] at hko
        cases hko
        refine ⟨a, fr_congr hf1 (fun _ _ => rfl) (fun j hj => hv j (Nat.lt_succ_of_lt (by simpa using hj))), ?_⟩
        rw [hv k (by omega), hv1]
        exact hs
      · exact hsteps k ok' (by omega) (by simp only [List.length_cons] at hkl; omega) hko
    · rw [show i + (o :: rest).length = i + 1 + rest.length by simp only [List.length_cons]; omega]
      exact hend

theorem rep_false (n i : Nat) : (Array.replicate n false).getD i false = false := by
  rw [Array.getD_eq_getD_getElem?, Array.getElem?_replicate]
  split <;> rfl
/-- THE LAW: a drawing region whose first k operations have one value each, and whose other ones wait for all ahead, comes to what the text's order comes to. -/
theorem region_det {id : Nat} {l : List Oper} {t : Array Value} {d : List Deferred} {w : World} (S : World → Prop) (k : Nat) (hm : P.follows .mixedOrders = true) (hok : okOps l.toArray = true) (ht : tailOk l.toArray k = true) (hk : k ≤ l.length) (hS : S w.drew)
    (h : SeqW P l.toArray S d (fun t' => ∀ w', S w' → wpList P l.toArray Q (l.drop k) { tmps := t', defers := d } w') (l.take k) t) : (Code.region id l.toArray true).wp P Q { tmps := t, defers := d } w := by
  have ok := okOps_spec hok
  have hlen : l.toArray.size = l.length := by simp
  refine wp_region_any hm ?_
  obtain ⟨val, _, hsteps, x, hfx, t', rfl, hR⟩ := seq_split ok (l.take k) 0 (fun _ => undef) { tmps := t, defers := d } (fun j o hj => by
    rw [List.getElem?_take] at hj
    split at hj
    · simpa using hj
    · cases hj) (fr_start _ _ _ fun i _ => by simp) (seqL_of_W hS _ _ h)
  have hlk : 0 + (l.take k).length = k := by rw [List.length_take]; omega
  rw [hlk] at hsteps hfx
  refine any_det ok (k := k) (by omega) ht (val := val) (fun i o hi ho => hsteps i o (Nat.zero_le _) hi ho) (fun y hy w' hS' => ?_) _ _ _ _ (by simp) ?_ ?_ ?_ ?_ hS
  · rw [fr_eq hy hfx fun _ _ => rfl]
    exact hR w' hS'
  · have : ∀ (L : Nat → Bool) n, cnt L n ≤ n := fun L n => by
      induction n with
      | zero => exact Nat.le_refl _
      | succ n ih => simp only [cnt]; split <;> omega
    exact this _ _
  · intro i o hi hl
    rw [rep_false] at hl
    cases hl
  · intro i hi hl
    rw [rep_false] at hl
    cases hl
  · exact fr_start _ _ _ fun i hi => rep_false _ i

/-- what an operation's walk ends at: hidden, so that the walk leaves it as it is -/
def AtEnd (S : World → Prop) (d : List Deferred) (t' : Array Value) : Exit → Act → World → Prop := fun e a' w' => e = .normal ∧ a' = { tmps := t', defers := d } ∧ S w'
theorem AtEnd.mk {d : List Deferred} {t' : Array Value} {w : World} (h : S w) : AtEnd S d t' .normal { tmps := t', defers := d } w := ⟨rfl, rfl, h⟩
theorem seqW_cons {d : List Deferred} {R : Array Value → Prop} {o : Oper} {rest : List Oper} {t t' : Array Value} (h : ∀ w, S w → wpList P ops (AtEnd S d t') [o] { tmps := t, defers := d } w)
    (hr : SeqW P ops S d R rest t') : SeqW P ops S d R (o :: rest) t := ⟨t', h, hr⟩
theorem seqW_nil {d : List Deferred} {R : Array Value → Prop} {t : Array Value} (h : R t) : SeqW P ops S d R [] t := h
/-- all operations have one value each -/
theorem region_all {id : Nat} {l : List Oper} {t : Array Value} {d : List Deferred} {w : World} (S : World → Prop) (hm : P.follows .mixedOrders = true) (hok : okOps l.toArray = true) (hS : S w.drew)
    (h : SeqW P l.toArray S d (fun t' => ∀ w', S w' → Q .normal { tmps := t', defers := d } w') l t) : (Code.region id l.toArray true).wp P Q { tmps := t, defers := d } w := by
  have ht : tailOk l.toArray l.length = true := by
    unfold tailOk
    rw [List.all_eq_true]
    intro j hj
    have : j < l.length := by simpa using hj
    simp [this]
  refine region_det S l.length hm hok ht (Nat.le_refl _) hS ?_
  rw [List.take_of_length_le (Nat.le_refl _), List.drop_of_length_le (Nat.le_refl _)]
  exact h
end Go.Det
/- best.Check, walked by hand. -/
namespace Go.Proofs.Ytbddfnmhhmkfkaa.Pr
set_option linter.unusedVariables false
set_option linter.unusedSimpArgs false
open Go.RowKit Go.Proofs.YtbddfnmhhmkfkaaW.PrintWords
attribute [local go_sem] Oper.semAt_some

def farP (n : Int) : Bool := decide (n < 0) || decide (2000 < n)
def oddP (x : S43) : Bool := decide (x.f0 < 1) || decide (4 < x.f0) || farP x.f1 || farP x.f2 || farP x.f3
def item (x : S43) : Value := .agg #[.int .i64 x.f0, .int .i64 x.f1, .int .i64 x.f2, .int .i64 x.f3, .int .i64 x.f4]
theorem far_calls (n : Int) (w : World) : Calls Try.prog 50 #[.int .i64 n] w fun e w' => e = .returned (.bool (farP n)) ∧ w' = w := by
  unfold farP
  go_enter Try.func50, Try.ntmps50
  go_wp2
  all_goals (go_ret; simp [*])
set_option maxHeartbeats 4000000 in
theorem odd_calls (x : S43) (B : Nat) (W : World) (hB : B < W.heap.size) (hc : W.cell? ⟨B, 0, none⟩ = some (.func (.func 50) #[] #[])) :
    Calls Try.prog 51 #[item x, .pointer (some ⟨B, 0, none⟩)] W fun e w' => e = .returned (.bool (oddP x)) ∧ Below W.heap.size W w' := by
  obtain ⟨f0, f1, f2, f3, f4⟩ := x
  have hb0 : Below W.heap.size W (W.alloc (.cells #[.int .i64 f0, .int .i64 f1, .int .i64 f2, .int .i64 f3, .int .i64 f4] 43)) := (Below.refl _ W).alloc (Nat.le_refl _) _
  have hc' : (W.alloc (.cells #[.int .i64 f0, .int .i64 f1, .int .i64 f2, .int .i64 f3, .int .i64 f4] 43)).cell? ⟨B, 0, none⟩ = some (.func (.func 50) #[] #[]) := (hb0.cell (p := ⟨B, 0, none⟩) hB).trans hc
  unfold item oddP
  dsimp only
  by_cases h1 : f0 < 1
  · go_enter Try.func51, Try.ntmps51
    go_wp2
    go_ret
    exact ⟨by simp [h1], hb0⟩
  · by_cases h2 : 4 < f0
    · go_enter Try.func51, Try.ntmps51
      go_wp2
      go_ret
      exact ⟨by simp [h1, h2], hb0⟩
    · have e1 := fun w => far_calls f1 w
      have e2 := fun w => far_calls f2 w
      have e3 := fun w => far_calls f3 w
      generalize farP f1 = b1 at *
      generalize farP f2 = b2 at *
      generalize farP f3 = b3 at *
      have E1 := Lib.hid e1
      have E2 := Lib.hid e2
      have E3 := Lib.hid e3
      clear e1 e2 e3
      have g1 : decide (f0 < 1) = false := decide_eq_false h1
      have g2 : decide (4 < f0) = false := decide_eq_false h2
      rw [g1, g2]
      have HG := Lib.hid (And.intro g1 g2)
      clear g1 g2
      have g3 : 1 ≤ f0 := by omega
      have g4 : f0 ≤ 4 := by omega
      clear h1 h2
      go_enter Try.func51, Try.ntmps51
      go_wp2_with (go_at_call 50; (first | (with_reducible refine (E1.out _).mono ?_) | (with_reducible refine (E2.out _).mono ?_) | (with_reducible refine (E3.out _).mono ?_)); rintro e w1 ⟨rfl, rfl⟩)
      all_goals
        go_ret
        have e1 := HG.out.1
        have e2 := HG.out.2
        exact ⟨by simp [*], hb0⟩
/-- where the first odd one lies; -1 -/
def idxO : List S43 → Int → Int
  | [], _ => -1
  | x :: xs, i => if oddP x then i else idxO xs (i + 1)
set_option maxHeartbeats 2000000 in
/-- slices.IndexFunc at items -/
theorem indexItem_calls (B : Nat) (A : Option Addr) (c : Nat) (xs : List S43) (w : World) (hx : xs.length ≤ 140737488351232) (hA : Kd.C k43 w A xs.length xs) (hB : B < w.heap.size) (hc : w.cell? ⟨B, 0, none⟩ = some (.func (.func 50) #[] #[])) :
    Calls Try.prog 76 #[.slice A xs.length c, .func (.func 51) #[] #[.pointer (some ⟨B, 0, none⟩)]] w fun e w' => e = .returned (.int .i64 (idxO xs 0)) ∧ Below w.heap.size w w' := by
  have hcW : ∀ W', Below w.heap.size w W' → W'.cell? ⟨B, 0, none⟩ = some (.func (.func 50) #[] #[]) := fun W' hb => (hb.cell (p := ⟨B, 0, none⟩) hB).trans hc
  obtain ⟨n, hn⟩ : ∃ n, xs.length = n := ⟨_, rfl⟩
  have HA := Lib.hid hA
  have HC := Lib.hid hcW
  have hn1 : n ≤ 140737488351232 := by omega
  rw [hn]
  have HN := Lib.hid hn
  clear hn hA hcW hc hx
  go_enter Try.func76, Try.ntmps76
  go_wp2
  go_loopw [8] (fun v wr => ∃ (k : Nat) (rest : List S43), xs.drop k = rest ∧ Hid (idxO xs 0 = idxO rest k) ∧ v = .int .i64 k ∧ k ≤ n ∧ Below w.heap.size w wr) (fun v _ => n - (intOf v).toNat)
  case atStart => exact ⟨0, xs, rfl, Lib.hid rfl, rfl, by omega, Below.refl _ _⟩
  case round =>
    obtain ⟨k, rest, hr, H, rfl, hk, hB2⟩ := hrel
    by_cases hlt : k < n
    · have hl2 : (k : Int) < (n : Int) := by omega
      obtain ⟨x, rest, rfl⟩ : ∃ x r, rest = x :: r := by
        cases rest with
        | nil =>
          have := congrArg List.length hr
          simp at this
          have := HN.out
          omega
        | cons x r => exact ⟨x, r, rfl⟩
      have hxk : xs[k]? = some x := by
        have := congrArg (fun l => l[0]?) hr
        simpa using this
      have hr' : xs.drop (k + 1) = rest := by
        have := congrArg List.tail hr
        simpa using this
      have HR := Lib.hid hr'
      obtain ⟨ad, e1, q0, q1, q2, q3, q4⟩ := at_T43 (Kd.C_below HA.out hB2) k (by omega) (by have := HN.out; omega)
      cases e1
      have hxx : rd_T43 xs k = x := by
        unfold rd_T43
        rw [Int.toNat_natCast, List.getD_eq_getElem?_getD, hxk]
        rfl
      rw [hxx] at q0 q1 q2 q3 q4
      simp only [Int.toNat_natCast] at q0 q1 q2 q3 q4
      have hcall := odd_calls x B wr (by have := hB2.size; omega) (HC.out wr hB2)
      have hidx : idxO xs 0 = if oddP x then (k : Int) else idxO rest ((k + 1 : Nat) : Int) := by rw [H.out]; rfl
      have HCL := Lib.hid hcall
      have HI := Lib.hid hidx
      clear hr hr' hxk hcall hidx hxx H
      unfold item at HCL
      generalize oddP x = bb at *
      obtain ⟨f0, f1, f2, f3, f4⟩ := x
      go_wp2_with fail
      refine HCL.out.mono ?_
      rintro e w' ⟨rfl, hb'⟩
      clear q0 q1 q2 q3 q4 HCL
      cases bb
      · go_wp2
        go_roundw
        case rel => exact ⟨k + 1, rest, HR.out, Lib.hid HI.out, by go_num, by omega, hB2.trans (hb'.mono hB2.size)⟩
        case measure => simp [intOf]; omega
      · go_wp2
        go_ret
        exact ⟨by rw [HI.out]; rfl, hB2.trans (hb'.mono hB2.size)⟩
    · have hk2 : ¬ (k : Int) < (n : Int) := by omega
      have hnil : rest = [] := by
        rw [← hr]; apply List.drop_eq_nil_of_le; have := HN.out; omega
      subst hnil
      have hi : idxO xs 0 = -1 := H.out
      have HI := Lib.hid hi
      clear hi hr H
      go_wp2
      go_ret
      exact ⟨by rw [HI.out]; rfl, hB2⟩
theorem idxO_lt (xs : List S43) : ∀ i : Int, 0 ≤ i → (decide (0 ≤ idxO xs i) = xs.any oddP) := by
  induction xs with
  | nil => intro i h; rfl
  | cons x xs ih =>
    intro i h
    by_cases hx : oddP x = true
    · have e : idxO (x :: xs) i = i := if_pos hx
      rw [e, List.any_cons, hx]
      simp [h]
    · have e : idxO (x :: xs) i = idxO xs (i + 1) := if_neg hx
      rw [e, ih (i + 1) (by omega), List.any_cons]
      simp only [Bool.not_eq_true] at hx
      rw [hx, Bool.false_or]
set_option maxHeartbeats 1000000 in
theorem hasItem_calls (B : Nat) (A : Option Addr) (c : Nat) (xs : List S43) (w : World) (hx : xs.length ≤ 140737488351232) (hA : Kd.C k43 w A xs.length xs) (hB : B < w.heap.size) (hc : w.cell? ⟨B, 0, none⟩ = some (.func (.func 50) #[] #[])) :
    Calls Try.prog 52 #[.slice A xs.length c, .func (.func 51) #[] #[.pointer (some ⟨B, 0, none⟩)]] w fun e w' => e = .returned (.bool (xs.any oddP)) ∧ Below w.heap.size w w' := by
  have h1 := indexItem_calls B A c xs w hx hA hB hc
  have h2 := idxO_lt xs 0 (Int.le_refl _)
  rw [← h2]
  have H1 := Lib.hid h1
  clear h1 h2 hA hc
  generalize idxO xs 0 = i at *
  go_enter Try.func52, Try.ntmps52
  go_wp2_with fail
  refine H1.out.mono ?_
  rintro e w' ⟨rfl, hb'⟩
  go_wp2
  go_ret
  exact ⟨rfl, hb'⟩
def checkP (l : List S43) (w : Int) : Int := if w < 1 ∨ 1000000 < w ∨ 16384 < l.length ∨ l.any oddP = true then 1 else 0
/-- best.Check -/
def best_Check.f (l0 : List S43) (a1 : Int) : Option Int := some (checkP l0 a1)
theorem run_store_func {P : Program} {w : World} {a : Addr} {m : Mode} (f : Fn) (b c : Array Value) : (store a (.func f b c) m).run P w = stored P w a (.func f b c) m := run_store P w a _ m rfl
attribute [local go_sem] run_store_func
set_option maxHeartbeats 2000000 in
theorem best_Check.calls (A0 : Option Addr) (c0 : Nat) (l0 : List S43) (a1 : Int) (r : Int) (w : World) (hr0 : Kd.C k43 w A0 l0.length l0) (hc0 : l0.length ≤ c0) (h : best_Check.f l0 a1 = some r) :
    Calls Try.prog 16 #[.slice A0 l0.length c0, .int .i64 a1] w fun e w' => e = .returned (.int .i64 r) ∧ Below w.heap.size w w' := by
  obtain rfl := Option.some.inj h
  clear h
  have hb0 : Below w.heap.size w (w.alloc (.cells #[.func (.func 50) #[] #[]] 81)) := (Below.refl _ w).alloc (Nat.le_refl _) _
  unfold checkP
  by_cases h1 : a1 < 1
  · rw [if_pos (.inl h1)]
    go_enter Try.func16, Try.ntmps16
    go_wp2
    go_ret
    exact ⟨rfl, hb0⟩
  · by_cases h2 : 1000000 < a1
    · rw [if_pos (.inr (.inl h2))]
      go_enter Try.func16, Try.ntmps16
      go_wp2
      go_ret
      exact ⟨rfl, hb0⟩
    · by_cases h3 : 16384 < l0.length
      · rw [if_pos (.inr (.inr (.inl h3)))]
        have h3' : (16384 : Int) < (l0.length : Int) := by omega
        go_enter Try.func16, Try.ntmps16
        go_wp2
        go_ret
        exact ⟨rfl, hb0⟩
      · have h3' : (l0.length : Int) ≤ 16384 := by omega
        have hcall := hasItem_calls w.heap.size A0 c0 l0 (w.alloc (.cells #[.func (.func 50) #[] #[]] 81)) (by omega) (Kd.C_alloc hr0 _) (by simp) (by rw [blk_cell (blk_new w _) 0]; rfl)
        have e0 : (if a1 < 1 ∨ 1000000 < a1 ∨ 16384 < l0.length ∨ l0.any oddP = true then (1 : Int) else 0) = if l0.any oddP = true then 1 else 0 := by
          by_cases h4 : l0.any oddP = true
          · rw [if_pos h4, if_pos (.inr (.inr (.inr h4)))]
          · rw [if_neg h4, if_neg (by rintro (h | h | h | h) <;> first | exact h4 h | omega)]
        rw [e0]
        have HC := Lib.hid hcall
        have g1 : 1 ≤ a1 := by omega
        have g2 : a1 ≤ 1000000 := by omega
        clear hcall e0 h1 h2 h3 hr0 hc0
        generalize l0.any oddP = b at *
        go_enter Try.func16, Try.ntmps16
        go_wp2_with fail
        refine HC.out.mono ?_
        rintro e w' ⟨rfl, hb'⟩
        cases b
        · go_wp2
          go_ret
          exact ⟨rfl, below_step hb0 hb'⟩
        · go_wp2
          go_ret
          exact ⟨rfl, below_step hb0 hb'⟩
end Go.Proofs.Ytbddfnmhhmkfkaa.Pr
/- best.begin, walked by hand. -/
namespace Go.Proofs.Ytbddfnmhhmkfkaa.Pr
set_option linter.unusedVariables false
set_option linter.unusedSimpArgs false
open Go.RowKit Go.Proofs.YtbddfnmhhmkfkaaW.PrintWords
attribute [local go_sem] Oper.semAt_some

def sumP (s : S85) (x : S43) : S85 :=
  if x.f0 = 2 then ⟨wrap64 (s.f0 + x.f1), wrap64 (s.f1 + x.f2), wrap64 (s.f2 + x.f3)⟩
  else if x.f0 = 1 ∨ x.f0 = 4 then ⟨wrap64 (s.f0 + x.f1), s.f1, s.f2⟩ else s
/-- the sums ahead of each place -/
def sumsP : S85 → List S43 → List S85
  | s, [] => [s]
  | s, x :: l => s :: sumsP (sumP s x) l
/-- the last of the sums up to a place -/
def sumAt (l : List S43) (k : Nat) : S85 := (l.take k).foldl sumP z85
def sumsTo (l : List S43) (k : Nat) : List S85 := (List.range (k + 1)).map (sumAt l)
def flat85 (xs : List S85) : List Value := xs.flatMap fun x => [.int .i64 x.f0, .int .i64 x.f1, .int .i64 x.f2]
theorem flat85_length (xs : List S85) : (flat85 xs).length = xs.length * 3 := by
  induction xs with
  | nil => rfl
  | cons x xs ih => simp [flat85] at ih ⊢; omega
theorem flat85_snoc (xs : List S85) (x : S85) : flat85 (xs ++ [x]) = flat85 xs ++ [.int .i64 x.f0, .int .i64 x.f1, .int .i64 x.f2] := by simp [flat85]
theorem sumsTo_succ (l : List S43) (k : Nat) : sumsTo l (k + 1) = sumsTo l k ++ [sumAt l (k + 1)] := by
  unfold sumsTo
  rw [List.range_succ, List.map_append]
  rfl
theorem sumAt_succ (l : List S43) (k : Nat) (x : S43) (h : l[k]? = some x) : sumAt l (k + 1) = sumP (sumAt l k) x := by
  unfold sumAt
  rw [List.take_add_one, h]
  simp
theorem info85h : (Try.prog.info? 85).map (fun i => (i.zero, i.size, i.bytes)) = some (some (.agg #[(.int .i64 0), (.int .i64 0), (.int .i64 0)]), 3, 24) := by kernel_rfl
theorem sums_last (l : List S43) (k : Nat) : ∃ pre, flat85 (sumsTo l k) = pre ++ [.int .i64 (sumAt l k).f0, .int .i64 (sumAt l k).f1, .int .i64 (sumAt l k).f2] ∧ pre.length = k * 3 := by
  refine ⟨flat85 ((List.range k).map (sumAt l)), ?_, by rw [flat85_length]; simp⟩
  unfold sumsTo
  rw [List.range_succ, List.map_append]
  exact flat85_snoc _ _
theorem sums_next (l : List S43) (k : Nat) (x : S43) (h : l[k]? = some x) : flat85 (sumsTo l (k + 1)) = flat85 (sumsTo l k) ++ [.int .i64 (sumP (sumAt l k) x).f0, .int .i64 (sumP (sumAt l k) x).f1, .int .i64 (sumP (sumAt l k) x).f2] := by
  rw [sumsTo_succ, flat85_snoc, sumAt_succ l k x h]
theorem cells_new (w : World) (cs : List Value) (t : TypeId) : ∀ j u, cs[j]? = some u → (w.alloc (.cells cs.toArray t)).cell? ((⟨w.heap.size, 0, none⟩ : Addr).add j) = some u := by
  intro j u hj
  rw [add_plain]
  simp only [World.cell?, heap_alloc_new]
  simpa using hj
theorem made3 (n : Nat) : (madeCells #[.int .i64 0, .int .i64 0, .int .i64 0] ((n + 1) * 3)).toList.take (1 * 3) = [.int .i64 0, .int .i64 0, .int .i64 0] := by
  apply List.ext_getElem?
  intro j
  rw [List.getElem?_take]
  rcases j with _ | _ | _ | j
  · simp [madeCells]
  · have h1 : 1 < (n + 1) * 3 := by omega
    simp [madeCells, h1]
  · have h2 : 2 < (n + 1) * 3 := by omega
    simp [madeCells, h2]
  · rw [if_neg (by omega)]
    rfl
theorem own_apart {w : World} {base e size n : Nat} {v : Value} {xs : List Value} (h : w.ownsRow base e size v n xs) {b : Nat} {t : TypeId} {cs : Array Value} (hb : w.heap[b]? = some (.cells cs t (0, 0))) (hne : t ≠ e) : some b ≠ v.ownBlock := by
  rcases h.2 with ⟨rfl, _⟩ | ⟨g, cap, cur, rfl, _, hg, _⟩
  · simp [Value.ownBlock]
  · have := blk_ne hb hg hne
    simpa [Value.ownBlock] using this
theorem own_base' {w : World} {base e size n : Nat} {A : Option Addr} {k c : Nat} {xs : List Value} (h : w.ownsRow base e size (.slice A k c) n xs) : ∀ j, (Value.slice A k c).ownBlock = some j → base ≤ j := fun j hj => own_base h j hj
set_option pp.maxSteps 3000 in
set_option maxRecDepth 100000 in
set_option maxHeartbeats 2000000 in
theorem begin_calls (A : Option Addr) (c : Nat) (l : List S43) (wd : Int) (w : World) (hl : l.length ≤ 1000000) (hA : Kd.C k43 w A l.length l) :
    Calls Try.prog 43 #[.slice A l.length c, .int .i64 wd] w fun e w' => ∃ v, e = .returned (.agg #[.slice A l.length c, .int .i64 wd, v]) ∧ w'.ownsRow w.heap.size 85 3 v (l.length + 1) (flat85 (sumsTo l l.length)) ∧ Below w.heap.size w w' := by
  obtain ⟨i0, hi, hz0, hz1, hz2⟩ := info_parts info85h
  have HA := Lib.hid hA
  obtain ⟨n, hn⟩ : ∃ n, l.length = n := ⟨_, rfl⟩
  rw [hn] at hl ⊢
  have HN := Lib.hid hn
  clear hn hA
  have hn1 : (n : Int) ≤ 1000000 := by omega
  have hmk : ∀ W : World, (Instr.makeSlice 65 (.int .i64 1) (.int .i64 ((n : Int) + 1))).run Try.prog W = .ok (.slice (some ⟨W.heap.size, 0, none⟩) 1 (n + 1)) (W.alloc (.cells (madeCells #[.int .i64 0, .int .i64 0, .int .i64 0] ((n + 1) * 3)) 85)) := fun W => by
    have hr := run_make (P := Try.prog) W 65 85 i0 _ Try.underlying65 hi hz0 .i64 .i64 1 ((n : Int) + 1) (by omega) (by omega) (by rw [hz2]; omega) (by omega)
    rw [hz1, show ((n : Int) + 1).toNat = n + 1 by omega] at hr
    exact hr
  have hrow0 : ∀ W : World, (W.alloc (.cells (madeCells #[.int .i64 0, .int .i64 0, .int .i64 0] ((n + 1) * 3)) 85)).ownsRow W.heap.size 85 3 (.slice (some ⟨W.heap.size, 0, none⟩) 1 (n + 1)) 1 [.int .i64 0, .int .i64 0, .int .i64 0] := fun W => by
    refine ⟨rfl, .inr ⟨W.heap.size, n + 1, _, rfl, Nat.le_refl _, heap_alloc_new W _, by omega, by unfold maxLen; omega, size_madeCells _ _, ?_⟩⟩
    exact made3 n
  have HR0 := Lib.hid hrow0
  clear hrow0
  go_enter Try.func43, Try.ntmps43
  go_wp2_with fail
  go_loopw [18] (fun v wr => ∃ (k : Nat) (u : Value), v = .int .i64 k ∧ k ≤ n ∧ wr.heap[w.heap.size + 1 + 1]? = some (.cells #[.slice A n c, .int .i64 wd, u] 67 (0, 0)) ∧ wr.heap[w.heap.size]? = some (.cells #[.slice none 0 0, .int .i64 0, .slice none 0 0] 67 (0, 0)) ∧
      wr.ownsRow (w.heap.size + 1) 85 3 u (k + 1) (flat85 (sumsTo l k)) ∧ Below w.heap.size w wr) (fun v _ => n - (intOf v).toNat)
  case atStart =>
    have b1 := blk_new w (.cells #[.slice none 0 0, .int .i64 0, .slice none 0 0] 67)
    have r1 := HR0.out (w.alloc (.cells #[.slice none 0 0, .int .i64 0, .slice none 0 0] 67))
    have hB1 := (((Below.refl _ w).alloc (Nat.le_refl _) (.cells #[.slice none 0 0, .int .i64 0, .slice none 0 0] 67)).alloc (by simp) (.cells (madeCells #[.int .i64 0, .int .i64 0, .int .i64 0] ((n + 1) * 3)) 85))
    have b2 := blk_alloc b1 (.cells (madeCells #[.int .i64 0, .int .i64 0, .int .i64 0] ((n + 1) * 3)) 85)
    have b3 := blk_new ((w.alloc (.cells #[.slice none 0 0, .int .i64 0, .slice none 0 0] 67)).alloc (.cells (madeCells #[.int .i64 0, .int .i64 0, .int .i64 0] ((n + 1) * 3)) 85)) (.cells #[.slice A n c, .int .i64 wd, .slice (some ⟨w.heap.size + 1, 0, none⟩) 1 (n + 1)] 67)
    simp only [World.size_alloc] at r1 b3
    exact ⟨0, _, rfl, Nat.zero_le _, b3, blk_alloc b2 _, r1.alloc _, hB1.alloc (by simp; omega) _⟩
  case round =>
    obtain ⟨k, u, rfl, hk, hF, hR, hown, hB⟩ := hrel
    by_cases hlt : k < n
    · have hlt1 : (k : Int) < (n : Int) := by omega
      obtain ⟨ad, e1, q0, q1, q2, q3, q4⟩ := at_T43 (Kd.C_below HA.out hB) k (by omega) (by have := HN.out; omega)
      cases e1
      have hxk : l[k]? = some (rd_T43 l k) := by
        unfold rd_T43
        rw [Int.toNat_natCast, List.getD_eq_getElem?_getD, List.getElem?_eq_getElem (by have := HN.out; omega)]
        rfl
      have hnx := sums_next l k _ hxk
      obtain ⟨pre, hp, hpl⟩ := sums_last l k
      obtain ⟨g, cap, rfl⟩ := ownsRow_succ hown
      have HP := Lib.hid hp
      have HNX := Lib.hid hnx
      have HO := Lib.hid hown
      have HF := Lib.hid hF
      have HRR := Lib.hid hR
      have hca : ∀ o : Obj, (wr.alloc o).cell? ⟨w.heap.size + 1 + 1, 2, none⟩ = some (.slice (some ⟨g, 0, none⟩) (k + 1) cap) ∧ (wr.alloc o).cell? ⟨g, k * 3, none⟩ = some (.int .i64 (sumAt l k).f0) ∧ (wr.alloc o).cell? ⟨g, k * 3 + 1, none⟩ = some (.int .i64 (sumAt l k).f1) ∧ (wr.alloc o).cell? ⟨g, k * 3 + 2, none⟩ = some (.int .i64 (sumAt l k).f2) := fun o => by
        have s0 := (HO.out.alloc o).cellAt (k * 3) (by omega)
        have s1 := (HO.out.alloc o).cellAt (k * 3 + 1) (by omega)
        have s2 := (HO.out.alloc o).cellAt (k * 3 + 2) (by omega)
        rw [hp, List.getElem?_append_right (by omega), hpl, Nat.sub_self] at s0
        rw [hp, List.getElem?_append_right (by omega), hpl, show k * 3 + 1 - k * 3 = 1 by omega] at s1
        rw [hp, List.getElem?_append_right (by omega), hpl, show k * 3 + 2 - k * 3 = 2 by omega] at s2
        exact ⟨by rw [blk_cell (blk_alloc HF.out o) 2]; rfl, s0, s1, s2⟩
      clear hnx hp hpl hxk hown HP hF hR
      generalize rd_T43 l k = x at *
      generalize sumAt l k = s at *
      obtain ⟨f0, f1, f2, f3, f4⟩ := x
      obtain ⟨t0, t1, t2⟩ := s
      obtain ⟨c2, s0, s1, s2⟩ := hca (.cells #[.int .i64 f0, .int .i64 f1, .int .i64 f2, .int .i64 f3, .int .i64 f4] 43)
      simp only [Int.toNat_natCast] at q0 q1 q2 q3 q4 s0 s1 s2
      have hcb : ∀ o o' : Obj, ((wr.alloc o).alloc o').cell? ⟨w.heap.size + 1 + 1, 2, none⟩ = some (.slice (some ⟨g, 0, none⟩) (k + 1) cap) := fun o o' => by rw [blk_cell (blk_alloc (blk_alloc HF.out o) o') 2]; rfl
      by_cases h2 : f0 = 2
      · subst h2
        go_wp2_with (at_builtin; refine wpList_append_own _ rfl _ _ 65 rfl (w.heap.size + 1) 85 i0 (.agg #[(.int .i64 0), (.int .i64 0), (.int .i64 0)]) 3 24 Try.underlying65 hi hz0 hz1 hz2 rfl (by decide) _ _ _ rfl (((HO.out.alloc _).alloc _).alloc _) _ 1 1 [.int .i64 (wrap64 (t0 + f1)), .int .i64 (wrap64 (t1 + f2)), .int .i64 (wrap64 (t2 + f3))] rfl rfl ?e1 ?e2 ?e3 ?e4 ?e5 ?e6)
        try (case e1 =>
          have := cells_new ((wr.alloc (.cells #[.int .i64 f0, .int .i64 f1, .int .i64 f2, .int .i64 f3, .int .i64 f4] 43)).alloc (.cells #[.int .i64 (wrap64 (t0 + f1)), .int .i64 (wrap64 (t1 + f2)), .int .i64 (wrap64 (t2 + f3))] 85)) [.int .i64 (wrap64 (t0 + f1)), .int .i64 (wrap64 (t1 + f2)), .int .i64 (wrap64 (t2 + f3))] 85
          simp only [World.size_alloc] at this
          exact this)
        case e2 => simp [Value.oneCell']
        case e3 => unfold maxLen; omega
        case e4 => omega
        case e5 => have := hB.size; simp; omega
        case e6 =>
          intro v' w1 hown' hgrow _
          obtain ⟨A', c', rfl⟩ := own_slice hown'
          have hF1 := blk_grown (blk_alloc (blk_alloc (blk_alloc HF.out _) _) _) hgrow (own_apart HO.out HF.out (by decide))
          have hR1 := blk_grown (blk_alloc (blk_alloc (blk_alloc HRR.out _) _) _) hgrow (own_apart HO.out HRR.out (by decide))
          have hBs := hB.size
          have hB1 : Below w.heap.size w w1 := (((hB.alloc hBs _).alloc (by simp; omega) _).alloc (by simp; omega) _).grown hgrow (by simp; omega) fun j hj => (by have := own_base HO.out j hj; omega)
          have hne1 := own_apart hown' hF1 (by decide)
          have hnx : flat85 (sumsTo l (k + 1)) = flat85 (sumsTo l k) ++ [.int .i64 (wrap64 (t0 + f1)), .int .i64 (wrap64 (t1 + f2)), .int .i64 (wrap64 (t2 + f3))] := by
            refine HNX.out.trans ?_
            simp [sumP]
          rw [← hnx] at hown'
          have c0 := blk_cell hF1 2
          simp only [List.getElem?_toArray, List.getElem?_cons_succ, List.getElem?_cons_zero] at c0
          have z0 := blk_frozen hF1 2
          have HF1 := Lib.hid hF1
          have HR1 := Lib.hid hR1
          have HO1 := Lib.hid hown'
          have HN1 := Lib.hid hne1
          clear hF1 hR1 hown' hne1 hgrow q0 q1 q2 q3 q4 s0 s1 s2 c2 hca hcb hnx
          go_wp2
          go_roundw
          case rel => exact ⟨k + 1, .slice A' (k + 1 + 1) c', by go_num, by omega, blk_put HF1.out 2 _ rfl, blk_far HR1.out (by simp; omega) _, own_setCell HO1.out HN1.out _, hB1.setCell (by simp; omega) _⟩
          case measure => simp [intOf]; omega
      · by_cases h1 : f0 = 1
        · subst h1
          go_wp2_with (at_builtin; refine wpList_append_own _ rfl _ _ 65 rfl (w.heap.size + 1) 85 i0 (.agg #[(.int .i64 0), (.int .i64 0), (.int .i64 0)]) 3 24 Try.underlying65 hi hz0 hz1 hz2 rfl (by decide) _ _ _ rfl (((HO.out.alloc _).alloc _).alloc _) _ 1 1 [.int .i64 (wrap64 (t0 + f1)), .int .i64 (t1), .int .i64 (t2)] rfl rfl ?x1 ?x2 ?x3 ?x4 ?x5 ?x6)
          try (case x1 =>
            have := cells_new ((wr.alloc (.cells #[.int .i64 f0, .int .i64 f1, .int .i64 f2, .int .i64 f3, .int .i64 f4] 43)).alloc (.cells #[.int .i64 (wrap64 (t0 + f1)), .int .i64 (t1), .int .i64 (t2)] 85)) [.int .i64 (wrap64 (t0 + f1)), .int .i64 (t1), .int .i64 (t2)] 85
            simp only [World.size_alloc] at this
            exact this)
          case x2 => simp [Value.oneCell']
          case x3 => unfold maxLen; omega
          case x4 => omega
          case x5 => have := hB.size; simp; omega
          case x6 =>
            intro v' w1 hown' hgrow _
            obtain ⟨A', c', rfl⟩ := own_slice hown'
            have hF1 := blk_grown (blk_alloc (blk_alloc (blk_alloc HF.out _) _) _) hgrow (own_apart HO.out HF.out (by decide))
            have hR1 := blk_grown (blk_alloc (blk_alloc (blk_alloc HRR.out _) _) _) hgrow (own_apart HO.out HRR.out (by decide))
            have hBs := hB.size
            have hB1 : Below w.heap.size w w1 := (((hB.alloc hBs _).alloc (by simp; omega) _).alloc (by simp; omega) _).grown hgrow (by simp; omega) fun j hj => (by have := own_base HO.out j hj; omega)
            have hne1 := own_apart hown' hF1 (by decide)
            have hnx : flat85 (sumsTo l (k + 1)) = flat85 (sumsTo l k) ++ [.int .i64 (wrap64 (t0 + f1)), .int .i64 (t1), .int .i64 (t2)] := by
              refine HNX.out.trans ?_
              simp [sumP]
            rw [← hnx] at hown'
            have c0 := blk_cell hF1 2
            simp only [List.getElem?_toArray, List.getElem?_cons_succ, List.getElem?_cons_zero] at c0
            have z0 := blk_frozen hF1 2
            have HF1 := Lib.hid hF1
            have HR1 := Lib.hid hR1
            have HO1 := Lib.hid hown'
            have HN1 := Lib.hid hne1
            clear hF1 hR1 hown' hne1 hgrow q0 q1 q2 q3 q4 s0 s1 s2 c2 hca hcb hnx
            go_wp2
            go_roundw
            case rel => exact ⟨k + 1, .slice A' (k + 1 + 1) c', by go_num, by omega, blk_put HF1.out 2 _ rfl, blk_far HR1.out (by simp; omega) _, own_setCell HO1.out HN1.out _, hB1.setCell (by simp; omega) _⟩
            case measure => simp [intOf]; omega
        · by_cases h4 : f0 = 4
          · subst h4
            go_wp2_with (at_builtin; refine wpList_append_own _ rfl _ _ 65 rfl (w.heap.size + 1) 85 i0 (.agg #[(.int .i64 0), (.int .i64 0), (.int .i64 0)]) 3 24 Try.underlying65 hi hz0 hz1 hz2 rfl (by decide) _ _ _ rfl (((HO.out.alloc _).alloc _).alloc _) _ 1 1 [.int .i64 (wrap64 (t0 + f1)), .int .i64 (t1), .int .i64 (t2)] rfl rfl ?y1 ?y2 ?y3 ?y4 ?y5 ?y6)
            try (case y1 =>
              have := cells_new ((wr.alloc (.cells #[.int .i64 f0, .int .i64 f1, .int .i64 f2, .int .i64 f3, .int .i64 f4] 43)).alloc (.cells #[.int .i64 (wrap64 (t0 + f1)), .int .i64 (t1), .int .i64 (t2)] 85)) [.int .i64 (wrap64 (t0 + f1)), .int .i64 (t1), .int .i64 (t2)] 85
              simp only [World.size_alloc] at this
              exact this)
            case y2 => simp [Value.oneCell']
            case y3 => unfold maxLen; omega
            case y4 => omega
            case y5 => have := hB.size; simp; omega
            case y6 =>
              intro v' w1 hown' hgrow _
              obtain ⟨A', c', rfl⟩ := own_slice hown'
              have hF1 := blk_grown (blk_alloc (blk_alloc (blk_alloc HF.out _) _) _) hgrow (own_apart HO.out HF.out (by decide))
              have hR1 := blk_grown (blk_alloc (blk_alloc (blk_alloc HRR.out _) _) _) hgrow (own_apart HO.out HRR.out (by decide))
              have hBs := hB.size
              have hB1 : Below w.heap.size w w1 := (((hB.alloc hBs _).alloc (by simp; omega) _).alloc (by simp; omega) _).grown hgrow (by simp; omega) fun j hj => (by have := own_base HO.out j hj; omega)
              have hne1 := own_apart hown' hF1 (by decide)
              have hnx : flat85 (sumsTo l (k + 1)) = flat85 (sumsTo l k) ++ [.int .i64 (wrap64 (t0 + f1)), .int .i64 (t1), .int .i64 (t2)] := by
                refine HNX.out.trans ?_
                simp [sumP]
              rw [← hnx] at hown'
              have c0 := blk_cell hF1 2
              simp only [List.getElem?_toArray, List.getElem?_cons_succ, List.getElem?_cons_zero] at c0
              have z0 := blk_frozen hF1 2
              have HF1 := Lib.hid hF1
              have HR1 := Lib.hid hR1
              have HO1 := Lib.hid hown'
              have HN1 := Lib.hid hne1
              clear hF1 hR1 hown' hne1 hgrow q0 q1 q2 q3 q4 s0 s1 s2 c2 hca hcb hnx
              go_wp2
              go_roundw
              case rel => exact ⟨k + 1, .slice A' (k + 1 + 1) c', by go_num, by omega, blk_put HF1.out 2 _ rfl, blk_far HR1.out (by simp; omega) _, own_setCell HO1.out HN1.out _, hB1.setCell (by simp; omega) _⟩
              case measure => simp [intOf]; omega
          · have g2 : (f0 == 2) = false := beq_eq_false_iff_ne.2 h2
            have g1 : (f0 == 1) = false := beq_eq_false_iff_ne.2 h1
            have g4 : (f0 == 4) = false := beq_eq_false_iff_ne.2 h4
            go_wp2_with (at_builtin; refine wpList_append_own _ rfl _ _ 65 rfl (w.heap.size + 1) 85 i0 (.agg #[(.int .i64 0), (.int .i64 0), (.int .i64 0)]) 3 24 Try.underlying65 hi hz0 hz1 hz2 rfl (by decide) _ _ _ rfl (((HO.out.alloc _).alloc _).alloc _) _ 1 1 [.int .i64 (t0), .int .i64 (t1), .int .i64 (t2)] rfl rfl ?z1 ?z2 ?z3 ?z4 ?z5 ?z6)
            try (case z1 =>
              have := cells_new ((wr.alloc (.cells #[.int .i64 f0, .int .i64 f1, .int .i64 f2, .int .i64 f3, .int .i64 f4] 43)).alloc (.cells #[.int .i64 (t0), .int .i64 (t1), .int .i64 (t2)] 85)) [.int .i64 (t0), .int .i64 (t1), .int .i64 (t2)] 85
              simp only [World.size_alloc] at this
              exact this)
            case z2 => simp [Value.oneCell']
            case z3 => unfold maxLen; omega
            case z4 => omega
            case z5 => have := hB.size; simp; omega
            case z6 =>
              intro v' w1 hown' hgrow _
              obtain ⟨A', c', rfl⟩ := own_slice hown'
              have hF1 := blk_grown (blk_alloc (blk_alloc (blk_alloc HF.out _) _) _) hgrow (own_apart HO.out HF.out (by decide))
              have hR1 := blk_grown (blk_alloc (blk_alloc (blk_alloc HRR.out _) _) _) hgrow (own_apart HO.out HRR.out (by decide))
              have hBs := hB.size
              have hB1 : Below w.heap.size w w1 := (((hB.alloc hBs _).alloc (by simp; omega) _).alloc (by simp; omega) _).grown hgrow (by simp; omega) fun j hj => (by have := own_base HO.out j hj; omega)
              have hne1 := own_apart hown' hF1 (by decide)
              have hnx : flat85 (sumsTo l (k + 1)) = flat85 (sumsTo l k) ++ [.int .i64 (t0), .int .i64 (t1), .int .i64 (t2)] := by
                refine HNX.out.trans ?_
                simp [sumP, h1, h2, h4]
              rw [← hnx] at hown'
              have c0 := blk_cell hF1 2
              simp only [List.getElem?_toArray, List.getElem?_cons_succ, List.getElem?_cons_zero] at c0
              have z0 := blk_frozen hF1 2
              have HF1 := Lib.hid hF1
              have HR1 := Lib.hid hR1
              have HO1 := Lib.hid hown'
              have HN1 := Lib.hid hne1
              clear hF1 hR1 hown' hne1 hgrow q0 q1 q2 q3 q4 s0 s1 s2 c2 hca hcb hnx
              go_wp2
              go_roundw
              case rel => exact ⟨k + 1, .slice A' (k + 1 + 1) c', by go_num, by omega, blk_put HF1.out 2 _ rfl, blk_far HR1.out (by simp; omega) _, own_setCell HO1.out HN1.out _, hB1.setCell (by simp; omega) _⟩
              case measure => simp [intOf]; omega
    · obtain rfl : k = n := by omega
      have hlt1 : ¬ (k : Int) < (k : Int) := by omega
      have c0 := blk_cell hF 0
      have c1 := blk_cell hF 1
      have c2 := blk_cell hF 2
      have d0 := blk_cell hR 0
      have d1 := blk_cell hR 1
      have d2 := blk_cell hR 2
      simp only [List.getElem?_toArray, List.getElem?_cons_succ, List.getElem?_cons_zero] at c0 c1 c2 d0 d1 d2
      have f0 := blk_frozen hR 0
      have f1 := blk_frozen hR 1
      have f2 := blk_frozen hR 2
      have HO := Lib.hid hown
      have HR := Lib.hid hR
      obtain ⟨A2, c2', rfl⟩ := own_slice hown
      clear hown hmk hR hF
      go_wp2
      have n0 : some w.heap.size ≠ (Value.slice A2 (k + 1) c2').ownBlock := fun e => by have := own_base HO.out _ e.symm; omega
      have hro := own_setCell (own_setCell (own_setCell HO.out (p := ⟨w.heap.size, 0, none⟩) n0 (.slice A k c)) (p := ⟨w.heap.size, 1, none⟩) n0 (.int .i64 wd)) (p := ⟨w.heap.size, 2, none⟩) n0 (.slice A2 (k + 1) c2')
      have hbb := ((hB.setCell (show w.heap.size ≤ w.heap.size from Nat.le_refl _) (.slice A k c) (p := ⟨w.heap.size, 0, none⟩)).setCell (show w.heap.size ≤ w.heap.size from Nat.le_refl _) (.int .i64 wd) (p := ⟨w.heap.size, 1, none⟩)).setCell (show w.heap.size ≤ w.heap.size from Nat.le_refl _) (.slice A2 (k + 1) c2') (p := ⟨w.heap.size, 2, none⟩)
      have hr2 := blk_set (blk_set (blk_set HR.out 0 (.slice A k c)) 1 (.int .i64 wd)) 2 (.slice A2 (k + 1) c2')
      generalize (((wr.setCell { block := w.heap.size, off := 0 } (Value.slice A k c)).setCell { block := w.heap.size, off := 1 } (Value.int IntKind.i64 wd)).setCell { block := w.heap.size, off := 2 } (Value.slice A2 (k + 1) c2')) = W2 at *
      have z0 := blk_cell hr2 0
      have z1 := blk_cell hr2 1
      have z2 := blk_cell hr2 2
      simp at z0 z1 z2
      refine bodyPost_ret (v := .agg #[.slice A k c, .int .i64 wd, .slice A2 (k + 1) c2']) ?_ rfl ⟨_, rfl, own_weaken hro (by omega), hbb⟩
      simp [results, Try.results43, go_sem, z0, z1, z2]
end Go.Proofs.Ytbddfnmhhmkfkaa.Pr
/- The least way through places, by plain lists: what is kept of each place is one row of places, and no other row of places is better. No program in sight. -/
namespace Go.DP
set_option linter.unusedVariables false
/-- the first of a row of places, the last one first; -1 -/
def hd : List Int → Int | [] => -1 | x :: _ => x
section
variable (pl : Int → Bool) (legal : Int → Int → Bool) (cost : Int → Int → Int)
/-- rows of places that may be -/
def Row : List Int → Prop | [] => True | t :: r => pl t = true ∧ hd r < t ∧ legal (hd r) t = true ∧ Row r
def tot : List Int → Int | [] => 0 | t :: r => tot r + cost (hd r) t
/-- is the one's last line's begin earlier? -/
def earl : List Int → List Int → Prop
  | [], [] => False
  | [], y :: _ => -1 < y
  | x :: _, [] => x < -1
  | x :: a, y :: b => x < y ∨ (x = y ∧ earl a b)
theorem earl_irrefl : ∀ a, ¬ earl a a
  | [] => id
  | x :: a => fun h => h.elim (by omega) fun h => earl_irrefl a h.2
theorem earl_hd {a b : List Int} (h : hd a < hd b) : earl a b := by
  cases a <;> cases b <;> simp only [hd, earl] at * <;> omega
theorem earl_asymm : ∀ a b, earl a b → ¬ earl b a
  | [], [], h, _ => h
  | [], y :: b, h, h' => by simp only [earl] at *; omega
  | x :: a, [], h, h' => by simp only [earl] at *; omega
  | x :: a, y :: b, h, h' => by
    simp only [earl] at *
    rcases h with h | ⟨rfl, h⟩
    · omega
    · rcases h' with h' | ⟨_, h'⟩
      · omega
      · exact earl_asymm a b h h'
theorem earl_cons {t : Int} {a b : List Int} (h : earl a b) : earl (t :: a) (t :: b) := .inr ⟨rfl, h⟩
/-- the best of ways to a place -/
def pick (t : Int) : List (List Int × Int) → Option (List Int × Int) → Option (List Int × Int)
  | [], b => b
  | x :: xs, b => pick t xs (if legal (hd x.1) t = true ∧ (∀ y, b = some y → x.2 + cost (hd x.1) t < y.2) then some (t :: x.1, x.2 + cost (hd x.1) t) else b)
/-- what is kept of a row of ways, sorted by their ends -/
theorem pick_spec (t : Int) : ∀ (xs : List (List Int × Int)) (b : Option (List Int × Int)) (seen : List (List Int × Int)),
    (List.Pairwise (fun a c => hd a.1 < hd c.1) (seen ++ xs)) →
    (match b with
      | none => ∀ y ∈ seen, legal (hd y.1) t = false
      | some q => ∃ p, p ∈ seen ∧ legal (hd p.1) t = true ∧ q = (t :: p.1, p.2 + cost (hd p.1) t) ∧ ∀ y ∈ seen, legal (hd y.1) t = true → p.2 + cost (hd p.1) t < y.2 + cost (hd y.1) t ∨ (p.2 + cost (hd p.1) t = y.2 + cost (hd y.1) t ∧ hd p.1 ≤ hd y.1)) →
    (match pick legal cost t xs b with
      | none => ∀ y ∈ seen ++ xs, legal (hd y.1) t = false
      | some q => ∃ p, p ∈ seen ++ xs ∧ legal (hd p.1) t = true ∧ q = (t :: p.1, p.2 + cost (hd p.1) t) ∧ ∀ y ∈ seen ++ xs, legal (hd y.1) t = true → p.2 + cost (hd p.1) t < y.2 + cost (hd y.1) t ∨ (p.2 + cost (hd p.1) t = y.2 + cost (hd y.1) t ∧ hd p.1 ≤ hd y.1))
  | [], b, seen, hp, h => by simpa [pick] using h
  | x :: xs, b, seen, hp, h => by
    have ih := pick_spec t xs (if legal (hd x.1) t = true ∧ (∀ y, b = some y → x.2 + cost (hd x.1) t < y.2) then some (t :: x.1, x.2 + cost (hd x.1) t) else b) (seen ++ [x]) (by simpa using hp)
    simp only [List.append_assoc, List.singleton_append] at ih
    refine ih ?_
    clear ih
    have hlt : ∀ y ∈ seen, hd y.1 < hd x.1 := fun y hy => by
      rw [List.pairwise_append] at hp
      exact hp.2.2 y hy x (by simp)
    by_cases hl : legal (hd x.1) t = true
    · cases b with
      | none =>
        rw [if_pos ⟨hl, by simp⟩]
        refine ⟨x, by simp, hl, rfl, fun y hy hly => ?_⟩
        rcases List.mem_append.1 hy with hy | hy
        · have := h y hy; rw [hly] at this; cases this
        · obtain rfl : y = x := by simpa using hy
          exact .inr ⟨rfl, Int.le_refl _⟩
      | some q =>
        obtain ⟨p, hp1, hp2, rfl, hp3⟩ := h
        by_cases hc : x.2 + cost (hd x.1) t < p.2 + cost (hd p.1) t
        · rw [if_pos ⟨hl, by rintro y ⟨⟩; exact hc⟩]
          refine ⟨x, by simp, hl, rfl, fun y hy hly => ?_⟩
          rcases List.mem_append.1 hy with hy | hy
          · have := hp3 y hy hly; omega
          · obtain rfl : y = x := by simpa using hy
            exact .inr ⟨rfl, Int.le_refl _⟩
        · rw [if_neg (fun h => hc (h.2 _ rfl))]
          refine ⟨p, by simp [hp1], hp2, rfl, fun y hy hly => ?_⟩
          rcases List.mem_append.1 hy with hy | hy
          · exact hp3 y hy hly
          · obtain rfl : y = x := by simpa using hy
            have := hlt p hp1
            omega
    · rw [if_neg (fun h => hl h.1)]
      cases b with
      | none =>
        intro y hy
        rcases List.mem_append.1 hy with hy | hy
        · exact h y hy
        · obtain rfl : y = x := by simpa using hy
          simpa using hl
      | some q =>
        obtain ⟨p, hp1, hp2, rfl, hp3⟩ := h
        refine ⟨p, by simp [hp1], hp2, rfl, fun y hy hly => ?_⟩
        rcases List.mem_append.1 hy with hy | hy
        · exact hp3 y hy hly
        · obtain rfl : y = x := by simpa using hy
          exact absurd hly hl
/-- a row that no other one to the same place is better than -/
def Best (p : List Int) (s : Int) : Prop :=
  Row pl legal p ∧ s = tot cost p ∧ ∀ x, Row pl legal x → hd x = hd p → x = p ∨ s < tot cost x ∨ (s = tot cost x ∧ earl p x)
/-- what is known of the ways kept, when the places 'done' have been met -/
structure Inv (done : List Int) (ws : List (List Int × Int)) : Prop where
  ends : ws.map (fun x => hd x.1) = -1 :: done
  best : ∀ x ∈ ws, Best pl legal cost x.1 x.2
  tail : ∀ x ∈ ws, x.1 = [] ∨ ∃ s, (x.1.tail, s) ∈ ws
  sorted : List.Pairwise (· < ·) (-1 :: done)
theorem row_nonneg (h0 : ∀ t, pl t = true → 0 ≤ t) : ∀ {x}, Row pl legal x → hd x = -1 → x = []
  | [], _, _ => rfl
  | t :: r, h, e => by have := h0 t h.1; simp only [hd] at e; omega
theorem inv_start (h0 : ∀ t, pl t = true → 0 ≤ t) : Inv pl legal cost [] [([], 0)] := by
  refine ⟨rfl, ?_, ?_, by simp⟩
  · intro x hx
    obtain rfl : x = ([], 0) := by simpa using hx
    exact ⟨trivial, rfl, fun y hy he => .inl (row_nonneg pl legal h0 hy he)⟩
  · intro x hx
    obtain rfl : x = ([], 0) := by simpa using hx
    exact .inl rfl
/-- the next place -/
theorem inv_next (h1 : ∀ t, pl t = true → legal (-1) t = true) {done : List Int} {ws : List (List Int × Int)} (h : Inv pl legal cost done ws) (t : Int)
    (ht : pl t = true) (hpl : ∀ y, pl y = true → y < t → y ∈ done) (hlt : ∀ y ∈ -1 :: done, y < t) :
    ∃ q, pick legal cost t ws none = some q ∧ Inv pl legal cost (done ++ [t]) (ws ++ [q]) ∧ hd q.1 = t := by
  have hsort : List.Pairwise (fun a c : List Int × Int => hd a.1 < hd c.1) ws := by
    have := h.sorted
    rw [← h.ends, List.pairwise_map] at this
    exact this
  have hs := pick_spec legal cost t ws none [] (by simpa using hsort) (by intro y hy; cases hy)
  have hfirst : ∃ x ∈ ws, hd x.1 = -1 := by
    have : (-1 : Int) ∈ ws.map (fun x => hd x.1) := by rw [h.ends]; simp
    simpa using this
  cases hq : pick legal cost t ws none with
  | none =>
    exfalso
    rw [hq] at hs
    obtain ⟨x, hx, he⟩ := hfirst
    have := hs x (by simpa using hx)
    rw [he, h1 t ht] at this
    cases this
  | some q =>
    rw [hq] at hs
    obtain ⟨p, hp, hl, rfl, hmin⟩ := hs
    simp only [List.nil_append] at hp hmin
    refine ⟨_, rfl, ⟨?_, ?_, ?_, ?_⟩, rfl⟩
    · rw [List.map_append, h.ends]; rfl
    · intro x hx
      rcases List.mem_append.1 hx with hx | hx
      · exact h.best x hx
      · obtain rfl := List.mem_singleton.1 hx
        have hbp := h.best p hp
        have hpt : hd p.1 < t := by
          apply hlt
          have : hd p.1 ∈ ws.map (fun x => hd x.1) := List.mem_map.2 ⟨p, hp, rfl⟩
          rwa [h.ends] at this
        refine ⟨⟨ht, hpt, hl, hbp.1⟩, by simp only [tot]; rw [← hbp.2.1], fun z hz he => ?_⟩
        cases z with
        | nil => 
          simp only [hd] at he
          have := hlt (-1) (by simp)
          omega
        | cons t' r =>
          simp only [hd] at he
          subst he
          have x1 := hz.1
          have x2 := hz.2.1
          have x3 := hz.2.2.1
          have x4 := hz.2.2.2
          -- the way kept to where the last line begins
          have hmem : hd r ∈ -1 :: done := by
            cases r with
            | nil => simp [hd]
            | cons u r => exact List.mem_cons_of_mem _ (hpl u x4.1 x2)
          rw [← h.ends] at hmem
          obtain ⟨y, hy, hye⟩ := List.mem_map.1 hmem
          have hby := h.best y hy
          have hm := hmin y hy (by rw [hye]; exact x3)
          have hr := hby.2.2 r x4 hye.symm
          rw [hye] at hm
          simp only [tot]
          have hle : y.2 ≤ tot cost r := by
            rcases hr with hr | hr | hr
            · rw [hr, hby.2.1]; exact Int.le_refl _
            · omega
            · omega
          rcases hm with hm | ⟨hm, hh⟩
          · exact .inr (.inl (by omega))
          · rcases Int.lt_or_eq_of_le hh with hh | hh
            · by_cases e : y.2 + cost (hd r) t' < tot cost r + cost (hd r) t'
              · exact .inr (.inl (by omega))
              · exact .inr (.inr ⟨by omega, .inr ⟨rfl, earl_hd hh⟩⟩)
            · -- the same begin: the way kept is one
              have hyp : y = p := by
                have hinj : ∀ (l : List (List Int × Int)), List.Pairwise (fun a c : List Int × Int => hd a.1 < hd c.1) l → ∀ a ∈ l, ∀ b ∈ l, hd a.1 = hd b.1 → a = b := by
                  intro l hl
                  induction hl with
                  | nil => intro a ha; cases ha
                  | cons h1 _ ih =>
                    intro a ha b hb e
                    rcases List.mem_cons.1 ha with ea | ha' <;> rcases List.mem_cons.1 hb with eb | hb'
                    · rw [ea, eb]
                    · have := h1 b hb'; rw [ea] at e; omega
                    · have := h1 a ha'; rw [eb] at e; omega
                    · exact ih a ha' b hb' e
                exact hinj ws hsort y hy p hp (by omega)
              subst hyp
              rcases hr with hr | hr | ⟨hr, hr2⟩
              · exact .inl (by rw [hr])
              · exact .inr (.inl (by omega))
              · exact .inr (.inr ⟨by omega, earl_cons hr2⟩)
    · intro x hx
      rcases List.mem_append.1 hx with hx | hx
      · rcases h.tail x hx with h' | ⟨s, h'⟩
        · exact .inl h'
        · exact .inr ⟨s, List.mem_append_left _ h'⟩
      · obtain rfl := List.mem_singleton.1 hx
        exact .inr ⟨p.2, List.mem_append_left _ hp⟩
    · have := h.sorted
      rw [show -1 :: (done ++ [t]) = (-1 :: done) ++ [t] from rfl, List.pairwise_append]
      exact ⟨this, by simp, fun a ha b hb => by
        obtain rfl : b = t := by simpa using hb
        exact hlt a ha⟩
/-- the ways kept, behind all places of a row -/
def waysL : List Int → List (List Int × Int) → List (List Int × Int)
  | [], ws => ws
  | t :: ts, ws => waysL ts (match pick legal cost t ws none with | some q => ws ++ [q] | none => ws)
theorem waysL_append : ∀ (a b : List Int) (ws : List (List Int × Int)), waysL legal cost (a ++ b) ws = waysL legal cost b (waysL legal cost a ws)
  | [], b, ws => rfl
  | t :: a, b, ws => by simp only [List.cons_append, waysL]; exact waysL_append a b _
/-- one more place, at any moment -/
theorem inv_step (h0 : ∀ t, pl t = true → 0 ≤ t) (h1 : ∀ t, pl t = true → legal (-1) t = true) {done ts : List Int} {t : Int} {ws : List (List Int × Int)} (h : Inv pl legal cost done ws)
    (hall : ∀ y, pl y = true ↔ y ∈ done ++ t :: ts) (hs : List.Pairwise (· < ·) (done ++ t :: ts)) :
    ∃ q, pick legal cost t ws none = some q ∧ Inv pl legal cost (done ++ [t]) (ws ++ [q]) ∧ hd q.1 = t := by
  have ht : pl t = true := (hall t).2 (by simp)
  rw [List.pairwise_append] at hs
  refine inv_next pl legal cost h1 h t ht (fun y hy hlt => ?_) (fun y hy => ?_)
  · rcases List.mem_append.1 ((hall y).1 hy) with h' | h'
    · exact h'
    · rcases List.mem_cons.1 h' with h' | h'
      · omega
      · have := (List.pairwise_cons.1 hs.2.1).1 y h'
        omega
  · rcases List.mem_cons.1 hy with rfl | hy
    · have := h0 t ht; omega
    · exact hs.2.2 y hy t (by simp)
theorem inv_all (h0 : ∀ t, pl t = true → 0 ≤ t) (h1 : ∀ t, pl t = true → legal (-1) t = true) : ∀ (ts done : List Int) (ws : List (List Int × Int)), Inv pl legal cost done ws →
    (∀ y, pl y = true ↔ y ∈ done ++ ts) → List.Pairwise (· < ·) (done ++ ts) → Inv pl legal cost (done ++ ts) (waysL legal cost ts ws)
  | [], done, ws, h, _, _ => by simpa [waysL] using h
  | t :: ts, done, ws, h, hall, hs => by
    obtain ⟨q, hq, hi, _⟩ := inv_step pl legal cost h0 h1 h hall hs
    simp only [waysL, hq]
    have e : done ++ t :: ts = (done ++ [t]) ++ ts := by simp
    rw [e] at hall hs ⊢
    exact inv_all h0 h1 ts (done ++ [t]) (ws ++ [q]) hi hall hs
/-- the last of the ways kept is the best to the last place -/
theorem inv_last {done : List Int} {ws : List (List Int × Int)} (h : Inv pl legal cost done ws) {n : Int} (hn : done.getLast? = some n) :
    ∃ q, ws.getLast? = some q ∧ hd q.1 = n ∧ Best pl legal cost q.1 q.2 := by
  have h1 := congrArg List.getLast? h.ends
  rw [List.getLast?_map, List.getLast?_cons, hn] at h1
  cases hw : ws.getLast? with
  | none => rw [hw] at h1; cases h1
  | some q =>
    rw [hw] at h1
    refine ⟨q, rfl, by simpa using h1, h.best q (List.mem_of_getLast? hw)⟩
/-- rows of places, the first one first -/
def Fw : Int → List Int → Prop | _, [] => True | f, b :: bs => f < b ∧ pl b = true ∧ legal f b = true ∧ Fw b bs
def totF : Int → List Int → Int | _, [] => 0 | f, b :: bs => cost f b + totF b bs
theorem fw_snoc (t : Int) : ∀ (a : List Int) (f : Int), Fw pl legal f (a ++ [t]) ↔ Fw pl legal f a ∧ a.getLast?.getD f < t ∧ pl t = true ∧ legal (a.getLast?.getD f) t = true
  | [], f => by simp [Fw]
  | b :: bs, f => by
    have e : ((b :: bs).getLast?).getD f = (bs.getLast?).getD b := by
      cases bs with
      | nil => rfl
      | cons c cs => simp [List.getLast?_cons]
    rw [e, List.cons_append]
    simp only [Fw, fw_snoc t bs b]
    constructor
    · rintro ⟨h1, h2, h3, h4, h5⟩; exact ⟨⟨h1, h2, h3, h4⟩, h5⟩
    · rintro ⟨⟨h1, h2, h3, h4⟩, h5⟩; exact ⟨h1, h2, h3, h4, h5⟩
theorem totF_snoc (t : Int) : ∀ (a : List Int) (f : Int), totF cost f (a ++ [t]) = totF cost f a + cost (a.getLast?.getD f) t
  | [], f => by simp [totF]
  | b :: bs, f => by
    have e : ((b :: bs).getLast?).getD f = (bs.getLast?).getD b := by
      cases bs with
      | nil => rfl
      | cons c cs => simp [List.getLast?_cons]
    rw [e, List.cons_append]
    simp only [totF, totF_snoc t bs b]
    omega
theorem hd_rev (r : List Int) : r.reverse.getLast?.getD (-1) = hd r := by
  cases r with
  | nil => rfl
  | cons x r => simp [hd]
theorem row_fw : ∀ r : List Int, Row pl legal r ↔ Fw pl legal (-1) r.reverse
  | [] => by simp [Row, Fw]
  | t :: r => by
    rw [List.reverse_cons, fw_snoc, hd_rev, ← row_fw r]
    simp only [Row]
    constructor
    · rintro ⟨h1, h2, h3, h4⟩; exact ⟨h4, h2, h1, h3⟩
    · rintro ⟨h4, h2, h1, h3⟩; exact ⟨h1, h2, h3, h4⟩
theorem tot_fw : ∀ r : List Int, tot cost r = totF cost (-1) r.reverse
  | [] => rfl
  | t :: r => by
    rw [List.reverse_cons, totF_snoc, hd_rev, ← tot_fw r]
    rfl
end
/-- the best of a row, one behind the other -/
def bestOf {α : Type} (better : α → α → Bool) : List α → α → α
  | [], b => b
  | x :: xs, b => bestOf better xs (if better x b = true then x else b)
theorem bestOf_is {α : Type} {better : α → α → Bool} {p : α} (h0 : better p p = false) : ∀ (xs : List α) (b : α), (b = p ∨ p ∈ xs) → (∀ x, x = b ∨ x ∈ xs → x ≠ p → better p x = true ∧ better x p = false) → bestOf better xs b = p
  | [], b, h, _ => by
    rcases h with h | h
    · exact h
    · cases h
  | x :: xs, b, h, hb => by
    refine bestOf_is h0 xs _ ?_ (fun y hy hne => ?_)
    · rcases h with rfl | h
      · left
        by_cases hx : x = b
        · rw [hx, h0]; rfl
        · rw [(hb x (.inr (by simp)) hx).2]; rfl
      · rcases List.mem_cons.1 h with h' | h'
        · left
          by_cases hx : b = p
          · by_cases e : better x b = true
            · rw [if_pos e, h']
            · rw [if_neg e, hx]
          · have := (hb b (.inl rfl) hx).1
            rw [← h', this]
            rfl
        · exact .inr h'
    · rcases hy with hy | hy
      · apply hb y _ hne
        subst hy
        by_cases e : better x b = true
        · rw [if_pos e]; exact .inr (by simp)
        · rw [if_neg e]; exact .inl rfl
      · exact hb y (.inr (List.mem_cons_of_mem _ hy)) hne
end Go.DP
