/- Texts of this seat, one behind the other. -/
import Derived.Lib.Hide
import Derived.WalkKit
import Derived.Outline
import Derived.Test.YthcmfjpheanphaaXTreeMay1
import Derived.Test.YthcmfjpheanphaaXTreeMay2
import Derived.Test.YthcmfjpheanphaaXTreeMay3
import Derived.Test.YthcmfjpheanphaaXTreeMay4
import Derived.Test.YthcmfjpheanphaaXTreeMay5
import Derived.Test.YthcmfjpheanphaaXTreeMay6
import Derived.Test.YthcmfjpheanphaaXTreeMay7
set_option linter.unusedVariables false
set_option linter.unusedSimpArgs false
namespace Go.Proofs.Ythcmfjpheanphaa.Pr
open Go.RowKit Go.Proofs.YthcmfjpheanphaaW.PrintWords Go.Proofs.YthcmfjpheanphaaW.PrintLast Go.Proofs.YthcmfjpheanphaaW.PrintMore
attribute [local go_sem] max2_int min2_int max_two min_two max_three min_three max_four min_four
mutual
def tree_sized.l0 : Nat → List (S56) → Int → Int → Option (Bool)
 | 0, _, _, _ => none
 | k + 1, x0, x1, x2 => if x1 < x2 then (if 0 ≤ x1 then (if x1 < (x0.length : Int) then (if ((rd_T56 x0 x1).f3) < 1 then (some false) else (if ((rd_T56 x0 x1).f3) > (wrap64 (x2 - x1)) then (some false) else ((tree_sized.f k x0 (wrap64 (x1 + 1)) (wrap64 (x1 + ((rd_T56 x0 x1).f3)))).bind fun t233 => (if t233 = true then (tree_sized.l0 k x0 (wrap64 (x1 + ((rd_T56 x0 x1).f3))) x2) else (some false))))) else (none)) else (none)) else (some true)
def tree_sized.f : Nat → List (S56) → Int → Int → Option (Bool)
 | 0, _, _, _ => none
 | k + 1, l0, a1, a2 => tree_sized.l0 k l0 a1 a2
end
theorem tree_sized.mono_l : ∀ k, (∀ y0 y1 y2, LeO (tree_sized.f k y0 y1 y2) (tree_sized.f (k + 1) y0 y1 y2)) ∧ (∀ y0 y1 y2, LeO (tree_sized.l0 k y0 y1 y2) (tree_sized.l0 (k + 1) y0 y1 y2))
 | 0 => ⟨fun _ _ _ r h => by simp [tree_sized.f] at h, fun _ _ _ r h => by simp [tree_sized.l0] at h⟩
 | k + 1 => by
  obtain ⟨ih0, ih1⟩ := tree_sized.mono_l k
  refine ⟨?_, ?_⟩
  ·intro y0 y1 y2
   unfold tree_sized.f
   repeat' first
   | (with_reducible exact ih0 _ _ _)
   | (with_reducible exact ih1 _ _ _)
   | (with_reducible exact LeO.refl _)
   | (with_reducible exact LeO.none _)
   | (with_reducible refine LeO.ite ?_ ?_)
   | (with_reducible refine LeO.bind ?_ (fun _ => ?_))
   | exact ih0 _ _ _
   | exact ih1 _ _ _
   | exact LeO.none _
   | refine LeO.ite ?_ ?_
   | refine LeO.bind ?_ (fun _ => ?_)
  ·intro y0 y1 y2
   unfold tree_sized.l0
   repeat' first
   | (with_reducible exact ih0 _ _ _)
   | (with_reducible exact ih1 _ _ _)
   | (with_reducible exact LeO.refl _)
   | (with_reducible exact LeO.none _)
   | (with_reducible refine LeO.ite ?_ ?_)
   | (with_reducible refine LeO.bind ?_ (fun _ => ?_))
   | exact ih0 _ _ _
   | exact ih1 _ _ _
   | exact LeO.none _
   | refine LeO.ite ?_ ?_
   | refine LeO.bind ?_ (fun _ => ?_)
theorem tree_sized.mono : ∀ a0 a1 a2 k, LeO (tree_sized.f k a0 a1 a2) (tree_sized.f (k + 1) a0 a1 a2) := by
 intro a0 a1 a2 k
 obtain ⟨ih0, ih1⟩ := tree_sized.mono_l k
 exact ih0 a0 a1 a2
set_option maxHeartbeats 8000000 in
set_option maxRecDepth 100000 in
theorem tree_sized.calls (k : Nat) : ∀ (A0 : Option Addr) (c0 : Nat) (l0 : List (S56)) (a1 : Int) (a2 : Int) (r : Bool) (w : World) (hr0 : Kd.C k56 w A0 l0.length l0) (hc0 : l0.length ≤ c0) (h : tree_sized.f k l0 a1 a2 = some r),
  Calls Try.prog 102 #[.slice A0 l0.length c0, .int .i64 a1, .int .i64 a2] w fun e w' => e = .returned (.bool r) ∧ Below w.heap.size w w' := by
 induction k using Nat.strongRecOn with
 | _ k ih =>
 intro A0 c0 l0 a1 a2 r w hr0 hc0 h
 cases k with
 | zero => exact absurd h (by simp [tree_sized.f])
 | succ k =>
 simp only [tree_sized.f] at h
 have hu56 := Try.underlying56
 have HR0 := Aside0.mk hr0
 have HC0 := Aside0.mk hc0
 clear hr0 hc0
 have HB := Aside0.mk (Below.refl w.heap.size w)
 have H : (tree_sized.l0 k l0 a1 a2) = some r := h
 clear h
 have H' := Aside0.mk H
 clear H
 go_enter Try.func102, Try.ntmps102
 go_wp2
 go_loopg [1] k (fun kq v1 w' => ∃ (x1_1 : Int), v1 = .int .i64 x1_1 ∧ Aside0 (tree_sized.l0 kq l0 x1_1 a2 = some r) ∧ Aside0 (kq ≤ k) ∧ Aside0 (Below w.heap.size w w'))
 case atStart => exact ⟨(a1), (by first | rfl | (simp; done) | (simp [*]; done)), H', ⟨Nat.le_refl _⟩, ⟨by repeat (first | (with_reducible first | exact HB.out | apply below_alloc | apply pw_below_drewN | apply below_drew1) | exact HB.out)⟩⟩
 case round =>
  clear H'
  try clear c1
  try clear p2
  obtain ⟨x1_1, rfl, HA, HK1, HB⟩ := hrel
  cases gk with
  | zero => exact absurd HA.out (by simp [tree_sized.l0])
  | succ k1 =>
   have H := HA.out
   clear HA
   simp only [tree_sized.l0] at H
   by_cases c4 : x1_1 < a2
   ·rw [if_pos c4] at H
    have c4b0 : decide (x1_1 < a2) = true := decide_eq_true c4
    clear c4
    by_cases c5 : 0 ≤ x1_1
    ·rw [if_pos c5] at H
     have c5b0 : decide (0 ≤ x1_1) = true := decide_eq_true c5
     clear c5
     by_cases c6 : x1_1 < (l0.length : Int)
     ·rw [if_pos c6] at H
      have c6b0 : decide (x1_1 < (l0.length : Int)) = true := decide_eq_true c6
      clear c6
      by_cases c7 : ((rd_T56 l0 x1_1).f3) < 1
      ·rw [if_pos c7] at H
       have c7b0 : decide (((rd_T56 l0 x1_1).f3) < 1) = true := decide_eq_true c7
       clear c7
       obtain rfl := Option.some.inj H
       have p231 : 0 ≤ (x1_1 : Int) := of_decide_eq_true (by first | (with_reducible assumption) | assumption)
       have q231 : x1_1 < (l0.length : Int) := of_decide_eq_true (by first | (with_reducible assumption) | assumption)
       obtain ⟨ad231, e231, hx231_0, hx231_1, hx231_2, hx231_3⟩ := at_T56 HR0.out x1_1 p231 q231
       cases e231
       replace hx231_0 := (HB.out.cell (World.block_lt_of_cell? w _ hx231_0)).trans hx231_0
       replace hx231_1 := (HB.out.cell (World.block_lt_of_cell? w _ hx231_1)).trans hx231_1
       replace hx231_2 := (HB.out.cell (World.block_lt_of_cell? w _ hx231_2)).trans hx231_2
       replace hx231_3 := (HB.out.cell (World.block_lt_of_cell? w _ hx231_3)).trans hx231_3
       replace p231 := eq_true p231
       replace q231 := eq_true q231
       go_wp2_with (first | ((with_reducible refine gate_dst (N := 7) rfl ?_); refine box_event ?hg (N := 7) ?hd (cs := #[.int .u8 0, .string (⟨#[]⟩ : ByteArray), .int .i64 0, .int .i64 0]) (t := 56) ?hr ?_; (case hd => rfl); (case hg => rfl); (case hr => first | (go_simp; done) | (go_simp; rfl)); intro gb232 hg w8 hbox hb; have n0_ := Aside0.mk (below_step (by repeat (first | (with_reducible first | exact HB.out | apply below_alloc | apply pw_below_drewN | apply below_drew1) | exact HB.out)) hb); have n1_ := Aside0.mk (hbox); have n2_ := Aside0.mk ((by rw [hg]; exact (below_size (by repeat (first | (with_reducible first | exact HB.out | apply below_alloc | apply pw_below_drewN | apply below_drew1) | exact HB.out))) : w.heap.size ≤ gb232)); have n3_ := Aside0.mk ((by rw [hg]; exact (below_size (by repeat (first | (with_reducible first | exact HB.out | apply below_alloc | apply pw_below_drewN | apply below_drew1) | exact HB.out))) : w.heap.size ≤ gb232)); clear HB; have HB := n0_; have BK232 := n1_; have GW232 := n2_; have GE232 := n3_; clear n0_ n1_ n2_ n3_; clear hb hbox hg; have hcz9_0 : w8.cell? ⟨gb232, 0, none⟩ = some (.int .u8 0) := (blk_cell BK232.out 0).trans rfl; have hcz9_1 : w8.cell? ⟨gb232, 1, none⟩ = some (.string (⟨#[]⟩ : ByteArray)) := (blk_cell BK232.out 1).trans rfl; have hcz9_2 : w8.cell? ⟨gb232, 2, none⟩ = some (.int .i64 0) := (blk_cell BK232.out 2).trans rfl; have hcz9_3 : w8.cell? ⟨gb232, 3, none⟩ = some (.int .i64 0) := (blk_cell BK232.out 3).trans rfl; have hfz9_0 := blk_frozen BK232.out 0; have hfz9_1 := blk_frozen BK232.out 1; have hfz9_2 := blk_frozen BK232.out 2; have hfz9_3 := blk_frozen BK232.out 3))
       go_ret
       exact ⟨by first | rfl | (simp [errW_none, errW_some] <;> rfl) | (simp [*, errW_none, errW_some] <;> rfl), by repeat (first | (with_reducible first | exact HB.out | apply below_alloc | apply pw_below_drewN | apply below_drew1 | refine below_set ?_ GE232.out) | exact HB.out)⟩
      ·rw [if_neg c7] at H
       have c7b0 : decide (((rd_T56 l0 x1_1).f3) < 1) = false := decide_eq_false c7
       clear c7
       by_cases c10 : ((rd_T56 l0 x1_1).f3) > (wrap64 (a2 - x1_1))
       ·rw [if_pos c10] at H
        have c10b0 : decide ((wrap64 (a2 - x1_1)) < ((rd_T56 l0 x1_1).f3)) = true := decide_eq_true c10
        clear c10
        obtain rfl := Option.some.inj H
        have p231 : 0 ≤ (x1_1 : Int) := of_decide_eq_true (by first | (with_reducible assumption) | assumption)
        have q231 : x1_1 < (l0.length : Int) := of_decide_eq_true (by first | (with_reducible assumption) | assumption)
        obtain ⟨ad231, e231, hx231_0, hx231_1, hx231_2, hx231_3⟩ := at_T56 HR0.out x1_1 p231 q231
        cases e231
        replace hx231_0 := (HB.out.cell (World.block_lt_of_cell? w _ hx231_0)).trans hx231_0
        replace hx231_1 := (HB.out.cell (World.block_lt_of_cell? w _ hx231_1)).trans hx231_1
        replace hx231_2 := (HB.out.cell (World.block_lt_of_cell? w _ hx231_2)).trans hx231_2
        replace hx231_3 := (HB.out.cell (World.block_lt_of_cell? w _ hx231_3)).trans hx231_3
        replace p231 := eq_true p231
        replace q231 := eq_true q231
        go_wp2_with (first | ((with_reducible refine gate_dst (N := 7) rfl ?_); refine box_event ?hg (N := 7) ?hd (cs := #[.int .u8 0, .string (⟨#[]⟩ : ByteArray), .int .i64 0, .int .i64 0]) (t := 56) ?hr ?_; (case hd => rfl); (case hg => rfl); (case hr => first | (go_simp; done) | (go_simp; rfl)); intro gb232 hg w11 hbox hb; have n0_ := Aside0.mk (below_step (by repeat (first | (with_reducible first | exact HB.out | apply below_alloc | apply pw_below_drewN | apply below_drew1) | exact HB.out)) hb); have n1_ := Aside0.mk (hbox); have n2_ := Aside0.mk ((by rw [hg]; exact (below_size (by repeat (first | (with_reducible first | exact HB.out | apply below_alloc | apply pw_below_drewN | apply below_drew1) | exact HB.out))) : w.heap.size ≤ gb232)); have n3_ := Aside0.mk ((by rw [hg]; exact (below_size (by repeat (first | (with_reducible first | exact HB.out | apply below_alloc | apply pw_below_drewN | apply below_drew1) | exact HB.out))) : w.heap.size ≤ gb232)); clear HB; have HB := n0_; have BK232 := n1_; have GW232 := n2_; have GE232 := n3_; clear n0_ n1_ n2_ n3_; clear hb hbox hg; have hcz12_0 : w11.cell? ⟨gb232, 0, none⟩ = some (.int .u8 0) := (blk_cell BK232.out 0).trans rfl; have hcz12_1 : w11.cell? ⟨gb232, 1, none⟩ = some (.string (⟨#[]⟩ : ByteArray)) := (blk_cell BK232.out 1).trans rfl; have hcz12_2 : w11.cell? ⟨gb232, 2, none⟩ = some (.int .i64 0) := (blk_cell BK232.out 2).trans rfl; have hcz12_3 : w11.cell? ⟨gb232, 3, none⟩ = some (.int .i64 0) := (blk_cell BK232.out 3).trans rfl; have hfz12_0 := blk_frozen BK232.out 0; have hfz12_1 := blk_frozen BK232.out 1; have hfz12_2 := blk_frozen BK232.out 2; have hfz12_3 := blk_frozen BK232.out 3))
        go_ret
        exact ⟨by first | rfl | (simp [errW_none, errW_some] <;> rfl) | (simp [*, errW_none, errW_some] <;> rfl), by repeat (first | (with_reducible first | exact HB.out | apply below_alloc | apply pw_below_drewN | apply below_drew1 | refine below_set ?_ GE232.out) | exact HB.out)⟩
       ·rw [if_neg c10] at H
        have c10b0 : decide ((wrap64 (a2 - x1_1)) < ((rd_T56 l0 x1_1).f3)) = false := decide_eq_false c10
        clear c10
        replace H := Option.bind_eq_some_iff.mp H
        obtain ⟨t233, A130, H⟩ := H
        replace H : (if t233 = true then (tree_sized.l0 k1 l0 (wrap64 (x1_1 + ((rd_T56 l0 x1_1).f3))) a2) else (some false)) = some r := H
        have A13 := Aside0.mk A130
        clear A130
        by_cases c14 : t233 = true
        ·subst c14
         have H1 : (tree_sized.l0 k1 l0 (wrap64 (x1_1 + ((rd_T56 l0 x1_1).f3))) a2) = some r := by rw [if_pos rfl] at H; exact H
         clear H
         have H := H1
         clear H1
         have H' := Aside0.mk H
         clear H
         have p231 : 0 ≤ (x1_1 : Int) := of_decide_eq_true (by first | (with_reducible assumption) | assumption)
         have q231 : x1_1 < (l0.length : Int) := of_decide_eq_true (by first | (with_reducible assumption) | assumption)
         obtain ⟨ad231, e231, hx231_0, hx231_1, hx231_2, hx231_3⟩ := at_T56 HR0.out x1_1 p231 q231
         cases e231
         replace hx231_0 := (HB.out.cell (World.block_lt_of_cell? w _ hx231_0)).trans hx231_0
         replace hx231_1 := (HB.out.cell (World.block_lt_of_cell? w _ hx231_1)).trans hx231_1
         replace hx231_2 := (HB.out.cell (World.block_lt_of_cell? w _ hx231_2)).trans hx231_2
         replace hx231_3 := (HB.out.cell (World.block_lt_of_cell? w _ hx231_3)).trans hx231_3
         replace p231 := eq_true p231
         replace q231 := eq_true q231
         go_wp2_with (first | ((with_reducible refine gate_dst (N := 7) rfl ?_); refine box_event ?hg (N := 7) ?hd (cs := #[.int .u8 0, .string (⟨#[]⟩ : ByteArray), .int .i64 0, .int .i64 0]) (t := 56) ?hr ?_; (case hd => rfl); (case hg => rfl); (case hr => first | (go_simp; done) | (go_simp; rfl)); intro gb232 hg w15 hbox hb; have n0_ := Aside0.mk (below_step (by repeat (first | (with_reducible first | exact HB.out | apply below_alloc | apply pw_below_drewN | apply below_drew1) | exact HB.out)) hb); have n1_ := Aside0.mk (hbox); have n2_ := Aside0.mk ((by rw [hg]; exact (below_size (by repeat (first | (with_reducible first | exact HB.out | apply below_alloc | apply pw_below_drewN | apply below_drew1) | exact HB.out))) : w.heap.size ≤ gb232)); have n3_ := Aside0.mk ((by rw [hg]; exact (below_size (by repeat (first | (with_reducible first | exact HB.out | apply below_alloc | apply pw_below_drewN | apply below_drew1) | exact HB.out))) : w.heap.size ≤ gb232)); clear HB; have HB := n0_; have BK232 := n1_; have GW232 := n2_; have GE232 := n3_; clear n0_ n1_ n2_ n3_; clear hb hbox hg; have hcz16_0 : w15.cell? ⟨gb232, 0, none⟩ = some (.int .u8 0) := (blk_cell BK232.out 0).trans rfl; have hcz16_1 : w15.cell? ⟨gb232, 1, none⟩ = some (.string (⟨#[]⟩ : ByteArray)) := (blk_cell BK232.out 1).trans rfl; have hcz16_2 : w15.cell? ⟨gb232, 2, none⟩ = some (.int .i64 0) := (blk_cell BK232.out 2).trans rfl; have hcz16_3 : w15.cell? ⟨gb232, 3, none⟩ = some (.int .i64 0) := (blk_cell BK232.out 3).trans rfl; have hfz16_0 := blk_frozen BK232.out 0; have hfz16_1 := blk_frozen BK232.out 1; have hfz16_2 := blk_frozen BK232.out 2; have hfz16_3 := blk_frozen BK232.out 3) | (go_at_call 102; (with_reducible refine (ih k1 (by have := HK1.out; omega) _ _ l0 (wrap64 (x1_1 + 1)) (wrap64 (x1_1 + ((rd_T56 l0 x1_1).f3))) true _ ?side1 ?side2 A13.out).mono ?_); (case side1 => exact Kd.C_below HR0.out (by repeat (first | (with_reducible first | exact HB.out | apply below_alloc | apply pw_below_drewN | apply below_drew1 | refine below_set ?_ GE232.out) | exact HB.out))); (case side2 => exact HC0.out); rintro e w17 ⟨rfl, hb⟩; have n0_ := Aside0.mk (blk_below (g := gb232) (o := .cells #[.int .u8 ((rd_T56 l0 x1_1).f0), .string ((rd_T56 l0 x1_1).f1), .int .i64 ((rd_T56 l0 x1_1).f2), .int .i64 ((rd_T56 l0 x1_1).f3)] 56 (0, 0)) (by (with_reducible repeat (first | refine blk_drewN ?_ _ | refine blk_drew ?_ | refine blk_alloc ?_ _)); refine blk_put (cs := #[.int .u8 ((rd_T56 l0 x1_1).f0), .string ((rd_T56 l0 x1_1).f1), .int .i64 ((rd_T56 l0 x1_1).f2), .int .i64 0]) ?_ 3 _ rfl; (with_reducible repeat (first | refine blk_drewN ?_ _ | refine blk_drew ?_ | refine blk_alloc ?_ _)); refine blk_put (cs := #[.int .u8 ((rd_T56 l0 x1_1).f0), .string ((rd_T56 l0 x1_1).f1), .int .i64 0, .int .i64 0]) ?_ 2 _ rfl; (with_reducible repeat (first | refine blk_drewN ?_ _ | refine blk_drew ?_ | refine blk_alloc ?_ _)); refine blk_put (cs := #[.int .u8 ((rd_T56 l0 x1_1).f0), .string (⟨#[]⟩ : ByteArray), .int .i64 0, .int .i64 0]) ?_ 1 _ rfl; (with_reducible repeat (first | refine blk_drewN ?_ _ | refine blk_drew ?_ | refine blk_alloc ?_ _)); refine blk_put (cs := #[.int .u8 0, .string (⟨#[]⟩ : ByteArray), .int .i64 0, .int .i64 0]) ?_ 0 _ rfl; (with_reducible repeat (first | refine blk_drewN ?_ _ | refine blk_drew ?_ | refine blk_alloc ?_ _)); exact BK232.out) hb); have n1_ := Aside0.mk (below_step (by repeat (first | (with_reducible first | exact HB.out | apply below_alloc | apply pw_below_drewN | apply below_drew1 | refine below_set ?_ GE232.out) | exact HB.out)) hb); clear BK232; clear HB; have BK232 := n0_; have HB := n1_; clear n0_ n1_; (try clear hb); (try clear hb2); (try clear hk); (try clear hi); have hcz18_0 : w17.cell? ⟨gb232, 0, none⟩ = some (.int .u8 ((rd_T56 l0 x1_1).f0)) := (blk_cell BK232.out 0).trans rfl; have hcz18_1 : w17.cell? ⟨gb232, 1, none⟩ = some (.string ((rd_T56 l0 x1_1).f1)) := (blk_cell BK232.out 1).trans rfl; have hcz18_2 : w17.cell? ⟨gb232, 2, none⟩ = some (.int .i64 ((rd_T56 l0 x1_1).f2)) := (blk_cell BK232.out 2).trans rfl; have hcz18_3 : w17.cell? ⟨gb232, 3, none⟩ = some (.int .i64 ((rd_T56 l0 x1_1).f3)) := (blk_cell BK232.out 3).trans rfl; have hfz18_0 := blk_frozen BK232.out 0; have hfz18_1 := blk_frozen BK232.out 1; have hfz18_2 := blk_frozen BK232.out 2; have hfz18_3 := blk_frozen BK232.out 3))
         go_roundg k1
         case measure => have := HK1.out; omega
         case rel => exact ⟨(wrap64 (x1_1 + ((rd_T56 l0 x1_1).f3))), (by first | rfl | (simp; done) | (simp [*]; done)), H', ⟨by have := HK1.out; omega⟩, ⟨by repeat (first | (with_reducible first | exact HB.out | apply below_alloc | apply pw_below_drewN | apply below_drew1 | refine below_set ?_ GE232.out) | exact HB.out)⟩⟩
        ·replace c14 := Bool.eq_false_iff.mpr c14
         subst c14
         have H1 : (some false) = some r := by rw [if_neg (show ¬ (false = true) by decide)] at H; exact H
         clear H
         have H := H1
         clear H1
         obtain rfl := Option.some.inj H
         have p231 : 0 ≤ (x1_1 : Int) := of_decide_eq_true (by first | (with_reducible assumption) | assumption)
         have q231 : x1_1 < (l0.length : Int) := of_decide_eq_true (by first | (with_reducible assumption) | assumption)
         obtain ⟨ad231, e231, hx231_0, hx231_1, hx231_2, hx231_3⟩ := at_T56 HR0.out x1_1 p231 q231
         cases e231
         replace hx231_0 := (HB.out.cell (World.block_lt_of_cell? w _ hx231_0)).trans hx231_0
         replace hx231_1 := (HB.out.cell (World.block_lt_of_cell? w _ hx231_1)).trans hx231_1
         replace hx231_2 := (HB.out.cell (World.block_lt_of_cell? w _ hx231_2)).trans hx231_2
         replace hx231_3 := (HB.out.cell (World.block_lt_of_cell? w _ hx231_3)).trans hx231_3
         replace p231 := eq_true p231
         replace q231 := eq_true q231
         go_wp2_with (first | ((with_reducible refine gate_dst (N := 7) rfl ?_); refine box_event ?hg (N := 7) ?hd (cs := #[.int .u8 0, .string (⟨#[]⟩ : ByteArray), .int .i64 0, .int .i64 0]) (t := 56) ?hr ?_; (case hd => rfl); (case hg => rfl); (case hr => first | (go_simp; done) | (go_simp; rfl)); intro gb232 hg w19 hbox hb; have n0_ := Aside0.mk (below_step (by repeat (first | (with_reducible first | exact HB.out | apply below_alloc | apply pw_below_drewN | apply below_drew1) | exact HB.out)) hb); have n1_ := Aside0.mk (hbox); have n2_ := Aside0.mk ((by rw [hg]; exact (below_size (by repeat (first | (with_reducible first | exact HB.out | apply below_alloc | apply pw_below_drewN | apply below_drew1) | exact HB.out))) : w.heap.size ≤ gb232)); have n3_ := Aside0.mk ((by rw [hg]; exact (below_size (by repeat (first | (with_reducible first | exact HB.out | apply below_alloc | apply pw_below_drewN | apply below_drew1) | exact HB.out))) : w.heap.size ≤ gb232)); clear HB; have HB := n0_; have BK232 := n1_; have GW232 := n2_; have GE232 := n3_; clear n0_ n1_ n2_ n3_; clear hb hbox hg; have hcz20_0 : w19.cell? ⟨gb232, 0, none⟩ = some (.int .u8 0) := (blk_cell BK232.out 0).trans rfl; have hcz20_1 : w19.cell? ⟨gb232, 1, none⟩ = some (.string (⟨#[]⟩ : ByteArray)) := (blk_cell BK232.out 1).trans rfl; have hcz20_2 : w19.cell? ⟨gb232, 2, none⟩ = some (.int .i64 0) := (blk_cell BK232.out 2).trans rfl; have hcz20_3 : w19.cell? ⟨gb232, 3, none⟩ = some (.int .i64 0) := (blk_cell BK232.out 3).trans rfl; have hfz20_0 := blk_frozen BK232.out 0; have hfz20_1 := blk_frozen BK232.out 1; have hfz20_2 := blk_frozen BK232.out 2; have hfz20_3 := blk_frozen BK232.out 3) | (go_at_call 102; (with_reducible refine (ih k1 (by have := HK1.out; omega) _ _ l0 (wrap64 (x1_1 + 1)) (wrap64 (x1_1 + ((rd_T56 l0 x1_1).f3))) false _ ?side1 ?side2 A13.out).mono ?_); (case side1 => exact Kd.C_below HR0.out (by repeat (first | (with_reducible first | exact HB.out | apply below_alloc | apply pw_below_drewN | apply below_drew1 | refine below_set ?_ GE232.out) | exact HB.out))); (case side2 => exact HC0.out); rintro e w21 ⟨rfl, hb⟩; have n0_ := Aside0.mk (blk_below (g := gb232) (o := .cells #[.int .u8 ((rd_T56 l0 x1_1).f0), .string ((rd_T56 l0 x1_1).f1), .int .i64 ((rd_T56 l0 x1_1).f2), .int .i64 ((rd_T56 l0 x1_1).f3)] 56 (0, 0)) (by (with_reducible repeat (first | refine blk_drewN ?_ _ | refine blk_drew ?_ | refine blk_alloc ?_ _)); refine blk_put (cs := #[.int .u8 ((rd_T56 l0 x1_1).f0), .string ((rd_T56 l0 x1_1).f1), .int .i64 ((rd_T56 l0 x1_1).f2), .int .i64 0]) ?_ 3 _ rfl; (with_reducible repeat (first | refine blk_drewN ?_ _ | refine blk_drew ?_ | refine blk_alloc ?_ _)); refine blk_put (cs := #[.int .u8 ((rd_T56 l0 x1_1).f0), .string ((rd_T56 l0 x1_1).f1), .int .i64 0, .int .i64 0]) ?_ 2 _ rfl; (with_reducible repeat (first | refine blk_drewN ?_ _ | refine blk_drew ?_ | refine blk_alloc ?_ _)); refine blk_put (cs := #[.int .u8 ((rd_T56 l0 x1_1).f0), .string (⟨#[]⟩ : ByteArray), .int .i64 0, .int .i64 0]) ?_ 1 _ rfl; (with_reducible repeat (first | refine blk_drewN ?_ _ | refine blk_drew ?_ | refine blk_alloc ?_ _)); refine blk_put (cs := #[.int .u8 0, .string (⟨#[]⟩ : ByteArray), .int .i64 0, .int .i64 0]) ?_ 0 _ rfl; (with_reducible repeat (first | refine blk_drewN ?_ _ | refine blk_drew ?_ | refine blk_alloc ?_ _)); exact BK232.out) hb); have n1_ := Aside0.mk (below_step (by repeat (first | (with_reducible first | exact HB.out | apply below_alloc | apply pw_below_drewN | apply below_drew1 | refine below_set ?_ GE232.out) | exact HB.out)) hb); clear BK232; clear HB; have BK232 := n0_; have HB := n1_; clear n0_ n1_; (try clear hb); (try clear hb2); (try clear hk); (try clear hi)))
         go_ret
         exact ⟨by first | rfl | (simp [errW_none, errW_some] <;> rfl) | (simp [*, errW_none, errW_some] <;> rfl), by repeat (first | (with_reducible first | exact HB.out | apply below_alloc | apply pw_below_drewN | apply below_drew1 | refine below_set ?_ GE232.out) | exact HB.out)⟩
     ·rw [if_neg c6] at H
      exact absurd H (by simp)
    ·rw [if_neg c5] at H
     exact absurd H (by simp)
   ·rw [if_neg c4] at H
    have c4b0 : decide (x1_1 < a2) = false := decide_eq_false c4
    clear c4
    obtain rfl := Option.some.inj H
    go_wp2
    go_ret
    exact ⟨by first | rfl | (simp [errW_none, errW_some] <;> rfl) | (simp [*, errW_none, errW_some] <;> rfl), by repeat (first | (with_reducible first | exact HB.out | apply below_alloc | apply pw_below_drewN | apply below_drew1) | exact HB.out)⟩
end Go.Proofs.Ythcmfjpheanphaa.Pr
namespace Go.Proofs.Ythcmfjpheanphaa.Pr
open Go.RowKit Go.Maps Go.Proofs.YthcmfjpheanphaaW.PrintWords
attribute [local go_sem] Oper.semAt_some
def checkGo : Bld → Int → List S47 → Int
 | _, out, [] => out
 | s, out, x :: l => if (x.f0 == 1 && !mayP s.row 46) = true then 2
  else if worseP out (stepP s x).2.2 = 2 then 2 else checkGo (stepP s x).1 (worseP out (stepP s x).2.2) l
set_option pp.maxSteps 3000 in
set_option maxRecDepth 100000 in
set_option maxHeartbeats 16000000 in
theorem check_run (A0 : Option Addr) (c0 : Nat) (t : List S56) (w : World) (hlen : t.length ≤ 400000) (hz : ∀ x ∈ t, x.f1.size ≤ 1000000) (hA : Kd.C k56 w A0 t.length t) (hc0 : t.length ≤ c0)
  (k1 : Nat) (b : Bool) (hsz : tree_sized.f k1 t 0 (t.length : Int) = some b) (k2 : Nat) (ev : List S47) (hev : b = true → tree_events.f k2 t = some ev ∧ ev.length ≤ 800000 ∧ ∀ x ∈ ev, LexOk 1000000 x) :
  Calls Try.prog 57 #[.slice A0 t.length c0] w fun e w' => e = .returned (.int .i64 (if ((t.any fun x => !plainB x) || !b) = true then 2 else checkGo bld0 0 ev)) ∧ Below w.heap.size w w' := by
 have HA := Lib.hid hA
 have HCN := Lib.hid (containsN_calls A0 c0 t w (by omega) (fun x hx => by have := hz x hx; omega) hA)
 have HSZ := Lib.hid (fun W (hW : Kd.C k56 W A0 t.length t) => tree_sized.calls k1 A0 c0 t 0 (t.length : Int) b W hW hc0 hsz)
 have HEV := Lib.hid hev
 obtain ⟨R, hR⟩ : ∃ R, (if ((t.any fun x => !plainB x) || !b) = true then 2 else checkGo bld0 0 ev) = R := ⟨_, rfl⟩
 rw [hR]
 have HR := Lib.hid hR
 clear hA hsz hev hR hz
 cases hp : (t.any fun x => !plainB x)
 ·rw [hp] at HCN HR
  clear hp
  cases b
  ·have HR2 := Lib.hid (show R = 2 from HR.out.symm)
   go_enter Try.func57, Try.ntmps57
   go_wp2_with (first | (go_at_call 99; (with_reducible refine HCN.out.mono ?_); rintro e w1 ⟨rfl, hb1⟩) | (go_at_call 102; (with_reducible refine (HSZ.out _ (Kd.C_below HA.out hb1)).mono ?_); rintro e w2 ⟨rfl, hb2⟩))
   go_ret
   exact ⟨by rw [HR2.out]; rfl, hb1.trans (hb2.mono hb1.size)⟩
  ·obtain ⟨hE, hel, hok⟩ := HEV.out rfl
   have HE := Lib.hid (fun W (hW : Kd.C k56 W A0 t.length t) => tree_events.calls k2 A0 c0 t ev W hW hc0 hE)
   have HOK := Lib.hid hok
   have HR2 := Lib.hid (show checkGo bld0 0 ev = R from HR.out)
   clear hE hok HEV HR
   go_enter Try.func57, Try.ntmps57
   go_wp2_with (first | (go_at_call 99; (with_reducible refine HCN.out.mono ?_); rintro e w1 ⟨rfl, hb1⟩) | (go_at_call 102; (with_reducible refine (HSZ.out _ (Kd.C_below HA.out hb1)).mono ?_); rintro e w2 ⟨rfl, hb2⟩))
   have HW2 := Lib.hid (hb1.trans (hb2.mono hb1.size))
   clear hb1 hb2
   refine (begin_calls w2).mono ?_
   rintro e w3 ⟨g, m, rfl, hb, hb3⟩
   have HB := Lib.hid hb
   have HB3 := Lib.hid hb3
   clear hb hb3
   go_wp2_with fail
   have hW3 : Below w3.heap.size w3 (w3.alloc (.cells #[.nilFunc, .func (.func 92) #[.pointer (some ⟨g, 0, none⟩)] #[], .func (.func 93) #[.pointer (some ⟨g, 0, none⟩)] #[], .func (.func 94) #[.pointer (some ⟨g, 0, none⟩)] #[]] 98)) := (Below.refl _ _).alloc (Nat.le_refl _) _
   have hS3 := blk_new w3 (.cells #[.nilFunc, .func (.func 92) #[.pointer (some ⟨g, 0, none⟩)] #[], .func (.func 93) #[.pointer (some ⟨g, 0, none⟩)] #[], .func (.func 94) #[.pointer (some ⟨g, 0, none⟩)] #[]] 98)
   obtain ⟨W3, hW3'⟩ : ∃ W3, w3.alloc (.cells #[.nilFunc, .func (.func 92) #[.pointer (some ⟨g, 0, none⟩)] #[], .func (.func 93) #[.pointer (some ⟨g, 0, none⟩)] #[], .func (.func 94) #[.pointer (some ⟨g, 0, none⟩)] #[]] 98) = W3 := ⟨_, rfl⟩
   rw [hW3'] at hW3 hS3 ⊢
   clear hW3'
   have h03 : Below w.heap.size w W3 := HW2.out.trans ((HB3.out.trans (hW3.mono HB3.out.size)).mono HW2.out.size)
   refine (HE.out W3 (Kd.C_below HA.out h03)).mono ?_
   rintro e W4 ⟨v, rfl, hR4, hb4⟩
   obtain ⟨A, c, rfl, hc, hC⟩ := Kd.R_reads hR4
   have HB4 := Lib.hid ((HB.out.below hW3).below hb4)
   have HS4 := Lib.hid (blk_below hS3 hb4)
   have HR4 := Lib.hid hR4
   have HL4 := Lib.hid (h03.trans (hb4.mono h03.size))
   have hz4 : w2.heap.size ≤ W4.heap.size := Nat.le_trans (Nat.le_trans HB3.out.size hW3.size) hb4.size
   have HZ4 := Lib.hid hz4
   have HZ1 := Lib.hid HW2.out.size
   have HR4' := Lib.hid (Kd.R_lower hR4 (Nat.zero_le _))
   clear hW3 hS3 hR4 hb4 HB hC h03 HB3 HW2 HCN HSZ HE
   go_wp2_with fail
   go_loopw [5, 30] (fun v5 v wr => ∃ (k : Nat) (s : Bld) (vr vt : Value) (out : Int), k ≤ ev.length ∧ v = .int .i64 k ∧ v5 = .int .i64 out ∧ BAt wr w2.heap.size g m vr vt s ∧ BOk s k ∧ Below w2.heap.size W4 wr ∧ KeepK W4 wr ∧ checkGo s out (ev.drop k) = R) (fun _ v _ => ev.length - (intOf v).toNat)
   case atStart => exact ⟨0, bld0, _, _, 0, Nat.zero_le _, rfl, rfl, HB4.out, bld0_ok, Below.refl _ _, KeepK.refl _, HR2.out⟩
   case round =>
    obtain ⟨k, s, vr, vt, out, hk, rfl, rfl, hb, hbk, hlow, hkeep, hrun⟩ := hrel
    have HBA := Lib.hid hb
    have HBK := Lib.hid hbk
    have HLO := Lib.hid hlow
    have HKE := Lib.hid hkeep
    have HRU := Lib.hid hrun
    clear hb hbk hlow hkeep hrun
    by_cases hlt : k < ev.length
    ·have hlt1 : (k : Int) < (ev.length : Int) := by omega
     have hRw := R47_keep HR4'.out HKE.out
     obtain ⟨A', c', he', _, hC⟩ := Kd.R_reads hRw
     simp only [Value.slice.injEq] at he'
     obtain ⟨rfl, -, rfl⟩ := he'
     obtain ⟨ad, e1, q0, q1, q2, q3⟩ := at_T47 hC k (by omega) (by omega)
     subst e1
     simp only [Int.toNat_natCast] at q0 q1 q2 q3
     have hxl : ev[k]? = some (rd_T47 ev k) := by
      unfold rd_T47
      rw [Int.toNat_natCast, List.getD_eq_getElem?_getD, List.getElem?_eq_getElem hlt]
      rfl
     have hxok := HOK.out _ (List.mem_of_getElem? hxl)
     have hdrop : ev.drop k = rd_T47 ev k :: ev.drop (k + 1) := by
      rw [List.drop_eq_getElem_cons hlt]
      rw [List.getElem?_eq_getElem hlt] at hxl
      rw [Option.some.inj hxl]
     have hst := HRU.out
     rw [hdrop] at hst
     have hst2 : (if ((rd_T47 ev k).f0 == 1 && !mayP s.row 46) = true then 2 else if worseP out (stepP s (rd_T47 ev k)).2.2 = 2 then 2 else checkGo (stepP s (rd_T47 ev k)).1 (worseP out (stepP s (rd_T47 ev k)).2.2) (ev.drop (k + 1))) = R := hst
     clear hst hdrop hxl hRw hC
     generalize rd_T47 ev k = x at *
     have hstep := fun W (hW : BAt W w2.heap.size g m vr vt s) (hz : w2.heap.size ≤ W.heap.size) => step_calls w2.heap.size g m vr vt s x W hxok hz (by have := HBK.out.row; omega) (by have := HBK.out.t; omega) HBK.out.kinds HBK.out.pos HBK.out.chain hW
     have hmay := fun W (hW : BAt W w2.heap.size g m vr vt s) => may_calls w2.heap.size g m vr vt s 46 W (by omega) (by omega) (by have := HBK.out.row; omega) HBK.out.kinds hW
     have hok2 := stepP_ok HBK.out hxok
     have hf := hxok.1
     obtain ⟨f0, f1, f2, f3⟩ := x
     simp only at hstep q0 q1 q2 q3 hf hst2
     obtain ⟨⟨s', ra, re⟩, hRR⟩ : ∃ r, stepP s ⟨f0, f1, f2, f3⟩ = r := ⟨_, rfl⟩
     obtain ⟨mm, hmm⟩ : ∃ b, mayP s.row 46 = b := ⟨_, rfl⟩
     simp only [hRR] at hstep hst2 hok2
     rw [hmm] at hst2
     simp only [hmm] at hmay
     obtain ⟨wo, hwo⟩ : ∃ z, worseP out re = z := ⟨_, rfl⟩
     have hworse := fun W => worse_calls out re W
     rw [hwo] at hst2
     simp only [hwo] at hworse
     have HST := Lib.hid hstep
     have HMA := Lib.hid hmay
     have HWO := Lib.hid hworse
     have HS2 := Lib.hid hst2
     have HOK2 := Lib.hid hok2
     have hX0 := blk_new wr (.cells #[.int .i64 f0, .int .u8 f1, .string f2, .int .i64 f3] 47)
     have hb0 : Below wr.heap.size wr (wr.alloc (.cells #[.int .i64 f0, .int .u8 f1, .string f2, .int .i64 f3] 47)) := (Below.refl _ _).alloc (Nat.le_refl _) _
     have HX0 := Lib.hid hX0
     have HB0 := Lib.hid hb0
     clear hstep hst2 hRR hok2 hxok hmay hworse hwo hmm hX0 hb0
     by_cases hbad : f0 = 1 ∧ mm = false
     ·obtain ⟨rfl, rfl⟩ := hbad
      have HR3 := Lib.hid (show R = 2 from HS2.out.symm)
      go_wp2_with (go_at_call 104; (with_reducible refine (HMA.out _ (HBA.out.below HB0.out)).mono ?_); rintro e w5 ⟨rfl, hb5⟩)
      go_ret
      refine ⟨by rw [HR3.out]; rfl, ?_⟩
      have hx := HL4.out.trans (HLO.out.mono HZ1.out)
      exact (hx.trans (HB0.out.mono hx.size)).trans (hb5.mono (Nat.le_trans hx.size HB0.out.size))
     ·have hst3 : (if wo = 2 then 2 else checkGo s' wo (ev.drop (k + 1))) = R := by
       rw [← HS2.out]
       have : (f0 == 1 && !mm) = false := by
        rw [Bool.and_eq_false_iff]
        by_cases e : f0 = 1
        ·right; cases mm with
         | true => rfl
         | false => exact absurd ⟨e, rfl⟩ hbad
        ·left; exact beq_eq_false_iff_ne.2 e
       rw [this]
       rfl
      have HS3 := Lib.hid hst3
      have hmode : (f0 = 1 ∧ mm = true) ∨ f0 = 2 ∨ f0 = 3 := by
       rcases hf with h | h | h
       ·left; exact ⟨h, by cases mm with | true => rfl | false => exact absurd ⟨h, rfl⟩ hbad⟩
       ·right; left; exact h
       ·right; right; exact h
      clear hst3 hbad HS2 hf
      rcases hmode with ⟨rfl, rfl⟩ | rfl | rfl
      ·go_wp2_with (go_at_call 104; (with_reducible refine (HMA.out _ (HBA.out.below HB0.out)).mono ?_); rintro e w5 ⟨rfl, hb5⟩)
       have HX5 := Lib.hid (blk_below HX0.out hb5)
       have HB5 := Lib.hid (HB0.out.trans (hb5.mono HB0.out.size))
       clear hb5
       obtain ⟨W5, hW5⟩ : ∃ W5, w5.drew = W5 := ⟨_, rfl⟩
       have hb6 : Below wr.heap.size wr W5 := by rw [← hW5]; exact below_drew1 HB5.out
       have hmv : ∀ (i : Nat) (o : Obj), w5.heap[i]? = some o → W5.heap[i]? = some o := fun i o ho => by rw [← hW5]; exact ho
       have hX6 := hmv _ _ HX5.out
       clear hmv
       have hS6 := blk_below (HKE.out _ _ HS4.out rfl) hb6
       have HX6 := Lib.hid hX6
       have HS6 := Lib.hid hS6
       have HB6 := Lib.hid hb6
       clear hX6 hS6 hb6
       refine Go.Mix.region_mix' (fun b W => cond b (StepTo w2.heap.size g m s' W5 W) (W = W5)) 5 11 [] (by kernel_rfl) (by kernel_rfl) (fun _ _ _ _ _ h => h) hW5 ?_
       clear hW5 q0 q1 q2 q3
       refine Go.Mix.seqE_nil ?_
       repeat
        apply Go.Mix.seqM_cons (by rfl) (by rfl)
        focus
         intro b W hS
         have hX := step_keep hS HX6.out rfl
         have hZ := step_keep hS HS6.out rfl
         have x0 := blk_cell hX 0
         have x1 := blk_cell hX 1
         have x2 := blk_cell hX 2
         have x3 := blk_cell hX 3
         have s1 := blk_cell hZ 1
         have s2 := blk_cell hZ 2
         have s3 := blk_cell hZ 3
         simp only [List.getElem?_toArray, List.getElem?_cons_succ, List.getElem?_cons_zero] at x0 x1 x2 x3 s1 s2 s3
         have HS := Lib.hid hS
         clear hS hX hZ
         go_wp2
         exact Go.Det.AtEnd.mk HS.out
       apply Go.Mix.seqM_main (by rfl)
       focus
        intro W hS
        obtain rfl : W = W5 := hS
        go_wp2_with fail
        refine (HST.out W (HBA.out.below HB6.out) (Nat.le_trans (Nat.le_trans HZ4.out HLO.out.size) HB6.out.size)).mono ?_
        rintro e W7 ⟨rfl, hst⟩
        have HSTT := Lib.hid hst
        clear hst
        go_wp2
        exact Go.Det.AtEnd.mk HSTT.out
       repeat
        apply Go.Mix.seqM_cons (by rfl) (by rfl)
        focus
         intro b W hS
         have HS := Lib.hid hS
         clear hS
         go_wp2
         exact Go.Det.AtEnd.mk HS.out
       refine Go.Mix.seqM_nil ?_
       intro W7 hW7
       obtain ⟨vr5, vt5, hb5, hl5, hk5⟩ := (show StepTo w2.heap.size g m s' W5 W7 from hW7)
       clear hW7
       simp only [List.drop_succ_cons, List.drop_zero, Exit.then]
       have HB7 := Lib.hid hb5
       have HL7 := Lib.hid ((HLO.out.trans (below_low HB6.out (Nat.le_trans HZ4.out HLO.out.size))).trans hl5)
       have HK7 := Lib.hid ((HKE.out.trans (KeepK.below HB6.out)).trans hk5)
       clear hb5 hl5 hk5
       by_cases hw2 : wo = 2
       ·have HR3 := Lib.hid (show R = 2 from by rw [← HS3.out, if_pos hw2])
        have hwb : (wo == 2) = true := beq_iff_eq.2 hw2
        subst hw2
        go_wp2_with (go_at_call 105; (with_reducible refine (HWO.out _).mono ?_); rintro e w8 ⟨rfl, rfl⟩)
        go_ret
        exact ⟨by rw [HR3.out]; rfl, HL4.out.trans (HL7.out.mono HZ1.out)⟩
       ·have HR3 := Lib.hid (show checkGo s' wo (ev.drop (k + 1)) = R from by rw [← HS3.out, if_neg hw2])
        have hwb : (wo == 2) = false := beq_eq_false_iff_ne.2 hw2
        clear hw2
        go_wp2_with (go_at_call 105; (with_reducible refine (HWO.out _).mono ?_); rintro e w8 ⟨rfl, rfl⟩)
        go_roundw
        case rel => exact ⟨k + 1, s', vr5, vt5, wo, by omega, by go_num, rfl, HB7.out, HOK2.out, HL7.out, HK7.out, HR3.out⟩
        case measure => simp [intOf]; omega
      ·go_wp2
       obtain ⟨w5, hw5⟩ : ∃ w5, wr.alloc (.cells #[.int .i64 2, .int .u8 f1, .string f2, .int .i64 f3] 47) = w5 := ⟨_, rfl⟩
       rw [hw5] at HX0 HB0 ⊢
       have HX5 := HX0
       have HB5 := HB0
       clear hw5
       obtain ⟨W5, hW5⟩ : ∃ W5, w5.drew = W5 := ⟨_, rfl⟩
       have hb6 : Below wr.heap.size wr W5 := by rw [← hW5]; exact below_drew1 HB5.out
       have hmv : ∀ (i : Nat) (o : Obj), w5.heap[i]? = some o → W5.heap[i]? = some o := fun i o ho => by rw [← hW5]; exact ho
       have hX6 := hmv _ _ HX5.out
       clear hmv
       have hS6 := blk_below (HKE.out _ _ HS4.out rfl) hb6
       have HX6 := Lib.hid hX6
       have HS6 := Lib.hid hS6
       have HB6 := Lib.hid hb6
       clear hX6 hS6 hb6
       refine Go.Mix.region_mix' (fun b W => cond b (StepTo w2.heap.size g m s' W5 W) (W = W5)) 5 11 [] (by kernel_rfl) (by kernel_rfl) (fun _ _ _ _ _ h => h) hW5 ?_
       clear hW5 q0 q1 q2 q3
       refine Go.Mix.seqE_nil ?_
       repeat
        apply Go.Mix.seqM_cons (by rfl) (by rfl)
        focus
         intro b W hS
         have hX := step_keep hS HX6.out rfl
         have hZ := step_keep hS HS6.out rfl
         have x0 := blk_cell hX 0
         have x1 := blk_cell hX 1
         have x2 := blk_cell hX 2
         have x3 := blk_cell hX 3
         have s1 := blk_cell hZ 1
         have s2 := blk_cell hZ 2
         have s3 := blk_cell hZ 3
         simp only [List.getElem?_toArray, List.getElem?_cons_succ, List.getElem?_cons_zero] at x0 x1 x2 x3 s1 s2 s3
         have HS := Lib.hid hS
         clear hS hX hZ
         go_wp2
         exact Go.Det.AtEnd.mk HS.out
       apply Go.Mix.seqM_main (by rfl)
       focus
        intro W hS
        obtain rfl : W = W5 := hS
        go_wp2_with fail
        refine (HST.out W (HBA.out.below HB6.out) (Nat.le_trans (Nat.le_trans HZ4.out HLO.out.size) HB6.out.size)).mono ?_
        rintro e W7 ⟨rfl, hst⟩
        have HSTT := Lib.hid hst
        clear hst
        go_wp2
        exact Go.Det.AtEnd.mk HSTT.out
       repeat
        apply Go.Mix.seqM_cons (by rfl) (by rfl)
        focus
         intro b W hS
         have HS := Lib.hid hS
         clear hS
         go_wp2
         exact Go.Det.AtEnd.mk HS.out
       refine Go.Mix.seqM_nil ?_
       intro W7 hW7
       obtain ⟨vr5, vt5, hb5, hl5, hk5⟩ := (show StepTo w2.heap.size g m s' W5 W7 from hW7)
       clear hW7
       simp only [List.drop_succ_cons, List.drop_zero, Exit.then]
       have HB7 := Lib.hid hb5
       have HL7 := Lib.hid ((HLO.out.trans (below_low HB6.out (Nat.le_trans HZ4.out HLO.out.size))).trans hl5)
       have HK7 := Lib.hid ((HKE.out.trans (KeepK.below HB6.out)).trans hk5)
       clear hb5 hl5 hk5
       by_cases hw2 : wo = 2
       ·have HR3 := Lib.hid (show R = 2 from by rw [← HS3.out, if_pos hw2])
        have hwb : (wo == 2) = true := beq_iff_eq.2 hw2
        subst hw2
        go_wp2_with (go_at_call 105; (with_reducible refine (HWO.out _).mono ?_); rintro e w8 ⟨rfl, rfl⟩)
        go_ret
        exact ⟨by rw [HR3.out]; rfl, HL4.out.trans (HL7.out.mono HZ1.out)⟩
       ·have HR3 := Lib.hid (show checkGo s' wo (ev.drop (k + 1)) = R from by rw [← HS3.out, if_neg hw2])
        have hwb : (wo == 2) = false := beq_eq_false_iff_ne.2 hw2
        clear hw2
        go_wp2_with (go_at_call 105; (with_reducible refine (HWO.out _).mono ?_); rintro e w8 ⟨rfl, rfl⟩)
        go_roundw
        case rel => exact ⟨k + 1, s', vr5, vt5, wo, by omega, by go_num, rfl, HB7.out, HOK2.out, HL7.out, HK7.out, HR3.out⟩
        case measure => simp [intOf]; omega
      ·go_wp2
       obtain ⟨w5, hw5⟩ : ∃ w5, wr.alloc (.cells #[.int .i64 3, .int .u8 f1, .string f2, .int .i64 f3] 47) = w5 := ⟨_, rfl⟩
       rw [hw5] at HX0 HB0 ⊢
       have HX5 := HX0
       have HB5 := HB0
       clear hw5
       obtain ⟨W5, hW5⟩ : ∃ W5, w5.drew = W5 := ⟨_, rfl⟩
       have hb6 : Below wr.heap.size wr W5 := by rw [← hW5]; exact below_drew1 HB5.out
       have hmv : ∀ (i : Nat) (o : Obj), w5.heap[i]? = some o → W5.heap[i]? = some o := fun i o ho => by rw [← hW5]; exact ho
       have hX6 := hmv _ _ HX5.out
       clear hmv
       have hS6 := blk_below (HKE.out _ _ HS4.out rfl) hb6
       have HX6 := Lib.hid hX6
       have HS6 := Lib.hid hS6
       have HB6 := Lib.hid hb6
       clear hX6 hS6 hb6
       refine Go.Mix.region_mix' (fun b W => cond b (StepTo w2.heap.size g m s' W5 W) (W = W5)) 5 11 [] (by kernel_rfl) (by kernel_rfl) (fun _ _ _ _ _ h => h) hW5 ?_
       clear hW5 q0 q1 q2 q3
       refine Go.Mix.seqE_nil ?_
       repeat
        apply Go.Mix.seqM_cons (by rfl) (by rfl)
        focus
         intro b W hS
         have hX := step_keep hS HX6.out rfl
         have hZ := step_keep hS HS6.out rfl
         have x0 := blk_cell hX 0
         have x1 := blk_cell hX 1
         have x2 := blk_cell hX 2
         have x3 := blk_cell hX 3
         have s1 := blk_cell hZ 1
         have s2 := blk_cell hZ 2
         have s3 := blk_cell hZ 3
         simp only [List.getElem?_toArray, List.getElem?_cons_succ, List.getElem?_cons_zero] at x0 x1 x2 x3 s1 s2 s3
         have HS := Lib.hid hS
         clear hS hX hZ
         go_wp2
         exact Go.Det.AtEnd.mk HS.out
       apply Go.Mix.seqM_main (by rfl)
       focus
        intro W hS
        obtain rfl : W = W5 := hS
        go_wp2_with fail
        refine (HST.out W (HBA.out.below HB6.out) (Nat.le_trans (Nat.le_trans HZ4.out HLO.out.size) HB6.out.size)).mono ?_
        rintro e W7 ⟨rfl, hst⟩
        have HSTT := Lib.hid hst
        clear hst
        go_wp2
        exact Go.Det.AtEnd.mk HSTT.out
       repeat
        apply Go.Mix.seqM_cons (by rfl) (by rfl)
        focus
         intro b W hS
         have HS := Lib.hid hS
         clear hS
         go_wp2
         exact Go.Det.AtEnd.mk HS.out
       refine Go.Mix.seqM_nil ?_
       intro W7 hW7
       obtain ⟨vr5, vt5, hb5, hl5, hk5⟩ := (show StepTo w2.heap.size g m s' W5 W7 from hW7)
       clear hW7
       simp only [List.drop_succ_cons, List.drop_zero, Exit.then]
       have HB7 := Lib.hid hb5
       have HL7 := Lib.hid ((HLO.out.trans (below_low HB6.out (Nat.le_trans HZ4.out HLO.out.size))).trans hl5)
       have HK7 := Lib.hid ((HKE.out.trans (KeepK.below HB6.out)).trans hk5)
       clear hb5 hl5 hk5
       by_cases hw2 : wo = 2
       ·have HR3 := Lib.hid (show R = 2 from by rw [← HS3.out, if_pos hw2])
        have hwb : (wo == 2) = true := beq_iff_eq.2 hw2
        subst hw2
        go_wp2_with (go_at_call 105; (with_reducible refine (HWO.out _).mono ?_); rintro e w8 ⟨rfl, rfl⟩)
        go_ret
        exact ⟨by rw [HR3.out]; rfl, HL4.out.trans (HL7.out.mono HZ1.out)⟩
       ·have HR3 := Lib.hid (show checkGo s' wo (ev.drop (k + 1)) = R from by rw [← HS3.out, if_neg hw2])
        have hwb : (wo == 2) = false := beq_eq_false_iff_ne.2 hw2
        clear hw2
        go_wp2_with (go_at_call 105; (with_reducible refine (HWO.out _).mono ?_); rintro e w8 ⟨rfl, rfl⟩)
        go_roundw
        case rel => exact ⟨k + 1, s', vr5, vt5, wo, by omega, by go_num, rfl, HB7.out, HOK2.out, HL7.out, HK7.out, HR3.out⟩
        case measure => simp [intOf]; omega
    ·obtain rfl : k = ev.length := by omega
     have hlt1 : ¬ (ev.length : Int) < (ev.length : Int) := by omega
     have hend : R = out := by rw [← HRU.out, List.drop_length]; rfl
     have HEND := Lib.hid hend
     clear hend
     go_wp2
     go_ret
     exact ⟨by rw [HEND.out]; rfl, HL4.out.trans (HLO.out.mono HZ1.out)⟩
 ·rw [hp] at HCN HR
  have HR2 := Lib.hid (show R = 2 from HR.out.symm)
  clear hp
  go_enter Try.func57, Try.ntmps57
  go_wp2_with (go_at_call 99; (with_reducible refine HCN.out.mono ?_); rintro e w1 ⟨rfl, hb1⟩)
  go_ret
  exact ⟨by rw [HR2.out]; rfl, hb1⟩
end Go.Proofs.Ythcmfjpheanphaa.Pr
namespace Go.Proofs.Ythcmfjpheanphaa.Pr
open Go.RowKit Go.Proofs.YthcmfjpheanphaaW.PrintWords
def sizedB : Nat → List S56 → Nat → Nat → Bool
 | 0, _, _, _ => false
 | n + 1, t, a, e => if a < e then (if 1 ≤ (rd_T56 t a).f3 ∧ (rd_T56 t a).f3 ≤ (e : Int) - a then sizedB n t (a + 1) (a + (rd_T56 t a).f3.toNat) && sizedB n t (a + (rd_T56 t a).f3.toNat) e else false) else true
theorem sizedB_more (t : List S56) : ∀ (n m a e : Nat), e - a < n → e - a < m → sizedB n t a e = sizedB m t a e
 | 0, _, _, _, h, _ => by omega
 | _ + 1, 0, _, _, _, h => by omega
 | n + 1, m + 1, a, e, h1, h2 => by
  simp only [sizedB]
  by_cases hlt : a < e
  ·rw [if_pos hlt, if_pos hlt]
   by_cases hs : 1 ≤ (rd_T56 t a).f3 ∧ (rd_T56 t a).f3 ≤ (e : Int) - a
   ·rw [if_pos hs, if_pos hs, sizedB_more t n m (a + 1) _ (by omega) (by omega), sizedB_more t n m (a + (rd_T56 t a).f3.toNat) e (by omega) (by omega)]
   ·rw [if_neg hs, if_neg hs]
  ·rw [if_neg hlt, if_neg hlt]
def sizedT (t : List S56) (a e : Nat) : Bool := sizedB (e - a + 1) t a e
theorem sizedT_end (t : List S56) (a e : Nat) (h : ¬ a < e) : sizedT t a e = true := by
 unfold sizedT
 simp only [sizedB]
 rw [if_neg h]
theorem sizedT_step (t : List S56) (a e : Nat) (h : a < e) : sizedT t a e = if 1 ≤ (rd_T56 t a).f3 ∧ (rd_T56 t a).f3 ≤ (e : Int) - a then sizedT t (a + 1) (a + (rd_T56 t a).f3.toNat) && sizedT t (a + (rd_T56 t a).f3.toNat) e else false := by
 unfold sizedT
 rw [sizedB]
 rw [if_pos h]
 by_cases hs : 1 ≤ (rd_T56 t a).f3 ∧ (rd_T56 t a).f3 ≤ (e : Int) - a
 ·rw [if_pos hs, if_pos hs]
  congr 1
  ·exact sizedB_more t _ _ _ _ (by omega) (by omega)
  ·exact sizedB_more t _ _ _ _ (by omega) (by omega)
 ·rw [if_neg hs, if_neg hs]
theorem wrap_nat {n : Nat} (h : n ≤ 9000000) : wrap64 (n : Int) = n := IntWalk.wrap64_in _ ⟨by omega, by omega⟩
theorem sized_f (t : List S56) (hl : t.length ≤ 1000000) : ∀ (n a e k : Nat), e - a ≤ n → a ≤ e → e ≤ t.length → 2 * n + 1 ≤ k → tree_sized.l0 k t a e = some (sizedT t a e)
 | 0, a, e, k, h, hae, _, hk => by
  obtain ⟨k, rfl⟩ : ∃ j, k = j + 1 := ⟨k - 1, by omega⟩
  rw [tree_sized.l0, if_neg (by omega), sizedT_end t a e (by omega)]
 | n + 1, a, e, k, h, hae, he, hk => by
  obtain ⟨k, rfl⟩ : ∃ j, k = j + 2 := ⟨k - 2, by omega⟩
  rw [tree_sized.l0]
  by_cases hlt : a < e
  ·have hw1 : wrap64 ((e : Int) - (a : Int)) = (e : Int) - a := by
    rw [show (e : Int) - (a : Int) = ((e - a : Nat) : Int) from by omega]; exact wrap_nat (by omega)
   rw [if_pos (by omega), if_pos (by omega), if_pos (by omega), hw1, sizedT_step t a e hlt]
   by_cases h1 : (rd_T56 t a).f3 < 1
   ·rw [if_pos h1, if_neg (by omega)]
   ·by_cases h2 : (rd_T56 t a).f3 > (e : Int) - a
    ·rw [if_neg h1, if_pos h2, if_neg (by omega)]
    ·rw [if_neg h1, if_neg h2, if_pos (by omega)]
     have e1 : wrap64 ((a : Int) + 1) = ((a + 1 : Nat) : Int) := by rw [show (a : Int) + 1 = ((a + 1 : Nat) : Int) from by omega]; exact wrap_nat (by omega)
     have e2 : wrap64 ((a : Int) + (rd_T56 t a).f3) = ((a + (rd_T56 t a).f3.toNat : Nat) : Int) := by rw [show (a : Int) + (rd_T56 t a).f3 = ((a + (rd_T56 t a).f3.toNat : Nat) : Int) from by omega]; exact wrap_nat (by omega)
     rw [e1, e2]
     have ih1 := sized_f t hl n (a + 1) (a + (rd_T56 t a).f3.toNat) k (by omega) (by omega) (by omega) (by omega)
     have ih2 := sized_f t hl n (a + (rd_T56 t a).f3.toNat) e (k + 1) (by omega) (by omega) (by omega) (by omega)
     rw [tree_sized.f, ih1, ih2, Option.bind_some]
     cases sizedT t (a + 1) (a + (rd_T56 t a).f3.toNat) <;> simp
  ·rw [if_neg (by omega), sizedT_end t a e hlt]
def shutX : S47 := ⟨3, 0, ⟨#[]⟩, 0⟩
def nodeX (x : S56) : S47 := if x.f0 = 46 then ⟨1, 0, x.f1, 0⟩ else ⟨2, x.f0, ⟨#[]⟩, 0⟩
def closeE : Nat → List S47 → List Int → Int → List S47 × List Int
 | 0, o, e, _ => (o, e)
 | n + 1, o, e, i => if e ≠ [] ∧ rd e ((e.length : Int) - 1) = i then closeE n (o ++ [shutX]) e.dropLast i else (o, e)
def evStep (x : S56) (i : Nat) (s : List S47 × List Int) : List S47 × List Int :=
 ((closeE s.2.length s.1 s.2 i).1 ++ [nodeX x], if x.f0 = 46 then (closeE s.2.length s.1 s.2 i).2 else (closeE s.2.length s.1 s.2 i).2 ++ [(i : Int) + x.f3])
def evRun : List S56 → Nat → List S47 × List Int → List S47 × List Int
 | [], _, s => s
 | x :: l, i, s => evRun l (i + 1) (evStep x i s)
def eventsP (t : List S56) : List S47 := (evRun t 0 ([], [])).1 ++ List.replicate (evRun t 0 ([], [])).2.length shutX
theorem l2_f (n : Nat) (hn : n ≤ 400000) : ∀ (d j k : Nat) (o : List S47), d + j = n → o.length + d ≤ 3000000 → d + 1 ≤ k → tree_events.l2 k o n j = some (o ++ List.replicate d shutX)
 | 0, j, k, o, h, ho, hk => by
  obtain ⟨k, rfl⟩ : ∃ q, k = q + 1 := ⟨k - 1, by omega⟩
  rw [tree_events.l2, if_neg (by omega)]
  simp
 | d + 1, j, k, o, h, ho, hk => by
  obtain ⟨k, rfl⟩ : ∃ q, k = q + 1 := ⟨k - 1, by omega⟩
  rw [tree_events.l2, if_pos (by omega), Option.bind_some, if_pos (by simp; omega)]
  have e1 : wrap64 ((j : Int) + 1) = ((j + 1 : Nat) : Int) := by rw [show (j : Int) + 1 = ((j + 1 : Nat) : Int) from by omega]; exact wrap_nat (by omega)
  rw [e1, l2_f n hn d (j + 1) k _ (by omega) (by simp; omega) (by omega)]
  simp [List.replicate_succ, shutX]
theorem closeE_len : ∀ (d : Nat) (o : List S47) (e : List Int) (i : Int), (closeE d o e i).1.length + (closeE d o e i).2.length = o.length + e.length ∧ (closeE d o e i).2.length ≤ e.length
 | 0, o, e, i => ⟨rfl, Nat.le_refl _⟩
 | d + 1, o, e, i => by
  simp only [closeE]
  split
  ·rename_i h
   have hp : 0 < e.length := List.length_pos_iff.2 h.1
   obtain ⟨g1, g2⟩ := closeE_len d (o ++ [shutX]) e.dropLast i
   rw [List.length_dropLast] at g1 g2
   simp only [List.length_append, List.length_cons, List.length_nil] at g1
   exact ⟨by omega, by omega⟩
  ·exact ⟨rfl, Nat.le_refl _⟩
theorem l1_f (t : List S56) (n : Int) (x : S56) (i : Nat) (hi : i ≤ 400000) (h3 : 1 ≤ x.f3 ∧ x.f3 ≤ 400000) (K0 : Nat) (R : List S47) : ∀ (d : Nat) (out : List S47) (ends : List Int) (k : Nat), ends.length = d → out.length + ends.length ≤ 2 * i + 1 →
  (∀ K, K0 ≤ K → tree_events.l0 K (evStep x i (out, ends)).1 (evStep x i (out, ends)).2 t n ((i + 1 : Nat) : Int) = some R) → K0 + d + 1 ≤ k + (closeE ends.length out ends i).2.length →
  tree_events.l1 k out ends (i : Int) t n (i : Int) x.f0 x.f1 x.f2 x.f3 = some R
 | 0, out, ends, k, hd, hb, hR, hk => by
  obtain rfl : ends = [] := List.eq_nil_of_length_eq_zero hd
  simp only [List.length_nil, closeE] at hk
  obtain ⟨k, rfl⟩ : ∃ q, k = q + 1 := ⟨k - 1, by omega⟩
  have hR' := hR k (by omega)
  unfold evStep at hR'
  simp only [closeE, List.length_nil] at hR'
  have e1 : wrap64 ((i : Int) + 1) = ((i + 1 : Nat) : Int) := by rw [show (i : Int) + 1 = ((i + 1 : Nat) : Int) from by omega]; exact wrap_nat (by omega)
  have e2 : wrap64 ((i : Int) + x.f3) = (i : Int) + x.f3 := by
   rw [show (i : Int) + x.f3 = ((i + x.f3.toNat : Nat) : Int) from by omega]; exact wrap_nat (by omega)
  simp only [List.length_nil] at hb
  rw [tree_events.l1, if_neg (by simp)]
  by_cases h46 : x.f0 = 46
  ·rw [if_pos h46, Option.bind_some, if_pos (by simp; omega), e1]
   rw [if_pos h46] at hR'
   rw [show ([(⟨1, 0, x.f1, 0⟩ : S47)] : List S47) = [nodeX x] from by unfold nodeX; rw [if_pos h46]]
   exact hR'
  ·rw [if_neg h46, Option.bind_some, if_pos (by simp; omega), Option.bind_some, if_pos (by simp), e1, e2]
   rw [if_neg h46] at hR'
   rw [show ([(⟨2, x.f0, ⟨#[]⟩, 0⟩ : S47)] : List S47) = [nodeX x] from by unfold nodeX; rw [if_neg h46]]
   exact hR'
 | d + 1, out, ends, k, hd, hb, hR, hk => by
  have hcl := (closeE_len ends.length out ends i).2
  obtain ⟨k, rfl⟩ : ∃ q, k = q + 1 := ⟨k - 1, by omega⟩
  have hne : ends ≠ [] := fun e => by rw [e] at hd; cases hd
  have e1 : wrap64 ((i : Int) + 1) = ((i + 1 : Nat) : Int) := by rw [show (i : Int) + 1 = ((i + 1 : Nat) : Int) from by omega]; exact wrap_nat (by omega)
  have e2 : wrap64 ((i : Int) + x.f3) = (i : Int) + x.f3 := by
   rw [show (i : Int) + x.f3 = ((i + x.f3.toNat : Nat) : Int) from by omega]; exact wrap_nat (by omega)
  have e3 : wrap64 ((ends.length : Int) - 1) = (ends.length : Int) - 1 := by
   rw [show (ends.length : Int) - 1 = ((ends.length - 1 : Nat) : Int) from by omega]; exact wrap_nat (by omega)
  rw [tree_events.l1, if_pos (by omega), e3, if_pos (by omega), if_pos (by omega)]
  by_cases hr : rd ends ((ends.length : Int) - 1) = (i : Int)
  ·have hc : closeE ends.length out ends i = closeE ends.dropLast.length (out ++ [shutX]) ends.dropLast i := by
    rw [show ends.dropLast.length = d from by rw [List.length_dropLast]; omega, hd]
    simp only [closeE]
    rw [if_pos ⟨hne, hr⟩]
   rw [if_pos hr, Option.bind_some, if_pos (by simp; omega), if_pos (by omega)]
   have hdl : ends.take ((ends.length : Int) - 1).toNat = ends.dropLast := by
    rw [List.dropLast_eq_take]
    congr 1
    omega
   rw [hdl]
   refine l1_f t n x i hi h3 K0 R d (out ++ [⟨3, 0, ⟨#[]⟩, 0⟩]) ends.dropLast k (by rw [List.length_dropLast]; omega) (by rw [List.length_append, List.length_dropLast]; simp; omega) (fun K hK => ?_) (by rw [hc] at hk; show K0 + d + 1 ≤ k + (closeE ends.dropLast.length (out ++ [shutX]) ends.dropLast i).2.length; omega)
   have hs : evStep x i (out ++ [⟨3, 0, ⟨#[]⟩, 0⟩], ends.dropLast) = evStep x i (out, ends) := by
    unfold evStep
    simp only [hc]
    rfl
   rw [hs]
   exact hR K hK
  ·rw [if_neg hr]
   have hc : closeE ends.length out ends i = (out, ends) := by
    rw [hd]
    simp only [closeE]
    rw [if_neg (fun h => hr h.2)]
   have hR' := hR k (by rw [hc] at hk; simp only at hk; omega)
   unfold evStep at hR'
   simp only [hc] at hR'
   by_cases h46 : x.f0 = 46
   ·rw [if_pos h46, Option.bind_some, if_pos (by simp; omega), e1]
    rw [if_pos h46] at hR'
    rw [show ([(⟨1, 0, x.f1, 0⟩ : S47)] : List S47) = [nodeX x] from by unfold nodeX; rw [if_pos h46]]
    exact hR'
   ·rw [if_neg h46, Option.bind_some, if_pos (by simp; omega), Option.bind_some, if_pos (by simp; omega), e1, e2]
    rw [if_neg h46] at hR'
    rw [show ([(⟨2, x.f0, ⟨#[]⟩, 0⟩ : S47)] : List S47) = [nodeX x] from by unfold nodeX; rw [if_neg h46]]
    exact hR'
theorem evStep_len (x : S56) (i : Nat) (s : List S47 × List Int) : (evStep x i s).1.length + (evStep x i s).2.length ≤ s.1.length + s.2.length + 2 ∧ (evStep x i s).2.length ≤ s.2.length + 1 ∧ (evStep x i s).2.length ≤ (closeE s.2.length s.1 s.2 i).2.length + 1 := by
 obtain ⟨g1, g2⟩ := closeE_len s.2.length s.1 s.2 i
 unfold evStep
 split <;> simp <;> omega
theorem l0_f (t : List S56) (ht : t.length ≤ 400000) (h3 : ∀ x ∈ t, 1 ≤ x.f3 ∧ x.f3 ≤ 400000) : ∀ (m i : Nat) (s : List S47 × List Int) (k : Nat), m + i = t.length → s.1.length + s.2.length ≤ 2 * i → s.2.length ≤ i → 4 * m + 2 * s.2.length + 5 ≤ k →
  tree_events.l0 k s.1 s.2 t (t.length : Int) (i : Int) = some ((evRun (t.drop i) i s).1 ++ List.replicate (evRun (t.drop i) i s).2.length shutX)
 | 0, i, s, k, hm, hb, he, hk => by
  obtain ⟨k, rfl⟩ : ∃ q, k = q + 1 := ⟨k - 1, by omega⟩
  rw [tree_events.l0, if_neg (by omega), List.drop_of_length_le (by omega)]
  exact l2_f s.2.length (by omega) s.2.length 0 k s.1 (by omega) (by omega) (by omega)
 | m + 1, i, s, k, hm, hb, he, hk => by
  obtain ⟨k, rfl⟩ : ∃ q, k = q + 1 := ⟨k - 1, by omega⟩
  rw [tree_events.l0, if_pos (by omega), if_pos (by omega), if_pos (by omega), rd56_dropH t i (by omega)]
  obtain ⟨g1, g2, g3⟩ := evStep_len (rd_T56 t i) i s
  have g4 := closeE_len s.2.length s.1 s.2 i
  refine l1_f t _ (rd_T56 t i) i (by omega) (h3 _ (rd56_mem t i (by omega))) (4 * m + 2 * (evStep (rd_T56 t i) i s).2.length + 5) _ s.2.length s.1 s.2 k rfl (by omega) (fun K hK => ?_) (by omega)
  exact l0_f t ht h3 m (i + 1) (evStep (rd_T56 t i) i s) K (by omega) (by omega) (by omega) hK
theorem events_f (t : List S56) (ht : t.length ≤ 400000) (h3 : ∀ x ∈ t, 1 ≤ x.f3 ∧ x.f3 ≤ 400000) (k : Nat) (hk : 4 * t.length + 5 ≤ k) : tree_events.f k t = some (eventsP t) := by
 unfold tree_events.f eventsP
 have := l0_f t ht h3 t.length 0 ([], []) k (by omega) (by simp) (by simp) (by simp; omega)
 exact this
theorem sizedT_all (t : List S56) : ∀ (n a e : Nat), e - a ≤ n → sizedT t a e = true → ∀ i, a ≤ i → i < e → 1 ≤ (rd_T56 t i).f3 ∧ (rd_T56 t i).f3 ≤ (e : Int) - i
 | 0, a, e, h, _, i, h1, h2 => by omega
 | n + 1, a, e, h, hs, i, h1, h2 => by
  rw [sizedT_step t a e (by omega)] at hs
  by_cases hc : 1 ≤ (rd_T56 t a).f3 ∧ (rd_T56 t a).f3 ≤ (e : Int) - a
  ·rw [if_pos hc, Bool.and_eq_true] at hs
   by_cases e1 : i = a
   ·subst e1; exact hc
   ·by_cases e2 : i < a + (rd_T56 t a).f3.toNat
    ·have := sizedT_all t n (a + 1) _ (by omega) hs.1 i (by omega) e2
     exact ⟨this.1, by omega⟩
    ·exact sizedT_all t n _ e (by omega) hs.2 i (by omega) h2
  ·rw [if_neg hc] at hs; cases hs
theorem closeE_mem {P : S47 → Prop} (hs : P shutX) : ∀ (d : Nat) (o : List S47) (e : List Int) (i : Int), (∀ x ∈ o, P x) → ∀ x ∈ (closeE d o e i).1, P x
 | 0, o, e, i, h => h
 | d + 1, o, e, i, h => by
  simp only [closeE]
  split
  ·refine closeE_mem hs d _ _ i fun x hx => ?_
   rcases List.mem_append.1 hx with hx | hx
   ·exact h x hx
   ·rw [List.mem_singleton.1 hx]; exact hs
  ·exact h
theorem evRun_mem {P : S47 → Prop} (hs : P shutX) : ∀ (l : List S56) (i : Nat) (s : List S47 × List Int), (∀ y ∈ l, P (nodeX y)) → (∀ x ∈ s.1, P x) → ∀ x ∈ (evRun l i s).1, P x
 | [], i, s, _, h => h
 | y :: l, i, s, hy, h => by
  refine evRun_mem hs l (i + 1) _ (fun z hz => hy z (List.mem_cons_of_mem _ hz)) fun x hx => ?_
  unfold evStep at hx
  rcases List.mem_append.1 hx with hx | hx
  ·exact closeE_mem hs _ _ _ _ h x hx
  ·rw [List.mem_singleton.1 hx]; exact hy y List.mem_cons_self
theorem events_mem {P : S47 → Prop} (hs : P shutX) (t : List S56) (h : ∀ y ∈ t, P (nodeX y)) : ∀ x ∈ eventsP t, P x := by
 intro x hx
 unfold eventsP at hx
 rcases List.mem_append.1 hx with hx | hx
 ·exact evRun_mem hs t 0 ([], []) h (by intro y hy; cases hy) x hx
 ·rw [(List.mem_replicate.1 hx).2]; exact hs
theorem evRun_len : ∀ (l : List S56) (i : Nat) (s : List S47 × List Int), (evRun l i s).1.length + (evRun l i s).2.length ≤ s.1.length + s.2.length + 2 * l.length
 | [], i, s => by simp [evRun]
 | y :: l, i, s => by
  have h1 := evRun_len l (i + 1) (evStep y i s)
  have h2 := (evStep_len y i s).1
  simp only [evRun, List.length_cons]
  omega
def checkP (t : List S56) : Int := if ((t.any fun x => !plainB x) || !sizedT t 0 t.length) = true then 2 else checkGo bld0 0 (eventsP t)
def NodesOk (t : List S56) : Prop := ∀ x ∈ t, x.f1.size ≤ 1000000 ∧ 0 ≤ x.f0 ∧ x.f0 ≤ 255
theorem rd56_of_mem {t : List S56} {x : S56} (h : x ∈ t) : ∃ i, i < t.length ∧ rd_T56 t i = x := by
 obtain ⟨i, hi, e⟩ := List.mem_iff_getElem.1 h
 refine ⟨i, hi, ?_⟩
 unfold rd_T56
 rw [Int.toNat_natCast, List.getD_eq_getElem?_getD, List.getElem?_eq_getElem hi]
 exact e
theorem check_calls (A0 : Option Addr) (c0 : Nat) (t : List S56) (w : World) (hlen : t.length ≤ 400000) (hk : NodesOk t) (hA : Kd.C k56 w A0 t.length t) (hc0 : t.length ≤ c0) :
  Calls Try.prog 57 #[.slice A0 t.length c0] w fun e w' => e = .returned (.int .i64 (checkP t)) ∧ Below w.heap.size w w' := by
 refine check_run A0 c0 t w hlen (fun x hx => (hk x hx).1) hA hc0 (2 * t.length + 2) (sizedT t 0 t.length) ?_ (4 * t.length + 5) (eventsP t) fun hs => ?_
 ·exact sized_f t (by omega) t.length 0 t.length (2 * t.length + 1) (by omega) (by omega) (by omega) (by omega)
 ·refine ⟨events_f t hlen (fun x hx => ?_) _ (Nat.le_refl _), ?_, events_mem ⟨.inr (.inr rfl), by decide, by decide, by decide, by decide, by decide⟩ t fun y hy => ?_⟩
  ·obtain ⟨i, hi, rfl⟩ := rd56_of_mem hx
   have := sizedT_all t t.length 0 t.length (by omega) hs i (by omega) hi
   omega
  ·have := evRun_len t 0 ([], [])
   unfold eventsP
   simp only [List.length_append, List.length_replicate, List.length_nil] at this ⊢
   omega
  ·obtain ⟨h1, h2, h3⟩ := hk y hy
   unfold nodeX
   split
   ·exact ⟨.inl rfl, by show (0 : Int) ≤ 0; omega, by show (0 : Int) ≤ 255; omega, h1, by show (0 : Int) ≤ 0; omega, by show (0 : Int) ≤ _; omega⟩
   ·exact ⟨.inr (.inl rfl), h2, h3, Nat.zero_le _, by show (0 : Int) ≤ 0; omega, by show (0 : Int) ≤ _; omega⟩
theorem evRun_app : ∀ (l m : List S56) (i : Nat) (s : List S47 × List Int), evRun (l ++ m) i s = evRun m (i + l.length) (evRun l i s)
 | [], m, i, s => by simp [evRun]
 | x :: l, m, i, s => by
  simp only [List.cons_append, evRun, List.length_cons]
  rw [evRun_app l m (i + 1)]
  congr 1
  omega
theorem rd_snoc (e : List Int) (v : Int) : rd (e ++ [v]) (((e ++ [v]).length : Int) - 1) = v := by
 unfold rd
 have : (((e ++ [v]).length : Int) - 1).toNat = e.length := by simp
 rw [this]
 simp
theorem closeE_due (E : List Int) (i : Int) (hE : ∀ v ∈ E, v ≠ i) : ∀ (p d : Nat) (o : List S47), p ≤ d → closeE d o (E ++ List.replicate p i) i = (o ++ List.replicate p shutX, E)
 | 0, d, o, _ => by
  simp only [List.replicate_zero, List.append_nil]
  cases d with
  | zero => rfl
  | succ d =>
   simp only [closeE]
   rw [if_neg]
   rintro ⟨h1, h2⟩
   rcases List.eq_nil_or_concat E with rfl | ⟨E', v, rfl⟩
   ·exact h1 rfl
   ·rw [List.concat_eq_append] at h2 hE
    rw [rd_snoc] at h2
    exact hE v (by simp) h2
 | p + 1, 0, o, h => by omega
 | p + 1, d + 1, o, h => by
  have hs : E ++ List.replicate (p + 1) i = (E ++ List.replicate p i) ++ [i] := by rw [List.replicate_succ', List.append_assoc]
  simp only [closeE]
  rw [hs, if_pos ⟨by simp, rd_snoc _ _⟩, List.dropLast_concat, closeE_due E i hE p d _ (by omega), List.append_assoc]
  congr 2
end Go.Proofs.Ythcmfjpheanphaa.Pr
namespace Go.Proofs.Ythcmfjpheanphaa.Pr
open Go.RowKit Go.Proofs.Ythcmfjpheanphaa.Pure Go.Proofs.YthcmfjpheanphaaW.PrintWords
theorem run_cons (s : Bld) (x : S47) (l : List S47) (h : (runP s (x :: l)).2.2 = 0) : (stepP s x).2.2 = 0 ∧ (runP (stepP s x).1 l).2.2 = 0 ∧ runP s (x :: l) = runP (stepP s x).1 l := by
 simp only [runP] at h ⊢
 by_cases h0 : (stepP s x).2.2 = 0
 ·rw [if_pos h0] at h ⊢; exact ⟨h0, h, rfl⟩
 ·rw [if_neg h0] at h; exact absurd h h0
theorem parse_ok {s : ByteArray} {t : List S56} {a : Int} (h : parseP s = (t, a, 0)) : Lx s 0 (lexP s).1 ∧ s.size ≤ 8192 ∧ (lexP s).2.2 = 0 ∧ (runP bld0 (lexP s).1).2.2 = 0 ∧ (runP bld0 (lexP s).1).1.row = [] ∧ t = (runP bld0 (lexP s).1).1.t := by
 unfold parseP at h
 by_cases h1 : (lexP s).2.2 = 0
 ·rw [if_neg (by simpa using h1)] at h
  by_cases h2 : (runP bld0 (lexP s).1).2.2 = 0
  ·rw [if_neg (by simpa using h2)] at h
   by_cases h3 : (runP bld0 (lexP s).1).1.row = []
   ·rw [if_neg (by simpa using h3)] at h
    obtain ⟨k1, k2⟩ := lexP_Lx h1
    simp only [Prod.mk.injEq] at h
    exact ⟨k1, k2, h1, h2, h3, h.1.symm⟩
   ·rw [if_pos h3] at h
    simp only [Prod.mk.injEq] at h
    exact absurd h.2.2 (by decide)
  ·rw [if_pos h2] at h
   simp only [Prod.mk.injEq] at h
   exact absurd h.2.2 h2
 ·rw [if_pos h1] at h
  simp only [Prod.mk.injEq] at h
  exact absurd h.2.2 h1
end Go.Proofs.Ythcmfjpheanphaa.Pr
namespace Go.Proofs.Ythcmfjpheanphaa.Pr
open Go.RowKit Go.Proofs.YthcmfjpheanphaaW.PrintWords Go.Proofs.YthcmfjpheanphaaW.PrintLast Go.Proofs.YthcmfjpheanphaaW.PrintMore
attribute [local go_sem] max2_int min2_int max_two min_two max_three min_three max_four min_four
def styluslaw04_vast.l0 : Nat → List (S56) → Int → Option (Bool)
 | 0, _, _ => none
 | k + 1, x0, x3 => if x3 < (x0.length : Int) then (if 0 ≤ x3 then (if (((rd_T56 x0 x3).f1).size : Int) > 100 then (some true) else (styluslaw04_vast.l0 k x0 (wrap64 (x3 + 1)))) else (none)) else (some false)
def styluslaw04_vast.f (k : Nat) (l0 : List (S56)) : Option (Bool) := if (l0.length : Int) > 150 then (some true) else (styluslaw04_vast.l0 k l0 0)
theorem styluslaw04_vast.mono_l : ∀ k, (∀ y0 y1, LeO (styluslaw04_vast.l0 k y0 y1) (styluslaw04_vast.l0 (k + 1) y0 y1))
 | 0 => fun _ _ r h => by simp [styluslaw04_vast.l0] at h
 | k + 1 => by
  have ih0 := styluslaw04_vast.mono_l k
  ·intro y0 y1
   unfold styluslaw04_vast.l0
   repeat' first
   | (with_reducible exact ih0 _ _)
   | (with_reducible exact LeO.refl _)
   | (with_reducible exact LeO.none _)
   | (with_reducible refine LeO.ite ?_ ?_)
   | (with_reducible refine LeO.bind ?_ (fun _ => ?_))
   | exact ih0 _ _
   | exact LeO.none _
   | refine LeO.ite ?_ ?_
   | refine LeO.bind ?_ (fun _ => ?_)
theorem styluslaw04_vast.mono : ∀ a0 k, LeO (styluslaw04_vast.f k a0) (styluslaw04_vast.f (k + 1) a0) := by
 intro a0 k
 have ih0 := styluslaw04_vast.mono_l k
 unfold styluslaw04_vast.f
 repeat' first
   | (with_reducible exact ih0 _ _)
   | (with_reducible exact LeO.refl _)
   | (with_reducible exact LeO.none _)
   | (with_reducible refine LeO.ite ?_ ?_)
   | (with_reducible refine LeO.bind ?_ (fun _ => ?_))
   | exact ih0 _ _
   | exact LeO.none _
   | refine LeO.ite ?_ ?_
   | refine LeO.bind ?_ (fun _ => ?_)
end Go.Proofs.Ythcmfjpheanphaa.Pr
namespace Go.Proofs.Ythcmfjpheanphaa.Pr
open Go.RowKit Go.Proofs.YthcmfjpheanphaaW.PrintWords
def okR : Bld → List S47 → Bool
 | _, [] => true
 | s, x :: l => !(x.f0 == 1 && !mayP s.row 46) && ((stepP s x).2.2 == 0 && okR (stepP s x).1 l)
theorem okR_check : ∀ (l : List S47) (s : Bld), okR s l = true → checkGo s 0 l = 0
 | [], s, _ => rfl
 | x :: l, s, h => by
  simp only [okR, Bool.and_eq_true, beq_iff_eq] at h
  obtain ⟨h1, h2, h3⟩ := h
  simp only [checkGo]
  have h1' : (x.f0 == 1 && !mayP s.row 46) = false := by
   cases hc : (x.f0 == 1 && !mayP s.row 46) with
   | false => rfl
   | true => rw [hc] at h1; cases h1
  rw [h1', h2, if_neg (by decide), show worseP 0 0 = 0 from by decide, if_neg (by decide)]
  exact okR_check l _ h3
def growP (r : List Opn) (x : S47) : Nat := if x.f0 = 1 then (if mayP r 46 = true then 1 else 0) else if x.f0 = 2 then 1 else 0
theorem stepP_grow (s : Bld) (x : S47) (h : (stepP s x).2.2 = 0) : (stepP s x).1.t.length = s.t.length + growP s.row x ∧ (s.t.length ≤ 2000 → s.t.length + growP s.row x ≤ 2000) := by
 unfold stepP at h ⊢
 unfold growP
 by_cases h1 : x.f0 = 1
 ·simp only [if_pos h1] at h ⊢
  unfold textsP at h ⊢
  by_cases hm : mayP s.row 46 = true
  ·simp only [if_pos hm] at h ⊢
   cases ha : aroundP [110] (kidP s.row) (kidP s.row).length with
   | none =>
    simp only [ha] at h ⊢
    by_cases hb : 2000 < s.t.length + 1
    ·rw [if_pos hb] at h; cases h
    ·exact ⟨by simp, by omega⟩
   | some j =>
    simp only [ha] at h ⊢
    by_cases hb : 60 < wrap64 (((kidP s.row).getD j zOpn).text + x.f2.size) ∨ 2000 < s.t.length + 1
    ·rw [if_pos hb] at h; cases h
    ·exact ⟨by simp, by omega⟩
  ·simp only [if_neg hm] at h ⊢
   by_cases hb : blackP x.f2 x.f2.size 0 < x.f2.size
   ·simp only [if_pos hb] at h; cases h
   ·simp only [if_neg hb]; exact ⟨rfl, fun k => k⟩
 ·simp only [if_neg h1] at h ⊢
  by_cases h2 : x.f0 = 2
  ·simp only [if_pos h2] at h ⊢
   unfold opensP at h ⊢
   by_cases hm : mayP s.row x.f1 = true
   ·simp only [if_pos hm] at h ⊢
    by_cases hd : 32 < s.row.length + 1 ∨ 8 < hasP 108 (kidP (markP s.row x.f1) ++ [⟨x.f1, s.t.length, 0, 0, false, 0, 0⟩])
    ·rw [if_pos hd] at h; cases h
    ·rw [if_neg hd] at h
     by_cases hb : 2000 < s.t.length + 1
     ·rw [if_pos hb] at h; cases h
     ·exact ⟨by simp, by omega⟩
   ·simp only [if_neg hm] at h; cases h
  ·simp only [if_neg h2] at h ⊢
   unfold shutsP at h ⊢
   by_cases hr : s.row = []
   ·simp only [if_pos hr] at h; cases h
   ·simp only [if_neg hr] at h ⊢
    exact ⟨by simp, fun k => k⟩
theorem rd56_nat (t : List S56) (i : Nat) : rd_T56 t (i : Int) = t.getD i ⟨0, ⟨#[]⟩, 0, 0⟩ := by unfold rd_T56; rw [Int.toNat_natCast]; rfl
theorem check_mk {t : List S56} (h1 : ∀ x ∈ t, plainB x = true) (h2 : sizedT t 0 t.length = true) (h3 : okR bld0 (eventsP t) = true) : checkP t = 0 := by
 unfold checkP
 rw [if_neg]
 ·exact okR_check _ _ h3
 ·rw [h2]
  simp only [Bool.not_true, Bool.or_false, Bool.not_eq_true]
  rw [List.any_eq_false]
  intro x hx
  rw [h1 x hx]; decide
theorem stepP_bound (s : Bld) (x : S47) (h : (stepP s x).2.2 = 0) (hn : s.t.length ≤ 2000) : (stepP s x).1.t.length ≤ 2000 := by
 obtain ⟨g1, g2⟩ := stepP_grow s x h
 have := g2 hn
 omega
end Go.Proofs.Ythcmfjpheanphaa.Pr
namespace Go.Proofs.Ythcmfjpheanphaa.Pr
open Go.RowKit Go.Proofs.YthcmfjpheanphaaW.PrintWords Go.Proofs.YthcmfjpheanphaaW.PrintLast Go.Proofs.YthcmfjpheanphaaW.PrintMore
attribute [local go_sem] max2_int min2_int max_two min_two max_three min_three max_four min_four
def styluslaw03_LexReads.f (k : Nat) (a0 : ByteArray) : Option (Bool) := if (a0.size : Int) > 9000 then ((styluslaw03_awake.f k).bind fun t101 => (some t101)) else ((lex_Of.f a0).bind fun bt102 => ((stylusref03_Of.f k a0).bind fun bt107 => ((stylusref03_Same.f k bt102.1 bt107.1).bind fun t112 => (if t112 = true then (if bt102.2.1 = bt107.2.1 then (if bt102.2.2 = bt107.2.2 then ((styluslaw03_awake.f k).bind fun t113 => (some t113)) else (some false)) else (some false)) else (some false)))))
theorem styluslaw03_LexReads.mono : ∀ a0 k, LeO (styluslaw03_LexReads.f k a0) (styluslaw03_LexReads.f (k + 1) a0) := by
 intro a0 k
 unfold styluslaw03_LexReads.f
 repeat' first
   | (with_reducible exact styluslaw03_awake.mono _)
   | (with_reducible exact stylusref03_Of.mono _ _)
   | (with_reducible exact stylusref03_Same.mono _ _ _)
   | (with_reducible exact LeO.refl _)
   | (with_reducible exact LeO.none _)
   | (with_reducible refine LeO.ite ?_ ?_)
   | (with_reducible refine LeO.bind ?_ (fun _ => ?_))
   | exact styluslaw03_awake.mono _
   | exact stylusref03_Of.mono _ _
   | exact stylusref03_Same.mono _ _ _
   | exact LeO.none _
   | refine LeO.ite ?_ ?_
   | refine LeO.bind ?_ (fun _ => ?_)
end Go.Proofs.Ythcmfjpheanphaa.Pr
namespace Go.Proofs.Ythcmfjpheanphaa.Pure
open Go.RowKit Go.Proofs.Ythcmfjpheanphaa.Pr Go.Proofs.YthcmfjpheanphaaW.PrintWords Go.Proofs.YthcmfjpheanphaaW.PrintLast
theorem name_letP (n : ByteArray) (h : n ∈ namesL) : nameP (letP n) = n := by
 have : ∀ y ∈ namesL, nameP (letP y) = y := by decide +kernel
 exact this n h
theorem name_size (n : ByteArray) (h : n ∈ namesL) : 0 < n.size ∧ n.size ≤ 2 := by
 have : ∀ y ∈ namesL, 0 < y.size ∧ y.size ≤ 2 := by decide +kernel
 exact this n h
end Go.Proofs.Ythcmfjpheanphaa.Pure
namespace Go.Proofs.Ythcmfjpheanphaa.Pr
open Go.RowKit Go.Proofs.Ythcmfjpheanphaa.Pure Go.Proofs.YthcmfjpheanphaaW.PrintWords
theorem plainTo_in (t : ByteArray) : ∀ d p j, p ≤ j → j < plainTo t d p → plainP (bt t (j : Int)) = true
 | 0, p, j, h1, h2 => by simp only [plainTo] at h2; omega
 | d + 1, p, j, h1, h2 => by
  simp only [plainTo] at h2
  by_cases hc : p < t.size ∧ plainP (bt t (p : Int)) = true
  ·rw [if_pos hc] at h2
   by_cases e : j = p
   ·subst e; exact hc.2
   ·exact plainTo_in t d (p + 1) j (by omega) h2
  ·rw [if_neg hc] at h2; omega
theorem bt_ext (s : ByteArray) (p q j : Nat) (hq : q ≤ s.size) (hj : p + j < q) : bt (s.extract p q) (j : Int) = bt s ((p + j : Nat) : Int) := by
 have h1 : s.extract p q = (s.extract 0 p ++ s.extract p q).extract p q := by
  have := ext_app_right (s.extract 0 p) (s.extract p q) 0 (q - p) (by rw [ByteArray.size_extract]; omega)
  have hs : (s.extract 0 p).size = p := by rw [ByteArray.size_extract]; omega
  rw [hs, Nat.add_zero, show p + (q - p) = q from by omega] at this
  rw [this]
  have hz : (s.extract p q).size = q - p := by rw [ByteArray.size_extract]; omega
  rw [← hz, ByteArray.extract_zero_size]
 have h2 : s.extract 0 p ++ s.extract p q ++ s.extract q s.size = s := by
  rw [← ByteArray.extract_eq_extract_append_extract p (by omega) (by omega), ← ByteArray.extract_eq_extract_append_extract q (by omega) hq, ByteArray.extract_zero_size]
 have h3 := bt_app_right (s.extract 0 p) (s.extract p q) j (by rw [ByteArray.size_extract]; omega)
 have hs : (s.extract 0 p).size = p := by rw [ByteArray.size_extract]; omega
 rw [hs] at h3
 rw [← h3]
 have h4 := bt_app_left (s.extract 0 p ++ s.extract p q) (s.extract q s.size) (p + j) (by rw [ByteArray.size_append, hs, ByteArray.size_extract]; omega)
 rw [h2] at h4
 exact h4.symm
theorem firstOdd_neg (t : ByteArray) (h : ∀ j : Nat, j < t.size → plainP (bt t (j : Int)) = true) : firstOdd t = -1 := by
 unfold firstOdd
 rw [if_neg]
 intro hlt
 exact plainTo_out t t.size 0 (by omega) hlt (h _ hlt)
theorem names_46 : ∀ n ∈ namesL, letP n ≠ 46 := by decide +kernel
theorem prefP_ext (s : ByteArray) (p q : Nat) (h : p ≤ q) (hq : q ≤ s.size) : prefP (s.extract p s.size) (s.extract p q) = true := by
 unfold prefP
 rw [if_pos (by rw [ByteArray.size_extract, ByteArray.size_extract]; omega)]
 have : (s.extract p s.size).extract 0 (s.extract p q).size = s.extract p q := by
  rw [ByteArray.size_extract, ext_ext s p 0 _ (by omega), Nat.add_zero]
  congr 1
  omega
 rw [this]
 exact beq_self_eq_true _
def TextAt (s : ByteArray) (b : ByteArray) (p : Int) : Prop := ∃ p0 q : Nat, p = p0 ∧ p0 < q ∧ q ≤ s.size ∧ b = s.extract p0 q ∧ ∀ j : Nat, p0 ≤ j → j < q → plainP (bt s (j : Int)) = true
def OpenAt (s : ByteArray) (k p : Int) : Prop := ∃ p0 : Nat, p = p0 ∧ p0 < s.size ∧ bt s (p0 : Int) = 123 ∧ k ≠ 46 ∧ 0 < (nameP k).size
def LexAt (s : ByteArray) (x : S47) : Prop := (x.f0 = 1 ∧ x.f1 = 0 ∧ TextAt s x.f2 x.f3) ∨ (x.f0 = 2 ∧ x.f2 = ⟨#[]⟩ ∧ OpenAt s x.f1 x.f3) ∨ (x.f0 = 3 ∧ x.f1 = 0 ∧ x.f2 = ⟨#[]⟩ ∧ 0 ≤ x.f3 ∧ x.f3 < s.size)
theorem Lx_at {s : ByteArray} {p : Nat} {l : List S47} (h : Lx s p l) : (∀ x ∈ l, LexAt s x ∧ (p : Int) ≤ x.f3) ∧ (l.map (·.f3)).Pairwise (· < ·) := by
 induction h with
 | done => exact ⟨fun x hx => (by cases hx), List.Pairwise.nil⟩
 | more p x z l hp hx h0 hz hl ih =>
  obtain ⟨z', hz', hz1, hz2⟩ := Lx_spot hp (by rw [hx]; exact h0)
  rw [hx, hz] at hz'
  have hhead : LexAt s x.l ∧ x.l.f3 = (p : Int) := by
   by_cases hc : bt s (p : Int) = 125
   ·rw [next_close s p hp hc] at hx
    subst hx
    exact ⟨.inr (.inr ⟨rfl, rfl, rfl, by show (0 : Int) ≤ (p : Int); omega, by show (p : Int) < _; omega⟩), rfl⟩
   ·by_cases h1 : bt s (p : Int) = 123
    ·rw [next_open s p hp h1] at hx
     cases ho : openN (s.extract p s.size) with
     | none => rw [openP_none s p ho] at hx; subst hx; cases h0
     | some n =>
      unfold openP at hx
      rw [ho] at hx
      subst hx
      have hm := openN_mem ho
      exact ⟨.inr (.inl ⟨rfl, rfl, p, rfl, hp, h1, names_46 n hm, by show 0 < (nameP (letP n)).size; rw [name_letP n hm]; exact (name_size n hm).1⟩), rfl⟩
    ·by_cases h3 : plainP (bt s (p : Int)) = true
     ·obtain ⟨g1, g2⟩ := next_text s p hp h1 hc h3
      rw [g2] at hx
      subst hx
      exact ⟨.inl ⟨rfl, rfl, p, tEnd s p, rfl, g1, (tEnd_le s p (by omega)).2, rfl, fun j h1 h2 => plainTo_in s s.size p j h1 h2⟩, rfl⟩
     ·rw [next_bad s p hp h1 hc h3] at hx
      subst hx; cases h0
  refine ⟨fun y hy => ?_, ?_⟩
  ·rcases List.mem_cons.1 hy with rfl | hy
   ·exact ⟨hhead.1, by omega⟩
   ·have := ih.1 y hy
    exact ⟨this.1, by omega⟩
  ·rw [List.map_cons, List.pairwise_cons]
   refine ⟨fun v hv => ?_, ih.2⟩
   obtain ⟨y, hy, rfl⟩ := List.mem_map.1 hv
   have := (ih.1 y hy).2
   omega
def NodeAt (s : ByteArray) (y : S56) : Prop := (y.f0 = 46 ∧ y.f3 = 1 ∧ TextAt s y.f1 y.f2) ∨ (y.f0 ≠ 46 ∧ y.f1.size = 0 ∧ OpenAt s y.f0 y.f2)
theorem NodeAt_plain {s : ByteArray} {y : S56} (h : NodeAt s y) : plainB y = true := by
 unfold plainB
 rcases h with ⟨h1, h2, p, q, h3, h4, h5, h6, h7⟩ | ⟨h1, h2, p, h3, h4, h5, h6, h7⟩
 ·rw [if_pos h1, h2]
  have hs : y.f1.size = q - p := by rw [h6, ByteArray.size_extract]; omega
  rw [firstOdd_neg y.f1 fun j hj => by rw [h6, bt_ext s p q j h5 (by omega)]; exact h7 _ (by omega) (by omega)]
  have : 0 < y.f1.size := by omega
  simp [this]
 ·rw [if_neg h1]
  simp [h2, h7]
def pp (r : List Opn) : List Nat := r.map fun o => o.pos.toNat
theorem pp_modify {f : Opn → Opn} (hf : ∀ o, (f o).pos = o.pos) (r : List Opn) (j : Nat) : pp (r.modify j f) = pp r := by
 apply List.ext_getElem?
 intro i
 unfold pp
 simp only [List.getElem?_map, List.getElem?_modify]
 cases r[i]? with
 | none => rfl
 | some o => simp only [Option.map_some]; split <;> simp [hf]
theorem pp_kidP (r : List Opn) : pp (kidP r) = pp r := pp_modify (f := kidF) (fun _ => rfl) r _
theorem pp_markP (r : List Opn) (k : Int) : pp (markP r k) = pp r := by
 unfold markP
 split
 ·split
  ·exact pp_modify (f := noteF) (fun _ => rfl) r _
  ·rfl
 ·split
  ·exact pp_modify (f := pastF) (fun _ => rfl) r _
  ·rfl
theorem pp_wholeP (r : List Opn) (o : Opn) : pp (wholeP r o).1 = pp r := by
 unfold wholeP
 split
 ·rfl
 ·split
  ·split
   ·split
    ·exact pp_modify (f := colsF o.kids) (fun _ => rfl) r _
    ·rfl
   ·rfl
  ·rfl
theorem step_cases (s : Bld) (x : S47) (h : (stepP s x).2.2 = 0) (hp : PosIn s) :
  (x.f0 = 1 ∧ mayP s.row 46 = true ∧ ∃ r, pp r = pp s.row ∧ (stepP s x).1 = ⟨r, s.t ++ [⟨46, x.f2, x.f3, 1⟩]⟩)
  ∨ (x.f0 = 1 ∧ mayP s.row 46 = false ∧ (stepP s x).1 = s)
  ∨ (x.f0 = 2 ∧ ∃ r, pp r = pp s.row ++ [s.t.length] ∧ (stepP s x).1 = ⟨r, s.t ++ [⟨x.f1, ⟨#[]⟩, x.f3, 1⟩]⟩)
  ∨ (x.f0 ≠ 1 ∧ x.f0 ≠ 2 ∧ ∃ (r : List Opn) (p : Nat), pp s.row = pp r ++ [p] ∧ p < s.t.length ∧ (stepP s x).1 = ⟨r, s.t.modify p (sizeF ((s.t.length : Int) - p))⟩) := by
 unfold stepP at h ⊢
 by_cases h1 : x.f0 = 1
 ·simp only [if_pos h1] at h ⊢
  unfold textsP at h ⊢
  by_cases hm : mayP s.row 46 = true
  ·simp only [if_pos hm] at h ⊢
   cases ha : aroundP [110] (kidP s.row) (kidP s.row).length with
   | none =>
    simp only [ha] at h ⊢
    exact .inl ⟨h1, hm, _, pp_kidP _, rfl⟩
   | some j =>
    simp only [ha] at h ⊢
    exact .inl ⟨h1, hm, _, (pp_modify (f := textF x.f2.size) (fun _ => rfl) _ _).trans (pp_kidP _), rfl⟩
  ·simp only [if_neg hm] at h ⊢
   have hm' : mayP s.row 46 = false := by simpa using hm
   by_cases hb : blackP x.f2 x.f2.size 0 < x.f2.size
   ·simp only [if_pos hb] at h; cases h
   ·simp only [if_neg hb]
    exact .inr (.inl ⟨h1, hm', trivial⟩)
 ·simp only [if_neg h1] at h ⊢
  by_cases h2 : x.f0 = 2
  ·simp only [if_pos h2] at h ⊢
   unfold opensP at h ⊢
   by_cases hm : mayP s.row x.f1 = true
   ·simp only [if_pos hm] at h ⊢
    refine .inr (.inr (.inl ⟨h2, _, ?_, rfl⟩))
    unfold pp
    rw [List.map_append]
    have e : (kidP (markP s.row x.f1)).map (fun o => o.pos.toNat) = s.row.map (fun o => o.pos.toNat) := (pp_kidP _).trans (pp_markP _ _)
    rw [e]
    simp
   ·simp only [if_neg hm] at h; cases h
  ·simp only [if_neg h2] at h ⊢
   unfold shutsP at h ⊢
   by_cases hr : s.row = []
   ·simp only [if_pos hr] at h; cases h
   ·simp only [if_neg hr] at h ⊢
    have htop : topP s.row = s.row.getLast hr := by
     unfold topP
     rw [List.getLast?_eq_some_getLast hr]
     rfl
    have hmem : topP s.row ∈ s.row := by rw [htop]; exact List.getLast_mem hr
    have hpp := hp _ hmem
    refine .inr (.inr (.inr ⟨h1, h2, (wholeP s.row.dropLast (topP s.row)).1, (topP s.row).pos.toNat, ?_, by omega, ?_⟩))
    ·rw [pp_wholeP]
     unfold pp
     have : s.row = s.row.dropLast ++ [topP s.row] := by rw [htop]; exact (List.dropLast_concat_getLast hr).symm
     conv => lhs; rw [this]
     rw [List.map_append]
     rfl
    ·rw [show (((topP s.row).pos.toNat : Nat) : Int) = (topP s.row).pos from by omega]
def setE : List Nat → List Int → List S56 → List S56
 | p :: ps, e :: es, t => setE ps es (t.modify p (sizeF (e - p)))
 | _, _, t => t
theorem setE_len : ∀ (ps : List Nat) (es : List Int) (t : List S56), (setE ps es t).length = t.length
 | [], _, t => rfl
 | _ :: _, [], t => rfl
 | p :: ps, e :: es, t => by simp only [setE]; rw [setE_len]; simp
theorem modify_left (l : List S56) (x : List S56) (p : Nat) (f : S56 → S56) (h : p < l.length) : (l ++ x).modify p f = l.modify p f ++ x := by
 apply List.ext_getElem?
 intro i
 rw [List.getElem?_modify]
 by_cases hi : i < l.length
 ·rw [List.getElem?_append_left hi, List.getElem?_append_left (by rw [List.length_modify]; exact hi), List.getElem?_modify]
 ·rw [List.getElem?_append_right (by omega), List.getElem?_append_right (by rw [List.length_modify]; omega), List.length_modify]
  have : p ≠ i := by omega
  simp [this]
theorem setE_app : ∀ (ps : List Nat) (es : List Int) (t x : List S56), (∀ p ∈ ps, p < t.length) → setE ps es (t ++ x) = setE ps es t ++ x
 | [], _, t, x, _ => rfl
 | _ :: _, [], t, x, _ => rfl
 | p :: ps, e :: es, t, x, h => by
  simp only [setE]
  rw [modify_left t x p _ (h p List.mem_cons_self)]
  exact setE_app ps es _ x fun q hq => by rw [List.length_modify]; exact h q (List.mem_cons_of_mem _ hq)
theorem modify_comm (t : List S56) (p q : Nat) (f g : S56 → S56) (h : p ≠ q) : (t.modify p f).modify q g = (t.modify q g).modify p f := by
 apply List.ext_getElem?
 intro i
 simp only [List.getElem?_modify]
 cases t[i]? with
 | none => rfl
 | some y => by_cases h1 : p = i <;> by_cases h2 : q = i <;> simp [h1, h2] <;> omega
theorem setE_comm : ∀ (ps : List Nat) (es : List Int) (t : List S56) (p : Nat) (f : S56 → S56), (∀ q ∈ ps, q ≠ p) → setE ps es (t.modify p f) = (setE ps es t).modify p f
 | [], _, t, p, f, _ => rfl
 | _ :: _, [], t, p, f, _ => rfl
 | q :: ps, e :: es, t, p, f, h => by
  simp only [setE]
  rw [modify_comm t p q f _ (fun e => h q List.mem_cons_self e.symm)]
  exact setE_comm ps es _ p f fun r hr => h r (List.mem_cons_of_mem _ hr)
theorem setE_snoc : ∀ (ps : List Nat) (es : List Int) (t : List S56) (p : Nat) (e : Int), ps.length = es.length → setE (ps ++ [p]) (es ++ [e]) t = (setE ps es t).modify p (sizeF (e - p))
 | [], [], t, p, e, _ => rfl
 | [], _ :: _, t, p, e, h => by cases h
 | _ :: _, [], t, p, e, h => by cases h
 | q :: ps, d :: es, t, p, e, h => by
  simp only [List.cons_append, setE]
  exact setE_snoc ps es _ p e (by simpa using h)
def Segs : Nat → List Nat → List S56 → Prop
 | a, [], t => a ≤ t.length ∧ sizedT t a t.length = true
 | a, p :: ps, t => a ≤ p ∧ p < t.length ∧ sizedT t a p = true ∧ Segs (p + 1) ps t
theorem Segs_lt : ∀ (ps : List Nat) (a : Nat) (t : List S56), Segs a ps t → ∀ p ∈ ps, a ≤ p ∧ p < t.length
 | [], a, t, h, p, hp => by cases hp
 | q :: ps, a, t, h, p, hp => by
  rcases List.mem_cons.1 hp with rfl | hp
  ·exact ⟨h.1, h.2.1⟩
  ·have := Segs_lt ps (q + 1) t h.2.2.2 p hp
   exact ⟨by have := h.1; omega, this.2⟩
theorem sizedB_congr {t u : List S56} : ∀ (n a e : Nat), (∀ i, a ≤ i → i < e → rd_T56 u i = rd_T56 t i) → sizedB n u a e = sizedB n t a e
 | 0, a, e, _ => rfl
 | n + 1, a, e, h => by
  simp only [sizedB]
  by_cases hlt : a < e
  ·rw [if_pos hlt, if_pos hlt, h a (Nat.le_refl _) hlt]
   by_cases hs : 1 ≤ (rd_T56 t a).f3 ∧ (rd_T56 t a).f3 ≤ (e : Int) - a
   ·rw [if_pos hs, if_pos hs, sizedB_congr n _ _ fun i h1 h2 => h i (by omega) (by omega), sizedB_congr n _ _ fun i h1 h2 => h i (by omega) (by omega)]
   ·rw [if_neg hs, if_neg hs]
  ·rw [if_neg hlt, if_neg hlt]
theorem sizedT_congr {t u : List S56} {a e : Nat} (h : ∀ i, a ≤ i → i < e → rd_T56 u i = rd_T56 t i) : sizedT u a e = sizedT t a e := sizedB_congr _ a e h
theorem sizedT_join (t : List S56) : ∀ (n a b e : Nat), b - a ≤ n → a ≤ b → b ≤ e → sizedT t a b = true → sizedT t b e = true → sizedT t a e = true
 | 0, a, b, e, hn, h1, h2, ha, hb => by
  obtain rfl : a = b := by omega
  exact hb
 | n + 1, a, b, e, hn, h1, h2, ha, hb => by
  by_cases hlt : a < b
  ·rw [sizedT_step t a b hlt] at ha
   by_cases hc : 1 ≤ (rd_T56 t a).f3 ∧ (rd_T56 t a).f3 ≤ (b : Int) - a
   ·rw [if_pos hc, Bool.and_eq_true] at ha
    rw [sizedT_step t a e (by omega), if_pos ⟨hc.1, by omega⟩, ha.1, Bool.true_and]
    exact sizedT_join t n _ b e (by omega) (by omega) h2 ha.2 hb
   ·rw [if_neg hc] at ha; cases ha
  ·obtain rfl : a = b := by omega
   exact hb
theorem rd_app_left (t x : List S56) (i : Nat) (h : i < t.length) : rd_T56 (t ++ x) i = rd_T56 t i := by
 rw [rd56_nat, rd56_nat]
 simp only [List.getD_eq_getElem?_getD]
 rw [List.getElem?_append_left h]
theorem rd_app_last (t : List S56) (x : S56) : rd_T56 (t ++ [x]) ((t.length : Nat) : Int) = x := by
 rw [rd56_nat]
 simp [List.getD_eq_getElem?_getD]
theorem rd_modify_ne (t : List S56) (p i : Nat) (f : S56 → S56) (h : p ≠ i) : rd_T56 (t.modify p f) i = rd_T56 t i := by
 rw [rd56_nat, rd56_nat]
 simp only [List.getD_eq_getElem?_getD]
 rw [List.getElem?_modify]
 simp [h]
theorem rd_modify_eq (t : List S56) (p : Nat) (f : S56 → S56) (h : p < t.length) : rd_T56 (t.modify p f) p = f (rd_T56 t p) := by
 rw [rd56_nat, rd56_nat]
 simp only [List.getD_eq_getElem?_getD]
 rw [List.getElem?_modify]
 simp [List.getElem?_eq_getElem h]
theorem sized_one (t : List S56) (x : S56) (h : x.f3 = 1) : sizedT (t ++ [x]) t.length (t.length + 1) = true := by
 rw [sizedT_step _ _ _ (by omega), rd_app_last, h, if_pos ⟨by omega, by omega⟩]
 rw [sizedT_end _ _ _ (by simp), sizedT_end _ _ _ (by simp)]
 rfl
theorem Segs_push : ∀ (ps : List Nat) (a : Nat) (t : List S56) (x : S56), x.f3 = 1 → Segs a ps t → Segs a ps (t ++ [x])
 | [], a, t, x, hx, h => by
  simp only [Segs, List.length_append, List.length_cons, List.length_nil] at h ⊢
  refine ⟨by omega, sizedT_join _ t.length a t.length (t.length + 1) (by omega) h.1 (by omega) ?_ (sized_one t x hx)⟩
  rw [sizedT_congr (t := t) fun i h1 h2 => rd_app_left t [x] i h2]
  exact h.2
 | p :: ps, a, t, x, hx, h => by
  simp only [Segs, List.length_append, List.length_cons, List.length_nil] at h ⊢
  refine ⟨h.1, by omega, ?_, Segs_push ps (p + 1) t x hx h.2.2.2⟩
  rw [sizedT_congr (t := t) fun i h1 h2 => rd_app_left t [x] i (by omega)]
  exact h.2.2.1
theorem Segs_open : ∀ (ps : List Nat) (a : Nat) (t : List S56) (x : S56), Segs a ps t → Segs a (ps ++ [t.length]) (t ++ [x])
 | [], a, t, x, h => by
  simp only [Segs, List.nil_append, List.length_append, List.length_cons, List.length_nil] at h ⊢
  refine ⟨h.1, by omega, ?_, by omega, sizedT_end _ _ _ (by omega)⟩
  rw [sizedT_congr (t := t) fun i h1 h2 => rd_app_left t [x] i h2]
  exact h.2
 | p :: ps, a, t, x, h => by
  simp only [Segs, List.cons_append, List.length_append, List.length_cons, List.length_nil] at h ⊢
  refine ⟨h.1, by omega, ?_, Segs_open ps (p + 1) t x h.2.2.2⟩
  rw [sizedT_congr (t := t) fun i h1 h2 => rd_app_left t [x] i (by omega)]
  exact h.2.2.1
theorem Segs_shut : ∀ (ps : List Nat) (a : Nat) (t : List S56) (p : Nat), Segs a (ps ++ [p]) t → Segs a ps (t.modify p (sizeF ((t.length : Int) - p)))
 | [], a, t, p, h => by
  simp only [Segs, List.nil_append, List.length_modify] at h ⊢
  obtain ⟨h1, h2, h3, h4, h5⟩ := h
  refine ⟨by omega, sizedT_join _ t.length a p t.length (by omega) h1 (by omega) ?_ ?_⟩
  ·rw [sizedT_congr (t := t) fun i q1 q2 => rd_modify_ne t p i _ (by omega)]
   exact h3
  ·rw [sizedT_step _ _ _ h2, rd_modify_eq t p _ h2]
   have e : (sizeF ((t.length : Int) - p) (rd_T56 t p)).f3 = (t.length : Int) - p := rfl
   rw [e, if_pos ⟨by omega, by omega⟩, show p + ((t.length : Int) - p).toNat = t.length from by omega, sizedT_end _ t.length t.length (by omega), Bool.and_true]
   rw [sizedT_congr (t := t) fun i q1 q2 => rd_modify_ne t p i _ (by omega)]
   exact h5
 | q :: ps, a, t, p, h => by
  simp only [Segs, List.cons_append, List.length_modify] at h ⊢
  have hlt := (Segs_lt _ _ _ h.2.2.2 p (by simp)).1
  refine ⟨h.1, h.2.1, ?_, Segs_shut ps (q + 1) t p h.2.2.2⟩
  rw [sizedT_congr (t := t) fun i q1 q2 => rd_modify_ne t p i _ (by omega)]
  exact h.2.2.1
def eX (x : S47) : S47 := { x with f3 := 0 }
def outS (s : Bld) (x : S47) : List S47 := if x.f0 = 1 ∧ mayP s.row 46 = false then [] else [eX x]
def outR : Bld → List S47 → List S47
 | _, [] => []
 | s, x :: l => outS s x ++ outR (stepP s x).1 l
structure MInv (src : ByteArray) (s : Bld) (out : List S47) (lo : Int) : Prop where
 pos : PosIn s
 seg : Segs 0 (pp s.row) s.t
 nodes : ∀ y ∈ s.t, NodeAt src y
 opens : ∀ p ∈ pp s.row, (rd_T56 s.t p).f0 ≠ 46
 rise : (s.t.map (·.f2)).Pairwise (· < ·)
 low : ∀ y ∈ s.t, y.f2 < lo
 ev : ∃ (o : List S47) (q : Nat), (∀ E : List Int, E.length = (pp s.row).length → (∀ v ∈ E, (s.t.length : Int) ≤ v) → evRun (setE (pp s.row) E s.t) 0 ([], []) = (o, E ++ List.replicate q (s.t.length : Int))) ∧ o ++ List.replicate q shutX = out
theorem MInv0 (src : ByteArray) : MInv src bld0 [] 0 where
 pos := by intro o ho; cases ho
 seg := ⟨Nat.le_refl _, sizedT_end _ _ _ (by show ¬ 0 < 0; omega)⟩
 nodes := by intro y hy; cases hy
 opens := by intro p hp; cases hp
 rise := List.Pairwise.nil
 low := by intro y hy; cases hy
 ev := ⟨[], 0, fun E hE _ => by
  obtain rfl : E = [] := List.eq_nil_of_length_eq_zero hE
  rfl, rfl⟩
theorem map_f2_modify (t : List S56) (p : Nat) (z : Int) : (t.modify p (sizeF z)).map (·.f2) = t.map (·.f2) := by
 apply List.ext_getElem?
 intro i
 simp only [List.getElem?_map, List.getElem?_modify]
 cases t[i]? with
 | none => rfl
 | some y => simp only [Option.map_some]; split <;> rfl
theorem mem_modify56 {t : List S56} {p : Nat} {z : Int} {y : S56} (h : y ∈ t.modify p (sizeF z)) : y ∈ t ∨ (p < t.length ∧ y = sizeF z (rd_T56 t p)) := by
 rw [List.mem_iff_getElem?] at h
 obtain ⟨i, hi⟩ := h
 rw [List.getElem?_modify] at hi
 cases hl : t[i]? with
 | none => rw [hl] at hi; simp at hi
 | some x =>
  rw [hl] at hi
  simp only [Option.map_eq_map, Option.map_some, Option.some.injEq] at hi
  by_cases e : p = i
  ·subst e
   rw [if_pos rfl] at hi
   refine .inr ⟨(List.getElem?_eq_some_iff.1 hl).1, ?_⟩
   rw [← hi, rd56_nat, List.getD_eq_getElem?_getD, hl]
   rfl
  ·rw [if_neg e] at hi
   exact .inl (by rw [← hi]; exact List.mem_of_getElem? hl)
theorem MInv_push {src : ByteArray} {s : Bld} {out : List S47} {lo : Int} (h : MInv src s out lo) (y : S56) (hy : NodeAt src y) (hlo : lo ≤ y.f2) (r : List Opn) :
  (∀ z ∈ s.t ++ [y], NodeAt src z) ∧ ((s.t ++ [y]).map (·.f2)).Pairwise (· < ·) ∧ (∀ z ∈ s.t ++ [y], z.f2 < y.f2 + 1) := by
 refine ⟨fun z hz => ?_, ?_, fun z hz => ?_⟩
 ·rcases List.mem_append.1 hz with hz | hz
  ·exact h.nodes z hz
  ·rw [List.mem_singleton.1 hz]; exact hy
 ·rw [List.map_append, List.pairwise_append]
  refine ⟨h.rise, by simp, fun a ha b hb => ?_⟩
  obtain ⟨z, hz, rfl⟩ := List.mem_map.1 ha
  simp only [List.map_cons, List.map_nil, List.mem_singleton] at hb
  have := h.low z hz
  omega
 ·rcases List.mem_append.1 hz with hz | hz
  ·have := h.low z hz; omega
  ·rw [List.mem_singleton.1 hz]; omega
theorem evRun_snoc (l : List S56) (x : S56) (i : Nat) (s : List S47 × List Int) : evRun (l ++ [x]) i s = evStep x (i + l.length) (evRun l i s) := by
 rw [evRun_app]
 rfl
theorem MInv_step {src : ByteArray} {s : Bld} {out : List S47} {lo : Int} (h : MInv src s out lo) (x : S47) (hx : LexAt src x) (hlo : lo ≤ x.f3) (h0 : (stepP s x).2.2 = 0) : MInv src (stepP s x).1 (out ++ outS s x) (x.f3 + 1) := by
 have hpos := stepP_pos s x h.pos
 obtain ⟨o, q, hev, hout⟩ := h.ev
 have hlt := Segs_lt _ _ _ h.seg
 rcases step_cases s x h0 h.pos with ⟨h1, hm, r, hr, hs⟩ | ⟨h1, hm, hs⟩ | ⟨h2, r, hr, hs⟩ | ⟨h1, h2, r, p, hr, hp, hs⟩
 ·
  rw [hs] at hpos ⊢
  obtain ⟨g1, g2⟩ : x.f1 = 0 ∧ TextAt src x.f2 x.f3 := by
   rcases hx with ⟨_, a, b⟩ | ⟨a, _⟩ | ⟨a, _⟩
   ·exact ⟨a, b⟩
   ·omega
   ·omega
  obtain ⟨k1, k2, k3⟩ := MInv_push h ⟨46, x.f2, x.f3, 1⟩ (.inl ⟨rfl, rfl, g2⟩) hlo r
  have ho : outS s x = [nodeX ⟨46, x.f2, x.f3, 1⟩] := by
   unfold outS
   rw [if_neg (by rw [hm]; simp)]
   obtain ⟨f0, f1, f2, f3⟩ := x
   simp only at h1 g1
   subst h1
   subst g1
   rfl
  refine ⟨hpos, by rw [hr]; exact Segs_push _ _ _ _ rfl h.seg, k1, fun p hp => ?_, k2, k3, o ++ List.replicate q shutX ++ [nodeX ⟨46, x.f2, x.f3, 1⟩], 0, fun E hE hv => ?_, ?_⟩
  ·show (rd_T56 (s.t ++ [(⟨46, x.f2, x.f3, 1⟩ : S56)]) p).f0 ≠ 46
   rw [hr] at hp
   rw [rd_app_left _ _ _ (hlt p hp).2]
   exact h.opens p hp
  ·simp only [hr, List.length_append, List.length_cons, List.length_nil] at hE hv ⊢
   rw [setE_app _ _ _ _ (fun p hp => (hlt p hp).2), evRun_snoc, hev E hE (fun v hv' => by have := hv v hv'; omega), setE_len, Nat.zero_add]
   unfold evStep
   rw [closeE_due E s.t.length (fun v hv' => by have := hv v hv'; omega) q _ o (by simp)]
   simp
  ·rw [ho, ← hout]
   simp
 ·
  rw [hs] at hpos ⊢
  have ho : outS s x = [] := by unfold outS; rw [if_pos ⟨h1, hm⟩]
  rw [ho, List.append_nil]
  exact ⟨hpos, h.seg, h.nodes, h.opens, h.rise, fun y hy => by have := h.low y hy; omega, h.ev⟩
 ·
  rw [hs] at hpos ⊢
  obtain ⟨g1, g2⟩ : x.f2 = ⟨#[]⟩ ∧ OpenAt src x.f1 x.f3 := by
   rcases hx with ⟨a, _⟩ | ⟨_, a, b⟩ | ⟨a, _⟩
   ·omega
   ·exact ⟨a, b⟩
   ·omega
  have h46 : x.f1 ≠ 46 := by obtain ⟨p, _, _, _, h, _⟩ := g2; exact h
  obtain ⟨k1, k2, k3⟩ := MInv_push h ⟨x.f1, ⟨#[]⟩, x.f3, 1⟩ (.inr ⟨h46, rfl, g2⟩) hlo r
  have ho : outS s x = [nodeX ⟨x.f1, ⟨#[]⟩, x.f3, 1⟩] := by
   unfold outS
   rw [if_neg (by omega)]
   obtain ⟨f0, f1, f2, f3⟩ := x
   simp only at h2 g1 h46
   subst h2
   subst g1
   unfold nodeX
   rw [if_neg h46]
   rfl
  refine ⟨hpos, by rw [hr]; exact Segs_open _ _ _ _ h.seg, k1, fun p hp => ?_, k2, k3, o ++ List.replicate q shutX ++ [nodeX ⟨x.f1, ⟨#[]⟩, x.f3, 1⟩], 0, fun E hE hv => ?_, ?_⟩
  ·show (rd_T56 (s.t ++ [(⟨x.f1, ⟨#[]⟩, x.f3, 1⟩ : S56)]) p).f0 ≠ 46
   rw [hr] at hp
   rcases List.mem_append.1 hp with hp | hp
   ·rw [rd_app_left _ _ _ (hlt p hp).2]
    exact h.opens p hp
   ·rw [List.mem_singleton.1 hp, rd_app_last]
    exact h46
  ·simp only [hr, List.length_append, List.length_cons, List.length_nil] at hE hv ⊢
   obtain ⟨E', e, rfl⟩ : ∃ E' e, E = E' ++ [e] := by
    rcases List.eq_nil_or_concat E with rfl | ⟨E', e, he⟩
    ·simp at hE
    ·exact ⟨E', e, by rw [he, List.concat_eq_append]⟩
   have hE' : E'.length = (pp s.row).length := by simpa using hE
   rw [setE_snoc _ _ _ _ _ hE'.symm, setE_app _ _ _ _ (fun p hp => (hlt p hp).2)]
   have hmod : (setE (pp s.row) E' s.t ++ [(⟨x.f1, ⟨#[]⟩, x.f3, 1⟩ : S56)]).modify s.t.length (sizeF (e - (s.t.length : Int))) = setE (pp s.row) E' s.t ++ [⟨x.f1, ⟨#[]⟩, x.f3, e - (s.t.length : Int)⟩] := by
    have := modify_app (setE (pp s.row) E' s.t) [(⟨x.f1, ⟨#[]⟩, x.f3, 1⟩ : S56)] 0 (sizeF (e - (s.t.length : Int)))
    rw [setE_len, Nat.add_zero] at this
    rw [this]
    rfl
   rw [hmod, evRun_snoc, hev E' hE' (fun v hv' => by have := hv v (List.mem_append_left _ hv'); omega), setE_len, Nat.zero_add]
   unfold evStep
   rw [closeE_due E' s.t.length (fun v hv' => by have := hv v (List.mem_append_left _ hv'); omega) q _ o (by simp)]
   simp only
   rw [if_neg h46]
   have en : nodeX ⟨x.f1, ⟨#[]⟩, x.f3, e - (s.t.length : Int)⟩ = nodeX ⟨x.f1, ⟨#[]⟩, x.f3, 1⟩ := rfl
   rw [en, show (s.t.length : Int) + (e - (s.t.length : Int)) = e from by omega]
   simp
  ·rw [ho, ← hout]
   simp
 ·
  rw [hs] at hpos ⊢
  obtain ⟨g1, g2, g3⟩ : x.f0 = 3 ∧ x.f1 = 0 ∧ x.f2 = ⟨#[]⟩ := by
   rcases hx with ⟨a, _⟩ | ⟨a, _⟩ | ⟨a, b, c, _⟩
   ·omega
   ·omega
   ·exact ⟨a, b, c⟩
  have ho : outS s x = [shutX] := by
   unfold outS
   rw [if_neg (by omega)]
   obtain ⟨f0, f1, f2, f3⟩ := x
   simp only at g1 g2 g3
   subst g1
   subst g2
   subst g3
   rfl
  have hseg := h.seg
  rw [hr] at hseg
  have hpr : ∀ a ∈ pp r, a < p := by
   have : ∀ (ps : List Nat) (a : Nat), Segs a (ps ++ [p]) s.t → ∀ b ∈ ps, b < p := by
    intro ps
    induction ps with
    | nil => intro a _ b hb; cases hb
    | cons c ps ih =>
     intro a hh b hb
     rcases List.mem_cons.1 hb with rfl | hb
     ·have := (Segs_lt _ _ _ hh.2.2.2 p (by simp)).1
      omega
     ·exact ih _ hh.2.2.2 b hb
   exact this _ _ hseg
  refine ⟨hpos, Segs_shut _ _ _ _ hseg, fun y hy => ?_, fun a ha => ?_, ?_, fun y hy => ?_, o, q + 1, fun E hE hv => ?_, ?_⟩
  ·rcases mem_modify56 hy with hy | ⟨hl, rfl⟩
   ·exact h.nodes y hy
   ·have hn := h.opens p (by rw [hr]; simp)
    rcases h.nodes _ (rd56_mem s.t p hl) with ⟨a, _⟩ | ⟨a, b, c⟩
    ·exact absurd a hn
    ·exact .inr ⟨a, b, c⟩
  ·show (rd_T56 (s.t.modify p _) a).f0 ≠ 46
   have := hpr a ha
   rw [rd_modify_ne _ _ _ _ (by omega)]
   exact h.opens a (by rw [hr]; simp [ha])
  ·show ((s.t.modify p _).map (·.f2)).Pairwise _
   rw [map_f2_modify]
   exact h.rise
  ·rcases mem_modify56 hy with hy | ⟨hl, rfl⟩
   ·have := h.low y hy; omega
   ·have := h.low _ (rd56_mem s.t p hl)
    show (rd_T56 s.t p).f2 < x.f3 + 1
    omega
  ·simp only [List.length_modify] at hE hv ⊢
   rw [setE_comm _ _ _ _ _ (fun a ha => by have := hpr a ha; omega), ← setE_snoc _ _ _ _ _ hE.symm, ← hr]
   rw [hev (E ++ [(s.t.length : Int)]) (by rw [hr]; simp [hE]) (fun v hv' => by
    rcases List.mem_append.1 hv' with hv' | hv'
    ·exact hv v hv'
    ·rw [List.mem_singleton.1 hv']; omega)]
   rw [List.append_assoc, List.replicate_succ]
   rfl
  ·rw [ho, ← hout, List.replicate_succ', List.append_assoc]
theorem MInv_run {src : ByteArray} : ∀ (l : List S47) (s : Bld) (out : List S47) (lo : Int), MInv src s out lo → (∀ x ∈ l, LexAt src x ∧ lo ≤ x.f3) → (l.map (·.f3)).Pairwise (· < ·) → (runP s l).2.2 = 0 → ∃ lo', MInv src (runP s l).1 (out ++ outR s l) lo'
 | [], s, out, lo, h, _, _, _ => ⟨lo, by simpa [outR, runP] using h⟩
 | x :: l, s, out, lo, h, hl, hp, hr => by
  obtain ⟨h0, h1, h2⟩ := run_cons s x l hr
  obtain ⟨g1, g2⟩ := hl x List.mem_cons_self
  rw [List.map_cons, List.pairwise_cons] at hp
  obtain ⟨lo', k⟩ := MInv_run l _ _ _ (MInv_step h x g1 g2 h0) (fun y hy => ⟨(hl y (List.mem_cons_of_mem _ hy)).1, by
   have := hp.1 _ (List.mem_map_of_mem hy)
   omega⟩) hp.2 h1
  refine ⟨lo', ?_⟩
  rw [h2]
  simp only [outR]
  rw [← List.append_assoc]
  exact k
def eN (y : S56) : S56 := { y with f2 := 0 }
def EqB (s u : Bld) : Prop := u.row = s.row ∧ u.t.map eN = s.t.map eN
theorem EqB_len {s u : Bld} (h : EqB s u) : u.t.length = s.t.length := by
 have := congrArg List.length h.2
 simpa using this
theorem map_eN_modify (t : List S56) (p : Nat) (z : Int) : (t.modify p (sizeF z)).map eN = (t.map eN).modify p (sizeF z) := by
 apply List.ext_getElem?
 intro i
 simp only [List.getElem?_map, List.getElem?_modify]
 cases t[i]? with
 | none => rfl
 | some y => simp only [Option.map_some]; by_cases h : p = i <;> simp [h, eN, sizeF]
theorem EqB_step {s u : Bld} (h : EqB s u) (x : S47) : (stepP u (eX x)).2.2 = (stepP s x).2.2 ∧ EqB (stepP s x).1 (stepP u (eX x)).1 := by
 have hl := EqB_len h
 obtain ⟨hr, ht⟩ := h
 obtain ⟨ur, ut⟩ := u
 simp only at hr ht hl
 subst hr
 unfold stepP
 have e0 : (eX x).f0 = x.f0 := rfl
 have e1 : (eX x).f1 = x.f1 := rfl
 have e2 : (eX x).f2 = x.f2 := rfl
 rw [e0]
 by_cases h1 : x.f0 = 1
 ·simp only [if_pos h1]
  unfold textsP
  rw [e2]
  by_cases hm : mayP s.row 46 = true
  ·simp only [if_pos hm]
   cases ha : aroundP [110] (kidP s.row) (kidP s.row).length with
   | none => simp only [ha, hl]; exact ⟨trivial, rfl, by simp [ht, eN]⟩
   | some j => simp only [ha, hl]; exact ⟨trivial, rfl, by simp [ht, eN]⟩
  ·simp only [if_neg hm]
   by_cases hb : blackP x.f2 x.f2.size 0 < x.f2.size
   ·simp only [if_pos hb]; exact ⟨trivial, rfl, ht⟩
   ·simp only [if_neg hb]; exact ⟨trivial, rfl, ht⟩
 ·simp only [if_neg h1]
  by_cases h2 : x.f0 = 2
  ·simp only [if_pos h2]
   unfold opensP
   rw [e1]
   by_cases hm : mayP s.row x.f1 = true
   ·simp only [if_pos hm, hl]; exact ⟨trivial, rfl, by simp [ht, eN]⟩
   ·simp only [if_neg hm]; exact ⟨trivial, rfl, ht⟩
  ·simp only [if_neg h2]
   unfold shutsP
   by_cases hr : s.row = []
   ·simp only [if_pos hr]; exact ⟨trivial, rfl, ht⟩
   ·simp only [if_neg hr, hl]
    refine ⟨trivial, rfl, ?_⟩
    rw [map_eN_modify, map_eN_modify, ht]
theorem okR_out : ∀ (l : List S47) (s u : Bld), EqB s u → PosIn s → (runP s l).2.2 = 0 → okR u (outR s l) = true
 | [], s, u, _, _, _ => rfl
 | x :: l, s, u, h, hp, hr => by
  obtain ⟨h0, h1, h2⟩ := run_cons s x l hr
  simp only [outR]
  unfold outS
  by_cases hc : x.f0 = 1 ∧ mayP s.row 46 = false
  ·rw [if_pos hc, List.nil_append]
   have hs : (stepP s x).1 = s := by
    rcases step_cases s x h0 hp with ⟨_, hm, _⟩ | ⟨_, _, hs⟩ | ⟨a, _⟩ | ⟨a, _⟩
    ·rw [hc.2] at hm; cases hm
    ·exact hs
    ·omega
    ·exact absurd hc.1 a
   rw [hs] at h1 ⊢
   exact okR_out l s u h hp h1
  ·rw [if_neg hc, List.singleton_append]
   obtain ⟨g1, g2⟩ := EqB_step h x
   simp only [okR]
   rw [g1, h0, okR_out l _ _ g2 (stepP_pos s x hp) h1]
   have : ((eX x).f0 == 1 && !mayP u.row 46) = false := by
    have e0 : (eX x).f0 = x.f0 := rfl
    rw [e0, h.1]
    by_cases hx : x.f0 = 1
    ·have : mayP s.row 46 = true := by
      cases hm : mayP s.row 46 with
      | true => rfl
      | false => exact absurd ⟨hx, hm⟩ hc
     rw [this]; simp
    ·simp [hx]
   rw [this]
   rfl
theorem parse_may {s : ByteArray} {t : List S56} {a : Int} (h : parseP s = (t, a, 0)) : checkP t = 0 ∧ a = 0 ∧ t.length ≤ 2000 ∧ (∀ y ∈ t, NodeAt s y) ∧ (t.map (·.f2)).Pairwise (· < ·) ∧ sizedT t 0 t.length = true := by
 obtain ⟨p1, p2, p3, p4, p5, p6⟩ := parse_ok h
 have ha : a = 0 := by
  unfold parseP at h
  rw [if_neg (by simpa using p3), if_neg (by simpa using p4), if_neg (by simpa using p5)] at h
  exact (congrArg (fun z => z.2.1) h).symm
 obtain ⟨g1, g2⟩ := Lx_at p1
 obtain ⟨lo, hm⟩ := MInv_run _ _ _ _ (MInv0 s) (fun x hx => ⟨(g1 x hx).1, by have := (g1 x hx).2; omega⟩) g2 p4
 have hok := okR_out (lexP s).1 bld0 bld0 ⟨rfl, rfl⟩ (by intro o ho; cases ho) p4
 rw [List.nil_append] at hm
 have hseg := hm.seg
 rw [p5] at hseg
 obtain ⟨o, q, hev, hout⟩ := hm.ev
 rw [p5] at hev
 have he := hev [] rfl (by intro v hv; cases hv)
 rw [← p6] at he hseg
 have hev2 : eventsP t = outR bld0 (lexP s).1 := by
  unfold eventsP
  have e1 : setE (pp []) [] t = t := rfl
  rw [e1] at he
  rw [he, ← hout]
  simp
 have hnodes := hm.nodes
 have hrise := hm.rise
 rw [← p6] at hnodes hrise
 refine ⟨check_mk (fun x hx => NodeAt_plain (hnodes x hx)) hseg.2 (by rw [hev2]; exact hok), ha, ?_, hnodes, hrise, hseg.2⟩
 have : ∀ (l : List S47) (b : Bld), b.t.length ≤ 2000 → (runP b l).2.2 = 0 → (runP b l).1.t.length ≤ 2000 := by
  intro l
  induction l with
  | nil => intro b hb _; exact hb
  | cons x l ih =>
   intro b hb hr
   obtain ⟨k0, k1, k2⟩ := run_cons b x l hr
   rw [k2]
   exact ih _ (stepP_bound b x k0 hb) k1
 rw [p6]
 exact this _ _ (by decide) p4
theorem allL_lt (s : ByteArray) : ∀ (d a : Nat), ∀ x ∈ allL s d a, x.1 < s.size
 | 0, a, x, h => by cases h
 | d + 1, a, x, h => by
  simp only [allL] at h
  by_cases hlt : a < s.size
  ·rw [if_pos hlt] at h
   rcases List.mem_cons.1 h with rfl | h
   ·exact hlt
   ·split at h
    ·exact allL_lt s d _ x h
    ·cases h
  ·rw [if_neg hlt] at h; cases h
theorem lexP_place (s : ByteArray) : 0 ≤ (lexP s).2.1 ∧ (lexP s).2.1 ≤ s.size := by
 unfold lexP
 split
 ·exact ⟨Int.le_refl _, by show (0 : Int) ≤ _; omega⟩
 ·split
  ·exact ⟨Int.le_refl _, by show (0 : Int) ≤ _; omega⟩
  ·show 0 ≤ lastAt _ ∧ lastAt _ ≤ _
   unfold lastAt
   split
   ·rename_i x hx
    have := allL_lt s _ _ x (List.mem_of_getLast? hx)
    omega
   ·omega
theorem step_place {src : ByteArray} (hs : src.size ≤ 8192) (s : Bld) (x : S47) (hx : LexAt src x) : 0 ≤ (stepP s x).2.1 ∧ (stepP s x).2.1 ≤ src.size := by
 have h3 : 0 ≤ x.f3 ∧ x.f3 + x.f2.size ≤ src.size := by
  rcases hx with ⟨_, _, p, q, h1, h2, h3, h4, _⟩ | ⟨_, h2, p, h1, h3, _⟩ | ⟨_, _, h2, h1, h3⟩
  ·rw [h4, ByteArray.size_extract]; omega
  ·rw [h2]; show 0 ≤ x.f3 ∧ x.f3 + ((0 : Nat) : Int) ≤ _; omega
  ·rw [h2]; show 0 ≤ x.f3 ∧ x.f3 + ((0 : Nat) : Int) ≤ _; omega
 have h3' : 0 ≤ x.f3 ∧ x.f3 ≤ src.size := by omega
 unfold stepP
 split
 ·unfold textsP
  split
  ·split <;> exact h3'
  ·split
   ·rename_i hb
    show 0 ≤ wrap64 (x.f3 + (blackP x.f2 x.f2.size 0 : Nat)) ∧ wrap64 (x.f3 + (blackP x.f2 x.f2.size 0 : Nat)) ≤ _
    rw [IntWalk.wrap64_in _ ⟨by omega, by omega⟩]
    omega
   ·exact h3'
 ·split
  ·unfold opensP
   split <;> exact h3'
  ·unfold shutsP
   split <;> exact h3'
theorem run_place {src : ByteArray} (hs : src.size ≤ 8192) : ∀ (l : List S47) (s : Bld), (∀ x ∈ l, LexAt src x) → 0 ≤ (runP s l).2.1 ∧ (runP s l).2.1 ≤ src.size
 | [], s, _ => ⟨Int.le_refl _, by show (0 : Int) ≤ _; omega⟩
 | x :: l, s, h => by
  simp only [runP]
  split
  ·exact run_place hs l _ fun y hy => h y (List.mem_cons_of_mem _ hy)
  ·exact step_place hs s x (h x List.mem_cons_self)
theorem parse_place {s : ByteArray} {t : List S56} {a e : Int} (h : parseP s = (t, a, e)) (he : e ≠ 0) : t = [] ∧ 0 ≤ a ∧ a ≤ s.size := by
 unfold parseP at h
 by_cases h1 : (lexP s).2.2 = 0
 ·rw [if_neg (by simpa using h1)] at h
  obtain ⟨k1, k2⟩ := lexP_Lx h1
  have hat : ∀ x ∈ (lexP s).1, LexAt s x := fun x hx => ((Lx_at k1).1 x hx).1
  have hp := run_place k2 (lexP s).1 bld0 hat
  by_cases h2 : (runP bld0 (lexP s).1).2.2 = 0
  ·rw [if_neg (by simpa using h2)] at h
   by_cases h3 : (runP bld0 (lexP s).1).1.row = []
   ·rw [if_neg (by simpa using h3)] at h
    simp only [Prod.mk.injEq] at h
    exact absurd h.2.2.symm he
   ·rw [if_pos h3] at h
    simp only [Prod.mk.injEq] at h
    obtain ⟨rfl, rfl, _⟩ := h
    exact ⟨rfl, by omega, Int.le_refl _⟩
  ·rw [if_pos h2] at h
   simp only [Prod.mk.injEq] at h
   obtain ⟨rfl, rfl, _⟩ := h
   exact ⟨rfl, hp⟩
 ·rw [if_pos h1] at h
  simp only [Prod.mk.injEq] at h
  obtain ⟨rfl, rfl, _⟩ := h
  exact ⟨rfl, lexP_place s⟩
theorem may_node {s : ByteArray} {t : List S56} (hn : ∀ y ∈ t, NodeAt s y) (hr : (t.map (·.f2)).Pairwise (· < ·)) (hsz : sizedT t 0 t.length = true) (i : Nat) (hi : i < t.length) :
  0 ≤ (rd_T56 t i).f2 ∧ (rd_T56 t i).f2 < s.size ∧ (1 ≤ i → (rd_T56 t ((i - 1 : Nat) : Int)).f2 < (rd_T56 t i).f2) ∧ (1 ≤ (rd_T56 t i).f3 ∧ (rd_T56 t i).f3 ≤ (t.length : Int) - i) ∧
  ((rd_T56 t i).f0 = 46 → (rd_T56 t i).f3 = 1 ∧ (rd_T56 t i).f1.size ≠ 0 ∧ prefP (s.extract (rd_T56 t i).f2.toNat s.size) (rd_T56 t i).f1 = true) ∧
  ((rd_T56 t i).f0 ≠ 46 → bt s (rd_T56 t i).f2 = 123) := by
 have hm := hn _ (rd56_mem t i hi)
 have hz := sizedT_all t t.length 0 t.length (by omega) hsz i (by omega) hi
 have hrise : 1 ≤ i → (rd_T56 t ((i - 1 : Nat) : Int)).f2 < (rd_T56 t i).f2 := fun h1 => by
  have e : ∀ j : Nat, j < t.length → (t.map (·.f2))[j]? = some (rd_T56 t j).f2 := fun j hj => by
   rw [rd56_nat, List.getElem?_map, List.getD_eq_getElem?_getD, List.getElem?_eq_getElem hj]
   rfl
  rw [List.pairwise_iff_getElem] at hr
  have hl1 : i - 1 < (t.map (·.f2)).length := by rw [List.length_map]; omega
  have hl2 : i < (t.map (·.f2)).length := by rw [List.length_map]; omega
  have := hr (i - 1) i hl1 hl2 (by omega)
  have e1 := e (i - 1) (by omega)
  have e2 := e i hi
  rw [List.getElem?_eq_getElem hl1] at e1
  rw [List.getElem?_eq_getElem hl2] at e2
  rw [Option.some.inj e1, Option.some.inj e2] at this
  exact this
 rcases hm with ⟨h0, h3, p, q, h4, h5, h6, h7, h8⟩ | ⟨h0, h1, p, h4, h5, h6, h7, h8⟩
 ·refine ⟨by omega, by omega, hrise, hz, fun _ => ⟨h3, ?_, ?_⟩, fun h => absurd h0 h⟩
  ·rw [h7, ByteArray.size_extract]; omega
  ·rw [h4, h7, Int.toNat_natCast]
   exact prefP_ext s p q (by omega) h6
 ·exact ⟨by omega, by omega, hrise, hz, fun h => absurd h h0, fun _ => by rw [h4]; exact h6⟩
end Go.Proofs.Ythcmfjpheanphaa.Pr
