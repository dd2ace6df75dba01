/- Texts of this seat, one behind the other. -/
import Derived.Test.YthcmfjpheanphaaXTreeChecks1
import Derived.Test.YthcmfjpheanphaaXTreeChecks2
import Derived.Test.YthcmfjpheanphaaXTreeChecks3
import Derived.Test.YthcmfjpheanphaaXTreeChecks4
import Derived.Test.YthcmfjpheanphaaXTreeChecks5
import Derived.Test.YthcmfjpheanphaaXTreeChecks6
import Derived.Test.YthcmfjpheanphaaXTreeChecks7
set_option linter.unusedVariables false
set_option linter.unusedSimpArgs false
namespace Go.Proofs.Ythcmfjpheanphaa.Pr
open Go.RowKit Go.Proofs.YthcmfjpheanphaaW.PrintWords Go.Proofs.YthcmfjpheanphaaW.PrintLast Go.Proofs.YthcmfjpheanphaaW.PrintMore
attribute [local go_sem] max2_int min2_int max_two min_two max_three min_three max_four min_four
mutual
def tree_sized.l0 : Nat → List (S56) → Int → Int → Option (Bool)
 | 0, _, _, _ => none
 | k + 1, x0, x1, x2 => if x1 < x2 then (if 0 ≤ x1 then (if x1 < (x0.length : Int) then (if ((rd_T56 x0 x1).f3) < 1 then (some false) else (if ((rd_T56 x0 x1).f3) > (wrap64 (x2 - x1)) then (some false) else ((tree_sized.f k x0 (wrap64 (x1 + 1)) (wrap64 (x1 + ((rd_T56 x0 x1).f3)))).bind fun t233 => (if t233 = true then (tree_sized.l0 k x0 (wrap64 (x1 + ((rd_T56 x0 x1).f3))) x2) else (some false))))) else (none)) else (none)) else (some true)
def tree_sized.f : Nat → List (S56) → Int → Int → Option (Bool)
 | 0, _, _, _ => none
 | k + 1, l0, a1, a2 => tree_sized.l0 k l0 a1 a2
end
theorem tree_sized.mono_l : ∀ k, (∀ y0 y1 y2, LeO (tree_sized.f k y0 y1 y2) (tree_sized.f (k + 1) y0 y1 y2)) ∧ (∀ y0 y1 y2, LeO (tree_sized.l0 k y0 y1 y2) (tree_sized.l0 (k + 1) y0 y1 y2))
 | 0 => ⟨fun _ _ _ r h => by simp [tree_sized.f] at h, fun _ _ _ r h => by simp [tree_sized.l0] at h⟩
 | k + 1 => by
  obtain ⟨ih0, ih1⟩ := tree_sized.mono_l k
  refine ⟨?_, ?_⟩
  ·intro y0 y1 y2
   unfold tree_sized.f
   repeat' first
   | (with_reducible exact ih0 _ _ _)
   | (with_reducible exact ih1 _ _ _)
   | (with_reducible exact LeO.refl _)
   | (with_reducible exact LeO.none _)
   | (with_reducible refine LeO.ite ?_ ?_)
   | (with_reducible refine LeO.bind ?_ (fun _ => ?_))
   | exact ih0 _ _ _
   | exact ih1 _ _ _
   | exact LeO.none _
   | refine LeO.ite ?_ ?_
   | refine LeO.bind ?_ (fun _ => ?_)
  ·intro y0 y1 y2
   unfold tree_sized.l0
   repeat' first
   | (with_reducible exact ih0 _ _ _)
   | (with_reducible exact ih1 _ _ _)
   | (with_reducible exact LeO.refl _)
   | (with_reducible exact LeO.none _)
   | (with_reducible refine LeO.ite ?_ ?_)
   | (with_reducible refine LeO.bind ?_ (fun _ => ?_))
   | exact ih0 _ _ _
   | exact ih1 _ _ _
   | exact LeO.none _
   | refine LeO.ite ?_ ?_
   | refine LeO.bind ?_ (fun _ => ?_)
theorem tree_sized.mono : ∀ a0 a1 a2 k, LeO (tree_sized.f k a0 a1 a2) (tree_sized.f (k + 1) a0 a1 a2) := by
 intro a0 a1 a2 k
 obtain ⟨ih0, ih1⟩ := tree_sized.mono_l k
 exact ih0 a0 a1 a2
set_option maxHeartbeats 8000000 in
set_option maxRecDepth 100000 in
theorem tree_sized.calls (k : Nat) : ∀ (A0 : Option Addr) (c0 : Nat) (l0 : List (S56)) (a1 : Int) (a2 : Int) (r : Bool) (w : World) (hr0 : Kd.C k56 w A0 l0.length l0) (hc0 : l0.length ≤ c0) (h : tree_sized.f k l0 a1 a2 = some r),
  Calls Try.prog 102 #[.slice A0 l0.length c0, .int .i64 a1, .int .i64 a2] w fun e w' => e = .returned (.bool r) ∧ Below w.heap.size w w' := by
 induction k using Nat.strongRecOn with
 | _ k ih =>
 intro A0 c0 l0 a1 a2 r w hr0 hc0 h
 cases k with
 | zero => exact absurd h (by simp [tree_sized.f])
 | succ k =>
 simp only [tree_sized.f] at h
 have hu56 := Try.underlying56
 have HR0 := Aside0.mk hr0
 have HC0 := Aside0.mk hc0
 clear hr0 hc0
 have HB := Aside0.mk (Below.refl w.heap.size w)
 have H : (tree_sized.l0 k l0 a1 a2) = some r := h
 clear h
 have H' := Aside0.mk H
 clear H
 go_enter Try.func102, Try.ntmps102
 go_wp2
 go_loopg [1] k (fun kq v1 w' => ∃ (x1_1 : Int), v1 = .int .i64 x1_1 ∧ Aside0 (tree_sized.l0 kq l0 x1_1 a2 = some r) ∧ Aside0 (kq ≤ k) ∧ Aside0 (Below w.heap.size w w'))
 case atStart => exact ⟨(a1), (by first | rfl | (simp; done) | (simp [*]; done)), H', ⟨Nat.le_refl _⟩, ⟨by repeat (first | (with_reducible first | exact HB.out | apply below_alloc | apply pw_below_drewN | apply below_drew1) | exact HB.out)⟩⟩
 case round =>
  clear H'
  try clear c1
  try clear p2
  obtain ⟨x1_1, rfl, HA, HK1, HB⟩ := hrel
  cases gk with
  | zero => exact absurd HA.out (by simp [tree_sized.l0])
  | succ k1 =>
   have H := HA.out
   clear HA
   simp only [tree_sized.l0] at H
   by_cases c4 : x1_1 < a2
   ·rw [if_pos c4] at H
    have c4b0 : decide (x1_1 < a2) = true := decide_eq_true c4
    clear c4
    by_cases c5 : 0 ≤ x1_1
    ·rw [if_pos c5] at H
     have c5b0 : decide (0 ≤ x1_1) = true := decide_eq_true c5
     clear c5
     by_cases c6 : x1_1 < (l0.length : Int)
     ·rw [if_pos c6] at H
      have c6b0 : decide (x1_1 < (l0.length : Int)) = true := decide_eq_true c6
      clear c6
      by_cases c7 : ((rd_T56 l0 x1_1).f3) < 1
      ·rw [if_pos c7] at H
       have c7b0 : decide (((rd_T56 l0 x1_1).f3) < 1) = true := decide_eq_true c7
       clear c7
       obtain rfl := Option.some.inj H
       have p231 : 0 ≤ (x1_1 : Int) := of_decide_eq_true (by first | (with_reducible assumption) | assumption)
       have q231 : x1_1 < (l0.length : Int) := of_decide_eq_true (by first | (with_reducible assumption) | assumption)
       obtain ⟨ad231, e231, hx231_0, hx231_1, hx231_2, hx231_3⟩ := at_T56 HR0.out x1_1 p231 q231
       cases e231
       replace hx231_0 := (HB.out.cell (World.block_lt_of_cell? w _ hx231_0)).trans hx231_0
       replace hx231_1 := (HB.out.cell (World.block_lt_of_cell? w _ hx231_1)).trans hx231_1
       replace hx231_2 := (HB.out.cell (World.block_lt_of_cell? w _ hx231_2)).trans hx231_2
       replace hx231_3 := (HB.out.cell (World.block_lt_of_cell? w _ hx231_3)).trans hx231_3
       replace p231 := eq_true p231
       replace q231 := eq_true q231
       go_wp2_with (first | ((with_reducible refine gate_dst (N := 7) rfl ?_); refine box_event ?hg (N := 7) ?hd (cs := #[.int .u8 0, .string (⟨#[]⟩ : ByteArray), .int .i64 0, .int .i64 0]) (t := 56) ?hr ?_; (case hd => rfl); (case hg => rfl); (case hr => first | (go_simp; done) | (go_simp; rfl)); intro gb232 hg w8 hbox hb; have n0_ := Aside0.mk (below_step (by repeat (first | (with_reducible first | exact HB.out | apply below_alloc | apply pw_below_drewN | apply below_drew1) | exact HB.out)) hb); have n1_ := Aside0.mk (hbox); have n2_ := Aside0.mk ((by rw [hg]; exact (below_size (by repeat (first | (with_reducible first | exact HB.out | apply below_alloc | apply pw_below_drewN | apply below_drew1) | exact HB.out))) : w.heap.size ≤ gb232)); have n3_ := Aside0.mk ((by rw [hg]; exact (below_size (by repeat (first | (with_reducible first | exact HB.out | apply below_alloc | apply pw_below_drewN | apply below_drew1) | exact HB.out))) : w.heap.size ≤ gb232)); clear HB; have HB := n0_; have BK232 := n1_; have GW232 := n2_; have GE232 := n3_; clear n0_ n1_ n2_ n3_; clear hb hbox hg; have hcz9_0 : w8.cell? ⟨gb232, 0, none⟩ = some (.int .u8 0) := (blk_cell BK232.out 0).trans rfl; have hcz9_1 : w8.cell? ⟨gb232, 1, none⟩ = some (.string (⟨#[]⟩ : ByteArray)) := (blk_cell BK232.out 1).trans rfl; have hcz9_2 : w8.cell? ⟨gb232, 2, none⟩ = some (.int .i64 0) := (blk_cell BK232.out 2).trans rfl; have hcz9_3 : w8.cell? ⟨gb232, 3, none⟩ = some (.int .i64 0) := (blk_cell BK232.out 3).trans rfl; have hfz9_0 := blk_frozen BK232.out 0; have hfz9_1 := blk_frozen BK232.out 1; have hfz9_2 := blk_frozen BK232.out 2; have hfz9_3 := blk_frozen BK232.out 3))
       go_ret
       exact ⟨by first | rfl | (simp [errW_none, errW_some] <;> rfl) | (simp [*, errW_none, errW_some] <;> rfl), by repeat (first | (with_reducible first | exact HB.out | apply below_alloc | apply pw_below_drewN | apply below_drew1 | refine below_set ?_ GE232.out) | exact HB.out)⟩
      ·rw [if_neg c7] at H
       have c7b0 : decide (((rd_T56 l0 x1_1).f3) < 1) = false := decide_eq_false c7
       clear c7
       by_cases c10 : ((rd_T56 l0 x1_1).f3) > (wrap64 (a2 - x1_1))
       ·rw [if_pos c10] at H
        have c10b0 : decide ((wrap64 (a2 - x1_1)) < ((rd_T56 l0 x1_1).f3)) = true := decide_eq_true c10
        clear c10
        obtain rfl := Option.some.inj H
        have p231 : 0 ≤ (x1_1 : Int) := of_decide_eq_true (by first | (with_reducible assumption) | assumption)
        have q231 : x1_1 < (l0.length : Int) := of_decide_eq_true (by first | (with_reducible assumption) | assumption)
        obtain ⟨ad231, e231, hx231_0, hx231_1, hx231_2, hx231_3⟩ := at_T56 HR0.out x1_1 p231 q231
        cases e231
        replace hx231_0 := (HB.out.cell (World.block_lt_of_cell? w _ hx231_0)).trans hx231_0
        replace hx231_1 := (HB.out.cell (World.block_lt_of_cell? w _ hx231_1)).trans hx231_1
        replace hx231_2 := (HB.out.cell (World.block_lt_of_cell? w _ hx231_2)).trans hx231_2
        replace hx231_3 := (HB.out.cell (World.block_lt_of_cell? w _ hx231_3)).trans hx231_3
        replace p231 := eq_true p231
        replace q231 := eq_true q231
        go_wp2_with (first | ((with_reducible refine gate_dst (N := 7) rfl ?_); refine box_event ?hg (N := 7) ?hd (cs := #[.int .u8 0, .string (⟨#[]⟩ : ByteArray), .int .i64 0, .int .i64 0]) (t := 56) ?hr ?_; (case hd => rfl); (case hg => rfl); (case hr => first | (go_simp; done) | (go_simp; rfl)); intro gb232 hg w11 hbox hb; have n0_ := Aside0.mk (below_step (by repeat (first | (with_reducible first | exact HB.out | apply below_alloc | apply pw_below_drewN | apply below_drew1) | exact HB.out)) hb); have n1_ := Aside0.mk (hbox); have n2_ := Aside0.mk ((by rw [hg]; exact (below_size (by repeat (first | (with_reducible first | exact HB.out | apply below_alloc | apply pw_below_drewN | apply below_drew1) | exact HB.out))) : w.heap.size ≤ gb232)); have n3_ := Aside0.mk ((by rw [hg]; exact (below_size (by repeat (first | (with_reducible first | exact HB.out | apply below_alloc | apply pw_below_drewN | apply below_drew1) | exact HB.out))) : w.heap.size ≤ gb232)); clear HB; have HB := n0_; have BK232 := n1_; have GW232 := n2_; have GE232 := n3_; clear n0_ n1_ n2_ n3_; clear hb hbox hg; have hcz12_0 : w11.cell? ⟨gb232, 0, none⟩ = some (.int .u8 0) := (blk_cell BK232.out 0).trans rfl; have hcz12_1 : w11.cell? ⟨gb232, 1, none⟩ = some (.string (⟨#[]⟩ : ByteArray)) := (blk_cell BK232.out 1).trans rfl; have hcz12_2 : w11.cell? ⟨gb232, 2, none⟩ = some (.int .i64 0) := (blk_cell BK232.out 2).trans rfl; have hcz12_3 : w11.cell? ⟨gb232, 3, none⟩ = some (.int .i64 0) := (blk_cell BK232.out 3).trans rfl; have hfz12_0 := blk_frozen BK232.out 0; have hfz12_1 := blk_frozen BK232.out 1; have hfz12_2 := blk_frozen BK232.out 2; have hfz12_3 := blk_frozen BK232.out 3))
        go_ret
        exact ⟨by first | rfl | (simp [errW_none, errW_some] <;> rfl) | (simp [*, errW_none, errW_some] <;> rfl), by repeat (first | (with_reducible first | exact HB.out | apply below_alloc | apply pw_below_drewN | apply below_drew1 | refine below_set ?_ GE232.out) | exact HB.out)⟩
       ·rw [if_neg c10] at H
        have c10b0 : decide ((wrap64 (a2 - x1_1)) < ((rd_T56 l0 x1_1).f3)) = false := decide_eq_false c10
        clear c10
        replace H := Option.bind_eq_some_iff.mp H
        obtain ⟨t233, A130, H⟩ := H
        replace H : (if t233 = true then (tree_sized.l0 k1 l0 (wrap64 (x1_1 + ((rd_T56 l0 x1_1).f3))) a2) else (some false)) = some r := H
        have A13 := Aside0.mk A130
        clear A130
        by_cases c14 : t233 = true
        ·subst c14
         have H1 : (tree_sized.l0 k1 l0 (wrap64 (x1_1 + ((rd_T56 l0 x1_1).f3))) a2) = some r := by rw [if_pos rfl] at H; exact H
         clear H
         have H := H1
         clear H1
         have H' := Aside0.mk H
         clear H
         have p231 : 0 ≤ (x1_1 : Int) := of_decide_eq_true (by first | (with_reducible assumption) | assumption)
         have q231 : x1_1 < (l0.length : Int) := of_decide_eq_true (by first | (with_reducible assumption) | assumption)
         obtain ⟨ad231, e231, hx231_0, hx231_1, hx231_2, hx231_3⟩ := at_T56 HR0.out x1_1 p231 q231
         cases e231
         replace hx231_0 := (HB.out.cell (World.block_lt_of_cell? w _ hx231_0)).trans hx231_0
         replace hx231_1 := (HB.out.cell (World.block_lt_of_cell? w _ hx231_1)).trans hx231_1
         replace hx231_2 := (HB.out.cell (World.block_lt_of_cell? w _ hx231_2)).trans hx231_2
         replace hx231_3 := (HB.out.cell (World.block_lt_of_cell? w _ hx231_3)).trans hx231_3
         replace p231 := eq_true p231
         replace q231 := eq_true q231
         go_wp2_with (first | ((with_reducible refine gate_dst (N := 7) rfl ?_); refine box_event ?hg (N := 7) ?hd (cs := #[.int .u8 0, .string (⟨#[]⟩ : ByteArray), .int .i64 0, .int .i64 0]) (t := 56) ?hr ?_; (case hd => rfl); (case hg => rfl); (case hr => first | (go_simp; done) | (go_simp; rfl)); intro gb232 hg w15 hbox hb; have n0_ := Aside0.mk (below_step (by repeat (first | (with_reducible first | exact HB.out | apply below_alloc | apply pw_below_drewN | apply below_drew1) | exact HB.out)) hb); have n1_ := Aside0.mk (hbox); have n2_ := Aside0.mk ((by rw [hg]; exact (below_size (by repeat (first | (with_reducible first | exact HB.out | apply below_alloc | apply pw_below_drewN | apply below_drew1) | exact HB.out))) : w.heap.size ≤ gb232)); have n3_ := Aside0.mk ((by rw [hg]; exact (below_size (by repeat (first | (with_reducible first | exact HB.out | apply below_alloc | apply pw_below_drewN | apply below_drew1) | exact HB.out))) : w.heap.size ≤ gb232)); clear HB; have HB := n0_; have BK232 := n1_; have GW232 := n2_; have GE232 := n3_; clear n0_ n1_ n2_ n3_; clear hb hbox hg; have hcz16_0 : w15.cell? ⟨gb232, 0, none⟩ = some (.int .u8 0) := (blk_cell BK232.out 0).trans rfl; have hcz16_1 : w15.cell? ⟨gb232, 1, none⟩ = some (.string (⟨#[]⟩ : ByteArray)) := (blk_cell BK232.out 1).trans rfl; have hcz16_2 : w15.cell? ⟨gb232, 2, none⟩ = some (.int .i64 0) := (blk_cell BK232.out 2).trans rfl; have hcz16_3 : w15.cell? ⟨gb232, 3, none⟩ = some (.int .i64 0) := (blk_cell BK232.out 3).trans rfl; have hfz16_0 := blk_frozen BK232.out 0; have hfz16_1 := blk_frozen BK232.out 1; have hfz16_2 := blk_frozen BK232.out 2; have hfz16_3 := blk_frozen BK232.out 3) | (go_at_call 102; (with_reducible refine (ih k1 (by have := HK1.out; omega) _ _ l0 (wrap64 (x1_1 + 1)) (wrap64 (x1_1 + ((rd_T56 l0 x1_1).f3))) true _ ?side1 ?side2 A13.out).mono ?_); (case side1 => exact Kd.C_below HR0.out (by repeat (first | (with_reducible first | exact HB.out | apply below_alloc | apply pw_below_drewN | apply below_drew1 | refine below_set ?_ GE232.out) | exact HB.out))); (case side2 => exact HC0.out); rintro e w17 ⟨rfl, hb⟩; have n0_ := Aside0.mk (blk_below (g := gb232) (o := .cells #[.int .u8 ((rd_T56 l0 x1_1).f0), .string ((rd_T56 l0 x1_1).f1), .int .i64 ((rd_T56 l0 x1_1).f2), .int .i64 ((rd_T56 l0 x1_1).f3)] 56 (0, 0)) (by (with_reducible repeat (first | refine blk_drewN ?_ _ | refine blk_drew ?_ | refine blk_alloc ?_ _)); refine blk_put (cs := #[.int .u8 ((rd_T56 l0 x1_1).f0), .string ((rd_T56 l0 x1_1).f1), .int .i64 ((rd_T56 l0 x1_1).f2), .int .i64 0]) ?_ 3 _ rfl; (with_reducible repeat (first | refine blk_drewN ?_ _ | refine blk_drew ?_ | refine blk_alloc ?_ _)); refine blk_put (cs := #[.int .u8 ((rd_T56 l0 x1_1).f0), .string ((rd_T56 l0 x1_1).f1), .int .i64 0, .int .i64 0]) ?_ 2 _ rfl; (with_reducible repeat (first | refine blk_drewN ?_ _ | refine blk_drew ?_ | refine blk_alloc ?_ _)); refine blk_put (cs := #[.int .u8 ((rd_T56 l0 x1_1).f0), .string (⟨#[]⟩ : ByteArray), .int .i64 0, .int .i64 0]) ?_ 1 _ rfl; (with_reducible repeat (first | refine blk_drewN ?_ _ | refine blk_drew ?_ | refine blk_alloc ?_ _)); refine blk_put (cs := #[.int .u8 0, .string (⟨#[]⟩ : ByteArray), .int .i64 0, .int .i64 0]) ?_ 0 _ rfl; (with_reducible repeat (first | refine blk_drewN ?_ _ | refine blk_drew ?_ | refine blk_alloc ?_ _)); exact BK232.out) hb); have n1_ := Aside0.mk (below_step (by repeat (first | (with_reducible first | exact HB.out | apply below_alloc | apply pw_below_drewN | apply below_drew1 | refine below_set ?_ GE232.out) | exact HB.out)) hb); clear BK232; clear HB; have BK232 := n0_; have HB := n1_; clear n0_ n1_; (try clear hb); (try clear hb2); (try clear hk); (try clear hi); have hcz18_0 : w17.cell? ⟨gb232, 0, none⟩ = some (.int .u8 ((rd_T56 l0 x1_1).f0)) := (blk_cell BK232.out 0).trans rfl; have hcz18_1 : w17.cell? ⟨gb232, 1, none⟩ = some (.string ((rd_T56 l0 x1_1).f1)) := (blk_cell BK232.out 1).trans rfl; have hcz18_2 : w17.cell? ⟨gb232, 2, none⟩ = some (.int .i64 ((rd_T56 l0 x1_1).f2)) := (blk_cell BK232.out 2).trans rfl; have hcz18_3 : w17.cell? ⟨gb232, 3, none⟩ = some (.int .i64 ((rd_T56 l0 x1_1).f3)) := (blk_cell BK232.out 3).trans rfl; have hfz18_0 := blk_frozen BK232.out 0; have hfz18_1 := blk_frozen BK232.out 1; have hfz18_2 := blk_frozen BK232.out 2; have hfz18_3 := blk_frozen BK232.out 3))
         go_roundg k1
         case measure => have := HK1.out; omega
         case rel => exact ⟨(wrap64 (x1_1 + ((rd_T56 l0 x1_1).f3))), (by first | rfl | (simp; done) | (simp [*]; done)), H', ⟨by have := HK1.out; omega⟩, ⟨by repeat (first | (with_reducible first | exact HB.out | apply below_alloc | apply pw_below_drewN | apply below_drew1 | refine below_set ?_ GE232.out) | exact HB.out)⟩⟩
        ·replace c14 := Bool.eq_false_iff.mpr c14
         subst c14
         have H1 : (some false) = some r := by rw [if_neg (show ¬ (false = true) by decide)] at H; exact H
         clear H
         have H := H1
         clear H1
         obtain rfl := Option.some.inj H
         have p231 : 0 ≤ (x1_1 : Int) := of_decide_eq_true (by first | (with_reducible assumption) | assumption)
         have q231 : x1_1 < (l0.length : Int) := of_decide_eq_true (by first | (with_reducible assumption) | assumption)
         obtain ⟨ad231, e231, hx231_0, hx231_1, hx231_2, hx231_3⟩ := at_T56 HR0.out x1_1 p231 q231
         cases e231
         replace hx231_0 := (HB.out.cell (World.block_lt_of_cell? w _ hx231_0)).trans hx231_0
         replace hx231_1 := (HB.out.cell (World.block_lt_of_cell? w _ hx231_1)).trans hx231_1
         replace hx231_2 := (HB.out.cell (World.block_lt_of_cell? w _ hx231_2)).trans hx231_2
         replace hx231_3 := (HB.out.cell (World.block_lt_of_cell? w _ hx231_3)).trans hx231_3
         replace p231 := eq_true p231
         replace q231 := eq_true q231
         go_wp2_with (first | ((with_reducible refine gate_dst (N := 7) rfl ?_); refine box_event ?hg (N := 7) ?hd (cs := #[.int .u8 0, .string (⟨#[]⟩ : ByteArray), .int .i64 0, .int .i64 0]) (t := 56) ?hr ?_; (case hd => rfl); (case hg => rfl); (case hr => first | (go_simp; done) | (go_simp; rfl)); intro gb232 hg w19 hbox hb; have n0_ := Aside0.mk (below_step (by repeat (first | (with_reducible first | exact HB.out | apply below_alloc | apply pw_below_drewN | apply below_drew1) | exact HB.out)) hb); have n1_ := Aside0.mk (hbox); have n2_ := Aside0.mk ((by rw [hg]; exact (below_size (by repeat (first | (with_reducible first | exact HB.out | apply below_alloc | apply pw_below_drewN | apply below_drew1) | exact HB.out))) : w.heap.size ≤ gb232)); have n3_ := Aside0.mk ((by rw [hg]; exact (below_size (by repeat (first | (with_reducible first | exact HB.out | apply below_alloc | apply pw_below_drewN | apply below_drew1) | exact HB.out))) : w.heap.size ≤ gb232)); clear HB; have HB := n0_; have BK232 := n1_; have GW232 := n2_; have GE232 := n3_; clear n0_ n1_ n2_ n3_; clear hb hbox hg; have hcz20_0 : w19.cell? ⟨gb232, 0, none⟩ = some (.int .u8 0) := (blk_cell BK232.out 0).trans rfl; have hcz20_1 : w19.cell? ⟨gb232, 1, none⟩ = some (.string (⟨#[]⟩ : ByteArray)) := (blk_cell BK232.out 1).trans rfl; have hcz20_2 : w19.cell? ⟨gb232, 2, none⟩ = some (.int .i64 0) := (blk_cell BK232.out 2).trans rfl; have hcz20_3 : w19.cell? ⟨gb232, 3, none⟩ = some (.int .i64 0) := (blk_cell BK232.out 3).trans rfl; have hfz20_0 := blk_frozen BK232.out 0; have hfz20_1 := blk_frozen BK232.out 1; have hfz20_2 := blk_frozen BK232.out 2; have hfz20_3 := blk_frozen BK232.out 3) | (go_at_call 102; (with_reducible refine (ih k1 (by have := HK1.out; omega) _ _ l0 (wrap64 (x1_1 + 1)) (wrap64 (x1_1 + ((rd_T56 l0 x1_1).f3))) false _ ?side1 ?side2 A13.out).mono ?_); (case side1 => exact Kd.C_below HR0.out (by repeat (first | (with_reducible first | exact HB.out | apply below_alloc | apply pw_below_drewN | apply below_drew1 | refine below_set ?_ GE232.out) | exact HB.out))); (case side2 => exact HC0.out); rintro e w21 ⟨rfl, hb⟩; have n0_ := Aside0.mk (blk_below (g := gb232) (o := .cells #[.int .u8 ((rd_T56 l0 x1_1).f0), .string ((rd_T56 l0 x1_1).f1), .int .i64 ((rd_T56 l0 x1_1).f2), .int .i64 ((rd_T56 l0 x1_1).f3)] 56 (0, 0)) (by (with_reducible repeat (first | refine blk_drewN ?_ _ | refine blk_drew ?_ | refine blk_alloc ?_ _)); refine blk_put (cs := #[.int .u8 ((rd_T56 l0 x1_1).f0), .string ((rd_T56 l0 x1_1).f1), .int .i64 ((rd_T56 l0 x1_1).f2), .int .i64 0]) ?_ 3 _ rfl; (with_reducible repeat (first | refine blk_drewN ?_ _ | refine blk_drew ?_ | refine blk_alloc ?_ _)); refine blk_put (cs := #[.int .u8 ((rd_T56 l0 x1_1).f0), .string ((rd_T56 l0 x1_1).f1), .int .i64 0, .int .i64 0]) ?_ 2 _ rfl; (with_reducible repeat (first | refine blk_drewN ?_ _ | refine blk_drew ?_ | refine blk_alloc ?_ _)); refine blk_put (cs := #[.int .u8 ((rd_T56 l0 x1_1).f0), .string (⟨#[]⟩ : ByteArray), .int .i64 0, .int .i64 0]) ?_ 1 _ rfl; (with_reducible repeat (first | refine blk_drewN ?_ _ | refine blk_drew ?_ | refine blk_alloc ?_ _)); refine blk_put (cs := #[.int .u8 0, .string (⟨#[]⟩ : ByteArray), .int .i64 0, .int .i64 0]) ?_ 0 _ rfl; (with_reducible repeat (first | refine blk_drewN ?_ _ | refine blk_drew ?_ | refine blk_alloc ?_ _)); exact BK232.out) hb); have n1_ := Aside0.mk (below_step (by repeat (first | (with_reducible first | exact HB.out | apply below_alloc | apply pw_below_drewN | apply below_drew1 | refine below_set ?_ GE232.out) | exact HB.out)) hb); clear BK232; clear HB; have BK232 := n0_; have HB := n1_; clear n0_ n1_; (try clear hb); (try clear hb2); (try clear hk); (try clear hi)))
         go_ret
         exact ⟨by first | rfl | (simp [errW_none, errW_some] <;> rfl) | (simp [*, errW_none, errW_some] <;> rfl), by repeat (first | (with_reducible first | exact HB.out | apply below_alloc | apply pw_below_drewN | apply below_drew1 | refine below_set ?_ GE232.out) | exact HB.out)⟩
     ·rw [if_neg c6] at H
      exact absurd H (by simp)
    ·rw [if_neg c5] at H
     exact absurd H (by simp)
   ·rw [if_neg c4] at H
    have c4b0 : decide (x1_1 < a2) = false := decide_eq_false c4
    clear c4
    obtain rfl := Option.some.inj H
    go_wp2
    go_ret
    exact ⟨by first | rfl | (simp [errW_none, errW_some] <;> rfl) | (simp [*, errW_none, errW_some] <;> rfl), by repeat (first | (with_reducible first | exact HB.out | apply below_alloc | apply pw_below_drewN | apply below_drew1) | exact HB.out)⟩
end Go.Proofs.Ythcmfjpheanphaa.Pr
namespace Go.Proofs.Ythcmfjpheanphaa.Pr
open Go.RowKit Go.Maps Go.Proofs.YthcmfjpheanphaaW.PrintWords
attribute [local go_sem] Oper.semAt_some
def checkGo : Bld → Int → List S47 → Int
 | _, out, [] => out
 | s, out, x :: l => if (x.f0 == 1 && !mayP s.row 46) = true then 2
  else if worseP out (stepP s x).2.2 = 2 then 2 else checkGo (stepP s x).1 (worseP out (stepP s x).2.2) l
set_option pp.maxSteps 3000 in
set_option maxRecDepth 100000 in
set_option maxHeartbeats 16000000 in
theorem check_run (A0 : Option Addr) (c0 : Nat) (t : List S56) (w : World) (hlen : t.length ≤ 400000) (hz : ∀ x ∈ t, x.f1.size ≤ 1000000) (hA : Kd.C k56 w A0 t.length t) (hc0 : t.length ≤ c0)
  (k1 : Nat) (b : Bool) (hsz : tree_sized.f k1 t 0 (t.length : Int) = some b) (k2 : Nat) (ev : List S47) (hev : b = true → tree_events.f k2 t = some ev ∧ ev.length ≤ 800000 ∧ ∀ x ∈ ev, LexOk 1000000 x) :
  Calls Try.prog 57 #[.slice A0 t.length c0] w fun e w' => e = .returned (.int .i64 (if ((t.any fun x => !plainB x) || !b) = true then 2 else checkGo bld0 0 ev)) ∧ Below w.heap.size w w' := by
 have HA := Lib.hid hA
 have HCN := Lib.hid (containsN_calls A0 c0 t w (by omega) (fun x hx => by have := hz x hx; omega) hA)
 have HSZ := Lib.hid (fun W (hW : Kd.C k56 W A0 t.length t) => tree_sized.calls k1 A0 c0 t 0 (t.length : Int) b W hW hc0 hsz)
 have HEV := Lib.hid hev
 obtain ⟨R, hR⟩ : ∃ R, (if ((t.any fun x => !plainB x) || !b) = true then 2 else checkGo bld0 0 ev) = R := ⟨_, rfl⟩
 rw [hR]
 have HR := Lib.hid hR
 clear hA hsz hev hR hz
 cases hp : (t.any fun x => !plainB x)
 ·rw [hp] at HCN HR
  clear hp
  cases b
  ·have HR2 := Lib.hid (show R = 2 from HR.out.symm)
   go_enter Try.func57, Try.ntmps57
   go_wp2_with (first | (go_at_call 99; (with_reducible refine HCN.out.mono ?_); rintro e w1 ⟨rfl, hb1⟩) | (go_at_call 102; (with_reducible refine (HSZ.out _ (Kd.C_below HA.out hb1)).mono ?_); rintro e w2 ⟨rfl, hb2⟩))
   go_ret
   exact ⟨by rw [HR2.out]; rfl, hb1.trans (hb2.mono hb1.size)⟩
  ·obtain ⟨hE, hel, hok⟩ := HEV.out rfl
   have HE := Lib.hid (fun W (hW : Kd.C k56 W A0 t.length t) => tree_events.calls k2 A0 c0 t ev W hW hc0 hE)
   have HOK := Lib.hid hok
   have HR2 := Lib.hid (show checkGo bld0 0 ev = R from HR.out)
   clear hE hok HEV HR
   go_enter Try.func57, Try.ntmps57
   go_wp2_with (first | (go_at_call 99; (with_reducible refine HCN.out.mono ?_); rintro e w1 ⟨rfl, hb1⟩) | (go_at_call 102; (with_reducible refine (HSZ.out _ (Kd.C_below HA.out hb1)).mono ?_); rintro e w2 ⟨rfl, hb2⟩))
   have HW2 := Lib.hid (hb1.trans (hb2.mono hb1.size))
   clear hb1 hb2
   refine (begin_calls w2).mono ?_
   rintro e w3 ⟨g, m, rfl, hb, hb3⟩
   have HB := Lib.hid hb
   have HB3 := Lib.hid hb3
   clear hb hb3
   go_wp2_with fail
   have hW3 : Below w3.heap.size w3 (w3.alloc (.cells #[.nilFunc, .func (.func 92) #[.pointer (some ⟨g, 0, none⟩)] #[], .func (.func 93) #[.pointer (some ⟨g, 0, none⟩)] #[], .func (.func 94) #[.pointer (some ⟨g, 0, none⟩)] #[]] 98)) := (Below.refl _ _).alloc (Nat.le_refl _) _
   have hS3 := blk_new w3 (.cells #[.nilFunc, .func (.func 92) #[.pointer (some ⟨g, 0, none⟩)] #[], .func (.func 93) #[.pointer (some ⟨g, 0, none⟩)] #[], .func (.func 94) #[.pointer (some ⟨g, 0, none⟩)] #[]] 98)
   obtain ⟨W3, hW3'⟩ : ∃ W3, w3.alloc (.cells #[.nilFunc, .func (.func 92) #[.pointer (some ⟨g, 0, none⟩)] #[], .func (.func 93) #[.pointer (some ⟨g, 0, none⟩)] #[], .func (.func 94) #[.pointer (some ⟨g, 0, none⟩)] #[]] 98) = W3 := ⟨_, rfl⟩
   rw [hW3'] at hW3 hS3 ⊢
   clear hW3'
   have h03 : Below w.heap.size w W3 := HW2.out.trans ((HB3.out.trans (hW3.mono HB3.out.size)).mono HW2.out.size)
   refine (HE.out W3 (Kd.C_below HA.out h03)).mono ?_
   rintro e W4 ⟨v, rfl, hR4, hb4⟩
   obtain ⟨A, c, rfl, hc, hC⟩ := Kd.R_reads hR4
   have HB4 := Lib.hid ((HB.out.below hW3).below hb4)
   have HS4 := Lib.hid (blk_below hS3 hb4)
   have HR4 := Lib.hid hR4
   have HL4 := Lib.hid (h03.trans (hb4.mono h03.size))
   have hz4 : w2.heap.size ≤ W4.heap.size := Nat.le_trans (Nat.le_trans HB3.out.size hW3.size) hb4.size
   have HZ4 := Lib.hid hz4
   have HZ1 := Lib.hid HW2.out.size
   have HR4' := Lib.hid (Kd.R_lower hR4 (Nat.zero_le _))
   clear hW3 hS3 hR4 hb4 HB hC h03 HB3 HW2 HCN HSZ HE
   go_wp2_with fail
   go_loopw [5, 30] (fun v5 v wr => ∃ (k : Nat) (s : Bld) (vr vt : Value) (out : Int), k ≤ ev.length ∧ v = .int .i64 k ∧ v5 = .int .i64 out ∧ BAt wr w2.heap.size g m vr vt s ∧ BOk s k ∧ Below w2.heap.size W4 wr ∧ KeepK W4 wr ∧ checkGo s out (ev.drop k) = R) (fun _ v _ => ev.length - (intOf v).toNat)
   case atStart => exact ⟨0, bld0, _, _, 0, Nat.zero_le _, rfl, rfl, HB4.out, bld0_ok, Below.refl _ _, KeepK.refl _, HR2.out⟩
   case round =>
    obtain ⟨k, s, vr, vt, out, hk, rfl, rfl, hb, hbk, hlow, hkeep, hrun⟩ := hrel
    have HBA := Lib.hid hb
    have HBK := Lib.hid hbk
    have HLO := Lib.hid hlow
    have HKE := Lib.hid hkeep
    have HRU := Lib.hid hrun
    clear hb hbk hlow hkeep hrun
    by_cases hlt : k < ev.length
    ·have hlt1 : (k : Int) < (ev.length : Int) := by omega
     have hRw := R47_keep HR4'.out HKE.out
     obtain ⟨A', c', he', _, hC⟩ := Kd.R_reads hRw
     simp only [Value.slice.injEq] at he'
     obtain ⟨rfl, -, rfl⟩ := he'
     obtain ⟨ad, e1, q0, q1, q2, q3⟩ := at_T47 hC k (by omega) (by omega)
     subst e1
     simp only [Int.toNat_natCast] at q0 q1 q2 q3
     have hxl : ev[k]? = some (rd_T47 ev k) := by
      unfold rd_T47
      rw [Int.toNat_natCast, List.getD_eq_getElem?_getD, List.getElem?_eq_getElem hlt]
      rfl
     have hxok := HOK.out _ (List.mem_of_getElem? hxl)
     have hdrop : ev.drop k = rd_T47 ev k :: ev.drop (k + 1) := by
      rw [List.drop_eq_getElem_cons hlt]
      rw [List.getElem?_eq_getElem hlt] at hxl
      rw [Option.some.inj hxl]
     have hst := HRU.out
     rw [hdrop] at hst
     have hst2 : (if ((rd_T47 ev k).f0 == 1 && !mayP s.row 46) = true then 2 else if worseP out (stepP s (rd_T47 ev k)).2.2 = 2 then 2 else checkGo (stepP s (rd_T47 ev k)).1 (worseP out (stepP s (rd_T47 ev k)).2.2) (ev.drop (k + 1))) = R := hst
     clear hst hdrop hxl hRw hC
     generalize rd_T47 ev k = x at *
     have hstep := fun W (hW : BAt W w2.heap.size g m vr vt s) (hz : w2.heap.size ≤ W.heap.size) => step_calls w2.heap.size g m vr vt s x W hxok hz (by have := HBK.out.row; omega) (by have := HBK.out.t; omega) HBK.out.kinds HBK.out.pos HBK.out.chain hW
     have hmay := fun W (hW : BAt W w2.heap.size g m vr vt s) => may_calls w2.heap.size g m vr vt s 46 W (by omega) (by omega) (by have := HBK.out.row; omega) HBK.out.kinds hW
     have hok2 := stepP_ok HBK.out hxok
     have hf := hxok.1
     obtain ⟨f0, f1, f2, f3⟩ := x
     simp only at hstep q0 q1 q2 q3 hf hst2
     obtain ⟨⟨s', ra, re⟩, hRR⟩ : ∃ r, stepP s ⟨f0, f1, f2, f3⟩ = r := ⟨_, rfl⟩
     obtain ⟨mm, hmm⟩ : ∃ b, mayP s.row 46 = b := ⟨_, rfl⟩
     simp only [hRR] at hstep hst2 hok2
     rw [hmm] at hst2
     simp only [hmm] at hmay
     obtain ⟨wo, hwo⟩ : ∃ z, worseP out re = z := ⟨_, rfl⟩
     have hworse := fun W => worse_calls out re W
     rw [hwo] at hst2
     simp only [hwo] at hworse
     have HST := Lib.hid hstep
     have HMA := Lib.hid hmay
     have HWO := Lib.hid hworse
     have HS2 := Lib.hid hst2
     have HOK2 := Lib.hid hok2
     have hX0 := blk_new wr (.cells #[.int .i64 f0, .int .u8 f1, .string f2, .int .i64 f3] 47)
     have hb0 : Below wr.heap.size wr (wr.alloc (.cells #[.int .i64 f0, .int .u8 f1, .string f2, .int .i64 f3] 47)) := (Below.refl _ _).alloc (Nat.le_refl _) _
     have HX0 := Lib.hid hX0
     have HB0 := Lib.hid hb0
     clear hstep hst2 hRR hok2 hxok hmay hworse hwo hmm hX0 hb0
     by_cases hbad : f0 = 1 ∧ mm = false
     ·obtain ⟨rfl, rfl⟩ := hbad
      have HR3 := Lib.hid (show R = 2 from HS2.out.symm)
      go_wp2_with (go_at_call 104; (with_reducible refine (HMA.out _ (HBA.out.below HB0.out)).mono ?_); rintro e w5 ⟨rfl, hb5⟩)
      go_ret
      refine ⟨by rw [HR3.out]; rfl, ?_⟩
      have hx := HL4.out.trans (HLO.out.mono HZ1.out)
      exact (hx.trans (HB0.out.mono hx.size)).trans (hb5.mono (Nat.le_trans hx.size HB0.out.size))
     ·have hst3 : (if wo = 2 then 2 else checkGo s' wo (ev.drop (k + 1))) = R := by
       rw [← HS2.out]
       have : (f0 == 1 && !mm) = false := by
        rw [Bool.and_eq_false_iff]
        by_cases e : f0 = 1
        ·right; cases mm with
         | true => rfl
         | false => exact absurd ⟨e, rfl⟩ hbad
        ·left; exact beq_eq_false_iff_ne.2 e
       rw [this]
       rfl
      have HS3 := Lib.hid hst3
      have hmode : (f0 = 1 ∧ mm = true) ∨ f0 = 2 ∨ f0 = 3 := by
       rcases hf with h | h | h
       ·left; exact ⟨h, by cases mm with | true => rfl | false => exact absurd ⟨h, rfl⟩ hbad⟩
       ·right; left; exact h
       ·right; right; exact h
      clear hst3 hbad HS2 hf
      rcases hmode with ⟨rfl, rfl⟩ | rfl | rfl
      ·go_wp2_with (go_at_call 104; (with_reducible refine (HMA.out _ (HBA.out.below HB0.out)).mono ?_); rintro e w5 ⟨rfl, hb5⟩)
       have HX5 := Lib.hid (blk_below HX0.out hb5)
       have HB5 := Lib.hid (HB0.out.trans (hb5.mono HB0.out.size))
       clear hb5
       obtain ⟨W5, hW5⟩ : ∃ W5, w5.drew = W5 := ⟨_, rfl⟩
       have hb6 : Below wr.heap.size wr W5 := by rw [← hW5]; exact below_drew1 HB5.out
       have hmv : ∀ (i : Nat) (o : Obj), w5.heap[i]? = some o → W5.heap[i]? = some o := fun i o ho => by rw [← hW5]; exact ho
       have hX6 := hmv _ _ HX5.out
       clear hmv
       have hS6 := blk_below (HKE.out _ _ HS4.out rfl) hb6
       have HX6 := Lib.hid hX6
       have HS6 := Lib.hid hS6
       have HB6 := Lib.hid hb6
       clear hX6 hS6 hb6
       refine Go.Mix.region_mix' (fun b W => cond b (StepTo w2.heap.size g m s' W5 W) (W = W5)) 5 11 [] (by kernel_rfl) (by kernel_rfl) (fun _ _ _ _ _ h => h) hW5 ?_
       clear hW5 q0 q1 q2 q3
       refine Go.Mix.seqE_nil ?_
       repeat
        apply Go.Mix.seqM_cons (by rfl) (by rfl)
        focus
         intro b W hS
         have hX := step_keep hS HX6.out rfl
         have hZ := step_keep hS HS6.out rfl
         have x0 := blk_cell hX 0
         have x1 := blk_cell hX 1
         have x2 := blk_cell hX 2
         have x3 := blk_cell hX 3
         have s1 := blk_cell hZ 1
         have s2 := blk_cell hZ 2
         have s3 := blk_cell hZ 3
         simp only [List.getElem?_toArray, List.getElem?_cons_succ, List.getElem?_cons_zero] at x0 x1 x2 x3 s1 s2 s3
         have HS := Lib.hid hS
         clear hS hX hZ
         go_wp2
         exact Go.Det.AtEnd.mk HS.out
       apply Go.Mix.seqM_main (by rfl)
       focus
        intro W hS
        obtain rfl : W = W5 := hS
        go_wp2_with fail
        refine (HST.out W (HBA.out.below HB6.out) (Nat.le_trans (Nat.le_trans HZ4.out HLO.out.size) HB6.out.size)).mono ?_
        rintro e W7 ⟨rfl, hst⟩
        have HSTT := Lib.hid hst
        clear hst
        go_wp2
        exact Go.Det.AtEnd.mk HSTT.out
       repeat
        apply Go.Mix.seqM_cons (by rfl) (by rfl)
        focus
         intro b W hS
         have HS := Lib.hid hS
         clear hS
         go_wp2
         exact Go.Det.AtEnd.mk HS.out
       refine Go.Mix.seqM_nil ?_
       intro W7 hW7
       obtain ⟨vr5, vt5, hb5, hl5, hk5⟩ := (show StepTo w2.heap.size g m s' W5 W7 from hW7)
       clear hW7
       simp only [List.drop_succ_cons, List.drop_zero, Exit.then]
       have HB7 := Lib.hid hb5
       have HL7 := Lib.hid ((HLO.out.trans (below_low HB6.out (Nat.le_trans HZ4.out HLO.out.size))).trans hl5)
       have HK7 := Lib.hid ((HKE.out.trans (KeepK.below HB6.out)).trans hk5)
       clear hb5 hl5 hk5
       by_cases hw2 : wo = 2
       ·have HR3 := Lib.hid (show R = 2 from by rw [← HS3.out, if_pos hw2])
        have hwb : (wo == 2) = true := beq_iff_eq.2 hw2
        subst hw2
        go_wp2_with (go_at_call 105; (with_reducible refine (HWO.out _).mono ?_); rintro e w8 ⟨rfl, rfl⟩)
        go_ret
        exact ⟨by rw [HR3.out]; rfl, HL4.out.trans (HL7.out.mono HZ1.out)⟩
       ·have HR3 := Lib.hid (show checkGo s' wo (ev.drop (k + 1)) = R from by rw [← HS3.out, if_neg hw2])
        have hwb : (wo == 2) = false := beq_eq_false_iff_ne.2 hw2
        clear hw2
        go_wp2_with (go_at_call 105; (with_reducible refine (HWO.out _).mono ?_); rintro e w8 ⟨rfl, rfl⟩)
        go_roundw
        case rel => exact ⟨k + 1, s', vr5, vt5, wo, by omega, by go_num, rfl, HB7.out, HOK2.out, HL7.out, HK7.out, HR3.out⟩
        case measure => simp [intOf]; omega
      ·go_wp2
       obtain ⟨w5, hw5⟩ : ∃ w5, wr.alloc (.cells #[.int .i64 2, .int .u8 f1, .string f2, .int .i64 f3] 47) = w5 := ⟨_, rfl⟩
       rw [hw5] at HX0 HB0 ⊢
       have HX5 := HX0
       have HB5 := HB0
       clear hw5
       obtain ⟨W5, hW5⟩ : ∃ W5, w5.drew = W5 := ⟨_, rfl⟩
       have hb6 : Below wr.heap.size wr W5 := by rw [← hW5]; exact below_drew1 HB5.out
       have hmv : ∀ (i : Nat) (o : Obj), w5.heap[i]? = some o → W5.heap[i]? = some o := fun i o ho => by rw [← hW5]; exact ho
       have hX6 := hmv _ _ HX5.out
       clear hmv
       have hS6 := blk_below (HKE.out _ _ HS4.out rfl) hb6
       have HX6 := Lib.hid hX6
       have HS6 := Lib.hid hS6
       have HB6 := Lib.hid hb6
       clear hX6 hS6 hb6
       refine Go.Mix.region_mix' (fun b W => cond b (StepTo w2.heap.size g m s' W5 W) (W = W5)) 5 11 [] (by kernel_rfl) (by kernel_rfl) (fun _ _ _ _ _ h => h) hW5 ?_
       clear hW5 q0 q1 q2 q3
       refine Go.Mix.seqE_nil ?_
       repeat
        apply Go.Mix.seqM_cons (by rfl) (by rfl)
        focus
         intro b W hS
         have hX := step_keep hS HX6.out rfl
         have hZ := step_keep hS HS6.out rfl
         have x0 := blk_cell hX 0
         have x1 := blk_cell hX 1
         have x2 := blk_cell hX 2
         have x3 := blk_cell hX 3
         have s1 := blk_cell hZ 1
         have s2 := blk_cell hZ 2
         have s3 := blk_cell hZ 3
         simp only [List.getElem?_toArray, List.getElem?_cons_succ, List.getElem?_cons_zero] at x0 x1 x2 x3 s1 s2 s3
         have HS := Lib.hid hS
         clear hS hX hZ
         go_wp2
         exact Go.Det.AtEnd.mk HS.out
       apply Go.Mix.seqM_main (by rfl)
       focus
        intro W hS
        obtain rfl : W = W5 := hS
        go_wp2_with fail
        refine (HST.out W (HBA.out.below HB6.out) (Nat.le_trans (Nat.le_trans HZ4.out HLO.out.size) HB6.out.size)).mono ?_
        rintro e W7 ⟨rfl, hst⟩
        have HSTT := Lib.hid hst
        clear hst
        go_wp2
        exact Go.Det.AtEnd.mk HSTT.out
       repeat
        apply Go.Mix.seqM_cons (by rfl) (by rfl)
        focus
         intro b W hS
         have HS := Lib.hid hS
         clear hS
         go_wp2
         exact Go.Det.AtEnd.mk HS.out
       refine Go.Mix.seqM_nil ?_
       intro W7 hW7
       obtain ⟨vr5, vt5, hb5, hl5, hk5⟩ := (show StepTo w2.heap.size g m s' W5 W7 from hW7)
       clear hW7
       simp only [List.drop_succ_cons, List.drop_zero, Exit.then]
       have HB7 := Lib.hid hb5
       have HL7 := Lib.hid ((HLO.out.trans (below_low HB6.out (Nat.le_trans HZ4.out HLO.out.size))).trans hl5)
       have HK7 := Lib.hid ((HKE.out.trans (KeepK.below HB6.out)).trans hk5)
       clear hb5 hl5 hk5
       by_cases hw2 : wo = 2
       ·have HR3 := Lib.hid (show R = 2 from by rw [← HS3.out, if_pos hw2])
        have hwb : (wo == 2) = true := beq_iff_eq.2 hw2
        subst hw2
        go_wp2_with (go_at_call 105; (with_reducible refine (HWO.out _).mono ?_); rintro e w8 ⟨rfl, rfl⟩)
        go_ret
        exact ⟨by rw [HR3.out]; rfl, HL4.out.trans (HL7.out.mono HZ1.out)⟩
       ·have HR3 := Lib.hid (show checkGo s' wo (ev.drop (k + 1)) = R from by rw [← HS3.out, if_neg hw2])
        have hwb : (wo == 2) = false := beq_eq_false_iff_ne.2 hw2
        clear hw2
        go_wp2_with (go_at_call 105; (with_reducible refine (HWO.out _).mono ?_); rintro e w8 ⟨rfl, rfl⟩)
        go_roundw
        case rel => exact ⟨k + 1, s', vr5, vt5, wo, by omega, by go_num, rfl, HB7.out, HOK2.out, HL7.out, HK7.out, HR3.out⟩
        case measure => simp [intOf]; omega
      ·go_wp2
       obtain ⟨w5, hw5⟩ : ∃ w5, wr.alloc (.cells #[.int .i64 3, .int .u8 f1, .string f2, .int .i64 f3] 47) = w5 := ⟨_, rfl⟩
       rw [hw5] at HX0 HB0 ⊢
       have HX5 := HX0
       have HB5 := HB0
       clear hw5
       obtain ⟨W5, hW5⟩ : ∃ W5, w5.drew = W5 := ⟨_, rfl⟩
       have hb6 : Below wr.heap.size wr W5 := by rw [← hW5]; exact below_drew1 HB5.out
       have hmv : ∀ (i : Nat) (o : Obj), w5.heap[i]? = some o → W5.heap[i]? = some o := fun i o ho => by rw [← hW5]; exact ho
       have hX6 := hmv _ _ HX5.out
       clear hmv
       have hS6 := blk_below (HKE.out _ _ HS4.out rfl) hb6
       have HX6 := Lib.hid hX6
       have HS6 := Lib.hid hS6
       have HB6 := Lib.hid hb6
       clear hX6 hS6 hb6
       refine Go.Mix.region_mix' (fun b W => cond b (StepTo w2.heap.size g m s' W5 W) (W = W5)) 5 11 [] (by kernel_rfl) (by kernel_rfl) (fun _ _ _ _ _ h => h) hW5 ?_
       clear hW5 q0 q1 q2 q3
       refine Go.Mix.seqE_nil ?_
       repeat
        apply Go.Mix.seqM_cons (by rfl) (by rfl)
        focus
         intro b W hS
         have hX := step_keep hS HX6.out rfl
         have hZ := step_keep hS HS6.out rfl
         have x0 := blk_cell hX 0
         have x1 := blk_cell hX 1
         have x2 := blk_cell hX 2
         have x3 := blk_cell hX 3
         have s1 := blk_cell hZ 1
         have s2 := blk_cell hZ 2
         have s3 := blk_cell hZ 3
         simp only [List.getElem?_toArray, List.getElem?_cons_succ, List.getElem?_cons_zero] at x0 x1 x2 x3 s1 s2 s3
         have HS := Lib.hid hS
         clear hS hX hZ
         go_wp2
         exact Go.Det.AtEnd.mk HS.out
       apply Go.Mix.seqM_main (by rfl)
       focus
        intro W hS
        obtain rfl : W = W5 := hS
        go_wp2_with fail
        refine (HST.out W (HBA.out.below HB6.out) (Nat.le_trans (Nat.le_trans HZ4.out HLO.out.size) HB6.out.size)).mono ?_
        rintro e W7 ⟨rfl, hst⟩
        have HSTT := Lib.hid hst
        clear hst
        go_wp2
        exact Go.Det.AtEnd.mk HSTT.out
       repeat
        apply Go.Mix.seqM_cons (by rfl) (by rfl)
        focus
         intro b W hS
         have HS := Lib.hid hS
         clear hS
         go_wp2
         exact Go.Det.AtEnd.mk HS.out
       refine Go.Mix.seqM_nil ?_
       intro W7 hW7
       obtain ⟨vr5, vt5, hb5, hl5, hk5⟩ := (show StepTo w2.heap.size g m s' W5 W7 from hW7)
       clear hW7
       simp only [List.drop_succ_cons, List.drop_zero, Exit.then]
       have HB7 := Lib.hid hb5
       have HL7 := Lib.hid ((HLO.out.trans (below_low HB6.out (Nat.le_trans HZ4.out HLO.out.size))).trans hl5)
       have HK7 := Lib.hid ((HKE.out.trans (KeepK.below HB6.out)).trans hk5)
       clear hb5 hl5 hk5
       by_cases hw2 : wo = 2
       ·have HR3 := Lib.hid (show R = 2 from by rw [← HS3.out, if_pos hw2])
        have hwb : (wo == 2) = true := beq_iff_eq.2 hw2
        subst hw2
        go_wp2_with (go_at_call 105; (with_reducible refine (HWO.out _).mono ?_); rintro e w8 ⟨rfl, rfl⟩)
        go_ret
        exact ⟨by rw [HR3.out]; rfl, HL4.out.trans (HL7.out.mono HZ1.out)⟩
       ·have HR3 := Lib.hid (show checkGo s' wo (ev.drop (k + 1)) = R from by rw [← HS3.out, if_neg hw2])
        have hwb : (wo == 2) = false := beq_eq_false_iff_ne.2 hw2
        clear hw2
        go_wp2_with (go_at_call 105; (with_reducible refine (HWO.out _).mono ?_); rintro e w8 ⟨rfl, rfl⟩)
        go_roundw
        case rel => exact ⟨k + 1, s', vr5, vt5, wo, by omega, by go_num, rfl, HB7.out, HOK2.out, HL7.out, HK7.out, HR3.out⟩
        case measure => simp [intOf]; omega
    ·obtain rfl : k = ev.length := by omega
     have hlt1 : ¬ (ev.length : Int) < (ev.length : Int) := by omega
     have hend : R = out := by rw [← HRU.out, List.drop_length]; rfl
     have HEND := Lib.hid hend
     clear hend
     go_wp2
     go_ret
     exact ⟨by rw [HEND.out]; rfl, HL4.out.trans (HLO.out.mono HZ1.out)⟩
 ·rw [hp] at HCN HR
  have HR2 := Lib.hid (show R = 2 from HR.out.symm)
  clear hp
  go_enter Try.func57, Try.ntmps57
  go_wp2_with (go_at_call 99; (with_reducible refine HCN.out.mono ?_); rintro e w1 ⟨rfl, hb1⟩)
  go_ret
  exact ⟨by rw [HR2.out]; rfl, hb1⟩
end Go.Proofs.Ythcmfjpheanphaa.Pr
namespace Go.Proofs.Ythcmfjpheanphaa.Pr
open Go.RowKit Go.Proofs.YthcmfjpheanphaaW.PrintWords
def sizedB : Nat → List S56 → Nat → Nat → Bool
 | 0, _, _, _ => false
 | n + 1, t, a, e => if a < e then (if 1 ≤ (rd_T56 t a).f3 ∧ (rd_T56 t a).f3 ≤ (e : Int) - a then sizedB n t (a + 1) (a + (rd_T56 t a).f3.toNat) && sizedB n t (a + (rd_T56 t a).f3.toNat) e else false) else true
theorem sizedB_more (t : List S56) : ∀ (n m a e : Nat), e - a < n → e - a < m → sizedB n t a e = sizedB m t a e
 | 0, _, _, _, h, _ => by omega
 | _ + 1, 0, _, _, _, h => by omega
 | n + 1, m + 1, a, e, h1, h2 => by
  simp only [sizedB]
  by_cases hlt : a < e
  ·rw [if_pos hlt, if_pos hlt]
   by_cases hs : 1 ≤ (rd_T56 t a).f3 ∧ (rd_T56 t a).f3 ≤ (e : Int) - a
   ·rw [if_pos hs, if_pos hs, sizedB_more t n m (a + 1) _ (by omega) (by omega), sizedB_more t n m (a + (rd_T56 t a).f3.toNat) e (by omega) (by omega)]
   ·rw [if_neg hs, if_neg hs]
  ·rw [if_neg hlt, if_neg hlt]
def sizedT (t : List S56) (a e : Nat) : Bool := sizedB (e - a + 1) t a e
theorem sizedT_end (t : List S56) (a e : Nat) (h : ¬ a < e) : sizedT t a e = true := by
 unfold sizedT
 simp only [sizedB]
 rw [if_neg h]
theorem sizedT_step (t : List S56) (a e : Nat) (h : a < e) : sizedT t a e = if 1 ≤ (rd_T56 t a).f3 ∧ (rd_T56 t a).f3 ≤ (e : Int) - a then sizedT t (a + 1) (a + (rd_T56 t a).f3.toNat) && sizedT t (a + (rd_T56 t a).f3.toNat) e else false := by
 unfold sizedT
 rw [sizedB]
 rw [if_pos h]
 by_cases hs : 1 ≤ (rd_T56 t a).f3 ∧ (rd_T56 t a).f3 ≤ (e : Int) - a
 ·rw [if_pos hs, if_pos hs]
  congr 1
  ·exact sizedB_more t _ _ _ _ (by omega) (by omega)
  ·exact sizedB_more t _ _ _ _ (by omega) (by omega)
 ·rw [if_neg hs, if_neg hs]
theorem wrap_nat {n : Nat} (h : n ≤ 9000000) : wrap64 (n : Int) = n := IntWalk.wrap64_in _ ⟨by omega, by omega⟩
theorem sized_f (t : List S56) (hl : t.length ≤ 1000000) : ∀ (n a e k : Nat), e - a ≤ n → a ≤ e → e ≤ t.length → 2 * n + 1 ≤ k → tree_sized.l0 k t a e = some (sizedT t a e)
 | 0, a, e, k, h, hae, _, hk => by
  obtain ⟨k, rfl⟩ : ∃ j, k = j + 1 := ⟨k - 1, by omega⟩
  rw [tree_sized.l0, if_neg (by omega), sizedT_end t a e (by omega)]
 | n + 1, a, e, k, h, hae, he, hk => by
  obtain ⟨k, rfl⟩ : ∃ j, k = j + 2 := ⟨k - 2, by omega⟩
  rw [tree_sized.l0]
  by_cases hlt : a < e
  ·have hw1 : wrap64 ((e : Int) - (a : Int)) = (e : Int) - a := by
    rw [show (e : Int) - (a : Int) = ((e - a : Nat) : Int) from by omega]; exact wrap_nat (by omega)
   rw [if_pos (by omega), if_pos (by omega), if_pos (by omega), hw1, sizedT_step t a e hlt]
   by_cases h1 : (rd_T56 t a).f3 < 1
   ·rw [if_pos h1, if_neg (by omega)]
   ·by_cases h2 : (rd_T56 t a).f3 > (e : Int) - a
    ·rw [if_neg h1, if_pos h2, if_neg (by omega)]
    ·rw [if_neg h1, if_neg h2, if_pos (by omega)]
     have e1 : wrap64 ((a : Int) + 1) = ((a + 1 : Nat) : Int) := by rw [show (a : Int) + 1 = ((a + 1 : Nat) : Int) from by omega]; exact wrap_nat (by omega)
     have e2 : wrap64 ((a : Int) + (rd_T56 t a).f3) = ((a + (rd_T56 t a).f3.toNat : Nat) : Int) := by rw [show (a : Int) + (rd_T56 t a).f3 = ((a + (rd_T56 t a).f3.toNat : Nat) : Int) from by omega]; exact wrap_nat (by omega)
     rw [e1, e2]
     have ih1 := sized_f t hl n (a + 1) (a + (rd_T56 t a).f3.toNat) k (by omega) (by omega) (by omega) (by omega)
     have ih2 := sized_f t hl n (a + (rd_T56 t a).f3.toNat) e (k + 1) (by omega) (by omega) (by omega) (by omega)
     rw [tree_sized.f, ih1, ih2, Option.bind_some]
     cases sizedT t (a + 1) (a + (rd_T56 t a).f3.toNat) <;> simp
  ·rw [if_neg (by omega), sizedT_end t a e hlt]
def shutX : S47 := ⟨3, 0, ⟨#[]⟩, 0⟩
def nodeX (x : S56) : S47 := if x.f0 = 46 then ⟨1, 0, x.f1, 0⟩ else ⟨2, x.f0, ⟨#[]⟩, 0⟩
def closeE : Nat → List S47 → List Int → Int → List S47 × List Int
 | 0, o, e, _ => (o, e)
 | n + 1, o, e, i => if e ≠ [] ∧ rd e ((e.length : Int) - 1) = i then closeE n (o ++ [shutX]) e.dropLast i else (o, e)
def evStep (x : S56) (i : Nat) (s : List S47 × List Int) : List S47 × List Int :=
 ((closeE s.2.length s.1 s.2 i).1 ++ [nodeX x], if x.f0 = 46 then (closeE s.2.length s.1 s.2 i).2 else (closeE s.2.length s.1 s.2 i).2 ++ [(i : Int) + x.f3])
def evRun : List S56 → Nat → List S47 × List Int → List S47 × List Int
 | [], _, s => s
 | x :: l, i, s => evRun l (i + 1) (evStep x i s)
def eventsP (t : List S56) : List S47 := (evRun t 0 ([], [])).1 ++ List.replicate (evRun t 0 ([], [])).2.length shutX
theorem l2_f (n : Nat) (hn : n ≤ 400000) : ∀ (d j k : Nat) (o : List S47), d + j = n → o.length + d ≤ 3000000 → d + 1 ≤ k → tree_events.l2 k o n j = some (o ++ List.replicate d shutX)
 | 0, j, k, o, h, ho, hk => by
  obtain ⟨k, rfl⟩ : ∃ q, k = q + 1 := ⟨k - 1, by omega⟩
  rw [tree_events.l2, if_neg (by omega)]
  simp
 | d + 1, j, k, o, h, ho, hk => by
  obtain ⟨k, rfl⟩ : ∃ q, k = q + 1 := ⟨k - 1, by omega⟩
  rw [tree_events.l2, if_pos (by omega), Option.bind_some, if_pos (by simp; omega)]
  have e1 : wrap64 ((j : Int) + 1) = ((j + 1 : Nat) : Int) := by rw [show (j : Int) + 1 = ((j + 1 : Nat) : Int) from by omega]; exact wrap_nat (by omega)
  rw [e1, l2_f n hn d (j + 1) k _ (by omega) (by simp; omega) (by omega)]
  simp [List.replicate_succ, shutX]
theorem closeE_len : ∀ (d : Nat) (o : List S47) (e : List Int) (i : Int), (closeE d o e i).1.length + (closeE d o e i).2.length = o.length + e.length ∧ (closeE d o e i).2.length ≤ e.length
 | 0, o, e, i => ⟨rfl, Nat.le_refl _⟩
 | d + 1, o, e, i => by
  simp only [closeE]
  split
  ·rename_i h
   have hp : 0 < e.length := List.length_pos_iff.2 h.1
   obtain ⟨g1, g2⟩ := closeE_len d (o ++ [shutX]) e.dropLast i
   rw [List.length_dropLast] at g1 g2
   simp only [List.length_append, List.length_cons, List.length_nil] at g1
   exact ⟨by omega, by omega⟩
  ·exact ⟨rfl, Nat.le_refl _⟩
theorem l1_f (t : List S56) (n : Int) (x : S56) (i : Nat) (hi : i ≤ 400000) (h3 : 1 ≤ x.f3 ∧ x.f3 ≤ 400000) (K0 : Nat) (R : List S47) : ∀ (d : Nat) (out : List S47) (ends : List Int) (k : Nat), ends.length = d → out.length + ends.length ≤ 2 * i + 1 →
  (∀ K, K0 ≤ K → tree_events.l0 K (evStep x i (out, ends)).1 (evStep x i (out, ends)).2 t n ((i + 1 : Nat) : Int) = some R) → K0 + d + 1 ≤ k + (closeE ends.length out ends i).2.length →
  tree_events.l1 k out ends (i : Int) t n (i : Int) x.f0 x.f1 x.f2 x.f3 = some R
 | 0, out, ends, k, hd, hb, hR, hk => by
  obtain rfl : ends = [] := List.eq_nil_of_length_eq_zero hd
  simp only [List.length_nil, closeE] at hk
  obtain ⟨k, rfl⟩ : ∃ q, k = q + 1 := ⟨k - 1, by omega⟩
  have hR' := hR k (by omega)
  unfold evStep at hR'
  simp only [closeE, List.length_nil] at hR'
  have e1 : wrap64 ((i : Int) + 1) = ((i + 1 : Nat) : Int) := by rw [show (i : Int) + 1 = ((i + 1 : Nat) : Int) from by omega]; exact wrap_nat (by omega)
  have e2 : wrap64 ((i : Int) + x.f3) = (i : Int) + x.f3 := by
   rw [show (i : Int) + x.f3 = ((i + x.f3.toNat : Nat) : Int) from by omega]; exact wrap_nat (by omega)
  simp only [List.length_nil] at hb
  rw [tree_events.l1, if_neg (by simp)]
  by_cases h46 : x.f0 = 46
  ·rw [if_pos h46, Option.bind_some, if_pos (by simp; omega), e1]
   rw [if_pos h46] at hR'
   rw [show ([(⟨1, 0, x.f1, 0⟩ : S47)] : List S47) = [nodeX x] from by unfold nodeX; rw [if_pos h46]]
   exact hR'
  ·rw [if_neg h46, Option.bind_some, if_pos (by simp; omega), Option.bind_some, if_pos (by simp), e1, e2]
   rw [if_neg h46] at hR'
   rw [show ([(⟨2, x.f0, ⟨#[]⟩, 0⟩ : S47)] : List S47) = [nodeX x] from by unfold nodeX; rw [if_neg h46]]
   exact hR'
 | d + 1, out, ends, k, hd, hb, hR, hk => by
  have hcl := (closeE_len ends.length out ends i).2
  obtain ⟨k, rfl⟩ : ∃ q, k = q + 1 := ⟨k - 1, by omega⟩
  have hne : ends ≠ [] := fun e => by rw [e] at hd; cases hd
  have e1 : wrap64 ((i : Int) + 1) = ((i + 1 : Nat) : Int) := by rw [show (i : Int) + 1 = ((i + 1 : Nat) : Int) from by omega]; exact wrap_nat (by omega)
  have e2 : wrap64 ((i : Int) + x.f3) = (i : Int) + x.f3 := by
   rw [show (i : Int) + x.f3 = ((i + x.f3.toNat : Nat) : Int) from by omega]; exact wrap_nat (by omega)
  have e3 : wrap64 ((ends.length : Int) - 1) = (ends.length : Int) - 1 := by
   rw [show (ends.length : Int) - 1 = ((ends.length - 1 : Nat) : Int) from by omega]; exact wrap_nat (by omega)
  rw [tree_events.l1, if_pos (by omega), e3, if_pos (by omega), if_pos (by omega)]
  by_cases hr : rd ends ((ends.length : Int) - 1) = (i : Int)
  ·have hc : closeE ends.length out ends i = closeE ends.dropLast.length (out ++ [shutX]) ends.dropLast i := by
    rw [show ends.dropLast.length = d from by rw [List.length_dropLast]; omega, hd]
    simp only [closeE]
    rw [if_pos ⟨hne, hr⟩]
   rw [if_pos hr, Option.bind_some, if_pos (by simp; omega), if_pos (by omega)]
   have hdl : ends.take ((ends.length : Int) - 1).toNat = ends.dropLast := by
    rw [List.dropLast_eq_take]
    congr 1
    omega
   rw [hdl]
   refine l1_f t n x i hi h3 K0 R d (out ++ [⟨3, 0, ⟨#[]⟩, 0⟩]) ends.dropLast k (by rw [List.length_dropLast]; omega) (by rw [List.length_append, List.length_dropLast]; simp; omega) (fun K hK => ?_) (by rw [hc] at hk; show K0 + d + 1 ≤ k + (closeE ends.dropLast.length (out ++ [shutX]) ends.dropLast i).2.length; omega)
   have hs : evStep x i (out ++ [⟨3, 0, ⟨#[]⟩, 0⟩], ends.dropLast) = evStep x i (out, ends) := by
    unfold evStep
    simp only [hc]
    rfl
   rw [hs]
   exact hR K hK
  ·rw [if_neg hr]
   have hc : closeE ends.length out ends i = (out, ends) := by
    rw [hd]
    simp only [closeE]
    rw [if_neg (fun h => hr h.2)]
   have hR' := hR k (by rw [hc] at hk; simp only at hk; omega)
   unfold evStep at hR'
   simp only [hc] at hR'
   by_cases h46 : x.f0 = 46
   ·rw [if_pos h46, Option.bind_some, if_pos (by simp; omega), e1]
    rw [if_pos h46] at hR'
    rw [show ([(⟨1, 0, x.f1, 0⟩ : S47)] : List S47) = [nodeX x] from by unfold nodeX; rw [if_pos h46]]
    exact hR'
   ·rw [if_neg h46, Option.bind_some, if_pos (by simp; omega), Option.bind_some, if_pos (by simp; omega), e1, e2]
    rw [if_neg h46] at hR'
    rw [show ([(⟨2, x.f0, ⟨#[]⟩, 0⟩ : S47)] : List S47) = [nodeX x] from by unfold nodeX; rw [if_neg h46]]
    exact hR'
theorem evStep_len (x : S56) (i : Nat) (s : List S47 × List Int) : (evStep x i s).1.length + (evStep x i s).2.length ≤ s.1.length + s.2.length + 2 ∧ (evStep x i s).2.length ≤ s.2.length + 1 ∧ (evStep x i s).2.length ≤ (closeE s.2.length s.1 s.2 i).2.length + 1 := by
 obtain ⟨g1, g2⟩ := closeE_len s.2.length s.1 s.2 i
 unfold evStep
 split <;> simp <;> omega
theorem l0_f (t : List S56) (ht : t.length ≤ 400000) (h3 : ∀ x ∈ t, 1 ≤ x.f3 ∧ x.f3 ≤ 400000) : ∀ (m i : Nat) (s : List S47 × List Int) (k : Nat), m + i = t.length → s.1.length + s.2.length ≤ 2 * i → s.2.length ≤ i → 4 * m + 2 * s.2.length + 5 ≤ k →
  tree_events.l0 k s.1 s.2 t (t.length : Int) (i : Int) = some ((evRun (t.drop i) i s).1 ++ List.replicate (evRun (t.drop i) i s).2.length shutX)
 | 0, i, s, k, hm, hb, he, hk => by
  obtain ⟨k, rfl⟩ : ∃ q, k = q + 1 := ⟨k - 1, by omega⟩
  rw [tree_events.l0, if_neg (by omega), List.drop_of_length_le (by omega)]
  exact l2_f s.2.length (by omega) s.2.length 0 k s.1 (by omega) (by omega) (by omega)
 | m + 1, i, s, k, hm, hb, he, hk => by
  obtain ⟨k, rfl⟩ : ∃ q, k = q + 1 := ⟨k - 1, by omega⟩
  rw [tree_events.l0, if_pos (by omega), if_pos (by omega), if_pos (by omega), rd56_dropH t i (by omega)]
  obtain ⟨g1, g2, g3⟩ := evStep_len (rd_T56 t i) i s
  have g4 := closeE_len s.2.length s.1 s.2 i
  refine l1_f t _ (rd_T56 t i) i (by omega) (h3 _ (rd56_mem t i (by omega))) (4 * m + 2 * (evStep (rd_T56 t i) i s).2.length + 5) _ s.2.length s.1 s.2 k rfl (by omega) (fun K hK => ?_) (by omega)
  exact l0_f t ht h3 m (i + 1) (evStep (rd_T56 t i) i s) K (by omega) (by omega) (by omega) hK
theorem events_f (t : List S56) (ht : t.length ≤ 400000) (h3 : ∀ x ∈ t, 1 ≤ x.f3 ∧ x.f3 ≤ 400000) (k : Nat) (hk : 4 * t.length + 5 ≤ k) : tree_events.f k t = some (eventsP t) := by
 unfold tree_events.f eventsP
 have := l0_f t ht h3 t.length 0 ([], []) k (by omega) (by simp) (by simp) (by simp; omega)
 exact this
end Go.Proofs.Ythcmfjpheanphaa.Pr
namespace Go.Proofs.Ythcmfjpheanphaa.Pr
open Go.RowKit Go.Proofs.YthcmfjpheanphaaW.PrintWords Go.Proofs.YthcmfjpheanphaaW.PrintLast Go.Proofs.YthcmfjpheanphaaW.PrintMore
attribute [local go_sem] max2_int min2_int max_two min_two max_three min_three max_four min_four
def stylusref04_in.l0 : Nat → Int → ByteArray → Int → Option (Bool)
 | 0, _, _, _ => none
 | k + 1, x0, x1, x5 => if x5 < (x1.size : Int) then (if 0 ≤ x5 then (if (bt x1 x5) = x0 then (some true) else (stylusref04_in.l0 k x0 x1 (wrap64 (x5 + 1)))) else (none)) else (some false)
def stylusref04_in.f (k : Nat) (a0 : Int) (a1 : ByteArray) : Option (Bool) := stylusref04_in.l0 k a0 a1 0
theorem stylusref04_in.mono_l : ∀ k, (∀ y0 y1 y2, LeO (stylusref04_in.l0 k y0 y1 y2) (stylusref04_in.l0 (k + 1) y0 y1 y2))
 | 0 => fun _ _ _ r h => by simp [stylusref04_in.l0] at h
 | k + 1 => by
  have ih0 := stylusref04_in.mono_l k
  ·intro y0 y1 y2
   unfold stylusref04_in.l0
   repeat' first
   | (with_reducible exact ih0 _ _ _)
   | (with_reducible exact LeO.refl _)
   | (with_reducible exact LeO.none _)
   | (with_reducible refine LeO.ite ?_ ?_)
   | (with_reducible refine LeO.bind ?_ (fun _ => ?_))
   | exact ih0 _ _ _
   | exact LeO.none _
   | refine LeO.ite ?_ ?_
   | refine LeO.bind ?_ (fun _ => ?_)
theorem stylusref04_in.mono : ∀ a0 a1 k, LeO (stylusref04_in.f k a0 a1) (stylusref04_in.f (k + 1) a0 a1) := by
 intro a0 a1 k
 have ih0 := stylusref04_in.mono_l k
 unfold stylusref04_in.f
 repeat' first
   | (with_reducible exact ih0 _ _ _)
   | (with_reducible exact LeO.refl _)
   | (with_reducible exact LeO.none _)
   | (with_reducible refine LeO.ite ?_ ?_)
   | (with_reducible refine LeO.bind ?_ (fun _ => ?_))
   | exact ih0 _ _ _
   | exact LeO.none _
   | refine LeO.ite ?_ ?_
   | refine LeO.bind ?_ (fun _ => ?_)
set_option maxHeartbeats 8000000 in
set_option maxRecDepth 100000 in
theorem stylusref04_in.calls (k : Nat) (a0 : Int) (a1 : ByteArray) (r : Bool) (w : World) (h : stylusref04_in.f k a0 a1 = some r) :
  Calls Try.prog 140 #[.int .u8 a0, .string a1] w fun e w' => e = .returned (.bool r) ∧ Drawn0 w w' := by
 have H : (stylusref04_in.l0 k a0 a1 0) = some r := h
 clear h
 have H' := Aside0.mk H
 clear H
 go_enter Try.func140, Try.ntmps140
 go_wp2
 go_loopg [5] k (fun kq v5 w' => ∃ (x5_1 : Int), v5 = .int .i64 x5_1 ∧ Aside0 (stylusref04_in.l0 kq a0 a1 x5_1 = some r) ∧ Aside0 (kq ≤ k) ∧ Drawn0 w w')
 case atStart => exact ⟨(0), (by first | rfl | (simp; done) | (simp [*]; done)), H', ⟨Nat.le_refl _⟩, by repeat (first | exact Drawn0.refl _ | apply Drawn0.step)⟩
 case round =>
  clear H'
  try clear c1
  try clear p2
  obtain ⟨x5_1, rfl, HA, HK1, ⟨m1, rfl⟩⟩ := hrel
  cases gk with
  | zero => exact absurd HA.out (by simp [stylusref04_in.l0])
  | succ k1 =>
   have H := HA.out
   clear HA
   simp only [stylusref04_in.l0] at H
   by_cases c3 : x5_1 < (a1.size : Int)
   ·rw [if_pos c3] at H
    have c3b0 : decide (x5_1 < (a1.size : Int)) = true := decide_eq_true c3
    clear c3
    by_cases c4 : 0 ≤ x5_1
    ·rw [if_pos c4] at H
     have c4b0 : decide (0 ≤ x5_1) = true := decide_eq_true c4
     clear c4
     by_cases c6 : (bt a1 x5_1) = a0
     ·rw [if_pos c6] at H
      have c6b0 : ((bt a1 x5_1) == a0) = true := beq_iff_eq.mpr c6
      have c6b1 : ((bt a1 x5_1) != a0) = false := bne_eq_false_iff_eq.mpr c6
      clear c6
      obtain rfl := Option.some.inj H
      have p5 : 0 ≤ (x5_1 : Int) := of_decide_eq_true (by first | (with_reducible assumption) | assumption)
      have q5 : x5_1 < (a1.size : Int) := of_decide_eq_true (by first | (with_reducible assumption) | assumption)
      have hx5 := bt_at a1 x5_1
      replace p5 := eq_true p5
      replace q5 := eq_true q5
      go_wp2
      go_ret
      exact ⟨by first | rfl | (simp; done) | (simp [*]; done), by repeat (first | exact Drawn0.refl _ | apply Drawn0.step)⟩
     ·rw [if_neg c6] at H
      have c6b0 : ((bt a1 x5_1) == a0) = false := beq_eq_false_iff_ne.mpr c6
      have c6b1 : ((bt a1 x5_1) != a0) = true := bne_iff_ne.mpr c6
      have H' := Aside0.mk H
      clear H
      have p5 : 0 ≤ (x5_1 : Int) := of_decide_eq_true (by first | (with_reducible assumption) | assumption)
      have q5 : x5_1 < (a1.size : Int) := of_decide_eq_true (by first | (with_reducible assumption) | assumption)
      have hx5 := bt_at a1 x5_1
      replace p5 := eq_true p5
      replace q5 := eq_true q5
      go_wp2
      go_roundg k1
      case measure => have := HK1.out; omega
      case rel => exact ⟨(wrap64 (x5_1 + 1)), (by first | rfl | (simp; done) | (simp [*]; done)), H', ⟨by have := HK1.out; omega⟩, by repeat (first | exact Drawn0.refl _ | apply Drawn0.step)⟩
    ·rw [if_neg c4] at H
     exact absurd H (by simp)
   ·rw [if_neg c3] at H
    have c3b0 : decide (x5_1 < (a1.size : Int)) = false := decide_eq_false c3
    clear c3
    obtain rfl := Option.some.inj H
    go_wp2
    go_ret
    exact ⟨by first | rfl | (simp; done) | (simp [*]; done), by repeat (first | exact Drawn0.refl _ | apply Drawn0.step)⟩
def stylusref04_Texts.f (k : Nat) (l0 : List (S159)) : Option (Bool) := if 0 ≤ (wrap64 ((l0.length : Int) - 1)) then (if (wrap64 ((l0.length : Int) - 1)) < (l0.length : Int) then ((stylusref04_in.f k ((rd_T159 l0 (wrap64 ((l0.length : Int) - 1))).f0) (⟨#[49, 50, 51, 112, 99, 110, 101, 115]⟩ : ByteArray)).bind fun t124 => (if t124 = true then (some true) else (if ((rd_T159 l0 (wrap64 ((l0.length : Int) - 1))).f0) = 105 then ((stylusref04_in.f k 108 ((rd_T159 l0 (wrap64 ((l0.length : Int) - 1))).f1)).bind fun t125 => (some (!t125))) else (some false)))) else (none)) else (none)
theorem stylusref04_Texts.mono : ∀ a0 k, LeO (stylusref04_Texts.f k a0) (stylusref04_Texts.f (k + 1) a0) := by
 intro a0 k
 unfold stylusref04_Texts.f
 repeat' first
   | (with_reducible exact stylusref04_in.mono _ _ _)
   | (with_reducible exact LeO.refl _)
   | (with_reducible exact LeO.none _)
   | (with_reducible refine LeO.ite ?_ ?_)
   | (with_reducible refine LeO.bind ?_ (fun _ => ?_))
   | exact stylusref04_in.mono _ _ _
   | exact LeO.none _
   | refine LeO.ite ?_ ?_
   | refine LeO.bind ?_ (fun _ => ?_)
set_option maxHeartbeats 8000000 in
set_option maxRecDepth 100000 in
theorem stylusref04_Texts.calls (k : Nat) (A0 : Option Addr) (c0 : Nat) (l0 : List (S159)) (r : Bool) (w : World) (hr0 : Kd.C k159 w A0 l0.length l0) (hc0 : l0.length ≤ c0) (h : stylusref04_Texts.f k l0 = some r) :
  Calls Try.prog 108 #[.slice A0 l0.length c0] w fun e w' => e = .returned (.bool r) ∧ Below w.heap.size w w' := by
 have hu159 := Try.underlying159
 have HR0 := Aside0.mk hr0
 have HC0 := Aside0.mk hc0
 clear hr0 hc0
 have HB := Aside0.mk (Below.refl w.heap.size w)
 have H : (if 0 ≤ (wrap64 ((l0.length : Int) - 1)) then (if (wrap64 ((l0.length : Int) - 1)) < (l0.length : Int) then ((stylusref04_in.f k ((rd_T159 l0 (wrap64 ((l0.length : Int) - 1))).f0) (⟨#[49, 50, 51, 112, 99, 110, 101, 115]⟩ : ByteArray)).bind fun t124 => (if t124 = true then (some true) else (if ((rd_T159 l0 (wrap64 ((l0.length : Int) - 1))).f0) = 105 then ((stylusref04_in.f k 108 ((rd_T159 l0 (wrap64 ((l0.length : Int) - 1))).f1)).bind fun t125 => (some (!t125))) else (some false)))) else (none)) else (none)) = some r := h
 clear h
 obtain ⟨ji2, hji2⟩ : ∃ j_ : Int, (wrap64 ((l0.length : Int) - 1)) = j_ := ⟨_, rfl⟩
 replace H : (if 0 ≤ (ji2) then (if (ji2) < (l0.length : Int) then ((stylusref04_in.f k ((rd_T159 l0 (ji2)).f0) (⟨#[49, 50, 51, 112, 99, 110, 101, 115]⟩ : ByteArray)).bind fun t124 => (if t124 = true then (some true) else (if ((rd_T159 l0 (ji2)).f0) = 105 then ((stylusref04_in.f k 108 ((rd_T159 l0 (ji2)).f1)).bind fun t125 => (some (!t125))) else (some false)))) else (none)) else (none)) = some r := by first | (rw [hji2] at H; exact H) | (simp only [hji2] at H ⊢; exact H)
 have hji2w : (IntKind.i64.wrap ((l0.length : Int) - 1)) = ji2 := (i64_w _).trans hji2
 by_cases c3 : 0 ≤ (ji2)
 ·rw [if_pos c3] at H
  have c3b0 : decide (0 ≤ (ji2)) = true := decide_eq_true c3
  clear c3
  by_cases c4 : (ji2) < (l0.length : Int)
  ·rw [if_pos c4] at H
   have c4b0 : decide ((ji2) < (l0.length : Int)) = true := decide_eq_true c4
   clear c4
   replace H := Option.bind_eq_some_iff.mp H
   obtain ⟨t124, A50, H⟩ := H
   replace H : (if t124 = true then (some true) else (if ((rd_T159 l0 (ji2)).f0) = 105 then ((stylusref04_in.f k 108 ((rd_T159 l0 (ji2)).f1)).bind fun t125 => (some (!t125))) else (some false))) = some r := H
   have A5 := Aside0.mk A50
   clear A50
   by_cases c6 : t124 = true
   ·subst c6
    have H1 : (some true) = some r := by rw [if_pos rfl] at H; exact H
    clear H
    have H := H1
    clear H1
    obtain rfl := Option.some.inj H
    have p122 : 0 ≤ ((ji2) : Int) := of_decide_eq_true (by first | (with_reducible assumption) | assumption)
    have q122 : (ji2) < (l0.length : Int) := of_decide_eq_true (by first | (with_reducible assumption) | assumption)
    obtain ⟨ad122, e122, hx122_0, hx122_1, hx122_2, hx122_3, hx122_4, hx122_5⟩ := at_T159 HR0.out (ji2) p122 q122
    cases e122
    replace p122 := eq_true p122
    replace q122 := eq_true q122
    go_enter Try.func108, Try.ntmps108
    go_wp2_with (first | ((with_reducible refine gate_dst (N := 3) rfl ?_); refine box_event ?hg (N := 3) ?hd (cs := #[.int .u8 0, .string (⟨#[]⟩ : ByteArray), .int .i64 0, .int .i64 0, .int .i64 0, .string (⟨#[]⟩ : ByteArray)]) (t := 159) ?hr ?_; (case hd => rfl); (case hg => rfl); (case hr => first | (go_simp; done) | (go_simp; rfl)); intro gb123 hg w7 hbox hb; have n0_ := Aside0.mk (below_step (by repeat (first | (with_reducible first | exact HB.out | apply below_alloc | apply pw_below_drewN | apply below_drew1) | exact HB.out)) hb); have n1_ := Aside0.mk (hbox); have n2_ := Aside0.mk ((by rw [hg]; exact (below_size (by repeat (first | (with_reducible first | exact HB.out | apply below_alloc | apply pw_below_drewN | apply below_drew1) | exact HB.out))) : w.heap.size ≤ gb123)); have n3_ := Aside0.mk ((by rw [hg]; exact (below_size (by repeat (first | (with_reducible first | exact HB.out | apply below_alloc | apply pw_below_drewN | apply below_drew1) | exact HB.out))) : w.heap.size ≤ gb123)); clear HB; have HB := n0_; have BK123 := n1_; have GW123 := n2_; have GE123 := n3_; clear n0_ n1_ n2_ n3_; clear hb hbox hg; have hcz8_0 : w7.cell? ⟨gb123, 0, none⟩ = some (.int .u8 0) := (blk_cell BK123.out 0).trans rfl; have hcz8_1 : w7.cell? ⟨gb123, 1, none⟩ = some (.string (⟨#[]⟩ : ByteArray)) := (blk_cell BK123.out 1).trans rfl; have hcz8_2 : w7.cell? ⟨gb123, 2, none⟩ = some (.int .i64 0) := (blk_cell BK123.out 2).trans rfl; have hcz8_3 : w7.cell? ⟨gb123, 3, none⟩ = some (.int .i64 0) := (blk_cell BK123.out 3).trans rfl; have hcz8_4 : w7.cell? ⟨gb123, 4, none⟩ = some (.int .i64 0) := (blk_cell BK123.out 4).trans rfl; have hcz8_5 : w7.cell? ⟨gb123, 5, none⟩ = some (.string (⟨#[]⟩ : ByteArray)) := (blk_cell BK123.out 5).trans rfl; have hfz8_0 := blk_frozen BK123.out 0; have hfz8_1 := blk_frozen BK123.out 1; have hfz8_2 := blk_frozen BK123.out 2; have hfz8_3 := blk_frozen BK123.out 3; have hfz8_4 := blk_frozen BK123.out 4; have hfz8_5 := blk_frozen BK123.out 5) | ((with_reducible refine gate_callee (f := 140) rfl ?_); refine goesL_ (some 12) rfl rfl Try.func140 (by kernel_rfl) rfl #[.int .u8 ((rd_T159 l0 (ji2)).f0), .string (⟨#[49, 50, 51, 112, 99, 110, 101, 115]⟩ : ByteArray)] rfl (by (try simp only [List.map_toArray, List.map_cons, List.map_nil]); first | done | (simp only [hji2]; rfl) | rfl | (simp only [List.length_drop, List.length_take]; rfl)) ?_; (with_reducible refine (stylusref04_in.calls k ((rd_T159 l0 (ji2)).f0) (⟨#[49, 50, 51, 112, 99, 110, 101, 115]⟩ : ByteArray) true _ A5.out).mono ?_); rintro e w' ⟨rfl, ⟨nd, rfl⟩⟩; refine ⟨_, rfl, ?_⟩))
    go_ret
    exact ⟨by first | rfl | (simp [errW_none, errW_some] <;> rfl) | (simp only [← hji2]; first | rfl | (simp [errW_none, errW_some] <;> rfl)) | (simp [*, errW_none, errW_some] <;> rfl), by repeat (first | (with_reducible first | exact HB.out | apply below_alloc | apply pw_below_drewN | apply below_drew1 | refine below_set ?_ GE123.out) | exact HB.out)⟩
   ·replace c6 := Bool.eq_false_iff.mpr c6
    subst c6
    have H1 : (if ((rd_T159 l0 (ji2)).f0) = 105 then ((stylusref04_in.f k 108 ((rd_T159 l0 (ji2)).f1)).bind fun t125 => (some (!t125))) else (some false)) = some r := by rw [if_neg (show ¬ (false = true) by decide)] at H; exact H
    clear H
    have H := H1
    clear H1
    by_cases c9 : ((rd_T159 l0 (ji2)).f0) = 105
    ·rw [if_pos c9] at H
     have c9b0 : (((rd_T159 l0 (ji2)).f0) == 105) = true := beq_iff_eq.mpr c9
     have c9b1 : (((rd_T159 l0 (ji2)).f0) != 105) = false := bne_eq_false_iff_eq.mpr c9
     clear c9
     replace H := Option.bind_eq_some_iff.mp H
     obtain ⟨t125, A100, H⟩ := H
     replace H : (some (!t125)) = some r := H
     have A10 := Aside0.mk A100
     clear A100
     obtain rfl := Option.some.inj H
     have p122 : 0 ≤ ((ji2) : Int) := of_decide_eq_true (by first | (with_reducible assumption) | assumption)
     have q122 : (ji2) < (l0.length : Int) := of_decide_eq_true (by first | (with_reducible assumption) | assumption)
     obtain ⟨ad122, e122, hx122_0, hx122_1, hx122_2, hx122_3, hx122_4, hx122_5⟩ := at_T159 HR0.out (ji2) p122 q122
     cases e122
     replace p122 := eq_true p122
     replace q122 := eq_true q122
     go_enter Try.func108, Try.ntmps108
     go_wp2_with (first | ((with_reducible refine gate_dst (N := 3) rfl ?_); refine box_event ?hg (N := 3) ?hd (cs := #[.int .u8 0, .string (⟨#[]⟩ : ByteArray), .int .i64 0, .int .i64 0, .int .i64 0, .string (⟨#[]⟩ : ByteArray)]) (t := 159) ?hr ?_; (case hd => rfl); (case hg => rfl); (case hr => first | (go_simp; done) | (go_simp; rfl)); intro gb123 hg w11 hbox hb; have n0_ := Aside0.mk (below_step (by repeat (first | (with_reducible first | exact HB.out | apply below_alloc | apply pw_below_drewN | apply below_drew1) | exact HB.out)) hb); have n1_ := Aside0.mk (hbox); have n2_ := Aside0.mk ((by rw [hg]; exact (below_size (by repeat (first | (with_reducible first | exact HB.out | apply below_alloc | apply pw_below_drewN | apply below_drew1) | exact HB.out))) : w.heap.size ≤ gb123)); have n3_ := Aside0.mk ((by rw [hg]; exact (below_size (by repeat (first | (with_reducible first | exact HB.out | apply below_alloc | apply pw_below_drewN | apply below_drew1) | exact HB.out))) : w.heap.size ≤ gb123)); clear HB; have HB := n0_; have BK123 := n1_; have GW123 := n2_; have GE123 := n3_; clear n0_ n1_ n2_ n3_; clear hb hbox hg; have hcz12_0 : w11.cell? ⟨gb123, 0, none⟩ = some (.int .u8 0) := (blk_cell BK123.out 0).trans rfl; have hcz12_1 : w11.cell? ⟨gb123, 1, none⟩ = some (.string (⟨#[]⟩ : ByteArray)) := (blk_cell BK123.out 1).trans rfl; have hcz12_2 : w11.cell? ⟨gb123, 2, none⟩ = some (.int .i64 0) := (blk_cell BK123.out 2).trans rfl; have hcz12_3 : w11.cell? ⟨gb123, 3, none⟩ = some (.int .i64 0) := (blk_cell BK123.out 3).trans rfl; have hcz12_4 : w11.cell? ⟨gb123, 4, none⟩ = some (.int .i64 0) := (blk_cell BK123.out 4).trans rfl; have hcz12_5 : w11.cell? ⟨gb123, 5, none⟩ = some (.string (⟨#[]⟩ : ByteArray)) := (blk_cell BK123.out 5).trans rfl; have hfz12_0 := blk_frozen BK123.out 0; have hfz12_1 := blk_frozen BK123.out 1; have hfz12_2 := blk_frozen BK123.out 2; have hfz12_3 := blk_frozen BK123.out 3; have hfz12_4 := blk_frozen BK123.out 4; have hfz12_5 := blk_frozen BK123.out 5) | ((with_reducible refine gate_callee (f := 140) rfl ?_); refine goesL_ (some 12) rfl rfl Try.func140 (by kernel_rfl) rfl #[.int .u8 ((rd_T159 l0 (ji2)).f0), .string (⟨#[49, 50, 51, 112, 99, 110, 101, 115]⟩ : ByteArray)] rfl (by (try simp only [List.map_toArray, List.map_cons, List.map_nil]); first | done | (simp only [hji2]; rfl) | rfl | (simp only [List.length_drop, List.length_take]; rfl)) ?_; (with_reducible refine (stylusref04_in.calls k ((rd_T159 l0 (ji2)).f0) (⟨#[49, 50, 51, 112, 99, 110, 101, 115]⟩ : ByteArray) false _ A5.out).mono ?_); rintro e w' ⟨rfl, ⟨nd, rfl⟩⟩; refine ⟨_, rfl, ?_⟩) | (go_at_call 140; (with_reducible refine (stylusref04_in.calls k 108 ((rd_T159 l0 (ji2)).f1) t125 _ A10.out).mono ?_); rintro e w' ⟨rfl, ⟨nd, rfl⟩⟩))
     go_ret
     exact ⟨by first | rfl | (simp [errW_none, errW_some] <;> rfl) | (simp only [← hji2]; first | rfl | (simp [errW_none, errW_some] <;> rfl)) | (simp [*, errW_none, errW_some] <;> rfl), by repeat (first | (with_reducible first | exact HB.out | apply below_alloc | apply pw_below_drewN | apply below_drew1 | refine below_set ?_ GE123.out) | exact HB.out)⟩
    ·rw [if_neg c9] at H
     have c9b0 : (((rd_T159 l0 (ji2)).f0) == 105) = false := beq_eq_false_iff_ne.mpr c9
     have c9b1 : (((rd_T159 l0 (ji2)).f0) != 105) = true := bne_iff_ne.mpr c9
     obtain rfl := Option.some.inj H
     have p122 : 0 ≤ ((ji2) : Int) := of_decide_eq_true (by first | (with_reducible assumption) | assumption)
     have q122 : (ji2) < (l0.length : Int) := of_decide_eq_true (by first | (with_reducible assumption) | assumption)
     obtain ⟨ad122, e122, hx122_0, hx122_1, hx122_2, hx122_3, hx122_4, hx122_5⟩ := at_T159 HR0.out (ji2) p122 q122
     cases e122
     replace p122 := eq_true p122
     replace q122 := eq_true q122
     go_enter Try.func108, Try.ntmps108
     go_wp2_with (first | ((with_reducible refine gate_dst (N := 3) rfl ?_); refine box_event ?hg (N := 3) ?hd (cs := #[.int .u8 0, .string (⟨#[]⟩ : ByteArray), .int .i64 0, .int .i64 0, .int .i64 0, .string (⟨#[]⟩ : ByteArray)]) (t := 159) ?hr ?_; (case hd => rfl); (case hg => rfl); (case hr => first | (go_simp; done) | (go_simp; rfl)); intro gb123 hg w13 hbox hb; have n0_ := Aside0.mk (below_step (by repeat (first | (with_reducible first | exact HB.out | apply below_alloc | apply pw_below_drewN | apply below_drew1) | exact HB.out)) hb); have n1_ := Aside0.mk (hbox); have n2_ := Aside0.mk ((by rw [hg]; exact (below_size (by repeat (first | (with_reducible first | exact HB.out | apply below_alloc | apply pw_below_drewN | apply below_drew1) | exact HB.out))) : w.heap.size ≤ gb123)); have n3_ := Aside0.mk ((by rw [hg]; exact (below_size (by repeat (first | (with_reducible first | exact HB.out | apply below_alloc | apply pw_below_drewN | apply below_drew1) | exact HB.out))) : w.heap.size ≤ gb123)); clear HB; have HB := n0_; have BK123 := n1_; have GW123 := n2_; have GE123 := n3_; clear n0_ n1_ n2_ n3_; clear hb hbox hg; have hcz14_0 : w13.cell? ⟨gb123, 0, none⟩ = some (.int .u8 0) := (blk_cell BK123.out 0).trans rfl; have hcz14_1 : w13.cell? ⟨gb123, 1, none⟩ = some (.string (⟨#[]⟩ : ByteArray)) := (blk_cell BK123.out 1).trans rfl; have hcz14_2 : w13.cell? ⟨gb123, 2, none⟩ = some (.int .i64 0) := (blk_cell BK123.out 2).trans rfl; have hcz14_3 : w13.cell? ⟨gb123, 3, none⟩ = some (.int .i64 0) := (blk_cell BK123.out 3).trans rfl; have hcz14_4 : w13.cell? ⟨gb123, 4, none⟩ = some (.int .i64 0) := (blk_cell BK123.out 4).trans rfl; have hcz14_5 : w13.cell? ⟨gb123, 5, none⟩ = some (.string (⟨#[]⟩ : ByteArray)) := (blk_cell BK123.out 5).trans rfl; have hfz14_0 := blk_frozen BK123.out 0; have hfz14_1 := blk_frozen BK123.out 1; have hfz14_2 := blk_frozen BK123.out 2; have hfz14_3 := blk_frozen BK123.out 3; have hfz14_4 := blk_frozen BK123.out 4; have hfz14_5 := blk_frozen BK123.out 5) | ((with_reducible refine gate_callee (f := 140) rfl ?_); refine goesL_ (some 12) rfl rfl Try.func140 (by kernel_rfl) rfl #[.int .u8 ((rd_T159 l0 (ji2)).f0), .string (⟨#[49, 50, 51, 112, 99, 110, 101, 115]⟩ : ByteArray)] rfl (by (try simp only [List.map_toArray, List.map_cons, List.map_nil]); first | done | (simp only [hji2]; rfl) | rfl | (simp only [List.length_drop, List.length_take]; rfl)) ?_; (with_reducible refine (stylusref04_in.calls k ((rd_T159 l0 (ji2)).f0) (⟨#[49, 50, 51, 112, 99, 110, 101, 115]⟩ : ByteArray) false _ A5.out).mono ?_); rintro e w' ⟨rfl, ⟨nd, rfl⟩⟩; refine ⟨_, rfl, ?_⟩))
     go_ret
     exact ⟨by first | rfl | (simp [errW_none, errW_some] <;> rfl) | (simp only [← hji2]; first | rfl | (simp [errW_none, errW_some] <;> rfl)) | (simp [*, errW_none, errW_some] <;> rfl), by repeat (first | (with_reducible first | exact HB.out | apply below_alloc | apply pw_below_drewN | apply below_drew1 | refine below_set ?_ GE123.out) | exact HB.out)⟩
  ·rw [if_neg c4] at H
   exact absurd H (by simp)
 ·rw [if_neg c3] at H
  exact absurd H (by simp)
def stylusref04_last.l0 : Nat → List (S159) → ByteArray → Int → Option (Int)
 | 0, _, _, _ => none
 | k + 1, x0, x1, x5 => if x5 > 0 then (if 0 ≤ x5 then (if x5 < (x0.length : Int) then ((stylusref04_in.f k ((rd_T159 x0 x5).f0) x1).bind fun t127 => (if t127 = true then (some x5) else (stylusref04_last.l0 k x0 x1 (wrap64 (x5 - 1))))) else (none)) else (none)) else (some (-1))
def stylusref04_last.f (k : Nat) (l0 : List (S159)) (a1 : ByteArray) : Option (Int) := stylusref04_last.l0 k l0 a1 (wrap64 ((l0.length : Int) - 1))
theorem stylusref04_last.mono_l : ∀ k, (∀ y0 y1 y2, LeO (stylusref04_last.l0 k y0 y1 y2) (stylusref04_last.l0 (k + 1) y0 y1 y2))
 | 0 => fun _ _ _ r h => by simp [stylusref04_last.l0] at h
 | k + 1 => by
  have ih0 := stylusref04_last.mono_l k
  ·intro y0 y1 y2
   unfold stylusref04_last.l0
   repeat' first
   | (with_reducible exact ih0 _ _ _)
   | (with_reducible exact stylusref04_in.mono _ _ _)
   | (with_reducible exact LeO.refl _)
   | (with_reducible exact LeO.none _)
   | (with_reducible refine LeO.ite ?_ ?_)
   | (with_reducible refine LeO.bind ?_ (fun _ => ?_))
   | exact ih0 _ _ _
   | exact stylusref04_in.mono _ _ _
   | exact LeO.none _
   | refine LeO.ite ?_ ?_
   | refine LeO.bind ?_ (fun _ => ?_)
theorem stylusref04_last.mono : ∀ a0 a1 k, LeO (stylusref04_last.f k a0 a1) (stylusref04_last.f (k + 1) a0 a1) := by
 intro a0 a1 k
 have ih0 := stylusref04_last.mono_l k
 unfold stylusref04_last.f
 repeat' first
   | (with_reducible exact ih0 _ _ _)
   | (with_reducible exact stylusref04_in.mono _ _ _)
   | (with_reducible exact LeO.refl _)
   | (with_reducible exact LeO.none _)
   | (with_reducible refine LeO.ite ?_ ?_)
   | (with_reducible refine LeO.bind ?_ (fun _ => ?_))
   | exact ih0 _ _ _
   | exact stylusref04_in.mono _ _ _
   | exact LeO.none _
   | refine LeO.ite ?_ ?_
   | refine LeO.bind ?_ (fun _ => ?_)
set_option maxHeartbeats 8000000 in
set_option maxRecDepth 100000 in
theorem stylusref04_last.calls (k : Nat) (A0 : Option Addr) (c0 : Nat) (l0 : List (S159)) (a1 : ByteArray) (r : Int) (w : World) (hr0 : Kd.C k159 w A0 l0.length l0) (hc0 : l0.length ≤ c0) (h : stylusref04_last.f k l0 a1 = some r) :
  Calls Try.prog 137 #[.slice A0 l0.length c0, .string a1] w fun e w' => e = .returned (.int .i64 r) ∧ Drawn0 w w' := by
 have HR0 := Aside0.mk hr0
 have HC0 := Aside0.mk hc0
 clear hr0 hc0
 have H : (stylusref04_last.l0 k l0 a1 (wrap64 ((l0.length : Int) - 1))) = some r := h
 clear h
 have H' := Aside0.mk H
 clear H
 go_enter Try.func137, Try.ntmps137
 go_wp2
 go_loopg [5] k (fun kq v5 w' => ∃ (x5_1 : Int), v5 = .int .i64 x5_1 ∧ Aside0 (stylusref04_last.l0 kq l0 a1 x5_1 = some r) ∧ Aside0 (kq ≤ k) ∧ Drawn0 w w')
 case atStart => exact ⟨(wrap64 ((l0.length : Int) - 1)), (by first | rfl | (simp; done) | (simp [*]; done)), H', ⟨Nat.le_refl _⟩, by repeat (first | exact Drawn0.refl _ | apply Drawn0.step)⟩
 case round =>
  clear H'
  try clear c1
  try clear p2
  obtain ⟨x5_1, rfl, HA, HK1, ⟨m1, rfl⟩⟩ := hrel
  cases gk with
  | zero => exact absurd HA.out (by simp [stylusref04_last.l0])
  | succ k1 =>
   have H := HA.out
   clear HA
   simp only [stylusref04_last.l0] at H
   by_cases c3 : x5_1 > 0
   ·rw [if_pos c3] at H
    have c3b0 : decide (0 < x5_1) = true := decide_eq_true c3
    clear c3
    by_cases c4 : 0 ≤ x5_1
    ·rw [if_pos c4] at H
     have c4b0 : decide (0 ≤ x5_1) = true := decide_eq_true c4
     clear c4
     by_cases c5 : x5_1 < (l0.length : Int)
     ·rw [if_pos c5] at H
      have c5b0 : decide (x5_1 < (l0.length : Int)) = true := decide_eq_true c5
      clear c5
      replace H := Option.bind_eq_some_iff.mp H
      obtain ⟨t127, A60, H⟩ := H
      replace H : (if t127 = true then (some x5_1) else (stylusref04_last.l0 k1 l0 a1 (wrap64 (x5_1 - 1)))) = some r := H
      have A6 := Aside0.mk A60
      clear A60
      by_cases c7 : t127 = true
      ·subst c7
       have H1 : (some x5_1) = some r := by rw [if_pos rfl] at H; exact H
       clear H
       have H := H1
       clear H1
       obtain rfl := Option.some.inj H
       have p126 : 0 ≤ (x5_1 : Int) := of_decide_eq_true (by first | (with_reducible assumption) | assumption)
       have q126 : x5_1 < (l0.length : Int) := of_decide_eq_true (by first | (with_reducible assumption) | assumption)
       obtain ⟨ad126, e126, hx126_0, hx126_1, hx126_2, hx126_3, hx126_4, hx126_5⟩ := at_T159 HR0.out x5_1 p126 q126
       cases e126
       replace p126 := eq_true p126
       replace q126 := eq_true q126
       go_wp2_with (first | ((with_reducible refine gate_callee (f := 140) rfl ?_); refine goesL_ (some 19) rfl rfl Try.func140 (by kernel_rfl) rfl #[.int .u8 ((rd_T159 l0 x5_1).f0), .string a1] rfl (by (try simp only [List.map_toArray, List.map_cons, List.map_nil]); first | done | rfl | (simp only [List.length_drop, List.length_take]; rfl)) ?_; (with_reducible refine (stylusref04_in.calls k1 ((rd_T159 l0 x5_1).f0) a1 true _ A6.out).mono ?_); rintro e w' ⟨rfl, ⟨nd, rfl⟩⟩; refine ⟨_, rfl, ?_⟩))
       go_ret
       exact ⟨by first | rfl | (simp; done) | (simp [*]; done), by repeat (first | exact Drawn0.refl _ | apply Drawn0.step)⟩
      ·replace c7 := Bool.eq_false_iff.mpr c7
       subst c7
       have H1 : (stylusref04_last.l0 k1 l0 a1 (wrap64 (x5_1 - 1))) = some r := by rw [if_neg (show ¬ (false = true) by decide)] at H; exact H
       clear H
       have H := H1
       clear H1
       have H' := Aside0.mk H
       clear H
       have p126 : 0 ≤ (x5_1 : Int) := of_decide_eq_true (by first | (with_reducible assumption) | assumption)
       have q126 : x5_1 < (l0.length : Int) := of_decide_eq_true (by first | (with_reducible assumption) | assumption)
       obtain ⟨ad126, e126, hx126_0, hx126_1, hx126_2, hx126_3, hx126_4, hx126_5⟩ := at_T159 HR0.out x5_1 p126 q126
       cases e126
       replace p126 := eq_true p126
       replace q126 := eq_true q126
       go_wp2_with (first | ((with_reducible refine gate_callee (f := 140) rfl ?_); refine goesL_ (some 19) rfl rfl Try.func140 (by kernel_rfl) rfl #[.int .u8 ((rd_T159 l0 x5_1).f0), .string a1] rfl (by (try simp only [List.map_toArray, List.map_cons, List.map_nil]); first | done | rfl | (simp only [List.length_drop, List.length_take]; rfl)) ?_; (with_reducible refine (stylusref04_in.calls k1 ((rd_T159 l0 x5_1).f0) a1 false _ A6.out).mono ?_); rintro e w' ⟨rfl, ⟨nd, rfl⟩⟩; refine ⟨_, rfl, ?_⟩))
       go_roundg k1
       case measure => have := HK1.out; omega
       case rel => exact ⟨(wrap64 (x5_1 - 1)), (by first | rfl | (simp; done) | (simp [*]; done)), H', ⟨by have := HK1.out; omega⟩, by repeat (first | exact Drawn0.refl _ | apply Drawn0.step)⟩
     ·rw [if_neg c5] at H
      exact absurd H (by simp)
    ·rw [if_neg c4] at H
     exact absurd H (by simp)
   ·rw [if_neg c3] at H
    have c3b0 : decide (0 < x5_1) = false := decide_eq_false c3
    clear c3
    obtain rfl := Option.some.inj H
    go_wp2
    go_ret
    exact ⟨by first | rfl | (simp; done) | (simp [*]; done), by repeat (first | exact Drawn0.refl _ | apply Drawn0.step)⟩
def stylusref04_many.l0 : Nat → List (S159) → Int → Int → Int → Option (Int)
 | 0, _, _, _, _ => none
 | k + 1, x0, x1, x5, x6 => if x6 < (x0.length : Int) then (if 0 ≤ x6 then (if ((rd_T159 x0 x6).f0) = x1 then (stylusref04_many.l0 k x0 x1 (wrap64 (x5 + 1)) (wrap64 (x6 + 1))) else (stylusref04_many.l0 k x0 x1 x5 (wrap64 (x6 + 1)))) else (none)) else (some x5)
def stylusref04_many.f (k : Nat) (l0 : List (S159)) (a1 : Int) : Option (Int) := stylusref04_many.l0 k l0 a1 0 1
theorem stylusref04_many.mono_l : ∀ k, (∀ y0 y1 y2 y3, LeO (stylusref04_many.l0 k y0 y1 y2 y3) (stylusref04_many.l0 (k + 1) y0 y1 y2 y3))
 | 0 => fun _ _ _ _ r h => by simp [stylusref04_many.l0] at h
 | k + 1 => by
  have ih0 := stylusref04_many.mono_l k
  ·intro y0 y1 y2 y3
   unfold stylusref04_many.l0
   repeat' first
   | (with_reducible exact ih0 _ _ _ _)
   | (with_reducible exact LeO.refl _)
   | (with_reducible exact LeO.none _)
   | (with_reducible refine LeO.ite ?_ ?_)
   | (with_reducible refine LeO.bind ?_ (fun _ => ?_))
   | exact ih0 _ _ _ _
   | exact LeO.none _
   | refine LeO.ite ?_ ?_
   | refine LeO.bind ?_ (fun _ => ?_)
theorem stylusref04_many.mono : ∀ a0 a1 k, LeO (stylusref04_many.f k a0 a1) (stylusref04_many.f (k + 1) a0 a1) := by
 intro a0 a1 k
 have ih0 := stylusref04_many.mono_l k
 unfold stylusref04_many.f
 repeat' first
   | (with_reducible exact ih0 _ _ _ _)
   | (with_reducible exact LeO.refl _)
   | (with_reducible exact LeO.none _)
   | (with_reducible refine LeO.ite ?_ ?_)
   | (with_reducible refine LeO.bind ?_ (fun _ => ?_))
   | exact ih0 _ _ _ _
   | exact LeO.none _
   | refine LeO.ite ?_ ?_
   | refine LeO.bind ?_ (fun _ => ?_)
set_option maxHeartbeats 8000000 in
set_option maxRecDepth 100000 in
theorem stylusref04_many.calls (k : Nat) (A0 : Option Addr) (c0 : Nat) (l0 : List (S159)) (a1 : Int) (r : Int) (w : World) (hr0 : Kd.C k159 w A0 l0.length l0) (hc0 : l0.length ≤ c0) (h : stylusref04_many.f k l0 a1 = some r) :
  Calls Try.prog 139 #[.slice A0 l0.length c0, .int .u8 a1] w fun e w' => e = .returned (.int .i64 r) ∧ Drawn0 w w' := by
 have HR0 := Aside0.mk hr0
 have HC0 := Aside0.mk hc0
 clear hr0 hc0
 have H : (stylusref04_many.l0 k l0 a1 0 1) = some r := h
 clear h
 have H' := Aside0.mk H
 clear H
 go_enter Try.func139, Try.ntmps139
 go_wp2
 go_loopg [5, 6] k (fun kq v5 v6 w' => ∃ (x5_1 : Int) (x6_1 : Int), v5 = .int .i64 x5_1 ∧ v6 = .int .i64 x6_1 ∧ Aside0 (stylusref04_many.l0 kq l0 a1 x5_1 x6_1 = some r) ∧ Aside0 (kq ≤ k) ∧ Drawn0 w w')
 case atStart => exact ⟨(0), (1), (by first | rfl | (simp; done) | (simp [*]; done)), (by first | rfl | (simp; done) | (simp [*]; done)), H', ⟨Nat.le_refl _⟩, by repeat (first | exact Drawn0.refl _ | apply Drawn0.step)⟩
 case round =>
  clear H'
  try clear c1
  try clear p2
  obtain ⟨x5_1, x6_1, rfl, rfl, HA, HK1, ⟨m1, rfl⟩⟩ := hrel
  cases gk with
  | zero => exact absurd HA.out (by simp [stylusref04_many.l0])
  | succ k1 =>
   have H := HA.out
   clear HA
   simp only [stylusref04_many.l0] at H
   by_cases c3 : x6_1 < (l0.length : Int)
   ·rw [if_pos c3] at H
    have c3b0 : decide (x6_1 < (l0.length : Int)) = true := decide_eq_true c3
    clear c3
    by_cases c4 : 0 ≤ x6_1
    ·rw [if_pos c4] at H
     have c4b0 : decide (0 ≤ x6_1) = true := decide_eq_true c4
     clear c4
     by_cases c5 : ((rd_T159 l0 x6_1).f0) = a1
     ·rw [if_pos c5] at H
      have c5b0 : (((rd_T159 l0 x6_1).f0) == a1) = true := beq_iff_eq.mpr c5
      have c5b1 : (((rd_T159 l0 x6_1).f0) != a1) = false := bne_eq_false_iff_eq.mpr c5
      clear c5
      have H' := Aside0.mk H
      clear H
      have p189 : 0 ≤ (x6_1 : Int) := of_decide_eq_true (by first | (with_reducible assumption) | assumption)
      have q189 : x6_1 < (l0.length : Int) := of_decide_eq_true (by first | (with_reducible assumption) | assumption)
      obtain ⟨ad189, e189, hx189_0, hx189_1, hx189_2, hx189_3, hx189_4, hx189_5⟩ := at_T159 HR0.out x6_1 p189 q189
      cases e189
      replace p189 := eq_true p189
      replace q189 := eq_true q189
      go_wp2
      go_roundg k1
      case measure => have := HK1.out; omega
      case rel => exact ⟨(wrap64 (x5_1 + 1)), (wrap64 (x6_1 + 1)), (by first | rfl | (simp; done) | (simp [*]; done)), (by first | rfl | (simp; done) | (simp [*]; done)), H', ⟨by have := HK1.out; omega⟩, by repeat (first | exact Drawn0.refl _ | apply Drawn0.step)⟩
     ·rw [if_neg c5] at H
      have c5b0 : (((rd_T159 l0 x6_1).f0) == a1) = false := beq_eq_false_iff_ne.mpr c5
      have c5b1 : (((rd_T159 l0 x6_1).f0) != a1) = true := bne_iff_ne.mpr c5
      have H' := Aside0.mk H
      clear H
      have p189 : 0 ≤ (x6_1 : Int) := of_decide_eq_true (by first | (with_reducible assumption) | assumption)
      have q189 : x6_1 < (l0.length : Int) := of_decide_eq_true (by first | (with_reducible assumption) | assumption)
      obtain ⟨ad189, e189, hx189_0, hx189_1, hx189_2, hx189_3, hx189_4, hx189_5⟩ := at_T159 HR0.out x6_1 p189 q189
      cases e189
      replace p189 := eq_true p189
      replace q189 := eq_true q189
      go_wp2
      go_roundg k1
      case measure => have := HK1.out; omega
      case rel => exact ⟨(x5_1), (wrap64 (x6_1 + 1)), (by first | rfl | (simp; done) | (simp [*]; done)), (by first | rfl | (simp; done) | (simp [*]; done)), H', ⟨by have := HK1.out; omega⟩, by repeat (first | exact Drawn0.refl _ | apply Drawn0.step)⟩
    ·rw [if_neg c4] at H
     exact absurd H (by simp)
   ·rw [if_neg c3] at H
    have c3b0 : decide (x6_1 < (l0.length : Int)) = false := decide_eq_false c3
    clear c3
    obtain rfl := Option.some.inj H
    go_wp2
    go_ret
    exact ⟨by first | rfl | (simp; done) | (simp [*]; done), by repeat (first | exact Drawn0.refl _ | apply Drawn0.step)⟩
end Go.Proofs.Ythcmfjpheanphaa.Pr
