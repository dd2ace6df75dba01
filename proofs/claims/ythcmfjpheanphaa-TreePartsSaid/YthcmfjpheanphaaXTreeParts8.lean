/- Texts of this seat, one behind the other. -/
import Derived.Deep.Slices
import Derived.Deep.Fields
import Derived.ChangeSame
import Derived.SizedLaws
import Derived.ChangeSlices
import Derived.Test.YthcmfjpheanphaaXTreeParts1
import Derived.Test.YthcmfjpheanphaaXTreeParts2
import Derived.Test.YthcmfjpheanphaaXTreeParts3
import Derived.Test.YthcmfjpheanphaaXTreeParts4
import Derived.Test.YthcmfjpheanphaaXTreeParts5
import Derived.Test.YthcmfjpheanphaaXTreeParts6
import Derived.Test.YthcmfjpheanphaaXTreeParts7
set_option linter.unusedVariables false
set_option linter.unusedSimpArgs false
namespace Go.Proofs.Ythcmfjpheanphaa.Pr
open Go.RowKit Go.Proofs.YthcmfjpheanphaaW.PrintWords Go.Proofs.YthcmfjpheanphaaW.PrintLast Go.Proofs.YthcmfjpheanphaaW.PrintMore
attribute [local go_sem] max2_int min2_int max_two min_two max_three min_three max_four min_four
mutual
def tree_sized.l0 : Nat → List (S56) → Int → Int → Option (Bool)
 | 0, _, _, _ => none
 | k + 1, x0, x1, x2 => if x1 < x2 then (if 0 ≤ x1 then (if x1 < (x0.length : Int) then (if ((rd_T56 x0 x1).f3) < 1 then (some false) else (if ((rd_T56 x0 x1).f3) > (wrap64 (x2 - x1)) then (some false) else ((tree_sized.f k x0 (wrap64 (x1 + 1)) (wrap64 (x1 + ((rd_T56 x0 x1).f3)))).bind fun t233 => (if t233 = true then (tree_sized.l0 k x0 (wrap64 (x1 + ((rd_T56 x0 x1).f3))) x2) else (some false))))) else (none)) else (none)) else (some true)
def tree_sized.f : Nat → List (S56) → Int → Int → Option (Bool)
 | 0, _, _, _ => none
 | k + 1, l0, a1, a2 => tree_sized.l0 k l0 a1 a2
end
theorem tree_sized.mono_l : ∀ k, (∀ y0 y1 y2, LeO (tree_sized.f k y0 y1 y2) (tree_sized.f (k + 1) y0 y1 y2)) ∧ (∀ y0 y1 y2, LeO (tree_sized.l0 k y0 y1 y2) (tree_sized.l0 (k + 1) y0 y1 y2))
 | 0 => ⟨fun _ _ _ r h => by simp [tree_sized.f] at h, fun _ _ _ r h => by simp [tree_sized.l0] at h⟩
 | k + 1 => by
  obtain ⟨ih0, ih1⟩ := tree_sized.mono_l k
  refine ⟨?_, ?_⟩
  ·intro y0 y1 y2
   unfold tree_sized.f
   repeat' first
   | (with_reducible exact ih0 _ _ _)
   | (with_reducible exact ih1 _ _ _)
   | (with_reducible exact LeO.refl _)
   | (with_reducible exact LeO.none _)
   | (with_reducible refine LeO.ite ?_ ?_)
   | (with_reducible refine LeO.bind ?_ (fun _ => ?_))
   | exact ih0 _ _ _
   | exact ih1 _ _ _
   | exact LeO.none _
   | refine LeO.ite ?_ ?_
   | refine LeO.bind ?_ (fun _ => ?_)
  ·intro y0 y1 y2
   unfold tree_sized.l0
   repeat' first
   | (with_reducible exact ih0 _ _ _)
   | (with_reducible exact ih1 _ _ _)
   | (with_reducible exact LeO.refl _)
   | (with_reducible exact LeO.none _)
   | (with_reducible refine LeO.ite ?_ ?_)
   | (with_reducible refine LeO.bind ?_ (fun _ => ?_))
   | exact ih0 _ _ _
   | exact ih1 _ _ _
   | exact LeO.none _
   | refine LeO.ite ?_ ?_
   | refine LeO.bind ?_ (fun _ => ?_)
theorem tree_sized.mono : ∀ a0 a1 a2 k, LeO (tree_sized.f k a0 a1 a2) (tree_sized.f (k + 1) a0 a1 a2) := by
 intro a0 a1 a2 k
 obtain ⟨ih0, ih1⟩ := tree_sized.mono_l k
 exact ih0 a0 a1 a2
set_option maxHeartbeats 8000000 in
set_option maxRecDepth 100000 in
theorem tree_sized.calls (k : Nat) : ∀ (A0 : Option Addr) (c0 : Nat) (l0 : List (S56)) (a1 : Int) (a2 : Int) (r : Bool) (w : World) (hr0 : Kd.C k56 w A0 l0.length l0) (hc0 : l0.length ≤ c0) (h : tree_sized.f k l0 a1 a2 = some r),
  Calls Try.prog 102 #[.slice A0 l0.length c0, .int .i64 a1, .int .i64 a2] w fun e w' => e = .returned (.bool r) ∧ Below w.heap.size w w' := by
 induction k using Nat.strongRecOn with
 | _ k ih =>
 intro A0 c0 l0 a1 a2 r w hr0 hc0 h
 cases k with
 | zero => exact absurd h (by simp [tree_sized.f])
 | succ k =>
 simp only [tree_sized.f] at h
 have hu56 := Try.underlying56
 have HR0 := Aside0.mk hr0
 have HC0 := Aside0.mk hc0
 clear hr0 hc0
 have HB := Aside0.mk (Below.refl w.heap.size w)
 have H : (tree_sized.l0 k l0 a1 a2) = some r := h
 clear h
 have H' := Aside0.mk H
 clear H
 go_enter Try.func102, Try.ntmps102
 go_wp2
 go_loopg [1] k (fun kq v1 w' => ∃ (x1_1 : Int), v1 = .int .i64 x1_1 ∧ Aside0 (tree_sized.l0 kq l0 x1_1 a2 = some r) ∧ Aside0 (kq ≤ k) ∧ Aside0 (Below w.heap.size w w'))
 case atStart => exact ⟨(a1), (by first | rfl | (simp; done) | (simp [*]; done)), H', ⟨Nat.le_refl _⟩, ⟨by repeat (first | (with_reducible first | exact HB.out | apply below_alloc | apply pw_below_drewN | apply below_drew1) | exact HB.out)⟩⟩
 case round =>
  clear H'
  try clear c1
  try clear p2
  obtain ⟨x1_1, rfl, HA, HK1, HB⟩ := hrel
  cases gk with
  | zero => exact absurd HA.out (by simp [tree_sized.l0])
  | succ k1 =>
   have H := HA.out
   clear HA
   simp only [tree_sized.l0] at H
   by_cases c4 : x1_1 < a2
   ·rw [if_pos c4] at H
    have c4b0 : decide (x1_1 < a2) = true := decide_eq_true c4
    clear c4
    by_cases c5 : 0 ≤ x1_1
    ·rw [if_pos c5] at H
     have c5b0 : decide (0 ≤ x1_1) = true := decide_eq_true c5
     clear c5
     by_cases c6 : x1_1 < (l0.length : Int)
     ·rw [if_pos c6] at H
      have c6b0 : decide (x1_1 < (l0.length : Int)) = true := decide_eq_true c6
      clear c6
      by_cases c7 : ((rd_T56 l0 x1_1).f3) < 1
      ·rw [if_pos c7] at H
       have c7b0 : decide (((rd_T56 l0 x1_1).f3) < 1) = true := decide_eq_true c7
       clear c7
       obtain rfl := Option.some.inj H
       have p231 : 0 ≤ (x1_1 : Int) := of_decide_eq_true (by first | (with_reducible assumption) | assumption)
       have q231 : x1_1 < (l0.length : Int) := of_decide_eq_true (by first | (with_reducible assumption) | assumption)
       obtain ⟨ad231, e231, hx231_0, hx231_1, hx231_2, hx231_3⟩ := at_T56 HR0.out x1_1 p231 q231
       cases e231
       replace hx231_0 := (HB.out.cell (World.block_lt_of_cell? w _ hx231_0)).trans hx231_0
       replace hx231_1 := (HB.out.cell (World.block_lt_of_cell? w _ hx231_1)).trans hx231_1
       replace hx231_2 := (HB.out.cell (World.block_lt_of_cell? w _ hx231_2)).trans hx231_2
       replace hx231_3 := (HB.out.cell (World.block_lt_of_cell? w _ hx231_3)).trans hx231_3
       replace p231 := eq_true p231
       replace q231 := eq_true q231
       go_wp2_with (first | ((with_reducible refine gate_dst (N := 7) rfl ?_); refine box_event ?hg (N := 7) ?hd (cs := #[.int .u8 0, .string (⟨#[]⟩ : ByteArray), .int .i64 0, .int .i64 0]) (t := 56) ?hr ?_; (case hd => rfl); (case hg => rfl); (case hr => first | (go_simp; done) | (go_simp; rfl)); intro gb232 hg w8 hbox hb; have n0_ := Aside0.mk (below_step (by repeat (first | (with_reducible first | exact HB.out | apply below_alloc | apply pw_below_drewN | apply below_drew1) | exact HB.out)) hb); have n1_ := Aside0.mk (hbox); have n2_ := Aside0.mk ((by rw [hg]; exact (below_size (by repeat (first | (with_reducible first | exact HB.out | apply below_alloc | apply pw_below_drewN | apply below_drew1) | exact HB.out))) : w.heap.size ≤ gb232)); have n3_ := Aside0.mk ((by rw [hg]; exact (below_size (by repeat (first | (with_reducible first | exact HB.out | apply below_alloc | apply pw_below_drewN | apply below_drew1) | exact HB.out))) : w.heap.size ≤ gb232)); clear HB; have HB := n0_; have BK232 := n1_; have GW232 := n2_; have GE232 := n3_; clear n0_ n1_ n2_ n3_; clear hb hbox hg; have hcz9_0 : w8.cell? ⟨gb232, 0, none⟩ = some (.int .u8 0) := (blk_cell BK232.out 0).trans rfl; have hcz9_1 : w8.cell? ⟨gb232, 1, none⟩ = some (.string (⟨#[]⟩ : ByteArray)) := (blk_cell BK232.out 1).trans rfl; have hcz9_2 : w8.cell? ⟨gb232, 2, none⟩ = some (.int .i64 0) := (blk_cell BK232.out 2).trans rfl; have hcz9_3 : w8.cell? ⟨gb232, 3, none⟩ = some (.int .i64 0) := (blk_cell BK232.out 3).trans rfl; have hfz9_0 := blk_frozen BK232.out 0; have hfz9_1 := blk_frozen BK232.out 1; have hfz9_2 := blk_frozen BK232.out 2; have hfz9_3 := blk_frozen BK232.out 3))
       go_ret
       exact ⟨by first | rfl | (simp [errW_none, errW_some] <;> rfl) | (simp [*, errW_none, errW_some] <;> rfl), by repeat (first | (with_reducible first | exact HB.out | apply below_alloc | apply pw_below_drewN | apply below_drew1 | refine below_set ?_ GE232.out) | exact HB.out)⟩
      ·rw [if_neg c7] at H
       have c7b0 : decide (((rd_T56 l0 x1_1).f3) < 1) = false := decide_eq_false c7
       clear c7
       by_cases c10 : ((rd_T56 l0 x1_1).f3) > (wrap64 (a2 - x1_1))
       ·rw [if_pos c10] at H
        have c10b0 : decide ((wrap64 (a2 - x1_1)) < ((rd_T56 l0 x1_1).f3)) = true := decide_eq_true c10
        clear c10
        obtain rfl := Option.some.inj H
        have p231 : 0 ≤ (x1_1 : Int) := of_decide_eq_true (by first | (with_reducible assumption) | assumption)
        have q231 : x1_1 < (l0.length : Int) := of_decide_eq_true (by first | (with_reducible assumption) | assumption)
        obtain ⟨ad231, e231, hx231_0, hx231_1, hx231_2, hx231_3⟩ := at_T56 HR0.out x1_1 p231 q231
        cases e231
        replace hx231_0 := (HB.out.cell (World.block_lt_of_cell? w _ hx231_0)).trans hx231_0
        replace hx231_1 := (HB.out.cell (World.block_lt_of_cell? w _ hx231_1)).trans hx231_1
        replace hx231_2 := (HB.out.cell (World.block_lt_of_cell? w _ hx231_2)).trans hx231_2
        replace hx231_3 := (HB.out.cell (World.block_lt_of_cell? w _ hx231_3)).trans hx231_3
        replace p231 := eq_true p231
        replace q231 := eq_true q231
        go_wp2_with (first | ((with_reducible refine gate_dst (N := 7) rfl ?_); refine box_event ?hg (N := 7) ?hd (cs := #[.int .u8 0, .string (⟨#[]⟩ : ByteArray), .int .i64 0, .int .i64 0]) (t := 56) ?hr ?_; (case hd => rfl); (case hg => rfl); (case hr => first | (go_simp; done) | (go_simp; rfl)); intro gb232 hg w11 hbox hb; have n0_ := Aside0.mk (below_step (by repeat (first | (with_reducible first | exact HB.out | apply below_alloc | apply pw_below_drewN | apply below_drew1) | exact HB.out)) hb); have n1_ := Aside0.mk (hbox); have n2_ := Aside0.mk ((by rw [hg]; exact (below_size (by repeat (first | (with_reducible first | exact HB.out | apply below_alloc | apply pw_below_drewN | apply below_drew1) | exact HB.out))) : w.heap.size ≤ gb232)); have n3_ := Aside0.mk ((by rw [hg]; exact (below_size (by repeat (first | (with_reducible first | exact HB.out | apply below_alloc | apply pw_below_drewN | apply below_drew1) | exact HB.out))) : w.heap.size ≤ gb232)); clear HB; have HB := n0_; have BK232 := n1_; have GW232 := n2_; have GE232 := n3_; clear n0_ n1_ n2_ n3_; clear hb hbox hg; have hcz12_0 : w11.cell? ⟨gb232, 0, none⟩ = some (.int .u8 0) := (blk_cell BK232.out 0).trans rfl; have hcz12_1 : w11.cell? ⟨gb232, 1, none⟩ = some (.string (⟨#[]⟩ : ByteArray)) := (blk_cell BK232.out 1).trans rfl; have hcz12_2 : w11.cell? ⟨gb232, 2, none⟩ = some (.int .i64 0) := (blk_cell BK232.out 2).trans rfl; have hcz12_3 : w11.cell? ⟨gb232, 3, none⟩ = some (.int .i64 0) := (blk_cell BK232.out 3).trans rfl; have hfz12_0 := blk_frozen BK232.out 0; have hfz12_1 := blk_frozen BK232.out 1; have hfz12_2 := blk_frozen BK232.out 2; have hfz12_3 := blk_frozen BK232.out 3))
        go_ret
        exact ⟨by first | rfl | (simp [errW_none, errW_some] <;> rfl) | (simp [*, errW_none, errW_some] <;> rfl), by repeat (first | (with_reducible first | exact HB.out | apply below_alloc | apply pw_below_drewN | apply below_drew1 | refine below_set ?_ GE232.out) | exact HB.out)⟩
       ·rw [if_neg c10] at H
        have c10b0 : decide ((wrap64 (a2 - x1_1)) < ((rd_T56 l0 x1_1).f3)) = false := decide_eq_false c10
        clear c10
        replace H := Option.bind_eq_some_iff.mp H
        obtain ⟨t233, A130, H⟩ := H
        replace H : (if t233 = true then (tree_sized.l0 k1 l0 (wrap64 (x1_1 + ((rd_T56 l0 x1_1).f3))) a2) else (some false)) = some r := H
        have A13 := Aside0.mk A130
        clear A130
        by_cases c14 : t233 = true
        ·subst c14
         have H1 : (tree_sized.l0 k1 l0 (wrap64 (x1_1 + ((rd_T56 l0 x1_1).f3))) a2) = some r := by rw [if_pos rfl] at H; exact H
         clear H
         have H := H1
         clear H1
         have H' := Aside0.mk H
         clear H
         have p231 : 0 ≤ (x1_1 : Int) := of_decide_eq_true (by first | (with_reducible assumption) | assumption)
         have q231 : x1_1 < (l0.length : Int) := of_decide_eq_true (by first | (with_reducible assumption) | assumption)
         obtain ⟨ad231, e231, hx231_0, hx231_1, hx231_2, hx231_3⟩ := at_T56 HR0.out x1_1 p231 q231
         cases e231
         replace hx231_0 := (HB.out.cell (World.block_lt_of_cell? w _ hx231_0)).trans hx231_0
         replace hx231_1 := (HB.out.cell (World.block_lt_of_cell? w _ hx231_1)).trans hx231_1
         replace hx231_2 := (HB.out.cell (World.block_lt_of_cell? w _ hx231_2)).trans hx231_2
         replace hx231_3 := (HB.out.cell (World.block_lt_of_cell? w _ hx231_3)).trans hx231_3
         replace p231 := eq_true p231
         replace q231 := eq_true q231
         go_wp2_with (first | ((with_reducible refine gate_dst (N := 7) rfl ?_); refine box_event ?hg (N := 7) ?hd (cs := #[.int .u8 0, .string (⟨#[]⟩ : ByteArray), .int .i64 0, .int .i64 0]) (t := 56) ?hr ?_; (case hd => rfl); (case hg => rfl); (case hr => first | (go_simp; done) | (go_simp; rfl)); intro gb232 hg w15 hbox hb; have n0_ := Aside0.mk (below_step (by repeat (first | (with_reducible first | exact HB.out | apply below_alloc | apply pw_below_drewN | apply below_drew1) | exact HB.out)) hb); have n1_ := Aside0.mk (hbox); have n2_ := Aside0.mk ((by rw [hg]; exact (below_size (by repeat (first | (with_reducible first | exact HB.out | apply below_alloc | apply pw_below_drewN | apply below_drew1) | exact HB.out))) : w.heap.size ≤ gb232)); have n3_ := Aside0.mk ((by rw [hg]; exact (below_size (by repeat (first | (with_reducible first | exact HB.out | apply below_alloc | apply pw_below_drewN | apply below_drew1) | exact HB.out))) : w.heap.size ≤ gb232)); clear HB; have HB := n0_; have BK232 := n1_; have GW232 := n2_; have GE232 := n3_; clear n0_ n1_ n2_ n3_; clear hb hbox hg; have hcz16_0 : w15.cell? ⟨gb232, 0, none⟩ = some (.int .u8 0) := (blk_cell BK232.out 0).trans rfl; have hcz16_1 : w15.cell? ⟨gb232, 1, none⟩ = some (.string (⟨#[]⟩ : ByteArray)) := (blk_cell BK232.out 1).trans rfl; have hcz16_2 : w15.cell? ⟨gb232, 2, none⟩ = some (.int .i64 0) := (blk_cell BK232.out 2).trans rfl; have hcz16_3 : w15.cell? ⟨gb232, 3, none⟩ = some (.int .i64 0) := (blk_cell BK232.out 3).trans rfl; have hfz16_0 := blk_frozen BK232.out 0; have hfz16_1 := blk_frozen BK232.out 1; have hfz16_2 := blk_frozen BK232.out 2; have hfz16_3 := blk_frozen BK232.out 3) | (go_at_call 102; (with_reducible refine (ih k1 (by have := HK1.out; omega) _ _ l0 (wrap64 (x1_1 + 1)) (wrap64 (x1_1 + ((rd_T56 l0 x1_1).f3))) true _ ?side1 ?side2 A13.out).mono ?_); (case side1 => exact Kd.C_below HR0.out (by repeat (first | (with_reducible first | exact HB.out | apply below_alloc | apply pw_below_drewN | apply below_drew1 | refine below_set ?_ GE232.out) | exact HB.out))); (case side2 => exact HC0.out); rintro e w17 ⟨rfl, hb⟩; have n0_ := Aside0.mk (blk_below (g := gb232) (o := .cells #[.int .u8 ((rd_T56 l0 x1_1).f0), .string ((rd_T56 l0 x1_1).f1), .int .i64 ((rd_T56 l0 x1_1).f2), .int .i64 ((rd_T56 l0 x1_1).f3)] 56 (0, 0)) (by (with_reducible repeat (first | refine blk_drewN ?_ _ | refine blk_drew ?_ | refine blk_alloc ?_ _)); refine blk_put (cs := #[.int .u8 ((rd_T56 l0 x1_1).f0), .string ((rd_T56 l0 x1_1).f1), .int .i64 ((rd_T56 l0 x1_1).f2), .int .i64 0]) ?_ 3 _ rfl; (with_reducible repeat (first | refine blk_drewN ?_ _ | refine blk_drew ?_ | refine blk_alloc ?_ _)); refine blk_put (cs := #[.int .u8 ((rd_T56 l0 x1_1).f0), .string ((rd_T56 l0 x1_1).f1), .int .i64 0, .int .i64 0]) ?_ 2 _ rfl; (with_reducible repeat (first | refine blk_drewN ?_ _ | refine blk_drew ?_ | refine blk_alloc ?_ _)); refine blk_put (cs := #[.int .u8 ((rd_T56 l0 x1_1).f0), .string (⟨#[]⟩ : ByteArray), .int .i64 0, .int .i64 0]) ?_ 1 _ rfl; (with_reducible repeat (first | refine blk_drewN ?_ _ | refine blk_drew ?_ | refine blk_alloc ?_ _)); refine blk_put (cs := #[.int .u8 0, .string (⟨#[]⟩ : ByteArray), .int .i64 0, .int .i64 0]) ?_ 0 _ rfl; (with_reducible repeat (first | refine blk_drewN ?_ _ | refine blk_drew ?_ | refine blk_alloc ?_ _)); exact BK232.out) hb); have n1_ := Aside0.mk (below_step (by repeat (first | (with_reducible first | exact HB.out | apply below_alloc | apply pw_below_drewN | apply below_drew1 | refine below_set ?_ GE232.out) | exact HB.out)) hb); clear BK232; clear HB; have BK232 := n0_; have HB := n1_; clear n0_ n1_; (try clear hb); (try clear hb2); (try clear hk); (try clear hi); have hcz18_0 : w17.cell? ⟨gb232, 0, none⟩ = some (.int .u8 ((rd_T56 l0 x1_1).f0)) := (blk_cell BK232.out 0).trans rfl; have hcz18_1 : w17.cell? ⟨gb232, 1, none⟩ = some (.string ((rd_T56 l0 x1_1).f1)) := (blk_cell BK232.out 1).trans rfl; have hcz18_2 : w17.cell? ⟨gb232, 2, none⟩ = some (.int .i64 ((rd_T56 l0 x1_1).f2)) := (blk_cell BK232.out 2).trans rfl; have hcz18_3 : w17.cell? ⟨gb232, 3, none⟩ = some (.int .i64 ((rd_T56 l0 x1_1).f3)) := (blk_cell BK232.out 3).trans rfl; have hfz18_0 := blk_frozen BK232.out 0; have hfz18_1 := blk_frozen BK232.out 1; have hfz18_2 := blk_frozen BK232.out 2; have hfz18_3 := blk_frozen BK232.out 3))
         go_roundg k1
         case measure => have := HK1.out; omega
         case rel => exact ⟨(wrap64 (x1_1 + ((rd_T56 l0 x1_1).f3))), (by first | rfl | (simp; done) | (simp [*]; done)), H', ⟨by have := HK1.out; omega⟩, ⟨by repeat (first | (with_reducible first | exact HB.out | apply below_alloc | apply pw_below_drewN | apply below_drew1 | refine below_set ?_ GE232.out) | exact HB.out)⟩⟩
        ·replace c14 := Bool.eq_false_iff.mpr c14
         subst c14
         have H1 : (some false) = some r := by rw [if_neg (show ¬ (false = true) by decide)] at H; exact H
         clear H
         have H := H1
         clear H1
         obtain rfl := Option.some.inj H
         have p231 : 0 ≤ (x1_1 : Int) := of_decide_eq_true (by first | (with_reducible assumption) | assumption)
         have q231 : x1_1 < (l0.length : Int) := of_decide_eq_true (by first | (with_reducible assumption) | assumption)
         obtain ⟨ad231, e231, hx231_0, hx231_1, hx231_2, hx231_3⟩ := at_T56 HR0.out x1_1 p231 q231
         cases e231
         replace hx231_0 := (HB.out.cell (World.block_lt_of_cell? w _ hx231_0)).trans hx231_0
         replace hx231_1 := (HB.out.cell (World.block_lt_of_cell? w _ hx231_1)).trans hx231_1
         replace hx231_2 := (HB.out.cell (World.block_lt_of_cell? w _ hx231_2)).trans hx231_2
         replace hx231_3 := (HB.out.cell (World.block_lt_of_cell? w _ hx231_3)).trans hx231_3
         replace p231 := eq_true p231
         replace q231 := eq_true q231
         go_wp2_with (first | ((with_reducible refine gate_dst (N := 7) rfl ?_); refine box_event ?hg (N := 7) ?hd (cs := #[.int .u8 0, .string (⟨#[]⟩ : ByteArray), .int .i64 0, .int .i64 0]) (t := 56) ?hr ?_; (case hd => rfl); (case hg => rfl); (case hr => first | (go_simp; done) | (go_simp; rfl)); intro gb232 hg w19 hbox hb; have n0_ := Aside0.mk (below_step (by repeat (first | (with_reducible first | exact HB.out | apply below_alloc | apply pw_below_drewN | apply below_drew1) | exact HB.out)) hb); have n1_ := Aside0.mk (hbox); have n2_ := Aside0.mk ((by rw [hg]; exact (below_size (by repeat (first | (with_reducible first | exact HB.out | apply below_alloc | apply pw_below_drewN | apply below_drew1) | exact HB.out))) : w.heap.size ≤ gb232)); have n3_ := Aside0.mk ((by rw [hg]; exact (below_size (by repeat (first | (with_reducible first | exact HB.out | apply below_alloc | apply pw_below_drewN | apply below_drew1) | exact HB.out))) : w.heap.size ≤ gb232)); clear HB; have HB := n0_; have BK232 := n1_; have GW232 := n2_; have GE232 := n3_; clear n0_ n1_ n2_ n3_; clear hb hbox hg; have hcz20_0 : w19.cell? ⟨gb232, 0, none⟩ = some (.int .u8 0) := (blk_cell BK232.out 0).trans rfl; have hcz20_1 : w19.cell? ⟨gb232, 1, none⟩ = some (.string (⟨#[]⟩ : ByteArray)) := (blk_cell BK232.out 1).trans rfl; have hcz20_2 : w19.cell? ⟨gb232, 2, none⟩ = some (.int .i64 0) := (blk_cell BK232.out 2).trans rfl; have hcz20_3 : w19.cell? ⟨gb232, 3, none⟩ = some (.int .i64 0) := (blk_cell BK232.out 3).trans rfl; have hfz20_0 := blk_frozen BK232.out 0; have hfz20_1 := blk_frozen BK232.out 1; have hfz20_2 := blk_frozen BK232.out 2; have hfz20_3 := blk_frozen BK232.out 3) | (go_at_call 102; (with_reducible refine (ih k1 (by have := HK1.out; omega) _ _ l0 (wrap64 (x1_1 + 1)) (wrap64 (x1_1 + ((rd_T56 l0 x1_1).f3))) false _ ?side1 ?side2 A13.out).mono ?_); (case side1 => exact Kd.C_below HR0.out (by repeat (first | (with_reducible first | exact HB.out | apply below_alloc | apply pw_below_drewN | apply below_drew1 | refine below_set ?_ GE232.out) | exact HB.out))); (case side2 => exact HC0.out); rintro e w21 ⟨rfl, hb⟩; have n0_ := Aside0.mk (blk_below (g := gb232) (o := .cells #[.int .u8 ((rd_T56 l0 x1_1).f0), .string ((rd_T56 l0 x1_1).f1), .int .i64 ((rd_T56 l0 x1_1).f2), .int .i64 ((rd_T56 l0 x1_1).f3)] 56 (0, 0)) (by (with_reducible repeat (first | refine blk_drewN ?_ _ | refine blk_drew ?_ | refine blk_alloc ?_ _)); refine blk_put (cs := #[.int .u8 ((rd_T56 l0 x1_1).f0), .string ((rd_T56 l0 x1_1).f1), .int .i64 ((rd_T56 l0 x1_1).f2), .int .i64 0]) ?_ 3 _ rfl; (with_reducible repeat (first | refine blk_drewN ?_ _ | refine blk_drew ?_ | refine blk_alloc ?_ _)); refine blk_put (cs := #[.int .u8 ((rd_T56 l0 x1_1).f0), .string ((rd_T56 l0 x1_1).f1), .int .i64 0, .int .i64 0]) ?_ 2 _ rfl; (with_reducible repeat (first | refine blk_drewN ?_ _ | refine blk_drew ?_ | refine blk_alloc ?_ _)); refine blk_put (cs := #[.int .u8 ((rd_T56 l0 x1_1).f0), .string (⟨#[]⟩ : ByteArray), .int .i64 0, .int .i64 0]) ?_ 1 _ rfl; (with_reducible repeat (first | refine blk_drewN ?_ _ | refine blk_drew ?_ | refine blk_alloc ?_ _)); refine blk_put (cs := #[.int .u8 0, .string (⟨#[]⟩ : ByteArray), .int .i64 0, .int .i64 0]) ?_ 0 _ rfl; (with_reducible repeat (first | refine blk_drewN ?_ _ | refine blk_drew ?_ | refine blk_alloc ?_ _)); exact BK232.out) hb); have n1_ := Aside0.mk (below_step (by repeat (first | (with_reducible first | exact HB.out | apply below_alloc | apply pw_below_drewN | apply below_drew1 | refine below_set ?_ GE232.out) | exact HB.out)) hb); clear BK232; clear HB; have BK232 := n0_; have HB := n1_; clear n0_ n1_; (try clear hb); (try clear hb2); (try clear hk); (try clear hi)))
         go_ret
         exact ⟨by first | rfl | (simp [errW_none, errW_some] <;> rfl) | (simp [*, errW_none, errW_some] <;> rfl), by repeat (first | (with_reducible first | exact HB.out | apply below_alloc | apply pw_below_drewN | apply below_drew1 | refine below_set ?_ GE232.out) | exact HB.out)⟩
     ·rw [if_neg c6] at H
      exact absurd H (by simp)
    ·rw [if_neg c5] at H
     exact absurd H (by simp)
   ·rw [if_neg c4] at H
    have c4b0 : decide (x1_1 < a2) = false := decide_eq_false c4
    clear c4
    obtain rfl := Option.some.inj H
    go_wp2
    go_ret
    exact ⟨by first | rfl | (simp [errW_none, errW_some] <;> rfl) | (simp [*, errW_none, errW_some] <;> rfl), by repeat (first | (with_reducible first | exact HB.out | apply below_alloc | apply pw_below_drewN | apply below_drew1) | exact HB.out)⟩
end Go.Proofs.Ythcmfjpheanphaa.Pr
namespace Go.Proofs.Ythcmfjpheanphaa.Pr
open Go.RowKit Go.Maps Go.Proofs.YthcmfjpheanphaaW.PrintWords
attribute [local go_sem] Oper.semAt_some
def checkGo : Bld → Int → List S47 → Int
 | _, out, [] => out
 | s, out, x :: l => if (x.f0 == 1 && !mayP s.row 46) = true then 2
  else if worseP out (stepP s x).2.2 = 2 then 2 else checkGo (stepP s x).1 (worseP out (stepP s x).2.2) l
set_option pp.maxSteps 3000 in
set_option maxRecDepth 100000 in
set_option maxHeartbeats 16000000 in
theorem check_run (A0 : Option Addr) (c0 : Nat) (t : List S56) (w : World) (hlen : t.length ≤ 400000) (hz : ∀ x ∈ t, x.f1.size ≤ 1000000) (hA : Kd.C k56 w A0 t.length t) (hc0 : t.length ≤ c0)
  (k1 : Nat) (b : Bool) (hsz : tree_sized.f k1 t 0 (t.length : Int) = some b) (k2 : Nat) (ev : List S47) (hev : b = true → tree_events.f k2 t = some ev ∧ ev.length ≤ 800000 ∧ ∀ x ∈ ev, LexOk 1000000 x) :
  Calls Try.prog 57 #[.slice A0 t.length c0] w fun e w' => e = .returned (.int .i64 (if ((t.any fun x => !plainB x) || !b) = true then 2 else checkGo bld0 0 ev)) ∧ Below w.heap.size w w' := by
 have HA := Lib.hid hA
 have HCN := Lib.hid (containsN_calls A0 c0 t w (by omega) (fun x hx => by have := hz x hx; omega) hA)
 have HSZ := Lib.hid (fun W (hW : Kd.C k56 W A0 t.length t) => tree_sized.calls k1 A0 c0 t 0 (t.length : Int) b W hW hc0 hsz)
 have HEV := Lib.hid hev
 obtain ⟨R, hR⟩ : ∃ R, (if ((t.any fun x => !plainB x) || !b) = true then 2 else checkGo bld0 0 ev) = R := ⟨_, rfl⟩
 rw [hR]
 have HR := Lib.hid hR
 clear hA hsz hev hR hz
 cases hp : (t.any fun x => !plainB x)
 ·rw [hp] at HCN HR
  clear hp
  cases b
  ·have HR2 := Lib.hid (show R = 2 from HR.out.symm)
   go_enter Try.func57, Try.ntmps57
   go_wp2_with (first | (go_at_call 99; (with_reducible refine HCN.out.mono ?_); rintro e w1 ⟨rfl, hb1⟩) | (go_at_call 102; (with_reducible refine (HSZ.out _ (Kd.C_below HA.out hb1)).mono ?_); rintro e w2 ⟨rfl, hb2⟩))
   go_ret
   exact ⟨by rw [HR2.out]; rfl, hb1.trans (hb2.mono hb1.size)⟩
  ·obtain ⟨hE, hel, hok⟩ := HEV.out rfl
   have HE := Lib.hid (fun W (hW : Kd.C k56 W A0 t.length t) => tree_events.calls k2 A0 c0 t ev W hW hc0 hE)
   have HOK := Lib.hid hok
   have HR2 := Lib.hid (show checkGo bld0 0 ev = R from HR.out)
   clear hE hok HEV HR
   go_enter Try.func57, Try.ntmps57
   go_wp2_with (first | (go_at_call 99; (with_reducible refine HCN.out.mono ?_); rintro e w1 ⟨rfl, hb1⟩) | (go_at_call 102; (with_reducible refine (HSZ.out _ (Kd.C_below HA.out hb1)).mono ?_); rintro e w2 ⟨rfl, hb2⟩))
   have HW2 := Lib.hid (hb1.trans (hb2.mono hb1.size))
   clear hb1 hb2
   refine (begin_calls w2).mono ?_
   rintro e w3 ⟨g, m, rfl, hb, hb3⟩
   have HB := Lib.hid hb
   have HB3 := Lib.hid hb3
   clear hb hb3
   go_wp2_with fail
   have hW3 : Below w3.heap.size w3 (w3.alloc (.cells #[.nilFunc, .func (.func 92) #[.pointer (some ⟨g, 0, none⟩)] #[], .func (.func 93) #[.pointer (some ⟨g, 0, none⟩)] #[], .func (.func 94) #[.pointer (some ⟨g, 0, none⟩)] #[]] 98)) := (Below.refl _ _).alloc (Nat.le_refl _) _
   have hS3 := blk_new w3 (.cells #[.nilFunc, .func (.func 92) #[.pointer (some ⟨g, 0, none⟩)] #[], .func (.func 93) #[.pointer (some ⟨g, 0, none⟩)] #[], .func (.func 94) #[.pointer (some ⟨g, 0, none⟩)] #[]] 98)
   obtain ⟨W3, hW3'⟩ : ∃ W3, w3.alloc (.cells #[.nilFunc, .func (.func 92) #[.pointer (some ⟨g, 0, none⟩)] #[], .func (.func 93) #[.pointer (some ⟨g, 0, none⟩)] #[], .func (.func 94) #[.pointer (some ⟨g, 0, none⟩)] #[]] 98) = W3 := ⟨_, rfl⟩
   rw [hW3'] at hW3 hS3 ⊢
   clear hW3'
   have h03 : Below w.heap.size w W3 := HW2.out.trans ((HB3.out.trans (hW3.mono HB3.out.size)).mono HW2.out.size)
   refine (HE.out W3 (Kd.C_below HA.out h03)).mono ?_
   rintro e W4 ⟨v, rfl, hR4, hb4⟩
   obtain ⟨A, c, rfl, hc, hC⟩ := Kd.R_reads hR4
   have HB4 := Lib.hid ((HB.out.below hW3).below hb4)
   have HS4 := Lib.hid (blk_below hS3 hb4)
   have HR4 := Lib.hid hR4
   have HL4 := Lib.hid (h03.trans (hb4.mono h03.size))
   have hz4 : w2.heap.size ≤ W4.heap.size := Nat.le_trans (Nat.le_trans HB3.out.size hW3.size) hb4.size
   have HZ4 := Lib.hid hz4
   have HZ1 := Lib.hid HW2.out.size
   have HR4' := Lib.hid (Kd.R_lower hR4 (Nat.zero_le _))
   clear hW3 hS3 hR4 hb4 HB hC h03 HB3 HW2 HCN HSZ HE
   go_wp2_with fail
   go_loopw [5, 30] (fun v5 v wr => ∃ (k : Nat) (s : Bld) (vr vt : Value) (out : Int), k ≤ ev.length ∧ v = .int .i64 k ∧ v5 = .int .i64 out ∧ BAt wr w2.heap.size g m vr vt s ∧ BOk s k ∧ Below w2.heap.size W4 wr ∧ KeepK W4 wr ∧ checkGo s out (ev.drop k) = R) (fun _ v _ => ev.length - (intOf v).toNat)
   case atStart => exact ⟨0, bld0, _, _, 0, Nat.zero_le _, rfl, rfl, HB4.out, bld0_ok, Below.refl _ _, KeepK.refl _, HR2.out⟩
   case round =>
    obtain ⟨k, s, vr, vt, out, hk, rfl, rfl, hb, hbk, hlow, hkeep, hrun⟩ := hrel
    have HBA := Lib.hid hb
    have HBK := Lib.hid hbk
    have HLO := Lib.hid hlow
    have HKE := Lib.hid hkeep
    have HRU := Lib.hid hrun
    clear hb hbk hlow hkeep hrun
    by_cases hlt : k < ev.length
    ·have hlt1 : (k : Int) < (ev.length : Int) := by omega
     have hRw := R47_keep HR4'.out HKE.out
     obtain ⟨A', c', he', _, hC⟩ := Kd.R_reads hRw
     simp only [Value.slice.injEq] at he'
     obtain ⟨rfl, -, rfl⟩ := he'
     obtain ⟨ad, e1, q0, q1, q2, q3⟩ := at_T47 hC k (by omega) (by omega)
     subst e1
     simp only [Int.toNat_natCast] at q0 q1 q2 q3
     have hxl : ev[k]? = some (rd_T47 ev k) := by
      unfold rd_T47
      rw [Int.toNat_natCast, List.getD_eq_getElem?_getD, List.getElem?_eq_getElem hlt]
      rfl
     have hxok := HOK.out _ (List.mem_of_getElem? hxl)
     have hdrop : ev.drop k = rd_T47 ev k :: ev.drop (k + 1) := by
      rw [List.drop_eq_getElem_cons hlt]
      rw [List.getElem?_eq_getElem hlt] at hxl
      rw [Option.some.inj hxl]
     have hst := HRU.out
     rw [hdrop] at hst
     have hst2 : (if ((rd_T47 ev k).f0 == 1 && !mayP s.row 46) = true then 2 else if worseP out (stepP s (rd_T47 ev k)).2.2 = 2 then 2 else checkGo (stepP s (rd_T47 ev k)).1 (worseP out (stepP s (rd_T47 ev k)).2.2) (ev.drop (k + 1))) = R := hst
     clear hst hdrop hxl hRw hC
     generalize rd_T47 ev k = x at *
     have hstep := fun W (hW : BAt W w2.heap.size g m vr vt s) (hz : w2.heap.size ≤ W.heap.size) => step_calls w2.heap.size g m vr vt s x W hxok hz (by have := HBK.out.row; omega) (by have := HBK.out.t; omega) HBK.out.kinds HBK.out.pos HBK.out.chain hW
     have hmay := fun W (hW : BAt W w2.heap.size g m vr vt s) => may_calls w2.heap.size g m vr vt s 46 W (by omega) (by omega) (by have := HBK.out.row; omega) HBK.out.kinds hW
     have hok2 := stepP_ok HBK.out hxok
     have hf := hxok.1
     obtain ⟨f0, f1, f2, f3⟩ := x
     simp only at hstep q0 q1 q2 q3 hf hst2
     obtain ⟨⟨s', ra, re⟩, hRR⟩ : ∃ r, stepP s ⟨f0, f1, f2, f3⟩ = r := ⟨_, rfl⟩
     obtain ⟨mm, hmm⟩ : ∃ b, mayP s.row 46 = b := ⟨_, rfl⟩
     simp only [hRR] at hstep hst2 hok2
     rw [hmm] at hst2
     simp only [hmm] at hmay
     obtain ⟨wo, hwo⟩ : ∃ z, worseP out re = z := ⟨_, rfl⟩
     have hworse := fun W => worse_calls out re W
     rw [hwo] at hst2
     simp only [hwo] at hworse
     have HST := Lib.hid hstep
     have HMA := Lib.hid hmay
     have HWO := Lib.hid hworse
     have HS2 := Lib.hid hst2
     have HOK2 := Lib.hid hok2
     have hX0 := blk_new wr (.cells #[.int .i64 f0, .int .u8 f1, .string f2, .int .i64 f3] 47)
     have hb0 : Below wr.heap.size wr (wr.alloc (.cells #[.int .i64 f0, .int .u8 f1, .string f2, .int .i64 f3] 47)) := (Below.refl _ _).alloc (Nat.le_refl _) _
     have HX0 := Lib.hid hX0
     have HB0 := Lib.hid hb0
     clear hstep hst2 hRR hok2 hxok hmay hworse hwo hmm hX0 hb0
     by_cases hbad : f0 = 1 ∧ mm = false
     ·obtain ⟨rfl, rfl⟩ := hbad
      have HR3 := Lib.hid (show R = 2 from HS2.out.symm)
      go_wp2_with (go_at_call 104; (with_reducible refine (HMA.out _ (HBA.out.below HB0.out)).mono ?_); rintro e w5 ⟨rfl, hb5⟩)
      go_ret
      refine ⟨by rw [HR3.out]; rfl, ?_⟩
      have hx := HL4.out.trans (HLO.out.mono HZ1.out)
      exact (hx.trans (HB0.out.mono hx.size)).trans (hb5.mono (Nat.le_trans hx.size HB0.out.size))
     ·have hst3 : (if wo = 2 then 2 else checkGo s' wo (ev.drop (k + 1))) = R := by
       rw [← HS2.out]
       have : (f0 == 1 && !mm) = false := by
        rw [Bool.and_eq_false_iff]
        by_cases e : f0 = 1
        ·right; cases mm with
         | true => rfl
         | false => exact absurd ⟨e, rfl⟩ hbad
        ·left; exact beq_eq_false_iff_ne.2 e
       rw [this]
       rfl
      have HS3 := Lib.hid hst3
      have hmode : (f0 = 1 ∧ mm = true) ∨ f0 = 2 ∨ f0 = 3 := by
       rcases hf with h | h | h
       ·left; exact ⟨h, by cases mm with | true => rfl | false => exact absurd ⟨h, rfl⟩ hbad⟩
       ·right; left; exact h
       ·right; right; exact h
      clear hst3 hbad HS2 hf
      rcases hmode with ⟨rfl, rfl⟩ | rfl | rfl
      ·go_wp2_with (go_at_call 104; (with_reducible refine (HMA.out _ (HBA.out.below HB0.out)).mono ?_); rintro e w5 ⟨rfl, hb5⟩)
       have HX5 := Lib.hid (blk_below HX0.out hb5)
       have HB5 := Lib.hid (HB0.out.trans (hb5.mono HB0.out.size))
       clear hb5
       obtain ⟨W5, hW5⟩ : ∃ W5, w5.drew = W5 := ⟨_, rfl⟩
       have hb6 : Below wr.heap.size wr W5 := by rw [← hW5]; exact below_drew1 HB5.out
       have hmv : ∀ (i : Nat) (o : Obj), w5.heap[i]? = some o → W5.heap[i]? = some o := fun i o ho => by rw [← hW5]; exact ho
       have hX6 := hmv _ _ HX5.out
       clear hmv
       have hS6 := blk_below (HKE.out _ _ HS4.out rfl) hb6
       have HX6 := Lib.hid hX6
       have HS6 := Lib.hid hS6
       have HB6 := Lib.hid hb6
       clear hX6 hS6 hb6
       refine Go.Mix.region_mix' (fun b W => cond b (StepTo w2.heap.size g m s' W5 W) (W = W5)) 5 11 [] (by kernel_rfl) (by kernel_rfl) (fun _ _ _ _ _ h => h) hW5 ?_
       clear hW5 q0 q1 q2 q3
       refine Go.Mix.seqE_nil ?_
       repeat
        apply Go.Mix.seqM_cons (by rfl) (by rfl)
        focus
         intro b W hS
         have hX := step_keep hS HX6.out rfl
         have hZ := step_keep hS HS6.out rfl
         have x0 := blk_cell hX 0
         have x1 := blk_cell hX 1
         have x2 := blk_cell hX 2
         have x3 := blk_cell hX 3
         have s1 := blk_cell hZ 1
         have s2 := blk_cell hZ 2
         have s3 := blk_cell hZ 3
         simp only [List.getElem?_toArray, List.getElem?_cons_succ, List.getElem?_cons_zero] at x0 x1 x2 x3 s1 s2 s3
         have HS := Lib.hid hS
         clear hS hX hZ
         go_wp2
         exact Go.Det.AtEnd.mk HS.out
       apply Go.Mix.seqM_main (by rfl)
       focus
        intro W hS
        obtain rfl : W = W5 := hS
        go_wp2_with fail
        refine (HST.out W (HBA.out.below HB6.out) (Nat.le_trans (Nat.le_trans HZ4.out HLO.out.size) HB6.out.size)).mono ?_
        rintro e W7 ⟨rfl, hst⟩
        have HSTT := Lib.hid hst
        clear hst
        go_wp2
        exact Go.Det.AtEnd.mk HSTT.out
       repeat
        apply Go.Mix.seqM_cons (by rfl) (by rfl)
        focus
         intro b W hS
         have HS := Lib.hid hS
         clear hS
         go_wp2
         exact Go.Det.AtEnd.mk HS.out
       refine Go.Mix.seqM_nil ?_
       intro W7 hW7
       obtain ⟨vr5, vt5, hb5, hl5, hk5⟩ := (show StepTo w2.heap.size g m s' W5 W7 from hW7)
       clear hW7
       simp only [List.drop_succ_cons, List.drop_zero, Exit.then]
       have HB7 := Lib.hid hb5
       have HL7 := Lib.hid ((HLO.out.trans (below_low HB6.out (Nat.le_trans HZ4.out HLO.out.size))).trans hl5)
       have HK7 := Lib.hid ((HKE.out.trans (KeepK.below HB6.out)).trans hk5)
       clear hb5 hl5 hk5
       by_cases hw2 : wo = 2
       ·have HR3 := Lib.hid (show R = 2 from by rw [← HS3.out, if_pos hw2])
        have hwb : (wo == 2) = true := beq_iff_eq.2 hw2
        subst hw2
        go_wp2_with (go_at_call 105; (with_reducible refine (HWO.out _).mono ?_); rintro e w8 ⟨rfl, rfl⟩)
        go_ret
        exact ⟨by rw [HR3.out]; rfl, HL4.out.trans (HL7.out.mono HZ1.out)⟩
       ·have HR3 := Lib.hid (show checkGo s' wo (ev.drop (k + 1)) = R from by rw [← HS3.out, if_neg hw2])
        have hwb : (wo == 2) = false := beq_eq_false_iff_ne.2 hw2
        clear hw2
        go_wp2_with (go_at_call 105; (with_reducible refine (HWO.out _).mono ?_); rintro e w8 ⟨rfl, rfl⟩)
        go_roundw
        case rel => exact ⟨k + 1, s', vr5, vt5, wo, by omega, by go_num, rfl, HB7.out, HOK2.out, HL7.out, HK7.out, HR3.out⟩
        case measure => simp [intOf]; omega
      ·go_wp2
       obtain ⟨w5, hw5⟩ : ∃ w5, wr.alloc (.cells #[.int .i64 2, .int .u8 f1, .string f2, .int .i64 f3] 47) = w5 := ⟨_, rfl⟩
       rw [hw5] at HX0 HB0 ⊢
       have HX5 := HX0
       have HB5 := HB0
       clear hw5
       obtain ⟨W5, hW5⟩ : ∃ W5, w5.drew = W5 := ⟨_, rfl⟩
       have hb6 : Below wr.heap.size wr W5 := by rw [← hW5]; exact below_drew1 HB5.out
       have hmv : ∀ (i : Nat) (o : Obj), w5.heap[i]? = some o → W5.heap[i]? = some o := fun i o ho => by rw [← hW5]; exact ho
       have hX6 := hmv _ _ HX5.out
       clear hmv
       have hS6 := blk_below (HKE.out _ _ HS4.out rfl) hb6
       have HX6 := Lib.hid hX6
       have HS6 := Lib.hid hS6
       have HB6 := Lib.hid hb6
       clear hX6 hS6 hb6
       refine Go.Mix.region_mix' (fun b W => cond b (StepTo w2.heap.size g m s' W5 W) (W = W5)) 5 11 [] (by kernel_rfl) (by kernel_rfl) (fun _ _ _ _ _ h => h) hW5 ?_
       clear hW5 q0 q1 q2 q3
       refine Go.Mix.seqE_nil ?_
       repeat
        apply Go.Mix.seqM_cons (by rfl) (by rfl)
        focus
         intro b W hS
         have hX := step_keep hS HX6.out rfl
         have hZ := step_keep hS HS6.out rfl
         have x0 := blk_cell hX 0
         have x1 := blk_cell hX 1
         have x2 := blk_cell hX 2
         have x3 := blk_cell hX 3
         have s1 := blk_cell hZ 1
         have s2 := blk_cell hZ 2
         have s3 := blk_cell hZ 3
         simp only [List.getElem?_toArray, List.getElem?_cons_succ, List.getElem?_cons_zero] at x0 x1 x2 x3 s1 s2 s3
         have HS := Lib.hid hS
         clear hS hX hZ
         go_wp2
         exact Go.Det.AtEnd.mk HS.out
       apply Go.Mix.seqM_main (by rfl)
       focus
        intro W hS
        obtain rfl : W = W5 := hS
        go_wp2_with fail
        refine (HST.out W (HBA.out.below HB6.out) (Nat.le_trans (Nat.le_trans HZ4.out HLO.out.size) HB6.out.size)).mono ?_
        rintro e W7 ⟨rfl, hst⟩
        have HSTT := Lib.hid hst
        clear hst
        go_wp2
        exact Go.Det.AtEnd.mk HSTT.out
       repeat
        apply Go.Mix.seqM_cons (by rfl) (by rfl)
        focus
         intro b W hS
         have HS := Lib.hid hS
         clear hS
         go_wp2
         exact Go.Det.AtEnd.mk HS.out
       refine Go.Mix.seqM_nil ?_
       intro W7 hW7
       obtain ⟨vr5, vt5, hb5, hl5, hk5⟩ := (show StepTo w2.heap.size g m s' W5 W7 from hW7)
       clear hW7
       simp only [List.drop_succ_cons, List.drop_zero, Exit.then]
       have HB7 := Lib.hid hb5
       have HL7 := Lib.hid ((HLO.out.trans (below_low HB6.out (Nat.le_trans HZ4.out HLO.out.size))).trans hl5)
       have HK7 := Lib.hid ((HKE.out.trans (KeepK.below HB6.out)).trans hk5)
       clear hb5 hl5 hk5
       by_cases hw2 : wo = 2
       ·have HR3 := Lib.hid (show R = 2 from by rw [← HS3.out, if_pos hw2])
        have hwb : (wo == 2) = true := beq_iff_eq.2 hw2
        subst hw2
        go_wp2_with (go_at_call 105; (with_reducible refine (HWO.out _).mono ?_); rintro e w8 ⟨rfl, rfl⟩)
        go_ret
        exact ⟨by rw [HR3.out]; rfl, HL4.out.trans (HL7.out.mono HZ1.out)⟩
       ·have HR3 := Lib.hid (show checkGo s' wo (ev.drop (k + 1)) = R from by rw [← HS3.out, if_neg hw2])
        have hwb : (wo == 2) = false := beq_eq_false_iff_ne.2 hw2
        clear hw2
        go_wp2_with (go_at_call 105; (with_reducible refine (HWO.out _).mono ?_); rintro e w8 ⟨rfl, rfl⟩)
        go_roundw
        case rel => exact ⟨k + 1, s', vr5, vt5, wo, by omega, by go_num, rfl, HB7.out, HOK2.out, HL7.out, HK7.out, HR3.out⟩
        case measure => simp [intOf]; omega
      ·go_wp2
       obtain ⟨w5, hw5⟩ : ∃ w5, wr.alloc (.cells #[.int .i64 3, .int .u8 f1, .string f2, .int .i64 f3] 47) = w5 := ⟨_, rfl⟩
       rw [hw5] at HX0 HB0 ⊢
       have HX5 := HX0
       have HB5 := HB0
       clear hw5
       obtain ⟨W5, hW5⟩ : ∃ W5, w5.drew = W5 := ⟨_, rfl⟩
       have hb6 : Below wr.heap.size wr W5 := by rw [← hW5]; exact below_drew1 HB5.out
       have hmv : ∀ (i : Nat) (o : Obj), w5.heap[i]? = some o → W5.heap[i]? = some o := fun i o ho => by rw [← hW5]; exact ho
       have hX6 := hmv _ _ HX5.out
       clear hmv
       have hS6 := blk_below (HKE.out _ _ HS4.out rfl) hb6
       have HX6 := Lib.hid hX6
       have HS6 := Lib.hid hS6
       have HB6 := Lib.hid hb6
       clear hX6 hS6 hb6
       refine Go.Mix.region_mix' (fun b W => cond b (StepTo w2.heap.size g m s' W5 W) (W = W5)) 5 11 [] (by kernel_rfl) (by kernel_rfl) (fun _ _ _ _ _ h => h) hW5 ?_
       clear hW5 q0 q1 q2 q3
       refine Go.Mix.seqE_nil ?_
       repeat
        apply Go.Mix.seqM_cons (by rfl) (by rfl)
        focus
         intro b W hS
         have hX := step_keep hS HX6.out rfl
         have hZ := step_keep hS HS6.out rfl
         have x0 := blk_cell hX 0
         have x1 := blk_cell hX 1
         have x2 := blk_cell hX 2
         have x3 := blk_cell hX 3
         have s1 := blk_cell hZ 1
         have s2 := blk_cell hZ 2
         have s3 := blk_cell hZ 3
         simp only [List.getElem?_toArray, List.getElem?_cons_succ, List.getElem?_cons_zero] at x0 x1 x2 x3 s1 s2 s3
         have HS := Lib.hid hS
         clear hS hX hZ
         go_wp2
         exact Go.Det.AtEnd.mk HS.out
       apply Go.Mix.seqM_main (by rfl)
       focus
        intro W hS
        obtain rfl : W = W5 := hS
        go_wp2_with fail
        refine (HST.out W (HBA.out.below HB6.out) (Nat.le_trans (Nat.le_trans HZ4.out HLO.out.size) HB6.out.size)).mono ?_
        rintro e W7 ⟨rfl, hst⟩
        have HSTT := Lib.hid hst
        clear hst
        go_wp2
        exact Go.Det.AtEnd.mk HSTT.out
       repeat
        apply Go.Mix.seqM_cons (by rfl) (by rfl)
        focus
         intro b W hS
         have HS := Lib.hid hS
         clear hS
         go_wp2
         exact Go.Det.AtEnd.mk HS.out
       refine Go.Mix.seqM_nil ?_
       intro W7 hW7
       obtain ⟨vr5, vt5, hb5, hl5, hk5⟩ := (show StepTo w2.heap.size g m s' W5 W7 from hW7)
       clear hW7
       simp only [List.drop_succ_cons, List.drop_zero, Exit.then]
       have HB7 := Lib.hid hb5
       have HL7 := Lib.hid ((HLO.out.trans (below_low HB6.out (Nat.le_trans HZ4.out HLO.out.size))).trans hl5)
       have HK7 := Lib.hid ((HKE.out.trans (KeepK.below HB6.out)).trans hk5)
       clear hb5 hl5 hk5
       by_cases hw2 : wo = 2
       ·have HR3 := Lib.hid (show R = 2 from by rw [← HS3.out, if_pos hw2])
        have hwb : (wo == 2) = true := beq_iff_eq.2 hw2
        subst hw2
        go_wp2_with (go_at_call 105; (with_reducible refine (HWO.out _).mono ?_); rintro e w8 ⟨rfl, rfl⟩)
        go_ret
        exact ⟨by rw [HR3.out]; rfl, HL4.out.trans (HL7.out.mono HZ1.out)⟩
       ·have HR3 := Lib.hid (show checkGo s' wo (ev.drop (k + 1)) = R from by rw [← HS3.out, if_neg hw2])
        have hwb : (wo == 2) = false := beq_eq_false_iff_ne.2 hw2
        clear hw2
        go_wp2_with (go_at_call 105; (with_reducible refine (HWO.out _).mono ?_); rintro e w8 ⟨rfl, rfl⟩)
        go_roundw
        case rel => exact ⟨k + 1, s', vr5, vt5, wo, by omega, by go_num, rfl, HB7.out, HOK2.out, HL7.out, HK7.out, HR3.out⟩
        case measure => simp [intOf]; omega
    ·obtain rfl : k = ev.length := by omega
     have hlt1 : ¬ (ev.length : Int) < (ev.length : Int) := by omega
     have hend : R = out := by rw [← HRU.out, List.drop_length]; rfl
     have HEND := Lib.hid hend
     clear hend
     go_wp2
     go_ret
     exact ⟨by rw [HEND.out]; rfl, HL4.out.trans (HLO.out.mono HZ1.out)⟩
 ·rw [hp] at HCN HR
  have HR2 := Lib.hid (show R = 2 from HR.out.symm)
  clear hp
  go_enter Try.func57, Try.ntmps57
  go_wp2_with (go_at_call 99; (with_reducible refine HCN.out.mono ?_); rintro e w1 ⟨rfl, hb1⟩)
  go_ret
  exact ⟨by rw [HR2.out]; rfl, hb1⟩
end Go.Proofs.Ythcmfjpheanphaa.Pr
namespace Go.Proofs.Ythcmfjpheanphaa.Pr
open Go.RowKit Go.Proofs.YthcmfjpheanphaaW.PrintWords
def sizedB : Nat → List S56 → Nat → Nat → Bool
 | 0, _, _, _ => false
 | n + 1, t, a, e => if a < e then (if 1 ≤ (rd_T56 t a).f3 ∧ (rd_T56 t a).f3 ≤ (e : Int) - a then sizedB n t (a + 1) (a + (rd_T56 t a).f3.toNat) && sizedB n t (a + (rd_T56 t a).f3.toNat) e else false) else true
theorem sizedB_more (t : List S56) : ∀ (n m a e : Nat), e - a < n → e - a < m → sizedB n t a e = sizedB m t a e
 | 0, _, _, _, h, _ => by omega
 | _ + 1, 0, _, _, _, h => by omega
 | n + 1, m + 1, a, e, h1, h2 => by
  simp only [sizedB]
  by_cases hlt : a < e
  ·rw [if_pos hlt, if_pos hlt]
   by_cases hs : 1 ≤ (rd_T56 t a).f3 ∧ (rd_T56 t a).f3 ≤ (e : Int) - a
   ·rw [if_pos hs, if_pos hs, sizedB_more t n m (a + 1) _ (by omega) (by omega), sizedB_more t n m (a + (rd_T56 t a).f3.toNat) e (by omega) (by omega)]
   ·rw [if_neg hs, if_neg hs]
  ·rw [if_neg hlt, if_neg hlt]
def sizedT (t : List S56) (a e : Nat) : Bool := sizedB (e - a + 1) t a e
theorem sizedT_end (t : List S56) (a e : Nat) (h : ¬ a < e) : sizedT t a e = true := by
 unfold sizedT
 simp only [sizedB]
 rw [if_neg h]
theorem sizedT_step (t : List S56) (a e : Nat) (h : a < e) : sizedT t a e = if 1 ≤ (rd_T56 t a).f3 ∧ (rd_T56 t a).f3 ≤ (e : Int) - a then sizedT t (a + 1) (a + (rd_T56 t a).f3.toNat) && sizedT t (a + (rd_T56 t a).f3.toNat) e else false := by
 unfold sizedT
 rw [sizedB]
 rw [if_pos h]
 by_cases hs : 1 ≤ (rd_T56 t a).f3 ∧ (rd_T56 t a).f3 ≤ (e : Int) - a
 ·rw [if_pos hs, if_pos hs]
  congr 1
  ·exact sizedB_more t _ _ _ _ (by omega) (by omega)
  ·exact sizedB_more t _ _ _ _ (by omega) (by omega)
 ·rw [if_neg hs, if_neg hs]
theorem wrap_nat {n : Nat} (h : n ≤ 9000000) : wrap64 (n : Int) = n := IntWalk.wrap64_in _ ⟨by omega, by omega⟩
theorem sized_f (t : List S56) (hl : t.length ≤ 1000000) : ∀ (n a e k : Nat), e - a ≤ n → a ≤ e → e ≤ t.length → 2 * n + 1 ≤ k → tree_sized.l0 k t a e = some (sizedT t a e)
 | 0, a, e, k, h, hae, _, hk => by
  obtain ⟨k, rfl⟩ : ∃ j, k = j + 1 := ⟨k - 1, by omega⟩
  rw [tree_sized.l0, if_neg (by omega), sizedT_end t a e (by omega)]
 | n + 1, a, e, k, h, hae, he, hk => by
  obtain ⟨k, rfl⟩ : ∃ j, k = j + 2 := ⟨k - 2, by omega⟩
  rw [tree_sized.l0]
  by_cases hlt : a < e
  ·have hw1 : wrap64 ((e : Int) - (a : Int)) = (e : Int) - a := by
    rw [show (e : Int) - (a : Int) = ((e - a : Nat) : Int) from by omega]; exact wrap_nat (by omega)
   rw [if_pos (by omega), if_pos (by omega), if_pos (by omega), hw1, sizedT_step t a e hlt]
   by_cases h1 : (rd_T56 t a).f3 < 1
   ·rw [if_pos h1, if_neg (by omega)]
   ·by_cases h2 : (rd_T56 t a).f3 > (e : Int) - a
    ·rw [if_neg h1, if_pos h2, if_neg (by omega)]
    ·rw [if_neg h1, if_neg h2, if_pos (by omega)]
     have e1 : wrap64 ((a : Int) + 1) = ((a + 1 : Nat) : Int) := by rw [show (a : Int) + 1 = ((a + 1 : Nat) : Int) from by omega]; exact wrap_nat (by omega)
     have e2 : wrap64 ((a : Int) + (rd_T56 t a).f3) = ((a + (rd_T56 t a).f3.toNat : Nat) : Int) := by rw [show (a : Int) + (rd_T56 t a).f3 = ((a + (rd_T56 t a).f3.toNat : Nat) : Int) from by omega]; exact wrap_nat (by omega)
     rw [e1, e2]
     have ih1 := sized_f t hl n (a + 1) (a + (rd_T56 t a).f3.toNat) k (by omega) (by omega) (by omega) (by omega)
     have ih2 := sized_f t hl n (a + (rd_T56 t a).f3.toNat) e (k + 1) (by omega) (by omega) (by omega) (by omega)
     rw [tree_sized.f, ih1, ih2, Option.bind_some]
     cases sizedT t (a + 1) (a + (rd_T56 t a).f3.toNat) <;> simp
  ·rw [if_neg (by omega), sizedT_end t a e hlt]
def shutX : S47 := ⟨3, 0, ⟨#[]⟩, 0⟩
def nodeX (x : S56) : S47 := if x.f0 = 46 then ⟨1, 0, x.f1, 0⟩ else ⟨2, x.f0, ⟨#[]⟩, 0⟩
def closeE : Nat → List S47 → List Int → Int → List S47 × List Int
 | 0, o, e, _ => (o, e)
 | n + 1, o, e, i => if e ≠ [] ∧ rd e ((e.length : Int) - 1) = i then closeE n (o ++ [shutX]) e.dropLast i else (o, e)
def evStep (x : S56) (i : Nat) (s : List S47 × List Int) : List S47 × List Int :=
 ((closeE s.2.length s.1 s.2 i).1 ++ [nodeX x], if x.f0 = 46 then (closeE s.2.length s.1 s.2 i).2 else (closeE s.2.length s.1 s.2 i).2 ++ [(i : Int) + x.f3])
def evRun : List S56 → Nat → List S47 × List Int → List S47 × List Int
 | [], _, s => s
 | x :: l, i, s => evRun l (i + 1) (evStep x i s)
def eventsP (t : List S56) : List S47 := (evRun t 0 ([], [])).1 ++ List.replicate (evRun t 0 ([], [])).2.length shutX
theorem l2_f (n : Nat) (hn : n ≤ 400000) : ∀ (d j k : Nat) (o : List S47), d + j = n → o.length + d ≤ 3000000 → d + 1 ≤ k → tree_events.l2 k o n j = some (o ++ List.replicate d shutX)
 | 0, j, k, o, h, ho, hk => by
  obtain ⟨k, rfl⟩ : ∃ q, k = q + 1 := ⟨k - 1, by omega⟩
  rw [tree_events.l2, if_neg (by omega)]
  simp
 | d + 1, j, k, o, h, ho, hk => by
  obtain ⟨k, rfl⟩ : ∃ q, k = q + 1 := ⟨k - 1, by omega⟩
  rw [tree_events.l2, if_pos (by omega), Option.bind_some, if_pos (by simp; omega)]
  have e1 : wrap64 ((j : Int) + 1) = ((j + 1 : Nat) : Int) := by rw [show (j : Int) + 1 = ((j + 1 : Nat) : Int) from by omega]; exact wrap_nat (by omega)
  rw [e1, l2_f n hn d (j + 1) k _ (by omega) (by simp; omega) (by omega)]
  simp [List.replicate_succ, shutX]
theorem closeE_len : ∀ (d : Nat) (o : List S47) (e : List Int) (i : Int), (closeE d o e i).1.length + (closeE d o e i).2.length = o.length + e.length ∧ (closeE d o e i).2.length ≤ e.length
 | 0, o, e, i => ⟨rfl, Nat.le_refl _⟩
 | d + 1, o, e, i => by
  simp only [closeE]
  split
  ·rename_i h
   have hp : 0 < e.length := List.length_pos_iff.2 h.1
   obtain ⟨g1, g2⟩ := closeE_len d (o ++ [shutX]) e.dropLast i
   rw [List.length_dropLast] at g1 g2
   simp only [List.length_append, List.length_cons, List.length_nil] at g1
   exact ⟨by omega, by omega⟩
  ·exact ⟨rfl, Nat.le_refl _⟩
theorem l1_f (t : List S56) (n : Int) (x : S56) (i : Nat) (hi : i ≤ 400000) (h3 : 1 ≤ x.f3 ∧ x.f3 ≤ 400000) (K0 : Nat) (R : List S47) : ∀ (d : Nat) (out : List S47) (ends : List Int) (k : Nat), ends.length = d → out.length + ends.length ≤ 2 * i + 1 →
  (∀ K, K0 ≤ K → tree_events.l0 K (evStep x i (out, ends)).1 (evStep x i (out, ends)).2 t n ((i + 1 : Nat) : Int) = some R) → K0 + d + 1 ≤ k + (closeE ends.length out ends i).2.length →
  tree_events.l1 k out ends (i : Int) t n (i : Int) x.f0 x.f1 x.f2 x.f3 = some R
 | 0, out, ends, k, hd, hb, hR, hk => by
  obtain rfl : ends = [] := List.eq_nil_of_length_eq_zero hd
  simp only [List.length_nil, closeE] at hk
  obtain ⟨k, rfl⟩ : ∃ q, k = q + 1 := ⟨k - 1, by omega⟩
  have hR' := hR k (by omega)
  unfold evStep at hR'
  simp only [closeE, List.length_nil] at hR'
  have e1 : wrap64 ((i : Int) + 1) = ((i + 1 : Nat) : Int) := by rw [show (i : Int) + 1 = ((i + 1 : Nat) : Int) from by omega]; exact wrap_nat (by omega)
  have e2 : wrap64 ((i : Int) + x.f3) = (i : Int) + x.f3 := by
   rw [show (i : Int) + x.f3 = ((i + x.f3.toNat : Nat) : Int) from by omega]; exact wrap_nat (by omega)
  simp only [List.length_nil] at hb
  rw [tree_events.l1, if_neg (by simp)]
  by_cases h46 : x.f0 = 46
  ·rw [if_pos h46, Option.bind_some, if_pos (by simp; omega), e1]
   rw [if_pos h46] at hR'
   rw [show ([(⟨1, 0, x.f1, 0⟩ : S47)] : List S47) = [nodeX x] from by unfold nodeX; rw [if_pos h46]]
   exact hR'
  ·rw [if_neg h46, Option.bind_some, if_pos (by simp; omega), Option.bind_some, if_pos (by simp), e1, e2]
   rw [if_neg h46] at hR'
   rw [show ([(⟨2, x.f0, ⟨#[]⟩, 0⟩ : S47)] : List S47) = [nodeX x] from by unfold nodeX; rw [if_neg h46]]
   exact hR'
 | d + 1, out, ends, k, hd, hb, hR, hk => by
  have hcl := (closeE_len ends.length out ends i).2
  obtain ⟨k, rfl⟩ : ∃ q, k = q + 1 := ⟨k - 1, by omega⟩
  have hne : ends ≠ [] := fun e => by rw [e] at hd; cases hd
  have e1 : wrap64 ((i : Int) + 1) = ((i + 1 : Nat) : Int) := by rw [show (i : Int) + 1 = ((i + 1 : Nat) : Int) from by omega]; exact wrap_nat (by omega)
  have e2 : wrap64 ((i : Int) + x.f3) = (i : Int) + x.f3 := by
   rw [show (i : Int) + x.f3 = ((i + x.f3.toNat : Nat) : Int) from by omega]; exact wrap_nat (by omega)
  have e3 : wrap64 ((ends.length : Int) - 1) = (ends.length : Int) - 1 := by
   rw [show (ends.length : Int) - 1 = ((ends.length - 1 : Nat) : Int) from by omega]; exact wrap_nat (by omega)
  rw [tree_events.l1, if_pos (by omega), e3, if_pos (by omega), if_pos (by omega)]
  by_cases hr : rd ends ((ends.length : Int) - 1) = (i : Int)
  ·have hc : closeE ends.length out ends i = closeE ends.dropLast.length (out ++ [shutX]) ends.dropLast i := by
    rw [show ends.dropLast.length = d from by rw [List.length_dropLast]; omega, hd]
    simp only [closeE]
    rw [if_pos ⟨hne, hr⟩]
   rw [if_pos hr, Option.bind_some, if_pos (by simp; omega), if_pos (by omega)]
   have hdl : ends.take ((ends.length : Int) - 1).toNat = ends.dropLast := by
    rw [List.dropLast_eq_take]
    congr 1
    omega
   rw [hdl]
   refine l1_f t n x i hi h3 K0 R d (out ++ [⟨3, 0, ⟨#[]⟩, 0⟩]) ends.dropLast k (by rw [List.length_dropLast]; omega) (by rw [List.length_append, List.length_dropLast]; simp; omega) (fun K hK => ?_) (by rw [hc] at hk; show K0 + d + 1 ≤ k + (closeE ends.dropLast.length (out ++ [shutX]) ends.dropLast i).2.length; omega)
   have hs : evStep x i (out ++ [⟨3, 0, ⟨#[]⟩, 0⟩], ends.dropLast) = evStep x i (out, ends) := by
    unfold evStep
    simp only [hc]
    rfl
   rw [hs]
   exact hR K hK
  ·rw [if_neg hr]
   have hc : closeE ends.length out ends i = (out, ends) := by
    rw [hd]
    simp only [closeE]
    rw [if_neg (fun h => hr h.2)]
   have hR' := hR k (by rw [hc] at hk; simp only at hk; omega)
   unfold evStep at hR'
   simp only [hc] at hR'
   by_cases h46 : x.f0 = 46
   ·rw [if_pos h46, Option.bind_some, if_pos (by simp; omega), e1]
    rw [if_pos h46] at hR'
    rw [show ([(⟨1, 0, x.f1, 0⟩ : S47)] : List S47) = [nodeX x] from by unfold nodeX; rw [if_pos h46]]
    exact hR'
   ·rw [if_neg h46, Option.bind_some, if_pos (by simp; omega), Option.bind_some, if_pos (by simp; omega), e1, e2]
    rw [if_neg h46] at hR'
    rw [show ([(⟨2, x.f0, ⟨#[]⟩, 0⟩ : S47)] : List S47) = [nodeX x] from by unfold nodeX; rw [if_neg h46]]
    exact hR'
theorem evStep_len (x : S56) (i : Nat) (s : List S47 × List Int) : (evStep x i s).1.length + (evStep x i s).2.length ≤ s.1.length + s.2.length + 2 ∧ (evStep x i s).2.length ≤ s.2.length + 1 ∧ (evStep x i s).2.length ≤ (closeE s.2.length s.1 s.2 i).2.length + 1 := by
 obtain ⟨g1, g2⟩ := closeE_len s.2.length s.1 s.2 i
 unfold evStep
 split <;> simp <;> omega
theorem l0_f (t : List S56) (ht : t.length ≤ 400000) (h3 : ∀ x ∈ t, 1 ≤ x.f3 ∧ x.f3 ≤ 400000) : ∀ (m i : Nat) (s : List S47 × List Int) (k : Nat), m + i = t.length → s.1.length + s.2.length ≤ 2 * i → s.2.length ≤ i → 4 * m + 2 * s.2.length + 5 ≤ k →
  tree_events.l0 k s.1 s.2 t (t.length : Int) (i : Int) = some ((evRun (t.drop i) i s).1 ++ List.replicate (evRun (t.drop i) i s).2.length shutX)
 | 0, i, s, k, hm, hb, he, hk => by
  obtain ⟨k, rfl⟩ : ∃ q, k = q + 1 := ⟨k - 1, by omega⟩
  rw [tree_events.l0, if_neg (by omega), List.drop_of_length_le (by omega)]
  exact l2_f s.2.length (by omega) s.2.length 0 k s.1 (by omega) (by omega) (by omega)
 | m + 1, i, s, k, hm, hb, he, hk => by
  obtain ⟨k, rfl⟩ : ∃ q, k = q + 1 := ⟨k - 1, by omega⟩
  rw [tree_events.l0, if_pos (by omega), if_pos (by omega), if_pos (by omega), rd56_dropH t i (by omega)]
  obtain ⟨g1, g2, g3⟩ := evStep_len (rd_T56 t i) i s
  have g4 := closeE_len s.2.length s.1 s.2 i
  refine l1_f t _ (rd_T56 t i) i (by omega) (h3 _ (rd56_mem t i (by omega))) (4 * m + 2 * (evStep (rd_T56 t i) i s).2.length + 5) _ s.2.length s.1 s.2 k rfl (by omega) (fun K hK => ?_) (by omega)
  exact l0_f t ht h3 m (i + 1) (evStep (rd_T56 t i) i s) K (by omega) (by omega) (by omega) hK
theorem events_f (t : List S56) (ht : t.length ≤ 400000) (h3 : ∀ x ∈ t, 1 ≤ x.f3 ∧ x.f3 ≤ 400000) (k : Nat) (hk : 4 * t.length + 5 ≤ k) : tree_events.f k t = some (eventsP t) := by
 unfold tree_events.f eventsP
 have := l0_f t ht h3 t.length 0 ([], []) k (by omega) (by simp) (by simp) (by simp; omega)
 exact this
theorem sizedT_all (t : List S56) : ∀ (n a e : Nat), e - a ≤ n → sizedT t a e = true → ∀ i, a ≤ i → i < e → 1 ≤ (rd_T56 t i).f3 ∧ (rd_T56 t i).f3 ≤ (e : Int) - i
 | 0, a, e, h, _, i, h1, h2 => by omega
 | n + 1, a, e, h, hs, i, h1, h2 => by
  rw [sizedT_step t a e (by omega)] at hs
  by_cases hc : 1 ≤ (rd_T56 t a).f3 ∧ (rd_T56 t a).f3 ≤ (e : Int) - a
  ·rw [if_pos hc, Bool.and_eq_true] at hs
   by_cases e1 : i = a
   ·subst e1; exact hc
   ·by_cases e2 : i < a + (rd_T56 t a).f3.toNat
    ·have := sizedT_all t n (a + 1) _ (by omega) hs.1 i (by omega) e2
     exact ⟨this.1, by omega⟩
    ·exact sizedT_all t n _ e (by omega) hs.2 i (by omega) h2
  ·rw [if_neg hc] at hs; cases hs
theorem closeE_mem {P : S47 → Prop} (hs : P shutX) : ∀ (d : Nat) (o : List S47) (e : List Int) (i : Int), (∀ x ∈ o, P x) → ∀ x ∈ (closeE d o e i).1, P x
 | 0, o, e, i, h => h
 | d + 1, o, e, i, h => by
  simp only [closeE]
  split
  ·refine closeE_mem hs d _ _ i fun x hx => ?_
   rcases List.mem_append.1 hx with hx | hx
   ·exact h x hx
   ·rw [List.mem_singleton.1 hx]; exact hs
  ·exact h
theorem evRun_mem {P : S47 → Prop} (hs : P shutX) : ∀ (l : List S56) (i : Nat) (s : List S47 × List Int), (∀ y ∈ l, P (nodeX y)) → (∀ x ∈ s.1, P x) → ∀ x ∈ (evRun l i s).1, P x
 | [], i, s, _, h => h
 | y :: l, i, s, hy, h => by
  refine evRun_mem hs l (i + 1) _ (fun z hz => hy z (List.mem_cons_of_mem _ hz)) fun x hx => ?_
  unfold evStep at hx
  rcases List.mem_append.1 hx with hx | hx
  ·exact closeE_mem hs _ _ _ _ h x hx
  ·rw [List.mem_singleton.1 hx]; exact hy y List.mem_cons_self
theorem events_mem {P : S47 → Prop} (hs : P shutX) (t : List S56) (h : ∀ y ∈ t, P (nodeX y)) : ∀ x ∈ eventsP t, P x := by
 intro x hx
 unfold eventsP at hx
 rcases List.mem_append.1 hx with hx | hx
 ·exact evRun_mem hs t 0 ([], []) h (by intro y hy; cases hy) x hx
 ·rw [(List.mem_replicate.1 hx).2]; exact hs
theorem evRun_len : ∀ (l : List S56) (i : Nat) (s : List S47 × List Int), (evRun l i s).1.length + (evRun l i s).2.length ≤ s.1.length + s.2.length + 2 * l.length
 | [], i, s => by simp [evRun]
 | y :: l, i, s => by
  have h1 := evRun_len l (i + 1) (evStep y i s)
  have h2 := (evStep_len y i s).1
  simp only [evRun, List.length_cons]
  omega
def checkP (t : List S56) : Int := if ((t.any fun x => !plainB x) || !sizedT t 0 t.length) = true then 2 else checkGo bld0 0 (eventsP t)
def NodesOk (t : List S56) : Prop := ∀ x ∈ t, x.f1.size ≤ 1000000 ∧ 0 ≤ x.f0 ∧ x.f0 ≤ 255
theorem rd56_of_mem {t : List S56} {x : S56} (h : x ∈ t) : ∃ i, i < t.length ∧ rd_T56 t i = x := by
 obtain ⟨i, hi, e⟩ := List.mem_iff_getElem.1 h
 refine ⟨i, hi, ?_⟩
 unfold rd_T56
 rw [Int.toNat_natCast, List.getD_eq_getElem?_getD, List.getElem?_eq_getElem hi]
 exact e
theorem check_calls (A0 : Option Addr) (c0 : Nat) (t : List S56) (w : World) (hlen : t.length ≤ 400000) (hk : NodesOk t) (hA : Kd.C k56 w A0 t.length t) (hc0 : t.length ≤ c0) :
  Calls Try.prog 57 #[.slice A0 t.length c0] w fun e w' => e = .returned (.int .i64 (checkP t)) ∧ Below w.heap.size w w' := by
 refine check_run A0 c0 t w hlen (fun x hx => (hk x hx).1) hA hc0 (2 * t.length + 2) (sizedT t 0 t.length) ?_ (4 * t.length + 5) (eventsP t) fun hs => ?_
 ·exact sized_f t (by omega) t.length 0 t.length (2 * t.length + 1) (by omega) (by omega) (by omega) (by omega)
 ·refine ⟨events_f t hlen (fun x hx => ?_) _ (Nat.le_refl _), ?_, events_mem ⟨.inr (.inr rfl), by decide, by decide, by decide, by decide, by decide⟩ t fun y hy => ?_⟩
  ·obtain ⟨i, hi, rfl⟩ := rd56_of_mem hx
   have := sizedT_all t t.length 0 t.length (by omega) hs i (by omega) hi
   omega
  ·have := evRun_len t 0 ([], [])
   unfold eventsP
   simp only [List.length_append, List.length_replicate, List.length_nil] at this ⊢
   omega
  ·obtain ⟨h1, h2, h3⟩ := hk y hy
   unfold nodeX
   split
   ·exact ⟨.inl rfl, by show (0 : Int) ≤ 0; omega, by show (0 : Int) ≤ 255; omega, h1, by show (0 : Int) ≤ 0; omega, by show (0 : Int) ≤ _; omega⟩
   ·exact ⟨.inr (.inl rfl), h2, h3, Nat.zero_le _, by show (0 : Int) ≤ 0; omega, by show (0 : Int) ≤ _; omega⟩
def evF : Nat → List S56 → Nat → Nat → List S47
 | 0, _, _, _ => []
 | n + 1, t, a, e => if a < e then (if (rd_T56 t a).f0 = 46 then nodeX (rd_T56 t a) :: evF n t (a + 1) e
   else nodeX (rd_T56 t a) :: (evF n t (a + 1) (a + (rd_T56 t a).f3.toNat) ++ shutX :: evF n t (a + (rd_T56 t a).f3.toNat) e)) else []
theorem evRun_app : ∀ (l m : List S56) (i : Nat) (s : List S47 × List Int), evRun (l ++ m) i s = evRun m (i + l.length) (evRun l i s)
 | [], m, i, s => by simp [evRun]
 | x :: l, m, i, s => by
  simp only [List.cons_append, evRun, List.length_cons]
  rw [evRun_app l m (i + 1)]
  congr 1
  omega
theorem rd_snoc (e : List Int) (v : Int) : rd (e ++ [v]) (((e ++ [v]).length : Int) - 1) = v := by
 unfold rd
 have : (((e ++ [v]).length : Int) - 1).toNat = e.length := by simp
 rw [this]
 simp
theorem closeE_due (E : List Int) (i : Int) (hE : ∀ v ∈ E, v ≠ i) : ∀ (p d : Nat) (o : List S47), p ≤ d → closeE d o (E ++ List.replicate p i) i = (o ++ List.replicate p shutX, E)
 | 0, d, o, _ => by
  simp only [List.replicate_zero, List.append_nil]
  cases d with
  | zero => rfl
  | succ d =>
   simp only [closeE]
   rw [if_neg]
   rintro ⟨h1, h2⟩
   rcases List.eq_nil_or_concat E with rfl | ⟨E', v, rfl⟩
   ·exact h1 rfl
   ·rw [List.concat_eq_append] at h2 hE
    rw [rd_snoc] at h2
    exact hE v (by simp) h2
 | p + 1, 0, o, h => by omega
 | p + 1, d + 1, o, h => by
  have hs : E ++ List.replicate (p + 1) i = (E ++ List.replicate p i) ++ [i] := by rw [List.replicate_succ', List.append_assoc]
  simp only [closeE]
  rw [hs, if_pos ⟨by simp, rd_snoc _ _⟩, List.dropLast_concat, closeE_due E i hE p d _ (by omega), List.append_assoc]
  congr 2
theorem drop_take_step (t : List S56) (a e : Nat) (h : a < e) (he : e ≤ t.length) : (t.drop a).take (e - a) = rd_T56 t a :: (t.drop (a + 1)).take (e - (a + 1)) := by
 rw [rd56_dropH t a (by omega), show e - a = (e - (a + 1)) + 1 from by omega, List.take_succ_cons]
theorem drop_take_app (t : List S56) (a b e : Nat) (h1 : a ≤ b) (h2 : b ≤ e) : (t.drop a).take (e - a) = (t.drop a).take (b - a) ++ (t.drop b).take (e - b) := by
 have : t.drop b = (t.drop a).drop (b - a) := by rw [List.drop_drop]; congr 1; omega
 rw [this, show e - a = (b - a) + (e - b) from by omega, List.take_add]
theorem evRun_F (t : List S56) (hp : ∀ x ∈ t, x.f0 = 46 → x.f3 = 1) : ∀ (n a e : Nat) (o : List S47) (E : List Int) (p : Nat), e - a ≤ n → a ≤ e → e ≤ t.length → sizedT t a e = true → (∀ v ∈ E, (e : Int) ≤ v) →
  ∃ q o', evRun ((t.drop a).take (e - a)) a (o, E ++ List.replicate p (a : Int)) = (o', E ++ List.replicate q (e : Int)) ∧ o' ++ List.replicate q shutX = o ++ List.replicate p shutX ++ evF n t a e
 | 0, a, e, o, E, p, h, hae, he, hs, hE => by
  obtain rfl : a = e := by omega
  exact ⟨p, o, by simp [evRun], by simp [evF]⟩
 | n + 1, a, e, o, E, p, h, hae, he, hs, hE => by
  by_cases hlt : a < e
  ·rw [sizedT_step t a e hlt] at hs
   by_cases hc : 1 ≤ (rd_T56 t a).f3 ∧ (rd_T56 t a).f3 ≤ (e : Int) - a
   ·rw [if_pos hc, Bool.and_eq_true] at hs
    rw [drop_take_step t a e hlt he]
    simp only [evRun, evF]
    rw [if_pos hlt]
    have hcl : closeE (E ++ List.replicate p (a : Int)).length o (E ++ List.replicate p (a : Int)) (a : Int) = (o ++ List.replicate p shutX, E) :=
     closeE_due E a (fun v hv => by have := hE v hv; omega) p _ o (by simp)
    unfold evStep
    simp only [hcl]
    by_cases h46 : (rd_T56 t a).f0 = 46
    ·rw [if_pos h46, if_pos h46]
     have h1 := hp _ (rd56_mem t a (by omega)) h46
     rw [h1] at hs
     obtain ⟨q, o', g1, g2⟩ := evRun_F t hp n (a + 1) e (o ++ List.replicate p shutX ++ [nodeX (rd_T56 t a)]) E 0 (by omega) (by omega) he hs.2 hE
     rw [List.replicate_zero, List.append_nil] at g1
     refine ⟨q, o', g1, ?_⟩
     rw [g2]
     simp
    ·rw [if_neg h46, if_neg h46]
     obtain ⟨z, hz⟩ : ∃ z : Nat, (rd_T56 t a).f3 = (z : Int) := ⟨(rd_T56 t a).f3.toNat, by omega⟩
     rw [hz] at hs hc ⊢
     simp only [Int.toNat_natCast] at hs ⊢
     have hEz : ∀ v ∈ E ++ [(a : Int) + z], ((a + z : Nat) : Int) ≤ v := by
      intro v hv
      rcases List.mem_append.1 hv with hv | hv
      ·have := hE v hv; omega
      ·rw [List.mem_singleton.1 hv]; omega
     obtain ⟨q1, o1, g1, g2⟩ := evRun_F t hp n (a + 1) (a + z) (o ++ List.replicate p shutX ++ [nodeX (rd_T56 t a)]) (E ++ [(a : Int) + z]) 0 (by omega) (by omega) (by omega) hs.1 hEz
     rw [List.replicate_zero, List.append_nil] at g1
     have hst : E ++ [(a : Int) + z] ++ List.replicate q1 ((a + z : Nat) : Int) = E ++ List.replicate (q1 + 1) ((a + z : Nat) : Int) := by
      rw [List.replicate_succ, List.append_assoc]
      congr 1
     rw [hst] at g1
     obtain ⟨q2, o2, k1, k2⟩ := evRun_F t hp n (a + z) e o1 E (q1 + 1) (by omega) (by omega) he hs.2 hE
     refine ⟨q2, o2, ?_, ?_⟩
     ·rw [drop_take_app t (a + 1) (a + z) e (by omega) (by omega), evRun_app, g1]
      have hl : ((t.drop (a + 1)).take (a + z - (a + 1))).length = a + z - (a + 1) := by
       rw [List.length_take, List.length_drop]; omega
      rw [hl, show a + 1 + (a + z - (a + 1)) = a + z from by omega]
      exact k1
     ·rw [k2, List.replicate_succ', ← List.append_assoc, g2]
      simp
   ·rw [if_neg hc] at hs; cases hs
  ·obtain rfl : a = e := by omega
   refine ⟨p, o, by simp [evRun], ?_⟩
   simp only [evF]
   rw [if_neg (by omega)]
   simp
theorem events_F (t : List S56) (hp : ∀ x ∈ t, x.f0 = 46 → x.f3 = 1) (hs : sizedT t 0 t.length = true) : eventsP t = evF t.length t 0 t.length := by
 obtain ⟨q, o', g1, g2⟩ := evRun_F t hp t.length 0 t.length [] [] 0 (by omega) (by omega) (by omega) hs (by intro v hv; cases hv)
 simp only [List.drop_zero, Nat.sub_zero, List.take_length, List.replicate_zero, List.append_nil, List.nil_append] at g1 g2
 unfold eventsP
 rw [g1]
 simp only [List.nil_append, List.length_replicate]
 exact g2
end Go.Proofs.Ythcmfjpheanphaa.Pr
namespace Go.Proofs.Ythcmfjpheanphaa.Pr
open Go.RowKit Go.Proofs.Ythcmfjpheanphaa.Pure Go.Proofs.YthcmfjpheanphaaW.PrintWords
theorem may_top : mayP [] 46 = false := by decide
theorem text_row (s : Bld) (x : S47) : ((textsP s x).1.row).length = s.row.length := by
 unfold textsP
 split
 ·split <;> simp [kidP_length]
 ·split <;> rfl
theorem open_row (s : Bld) (x : S47) (h : (opensP s x).2.2 = 0) : ((opensP s x).1.row).length = s.row.length + 1 := by
 unfold opensP at h ⊢
 split
 ·simp [kidP_length, markP_length]
 ·rename_i hm
  rw [if_neg hm] at h
  cases h
end Go.Proofs.Ythcmfjpheanphaa.Pr
namespace Go.Proofs.Ythcmfjpheanphaa.Pr
open Go.RowKit Go.Proofs.YthcmfjpheanphaaW.PrintWords Go.Proofs.YthcmfjpheanphaaW.PrintLast Go.Proofs.YthcmfjpheanphaaW.PrintMore
attribute [local go_sem] max2_int min2_int max_two min_two max_three min_three max_four min_four
def styluslaw04_vast.l0 : Nat → List (S56) → Int → Option (Bool)
 | 0, _, _ => none
 | k + 1, x0, x3 => if x3 < (x0.length : Int) then (if 0 ≤ x3 then (if (((rd_T56 x0 x3).f1).size : Int) > 100 then (some true) else (styluslaw04_vast.l0 k x0 (wrap64 (x3 + 1)))) else (none)) else (some false)
def styluslaw04_vast.f (k : Nat) (l0 : List (S56)) : Option (Bool) := if (l0.length : Int) > 150 then (some true) else (styluslaw04_vast.l0 k l0 0)
theorem styluslaw04_vast.mono_l : ∀ k, (∀ y0 y1, LeO (styluslaw04_vast.l0 k y0 y1) (styluslaw04_vast.l0 (k + 1) y0 y1))
 | 0 => fun _ _ r h => by simp [styluslaw04_vast.l0] at h
 | k + 1 => by
  have ih0 := styluslaw04_vast.mono_l k
  ·intro y0 y1
   unfold styluslaw04_vast.l0
   repeat' first
   | (with_reducible exact ih0 _ _)
   | (with_reducible exact LeO.refl _)
   | (with_reducible exact LeO.none _)
   | (with_reducible refine LeO.ite ?_ ?_)
   | (with_reducible refine LeO.bind ?_ (fun _ => ?_))
   | exact ih0 _ _
   | exact LeO.none _
   | refine LeO.ite ?_ ?_
   | refine LeO.bind ?_ (fun _ => ?_)
theorem styluslaw04_vast.mono : ∀ a0 k, LeO (styluslaw04_vast.f k a0) (styluslaw04_vast.f (k + 1) a0) := by
 intro a0 k
 have ih0 := styluslaw04_vast.mono_l k
 unfold styluslaw04_vast.f
 repeat' first
   | (with_reducible exact ih0 _ _)
   | (with_reducible exact LeO.refl _)
   | (with_reducible exact LeO.none _)
   | (with_reducible refine LeO.ite ?_ ?_)
   | (with_reducible refine LeO.bind ?_ (fun _ => ?_))
   | exact ih0 _ _
   | exact LeO.none _
   | refine LeO.ite ?_ ?_
   | refine LeO.bind ?_ (fun _ => ?_)
set_option maxHeartbeats 8000000 in
set_option maxRecDepth 100000 in
theorem styluslaw04_vast.calls (k : Nat) (A0 : Option Addr) (c0 : Nat) (l0 : List (S56)) (r : Bool) (w : World) (hr0 : Kd.C k56 w A0 l0.length l0) (hc0 : l0.length ≤ c0) (h : styluslaw04_vast.f k l0 = some r) :
  Calls Try.prog 59 #[.slice A0 l0.length c0] w fun e w' => e = .returned (.bool r) ∧ Drawn0 w w' := by
 have HR0 := Aside0.mk hr0
 have HC0 := Aside0.mk hc0
 clear hr0 hc0
 have H : (if (l0.length : Int) > 150 then (some true) else (styluslaw04_vast.l0 k l0 0)) = some r := h
 clear h
 by_cases c2 : (l0.length : Int) > 150
 ·rw [if_pos c2] at H
  have c2b0 : decide (150 < (l0.length : Int)) = true := decide_eq_true c2
  have c2b1 : decide (150 < l0.length) = true := decide_eq_true (by omega)
  clear c2
  obtain rfl := Option.some.inj H
  go_enter Try.func59, Try.ntmps59
  go_wp2
  go_ret
  exact ⟨by first | rfl | (simp; done) | (simp [*]; done), by repeat (first | exact Drawn0.refl _ | apply Drawn0.step)⟩
 ·rw [if_neg c2] at H
  have c2b0 : decide (150 < (l0.length : Int)) = false := decide_eq_false c2
  have c2b1 : decide (150 < l0.length) = false := decide_eq_false (by omega)
  clear c2
  have H' := Aside0.mk H
  clear H
  go_enter Try.func59, Try.ntmps59
  go_wp2
  go_loopg [3] k (fun kq v3 w' => ∃ (x3_1 : Int), v3 = .int .i64 x3_1 ∧ Aside0 (styluslaw04_vast.l0 kq l0 x3_1 = some r) ∧ Aside0 (kq ≤ k) ∧ Drawn0 w w')
  case atStart => exact ⟨(0), (by first | rfl | (simp; done) | (simp [*]; done)), H', ⟨Nat.le_refl _⟩, by repeat (first | exact Drawn0.refl _ | apply Drawn0.step)⟩
  case round =>
   clear H'
   try clear c2
   try clear c2b0
   try clear c2b1
   try clear p2
   obtain ⟨x3_1, rfl, HA, HK1, ⟨m1, rfl⟩⟩ := hrel
   cases gk with
   | zero => exact absurd HA.out (by simp [styluslaw04_vast.l0])
   | succ k1 =>
    have H := HA.out
    clear HA
    simp only [styluslaw04_vast.l0] at H
    by_cases c3 : x3_1 < (l0.length : Int)
    ·rw [if_pos c3] at H
     have c3b0 : decide (x3_1 < (l0.length : Int)) = true := decide_eq_true c3
     clear c3
     by_cases c4 : 0 ≤ x3_1
     ·rw [if_pos c4] at H
      have c4b0 : decide (0 ≤ x3_1) = true := decide_eq_true c4
      clear c4
      by_cases c5 : (((rd_T56 l0 x3_1).f1).size : Int) > 100
      ·rw [if_pos c5] at H
       have c5b0 : decide (100 < (((rd_T56 l0 x3_1).f1).size : Int)) = true := decide_eq_true c5
       have c5b1 : decide (100 < ((rd_T56 l0 x3_1).f1).size) = true := decide_eq_true (by omega)
       clear c5
       obtain rfl := Option.some.inj H
       have p288 : 0 ≤ (x3_1 : Int) := of_decide_eq_true (by first | (with_reducible assumption) | assumption)
       have q288 : x3_1 < (l0.length : Int) := of_decide_eq_true (by first | (with_reducible assumption) | assumption)
       obtain ⟨ad288, e288, hx288_0, hx288_1, hx288_2, hx288_3⟩ := at_T56 HR0.out x3_1 p288 q288
       cases e288
       replace p288 := eq_true p288
       replace q288 := eq_true q288
       go_wp2
       go_ret
       exact ⟨by first | rfl | (simp; done) | (simp [*]; done), by repeat (first | exact Drawn0.refl _ | apply Drawn0.step)⟩
      ·rw [if_neg c5] at H
       have c5b0 : decide (100 < (((rd_T56 l0 x3_1).f1).size : Int)) = false := decide_eq_false c5
       have c5b1 : decide (100 < ((rd_T56 l0 x3_1).f1).size) = false := decide_eq_false (by omega)
       clear c5
       have H' := Aside0.mk H
       clear H
       have p288 : 0 ≤ (x3_1 : Int) := of_decide_eq_true (by first | (with_reducible assumption) | assumption)
       have q288 : x3_1 < (l0.length : Int) := of_decide_eq_true (by first | (with_reducible assumption) | assumption)
       obtain ⟨ad288, e288, hx288_0, hx288_1, hx288_2, hx288_3⟩ := at_T56 HR0.out x3_1 p288 q288
       cases e288
       replace p288 := eq_true p288
       replace q288 := eq_true q288
       go_wp2
       go_roundg k1
       case measure => have := HK1.out; omega
       case rel => exact ⟨(wrap64 (x3_1 + 1)), (by first | rfl | (simp; done) | (simp [*]; done)), H', ⟨by have := HK1.out; omega⟩, by repeat (first | exact Drawn0.refl _ | apply Drawn0.step)⟩
     ·rw [if_neg c4] at H
      exact absurd H (by simp)
    ·rw [if_neg c3] at H
     have c3b0 : decide (x3_1 < (l0.length : Int)) = false := decide_eq_false c3
     clear c3
     obtain rfl := Option.some.inj H
     go_wp2
     go_ret
     exact ⟨by first | rfl | (simp; done) | (simp [*]; done), by repeat (first | exact Drawn0.refl _ | apply Drawn0.step)⟩
end Go.Proofs.Ythcmfjpheanphaa.Pr
namespace Go.Proofs.Ythcmfjpheanphaa.Pr
open Go.RowKit Go.Proofs.YthcmfjpheanphaaW.PrintWords
def ErrSet (e : Int) : Prop := e = 0 ∨ e = 2 ∨ e = 4 ∨ e = 5
theorem stepP_err (s : Bld) (x : S47) : ErrSet (stepP s x).2.2 := by
 unfold stepP ErrSet
 split
 ·unfold textsP
  split
  ·split
   ·simp only; split <;> simp
   ·simp only; split <;> simp
  ·split <;> simp
 ·split
  ·unfold opensP
   split
   ·simp only
    split
    ·simp
    ·split <;> simp
   ·simp
  ·unfold shutsP
   split
   ·simp
   ·simp only; split <;> simp
theorem worse_zero {a e : Int} (ha : a = 0 ∨ a = 4 ∨ a = 5) (he : ErrSet e) : (worseP a e = 0 → a = 0 ∧ e = 0) ∧ (worseP a e = 0 ∨ worseP a e = 2 ∨ worseP a e = 4 ∨ worseP a e = 5) := by
 rcases ha with rfl | rfl | rfl <;> rcases he with rfl | rfl | rfl | rfl <;> decide
def okR : Bld → List S47 → Bool
 | _, [] => true
 | s, x :: l => !(x.f0 == 1 && !mayP s.row 46) && ((stepP s x).2.2 == 0 && okR (stepP s x).1 l)
theorem checkGo_zero : ∀ (l : List S47) (s : Bld) (out : Int), (out = 0 ∨ out = 4 ∨ out = 5) → checkGo s out l = 0 → out = 0 ∧ okR s l = true
 | [], s, out, _, h => ⟨h, rfl⟩
 | x :: l, s, out, ho, h => by
  simp only [checkGo] at h
  by_cases h1 : (x.f0 == 1 && !mayP s.row 46) = true
  ·rw [if_pos h1] at h; cases h
  ·rw [if_neg h1] at h
   obtain ⟨g1, g2⟩ := worse_zero ho (stepP_err s x)
   by_cases h2 : worseP out (stepP s x).2.2 = 2
   ·rw [if_pos h2] at h; cases h
   ·rw [if_neg h2] at h
    obtain ⟨k1, k2⟩ := checkGo_zero l (stepP s x).1 _ (by omega) h
    obtain ⟨m1, m2⟩ := g1 k1
    refine ⟨m1, ?_⟩
    simp only [okR]
    have : (x.f0 == 1 && !mayP s.row 46) = false := by simpa using h1
    rw [this, m2, k2]
    rfl
theorem okR_check : ∀ (l : List S47) (s : Bld), okR s l = true → checkGo s 0 l = 0
 | [], s, _ => rfl
 | x :: l, s, h => by
  simp only [okR, Bool.and_eq_true, beq_iff_eq] at h
  obtain ⟨h1, h2, h3⟩ := h
  simp only [checkGo]
  have h1' : (x.f0 == 1 && !mayP s.row 46) = false := by
   cases hc : (x.f0 == 1 && !mayP s.row 46) with
   | false => rfl
   | true => rw [hc] at h1; cases h1
  rw [h1', h2, if_neg (by decide), show worseP 0 0 = 0 from by decide, if_neg (by decide)]
  exact okR_check l _ h3
theorem okR_run : ∀ (l : List S47) (s : Bld), okR s l = true → (runP s l).2.2 = 0
 | [], s, _ => rfl
 | x :: l, s, h => by
  simp only [okR, Bool.and_eq_true, beq_iff_eq] at h
  simp only [runP]
  rw [if_pos h.2.1]
  exact okR_run l _ h.2.2
theorem okR_app : ∀ (l m : List S47) (s : Bld), okR s (l ++ m) = true ↔ (okR s l = true ∧ okR (runP s l).1 m = true)
 | [], m, s => by simp [okR, runP]
 | x :: l, m, s => by
  simp only [List.cons_append, okR, Bool.and_eq_true, beq_iff_eq, runP]
  constructor
  ·rintro ⟨h1, h2, h3⟩
   rw [if_pos h2]
   obtain ⟨g1, g2⟩ := (okR_app l m _).1 h3
   exact ⟨⟨h1, h2, g1⟩, g2⟩
  ·rintro ⟨⟨h1, h2, h3⟩, h4⟩
   rw [if_pos h2] at h4
   exact ⟨h1, h2, (okR_app l m _).2 ⟨h3, h4⟩⟩
theorem shut_row (s : Bld) (x : S47) (h : (shutsP s x).2.2 = 0) : (shutsP s x).1.row.length + 1 = s.row.length := by
 unfold shutsP at h ⊢
 by_cases hr : s.row = []
 ·rw [if_pos hr] at h; cases h
 ·rw [if_neg hr]
  have hp : 0 < s.row.length := List.length_pos_iff.2 hr
  have hw : ((wholeP s.row.dropLast (topP s.row)).1).length = s.row.dropLast.length := by
   unfold wholeP
   split
   ·rfl
   ·split
    ·split
     ·split
      ·exact List.length_modify ..
      ·rfl
     ·rfl
    ·rfl
  show ((wholeP s.row.dropLast (topP s.row)).1).length + 1 = _
  rw [hw, List.length_dropLast]
  omega
theorem ok_cons {s : Bld} {x : S47} {l : List S47} (h : okR s (x :: l) = true) : (stepP s x).2.2 = 0 ∧ okR (stepP s x).1 l = true ∧ runP s (x :: l) = runP (stepP s x).1 l ∧ (x.f0 = 1 → mayP s.row 46 = true) := by
 simp only [okR, Bool.and_eq_true, beq_iff_eq] at h
 refine ⟨h.2.1, h.2.2, ?_, fun e => ?_⟩
 ·simp only [runP]; rw [if_pos h.2.1]
 ·have := h.1
  rw [e] at this
  simpa using this
theorem nodeX_text {x : S56} (h : x.f0 = 46) : (nodeX x).f0 = 1 := by unfold nodeX; rw [if_pos h]
theorem nodeX_open {x : S56} (h : ¬ x.f0 = 46) : (nodeX x).f0 = 2 := by unfold nodeX; rw [if_neg h]
theorem evF_row (t : List S56) : ∀ (n a e : Nat) (s : Bld), okR s (evF n t a e) = true → (runP s (evF n t a e)).1.row.length = s.row.length
 | 0, a, e, s, _ => rfl
 | n + 1, a, e, s, h => by
  simp only [evF] at h ⊢
  by_cases hlt : a < e
  ·rw [if_pos hlt] at h ⊢
   by_cases h46 : (rd_T56 t a).f0 = 46
   ·rw [if_pos h46] at h ⊢
    obtain ⟨h1, h2, h3, _⟩ := ok_cons h
    rw [h3, evF_row t n _ _ _ h2]
    unfold stepP
    rw [if_pos (nodeX_text h46)]
    exact text_row s _
   ·rw [if_neg h46] at h ⊢
    obtain ⟨h1, h2, h3, _⟩ := ok_cons h
    obtain ⟨g1, g2⟩ := (okR_app _ _ _).1 h2
    have k1 := evF_row t n _ _ _ g1
    rw [h3, runP_app _ _ _ (okR_run _ _ g1)]
    obtain ⟨m1, m2, m3, _⟩ := ok_cons g2
    rw [m3, evF_row t n _ _ _ m2]
    have q1 : (stepP s (nodeX (rd_T56 t a))).1.row.length = s.row.length + 1 := by
     unfold stepP at h1 ⊢
     rw [if_neg (by rw [nodeX_open h46]; decide), if_pos (nodeX_open h46)] at h1 ⊢
     exact open_row s _ h1
    have q2 := m1
    unfold stepP at q2 ⊢
    rw [if_neg (by decide), if_neg (by decide)] at q2
    rw [if_neg (by decide : ¬ shutX.f0 = 1), if_neg (by decide : ¬ shutX.f0 = 2)]
    have := shut_row _ _ q2
    unfold stepP at k1 q1
    omega
  ·rw [if_neg hlt]; rfl
def growP (r : List Opn) (x : S47) : Nat := if x.f0 = 1 then (if mayP r 46 = true then 1 else 0) else if x.f0 = 2 then 1 else 0
theorem stepP_grow (s : Bld) (x : S47) (h : (stepP s x).2.2 = 0) : (stepP s x).1.t.length = s.t.length + growP s.row x ∧ (s.t.length ≤ 2000 → s.t.length + growP s.row x ≤ 2000) := by
 unfold stepP at h ⊢
 unfold growP
 by_cases h1 : x.f0 = 1
 ·simp only [if_pos h1] at h ⊢
  unfold textsP at h ⊢
  by_cases hm : mayP s.row 46 = true
  ·simp only [if_pos hm] at h ⊢
   cases ha : aroundP [110] (kidP s.row) (kidP s.row).length with
   | none =>
    simp only [ha] at h ⊢
    by_cases hb : 2000 < s.t.length + 1
    ·rw [if_pos hb] at h; cases h
    ·exact ⟨by simp, by omega⟩
   | some j =>
    simp only [ha] at h ⊢
    by_cases hb : 60 < wrap64 (((kidP s.row).getD j zOpn).text + x.f2.size) ∨ 2000 < s.t.length + 1
    ·rw [if_pos hb] at h; cases h
    ·exact ⟨by simp, by omega⟩
  ·simp only [if_neg hm] at h ⊢
   by_cases hb : blackP x.f2 x.f2.size 0 < x.f2.size
   ·simp only [if_pos hb] at h; cases h
   ·simp only [if_neg hb]; exact ⟨rfl, fun k => k⟩
 ·simp only [if_neg h1] at h ⊢
  by_cases h2 : x.f0 = 2
  ·simp only [if_pos h2] at h ⊢
   unfold opensP at h ⊢
   by_cases hm : mayP s.row x.f1 = true
   ·simp only [if_pos hm] at h ⊢
    by_cases hd : 32 < s.row.length + 1 ∨ 8 < hasP 108 (kidP (markP s.row x.f1) ++ [⟨x.f1, s.t.length, 0, 0, false, 0, 0⟩])
    ·rw [if_pos hd] at h; cases h
    ·rw [if_neg hd] at h
     by_cases hb : 2000 < s.t.length + 1
     ·rw [if_pos hb] at h; cases h
     ·exact ⟨by simp, by omega⟩
   ·simp only [if_neg hm] at h; cases h
  ·simp only [if_neg h2] at h ⊢
   unfold shutsP at h ⊢
   by_cases hr : s.row = []
   ·simp only [if_pos hr] at h; cases h
   ·simp only [if_neg hr] at h ⊢
    exact ⟨by simp, fun k => k⟩
theorem stepP_back (T : List S56) (s : Bld) (x : S47) (h : (stepP (shB T 0 s) x).2.2 = 0) (hp : PosIn s) (hn : T.length + s.t.length ≤ 2000) :
  (stepP s x).2.2 = 0 ∧ (stepP (shB T 0 s) x).1 = shB T 0 (stepP s x).1 ∧ T.length + (stepP s x).1.t.length ≤ 2000 := by
 have hx : shX 0 x = x := by unfold shX; simp
 have h0 : (stepP s x).2.2 = 0 := by
  have er : (shB T 0 s).row = s.row.map (shO T.length) := rfl
  have et : (shB T 0 s).t = T ++ s.t.map (shN 0) := rfl
  unfold stepP at h ⊢
  by_cases h1 : x.f0 = 1
  ·simp only [if_pos h1] at h ⊢
   unfold textsP at h ⊢
   rw [er, et, mayP_sh, kidP_sh, List.length_map, aroundP_sh _ _ _ _ (Nat.le_refl _)] at h
   by_cases hm : mayP s.row 46 = true
   ·simp only [if_pos hm] at h ⊢
    cases ha : aroundP [110] (kidP s.row) (kidP s.row).length with
    | none =>
     simp only [ha] at h ⊢
     by_cases hb : 2000 < (T ++ s.t.map (shN 0)).length + 1
     ·rw [if_pos hb] at h; cases h
     ·rw [if_neg (by simp only [List.length_append, List.length_map] at hb; omega)]
    | some j =>
     simp only [ha] at h ⊢
     simp only [getD_sh _ _ j (aroundP_lt _ _ _ _ ha)] at h
     have e3 : (shO T.length ((kidP s.row).getD j zOpn)).text = ((kidP s.row).getD j zOpn).text := rfl
     rw [e3] at h
     by_cases hb : 60 < wrap64 (((kidP s.row).getD j zOpn).text + x.f2.size) ∨ 2000 < (T ++ s.t.map (shN 0)).length + 1
     ·rw [if_pos hb] at h; cases h
     ·rw [if_neg]
      rintro (h6 | h6)
      ·exact hb (.inl h6)
      ·exact hb (.inr (by simp only [List.length_append, List.length_map]; omega))
   ·simp only [if_neg hm] at h ⊢
    by_cases hb : blackP x.f2 x.f2.size 0 < x.f2.size
    ·simp only [if_pos hb] at h; cases h
    ·simp only [if_neg hb]
  ·simp only [if_neg h1] at h ⊢
   by_cases h2 : x.f0 = 2
   ·simp only [if_pos h2] at h ⊢
    unfold opensP at h ⊢
    rw [er, et, mayP_sh, markP_sh, kidP_sh] at h
    by_cases hm : mayP s.row x.f1 = true
    ·simp only [if_pos hm] at h ⊢
     have ho : ((kidP (markP s.row x.f1)).map (shO T.length) ++ [(⟨x.f1, ((T ++ s.t.map (shN 0)).length : Int), 0, 0, false, 0, 0⟩ : Opn)]) = (kidP (markP s.row x.f1) ++ [(⟨x.f1, s.t.length, 0, 0, false, 0, 0⟩ : Opn)]).map (shO T.length) := by
      simp only [List.map_append, List.map_cons, List.map_nil, shO, List.length_append, List.length_map, List.append_cancel_left_eq, List.cons.injEq, and_true, Opn.mk.injEq, true_and]
      omega
     rw [ho, hasP_sh, List.length_map] at h
     by_cases hd : 32 < s.row.length + 1 ∨ 8 < hasP 108 (kidP (markP s.row x.f1) ++ [⟨x.f1, s.t.length, 0, 0, false, 0, 0⟩])
     ·rw [if_pos hd] at h; cases h
     ·rw [if_neg hd] at h ⊢
      by_cases hb : 2000 < (T ++ s.t.map (shN 0)).length + 1
      ·rw [if_pos hb] at h; cases h
      ·rw [if_neg (by simp only [List.length_append, List.length_map] at hb; omega)]
    ·simp only [if_neg hm] at h; cases h
   ·simp only [if_neg h2] at h ⊢
    unfold shutsP at h ⊢
    rw [er, et] at h
    by_cases hr : s.row = []
    ·rw [if_pos (by rw [hr]; rfl)] at h; cases h
    ·rw [if_neg (by simpa using hr)] at h
     rw [if_neg hr]
     rw [topP_sh _ _ hr, show (List.map (shO T.length) s.row).dropLast = s.row.dropLast.map (shO T.length) from by rw [List.map_dropLast], wholeP_sh] at h
     exact h
 obtain ⟨g1, g2⟩ := stepP_grow s x h0
 obtain ⟨k1, k2⟩ := stepP_grow _ x (by
  have := hx
  exact h)
 have er : (shB T 0 s).row = s.row.map (shO T.length) := rfl
 have et : (shB T 0 s).t.length = T.length + s.t.length := by show (T ++ s.t.map (shN 0)).length = _; simp
 have eg : growP (shB T 0 s).row x = growP s.row x := by
  unfold growP; rw [er, mayP_sh]
 rw [et, eg] at k2
 have hb : T.length + (stepP s x).1.t.length ≤ 2000 := by
  have := k2 hn
  omega
 have := stepP_sh T 0 s x hp h0 hb
 rw [hx] at this
 exact ⟨h0, by rw [this], hb⟩
theorem okR_back (T : List S56) : ∀ (l : List S47) (s : Bld), okR (shB T 0 s) l = true → PosIn s → T.length + s.t.length ≤ 2000 → okR s l = true
 | [], s, _, _, _ => rfl
 | x :: l, s, h, hp, hn => by
  obtain ⟨h1, h2, h3, h4⟩ := ok_cons h
  obtain ⟨g1, g2, g3⟩ := stepP_back T s x h1 hp hn
  rw [g2] at h2
  simp only [okR, g1, okR_back T l _ h2 (stepP_pos s x hp) g3]
  have e : (x.f0 == 1 && !mayP s.row 46) = false := by
   by_cases hx : x.f0 = 1
   ·have := h4 hx
    have er : (shB T 0 s).row = s.row.map (shO T.length) := rfl
    rw [er, mayP_sh] at this
    rw [this]; simp
   ·simp [hx]
  rw [e]; rfl
theorem rd56_nat (t : List S56) (i : Nat) : rd_T56 t (i : Int) = t.getD i ⟨0, ⟨#[]⟩, 0, 0⟩ := by unfold rd_T56; rw [Int.toNat_natCast]; rfl
theorem rd_block (t : List S56) (p m i : Nat) (hi : i < m) (hp : p + m ≤ t.length) : rd_T56 ((t.drop p).take m) i = rd_T56 t ((p + i : Nat) : Int) := by
 rw [rd56_nat, rd56_nat]
 simp only [List.getD_eq_getElem?_getD]
 rw [List.getElem?_take_of_lt hi, List.getElem?_drop]
theorem sizedB_block (t : List S56) (p m : Nat) (hp : p + m ≤ t.length) : ∀ (n a e : Nat), e ≤ m → sizedB n ((t.drop p).take m) a e = sizedB n t (p + a) (p + e)
 | 0, a, e, _ => rfl
 | n + 1, a, e, he => by
  simp only [sizedB]
  by_cases hlt : a < e
  ·have hlt2 : p + a < p + e := by omega
   rw [if_pos hlt, if_pos hlt2, rd_block t p m a (by omega) hp]
   have e1 : ((p + e : Nat) : Int) - ((p + a : Nat) : Int) = (e : Int) - a := by omega
   rw [e1]
   by_cases hs : 1 ≤ (rd_T56 t ((p + a : Nat) : Int)).f3 ∧ (rd_T56 t ((p + a : Nat) : Int)).f3 ≤ (e : Int) - a
   ·rw [if_pos hs, if_pos hs, sizedB_block t p m hp n (a + 1) _ (by omega), sizedB_block t p m hp n _ e he]
    rw [Nat.add_assoc, Nat.add_assoc]
   ·rw [if_neg hs, if_neg hs]
  ·rw [if_neg hlt, if_neg (by omega)]
theorem sizedT_block (t : List S56) (p m : Nat) (hp : p + m ≤ t.length) : sizedT ((t.drop p).take m) 0 m = sizedT t p (p + m) := by
 unfold sizedT
 rw [sizedB_block t p m hp _ 0 m (Nat.le_refl _), Nat.add_zero]
 congr 1
 omega
theorem evF_more (t : List S56) (hp : ∀ x ∈ t, x.f0 = 46 → x.f3 = 1) : ∀ (n m a e : Nat), e - a ≤ n → e - a ≤ m → e ≤ t.length → sizedT t a e = true → evF n t a e = evF m t a e
 | 0, m, a, e, h1, h2, _, hs => by
  cases m with
  | zero => rfl
  | succ m => simp only [evF]; rw [if_neg (by omega)]
 | n + 1, 0, a, e, h1, h2, _, hs => by simp only [evF]; rw [if_neg (by omega)]
 | n + 1, m + 1, a, e, h1, h2, he, hs => by
  simp only [evF]
  by_cases hlt : a < e
  ·rw [if_pos hlt, if_pos hlt]
   rw [sizedT_step t a e hlt] at hs
   by_cases hc : 1 ≤ (rd_T56 t a).f3 ∧ (rd_T56 t a).f3 ≤ (e : Int) - a
   ·rw [if_pos hc, Bool.and_eq_true] at hs
    by_cases h46 : (rd_T56 t a).f0 = 46
    ·rw [hp _ (rd56_mem t a (by omega)) h46] at hs
     rw [if_pos h46, if_pos h46, evF_more t hp n m (a + 1) e (by omega) (by omega) he hs.2]
    ·rw [if_neg h46, if_neg h46, evF_more t hp n m (a + 1) _ (by omega) (by omega) (by omega) hs.1, evF_more t hp n m _ e (by omega) (by omega) he hs.2]
   ·rw [if_neg hc] at hs; cases hs
  ·rw [if_neg hlt, if_neg hlt]
theorem evF_block (t : List S56) (hq : ∀ x ∈ t, x.f0 = 46 → x.f3 = 1) (p m : Nat) (hp : p + m ≤ t.length) : ∀ (n a e : Nat), e ≤ m → sizedT t (p + a) (p + e) = true → evF n ((t.drop p).take m) a e = evF n t (p + a) (p + e)
 | 0, a, e, _, _ => rfl
 | n + 1, a, e, he, hs => by
  simp only [evF]
  by_cases hlt : a < e
  ·have hlt2 : p + a < p + e := by omega
   rw [sizedT_step t _ _ hlt2] at hs
   by_cases hc : 1 ≤ (rd_T56 t ((p + a : Nat) : Int)).f3 ∧ (rd_T56 t ((p + a : Nat) : Int)).f3 ≤ ((p + e : Nat) : Int) - ((p + a : Nat) : Int)
   ·rw [if_pos hc, Bool.and_eq_true] at hs
    rw [if_pos hlt, if_pos hlt2, rd_block t p m a (by omega) hp]
    by_cases h46 : (rd_T56 t ((p + a : Nat) : Int)).f0 = 46
    ·have h1 := hs.2
     rw [hq _ (rd56_mem t (p + a) (by omega)) h46] at h1
     rw [if_pos h46, if_pos h46, evF_block t hq p m hp n (a + 1) e he h1]
     rfl
    ·rw [if_neg h46, if_neg h46]
     have hs1 := hs.1
     have hs2 := hs.2
     rw [Nat.add_assoc] at hs1 hs2
     rw [Nat.add_assoc p a] at hs1
     rw [evF_block t hq p m hp n (a + 1) _ (by omega) hs1, evF_block t hq p m hp n _ e he hs2]
     rw [Nat.add_assoc, Nat.add_assoc]
   ·rw [if_neg hc] at hs; cases hs
  ·have hlt2 : ¬ p + a < p + e := by omega
   rw [if_neg hlt, if_neg hlt2]
theorem plain_one {x : S56} (h : plainB x = true) (h46 : x.f0 = 46) : x.f3 = 1 := by
 unfold plainB at h
 rw [if_pos h46] at h
 simp only [Bool.and_eq_true, beq_iff_eq] at h
 exact h.2.1
theorem check_parts {t : List S56} (h : checkP t = 0) : (∀ x ∈ t, plainB x = true) ∧ sizedT t 0 t.length = true ∧ okR bld0 (eventsP t) = true := by
 unfold checkP at h
 by_cases hc : ((t.any fun x => !plainB x) || !sizedT t 0 t.length) = true
 ·rw [if_pos hc] at h; cases h
 ·rw [if_neg hc] at h
  have hc' : ((t.any fun x => !plainB x) || !sizedT t 0 t.length) = false := by simpa using hc
  rw [Bool.or_eq_false_iff] at hc'
  refine ⟨fun x hx => ?_, by simpa using hc'.2, (checkGo_zero _ _ 0 (.inl rfl) h).2⟩
  have := List.any_eq_false.1 hc'.1 x hx
  simpa using this
theorem check_mk {t : List S56} (h1 : ∀ x ∈ t, plainB x = true) (h2 : sizedT t 0 t.length = true) (h3 : okR bld0 (eventsP t) = true) : checkP t = 0 := by
 unfold checkP
 rw [if_neg]
 ·exact okR_check _ _ h3
 ·rw [h2]
  simp only [Bool.not_true, Bool.or_false, Bool.not_eq_true]
  rw [List.any_eq_false]
  intro x hx
  rw [h1 x hx]; decide
def Start (t : List S56) (a : Nat) : Prop := a ≤ t.length ∧ sizedT t a t.length = true ∧ ∃ s : Bld, s.row = [] ∧ s.t.length ≤ 2000 ∧ okR s (evF t.length t a t.length) = true
theorem start0 {t : List S56} (h : checkP t = 0) : Start t 0 := by
 obtain ⟨h1, h2, h3⟩ := check_parts h
 rw [events_F t (fun x hx => plain_one (h1 x hx)) h2] at h3
 exact ⟨Nat.zero_le _, h2, bld0, rfl, by decide, h3⟩
theorem stepP_bound (s : Bld) (x : S47) (h : (stepP s x).2.2 = 0) (hn : s.t.length ≤ 2000) : (stepP s x).1.t.length ≤ 2000 := by
 obtain ⟨g1, g2⟩ := stepP_grow s x h
 have := g2 hn
 omega
theorem okR_bound : ∀ (l : List S47) (s : Bld), okR s l = true → s.t.length ≤ 2000 → (runP s l).1.t.length ≤ 2000
 | [], s, _, h => h
 | x :: l, s, h, hn => by
  obtain ⟨h1, h2, h3, _⟩ := ok_cons h
  rw [h3]
  exact okR_bound l _ h2 (stepP_bound s x h1 hn)
theorem block_step {t : List S56} {a : Nat} (hpl : ∀ x ∈ t, plainB x = true) (h : Start t a) (ha : a < t.length) :
  ∃ m : Nat, 1 ≤ m ∧ a + m ≤ t.length ∧ (rd_T56 t a).f3 = (m : Int) ∧ checkP ((t.drop a).take m) = 0 ∧ Start t (a + m) := by
 have hq : ∀ x ∈ t, x.f0 = 46 → x.f3 = 1 := fun x hx => plain_one (hpl x hx)
 obtain ⟨h1, h2, s, h3, h4, h5⟩ := h
 rw [sizedT_step t a _ ha] at h2
 by_cases hc : 1 ≤ (rd_T56 t a).f3 ∧ (rd_T56 t a).f3 ≤ (t.length : Int) - a
 ·rw [if_pos hc, Bool.and_eq_true] at h2
  obtain ⟨m, hm⟩ : ∃ m : Nat, (rd_T56 t a).f3 = (m : Int) := ⟨(rd_T56 t a).f3.toNat, by omega⟩
  rw [hm, Int.toNat_natCast] at h2
  rw [hm] at hc
  have hsz : sizedT t a (a + m) = true := by
   rw [sizedT_step t a (a + m) (by omega), hm, if_pos ⟨hc.1, by omega⟩, Int.toNat_natCast, h2.1, sizedT_end t _ _ (by omega)]
   rfl
  refine ⟨m, by omega, by omega, hm, ?_⟩
  have hlen : ((t.drop a).take m).length = m := by rw [List.length_take, List.length_drop]; omega
  obtain ⟨n, hn⟩ : ∃ n, t.length = n + 1 := ⟨t.length - 1, by omega⟩
  have h5' := h5
  rw [show evF t.length t a t.length = evF (n + 1) t a t.length from by rw [← hn]] at h5'
  simp only [evF] at h5'
  rw [if_pos ha] at h5'
  by_cases h46 : (rd_T56 t a).f0 = 46
  ·rw [if_pos h46] at h5'
   have := (ok_cons h5').2.2.2 (nodeX_text h46)
   rw [h3, may_top] at this
   cases this
  ·rw [if_neg h46, hm, Int.toNat_natCast] at h5'
   have h6 : okR s ((nodeX (rd_T56 t a) :: (evF n t (a + 1) (a + m) ++ [shutX])) ++ evF n t (a + m) t.length) = true := by
    rw [List.cons_append, List.append_assoc]
    exact h5'
   obtain ⟨k1, k2⟩ := (okR_app _ _ _).1 h6
   have hev : nodeX (rd_T56 t a) :: (evF n t (a + 1) (a + m) ++ [shutX]) = evF (m + 1) t a (a + m) := by
    simp only [evF]
    rw [if_pos (by omega), if_neg h46, hm, Int.toNat_natCast, evF_more t hq m n (a + 1) (a + m) (by omega) (by omega) (by omega) h2.1]
    congr 2
    cases m with
    | zero => rfl
    | succ m => simp only [evF]; rw [if_neg (by omega)]
   have hev2 : evF (m + 1) t a (a + m) = evF m ((t.drop a).take m) 0 m := by
    have := evF_block t hq a m (by omega) m 0 m (Nat.le_refl _) (by rw [Nat.add_zero]; exact hsz)
    rw [Nat.add_zero] at this
    rw [this]
    exact evF_more t hq _ _ a (a + m) (by omega) (by omega) (by omega) hsz
   have hsub : ∀ x ∈ (t.drop a).take m, x ∈ t := fun x hx => List.mem_of_mem_drop (List.mem_of_mem_take hx)
   refine ⟨check_mk (fun x hx => hpl x (hsub x hx)) (by rw [hlen, sizedT_block t a m (by omega)]; exact hsz) ?_, ?_⟩
   ·rw [events_F _ (fun x hx => hq x (hsub x hx)) (by rw [hlen, sizedT_block t a m (by omega)]; exact hsz), hlen, ← hev2, ← hev]
    refine okR_back s.t _ bld0 ?_ (by intro o ho; cases ho) (by show s.t.length + 0 ≤ 2000; omega)
    have : shB s.t 0 bld0 = s := by
     obtain ⟨r, tt⟩ := s
     simp only at h3
     subst h3
     simp [shB, bld0]
    rw [this]
    exact k1
   ·refine ⟨by omega, h2.2, (runP s (nodeX (rd_T56 t a) :: (evF n t (a + 1) (a + m) ++ [shutX]))).1, ?_, okR_bound _ _ k1 h4, ?_⟩
    ·have := evF_row t (m + 1) a (a + m) s (by rw [← hev]; exact k1)
     rw [← hev, h3] at this
     exact List.eq_nil_of_length_eq_zero (by simpa using this)
    ·rw [evF_more t hq t.length n (a + m) t.length (by omega) (by omega) (Nat.le_refl _) h2.2]
     exact k2
 ·rw [if_neg hc] at h2; cases h2
theorem eqN_self (x : S56) : eqN x x = true := by simp [eqN]
theorem eqN_comm (x y : S56) : eqN x y = eqN y x := by
 unfold eqN
 rw [Bool.eq_iff_iff]
 simp only [Bool.and_eq_true, beq_iff_eq]
 constructor <;> intro h <;> simp_all
theorem sameL_self : ∀ t : List S56, sameL t t = true
 | [] => rfl
 | x :: t => by simp only [sameL]; rw [eqN_self, sameL_self t]; rfl
theorem sameL_comm : ∀ t u : List S56, sameL t u = sameL u t
 | [], [] => rfl
 | [], _ :: _ => rfl
 | _ :: _, [] => rfl
 | x :: t, y :: u => by simp only [sameL]; rw [eqN_comm, sameL_comm t u]
theorem vast_no : ∀ (t : List S56) (m i k : Nat), t.length ≤ 150 → m + i = t.length → m + 1 ≤ k → ∃ b, styluslaw04_vast.l0 k t i = some b ∧ (b = false → ∀ j, i ≤ j → j < t.length → (rd_T56 t j).f1.size ≤ 100)
 | t, 0, i, k, ht, h, hk => by
  obtain ⟨k, rfl⟩ : ∃ q, k = q + 1 := ⟨k - 1, by omega⟩
  rw [styluslaw04_vast.l0, if_neg (by omega)]
  exact ⟨false, rfl, fun _ j h1 h2 => by omega⟩
 | t, m + 1, i, k, ht, h, hk => by
  obtain ⟨k, rfl⟩ : ∃ q, k = q + 1 := ⟨k - 1, by omega⟩
  rw [styluslaw04_vast.l0, if_pos (by omega), if_pos (by omega)]
  by_cases hv : (((rd_T56 t i).f1).size : Int) > 100
  ·rw [if_pos hv]; exact ⟨true, rfl, fun h => by cases h⟩
  ·rw [if_neg hv, show wrap64 ((i : Int) + 1) = ((i + 1 : Nat) : Int) from by rw [show (i : Int) + 1 = ((i + 1 : Nat) : Int) from by omega]; exact wrap_nat (by omega)]
   obtain ⟨b, hb1, hb2⟩ := vast_no t m (i + 1) k ht (by omega) (by omega)
   refine ⟨b, hb1, fun hf j h1 h2 => ?_⟩
   by_cases e : j = i
   ·subst e; omega
   ·exact hb2 hf j (by omega) h2
theorem vast_f (t : List S56) : ∃ b, styluslaw04_vast.f (t.length + 1) t = some b ∧ (b = false → t.length ≤ 150 ∧ ∀ x ∈ t, x.f1.size ≤ 100) := by
 unfold styluslaw04_vast.f
 by_cases h : (t.length : Int) > 150
 ·rw [if_pos h]; exact ⟨true, rfl, fun h => by cases h⟩
 ·rw [if_neg h]
  obtain ⟨b, h1, h2⟩ := vast_no t t.length 0 (t.length + 1) (by omega) rfl (Nat.le_refl _)
  refine ⟨b, h1, fun hf => ⟨by omega, fun x hx => ?_⟩⟩
  obtain ⟨j, hj, rfl⟩ := rd56_of_mem hx
  exact h2 hf j (Nat.zero_le _) hj
end Go.Proofs.Ythcmfjpheanphaa.Pr
namespace Go.Proofs.Ythcmfjpheanphaa.Pr
open Go.RowKit Go.Maps Go.Proofs.YthcmfjpheanphaaW.PrintWords
attribute [local go_sem] Oper.semAt_some
theorem vast_calls (A0 : Option Addr) (c0 : Nat) (t : List S56) (w : World) (hA : Kd.C k56 w A0 t.length t) (hc0 : t.length ≤ c0) :
  ∃ b, (b = false → t.length ≤ 150 ∧ ∀ x ∈ t, x.f1.size ≤ 100) ∧ ∀ W, Below w.heap.size w W → Calls Try.prog 59 #[.slice A0 t.length c0] W fun e w' => e = .returned (.bool b) ∧ Below W.heap.size W w' := by
 obtain ⟨b, h1, h2⟩ := vast_f t
 refine ⟨b, h2, fun W hW => ?_⟩
 refine (styluslaw04_vast.calls (t.length + 1) A0 c0 t b W (Kd.C_below hA hW) hc0 h1).mono ?_
 rintro e w' ⟨rfl, hd⟩
 exact ⟨rfl, hd.below⟩
set_option pp.maxSteps 3000 in
set_option maxRecDepth 100000 in
set_option maxHeartbeats 8000000 in
theorem treeParts_walk (A0 : Option Addr) (c0 : Nat) (t : List S56) (A1 : Option Addr) (c1 : Nat) (u : List S56) (w : World)
  (hA0 : Kd.C k56 w A0 t.length t) (hc0 : t.length ≤ c0) (hA1 : Kd.C k56 w A1 u.length u) (hc1 : u.length ≤ c1) (hk : ∀ x ∈ t, 0 ≤ x.f0 ∧ x.f0 ≤ 255) :
  Calls Try.prog 15 #[.slice A0 t.length c0, .slice A1 u.length c1] w fun e w' => e = .returned (.bool true) ∧ Below w.heap.size w w' := by
 have Haw := Lib.hid (fun W => awake04_calls W)
 obtain ⟨b0, hb0, v0⟩ := vast_calls A0 c0 t w hA0 hc0
 obtain ⟨b1, hb1, v1⟩ := vast_calls A1 c1 u w hA1 hc1
 have HV0 := Lib.hid v0
 have HV1 := Lib.hid v1
 have HR0 := Lib.hid (Below.refl w.heap.size w)
 clear v0 v1
 have HA0 := Lib.hid hA0
 have HA1 := Lib.hid hA1
 clear hA0 hA1
 cases b0
 case true =>
  clear hb0 hb1
  go_enter Try.func15, Try.ntmps15
  go_wp2_with (first | (go_at_call 59; (with_reducible refine (HV0.out _ HR0.out).mono ?_); rintro _ w1 ⟨rfl, hb1⟩) | (go_at_call 52; refine (Haw.out _).mono ?_; rintro _ w4 ⟨rfl, hb4⟩))
  go_ret
  exact ⟨rfl, hb1.trans (hb4.mono hb1.size)⟩
 case false =>
  cases b1
  case true =>
   clear hb0 hb1
   go_enter Try.func15, Try.ntmps15
   go_wp2_with fail
   refine (HV0.out _ HR0.out).mono ?_
   rintro _ w1 ⟨rfl, hb1⟩
   go_wp2_with fail
   refine (HV1.out _ hb1).mono ?_
   rintro _ w2 ⟨rfl, hb2⟩
   go_wp2_with (go_at_call 52; refine (Haw.out _).mono ?_; rintro _ w4 ⟨rfl, hb4⟩)
   go_ret
   exact ⟨rfl, (hb1.trans (hb2.mono hb1.size)).trans (hb4.mono (Nat.le_trans hb1.size hb2.size))⟩
  case false =>
   obtain ⟨l0, z0⟩ := hb0 rfl
   obtain ⟨l1, z1⟩ := hb1 rfl
   clear hb0 hb1
   have HZ0 := Lib.hid z0
   have HK := Lib.hid hk
   clear z0 z1 hk
   have HS00 := Lib.hid (fun W (hW : Below w.heap.size w W) => by have := same_calls A0 A0 c0 c0 t t W (by omega) (by omega) (Kd.C_below HA0.out hW) (Kd.C_below HA0.out hW); rw [sameL_self] at this; exact this)
   have HS01 := Lib.hid (fun W (hW : Below w.heap.size w W) => same_calls A0 A1 c0 c1 t u W (by omega) (by omega) (Kd.C_below HA0.out hW) (Kd.C_below HA1.out hW))
   have HS10 := Lib.hid (fun W (hW : Below w.heap.size w W) => by have := same_calls A1 A0 c1 c0 u t W (by omega) (by omega) (Kd.C_below HA1.out hW) (Kd.C_below HA0.out hW); rw [sameL_comm u t] at this; exact this)
   have HCK := Lib.hid (fun W (hW : Below w.heap.size w W) => check_calls A0 c0 t W (by omega) (fun x hx => ⟨by have := HZ0.out x hx; omega, (HK.out x hx).1, (HK.out x hx).2⟩) (Kd.C_below HA0.out hW) hc0)
   generalize sameL t u = sb at *
   obtain ⟨R, hR⟩ : ∃ R, checkP t = R := ⟨_, rfl⟩
   rw [hR] at HCK
   have HR := Lib.hid hR
   clear hR
   go_enter Try.func15, Try.ntmps15
   go_wp2_with fail
   refine (HV0.out _ HR0.out).mono ?_
   rintro _ w1 ⟨rfl, hb1⟩
   go_wp2_with fail
   refine (HV1.out _ hb1).mono ?_
   rintro _ w2 ⟨rfl, hb2⟩
   replace hb2 := hb1.trans (hb2.mono hb1.size)
   have HB2 := Lib.hid hb2
   clear hb1 hb2 HV0 HV1
   go_wp2_with fail
   refine (HS00.out _ HB2.out).mono ?_
   rintro _ w3 ⟨rfl, hb3⟩
   have HB3 := Lib.hid (HB2.out.trans (hb3.mono HB2.out.size))
   clear hb3 HB2 HS00
   go_wp2_with fail
   refine (HS01.out _ HB3.out).mono ?_
   rintro _ w4 ⟨rfl, hb4⟩
   have HB4 := Lib.hid (HB3.out.trans (hb4.mono HB3.out.size))
   clear hb4 HB3 HS01
   go_wp2_with fail
   refine (HS10.out _ HB4.out).mono ?_
   rintro _ w5 ⟨rfl, hb5⟩
   have HB5 := Lib.hid (HB4.out.trans (hb5.mono HB4.out.size))
   clear hb5 HB4 HS10
   have hsb : (sb != sb) = false := by cases sb <;> rfl
   go_wp2_with fail
   refine (HCK.out _ HB5.out).mono ?_
   rintro _ w6 ⟨rfl, hb6⟩
   have HB6 := Lib.hid (HB5.out.trans (hb6.mono HB5.out.size))
   clear hb6 HB5 HCK
   by_cases hR : R = 0
   ·subst hR
    have HPL := Lib.hid (check_parts HR.out).1
    have HST := Lib.hid (start0 HR.out)
    go_wp2_with fail
    go_loopw [5] (fun v wr => ∃ a : Nat, v = .int .i64 a ∧ Start t a ∧ Below w.heap.size w wr) (fun v _ => t.length - (intOf v).toNat)
    case atStart => exact ⟨0, rfl, HST.out, HB6.out⟩
    case round =>
     obtain ⟨a, rfl, hst, hW⟩ := hrel
     by_cases hlt : a < t.length
     ·obtain ⟨m, hm1, hm2, hm3, hm4, hm5⟩ := block_step HPL.out hst hlt
      obtain ⟨ad, e1, q0, q1, q2, q3⟩ := at_T56 (Kd.C_below HA0.out hW) a (by omega) (by omega)
      subst e1
      rw [hm3] at q3
      simp only [Int.toNat_natCast] at q3
      clear q0 q1 q2 hm3
      have hlt1 : (a : Int) < (t.length : Int) := by omega
      have hc := Kd.C_mid (lo := a) (hi := a + m) (c := c0) (Kd.C_below HA0.out hW) (by omega) (by omega) hc0
      rw [if_neg (by omega), List.drop_take, Nat.add_sub_cancel_left] at hc
      have hck := check_calls (some (ad.add (a * 4))) (c0 - a) ((t.drop a).take m) wr (by rw [List.length_take]; omega) (fun x hx => by
       have hx' := List.mem_of_mem_drop (List.mem_of_mem_take hx)
       exact ⟨by have := HZ0.out x hx'; omega, (HK.out x hx').1, (HK.out x hx').2⟩) hc (by rw [List.length_take, List.length_drop]; omega)
      rw [hm4, show ((t.drop a).take m).length = m from by rw [List.length_take, List.length_drop]; omega] at hck
      have HCK := Lib.hid hck
      have HM5 := Lib.hid hm5
      have HWR := Lib.hid hW
      clear hck hm5 hW hc hst hm4
      have hm1' : ¬ ((m : Int) < 1) := by omega
      go_wp2_with fail
      refine HCK.out.mono ?_
      rintro _ w8 ⟨rfl, hb8⟩
      have HB8 := Lib.hid (HWR.out.trans (hb8.mono HWR.out.size))
      clear hb8 HCK
      go_wp2_with fail
      refine ⟨⟨a + m, by simp, HM5.out, HB8.out⟩, ?_⟩
      simp only [intOf]
      omega
     ·have hlt1 : ¬ (a : Int) < (t.length : Int) := by omega
      have HWR := Lib.hid hW
      clear hW hst
      go_wp2_with (go_at_call 52; refine (Haw.out _).mono ?_; rintro _ w9 ⟨rfl, hb9⟩)
      go_ret
      exact ⟨rfl, HWR.out.trans (hb9.mono HWR.out.size)⟩
   ·have hRb : (R != 0) = true := bne_iff_ne.2 hR
    clear hR
    go_wp2_with (go_at_call 52; refine (Haw.out _).mono ?_; rintro _ w7 ⟨rfl, hb7⟩)
    go_ret
    exact ⟨rfl, HB6.out.trans (hb7.mono HB6.out.size)⟩
end Go.Proofs.Ythcmfjpheanphaa.Pr
namespace Go.Proofs.Ythcmfjpheanphaa.Pr
open Go.RowKit Go.ChangeShapes Go.WideShapes Go.Deep Go.Proofs.YthcmfjpheanphaaW.PrintWords
section
variable {H : Type} {enc : TypeId × Value → H} {w : World} {base : Nat} {spare : Nat → Bool} {held : Bool}
theorem cells56 : Try.prog.cellsOf 56 = 4 := by kernel_rfl
theorem cells3 : Try.prog.cellsOf 3 = 1 := by kernel_rfl
theorem cells5 : Try.prog.cellsOf 5 = 1 := by kernel_rfl
theorem cells9 : Try.prog.cellsOf 9 = 1 := by kernel_rfl
theorem bytes56 : Try.prog.bytesOf 56 = 40 := by kernel_rfl
def Fit56 (x : S56) : Prop := (Lit.int .u8 x.f0).wf = true ∧ x.f1.size ≤ maxLen ∧ (Lit.int .i64 x.f2).wf = true ∧ (Lit.int .i64 x.f3).wf = true
set_option maxRecDepth 100000 in
theorem item_open {n : Nat} {cs : List Value} {y : DataW H × List MemPlace} (h : DataW.trod enc Try.prog w base spare held n 56 cs = some y) :
  ∃ x : S56, cs = [.int .u8 x.f0, .string x.f1, .int .i64 x.f2, .int .i64 x.f3] ∧ Fit56 x := by
 obtain ⟨ys, m, rfl, _, hlen, hyl, hf⟩ := DataW.trod_struct Try.underlying56 h
 rw [cells56] at hlen
 match cs, hlen with
 | [c0, c1, c2, c3], _ =>
  match ys, hyl with
  | [y0, y1, y2, y3], _ =>
   have g0 : DataW.trod enc Try.prog w base spare held m 5 (([c0, c1, c2, c3].drop 0).take (Try.prog.cellsOf 5)) = some y0 := hf 0 _ rfl
   have g1 : DataW.trod enc Try.prog w base spare held m 9 (([c0, c1, c2, c3].drop 1).take (Try.prog.cellsOf 9)) = some y1 := hf 1 _ rfl
   have g2 : DataW.trod enc Try.prog w base spare held m 3 (([c0, c1, c2, c3].drop 2).take (Try.prog.cellsOf 3)) = some y2 := hf 2 _ rfl
   have g3 : DataW.trod enc Try.prog w base spare held m 3 (([c0, c1, c2, c3].drop 3).take (Try.prog.cellsOf 3)) = some y3 := hf 3 _ rfl
   rw [cells5] at g0
   rw [cells9] at g1
   rw [cells3] at g2 g3
   obtain ⟨n0, e0, _, f0⟩ := DataW.trod_int Try.underlying5 g0
   obtain ⟨n1, e1, _, f1⟩ := DataW.trod_string Try.underlying9 g1
   obtain ⟨n2, e2, _, f2⟩ := DataW.trod_int Try.underlying3 g2
   obtain ⟨n3, e3, _, f3⟩ := DataW.trod_int Try.underlying3 g3
   simp at e0 e1 e2 e3
   exact ⟨⟨n0, n1, n2, n3⟩, by rw [e0, e1, e2, e3], f0, f1, f2, f3⟩
set_option maxRecDepth 100000 in
theorem open_N {a : Option Addr} {len cap : Nat} {d : DataW H} {ps : List MemPlace} {ts : List TypeId} {ds : List (DataW H)} {j : Nat}
  (hsz : (DataW.weightsEach Try.prog ts ds).all (· ≤ reachBytes) = true) (ht : ts[j]? = some 50) (hd : ds[j]? = some d)
  (h : DataW.Trod enc Try.prog w base spare held 50 (.slice a len cap) d ps) :
  ∃ l : List S56, len = l.length ∧ (Kd.C k56 w a l.length l ∧ ∀ x ∈ l, Fit56 x) ∧ l.length ≤ cap ∧ l.length * 40 ≤ 140737488351232 := by
 obtain ⟨fuel, hf⟩ := h
 rcases open_slice Try.underlying50 hf with ⟨hcs, _⟩ | ⟨x, len', cap', m, n, D, Pl, hcs, _, hl, hcm, hm, hx, hi⟩
 ·simp [Value.cells] at hcs
  obtain ⟨rfl, rfl, rfl⟩ := hcs
  exact ⟨[], rfl, ⟨⟨rfl, by simp, fun h => absurd h (by simp)⟩, fun x hx => by cases hx⟩, Nat.le_refl _, by simp⟩
 ·simp [Value.cells] at hcs
  obtain ⟨rfl, rfl, rfl⟩ := hcs
  obtain ⟨hx1, _⟩ := Prod.mk.inj hx
  subst hx1
  have z := sized_slice hsz ht hd Try.underlying50
  rw [bytes56] at z
  have hlm : len ≤ m := by rw [hm]; split <;> omega
  have hit : ∀ i, i < len → ∃ y : S56, (∀ k u, [Value.int .u8 y.f0, .string y.f1, .int .i64 y.f2, .int .i64 y.f3][k]? = some u → w.cell? (x.add (i * 4 + k)) = some u) ∧ Fit56 y := fun i hil => by
   obtain ⟨cs', hc, htr⟩ := hi i (by omega)
   rw [cells56] at hc
   obtain ⟨y, rfl, hfit⟩ := item_open htr
   obtain ⟨_, _, hat⟩ := World.cells?_some hc
   refine ⟨y, fun k u hk => ?_, hfit⟩
   have hk5 : k < 4 := by
    have := (List.getElem?_eq_some_iff.1 hk).1
    simpa using this
   have := hat k hk5
   rw [hk, Go.Deep.add_add] at this
   exact this
  let f : Nat → S56 := fun i => if hil : i < len then (hit i hil).choose else z56
  have hfs : ∀ i, i < len → (∀ k u, [Value.int .u8 (f i).f0, .string (f i).f1, .int .i64 (f i).f2, .int .i64 (f i).f3][k]? = some u → w.cell? (x.add (i * 4 + k)) = some u) ∧ Fit56 (f i) := fun i hil => by
   have e : f i = (hit i hil).choose := dif_pos hil
   rw [e]
   exact (hit i hil).choose_spec
  have hll : ((List.range len).map f).length = len := by simp
  have hl40 : len * 40 ≤ 140737488351232 := by
   have h1 : ((List.range len).map D).length = len := by simp
   rw [h1] at z
   exact Nat.le_trans (Nat.mul_le_mul_right _ (by omega)) z
  refine ⟨(List.range len).map f, hll.symm, ⟨⟨rfl, by rw [hll]; omega, fun _ => ⟨x, rfl, fun i p hp => ?_⟩⟩, fun y hy => ?_⟩, by rw [hll]; exact hl, by rw [hll]; exact hl40⟩
  ·rw [List.getElem?_map] at hp
   obtain ⟨i', hi', rfl⟩ := Option.map_eq_some_iff.1 hp
   obtain ⟨hlt, rfl⟩ := List.getElem?_eq_some_iff.1 hi'
   simp only [List.length_range] at hlt
   simp only [List.getElem_range]
   exact ⟨_, rfl, k56_mk _ _, (hfs i hlt).1⟩
  ·obtain ⟨i, hi', rfl⟩ := List.mem_map.1 hy
   exact (hfs i (List.mem_range.1 hi')).2
end
end Go.Proofs.Ythcmfjpheanphaa.Pr
namespace Go.Proofs.Ythcmfjpheanphaa.Pr
open Go.RowKit Go.Maps Go.Proofs.YthcmfjpheanphaaW.PrintWords
theorem fit_kind {x : S56} (h : Fit56 x) : 0 ≤ x.f0 ∧ x.f0 ≤ 255 := by
 have h1 := h.1
 simp only [Lit.wf, Bool.and_eq_true, decide_eq_true_eq] at h1
 have e1 : IntKind.min .u8 = 0 := rfl
 have e2 : IntKind.max .u8 = 255 := rfl
 rw [e1, e2] at h1
 exact h1
theorem treeParts_row (A0 : Option Addr) (c0 : Nat) (t : List S56) (A1 : Option Addr) (c1 : Nat) (u : List S56) (w : World)
  (h0 : Kd.C k56 w A0 t.length t ∧ ∀ x ∈ t, Fit56 x) (hc0 : t.length ≤ c0) (_ : t.length * 40 ≤ 140737488351232) (h1 : Kd.C k56 w A1 u.length u ∧ ∀ x ∈ u, Fit56 x) (hc1 : u.length ≤ c1) (_ : u.length * 40 ≤ 140737488351232) :
  Calls Try.prog 15 #[.slice A0 t.length c0, .slice A1 u.length c1] w fun e w' => e = .returned (.bool true) ∧ Below w.heap.size w w' :=
 treeParts_walk A0 c0 t A1 c1 u w h0.1 hc0 h1.1 hc1 fun x hx => fit_kind (h0.2 x hx)
end Go.Proofs.Ythcmfjpheanphaa.Pr
