/- Texts of this seat, one behind the other. -/
import Derived.Test.YthcmfjpheanphaaXNormWhite1
import Derived.Test.YthcmfjpheanphaaXNormWhite2
import Derived.Test.YthcmfjpheanphaaXNormWhite3
import Derived.Test.YthcmfjpheanphaaXNormWhite4
import Derived.Test.YthcmfjpheanphaaXNormWhite5
import Derived.Test.YthcmfjpheanphaaXNormWhite6
import Derived.Test.YthcmfjpheanphaaXNormWhite7
set_option linter.unusedVariables false
set_option linter.unusedSimpArgs false
namespace Go.Proofs.Ythcmfjpheanphaa.Pr
open Go.RowKit Go.Proofs.YthcmfjpheanphaaW.PrintWords Go.Proofs.YthcmfjpheanphaaW.PrintLast Go.Proofs.YthcmfjpheanphaaW.PrintMore
attribute [local go_sem] max2_int min2_int max_two min_two max_three min_three max_four min_four
mutual
def tree_sized.l0 : Nat → List (S56) → Int → Int → Option (Bool)
 | 0, _, _, _ => none
 | k + 1, x0, x1, x2 => if x1 < x2 then (if 0 ≤ x1 then (if x1 < (x0.length : Int) then (if ((rd_T56 x0 x1).f3) < 1 then (some false) else (if ((rd_T56 x0 x1).f3) > (wrap64 (x2 - x1)) then (some false) else ((tree_sized.f k x0 (wrap64 (x1 + 1)) (wrap64 (x1 + ((rd_T56 x0 x1).f3)))).bind fun t233 => (if t233 = true then (tree_sized.l0 k x0 (wrap64 (x1 + ((rd_T56 x0 x1).f3))) x2) else (some false))))) else (none)) else (none)) else (some true)
def tree_sized.f : Nat → List (S56) → Int → Int → Option (Bool)
 | 0, _, _, _ => none
 | k + 1, l0, a1, a2 => tree_sized.l0 k l0 a1 a2
end
theorem tree_sized.mono_l : ∀ k, (∀ y0 y1 y2, LeO (tree_sized.f k y0 y1 y2) (tree_sized.f (k + 1) y0 y1 y2)) ∧ (∀ y0 y1 y2, LeO (tree_sized.l0 k y0 y1 y2) (tree_sized.l0 (k + 1) y0 y1 y2))
 | 0 => ⟨fun _ _ _ r h => by simp [tree_sized.f] at h, fun _ _ _ r h => by simp [tree_sized.l0] at h⟩
 | k + 1 => by
  obtain ⟨ih0, ih1⟩ := tree_sized.mono_l k
  refine ⟨?_, ?_⟩
  ·intro y0 y1 y2
   unfold tree_sized.f
   repeat' first
   | (with_reducible exact ih0 _ _ _)
   | (with_reducible exact ih1 _ _ _)
   | (with_reducible exact LeO.refl _)
   | (with_reducible exact LeO.none _)
   | (with_reducible refine LeO.ite ?_ ?_)
   | (with_reducible refine LeO.bind ?_ (fun _ => ?_))
   | exact ih0 _ _ _
   | exact ih1 _ _ _
   | exact LeO.none _
   | refine LeO.ite ?_ ?_
   | refine LeO.bind ?_ (fun _ => ?_)
  ·intro y0 y1 y2
   unfold tree_sized.l0
   repeat' first
   | (with_reducible exact ih0 _ _ _)
   | (with_reducible exact ih1 _ _ _)
   | (with_reducible exact LeO.refl _)
   | (with_reducible exact LeO.none _)
   | (with_reducible refine LeO.ite ?_ ?_)
   | (with_reducible refine LeO.bind ?_ (fun _ => ?_))
   | exact ih0 _ _ _
   | exact ih1 _ _ _
   | exact LeO.none _
   | refine LeO.ite ?_ ?_
   | refine LeO.bind ?_ (fun _ => ?_)
theorem tree_sized.mono : ∀ a0 a1 a2 k, LeO (tree_sized.f k a0 a1 a2) (tree_sized.f (k + 1) a0 a1 a2) := by
 intro a0 a1 a2 k
 obtain ⟨ih0, ih1⟩ := tree_sized.mono_l k
 exact ih0 a0 a1 a2
set_option maxHeartbeats 8000000 in
set_option maxRecDepth 100000 in
theorem tree_sized.calls (k : Nat) : ∀ (A0 : Option Addr) (c0 : Nat) (l0 : List (S56)) (a1 : Int) (a2 : Int) (r : Bool) (w : World) (hr0 : Kd.C k56 w A0 l0.length l0) (hc0 : l0.length ≤ c0) (h : tree_sized.f k l0 a1 a2 = some r),
  Calls Try.prog 102 #[.slice A0 l0.length c0, .int .i64 a1, .int .i64 a2] w fun e w' => e = .returned (.bool r) ∧ Below w.heap.size w w' := by
 induction k using Nat.strongRecOn with
 | _ k ih =>
 intro A0 c0 l0 a1 a2 r w hr0 hc0 h
 cases k with
 | zero => exact absurd h (by simp [tree_sized.f])
 | succ k =>
 simp only [tree_sized.f] at h
 have hu56 := Try.underlying56
 have HR0 := Aside0.mk hr0
 have HC0 := Aside0.mk hc0
 clear hr0 hc0
 have HB := Aside0.mk (Below.refl w.heap.size w)
 have H : (tree_sized.l0 k l0 a1 a2) = some r := h
 clear h
 have H' := Aside0.mk H
 clear H
 go_enter Try.func102, Try.ntmps102
 go_wp2
 go_loopg [1] k (fun kq v1 w' => ∃ (x1_1 : Int), v1 = .int .i64 x1_1 ∧ Aside0 (tree_sized.l0 kq l0 x1_1 a2 = some r) ∧ Aside0 (kq ≤ k) ∧ Aside0 (Below w.heap.size w w'))
 case atStart => exact ⟨(a1), (by first | rfl | (simp; done) | (simp [*]; done)), H', ⟨Nat.le_refl _⟩, ⟨by repeat (first | (with_reducible first | exact HB.out | apply below_alloc | apply pw_below_drewN | apply below_drew1) | exact HB.out)⟩⟩
 case round =>
  clear H'
  try clear c1
  try clear p2
  obtain ⟨x1_1, rfl, HA, HK1, HB⟩ := hrel
  cases gk with
  | zero => exact absurd HA.out (by simp [tree_sized.l0])
  | succ k1 =>
   have H := HA.out
   clear HA
   simp only [tree_sized.l0] at H
   by_cases c4 : x1_1 < a2
   ·rw [if_pos c4] at H
    have c4b0 : decide (x1_1 < a2) = true := decide_eq_true c4
    clear c4
    by_cases c5 : 0 ≤ x1_1
    ·rw [if_pos c5] at H
     have c5b0 : decide (0 ≤ x1_1) = true := decide_eq_true c5
     clear c5
     by_cases c6 : x1_1 < (l0.length : Int)
     ·rw [if_pos c6] at H
      have c6b0 : decide (x1_1 < (l0.length : Int)) = true := decide_eq_true c6
      clear c6
      by_cases c7 : ((rd_T56 l0 x1_1).f3) < 1
      ·rw [if_pos c7] at H
       have c7b0 : decide (((rd_T56 l0 x1_1).f3) < 1) = true := decide_eq_true c7
       clear c7
       obtain rfl := Option.some.inj H
       have p231 : 0 ≤ (x1_1 : Int) := of_decide_eq_true (by first | (with_reducible assumption) | assumption)
       have q231 : x1_1 < (l0.length : Int) := of_decide_eq_true (by first | (with_reducible assumption) | assumption)
       obtain ⟨ad231, e231, hx231_0, hx231_1, hx231_2, hx231_3⟩ := at_T56 HR0.out x1_1 p231 q231
       cases e231
       replace hx231_0 := (HB.out.cell (World.block_lt_of_cell? w _ hx231_0)).trans hx231_0
       replace hx231_1 := (HB.out.cell (World.block_lt_of_cell? w _ hx231_1)).trans hx231_1
       replace hx231_2 := (HB.out.cell (World.block_lt_of_cell? w _ hx231_2)).trans hx231_2
       replace hx231_3 := (HB.out.cell (World.block_lt_of_cell? w _ hx231_3)).trans hx231_3
       replace p231 := eq_true p231
       replace q231 := eq_true q231
       go_wp2_with (first | ((with_reducible refine gate_dst (N := 7) rfl ?_); refine box_event ?hg (N := 7) ?hd (cs := #[.int .u8 0, .string (⟨#[]⟩ : ByteArray), .int .i64 0, .int .i64 0]) (t := 56) ?hr ?_; (case hd => rfl); (case hg => rfl); (case hr => first | (go_simp; done) | (go_simp; rfl)); intro gb232 hg w8 hbox hb; have n0_ := Aside0.mk (below_step (by repeat (first | (with_reducible first | exact HB.out | apply below_alloc | apply pw_below_drewN | apply below_drew1) | exact HB.out)) hb); have n1_ := Aside0.mk (hbox); have n2_ := Aside0.mk ((by rw [hg]; exact (below_size (by repeat (first | (with_reducible first | exact HB.out | apply below_alloc | apply pw_below_drewN | apply below_drew1) | exact HB.out))) : w.heap.size ≤ gb232)); have n3_ := Aside0.mk ((by rw [hg]; exact (below_size (by repeat (first | (with_reducible first | exact HB.out | apply below_alloc | apply pw_below_drewN | apply below_drew1) | exact HB.out))) : w.heap.size ≤ gb232)); clear HB; have HB := n0_; have BK232 := n1_; have GW232 := n2_; have GE232 := n3_; clear n0_ n1_ n2_ n3_; clear hb hbox hg; have hcz9_0 : w8.cell? ⟨gb232, 0, none⟩ = some (.int .u8 0) := (blk_cell BK232.out 0).trans rfl; have hcz9_1 : w8.cell? ⟨gb232, 1, none⟩ = some (.string (⟨#[]⟩ : ByteArray)) := (blk_cell BK232.out 1).trans rfl; have hcz9_2 : w8.cell? ⟨gb232, 2, none⟩ = some (.int .i64 0) := (blk_cell BK232.out 2).trans rfl; have hcz9_3 : w8.cell? ⟨gb232, 3, none⟩ = some (.int .i64 0) := (blk_cell BK232.out 3).trans rfl; have hfz9_0 := blk_frozen BK232.out 0; have hfz9_1 := blk_frozen BK232.out 1; have hfz9_2 := blk_frozen BK232.out 2; have hfz9_3 := blk_frozen BK232.out 3))
       go_ret
       exact ⟨by first | rfl | (simp [errW_none, errW_some] <;> rfl) | (simp [*, errW_none, errW_some] <;> rfl), by repeat (first | (with_reducible first | exact HB.out | apply below_alloc | apply pw_below_drewN | apply below_drew1 | refine below_set ?_ GE232.out) | exact HB.out)⟩
      ·rw [if_neg c7] at H
       have c7b0 : decide (((rd_T56 l0 x1_1).f3) < 1) = false := decide_eq_false c7
       clear c7
       by_cases c10 : ((rd_T56 l0 x1_1).f3) > (wrap64 (a2 - x1_1))
       ·rw [if_pos c10] at H
        have c10b0 : decide ((wrap64 (a2 - x1_1)) < ((rd_T56 l0 x1_1).f3)) = true := decide_eq_true c10
        clear c10
        obtain rfl := Option.some.inj H
        have p231 : 0 ≤ (x1_1 : Int) := of_decide_eq_true (by first | (with_reducible assumption) | assumption)
        have q231 : x1_1 < (l0.length : Int) := of_decide_eq_true (by first | (with_reducible assumption) | assumption)
        obtain ⟨ad231, e231, hx231_0, hx231_1, hx231_2, hx231_3⟩ := at_T56 HR0.out x1_1 p231 q231
        cases e231
        replace hx231_0 := (HB.out.cell (World.block_lt_of_cell? w _ hx231_0)).trans hx231_0
        replace hx231_1 := (HB.out.cell (World.block_lt_of_cell? w _ hx231_1)).trans hx231_1
        replace hx231_2 := (HB.out.cell (World.block_lt_of_cell? w _ hx231_2)).trans hx231_2
        replace hx231_3 := (HB.out.cell (World.block_lt_of_cell? w _ hx231_3)).trans hx231_3
        replace p231 := eq_true p231
        replace q231 := eq_true q231
        go_wp2_with (first | ((with_reducible refine gate_dst (N := 7) rfl ?_); refine box_event ?hg (N := 7) ?hd (cs := #[.int .u8 0, .string (⟨#[]⟩ : ByteArray), .int .i64 0, .int .i64 0]) (t := 56) ?hr ?_; (case hd => rfl); (case hg => rfl); (case hr => first | (go_simp; done) | (go_simp; rfl)); intro gb232 hg w11 hbox hb; have n0_ := Aside0.mk (below_step (by repeat (first | (with_reducible first | exact HB.out | apply below_alloc | apply pw_below_drewN | apply below_drew1) | exact HB.out)) hb); have n1_ := Aside0.mk (hbox); have n2_ := Aside0.mk ((by rw [hg]; exact (below_size (by repeat (first | (with_reducible first | exact HB.out | apply below_alloc | apply pw_below_drewN | apply below_drew1) | exact HB.out))) : w.heap.size ≤ gb232)); have n3_ := Aside0.mk ((by rw [hg]; exact (below_size (by repeat (first | (with_reducible first | exact HB.out | apply below_alloc | apply pw_below_drewN | apply below_drew1) | exact HB.out))) : w.heap.size ≤ gb232)); clear HB; have HB := n0_; have BK232 := n1_; have GW232 := n2_; have GE232 := n3_; clear n0_ n1_ n2_ n3_; clear hb hbox hg; have hcz12_0 : w11.cell? ⟨gb232, 0, none⟩ = some (.int .u8 0) := (blk_cell BK232.out 0).trans rfl; have hcz12_1 : w11.cell? ⟨gb232, 1, none⟩ = some (.string (⟨#[]⟩ : ByteArray)) := (blk_cell BK232.out 1).trans rfl; have hcz12_2 : w11.cell? ⟨gb232, 2, none⟩ = some (.int .i64 0) := (blk_cell BK232.out 2).trans rfl; have hcz12_3 : w11.cell? ⟨gb232, 3, none⟩ = some (.int .i64 0) := (blk_cell BK232.out 3).trans rfl; have hfz12_0 := blk_frozen BK232.out 0; have hfz12_1 := blk_frozen BK232.out 1; have hfz12_2 := blk_frozen BK232.out 2; have hfz12_3 := blk_frozen BK232.out 3))
        go_ret
        exact ⟨by first | rfl | (simp [errW_none, errW_some] <;> rfl) | (simp [*, errW_none, errW_some] <;> rfl), by repeat (first | (with_reducible first | exact HB.out | apply below_alloc | apply pw_below_drewN | apply below_drew1 | refine below_set ?_ GE232.out) | exact HB.out)⟩
       ·rw [if_neg c10] at H
        have c10b0 : decide ((wrap64 (a2 - x1_1)) < ((rd_T56 l0 x1_1).f3)) = false := decide_eq_false c10
        clear c10
        replace H := Option.bind_eq_some_iff.mp H
        obtain ⟨t233, A130, H⟩ := H
        replace H : (if t233 = true then (tree_sized.l0 k1 l0 (wrap64 (x1_1 + ((rd_T56 l0 x1_1).f3))) a2) else (some false)) = some r := H
        have A13 := Aside0.mk A130
        clear A130
        by_cases c14 : t233 = true
        ·subst c14
         have H1 : (tree_sized.l0 k1 l0 (wrap64 (x1_1 + ((rd_T56 l0 x1_1).f3))) a2) = some r := by rw [if_pos rfl] at H; exact H
         clear H
         have H := H1
         clear H1
         have H' := Aside0.mk H
         clear H
         have p231 : 0 ≤ (x1_1 : Int) := of_decide_eq_true (by first | (with_reducible assumption) | assumption)
         have q231 : x1_1 < (l0.length : Int) := of_decide_eq_true (by first | (with_reducible assumption) | assumption)
         obtain ⟨ad231, e231, hx231_0, hx231_1, hx231_2, hx231_3⟩ := at_T56 HR0.out x1_1 p231 q231
         cases e231
         replace hx231_0 := (HB.out.cell (World.block_lt_of_cell? w _ hx231_0)).trans hx231_0
         replace hx231_1 := (HB.out.cell (World.block_lt_of_cell? w _ hx231_1)).trans hx231_1
         replace hx231_2 := (HB.out.cell (World.block_lt_of_cell? w _ hx231_2)).trans hx231_2
         replace hx231_3 := (HB.out.cell (World.block_lt_of_cell? w _ hx231_3)).trans hx231_3
         replace p231 := eq_true p231
         replace q231 := eq_true q231
         go_wp2_with (first | ((with_reducible refine gate_dst (N := 7) rfl ?_); refine box_event ?hg (N := 7) ?hd (cs := #[.int .u8 0, .string (⟨#[]⟩ : ByteArray), .int .i64 0, .int .i64 0]) (t := 56) ?hr ?_; (case hd => rfl); (case hg => rfl); (case hr => first | (go_simp; done) | (go_simp; rfl)); intro gb232 hg w15 hbox hb; have n0_ := Aside0.mk (below_step (by repeat (first | (with_reducible first | exact HB.out | apply below_alloc | apply pw_below_drewN | apply below_drew1) | exact HB.out)) hb); have n1_ := Aside0.mk (hbox); have n2_ := Aside0.mk ((by rw [hg]; exact (below_size (by repeat (first | (with_reducible first | exact HB.out | apply below_alloc | apply pw_below_drewN | apply below_drew1) | exact HB.out))) : w.heap.size ≤ gb232)); have n3_ := Aside0.mk ((by rw [hg]; exact (below_size (by repeat (first | (with_reducible first | exact HB.out | apply below_alloc | apply pw_below_drewN | apply below_drew1) | exact HB.out))) : w.heap.size ≤ gb232)); clear HB; have HB := n0_; have BK232 := n1_; have GW232 := n2_; have GE232 := n3_; clear n0_ n1_ n2_ n3_; clear hb hbox hg; have hcz16_0 : w15.cell? ⟨gb232, 0, none⟩ = some (.int .u8 0) := (blk_cell BK232.out 0).trans rfl; have hcz16_1 : w15.cell? ⟨gb232, 1, none⟩ = some (.string (⟨#[]⟩ : ByteArray)) := (blk_cell BK232.out 1).trans rfl; have hcz16_2 : w15.cell? ⟨gb232, 2, none⟩ = some (.int .i64 0) := (blk_cell BK232.out 2).trans rfl; have hcz16_3 : w15.cell? ⟨gb232, 3, none⟩ = some (.int .i64 0) := (blk_cell BK232.out 3).trans rfl; have hfz16_0 := blk_frozen BK232.out 0; have hfz16_1 := blk_frozen BK232.out 1; have hfz16_2 := blk_frozen BK232.out 2; have hfz16_3 := blk_frozen BK232.out 3) | (go_at_call 102; (with_reducible refine (ih k1 (by have := HK1.out; omega) _ _ l0 (wrap64 (x1_1 + 1)) (wrap64 (x1_1 + ((rd_T56 l0 x1_1).f3))) true _ ?side1 ?side2 A13.out).mono ?_); (case side1 => exact Kd.C_below HR0.out (by repeat (first | (with_reducible first | exact HB.out | apply below_alloc | apply pw_below_drewN | apply below_drew1 | refine below_set ?_ GE232.out) | exact HB.out))); (case side2 => exact HC0.out); rintro e w17 ⟨rfl, hb⟩; have n0_ := Aside0.mk (blk_below (g := gb232) (o := .cells #[.int .u8 ((rd_T56 l0 x1_1).f0), .string ((rd_T56 l0 x1_1).f1), .int .i64 ((rd_T56 l0 x1_1).f2), .int .i64 ((rd_T56 l0 x1_1).f3)] 56 (0, 0)) (by (with_reducible repeat (first | refine blk_drewN ?_ _ | refine blk_drew ?_ | refine blk_alloc ?_ _)); refine blk_put (cs := #[.int .u8 ((rd_T56 l0 x1_1).f0), .string ((rd_T56 l0 x1_1).f1), .int .i64 ((rd_T56 l0 x1_1).f2), .int .i64 0]) ?_ 3 _ rfl; (with_reducible repeat (first | refine blk_drewN ?_ _ | refine blk_drew ?_ | refine blk_alloc ?_ _)); refine blk_put (cs := #[.int .u8 ((rd_T56 l0 x1_1).f0), .string ((rd_T56 l0 x1_1).f1), .int .i64 0, .int .i64 0]) ?_ 2 _ rfl; (with_reducible repeat (first | refine blk_drewN ?_ _ | refine blk_drew ?_ | refine blk_alloc ?_ _)); refine blk_put (cs := #[.int .u8 ((rd_T56 l0 x1_1).f0), .string (⟨#[]⟩ : ByteArray), .int .i64 0, .int .i64 0]) ?_ 1 _ rfl; (with_reducible repeat (first | refine blk_drewN ?_ _ | refine blk_drew ?_ | refine blk_alloc ?_ _)); refine blk_put (cs := #[.int .u8 0, .string (⟨#[]⟩ : ByteArray), .int .i64 0, .int .i64 0]) ?_ 0 _ rfl; (with_reducible repeat (first | refine blk_drewN ?_ _ | refine blk_drew ?_ | refine blk_alloc ?_ _)); exact BK232.out) hb); have n1_ := Aside0.mk (below_step (by repeat (first | (with_reducible first | exact HB.out | apply below_alloc | apply pw_below_drewN | apply below_drew1 | refine below_set ?_ GE232.out) | exact HB.out)) hb); clear BK232; clear HB; have BK232 := n0_; have HB := n1_; clear n0_ n1_; (try clear hb); (try clear hb2); (try clear hk); (try clear hi); have hcz18_0 : w17.cell? ⟨gb232, 0, none⟩ = some (.int .u8 ((rd_T56 l0 x1_1).f0)) := (blk_cell BK232.out 0).trans rfl; have hcz18_1 : w17.cell? ⟨gb232, 1, none⟩ = some (.string ((rd_T56 l0 x1_1).f1)) := (blk_cell BK232.out 1).trans rfl; have hcz18_2 : w17.cell? ⟨gb232, 2, none⟩ = some (.int .i64 ((rd_T56 l0 x1_1).f2)) := (blk_cell BK232.out 2).trans rfl; have hcz18_3 : w17.cell? ⟨gb232, 3, none⟩ = some (.int .i64 ((rd_T56 l0 x1_1).f3)) := (blk_cell BK232.out 3).trans rfl; have hfz18_0 := blk_frozen BK232.out 0; have hfz18_1 := blk_frozen BK232.out 1; have hfz18_2 := blk_frozen BK232.out 2; have hfz18_3 := blk_frozen BK232.out 3))
         go_roundg k1
         case measure => have := HK1.out; omega
         case rel => exact ⟨(wrap64 (x1_1 + ((rd_T56 l0 x1_1).f3))), (by first | rfl | (simp; done) | (simp [*]; done)), H', ⟨by have := HK1.out; omega⟩, ⟨by repeat (first | (with_reducible first | exact HB.out | apply below_alloc | apply pw_below_drewN | apply below_drew1 | refine below_set ?_ GE232.out) | exact HB.out)⟩⟩
        ·replace c14 := Bool.eq_false_iff.mpr c14
         subst c14
         have H1 : (some false) = some r := by rw [if_neg (show ¬ (false = true) by decide)] at H; exact H
         clear H
         have H := H1
         clear H1
         obtain rfl := Option.some.inj H
         have p231 : 0 ≤ (x1_1 : Int) := of_decide_eq_true (by first | (with_reducible assumption) | assumption)
         have q231 : x1_1 < (l0.length : Int) := of_decide_eq_true (by first | (with_reducible assumption) | assumption)
         obtain ⟨ad231, e231, hx231_0, hx231_1, hx231_2, hx231_3⟩ := at_T56 HR0.out x1_1 p231 q231
         cases e231
         replace hx231_0 := (HB.out.cell (World.block_lt_of_cell? w _ hx231_0)).trans hx231_0
         replace hx231_1 := (HB.out.cell (World.block_lt_of_cell? w _ hx231_1)).trans hx231_1
         replace hx231_2 := (HB.out.cell (World.block_lt_of_cell? w _ hx231_2)).trans hx231_2
         replace hx231_3 := (HB.out.cell (World.block_lt_of_cell? w _ hx231_3)).trans hx231_3
         replace p231 := eq_true p231
         replace q231 := eq_true q231
         go_wp2_with (first | ((with_reducible refine gate_dst (N := 7) rfl ?_); refine box_event ?hg (N := 7) ?hd (cs := #[.int .u8 0, .string (⟨#[]⟩ : ByteArray), .int .i64 0, .int .i64 0]) (t := 56) ?hr ?_; (case hd => rfl); (case hg => rfl); (case hr => first | (go_simp; done) | (go_simp; rfl)); intro gb232 hg w19 hbox hb; have n0_ := Aside0.mk (below_step (by repeat (first | (with_reducible first | exact HB.out | apply below_alloc | apply pw_below_drewN | apply below_drew1) | exact HB.out)) hb); have n1_ := Aside0.mk (hbox); have n2_ := Aside0.mk ((by rw [hg]; exact (below_size (by repeat (first | (with_reducible first | exact HB.out | apply below_alloc | apply pw_below_drewN | apply below_drew1) | exact HB.out))) : w.heap.size ≤ gb232)); have n3_ := Aside0.mk ((by rw [hg]; exact (below_size (by repeat (first | (with_reducible first | exact HB.out | apply below_alloc | apply pw_below_drewN | apply below_drew1) | exact HB.out))) : w.heap.size ≤ gb232)); clear HB; have HB := n0_; have BK232 := n1_; have GW232 := n2_; have GE232 := n3_; clear n0_ n1_ n2_ n3_; clear hb hbox hg; have hcz20_0 : w19.cell? ⟨gb232, 0, none⟩ = some (.int .u8 0) := (blk_cell BK232.out 0).trans rfl; have hcz20_1 : w19.cell? ⟨gb232, 1, none⟩ = some (.string (⟨#[]⟩ : ByteArray)) := (blk_cell BK232.out 1).trans rfl; have hcz20_2 : w19.cell? ⟨gb232, 2, none⟩ = some (.int .i64 0) := (blk_cell BK232.out 2).trans rfl; have hcz20_3 : w19.cell? ⟨gb232, 3, none⟩ = some (.int .i64 0) := (blk_cell BK232.out 3).trans rfl; have hfz20_0 := blk_frozen BK232.out 0; have hfz20_1 := blk_frozen BK232.out 1; have hfz20_2 := blk_frozen BK232.out 2; have hfz20_3 := blk_frozen BK232.out 3) | (go_at_call 102; (with_reducible refine (ih k1 (by have := HK1.out; omega) _ _ l0 (wrap64 (x1_1 + 1)) (wrap64 (x1_1 + ((rd_T56 l0 x1_1).f3))) false _ ?side1 ?side2 A13.out).mono ?_); (case side1 => exact Kd.C_below HR0.out (by repeat (first | (with_reducible first | exact HB.out | apply below_alloc | apply pw_below_drewN | apply below_drew1 | refine below_set ?_ GE232.out) | exact HB.out))); (case side2 => exact HC0.out); rintro e w21 ⟨rfl, hb⟩; have n0_ := Aside0.mk (blk_below (g := gb232) (o := .cells #[.int .u8 ((rd_T56 l0 x1_1).f0), .string ((rd_T56 l0 x1_1).f1), .int .i64 ((rd_T56 l0 x1_1).f2), .int .i64 ((rd_T56 l0 x1_1).f3)] 56 (0, 0)) (by (with_reducible repeat (first | refine blk_drewN ?_ _ | refine blk_drew ?_ | refine blk_alloc ?_ _)); refine blk_put (cs := #[.int .u8 ((rd_T56 l0 x1_1).f0), .string ((rd_T56 l0 x1_1).f1), .int .i64 ((rd_T56 l0 x1_1).f2), .int .i64 0]) ?_ 3 _ rfl; (with_reducible repeat (first | refine blk_drewN ?_ _ | refine blk_drew ?_ | refine blk_alloc ?_ _)); refine blk_put (cs := #[.int .u8 ((rd_T56 l0 x1_1).f0), .string ((rd_T56 l0 x1_1).f1), .int .i64 0, .int .i64 0]) ?_ 2 _ rfl; (with_reducible repeat (first | refine blk_drewN ?_ _ | refine blk_drew ?_ | refine blk_alloc ?_ _)); refine blk_put (cs := #[.int .u8 ((rd_T56 l0 x1_1).f0), .string (⟨#[]⟩ : ByteArray), .int .i64 0, .int .i64 0]) ?_ 1 _ rfl; (with_reducible repeat (first | refine blk_drewN ?_ _ | refine blk_drew ?_ | refine blk_alloc ?_ _)); refine blk_put (cs := #[.int .u8 0, .string (⟨#[]⟩ : ByteArray), .int .i64 0, .int .i64 0]) ?_ 0 _ rfl; (with_reducible repeat (first | refine blk_drewN ?_ _ | refine blk_drew ?_ | refine blk_alloc ?_ _)); exact BK232.out) hb); have n1_ := Aside0.mk (below_step (by repeat (first | (with_reducible first | exact HB.out | apply below_alloc | apply pw_below_drewN | apply below_drew1 | refine below_set ?_ GE232.out) | exact HB.out)) hb); clear BK232; clear HB; have BK232 := n0_; have HB := n1_; clear n0_ n1_; (try clear hb); (try clear hb2); (try clear hk); (try clear hi)))
         go_ret
         exact ⟨by first | rfl | (simp [errW_none, errW_some] <;> rfl) | (simp [*, errW_none, errW_some] <;> rfl), by repeat (first | (with_reducible first | exact HB.out | apply below_alloc | apply pw_below_drewN | apply below_drew1 | refine below_set ?_ GE232.out) | exact HB.out)⟩
     ·rw [if_neg c6] at H
      exact absurd H (by simp)
    ·rw [if_neg c5] at H
     exact absurd H (by simp)
   ·rw [if_neg c4] at H
    have c4b0 : decide (x1_1 < a2) = false := decide_eq_false c4
    clear c4
    obtain rfl := Option.some.inj H
    go_wp2
    go_ret
    exact ⟨by first | rfl | (simp [errW_none, errW_some] <;> rfl) | (simp [*, errW_none, errW_some] <;> rfl), by repeat (first | (with_reducible first | exact HB.out | apply below_alloc | apply pw_below_drewN | apply below_drew1) | exact HB.out)⟩
end Go.Proofs.Ythcmfjpheanphaa.Pr
namespace Go.Proofs.Ythcmfjpheanphaa.Pr
open Go.RowKit Go.Maps Go.Proofs.YthcmfjpheanphaaW.PrintWords
attribute [local go_sem] Oper.semAt_some
def checkGo : Bld → Int → List S47 → Int
 | _, out, [] => out
 | s, out, x :: l => if (x.f0 == 1 && !mayP s.row 46) = true then 2
  else if worseP out (stepP s x).2.2 = 2 then 2 else checkGo (stepP s x).1 (worseP out (stepP s x).2.2) l
set_option pp.maxSteps 3000 in
set_option maxRecDepth 100000 in
set_option maxHeartbeats 16000000 in
theorem check_run (A0 : Option Addr) (c0 : Nat) (t : List S56) (w : World) (hlen : t.length ≤ 400000) (hz : ∀ x ∈ t, x.f1.size ≤ 1000000) (hA : Kd.C k56 w A0 t.length t) (hc0 : t.length ≤ c0)
  (k1 : Nat) (b : Bool) (hsz : tree_sized.f k1 t 0 (t.length : Int) = some b) (k2 : Nat) (ev : List S47) (hev : b = true → tree_events.f k2 t = some ev ∧ ev.length ≤ 800000 ∧ ∀ x ∈ ev, LexOk 1000000 x) :
  Calls Try.prog 57 #[.slice A0 t.length c0] w fun e w' => e = .returned (.int .i64 (if ((t.any fun x => !plainB x) || !b) = true then 2 else checkGo bld0 0 ev)) ∧ Below w.heap.size w w' := by
 have HA := Lib.hid hA
 have HCN := Lib.hid (containsN_calls A0 c0 t w (by omega) (fun x hx => by have := hz x hx; omega) hA)
 have HSZ := Lib.hid (fun W (hW : Kd.C k56 W A0 t.length t) => tree_sized.calls k1 A0 c0 t 0 (t.length : Int) b W hW hc0 hsz)
 have HEV := Lib.hid hev
 obtain ⟨R, hR⟩ : ∃ R, (if ((t.any fun x => !plainB x) || !b) = true then 2 else checkGo bld0 0 ev) = R := ⟨_, rfl⟩
 rw [hR]
 have HR := Lib.hid hR
 clear hA hsz hev hR hz
 cases hp : (t.any fun x => !plainB x)
 ·rw [hp] at HCN HR
  clear hp
  cases b
  ·have HR2 := Lib.hid (show R = 2 from HR.out.symm)
   go_enter Try.func57, Try.ntmps57
   go_wp2_with (first | (go_at_call 99; (with_reducible refine HCN.out.mono ?_); rintro e w1 ⟨rfl, hb1⟩) | (go_at_call 102; (with_reducible refine (HSZ.out _ (Kd.C_below HA.out hb1)).mono ?_); rintro e w2 ⟨rfl, hb2⟩))
   go_ret
   exact ⟨by rw [HR2.out]; rfl, hb1.trans (hb2.mono hb1.size)⟩
  ·obtain ⟨hE, hel, hok⟩ := HEV.out rfl
   have HE := Lib.hid (fun W (hW : Kd.C k56 W A0 t.length t) => tree_events.calls k2 A0 c0 t ev W hW hc0 hE)
   have HOK := Lib.hid hok
   have HR2 := Lib.hid (show checkGo bld0 0 ev = R from HR.out)
   clear hE hok HEV HR
   go_enter Try.func57, Try.ntmps57
   go_wp2_with (first | (go_at_call 99; (with_reducible refine HCN.out.mono ?_); rintro e w1 ⟨rfl, hb1⟩) | (go_at_call 102; (with_reducible refine (HSZ.out _ (Kd.C_below HA.out hb1)).mono ?_); rintro e w2 ⟨rfl, hb2⟩))
   have HW2 := Lib.hid (hb1.trans (hb2.mono hb1.size))
   clear hb1 hb2
   refine (begin_calls w2).mono ?_
   rintro e w3 ⟨g, m, rfl, hb, hb3⟩
   have HB := Lib.hid hb
   have HB3 := Lib.hid hb3
   clear hb hb3
   go_wp2_with fail
   have hW3 : Below w3.heap.size w3 (w3.alloc (.cells #[.nilFunc, .func (.func 92) #[.pointer (some ⟨g, 0, none⟩)] #[], .func (.func 93) #[.pointer (some ⟨g, 0, none⟩)] #[], .func (.func 94) #[.pointer (some ⟨g, 0, none⟩)] #[]] 98)) := (Below.refl _ _).alloc (Nat.le_refl _) _
   have hS3 := blk_new w3 (.cells #[.nilFunc, .func (.func 92) #[.pointer (some ⟨g, 0, none⟩)] #[], .func (.func 93) #[.pointer (some ⟨g, 0, none⟩)] #[], .func (.func 94) #[.pointer (some ⟨g, 0, none⟩)] #[]] 98)
   obtain ⟨W3, hW3'⟩ : ∃ W3, w3.alloc (.cells #[.nilFunc, .func (.func 92) #[.pointer (some ⟨g, 0, none⟩)] #[], .func (.func 93) #[.pointer (some ⟨g, 0, none⟩)] #[], .func (.func 94) #[.pointer (some ⟨g, 0, none⟩)] #[]] 98) = W3 := ⟨_, rfl⟩
   rw [hW3'] at hW3 hS3 ⊢
   clear hW3'
   have h03 : Below w.heap.size w W3 := HW2.out.trans ((HB3.out.trans (hW3.mono HB3.out.size)).mono HW2.out.size)
   refine (HE.out W3 (Kd.C_below HA.out h03)).mono ?_
   rintro e W4 ⟨v, rfl, hR4, hb4⟩
   obtain ⟨A, c, rfl, hc, hC⟩ := Kd.R_reads hR4
   have HB4 := Lib.hid ((HB.out.below hW3).below hb4)
   have HS4 := Lib.hid (blk_below hS3 hb4)
   have HR4 := Lib.hid hR4
   have HL4 := Lib.hid (h03.trans (hb4.mono h03.size))
   have hz4 : w2.heap.size ≤ W4.heap.size := Nat.le_trans (Nat.le_trans HB3.out.size hW3.size) hb4.size
   have HZ4 := Lib.hid hz4
   have HZ1 := Lib.hid HW2.out.size
   have HR4' := Lib.hid (Kd.R_lower hR4 (Nat.zero_le _))
   clear hW3 hS3 hR4 hb4 HB hC h03 HB3 HW2 HCN HSZ HE
   go_wp2_with fail
   go_loopw [5, 30] (fun v5 v wr => ∃ (k : Nat) (s : Bld) (vr vt : Value) (out : Int), k ≤ ev.length ∧ v = .int .i64 k ∧ v5 = .int .i64 out ∧ BAt wr w2.heap.size g m vr vt s ∧ BOk s k ∧ Below w2.heap.size W4 wr ∧ KeepK W4 wr ∧ checkGo s out (ev.drop k) = R) (fun _ v _ => ev.length - (intOf v).toNat)
   case atStart => exact ⟨0, bld0, _, _, 0, Nat.zero_le _, rfl, rfl, HB4.out, bld0_ok, Below.refl _ _, KeepK.refl _, HR2.out⟩
   case round =>
    obtain ⟨k, s, vr, vt, out, hk, rfl, rfl, hb, hbk, hlow, hkeep, hrun⟩ := hrel
    have HBA := Lib.hid hb
    have HBK := Lib.hid hbk
    have HLO := Lib.hid hlow
    have HKE := Lib.hid hkeep
    have HRU := Lib.hid hrun
    clear hb hbk hlow hkeep hrun
    by_cases hlt : k < ev.length
    ·have hlt1 : (k : Int) < (ev.length : Int) := by omega
     have hRw := R47_keep HR4'.out HKE.out
     obtain ⟨A', c', he', _, hC⟩ := Kd.R_reads hRw
     simp only [Value.slice.injEq] at he'
     obtain ⟨rfl, -, rfl⟩ := he'
     obtain ⟨ad, e1, q0, q1, q2, q3⟩ := at_T47 hC k (by omega) (by omega)
     subst e1
     simp only [Int.toNat_natCast] at q0 q1 q2 q3
     have hxl : ev[k]? = some (rd_T47 ev k) := by
      unfold rd_T47
      rw [Int.toNat_natCast, List.getD_eq_getElem?_getD, List.getElem?_eq_getElem hlt]
      rfl
     have hxok := HOK.out _ (List.mem_of_getElem? hxl)
     have hdrop : ev.drop k = rd_T47 ev k :: ev.drop (k + 1) := by
      rw [List.drop_eq_getElem_cons hlt]
      rw [List.getElem?_eq_getElem hlt] at hxl
      rw [Option.some.inj hxl]
     have hst := HRU.out
     rw [hdrop] at hst
     have hst2 : (if ((rd_T47 ev k).f0 == 1 && !mayP s.row 46) = true then 2 else if worseP out (stepP s (rd_T47 ev k)).2.2 = 2 then 2 else checkGo (stepP s (rd_T47 ev k)).1 (worseP out (stepP s (rd_T47 ev k)).2.2) (ev.drop (k + 1))) = R := hst
     clear hst hdrop hxl hRw hC
     generalize rd_T47 ev k = x at *
     have hstep := fun W (hW : BAt W w2.heap.size g m vr vt s) (hz : w2.heap.size ≤ W.heap.size) => step_calls w2.heap.size g m vr vt s x W hxok hz (by have := HBK.out.row; omega) (by have := HBK.out.t; omega) HBK.out.kinds HBK.out.pos HBK.out.chain hW
     have hmay := fun W (hW : BAt W w2.heap.size g m vr vt s) => may_calls w2.heap.size g m vr vt s 46 W (by omega) (by omega) (by have := HBK.out.row; omega) HBK.out.kinds hW
     have hok2 := stepP_ok HBK.out hxok
     have hf := hxok.1
     obtain ⟨f0, f1, f2, f3⟩ := x
     simp only at hstep q0 q1 q2 q3 hf hst2
     obtain ⟨⟨s', ra, re⟩, hRR⟩ : ∃ r, stepP s ⟨f0, f1, f2, f3⟩ = r := ⟨_, rfl⟩
     obtain ⟨mm, hmm⟩ : ∃ b, mayP s.row 46 = b := ⟨_, rfl⟩
     simp only [hRR] at hstep hst2 hok2
     rw [hmm] at hst2
     simp only [hmm] at hmay
     obtain ⟨wo, hwo⟩ : ∃ z, worseP out re = z := ⟨_, rfl⟩
     have hworse := fun W => worse_calls out re W
     rw [hwo] at hst2
     simp only [hwo] at hworse
     have HST := Lib.hid hstep
     have HMA := Lib.hid hmay
     have HWO := Lib.hid hworse
     have HS2 := Lib.hid hst2
     have HOK2 := Lib.hid hok2
     have hX0 := blk_new wr (.cells #[.int .i64 f0, .int .u8 f1, .string f2, .int .i64 f3] 47)
     have hb0 : Below wr.heap.size wr (wr.alloc (.cells #[.int .i64 f0, .int .u8 f1, .string f2, .int .i64 f3] 47)) := (Below.refl _ _).alloc (Nat.le_refl _) _
     have HX0 := Lib.hid hX0
     have HB0 := Lib.hid hb0
     clear hstep hst2 hRR hok2 hxok hmay hworse hwo hmm hX0 hb0
     by_cases hbad : f0 = 1 ∧ mm = false
     ·obtain ⟨rfl, rfl⟩ := hbad
      have HR3 := Lib.hid (show R = 2 from HS2.out.symm)
      go_wp2_with (go_at_call 104; (with_reducible refine (HMA.out _ (HBA.out.below HB0.out)).mono ?_); rintro e w5 ⟨rfl, hb5⟩)
      go_ret
      refine ⟨by rw [HR3.out]; rfl, ?_⟩
      have hx := HL4.out.trans (HLO.out.mono HZ1.out)
      exact (hx.trans (HB0.out.mono hx.size)).trans (hb5.mono (Nat.le_trans hx.size HB0.out.size))
     ·have hst3 : (if wo = 2 then 2 else checkGo s' wo (ev.drop (k + 1))) = R := by
       rw [← HS2.out]
       have : (f0 == 1 && !mm) = false := by
        rw [Bool.and_eq_false_iff]
        by_cases e : f0 = 1
        ·right; cases mm with
         | true => rfl
         | false => exact absurd ⟨e, rfl⟩ hbad
        ·left; exact beq_eq_false_iff_ne.2 e
       rw [this]
       rfl
      have HS3 := Lib.hid hst3
      have hmode : (f0 = 1 ∧ mm = true) ∨ f0 = 2 ∨ f0 = 3 := by
       rcases hf with h | h | h
       ·left; exact ⟨h, by cases mm with | true => rfl | false => exact absurd ⟨h, rfl⟩ hbad⟩
       ·right; left; exact h
       ·right; right; exact h
      clear hst3 hbad HS2 hf
      rcases hmode with ⟨rfl, rfl⟩ | rfl | rfl
      ·go_wp2_with (go_at_call 104; (with_reducible refine (HMA.out _ (HBA.out.below HB0.out)).mono ?_); rintro e w5 ⟨rfl, hb5⟩)
       have HX5 := Lib.hid (blk_below HX0.out hb5)
       have HB5 := Lib.hid (HB0.out.trans (hb5.mono HB0.out.size))
       clear hb5
       obtain ⟨W5, hW5⟩ : ∃ W5, w5.drew = W5 := ⟨_, rfl⟩
       have hb6 : Below wr.heap.size wr W5 := by rw [← hW5]; exact below_drew1 HB5.out
       have hmv : ∀ (i : Nat) (o : Obj), w5.heap[i]? = some o → W5.heap[i]? = some o := fun i o ho => by rw [← hW5]; exact ho
       have hX6 := hmv _ _ HX5.out
       clear hmv
       have hS6 := blk_below (HKE.out _ _ HS4.out rfl) hb6
       have HX6 := Lib.hid hX6
       have HS6 := Lib.hid hS6
       have HB6 := Lib.hid hb6
       clear hX6 hS6 hb6
       refine Go.Mix.region_mix' (fun b W => cond b (StepTo w2.heap.size g m s' W5 W) (W = W5)) 5 11 [] (by kernel_rfl) (by kernel_rfl) (fun _ _ _ _ _ h => h) hW5 ?_
       clear hW5 q0 q1 q2 q3
       refine Go.Mix.seqE_nil ?_
       repeat
        apply Go.Mix.seqM_cons (by rfl) (by rfl)
        focus
         intro b W hS
         have hX := step_keep hS HX6.out rfl
         have hZ := step_keep hS HS6.out rfl
         have x0 := blk_cell hX 0
         have x1 := blk_cell hX 1
         have x2 := blk_cell hX 2
         have x3 := blk_cell hX 3
         have s1 := blk_cell hZ 1
         have s2 := blk_cell hZ 2
         have s3 := blk_cell hZ 3
         simp only [List.getElem?_toArray, List.getElem?_cons_succ, List.getElem?_cons_zero] at x0 x1 x2 x3 s1 s2 s3
         have HS := Lib.hid hS
         clear hS hX hZ
         go_wp2
         exact Go.Det.AtEnd.mk HS.out
       apply Go.Mix.seqM_main (by rfl)
       focus
        intro W hS
        obtain rfl : W = W5 := hS
        go_wp2_with fail
        refine (HST.out W (HBA.out.below HB6.out) (Nat.le_trans (Nat.le_trans HZ4.out HLO.out.size) HB6.out.size)).mono ?_
        rintro e W7 ⟨rfl, hst⟩
        have HSTT := Lib.hid hst
        clear hst
        go_wp2
        exact Go.Det.AtEnd.mk HSTT.out
       repeat
        apply Go.Mix.seqM_cons (by rfl) (by rfl)
        focus
         intro b W hS
         have HS := Lib.hid hS
         clear hS
         go_wp2
         exact Go.Det.AtEnd.mk HS.out
       refine Go.Mix.seqM_nil ?_
       intro W7 hW7
       obtain ⟨vr5, vt5, hb5, hl5, hk5⟩ := (show StepTo w2.heap.size g m s' W5 W7 from hW7)
       clear hW7
       simp only [List.drop_succ_cons, List.drop_zero, Exit.then]
       have HB7 := Lib.hid hb5
       have HL7 := Lib.hid ((HLO.out.trans (below_low HB6.out (Nat.le_trans HZ4.out HLO.out.size))).trans hl5)
       have HK7 := Lib.hid ((HKE.out.trans (KeepK.below HB6.out)).trans hk5)
       clear hb5 hl5 hk5
       by_cases hw2 : wo = 2
       ·have HR3 := Lib.hid (show R = 2 from by rw [← HS3.out, if_pos hw2])
        have hwb : (wo == 2) = true := beq_iff_eq.2 hw2
        subst hw2
        go_wp2_with (go_at_call 105; (with_reducible refine (HWO.out _).mono ?_); rintro e w8 ⟨rfl, rfl⟩)
        go_ret
        exact ⟨by rw [HR3.out]; rfl, HL4.out.trans (HL7.out.mono HZ1.out)⟩
       ·have HR3 := Lib.hid (show checkGo s' wo (ev.drop (k + 1)) = R from by rw [← HS3.out, if_neg hw2])
        have hwb : (wo == 2) = false := beq_eq_false_iff_ne.2 hw2
        clear hw2
        go_wp2_with (go_at_call 105; (with_reducible refine (HWO.out _).mono ?_); rintro e w8 ⟨rfl, rfl⟩)
        go_roundw
        case rel => exact ⟨k + 1, s', vr5, vt5, wo, by omega, by go_num, rfl, HB7.out, HOK2.out, HL7.out, HK7.out, HR3.out⟩
        case measure => simp [intOf]; omega
      ·go_wp2
       obtain ⟨w5, hw5⟩ : ∃ w5, wr.alloc (.cells #[.int .i64 2, .int .u8 f1, .string f2, .int .i64 f3] 47) = w5 := ⟨_, rfl⟩
       rw [hw5] at HX0 HB0 ⊢
       have HX5 := HX0
       have HB5 := HB0
       clear hw5
       obtain ⟨W5, hW5⟩ : ∃ W5, w5.drew = W5 := ⟨_, rfl⟩
       have hb6 : Below wr.heap.size wr W5 := by rw [← hW5]; exact below_drew1 HB5.out
       have hmv : ∀ (i : Nat) (o : Obj), w5.heap[i]? = some o → W5.heap[i]? = some o := fun i o ho => by rw [← hW5]; exact ho
       have hX6 := hmv _ _ HX5.out
       clear hmv
       have hS6 := blk_below (HKE.out _ _ HS4.out rfl) hb6
       have HX6 := Lib.hid hX6
       have HS6 := Lib.hid hS6
       have HB6 := Lib.hid hb6
       clear hX6 hS6 hb6
       refine Go.Mix.region_mix' (fun b W => cond b (StepTo w2.heap.size g m s' W5 W) (W = W5)) 5 11 [] (by kernel_rfl) (by kernel_rfl) (fun _ _ _ _ _ h => h) hW5 ?_
       clear hW5 q0 q1 q2 q3
       refine Go.Mix.seqE_nil ?_
       repeat
        apply Go.Mix.seqM_cons (by rfl) (by rfl)
        focus
         intro b W hS
         have hX := step_keep hS HX6.out rfl
         have hZ := step_keep hS HS6.out rfl
         have x0 := blk_cell hX 0
         have x1 := blk_cell hX 1
         have x2 := blk_cell hX 2
         have x3 := blk_cell hX 3
         have s1 := blk_cell hZ 1
         have s2 := blk_cell hZ 2
         have s3 := blk_cell hZ 3
         simp only [List.getElem?_toArray, List.getElem?_cons_succ, List.getElem?_cons_zero] at x0 x1 x2 x3 s1 s2 s3
         have HS := Lib.hid hS
         clear hS hX hZ
         go_wp2
         exact Go.Det.AtEnd.mk HS.out
       apply Go.Mix.seqM_main (by rfl)
       focus
        intro W hS
        obtain rfl : W = W5 := hS
        go_wp2_with fail
        refine (HST.out W (HBA.out.below HB6.out) (Nat.le_trans (Nat.le_trans HZ4.out HLO.out.size) HB6.out.size)).mono ?_
        rintro e W7 ⟨rfl, hst⟩
        have HSTT := Lib.hid hst
        clear hst
        go_wp2
        exact Go.Det.AtEnd.mk HSTT.out
       repeat
        apply Go.Mix.seqM_cons (by rfl) (by rfl)
        focus
         intro b W hS
         have HS := Lib.hid hS
         clear hS
         go_wp2
         exact Go.Det.AtEnd.mk HS.out
       refine Go.Mix.seqM_nil ?_
       intro W7 hW7
       obtain ⟨vr5, vt5, hb5, hl5, hk5⟩ := (show StepTo w2.heap.size g m s' W5 W7 from hW7)
       clear hW7
       simp only [List.drop_succ_cons, List.drop_zero, Exit.then]
       have HB7 := Lib.hid hb5
       have HL7 := Lib.hid ((HLO.out.trans (below_low HB6.out (Nat.le_trans HZ4.out HLO.out.size))).trans hl5)
       have HK7 := Lib.hid ((HKE.out.trans (KeepK.below HB6.out)).trans hk5)
       clear hb5 hl5 hk5
       by_cases hw2 : wo = 2
       ·have HR3 := Lib.hid (show R = 2 from by rw [← HS3.out, if_pos hw2])
        have hwb : (wo == 2) = true := beq_iff_eq.2 hw2
        subst hw2
        go_wp2_with (go_at_call 105; (with_reducible refine (HWO.out _).mono ?_); rintro e w8 ⟨rfl, rfl⟩)
        go_ret
        exact ⟨by rw [HR3.out]; rfl, HL4.out.trans (HL7.out.mono HZ1.out)⟩
       ·have HR3 := Lib.hid (show checkGo s' wo (ev.drop (k + 1)) = R from by rw [← HS3.out, if_neg hw2])
        have hwb : (wo == 2) = false := beq_eq_false_iff_ne.2 hw2
        clear hw2
        go_wp2_with (go_at_call 105; (with_reducible refine (HWO.out _).mono ?_); rintro e w8 ⟨rfl, rfl⟩)
        go_roundw
        case rel => exact ⟨k + 1, s', vr5, vt5, wo, by omega, by go_num, rfl, HB7.out, HOK2.out, HL7.out, HK7.out, HR3.out⟩
        case measure => simp [intOf]; omega
      ·go_wp2
       obtain ⟨w5, hw5⟩ : ∃ w5, wr.alloc (.cells #[.int .i64 3, .int .u8 f1, .string f2, .int .i64 f3] 47) = w5 := ⟨_, rfl⟩
       rw [hw5] at HX0 HB0 ⊢
       have HX5 := HX0
       have HB5 := HB0
       clear hw5
       obtain ⟨W5, hW5⟩ : ∃ W5, w5.drew = W5 := ⟨_, rfl⟩
       have hb6 : Below wr.heap.size wr W5 := by rw [← hW5]; exact below_drew1 HB5.out
       have hmv : ∀ (i : Nat) (o : Obj), w5.heap[i]? = some o → W5.heap[i]? = some o := fun i o ho => by rw [← hW5]; exact ho
       have hX6 := hmv _ _ HX5.out
       clear hmv
       have hS6 := blk_below (HKE.out _ _ HS4.out rfl) hb6
       have HX6 := Lib.hid hX6
       have HS6 := Lib.hid hS6
       have HB6 := Lib.hid hb6
       clear hX6 hS6 hb6
       refine Go.Mix.region_mix' (fun b W => cond b (StepTo w2.heap.size g m s' W5 W) (W = W5)) 5 11 [] (by kernel_rfl) (by kernel_rfl) (fun _ _ _ _ _ h => h) hW5 ?_
       clear hW5 q0 q1 q2 q3
       refine Go.Mix.seqE_nil ?_
       repeat
        apply Go.Mix.seqM_cons (by rfl) (by rfl)
        focus
         intro b W hS
         have hX := step_keep hS HX6.out rfl
         have hZ := step_keep hS HS6.out rfl
         have x0 := blk_cell hX 0
         have x1 := blk_cell hX 1
         have x2 := blk_cell hX 2
         have x3 := blk_cell hX 3
         have s1 := blk_cell hZ 1
         have s2 := blk_cell hZ 2
         have s3 := blk_cell hZ 3
         simp only [List.getElem?_toArray, List.getElem?_cons_succ, List.getElem?_cons_zero] at x0 x1 x2 x3 s1 s2 s3
         have HS := Lib.hid hS
         clear hS hX hZ
         go_wp2
         exact Go.Det.AtEnd.mk HS.out
       apply Go.Mix.seqM_main (by rfl)
       focus
        intro W hS
        obtain rfl : W = W5 := hS
        go_wp2_with fail
        refine (HST.out W (HBA.out.below HB6.out) (Nat.le_trans (Nat.le_trans HZ4.out HLO.out.size) HB6.out.size)).mono ?_
        rintro e W7 ⟨rfl, hst⟩
        have HSTT := Lib.hid hst
        clear hst
        go_wp2
        exact Go.Det.AtEnd.mk HSTT.out
       repeat
        apply Go.Mix.seqM_cons (by rfl) (by rfl)
        focus
         intro b W hS
         have HS := Lib.hid hS
         clear hS
         go_wp2
         exact Go.Det.AtEnd.mk HS.out
       refine Go.Mix.seqM_nil ?_
       intro W7 hW7
       obtain ⟨vr5, vt5, hb5, hl5, hk5⟩ := (show StepTo w2.heap.size g m s' W5 W7 from hW7)
       clear hW7
       simp only [List.drop_succ_cons, List.drop_zero, Exit.then]
       have HB7 := Lib.hid hb5
       have HL7 := Lib.hid ((HLO.out.trans (below_low HB6.out (Nat.le_trans HZ4.out HLO.out.size))).trans hl5)
       have HK7 := Lib.hid ((HKE.out.trans (KeepK.below HB6.out)).trans hk5)
       clear hb5 hl5 hk5
       by_cases hw2 : wo = 2
       ·have HR3 := Lib.hid (show R = 2 from by rw [← HS3.out, if_pos hw2])
        have hwb : (wo == 2) = true := beq_iff_eq.2 hw2
        subst hw2
        go_wp2_with (go_at_call 105; (with_reducible refine (HWO.out _).mono ?_); rintro e w8 ⟨rfl, rfl⟩)
        go_ret
        exact ⟨by rw [HR3.out]; rfl, HL4.out.trans (HL7.out.mono HZ1.out)⟩
       ·have HR3 := Lib.hid (show checkGo s' wo (ev.drop (k + 1)) = R from by rw [← HS3.out, if_neg hw2])
        have hwb : (wo == 2) = false := beq_eq_false_iff_ne.2 hw2
        clear hw2
        go_wp2_with (go_at_call 105; (with_reducible refine (HWO.out _).mono ?_); rintro e w8 ⟨rfl, rfl⟩)
        go_roundw
        case rel => exact ⟨k + 1, s', vr5, vt5, wo, by omega, by go_num, rfl, HB7.out, HOK2.out, HL7.out, HK7.out, HR3.out⟩
        case measure => simp [intOf]; omega
    ·obtain rfl : k = ev.length := by omega
     have hlt1 : ¬ (ev.length : Int) < (ev.length : Int) := by omega
     have hend : R = out := by rw [← HRU.out, List.drop_length]; rfl
     have HEND := Lib.hid hend
     clear hend
     go_wp2
     go_ret
     exact ⟨by rw [HEND.out]; rfl, HL4.out.trans (HLO.out.mono HZ1.out)⟩
 ·rw [hp] at HCN HR
  have HR2 := Lib.hid (show R = 2 from HR.out.symm)
  clear hp
  go_enter Try.func57, Try.ntmps57
  go_wp2_with (go_at_call 99; (with_reducible refine HCN.out.mono ?_); rintro e w1 ⟨rfl, hb1⟩)
  go_ret
  exact ⟨by rw [HR2.out]; rfl, hb1⟩
end Go.Proofs.Ythcmfjpheanphaa.Pr
namespace Go.Proofs.Ythcmfjpheanphaa.Pr
open Go.RowKit Go.Proofs.YthcmfjpheanphaaW.PrintWords
def sizedB : Nat → List S56 → Nat → Nat → Bool
 | 0, _, _, _ => false
 | n + 1, t, a, e => if a < e then (if 1 ≤ (rd_T56 t a).f3 ∧ (rd_T56 t a).f3 ≤ (e : Int) - a then sizedB n t (a + 1) (a + (rd_T56 t a).f3.toNat) && sizedB n t (a + (rd_T56 t a).f3.toNat) e else false) else true
theorem sizedB_more (t : List S56) : ∀ (n m a e : Nat), e - a < n → e - a < m → sizedB n t a e = sizedB m t a e
 | 0, _, _, _, h, _ => by omega
 | _ + 1, 0, _, _, _, h => by omega
 | n + 1, m + 1, a, e, h1, h2 => by
  simp only [sizedB]
  by_cases hlt : a < e
  ·rw [if_pos hlt, if_pos hlt]
   by_cases hs : 1 ≤ (rd_T56 t a).f3 ∧ (rd_T56 t a).f3 ≤ (e : Int) - a
   ·rw [if_pos hs, if_pos hs, sizedB_more t n m (a + 1) _ (by omega) (by omega), sizedB_more t n m (a + (rd_T56 t a).f3.toNat) e (by omega) (by omega)]
   ·rw [if_neg hs, if_neg hs]
  ·rw [if_neg hlt, if_neg hlt]
def sizedT (t : List S56) (a e : Nat) : Bool := sizedB (e - a + 1) t a e
theorem sizedT_end (t : List S56) (a e : Nat) (h : ¬ a < e) : sizedT t a e = true := by
 unfold sizedT
 simp only [sizedB]
 rw [if_neg h]
theorem sizedT_step (t : List S56) (a e : Nat) (h : a < e) : sizedT t a e = if 1 ≤ (rd_T56 t a).f3 ∧ (rd_T56 t a).f3 ≤ (e : Int) - a then sizedT t (a + 1) (a + (rd_T56 t a).f3.toNat) && sizedT t (a + (rd_T56 t a).f3.toNat) e else false := by
 unfold sizedT
 rw [sizedB]
 rw [if_pos h]
 by_cases hs : 1 ≤ (rd_T56 t a).f3 ∧ (rd_T56 t a).f3 ≤ (e : Int) - a
 ·rw [if_pos hs, if_pos hs]
  congr 1
  ·exact sizedB_more t _ _ _ _ (by omega) (by omega)
  ·exact sizedB_more t _ _ _ _ (by omega) (by omega)
 ·rw [if_neg hs, if_neg hs]
theorem wrap_nat {n : Nat} (h : n ≤ 9000000) : wrap64 (n : Int) = n := IntWalk.wrap64_in _ ⟨by omega, by omega⟩
theorem sized_f (t : List S56) (hl : t.length ≤ 1000000) : ∀ (n a e k : Nat), e - a ≤ n → a ≤ e → e ≤ t.length → 2 * n + 1 ≤ k → tree_sized.l0 k t a e = some (sizedT t a e)
 | 0, a, e, k, h, hae, _, hk => by
  obtain ⟨k, rfl⟩ : ∃ j, k = j + 1 := ⟨k - 1, by omega⟩
  rw [tree_sized.l0, if_neg (by omega), sizedT_end t a e (by omega)]
 | n + 1, a, e, k, h, hae, he, hk => by
  obtain ⟨k, rfl⟩ : ∃ j, k = j + 2 := ⟨k - 2, by omega⟩
  rw [tree_sized.l0]
  by_cases hlt : a < e
  ·have hw1 : wrap64 ((e : Int) - (a : Int)) = (e : Int) - a := by
    rw [show (e : Int) - (a : Int) = ((e - a : Nat) : Int) from by omega]; exact wrap_nat (by omega)
   rw [if_pos (by omega), if_pos (by omega), if_pos (by omega), hw1, sizedT_step t a e hlt]
   by_cases h1 : (rd_T56 t a).f3 < 1
   ·rw [if_pos h1, if_neg (by omega)]
   ·by_cases h2 : (rd_T56 t a).f3 > (e : Int) - a
    ·rw [if_neg h1, if_pos h2, if_neg (by omega)]
    ·rw [if_neg h1, if_neg h2, if_pos (by omega)]
     have e1 : wrap64 ((a : Int) + 1) = ((a + 1 : Nat) : Int) := by rw [show (a : Int) + 1 = ((a + 1 : Nat) : Int) from by omega]; exact wrap_nat (by omega)
     have e2 : wrap64 ((a : Int) + (rd_T56 t a).f3) = ((a + (rd_T56 t a).f3.toNat : Nat) : Int) := by rw [show (a : Int) + (rd_T56 t a).f3 = ((a + (rd_T56 t a).f3.toNat : Nat) : Int) from by omega]; exact wrap_nat (by omega)
     rw [e1, e2]
     have ih1 := sized_f t hl n (a + 1) (a + (rd_T56 t a).f3.toNat) k (by omega) (by omega) (by omega) (by omega)
     have ih2 := sized_f t hl n (a + (rd_T56 t a).f3.toNat) e (k + 1) (by omega) (by omega) (by omega) (by omega)
     rw [tree_sized.f, ih1, ih2, Option.bind_some]
     cases sizedT t (a + 1) (a + (rd_T56 t a).f3.toNat) <;> simp
  ·rw [if_neg (by omega), sizedT_end t a e hlt]
def shutX : S47 := ⟨3, 0, ⟨#[]⟩, 0⟩
def nodeX (x : S56) : S47 := if x.f0 = 46 then ⟨1, 0, x.f1, 0⟩ else ⟨2, x.f0, ⟨#[]⟩, 0⟩
def closeE : Nat → List S47 → List Int → Int → List S47 × List Int
 | 0, o, e, _ => (o, e)
 | n + 1, o, e, i => if e ≠ [] ∧ rd e ((e.length : Int) - 1) = i then closeE n (o ++ [shutX]) e.dropLast i else (o, e)
def evStep (x : S56) (i : Nat) (s : List S47 × List Int) : List S47 × List Int :=
 ((closeE s.2.length s.1 s.2 i).1 ++ [nodeX x], if x.f0 = 46 then (closeE s.2.length s.1 s.2 i).2 else (closeE s.2.length s.1 s.2 i).2 ++ [(i : Int) + x.f3])
def evRun : List S56 → Nat → List S47 × List Int → List S47 × List Int
 | [], _, s => s
 | x :: l, i, s => evRun l (i + 1) (evStep x i s)
def eventsP (t : List S56) : List S47 := (evRun t 0 ([], [])).1 ++ List.replicate (evRun t 0 ([], [])).2.length shutX
theorem l2_f (n : Nat) (hn : n ≤ 400000) : ∀ (d j k : Nat) (o : List S47), d + j = n → o.length + d ≤ 3000000 → d + 1 ≤ k → tree_events.l2 k o n j = some (o ++ List.replicate d shutX)
 | 0, j, k, o, h, ho, hk => by
  obtain ⟨k, rfl⟩ : ∃ q, k = q + 1 := ⟨k - 1, by omega⟩
  rw [tree_events.l2, if_neg (by omega)]
  simp
 | d + 1, j, k, o, h, ho, hk => by
  obtain ⟨k, rfl⟩ : ∃ q, k = q + 1 := ⟨k - 1, by omega⟩
  rw [tree_events.l2, if_pos (by omega), Option.bind_some, if_pos (by simp; omega)]
  have e1 : wrap64 ((j : Int) + 1) = ((j + 1 : Nat) : Int) := by rw [show (j : Int) + 1 = ((j + 1 : Nat) : Int) from by omega]; exact wrap_nat (by omega)
  rw [e1, l2_f n hn d (j + 1) k _ (by omega) (by simp; omega) (by omega)]
  simp [List.replicate_succ, shutX]
theorem closeE_len : ∀ (d : Nat) (o : List S47) (e : List Int) (i : Int), (closeE d o e i).1.length + (closeE d o e i).2.length = o.length + e.length ∧ (closeE d o e i).2.length ≤ e.length
 | 0, o, e, i => ⟨rfl, Nat.le_refl _⟩
 | d + 1, o, e, i => by
  simp only [closeE]
  split
  ·rename_i h
   have hp : 0 < e.length := List.length_pos_iff.2 h.1
   obtain ⟨g1, g2⟩ := closeE_len d (o ++ [shutX]) e.dropLast i
   rw [List.length_dropLast] at g1 g2
   simp only [List.length_append, List.length_cons, List.length_nil] at g1
   exact ⟨by omega, by omega⟩
  ·exact ⟨rfl, Nat.le_refl _⟩
theorem l1_f (t : List S56) (n : Int) (x : S56) (i : Nat) (hi : i ≤ 400000) (h3 : 1 ≤ x.f3 ∧ x.f3 ≤ 400000) (K0 : Nat) (R : List S47) : ∀ (d : Nat) (out : List S47) (ends : List Int) (k : Nat), ends.length = d → out.length + ends.length ≤ 2 * i + 1 →
  (∀ K, K0 ≤ K → tree_events.l0 K (evStep x i (out, ends)).1 (evStep x i (out, ends)).2 t n ((i + 1 : Nat) : Int) = some R) → K0 + d + 1 ≤ k + (closeE ends.length out ends i).2.length →
  tree_events.l1 k out ends (i : Int) t n (i : Int) x.f0 x.f1 x.f2 x.f3 = some R
 | 0, out, ends, k, hd, hb, hR, hk => by
  obtain rfl : ends = [] := List.eq_nil_of_length_eq_zero hd
  simp only [List.length_nil, closeE] at hk
  obtain ⟨k, rfl⟩ : ∃ q, k = q + 1 := ⟨k - 1, by omega⟩
  have hR' := hR k (by omega)
  unfold evStep at hR'
  simp only [closeE, List.length_nil] at hR'
  have e1 : wrap64 ((i : Int) + 1) = ((i + 1 : Nat) : Int) := by rw [show (i : Int) + 1 = ((i + 1 : Nat) : Int) from by omega]; exact wrap_nat (by omega)
  have e2 : wrap64 ((i : Int) + x.f3) = (i : Int) + x.f3 := by
   rw [show (i : Int) + x.f3 = ((i + x.f3.toNat : Nat) : Int) from by omega]; exact wrap_nat (by omega)
  simp only [List.length_nil] at hb
  rw [tree_events.l1, if_neg (by simp)]
  by_cases h46 : x.f0 = 46
  ·rw [if_pos h46, Option.bind_some, if_pos (by simp; omega), e1]
   rw [if_pos h46] at hR'
   rw [show ([(⟨1, 0, x.f1, 0⟩ : S47)] : List S47) = [nodeX x] from by unfold nodeX; rw [if_pos h46]]
   exact hR'
  ·rw [if_neg h46, Option.bind_some, if_pos (by simp; omega), Option.bind_some, if_pos (by simp), e1, e2]
   rw [if_neg h46] at hR'
   rw [show ([(⟨2, x.f0, ⟨#[]⟩, 0⟩ : S47)] : List S47) = [nodeX x] from by unfold nodeX; rw [if_neg h46]]
   exact hR'
 | d + 1, out, ends, k, hd, hb, hR, hk => by
  have hcl := (closeE_len ends.length out ends i).2
  obtain ⟨k, rfl⟩ : ∃ q, k = q + 1 := ⟨k - 1, by omega⟩
  have hne : ends ≠ [] := fun e => by rw [e] at hd; cases hd
  have e1 : wrap64 ((i : Int) + 1) = ((i + 1 : Nat) : Int) := by rw [show (i : Int) + 1 = ((i + 1 : Nat) : Int) from by omega]; exact wrap_nat (by omega)
  have e2 : wrap64 ((i : Int) + x.f3) = (i : Int) + x.f3 := by
   rw [show (i : Int) + x.f3 = ((i + x.f3.toNat : Nat) : Int) from by omega]; exact wrap_nat (by omega)
  have e3 : wrap64 ((ends.length : Int) - 1) = (ends.length : Int) - 1 := by
   rw [show (ends.length : Int) - 1 = ((ends.length - 1 : Nat) : Int) from by omega]; exact wrap_nat (by omega)
  rw [tree_events.l1, if_pos (by omega), e3, if_pos (by omega), if_pos (by omega)]
  by_cases hr : rd ends ((ends.length : Int) - 1) = (i : Int)
  ·have hc : closeE ends.length out ends i = closeE ends.dropLast.length (out ++ [shutX]) ends.dropLast i := by
    rw [show ends.dropLast.length = d from by rw [List.length_dropLast]; omega, hd]
    simp only [closeE]
    rw [if_pos ⟨hne, hr⟩]
   rw [if_pos hr, Option.bind_some, if_pos (by simp; omega), if_pos (by omega)]
   have hdl : ends.take ((ends.length : Int) - 1).toNat = ends.dropLast := by
    rw [List.dropLast_eq_take]
    congr 1
    omega
   rw [hdl]
   refine l1_f t n x i hi h3 K0 R d (out ++ [⟨3, 0, ⟨#[]⟩, 0⟩]) ends.dropLast k (by rw [List.length_dropLast]; omega) (by rw [List.length_append, List.length_dropLast]; simp; omega) (fun K hK => ?_) (by rw [hc] at hk; show K0 + d + 1 ≤ k + (closeE ends.dropLast.length (out ++ [shutX]) ends.dropLast i).2.length; omega)
   have hs : evStep x i (out ++ [⟨3, 0, ⟨#[]⟩, 0⟩], ends.dropLast) = evStep x i (out, ends) := by
    unfold evStep
    simp only [hc]
    rfl
   rw [hs]
   exact hR K hK
  ·rw [if_neg hr]
   have hc : closeE ends.length out ends i = (out, ends) := by
    rw [hd]
    simp only [closeE]
    rw [if_neg (fun h => hr h.2)]
   have hR' := hR k (by rw [hc] at hk; simp only at hk; omega)
   unfold evStep at hR'
   simp only [hc] at hR'
   by_cases h46 : x.f0 = 46
   ·rw [if_pos h46, Option.bind_some, if_pos (by simp; omega), e1]
    rw [if_pos h46] at hR'
    rw [show ([(⟨1, 0, x.f1, 0⟩ : S47)] : List S47) = [nodeX x] from by unfold nodeX; rw [if_pos h46]]
    exact hR'
   ·rw [if_neg h46, Option.bind_some, if_pos (by simp; omega), Option.bind_some, if_pos (by simp; omega), e1, e2]
    rw [if_neg h46] at hR'
    rw [show ([(⟨2, x.f0, ⟨#[]⟩, 0⟩ : S47)] : List S47) = [nodeX x] from by unfold nodeX; rw [if_neg h46]]
    exact hR'
theorem evStep_len (x : S56) (i : Nat) (s : List S47 × List Int) : (evStep x i s).1.length + (evStep x i s).2.length ≤ s.1.length + s.2.length + 2 ∧ (evStep x i s).2.length ≤ s.2.length + 1 ∧ (evStep x i s).2.length ≤ (closeE s.2.length s.1 s.2 i).2.length + 1 := by
 obtain ⟨g1, g2⟩ := closeE_len s.2.length s.1 s.2 i
 unfold evStep
 split <;> simp <;> omega
theorem l0_f (t : List S56) (ht : t.length ≤ 400000) (h3 : ∀ x ∈ t, 1 ≤ x.f3 ∧ x.f3 ≤ 400000) : ∀ (m i : Nat) (s : List S47 × List Int) (k : Nat), m + i = t.length → s.1.length + s.2.length ≤ 2 * i → s.2.length ≤ i → 4 * m + 2 * s.2.length + 5 ≤ k →
  tree_events.l0 k s.1 s.2 t (t.length : Int) (i : Int) = some ((evRun (t.drop i) i s).1 ++ List.replicate (evRun (t.drop i) i s).2.length shutX)
 | 0, i, s, k, hm, hb, he, hk => by
  obtain ⟨k, rfl⟩ : ∃ q, k = q + 1 := ⟨k - 1, by omega⟩
  rw [tree_events.l0, if_neg (by omega), List.drop_of_length_le (by omega)]
  exact l2_f s.2.length (by omega) s.2.length 0 k s.1 (by omega) (by omega) (by omega)
 | m + 1, i, s, k, hm, hb, he, hk => by
  obtain ⟨k, rfl⟩ : ∃ q, k = q + 1 := ⟨k - 1, by omega⟩
  rw [tree_events.l0, if_pos (by omega), if_pos (by omega), if_pos (by omega), rd56_dropH t i (by omega)]
  obtain ⟨g1, g2, g3⟩ := evStep_len (rd_T56 t i) i s
  have g4 := closeE_len s.2.length s.1 s.2 i
  refine l1_f t _ (rd_T56 t i) i (by omega) (h3 _ (rd56_mem t i (by omega))) (4 * m + 2 * (evStep (rd_T56 t i) i s).2.length + 5) _ s.2.length s.1 s.2 k rfl (by omega) (fun K hK => ?_) (by omega)
  exact l0_f t ht h3 m (i + 1) (evStep (rd_T56 t i) i s) K (by omega) (by omega) (by omega) hK
theorem events_f (t : List S56) (ht : t.length ≤ 400000) (h3 : ∀ x ∈ t, 1 ≤ x.f3 ∧ x.f3 ≤ 400000) (k : Nat) (hk : 4 * t.length + 5 ≤ k) : tree_events.f k t = some (eventsP t) := by
 unfold tree_events.f eventsP
 have := l0_f t ht h3 t.length 0 ([], []) k (by omega) (by simp) (by simp) (by simp; omega)
 exact this
theorem sizedT_all (t : List S56) : ∀ (n a e : Nat), e - a ≤ n → sizedT t a e = true → ∀ i, a ≤ i → i < e → 1 ≤ (rd_T56 t i).f3 ∧ (rd_T56 t i).f3 ≤ (e : Int) - i
 | 0, a, e, h, _, i, h1, h2 => by omega
 | n + 1, a, e, h, hs, i, h1, h2 => by
  rw [sizedT_step t a e (by omega)] at hs
  by_cases hc : 1 ≤ (rd_T56 t a).f3 ∧ (rd_T56 t a).f3 ≤ (e : Int) - a
  ·rw [if_pos hc, Bool.and_eq_true] at hs
   by_cases e1 : i = a
   ·subst e1; exact hc
   ·by_cases e2 : i < a + (rd_T56 t a).f3.toNat
    ·have := sizedT_all t n (a + 1) _ (by omega) hs.1 i (by omega) e2
     exact ⟨this.1, by omega⟩
    ·exact sizedT_all t n _ e (by omega) hs.2 i (by omega) h2
  ·rw [if_neg hc] at hs; cases hs
theorem closeE_mem {P : S47 → Prop} (hs : P shutX) : ∀ (d : Nat) (o : List S47) (e : List Int) (i : Int), (∀ x ∈ o, P x) → ∀ x ∈ (closeE d o e i).1, P x
 | 0, o, e, i, h => h
 | d + 1, o, e, i, h => by
  simp only [closeE]
  split
  ·refine closeE_mem hs d _ _ i fun x hx => ?_
   rcases List.mem_append.1 hx with hx | hx
   ·exact h x hx
   ·rw [List.mem_singleton.1 hx]; exact hs
  ·exact h
theorem evRun_mem {P : S47 → Prop} (hs : P shutX) : ∀ (l : List S56) (i : Nat) (s : List S47 × List Int), (∀ y ∈ l, P (nodeX y)) → (∀ x ∈ s.1, P x) → ∀ x ∈ (evRun l i s).1, P x
 | [], i, s, _, h => h
 | y :: l, i, s, hy, h => by
  refine evRun_mem hs l (i + 1) _ (fun z hz => hy z (List.mem_cons_of_mem _ hz)) fun x hx => ?_
  unfold evStep at hx
  rcases List.mem_append.1 hx with hx | hx
  ·exact closeE_mem hs _ _ _ _ h x hx
  ·rw [List.mem_singleton.1 hx]; exact hy y List.mem_cons_self
theorem events_mem {P : S47 → Prop} (hs : P shutX) (t : List S56) (h : ∀ y ∈ t, P (nodeX y)) : ∀ x ∈ eventsP t, P x := by
 intro x hx
 unfold eventsP at hx
 rcases List.mem_append.1 hx with hx | hx
 ·exact evRun_mem hs t 0 ([], []) h (by intro y hy; cases hy) x hx
 ·rw [(List.mem_replicate.1 hx).2]; exact hs
theorem evRun_len : ∀ (l : List S56) (i : Nat) (s : List S47 × List Int), (evRun l i s).1.length + (evRun l i s).2.length ≤ s.1.length + s.2.length + 2 * l.length
 | [], i, s => by simp [evRun]
 | y :: l, i, s => by
  have h1 := evRun_len l (i + 1) (evStep y i s)
  have h2 := (evStep_len y i s).1
  simp only [evRun, List.length_cons]
  omega
def checkP (t : List S56) : Int := if ((t.any fun x => !plainB x) || !sizedT t 0 t.length) = true then 2 else checkGo bld0 0 (eventsP t)
def NodesOk (t : List S56) : Prop := ∀ x ∈ t, x.f1.size ≤ 1000000 ∧ 0 ≤ x.f0 ∧ x.f0 ≤ 255
theorem rd56_of_mem {t : List S56} {x : S56} (h : x ∈ t) : ∃ i, i < t.length ∧ rd_T56 t i = x := by
 obtain ⟨i, hi, e⟩ := List.mem_iff_getElem.1 h
 refine ⟨i, hi, ?_⟩
 unfold rd_T56
 rw [Int.toNat_natCast, List.getD_eq_getElem?_getD, List.getElem?_eq_getElem hi]
 exact e
theorem check_calls (A0 : Option Addr) (c0 : Nat) (t : List S56) (w : World) (hlen : t.length ≤ 400000) (hk : NodesOk t) (hA : Kd.C k56 w A0 t.length t) (hc0 : t.length ≤ c0) :
  Calls Try.prog 57 #[.slice A0 t.length c0] w fun e w' => e = .returned (.int .i64 (checkP t)) ∧ Below w.heap.size w w' := by
 refine check_run A0 c0 t w hlen (fun x hx => (hk x hx).1) hA hc0 (2 * t.length + 2) (sizedT t 0 t.length) ?_ (4 * t.length + 5) (eventsP t) fun hs => ?_
 ·exact sized_f t (by omega) t.length 0 t.length (2 * t.length + 1) (by omega) (by omega) (by omega) (by omega)
 ·refine ⟨events_f t hlen (fun x hx => ?_) _ (Nat.le_refl _), ?_, events_mem ⟨.inr (.inr rfl), by decide, by decide, by decide, by decide, by decide⟩ t fun y hy => ?_⟩
  ·obtain ⟨i, hi, rfl⟩ := rd56_of_mem hx
   have := sizedT_all t t.length 0 t.length (by omega) hs i (by omega) hi
   omega
  ·have := evRun_len t 0 ([], [])
   unfold eventsP
   simp only [List.length_append, List.length_replicate, List.length_nil] at this ⊢
   omega
  ·obtain ⟨h1, h2, h3⟩ := hk y hy
   unfold nodeX
   split
   ·exact ⟨.inl rfl, by show (0 : Int) ≤ 0; omega, by show (0 : Int) ≤ 255; omega, h1, by show (0 : Int) ≤ 0; omega, by show (0 : Int) ≤ _; omega⟩
   ·exact ⟨.inr (.inl rfl), h2, h3, Nat.zero_le _, by show (0 : Int) ≤ 0; omega, by show (0 : Int) ≤ _; omega⟩
def evF : Nat → List S56 → Nat → Nat → List S47
 | 0, _, _, _ => []
 | n + 1, t, a, e => if a < e then (if (rd_T56 t a).f0 = 46 then nodeX (rd_T56 t a) :: evF n t (a + 1) e
   else nodeX (rd_T56 t a) :: (evF n t (a + 1) (a + (rd_T56 t a).f3.toNat) ++ shutX :: evF n t (a + (rd_T56 t a).f3.toNat) e)) else []
theorem evRun_app : ∀ (l m : List S56) (i : Nat) (s : List S47 × List Int), evRun (l ++ m) i s = evRun m (i + l.length) (evRun l i s)
 | [], m, i, s => by simp [evRun]
 | x :: l, m, i, s => by
  simp only [List.cons_append, evRun, List.length_cons]
  rw [evRun_app l m (i + 1)]
  congr 1
  omega
theorem rd_snoc (e : List Int) (v : Int) : rd (e ++ [v]) (((e ++ [v]).length : Int) - 1) = v := by
 unfold rd
 have : (((e ++ [v]).length : Int) - 1).toNat = e.length := by simp
 rw [this]
 simp
theorem closeE_due (E : List Int) (i : Int) (hE : ∀ v ∈ E, v ≠ i) : ∀ (p d : Nat) (o : List S47), p ≤ d → closeE d o (E ++ List.replicate p i) i = (o ++ List.replicate p shutX, E)
 | 0, d, o, _ => by
  simp only [List.replicate_zero, List.append_nil]
  cases d with
  | zero => rfl
  | succ d =>
   simp only [closeE]
   rw [if_neg]
   rintro ⟨h1, h2⟩
   rcases List.eq_nil_or_concat E with rfl | ⟨E', v, rfl⟩
   ·exact h1 rfl
   ·rw [List.concat_eq_append] at h2 hE
    rw [rd_snoc] at h2
    exact hE v (by simp) h2
 | p + 1, 0, o, h => by omega
 | p + 1, d + 1, o, h => by
  have hs : E ++ List.replicate (p + 1) i = (E ++ List.replicate p i) ++ [i] := by rw [List.replicate_succ', List.append_assoc]
  simp only [closeE]
  rw [hs, if_pos ⟨by simp, rd_snoc _ _⟩, List.dropLast_concat, closeE_due E i hE p d _ (by omega), List.append_assoc]
  congr 2
theorem drop_take_step (t : List S56) (a e : Nat) (h : a < e) (he : e ≤ t.length) : (t.drop a).take (e - a) = rd_T56 t a :: (t.drop (a + 1)).take (e - (a + 1)) := by
 rw [rd56_dropH t a (by omega), show e - a = (e - (a + 1)) + 1 from by omega, List.take_succ_cons]
theorem drop_take_app (t : List S56) (a b e : Nat) (h1 : a ≤ b) (h2 : b ≤ e) : (t.drop a).take (e - a) = (t.drop a).take (b - a) ++ (t.drop b).take (e - b) := by
 have : t.drop b = (t.drop a).drop (b - a) := by rw [List.drop_drop]; congr 1; omega
 rw [this, show e - a = (b - a) + (e - b) from by omega, List.take_add]
theorem evRun_F (t : List S56) (hp : ∀ x ∈ t, x.f0 = 46 → x.f3 = 1) : ∀ (n a e : Nat) (o : List S47) (E : List Int) (p : Nat), e - a ≤ n → a ≤ e → e ≤ t.length → sizedT t a e = true → (∀ v ∈ E, (e : Int) ≤ v) →
  ∃ q o', evRun ((t.drop a).take (e - a)) a (o, E ++ List.replicate p (a : Int)) = (o', E ++ List.replicate q (e : Int)) ∧ o' ++ List.replicate q shutX = o ++ List.replicate p shutX ++ evF n t a e
 | 0, a, e, o, E, p, h, hae, he, hs, hE => by
  obtain rfl : a = e := by omega
  exact ⟨p, o, by simp [evRun], by simp [evF]⟩
 | n + 1, a, e, o, E, p, h, hae, he, hs, hE => by
  by_cases hlt : a < e
  ·rw [sizedT_step t a e hlt] at hs
   by_cases hc : 1 ≤ (rd_T56 t a).f3 ∧ (rd_T56 t a).f3 ≤ (e : Int) - a
   ·rw [if_pos hc, Bool.and_eq_true] at hs
    rw [drop_take_step t a e hlt he]
    simp only [evRun, evF]
    rw [if_pos hlt]
    have hcl : closeE (E ++ List.replicate p (a : Int)).length o (E ++ List.replicate p (a : Int)) (a : Int) = (o ++ List.replicate p shutX, E) :=
     closeE_due E a (fun v hv => by have := hE v hv; omega) p _ o (by simp)
    unfold evStep
    simp only [hcl]
    by_cases h46 : (rd_T56 t a).f0 = 46
    ·rw [if_pos h46, if_pos h46]
     have h1 := hp _ (rd56_mem t a (by omega)) h46
     rw [h1] at hs
     obtain ⟨q, o', g1, g2⟩ := evRun_F t hp n (a + 1) e (o ++ List.replicate p shutX ++ [nodeX (rd_T56 t a)]) E 0 (by omega) (by omega) he hs.2 hE
     rw [List.replicate_zero, List.append_nil] at g1
     refine ⟨q, o', g1, ?_⟩
     rw [g2]
     simp
    ·rw [if_neg h46, if_neg h46]
     obtain ⟨z, hz⟩ : ∃ z : Nat, (rd_T56 t a).f3 = (z : Int) := ⟨(rd_T56 t a).f3.toNat, by omega⟩
     rw [hz] at hs hc ⊢
     simp only [Int.toNat_natCast] at hs ⊢
     have hEz : ∀ v ∈ E ++ [(a : Int) + z], ((a + z : Nat) : Int) ≤ v := by
      intro v hv
      rcases List.mem_append.1 hv with hv | hv
      ·have := hE v hv; omega
      ·rw [List.mem_singleton.1 hv]; omega
     obtain ⟨q1, o1, g1, g2⟩ := evRun_F t hp n (a + 1) (a + z) (o ++ List.replicate p shutX ++ [nodeX (rd_T56 t a)]) (E ++ [(a : Int) + z]) 0 (by omega) (by omega) (by omega) hs.1 hEz
     rw [List.replicate_zero, List.append_nil] at g1
     have hst : E ++ [(a : Int) + z] ++ List.replicate q1 ((a + z : Nat) : Int) = E ++ List.replicate (q1 + 1) ((a + z : Nat) : Int) := by
      rw [List.replicate_succ, List.append_assoc]
      congr 1
     rw [hst] at g1
     obtain ⟨q2, o2, k1, k2⟩ := evRun_F t hp n (a + z) e o1 E (q1 + 1) (by omega) (by omega) he hs.2 hE
     refine ⟨q2, o2, ?_, ?_⟩
     ·rw [drop_take_app t (a + 1) (a + z) e (by omega) (by omega), evRun_app, g1]
      have hl : ((t.drop (a + 1)).take (a + z - (a + 1))).length = a + z - (a + 1) := by
       rw [List.length_take, List.length_drop]; omega
      rw [hl, show a + 1 + (a + z - (a + 1)) = a + z from by omega]
      exact k1
     ·rw [k2, List.replicate_succ', ← List.append_assoc, g2]
      simp
   ·rw [if_neg hc] at hs; cases hs
  ·obtain rfl : a = e := by omega
   refine ⟨p, o, by simp [evRun], ?_⟩
   simp only [evF]
   rw [if_neg (by omega)]
   simp
theorem events_F (t : List S56) (hp : ∀ x ∈ t, x.f0 = 46 → x.f3 = 1) (hs : sizedT t 0 t.length = true) : eventsP t = evF t.length t 0 t.length := by
 obtain ⟨q, o', g1, g2⟩ := evRun_F t hp t.length 0 t.length [] [] 0 (by omega) (by omega) (by omega) hs (by intro v hv; cases hv)
 simp only [List.drop_zero, Nat.sub_zero, List.take_length, List.replicate_zero, List.append_nil, List.nil_append] at g1 g2
 unfold eventsP
 rw [g1]
 simp only [List.nil_append, List.length_replicate]
 exact g2
abbrev PT := Nat × ByteArray
def isT (t : List S56) (q : Nat) : Bool := (rd_T56 t q).f0 == 46
def sz (t : List S56) (q : Nat) : Nat := (rd_T56 t q).f3.toNat
def cn (t : List S56) (L : List PT) (q : Nat) : Nat := L.countP fun x => decide (q ≤ x.1) && decide (x.1 < q + sz t q)
def nd (t : List S56) (L : List PT) (p : PT) : S56 := ⟨(rd_T56 t p.1).f0, p.2, (rd_T56 t p.1).f2, (cn t L p.1 : Int)⟩
def nodes (t : List S56) (L : List PT) : List S56 := L.map (nd t L)
theorem nodes_len (t : List S56) (L : List PT) : (nodes t L).length = L.length := by simp [nodes]
structure Nst (t : List S56) : Prop where
 pos : ∀ i, i < t.length → 1 ≤ (rd_T56 t i).f3
 lim : ∀ i, i < t.length → i + sz t i ≤ t.length
 nest : ∀ i j, i < t.length → i < j → j < i + sz t i → j + sz t j ≤ i + sz t i
 txt : ∀ i, i < t.length → isT t i = true → (rd_T56 t i).f3 = 1
theorem sized_nest (t : List S56) : ∀ (n a e : Nat), e - a ≤ n → sizedT t a e = true → ∀ i j, a ≤ i → i < e → i < j → j < i + sz t i → j + sz t j ≤ i + sz t i
 | 0, a, e, hn, _ => fun i j h1 h2 => by omega
 | n + 1, a, e, hn, hs => fun i j h1 h2 h3 h4 => by
  rw [sizedT_step t a e (by omega)] at hs
  by_cases hc : 1 ≤ (rd_T56 t a).f3 ∧ (rd_T56 t a).f3 ≤ (e : Int) - a
  ·rw [if_pos hc, Bool.and_eq_true] at hs
   rcases Nat.lt_or_ge i (a + sz t a) with e2 | e2
   ·rcases Nat.eq_or_lt_of_le h1 with e1 | e1
    ·subst e1
     have := sizedT_all t n (a + 1) _ (by omega) hs.1 j (by omega) h4
     unfold sz at *
     omega
    ·exact sized_nest t n (a + 1) _ (by omega) hs.1 i j (by omega) e2 h3 h4
   ·unfold sz at e2
    exact sized_nest t n _ e (by omega) hs.2 i j e2 h2 h3 h4
  ·rw [if_neg hc] at hs
   cases hs
theorem Nst.of {t : List S56} (hs : sizedT t 0 t.length = true) (hp : ∀ x ∈ t, x.f0 = 46 → x.f3 = 1) : Nst t where
 pos := fun i hi => (sizedT_all t t.length 0 t.length (by omega) hs i (by omega) hi).1
 lim := fun i hi => by
  have := sizedT_all t t.length 0 t.length (by omega) hs i (by omega) hi
  unfold sz
  omega
 nest := fun i j hi h1 h2 => sized_nest t t.length 0 t.length (by omega) hs i j (by omega) hi h1 h2
 txt := fun i hi h => by
  refine hp _ ?_ (by unfold isT at h; exact beq_iff_eq.1 h)
  unfold rd_T56
  rw [Int.toNat_natCast, List.getD_eq_getElem?_getD, List.getElem?_eq_getElem hi]
  exact List.getElem_mem _
def parG (t : List S56) (i : Nat) : Nat → Int
 | 0 => -1
 | q + 1 => if i < q + sz t q then (q : Int) else parG t i q
def par (t : List S56) (i : Nat) : Int := parG t i i
theorem parG_eq (t : List S56) (i q : Nat) (h : i < q + sz t q) : ∀ m : Nat, q < m → (∀ r, q < r → r < m → ¬ i < r + sz t r) → parG t i m = q
 | 0, hm, _ => by omega
 | m + 1, hm, hr => by
  unfold parG
  by_cases e : m = q
  ·subst e
   rw [if_pos h]
  ·rw [if_neg (hr m (by omega) (by omega))]
   exact parG_eq t i q h m (by omega) fun r h1 h2 => hr r h1 (by omega)
theorem parG_none (t : List S56) (i : Nat) : ∀ m : Nat, (∀ r, r < m → ¬ i < r + sz t r) → parG t i m = -1
 | 0, _ => rfl
 | m + 1, hr => by
  unfold parG
  rw [if_neg (hr m (by omega))]
  exact parG_none t i m fun r h => hr r (by omega)
theorem parG_ge (t : List S56) (i q : Nat) (h : i < q + sz t q) : ∀ m : Nat, q < m → (q : Int) ≤ parG t i m
 | 0, hm => by omega
 | m + 1, hm => by
  unfold parG
  by_cases e : i < m + sz t m
  ·rw [if_pos e]; omega
  ·rw [if_neg e]
   rcases Nat.eq_or_lt_of_le (Nat.lt_succ_iff.1 hm) with e2 | e2
   ·subst e2; exact absurd h e
   ·exact parG_ge t i q h m e2
structure Lvl (t : List S56) (s e a : Nat) : Prop where
 le : s ≤ a
 lim : e ≤ t.length
 top : (s = 0 ∧ e = t.length) ∨ (0 < s ∧ e = s - 1 + sz t (s - 1))
 sib : ∀ q, s ≤ q → q < a → q + sz t q ≤ a
theorem Lvl.par {t : List S56} {s e a : Nat} (h : Lvl t s e a) (hN : Nst t) (ha : a < e) : par t a = (s : Int) - 1 := by
 unfold Pr.par
 rcases Nat.eq_zero_or_pos s with e0 | e0
 ·subst e0
  rw [parG_none t a a fun r hr => by have := h.sib r (by omega) hr; omega]
  rfl
 ·have ht : e = s - 1 + sz t (s - 1) := by rcases h.top with h0 | h0 <;> omega
  have hle := h.le
  rw [parG_eq t a (s - 1) (by omega) a (by omega) fun r h1 h2 => by have := h.sib r (by omega) h2; omega]
  omega
theorem Lvl.fits {t : List S56} {s e a : Nat} (h : Lvl t s e a) (hN : Nst t) (ha : a < e) : a + sz t a ≤ e := by
 rcases h.top with ⟨h1, h2⟩ | ⟨h1, h2⟩
 ·rw [h2]; exact hN.lim a (by omega)
 ·rw [h2]; exact hN.nest (s - 1) a (by have := h.lim; have := h.le; omega) (by have := h.le; omega) (by omega)
theorem Lvl.next {t : List S56} {s e a : Nat} (h : Lvl t s e a) (hN : Nst t) (ha : a < e) : Lvl t s e (a + sz t a) := by
 refine ⟨by have := h.le; omega, h.lim, h.top, fun q h1 h2 => ?_⟩
 rcases Nat.lt_or_ge q a with h3 | h3
 ·have := h.sib q h1 h3; omega
 ·rcases Nat.eq_or_lt_of_le h3 with h4 | h4
  ·subst h4; exact Nat.le_refl _
  ·exact hN.nest a q (by have := h.lim; omega) h4 h2
theorem Lvl.inner {t : List S56} {s e a : Nat} (h : Lvl t s e a) (hN : Nst t) (ha : a < e) : Lvl t (a + 1) (a + sz t a) (a + 1) :=
 ⟨Nat.le_refl _, hN.lim a (by have := h.lim; omega), Or.inr ⟨by omega, by simp⟩, fun q h1 h2 => by omega⟩
theorem Lvl.root (t : List S56) : Lvl t 0 t.length 0 := ⟨Nat.le_refl _, Nat.le_refl _, Or.inl ⟨rfl, rfl⟩, fun q _ h => by omega⟩
def push (t : List S56) (P : List PT) (x : PT) : List PT :=
 match P.getLast? with
 | some p => if isT t p.1 = true ∧ isT t x.1 = true ∧ par t p.1 = par t x.1 then P.dropLast ++ [(p.1, p.2 ++ x.2)] else P ++ [x]
 | none => [x]
def liveB (t : List S56) (i : Nat) : Bool := !(isT t i && decide ((rd_T56 t i).f1.size = 0))
def live (t : List S56) (a n : Nat) : List PT := ((List.range' a n).filter (liveB t)).map fun i => (i, (rd_T56 t i).f1)
def pk (t : List S56) (a e : Nat) : List PT := (live t a (e - a)).foldl (push t) []
theorem live_succ (t : List S56) (a n : Nat) : live t a (n + 1) = (if liveB t a = true then [(a, (rd_T56 t a).f1)] else []) ++ live t (a + 1) n := by
 unfold live
 rw [List.range'_succ, List.filter_cons]
 by_cases h : liveB t a = true
 ·rw [if_pos h, if_pos h]; rfl
 ·rw [if_neg h, if_neg h]; rfl
theorem live_add (t : List S56) (a m n : Nat) : live t a (m + n) = live t a m ++ live t (a + m) n := by
 unfold live
 rw [← List.map_append, ← List.filter_append]
 congr 2
 rw [show a + m = a + 1 * m from by omega, List.range'_append]
theorem live_mem {t : List S56} {a n : Nat} {p : PT} (h : p ∈ live t a n) : a ≤ p.1 ∧ p.1 < a + n := by
 unfold live at h
 obtain ⟨i, hi, rfl⟩ := List.mem_map.1 h
 have := List.mem_range'_1.1 (List.mem_filter.1 hi).1
 exact this
theorem push_ne (t : List S56) (P : List PT) (x : PT) : push t P x ≠ [] := by
 unfold push
 split
 ·split <;> simp
 ·simp
theorem last_app {α : Type} (A : List α) {B : List α} (hB : B ≠ []) : (A ++ B).getLast? = B.getLast? := by
 rw [List.getLast?_append]
 cases h : B.getLast? with
 | none => exact absurd (List.getLast?_eq_none_iff.1 h) hB
 | some x => rfl
theorem push_app (t : List S56) (A B : List PT) (x : PT) (hB : B ≠ []) : push t (A ++ B) x = A ++ push t B x := by
 unfold push
 rw [last_app _ hB]
 cases hl : B.getLast? with
 | none => exact absurd (List.getLast?_eq_none_iff.1 hl) hB
 | some p =>
  simp only
  split
  ·rw [List.dropLast_append_of_ne_nil hB, List.append_assoc]
  ·rw [List.append_assoc]
theorem fold_app (t : List S56) (A : List PT) : ∀ (l B : List PT), B ≠ [] → l.foldl (push t) (A ++ B) = A ++ l.foldl (push t) B
 | [], B, _ => rfl
 | x :: l, B, hB => by
  rw [List.foldl_cons, List.foldl_cons, push_app t A B x hB]
  exact fold_app t A l _ (push_ne t B x)
theorem fold_node (t : List S56) (A : List PT) (p : PT) (hp : isT t p.1 = false) (l : List PT) : l.foldl (push t) (A ++ [p]) = A ++ [p] ++ l.foldl (push t) [] := by
 cases l with
 | nil => simp
 | cons x l =>
  rw [List.foldl_cons, List.foldl_cons]
  have e1 : push t (A ++ [p]) x = (A ++ [p]) ++ [x] := by
   unfold push
   rw [last_app _ (by simp)]
   simp [hp]
  have e2 : push t [] x = [x] := rfl
  rw [e1, e2]
  exact fold_app t (A ++ [p]) l [x] (by simp)
theorem push_mem {t : List S56} {P : List PT} {x p : PT} (h : p ∈ push t P x) : p.1 = x.1 ∨ ∃ q ∈ P, q.1 = p.1 := by
 unfold push at h
 split at h
 ·rename_i q hq
  split at h
  ·rcases List.mem_append.1 h with h | h
   ·exact Or.inr ⟨p, List.dropLast_subset _ h, rfl⟩
   ·obtain rfl := List.mem_singleton.1 h
    exact Or.inr ⟨q, List.mem_of_getLast? hq, rfl⟩
  ·rcases List.mem_append.1 h with h | h
   ·exact Or.inr ⟨p, h, rfl⟩
   ·obtain rfl := List.mem_singleton.1 h
    exact Or.inl rfl
 ·obtain rfl := List.mem_singleton.1 h
  exact Or.inl rfl
theorem fold_mem {t : List S56} : ∀ {l P : List PT} {p : PT}, p ∈ l.foldl (push t) P → (∃ q ∈ l, q.1 = p.1) ∨ ∃ q ∈ P, q.1 = p.1
 | [], P, p, h => Or.inr ⟨p, h, rfl⟩
 | x :: l, P, p, h => by
  rcases fold_mem (l := l) h with ⟨q, hq, e⟩ | ⟨q, hq, e⟩
  ·exact Or.inl ⟨q, List.mem_cons_of_mem _ hq, e⟩
  ·rcases push_mem hq with e2 | ⟨r, hr, e2⟩
   ·exact Or.inl ⟨x, List.mem_cons_self, by rw [← e, e2]⟩
   ·exact Or.inr ⟨r, hr, by rw [e2, e]⟩
theorem pk_mem {t : List S56} {a e : Nat} (hae : a ≤ e) {p : PT} (h : p ∈ pk t a e) : a ≤ p.1 ∧ p.1 < e := by
 rcases fold_mem h with ⟨q, hq, e2⟩ | ⟨q, hq, _⟩
 ·have := live_mem hq; omega
 ·cases hq
theorem fold_len (t : List S56) : ∀ (l P : List PT), (l.foldl (push t) P).length ≤ P.length + l.length
 | [], P => Nat.le_refl _
 | x :: l, P => by
  refine Nat.le_trans (fold_len t l (push t P x)) ?_
  have : (push t P x).length ≤ P.length + 1 := by
   unfold push
   split
   ·rename_i q hq
    split
    ·simp
    ·simp
   ·simp
  simp only [List.length_cons]
  omega
theorem live_len (t : List S56) (a n : Nat) : (live t a n).length ≤ n := by
 unfold live
 rw [List.length_map]
 refine Nat.le_trans (List.length_filter_le _ _) ?_
 simp
theorem fold_size (t : List S56) (M : Nat) : ∀ (l P : List PT) (B : Nat), (∀ p ∈ P, p.2.size ≤ B) → (∀ p ∈ l, p.2.size ≤ M) → ∀ p ∈ l.foldl (push t) P, p.2.size ≤ B + M * l.length
 | [], P, B, hP, _ => fun p hp => by have := hP p hp; simpa using this
 | x :: l, P, B, hP, hl => fun p hp => by
  have h1 : ∀ p ∈ push t P x, p.2.size ≤ B + M := fun p hp => by
   have hx := hl x List.mem_cons_self
   unfold push at hp
   split at hp
   ·rename_i q hq
    split at hp
    ·rcases List.mem_append.1 hp with h | h
     ·have := hP p (List.dropLast_subset _ h); omega
     ·obtain rfl := List.mem_singleton.1 h
      have := hP q (List.mem_of_getLast? hq)
      rw [ByteArray.size_append]; omega
    ·rcases List.mem_append.1 hp with h | h
     ·have := hP p h; omega
     ·obtain rfl := List.mem_singleton.1 h; omega
   ·obtain rfl := List.mem_singleton.1 hp; omega
  have := fold_size t M l (push t P x) (B + M) h1 (fun p hp => hl p (List.mem_cons_of_mem _ hp)) p hp
  rw [List.length_cons, Nat.mul_succ]
  omega
theorem cn_app (t : List S56) (A B : List PT) (q : Nat) : cn t (A ++ B) q = cn t A q + cn t B q := by simp [cn]
theorem cn_none (t : List S56) (L : List PT) (q : Nat) (h : ∀ p ∈ L, ¬ (q ≤ p.1 ∧ p.1 < q + sz t q)) : cn t L q = 0 := by
 unfold cn
 rw [List.countP_eq_zero]
 intro p hp
 simpa using h p hp
theorem cn_all (t : List S56) (L : List PT) (q : Nat) (h : ∀ p ∈ L, q ≤ p.1 ∧ p.1 < q + sz t q) : cn t L q = L.length := by
 unfold cn
 rw [List.countP_eq_length]
 intro p hp
 simpa using h p hp
theorem nodes_split (t : List S56) (P I : List PT) (a : Nat) (s : ByteArray) (h1 : 1 ≤ sz t a) (hP : ∀ p ∈ P, p.1 < a ∧ p.1 + sz t p.1 ≤ a) (hI : ∀ p ∈ I, a < p.1 ∧ p.1 < a + sz t a) :
  nodes t (P ++ [(a, s)] ++ I) = nodes t P ++ [⟨(rd_T56 t a).f0, s, (rd_T56 t a).f2, (I.length : Int) + 1⟩] ++ nodes t I := by
 unfold nodes
 rw [List.map_append, List.map_append]
 congr 1
 ·congr 1
  ·refine List.map_congr_left fun p hp => ?_
   have := hP p hp
   unfold nd
   rw [cn_app, cn_app, cn_none t [(a, s)] p.1 (fun x hx => by obtain rfl := List.mem_singleton.1 hx; show ¬ (p.1 ≤ a ∧ a < _); omega), cn_none t I p.1 (fun x hx => by have := hI x hx; omega)]
   rfl
  ·rw [List.map_singleton]
   unfold nd
   rw [cn_app, cn_app, cn_none t P a (fun x hx => by have := hP x hx; omega), cn_all t [(a, s)] a (fun x hx => by obtain rfl := List.mem_singleton.1 hx; show a ≤ a ∧ a < _; omega), cn_all t I a (fun x hx => by have := hI x hx; omega)]
   simp
   omega
 ·refine List.map_congr_left fun p hp => ?_
  have := hI p hp
  unfold nd
  rw [cn_app, cn_app, cn_none t P p.1 (fun x hx => by have := hP x hx; omega), cn_none t [(a, s)] p.1 (fun x hx => by obtain rfl := List.mem_singleton.1 hx; show ¬ (p.1 ≤ a ∧ a < _); omega)]
  simp
end Go.Proofs.Ythcmfjpheanphaa.Pr
