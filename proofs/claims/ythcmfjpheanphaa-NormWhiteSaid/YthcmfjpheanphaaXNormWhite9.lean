/- Texts of this seat, one behind the other. -/
import Derived.Test.YthcmfjpheanphaaXNormWhite1
import Derived.Test.YthcmfjpheanphaaXNormWhite2
import Derived.Test.YthcmfjpheanphaaXNormWhite3
import Derived.Test.YthcmfjpheanphaaXNormWhite4
import Derived.Test.YthcmfjpheanphaaXNormWhite5
import Derived.Test.YthcmfjpheanphaaXNormWhite6
import Derived.Test.YthcmfjpheanphaaXNormWhite7
import Derived.Test.YthcmfjpheanphaaXNormWhite8
set_option linter.unusedVariables false
set_option linter.unusedSimpArgs false
namespace Go.Proofs.Ythcmfjpheanphaa.Pr
open Go.RowKit Go.Proofs.YthcmfjpheanphaaW.PrintWords Go.Proofs.YthcmfjpheanphaaW.PrintLast Go.Proofs.YthcmfjpheanphaaW.PrintMore
attribute [local go_sem] max2_int min2_int max_two min_two max_three min_three max_four min_four
mutual
def norm_packed.l0 : Nat → List (S56) → Int → Int → List (S56) → Bool → Option ((List (S56)))
 | 0, _, _, _, _, _ => none
 | k + 1, x0, x1, x2, x7, x8 => if x1 < x2 then (if 0 ≤ x1 then (if x1 < (x0.length : Int) then ((norm_packed.f k x0 (wrap64 (x1 + 1)) (wrap64 (x1 + ((rd_T56 x0 x1).f3)))).bind fun t170 => (if ((rd_T56 x0 x1).f0) = 46 then (if ((rd_T56 x0 x1).f1).toList = ([] : List UInt8) then (norm_packed.j1 k x0 (wrap64 (x1 + ((rd_T56 x0 x1).f3))) x2 x7 x8 false ((rd_T56 x0 x1).f0) ((rd_T56 x0 x1).f1) ((rd_T56 x0 x1).f2) ((rd_T56 x0 x1).f3)) else (norm_packed.j1 k x0 (wrap64 (x1 + ((rd_T56 x0 x1).f3))) x2 x7 x8 x8 ((rd_T56 x0 x1).f0) ((rd_T56 x0 x1).f1) ((rd_T56 x0 x1).f2) ((rd_T56 x0 x1).f3))) else (if x7.length < 3518437208883 then ((some (x7 ++ [(⟨(rd_T56 x0 x1).f0, (rd_T56 x0 x1).f1, (rd_T56 x0 x1).f2, wrap64 ((t170.length : Int) + 1)⟩ : S56)] : List (S56))).bind fun y178 => (if y178.length + t170.length < 3518437208883 then (norm_packed.l0 k x0 (wrap64 (x1 + ((rd_T56 x0 x1).f3))) x2 (y178 ++ t170) false) else (none))) else (none)))) else (none)) else (none)) else (some x7)
def norm_packed.j1 : Nat → List (S56) → Int → Int → List (S56) → Bool → Bool → Int → ByteArray → Int → Int → Option ((List (S56)))
 | 0, _, _, _, _, _, _, _, _, _, _ => none
 | k + 1, x0, x1, x2, x7, x8, x44, x170000, x170001, x170002, x170003 => if x44 = true then (if 0 ≤ (wrap64 ((x7.length : Int) - 1)) then (if (wrap64 ((x7.length : Int) - 1)) < (x7.length : Int) then (if ((rd_T56 x7 (wrap64 ((x7.length : Int) - 1))).f1).size + x170001.size ≤ 9223372036854775807 then (norm_packed.l0 k x0 x1 x2 (x7.set ((wrap64 ((x7.length : Int) - 1)) : Int).toNat (⟨(rd_T56 x7 (wrap64 ((x7.length : Int) - 1))).f0, ((rd_T56 x7 (wrap64 ((x7.length : Int) - 1))).f1) ++ x170001, (rd_T56 x7 (wrap64 ((x7.length : Int) - 1))).f2, (rd_T56 x7 (wrap64 ((x7.length : Int) - 1))).f3⟩ : S56)) x8) else (none)) else (none)) else (none)) else (if x170001.toList = ([] : List UInt8) then (norm_packed.l0 k x0 x1 x2 x7 x8) else (if x7.length < 3518437208883 then (norm_packed.l0 k x0 x1 x2 (x7 ++ [(⟨x170000, x170001, x170002, x170003⟩ : S56)]) true) else (none)))
def norm_packed.f : Nat → List (S56) → Int → Int → Option ((List (S56)))
 | 0, _, _, _ => none
 | k + 1, l0, a1, a2 => norm_packed.l0 k l0 a1 a2 ([] : List (S56)) false
end
theorem norm_packed.mono_l : ∀ k, (∀ y0 y1 y2, LeO (norm_packed.f k y0 y1 y2) (norm_packed.f (k + 1) y0 y1 y2)) ∧ (∀ y0 y1 y2 y3 y4, LeO (norm_packed.l0 k y0 y1 y2 y3 y4) (norm_packed.l0 (k + 1) y0 y1 y2 y3 y4)) ∧ (∀ y0 y1 y2 y3 y4 y5 y6 y7 y8 y9, LeO (norm_packed.j1 k y0 y1 y2 y3 y4 y5 y6 y7 y8 y9) (norm_packed.j1 (k + 1) y0 y1 y2 y3 y4 y5 y6 y7 y8 y9))
 | 0 => ⟨fun _ _ _ r h => by simp [norm_packed.f] at h, fun _ _ _ _ _ r h => by simp [norm_packed.l0] at h, fun _ _ _ _ _ _ _ _ _ _ r h => by simp [norm_packed.j1] at h⟩
 | k + 1 => by
  obtain ⟨ih0, ih1, ih2⟩ := norm_packed.mono_l k
  refine ⟨?_, ?_, ?_⟩
  ·intro y0 y1 y2
   unfold norm_packed.f
   repeat' first
   | (with_reducible exact ih0 _ _ _)
   | (with_reducible exact ih1 _ _ _ _ _)
   | (with_reducible exact ih2 _ _ _ _ _ _ _ _ _ _)
   | (with_reducible exact LeO.refl _)
   | (with_reducible exact LeO.none _)
   | (with_reducible refine LeO.ite ?_ ?_)
   | (with_reducible refine LeO.bind ?_ (fun _ => ?_))
   | exact ih0 _ _ _
   | exact ih1 _ _ _ _ _
   | exact ih2 _ _ _ _ _ _ _ _ _ _
   | exact LeO.none _
   | refine LeO.ite ?_ ?_
   | refine LeO.bind ?_ (fun _ => ?_)
  ·intro y0 y1 y2 y3 y4
   unfold norm_packed.l0
   repeat' first
   | (with_reducible exact ih0 _ _ _)
   | (with_reducible exact ih1 _ _ _ _ _)
   | (with_reducible exact ih2 _ _ _ _ _ _ _ _ _ _)
   | (with_reducible exact LeO.refl _)
   | (with_reducible exact LeO.none _)
   | (with_reducible refine LeO.ite ?_ ?_)
   | (with_reducible refine LeO.bind ?_ (fun _ => ?_))
   | exact ih0 _ _ _
   | exact ih1 _ _ _ _ _
   | exact ih2 _ _ _ _ _ _ _ _ _ _
   | exact LeO.none _
   | refine LeO.ite ?_ ?_
   | refine LeO.bind ?_ (fun _ => ?_)
  ·intro y0 y1 y2 y3 y4 y5 y6 y7 y8 y9
   unfold norm_packed.j1
   repeat' first
   | (with_reducible exact ih0 _ _ _)
   | (with_reducible exact ih1 _ _ _ _ _)
   | (with_reducible exact ih2 _ _ _ _ _ _ _ _ _ _)
   | (with_reducible exact LeO.refl _)
   | (with_reducible exact LeO.none _)
   | (with_reducible refine LeO.ite ?_ ?_)
   | (with_reducible refine LeO.bind ?_ (fun _ => ?_))
   | exact ih0 _ _ _
   | exact ih1 _ _ _ _ _
   | exact ih2 _ _ _ _ _ _ _ _ _ _
   | exact LeO.none _
   | refine LeO.ite ?_ ?_
   | refine LeO.bind ?_ (fun _ => ?_)
theorem norm_packed.mono : ∀ a0 a1 a2 k, LeO (norm_packed.f k a0 a1 a2) (norm_packed.f (k + 1) a0 a1 a2) := by
 intro a0 a1 a2 k
 obtain ⟨ih0, ih1, ih2⟩ := norm_packed.mono_l k
 exact ih0 a0 a1 a2
def norm_packed.T12 : Bool × List (List Nat × List Nat) := (true, [([], []), ([], []), ([1], [1]), ([2], [2]), ([0, 3], [0, 3]), ([4], [4]), ([5], [5]), ([], []), ([7], [7]), ([6, 8], [6, 8]), ([0, 3, 0, 1, 2, 3, 4, 5, 6, 7, 8, 9], [0, 3]), ([10, 0, 1, 2, 3, 4, 5, 6, 7, 8, 9], [10]), ([11, 9, 0, 1, 2, 3, 4, 5, 6, 7, 8, 9], [9, 11])])
def norm_packed.B12 : List Nat := [0, 0, 2, 6, 15, 31, 63, 0, 128, 511, 1023, 2047, 4095]
theorem norm_packed.tab12 : rtab .any (opsOf Try.f110 12) = norm_packed.T12 := by kernel_rfl
theorem norm_packed.bits12 : waitsOk norm_packed.T12.2 norm_packed.B12 = true := by kernel_rfl
set_option maxHeartbeats 8000000 in
set_option maxRecDepth 100000 in
theorem norm_packed.calls (k : Nat) : ∀ (A0 : Option Addr) (c0 : Nat) (l0 : List (S56)) (a1 : Int) (a2 : Int) (r : List (S56)) (w : World) (hr0 : Kd.C k56 w A0 l0.length l0) (hc0 : l0.length ≤ c0) (h : norm_packed.f k l0 a1 a2 = some r),
  Calls Try.prog 110 #[.slice A0 l0.length c0, .int .i64 a1, .int .i64 a2] w fun e w' => ∃ v0_ : Value, e = .returned (v0_) ∧ Kd.R k56 56 w' w.heap.size (fun _ => True) v0_ r ∧ Below w.heap.size w w' := by
 induction k using Nat.strongRecOn with
 | _ k ih =>
 intro A0 c0 l0 a1 a2 r w hr0 hc0 h
 cases k with
 | zero => exact absurd h (by simp [norm_packed.f])
 | succ k =>
 simp only [norm_packed.f] at h
 have hu56 := Try.underlying56
 have HR0 := Aside0.mk hr0
 have HC0 := Aside0.mk hc0
 clear hr0 hc0
 have HB := Aside0.mk (Below.refl w.heap.size w)
 have H : (norm_packed.l0 k l0 a1 a2 ([] : List (S56)) false) = some r := h
 clear h
 have H' := Aside0.mk H
 clear H
 go_enter Try.func110, Try.ntmps110
 go_wp2
 go_loopg [1, 7, 8] k (fun kq v1 v7 v8 w' => ∃ (x1_1 : Int) (x7_1 : List (S56)) (x8_1 : Bool), v1 = .int .i64 x1_1 ∧ v8 = .bool x8_1 ∧ Aside0 (norm_packed.l0 kq l0 x1_1 a2 x7_1 x8_1 = some r) ∧ Aside0 (kq ≤ k) ∧ Aside0 (Kd.R k56 56 w' w.heap.size (fun _ => True) v7 x7_1) ∧ Aside0 (Below w.heap.size w w'))
 case atStart => exact ⟨(a1), (([] : List (S56))), (false), (by first | rfl | (simp; done) | (simp [*]; done)), (by first | rfl | (simp; done) | (simp [*]; done)), H', ⟨Nat.le_refl _⟩, ⟨by first | exact Kd.R_nil _ _ _ _ _ | exact Kd.N_nil _ _ _ _ _ | exact Kd.V_nil _ _ _ _ _ | exact Kd.Q_nil _ _ _ _ _ | exact Kd.S_nil _ _ _ _ _⟩, ⟨by repeat (first | (with_reducible first | exact HB.out | apply below_alloc | apply pw_below_drewN | apply below_drew1) | exact HB.out)⟩⟩
 case round =>
  clear H'
  try clear c1
  try clear p2
  obtain ⟨x1_1, x7_1, x8_1, rfl, rfl, HA, HK1, HO_7, HB⟩ := hrel
  cases gk with
  | zero => exact absurd HA.out (by simp [norm_packed.l0])
  | succ k1 =>
   have H := HA.out
   clear HA
   simp only [norm_packed.l0] at H
   by_cases c4 : x1_1 < a2
   ·rw [if_pos c4] at H
    have c4b0 : decide (x1_1 < a2) = true := decide_eq_true c4
    clear c4
    by_cases c5 : 0 ≤ x1_1
    ·rw [if_pos c5] at H
     have c5b0 : decide (0 ≤ x1_1) = true := decide_eq_true c5
     clear c5
     by_cases c6 : x1_1 < (l0.length : Int)
     ·rw [if_pos c6] at H
      have c6b0 : decide (x1_1 < (l0.length : Int)) = true := decide_eq_true c6
      clear c6
      replace H := Option.bind_eq_some_iff.mp H
      obtain ⟨t170, A70, H⟩ := H
      replace H : (if ((rd_T56 l0 x1_1).f0) = 46 then (if ((rd_T56 l0 x1_1).f1).toList = ([] : List UInt8) then (norm_packed.j1 k1 l0 (wrap64 (x1_1 + ((rd_T56 l0 x1_1).f3))) a2 x7_1 x8_1 false ((rd_T56 l0 x1_1).f0) ((rd_T56 l0 x1_1).f1) ((rd_T56 l0 x1_1).f2) ((rd_T56 l0 x1_1).f3)) else (norm_packed.j1 k1 l0 (wrap64 (x1_1 + ((rd_T56 l0 x1_1).f3))) a2 x7_1 x8_1 x8_1 ((rd_T56 l0 x1_1).f0) ((rd_T56 l0 x1_1).f1) ((rd_T56 l0 x1_1).f2) ((rd_T56 l0 x1_1).f3))) else (if x7_1.length < 3518437208883 then ((some (x7_1 ++ [(⟨(rd_T56 l0 x1_1).f0, (rd_T56 l0 x1_1).f1, (rd_T56 l0 x1_1).f2, wrap64 ((t170.length : Int) + 1)⟩ : S56)] : List (S56))).bind fun y178 => (if y178.length + t170.length < 3518437208883 then (norm_packed.l0 k1 l0 (wrap64 (x1_1 + ((rd_T56 l0 x1_1).f3))) a2 (y178 ++ t170) false) else (none))) else (none))) = some r := H
      have A7 := Aside0.mk A70
      clear A70
      by_cases c8 : ((rd_T56 l0 x1_1).f0) = 46
      ·rw [if_pos c8] at H
       have c8b0 : (((rd_T56 l0 x1_1).f0) == 46) = true := beq_iff_eq.mpr c8
       have c8b1 : (((rd_T56 l0 x1_1).f0) != 46) = false := bne_eq_false_iff_eq.mpr c8
       clear c8
       have HC9 := Aside0.mk H
       clear H
       have p168 : 0 ≤ (x1_1 : Int) := of_decide_eq_true (by first | (with_reducible assumption) | assumption)
       have q168 : x1_1 < (l0.length : Int) := of_decide_eq_true (by first | (with_reducible assumption) | assumption)
       obtain ⟨ad168, e168, hx168_0, hx168_1, hx168_2, hx168_3⟩ := at_T56 HR0.out x1_1 p168 q168
       cases e168
       replace hx168_0 := (HB.out.cell (World.block_lt_of_cell? w _ hx168_0)).trans hx168_0
       replace hx168_1 := (HB.out.cell (World.block_lt_of_cell? w _ hx168_1)).trans hx168_1
       replace hx168_2 := (HB.out.cell (World.block_lt_of_cell? w _ hx168_2)).trans hx168_2
       replace hx168_3 := (HB.out.cell (World.block_lt_of_cell? w _ hx168_3)).trans hx168_3
       replace p168 := eq_true p168
       replace q168 := eq_true q168
       go_upto_region 11 with (first | ((with_reducible refine gate_dst (N := 9) rfl ?_); refine box_event ?hg (N := 9) ?hd (cs := #[.int .u8 0, .string (⟨#[]⟩ : ByteArray), .int .i64 0, .int .i64 0]) (t := 56) ?hr ?_; (case hd => rfl); (case hg => rfl); (case hr => first | (go_simp; done) | (go_simp; rfl)); intro gb169 hg w10 hbox hb; have n0_ := Aside0.mk (Kd.R_below (Kd.R_elderB (by (with_reducible repeat (first | apply Kd.R_alloc | apply Kd.R_drewN | apply Kd.R_drew)); exact HO_7.out) gb169 (Nat.le_of_eq hg.symm)) hb); have n1_ := Aside0.mk (below_step (by repeat (first | (with_reducible first | exact HB.out | apply below_alloc | apply pw_below_drewN | apply below_drew1) | exact HB.out)) hb); have n2_ := Aside0.mk (hbox); have n3_ := Aside0.mk ((by rw [hg]; exact (below_size (by repeat (first | (with_reducible first | exact HB.out | apply below_alloc | apply pw_below_drewN | apply below_drew1) | exact HB.out))) : w.heap.size ≤ gb169)); have n4_ := Aside0.mk ((by rw [hg]; exact (below_size (by repeat (first | (with_reducible first | exact HB.out | apply below_alloc | apply pw_below_drewN | apply below_drew1) | exact HB.out))) : w.heap.size ≤ gb169)); clear HO_7; clear HB; have HO_7 := n0_; have HB := n1_; have BK169 := n2_; have GW169 := n3_; have GE169 := n4_; clear n0_ n1_ n2_ n3_ n4_; clear hb hbox hg; have hcz11_0 : w10.cell? ⟨gb169, 0, none⟩ = some (.int .u8 0) := (blk_cell BK169.out 0).trans rfl; have hcz11_1 : w10.cell? ⟨gb169, 1, none⟩ = some (.string (⟨#[]⟩ : ByteArray)) := (blk_cell BK169.out 1).trans rfl; have hcz11_2 : w10.cell? ⟨gb169, 2, none⟩ = some (.int .i64 0) := (blk_cell BK169.out 2).trans rfl; have hcz11_3 : w10.cell? ⟨gb169, 3, none⟩ = some (.int .i64 0) := (blk_cell BK169.out 3).trans rfl; have hfz11_0 := blk_frozen BK169.out 0; have hfz11_1 := blk_frozen BK169.out 1; have hfz11_2 := blk_frozen BK169.out 2; have hfz11_3 := blk_frozen BK169.out 3) | ((with_reducible refine gate_callee (f := 110) rfl ?_); refine goesL_ (some 25) rfl rfl Try.func110 (by kernel_rfl) rfl #[.slice (some ad168) l0.length c0, .int .i64 (wrap64 (x1_1 + 1)), .int .i64 (wrap64 (x1_1 + ((rd_T56 l0 x1_1).f3)))] rfl (by (try simp only [List.map_toArray, List.map_cons, List.map_nil]); first | done | rfl | (simp only [List.length_drop, List.length_take]; rfl)) ?_; (with_reducible refine (ih k1 (by have := HK1.out; omega) _ _ l0 (wrap64 (x1_1 + 1)) (wrap64 (x1_1 + ((rd_T56 l0 x1_1).f3))) t170 _ ?side1 ?side2 A7.out).mono ?_); (case side1 => exact Kd.C_below HR0.out (by repeat (first | (with_reducible first | exact HB.out | apply below_alloc | apply pw_below_drewN | apply below_drew1 | refine below_set ?_ GE169.out) | exact HB.out))); (case side2 => exact HC0.out); rintro e w12 ⟨v171, rfl, ho0, hb⟩; refine ⟨_, rfl, ?_⟩; have n0_ := Aside0.mk (Kd.R_elder' (by (with_reducible repeat (first | apply Kd.R_alloc | apply Kd.R_drewN | apply Kd.R_drew)); exact (Kd.R_mono (Kd.R_far (p := ⟨gb169, 3, none⟩) (Kd.R_far (p := ⟨gb169, 2, none⟩) (Kd.R_far (p := ⟨gb169, 1, none⟩) (Kd.R_far (p := ⟨gb169, 0, none⟩) (Kd.R_mono HO_7.out (fun k_ hk => (⟨hk, hk.2⟩ : _ ∧ k_ ≠ gb169))) (fun _ hk => hk.2) (.int .u8 ((rd_T56 l0 x1_1).f0))) (fun _ hk => hk.2) (.string ((rd_T56 l0 x1_1).f1))) (fun _ hk => hk.2) (.int .i64 ((rd_T56 l0 x1_1).f2))) (fun _ hk => hk.2) (.int .i64 ((rd_T56 l0 x1_1).f3))) (fun _ h_ => h_.1))) (Kd.R_base ho0) hb); have n1_ := Aside0.mk (Kd.R_lower (Kd.R_newB (Kd.R_new' ho0 (Kd.R_lt (by (with_reducible repeat (first | apply Kd.R_alloc | apply Kd.R_drewN | apply Kd.R_drew)); exact (Kd.R_mono (Kd.R_far (p := ⟨gb169, 3, none⟩) (Kd.R_far (p := ⟨gb169, 2, none⟩) (Kd.R_far (p := ⟨gb169, 1, none⟩) (Kd.R_far (p := ⟨gb169, 0, none⟩) (Kd.R_mono HO_7.out (fun k_ hk => (⟨hk, hk.2⟩ : _ ∧ k_ ≠ gb169))) (fun _ hk => hk.2) (.int .u8 ((rd_T56 l0 x1_1).f0))) (fun _ hk => hk.2) (.string ((rd_T56 l0 x1_1).f1))) (fun _ hk => hk.2) (.int .i64 ((rd_T56 l0 x1_1).f2))) (fun _ hk => hk.2) (.int .i64 ((rd_T56 l0 x1_1).f3))) (fun _ h_ => h_.1))))) (g := gb169) (o := .cells #[.int .u8 ((rd_T56 l0 x1_1).f0), .string ((rd_T56 l0 x1_1).f1), .int .i64 ((rd_T56 l0 x1_1).f2), .int .i64 ((rd_T56 l0 x1_1).f3)] 56 (0, 0)) (by (with_reducible repeat (first | refine blk_drewN ?_ _ | refine blk_drew ?_ | refine blk_alloc ?_ _)); refine blk_put (cs := #[.int .u8 ((rd_T56 l0 x1_1).f0), .string ((rd_T56 l0 x1_1).f1), .int .i64 ((rd_T56 l0 x1_1).f2), .int .i64 0]) ?_ 3 _ rfl; (with_reducible repeat (first | refine blk_drewN ?_ _ | refine blk_drew ?_ | refine blk_alloc ?_ _)); refine blk_put (cs := #[.int .u8 ((rd_T56 l0 x1_1).f0), .string ((rd_T56 l0 x1_1).f1), .int .i64 0, .int .i64 0]) ?_ 2 _ rfl; (with_reducible repeat (first | refine blk_drewN ?_ _ | refine blk_drew ?_ | refine blk_alloc ?_ _)); refine blk_put (cs := #[.int .u8 ((rd_T56 l0 x1_1).f0), .string (⟨#[]⟩ : ByteArray), .int .i64 0, .int .i64 0]) ?_ 1 _ rfl; (with_reducible repeat (first | refine blk_drewN ?_ _ | refine blk_drew ?_ | refine blk_alloc ?_ _)); refine blk_put (cs := #[.int .u8 0, .string (⟨#[]⟩ : ByteArray), .int .i64 0, .int .i64 0]) ?_ 0 _ rfl; (with_reducible repeat (first | refine blk_drewN ?_ _ | refine blk_drew ?_ | refine blk_alloc ?_ _)); exact BK169.out)) (below_size (by repeat (first | (with_reducible first | exact HB.out | apply below_alloc | apply pw_below_drewN | apply below_drew1 | refine below_set ?_ GE169.out) | exact HB.out)))); have n2_ := Aside0.mk (blk_below (g := gb169) (o := .cells #[.int .u8 ((rd_T56 l0 x1_1).f0), .string ((rd_T56 l0 x1_1).f1), .int .i64 ((rd_T56 l0 x1_1).f2), .int .i64 ((rd_T56 l0 x1_1).f3)] 56 (0, 0)) (by (with_reducible repeat (first | refine blk_drewN ?_ _ | refine blk_drew ?_ | refine blk_alloc ?_ _)); refine blk_put (cs := #[.int .u8 ((rd_T56 l0 x1_1).f0), .string ((rd_T56 l0 x1_1).f1), .int .i64 ((rd_T56 l0 x1_1).f2), .int .i64 0]) ?_ 3 _ rfl; (with_reducible repeat (first | refine blk_drewN ?_ _ | refine blk_drew ?_ | refine blk_alloc ?_ _)); refine blk_put (cs := #[.int .u8 ((rd_T56 l0 x1_1).f0), .string ((rd_T56 l0 x1_1).f1), .int .i64 0, .int .i64 0]) ?_ 2 _ rfl; (with_reducible repeat (first | refine blk_drewN ?_ _ | refine blk_drew ?_ | refine blk_alloc ?_ _)); refine blk_put (cs := #[.int .u8 ((rd_T56 l0 x1_1).f0), .string (⟨#[]⟩ : ByteArray), .int .i64 0, .int .i64 0]) ?_ 1 _ rfl; (with_reducible repeat (first | refine blk_drewN ?_ _ | refine blk_drew ?_ | refine blk_alloc ?_ _)); refine blk_put (cs := #[.int .u8 0, .string (⟨#[]⟩ : ByteArray), .int .i64 0, .int .i64 0]) ?_ 0 _ rfl; (with_reducible repeat (first | refine blk_drewN ?_ _ | refine blk_drew ?_ | refine blk_alloc ?_ _)); exact BK169.out) hb); have n3_ := Aside0.mk (below_step (by repeat (first | (with_reducible first | exact HB.out | apply below_alloc | apply pw_below_drewN | apply below_drew1 | refine below_set ?_ GE169.out) | exact HB.out)) hb); clear HO_7; clear BK169; clear HB; have HO_7 := n0_; have HO172 := n1_; have BK169 := n2_; have HB := n3_; clear n0_ n1_ n2_ n3_; (try clear hb); (try clear hb2); (try clear hk); (try clear hi); (try clear ho0); have hcz13_0 : w12.cell? ⟨gb169, 0, none⟩ = some (.int .u8 ((rd_T56 l0 x1_1).f0)) := (blk_cell BK169.out 0).trans rfl; have hcz13_1 : w12.cell? ⟨gb169, 1, none⟩ = some (.string ((rd_T56 l0 x1_1).f1)) := (blk_cell BK169.out 1).trans rfl; have hcz13_2 : w12.cell? ⟨gb169, 2, none⟩ = some (.int .i64 ((rd_T56 l0 x1_1).f2)) := (blk_cell BK169.out 2).trans rfl; have hcz13_3 : w12.cell? ⟨gb169, 3, none⟩ = some (.int .i64 ((rd_T56 l0 x1_1).f3)) := (blk_cell BK169.out 3).trans rfl; have hfz13_0 := blk_frozen BK169.out 0; have hfz13_1 := blk_frozen BK169.out 1; have hfz13_2 := blk_frozen BK169.out 2; have hfz13_3 := blk_frozen BK169.out 3))
       (try simp only [Act.put, List.setIfInBounds_toArray, List.set_cons_zero, List.set_cons_succ])
       go_cut [44] (fun v44 wc => ∃ (kq : Nat) (x44_8 : Bool), v44 = .bool x44_8 ∧ Aside0 (norm_packed.j1 kq l0 (wrap64 (x1_1 + ((rd_T56 l0 x1_1).f3))) a2 x7_1 x8_1 x44_8 ((rd_T56 l0 x1_1).f0) ((rd_T56 l0 x1_1).f1) ((rd_T56 l0 x1_1).f2) ((rd_T56 l0 x1_1).f3) = some r) ∧ Aside0 (kq ≤ k1) ∧ Aside0 (Kd.R k56 56 wc w.heap.size (fun k_ => k_ ≠ gb169) u7 x7_1) ∧ Aside0 (wc.heap[gb169]? = some (.cells #[.int .u8 ((rd_T56 l0 x1_1).f0), .string ((rd_T56 l0 x1_1).f1), .int .i64 ((rd_T56 l0 x1_1).f2), .int .i64 ((rd_T56 l0 x1_1).f3)] 56 (0, 0))) ∧ Aside0 (Below w.heap.size w wc))
       case first =>
        have H := HC9.out
        clear HC9
        by_cases c14 : ((rd_T56 l0 x1_1).f1).toList = ([] : List UInt8)
        ·rw [if_pos c14] at H
         have c14b0 : (((rd_T56 l0 x1_1).f1).toList == ([] : List UInt8)) = true := beq_iff_eq.mpr c14
         have c14b1 : (((rd_T56 l0 x1_1).f1).toList != ([] : List UInt8)) = false := bne_eq_false_iff_eq.mpr c14
         clear c14
         (first | rw [c14b0] | (simp only [i64_w, i32_w]; rw [c14b0]) | skip)
         have H' := Aside0.mk H
         clear H
         have hcz15_0 : w12.cell? ⟨gb169, 0, none⟩ = some (.int .u8 ((rd_T56 l0 x1_1).f0)) := (blk_cell BK169.out 0).trans rfl
         have hcz15_1 : w12.cell? ⟨gb169, 1, none⟩ = some (.string ((rd_T56 l0 x1_1).f1)) := (blk_cell BK169.out 1).trans rfl
         have hcz15_2 : w12.cell? ⟨gb169, 2, none⟩ = some (.int .i64 ((rd_T56 l0 x1_1).f2)) := (blk_cell BK169.out 2).trans rfl
         have hcz15_3 : w12.cell? ⟨gb169, 3, none⟩ = some (.int .i64 ((rd_T56 l0 x1_1).f3)) := (blk_cell BK169.out 3).trans rfl
         have hfz15_0 := blk_frozen BK169.out 0
         have hfz15_1 := blk_frozen BK169.out 1
         have hfz15_2 := blk_frozen BK169.out 2
         have hfz15_3 := blk_frozen BK169.out 3
         go_wp2
         go_meet
         case rel => exact ⟨_, (false), (by first | rfl | (simp; done) | (simp [*]; done)), H', ⟨by have := HK1.out; first | omega | exact Nat.le_refl _⟩, ⟨by (with_reducible repeat (first | apply Kd.R_alloc | apply Kd.R_drewN | apply Kd.R_drew)); exact Kd.R_mono HO_7.out (fun _ hk => hk.1.2)⟩, ⟨by (with_reducible repeat (first | refine blk_drewN ?_ _ | refine blk_drew ?_ | refine blk_alloc ?_ _)); exact BK169.out⟩, ⟨by repeat (first | (with_reducible first | exact HB.out | apply below_alloc | apply pw_below_drewN | apply below_drew1 | refine below_set ?_ GE169.out) | exact HB.out)⟩⟩
        ·rw [if_neg c14] at H
         have c14b0 : (((rd_T56 l0 x1_1).f1).toList == ([] : List UInt8)) = false := beq_eq_false_iff_ne.mpr c14
         have c14b1 : (((rd_T56 l0 x1_1).f1).toList != ([] : List UInt8)) = true := bne_iff_ne.mpr c14
         (first | rw [c14b0] | (simp only [i64_w, i32_w]; rw [c14b0]) | skip)
         have H' := Aside0.mk H
         clear H
         have hcz16_0 : w12.cell? ⟨gb169, 0, none⟩ = some (.int .u8 ((rd_T56 l0 x1_1).f0)) := (blk_cell BK169.out 0).trans rfl
         have hcz16_1 : w12.cell? ⟨gb169, 1, none⟩ = some (.string ((rd_T56 l0 x1_1).f1)) := (blk_cell BK169.out 1).trans rfl
         have hcz16_2 : w12.cell? ⟨gb169, 2, none⟩ = some (.int .i64 ((rd_T56 l0 x1_1).f2)) := (blk_cell BK169.out 2).trans rfl
         have hcz16_3 : w12.cell? ⟨gb169, 3, none⟩ = some (.int .i64 ((rd_T56 l0 x1_1).f3)) := (blk_cell BK169.out 3).trans rfl
         have hfz16_0 := blk_frozen BK169.out 0
         have hfz16_1 := blk_frozen BK169.out 1
         have hfz16_2 := blk_frozen BK169.out 2
         have hfz16_3 := blk_frozen BK169.out 3
         go_wp2
         go_meet
         case rel => exact ⟨_, (x8_1), (by first | rfl | (simp; done) | (simp [*]; done)), H', ⟨by have := HK1.out; first | omega | exact Nat.le_refl _⟩, ⟨by (with_reducible repeat (first | apply Kd.R_alloc | apply Kd.R_drewN | apply Kd.R_drew)); exact Kd.R_mono HO_7.out (fun _ hk => hk.1.2)⟩, ⟨by (with_reducible repeat (first | refine blk_drewN ?_ _ | refine blk_drew ?_ | refine blk_alloc ?_ _)); exact BK169.out⟩, ⟨by repeat (first | (with_reducible first | exact HB.out | apply below_alloc | apply pw_below_drewN | apply below_drew1 | refine below_set ?_ GE169.out) | exact HB.out)⟩⟩
       case rest =>
        clear HC9
        try clear c1
        try clear p1
        try clear q1
        try clear hx1
        try clear p2
        try clear c4
        try clear c4b0
        try clear c5
        try clear c5b0
        try clear c6
        try clear c6b0
        try clear p6
        try clear c8
        try clear c8b0
        try clear c8b1
        try clear c11
        try clear c14
        try clear c14b0
        try clear c14b1
        try clear p16
        try clear q16
        try clear hx16
        try clear hcz11_0
        try clear hcz11_1
        try clear hcz11_2
        try clear hcz11_3
        try clear hcz13_0
        try clear hcz13_1
        try clear hcz13_2
        try clear hcz13_3
        try clear hcz15_0
        try clear hcz15_1
        try clear hcz15_2
        try clear hcz15_3
        try clear hcz16_0
        try clear hcz16_1
        try clear hcz16_2
        try clear hcz16_3
        try clear hfz11_0
        try clear hfz11_1
        try clear hfz11_2
        try clear hfz11_3
        try clear hfz13_0
        try clear hfz13_1
        try clear hfz13_2
        try clear hfz13_3
        try clear hfz15_0
        try clear hfz15_1
        try clear hfz15_2
        try clear hfz15_3
        try clear hfz16_0
        try clear hfz16_1
        try clear hfz16_2
        try clear hfz16_3
        try clear hx168_0
        try clear hx168_1
        try clear hx168_2
        try clear hx168_3
        try clear p168
        try clear p2
        try clear q168
        obtain ⟨kq, x44_8, rfl, HA, HJ8, HO_7, BK169, HB⟩ := hcut
        cases kq with
        | zero => exact absurd HA.out (by simp [norm_packed.j1])
        | succ kj8 =>
         have H := HA.out
         clear HA
         simp only [norm_packed.j1] at H
         by_cases c17 : x44_8 = true
         ·subst c17
          have H1 : (if 0 ≤ (wrap64 ((x7_1.length : Int) - 1)) then (if (wrap64 ((x7_1.length : Int) - 1)) < (x7_1.length : Int) then (if ((rd_T56 x7_1 (wrap64 ((x7_1.length : Int) - 1))).f1).size + ((rd_T56 l0 x1_1).f1).size ≤ 9223372036854775807 then (norm_packed.l0 kj8 l0 (wrap64 (x1_1 + ((rd_T56 l0 x1_1).f3))) a2 (x7_1.set ((wrap64 ((x7_1.length : Int) - 1)) : Int).toNat (⟨(rd_T56 x7_1 (wrap64 ((x7_1.length : Int) - 1))).f0, ((rd_T56 x7_1 (wrap64 ((x7_1.length : Int) - 1))).f1) ++ ((rd_T56 l0 x1_1).f1), (rd_T56 x7_1 (wrap64 ((x7_1.length : Int) - 1))).f2, (rd_T56 x7_1 (wrap64 ((x7_1.length : Int) - 1))).f3⟩ : S56)) x8_1) else (none)) else (none)) else (none)) = some r := by rw [if_pos rfl] at H; exact H
          clear H
          have H := H1
          clear H1
          obtain ⟨ji18, hji18⟩ : ∃ j_ : Int, (wrap64 ((x7_1.length : Int) - 1)) = j_ := ⟨_, rfl⟩
          replace H : (if 0 ≤ (ji18) then (if (ji18) < (x7_1.length : Int) then (if ((rd_T56 x7_1 (ji18)).f1).size + ((rd_T56 l0 x1_1).f1).size ≤ 9223372036854775807 then (norm_packed.l0 kj8 l0 (wrap64 (x1_1 + ((rd_T56 l0 x1_1).f3))) a2 (x7_1.set ((ji18) : Int).toNat (⟨(rd_T56 x7_1 (ji18)).f0, ((rd_T56 x7_1 (ji18)).f1) ++ ((rd_T56 l0 x1_1).f1), (rd_T56 x7_1 (ji18)).f2, (rd_T56 x7_1 (ji18)).f3⟩ : S56)) x8_1) else (none)) else (none)) else (none)) = some r := by first | (rw [hji18] at H; exact H) | (simp only [hji18] at H ⊢; exact H)
          have hji18w : (IntKind.i64.wrap ((x7_1.length : Int) - 1)) = ji18 := (i64_w _).trans hji18
          by_cases c19 : 0 ≤ (ji18)
          ·rw [if_pos c19] at H
           have c19b0 : decide (0 ≤ (ji18)) = true := decide_eq_true c19
           clear c19
           by_cases c20 : (ji18) < (x7_1.length : Int)
           ·rw [if_pos c20] at H
            have c20b0 : decide ((ji18) < (x7_1.length : Int)) = true := decide_eq_true c20
            clear c20
            by_cases c21 : ((rd_T56 x7_1 (ji18)).f1).size + ((rd_T56 l0 x1_1).f1).size ≤ 9223372036854775807
            ·rw [if_pos c21] at H
             have c21b0 := eq_true c21
             have c21b1 : decide (((rd_T56 x7_1 (ji18)).f1).size + ((rd_T56 l0 x1_1).f1).size ≤ 9223372036854775807) = true := decide_eq_true c21
             try have c21b2 : (9223372036854775807 < ((rd_T56 x7_1 (ji18)).f1).size + ((rd_T56 l0 x1_1).f1).size) = False := eq_false (Nat.not_lt.2 c21)
             obtain ⟨y174, hy174⟩ : ∃ y_ : List (S56), y_ = (x7_1.set ((ji18) : Int).toNat (⟨(rd_T56 x7_1 (ji18)).f0, ((rd_T56 x7_1 (ji18)).f1) ++ ((rd_T56 l0 x1_1).f1), (rd_T56 x7_1 (ji18)).f2, (rd_T56 x7_1 (ji18)).f3⟩ : S56)) := ⟨_, rfl⟩
             replace H : (norm_packed.l0 kj8 l0 (wrap64 (x1_1 + ((rd_T56 l0 x1_1).f3))) a2 y174 x8_1) = some r := by first | (rw [hy174]; with_reducible exact H) | (have H2_ := (Option.bind_some _ _).symm.trans H; rw [hy174]; with_reducible exact H2_) | (have H2_ := (Option.bind_some _ _).symm.trans H; with_reducible exact H2_) | with_reducible exact H | (rw [hy174]; exact H) | exact H
             have Ny174 := Aside0.mk hy174
             clear hy174
             have H' := Aside0.mk H
             clear H
             try go_wp2
             have n0_ := Aside0.mk (Kd.R_drew HO_7.out)
             have n1_ := Aside0.mk (blk_drew BK169.out)
             have n2_ := Aside0.mk (below_drew1 HB.out)
             clear HO_7 BK169 HB
             have HO_7 := n0_
             have BK169 := n1_
             have HB := n2_
             clear n0_ n1_ n2_
             obtain ⟨Ao24, co24, eo24⟩ := Kd.R_slice HO_7.out
             (first | subst eo24 | (injection eo24 with f1_ f2_ f3_; have f4_ := f1_.symm; have f5_ := f3_.symm; clear f1_ f2_ f3_; subst f4_; subst f5_))
             have p173 : 0 ≤ ((ji18) : Int) := of_decide_eq_true (by first | (with_reducible assumption) | assumption)
             have q173 : (ji18) < (x7_1.length : Int) := of_decide_eq_true (by first | (with_reducible assumption) | assumption)
             obtain ⟨ad173, e173, hx173_0, hx173_1, hx173_2, hx173_3⟩ := at_T56 (Kd.R_reads' HO_7.out).2.2 (ji18) p173 q173
             cases e173
             replace p173 := eq_true p173
             replace q173 := eq_true q173
             have p22 : 0 ≤ ((ji18) : Int) := of_decide_eq_true (by first | (with_reducible assumption) | assumption)
             have q22 : ((ji18) : Int) < ((x7_1.length : Int) : Int) := of_decide_eq_true (by first | (with_reducible assumption) | assumption)
             obtain ⟨go22, co22, eo22, gb22, gl22, cl22, HG22⟩ := Kd.R_form HO_7.out (by omega)
             (first | cases eo22 | (injection eo22 with ea_ en_ ec_; (first | subst ea_ | (injection ea_ with ea_; subst ea_)); subst ec_; clear en_))
             have GB22 := Aside0.mk gb22
             have GG22 := Aside0.mk HG22
             clear gb22 gl22 HG22
             (first | simp only [add_plain] at hx173_0 | skip)
             (first | simp only [add_plain] at hx173_1 | skip)
             (first | simp only [add_plain] at hx173_2 | skip)
             (first | simp only [add_plain] at hx173_3 | skip)
             obtain ⟨ce22, hcl22, hM22, hcc22, hfr22⟩ := Kd.R_elem HO_7.out z56 ((ji18) : Int) p22 q22
             obtain rfl := k56_openM hM22
             have hx22_0 : World.cell? _ ⟨go22, ((ji18) : Int).toNat * 4, none⟩ = some (.int .u8 ((rd_T56 x7_1 (ji18)).f0)) := hcc22 0 _ rfl
             have hx22_1 : World.cell? _ ⟨go22, ((ji18) : Int).toNat * 4 + 1, none⟩ = some (.string ((rd_T56 x7_1 (ji18)).f1)) := hcc22 1 _ rfl
             have hx22_2 : World.cell? _ ⟨go22, ((ji18) : Int).toNat * 4 + 2, none⟩ = some (.int .i64 ((rd_T56 x7_1 (ji18)).f2)) := hcc22 2 _ rfl
             have hx22_3 : World.cell? _ ⟨go22, ((ji18) : Int).toNat * 4 + 3, none⟩ = some (.int .i64 ((rd_T56 x7_1 (ji18)).f3)) := hcc22 3 _ rfl
             have hf22_0 : World.frozen? _ ⟨go22, ((ji18) : Int).toNat * 4, none⟩ = false := hfr22 0
             have hf22_1 : World.frozen? _ ⟨go22, ((ji18) : Int).toNat * 4 + 1, none⟩ = false := hfr22 1
             have hf22_2 : World.frozen? _ ⟨go22, ((ji18) : Int).toNat * 4 + 2, none⟩ = false := hfr22 2
             have hf22_3 : World.frozen? _ ⟨go22, ((ji18) : Int).toNat * 4 + 3, none⟩ = false := hfr22 3
             clear hcl22 hcc22 hfr22 hM22
             replace p22 := eq_true p22
             replace q22 := eq_true q22
             obtain ⟨ce25, hcl25, hM25, hcc25, hfr25⟩ := Kd.R_elem HO_7.out z56 ((ji18) : Int) (of_decide_eq_true (by first | (with_reducible assumption) | assumption)) (by have h_ : ((ji18) : Int) < ((x7_1.length : Int) : Int) := of_decide_eq_true (by first | (with_reducible assumption) | assumption); first | exact h_ | (have e_ := (Kd.R_reads' HO_7.out).1; omega) | simpa using h_)
             obtain rfl := k56_openM hM25
             have HP25 := (Kd.R_seg HO_7.out ((ji18) : Int) (of_decide_eq_true (by first | (with_reducible assumption) | assumption)) (by have h_ : ((ji18) : Int) < ((x7_1.length : Int) : Int) := of_decide_eq_true (by first | (with_reducible assumption) | assumption); first | exact h_ | (have e_ := (Kd.R_reads' HO_7.out).1; omega) | simpa using h_) (seg := [.string (((rd_T56 x7_1 (ji18)).f1) ++ ((rd_T56 l0 x1_1).f1))]) (j := 1) hcl25 hcc25 (show 2 ≤ 4 from by decide) (x' := (⟨(rd_T56 x7_1 (ji18)).f0, ((rd_T56 x7_1 (ji18)).f1) ++ ((rd_T56 l0 x1_1).f1), (rd_T56 x7_1 (ji18)).f2, (rd_T56 x7_1 (ji18)).f3⟩ : S56)) (k56_mkM _ _ _ (⟨(rd_T56 x7_1 (ji18)).f0, ((rd_T56 x7_1 (ji18)).f1) ++ ((rd_T56 l0 x1_1).f1), (rd_T56 x7_1 (ji18)).f2, (rd_T56 x7_1 (ji18)).f3⟩ : S56) ) (fun _ hk => hk)).1
             rw [← Ny174.out] at HP25
             have HQ25 := Aside0.mk HP25
             clear hcl25 hcc25 hfr25 hM25 HP25
             refine start_ (n := 13) (S := fun w' => w'.cell? ⟨gb169, 0, none⟩ = some (.int .u8 ((rd_T56 l0 x1_1).f0)) ∧ w'.cell? ⟨gb169, 1, none⟩ = some (.string ((rd_T56 l0 x1_1).f1)) ∧ w'.cell? ⟨gb169, 2, none⟩ = some (.int .i64 ((rd_T56 l0 x1_1).f2)) ∧ w'.cell? ⟨gb169, 3, none⟩ = some (.int .i64 ((rd_T56 l0 x1_1).f3)) ∧ w'.cell? ⟨go22, ((ji18)).toNat * 4, none⟩ = some (.int .u8 ((rd_T56 x7_1 (ji18)).f0)) ∧ w'.cell? ⟨go22, ((ji18)).toNat * 4 + 1, none⟩ = some (.string ((rd_T56 x7_1 (ji18)).f1)) ∧ w'.cell? ⟨go22, ((ji18)).toNat * 4 + 2, none⟩ = some (.int .i64 ((rd_T56 x7_1 (ji18)).f2)) ∧ w'.cell? ⟨go22, ((ji18)).toNat * 4 + 3, none⟩ = some (.int .i64 ((rd_T56 x7_1 (ji18)).f3))) (ds := [12]) #[false, false, false, false, false, false, false, false, false, false, false, false, false] (by kernel_rfl) rfl rfl ⟨(blk_cell BK169.out 0).trans rfl, (blk_cell BK169.out 1).trans rfl, (blk_cell BK169.out 2).trans rfl, (blk_cell BK169.out 3).trans rfl, hx173_0, hx173_1, hx173_2, hx173_3⟩ (fun hHeld => ?_); refine with_tabW norm_packed.tab12 norm_packed.bits12 (fun HT_ HW_ => ?_)
             generalize wc.drew = w23 at HO_7 BK169 HB GG22 HQ25 hf22_0 hf22_1 hf22_2 hf22_3 hx173_0 hx173_1 hx173_2 hx173_3 hx22_0 hx22_1 hx22_2 hx22_3 hHeld ⊢
             refine pure_ (i := 0) (N := some 51) (v := ?_) (a' := ?_) #[true, false, false, false, false, false, false, false, false, false, false, false, false] rfl rfl (any_of HT_.out (by kernel_rfl)) (fun _ _ _ h => h) (Or.inl ⟨by rfl, ?_⟩) ?_ ?_
             rotate_left
             ·intro w'
              go_simp
              with_reducible rfl
             rotate_left
             ·simp only [Act.put, List.setIfInBounds_toArray, List.set_cons_zero, List.set_cons_succ, i64_w, i32_w]
              rfl
             refine pure_ (i := 1) (N := some 52) (v := ?_) (a' := ?_) #[true, true, false, false, false, false, false, false, false, false, false, false, false] rfl rfl (any_of HT_.out (by kernel_rfl)) (fun _ _ _ h => h) (Or.inl ⟨by rfl, ?_⟩) ?_ ?_
             rotate_left
             ·intro w'
              go_simp
              with_reducible rfl
             rotate_left
             ·simp only [Act.put, List.setIfInBounds_toArray, List.set_cons_zero, List.set_cons_succ, i64_w, i32_w]
              rfl
             refine pure_ (i := 2) (N := some 53) (v := ?_) (a' := ?_) #[true, true, true, false, false, false, false, false, false, false, false, false, false] rfl rfl (any_of HT_.out (by kernel_rfl)) (fun _ _ _ h => h) (Or.inl ⟨by rfl, ?_⟩) ?_ ?_
             rotate_left
             ·intro w'
              go_simp
              with_reducible rfl
             rotate_left
             ·simp only [Act.put, List.setIfInBounds_toArray, List.set_cons_zero, List.set_cons_succ, i64_w, i32_w]
              rfl
             refine pure_ (i := 3) (N := some 54) (v := ?_) (a' := ?_) #[true, true, true, true, false, false, false, false, false, false, false, false, false] rfl rfl (any_of HT_.out (by kernel_rfl)) (fun _ _ _ h => h) (Or.inl ⟨by rfl, ?_⟩) ?_ ?_
             rotate_left
             ·intro w'
              go_simp
              with_reducible rfl
             rotate_left
             ·simp only [Act.put, List.setIfInBounds_toArray, List.set_cons_zero, List.set_cons_succ, i64_w, i32_w]
              rfl
             refine pure_ (i := 4) (N := some 55) (v := ?_) (a' := ?_) #[true, true, true, true, true, false, false, false, false, false, false, false, false] rfl rfl (any_of HT_.out (by kernel_rfl)) (fun _ _ _ h => h) (Or.inl ⟨by rfl, ?_⟩) ?_ ?_
             rotate_left
             ·intro w'
              go_simp
              with_reducible rfl
             rotate_left
             ·simp only [Act.put, List.setIfInBounds_toArray, List.set_cons_zero, List.set_cons_succ, i64_w, i32_w]
              rfl
             refine pure_ (i := 5) (N := some 56) (v := ?_) (a' := ?_) #[true, true, true, true, true, true, false, false, false, false, false, false, false] rfl rfl (any_of HT_.out (by kernel_rfl)) (fun _ _ _ h => h) (Or.inl ⟨by rfl, ?_⟩) ?_ ?_
             rotate_left
             ·intro w'
              go_simp
              with_reducible rfl
             rotate_left
             ·simp only [Act.put, List.setIfInBounds_toArray, List.set_cons_zero, List.set_cons_succ, i64_w, i32_w]
              rfl
             refine pure_ (i := 7) (N := some 58) (v := ?_) (a' := ?_) #[true, true, true, true, true, true, false, true, false, false, false, false, false] rfl rfl (any_of HT_.out (by kernel_rfl)) (fun _ _ _ h => h) (Or.inl ⟨by rfl, ?_⟩) ?_ ?_
             rotate_left
             ·intro w'
              go_simp
              with_reducible rfl
             rotate_left
             ·simp only [Act.put, List.setIfInBounds_toArray, List.set_cons_zero, List.set_cons_succ, i64_w, i32_w]
              rfl
             refine take_ (i := 6) (N := some 57) (v := ?_) (a' := ?_) #[true, true, true, true, true, true, true, true, false, false, false, false, false] rfl rfl (take_ofW HT_.out HW_.out (by kernel_rfl)) (fun _ _ _ h => h) (Or.inl ⟨by rfl, ?_⟩) hHeld ?_ ?_
             rotate_left
             ·rintro w' ⟨s0, s1, s2, s3, s4, s5, s6, s7⟩
              go_simp
              with_reducible rfl
             rotate_left
             ·simp only [Act.put, List.setIfInBounds_toArray, List.set_cons_zero, List.set_cons_succ, i64_w, i32_w]
              rfl
             refine take_ (i := 8) (N := some 59) (v := ?_) (a' := ?_) #[true, true, true, true, true, true, true, true, true, false, false, false, false] rfl rfl (take_ofW HT_.out HW_.out (by kernel_rfl)) (fun _ _ _ h => h) (Or.inl ⟨by rfl, ?_⟩) hHeld ?_ ?_
             rotate_left
             ·rintro w' ⟨s0, s1, s2, s3, s4, s5, s6, s7⟩
              go_simp
              with_reducible rfl
             rotate_left
             ·simp only [Act.put, List.setIfInBounds_toArray, List.set_cons_zero, List.set_cons_succ, i64_w, i32_w]
              rfl
             refine pure_ (i := 9) (N := some 60) (v := ?_) (a' := ?_) #[true, true, true, true, true, true, true, true, true, true, false, false, false] rfl rfl (any_of HT_.out (by kernel_rfl)) (fun _ _ _ h => h) (Or.inl ⟨by rfl, ?_⟩) ?_ ?_
             rotate_left
             ·intro w'
              go_simp
              with_reducible rfl
             rotate_left
             ·simp only [Act.put, List.setIfInBounds_toArray, List.set_cons_zero, List.set_cons_succ, i64_w, i32_w]
              rfl
             refine pure_ (i := 10) (N := some 61) (v := ?_) (a' := ?_) #[true, true, true, true, true, true, true, true, true, true, true, false, false] rfl rfl (any_of HT_.out (by kernel_rfl)) (fun _ _ _ h => h) (Or.inl ⟨by rfl, ?_⟩) ?_ ?_
             rotate_left
             ·intro w'
              go_simp
              with_reducible rfl
             rotate_left
             ·simp only [Act.put, List.setIfInBounds_toArray, List.set_cons_zero, List.set_cons_succ, i64_w, i32_w]
              rfl
             refine pure_ (i := 11) (N := some 62) (v := ?_) (a' := ?_) #[true, true, true, true, true, true, true, true, true, true, true, true, false] rfl rfl (any_of HT_.out (by kernel_rfl)) (fun _ _ _ h => h) (Or.inl ⟨by rfl, ?_⟩) ?_ ?_
             rotate_left
             ·intro w'
              go_simp
              with_reducible rfl
             rotate_left
             ·simp only [Act.put, List.setIfInBounds_toArray, List.set_cons_zero, List.set_cons_succ, i64_w, i32_w]
              rfl
             refine last_ (i := 12) (N := none) #[true, true, true, true, true, true, true, true, true, true, true, true, true] rfl rfl (one_of HT_.out (by kernel_rfl)) (by decide) (fun K hK => ?_)
             refine skip_ (w1 := ?_) (by rfl) rfl ?_ ?_
             rotate_left
             ·go_simp
              rfl
             refine hK.out _ _ ?_
             clear hK K
             refine done_ (done_of HT_.out (by kernel_rfl)) ?_
             try go_wp2
             go_roundg kj8
             case measure => have := HK1.out; have := HJ8.out; omega
             case rel => exact ⟨((wrap64 (x1_1 + ((rd_T56 l0 x1_1).f3)))), (y174), (x8_1), (by first | rfl | (simp; done) | (simp [*]; done)), (by first | rfl | (simp; done) | (simp [*]; done)), H', ⟨by have := HK1.out; have := HJ8.out; omega⟩, ⟨by (with_reducible repeat (first | apply Kd.R_alloc | apply Kd.R_drewN | apply Kd.R_drew)); exact Kd.R_mono HQ25.out (fun _ hk => trivial)⟩, ⟨by repeat (first | (with_reducible first | exact HB.out | apply below_alloc | apply pw_below_drewN | apply below_drew1 | refine below_set ?_ GB22.out | refine below_set ?_ GE169.out) | exact HB.out)⟩⟩
            ·rw [if_neg c21] at H
             exact absurd H (by simp)
           ·rw [if_neg c20] at H
            exact absurd H (by simp)
          ·rw [if_neg c19] at H
           exact absurd H (by simp)
         ·replace c17 := Bool.eq_false_iff.mpr c17
          subst c17
          have H1 : (if ((rd_T56 l0 x1_1).f1).toList = ([] : List UInt8) then (norm_packed.l0 kj8 l0 (wrap64 (x1_1 + ((rd_T56 l0 x1_1).f3))) a2 x7_1 x8_1) else (if x7_1.length < 3518437208883 then (norm_packed.l0 kj8 l0 (wrap64 (x1_1 + ((rd_T56 l0 x1_1).f3))) a2 (x7_1 ++ [(⟨((rd_T56 l0 x1_1).f0), ((rd_T56 l0 x1_1).f1), ((rd_T56 l0 x1_1).f2), ((rd_T56 l0 x1_1).f3)⟩ : S56)]) true) else (none))) = some r := by rw [if_neg (show ¬ (false = true) by decide)] at H; exact H
          clear H
          have H := H1
          clear H1
          by_cases c26 : ((rd_T56 l0 x1_1).f1).toList = ([] : List UInt8)
          ·rw [if_pos c26] at H
           have c26b0 : (((rd_T56 l0 x1_1).f1).toList == ([] : List UInt8)) = true := beq_iff_eq.mpr c26
           have c26b1 : (((rd_T56 l0 x1_1).f1).toList != ([] : List UInt8)) = false := bne_eq_false_iff_eq.mpr c26
           clear c26
           have H' := Aside0.mk H
           clear H
           have hcz27_0 : wc.cell? ⟨gb169, 0, none⟩ = some (.int .u8 ((rd_T56 l0 x1_1).f0)) := (blk_cell BK169.out 0).trans rfl
           have hcz27_1 : wc.cell? ⟨gb169, 1, none⟩ = some (.string ((rd_T56 l0 x1_1).f1)) := (blk_cell BK169.out 1).trans rfl
           have hcz27_2 : wc.cell? ⟨gb169, 2, none⟩ = some (.int .i64 ((rd_T56 l0 x1_1).f2)) := (blk_cell BK169.out 2).trans rfl
           have hcz27_3 : wc.cell? ⟨gb169, 3, none⟩ = some (.int .i64 ((rd_T56 l0 x1_1).f3)) := (blk_cell BK169.out 3).trans rfl
           have hfz27_0 := blk_frozen BK169.out 0
           have hfz27_1 := blk_frozen BK169.out 1
           have hfz27_2 := blk_frozen BK169.out 2
           have hfz27_3 := blk_frozen BK169.out 3
           go_wp2
           go_roundg kj8
           case measure => have := HK1.out; have := HJ8.out; omega
           case rel => exact ⟨((wrap64 (x1_1 + ((rd_T56 l0 x1_1).f3)))), (x7_1), (x8_1), (by first | rfl | (simp; done) | (simp [*]; done)), (by first | rfl | (simp; done) | (simp [*]; done)), H', ⟨by have := HK1.out; have := HJ8.out; omega⟩, ⟨by (with_reducible repeat (first | apply Kd.R_alloc | apply Kd.R_drewN | apply Kd.R_drew)); exact Kd.R_mono HO_7.out (fun _ hk => trivial)⟩, ⟨by repeat (first | (with_reducible first | exact HB.out | apply below_alloc | apply pw_below_drewN | apply below_drew1 | refine below_set ?_ GE169.out) | exact HB.out)⟩⟩
          ·rw [if_neg c26] at H
           have c26b0 : (((rd_T56 l0 x1_1).f1).toList == ([] : List UInt8)) = false := beq_eq_false_iff_ne.mpr c26
           have c26b1 : (((rd_T56 l0 x1_1).f1).toList != ([] : List UInt8)) = true := bne_iff_ne.mpr c26
           by_cases c28 : x7_1.length < 3518437208883
           ·rw [if_pos c28] at H
            have LMc28 := Aside0.mk c28
            clear c28
            obtain ⟨y175, hy175⟩ : ∃ y_ : List (S56), y_ = (x7_1 ++ [(⟨((rd_T56 l0 x1_1).f0), ((rd_T56 l0 x1_1).f1), ((rd_T56 l0 x1_1).f2), ((rd_T56 l0 x1_1).f3)⟩ : S56)]) := ⟨_, rfl⟩
            replace H : (norm_packed.l0 kj8 l0 (wrap64 (x1_1 + ((rd_T56 l0 x1_1).f3))) a2 y175 true) = some r := by first | (rw [hy175]; with_reducible exact H) | (have H2_ := (Option.bind_some _ _).symm.trans H; rw [hy175]; with_reducible exact H2_) | (have H2_ := (Option.bind_some _ _).symm.trans H; with_reducible exact H2_) | with_reducible exact H | (rw [hy175]; exact H) | exact H
            have Ny175 := Aside0.mk hy175
            clear hy175
            have H' := Aside0.mk H
            clear H
            have hcz29_0 : wc.cell? ⟨gb169, 0, none⟩ = some (.int .u8 ((rd_T56 l0 x1_1).f0)) := (blk_cell BK169.out 0).trans rfl
            have hcz29_1 : wc.cell? ⟨gb169, 1, none⟩ = some (.string ((rd_T56 l0 x1_1).f1)) := (blk_cell BK169.out 1).trans rfl
            have hcz29_2 : wc.cell? ⟨gb169, 2, none⟩ = some (.int .i64 ((rd_T56 l0 x1_1).f2)) := (blk_cell BK169.out 2).trans rfl
            have hcz29_3 : wc.cell? ⟨gb169, 3, none⟩ = some (.int .i64 ((rd_T56 l0 x1_1).f3)) := (blk_cell BK169.out 3).trans rfl
            have hfz29_0 := blk_frozen BK169.out 0
            have hfz29_1 := blk_frozen BK169.out 1
            have hfz29_2 := blk_frozen BK169.out 2
            have hfz29_3 := blk_frozen BK169.out 3
            go_wp2_with (first | ((with_reducible refine gate_builtin (b := .append) (xs := #[.tmp 67, .tmp 69]) rfl ?_); at_builtin; refine Kd.R_append k56 (w0 := w) w.heap.size rfl (.tmp 67) (.tmp 69) 50 56 (.agg #[(.int .u8 0), (.string ⟨#[]⟩), (.int .i64 0), (.int .i64 0)]) 40 rfl Try.underlying50 info56 rfl (by decide) (by omega) u7 x7_1 (⟨((rd_T56 l0 x1_1).f0), ((rd_T56 l0 x1_1).f1), ((rd_T56 l0 x1_1).f2), ((rd_T56 l0 x1_1).f3)⟩ : S56) [.int .u8 ((rd_T56 l0 x1_1).f0), .string ((rd_T56 l0 x1_1).f1), .int .i64 ((rd_T56 l0 x1_1).f2), .int .i64 ((rd_T56 l0 x1_1).f3)] (fun k_ => k_ ≠ gb169) (fun _ => False) rfl rfl ?aP (fun _ hk => hk.elim) ?aF ?aO ?aB ?aS ?aL ?_; (case aP => exact k56_mkM _ _ _ (⟨((rd_T56 l0 x1_1).f0), ((rd_T56 l0 x1_1).f1), ((rd_T56 l0 x1_1).f2), ((rd_T56 l0 x1_1).f3)⟩ : S56)); (case aB => exact (by repeat (first | (with_reducible first | exact HB.out | apply below_alloc | apply pw_below_drewN | apply below_drew1 | refine below_set ?_ GE169.out) | exact HB.out))); (case aF => exact (fun k_ hk => Kd.freshB (g := gb169) (o := .cells #[.int .u8 ((rd_T56 l0 x1_1).f0), .string ((rd_T56 l0 x1_1).f1), .int .i64 ((rd_T56 l0 x1_1).f2), .int .i64 ((rd_T56 l0 x1_1).f3)] 56 (0, 0)) (by (with_reducible repeat (first | refine blk_drewN ?_ _ | refine blk_drew ?_ | refine blk_alloc ?_ _)); exact BK169.out) k_ hk)); (case aO => exact (by (with_reducible repeat (first | apply Kd.R_alloc | apply Kd.R_drewN | apply Kd.R_drew)); exact HO_7.out)); (case aS => exact (below_size (by repeat (first | (with_reducible first | exact HB.out | apply below_alloc | apply pw_below_drewN | apply below_drew1 | refine below_set ?_ GE169.out) | exact HB.out)))); (case aL => have := LMc28.out; omega); intro v176 w30 ho hb hg hat; rw [← Ny175.out] at ho; have n0_ := Aside0.mk (blk_grown (g := gb169) (o := .cells #[.int .u8 ((rd_T56 l0 x1_1).f0), .string ((rd_T56 l0 x1_1).f1), .int .i64 ((rd_T56 l0 x1_1).f2), .int .i64 ((rd_T56 l0 x1_1).f3)] 56 (0, 0)) (by (with_reducible repeat (first | refine blk_drewN ?_ _ | refine blk_drew ?_ | refine blk_alloc ?_ _)); exact BK169.out) hg (Kd.R_away HO_7.out (fun _ hk => hk))); have n1_ := Aside0.mk (hb); have n2_ := Aside0.mk (ho); clear BK169; clear HB; clear HO_7; have BK169 := n0_; have HB := n1_; have HO177 := n2_; clear n0_ n1_ n2_; clear ho hb hg hat))
            go_roundg kj8
            case measure => have := HK1.out; have := HJ8.out; omega
            case rel => exact ⟨((wrap64 (x1_1 + ((rd_T56 l0 x1_1).f3)))), (y175), (true), (by first | rfl | (simp; done) | (simp [*]; done)), (by first | rfl | (simp; done) | (simp [*]; done)), H', ⟨by have := HK1.out; have := HJ8.out; omega⟩, ⟨by (with_reducible repeat (first | apply Kd.R_alloc | apply Kd.R_drewN | apply Kd.R_drew)); exact Kd.R_mono HO177.out (fun _ hk => trivial)⟩, ⟨by repeat (first | (with_reducible first | exact HB.out | apply below_alloc | apply pw_below_drewN | apply below_drew1 | refine below_set ?_ GE169.out) | exact HB.out)⟩⟩
           ·rw [if_neg c28] at H
            exact absurd H (by simp)
      ·rw [if_neg c8] at H
       have c8b0 : (((rd_T56 l0 x1_1).f0) == 46) = false := beq_eq_false_iff_ne.mpr c8
       have c8b1 : (((rd_T56 l0 x1_1).f0) != 46) = true := bne_iff_ne.mpr c8
       by_cases c31 : x7_1.length < 3518437208883
       ·rw [if_pos c31] at H
        have LMc31 := Aside0.mk c31
        clear c31
        obtain ⟨y178, hy178⟩ : ∃ y_ : List (S56), y_ = (x7_1 ++ [(⟨(rd_T56 l0 x1_1).f0, (rd_T56 l0 x1_1).f1, (rd_T56 l0 x1_1).f2, wrap64 ((t170.length : Int) + 1)⟩ : S56)]) := ⟨_, rfl⟩
        replace H : (if y178.length + t170.length < 3518437208883 then (norm_packed.l0 k1 l0 (wrap64 (x1_1 + ((rd_T56 l0 x1_1).f3))) a2 (y178 ++ t170) false) else (none)) = some r := by first | (rw [hy178]; with_reducible exact H) | (have H2_ := (Option.bind_some _ _).symm.trans H; rw [hy178]; with_reducible exact H2_) | (have H2_ := (Option.bind_some _ _).symm.trans H; with_reducible exact H2_) | with_reducible exact H | (rw [hy178]; exact H) | exact H
        have Ny178 := Aside0.mk hy178
        clear hy178
        by_cases c32 : y178.length + t170.length < 3518437208883
        ·rw [if_pos c32] at H
         have LMc32 := Aside0.mk c32
         clear c32
         obtain ⟨y181, hy181⟩ : ∃ y_ : List (S56), y_ = (y178 ++ t170) := ⟨_, rfl⟩
         replace H : (norm_packed.l0 k1 l0 (wrap64 (x1_1 + ((rd_T56 l0 x1_1).f3))) a2 y181 false) = some r := by first | (rw [hy181]; with_reducible exact H) | (have H2_ := (Option.bind_some _ _).symm.trans H; rw [hy181]; with_reducible exact H2_) | (have H2_ := (Option.bind_some _ _).symm.trans H; with_reducible exact H2_) | with_reducible exact H | (rw [hy181]; exact H) | exact H
         have Ny181 := Aside0.mk hy181
         clear hy181
         have H' := Aside0.mk H
         clear H
         have p168 : 0 ≤ (x1_1 : Int) := of_decide_eq_true (by first | (with_reducible assumption) | assumption)
         have q168 : x1_1 < (l0.length : Int) := of_decide_eq_true (by first | (with_reducible assumption) | assumption)
         obtain ⟨ad168, e168, hx168_0, hx168_1, hx168_2, hx168_3⟩ := at_T56 HR0.out x1_1 p168 q168
         cases e168
         replace hx168_0 := (HB.out.cell (World.block_lt_of_cell? w _ hx168_0)).trans hx168_0
         replace hx168_1 := (HB.out.cell (World.block_lt_of_cell? w _ hx168_1)).trans hx168_1
         replace hx168_2 := (HB.out.cell (World.block_lt_of_cell? w _ hx168_2)).trans hx168_2
         replace hx168_3 := (HB.out.cell (World.block_lt_of_cell? w _ hx168_3)).trans hx168_3
         replace p168 := eq_true p168
         replace q168 := eq_true q168
         go_wp2_with (first | ((with_reducible refine gate_dst (N := 9) rfl ?_); refine box_event ?hg (N := 9) ?hd (cs := #[.int .u8 0, .string (⟨#[]⟩ : ByteArray), .int .i64 0, .int .i64 0]) (t := 56) ?hr ?_; (case hd => rfl); (case hg => rfl); (case hr => first | (go_simp; done) | (go_simp; rfl)); intro gb169 hg w33 hbox hb; have n0_ := Aside0.mk (Kd.R_below (Kd.R_elderB (by (with_reducible repeat (first | apply Kd.R_alloc | apply Kd.R_drewN | apply Kd.R_drew)); exact HO_7.out) gb169 (Nat.le_of_eq hg.symm)) hb); have n1_ := Aside0.mk (below_step (by repeat (first | (with_reducible first | exact HB.out | apply below_alloc | apply pw_below_drewN | apply below_drew1) | exact HB.out)) hb); have n2_ := Aside0.mk (hbox); have n3_ := Aside0.mk ((by rw [hg]; exact (below_size (by repeat (first | (with_reducible first | exact HB.out | apply below_alloc | apply pw_below_drewN | apply below_drew1) | exact HB.out))) : w.heap.size ≤ gb169)); have n4_ := Aside0.mk ((by rw [hg]; exact (below_size (by repeat (first | (with_reducible first | exact HB.out | apply below_alloc | apply pw_below_drewN | apply below_drew1) | exact HB.out))) : w.heap.size ≤ gb169)); clear HO_7; clear HB; have HO_7 := n0_; have HB := n1_; have BK169 := n2_; have GW169 := n3_; have GE169 := n4_; clear n0_ n1_ n2_ n3_ n4_; clear hb hbox hg; have hcz34_0 : w33.cell? ⟨gb169, 0, none⟩ = some (.int .u8 0) := (blk_cell BK169.out 0).trans rfl; have hcz34_1 : w33.cell? ⟨gb169, 1, none⟩ = some (.string (⟨#[]⟩ : ByteArray)) := (blk_cell BK169.out 1).trans rfl; have hcz34_2 : w33.cell? ⟨gb169, 2, none⟩ = some (.int .i64 0) := (blk_cell BK169.out 2).trans rfl; have hcz34_3 : w33.cell? ⟨gb169, 3, none⟩ = some (.int .i64 0) := (blk_cell BK169.out 3).trans rfl; have hfz34_0 := blk_frozen BK169.out 0; have hfz34_1 := blk_frozen BK169.out 1; have hfz34_2 := blk_frozen BK169.out 2; have hfz34_3 := blk_frozen BK169.out 3) | ((with_reducible refine gate_callee (f := 110) rfl ?_); refine goesL_ (some 25) rfl rfl Try.func110 (by kernel_rfl) rfl #[.slice (some ad168) l0.length c0, .int .i64 (wrap64 (x1_1 + 1)), .int .i64 (wrap64 (x1_1 + ((rd_T56 l0 x1_1).f3)))] rfl (by (try simp only [List.map_toArray, List.map_cons, List.map_nil]); first | done | rfl | (simp only [List.length_drop, List.length_take]; rfl)) ?_; (with_reducible refine (ih k1 (by have := HK1.out; omega) _ _ l0 (wrap64 (x1_1 + 1)) (wrap64 (x1_1 + ((rd_T56 l0 x1_1).f3))) t170 _ ?side1 ?side2 A7.out).mono ?_); (case side1 => exact Kd.C_below HR0.out (by repeat (first | (with_reducible first | exact HB.out | apply below_alloc | apply pw_below_drewN | apply below_drew1 | refine below_set ?_ GE169.out) | exact HB.out))); (case side2 => exact HC0.out); rintro e w35 ⟨v171, rfl, ho0, hb⟩; refine ⟨_, rfl, ?_⟩; have n0_ := Aside0.mk (Kd.R_elder' (by (with_reducible repeat (first | apply Kd.R_alloc | apply Kd.R_drewN | apply Kd.R_drew)); exact (Kd.R_mono (Kd.R_far (p := ⟨gb169, 3, none⟩) (Kd.R_far (p := ⟨gb169, 2, none⟩) (Kd.R_far (p := ⟨gb169, 1, none⟩) (Kd.R_far (p := ⟨gb169, 0, none⟩) (Kd.R_mono HO_7.out (fun k_ hk => (⟨hk, hk.2⟩ : _ ∧ k_ ≠ gb169))) (fun _ hk => hk.2) (.int .u8 ((rd_T56 l0 x1_1).f0))) (fun _ hk => hk.2) (.string ((rd_T56 l0 x1_1).f1))) (fun _ hk => hk.2) (.int .i64 ((rd_T56 l0 x1_1).f2))) (fun _ hk => hk.2) (.int .i64 ((rd_T56 l0 x1_1).f3))) (fun _ h_ => h_.1))) (Kd.R_base ho0) hb); have n1_ := Aside0.mk (Kd.R_lower (Kd.R_newB (Kd.R_new' ho0 (Kd.R_lt (by (with_reducible repeat (first | apply Kd.R_alloc | apply Kd.R_drewN | apply Kd.R_drew)); exact (Kd.R_mono (Kd.R_far (p := ⟨gb169, 3, none⟩) (Kd.R_far (p := ⟨gb169, 2, none⟩) (Kd.R_far (p := ⟨gb169, 1, none⟩) (Kd.R_far (p := ⟨gb169, 0, none⟩) (Kd.R_mono HO_7.out (fun k_ hk => (⟨hk, hk.2⟩ : _ ∧ k_ ≠ gb169))) (fun _ hk => hk.2) (.int .u8 ((rd_T56 l0 x1_1).f0))) (fun _ hk => hk.2) (.string ((rd_T56 l0 x1_1).f1))) (fun _ hk => hk.2) (.int .i64 ((rd_T56 l0 x1_1).f2))) (fun _ hk => hk.2) (.int .i64 ((rd_T56 l0 x1_1).f3))) (fun _ h_ => h_.1))))) (g := gb169) (o := .cells #[.int .u8 ((rd_T56 l0 x1_1).f0), .string ((rd_T56 l0 x1_1).f1), .int .i64 ((rd_T56 l0 x1_1).f2), .int .i64 ((rd_T56 l0 x1_1).f3)] 56 (0, 0)) (by (with_reducible repeat (first | refine blk_drewN ?_ _ | refine blk_drew ?_ | refine blk_alloc ?_ _)); refine blk_put (cs := #[.int .u8 ((rd_T56 l0 x1_1).f0), .string ((rd_T56 l0 x1_1).f1), .int .i64 ((rd_T56 l0 x1_1).f2), .int .i64 0]) ?_ 3 _ rfl; (with_reducible repeat (first | refine blk_drewN ?_ _ | refine blk_drew ?_ | refine blk_alloc ?_ _)); refine blk_put (cs := #[.int .u8 ((rd_T56 l0 x1_1).f0), .string ((rd_T56 l0 x1_1).f1), .int .i64 0, .int .i64 0]) ?_ 2 _ rfl; (with_reducible repeat (first | refine blk_drewN ?_ _ | refine blk_drew ?_ | refine blk_alloc ?_ _)); refine blk_put (cs := #[.int .u8 ((rd_T56 l0 x1_1).f0), .string (⟨#[]⟩ : ByteArray), .int .i64 0, .int .i64 0]) ?_ 1 _ rfl; (with_reducible repeat (first | refine blk_drewN ?_ _ | refine blk_drew ?_ | refine blk_alloc ?_ _)); refine blk_put (cs := #[.int .u8 0, .string (⟨#[]⟩ : ByteArray), .int .i64 0, .int .i64 0]) ?_ 0 _ rfl; (with_reducible repeat (first | refine blk_drewN ?_ _ | refine blk_drew ?_ | refine blk_alloc ?_ _)); exact BK169.out)) (below_size (by repeat (first | (with_reducible first | exact HB.out | apply below_alloc | apply pw_below_drewN | apply below_drew1 | refine below_set ?_ GE169.out) | exact HB.out)))); have n2_ := Aside0.mk (blk_below (g := gb169) (o := .cells #[.int .u8 ((rd_T56 l0 x1_1).f0), .string ((rd_T56 l0 x1_1).f1), .int .i64 ((rd_T56 l0 x1_1).f2), .int .i64 ((rd_T56 l0 x1_1).f3)] 56 (0, 0)) (by (with_reducible repeat (first | refine blk_drewN ?_ _ | refine blk_drew ?_ | refine blk_alloc ?_ _)); refine blk_put (cs := #[.int .u8 ((rd_T56 l0 x1_1).f0), .string ((rd_T56 l0 x1_1).f1), .int .i64 ((rd_T56 l0 x1_1).f2), .int .i64 0]) ?_ 3 _ rfl; (with_reducible repeat (first | refine blk_drewN ?_ _ | refine blk_drew ?_ | refine blk_alloc ?_ _)); refine blk_put (cs := #[.int .u8 ((rd_T56 l0 x1_1).f0), .string ((rd_T56 l0 x1_1).f1), .int .i64 0, .int .i64 0]) ?_ 2 _ rfl; (with_reducible repeat (first | refine blk_drewN ?_ _ | refine blk_drew ?_ | refine blk_alloc ?_ _)); refine blk_put (cs := #[.int .u8 ((rd_T56 l0 x1_1).f0), .string (⟨#[]⟩ : ByteArray), .int .i64 0, .int .i64 0]) ?_ 1 _ rfl; (with_reducible repeat (first | refine blk_drewN ?_ _ | refine blk_drew ?_ | refine blk_alloc ?_ _)); refine blk_put (cs := #[.int .u8 0, .string (⟨#[]⟩ : ByteArray), .int .i64 0, .int .i64 0]) ?_ 0 _ rfl; (with_reducible repeat (first | refine blk_drewN ?_ _ | refine blk_drew ?_ | refine blk_alloc ?_ _)); exact BK169.out) hb); have n3_ := Aside0.mk (below_step (by repeat (first | (with_reducible first | exact HB.out | apply below_alloc | apply pw_below_drewN | apply below_drew1 | refine below_set ?_ GE169.out) | exact HB.out)) hb); clear HO_7; clear BK169; clear HB; have HO_7 := n0_; have HO172 := n1_; have BK169 := n2_; have HB := n3_; clear n0_ n1_ n2_ n3_; (try clear hb); (try clear hb2); (try clear hk); (try clear hi); (try clear ho0); have hcz36_0 : w35.cell? ⟨gb169, 0, none⟩ = some (.int .u8 ((rd_T56 l0 x1_1).f0)) := (blk_cell BK169.out 0).trans rfl; have hcz36_1 : w35.cell? ⟨gb169, 1, none⟩ = some (.string ((rd_T56 l0 x1_1).f1)) := (blk_cell BK169.out 1).trans rfl; have hcz36_2 : w35.cell? ⟨gb169, 2, none⟩ = some (.int .i64 ((rd_T56 l0 x1_1).f2)) := (blk_cell BK169.out 2).trans rfl; have hcz36_3 : w35.cell? ⟨gb169, 3, none⟩ = some (.int .i64 ((rd_T56 l0 x1_1).f3)) := (blk_cell BK169.out 3).trans rfl; have hfz36_0 := blk_frozen BK169.out 0; have hfz36_1 := blk_frozen BK169.out 1; have hfz36_2 := blk_frozen BK169.out 2; have hfz36_3 := blk_frozen BK169.out 3; obtain ⟨Ao37, co37, eo37⟩ := Kd.R_slice HO172.out; subst eo37) | ((with_reducible refine gate_builtin (b := .append) (xs := #[.tmp 38, .tmp 40]) rfl ?_); at_builtin; refine Kd.R_append k56 (w0 := w) w.heap.size rfl (.tmp 38) (.tmp 40) 50 56 (.agg #[(.int .u8 0), (.string ⟨#[]⟩), (.int .i64 0), (.int .i64 0)]) 40 rfl Try.underlying50 info56 rfl (by decide) (by omega) u7 x7_1 (⟨(rd_T56 l0 x1_1).f0, (rd_T56 l0 x1_1).f1, (rd_T56 l0 x1_1).f2, wrap64 ((t170.length : Int) + 1)⟩ : S56) [.int .u8 ((rd_T56 l0 x1_1).f0), .string ((rd_T56 l0 x1_1).f1), .int .i64 ((rd_T56 l0 x1_1).f2), .int .i64 (wrap64 ((t170.length : Int) + 1))] (fun k_ => some k_ ≠ (.slice Ao37 t170.length co37 : Value).ownBlock ∧ k_ ≠ gb169) (fun _ => False) rfl (by first | (go_simp; done) | (go_simp; rfl)) ?aP (fun _ hk => hk.elim) ?aF ?aO ?aB ?aS ?aL ?_; (case aP => exact k56_mkM _ _ _ (⟨(rd_T56 l0 x1_1).f0, (rd_T56 l0 x1_1).f1, (rd_T56 l0 x1_1).f2, wrap64 ((t170.length : Int) + 1)⟩ : S56)); (case aB => exact (by repeat (first | (with_reducible first | exact HB.out | apply below_alloc | apply pw_below_drewN | apply below_drew1 | refine below_set ?_ GE169.out) | exact HB.out))); (case aF => exact (fun k_ hk => ⟨Kd.fresh' (Kd.R_lt (by (with_reducible repeat (first | apply Kd.R_alloc | apply Kd.R_drewN | apply Kd.R_drew)); exact (Kd.R_mono (Kd.R_far (p := ⟨gb169, 3, none⟩) (Kd.R_mono HO172.out (fun k_ hk => (⟨hk, hk.2⟩ : _ ∧ k_ ≠ gb169))) (fun _ hk => hk.2) (.int .i64 (wrap64 ((t170.length : Int) + 1)))) (fun _ h_ => h_.1)))) k_ hk, Kd.freshB (g := gb169) (o := .cells #[.int .u8 ((rd_T56 l0 x1_1).f0), .string ((rd_T56 l0 x1_1).f1), .int .i64 ((rd_T56 l0 x1_1).f2), .int .i64 (wrap64 ((t170.length : Int) + 1))] 56 (0, 0)) (by (with_reducible repeat (first | refine blk_drewN ?_ _ | refine blk_drew ?_ | refine blk_alloc ?_ _)); refine blk_put (cs := #[.int .u8 ((rd_T56 l0 x1_1).f0), .string ((rd_T56 l0 x1_1).f1), .int .i64 ((rd_T56 l0 x1_1).f2), .int .i64 ((rd_T56 l0 x1_1).f3)]) ?_ 3 _ rfl; (with_reducible repeat (first | refine blk_drewN ?_ _ | refine blk_drew ?_ | refine blk_alloc ?_ _)); exact BK169.out) k_ hk⟩)); (case aO => exact (by (with_reducible repeat (first | apply Kd.R_alloc | apply Kd.R_drewN | apply Kd.R_drew)); exact Kd.R_mono (Kd.R_far (p := ⟨gb169, 3, none⟩) (Kd.R_mono HO_7.out (fun k_ hk => (⟨hk, hk.1.2⟩ : _ ∧ k_ ≠ gb169))) (fun _ hk => hk.2) (.int .i64 (wrap64 ((t170.length : Int) + 1)))) (fun _ hk => ⟨hk.1.2, hk.1.1.2⟩))); (case aS => exact (below_size (by repeat (first | (with_reducible first | exact HB.out | apply below_alloc | apply pw_below_drewN | apply below_drew1 | refine below_set ?_ GE169.out) | exact HB.out)))); (case aL => have := LMc31.out; omega); intro v179 w38 ho hb hg hat; rw [← Ny178.out] at ho; have n0_ := Aside0.mk (blk_grown (g := gb169) (o := .cells #[.int .u8 ((rd_T56 l0 x1_1).f0), .string ((rd_T56 l0 x1_1).f1), .int .i64 ((rd_T56 l0 x1_1).f2), .int .i64 (wrap64 ((t170.length : Int) + 1))] 56 (0, 0)) (by (with_reducible repeat (first | refine blk_drewN ?_ _ | refine blk_drew ?_ | refine blk_alloc ?_ _)); refine blk_put (cs := #[.int .u8 ((rd_T56 l0 x1_1).f0), .string ((rd_T56 l0 x1_1).f1), .int .i64 ((rd_T56 l0 x1_1).f2), .int .i64 ((rd_T56 l0 x1_1).f3)]) ?_ 3 _ rfl; (with_reducible repeat (first | refine blk_drewN ?_ _ | refine blk_drew ?_ | refine blk_alloc ?_ _)); exact BK169.out) hg (Kd.R_away HO_7.out (fun _ hk => hk.1.2))); have n1_ := Aside0.mk (Kd.R_after (ok := (fun k_ => k_ ≠ gb169)) (by (with_reducible repeat (first | apply Kd.R_alloc | apply Kd.R_drewN | apply Kd.R_drew)); exact Kd.R_mono (Kd.R_far (p := ⟨gb169, 3, none⟩) (Kd.R_mono HO172.out (fun k_ hk => (⟨hk, hk.2⟩ : _ ∧ k_ ≠ gb169))) (fun _ hk => hk.2) (.int .i64 (wrap64 ((t170.length : Int) + 1)))) (fun _ hk => ⟨hk.1.2, hk.1.1.2⟩)) hg hat); have n2_ := Aside0.mk (hb); have n3_ := Aside0.mk (ho); clear BK169; clear HO172; clear HB; clear HO_7; have BK169 := n0_; have HO172 := n1_; have HB := n2_; have HO180 := n3_; clear n0_ n1_ n2_ n3_; clear ho hb hg hat) | ((with_reducible refine gate_builtin (b := .append) (xs := #[.tmp 41, .tmp 42]) rfl ?_); at_builtin; refine Kd.R_append_rows k56 (w0 := w) w.heap.size rfl (.tmp 41) (.tmp 42) 50 56 (.agg #[(.int .u8 0), (.string ⟨#[]⟩), (.int .i64 0), (.int .i64 0)]) 40 rfl Try.underlying50 info56 rfl (by decide) (by omega) v179 y178 t170 _ _ _ (fun k_ => some k_ ≠ (.slice Ao37 t170.length co37 : Value).ownBlock ∧ k_ ≠ gb169) (fun _ => False) rfl rfl ?aO ?aR (fun _ _ h => h) (fun _ h => h.elim) ?aF ?aB ?aS ?aL ?_; (case aR => repeat (first | exact (Kd.R_reads' HO172.out).2.2 | (with_reducible refine Kd.C_alloc ?_ _) | (with_reducible refine Kd.C_drewN ?_ _) | (with_reducible refine Kd.C_drew ?_))); (case aB => exact (by repeat (first | (with_reducible first | exact HB.out | apply below_alloc | apply pw_below_drewN | apply below_drew1 | refine below_set ?_ GE169.out) | exact HB.out))); (case aF => exact (fun k_ hk => ⟨Kd.fresh' (Kd.R_lt (by (with_reducible repeat (first | apply Kd.R_alloc | apply Kd.R_drewN | apply Kd.R_drew)); exact HO172.out)) k_ hk, Kd.freshB (g := gb169) (o := .cells #[.int .u8 ((rd_T56 l0 x1_1).f0), .string ((rd_T56 l0 x1_1).f1), .int .i64 ((rd_T56 l0 x1_1).f2), .int .i64 (wrap64 ((t170.length : Int) + 1))] 56 (0, 0)) (by (with_reducible repeat (first | refine blk_drewN ?_ _ | refine blk_drew ?_ | refine blk_alloc ?_ _)); exact BK169.out) k_ hk⟩)); (case aO => exact (by (with_reducible repeat (first | apply Kd.R_alloc | apply Kd.R_drewN | apply Kd.R_drew)); exact HO180.out)); (case aS => exact (below_size (by repeat (first | (with_reducible first | exact HB.out | apply below_alloc | apply pw_below_drewN | apply below_drew1 | refine below_set ?_ GE169.out) | exact HB.out)))); (case aL => have := LMc32.out; omega); intro v182 w39 ho hb hg hat; rw [← Ny181.out] at ho; have n0_ := Aside0.mk (blk_grown (g := gb169) (o := .cells #[.int .u8 ((rd_T56 l0 x1_1).f0), .string ((rd_T56 l0 x1_1).f1), .int .i64 ((rd_T56 l0 x1_1).f2), .int .i64 (wrap64 ((t170.length : Int) + 1))] 56 (0, 0)) (by (with_reducible repeat (first | refine blk_drewN ?_ _ | refine blk_drew ?_ | refine blk_alloc ?_ _)); exact BK169.out) hg (Kd.R_away HO180.out (fun _ hk => hk.2))); have n1_ := Aside0.mk (Kd.R_after (ok := (fun k_ => k_ ≠ gb169)) (by (with_reducible repeat (first | apply Kd.R_alloc | apply Kd.R_drewN | apply Kd.R_drew)); exact HO172.out) hg hat); have n2_ := Aside0.mk (hb); have n3_ := Aside0.mk (ho); clear BK169; clear HO172; clear HB; clear HO180; have BK169 := n0_; have HO172 := n1_; have HB := n2_; have HO183 := n3_; clear n0_ n1_ n2_ n3_; clear ho hb hg hat))
         go_roundg k1
         case measure => have := HK1.out; omega
         case rel => exact ⟨(wrap64 (x1_1 + ((rd_T56 l0 x1_1).f3))), (y181), (false), (by first | rfl | (simp; done) | (simp [*]; done)), (by first | rfl | (simp; done) | (simp [*]; done)), H', ⟨by have := HK1.out; omega⟩, ⟨by (with_reducible repeat (first | apply Kd.R_alloc | apply Kd.R_drewN | apply Kd.R_drew)); exact Kd.R_mono HO183.out (fun _ hk => trivial)⟩, ⟨by repeat (first | (with_reducible first | exact HB.out | apply below_alloc | apply pw_below_drewN | apply below_drew1 | refine below_set ?_ GE169.out) | exact HB.out)⟩⟩
        ·rw [if_neg c32] at H
         exact absurd H (by simp)
       ·rw [if_neg c31] at H
        exact absurd H (by simp)
     ·rw [if_neg c6] at H
      exact absurd H (by simp)
    ·rw [if_neg c5] at H
     exact absurd H (by simp)
   ·rw [if_neg c4] at H
    have c4b0 : decide (x1_1 < a2) = false := decide_eq_false c4
    clear c4
    obtain rfl := Option.some.inj H
    go_wp2
    go_ret
    exact ⟨_, by first | rfl | (simp [errW_none, errW_some] <;> rfl) | (simp [*, errW_none, errW_some] <;> rfl), by (with_reducible repeat (first | apply Kd.R_alloc | apply Kd.R_drewN | apply Kd.R_drew)); exact HO_7.out, by repeat (first | (with_reducible first | exact HB.out | apply below_alloc | apply pw_below_drewN | apply below_drew1) | exact HB.out)⟩
end Go.Proofs.Ythcmfjpheanphaa.Pr
namespace Go.Proofs.Ythcmfjpheanphaa.Pr
open Go.RowKit Go.Proofs.YthcmfjpheanphaaW.PrintWords
theorem bytes_empty (b : ByteArray) : b.toList = ([] : List UInt8) ↔ b.size = 0 := by
 rw [← List.isEmpty_iff, empty_size]
 simp
theorem cn_congr (t : List S56) {L M : List PT} (h : L.map (·.1) = M.map (·.1)) (q : Nat) : cn t L q = cn t M q := by
 have e : ∀ L : List PT, cn t L q = (L.map (·.1)).countP fun x => decide (q ≤ x) && decide (x < q + sz t q) := fun L => by
  unfold cn
  rw [List.countP_map]
  rfl
 rw [e, e, h]
theorem nodes_set (t : List S56) (D E : List PT) (p : PT) (s : ByteArray) : (nodes t (D ++ [p] ++ E)).set ((D ++ [p]).length - 1) ⟨(nd t (D ++ [p] ++ E) p).f0, s, (nd t (D ++ [p] ++ E) p).f2, (nd t (D ++ [p] ++ E) p).f3⟩ = nodes t (D ++ [(p.1, s)] ++ E) := by
 have h : ∀ q, cn t (D ++ [p] ++ E) q = cn t (D ++ [(p.1, s)] ++ E) q := fun q => cn_congr t (by simp) q
 have h2 : ∀ q, nd t (D ++ [p] ++ E) q = nd t (D ++ [(p.1, s)] ++ E) q := fun q => by unfold nd; rw [h]
 unfold nodes
 rw [show nd t (D ++ [p] ++ E) = nd t (D ++ [(p.1, s)] ++ E) from funext h2]
 simp only [List.map_append, List.map_cons, List.map_nil, List.length_append, List.length_cons, List.length_nil, Nat.add_sub_cancel, List.append_assoc]
 rw [List.set_append_right _ _ (by simp)]
 simp [nd]
def joinsB (t : List S56) (P : List PT) (s : Nat) : Bool := match P.getLast? with | some p => isT t p.1 && decide (par t p.1 = (s : Int) - 1) | none => false
theorem pk_end (k : Nat) (x0 : List S56) (x1 x2 : Int) (x7 : List S56) (x8 : Bool) (h : ¬ x1 < x2) : norm_packed.l0 (k + 1) x0 x1 x2 x7 x8 = some x7 := by
 rw [norm_packed.l0, if_neg h]
theorem pk_node (k : Nat) (t : List S56) (a1 x2 : Int) (a b b1 : Nat) (L I : List S56) (j : Bool) (ha : a1 = a) (hlt : a1 < x2) (hal : a < t.length) (hb : wrap64 (a1 + (rd_T56 t a1).f3) = b) (hb1 : wrap64 (a1 + 1) = b1)
  (hin : norm_packed.f k t b1 b = some I) (h46 : ¬ (rd_T56 t a1).f0 = 46) (hs : ∀ _ : Unit, L.length < 3518437208883) (hs2 : ∀ (_ : Unit) (x : S56), (L ++ [x]).length + I.length < 3518437208883) (hw : wrap64 ((I.length : Int) + 1) = (I.length : Int) + 1) :
  norm_packed.l0 (k + 1) t a1 x2 L j = norm_packed.l0 k t b x2 (L ++ [⟨(rd_T56 t a1).f0, (rd_T56 t a1).f1, (rd_T56 t a1).f2, (I.length : Int) + 1⟩] ++ I) false := by
 rw [norm_packed.l0]
 refine (if_pos hlt).trans ?_
 refine (if_pos (by rw [ha]; exact Int.natCast_nonneg a)).trans ?_
 refine (if_pos (by rw [ha]; exact Int.ofNat_lt.2 hal)).trans ?_
 rw [hb, hb1, hin]
 refine (Option.bind_some _ _).trans ?_
 refine (if_neg h46).trans ?_
 refine (if_pos (hs ())).trans ?_
 refine (Option.bind_some _ _).trans ?_
 rw [hw]
 exact if_pos (hs2 () _)
theorem pk_text (k : Nat) (t : List S56) (a1 x2 : Int) (a b b1 : Nat) (L I : List S56) (j : Bool) (ha : a1 = a) (hlt : a1 < x2) (hal : a < t.length) (hb : wrap64 (a1 + (rd_T56 t a1).f3) = b) (hb1 : wrap64 (a1 + 1) = b1)
  (hin : norm_packed.f k t b1 b = some I) (h46 : (rd_T56 t a1).f0 = 46) (hne : ¬ (rd_T56 t a1).f1.toList = ([] : List UInt8)) :
  norm_packed.l0 (k + 1) t a1 x2 L j = norm_packed.j1 k t b x2 L j j (rd_T56 t a1).f0 (rd_T56 t a1).f1 (rd_T56 t a1).f2 (rd_T56 t a1).f3 := by
 rw [norm_packed.l0]
 refine (if_pos hlt).trans ?_
 refine (if_pos (by rw [ha]; exact Int.natCast_nonneg a)).trans ?_
 refine (if_pos (by rw [ha]; exact Int.ofNat_lt.2 hal)).trans ?_
 rw [hb, hb1, hin]
 refine (Option.bind_some _ _).trans ?_
 refine (if_pos h46).trans ?_
 exact if_neg hne
theorem pk_empty (k : Nat) (t : List S56) (a1 x2 : Int) (a b b1 : Nat) (L I : List S56) (j : Bool) (ha : a1 = a) (hlt : a1 < x2) (hal : a < t.length) (hb : wrap64 (a1 + (rd_T56 t a1).f3) = b) (hb1 : wrap64 (a1 + 1) = b1)
  (hin : norm_packed.f (k + 1) t b1 b = some I) (h46 : (rd_T56 t a1).f0 = 46) (hne : (rd_T56 t a1).f1.toList = ([] : List UInt8)) :
  norm_packed.l0 (k + 2) t a1 x2 L j = norm_packed.l0 k t b x2 L j := by
 rw [norm_packed.l0]
 refine (if_pos hlt).trans ?_
 refine (if_pos (by rw [ha]; exact Int.natCast_nonneg a)).trans ?_
 refine (if_pos (by rw [ha]; exact Int.ofNat_lt.2 hal)).trans ?_
 rw [hb, hb1, hin]
 refine (Option.bind_some _ _).trans ?_
 refine (if_pos h46).trans ?_
 refine (if_pos hne).trans ?_
 rw [norm_packed.j1]
 refine (if_neg (by decide)).trans ?_
 exact if_pos hne
theorem pk_first (k : Nat) (t : List S56) (b : Nat) (x2 : Int) (L : List S56) (c p z : Int) (s : ByteArray) (hne : ¬ s.toList = ([] : List UInt8)) (hs : ∀ _ : Unit, L.length < 3518437208883) :
  norm_packed.j1 (k + 1) t b x2 L false false c s p z = norm_packed.l0 k t b x2 (L ++ [⟨c, s, p, z⟩]) true := by
 rw [norm_packed.j1]
 refine (if_neg (by decide)).trans ?_
 refine (if_neg hne).trans ?_
 exact if_pos (hs ())
theorem pk_join (k : Nat) (t : List S56) (b m : Nat) (x2 : Int) (L : List S56) (c p z : Int) (s : ByteArray) (y : S56) (hw : wrap64 ((L.length : Int) - 1) = m) (hm : m < L.length) (hy : rd_T56 L (m : Int) = y) (hs : ∀ _ : Unit, y.f1.size + s.size ≤ 9223372036854775807) :
  norm_packed.j1 (k + 1) t b x2 L true true c s p z = norm_packed.l0 k t b x2 (L.set m ⟨y.f0, y.f1 ++ s, y.f2, y.f3⟩) true := by
 rw [norm_packed.j1]
 refine (if_pos rfl).trans ?_
 rw [hw, hy]
 refine (if_pos (Int.natCast_nonneg m)).trans ?_
 refine (if_pos (Int.ofNat_lt.2 hm)).trans ?_
 exact if_pos (hs ())
theorem joins_true {t : List S56} {P : List PT} {p : PT} {s : Nat} (hg : P.getLast? = some p) (h1 : isT t p.1 = true) (h2 : par t p.1 = (s : Int) - 1) : joinsB t P s = true := by unfold joinsB; rw [hg]; simp [h1, h2]
theorem last_eq {P : List PT} {p : PT} (hg : P.getLast? = some p) : P = P.dropLast ++ [p] := by
 have hne : P ≠ [] := fun h => by rw [h] at hg; cases hg
 have := List.dropLast_concat_getLast hne
 rw [List.getLast?_eq_some_getLast hne] at hg
 rw [Option.some.inj hg] at this
 exact this.symm
theorem nodes_last (t : List S56) (P : List PT) (p : PT) (hg : P.getLast? = some p) : rd_T56 (nodes t P) ((P.length - 1 : Nat) : Int) = nd t P p := by
 unfold rd_T56 nodes
 rw [Int.toNat_natCast, List.getD_eq_getElem?_getD, List.getElem?_map, ← List.getLast?_eq_getElem?, hg]
 rfl
theorem packed_go (t : List S56) (hN : Nst t) (hl : t.length ≤ 400000) (hM : ∀ i, i < t.length → (rd_T56 t i).f1.size ≤ 1000000) :
  ∀ (n a e s : Nat) (P : List PT) (k : Nat), e - a ≤ n → Lvl t s e a → a ≤ e → (∀ p ∈ P, s ≤ p.1 ∧ p.1 < a ∧ p.1 + sz t p.1 ≤ a) → P.length ≤ a → (∀ p ∈ P, p.2.size ≤ 1000000 * a) → 4 * n + 4 ≤ k →
   norm_packed.l0 k t a e (nodes t P) (joinsB t P s) = some (nodes t ((live t a (e - a)).foldl (push t) P))
 | 0, a, e, s, P, k, hn, hL, hae, hP, hpl, hps, hk => by
  obtain ⟨k, rfl⟩ : ∃ j, k = j + 1 := ⟨k - 1, by omega⟩
  obtain rfl : a = e := by omega
  rw [pk_end _ _ _ _ _ _ (by omega), Nat.sub_self]
  rfl
 | n + 1, a, e, s, P, k, hn, hL, hae, hP, hpl, hps, hk => by
  obtain ⟨k, rfl⟩ : ∃ j, k = j + 3 := ⟨k - 3, by omega⟩
  by_cases hlt : a < e
  ·have hlim := hL.lim
   have hfit := hL.fits hN hlt
   have hpos := hN.pos a (by omega)
   have hsz : (rd_T56 t a).f3 = (sz t a : Int) := by unfold sz; omega
   have hsz1 : 1 ≤ sz t a := by omega
   have hI : ∀ p ∈ pk t (a + 1) (a + sz t a), a < p.1 ∧ p.1 < a + sz t a := fun p hp => by have := pk_mem (by omega) hp; omega
   have hIl : (pk t (a + 1) (a + sz t a)).length ≤ sz t a - 1 := by
    have h1 := fold_len t (live t (a + 1) (a + sz t a - (a + 1))) []
    have h2 := live_len t (a + 1) (a + sz t a - (a + 1))
    unfold pk
    simp only [List.length_nil] at h1
    omega
   have w1 : ∀ _ : Unit, wrap64 ((a : Int) + 1) = ((a + 1 : Nat) : Int) := fun _ => by rw [show (a : Int) + 1 = ((a + 1 : Nat) : Int) from by omega]; exact wrap_nat (by omega)
   have w2 : ∀ _ : Unit, wrap64 ((a : Int) + (rd_T56 t a).f3) = ((a + sz t a : Nat) : Int) := fun _ => by rw [hsz, show (a : Int) + (sz t a : Int) = ((a + sz t a : Nat) : Int) from by omega]; exact wrap_nat (by omega)
   have hin := packed_go t hN hl hM n (a + 1) (a + sz t a) (a + 1) [] (k + 1) (by omega) (hL.inner hN hlt) (by omega) (by simp) (by simp) (by simp) (by omega)
   have hin2 : norm_packed.f (k + 2) t ((a + 1 : Nat) : Int) ((a + sz t a : Nat) : Int) = some (nodes t (pk t (a + 1) (a + sz t a))) := by
    rw [norm_packed.f]
    exact hin
   clear hin
   have hA : (P ++ [(a, (rd_T56 t a).f1)] ++ pk t (a + 1) (a + sz t a)).length ≤ a + sz t a := by
    rw [List.length_append, List.length_append, List.length_singleton]
    omega
   have hA1 : ∀ _ : Unit, (nodes t P).length < 3518437208883 := fun _ => by
    rw [nodes_len]
    exact Nat.lt_of_le_of_lt (Nat.le_trans hpl (show a ≤ 400000 by omega)) (by decide)
   have hpar := hL.par hN hlt
   have hlive : live t a (e - a) = (if liveB t a = true then [(a, (rd_T56 t a).f1)] else []) ++ live t (a + 1) (e - (a + 1)) := by
    rw [show e - a = (e - (a + 1)) + 1 from by omega]
    exact live_succ t a _
   by_cases h46 : (rd_T56 t a).f0 = 46
   ·have hT : isT t a = true := by unfold isT; rw [h46]; rfl
    have hs1 : sz t a = 1 := by have := hN.txt a (by omega) hT; omega
    have hnx := hL.next hN hlt
    rw [hs1] at hnx w2 hin2
    have hP1 : ∀ p ∈ P, s ≤ p.1 ∧ p.1 < a + 1 ∧ p.1 + sz t p.1 ≤ a + 1 := fun p hp => by have := hP p hp; omega
    by_cases hem : (rd_T56 t a).f1.size = 0
    ·have hlv : liveB t a = false := by unfold liveB; simp [hT, hem]
     rw [pk_empty (k + 1) t a e a (a + 1) (a + 1) (nodes t P) _ _ rfl (by omega) (by omega) (w2 ()) (w1 ()) hin2 h46 ((bytes_empty _).2 hem), hlive, hlv, if_neg (by decide), List.nil_append]
     exact packed_go t hN hl hM n (a + 1) e s P (k + 1) (by omega) hnx (by omega) hP1 (by omega) (fun p hp => by have := hps p hp; omega) (by omega)
    ·have hlv : liveB t a = true := by unfold liveB; simp [hem]
     have hMa := hM a (by omega)
     have hne : ¬ (rd_T56 t a).f1.toList = ([] : List UInt8) := fun h => hem ((bytes_empty _).1 h)
     rw [pk_text (k + 2) t a e a (a + 1) (a + 1) (nodes t P) _ _ rfl (by omega) (by omega) (w2 ()) (w1 ()) hin2 h46 hne, hlive, hlv, if_pos rfl, List.foldl_append, List.foldl_cons, List.foldl_nil]
     have hend : ∀ P' : List PT, push t P (a, (rd_T56 t a).f1) = P' → joinsB t P' s = true → (∀ p ∈ P', s ≤ p.1 ∧ p.1 < a + 1 ∧ p.1 + sz t p.1 ≤ a + 1) → P'.length ≤ a + 1 → (∀ p ∈ P', p.2.size ≤ 1000000 * (a + 1)) →
       norm_packed.l0 (k + 1) t ((a + 1 : Nat) : Int) e (nodes t P') true = some (nodes t ((live t (a + 1) (e - (a + 1))).foldl (push t) (push t P (a, (rd_T56 t a).f1)))) := fun P' h1 h2 h3 h4 h5 => by
      rw [h1, ← h2]
      exact packed_go t hN hl hM n (a + 1) e s P' (k + 1) (by omega) hnx (by omega) h3 h4 h5 (by omega)
     clear hlive hin2
     have hsing : ∀ p ∈ P ++ [(a, (rd_T56 t a).f1)], s ≤ p.1 ∧ p.1 < a + 1 ∧ p.1 + sz t p.1 ≤ a + 1 := fun p hp => by
      rcases List.mem_append.1 hp with h | h
      ·exact hP1 p h
      ·obtain rfl := List.mem_singleton.1 h
       exact ⟨hL.le, by show a < _; omega, by show a + sz t a ≤ _; omega⟩
     have hsing2 : ∀ p ∈ P ++ [(a, (rd_T56 t a).f1)], p.2.size ≤ 1000000 * (a + 1) := fun p hp => by
      rcases List.mem_append.1 hp with h | h
      ·have := hps p h; omega
      ·obtain rfl := List.mem_singleton.1 h
       show (rd_T56 t a).f1.size ≤ _
       omega
     have hnd : nodes t P ++ [(⟨(rd_T56 t a).f0, (rd_T56 t a).f1, (rd_T56 t a).f2, (rd_T56 t a).f3⟩ : S56)] = nodes t (P ++ [(a, (rd_T56 t a).f1)]) := by
      have := nodes_split t P [] a (rd_T56 t a).f1 hsz1 (fun p hp => (hP p hp).2) (by simp)
      rw [hsz, hs1]
      simpa [nodes] using this.symm
     have hj2 : joinsB t (P ++ [(a, (rd_T56 t a).f1)]) s = true := joins_true (p := (a, (rd_T56 t a).f1)) (by rw [last_app _ (by simp)]; rfl) hT hpar
     by_cases hjb : joinsB t P s = true
     ·rw [hjb]
      obtain ⟨p, hg⟩ : ∃ p, P.getLast? = some p := by
       cases hg : P.getLast? with
       | none => unfold joinsB at hjb; rw [hg] at hjb; cases hjb
       | some p => exact ⟨p, rfl⟩
      have hj : isT t p.1 = true ∧ par t p.1 = (s : Int) - 1 := by
       unfold joinsB at hjb
       rw [hg] at hjb
       simpa using hjb
      have hpm := List.mem_of_getLast? hg
      have hPd := last_eq hg
      have hlen : 1 ≤ P.length := by rw [hPd]; simp
      have hw : ∀ _ : Unit, wrap64 (((nodes t P).length : Int) - 1) = ((P.length - 1 : Nat) : Int) := fun _ => by
       rw [nodes_len, show (P.length : Int) - 1 = ((P.length - 1 : Nat) : Int) from by omega]
       exact wrap_nat (by omega)
      have hpsz := hps p hpm
      rw [pk_join (k + 1) t (a + 1) (P.length - 1) e (nodes t P) _ _ _ (rd_T56 t a).f1 (nd t P p) (hw ()) (by rw [nodes_len]; omega) (nodes_last t P p hg) (fun _ => by
       show p.2.size + _ ≤ _
       refine Nat.le_trans (Nat.add_le_add hpsz hMa) ?_
       refine Nat.le_trans (m := 400001000000) (by omega) (by decide))]
      have hset : (nodes t P).set (P.length - 1) ⟨(nd t P p).f0, (nd t P p).f1 ++ (rd_T56 t a).f1, (nd t P p).f2, (nd t P p).f3⟩ = nodes t (P.dropLast ++ [(p.1, p.2 ++ (rd_T56 t a).f1)]) := by
       clear hend hsing hsing2 hnd hj2 hw hpsz hA hA1 hps hP hP1
       generalize P.dropLast = D at hPd ⊢
       subst hPd
       have := nodes_set t D [] p (p.2 ++ (rd_T56 t a).f1)
       rw [List.append_nil, List.append_nil] at this
       exact this
      rw [hset]
      refine hend _ ?_ (joins_true (p := (p.1, p.2 ++ (rd_T56 t a).f1)) (by rw [last_app _ (by simp)]; rfl) hj.1 hj.2) (fun q hq => ?_) (by rw [List.length_append, List.length_dropLast, List.length_singleton]; omega) (fun q hq => ?_)
      ·unfold push
       rw [hg]
       simp only
       rw [if_pos ⟨hj.1, hT, by rw [hj.2]; exact hpar.symm⟩]
      ·rcases List.mem_append.1 hq with h | h
       ·exact hP1 q (List.dropLast_subset _ h)
       ·obtain rfl := List.mem_singleton.1 h
        exact hP1 p hpm
      ·rcases List.mem_append.1 hq with h | h
       ·have := hps q (List.dropLast_subset _ h); omega
       ·obtain rfl := List.mem_singleton.1 h
        show (p.2 ++ (rd_T56 t a).f1).size ≤ _
        rw [ByteArray.size_append]
        omega
     ·have hjb2 : joinsB t P s = false := by simpa using hjb
      rw [hjb2, pk_first (k + 1) t (a + 1) e (nodes t P) _ _ _ _ hne hA1, hnd]
      refine hend _ ?_ hj2 hsing (by rw [List.length_append, List.length_singleton]; omega) hsing2
      unfold push
      split
      ·rename_i p hg
       refine if_neg fun h => hjb ?_
       exact joins_true hg h.1 (by rw [h.2.2]; exact hpar)
      ·rename_i hg
       rw [List.getLast?_eq_none_iff.1 hg]
       rfl
   ·have hT : isT t a = false := by unfold isT; exact beq_eq_false_iff_ne.2 h46
    have hlv : liveB t a = true := by unfold liveB; simp [hT]
    have hnx := hL.next hN hlt
    have hA2 : ∀ (_ : Unit) (x : S56), (nodes t P ++ [x]).length + (nodes t (pk t (a + 1) (a + sz t a))).length < 3518437208883 := fun _ x => by
     rw [List.length_append, List.length_append, List.length_singleton] at hA
     rw [List.length_append, nodes_len, nodes_len, List.length_singleton]
     exact Nat.lt_of_le_of_lt (Nat.le_trans hA (show a + sz t a ≤ 400000 by omega)) (by decide)
    have hw : ∀ _ : Unit, wrap64 (((nodes t (pk t (a + 1) (a + sz t a))).length : Int) + 1) = ((nodes t (pk t (a + 1) (a + sz t a))).length : Int) + 1 := fun _ => by
     rw [nodes_len, show ((pk t (a + 1) (a + sz t a)).length : Int) + 1 = (((pk t (a + 1) (a + sz t a)).length + 1 : Nat) : Int) from by omega]
     exact wrap_nat (by omega)
    rw [pk_node (k + 2) t a e a (a + sz t a) (a + 1) (nodes t P) _ _ rfl (by omega) (by omega) (w2 ()) (w1 ()) hin2 h46 hA1 hA2 (hw ())]
    clear hA1 hA2 hw w1 w2 hin2
    rw [nodes_len, ← nodes_split t P (pk t (a + 1) (a + sz t a)) a (rd_T56 t a).f1 hsz1 (fun p hp => (hP p hp).2) hI]
    have hlv2 : live t a (e - a) = [(a, (rd_T56 t a).f1)] ++ (live t (a + 1) (a + sz t a - (a + 1)) ++ live t (a + sz t a) (e - (a + sz t a))) := by
     rw [hlive, hlv, if_pos rfl, show e - (a + 1) = (a + sz t a - (a + 1)) + (e - (a + sz t a)) from by omega, live_add, show a + 1 + (a + sz t a - (a + 1)) = a + sz t a from by omega]
    have hpu : push t P (a, (rd_T56 t a).f1) = P ++ [(a, (rd_T56 t a).f1)] := by
     unfold push
     split
     ·rw [if_neg (by simp [hT])]
     ·rename_i hg
      rw [List.getLast?_eq_none_iff.1 hg]
      rfl
    have hjn : joinsB t (P ++ [(a, (rd_T56 t a).f1)] ++ pk t (a + 1) (a + sz t a)) s = false := by
     unfold joinsB
     split
     ·rename_i p hp
      by_cases hp0 : pk t (a + 1) (a + sz t a) = []
      ·rw [hp0, List.append_nil, last_app _ (by simp)] at hp
       obtain rfl := Option.some.inj hp
       simp [hT]
      ·rw [last_app _ hp0] at hp
       have hpi := hI p (List.mem_of_getLast? hp)
       have hge := parG_ge t p.1 a hpi.2 p.1 hpi.1
       have hsa := hL.le
       have : ¬ par t p.1 = (s : Int) - 1 := fun h => by unfold Pr.par at h; omega
       simp [this]
     ·rfl
    rw [hlv2, List.foldl_append, List.foldl_cons, List.foldl_nil, hpu, List.foldl_append, fold_node t P (a, (rd_T56 t a).f1) hT, ← hjn]
    refine packed_go t hN hl hM n (a + sz t a) e s _ (k + 2) (by omega) hnx (by omega) (fun q hq => ?_) hA (fun q hq => ?_) (by omega)
    ·rcases List.mem_append.1 hq with h | h
     ·rcases List.mem_append.1 h with h | h
      ·have := hP q h; omega
      ·obtain rfl := List.mem_singleton.1 h
       exact ⟨hL.le, by show a < _; omega, Nat.le_refl _⟩
     ·have h1 := hI q h
      have h2 := hN.nest a q.1 (by omega) h1.1 h1.2
      have := hL.le
      omega
    ·rcases List.mem_append.1 hq with h | h
     ·rcases List.mem_append.1 h with h | h
      ·have := hps q h; omega
      ·obtain rfl := List.mem_singleton.1 h
       show (rd_T56 t a).f1.size ≤ _
       have := hM a (by omega)
       omega
     ·have h1 := fold_size t 1000000 (live t (a + 1) (a + sz t a - (a + 1))) [] 0 (by simp) (fun p hp => by
       unfold live at hp
       obtain ⟨i, hi, rfl⟩ := List.mem_map.1 hp
       have := List.mem_range'_1.1 (List.mem_filter.1 hi).1
       exact hM i (by omega)) q h
      have h2 := live_len t (a + 1) (a + sz t a - (a + 1))
      have h3 : 1000000 * (live t (a + 1) (a + sz t a - (a + 1))).length ≤ 1000000 * (a + sz t a - (a + 1)) := Nat.mul_le_mul_left _ h2
      omega
  ·obtain rfl : a = e := by omega
   rw [pk_end _ _ _ _ _ _ (by omega), Nat.sub_self]
   rfl
theorem packed_f (t : List S56) (hN : Nst t) (hl : t.length ≤ 400000) (hM : ∀ i, i < t.length → (rd_T56 t i).f1.size ≤ 1000000) (k : Nat) (hk : 4 * t.length + 5 ≤ k) :
  norm_packed.f k t 0 t.length = some (nodes t (pk t 0 t.length)) := by
 obtain ⟨k, rfl⟩ : ∃ j, k = j + 1 := ⟨k - 1, by omega⟩
 rw [norm_packed.f]
 exact packed_go t hN hl hM t.length 0 t.length 0 [] k (by omega) (Lvl.root t) (by omega) (by simp) (by simp) (by simp) (by omega)
end Go.Proofs.Ythcmfjpheanphaa.Pr
namespace Go.Proofs.Ythcmfjpheanphaa.Pr
open Go.RowKit Go.Maps Go.Proofs.YthcmfjpheanphaaW.PrintWords
attribute [local go_sem] Oper.semAt_some
structure Fr (X : Nat → Prop) (w w' : World) : Prop where
 os : w'.os = w.os
 tape : w'.tape = w.tape
 output : w'.output = w.output
 size : w.heap.size ≤ w'.heap.size
 block : ∀ k, k < w.heap.size → ¬ X k → w'.heap[k]? = w.heap[k]?
theorem Fr.refl (X : Nat → Prop) (w : World) : Fr X w w := ⟨rfl, rfl, rfl, Nat.le_refl _, fun _ _ _ => rfl⟩
theorem Fr.trans {X : Nat → Prop} {a b c : World} (h : Fr X a b) (k : Fr X b c) : Fr X a c :=
 ⟨k.os.trans h.os, k.tape.trans h.tape, k.output.trans h.output, Nat.le_trans h.size k.size, fun i hi hx => (k.block i (Nat.lt_of_lt_of_le hi h.size) hx).trans (h.block i hi hx)⟩
theorem Fr.mono {X Y : Nat → Prop} {a b : World} (h : Fr X a b) (hx : ∀ k, k < a.heap.size → X k → Y k) : Fr Y a b :=
 ⟨h.os, h.tape, h.output, h.size, fun i hi hy => h.block i hi fun x => hy (hx i hi x)⟩
theorem Fr.below {X : Nat → Prop} {w w' : World} (h : Below w.heap.size w w') : Fr X w w' := ⟨h.os, h.tape, h.output, h.size, fun k hk _ => h.block k hk⟩
theorem Fr.set {X : Nat → Prop} {w : World} {p : Addr} (hx : X p.block) (u : Value) : Fr X w (w.setCell p u) := by
 have h := (Below.refl p.block w).setCell (Nat.le_refl _) u
 exact ⟨h.os, h.tape, h.output, h.size, fun k hk hn => Below.heap_setCell _ _ _ _ fun e => hn (by rw [e]; exact hx)⟩
theorem Fr.grown {X : Nat → Prop} {w w' : World} {row : Option Nat} (h : w.grownBy w' row) (hr : ∀ r, row = some r → X r) : Fr X w w' :=
 ⟨h.os, h.tape, h.output, h.size, fun k hk hn => h.block k hk fun e => hn (hr k e.symm)⟩
theorem Fr.keep {X : Nat → Prop} {w w' : World} (h : Fr X w w') {g : Nat} {o : Obj} (hg : w.heap[g]? = some o) (hx : ¬ X g) : w'.heap[g]? = some o := (h.block g (blk_lt hg) hx).trans hg
theorem Fr.toBelow {X : Nat → Prop} {w w' : World} (h : Fr X w w') {n : Nat} (hn : n ≤ w.heap.size) (hx : ∀ k, k < n → ¬ X k) : Below n w w' := ⟨h.os, h.tape, h.output, h.size, fun k hk => h.block k (by omega) (hx k hk)⟩
theorem Fr.own {X : Nat → Prop} {w w' : World} (h : Fr X w w') {B e z n : Nat} {v : Value} {xs : List Value} (ho : w.ownsRow B e z v n xs) (hx : ∀ g, v.ownBlock = some g → ¬ X g) : w'.ownsRow B e z v n xs := by
 rcases ho with ⟨h1, h2 | ⟨g, cap, cur, h2, h3, h4, h5⟩⟩
 ·exact ⟨h1, .inl h2⟩
 ·exact ⟨h1, .inr ⟨g, cap, cur, h2, h3, h.keep h4 (hx g (by rw [h2]; rfl)), h5⟩⟩
def cellsN (x : S56) : List Value := [.int .u8 x.f0, .string x.f1, .int .i64 x.f2, .int .i64 x.f3]
theorem flatN_cons (x : S56) (xs : List S56) : flat56 (x :: xs) = cellsN x ++ flat56 xs := by simp [flat56, cellsN]
theorem flatN_at (xs : List S56) : ∀ (j i : Nat), j < xs.length → i < 4 → (flat56 xs)[j * 4 + i]? = (cellsN (xs.getD j z56))[i]? := by
 induction xs with
 | nil => intro j i h; simp at h
 | cons x xs ih =>
  intro j i h hi
  rw [flatN_cons]
  cases j with
  | zero => rw [List.getElem?_append_left (by simp [cellsN]; omega)]; simp
  | succ j =>
   rw [List.getElem?_append_right (by simp [cellsN]; omega)]
   have := ih j i (by simpa using h) hi
   rw [show (j + 1) * 4 + i - (cellsN x).length = j * 4 + i from by simp [cellsN]; omega, this]
   simp
theorem flatN_mod (f : S56 → S56) (i : Nat) (hi : i < 4) (u : Value) : ∀ (xs : List S56) (j : Nat), j < xs.length → cellsN (f (xs.getD j z56)) = (cellsN (xs.getD j z56)).set i u → (flat56 xs).set (j * 4 + i) u = flat56 (xs.modify j f)
 | [], j, h, _ => by simp at h
 | x :: xs, 0, h, hf => by
  rw [flatN_cons, List.modify_zero_cons, flatN_cons, List.set_append_left _ _ (by simp [cellsN]; omega), Nat.zero_mul, Nat.zero_add]
  simp only [List.getD_cons_zero] at hf
  rw [hf]
 | x :: xs, j + 1, h, hf => by
  rw [flatN_cons, List.modify_succ_cons, flatN_cons, List.set_append_right _ _ (by simp [cellsN]; omega)]
  rw [show (j + 1) * 4 + i - (cellsN x).length = j * 4 + i from by simp [cellsN]; omega]
  rw [flatN_mod f i hi u xs j (by simpa using h) (by simpa using hf)]
theorem own_formN {W : World} {B0 n e z : Nat} {v : Value} {xs : List Value} (h : W.ownsRow B0 e z v n xs) (hn : 0 < n) : ∃ g c, v = .slice (some ⟨g, 0, none⟩) n c := by
 obtain ⟨A, c, rfl⟩ := own_slice h
 rcases h.2 with ⟨_, h0⟩ | ⟨g, cap, cur, e, _⟩
 ·omega
 ·simp only [Value.slice.injEq] at e
  obtain ⟨rfl, _, rfl⟩ := e
  exact ⟨g, _, rfl⟩
theorem blk_frz {w : World} {g : Nat} {cs : Array Value} {t : TypeId} (h : w.heap[g]? = some (.cells cs t (0, 0))) (j : Nat) : w.frozen? ⟨g, j, none⟩ = false := by simp [World.frozen?, h]
def bytesV (b : List Int) : List Value := b.map (Value.int .u8)
structure KAt (W : World) (B0 Bb g1 g3 g6 g7 g8 gf : Nat) (A0 : Option Addr) (n c0 i : Nat) (vo vb : Value) (out : List S56) (b : List Int) (sc sa : Int) : Prop where
 x1 : W.heap[g1]? = some (.cells #[.slice A0 n c0] 50 (0, 0))
 x3 : W.heap[g3]? = some (.cells #[vo] 50 (0, 0))
 x6 : W.heap[g6]? = some (.cells #[.int .i64 (i : Int)] 3 (0, 0))
 x7 : W.heap[g7]? = some (.cells #[.pointer (some ⟨gf, 0, none⟩)] 173 (0, 0))
 x8 : W.heap[g8]? = some (.cells #[vb] 68 (0, 0))
 xf : W.heap[gf]? = some (.cells #[.int .u8 sc, .int .i64 sa] 177 (0, 0))
 out : W.ownsRow B0 56 4 vo out.length (flat56 out)
 b : W.ownsRow Bb 5 1 vb b.length (bytesV b)
 l8 : g8 < Bb
 lf : gf < Bb
 lb : Bb ≤ W.heap.size
def XK (Bb g8 gf : Nat) (vo : Value) (k : Nat) : Prop := vo.ownBlock = some k ∨ k = g8 ∨ k = gf ∨ Bb ≤ k
theorem KAt.fr {W W' : World} {B0 Bb g1 g3 g6 g7 g8 gf : Nat} {A0 : Option Addr} {n c0 i : Nat} {vo vb : Value} {out : List S56} {b : List Int} {sc sa : Int} (h : KAt W B0 Bb g1 g3 g6 g7 g8 gf A0 n c0 i vo vb out b sc sa) (hb : Below W.heap.size W W') :
  KAt W' B0 Bb g1 g3 g6 g7 g8 gf A0 n c0 i vo vb out b sc sa :=
 ⟨blk_below h.x1 hb, blk_below h.x3 hb, blk_below h.x6 hb, blk_below h.x7 hb, blk_below h.x8 hb, blk_below h.xf hb, pw_own_below h.out hb, pw_own_below h.b hb, h.l8, h.lf, Nat.le_trans h.lb hb.size⟩
def atF (z : Int) (y : S56) : S56 := { y with f2 := z }
def KeepTo (B0 Bb g1 g3 g6 g7 g8 gf : Nat) (A0 : Option Addr) (n c0 i : Nat) (vo : Value) (out : List S56) (b : List Int) (sc sa : Int) (w w' : World) : Prop :=
 ∃ vb', KAt w' B0 Bb g1 g3 g6 g7 g8 gf A0 n c0 i vo vb' out b sc sa ∧ Fr (XK Bb g8 gf vo) w w'
theorem keep_end {w W : World} {B0 Bb g1 g3 g6 g7 g8 gf : Nat} {A0 : Option Addr} {n c0 i : Nat} {vo vb : Value} {out : List S56} {b : List Int} {sc sa ch : Int} (h : KAt W B0 Bb g1 g3 g6 g7 g8 gf A0 n c0 i vo vb out b sc sa) (hf : Fr (XK Bb g8 gf vo) w W)
  {v' : Value} {W4 : World} (hg : (W.alloc (.cells #[.int .u8 ch] 5)).grownBy W4 vb.ownBlock) (ho : W4.ownsRow Bb 5 1 v' (b.length + 1) (bytesV b ++ [.int .u8 ch])) :
  W4.heap[g8]? = some (.cells #[vb] 68 (0, 0)) ∧ (W4.setCell ⟨g8, 0, none⟩ v').heap[g7]? = some (.cells #[.pointer (some ⟨gf, 0, none⟩)] 173 (0, 0)) ∧ (W4.setCell ⟨g8, 0, none⟩ v').heap[g6]? = some (.cells #[.int .i64 (i : Int)] 3 (0, 0)) ∧
  (W4.setCell ⟨g8, 0, none⟩ v').heap[gf]? = some (.cells #[.int .u8 sc, .int .i64 sa] 177 (0, 0)) ∧
  KAt (((W4.setCell ⟨g8, 0, none⟩ v').setCell ⟨gf, 0, none⟩ (.int .u8 ch)).setCell ⟨gf, 1, none⟩ (.int .i64 i)) B0 Bb g1 g3 g6 g7 g8 gf A0 n c0 i vo v' out (b ++ [ch]) ch i ∧
  Fr (XK Bb g8 gf vo) w (((W4.setCell ⟨g8, 0, none⟩ v').setCell ⟨gf, 0, none⟩ (.int .u8 ch)).setCell ⟨gf, 1, none⟩ (.int .i64 i)) := by
 have hrow : ∀ r, vb.ownBlock = some r → Bb ≤ r := fun r hr => own_base h.b r hr
 have hbk : ∀ {g : Nat} {cs : Array Value} {t : TypeId}, W.heap[g]? = some (.cells cs t (0, 0)) → t ≠ 5 → W4.heap[g]? = some (.cells cs t (0, 0)) := fun hgb hne => blk_grown (blk_alloc hgb _) hg (own_ne h.b hgb (Ne.symm hne))
 have y1 := hbk h.x1 (by decide)
 have y3 := hbk h.x3 (by decide)
 have y6 := hbk h.x6 (by decide)
 have y7 := hbk h.x7 (by decide)
 have y8 := hbk h.x8 (by decide)
 have yf := hbk h.xf (by decide)
 have yo : W4.ownsRow B0 56 4 vo out.length (flat56 out) := own_other (own_alloc h.out _) hg (own_type_ne h.out h.b (by decide))
 have d83 : ∀ {g : Nat} {cs : Array Value} {t : TypeId}, W4.heap[g]? = some (.cells cs t (0, 0)) → t ≠ 68 → (W4.setCell ⟨g8, 0, none⟩ v').heap[g]? = some (.cells cs t (0, 0)) := fun hgb hne => blk_far hgb (p := ⟨g8, 0, none⟩) (blk_ne hgb y8 hne) _
 have z1 := d83 y1 (by decide)
 have z3 := d83 y3 (by decide)
 have z6 := d83 y6 (by decide)
 have z7 := d83 y7 (by decide)
 have zf := d83 yf (by decide)
 have z8 : (W4.setCell ⟨g8, 0, none⟩ v').heap[g8]? = some (.cells #[v'] 68 (0, 0)) := blk_put y8 0 _ rfl
 have zo := own_setCell yo (p := ⟨g8, 0, none⟩) (own_ne yo y8 (by decide)) v'
 have zb := own_setCell ho (p := ⟨g8, 0, none⟩) (own_ne ho y8 (by decide)) v'
 have f1 : ∀ {V : World} (i' : Nat) (u : Value), V.heap[gf]? = some (.cells #[.int .u8 sc, .int .i64 sa] 177 (0, 0)) ∨ True → True := fun _ _ _ => trivial
 obtain ⟨V, hV⟩ : ∃ V, W4.setCell ⟨g8, 0, none⟩ v' = V := ⟨_, rfl⟩
 rw [hV] at z1 z3 z6 z7 zf z8 zo zb ⊢
 have u0 : (V.setCell ⟨gf, 0, none⟩ (.int .u8 ch)).heap[gf]? = some (.cells #[.int .u8 ch, .int .i64 sa] 177 (0, 0)) := blk_put zf 0 _ rfl
 have u1 : ((V.setCell ⟨gf, 0, none⟩ (.int .u8 ch)).setCell ⟨gf, 1, none⟩ (.int .i64 i)).heap[gf]? = some (.cells #[.int .u8 ch, .int .i64 (i : Int)] 177 (0, 0)) := blk_put u0 1 _ rfl
 have far : ∀ {g : Nat} {cs : Array Value} {t : TypeId}, V.heap[g]? = some (.cells cs t (0, 0)) → t ≠ 177 → ((V.setCell ⟨gf, 0, none⟩ (.int .u8 ch)).setCell ⟨gf, 1, none⟩ (.int .i64 i)).heap[g]? = some (.cells cs t (0, 0)) := fun hgb hne =>
  blk_far (blk_far hgb (p := ⟨gf, 0, none⟩) (blk_ne hgb zf hne) _) (p := ⟨gf, 1, none⟩) (blk_ne hgb zf hne) _
 have oo := own_setCell (own_setCell zo (p := ⟨gf, 0, none⟩) (own_ne zo zf (by decide)) (.int .u8 ch)) (p := ⟨gf, 1, none⟩) (own_ne zo zf (by decide)) (.int .i64 i)
 have ob := own_setCell (own_setCell zb (p := ⟨gf, 0, none⟩) (own_ne zb zf (by decide)) (.int .u8 ch)) (p := ⟨gf, 1, none⟩) (own_ne zb zf (by decide)) (.int .i64 i)
 have hfr : Fr (XK Bb g8 gf vo) W V := by
  rw [← hV]
  refine Fr.trans (Fr.trans (Fr.below ((Below.refl _ W).alloc (Nat.le_refl _) (.cells #[.int .u8 ch] 5))) (Fr.grown hg fun r hr => .inr (.inr (.inr (hrow r hr))))) (Fr.set (.inr (.inl rfl)) _)
 refine ⟨y8, z7, z6, zf, ⟨far z1 (by decide), far z3 (by decide), far z6 (by decide), far z7 (by decide), far z8 (by decide), u1, oo, ?_, h.l8, h.lf, ?_⟩, Fr.trans (Fr.trans hf hfr) (Fr.trans (Fr.set (.inr (.inr (.inl rfl))) _) (Fr.set (.inr (.inr (.inl rfl))) _))⟩
 ·have e : bytesV (b ++ [ch]) = bytesV b ++ [.int .u8 ch] := by simp [bytesV]
  rw [e, List.length_append]
  exact ob
 ·have := hfr.size
  have h1 := ((Fr.set (X := fun _ => True) (w := V) (p := ⟨gf, 0, none⟩) trivial (.int .u8 ch)).trans (Fr.set (p := ⟨gf, 1, none⟩) trivial (.int .i64 i))).size
  have := h.lb
  omega
theorem keep_first {w : World} {B0 Bb g1 g3 g6 g7 g8 gf go co : Nat} {A0 : Option Addr} {n c0 i : Nat} {vb : Value} {out : List S56} {b : List Int} {sc sa z : Int} (h : KAt w B0 Bb g1 g3 g6 g7 g8 gf A0 n c0 i (.slice (some ⟨go, 0, none⟩) out.length co) vb out b sc sa) (hi : i < out.length) :
  KAt (w.setCell ⟨go, i * 4 + 2, none⟩ (.int .i64 z)) B0 Bb g1 g3 g6 g7 g8 gf A0 n c0 i (.slice (some ⟨go, 0, none⟩) out.length co) vb (out.modify i (atF z)) b sc sa ∧
  Fr (XK Bb g8 gf (.slice (some ⟨go, 0, none⟩) out.length co)) w (w.setCell ⟨go, i * 4 + 2, none⟩ (.int .i64 z)) := by
 obtain ⟨cs, hcs⟩ := own_typed h.out go rfl
 have far : ∀ {g : Nat} {cs' : Array Value} {t : TypeId}, w.heap[g]? = some (.cells cs' t (0, 0)) → t ≠ 56 → (w.setCell ⟨go, i * 4 + 2, none⟩ (.int .i64 z)).heap[g]? = some (.cells cs' t (0, 0)) := fun hgb hne => blk_far hgb (p := ⟨go, i * 4 + 2, none⟩) (blk_ne hgb hcs hne) _
 have hb := own_setCell h.b (p := ⟨go, i * 4 + 2, none⟩) (own_ne h.b hcs (by decide)) (.int .i64 z)
 have ho := (h.out.stored (i * 4 + 2) (.int .i64 z)).1
 rw [flatN_mod (atF z) 2 (by omega) (.int .i64 z) out i hi rfl] at ho
 refine ⟨⟨far h.x1 (by decide), far h.x3 (by decide), far h.x6 (by decide), far h.x7 (by decide), far h.x8 (by decide), far h.xf (by decide), ?_, hb, h.l8, h.lf, ?_⟩, Fr.set (p := ⟨go, i * 4 + 2, none⟩) (.inl rfl) _⟩
 ·rw [List.length_modify]
  exact ho
 ·have := (Fr.set (X := fun _ => True) (w := w) (p := ⟨go, i * 4 + 2, none⟩) trivial (.int .i64 z)).size
  have := h.lb
  omega
def keepOut (t : List S56) (i k : Nat) (b : List Int) (out : List S56) : List S56 := if b = [] then out.modify i (atF (wrap64 ((rd_T56 t i).f2 + k))) else out
set_option pp.maxSteps 3000 in
set_option maxRecDepth 100000 in
set_option maxHeartbeats 8000000 in
theorem keep_calls (B0 Bb g1 g3 g6 g7 g8 gf : Nat) (A0 : Option Addr) (n c0 i k : Nat) (ch : Int) (vo vb : Value) (out : List S56) (b : List Int) (sc sa : Int) (t : List S56) (w : World) (hn : t.length = n) (hi : i < n) (hol : out.length = n) (hn6 : n ≤ 1000000) (hbl : b.length ≤ 1000000) (hk : k ≤ 1000000)
  (hA : Kd.C k56 w A0 n t) (h : KAt w B0 Bb g1 g3 g6 g7 g8 gf A0 n c0 i vo vb out b sc sa) :
  Calls Try.prog 145 #[.int .i64 (k : Int), .int .u8 ch, .pointer (some ⟨g8, 0, none⟩), .pointer (some ⟨g1, 0, none⟩), .pointer (some ⟨g6, 0, none⟩), .pointer (some ⟨g3, 0, none⟩), .pointer (some ⟨g7, 0, none⟩)] w fun e w' =>
   e = .returned (.tuple #[]) ∧ KeepTo B0 Bb g1 g3 g6 g7 g8 gf A0 n c0 i vo (keepOut t i k b out) (b ++ [ch]) ch i w w' := by
 subst hn
 obtain ⟨Ab, cb, rfl⟩ := own_slice h.b
 obtain ⟨go, co, rfl⟩ := own_formN h.out (by omega)
 have HK := Lib.hid h
 have x8 := blk_cell h.x8 0
 simp only [List.getElem?_toArray, List.getElem?_cons_succ, List.getElem?_cons_zero] at x8
 obtain ⟨i0, hi0, hz0, hz1, hz2⟩ := info_parts info5
 by_cases hb : b = []
 ·subst hb
  have H0 : keepOut t i k [] out = out.modify i (atF (wrap64 ((rd_T56 t i).f2 + k))) := by unfold keepOut; rw [if_pos rfl]
  rw [H0]
  have H0 : ([] : List Int).length = 0 := rfl
  obtain ⟨ad, rfl, q0, q1, q2, q3⟩ := at_T56 hA (i : Int) (by omega) (by omega)
  simp only [Int.toNat_natCast] at q0 q1 q2 q3
  obtain ⟨z, hz⟩ : ∃ z, (rd_T56 t i).f2 = z := ⟨_, rfl⟩
  rw [hz] at q2 ⊢
  obtain ⟨W3, hW3⟩ : ∃ W3, w.drew = W3 := ⟨_, rfl⟩
  have hB3 : Below w.heap.size w W3 := by rw [← hW3]; exact below_drew1 (Below.refl _ _)
  have hK3 := h.fr hB3
  have x1 := blk_cell hK3.x1 0
  have x3 := blk_cell hK3.x3 0
  have x6 := blk_cell hK3.x6 0
  simp only [List.getElem?_toArray, List.getElem?_cons_succ, List.getElem?_cons_zero] at x1 x3 x6
  have q2' := (hB3.cell (World.block_lt_of_cell? w _ q2)).trans q2
  have hfz := World.ownsRow.frozenAt hK3.out (i * 4 + 2)
  have hKF := keep_first (z := wrap64 (z + k)) hK3 (by omega)
  have x8' := blk_cell hK3.x8 0
  have xo := hK3.out.cellAt (i * 4 + 2) (by omega)
  rw [flatN_at out i 2 (by omega) (by omega)] at xo
  simp only [cellsN, List.getElem?_toArray, List.getElem?_cons_succ, List.getElem?_cons_zero] at x8' xo
  have HC := Lib.hid (And.intro x1 (And.intro x3 (And.intro x6 (And.intro q2' (And.intro hfz (And.intro x8' xo))))))
  have HKF := Lib.hid (And.intro hKF.1 (Fr.trans (Fr.below (X := XK Bb g8 gf (.slice (some ⟨go, 0, none⟩) out.length co)) hB3) hKF.2))
  have hii : (i : Int) < (t.length : Int) := by omega
  have hio : (i : Int) < (out.length : Int) := by omega
  clear x1 x3 x6 q2' hfz x8' xo hKF hK3 hB3 q0 q1 q2 q3 hA h hz
  go_enter Try.func145, Try.ntmps145
  go_wp2
  refine Go.Det.region_det (fun W => W = W3) 11 (by kernel_rfl) (by kernel_rfl) (by kernel_rfl) (by decide) hW3 ?_
  repeat
   apply Go.Det.seqW_cons
   focus
    intro W hS
    obtain rfl : W = W3 := hS
    obtain ⟨x1, x3, x6, q2, hfz, y8, xo⟩ := HC.out
    go_wp2
    exact Go.Det.AtEnd.mk rfl
  refine Go.Det.seqW_nil ?_
  intro W hS
  obtain rfl : W = W3 := hS
  simp only [List.drop_succ_cons, List.drop_zero]
  obtain ⟨x1, x3, x6, q2, hfz, y8, xo⟩ := HC.out
  clear hW3
  have HKW := HKF
  obtain ⟨W2, hW2⟩ : ∃ W2, W.setCell ⟨go, i * 4 + 2, none⟩ (.int .i64 (wrap64 (z + k))) = W2 := ⟨_, rfl⟩
  rw [hW2] at HKW
  clear y8
  have y8 := blk_cell HKW.out.1.x8 0
  simp only [List.getElem?_toArray, List.getElem?_cons_succ, List.getElem?_cons_zero, H0] at y8
  go_wp2_with (at_builtin; refine wpList_append_own _ rfl _ _ 68 rfl Bb 5 i0 (.int .u8 0) 1 1 Try.underlying68 hi0 hz0 hz1 hz2 rfl (by decide) _ _ _ rfl (HKW.out.1.b.alloc (.cells #[.int .u8 ch] 5)) _ 1 1 [.int .u8 ch] rfl rfl ?a1 ?a2 ?a3 ?a4 ?a5 ?a6)
  case a1 => exact cells_newT _ [.int .u8 ch] 5
  case a2 => simp [Value.oneCell']
  case a3 => unfold maxLen; simp <;> omega
  case a4 => omega
  case a5 => have := HKW.out.1.lb; first | done | omega | (simp; omega) | (simp; done)
  case a6 =>
   intro v4 W4 hown hgrow _
   obtain ⟨A4, c4, rfl⟩ := own_slice hown
   obtain ⟨e8, e7, e6, ef, hKA, hFr⟩ := keep_end HKW.out.1 HKW.out.2 hgrow hown
   have E := Lib.hid (And.intro hKA hFr)
   have y8 := blk_cell e8 0
   have y7 := blk_cell e7 0
   have y6 := blk_cell e6 0
   have yf0 := blk_cell ef 0
   have yf1 := blk_cell ef 1
   have f8 := free_of_one e8
   have ff := fun j => blk_frz ef j
   simp only [List.getElem?_toArray, List.getElem?_cons_succ, List.getElem?_cons_zero] at y8 y7 y6 yf0 yf1
   clear hKA hFr e8 e7 e6 ef hown hgrow
   go_wp2
   go_end0
   exact ⟨rfl, _, E.out.1, E.out.2⟩
 ·have H0 : keepOut t i k b out = out := by unfold keepOut; rw [if_neg hb]
  rw [H0]
  have hlen : 0 < b.length := List.length_pos_iff.mpr hb
  have hl0 : ((b.length : Int) == 0) = false := beq_eq_false_iff_ne.2 (by omega)
  have HKW := Lib.hid (And.intro h (Fr.refl (XK Bb g8 gf (.slice (some ⟨go, 0, none⟩) out.length co)) w))
  clear hA h
  go_enter Try.func145, Try.ntmps145
  go_wp2_with (at_builtin; refine wpList_append_own _ rfl _ _ 68 rfl Bb 5 i0 (.int .u8 0) 1 1 Try.underlying68 hi0 hz0 hz1 hz2 rfl (by decide) _ _ _ rfl (HKW.out.1.b.alloc (.cells #[.int .u8 ch] 5)) _ 1 1 [.int .u8 ch] rfl rfl ?b1 ?b2 ?b3 ?b4 ?b5 ?b6)
  case b1 => exact cells_newT _ [.int .u8 ch] 5
  case b2 => simp [Value.oneCell']
  case b3 => unfold maxLen; omega
  case b4 => omega
  case b5 => have := HKW.out.1.lb; first | done | omega | (simp; omega) | (simp; done)
  case b6 =>
   intro v4 W4 hown hgrow _
   obtain ⟨A4, c4, rfl⟩ := own_slice hown
   obtain ⟨e8, e7, e6, ef, hKA, hFr⟩ := keep_end HKW.out.1 HKW.out.2 hgrow hown
   have E := Lib.hid (And.intro hKA hFr)
   have y8 := blk_cell e8 0
   have y7 := blk_cell e7 0
   have y6 := blk_cell e6 0
   have yf0 := blk_cell ef 0
   have yf1 := blk_cell ef 1
   have f8 := free_of_one e8
   have ff := fun j => blk_frz ef j
   simp only [List.getElem?_toArray, List.getElem?_cons_succ, List.getElem?_cons_zero] at y8 y7 y6 yf0 yf1
   clear hKA hFr e8 e7 e6 ef hown hgrow
   go_wp2
   go_end0
   exact ⟨rfl, _, E.out.1, E.out.2⟩
end Go.Proofs.Ythcmfjpheanphaa.Pr
namespace Go.Proofs.Ythcmfjpheanphaa.Pr
open Go.RowKit Go.Proofs.YthcmfjpheanphaaW.PrintWords
def indexB (s : ByteArray) (c : Int) : Int := Lib.indexByte s.data.toList c.toNat.toUInt8
def strings_IndexByte.f (a0 : ByteArray) (a1 : Int) : Option Int := some (indexB a0 a1)
theorem strings_IndexByte.calls (a0 : ByteArray) (a1 : Int) (r : Int) (w : World) (h : strings_IndexByte.f a0 a1 = some r) :
  Calls Try.prog 163 #[.string a0, .int .u8 a1] w fun e w' => e = .returned (.int .i64 r) ∧ Below w.heap.size w w' := by
 obtain rfl := Option.some.inj h
 refine (indexByte_calls a0 a1 w).mono ?_
 rintro e w' ⟨rfl, rfl⟩
 exact ⟨rfl, Below.refl _ _⟩
end Go.Proofs.Ythcmfjpheanphaa.Pr
