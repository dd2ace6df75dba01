/- Texts of this seat, one behind the other. -/
import Derived.Lib.Hide
import Derived.WalkKit
import Derived.Outline
import Derived.Laws.AppendOwnNone
import Derived.Maps.OwnOps
import Derived.Maps.RangeWalk
import Derived.Deep.DeepCutAuto
import Derived.Test.YthcmfjpheanphaaXNormWhite1
import Derived.Test.YthcmfjpheanphaaXNormWhite2
import Derived.Test.YthcmfjpheanphaaXNormWhite3
import Derived.Test.YthcmfjpheanphaaXNormWhite4
import Derived.Test.YthcmfjpheanphaaXNormWhite5
import Derived.Test.YthcmfjpheanphaaXNormWhite6
import Derived.Test.YthcmfjpheanphaaXNormWhite9
set_option linter.unusedVariables false
set_option linter.unusedSimpArgs false
namespace Go.Proofs.Ythcmfjpheanphaa.Pr
open Go.RowKit Go.Proofs.YthcmfjpheanphaaW.PrintWords Go.Proofs.YthcmfjpheanphaaW.PrintLast Go.Proofs.YthcmfjpheanphaaW.PrintMore
attribute [local go_sem] max2_int min2_int max_two min_two max_three min_three max_four min_four
mutual
def norm_owners.l0 : Nat → List (S56) → List Int → List Int → Int → Int → Option (List Int)
 | 0, _, _, _, _, _ => none
 | k + 1, x0, x3, x4, x10, x11 => if x11 < x10 then (norm_owners.l1 k x0 x3 x4 x11 x10 x11) else (some x3)
def norm_owners.j2 : Nat → List (S56) → List Int → List Int → Int → Int → Int → Option (List Int)
 | 0, _, _, _, _, _, _ => none
 | k + 1, x0, x3, x4, x5, x10, x11 => if (x4.length : Int) > 0 then (if 0 ≤ (wrap64 ((x4.length : Int) - 1)) then (if (wrap64 ((x4.length : Int) - 1)) < (x4.length : Int) then (if 0 ≤ x5 then (if x5 < (x3.length : Int) then ((some (x3.set (x5 : Int).toNat (rd x4 (wrap64 ((x4.length : Int) - 1))) : List Int)).bind fun y194 => (if x5 < (x0.length : Int) then ((strings_IndexByte.f (⟨#[49, 50, 51, 112, 105, 99, 110]⟩ : ByteArray) ((rd_T56 x0 x5).f0)).bind fun t196 => (if t196 ≥ 0 then (if x4.length < 17592186044416 then (norm_owners.l0 k x0 y194 (x4 ++ [x5]) x10 (wrap64 (x11 + 1))) else (none)) else (norm_owners.l0 k x0 y194 x4 x10 (wrap64 (x11 + 1))))) else (none))) else (none)) else (none)) else (none)) else (none)) else (if 0 ≤ x5 then (if x5 < (x0.length : Int) then ((strings_IndexByte.f (⟨#[49, 50, 51, 112, 105, 99, 110]⟩ : ByteArray) ((rd_T56 x0 x5).f0)).bind fun t201 => (if t201 ≥ 0 then (if x4.length < 17592186044416 then (norm_owners.l0 k x0 x3 (x4 ++ [x5]) x10 (wrap64 (x11 + 1))) else (none)) else (norm_owners.l0 k x0 x3 x4 x10 (wrap64 (x11 + 1))))) else (none)) else (none))
def norm_owners.l1 : Nat → List (S56) → List Int → List Int → Int → Int → Int → Option (List Int)
 | 0, _, _, _, _, _, _ => none
 | k + 1, x0, x3, x4, x5, x10, x11 => if (x4.length : Int) > 0 then (if 0 ≤ (wrap64 ((x4.length : Int) - 1)) then (if (wrap64 ((x4.length : Int) - 1)) < (x4.length : Int) then (if 0 ≤ (rd x4 (wrap64 ((x4.length : Int) - 1))) then (if (rd x4 (wrap64 ((x4.length : Int) - 1))) < (x0.length : Int) then (if x5 ≥ (wrap64 ((rd x4 (wrap64 ((x4.length : Int) - 1))) + ((rd_T56 x0 (rd x4 (wrap64 ((x4.length : Int) - 1)))).f3))) then (if (wrap64 ((x4.length : Int) - 1)) ≤ (x4.length : Int) then (norm_owners.l1 k x0 x3 (x4.take ((wrap64 ((x4.length : Int) - 1)) : Int).toNat) x5 x10 x11) else (none)) else (norm_owners.j2 k x0 x3 x4 x5 x10 x11)) else (none)) else (none)) else (none)) else (none)) else (norm_owners.j2 k x0 x3 x4 x5 x10 x11)
end
def norm_owners.f (k : Nat) (l0 : List (S56)) : Option (List Int) := if 0 ≤ (l0.length : Int) then (if ((l0.length : Int) : Int).toNat ≤ 35184372088832 then (norm_owners.l0 k l0 (List.replicate ((l0.length : Int) : Int).toNat 0) ([] : List Int) (l0.length : Int) 0) else (none)) else (none)
theorem norm_owners.mono_l : ∀ k, (∀ y0 y1 y2 y3 y4, LeO (norm_owners.l0 k y0 y1 y2 y3 y4) (norm_owners.l0 (k + 1) y0 y1 y2 y3 y4)) ∧ (∀ y0 y1 y2 y3 y4 y5, LeO (norm_owners.j2 k y0 y1 y2 y3 y4 y5) (norm_owners.j2 (k + 1) y0 y1 y2 y3 y4 y5)) ∧ (∀ y0 y1 y2 y3 y4 y5, LeO (norm_owners.l1 k y0 y1 y2 y3 y4 y5) (norm_owners.l1 (k + 1) y0 y1 y2 y3 y4 y5))
 | 0 => ⟨fun _ _ _ _ _ r h => by simp [norm_owners.l0] at h, fun _ _ _ _ _ _ r h => by simp [norm_owners.j2] at h, fun _ _ _ _ _ _ r h => by simp [norm_owners.l1] at h⟩
 | k + 1 => by
  obtain ⟨ih0, ih1, ih2⟩ := norm_owners.mono_l k
  refine ⟨?_, ?_, ?_⟩
  ·intro y0 y1 y2 y3 y4
   unfold norm_owners.l0
   repeat' first
   | (with_reducible exact ih0 _ _ _ _ _)
   | (with_reducible exact ih1 _ _ _ _ _ _)
   | (with_reducible exact ih2 _ _ _ _ _ _)
   | (with_reducible exact LeO.refl _)
   | (with_reducible exact LeO.none _)
   | (with_reducible refine LeO.ite ?_ ?_)
   | (with_reducible refine LeO.bind ?_ (fun _ => ?_))
   | exact ih0 _ _ _ _ _
   | exact ih1 _ _ _ _ _ _
   | exact ih2 _ _ _ _ _ _
   | exact LeO.none _
   | refine LeO.ite ?_ ?_
   | refine LeO.bind ?_ (fun _ => ?_)
  ·intro y0 y1 y2 y3 y4 y5
   unfold norm_owners.j2
   repeat' first
   | (with_reducible exact ih0 _ _ _ _ _)
   | (with_reducible exact ih1 _ _ _ _ _ _)
   | (with_reducible exact ih2 _ _ _ _ _ _)
   | (with_reducible exact LeO.refl _)
   | (with_reducible exact LeO.none _)
   | (with_reducible refine LeO.ite ?_ ?_)
   | (with_reducible refine LeO.bind ?_ (fun _ => ?_))
   | exact ih0 _ _ _ _ _
   | exact ih1 _ _ _ _ _ _
   | exact ih2 _ _ _ _ _ _
   | exact LeO.none _
   | refine LeO.ite ?_ ?_
   | refine LeO.bind ?_ (fun _ => ?_)
  ·intro y0 y1 y2 y3 y4 y5
   unfold norm_owners.l1
   repeat' first
   | (with_reducible exact ih0 _ _ _ _ _)
   | (with_reducible exact ih1 _ _ _ _ _ _)
   | (with_reducible exact ih2 _ _ _ _ _ _)
   | (with_reducible exact LeO.refl _)
   | (with_reducible exact LeO.none _)
   | (with_reducible refine LeO.ite ?_ ?_)
   | (with_reducible refine LeO.bind ?_ (fun _ => ?_))
   | exact ih0 _ _ _ _ _
   | exact ih1 _ _ _ _ _ _
   | exact ih2 _ _ _ _ _ _
   | exact LeO.none _
   | refine LeO.ite ?_ ?_
   | refine LeO.bind ?_ (fun _ => ?_)
theorem norm_owners.mono : ∀ a0 k, LeO (norm_owners.f k a0) (norm_owners.f (k + 1) a0) := by
 intro a0 k
 obtain ⟨ih0, ih1, ih2⟩ := norm_owners.mono_l k
 unfold norm_owners.f
 repeat' first
   | (with_reducible exact ih0 _ _ _ _ _)
   | (with_reducible exact ih1 _ _ _ _ _ _)
   | (with_reducible exact ih2 _ _ _ _ _ _)
   | (with_reducible exact LeO.refl _)
   | (with_reducible exact LeO.none _)
   | (with_reducible refine LeO.ite ?_ ?_)
   | (with_reducible refine LeO.bind ?_ (fun _ => ?_))
   | exact ih0 _ _ _ _ _
   | exact ih1 _ _ _ _ _ _
   | exact ih2 _ _ _ _ _ _
   | exact LeO.none _
   | refine LeO.ite ?_ ?_
   | refine LeO.bind ?_ (fun _ => ?_)
set_option maxHeartbeats 8000000 in
set_option maxRecDepth 100000 in
theorem norm_owners.calls (k : Nat) (A0 : Option Addr) (c0 : Nat) (l0 : List (S56)) (r : List Int) (w : World) (hr0 : Kd.C k56 w A0 l0.length l0) (hc0 : l0.length ≤ c0) (h : norm_owners.f k l0 = some r) :
  Calls Try.prog 144 #[.slice A0 l0.length c0] w fun e w' => ∃ v0_ : Value, e = .returned (v0_) ∧ Kd.R (Kd.int .i64) 3 w' w.heap.size (fun _ => True) v0_ r ∧ Below w.heap.size w w' := by
 have HR0 := Aside0.mk hr0
 have HC0 := Aside0.mk hc0
 clear hr0 hc0
 have HB := Aside0.mk (Below.refl w.heap.size w)
 have H : (if 0 ≤ (l0.length : Int) then (if ((l0.length : Int) : Int).toNat ≤ 35184372088832 then (norm_owners.l0 k l0 (List.replicate ((l0.length : Int) : Int).toNat 0) ([] : List Int) (l0.length : Int) 0) else (none)) else (none)) = some r := h
 clear h
 by_cases c2 : 0 ≤ (l0.length : Int)
 ·rw [if_pos c2] at H
  have c2b0 := eq_true c2
  have c2b1 : decide (0 ≤ (l0.length : Int)) = true := decide_eq_true c2
  clear c2
  by_cases c3 : ((l0.length : Int) : Int).toNat ≤ 35184372088832
  ·rw [if_pos c3] at H
   have c3b0 := eq_true c3
   have c3b1 : decide (((l0.length : Int) : Int).toNat ≤ 35184372088832) = true := decide_eq_true c3
   clear c3
   obtain ⟨y184, hy184⟩ : ∃ y_ : List Int, y_ = (List.replicate ((l0.length : Int) : Int).toNat 0) := ⟨_, rfl⟩
   replace H : (norm_owners.l0 k l0 y184 ([] : List Int) (l0.length : Int) 0) = some r := by first | (rw [hy184]; with_reducible exact H) | (have H2_ := (Option.bind_some _ _).symm.trans H; rw [hy184]; with_reducible exact H2_) | (have H2_ := (Option.bind_some _ _).symm.trans H; with_reducible exact H2_) | with_reducible exact H | (rw [hy184]; exact H) | exact H
   have Ny184 := Aside0.mk hy184
   clear hy184
   have H' := Aside0.mk H
   clear H
   go_enter Try.func144, Try.ntmps144
   go_wp2_with (first | ((with_reducible refine gate_dst (N := 8) rfl ?_); (try (refine gate_guard (by rfl) ?_; dsimp only)); refine Kd.R_make (Kd.int .i64) _ 3 rfl (N := 8) rfl 167 _ _ rfl (l0.length : Int) rfl rfl Try.underlying167 (.int .i64 0) 8 info3 rfl (by decide) (by omega) 0 (ok := fun _ => True) (okp := fun _ => True) rfl (fun _ hk => hk) trivial (of_decide_eq_true (by first | (with_reducible assumption) | assumption)) (Nat.le_trans (Nat.mul_le_mul_right _ (of_decide_eq_true (by first | (with_reducible assumption) | assumption) : (l0.length : Int).toNat ≤ 35184372088832)) (by omega)) (Below.refl _ _) (Nat.le_refl _) ?_; intro v185 w4 ho5 hb hg_ hnew_; clear hg_ hnew_; (first | rw [← Ny184.out] at ho5 | (simp only [Int.reduceToNat] at ho5; rw [← Ny184.out] at ho5)); have n0_ := Aside0.mk (Kd.R_lower ho5 (below_size (by repeat (first | (with_reducible first | exact HB.out | apply below_alloc | apply pw_below_drewN | apply below_drew1) | exact HB.out)))); have n1_ := Aside0.mk (below_step (by repeat (first | (with_reducible first | exact HB.out | apply below_alloc | apply pw_below_drewN | apply below_drew1) | exact HB.out)) hb); clear HB; have HO186 := n0_; have HB := n1_; clear n0_ n1_; clear hb ho5))
   repeat (go_quiet (first | ((with_reducible refine gate_dst (N := 8) rfl ?_); (try (refine gate_guard (by rfl) ?_; dsimp only)); refine Kd.R_make (Kd.int .i64) _ 3 rfl (N := 8) rfl 167 _ _ rfl (l0.length : Int) rfl rfl Try.underlying167 (.int .i64 0) 8 info3 rfl (by decide) (by omega) 0 (ok := fun _ => True) (okp := fun _ => True) rfl (fun _ hk => hk) trivial (of_decide_eq_true (by first | (with_reducible assumption) | assumption)) (Nat.le_trans (Nat.mul_le_mul_right _ (of_decide_eq_true (by first | (with_reducible assumption) | assumption) : (l0.length : Int).toNat ≤ 35184372088832)) (by omega)) (Below.refl _ _) (Nat.le_refl _) ?_; intro v185 w4 ho5 hb hg_ hnew_; clear hg_ hnew_; (first | rw [← Ny184.out] at ho5 | (simp only [Int.reduceToNat] at ho5; rw [← Ny184.out] at ho5)); have n0_ := Aside0.mk (Kd.R_lower ho5 (below_size (by repeat (first | (with_reducible first | exact HB.out | apply below_alloc | apply pw_below_drewN | apply below_drew1) | exact HB.out)))); have n1_ := Aside0.mk (below_step (by repeat (first | (with_reducible first | exact HB.out | apply below_alloc | apply pw_below_drewN | apply below_drew1) | exact HB.out)) hb); clear HB; have HO186 := n0_; have HB := n1_; clear n0_ n1_; clear hb ho5)); try go_wp2_with (first | ((with_reducible refine gate_dst (N := 8) rfl ?_); (try (refine gate_guard (by rfl) ?_; dsimp only)); refine Kd.R_make (Kd.int .i64) _ 3 rfl (N := 8) rfl 167 _ _ rfl (l0.length : Int) rfl rfl Try.underlying167 (.int .i64 0) 8 info3 rfl (by decide) (by omega) 0 (ok := fun _ => True) (okp := fun _ => True) rfl (fun _ hk => hk) trivial (of_decide_eq_true (by first | (with_reducible assumption) | assumption)) (Nat.le_trans (Nat.mul_le_mul_right _ (of_decide_eq_true (by first | (with_reducible assumption) | assumption) : (l0.length : Int).toNat ≤ 35184372088832)) (by omega)) (Below.refl _ _) (Nat.le_refl _) ?_; intro v185 w4 ho5 hb hg_ hnew_; clear hg_ hnew_; (first | rw [← Ny184.out] at ho5 | (simp only [Int.reduceToNat] at ho5; rw [← Ny184.out] at ho5)); have n0_ := Aside0.mk (Kd.R_lower ho5 (below_size (by repeat (first | (with_reducible first | exact HB.out | apply below_alloc | apply pw_below_drewN | apply below_drew1) | exact HB.out)))); have n1_ := Aside0.mk (below_step (by repeat (first | (with_reducible first | exact HB.out | apply below_alloc | apply pw_below_drewN | apply below_drew1) | exact HB.out)) hb); clear HB; have HO186 := n0_; have HB := n1_; clear n0_ n1_; clear hb ho5)))
   go_loopg [4, 11] k (fun kq v4 v11 w' => ∃ (x3_1 : List Int) (x4_1 : List Int) (x11_1 : Int), v11 = .int .i64 x11_1 ∧ Aside0 (norm_owners.l0 kq l0 x3_1 x4_1 (l0.length : Int) x11_1 = some r) ∧ Aside0 (kq ≤ k) ∧ Aside0 (Kd.R (Kd.int .i64) 3 w' w.heap.size (fun k_ => some k_ ≠ (v4 : Value).ownBlock) v185 x3_1) ∧ Aside0 (Kd.R (Kd.int .i64) 3 w' w.heap.size (fun k_ => some k_ ≠ (v185 : Value).ownBlock) v4 x4_1) ∧ Aside0 (Below w.heap.size w w'))
   case atStart => exact ⟨(y184), (([] : List Int)), (0), (by first | rfl | (simp; done) | (simp [*]; done)), H', ⟨Nat.le_refl _⟩, ⟨by (with_reducible repeat (first | apply Kd.R_alloc | apply Kd.R_drewN | apply Kd.R_drew)); exact Kd.R_mono HO186.out (fun _ hk => (by simp [Value.ownBlock]))⟩, ⟨by first | exact Kd.R_nil _ _ _ _ _ | exact Kd.N_nil _ _ _ _ _ | exact Kd.V_nil _ _ _ _ _ | exact Kd.Q_nil _ _ _ _ _ | exact Kd.S_nil _ _ _ _ _⟩, ⟨by repeat (first | (with_reducible first | exact HB.out | apply below_alloc | apply pw_below_drewN | apply below_drew1) | exact HB.out)⟩⟩
   case round =>
    clear H'
    try clear c1
    try clear c2
    try clear c2b0
    try clear c2b1
    try clear p2
    try clear c3
    try clear c3b0
    try clear c3b1
    obtain ⟨x3_1, x4_1, x11_1, rfl, HA, HK1, HO_3, HO_4, HB⟩ := hrel
    cases gk with
    | zero => exact absurd HA.out (by simp [norm_owners.l0])
    | succ k1 =>
     have H := HA.out
     clear HA
     simp only [norm_owners.l0] at H
     by_cases c6 : x11_1 < (l0.length : Int)
     ·rw [if_pos c6] at H
      have c6b0 : decide (x11_1 < (l0.length : Int)) = true := decide_eq_true c6
      clear c6
      have HC7 := Aside0.mk H
      clear H
      go_upto_block 2 with (fail)
      repeat (go_quiet (fail); go_upto_block 2 with (fail))
      go_cut [4] (fun v4 wc => ∃ (kq : Nat) (x4_6 : List Int), Aside0 (norm_owners.j2 kq l0 x3_1 x4_6 x11_1 (l0.length : Int) x11_1 = some r) ∧ Aside0 (kq ≤ k1) ∧ Aside0 (Kd.R (Kd.int .i64) 3 wc w.heap.size (fun k_ => some k_ ≠ (v4 : Value).ownBlock) v185 x3_1) ∧ Aside0 (Kd.R (Kd.int .i64) 3 wc w.heap.size (fun k_ => some k_ ≠ (v185 : Value).ownBlock) v4 x4_6) ∧ Aside0 (Below w.heap.size w wc))
      case first =>
       have H := HC7.out
       clear HC7
       have H' := Aside0.mk H
       clear H
       go_wp2
       repeat (go_quiet (fail); try go_wp2)
       go_loopg [4] k1 (fun kq v4 w' => ∃ (x4_2 : List Int), Aside0 (norm_owners.l1 kq l0 x3_1 x4_2 x11_1 (l0.length : Int) x11_1 = some r) ∧ Aside0 (kq ≤ k1) ∧ Aside0 (Kd.R (Kd.int .i64) 3 w' w.heap.size (fun k_ => some k_ ≠ (v4 : Value).ownBlock) v185 x3_1) ∧ Aside0 (Kd.R (Kd.int .i64) 3 w' w.heap.size (fun k_ => some k_ ≠ (v185 : Value).ownBlock) v4 x4_2) ∧ Aside0 (Below w.heap.size w w'))
       case atStart => exact ⟨(x4_1), H', ⟨Nat.le_refl _⟩, ⟨by (with_reducible repeat (first | apply Kd.R_alloc | apply Kd.R_drewN | apply Kd.R_drew)); exact HO_3.out⟩, ⟨by (with_reducible repeat (first | apply Kd.R_alloc | apply Kd.R_drewN | apply Kd.R_drew)); exact HO_4.out⟩, ⟨by repeat (first | (with_reducible first | exact HB.out | apply below_alloc | apply pw_below_drewN | apply below_drew1) | exact HB.out)⟩⟩
       case round =>
        clear H'
        try clear c1
        try clear c2
        try clear c2b0
        try clear c2b1
        try clear p2
        try clear c3
        try clear c3b0
        try clear c3b1
        try clear c6
        try clear c6b0
        try clear p2
        obtain ⟨x4_2, HA, HK2, HO_3, HO_4, HB⟩ := hrel
        cases gk with
        | zero => exact absurd HA.out (by simp [norm_owners.l1])
        | succ k2 =>
         have H := HA.out
         clear HA
         simp only [norm_owners.l1] at H
         by_cases c8 : (x4_2.length : Int) > 0
         ·rw [if_pos c8] at H
          have c8b0 : decide (0 < (x4_2.length : Int)) = true := decide_eq_true c8
          have c8b1 : decide (0 < x4_2.length) = true := decide_eq_true (by omega)
          clear c8
          (first | rw [c8b0] | (simp only [i64_w, i32_w]; rw [c8b0]) | skip)
          obtain ⟨ji9, hji9⟩ : ∃ j_ : Int, (wrap64 ((x4_2.length : Int) - 1)) = j_ := ⟨_, rfl⟩
          replace H : (if 0 ≤ (ji9) then (if (ji9) < (x4_2.length : Int) then (if 0 ≤ (rd x4_2 (ji9)) then (if (rd x4_2 (ji9)) < (l0.length : Int) then (if x11_1 ≥ (wrap64 ((rd x4_2 (ji9)) + ((rd_T56 l0 (rd x4_2 (ji9))).f3))) then (if (ji9) ≤ (x4_2.length : Int) then (norm_owners.l1 k2 l0 x3_1 (x4_2.take ((ji9) : Int).toNat) x11_1 (l0.length : Int) x11_1) else (none)) else (norm_owners.j2 k2 l0 x3_1 x4_2 x11_1 (l0.length : Int) x11_1)) else (none)) else (none)) else (none)) else (none)) = some r := by first | (rw [hji9] at H; exact H) | (simp only [hji9] at H ⊢; exact H)
          have hji9w : (IntKind.i64.wrap ((x4_2.length : Int) - 1)) = ji9 := (i64_w _).trans hji9
          by_cases c10 : 0 ≤ (ji9)
          ·rw [if_pos c10] at H
           have c10b0 : decide (0 ≤ (ji9)) = true := decide_eq_true c10
           clear c10
           by_cases c11 : (ji9) < (x4_2.length : Int)
           ·rw [if_pos c11] at H
            have c11b0 : decide ((ji9) < (x4_2.length : Int)) = true := decide_eq_true c11
            clear c11
            by_cases c12 : 0 ≤ (rd x4_2 (ji9))
            ·rw [if_pos c12] at H
             have c12b0 : decide (0 ≤ (rd x4_2 (ji9))) = true := decide_eq_true c12
             clear c12
             by_cases c13 : (rd x4_2 (ji9)) < (l0.length : Int)
             ·rw [if_pos c13] at H
              have c13b0 : decide ((rd x4_2 (ji9)) < (l0.length : Int)) = true := decide_eq_true c13
              clear c13
              by_cases c14 : x11_1 ≥ (wrap64 ((rd x4_2 (ji9)) + ((rd_T56 l0 (rd x4_2 (ji9))).f3)))
              ·rw [if_pos c14] at H
               have c14b0 : decide ((wrap64 ((rd x4_2 (ji9)) + ((rd_T56 l0 (rd x4_2 (ji9))).f3))) ≤ x11_1) = true := decide_eq_true c14
               clear c14
               by_cases c15 : (ji9) ≤ (x4_2.length : Int)
               ·rw [if_pos c15] at H
                have c15b0 := eq_true c15
                have c15b1 : decide ((ji9) ≤ (x4_2.length : Int)) = true := decide_eq_true c15
                clear c15
                obtain ⟨y190, hy190⟩ : ∃ y_ : List Int, y_ = (x4_2.take ((ji9) : Int).toNat) := ⟨_, rfl⟩
                replace H : (norm_owners.l1 k2 l0 x3_1 y190 x11_1 (l0.length : Int) x11_1) = some r := by first | (rw [hy190]; with_reducible exact H) | (have H2_ := (Option.bind_some _ _).symm.trans H; rw [hy190]; with_reducible exact H2_) | (have H2_ := (Option.bind_some _ _).symm.trans H; with_reducible exact H2_) | with_reducible exact H | (rw [hy190]; exact H) | exact H
                have Ny190 := Aside0.mk hy190
                clear hy190
                have H' := Aside0.mk H
                clear H
                obtain ⟨Ao16, co16, eo16⟩ := Kd.R_slice HO_4.out
                subst eo16
                have p187 : 0 ≤ ((ji9) : Int) := of_decide_eq_true (by first | (with_reducible assumption) | assumption)
                have q187 : (ji9) < (x4_2.length : Int) := of_decide_eq_true (by first | (with_reducible assumption) | assumption)
                obtain ⟨ad187, e187, hx187_0⟩ := Kd.at_int (Kd.R_reads' HO_4.out).2.2 (ji9) p187 q187
                cases e187
                replace p187 := eq_true p187
                replace q187 := eq_true q187
                have p188 : 0 ≤ ((ji9) : Int) := of_decide_eq_true (by first | (with_reducible assumption) | assumption)
                have q188 : (ji9) < (x4_2.length : Int) := of_decide_eq_true (by first | (with_reducible assumption) | assumption)
                obtain ⟨ad188, e188, hx188_0⟩ := Kd.at_int (Kd.R_reads' HO_4.out).2.2 (ji9) p188 q188
                obtain rfl : ad187 = ad188 := (by injection e188)
                replace p188 := eq_true p188
                replace q188 := eq_true q188
                have p189 : 0 ≤ ((rd x4_2 (ji9)) : Int) := of_decide_eq_true (by first | (with_reducible assumption) | assumption)
                have q189 : (rd x4_2 (ji9)) < (l0.length : Int) := of_decide_eq_true (by first | (with_reducible assumption) | assumption)
                obtain ⟨ad189, e189, hx189_0, hx189_1, hx189_2, hx189_3⟩ := at_T56 HR0.out (rd x4_2 (ji9)) p189 q189
                cases e189
                replace hx189_0 := (HB.out.cell (World.block_lt_of_cell? w _ hx189_0)).trans hx189_0
                replace hx189_1 := (HB.out.cell (World.block_lt_of_cell? w _ hx189_1)).trans hx189_1
                replace hx189_2 := (HB.out.cell (World.block_lt_of_cell? w _ hx189_2)).trans hx189_2
                replace hx189_3 := (HB.out.cell (World.block_lt_of_cell? w _ hx189_3)).trans hx189_3
                replace p189 := eq_true p189
                replace q189 := eq_true q189
                have q17 : ((ji9) : Int) ≤ ((x4_2.length : Int) : Int) := of_decide_eq_true (by first | (with_reducible assumption) | assumption)
                obtain ⟨i017, hi017, _, hsz17, _⟩ := info_parts info3
                have hcut17 := cut_to (P := Try.prog) 167 3 .i64 Try.underlying167 hi017 (some ad187) x4_2.length co16 (ji9) (of_decide_eq_true (by first | (with_reducible assumption) | assumption)) q17 (Kd.R_reads' HO_4.out).2.1
                have hr17 := Kd.R_take (m := ((ji9) : Int).toNat) HO_4.out (by omega)
                have hy17 : y190.length = ((ji9) : Int).toNat := (by rw [Ny190.out, List.length_take]; omega)
                rw [← Ny190.out] at hr17
                rw [← hy17] at hr17 hcut17
                clear hy17 hi017 hsz17 HO_4
                have HO192 := Aside0.mk hr17
                clear hr17
                replace q17 := eq_true q17
                go_wp2
                repeat (go_quiet (fail); try go_wp2)
                go_roundg k2
                case measure => have := HK1.out; have := HK2.out; omega
                case rel => exact ⟨(y190), H', ⟨by have := HK1.out; have := HK2.out; omega⟩, ⟨by (with_reducible repeat (first | apply Kd.R_alloc | apply Kd.R_drewN | apply Kd.R_drew)); exact HO_3.out⟩, ⟨by (with_reducible repeat (first | apply Kd.R_alloc | apply Kd.R_drewN | apply Kd.R_drew)); exact HO192.out⟩, ⟨by repeat (first | (with_reducible first | exact HB.out | apply below_alloc | apply pw_below_drewN | apply below_drew1) | exact HB.out)⟩⟩
               ·rw [if_neg c15] at H
                exact absurd H (by simp)
              ·rw [if_neg c14] at H
               have c14b0 : decide ((wrap64 ((rd x4_2 (ji9)) + ((rd_T56 l0 (rd x4_2 (ji9))).f3))) ≤ x11_1) = false := decide_eq_false c14
               clear c14
               have H' := Aside0.mk H
               clear H
               obtain ⟨Ao18, co18, eo18⟩ := Kd.R_slice HO_4.out
               subst eo18
               have p187 : 0 ≤ ((ji9) : Int) := of_decide_eq_true (by first | (with_reducible assumption) | assumption)
               have q187 : (ji9) < (x4_2.length : Int) := of_decide_eq_true (by first | (with_reducible assumption) | assumption)
               obtain ⟨ad187, e187, hx187_0⟩ := Kd.at_int (Kd.R_reads' HO_4.out).2.2 (ji9) p187 q187
               cases e187
               replace p187 := eq_true p187
               replace q187 := eq_true q187
               have p188 : 0 ≤ ((ji9) : Int) := of_decide_eq_true (by first | (with_reducible assumption) | assumption)
               have q188 : (ji9) < (x4_2.length : Int) := of_decide_eq_true (by first | (with_reducible assumption) | assumption)
               obtain ⟨ad188, e188, hx188_0⟩ := Kd.at_int (Kd.R_reads' HO_4.out).2.2 (ji9) p188 q188
               obtain rfl : ad187 = ad188 := (by injection e188)
               replace p188 := eq_true p188
               replace q188 := eq_true q188
               have p189 : 0 ≤ ((rd x4_2 (ji9)) : Int) := of_decide_eq_true (by first | (with_reducible assumption) | assumption)
               have q189 : (rd x4_2 (ji9)) < (l0.length : Int) := of_decide_eq_true (by first | (with_reducible assumption) | assumption)
               obtain ⟨ad189, e189, hx189_0, hx189_1, hx189_2, hx189_3⟩ := at_T56 HR0.out (rd x4_2 (ji9)) p189 q189
               cases e189
               replace hx189_0 := (HB.out.cell (World.block_lt_of_cell? w _ hx189_0)).trans hx189_0
               replace hx189_1 := (HB.out.cell (World.block_lt_of_cell? w _ hx189_1)).trans hx189_1
               replace hx189_2 := (HB.out.cell (World.block_lt_of_cell? w _ hx189_2)).trans hx189_2
               replace hx189_3 := (HB.out.cell (World.block_lt_of_cell? w _ hx189_3)).trans hx189_3
               replace p189 := eq_true p189
               replace q189 := eq_true q189
               go_wp2
               repeat (go_quiet (fail); try go_wp2)
               go_meet
               case rel => exact ⟨_, (x4_2), H', ⟨by have := HK1.out; have := HK2.out; first | omega | exact Nat.le_refl _⟩, ⟨by (with_reducible repeat (first | apply Kd.R_alloc | apply Kd.R_drewN | apply Kd.R_drew)); exact HO_3.out⟩, ⟨by (with_reducible repeat (first | apply Kd.R_alloc | apply Kd.R_drewN | apply Kd.R_drew)); exact HO_4.out⟩, ⟨by repeat (first | (with_reducible first | exact HB.out | apply below_alloc | apply pw_below_drewN | apply below_drew1) | exact HB.out)⟩⟩
             ·rw [if_neg c13] at H
              exact absurd H (by simp)
            ·rw [if_neg c12] at H
             exact absurd H (by simp)
           ·rw [if_neg c11] at H
            exact absurd H (by simp)
          ·rw [if_neg c10] at H
           exact absurd H (by simp)
         ·rw [if_neg c8] at H
          have c8b0 : decide (0 < (x4_2.length : Int)) = false := decide_eq_false c8
          have c8b1 : decide (0 < x4_2.length) = false := decide_eq_false (by omega)
          clear c8
          (first | rw [c8b0] | (simp only [i64_w, i32_w]; rw [c8b0]) | skip)
          have H' := Aside0.mk H
          clear H
          obtain ⟨Ao19, co19, eo19⟩ := Kd.R_slice HO_4.out
          subst eo19
          go_wp2
          repeat (go_quiet (fail); try go_wp2)
          go_meet
          case rel => exact ⟨_, (x4_2), H', ⟨by have := HK1.out; have := HK2.out; first | omega | exact Nat.le_refl _⟩, ⟨by (with_reducible repeat (first | apply Kd.R_alloc | apply Kd.R_drewN | apply Kd.R_drew)); exact HO_3.out⟩, ⟨by (with_reducible repeat (first | apply Kd.R_alloc | apply Kd.R_drewN | apply Kd.R_drew)); exact HO_4.out⟩, ⟨by repeat (first | (with_reducible first | exact HB.out | apply below_alloc | apply pw_below_drewN | apply below_drew1) | exact HB.out)⟩⟩
      case rest =>
       clear HC7
       try clear c1
       try clear p1
       try clear q1
       try clear hx1
       try clear c2
       try clear c2b0
       try clear c2b1
       try clear p2
       try clear c3
       try clear c3b0
       try clear c3b1
       try clear c6
       try clear c6b0
       try clear p6
       try clear c8
       try clear c8b0
       try clear c8b1
       try clear c10
       try clear c10b0
       try clear c11
       try clear c11b0
       try clear c12
       try clear c12b0
       try clear c13
       try clear c13b0
       try clear c14
       try clear c14b0
       try clear c15
       try clear c15b0
       try clear c15b1
       try clear q17
       try clear p18
       try clear q18
       try clear hx18
       try clear hx187_0
       try clear hx188_0
       try clear hx189_0
       try clear hx189_1
       try clear hx189_2
       try clear hx189_3
       try clear p187
       try clear p188
       try clear p189
       try clear p2
       try clear q17
       try clear q187
       try clear q188
       try clear q189
       obtain ⟨kq, x4_6, HA, HJ6, HO_3, HO_4, HB⟩ := hcut
       cases kq with
       | zero => exact absurd HA.out (by simp [norm_owners.j2])
       | succ kj6 =>
        have H := HA.out
        clear HA
        simp only [norm_owners.j2] at H
        by_cases c20 : (x4_6.length : Int) > 0
        ·rw [if_pos c20] at H
         have c20b0 : decide (0 < (x4_6.length : Int)) = true := decide_eq_true c20
         have c20b1 : decide (0 < x4_6.length) = true := decide_eq_true (by omega)
         clear c20
         obtain ⟨ji21, hji21⟩ : ∃ j_ : Int, (wrap64 ((x4_6.length : Int) - 1)) = j_ := ⟨_, rfl⟩
         replace H : (if 0 ≤ (ji21) then (if (ji21) < (x4_6.length : Int) then (if 0 ≤ x11_1 then (if x11_1 < (x3_1.length : Int) then ((some (x3_1.set (x11_1 : Int).toNat (rd x4_6 (ji21)) : List Int)).bind fun y194 => (if x11_1 < (l0.length : Int) then ((strings_IndexByte.f (⟨#[49, 50, 51, 112, 105, 99, 110]⟩ : ByteArray) ((rd_T56 l0 x11_1).f0)).bind fun t196 => (if t196 ≥ 0 then (if x4_6.length < 17592186044416 then (norm_owners.l0 kj6 l0 y194 (x4_6 ++ [x11_1]) (l0.length : Int) (wrap64 (x11_1 + 1))) else (none)) else (norm_owners.l0 kj6 l0 y194 x4_6 (l0.length : Int) (wrap64 (x11_1 + 1))))) else (none))) else (none)) else (none)) else (none)) else (none)) = some r := by first | (rw [hji21] at H; exact H) | (simp only [hji21] at H ⊢; exact H)
         have hji21w : (IntKind.i64.wrap ((x4_6.length : Int) - 1)) = ji21 := (i64_w _).trans hji21
         by_cases c22 : 0 ≤ (ji21)
         ·rw [if_pos c22] at H
          have c22b0 : decide (0 ≤ (ji21)) = true := decide_eq_true c22
          clear c22
          by_cases c23 : (ji21) < (x4_6.length : Int)
          ·rw [if_pos c23] at H
           have c23b0 : decide ((ji21) < (x4_6.length : Int)) = true := decide_eq_true c23
           clear c23
           by_cases c24 : 0 ≤ x11_1
           ·rw [if_pos c24] at H
            have c24b0 : decide (0 ≤ x11_1) = true := decide_eq_true c24
            clear c24
            by_cases c25 : x11_1 < (x3_1.length : Int)
            ·rw [if_pos c25] at H
             have c25b0 : decide (x11_1 < (x3_1.length : Int)) = true := decide_eq_true c25
             clear c25
             obtain ⟨y194, hy194⟩ : ∃ y_ : List Int, y_ = (x3_1.set (x11_1 : Int).toNat (rd x4_6 (ji21))) := ⟨_, rfl⟩
             replace H : (if x11_1 < (l0.length : Int) then ((strings_IndexByte.f (⟨#[49, 50, 51, 112, 105, 99, 110]⟩ : ByteArray) ((rd_T56 l0 x11_1).f0)).bind fun t196 => (if t196 ≥ 0 then (if x4_6.length < 17592186044416 then (norm_owners.l0 kj6 l0 y194 (x4_6 ++ [x11_1]) (l0.length : Int) (wrap64 (x11_1 + 1))) else (none)) else (norm_owners.l0 kj6 l0 y194 x4_6 (l0.length : Int) (wrap64 (x11_1 + 1))))) else (none)) = some r := by first | (rw [hy194]; with_reducible exact H) | (have H2_ := (Option.bind_some _ _).symm.trans H; rw [hy194]; with_reducible exact H2_) | (have H2_ := (Option.bind_some _ _).symm.trans H; with_reducible exact H2_) | with_reducible exact H | (rw [hy194]; exact H) | exact H
             have Ny194 := Aside0.mk hy194
             clear hy194
             by_cases c27 : x11_1 < (l0.length : Int)
             ·rw [if_pos c27] at H
              have c27b0 : decide (x11_1 < (l0.length : Int)) = true := decide_eq_true c27
              clear c27
              replace H := Option.bind_eq_some_iff.mp H
              obtain ⟨t196, A280, H⟩ := H
              replace H : (if t196 ≥ 0 then (if x4_6.length < 17592186044416 then (norm_owners.l0 kj6 l0 y194 (x4_6 ++ [x11_1]) (l0.length : Int) (wrap64 (x11_1 + 1))) else (none)) else (norm_owners.l0 kj6 l0 y194 x4_6 (l0.length : Int) (wrap64 (x11_1 + 1)))) = some r := H
              have A28 := Aside0.mk A280
              clear A280
              by_cases c29 : t196 ≥ 0
              ·rw [if_pos c29] at H
               have c29b0 : decide (0 ≤ t196) = true := decide_eq_true c29
               clear c29
               by_cases c30 : x4_6.length < 17592186044416
               ·rw [if_pos c30] at H
                have LMc30 := Aside0.mk c30
                clear c30
                obtain ⟨y197, hy197⟩ : ∃ y_ : List Int, y_ = (x4_6 ++ [x11_1]) := ⟨_, rfl⟩
                replace H : (norm_owners.l0 kj6 l0 y194 y197 (l0.length : Int) (wrap64 (x11_1 + 1))) = some r := by first | (rw [hy197]; with_reducible exact H) | (have H2_ := (Option.bind_some _ _).symm.trans H; rw [hy197]; with_reducible exact H2_) | (have H2_ := (Option.bind_some _ _).symm.trans H; with_reducible exact H2_) | with_reducible exact H | (rw [hy197]; exact H) | exact H
                have Ny197 := Aside0.mk hy197
                clear hy197
                have H' := Aside0.mk H
                clear H
                obtain ⟨Ao31, co31, eo31⟩ := Kd.R_slice HO_4.out
                subst eo31
                have p193 : 0 ≤ ((ji21) : Int) := of_decide_eq_true (by first | (with_reducible assumption) | assumption)
                have q193 : (ji21) < (x4_6.length : Int) := of_decide_eq_true (by first | (with_reducible assumption) | assumption)
                obtain ⟨ad193, e193, hx193_0⟩ := Kd.at_int (Kd.R_reads' HO_4.out).2.2 (ji21) p193 q193
                cases e193
                replace p193 := eq_true p193
                replace q193 := eq_true q193
                have p26 : 0 ≤ (x11_1 : Int) := of_decide_eq_true (by first | (with_reducible assumption) | assumption)
                have q26 : (x11_1 : Int) < ((x3_1.length : Int) : Int) := of_decide_eq_true (by first | (with_reducible assumption) | assumption)
                obtain ⟨go26, co26, eo26, gb26, gl26, cl26, HG26⟩ := Kd.R_form HO_3.out (by omega)
                (first | cases eo26 | (injection eo26 with ea_ en_ ec_; (first | subst ea_ | (injection ea_ with ea_; subst ea_)); subst ec_; clear en_))
                have GB26 := Aside0.mk gb26
                have GG26 := Aside0.mk HG26
                clear gb26 gl26 HG26
                obtain ⟨hx26_0, hf26_0⟩ := Kd.R_celln 0 HO_3.out (x11_1 : Int) p26 q26
                replace p26 := eq_true p26
                replace q26 := eq_true q26
                have HP32 := Kd.R_putg HO_3.out (x11_1 : Int) (rd x4_6 (ji21))
                go_wp2_with (first | ((with_reducible refine gate_store (t := 3) (p := 54) rfl ?_); (try (rw [drewN_self wc]; generalize hq_ : World.drewN wc _ = wc; have n0_ := Aside0.mk (Kd.R_at hq_ HO_3.out); have n1_ := Aside0.mk (Kd.R_at hq_ HO_4.out); have n2_ := Aside0.mk (below_at hq_ HB.out); clear hq_ HO_3 HO_4 HB; have HO_3 := n0_; have HO_4 := n1_; have HB := n2_; clear n0_ n1_ n2_; (try (have HP32 := Kd.R_putg HO_3.out (x11_1 : Int) (rd x4_6 (ji21)))))); refine store_event (t := 3) (p := 54) (v := ?vo_w33) (w1 := (wc.setCell ⟨go26, (x11_1 : Int).toNat, none⟩ (.int .i64 (rd x4_6 (ji21))))) ?hg ?ho ?hn ?hr ?_; (case ho => rfl); (case hg => rfl); (case hn => rfl); (case hr => first | (go_simp; done) | (go_simp; rfl)); intro w33 hw; have hg : wc.grownBy w33 (some go26) := (by rw [hw]; exact HP32.2); have hp_ : Kd.R (Kd.int .i64) 3 w33 w.heap.size (fun k_ => some k_ ≠ (.slice (some ad193) x4_6.length co31 : Value).ownBlock) (.slice (some ⟨go26, 0, none⟩) x3_1.length co26) y194 := (by rw [hw, Ny194.out]; exact HP32.1); clear HP32; have n0_ := Aside0.mk (hp_); have n1_ := Aside0.mk (Kd.R_after (v := (.slice (some ⟨go26, 0, none⟩) x3_1.length co26)) (v1 := (.slice (some ⟨go26, 0, none⟩) x3_1.length co26)) (ok := (fun _ => True)) (by (with_reducible repeat (first | apply Kd.R_alloc | apply Kd.R_drewN | apply Kd.R_drew)); exact Kd.R_mono HO_4.out (fun _ hk => ⟨trivial, hk⟩)) hg (.inl rfl)); have n2_ := Aside0.mk ((by rw [hw]; exact below_set (HB.out) GB26.out : Below w.heap.size w w33)); clear HO_3; clear HO_4; clear HB; have HO_3 := n0_; have HO_4 := n1_; have HB := n2_; clear n0_ n1_ n2_; clear hg hw hp_; have p195 : 0 ≤ (x11_1 : Int) := of_decide_eq_true (by first | (with_reducible assumption) | assumption); have q195 : x11_1 < (l0.length : Int) := of_decide_eq_true (by first | (with_reducible assumption) | assumption); obtain ⟨ad195, e195, hx195_0, hx195_1, hx195_2, hx195_3⟩ := at_T56 HR0.out x11_1 p195 q195; cases e195; replace hx195_0 := (HB.out.cell (World.block_lt_of_cell? w _ hx195_0)).trans hx195_0; replace hx195_1 := (HB.out.cell (World.block_lt_of_cell? w _ hx195_1)).trans hx195_1; replace hx195_2 := (HB.out.cell (World.block_lt_of_cell? w _ hx195_2)).trans hx195_2; replace hx195_3 := (HB.out.cell (World.block_lt_of_cell? w _ hx195_3)).trans hx195_3; replace p195 := eq_true p195; replace q195 := eq_true q195) | (go_at_call 163; (with_reducible refine (strings_IndexByte.calls (⟨#[49, 50, 51, 112, 105, 99, 110]⟩ : ByteArray) ((rd_T56 l0 x11_1).f0) t196 _ A28.out).mono ?_); rintro e w34 ⟨rfl, hb⟩; have n0_ := Aside0.mk (Kd.R_below (by (with_reducible repeat (first | apply Kd.R_alloc | apply Kd.R_drewN | apply Kd.R_drew)); exact HO_3.out) hb); have n1_ := Aside0.mk (Kd.R_below (by (with_reducible repeat (first | apply Kd.R_alloc | apply Kd.R_drewN | apply Kd.R_drew)); exact HO_4.out) hb); have n2_ := Aside0.mk (below_step (by repeat (first | (with_reducible first | exact HB.out | apply below_alloc | apply pw_below_drewN | apply below_drew1) | exact HB.out)) hb); clear HO_3; clear HO_4; clear HB; have HO_3 := n0_; have HO_4 := n1_; have HB := n2_; clear n0_ n1_ n2_; (try clear hb); (try clear hb2); (try clear hk); (try clear hi)) | ((with_reducible refine gate_builtin (b := .append) (xs := #[.tmp 62, .tmp 64]) rfl ?_); (try (refine gate_guard (by rfl) ?_; dsimp only)); at_builtin; refine Kd.R_append (Kd.int .i64) (w0 := w) w.heap.size rfl (.tmp 62) (.tmp 64) 167 3 (.int .i64 0) 8 rfl Try.underlying167 info3 rfl (by decide) (by omega) (.slice (some ad193) x4_6.length co31) x4_6 x11_1 [.int .i64 x11_1] (fun k_ => some k_ ≠ (.slice (some ⟨go26, 0, none⟩) x3_1.length co26 : Value).ownBlock) (fun _ => False) rfl rfl ?aP (fun _ hk => hk.elim) ?aF ?aO ?aB ?aS ?aL ?_; (case aP => exact rfl); (case aB => exact (by repeat (first | (with_reducible first | exact HB.out | apply below_alloc | apply pw_below_drewN | apply below_drew1) | exact HB.out))); (case aF => exact (fun k_ hk => Kd.fresh' (Kd.R_lt (by (with_reducible repeat (first | apply Kd.R_alloc | apply Kd.R_drewN | apply Kd.R_drew)); exact HO_3.out)) k_ hk)); (case aO => exact (by (with_reducible repeat (first | apply Kd.R_alloc | apply Kd.R_drewN | apply Kd.R_drew)); exact Kd.R_mono HO_4.out (fun _ hk => hk.2))); (case aS => exact (below_size (by repeat (first | (with_reducible first | exact HB.out | apply below_alloc | apply pw_below_drewN | apply below_drew1) | exact HB.out)))); (case aL => have := LMc30.out; omega); intro v198 w35 ho hb hg hat; rw [← Ny197.out] at ho; have n0_ := Aside0.mk (Kd.R_after (ok := (fun _ => True)) (by (with_reducible repeat (first | apply Kd.R_alloc | apply Kd.R_drewN | apply Kd.R_drew)); exact Kd.R_mono HO_3.out (fun _ hk => ⟨trivial, hk⟩)) hg hat); have n1_ := Aside0.mk (hb); have n2_ := Aside0.mk (ho); clear HO_3; clear HB; clear HO_4; have HO_3 := n0_; have HB := n1_; have HO199 := n2_; clear n0_ n1_ n2_; clear ho hb hg hat))
                repeat (go_quiet (first | ((with_reducible refine gate_store (t := 3) (p := 54) rfl ?_); (try (rw [drewN_self wc]; generalize hq_ : World.drewN wc _ = wc; have n0_ := Aside0.mk (Kd.R_at hq_ HO_3.out); have n1_ := Aside0.mk (Kd.R_at hq_ HO_4.out); have n2_ := Aside0.mk (below_at hq_ HB.out); clear hq_ HO_3 HO_4 HB; have HO_3 := n0_; have HO_4 := n1_; have HB := n2_; clear n0_ n1_ n2_; (try (have HP32 := Kd.R_putg HO_3.out (x11_1 : Int) (rd x4_6 (ji21)))))); refine store_event (t := 3) (p := 54) (v := ?vo_w33) (w1 := (wc.setCell ⟨go26, (x11_1 : Int).toNat, none⟩ (.int .i64 (rd x4_6 (ji21))))) ?hg ?ho ?hn ?hr ?_; (case ho => rfl); (case hg => rfl); (case hn => rfl); (case hr => first | (go_simp; done) | (go_simp; rfl)); intro w33 hw; have hg : wc.grownBy w33 (some go26) := (by rw [hw]; exact HP32.2); have hp_ : Kd.R (Kd.int .i64) 3 w33 w.heap.size (fun k_ => some k_ ≠ (.slice (some ad193) x4_6.length co31 : Value).ownBlock) (.slice (some ⟨go26, 0, none⟩) x3_1.length co26) y194 := (by rw [hw, Ny194.out]; exact HP32.1); clear HP32; have n0_ := Aside0.mk (hp_); have n1_ := Aside0.mk (Kd.R_after (v := (.slice (some ⟨go26, 0, none⟩) x3_1.length co26)) (v1 := (.slice (some ⟨go26, 0, none⟩) x3_1.length co26)) (ok := (fun _ => True)) (by (with_reducible repeat (first | apply Kd.R_alloc | apply Kd.R_drewN | apply Kd.R_drew)); exact Kd.R_mono HO_4.out (fun _ hk => ⟨trivial, hk⟩)) hg (.inl rfl)); have n2_ := Aside0.mk ((by rw [hw]; exact below_set (HB.out) GB26.out : Below w.heap.size w w33)); clear HO_3; clear HO_4; clear HB; have HO_3 := n0_; have HO_4 := n1_; have HB := n2_; clear n0_ n1_ n2_; clear hg hw hp_; have p195 : 0 ≤ (x11_1 : Int) := of_decide_eq_true (by first | (with_reducible assumption) | assumption); have q195 : x11_1 < (l0.length : Int) := of_decide_eq_true (by first | (with_reducible assumption) | assumption); obtain ⟨ad195, e195, hx195_0, hx195_1, hx195_2, hx195_3⟩ := at_T56 HR0.out x11_1 p195 q195; cases e195; replace hx195_0 := (HB.out.cell (World.block_lt_of_cell? w _ hx195_0)).trans hx195_0; replace hx195_1 := (HB.out.cell (World.block_lt_of_cell? w _ hx195_1)).trans hx195_1; replace hx195_2 := (HB.out.cell (World.block_lt_of_cell? w _ hx195_2)).trans hx195_2; replace hx195_3 := (HB.out.cell (World.block_lt_of_cell? w _ hx195_3)).trans hx195_3; replace p195 := eq_true p195; replace q195 := eq_true q195) | (go_at_call 163; (with_reducible refine (strings_IndexByte.calls (⟨#[49, 50, 51, 112, 105, 99, 110]⟩ : ByteArray) ((rd_T56 l0 x11_1).f0) t196 _ A28.out).mono ?_); rintro e w34 ⟨rfl, hb⟩; have n0_ := Aside0.mk (Kd.R_below (by (with_reducible repeat (first | apply Kd.R_alloc | apply Kd.R_drewN | apply Kd.R_drew)); exact HO_3.out) hb); have n1_ := Aside0.mk (Kd.R_below (by (with_reducible repeat (first | apply Kd.R_alloc | apply Kd.R_drewN | apply Kd.R_drew)); exact HO_4.out) hb); have n2_ := Aside0.mk (below_step (by repeat (first | (with_reducible first | exact HB.out | apply below_alloc | apply pw_below_drewN | apply below_drew1) | exact HB.out)) hb); clear HO_3; clear HO_4; clear HB; have HO_3 := n0_; have HO_4 := n1_; have HB := n2_; clear n0_ n1_ n2_; (try clear hb); (try clear hb2); (try clear hk); (try clear hi)) | ((with_reducible refine gate_builtin (b := .append) (xs := #[.tmp 62, .tmp 64]) rfl ?_); (try (refine gate_guard (by rfl) ?_; dsimp only)); at_builtin; refine Kd.R_append (Kd.int .i64) (w0 := w) w.heap.size rfl (.tmp 62) (.tmp 64) 167 3 (.int .i64 0) 8 rfl Try.underlying167 info3 rfl (by decide) (by omega) (.slice (some ad193) x4_6.length co31) x4_6 x11_1 [.int .i64 x11_1] (fun k_ => some k_ ≠ (.slice (some ⟨go26, 0, none⟩) x3_1.length co26 : Value).ownBlock) (fun _ => False) rfl rfl ?aP (fun _ hk => hk.elim) ?aF ?aO ?aB ?aS ?aL ?_; (case aP => exact rfl); (case aB => exact (by repeat (first | (with_reducible first | exact HB.out | apply below_alloc | apply pw_below_drewN | apply below_drew1) | exact HB.out))); (case aF => exact (fun k_ hk => Kd.fresh' (Kd.R_lt (by (with_reducible repeat (first | apply Kd.R_alloc | apply Kd.R_drewN | apply Kd.R_drew)); exact HO_3.out)) k_ hk)); (case aO => exact (by (with_reducible repeat (first | apply Kd.R_alloc | apply Kd.R_drewN | apply Kd.R_drew)); exact Kd.R_mono HO_4.out (fun _ hk => hk.2))); (case aS => exact (below_size (by repeat (first | (with_reducible first | exact HB.out | apply below_alloc | apply pw_below_drewN | apply below_drew1) | exact HB.out)))); (case aL => have := LMc30.out; omega); intro v198 w35 ho hb hg hat; rw [← Ny197.out] at ho; have n0_ := Aside0.mk (Kd.R_after (ok := (fun _ => True)) (by (with_reducible repeat (first | apply Kd.R_alloc | apply Kd.R_drewN | apply Kd.R_drew)); exact Kd.R_mono HO_3.out (fun _ hk => ⟨trivial, hk⟩)) hg hat); have n1_ := Aside0.mk (hb); have n2_ := Aside0.mk (ho); clear HO_3; clear HB; clear HO_4; have HO_3 := n0_; have HB := n1_; have HO199 := n2_; clear n0_ n1_ n2_; clear ho hb hg hat)); try go_wp2_with (first | ((with_reducible refine gate_store (t := 3) (p := 54) rfl ?_); (try (rw [drewN_self wc]; generalize hq_ : World.drewN wc _ = wc; have n0_ := Aside0.mk (Kd.R_at hq_ HO_3.out); have n1_ := Aside0.mk (Kd.R_at hq_ HO_4.out); have n2_ := Aside0.mk (below_at hq_ HB.out); clear hq_ HO_3 HO_4 HB; have HO_3 := n0_; have HO_4 := n1_; have HB := n2_; clear n0_ n1_ n2_; (try (have HP32 := Kd.R_putg HO_3.out (x11_1 : Int) (rd x4_6 (ji21)))))); refine store_event (t := 3) (p := 54) (v := ?vo_w33) (w1 := (wc.setCell ⟨go26, (x11_1 : Int).toNat, none⟩ (.int .i64 (rd x4_6 (ji21))))) ?hg ?ho ?hn ?hr ?_; (case ho => rfl); (case hg => rfl); (case hn => rfl); (case hr => first | (go_simp; done) | (go_simp; rfl)); intro w33 hw; have hg : wc.grownBy w33 (some go26) := (by rw [hw]; exact HP32.2); have hp_ : Kd.R (Kd.int .i64) 3 w33 w.heap.size (fun k_ => some k_ ≠ (.slice (some ad193) x4_6.length co31 : Value).ownBlock) (.slice (some ⟨go26, 0, none⟩) x3_1.length co26) y194 := (by rw [hw, Ny194.out]; exact HP32.1); clear HP32; have n0_ := Aside0.mk (hp_); have n1_ := Aside0.mk (Kd.R_after (v := (.slice (some ⟨go26, 0, none⟩) x3_1.length co26)) (v1 := (.slice (some ⟨go26, 0, none⟩) x3_1.length co26)) (ok := (fun _ => True)) (by (with_reducible repeat (first | apply Kd.R_alloc | apply Kd.R_drewN | apply Kd.R_drew)); exact Kd.R_mono HO_4.out (fun _ hk => ⟨trivial, hk⟩)) hg (.inl rfl)); have n2_ := Aside0.mk ((by rw [hw]; exact below_set (HB.out) GB26.out : Below w.heap.size w w33)); clear HO_3; clear HO_4; clear HB; have HO_3 := n0_; have HO_4 := n1_; have HB := n2_; clear n0_ n1_ n2_; clear hg hw hp_; have p195 : 0 ≤ (x11_1 : Int) := of_decide_eq_true (by first | (with_reducible assumption) | assumption); have q195 : x11_1 < (l0.length : Int) := of_decide_eq_true (by first | (with_reducible assumption) | assumption); obtain ⟨ad195, e195, hx195_0, hx195_1, hx195_2, hx195_3⟩ := at_T56 HR0.out x11_1 p195 q195; cases e195; replace hx195_0 := (HB.out.cell (World.block_lt_of_cell? w _ hx195_0)).trans hx195_0; replace hx195_1 := (HB.out.cell (World.block_lt_of_cell? w _ hx195_1)).trans hx195_1; replace hx195_2 := (HB.out.cell (World.block_lt_of_cell? w _ hx195_2)).trans hx195_2; replace hx195_3 := (HB.out.cell (World.block_lt_of_cell? w _ hx195_3)).trans hx195_3; replace p195 := eq_true p195; replace q195 := eq_true q195) | (go_at_call 163; (with_reducible refine (strings_IndexByte.calls (⟨#[49, 50, 51, 112, 105, 99, 110]⟩ : ByteArray) ((rd_T56 l0 x11_1).f0) t196 _ A28.out).mono ?_); rintro e w34 ⟨rfl, hb⟩; have n0_ := Aside0.mk (Kd.R_below (by (with_reducible repeat (first | apply Kd.R_alloc | apply Kd.R_drewN | apply Kd.R_drew)); exact HO_3.out) hb); have n1_ := Aside0.mk (Kd.R_below (by (with_reducible repeat (first | apply Kd.R_alloc | apply Kd.R_drewN | apply Kd.R_drew)); exact HO_4.out) hb); have n2_ := Aside0.mk (below_step (by repeat (first | (with_reducible first | exact HB.out | apply below_alloc | apply pw_below_drewN | apply below_drew1) | exact HB.out)) hb); clear HO_3; clear HO_4; clear HB; have HO_3 := n0_; have HO_4 := n1_; have HB := n2_; clear n0_ n1_ n2_; (try clear hb); (try clear hb2); (try clear hk); (try clear hi)) | ((with_reducible refine gate_builtin (b := .append) (xs := #[.tmp 62, .tmp 64]) rfl ?_); (try (refine gate_guard (by rfl) ?_; dsimp only)); at_builtin; refine Kd.R_append (Kd.int .i64) (w0 := w) w.heap.size rfl (.tmp 62) (.tmp 64) 167 3 (.int .i64 0) 8 rfl Try.underlying167 info3 rfl (by decide) (by omega) (.slice (some ad193) x4_6.length co31) x4_6 x11_1 [.int .i64 x11_1] (fun k_ => some k_ ≠ (.slice (some ⟨go26, 0, none⟩) x3_1.length co26 : Value).ownBlock) (fun _ => False) rfl rfl ?aP (fun _ hk => hk.elim) ?aF ?aO ?aB ?aS ?aL ?_; (case aP => exact rfl); (case aB => exact (by repeat (first | (with_reducible first | exact HB.out | apply below_alloc | apply pw_below_drewN | apply below_drew1) | exact HB.out))); (case aF => exact (fun k_ hk => Kd.fresh' (Kd.R_lt (by (with_reducible repeat (first | apply Kd.R_alloc | apply Kd.R_drewN | apply Kd.R_drew)); exact HO_3.out)) k_ hk)); (case aO => exact (by (with_reducible repeat (first | apply Kd.R_alloc | apply Kd.R_drewN | apply Kd.R_drew)); exact Kd.R_mono HO_4.out (fun _ hk => hk.2))); (case aS => exact (below_size (by repeat (first | (with_reducible first | exact HB.out | apply below_alloc | apply pw_below_drewN | apply below_drew1) | exact HB.out)))); (case aL => have := LMc30.out; omega); intro v198 w35 ho hb hg hat; rw [← Ny197.out] at ho; have n0_ := Aside0.mk (Kd.R_after (ok := (fun _ => True)) (by (with_reducible repeat (first | apply Kd.R_alloc | apply Kd.R_drewN | apply Kd.R_drew)); exact Kd.R_mono HO_3.out (fun _ hk => ⟨trivial, hk⟩)) hg hat); have n1_ := Aside0.mk (hb); have n2_ := Aside0.mk (ho); clear HO_3; clear HB; clear HO_4; have HO_3 := n0_; have HB := n1_; have HO199 := n2_; clear n0_ n1_ n2_; clear ho hb hg hat)))
                go_roundg kj6
                case measure => have := HK1.out; have := HJ6.out; omega
                case rel => exact ⟨(y194), (y197), (wrap64 (x11_1 + 1)), (by first | rfl | (simp; done) | (simp [*]; done)), H', ⟨by have := HK1.out; have := HJ6.out; omega⟩, ⟨by (with_reducible repeat (first | apply Kd.R_alloc | apply Kd.R_drewN | apply Kd.R_drew)); exact Kd.R_mono HO_3.out (fun _ hk => hk.2)⟩, ⟨by (with_reducible repeat (first | apply Kd.R_alloc | apply Kd.R_drewN | apply Kd.R_drew)); exact HO199.out⟩, ⟨by repeat (first | (with_reducible first | exact HB.out | apply below_alloc | apply pw_below_drewN | apply below_drew1) | exact HB.out)⟩⟩
               ·rw [if_neg c30] at H
                exact absurd H (by simp)
              ·rw [if_neg c29] at H
               have c29b0 : decide (0 ≤ t196) = false := decide_eq_false c29
               clear c29
               have H' := Aside0.mk H
               clear H
               obtain ⟨Ao36, co36, eo36⟩ := Kd.R_slice HO_4.out
               subst eo36
               have p193 : 0 ≤ ((ji21) : Int) := of_decide_eq_true (by first | (with_reducible assumption) | assumption)
               have q193 : (ji21) < (x4_6.length : Int) := of_decide_eq_true (by first | (with_reducible assumption) | assumption)
               obtain ⟨ad193, e193, hx193_0⟩ := Kd.at_int (Kd.R_reads' HO_4.out).2.2 (ji21) p193 q193
               cases e193
               replace p193 := eq_true p193
               replace q193 := eq_true q193
               have p26 : 0 ≤ (x11_1 : Int) := of_decide_eq_true (by first | (with_reducible assumption) | assumption)
               have q26 : (x11_1 : Int) < ((x3_1.length : Int) : Int) := of_decide_eq_true (by first | (with_reducible assumption) | assumption)
               obtain ⟨go26, co26, eo26, gb26, gl26, cl26, HG26⟩ := Kd.R_form HO_3.out (by omega)
               (first | cases eo26 | (injection eo26 with ea_ en_ ec_; (first | subst ea_ | (injection ea_ with ea_; subst ea_)); subst ec_; clear en_))
               have GB26 := Aside0.mk gb26
               have GG26 := Aside0.mk HG26
               clear gb26 gl26 HG26
               obtain ⟨hx26_0, hf26_0⟩ := Kd.R_celln 0 HO_3.out (x11_1 : Int) p26 q26
               replace p26 := eq_true p26
               replace q26 := eq_true q26
               have HP37 := Kd.R_putg HO_3.out (x11_1 : Int) (rd x4_6 (ji21))
               go_wp2_with (first | ((with_reducible refine gate_store (t := 3) (p := 54) rfl ?_); (try (rw [drewN_self wc]; generalize hq_ : World.drewN wc _ = wc; have n0_ := Aside0.mk (Kd.R_at hq_ HO_3.out); have n1_ := Aside0.mk (Kd.R_at hq_ HO_4.out); have n2_ := Aside0.mk (below_at hq_ HB.out); clear hq_ HO_3 HO_4 HB; have HO_3 := n0_; have HO_4 := n1_; have HB := n2_; clear n0_ n1_ n2_; (try (have HP37 := Kd.R_putg HO_3.out (x11_1 : Int) (rd x4_6 (ji21)))))); refine store_event (t := 3) (p := 54) (v := ?vo_w38) (w1 := (wc.setCell ⟨go26, (x11_1 : Int).toNat, none⟩ (.int .i64 (rd x4_6 (ji21))))) ?hg ?ho ?hn ?hr ?_; (case ho => rfl); (case hg => rfl); (case hn => rfl); (case hr => first | (go_simp; done) | (go_simp; rfl)); intro w38 hw; have hg : wc.grownBy w38 (some go26) := (by rw [hw]; exact HP37.2); have hp_ : Kd.R (Kd.int .i64) 3 w38 w.heap.size (fun k_ => some k_ ≠ (.slice (some ad193) x4_6.length co36 : Value).ownBlock) (.slice (some ⟨go26, 0, none⟩) x3_1.length co26) y194 := (by rw [hw, Ny194.out]; exact HP37.1); clear HP37; have n0_ := Aside0.mk (hp_); have n1_ := Aside0.mk (Kd.R_after (v := (.slice (some ⟨go26, 0, none⟩) x3_1.length co26)) (v1 := (.slice (some ⟨go26, 0, none⟩) x3_1.length co26)) (ok := (fun _ => True)) (by (with_reducible repeat (first | apply Kd.R_alloc | apply Kd.R_drewN | apply Kd.R_drew)); exact Kd.R_mono HO_4.out (fun _ hk => ⟨trivial, hk⟩)) hg (.inl rfl)); have n2_ := Aside0.mk ((by rw [hw]; exact below_set (HB.out) GB26.out : Below w.heap.size w w38)); clear HO_3; clear HO_4; clear HB; have HO_3 := n0_; have HO_4 := n1_; have HB := n2_; clear n0_ n1_ n2_; clear hg hw hp_; have p195 : 0 ≤ (x11_1 : Int) := of_decide_eq_true (by first | (with_reducible assumption) | assumption); have q195 : x11_1 < (l0.length : Int) := of_decide_eq_true (by first | (with_reducible assumption) | assumption); obtain ⟨ad195, e195, hx195_0, hx195_1, hx195_2, hx195_3⟩ := at_T56 HR0.out x11_1 p195 q195; cases e195; replace hx195_0 := (HB.out.cell (World.block_lt_of_cell? w _ hx195_0)).trans hx195_0; replace hx195_1 := (HB.out.cell (World.block_lt_of_cell? w _ hx195_1)).trans hx195_1; replace hx195_2 := (HB.out.cell (World.block_lt_of_cell? w _ hx195_2)).trans hx195_2; replace hx195_3 := (HB.out.cell (World.block_lt_of_cell? w _ hx195_3)).trans hx195_3; replace p195 := eq_true p195; replace q195 := eq_true q195) | (go_at_call 163; (with_reducible refine (strings_IndexByte.calls (⟨#[49, 50, 51, 112, 105, 99, 110]⟩ : ByteArray) ((rd_T56 l0 x11_1).f0) t196 _ A28.out).mono ?_); rintro e w39 ⟨rfl, hb⟩; have n0_ := Aside0.mk (Kd.R_below (by (with_reducible repeat (first | apply Kd.R_alloc | apply Kd.R_drewN | apply Kd.R_drew)); exact HO_3.out) hb); have n1_ := Aside0.mk (Kd.R_below (by (with_reducible repeat (first | apply Kd.R_alloc | apply Kd.R_drewN | apply Kd.R_drew)); exact HO_4.out) hb); have n2_ := Aside0.mk (below_step (by repeat (first | (with_reducible first | exact HB.out | apply below_alloc | apply pw_below_drewN | apply below_drew1) | exact HB.out)) hb); clear HO_3; clear HO_4; clear HB; have HO_3 := n0_; have HO_4 := n1_; have HB := n2_; clear n0_ n1_ n2_; (try clear hb); (try clear hb2); (try clear hk); (try clear hi)))
               repeat (go_quiet (first | ((with_reducible refine gate_store (t := 3) (p := 54) rfl ?_); (try (rw [drewN_self wc]; generalize hq_ : World.drewN wc _ = wc; have n0_ := Aside0.mk (Kd.R_at hq_ HO_3.out); have n1_ := Aside0.mk (Kd.R_at hq_ HO_4.out); have n2_ := Aside0.mk (below_at hq_ HB.out); clear hq_ HO_3 HO_4 HB; have HO_3 := n0_; have HO_4 := n1_; have HB := n2_; clear n0_ n1_ n2_; (try (have HP37 := Kd.R_putg HO_3.out (x11_1 : Int) (rd x4_6 (ji21)))))); refine store_event (t := 3) (p := 54) (v := ?vo_w38) (w1 := (wc.setCell ⟨go26, (x11_1 : Int).toNat, none⟩ (.int .i64 (rd x4_6 (ji21))))) ?hg ?ho ?hn ?hr ?_; (case ho => rfl); (case hg => rfl); (case hn => rfl); (case hr => first | (go_simp; done) | (go_simp; rfl)); intro w38 hw; have hg : wc.grownBy w38 (some go26) := (by rw [hw]; exact HP37.2); have hp_ : Kd.R (Kd.int .i64) 3 w38 w.heap.size (fun k_ => some k_ ≠ (.slice (some ad193) x4_6.length co36 : Value).ownBlock) (.slice (some ⟨go26, 0, none⟩) x3_1.length co26) y194 := (by rw [hw, Ny194.out]; exact HP37.1); clear HP37; have n0_ := Aside0.mk (hp_); have n1_ := Aside0.mk (Kd.R_after (v := (.slice (some ⟨go26, 0, none⟩) x3_1.length co26)) (v1 := (.slice (some ⟨go26, 0, none⟩) x3_1.length co26)) (ok := (fun _ => True)) (by (with_reducible repeat (first | apply Kd.R_alloc | apply Kd.R_drewN | apply Kd.R_drew)); exact Kd.R_mono HO_4.out (fun _ hk => ⟨trivial, hk⟩)) hg (.inl rfl)); have n2_ := Aside0.mk ((by rw [hw]; exact below_set (HB.out) GB26.out : Below w.heap.size w w38)); clear HO_3; clear HO_4; clear HB; have HO_3 := n0_; have HO_4 := n1_; have HB := n2_; clear n0_ n1_ n2_; clear hg hw hp_; have p195 : 0 ≤ (x11_1 : Int) := of_decide_eq_true (by first | (with_reducible assumption) | assumption); have q195 : x11_1 < (l0.length : Int) := of_decide_eq_true (by first | (with_reducible assumption) | assumption); obtain ⟨ad195, e195, hx195_0, hx195_1, hx195_2, hx195_3⟩ := at_T56 HR0.out x11_1 p195 q195; cases e195; replace hx195_0 := (HB.out.cell (World.block_lt_of_cell? w _ hx195_0)).trans hx195_0; replace hx195_1 := (HB.out.cell (World.block_lt_of_cell? w _ hx195_1)).trans hx195_1; replace hx195_2 := (HB.out.cell (World.block_lt_of_cell? w _ hx195_2)).trans hx195_2; replace hx195_3 := (HB.out.cell (World.block_lt_of_cell? w _ hx195_3)).trans hx195_3; replace p195 := eq_true p195; replace q195 := eq_true q195) | (go_at_call 163; (with_reducible refine (strings_IndexByte.calls (⟨#[49, 50, 51, 112, 105, 99, 110]⟩ : ByteArray) ((rd_T56 l0 x11_1).f0) t196 _ A28.out).mono ?_); rintro e w39 ⟨rfl, hb⟩; have n0_ := Aside0.mk (Kd.R_below (by (with_reducible repeat (first | apply Kd.R_alloc | apply Kd.R_drewN | apply Kd.R_drew)); exact HO_3.out) hb); have n1_ := Aside0.mk (Kd.R_below (by (with_reducible repeat (first | apply Kd.R_alloc | apply Kd.R_drewN | apply Kd.R_drew)); exact HO_4.out) hb); have n2_ := Aside0.mk (below_step (by repeat (first | (with_reducible first | exact HB.out | apply below_alloc | apply pw_below_drewN | apply below_drew1) | exact HB.out)) hb); clear HO_3; clear HO_4; clear HB; have HO_3 := n0_; have HO_4 := n1_; have HB := n2_; clear n0_ n1_ n2_; (try clear hb); (try clear hb2); (try clear hk); (try clear hi))); try go_wp2_with (first | ((with_reducible refine gate_store (t := 3) (p := 54) rfl ?_); (try (rw [drewN_self wc]; generalize hq_ : World.drewN wc _ = wc; have n0_ := Aside0.mk (Kd.R_at hq_ HO_3.out); have n1_ := Aside0.mk (Kd.R_at hq_ HO_4.out); have n2_ := Aside0.mk (below_at hq_ HB.out); clear hq_ HO_3 HO_4 HB; have HO_3 := n0_; have HO_4 := n1_; have HB := n2_; clear n0_ n1_ n2_; (try (have HP37 := Kd.R_putg HO_3.out (x11_1 : Int) (rd x4_6 (ji21)))))); refine store_event (t := 3) (p := 54) (v := ?vo_w38) (w1 := (wc.setCell ⟨go26, (x11_1 : Int).toNat, none⟩ (.int .i64 (rd x4_6 (ji21))))) ?hg ?ho ?hn ?hr ?_; (case ho => rfl); (case hg => rfl); (case hn => rfl); (case hr => first | (go_simp; done) | (go_simp; rfl)); intro w38 hw; have hg : wc.grownBy w38 (some go26) := (by rw [hw]; exact HP37.2); have hp_ : Kd.R (Kd.int .i64) 3 w38 w.heap.size (fun k_ => some k_ ≠ (.slice (some ad193) x4_6.length co36 : Value).ownBlock) (.slice (some ⟨go26, 0, none⟩) x3_1.length co26) y194 := (by rw [hw, Ny194.out]; exact HP37.1); clear HP37; have n0_ := Aside0.mk (hp_); have n1_ := Aside0.mk (Kd.R_after (v := (.slice (some ⟨go26, 0, none⟩) x3_1.length co26)) (v1 := (.slice (some ⟨go26, 0, none⟩) x3_1.length co26)) (ok := (fun _ => True)) (by (with_reducible repeat (first | apply Kd.R_alloc | apply Kd.R_drewN | apply Kd.R_drew)); exact Kd.R_mono HO_4.out (fun _ hk => ⟨trivial, hk⟩)) hg (.inl rfl)); have n2_ := Aside0.mk ((by rw [hw]; exact below_set (HB.out) GB26.out : Below w.heap.size w w38)); clear HO_3; clear HO_4; clear HB; have HO_3 := n0_; have HO_4 := n1_; have HB := n2_; clear n0_ n1_ n2_; clear hg hw hp_; have p195 : 0 ≤ (x11_1 : Int) := of_decide_eq_true (by first | (with_reducible assumption) | assumption); have q195 : x11_1 < (l0.length : Int) := of_decide_eq_true (by first | (with_reducible assumption) | assumption); obtain ⟨ad195, e195, hx195_0, hx195_1, hx195_2, hx195_3⟩ := at_T56 HR0.out x11_1 p195 q195; cases e195; replace hx195_0 := (HB.out.cell (World.block_lt_of_cell? w _ hx195_0)).trans hx195_0; replace hx195_1 := (HB.out.cell (World.block_lt_of_cell? w _ hx195_1)).trans hx195_1; replace hx195_2 := (HB.out.cell (World.block_lt_of_cell? w _ hx195_2)).trans hx195_2; replace hx195_3 := (HB.out.cell (World.block_lt_of_cell? w _ hx195_3)).trans hx195_3; replace p195 := eq_true p195; replace q195 := eq_true q195) | (go_at_call 163; (with_reducible refine (strings_IndexByte.calls (⟨#[49, 50, 51, 112, 105, 99, 110]⟩ : ByteArray) ((rd_T56 l0 x11_1).f0) t196 _ A28.out).mono ?_); rintro e w39 ⟨rfl, hb⟩; have n0_ := Aside0.mk (Kd.R_below (by (with_reducible repeat (first | apply Kd.R_alloc | apply Kd.R_drewN | apply Kd.R_drew)); exact HO_3.out) hb); have n1_ := Aside0.mk (Kd.R_below (by (with_reducible repeat (first | apply Kd.R_alloc | apply Kd.R_drewN | apply Kd.R_drew)); exact HO_4.out) hb); have n2_ := Aside0.mk (below_step (by repeat (first | (with_reducible first | exact HB.out | apply below_alloc | apply pw_below_drewN | apply below_drew1) | exact HB.out)) hb); clear HO_3; clear HO_4; clear HB; have HO_3 := n0_; have HO_4 := n1_; have HB := n2_; clear n0_ n1_ n2_; (try clear hb); (try clear hb2); (try clear hk); (try clear hi))))
               go_roundg kj6
               case measure => have := HK1.out; have := HJ6.out; omega
               case rel => exact ⟨(y194), (x4_6), (wrap64 (x11_1 + 1)), (by first | rfl | (simp; done) | (simp [*]; done)), H', ⟨by have := HK1.out; have := HJ6.out; omega⟩, ⟨by (with_reducible repeat (first | apply Kd.R_alloc | apply Kd.R_drewN | apply Kd.R_drew)); exact HO_3.out⟩, ⟨by (with_reducible repeat (first | apply Kd.R_alloc | apply Kd.R_drewN | apply Kd.R_drew)); exact Kd.R_mono HO_4.out (fun _ hk => hk.2)⟩, ⟨by repeat (first | (with_reducible first | exact HB.out | apply below_alloc | apply pw_below_drewN | apply below_drew1) | exact HB.out)⟩⟩
             ·rw [if_neg c27] at H
              exact absurd H (by simp)
            ·rw [if_neg c25] at H
             exact absurd H (by simp)
           ·rw [if_neg c24] at H
            exact absurd H (by simp)
          ·rw [if_neg c23] at H
           exact absurd H (by simp)
         ·rw [if_neg c22] at H
          exact absurd H (by simp)
        ·rw [if_neg c20] at H
         have c20b0 : decide (0 < (x4_6.length : Int)) = false := decide_eq_false c20
         have c20b1 : decide (0 < x4_6.length) = false := decide_eq_false (by omega)
         clear c20
         by_cases c40 : 0 ≤ x11_1
         ·rw [if_pos c40] at H
          have c40b0 : decide (0 ≤ x11_1) = true := decide_eq_true c40
          clear c40
          by_cases c41 : x11_1 < (l0.length : Int)
          ·rw [if_pos c41] at H
           have c41b0 : decide (x11_1 < (l0.length : Int)) = true := decide_eq_true c41
           clear c41
           replace H := Option.bind_eq_some_iff.mp H
           obtain ⟨t201, A420, H⟩ := H
           replace H : (if t201 ≥ 0 then (if x4_6.length < 17592186044416 then (norm_owners.l0 kj6 l0 x3_1 (x4_6 ++ [x11_1]) (l0.length : Int) (wrap64 (x11_1 + 1))) else (none)) else (norm_owners.l0 kj6 l0 x3_1 x4_6 (l0.length : Int) (wrap64 (x11_1 + 1)))) = some r := H
           have A42 := Aside0.mk A420
           clear A420
           by_cases c43 : t201 ≥ 0
           ·rw [if_pos c43] at H
            have c43b0 : decide (0 ≤ t201) = true := decide_eq_true c43
            clear c43
            by_cases c44 : x4_6.length < 17592186044416
            ·rw [if_pos c44] at H
             have LMc44 := Aside0.mk c44
             clear c44
             obtain ⟨y202, hy202⟩ : ∃ y_ : List Int, y_ = (x4_6 ++ [x11_1]) := ⟨_, rfl⟩
             replace H : (norm_owners.l0 kj6 l0 x3_1 y202 (l0.length : Int) (wrap64 (x11_1 + 1))) = some r := by first | (rw [hy202]; with_reducible exact H) | (have H2_ := (Option.bind_some _ _).symm.trans H; rw [hy202]; with_reducible exact H2_) | (have H2_ := (Option.bind_some _ _).symm.trans H; with_reducible exact H2_) | with_reducible exact H | (rw [hy202]; exact H) | exact H
             have Ny202 := Aside0.mk hy202
             clear hy202
             have H' := Aside0.mk H
             clear H
             obtain ⟨Ao45, co45, eo45⟩ := Kd.R_slice HO_4.out
             subst eo45
             have p200 : 0 ≤ (x11_1 : Int) := of_decide_eq_true (by first | (with_reducible assumption) | assumption)
             have q200 : x11_1 < (l0.length : Int) := of_decide_eq_true (by first | (with_reducible assumption) | assumption)
             obtain ⟨ad200, e200, hx200_0, hx200_1, hx200_2, hx200_3⟩ := at_T56 HR0.out x11_1 p200 q200
             cases e200
             replace hx200_0 := (HB.out.cell (World.block_lt_of_cell? w _ hx200_0)).trans hx200_0
             replace hx200_1 := (HB.out.cell (World.block_lt_of_cell? w _ hx200_1)).trans hx200_1
             replace hx200_2 := (HB.out.cell (World.block_lt_of_cell? w _ hx200_2)).trans hx200_2
             replace hx200_3 := (HB.out.cell (World.block_lt_of_cell? w _ hx200_3)).trans hx200_3
             replace p200 := eq_true p200
             replace q200 := eq_true q200
             go_wp2_with (first | (go_at_call 163; (with_reducible refine (strings_IndexByte.calls (⟨#[49, 50, 51, 112, 105, 99, 110]⟩ : ByteArray) ((rd_T56 l0 x11_1).f0) t201 _ A42.out).mono ?_); rintro e w46 ⟨rfl, hb⟩; have n0_ := Aside0.mk (Kd.R_below (by (with_reducible repeat (first | apply Kd.R_alloc | apply Kd.R_drewN | apply Kd.R_drew)); exact HO_3.out) hb); have n1_ := Aside0.mk (Kd.R_below (by (with_reducible repeat (first | apply Kd.R_alloc | apply Kd.R_drewN | apply Kd.R_drew)); exact HO_4.out) hb); have n2_ := Aside0.mk (below_step (by repeat (first | (with_reducible first | exact HB.out | apply below_alloc | apply pw_below_drewN | apply below_drew1) | exact HB.out)) hb); clear HO_3; clear HO_4; clear HB; have HO_3 := n0_; have HO_4 := n1_; have HB := n2_; clear n0_ n1_ n2_; (try clear hb); (try clear hb2); (try clear hk); (try clear hi)) | ((with_reducible refine gate_builtin (b := .append) (xs := #[.tmp 62, .tmp 64]) rfl ?_); (try (refine gate_guard (by rfl) ?_; dsimp only)); at_builtin; refine Kd.R_append (Kd.int .i64) (w0 := w) w.heap.size rfl (.tmp 62) (.tmp 64) 167 3 (.int .i64 0) 8 rfl Try.underlying167 info3 rfl (by decide) (by omega) (.slice Ao45 x4_6.length co45) x4_6 x11_1 [.int .i64 x11_1] (fun k_ => some k_ ≠ (v185 : Value).ownBlock) (fun _ => False) rfl rfl ?aP (fun _ hk => hk.elim) ?aF ?aO ?aB ?aS ?aL ?_; (case aP => exact rfl); (case aB => exact (by repeat (first | (with_reducible first | exact HB.out | apply below_alloc | apply pw_below_drewN | apply below_drew1) | exact HB.out))); (case aF => exact (fun k_ hk => Kd.fresh' (Kd.R_lt (by (with_reducible repeat (first | apply Kd.R_alloc | apply Kd.R_drewN | apply Kd.R_drew)); exact HO_3.out)) k_ hk)); (case aO => exact (by (with_reducible repeat (first | apply Kd.R_alloc | apply Kd.R_drewN | apply Kd.R_drew)); exact HO_4.out)); (case aS => exact (below_size (by repeat (first | (with_reducible first | exact HB.out | apply below_alloc | apply pw_below_drewN | apply below_drew1) | exact HB.out)))); (case aL => have := LMc44.out; omega); intro v203 w47 ho hb hg hat; rw [← Ny202.out] at ho; have n0_ := Aside0.mk (Kd.R_after (ok := (fun _ => True)) (by (with_reducible repeat (first | apply Kd.R_alloc | apply Kd.R_drewN | apply Kd.R_drew)); exact Kd.R_mono HO_3.out (fun _ hk => ⟨trivial, hk⟩)) hg hat); have n1_ := Aside0.mk (hb); have n2_ := Aside0.mk (ho); clear HO_3; clear HB; clear HO_4; have HO_3 := n0_; have HB := n1_; have HO204 := n2_; clear n0_ n1_ n2_; clear ho hb hg hat))
             repeat (go_quiet (first | (go_at_call 163; (with_reducible refine (strings_IndexByte.calls (⟨#[49, 50, 51, 112, 105, 99, 110]⟩ : ByteArray) ((rd_T56 l0 x11_1).f0) t201 _ A42.out).mono ?_); rintro e w46 ⟨rfl, hb⟩; have n0_ := Aside0.mk (Kd.R_below (by (with_reducible repeat (first | apply Kd.R_alloc | apply Kd.R_drewN | apply Kd.R_drew)); exact HO_3.out) hb); have n1_ := Aside0.mk (Kd.R_below (by (with_reducible repeat (first | apply Kd.R_alloc | apply Kd.R_drewN | apply Kd.R_drew)); exact HO_4.out) hb); have n2_ := Aside0.mk (below_step (by repeat (first | (with_reducible first | exact HB.out | apply below_alloc | apply pw_below_drewN | apply below_drew1) | exact HB.out)) hb); clear HO_3; clear HO_4; clear HB; have HO_3 := n0_; have HO_4 := n1_; have HB := n2_; clear n0_ n1_ n2_; (try clear hb); (try clear hb2); (try clear hk); (try clear hi)) | ((with_reducible refine gate_builtin (b := .append) (xs := #[.tmp 62, .tmp 64]) rfl ?_); (try (refine gate_guard (by rfl) ?_; dsimp only)); at_builtin; refine Kd.R_append (Kd.int .i64) (w0 := w) w.heap.size rfl (.tmp 62) (.tmp 64) 167 3 (.int .i64 0) 8 rfl Try.underlying167 info3 rfl (by decide) (by omega) (.slice Ao45 x4_6.length co45) x4_6 x11_1 [.int .i64 x11_1] (fun k_ => some k_ ≠ (v185 : Value).ownBlock) (fun _ => False) rfl rfl ?aP (fun _ hk => hk.elim) ?aF ?aO ?aB ?aS ?aL ?_; (case aP => exact rfl); (case aB => exact (by repeat (first | (with_reducible first | exact HB.out | apply below_alloc | apply pw_below_drewN | apply below_drew1) | exact HB.out))); (case aF => exact (fun k_ hk => Kd.fresh' (Kd.R_lt (by (with_reducible repeat (first | apply Kd.R_alloc | apply Kd.R_drewN | apply Kd.R_drew)); exact HO_3.out)) k_ hk)); (case aO => exact (by (with_reducible repeat (first | apply Kd.R_alloc | apply Kd.R_drewN | apply Kd.R_drew)); exact HO_4.out)); (case aS => exact (below_size (by repeat (first | (with_reducible first | exact HB.out | apply below_alloc | apply pw_below_drewN | apply below_drew1) | exact HB.out)))); (case aL => have := LMc44.out; omega); intro v203 w47 ho hb hg hat; rw [← Ny202.out] at ho; have n0_ := Aside0.mk (Kd.R_after (ok := (fun _ => True)) (by (with_reducible repeat (first | apply Kd.R_alloc | apply Kd.R_drewN | apply Kd.R_drew)); exact Kd.R_mono HO_3.out (fun _ hk => ⟨trivial, hk⟩)) hg hat); have n1_ := Aside0.mk (hb); have n2_ := Aside0.mk (ho); clear HO_3; clear HB; clear HO_4; have HO_3 := n0_; have HB := n1_; have HO204 := n2_; clear n0_ n1_ n2_; clear ho hb hg hat)); try go_wp2_with (first | (go_at_call 163; (with_reducible refine (strings_IndexByte.calls (⟨#[49, 50, 51, 112, 105, 99, 110]⟩ : ByteArray) ((rd_T56 l0 x11_1).f0) t201 _ A42.out).mono ?_); rintro e w46 ⟨rfl, hb⟩; have n0_ := Aside0.mk (Kd.R_below (by (with_reducible repeat (first | apply Kd.R_alloc | apply Kd.R_drewN | apply Kd.R_drew)); exact HO_3.out) hb); have n1_ := Aside0.mk (Kd.R_below (by (with_reducible repeat (first | apply Kd.R_alloc | apply Kd.R_drewN | apply Kd.R_drew)); exact HO_4.out) hb); have n2_ := Aside0.mk (below_step (by repeat (first | (with_reducible first | exact HB.out | apply below_alloc | apply pw_below_drewN | apply below_drew1) | exact HB.out)) hb); clear HO_3; clear HO_4; clear HB; have HO_3 := n0_; have HO_4 := n1_; have HB := n2_; clear n0_ n1_ n2_; (try clear hb); (try clear hb2); (try clear hk); (try clear hi)) | ((with_reducible refine gate_builtin (b := .append) (xs := #[.tmp 62, .tmp 64]) rfl ?_); (try (refine gate_guard (by rfl) ?_; dsimp only)); at_builtin; refine Kd.R_append (Kd.int .i64) (w0 := w) w.heap.size rfl (.tmp 62) (.tmp 64) 167 3 (.int .i64 0) 8 rfl Try.underlying167 info3 rfl (by decide) (by omega) (.slice Ao45 x4_6.length co45) x4_6 x11_1 [.int .i64 x11_1] (fun k_ => some k_ ≠ (v185 : Value).ownBlock) (fun _ => False) rfl rfl ?aP (fun _ hk => hk.elim) ?aF ?aO ?aB ?aS ?aL ?_; (case aP => exact rfl); (case aB => exact (by repeat (first | (with_reducible first | exact HB.out | apply below_alloc | apply pw_below_drewN | apply below_drew1) | exact HB.out))); (case aF => exact (fun k_ hk => Kd.fresh' (Kd.R_lt (by (with_reducible repeat (first | apply Kd.R_alloc | apply Kd.R_drewN | apply Kd.R_drew)); exact HO_3.out)) k_ hk)); (case aO => exact (by (with_reducible repeat (first | apply Kd.R_alloc | apply Kd.R_drewN | apply Kd.R_drew)); exact HO_4.out)); (case aS => exact (below_size (by repeat (first | (with_reducible first | exact HB.out | apply below_alloc | apply pw_below_drewN | apply below_drew1) | exact HB.out)))); (case aL => have := LMc44.out; omega); intro v203 w47 ho hb hg hat; rw [← Ny202.out] at ho; have n0_ := Aside0.mk (Kd.R_after (ok := (fun _ => True)) (by (with_reducible repeat (first | apply Kd.R_alloc | apply Kd.R_drewN | apply Kd.R_drew)); exact Kd.R_mono HO_3.out (fun _ hk => ⟨trivial, hk⟩)) hg hat); have n1_ := Aside0.mk (hb); have n2_ := Aside0.mk (ho); clear HO_3; clear HB; clear HO_4; have HO_3 := n0_; have HB := n1_; have HO204 := n2_; clear n0_ n1_ n2_; clear ho hb hg hat)))
             go_roundg kj6
             case measure => have := HK1.out; have := HJ6.out; omega
             case rel => exact ⟨(x3_1), (y202), (wrap64 (x11_1 + 1)), (by first | rfl | (simp; done) | (simp [*]; done)), H', ⟨by have := HK1.out; have := HJ6.out; omega⟩, ⟨by (with_reducible repeat (first | apply Kd.R_alloc | apply Kd.R_drewN | apply Kd.R_drew)); exact Kd.R_mono HO_3.out (fun _ hk => hk.2)⟩, ⟨by (with_reducible repeat (first | apply Kd.R_alloc | apply Kd.R_drewN | apply Kd.R_drew)); exact HO204.out⟩, ⟨by repeat (first | (with_reducible first | exact HB.out | apply below_alloc | apply pw_below_drewN | apply below_drew1) | exact HB.out)⟩⟩
            ·rw [if_neg c44] at H
             exact absurd H (by simp)
           ·rw [if_neg c43] at H
            have c43b0 : decide (0 ≤ t201) = false := decide_eq_false c43
            clear c43
            have H' := Aside0.mk H
            clear H
            obtain ⟨Ao48, co48, eo48⟩ := Kd.R_slice HO_4.out
            subst eo48
            have p200 : 0 ≤ (x11_1 : Int) := of_decide_eq_true (by first | (with_reducible assumption) | assumption)
            have q200 : x11_1 < (l0.length : Int) := of_decide_eq_true (by first | (with_reducible assumption) | assumption)
            obtain ⟨ad200, e200, hx200_0, hx200_1, hx200_2, hx200_3⟩ := at_T56 HR0.out x11_1 p200 q200
            cases e200
            replace hx200_0 := (HB.out.cell (World.block_lt_of_cell? w _ hx200_0)).trans hx200_0
            replace hx200_1 := (HB.out.cell (World.block_lt_of_cell? w _ hx200_1)).trans hx200_1
            replace hx200_2 := (HB.out.cell (World.block_lt_of_cell? w _ hx200_2)).trans hx200_2
            replace hx200_3 := (HB.out.cell (World.block_lt_of_cell? w _ hx200_3)).trans hx200_3
            replace p200 := eq_true p200
            replace q200 := eq_true q200
            go_wp2_with (first | (go_at_call 163; (with_reducible refine (strings_IndexByte.calls (⟨#[49, 50, 51, 112, 105, 99, 110]⟩ : ByteArray) ((rd_T56 l0 x11_1).f0) t201 _ A42.out).mono ?_); rintro e w49 ⟨rfl, hb⟩; have n0_ := Aside0.mk (Kd.R_below (by (with_reducible repeat (first | apply Kd.R_alloc | apply Kd.R_drewN | apply Kd.R_drew)); exact HO_3.out) hb); have n1_ := Aside0.mk (Kd.R_below (by (with_reducible repeat (first | apply Kd.R_alloc | apply Kd.R_drewN | apply Kd.R_drew)); exact HO_4.out) hb); have n2_ := Aside0.mk (below_step (by repeat (first | (with_reducible first | exact HB.out | apply below_alloc | apply pw_below_drewN | apply below_drew1) | exact HB.out)) hb); clear HO_3; clear HO_4; clear HB; have HO_3 := n0_; have HO_4 := n1_; have HB := n2_; clear n0_ n1_ n2_; (try clear hb); (try clear hb2); (try clear hk); (try clear hi)))
            repeat (go_quiet (first | (go_at_call 163; (with_reducible refine (strings_IndexByte.calls (⟨#[49, 50, 51, 112, 105, 99, 110]⟩ : ByteArray) ((rd_T56 l0 x11_1).f0) t201 _ A42.out).mono ?_); rintro e w49 ⟨rfl, hb⟩; have n0_ := Aside0.mk (Kd.R_below (by (with_reducible repeat (first | apply Kd.R_alloc | apply Kd.R_drewN | apply Kd.R_drew)); exact HO_3.out) hb); have n1_ := Aside0.mk (Kd.R_below (by (with_reducible repeat (first | apply Kd.R_alloc | apply Kd.R_drewN | apply Kd.R_drew)); exact HO_4.out) hb); have n2_ := Aside0.mk (below_step (by repeat (first | (with_reducible first | exact HB.out | apply below_alloc | apply pw_below_drewN | apply below_drew1) | exact HB.out)) hb); clear HO_3; clear HO_4; clear HB; have HO_3 := n0_; have HO_4 := n1_; have HB := n2_; clear n0_ n1_ n2_; (try clear hb); (try clear hb2); (try clear hk); (try clear hi))); try go_wp2_with (first | (go_at_call 163; (with_reducible refine (strings_IndexByte.calls (⟨#[49, 50, 51, 112, 105, 99, 110]⟩ : ByteArray) ((rd_T56 l0 x11_1).f0) t201 _ A42.out).mono ?_); rintro e w49 ⟨rfl, hb⟩; have n0_ := Aside0.mk (Kd.R_below (by (with_reducible repeat (first | apply Kd.R_alloc | apply Kd.R_drewN | apply Kd.R_drew)); exact HO_3.out) hb); have n1_ := Aside0.mk (Kd.R_below (by (with_reducible repeat (first | apply Kd.R_alloc | apply Kd.R_drewN | apply Kd.R_drew)); exact HO_4.out) hb); have n2_ := Aside0.mk (below_step (by repeat (first | (with_reducible first | exact HB.out | apply below_alloc | apply pw_below_drewN | apply below_drew1) | exact HB.out)) hb); clear HO_3; clear HO_4; clear HB; have HO_3 := n0_; have HO_4 := n1_; have HB := n2_; clear n0_ n1_ n2_; (try clear hb); (try clear hb2); (try clear hk); (try clear hi))))
            go_roundg kj6
            case measure => have := HK1.out; have := HJ6.out; omega
            case rel => exact ⟨(x3_1), (x4_6), (wrap64 (x11_1 + 1)), (by first | rfl | (simp; done) | (simp [*]; done)), H', ⟨by have := HK1.out; have := HJ6.out; omega⟩, ⟨by (with_reducible repeat (first | apply Kd.R_alloc | apply Kd.R_drewN | apply Kd.R_drew)); exact HO_3.out⟩, ⟨by (with_reducible repeat (first | apply Kd.R_alloc | apply Kd.R_drewN | apply Kd.R_drew)); exact HO_4.out⟩, ⟨by repeat (first | (with_reducible first | exact HB.out | apply below_alloc | apply pw_below_drewN | apply below_drew1) | exact HB.out)⟩⟩
          ·rw [if_neg c41] at H
           exact absurd H (by simp)
         ·rw [if_neg c40] at H
          exact absurd H (by simp)
     ·rw [if_neg c6] at H
      have c6b0 : decide (x11_1 < (l0.length : Int)) = false := decide_eq_false c6
      clear c6
      obtain rfl := Option.some.inj H
      go_wp2
      repeat (go_quiet (fail); try go_wp2)
      go_ret
      exact ⟨_, by first | rfl | (simp [errW_none, errW_some] <;> rfl) | (simp [*, errW_none, errW_some] <;> rfl), by (with_reducible repeat (first | apply Kd.R_alloc | apply Kd.R_drewN | apply Kd.R_drew)); exact Kd.R_mono HO_3.out (fun _ hk => trivial), by repeat (first | (with_reducible first | exact HB.out | apply below_alloc | apply pw_below_drewN | apply below_drew1) | exact HB.out)⟩
  ·rw [if_neg c3] at H
   exact absurd H (by simp)
 ·rw [if_neg c2] at H
  exact absurd H (by simp)
def stringslite_HasSuffix.f (a0 : ByteArray) (a1 : ByteArray) : Option (Bool) := if (a0.size : Int) ≥ (a1.size : Int) then (if 0 ≤ (wrap64 ((a0.size : Int) - (a1.size : Int))) then (if (wrap64 ((a0.size : Int) - (a1.size : Int))) ≤ (a0.size : Int) then (some ((a0.extract ((wrap64 ((a0.size : Int) - (a1.size : Int))) : Int).toNat a0.size).toList == a1.toList)) else (none)) else (none)) else (some false)
set_option maxHeartbeats 8000000 in
set_option maxRecDepth 100000 in
theorem stringslite_HasSuffix.calls (a0 : ByteArray) (a1 : ByteArray) (r : Bool) (w : World) (h : stringslite_HasSuffix.f a0 a1 = some r) :
  Calls Try.prog 171 #[.string a0, .string a1] w fun e w' => e = .returned (.bool r) ∧ Drawn0 w w' := by
 have H : (if (a0.size : Int) ≥ (a1.size : Int) then (if 0 ≤ (wrap64 ((a0.size : Int) - (a1.size : Int))) then (if (wrap64 ((a0.size : Int) - (a1.size : Int))) ≤ (a0.size : Int) then (some ((a0.extract ((wrap64 ((a0.size : Int) - (a1.size : Int))) : Int).toNat a0.size).toList == a1.toList)) else (none)) else (none)) else (some false)) = some r := h
 clear h
 by_cases c3 : (a0.size : Int) ≥ (a1.size : Int)
 ·rw [if_pos c3] at H
  have c3b0 : decide ((a1.size : Int) ≤ (a0.size : Int)) = true := decide_eq_true c3
  have c3b1 : decide (a1.size ≤ a0.size) = true := decide_eq_true (Int.ofNat_le.mp c3)
  clear c3
  obtain ⟨ji4, hji4⟩ : ∃ j_ : Int, (wrap64 ((a0.size : Int) - (a1.size : Int))) = j_ := ⟨_, rfl⟩
  replace H : (if 0 ≤ (ji4) then (if (ji4) ≤ (a0.size : Int) then (some ((a0.extract ((ji4) : Int).toNat a0.size).toList == a1.toList)) else (none)) else (none)) = some r := by first | (rw [hji4] at H; exact H) | (simp only [hji4] at H ⊢; exact H)
  have hji4w : (IntKind.i64.wrap ((a0.size : Int) - (a1.size : Int))) = ji4 := (i64_w _).trans hji4
  by_cases c5 : 0 ≤ (ji4)
  ·rw [if_pos c5] at H
   have c5b0 := eq_true c5
   have c5b1 : decide (0 ≤ (ji4)) = true := decide_eq_true c5
   clear c5
   by_cases c6 : (ji4) ≤ (a0.size : Int)
   ·rw [if_pos c6] at H
    have c6b0 := eq_true c6
    have c6b1 : decide ((ji4) ≤ (a0.size : Int)) = true := decide_eq_true c6
    clear c6
    obtain rfl := Option.some.inj H
    go_enter Try.func171, Try.ntmps171
    go_wp2
    go_ret
    exact ⟨by first | rfl | (simp; done) | (simp only [← hji4] <;> (first | rfl | simp)) | (simp [*]; done), by repeat (first | exact Drawn0.refl _ | apply Drawn0.step)⟩
   ·rw [if_neg c6] at H
    exact absurd H (by simp)
  ·rw [if_neg c5] at H
   exact absurd H (by simp)
 ·rw [if_neg c3] at H
  have c3b0 : decide ((a1.size : Int) ≤ (a0.size : Int)) = false := decide_eq_false c3
  have c3b1 : decide (a1.size ≤ a0.size) = false := decide_eq_false (fun h => c3 (Int.ofNat_le.mpr h))
  clear c3
  obtain rfl := Option.some.inj H
  go_enter Try.func171, Try.ntmps171
  go_wp2
  go_ret
  exact ⟨by first | rfl | (simp; done) | (simp [*]; done), by repeat (first | exact Drawn0.refl _ | apply Drawn0.step)⟩
def stringslite_TrimSuffix.f (a0 : ByteArray) (a1 : ByteArray) : Option (ByteArray) := (stringslite_HasSuffix.f a0 a1).bind fun t205 => (if t205 = true then (if 0 ≤ (wrap64 ((a0.size : Int) - (a1.size : Int))) then (if (wrap64 ((a0.size : Int) - (a1.size : Int))) ≤ (a0.size : Int) then (some (a0.extract 0 ((wrap64 ((a0.size : Int) - (a1.size : Int))) : Int).toNat)) else (none)) else (none)) else (some a0))
set_option maxHeartbeats 8000000 in
set_option maxRecDepth 100000 in
theorem stringslite_TrimSuffix.calls (a0 : ByteArray) (a1 : ByteArray) (r : ByteArray) (w : World) (h : stringslite_TrimSuffix.f a0 a1 = some r) :
  Calls Try.prog 165 #[.string a0, .string a1] w fun e w' => e = .returned (.string r) ∧ Drawn0 w w' := by
 have H : ((stringslite_HasSuffix.f a0 a1).bind fun t205 => (if t205 = true then (if 0 ≤ (wrap64 ((a0.size : Int) - (a1.size : Int))) then (if (wrap64 ((a0.size : Int) - (a1.size : Int))) ≤ (a0.size : Int) then (some (a0.extract 0 ((wrap64 ((a0.size : Int) - (a1.size : Int))) : Int).toNat)) else (none)) else (none)) else (some a0))) = some r := h
 clear h
 replace H := Option.bind_eq_some_iff.mp H
 obtain ⟨t205, A30, H⟩ := H
 replace H : (if t205 = true then (if 0 ≤ (wrap64 ((a0.size : Int) - (a1.size : Int))) then (if (wrap64 ((a0.size : Int) - (a1.size : Int))) ≤ (a0.size : Int) then (some (a0.extract 0 ((wrap64 ((a0.size : Int) - (a1.size : Int))) : Int).toNat)) else (none)) else (none)) else (some a0)) = some r := H
 have A3 := Aside0.mk A30
 clear A30
 by_cases c4 : t205 = true
 ·subst c4
  have H1 : (if 0 ≤ (wrap64 ((a0.size : Int) - (a1.size : Int))) then (if (wrap64 ((a0.size : Int) - (a1.size : Int))) ≤ (a0.size : Int) then (some (a0.extract 0 ((wrap64 ((a0.size : Int) - (a1.size : Int))) : Int).toNat)) else (none)) else (none)) = some r := by rw [if_pos rfl] at H; exact H
  clear H
  have H := H1
  clear H1
  obtain ⟨ji5, hji5⟩ : ∃ j_ : Int, (wrap64 ((a0.size : Int) - (a1.size : Int))) = j_ := ⟨_, rfl⟩
  replace H : (if 0 ≤ (ji5) then (if (ji5) ≤ (a0.size : Int) then (some (a0.extract 0 ((ji5) : Int).toNat)) else (none)) else (none)) = some r := by first | (rw [hji5] at H; exact H) | (simp only [hji5] at H ⊢; exact H)
  (try rw [hji5] at A3)
  have hji5w : (IntKind.i64.wrap ((a0.size : Int) - (a1.size : Int))) = ji5 := (i64_w _).trans hji5
  by_cases c6 : 0 ≤ (ji5)
  ·rw [if_pos c6] at H
   have c6b0 := eq_true c6
   have c6b1 : decide (0 ≤ (ji5)) = true := decide_eq_true c6
   clear c6
   by_cases c7 : (ji5) ≤ (a0.size : Int)
   ·rw [if_pos c7] at H
    have c7b0 := eq_true c7
    have c7b1 : decide ((ji5) ≤ (a0.size : Int)) = true := decide_eq_true c7
    clear c7
    obtain rfl := Option.some.inj H
    go_enter Try.func165, Try.ntmps165
    go_wp2_with (first | ((with_reducible refine gate_callee (f := 171) rfl ?_); refine goesL_ (some 7) rfl rfl Try.func171 (by kernel_rfl) rfl #[.string a0, .string a1] rfl (by (try simp only [List.map_toArray, List.map_cons, List.map_nil]); first | done | rfl | (simp only [List.length_drop, List.length_take]; rfl)) ?_; (with_reducible refine (stringslite_HasSuffix.calls a0 a1 true _ A3.out).mono ?_); rintro e w' ⟨rfl, ⟨nd, rfl⟩⟩; refine ⟨_, rfl, ?_⟩))
    go_ret
    exact ⟨by first | rfl | (simp; done) | (simp only [← hji5] <;> (first | rfl | simp)) | (simp [*]; done), by repeat (first | exact Drawn0.refl _ | apply Drawn0.step)⟩
   ·rw [if_neg c7] at H
    exact absurd H (by simp)
  ·rw [if_neg c6] at H
   exact absurd H (by simp)
 ·replace c4 := Bool.eq_false_iff.mpr c4
  subst c4
  have H1 : (some a0) = some r := by rw [if_neg (show ¬ (false = true) by decide)] at H; exact H
  clear H
  have H := H1
  clear H1
  obtain rfl := Option.some.inj H
  go_enter Try.func165, Try.ntmps165
  go_wp2_with (first | ((with_reducible refine gate_callee (f := 171) rfl ?_); refine goesL_ (some 7) rfl rfl Try.func171 (by kernel_rfl) rfl #[.string a0, .string a1] rfl (by (try simp only [List.map_toArray, List.map_cons, List.map_nil]); first | done | rfl | (simp only [List.length_drop, List.length_take]; rfl)) ?_; (with_reducible refine (stringslite_HasSuffix.calls a0 a1 false _ A3.out).mono ?_); rintro e w' ⟨rfl, ⟨nd, rfl⟩⟩; refine ⟨_, rfl, ?_⟩))
  go_ret
  exact ⟨by first | rfl | (simp; done) | (simp [*]; done), by repeat (first | exact Drawn0.refl _ | apply Drawn0.step)⟩
def strings_TrimSuffix.f (a0 : ByteArray) (a1 : ByteArray) : Option (ByteArray) := (stringslite_TrimSuffix.f a0 a1).bind fun t206 => (some t206)
set_option maxHeartbeats 8000000 in
set_option maxRecDepth 100000 in
theorem strings_TrimSuffix.calls (a0 : ByteArray) (a1 : ByteArray) (r : ByteArray) (w : World) (h : strings_TrimSuffix.f a0 a1 = some r) :
  Calls Try.prog 147 #[.string a0, .string a1] w fun e w' => e = .returned (.string r) ∧ Drawn0 w w' := by
 have H : ((stringslite_TrimSuffix.f a0 a1).bind fun t206 => (some t206)) = some r := h
 clear h
 replace H := Option.bind_eq_some_iff.mp H
 obtain ⟨t206, A30, H⟩ := H
 replace H : (some t206) = some r := H
 have A3 := Aside0.mk A30
 clear A30
 obtain rfl := Option.some.inj H
 go_enter Try.func147, Try.ntmps147
 go_wp2_with (first | ((with_reducible refine gate_callee (f := 165) rfl ?_); refine goesL_ (some 7) rfl rfl Try.func165 (by kernel_rfl) rfl #[.string a0, .string a1] rfl (by (try simp only [List.map_toArray, List.map_cons, List.map_nil]); first | done | rfl | (simp only [List.length_drop, List.length_take]; rfl)) ?_; (with_reducible refine (stringslite_TrimSuffix.calls a0 a1 t206 _ A3.out).mono ?_); rintro e w' ⟨rfl, ⟨nd, rfl⟩⟩; refine ⟨_, rfl, ?_⟩))
 go_ret
 exact ⟨by first | rfl | (simp; done) | (simp [*]; done), by repeat (first | exact Drawn0.refl _ | apply Drawn0.step)⟩
end Go.Proofs.Ythcmfjpheanphaa.Pr
namespace Go.Proofs.Ythcmfjpheanphaa.Pr
open Go.RowKit Go.Proofs.YthcmfjpheanphaaW.PrintWords
attribute [local go_sem] Oper.semAt_some
def eqN (x y : S56) : Bool := x.f0 == y.f0 && (x.f1.toList == y.f1.toList && x.f3 == y.f3)
def sameL : List S56 → List S56 → Bool
 | [], [] => true
 | x :: xs, y :: ys => eqN x y && sameL xs ys
 | _, _ => false
set_option pp.maxSteps 3000 in
set_option maxRecDepth 100000 in
set_option maxHeartbeats 2000000 in
theorem same1_calls (x y : S56) (w : World) : Calls Try.prog 98 #[.agg #[.int .u8 x.f0, .string x.f1, .int .i64 x.f2, .int .i64 x.f3], .agg #[.int .u8 y.f0, .string y.f1, .int .i64 y.f2, .int .i64 y.f3]] w fun e w' =>
  e = .returned (.bool (eqN x y)) ∧ Below w.heap.size w w' := by
 obtain ⟨f0, f1, f2, f3⟩ := x
 obtain ⟨g0, g1, g2, g3⟩ := y
 unfold eqN
 simp only
 have hb : Below w.heap.size w ((w.alloc (.cells #[.int .u8 f0, .string f1, .int .i64 f2, .int .i64 f3] 56)).alloc (.cells #[.int .u8 g0, .string g1, .int .i64 g2, .int .i64 g3] 56)) := ((Below.refl _ _).alloc (Nat.le_refl _) _).alloc (by simp) _
 have HB := Lib.hid hb
 clear hb
 cases h1 : (f0 == g0)
 ·go_enter Try.func98, Try.ntmps98
  go_wp2
  go_ret
  exact ⟨rfl, HB.out⟩
 ·cases h2 : (f1.toList == g1.toList)
  ·go_enter Try.func98, Try.ntmps98
   go_wp2
   go_ret
   exact ⟨rfl, HB.out⟩
  ·go_enter Try.func98, Try.ntmps98
   go_wp2
   go_ret
   exact ⟨rfl, HB.out⟩
theorem sameL_len : ∀ xs ys : List S56, sameL xs ys = true → xs.length = ys.length
 | [], [], _ => rfl
 | [], _ :: _, h => by simp [sameL] at h
 | _ :: _, [], h => by simp [sameL] at h
 | x :: xs, y :: ys, h => by
  simp only [sameL, Bool.and_eq_true] at h
  simp [sameL_len xs ys h.2]
theorem rd56_drop (xs : List S56) (k : Nat) (h : k < xs.length) : xs.drop k = rd_T56 xs k :: xs.drop (k + 1) := by
 rw [List.drop_eq_getElem_cons h]
 congr 1
 unfold rd_T56
 rw [Int.toNat_natCast, List.getD_eq_getElem?_getD, List.getElem?_eq_getElem h]
 rfl
set_option pp.maxSteps 3000 in
set_option maxRecDepth 100000 in
set_option maxHeartbeats 4000000 in
theorem equal_calls (A B : Option Addr) (c d : Nat) (xs ys : List S56) (w : World) (hx : xs.length ≤ 140737488351232) (hy : ys.length ≤ 140737488351232) (hA : Kd.C k56 w A xs.length xs) (hB : Kd.C k56 w B ys.length ys) :
  Calls Try.prog 97 #[.slice A xs.length c, .slice B ys.length d, .func (.func 98) #[] #[]] w fun e w' => e = .returned (.bool (sameL xs ys)) ∧ Below w.heap.size w w' := by
 have HA := Lib.hid hA
 have HB := Lib.hid hB
 clear hA hB
 by_cases hl : xs.length = ys.length
 ·have HL := Lib.hid hl
  obtain ⟨n, hn⟩ : ∃ n, xs.length = n := ⟨_, rfl⟩
  rw [← hl] at hy ⊢
  rw [hn] at hx hy ⊢
  have HN := Lib.hid hn
  clear hl hn
  obtain ⟨R, hR⟩ : ∃ R, sameL xs ys = R := ⟨_, rfl⟩
  rw [hR]
  have HR := Lib.hid hR
  clear hR
  go_enter Try.func97, Try.ntmps97
  go_wp2
  go_loopw [17] (fun v wr => ∃ k : Nat, k ≤ n ∧ v = .int .i64 k ∧ Below w.heap.size w wr ∧ sameL (xs.drop k) (ys.drop k) = R) (fun v _ => n - (intOf v).toNat)
  case atStart => exact ⟨0, Nat.zero_le _, rfl, Below.refl _ _, HR.out⟩
  case round =>
   obtain ⟨k, hk, rfl, hW, hs⟩ := hrel
   by_cases hlt : k < n
   ·have hlt1 : (k : Int) < (n : Int) := by omega
    rw [rd56_drop xs k (by have := HN.out; omega), rd56_drop ys k (by have := HN.out; have := HL.out; omega)] at hs
    have hs' : (eqN (rd_T56 xs k) (rd_T56 ys k) && sameL (xs.drop (k + 1)) (ys.drop (k + 1))) = R := hs
    obtain ⟨ad, e1, q0, q1, q2, q3⟩ := at_T56 (Kd.C_below HA.out hW) k (by omega) (by have := HN.out; omega)
    obtain ⟨ad2, e2, p0, p1, p2, p3⟩ := at_T56 (Kd.C_below HB.out hW) k (by omega) (by have := HN.out; have := HL.out; omega)
    subst e1
    subst e2
    simp only [Int.toNat_natCast] at q0 q1 q2 q3 p0 p1 p2 p3
    generalize rd_T56 xs k = x at *
    generalize rd_T56 ys k = y at *
    obtain ⟨f0, f1, f2, f3⟩ := x
    obtain ⟨g0, g1, g2, g3⟩ := y
    simp only at q0 q1 q2 q3 p0 p1 p2 p3
    have p0' := (((Below.refl _ wr).alloc (Nat.le_refl _) (.cells #[.int .u8 f0, .string f1, .int .i64 f2, .int .i64 f3] 56)).cell (World.block_lt_of_cell? wr _ p0)).trans p0
    have p1' := (((Below.refl _ wr).alloc (Nat.le_refl _) (.cells #[.int .u8 f0, .string f1, .int .i64 f2, .int .i64 f3] 56)).cell (World.block_lt_of_cell? wr _ p1)).trans p1
    have p2' := (((Below.refl _ wr).alloc (Nat.le_refl _) (.cells #[.int .u8 f0, .string f1, .int .i64 f2, .int .i64 f3] 56)).cell (World.block_lt_of_cell? wr _ p2)).trans p2
    have p3' := (((Below.refl _ wr).alloc (Nat.le_refl _) (.cells #[.int .u8 f0, .string f1, .int .i64 f2, .int .i64 f3] 56)).cell (World.block_lt_of_cell? wr _ p3)).trans p3
    have hc := fun W => same1_calls ⟨f0, f1, f2, f3⟩ ⟨g0, g1, g2, g3⟩ W
    obtain ⟨b, hb⟩ : ∃ b, eqN ⟨f0, f1, f2, f3⟩ ⟨g0, g1, g2, g3⟩ = b := ⟨_, rfl⟩
    rw [hb] at hs'
    simp only [hb] at hc
    have HS := Lib.hid hs'
    have HC := Lib.hid hc
    have hW2 := (hW.alloc hW.size (.cells #[.int .u8 f0, .string f1, .int .i64 f2, .int .i64 f3] 56)).alloc (by have := hW.size; simp; omega) (.cells #[.int .u8 g0, .string g1, .int .i64 g2, .int .i64 g3] 56)
    have HW2 := Lib.hid hW2
    clear hs hs' hc hb hW2
    cases b
    ·go_wp2_with (go_at_call 98; refine (HC.out _).mono ?_; rintro e w2 ⟨rfl, hb2⟩)
     go_ret
     exact ⟨by rw [← HS.out]; rfl, HW2.out.trans (hb2.mono HW2.out.size)⟩
    ·go_wp2_with (go_at_call 98; refine (HC.out _).mono ?_; rintro e w2 ⟨rfl, hb2⟩)
     go_roundw
     case rel => exact ⟨k + 1, by omega, by go_num, HW2.out.trans (hb2.mono HW2.out.size), by rw [← HS.out]; rfl⟩
     case measure => simp [intOf]; omega
   ·obtain rfl : k = n := by omega
    have hlt1 : ¬ (k : Int) < (k : Int) := by omega
    have hR : R = true := by
     rw [← hs, List.drop_of_length_le (by have := HN.out; omega), List.drop_of_length_le (by have := HN.out; have := HL.out; omega)]
     rfl
    subst hR
    clear hs
    go_wp2
    go_ret
    exact ⟨rfl, hW⟩
 ·have hs : sameL xs ys = false := by
   cases h : sameL xs ys with
   | false => rfl
   | true => exact absurd (sameL_len _ _ h) hl
  rw [hs]
  have hne : ((xs.length : Int) != (ys.length : Int)) = true := bne_iff_ne.2 (fun h => hl (by omega))
  clear hs hl
  go_enter Try.func97, Try.ntmps97
  go_wp2
  go_ret
  exact ⟨rfl, Below.refl _ _⟩
theorem same_calls (A B : Option Addr) (c d : Nat) (xs ys : List S56) (w : World) (hx : xs.length ≤ 140737488351232) (hy : ys.length ≤ 140737488351232) (hA : Kd.C k56 w A xs.length xs) (hB : Kd.C k56 w B ys.length ys) :
  Calls Try.prog 56 #[.slice A xs.length c, .slice B ys.length d] w fun e w' => e = .returned (.bool (sameL xs ys)) ∧ Below w.heap.size w w' := by
 have HC := Lib.hid (equal_calls A B c d xs ys w hx hy hA hB)
 clear hA hB
 go_enter Try.func56, Try.ntmps56
 go_wp2_with (go_at_call 97; refine HC.out.mono ?_; rintro e w2 ⟨rfl, hb2⟩)
 go_ret
 exact ⟨rfl, hb2⟩
end Go.Proofs.Ythcmfjpheanphaa.Pr
namespace Go.Proofs.Ythcmfjpheanphaa.Pr
open Go.RowKit Go.Maps Go.Proofs.YthcmfjpheanphaaW.PrintWords
attribute [local go_sem] Oper.semAt_some
theorem R56_flat {w : World} {base : Nat} {v : Value} {xs : List S56} (h : Kd.R k56 56 w base (fun _ => True) v xs) : w.ownsRow base 56 4 v xs.length (flat56 xs) := by
 obtain ⟨_, inner, ho, hl, hr⟩ := h
 have : inner = flat56 xs := by
  have go : ∀ (xs : List S56) (inner : List Value), inner.length = xs.length * 4 → (∀ j p, xs[j]? = some p → ((inner.drop (j * 4)).take 4) = [.int .u8 p.f0, .string p.f1, .int .i64 p.f2, .int .i64 p.f3]) → inner = flat56 xs := by
   intro xs
   induction xs with
   | nil => intro inner h _; exact List.eq_nil_of_length_eq_zero (by simpa using h)
   | cons x xs ih =>
    intro inner h hr
    have h0 := hr 0 x rfl
    rw [Nat.zero_mul, List.drop_zero] at h0
    have h2 := ih (inner.drop 4) (by rw [List.length_drop, h]; simp; omega) fun j p hp => by
     have := hr (j + 1) p (by simpa using hp)
     rw [Nat.succ_mul, Nat.add_comm, ← List.drop_drop] at this
     exact this
    rw [← List.take_append_drop 4 inner, h0, h2]
    rfl
  exact go xs inner hl fun j p hp => k56_openM (hr j p hp)
 subst this
 exact ho
theorem own_empty56 (w : World) : (w.alloc (.cells #[] 56)).ownsRow w.heap.size 56 4 (.slice (some ⟨w.heap.size, 0, none⟩) 0 0) 0 [] :=
 ⟨rfl, .inr ⟨w.heap.size, 0, #[], rfl, Nat.le_refl _, heap_alloc_new w _, Nat.le_refl _, Nat.zero_le _, rfl, rfl⟩⟩
def kpB (s : ByteArray) : Nat → Nat → Int → List (Nat × Int)
 | 0, _, _ => []
 | d + 1, k, c => if k < s.size then (if whiteP (bt s k) = true then (if c = 0 ∨ c = 32 then kpB s d (k + 1) c else (k, 32) :: kpB s d (k + 1) 32) else (k, bt s k) :: kpB s d (k + 1) (bt s k)) else []
def sayL (c0 : Int) (L : List (Nat × Int)) : Int := match L.getLast? with | none => c0 | some x => x.2
def atL (a0 : Int) (i : Nat) (L : List (Nat × Int)) : Int := if L = [] then a0 else i
def outLn (t : List S56) (i : Nat) (out : List S56) : List (Nat × Int) → List S56
 | [] => out
 | x :: _ => out.modify i (atF (wrap64 ((rd_T56 t i).f2 + x.1)))
def tx (b : ByteArray) (y : S56) : S56 := { y with f1 := b }
def byL (L : List (Nat × Int)) : List Int := L.map (·.2)
structure SqS where
 out : List S56
 F : Int → Option (Int × Int)
def upF {α : Type} (F : Int → Option α) (j : Int) (v : α) : Int → Option α := fun k => if k = j then some v else F k
def sqNode (O : List Int) (t : List S56) (i : Nat) (s : SqS) : SqS :=
 if (rd_T56 t i).f0 = 46 then
  ⟨(outLn t i s.out (kpB (rd_T56 t i).f1 (rd_T56 t i).f1.size 0 ((s.F (rd O i)).getD (0, 0)).1)).modify i (tx (strOfNums (byL (kpB (rd_T56 t i).f1 (rd_T56 t i).f1.size 0 ((s.F (rd O i)).getD (0, 0)).1)))),
   upF s.F (rd O i) (sayL ((s.F (rd O i)).getD (0, 0)).1 (kpB (rd_T56 t i).f1 (rd_T56 t i).f1.size 0 ((s.F (rd O i)).getD (0, 0)).1), atL ((s.F (rd O i)).getD (0, 0)).2 i (kpB (rd_T56 t i).f1 (rd_T56 t i).f1.size 0 ((s.F (rd O i)).getD (0, 0)).1))⟩
 else s
def sqRun (O : List Int) (t : List S56) : Nat → Nat → SqS → SqS
 | 0, _, s => s
 | d + 1, i, s => sqRun O t d (i + 1) (sqNode O t i s)
def trimT (s : ByteArray) : ByteArray := if 1 ≤ s.size then (if ((s.extract (s.size - 1) s.size).toList == (⟨#[32]⟩ : ByteArray).toList) = true then s.extract 0 (s.size - 1) else s) else s
def trimsP (O : List Int) (F : Int → Option (Int × Int)) (left : Int → Bool) (out : List S56) : List S56 :=
 out.mapIdx fun i y => if (F (rd O i) = some (32, (i : Int)) ∧ left (rd O i) = false) then tx (trimT y.f1) y else y
def sq0 (t : List S56) : SqS := ⟨t, fun _ => none⟩
def squeezeP (O : List Int) (t : List S56) : List S56 := trimsP O (sqRun O t t.length 0 (sq0 t)).F (fun _ => false) (sqRun O t t.length 0 (sq0 t)).out
def codeP (p : Option Nat) : DataW Unit := .lit (.int .i64 (match p with | none => -1 | some b => (b : Int)))
def elemP (v : Value) : Option (DataW Unit × List MemPlace) :=
 match v with
 | .pointer none => some (codeP none, [])
 | .pointer (some ⟨b, 0, none⟩) => some (codeP (some b), [])
 | _ => none
def ptrP (p : Option Nat) : Value := .pointer (p.map fun b => ⟨b, 0, none⟩)
theorem elemP_mk (p : Option Nat) : elemP (ptrP p) = some (codeP p, []) := by cases p <;> rfl
theorem codeP_inj {p q : Option Nat} (h : codeP p = codeP q) : p = q := by
 unfold codeP at h
 simp only [DataW.lit.injEq, Lit.int.injEq, true_and] at h
 cases p <;> cases q <;> simp at h ⊢ <;> omega
theorem elemP_inv {v : Value} {y : DataW Unit × List MemPlace} (h : elemP v = some y) : ∃ p, v = ptrP p ∧ y = (codeP p, []) := by
 unfold elemP at h
 split at h
 ·exact ⟨none, rfl, (Option.some.inj h).symm⟩
 ·exact ⟨some _, rfl, (Option.some.inj h).symm⟩
 ·cases h
def kLit (j : Int) : Lit := .int .i64 j
theorem key3 : Keyed Try.prog 3 := int_keyed Try.underlying3
theorem keyOf3 (j : Int) (h : (Lit.int .i64 j).wf = true) : keyOf Try.prog 3 (.int .i64 j) = some (kLit j) := keyOf_int_mk Try.underlying3 h
structure FAt (W : World) (B0 bm m : Nat) (F : Int → Option (Int × Int)) (P : Int → Option Nat) : Prop where
 map : ∃ D, W.ownsMap Try.prog 3 elemP bm m D ∧ (∀ j, D.atKey (kLit j) (codeP none) = codeP (P j)) ∧ ∀ j, Maps.has D (kLit j) = true → P j ≠ none
 none_ : ∀ j, P j = none → F j = none
 flow : ∀ j b, P j = some b → ∃ c a, F j = some (c, a) ∧ W.heap[b]? = some (.cells #[.int .u8 c, .int .i64 a] 177 (0, 0))
 inj : ∀ j j' b, P j = some b → P j' = some b → j = j'
 lo : ∀ j b, P j = some b → B0 ≤ b
theorem own_map_obj {W : World} {b n : Nat} {D : DataW Unit} (h : W.ownsMap Try.prog 3 elemP b n D) : ∃ es clock, W.heap[b]? = some (.map es clock) := by
 obtain ⟨es, clock, hb, _⟩ := h
 exact ⟨es, clock, hb⟩
theorem own_map_fr {X : Nat → Prop} {W W' : World} (hf : Fr X W W') {b n : Nat} {D : DataW Unit} (h : W.ownsMap Try.prog 3 elemP b n D) (hx : ¬ X b) : W'.ownsMap Try.prog 3 elemP b n D := by
 obtain ⟨es, clock, hb, h2⟩ := h
 exact ⟨es, clock, hf.keep hb hx, h2⟩
theorem FAt.fr {X : Nat → Prop} {W W' : World} {B0 bm m : Nat} {F : Int → Option (Int × Int)} {P : Int → Option Nat} (h : FAt W B0 bm m F P) (hf : Fr X W W') (hm : ¬ X bm) (hp : ∀ j b, P j = some b → ¬ X b) : FAt W' B0 bm m F P := by
 obtain ⟨D, h1, h2, h3⟩ := h.map
 refine ⟨⟨D, own_map_fr hf h1 hm, h2, h3⟩, h.none_, fun j b hj => ?_, h.inj, h.lo⟩
 obtain ⟨c, a, g1, g2⟩ := h.flow j b hj
 exact ⟨c, a, g1, hf.keep g2 (hp j b hj)⟩
theorem FAt.below {W W' : World} {B0 bm m : Nat} {F : Int → Option (Int × Int)} {P : Int → Option Nat} (h : FAt W B0 bm m F P) (hb : Below W.heap.size W W') : FAt W' B0 bm m F P := h.fr (Fr.below (X := fun _ => False) hb) (fun h => h) (fun _ _ _ h => h)
theorem FAt.turn {X : Nat → Prop} {W W' : World} {B0 bm m gf : Nat} {F : Int → Option (Int × Int)} {P : Int → Option Nat} {j c a : Int} (h : FAt W B0 bm m F P) (hf : Fr X W W') (hj : P j = some gf) (hm : ¬ X bm) (hp : ∀ k b, P k = some b → b ≠ gf → ¬ X b)
  (hg : W'.heap[gf]? = some (.cells #[.int .u8 c, .int .i64 a] 177 (0, 0))) : FAt W' B0 bm m (upF F j (c, a)) P := by
 obtain ⟨D, h1, h2, h3⟩ := h.map
 refine ⟨⟨D, own_map_fr hf h1 hm, h2, h3⟩, fun k hk => ?_, fun k b hk => ?_, h.inj, h.lo⟩
 ·unfold upF
  by_cases e : k = j
  ·subst e; rw [hj] at hk; cases hk
  ·rw [if_neg e]; exact h.none_ k hk
 ·unfold upF
  by_cases e : k = j
  ·subst e
   rw [hj] at hk
   obtain rfl := Option.some.inj hk
   rw [if_pos rfl]
   exact ⟨c, a, rfl, hg⟩
  ·rw [if_neg e]
   obtain ⟨c', a', g1, g2⟩ := h.flow k b hk
   refine ⟨c', a', g1, hf.keep g2 (hp k b hk fun e2 => ?_)⟩
   subst e2
   exact e (h.inj k j b hk hj)
theorem FAt.more {W W1 : World} {B0 bm m gf : Nat} {F : Int → Option (Int × Int)} {P : Int → Option Nat} {D : DataW Unit} {j : Int} (h : FAt W B0 bm m F P) (hj : P j = none) (hD : W.ownsMap Try.prog 3 elemP bm m D) (hat : ∀ j, D.atKey (kLit j) (codeP none) = codeP (P j)) (hhas : ∀ j, Maps.has D (kLit j) = true → P j ≠ none)
  (ho : W1.ownsMap Try.prog 3 elemP bm (m + 1) (D.put (kLit j) (codeP (some gf)))) (hf : Fr (fun k => k = bm) W W1) (hnew : ∀ k b, P k = some b → b ≠ gf) (hlo : B0 ≤ gf)
  (hg : W1.heap[gf]? = some (.cells #[.int .u8 0, .int .i64 0] 177 (0, 0))) : FAt W1 B0 bm (m + 1) (upF F j (0, 0)) (upF P j gf) := by
 obtain ⟨es, clock, hmo⟩ := own_map_obj hD
 refine ⟨⟨_, ho, fun k => ?_, fun k hk => ?_⟩, fun k hk => ?_, fun k b hk => ?_, fun k k' b hk hk' => ?_, fun k b hk => ?_⟩
 ·unfold upF
  by_cases e : k = j
  ·subst e
   rw [if_pos rfl]
   exact Maps.atKey_put_same hD.isMap (by simp [kLit, WideAt.IsKeyLit]) _ _
  ·rw [if_neg e]
   rw [Maps.atKey_put_other (by intro e'; apply e; simpa [kLit] using e')]
   exact hat k
 ·unfold upF
  by_cases e : k = j
  ·rw [if_pos e]; exact fun h => by cases h
  ·rw [if_neg e]
   rw [Maps.has_put_other (by intro e'; apply e; simpa [kLit] using e')] at hk
   exact hhas k hk
 ·unfold upF at hk ⊢
  by_cases e : k = j
  ·rw [if_pos e] at hk; cases hk
  ·rw [if_neg e] at hk ⊢
   exact h.none_ k hk
 ·unfold upF at hk ⊢
  by_cases e : k = j
  ·rw [if_pos e] at hk ⊢
   obtain rfl := Option.some.inj hk
   exact ⟨0, 0, rfl, hg⟩
  ·rw [if_neg e] at hk ⊢
   obtain ⟨c', a', g1, g2⟩ := h.flow k b hk
   exact ⟨c', a', g1, hf.keep g2 fun e2 => by subst e2; rw [hmo] at g2; cases g2⟩
 ·unfold upF at hk hk'
  by_cases e : k = j <;> by_cases e' : k' = j
  ·rw [e, e']
  ·rw [if_pos e] at hk
   rw [if_neg e'] at hk'
   obtain rfl := Option.some.inj hk
   exact absurd rfl (hnew k' _ hk')
  ·rw [if_neg e] at hk
   rw [if_pos e'] at hk'
   obtain rfl := Option.some.inj hk'
   exact absurd rfl (hnew k _ hk)
  ·rw [if_neg e] at hk
   rw [if_neg e'] at hk'
   exact h.inj k k' b hk hk'
 ·unfold upF at hk
  by_cases e : k = j
  ·rw [if_pos e] at hk
   obtain rfl := Option.some.inj hk
   exact hlo
  ·rw [if_neg e] at hk
   exact h.lo k b hk
structure SAt (W : World) (B0 b1 b3 bm m : Nat) (A0 : Option Addr) (n c0 : Nat) (vin : Value) (O : List Int) (vo : Value) (s : SqS) (P : Int → Option Nat) : Prop where
 x1 : W.heap[b1]? = some (.cells #[.slice A0 n c0] 50 (0, 0))
 x3 : W.heap[b3]? = some (.cells #[vo] 50 (0, 0))
 own : W.ownsRow B0 3 1 vin O.length (nums .i64 O)
 out : W.ownsRow B0 56 4 vo s.out.length (flat56 s.out)
 fl : FAt W B0 bm m s.F P
 l3 : B0 ≤ b3
 lm : B0 ≤ bm
theorem SAt.below {W W' : World} {B0 b1 b3 bm m : Nat} {A0 : Option Addr} {n c0 : Nat} {vin : Value} {O : List Int} {vo : Value} {s : SqS} {P : Int → Option Nat} (h : SAt W B0 b1 b3 bm m A0 n c0 vin O vo s P) (hb : Below W.heap.size W W') : SAt W' B0 b1 b3 bm m A0 n c0 vin O vo s P :=
 ⟨blk_below h.x1 hb, blk_below h.x3 hb, pw_own_below h.own hb, pw_own_below h.out hb, h.fl.below hb, h.l3, h.lm⟩
theorem zero173 (w : World) : (zeroValue 173).run Try.prog w = .ok (.pointer none) w := by kernel_rfl
theorem wpList_lookup_ptr (w : World) {ops : Array Oper} {rest : List Oper} {o : Oper} {a : Act} {Q : Exit → Act → World → Prop}
  (hg : o.guard = none) (mm x : Operand) (hop : o.op = Op.lookup 171 mm x false) (B0 b n : Nat) (F : Int → Option (Int × Int)) (P : Int → Option Nat)
  (hm : a.eval mm = .map (some b)) (hf : FAt w B0 b n F P) (j : Int) (hx : a.eval x = .int .i64 j) (hwf : (Lit.int .i64 j).wf = true)
  (hK : wpList Try.prog ops Q rest (a.put o.dst (ptrP (P j))) w) : wpList Try.prog ops Q (o :: rest) a w := by
 refine wpList_plain hg fun K' hK' => ?_
 obtain ⟨D, hown, hat, _⟩ := hf.map
 obtain ⟨v, ps, hrun, hv⟩ := hown.lookup key3 Try.underlying171 (z := .pointer none) (zd := codeP none) (zp := []) (zero173 w) rfl (keyOf3 j hwf)
 obtain ⟨p, rfl, hy⟩ := elemP_inv hv
 have hp : p = P j := by
  refine codeP_inj ?_
  have h0 : D.atKey (kLit j) (codeP none) = codeP p := congrArg Prod.fst hy
  rw [← h0]
  exact hat j
 subst hp
 unfold Oper.wp
 simp [execOp, hop, hm, hx, hrun, Result.andThen]
 exact hK' _ _ hK
theorem trim_f (s : ByteArray) (h : s.size ≤ 100000000) : strings_TrimSuffix.f s ⟨#[32]⟩ = some (trimT s) := by
 unfold strings_TrimSuffix.f stringslite_TrimSuffix.f stringslite_HasSuffix.f trimT
 have h1 : (⟨#[32]⟩ : ByteArray).size = 1 := rfl
 rw [h1]
 by_cases hs : 1 ≤ s.size
 ·have e : wrap64 ((s.size : Int) - ((1 : Nat) : Int)) = ((s.size - 1 : Nat) : Int) := by
   rw [show (s.size : Int) - ((1 : Nat) : Int) = ((s.size - 1 : Nat) : Int) from by omega]
   exact IntWalk.wrap64_in _ ⟨by omega, by omega⟩
  rw [if_pos (by omega), if_pos hs, e, if_pos (by omega), if_pos (by omega), Int.toNat_natCast, Option.bind_some]
  by_cases ht : ((s.extract (s.size - 1) s.size).toList == (⟨#[32]⟩ : ByteArray).toList) = true
  ·rw [if_pos ht, if_pos ht, if_pos (by omega), if_pos (by omega)]
   rfl
  ·rw [if_neg ht, if_neg ht]
   rfl
 ·rw [if_neg (by omega), if_neg hs]
  rfl
def SqInv (O : List Int) (n : Nat) (F : Int → Option (Int × Int)) : Prop := ∀ j c a, F j = some (c, a) → c = 0 ∨ ∃ i : Nat, a = i ∧ i < n ∧ rd O i = j
theorem sq_inv_node {O : List Int} {t : List S56} {n i : Nat} {s : SqS} (h : SqInv O n s.F) (hi : i < n) : SqInv O n (sqNode O t i s).F := by
 unfold sqNode
 by_cases h46 : (rd_T56 t i).f0 = 46
 ·rw [if_pos h46]
  intro j c a hj
  have hj' : upF s.F (rd O i) (sayL ((s.F (rd O i)).getD (0, 0)).1 (kpB (rd_T56 t i).f1 (rd_T56 t i).f1.size 0 ((s.F (rd O i)).getD (0, 0)).1), atL ((s.F (rd O i)).getD (0, 0)).2 i (kpB (rd_T56 t i).f1 (rd_T56 t i).f1.size 0 ((s.F (rd O i)).getD (0, 0)).1)) j = some (c, a) := hj
  clear hj
  generalize kpB (rd_T56 t i).f1 (rd_T56 t i).f1.size 0 ((s.F (rd O i)).getD (0, 0)).1 = L at hj'
  unfold upF at hj'
  by_cases e : j = rd O i
  ·rw [if_pos e] at hj'
   have h1 := Prod.mk.inj (Option.some.inj hj')
   cases L with
   | nil =>
    cases hF : s.F (rd O i) with
    | none => rw [hF] at h1; exact .inl h1.1.symm
    | some q =>
     rw [hF] at h1
     obtain ⟨c', a'⟩ := q
     obtain ⟨rfl, rfl⟩ := h1
     rw [e]
     exact h _ _ _ hF
   | cons x L =>
    right
    refine ⟨i, ?_, hi, e.symm⟩
    rw [← h1.2]
    unfold atL
    rw [if_neg (by simp)]
  ·rw [if_neg e] at hj'
   exact h j c a hj'
 ·rw [if_neg h46]
  exact h
theorem sq_inv_run {O : List Int} {t : List S56} {n : Nat} : ∀ (d i : Nat) (s : SqS), SqInv O n s.F → d + i ≤ n → SqInv O n (sqRun O t d i s).F
 | 0, i, s, h, hd => h
 | d + 1, i, s, h, hd => sq_inv_run d (i + 1) _ (sq_inv_node h (by omega)) (by omega)
theorem trims_len (O : List Int) (F : Int → Option (Int × Int)) (left : Int → Bool) (out : List S56) : (trimsP O F left out).length = out.length := by simp [trimsP]
theorem trims_getElem (O : List Int) (F : Int → Option (Int × Int)) (left : Int → Bool) (out : List S56) (i : Nat) : (trimsP O F left out)[i]? = (out[i]?).map fun y => if (F (rd O i) = some (32, (i : Int)) ∧ left (rd O i) = false) then tx (trimT y.f1) y else y := by
 unfold trimsP
 rw [List.getElem?_mapIdx]
theorem trims_start (O : List Int) (F : Int → Option (Int × Int)) (left : Int → Bool) (out : List S56) (h : ∀ i : Nat, F (rd O i) = some (32, (i : Int)) → left (rd O i) = true) : trimsP O F left out = out := by
 refine List.ext_getElem? fun i => ?_
 rw [trims_getElem]
 cases out[i]? with
 | none => rfl
 | some y =>
  rw [Option.map_some, if_neg]
  rintro ⟨h1, h2⟩
  rw [h i h1] at h2
  cases h2
theorem trims_skip (O : List Int) (F : Int → Option (Int × Int)) (left left' : Int → Bool) (out : List S56) (j0 : Int) (hl : ∀ j, j ≠ j0 → left' j = left j) (h : ∀ a, F j0 ≠ some (32, a)) : trimsP O F left' out = trimsP O F left out := by
 refine List.ext_getElem? fun i => ?_
 rw [trims_getElem, trims_getElem]
 congr 1
 funext y
 by_cases e : rd O i = j0
 ·rw [if_neg (fun x => h _ (e ▸ x.1)), if_neg (fun x => h _ (e ▸ x.1))]
 ·rw [hl _ e]
theorem trims_step (O : List Int) (F : Int → Option (Int × Int)) (left left' : Int → Bool) (out : List S56) (j0 : Int) (ia : Nat) (hl : ∀ j, j ≠ j0 → left' j = left j) (h0 : left j0 = true) (h1 : left' j0 = false) (hF : F j0 = some (32, (ia : Int))) (hia : ia < out.length) (hr : rd O ia = j0) :
  trimsP O F left' out = (trimsP O F left out).modify ia (tx (trimT (out.getD ia z56).f1)) ∧ (trimsP O F left out).getD ia z56 = out.getD ia z56 := by
 have hat : (trimsP O F left out)[ia]? = out[ia]? := by
  rw [trims_getElem, List.getElem?_eq_getElem hia, Option.map_some, if_neg]
  rintro ⟨_, h⟩
  rw [hr, h0] at h
  cases h
 refine ⟨List.ext_getElem? fun i => ?_, by rw [List.getD_eq_getElem?_getD, hat, ← List.getD_eq_getElem?_getD]⟩
 rw [List.getElem?_modify]
 by_cases e : i = ia
 ·subst e
  rw [hat, trims_getElem, List.getElem?_eq_getElem hia, Option.map_some, if_pos ⟨by rw [hr]; exact hF, by rw [hr]; exact h1⟩, List.getD_eq_getElem?_getD, List.getElem?_eq_getElem hia]
  simp
 ·rw [trims_getElem, trims_getElem]
  cases out[i]? with
  | none => simp
  | some y =>
   simp only [Option.map_some, Option.map_eq_map, if_neg (Ne.symm e)]
   congr 1
   by_cases er : rd O i = j0
   ·have hne : ¬ F (rd O i) = some (32, (i : Int)) := fun h => by
     rw [er, hF] at h
     have := (Prod.mk.inj (Option.some.inj h)).2
     omega
    rw [if_neg (fun h => hne h.1), if_neg (fun h => hne h.1)]
   ·rw [hl _ er]
theorem kpB_len (s : ByteArray) : ∀ (d k : Nat) (c : Int), (kpB s d k c).length ≤ d
 | 0, k, c => Nat.le_refl _
 | d + 1, k, c => by
  rw [kpB]
  have h1 := kpB_len s d (k + 1) c
  have h2 := kpB_len s d (k + 1) 32
  have h3 := kpB_len s d (k + 1) (bt s k)
  split
  ·split
   ·split
    ·omega
    ·rw [List.length_cons]; omega
   ·rw [List.length_cons]; omega
  ·exact Nat.zero_le _
def Small (M : Nat) (l : List S56) : Prop := ∀ x ∈ l, x.f1.size ≤ M
theorem small_mod {M : Nat} {l : List S56} (h : Small M l) (i : Nat) (f : S56 → S56) (hf : ∀ x, x.f1.size ≤ M → (f x).f1.size ≤ M) : Small M (l.modify i f) := by
 intro x hx
 obtain ⟨y, hy, rfl | rfl⟩ := mem_modify hx
 ·exact h _ hy
 ·exact hf y (h y hy)
theorem sq_small_node {O : List Int} {t : List S56} {M i : Nat} {s : SqS} (h : Small M s.out) (ht : Small M t) : Small M (sqNode O t i s).out := by
 unfold sqNode
 by_cases h46 : (rd_T56 t i).f0 = 46
 ·rw [if_pos h46]
  have hL := kpB_len (rd_T56 t i).f1 (rd_T56 t i).f1.size 0 ((s.F (rd O i)).getD (0, 0)).1
  have hx : (rd_T56 t i).f1.size ≤ M := by
   unfold rd_T56
   rw [List.getD_eq_getElem?_getD]
   by_cases hi : (i : Int).toNat < t.length
   ·rw [List.getElem?_eq_getElem hi]; exact ht _ (List.getElem_mem hi)
   ·rw [List.getElem?_eq_none (by omega)]; exact Nat.zero_le _
  show Small M ((outLn t i s.out (kpB (rd_T56 t i).f1 (rd_T56 t i).f1.size 0 ((s.F (rd O i)).getD (0, 0)).1)).modify i (tx (strOfNums (byL (kpB (rd_T56 t i).f1 (rd_T56 t i).f1.size 0 ((s.F (rd O i)).getD (0, 0)).1)))))
  generalize kpB (rd_T56 t i).f1 (rd_T56 t i).f1.size 0 ((s.F (rd O i)).getD (0, 0)).1 = L at hL ⊢
  refine small_mod ?_ i _ fun x _ => ?_
  ·cases L with
   | nil => exact h
   | cons y L => exact small_mod h i _ fun x hx => hx
  ·show (strOfNums (byL L)).size ≤ M
   have : (strOfNums (byL L)).size = L.length := by simp [strOfNums, byL, ByteArray.size]
   omega
 ·rw [if_neg h46]
  exact h
theorem sq_small_run {O : List Int} {t : List S56} {M : Nat} (ht : Small M t) : ∀ (d i : Nat) (s : SqS), Small M s.out → Small M (sqRun O t d i s).out
 | 0, i, s, h => h
 | d + 1, i, s, h => sq_small_run ht d (i + 1) _ (sq_small_node h ht)
end Go.Proofs.Ythcmfjpheanphaa.Pr
