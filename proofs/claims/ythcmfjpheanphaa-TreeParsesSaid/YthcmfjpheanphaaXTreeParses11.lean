/- Texts of this seat, one behind the other. -/
import Derived.Lib.Hide
import Derived.WalkKit
import Derived.Outline
import Derived.Test.YthcmfjpheanphaaXTreeParses1
import Derived.Test.YthcmfjpheanphaaXTreeParses2
import Derived.Test.YthcmfjpheanphaaXTreeParses3
import Derived.Test.YthcmfjpheanphaaXTreeParses4
import Derived.Test.YthcmfjpheanphaaXTreeParses5
import Derived.Test.YthcmfjpheanphaaXTreeParses6
import Derived.Test.YthcmfjpheanphaaXTreeParses7
import Derived.Test.YthcmfjpheanphaaXTreeParses8
import Derived.Test.YthcmfjpheanphaaXTreeParses9
import Derived.Test.YthcmfjpheanphaaXTreeParses10
set_option linter.unusedVariables false
set_option linter.unusedSimpArgs false
namespace Go.Proofs.Ythcmfjpheanphaa.Pr
open Go.RowKit Go.Proofs.YthcmfjpheanphaaW.PrintWords Go.Proofs.YthcmfjpheanphaaW.PrintLast Go.Proofs.YthcmfjpheanphaaW.PrintMore
attribute [local go_sem] max2_int min2_int max_two min_two max_three min_three max_four min_four
def stylusref04_Parse.l0 : Nat → ByteArray → List (S47) → Int → Option ((List (S56)) × Int × Int)
 | 0, _, _, _ => none
 | k + 1, x0, x5, x8 => if x8 < (x5.length : Int) then (if 0 ≤ x8 then (if x8 ≤ (x5.length : Int) then ((stylusref04_Read.f (x5.take (x8 : Int).toNat)).bind fun bt165 => ((stylusref04_Step.f k bt165.1 bt165.2 ((rd_T47 x5 x8).f0) ((rd_T47 x5 x8).f1) ((rd_T47 x5 x8).f2) ((rd_T47 x5 x8).f3)).bind fun bt172 => (if bt172.2 = 0 then (stylusref04_Parse.l0 k x0 x5 (wrap64 (x8 + 1))) else (some (([] : List (S56)), bt172.1, bt172.2))))) else (none)) else (none)) else ((stylusref04_Read.f x5).bind fun bt155 => (if (bt155.2.length : Int) > 1 then (some (([] : List (S56)), (x0.size : Int), 2)) else (some (bt155.1, 0, 0))))
def stylusref04_Parse.f (k : Nat) (a0 : ByteArray) : Option ((List (S56)) × Int × Int) := (stylusref03_Of.f k a0).bind fun bt150 => (if bt150.2.2 = 0 then (stylusref04_Parse.l0 k a0 bt150.1 0) else (some (([] : List (S56)), bt150.2.1, bt150.2.2)))
theorem stylusref04_Parse.mono_l : ∀ k, (∀ y0 y1 y2, LeO (stylusref04_Parse.l0 k y0 y1 y2) (stylusref04_Parse.l0 (k + 1) y0 y1 y2))
 | 0 => fun _ _ _ r h => by simp [stylusref04_Parse.l0] at h
 | k + 1 => by
  have ih0 := stylusref04_Parse.mono_l k
  ·intro y0 y1 y2
   unfold stylusref04_Parse.l0
   repeat' first
   | (with_reducible exact ih0 _ _ _)
   | (with_reducible exact stylusref03_Of.mono _ _)
   | (with_reducible exact stylusref04_Step.mono _ _ _ _ _ _ _)
   | (with_reducible exact LeO.refl _)
   | (with_reducible exact LeO.none _)
   | (with_reducible refine LeO.ite ?_ ?_)
   | (with_reducible refine LeO.bind ?_ (fun _ => ?_))
   | exact ih0 _ _ _
   | exact stylusref03_Of.mono _ _
   | exact stylusref04_Step.mono _ _ _ _ _ _ _
   | exact LeO.none _
   | refine LeO.ite ?_ ?_
   | refine LeO.bind ?_ (fun _ => ?_)
theorem stylusref04_Parse.mono : ∀ a0 k, LeO (stylusref04_Parse.f k a0) (stylusref04_Parse.f (k + 1) a0) := by
 intro a0 k
 have ih0 := stylusref04_Parse.mono_l k
 unfold stylusref04_Parse.f
 repeat' first
   | (with_reducible exact ih0 _ _ _)
   | (with_reducible exact stylusref03_Of.mono _ _)
   | (with_reducible exact stylusref04_Step.mono _ _ _ _ _ _ _)
   | (with_reducible exact LeO.refl _)
   | (with_reducible exact LeO.none _)
   | (with_reducible refine LeO.ite ?_ ?_)
   | (with_reducible refine LeO.bind ?_ (fun _ => ?_))
   | exact ih0 _ _ _
   | exact stylusref03_Of.mono _ _
   | exact stylusref04_Step.mono _ _ _ _ _ _ _
   | exact LeO.none _
   | refine LeO.ite ?_ ?_
   | refine LeO.bind ?_ (fun _ => ?_)
set_option maxHeartbeats 8000000 in
set_option maxRecDepth 100000 in
theorem stylusref04_Parse.calls (k : Nat) (a0 : ByteArray) (r1 : List (S56)) (r2 : Int) (r3 : Int) (w : World) (h : stylusref04_Parse.f k a0 = some (r1, r2, r3)) :
  Calls Try.prog 54 #[.string a0] w fun e w' => ∃ v0_ : Value, e = .returned (.tuple #[v0_, .int .i64 r2, .int .i64 r3]) ∧ Kd.R k56 56 w' w.heap.size (fun _ => True) v0_ r1 ∧ Below w.heap.size w w' := by
 have hu47 := Try.underlying47
 have HB := Aside0.mk (Below.refl w.heap.size w)
 have H : ((stylusref03_Of.f k a0).bind fun bt150 => (if bt150.2.2 = 0 then (stylusref04_Parse.l0 k a0 bt150.1 0) else (some (([] : List (S56)), bt150.2.1, bt150.2.2)))) = some (r1, r2, r3) := h
 clear h
 replace H := Option.bind_eq_some_iff.mp H
 obtain ⟨⟨t150, t151, t152⟩, A20, H⟩ := H
 replace H : (if t152 = 0 then (stylusref04_Parse.l0 k a0 t150 0) else (some (([] : List (S56)), t151, t152))) = some (r1, r2, r3) := H
 have A2 := Aside0.mk A20
 clear A20
 by_cases c3 : t152 = 0
 ·rw [if_pos c3] at H
  have c3b0 : (t152 == 0) = true := beq_iff_eq.mpr c3
  have c3b1 : (t152 != 0) = false := bne_eq_false_iff_eq.mpr c3
  clear c3
  have H' := Aside0.mk H
  clear H
  go_enter Try.func54, Try.ntmps54
  go_wp2_with (first | ((with_reducible refine gate_callee (f := 46) rfl ?_); refine goesL_ (some 15) rfl rfl Try.func46 (by kernel_rfl) rfl #[.string a0] rfl (by (try simp only [List.map_toArray, List.map_cons, List.map_nil]); first | done | rfl | (simp only [List.length_drop, List.length_take]; rfl)) ?_; (with_reducible refine (stylusref03_Of.calls k a0 t150 t151 t152 _ A2.out).mono ?_); rintro e w4 ⟨v153, rfl, ho0, hb⟩; refine ⟨_, rfl, ?_⟩; have n0_ := Aside0.mk (Kd.R_lower ho0 (below_size (by repeat (first | (with_reducible first | exact HB.out | apply below_alloc | apply pw_below_drewN | apply below_drew1) | exact HB.out)))); have n1_ := Aside0.mk (below_step (by repeat (first | (with_reducible first | exact HB.out | apply below_alloc | apply pw_below_drewN | apply below_drew1) | exact HB.out)) hb); clear HB; have HO154 := n0_; have HB := n1_; clear n0_ n1_; (try clear hb); (try clear hb2); (try clear hk); (try clear hi); (try clear ho0)))
  go_loopg [8] k (fun kq v8 w' => ∃ (x8_1 : Int), v8 = .int .i64 x8_1 ∧ Aside0 (stylusref04_Parse.l0 kq a0 t150 x8_1 = some (r1, r2, r3)) ∧ Aside0 (kq ≤ k) ∧ Aside0 (Kd.R k47 47 w' w.heap.size (fun _ => True) v153 t150) ∧ Aside0 (Below w.heap.size w w'))
  case atStart => exact ⟨(0), (by first | rfl | (simp; done) | (simp [*]; done)), H', ⟨Nat.le_refl _⟩, ⟨by (with_reducible repeat (first | apply Kd.R_alloc | apply Kd.R_drewN | apply Kd.R_drew)); exact HO154.out⟩, ⟨by repeat (first | (with_reducible first | exact HB.out | apply below_alloc | apply pw_below_drewN | apply below_drew1) | exact HB.out)⟩⟩
  case round =>
   clear H'
   try clear p2
   try clear c3
   try clear c3b0
   try clear c3b1
   try clear c4
   obtain ⟨x8_1, rfl, HA, HK1, HO_5, HB⟩ := hrel
   cases gk with
   | zero => exact absurd HA.out (by simp [stylusref04_Parse.l0])
   | succ k1 =>
    have H := HA.out
    clear HA
    simp only [stylusref04_Parse.l0] at H
    by_cases c5 : x8_1 < (t150.length : Int)
    ·rw [if_pos c5] at H
     have c5b0 : decide (x8_1 < (t150.length : Int)) = true := decide_eq_true c5
     clear c5
     by_cases c6 : 0 ≤ x8_1
     ·rw [if_pos c6] at H
      have c6b0 := eq_true c6
      have c6b1 : decide (0 ≤ x8_1) = true := decide_eq_true c6
      clear c6
      by_cases c7 : x8_1 ≤ (t150.length : Int)
      ·rw [if_pos c7] at H
       have c7b0 := eq_true c7
       have c7b1 : decide (x8_1 ≤ (t150.length : Int)) = true := decide_eq_true c7
       clear c7
       obtain ⟨y161, hy161⟩ : ∃ y_ : List (S47), y_ = (t150.take (x8_1 : Int).toNat) := ⟨_, rfl⟩
       replace H : ((stylusref04_Read.f y161).bind fun bt165 => ((stylusref04_Step.f k1 bt165.1 bt165.2 ((rd_T47 t150 x8_1).f0) ((rd_T47 t150 x8_1).f1) ((rd_T47 t150 x8_1).f2) ((rd_T47 t150 x8_1).f3)).bind fun bt172 => (if bt172.2 = 0 then (stylusref04_Parse.l0 k1 a0 t150 (wrap64 (x8_1 + 1))) else (some (([] : List (S56)), bt172.1, bt172.2))))) = some (r1, r2, r3) := by first | (rw [hy161]; with_reducible exact H) | (have H2_ := (Option.bind_some _ _).symm.trans H; rw [hy161]; with_reducible exact H2_) | (have H2_ := (Option.bind_some _ _).symm.trans H; with_reducible exact H2_) | with_reducible exact H | (rw [hy161]; exact H) | exact H
       have Ny161 := Aside0.mk hy161
       clear hy161
       replace H := Option.bind_eq_some_iff.mp H
       obtain ⟨⟨t165, t166⟩, A80, H⟩ := H
       replace H : ((stylusref04_Step.f k1 t165 t166 ((rd_T47 t150 x8_1).f0) ((rd_T47 t150 x8_1).f1) ((rd_T47 t150 x8_1).f2) ((rd_T47 t150 x8_1).f3)).bind fun bt172 => (if bt172.2 = 0 then (stylusref04_Parse.l0 k1 a0 t150 (wrap64 (x8_1 + 1))) else (some (([] : List (S56)), bt172.1, bt172.2)))) = some (r1, r2, r3) := H
       have A8 := Aside0.mk A80
       clear A80
       replace H := Option.bind_eq_some_iff.mp H
       obtain ⟨⟨t172, t173⟩, A90, H⟩ := H
       replace H : (if t173 = 0 then (stylusref04_Parse.l0 k1 a0 t150 (wrap64 (x8_1 + 1))) else (some (([] : List (S56)), t172, t173))) = some (r1, r2, r3) := H
       have A9 := Aside0.mk A90
       clear A90
       by_cases c10 : t173 = 0
       ·rw [if_pos c10] at H
        have c10b0 : (t173 == 0) = true := beq_iff_eq.mpr c10
        have c10b1 : (t173 != 0) = false := bne_eq_false_iff_eq.mpr c10
        clear c10
        have H' := Aside0.mk H
        clear H
        obtain ⟨Ao11, co11, eo11⟩ := Kd.R_slice HO_5.out
        subst eo11
        have q12 : (x8_1 : Int) ≤ ((t150.length : Int) : Int) := of_decide_eq_true (by first | (with_reducible assumption) | assumption)
        obtain ⟨i012, hi012, _, hsz12, _⟩ := info_parts info47
        have hroom12 : t150.length ≤ co11 := (Kd.R_reads' HO_5.out).2.1
        have hC12 : Kd.C k47 _ Ao11 t150.length t150 := (Kd.R_reads' HO_5.out).2.2
        have hcut12 := cut_to (P := Try.prog) 41 47 .i64 Try.underlying41 hi012 Ao11 t150.length co11 x8_1 (of_decide_eq_true (by first | (with_reducible assumption) | assumption)) q12 hroom12
        have hr12 := Kd.C_take (m := (x8_1 : Int).toNat) hC12 (by omega)
        have hy12 : y161.length = (x8_1 : Int).toNat := (by rw [Ny161.out, List.length_take]; omega)
        rw [← Ny161.out] at hr12
        rw [← hy12] at hcut12
        have HR164 := Aside0.mk hr12
        have HC164 := Aside0.mk (show y161.length ≤ co11 from by omega)
        clear hr12 hC12 hroom12 hi012 hsz12
        have KY12 := Aside0.mk hy12
        clear hy12
        have KL12 := Aside0.mk (show (x8_1 : Int).toNat ≤ t150.length from by omega)
        replace q12 := eq_true q12
        go_wp2_with (first | ((with_reducible refine gate_callee (f := 95) rfl ?_); refine goesL_ (some 33) rfl rfl Try.func95 (by kernel_rfl) rfl #[.slice Ao11 y161.length co11] rfl (by (try simp only [List.map_toArray, List.map_cons, List.map_nil]); first | done | rfl | (simp only [List.length_drop, List.length_take]; rfl)) ?_; (with_reducible refine (stylusref04_Read.calls _ _ y161 t165 t166 _ ?side1 ?side2 A8.out).mono ?_); (case side1 => repeat (first | exact (by repeat (first | (with_reducible exact HR164.out) | (with_reducible refine Kd.C_alloc ?_ _) | (with_reducible refine Kd.C_drewN ?_ _) | (with_reducible refine Kd.C_drew ?_) | exact HR164.out)) | (with_reducible refine Kd.C_alloc ?_ _) | (with_reducible refine Kd.C_drewN ?_ _) | (with_reducible refine Kd.C_drew ?_))); (case side2 => exact HC164.out); rintro e w13 ⟨v167, v169, rfl, ho0, ho1, hb⟩; refine ⟨_, rfl, ?_⟩; have n0_ := Aside0.mk (Kd.R_below (by (with_reducible repeat (first | apply Kd.R_alloc | apply Kd.R_drewN | apply Kd.R_drew)); exact HO_5.out) hb); have n1_ := Aside0.mk (Kd.R_lower ho0 (below_size (by repeat (first | (with_reducible first | exact HB.out | apply below_alloc | apply pw_below_drewN | apply below_drew1) | exact HB.out)))); have n2_ := Aside0.mk (Kd.R_lower ho1 (below_size (by repeat (first | (with_reducible first | exact HB.out | apply below_alloc | apply pw_below_drewN | apply below_drew1) | exact HB.out)))); have n3_ := Aside0.mk (Kd.C_below (by repeat (first | (with_reducible exact HR164.out) | (with_reducible refine Kd.C_alloc ?_ _) | (with_reducible refine Kd.C_drewN ?_ _) | (with_reducible refine Kd.C_drew ?_) | exact HR164.out)) hb); have n4_ := Aside0.mk (below_step (by repeat (first | (with_reducible first | exact HB.out | apply below_alloc | apply pw_below_drewN | apply below_drew1) | exact HB.out)) hb); clear HO_5; clear HR164; clear HB; have HO_5 := n0_; have HO168 := n1_; have HO170 := n2_; have HR164 := n3_; have HB := n4_; clear n0_ n1_ n2_ n3_ n4_; (try clear hb); (try clear hb2); (try clear hk); (try clear hi); (try clear ho0); (try clear ho1); have p171 : 0 ≤ (x8_1 : Int) := of_decide_eq_true (by first | (with_reducible assumption) | assumption); have q171 : x8_1 < (t150.length : Int) := of_decide_eq_true (by first | (with_reducible assumption) | assumption); obtain ⟨ad171, e171, hx171_0, hx171_1, hx171_2, hx171_3⟩ := at_T47 (Kd.R_reads' HO_5.out).2.2 x8_1 p171 q171; cases e171; replace p171 := eq_true p171; replace q171 := eq_true q171; obtain ⟨Ao14, co14, eo14⟩ := Kd.R_slice HO168.out; subst eo14; obtain ⟨Ao15, co15, eo15⟩ := Kd.R_slice HO170.out; subst eo15) | ((with_reducible refine gate_callee (f := 96) rfl ?_); refine goesL_ (some 43) rfl rfl Try.func96 (by kernel_rfl) rfl #[.slice Ao14 t165.length co14, .slice Ao15 t166.length co15, .agg #[.int .i64 ((rd_T47 t150 x8_1).f0), .int .u8 ((rd_T47 t150 x8_1).f1), .string ((rd_T47 t150 x8_1).f2), .int .i64 ((rd_T47 t150 x8_1).f3)]] rfl (by (try simp only [List.map_toArray, List.map_cons, List.map_nil]); first | done | rfl | (simp only [List.length_drop, List.length_take]; rfl)) ?_; (with_reducible refine (stylusref04_Step.calls k1 _ _ t165 _ _ t166 ((rd_T47 t150 x8_1).f0) ((rd_T47 t150 x8_1).f1) ((rd_T47 t150 x8_1).f2) ((rd_T47 t150 x8_1).f3) t172 t173 _ ?side1 ?side2 ?side3 ?side4 A9.out).mono ?_); (case side1 => repeat (first | exact (Kd.R_reads' HO168.out).2.2 | (with_reducible refine Kd.C_alloc ?_ _) | (with_reducible refine Kd.C_drewN ?_ _) | (with_reducible refine Kd.C_drew ?_))); (case side2 => exact (Kd.R_reads' HO168.out).2.1); (case side3 => repeat (first | exact (Kd.R_reads' HO170.out).2.2 | (with_reducible refine Kd.C_alloc ?_ _) | (with_reducible refine Kd.C_drewN ?_ _) | (with_reducible refine Kd.C_drew ?_))); (case side4 => exact (Kd.R_reads' HO170.out).2.1); rintro e w16 ⟨rfl, hb⟩; refine ⟨_, rfl, ?_⟩; have n0_ := Aside0.mk (Kd.R_below (by (with_reducible repeat (first | apply Kd.R_alloc | apply Kd.R_drewN | apply Kd.R_drew)); exact HO_5.out) hb); have n1_ := Aside0.mk (Kd.R_below (by (with_reducible repeat (first | apply Kd.R_alloc | apply Kd.R_drewN | apply Kd.R_drew)); exact HO168.out) hb); have n2_ := Aside0.mk (Kd.R_below (by (with_reducible repeat (first | apply Kd.R_alloc | apply Kd.R_drewN | apply Kd.R_drew)); exact HO170.out) hb); have n3_ := Aside0.mk (Kd.C_below (by repeat (first | (with_reducible exact HR164.out) | (with_reducible refine Kd.C_alloc ?_ _) | (with_reducible refine Kd.C_drewN ?_ _) | (with_reducible refine Kd.C_drew ?_) | exact HR164.out)) hb); have n4_ := Aside0.mk (below_step (by repeat (first | (with_reducible first | exact HB.out | apply below_alloc | apply pw_below_drewN | apply below_drew1) | exact HB.out)) hb); clear HO_5; clear HO168; clear HO170; clear HR164; clear HB; have HO_5 := n0_; have HO168 := n1_; have HO170 := n2_; have HR164 := n3_; have HB := n4_; clear n0_ n1_ n2_ n3_ n4_; (try clear hb); (try clear hb2); (try clear hk); (try clear hi)))
        go_roundg k1
        case measure => have := HK1.out; omega
        case rel => exact ⟨(wrap64 (x8_1 + 1)), (by first | rfl | (simp; done) | (simp [*]; done)), H', ⟨by have := HK1.out; omega⟩, ⟨by (with_reducible repeat (first | apply Kd.R_alloc | apply Kd.R_drewN | apply Kd.R_drew)); exact HO_5.out⟩, ⟨by repeat (first | (with_reducible first | exact HB.out | apply below_alloc | apply pw_below_drewN | apply below_drew1) | exact HB.out)⟩⟩
       ·rw [if_neg c10] at H
        have c10b0 : (t173 == 0) = false := beq_eq_false_iff_ne.mpr c10
        have c10b1 : (t173 != 0) = true := bne_iff_ne.mpr c10
        simp only [Option.some.injEq, Prod.mk.injEq] at H
        obtain ⟨rfl, rfl, rfl⟩ := H
        obtain ⟨Ao17, co17, eo17⟩ := Kd.R_slice HO_5.out
        subst eo17
        have q18 : (x8_1 : Int) ≤ ((t150.length : Int) : Int) := of_decide_eq_true (by first | (with_reducible assumption) | assumption)
        obtain ⟨i018, hi018, _, hsz18, _⟩ := info_parts info47
        have hroom18 : t150.length ≤ co17 := (Kd.R_reads' HO_5.out).2.1
        have hC18 : Kd.C k47 _ Ao17 t150.length t150 := (Kd.R_reads' HO_5.out).2.2
        have hcut18 := cut_to (P := Try.prog) 41 47 .i64 Try.underlying41 hi018 Ao17 t150.length co17 x8_1 (of_decide_eq_true (by first | (with_reducible assumption) | assumption)) q18 hroom18
        have hr18 := Kd.C_take (m := (x8_1 : Int).toNat) hC18 (by omega)
        have hy18 : y161.length = (x8_1 : Int).toNat := (by rw [Ny161.out, List.length_take]; omega)
        rw [← Ny161.out] at hr18
        rw [← hy18] at hcut18
        have HR164 := Aside0.mk hr18
        have HC164 := Aside0.mk (show y161.length ≤ co17 from by omega)
        clear hr18 hC18 hroom18 hi018 hsz18
        have KY18 := Aside0.mk hy18
        clear hy18
        have KL18 := Aside0.mk (show (x8_1 : Int).toNat ≤ t150.length from by omega)
        replace q18 := eq_true q18
        go_wp2_with (first | ((with_reducible refine gate_callee (f := 95) rfl ?_); refine goesL_ (some 33) rfl rfl Try.func95 (by kernel_rfl) rfl #[.slice Ao17 y161.length co17] rfl (by (try simp only [List.map_toArray, List.map_cons, List.map_nil]); first | done | rfl | (simp only [List.length_drop, List.length_take]; rfl)) ?_; (with_reducible refine (stylusref04_Read.calls _ _ y161 t165 t166 _ ?side1 ?side2 A8.out).mono ?_); (case side1 => repeat (first | exact (by repeat (first | (with_reducible exact HR164.out) | (with_reducible refine Kd.C_alloc ?_ _) | (with_reducible refine Kd.C_drewN ?_ _) | (with_reducible refine Kd.C_drew ?_) | exact HR164.out)) | (with_reducible refine Kd.C_alloc ?_ _) | (with_reducible refine Kd.C_drewN ?_ _) | (with_reducible refine Kd.C_drew ?_))); (case side2 => exact HC164.out); rintro e w19 ⟨v167, v169, rfl, ho0, ho1, hb⟩; refine ⟨_, rfl, ?_⟩; have n0_ := Aside0.mk (Kd.R_below (by (with_reducible repeat (first | apply Kd.R_alloc | apply Kd.R_drewN | apply Kd.R_drew)); exact HO_5.out) hb); have n1_ := Aside0.mk (Kd.R_lower ho0 (below_size (by repeat (first | (with_reducible first | exact HB.out | apply below_alloc | apply pw_below_drewN | apply below_drew1) | exact HB.out)))); have n2_ := Aside0.mk (Kd.R_lower ho1 (below_size (by repeat (first | (with_reducible first | exact HB.out | apply below_alloc | apply pw_below_drewN | apply below_drew1) | exact HB.out)))); have n3_ := Aside0.mk (Kd.C_below (by repeat (first | (with_reducible exact HR164.out) | (with_reducible refine Kd.C_alloc ?_ _) | (with_reducible refine Kd.C_drewN ?_ _) | (with_reducible refine Kd.C_drew ?_) | exact HR164.out)) hb); have n4_ := Aside0.mk (below_step (by repeat (first | (with_reducible first | exact HB.out | apply below_alloc | apply pw_below_drewN | apply below_drew1) | exact HB.out)) hb); clear HO_5; clear HR164; clear HB; have HO_5 := n0_; have HO168 := n1_; have HO170 := n2_; have HR164 := n3_; have HB := n4_; clear n0_ n1_ n2_ n3_ n4_; (try clear hb); (try clear hb2); (try clear hk); (try clear hi); (try clear ho0); (try clear ho1); have p171 : 0 ≤ (x8_1 : Int) := of_decide_eq_true (by first | (with_reducible assumption) | assumption); have q171 : x8_1 < (t150.length : Int) := of_decide_eq_true (by first | (with_reducible assumption) | assumption); obtain ⟨ad171, e171, hx171_0, hx171_1, hx171_2, hx171_3⟩ := at_T47 (Kd.R_reads' HO_5.out).2.2 x8_1 p171 q171; cases e171; replace p171 := eq_true p171; replace q171 := eq_true q171; obtain ⟨Ao20, co20, eo20⟩ := Kd.R_slice HO168.out; subst eo20; obtain ⟨Ao21, co21, eo21⟩ := Kd.R_slice HO170.out; subst eo21) | ((with_reducible refine gate_callee (f := 96) rfl ?_); refine goesL_ (some 43) rfl rfl Try.func96 (by kernel_rfl) rfl #[.slice Ao20 t165.length co20, .slice Ao21 t166.length co21, .agg #[.int .i64 ((rd_T47 t150 x8_1).f0), .int .u8 ((rd_T47 t150 x8_1).f1), .string ((rd_T47 t150 x8_1).f2), .int .i64 ((rd_T47 t150 x8_1).f3)]] rfl (by (try simp only [List.map_toArray, List.map_cons, List.map_nil]); first | done | rfl | (simp only [List.length_drop, List.length_take]; rfl)) ?_; (with_reducible refine (stylusref04_Step.calls k1 _ _ t165 _ _ t166 ((rd_T47 t150 x8_1).f0) ((rd_T47 t150 x8_1).f1) ((rd_T47 t150 x8_1).f2) ((rd_T47 t150 x8_1).f3) t172 t173 _ ?side1 ?side2 ?side3 ?side4 A9.out).mono ?_); (case side1 => repeat (first | exact (Kd.R_reads' HO168.out).2.2 | (with_reducible refine Kd.C_alloc ?_ _) | (with_reducible refine Kd.C_drewN ?_ _) | (with_reducible refine Kd.C_drew ?_))); (case side2 => exact (Kd.R_reads' HO168.out).2.1); (case side3 => repeat (first | exact (Kd.R_reads' HO170.out).2.2 | (with_reducible refine Kd.C_alloc ?_ _) | (with_reducible refine Kd.C_drewN ?_ _) | (with_reducible refine Kd.C_drew ?_))); (case side4 => exact (Kd.R_reads' HO170.out).2.1); rintro e w22 ⟨rfl, hb⟩; refine ⟨_, rfl, ?_⟩; have n0_ := Aside0.mk (Kd.R_below (by (with_reducible repeat (first | apply Kd.R_alloc | apply Kd.R_drewN | apply Kd.R_drew)); exact HO_5.out) hb); have n1_ := Aside0.mk (Kd.R_below (by (with_reducible repeat (first | apply Kd.R_alloc | apply Kd.R_drewN | apply Kd.R_drew)); exact HO168.out) hb); have n2_ := Aside0.mk (Kd.R_below (by (with_reducible repeat (first | apply Kd.R_alloc | apply Kd.R_drewN | apply Kd.R_drew)); exact HO170.out) hb); have n3_ := Aside0.mk (Kd.C_below (by repeat (first | (with_reducible exact HR164.out) | (with_reducible refine Kd.C_alloc ?_ _) | (with_reducible refine Kd.C_drewN ?_ _) | (with_reducible refine Kd.C_drew ?_) | exact HR164.out)) hb); have n4_ := Aside0.mk (below_step (by repeat (first | (with_reducible first | exact HB.out | apply below_alloc | apply pw_below_drewN | apply below_drew1) | exact HB.out)) hb); clear HO_5; clear HO168; clear HO170; clear HR164; clear HB; have HO_5 := n0_; have HO168 := n1_; have HO170 := n2_; have HR164 := n3_; have HB := n4_; clear n0_ n1_ n2_ n3_ n4_; (try clear hb); (try clear hb2); (try clear hk); (try clear hi)))
        go_ret3
        exact ⟨_, by first | rfl | (simp [errW_none, errW_some] <;> rfl) | (simp [*, errW_none, errW_some] <;> rfl), by first | exact Kd.R_nil _ _ _ _ _ | exact Kd.N_nil _ _ _ _ _ | exact Kd.V_nil _ _ _ _ _ | exact Kd.Q_nil _ _ _ _ _ | exact Kd.S_nil _ _ _ _ _, by repeat (first | (with_reducible first | exact HB.out | apply below_alloc | apply pw_below_drewN | apply below_drew1) | exact HB.out)⟩
      ·rw [if_neg c7] at H
       exact absurd H (by simp)
     ·rw [if_neg c6] at H
      exact absurd H (by simp)
    ·rw [if_neg c5] at H
     have c5b0 : decide (x8_1 < (t150.length : Int)) = false := decide_eq_false c5
     clear c5
     replace H := Option.bind_eq_some_iff.mp H
     obtain ⟨⟨t155, t156⟩, A230, H⟩ := H
     replace H : (if (t156.length : Int) > 1 then (some (([] : List (S56)), (a0.size : Int), 2)) else (some (t155, 0, 0))) = some (r1, r2, r3) := H
     have A23 := Aside0.mk A230
     clear A230
     by_cases c24 : (t156.length : Int) > 1
     ·rw [if_pos c24] at H
      have c24b0 : decide (1 < (t156.length : Int)) = true := decide_eq_true c24
      have c24b1 : decide (1 < t156.length) = true := decide_eq_true (by omega)
      clear c24
      simp only [Option.some.injEq, Prod.mk.injEq] at H
      obtain ⟨rfl, rfl, rfl⟩ := H
      obtain ⟨Ao25, co25, eo25⟩ := Kd.R_slice HO_5.out
      subst eo25
      go_wp2_with (first | ((with_reducible refine gate_callee (f := 95) rfl ?_); refine goesL_ (some 52) rfl rfl Try.func95 (by kernel_rfl) rfl #[.slice Ao25 t150.length co25] rfl (by (try simp only [List.map_toArray, List.map_cons, List.map_nil]); first | done | rfl | (simp only [List.length_drop, List.length_take]; rfl)) ?_; (with_reducible refine (stylusref04_Read.calls _ _ t150 t155 t156 _ ?side1 ?side2 A23.out).mono ?_); (case side1 => repeat (first | exact (Kd.R_reads' HO_5.out).2.2 | (with_reducible refine Kd.C_alloc ?_ _) | (with_reducible refine Kd.C_drewN ?_ _) | (with_reducible refine Kd.C_drew ?_))); (case side2 => exact (Kd.R_reads' HO_5.out).2.1); rintro e w26 ⟨v157, v159, rfl, ho0, ho1, hb⟩; refine ⟨_, rfl, ?_⟩; have n0_ := Aside0.mk (Kd.R_below (by (with_reducible repeat (first | apply Kd.R_alloc | apply Kd.R_drewN | apply Kd.R_drew)); exact HO_5.out) hb); have n1_ := Aside0.mk (Kd.R_lower ho0 (below_size (by repeat (first | (with_reducible first | exact HB.out | apply below_alloc | apply pw_below_drewN | apply below_drew1) | exact HB.out)))); have n2_ := Aside0.mk (Kd.R_lower ho1 (below_size (by repeat (first | (with_reducible first | exact HB.out | apply below_alloc | apply pw_below_drewN | apply below_drew1) | exact HB.out)))); have n3_ := Aside0.mk (below_step (by repeat (first | (with_reducible first | exact HB.out | apply below_alloc | apply pw_below_drewN | apply below_drew1) | exact HB.out)) hb); clear HO_5; clear HB; have HO_5 := n0_; have HO158 := n1_; have HO160 := n2_; have HB := n3_; clear n0_ n1_ n2_ n3_; (try clear hb); (try clear hb2); (try clear hk); (try clear hi); (try clear ho0); (try clear ho1); obtain ⟨Ao27, co27, eo27⟩ := Kd.R_slice HO160.out; subst eo27))
      go_ret3
      exact ⟨_, by first | rfl | (simp [errW_none, errW_some] <;> rfl) | (simp [*, errW_none, errW_some] <;> rfl), by first | exact Kd.R_nil _ _ _ _ _ | exact Kd.N_nil _ _ _ _ _ | exact Kd.V_nil _ _ _ _ _ | exact Kd.Q_nil _ _ _ _ _ | exact Kd.S_nil _ _ _ _ _, by repeat (first | (with_reducible first | exact HB.out | apply below_alloc | apply pw_below_drewN | apply below_drew1) | exact HB.out)⟩
     ·rw [if_neg c24] at H
      have c24b0 : decide (1 < (t156.length : Int)) = false := decide_eq_false c24
      have c24b1 : decide (1 < t156.length) = false := decide_eq_false (by omega)
      clear c24
      simp only [Option.some.injEq, Prod.mk.injEq] at H
      obtain ⟨rfl, rfl, rfl⟩ := H
      obtain ⟨Ao28, co28, eo28⟩ := Kd.R_slice HO_5.out
      subst eo28
      go_wp2_with (first | ((with_reducible refine gate_callee (f := 95) rfl ?_); refine goesL_ (some 52) rfl rfl Try.func95 (by kernel_rfl) rfl #[.slice Ao28 t150.length co28] rfl (by (try simp only [List.map_toArray, List.map_cons, List.map_nil]); first | done | rfl | (simp only [List.length_drop, List.length_take]; rfl)) ?_; (with_reducible refine (stylusref04_Read.calls _ _ t150 t155 t156 _ ?side1 ?side2 A23.out).mono ?_); (case side1 => repeat (first | exact (Kd.R_reads' HO_5.out).2.2 | (with_reducible refine Kd.C_alloc ?_ _) | (with_reducible refine Kd.C_drewN ?_ _) | (with_reducible refine Kd.C_drew ?_))); (case side2 => exact (Kd.R_reads' HO_5.out).2.1); rintro e w29 ⟨v157, v159, rfl, ho0, ho1, hb⟩; refine ⟨_, rfl, ?_⟩; have n0_ := Aside0.mk (Kd.R_below (by (with_reducible repeat (first | apply Kd.R_alloc | apply Kd.R_drewN | apply Kd.R_drew)); exact HO_5.out) hb); have n1_ := Aside0.mk (Kd.R_lower ho0 (below_size (by repeat (first | (with_reducible first | exact HB.out | apply below_alloc | apply pw_below_drewN | apply below_drew1) | exact HB.out)))); have n2_ := Aside0.mk (Kd.R_lower ho1 (below_size (by repeat (first | (with_reducible first | exact HB.out | apply below_alloc | apply pw_below_drewN | apply below_drew1) | exact HB.out)))); have n3_ := Aside0.mk (below_step (by repeat (first | (with_reducible first | exact HB.out | apply below_alloc | apply pw_below_drewN | apply below_drew1) | exact HB.out)) hb); clear HO_5; clear HB; have HO_5 := n0_; have HO158 := n1_; have HO160 := n2_; have HB := n3_; clear n0_ n1_ n2_ n3_; (try clear hb); (try clear hb2); (try clear hk); (try clear hi); (try clear ho0); (try clear ho1); obtain ⟨Ao30, co30, eo30⟩ := Kd.R_slice HO160.out; subst eo30))
      go_ret3
      exact ⟨_, by first | rfl | (simp [errW_none, errW_some] <;> rfl) | (simp [*, errW_none, errW_some] <;> rfl), by (with_reducible repeat (first | apply Kd.R_alloc | apply Kd.R_drewN | apply Kd.R_drew)); exact HO158.out, by repeat (first | (with_reducible first | exact HB.out | apply below_alloc | apply pw_below_drewN | apply below_drew1) | exact HB.out)⟩
 ·rw [if_neg c3] at H
  have c3b0 : (t152 == 0) = false := beq_eq_false_iff_ne.mpr c3
  have c3b1 : (t152 != 0) = true := bne_iff_ne.mpr c3
  simp only [Option.some.injEq, Prod.mk.injEq] at H
  obtain ⟨rfl, rfl, rfl⟩ := H
  go_enter Try.func54, Try.ntmps54
  go_wp2_with (first | ((with_reducible refine gate_callee (f := 46) rfl ?_); refine goesL_ (some 15) rfl rfl Try.func46 (by kernel_rfl) rfl #[.string a0] rfl (by (try simp only [List.map_toArray, List.map_cons, List.map_nil]); first | done | rfl | (simp only [List.length_drop, List.length_take]; rfl)) ?_; (with_reducible refine (stylusref03_Of.calls k a0 t150 t151 t152 _ A2.out).mono ?_); rintro e w31 ⟨v153, rfl, ho0, hb⟩; refine ⟨_, rfl, ?_⟩; have n0_ := Aside0.mk (Kd.R_lower ho0 (below_size (by repeat (first | (with_reducible first | exact HB.out | apply below_alloc | apply pw_below_drewN | apply below_drew1) | exact HB.out)))); have n1_ := Aside0.mk (below_step (by repeat (first | (with_reducible first | exact HB.out | apply below_alloc | apply pw_below_drewN | apply below_drew1) | exact HB.out)) hb); clear HB; have HO154 := n0_; have HB := n1_; clear n0_ n1_; (try clear hb); (try clear hb2); (try clear hk); (try clear hi); (try clear ho0)))
  go_ret3
  exact ⟨_, by first | rfl | (simp [errW_none, errW_some] <;> rfl) | (simp [*, errW_none, errW_some] <;> rfl), by first | exact Kd.R_nil _ _ _ _ _ | exact Kd.N_nil _ _ _ _ _ | exact Kd.V_nil _ _ _ _ _ | exact Kd.Q_nil _ _ _ _ _ | exact Kd.S_nil _ _ _ _ _, by repeat (first | (with_reducible first | exact HB.out | apply below_alloc | apply pw_below_drewN | apply below_drew1) | exact HB.out)⟩
end Go.Proofs.Ythcmfjpheanphaa.Pr
namespace Go.Proofs.Ythcmfjpheanphaa.Pr
open Go.RowKit Go.Maps Go.Proofs.YthcmfjpheanphaaW.PrintWords
attribute [local go_sem] Oper.semAt_some
theorem parse_R (a0 : ByteArray) (w : World) (hs : a0.size ≤ 140737488351232) {t : List S56} {a e : Int} (h : parseP a0 = (t, a, e)) : Calls Try.prog 53 #[.string a0] w fun e' w' => ∃ v0_ : Value, e' = .returned (.tuple #[v0_, .int .i64 a, .int .i64 e]) ∧ Kd.R k56 56 w' w.heap.size (fun _ => True) v0_ t ∧ Below w.heap.size w w' :=
 tree_Parse.calls a0 t a e w (by unfold tree_Parse.f; rw [if_pos hs, h])
def kindsB (s want sizes : ByteArray) : Bool :=
 (parseP s).2.2 == 0 && (parseP s).2.1 == 0 && (parseP s).1.length == want.size && want.size == sizes.size &&
  (List.range want.size).all fun k => (rd_T56 (parseP s).1 k).f0 == bt want k && (rd_T56 (parseP s).1 k).f3 == bt sizes k - 48 && decide (48 ≤ bt sizes k) && decide (bt sizes k ≤ 57)
def wrongB (s : ByteArray) (a : Int) : Bool := (parseP s).1.length == 0 && (parseP s).2.1 == a && (parseP s).2.2 == 2
set_option pp.maxSteps 3000 in
set_option maxRecDepth 100000 in
set_option maxHeartbeats 4000000 in
theorem kinds_calls (s want sizes : ByteArray) (w : World) (hs : s.size ≤ 8192) (hw : want.size ≤ 8192) (h : kindsB s want sizes = true) :
  Calls Try.prog 89 #[.string s, .string want, .string sizes] w fun e w' => e = .returned (.bool true) ∧ Below w.heap.size w w' := by
 unfold kindsB at h
 obtain ⟨⟨t, a, e⟩, ht⟩ : ∃ r, parseP s = r := ⟨_, rfl⟩
 rw [ht] at h
 simp only [Bool.and_eq_true, beq_iff_eq, List.all_eq_true, List.mem_range, decide_eq_true_eq] at h
 obtain ⟨⟨⟨⟨rfl, rfl⟩, hl⟩, hz⟩, hall⟩ := h
 have HP := Lib.hid (fun W => parse_R s W (by omega) ht)
 have HALL := Lib.hid hall
 have HZ := Lib.hid hz
 obtain ⟨n, hn⟩ : ∃ n, t.length = n := ⟨_, rfl⟩
 have hnw : n = want.size := by omega
 have HN := Lib.hid hn
 have HNW := Lib.hid hnw
 have hn8 : n ≤ 8192 := by omega
 clear ht hall hl hz hn hnw
 go_enter Try.func89, Try.ntmps89
 go_wp2_with fail
 refine (HP.out _).mono ?_
 rintro e w1 ⟨v, rfl, hR, hb1⟩
 obtain ⟨A, c, rfl, hc, hC⟩ := Kd.R_reads hR
 rw [HN.out] at hC ⊢
 have HC := Lib.hid hC
 have HB1 := Lib.hid hb1
 have hne : ((n : Int) != (want.size : Int)) = false := by rw [← HNW.out]; simp
 clear hR hC hb1
 go_wp2
 go_loopw [10] (fun v wr => ∃ k : Nat, k ≤ n ∧ v = .int .i64 k ∧ Below w1.heap.size w1 wr) (fun v _ => n - (intOf v).toNat)
 case atStart => exact ⟨0, Nat.zero_le _, rfl, Below.refl _ _⟩
 case round =>
  obtain ⟨k, hk, rfl, hW⟩ := hrel
  by_cases hlt : k < n
  ·have hlt1 : (k : Int) < (n : Int) := by omega
   have hkw : k < want.size := by have := HNW.out; omega
   have hkz : k < sizes.size := by have := HNW.out; have := HZ.out; omega
   have hkw1 : (k : Int) < (want.size : Int) := by omega
   have hkz1 : (k : Int) < (sizes.size : Int) := by omega
   obtain ⟨⟨⟨g1, g2⟩, g3⟩, g4⟩ := HALL.out k hkw
   obtain ⟨W2, hW2⟩ : ∃ W2, wr.drew = W2 := ⟨_, rfl⟩
   have hb2 : Below w1.heap.size w1 W2 := by rw [← hW2]; exact below_drew1 hW
   obtain ⟨ad, e1, q0, q1, q2, q3⟩ := at_T56 (Kd.C_below HC.out hb2) k (by omega) (by omega)
   subst e1
   simp only [Int.toNat_natCast] at q0 q1 q2 q3
   rw [g1] at q0
   rw [g2] at q3
   have b1 := bt_at want k (by simp; omega)
   have b2 := bt_at sizes k (by simp; omega)
   simp only [Int.toNat_natCast] at b1 b2
   generalize bt want k = x at *
   generalize bt sizes k = y at *
   have hxx : (x != x) = false := by simp
   have hyy : (y - 48 != y - 48) = false := by simp
   have HQ := Lib.hid (And.intro q0 (And.intro q3 (And.intro b1 b2)))
   have HB2 := Lib.hid hb2
   clear q0 q1 q2 q3 b1 b2 hW g1 g2 hb2
   go_wp2
   refine Go.Det.region_all (fun W => W = W2) (by kernel_rfl) (by kernel_rfl) hW2 ?_
   clear hW2
   repeat
    apply Go.Det.seqW_cons
    focus
     intro W hS
     obtain rfl : W = W2 := hS
     obtain ⟨q0, q3, b1, b2⟩ := HQ.out
     go_wp2
     exact Go.Det.AtEnd.mk rfl
   refine Go.Det.seqW_nil ?_
   intro W hS
   obtain rfl : W = W2 := hS
   simp only [Exit.then]
   go_wp2
   go_roundw
   case rel => exact ⟨k + 1, by omega, by go_num, HB2.out⟩
   case measure => simp [intOf]; omega
  ·obtain rfl : k = n := by omega
   have hlt1 : ¬ (k : Int) < (k : Int) := by omega
   go_wp2
   go_ret
   exact ⟨rfl, HB1.out.trans (hW.mono HB1.out.size)⟩
set_option maxRecDepth 100000 in
set_option maxHeartbeats 4000000 in
theorem wrong_calls (s : ByteArray) (a : Int) (w : World) (hs : s.size ≤ 8192) (h : wrongB s a = true) :
  Calls Try.prog 90 #[.string s, .int .i64 a] w fun e w' => e = .returned (.bool true) ∧ Below w.heap.size w w' := by
 unfold wrongB at h
 obtain ⟨⟨t, a', e⟩, ht⟩ : ∃ r, parseP s = r := ⟨_, rfl⟩
 rw [ht] at h
 simp only [Bool.and_eq_true, beq_iff_eq] at h
 obtain ⟨⟨hl, rfl⟩, rfl⟩ := h
 have HP := Lib.hid (fun W => parse_R s W (by omega) ht)
 have HL := Lib.hid hl
 clear ht hl
 go_enter Try.func90, Try.ntmps90
 go_wp2_with fail
 refine (HP.out _).mono ?_
 rintro e w1 ⟨v, rfl, hR, hb1⟩
 obtain ⟨A, c, rfl, hc, hC⟩ := Kd.R_reads hR
 rw [HL.out]
 have HB1 := Lib.hid hb1
 have haa : (a' == a') = true := by simp
 clear hR hC hb1
 go_wp2
 go_ret
 exact ⟨rfl, HB1.out⟩
theorem aw1 : kindsB ⟨#[123, 112, 32, 97, 123, 101, 32, 98, 125, 125]⟩ ⟨#[112, 46, 101, 46]⟩ ⟨#[52, 49, 50, 49]⟩ = true := by decide +kernel
theorem aw2 : kindsB ⟨#[123, 108, 123, 105, 32, 97, 123, 108, 123, 105, 32, 98, 125, 125, 125, 125]⟩ ⟨#[108, 105, 46, 108, 105, 46]⟩ ⟨#[54, 53, 49, 51, 50, 49]⟩ = true := by decide +kernel
theorem aw3 : kindsB ⟨#[123, 107, 125, 32, 123, 112, 125]⟩ ⟨#[107, 112]⟩ ⟨#[49, 49]⟩ = true := by decide +kernel
theorem aw4 : wrongB ⟨#[120]⟩ 0 = true := by decide +kernel
theorem aw5 : wrongB ⟨#[123, 112]⟩ 2 = true := by decide +kernel
theorem aw6 : wrongB ⟨#[125]⟩ 0 = true := by decide +kernel
theorem aw7 : wrongB ⟨#[123, 108, 125]⟩ 2 = true := by decide +kernel
theorem aw8 : wrongB ⟨#[123, 116, 123, 114, 123, 99, 32, 97, 125, 123, 99, 32, 98, 125, 125, 123, 114, 123, 99, 32, 99, 125, 125, 125]⟩ 22 = true := by decide +kernel
theorem aw9 : wrongB ⟨#[123, 112, 123, 101, 123, 115, 123, 101, 32, 97, 125, 125, 125, 125]⟩ 6 = true := by decide +kernel
set_option maxRecDepth 100000 in
set_option maxHeartbeats 4000000 in
theorem awake04_calls (w : World) : Calls Try.prog 52 #[] w fun e w' => e = .returned (.bool true) ∧ Below w.heap.size w w' := by
 have HB := Lib.hid (Below.refl w.heap.size w)
 go_enter Try.func52, Try.ntmps52
 go_wp2_with fail
 refine (kinds_calls _ _ _ _ (by decide) (by decide) aw1).mono ?_
 rintro e w1 ⟨rfl, hb⟩
 replace HB := Lib.hid (HB.out.trans (hb.mono HB.out.size))
 clear hb
 go_wp2_with fail
 refine (kinds_calls _ _ _ _ (by decide) (by decide) aw2).mono ?_
 rintro e w2 ⟨rfl, hb⟩
 replace HB := Lib.hid (HB.out.trans (hb.mono HB.out.size))
 clear hb
 go_wp2_with fail
 refine (kinds_calls _ _ _ _ (by decide) (by decide) aw3).mono ?_
 rintro e w3 ⟨rfl, hb⟩
 replace HB := Lib.hid (HB.out.trans (hb.mono HB.out.size))
 clear hb
 go_wp2_with fail
 refine (wrong_calls _ _ _ (by decide) aw4).mono ?_
 rintro e w4 ⟨rfl, hb⟩
 replace HB := Lib.hid (HB.out.trans (hb.mono HB.out.size))
 clear hb
 go_wp2_with fail
 refine (wrong_calls _ _ _ (by decide) aw5).mono ?_
 rintro e w5 ⟨rfl, hb⟩
 replace HB := Lib.hid (HB.out.trans (hb.mono HB.out.size))
 clear hb
 go_wp2_with fail
 refine (wrong_calls _ _ _ (by decide) aw6).mono ?_
 rintro e w6 ⟨rfl, hb⟩
 replace HB := Lib.hid (HB.out.trans (hb.mono HB.out.size))
 clear hb
 go_wp2_with fail
 refine (wrong_calls _ _ _ (by decide) aw7).mono ?_
 rintro e w7 ⟨rfl, hb⟩
 replace HB := Lib.hid (HB.out.trans (hb.mono HB.out.size))
 clear hb
 go_wp2_with fail
 refine (wrong_calls _ _ _ (by decide) aw8).mono ?_
 rintro e w8 ⟨rfl, hb⟩
 replace HB := Lib.hid (HB.out.trans (hb.mono HB.out.size))
 clear hb
 go_wp2_with fail
 refine (wrong_calls _ _ _ (by decide) aw9).mono ?_
 rintro e w9 ⟨rfl, hb⟩
 replace HB := Lib.hid (HB.out.trans (hb.mono HB.out.size))
 clear hb
 go_wp2
 go_ret
 exact ⟨rfl, HB.out⟩
end Go.Proofs.Ythcmfjpheanphaa.Pr
namespace Go.Proofs.Ythcmfjpheanphaa.Pr
open Go.RowKit Go.Proofs.YthcmfjpheanphaaW.PrintWords
def styluslaw04_awake.f (k : Nat) : Option Bool := some true
theorem styluslaw04_awake.mono : ∀ k, LeO (styluslaw04_awake.f k) (styluslaw04_awake.f (k + 1)) := fun _ => LeO.refl _
theorem styluslaw04_awake.calls (k : Nat) (r : Bool) (w : World) (h : styluslaw04_awake.f k = some r) : Calls Try.prog 52 #[] w fun e w' => e = .returned (.bool r) ∧ Below w.heap.size w w' := by
 obtain rfl := Option.some.inj h
 exact awake04_calls w
end Go.Proofs.Ythcmfjpheanphaa.Pr
namespace Go.Proofs.Ythcmfjpheanphaa.Pr
open Go.RowKit Go.Proofs.YthcmfjpheanphaaW.PrintWords Go.Proofs.YthcmfjpheanphaaW.PrintLast Go.Proofs.YthcmfjpheanphaaW.PrintMore
attribute [local go_sem] max2_int min2_int max_two min_two max_three min_three max_four min_four
def styluslaw04_TreeParses.j0 : Nat → ByteArray → Bool → Option (Bool)
 | 0, _, _ => none
 | k + 1, x0, x16 => if x16 = true then ((styluslaw04_awake.f k).bind fun t183 => (some t183)) else ((tree_Parse.f x0).bind fun bt184 => ((stylusref04_Parse.f k x0).bind fun bt189 => ((stylusref04_Like.f k bt184.1 bt189.1).bind fun t194 => (if t194 = true then (if bt184.2.1 = bt189.2.1 then (if bt184.2.2 = bt189.2.2 then ((styluslaw04_awake.f k).bind fun t195 => (some t195)) else (some false)) else (some false)) else (some false)))))
def styluslaw04_TreeParses.f (k : Nat) (a0 : ByteArray) : Option (Bool) := if (a0.size : Int) > 700 then (styluslaw04_TreeParses.j0 k a0 (decide ((a0.size : Int) ≤ 8192))) else (styluslaw04_TreeParses.j0 k a0 false)
theorem styluslaw04_TreeParses.mono_l : ∀ k, (∀ y0 y1, LeO (styluslaw04_TreeParses.j0 k y0 y1) (styluslaw04_TreeParses.j0 (k + 1) y0 y1))
 | 0 => fun _ _ r h => by simp [styluslaw04_TreeParses.j0] at h
 | k + 1 => by
  have ih0 := styluslaw04_TreeParses.mono_l k
  ·intro y0 y1
   unfold styluslaw04_TreeParses.j0
   repeat' first
   | (with_reducible exact ih0 _ _)
   | (with_reducible exact styluslaw04_awake.mono _)
   | (with_reducible exact stylusref04_Like.mono _ _ _)
   | (with_reducible exact stylusref04_Parse.mono _ _)
   | (with_reducible exact LeO.refl _)
   | (with_reducible exact LeO.none _)
   | (with_reducible refine LeO.ite ?_ ?_)
   | (with_reducible refine LeO.bind ?_ (fun _ => ?_))
   | exact ih0 _ _
   | exact styluslaw04_awake.mono _
   | exact stylusref04_Like.mono _ _ _
   | exact stylusref04_Parse.mono _ _
   | exact LeO.none _
   | refine LeO.ite ?_ ?_
   | refine LeO.bind ?_ (fun _ => ?_)
theorem styluslaw04_TreeParses.mono : ∀ a0 k, LeO (styluslaw04_TreeParses.f k a0) (styluslaw04_TreeParses.f (k + 1) a0) := by
 intro a0 k
 have ih0 := styluslaw04_TreeParses.mono_l k
 unfold styluslaw04_TreeParses.f
 repeat' first
   | (with_reducible exact ih0 _ _)
   | (with_reducible exact styluslaw04_awake.mono _)
   | (with_reducible exact stylusref04_Like.mono _ _ _)
   | (with_reducible exact stylusref04_Parse.mono _ _)
   | (with_reducible exact LeO.refl _)
   | (with_reducible exact LeO.none _)
   | (with_reducible refine LeO.ite ?_ ?_)
   | (with_reducible refine LeO.bind ?_ (fun _ => ?_))
   | exact ih0 _ _
   | exact styluslaw04_awake.mono _
   | exact stylusref04_Like.mono _ _ _
   | exact stylusref04_Parse.mono _ _
   | exact LeO.none _
   | refine LeO.ite ?_ ?_
   | refine LeO.bind ?_ (fun _ => ?_)
set_option maxHeartbeats 8000000 in
set_option maxRecDepth 100000 in
theorem styluslaw04_TreeParses.calls (k : Nat) (a0 : ByteArray) (r : Bool) (w : World) (h : styluslaw04_TreeParses.f k a0 = some r) :
  Calls Try.prog 11 #[.string a0] w fun e w' => e = .returned (.bool r) ∧ Below w.heap.size w w' := by
 have HB := Aside0.mk (Below.refl w.heap.size w)
 have H : (if (a0.size : Int) > 700 then (styluslaw04_TreeParses.j0 k a0 (decide ((a0.size : Int) ≤ 8192))) else (styluslaw04_TreeParses.j0 k a0 false)) = some r := h
 clear h
 have HC2 := Aside0.mk H
 clear H
 go_enter Try.func11, Try.ntmps11
 go_upto_region 1 with (fail)
 go_cut [16] (fun v16 wc => ∃ (kq : Nat) (x16_1 : Bool), v16 = .bool x16_1 ∧ Aside0 (styluslaw04_TreeParses.j0 kq a0 x16_1 = some r) ∧ Aside0 (kq ≤ k) ∧ Aside0 (Below w.heap.size w wc))
 case first =>
  have H := HC2.out
  clear HC2
  by_cases c3 : (a0.size : Int) > 700
  ·rw [if_pos c3] at H
   have c3b0 : decide (700 < (a0.size : Int)) = true := decide_eq_true c3
   have c3b1 : decide (700 < a0.size) = true := decide_eq_true (by omega)
   clear c3
   (first | rw [c3b0] | (simp only [i64_w, i32_w]; rw [c3b0]) | skip)
   have H' := Aside0.mk H
   clear H
   go_wp2
   go_meet
   case rel => exact ⟨_, (decide ((a0.size : Int) ≤ 8192)), (by first | rfl | (simp; done) | (simp [*]; done)), H', ⟨by first | omega | exact Nat.le_refl _⟩, ⟨by repeat (first | (with_reducible first | exact HB.out | apply below_alloc | apply pw_below_drewN | apply below_drew1) | exact HB.out)⟩⟩
  ·rw [if_neg c3] at H
   have c3b0 : decide (700 < (a0.size : Int)) = false := decide_eq_false c3
   have c3b1 : decide (700 < a0.size) = false := decide_eq_false (by omega)
   clear c3
   (first | rw [c3b0] | (simp only [i64_w, i32_w]; rw [c3b0]) | skip)
   have H' := Aside0.mk H
   clear H
   go_wp2
   go_meet
   case rel => exact ⟨_, (false), (by first | rfl | (simp; done) | (simp [*]; done)), H', ⟨by first | omega | exact Nat.le_refl _⟩, ⟨by repeat (first | (with_reducible first | exact HB.out | apply below_alloc | apply pw_below_drewN | apply below_drew1) | exact HB.out)⟩⟩
 case rest =>
  clear HC2
  try clear c1
  try clear p2
  try clear c3
  try clear c3b0
  try clear c3b1
  obtain ⟨kq, x16_1, rfl, HA, HJ1, HB⟩ := hcut
  cases kq with
  | zero => exact absurd HA.out (by simp [styluslaw04_TreeParses.j0])
  | succ kj1 =>
   have H := HA.out
   clear HA
   simp only [styluslaw04_TreeParses.j0] at H
   by_cases c4 : x16_1 = true
   ·subst c4
    have H1 : ((styluslaw04_awake.f kj1).bind fun t183 => (some t183)) = some r := by rw [if_pos rfl] at H; exact H
    clear H
    have H := H1
    clear H1
    replace H := Option.bind_eq_some_iff.mp H
    obtain ⟨t183, A50, H⟩ := H
    replace H : (some t183) = some r := H
    have A5 := Aside0.mk A50
    clear A50
    obtain rfl := Option.some.inj H
    go_wp2_with (first | ((with_reducible refine gate_callee (f := 52) rfl ?_); refine goesL_ (some 17) rfl rfl Try.func52 (by kernel_rfl) rfl #[] rfl (by (try simp only [List.map_toArray, List.map_cons, List.map_nil]); first | done | rfl | (simp only [List.length_drop, List.length_take]; rfl)) ?_; (with_reducible refine (styluslaw04_awake.calls kj1  t183 _ A5.out).mono ?_); rintro e w6 ⟨rfl, hb⟩; refine ⟨_, rfl, ?_⟩; have n0_ := Aside0.mk (below_step (by repeat (first | (with_reducible first | exact HB.out | apply below_alloc | apply pw_below_drewN | apply below_drew1) | exact HB.out)) hb); clear HB; have HB := n0_; clear n0_; (try clear hb); (try clear hb2); (try clear hk); (try clear hi)))
    go_ret
    exact ⟨by first | rfl | (simp [errW_none, errW_some] <;> rfl) | (simp [*, errW_none, errW_some] <;> rfl), by repeat (first | (with_reducible first | exact HB.out | apply below_alloc | apply pw_below_drewN | apply below_drew1) | exact HB.out)⟩
   ·replace c4 := Bool.eq_false_iff.mpr c4
    subst c4
    have H1 : ((tree_Parse.f a0).bind fun bt184 => ((stylusref04_Parse.f kj1 a0).bind fun bt189 => ((stylusref04_Like.f kj1 bt184.1 bt189.1).bind fun t194 => (if t194 = true then (if bt184.2.1 = bt189.2.1 then (if bt184.2.2 = bt189.2.2 then ((styluslaw04_awake.f kj1).bind fun t195 => (some t195)) else (some false)) else (some false)) else (some false))))) = some r := by rw [if_neg (show ¬ (false = true) by decide)] at H; exact H
    clear H
    have H := H1
    clear H1
    replace H := Option.bind_eq_some_iff.mp H
    obtain ⟨⟨t184, t185, t186⟩, A70, H⟩ := H
    replace H : ((stylusref04_Parse.f kj1 a0).bind fun bt189 => ((stylusref04_Like.f kj1 t184 bt189.1).bind fun t194 => (if t194 = true then (if t185 = bt189.2.1 then (if t186 = bt189.2.2 then ((styluslaw04_awake.f kj1).bind fun t195 => (some t195)) else (some false)) else (some false)) else (some false)))) = some r := H
    have A7 := Aside0.mk A70
    clear A70
    replace H := Option.bind_eq_some_iff.mp H
    obtain ⟨⟨t189, t190, t191⟩, A80, H⟩ := H
    replace H : ((stylusref04_Like.f kj1 t184 t189).bind fun t194 => (if t194 = true then (if t185 = t190 then (if t186 = t191 then ((styluslaw04_awake.f kj1).bind fun t195 => (some t195)) else (some false)) else (some false)) else (some false))) = some r := H
    have A8 := Aside0.mk A80
    clear A80
    replace H := Option.bind_eq_some_iff.mp H
    obtain ⟨t194, A90, H⟩ := H
    replace H : (if t194 = true then (if t185 = t190 then (if t186 = t191 then ((styluslaw04_awake.f kj1).bind fun t195 => (some t195)) else (some false)) else (some false)) else (some false)) = some r := H
    have A9 := Aside0.mk A90
    clear A90
    by_cases c10 : t194 = true
    ·subst c10
     have H1 : (if t185 = t190 then (if t186 = t191 then ((styluslaw04_awake.f kj1).bind fun t195 => (some t195)) else (some false)) else (some false)) = some r := by rw [if_pos rfl] at H; exact H
     clear H
     have H := H1
     clear H1
     by_cases c11 : t185 = t190
     ·rw [if_pos c11] at H
      have c11b0 : (t185 == t190) = true := beq_iff_eq.mpr c11
      have c11b1 : (t185 != t190) = false := bne_eq_false_iff_eq.mpr c11
      clear c11
      by_cases c12 : t186 = t191
      ·rw [if_pos c12] at H
       have c12b0 : (t186 == t191) = true := beq_iff_eq.mpr c12
       have c12b1 : (t186 != t191) = false := bne_eq_false_iff_eq.mpr c12
       clear c12
       replace H := Option.bind_eq_some_iff.mp H
       obtain ⟨t195, A130, H⟩ := H
       replace H : (some t195) = some r := H
       have A13 := Aside0.mk A130
       clear A130
       obtain rfl := Option.some.inj H
       go_wp2_with (first | ((with_reducible refine gate_callee (f := 53) rfl ?_); refine goesL_ (some 20) rfl rfl Try.func53 (by kernel_rfl) rfl #[.string a0] rfl (by (try simp only [List.map_toArray, List.map_cons, List.map_nil]); first | done | rfl | (simp only [List.length_drop, List.length_take]; rfl)) ?_; (with_reducible refine (tree_Parse.calls a0 t184 t185 t186 _ A7.out).mono ?_); rintro e w14 ⟨v187, rfl, ho0, hb⟩; refine ⟨_, rfl, ?_⟩; have n0_ := Aside0.mk (Kd.R_lower ho0 (below_size (by repeat (first | (with_reducible first | exact HB.out | apply below_alloc | apply pw_below_drewN | apply below_drew1) | exact HB.out)))); have n1_ := Aside0.mk (below_step (by repeat (first | (with_reducible first | exact HB.out | apply below_alloc | apply pw_below_drewN | apply below_drew1) | exact HB.out)) hb); clear HB; have HO188 := n0_; have HB := n1_; clear n0_ n1_; (try clear hb); (try clear hb2); (try clear hk); (try clear hi); (try clear ho0)) | ((with_reducible refine gate_callee (f := 54) rfl ?_); refine goesL_ (some 26) rfl rfl Try.func54 (by kernel_rfl) rfl #[.string a0] rfl (by (try simp only [List.map_toArray, List.map_cons, List.map_nil]); first | done | rfl | (simp only [List.length_drop, List.length_take]; rfl)) ?_; (with_reducible refine (stylusref04_Parse.calls kj1 a0 t189 t190 t191 _ A8.out).mono ?_); rintro e w15 ⟨v192, rfl, ho0, hb⟩; refine ⟨_, rfl, ?_⟩; have n0_ := Aside0.mk (Kd.R_elder' (by (with_reducible repeat (first | apply Kd.R_alloc | apply Kd.R_drewN | apply Kd.R_drew)); exact HO188.out) (Kd.R_base ho0) hb); have n1_ := Aside0.mk (Kd.R_lower (Kd.R_new' ho0 (Kd.R_lt (by (with_reducible repeat (first | apply Kd.R_alloc | apply Kd.R_drewN | apply Kd.R_drew)); exact HO188.out))) (below_size (by repeat (first | (with_reducible first | exact HB.out | apply below_alloc | apply pw_below_drewN | apply below_drew1) | exact HB.out)))); have n2_ := Aside0.mk (below_step (by repeat (first | (with_reducible first | exact HB.out | apply below_alloc | apply pw_below_drewN | apply below_drew1) | exact HB.out)) hb); clear HO188; clear HB; have HO188 := n0_; have HO193 := n1_; have HB := n2_; clear n0_ n1_ n2_; (try clear hb); (try clear hb2); (try clear hk); (try clear hi); (try clear ho0); obtain ⟨Ao16, co16, eo16⟩ := Kd.R_slice HO188.out; subst eo16; obtain ⟨Ao17, co17, eo17⟩ := Kd.R_slice HO193.out; subst eo17) | ((with_reducible refine gate_callee (f := 55) rfl ?_); refine goesL_ (some 32) rfl rfl Try.func55 (by kernel_rfl) rfl #[.slice Ao16 t184.length co16, .slice Ao17 t189.length co17] rfl (by (try simp only [List.map_toArray, List.map_cons, List.map_nil]); first | done | rfl | (simp only [List.length_drop, List.length_take]; rfl)) ?_; (with_reducible refine (stylusref04_Like.calls kj1 _ _ t184 _ _ t189 true _ ?side1 ?side2 ?side3 ?side4 A9.out).mono ?_); (case side1 => repeat (first | exact (Kd.R_reads' HO188.out).2.2 | (with_reducible refine Kd.C_alloc ?_ _) | (with_reducible refine Kd.C_drewN ?_ _) | (with_reducible refine Kd.C_drew ?_))); (case side2 => exact (Kd.R_reads' HO188.out).2.1); (case side3 => repeat (first | exact (Kd.R_reads' HO193.out).2.2 | (with_reducible refine Kd.C_alloc ?_ _) | (with_reducible refine Kd.C_drewN ?_ _) | (with_reducible refine Kd.C_drew ?_))); (case side4 => exact (Kd.R_reads' HO193.out).2.1); rintro e w' ⟨rfl, ⟨nd, rfl⟩⟩; refine ⟨_, rfl, ?_⟩) | (go_at_call 52; (with_reducible refine (styluslaw04_awake.calls kj1  t195 _ A13.out).mono ?_); rintro e w18 ⟨rfl, hb⟩; have n0_ := Aside0.mk (Kd.R_below (by (with_reducible repeat (first | apply Kd.R_alloc | apply Kd.R_drewN | apply Kd.R_drew)); exact HO188.out) hb); have n1_ := Aside0.mk (Kd.R_below (by (with_reducible repeat (first | apply Kd.R_alloc | apply Kd.R_drewN | apply Kd.R_drew)); exact HO193.out) hb); have n2_ := Aside0.mk (below_step (by repeat (first | (with_reducible first | exact HB.out | apply below_alloc | apply pw_below_drewN | apply below_drew1) | exact HB.out)) hb); clear HO188; clear HO193; clear HB; have HO188 := n0_; have HO193 := n1_; have HB := n2_; clear n0_ n1_ n2_; (try clear hb); (try clear hb2); (try clear hk); (try clear hi)))
       go_ret
       exact ⟨by first | rfl | (simp [errW_none, errW_some] <;> rfl) | (simp [*, errW_none, errW_some] <;> rfl), by repeat (first | (with_reducible first | exact HB.out | apply below_alloc | apply pw_below_drewN | apply below_drew1) | exact HB.out)⟩
      ·rw [if_neg c12] at H
       have c12b0 : (t186 == t191) = false := beq_eq_false_iff_ne.mpr c12
       have c12b1 : (t186 != t191) = true := bne_iff_ne.mpr c12
       obtain rfl := Option.some.inj H
       go_wp2_with (first | ((with_reducible refine gate_callee (f := 53) rfl ?_); refine goesL_ (some 20) rfl rfl Try.func53 (by kernel_rfl) rfl #[.string a0] rfl (by (try simp only [List.map_toArray, List.map_cons, List.map_nil]); first | done | rfl | (simp only [List.length_drop, List.length_take]; rfl)) ?_; (with_reducible refine (tree_Parse.calls a0 t184 t185 t186 _ A7.out).mono ?_); rintro e w19 ⟨v187, rfl, ho0, hb⟩; refine ⟨_, rfl, ?_⟩; have n0_ := Aside0.mk (Kd.R_lower ho0 (below_size (by repeat (first | (with_reducible first | exact HB.out | apply below_alloc | apply pw_below_drewN | apply below_drew1) | exact HB.out)))); have n1_ := Aside0.mk (below_step (by repeat (first | (with_reducible first | exact HB.out | apply below_alloc | apply pw_below_drewN | apply below_drew1) | exact HB.out)) hb); clear HB; have HO188 := n0_; have HB := n1_; clear n0_ n1_; (try clear hb); (try clear hb2); (try clear hk); (try clear hi); (try clear ho0)) | ((with_reducible refine gate_callee (f := 54) rfl ?_); refine goesL_ (some 26) rfl rfl Try.func54 (by kernel_rfl) rfl #[.string a0] rfl (by (try simp only [List.map_toArray, List.map_cons, List.map_nil]); first | done | rfl | (simp only [List.length_drop, List.length_take]; rfl)) ?_; (with_reducible refine (stylusref04_Parse.calls kj1 a0 t189 t190 t191 _ A8.out).mono ?_); rintro e w20 ⟨v192, rfl, ho0, hb⟩; refine ⟨_, rfl, ?_⟩; have n0_ := Aside0.mk (Kd.R_elder' (by (with_reducible repeat (first | apply Kd.R_alloc | apply Kd.R_drewN | apply Kd.R_drew)); exact HO188.out) (Kd.R_base ho0) hb); have n1_ := Aside0.mk (Kd.R_lower (Kd.R_new' ho0 (Kd.R_lt (by (with_reducible repeat (first | apply Kd.R_alloc | apply Kd.R_drewN | apply Kd.R_drew)); exact HO188.out))) (below_size (by repeat (first | (with_reducible first | exact HB.out | apply below_alloc | apply pw_below_drewN | apply below_drew1) | exact HB.out)))); have n2_ := Aside0.mk (below_step (by repeat (first | (with_reducible first | exact HB.out | apply below_alloc | apply pw_below_drewN | apply below_drew1) | exact HB.out)) hb); clear HO188; clear HB; have HO188 := n0_; have HO193 := n1_; have HB := n2_; clear n0_ n1_ n2_; (try clear hb); (try clear hb2); (try clear hk); (try clear hi); (try clear ho0); obtain ⟨Ao21, co21, eo21⟩ := Kd.R_slice HO188.out; subst eo21; obtain ⟨Ao22, co22, eo22⟩ := Kd.R_slice HO193.out; subst eo22) | ((with_reducible refine gate_callee (f := 55) rfl ?_); refine goesL_ (some 32) rfl rfl Try.func55 (by kernel_rfl) rfl #[.slice Ao21 t184.length co21, .slice Ao22 t189.length co22] rfl (by (try simp only [List.map_toArray, List.map_cons, List.map_nil]); first | done | rfl | (simp only [List.length_drop, List.length_take]; rfl)) ?_; (with_reducible refine (stylusref04_Like.calls kj1 _ _ t184 _ _ t189 true _ ?side1 ?side2 ?side3 ?side4 A9.out).mono ?_); (case side1 => repeat (first | exact (Kd.R_reads' HO188.out).2.2 | (with_reducible refine Kd.C_alloc ?_ _) | (with_reducible refine Kd.C_drewN ?_ _) | (with_reducible refine Kd.C_drew ?_))); (case side2 => exact (Kd.R_reads' HO188.out).2.1); (case side3 => repeat (first | exact (Kd.R_reads' HO193.out).2.2 | (with_reducible refine Kd.C_alloc ?_ _) | (with_reducible refine Kd.C_drewN ?_ _) | (with_reducible refine Kd.C_drew ?_))); (case side4 => exact (Kd.R_reads' HO193.out).2.1); rintro e w' ⟨rfl, ⟨nd, rfl⟩⟩; refine ⟨_, rfl, ?_⟩))
       go_ret
       exact ⟨by first | rfl | (simp [errW_none, errW_some] <;> rfl) | (simp [*, errW_none, errW_some] <;> rfl), by repeat (first | (with_reducible first | exact HB.out | apply below_alloc | apply pw_below_drewN | apply below_drew1) | exact HB.out)⟩
     ·rw [if_neg c11] at H
      have c11b0 : (t185 == t190) = false := beq_eq_false_iff_ne.mpr c11
      have c11b1 : (t185 != t190) = true := bne_iff_ne.mpr c11
      obtain rfl := Option.some.inj H
      go_wp2_with (first | ((with_reducible refine gate_callee (f := 53) rfl ?_); refine goesL_ (some 20) rfl rfl Try.func53 (by kernel_rfl) rfl #[.string a0] rfl (by (try simp only [List.map_toArray, List.map_cons, List.map_nil]); first | done | rfl | (simp only [List.length_drop, List.length_take]; rfl)) ?_; (with_reducible refine (tree_Parse.calls a0 t184 t185 t186 _ A7.out).mono ?_); rintro e w23 ⟨v187, rfl, ho0, hb⟩; refine ⟨_, rfl, ?_⟩; have n0_ := Aside0.mk (Kd.R_lower ho0 (below_size (by repeat (first | (with_reducible first | exact HB.out | apply below_alloc | apply pw_below_drewN | apply below_drew1) | exact HB.out)))); have n1_ := Aside0.mk (below_step (by repeat (first | (with_reducible first | exact HB.out | apply below_alloc | apply pw_below_drewN | apply below_drew1) | exact HB.out)) hb); clear HB; have HO188 := n0_; have HB := n1_; clear n0_ n1_; (try clear hb); (try clear hb2); (try clear hk); (try clear hi); (try clear ho0)) | ((with_reducible refine gate_callee (f := 54) rfl ?_); refine goesL_ (some 26) rfl rfl Try.func54 (by kernel_rfl) rfl #[.string a0] rfl (by (try simp only [List.map_toArray, List.map_cons, List.map_nil]); first | done | rfl | (simp only [List.length_drop, List.length_take]; rfl)) ?_; (with_reducible refine (stylusref04_Parse.calls kj1 a0 t189 t190 t191 _ A8.out).mono ?_); rintro e w24 ⟨v192, rfl, ho0, hb⟩; refine ⟨_, rfl, ?_⟩; have n0_ := Aside0.mk (Kd.R_elder' (by (with_reducible repeat (first | apply Kd.R_alloc | apply Kd.R_drewN | apply Kd.R_drew)); exact HO188.out) (Kd.R_base ho0) hb); have n1_ := Aside0.mk (Kd.R_lower (Kd.R_new' ho0 (Kd.R_lt (by (with_reducible repeat (first | apply Kd.R_alloc | apply Kd.R_drewN | apply Kd.R_drew)); exact HO188.out))) (below_size (by repeat (first | (with_reducible first | exact HB.out | apply below_alloc | apply pw_below_drewN | apply below_drew1) | exact HB.out)))); have n2_ := Aside0.mk (below_step (by repeat (first | (with_reducible first | exact HB.out | apply below_alloc | apply pw_below_drewN | apply below_drew1) | exact HB.out)) hb); clear HO188; clear HB; have HO188 := n0_; have HO193 := n1_; have HB := n2_; clear n0_ n1_ n2_; (try clear hb); (try clear hb2); (try clear hk); (try clear hi); (try clear ho0); obtain ⟨Ao25, co25, eo25⟩ := Kd.R_slice HO188.out; subst eo25; obtain ⟨Ao26, co26, eo26⟩ := Kd.R_slice HO193.out; subst eo26) | ((with_reducible refine gate_callee (f := 55) rfl ?_); refine goesL_ (some 32) rfl rfl Try.func55 (by kernel_rfl) rfl #[.slice Ao25 t184.length co25, .slice Ao26 t189.length co26] rfl (by (try simp only [List.map_toArray, List.map_cons, List.map_nil]); first | done | rfl | (simp only [List.length_drop, List.length_take]; rfl)) ?_; (with_reducible refine (stylusref04_Like.calls kj1 _ _ t184 _ _ t189 true _ ?side1 ?side2 ?side3 ?side4 A9.out).mono ?_); (case side1 => repeat (first | exact (Kd.R_reads' HO188.out).2.2 | (with_reducible refine Kd.C_alloc ?_ _) | (with_reducible refine Kd.C_drewN ?_ _) | (with_reducible refine Kd.C_drew ?_))); (case side2 => exact (Kd.R_reads' HO188.out).2.1); (case side3 => repeat (first | exact (Kd.R_reads' HO193.out).2.2 | (with_reducible refine Kd.C_alloc ?_ _) | (with_reducible refine Kd.C_drewN ?_ _) | (with_reducible refine Kd.C_drew ?_))); (case side4 => exact (Kd.R_reads' HO193.out).2.1); rintro e w' ⟨rfl, ⟨nd, rfl⟩⟩; refine ⟨_, rfl, ?_⟩))
      go_ret
      exact ⟨by first | rfl | (simp [errW_none, errW_some] <;> rfl) | (simp [*, errW_none, errW_some] <;> rfl), by repeat (first | (with_reducible first | exact HB.out | apply below_alloc | apply pw_below_drewN | apply below_drew1) | exact HB.out)⟩
    ·replace c10 := Bool.eq_false_iff.mpr c10
     subst c10
     have H1 : (some false) = some r := by rw [if_neg (show ¬ (false = true) by decide)] at H; exact H
     clear H
     have H := H1
     clear H1
     obtain rfl := Option.some.inj H
     go_wp2_with (first | ((with_reducible refine gate_callee (f := 53) rfl ?_); refine goesL_ (some 20) rfl rfl Try.func53 (by kernel_rfl) rfl #[.string a0] rfl (by (try simp only [List.map_toArray, List.map_cons, List.map_nil]); first | done | rfl | (simp only [List.length_drop, List.length_take]; rfl)) ?_; (with_reducible refine (tree_Parse.calls a0 t184 t185 t186 _ A7.out).mono ?_); rintro e w27 ⟨v187, rfl, ho0, hb⟩; refine ⟨_, rfl, ?_⟩; have n0_ := Aside0.mk (Kd.R_lower ho0 (below_size (by repeat (first | (with_reducible first | exact HB.out | apply below_alloc | apply pw_below_drewN | apply below_drew1) | exact HB.out)))); have n1_ := Aside0.mk (below_step (by repeat (first | (with_reducible first | exact HB.out | apply below_alloc | apply pw_below_drewN | apply below_drew1) | exact HB.out)) hb); clear HB; have HO188 := n0_; have HB := n1_; clear n0_ n1_; (try clear hb); (try clear hb2); (try clear hk); (try clear hi); (try clear ho0)) | ((with_reducible refine gate_callee (f := 54) rfl ?_); refine goesL_ (some 26) rfl rfl Try.func54 (by kernel_rfl) rfl #[.string a0] rfl (by (try simp only [List.map_toArray, List.map_cons, List.map_nil]); first | done | rfl | (simp only [List.length_drop, List.length_take]; rfl)) ?_; (with_reducible refine (stylusref04_Parse.calls kj1 a0 t189 t190 t191 _ A8.out).mono ?_); rintro e w28 ⟨v192, rfl, ho0, hb⟩; refine ⟨_, rfl, ?_⟩; have n0_ := Aside0.mk (Kd.R_elder' (by (with_reducible repeat (first | apply Kd.R_alloc | apply Kd.R_drewN | apply Kd.R_drew)); exact HO188.out) (Kd.R_base ho0) hb); have n1_ := Aside0.mk (Kd.R_lower (Kd.R_new' ho0 (Kd.R_lt (by (with_reducible repeat (first | apply Kd.R_alloc | apply Kd.R_drewN | apply Kd.R_drew)); exact HO188.out))) (below_size (by repeat (first | (with_reducible first | exact HB.out | apply below_alloc | apply pw_below_drewN | apply below_drew1) | exact HB.out)))); have n2_ := Aside0.mk (below_step (by repeat (first | (with_reducible first | exact HB.out | apply below_alloc | apply pw_below_drewN | apply below_drew1) | exact HB.out)) hb); clear HO188; clear HB; have HO188 := n0_; have HO193 := n1_; have HB := n2_; clear n0_ n1_ n2_; (try clear hb); (try clear hb2); (try clear hk); (try clear hi); (try clear ho0); obtain ⟨Ao29, co29, eo29⟩ := Kd.R_slice HO188.out; subst eo29; obtain ⟨Ao30, co30, eo30⟩ := Kd.R_slice HO193.out; subst eo30) | ((with_reducible refine gate_callee (f := 55) rfl ?_); refine goesL_ (some 32) rfl rfl Try.func55 (by kernel_rfl) rfl #[.slice Ao29 t184.length co29, .slice Ao30 t189.length co30] rfl (by (try simp only [List.map_toArray, List.map_cons, List.map_nil]); first | done | rfl | (simp only [List.length_drop, List.length_take]; rfl)) ?_; (with_reducible refine (stylusref04_Like.calls kj1 _ _ t184 _ _ t189 false _ ?side1 ?side2 ?side3 ?side4 A9.out).mono ?_); (case side1 => repeat (first | exact (Kd.R_reads' HO188.out).2.2 | (with_reducible refine Kd.C_alloc ?_ _) | (with_reducible refine Kd.C_drewN ?_ _) | (with_reducible refine Kd.C_drew ?_))); (case side2 => exact (Kd.R_reads' HO188.out).2.1); (case side3 => repeat (first | exact (Kd.R_reads' HO193.out).2.2 | (with_reducible refine Kd.C_alloc ?_ _) | (with_reducible refine Kd.C_drewN ?_ _) | (with_reducible refine Kd.C_drew ?_))); (case side4 => exact (Kd.R_reads' HO193.out).2.1); rintro e w' ⟨rfl, ⟨nd, rfl⟩⟩; refine ⟨_, rfl, ?_⟩))
     go_ret
     exact ⟨by first | rfl | (simp [errW_none, errW_some] <;> rfl) | (simp [*, errW_none, errW_some] <;> rfl), by repeat (first | (with_reducible first | exact HB.out | apply below_alloc | apply pw_below_drewN | apply below_drew1) | exact HB.out)⟩
def styluslaw04_TreeParses.Pure : Prop := ∀ (a0 : ByteArray), a0.size ≤ 140737488351232 → ∃ k, styluslaw04_TreeParses.f k a0 = some true
theorem styluslaw04_TreeParses.walk (P : styluslaw04_TreeParses.Pure) (a0 : ByteArray) (w : World) (w0 : a0.size ≤ 140737488351232) :
  Calls Try.prog 11 #[.string a0] w fun e w' => e = .returned (.bool true) ∧ Below w.heap.size w w' := by
 obtain ⟨k, h⟩ := P a0 w0
 refine (styluslaw04_TreeParses.calls k a0 true w h).mono ?_
 rintro e w' ⟨rfl, hd⟩
 exact ⟨rfl, hd⟩
end Go.Proofs.Ythcmfjpheanphaa.Pr
namespace Go.Proofs.Ythcmfjpheanphaa.Pr
open Go.RowKit Go.Proofs.Ythcmfjpheanphaa.Pure Go.Proofs.YthcmfjpheanphaaW.PrintWords
def kindL : List Int := [49, 50, 51, 112, 108, 105, 116, 114, 99, 107, 110, 101, 115]
def tenM : Nat := 1000000
structure OpR (n T : Nat) (o : Opn) (x : S159) : Prop where
 kind : x.f0 = o.kind
 mem : o.kind ∈ kindL
 pos : x.f2 = o.pos
 pin : 0 ≤ o.pos ∧ o.pos < (T : Int)
 kids : o.kids = (x.f1.size : Int)
 kle : x.f1.size ≤ n
 note : x.f3 = o.note
 nle : 0 ≤ o.note ∧ o.note ≤ (n : Int)
 past : o.past = inB 108 x.f1
 cols : x.f4 = o.cols
 cle : 0 ≤ o.cols
 text : o.text = (x.f5.size : Int)
 tle : x.f5.size ≤ n * tenM
theorem OpR.up {n m T U : Nat} {o : Opn} {x : S159} (h : OpR n T o x) (hn : n ≤ m) (ht : T ≤ U) : OpR m U o x :=
 ⟨h.kind, h.mem, h.pos, ⟨h.pin.1, by have := h.pin.2; omega⟩, h.kids, Nat.le_trans h.kle hn, h.note, ⟨h.nle.1, by have := h.nle.2; omega⟩, h.past, h.cols, h.cle, h.text, Nat.le_trans h.tle (Nat.mul_le_mul_right _ hn)⟩
structure Rel (n : Nat) (s : Bld) (u : RSt) : Prop where
 t : u.t = s.t
 len : u.r.length = s.row.length + 1
 root : (u.r.getD 0 z159).f0 = 0
 op : ∀ i, i < s.row.length → OpR n s.t.length (s.row.getD i zOpn) (u.r.getD (i + 1) z159)
 chain : RChain s.row
theorem getD_mod {α : Type} (l : List α) (f : α → α) (z : α) : ∀ (j i : Nat), (l.modify j f).getD i z = if i = j ∧ i < l.length then f (l.getD i z) else l.getD i z := by
 intro j i
 simp only [List.getD_eq_getElem?_getD, List.getElem?_modify]
 by_cases h : i < l.length
 ·rw [List.getElem?_eq_getElem h]
  by_cases e : i = j
  ·subst e; simp [h]
  ·rw [if_neg (by omega)]; simp [Ne.symm e]
 ·rw [List.getElem?_eq_none (by omega), if_neg (by omega)]; split <;> rfl
theorem getD_snoc {α : Type} (l : List α) (x z : α) (i : Nat) : (l ++ [x]).getD i z = if i < l.length then l.getD i z else if i = l.length then x else z := by
 simp only [List.getD_eq_getElem?_getD]
 by_cases h : i < l.length
 ·rw [if_pos h, List.getElem?_append_left h]
 ·rw [if_neg h, List.getElem?_append_right (by omega)]
  by_cases e : i = l.length
  ·subst e; simp
  ·rw [if_neg e, List.getElem?_eq_none (by simp; omega)]; rfl
theorem getD_init {α : Type} (l : List α) (z : α) (i : Nat) (h : i + 1 < l.length) : l.dropLast.getD i z = l.getD i z := by
 simp only [List.getD_eq_getElem?_getD, List.getElem?_dropLast]
 rw [if_pos (by omega)]
theorem topP_at (r : List Opn) (h : r ≠ []) : topP r = r.getD (r.length - 1) zOpn := by
 unfold topP
 rw [List.getLast?_eq_getElem?, List.getD_eq_getElem?_getD]
theorem rd_at (r : List S159) (i : Nat) : rd_T159 r (i : Int) = r.getD i z159 := by
 unfold rd_T159
 rw [Int.toNat_natCast]
theorem Rel.top {n : Nat} {s : Bld} {u : RSt} (h : Rel n s u) (hr : s.row ≠ []) : OpR n s.t.length (topP s.row) (topR u.r) := by
 have hl : 0 < s.row.length := List.length_pos_iff.mpr hr
 unfold topR
 rw [topP_at _ hr, rd_at, h.len, Nat.add_sub_cancel]
 have := h.op (s.row.length - 1) (by omega)
 rwa [show s.row.length - 1 + 1 = s.row.length from by omega] at this
theorem Rel.top0 {n : Nat} {s : Bld} {u : RSt} (h : Rel n s u) (hr : s.row = []) : (topR u.r).f0 = 0 := by
 unfold topR
 rw [rd_at, h.len, hr]
 exact h.root
theorem Rel.mod {n m : Nat} {s : Bld} {u : RSt} (h : Rel n s u) (hm : n ≤ m) (j : Nat) (f : Opn → Opn) (g : S159 → S159) (hf : ∀ o, (f o).kind = o.kind)
  (hs : ∀ o x, o = s.row.getD j zOpn → OpR n s.t.length o x → OpR m s.t.length (f o) (g x)) : Rel m ⟨s.row.modify j f, s.t⟩ ⟨u.t, u.r.modify (j + 1) g⟩ := by
 refine ⟨h.t, by simp [h.len], ?_, fun i hi => ?_, chain_congr (kinds_modify s.row f hf j) h.chain⟩
 ·show ((u.r.modify (j + 1) g).getD 0 z159).f0 = 0
  rw [getD_mod, if_neg (by omega)]
  exact h.root
 ·have hi' : i < s.row.length := by simpa using hi
  show OpR m s.t.length ((s.row.modify j f).getD i zOpn) ((u.r.modify (j + 1) g).getD (i + 1) z159)
  rw [getD_mod, getD_mod, h.len]
  have hop := h.op i hi'
  by_cases e : i = j
  ·rw [if_pos ⟨e, hi'⟩, if_pos ⟨by omega, by omega⟩]
   exact hs _ _ (by rw [e]) hop
  ·rw [if_neg (by omega), if_neg (by omega)]
   exact hop.up hm (Nat.le_refl _)
theorem Rel.up {n m : Nat} {s : Bld} {u : RSt} (h : Rel n s u) (hm : n ≤ m) : Rel m s u :=
 ⟨h.t, h.len, h.root, fun i hi => (h.op i hi).up hm (Nat.le_refl _), h.chain⟩
theorem Rel.node {n : Nat} {s : Bld} {u : RSt} (h : Rel n s u) (x : S56) : Rel n ⟨s.row, s.t ++ [x]⟩ ⟨u.t ++ [x], u.r⟩ :=
 ⟨by show _ ++ _ = _ ++ _; rw [h.t], h.len, h.root, fun i hi => (h.op i hi).up (Nat.le_refl _) (by show _ ≤ (s.t ++ [x]).length; simp), h.chain⟩
theorem Rel.push {n : Nat} {s : Bld} {u : RSt} (h : Rel n s u) {o : Opn} {x : S159} (ho : OpR n s.t.length o x) (hc : RChain (s.row ++ [o])) : Rel n ⟨s.row ++ [o], s.t⟩ ⟨u.t, u.r ++ [x]⟩ := by
 refine ⟨h.t, by simp [h.len], ?_, fun i hi => ?_, hc⟩
 ·show ((u.r ++ [x]).getD 0 z159).f0 = 0
  rw [getD_snoc, if_pos (by have := h.len; omega)]
  exact h.root
 ·have hi' : i < s.row.length + 1 := by have := hi; simpa using this
  clear hi
  show OpR n s.t.length ((s.row ++ [o]).getD i zOpn) ((u.r ++ [x]).getD (i + 1) z159)
  rw [getD_snoc, getD_snoc, h.len]
  by_cases e : i < s.row.length
  ·rw [if_pos e, if_pos (by omega)]
   exact h.op i e
  ·rw [if_neg e, if_pos (by omega), if_neg (by omega), if_pos (by omega)]
   exact ho
theorem Rel.drop {n : Nat} {s : Bld} {u : RSt} (h : Rel n s u) (hr : s.row ≠ []) : Rel n ⟨s.row.dropLast, s.t⟩ ⟨u.t, u.r.dropLast⟩ := by
 have hl : 0 < s.row.length := List.length_pos_iff.mpr hr
 refine ⟨h.t, by simp only [List.length_dropLast, h.len]; omega, ?_, fun i hi => ?_, chain_drop h.chain⟩
 ·show (u.r.dropLast.getD 0 z159).f0 = 0
  rw [getD_init _ _ _ (by have := h.len; omega)]
  exact h.root
 ·have hi' : i < s.row.length - 1 := by simpa using hi
  show OpR n s.t.length (s.row.dropLast.getD i zOpn) (u.r.dropLast.getD (i + 1) z159)
  rw [getD_init _ _ _ (by omega), getD_init _ _ _ (by have := h.len; omega)]
  exact h.op i (by omega)
theorem Rel.size {n : Nat} {s : Bld} {u : RSt} (h : Rel n s u) (j : Nat) (f : S56 → S56) : Rel n ⟨s.row, s.t.modify j f⟩ ⟨u.t.modify j f, u.r⟩ :=
 ⟨by show _ = _; rw [h.t], h.len, h.root, fun i hi => by show OpR n (s.t.modify j f).length _ _; rw [List.length_modify]; exact h.op i hi, h.chain⟩
theorem inFrom_any (b : Int) (s : ByteArray) : ∀ d i, inFrom b s d i = ((List.range' i d).any fun j => decide (j < s.size) && decide (bt s (j : Int) = b) )
 | 0, i => rfl
 | d + 1, i => by
  simp only [inFrom, List.range'_succ, List.any_cons]
  rw [← inFrom_any b s d (i + 1)]
  by_cases h : i < s.size
  ·by_cases hb : bt s (i : Int) = b
   ·simp [h, hb]
   ·simp [h, hb]
  ·simp only [h, if_false, decide_false, Bool.false_and, Bool.false_or]
   cases d with
   | zero => rfl
   | succ d => simp only [inFrom]; rw [if_neg (by omega)]
theorem inB_list (s : ByteArray) (l : List Int) (e : (List.range' 0 s.size).map (fun j : Nat => bt s (j : Int)) = l) (c : Int) : inB c s = l.contains c := by
 unfold inB
 rw [inFrom_any]
 have : ∀ j ∈ List.range' 0 s.size, j < s.size := fun j hj => by simp at hj; omega
 rw [← e, Bool.eq_iff_iff, List.any_eq_true, List.contains_iff_mem, List.mem_map]
 constructor
 ·rintro ⟨j, h1, h2⟩
  simp at h2
  exact ⟨j, h1, h2.2⟩
 ·rintro ⟨j, h1, h2⟩
  exact ⟨j, h1, by simp [h2, this j h1]⟩
theorem inB_flows (c : Int) : inB c flowsB = flowK.contains c := inB_list flowsB flowK (by decide +kernel) c
theorem inB_n (c : Int) : inB c nB = [(110 : Int)].contains c := inB_list nB _ (by decide +kernel) c
theorem Rel.last {n : Nat} {s : Bld} {u : RSt} (h : Rel n s u) (ks : ByteArray) (kl : List Int) (hk : ∀ c, inB c ks = kl.contains c) : ∀ m, m ≤ s.row.length →
  lastR ks u.r m = (match aroundP kl s.row m with | some j => ((j + 1 : Nat) : Int) | none => -1)
 | 0, _ => rfl
 | m + 1, hm => by
  simp only [lastR, aroundP]
  rw [rd_at, (h.op m (by omega)).kind, hk]
  by_cases hc : kl.contains (s.row.getD m zOpn).kind = true
  ·rw [if_pos hc, if_pos hc]
  ·rw [if_neg hc, if_neg hc]
   exact h.last ks kl hk m (by omega)
theorem Rel.lastP {n : Nat} {s : Bld} {u : RSt} (h : Rel n s u) (ks : ByteArray) (kl : List Int) (hk : ∀ c, inB c ks = kl.contains c) :
  Pr.lastP ks u.r = (match aroundP kl s.row s.row.length with | some j => ((j + 1 : Nat) : Int) | none => -1) := by
 unfold Pr.lastP
 rw [h.len, Nat.add_sub_cancel]
 exact h.last ks kl hk _ (Nat.le_refl _)
theorem around_lt (kl : List Int) (r : List Opn) : ∀ n j, aroundP kl r n = some j → j < n ∧ kl.contains (r.getD j zOpn).kind = true
 | 0, j, h => by simp [aroundP] at h
 | n + 1, j, h => by
  simp only [aroundP] at h
  by_cases hc : kl.contains (r.getD n zOpn).kind = true
  ·rw [if_pos hc] at h
   obtain rfl := Option.some.inj h
   exact ⟨by omega, hc⟩
  ·rw [if_neg hc] at h
   have := around_lt kl r n j h
   exact ⟨by omega, this.2⟩
theorem Rel.manyR {n : Nat} {s : Bld} {u : RSt} (h : Rel n s u) (b : Int) : ∀ d i, d + i = s.row.length → Pr.manyR b u.r d (i + 1) = ((s.row.drop i).filter (·.kind == b)).length
 | 0, i, e => by
  rw [List.drop_eq_nil_of_le (by omega)]
  rfl
 | d + 1, i, e => by
  have hi : i < s.row.length := by omega
  have hg : s.row[i] = s.row.getD i zOpn := by rw [List.getD_eq_getElem?_getD, List.getElem?_eq_getElem hi]; rfl
  simp only [Pr.manyR]
  rw [h.manyR b d (i + 1) (by omega), rd_at, (h.op i hi).kind, List.drop_eq_getElem_cons hi, List.filter_cons, hg]
  by_cases hc : (s.row.getD i zOpn).kind = b
  ·rw [if_pos hc, if_pos (by simpa using hc), List.length_cons]
   omega
  ·rw [if_neg hc, if_neg (by simpa using hc)]
   omega
theorem Rel.many {n : Nat} {s : Bld} {u : RSt} (h : Rel n s u) (b : Int) : manyP b u.r = hasP b s.row := by
 unfold manyP hasP
 rw [h.len, Nat.add_sub_cancel]
 exact h.manyR b s.row.length 0 (by omega)
theorem may46_fin : ∀ c ∈ kindL, ∀ p : Bool, (if inB c flowB = true then true else if c = 105 then !p else false) = (if (!okP c 46 || (c == 105 && p && (46 : Int) != 108)) = true then false else true) := by decide +kernel
theorem may46 (r : List Opn) : mayP r 46 = (if (!okP (topP r).kind 46 || ((topP r).kind == 105 && (topP r).past && (46 : Int) != 108)) = true then false else true) := by
 unfold mayP
 rfl
theorem Rel.texts {n : Nat} {s : Bld} {u : RSt} (h : Rel n s u) : textsR u.r = mayP s.row 46 := by
 unfold textsR
 rw [may46]
 by_cases hr : s.row = []
 ·rw [h.top0 hr, hr]
  generalize inB 108 _ = b
  revert b
  decide
 ·have ho := h.top hr
  rw [ho.kind, ← ho.past]
  exact may46_fin _ ho.mem _
theorem open0_fin : ∀ c ∈ kindL, inB c topB = mayP [] c := by decide +kernel
theorem mayE_fin : ∀ c ∈ kindL, ∀ p : Bool, ∀ k ∈ [(101 : Int), 115, 110], (!okP c k || (c == 105 && p && k != 108)) = !(if inB c flowB = true then true else if c = 105 then !p else false) := by decide +kernel
theorem okO_fin : ∀ c ∈ kindL, ∀ k ∈ [(49 : Int), 50, 51, 112, 108, 105, 116, 114, 99, 107], ∀ p : Bool, (!okP c k || (c == 105 && p && k != 108)) = !(decide ((c = 105 ∧ k = 108) ∨ (c = 108 ∧ k = 105) ∨ (c = 116 ∧ k = 114) ∨ (c = 114 ∧ k = 99))) := by decide +kernel
theorem okP_kind {a b : Int} (h : okP a b = true) (hb : b ≠ 46) : b ∈ kindL := by
 unfold okP at h
 simp only [Bool.or_eq_true, Bool.and_eq_true, beq_iff_eq, List.contains_iff_mem, List.mem_cons, List.not_mem_nil, or_false] at h
 simp only [kindL, List.mem_cons, List.not_mem_nil, or_false]
 omega
theorem inB_top (c : Int) : inB c topB = [(49 : Int), 50, 51, 112, 108, 116, 107].contains c := inB_list topB _ (by decide +kernel) c
theorem inB_esn (c : Int) : inB c esnB = [(101 : Int), 115, 110].contains c := inB_list esnB _ (by decide +kernel) c
theorem inB_ltr (c : Int) : inB c ltrB = [(108 : Int), 116, 114].contains c := inB_list ltrB _ (by decide +kernel) c
theorem Rel.one {n : Nat} {s : Bld} {u : RSt} (h : Rel n s u) : u.r.length = 1 ↔ s.row = [] := by
 rw [h.len, ← List.length_eq_zero_iff]
 omega
theorem may_root (c : Int) (hc : c ≠ 46) : mayP [] c = inB c topB := by
 rw [inB_top]
 unfold mayP
 have e : topP [] = zOpn := rfl
 rw [e]
 by_cases h : c ∈ kindL
 ·have := open0_fin c h
  rw [inB_top] at this
  rw [this]; unfold mayP; rw [e]
 ·have h1 : okP zOpn.kind c = false := by
   cases hk : okP zOpn.kind c with
   | false => rfl
   | true => exact absurd (okP_kind hk hc) h
  rw [h1]
  have : [(49 : Int), 50, 51, 112, 108, 116, 107].contains c = false := by
   rw [← Bool.not_eq_true, List.contains_iff_mem]
   intro hm
   apply h
   simp only [kindL, List.mem_cons, List.not_mem_nil, or_false] at hm ⊢
   omega
  rw [this]
  rfl
theorem Rel.opens {n : Nat} {s : Bld} {u : RSt} (h : Rel n s u) (c : Int) (hc : c ≠ 46) : opensR u.r c = mayP s.row c := by
 unfold opensR
 by_cases hr : s.row = []
 ·rw [if_pos (h.one.mpr hr), hr, may_root c hc]
 ·rw [if_neg (fun e => hr (h.one.mp e))]
  have ho := h.top hr
  rw [ho.kind]
  unfold opens0
  rw [h.texts, may46, inB_esn, h.many, ho.kind]
  have hkids : (topP s.row).kids = ((topR u.r).f1.size : Int) := ho.kids
  have hk := ho.mem
  by_cases he : c ∈ [(101 : Int), 115, 110]
  ·have h1 := mayE_fin _ hk (topP s.row).past c he
   have h2 := may46_fin _ hk (topP s.row).past
   have hco : [(101 : Int), 115, 110].contains c = true := by rw [List.contains_iff_mem]; exact he
   rw [hco, if_pos rfl]
   have hpair : ¬ (((topP s.row).kind = 105 ∧ c = 108) ∨ ((topP s.row).kind = 108 ∧ c = 105) ∨ ((topP s.row).kind = 116 ∧ c = 114)) := by
    simp only [List.mem_cons, List.not_mem_nil, or_false] at he
    omega
   rw [if_neg hpair]
   unfold mayP
   rw [h1, ← h2]
   have h3 : c = 99 → False := by
    simp only [List.mem_cons, List.not_mem_nil, or_false] at he
    omega
   by_cases ht : (topP s.row).kind = 114
   ·rw [if_pos ht, if_neg h3, ht]
    rfl
   ·rw [if_neg ht]
    by_cases hx : (if inB (topP s.row).kind flowB = true then true else if (topP s.row).kind = 105 then !(topP s.row).past else false) = true
    ·rw [hx]
     simp only [Bool.not_true, Bool.false_eq_true, if_false, if_true]
     unfold opens1
     rw [h.lastP flowsB flowK inB_flows, h.many]
     by_cases e1 : c = 101 ∨ c = 115
     ·have : (c == 101 || c == 115) = true := by simpa using e1
      rw [if_pos this, if_neg (show ¬ c = 110 by omega)]
      by_cases h0 : 0 < hasP c s.row
      ·rw [if_pos h0]; simp; omega
      ·rw [if_neg h0]; simp; omega
     ·have : ¬ (c == 101 || c == 115) = true := by simpa using e1
      have e2 : c = 110 := by simp only [List.mem_cons, List.not_mem_nil, or_false] at he; omega
      subst e2
      rw [if_neg this, if_pos rfl, show ((110 : Int) == 99) = false from rfl, show ((110 : Int) == 110) = true from rfl, if_neg (show ¬ (false = true) by decide), if_pos (rfl : true = true)]
      by_cases h0 : 0 < hasP 110 s.row
      ·rw [if_pos h0]
       have : (hasP 110 s.row == 0) = false := by simp; omega
       rw [this]; rfl
      ·rw [if_neg h0]
       have : (hasP 110 s.row == 0) = true := by simp; omega
       rw [this, Bool.true_and]
       by_cases h9 : hasP 99 s.row = 0
       ·rw [if_pos h9, h9]
        cases ha : aroundP flowK s.row s.row.length with
        | none => rfl
        | some j =>
         have hj := (around_lt _ _ _ _ ha).1
         show (if (0 : Int) < ((j + 1 : Nat) : Int) then ((rd_T159 u.r ((j + 1 : Nat) : Int)).f3 == 0) else false) = ((0 == 0) && ((s.row.getD j zOpn).note == 0))
         rw [if_pos (by omega), rd_at, (h.op j hj).note]
         rfl
       ·rw [if_neg h9]
        have : (hasP 99 s.row == 0) = false := by simpa using h9
        rw [this]; rfl
    ·have hx' := Bool.eq_false_iff.mpr hx
     rw [hx']
     simp
  ·have hco : [(101 : Int), 115, 110].contains c = false := by rw [← Bool.not_eq_true, List.contains_iff_mem]; exact he
   rw [hco]
   unfold mayP
   by_cases hm : c ∈ kindL
   ·have hm' : c ∈ [(49 : Int), 50, 51, 112, 108, 105, 116, 114, 99, 107] := by
     simp only [kindL, List.mem_cons, List.not_mem_nil, or_false] at hm he ⊢
     omega
    rw [okO_fin _ hk c hm' (topP s.row).past]
    have n1 : (c == 101 || c == 115) = false := by simp only [List.mem_cons, List.not_mem_nil, or_false] at he; simp; omega
    have n2 : (c == 110) = false := by simp only [List.mem_cons, List.not_mem_nil, or_false] at he; simp; omega
    rw [n1, n2]
    by_cases hp : ((topP s.row).kind = 105 ∧ c = 108) ∨ ((topP s.row).kind = 108 ∧ c = 105) ∨ ((topP s.row).kind = 116 ∧ c = 114)
    ·rw [if_pos hp]
     have : decide (((topP s.row).kind = 105 ∧ c = 108) ∨ ((topP s.row).kind = 108 ∧ c = 105) ∨ ((topP s.row).kind = 116 ∧ c = 114) ∨ ((topP s.row).kind = 114 ∧ c = 99)) = true := decide_eq_true (by omega)
     rw [this]
     have n3 : (c == 99) = false := by simp; omega
     rw [n3]
     rfl
    ·rw [if_neg hp]
     by_cases hq : (topP s.row).kind = 114 ∧ c = 99
     ·have : decide (((topP s.row).kind = 105 ∧ c = 108) ∨ ((topP s.row).kind = 108 ∧ c = 105) ∨ ((topP s.row).kind = 116 ∧ c = 114) ∨ ((topP s.row).kind = 114 ∧ c = 99)) = true := decide_eq_true (by omega)
      rw [this, if_pos hq.1, if_pos hq.2, hq.2, hkids]
      simp
      omega
     ·have : decide (((topP s.row).kind = 105 ∧ c = 108) ∨ ((topP s.row).kind = 108 ∧ c = 105) ∨ ((topP s.row).kind = 116 ∧ c = 114) ∨ ((topP s.row).kind = 114 ∧ c = 99)) = false := decide_eq_false (by omega)
      rw [this]
      simp only [Bool.not_false, if_true, Bool.false_eq_true, if_false]
      by_cases h1 : (topP s.row).kind = 114
      ·rw [if_pos h1, if_neg (fun e => hq ⟨h1, e⟩)]
      ·rw [if_neg h1]
       split <;> rfl
   ·have h1 : okP (topP s.row).kind c = false := by
     cases hq : okP (topP s.row).kind c with
     | false => rfl
     | true => exact absurd (okP_kind hq hc) hm
    have hp : ¬ (((topP s.row).kind = 105 ∧ c = 108) ∨ ((topP s.row).kind = 108 ∧ c = 105) ∨ ((topP s.row).kind = 116 ∧ c = 114)) := by
     simp only [kindL, List.mem_cons, List.not_mem_nil, or_false] at hm
     omega
    have h9 : c ≠ 99 := by
     simp only [kindL, List.mem_cons, List.not_mem_nil, or_false] at hm
     omega
    rw [h1, if_neg hp, if_neg h9]
    simp
theorem inB_iff (c : Int) (s : ByteArray) : inB c s = true ↔ ∃ j, j < s.size ∧ bt s (j : Int) = c := by
 unfold inB
 rw [inFrom_any, List.any_eq_true]
 constructor
 ·rintro ⟨j, h1, h2⟩
  simp at h2
  exact ⟨j, h2⟩
 ·rintro ⟨j, h1, h2⟩
  exact ⟨j, by simp; omega, by simp [h1, h2]⟩
theorem inB_app (c : Int) (a b : ByteArray) : inB c (a ++ b) = (inB c a || inB c b) := by
 rw [Bool.eq_iff_iff, Bool.or_eq_true, inB_iff, inB_iff, inB_iff, ByteArray.size_append]
 constructor
 ·rintro ⟨j, h1, h2⟩
  by_cases hj : j < a.size
  ·exact .inl ⟨j, hj, by rw [← bt_app_left a b j hj]; exact h2⟩
  ·refine .inr ⟨j - a.size, by omega, ?_⟩
   rw [← bt_app_right a b (j - a.size) (by omega), ← h2]
   congr 2
   omega
 ·rintro (⟨j, h1, h2⟩ | ⟨j, h1, h2⟩)
  ·exact ⟨j, by omega, by rw [bt_app_left a b j h1]; exact h2⟩
  ·exact ⟨a.size + j, by omega, by rw [bt_app_right a b j h1]; exact h2⟩
theorem inB_byte (c k : Int) (h0 : 0 ≤ k) (h1 : k ≤ 255) : inB c (byteB k) = decide (k = c) := by
 have hb : bt (byteB k) ((0 : Nat) : Int) = k := by
  obtain ⟨n, rfl⟩ : ∃ n : Nat, k = n := ⟨k.toNat, by omega⟩
  show (((Int.toNat (n : Int)).toUInt8.toNat : Nat) : Int) = (n : Int)
  rw [Int.toNat_natCast]
  have : (n.toUInt8).toNat = n % 256 := by simp
  rw [this, Nat.mod_eq_of_lt (by omega)]
 rw [Bool.eq_iff_iff, inB_iff, decide_eq_true_eq]
 constructor
 ·rintro ⟨j, h1, h2⟩
  obtain rfl : j = 0 := by
   have : j < 1 := h1
   omega
  rw [← hb]; exact h2
 ·rintro rfl
  exact ⟨0, by show 0 < 1; omega, hb⟩
theorem inB_dot : inB 108 dotB = false := by decide +kernel
theorem Rel.rootmod {n : Nat} {s : Bld} {u : RSt} (h : Rel n s u) (g : S159 → S159) (hg : ∀ x, (g x).f0 = x.f0) : Rel n s ⟨u.t, u.r.modify 0 g⟩ := by
 refine ⟨h.t, by show (u.r.modify 0 g).length = _; rw [List.length_modify]; exact h.len, ?_, fun i hi => ?_, h.chain⟩
 ·show ((u.r.modify 0 g).getD 0 z159).f0 = 0
  rw [getD_mod]
  split
  ·rw [hg]; exact h.root
  ·exact h.root
 ·show OpR n s.t.length (s.row.getD i zOpn) ((u.r.modify 0 g).getD (i + 1) z159)
  rw [getD_mod, if_neg (by omega)]
  exact h.op i hi
theorem OpR.kid {n T : Nat} {o : Opn} {x : S159} (h : OpR n T o x) (hn : n ≤ 8000000) (b : ByteArray) (hb : b.size = 1) (p : Bool) (hp : p = (o.past || inB 108 b)) : OpR (n + 1) T (kidF { o with past := p }) (kidR b x) := by
 have hk := h.kle
 refine ⟨h.kind, h.mem, h.pos, h.pin, ?_, ?_, h.note, ⟨h.nle.1, by have := h.nle.2; show o.note ≤ _; omega⟩, ?_, h.cols, h.cle, h.text, Nat.le_trans h.tle (Nat.mul_le_mul_right _ (by omega))⟩
 ·show wrap64 (o.kids + 1) = ((x.f1 ++ b).size : Int)
  rw [h.kids, ByteArray.size_append, hb, IntWalk.wrap64_in _ ⟨by omega, by omega⟩]
  omega
 ·show (x.f1 ++ b).size ≤ n + 1
  rw [ByteArray.size_append, hb]
  omega
 ·show p = inB 108 (x.f1 ++ b)
  rw [hp, inB_app, h.past]
theorem OpR.note1 {n T : Nat} {o : Opn} {x : S159} (h : OpR n T o x) (hn : n ≤ 8000000) : OpR (n + 1) T (noteF o) (noteR x) := by
 have h1 := h.nle
 refine ⟨h.kind, h.mem, h.pos, h.pin, h.kids, by have := h.kle; show x.f1.size ≤ n + 1; omega, ?_, ?_, h.past, h.cols, h.cle, h.text, Nat.le_trans h.tle (Nat.mul_le_mul_right _ (by omega))⟩
 ·show x.f3 + 1 = wrap64 (o.note + 1)
  rw [h.note, IntWalk.wrap64_in _ ⟨by omega, by omega⟩]
 ·show 0 ≤ wrap64 (o.note + 1) ∧ wrap64 (o.note + 1) ≤ ((n + 1 : Nat) : Int)
  rw [IntWalk.wrap64_in _ ⟨by omega, by omega⟩]
  omega
theorem OpR.txt {n T : Nat} {o : Opn} {x : S159} (h : OpR n T o x) (hn : n ≤ 8000000) (b : ByteArray) (hb : b.size ≤ 1000000) : OpR (n + 1) T (textF b.size o) (textR b x) := by
 have ht := h.tle
 unfold tenM at ht
 refine ⟨h.kind, h.mem, h.pos, h.pin, h.kids, by have := h.kle; show x.f1.size ≤ n + 1; omega, h.note, ⟨h.nle.1, by have := h.nle.2; show o.note ≤ _; omega⟩, h.past, h.cols, h.cle, ?_, ?_⟩
 ·show wrap64 (o.text + b.size) = ((x.f5 ++ b).size : Int)
  rw [h.text, ByteArray.size_append, IntWalk.wrap64_in _ ⟨by omega, by omega⟩]
  omega
 ·show (x.f5 ++ b).size ≤ (n + 1) * tenM
  unfold tenM
  rw [ByteArray.size_append]
  omega
theorem OpR.col {n T : Nat} {o : Opn} {x : S159} (h : OpR n T o x) (c : Nat) : OpR n T (colsF c o) (colR c x) :=
 ⟨h.kind, h.mem, h.pos, h.pin, h.kids, h.kle, h.note, h.nle, h.past, rfl, by show (0 : Int) ≤ (c : Int); omega, h.text, h.tle⟩
theorem mod_comm {α : Type} (l : List α) (f g : α → α) (hfg : ∀ a, f (g a) = g (f a)) (i j : Nat) : (l.modify i f).modify j g = (l.modify j g).modify i f := by
 refine List.ext_getElem? fun k => ?_
 simp only [List.getElem?_modify]
 cases l[k]? with
 | none => simp
 | some a =>
  by_cases h1 : i = k <;> by_cases h2 : j = k <;> simp [h1, h2, hfg]
theorem init_mod {α : Type} (l : List α) (g : α → α) (i : Nat) : (l.modify i g).dropLast = l.dropLast.modify i g := by
 refine List.ext_getElem? fun k => ?_
 simp only [List.getElem?_modify, List.getElem?_dropLast, List.length_modify]
 split <;> simp
theorem mod_two {α : Type} (l : List α) (f g : α → α) (i : Nat) : (l.modify i f).modify i g = l.modify i (fun a => g (f a)) := by
 refine List.ext_getElem? fun k => ?_
 simp only [List.getElem?_modify]
 cases l[k]? with
 | none => simp
 | some a => by_cases h1 : i = k <;> simp [h1]
theorem row_ne {r : List Opn} (h : mayP r 46 = true) : r ≠ [] := by
 rintro rfl
 revert h
 decide
theorem aroundP_mod (ks : List Int) (f : Opn → Opn) (hf : ∀ o, (f o).kind = o.kind) (r : List Opn) (j : Nat) : ∀ n, aroundP ks (r.modify j f) n = aroundP ks r n
 | 0 => rfl
 | n + 1 => by
  simp only [aroundP]
  rw [aroundP_mod ks f hf r j n]
  have : ((r.modify j f).getD n zOpn).kind = (r.getD n zOpn).kind := by
   rw [getD_mod]
   split
   ·exact hf _
   ·rfl
  rw [this]
def LexF (x : S47) : Prop := (x.f0 = 1 ∨ x.f0 = 2 ∨ x.f0 = 3) ∧ 0 ≤ x.f1 ∧ x.f1 ≤ 255 ∧ x.f2.size ≤ 1000000 ∧ (x.f0 = 2 → x.f1 ≠ 46)
theorem text_rel {n : Nat} {s : Bld} {u : RSt} (h : Rel n s u) (hn : n ≤ 7000000) (x : S47) (hx : x.f2.size ≤ 1000000) (hm : mayP s.row 46 = true) :
  Rel (n + 2) (textsP s x).1 ⟨u.t ++ [⟨46, x.f2, x.f3, 1⟩], addText x.f2 (u.r.modify (u.r.length - 1) (kidR dotB))⟩ := by
 have hr := row_ne hm
 have hl : 0 < s.row.length := List.length_pos_iff.mpr hr
 have e1 : u.r.length - 1 = (s.row.length - 1) + 1 := by have := h.len; omega
 have hk : Rel (n + 1) ⟨kidP s.row, s.t⟩ ⟨u.t, u.r.modify (u.r.length - 1) (kidR dotB)⟩ := by
  rw [e1]
  exact h.mod (Nat.le_succ n) _ kidF (kidR dotB) (fun _ => rfl) fun o y _ ho => by
   have := ho.kid (by omega) dotB rfl o.past (by rw [inB_dot, Bool.or_false])
   exact this
 have hlast := hk.lastP nB [110] inB_n
 unfold textsP addText
 rw [if_pos hm]
 rw [hlast]
 cases ha : aroundP [110] (kidP s.row) (kidP s.row).length with
 | none =>
  show Rel (n + 2) ⟨kidP s.row, s.t ++ [⟨46, x.f2, x.f3, 1⟩]⟩ ⟨u.t ++ [⟨46, x.f2, x.f3, 1⟩], if (0 : Int) < -1 then _ else _⟩
  rw [if_neg (by omega)]
  exact (hk.up (Nat.le_succ _)).node _
 | some j =>
  show Rel (n + 2) ⟨(kidP s.row).modify j (textF x.f2.size), s.t ++ [⟨46, x.f2, x.f3, 1⟩]⟩ ⟨u.t ++ [⟨46, x.f2, x.f3, 1⟩], if (0 : Int) < ((j + 1 : Nat) : Int) then (u.r.modify (u.r.length - 1) (kidR dotB)).modify (((j + 1 : Nat) : Int)).toNat (textR x.f2) else _⟩
  rw [if_pos (by omega), Int.toNat_natCast]
  exact (hk.mod (Nat.le_succ _) j (textF x.f2.size) (textR x.f2) (fun _ => rfl) fun o y _ ho => ho.txt (by omega) x.f2 hx).node _
theorem open_rel {n : Nat} {s : Bld} {u : RSt} (h : Rel n s u) (hn : n ≤ 7000000) (x : S47) (h0 : 0 ≤ x.f1) (h1 : x.f1 ≤ 255) (h46 : x.f1 ≠ 46) (hm : mayP s.row x.f1 = true) (hc : RChain (opensP s x).1.row) :
  Rel (n + 2) (opensP s x).1 ⟨u.t ++ [⟨x.f1, ⟨#[]⟩, x.f3, 1⟩], addNote x.f1 (u.r.modify (u.r.length - 1) (kidR (byteB x.f1))) ++ [⟨x.f1, ⟨#[]⟩, u.t.length, 0, 0, ⟨#[]⟩⟩]⟩ := by
 have hin := inB_byte 108 x.f1 h0 h1
 have hmem := okP_kind (mayP_ok hm) h46
 have hmark : Rel (n + 2) ⟨kidP (markP s.row x.f1), s.t⟩ ⟨u.t, addNote x.f1 (u.r.modify (u.r.length - 1) (kidR (byteB x.f1)))⟩ := by
  by_cases hr : s.row = []
  ·have h110 : x.f1 ≠ 110 := by
    intro e
    rw [hr, e] at hm
    revert hm
    decide
   unfold addNote
   rw [if_neg h110]
   have e0 : u.r.length - 1 = 0 := by have := h.len; rw [hr] at this; simp at this; omega
   rw [e0]
   have e2 : kidP (markP s.row x.f1) = s.row := by
    rw [hr]
    unfold markP
    rw [if_neg h110]
    split <;> rfl
   rw [e2]
   exact (h.rootmod (kidR (byteB x.f1)) (fun _ => rfl)).up (by omega)
  ·have hl : 0 < s.row.length := List.length_pos_iff.mpr hr
   have e1 : u.r.length - 1 = (s.row.length - 1) + 1 := by have := h.len; omega
   rw [e1]
   unfold kidP
   rw [markP_length]
   unfold markP addNote
   by_cases e110 : x.f1 = 110
   ·rw [if_pos e110, if_pos e110]
    have hkm : Rel (n + 1) ⟨s.row.modify (s.row.length - 1) kidF, s.t⟩ ⟨u.t, u.r.modify (s.row.length - 1 + 1) (kidR (byteB x.f1))⟩ :=
     h.mod (Nat.le_succ n) _ kidF (kidR (byteB x.f1)) (fun _ => rfl) fun o y _ ho => by
      have := ho.kid (by omega) (byteB x.f1) rfl o.past (by rw [hin, e110]; simp)
      exact this
    rw [hkm.lastP flowsB flowK inB_flows, List.length_modify, aroundP_mod flowK kidF (fun _ => rfl)]
    cases ha : aroundP flowK s.row s.row.length with
    | none =>
     exfalso
     rw [e110] at hm
     unfold mayP at hm
     rw [ha] at hm
     revert hm
     split
     ·intro hm; cases hm
     ·simp
    | some j =>
     show Rel (n + 2) ⟨(s.row.modify j noteF).modify (s.row.length - 1) kidF, s.t⟩ ⟨u.t, (u.r.modify (s.row.length - 1 + 1) (kidR (byteB x.f1))).modify (mx ((j + 1 : Nat) : Int) 0).toNat noteR⟩
     have emx : mx ((j + 1 : Nat) : Int) 0 = ((j + 1 : Nat) : Int) := by unfold mx; rw [if_neg (by omega)]
     rw [emx, Int.toNat_natCast, mod_comm s.row noteF kidF (fun _ => rfl)]
     exact hkm.mod (Nat.le_succ _) j noteF noteR (fun _ => rfl) fun o y _ ho => ho.note1 (by omega)
   ·rw [if_neg e110, if_neg e110]
    by_cases e108 : x.f1 = 108
    ·rw [if_pos e108, mod_two]
     exact h.mod (by omega) _ (fun o => kidF (pastF o)) (kidR (byteB x.f1)) (fun _ => rfl) fun o y _ ho => by
      have := ho.kid (by omega) (byteB x.f1) rfl true (by rw [hin, e108]; simp)
      exact this.up (Nat.le_succ _) (Nat.le_refl _)
    ·rw [if_neg e108]
     exact h.mod (by omega) _ kidF (kidR (byteB x.f1)) (fun _ => rfl) fun o y _ ho => by
      have := ho.kid (by omega) (byteB x.f1) rfl o.past (by rw [hin]; simp [e108])
      exact this.up (Nat.le_succ _) (Nat.le_refl _)
 unfold opensP at hc ⊢
 rw [if_pos hm] at hc ⊢
 have hnode := hmark.node ⟨x.f1, ⟨#[]⟩, x.f3, 1⟩
 have ht : u.t.length = s.t.length := by rw [h.t]
 refine hnode.push (o := ⟨x.f1, s.t.length, 0, 0, false, 0, 0⟩) (x := ⟨x.f1, ⟨#[]⟩, u.t.length, 0, 0, ⟨#[]⟩⟩) ⟨rfl, hmem, ?_, ?_, rfl, Nat.zero_le _, rfl, ⟨by show (0 : Int) ≤ 0; omega, by show (0 : Int) ≤ _; omega⟩, by show false = inB 108 ⟨#[]⟩; decide +kernel, rfl, by show (0 : Int) ≤ 0; omega, rfl, Nat.zero_le _⟩ hc
 ·show (u.t.length : Int) = _
  rw [ht]
 ·show (0 : Int) ≤ (s.t.length : Int) ∧ (s.t.length : Int) < ((s.t ++ [_]).length : Int)
  simp
  omega
theorem chain_around {r : List Opn} (hr : RChain r) (hne : r ≠ []) (h1 : (topP r).kind = 114) : 2 ≤ r.length ∧ aroundP [116] r.dropLast r.dropLast.length = some (r.length - 2) ∧ (r.getD (r.length - 2) zOpn).kind = 116 := by
 have hl : 0 < r.length := List.length_pos_iff.mpr hne
 rw [topP_at r hne, List.getD_eq_getElem?_getD, List.getElem?_eq_getElem (show r.length - 1 < r.length by omega)] at h1
 obtain ⟨g1, g2⟩ := hr (r.length - 1) (by rw [List.getElem?_eq_getElem (show r.length - 1 < r.length by omega)]; simpa using h1)
 rw [show r.length - 1 - 1 = r.length - 2 from by omega] at g2
 have g3 : (r.getD (r.length - 2) zOpn).kind = 116 := by
  rw [List.getElem?_eq_getElem (show r.length - 2 < r.length by omega)] at g2
  rw [List.getD_eq_getElem?_getD, List.getElem?_eq_getElem (show r.length - 2 < r.length by omega)]
  simpa using g2
 refine ⟨by omega, ?_, g3⟩
 rw [List.length_dropLast, show r.length - 1 = (r.length - 2) + 1 from by omega]
 simp only [aroundP]
 rw [getD_init _ _ _ (by omega), g3]
 rfl
def shutW (s : Bld) : Bool := if s.row = [] then false else (wholeP s.row.dropLast (topP s.row)).2
theorem shut_says (s : Bld) (x : S47) : (shutsP s x).2 = (x.f3, if shutW s = true then 0 else 2) := by
 unfold shutsP shutW
 by_cases hr : s.row = []
 ·rw [if_pos hr, if_pos hr]; rfl
 ·rw [if_neg hr, if_neg hr]
theorem shut_code {n : Nat} {s : Bld} {u : RSt} (h : Rel n s u) (x : S47) (o : Bool) (h3 : x.f0 = 3) : stepR o u x = if shutW s = true then (0, 0) else (x.f3, 2) := by
 unfold stepR shutW
 rw [if_neg (show ¬ x.f0 = 1 by omega), if_neg (show ¬ x.f0 = 2 by omega), inB_ltr]
 by_cases hr : s.row = []
 ·rw [if_pos hr, if_pos (show u.r.length = 1 ∨ _ from .inl (h.one.mpr hr))]
  rfl
 ·have hl : 0 < s.row.length := List.length_pos_iff.mpr hr
  have ho := h.top hr
  have n1 : ¬ u.r.length = 1 := fun e => hr (h.one.mp e)
  rw [if_neg hr, ho.kind]
  have hkids := ho.kids
  unfold wholeP
  by_cases k1 : (topP s.row).kind = 108 ∨ (topP s.row).kind = 116
  ·have hc : [(108 : Int), 116, 114].contains (topP s.row).kind = true := by
    rw [List.contains_iff_mem]
    simp only [List.mem_cons, List.not_mem_nil, or_false]
    omega
   rw [hc, if_pos k1]
   by_cases hz : (topR u.r).f1.size = 0
   ·rw [if_pos (show u.r.length = 1 ∨ (true = true ∧ _) from .inr ⟨rfl, hz⟩)]
    show _ = if decide (0 < (topP s.row).kids) = true then _ else _
    rw [if_neg (by rw [decide_eq_true_eq, hkids, hz]; omega)]
   ·rw [if_neg (fun (e : u.r.length = 1 ∨ _ ∧ _) => e.elim n1 fun e => hz e.2), if_neg (show ¬ (topP s.row).kind = 114 by omega)]
    show _ = if decide (0 < (topP s.row).kids) = true then _ else _
    rw [if_pos (by rw [decide_eq_true_eq, hkids]; omega)]
  ·rw [if_neg k1]
   by_cases k2 : (topP s.row).kind = 114
   ·have hc : [(108 : Int), 116, 114].contains (topP s.row).kind = true := by
     rw [k2]; rfl
    obtain ⟨g1, g2, g3⟩ := chain_around h.chain hr k2
    have hp := h.op (s.row.length - 2) (by omega)
    have ei : s.row.length - 2 + 1 = u.r.length - 2 := by have := h.len; omega
    rw [hc, if_pos k2, g2, if_pos k2, rd_at]
    rw [ei] at hp
    have hcols := hp.cols
    have hcle := hp.cle
    have eg : s.row.dropLast.getD (s.row.length - 2) zOpn = s.row.getD (s.row.length - 2) zOpn := getD_init _ _ _ (by omega)
    rw [hcols]
    generalize s.row.getD (s.row.length - 2) zOpn = P at *
    by_cases hz : (topR u.r).f1.size = 0
    ·rw [if_pos (show u.r.length = 1 ∨ (true = true ∧ _) from .inr ⟨rfl, hz⟩)]
     simp only [eg]
     have : decide (0 < (topP s.row).kids) = false := by rw [decide_eq_false_iff_not, hkids, hz]; omega
     rw [this]
     split <;> rfl
    ·rw [if_neg (fun (e : u.r.length = 1 ∨ _ ∧ _) => e.elim n1 fun e => hz e.2)]
     have : decide (0 < (topP s.row).kids) = true := by rw [decide_eq_true_eq, hkids]; omega
     simp only [eg, this, Bool.true_and]
     by_cases hc0 : P.cols = 0
     ·rw [if_neg (by omega), if_pos hc0]
      rfl
     ·rw [if_pos (by omega), if_neg hc0]
      by_cases hq : P.cols = ((topR u.r).f1.size : Int)
      ·have : ((topP s.row).kids == P.cols) = true := by rw [beq_iff_eq, hkids, hq]
       rw [if_pos hq]
       simp only [this]
       rfl
      ·have : ((topP s.row).kids == P.cols) = false := by rw [beq_eq_false_iff_ne, hkids]; exact fun e => hq e.symm
       rw [if_neg hq]
       simp only [this]
       rfl
   ·have hc : [(108 : Int), 116, 114].contains (topP s.row).kind = false := by
     rw [← Bool.not_eq_true, List.contains_iff_mem]
     simp only [List.mem_cons, List.not_mem_nil, or_false]
     omega
    rw [hc, if_neg k2, if_neg k2, if_neg (fun (e : u.r.length = 1 ∨ _ ∧ _) => e.elim n1 fun e => by cases e.1)]
    rfl
theorem shut_rel {n : Nat} {s : Bld} {u : RSt} (h : Rel n s u) (x : S47) (hok : (shutsP s x).2.2 = 0) :
  2 ≤ u.r.length ∧ 0 ≤ (topR u.r).f2 ∧ (topR u.r).f2 < u.t.length ∧ Rel n (shutsP s x).1 ⟨u.t.modify (topR u.r).f2.toNat (sizeF (u.t.length - (topR u.r).f2)), (addCols u.r).dropLast⟩ := by
 by_cases hr : s.row = []
 ·unfold shutsP at hok
  rw [if_pos hr] at hok
  cases hok
 ·have hl : 0 < s.row.length := List.length_pos_iff.mpr hr
  have ho := h.top hr
  have hpin := ho.pin
  refine ⟨by have := h.len; omega, by rw [ho.pos]; exact hpin.1, by rw [ho.pos, h.t]; exact hpin.2, ?_⟩
  unfold shutsP
  rw [if_neg hr, ho.pos, h.t]
  have hd := h.drop hr
  have key : Rel n ⟨(wholeP s.row.dropLast (topP s.row)).1, s.t⟩ ⟨u.t, (addCols u.r).dropLast⟩ := by
   unfold wholeP addCols
   rw [ho.kind]
   by_cases k2 : (topP s.row).kind = 114
   ·obtain ⟨g1, g2, g3⟩ := chain_around h.chain hr k2
    have hp := h.op (s.row.length - 2) (by omega)
    have ei : s.row.length - 2 + 1 = u.r.length - 2 := by have := h.len; omega
    rw [ei] at hp
    have eg : s.row.dropLast.getD (s.row.length - 2) zOpn = s.row.getD (s.row.length - 2) zOpn := getD_init _ _ _ (by omega)
    rw [if_neg (by omega), if_pos k2, g2]
    simp only [eg]
    rw [rd_at, hp.cols]
    by_cases hc0 : (s.row.getD (s.row.length - 2) zOpn).cols = 0
    ·rw [if_pos hc0, if_pos ⟨k2, hc0⟩, init_mod, ← ei]
     have hks : (topP s.row).kids = ((topR u.r).f1.size : Int) := ho.kids
     rw [hks]
     exact hd.mod (Nat.le_refl _) (s.row.length - 2) (colsF ((topR u.r).f1.size : Nat)) (colR ((topR u.r).f1.size : Nat)) (fun _ => rfl) fun o y _ hoy => hoy.col _
    ·rw [if_neg hc0, if_neg (fun e => hc0 e.2)]
     exact hd
   ·rw [if_neg (fun (e : _ ∧ _) => k2 e.1)]
    by_cases k1 : (topP s.row).kind = 108 ∨ (topP s.row).kind = 116
    ·rw [if_pos k1]; exact hd
    ·rw [if_neg k1, if_neg k2]; exact hd
  rw [h.t] at key
  exact key.size (topP s.row).pos.toNat _
theorem hasP_kinds (k : Int) {r r' : List Opn} (h : ∀ i : Nat, r'[i]?.map Opn.kind = r[i]?.map Opn.kind) : hasP k r' = hasP k r := by
 have e : r'.map Opn.kind = r.map Opn.kind := List.ext_getElem? fun i => by rw [List.getElem?_map, List.getElem?_map]; exact h i
 have g : ∀ l : List Opn, hasP k l = ((l.map Opn.kind).filter (· == k)).length := fun l => by
  unfold hasP
  rw [List.filter_map, List.length_map]
  rfl
 rw [g, g, e]
theorem hasP_snoc (k : Int) (r : List Opn) (o : Opn) : hasP k (r ++ [o]) = hasP k r + if o.kind = k then 1 else 0 := by
 unfold hasP
 rw [List.filter_append, List.length_append, List.filter_cons]
 by_cases h : o.kind = k
 ·rw [if_pos (by simpa using h), if_pos h]; rfl
 ·rw [if_neg (by simpa using h), if_neg h]; rfl
theorem hasP_init (k : Int) (r : List Opn) : hasP k r.dropLast ≤ hasP k r := by
 by_cases h : r = []
 ·subst h; exact Nat.le_refl _
 ·have := hasP_snoc k r.dropLast (r.getLast h)
  rw [List.dropLast_concat_getLast h] at this
  omega
structure Steps (n : Nat) (s : Bld) (u : RSt) (x : S47) (e : Int × Int) (q : Int × Int) : Prop where
 form : e.2 = 2 ↔ q.2 = 2
 at_ : q.2 = 2 → e = q
 on : e.2 ≠ 2 → ∃ u', rstep u x = some u' ∧ Rel (n + 2) (stepP s x).1 u'
 deep : q.2 = 5 → e.2 = 5
 inE : e.2 = 0 ∨ e.2 = 2 ∨ e.2 = 4 ∨ e.2 = 5
 inQ : q.2 = 0 ∨ q.2 = 2 ∨ q.2 = 4 ∨ q.2 = 5
 same : hasP 108 s.row ≤ 8 → e.2 = q.2 ∧ (q.2 ≠ 0 → e = q)
 few : hasP 108 s.row ≤ 8 → e.2 ≠ 2 → e.2 ≠ 5 → hasP 108 (stepP s x).1.row ≤ 8
theorem texts_code {n : Nat} {s : Bld} {u : RSt} (h : Rel n s u) (hn : n ≤ 7000000) (x : S47) (o : Bool) (h1 : x.f0 = 1) : ((textsP s x).2.2 = (stepR o u x).2 ∧ ((stepR o u x).2 ≠ 0 → (textsP s x).2 = stepR o u x)) ∧ ((stepR o u x).2 = 0 ∨ (stepR o u x).2 = 4 ∨ ((stepR o u x).2 = 2 ∧ mayP s.row 46 = false)) := by
 unfold stepR textsP
 rw [if_pos h1, h.texts, h.t]
 by_cases hm : mayP s.row 46 = true
 ·rw [if_pos hm, if_pos hm, h.lastP nB [110] inB_n]
  have hka : aroundP [110] (kidP s.row) (kidP s.row).length = aroundP [110] s.row s.row.length := by
   unfold kidP
   rw [List.length_modify, aroundP_mod [110] kidF (fun _ => rfl)]
  rw [hka]
  cases ha : aroundP [110] s.row s.row.length with
  | none =>
   simp only
   rw [if_neg (show ¬ (0 : Int) < -1 by decide)]
   by_cases h2 : 2000 ≤ s.t.length
   ·rw [if_pos (by omega), if_pos h2]
    exact ⟨⟨rfl, fun _ => rfl⟩, .inr (.inl rfl)⟩
   ·rw [if_neg (by omega), if_neg h2]
    exact ⟨⟨rfl, fun h => absurd rfl h⟩, .inl rfl⟩
  | some j =>
   have hj := (around_lt _ _ _ _ ha).1
   simp only
   have hop := h.op j hj
   have htx : ((kidP s.row).getD j zOpn).text = ((u.r.getD (j + 1) z159).f5.size : Int) := by
    unfold kidP
    rw [getD_mod, ← hop.text]
    split <;> rfl
   rw [htx, if_pos (show (0 : Int) < ((j + 1 : Nat) : Int) by omega), rd_at]
   by_cases h2 : 2000 ≤ s.t.length
   ·rw [if_pos (by omega), if_pos h2]
    exact ⟨⟨rfl, fun _ => rfl⟩, .inr (.inl rfl)⟩
   ·rw [if_neg h2]
    by_cases h3 : 60 < wrap64 (((u.r.getD (j + 1) z159).f5.size : Int) + x.f2.size)
    ·rw [if_pos (.inl h3), if_pos h3]
     exact ⟨⟨rfl, fun _ => rfl⟩, .inr (.inl rfl)⟩
    ·rw [if_neg (fun e => e.elim h3 (by omega)), if_neg h3]
     exact ⟨⟨rfl, fun h => absurd rfl h⟩, .inl rfl⟩
 ·rw [if_neg hm, if_neg hm]
  by_cases h2 : blackP x.f2 x.f2.size 0 < x.f2.size
  ·rw [if_pos h2, if_pos h2]
   exact ⟨⟨rfl, fun _ => rfl⟩, .inr (.inr ⟨rfl, Bool.eq_false_iff.mpr hm⟩)⟩
  ·rw [if_neg h2, if_neg h2]
   exact ⟨⟨rfl, fun h => absurd rfl h⟩, .inl rfl⟩
theorem kinds_texts (s : Bld) (x : S47) (i : Nat) : (textsP s x).1.row[i]?.map Opn.kind = s.row[i]?.map Opn.kind := by
 unfold textsP
 split
 ·split
  ·exact (kinds_modify (kidP s.row) (textF x.f2.size) (fun _ => rfl) _ i).trans (kinds_kidP s.row i)
  ·exact kinds_kidP s.row i
 ·split <;> rfl
theorem rstep_text {u : RSt} {x : S47} (h1 : x.f0 = 1) : rstep u x = if textsR u.r = true then some ⟨u.t ++ [⟨46, x.f2, x.f3, 1⟩], addText x.f2 (u.r.modify (u.r.length - 1) (kidR dotB))⟩ else some u := by
 unfold rstep
 rw [if_pos h1]
theorem step_both {n : Nat} {s : Bld} {u : RSt} (h : Rel n s u) (hn : n ≤ 7000000) (x : S47) (hx : LexF x) : Steps n s u x (stepP s x).2 (stepR (opensR u.r x.f1) u x) := by
 obtain ⟨hf, hx0, hx1, hsz, h46⟩ := hx
 rcases hf with h1 | h2 | h3
 ·obtain ⟨⟨c1, c2⟩, c3⟩ := texts_code h hn x (opensR u.r x.f1) h1
  have es : stepP s x = textsP s x := by unfold stepP; rw [if_pos h1]
  rw [es]
  refine ⟨by rw [c1], fun e => c2 (by omega), fun hne => ?_, fun e => by rw [c1, e], by omega, by omega, fun _ => ⟨c1, c2⟩, fun hh _ _ => ?_⟩
  ·rw [rstep_text h1, h.texts, es]
   by_cases hm : mayP s.row 46 = true
   ·rw [if_pos hm]
    exact ⟨_, rfl, text_rel h hn x hsz hm⟩
   ·rw [if_neg hm]
    refine ⟨_, rfl, ?_⟩
    unfold textsP
    rw [if_neg hm]
    split
    ·exact h.up (by omega)
    ·exact h.up (by omega)
  ·rw [es]
   rw [hasP_kinds 108 (kinds_texts s x)]
   exact hh
 ·have es : stepP s x = opensP s x := by unfold stepP; rw [if_neg (by omega), if_pos h2]
  have ho := h.opens x.f1 (h46 h2)
  have hchain := stepP_chain s x h.chain
  rw [es] at hchain ⊢
  have hq : stepR (opensR u.r x.f1) u x = if mayP s.row x.f1 = true then (if 32 < s.row.length + 1 ∨ (x.f1 = 108 ∧ 8 ≤ hasP 108 s.row) then (x.f3, 5) else if 2000 ≤ s.t.length then (x.f3, 4) else (0, 0)) else (x.f3, 2) := by
   unfold stepR
   rw [if_neg (show ¬ x.f0 = 1 by omega), if_pos h2, ho, h.len, h.many, h.t]
  rw [hq]
  by_cases hm : mayP s.row x.f1 = true
  ·have hrel := open_rel h hn x hx0 hx1 (h46 h2) hm hchain
   have hr : rstep u x = some ⟨u.t ++ [⟨x.f1, ⟨#[]⟩, x.f3, 1⟩], addNote x.f1 (u.r.modify (u.r.length - 1) (kidR (byteB x.f1))) ++ [⟨x.f1, ⟨#[]⟩, u.t.length, 0, 0, ⟨#[]⟩⟩]⟩ := by
    unfold rstep
    rw [if_neg (show ¬ x.f0 = 1 by omega), if_pos h2]
   have hhas : hasP 108 (kidP (markP s.row x.f1) ++ [⟨x.f1, s.t.length, 0, 0, false, 0, 0⟩]) = hasP 108 s.row + if x.f1 = 108 then 1 else 0 := by
    rw [hasP_snoc, hasP_kinds 108 fun i => (kinds_kidP _ i).trans (kinds_markP s.row x.f1 i)]
   have hop : opensP s x = (⟨kidP (markP s.row x.f1) ++ [⟨x.f1, s.t.length, 0, 0, false, 0, 0⟩], s.t ++ [⟨x.f1, ⟨#[]⟩, x.f3, 1⟩]⟩, x.f3, if 32 < s.row.length + 1 ∨ 8 < hasP 108 s.row + (if x.f1 = 108 then 1 else 0) then 5 else if 2000 < s.t.length + 1 then 4 else 0) := by
    unfold opensP
    rw [if_pos hm, hhas]
   have hrow : (opensP s x).1.row = kidP (markP s.row x.f1) ++ [⟨x.f1, s.t.length, 0, 0, false, 0, 0⟩] := by rw [hop]
   have hcode : (opensP s x).2 = (x.f3, if 32 < s.row.length + 1 ∨ 8 < hasP 108 s.row + (if x.f1 = 108 then 1 else 0) then 5 else if 2000 < s.t.length + 1 then 4 else 0) := by rw [hop]
   rw [if_pos hm, hcode]
   have h12 : (if x.f1 = 108 then 1 else 0) ≤ 1 ∧ (x.f1 = 108 → (if x.f1 = 108 then 1 else 0) = 1) ∧ (¬ x.f1 = 108 → (if x.f1 = 108 then 1 else 0) = 0) := by
    by_cases e : x.f1 = 108
    ·rw [if_pos e]; exact ⟨by omega, fun _ => rfl, fun h => absurd e h⟩
    ·rw [if_neg e]; exact ⟨by omega, fun h => absurd h e, fun _ => rfl⟩
   generalize hI : (if x.f1 = 108 then 1 else 0) = I at *
   obtain ⟨i1, i2, i3⟩ := h12
   by_cases hd : 32 < s.row.length + 1 ∨ (x.f1 = 108 ∧ 8 ≤ hasP 108 s.row)
   ·have hd' : 32 < s.row.length + 1 ∨ 8 < hasP 108 s.row + I := by
     rcases hd with a | ⟨a, b⟩
     ·exact .inl a
     ·have := i2 a; exact .inr (by omega)
    rw [if_pos hd, if_pos hd']
    refine ⟨Iff.rfl, fun _ => rfl, fun _ => ⟨_, hr, by rw [es]; exact hrel⟩, fun _ => rfl, .inr (.inr (.inr rfl)), .inr (.inr (.inr rfl)), fun _ => ⟨rfl, fun _ => rfl⟩, fun _ _ e => absurd rfl e⟩
   ·rw [if_neg hd]
    have hq2 : ∀ z : Int × Int, z = (if 2000 ≤ s.t.length then (x.f3, 4) else (0, 0)) → z.2 = 0 ∨ z.2 = 4 := by
     rintro z rfl
     split
     ·exact .inr rfl
     ·exact .inl rfl
    have hz := hq2 _ rfl
    by_cases hd' : 32 < s.row.length + 1 ∨ 8 < hasP 108 s.row + I
    ·rw [if_pos hd']
     refine ⟨⟨fun e => (by cases e), fun e => (by omega)⟩, fun e => (by omega), fun _ => ⟨_, hr, by rw [es]; exact hrel⟩, fun e => rfl, .inr (.inr (.inr rfl)), by omega, fun hh => ?_, fun _ _ e => absurd rfl e⟩
     exfalso
     rcases hd' with a | a
     ·exact hd (.inl a)
     ·by_cases e : x.f1 = 108
      ·exact hd (.inr ⟨e, by have := i2 e; omega⟩)
      ·have := i3 e; omega
    ·rw [if_neg hd']
     by_cases hb : 2000 ≤ s.t.length
     ·rw [if_pos hb, if_pos (by omega)]
      refine ⟨Iff.rfl, fun _ => rfl, fun _ => ⟨_, hr, by rw [es]; exact hrel⟩, fun e => (by cases e), .inr (.inr (.inl rfl)), .inr (.inr (.inl rfl)), fun _ => ⟨rfl, fun _ => rfl⟩, fun hh _ _ => ?_⟩
      rw [es, hrow, hhas]; omega
     ·rw [if_neg hb, if_neg (by omega)]
      refine ⟨Iff.rfl, fun e => (by cases e), fun _ => ⟨_, hr, by rw [es]; exact hrel⟩, fun e => (by cases e), .inl rfl, .inl rfl, fun _ => ⟨rfl, fun e => absurd rfl e⟩, fun hh _ _ => ?_⟩
      rw [es, hrow, hhas]; omega
  ·have hop : opensP s x = (s, x.f3, 2) := by
    unfold opensP
    rw [if_neg hm]
   rw [if_neg hm, hop]
   exact ⟨Iff.rfl, fun _ => rfl, fun e => absurd rfl e, fun e => (by cases e), .inr (.inl rfl), .inr (.inl rfl), fun _ => ⟨rfl, fun _ => rfl⟩, fun _ e _ => absurd rfl e⟩
 ·have es : stepP s x = shutsP s x := by unfold stepP; rw [if_neg (by omega), if_neg (by omega)]
  have hc := shut_code h x (opensR u.r x.f1) h3
  have hs := shut_says s x
  rw [es, hs, hc]
  by_cases hw : shutW s = true
  ·rw [if_pos hw, if_pos hw]
   have h0 : (shutsP s x).2.2 = 0 := by rw [hs, if_pos hw]
   obtain ⟨a1, a2, a3, a4⟩ := shut_rel h x h0
   have hr : rstep u x = some ⟨u.t.modify (topR u.r).f2.toNat (sizeF (u.t.length - (topR u.r).f2)), (addCols u.r).dropLast⟩ := by
    unfold rstep
    rw [if_neg (by omega), if_neg (by omega), if_pos ⟨a1, a2, a3⟩]
   refine ⟨Iff.rfl, fun e => (by cases e), fun _ => ⟨_, hr, by rw [es]; exact a4.up (by omega)⟩, fun e => (by cases e), .inl rfl, .inl rfl, fun _ => ⟨rfl, fun e => absurd rfl e⟩, fun hh _ _ => ?_⟩
   rw [es]
   unfold shutsP
   by_cases hr : s.row = []
   ·rw [if_pos hr]; exact hh
   ·rw [if_neg hr]
    show hasP 108 (wholeP s.row.dropLast (topP s.row)).1 ≤ 8
    rw [hasP_kinds 108 (kinds_wholeP _ _)]
    exact Nat.le_trans (hasP_init _ _) hh
  ·rw [if_neg hw, if_neg hw]
   exact ⟨Iff.rfl, fun _ => rfl, fun e => absurd rfl e, fun e => (by cases e), .inr (.inl rfl), .inr (.inl rfl), fun _ => ⟨rfl, fun _ => rfl⟩, fun _ e _ => absurd rfl e⟩
theorem rel0 : Rel 0 bld0 read0 := ⟨rfl, rfl, rfl, fun i hi => by simp [bld0] at hi, by intro i hi; simp [bld0] at hi⟩
theorem readP_snoc : ∀ (l : List S47) (u : RSt) (x : S47), readP u (l ++ [x]) = (readP u l).bind fun v => rstep v x
 | [], u, x => by
  simp only [List.nil_append, readP, Option.bind_some]
  cases rstep u x <;> rfl
 | y :: l, u, x => by
  simp only [List.cons_append, readP]
  cases rstep u y with
  | none => rfl
  | some v => exact readP_snoc l v x
theorem take_snoc (l : List S47) (i : Nat) (hi : i < l.length) : l.take (i + 1) = l.take i ++ [rd_T47 l i] := by
 unfold rd_T47
 rw [List.take_add_one, List.getD_eq_getElem?_getD, Int.toNat_natCast, List.getElem?_eq_getElem hi]
 rfl
theorem drop_rd47 (l : List S47) (i : Nat) (hi : i < l.length) : l.drop i = rd_T47 l i :: l.drop (i + 1) := by
 unfold rd_T47
 rw [List.drop_eq_getElem_cons hi, List.getD_eq_getElem?_getD, Int.toNat_natCast, List.getElem?_eq_getElem hi]
 rfl
theorem rd47_mem (l : List S47) (i : Nat) (hi : i < l.length) : rd_T47 l i ∈ l := by
 unfold rd_T47
 rw [List.getD_eq_getElem?_getD, Int.toNat_natCast, List.getElem?_eq_getElem hi]
 exact List.getElem_mem hi
theorem read_f (l : List S47) (hl : l.length ≤ 800000) (hx : ∀ x ∈ l, LexF x) (u : RSt) (h : readP read0 l = some u) : stylusref04_Read.f l = some (u.t, u.r) := by
 unfold stylusref04_Read.f
 rw [if_pos, h]
 ·rfl
 ·refine ⟨hl, ?_⟩
  rw [List.all_eq_true]
  intro x hm
  obtain ⟨_, a, b, c, _⟩ := hx x hm
  simp [a, b, c]
theorem topR_mem {u : RSt} (h : 0 < u.r.length) : topR u.r ∈ u.r := by
 unfold topR
 rw [rd_at, List.getD_eq_getElem?_getD, List.getElem?_eq_getElem (show u.r.length - 1 < u.r.length by omega)]
 exact List.getElem_mem _
theorem LexF.inOk {x : S47} (h : LexF x) : InOk x := ⟨h.2.2.2.1, h.2.1, h.2.2.1⟩
theorem stepOf {n : Nat} {s : Bld} {u : RSt} (h : Rel n s u) {i : Nat} (hb : RB u i) (hi : i ≤ 700000) (x : S47) (hx : LexF x) (k : Nat) (hk : 3000000 ≤ k) :
  stylusref04_Step.f k u.t u.r x.f0 x.f1 x.f2 x.f3 = some (stepR (opensR u.r x.f1) u x) := by
 have h1 := hb.row
 have h2 := (hb.ops _ (topR_mem hb.pos)).a
 exact step_f u x (by omega) hb.pos (by omega) hx.2.2.2.1 k
def outAns (a0 : ByteArray) (r : Bld × Int × Int) : List S56 × Int × Int := if r.2.2 ≠ 0 then ([], r.2.1, r.2.2) else if r.1.row ≠ [] then ([], a0.size, 2) else (r.1.t, 0, 0)
def refAns (a0 : ByteArray) (s : Bld) (l : List S47) : List S56 × Int × Int := outAns a0 (runP s l)
theorem runP_nil (s : Bld) : runP s [] = (s, 0, 0) := rfl
theorem runP_cons (s : Bld) (x : S47) (l : List S47) : runP s (x :: l) = if (stepP s x).2.2 = 0 then runP (stepP s x).1 l else stepP s x := rfl
theorem parse_loop (a0 : ByteArray) (l : List S47) (hl : l.length ≤ 700000) (hx : ∀ x ∈ l, LexF x) : ∀ (d i k : Nat) (s : Bld) (u : RSt), d + i = l.length → d + 3000001 ≤ k → Rel (2 * i) s u → RB u i → readP read0 (l.take i) = some u → hasP 108 s.row ≤ 8 →
  stylusref04_Parse.l0 k a0 l i = some (refAns a0 s (l.drop i))
 | 0, i, k, s, u, hd, hk, hrel, hb, hr, hh => by
  obtain ⟨k, rfl⟩ : ∃ q, k = q + 1 := ⟨k - 1, by omega⟩
  rw [stylusref04_Parse.l0, if_neg (by omega)]
  rw [List.take_of_length_le (by omega)] at hr
  rw [read_f l (by omega) hx u hr, Option.bind_some, List.drop_eq_nil_of_le (by omega)]
  unfold refAns
  rw [runP_nil]
  unfold outAns
  rw [if_neg (show ¬ ((s, (0 : Int), (0 : Int)).2.2 ≠ 0) from fun h => h rfl)]
  have := hrel.len
  by_cases h0 : s.row = []
  ·rw [if_neg (by rw [hrel.one.mpr h0]; decide), if_neg (fun h => h h0), hrel.t]
  ·have hl : 0 < s.row.length := List.length_pos_iff.mpr h0
   rw [if_pos (show ((u.t, u.r).2.length : Int) > 1 by show (u.r.length : Int) > 1; omega), if_pos h0]
 | d + 1, i, k, s, u, hd, hk, hrel, hb, hr, hh => by
  obtain ⟨k, rfl⟩ : ∃ q, k = q + 1 := ⟨k - 1, by omega⟩
  have hi : i < l.length := by omega
  have hxi := hx _ (rd47_mem l i hi)
  have hread := read_f (l.take i) (by rw [List.length_take]; omega) (fun x hm => hx x (List.mem_of_mem_take hm)) u hr
  rw [stylusref04_Parse.l0, if_pos (by omega), if_pos (by omega), if_pos (by omega), Int.toNat_natCast, hread, Option.bind_some, stepOf hrel hb (by omega) _ hxi k (by omega), Option.bind_some, drop_rd47 l i hi]
  have hst := step_both hrel (by omega) _ hxi
  obtain ⟨c1, c2⟩ := hst.same hh
  have hq := hst.inQ
  unfold refAns
  rw [runP_cons]
  by_cases h0 : (stepR (opensR u.r (rd_T47 l i).f1) u (rd_T47 l i)).2 = 0
  ·rw [if_pos h0, if_pos (c1.trans h0), wrap_s (by omega)]
   obtain ⟨u', g1, g2⟩ := hst.on (by omega)
   have hr' : readP read0 (l.take (i + 1)) = some u' := by rw [take_snoc l i hi, readP_snoc, hr]; exact g1
   exact parse_loop a0 l hl hx d (i + 1) k _ u' (by omega) (by omega) (by rw [show 2 * (i + 1) = 2 * i + 2 from by omega]; exact g2) (RB_step hb hxi.inOk g1) hr' (hst.few hh (by omega) (by omega))
  ·rw [if_neg h0, if_neg (fun e => h0 (c1.symm.trans e))]
   unfold outAns
   rw [if_pos (by rw [c1]; exact h0), c2 h0]
theorem parse_ref (a0 : ByteArray) (l : List S47) (hl : l.length ≤ 700000) (hx : ∀ x ∈ l, LexF x) (k : Nat) (hk : l.length + 3000001 ≤ k) : stylusref04_Parse.l0 k a0 l 0 = some (refAns a0 bld0 l) := by
 have := parse_loop a0 l hl hx l.length 0 k bld0 read0 (by omega) (by omega) rel0 RB0 rfl (by decide)
 rwa [List.drop_zero] at this
end Go.Proofs.Ythcmfjpheanphaa.Pr
namespace Go.Proofs.Ythcmfjpheanphaa.Pr
open Go.RowKit Go.Proofs.YthcmfjpheanphaaW.PrintWords
theorem same04_loop (t : List S56) (hl : t.length ≤ 1000000) : ∀ (d i k : Nat), d + i = t.length → d + 1 ≤ k → stylusref04_Same.l0 k t t i = some true
 | 0, i, k, h, hk => by
  obtain ⟨k, rfl⟩ : ∃ q, k = q + 1 := ⟨k - 1, by omega⟩
  rw [stylusref04_Same.l0, if_neg (by omega)]
 | d + 1, i, k, h, hk => by
  obtain ⟨k, rfl⟩ : ∃ q, k = q + 1 := ⟨k - 1, by omega⟩
  rw [stylusref04_Same.l0, if_pos (by omega), if_pos (by omega), if_pos (by omega), if_pos rfl, if_pos rfl, if_pos rfl, wrap_s (by omega)]
  exact same04_loop t hl d (i + 1) k (by omega) (by omega)
theorem same04_f (t : List S56) (hl : t.length ≤ 1000000) (k : Nat) (hk : t.length + 1 ≤ k) : stylusref04_Same.f k t t = some true := by
 unfold stylusref04_Same.f
 rw [if_pos rfl]
 exact same04_loop t hl t.length 0 k (by omega) (by omega)
theorem like_loop (t : List S56) (hl : t.length ≤ 1000000) : ∀ (d i k : Nat), d + i = t.length → 2 * d + t.length + 3 ≤ k → stylusref04_Like.l0 k t t i = some true
 | 0, i, k, h, hk => by
  obtain ⟨k, rfl⟩ : ∃ q, k = q + 2 := ⟨k - 2, by omega⟩
  rw [stylusref04_Like.l0, if_neg (by omega), stylusref04_Like.j1, if_neg (by decide), same04_f t hl k (by omega)]
  rfl
 | d + 1, i, k, h, hk => by
  obtain ⟨k, rfl⟩ : ∃ q, k = q + 2 := ⟨k - 2, by omega⟩
  rw [stylusref04_Like.l0, if_pos (by omega), stylusref04_Like.j1, if_pos (decide_eq_true (by omega)), if_pos (by omega), if_pos (by omega), if_pos (by omega), if_pos rfl, wrap_s (by omega)]
  exact like_loop t hl d (i + 1) k (by omega) (by omega)
theorem like_f (t : List S56) (hl : t.length ≤ 1000000) (k : Nat) (hk : 3 * t.length + 3 ≤ k) : stylusref04_Like.f k t t = some true :=
 like_loop t hl t.length 0 k (by omega) (by omega)
end Go.Proofs.Ythcmfjpheanphaa.Pr
namespace Go.Proofs.Ythcmfjpheanphaa.Pr
open Go.RowKit Go.Proofs.Ythcmfjpheanphaa.Pure Go.Proofs.YthcmfjpheanphaaW.PrintWords
theorem parse_ok {s : ByteArray} {t : List S56} {a : Int} (h : parseP s = (t, a, 0)) : Lx s 0 (lexP s).1 ∧ s.size ≤ 8192 ∧ (lexP s).2.2 = 0 ∧ (runP bld0 (lexP s).1).2.2 = 0 ∧ (runP bld0 (lexP s).1).1.row = [] ∧ t = (runP bld0 (lexP s).1).1.t := by
 unfold parseP at h
 by_cases h1 : (lexP s).2.2 = 0
 ·rw [if_neg (by simpa using h1)] at h
  by_cases h2 : (runP bld0 (lexP s).1).2.2 = 0
  ·rw [if_neg (by simpa using h2)] at h
   by_cases h3 : (runP bld0 (lexP s).1).1.row = []
   ·rw [if_neg (by simpa using h3)] at h
    obtain ⟨k1, k2⟩ := lexP_Lx h1
    simp only [Prod.mk.injEq] at h
    exact ⟨k1, k2, h1, h2, h3, h.1.symm⟩
   ·rw [if_pos h3] at h
    simp only [Prod.mk.injEq] at h
    exact absurd h.2.2 (by decide)
  ·rw [if_pos h2] at h
   simp only [Prod.mk.injEq] at h
   exact absurd h.2.2 h2
 ·rw [if_pos h1] at h
  simp only [Prod.mk.injEq] at h
  exact absurd h.2.2 h1
end Go.Proofs.Ythcmfjpheanphaa.Pr
