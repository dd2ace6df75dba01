/- Texts of this seat, one behind the other. -/
import Derived.Test.YthcmfjpheanphaaXTreeParses1
import Derived.Test.YthcmfjpheanphaaXTreeParses2
import Derived.Test.YthcmfjpheanphaaXTreeParses3
import Derived.Test.YthcmfjpheanphaaXTreeParses4
set_option linter.unusedVariables false
set_option linter.unusedSimpArgs false
namespace Go.Proofs.Ythcmfjpheanphaa.Pr
open Go.RowKit Go.Proofs.YthcmfjpheanphaaW.PrintWords Go.Proofs.YthcmfjpheanphaaW.PrintLast Go.Proofs.YthcmfjpheanphaaW.PrintMore
attribute [local go_sem] max2_int min2_int max_two min_two max_three min_three max_four min_four
mutual
def stylusref03_Of.l0 : Nat → ByteArray → List (S47) → Int → Int → Option ((List (S47)) × Int × Int)
 | 0, _, _, _, _ => none
 | k + 1, x0, x5, x6, x7 => if x7 < (x0.size : Int) then (if 0 ≤ x7 then (if (bt x0 x7) = 125 then (if x5.length < 3518437208883 then (stylusref03_Of.l0 k x0 (x5 ++ [(⟨3, 0, (⟨#[]⟩ : ByteArray), x7⟩ : S47)]) 0 (wrap64 (x7 + 1))) else (none)) else (if (bt x0 x7) = 123 then ((stylusref03_opens.f k x0 x7).bind fun bt142 => (if bt142.1 = 0 then (some (([] : List (S47)), x7, 2)) else (if x5.length < 3518437208883 then ((some (x5 ++ [(⟨2, bt142.1, (⟨#[]⟩ : ByteArray), x7⟩ : S47)] : List (S47))).bind fun y144 => (if (wrap64 ((wrap64 (x7 + (bt142.2.size : Int))) + 1)) < (x0.size : Int) then (if 0 ≤ (wrap64 ((wrap64 (x7 + (bt142.2.size : Int))) + 1)) then ((stylusref01_White.f (bt x0 (wrap64 ((wrap64 (x7 + (bt142.2.size : Int))) + 1)))).bind fun t147 => (if t147 = true then (stylusref03_Of.l0 k x0 y144 0 (wrap64 ((wrap64 ((wrap64 (x7 + (bt142.2.size : Int))) + 1)) + 1))) else (stylusref03_Of.l0 k x0 y144 0 (wrap64 ((wrap64 (x7 + (bt142.2.size : Int))) + 1))))) else (none)) else (stylusref03_Of.l0 k x0 y144 0 (wrap64 ((wrap64 (x7 + (bt142.2.size : Int))) + 1))))) else (none)))) else ((stylusref01_Is.f k (bt x0 x7)).bind fun t148 => (if t148 = true then (stylusref03_Of.j1 k x0 x5 x6 x7 false) else ((stylusref01_White.f (bt x0 x7)).bind fun t149 => (stylusref03_Of.j1 k x0 x5 x6 x7 (!t149))))))) else (none)) else (some (x5, 0, 0))
def stylusref03_Of.j1 : Nat → ByteArray → List (S47) → Int → Int → Bool → Option ((List (S47)) × Int × Int)
 | 0, _, _, _, _, _ => none
 | k + 1, x0, x5, x6, x7, x76 => if x76 = true then (some (([] : List (S47)), x7, 3)) else (if x6 = 0 then (if x5.length < 3518437208883 then ((some (x5 ++ [(⟨1, 0, (⟨#[]⟩ : ByteArray), x7⟩ : S47)] : List (S47))).bind fun y150 => (if 0 ≤ (wrap64 ((y150.length : Int) - 1)) then (if (wrap64 ((y150.length : Int) - 1)) < (y150.length : Int) then (if 0 ≤ x7 then (if x7 ≤ (wrap64 (x7 + 1)) then (if (wrap64 (x7 + 1)) ≤ (x0.size : Int) then (if ((rd_T47 y150 (wrap64 ((y150.length : Int) - 1))).f2).size + (x0.extract (x7 : Int).toNat ((wrap64 (x7 + 1)) : Int).toNat).size ≤ 9223372036854775807 then (stylusref03_Of.l0 k x0 (y150.set ((wrap64 ((y150.length : Int) - 1)) : Int).toNat (⟨(rd_T47 y150 (wrap64 ((y150.length : Int) - 1))).f0, (rd_T47 y150 (wrap64 ((y150.length : Int) - 1))).f1, ((rd_T47 y150 (wrap64 ((y150.length : Int) - 1))).f2) ++ (x0.extract (x7 : Int).toNat ((wrap64 (x7 + 1)) : Int).toNat), (rd_T47 y150 (wrap64 ((y150.length : Int) - 1))).f3⟩ : S47)) 1 (wrap64 (x7 + 1))) else (none)) else (none)) else (none)) else (none)) else (none)) else (none))) else (none)) else (if 0 ≤ (wrap64 ((x5.length : Int) - 1)) then (if (wrap64 ((x5.length : Int) - 1)) < (x5.length : Int) then (if 0 ≤ x7 then (if x7 ≤ (wrap64 (x7 + 1)) then (if (wrap64 (x7 + 1)) ≤ (x0.size : Int) then (if ((rd_T47 x5 (wrap64 ((x5.length : Int) - 1))).f2).size + (x0.extract (x7 : Int).toNat ((wrap64 (x7 + 1)) : Int).toNat).size ≤ 9223372036854775807 then (stylusref03_Of.l0 k x0 (x5.set ((wrap64 ((x5.length : Int) - 1)) : Int).toNat (⟨(rd_T47 x5 (wrap64 ((x5.length : Int) - 1))).f0, (rd_T47 x5 (wrap64 ((x5.length : Int) - 1))).f1, ((rd_T47 x5 (wrap64 ((x5.length : Int) - 1))).f2) ++ (x0.extract (x7 : Int).toNat ((wrap64 (x7 + 1)) : Int).toNat), (rd_T47 x5 (wrap64 ((x5.length : Int) - 1))).f3⟩ : S47)) x6 (wrap64 (x7 + 1))) else (none)) else (none)) else (none)) else (none)) else (none)) else (none)))
end
def stylusref03_Of.f (k : Nat) (a0 : ByteArray) : Option ((List (S47)) × Int × Int) := if (a0.size : Int) > 8192 then (some (([] : List (S47)), 0, 4)) else (stylusref03_Of.l0 k a0 ([] : List (S47)) 0 0)
theorem stylusref03_Of.mono_l : ∀ k, (∀ y0 y1 y2 y3, LeO (stylusref03_Of.l0 k y0 y1 y2 y3) (stylusref03_Of.l0 (k + 1) y0 y1 y2 y3)) ∧ (∀ y0 y1 y2 y3 y4, LeO (stylusref03_Of.j1 k y0 y1 y2 y3 y4) (stylusref03_Of.j1 (k + 1) y0 y1 y2 y3 y4))
 | 0 => ⟨fun _ _ _ _ r h => by simp [stylusref03_Of.l0] at h, fun _ _ _ _ _ r h => by simp [stylusref03_Of.j1] at h⟩
 | k + 1 => by
  obtain ⟨ih0, ih1⟩ := stylusref03_Of.mono_l k
  refine ⟨?_, ?_⟩
  ·intro y0 y1 y2 y3
   unfold stylusref03_Of.l0
   repeat' first
   | (with_reducible exact ih0 _ _ _ _)
   | (with_reducible exact ih1 _ _ _ _ _)
   | (with_reducible exact stylusref01_Is.mono _ _)
   | (with_reducible exact stylusref03_opens.mono _ _ _)
   | (with_reducible exact LeO.refl _)
   | (with_reducible exact LeO.none _)
   | (with_reducible refine LeO.ite ?_ ?_)
   | (with_reducible refine LeO.bind ?_ (fun _ => ?_))
   | exact ih0 _ _ _ _
   | exact ih1 _ _ _ _ _
   | exact stylusref01_Is.mono _ _
   | exact stylusref03_opens.mono _ _ _
   | exact LeO.none _
   | refine LeO.ite ?_ ?_
   | refine LeO.bind ?_ (fun _ => ?_)
  ·intro y0 y1 y2 y3 y4
   unfold stylusref03_Of.j1
   repeat' first
   | (with_reducible exact ih0 _ _ _ _)
   | (with_reducible exact ih1 _ _ _ _ _)
   | (with_reducible exact stylusref01_Is.mono _ _)
   | (with_reducible exact stylusref03_opens.mono _ _ _)
   | (with_reducible exact LeO.refl _)
   | (with_reducible exact LeO.none _)
   | (with_reducible refine LeO.ite ?_ ?_)
   | (with_reducible refine LeO.bind ?_ (fun _ => ?_))
   | exact ih0 _ _ _ _
   | exact ih1 _ _ _ _ _
   | exact stylusref01_Is.mono _ _
   | exact stylusref03_opens.mono _ _ _
   | exact LeO.none _
   | refine LeO.ite ?_ ?_
   | refine LeO.bind ?_ (fun _ => ?_)
theorem stylusref03_Of.mono : ∀ a0 k, LeO (stylusref03_Of.f k a0) (stylusref03_Of.f (k + 1) a0) := by
 intro a0 k
 obtain ⟨ih0, ih1⟩ := stylusref03_Of.mono_l k
 unfold stylusref03_Of.f
 repeat' first
   | (with_reducible exact ih0 _ _ _ _)
   | (with_reducible exact ih1 _ _ _ _ _)
   | (with_reducible exact stylusref01_Is.mono _ _)
   | (with_reducible exact stylusref03_opens.mono _ _ _)
   | (with_reducible exact LeO.refl _)
   | (with_reducible exact LeO.none _)
   | (with_reducible refine LeO.ite ?_ ?_)
   | (with_reducible refine LeO.bind ?_ (fun _ => ?_))
   | exact ih0 _ _ _ _
   | exact ih1 _ _ _ _ _
   | exact stylusref01_Is.mono _ _
   | exact stylusref03_opens.mono _ _ _
   | exact LeO.none _
   | refine LeO.ite ?_ ?_
   | refine LeO.bind ?_ (fun _ => ?_)
def stylusref03_Of.T25 : Bool × List (List Nat × List Nat) := (true, [([], []), ([], []), ([1], [1]), ([2], [2]), ([], []), ([], []), ([5], [5]), ([6], [6]), ([4, 7], [4, 7]), ([8], [8]), ([9], [9]), ([], []), ([], []), ([], []), ([13], [13]), ([11, 12, 14], [11, 12, 14]), ([10, 15], [10, 15]), ([0, 3, 0, 1, 2, 3, 4, 5, 6, 7, 8, 9, 10, 11, 12, 13, 14, 15, 16], [0, 3]), ([17, 0, 1, 2, 3, 4, 5, 6, 7, 8, 9, 10, 11, 12, 13, 14, 15, 16], [17]), ([18, 16, 0, 1, 2, 3, 4, 5, 6, 7, 8, 9, 10, 11, 12, 13, 14, 15, 16], [16, 18])])
def stylusref03_Of.B25 : List Nat := [0, 0, 2, 6, 0, 0, 32, 96, 240, 496, 1008, 0, 0, 0, 8192, 30720, 65520, 131071, 262143, 524287]
theorem stylusref03_Of.tab25 : rtab .any (opsOf Try.f46 25) = stylusref03_Of.T25 := by kernel_rfl
theorem stylusref03_Of.bits25 : waitsOk stylusref03_Of.T25.2 stylusref03_Of.B25 = true := by kernel_rfl
set_option maxHeartbeats 8000000 in
set_option maxRecDepth 100000 in
theorem stylusref03_Of.calls (k : Nat) (a0 : ByteArray) (r1 : List (S47)) (r2 : Int) (r3 : Int) (w : World) (h : stylusref03_Of.f k a0 = some (r1, r2, r3)) :
  Calls Try.prog 46 #[.string a0] w fun e w' => ∃ v0_ : Value, e = .returned (.tuple #[v0_, .int .i64 r2, .int .i64 r3]) ∧ Kd.R k47 47 w' w.heap.size (fun _ => True) v0_ r1 ∧ Below w.heap.size w w' := by
 have hu47 := Try.underlying47
 have HB := Aside0.mk (Below.refl w.heap.size w)
 have H : (if (a0.size : Int) > 8192 then (some (([] : List (S47)), 0, 4)) else (stylusref03_Of.l0 k a0 ([] : List (S47)) 0 0)) = some (r1, r2, r3) := h
 clear h
 by_cases c2 : (a0.size : Int) > 8192
 ·rw [if_pos c2] at H
  have c2b0 : decide (8192 < (a0.size : Int)) = true := decide_eq_true c2
  have c2b1 : decide (8192 < a0.size) = true := decide_eq_true (by omega)
  clear c2
  simp only [Option.some.injEq, Prod.mk.injEq] at H
  obtain ⟨rfl, rfl, rfl⟩ := H
  go_enter Try.func46, Try.ntmps46
  go_wp2
  go_ret3
  exact ⟨_, by first | rfl | (simp [errW_none, errW_some] <;> rfl) | (simp [*, errW_none, errW_some] <;> rfl), by first | exact Kd.R_nil _ _ _ _ _ | exact Kd.N_nil _ _ _ _ _ | exact Kd.V_nil _ _ _ _ _ | exact Kd.Q_nil _ _ _ _ _ | exact Kd.S_nil _ _ _ _ _, by repeat (first | (with_reducible first | exact HB.out | apply below_alloc | apply pw_below_drewN | apply below_drew1) | exact HB.out)⟩
 ·rw [if_neg c2] at H
  have c2b0 : decide (8192 < (a0.size : Int)) = false := decide_eq_false c2
  have c2b1 : decide (8192 < a0.size) = false := decide_eq_false (by omega)
  clear c2
  have H' := Aside0.mk H
  clear H
  go_enter Try.func46, Try.ntmps46
  go_wp2
  go_loopg [5, 6, 7] k (fun kq v5 v6 v7 w' => ∃ (x5_1 : List (S47)) (x6_1 : Int) (x7_1 : Int), v6 = .int .i64 x6_1 ∧ v7 = .int .i64 x7_1 ∧ Aside0 (stylusref03_Of.l0 kq a0 x5_1 x6_1 x7_1 = some (r1, r2, r3)) ∧ Aside0 (kq ≤ k) ∧ Aside0 (Kd.R k47 47 w' w.heap.size (fun _ => True) v5 x5_1) ∧ Aside0 (Below w.heap.size w w'))
  case atStart => exact ⟨(([] : List (S47))), (0), (0), (by first | rfl | (simp; done) | (simp [*]; done)), (by first | rfl | (simp; done) | (simp [*]; done)), H', ⟨Nat.le_refl _⟩, ⟨by first | exact Kd.R_nil _ _ _ _ _ | exact Kd.N_nil _ _ _ _ _ | exact Kd.V_nil _ _ _ _ _ | exact Kd.Q_nil _ _ _ _ _ | exact Kd.S_nil _ _ _ _ _⟩, ⟨by repeat (first | (with_reducible first | exact HB.out | apply below_alloc | apply pw_below_drewN | apply below_drew1) | exact HB.out)⟩⟩
  case round =>
   clear H'
   try clear c2
   try clear c2b0
   try clear c2b1
   try clear p2
   obtain ⟨x5_1, x6_1, x7_1, rfl, rfl, HA, HK1, HO_5, HB⟩ := hrel
   cases gk with
   | zero => exact absurd HA.out (by simp [stylusref03_Of.l0])
   | succ k1 =>
    have H := HA.out
    clear HA
    simp only [stylusref03_Of.l0] at H
    by_cases c3 : x7_1 < (a0.size : Int)
    ·rw [if_pos c3] at H
     have c3b0 : decide (x7_1 < (a0.size : Int)) = true := decide_eq_true c3
     clear c3
     by_cases c4 : 0 ≤ x7_1
     ·rw [if_pos c4] at H
      have c4b0 : decide (0 ≤ x7_1) = true := decide_eq_true c4
      clear c4
      by_cases c6 : (bt a0 x7_1) = 125
      ·rw [if_pos c6] at H
       have c6b0 : ((bt a0 x7_1) == 125) = true := beq_iff_eq.mpr c6
       have c6b1 : ((bt a0 x7_1) != 125) = false := bne_eq_false_iff_eq.mpr c6
       clear c6
       by_cases c7 : x5_1.length < 3518437208883
       ·rw [if_pos c7] at H
        have LMc7 := Aside0.mk c7
        clear c7
        obtain ⟨y139, hy139⟩ : ∃ y_ : List (S47), y_ = (x5_1 ++ [(⟨3, 0, (⟨#[]⟩ : ByteArray), x7_1⟩ : S47)]) := ⟨_, rfl⟩
        replace H : (stylusref03_Of.l0 k1 a0 y139 0 (wrap64 (x7_1 + 1))) = some (r1, r2, r3) := by first | (rw [hy139]; with_reducible exact H) | (have H2_ := (Option.bind_some _ _).symm.trans H; rw [hy139]; with_reducible exact H2_) | (have H2_ := (Option.bind_some _ _).symm.trans H; with_reducible exact H2_) | with_reducible exact H | (rw [hy139]; exact H) | exact H
        have Ny139 := Aside0.mk hy139
        clear hy139
        have H' := Aside0.mk H
        clear H
        have p5 : 0 ≤ (x7_1 : Int) := of_decide_eq_true (by first | (with_reducible assumption) | assumption)
        have q5 : x7_1 < (a0.size : Int) := of_decide_eq_true (by first | (with_reducible assumption) | assumption)
        have hx5 := bt_at a0 x7_1
        replace p5 := eq_true p5
        replace q5 := eq_true q5
        go_wp2_with (first | ((with_reducible refine gate_builtin (b := .append) (xs := #[.tmp 23, .tmp 26]) rfl ?_); at_builtin; refine Kd.R_append k47 (w0 := w) w.heap.size rfl (.tmp 23) (.tmp 26) 41 47 (.agg #[(.int .i64 0), (.int .u8 0), (.string ⟨#[]⟩), (.int .i64 0)]) 40 rfl Try.underlying41 info47 rfl (by decide) (by omega) u5 x5_1 (⟨3, 0, (⟨#[]⟩ : ByteArray), x7_1⟩ : S47) [.int .i64 3, .int .u8 0, .string (⟨#[]⟩ : ByteArray), .int .i64 x7_1] (fun _ => True) (fun _ => False) rfl rfl ?aP (fun _ hk => hk.elim) ?aF ?aO ?aB ?aS ?aL ?_; (case aP => exact k47_mkM _ _ _ (⟨3, 0, (⟨#[]⟩ : ByteArray), x7_1⟩ : S47)); (case aB => exact (by repeat (first | (with_reducible first | exact HB.out | apply below_alloc | apply pw_below_drewN | apply below_drew1) | exact HB.out))); (case aF => exact (fun _ _ => trivial)); (case aO => exact (by (with_reducible repeat (first | apply Kd.R_alloc | apply Kd.R_drewN | apply Kd.R_drew)); exact HO_5.out)); (case aS => exact (below_size (by repeat (first | (with_reducible first | exact HB.out | apply below_alloc | apply pw_below_drewN | apply below_drew1) | exact HB.out)))); (case aL => have := LMc7.out; omega); intro v140 w8 ho hb hg hat; rw [← Ny139.out] at ho; have n0_ := Aside0.mk (hb); have n1_ := Aside0.mk (ho); clear HB; clear HO_5; have HB := n0_; have HO141 := n1_; clear n0_ n1_; clear ho hb hg hat))
        go_roundg k1
        case measure => have := HK1.out; omega
        case rel => exact ⟨(y139), (0), (wrap64 (x7_1 + 1)), (by first | rfl | (simp; done) | (simp [*]; done)), (by first | rfl | (simp; done) | (simp [*]; done)), H', ⟨by have := HK1.out; omega⟩, ⟨by (with_reducible repeat (first | apply Kd.R_alloc | apply Kd.R_drewN | apply Kd.R_drew)); exact HO141.out⟩, ⟨by repeat (first | (with_reducible first | exact HB.out | apply below_alloc | apply pw_below_drewN | apply below_drew1) | exact HB.out)⟩⟩
       ·rw [if_neg c7] at H
        exact absurd H (by simp)
      ·rw [if_neg c6] at H
       have c6b0 : ((bt a0 x7_1) == 125) = false := beq_eq_false_iff_ne.mpr c6
       have c6b1 : ((bt a0 x7_1) != 125) = true := bne_iff_ne.mpr c6
       by_cases c10 : (bt a0 x7_1) = 123
       ·rw [if_pos c10] at H
        have c10b0 : ((bt a0 x7_1) == 123) = true := beq_iff_eq.mpr c10
        have c10b1 : ((bt a0 x7_1) != 123) = false := bne_eq_false_iff_eq.mpr c10
        clear c10
        replace H := Option.bind_eq_some_iff.mp H
        obtain ⟨⟨t142, t143⟩, A110, H⟩ := H
        replace H : (if t142 = 0 then (some (([] : List (S47)), x7_1, 2)) else (if x5_1.length < 3518437208883 then ((some (x5_1 ++ [(⟨2, t142, (⟨#[]⟩ : ByteArray), x7_1⟩ : S47)] : List (S47))).bind fun y144 => (if (wrap64 ((wrap64 (x7_1 + (t143.size : Int))) + 1)) < (a0.size : Int) then (if 0 ≤ (wrap64 ((wrap64 (x7_1 + (t143.size : Int))) + 1)) then ((stylusref01_White.f (bt a0 (wrap64 ((wrap64 (x7_1 + (t143.size : Int))) + 1)))).bind fun t147 => (if t147 = true then (stylusref03_Of.l0 k1 a0 y144 0 (wrap64 ((wrap64 ((wrap64 (x7_1 + (t143.size : Int))) + 1)) + 1))) else (stylusref03_Of.l0 k1 a0 y144 0 (wrap64 ((wrap64 (x7_1 + (t143.size : Int))) + 1))))) else (none)) else (stylusref03_Of.l0 k1 a0 y144 0 (wrap64 ((wrap64 (x7_1 + (t143.size : Int))) + 1))))) else (none))) = some (r1, r2, r3) := H
        have A11 := Aside0.mk A110
        clear A110
        by_cases c12 : t142 = 0
        ·rw [if_pos c12] at H
         have c12b0 : (t142 == 0) = true := beq_iff_eq.mpr c12
         have c12b1 : (t142 != 0) = false := bne_eq_false_iff_eq.mpr c12
         clear c12
         simp only [Option.some.injEq, Prod.mk.injEq] at H
         obtain ⟨rfl, rfl, rfl⟩ := H
         have p5 : 0 ≤ (x7_1 : Int) := of_decide_eq_true (by first | (with_reducible assumption) | assumption)
         have q5 : x7_1 < (a0.size : Int) := of_decide_eq_true (by first | (with_reducible assumption) | assumption)
         have hx5 := bt_at a0 x7_1
         replace p5 := eq_true p5
         replace q5 := eq_true q5
         have p9 : 0 ≤ (x7_1 : Int) := of_decide_eq_true (by first | (with_reducible assumption) | assumption)
         have q9 : x7_1 < (a0.size : Int) := of_decide_eq_true (by first | (with_reducible assumption) | assumption)
         have hx9 := bt_at a0 x7_1
         replace p9 := eq_true p9
         replace q9 := eq_true q9
         go_wp2_with (first | ((with_reducible refine gate_callee (f := 83) rfl ?_); refine goesL_ (some 35) rfl rfl Try.func83 (by kernel_rfl) rfl #[.string a0, .int .i64 x7_1] rfl (by (try simp only [List.map_toArray, List.map_cons, List.map_nil]); first | done | rfl | (simp only [List.length_drop, List.length_take]; rfl)) ?_; (with_reducible refine (stylusref03_opens.calls k1 a0 x7_1 t142 t143 _ A11.out).mono ?_); rintro e w13 ⟨rfl, hb⟩; refine ⟨_, rfl, ?_⟩; have n0_ := Aside0.mk (Kd.R_below (by (with_reducible repeat (first | apply Kd.R_alloc | apply Kd.R_drewN | apply Kd.R_drew)); exact HO_5.out) hb); have n1_ := Aside0.mk (below_step (by repeat (first | (with_reducible first | exact HB.out | apply below_alloc | apply pw_below_drewN | apply below_drew1) | exact HB.out)) hb); clear HO_5; clear HB; have HO_5 := n0_; have HB := n1_; clear n0_ n1_; (try clear hb); (try clear hb2); (try clear hk); (try clear hi)))
         go_ret3
         exact ⟨_, by first | rfl | (simp [errW_none, errW_some] <;> rfl) | (simp [*, errW_none, errW_some] <;> rfl), by first | exact Kd.R_nil _ _ _ _ _ | exact Kd.N_nil _ _ _ _ _ | exact Kd.V_nil _ _ _ _ _ | exact Kd.Q_nil _ _ _ _ _ | exact Kd.S_nil _ _ _ _ _, by repeat (first | (with_reducible first | exact HB.out | apply below_alloc | apply pw_below_drewN | apply below_drew1) | exact HB.out)⟩
        ·rw [if_neg c12] at H
         have c12b0 : (t142 == 0) = false := beq_eq_false_iff_ne.mpr c12
         have c12b1 : (t142 != 0) = true := bne_iff_ne.mpr c12
         by_cases c14 : x5_1.length < 3518437208883
         ·rw [if_pos c14] at H
          have LMc14 := Aside0.mk c14
          clear c14
          obtain ⟨y144, hy144⟩ : ∃ y_ : List (S47), y_ = (x5_1 ++ [(⟨2, t142, (⟨#[]⟩ : ByteArray), x7_1⟩ : S47)]) := ⟨_, rfl⟩
          replace H : (if (wrap64 ((wrap64 (x7_1 + (t143.size : Int))) + 1)) < (a0.size : Int) then (if 0 ≤ (wrap64 ((wrap64 (x7_1 + (t143.size : Int))) + 1)) then ((stylusref01_White.f (bt a0 (wrap64 ((wrap64 (x7_1 + (t143.size : Int))) + 1)))).bind fun t147 => (if t147 = true then (stylusref03_Of.l0 k1 a0 y144 0 (wrap64 ((wrap64 ((wrap64 (x7_1 + (t143.size : Int))) + 1)) + 1))) else (stylusref03_Of.l0 k1 a0 y144 0 (wrap64 ((wrap64 (x7_1 + (t143.size : Int))) + 1))))) else (none)) else (stylusref03_Of.l0 k1 a0 y144 0 (wrap64 ((wrap64 (x7_1 + (t143.size : Int))) + 1)))) = some (r1, r2, r3) := by first | (rw [hy144]; with_reducible exact H) | (have H2_ := (Option.bind_some _ _).symm.trans H; rw [hy144]; with_reducible exact H2_) | (have H2_ := (Option.bind_some _ _).symm.trans H; with_reducible exact H2_) | with_reducible exact H | (rw [hy144]; exact H) | exact H
          have Ny144 := Aside0.mk hy144
          clear hy144
          by_cases c15 : (wrap64 ((wrap64 (x7_1 + (t143.size : Int))) + 1)) < (a0.size : Int)
          ·rw [if_pos c15] at H
           have c15b0 : decide ((wrap64 ((wrap64 (x7_1 + (t143.size : Int))) + 1)) < (a0.size : Int)) = true := decide_eq_true c15
           clear c15
           obtain ⟨ji16, hji16⟩ : ∃ j_ : Int, (wrap64 ((wrap64 (x7_1 + (t143.size : Int))) + 1)) = j_ := ⟨_, rfl⟩
           replace H : (if 0 ≤ (ji16) then ((stylusref01_White.f (bt a0 (ji16))).bind fun t147 => (if t147 = true then (stylusref03_Of.l0 k1 a0 y144 0 (wrap64 ((ji16) + 1))) else (stylusref03_Of.l0 k1 a0 y144 0 ji16))) else (none)) = some (r1, r2, r3) := by first | (rw [hji16] at H; exact H) | (simp only [hji16] at H ⊢; exact H)
           (try rw [hji16] at c15b0)
           (try rw [hji16] at A11)
           have hji16w : (IntKind.i64.wrap ((wrap64 (x7_1 + (t143.size : Int))) + 1)) = ji16 := (i64_w _).trans hji16
           by_cases c17 : 0 ≤ (ji16)
           ·rw [if_pos c17] at H
            have c17b0 : decide (0 ≤ (ji16)) = true := decide_eq_true c17
            clear c17
            replace H := Option.bind_eq_some_iff.mp H
            obtain ⟨t147, A190, H⟩ := H
            replace H : (if t147 = true then (stylusref03_Of.l0 k1 a0 y144 0 (wrap64 ((ji16) + 1))) else (stylusref03_Of.l0 k1 a0 y144 0 ji16)) = some (r1, r2, r3) := H
            have A19 := Aside0.mk A190
            clear A190
            by_cases c20 : t147 = true
            ·subst c20
             have H1 : (stylusref03_Of.l0 k1 a0 y144 0 (wrap64 ((ji16) + 1))) = some (r1, r2, r3) := by rw [if_pos rfl] at H; exact H
             clear H
             have H := H1
             clear H1
             have H' := Aside0.mk H
             clear H
             have p5 : 0 ≤ (x7_1 : Int) := of_decide_eq_true (by first | (with_reducible assumption) | assumption)
             have q5 : x7_1 < (a0.size : Int) := of_decide_eq_true (by first | (with_reducible assumption) | assumption)
             have hx5 := bt_at a0 x7_1
             replace p5 := eq_true p5
             replace q5 := eq_true q5
             have p9 : 0 ≤ (x7_1 : Int) := of_decide_eq_true (by first | (with_reducible assumption) | assumption)
             have q9 : x7_1 < (a0.size : Int) := of_decide_eq_true (by first | (with_reducible assumption) | assumption)
             have hx9 := bt_at a0 x7_1
             replace p9 := eq_true p9
             replace q9 := eq_true q9
             go_wp2_with (first | ((with_reducible refine gate_callee (f := 83) rfl ?_); refine goesL_ (some 35) rfl rfl Try.func83 (by kernel_rfl) rfl #[.string a0, .int .i64 x7_1] rfl (by (try simp only [List.map_toArray, List.map_cons, List.map_nil]); first | done | rfl | (simp only [List.length_drop, List.length_take]; rfl)) ?_; (with_reducible refine (stylusref03_opens.calls k1 a0 x7_1 t142 t143 _ A11.out).mono ?_); rintro e w21 ⟨rfl, hb⟩; refine ⟨_, rfl, ?_⟩; have n0_ := Aside0.mk (Kd.R_below (by (with_reducible repeat (first | apply Kd.R_alloc | apply Kd.R_drewN | apply Kd.R_drew)); exact HO_5.out) hb); have n1_ := Aside0.mk (below_step (by repeat (first | (with_reducible first | exact HB.out | apply below_alloc | apply pw_below_drewN | apply below_drew1) | exact HB.out)) hb); clear HO_5; clear HB; have HO_5 := n0_; have HB := n1_; clear n0_ n1_; (try clear hb); (try clear hb2); (try clear hk); (try clear hi)) | ((with_reducible refine gate_builtin (b := .append) (xs := #[.tmp 41, .tmp 45]) rfl ?_); at_builtin; refine Kd.R_append k47 (w0 := w) w.heap.size rfl (.tmp 41) (.tmp 45) 41 47 (.agg #[(.int .i64 0), (.int .u8 0), (.string ⟨#[]⟩), (.int .i64 0)]) 40 rfl Try.underlying41 info47 rfl (by decide) (by omega) u5 x5_1 (⟨2, t142, (⟨#[]⟩ : ByteArray), x7_1⟩ : S47) [.int .i64 2, .int .u8 t142, .string (⟨#[]⟩ : ByteArray), .int .i64 x7_1] (fun _ => True) (fun _ => False) rfl rfl ?aP (fun _ hk => hk.elim) ?aF ?aO ?aB ?aS ?aL ?_; (case aP => exact k47_mkM _ _ _ (⟨2, t142, (⟨#[]⟩ : ByteArray), x7_1⟩ : S47)); (case aB => exact (by repeat (first | (with_reducible first | exact HB.out | apply below_alloc | apply pw_below_drewN | apply below_drew1) | exact HB.out))); (case aF => exact (fun _ _ => trivial)); (case aO => exact (by (with_reducible repeat (first | apply Kd.R_alloc | apply Kd.R_drewN | apply Kd.R_drew)); exact HO_5.out)); (case aS => exact (below_size (by repeat (first | (with_reducible first | exact HB.out | apply below_alloc | apply pw_below_drewN | apply below_drew1) | exact HB.out)))); (case aL => have := LMc14.out; omega); intro v145 w22 ho hb hg hat; rw [← Ny144.out] at ho; have n0_ := Aside0.mk (hb); have n1_ := Aside0.mk (ho); clear HB; clear HO_5; have HB := n0_; have HO146 := n1_; clear n0_ n1_; clear ho hb hg hat; have p18 : 0 ≤ ((ji16) : Int) := of_decide_eq_true (by first | (with_reducible assumption) | assumption); have q18 : (ji16) < (a0.size : Int) := of_decide_eq_true (by first | (with_reducible assumption) | assumption); have hx18 := bt_at a0 (ji16); replace p18 := eq_true p18; replace q18 := eq_true q18) | (go_at_call 84; (with_reducible refine (stylusref01_White.calls (bt a0 (ji16)) true _ A19.out).mono ?_); rintro e w' ⟨rfl, ⟨nd, rfl⟩⟩))
             go_roundg k1
             case measure => have := HK1.out; omega
             case rel => exact ⟨(y144), (0), (wrap64 ((ji16) + 1)), (by first | rfl | (simp; done) | (simp [*]; done)), (by first | rfl | (simp; done) | (simp only [← hji16] <;> (first | rfl | simp)) | (simp [*]; done)), H', ⟨by have := HK1.out; omega⟩, ⟨by (with_reducible repeat (first | apply Kd.R_alloc | apply Kd.R_drewN | apply Kd.R_drew)); exact HO146.out⟩, ⟨by repeat (first | (with_reducible first | exact HB.out | apply below_alloc | apply pw_below_drewN | apply below_drew1) | exact HB.out)⟩⟩
            ·replace c20 := Bool.eq_false_iff.mpr c20
             subst c20
             have H1 : (stylusref03_Of.l0 k1 a0 y144 0 ji16) = some (r1, r2, r3) := by rw [if_neg (show ¬ (false = true) by decide)] at H; exact H
             clear H
             have H := H1
             clear H1
             have H' := Aside0.mk H
             clear H
             have p5 : 0 ≤ (x7_1 : Int) := of_decide_eq_true (by first | (with_reducible assumption) | assumption)
             have q5 : x7_1 < (a0.size : Int) := of_decide_eq_true (by first | (with_reducible assumption) | assumption)
             have hx5 := bt_at a0 x7_1
             replace p5 := eq_true p5
             replace q5 := eq_true q5
             have p9 : 0 ≤ (x7_1 : Int) := of_decide_eq_true (by first | (with_reducible assumption) | assumption)
             have q9 : x7_1 < (a0.size : Int) := of_decide_eq_true (by first | (with_reducible assumption) | assumption)
             have hx9 := bt_at a0 x7_1
             replace p9 := eq_true p9
             replace q9 := eq_true q9
             go_wp2_with (first | ((with_reducible refine gate_callee (f := 83) rfl ?_); refine goesL_ (some 35) rfl rfl Try.func83 (by kernel_rfl) rfl #[.string a0, .int .i64 x7_1] rfl (by (try simp only [List.map_toArray, List.map_cons, List.map_nil]); first | done | rfl | (simp only [List.length_drop, List.length_take]; rfl)) ?_; (with_reducible refine (stylusref03_opens.calls k1 a0 x7_1 t142 t143 _ A11.out).mono ?_); rintro e w23 ⟨rfl, hb⟩; refine ⟨_, rfl, ?_⟩; have n0_ := Aside0.mk (Kd.R_below (by (with_reducible repeat (first | apply Kd.R_alloc | apply Kd.R_drewN | apply Kd.R_drew)); exact HO_5.out) hb); have n1_ := Aside0.mk (below_step (by repeat (first | (with_reducible first | exact HB.out | apply below_alloc | apply pw_below_drewN | apply below_drew1) | exact HB.out)) hb); clear HO_5; clear HB; have HO_5 := n0_; have HB := n1_; clear n0_ n1_; (try clear hb); (try clear hb2); (try clear hk); (try clear hi)) | ((with_reducible refine gate_builtin (b := .append) (xs := #[.tmp 41, .tmp 45]) rfl ?_); at_builtin; refine Kd.R_append k47 (w0 := w) w.heap.size rfl (.tmp 41) (.tmp 45) 41 47 (.agg #[(.int .i64 0), (.int .u8 0), (.string ⟨#[]⟩), (.int .i64 0)]) 40 rfl Try.underlying41 info47 rfl (by decide) (by omega) u5 x5_1 (⟨2, t142, (⟨#[]⟩ : ByteArray), x7_1⟩ : S47) [.int .i64 2, .int .u8 t142, .string (⟨#[]⟩ : ByteArray), .int .i64 x7_1] (fun _ => True) (fun _ => False) rfl rfl ?aP (fun _ hk => hk.elim) ?aF ?aO ?aB ?aS ?aL ?_; (case aP => exact k47_mkM _ _ _ (⟨2, t142, (⟨#[]⟩ : ByteArray), x7_1⟩ : S47)); (case aB => exact (by repeat (first | (with_reducible first | exact HB.out | apply below_alloc | apply pw_below_drewN | apply below_drew1) | exact HB.out))); (case aF => exact (fun _ _ => trivial)); (case aO => exact (by (with_reducible repeat (first | apply Kd.R_alloc | apply Kd.R_drewN | apply Kd.R_drew)); exact HO_5.out)); (case aS => exact (below_size (by repeat (first | (with_reducible first | exact HB.out | apply below_alloc | apply pw_below_drewN | apply below_drew1) | exact HB.out)))); (case aL => have := LMc14.out; omega); intro v145 w24 ho hb hg hat; rw [← Ny144.out] at ho; have n0_ := Aside0.mk (hb); have n1_ := Aside0.mk (ho); clear HB; clear HO_5; have HB := n0_; have HO146 := n1_; clear n0_ n1_; clear ho hb hg hat; have p18 : 0 ≤ ((ji16) : Int) := of_decide_eq_true (by first | (with_reducible assumption) | assumption); have q18 : (ji16) < (a0.size : Int) := of_decide_eq_true (by first | (with_reducible assumption) | assumption); have hx18 := bt_at a0 (ji16); replace p18 := eq_true p18; replace q18 := eq_true q18) | (go_at_call 84; (with_reducible refine (stylusref01_White.calls (bt a0 (ji16)) false _ A19.out).mono ?_); rintro e w' ⟨rfl, ⟨nd, rfl⟩⟩))
             go_roundg k1
             case measure => have := HK1.out; omega
             case rel => exact ⟨(y144), (0), (ji16), (by first | rfl | (simp; done) | (simp [*]; done)), (by first | rfl | (simp; done) | (simp only [← hji16] <;> (first | rfl | simp)) | (simp [*]; done)), H', ⟨by have := HK1.out; omega⟩, ⟨by (with_reducible repeat (first | apply Kd.R_alloc | apply Kd.R_drewN | apply Kd.R_drew)); exact HO146.out⟩, ⟨by repeat (first | (with_reducible first | exact HB.out | apply below_alloc | apply pw_below_drewN | apply below_drew1) | exact HB.out)⟩⟩
           ·rw [if_neg c17] at H
            exact absurd H (by simp)
          ·rw [if_neg c15] at H
           have c15b0 : decide ((wrap64 ((wrap64 (x7_1 + (t143.size : Int))) + 1)) < (a0.size : Int)) = false := decide_eq_false c15
           clear c15
           have H' := Aside0.mk H
           clear H
           have p5 : 0 ≤ (x7_1 : Int) := of_decide_eq_true (by first | (with_reducible assumption) | assumption)
           have q5 : x7_1 < (a0.size : Int) := of_decide_eq_true (by first | (with_reducible assumption) | assumption)
           have hx5 := bt_at a0 x7_1
           replace p5 := eq_true p5
           replace q5 := eq_true q5
           have p9 : 0 ≤ (x7_1 : Int) := of_decide_eq_true (by first | (with_reducible assumption) | assumption)
           have q9 : x7_1 < (a0.size : Int) := of_decide_eq_true (by first | (with_reducible assumption) | assumption)
           have hx9 := bt_at a0 x7_1
           replace p9 := eq_true p9
           replace q9 := eq_true q9
           go_wp2_with (first | ((with_reducible refine gate_callee (f := 83) rfl ?_); refine goesL_ (some 35) rfl rfl Try.func83 (by kernel_rfl) rfl #[.string a0, .int .i64 x7_1] rfl (by (try simp only [List.map_toArray, List.map_cons, List.map_nil]); first | done | rfl | (simp only [List.length_drop, List.length_take]; rfl)) ?_; (with_reducible refine (stylusref03_opens.calls k1 a0 x7_1 t142 t143 _ A11.out).mono ?_); rintro e w25 ⟨rfl, hb⟩; refine ⟨_, rfl, ?_⟩; have n0_ := Aside0.mk (Kd.R_below (by (with_reducible repeat (first | apply Kd.R_alloc | apply Kd.R_drewN | apply Kd.R_drew)); exact HO_5.out) hb); have n1_ := Aside0.mk (below_step (by repeat (first | (with_reducible first | exact HB.out | apply below_alloc | apply pw_below_drewN | apply below_drew1) | exact HB.out)) hb); clear HO_5; clear HB; have HO_5 := n0_; have HB := n1_; clear n0_ n1_; (try clear hb); (try clear hb2); (try clear hk); (try clear hi)) | ((with_reducible refine gate_builtin (b := .append) (xs := #[.tmp 41, .tmp 45]) rfl ?_); at_builtin; refine Kd.R_append k47 (w0 := w) w.heap.size rfl (.tmp 41) (.tmp 45) 41 47 (.agg #[(.int .i64 0), (.int .u8 0), (.string ⟨#[]⟩), (.int .i64 0)]) 40 rfl Try.underlying41 info47 rfl (by decide) (by omega) u5 x5_1 (⟨2, t142, (⟨#[]⟩ : ByteArray), x7_1⟩ : S47) [.int .i64 2, .int .u8 t142, .string (⟨#[]⟩ : ByteArray), .int .i64 x7_1] (fun _ => True) (fun _ => False) rfl rfl ?aP (fun _ hk => hk.elim) ?aF ?aO ?aB ?aS ?aL ?_; (case aP => exact k47_mkM _ _ _ (⟨2, t142, (⟨#[]⟩ : ByteArray), x7_1⟩ : S47)); (case aB => exact (by repeat (first | (with_reducible first | exact HB.out | apply below_alloc | apply pw_below_drewN | apply below_drew1) | exact HB.out))); (case aF => exact (fun _ _ => trivial)); (case aO => exact (by (with_reducible repeat (first | apply Kd.R_alloc | apply Kd.R_drewN | apply Kd.R_drew)); exact HO_5.out)); (case aS => exact (below_size (by repeat (first | (with_reducible first | exact HB.out | apply below_alloc | apply pw_below_drewN | apply below_drew1) | exact HB.out)))); (case aL => have := LMc14.out; omega); intro v145 w26 ho hb hg hat; rw [← Ny144.out] at ho; have n0_ := Aside0.mk (hb); have n1_ := Aside0.mk (ho); clear HB; clear HO_5; have HB := n0_; have HO146 := n1_; clear n0_ n1_; clear ho hb hg hat))
           go_roundg k1
           case measure => have := HK1.out; omega
           case rel => exact ⟨(y144), (0), (wrap64 ((wrap64 (x7_1 + (t143.size : Int))) + 1)), (by first | rfl | (simp; done) | (simp [*]; done)), (by first | rfl | (simp; done) | (simp [*]; done)), H', ⟨by have := HK1.out; omega⟩, ⟨by (with_reducible repeat (first | apply Kd.R_alloc | apply Kd.R_drewN | apply Kd.R_drew)); exact HO146.out⟩, ⟨by repeat (first | (with_reducible first | exact HB.out | apply below_alloc | apply pw_below_drewN | apply below_drew1) | exact HB.out)⟩⟩
         ·rw [if_neg c14] at H
          exact absurd H (by simp)
       ·rw [if_neg c10] at H
        have c10b0 : ((bt a0 x7_1) == 123) = false := beq_eq_false_iff_ne.mpr c10
        have c10b1 : ((bt a0 x7_1) != 123) = true := bne_iff_ne.mpr c10
        have HC27 := Aside0.mk H
        clear H
        have p5 : 0 ≤ (x7_1 : Int) := of_decide_eq_true (by first | (with_reducible assumption) | assumption)
        have q5 : x7_1 < (a0.size : Int) := of_decide_eq_true (by first | (with_reducible assumption) | assumption)
        have hx5 := bt_at a0 x7_1
        replace p5 := eq_true p5
        replace q5 := eq_true q5
        have p9 : 0 ≤ (x7_1 : Int) := of_decide_eq_true (by first | (with_reducible assumption) | assumption)
        have q9 : x7_1 < (a0.size : Int) := of_decide_eq_true (by first | (with_reducible assumption) | assumption)
        have hx9 := bt_at a0 x7_1
        replace p9 := eq_true p9
        replace q9 := eq_true q9
        go_upto_region 20 with (fail)
        go_cut [76] (fun v76 wc => ∃ (kq : Nat) (x76_26 : Bool), v76 = .bool x76_26 ∧ Aside0 (stylusref03_Of.j1 kq a0 x5_1 x6_1 x7_1 x76_26 = some (r1, r2, r3)) ∧ Aside0 (kq ≤ k1) ∧ Aside0 (Kd.R k47 47 wc w.heap.size (fun _ => True) u5 x5_1) ∧ Aside0 (Below w.heap.size w wc))
        case first =>
         have H := HC27.out
         clear HC27
         replace H := Option.bind_eq_some_iff.mp H
         obtain ⟨t148, A290, H⟩ := H
         replace H : (if t148 = true then (stylusref03_Of.j1 k1 a0 x5_1 x6_1 x7_1 false) else ((stylusref01_White.f (bt a0 x7_1)).bind fun t149 => (stylusref03_Of.j1 k1 a0 x5_1 x6_1 x7_1 (!t149)))) = some (r1, r2, r3) := H
         have A29 := Aside0.mk A290
         clear A290
         by_cases c30 : t148 = true
         ·subst c30
          have H1 : (stylusref03_Of.j1 k1 a0 x5_1 x6_1 x7_1 false) = some (r1, r2, r3) := by rw [if_pos rfl] at H; exact H
          clear H
          have H := H1
          clear H1
          have H' := Aside0.mk H
          clear H
          have p28 : 0 ≤ (x7_1 : Int) := of_decide_eq_true (by first | (with_reducible assumption) | assumption)
          have q28 : x7_1 < (a0.size : Int) := of_decide_eq_true (by first | (with_reducible assumption) | assumption)
          have hx28 := bt_at a0 x7_1
          replace p28 := eq_true p28
          replace q28 := eq_true q28
          go_wp2_with (first | ((with_reducible refine gate_callee (f := 34) rfl ?_); refine goesL_ (some 68) rfl rfl Try.func34 (by kernel_rfl) rfl #[.int .u8 (bt a0 x7_1)] rfl (by (try simp only [List.map_toArray, List.map_cons, List.map_nil]); first | done | rfl | (simp only [List.length_drop, List.length_take]; rfl)) ?_; (with_reducible refine (stylusref01_Is.calls k1 (bt a0 x7_1) true _ A29.out).mono ?_); rintro e w' ⟨rfl, ⟨nd, rfl⟩⟩; refine ⟨_, rfl, ?_⟩))
          go_meet
          case rel => exact ⟨_, (false), (by first | rfl | (simp; done) | (simp [*]; done)), H', ⟨by have := HK1.out; first | omega | exact Nat.le_refl _⟩, ⟨by (with_reducible repeat (first | apply Kd.R_alloc | apply Kd.R_drewN | apply Kd.R_drew)); exact HO_5.out⟩, ⟨by repeat (first | (with_reducible first | exact HB.out | apply below_alloc | apply pw_below_drewN | apply below_drew1) | exact HB.out)⟩⟩
         ·replace c30 := Bool.eq_false_iff.mpr c30
          subst c30
          have H1 : ((stylusref01_White.f (bt a0 x7_1)).bind fun t149 => (stylusref03_Of.j1 k1 a0 x5_1 x6_1 x7_1 (!t149))) = some (r1, r2, r3) := by rw [if_neg (show ¬ (false = true) by decide)] at H; exact H
          clear H
          have H := H1
          clear H1
          replace H := Option.bind_eq_some_iff.mp H
          obtain ⟨t149, A320, H⟩ := H
          replace H : (stylusref03_Of.j1 k1 a0 x5_1 x6_1 x7_1 (!t149)) = some (r1, r2, r3) := H
          have A32 := Aside0.mk A320
          clear A320
          have H' := Aside0.mk H
          clear H
          have p28 : 0 ≤ (x7_1 : Int) := of_decide_eq_true (by first | (with_reducible assumption) | assumption)
          have q28 : x7_1 < (a0.size : Int) := of_decide_eq_true (by first | (with_reducible assumption) | assumption)
          have hx28 := bt_at a0 x7_1
          replace p28 := eq_true p28
          replace q28 := eq_true q28
          go_wp2_with (first | ((with_reducible refine gate_callee (f := 34) rfl ?_); refine goesL_ (some 68) rfl rfl Try.func34 (by kernel_rfl) rfl #[.int .u8 (bt a0 x7_1)] rfl (by (try simp only [List.map_toArray, List.map_cons, List.map_nil]); first | done | rfl | (simp only [List.length_drop, List.length_take]; rfl)) ?_; (with_reducible refine (stylusref01_Is.calls k1 (bt a0 x7_1) false _ A29.out).mono ?_); rintro e w' ⟨rfl, ⟨nd, rfl⟩⟩; refine ⟨_, rfl, ?_⟩; have p31 : 0 ≤ (x7_1 : Int) := of_decide_eq_true (by first | (with_reducible assumption) | assumption); have q31 : x7_1 < (a0.size : Int) := of_decide_eq_true (by first | (with_reducible assumption) | assumption); have hx31 := bt_at a0 x7_1; replace p31 := eq_true p31; replace q31 := eq_true q31) | (go_at_call 84; (with_reducible refine (stylusref01_White.calls (bt a0 x7_1) t149 _ A32.out).mono ?_); rintro e w' ⟨rfl, ⟨nd, rfl⟩⟩))
          go_meet
          case rel => exact ⟨_, (!t149), (by first | rfl | (simp; done) | (simp [*]; done)), H', ⟨by have := HK1.out; first | omega | exact Nat.le_refl _⟩, ⟨by (with_reducible repeat (first | apply Kd.R_alloc | apply Kd.R_drewN | apply Kd.R_drew)); exact HO_5.out⟩, ⟨by repeat (first | (with_reducible first | exact HB.out | apply below_alloc | apply pw_below_drewN | apply below_drew1) | exact HB.out)⟩⟩
        case rest =>
         clear HC27
         try clear c1
         try clear p1
         try clear q1
         try clear hx1
         try clear c2
         try clear c2b0
         try clear c2b1
         try clear p2
         try clear q2
         try clear hx2
         try clear c3
         try clear c3b0
         try clear p3
         try clear q3
         try clear hx3
         try clear c4
         try clear c4b0
         try clear p5
         try clear q5
         try clear hx5
         try clear c6
         try clear c6b0
         try clear c6b1
         try clear p6
         try clear c7
         try clear c8
         try clear p9
         try clear q9
         try clear hx9
         try clear c10
         try clear c10b0
         try clear c10b1
         try clear c12
         try clear c12b0
         try clear c12b1
         try clear c14
         try clear c15
         try clear c15b0
         try clear c17
         try clear c17b0
         try clear p18
         try clear q18
         try clear hx18
         try clear c20
         try clear p28
         try clear q28
         try clear hx28
         try clear c30
         try clear p31
         try clear q31
         try clear hx31
         try clear p18
         try clear p2
         try clear p28
         try clear p31
         try clear p5
         try clear p9
         try clear q18
         try clear q28
         try clear q31
         try clear q5
         try clear q9
         obtain ⟨kq, x76_26, rfl, HA, HJ26, HO_5, HB⟩ := hcut
         cases kq with
         | zero => exact absurd HA.out (by simp [stylusref03_Of.j1])
         | succ kj26 =>
          have H := HA.out
          clear HA
          simp only [stylusref03_Of.j1] at H
          by_cases c33 : x76_26 = true
          ·subst c33
           have H1 : (some (([] : List (S47)), x7_1, 3)) = some (r1, r2, r3) := by rw [if_pos rfl] at H; exact H
           clear H
           have H := H1
           clear H1
           simp only [Option.some.injEq, Prod.mk.injEq] at H
           obtain ⟨rfl, rfl, rfl⟩ := H
           go_wp2
           go_ret3
           exact ⟨_, by first | rfl | (simp [errW_none, errW_some] <;> rfl) | (simp [*, errW_none, errW_some] <;> rfl), by first | exact Kd.R_nil _ _ _ _ _ | exact Kd.N_nil _ _ _ _ _ | exact Kd.V_nil _ _ _ _ _ | exact Kd.Q_nil _ _ _ _ _ | exact Kd.S_nil _ _ _ _ _, by repeat (first | (with_reducible first | exact HB.out | apply below_alloc | apply pw_below_drewN | apply below_drew1) | exact HB.out)⟩
          ·replace c33 := Bool.eq_false_iff.mpr c33
           subst c33
           have H1 : (if x6_1 = 0 then (if x5_1.length < 3518437208883 then ((some (x5_1 ++ [(⟨1, 0, (⟨#[]⟩ : ByteArray), x7_1⟩ : S47)] : List (S47))).bind fun y150 => (if 0 ≤ (wrap64 ((y150.length : Int) - 1)) then (if (wrap64 ((y150.length : Int) - 1)) < (y150.length : Int) then (if 0 ≤ x7_1 then (if x7_1 ≤ (wrap64 (x7_1 + 1)) then (if (wrap64 (x7_1 + 1)) ≤ (a0.size : Int) then (if ((rd_T47 y150 (wrap64 ((y150.length : Int) - 1))).f2).size + (a0.extract (x7_1 : Int).toNat ((wrap64 (x7_1 + 1)) : Int).toNat).size ≤ 9223372036854775807 then (stylusref03_Of.l0 kj26 a0 (y150.set ((wrap64 ((y150.length : Int) - 1)) : Int).toNat (⟨(rd_T47 y150 (wrap64 ((y150.length : Int) - 1))).f0, (rd_T47 y150 (wrap64 ((y150.length : Int) - 1))).f1, ((rd_T47 y150 (wrap64 ((y150.length : Int) - 1))).f2) ++ (a0.extract (x7_1 : Int).toNat ((wrap64 (x7_1 + 1)) : Int).toNat), (rd_T47 y150 (wrap64 ((y150.length : Int) - 1))).f3⟩ : S47)) 1 (wrap64 (x7_1 + 1))) else (none)) else (none)) else (none)) else (none)) else (none)) else (none))) else (none)) else (if 0 ≤ (wrap64 ((x5_1.length : Int) - 1)) then (if (wrap64 ((x5_1.length : Int) - 1)) < (x5_1.length : Int) then (if 0 ≤ x7_1 then (if x7_1 ≤ (wrap64 (x7_1 + 1)) then (if (wrap64 (x7_1 + 1)) ≤ (a0.size : Int) then (if ((rd_T47 x5_1 (wrap64 ((x5_1.length : Int) - 1))).f2).size + (a0.extract (x7_1 : Int).toNat ((wrap64 (x7_1 + 1)) : Int).toNat).size ≤ 9223372036854775807 then (stylusref03_Of.l0 kj26 a0 (x5_1.set ((wrap64 ((x5_1.length : Int) - 1)) : Int).toNat (⟨(rd_T47 x5_1 (wrap64 ((x5_1.length : Int) - 1))).f0, (rd_T47 x5_1 (wrap64 ((x5_1.length : Int) - 1))).f1, ((rd_T47 x5_1 (wrap64 ((x5_1.length : Int) - 1))).f2) ++ (a0.extract (x7_1 : Int).toNat ((wrap64 (x7_1 + 1)) : Int).toNat), (rd_T47 x5_1 (wrap64 ((x5_1.length : Int) - 1))).f3⟩ : S47)) x6_1 (wrap64 (x7_1 + 1))) else (none)) else (none)) else (none)) else (none)) else (none)) else (none))) = some (r1, r2, r3) := by rw [if_neg (show ¬ (false = true) by decide)] at H; exact H
           clear H
           have H := H1
           clear H1
           by_cases c34 : x6_1 = 0
           ·rw [if_pos c34] at H
            have c34b0 : (x6_1 == 0) = true := beq_iff_eq.mpr c34
            have c34b1 : (x6_1 != 0) = false := bne_eq_false_iff_eq.mpr c34
            clear c34
            by_cases c35 : x5_1.length < 3518437208883
            ·rw [if_pos c35] at H
             have LMc35 := Aside0.mk c35
             clear c35
             obtain ⟨y150, hy150⟩ : ∃ y_ : List (S47), y_ = (x5_1 ++ [(⟨1, 0, (⟨#[]⟩ : ByteArray), x7_1⟩ : S47)]) := ⟨_, rfl⟩
             replace H : (if 0 ≤ (wrap64 ((y150.length : Int) - 1)) then (if (wrap64 ((y150.length : Int) - 1)) < (y150.length : Int) then (if 0 ≤ x7_1 then (if x7_1 ≤ (wrap64 (x7_1 + 1)) then (if (wrap64 (x7_1 + 1)) ≤ (a0.size : Int) then (if ((rd_T47 y150 (wrap64 ((y150.length : Int) - 1))).f2).size + (a0.extract (x7_1 : Int).toNat ((wrap64 (x7_1 + 1)) : Int).toNat).size ≤ 9223372036854775807 then (stylusref03_Of.l0 kj26 a0 (y150.set ((wrap64 ((y150.length : Int) - 1)) : Int).toNat (⟨(rd_T47 y150 (wrap64 ((y150.length : Int) - 1))).f0, (rd_T47 y150 (wrap64 ((y150.length : Int) - 1))).f1, ((rd_T47 y150 (wrap64 ((y150.length : Int) - 1))).f2) ++ (a0.extract (x7_1 : Int).toNat ((wrap64 (x7_1 + 1)) : Int).toNat), (rd_T47 y150 (wrap64 ((y150.length : Int) - 1))).f3⟩ : S47)) 1 (wrap64 (x7_1 + 1))) else (none)) else (none)) else (none)) else (none)) else (none)) else (none)) = some (r1, r2, r3) := by first | (rw [hy150]; with_reducible exact H) | (have H2_ := (Option.bind_some _ _).symm.trans H; rw [hy150]; with_reducible exact H2_) | (have H2_ := (Option.bind_some _ _).symm.trans H; with_reducible exact H2_) | with_reducible exact H | (rw [hy150]; exact H) | exact H
             have Ny150 := Aside0.mk hy150
             clear hy150
             obtain ⟨ji36, hji36⟩ : ∃ j_ : Int, (wrap64 ((y150.length : Int) - 1)) = j_ := ⟨_, rfl⟩
             replace H : (if 0 ≤ (ji36) then (if (ji36) < (y150.length : Int) then (if 0 ≤ x7_1 then (if x7_1 ≤ (wrap64 (x7_1 + 1)) then (if (wrap64 (x7_1 + 1)) ≤ (a0.size : Int) then (if ((rd_T47 y150 (ji36)).f2).size + (a0.extract (x7_1 : Int).toNat ((wrap64 (x7_1 + 1)) : Int).toNat).size ≤ 9223372036854775807 then (stylusref03_Of.l0 kj26 a0 (y150.set ((ji36) : Int).toNat (⟨(rd_T47 y150 (ji36)).f0, (rd_T47 y150 (ji36)).f1, ((rd_T47 y150 (ji36)).f2) ++ (a0.extract (x7_1 : Int).toNat ((wrap64 (x7_1 + 1)) : Int).toNat), (rd_T47 y150 (ji36)).f3⟩ : S47)) 1 (wrap64 (x7_1 + 1))) else (none)) else (none)) else (none)) else (none)) else (none)) else (none)) = some (r1, r2, r3) := by first | (rw [hji36] at H; exact H) | (simp only [hji36] at H ⊢; exact H)
             have hji36w : (IntKind.i64.wrap ((y150.length : Int) - 1)) = ji36 := (i64_w _).trans hji36
             by_cases c37 : 0 ≤ (ji36)
             ·rw [if_pos c37] at H
              have c37b0 : decide (0 ≤ (ji36)) = true := decide_eq_true c37
              clear c37
              by_cases c38 : (ji36) < (y150.length : Int)
              ·rw [if_pos c38] at H
               have c38b0 : decide ((ji36) < (y150.length : Int)) = true := decide_eq_true c38
               clear c38
               by_cases c39 : 0 ≤ x7_1
               ·rw [if_pos c39] at H
                have c39b0 := eq_true c39
                have c39b1 : decide (0 ≤ x7_1) = true := decide_eq_true c39
                clear c39
                by_cases c40 : x7_1 ≤ (wrap64 (x7_1 + 1))
                ·rw [if_pos c40] at H
                 have c40b0 := eq_true c40
                 have c40b1 : decide (x7_1 ≤ (wrap64 (x7_1 + 1))) = true := decide_eq_true c40
                 by_cases c41 : (wrap64 (x7_1 + 1)) ≤ (a0.size : Int)
                 ·rw [if_pos c41] at H
                  have c41b0 := eq_true c41
                  have c41b1 : decide ((wrap64 (x7_1 + 1)) ≤ (a0.size : Int)) = true := decide_eq_true c41
                  by_cases c42 : ((rd_T47 y150 (ji36)).f2).size + (a0.extract (x7_1 : Int).toNat ((wrap64 (x7_1 + 1)) : Int).toNat).size ≤ 9223372036854775807
                  ·rw [if_pos c42] at H
                   have c42b0 := eq_true c42
                   have c42b1 : decide (((rd_T47 y150 (ji36)).f2).size + (a0.extract (x7_1 : Int).toNat ((wrap64 (x7_1 + 1)) : Int).toNat).size ≤ 9223372036854775807) = true := decide_eq_true c42
                   try have c42b2 : (9223372036854775807 < ((rd_T47 y150 (ji36)).f2).size + (a0.extract (x7_1 : Int).toNat ((wrap64 (x7_1 + 1)) : Int).toNat).size) = False := eq_false (Nat.not_lt.2 c42)
                   try have c42b3 : (9223372036854775807 < ((rd_T47 y150 (ji36)).f2).size + (((wrap64 (x7_1 + 1)) : Int).toNat - (x7_1 : Int).toNat)) = False := eq_false (by have h_ := c42; rw [ByteArray.size_extract] at h_; have h2_ : ((wrap64 (x7_1 + 1)) : Int).toNat ≤ a0.size := (by omega); omega)
                   obtain ⟨y154, hy154⟩ : ∃ y_ : List (S47), y_ = (y150.set ((ji36) : Int).toNat (⟨(rd_T47 y150 (ji36)).f0, (rd_T47 y150 (ji36)).f1, ((rd_T47 y150 (ji36)).f2) ++ (a0.extract (x7_1 : Int).toNat ((wrap64 (x7_1 + 1)) : Int).toNat), (rd_T47 y150 (ji36)).f3⟩ : S47)) := ⟨_, rfl⟩
                   replace H : (stylusref03_Of.l0 kj26 a0 y154 1 (wrap64 (x7_1 + 1))) = some (r1, r2, r3) := by first | (rw [hy154]; with_reducible exact H) | (have H2_ := (Option.bind_some _ _).symm.trans H; rw [hy154]; with_reducible exact H2_) | (have H2_ := (Option.bind_some _ _).symm.trans H; with_reducible exact H2_) | with_reducible exact H | (rw [hy154]; exact H) | exact H
                   have Ny154 := Aside0.mk hy154
                   clear hy154
                   have H' := Aside0.mk H
                   clear H
                   try go_wp2_with (first | ((with_reducible refine gate_builtin (b := .append) (xs := #[.tmp 80, .tmp 83]) rfl ?_); at_builtin; refine Kd.R_append k47 (w0 := w) w.heap.size rfl (.tmp 80) (.tmp 83) 41 47 (.agg #[(.int .i64 0), (.int .u8 0), (.string ⟨#[]⟩), (.int .i64 0)]) 40 rfl Try.underlying41 info47 rfl (by decide) (by omega) u5 x5_1 (⟨1, 0, (⟨#[]⟩ : ByteArray), x7_1⟩ : S47) [.int .i64 1, .int .u8 0, .string (⟨#[]⟩ : ByteArray), .int .i64 x7_1] (fun _ => True) (fun _ => False) rfl rfl ?aP (fun _ hk => hk.elim) ?aF ?aO ?aB ?aS ?aL ?_; (case aP => exact k47_mkM _ _ _ (⟨1, 0, (⟨#[]⟩ : ByteArray), x7_1⟩ : S47)); (case aB => exact (by repeat (first | (with_reducible first | exact HB.out | apply below_alloc | apply pw_below_drewN | apply below_drew1) | exact HB.out))); (case aF => exact (fun _ _ => trivial)); (case aO => exact (by (with_reducible repeat (first | apply Kd.R_alloc | apply Kd.R_drewN | apply Kd.R_drew)); exact HO_5.out)); (case aS => exact (below_size (by repeat (first | (with_reducible first | exact HB.out | apply below_alloc | apply pw_below_drewN | apply below_drew1) | exact HB.out)))); (case aL => have := LMc35.out; omega); intro v151 w44 ho hb hg hat; rw [← Ny150.out] at ho; have n0_ := Aside0.mk (hb); have n1_ := Aside0.mk (ho); clear HB; clear HO_5; have HB := n0_; have HO152 := n1_; clear n0_ n1_; clear ho hb hg hat))
                   have n0_ := Aside0.mk (Kd.R_drew HO152.out)
                   have n1_ := Aside0.mk (below_drew1 HB.out)
                   clear HO152 HB
                   have HO152 := n0_
                   have HB := n1_
                   clear n0_ n1_
                   obtain ⟨Ao46, co46, eo46⟩ := Kd.R_slice HO152.out
                   (first | subst eo46 | (injection eo46 with f1_ f2_ f3_; have f4_ := f1_.symm; have f5_ := f3_.symm; clear f1_ f2_ f3_; subst f4_; subst f5_))
                   have p153 : 0 ≤ ((ji36) : Int) := of_decide_eq_true (by first | (with_reducible assumption) | assumption)
                   have q153 : (ji36) < (y150.length : Int) := of_decide_eq_true (by first | (with_reducible assumption) | assumption)
                   obtain ⟨ad153, e153, hx153_0, hx153_1, hx153_2, hx153_3⟩ := at_T47 (Kd.R_reads' HO152.out).2.2 (ji36) p153 q153
                   cases e153
                   replace p153 := eq_true p153
                   replace q153 := eq_true q153
                   have p43 : 0 ≤ ((ji36) : Int) := of_decide_eq_true (by first | (with_reducible assumption) | assumption)
                   have q43 : ((ji36) : Int) < ((y150.length : Int) : Int) := of_decide_eq_true (by first | (with_reducible assumption) | assumption)
                   obtain ⟨go43, co43, eo43, gb43, gl43, cl43, HG43⟩ := Kd.R_form HO152.out (by omega)
                   (first | cases eo43 | (injection eo43 with ea_ en_ ec_; (first | subst ea_ | (injection ea_ with ea_; subst ea_)); subst ec_; clear en_))
                   have GB43 := Aside0.mk gb43
                   have GG43 := Aside0.mk HG43
                   clear gb43 gl43 HG43
                   (first | simp only [add_plain] at hx153_0 | skip)
                   (first | simp only [add_plain] at hx153_1 | skip)
                   (first | simp only [add_plain] at hx153_2 | skip)
                   (first | simp only [add_plain] at hx153_3 | skip)
                   obtain ⟨ce43, hcl43, hM43, hcc43, hfr43⟩ := Kd.R_elem HO152.out z47 ((ji36) : Int) p43 q43
                   obtain rfl := k47_openM hM43
                   have hx43_0 : World.cell? _ ⟨go43, ((ji36) : Int).toNat * 4, none⟩ = some (.int .i64 ((rd_T47 y150 (ji36)).f0)) := hcc43 0 _ rfl
                   have hx43_1 : World.cell? _ ⟨go43, ((ji36) : Int).toNat * 4 + 1, none⟩ = some (.int .u8 ((rd_T47 y150 (ji36)).f1)) := hcc43 1 _ rfl
                   have hx43_2 : World.cell? _ ⟨go43, ((ji36) : Int).toNat * 4 + 2, none⟩ = some (.string ((rd_T47 y150 (ji36)).f2)) := hcc43 2 _ rfl
                   have hx43_3 : World.cell? _ ⟨go43, ((ji36) : Int).toNat * 4 + 3, none⟩ = some (.int .i64 ((rd_T47 y150 (ji36)).f3)) := hcc43 3 _ rfl
                   have hf43_0 : World.frozen? _ ⟨go43, ((ji36) : Int).toNat * 4, none⟩ = false := hfr43 0
                   have hf43_1 : World.frozen? _ ⟨go43, ((ji36) : Int).toNat * 4 + 1, none⟩ = false := hfr43 1
                   have hf43_2 : World.frozen? _ ⟨go43, ((ji36) : Int).toNat * 4 + 2, none⟩ = false := hfr43 2
                   have hf43_3 : World.frozen? _ ⟨go43, ((ji36) : Int).toNat * 4 + 3, none⟩ = false := hfr43 3
                   clear hcl43 hcc43 hfr43 hM43
                   replace p43 := eq_true p43
                   replace q43 := eq_true q43
                   obtain ⟨ce47, hcl47, hM47, hcc47, hfr47⟩ := Kd.R_elem HO152.out z47 ((ji36) : Int) (of_decide_eq_true (by first | (with_reducible assumption) | assumption)) (by have h_ : ((ji36) : Int) < ((y150.length : Int) : Int) := of_decide_eq_true (by first | (with_reducible assumption) | assumption); first | exact h_ | (have e_ := (Kd.R_reads' HO152.out).1; omega) | simpa using h_)
                   obtain rfl := k47_openM hM47
                   have HP47 := (Kd.R_seg HO152.out ((ji36) : Int) (of_decide_eq_true (by first | (with_reducible assumption) | assumption)) (by have h_ : ((ji36) : Int) < ((y150.length : Int) : Int) := of_decide_eq_true (by first | (with_reducible assumption) | assumption); first | exact h_ | (have e_ := (Kd.R_reads' HO152.out).1; omega) | simpa using h_) (seg := [.string (((rd_T47 y150 (ji36)).f2) ++ (a0.extract (x7_1 : Int).toNat ((wrap64 (x7_1 + 1)) : Int).toNat))]) (j := 2) hcl47 hcc47 (show 3 ≤ 4 from by decide) (x' := (⟨(rd_T47 y150 (ji36)).f0, (rd_T47 y150 (ji36)).f1, ((rd_T47 y150 (ji36)).f2) ++ (a0.extract (x7_1 : Int).toNat ((wrap64 (x7_1 + 1)) : Int).toNat), (rd_T47 y150 (ji36)).f3⟩ : S47)) (k47_mkM _ _ _ (⟨(rd_T47 y150 (ji36)).f0, (rd_T47 y150 (ji36)).f1, ((rd_T47 y150 (ji36)).f2) ++ (a0.extract (x7_1 : Int).toNat ((wrap64 (x7_1 + 1)) : Int).toNat), (rd_T47 y150 (ji36)).f3⟩ : S47) ) (fun _ hk => hk)).1
                   rw [← Ny154.out] at HP47
                   have HQ47 := Aside0.mk HP47
                   clear hcl47 hcc47 hfr47 hM47 HP47
                   refine start_ (n := 20) (S := fun w' => w'.cell? ⟨go43, ((ji36)).toNat * 4, none⟩ = some (.int .i64 ((rd_T47 y150 (ji36)).f0)) ∧ w'.cell? ⟨go43, ((ji36)).toNat * 4 + 1, none⟩ = some (.int .u8 ((rd_T47 y150 (ji36)).f1)) ∧ w'.cell? ⟨go43, ((ji36)).toNat * 4 + 2, none⟩ = some (.string ((rd_T47 y150 (ji36)).f2)) ∧ w'.cell? ⟨go43, ((ji36)).toNat * 4 + 3, none⟩ = some (.int .i64 ((rd_T47 y150 (ji36)).f3))) (ds := [19]) #[false, false, false, false, false, false, false, false, false, false, false, false, false, false, false, false, false, false, false, false] (by kernel_rfl) rfl rfl ⟨hx153_0, hx153_1, hx153_2, hx153_3⟩ (fun hHeld => ?_); refine with_tabW stylusref03_Of.tab25 stylusref03_Of.bits25 (fun HT_ HW_ => ?_)
                   generalize w44.drew = w45 at HO152 HB GG43 HQ47 hf43_0 hf43_1 hf43_2 hf43_3 hx153_0 hx153_1 hx153_2 hx153_3 hx43_0 hx43_1 hx43_2 hx43_3 hHeld ⊢
                   refine pure_ (i := 0) (N := some 85) (v := ?_) (a' := ?_) #[true, false, false, false, false, false, false, false, false, false, false, false, false, false, false, false, false, false, false, false] rfl rfl (any_of HT_.out (by kernel_rfl)) (fun _ _ _ h => h) (Or.inl ⟨by rfl, ?_⟩) ?_ ?_
                   rotate_left
                   ·intro w'
                    go_simp
                    with_reducible rfl
                   rotate_left
                   ·simp only [Act.put, List.setIfInBounds_toArray, List.set_cons_zero, List.set_cons_succ, i64_w, i32_w]
                    rfl
                   refine pure_ (i := 1) (N := some 86) (v := ?_) (a' := ?_) #[true, true, false, false, false, false, false, false, false, false, false, false, false, false, false, false, false, false, false, false] rfl rfl (any_of HT_.out (by kernel_rfl)) (fun _ _ _ h => h) (Or.inl ⟨by rfl, ?_⟩) ?_ ?_
                   rotate_left
                   ·intro w'
                    go_simp
                    with_reducible rfl
                   rotate_left
                   ·simp only [Act.put, List.setIfInBounds_toArray, List.set_cons_zero, List.set_cons_succ, i64_w, i32_w]
                    rfl
                   refine pure_ (i := 2) (N := some 87) (v := ?_) (a' := ?_) #[true, true, true, false, false, false, false, false, false, false, false, false, false, false, false, false, false, false, false, false] rfl rfl (any_of HT_.out (by kernel_rfl)) (fun _ _ _ h => h) (Or.inl ⟨by rfl, ?_⟩) ?_ ?_
                   rotate_left
                   ·intro w'
                    go_simp
                    with_reducible rfl
                   rotate_left
                   ·simp only [Act.put, List.setIfInBounds_toArray, List.set_cons_zero, List.set_cons_succ, i64_w, i32_w]
                    rfl
                   refine pure_ (i := 3) (N := some 88) (v := ?_) (a' := ?_) #[true, true, true, true, false, false, false, false, false, false, false, false, false, false, false, false, false, false, false, false] rfl rfl (any_of HT_.out (by kernel_rfl)) (fun _ _ _ h => h) (Or.inl ⟨by rfl, ?_⟩) ?_ ?_
                   rotate_left
                   ·intro w'
                    go_simp
                    with_reducible rfl
                   rotate_left
                   ·simp only [Act.put, List.setIfInBounds_toArray, List.set_cons_zero, List.set_cons_succ, i64_w, i32_w]
                    rfl
                   refine pure_ (i := 4) (N := some 89) (v := ?_) (a' := ?_) #[true, true, true, true, true, false, false, false, false, false, false, false, false, false, false, false, false, false, false, false] rfl rfl (any_of HT_.out (by kernel_rfl)) (fun _ _ _ h => h) (Or.inl ⟨by rfl, ?_⟩) ?_ ?_
                   rotate_left
                   ·intro w'
                    go_simp
                    with_reducible rfl
                   rotate_left
                   ·simp only [Act.put, List.setIfInBounds_toArray, List.set_cons_zero, List.set_cons_succ, i64_w, i32_w]
                    rfl
                   refine pure_ (i := 5) (N := some 90) (v := ?_) (a' := ?_) #[true, true, true, true, true, true, false, false, false, false, false, false, false, false, false, false, false, false, false, false] rfl rfl (any_of HT_.out (by kernel_rfl)) (fun _ _ _ h => h) (Or.inl ⟨by rfl, ?_⟩) ?_ ?_
                   rotate_left
                   ·intro w'
                    go_simp
                    with_reducible rfl
                   rotate_left
                   ·simp only [Act.put, List.setIfInBounds_toArray, List.set_cons_zero, List.set_cons_succ, i64_w, i32_w]
                    rfl
                   refine pure_ (i := 6) (N := some 91) (v := ?_) (a' := ?_) #[true, true, true, true, true, true, true, false, false, false, false, false, false, false, false, false, false, false, false, false] rfl rfl (any_of HT_.out (by kernel_rfl)) (fun _ _ _ h => h) (Or.inl ⟨by rfl, ?_⟩) ?_ ?_
                   rotate_left
                   ·intro w'
                    go_simp
                    with_reducible rfl
                   rotate_left
                   ·simp only [Act.put, List.setIfInBounds_toArray, List.set_cons_zero, List.set_cons_succ, i64_w, i32_w]
                    rfl
                   refine pure_ (i := 7) (N := some 92) (v := ?_) (a' := ?_) #[true, true, true, true, true, true, true, true, false, false, false, false, false, false, false, false, false, false, false, false] rfl rfl (any_of HT_.out (by kernel_rfl)) (fun _ _ _ h => h) (Or.inl ⟨by rfl, ?_⟩) ?_ ?_
                   rotate_left
                   ·intro w'
                    go_simp
                    with_reducible rfl
                   rotate_left
                   ·simp only [Act.put, List.setIfInBounds_toArray, List.set_cons_zero, List.set_cons_succ, i64_w, i32_w]
                    rfl
                   refine pure_ (i := 8) (N := some 93) (v := ?_) (a' := ?_) #[true, true, true, true, true, true, true, true, true, false, false, false, false, false, false, false, false, false, false, false] rfl rfl (any_of HT_.out (by kernel_rfl)) (fun _ _ _ h => h) (Or.inl ⟨by rfl, ?_⟩) ?_ ?_
                   rotate_left
                   ·intro w'
                    go_simp
                    with_reducible rfl
                   rotate_left
                   ·simp only [Act.put, List.setIfInBounds_toArray, List.set_cons_zero, List.set_cons_succ, i64_w, i32_w]
                    rfl
                   refine pure_ (i := 9) (N := some 94) (v := ?_) (a' := ?_) #[true, true, true, true, true, true, true, true, true, true, false, false, false, false, false, false, false, false, false, false] rfl rfl (any_of HT_.out (by kernel_rfl)) (fun _ _ _ h => h) (Or.inl ⟨by rfl, ?_⟩) ?_ ?_
                   rotate_left
                   ·intro w'
                    go_simp
                    with_reducible rfl
                   rotate_left
                   ·simp only [Act.put, List.setIfInBounds_toArray, List.set_cons_zero, List.set_cons_succ, i64_w, i32_w]
                    rfl
                   refine pure_ (i := 11) (N := some 96) (v := ?_) (a' := ?_) #[true, true, true, true, true, true, true, true, true, true, false, true, false, false, false, false, false, false, false, false] rfl rfl (any_of HT_.out (by kernel_rfl)) (fun _ _ _ h => h) (Or.inl ⟨by rfl, ?_⟩) ?_ ?_
                   rotate_left
                   ·intro w'
                    go_simp
                    with_reducible rfl
                   rotate_left
                   ·simp only [Act.put, List.setIfInBounds_toArray, List.set_cons_zero, List.set_cons_succ, i64_w, i32_w]
                    rfl
                   refine pure_ (i := 12) (N := some 97) (v := ?_) (a' := ?_) #[true, true, true, true, true, true, true, true, true, true, false, true, true, false, false, false, false, false, false, false] rfl rfl (any_of HT_.out (by kernel_rfl)) (fun _ _ _ h => h) (Or.inl ⟨by rfl, ?_⟩) ?_ ?_
                   rotate_left
                   ·intro w'
                    go_simp
                    with_reducible rfl
                   rotate_left
                   ·simp only [Act.put, List.setIfInBounds_toArray, List.set_cons_zero, List.set_cons_succ, i64_w, i32_w]
                    rfl
                   refine pure_ (i := 13) (N := some 98) (v := ?_) (a' := ?_) #[true, true, true, true, true, true, true, true, true, true, false, true, true, true, false, false, false, false, false, false] rfl rfl (any_of HT_.out (by kernel_rfl)) (fun _ _ _ h => h) (Or.inl ⟨by rfl, ?_⟩) ?_ ?_
                   rotate_left
                   ·intro w'
                    go_simp
                    with_reducible rfl
                   rotate_left
                   ·simp only [Act.put, List.setIfInBounds_toArray, List.set_cons_zero, List.set_cons_succ, i64_w, i32_w]
                    rfl
                   refine pure_ (i := 14) (N := some 99) (v := ?_) (a' := ?_) #[true, true, true, true, true, true, true, true, true, true, false, true, true, true, true, false, false, false, false, false] rfl rfl (any_of HT_.out (by kernel_rfl)) (fun _ _ _ h => h) (Or.inl ⟨by rfl, ?_⟩) ?_ ?_
                   rotate_left
                   ·intro w'
                    go_simp
                    with_reducible rfl
                   rotate_left
                   ·simp only [Act.put, List.setIfInBounds_toArray, List.set_cons_zero, List.set_cons_succ, i64_w, i32_w]
                    rfl
                   refine pure_ (i := 15) (N := some 100) (v := ?_) (a' := ?_) #[true, true, true, true, true, true, true, true, true, true, false, true, true, true, true, true, false, false, false, false] rfl rfl (any_of HT_.out (by kernel_rfl)) (fun _ _ _ h => h) (Or.inl ⟨by rfl, ?_⟩) ?_ ?_
                   rotate_left
                   ·intro w'
                    go_simp
                    with_reducible rfl
                   rotate_left
                   ·simp only [Act.put, List.setIfInBounds_toArray, List.set_cons_zero, List.set_cons_succ, i64_w, i32_w]
                    rfl
                   refine take_ (i := 10) (N := some 95) (v := ?_) (a' := ?_) #[true, true, true, true, true, true, true, true, true, true, true, true, true, true, true, true, false, false, false, false] rfl rfl (take_ofW HT_.out HW_.out (by kernel_rfl)) (fun _ _ _ h => h) (Or.inl ⟨by rfl, ?_⟩) hHeld ?_ ?_
                   rotate_left
                   ·rintro w' ⟨s0, s1, s2, s3⟩
                    go_simp
                    with_reducible rfl
                   rotate_left
                   ·simp only [Act.put, List.setIfInBounds_toArray, List.set_cons_zero, List.set_cons_succ, i64_w, i32_w]
                    rfl
                   refine pure_ (i := 16) (N := some 101) (v := ?_) (a' := ?_) #[true, true, true, true, true, true, true, true, true, true, true, true, true, true, true, true, true, false, false, false] rfl rfl (any_of HT_.out (by kernel_rfl)) (fun _ _ _ h => h) (Or.inl ⟨by rfl, ?_⟩) ?_ ?_
                   rotate_left
                   ·intro w'
                    go_simp
                    with_reducible rfl
                   rotate_left
                   ·simp only [Act.put, List.setIfInBounds_toArray, List.set_cons_zero, List.set_cons_succ, i64_w, i32_w]
                    rfl
                   refine pure_ (i := 17) (N := some 102) (v := ?_) (a' := ?_) #[true, true, true, true, true, true, true, true, true, true, true, true, true, true, true, true, true, true, false, false] rfl rfl (any_of HT_.out (by kernel_rfl)) (fun _ _ _ h => h) (Or.inl ⟨by rfl, ?_⟩) ?_ ?_
                   rotate_left
                   ·intro w'
                    go_simp
                    with_reducible rfl
                   rotate_left
                   ·simp only [Act.put, List.setIfInBounds_toArray, List.set_cons_zero, List.set_cons_succ, i64_w, i32_w]
                    rfl
                   refine pure_ (i := 18) (N := some 103) (v := ?_) (a' := ?_) #[true, true, true, true, true, true, true, true, true, true, true, true, true, true, true, true, true, true, true, false] rfl rfl (any_of HT_.out (by kernel_rfl)) (fun _ _ _ h => h) (Or.inl ⟨by rfl, ?_⟩) ?_ ?_
                   rotate_left
                   ·intro w'
                    go_simp
                    with_reducible rfl
                   rotate_left
                   ·simp only [Act.put, List.setIfInBounds_toArray, List.set_cons_zero, List.set_cons_succ, i64_w, i32_w]
                    rfl
                   refine last_ (i := 19) (N := none) #[true, true, true, true, true, true, true, true, true, true, true, true, true, true, true, true, true, true, true, true] rfl rfl (one_of HT_.out (by kernel_rfl)) (by decide) (fun K hK => ?_)
                   refine skip_ (w1 := ?_) (by rfl) rfl ?_ ?_
                   rotate_left
                   ·go_simp
                    rfl
                   refine hK.out _ _ ?_
                   clear hK K
                   refine done_ (done_of HT_.out (by kernel_rfl)) ?_
                   try go_wp2
                   go_roundg kj26
                   case measure => have := HK1.out; have := HJ26.out; omega
                   case rel => exact ⟨(y154), (1), (wrap64 (x7_1 + 1)), (by first | rfl | (simp; done) | (simp [*]; done)), (by first | rfl | (simp; done) | (simp [*]; done)), H', ⟨by have := HK1.out; have := HJ26.out; omega⟩, ⟨by (with_reducible repeat (first | apply Kd.R_alloc | apply Kd.R_drewN | apply Kd.R_drew)); exact HQ47.out⟩, ⟨by repeat (first | (with_reducible first | exact HB.out | apply below_alloc | apply pw_below_drewN | apply below_drew1 | refine below_set ?_ GB43.out) | exact HB.out)⟩⟩
                  ·rw [if_neg c42] at H
                   exact absurd H (by simp)
                 ·rw [if_neg c41] at H
                  exact absurd H (by simp)
                ·rw [if_neg c40] at H
                 exact absurd H (by simp)
               ·rw [if_neg c39] at H
                exact absurd H (by simp)
              ·rw [if_neg c38] at H
               exact absurd H (by simp)
             ·rw [if_neg c37] at H
              exact absurd H (by simp)
            ·rw [if_neg c35] at H
             exact absurd H (by simp)
           ·rw [if_neg c34] at H
            have c34b0 : (x6_1 == 0) = false := beq_eq_false_iff_ne.mpr c34
            have c34b1 : (x6_1 != 0) = true := bne_iff_ne.mpr c34
            obtain ⟨ji48, hji48⟩ : ∃ j_ : Int, (wrap64 ((x5_1.length : Int) - 1)) = j_ := ⟨_, rfl⟩
            replace H : (if 0 ≤ (ji48) then (if (ji48) < (x5_1.length : Int) then (if 0 ≤ x7_1 then (if x7_1 ≤ (wrap64 (x7_1 + 1)) then (if (wrap64 (x7_1 + 1)) ≤ (a0.size : Int) then (if ((rd_T47 x5_1 (ji48)).f2).size + (a0.extract (x7_1 : Int).toNat ((wrap64 (x7_1 + 1)) : Int).toNat).size ≤ 9223372036854775807 then (stylusref03_Of.l0 kj26 a0 (x5_1.set ((ji48) : Int).toNat (⟨(rd_T47 x5_1 (ji48)).f0, (rd_T47 x5_1 (ji48)).f1, ((rd_T47 x5_1 (ji48)).f2) ++ (a0.extract (x7_1 : Int).toNat ((wrap64 (x7_1 + 1)) : Int).toNat), (rd_T47 x5_1 (ji48)).f3⟩ : S47)) x6_1 (wrap64 (x7_1 + 1))) else (none)) else (none)) else (none)) else (none)) else (none)) else (none)) = some (r1, r2, r3) := by first | (rw [hji48] at H; exact H) | (simp only [hji48] at H ⊢; exact H)
            have hji48w : (IntKind.i64.wrap ((x5_1.length : Int) - 1)) = ji48 := (i64_w _).trans hji48
            by_cases c49 : 0 ≤ (ji48)
            ·rw [if_pos c49] at H
             have c49b0 : decide (0 ≤ (ji48)) = true := decide_eq_true c49
             clear c49
             by_cases c50 : (ji48) < (x5_1.length : Int)
             ·rw [if_pos c50] at H
              have c50b0 : decide ((ji48) < (x5_1.length : Int)) = true := decide_eq_true c50
              clear c50
              by_cases c51 : 0 ≤ x7_1
              ·rw [if_pos c51] at H
               have c51b0 := eq_true c51
               have c51b1 : decide (0 ≤ x7_1) = true := decide_eq_true c51
               clear c51
               by_cases c52 : x7_1 ≤ (wrap64 (x7_1 + 1))
               ·rw [if_pos c52] at H
                have c52b0 := eq_true c52
                have c52b1 : decide (x7_1 ≤ (wrap64 (x7_1 + 1))) = true := decide_eq_true c52
                by_cases c53 : (wrap64 (x7_1 + 1)) ≤ (a0.size : Int)
                ·rw [if_pos c53] at H
                 have c53b0 := eq_true c53
                 have c53b1 : decide ((wrap64 (x7_1 + 1)) ≤ (a0.size : Int)) = true := decide_eq_true c53
                 by_cases c54 : ((rd_T47 x5_1 (ji48)).f2).size + (a0.extract (x7_1 : Int).toNat ((wrap64 (x7_1 + 1)) : Int).toNat).size ≤ 9223372036854775807
                 ·rw [if_pos c54] at H
                  have c54b0 := eq_true c54
                  have c54b1 : decide (((rd_T47 x5_1 (ji48)).f2).size + (a0.extract (x7_1 : Int).toNat ((wrap64 (x7_1 + 1)) : Int).toNat).size ≤ 9223372036854775807) = true := decide_eq_true c54
                  try have c54b2 : (9223372036854775807 < ((rd_T47 x5_1 (ji48)).f2).size + (a0.extract (x7_1 : Int).toNat ((wrap64 (x7_1 + 1)) : Int).toNat).size) = False := eq_false (Nat.not_lt.2 c54)
                  try have c54b3 : (9223372036854775807 < ((rd_T47 x5_1 (ji48)).f2).size + (((wrap64 (x7_1 + 1)) : Int).toNat - (x7_1 : Int).toNat)) = False := eq_false (by have h_ := c54; rw [ByteArray.size_extract] at h_; have h2_ : ((wrap64 (x7_1 + 1)) : Int).toNat ≤ a0.size := (by omega); omega)
                  obtain ⟨y156, hy156⟩ : ∃ y_ : List (S47), y_ = (x5_1.set ((ji48) : Int).toNat (⟨(rd_T47 x5_1 (ji48)).f0, (rd_T47 x5_1 (ji48)).f1, ((rd_T47 x5_1 (ji48)).f2) ++ (a0.extract (x7_1 : Int).toNat ((wrap64 (x7_1 + 1)) : Int).toNat), (rd_T47 x5_1 (ji48)).f3⟩ : S47)) := ⟨_, rfl⟩
                  replace H : (stylusref03_Of.l0 kj26 a0 y156 x6_1 (wrap64 (x7_1 + 1))) = some (r1, r2, r3) := by first | (rw [hy156]; with_reducible exact H) | (have H2_ := (Option.bind_some _ _).symm.trans H; rw [hy156]; with_reducible exact H2_) | (have H2_ := (Option.bind_some _ _).symm.trans H; with_reducible exact H2_) | with_reducible exact H | (rw [hy156]; exact H) | exact H
                  have Ny156 := Aside0.mk hy156
                  clear hy156
                  have H' := Aside0.mk H
                  clear H
                  try go_wp2
                  have n0_ := Aside0.mk (Kd.R_drew HO_5.out)
                  have n1_ := Aside0.mk (below_drew1 HB.out)
                  clear HO_5 HB
                  have HO_5 := n0_
                  have HB := n1_
                  clear n0_ n1_
                  obtain ⟨Ao57, co57, eo57⟩ := Kd.R_slice HO_5.out
                  (first | subst eo57 | (injection eo57 with f1_ f2_ f3_; have f4_ := f1_.symm; have f5_ := f3_.symm; clear f1_ f2_ f3_; subst f4_; subst f5_))
                  have p155 : 0 ≤ ((ji48) : Int) := of_decide_eq_true (by first | (with_reducible assumption) | assumption)
                  have q155 : (ji48) < (x5_1.length : Int) := of_decide_eq_true (by first | (with_reducible assumption) | assumption)
                  obtain ⟨ad155, e155, hx155_0, hx155_1, hx155_2, hx155_3⟩ := at_T47 (Kd.R_reads' HO_5.out).2.2 (ji48) p155 q155
                  cases e155
                  replace p155 := eq_true p155
                  replace q155 := eq_true q155
                  have p55 : 0 ≤ ((ji48) : Int) := of_decide_eq_true (by first | (with_reducible assumption) | assumption)
                  have q55 : ((ji48) : Int) < ((x5_1.length : Int) : Int) := of_decide_eq_true (by first | (with_reducible assumption) | assumption)
                  obtain ⟨go55, co55, eo55, gb55, gl55, cl55, HG55⟩ := Kd.R_form HO_5.out (by omega)
                  (first | cases eo55 | (injection eo55 with ea_ en_ ec_; (first | subst ea_ | (injection ea_ with ea_; subst ea_)); subst ec_; clear en_))
                  have GB55 := Aside0.mk gb55
                  have GG55 := Aside0.mk HG55
                  clear gb55 gl55 HG55
                  (first | simp only [add_plain] at hx155_0 | skip)
                  (first | simp only [add_plain] at hx155_1 | skip)
                  (first | simp only [add_plain] at hx155_2 | skip)
                  (first | simp only [add_plain] at hx155_3 | skip)
                  obtain ⟨ce55, hcl55, hM55, hcc55, hfr55⟩ := Kd.R_elem HO_5.out z47 ((ji48) : Int) p55 q55
                  obtain rfl := k47_openM hM55
                  have hx55_0 : World.cell? _ ⟨go55, ((ji48) : Int).toNat * 4, none⟩ = some (.int .i64 ((rd_T47 x5_1 (ji48)).f0)) := hcc55 0 _ rfl
                  have hx55_1 : World.cell? _ ⟨go55, ((ji48) : Int).toNat * 4 + 1, none⟩ = some (.int .u8 ((rd_T47 x5_1 (ji48)).f1)) := hcc55 1 _ rfl
                  have hx55_2 : World.cell? _ ⟨go55, ((ji48) : Int).toNat * 4 + 2, none⟩ = some (.string ((rd_T47 x5_1 (ji48)).f2)) := hcc55 2 _ rfl
                  have hx55_3 : World.cell? _ ⟨go55, ((ji48) : Int).toNat * 4 + 3, none⟩ = some (.int .i64 ((rd_T47 x5_1 (ji48)).f3)) := hcc55 3 _ rfl
                  have hf55_0 : World.frozen? _ ⟨go55, ((ji48) : Int).toNat * 4, none⟩ = false := hfr55 0
                  have hf55_1 : World.frozen? _ ⟨go55, ((ji48) : Int).toNat * 4 + 1, none⟩ = false := hfr55 1
                  have hf55_2 : World.frozen? _ ⟨go55, ((ji48) : Int).toNat * 4 + 2, none⟩ = false := hfr55 2
                  have hf55_3 : World.frozen? _ ⟨go55, ((ji48) : Int).toNat * 4 + 3, none⟩ = false := hfr55 3
                  clear hcl55 hcc55 hfr55 hM55
                  replace p55 := eq_true p55
                  replace q55 := eq_true q55
                  obtain ⟨ce58, hcl58, hM58, hcc58, hfr58⟩ := Kd.R_elem HO_5.out z47 ((ji48) : Int) (of_decide_eq_true (by first | (with_reducible assumption) | assumption)) (by have h_ : ((ji48) : Int) < ((x5_1.length : Int) : Int) := of_decide_eq_true (by first | (with_reducible assumption) | assumption); first | exact h_ | (have e_ := (Kd.R_reads' HO_5.out).1; omega) | simpa using h_)
                  obtain rfl := k47_openM hM58
                  have HP58 := (Kd.R_seg HO_5.out ((ji48) : Int) (of_decide_eq_true (by first | (with_reducible assumption) | assumption)) (by have h_ : ((ji48) : Int) < ((x5_1.length : Int) : Int) := of_decide_eq_true (by first | (with_reducible assumption) | assumption); first | exact h_ | (have e_ := (Kd.R_reads' HO_5.out).1; omega) | simpa using h_) (seg := [.string (((rd_T47 x5_1 (ji48)).f2) ++ (a0.extract (x7_1 : Int).toNat ((wrap64 (x7_1 + 1)) : Int).toNat))]) (j := 2) hcl58 hcc58 (show 3 ≤ 4 from by decide) (x' := (⟨(rd_T47 x5_1 (ji48)).f0, (rd_T47 x5_1 (ji48)).f1, ((rd_T47 x5_1 (ji48)).f2) ++ (a0.extract (x7_1 : Int).toNat ((wrap64 (x7_1 + 1)) : Int).toNat), (rd_T47 x5_1 (ji48)).f3⟩ : S47)) (k47_mkM _ _ _ (⟨(rd_T47 x5_1 (ji48)).f0, (rd_T47 x5_1 (ji48)).f1, ((rd_T47 x5_1 (ji48)).f2) ++ (a0.extract (x7_1 : Int).toNat ((wrap64 (x7_1 + 1)) : Int).toNat), (rd_T47 x5_1 (ji48)).f3⟩ : S47) ) (fun _ hk => hk)).1
                  rw [← Ny156.out] at HP58
                  have HQ58 := Aside0.mk HP58
                  clear hcl58 hcc58 hfr58 hM58 HP58
                  refine start_ (n := 20) (S := fun w' => w'.cell? ⟨go55, ((ji48)).toNat * 4, none⟩ = some (.int .i64 ((rd_T47 x5_1 (ji48)).f0)) ∧ w'.cell? ⟨go55, ((ji48)).toNat * 4 + 1, none⟩ = some (.int .u8 ((rd_T47 x5_1 (ji48)).f1)) ∧ w'.cell? ⟨go55, ((ji48)).toNat * 4 + 2, none⟩ = some (.string ((rd_T47 x5_1 (ji48)).f2)) ∧ w'.cell? ⟨go55, ((ji48)).toNat * 4 + 3, none⟩ = some (.int .i64 ((rd_T47 x5_1 (ji48)).f3))) (ds := [19]) #[false, false, false, false, false, false, false, false, false, false, false, false, false, false, false, false, false, false, false, false] (by kernel_rfl) rfl rfl ⟨hx155_0, hx155_1, hx155_2, hx155_3⟩ (fun hHeld => ?_); refine with_tabW stylusref03_Of.tab25 stylusref03_Of.bits25 (fun HT_ HW_ => ?_)
                  generalize wc.drew = w56 at HO_5 HB GG55 HQ58 hf55_0 hf55_1 hf55_2 hf55_3 hx155_0 hx155_1 hx155_2 hx155_3 hx55_0 hx55_1 hx55_2 hx55_3 hHeld ⊢
                  refine pure_ (i := 0) (N := some 85) (v := ?_) (a' := ?_) #[true, false, false, false, false, false, false, false, false, false, false, false, false, false, false, false, false, false, false, false] rfl rfl (any_of HT_.out (by kernel_rfl)) (fun _ _ _ h => h) (Or.inl ⟨by rfl, ?_⟩) ?_ ?_
                  rotate_left
                  ·intro w'
                   go_simp
                   with_reducible rfl
                  rotate_left
                  ·simp only [Act.put, List.setIfInBounds_toArray, List.set_cons_zero, List.set_cons_succ, i64_w, i32_w]
                   rfl
                  refine pure_ (i := 1) (N := some 86) (v := ?_) (a' := ?_) #[true, true, false, false, false, false, false, false, false, false, false, false, false, false, false, false, false, false, false, false] rfl rfl (any_of HT_.out (by kernel_rfl)) (fun _ _ _ h => h) (Or.inl ⟨by rfl, ?_⟩) ?_ ?_
                  rotate_left
                  ·intro w'
                   go_simp
                   with_reducible rfl
                  rotate_left
                  ·simp only [Act.put, List.setIfInBounds_toArray, List.set_cons_zero, List.set_cons_succ, i64_w, i32_w]
                   rfl
                  refine pure_ (i := 2) (N := some 87) (v := ?_) (a' := ?_) #[true, true, true, false, false, false, false, false, false, false, false, false, false, false, false, false, false, false, false, false] rfl rfl (any_of HT_.out (by kernel_rfl)) (fun _ _ _ h => h) (Or.inl ⟨by rfl, ?_⟩) ?_ ?_
                  rotate_left
                  ·intro w'
                   go_simp
                   with_reducible rfl
                  rotate_left
                  ·simp only [Act.put, List.setIfInBounds_toArray, List.set_cons_zero, List.set_cons_succ, i64_w, i32_w]
                   rfl
                  refine pure_ (i := 3) (N := some 88) (v := ?_) (a' := ?_) #[true, true, true, true, false, false, false, false, false, false, false, false, false, false, false, false, false, false, false, false] rfl rfl (any_of HT_.out (by kernel_rfl)) (fun _ _ _ h => h) (Or.inl ⟨by rfl, ?_⟩) ?_ ?_
                  rotate_left
                  ·intro w'
                   go_simp
                   with_reducible rfl
                  rotate_left
                  ·simp only [Act.put, List.setIfInBounds_toArray, List.set_cons_zero, List.set_cons_succ, i64_w, i32_w]
                   rfl
                  refine pure_ (i := 4) (N := some 89) (v := ?_) (a' := ?_) #[true, true, true, true, true, false, false, false, false, false, false, false, false, false, false, false, false, false, false, false] rfl rfl (any_of HT_.out (by kernel_rfl)) (fun _ _ _ h => h) (Or.inl ⟨by rfl, ?_⟩) ?_ ?_
                  rotate_left
                  ·intro w'
                   go_simp
                   with_reducible rfl
                  rotate_left
                  ·simp only [Act.put, List.setIfInBounds_toArray, List.set_cons_zero, List.set_cons_succ, i64_w, i32_w]
                   rfl
                  refine pure_ (i := 5) (N := some 90) (v := ?_) (a' := ?_) #[true, true, true, true, true, true, false, false, false, false, false, false, false, false, false, false, false, false, false, false] rfl rfl (any_of HT_.out (by kernel_rfl)) (fun _ _ _ h => h) (Or.inl ⟨by rfl, ?_⟩) ?_ ?_
                  rotate_left
                  ·intro w'
                   go_simp
                   with_reducible rfl
                  rotate_left
                  ·simp only [Act.put, List.setIfInBounds_toArray, List.set_cons_zero, List.set_cons_succ, i64_w, i32_w]
                   rfl
                  refine pure_ (i := 6) (N := some 91) (v := ?_) (a' := ?_) #[true, true, true, true, true, true, true, false, false, false, false, false, false, false, false, false, false, false, false, false] rfl rfl (any_of HT_.out (by kernel_rfl)) (fun _ _ _ h => h) (Or.inl ⟨by rfl, ?_⟩) ?_ ?_
                  rotate_left
                  ·intro w'
                   go_simp
                   with_reducible rfl
                  rotate_left
                  ·simp only [Act.put, List.setIfInBounds_toArray, List.set_cons_zero, List.set_cons_succ, i64_w, i32_w]
                   rfl
                  refine pure_ (i := 7) (N := some 92) (v := ?_) (a' := ?_) #[true, true, true, true, true, true, true, true, false, false, false, false, false, false, false, false, false, false, false, false] rfl rfl (any_of HT_.out (by kernel_rfl)) (fun _ _ _ h => h) (Or.inl ⟨by rfl, ?_⟩) ?_ ?_
                  rotate_left
                  ·intro w'
                   go_simp
                   with_reducible rfl
                  rotate_left
                  ·simp only [Act.put, List.setIfInBounds_toArray, List.set_cons_zero, List.set_cons_succ, i64_w, i32_w]
                   rfl
                  refine pure_ (i := 8) (N := some 93) (v := ?_) (a' := ?_) #[true, true, true, true, true, true, true, true, true, false, false, false, false, false, false, false, false, false, false, false] rfl rfl (any_of HT_.out (by kernel_rfl)) (fun _ _ _ h => h) (Or.inl ⟨by rfl, ?_⟩) ?_ ?_
                  rotate_left
                  ·intro w'
                   go_simp
                   with_reducible rfl
                  rotate_left
                  ·simp only [Act.put, List.setIfInBounds_toArray, List.set_cons_zero, List.set_cons_succ, i64_w, i32_w]
                   rfl
                  refine pure_ (i := 9) (N := some 94) (v := ?_) (a' := ?_) #[true, true, true, true, true, true, true, true, true, true, false, false, false, false, false, false, false, false, false, false] rfl rfl (any_of HT_.out (by kernel_rfl)) (fun _ _ _ h => h) (Or.inl ⟨by rfl, ?_⟩) ?_ ?_
                  rotate_left
                  ·intro w'
                   go_simp
                   with_reducible rfl
                  rotate_left
                  ·simp only [Act.put, List.setIfInBounds_toArray, List.set_cons_zero, List.set_cons_succ, i64_w, i32_w]
                   rfl
                  refine pure_ (i := 11) (N := some 96) (v := ?_) (a' := ?_) #[true, true, true, true, true, true, true, true, true, true, false, true, false, false, false, false, false, false, false, false] rfl rfl (any_of HT_.out (by kernel_rfl)) (fun _ _ _ h => h) (Or.inl ⟨by rfl, ?_⟩) ?_ ?_
                  rotate_left
                  ·intro w'
                   go_simp
                   with_reducible rfl
                  rotate_left
                  ·simp only [Act.put, List.setIfInBounds_toArray, List.set_cons_zero, List.set_cons_succ, i64_w, i32_w]
                   rfl
                  refine pure_ (i := 12) (N := some 97) (v := ?_) (a' := ?_) #[true, true, true, true, true, true, true, true, true, true, false, true, true, false, false, false, false, false, false, false] rfl rfl (any_of HT_.out (by kernel_rfl)) (fun _ _ _ h => h) (Or.inl ⟨by rfl, ?_⟩) ?_ ?_
                  rotate_left
                  ·intro w'
                   go_simp
                   with_reducible rfl
                  rotate_left
                  ·simp only [Act.put, List.setIfInBounds_toArray, List.set_cons_zero, List.set_cons_succ, i64_w, i32_w]
                   rfl
                  refine pure_ (i := 13) (N := some 98) (v := ?_) (a' := ?_) #[true, true, true, true, true, true, true, true, true, true, false, true, true, true, false, false, false, false, false, false] rfl rfl (any_of HT_.out (by kernel_rfl)) (fun _ _ _ h => h) (Or.inl ⟨by rfl, ?_⟩) ?_ ?_
                  rotate_left
                  ·intro w'
                   go_simp
                   with_reducible rfl
                  rotate_left
                  ·simp only [Act.put, List.setIfInBounds_toArray, List.set_cons_zero, List.set_cons_succ, i64_w, i32_w]
                   rfl
                  refine pure_ (i := 14) (N := some 99) (v := ?_) (a' := ?_) #[true, true, true, true, true, true, true, true, true, true, false, true, true, true, true, false, false, false, false, false] rfl rfl (any_of HT_.out (by kernel_rfl)) (fun _ _ _ h => h) (Or.inl ⟨by rfl, ?_⟩) ?_ ?_
                  rotate_left
                  ·intro w'
                   go_simp
                   with_reducible rfl
                  rotate_left
                  ·simp only [Act.put, List.setIfInBounds_toArray, List.set_cons_zero, List.set_cons_succ, i64_w, i32_w]
                   rfl
                  refine pure_ (i := 15) (N := some 100) (v := ?_) (a' := ?_) #[true, true, true, true, true, true, true, true, true, true, false, true, true, true, true, true, false, false, false, false] rfl rfl (any_of HT_.out (by kernel_rfl)) (fun _ _ _ h => h) (Or.inl ⟨by rfl, ?_⟩) ?_ ?_
                  rotate_left
                  ·intro w'
                   go_simp
                   with_reducible rfl
                  rotate_left
                  ·simp only [Act.put, List.setIfInBounds_toArray, List.set_cons_zero, List.set_cons_succ, i64_w, i32_w]
                   rfl
                  refine take_ (i := 10) (N := some 95) (v := ?_) (a' := ?_) #[true, true, true, true, true, true, true, true, true, true, true, true, true, true, true, true, false, false, false, false] rfl rfl (take_ofW HT_.out HW_.out (by kernel_rfl)) (fun _ _ _ h => h) (Or.inl ⟨by rfl, ?_⟩) hHeld ?_ ?_
                  rotate_left
                  ·rintro w' ⟨s0, s1, s2, s3⟩
                   go_simp
                   with_reducible rfl
                  rotate_left
                  ·simp only [Act.put, List.setIfInBounds_toArray, List.set_cons_zero, List.set_cons_succ, i64_w, i32_w]
                   rfl
                  refine pure_ (i := 16) (N := some 101) (v := ?_) (a' := ?_) #[true, true, true, true, true, true, true, true, true, true, true, true, true, true, true, true, true, false, false, false] rfl rfl (any_of HT_.out (by kernel_rfl)) (fun _ _ _ h => h) (Or.inl ⟨by rfl, ?_⟩) ?_ ?_
                  rotate_left
                  ·intro w'
                   go_simp
                   with_reducible rfl
                  rotate_left
                  ·simp only [Act.put, List.setIfInBounds_toArray, List.set_cons_zero, List.set_cons_succ, i64_w, i32_w]
                   rfl
                  refine pure_ (i := 17) (N := some 102) (v := ?_) (a' := ?_) #[true, true, true, true, true, true, true, true, true, true, true, true, true, true, true, true, true, true, false, false] rfl rfl (any_of HT_.out (by kernel_rfl)) (fun _ _ _ h => h) (Or.inl ⟨by rfl, ?_⟩) ?_ ?_
                  rotate_left
                  ·intro w'
                   go_simp
                   with_reducible rfl
                  rotate_left
                  ·simp only [Act.put, List.setIfInBounds_toArray, List.set_cons_zero, List.set_cons_succ, i64_w, i32_w]
                   rfl
                  refine pure_ (i := 18) (N := some 103) (v := ?_) (a' := ?_) #[true, true, true, true, true, true, true, true, true, true, true, true, true, true, true, true, true, true, true, false] rfl rfl (any_of HT_.out (by kernel_rfl)) (fun _ _ _ h => h) (Or.inl ⟨by rfl, ?_⟩) ?_ ?_
                  rotate_left
                  ·intro w'
                   go_simp
                   with_reducible rfl
                  rotate_left
                  ·simp only [Act.put, List.setIfInBounds_toArray, List.set_cons_zero, List.set_cons_succ, i64_w, i32_w]
                   rfl
                  refine last_ (i := 19) (N := none) #[true, true, true, true, true, true, true, true, true, true, true, true, true, true, true, true, true, true, true, true] rfl rfl (one_of HT_.out (by kernel_rfl)) (by decide) (fun K hK => ?_)
                  refine skip_ (w1 := ?_) (by rfl) rfl ?_ ?_
                  rotate_left
                  ·go_simp
                   rfl
                  refine hK.out _ _ ?_
                  clear hK K
                  refine done_ (done_of HT_.out (by kernel_rfl)) ?_
                  try go_wp2
                  go_roundg kj26
                  case measure => have := HK1.out; have := HJ26.out; omega
                  case rel => exact ⟨(y156), (x6_1), (wrap64 (x7_1 + 1)), (by first | rfl | (simp; done) | (simp [*]; done)), (by first | rfl | (simp; done) | (simp [*]; done)), H', ⟨by have := HK1.out; have := HJ26.out; omega⟩, ⟨by (with_reducible repeat (first | apply Kd.R_alloc | apply Kd.R_drewN | apply Kd.R_drew)); exact HQ58.out⟩, ⟨by repeat (first | (with_reducible first | exact HB.out | apply below_alloc | apply pw_below_drewN | apply below_drew1 | refine below_set ?_ GB55.out) | exact HB.out)⟩⟩
                 ·rw [if_neg c54] at H
                  exact absurd H (by simp)
                ·rw [if_neg c53] at H
                 exact absurd H (by simp)
               ·rw [if_neg c52] at H
                exact absurd H (by simp)
              ·rw [if_neg c51] at H
               exact absurd H (by simp)
             ·rw [if_neg c50] at H
              exact absurd H (by simp)
            ·rw [if_neg c49] at H
             exact absurd H (by simp)
     ·rw [if_neg c4] at H
      exact absurd H (by simp)
    ·rw [if_neg c3] at H
     have c3b0 : decide (x7_1 < (a0.size : Int)) = false := decide_eq_false c3
     clear c3
     simp only [Option.some.injEq, Prod.mk.injEq] at H
     obtain ⟨rfl, rfl, rfl⟩ := H
     go_wp2
     go_ret3
     exact ⟨_, by first | rfl | (simp [errW_none, errW_some] <;> rfl) | (simp [*, errW_none, errW_some] <;> rfl), by (with_reducible repeat (first | apply Kd.R_alloc | apply Kd.R_drewN | apply Kd.R_drew)); exact HO_5.out, by repeat (first | (with_reducible first | exact HB.out | apply below_alloc | apply pw_below_drewN | apply below_drew1) | exact HB.out)⟩
end Go.Proofs.Ythcmfjpheanphaa.Pr
namespace Go.Proofs.Ythcmfjpheanphaa.Pr
open Go.RowKit Go.Proofs.YthcmfjpheanphaaW.PrintWords
structure Opn where
 kind : Int
 pos : Int
 kids : Int
 note : Int
 past : Bool
 cols : Int
 text : Int
def zOpn : Opn := ⟨0, 0, 0, 0, false, 0, 0⟩
structure Bld where
 row : List Opn
 t : List S56
def topP (r : List Opn) : Opn := r.getLast?.getD zOpn
def hasP (k : Int) (r : List Opn) : Nat := (r.filter (·.kind == k)).length
def aroundP (ks : List Int) (r : List Opn) : Nat → Option Nat
 | 0 => none
 | n + 1 => if ks.contains (r.getD n zOpn).kind then some n else aroundP ks r n
def flowK : List Int := [49, 50, 51, 112, 105]
def okP (a b : Int) : Bool :=
 (a == 0 && [49, 50, 51, 112, 108, 116, 107].contains b) || ([49, 50, 51, 112, 99, 110, 101, 115, 105].contains a && [46, 101, 115, 110].contains b)
  || (a == 105 && b == 108) || (a == 108 && b == 105) || (a == 116 && b == 114) || (a == 114 && b == 99)
def mayP (r : List Opn) (k : Int) : Bool :=
 if !okP (topP r).kind k || ((topP r).kind == 105 && (topP r).past && k != 108) then false
 else if k == 101 || k == 115 then hasP k r == 0
 else if k == 99 then decide ((topP r).kids < 8)
 else if k == 110 then hasP 110 r == 0 && hasP 99 r == 0 && (match aroundP flowK r r.length with | some j => (r.getD j zOpn).note == 0 | none => false)
 else true
def kidF (o : Opn) : Opn := { o with kids := wrap64 (o.kids + 1) }
def noteF (o : Opn) : Opn := { o with note := wrap64 (o.note + 1) }
def pastF (o : Opn) : Opn := { o with past := true }
def textF (n : Int) (o : Opn) : Opn := { o with text := wrap64 (o.text + n) }
def colsF (n : Int) (o : Opn) : Opn := { o with cols := n }
def sizeF (n : Int) (y : S56) : S56 := { y with f3 := n }
def kidP (r : List Opn) : List Opn := r.modify (r.length - 1) kidF
def addP (s : Bld) (x : S56) : Bld × Int := (⟨kidP s.row, s.t ++ [x]⟩, if 2000 < s.t.length + 1 then 4 else 0)
def markP (r : List Opn) (k : Int) : List Opn :=
 if k = 110 then (match aroundP flowK r r.length with | some j => r.modify j noteF | none => r)
 else if k = 108 then r.modify (r.length - 1) pastF else r
def opensP (s : Bld) (x : S47) : Bld × Int × Int :=
 if mayP s.row x.f1 then
  (⟨kidP (markP s.row x.f1) ++ [⟨x.f1, s.t.length, 0, 0, false, 0, 0⟩], s.t ++ [⟨x.f1, ⟨#[]⟩, x.f3, 1⟩]⟩, x.f3,
   if 32 < s.row.length + 1 ∨ 8 < hasP 108 (kidP (markP s.row x.f1) ++ [⟨x.f1, s.t.length, 0, 0, false, 0, 0⟩]) then 5 else if 2000 < s.t.length + 1 then 4 else 0)
 else (s, x.f3, 2)
def whiteT (c : Int) : Bool := c == 32 || c == 10
def blackP (b : ByteArray) : Nat → Nat → Nat
 | 0, k => k
 | d + 1, k => if k < b.size then (if whiteT (bt b k) then blackP b d (k + 1) else k) else k
def textsP (s : Bld) (x : S47) : Bld × Int × Int :=
 if mayP s.row 46 then
  match aroundP [110] (kidP s.row) (kidP s.row).length with
  | some j => (⟨(kidP s.row).modify j (textF x.f2.size), s.t ++ [⟨46, x.f2, x.f3, 1⟩]⟩, x.f3,
    if 60 < wrap64 (((kidP s.row).getD j zOpn).text + x.f2.size) ∨ 2000 < s.t.length + 1 then 4 else 0)
  | none => (⟨kidP s.row, s.t ++ [⟨46, x.f2, x.f3, 1⟩]⟩, x.f3, if 2000 < s.t.length + 1 then 4 else 0)
 else if blackP x.f2 x.f2.size 0 < x.f2.size then (s, wrap64 (x.f3 + blackP x.f2 x.f2.size 0), 2) else (s, x.f3, 0)
def wholeP (r : List Opn) (o : Opn) : List Opn × Bool :=
 if o.kind = 108 ∨ o.kind = 116 then (r, decide (0 < o.kids))
 else if o.kind = 114 then
  match aroundP [116] r r.length with
  | some j => if (r.getD j zOpn).cols = 0 then (r.modify j (colsF o.kids), decide (0 < o.kids)) else (r, decide (0 < o.kids) && o.kids == (r.getD j zOpn).cols)
  | none => (r, false)
 else (r, true)
def shutsP (s : Bld) (x : S47) : Bld × Int × Int :=
 if s.row = [] then (s, x.f3, 2)
 else (⟨(wholeP s.row.dropLast (topP s.row)).1, s.t.modify (topP s.row).pos.toNat (sizeF (s.t.length - (topP s.row).pos))⟩, x.f3, if (wholeP s.row.dropLast (topP s.row)).2 then 0 else 2)
def stepP (s : Bld) (x : S47) : Bld × Int × Int := if x.f0 = 1 then textsP s x else if x.f0 = 2 then opensP s x else shutsP s x
def runP : Bld → List S47 → Bld × Int × Int
 | s, [] => (s, 0, 0)
 | s, x :: l => if (stepP s x).2.2 = 0 then runP (stepP s x).1 l else stepP s x
def bld0 : Bld := ⟨[], []⟩
theorem aroundP_lt (ks : List Int) (r : List Opn) : ∀ (n j : Nat), aroundP ks r n = some j → j < n
 | 0, j, h => by simp [aroundP] at h
 | n + 1, j, h => by
  simp only [aroundP] at h
  split at h
  ·simp only [Option.some.injEq] at h; omega
  ·have := aroundP_lt ks r n j h; omega
theorem kidP_length (r : List Opn) : (kidP r).length = r.length := by simp [kidP]
theorem markP_length (r : List Opn) (k : Int) : (markP r k).length = r.length := by
 unfold markP
 split
 ·split <;> simp
 ·split <;> simp
def PosIn (s : Bld) : Prop := ∀ o ∈ s.row, 0 ≤ o.pos ∧ o.pos < (s.t.length : Int)
theorem mem_modify {α : Type} {l : List α} {f : α → α} {j : Nat} {x : α} (h : x ∈ l.modify j f) : ∃ y ∈ l, x = y ∨ x = f y := by
 rw [List.mem_iff_getElem?] at h
 obtain ⟨i, hi⟩ := h
 rw [List.getElem?_modify] at hi
 cases hl : l[i]? with
 | none => rw [hl] at hi; simp at hi
 | some y =>
  rw [hl] at hi
  simp only [Option.map_eq_map, Option.map_some, Option.some.injEq] at hi
  refine ⟨y, List.mem_of_getElem? hl, ?_⟩
  split at hi
  ·exact .inr hi.symm
  ·exact .inl hi.symm
theorem pos_modify {l : List Opn} {f : Opn → Opn} (hf : ∀ o, (f o).pos = o.pos) {P : Int → Prop} (h : ∀ o ∈ l, P o.pos) (j : Nat) : ∀ o ∈ l.modify j f, P o.pos := by
 intro o ho
 obtain ⟨y, hy, rfl | rfl⟩ := mem_modify ho
 ·exact h _ hy
 ·rw [hf]; exact h _ hy
theorem pos_kidP {r : List Opn} {P : Int → Prop} (h : ∀ o ∈ r, P o.pos) : ∀ o ∈ kidP r, P o.pos := by
 unfold kidP
 exact pos_modify (f := kidF) (fun _ => rfl) h _
theorem pos_markP {r : List Opn} {P : Int → Prop} (h : ∀ o ∈ r, P o.pos) (k : Int) : ∀ o ∈ markP r k, P o.pos := by
 unfold markP
 split
 ·split
  ·exact pos_modify (f := noteF) (fun _ => rfl) h _
  ·exact h
 ·split
  ·exact pos_modify (f := pastF) (fun _ => rfl) h _
  ·exact h
theorem pos_wholeP {r : List Opn} {P : Int → Prop} (h : ∀ o ∈ r, P o.pos) (x : Opn) : ∀ o ∈ (wholeP r x).1, P o.pos := by
 unfold wholeP
 split
 ·exact h
 ·split
  ·split
   ·split
    ·exact pos_modify (f := colsF x.kids) (fun _ => rfl) h _
    ·exact h
   ·exact h
  ·exact h
theorem stepP_pos (s : Bld) (x : S47) (h : PosIn s) : PosIn (stepP s x).1 := by
 have up : ∀ {r : List Opn}, (∀ o ∈ r, 0 ≤ o.pos ∧ o.pos < (s.t.length : Int)) → ∀ (y : S56) (o : Opn), o ∈ r → 0 ≤ o.pos ∧ o.pos < ((s.t ++ [y]).length : Int) := fun hr y o ho => by
  have := hr o ho
  simp only [List.length_append, List.length_cons, List.length_nil]
  omega
 unfold stepP
 split
 ·unfold textsP
  split
  ·split
   ·exact fun o ho => up (pos_modify (f := textF x.f2.size) (P := fun p => 0 ≤ p ∧ p < (s.t.length : Int)) (fun _ => rfl) (pos_kidP (P := fun p => 0 ≤ p ∧ p < (s.t.length : Int)) h) _) _ o ho
   ·exact fun o ho => up (pos_kidP (P := fun p => 0 ≤ p ∧ p < (s.t.length : Int)) h) _ o ho
  ·split <;> exact h
 ·split
  ·unfold opensP
   split
   ·intro o ho
    simp only [List.mem_append, List.mem_singleton] at ho
    rcases ho with ho | rfl
    ·exact up (pos_kidP (P := fun p => 0 ≤ p ∧ p < (s.t.length : Int)) (pos_markP (P := fun p => 0 ≤ p ∧ p < (s.t.length : Int)) h _)) _ o ho
    ·simp only [List.length_append, List.length_cons, List.length_nil]; omega
   ·exact h
  ·unfold shutsP
   split
   ·exact h
   ·intro o ho
    simp only [List.length_modify]
    exact pos_wholeP (P := fun p => 0 ≤ p ∧ p < (s.t.length : Int)) (fun o ho => h o (List.dropLast_subset _ ho)) _ o ho
def RChain (r : List Opn) : Prop := ∀ i : Nat, (r[i]?.map Opn.kind) = some (114 : Int) → 1 ≤ i ∧ (r[i - 1]?.map Opn.kind) = some (116 : Int)
theorem kinds_modify (r : List Opn) (f : Opn → Opn) (hf : ∀ o, (f o).kind = o.kind) (j i : Nat) : (r.modify j f)[i]?.map Opn.kind = r[i]?.map Opn.kind := by
 rw [List.getElem?_modify]
 cases r[i]? with
 | none => rfl
 | some o => simp only [Option.map_eq_map, Option.map_some, Option.some.injEq]; split <;> simp [hf]
theorem chain_congr {r r' : List Opn} (h : ∀ i : Nat, r'[i]?.map Opn.kind = r[i]?.map Opn.kind) (hr : RChain r) : RChain r' := by
 intro i hi
 rw [h] at hi
 rw [h]
 exact hr i hi
theorem kinds_kidP (r : List Opn) (i : Nat) : (kidP r)[i]?.map Opn.kind = r[i]?.map Opn.kind := kinds_modify r kidF (fun _ => rfl) _ i
theorem kinds_markP (r : List Opn) (k : Int) (i : Nat) : (markP r k)[i]?.map Opn.kind = r[i]?.map Opn.kind := by
 unfold markP
 split
 ·split
  ·exact kinds_modify r noteF (fun _ => rfl) _ i
  ·rfl
 ·split
  ·exact kinds_modify r pastF (fun _ => rfl) _ i
  ·rfl
theorem kinds_wholeP (r : List Opn) (o : Opn) (i : Nat) : ((wholeP r o).1)[i]?.map Opn.kind = r[i]?.map Opn.kind := by
 unfold wholeP
 split
 ·rfl
 ·split
  ·split
   ·split
    ·exact kinds_modify r (colsF o.kids) (fun _ => rfl) _ i
    ·rfl
   ·rfl
  ·rfl
theorem okP_114 {a : Int} (h : okP a 114 = true) : a = 116 := by
 unfold okP at h
 have e1 : ([49, 50, 51, 112, 108, 116, 107] : List Int).contains 114 = false := by decide
 have e2 : ([46, 101, 115, 110] : List Int).contains 114 = false := by decide
 have e3 : ((114 : Int) == 108) = false := by decide
 have e4 : ((114 : Int) == 105) = false := by decide
 have e5 : ((114 : Int) == 99) = false := by decide
 rw [e1, e2, e3, e4, e5] at h
 simpa using h
theorem mayP_ok {r : List Opn} {k : Int} (h : mayP r k = true) : okP (topP r).kind k = true := by
 unfold mayP at h
 cases ho : okP (topP r).kind k with
 | true => rfl
 | false => rw [ho] at h; simp at h
theorem chain_add {r : List Opn} {k : Int} {o : Opn} (hr : RChain r) (hk : o.kind = k) (hm : okP (topP r).kind k = true) : RChain (r ++ [o]) := by
 intro i hi
 by_cases h1 : i < r.length
 ·rw [List.getElem?_append_left h1] at hi
  obtain ⟨g1, g2⟩ := hr i hi
  exact ⟨g1, by rw [List.getElem?_append_left (by omega)]; exact g2⟩
 ·rw [List.getElem?_append_right (by omega)] at hi
  have h0 : i = r.length := by
   cases hd : i - r.length with
   | zero => omega
   | succ n => rw [hd] at hi; simp at hi
  subst h0
  simp only [Nat.sub_self, List.getElem?_cons_zero, Option.map_some, Option.some.injEq] at hi
  rw [← hk, hi] at hm
  have ht := okP_114 hm
  unfold topP at ht
  cases hl : r.getLast? with
  | none => rw [hl] at ht; exact absurd ht (by decide)
  | some y =>
   rw [hl] at ht
   rw [List.getLast?_eq_getElem?] at hl
   have : r.length - 1 < r.length := (List.getElem?_eq_some_iff.1 hl).1
   refine ⟨by omega, ?_⟩
   rw [List.getElem?_append_left this, hl]
   simp only [Option.map_some, Option.some.injEq]
   exact ht
theorem chain_drop {r : List Opn} (hr : RChain r) : RChain r.dropLast := by
 intro i hi
 rw [List.getElem?_dropLast] at hi
 split at hi
 ·obtain ⟨g1, g2⟩ := hr i hi
  exact ⟨g1, by rw [List.getElem?_dropLast, if_pos (by omega)]; exact g2⟩
 ·simp at hi
theorem stepP_chain (s : Bld) (x : S47) (h : RChain s.row) : RChain (stepP s x).1.row := by
 unfold stepP
 split
 ·unfold textsP
  split
  ·split
   ·exact chain_congr (fun i => (kinds_modify (kidP s.row) (textF x.f2.size) (fun _ => rfl) _ i).trans (kinds_kidP s.row i)) h
   ·exact chain_congr (kinds_kidP s.row) h
  ·split <;> exact h
 ·split
  ·unfold opensP
   split
   ·rename_i hm
    have hc : ∀ i, (kidP (markP s.row x.f1))[i]?.map Opn.kind = s.row[i]?.map Opn.kind := fun i => (kinds_kidP _ i).trans (kinds_markP _ _ i)
    refine chain_add (k := x.f1) (chain_congr hc h) rfl ?_
    have ht : (topP (kidP (markP s.row x.f1))).kind = (topP s.row).kind := by
     unfold topP
     rw [List.getLast?_eq_getElem?, List.getLast?_eq_getElem?, kidP_length, markP_length]
     have := hc (s.row.length - 1)
     cases h1 : (kidP (markP s.row x.f1))[s.row.length - 1]? with
     | none => rw [h1] at this; cases h2 : s.row[s.row.length - 1]? with
      | none => rfl
      | some y => rw [h2] at this; simp at this
     | some z => rw [h1] at this; cases h2 : s.row[s.row.length - 1]? with
      | none => rw [h2] at this; simp at this
      | some y => rw [h2] at this; simpa using this
    rw [ht]
    exact mayP_ok hm
   ·exact h
  ·unfold shutsP
   split
   ·exact h
   ·exact chain_congr (kinds_wholeP _ _) (chain_drop h)
theorem aroundP_some (ks : List Int) (r : List Opn) : ∀ (n j : Nat), j < n → ks.contains (r.getD j zOpn).kind = true → ∃ i, aroundP ks r n = some i
 | 0, j, h, _ => by omega
 | n + 1, j, h, hk => by
  simp only [aroundP]
  by_cases hc : ks.contains (r.getD n zOpn).kind = true
  ·rw [if_pos hc]; exact ⟨n, rfl⟩
  ·rw [if_neg hc]
   by_cases e : j = n
   ·subst e; exact absurd hk hc
   ·exact aroundP_some ks r n j (by omega) hk
theorem chain_table {r : List Opn} (hr : RChain r) (h1 : (topP r).kind = 114) : ∃ j, aroundP [116] r.dropLast r.dropLast.length = some j := by
 unfold topP at h1
 cases hl : r.getLast? with
 | none => rw [hl] at h1; exact absurd h1 (by decide)
 | some y =>
  rw [hl] at h1
  rw [List.getLast?_eq_getElem?] at hl
  obtain ⟨g1, g2⟩ := hr (r.length - 1) (by rw [hl]; simp only [Option.map_some, Option.some.injEq]; exact h1)
  have hlen : r.dropLast.length = r.length - 1 := by simp
  refine aroundP_some _ _ _ (r.length - 1 - 1) (by omega) ?_
  rw [List.getD_eq_getElem?_getD, List.getElem?_dropLast, if_pos (by omega)]
  cases hq : r[r.length - 1 - 1]? with
  | none => rw [hq] at g2; simp at g2
  | some z =>
   rw [hq] at g2
   simp only [Option.map_some, Option.some.injEq] at g2
   simp only [Option.getD_some]
   rw [g2]
   decide
end Go.Proofs.Ythcmfjpheanphaa.Pr
