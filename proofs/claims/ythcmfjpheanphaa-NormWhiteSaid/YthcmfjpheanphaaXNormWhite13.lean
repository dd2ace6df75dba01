/- Texts of this seat, one behind the other. -/
import Derived.Lib.SliceRun
import Derived.Laws.Bits128
import Derived.Deep.Slices
import Derived.Deep.Fields
import Derived.ChangeSame
import Derived.SizedLaws
import Derived.ChangeSlices
import Derived.Test.YthcmfjpheanphaaXNormWhite1
import Derived.Test.YthcmfjpheanphaaXNormWhite2
import Derived.Test.YthcmfjpheanphaaXNormWhite3
import Derived.Test.YthcmfjpheanphaaXNormWhite4
import Derived.Test.YthcmfjpheanphaaXNormWhite5
import Derived.Test.YthcmfjpheanphaaXNormWhite6
import Derived.Test.YthcmfjpheanphaaXNormWhite7
import Derived.Test.YthcmfjpheanphaaXNormWhite8
import Derived.Test.YthcmfjpheanphaaXNormWhite9
import Derived.Test.YthcmfjpheanphaaXNormWhite10
import Derived.Test.YthcmfjpheanphaaXNormWhite11
import Derived.Test.YthcmfjpheanphaaXNormWhite12
set_option linter.unusedVariables false
set_option linter.unusedSimpArgs false
namespace Go.Proofs.Ythcmfjpheanphaa.Pr
open Go.RowKit Go.Proofs.YthcmfjpheanphaaW.PrintWords Go.Proofs.YthcmfjpheanphaaW.PrintLast Go.Proofs.YthcmfjpheanphaaW.PrintMore
attribute [local go_sem] max2_int min2_int max_two min_two max_three min_three max_four min_four
def norm_Is.f (k : Nat) (l0 : List (S56)) : Option (Bool) := (norm_Of.f k l0).bind fun bt214 => (if bt214.2 = 0 then ((tree_Same.f l0 bt214.1).bind fun t218 => (some t218)) else (some false))
theorem norm_Is.mono : ∀ a0 k, LeO (norm_Is.f k a0) (norm_Is.f (k + 1) a0) := by
 intro a0 k
 unfold norm_Is.f
 repeat' first
   | (with_reducible exact norm_Of.mono _ _)
   | (with_reducible exact LeO.refl _)
   | (with_reducible exact LeO.none _)
   | (with_reducible refine LeO.ite ?_ ?_)
   | (with_reducible refine LeO.bind ?_ (fun _ => ?_))
   | exact norm_Of.mono _ _
   | exact LeO.none _
   | refine LeO.ite ?_ ?_
   | refine LeO.bind ?_ (fun _ => ?_)
set_option maxHeartbeats 8000000 in
set_option maxRecDepth 100000 in
theorem norm_Is.calls (k : Nat) (A0 : Option Addr) (c0 : Nat) (l0 : List (S56)) (r : Bool) (w : World) (hr0 : Kd.C k56 w A0 l0.length l0) (hc0 : l0.length ≤ c0) (h : norm_Is.f k l0 = some r) :
  Calls Try.prog 66 #[.slice A0 l0.length c0] w fun e w' => e = .returned (.bool r) ∧ Below w.heap.size w w' := by
 have HR0 := Aside0.mk hr0
 have HC0 := Aside0.mk hc0
 clear hr0 hc0
 have HB := Aside0.mk (Below.refl w.heap.size w)
 have H : ((norm_Of.f k l0).bind fun bt214 => (if bt214.2 = 0 then ((tree_Same.f l0 bt214.1).bind fun t218 => (some t218)) else (some false))) = some r := h
 clear h
 replace H := Option.bind_eq_some_iff.mp H
 obtain ⟨⟨t214, t215⟩, A20, H⟩ := H
 replace H : (if t215 = 0 then ((tree_Same.f l0 t214).bind fun t218 => (some t218)) else (some false)) = some r := H
 have A2 := Aside0.mk A20
 clear A20
 by_cases c3 : t215 = 0
 ·rw [if_pos c3] at H
  have c3b0 : (t215 == 0) = true := beq_iff_eq.mpr c3
  have c3b1 : (t215 != 0) = false := bne_eq_false_iff_eq.mpr c3
  clear c3
  replace H := Option.bind_eq_some_iff.mp H
  obtain ⟨t218, A40, H⟩ := H
  replace H : (some t218) = some r := H
  have A4 := Aside0.mk A40
  clear A40
  obtain rfl := Option.some.inj H
  go_enter Try.func66, Try.ntmps66
  go_wp2_with (first | ((with_reducible refine gate_callee (f := 64) rfl ?_); refine goesL_ (some 7) rfl rfl Try.func64 (by kernel_rfl) rfl #[.slice A0 l0.length c0] rfl (by (try simp only [List.map_toArray, List.map_cons, List.map_nil]); first | done | rfl | (simp only [List.length_drop, List.length_take]; rfl)) ?_; (with_reducible refine (norm_Of.calls k _ _ l0 t214 t215 _ ?side1 ?side2 A2.out).mono ?_); (case side1 => repeat (first | exact HR0.out | (with_reducible refine Kd.C_alloc ?_ _) | (with_reducible refine Kd.C_drewN ?_ _) | (with_reducible refine Kd.C_drew ?_))); (case side2 => exact HC0.out); rintro e w5 ⟨v216, rfl, ho0, hb⟩; refine ⟨_, rfl, ?_⟩; have n0_ := Aside0.mk (Kd.R_lower ho0 (below_size (by repeat (first | (with_reducible first | exact HB.out | apply below_alloc | apply pw_below_drewN | apply below_drew1) | exact HB.out)))); have n1_ := Aside0.mk (below_step (by repeat (first | (with_reducible first | exact HB.out | apply below_alloc | apply pw_below_drewN | apply below_drew1) | exact HB.out)) hb); clear HB; have HO217 := n0_; have HB := n1_; clear n0_ n1_; (try clear hb); (try clear hb2); (try clear hk); (try clear hi); (try clear ho0); obtain ⟨Ao6, co6, eo6⟩ := Kd.R_slice HO217.out; subst eo6) | (go_at_call 56; (with_reducible refine (tree_Same.calls _ _ l0 _ _ t214 t218 _ ?side1 ?side2 ?side3 ?side4 A4.out).mono ?_); (case side1 => repeat (first | exact (Kd.C_below HR0.out HB.out) | (with_reducible refine Kd.C_alloc ?_ _) | (with_reducible refine Kd.C_drewN ?_ _) | (with_reducible refine Kd.C_drew ?_))); (case side2 => exact HC0.out); (case side3 => repeat (first | exact (Kd.R_reads' HO217.out).2.2 | (with_reducible refine Kd.C_alloc ?_ _) | (with_reducible refine Kd.C_drewN ?_ _) | (with_reducible refine Kd.C_drew ?_))); (case side4 => exact (Kd.R_reads' HO217.out).2.1); rintro e w7 ⟨rfl, hb⟩; have n0_ := Aside0.mk (Kd.R_below (by (with_reducible repeat (first | apply Kd.R_alloc | apply Kd.R_drewN | apply Kd.R_drew)); exact HO217.out) hb); have n1_ := Aside0.mk (below_step (by repeat (first | (with_reducible first | exact HB.out | apply below_alloc | apply pw_below_drewN | apply below_drew1) | exact HB.out)) hb); clear HO217; clear HB; have HO217 := n0_; have HB := n1_; clear n0_ n1_; (try clear hb); (try clear hb2); (try clear hk); (try clear hi)))
  go_ret
  exact ⟨by first | rfl | (simp [errW_none, errW_some] <;> rfl) | (simp [*, errW_none, errW_some] <;> rfl), by repeat (first | (with_reducible first | exact HB.out | apply below_alloc | apply pw_below_drewN | apply below_drew1) | exact HB.out)⟩
 ·rw [if_neg c3] at H
  have c3b0 : (t215 == 0) = false := beq_eq_false_iff_ne.mpr c3
  have c3b1 : (t215 != 0) = true := bne_iff_ne.mpr c3
  obtain rfl := Option.some.inj H
  go_enter Try.func66, Try.ntmps66
  go_wp2_with (first | ((with_reducible refine gate_callee (f := 64) rfl ?_); refine goesL_ (some 7) rfl rfl Try.func64 (by kernel_rfl) rfl #[.slice A0 l0.length c0] rfl (by (try simp only [List.map_toArray, List.map_cons, List.map_nil]); first | done | rfl | (simp only [List.length_drop, List.length_take]; rfl)) ?_; (with_reducible refine (norm_Of.calls k _ _ l0 t214 t215 _ ?side1 ?side2 A2.out).mono ?_); (case side1 => repeat (first | exact HR0.out | (with_reducible refine Kd.C_alloc ?_ _) | (with_reducible refine Kd.C_drewN ?_ _) | (with_reducible refine Kd.C_drew ?_))); (case side2 => exact HC0.out); rintro e w8 ⟨v216, rfl, ho0, hb⟩; refine ⟨_, rfl, ?_⟩; have n0_ := Aside0.mk (Kd.R_lower ho0 (below_size (by repeat (first | (with_reducible first | exact HB.out | apply below_alloc | apply pw_below_drewN | apply below_drew1) | exact HB.out)))); have n1_ := Aside0.mk (below_step (by repeat (first | (with_reducible first | exact HB.out | apply below_alloc | apply pw_below_drewN | apply below_drew1) | exact HB.out)) hb); clear HB; have HO217 := n0_; have HB := n1_; clear n0_ n1_; (try clear hb); (try clear hb2); (try clear hk); (try clear hi); (try clear ho0)))
  go_ret
  exact ⟨by first | rfl | (simp [errW_none, errW_some] <;> rfl) | (simp [*, errW_none, errW_some] <;> rfl), by repeat (first | (with_reducible first | exact HB.out | apply below_alloc | apply pw_below_drewN | apply below_drew1) | exact HB.out)⟩
def styluslaw05_alike.f (k : Nat) (a0 : ByteArray) (a1 : ByteArray) : Option (Bool) := (tree_Parse.f a0).bind fun bt219 => ((tree_Parse.f a1).bind fun bt224 => ((norm_Of.f k bt219.1).bind fun bt229 => (if bt219.2.2 = 0 then (if bt224.2.2 = 0 then (if bt229.2 = 0 then ((stylusref04_Same.f k bt229.1 bt224.1).bind fun t233 => (if t233 = true then ((norm_Is.f k bt224.1).bind fun t234 => (if t234 = true then (some (decide ((bt229.1.length : Int) > 0))) else (some false))) else (some false))) else (some false)) else (some false)) else (some false))))
theorem styluslaw05_alike.mono : ∀ a0 a1 k, LeO (styluslaw05_alike.f k a0 a1) (styluslaw05_alike.f (k + 1) a0 a1) := by
 intro a0 a1 k
 unfold styluslaw05_alike.f
 repeat' first
   | (with_reducible exact norm_Is.mono _ _)
   | (with_reducible exact norm_Of.mono _ _)
   | (with_reducible exact stylusref04_Same.mono _ _ _)
   | (with_reducible exact LeO.refl _)
   | (with_reducible exact LeO.none _)
   | (with_reducible refine LeO.ite ?_ ?_)
   | (with_reducible refine LeO.bind ?_ (fun _ => ?_))
   | exact norm_Is.mono _ _
   | exact norm_Of.mono _ _
   | exact stylusref04_Same.mono _ _ _
   | exact LeO.none _
   | refine LeO.ite ?_ ?_
   | refine LeO.bind ?_ (fun _ => ?_)
set_option maxHeartbeats 8000000 in
set_option maxRecDepth 100000 in
theorem styluslaw05_alike.calls (k : Nat) (a0 : ByteArray) (a1 : ByteArray) (r : Bool) (w : World) (h : styluslaw05_alike.f k a0 a1 = some r) :
  Calls Try.prog 109 #[.string a0, .string a1] w fun e w' => e = .returned (.bool r) ∧ Below w.heap.size w w' := by
 have HB := Aside0.mk (Below.refl w.heap.size w)
 have H : ((tree_Parse.f a0).bind fun bt219 => ((tree_Parse.f a1).bind fun bt224 => ((norm_Of.f k bt219.1).bind fun bt229 => (if bt219.2.2 = 0 then (if bt224.2.2 = 0 then (if bt229.2 = 0 then ((stylusref04_Same.f k bt229.1 bt224.1).bind fun t233 => (if t233 = true then ((norm_Is.f k bt224.1).bind fun t234 => (if t234 = true then (some (decide ((bt229.1.length : Int) > 0))) else (some false))) else (some false))) else (some false)) else (some false)) else (some false))))) = some r := h
 clear h
 replace H := Option.bind_eq_some_iff.mp H
 obtain ⟨⟨t219, t220, t221⟩, A30, H⟩ := H
 replace H : ((tree_Parse.f a1).bind fun bt224 => ((norm_Of.f k t219).bind fun bt229 => (if t221 = 0 then (if bt224.2.2 = 0 then (if bt229.2 = 0 then ((stylusref04_Same.f k bt229.1 bt224.1).bind fun t233 => (if t233 = true then ((norm_Is.f k bt224.1).bind fun t234 => (if t234 = true then (some (decide ((bt229.1.length : Int) > 0))) else (some false))) else (some false))) else (some false)) else (some false)) else (some false)))) = some r := H
 have A3 := Aside0.mk A30
 clear A30
 replace H := Option.bind_eq_some_iff.mp H
 obtain ⟨⟨t224, t225, t226⟩, A40, H⟩ := H
 replace H : ((norm_Of.f k t219).bind fun bt229 => (if t221 = 0 then (if t226 = 0 then (if bt229.2 = 0 then ((stylusref04_Same.f k bt229.1 t224).bind fun t233 => (if t233 = true then ((norm_Is.f k t224).bind fun t234 => (if t234 = true then (some (decide ((bt229.1.length : Int) > 0))) else (some false))) else (some false))) else (some false)) else (some false)) else (some false))) = some r := H
 have A4 := Aside0.mk A40
 clear A40
 replace H := Option.bind_eq_some_iff.mp H
 obtain ⟨⟨t229, t230⟩, A50, H⟩ := H
 replace H : (if t221 = 0 then (if t226 = 0 then (if t230 = 0 then ((stylusref04_Same.f k t229 t224).bind fun t233 => (if t233 = true then ((norm_Is.f k t224).bind fun t234 => (if t234 = true then (some (decide ((t229.length : Int) > 0))) else (some false))) else (some false))) else (some false)) else (some false)) else (some false)) = some r := H
 have A5 := Aside0.mk A50
 clear A50
 by_cases c6 : t221 = 0
 ·rw [if_pos c6] at H
  have c6b0 : (t221 == 0) = true := beq_iff_eq.mpr c6
  have c6b1 : (t221 != 0) = false := bne_eq_false_iff_eq.mpr c6
  clear c6
  by_cases c7 : t226 = 0
  ·rw [if_pos c7] at H
   have c7b0 : (t226 == 0) = true := beq_iff_eq.mpr c7
   have c7b1 : (t226 != 0) = false := bne_eq_false_iff_eq.mpr c7
   clear c7
   by_cases c8 : t230 = 0
   ·rw [if_pos c8] at H
    have c8b0 : (t230 == 0) = true := beq_iff_eq.mpr c8
    have c8b1 : (t230 != 0) = false := bne_eq_false_iff_eq.mpr c8
    clear c8
    replace H := Option.bind_eq_some_iff.mp H
    obtain ⟨t233, A90, H⟩ := H
    replace H : (if t233 = true then ((norm_Is.f k t224).bind fun t234 => (if t234 = true then (some (decide ((t229.length : Int) > 0))) else (some false))) else (some false)) = some r := H
    have A9 := Aside0.mk A90
    clear A90
    by_cases c10 : t233 = true
    ·subst c10
     have H1 : ((norm_Is.f k t224).bind fun t234 => (if t234 = true then (some (decide ((t229.length : Int) > 0))) else (some false))) = some r := by rw [if_pos rfl] at H; exact H
     clear H
     have H := H1
     clear H1
     replace H := Option.bind_eq_some_iff.mp H
     obtain ⟨t234, A110, H⟩ := H
     replace H : (if t234 = true then (some (decide ((t229.length : Int) > 0))) else (some false)) = some r := H
     have A11 := Aside0.mk A110
     clear A110
     by_cases c12 : t234 = true
     ·subst c12
      have H1 : (some (decide ((t229.length : Int) > 0))) = some r := by rw [if_pos rfl] at H; exact H
      clear H
      have H := H1
      clear H1
      obtain rfl := Option.some.inj H
      go_enter Try.func109, Try.ntmps109
      go_wp2_with (first | ((with_reducible refine gate_callee (f := 53) rfl ?_); refine goesL_ (some 15) rfl rfl Try.func53 (by kernel_rfl) rfl #[.string a0] rfl (by (try simp only [List.map_toArray, List.map_cons, List.map_nil]); first | done | rfl | (simp only [List.length_drop, List.length_take]; rfl)) ?_; (with_reducible refine (tree_Parse.calls a0 t219 t220 t221 _ A3.out).mono ?_); rintro e w13 ⟨v222, rfl, ho0, hb⟩; refine ⟨_, rfl, ?_⟩; have n0_ := Aside0.mk (Kd.R_lower ho0 (below_size (by repeat (first | (with_reducible first | exact HB.out | apply below_alloc | apply pw_below_drewN | apply below_drew1) | exact HB.out)))); have n1_ := Aside0.mk (below_step (by repeat (first | (with_reducible first | exact HB.out | apply below_alloc | apply pw_below_drewN | apply below_drew1) | exact HB.out)) hb); clear HB; have HO223 := n0_; have HB := n1_; clear n0_ n1_; (try clear hb); (try clear hb2); (try clear hk); (try clear hi); (try clear ho0)) | ((with_reducible refine gate_callee (f := 53) rfl ?_); refine goesL_ (some 21) rfl rfl Try.func53 (by kernel_rfl) rfl #[.string a1] rfl (by (try simp only [List.map_toArray, List.map_cons, List.map_nil]); first | done | rfl | (simp only [List.length_drop, List.length_take]; rfl)) ?_; (with_reducible refine (tree_Parse.calls a1 t224 t225 t226 _ A4.out).mono ?_); rintro e w14 ⟨v227, rfl, ho0, hb⟩; refine ⟨_, rfl, ?_⟩; have n0_ := Aside0.mk (Kd.R_elder' (by (with_reducible repeat (first | apply Kd.R_alloc | apply Kd.R_drewN | apply Kd.R_drew)); exact HO223.out) (Kd.R_base ho0) hb); have n1_ := Aside0.mk (Kd.R_lower (Kd.R_new' ho0 (Kd.R_lt (by (with_reducible repeat (first | apply Kd.R_alloc | apply Kd.R_drewN | apply Kd.R_drew)); exact HO223.out))) (below_size (by repeat (first | (with_reducible first | exact HB.out | apply below_alloc | apply pw_below_drewN | apply below_drew1) | exact HB.out)))); have n2_ := Aside0.mk (below_step (by repeat (first | (with_reducible first | exact HB.out | apply below_alloc | apply pw_below_drewN | apply below_drew1) | exact HB.out)) hb); clear HO223; clear HB; have HO223 := n0_; have HO228 := n1_; have HB := n2_; clear n0_ n1_ n2_; (try clear hb); (try clear hb2); (try clear hk); (try clear hi); (try clear ho0); obtain ⟨Ao15, co15, eo15⟩ := Kd.R_slice HO223.out; subst eo15) | ((with_reducible refine gate_callee (f := 64) rfl ?_); refine goesL_ (some 27) rfl rfl Try.func64 (by kernel_rfl) rfl #[.slice Ao15 t219.length co15] rfl (by (try simp only [List.map_toArray, List.map_cons, List.map_nil]); first | done | rfl | (simp only [List.length_drop, List.length_take]; rfl)) ?_; (with_reducible refine (norm_Of.calls k _ _ t219 t229 t230 _ ?side1 ?side2 A5.out).mono ?_); (case side1 => repeat (first | exact (Kd.R_reads' HO223.out).2.2 | (with_reducible refine Kd.C_alloc ?_ _) | (with_reducible refine Kd.C_drewN ?_ _) | (with_reducible refine Kd.C_drew ?_))); (case side2 => exact (Kd.R_reads' HO223.out).2.1); rintro e w16 ⟨v231, rfl, ho0, hb⟩; refine ⟨_, rfl, ?_⟩; have n0_ := Aside0.mk (Kd.R_elder' (by (with_reducible repeat (first | apply Kd.R_alloc | apply Kd.R_drewN | apply Kd.R_drew)); exact HO223.out) (Kd.R_base ho0) hb); have n1_ := Aside0.mk (Kd.R_elder' (by (with_reducible repeat (first | apply Kd.R_alloc | apply Kd.R_drewN | apply Kd.R_drew)); exact HO228.out) (Kd.R_base ho0) hb); have n2_ := Aside0.mk (Kd.R_lower (Kd.R_new' (Kd.R_new' ho0 (Kd.R_lt (by (with_reducible repeat (first | apply Kd.R_alloc | apply Kd.R_drewN | apply Kd.R_drew)); exact HO223.out))) (Kd.R_lt (by (with_reducible repeat (first | apply Kd.R_alloc | apply Kd.R_drewN | apply Kd.R_drew)); exact HO228.out))) (below_size (by repeat (first | (with_reducible first | exact HB.out | apply below_alloc | apply pw_below_drewN | apply below_drew1) | exact HB.out)))); have n3_ := Aside0.mk (below_step (by repeat (first | (with_reducible first | exact HB.out | apply below_alloc | apply pw_below_drewN | apply below_drew1) | exact HB.out)) hb); clear HO223; clear HO228; clear HB; have HO223 := n0_; have HO228 := n1_; have HO232 := n2_; have HB := n3_; clear n0_ n1_ n2_ n3_; (try clear hb); (try clear hb2); (try clear hk); (try clear hi); (try clear ho0); obtain ⟨Ao17, co17, eo17⟩ := Kd.R_slice HO232.out; subst eo17; obtain ⟨Ao18, co18, eo18⟩ := Kd.R_slice HO228.out; subst eo18) | (go_at_call 61; (with_reducible refine (stylusref04_Same.calls k _ _ t229 _ _ t224 true _ ?side1 ?side2 ?side3 ?side4 A9.out).mono ?_); (case side1 => repeat (first | exact (Kd.R_reads' HO232.out).2.2 | (with_reducible refine Kd.C_alloc ?_ _) | (with_reducible refine Kd.C_drewN ?_ _) | (with_reducible refine Kd.C_drew ?_))); (case side2 => exact (Kd.R_reads' HO232.out).2.1); (case side3 => repeat (first | exact (Kd.R_reads' HO228.out).2.2 | (with_reducible refine Kd.C_alloc ?_ _) | (with_reducible refine Kd.C_drewN ?_ _) | (with_reducible refine Kd.C_drew ?_))); (case side4 => exact (Kd.R_reads' HO228.out).2.1); rintro e w' ⟨rfl, ⟨nd, rfl⟩⟩) | (go_at_call 66; (with_reducible refine (norm_Is.calls k _ _ t224 true _ ?side1 ?side2 A11.out).mono ?_); (case side1 => repeat (first | exact (Kd.R_reads' HO228.out).2.2 | (with_reducible refine Kd.C_alloc ?_ _) | (with_reducible refine Kd.C_drewN ?_ _) | (with_reducible refine Kd.C_drew ?_))); (case side2 => exact (Kd.R_reads' HO228.out).2.1); rintro e w19 ⟨rfl, hb⟩; have n0_ := Aside0.mk (Kd.R_below (by (with_reducible repeat (first | apply Kd.R_alloc | apply Kd.R_drewN | apply Kd.R_drew)); exact HO223.out) hb); have n1_ := Aside0.mk (Kd.R_below (by (with_reducible repeat (first | apply Kd.R_alloc | apply Kd.R_drewN | apply Kd.R_drew)); exact HO228.out) hb); have n2_ := Aside0.mk (Kd.R_below (by (with_reducible repeat (first | apply Kd.R_alloc | apply Kd.R_drewN | apply Kd.R_drew)); exact HO232.out) hb); have n3_ := Aside0.mk (below_step (by repeat (first | (with_reducible first | exact HB.out | apply below_alloc | apply pw_below_drewN | apply below_drew1) | exact HB.out)) hb); clear HO223; clear HO228; clear HO232; clear HB; have HO223 := n0_; have HO228 := n1_; have HO232 := n2_; have HB := n3_; clear n0_ n1_ n2_ n3_; (try clear hb); (try clear hb2); (try clear hk); (try clear hi)))
      go_ret
      exact ⟨by first | rfl | (simp [errW_none, errW_some] <;> rfl) | (simp [*, errW_none, errW_some] <;> rfl), by repeat (first | (with_reducible first | exact HB.out | apply below_alloc | apply pw_below_drewN | apply below_drew1) | exact HB.out)⟩
     ·replace c12 := Bool.eq_false_iff.mpr c12
      subst c12
      have H1 : (some false) = some r := by rw [if_neg (show ¬ (false = true) by decide)] at H; exact H
      clear H
      have H := H1
      clear H1
      obtain rfl := Option.some.inj H
      go_enter Try.func109, Try.ntmps109
      go_wp2_with (first | ((with_reducible refine gate_callee (f := 53) rfl ?_); refine goesL_ (some 15) rfl rfl Try.func53 (by kernel_rfl) rfl #[.string a0] rfl (by (try simp only [List.map_toArray, List.map_cons, List.map_nil]); first | done | rfl | (simp only [List.length_drop, List.length_take]; rfl)) ?_; (with_reducible refine (tree_Parse.calls a0 t219 t220 t221 _ A3.out).mono ?_); rintro e w20 ⟨v222, rfl, ho0, hb⟩; refine ⟨_, rfl, ?_⟩; have n0_ := Aside0.mk (Kd.R_lower ho0 (below_size (by repeat (first | (with_reducible first | exact HB.out | apply below_alloc | apply pw_below_drewN | apply below_drew1) | exact HB.out)))); have n1_ := Aside0.mk (below_step (by repeat (first | (with_reducible first | exact HB.out | apply below_alloc | apply pw_below_drewN | apply below_drew1) | exact HB.out)) hb); clear HB; have HO223 := n0_; have HB := n1_; clear n0_ n1_; (try clear hb); (try clear hb2); (try clear hk); (try clear hi); (try clear ho0)) | ((with_reducible refine gate_callee (f := 53) rfl ?_); refine goesL_ (some 21) rfl rfl Try.func53 (by kernel_rfl) rfl #[.string a1] rfl (by (try simp only [List.map_toArray, List.map_cons, List.map_nil]); first | done | rfl | (simp only [List.length_drop, List.length_take]; rfl)) ?_; (with_reducible refine (tree_Parse.calls a1 t224 t225 t226 _ A4.out).mono ?_); rintro e w21 ⟨v227, rfl, ho0, hb⟩; refine ⟨_, rfl, ?_⟩; have n0_ := Aside0.mk (Kd.R_elder' (by (with_reducible repeat (first | apply Kd.R_alloc | apply Kd.R_drewN | apply Kd.R_drew)); exact HO223.out) (Kd.R_base ho0) hb); have n1_ := Aside0.mk (Kd.R_lower (Kd.R_new' ho0 (Kd.R_lt (by (with_reducible repeat (first | apply Kd.R_alloc | apply Kd.R_drewN | apply Kd.R_drew)); exact HO223.out))) (below_size (by repeat (first | (with_reducible first | exact HB.out | apply below_alloc | apply pw_below_drewN | apply below_drew1) | exact HB.out)))); have n2_ := Aside0.mk (below_step (by repeat (first | (with_reducible first | exact HB.out | apply below_alloc | apply pw_below_drewN | apply below_drew1) | exact HB.out)) hb); clear HO223; clear HB; have HO223 := n0_; have HO228 := n1_; have HB := n2_; clear n0_ n1_ n2_; (try clear hb); (try clear hb2); (try clear hk); (try clear hi); (try clear ho0); obtain ⟨Ao22, co22, eo22⟩ := Kd.R_slice HO223.out; subst eo22) | ((with_reducible refine gate_callee (f := 64) rfl ?_); refine goesL_ (some 27) rfl rfl Try.func64 (by kernel_rfl) rfl #[.slice Ao22 t219.length co22] rfl (by (try simp only [List.map_toArray, List.map_cons, List.map_nil]); first | done | rfl | (simp only [List.length_drop, List.length_take]; rfl)) ?_; (with_reducible refine (norm_Of.calls k _ _ t219 t229 t230 _ ?side1 ?side2 A5.out).mono ?_); (case side1 => repeat (first | exact (Kd.R_reads' HO223.out).2.2 | (with_reducible refine Kd.C_alloc ?_ _) | (with_reducible refine Kd.C_drewN ?_ _) | (with_reducible refine Kd.C_drew ?_))); (case side2 => exact (Kd.R_reads' HO223.out).2.1); rintro e w23 ⟨v231, rfl, ho0, hb⟩; refine ⟨_, rfl, ?_⟩; have n0_ := Aside0.mk (Kd.R_elder' (by (with_reducible repeat (first | apply Kd.R_alloc | apply Kd.R_drewN | apply Kd.R_drew)); exact HO223.out) (Kd.R_base ho0) hb); have n1_ := Aside0.mk (Kd.R_elder' (by (with_reducible repeat (first | apply Kd.R_alloc | apply Kd.R_drewN | apply Kd.R_drew)); exact HO228.out) (Kd.R_base ho0) hb); have n2_ := Aside0.mk (Kd.R_lower (Kd.R_new' (Kd.R_new' ho0 (Kd.R_lt (by (with_reducible repeat (first | apply Kd.R_alloc | apply Kd.R_drewN | apply Kd.R_drew)); exact HO223.out))) (Kd.R_lt (by (with_reducible repeat (first | apply Kd.R_alloc | apply Kd.R_drewN | apply Kd.R_drew)); exact HO228.out))) (below_size (by repeat (first | (with_reducible first | exact HB.out | apply below_alloc | apply pw_below_drewN | apply below_drew1) | exact HB.out)))); have n3_ := Aside0.mk (below_step (by repeat (first | (with_reducible first | exact HB.out | apply below_alloc | apply pw_below_drewN | apply below_drew1) | exact HB.out)) hb); clear HO223; clear HO228; clear HB; have HO223 := n0_; have HO228 := n1_; have HO232 := n2_; have HB := n3_; clear n0_ n1_ n2_ n3_; (try clear hb); (try clear hb2); (try clear hk); (try clear hi); (try clear ho0); obtain ⟨Ao24, co24, eo24⟩ := Kd.R_slice HO232.out; subst eo24; obtain ⟨Ao25, co25, eo25⟩ := Kd.R_slice HO228.out; subst eo25) | (go_at_call 61; (with_reducible refine (stylusref04_Same.calls k _ _ t229 _ _ t224 true _ ?side1 ?side2 ?side3 ?side4 A9.out).mono ?_); (case side1 => repeat (first | exact (Kd.R_reads' HO232.out).2.2 | (with_reducible refine Kd.C_alloc ?_ _) | (with_reducible refine Kd.C_drewN ?_ _) | (with_reducible refine Kd.C_drew ?_))); (case side2 => exact (Kd.R_reads' HO232.out).2.1); (case side3 => repeat (first | exact (Kd.R_reads' HO228.out).2.2 | (with_reducible refine Kd.C_alloc ?_ _) | (with_reducible refine Kd.C_drewN ?_ _) | (with_reducible refine Kd.C_drew ?_))); (case side4 => exact (Kd.R_reads' HO228.out).2.1); rintro e w' ⟨rfl, ⟨nd, rfl⟩⟩) | (go_at_call 66; (with_reducible refine (norm_Is.calls k _ _ t224 false _ ?side1 ?side2 A11.out).mono ?_); (case side1 => repeat (first | exact (Kd.R_reads' HO228.out).2.2 | (with_reducible refine Kd.C_alloc ?_ _) | (with_reducible refine Kd.C_drewN ?_ _) | (with_reducible refine Kd.C_drew ?_))); (case side2 => exact (Kd.R_reads' HO228.out).2.1); rintro e w26 ⟨rfl, hb⟩; have n0_ := Aside0.mk (Kd.R_below (by (with_reducible repeat (first | apply Kd.R_alloc | apply Kd.R_drewN | apply Kd.R_drew)); exact HO223.out) hb); have n1_ := Aside0.mk (Kd.R_below (by (with_reducible repeat (first | apply Kd.R_alloc | apply Kd.R_drewN | apply Kd.R_drew)); exact HO228.out) hb); have n2_ := Aside0.mk (Kd.R_below (by (with_reducible repeat (first | apply Kd.R_alloc | apply Kd.R_drewN | apply Kd.R_drew)); exact HO232.out) hb); have n3_ := Aside0.mk (below_step (by repeat (first | (with_reducible first | exact HB.out | apply below_alloc | apply pw_below_drewN | apply below_drew1) | exact HB.out)) hb); clear HO223; clear HO228; clear HO232; clear HB; have HO223 := n0_; have HO228 := n1_; have HO232 := n2_; have HB := n3_; clear n0_ n1_ n2_ n3_; (try clear hb); (try clear hb2); (try clear hk); (try clear hi)))
      go_ret
      exact ⟨by first | rfl | (simp [errW_none, errW_some] <;> rfl) | (simp [*, errW_none, errW_some] <;> rfl), by repeat (first | (with_reducible first | exact HB.out | apply below_alloc | apply pw_below_drewN | apply below_drew1) | exact HB.out)⟩
    ·replace c10 := Bool.eq_false_iff.mpr c10
     subst c10
     have H1 : (some false) = some r := by rw [if_neg (show ¬ (false = true) by decide)] at H; exact H
     clear H
     have H := H1
     clear H1
     obtain rfl := Option.some.inj H
     go_enter Try.func109, Try.ntmps109
     go_wp2_with (first | ((with_reducible refine gate_callee (f := 53) rfl ?_); refine goesL_ (some 15) rfl rfl Try.func53 (by kernel_rfl) rfl #[.string a0] rfl (by (try simp only [List.map_toArray, List.map_cons, List.map_nil]); first | done | rfl | (simp only [List.length_drop, List.length_take]; rfl)) ?_; (with_reducible refine (tree_Parse.calls a0 t219 t220 t221 _ A3.out).mono ?_); rintro e w27 ⟨v222, rfl, ho0, hb⟩; refine ⟨_, rfl, ?_⟩; have n0_ := Aside0.mk (Kd.R_lower ho0 (below_size (by repeat (first | (with_reducible first | exact HB.out | apply below_alloc | apply pw_below_drewN | apply below_drew1) | exact HB.out)))); have n1_ := Aside0.mk (below_step (by repeat (first | (with_reducible first | exact HB.out | apply below_alloc | apply pw_below_drewN | apply below_drew1) | exact HB.out)) hb); clear HB; have HO223 := n0_; have HB := n1_; clear n0_ n1_; (try clear hb); (try clear hb2); (try clear hk); (try clear hi); (try clear ho0)) | ((with_reducible refine gate_callee (f := 53) rfl ?_); refine goesL_ (some 21) rfl rfl Try.func53 (by kernel_rfl) rfl #[.string a1] rfl (by (try simp only [List.map_toArray, List.map_cons, List.map_nil]); first | done | rfl | (simp only [List.length_drop, List.length_take]; rfl)) ?_; (with_reducible refine (tree_Parse.calls a1 t224 t225 t226 _ A4.out).mono ?_); rintro e w28 ⟨v227, rfl, ho0, hb⟩; refine ⟨_, rfl, ?_⟩; have n0_ := Aside0.mk (Kd.R_elder' (by (with_reducible repeat (first | apply Kd.R_alloc | apply Kd.R_drewN | apply Kd.R_drew)); exact HO223.out) (Kd.R_base ho0) hb); have n1_ := Aside0.mk (Kd.R_lower (Kd.R_new' ho0 (Kd.R_lt (by (with_reducible repeat (first | apply Kd.R_alloc | apply Kd.R_drewN | apply Kd.R_drew)); exact HO223.out))) (below_size (by repeat (first | (with_reducible first | exact HB.out | apply below_alloc | apply pw_below_drewN | apply below_drew1) | exact HB.out)))); have n2_ := Aside0.mk (below_step (by repeat (first | (with_reducible first | exact HB.out | apply below_alloc | apply pw_below_drewN | apply below_drew1) | exact HB.out)) hb); clear HO223; clear HB; have HO223 := n0_; have HO228 := n1_; have HB := n2_; clear n0_ n1_ n2_; (try clear hb); (try clear hb2); (try clear hk); (try clear hi); (try clear ho0); obtain ⟨Ao29, co29, eo29⟩ := Kd.R_slice HO223.out; subst eo29) | ((with_reducible refine gate_callee (f := 64) rfl ?_); refine goesL_ (some 27) rfl rfl Try.func64 (by kernel_rfl) rfl #[.slice Ao29 t219.length co29] rfl (by (try simp only [List.map_toArray, List.map_cons, List.map_nil]); first | done | rfl | (simp only [List.length_drop, List.length_take]; rfl)) ?_; (with_reducible refine (norm_Of.calls k _ _ t219 t229 t230 _ ?side1 ?side2 A5.out).mono ?_); (case side1 => repeat (first | exact (Kd.R_reads' HO223.out).2.2 | (with_reducible refine Kd.C_alloc ?_ _) | (with_reducible refine Kd.C_drewN ?_ _) | (with_reducible refine Kd.C_drew ?_))); (case side2 => exact (Kd.R_reads' HO223.out).2.1); rintro e w30 ⟨v231, rfl, ho0, hb⟩; refine ⟨_, rfl, ?_⟩; have n0_ := Aside0.mk (Kd.R_elder' (by (with_reducible repeat (first | apply Kd.R_alloc | apply Kd.R_drewN | apply Kd.R_drew)); exact HO223.out) (Kd.R_base ho0) hb); have n1_ := Aside0.mk (Kd.R_elder' (by (with_reducible repeat (first | apply Kd.R_alloc | apply Kd.R_drewN | apply Kd.R_drew)); exact HO228.out) (Kd.R_base ho0) hb); have n2_ := Aside0.mk (Kd.R_lower (Kd.R_new' (Kd.R_new' ho0 (Kd.R_lt (by (with_reducible repeat (first | apply Kd.R_alloc | apply Kd.R_drewN | apply Kd.R_drew)); exact HO223.out))) (Kd.R_lt (by (with_reducible repeat (first | apply Kd.R_alloc | apply Kd.R_drewN | apply Kd.R_drew)); exact HO228.out))) (below_size (by repeat (first | (with_reducible first | exact HB.out | apply below_alloc | apply pw_below_drewN | apply below_drew1) | exact HB.out)))); have n3_ := Aside0.mk (below_step (by repeat (first | (with_reducible first | exact HB.out | apply below_alloc | apply pw_below_drewN | apply below_drew1) | exact HB.out)) hb); clear HO223; clear HO228; clear HB; have HO223 := n0_; have HO228 := n1_; have HO232 := n2_; have HB := n3_; clear n0_ n1_ n2_ n3_; (try clear hb); (try clear hb2); (try clear hk); (try clear hi); (try clear ho0); obtain ⟨Ao31, co31, eo31⟩ := Kd.R_slice HO232.out; subst eo31; obtain ⟨Ao32, co32, eo32⟩ := Kd.R_slice HO228.out; subst eo32) | (go_at_call 61; (with_reducible refine (stylusref04_Same.calls k _ _ t229 _ _ t224 false _ ?side1 ?side2 ?side3 ?side4 A9.out).mono ?_); (case side1 => repeat (first | exact (Kd.R_reads' HO232.out).2.2 | (with_reducible refine Kd.C_alloc ?_ _) | (with_reducible refine Kd.C_drewN ?_ _) | (with_reducible refine Kd.C_drew ?_))); (case side2 => exact (Kd.R_reads' HO232.out).2.1); (case side3 => repeat (first | exact (Kd.R_reads' HO228.out).2.2 | (with_reducible refine Kd.C_alloc ?_ _) | (with_reducible refine Kd.C_drewN ?_ _) | (with_reducible refine Kd.C_drew ?_))); (case side4 => exact (Kd.R_reads' HO228.out).2.1); rintro e w' ⟨rfl, ⟨nd, rfl⟩⟩))
     go_ret
     exact ⟨by first | rfl | (simp [errW_none, errW_some] <;> rfl) | (simp [*, errW_none, errW_some] <;> rfl), by repeat (first | (with_reducible first | exact HB.out | apply below_alloc | apply pw_below_drewN | apply below_drew1) | exact HB.out)⟩
   ·rw [if_neg c8] at H
    have c8b0 : (t230 == 0) = false := beq_eq_false_iff_ne.mpr c8
    have c8b1 : (t230 != 0) = true := bne_iff_ne.mpr c8
    obtain rfl := Option.some.inj H
    go_enter Try.func109, Try.ntmps109
    go_wp2_with (first | ((with_reducible refine gate_callee (f := 53) rfl ?_); refine goesL_ (some 15) rfl rfl Try.func53 (by kernel_rfl) rfl #[.string a0] rfl (by (try simp only [List.map_toArray, List.map_cons, List.map_nil]); first | done | rfl | (simp only [List.length_drop, List.length_take]; rfl)) ?_; (with_reducible refine (tree_Parse.calls a0 t219 t220 t221 _ A3.out).mono ?_); rintro e w33 ⟨v222, rfl, ho0, hb⟩; refine ⟨_, rfl, ?_⟩; have n0_ := Aside0.mk (Kd.R_lower ho0 (below_size (by repeat (first | (with_reducible first | exact HB.out | apply below_alloc | apply pw_below_drewN | apply below_drew1) | exact HB.out)))); have n1_ := Aside0.mk (below_step (by repeat (first | (with_reducible first | exact HB.out | apply below_alloc | apply pw_below_drewN | apply below_drew1) | exact HB.out)) hb); clear HB; have HO223 := n0_; have HB := n1_; clear n0_ n1_; (try clear hb); (try clear hb2); (try clear hk); (try clear hi); (try clear ho0)) | ((with_reducible refine gate_callee (f := 53) rfl ?_); refine goesL_ (some 21) rfl rfl Try.func53 (by kernel_rfl) rfl #[.string a1] rfl (by (try simp only [List.map_toArray, List.map_cons, List.map_nil]); first | done | rfl | (simp only [List.length_drop, List.length_take]; rfl)) ?_; (with_reducible refine (tree_Parse.calls a1 t224 t225 t226 _ A4.out).mono ?_); rintro e w34 ⟨v227, rfl, ho0, hb⟩; refine ⟨_, rfl, ?_⟩; have n0_ := Aside0.mk (Kd.R_elder' (by (with_reducible repeat (first | apply Kd.R_alloc | apply Kd.R_drewN | apply Kd.R_drew)); exact HO223.out) (Kd.R_base ho0) hb); have n1_ := Aside0.mk (Kd.R_lower (Kd.R_new' ho0 (Kd.R_lt (by (with_reducible repeat (first | apply Kd.R_alloc | apply Kd.R_drewN | apply Kd.R_drew)); exact HO223.out))) (below_size (by repeat (first | (with_reducible first | exact HB.out | apply below_alloc | apply pw_below_drewN | apply below_drew1) | exact HB.out)))); have n2_ := Aside0.mk (below_step (by repeat (first | (with_reducible first | exact HB.out | apply below_alloc | apply pw_below_drewN | apply below_drew1) | exact HB.out)) hb); clear HO223; clear HB; have HO223 := n0_; have HO228 := n1_; have HB := n2_; clear n0_ n1_ n2_; (try clear hb); (try clear hb2); (try clear hk); (try clear hi); (try clear ho0); obtain ⟨Ao35, co35, eo35⟩ := Kd.R_slice HO223.out; subst eo35) | ((with_reducible refine gate_callee (f := 64) rfl ?_); refine goesL_ (some 27) rfl rfl Try.func64 (by kernel_rfl) rfl #[.slice Ao35 t219.length co35] rfl (by (try simp only [List.map_toArray, List.map_cons, List.map_nil]); first | done | rfl | (simp only [List.length_drop, List.length_take]; rfl)) ?_; (with_reducible refine (norm_Of.calls k _ _ t219 t229 t230 _ ?side1 ?side2 A5.out).mono ?_); (case side1 => repeat (first | exact (Kd.R_reads' HO223.out).2.2 | (with_reducible refine Kd.C_alloc ?_ _) | (with_reducible refine Kd.C_drewN ?_ _) | (with_reducible refine Kd.C_drew ?_))); (case side2 => exact (Kd.R_reads' HO223.out).2.1); rintro e w36 ⟨v231, rfl, ho0, hb⟩; refine ⟨_, rfl, ?_⟩; have n0_ := Aside0.mk (Kd.R_elder' (by (with_reducible repeat (first | apply Kd.R_alloc | apply Kd.R_drewN | apply Kd.R_drew)); exact HO223.out) (Kd.R_base ho0) hb); have n1_ := Aside0.mk (Kd.R_elder' (by (with_reducible repeat (first | apply Kd.R_alloc | apply Kd.R_drewN | apply Kd.R_drew)); exact HO228.out) (Kd.R_base ho0) hb); have n2_ := Aside0.mk (Kd.R_lower (Kd.R_new' (Kd.R_new' ho0 (Kd.R_lt (by (with_reducible repeat (first | apply Kd.R_alloc | apply Kd.R_drewN | apply Kd.R_drew)); exact HO223.out))) (Kd.R_lt (by (with_reducible repeat (first | apply Kd.R_alloc | apply Kd.R_drewN | apply Kd.R_drew)); exact HO228.out))) (below_size (by repeat (first | (with_reducible first | exact HB.out | apply below_alloc | apply pw_below_drewN | apply below_drew1) | exact HB.out)))); have n3_ := Aside0.mk (below_step (by repeat (first | (with_reducible first | exact HB.out | apply below_alloc | apply pw_below_drewN | apply below_drew1) | exact HB.out)) hb); clear HO223; clear HO228; clear HB; have HO223 := n0_; have HO228 := n1_; have HO232 := n2_; have HB := n3_; clear n0_ n1_ n2_ n3_; (try clear hb); (try clear hb2); (try clear hk); (try clear hi); (try clear ho0)))
    go_ret
    exact ⟨by first | rfl | (simp [errW_none, errW_some] <;> rfl) | (simp [*, errW_none, errW_some] <;> rfl), by repeat (first | (with_reducible first | exact HB.out | apply below_alloc | apply pw_below_drewN | apply below_drew1) | exact HB.out)⟩
  ·rw [if_neg c7] at H
   have c7b0 : (t226 == 0) = false := beq_eq_false_iff_ne.mpr c7
   have c7b1 : (t226 != 0) = true := bne_iff_ne.mpr c7
   obtain rfl := Option.some.inj H
   go_enter Try.func109, Try.ntmps109
   go_wp2_with (first | ((with_reducible refine gate_callee (f := 53) rfl ?_); refine goesL_ (some 15) rfl rfl Try.func53 (by kernel_rfl) rfl #[.string a0] rfl (by (try simp only [List.map_toArray, List.map_cons, List.map_nil]); first | done | rfl | (simp only [List.length_drop, List.length_take]; rfl)) ?_; (with_reducible refine (tree_Parse.calls a0 t219 t220 t221 _ A3.out).mono ?_); rintro e w37 ⟨v222, rfl, ho0, hb⟩; refine ⟨_, rfl, ?_⟩; have n0_ := Aside0.mk (Kd.R_lower ho0 (below_size (by repeat (first | (with_reducible first | exact HB.out | apply below_alloc | apply pw_below_drewN | apply below_drew1) | exact HB.out)))); have n1_ := Aside0.mk (below_step (by repeat (first | (with_reducible first | exact HB.out | apply below_alloc | apply pw_below_drewN | apply below_drew1) | exact HB.out)) hb); clear HB; have HO223 := n0_; have HB := n1_; clear n0_ n1_; (try clear hb); (try clear hb2); (try clear hk); (try clear hi); (try clear ho0)) | ((with_reducible refine gate_callee (f := 53) rfl ?_); refine goesL_ (some 21) rfl rfl Try.func53 (by kernel_rfl) rfl #[.string a1] rfl (by (try simp only [List.map_toArray, List.map_cons, List.map_nil]); first | done | rfl | (simp only [List.length_drop, List.length_take]; rfl)) ?_; (with_reducible refine (tree_Parse.calls a1 t224 t225 t226 _ A4.out).mono ?_); rintro e w38 ⟨v227, rfl, ho0, hb⟩; refine ⟨_, rfl, ?_⟩; have n0_ := Aside0.mk (Kd.R_elder' (by (with_reducible repeat (first | apply Kd.R_alloc | apply Kd.R_drewN | apply Kd.R_drew)); exact HO223.out) (Kd.R_base ho0) hb); have n1_ := Aside0.mk (Kd.R_lower (Kd.R_new' ho0 (Kd.R_lt (by (with_reducible repeat (first | apply Kd.R_alloc | apply Kd.R_drewN | apply Kd.R_drew)); exact HO223.out))) (below_size (by repeat (first | (with_reducible first | exact HB.out | apply below_alloc | apply pw_below_drewN | apply below_drew1) | exact HB.out)))); have n2_ := Aside0.mk (below_step (by repeat (first | (with_reducible first | exact HB.out | apply below_alloc | apply pw_below_drewN | apply below_drew1) | exact HB.out)) hb); clear HO223; clear HB; have HO223 := n0_; have HO228 := n1_; have HB := n2_; clear n0_ n1_ n2_; (try clear hb); (try clear hb2); (try clear hk); (try clear hi); (try clear ho0); obtain ⟨Ao39, co39, eo39⟩ := Kd.R_slice HO223.out; subst eo39) | ((with_reducible refine gate_callee (f := 64) rfl ?_); refine goesL_ (some 27) rfl rfl Try.func64 (by kernel_rfl) rfl #[.slice Ao39 t219.length co39] rfl (by (try simp only [List.map_toArray, List.map_cons, List.map_nil]); first | done | rfl | (simp only [List.length_drop, List.length_take]; rfl)) ?_; (with_reducible refine (norm_Of.calls k _ _ t219 t229 t230 _ ?side1 ?side2 A5.out).mono ?_); (case side1 => repeat (first | exact (Kd.R_reads' HO223.out).2.2 | (with_reducible refine Kd.C_alloc ?_ _) | (with_reducible refine Kd.C_drewN ?_ _) | (with_reducible refine Kd.C_drew ?_))); (case side2 => exact (Kd.R_reads' HO223.out).2.1); rintro e w40 ⟨v231, rfl, ho0, hb⟩; refine ⟨_, rfl, ?_⟩; have n0_ := Aside0.mk (Kd.R_elder' (by (with_reducible repeat (first | apply Kd.R_alloc | apply Kd.R_drewN | apply Kd.R_drew)); exact HO223.out) (Kd.R_base ho0) hb); have n1_ := Aside0.mk (Kd.R_elder' (by (with_reducible repeat (first | apply Kd.R_alloc | apply Kd.R_drewN | apply Kd.R_drew)); exact HO228.out) (Kd.R_base ho0) hb); have n2_ := Aside0.mk (Kd.R_lower (Kd.R_new' (Kd.R_new' ho0 (Kd.R_lt (by (with_reducible repeat (first | apply Kd.R_alloc | apply Kd.R_drewN | apply Kd.R_drew)); exact HO223.out))) (Kd.R_lt (by (with_reducible repeat (first | apply Kd.R_alloc | apply Kd.R_drewN | apply Kd.R_drew)); exact HO228.out))) (below_size (by repeat (first | (with_reducible first | exact HB.out | apply below_alloc | apply pw_below_drewN | apply below_drew1) | exact HB.out)))); have n3_ := Aside0.mk (below_step (by repeat (first | (with_reducible first | exact HB.out | apply below_alloc | apply pw_below_drewN | apply below_drew1) | exact HB.out)) hb); clear HO223; clear HO228; clear HB; have HO223 := n0_; have HO228 := n1_; have HO232 := n2_; have HB := n3_; clear n0_ n1_ n2_ n3_; (try clear hb); (try clear hb2); (try clear hk); (try clear hi); (try clear ho0)))
   go_ret
   exact ⟨by first | rfl | (simp [errW_none, errW_some] <;> rfl) | (simp [*, errW_none, errW_some] <;> rfl), by repeat (first | (with_reducible first | exact HB.out | apply below_alloc | apply pw_below_drewN | apply below_drew1) | exact HB.out)⟩
 ·rw [if_neg c6] at H
  have c6b0 : (t221 == 0) = false := beq_eq_false_iff_ne.mpr c6
  have c6b1 : (t221 != 0) = true := bne_iff_ne.mpr c6
  obtain rfl := Option.some.inj H
  go_enter Try.func109, Try.ntmps109
  go_wp2_with (first | ((with_reducible refine gate_callee (f := 53) rfl ?_); refine goesL_ (some 15) rfl rfl Try.func53 (by kernel_rfl) rfl #[.string a0] rfl (by (try simp only [List.map_toArray, List.map_cons, List.map_nil]); first | done | rfl | (simp only [List.length_drop, List.length_take]; rfl)) ?_; (with_reducible refine (tree_Parse.calls a0 t219 t220 t221 _ A3.out).mono ?_); rintro e w41 ⟨v222, rfl, ho0, hb⟩; refine ⟨_, rfl, ?_⟩; have n0_ := Aside0.mk (Kd.R_lower ho0 (below_size (by repeat (first | (with_reducible first | exact HB.out | apply below_alloc | apply pw_below_drewN | apply below_drew1) | exact HB.out)))); have n1_ := Aside0.mk (below_step (by repeat (first | (with_reducible first | exact HB.out | apply below_alloc | apply pw_below_drewN | apply below_drew1) | exact HB.out)) hb); clear HB; have HO223 := n0_; have HB := n1_; clear n0_ n1_; (try clear hb); (try clear hb2); (try clear hk); (try clear hi); (try clear ho0)) | ((with_reducible refine gate_callee (f := 53) rfl ?_); refine goesL_ (some 21) rfl rfl Try.func53 (by kernel_rfl) rfl #[.string a1] rfl (by (try simp only [List.map_toArray, List.map_cons, List.map_nil]); first | done | rfl | (simp only [List.length_drop, List.length_take]; rfl)) ?_; (with_reducible refine (tree_Parse.calls a1 t224 t225 t226 _ A4.out).mono ?_); rintro e w42 ⟨v227, rfl, ho0, hb⟩; refine ⟨_, rfl, ?_⟩; have n0_ := Aside0.mk (Kd.R_elder' (by (with_reducible repeat (first | apply Kd.R_alloc | apply Kd.R_drewN | apply Kd.R_drew)); exact HO223.out) (Kd.R_base ho0) hb); have n1_ := Aside0.mk (Kd.R_lower (Kd.R_new' ho0 (Kd.R_lt (by (with_reducible repeat (first | apply Kd.R_alloc | apply Kd.R_drewN | apply Kd.R_drew)); exact HO223.out))) (below_size (by repeat (first | (with_reducible first | exact HB.out | apply below_alloc | apply pw_below_drewN | apply below_drew1) | exact HB.out)))); have n2_ := Aside0.mk (below_step (by repeat (first | (with_reducible first | exact HB.out | apply below_alloc | apply pw_below_drewN | apply below_drew1) | exact HB.out)) hb); clear HO223; clear HB; have HO223 := n0_; have HO228 := n1_; have HB := n2_; clear n0_ n1_ n2_; (try clear hb); (try clear hb2); (try clear hk); (try clear hi); (try clear ho0); obtain ⟨Ao43, co43, eo43⟩ := Kd.R_slice HO223.out; subst eo43) | ((with_reducible refine gate_callee (f := 64) rfl ?_); refine goesL_ (some 27) rfl rfl Try.func64 (by kernel_rfl) rfl #[.slice Ao43 t219.length co43] rfl (by (try simp only [List.map_toArray, List.map_cons, List.map_nil]); first | done | rfl | (simp only [List.length_drop, List.length_take]; rfl)) ?_; (with_reducible refine (norm_Of.calls k _ _ t219 t229 t230 _ ?side1 ?side2 A5.out).mono ?_); (case side1 => repeat (first | exact (Kd.R_reads' HO223.out).2.2 | (with_reducible refine Kd.C_alloc ?_ _) | (with_reducible refine Kd.C_drewN ?_ _) | (with_reducible refine Kd.C_drew ?_))); (case side2 => exact (Kd.R_reads' HO223.out).2.1); rintro e w44 ⟨v231, rfl, ho0, hb⟩; refine ⟨_, rfl, ?_⟩; have n0_ := Aside0.mk (Kd.R_elder' (by (with_reducible repeat (first | apply Kd.R_alloc | apply Kd.R_drewN | apply Kd.R_drew)); exact HO223.out) (Kd.R_base ho0) hb); have n1_ := Aside0.mk (Kd.R_elder' (by (with_reducible repeat (first | apply Kd.R_alloc | apply Kd.R_drewN | apply Kd.R_drew)); exact HO228.out) (Kd.R_base ho0) hb); have n2_ := Aside0.mk (Kd.R_lower (Kd.R_new' (Kd.R_new' ho0 (Kd.R_lt (by (with_reducible repeat (first | apply Kd.R_alloc | apply Kd.R_drewN | apply Kd.R_drew)); exact HO223.out))) (Kd.R_lt (by (with_reducible repeat (first | apply Kd.R_alloc | apply Kd.R_drewN | apply Kd.R_drew)); exact HO228.out))) (below_size (by repeat (first | (with_reducible first | exact HB.out | apply below_alloc | apply pw_below_drewN | apply below_drew1) | exact HB.out)))); have n3_ := Aside0.mk (below_step (by repeat (first | (with_reducible first | exact HB.out | apply below_alloc | apply pw_below_drewN | apply below_drew1) | exact HB.out)) hb); clear HO223; clear HO228; clear HB; have HO223 := n0_; have HO228 := n1_; have HO232 := n2_; have HB := n3_; clear n0_ n1_ n2_ n3_; (try clear hb); (try clear hb2); (try clear hk); (try clear hi); (try clear ho0)))
  go_ret
  exact ⟨by first | rfl | (simp [errW_none, errW_some] <;> rfl) | (simp [*, errW_none, errW_some] <;> rfl), by repeat (first | (with_reducible first | exact HB.out | apply below_alloc | apply pw_below_drewN | apply below_drew1) | exact HB.out)⟩
def styluslaw05_awake.f (k : Nat)  : Option (Bool) := (styluslaw05_alike.f k (⟨#[123, 112, 32, 32, 97, 32, 32, 98, 32, 125]⟩ : ByteArray) (⟨#[123, 112, 32, 97, 32, 98, 125]⟩ : ByteArray)).bind fun t235 => (if t235 = true then ((styluslaw05_alike.f k (⟨#[123, 112, 32, 97, 32, 123, 101, 32, 32, 98, 32, 125, 99, 123, 110, 32, 32, 120, 32, 125, 32, 100, 125]⟩ : ByteArray) (⟨#[123, 112, 32, 97, 32, 123, 101, 32, 98, 32, 125, 99, 123, 110, 32, 120, 125, 32, 100, 125]⟩ : ByteArray)).bind fun t236 => (if t236 = true then ((styluslaw05_alike.f k (⟨#[123, 112, 32, 123, 101, 32, 125, 32, 123, 115, 32, 97, 125, 125]⟩ : ByteArray) (⟨#[123, 112, 32, 123, 101, 32, 125, 123, 115, 32, 97, 125, 125]⟩ : ByteArray)).bind fun t237 => (if t237 = true then ((styluslaw05_alike.f k (⟨#[123, 112, 32, 97, 123, 101, 32, 32, 125, 125]⟩ : ByteArray) (⟨#[123, 112, 32, 97, 123, 101, 32, 125, 125]⟩ : ByteArray)).bind fun t238 => (some t238)) else (some false))) else (some false))) else (some false))
theorem styluslaw05_awake.mono : ∀ k, LeO (styluslaw05_awake.f k ) (styluslaw05_awake.f (k + 1) ) := by
 intro  k
 unfold styluslaw05_awake.f
 repeat' first
   | (with_reducible exact styluslaw05_alike.mono _ _ _)
   | (with_reducible exact LeO.refl _)
   | (with_reducible exact LeO.none _)
   | (with_reducible refine LeO.ite ?_ ?_)
   | (with_reducible refine LeO.bind ?_ (fun _ => ?_))
   | exact styluslaw05_alike.mono _ _ _
   | exact LeO.none _
   | refine LeO.ite ?_ ?_
   | refine LeO.bind ?_ (fun _ => ?_)
set_option maxHeartbeats 8000000 in
set_option maxRecDepth 100000 in
theorem styluslaw05_awake.calls (k : Nat)  (r : Bool) (w : World) (h : styluslaw05_awake.f k  = some r) :
  Calls Try.prog 63 #[] w fun e w' => e = .returned (.bool r) ∧ Below w.heap.size w w' := by
 have HB := Aside0.mk (Below.refl w.heap.size w)
 have H : ((styluslaw05_alike.f k (⟨#[123, 112, 32, 32, 97, 32, 32, 98, 32, 125]⟩ : ByteArray) (⟨#[123, 112, 32, 97, 32, 98, 125]⟩ : ByteArray)).bind fun t235 => (if t235 = true then ((styluslaw05_alike.f k (⟨#[123, 112, 32, 97, 32, 123, 101, 32, 32, 98, 32, 125, 99, 123, 110, 32, 32, 120, 32, 125, 32, 100, 125]⟩ : ByteArray) (⟨#[123, 112, 32, 97, 32, 123, 101, 32, 98, 32, 125, 99, 123, 110, 32, 120, 125, 32, 100, 125]⟩ : ByteArray)).bind fun t236 => (if t236 = true then ((styluslaw05_alike.f k (⟨#[123, 112, 32, 123, 101, 32, 125, 32, 123, 115, 32, 97, 125, 125]⟩ : ByteArray) (⟨#[123, 112, 32, 123, 101, 32, 125, 123, 115, 32, 97, 125, 125]⟩ : ByteArray)).bind fun t237 => (if t237 = true then ((styluslaw05_alike.f k (⟨#[123, 112, 32, 97, 123, 101, 32, 32, 125, 125]⟩ : ByteArray) (⟨#[123, 112, 32, 97, 123, 101, 32, 125, 125]⟩ : ByteArray)).bind fun t238 => (some t238)) else (some false))) else (some false))) else (some false))) = some r := h
 clear h
 replace H := Option.bind_eq_some_iff.mp H
 obtain ⟨t235, A10, H⟩ := H
 replace H : (if t235 = true then ((styluslaw05_alike.f k (⟨#[123, 112, 32, 97, 32, 123, 101, 32, 32, 98, 32, 125, 99, 123, 110, 32, 32, 120, 32, 125, 32, 100, 125]⟩ : ByteArray) (⟨#[123, 112, 32, 97, 32, 123, 101, 32, 98, 32, 125, 99, 123, 110, 32, 120, 125, 32, 100, 125]⟩ : ByteArray)).bind fun t236 => (if t236 = true then ((styluslaw05_alike.f k (⟨#[123, 112, 32, 123, 101, 32, 125, 32, 123, 115, 32, 97, 125, 125]⟩ : ByteArray) (⟨#[123, 112, 32, 123, 101, 32, 125, 123, 115, 32, 97, 125, 125]⟩ : ByteArray)).bind fun t237 => (if t237 = true then ((styluslaw05_alike.f k (⟨#[123, 112, 32, 97, 123, 101, 32, 32, 125, 125]⟩ : ByteArray) (⟨#[123, 112, 32, 97, 123, 101, 32, 125, 125]⟩ : ByteArray)).bind fun t238 => (some t238)) else (some false))) else (some false))) else (some false)) = some r := H
 have A1 := Aside0.mk A10
 clear A10
 by_cases c2 : t235 = true
 ·subst c2
  have H1 : ((styluslaw05_alike.f k (⟨#[123, 112, 32, 97, 32, 123, 101, 32, 32, 98, 32, 125, 99, 123, 110, 32, 32, 120, 32, 125, 32, 100, 125]⟩ : ByteArray) (⟨#[123, 112, 32, 97, 32, 123, 101, 32, 98, 32, 125, 99, 123, 110, 32, 120, 125, 32, 100, 125]⟩ : ByteArray)).bind fun t236 => (if t236 = true then ((styluslaw05_alike.f k (⟨#[123, 112, 32, 123, 101, 32, 125, 32, 123, 115, 32, 97, 125, 125]⟩ : ByteArray) (⟨#[123, 112, 32, 123, 101, 32, 125, 123, 115, 32, 97, 125, 125]⟩ : ByteArray)).bind fun t237 => (if t237 = true then ((styluslaw05_alike.f k (⟨#[123, 112, 32, 97, 123, 101, 32, 32, 125, 125]⟩ : ByteArray) (⟨#[123, 112, 32, 97, 123, 101, 32, 125, 125]⟩ : ByteArray)).bind fun t238 => (some t238)) else (some false))) else (some false))) = some r := by rw [if_pos rfl] at H; exact H
  clear H
  have H := H1
  clear H1
  replace H := Option.bind_eq_some_iff.mp H
  obtain ⟨t236, A30, H⟩ := H
  replace H : (if t236 = true then ((styluslaw05_alike.f k (⟨#[123, 112, 32, 123, 101, 32, 125, 32, 123, 115, 32, 97, 125, 125]⟩ : ByteArray) (⟨#[123, 112, 32, 123, 101, 32, 125, 123, 115, 32, 97, 125, 125]⟩ : ByteArray)).bind fun t237 => (if t237 = true then ((styluslaw05_alike.f k (⟨#[123, 112, 32, 97, 123, 101, 32, 32, 125, 125]⟩ : ByteArray) (⟨#[123, 112, 32, 97, 123, 101, 32, 125, 125]⟩ : ByteArray)).bind fun t238 => (some t238)) else (some false))) else (some false)) = some r := H
  have A3 := Aside0.mk A30
  clear A30
  by_cases c4 : t236 = true
  ·subst c4
   have H1 : ((styluslaw05_alike.f k (⟨#[123, 112, 32, 123, 101, 32, 125, 32, 123, 115, 32, 97, 125, 125]⟩ : ByteArray) (⟨#[123, 112, 32, 123, 101, 32, 125, 123, 115, 32, 97, 125, 125]⟩ : ByteArray)).bind fun t237 => (if t237 = true then ((styluslaw05_alike.f k (⟨#[123, 112, 32, 97, 123, 101, 32, 32, 125, 125]⟩ : ByteArray) (⟨#[123, 112, 32, 97, 123, 101, 32, 125, 125]⟩ : ByteArray)).bind fun t238 => (some t238)) else (some false))) = some r := by rw [if_pos rfl] at H; exact H
   clear H
   have H := H1
   clear H1
   replace H := Option.bind_eq_some_iff.mp H
   obtain ⟨t237, A50, H⟩ := H
   replace H : (if t237 = true then ((styluslaw05_alike.f k (⟨#[123, 112, 32, 97, 123, 101, 32, 32, 125, 125]⟩ : ByteArray) (⟨#[123, 112, 32, 97, 123, 101, 32, 125, 125]⟩ : ByteArray)).bind fun t238 => (some t238)) else (some false)) = some r := H
   have A5 := Aside0.mk A50
   clear A50
   by_cases c6 : t237 = true
   ·subst c6
    have H1 : ((styluslaw05_alike.f k (⟨#[123, 112, 32, 97, 123, 101, 32, 32, 125, 125]⟩ : ByteArray) (⟨#[123, 112, 32, 97, 123, 101, 32, 125, 125]⟩ : ByteArray)).bind fun t238 => (some t238)) = some r := by rw [if_pos rfl] at H; exact H
    clear H
    have H := H1
    clear H1
    replace H := Option.bind_eq_some_iff.mp H
    obtain ⟨t238, A70, H⟩ := H
    replace H : (some t238) = some r := H
    have A7 := Aside0.mk A70
    clear A70
    obtain rfl := Option.some.inj H
    go_enter Try.func63, Try.ntmps63
    go_wp2_with (first | ((with_reducible refine gate_callee (f := 109) rfl ?_); refine goesL_ (some 1) rfl rfl Try.func109 (by kernel_rfl) rfl #[.string (⟨#[123, 112, 32, 32, 97, 32, 32, 98, 32, 125]⟩ : ByteArray), .string (⟨#[123, 112, 32, 97, 32, 98, 125]⟩ : ByteArray)] rfl (by (try simp only [List.map_toArray, List.map_cons, List.map_nil]); first | done | rfl | (simp only [List.length_drop, List.length_take]; rfl)) ?_; (with_reducible refine (styluslaw05_alike.calls k (⟨#[123, 112, 32, 32, 97, 32, 32, 98, 32, 125]⟩ : ByteArray) (⟨#[123, 112, 32, 97, 32, 98, 125]⟩ : ByteArray) true _ A1.out).mono ?_); rintro e w8 ⟨rfl, hb⟩; refine ⟨_, rfl, ?_⟩; have n0_ := Aside0.mk (below_step (by repeat (first | (with_reducible first | exact HB.out | apply below_alloc | apply pw_below_drewN | apply below_drew1) | exact HB.out)) hb); clear HB; have HB := n0_; clear n0_; (try clear hb); (try clear hb2); (try clear hk); (try clear hi)) | (go_at_call 109; (with_reducible refine (styluslaw05_alike.calls k (⟨#[123, 112, 32, 97, 32, 123, 101, 32, 32, 98, 32, 125, 99, 123, 110, 32, 32, 120, 32, 125, 32, 100, 125]⟩ : ByteArray) (⟨#[123, 112, 32, 97, 32, 123, 101, 32, 98, 32, 125, 99, 123, 110, 32, 120, 125, 32, 100, 125]⟩ : ByteArray) true _ A3.out).mono ?_); rintro e w9 ⟨rfl, hb⟩; have n0_ := Aside0.mk (below_step (by repeat (first | (with_reducible first | exact HB.out | apply below_alloc | apply pw_below_drewN | apply below_drew1) | exact HB.out)) hb); clear HB; have HB := n0_; clear n0_; (try clear hb); (try clear hb2); (try clear hk); (try clear hi)) | (go_at_call 109; (with_reducible refine (styluslaw05_alike.calls k (⟨#[123, 112, 32, 123, 101, 32, 125, 32, 123, 115, 32, 97, 125, 125]⟩ : ByteArray) (⟨#[123, 112, 32, 123, 101, 32, 125, 123, 115, 32, 97, 125, 125]⟩ : ByteArray) true _ A5.out).mono ?_); rintro e w10 ⟨rfl, hb⟩; have n0_ := Aside0.mk (below_step (by repeat (first | (with_reducible first | exact HB.out | apply below_alloc | apply pw_below_drewN | apply below_drew1) | exact HB.out)) hb); clear HB; have HB := n0_; clear n0_; (try clear hb); (try clear hb2); (try clear hk); (try clear hi)) | (go_at_call 109; (with_reducible refine (styluslaw05_alike.calls k (⟨#[123, 112, 32, 97, 123, 101, 32, 32, 125, 125]⟩ : ByteArray) (⟨#[123, 112, 32, 97, 123, 101, 32, 125, 125]⟩ : ByteArray) t238 _ A7.out).mono ?_); rintro e w11 ⟨rfl, hb⟩; have n0_ := Aside0.mk (below_step (by repeat (first | (with_reducible first | exact HB.out | apply below_alloc | apply pw_below_drewN | apply below_drew1) | exact HB.out)) hb); clear HB; have HB := n0_; clear n0_; (try clear hb); (try clear hb2); (try clear hk); (try clear hi)))
    go_ret
    exact ⟨by first | rfl | (simp [errW_none, errW_some] <;> rfl) | (simp [*, errW_none, errW_some] <;> rfl), by repeat (first | (with_reducible first | exact HB.out | apply below_alloc | apply pw_below_drewN | apply below_drew1) | exact HB.out)⟩
   ·replace c6 := Bool.eq_false_iff.mpr c6
    subst c6
    have H1 : (some false) = some r := by rw [if_neg (show ¬ (false = true) by decide)] at H; exact H
    clear H
    have H := H1
    clear H1
    obtain rfl := Option.some.inj H
    go_enter Try.func63, Try.ntmps63
    go_wp2_with (first | ((with_reducible refine gate_callee (f := 109) rfl ?_); refine goesL_ (some 1) rfl rfl Try.func109 (by kernel_rfl) rfl #[.string (⟨#[123, 112, 32, 32, 97, 32, 32, 98, 32, 125]⟩ : ByteArray), .string (⟨#[123, 112, 32, 97, 32, 98, 125]⟩ : ByteArray)] rfl (by (try simp only [List.map_toArray, List.map_cons, List.map_nil]); first | done | rfl | (simp only [List.length_drop, List.length_take]; rfl)) ?_; (with_reducible refine (styluslaw05_alike.calls k (⟨#[123, 112, 32, 32, 97, 32, 32, 98, 32, 125]⟩ : ByteArray) (⟨#[123, 112, 32, 97, 32, 98, 125]⟩ : ByteArray) true _ A1.out).mono ?_); rintro e w12 ⟨rfl, hb⟩; refine ⟨_, rfl, ?_⟩; have n0_ := Aside0.mk (below_step (by repeat (first | (with_reducible first | exact HB.out | apply below_alloc | apply pw_below_drewN | apply below_drew1) | exact HB.out)) hb); clear HB; have HB := n0_; clear n0_; (try clear hb); (try clear hb2); (try clear hk); (try clear hi)) | (go_at_call 109; (with_reducible refine (styluslaw05_alike.calls k (⟨#[123, 112, 32, 97, 32, 123, 101, 32, 32, 98, 32, 125, 99, 123, 110, 32, 32, 120, 32, 125, 32, 100, 125]⟩ : ByteArray) (⟨#[123, 112, 32, 97, 32, 123, 101, 32, 98, 32, 125, 99, 123, 110, 32, 120, 125, 32, 100, 125]⟩ : ByteArray) true _ A3.out).mono ?_); rintro e w13 ⟨rfl, hb⟩; have n0_ := Aside0.mk (below_step (by repeat (first | (with_reducible first | exact HB.out | apply below_alloc | apply pw_below_drewN | apply below_drew1) | exact HB.out)) hb); clear HB; have HB := n0_; clear n0_; (try clear hb); (try clear hb2); (try clear hk); (try clear hi)) | (go_at_call 109; (with_reducible refine (styluslaw05_alike.calls k (⟨#[123, 112, 32, 123, 101, 32, 125, 32, 123, 115, 32, 97, 125, 125]⟩ : ByteArray) (⟨#[123, 112, 32, 123, 101, 32, 125, 123, 115, 32, 97, 125, 125]⟩ : ByteArray) false _ A5.out).mono ?_); rintro e w14 ⟨rfl, hb⟩; have n0_ := Aside0.mk (below_step (by repeat (first | (with_reducible first | exact HB.out | apply below_alloc | apply pw_below_drewN | apply below_drew1) | exact HB.out)) hb); clear HB; have HB := n0_; clear n0_; (try clear hb); (try clear hb2); (try clear hk); (try clear hi)))
    go_ret
    exact ⟨by first | rfl | (simp [errW_none, errW_some] <;> rfl) | (simp [*, errW_none, errW_some] <;> rfl), by repeat (first | (with_reducible first | exact HB.out | apply below_alloc | apply pw_below_drewN | apply below_drew1) | exact HB.out)⟩
  ·replace c4 := Bool.eq_false_iff.mpr c4
   subst c4
   have H1 : (some false) = some r := by rw [if_neg (show ¬ (false = true) by decide)] at H; exact H
   clear H
   have H := H1
   clear H1
   obtain rfl := Option.some.inj H
   go_enter Try.func63, Try.ntmps63
   go_wp2_with (first | ((with_reducible refine gate_callee (f := 109) rfl ?_); refine goesL_ (some 1) rfl rfl Try.func109 (by kernel_rfl) rfl #[.string (⟨#[123, 112, 32, 32, 97, 32, 32, 98, 32, 125]⟩ : ByteArray), .string (⟨#[123, 112, 32, 97, 32, 98, 125]⟩ : ByteArray)] rfl (by (try simp only [List.map_toArray, List.map_cons, List.map_nil]); first | done | rfl | (simp only [List.length_drop, List.length_take]; rfl)) ?_; (with_reducible refine (styluslaw05_alike.calls k (⟨#[123, 112, 32, 32, 97, 32, 32, 98, 32, 125]⟩ : ByteArray) (⟨#[123, 112, 32, 97, 32, 98, 125]⟩ : ByteArray) true _ A1.out).mono ?_); rintro e w15 ⟨rfl, hb⟩; refine ⟨_, rfl, ?_⟩; have n0_ := Aside0.mk (below_step (by repeat (first | (with_reducible first | exact HB.out | apply below_alloc | apply pw_below_drewN | apply below_drew1) | exact HB.out)) hb); clear HB; have HB := n0_; clear n0_; (try clear hb); (try clear hb2); (try clear hk); (try clear hi)) | (go_at_call 109; (with_reducible refine (styluslaw05_alike.calls k (⟨#[123, 112, 32, 97, 32, 123, 101, 32, 32, 98, 32, 125, 99, 123, 110, 32, 32, 120, 32, 125, 32, 100, 125]⟩ : ByteArray) (⟨#[123, 112, 32, 97, 32, 123, 101, 32, 98, 32, 125, 99, 123, 110, 32, 120, 125, 32, 100, 125]⟩ : ByteArray) false _ A3.out).mono ?_); rintro e w16 ⟨rfl, hb⟩; have n0_ := Aside0.mk (below_step (by repeat (first | (with_reducible first | exact HB.out | apply below_alloc | apply pw_below_drewN | apply below_drew1) | exact HB.out)) hb); clear HB; have HB := n0_; clear n0_; (try clear hb); (try clear hb2); (try clear hk); (try clear hi)))
   go_ret
   exact ⟨by first | rfl | (simp [errW_none, errW_some] <;> rfl) | (simp [*, errW_none, errW_some] <;> rfl), by repeat (first | (with_reducible first | exact HB.out | apply below_alloc | apply pw_below_drewN | apply below_drew1) | exact HB.out)⟩
 ·replace c2 := Bool.eq_false_iff.mpr c2
  subst c2
  have H1 : (some false) = some r := by rw [if_neg (show ¬ (false = true) by decide)] at H; exact H
  clear H
  have H := H1
  clear H1
  obtain rfl := Option.some.inj H
  go_enter Try.func63, Try.ntmps63
  go_wp2_with (first | ((with_reducible refine gate_callee (f := 109) rfl ?_); refine goesL_ (some 1) rfl rfl Try.func109 (by kernel_rfl) rfl #[.string (⟨#[123, 112, 32, 32, 97, 32, 32, 98, 32, 125]⟩ : ByteArray), .string (⟨#[123, 112, 32, 97, 32, 98, 125]⟩ : ByteArray)] rfl (by (try simp only [List.map_toArray, List.map_cons, List.map_nil]); first | done | rfl | (simp only [List.length_drop, List.length_take]; rfl)) ?_; (with_reducible refine (styluslaw05_alike.calls k (⟨#[123, 112, 32, 32, 97, 32, 32, 98, 32, 125]⟩ : ByteArray) (⟨#[123, 112, 32, 97, 32, 98, 125]⟩ : ByteArray) false _ A1.out).mono ?_); rintro e w17 ⟨rfl, hb⟩; refine ⟨_, rfl, ?_⟩; have n0_ := Aside0.mk (below_step (by repeat (first | (with_reducible first | exact HB.out | apply below_alloc | apply pw_below_drewN | apply below_drew1) | exact HB.out)) hb); clear HB; have HB := n0_; clear n0_; (try clear hb); (try clear hb2); (try clear hk); (try clear hi)))
  go_ret
  exact ⟨by first | rfl | (simp [errW_none, errW_some] <;> rfl) | (simp [*, errW_none, errW_some] <;> rfl), by repeat (first | (with_reducible first | exact HB.out | apply below_alloc | apply pw_below_drewN | apply below_drew1) | exact HB.out)⟩
def stylusref05_parent.l0 : Nat → List (S56) → Int → Int → Option (Int)
 | 0, _, _, _ => none
 | k + 1, x0, x1, x5 => if x5 ≥ 0 then (if 0 ≤ x5 then (if x5 < (x0.length : Int) then (if x1 < (wrap64 (x5 + ((rd_T56 x0 x5).f3))) then (some x5) else (stylusref05_parent.l0 k x0 x1 (wrap64 (x5 - 1)))) else (none)) else (none)) else (some (-1))
def stylusref05_parent.f (k : Nat) (l0 : List (S56)) (a1 : Int) : Option (Int) := stylusref05_parent.l0 k l0 a1 (wrap64 (a1 - 1))
theorem stylusref05_parent.mono_l : ∀ k, (∀ y0 y1 y2, LeO (stylusref05_parent.l0 k y0 y1 y2) (stylusref05_parent.l0 (k + 1) y0 y1 y2))
 | 0 => fun _ _ _ r h => by simp [stylusref05_parent.l0] at h
 | k + 1 => by
  have ih0 := stylusref05_parent.mono_l k
  ·intro y0 y1 y2
   unfold stylusref05_parent.l0
   repeat' first
   | (with_reducible exact ih0 _ _ _)
   | (with_reducible exact LeO.refl _)
   | (with_reducible exact LeO.none _)
   | (with_reducible refine LeO.ite ?_ ?_)
   | (with_reducible refine LeO.bind ?_ (fun _ => ?_))
   | exact ih0 _ _ _
   | exact LeO.none _
   | refine LeO.ite ?_ ?_
   | refine LeO.bind ?_ (fun _ => ?_)
theorem stylusref05_parent.mono : ∀ a0 a1 k, LeO (stylusref05_parent.f k a0 a1) (stylusref05_parent.f (k + 1) a0 a1) := by
 intro a0 a1 k
 have ih0 := stylusref05_parent.mono_l k
 unfold stylusref05_parent.f
 repeat' first
   | (with_reducible exact ih0 _ _ _)
   | (with_reducible exact LeO.refl _)
   | (with_reducible exact LeO.none _)
   | (with_reducible refine LeO.ite ?_ ?_)
   | (with_reducible refine LeO.bind ?_ (fun _ => ?_))
   | exact ih0 _ _ _
   | exact LeO.none _
   | refine LeO.ite ?_ ?_
   | refine LeO.bind ?_ (fun _ => ?_)
def stylusref05_without.l0 : Nat → List (S56) → Int → List (S56) → Int → Option ((List (S56)))
 | 0, _, _, _, _ => none
 | k + 1, x0, x1, x5, x6 => if x6 < x1 then (if 0 ≤ x6 then (if x6 < (x0.length : Int) then (if x1 < (wrap64 (x6 + ((rd_T56 x0 x6).f3))) then (if x6 < (x5.length : Int) then (stylusref05_without.l0 k x0 x1 (x5.set (x6 : Int).toNat (⟨(rd_T56 x5 x6).f0, (rd_T56 x5 x6).f1, (rd_T56 x5 x6).f2, wrap64 (((rd_T56 x5 x6).f3) - 1)⟩ : S56)) (wrap64 (x6 + 1))) else (none)) else (stylusref05_without.l0 k x0 x1 x5 (wrap64 (x6 + 1)))) else (none)) else (none)) else (if 0 ≤ (wrap64 (x1 + 1)) then (if (wrap64 (x1 + 1)) ≤ (x0.length : Int) then ((some (x0.drop ((wrap64 (x1 + 1)) : Int).toNat : List (S56))).bind fun y393 => (if x5.length + y393.length < 3518437208883 then (some (x5 ++ y393)) else (none))) else (none)) else (none))
def stylusref05_without.f (k : Nat) (l0 : List (S56)) (a1 : Int) : Option ((List (S56))) := (some (([] : List (S56)) : List (S56))).bind fun y380 => (if 0 ≤ a1 then (if a1 ≤ (l0.length : Int) then ((some (l0.take (a1 : Int).toNat : List (S56))).bind fun y383 => (if y380.length + y383.length < 3518437208883 then (stylusref05_without.l0 k l0 a1 (y380 ++ y383) 0) else (none))) else (none)) else (none))
theorem stylusref05_without.mono_l : ∀ k, (∀ y0 y1 y2 y3, LeO (stylusref05_without.l0 k y0 y1 y2 y3) (stylusref05_without.l0 (k + 1) y0 y1 y2 y3))
 | 0 => fun _ _ _ _ r h => by simp [stylusref05_without.l0] at h
 | k + 1 => by
  have ih0 := stylusref05_without.mono_l k
  ·intro y0 y1 y2 y3
   unfold stylusref05_without.l0
   repeat' first
   | (with_reducible exact ih0 _ _ _ _)
   | (with_reducible exact LeO.refl _)
   | (with_reducible exact LeO.none _)
   | (with_reducible refine LeO.ite ?_ ?_)
   | (with_reducible refine LeO.bind ?_ (fun _ => ?_))
   | exact ih0 _ _ _ _
   | exact LeO.none _
   | refine LeO.ite ?_ ?_
   | refine LeO.bind ?_ (fun _ => ?_)
theorem stylusref05_without.mono : ∀ a0 a1 k, LeO (stylusref05_without.f k a0 a1) (stylusref05_without.f (k + 1) a0 a1) := by
 intro a0 a1 k
 have ih0 := stylusref05_without.mono_l k
 unfold stylusref05_without.f
 repeat' first
   | (with_reducible exact ih0 _ _ _ _)
   | (with_reducible exact LeO.refl _)
   | (with_reducible exact LeO.none _)
   | (with_reducible refine LeO.ite ?_ ?_)
   | (with_reducible refine LeO.bind ?_ (fun _ => ?_))
   | exact ih0 _ _ _ _
   | exact LeO.none _
   | refine LeO.ite ?_ ?_
   | refine LeO.bind ?_ (fun _ => ?_)
mutual
def stylusref05_Of.l0 : Nat → List (S56) → Int → Option ((List (S56)) × Int)
 | 0, _, _ => none
 | k + 1, x5, x6 => if x6 < (x5.length : Int) then (if 0 ≤ x6 then (if ((rd_T56 x5 x6).f0) = 46 then (if ((rd_T56 x5 x6).f1).toList = ([] : List UInt8) then ((stylusref05_without.f k x5 x6).bind fun t374 => (stylusref05_Of.l0 k t374 (wrap64 ((wrap64 (x6 - 1)) + 1)))) else (stylusref05_Of.l0 k x5 (wrap64 (x6 + 1)))) else (stylusref05_Of.l0 k x5 (wrap64 (x6 + 1)))) else (none)) else (stylusref05_Of.l1 k x5 1)
def stylusref05_Of.l1 : Nat → List (S56) → Int → Option ((List (S56)) × Int)
 | 0, _, _ => none
 | k + 1, x5, x7 => if x7 < (x5.length : Int) then (if 0 ≤ x7 then (if ((rd_T56 x5 x7).f0) = 46 then (if 0 ≤ (wrap64 (x7 - 1)) then (if (wrap64 (x7 - 1)) < (x5.length : Int) then (if ((rd_T56 x5 (wrap64 (x7 - 1))).f0) = 46 then ((stylusref05_parent.f k x5 x7).bind fun t379 => ((stylusref05_parent.f k x5 (wrap64 (x7 - 1))).bind fun t380 => (if t379 = t380 then (if ((rd_T56 x5 (wrap64 (x7 - 1))).f1).size + ((rd_T56 x5 x7).f1).size ≤ 9223372036854775807 then ((stylusref05_without.f k (x5.set ((wrap64 (x7 - 1)) : Int).toNat (⟨(rd_T56 x5 (wrap64 (x7 - 1))).f0, ((rd_T56 x5 (wrap64 (x7 - 1))).f1) ++ ((rd_T56 x5 x7).f1), (rd_T56 x5 (wrap64 (x7 - 1))).f2, (rd_T56 x5 (wrap64 (x7 - 1))).f3⟩ : S56)) x7).bind fun t384 => (stylusref05_Of.l1 k t384 (wrap64 ((wrap64 (x7 - 1)) + 1)))) else (none)) else (stylusref05_Of.l1 k x5 (wrap64 (x7 + 1)))))) else (stylusref05_Of.l1 k x5 (wrap64 (x7 + 1)))) else (none)) else (none)) else (stylusref05_Of.l1 k x5 (wrap64 (x7 + 1)))) else (none)) else (some (x5, 0))
end
def stylusref05_Of.f (k : Nat) (l0 : List (S56)) : Option ((List (S56)) × Int) := (stylusref04_Check.f k l0).bind fun t368 => (if t368 = 0 then ((stylusref05_texts.f k l0).bind fun t369 => (stylusref05_Of.l0 k t369 0)) else (some (([] : List (S56)), t368)))
theorem stylusref05_Of.mono_l : ∀ k, (∀ y0 y1, LeO (stylusref05_Of.l0 k y0 y1) (stylusref05_Of.l0 (k + 1) y0 y1)) ∧ (∀ y0 y1, LeO (stylusref05_Of.l1 k y0 y1) (stylusref05_Of.l1 (k + 1) y0 y1))
 | 0 => ⟨fun _ _ r h => by simp [stylusref05_Of.l0] at h, fun _ _ r h => by simp [stylusref05_Of.l1] at h⟩
 | k + 1 => by
  obtain ⟨ih0, ih1⟩ := stylusref05_Of.mono_l k
  refine ⟨?_, ?_⟩
  ·intro y0 y1
   unfold stylusref05_Of.l0
   repeat' first
   | (with_reducible exact ih0 _ _)
   | (with_reducible exact ih1 _ _)
   | (with_reducible exact stylusref04_Check.mono _ _)
   | (with_reducible exact stylusref05_parent.mono _ _ _)
   | (with_reducible exact stylusref05_texts.mono _ _)
   | (with_reducible exact stylusref05_without.mono _ _ _)
   | (with_reducible exact LeO.refl _)
   | (with_reducible exact LeO.none _)
   | (with_reducible refine LeO.ite ?_ ?_)
   | (with_reducible refine LeO.bind ?_ (fun _ => ?_))
   | exact ih0 _ _
   | exact ih1 _ _
   | exact stylusref04_Check.mono _ _
   | exact stylusref05_parent.mono _ _ _
   | exact stylusref05_texts.mono _ _
   | exact stylusref05_without.mono _ _ _
   | exact LeO.none _
   | refine LeO.ite ?_ ?_
   | refine LeO.bind ?_ (fun _ => ?_)
  ·intro y0 y1
   unfold stylusref05_Of.l1
   repeat' first
   | (with_reducible exact ih0 _ _)
   | (with_reducible exact ih1 _ _)
   | (with_reducible exact stylusref04_Check.mono _ _)
   | (with_reducible exact stylusref05_parent.mono _ _ _)
   | (with_reducible exact stylusref05_texts.mono _ _)
   | (with_reducible exact stylusref05_without.mono _ _ _)
   | (with_reducible exact LeO.refl _)
   | (with_reducible exact LeO.none _)
   | (with_reducible refine LeO.ite ?_ ?_)
   | (with_reducible refine LeO.bind ?_ (fun _ => ?_))
   | exact ih0 _ _
   | exact ih1 _ _
   | exact stylusref04_Check.mono _ _
   | exact stylusref05_parent.mono _ _ _
   | exact stylusref05_texts.mono _ _
   | exact stylusref05_without.mono _ _ _
   | exact LeO.none _
   | refine LeO.ite ?_ ?_
   | refine LeO.bind ?_ (fun _ => ?_)
theorem stylusref05_Of.mono : ∀ a0 k, LeO (stylusref05_Of.f k a0) (stylusref05_Of.f (k + 1) a0) := by
 intro a0 k
 obtain ⟨ih0, ih1⟩ := stylusref05_Of.mono_l k
 unfold stylusref05_Of.f
 repeat' first
   | (with_reducible exact ih0 _ _)
   | (with_reducible exact ih1 _ _)
   | (with_reducible exact stylusref04_Check.mono _ _)
   | (with_reducible exact stylusref05_parent.mono _ _ _)
   | (with_reducible exact stylusref05_texts.mono _ _)
   | (with_reducible exact stylusref05_without.mono _ _ _)
   | (with_reducible exact LeO.refl _)
   | (with_reducible exact LeO.none _)
   | (with_reducible refine LeO.ite ?_ ?_)
   | (with_reducible refine LeO.bind ?_ (fun _ => ?_))
   | exact ih0 _ _
   | exact ih1 _ _
   | exact stylusref04_Check.mono _ _
   | exact stylusref05_parent.mono _ _ _
   | exact stylusref05_texts.mono _ _
   | exact stylusref05_without.mono _ _ _
   | exact LeO.none _
   | refine LeO.ite ?_ ?_
   | refine LeO.bind ?_ (fun _ => ?_)
def stylusref05_Is.f (k : Nat) (l0 : List (S56)) : Option (Bool) := (stylusref05_Of.f k l0).bind fun bt387 => (if bt387.2 = 0 then ((stylusref04_Same.f k l0 bt387.1).bind fun t391 => (some t391)) else (some false))
theorem stylusref05_Is.mono : ∀ a0 k, LeO (stylusref05_Is.f k a0) (stylusref05_Is.f (k + 1) a0) := by
 intro a0 k
 unfold stylusref05_Is.f
 repeat' first
   | (with_reducible exact stylusref04_Same.mono _ _ _)
   | (with_reducible exact stylusref05_Of.mono _ _)
   | (with_reducible exact LeO.refl _)
   | (with_reducible exact LeO.none _)
   | (with_reducible refine LeO.ite ?_ ?_)
   | (with_reducible refine LeO.bind ?_ (fun _ => ?_))
   | exact stylusref04_Same.mono _ _ _
   | exact stylusref05_Of.mono _ _
   | exact LeO.none _
   | refine LeO.ite ?_ ?_
   | refine LeO.bind ?_ (fun _ => ?_)
end Go.Proofs.Ythcmfjpheanphaa.Pr
namespace Go.Proofs.Ythcmfjpheanphaa.Pr
open Go.RowKit Go.Maps Go.Proofs.YthcmfjpheanphaaW.PrintWords
theorem vast05_calls (k : Nat) (A0 : Option Addr) (c0 : Nat) (t : List S56) (b : Bool) (w : World) (hA : Kd.C k56 w A0 t.length t) (hc0 : t.length ≤ c0) (h : styluslaw05_vast.f k t = some b) :
  Calls Try.prog 62 #[.slice A0 t.length c0] w fun e w' => e = .returned (.bool b) ∧ Below w.heap.size w w' :=
 (styluslaw05_vast.calls k A0 c0 t b w hA hc0 h).mono fun _ _ ⟨h1, h2⟩ => ⟨h1, h2.below⟩
theorem i64_and3 (n : Int) : bits .and .i64 n 3 = n % 4 := by
 have h3 : (BitVec.ofInt 64 3).toNat = 2 ^ 2 - 1 := by decide
 have key : (BitVec.ofInt 64 n &&& BitVec.ofInt 64 3).toNat = (n % ((2 ^ 64 : Nat) : Int)).toNat % 2 ^ 2 := by
  rw [BitVec.toNat_and, BitVec.toNat_ofInt, h3, Nat.and_two_pow_sub_one_eq_mod]
 show IntKind.i64.wrap ((BitVec.ofInt 64 n &&& BitVec.ofInt 64 3).toNat : Nat) = n % 4
 rw [key, IntKind.wrap_i64]
 omega
def wsp (z : Int) : ByteArray := if z = 0 then ⟨#[32]⟩ else if z = 1 then ⟨#[10]⟩ else if z = 2 then ⟨#[32, 32]⟩ else ⟨#[32, 10, 32]⟩
def zzP (kk : Int) (i n : Nat) : Int := wrap64 (wrap64 (kk + i) + n) % 4
def wcP (s : ByteArray) (kk : Int) (i n : Nat) : ByteArray := if whiteP (bt s n) = true then wsp (zzP kk i n) else s.extract n (n + 1)
def wideP (s : ByteArray) (kk : Int) (i : Nat) : Nat → ByteArray
 | 0 => ⟨#[]⟩
 | n + 1 => wideP s kk i n ++ wcP s kk i n
theorem wideP_succ (s : ByteArray) (kk : Int) (i n : Nat) : wideP s kk i (n + 1) = wideP s kk i n ++ wcP s kk i n := rfl
def wideN (t : List S56) (kk : Int) (i : Nat) : List S56 := t.mapIdx fun j y => if j < i then tx (wideP y.f1 kk j y.f1.size) y else y
theorem wideN_len (t : List S56) (kk : Int) (i : Nat) : (wideN t kk i).length = t.length := by simp [wideN]
theorem wideN_0 (t : List S56) (kk : Int) : wideN t kk 0 = t := by
 refine List.ext_getElem? fun j => ?_
 unfold wideN
 rw [List.getElem?_mapIdx]
 cases t[j]? with
 | none => rfl
 | some y => simp
theorem wideN_step (t : List S56) (kk : Int) (i : Nat) (hi : i < t.length) : (wideN t kk i).modify i (tx (wideP (rd_T56 t i).f1 kk i (rd_T56 t i).f1.size)) = wideN t kk (i + 1) := by
 refine List.ext_getElem? fun j => ?_
 unfold wideN
 rw [List.getElem?_modify, List.getElem?_mapIdx, List.getElem?_mapIdx]
 by_cases e : i = j
 ·subst e
  have : t[i]? = some (rd_T56 t i) := by unfold rd_T56; rw [Int.toNat_natCast, List.getD_eq_getElem?_getD, List.getElem?_eq_getElem hi]; rfl
  rw [this]
  simp
 ·cases t[j]? with
  | none => simp
  | some y =>
   simp only [if_neg e, Option.map_some, Option.map_eq_map, id_eq]
   by_cases h : j < i
   ·rw [if_pos h, if_pos (by omega)]
   ·rw [if_neg h, if_neg (by omega)]
theorem ext_one (s : ByteArray) (n : Nat) (h : n < s.size) (c : Nat) (hc : c < 256) : (s.extract n (n + 1)).toList = [UInt8.ofNat c] ↔ bt s n = c := by
 have e : (s.extract n (n + 1)).toList = [s[n]] := by
  rw [ByteArray.toList_eq, ByteArray.data_extract, Array.toList_extract]
  have h1 : n < s.data.toList.length := h
  rw [List.extract_eq_take_drop, Nat.add_sub_cancel_left, List.drop_eq_getElem_cons h1]
  rfl
 rw [e]
 have hb := bt_at s (n : Int) (by simpa using h)
 simp only [Int.toNat_natCast] at hb
 rw [← hb]
 constructor
 ·intro h1
  have := List.cons.inj h1
  rw [this.1]
  simp [UInt8.toNat_ofNat, Nat.mod_eq_of_lt hc]
 ·intro h1
  have h2 : (s[n]).toNat = c := by omega
  rw [← h2]
  simp
set_option maxRecDepth 100000 in
theorem idx60 (z : Int) (h0 : 0 ≤ z) (h1 : z < 4) (W : World) : (Instr.index 60 (.agg #[.string ⟨#[32]⟩, .string ⟨#[10]⟩, .string ⟨#[32, 32]⟩, .string ⟨#[32, 10, 32]⟩]) (.int .i64 z)).run Try.prog W = .ok (.string (wsp z)) W := by
 have : z = 0 ∨ z = 1 ∨ z = 2 ∨ z = 3 := by omega
 rcases this with rfl | rfl | rfl | rfl <;> rfl
theorem wsp_size (z : Int) : (wsp z).size ≤ 3 := by
 unfold wsp
 repeat' split
 all_goals decide
theorem wcP_size (s : ByteArray) (kk : Int) (i n : Nat) : (wcP s kk i n).size ≤ 3 := by
 unfold wcP
 split
 ·exact wsp_size _
 ·rw [ByteArray.size_extract]; omega
theorem wideP_size (s : ByteArray) (kk : Int) (i : Nat) : ∀ n : Nat, (wideP s kk i n).size ≤ 3 * n
 | 0 => Nat.le_refl _
 | n + 1 => by
  have h1 := wideP_size s kk i n
  have h2 := wcP_size s kk i n
  unfold wideP
  rw [ByteArray.size_append]
  omega
set_option pp.maxSteps 3000 in
set_option maxRecDepth 100000 in
set_option maxHeartbeats 8000000 in
theorem normWhite_vast (A0 : Option Addr) (c0 : Nat) (t : List S56) (kk : Int) (w : World) (hA : Kd.C k56 w A0 t.length t) (hc0 : t.length ≤ c0) (k : Nat) (hv : styluslaw05_vast.f k t = some true) (haw : styluslaw05_awake.f k = some true) :
  Calls Try.prog 17 #[.slice A0 t.length c0, .int .i64 kk] w fun e w' => e = .returned (.bool true) ∧ Below w.heap.size w w' := by
 have HV := Lib.hid (vast05_calls k A0 c0 t true w hA hc0 hv)
 have HAW := Lib.hid (fun W => styluslaw05_awake.calls k true W haw)
 clear hA hv haw
 go_enter Try.func17, Try.ntmps17
 go_wp2_with (first
  | (go_at_call 62; refine HV.out.mono ?_; rintro e w1 ⟨rfl, hb1⟩; have HB1 := Lib.hid hb1; clear hb1)
  | (go_at_call 63; refine (HAW.out _).mono ?_; rintro e w2 ⟨rfl, hb2⟩; have HB2 := Lib.hid hb2; clear hb2))
 go_ret
 exact ⟨rfl, below_step HB1.out HB2.out⟩
set_option pp.maxSteps 3000 in
set_option maxRecDepth 100000 in
set_option maxHeartbeats 8000000 in
theorem normWhite_walk (A0 : Option Addr) (c0 : Nat) (t : List S56) (kk : Int) (w : World) (hA : Kd.C k56 w A0 t.length t) (hc0 : t.length ≤ c0) (k : Nat) (hv : styluslaw05_vast.f k t = some false) (haw : styluslaw05_awake.f k = some true)
  (R1 S1 : List S56) (R2 S2 : Int) (hu : norm_Of.f k t = some (R1, R2)) (hf : norm_Of.f k (wideN t kk t.length) = some (S1, S2)) (heq : R2 = 4 ∨ S2 = 4 ∨ (R2 = S2 ∧ tree_Same.f R1 S1 = some true)) (hlen : t.length ≤ 3000) (hsz : ∀ x ∈ t, x.f1.size ≤ 10000) :
  Calls Try.prog 17 #[.slice A0 t.length c0, .int .i64 kk] w fun e w' => e = .returned (.bool true) ∧ Below w.heap.size w w' := by
 have HA := Lib.hid hA
 have HV := Lib.hid (vast05_calls k A0 c0 t false w hA hc0 hv)
 have HAW := Lib.hid (fun W => styluslaw05_awake.calls k true W haw)
 have HF := Lib.hid (And.intro hu hf)
 have HEQ := Lib.hid heq
 clear hA hv haw hu hf heq
 go_enter Try.func17, Try.ntmps17
 go_upto_region 4 with (first
  | (go_at_call 62; refine HV.out.mono ?_; rintro e w1 ⟨rfl, hb1⟩; have HB1 := Lib.hid hb1; clear hb1)
  | (go_at_call 64; with_reducible refine (norm_Of.calls k A0 c0 t R1 R2 w1 (Kd.C_below HA.out HB1.out) hc0 HF.out.1).mono ?_; rintro e w2 ⟨vu, rfl, hru, hb2⟩; obtain ⟨Au, cu, rfl⟩ := Kd.R_slice hru; have HB2 := Lib.hid (below_step HB1.out hb2); have HU := Lib.hid (Kd.R_lower hru (below_size HB1.out)); clear hb2 hru))
 go_wp2_with (at_builtin; go_loud (refine Kd.R_append_rows k56 (w0 := w2) w2.heap.size rfl (.tmp 22) (.tmp 23) 50 56 (.agg #[(.int .u8 0), (.string ⟨#[]⟩), (.int .i64 0), (.int .i64 0)]) 40 rfl Try.underlying50 info56 rfl (by decide) (by omega) (.slice (some ⟨w2.heap.size, 0, none⟩) 0 0) ([] : List S56) t _ _ _ (fun _ => True) (fun _ => False) rfl rfl ?aO ?aR (fun _ _ h => h) (fun _ h => h.elim) ?aF ?aB ?aS ?aL ?_))
 case aR => exact Kd.C_alloc (Kd.C_below HA.out HB2.out) _
 case aB => exact (Below.refl _ w2).alloc (Nat.le_refl _) _
 case aF => exact fun _ _ => trivial
 case aO => exact own_R56 (xs := []) (own_empty56 w2) _ (Nat.le_refl _)
 case aS => simp
 case aL => simp; omega
 intro vo w3 ho hb hg hat
 have ho' := R56_flat ho
 obtain ⟨Ao, co, rfl⟩ := own_slice ho'
 have HB3 := Lib.hid hb
 have HO3 := Lib.hid ho'
 clear ho ho' hb hg hat
 go_wp2
 go_loopw [8] (fun v wr => ∃ i : Nat, i ≤ t.length ∧ v = .int .i64 i ∧ wr.ownsRow w2.heap.size 56 4 (.slice Ao t.length co) t.length (flat56 (wideN t kk i)) ∧ Below w2.heap.size w2 wr) (fun v _ => t.length - (intOf v).toNat)
 case atStart => exact ⟨0, Nat.zero_le _, rfl, by rw [wideN_0]; exact HO3.out, HB3.out⟩
 case round =>
  obtain ⟨wq, rfl⟩ : ∃ wq, wq = wr := ⟨wr, rfl⟩
  obtain ⟨i, hi, rfl, hO, hB⟩ := hrel
  have HO := Lib.hid hO
  have HB := Lib.hid hB
  clear hO hB HO3 HB3
  by_cases hlt : i < t.length
  ·have hlt1 : (i : Int) < (t.length : Int) := by omega
   obtain ⟨ad, rfl, q0, q1, q2, q3⟩ := at_T56 (Kd.C_below HA.out (below_step HB2.out HB.out)) (i : Int) (by omega) hlt1
   simp only [Int.toNat_natCast] at q0 q1 q2 q3
   have HS := Lib.hid (wideN_step t kk i hlt)
   have hszi : (rd_T56 t i).f1.size ≤ 10000 := hsz _ (by unfold rd_T56; rw [Int.toNat_natCast, List.getD_eq_getElem?_getD, List.getElem?_eq_getElem hlt]; exact List.getElem_mem hlt)
   generalize rd_T56 t (i : Int) = x at *
   obtain ⟨f0, s, f2, f3⟩ := x
   simp only at q0 q1 q2 q3 hszi HS
   go_wp2
   go_loopw [9, 10] (fun v9 v10 wr => ∃ n : Nat, n ≤ s.size ∧ v9 = .string (wideP s kk i n) ∧ v10 = .int .i64 n ∧ wr = wq) (fun _ v _ => s.size - (intOf v).toNat)
   case atStart => exact ⟨0, Nat.zero_le _, rfl, rfl, rfl⟩
   case round =>
    obtain ⟨n, hn, rfl, rfl, rfl⟩ := hrel
    by_cases hnl : n < s.size
    ·have hnl1 : (n : Int) < (s.size : Int) := by omega
     have hsl : ∀ W : World, (Instr.slice 9 (.string s) (some (.int .i64 (n : Int))) (some (.int .i64 ((n : Int) + 1))) none).run Try.prog W = .ok (.string (s.extract n (n + 1))) W := fun W => by
      have := run_slice_string (P := Try.prog) W 9 s .i64 .i64 (n : Int) ((n : Int) + 1) Try.underlying9 (by omega) (by omega) (by omega)
      simpa using this
     have hix : ∀ W : World, (Instr.index 60 (.agg #[.string ⟨#[32]⟩, .string ⟨#[10]⟩, .string ⟨#[32, 32]⟩, .string ⟨#[32, 10, 32]⟩]) (.int .i64 (bits .and .i64 (wrap64 (wrap64 (kk + i) + n)) 3))).run Try.prog W = .ok (.string (wsp (zzP kk i n))) W := fun W => by
      rw [i64_and3]
      exact idx60 _ (Int.emod_nonneg _ (by decide)) (Int.emod_lt_of_pos _ (by decide)) W
     have hadd : ∀ c : ByteArray, c.size ≤ 3 → (wideP s kk i n).size + c.size ≤ 9223372036854775807 := fun c hc => by
      have := wideP_size s kk i n
      exact Nat.le_trans (Nat.add_le_add this hc) (Nat.le_trans (m := 30003) (by omega) (by decide))
     by_cases hw : whiteP (bt s n) = true
     ·have HN := Lib.hid (show wideP s kk i (n + 1) = wideP s kk i n ++ wsp (zzP kk i n) by rw [wideP_succ]; unfold wcP; rw [if_pos hw])
      have hadd1 := hadd _ (wsp_size (zzP kk i n))
      clear hadd
      by_cases h32 : bt s n = 32
      ·have he := (ext_one s n hnl 32 (by decide)).2 h32
       clear hw h32
       go_wp2
       go_roundw
       case rel => exact ⟨n + 1, by omega, by rw [HN.out], by go_num, by first | rfl | trivial⟩
       case measure => simp [intOf]; omega
      ·have h10 : bt s n = 10 := by
        unfold whiteP at hw
        rw [Bool.or_eq_true, beq_iff_eq, beq_iff_eq] at hw
        exact hw.resolve_left h32
       have he := (ext_one s n hnl 10 (by decide)).2 h10
       have he1 : ¬ (s.extract n (n + 1)).toList = [32] := fun h => h32 ((ext_one s n hnl 32 (by decide)).1 h)
       clear hw h32 h10
       go_wp2
       go_roundw
       case rel => exact ⟨n + 1, by omega, by rw [HN.out], by go_num, by first | rfl | trivial⟩
       case measure => simp [intOf]; omega
     ·have HN := Lib.hid (show wideP s kk i (n + 1) = wideP s kk i n ++ s.extract n (n + 1) by rw [wideP_succ]; unfold wcP; rw [if_neg hw])
      have hadd1 := hadd (s.extract n (n + 1)) (by rw [ByteArray.size_extract]; omega)
      have he1 : ¬ (s.extract n (n + 1)).toList = [32] := fun h => hw (by rw [(ext_one s n hnl 32 (by decide)).1 h]; decide)
      have he2 : ¬ (s.extract n (n + 1)).toList = [10] := fun h => hw (by rw [(ext_one s n hnl 10 (by decide)).1 h]; decide)
      have he3 : ((s.extract n (n + 1)).toList == [10]) = false := beq_eq_false_iff_ne.2 he2
      have he4 : ((s.extract n (n + 1)).toList == [32]) = false := beq_eq_false_iff_ne.2 he1
      clear hadd hw hix he1 he2
      go_wp2
      go_roundw
      case rel => exact ⟨n + 1, by omega, by rw [HN.out], by go_num, by first | rfl | trivial⟩
      case measure => simp [intOf]; omega
    ·obtain rfl : n = s.size := by omega
     have hoo := HO.out
     obtain ⟨go, co', hae⟩ := own_formN hoo (by omega)
     simp only [Value.slice.injEq] at hae
     obtain ⟨rfl, -, rfl⟩ := hae
     have hset := out_set hoo (wideN_len t kk i) hlt (i := 1) (by omega) (tx (wideP s kk i s.size)) (.string (wideP s kk i s.size)) rfl
     have hfz := World.ownsRow.frozenAt hoo (i * 4 + 1)
     have xo := hoo.cellAt (i * 4 + 1) (by omega)
     rw [flatN_at _ i 1 (by rw [wideN_len]; omega) (by omega)] at xo
     simp only [cellsN, List.getElem?_cons_succ, List.getElem?_cons_zero] at xo
     have hlow : Below w2.heap.size wr (wr.setCell ⟨go, i * 4 + 1, none⟩ (.string (wideP s kk i s.size))) := (Below.refl _ wr).setCell (own_base hoo go rfl) _
     have HZ := Lib.hid (And.intro hset.1 (HB.out.trans hlow))
     clear hset hoo hlow
     go_wp2
     go_roundw
     case rel => exact ⟨i + 1, by omega, by go_num, by rw [← HS.out]; exact HZ.out.1, HZ.out.2⟩
     case measure => simp [intOf]; omega
  ·obtain rfl : i = t.length := by omega
   have hwl := wideN_len t kk t.length
   obtain ⟨wd, hwd⟩ : ∃ wd, wd = wideN t kk t.length := ⟨_, rfl⟩
   rw [← hwd] at hwl HO HF
   have HW := Lib.hid (own_R56 (b' := w2.heap.size) (by rw [hwl]; exact HO.out) (Nat.le_refl _))
   have hcall := norm_Of.calls k Ao co wd S1 S2 wq (by have := (Kd.R_reads' HW.out).2.2; exact this) (by have := (Kd.R_reads' HW.out).2.1; rw [hwl]; exact this) HF.out.2
   rw [hwl] at hcall
   have HC := Lib.hid hcall
   clear hcall hwl hwd HF HW HO HV
   by_cases h4 : R2 = 4
   ·subst h4
    clear HEQ
    go_wp2_with (first
     | (go_at_call 64; with_reducible refine HC.out.mono ?_; rintro e w5 ⟨vs, rfl, hrs, hb5⟩; have HB5 := Lib.hid (below_step HB.out hb5); clear hb5 hrs)
     | (go_at_call 63; refine (HAW.out _).mono ?_; rintro e w6 ⟨rfl, hb6⟩; have HB6 := Lib.hid (below_step HB5.out hb6); clear hb6))
    go_ret
    exact ⟨rfl, below_step HB2.out HB6.out⟩
   ·have e4 : (R2 == 4) = false := beq_eq_false_iff_ne.2 h4
    by_cases h5 : S2 = 4
    ·subst h5
     clear HEQ h4
     go_wp2_with (first
      | (go_at_call 64; with_reducible refine HC.out.mono ?_; rintro e w5 ⟨vs, rfl, hrs, hb5⟩; have HB5 := Lib.hid (below_step HB.out hb5); clear hb5 hrs)
      | (go_at_call 63; refine (HAW.out _).mono ?_; rintro e w6 ⟨rfl, hb6⟩; have HB6 := Lib.hid (below_step HB5.out hb6); clear hb6))
     go_ret
     exact ⟨rfl, below_step HB2.out HB6.out⟩
    ·have e5 : (S2 == 4) = false := beq_eq_false_iff_ne.2 h5
     obtain ⟨e6, e7⟩ := (HEQ.out.resolve_left h4).resolve_left h5
     have HS := Lib.hid e7
     have e8 : (R2 == S2) = true := beq_iff_eq.2 e6
     clear HEQ h4 h5 e6 e7
     go_wp2_with (first
      | (go_at_call 64; with_reducible refine HC.out.mono ?_; rintro e w5 ⟨vs, rfl, hrs, hb5⟩; obtain ⟨As, cs, rfl⟩ := Kd.R_slice hrs; have HB5 := Lib.hid (below_step HB.out hb5); have HU5 := Lib.hid (Kd.R_below HU.out HB5.out); have HS5 := Lib.hid hrs; clear hb5 hrs)
      | (go_at_call 56; with_reducible refine (tree_Same.calls Au cu R1 As cs S1 true w5 (Kd.R_reads' HU5.out).2.2 (Kd.R_reads' HU5.out).2.1 (Kd.R_reads' HS5.out).2.2 (Kd.R_reads' HS5.out).2.1 HS.out).mono ?_; rintro e w6 ⟨rfl, hb6⟩; have HB6 := Lib.hid (below_step HB5.out hb6); clear hb6)
      | (go_at_call 63; refine (HAW.out _).mono ?_; rintro e w7 ⟨rfl, hb7⟩; have HB7 := Lib.hid (below_step HB6.out hb7); clear hb7))
     go_ret
     exact ⟨rfl, below_step HB2.out HB7.out⟩
end Go.Proofs.Ythcmfjpheanphaa.Pr
namespace Go.Proofs.Ythcmfjpheanphaa.Pr
open Go.RowKit Go.Proofs.YthcmfjpheanphaaW.PrintWords
def bL (s : ByteArray) : List Int := s.data.toList.map fun x => (x.toNat : Int)
theorem bL_len (s : ByteArray) : (bL s).length = s.size := by
 unfold bL
 rw [List.length_map]
 rfl
theorem bL_app (a b : ByteArray) : bL (a ++ b) = bL a ++ bL b := by
 unfold bL
 rw [ByteArray.data_append, Array.toList_append, List.map_append]
theorem bL_get (s : ByteArray) (k : Nat) (h : k < s.size) : (bL s)[k]'(by rw [bL_len]; exact h) = bt s k := by
 have hb := bt_at s (k : Int) (by simpa using h)
 simp only [Int.toNat_natCast] at hb
 rw [← hb]
 unfold bL
 rw [List.getElem_map]
 rfl
theorem bL_drop (s : ByteArray) (k : Nat) (h : k < s.size) : (bL s).drop k = bt s k :: (bL s).drop (k + 1) := by
 rw [List.drop_eq_getElem_cons (by rw [bL_len]; exact h), bL_get s k h]
theorem bL_all (s : ByteArray) (p : Int → Bool) : (∀ k : Nat, k < s.size → p (bt s k) = true) ↔ ∀ c ∈ bL s, p c = true := by
 constructor
 ·intro h c hc
  obtain ⟨k, hk, rfl⟩ := List.getElem_of_mem hc
  rw [bL_len] at hk
  rw [bL_get s k hk]
  exact h k hk
 ·intro h k hk
  rw [← bL_get s k hk]
  exact h _ (List.getElem_mem _)
def kpL : List Int → Int → List Int
 | [], _ => []
 | x :: l, c => if whiteP x = true then (if c = 0 ∨ c = 32 then kpL l c else 32 :: kpL l 32) else x :: kpL l x
theorem kpB_bytes (s : ByteArray) : ∀ (d k : Nat) (c : Int), d + k = s.size → byL (kpB s d k c) = kpL ((bL s).drop k) c
 | 0, k, c, h => by
  rw [List.drop_of_length_le (by rw [bL_len]; omega)]
  rfl
 | d + 1, k, c, h => by
  unfold kpB
  rw [if_pos (by omega), bL_drop s k (by omega)]
  simp only [kpL]
  by_cases hw : whiteP (bt s k) = true
  ·rw [if_pos hw, if_pos hw]
   by_cases hc : c = 0 ∨ c = 32
   ·rw [if_pos hc, if_pos hc]
    exact kpB_bytes s d (k + 1) c (by omega)
   ·rw [if_neg hc, if_neg hc]
    show 32 :: byL (kpB s d (k + 1) 32) = _
    rw [kpB_bytes s d (k + 1) 32 (by omega)]
  ·rw [if_neg hw, if_neg hw]
   show bt s k :: byL (kpB s d (k + 1) (bt s k)) = _
   rw [kpB_bytes s d (k + 1) _ (by omega)]
theorem kpB_all (s : ByteArray) (c : Int) : byL (kpB s s.size 0 c) = kpL (bL s) c := kpB_bytes s s.size 0 c rfl
theorem kpL_more (l : List Int) : ∀ (g : List Int) (c : Int), (∀ x ∈ g, whiteP x = true) → (c = 0 ∨ c = 32) → kpL (g ++ l) c = kpL l c
 | [], c, _, _ => rfl
 | x :: g, c, h, hc => by
  rw [List.cons_append]
  simp only [kpL]
  rw [if_pos (h x List.mem_cons_self), if_pos hc]
  exact kpL_more l g c (fun y hy => h y (List.mem_cons_of_mem _ hy)) hc
theorem kpL_row (l g : List Int) (x y c : Int) (hg : ∀ z ∈ g, whiteP z = true) (hx : whiteP x = true) (hy : whiteP y = true) : kpL (x :: (g ++ l)) c = kpL (y :: l) c := by
 simp only [kpL]
 rw [if_pos hx, if_pos hy]
 by_cases hc : c = 0 ∨ c = 32
 ·rw [if_pos hc, if_pos hc]
  exact kpL_more l g c hg hc
 ·rw [if_neg hc, if_neg hc, kpL_more l g 32 hg (.inr rfl)]
theorem wsp_bytes (z : Int) : ∃ x g, bL (wsp z) = x :: g ∧ whiteP x = true ∧ ∀ y ∈ g, whiteP y = true := by
 unfold wsp
 split
 ·exact ⟨32, [], rfl, by decide, by intro y hy; cases hy⟩
 ·split
  ·exact ⟨10, [], rfl, by decide, by intro y hy; cases hy⟩
  ·split
   ·exact ⟨32, [32], rfl, by decide, by decide⟩
   ·exact ⟨32, [10, 32], rfl, by decide, by decide⟩
theorem ext_bytes (s : ByteArray) (n : Nat) (h : n < s.size) : bL (s.extract n (n + 1)) = [bt s n] := by
 have e : (s.extract n (n + 1)).data.toList = [s[n]] := by
  rw [ByteArray.data_extract, Array.toList_extract]
  have h1 : n < s.data.toList.length := h
  rw [List.extract_eq_take_drop, Nat.add_sub_cancel_left, List.drop_eq_getElem_cons h1]
  rfl
 have hb := bt_at s (n : Int) (by simpa using h)
 simp only [Int.toNat_natCast] at hb
 unfold bL
 rw [e, ← hb]
 rfl
theorem wc_bytes (s : ByteArray) (kk : Int) (i n : Nat) (h : n < s.size) : ∃ x g, bL (wcP s kk i n) = x :: g ∧ (x = bt s n ∧ g = [] ∨ whiteP (bt s n) = true ∧ whiteP x = true ∧ ∀ y ∈ g, whiteP y = true) := by
 unfold wcP
 by_cases hw : whiteP (bt s n) = true
 ·rw [if_pos hw]
  obtain ⟨x, g, h1, h2, h3⟩ := wsp_bytes (zzP kk i n)
  exact ⟨x, g, h1, .inr ⟨hw, h2, h3⟩⟩
 ·rw [if_neg hw]
  exact ⟨bt s n, [], ext_bytes s n h, .inl ⟨rfl, rfl⟩⟩
theorem wide_kp (s : ByteArray) (kk : Int) (i : Nat) : ∀ (n : Nat), n ≤ s.size → ∀ (l : List Int) (c : Int), kpL (bL (wideP s kk i n) ++ l) c = kpL ((bL s).take n ++ l) c
 | 0, h, l, c => rfl
 | n + 1, h, l, c => by
  obtain ⟨x, g, h1, h2⟩ := wc_bytes s kk i n (by omega)
  have e1 : bL (wideP s kk i (n + 1)) ++ l = bL (wideP s kk i n) ++ (x :: (g ++ l)) := by
   rw [wideP_succ, bL_app, h1, List.append_assoc]
   rfl
  have e2 : (bL s).take (n + 1) ++ l = (bL s).take n ++ (bt s n :: l) := by
   rw [List.take_succ_eq_append_getElem (by rw [bL_len]; omega), bL_get s n (by omega), List.append_assoc]
   rfl
  have key : ∀ (m : List Int) (c : Int), kpL (m ++ (x :: (g ++ l))) c = kpL (m ++ (bt s n :: l)) c := fun m => by
   induction m with
   | nil =>
    intro c
    rcases h2 with ⟨rfl, rfl⟩ | ⟨h3, h4, h5⟩
    ·rfl
    ·exact kpL_row l g x (bt s n) c h5 h4 h3
   | cons y m ih =>
    intro c
    rw [List.cons_append, List.cons_append]
    simp only [kpL]
    rw [ih, ih, ih]
  rw [e1, e2, wide_kp s kk i n (by omega), key]
theorem wide_all (s : ByteArray) (kk : Int) (i : Nat) (c : Int) : kpL (bL (wideP s kk i s.size)) c = kpL (bL s) c := by
 have := wide_kp s kk i s.size (Nat.le_refl _) [] c
 rw [List.append_nil, List.append_nil, List.take_of_length_le (by rw [bL_len]; exact Nat.le_refl _)] at this
 exact this
theorem plain_white (c : Int) (h : whiteP c = true) : plainP c = true := by
 unfold plainP
 rw [h, Bool.or_true]
theorem wide_plain (s : ByteArray) (kk : Int) (i : Nat) : ∀ (n : Nat), n ≤ s.size → ((∀ c ∈ bL (wideP s kk i n), plainP c = true) ↔ ∀ c ∈ (bL s).take n, plainP c = true)
 | 0, h => by
  rw [List.take_zero]
  exact Iff.rfl
 | n + 1, h => by
  obtain ⟨x, g, h1, h2⟩ := wc_bytes s kk i n (by omega)
  rw [wideP_succ, bL_app, h1, List.take_succ_eq_append_getElem (by rw [bL_len]; omega), bL_get s n (by omega)]
  have ih := wide_plain s kk i n (by omega)
  constructor
  ·intro h3 c hc
   rcases List.mem_append.1 hc with h4 | h4
   ·exact ih.1 (fun c hc => h3 c (List.mem_append_left _ hc)) c h4
   ·obtain rfl := List.mem_singleton.1 h4
    rcases h2 with ⟨rfl, rfl⟩ | ⟨h5, _⟩
    ·exact h3 _ (List.mem_append_right _ List.mem_cons_self)
    ·exact plain_white _ h5
  ·intro h3 c hc
   rcases List.mem_append.1 hc with h4 | h4
   ·exact ih.2 (fun c hc => h3 c (List.mem_append_left _ hc)) c h4
   ·rcases h2 with ⟨rfl, rfl⟩ | ⟨h5, h6, h7⟩
    ·obtain rfl := List.mem_singleton.1 h4
     exact h3 _ (List.mem_append_right _ (List.mem_singleton.2 rfl))
    ·rcases List.mem_cons.1 h4 with rfl | h8
     ·exact plain_white _ h6
     ·exact plain_white _ (h7 c h8)
theorem wide_empty (s : ByteArray) (kk : Int) (i : Nat) : ∀ (n : Nat), n ≤ s.size → n ≤ (wideP s kk i n).size
 | 0, h => Nat.zero_le _
 | n + 1, h => by
  have ih := wide_empty s kk i n (by omega)
  obtain ⟨x, g, h1, h2⟩ := wc_bytes s kk i n (by omega)
  have h3 := congrArg List.length h1
  rw [bL_len, List.length_cons] at h3
  rw [wideP_succ, ByteArray.size_append]
  omega
theorem plainTo_all (s : ByteArray) : plainTo s s.size 0 < s.size ↔ ¬ ∀ c ∈ bL s, plainP c = true := by
 rw [← bL_all]
 constructor
 ·intro h h2
  exact Go.Proofs.Ythcmfjpheanphaa.Pure.plainTo_out s s.size 0 (by omega) h (h2 _ h)
 ·intro h
  refine Nat.lt_of_not_le fun h2 => h fun k hk => plainTo_in s s.size 0 k (Nat.zero_le _) (by omega)
theorem wide_plainB (y : S56) (kk : Int) (i : Nat) : plainB (tx (wideP y.f1 kk i y.f1.size) y) = plainB y := by
 rw [plainB_node, plainB_node]
 congr 1
 unfold nodeB
 show (if y.f0 = 46 then decide (0 < (wideP y.f1 kk i y.f1.size).size) && !decide (plainTo (wideP y.f1 kk i y.f1.size) (wideP y.f1 kk i y.f1.size).size 0 < (wideP y.f1 kk i y.f1.size).size) else decide ((wideP y.f1 kk i y.f1.size).size = 0) && _) = _
 have h1 := wide_empty y.f1 kk i y.f1.size (Nat.le_refl _)
 have h2 := wideP_size y.f1 kk i y.f1.size
 have h3 : decide (0 < (wideP y.f1 kk i y.f1.size).size) = decide (0 < y.f1.size) := by rw [decide_eq_decide]; omega
 have h4 : decide ((wideP y.f1 kk i y.f1.size).size = 0) = decide (y.f1.size = 0) := by rw [decide_eq_decide]; omega
 have h5 : decide (plainTo (wideP y.f1 kk i y.f1.size) (wideP y.f1 kk i y.f1.size).size 0 < (wideP y.f1 kk i y.f1.size).size) = decide (plainTo y.f1 y.f1.size 0 < y.f1.size) := by
  rw [decide_eq_decide, plainTo_all, plainTo_all, wide_plain y.f1 kk i y.f1.size (Nat.le_refl _), List.take_of_length_le (by rw [bL_len]; exact Nat.le_refl _)]
 rw [h3, h4, h5]
 rfl
structure SameB (t v : List S56) : Prop where
 len : t.length = v.length
 f0 : ∀ i : Nat, (rd_T56 t i).f0 = (rd_T56 v i).f0
 f3 : ∀ i : Nat, (rd_T56 t i).f3 = (rd_T56 v i).f3
 rest : ∀ i : Nat, isT t i = false → (rd_T56 t i).f1 = (rd_T56 v i).f1
 bytes : ∀ (i : Nat) (c : Int), i < t.length → isT t i = true → kpL (bL (rd_T56 t i).f1) c = kpL (bL (rd_T56 v i).f1) c
theorem SameB.sz {t v : List S56} (h : SameB t v) : sz t = sz v := funext fun i => by unfold Pr.sz; rw [h.f3]
theorem SameB.isT {t v : List S56} (h : SameB t v) : isT t = isT v := funext fun i => by unfold Pr.isT; rw [h.f0]
theorem SameB.flow {t v : List S56} (h : SameB t v) : flow t = flow v := funext fun i => by
 have e : ∀ m, flG t i m = flG v i m := fun m => by
  induction m with
  | zero => rfl
  | succ m ih => unfold flG fl; rw [h.f0, h.sz, ih]
 exact e i
theorem SameB.inF {t v : List S56} (h : SameB t v) : inF t = inF v := funext fun j => funext fun i => by unfold Pr.inF; rw [h.isT, h.flow]
def kf (L : List S184) : List (Int × Int) := L.map fun p => (p.f0, p.f1)
theorem sayK_kf (L : List S184) : sayK 0 L = match (kf L).getLast? with | some p => p.1 | none => 0 := by
 unfold sayK kf
 rw [List.getLast?_map]
 cases L.getLast? <;> rfl
theorem kf_tag (i : Nat) (L : List (Nat × Int)) : kf (tagL i L) = (byL L).map fun c => (c, (i : Int)) := by
 unfold kf tagL byL
 rw [List.map_map, List.map_map]
 rfl
theorem inF_out {t : List S56} {j i : Nat} (h : inF t j i = true) : i < t.length := by
 refine Nat.lt_of_not_le fun h2 => ?_
 have := (inF_in h).1
 unfold Pr.isT at this
 rw [rd_out t i h2] at this
 cases this
theorem SameB.kept {t v : List S56} (h : SameB t v) (j : Nat) : ∀ i : Nat, kf (Wk t j i) = kf (Wk v j i)
 | 0 => rfl
 | i + 1 => by
  have ih := h.kept j i
  rw [Wk_succ, Wk_succ, ← h.inF]
  unfold kf at ih ⊢
  rw [List.map_append, List.map_append, ih]
  congr 1
  by_cases hf : Pr.inF t j i = true
  ·rw [if_pos hf, if_pos hf]
   have e1 := kf_tag i (Lk t i)
   have e2 := kf_tag i (Lk v i)
   unfold kf at e1 e2
   rw [e1, e2]
   have hfo : fo t i = fo v i := by unfold fo; rw [h.flow]
   have hj := fo_in hf
   have hs : sayK 0 (Wk t (fo t i) i) = sayK 0 (Wk v (fo v i) i) := by
    rw [← hfo, hj, sayK_kf, sayK_kf]
    unfold kf
    rw [ih]
   unfold Lk
   rw [kpB_all, kpB_all, hs, h.bytes i _ (inF_out hf) (inF_in hf).1]
  ·rw [if_neg hf, if_neg hf]
theorem SameB.stays {t v : List S56} (h : SameB t v) (i : Nat) (hi : i < t.length) (hT : Pr.isT t i = true) : byL (Mk t i) = byL (Mk v i) := by
 have hfo : fo t i = fo v i := by unfold fo; rw [h.flow]
 have hs : sayK 0 (Wk t (fo t i) i) = sayK 0 (Wk v (fo v i) i) := by rw [← hfo, sayK_kf, sayK_kf, h.kept]
 have hL : byL (Lk t i) = byL (Lk v i) := by
  unfold Lk
  rw [kpB_all, kpB_all, hs, h.bytes i _ hi hT]
 have he : endsB t i = endsB v i := by
  have e : ∀ t : List S56, endsB t i = match (kf (Wk t (fo t i) t.length)).getLast? with | some p => decide (p.1 = 32) && decide (p.2 = i) | none => false := fun t => by
   unfold endsB kf
   rw [List.getLast?_map]
   cases (Wk t (fo t i) t.length).getLast? <;> rfl
  rw [e, e, ← hfo, ← h.len, h.kept]
 unfold Mk
 rw [he]
 split
 ·unfold byL at hL ⊢
  rw [List.map_dropLast, List.map_dropLast, hL]
 ·exact hL
theorem SameB.alike {t v : List S56} (h : SameB t v) : Alike (sqF t) (sqF v) where
 len := by rw [sqF_len, sqF_len, h.len]
 f0 := fun i => by rw [← sqF_f0, ← sqF_f0, h.f0]
 f3 := fun i => by rw [← sqF_f3, ← sqF_f3, h.f3]
 f1 := fun i => by
  by_cases hi : i < t.length
  ·have hi2 : i < v.length := by rw [← h.len]; exact hi
   rw [rd_sqF t i hi, rd_sqF v i hi2, ← h.f0]
   by_cases h46 : (rd_T56 t i).f0 = 46
   ·rw [if_pos h46, if_pos h46]
    show strOfNums (byL (Mk t i)) = strOfNums (byL (Mk v i))
    rw [h.stays i hi (by unfold Pr.isT; rw [h46]; rfl)]
   ·rw [if_neg h46, if_neg h46]
    exact h.rest i (by unfold Pr.isT; exact beq_eq_false_iff_ne.2 h46)
  ·rw [rd_out _ i (by rw [sqF_len]; omega), rd_out _ i (by rw [sqF_len, ← h.len]; omega)]
theorem sameL_nodes (u v : List S56) (L : List PT) (h0 : ∀ i : Nat, (rd_T56 u i).f0 = (rd_T56 v i).f0) (h3 : sz u = sz v) : ∀ P : List PT, sameL (P.map (nd u L)) (P.map (nd v L)) = true
 | [] => rfl
 | p :: P => by
  rw [List.map_cons, List.map_cons]
  simp only [sameL]
  rw [sameL_nodes u v L h0 h3 P, Bool.and_true]
  unfold eqN nd cn
  rw [h0, h3]
  simp
theorem SameB.norm {t v : List S56} (h : SameB t v) : sameL (normP t) (normP v) = true := by
 have ha := h.alike
 unfold normP
 rw [← h.len, ← ha.pk]
 unfold nodes
 exact sameL_nodes _ _ _ ha.f0 ha.sz _
theorem wideN_rd (t : List S56) (kk : Int) (i : Nat) (hi : i < t.length) : rd_T56 (wideN t kk t.length) (i : Int) = tx (wideP (rd_T56 t i).f1 kk i (rd_T56 t i).f1.size) (rd_T56 t i) := by
 rw [rd_get _ i (by rw [wideN_len]; exact hi), rd_get t i hi]
 simp only [wideN, List.getElem_mapIdx]
 rw [if_pos hi]
theorem wideN_gN (t : List S56) (kk : Int) (i : Nat) : t.map gN = (wideN t kk i).map gN := by
 refine List.ext_getElem? fun j => ?_
 unfold wideN
 rw [List.getElem?_map, List.getElem?_map, List.getElem?_mapIdx]
 cases t[j]? with
 | none => rfl
 | some y =>
  simp only [Option.map_some]
  split <;> rfl
theorem wideN_plain (t : List S56) (kk : Int) (i : Nat) : (t.any fun x => !plainB x) = ((wideN t kk i).any fun x => !plainB x) := by
 have e : ∀ t : List S56, (t.any fun x => !plainB x) = (t.map plainB).any fun b => !b := fun t => by rw [List.any_map]; rfl
 rw [e, e]
 congr 1
 refine List.ext_getElem? fun j => ?_
 unfold wideN
 rw [List.getElem?_map, List.getElem?_map, List.getElem?_mapIdx]
 cases t[j]? with
 | none => rfl
 | some y =>
  simp only [Option.map_some]
  split
  ·rw [wide_plainB]
  ·rfl
theorem wideN_same (t : List S56) (kk : Int) (hc : checkP t = 0) : SameB t (wideN t kk t.length) := by
 have hg := wideN_gN t kk t.length
 refine ⟨(wideN_len _ _ _).symm, fun i => (gN_parts (rd_map hg i)).1, fun i => (gN_parts (rd_map hg i)).2, fun i hT => ?_, fun i c hi hT => ?_⟩
 ·by_cases hi : i < t.length
  ·rw [wideN_rd t kk i hi]
   obtain ⟨h1, _, _⟩ := check_parts hc
   have h2 := h1 (rd_T56 t i) (by rw [rd_get t i hi]; exact List.getElem_mem hi)
   have h46 : ¬ (rd_T56 t i).f0 = 46 := fun e => by unfold isT at hT; rw [e] at hT; cases hT
   unfold plainB at h2
   rw [if_neg h46, Bool.and_eq_true, decide_eq_true_eq] at h2
   show (rd_T56 t i).f1 = wideP (rd_T56 t i).f1 kk i (rd_T56 t i).f1.size
   rw [h2.1]
   refine ByteArray.ext ?_
   have h3 : (rd_T56 t i).f1.data.size = 0 := h2.1
   show (rd_T56 t i).f1.data = #[]
   exact Array.eq_empty_of_size_eq_zero h3
  ·rw [rd_out t i (by omega), rd_out _ i (by rw [wideN_len]; omega)]
 ·rw [wideN_rd t kk i hi]
  exact (wide_all _ kk i c).symm
theorem wideN_near (t : List S56) (kk : Int) : near (checkP t) (checkP (wideN t kk t.length)) := near_check (wideN_gN t kk t.length) (wideN_plain t kk t.length)
def styluslaw04_awake.f (k : Nat) : Option Bool := some true
theorem styluslaw04_awake.mono : ∀ k, LeO (styluslaw04_awake.f k) (styluslaw04_awake.f (k + 1)) := fun _ => LeO.refl _
end Go.Proofs.Ythcmfjpheanphaa.Pr
namespace Go.Proofs.Ythcmfjpheanphaa.Pr
open Go.RowKit Go.Proofs.YthcmfjpheanphaaW.PrintWords Go.Proofs.YthcmfjpheanphaaW.PrintLast Go.Proofs.YthcmfjpheanphaaW.PrintMore
attribute [local go_sem] max2_int min2_int max_two min_two max_three min_three max_four min_four
def styluslaw04_TreeChecks.j0 : Nat → List (S56) → List (S56) → Bool → Option (Bool)
 | 0, _, _, _ => none
 | k + 1, x0, x1, x11 => if x11 = true then ((styluslaw04_awake.f k).bind fun t305 => (some t305)) else ((some (([] : List (S56)) : List (S56))).bind fun y306 => (if y306.length + x0.length < 3518437208883 then ((some (y306 ++ x0 : List (S56))).bind fun y309 => ((tree_Check.f y309).bind fun t312 => ((stylusref04_Check.f k x0).bind fun t313 => (if t312 = t313 then ((tree_Same.f y309 x1).bind fun t314 => ((stylusref04_Same.f k x0 x1).bind fun t315 => (if (t314 == t315) = true then ((stylusref04_Like.f k y309 x0).bind fun t316 => (if t316 = true then ((styluslaw04_awake.f k).bind fun t317 => (some t317)) else (some false))) else (some false)))) else (some false))))) else (none)))
def styluslaw04_TreeChecks.f (k : Nat) (l0 : List (S56)) (l1 : List (S56)) : Option (Bool) := (styluslaw04_vast.f k l0).bind fun t303 => (if t303 = true then (styluslaw04_TreeChecks.j0 k l0 l1 true) else ((styluslaw04_vast.f k l1).bind fun t304 => (styluslaw04_TreeChecks.j0 k l0 l1 t304)))
theorem styluslaw04_TreeChecks.mono_l : ∀ k, (∀ y0 y1 y2, LeO (styluslaw04_TreeChecks.j0 k y0 y1 y2) (styluslaw04_TreeChecks.j0 (k + 1) y0 y1 y2))
 | 0 => fun _ _ _ r h => by simp [styluslaw04_TreeChecks.j0] at h
 | k + 1 => by
  have ih0 := styluslaw04_TreeChecks.mono_l k
  ·intro y0 y1 y2
   unfold styluslaw04_TreeChecks.j0
   repeat' first
   | (with_reducible exact ih0 _ _ _)
   | (with_reducible exact styluslaw04_awake.mono _)
   | (with_reducible exact styluslaw04_vast.mono _ _)
   | (with_reducible exact stylusref04_Check.mono _ _)
   | (with_reducible exact stylusref04_Like.mono _ _ _)
   | (with_reducible exact stylusref04_Same.mono _ _ _)
   | (with_reducible exact LeO.refl _)
   | (with_reducible exact LeO.none _)
   | (with_reducible refine LeO.ite ?_ ?_)
   | (with_reducible refine LeO.bind ?_ (fun _ => ?_))
   | exact ih0 _ _ _
   | exact styluslaw04_awake.mono _
   | exact styluslaw04_vast.mono _ _
   | exact stylusref04_Check.mono _ _
   | exact stylusref04_Like.mono _ _ _
   | exact stylusref04_Same.mono _ _ _
   | exact LeO.none _
   | refine LeO.ite ?_ ?_
   | refine LeO.bind ?_ (fun _ => ?_)
theorem styluslaw04_TreeChecks.mono : ∀ a0 a1 k, LeO (styluslaw04_TreeChecks.f k a0 a1) (styluslaw04_TreeChecks.f (k + 1) a0 a1) := by
 intro a0 a1 k
 have ih0 := styluslaw04_TreeChecks.mono_l k
 unfold styluslaw04_TreeChecks.f
 repeat' first
   | (with_reducible exact ih0 _ _ _)
   | (with_reducible exact styluslaw04_awake.mono _)
   | (with_reducible exact styluslaw04_vast.mono _ _)
   | (with_reducible exact stylusref04_Check.mono _ _)
   | (with_reducible exact stylusref04_Like.mono _ _ _)
   | (with_reducible exact stylusref04_Same.mono _ _ _)
   | (with_reducible exact LeO.refl _)
   | (with_reducible exact LeO.none _)
   | (with_reducible refine LeO.ite ?_ ?_)
   | (with_reducible refine LeO.bind ?_ (fun _ => ?_))
   | exact ih0 _ _ _
   | exact styluslaw04_awake.mono _
   | exact styluslaw04_vast.mono _ _
   | exact stylusref04_Check.mono _ _
   | exact stylusref04_Like.mono _ _ _
   | exact stylusref04_Same.mono _ _ _
   | exact LeO.none _
   | refine LeO.ite ?_ ?_
   | refine LeO.bind ?_ (fun _ => ?_)
end Go.Proofs.Ythcmfjpheanphaa.Pr
namespace Go.Proofs.Ythcmfjpheanphaa.Pr
open Go.RowKit Go.ChangeShapes Go.WideShapes Go.Deep Go.Proofs.YthcmfjpheanphaaW.PrintWords
section
variable {H : Type} {enc : TypeId × Value → H} {w : World} {base : Nat} {spare : Nat → Bool} {held : Bool}
theorem cells56 : Try.prog.cellsOf 56 = 4 := by kernel_rfl
theorem cells3 : Try.prog.cellsOf 3 = 1 := by kernel_rfl
theorem cells5 : Try.prog.cellsOf 5 = 1 := by kernel_rfl
theorem cellsH9 : Try.prog.cellsOf 9 = 1 := by kernel_rfl
theorem bytes56 : Try.prog.bytesOf 56 = 40 := by kernel_rfl
def Fit56 (x : S56) : Prop := (Lit.int .u8 x.f0).wf = true ∧ x.f1.size ≤ maxLen ∧ (Lit.int .i64 x.f2).wf = true ∧ (Lit.int .i64 x.f3).wf = true
set_option maxRecDepth 100000 in
theorem item_open {n : Nat} {cs : List Value} {y : DataW H × List MemPlace} (h : DataW.trod enc Try.prog w base spare held n 56 cs = some y) :
  ∃ x : S56, cs = [.int .u8 x.f0, .string x.f1, .int .i64 x.f2, .int .i64 x.f3] ∧ Fit56 x := by
 obtain ⟨ys, m, rfl, _, hlen, hyl, hf⟩ := DataW.trod_struct Try.underlying56 h
 rw [cells56] at hlen
 match cs, hlen with
 | [c0, c1, c2, c3], _ =>
  match ys, hyl with
  | [y0, y1, y2, y3], _ =>
   have g0 : DataW.trod enc Try.prog w base spare held m 5 (([c0, c1, c2, c3].drop 0).take (Try.prog.cellsOf 5)) = some y0 := hf 0 _ rfl
   have g1 : DataW.trod enc Try.prog w base spare held m 9 (([c0, c1, c2, c3].drop 1).take (Try.prog.cellsOf 9)) = some y1 := hf 1 _ rfl
   have g2 : DataW.trod enc Try.prog w base spare held m 3 (([c0, c1, c2, c3].drop 2).take (Try.prog.cellsOf 3)) = some y2 := hf 2 _ rfl
   have g3 : DataW.trod enc Try.prog w base spare held m 3 (([c0, c1, c2, c3].drop 3).take (Try.prog.cellsOf 3)) = some y3 := hf 3 _ rfl
   rw [cells5] at g0
   rw [cellsH9] at g1
   rw [cells3] at g2 g3
   obtain ⟨n0, e0, _, f0⟩ := DataW.trod_int Try.underlying5 g0
   obtain ⟨n1, e1, _, f1⟩ := DataW.trod_string Try.underlying9 g1
   obtain ⟨n2, e2, _, f2⟩ := DataW.trod_int Try.underlying3 g2
   obtain ⟨n3, e3, _, f3⟩ := DataW.trod_int Try.underlying3 g3
   simp at e0 e1 e2 e3
   exact ⟨⟨n0, n1, n2, n3⟩, by rw [e0, e1, e2, e3], f0, f1, f2, f3⟩
set_option maxRecDepth 100000 in
theorem open_N {a : Option Addr} {len cap : Nat} {d : DataW H} {ps : List MemPlace} {ts : List TypeId} {ds : List (DataW H)} {j : Nat}
  (hsz : (DataW.weightsEach Try.prog ts ds).all (· ≤ reachBytes) = true) (ht : ts[j]? = some 50) (hd : ds[j]? = some d)
  (h : DataW.Trod enc Try.prog w base spare held 50 (.slice a len cap) d ps) :
  ∃ l : List S56, len = l.length ∧ (Kd.C k56 w a l.length l ∧ ∀ x ∈ l, Fit56 x) ∧ l.length ≤ cap ∧ l.length * 40 ≤ 140737488351232 := by
 obtain ⟨fuel, hf⟩ := h
 rcases open_slice Try.underlying50 hf with ⟨hcs, _⟩ | ⟨x, len', cap', m, n, D, Pl, hcs, _, hl, hcm, hm, hx, hi⟩
 ·simp [Value.cells] at hcs
  obtain ⟨rfl, rfl, rfl⟩ := hcs
  exact ⟨[], rfl, ⟨⟨rfl, by simp, fun h => absurd h (by simp)⟩, fun x hx => by cases hx⟩, Nat.le_refl _, by simp⟩
 ·simp [Value.cells] at hcs
  obtain ⟨rfl, rfl, rfl⟩ := hcs
  obtain ⟨hx1, _⟩ := Prod.mk.inj hx
  subst hx1
  have z := sized_slice hsz ht hd Try.underlying50
  rw [bytes56] at z
  have hlm : len ≤ m := by rw [hm]; split <;> omega
  have hit : ∀ i, i < len → ∃ y : S56, (∀ k u, [Value.int .u8 y.f0, .string y.f1, .int .i64 y.f2, .int .i64 y.f3][k]? = some u → w.cell? (x.add (i * 4 + k)) = some u) ∧ Fit56 y := fun i hil => by
   obtain ⟨cs', hc, htr⟩ := hi i (by omega)
   rw [cells56] at hc
   obtain ⟨y, rfl, hfit⟩ := item_open htr
   obtain ⟨_, _, hat⟩ := World.cells?_some hc
   refine ⟨y, fun k u hk => ?_, hfit⟩
   have hk5 : k < 4 := by
    have := (List.getElem?_eq_some_iff.1 hk).1
    simpa using this
   have := hat k hk5
   rw [hk, Go.Deep.add_add] at this
   exact this
  let f : Nat → S56 := fun i => if hil : i < len then (hit i hil).choose else z56
  have hfs : ∀ i, i < len → (∀ k u, [Value.int .u8 (f i).f0, .string (f i).f1, .int .i64 (f i).f2, .int .i64 (f i).f3][k]? = some u → w.cell? (x.add (i * 4 + k)) = some u) ∧ Fit56 (f i) := fun i hil => by
   have e : f i = (hit i hil).choose := dif_pos hil
   rw [e]
   exact (hit i hil).choose_spec
  have hll : ((List.range len).map f).length = len := by simp
  have hl40 : len * 40 ≤ 140737488351232 := by
   have h1 : ((List.range len).map D).length = len := by simp
   rw [h1] at z
   exact Nat.le_trans (Nat.mul_le_mul_right _ (by omega)) z
  refine ⟨(List.range len).map f, hll.symm, ⟨⟨rfl, by rw [hll]; omega, fun _ => ⟨x, rfl, fun i p hp => ?_⟩⟩, fun y hy => ?_⟩, by rw [hll]; exact hl, by rw [hll]; exact hl40⟩
  ·rw [List.getElem?_map] at hp
   obtain ⟨i', hi', rfl⟩ := Option.map_eq_some_iff.1 hp
   obtain ⟨hlt, rfl⟩ := List.getElem?_eq_some_iff.1 hi'
   simp only [List.length_range] at hlt
   simp only [List.getElem_range]
   exact ⟨_, rfl, k56_mk _ _, (hfs i hlt).1⟩
  ·obtain ⟨i, hi', rfl⟩ := List.mem_map.1 hy
   exact (hfs i (List.mem_range.1 hi')).2
end
end Go.Proofs.Ythcmfjpheanphaa.Pr
namespace Go.Proofs.Ythcmfjpheanphaa.Pr
open Go.RowKit Go.Maps Go.Proofs.YthcmfjpheanphaaW.PrintWords
theorem fit_kind {x : S56} (h : Fit56 x) : 0 ≤ x.f0 ∧ x.f0 ≤ 255 := by
 have h1 := h.1
 simp only [Lit.wf, Bool.and_eq_true, decide_eq_true_eq] at h1
 have e1 : IntKind.min .u8 = 0 := rfl
 have e2 : IntKind.max .u8 = 255 := rfl
 rw [e1, e2] at h1
 exact h1
end Go.Proofs.Ythcmfjpheanphaa.Pr
namespace Go.Proofs.Ythcmfjpheanphaa.Pr
open Go.RowKit Go.Proofs.Ythcmfjpheanphaa.Pure Go.Proofs.YthcmfjpheanphaaW.PrintWords
def vastB (l : List S56) : Bool := decide (150 < l.length) || l.any fun x => decide (100 < x.f1.size)
theorem vastB_small {t : List S56} (h : vastB t = false) : t.length ≤ 150 ∧ ∀ x ∈ t, x.f1.size ≤ 100 := by
 unfold vastB at h
 rw [Bool.or_eq_false_iff, decide_eq_false_iff_not, List.any_eq_false] at h
 refine ⟨by omega, fun x hx => ?_⟩
 have := h.2 x hx
 rw [decide_eq_true_eq] at this
 omega
end Go.Proofs.Ythcmfjpheanphaa.Pr
namespace Go.Proofs.Ythcmfjpheanphaa.Pr
open Go.RowKit Go.Proofs.YthcmfjpheanphaaW.PrintWords
theorem wf_i64 (j : Int) (h0 : 0 ≤ j) (h1 : j ≤ 1000000) : (Lit.int .i64 j).wf = true := by
 simp only [Lit.wf, Bool.and_eq_true, decide_eq_true_eq]
 have e1 : IntKind.min .i64 = -9223372036854775808 := rfl
 have e2 : IntKind.max .i64 = 9223372036854775807 := rfl
 rw [e1, e2]
 omega
structure Fair (t : List S56) : Prop where
 len : t.length ≤ 3000
 size : ∀ x ∈ t, x.f1.size ≤ 10000
 kind : ∀ x ∈ t, 0 ≤ x.f0 ∧ x.f0 ≤ 255
theorem Fair.nodes {t : List S56} (h : Fair t) : NodesOk t := fun x hx => ⟨by have := h.size x hx; omega, h.kind x hx⟩
theorem Fair.nodesB {t : List S56} (h : Fair t) : nodesB t = true := (nodesB_iff t).mpr ⟨by have := h.len; omega, h.nodes⟩
theorem Fair.rd {t : List S56} (h : Fair t) : ∀ i, i < t.length → (rd_T56 t i).f1.size ≤ 10000 := fun i hi => h.size _ (by rw [rd_get t i hi]; exact List.getElem_mem hi)
theorem Fair.txt {t : List S56} (h : Fair t) (hc : checkP t = 0) : Txt t := check_txt hc h.nodes h.len h.rd
theorem squeezed_f {t : List S56} (h : Txt t) (k : Nat) (hk : t.length * (t.length + 5) + 5 ≤ k) : norm_squeezed.f k t = some (sqF t) := by
 unfold norm_squeezed.f
 have hlen := h.len
 rw [owners_f t h.nst (by omega) h.kind k hk]
 refine (Option.bind_some _ _).trans ?_
 have c1 : (((List.range t.length).map (ow t)).all fun j => (Lit.int .i64 j).wf) = true := by
  rw [List.all_eq_true]
  intro j hj
  obtain ⟨i, hi, rfl⟩ := List.mem_map.1 hj
  have h1 := List.mem_range.1 hi
  have h2 := ow_range t i
  exact wf_i64 _ h2.1 (by omega)
 have c2 : (t.all fun x => decide (x.f1.size ≤ 1000000)) = true := by
  rw [List.all_eq_true]
  intro x hx
  obtain ⟨i, hi, rfl⟩ := List.getElem_of_mem hx
  have := h.size i hi
  rw [rd_get t i hi] at this
  simp
  omega
 refine (if_pos ⟨by omega, by simp, c1, c2⟩).trans ?_
 rw [← squeeze_eq t h]
 rfl
def NB : Nat := 10000000000000000
theorem NB_big : 3000 * 3005 + 5 ≤ NB ∧ 4 * 3000 + 20 ≤ NB ∧ 3000 * 20000 + 20000 ≤ NB ∧ 40000000 * 40000005 + 5 ≤ NB ∧ 3000 * 10040 + 5000000 ≤ NB ∧ 10000 ≤ NB := by decide
def ofP (t : List S56) : List S56 × Int := if checkP t = 0 then (normP t, 0) else ([], checkP t)
theorem norm_f {t : List S56} (h : Fair t) (k : Nat) (hk : NB ≤ k) : norm_Of.f k t = some (ofP t) := by
 have hlen := h.len
 obtain ⟨n1, n2, n3, n4, n5, n6⟩ := NB_big
 have e1 : tree_Check.f t = some (checkP t) := by unfold tree_Check.f; rw [if_pos h.nodesB]
 unfold norm_Of.f ofP
 rw [e1]
 refine (Option.bind_some _ _).trans ?_
 by_cases hc : checkP t = 0
 ·rw [if_pos hc, if_pos hc]
  have ht := h.txt hc
  have hq : t.length * (t.length + 5) ≤ 3000 * 3005 := Nat.mul_le_mul hlen (by omega)
  rw [squeezed_f ht k (by omega)]
  refine (Option.bind_some _ _).trans ?_
  have hp := packed_f (sqF t) (sqF_nst ht.nst) (by rw [sqF_len]; omega) (fun i hi => Nat.le_trans (sqF_size t 10000 ht.size i hi) (by decide)) k (by rw [sqF_len]; omega)
  rw [sqF_len] at hp
  rw [hp]
  exact Option.bind_some _ _
 ·rw [if_neg hc, if_neg hc]
theorem normP_len (t : List S56) : (normP t).length ≤ t.length := by
 unfold normP
 rw [nodes_len]
 unfold pk
 refine Nat.le_trans (fold_len _ _ []) ?_
 have := live_len (sqF t) 0 (t.length - 0)
 simp only [List.length_nil]
 omega
theorem vast5_loop (t : List S56) (hl : t.length ≤ 1000000) : ∀ (d i k : Nat), d + i = t.length → d + 1 ≤ k → styluslaw05_vast.l0 k t i = some ((t.drop i).any fun x => decide (100 < x.f1.size))
 | 0, i, k, h, hk => by
  obtain ⟨k, rfl⟩ : ∃ q, k = q + 1 := ⟨k - 1, by omega⟩
  rw [styluslaw05_vast.l0, if_neg (by omega), List.drop_eq_nil_of_le (by omega)]
  rfl
 | d + 1, i, k, h, hk => by
  obtain ⟨k, rfl⟩ : ∃ q, k = q + 1 := ⟨k - 1, by omega⟩
  have hi : i < t.length := by omega
  have hdrop : t.drop i = rd_T56 t i :: t.drop (i + 1) := by
   unfold rd_T56
   rw [Int.toNat_natCast, List.getD_eq_getElem?_getD, List.getElem?_eq_getElem hi, List.drop_eq_getElem_cons hi]
   rfl
  rw [styluslaw05_vast.l0, if_pos (by omega), if_pos (by omega), hdrop, List.any_cons]
  by_cases h1 : 100 < (rd_T56 t i).f1.size
  ·rw [if_pos (by omega), decide_eq_true h1]
   rfl
  ·rw [if_neg (by omega), decide_eq_false h1, Bool.false_or, wrap_s (by omega)]
   exact vast5_loop t hl d (i + 1) k (by omega) (by omega)
theorem vast5_f (t : List S56) (k : Nat) (hk : 200 ≤ k) : styluslaw05_vast.f k t = some (vastB t) := by
 unfold styluslaw05_vast.f vastB
 by_cases h : 150 < t.length
 ·rw [if_pos (by omega), decide_eq_true h]
  rfl
 ·rw [if_neg (by omega), decide_eq_false h, Bool.false_or]
  have := vast5_loop t (by omega) t.length 0 k (by omega) (by omega)
  rw [List.drop_zero] at this
  exact this
theorem awake5_f : styluslaw05_awake.f NB = some true := by decide +kernel
end Go.Proofs.Ythcmfjpheanphaa.Pr
