/- Texts of this seat, one behind the other. -/
import Derived.BigRegion
import Derived.Lib.Hide
import Derived.RangeFuncNested
import Derived.RangeFuncBound
import Derived.RangeFuncCalls
import Derived.RangeFuncLeaves
import Derived.Shelf.Abstract
import Derived.Shelf.RegionOpen
import Derived.OwnWalkIn
import Derived.TacticsInMore
import Derived.LoopNIn
import Derived.LoopIn
import Derived.RangeFuncBox
import Derived.Maps.AppendAt
import Derived.WalkKit
import Derived.Test.YthcmfjpheanphaaXNormWhite1
import Derived.Test.YthcmfjpheanphaaXNormWhite2
import Derived.Test.YthcmfjpheanphaaXNormWhite3
set_option linter.unusedVariables false
set_option linter.unusedSimpArgs false
namespace Go.Proofs.Ythcmfjpheanphaa.Pr
open Go.RowKit Go.Maps Go.Proofs.YthcmfjpheanphaaW.PrintWords
attribute [local go_sem] Oper.semAt_some
theorem info155 : (Try.prog.info? 155).map (fun i => (i.zero, i.size, i.bytes)) = some (some (.agg #[(.int .u8 0), (.int .i64 0), (.int .i64 0), (.int .i64 0), (.bool false), (.int .i64 0), (.int .i64 0)]), 7, 56) := by kernel_rfl
def StepTo (B0 g m : Nat) (s : Bld) (w w' : World) : Prop := ∃ vr vt, BAt w' B0 g m vr vt s ∧ Below B0 w w' ∧ KeepK w w'
theorem row_end {W : World} {B0 g m cr : Nat} {A A' : Option Addr} {vt : Value} {c' : Nat} {r : List Opn} {t : List S56} {x : Opn} {W4 : World}
  (h : BAt W B0 g m (.slice A r.length cr) vt ⟨r, t⟩) (hg : (W.alloc (.cells (cellsO x).toArray 155)).grownBy W4 (Value.slice A r.length cr).ownBlock)
  (ho : W4.ownsRow B0 155 7 (.slice A' (r.length + 1) c') (r.length + 1) (flatO r ++ cellsO x)) (hB : B0 ≤ W.heap.size) :
  W4.heap[g]? = some (.cells #[.slice A r.length cr, vt, .map (some m)] 104 (0, 0)) ∧
  BAt (W4.setCell ⟨g, 0, none⟩ (.slice A' (r.length + 1) c')) B0 g m (.slice A' (r.length + 1) c') vt ⟨r ++ [x], t⟩ ∧
  (Below B0 W (W4.setCell ⟨g, 0, none⟩ (.slice A' (r.length + 1) c')) ∧ KeepK W (W4.setCell ⟨g, 0, none⟩ (.slice A' (r.length + 1) c'))) := by
 have hrow : W.ownsRow B0 155 7 (.slice A r.length cr) r.length (flatO r) := h.row
 have hne : some g ≠ (Value.slice A r.length cr).ownBlock := own_ne hrow h.blk (by decide)
 have hb4 : W4.heap[g]? = some (.cells #[.slice A r.length cr, vt, .map (some m)] 104 (0, 0)) := blk_grown (blk_alloc h.blk _) hg hne
 have hblk : (W4.setCell ⟨g, 0, none⟩ (.slice A' (r.length + 1) c')).heap[g]? = some (.cells #[.slice A' (r.length + 1) c', vt, .map (some m)] 104 (0, 0)) := blk_put hb4 0 _ rfl
 have htr := own_type_ne h.t hrow (by decide)
 have ht4 : W4.ownsRow B0 56 4 vt t.length (flat56 t) := own_other (own_alloc h.t _) hg htr
 have hgt := own_ne ht4 hb4 (by decide)
 have hgr := own_ne ho hb4 (by decide)
 obtain ⟨es, clock, hm⟩ := map_obj h.map
 have hmt : some m ≠ (Value.slice A r.length cr).ownBlock := fun e => by
  obtain ⟨cs, hcs⟩ := own_typed hrow m e.symm
  rw [hm] at hcs
  cases hcs
 have hmg : m ≠ g := fun e => by
  subst e
  rw [h.blk] at hm
  cases hm
 refine ⟨hb4, ⟨h.base, hblk, ?_, own_setCell ht4 (p := ⟨g, 0, none⟩) hgt _, map_move h.map fun o ho' => ?_⟩, ?_, ?_⟩
 ·have := own_setCell ho (p := ⟨g, 0, none⟩) hgr (.slice A' (r.length + 1) c')
  show World.ownsRow _ B0 155 7 _ (r ++ [x]).length (flatO (r ++ [x]))
  rw [flatO_snoc, List.length_append]
  exact this
 ·rw [Below.heap_setCell _ _ _ _ hmg]
  exact blk_grown (blk_alloc ho' _) hg hmt
 ·refine Below.setCell ?_ h.base _
  have h1 : Below B0 W (W.alloc (.cells (cellsO x).toArray 155)) := (Below.refl B0 W).alloc hB _
  refine pw_below_grown h1 _ (by simp; omega) hg fun k hk => ?_
  exact own_base hrow k hk
 ·refine KeepK.trans (KeepK.trans (KeepK.below ((Below.refl _ W).alloc (Nat.le_refl _) (.cells (cellsO x).toArray 155))) (KeepK.grown hg fun k hk => ?_)) (KeepK.set (p := ⟨g, 0, none⟩) hb4 rfl _)
  obtain ⟨cs, hcs⟩ := own_typed (own_alloc hrow (.cells (cellsO x).toArray 155)) k hk
  exact ⟨_, hcs, rfl⟩
theorem may_around {r : List Opn} (h : mayP r 110 = true) : ∃ j, aroundP flowK r r.length = some j := by
 unfold mayP at h
 cases ha : aroundP flowK r r.length with
 | some j => exact ⟨j, rfl⟩
 | none => rw [ha] at h; simp at h
theorem StepTo.mk' {B0 g m : Nat} {s : Bld} {w w' : World} {vr vt : Value} (h : BAt w' B0 g m vr vt s) (h1 : Below B0 w w') (h2 : KeepK w w') : StepTo B0 g m s w w' := ⟨vr, vt, h, h1, h2⟩
theorem below_low {B0 : Nat} {w w' : World} (h : Below w.heap.size w w') (hB : B0 ≤ w.heap.size) : Below B0 w w' := ⟨h.os, h.tape, h.output, h.size, fun i hi => h.block i (by omega)⟩
set_option pp.maxSteps 3000 in
set_option maxRecDepth 100000 in
set_option maxHeartbeats 8000000 in
theorem opens_calls (B0 g m : Nat) (vr vt : Value) (s : Bld) (x : S47) (w : World) (hB0 : B0 ≤ w.heap.size) (hk0 : 0 ≤ x.f1) (hk1 : x.f1 ≤ 255) (hn : s.row.length ≤ 999999) (hnt : s.t.length ≤ 999999) (hkb : KindsB s.row) (hb : BAt w B0 g m vr vt s) :
  Calls Try.prog 93 #[.pointer (some ⟨g, 0, none⟩), .agg #[.int .i64 x.f0, .int .u8 x.f1, .string x.f2, .int .i64 x.f3]] w fun e w' =>
   e = .returned (.tuple #[.int .i64 (opensP s x).2.1, .int .i64 (opensP s x).2.2]) ∧ StepTo B0 g m (opensP s x).1 w w' := by
 obtain ⟨f0, k, f2, f3⟩ := x
 simp only at hk0 hk1
 obtain ⟨A, c, rfl⟩ := own_slice hb.row
 have hb1 : Below w.heap.size w (w.alloc (.cells #[.int .i64 f0, .int .u8 k, .string f2, .int .i64 f3] 47)) := (Below.refl _ w).alloc (Nat.le_refl _) _
 have hx := blk_new w (.cells #[.int .i64 f0, .int .u8 k, .string f2, .int .i64 f3] 47)
 have hbx := hb.below hb1
 obtain ⟨w1, hw1⟩ : ∃ w1, w.alloc (.cells #[.int .i64 f0, .int .u8 k, .string f2, .int .i64 f3] 47) = w1 := ⟨_, rfl⟩
 rw [hw1] at hb1 hx hbx
 have hx1 := blk_cell hx 1
 simp only [List.getElem?_toArray, List.getElem?_cons_succ, List.getElem?_cons_zero] at hx1
 have hmay := fun W (hW : BAt W B0 g m (.slice A s.row.length c) vt s) => may_calls B0 g m _ vt s k W hk0 hk1 (by omega) hkb hW
 have HM := Lib.hid hmay
 have HROW := Lib.hid hb.row
 have HB := Lib.hid hbx
 have HB1 := Lib.hid hb1
 have HX := Lib.hid hx
 have HKB := Lib.hid hkb
 clear hb hb1 hx hbx hmay hkb
 cases hmm : mayP s.row k with
 | false =>
  have hP : opensP s ⟨f0, k, f2, f3⟩ = (s, f3, 2) := by unfold opensP; simp only [hmm]; rfl
  have HP := Lib.hid hP
  rw [hmm] at HM
  clear hP
  have HMM := Lib.hid hmm
  clear hmm
  go_enter Try.func93, Try.ntmps93
  go_wp2_with (go_at_call 104; refine (HM.out _ HB.out).mono ?_; rintro e w2 ⟨rfl, hb2⟩; have cx3 := blk_cell (blk_below HX.out hb2) 3; simp only [List.getElem?_toArray, List.getElem?_cons_succ, List.getElem?_cons_zero] at cx3)
  go_ret2
  refine ⟨by rw [HP.out]; rfl, ?_⟩
  rw [HP.out]
  exact StepTo.mk' (HB.out.below hb2) (below_low (HB1.out.trans (hb2.mono HB1.out.size)) hB0) (KeepK.below (HB1.out.trans (hb2.mono HB1.out.size)))
 | true =>
  have HMM := Lib.hid hmm
  rw [hmm] at HM
  clear hmm
  have hkc : (k == 110) = false ∧ (k == 108) = false ∨ (k == 110) = true ∨ (k == 110) = false ∧ (k == 108) = true := by
   simp only [beq_eq_false_iff_ne, beq_iff_eq]; omega
  rcases hkc with ⟨k1, k2⟩ | k1 | ⟨k1, k2⟩
  ·go_enter Try.func93, Try.ntmps93
   go_wp2_with (go_at_call 104; (with_reducible refine (HM.out _ HB.out).mono ?_); rintro e w2 ⟨rfl, hb2⟩; have cx1 := blk_cell (blk_below HX.out hb2) 1; have cx3 := blk_cell (blk_below HX.out hb2) 3; simp only [List.getElem?_toArray, List.getElem?_cons_succ, List.getElem?_cons_zero] at cx1 cx3)
   have HW2 := Lib.hid (HB1.out.trans (hb2.mono HB1.out.size))
   have HS := Lib.hid (show BAt w2 B0 g m (.slice A s.row.length c) vt ⟨markP s.row k, s.t⟩ ∧ Below B0 w w2 ∧ KeepK w w2 from by
    rw [show markP s.row k = s.row from by unfold markP; rw [if_neg (beq_eq_false_iff_ne.1 k1), if_neg (beq_eq_false_iff_ne.1 k2)]]
    exact ⟨HB.out.below hb2, below_low HW2.out hB0, KeepK.below HW2.out⟩)
   have HX1 := Lib.hid (blk_below HX.out hb2)
   obtain ⟨W1, hW1⟩ : ∃ W1, w2 = W1 := ⟨_, rfl⟩
   rw [hW1] at HS HX1 ⊢
   clear hW1 cx1 cx3
   refine (add_calls B0 g m (.slice A s.row.length c) vt ⟨markP s.row k, s.t⟩ ⟨k, ⟨#[]⟩, f3, 1⟩ W1 (Nat.le_trans hB0 HS.out.2.1.size) (by rw [markP_length]; omega) (by show s.t.length ≤ _; omega) HS.out.1).mono ?_
   rintro e W2 ⟨rfl, vt2, hbb, hl2, hk2⟩
   replace hbb : BAt W2 B0 g m (.slice A s.row.length c) vt2 ⟨kidP (markP s.row k), s.t ++ [⟨k, ⟨#[]⟩, f3, 1⟩]⟩ := hbb
   obtain ⟨E, hE⟩ : ∃ E, (addP ⟨markP s.row k, s.t⟩ ⟨k, ⟨#[]⟩, f3, 1⟩).2 = E := ⟨_, rfl⟩
   rw [hE]
   have HE := Lib.hid (show (if 2000 < s.t.length + 1 then (4 : Int) else 0) = E from hE)
   obtain ⟨At, ct, rfl⟩ := own_slice hbb.t
   have hT : (s.t ++ [⟨k, ⟨#[]⟩, f3, 1⟩] : List S56).length = s.t.length + 1 := by simp
   have hR : (kidP (markP s.row k)).length = s.row.length := by rw [kidP_length, markP_length]
   have hfold : BAt W2 B0 g m (.slice A s.row.length c) (.slice At (s.t.length + 1) ct) ⟨kidP (markP s.row k), s.t ++ [⟨k, ⟨#[]⟩, f3, 1⟩]⟩ := by have := hbb; rw [hT] at this; exact this
   have hX2 : W2.heap[w.heap.size]? = some (.cells #[.int .i64 f0, .int .u8 k, .string f2, .int .i64 f3] 47 (0, 0)) := hk2 _ _ HX1.out rfl
   have hLW : Below B0 w W2 := HS.out.2.1.trans hl2
   have hKW : KeepK w W2 := HS.out.2.2.trans hk2
   obtain ⟨r1, hr1⟩ : ∃ r1, kidP (markP s.row k) = r1 := ⟨_, rfl⟩
   rw [hr1] at hfold hR
   have HR1 := Lib.hid hr1
   have HLR := Lib.hid hR
   rw [← hR] at hfold
   obtain ⟨W3, hW3⟩ : ∃ W3, W2.drew = W3 := ⟨_, rfl⟩
   have hK3 : BAt W3 B0 g m (.slice A r1.length c) (.slice At (s.t.length + 1) ct) ⟨r1, s.t ++ [⟨k, ⟨#[]⟩, f3, 1⟩]⟩ := by rw [← hW3]; exact hfold.below (below_drew1 (Below.refl _ _))
   have hX3 : W3.heap[w.heap.size]? = some (.cells #[.int .i64 f0, .int .u8 k, .string f2, .int .i64 f3] 47 (0, 0)) := by rw [← hW3]; exact hX2
   have hL3 : Below B0 w W3 := by rw [← hW3]; exact below_drew1 hLW
   have hE3 : KeepK w W3 := by rw [← hW3]; exact hKW.drew
   have hs3 : w.heap.size < W3.heap.size := blk_lt hX3
   have c1 := blk_cell hX2 1
   have d0 := blk_cell hfold.blk 0
   have d1 := blk_cell hfold.blk 1
   simp only [List.getElem?_toArray, List.getElem?_cons_succ, List.getElem?_cons_zero] at c1 d0 d1
   have hrl : r1.length ≤ 999999 := by omega
   have HK3 := Lib.hid hK3
   have HL3 := Lib.hid hL3
   have HE3 := Lib.hid hE3
   have HX3 := Lib.hid hX3
   have HC := Lib.hid (And.intro c1 (And.intro d0 d1))
   clear hE hT hR hr1 hfold hbb hX2 hLW hKW hK3 hX3 hL3 hE3 c1 d0 d1 HS HX1 hl2 hk2 hb2 HX HB1
   go_wp2_with fail
   refine Go.Mix.region_mix' (fun b W => W = (bif b then W3.alloc (.cells #[.int .u8 k, .int .i64 s.t.length, .int .i64 0, .int .i64 0, .bool false, .int .i64 0, .int .i64 0] 155) else W3)) 14 15 [0] (by kernel_rfl) (by kernel_rfl) (fun _ _ _ _ _ h => h) hW3 ?_
   clear hW3
   refine Go.Mix.seqE_cons (t' := #[_, _, _, _, _, _, _, _, _, _, _, _, _, _, _, _, _, _, _, _, _, _, _, _, _, _, _, _, _, _, _, _, _, _, _, _, _, _, _, _, _, _, _, _, _, _, _, _, _, _, _, _, _, _, _, _, _, _, _, _, _, _, _, _, _, _, _, _, _, _, _, _, _, _, _, _, _, _, _, _]) _ (.pointer (some ⟨g, 0, none⟩)) rfl rfl (fun w' => rfl) rfl ?_
   refine Go.Mix.seqE_nil ?_
   refine Go.Mix.seqM_skip (by rfl) ?_
   repeat
    apply Go.Mix.seqM_cons (by rfl) (by rfl)
    focus
     intro b W hS
     have hB : Below W3.heap.size W3 W := by
      rw [hS]
      cases b
      ·exact Below.refl _ _
      ·exact (Below.refl _ _).alloc (Nat.le_refl _) _
     have c1 := blk_cell (blk_below HX3.out hB) 1
     have d0 := blk_cell (HK3.out.below hB).blk 0
     have d1 := blk_cell (HK3.out.below hB).blk 1
     simp only [List.getElem?_toArray, List.getElem?_cons_succ, List.getElem?_cons_zero] at c1 d0 d1
     have HS := Lib.hid hS
     clear hS hB
     go_wp2
     exact Go.Det.AtEnd.mk HS.out
   apply Go.Mix.seqM_main (by rfl)
   focus
    intro W hS
    obtain rfl : W = W3 := hS
    go_wp2
    exact Go.Det.AtEnd.mk rfl
   refine Go.Mix.seqM_nil ?_
   intro W4 hW4
   obtain rfl : W4 = W3.alloc (.cells #[.int .u8 k, .int .i64 s.t.length, .int .i64 0, .int .i64 0, .bool false, .int .i64 0, .int .i64 0] 155) := hW4
   simp only [List.drop_succ_cons, List.drop_zero]
   obtain ⟨i0, hi, hz0, hz1, hz2⟩ := info_parts info155
   go_wp2_with (at_builtin; refine wpList_append_own_at _ rfl _ _ 101 rfl B0 155 i0 (.agg #[(.int .u8 0), (.int .i64 0), (.int .i64 0), (.int .i64 0), (.bool false), (.int .i64 0), (.int .i64 0)]) 7 56 Try.underlying101 hi hz0 hz1 hz2 rfl (by decide) _ _ _ rfl (HK3.out.row.alloc _) _ 1 1 [.int .u8 k, .int .i64 s.t.length, .int .i64 0, .int .i64 0, .bool false, .int .i64 0, .int .i64 0] rfl rfl ?e1a ?e2a ?e3a ?e4a ?e5a ?e6a)
   case e1a => exact cells_newT W3 [.int .u8 k, .int .i64 s.t.length, .int .i64 0, .int .i64 0, .bool false, .int .i64 0, .int .i64 0] 155
   case e2a => simp [Value.oneCell']
   case e3a => unfold maxLen; omega
   case e4a => omega
   case e5a => first | omega | (simp; omega)
   case e6a =>
    intro v' W5 hown' hgrow _ hat
    obtain ⟨A', c', rfl⟩ := own_slice hown'
    have hfin := row_end (x := ⟨k, s.t.length, 0, 0, false, 0, 0⟩) HK3.out hgrow hown' (by omega)
    obtain ⟨hf1, hf2, hf3⟩ := hfin
    have e0 := blk_cell hf1 0
    have z0 := blk_frozen hf1 0
    have e0' := blk_cell hf2.blk 0
    simp only [List.getElem?_toArray, List.getElem?_cons_succ, List.getElem?_cons_zero] at e0 e0'
    have hX5 : (W5.setCell ⟨g, 0, none⟩ (.slice A' (r1.length + 1) c')).heap[w.heap.size]? = some (.cells #[.int .i64 f0, .int .u8 k, .string f2, .int .i64 f3] 47 (0, 0)) := hf3.2 _ _ HX3.out rfl
    have x3 := blk_cell hX5 3
    simp only [List.getElem?_toArray, List.getElem?_cons_succ, List.getElem?_cons_zero] at x3
    have HO : (opensP s ⟨f0, k, f2, f3⟩) = (⟨r1 ++ [⟨k, s.t.length, 0, 0, false, 0, 0⟩], s.t ++ [⟨k, ⟨#[]⟩, f3, 1⟩]⟩, f3, if 32 < s.row.length + 1 ∨ 8 < hasP 108 (r1 ++ [⟨k, s.t.length, 0, 0, false, 0, 0⟩]) then 5 else E) := by
     unfold opensP
     simp only [HMM.out, if_true, HR1.out, HE.out]
    rw [← HLR.out] at HO
    have HO := Lib.hid HO
    have H2 := Lib.hid hf2
    have H3 := Lib.hid (show Below B0 w (W5.setCell ⟨g, 0, none⟩ (.slice A' (r1.length + 1) c')) ∧ KeepK w (W5.setCell ⟨g, 0, none⟩ (.slice A' (r1.length + 1) c')) from ⟨HL3.out.trans hf3.1, HE3.out.trans hf3.2⟩)
    have HX5 := Lib.hid hX5
    have HH := Lib.hid (hasO_calls B0 (.slice A' (r1.length + 1) c') (r1 ++ [⟨k, s.t.length, 0, 0, false, 0, 0⟩]) 108 _ (by rw [List.length_append]; show r1.length + 1 ≤ _; omega) hf2.row)
    clear hf1 hf2 hf3 hown' hgrow hat hX5
    by_cases h32 : 32 < r1.length + 1
    ·have h32' : (32 : Int) < (r1.length : Int) + 1 := by omega
     go_wp2
     go_ret2
     refine ⟨by rw [HO.out, if_pos (.inl h32)]; rfl, ?_⟩
     rw [HO.out]
     exact StepTo.mk' H2.out H3.out.1 H3.out.2
    ·have h32' : ¬ (32 : Int) < (r1.length : Int) + 1 := by omega
     by_cases h8 : 8 < hasP 108 (r1 ++ [⟨k, s.t.length, 0, 0, false, 0, 0⟩])
     ·have h8' : (8 : Int) < (hasP 108 (r1 ++ [⟨k, s.t.length, 0, 0, false, 0, 0⟩]) : Int) := by omega
      go_wp2_with (go_at_call 135; (with_reducible refine HH.out.mono ?_); rintro e w7 ⟨rfl, hb7⟩; have x3' := blk_cell (blk_below HX5.out hb7) 3; simp only [List.getElem?_toArray, List.getElem?_cons_succ, List.getElem?_cons_zero] at x3')
      go_ret2
      refine ⟨by rw [HO.out, if_pos (.inr h8)]; rfl, ?_⟩
      rw [HO.out]
      exact StepTo.mk' (H2.out.below hb7) (H3.out.1.trans (below_low hb7 (Nat.le_trans hB0 H3.out.1.size))) (H3.out.2.trans (KeepK.below hb7))
     ·have h8' : ¬ (8 : Int) < (hasP 108 (r1 ++ [⟨k, s.t.length, 0, 0, false, 0, 0⟩]) : Int) := by omega
      go_wp2_with (go_at_call 135; (with_reducible refine HH.out.mono ?_); rintro e w7 ⟨rfl, hb7⟩; have x3' := blk_cell (blk_below HX5.out hb7) 3; simp only [List.getElem?_toArray, List.getElem?_cons_succ, List.getElem?_cons_zero] at x3')
      go_ret2
      refine ⟨by rw [HO.out, if_neg (fun h => h.elim h32 h8)]; rfl, ?_⟩
      rw [HO.out]
      exact StepTo.mk' (H2.out.below hb7) (H3.out.1.trans (below_low hb7 (Nat.le_trans hB0 H3.out.1.size))) (H3.out.2.trans (KeepK.below hb7))
  ·have HKE := Lib.hid (beq_iff_eq.1 k1)
   obtain ⟨j, hA⟩ := may_around (show mayP s.row 110 = true from HKE.out ▸ HMM.out)
   have hjl := aroundP_lt _ _ _ _ hA
   obtain ⟨gr, ca, hae, hao⟩ := rowO_form HB.out.row (by omega)
   simp only [Value.slice.injEq] at hae
   obtain ⟨rfl, -, rfl⟩ := hae
   have HNE := Lib.hid (show w.heap.size ≠ gr from fun e => by have := own_lt HROW.out gr rfl; omega)
   have hAC := fun W (hW : BAt W B0 g m (.slice (some ⟨gr, 0, none⟩) s.row.length c) vt s) => around_calls B0 _ c s.row _ _ finds_flow W (by omega) HKB.out hW.row
   simp only [hA] at hAC
   have hno := fun W (hW : BAt W B0 g m (.slice (some ⟨gr, 0, none⟩) s.row.length c) vt s) => rowO_cell hW.row j 3 hjl (by omega)
   have hfr := fun W (hW : BAt W B0 g m (.slice (some ⟨gr, 0, none⟩) s.row.length c) vt s) => World.ownsRow.frozenAt hW.row (j * 7 + 3)
   have hse := fun W (hW : BAt W B0 g m (.slice (some ⟨gr, 0, none⟩) s.row.length c) vt s) => hW.setO j 3 hjl (by omega) noteF (.int .i64 (wrap64 ((s.row.getD j zOpn).note + 1))) rfl
   simp only [cellsO, List.getElem?_cons_succ, List.getElem?_cons_zero] at hno
   obtain ⟨nt, hnt⟩ : ∃ nt, (s.row.getD j zOpn).note = nt := ⟨_, rfl⟩
   rw [hnt] at hno hse
   have HAC := Lib.hid hAC
   have HNO := Lib.hid hno
   have HFR := Lib.hid hfr
   have HSE := Lib.hid hse
   have HA := Lib.hid hA
   clear hAC hno hfr hse hnt hA hao
   go_enter Try.func93, Try.ntmps93
   go_wp2_with (first | (go_at_call 104; (with_reducible refine (HM.out _ HB.out).mono ?_); rintro e w2 ⟨rfl, hb2⟩; have cx1 := blk_cell (blk_below HX.out hb2) 1; have cx3 := blk_cell (blk_below HX.out hb2) 3; have d0 := blk_cell (HB.out.below hb2).blk 0; have q0 := HNO.out _ (HB.out.below hb2); have q1 := HFR.out _ (HB.out.below hb2); have cy1 := blk_cell (blk_far (blk_below HX.out hb2) (p := ⟨gr, j * 7 + 3, none⟩) HNE.out (.int .i64 (wrap64 (nt + 1)))) 1; have cy3 := blk_cell (blk_far (blk_below HX.out hb2) (p := ⟨gr, j * 7 + 3, none⟩) HNE.out (.int .i64 (wrap64 (nt + 1)))) 3; simp only [List.getElem?_toArray, List.getElem?_cons_succ, List.getElem?_cons_zero] at cx1 cx3 d0; simp only [List.getElem?_toArray, List.getElem?_cons_succ, List.getElem?_cons_zero] at cy1 cy3) | (go_at_call 133; (with_reducible refine (HAC.out _ (HB.out.below hb2)).mono ?_); rintro e w2 ⟨rfl, rfl⟩; simp only [ptrO]))
   have HW2 := Lib.hid (HB1.out.trans (hb2.mono HB1.out.size))
   have HS := Lib.hid (show BAt (w2.setCell ⟨gr, j * 7 + 3, none⟩ (.int .i64 (wrap64 (nt + 1)))) B0 g m (.slice (some ⟨gr, 0, none⟩) s.row.length c) vt ⟨markP s.row k, s.t⟩ ∧ Below B0 w (w2.setCell ⟨gr, j * 7 + 3, none⟩ (.int .i64 (wrap64 (nt + 1)))) ∧ KeepK w (w2.setCell ⟨gr, j * 7 + 3, none⟩ (.int .i64 (wrap64 (nt + 1)))) from by
    rw [show markP s.row k = s.row.modify j noteF from by unfold markP; rw [if_pos HKE.out, HA.out]]
    obtain ⟨h1, h2, h3⟩ := HSE.out _ (HB.out.below hb2)
    exact ⟨h1, (below_low HW2.out hB0).trans h2, (KeepK.below HW2.out).trans h3⟩)
   have HX1 := Lib.hid (blk_far (blk_below HX.out hb2) (p := ⟨gr, j * 7 + 3, none⟩) HNE.out (.int .i64 (wrap64 (nt + 1))))
   obtain ⟨W1, hW1⟩ : ∃ W1, w2.setCell ⟨gr, j * 7 + 3, none⟩ (.int .i64 (wrap64 (nt + 1))) = W1 := ⟨_, rfl⟩
   rw [hW1] at HS HX1 ⊢
   clear hW1 cx1 cx3 d0 cy1 cy3 q0 q1
   refine (add_calls B0 g m (.slice (some ⟨gr, 0, none⟩) s.row.length c) vt ⟨markP s.row k, s.t⟩ ⟨k, ⟨#[]⟩, f3, 1⟩ W1 (Nat.le_trans hB0 HS.out.2.1.size) (by rw [markP_length]; omega) (by show s.t.length ≤ _; omega) HS.out.1).mono ?_
   rintro e W2 ⟨rfl, vt2, hbb, hl2, hk2⟩
   replace hbb : BAt W2 B0 g m (.slice (some ⟨gr, 0, none⟩) s.row.length c) vt2 ⟨kidP (markP s.row k), s.t ++ [⟨k, ⟨#[]⟩, f3, 1⟩]⟩ := hbb
   obtain ⟨E, hE⟩ : ∃ E, (addP ⟨markP s.row k, s.t⟩ ⟨k, ⟨#[]⟩, f3, 1⟩).2 = E := ⟨_, rfl⟩
   rw [hE]
   have HE := Lib.hid (show (if 2000 < s.t.length + 1 then (4 : Int) else 0) = E from hE)
   obtain ⟨At, ct, rfl⟩ := own_slice hbb.t
   have hT : (s.t ++ [⟨k, ⟨#[]⟩, f3, 1⟩] : List S56).length = s.t.length + 1 := by simp
   have hR : (kidP (markP s.row k)).length = s.row.length := by rw [kidP_length, markP_length]
   have hfold : BAt W2 B0 g m (.slice (some ⟨gr, 0, none⟩) s.row.length c) (.slice At (s.t.length + 1) ct) ⟨kidP (markP s.row k), s.t ++ [⟨k, ⟨#[]⟩, f3, 1⟩]⟩ := by have := hbb; rw [hT] at this; exact this
   have hX2 : W2.heap[w.heap.size]? = some (.cells #[.int .i64 f0, .int .u8 k, .string f2, .int .i64 f3] 47 (0, 0)) := hk2 _ _ HX1.out rfl
   have hLW : Below B0 w W2 := HS.out.2.1.trans hl2
   have hKW : KeepK w W2 := HS.out.2.2.trans hk2
   obtain ⟨r1, hr1⟩ : ∃ r1, kidP (markP s.row k) = r1 := ⟨_, rfl⟩
   rw [hr1] at hfold hR
   have HR1 := Lib.hid hr1
   have HLR := Lib.hid hR
   rw [← hR] at hfold
   obtain ⟨W3, hW3⟩ : ∃ W3, W2.drew = W3 := ⟨_, rfl⟩
   have hK3 : BAt W3 B0 g m (.slice (some ⟨gr, 0, none⟩) r1.length c) (.slice At (s.t.length + 1) ct) ⟨r1, s.t ++ [⟨k, ⟨#[]⟩, f3, 1⟩]⟩ := by rw [← hW3]; exact hfold.below (below_drew1 (Below.refl _ _))
   have hX3 : W3.heap[w.heap.size]? = some (.cells #[.int .i64 f0, .int .u8 k, .string f2, .int .i64 f3] 47 (0, 0)) := by rw [← hW3]; exact hX2
   have hL3 : Below B0 w W3 := by rw [← hW3]; exact below_drew1 hLW
   have hE3 : KeepK w W3 := by rw [← hW3]; exact hKW.drew
   have hs3 : w.heap.size < W3.heap.size := blk_lt hX3
   have c1 := blk_cell hX2 1
   have d0 := blk_cell hfold.blk 0
   have d1 := blk_cell hfold.blk 1
   simp only [List.getElem?_toArray, List.getElem?_cons_succ, List.getElem?_cons_zero] at c1 d0 d1
   have hrl : r1.length ≤ 999999 := by omega
   have HK3 := Lib.hid hK3
   have HL3 := Lib.hid hL3
   have HE3 := Lib.hid hE3
   have HX3 := Lib.hid hX3
   have HC := Lib.hid (And.intro c1 (And.intro d0 d1))
   clear hE hT hR hr1 hfold hbb hX2 hLW hKW hK3 hX3 hL3 hE3 c1 d0 d1 HS HX1 hl2 hk2 hb2 HX HB1
   go_wp2_with fail
   refine Go.Mix.region_mix' (fun b W => W = (bif b then W3.alloc (.cells #[.int .u8 k, .int .i64 s.t.length, .int .i64 0, .int .i64 0, .bool false, .int .i64 0, .int .i64 0] 155) else W3)) 14 15 [0] (by kernel_rfl) (by kernel_rfl) (fun _ _ _ _ _ h => h) hW3 ?_
   clear hW3
   refine Go.Mix.seqE_cons (t' := #[_, _, _, _, _, _, _, _, _, _, _, _, _, _, _, _, _, _, _, _, _, _, _, _, _, _, _, _, _, _, _, _, _, _, _, _, _, _, _, _, _, _, _, _, _, _, _, _, _, _, _, _, _, _, _, _, _, _, _, _, _, _, _, _, _, _, _, _, _, _, _, _, _, _, _, _, _, _, _, _]) _ (.pointer (some ⟨g, 0, none⟩)) rfl rfl (fun w' => rfl) rfl ?_
   refine Go.Mix.seqE_nil ?_
   refine Go.Mix.seqM_skip (by rfl) ?_
   repeat
    apply Go.Mix.seqM_cons (by rfl) (by rfl)
    focus
     intro b W hS
     have hB : Below W3.heap.size W3 W := by
      rw [hS]
      cases b
      ·exact Below.refl _ _
      ·exact (Below.refl _ _).alloc (Nat.le_refl _) _
     have c1 := blk_cell (blk_below HX3.out hB) 1
     have d0 := blk_cell (HK3.out.below hB).blk 0
     have d1 := blk_cell (HK3.out.below hB).blk 1
     simp only [List.getElem?_toArray, List.getElem?_cons_succ, List.getElem?_cons_zero] at c1 d0 d1
     have HS := Lib.hid hS
     clear hS hB
     go_wp2
     exact Go.Det.AtEnd.mk HS.out
   apply Go.Mix.seqM_main (by rfl)
   focus
    intro W hS
    obtain rfl : W = W3 := hS
    go_wp2
    exact Go.Det.AtEnd.mk rfl
   refine Go.Mix.seqM_nil ?_
   intro W4 hW4
   obtain rfl : W4 = W3.alloc (.cells #[.int .u8 k, .int .i64 s.t.length, .int .i64 0, .int .i64 0, .bool false, .int .i64 0, .int .i64 0] 155) := hW4
   simp only [List.drop_succ_cons, List.drop_zero]
   obtain ⟨i0, hi, hz0, hz1, hz2⟩ := info_parts info155
   go_wp2_with (at_builtin; refine wpList_append_own_at _ rfl _ _ 101 rfl B0 155 i0 (.agg #[(.int .u8 0), (.int .i64 0), (.int .i64 0), (.int .i64 0), (.bool false), (.int .i64 0), (.int .i64 0)]) 7 56 Try.underlying101 hi hz0 hz1 hz2 rfl (by decide) _ _ _ rfl (HK3.out.row.alloc _) _ 1 1 [.int .u8 k, .int .i64 s.t.length, .int .i64 0, .int .i64 0, .bool false, .int .i64 0, .int .i64 0] rfl rfl ?e1b ?e2b ?e3b ?e4b ?e5b ?e6b)
   case e1b => exact cells_newT W3 [.int .u8 k, .int .i64 s.t.length, .int .i64 0, .int .i64 0, .bool false, .int .i64 0, .int .i64 0] 155
   case e2b => simp [Value.oneCell']
   case e3b => unfold maxLen; omega
   case e4b => omega
   case e5b => first | omega | (simp; omega)
   case e6b =>
    intro v' W5 hown' hgrow _ hat
    obtain ⟨A', c', rfl⟩ := own_slice hown'
    have hfin := row_end (x := ⟨k, s.t.length, 0, 0, false, 0, 0⟩) HK3.out hgrow hown' (by omega)
    obtain ⟨hf1, hf2, hf3⟩ := hfin
    have e0 := blk_cell hf1 0
    have z0 := blk_frozen hf1 0
    have e0' := blk_cell hf2.blk 0
    simp only [List.getElem?_toArray, List.getElem?_cons_succ, List.getElem?_cons_zero] at e0 e0'
    have hX5 : (W5.setCell ⟨g, 0, none⟩ (.slice A' (r1.length + 1) c')).heap[w.heap.size]? = some (.cells #[.int .i64 f0, .int .u8 k, .string f2, .int .i64 f3] 47 (0, 0)) := hf3.2 _ _ HX3.out rfl
    have x3 := blk_cell hX5 3
    simp only [List.getElem?_toArray, List.getElem?_cons_succ, List.getElem?_cons_zero] at x3
    have HO : (opensP s ⟨f0, k, f2, f3⟩) = (⟨r1 ++ [⟨k, s.t.length, 0, 0, false, 0, 0⟩], s.t ++ [⟨k, ⟨#[]⟩, f3, 1⟩]⟩, f3, if 32 < s.row.length + 1 ∨ 8 < hasP 108 (r1 ++ [⟨k, s.t.length, 0, 0, false, 0, 0⟩]) then 5 else E) := by
     unfold opensP
     simp only [HMM.out, if_true, HR1.out, HE.out]
    rw [← HLR.out] at HO
    have HO := Lib.hid HO
    have H2 := Lib.hid hf2
    have H3 := Lib.hid (show Below B0 w (W5.setCell ⟨g, 0, none⟩ (.slice A' (r1.length + 1) c')) ∧ KeepK w (W5.setCell ⟨g, 0, none⟩ (.slice A' (r1.length + 1) c')) from ⟨HL3.out.trans hf3.1, HE3.out.trans hf3.2⟩)
    have HX5 := Lib.hid hX5
    have HH := Lib.hid (hasO_calls B0 (.slice A' (r1.length + 1) c') (r1 ++ [⟨k, s.t.length, 0, 0, false, 0, 0⟩]) 108 _ (by rw [List.length_append]; show r1.length + 1 ≤ _; omega) hf2.row)
    clear hf1 hf2 hf3 hown' hgrow hat hX5
    by_cases h32 : 32 < r1.length + 1
    ·have h32' : (32 : Int) < (r1.length : Int) + 1 := by omega
     go_wp2
     go_ret2
     refine ⟨by rw [HO.out, if_pos (.inl h32)]; rfl, ?_⟩
     rw [HO.out]
     exact StepTo.mk' H2.out H3.out.1 H3.out.2
    ·have h32' : ¬ (32 : Int) < (r1.length : Int) + 1 := by omega
     by_cases h8 : 8 < hasP 108 (r1 ++ [⟨k, s.t.length, 0, 0, false, 0, 0⟩])
     ·have h8' : (8 : Int) < (hasP 108 (r1 ++ [⟨k, s.t.length, 0, 0, false, 0, 0⟩]) : Int) := by omega
      go_wp2_with (go_at_call 135; (with_reducible refine HH.out.mono ?_); rintro e w7 ⟨rfl, hb7⟩; have x3' := blk_cell (blk_below HX5.out hb7) 3; simp only [List.getElem?_toArray, List.getElem?_cons_succ, List.getElem?_cons_zero] at x3')
      go_ret2
      refine ⟨by rw [HO.out, if_pos (.inr h8)]; rfl, ?_⟩
      rw [HO.out]
      exact StepTo.mk' (H2.out.below hb7) (H3.out.1.trans (below_low hb7 (Nat.le_trans hB0 H3.out.1.size))) (H3.out.2.trans (KeepK.below hb7))
     ·have h8' : ¬ (8 : Int) < (hasP 108 (r1 ++ [⟨k, s.t.length, 0, 0, false, 0, 0⟩]) : Int) := by omega
      go_wp2_with (go_at_call 135; (with_reducible refine HH.out.mono ?_); rintro e w7 ⟨rfl, hb7⟩; have x3' := blk_cell (blk_below HX5.out hb7) 3; simp only [List.getElem?_toArray, List.getElem?_cons_succ, List.getElem?_cons_zero] at x3')
      go_ret2
      refine ⟨by rw [HO.out, if_neg (fun h => h.elim h32 h8)]; rfl, ?_⟩
      rw [HO.out]
      exact StepTo.mk' (H2.out.below hb7) (H3.out.1.trans (below_low hb7 (Nat.le_trans hB0 H3.out.1.size))) (H3.out.2.trans (KeepK.below hb7))
  ·have HKE := Lib.hid (beq_iff_eq.1 k2)
   have HKF := Lib.hid (beq_eq_false_iff_ne.1 k1)
   by_cases h0 : s.row = []
   ·have h00 : s.row.length = 0 := by rw [h0]; rfl
    have H0 := Lib.hid h0
    have H00 := Lib.hid h00
    clear h0 h00
    go_enter Try.func93, Try.ntmps93
    go_wp2_with (first | (go_at_call 104; (with_reducible refine (HM.out _ HB.out).mono ?_); rintro e w2 ⟨rfl, hb2⟩; have cx1 := blk_cell (blk_below HX.out hb2) 1; have cx3 := blk_cell (blk_below HX.out hb2) 3; have d0 := blk_cell (HB.out.below hb2).blk 0; simp only [List.getElem?_toArray, List.getElem?_cons_succ, List.getElem?_cons_zero] at cx1 cx3 d0; rw [H00.out] at d0; have cy1 := blk_cell (blk_alloc (blk_below HX.out hb2) (.cells #[.int .u8 0, .int .i64 0, .int .i64 0, .int .i64 0, .bool true, .int .i64 0, .int .i64 0] 155)) 1; have cy3 := blk_cell (blk_alloc (blk_below HX.out hb2) (.cells #[.int .u8 0, .int .i64 0, .int .i64 0, .int .i64 0, .bool true, .int .i64 0, .int .i64 0] 155)) 3; simp only [List.getElem?_toArray, List.getElem?_cons_succ, List.getElem?_cons_zero] at cy1 cy3) | (go_at_call 134; (with_reducible refine (top_none c A _).mono ?_); rintro e w3 ⟨rfl, rfl⟩))
    have HW2 := Lib.hid (HB1.out.trans (hb2.mono HB1.out.size))
    have HW3 := Lib.hid (HW2.out.alloc HW2.out.size (.cells #[.int .u8 0, .int .i64 0, .int .i64 0, .int .i64 0, .bool true, .int .i64 0, .int .i64 0] 155))
    have HS := Lib.hid (show BAt (w2.alloc (.cells #[.int .u8 0, .int .i64 0, .int .i64 0, .int .i64 0, .bool true, .int .i64 0, .int .i64 0] 155)) B0 g m (.slice A s.row.length c) vt ⟨markP s.row k, s.t⟩ ∧ Below B0 w (w2.alloc (.cells #[.int .u8 0, .int .i64 0, .int .i64 0, .int .i64 0, .bool true, .int .i64 0, .int .i64 0] 155)) ∧ KeepK w (w2.alloc (.cells #[.int .u8 0, .int .i64 0, .int .i64 0, .int .i64 0, .bool true, .int .i64 0, .int .i64 0] 155)) from by
     rw [show markP s.row k = s.row from by unfold markP; rw [if_neg HKF.out, if_pos HKE.out, H0.out]; rfl]
     exact ⟨(HB.out.below hb2).below ((Below.refl _ _).alloc (Nat.le_refl _) _), below_low HW3.out hB0, KeepK.below HW3.out⟩)
    have HX1 := Lib.hid (blk_alloc (blk_below HX.out hb2) (.cells #[.int .u8 0, .int .i64 0, .int .i64 0, .int .i64 0, .bool true, .int .i64 0, .int .i64 0] 155))
    obtain ⟨W1, hW1⟩ : ∃ W1, w2.alloc (.cells #[.int .u8 0, .int .i64 0, .int .i64 0, .int .i64 0, .bool true, .int .i64 0, .int .i64 0] 155) = W1 := ⟨_, rfl⟩
    rw [hW1] at HS HX1 ⊢
    clear hW1 cx1 cx3 d0 cy1 cy3
    refine (add_calls B0 g m (.slice A s.row.length c) vt ⟨markP s.row k, s.t⟩ ⟨k, ⟨#[]⟩, f3, 1⟩ W1 (Nat.le_trans hB0 HS.out.2.1.size) (by rw [markP_length]; omega) (by show s.t.length ≤ _; omega) HS.out.1).mono ?_
    rintro e W2 ⟨rfl, vt2, hbb, hl2, hk2⟩
    replace hbb : BAt W2 B0 g m (.slice A s.row.length c) vt2 ⟨kidP (markP s.row k), s.t ++ [⟨k, ⟨#[]⟩, f3, 1⟩]⟩ := hbb
    obtain ⟨E, hE⟩ : ∃ E, (addP ⟨markP s.row k, s.t⟩ ⟨k, ⟨#[]⟩, f3, 1⟩).2 = E := ⟨_, rfl⟩
    rw [hE]
    have HE := Lib.hid (show (if 2000 < s.t.length + 1 then (4 : Int) else 0) = E from hE)
    obtain ⟨At, ct, rfl⟩ := own_slice hbb.t
    have hT : (s.t ++ [⟨k, ⟨#[]⟩, f3, 1⟩] : List S56).length = s.t.length + 1 := by simp
    have hR : (kidP (markP s.row k)).length = s.row.length := by rw [kidP_length, markP_length]
    have hfold : BAt W2 B0 g m (.slice A s.row.length c) (.slice At (s.t.length + 1) ct) ⟨kidP (markP s.row k), s.t ++ [⟨k, ⟨#[]⟩, f3, 1⟩]⟩ := by have := hbb; rw [hT] at this; exact this
    have hX2 : W2.heap[w.heap.size]? = some (.cells #[.int .i64 f0, .int .u8 k, .string f2, .int .i64 f3] 47 (0, 0)) := hk2 _ _ HX1.out rfl
    have hLW : Below B0 w W2 := HS.out.2.1.trans hl2
    have hKW : KeepK w W2 := HS.out.2.2.trans hk2
    obtain ⟨r1, hr1⟩ : ∃ r1, kidP (markP s.row k) = r1 := ⟨_, rfl⟩
    rw [hr1] at hfold hR
    have HR1 := Lib.hid hr1
    have HLR := Lib.hid hR
    rw [← hR] at hfold
    obtain ⟨W3, hW3⟩ : ∃ W3, W2.drew = W3 := ⟨_, rfl⟩
    have hK3 : BAt W3 B0 g m (.slice A r1.length c) (.slice At (s.t.length + 1) ct) ⟨r1, s.t ++ [⟨k, ⟨#[]⟩, f3, 1⟩]⟩ := by rw [← hW3]; exact hfold.below (below_drew1 (Below.refl _ _))
    have hX3 : W3.heap[w.heap.size]? = some (.cells #[.int .i64 f0, .int .u8 k, .string f2, .int .i64 f3] 47 (0, 0)) := by rw [← hW3]; exact hX2
    have hL3 : Below B0 w W3 := by rw [← hW3]; exact below_drew1 hLW
    have hE3 : KeepK w W3 := by rw [← hW3]; exact hKW.drew
    have hs3 : w.heap.size < W3.heap.size := blk_lt hX3
    have c1 := blk_cell hX2 1
    have d0 := blk_cell hfold.blk 0
    have d1 := blk_cell hfold.blk 1
    simp only [List.getElem?_toArray, List.getElem?_cons_succ, List.getElem?_cons_zero] at c1 d0 d1
    have hrl : r1.length ≤ 999999 := by omega
    have HK3 := Lib.hid hK3
    have HL3 := Lib.hid hL3
    have HE3 := Lib.hid hE3
    have HX3 := Lib.hid hX3
    have HC := Lib.hid (And.intro c1 (And.intro d0 d1))
    clear hE hT hR hr1 hfold hbb hX2 hLW hKW hK3 hX3 hL3 hE3 c1 d0 d1 HS HX1 hl2 hk2 hb2 HX HB1
    go_wp2_with fail
    refine Go.Mix.region_mix' (fun b W => W = (bif b then W3.alloc (.cells #[.int .u8 k, .int .i64 s.t.length, .int .i64 0, .int .i64 0, .bool false, .int .i64 0, .int .i64 0] 155) else W3)) 14 15 [0] (by kernel_rfl) (by kernel_rfl) (fun _ _ _ _ _ h => h) hW3 ?_
    clear hW3
    refine Go.Mix.seqE_cons (t' := #[_, _, _, _, _, _, _, _, _, _, _, _, _, _, _, _, _, _, _, _, _, _, _, _, _, _, _, _, _, _, _, _, _, _, _, _, _, _, _, _, _, _, _, _, _, _, _, _, _, _, _, _, _, _, _, _, _, _, _, _, _, _, _, _, _, _, _, _, _, _, _, _, _, _, _, _, _, _, _, _]) _ (.pointer (some ⟨g, 0, none⟩)) rfl rfl (fun w' => rfl) rfl ?_
    refine Go.Mix.seqE_nil ?_
    refine Go.Mix.seqM_skip (by rfl) ?_
    repeat
     apply Go.Mix.seqM_cons (by rfl) (by rfl)
     focus
      intro b W hS
      have hB : Below W3.heap.size W3 W := by
       rw [hS]
       cases b
       ·exact Below.refl _ _
       ·exact (Below.refl _ _).alloc (Nat.le_refl _) _
      have c1 := blk_cell (blk_below HX3.out hB) 1
      have d0 := blk_cell (HK3.out.below hB).blk 0
      have d1 := blk_cell (HK3.out.below hB).blk 1
      simp only [List.getElem?_toArray, List.getElem?_cons_succ, List.getElem?_cons_zero] at c1 d0 d1
      have HS := Lib.hid hS
      clear hS hB
      go_wp2
      exact Go.Det.AtEnd.mk HS.out
    apply Go.Mix.seqM_main (by rfl)
    focus
     intro W hS
     obtain rfl : W = W3 := hS
     go_wp2
     exact Go.Det.AtEnd.mk rfl
    refine Go.Mix.seqM_nil ?_
    intro W4 hW4
    obtain rfl : W4 = W3.alloc (.cells #[.int .u8 k, .int .i64 s.t.length, .int .i64 0, .int .i64 0, .bool false, .int .i64 0, .int .i64 0] 155) := hW4
    simp only [List.drop_succ_cons, List.drop_zero]
    obtain ⟨i0, hi, hz0, hz1, hz2⟩ := info_parts info155
    go_wp2_with (at_builtin; refine wpList_append_own_at _ rfl _ _ 101 rfl B0 155 i0 (.agg #[(.int .u8 0), (.int .i64 0), (.int .i64 0), (.int .i64 0), (.bool false), (.int .i64 0), (.int .i64 0)]) 7 56 Try.underlying101 hi hz0 hz1 hz2 rfl (by decide) _ _ _ rfl (HK3.out.row.alloc _) _ 1 1 [.int .u8 k, .int .i64 s.t.length, .int .i64 0, .int .i64 0, .bool false, .int .i64 0, .int .i64 0] rfl rfl ?e1c ?e2c ?e3c ?e4c ?e5c ?e6c)
    case e1c => exact cells_newT W3 [.int .u8 k, .int .i64 s.t.length, .int .i64 0, .int .i64 0, .bool false, .int .i64 0, .int .i64 0] 155
    case e2c => simp [Value.oneCell']
    case e3c => unfold maxLen; omega
    case e4c => omega
    case e5c => first | omega | (simp; omega)
    case e6c =>
     intro v' W5 hown' hgrow _ hat
     obtain ⟨A', c', rfl⟩ := own_slice hown'
     have hfin := row_end (x := ⟨k, s.t.length, 0, 0, false, 0, 0⟩) HK3.out hgrow hown' (by omega)
     obtain ⟨hf1, hf2, hf3⟩ := hfin
     have e0 := blk_cell hf1 0
     have z0 := blk_frozen hf1 0
     have e0' := blk_cell hf2.blk 0
     simp only [List.getElem?_toArray, List.getElem?_cons_succ, List.getElem?_cons_zero] at e0 e0'
     have hX5 : (W5.setCell ⟨g, 0, none⟩ (.slice A' (r1.length + 1) c')).heap[w.heap.size]? = some (.cells #[.int .i64 f0, .int .u8 k, .string f2, .int .i64 f3] 47 (0, 0)) := hf3.2 _ _ HX3.out rfl
     have x3 := blk_cell hX5 3
     simp only [List.getElem?_toArray, List.getElem?_cons_succ, List.getElem?_cons_zero] at x3
     have HO : (opensP s ⟨f0, k, f2, f3⟩) = (⟨r1 ++ [⟨k, s.t.length, 0, 0, false, 0, 0⟩], s.t ++ [⟨k, ⟨#[]⟩, f3, 1⟩]⟩, f3, if 32 < s.row.length + 1 ∨ 8 < hasP 108 (r1 ++ [⟨k, s.t.length, 0, 0, false, 0, 0⟩]) then 5 else E) := by
      unfold opensP
      simp only [HMM.out, if_true, HR1.out, HE.out]
     rw [← HLR.out] at HO
     have HO := Lib.hid HO
     have H2 := Lib.hid hf2
     have H3 := Lib.hid (show Below B0 w (W5.setCell ⟨g, 0, none⟩ (.slice A' (r1.length + 1) c')) ∧ KeepK w (W5.setCell ⟨g, 0, none⟩ (.slice A' (r1.length + 1) c')) from ⟨HL3.out.trans hf3.1, HE3.out.trans hf3.2⟩)
     have HX5 := Lib.hid hX5
     have HH := Lib.hid (hasO_calls B0 (.slice A' (r1.length + 1) c') (r1 ++ [⟨k, s.t.length, 0, 0, false, 0, 0⟩]) 108 _ (by rw [List.length_append]; show r1.length + 1 ≤ _; omega) hf2.row)
     clear hf1 hf2 hf3 hown' hgrow hat hX5
     by_cases h32 : 32 < r1.length + 1
     ·have h32' : (32 : Int) < (r1.length : Int) + 1 := by omega
      go_wp2
      go_ret2
      refine ⟨by rw [HO.out, if_pos (.inl h32)]; rfl, ?_⟩
      rw [HO.out]
      exact StepTo.mk' H2.out H3.out.1 H3.out.2
     ·have h32' : ¬ (32 : Int) < (r1.length : Int) + 1 := by omega
      by_cases h8 : 8 < hasP 108 (r1 ++ [⟨k, s.t.length, 0, 0, false, 0, 0⟩])
      ·have h8' : (8 : Int) < (hasP 108 (r1 ++ [⟨k, s.t.length, 0, 0, false, 0, 0⟩]) : Int) := by omega
       go_wp2_with (go_at_call 135; (with_reducible refine HH.out.mono ?_); rintro e w7 ⟨rfl, hb7⟩; have x3' := blk_cell (blk_below HX5.out hb7) 3; simp only [List.getElem?_toArray, List.getElem?_cons_succ, List.getElem?_cons_zero] at x3')
       go_ret2
       refine ⟨by rw [HO.out, if_pos (.inr h8)]; rfl, ?_⟩
       rw [HO.out]
       exact StepTo.mk' (H2.out.below hb7) (H3.out.1.trans (below_low hb7 (Nat.le_trans hB0 H3.out.1.size))) (H3.out.2.trans (KeepK.below hb7))
      ·have h8' : ¬ (8 : Int) < (hasP 108 (r1 ++ [⟨k, s.t.length, 0, 0, false, 0, 0⟩]) : Int) := by omega
       go_wp2_with (go_at_call 135; (with_reducible refine HH.out.mono ?_); rintro e w7 ⟨rfl, hb7⟩; have x3' := blk_cell (blk_below HX5.out hb7) 3; simp only [List.getElem?_toArray, List.getElem?_cons_succ, List.getElem?_cons_zero] at x3')
       go_ret2
       refine ⟨by rw [HO.out, if_neg (fun h => h.elim h32 h8)]; rfl, ?_⟩
       rw [HO.out]
       exact StepTo.mk' (H2.out.below hb7) (H3.out.1.trans (below_low hb7 (Nat.le_trans hB0 H3.out.1.size))) (H3.out.2.trans (KeepK.below hb7))
   ·have hp : 0 < s.row.length := List.length_pos_iff.2 h0
    obtain ⟨gr, ca, hae, hao⟩ := rowO_form HB.out.row hp
    simp only [Value.slice.injEq] at hae
    obtain ⟨rfl, -, rfl⟩ := hae
    obtain ⟨n, hn'⟩ : ∃ n, s.row.length = n + 1 := ⟨s.row.length - 1, by omega⟩
    have HNE := Lib.hid (show w.heap.size ≠ gr from fun e => by have := own_lt HROW.out gr rfl; omega)
    have htop := fun W => top_some gr n c (by omega) W
    have hno := fun W (hW : BAt W B0 g m (.slice (some ⟨gr, 0, none⟩) s.row.length c) vt s) => rowO_cell hW.row n 4 (by omega) (by omega)
    have hfr := fun W (hW : BAt W B0 g m (.slice (some ⟨gr, 0, none⟩) s.row.length c) vt s) => World.ownsRow.frozenAt hW.row (n * 7 + 4)
    have hse := fun W (hW : BAt W B0 g m (.slice (some ⟨gr, 0, none⟩) s.row.length c) vt s) => hW.setO n 4 (by omega) (by omega) pastF (.bool true) rfl
    simp only [cellsO, List.getElem?_cons_succ, List.getElem?_cons_zero] at hno
    generalize (s.row.getD n zOpn).past = ps at hno
    have HT := Lib.hid htop
    have HNO := Lib.hid hno
    have HFR := Lib.hid hfr
    have HSE := Lib.hid hse
    have HN := Lib.hid hn'
    clear htop hno hfr hse hao hn' h0 hp
    go_enter Try.func93, Try.ntmps93
    go_wp2_with (first | (go_at_call 104; (with_reducible refine (HM.out _ HB.out).mono ?_); rintro e w2 ⟨rfl, hb2⟩; have cx1 := blk_cell (blk_below HX.out hb2) 1; have cx3 := blk_cell (blk_below HX.out hb2) 3; have d0 := blk_cell (HB.out.below hb2).blk 0; have q0 := HNO.out _ (HB.out.below hb2); have q1 := HFR.out _ (HB.out.below hb2); have cy1 := blk_cell (blk_far (blk_below HX.out hb2) (p := ⟨gr, n * 7 + 4, none⟩) HNE.out (.bool true)) 1; have cy3 := blk_cell (blk_far (blk_below HX.out hb2) (p := ⟨gr, n * 7 + 4, none⟩) HNE.out (.bool true)) 3; simp only [List.getElem?_toArray, List.getElem?_cons_succ, List.getElem?_cons_zero] at cx1 cx3 d0; rw [HN.out] at d0; simp only [List.getElem?_toArray, List.getElem?_cons_succ, List.getElem?_cons_zero] at cy1 cy3) | (go_at_call 134; (with_reducible refine (HT.out _).mono ?_); rintro e w2 ⟨rfl, rfl⟩))
    have HW2 := Lib.hid (HB1.out.trans (hb2.mono HB1.out.size))
    have HS := Lib.hid (show BAt (w2.setCell ⟨gr, n * 7 + 4, none⟩ (.bool true)) B0 g m (.slice (some ⟨gr, 0, none⟩) s.row.length c) vt ⟨markP s.row k, s.t⟩ ∧ Below B0 w (w2.setCell ⟨gr, n * 7 + 4, none⟩ (.bool true)) ∧ KeepK w (w2.setCell ⟨gr, n * 7 + 4, none⟩ (.bool true)) from by
     rw [show markP s.row k = s.row.modify n pastF from by unfold markP; rw [if_neg HKF.out, if_pos HKE.out, HN.out]; rfl]
     obtain ⟨h1, h2, h3⟩ := HSE.out _ (HB.out.below hb2)
     exact ⟨h1, (below_low HW2.out hB0).trans h2, (KeepK.below HW2.out).trans h3⟩)
    have HX1 := Lib.hid (blk_far (blk_below HX.out hb2) (p := ⟨gr, n * 7 + 4, none⟩) HNE.out (.bool true))
    obtain ⟨W1, hW1⟩ : ∃ W1, w2.setCell ⟨gr, n * 7 + 4, none⟩ (.bool true) = W1 := ⟨_, rfl⟩
    rw [hW1] at HS HX1 ⊢
    clear hW1 cx1 cx3 d0 cy1 cy3 q0 q1
    refine (add_calls B0 g m (.slice (some ⟨gr, 0, none⟩) s.row.length c) vt ⟨markP s.row k, s.t⟩ ⟨k, ⟨#[]⟩, f3, 1⟩ W1 (Nat.le_trans hB0 HS.out.2.1.size) (by rw [markP_length]; omega) (by show s.t.length ≤ _; omega) HS.out.1).mono ?_
    rintro e W2 ⟨rfl, vt2, hbb, hl2, hk2⟩
    replace hbb : BAt W2 B0 g m (.slice (some ⟨gr, 0, none⟩) s.row.length c) vt2 ⟨kidP (markP s.row k), s.t ++ [⟨k, ⟨#[]⟩, f3, 1⟩]⟩ := hbb
    obtain ⟨E, hE⟩ : ∃ E, (addP ⟨markP s.row k, s.t⟩ ⟨k, ⟨#[]⟩, f3, 1⟩).2 = E := ⟨_, rfl⟩
    rw [hE]
    have HE := Lib.hid (show (if 2000 < s.t.length + 1 then (4 : Int) else 0) = E from hE)
    obtain ⟨At, ct, rfl⟩ := own_slice hbb.t
    have hT : (s.t ++ [⟨k, ⟨#[]⟩, f3, 1⟩] : List S56).length = s.t.length + 1 := by simp
    have hR : (kidP (markP s.row k)).length = s.row.length := by rw [kidP_length, markP_length]
    have hfold : BAt W2 B0 g m (.slice (some ⟨gr, 0, none⟩) s.row.length c) (.slice At (s.t.length + 1) ct) ⟨kidP (markP s.row k), s.t ++ [⟨k, ⟨#[]⟩, f3, 1⟩]⟩ := by have := hbb; rw [hT] at this; exact this
    have hX2 : W2.heap[w.heap.size]? = some (.cells #[.int .i64 f0, .int .u8 k, .string f2, .int .i64 f3] 47 (0, 0)) := hk2 _ _ HX1.out rfl
    have hLW : Below B0 w W2 := HS.out.2.1.trans hl2
    have hKW : KeepK w W2 := HS.out.2.2.trans hk2
    obtain ⟨r1, hr1⟩ : ∃ r1, kidP (markP s.row k) = r1 := ⟨_, rfl⟩
    rw [hr1] at hfold hR
    have HR1 := Lib.hid hr1
    have HLR := Lib.hid hR
    rw [← hR] at hfold
    obtain ⟨W3, hW3⟩ : ∃ W3, W2.drew = W3 := ⟨_, rfl⟩
    have hK3 : BAt W3 B0 g m (.slice (some ⟨gr, 0, none⟩) r1.length c) (.slice At (s.t.length + 1) ct) ⟨r1, s.t ++ [⟨k, ⟨#[]⟩, f3, 1⟩]⟩ := by rw [← hW3]; exact hfold.below (below_drew1 (Below.refl _ _))
    have hX3 : W3.heap[w.heap.size]? = some (.cells #[.int .i64 f0, .int .u8 k, .string f2, .int .i64 f3] 47 (0, 0)) := by rw [← hW3]; exact hX2
    have hL3 : Below B0 w W3 := by rw [← hW3]; exact below_drew1 hLW
    have hE3 : KeepK w W3 := by rw [← hW3]; exact hKW.drew
    have hs3 : w.heap.size < W3.heap.size := blk_lt hX3
    have c1 := blk_cell hX2 1
    have d0 := blk_cell hfold.blk 0
    have d1 := blk_cell hfold.blk 1
    simp only [List.getElem?_toArray, List.getElem?_cons_succ, List.getElem?_cons_zero] at c1 d0 d1
    have hrl : r1.length ≤ 999999 := by omega
    have HK3 := Lib.hid hK3
    have HL3 := Lib.hid hL3
    have HE3 := Lib.hid hE3
    have HX3 := Lib.hid hX3
    have HC := Lib.hid (And.intro c1 (And.intro d0 d1))
    clear hE hT hR hr1 hfold hbb hX2 hLW hKW hK3 hX3 hL3 hE3 c1 d0 d1 HS HX1 hl2 hk2 hb2 HX HB1
    go_wp2_with fail
    refine Go.Mix.region_mix' (fun b W => W = (bif b then W3.alloc (.cells #[.int .u8 k, .int .i64 s.t.length, .int .i64 0, .int .i64 0, .bool false, .int .i64 0, .int .i64 0] 155) else W3)) 14 15 [0] (by kernel_rfl) (by kernel_rfl) (fun _ _ _ _ _ h => h) hW3 ?_
    clear hW3
    refine Go.Mix.seqE_cons (t' := #[_, _, _, _, _, _, _, _, _, _, _, _, _, _, _, _, _, _, _, _, _, _, _, _, _, _, _, _, _, _, _, _, _, _, _, _, _, _, _, _, _, _, _, _, _, _, _, _, _, _, _, _, _, _, _, _, _, _, _, _, _, _, _, _, _, _, _, _, _, _, _, _, _, _, _, _, _, _, _, _]) _ (.pointer (some ⟨g, 0, none⟩)) rfl rfl (fun w' => rfl) rfl ?_
    refine Go.Mix.seqE_nil ?_
    refine Go.Mix.seqM_skip (by rfl) ?_
    repeat
     apply Go.Mix.seqM_cons (by rfl) (by rfl)
     focus
      intro b W hS
      have hB : Below W3.heap.size W3 W := by
       rw [hS]
       cases b
       ·exact Below.refl _ _
       ·exact (Below.refl _ _).alloc (Nat.le_refl _) _
      have c1 := blk_cell (blk_below HX3.out hB) 1
      have d0 := blk_cell (HK3.out.below hB).blk 0
      have d1 := blk_cell (HK3.out.below hB).blk 1
      simp only [List.getElem?_toArray, List.getElem?_cons_succ, List.getElem?_cons_zero] at c1 d0 d1
      have HS := Lib.hid hS
      clear hS hB
      go_wp2
      exact Go.Det.AtEnd.mk HS.out
    apply Go.Mix.seqM_main (by rfl)
    focus
     intro W hS
     obtain rfl : W = W3 := hS
     go_wp2
     exact Go.Det.AtEnd.mk rfl
    refine Go.Mix.seqM_nil ?_
    intro W4 hW4
    obtain rfl : W4 = W3.alloc (.cells #[.int .u8 k, .int .i64 s.t.length, .int .i64 0, .int .i64 0, .bool false, .int .i64 0, .int .i64 0] 155) := hW4
    simp only [List.drop_succ_cons, List.drop_zero]
    obtain ⟨i0, hi, hz0, hz1, hz2⟩ := info_parts info155
    go_wp2_with (at_builtin; refine wpList_append_own_at _ rfl _ _ 101 rfl B0 155 i0 (.agg #[(.int .u8 0), (.int .i64 0), (.int .i64 0), (.int .i64 0), (.bool false), (.int .i64 0), (.int .i64 0)]) 7 56 Try.underlying101 hi hz0 hz1 hz2 rfl (by decide) _ _ _ rfl (HK3.out.row.alloc _) _ 1 1 [.int .u8 k, .int .i64 s.t.length, .int .i64 0, .int .i64 0, .bool false, .int .i64 0, .int .i64 0] rfl rfl ?e1d ?e2d ?e3d ?e4d ?e5d ?e6d)
    case e1d => exact cells_newT W3 [.int .u8 k, .int .i64 s.t.length, .int .i64 0, .int .i64 0, .bool false, .int .i64 0, .int .i64 0] 155
    case e2d => simp [Value.oneCell']
    case e3d => unfold maxLen; omega
    case e4d => omega
    case e5d => first | omega | (simp; omega)
    case e6d =>
     intro v' W5 hown' hgrow _ hat
     obtain ⟨A', c', rfl⟩ := own_slice hown'
     have hfin := row_end (x := ⟨k, s.t.length, 0, 0, false, 0, 0⟩) HK3.out hgrow hown' (by omega)
     obtain ⟨hf1, hf2, hf3⟩ := hfin
     have e0 := blk_cell hf1 0
     have z0 := blk_frozen hf1 0
     have e0' := blk_cell hf2.blk 0
     simp only [List.getElem?_toArray, List.getElem?_cons_succ, List.getElem?_cons_zero] at e0 e0'
     have hX5 : (W5.setCell ⟨g, 0, none⟩ (.slice A' (r1.length + 1) c')).heap[w.heap.size]? = some (.cells #[.int .i64 f0, .int .u8 k, .string f2, .int .i64 f3] 47 (0, 0)) := hf3.2 _ _ HX3.out rfl
     have x3 := blk_cell hX5 3
     simp only [List.getElem?_toArray, List.getElem?_cons_succ, List.getElem?_cons_zero] at x3
     have HO : (opensP s ⟨f0, k, f2, f3⟩) = (⟨r1 ++ [⟨k, s.t.length, 0, 0, false, 0, 0⟩], s.t ++ [⟨k, ⟨#[]⟩, f3, 1⟩]⟩, f3, if 32 < s.row.length + 1 ∨ 8 < hasP 108 (r1 ++ [⟨k, s.t.length, 0, 0, false, 0, 0⟩]) then 5 else E) := by
      unfold opensP
      simp only [HMM.out, if_true, HR1.out, HE.out]
     rw [← HLR.out] at HO
     have HO := Lib.hid HO
     have H2 := Lib.hid hf2
     have H3 := Lib.hid (show Below B0 w (W5.setCell ⟨g, 0, none⟩ (.slice A' (r1.length + 1) c')) ∧ KeepK w (W5.setCell ⟨g, 0, none⟩ (.slice A' (r1.length + 1) c')) from ⟨HL3.out.trans hf3.1, HE3.out.trans hf3.2⟩)
     have HX5 := Lib.hid hX5
     have HH := Lib.hid (hasO_calls B0 (.slice A' (r1.length + 1) c') (r1 ++ [⟨k, s.t.length, 0, 0, false, 0, 0⟩]) 108 _ (by rw [List.length_append]; show r1.length + 1 ≤ _; omega) hf2.row)
     clear hf1 hf2 hf3 hown' hgrow hat hX5
     by_cases h32 : 32 < r1.length + 1
     ·have h32' : (32 : Int) < (r1.length : Int) + 1 := by omega
      go_wp2
      go_ret2
      refine ⟨by rw [HO.out, if_pos (.inl h32)]; rfl, ?_⟩
      rw [HO.out]
      exact StepTo.mk' H2.out H3.out.1 H3.out.2
     ·have h32' : ¬ (32 : Int) < (r1.length : Int) + 1 := by omega
      by_cases h8 : 8 < hasP 108 (r1 ++ [⟨k, s.t.length, 0, 0, false, 0, 0⟩])
      ·have h8' : (8 : Int) < (hasP 108 (r1 ++ [⟨k, s.t.length, 0, 0, false, 0, 0⟩]) : Int) := by omega
       go_wp2_with (go_at_call 135; (with_reducible refine HH.out.mono ?_); rintro e w7 ⟨rfl, hb7⟩; have x3' := blk_cell (blk_below HX5.out hb7) 3; simp only [List.getElem?_toArray, List.getElem?_cons_succ, List.getElem?_cons_zero] at x3')
       go_ret2
       refine ⟨by rw [HO.out, if_pos (.inr h8)]; rfl, ?_⟩
       rw [HO.out]
       exact StepTo.mk' (H2.out.below hb7) (H3.out.1.trans (below_low hb7 (Nat.le_trans hB0 H3.out.1.size))) (H3.out.2.trans (KeepK.below hb7))
      ·have h8' : ¬ (8 : Int) < (hasP 108 (r1 ++ [⟨k, s.t.length, 0, 0, false, 0, 0⟩]) : Int) := by omega
       go_wp2_with (go_at_call 135; (with_reducible refine HH.out.mono ?_); rintro e w7 ⟨rfl, hb7⟩; have x3' := blk_cell (blk_below HX5.out hb7) 3; simp only [List.getElem?_toArray, List.getElem?_cons_succ, List.getElem?_cons_zero] at x3')
       go_ret2
       refine ⟨by rw [HO.out, if_neg (fun h => h.elim h32 h8)]; rfl, ?_⟩
       rw [HO.out]
       exact StepTo.mk' (H2.out.below hb7) (H3.out.1.trans (below_low hb7 (Nat.le_trans hB0 H3.out.1.size))) (H3.out.2.trans (KeepK.below hb7))
set_option pp.maxSteps 3000 in
set_option maxRecDepth 100000 in
set_option maxHeartbeats 8000000 in
theorem whole_calls (B0 g m : Nat) (vr vt : Value) (r : List Opn) (t : List S56) (x : Opn) (w : World) (hB0 : B0 ≤ w.heap.size) (hn : r.length ≤ 999999) (hkb : KindsB r) (hb : BAt w B0 g m vr vt ⟨r, t⟩)
  (htab : x.kind = 114 → ∃ j, aroundP [116] r r.length = some j) :
  Calls Try.prog 136 #[.pointer (some ⟨g, 0, none⟩), .agg #[.int .u8 x.kind, .int .i64 x.pos, .int .i64 x.kids, .int .i64 x.note, .bool x.past, .int .i64 x.cols, .int .i64 x.text]] w fun e w' =>
   e = .returned (.bool (wholeP r x).2) ∧ StepTo B0 g m ⟨(wholeP r x).1, t⟩ w w' := by
 obtain ⟨A, c, rfl⟩ := own_slice hb.row
 have hb1 : Below w.heap.size w (w.alloc (.cells #[.int .u8 x.kind, .int .i64 x.pos, .int .i64 x.kids, .int .i64 x.note, .bool x.past, .int .i64 x.cols, .int .i64 x.text] 155)) := (Below.refl _ w).alloc (Nat.le_refl _) _
 have hx := blk_new w (.cells #[.int .u8 x.kind, .int .i64 x.pos, .int .i64 x.kids, .int .i64 x.note, .bool x.past, .int .i64 x.cols, .int .i64 x.text] 155)
 have hbx := hb.below hb1
 obtain ⟨f0, f1, f2, f3, f4, f5, f6⟩ := x
 simp only at htab hb1 hx hbx ⊢
 obtain ⟨w1, hw1⟩ : ∃ w1, w.alloc (.cells #[.int .u8 f0, .int .i64 f1, .int .i64 f2, .int .i64 f3, .bool f4, .int .i64 f5, .int .i64 f6] 155) = w1 := ⟨_, rfl⟩
 rw [hw1] at hb1 hx hbx
 have x0 := blk_cell hx 0
 have x2 := blk_cell hx 2
 have d0 := blk_cell hbx.blk 0
 simp only [List.getElem?_toArray, List.getElem?_cons_succ, List.getElem?_cons_zero] at x0 x2 d0
 have HROW := Lib.hid hb.row
 have HB := Lib.hid hbx
 have HB1 := Lib.hid hb1
 have HX := Lib.hid hx
 have HKB := Lib.hid hkb
 clear hb hb1 hx hbx hkb
 have hcase : (f0 == 108) = true ∨ ((f0 == 108) = false ∧ (f0 == 116) = true) ∨ ((f0 == 108) = false ∧ (f0 == 116) = false ∧ (f0 == 114) = true) ∨ ((f0 == 108) = false ∧ (f0 == 116) = false ∧ (f0 == 114) = false) := by
  simp only [beq_eq_false_iff_ne, beq_iff_eq]; omega
 rcases hcase with k1 | ⟨k1, k2⟩ | ⟨k1, k2, k3⟩ | ⟨k1, k2, k3⟩
 ·have HO := Lib.hid (show wholeP r ⟨f0, f1, f2, f3, f4, f5, f6⟩ = (r, decide (0 < f2)) from by unfold wholeP; rw [if_pos (.inl (beq_iff_eq.1 k1))])
  go_enter Try.func136, Try.ntmps136
  go_wp2
  go_ret
  refine ⟨by rw [HO.out]; rfl, ?_⟩
  rw [HO.out]
  exact StepTo.mk' HB.out (below_low HB1.out hB0) (KeepK.below HB1.out)
 ·have HO := Lib.hid (show wholeP r ⟨f0, f1, f2, f3, f4, f5, f6⟩ = (r, decide (0 < f2)) from by unfold wholeP; rw [if_pos (.inr (beq_iff_eq.1 k2))])
  go_enter Try.func136, Try.ntmps136
  go_wp2
  go_ret
  refine ⟨by rw [HO.out]; rfl, ?_⟩
  rw [HO.out]
  exact StepTo.mk' HB.out (below_low HB1.out hB0) (KeepK.below HB1.out)
 ·obtain ⟨j, hA⟩ := htab (beq_iff_eq.1 k3)
  have hjl := aroundP_lt _ _ _ _ hA
  obtain ⟨gr, ca, hae, hao⟩ := rowO_form HB.out.row (by show 0 < r.length; omega)
  simp only [Value.slice.injEq] at hae
  obtain ⟨rfl, -, rfl⟩ := hae
  have hac := around_calls B0 _ c r _ _ finds_t w1 (by omega) HKB.out HB.out.row
  rw [hA] at hac
  have HAC := Lib.hid hac
  have hne : w.heap.size ≠ gr := fun e => by have := own_lt HROW.out gr rfl; omega
  have q5 := rowO_cell HB.out.row j 5 hjl (by omega)
  have z5 := World.ownsRow.frozenAt HB.out.row (j * 7 + 5)
  simp only [cellsO, List.getElem?_cons_succ, List.getElem?_cons_zero] at q5
  have HO := Lib.hid (show wholeP r ⟨f0, f1, f2, f3, f4, f5, f6⟩ = if (r.getD j zOpn).cols = 0 then (r.modify j (colsF f2), decide (0 < f2)) else (r, decide (0 < f2) && f2 == (r.getD j zOpn).cols) from by
   unfold wholeP
   simp only [hA]
   rw [if_neg (fun h => h.elim (beq_eq_false_iff_ne.1 k1) (beq_eq_false_iff_ne.1 k2)), if_pos (beq_iff_eq.1 k3)])
  have hse := BAt.setO (s := ⟨r, t⟩) HB.out j 5 hjl (by omega) (colsF f2) (.int .i64 f2) rfl
  obtain ⟨cl, hcl⟩ : ∃ cl, (r.getD j zOpn).cols = cl := ⟨_, rfl⟩
  rw [hcl] at q5 HO
  have hX4 := blk_far HX.out (p := ⟨gr, j * 7 + 5, none⟩) hne (.int .i64 f2)
  have HSE := Lib.hid hse
  have HX4 := Lib.hid hX4
  have HQ := Lib.hid (And.intro q5 z5)
  have HNE := Lib.hid hne
  clear hac hse hX4 hao hA htab hcl hne
  by_cases h0 : cl = 0
  ·have h0b : (cl == 0) = true := beq_iff_eq.2 h0
   rw [if_pos h0] at HO
   have hrow6 : (w1.setCell ⟨gr, j * 7 + 5, none⟩ (.int .i64 f2)).ownsRow B0 155 7 (.slice (some ⟨gr, 0, none⟩) (r.modify j (colsF f2)).length c) (r.modify j (colsF f2)).length (flatO (r.modify j (colsF f2))) := by
    have := HSE.out.1.row
    unfold RowO at this
    simp only [List.length_modify] at this ⊢
    exact this
   have q6' := rowO_cell hrow6 j 5 (by simpa using hjl) (by omega)
   have e5 : ((r.modify j (colsF f2)).getD j zOpn).cols = f2 := by
    rw [List.getD_eq_getElem?_getD, List.getElem?_modify, List.getElem?_eq_getElem hjl]
    simp [colsF]
   simp only [cellsO, List.getElem?_cons_succ, List.getElem?_cons_zero, e5] at q6'
   have y2 := blk_cell HX4.out 2
   simp only [List.getElem?_toArray, List.getElem?_cons_succ, List.getElem?_cons_zero] at y2
   have HY := Lib.hid (And.intro q6' y2)
   clear hrow6 q6' y2 e5 h0
   go_enter Try.func136, Try.ntmps136
   go_wp2_with (go_at_call 133; (with_reducible refine HAC.out.mono ?_); rintro e w1 ⟨rfl, rfl⟩; simp only [ptrO])
   obtain ⟨W2, hW2⟩ : ∃ W2, w1.setCell ⟨gr, j * 7 + 5, none⟩ (.int .i64 f2) = W2 := ⟨_, rfl⟩
   rw [hW2] at HSE HX4 HY ⊢
   cases hd : decide (0 < f2)
   all_goals
    refine Go.Det.region_all (fun W => W = W2.drew) (by kernel_rfl) (by kernel_rfl) rfl ?_
    repeat
     apply Go.Det.seqW_cons
     focus
      intro W hS
      obtain rfl : W = W2.drew := hS
      obtain ⟨q5', y2⟩ := HY.out
      go_wp2
      exact Go.Det.AtEnd.mk rfl
    refine Go.Det.seqW_nil ?_
    intro W hS
    obtain rfl : W = W2.drew := hS
    simp only [Exit.then]
    go_wp2
    go_ret
    refine ⟨by rw [HO.out]; simp [hd], ?_⟩
    rw [HO.out]
    have hbd : Below W2.heap.size W2 W2.drew := below_drew1 (Below.refl _ _)
    exact StepTo.mk' (HSE.out.1.below hbd) (below_drew1 ((below_low HB1.out hB0).trans HSE.out.2.1)) (((KeepK.below HB1.out).trans HSE.out.2.2).drew)
  ·have h0b : (cl == 0) = false := beq_eq_false_iff_ne.2 h0
   rw [if_neg h0] at HO
   clear h0
   go_enter Try.func136, Try.ntmps136
   go_wp2_with (go_at_call 133; (with_reducible refine HAC.out.mono ?_); rintro e w1 ⟨rfl, rfl⟩; simp only [ptrO])
   cases hd : decide (0 < f2)
   all_goals
    refine Go.Det.region_all (fun W => W = w1.drew) (by kernel_rfl) (by kernel_rfl) rfl ?_
    repeat
     apply Go.Det.seqW_cons
     focus
      intro W hS
      obtain rfl : W = w1.drew := hS
      obtain ⟨q5', z5'⟩ := HQ.out
      go_wp2
      exact Go.Det.AtEnd.mk rfl
    refine Go.Det.seqW_nil ?_
    intro W hS
    obtain rfl : W = w1.drew := hS
    simp only [Exit.then]
    go_wp2
    go_ret
    refine ⟨by rw [HO.out]; simp [hd], ?_⟩
    rw [HO.out]
    exact StepTo.mk' (HB.out.below (below_drew1 (Below.refl _ _))) (below_drew1 (below_low HB1.out hB0)) ((KeepK.below HB1.out).drew)
 ·have HO := Lib.hid (show wholeP r ⟨f0, f1, f2, f3, f4, f5, f6⟩ = (r, true) from by
   unfold wholeP; rw [if_neg (fun h => h.elim (beq_eq_false_iff_ne.1 k1) (beq_eq_false_iff_ne.1 k2)), if_neg (beq_eq_false_iff_ne.1 k3)])
  go_enter Try.func136, Try.ntmps136
  go_wp2
  go_ret
  refine ⟨by rw [HO.out]; rfl, ?_⟩
  rw [HO.out]
  exact StepTo.mk' HB.out (below_low HB1.out hB0) (KeepK.below HB1.out)
theorem flatO_drop (r : List Opn) : (flatO r).take (r.dropLast.length * 7) = flatO r.dropLast := by
 rcases List.eq_nil_or_concat r with rfl | ⟨r', x, rfl⟩
 ·rfl
 ·rw [List.concat_eq_append, List.dropLast_concat, flatO_snoc, List.take_append_of_le_length (by rw [flatO_length]; omega), List.take_of_length_le (by rw [flatO_length]; omega)]
theorem BAt.pop {w : World} {B0 g m gr c n : Nat} {vt : Value} {s : Bld} (h : BAt w B0 g m (.slice (some ⟨gr, 0, none⟩) (n + 1) c) vt s) (hn : s.row.length = n + 1) :
  BAt (w.setCell ⟨g, 0, none⟩ (.slice (some ⟨gr, 0, none⟩) n c)) B0 g m (.slice (some ⟨gr, 0, none⟩) n c) vt ⟨s.row.dropLast, s.t⟩ ∧ Below B0 w (w.setCell ⟨g, 0, none⟩ (.slice (some ⟨gr, 0, none⟩) n c)) ∧ KeepK w (w.setCell ⟨g, 0, none⟩ (.slice (some ⟨gr, 0, none⟩) n c)) := by
 have hrow : w.ownsRow B0 155 7 (.slice (some ⟨gr, 0, none⟩) (n + 1) c) (n + 1) (flatO s.row) := by have := h.row; unfold RowO at this; rw [hn] at this; exact this
 have hne := own_ne hrow h.blk (by decide)
 obtain ⟨es, clock, hm⟩ := map_obj h.map
 have hmg : m ≠ g := fun e => by
  subst e
  rw [h.blk] at hm
  cases hm
 refine ⟨⟨h.base, blk_put h.blk 0 _ rfl, ?_, own_setCell h.t (p := ⟨g, 0, none⟩) (own_ne h.t h.blk (by decide)) _, map_move h.map fun o ho => ?_⟩, (Below.refl B0 w).setCell h.base _, KeepK.set (p := ⟨g, 0, none⟩) h.blk rfl _⟩
 ·have h1 := own_take hrow (m := n) (by omega)
  have h2 := own_setCell h1 (p := ⟨g, 0, none⟩) (by exact hne) (.slice (some ⟨gr, 0, none⟩) n c)
  have hl : s.row.dropLast.length = n := by rw [List.length_dropLast, hn]; rfl
  unfold RowO
  have hd := flatO_drop s.row
  rw [hl] at hd
  rw [hl, ← hd]
  exact h2
 ·rw [Below.heap_setCell _ _ _ _ hmg]
  exact ho
theorem flat56_mod (f : S56 → S56) (i : Nat) (hi : i < 4) (u : Value) : ∀ (xs : List S56) (j : Nat), j < xs.length → (nodeC (f (xs.getD j z56))).toList = ((nodeC (xs.getD j z56)).toList).set i u → (flat56 xs).set (j * 4 + i) u = flat56 (xs.modify j f)
 | [], j, h, _ => by simp at h
 | x :: xs, 0, h, hf => by
  have e : ∀ (y : S56) (ys : List S56), flat56 (y :: ys) = (nodeC y).toList ++ flat56 ys := fun _ _ => rfl
  rw [e, List.modify_zero_cons, e, List.set_append_left _ _ (by simp [nodeC]; omega), Nat.zero_mul, Nat.zero_add]
  simp only [List.getD_cons_zero] at hf
  rw [hf]
 | x :: xs, j + 1, h, hf => by
  have e : ∀ (y : S56) (ys : List S56), flat56 (y :: ys) = (nodeC y).toList ++ flat56 ys := fun _ _ => rfl
  rw [e, List.modify_succ_cons, e, List.set_append_right _ _ (by simp [nodeC]; omega)]
  rw [show (j + 1) * 4 + i - (nodeC x).toList.length = j * 4 + i from by simp [nodeC]; omega]
  rw [flat56_mod f i hi u xs j (by simpa using h) (by simpa using hf)]
theorem rowT_form {W : World} {B0 : Nat} {v : Value} {t : List S56} (h : W.ownsRow B0 56 4 v t.length (flat56 t)) (hr : 0 < t.length) : ∃ g c, v = .slice (some ⟨g, 0, none⟩) t.length c ∧ W.ownsRow B0 56 4 (.slice (some ⟨g, 0, none⟩) t.length c) t.length (flat56 t) := by
 obtain ⟨A, c, rfl⟩ := own_slice h
 rcases h.2 with ⟨_, h0⟩ | ⟨g, cap, cur, e, _⟩
 ·omega
 ·simp only [Value.slice.injEq] at e
  obtain ⟨rfl, _, rfl⟩ := e
  exact ⟨g, _, rfl, h⟩
theorem rowT_cell {W : World} {B0 g c : Nat} {t : List S56} (h : W.ownsRow B0 56 4 (.slice (some ⟨g, 0, none⟩) t.length c) t.length (flat56 t)) (j i : Nat) (hj : j < t.length) (hi : i < 4) : W.cell? ⟨g, j * 4 + i, none⟩ = (nodeC (t.getD j z56))[i]? := by
 rw [h.cellAt (j * 4 + i) (by omega)]
 have : ∀ (xs : List S56) (j : Nat), j < xs.length → (flat56 xs)[j * 4 + i]? = (nodeC (xs.getD j z56))[i]? := by
  intro xs
  induction xs with
  | nil => intro j h; simp at h
  | cons x xs ih =>
   intro j h
   have e : flat56 (x :: xs) = (nodeC x).toList ++ flat56 xs := rfl
   rw [e]
   cases j with
   | zero => rw [List.getElem?_append_left (by simp [nodeC]; omega)]; simp
   | succ j =>
    rw [List.getElem?_append_right (by simp [nodeC]; omega)]
    have := ih j (by simpa using h)
    rw [show (j + 1) * 4 + i - (nodeC x).toList.length = j * 4 + i from by simp [nodeC]; omega, this]
    simp
 exact this t j hj
theorem BAt.pop' {w : World} {B0 g m gr c n : Nat} {vt : Value} {s : Bld} (h : BAt w B0 g m (.slice (some ⟨gr, 0, none⟩) s.row.length c) vt s) (hn : s.row.length = n + 1) :
  BAt (w.setCell ⟨g, 0, none⟩ (.slice (some ⟨gr, 0, none⟩) n c)) B0 g m (.slice (some ⟨gr, 0, none⟩) n c) vt ⟨s.row.dropLast, s.t⟩ ∧ Below B0 w (w.setCell ⟨g, 0, none⟩ (.slice (some ⟨gr, 0, none⟩) n c)) ∧ KeepK w (w.setCell ⟨g, 0, none⟩ (.slice (some ⟨gr, 0, none⟩) n c)) :=
 BAt.pop (by have := h; rw [hn] at this; exact this) hn
theorem BAt.sized {w : World} {B0 g m gt ct p : Nat} {vr : Value} {s : Bld} (h : BAt w B0 g m vr (.slice (some ⟨gt, 0, none⟩) s.t.length ct) s) (hp : p < s.t.length) (n : Int) :
  BAt (w.setCell ⟨gt, p * 4 + 3, none⟩ (.int .i64 n)) B0 g m vr (.slice (some ⟨gt, 0, none⟩) s.t.length ct) ⟨s.row, s.t.modify p (sizeF n)⟩ ∧ Below B0 w (w.setCell ⟨gt, p * 4 + 3, none⟩ (.int .i64 n)) ∧ KeepK w (w.setCell ⟨gt, p * 4 + 3, none⟩ (.int .i64 n)) := by
 obtain ⟨cs, hcs⟩ := own_typed h.t gt rfl
 have hb0 := own_base h.t gt rfl
 have hne : g ≠ gt := blk_ne h.blk hcs (by decide)
 obtain ⟨es, clock, hm⟩ := map_obj h.map
 have hmne : m ≠ gt := fun e => by subst e; rw [hm] at hcs; cases hcs
 have hrow : w.ownsRow B0 155 7 vr s.row.length (flatO s.row) := h.row
 refine ⟨⟨h.base, blk_far h.blk hne _, ?_, ?_, map_move h.map fun o ho => ?_⟩, (Below.refl B0 w).setCell hb0 _, KeepK.set (p := ⟨gt, p * 4 + 3, none⟩) hcs (by rfl) _⟩
 ·refine own_setCell hrow ?_ _
  rcases own_type_ne h.t hrow (by decide) with h0 | h0
  ·cases h0
  ·exact h0
 ·have := (h.t.stored (p * 4 + 3) (.int .i64 n)).1
  rw [flat56_mod (sizeF n) 3 (by omega) (.int .i64 n) s.t p hp rfl] at this
  simp only [List.length_modify]
  exact this
 ·rw [Below.heap_setCell _ _ _ _ hmne]
  exact ho
theorem top_at (r : List Opn) (n : Nat) (hn : r.length = n + 1) : r.getD n zOpn = topP r := by
 unfold topP
 rw [List.getLast?_eq_getElem?, List.getD_eq_getElem?_getD, hn]
 rfl
set_option pp.maxSteps 3000 in
set_option maxRecDepth 100000 in
set_option maxHeartbeats 8000000 in
theorem shuts_calls (B0 g m : Nat) (vr vt : Value) (s : Bld) (x : S47) (w : World) (hB0 : B0 ≤ w.heap.size) (hn : s.row.length ≤ 999999) (hnt : s.t.length ≤ 999999) (hkb : KindsB s.row) (hpos : PosIn s) (hch : RChain s.row) (hb : BAt w B0 g m vr vt s) :
  Calls Try.prog 94 #[.pointer (some ⟨g, 0, none⟩), .agg #[.int .i64 x.f0, .int .u8 x.f1, .string x.f2, .int .i64 x.f3]] w fun e w' =>
   e = .returned (.tuple #[.int .i64 (shutsP s x).2.1, .int .i64 (shutsP s x).2.2]) ∧ StepTo B0 g m (shutsP s x).1 w w' := by
 obtain ⟨f0, k, f2, f3⟩ := x
 obtain ⟨A, c, rfl⟩ := own_slice hb.row
 have hb1 : Below w.heap.size w (w.alloc (.cells #[.int .i64 f0, .int .u8 k, .string f2, .int .i64 f3] 47)) := (Below.refl _ w).alloc (Nat.le_refl _) _
 have hx := blk_new w (.cells #[.int .i64 f0, .int .u8 k, .string f2, .int .i64 f3] 47)
 have hbx := hb.below hb1
 have hsz : (w.alloc (.cells #[.int .i64 f0, .int .u8 k, .string f2, .int .i64 f3] 47)).heap.size = w.heap.size + 1 := by simp
 obtain ⟨w1, hw1⟩ : ∃ w1, w.alloc (.cells #[.int .i64 f0, .int .u8 k, .string f2, .int .i64 f3] 47) = w1 := ⟨_, rfl⟩
 rw [hw1] at hb1 hx hbx hsz
 have x3 := blk_cell hx 3
 have d0 := blk_cell hbx.blk 0
 simp only [List.getElem?_toArray, List.getElem?_cons_succ, List.getElem?_cons_zero] at x3 d0
 have HB := Lib.hid hbx
 have HB1 := Lib.hid hb1
 have HX := Lib.hid hx
 have HKB := Lib.hid hkb
 have HSZ := Lib.hid hsz
 clear hb hb1 hx hbx hkb hsz
 by_cases h0 : s.row = []
 ·have HO := Lib.hid (show shutsP s ⟨f0, k, f2, f3⟩ = (s, f3, 2) from by unfold shutsP; rw [if_pos h0])
  have h00 : s.row.length = 0 := by rw [h0]; rfl
  rw [h00] at d0
  clear h0 h00
  go_enter Try.func94, Try.ntmps94
  go_wp2
  go_ret2
  refine ⟨by rw [HO.out]; rfl, ?_⟩
  rw [HO.out]
  exact StepTo.mk' HB.out (below_low HB1.out hB0) (KeepK.below HB1.out)
 ·have hp : 0 < s.row.length := List.length_pos_iff.2 h0
  obtain ⟨gr, ca, hae, hao⟩ := rowO_form HB.out.row hp
  simp only [Value.slice.injEq] at hae
  obtain ⟨rfl, -, rfl⟩ := hae
  obtain ⟨n, hn'⟩ : ∃ n, s.row.length = n + 1 := ⟨s.row.length - 1, by omega⟩
  have htop := top_at s.row n hn'
  have hq := fun i hi => rowO_cell hao n i (by omega) hi
  rw [htop] at hq
  have hmem : topP s.row ∈ s.row := by
   rw [← htop, List.getD_eq_getElem?_getD, List.getElem?_eq_getElem (by omega)]
   exact List.getElem_mem _
  obtain ⟨hp0, hp1⟩ := hpos _ hmem
  have htab : (topP s.row).kind = 114 → ∃ j, aroundP [116] s.row.dropLast s.row.dropLast.length = some j := fun h => chain_table hch h
  have HO := Lib.hid (show shutsP s ⟨f0, k, f2, f3⟩ = (⟨(wholeP s.row.dropLast (topP s.row)).1, s.t.modify (topP s.row).pos.toNat (sizeF (s.t.length - (topP s.row).pos))⟩, f3, if (wholeP s.row.dropLast (topP s.row)).2 then 0 else 2) from by unfold shutsP; rw [if_neg h0])
  generalize topP s.row = o at *
  obtain ⟨o0, o1, o2, o3, o4, o5, o6⟩ := o
  simp only at hp0 hp1 htab HO
  obtain ⟨p, rfl⟩ : ∃ p : Nat, o1 = (p : Int) := ⟨o1.toNat, by omega⟩
  have q0 := hq 0 (by omega)
  have q1 := hq 1 (by omega)
  have q2 := hq 2 (by omega)
  have q3 := hq 3 (by omega)
  have q4 := hq 4 (by omega)
  have q5 := hq 5 (by omega)
  have q6 := hq 6 (by omega)
  simp only [cellsO, List.getElem?_cons_succ, List.getElem?_cons_zero, Nat.add_zero] at q0 q1 q2 q3 q4 q5 q6
  have hcap := own_cap hao
  have hT := fun W => top_some gr n c (by omega) W
  have hpl : p < s.t.length := by omega
  have hnl : n ≤ 999998 := by omega
  obtain ⟨gt, ct, rfl, hto⟩ := rowT_form HB.out.t (by omega)
  clear hto
  have HT := Lib.hid hT
  have HN := Lib.hid hn'
  have HTAB := Lib.hid htab
  rw [hn'] at d0 hcap
  clear hT hq hao hmem h0 hp hpos hch htop hn' htab
  go_enter Try.func94, Try.ntmps94
  go_wp2_with (go_at_call 134; (with_reducible refine (HT.out _).mono ?_); rintro e w1 ⟨rfl, rfl⟩)
  have hBA : Below w1.heap.size w1 (w1.alloc (.cells #[.int .u8 o0, .int .i64 p, .int .i64 o2, .int .i64 o3, .bool o4, .int .i64 o5, .int .i64 o6] 155)) := (Below.refl _ _).alloc (Nat.le_refl _) _
  have hO := blk_new w1 (.cells #[.int .u8 o0, .int .i64 p, .int .i64 o2, .int .i64 o3, .bool o4, .int .i64 o5, .int .i64 o6] 155)
  obtain ⟨W1, hW1⟩ : ∃ W1, w1.alloc (.cells #[.int .u8 o0, .int .i64 p, .int .i64 o2, .int .i64 o3, .bool o4, .int .i64 o5, .int .i64 o6] 155) = W1 := ⟨_, rfl⟩
  rw [hW1] at hBA hO ⊢
  obtain ⟨W2, hW2⟩ : ∃ W2, W1.drew = W2 := ⟨_, rfl⟩
  have hb2 : Below w1.heap.size w1 W2 := by rw [← hW2]; exact below_drew1 hBA
  have hO2 : W2.heap[w1.heap.size]? = some (.cells #[.int .u8 o0, .int .i64 p, .int .i64 o2, .int .i64 o3, .bool o4, .int .i64 o5, .int .i64 o6] 155 (0, 0)) := by rw [← hW2]; exact hO
  have HB2 := Lib.hid (HB.out.below hb2)
  have HX2 := Lib.hid (blk_below HX.out hb2)
  have HE2 := Lib.hid (HB1.out.trans (hb2.mono HB1.out.size))
  have HO2 := Lib.hid hO2
  have e0 := blk_cell HB2.out.blk 0
  have ez := blk_frozen HB2.out.blk 0
  simp only [List.getElem?_toArray, List.getElem?_cons_zero] at e0
  rw [HN.out] at e0
  have HE0 := Lib.hid (And.intro e0 ez)
  clear e0 ez hO2 hb2 hO hBA hW1 q0 q1 q2 q3 q4 q5 q6 d0 x3
  have hcap2 : n ≤ c := by omega
  refine Go.Det.region_det (fun W => W = W2) 14 (by kernel_rfl) (by kernel_rfl) (by kernel_rfl) (by decide) hW2 ?_
  clear hW2
  repeat
   apply Go.Det.seqW_cons
   focus
    intro W hS
    obtain rfl : W = W2 := hS
    obtain ⟨e0, ez⟩ := HE0.out
    go_wp2
    exact Go.Det.AtEnd.mk rfl
  refine Go.Det.seqW_nil ?_
  intro W hS
  obtain rfl : W = W2 := hS
  simp only [List.drop_succ_cons, List.drop_zero]
  obtain ⟨e0, ez⟩ := HE0.out
  go_wp2
  have hpop := HB2.out.pop' HN.out
  have hO3 := blk_far HO2.out (p := ⟨g, 0, none⟩) (Ne.symm (blk_ne HB2.out.blk HO2.out (by decide))) (.slice (some ⟨gr, 0, none⟩) n c)
  have hX3 := blk_far HX2.out (p := ⟨g, 0, none⟩) (Ne.symm (blk_ne HB2.out.blk HX2.out (by decide))) (.slice (some ⟨gr, 0, none⟩) n c)
  obtain ⟨W3, hW3⟩ : ∃ W3, W.setCell ⟨g, 0, none⟩ (.slice (some ⟨gr, 0, none⟩) n c) = W3 := ⟨_, rfl⟩
  rw [hW3] at hpop hO3 hX3 ⊢
  clear hW3 e0 ez
  obtain ⟨hb3, hl3, hk3⟩ := hpop
  obtain ⟨W4, hW4⟩ : ∃ W4, W3.drew = W4 := ⟨_, rfl⟩
  have hbd : Below W3.heap.size W3 W4 := by rw [← hW4]; exact below_drew1 (Below.refl _ _)
  have HB4 := Lib.hid (hb3.below hbd)
  have HO4 := Lib.hid (blk_below hO3 hbd)
  have HX4 := Lib.hid (blk_below hX3 hbd)
  have HL4 := Lib.hid (((below_low HE2.out hB0).trans hl3).trans (below_low hbd (Nat.le_trans hB0 (Nat.le_trans HE2.out.size hl3.size))))
  have HK4 := Lib.hid (((KeepK.below HE2.out).trans hk3).trans (KeepK.below hbd))
  have e1 := blk_cell HB4.out.blk 1
  have y1 := blk_cell HO4.out 1
  have ez := World.ownsRow.frozenAt HB4.out.t (p * 4 + 3)
  have et := rowT_cell HB4.out.t p 3 hpl (by omega)
  simp only [nodeC, List.getElem?_toArray, List.getElem?_cons_succ, List.getElem?_cons_zero] at e1 y1 et
  have HQ := Lib.hid (And.intro e1 (And.intro y1 (And.intro ez et)))
  have hpl1 : (p : Int) < (s.t.length : Int) := by omega
  clear hb3 hl3 hk3 hO3 hX3 hbd e1 y1 ez et HB2 HO2 HX2 HE2 HE0 HX HB1 HB
  refine Go.Det.region_det (fun W => W = W4) 16 (by kernel_rfl) (by kernel_rfl) (by kernel_rfl) (by decide) hW4 ?_
  clear hW4
  repeat
   apply Go.Det.seqW_cons
   focus
    intro W hS
    obtain rfl : W = W4 := hS
    obtain ⟨e1, y1, ez, et⟩ := HQ.out
    go_wp2
    exact Go.Det.AtEnd.mk rfl
  refine Go.Det.seqW_nil ?_
  intro W hS
  obtain rfl : W = W4 := hS
  simp only [List.drop_succ_cons, List.drop_zero]
  have hsz := BAt.sized (s := ⟨s.row.dropLast, s.t⟩) HB4.out hpl ((s.t.length : Int) - p)
  have hO5 := blk_far HO4.out (p := ⟨gt, p * 4 + 3, none⟩) (fun e => by
   obtain ⟨cs, hcs⟩ := own_typed HB4.out.t gt rfl
   exact absurd e (blk_ne HO4.out hcs (by decide))) (.int .i64 ((s.t.length : Int) - p))
  have hX5 := blk_far HX4.out (p := ⟨gt, p * 4 + 3, none⟩) (fun e => by
   obtain ⟨cs, hcs⟩ := own_typed HB4.out.t gt rfl
   exact absurd e (blk_ne HX4.out hcs (by decide))) (.int .i64 ((s.t.length : Int) - p))
  have HSZ5 := Lib.hid hsz
  have HO5 := Lib.hid hO5
  have HX5 := Lib.hid hX5
  have o0c := blk_cell hO5 0
  have o1c := blk_cell hO5 1
  have o2c := blk_cell hO5 2
  have o3c := blk_cell hO5 3
  have o4c := blk_cell hO5 4
  have o5c := blk_cell hO5 5
  have o6c := blk_cell hO5 6
  simp only [List.getElem?_toArray, List.getElem?_cons_succ, List.getElem?_cons_zero] at o0c o1c o2c o3c o4c o5c o6c
  obtain ⟨e1, y1, ez, et⟩ := HQ.out
  clear hsz hO5 hX5
  go_wp2_with fail
  have hlow5 := HL4.out.trans HSZ5.out.2.1
  have hkeep5 := HK4.out.trans HSZ5.out.2.2
  have hdl : s.row.dropLast.length = n := by rw [List.length_dropLast, HN.out]; rfl
  refine (whole_calls B0 g m _ _ s.row.dropLast (s.t.modify p (sizeF ((s.t.length : Int) - p))) ⟨o0, p, o2, o3, o4, o5, o6⟩ _ (Nat.le_trans hB0 hlow5.size) (by omega) (fun o ho => HKB.out o (List.dropLast_subset _ ho)) HSZ5.out.1 HTAB.out).mono ?_
  rintro e W6 ⟨rfl, ⟨vr6, vt6, hb6, hl6, hk6⟩⟩
  have HB6 := Lib.hid hb6
  have HL6 := Lib.hid (hlow5.trans hl6)
  have HK6 := Lib.hid (hkeep5.trans hk6)
  have hX6 := hk6 _ _ HX5.out rfl
  have x3 := blk_cell hX6 3
  simp only [List.getElem?_toArray, List.getElem?_cons_succ, List.getElem?_cons_zero] at x3
  rw [Int.toNat_natCast] at HO
  generalize wholeP s.row.dropLast ⟨o0, p, o2, o3, o4, o5, o6⟩ = R at *
  obtain ⟨R1, R2⟩ := R
  clear hb6 hl6 hk6 hX6 hlow5 hkeep5 o0c o1c o2c o3c o4c o5c o6c e1 y1 ez et
  cases R2
  all_goals
   go_wp2
   go_ret2
   refine ⟨by rw [HO.out]; rfl, ?_⟩
   rw [HO.out]
   exact StepTo.mk' HB6.out HL6.out HK6.out
end Go.Proofs.Ythcmfjpheanphaa.Pr
namespace Go.Proofs.Ythcmfjpheanphaa.Pr
open Go.RowKit Go.Proofs.YthcmfjpheanphaaW.PrintWords
theorem heap_new (w : World) (o : Obj) : (w.alloc o).heap[w.heap.size]? = some o := by
 show (w.heap.push o)[w.heap.size]? = some o
 simp
def ofStep (g : List Int) (c : Int) : List Int := g.set (c / 64).toNat (bits .or .u64 (g.getD (c / 64).toNat 0) (IntKind.u64.wrap (2 ^ (c % 64).toNat)))
def ofL (g : List Int) (s : ByteArray) : Nat → List Int
 | 0 => g
 | k + 1 => ofStep (ofL g s k) (bt s k)
theorem ofL_length (g : List Int) (s : ByteArray) : ∀ k, (ofL g s k).length = g.length
 | 0 => rfl
 | k + 1 => by simp [ofL, ofStep, ofL_length g s k]
def u64s (g : List Int) : List Value := g.map (.int .u64)
def Arr4 (W : World) (B : Nat) (g : List Int) : Prop := W.heap[B]? = some (.cells (u64s g).toArray 77 (0, 0))
theorem Arr4.cell {W : World} {B : Nat} {g : List Int} (h : Arr4 W B g) {i : Nat} (hi : i < g.length) : W.cell? ⟨B, i, none⟩ = some (.int .u64 (g.getD i 0)) := by
 unfold Arr4 at h
 simp [World.cell?, h, u64s, hi]
theorem Arr4.frozen {W : World} {B : Nat} {g : List Int} (h : Arr4 W B g) (i : Nat) : W.frozen? ⟨B, i, none⟩ = false := by
 unfold Arr4 at h
 simp [World.frozen?, h]
theorem Arr4.set {W : World} {B : Nat} {g : List Int} (h : Arr4 W B g) (i : Nat) (x : Int) : Arr4 (W.setCell ⟨B, i, none⟩ (.int .u64 x)) B (g.set i x) := by
 unfold Arr4 at *
 have hb := (Array.getElem?_eq_some_iff.1 h)
 simp only [World.setCell, Array.getElem?_modify, if_pos, h]
 simp [u64s, List.map_set]
theorem Arr4.below {W W' : World} {B : Nat} {g : List Int} (h : Arr4 W B g) (hb : Below W.heap.size W W') : Arr4 W' B g := by
 unfold Arr4 at *
 rw [hb.block _ (Array.getElem?_eq_some_iff.1 h).1]; exact h
set_option maxHeartbeats 400000 in
theorem of_calls (s : ByteArray) (w : World) (hs : s.size ≤ 9223372036854775807) :
  Calls Try.prog 128 #[.string s] w fun e w' => e = .returned (.agg (u64s (ofL [0,0,0,0] s s.size)).toArray) ∧ Below w.heap.size w w' := by
 go_enter Try.func128, Try.ntmps128
 go_wp2
 go_loopw [7] (fun v wr => ∃ k : Nat, k ≤ s.size ∧ v = .int .i64 k ∧ Below w.heap.size w wr ∧ w.heap.size + 2 ≤ wr.heap.size ∧ Arr4 wr (w.heap.size + 1) (ofL [0,0,0,0] s k) ∧ Arr4 wr w.heap.size [0,0,0,0]) (fun v _ => s.size - (intOf v).toNat)
 case atStart =>
  refine ⟨0, Nat.zero_le _, rfl, ((Below.refl _ _).alloc (Nat.le_refl _) _).alloc (by simp) _, by simp, ?_, ?_⟩
  ·have := heap_new (w.alloc (.cells #[.int .u64 0, .int .u64 0, .int .u64 0, .int .u64 0] 77)) (.cells #[.int .u64 0, .int .u64 0, .int .u64 0, .int .u64 0] 77)
   rw [World.size_alloc] at this
   exact this
  ·exact (Below.heap_alloc _ _ _ (by simp)).trans (heap_new _ _)
 case round =>
  obtain ⟨k, hk, rfl, hB, hsz, hb, hr⟩ := hrel
  have hlen := ofL_length [0,0,0,0] s k
  by_cases hlt : k < s.size
  ·obtain ⟨c, hc⟩ : ∃ c : Int, ((s[k].toNat : Nat) : Int) = c := ⟨_, rfl⟩
   have hc0 : 0 ≤ c ∧ c < 256 := by rw [← hc]; have := s[k].toNat_lt; omega
   have i0 : 0 ≤ c / 64 := by omega
   have i1 : c / 64 < 4 := by omega
   have hcell := hb.cell (i := (c / 64).toNat) (by rw [hlen]; simp; omega)
   have hfr := hb.frozen (c / 64).toNat
   have h63 : bits .and .u8 c 63 = c % 64 := u8_and63 c hc0.1 hc0.2
   have i2 : 0 ≤ c % 64 := by omega
   have i3 : c % 64 < 64 := by omega
   clear hlen
   go_wp2
   go_region
   go_wp2
   go_roundw
   case rel =>
    refine ⟨k + 1, by omega, by go_num, ?_, by simpa using hsz, ?_, ?_⟩
    ·exact (hB.setCell (by simp) _).drew
    ·have hs1 := hb.set (c / 64).toNat (bits BinOp.or IntKind.u64 ((ofL [0, 0, 0, 0] s k)[(c / 64).toNat]?.getD 0) (IntKind.u64.wrap (2 ^ (c % 64).toNat)))
     have e : ofL [0, 0, 0, 0] s (k + 1) = (ofL [0, 0, 0, 0] s k).set (c / 64).toNat (bits BinOp.or IntKind.u64 ((ofL [0, 0, 0, 0] s k)[(c / 64).toNat]?.getD 0) (IntKind.u64.wrap (2 ^ (c % 64).toNat))) := by
      have hbt : bt s k = c := by rw [← hc]; simp [bt, hlt]
      simp [ofL, ofStep, hbt]
     rw [e]; exact hs1
    ·have := Below.heap_setCell wr ⟨w.heap.size + 1, (c / 64).toNat, none⟩ (.int .u64 (bits BinOp.or IntKind.u64 ((ofL [0, 0, 0, 0] s k)[(c / 64).toNat]?.getD 0) (IntKind.u64.wrap (2 ^ (c % 64).toNat)))) w.heap.size (by simp)
     exact this.trans hr
   case measure => simp [intOf]; omega
  ·obtain rfl : k = s.size := by omega
   obtain ⟨a, b, c, d, hL⟩ : ∃ a b c d, ofL [0,0,0,0] s s.size = [a, b, c, d] := by
    match h : ofL [0,0,0,0] s s.size, hlen with
    | [a, b, c, d], _ => exact ⟨a, b, c, d, rfl⟩
   rw [hL] at hb
   have HL := Lib.hid hL
   clear hL hlen
   have c0 := hb.cell (i := 0) (by simp)
   have c1 := hb.cell (i := 1) (by simp)
   have c2 := hb.cell (i := 2) (by simp)
   have c3 := hb.cell (i := 3) (by simp)
   have r0 := hr.cell (i := 0) (by simp)
   have r1 := hr.cell (i := 1) (by simp)
   have r2 := hr.cell (i := 2) (by simp)
   have r3 := hr.cell (i := 3) (by simp)
   have q0 := hr.frozen 0
   have q1 := hr.frozen 1
   have q2 := hr.frozen 2
   have q3 := hr.frozen 3
   go_wp2
   refine bodyPost_ret (v := .agg #[.int .u64 a, .int .u64 b, .int .u64 c, .int .u64 d]) (by simp [results, Try.results128, go_sem, r0, r1, r2, r3]) rfl ⟨by rw [HL.out]; rfl, ?_⟩
   exact (((hB.setCell (by simp) _).setCell (by simp) _).setCell (by simp) _).setCell (by simp) _
def cLow : Int := 576460743713488896
def cUp : Int := 134217726
def cDig : Int := 287948901175001088
def cMark : Int := 10088330922161078272
def cSp : Int := 4294967296
def cNl : Int := 1024
theorem of_low : ofL [0,0,0,0] ⟨#[97, 98, 99, 100, 101, 102, 103, 104, 105, 106, 107, 108, 109, 110, 111, 112, 113, 114, 115, 116, 117, 118, 119, 120, 121, 122]⟩ 26 = [0, cLow, 0, 0] := by decide +kernel
theorem of_up : ofL [0,0,0,0] ⟨#[65, 66, 67, 68, 69, 70, 71, 72, 73, 74, 75, 76, 77, 78, 79, 80, 81, 82, 83, 84, 85, 86, 87, 88, 89, 90]⟩ 26 = [0, cUp, 0, 0] := by decide +kernel
theorem of_dig : ofL [0,0,0,0] ⟨#[48, 49, 50, 51, 52, 53, 54, 55, 56, 57]⟩ 10 = [cDig, 0, 0, 0] := by decide +kernel
theorem of_mark : ofL [0,0,0,0] ⟨#[46, 44, 59, 58, 33, 63, 39, 34, 45, 40, 41, 47]⟩ 12 = [cMark, 0, 0, 0] := by decide +kernel
theorem of_sp : ofL [0,0,0,0] ⟨#[32]⟩ 1 = [cSp, 0, 0, 0] := by decide +kernel
theorem of_nl : ofL [0,0,0,0] ⟨#[10]⟩ 1 = [cNl, 0, 0, 0] := by decide +kernel
theorem of_c {s : ByteArray} {n : Nat} {a b c d : Int} (hn : s.size = n) (h : ofL [0,0,0,0] s n = [a, b, c, d]) (w : World) (hs : s.size ≤ 9223372036854775807) :
  Calls Try.prog 128 #[.string s] w fun e w' => e = .returned (.agg #[.int .u64 a, .int .u64 b, .int .u64 c, .int .u64 d]) ∧ Below w.heap.size w w' := by
 subst hn
 have := of_calls s w hs
 rw [h] at this
 exact this
set_option maxHeartbeats 400000 in
theorem marks_calls (w : World) : Calls Try.prog 42 #[] w fun e w' => e = .returned (.string ⟨#[46, 44, 59, 58, 33, 63, 39, 34, 45, 40, 41, 47]⟩) ∧ w = w' := by
 go_enter Try.func42, Try.ntmps42
 go_wp2
 go_ret
 exact ⟨rfl, rfl⟩
def clsL : List Int := [0,0,0,0, 0,cLow,0,0, 0,cUp,0,0, cDig,0,0,0, cMark,0,0,0, cSp,0,0,0, cNl,0,0,0]
set_option maxHeartbeats 1000000 in
theorem classes_calls (w : World) :
  Calls Try.prog 77 #[] w fun e w' => e = .returned (.agg (u64s clsL).toArray) ∧ Below w.heap.size w w' := by
 go_enter Try.func77, Try.ntmps77
 go_wp2_with fail
 refine (of_c (by rfl) of_low _ (by decide)).mono ?_
 rintro e w1 ⟨rfl, hb1⟩
 go_wp2_with fail
 refine (of_c (by rfl) of_up _ (by decide)).mono ?_
 rintro e w2 ⟨rfl, hb2⟩
 go_wp2_with fail
 refine (of_c (by rfl) of_dig _ (by decide)).mono ?_
 rintro e w3 ⟨rfl, hb3⟩
 go_wp2_with fail
 refine (marks_calls _).mono ?_
 rintro e w4 ⟨rfl, rfl⟩
 go_wp2_with fail
 refine (of_c (by rfl) of_mark _ (by decide)).mono ?_
 rintro e w4 ⟨rfl, hb4⟩
 go_wp2_with fail
 refine (of_c (by rfl) of_sp _ (by decide)).mono ?_
 rintro e w5 ⟨rfl, hb5⟩
 go_wp2_with fail
 refine (of_c (by rfl) of_nl _ (by decide)).mono ?_
 rintro e w6 ⟨rfl, hb6⟩
 have hba := ((((hb1.trans (hb2.mono hb1.size)).trans (hb3.mono (hb1.trans (hb2.mono hb1.size)).size)).trans (hb4.mono ((hb1.trans (hb2.mono hb1.size)).trans (hb3.mono (hb1.trans (hb2.mono hb1.size)).size)).size)))
 have hbb := hba.trans (hb5.mono hba.size)
 have hbc := hbb.trans (hb6.mono hbb.size)
 have hg : w6.heap[w.heap.size]? = some (.cells (u64s (List.replicate 28 0)).toArray 78 (0, 0)) := (hbc.block w.heap.size (by simp)).trans (heap_new _ _)
 have hbz : Below w.heap.size w w6 := ((Below.refl _ w).alloc (Nat.le_refl _) _).trans (hbc.mono (by simp))
 clear hb1 hb2 hb3 hb4 hb5 hb6 hba hbb hbc
 have Hg := Lib.hid hg
 clear hg
 go_wp2_with (refine wpList_store_row rfl 78 (.tmp 0) (.tmp 8) rfl w.heap.size _ rfl rfl 78 _ Hg.out ?h1 ?h2 ?h3 ?h4)
 case h1 => kernel_rfl
 case h2 => rfl
 case h3 => simp [Value.oneCell']
 case h4 =>
  refine bodyPost_ret (results_cell_row rfl _ _ w.heap.size 78 (u64s clsL).toArray (0, 0) _ rfl ?_ Try.underlying78 rfl (by kernel_rfl)) rfl ⟨rfl, ?_⟩
  ·exact setRow_heap _ _ _ _ _ _ Hg.out
  ·exact hbz.trans ⟨rfl, rfl, rfl, by simp, fun k hk => by simp only [World.setRow, Array.getElem?_modify]; rw [if_neg (by omega)]⟩
def hasB (g : List Int) (c : Int) : Bool := bits .and .u64 (g.getD (c / 64).toNat 0 / 2 ^ (c % 64).toNat) 1 == 1
set_option maxHeartbeats 1000000 in
theorem has_calls (a b c d x : Int) (w : World) (hx : 0 ≤ x) (hx1 : x < 256) :
  Calls Try.prog 78 #[.agg #[.int .u64 a, .int .u64 b, .int .u64 c, .int .u64 d], .int .u8 x] w fun e w' => e = .returned (.bool (hasB [a, b, c, d] x)) ∧ Below w.heap.size w w' := by
 have hz : Arr4 (w.alloc (.cells #[.int .u64 a, .int .u64 b, .int .u64 c, .int .u64 d] 77)) w.heap.size [a, b, c, d] := heap_new _ _
 have i0 : 0 ≤ x / 64 := by omega
 have i1 : x / 64 < 4 := by omega
 have hcell := hz.cell (i := (x / 64).toNat) (by simp; omega)
 have h63 : bits .and .u8 x 63 = x % 64 := u8_and63 x hx hx1
 have i2 : 0 ≤ x % 64 := by omega
 have i3 : x % 64 < 64 := by omega
 go_enter Try.func78, Try.ntmps78
 go_wp2
 go_ret
 exact ⟨by simp [hasB, List.getD_eq_getElem?_getD, List.getElem?_eq_getElem (show (x / 64).toNat < [a, b, c, d].length by simp; omega)], (Below.refl _ w).alloc (Nat.le_refl _) _⟩
def seg (j : Nat) : List Int := (clsL.drop (4 * j)).take 4
def classB (c : Int) : Int := if hasB (seg 0) c then 0 else if hasB (seg 1) c then 1 else if hasB (seg 2) c then 2 else if hasB (seg 3) c then 3 else if hasB (seg 4) c then 4 else if hasB (seg 5) c then 5 else if hasB (seg 6) c then 6 else 0
def classP (c : Int) : Int := if 97 ≤ c ∧ c ≤ 122 then 1 else if 65 ≤ c ∧ c ≤ 90 then 2 else if 48 ≤ c ∧ c ≤ 57 then 3 else if c = 32 then 5 else if c = 10 then 6
 else if c ∈ [46, 44, 59, 58, 33, 63, 39, 34, 45, 40, 41, 47] then 4 else 0
theorem classB_fin : ∀ n : Fin 256, classB (n.val : Int) = classP (n.val : Int) := by decide +kernel
theorem classB_eq (c : Int) (h0 : 0 ≤ c) (h1 : c < 256) : classB c = classP c := by
 have := classB_fin ⟨c.toNat, by omega⟩
 simpa [Int.toNat_of_nonneg h0] using this
set_option maxRecDepth 100000 in
theorem idx_run0 (w : World) : (Instr.index 78 (.agg (u64s clsL).toArray) (.int .i64 (0 : Nat))).run Try.prog w = .ok (.agg (u64s (seg 0)).toArray) w := by kernel_rfl
set_option maxRecDepth 100000 in
theorem idx_run1 (w : World) : (Instr.index 78 (.agg (u64s clsL).toArray) (.int .i64 (1 : Nat))).run Try.prog w = .ok (.agg (u64s (seg 1)).toArray) w := by kernel_rfl
set_option maxRecDepth 100000 in
theorem idx_run2 (w : World) : (Instr.index 78 (.agg (u64s clsL).toArray) (.int .i64 (2 : Nat))).run Try.prog w = .ok (.agg (u64s (seg 2)).toArray) w := by kernel_rfl
set_option maxRecDepth 100000 in
theorem idx_run3 (w : World) : (Instr.index 78 (.agg (u64s clsL).toArray) (.int .i64 (3 : Nat))).run Try.prog w = .ok (.agg (u64s (seg 3)).toArray) w := by kernel_rfl
set_option maxRecDepth 100000 in
theorem idx_run4 (w : World) : (Instr.index 78 (.agg (u64s clsL).toArray) (.int .i64 (4 : Nat))).run Try.prog w = .ok (.agg (u64s (seg 4)).toArray) w := by kernel_rfl
set_option maxRecDepth 100000 in
theorem idx_run5 (w : World) : (Instr.index 78 (.agg (u64s clsL).toArray) (.int .i64 (5 : Nat))).run Try.prog w = .ok (.agg (u64s (seg 5)).toArray) w := by kernel_rfl
set_option maxRecDepth 100000 in
theorem idx_run6 (w : World) : (Instr.index 78 (.agg (u64s clsL).toArray) (.int .i64 (6 : Nat))).run Try.prog w = .ok (.agg (u64s (seg 6)).toArray) w := by kernel_rfl
theorem idx_run (j : Nat) (hj : j < 7) (w : World) : (Instr.index 78 (.agg (u64s clsL).toArray) (.int .i64 j)).run Try.prog w = .ok (.agg (u64s (seg j)).toArray) w := by
 have hj' : j = 0 ∨ j = 1 ∨ j = 2 ∨ j = 3 ∨ j = 4 ∨ j = 5 ∨ j = 6 := by omega
 rcases hj' with rfl | rfl | rfl | rfl | rfl | rfl | rfl
 ·exact idx_run0 w
 ·exact idx_run1 w
 ·exact idx_run2 w
 ·exact idx_run3 w
 ·exact idx_run4 w
 ·exact idx_run5 w
 ·exact idx_run6 w
theorem seg_form (j : Nat) (hj : j < 7) : ∃ a b c d, seg j = [a, b, c, d] := by
 have hj' : j = 0 ∨ j = 1 ∨ j = 2 ∨ j = 3 ∨ j = 4 ∨ j = 5 ∨ j = 6 := by omega
 rcases hj' with rfl | rfl | rfl | rfl | rfl | rfl | rfl
 all_goals exact ⟨_, _, _, _, rfl⟩
theorem classB_at (x : Int) (k : Nat) (hk : k < 7) (h : hasB (seg k) x = true) (hno : ∀ j, j < k → hasB (seg j) x = false) : classB x = k := by
 have hj' : k = 0 ∨ k = 1 ∨ k = 2 ∨ k = 3 ∨ k = 4 ∨ k = 5 ∨ k = 6 := by omega
 unfold classB
 rcases hj' with rfl | rfl | rfl | rfl | rfl | rfl | rfl
 ·rw [h]; rfl
 ·rw [h, hno 0 (by omega)]; rfl
 ·rw [h, hno 0 (by omega), hno 1 (by omega)]; rfl
 ·rw [h, hno 0 (by omega), hno 1 (by omega), hno 2 (by omega)]; rfl
 ·rw [h, hno 0 (by omega), hno 1 (by omega), hno 2 (by omega), hno 3 (by omega)]; rfl
 ·rw [h, hno 0 (by omega), hno 1 (by omega), hno 2 (by omega), hno 3 (by omega), hno 4 (by omega)]; rfl
 ·rw [h, hno 0 (by omega), hno 1 (by omega), hno 2 (by omega), hno 3 (by omega), hno 4 (by omega), hno 5 (by omega)]; rfl
theorem classB_no (x : Int) (hno : ∀ j, j < 7 → hasB (seg j) x = false) : classB x = 0 := by
 unfold classB
 rw [hno 0 (by omega), hno 1 (by omega), hno 2 (by omega), hno 3 (by omega), hno 4 (by omega), hno 5 (by omega), hno 6 (by omega)]; rfl
set_option maxHeartbeats 1000000 in
theorem class_calls (x : Int) (w : World) (hx : 0 ≤ x) (hx1 : x < 256) :
  Calls Try.prog 24 #[.int .u8 x] w fun e w' => e = .returned (.int .i64 (classB x)) ∧ Below w.heap.size w w' := by
 go_enter Try.func24, Try.ntmps24
 go_wp2_with (go_at_call 77; refine (classes_calls _).mono ?_; rintro e w1 ⟨rfl, hb1⟩)
 generalize hv : (Value.agg (u64s clsL).toArray) = V5
 have HV := Lib.hid hv
 clear hv
 go_loopw [6] (fun v wr => ∃ k : Nat, k ≤ 7 ∧ v = .int .i64 k ∧ Below w.heap.size w wr ∧ ∀ j, j < k → hasB (seg j) x = false) (fun v _ => 7 - (intOf v).toNat)
 case atStart => exact ⟨0, by omega, rfl, hb1, fun j hj => by omega⟩
 case round =>
  obtain ⟨k, hk, rfl, hB, hno⟩ := hrel
  have Hno := Lib.hid hno
  clear hno
  by_cases hlt : k < 7
  ·have hix := fun w => idx_run k hlt w
   rw [HV.out] at hix
   have hlt2 : decide ((k : Int) < 7) = true := by simp; omega
   obtain ⟨a, b, c, d, hs⟩ := seg_form k hlt
   rw [hs] at hix
   have hix' : ∀ (w : World), Sem.run Try.prog (Instr.index 78 V5 (Value.int IntKind.i64 ↑k)) w = Result.ok (.agg #[.int .u64 a, .int .u64 b, .int .u64 c, .int .u64 d]) w := hix
   clear hix
   have HS := Lib.hid hs
   clear hs
   cases hh : hasB (seg k) x with
   | true =>
    have HH := Lib.hid hh
    clear hh
    have hc2 := fun w => has_calls a b c d x w hx hx1
    rw [← HS.out, HH.out] at hc2
    have HC2 := Lib.hid hc2
    clear hc2
    go_wp2_with (go_at_call 78; refine (HC2.out _).mono ?_; rintro e w2 ⟨rfl, hb2⟩)
    go_ret
    exact ⟨by rw [classB_at x k hlt HH.out Hno.out]; rfl, (hB.alloc hB.size _).trans (hb2.mono (by simp; exact Nat.le_succ_of_le hB.size))⟩
   | false =>
    have HH := Lib.hid hh
    clear hh
    have hc2 := fun w => has_calls a b c d x w hx hx1
    rw [← HS.out, HH.out] at hc2
    have HC2 := Lib.hid hc2
    clear hc2
    go_wp2_with (go_at_call 78; refine (HC2.out _).mono ?_; rintro e w2 ⟨rfl, hb2⟩)
    go_roundw
    case rel =>
     refine ⟨k + 1, by omega, by go_num, (hB.alloc hB.size _).trans (hb2.mono (by simp; exact Nat.le_succ_of_le hB.size)), fun j hj => ?_⟩
     rcases Nat.lt_or_ge j k with h | h
     ·exact Hno.out j h
     ·obtain rfl : j = k := by omega
      exact HH.out
    case measure => simp [intOf]; omega
  ·have hlt2 : decide ((k : Int) < 7) = false := by simp; omega
   go_wp2
   go_ret
   obtain rfl : k = 7 := by omega
   exact ⟨by rw [classB_no x Hno.out]; rfl, hB⟩
def chars_Class.f (a0 : Int) : Option Int := if 0 ≤ a0 ∧ a0 < 256 then some (classP a0) else none
theorem chars_Class.calls (a0 : Int) (r : Int) (w : World) (h : chars_Class.f a0 = some r) :
  Calls Try.prog 24 #[.int .u8 a0] w fun e w' => e = .returned (.int .i64 r) ∧ Below w.heap.size w w' := by
 unfold chars_Class.f at h
 split at h
 ·rename_i hc
  obtain rfl := Option.some.inj h
  rw [← classB_eq a0 hc.1 hc.2]
  exact class_calls a0 w hc.1 hc.2
 ·cases h
end Go.Proofs.Ythcmfjpheanphaa.Pr
namespace Go.Proofs.Ythcmfjpheanphaa.Pr
open Go.RowKit Go.Proofs.YthcmfjpheanphaaW.PrintWords Go.Proofs.YthcmfjpheanphaaW.PrintLast Go.Proofs.YthcmfjpheanphaaW.PrintMore
attribute [local go_sem] max2_int min2_int max_two min_two max_three min_three max_four min_four
theorem eqA27 (d : Nat) (w : World) (x0 y0 : Int) (x1 y1 : ByteArray) :
  (Op.equalIn (d + 2) 27 (.agg #[.int .i64 x0, .string x1]) (.agg #[.int .i64 y0, .string y1])).run Try.prog w = .ok (x0 == y0 && (x1.toList == y1.toList)) w := by
 refine eqA_of Try.underlying27 (by kernel_rfl) ?_
 refine eqf_cons (by rfl) (by go_simp; rfl) (by go_simp; rfl) (by go_simp) ?_
 exact eqf_last (by rfl) (by go_simp; rfl) (by go_simp; rfl) (by go_simp)
end Go.Proofs.Ythcmfjpheanphaa.Pr
namespace Go.Proofs.Ythcmfjpheanphaa.Pr
open Go.RowKit Go.Shelf Go.Proofs.YthcmfjpheanphaaW.PrintWords
attribute [local go_sem] Oper.semAt_some
def clsAt (s : ByteArray) (i : Nat) : Int := classP (bt s i)
def runTo (s : ByteArray) (c : Int) : Nat → Nat → Nat
 | 0, q => q
 | d + 1, q => if q < s.size ∧ clsAt s q = c then runTo s c d (q + 1) else q
def runsL (s : ByteArray) : Nat → Nat → List S27
 | 0, _ => []
 | d + 1, i => if i < s.size then
   ⟨i, s.extract i (runTo s (clsAt s i) s.size (i + 1))⟩ :: runsL s d (runTo s (clsAt s i) s.size (i + 1)) else []
def KB (B : Nat) (W W' : World) : Prop := W'.heap[B]? = W.heap[B]?
theorem boxed_keptB {W W' : World} {B : Nat} {t : TypeId} {v : Value} (h : Boxed W B t v) (hk : KB B W W') : Boxed W' B t v := Eq.trans hk h
theorem boxed_below {W W' : World} {B : Nat} {t : TypeId} {v : Value} (h : Boxed W B t v) (hb : Below W.heap.size W W') : Boxed W' B t v := h.kept (grown_of_below hb none) (by simp)
theorem boxed_own' {β : Type} (B : Nat) (t : TypeId) (v : Value) : Own (fun (_ : β) W => Boxed W B t v) := boxed_own B t (fun _ => v)
theorem cells_new (w : World) (cs : List Value) (t : TypeId) : ∀ j u, cs[j]? = some u → (w.alloc (.cells cs.toArray t)).cell? ((⟨w.heap.size, 0, none⟩ : Addr).add j) = some u := by
 intro j u hj
 rw [add_plain]
 simp only [World.cell?, heap_new]
 simpa using hj
def styluslaw01_runs.f (a0 : ByteArray) : Option (List S27 × Bool) := if a0.size ≤ 1000000 then some (runsL a0 a0.size 0, true) else none
def caseRuns : List S27 → Int → Int → Bool → Option (Int × Int × Bool)
 | [], sm, rs, fi => some (sm, rs, fi)
 | x :: xs, sm, rs, fi =>
  if classP (bt x.f1 0) = 1 then caseRuns xs (sm + x.f1.size) rs fi
  else if classP (bt x.f1 0) = 2 then (if x.f0 = 0 then caseRuns xs sm (rs + x.f1.size - 1) true else caseRuns xs sm (rs + x.f1.size) fi)
  else none
def caseOut (s : ByteArray) : Option (Int × Int × Bool) → Int
 | none => 0
 | some (sm, rs, fi) => if s.size = 0 then 0 else if sm = s.size then 1 else if fi = true ∧ rs = 0 then 2 else if sm = 0 then 3 else 4
theorem boxed_drew {W : World} {B : Nat} {t : TypeId} {v : Value} (h : Boxed W B t v) : Boxed W.drew B t v := h
theorem empty_size (s : ByteArray) : s.toList.isEmpty = decide (s.size = 0) := by
 rw [ByteArray.toList_eq]
 cases h : s.data.toList with
 | nil =>
  have : s.size = 0 := by
   show s.data.size = 0
   rw [← Array.length_toList, h]; rfl
  rw [this]; rfl
 | cons a l =>
  have : s.size = l.length + 1 := by
   show s.data.size = _
   rw [← Array.length_toList, h]; rfl
  rw [this]; rfl
def chars_Case.f (a0 : ByteArray) : Option Int := if a0.size ≤ 1000000 then some (caseOut a0 (caseRuns (runsL a0 a0.size 0) 0 0 false)) else none
end Go.Proofs.Ythcmfjpheanphaa.Pr
namespace Go.Proofs.Ythcmfjpheanphaa.Pr
open Go.RowKit Go.Proofs.YthcmfjpheanphaaW.PrintWords Go.Proofs.YthcmfjpheanphaaW.PrintLast Go.Proofs.YthcmfjpheanphaaW.PrintMore
attribute [local go_sem] max2_int min2_int max_two min_two max_three min_three max_four min_four
attribute [local go_sem high] eqA27
def chars_Marks.f  : Option (ByteArray) := some (⟨#[46, 44, 59, 58, 33, 63, 39, 34, 45, 40, 41, 47]⟩ : ByteArray)
def styluslaw01_same.l0 : Nat → List (S27) → List (S27) → Int → Option (Bool)
 | 0, _, _, _ => none
 | k + 1, x0, x1, x5 => if x5 < (x0.length : Int) then (if 0 ≤ x5 then (if x5 < (x1.length : Int) then (if (!(((rd_T27 x0 x5).f0) == ((rd_T27 x1 x5).f0)) || (!((((rd_T27 x0 x5).f1).toList) == (((rd_T27 x1 x5).f1).toList)))) = true then (some false) else (styluslaw01_same.l0 k x0 x1 (wrap64 (x5 + 1)))) else (none)) else (none)) else (some true)
def styluslaw01_same.f (k : Nat) (l0 : List (S27)) (l1 : List (S27)) : Option (Bool) := if (l0.length : Int) = (l1.length : Int) then (styluslaw01_same.l0 k l0 l1 0) else (some false)
theorem styluslaw01_same.mono_l : ∀ k, (∀ y0 y1 y2, LeO (styluslaw01_same.l0 k y0 y1 y2) (styluslaw01_same.l0 (k + 1) y0 y1 y2))
 | 0 => fun _ _ _ r h => by simp [styluslaw01_same.l0] at h
 | k + 1 => by
  have ih0 := styluslaw01_same.mono_l k
  ·intro y0 y1 y2
   unfold styluslaw01_same.l0
   repeat' first
   | (with_reducible exact ih0 _ _ _)
   | (with_reducible exact LeO.refl _)
   | (with_reducible exact LeO.none _)
   | (with_reducible refine LeO.ite ?_ ?_)
   | (with_reducible refine LeO.bind ?_ (fun _ => ?_))
   | exact ih0 _ _ _
   | exact LeO.none _
   | refine LeO.ite ?_ ?_
   | refine LeO.bind ?_ (fun _ => ?_)
theorem styluslaw01_same.mono : ∀ a0 a1 k, LeO (styluslaw01_same.f k a0 a1) (styluslaw01_same.f (k + 1) a0 a1) := by
 intro a0 a1 k
 have ih0 := styluslaw01_same.mono_l k
 unfold styluslaw01_same.f
 repeat' first
   | (with_reducible exact ih0 _ _ _)
   | (with_reducible exact LeO.refl _)
   | (with_reducible exact LeO.none _)
   | (with_reducible refine LeO.ite ?_ ?_)
   | (with_reducible refine LeO.bind ?_ (fun _ => ?_))
   | exact ih0 _ _ _
   | exact LeO.none _
   | refine LeO.ite ?_ ?_
   | refine LeO.bind ?_ (fun _ => ?_)
def chars_Lower.f (a0 : Int) : Option (Int) := (chars_Class.f a0).bind fun t103 => (if t103 = 2 then (some (Go.bits .or .u8 a0 32)) else (some a0))
def chars_Upper.f (a0 : Int) : Option (Int) := (chars_Class.f a0).bind fun t104 => (if t104 = 1 then (some (Go.bits .andNot .u8 a0 32)) else (some a0))
def styluslaw01_awake.f (k : Nat)  : Option (Bool) := (styluslaw01_runs.f (⟨#[97, 98, 49, 46, 50]⟩ : ByteArray)).bind fun bt105 => ((chars_Class.f 97).bind fun t109 => (if t109 = 1 then ((chars_Class.f 90).bind fun t110 => (if t110 = 2 then ((chars_Class.f 55).bind fun t111 => (if t111 = 3 then ((chars_Class.f 47).bind fun t112 => (if t112 = 4 then ((chars_Class.f 32).bind fun t113 => (if t113 = 5 then ((chars_Class.f 10).bind fun t114 => (if t114 = 6 then ((chars_Class.f 123).bind fun t115 => (if t115 = 0 then ((chars_Lower.f 81).bind fun t116 => (if t116 = 113 then ((chars_Upper.f 113).bind fun t117 => (if t117 = 81 then ((chars_Lower.f 63).bind fun t118 => (if t118 = 63 then ((chars_Case.f (⟨#[97, 98]⟩ : ByteArray)).bind fun t119 => (if t119 = 1 then ((chars_Case.f (⟨#[65, 98]⟩ : ByteArray)).bind fun t120 => (if t120 = 2 then ((chars_Case.f (⟨#[65]⟩ : ByteArray)).bind fun t121 => (if t121 = 2 then ((chars_Case.f (⟨#[65, 66]⟩ : ByteArray)).bind fun t122 => (if t122 = 3 then ((chars_Case.f (⟨#[97, 66]⟩ : ByteArray)).bind fun t123 => (if t123 = 4 then ((chars_Case.f (⟨#[97, 49]⟩ : ByteArray)).bind fun t124 => (if t124 = 0 then ((chars_Case.f (⟨#[]⟩ : ByteArray)).bind fun t125 => (if t125 = 0 then (if bt105.2 = true then ((styluslaw01_same.f k bt105.1 (([(⟨0, (⟨#[97, 98]⟩ : ByteArray)⟩ : S27), (⟨2, (⟨#[49]⟩ : ByteArray)⟩ : S27), (⟨3, (⟨#[46]⟩ : ByteArray)⟩ : S27), (⟨4, (⟨#[50]⟩ : ByteArray)⟩ : S27)] : List (S27)))).bind fun t129 => (some t129)) else (some false)) else (some false))) else (some false))) else (some false))) else (some false))) else (some false))) else (some false))) else (some false))) else (some false))) else (some false))) else (some false))) else (some false))) else (some false))) else (some false))) else (some false))) else (some false))) else (some false))) else (some false)))
theorem styluslaw01_awake.mono : ∀ k, LeO (styluslaw01_awake.f k ) (styluslaw01_awake.f (k + 1) ) := by
 intro  k
 unfold styluslaw01_awake.f
 repeat' first
   | (with_reducible exact styluslaw01_same.mono _ _ _)
   | (with_reducible exact LeO.refl _)
   | (with_reducible exact LeO.none _)
   | (with_reducible refine LeO.ite ?_ ?_)
   | (with_reducible refine LeO.bind ?_ (fun _ => ?_))
   | exact styluslaw01_same.mono _ _ _
   | exact LeO.none _
   | refine LeO.ite ?_ ?_
   | refine LeO.bind ?_ (fun _ => ?_)
def stylusref01_Marks.f  : Option (ByteArray) := some (⟨#[46, 44, 59, 58, 33, 63, 39, 34, 45, 40, 41, 47]⟩ : ByteArray)
end Go.Proofs.Ythcmfjpheanphaa.Pr
namespace Go.Proofs.Ythcmfjpheanphaa.Pr
open Go.RowKit Go.Proofs.YthcmfjpheanphaaW.PrintWords Go.Proofs.YthcmfjpheanphaaW.PrintLast Go.Proofs.YthcmfjpheanphaaW.PrintMore
attribute [local go_sem] max2_int min2_int max_two min_two max_three min_three max_four min_four
mutual
def stylusref01_Class.j0 : Nat → Int → Bool → Option (Int)
 | 0, _, _ => none
 | k + 1, x0, x10 => if x10 = true then (some 1) else (if x0 ≥ 65 then (stylusref01_Class.j1 k x0 (decide (x0 ≤ 90))) else (stylusref01_Class.j1 k x0 false))
def stylusref01_Class.j1 : Nat → Int → Bool → Option (Int)
 | 0, _, _ => none
 | k + 1, x0, x16 => if x16 = true then (some 2) else (if x0 ≥ 48 then (stylusref01_Class.j2 k x0 (decide (x0 ≤ 57))) else (stylusref01_Class.j2 k x0 false))
def stylusref01_Class.j2 : Nat → Int → Bool → Option (Int)
 | 0, _, _ => none
 | k + 1, x0, x22 => if x22 = true then (some 3) else (if x0 = 32 then (some 5) else (if x0 = 10 then (some 6) else ((stylusref01_Marks.f).bind fun t130 => (stylusref01_Class.l0 k x0 t130 0))))
def stylusref01_Class.l0 : Nat → Int → ByteArray → Int → Option (Int)
 | 0, _, _, _ => none
 | k + 1, x0, x3, x4 => if x4 < (x3.size : Int) then (if 0 ≤ x4 then (if (bt x3 x4) = x0 then (some 4) else (stylusref01_Class.l0 k x0 x3 (wrap64 (x4 + 1)))) else (none)) else (some 0)
end
def stylusref01_Class.f (k : Nat) (a0 : Int) : Option (Int) := if a0 ≥ 97 then (stylusref01_Class.j0 k a0 (decide (a0 ≤ 122))) else (stylusref01_Class.j0 k a0 false)
theorem stylusref01_Class.mono_l : ∀ k, (∀ y0 y1, LeO (stylusref01_Class.j0 k y0 y1) (stylusref01_Class.j0 (k + 1) y0 y1)) ∧ (∀ y0 y1, LeO (stylusref01_Class.j1 k y0 y1) (stylusref01_Class.j1 (k + 1) y0 y1)) ∧ (∀ y0 y1, LeO (stylusref01_Class.j2 k y0 y1) (stylusref01_Class.j2 (k + 1) y0 y1)) ∧ (∀ y0 y1 y2, LeO (stylusref01_Class.l0 k y0 y1 y2) (stylusref01_Class.l0 (k + 1) y0 y1 y2))
 | 0 => ⟨fun _ _ r h => by simp [stylusref01_Class.j0] at h, fun _ _ r h => by simp [stylusref01_Class.j1] at h, fun _ _ r h => by simp [stylusref01_Class.j2] at h, fun _ _ _ r h => by simp [stylusref01_Class.l0] at h⟩
 | k + 1 => by
  obtain ⟨ih0, ih1, ih2, ih3⟩ := stylusref01_Class.mono_l k
  refine ⟨?_, ?_, ?_, ?_⟩
  ·intro y0 y1
   unfold stylusref01_Class.j0
   repeat' first
   | (with_reducible exact ih0 _ _)
   | (with_reducible exact ih1 _ _)
   | (with_reducible exact ih2 _ _)
   | (with_reducible exact ih3 _ _ _)
   | (with_reducible exact LeO.refl _)
   | (with_reducible exact LeO.none _)
   | (with_reducible refine LeO.ite ?_ ?_)
   | (with_reducible refine LeO.bind ?_ (fun _ => ?_))
   | exact ih0 _ _
   | exact ih1 _ _
   | exact ih2 _ _
   | exact ih3 _ _ _
   | exact LeO.none _
   | refine LeO.ite ?_ ?_
   | refine LeO.bind ?_ (fun _ => ?_)
  ·intro y0 y1
   unfold stylusref01_Class.j1
   repeat' first
   | (with_reducible exact ih0 _ _)
   | (with_reducible exact ih1 _ _)
   | (with_reducible exact ih2 _ _)
   | (with_reducible exact ih3 _ _ _)
   | (with_reducible exact LeO.refl _)
   | (with_reducible exact LeO.none _)
   | (with_reducible refine LeO.ite ?_ ?_)
   | (with_reducible refine LeO.bind ?_ (fun _ => ?_))
   | exact ih0 _ _
   | exact ih1 _ _
   | exact ih2 _ _
   | exact ih3 _ _ _
   | exact LeO.none _
   | refine LeO.ite ?_ ?_
   | refine LeO.bind ?_ (fun _ => ?_)
  ·intro y0 y1
   unfold stylusref01_Class.j2
   repeat' first
   | (with_reducible exact ih0 _ _)
   | (with_reducible exact ih1 _ _)
   | (with_reducible exact ih2 _ _)
   | (with_reducible exact ih3 _ _ _)
   | (with_reducible exact LeO.refl _)
   | (with_reducible exact LeO.none _)
   | (with_reducible refine LeO.ite ?_ ?_)
   | (with_reducible refine LeO.bind ?_ (fun _ => ?_))
   | exact ih0 _ _
   | exact ih1 _ _
   | exact ih2 _ _
   | exact ih3 _ _ _
   | exact LeO.none _
   | refine LeO.ite ?_ ?_
   | refine LeO.bind ?_ (fun _ => ?_)
  ·intro y0 y1 y2
   unfold stylusref01_Class.l0
   repeat' first
   | (with_reducible exact ih0 _ _)
   | (with_reducible exact ih1 _ _)
   | (with_reducible exact ih2 _ _)
   | (with_reducible exact ih3 _ _ _)
   | (with_reducible exact LeO.refl _)
   | (with_reducible exact LeO.none _)
   | (with_reducible refine LeO.ite ?_ ?_)
   | (with_reducible refine LeO.bind ?_ (fun _ => ?_))
   | exact ih0 _ _
   | exact ih1 _ _
   | exact ih2 _ _
   | exact ih3 _ _ _
   | exact LeO.none _
   | refine LeO.ite ?_ ?_
   | refine LeO.bind ?_ (fun _ => ?_)
theorem stylusref01_Class.mono : ∀ a0 k, LeO (stylusref01_Class.f k a0) (stylusref01_Class.f (k + 1) a0) := by
 intro a0 k
 obtain ⟨ih0, ih1, ih2, ih3⟩ := stylusref01_Class.mono_l k
 unfold stylusref01_Class.f
 repeat' first
   | (with_reducible exact ih0 _ _)
   | (with_reducible exact ih1 _ _)
   | (with_reducible exact ih2 _ _)
   | (with_reducible exact ih3 _ _ _)
   | (with_reducible exact LeO.refl _)
   | (with_reducible exact LeO.none _)
   | (with_reducible refine LeO.ite ?_ ?_)
   | (with_reducible refine LeO.bind ?_ (fun _ => ?_))
   | exact ih0 _ _
   | exact ih1 _ _
   | exact ih2 _ _
   | exact ih3 _ _ _
   | exact LeO.none _
   | refine LeO.ite ?_ ?_
   | refine LeO.bind ?_ (fun _ => ?_)
def stylusref01_Lower.f (k : Nat) (a0 : Int) : Option (Int) := (stylusref01_Class.f k a0).bind fun t131 => (if t131 = 2 then (some ((((a0 - 65) % 256) + 97) % 256)) else (some a0))
theorem stylusref01_Lower.mono : ∀ a0 k, LeO (stylusref01_Lower.f k a0) (stylusref01_Lower.f (k + 1) a0) := by
 intro a0 k
 unfold stylusref01_Lower.f
 repeat' first
   | (with_reducible exact stylusref01_Class.mono _ _)
   | (with_reducible exact LeO.refl _)
   | (with_reducible exact LeO.none _)
   | (with_reducible refine LeO.ite ?_ ?_)
   | (with_reducible refine LeO.bind ?_ (fun _ => ?_))
   | exact stylusref01_Class.mono _ _
   | exact LeO.none _
   | refine LeO.ite ?_ ?_
   | refine LeO.bind ?_ (fun _ => ?_)
def stylusref01_Low.l0 : Nat → ByteArray → List Int → Int → Option (ByteArray)
 | 0, _, _, _ => none
 | k + 1, x0, x3, x4 => if x4 < (x0.size : Int) then (if 0 ≤ x4 then ((stylusref01_Lower.f k (bt x0 x4)).bind fun t132 => (if x3.length < 140737488355328 then (stylusref01_Low.l0 k x0 (x3 ++ [t132]) (wrap64 (x4 + 1))) else (none))) else (none)) else (some (strOfNums x3))
def stylusref01_Low.f (k : Nat) (a0 : ByteArray) : Option (ByteArray) := stylusref01_Low.l0 k a0 ([] : List Int) 0
theorem stylusref01_Low.mono_l : ∀ k, (∀ y0 y1 y2, LeO (stylusref01_Low.l0 k y0 y1 y2) (stylusref01_Low.l0 (k + 1) y0 y1 y2))
 | 0 => fun _ _ _ r h => by simp [stylusref01_Low.l0] at h
 | k + 1 => by
  have ih0 := stylusref01_Low.mono_l k
  ·intro y0 y1 y2
   unfold stylusref01_Low.l0
   repeat' first
   | (with_reducible exact ih0 _ _ _)
   | (with_reducible exact stylusref01_Lower.mono _ _)
   | (with_reducible exact LeO.refl _)
   | (with_reducible exact LeO.none _)
   | (with_reducible refine LeO.ite ?_ ?_)
   | (with_reducible refine LeO.bind ?_ (fun _ => ?_))
   | exact ih0 _ _ _
   | exact stylusref01_Lower.mono _ _
   | exact LeO.none _
   | refine LeO.ite ?_ ?_
   | refine LeO.bind ?_ (fun _ => ?_)
theorem stylusref01_Low.mono : ∀ a0 k, LeO (stylusref01_Low.f k a0) (stylusref01_Low.f (k + 1) a0) := by
 intro a0 k
 have ih0 := stylusref01_Low.mono_l k
 unfold stylusref01_Low.f
 repeat' first
   | (with_reducible exact ih0 _ _ _)
   | (with_reducible exact stylusref01_Lower.mono _ _)
   | (with_reducible exact LeO.refl _)
   | (with_reducible exact LeO.none _)
   | (with_reducible refine LeO.ite ?_ ?_)
   | (with_reducible refine LeO.bind ?_ (fun _ => ?_))
   | exact ih0 _ _ _
   | exact stylusref01_Lower.mono _ _
   | exact LeO.none _
   | refine LeO.ite ?_ ?_
   | refine LeO.bind ?_ (fun _ => ?_)
def stylusref01_Letter.f (k : Nat) (a0 : Int) : Option (Bool) := (stylusref01_Class.f k a0).bind fun t136 => (if t136 = 1 then (some true) else ((stylusref01_Class.f k a0).bind fun t137 => (some (t137 == 2))))
theorem stylusref01_Letter.mono : ∀ a0 k, LeO (stylusref01_Letter.f k a0) (stylusref01_Letter.f (k + 1) a0) := by
 intro a0 k
 unfold stylusref01_Letter.f
 repeat' first
   | (with_reducible exact stylusref01_Class.mono _ _)
   | (with_reducible exact LeO.refl _)
   | (with_reducible exact LeO.none _)
   | (with_reducible refine LeO.ite ?_ ?_)
   | (with_reducible refine LeO.bind ?_ (fun _ => ?_))
   | exact stylusref01_Class.mono _ _
   | exact LeO.none _
   | refine LeO.ite ?_ ?_
   | refine LeO.bind ?_ (fun _ => ?_)
def chars_Is.f (a0 : Int) : Option (Bool) := (chars_Class.f a0).bind fun t101 => (if t101 = 0 then (some false) else (some (t101 != 6)))
set_option maxHeartbeats 8000000 in
set_option maxRecDepth 100000 in
theorem chars_Is.calls (a0 : Int) (r : Bool) (w : World) (h : chars_Is.f a0 = some r) :
  Calls Try.prog 33 #[.int .u8 a0] w fun e w' => e = .returned (.bool r) ∧ Below w.heap.size w w' := by
 have HB := Aside0.mk (Below.refl w.heap.size w)
 have H : ((chars_Class.f a0).bind fun t101 => (if t101 = 0 then (some false) else (some (t101 != 6)))) = some r := h
 clear h
 replace H := Option.bind_eq_some_iff.mp H
 obtain ⟨t101, A20, H⟩ := H
 replace H : (if t101 = 0 then (some false) else (some (t101 != 6))) = some r := H
 have A2 := Aside0.mk A20
 clear A20
 by_cases c3 : t101 = 0
 ·rw [if_pos c3] at H
  have c3b0 : (t101 == 0) = true := beq_iff_eq.mpr c3
  have c3b1 : (t101 != 0) = false := bne_eq_false_iff_eq.mpr c3
  clear c3
  obtain rfl := Option.some.inj H
  go_enter Try.func33, Try.ntmps33
  go_wp2_with (first | ((with_reducible refine gate_callee (f := 24) rfl ?_); refine goesL_ (some 5) rfl rfl Try.func24 (by kernel_rfl) rfl #[.int .u8 a0] rfl (by (try simp only [List.map_toArray, List.map_cons, List.map_nil]); first | done | rfl | (simp only [List.length_drop, List.length_take]; rfl)) ?_; (with_reducible refine (chars_Class.calls a0 t101 _ A2.out).mono ?_); rintro e w4 ⟨rfl, hb⟩; refine ⟨_, rfl, ?_⟩; have n0_ := Aside0.mk (below_step (by repeat (first | (with_reducible first | exact HB.out | apply below_alloc | apply pw_below_drewN | apply below_drew1) | exact HB.out)) hb); clear HB; have HB := n0_; clear n0_; (try clear hb); (try clear hb2); (try clear hk); (try clear hi)))
  go_ret
  exact ⟨by first | rfl | (simp [errW_none, errW_some] <;> rfl) | (simp [*, errW_none, errW_some] <;> rfl), by repeat (first | (with_reducible first | exact HB.out | apply below_alloc | apply pw_below_drewN | apply below_drew1) | exact HB.out)⟩
 ·rw [if_neg c3] at H
  have c3b0 : (t101 == 0) = false := beq_eq_false_iff_ne.mpr c3
  have c3b1 : (t101 != 0) = true := bne_iff_ne.mpr c3
  obtain rfl := Option.some.inj H
  go_enter Try.func33, Try.ntmps33
  go_wp2_with (first | ((with_reducible refine gate_callee (f := 24) rfl ?_); refine goesL_ (some 5) rfl rfl Try.func24 (by kernel_rfl) rfl #[.int .u8 a0] rfl (by (try simp only [List.map_toArray, List.map_cons, List.map_nil]); first | done | rfl | (simp only [List.length_drop, List.length_take]; rfl)) ?_; (with_reducible refine (chars_Class.calls a0 t101 _ A2.out).mono ?_); rintro e w5 ⟨rfl, hb⟩; refine ⟨_, rfl, ?_⟩; have n0_ := Aside0.mk (below_step (by repeat (first | (with_reducible first | exact HB.out | apply below_alloc | apply pw_below_drewN | apply below_drew1) | exact HB.out)) hb); clear HB; have HB := n0_; clear n0_; (try clear hb); (try clear hb2); (try clear hk); (try clear hi)))
  go_ret
  exact ⟨by first | rfl | (simp [errW_none, errW_some] <;> rfl) | (simp [*, errW_none, errW_some] <;> rfl), by repeat (first | (with_reducible first | exact HB.out | apply below_alloc | apply pw_below_drewN | apply below_drew1) | exact HB.out)⟩
def stylusref01_Is.f (k : Nat) (a0 : Int) : Option (Bool) := (stylusref01_Class.f k a0).bind fun t102 => (if t102 ≥ 1 then ((stylusref01_Class.f k a0).bind fun t103 => (some (decide (t103 ≤ 5)))) else (some false))
theorem stylusref01_Is.mono : ∀ a0 k, LeO (stylusref01_Is.f k a0) (stylusref01_Is.f (k + 1) a0) := by
 intro a0 k
 unfold stylusref01_Is.f
 repeat' first
   | (with_reducible exact stylusref01_Class.mono _ _)
   | (with_reducible exact LeO.refl _)
   | (with_reducible exact LeO.none _)
   | (with_reducible refine LeO.ite ?_ ?_)
   | (with_reducible refine LeO.bind ?_ (fun _ => ?_))
   | exact stylusref01_Class.mono _ _
   | exact LeO.none _
   | refine LeO.ite ?_ ?_
   | refine LeO.bind ?_ (fun _ => ?_)
def chars_White.f (a0 : Int) : Option (Bool) := if a0 = 32 then (some true) else (some (a0 == 10))
set_option maxHeartbeats 8000000 in
set_option maxRecDepth 100000 in
theorem chars_White.calls (a0 : Int) (r : Bool) (w : World) (h : chars_White.f a0 = some r) :
  Calls Try.prog 35 #[.int .u8 a0] w fun e w' => e = .returned (.bool r) ∧ Drawn0 w w' := by
 have H : (if a0 = 32 then (some true) else (some (a0 == 10))) = some r := h
 clear h
 by_cases c2 : a0 = 32
 ·rw [if_pos c2] at H
  have c2b0 : (a0 == 32) = true := beq_iff_eq.mpr c2
  have c2b1 : (a0 != 32) = false := bne_eq_false_iff_eq.mpr c2
  clear c2
  obtain rfl := Option.some.inj H
  go_enter Try.func35, Try.ntmps35
  go_wp2
  go_ret
  exact ⟨by first | rfl | (simp; done) | (simp [*]; done), by repeat (first | exact Drawn0.refl _ | apply Drawn0.step)⟩
 ·rw [if_neg c2] at H
  have c2b0 : (a0 == 32) = false := beq_eq_false_iff_ne.mpr c2
  have c2b1 : (a0 != 32) = true := bne_iff_ne.mpr c2
  obtain rfl := Option.some.inj H
  go_enter Try.func35, Try.ntmps35
  go_wp2
  go_ret
  exact ⟨by first | rfl | (simp; done) | (simp [*]; done), by repeat (first | exact Drawn0.refl _ | apply Drawn0.step)⟩
def chars_Letter.f (a0 : Int) : Option (Bool) := (chars_Class.f a0).bind fun t104 => (if t104 = 1 then (some true) else (some (t104 == 2)))
def stylusref01_Upper.f (k : Nat) (a0 : Int) : Option (Int) := (stylusref01_Class.f k a0).bind fun t105 => (if t105 = 1 then (some ((((a0 - 97) % 256) + 65) % 256)) else (some a0))
theorem stylusref01_Upper.mono : ∀ a0 k, LeO (stylusref01_Upper.f k a0) (stylusref01_Upper.f (k + 1) a0) := by
 intro a0 k
 unfold stylusref01_Upper.f
 repeat' first
   | (with_reducible exact stylusref01_Class.mono _ _)
   | (with_reducible exact LeO.refl _)
   | (with_reducible exact LeO.none _)
   | (with_reducible refine LeO.ite ?_ ?_)
   | (with_reducible refine LeO.bind ?_ (fun _ => ?_))
   | exact stylusref01_Class.mono _ _
   | exact LeO.none _
   | refine LeO.ite ?_ ?_
   | refine LeO.bind ?_ (fun _ => ?_)
def styluslaw01_CharsOf.f (k : Nat) (a0 : Int) : Option (Bool) := (chars_Class.f a0).bind fun t106 => ((stylusref01_Class.f k a0).bind fun t107 => (if t106 = t107 then ((chars_Is.f a0).bind fun t108 => ((stylusref01_Is.f k a0).bind fun t109 => (if (t108 == t109) = true then ((chars_White.f a0).bind fun t110 => (if a0 = 32 then (if (t110 == true) = true then ((chars_Letter.f a0).bind fun t111 => ((stylusref01_Letter.f k a0).bind fun t112 => (if (t111 == t112) = true then ((chars_Lower.f a0).bind fun t113 => ((stylusref01_Lower.f k a0).bind fun t114 => (if t113 = t114 then ((chars_Upper.f a0).bind fun t115 => ((stylusref01_Upper.f k a0).bind fun t116 => (if t115 = t116 then ((chars_Marks.f).bind fun t117 => ((stylusref01_Marks.f).bind fun t118 => (if t117.toList = t118.toList then ((styluslaw01_awake.f k).bind fun t119 => (some t119)) else (some false)))) else (some false)))) else (some false)))) else (some false)))) else (some false)) else (if (t110 == (a0 == 10)) = true then ((chars_Letter.f a0).bind fun t120 => ((stylusref01_Letter.f k a0).bind fun t121 => (if (t120 == t121) = true then ((chars_Lower.f a0).bind fun t122 => ((stylusref01_Lower.f k a0).bind fun t123 => (if t122 = t123 then ((chars_Upper.f a0).bind fun t124 => ((stylusref01_Upper.f k a0).bind fun t125 => (if t124 = t125 then ((chars_Marks.f).bind fun t126 => ((stylusref01_Marks.f).bind fun t127 => (if t126.toList = t127.toList then ((styluslaw01_awake.f k).bind fun t128 => (some t128)) else (some false)))) else (some false)))) else (some false)))) else (some false)))) else (some false)))) else (some false)))) else (some false)))
theorem styluslaw01_CharsOf.mono : ∀ a0 k, LeO (styluslaw01_CharsOf.f k a0) (styluslaw01_CharsOf.f (k + 1) a0) := by
 intro a0 k
 unfold styluslaw01_CharsOf.f
 repeat' first
   | (with_reducible exact styluslaw01_awake.mono _)
   | (with_reducible exact stylusref01_Class.mono _ _)
   | (with_reducible exact stylusref01_Is.mono _ _)
   | (with_reducible exact stylusref01_Letter.mono _ _)
   | (with_reducible exact stylusref01_Lower.mono _ _)
   | (with_reducible exact stylusref01_Upper.mono _ _)
   | (with_reducible exact LeO.refl _)
   | (with_reducible exact LeO.none _)
   | (with_reducible refine LeO.ite ?_ ?_)
   | (with_reducible refine LeO.bind ?_ (fun _ => ?_))
   | exact styluslaw01_awake.mono _
   | exact stylusref01_Class.mono _ _
   | exact stylusref01_Is.mono _ _
   | exact stylusref01_Letter.mono _ _
   | exact stylusref01_Lower.mono _ _
   | exact stylusref01_Upper.mono _ _
   | exact LeO.none _
   | refine LeO.ite ?_ ?_
   | refine LeO.bind ?_ (fun _ => ?_)
def styluslaw01_CharsOf.Pure : Prop := ∀ (a0 : Int), (Lit.int .u8 a0).wf = true → ∃ k, styluslaw01_CharsOf.f k a0 = some true
end Go.Proofs.Ythcmfjpheanphaa.Pr
namespace Go.Det
open Go Go.RowKit
theorem sl_strh {P : Program} {t : TypeId} (h : P.underlying t = some .string) (s : ByteArray) (j : Nat) (hj : j ≤ s.size) (w : World) :
  (Instr.slice t (.string s) none (some (.int .i64 (j : Int))) none).run P w = .ok (.string (s.extract 0 j)) w := by
 simp [Instr.slice, Instr.sliceBounds, Instr.sliceBound, asIntOf, run_underlying h, hj]
theorem sl_strl {P : Program} {t : TypeId} (h : P.underlying t = some .string) (s : ByteArray) (i : Nat) (hi : i ≤ s.size) (w : World) :
  (Instr.slice t (.string s) (some (.int .i64 (i : Int))) none none).run P w = .ok (.string (s.extract i s.size)) w := by
 simp [Instr.slice, Instr.sliceBounds, Instr.sliceBound, asIntOf, run_underlying h, hi]
theorem below_setRow {B : Nat} {w W : World} (h : Below B w W) {g : Nat} (hg : B ≤ g) (cs : Array Value) : Below B w (W.setRow g cs) :=
 h.trans ⟨rfl, rfl, rfl, by simp [World.setRow], fun k hk => by simp only [World.setRow, Array.getElem?_modify]; rw [if_neg (by omega)]⟩
end Go.Det
