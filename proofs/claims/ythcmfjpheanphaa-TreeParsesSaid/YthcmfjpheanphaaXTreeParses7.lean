/- Texts of this seat, one behind the other. -/
import Derived.Lib.ConvBytes
import Derived.Maps.Views
import Derived.WideKeyPair
import Derived.Test.YthcmfjpheanphaaXTreeParses1
import Derived.Test.YthcmfjpheanphaaXTreeParses2
import Derived.Test.YthcmfjpheanphaaXTreeParses3
import Derived.Test.YthcmfjpheanphaaXTreeParses5
import Derived.Test.YthcmfjpheanphaaXTreeParses6
set_option linter.unusedVariables false
set_option linter.unusedSimpArgs false
namespace Go.Proofs.Ythcmfjpheanphaa.Pr
open Go.RowKit Go.Maps Go.Proofs.YthcmfjpheanphaaW.PrintWords
attribute [local go_sem] Oper.semAt_some
theorem info155 : (Try.prog.info? 155).map (fun i => (i.zero, i.size, i.bytes)) = some (some (.agg #[(.int .u8 0), (.int .i64 0), (.int .i64 0), (.int .i64 0), (.bool false), (.int .i64 0), (.int .i64 0)]), 7, 56) := by kernel_rfl
def StepTo (B0 g m : Nat) (s : Bld) (w w' : World) : Prop := ∃ vr vt, BAt w' B0 g m vr vt s ∧ Below B0 w w' ∧ KeepK w w'
theorem row_end {W : World} {B0 g m cr : Nat} {A A' : Option Addr} {vt : Value} {c' : Nat} {r : List Opn} {t : List S56} {x : Opn} {W4 : World}
  (h : BAt W B0 g m (.slice A r.length cr) vt ⟨r, t⟩) (hg : (W.alloc (.cells (cellsO x).toArray 155)).grownBy W4 (Value.slice A r.length cr).ownBlock)
  (ho : W4.ownsRow B0 155 7 (.slice A' (r.length + 1) c') (r.length + 1) (flatO r ++ cellsO x)) (hB : B0 ≤ W.heap.size) :
  W4.heap[g]? = some (.cells #[.slice A r.length cr, vt, .map (some m)] 104 (0, 0)) ∧
  BAt (W4.setCell ⟨g, 0, none⟩ (.slice A' (r.length + 1) c')) B0 g m (.slice A' (r.length + 1) c') vt ⟨r ++ [x], t⟩ ∧
  (Below B0 W (W4.setCell ⟨g, 0, none⟩ (.slice A' (r.length + 1) c')) ∧ KeepK W (W4.setCell ⟨g, 0, none⟩ (.slice A' (r.length + 1) c'))) := by
 have hrow : W.ownsRow B0 155 7 (.slice A r.length cr) r.length (flatO r) := h.row
 have hne : some g ≠ (Value.slice A r.length cr).ownBlock := own_ne hrow h.blk (by decide)
 have hb4 : W4.heap[g]? = some (.cells #[.slice A r.length cr, vt, .map (some m)] 104 (0, 0)) := blk_grown (blk_alloc h.blk _) hg hne
 have hblk : (W4.setCell ⟨g, 0, none⟩ (.slice A' (r.length + 1) c')).heap[g]? = some (.cells #[.slice A' (r.length + 1) c', vt, .map (some m)] 104 (0, 0)) := blk_put hb4 0 _ rfl
 have htr := own_type_ne h.t hrow (by decide)
 have ht4 : W4.ownsRow B0 56 4 vt t.length (flat56 t) := own_other (own_alloc h.t _) hg htr
 have hgt := own_ne ht4 hb4 (by decide)
 have hgr := own_ne ho hb4 (by decide)
 obtain ⟨es, clock, hm⟩ := map_obj h.map
 have hmt : some m ≠ (Value.slice A r.length cr).ownBlock := fun e => by
  obtain ⟨cs, hcs⟩ := own_typed hrow m e.symm
  rw [hm] at hcs
  cases hcs
 have hmg : m ≠ g := fun e => by
  subst e
  rw [h.blk] at hm
  cases hm
 refine ⟨hb4, ⟨h.base, hblk, ?_, own_setCell ht4 (p := ⟨g, 0, none⟩) hgt _, map_move h.map fun o ho' => ?_⟩, ?_, ?_⟩
 ·have := own_setCell ho (p := ⟨g, 0, none⟩) hgr (.slice A' (r.length + 1) c')
  show World.ownsRow _ B0 155 7 _ (r ++ [x]).length (flatO (r ++ [x]))
  rw [flatO_snoc, List.length_append]
  exact this
 ·rw [Below.heap_setCell _ _ _ _ hmg]
  exact blk_grown (blk_alloc ho' _) hg hmt
 ·refine Below.setCell ?_ h.base _
  have h1 : Below B0 W (W.alloc (.cells (cellsO x).toArray 155)) := (Below.refl B0 W).alloc hB _
  refine pw_below_grown h1 _ (by simp; omega) hg fun k hk => ?_
  exact own_base hrow k hk
 ·refine KeepK.trans (KeepK.trans (KeepK.below ((Below.refl _ W).alloc (Nat.le_refl _) (.cells (cellsO x).toArray 155))) (KeepK.grown hg fun k hk => ?_)) (KeepK.set (p := ⟨g, 0, none⟩) hb4 rfl _)
  obtain ⟨cs, hcs⟩ := own_typed (own_alloc hrow (.cells (cellsO x).toArray 155)) k hk
  exact ⟨_, hcs, rfl⟩
theorem may_around {r : List Opn} (h : mayP r 110 = true) : ∃ j, aroundP flowK r r.length = some j := by
 unfold mayP at h
 cases ha : aroundP flowK r r.length with
 | some j => exact ⟨j, rfl⟩
 | none => rw [ha] at h; simp at h
theorem StepTo.mk' {B0 g m : Nat} {s : Bld} {w w' : World} {vr vt : Value} (h : BAt w' B0 g m vr vt s) (h1 : Below B0 w w') (h2 : KeepK w w') : StepTo B0 g m s w w' := ⟨vr, vt, h, h1, h2⟩
theorem below_low {B0 : Nat} {w w' : World} (h : Below w.heap.size w w') (hB : B0 ≤ w.heap.size) : Below B0 w w' := ⟨h.os, h.tape, h.output, h.size, fun i hi => h.block i (by omega)⟩
set_option pp.maxSteps 3000 in
set_option maxRecDepth 100000 in
set_option maxHeartbeats 8000000 in
theorem opens_calls (B0 g m : Nat) (vr vt : Value) (s : Bld) (x : S47) (w : World) (hB0 : B0 ≤ w.heap.size) (hk0 : 0 ≤ x.f1) (hk1 : x.f1 ≤ 255) (hn : s.row.length ≤ 999999) (hnt : s.t.length ≤ 999999) (hkb : KindsB s.row) (hb : BAt w B0 g m vr vt s) :
  Calls Try.prog 93 #[.pointer (some ⟨g, 0, none⟩), .agg #[.int .i64 x.f0, .int .u8 x.f1, .string x.f2, .int .i64 x.f3]] w fun e w' =>
   e = .returned (.tuple #[.int .i64 (opensP s x).2.1, .int .i64 (opensP s x).2.2]) ∧ StepTo B0 g m (opensP s x).1 w w' := by
 obtain ⟨f0, k, f2, f3⟩ := x
 simp only at hk0 hk1
 obtain ⟨A, c, rfl⟩ := own_slice hb.row
 have hb1 : Below w.heap.size w (w.alloc (.cells #[.int .i64 f0, .int .u8 k, .string f2, .int .i64 f3] 47)) := (Below.refl _ w).alloc (Nat.le_refl _) _
 have hx := blk_new w (.cells #[.int .i64 f0, .int .u8 k, .string f2, .int .i64 f3] 47)
 have hbx := hb.below hb1
 obtain ⟨w1, hw1⟩ : ∃ w1, w.alloc (.cells #[.int .i64 f0, .int .u8 k, .string f2, .int .i64 f3] 47) = w1 := ⟨_, rfl⟩
 rw [hw1] at hb1 hx hbx
 have hx1 := blk_cell hx 1
 simp only [List.getElem?_toArray, List.getElem?_cons_succ, List.getElem?_cons_zero] at hx1
 have hmay := fun W (hW : BAt W B0 g m (.slice A s.row.length c) vt s) => may_calls B0 g m _ vt s k W hk0 hk1 (by omega) hkb hW
 have HM := Lib.hid hmay
 have HROW := Lib.hid hb.row
 have HB := Lib.hid hbx
 have HB1 := Lib.hid hb1
 have HX := Lib.hid hx
 have HKB := Lib.hid hkb
 clear hb hb1 hx hbx hmay hkb
 cases hmm : mayP s.row k with
 | false =>
  have hP : opensP s ⟨f0, k, f2, f3⟩ = (s, f3, 2) := by unfold opensP; simp only [hmm]; rfl
  have HP := Lib.hid hP
  rw [hmm] at HM
  clear hP
  have HMM := Lib.hid hmm
  clear hmm
  go_enter Try.func93, Try.ntmps93
  go_wp2_with (go_at_call 104; refine (HM.out _ HB.out).mono ?_; rintro e w2 ⟨rfl, hb2⟩; have cx3 := blk_cell (blk_below HX.out hb2) 3; simp only [List.getElem?_toArray, List.getElem?_cons_succ, List.getElem?_cons_zero] at cx3)
  go_ret2
  refine ⟨by rw [HP.out]; rfl, ?_⟩
  rw [HP.out]
  exact StepTo.mk' (HB.out.below hb2) (below_low (HB1.out.trans (hb2.mono HB1.out.size)) hB0) (KeepK.below (HB1.out.trans (hb2.mono HB1.out.size)))
 | true =>
  have HMM := Lib.hid hmm
  rw [hmm] at HM
  clear hmm
  have hkc : (k == 110) = false ∧ (k == 108) = false ∨ (k == 110) = true ∨ (k == 110) = false ∧ (k == 108) = true := by
   simp only [beq_eq_false_iff_ne, beq_iff_eq]; omega
  rcases hkc with ⟨k1, k2⟩ | k1 | ⟨k1, k2⟩
  ·go_enter Try.func93, Try.ntmps93
   go_wp2_with (go_at_call 104; (with_reducible refine (HM.out _ HB.out).mono ?_); rintro e w2 ⟨rfl, hb2⟩; have cx1 := blk_cell (blk_below HX.out hb2) 1; have cx3 := blk_cell (blk_below HX.out hb2) 3; simp only [List.getElem?_toArray, List.getElem?_cons_succ, List.getElem?_cons_zero] at cx1 cx3)
   have HW2 := Lib.hid (HB1.out.trans (hb2.mono HB1.out.size))
   have HS := Lib.hid (show BAt w2 B0 g m (.slice A s.row.length c) vt ⟨markP s.row k, s.t⟩ ∧ Below B0 w w2 ∧ KeepK w w2 from by
    rw [show markP s.row k = s.row from by unfold markP; rw [if_neg (beq_eq_false_iff_ne.1 k1), if_neg (beq_eq_false_iff_ne.1 k2)]]
    exact ⟨HB.out.below hb2, below_low HW2.out hB0, KeepK.below HW2.out⟩)
   have HX1 := Lib.hid (blk_below HX.out hb2)
   obtain ⟨W1, hW1⟩ : ∃ W1, w2 = W1 := ⟨_, rfl⟩
   rw [hW1] at HS HX1 ⊢
   clear hW1 cx1 cx3
   refine (add_calls B0 g m (.slice A s.row.length c) vt ⟨markP s.row k, s.t⟩ ⟨k, ⟨#[]⟩, f3, 1⟩ W1 (Nat.le_trans hB0 HS.out.2.1.size) (by rw [markP_length]; omega) (by show s.t.length ≤ _; omega) HS.out.1).mono ?_
   rintro e W2 ⟨rfl, vt2, hbb, hl2, hk2⟩
   replace hbb : BAt W2 B0 g m (.slice A s.row.length c) vt2 ⟨kidP (markP s.row k), s.t ++ [⟨k, ⟨#[]⟩, f3, 1⟩]⟩ := hbb
   obtain ⟨E, hE⟩ : ∃ E, (addP ⟨markP s.row k, s.t⟩ ⟨k, ⟨#[]⟩, f3, 1⟩).2 = E := ⟨_, rfl⟩
   rw [hE]
   have HE := Lib.hid (show (if 2000 < s.t.length + 1 then (4 : Int) else 0) = E from hE)
   obtain ⟨At, ct, rfl⟩ := own_slice hbb.t
   have hT : (s.t ++ [⟨k, ⟨#[]⟩, f3, 1⟩] : List S56).length = s.t.length + 1 := by simp
   have hR : (kidP (markP s.row k)).length = s.row.length := by rw [kidP_length, markP_length]
   have hfold : BAt W2 B0 g m (.slice A s.row.length c) (.slice At (s.t.length + 1) ct) ⟨kidP (markP s.row k), s.t ++ [⟨k, ⟨#[]⟩, f3, 1⟩]⟩ := by have := hbb; rw [hT] at this; exact this
   have hX2 : W2.heap[w.heap.size]? = some (.cells #[.int .i64 f0, .int .u8 k, .string f2, .int .i64 f3] 47 (0, 0)) := hk2 _ _ HX1.out rfl
   have hLW : Below B0 w W2 := HS.out.2.1.trans hl2
   have hKW : KeepK w W2 := HS.out.2.2.trans hk2
   obtain ⟨r1, hr1⟩ : ∃ r1, kidP (markP s.row k) = r1 := ⟨_, rfl⟩
   rw [hr1] at hfold hR
   have HR1 := Lib.hid hr1
   have HLR := Lib.hid hR
   rw [← hR] at hfold
   obtain ⟨W3, hW3⟩ : ∃ W3, W2.drew = W3 := ⟨_, rfl⟩
   have hK3 : BAt W3 B0 g m (.slice A r1.length c) (.slice At (s.t.length + 1) ct) ⟨r1, s.t ++ [⟨k, ⟨#[]⟩, f3, 1⟩]⟩ := by rw [← hW3]; exact hfold.below (below_drew1 (Below.refl _ _))
   have hX3 : W3.heap[w.heap.size]? = some (.cells #[.int .i64 f0, .int .u8 k, .string f2, .int .i64 f3] 47 (0, 0)) := by rw [← hW3]; exact hX2
   have hL3 : Below B0 w W3 := by rw [← hW3]; exact below_drew1 hLW
   have hE3 : KeepK w W3 := by rw [← hW3]; exact hKW.drew
   have hs3 : w.heap.size < W3.heap.size := blk_lt hX3
   have c1 := blk_cell hX2 1
   have d0 := blk_cell hfold.blk 0
   have d1 := blk_cell hfold.blk 1
   simp only [List.getElem?_toArray, List.getElem?_cons_succ, List.getElem?_cons_zero] at c1 d0 d1
   have hrl : r1.length ≤ 999999 := by omega
   have HK3 := Lib.hid hK3
   have HL3 := Lib.hid hL3
   have HE3 := Lib.hid hE3
   have HX3 := Lib.hid hX3
   have HC := Lib.hid (And.intro c1 (And.intro d0 d1))
   clear hE hT hR hr1 hfold hbb hX2 hLW hKW hK3 hX3 hL3 hE3 c1 d0 d1 HS HX1 hl2 hk2 hb2 HX HB1
   go_wp2_with fail
   refine Go.Mix.region_mix' (fun b W => W = (bif b then W3.alloc (.cells #[.int .u8 k, .int .i64 s.t.length, .int .i64 0, .int .i64 0, .bool false, .int .i64 0, .int .i64 0] 155) else W3)) 14 15 [0] (by kernel_rfl) (by kernel_rfl) (fun _ _ _ _ _ h => h) hW3 ?_
   clear hW3
   refine Go.Mix.seqE_cons (t' := #[_, _, _, _, _, _, _, _, _, _, _, _, _, _, _, _, _, _, _, _, _, _, _, _, _, _, _, _, _, _, _, _, _, _, _, _, _, _, _, _, _, _, _, _, _, _, _, _, _, _, _, _, _, _, _, _, _, _, _, _, _, _, _, _, _, _, _, _, _, _, _, _, _, _, _, _, _, _, _, _]) _ (.pointer (some ⟨g, 0, none⟩)) rfl rfl (fun w' => rfl) rfl ?_
   refine Go.Mix.seqE_nil ?_
   refine Go.Mix.seqM_skip (by rfl) ?_
   repeat
    apply Go.Mix.seqM_cons (by rfl) (by rfl)
    focus
     intro b W hS
     have hB : Below W3.heap.size W3 W := by
      rw [hS]
      cases b
      ·exact Below.refl _ _
      ·exact (Below.refl _ _).alloc (Nat.le_refl _) _
     have c1 := blk_cell (blk_below HX3.out hB) 1
     have d0 := blk_cell (HK3.out.below hB).blk 0
     have d1 := blk_cell (HK3.out.below hB).blk 1
     simp only [List.getElem?_toArray, List.getElem?_cons_succ, List.getElem?_cons_zero] at c1 d0 d1
     have HS := Lib.hid hS
     clear hS hB
     go_wp2
     exact Go.Det.AtEnd.mk HS.out
   apply Go.Mix.seqM_main (by rfl)
   focus
    intro W hS
    obtain rfl : W = W3 := hS
    go_wp2
    exact Go.Det.AtEnd.mk rfl
   refine Go.Mix.seqM_nil ?_
   intro W4 hW4
   obtain rfl : W4 = W3.alloc (.cells #[.int .u8 k, .int .i64 s.t.length, .int .i64 0, .int .i64 0, .bool false, .int .i64 0, .int .i64 0] 155) := hW4
   simp only [List.drop_succ_cons, List.drop_zero]
   obtain ⟨i0, hi, hz0, hz1, hz2⟩ := info_parts info155
   go_wp2_with (at_builtin; refine wpList_append_own_at _ rfl _ _ 101 rfl B0 155 i0 (.agg #[(.int .u8 0), (.int .i64 0), (.int .i64 0), (.int .i64 0), (.bool false), (.int .i64 0), (.int .i64 0)]) 7 56 Try.underlying101 hi hz0 hz1 hz2 rfl (by decide) _ _ _ rfl (HK3.out.row.alloc _) _ 1 1 [.int .u8 k, .int .i64 s.t.length, .int .i64 0, .int .i64 0, .bool false, .int .i64 0, .int .i64 0] rfl rfl ?e1a ?e2a ?e3a ?e4a ?e5a ?e6a)
   case e1a => exact cells_newT W3 [.int .u8 k, .int .i64 s.t.length, .int .i64 0, .int .i64 0, .bool false, .int .i64 0, .int .i64 0] 155
   case e2a => simp [Value.oneCell']
   case e3a => unfold maxLen; omega
   case e4a => omega
   case e5a => first | omega | (simp; omega)
   case e6a =>
    intro v' W5 hown' hgrow _ hat
    obtain ⟨A', c', rfl⟩ := own_slice hown'
    have hfin := row_end (x := ⟨k, s.t.length, 0, 0, false, 0, 0⟩) HK3.out hgrow hown' (by omega)
    obtain ⟨hf1, hf2, hf3⟩ := hfin
    have e0 := blk_cell hf1 0
    have z0 := blk_frozen hf1 0
    have e0' := blk_cell hf2.blk 0
    simp only [List.getElem?_toArray, List.getElem?_cons_succ, List.getElem?_cons_zero] at e0 e0'
    have hX5 : (W5.setCell ⟨g, 0, none⟩ (.slice A' (r1.length + 1) c')).heap[w.heap.size]? = some (.cells #[.int .i64 f0, .int .u8 k, .string f2, .int .i64 f3] 47 (0, 0)) := hf3.2 _ _ HX3.out rfl
    have x3 := blk_cell hX5 3
    simp only [List.getElem?_toArray, List.getElem?_cons_succ, List.getElem?_cons_zero] at x3
    have HO : (opensP s ⟨f0, k, f2, f3⟩) = (⟨r1 ++ [⟨k, s.t.length, 0, 0, false, 0, 0⟩], s.t ++ [⟨k, ⟨#[]⟩, f3, 1⟩]⟩, f3, if 32 < s.row.length + 1 ∨ 8 < hasP 108 (r1 ++ [⟨k, s.t.length, 0, 0, false, 0, 0⟩]) then 5 else E) := by
     unfold opensP
     simp only [HMM.out, if_true, HR1.out, HE.out]
    rw [← HLR.out] at HO
    have HO := Lib.hid HO
    have H2 := Lib.hid hf2
    have H3 := Lib.hid (show Below B0 w (W5.setCell ⟨g, 0, none⟩ (.slice A' (r1.length + 1) c')) ∧ KeepK w (W5.setCell ⟨g, 0, none⟩ (.slice A' (r1.length + 1) c')) from ⟨HL3.out.trans hf3.1, HE3.out.trans hf3.2⟩)
    have HX5 := Lib.hid hX5
    have HH := Lib.hid (hasO_calls B0 (.slice A' (r1.length + 1) c') (r1 ++ [⟨k, s.t.length, 0, 0, false, 0, 0⟩]) 108 _ (by rw [List.length_append]; show r1.length + 1 ≤ _; omega) hf2.row)
    clear hf1 hf2 hf3 hown' hgrow hat hX5
    by_cases h32 : 32 < r1.length + 1
    ·have h32' : (32 : Int) < (r1.length : Int) + 1 := by omega
     go_wp2
     go_ret2
     refine ⟨by rw [HO.out, if_pos (.inl h32)]; rfl, ?_⟩
     rw [HO.out]
     exact StepTo.mk' H2.out H3.out.1 H3.out.2
    ·have h32' : ¬ (32 : Int) < (r1.length : Int) + 1 := by omega
     by_cases h8 : 8 < hasP 108 (r1 ++ [⟨k, s.t.length, 0, 0, false, 0, 0⟩])
     ·have h8' : (8 : Int) < (hasP 108 (r1 ++ [⟨k, s.t.length, 0, 0, false, 0, 0⟩]) : Int) := by omega
      go_wp2_with (go_at_call 135; (with_reducible refine HH.out.mono ?_); rintro e w7 ⟨rfl, hb7⟩; have x3' := blk_cell (blk_below HX5.out hb7) 3; simp only [List.getElem?_toArray, List.getElem?_cons_succ, List.getElem?_cons_zero] at x3')
      go_ret2
      refine ⟨by rw [HO.out, if_pos (.inr h8)]; rfl, ?_⟩
      rw [HO.out]
      exact StepTo.mk' (H2.out.below hb7) (H3.out.1.trans (below_low hb7 (Nat.le_trans hB0 H3.out.1.size))) (H3.out.2.trans (KeepK.below hb7))
     ·have h8' : ¬ (8 : Int) < (hasP 108 (r1 ++ [⟨k, s.t.length, 0, 0, false, 0, 0⟩]) : Int) := by omega
      go_wp2_with (go_at_call 135; (with_reducible refine HH.out.mono ?_); rintro e w7 ⟨rfl, hb7⟩; have x3' := blk_cell (blk_below HX5.out hb7) 3; simp only [List.getElem?_toArray, List.getElem?_cons_succ, List.getElem?_cons_zero] at x3')
      go_ret2
      refine ⟨by rw [HO.out, if_neg (fun h => h.elim h32 h8)]; rfl, ?_⟩
      rw [HO.out]
      exact StepTo.mk' (H2.out.below hb7) (H3.out.1.trans (below_low hb7 (Nat.le_trans hB0 H3.out.1.size))) (H3.out.2.trans (KeepK.below hb7))
  ·have HKE := Lib.hid (beq_iff_eq.1 k1)
   obtain ⟨j, hA⟩ := may_around (show mayP s.row 110 = true from HKE.out ▸ HMM.out)
   have hjl := aroundP_lt _ _ _ _ hA
   obtain ⟨gr, ca, hae, hao⟩ := rowO_form HB.out.row (by omega)
   simp only [Value.slice.injEq] at hae
   obtain ⟨rfl, -, rfl⟩ := hae
   have HNE := Lib.hid (show w.heap.size ≠ gr from fun e => by have := own_lt HROW.out gr rfl; omega)
   have hAC := fun W (hW : BAt W B0 g m (.slice (some ⟨gr, 0, none⟩) s.row.length c) vt s) => around_calls B0 _ c s.row _ _ finds_flow W (by omega) HKB.out hW.row
   simp only [hA] at hAC
   have hno := fun W (hW : BAt W B0 g m (.slice (some ⟨gr, 0, none⟩) s.row.length c) vt s) => rowO_cell hW.row j 3 hjl (by omega)
   have hfr := fun W (hW : BAt W B0 g m (.slice (some ⟨gr, 0, none⟩) s.row.length c) vt s) => World.ownsRow.frozenAt hW.row (j * 7 + 3)
   have hse := fun W (hW : BAt W B0 g m (.slice (some ⟨gr, 0, none⟩) s.row.length c) vt s) => hW.setO j 3 hjl (by omega) noteF (.int .i64 (wrap64 ((s.row.getD j zOpn).note + 1))) rfl
   simp only [cellsO, List.getElem?_cons_succ, List.getElem?_cons_zero] at hno
   obtain ⟨nt, hnt⟩ : ∃ nt, (s.row.getD j zOpn).note = nt := ⟨_, rfl⟩
   rw [hnt] at hno hse
   have HAC := Lib.hid hAC
   have HNO := Lib.hid hno
   have HFR := Lib.hid hfr
   have HSE := Lib.hid hse
   have HA := Lib.hid hA
   clear hAC hno hfr hse hnt hA hao
   go_enter Try.func93, Try.ntmps93
   go_wp2_with (first | (go_at_call 104; (with_reducible refine (HM.out _ HB.out).mono ?_); rintro e w2 ⟨rfl, hb2⟩; have cx1 := blk_cell (blk_below HX.out hb2) 1; have cx3 := blk_cell (blk_below HX.out hb2) 3; have d0 := blk_cell (HB.out.below hb2).blk 0; have q0 := HNO.out _ (HB.out.below hb2); have q1 := HFR.out _ (HB.out.below hb2); have cy1 := blk_cell (blk_far (blk_below HX.out hb2) (p := ⟨gr, j * 7 + 3, none⟩) HNE.out (.int .i64 (wrap64 (nt + 1)))) 1; have cy3 := blk_cell (blk_far (blk_below HX.out hb2) (p := ⟨gr, j * 7 + 3, none⟩) HNE.out (.int .i64 (wrap64 (nt + 1)))) 3; simp only [List.getElem?_toArray, List.getElem?_cons_succ, List.getElem?_cons_zero] at cx1 cx3 d0; simp only [List.getElem?_toArray, List.getElem?_cons_succ, List.getElem?_cons_zero] at cy1 cy3) | (go_at_call 133; (with_reducible refine (HAC.out _ (HB.out.below hb2)).mono ?_); rintro e w2 ⟨rfl, rfl⟩; simp only [ptrO]))
   have HW2 := Lib.hid (HB1.out.trans (hb2.mono HB1.out.size))
   have HS := Lib.hid (show BAt (w2.setCell ⟨gr, j * 7 + 3, none⟩ (.int .i64 (wrap64 (nt + 1)))) B0 g m (.slice (some ⟨gr, 0, none⟩) s.row.length c) vt ⟨markP s.row k, s.t⟩ ∧ Below B0 w (w2.setCell ⟨gr, j * 7 + 3, none⟩ (.int .i64 (wrap64 (nt + 1)))) ∧ KeepK w (w2.setCell ⟨gr, j * 7 + 3, none⟩ (.int .i64 (wrap64 (nt + 1)))) from by
    rw [show markP s.row k = s.row.modify j noteF from by unfold markP; rw [if_pos HKE.out, HA.out]]
    obtain ⟨h1, h2, h3⟩ := HSE.out _ (HB.out.below hb2)
    exact ⟨h1, (below_low HW2.out hB0).trans h2, (KeepK.below HW2.out).trans h3⟩)
   have HX1 := Lib.hid (blk_far (blk_below HX.out hb2) (p := ⟨gr, j * 7 + 3, none⟩) HNE.out (.int .i64 (wrap64 (nt + 1))))
   obtain ⟨W1, hW1⟩ : ∃ W1, w2.setCell ⟨gr, j * 7 + 3, none⟩ (.int .i64 (wrap64 (nt + 1))) = W1 := ⟨_, rfl⟩
   rw [hW1] at HS HX1 ⊢
   clear hW1 cx1 cx3 d0 cy1 cy3 q0 q1
   refine (add_calls B0 g m (.slice (some ⟨gr, 0, none⟩) s.row.length c) vt ⟨markP s.row k, s.t⟩ ⟨k, ⟨#[]⟩, f3, 1⟩ W1 (Nat.le_trans hB0 HS.out.2.1.size) (by rw [markP_length]; omega) (by show s.t.length ≤ _; omega) HS.out.1).mono ?_
   rintro e W2 ⟨rfl, vt2, hbb, hl2, hk2⟩
   replace hbb : BAt W2 B0 g m (.slice (some ⟨gr, 0, none⟩) s.row.length c) vt2 ⟨kidP (markP s.row k), s.t ++ [⟨k, ⟨#[]⟩, f3, 1⟩]⟩ := hbb
   obtain ⟨E, hE⟩ : ∃ E, (addP ⟨markP s.row k, s.t⟩ ⟨k, ⟨#[]⟩, f3, 1⟩).2 = E := ⟨_, rfl⟩
   rw [hE]
   have HE := Lib.hid (show (if 2000 < s.t.length + 1 then (4 : Int) else 0) = E from hE)
   obtain ⟨At, ct, rfl⟩ := own_slice hbb.t
   have hT : (s.t ++ [⟨k, ⟨#[]⟩, f3, 1⟩] : List S56).length = s.t.length + 1 := by simp
   have hR : (kidP (markP s.row k)).length = s.row.length := by rw [kidP_length, markP_length]
   have hfold : BAt W2 B0 g m (.slice (some ⟨gr, 0, none⟩) s.row.length c) (.slice At (s.t.length + 1) ct) ⟨kidP (markP s.row k), s.t ++ [⟨k, ⟨#[]⟩, f3, 1⟩]⟩ := by have := hbb; rw [hT] at this; exact this
   have hX2 : W2.heap[w.heap.size]? = some (.cells #[.int .i64 f0, .int .u8 k, .string f2, .int .i64 f3] 47 (0, 0)) := hk2 _ _ HX1.out rfl
   have hLW : Below B0 w W2 := HS.out.2.1.trans hl2
   have hKW : KeepK w W2 := HS.out.2.2.trans hk2
   obtain ⟨r1, hr1⟩ : ∃ r1, kidP (markP s.row k) = r1 := ⟨_, rfl⟩
   rw [hr1] at hfold hR
   have HR1 := Lib.hid hr1
   have HLR := Lib.hid hR
   rw [← hR] at hfold
   obtain ⟨W3, hW3⟩ : ∃ W3, W2.drew = W3 := ⟨_, rfl⟩
   have hK3 : BAt W3 B0 g m (.slice (some ⟨gr, 0, none⟩) r1.length c) (.slice At (s.t.length + 1) ct) ⟨r1, s.t ++ [⟨k, ⟨#[]⟩, f3, 1⟩]⟩ := by rw [← hW3]; exact hfold.below (below_drew1 (Below.refl _ _))
   have hX3 : W3.heap[w.heap.size]? = some (.cells #[.int .i64 f0, .int .u8 k, .string f2, .int .i64 f3] 47 (0, 0)) := by rw [← hW3]; exact hX2
   have hL3 : Below B0 w W3 := by rw [← hW3]; exact below_drew1 hLW
   have hE3 : KeepK w W3 := by rw [← hW3]; exact hKW.drew
   have hs3 : w.heap.size < W3.heap.size := blk_lt hX3
   have c1 := blk_cell hX2 1
   have d0 := blk_cell hfold.blk 0
   have d1 := blk_cell hfold.blk 1
   simp only [List.getElem?_toArray, List.getElem?_cons_succ, List.getElem?_cons_zero] at c1 d0 d1
   have hrl : r1.length ≤ 999999 := by omega
   have HK3 := Lib.hid hK3
   have HL3 := Lib.hid hL3
   have HE3 := Lib.hid hE3
   have HX3 := Lib.hid hX3
   have HC := Lib.hid (And.intro c1 (And.intro d0 d1))
   clear hE hT hR hr1 hfold hbb hX2 hLW hKW hK3 hX3 hL3 hE3 c1 d0 d1 HS HX1 hl2 hk2 hb2 HX HB1
   go_wp2_with fail
   refine Go.Mix.region_mix' (fun b W => W = (bif b then W3.alloc (.cells #[.int .u8 k, .int .i64 s.t.length, .int .i64 0, .int .i64 0, .bool false, .int .i64 0, .int .i64 0] 155) else W3)) 14 15 [0] (by kernel_rfl) (by kernel_rfl) (fun _ _ _ _ _ h => h) hW3 ?_
   clear hW3
   refine Go.Mix.seqE_cons (t' := #[_, _, _, _, _, _, _, _, _, _, _, _, _, _, _, _, _, _, _, _, _, _, _, _, _, _, _, _, _, _, _, _, _, _, _, _, _, _, _, _, _, _, _, _, _, _, _, _, _, _, _, _, _, _, _, _, _, _, _, _, _, _, _, _, _, _, _, _, _, _, _, _, _, _, _, _, _, _, _, _]) _ (.pointer (some ⟨g, 0, none⟩)) rfl rfl (fun w' => rfl) rfl ?_
   refine Go.Mix.seqE_nil ?_
   refine Go.Mix.seqM_skip (by rfl) ?_
   repeat
    apply Go.Mix.seqM_cons (by rfl) (by rfl)
    focus
     intro b W hS
     have hB : Below W3.heap.size W3 W := by
      rw [hS]
      cases b
      ·exact Below.refl _ _
      ·exact (Below.refl _ _).alloc (Nat.le_refl _) _
     have c1 := blk_cell (blk_below HX3.out hB) 1
     have d0 := blk_cell (HK3.out.below hB).blk 0
     have d1 := blk_cell (HK3.out.below hB).blk 1
     simp only [List.getElem?_toArray, List.getElem?_cons_succ, List.getElem?_cons_zero] at c1 d0 d1
     have HS := Lib.hid hS
     clear hS hB
     go_wp2
     exact Go.Det.AtEnd.mk HS.out
   apply Go.Mix.seqM_main (by rfl)
   focus
    intro W hS
    obtain rfl : W = W3 := hS
    go_wp2
    exact Go.Det.AtEnd.mk rfl
   refine Go.Mix.seqM_nil ?_
   intro W4 hW4
   obtain rfl : W4 = W3.alloc (.cells #[.int .u8 k, .int .i64 s.t.length, .int .i64 0, .int .i64 0, .bool false, .int .i64 0, .int .i64 0] 155) := hW4
   simp only [List.drop_succ_cons, List.drop_zero]
   obtain ⟨i0, hi, hz0, hz1, hz2⟩ := info_parts info155
   go_wp2_with (at_builtin; refine wpList_append_own_at _ rfl _ _ 101 rfl B0 155 i0 (.agg #[(.int .u8 0), (.int .i64 0), (.int .i64 0), (.int .i64 0), (.bool false), (.int .i64 0), (.int .i64 0)]) 7 56 Try.underlying101 hi hz0 hz1 hz2 rfl (by decide) _ _ _ rfl (HK3.out.row.alloc _) _ 1 1 [.int .u8 k, .int .i64 s.t.length, .int .i64 0, .int .i64 0, .bool false, .int .i64 0, .int .i64 0] rfl rfl ?e1b ?e2b ?e3b ?e4b ?e5b ?e6b)
   case e1b => exact cells_newT W3 [.int .u8 k, .int .i64 s.t.length, .int .i64 0, .int .i64 0, .bool false, .int .i64 0, .int .i64 0] 155
   case e2b => simp [Value.oneCell']
   case e3b => unfold maxLen; omega
   case e4b => omega
   case e5b => first | omega | (simp; omega)
   case e6b =>
    intro v' W5 hown' hgrow _ hat
    obtain ⟨A', c', rfl⟩ := own_slice hown'
    have hfin := row_end (x := ⟨k, s.t.length, 0, 0, false, 0, 0⟩) HK3.out hgrow hown' (by omega)
    obtain ⟨hf1, hf2, hf3⟩ := hfin
    have e0 := blk_cell hf1 0
    have z0 := blk_frozen hf1 0
    have e0' := blk_cell hf2.blk 0
    simp only [List.getElem?_toArray, List.getElem?_cons_succ, List.getElem?_cons_zero] at e0 e0'
    have hX5 : (W5.setCell ⟨g, 0, none⟩ (.slice A' (r1.length + 1) c')).heap[w.heap.size]? = some (.cells #[.int .i64 f0, .int .u8 k, .string f2, .int .i64 f3] 47 (0, 0)) := hf3.2 _ _ HX3.out rfl
    have x3 := blk_cell hX5 3
    simp only [List.getElem?_toArray, List.getElem?_cons_succ, List.getElem?_cons_zero] at x3
    have HO : (opensP s ⟨f0, k, f2, f3⟩) = (⟨r1 ++ [⟨k, s.t.length, 0, 0, false, 0, 0⟩], s.t ++ [⟨k, ⟨#[]⟩, f3, 1⟩]⟩, f3, if 32 < s.row.length + 1 ∨ 8 < hasP 108 (r1 ++ [⟨k, s.t.length, 0, 0, false, 0, 0⟩]) then 5 else E) := by
     unfold opensP
     simp only [HMM.out, if_true, HR1.out, HE.out]
    rw [← HLR.out] at HO
    have HO := Lib.hid HO
    have H2 := Lib.hid hf2
    have H3 := Lib.hid (show Below B0 w (W5.setCell ⟨g, 0, none⟩ (.slice A' (r1.length + 1) c')) ∧ KeepK w (W5.setCell ⟨g, 0, none⟩ (.slice A' (r1.length + 1) c')) from ⟨HL3.out.trans hf3.1, HE3.out.trans hf3.2⟩)
    have HX5 := Lib.hid hX5
    have HH := Lib.hid (hasO_calls B0 (.slice A' (r1.length + 1) c') (r1 ++ [⟨k, s.t.length, 0, 0, false, 0, 0⟩]) 108 _ (by rw [List.length_append]; show r1.length + 1 ≤ _; omega) hf2.row)
    clear hf1 hf2 hf3 hown' hgrow hat hX5
    by_cases h32 : 32 < r1.length + 1
    ·have h32' : (32 : Int) < (r1.length : Int) + 1 := by omega
     go_wp2
     go_ret2
     refine ⟨by rw [HO.out, if_pos (.inl h32)]; rfl, ?_⟩
     rw [HO.out]
     exact StepTo.mk' H2.out H3.out.1 H3.out.2
    ·have h32' : ¬ (32 : Int) < (r1.length : Int) + 1 := by omega
     by_cases h8 : 8 < hasP 108 (r1 ++ [⟨k, s.t.length, 0, 0, false, 0, 0⟩])
     ·have h8' : (8 : Int) < (hasP 108 (r1 ++ [⟨k, s.t.length, 0, 0, false, 0, 0⟩]) : Int) := by omega
      go_wp2_with (go_at_call 135; (with_reducible refine HH.out.mono ?_); rintro e w7 ⟨rfl, hb7⟩; have x3' := blk_cell (blk_below HX5.out hb7) 3; simp only [List.getElem?_toArray, List.getElem?_cons_succ, List.getElem?_cons_zero] at x3')
      go_ret2
      refine ⟨by rw [HO.out, if_pos (.inr h8)]; rfl, ?_⟩
      rw [HO.out]
      exact StepTo.mk' (H2.out.below hb7) (H3.out.1.trans (below_low hb7 (Nat.le_trans hB0 H3.out.1.size))) (H3.out.2.trans (KeepK.below hb7))
     ·have h8' : ¬ (8 : Int) < (hasP 108 (r1 ++ [⟨k, s.t.length, 0, 0, false, 0, 0⟩]) : Int) := by omega
      go_wp2_with (go_at_call 135; (with_reducible refine HH.out.mono ?_); rintro e w7 ⟨rfl, hb7⟩; have x3' := blk_cell (blk_below HX5.out hb7) 3; simp only [List.getElem?_toArray, List.getElem?_cons_succ, List.getElem?_cons_zero] at x3')
      go_ret2
      refine ⟨by rw [HO.out, if_neg (fun h => h.elim h32 h8)]; rfl, ?_⟩
      rw [HO.out]
      exact StepTo.mk' (H2.out.below hb7) (H3.out.1.trans (below_low hb7 (Nat.le_trans hB0 H3.out.1.size))) (H3.out.2.trans (KeepK.below hb7))
  ·have HKE := Lib.hid (beq_iff_eq.1 k2)
   have HKF := Lib.hid (beq_eq_false_iff_ne.1 k1)
   by_cases h0 : s.row = []
   ·have h00 : s.row.length = 0 := by rw [h0]; rfl
    have H0 := Lib.hid h0
    have H00 := Lib.hid h00
    clear h0 h00
    go_enter Try.func93, Try.ntmps93
    go_wp2_with (first | (go_at_call 104; (with_reducible refine (HM.out _ HB.out).mono ?_); rintro e w2 ⟨rfl, hb2⟩; have cx1 := blk_cell (blk_below HX.out hb2) 1; have cx3 := blk_cell (blk_below HX.out hb2) 3; have d0 := blk_cell (HB.out.below hb2).blk 0; simp only [List.getElem?_toArray, List.getElem?_cons_succ, List.getElem?_cons_zero] at cx1 cx3 d0; rw [H00.out] at d0; have cy1 := blk_cell (blk_alloc (blk_below HX.out hb2) (.cells #[.int .u8 0, .int .i64 0, .int .i64 0, .int .i64 0, .bool true, .int .i64 0, .int .i64 0] 155)) 1; have cy3 := blk_cell (blk_alloc (blk_below HX.out hb2) (.cells #[.int .u8 0, .int .i64 0, .int .i64 0, .int .i64 0, .bool true, .int .i64 0, .int .i64 0] 155)) 3; simp only [List.getElem?_toArray, List.getElem?_cons_succ, List.getElem?_cons_zero] at cy1 cy3) | (go_at_call 134; (with_reducible refine (top_none c A _).mono ?_); rintro e w3 ⟨rfl, rfl⟩))
    have HW2 := Lib.hid (HB1.out.trans (hb2.mono HB1.out.size))
    have HW3 := Lib.hid (HW2.out.alloc HW2.out.size (.cells #[.int .u8 0, .int .i64 0, .int .i64 0, .int .i64 0, .bool true, .int .i64 0, .int .i64 0] 155))
    have HS := Lib.hid (show BAt (w2.alloc (.cells #[.int .u8 0, .int .i64 0, .int .i64 0, .int .i64 0, .bool true, .int .i64 0, .int .i64 0] 155)) B0 g m (.slice A s.row.length c) vt ⟨markP s.row k, s.t⟩ ∧ Below B0 w (w2.alloc (.cells #[.int .u8 0, .int .i64 0, .int .i64 0, .int .i64 0, .bool true, .int .i64 0, .int .i64 0] 155)) ∧ KeepK w (w2.alloc (.cells #[.int .u8 0, .int .i64 0, .int .i64 0, .int .i64 0, .bool true, .int .i64 0, .int .i64 0] 155)) from by
     rw [show markP s.row k = s.row from by unfold markP; rw [if_neg HKF.out, if_pos HKE.out, H0.out]; rfl]
     exact ⟨(HB.out.below hb2).below ((Below.refl _ _).alloc (Nat.le_refl _) _), below_low HW3.out hB0, KeepK.below HW3.out⟩)
    have HX1 := Lib.hid (blk_alloc (blk_below HX.out hb2) (.cells #[.int .u8 0, .int .i64 0, .int .i64 0, .int .i64 0, .bool true, .int .i64 0, .int .i64 0] 155))
    obtain ⟨W1, hW1⟩ : ∃ W1, w2.alloc (.cells #[.int .u8 0, .int .i64 0, .int .i64 0, .int .i64 0, .bool true, .int .i64 0, .int .i64 0] 155) = W1 := ⟨_, rfl⟩
    rw [hW1] at HS HX1 ⊢
    clear hW1 cx1 cx3 d0 cy1 cy3
    refine (add_calls B0 g m (.slice A s.row.length c) vt ⟨markP s.row k, s.t⟩ ⟨k, ⟨#[]⟩, f3, 1⟩ W1 (Nat.le_trans hB0 HS.out.2.1.size) (by rw [markP_length]; omega) (by show s.t.length ≤ _; omega) HS.out.1).mono ?_
    rintro e W2 ⟨rfl, vt2, hbb, hl2, hk2⟩
    replace hbb : BAt W2 B0 g m (.slice A s.row.length c) vt2 ⟨kidP (markP s.row k), s.t ++ [⟨k, ⟨#[]⟩, f3, 1⟩]⟩ := hbb
    obtain ⟨E, hE⟩ : ∃ E, (addP ⟨markP s.row k, s.t⟩ ⟨k, ⟨#[]⟩, f3, 1⟩).2 = E := ⟨_, rfl⟩
    rw [hE]
    have HE := Lib.hid (show (if 2000 < s.t.length + 1 then (4 : Int) else 0) = E from hE)
    obtain ⟨At, ct, rfl⟩ := own_slice hbb.t
    have hT : (s.t ++ [⟨k, ⟨#[]⟩, f3, 1⟩] : List S56).length = s.t.length + 1 := by simp
    have hR : (kidP (markP s.row k)).length = s.row.length := by rw [kidP_length, markP_length]
    have hfold : BAt W2 B0 g m (.slice A s.row.length c) (.slice At (s.t.length + 1) ct) ⟨kidP (markP s.row k), s.t ++ [⟨k, ⟨#[]⟩, f3, 1⟩]⟩ := by have := hbb; rw [hT] at this; exact this
    have hX2 : W2.heap[w.heap.size]? = some (.cells #[.int .i64 f0, .int .u8 k, .string f2, .int .i64 f3] 47 (0, 0)) := hk2 _ _ HX1.out rfl
    have hLW : Below B0 w W2 := HS.out.2.1.trans hl2
    have hKW : KeepK w W2 := HS.out.2.2.trans hk2
    obtain ⟨r1, hr1⟩ : ∃ r1, kidP (markP s.row k) = r1 := ⟨_, rfl⟩
    rw [hr1] at hfold hR
    have HR1 := Lib.hid hr1
    have HLR := Lib.hid hR
    rw [← hR] at hfold
    obtain ⟨W3, hW3⟩ : ∃ W3, W2.drew = W3 := ⟨_, rfl⟩
    have hK3 : BAt W3 B0 g m (.slice A r1.length c) (.slice At (s.t.length + 1) ct) ⟨r1, s.t ++ [⟨k, ⟨#[]⟩, f3, 1⟩]⟩ := by rw [← hW3]; exact hfold.below (below_drew1 (Below.refl _ _))
    have hX3 : W3.heap[w.heap.size]? = some (.cells #[.int .i64 f0, .int .u8 k, .string f2, .int .i64 f3] 47 (0, 0)) := by rw [← hW3]; exact hX2
    have hL3 : Below B0 w W3 := by rw [← hW3]; exact below_drew1 hLW
    have hE3 : KeepK w W3 := by rw [← hW3]; exact hKW.drew
    have hs3 : w.heap.size < W3.heap.size := blk_lt hX3
    have c1 := blk_cell hX2 1
    have d0 := blk_cell hfold.blk 0
    have d1 := blk_cell hfold.blk 1
    simp only [List.getElem?_toArray, List.getElem?_cons_succ, List.getElem?_cons_zero] at c1 d0 d1
    have hrl : r1.length ≤ 999999 := by omega
    have HK3 := Lib.hid hK3
    have HL3 := Lib.hid hL3
    have HE3 := Lib.hid hE3
    have HX3 := Lib.hid hX3
    have HC := Lib.hid (And.intro c1 (And.intro d0 d1))
    clear hE hT hR hr1 hfold hbb hX2 hLW hKW hK3 hX3 hL3 hE3 c1 d0 d1 HS HX1 hl2 hk2 hb2 HX HB1
    go_wp2_with fail
    refine Go.Mix.region_mix' (fun b W => W = (bif b then W3.alloc (.cells #[.int .u8 k, .int .i64 s.t.length, .int .i64 0, .int .i64 0, .bool false, .int .i64 0, .int .i64 0] 155) else W3)) 14 15 [0] (by kernel_rfl) (by kernel_rfl) (fun _ _ _ _ _ h => h) hW3 ?_
    clear hW3
    refine Go.Mix.seqE_cons (t' := #[_, _, _, _, _, _, _, _, _, _, _, _, _, _, _, _, _, _, _, _, _, _, _, _, _, _, _, _, _, _, _, _, _, _, _, _, _, _, _, _, _, _, _, _, _, _, _, _, _, _, _, _, _, _, _, _, _, _, _, _, _, _, _, _, _, _, _, _, _, _, _, _, _, _, _, _, _, _, _, _]) _ (.pointer (some ⟨g, 0, none⟩)) rfl rfl (fun w' => rfl) rfl ?_
    refine Go.Mix.seqE_nil ?_
    refine Go.Mix.seqM_skip (by rfl) ?_
    repeat
     apply Go.Mix.seqM_cons (by rfl) (by rfl)
     focus
      intro b W hS
      have hB : Below W3.heap.size W3 W := by
       rw [hS]
       cases b
       ·exact Below.refl _ _
       ·exact (Below.refl _ _).alloc (Nat.le_refl _) _
      have c1 := blk_cell (blk_below HX3.out hB) 1
      have d0 := blk_cell (HK3.out.below hB).blk 0
      have d1 := blk_cell (HK3.out.below hB).blk 1
      simp only [List.getElem?_toArray, List.getElem?_cons_succ, List.getElem?_cons_zero] at c1 d0 d1
      have HS := Lib.hid hS
      clear hS hB
      go_wp2
      exact Go.Det.AtEnd.mk HS.out
    apply Go.Mix.seqM_main (by rfl)
    focus
     intro W hS
     obtain rfl : W = W3 := hS
     go_wp2
     exact Go.Det.AtEnd.mk rfl
    refine Go.Mix.seqM_nil ?_
    intro W4 hW4
    obtain rfl : W4 = W3.alloc (.cells #[.int .u8 k, .int .i64 s.t.length, .int .i64 0, .int .i64 0, .bool false, .int .i64 0, .int .i64 0] 155) := hW4
    simp only [List.drop_succ_cons, List.drop_zero]
    obtain ⟨i0, hi, hz0, hz1, hz2⟩ := info_parts info155
    go_wp2_with (at_builtin; refine wpList_append_own_at _ rfl _ _ 101 rfl B0 155 i0 (.agg #[(.int .u8 0), (.int .i64 0), (.int .i64 0), (.int .i64 0), (.bool false), (.int .i64 0), (.int .i64 0)]) 7 56 Try.underlying101 hi hz0 hz1 hz2 rfl (by decide) _ _ _ rfl (HK3.out.row.alloc _) _ 1 1 [.int .u8 k, .int .i64 s.t.length, .int .i64 0, .int .i64 0, .bool false, .int .i64 0, .int .i64 0] rfl rfl ?e1c ?e2c ?e3c ?e4c ?e5c ?e6c)
    case e1c => exact cells_newT W3 [.int .u8 k, .int .i64 s.t.length, .int .i64 0, .int .i64 0, .bool false, .int .i64 0, .int .i64 0] 155
    case e2c => simp [Value.oneCell']
    case e3c => unfold maxLen; omega
    case e4c => omega
    case e5c => first | omega | (simp; omega)
    case e6c =>
     intro v' W5 hown' hgrow _ hat
     obtain ⟨A', c', rfl⟩ := own_slice hown'
     have hfin := row_end (x := ⟨k, s.t.length, 0, 0, false, 0, 0⟩) HK3.out hgrow hown' (by omega)
     obtain ⟨hf1, hf2, hf3⟩ := hfin
     have e0 := blk_cell hf1 0
     have z0 := blk_frozen hf1 0
     have e0' := blk_cell hf2.blk 0
     simp only [List.getElem?_toArray, List.getElem?_cons_succ, List.getElem?_cons_zero] at e0 e0'
     have hX5 : (W5.setCell ⟨g, 0, none⟩ (.slice A' (r1.length + 1) c')).heap[w.heap.size]? = some (.cells #[.int .i64 f0, .int .u8 k, .string f2, .int .i64 f3] 47 (0, 0)) := hf3.2 _ _ HX3.out rfl
     have x3 := blk_cell hX5 3
     simp only [List.getElem?_toArray, List.getElem?_cons_succ, List.getElem?_cons_zero] at x3
     have HO : (opensP s ⟨f0, k, f2, f3⟩) = (⟨r1 ++ [⟨k, s.t.length, 0, 0, false, 0, 0⟩], s.t ++ [⟨k, ⟨#[]⟩, f3, 1⟩]⟩, f3, if 32 < s.row.length + 1 ∨ 8 < hasP 108 (r1 ++ [⟨k, s.t.length, 0, 0, false, 0, 0⟩]) then 5 else E) := by
      unfold opensP
      simp only [HMM.out, if_true, HR1.out, HE.out]
     rw [← HLR.out] at HO
     have HO := Lib.hid HO
     have H2 := Lib.hid hf2
     have H3 := Lib.hid (show Below B0 w (W5.setCell ⟨g, 0, none⟩ (.slice A' (r1.length + 1) c')) ∧ KeepK w (W5.setCell ⟨g, 0, none⟩ (.slice A' (r1.length + 1) c')) from ⟨HL3.out.trans hf3.1, HE3.out.trans hf3.2⟩)
     have HX5 := Lib.hid hX5
     have HH := Lib.hid (hasO_calls B0 (.slice A' (r1.length + 1) c') (r1 ++ [⟨k, s.t.length, 0, 0, false, 0, 0⟩]) 108 _ (by rw [List.length_append]; show r1.length + 1 ≤ _; omega) hf2.row)
     clear hf1 hf2 hf3 hown' hgrow hat hX5
     by_cases h32 : 32 < r1.length + 1
     ·have h32' : (32 : Int) < (r1.length : Int) + 1 := by omega
      go_wp2
      go_ret2
      refine ⟨by rw [HO.out, if_pos (.inl h32)]; rfl, ?_⟩
      rw [HO.out]
      exact StepTo.mk' H2.out H3.out.1 H3.out.2
     ·have h32' : ¬ (32 : Int) < (r1.length : Int) + 1 := by omega
      by_cases h8 : 8 < hasP 108 (r1 ++ [⟨k, s.t.length, 0, 0, false, 0, 0⟩])
      ·have h8' : (8 : Int) < (hasP 108 (r1 ++ [⟨k, s.t.length, 0, 0, false, 0, 0⟩]) : Int) := by omega
       go_wp2_with (go_at_call 135; (with_reducible refine HH.out.mono ?_); rintro e w7 ⟨rfl, hb7⟩; have x3' := blk_cell (blk_below HX5.out hb7) 3; simp only [List.getElem?_toArray, List.getElem?_cons_succ, List.getElem?_cons_zero] at x3')
       go_ret2
       refine ⟨by rw [HO.out, if_pos (.inr h8)]; rfl, ?_⟩
       rw [HO.out]
       exact StepTo.mk' (H2.out.below hb7) (H3.out.1.trans (below_low hb7 (Nat.le_trans hB0 H3.out.1.size))) (H3.out.2.trans (KeepK.below hb7))
      ·have h8' : ¬ (8 : Int) < (hasP 108 (r1 ++ [⟨k, s.t.length, 0, 0, false, 0, 0⟩]) : Int) := by omega
       go_wp2_with (go_at_call 135; (with_reducible refine HH.out.mono ?_); rintro e w7 ⟨rfl, hb7⟩; have x3' := blk_cell (blk_below HX5.out hb7) 3; simp only [List.getElem?_toArray, List.getElem?_cons_succ, List.getElem?_cons_zero] at x3')
       go_ret2
       refine ⟨by rw [HO.out, if_neg (fun h => h.elim h32 h8)]; rfl, ?_⟩
       rw [HO.out]
       exact StepTo.mk' (H2.out.below hb7) (H3.out.1.trans (below_low hb7 (Nat.le_trans hB0 H3.out.1.size))) (H3.out.2.trans (KeepK.below hb7))
   ·have hp : 0 < s.row.length := List.length_pos_iff.2 h0
    obtain ⟨gr, ca, hae, hao⟩ := rowO_form HB.out.row hp
    simp only [Value.slice.injEq] at hae
    obtain ⟨rfl, -, rfl⟩ := hae
    obtain ⟨n, hn'⟩ : ∃ n, s.row.length = n + 1 := ⟨s.row.length - 1, by omega⟩
    have HNE := Lib.hid (show w.heap.size ≠ gr from fun e => by have := own_lt HROW.out gr rfl; omega)
    have htop := fun W => top_some gr n c (by omega) W
    have hno := fun W (hW : BAt W B0 g m (.slice (some ⟨gr, 0, none⟩) s.row.length c) vt s) => rowO_cell hW.row n 4 (by omega) (by omega)
    have hfr := fun W (hW : BAt W B0 g m (.slice (some ⟨gr, 0, none⟩) s.row.length c) vt s) => World.ownsRow.frozenAt hW.row (n * 7 + 4)
    have hse := fun W (hW : BAt W B0 g m (.slice (some ⟨gr, 0, none⟩) s.row.length c) vt s) => hW.setO n 4 (by omega) (by omega) pastF (.bool true) rfl
    simp only [cellsO, List.getElem?_cons_succ, List.getElem?_cons_zero] at hno
    generalize (s.row.getD n zOpn).past = ps at hno
    have HT := Lib.hid htop
    have HNO := Lib.hid hno
    have HFR := Lib.hid hfr
    have HSE := Lib.hid hse
    have HN := Lib.hid hn'
    clear htop hno hfr hse hao hn' h0 hp
    go_enter Try.func93, Try.ntmps93
    go_wp2_with (first | (go_at_call 104; (with_reducible refine (HM.out _ HB.out).mono ?_); rintro e w2 ⟨rfl, hb2⟩; have cx1 := blk_cell (blk_below HX.out hb2) 1; have cx3 := blk_cell (blk_below HX.out hb2) 3; have d0 := blk_cell (HB.out.below hb2).blk 0; have q0 := HNO.out _ (HB.out.below hb2); have q1 := HFR.out _ (HB.out.below hb2); have cy1 := blk_cell (blk_far (blk_below HX.out hb2) (p := ⟨gr, n * 7 + 4, none⟩) HNE.out (.bool true)) 1; have cy3 := blk_cell (blk_far (blk_below HX.out hb2) (p := ⟨gr, n * 7 + 4, none⟩) HNE.out (.bool true)) 3; simp only [List.getElem?_toArray, List.getElem?_cons_succ, List.getElem?_cons_zero] at cx1 cx3 d0; rw [HN.out] at d0; simp only [List.getElem?_toArray, List.getElem?_cons_succ, List.getElem?_cons_zero] at cy1 cy3) | (go_at_call 134; (with_reducible refine (HT.out _).mono ?_); rintro e w2 ⟨rfl, rfl⟩))
    have HW2 := Lib.hid (HB1.out.trans (hb2.mono HB1.out.size))
    have HS := Lib.hid (show BAt (w2.setCell ⟨gr, n * 7 + 4, none⟩ (.bool true)) B0 g m (.slice (some ⟨gr, 0, none⟩) s.row.length c) vt ⟨markP s.row k, s.t⟩ ∧ Below B0 w (w2.setCell ⟨gr, n * 7 + 4, none⟩ (.bool true)) ∧ KeepK w (w2.setCell ⟨gr, n * 7 + 4, none⟩ (.bool true)) from by
     rw [show markP s.row k = s.row.modify n pastF from by unfold markP; rw [if_neg HKF.out, if_pos HKE.out, HN.out]; rfl]
     obtain ⟨h1, h2, h3⟩ := HSE.out _ (HB.out.below hb2)
     exact ⟨h1, (below_low HW2.out hB0).trans h2, (KeepK.below HW2.out).trans h3⟩)
    have HX1 := Lib.hid (blk_far (blk_below HX.out hb2) (p := ⟨gr, n * 7 + 4, none⟩) HNE.out (.bool true))
    obtain ⟨W1, hW1⟩ : ∃ W1, w2.setCell ⟨gr, n * 7 + 4, none⟩ (.bool true) = W1 := ⟨_, rfl⟩
    rw [hW1] at HS HX1 ⊢
    clear hW1 cx1 cx3 d0 cy1 cy3 q0 q1
    refine (add_calls B0 g m (.slice (some ⟨gr, 0, none⟩) s.row.length c) vt ⟨markP s.row k, s.t⟩ ⟨k, ⟨#[]⟩, f3, 1⟩ W1 (Nat.le_trans hB0 HS.out.2.1.size) (by rw [markP_length]; omega) (by show s.t.length ≤ _; omega) HS.out.1).mono ?_
    rintro e W2 ⟨rfl, vt2, hbb, hl2, hk2⟩
    replace hbb : BAt W2 B0 g m (.slice (some ⟨gr, 0, none⟩) s.row.length c) vt2 ⟨kidP (markP s.row k), s.t ++ [⟨k, ⟨#[]⟩, f3, 1⟩]⟩ := hbb
    obtain ⟨E, hE⟩ : ∃ E, (addP ⟨markP s.row k, s.t⟩ ⟨k, ⟨#[]⟩, f3, 1⟩).2 = E := ⟨_, rfl⟩
    rw [hE]
    have HE := Lib.hid (show (if 2000 < s.t.length + 1 then (4 : Int) else 0) = E from hE)
    obtain ⟨At, ct, rfl⟩ := own_slice hbb.t
    have hT : (s.t ++ [⟨k, ⟨#[]⟩, f3, 1⟩] : List S56).length = s.t.length + 1 := by simp
    have hR : (kidP (markP s.row k)).length = s.row.length := by rw [kidP_length, markP_length]
    have hfold : BAt W2 B0 g m (.slice (some ⟨gr, 0, none⟩) s.row.length c) (.slice At (s.t.length + 1) ct) ⟨kidP (markP s.row k), s.t ++ [⟨k, ⟨#[]⟩, f3, 1⟩]⟩ := by have := hbb; rw [hT] at this; exact this
    have hX2 : W2.heap[w.heap.size]? = some (.cells #[.int .i64 f0, .int .u8 k, .string f2, .int .i64 f3] 47 (0, 0)) := hk2 _ _ HX1.out rfl
    have hLW : Below B0 w W2 := HS.out.2.1.trans hl2
    have hKW : KeepK w W2 := HS.out.2.2.trans hk2
    obtain ⟨r1, hr1⟩ : ∃ r1, kidP (markP s.row k) = r1 := ⟨_, rfl⟩
    rw [hr1] at hfold hR
    have HR1 := Lib.hid hr1
    have HLR := Lib.hid hR
    rw [← hR] at hfold
    obtain ⟨W3, hW3⟩ : ∃ W3, W2.drew = W3 := ⟨_, rfl⟩
    have hK3 : BAt W3 B0 g m (.slice (some ⟨gr, 0, none⟩) r1.length c) (.slice At (s.t.length + 1) ct) ⟨r1, s.t ++ [⟨k, ⟨#[]⟩, f3, 1⟩]⟩ := by rw [← hW3]; exact hfold.below (below_drew1 (Below.refl _ _))
    have hX3 : W3.heap[w.heap.size]? = some (.cells #[.int .i64 f0, .int .u8 k, .string f2, .int .i64 f3] 47 (0, 0)) := by rw [← hW3]; exact hX2
    have hL3 : Below B0 w W3 := by rw [← hW3]; exact below_drew1 hLW
    have hE3 : KeepK w W3 := by rw [← hW3]; exact hKW.drew
    have hs3 : w.heap.size < W3.heap.size := blk_lt hX3
    have c1 := blk_cell hX2 1
    have d0 := blk_cell hfold.blk 0
    have d1 := blk_cell hfold.blk 1
    simp only [List.getElem?_toArray, List.getElem?_cons_succ, List.getElem?_cons_zero] at c1 d0 d1
    have hrl : r1.length ≤ 999999 := by omega
    have HK3 := Lib.hid hK3
    have HL3 := Lib.hid hL3
    have HE3 := Lib.hid hE3
    have HX3 := Lib.hid hX3
    have HC := Lib.hid (And.intro c1 (And.intro d0 d1))
    clear hE hT hR hr1 hfold hbb hX2 hLW hKW hK3 hX3 hL3 hE3 c1 d0 d1 HS HX1 hl2 hk2 hb2 HX HB1
    go_wp2_with fail
    refine Go.Mix.region_mix' (fun b W => W = (bif b then W3.alloc (.cells #[.int .u8 k, .int .i64 s.t.length, .int .i64 0, .int .i64 0, .bool false, .int .i64 0, .int .i64 0] 155) else W3)) 14 15 [0] (by kernel_rfl) (by kernel_rfl) (fun _ _ _ _ _ h => h) hW3 ?_
    clear hW3
    refine Go.Mix.seqE_cons (t' := #[_, _, _, _, _, _, _, _, _, _, _, _, _, _, _, _, _, _, _, _, _, _, _, _, _, _, _, _, _, _, _, _, _, _, _, _, _, _, _, _, _, _, _, _, _, _, _, _, _, _, _, _, _, _, _, _, _, _, _, _, _, _, _, _, _, _, _, _, _, _, _, _, _, _, _, _, _, _, _, _]) _ (.pointer (some ⟨g, 0, none⟩)) rfl rfl (fun w' => rfl) rfl ?_
    refine Go.Mix.seqE_nil ?_
    refine Go.Mix.seqM_skip (by rfl) ?_
    repeat
     apply Go.Mix.seqM_cons (by rfl) (by rfl)
     focus
      intro b W hS
      have hB : Below W3.heap.size W3 W := by
       rw [hS]
       cases b
       ·exact Below.refl _ _
       ·exact (Below.refl _ _).alloc (Nat.le_refl _) _
      have c1 := blk_cell (blk_below HX3.out hB) 1
      have d0 := blk_cell (HK3.out.below hB).blk 0
      have d1 := blk_cell (HK3.out.below hB).blk 1
      simp only [List.getElem?_toArray, List.getElem?_cons_succ, List.getElem?_cons_zero] at c1 d0 d1
      have HS := Lib.hid hS
      clear hS hB
      go_wp2
      exact Go.Det.AtEnd.mk HS.out
    apply Go.Mix.seqM_main (by rfl)
    focus
     intro W hS
     obtain rfl : W = W3 := hS
     go_wp2
     exact Go.Det.AtEnd.mk rfl
    refine Go.Mix.seqM_nil ?_
    intro W4 hW4
    obtain rfl : W4 = W3.alloc (.cells #[.int .u8 k, .int .i64 s.t.length, .int .i64 0, .int .i64 0, .bool false, .int .i64 0, .int .i64 0] 155) := hW4
    simp only [List.drop_succ_cons, List.drop_zero]
    obtain ⟨i0, hi, hz0, hz1, hz2⟩ := info_parts info155
    go_wp2_with (at_builtin; refine wpList_append_own_at _ rfl _ _ 101 rfl B0 155 i0 (.agg #[(.int .u8 0), (.int .i64 0), (.int .i64 0), (.int .i64 0), (.bool false), (.int .i64 0), (.int .i64 0)]) 7 56 Try.underlying101 hi hz0 hz1 hz2 rfl (by decide) _ _ _ rfl (HK3.out.row.alloc _) _ 1 1 [.int .u8 k, .int .i64 s.t.length, .int .i64 0, .int .i64 0, .bool false, .int .i64 0, .int .i64 0] rfl rfl ?e1d ?e2d ?e3d ?e4d ?e5d ?e6d)
    case e1d => exact cells_newT W3 [.int .u8 k, .int .i64 s.t.length, .int .i64 0, .int .i64 0, .bool false, .int .i64 0, .int .i64 0] 155
    case e2d => simp [Value.oneCell']
    case e3d => unfold maxLen; omega
    case e4d => omega
    case e5d => first | omega | (simp; omega)
    case e6d =>
     intro v' W5 hown' hgrow _ hat
     obtain ⟨A', c', rfl⟩ := own_slice hown'
     have hfin := row_end (x := ⟨k, s.t.length, 0, 0, false, 0, 0⟩) HK3.out hgrow hown' (by omega)
     obtain ⟨hf1, hf2, hf3⟩ := hfin
     have e0 := blk_cell hf1 0
     have z0 := blk_frozen hf1 0
     have e0' := blk_cell hf2.blk 0
     simp only [List.getElem?_toArray, List.getElem?_cons_succ, List.getElem?_cons_zero] at e0 e0'
     have hX5 : (W5.setCell ⟨g, 0, none⟩ (.slice A' (r1.length + 1) c')).heap[w.heap.size]? = some (.cells #[.int .i64 f0, .int .u8 k, .string f2, .int .i64 f3] 47 (0, 0)) := hf3.2 _ _ HX3.out rfl
     have x3 := blk_cell hX5 3
     simp only [List.getElem?_toArray, List.getElem?_cons_succ, List.getElem?_cons_zero] at x3
     have HO : (opensP s ⟨f0, k, f2, f3⟩) = (⟨r1 ++ [⟨k, s.t.length, 0, 0, false, 0, 0⟩], s.t ++ [⟨k, ⟨#[]⟩, f3, 1⟩]⟩, f3, if 32 < s.row.length + 1 ∨ 8 < hasP 108 (r1 ++ [⟨k, s.t.length, 0, 0, false, 0, 0⟩]) then 5 else E) := by
      unfold opensP
      simp only [HMM.out, if_true, HR1.out, HE.out]
     rw [← HLR.out] at HO
     have HO := Lib.hid HO
     have H2 := Lib.hid hf2
     have H3 := Lib.hid (show Below B0 w (W5.setCell ⟨g, 0, none⟩ (.slice A' (r1.length + 1) c')) ∧ KeepK w (W5.setCell ⟨g, 0, none⟩ (.slice A' (r1.length + 1) c')) from ⟨HL3.out.trans hf3.1, HE3.out.trans hf3.2⟩)
     have HX5 := Lib.hid hX5
     have HH := Lib.hid (hasO_calls B0 (.slice A' (r1.length + 1) c') (r1 ++ [⟨k, s.t.length, 0, 0, false, 0, 0⟩]) 108 _ (by rw [List.length_append]; show r1.length + 1 ≤ _; omega) hf2.row)
     clear hf1 hf2 hf3 hown' hgrow hat hX5
     by_cases h32 : 32 < r1.length + 1
     ·have h32' : (32 : Int) < (r1.length : Int) + 1 := by omega
      go_wp2
      go_ret2
      refine ⟨by rw [HO.out, if_pos (.inl h32)]; rfl, ?_⟩
      rw [HO.out]
      exact StepTo.mk' H2.out H3.out.1 H3.out.2
     ·have h32' : ¬ (32 : Int) < (r1.length : Int) + 1 := by omega
      by_cases h8 : 8 < hasP 108 (r1 ++ [⟨k, s.t.length, 0, 0, false, 0, 0⟩])
      ·have h8' : (8 : Int) < (hasP 108 (r1 ++ [⟨k, s.t.length, 0, 0, false, 0, 0⟩]) : Int) := by omega
       go_wp2_with (go_at_call 135; (with_reducible refine HH.out.mono ?_); rintro e w7 ⟨rfl, hb7⟩; have x3' := blk_cell (blk_below HX5.out hb7) 3; simp only [List.getElem?_toArray, List.getElem?_cons_succ, List.getElem?_cons_zero] at x3')
       go_ret2
       refine ⟨by rw [HO.out, if_pos (.inr h8)]; rfl, ?_⟩
       rw [HO.out]
       exact StepTo.mk' (H2.out.below hb7) (H3.out.1.trans (below_low hb7 (Nat.le_trans hB0 H3.out.1.size))) (H3.out.2.trans (KeepK.below hb7))
      ·have h8' : ¬ (8 : Int) < (hasP 108 (r1 ++ [⟨k, s.t.length, 0, 0, false, 0, 0⟩]) : Int) := by omega
       go_wp2_with (go_at_call 135; (with_reducible refine HH.out.mono ?_); rintro e w7 ⟨rfl, hb7⟩; have x3' := blk_cell (blk_below HX5.out hb7) 3; simp only [List.getElem?_toArray, List.getElem?_cons_succ, List.getElem?_cons_zero] at x3')
       go_ret2
       refine ⟨by rw [HO.out, if_neg (fun h => h.elim h32 h8)]; rfl, ?_⟩
       rw [HO.out]
       exact StepTo.mk' (H2.out.below hb7) (H3.out.1.trans (below_low hb7 (Nat.le_trans hB0 H3.out.1.size))) (H3.out.2.trans (KeepK.below hb7))
set_option pp.maxSteps 3000 in
set_option maxRecDepth 100000 in
set_option maxHeartbeats 8000000 in
theorem whole_calls (B0 g m : Nat) (vr vt : Value) (r : List Opn) (t : List S56) (x : Opn) (w : World) (hB0 : B0 ≤ w.heap.size) (hn : r.length ≤ 999999) (hkb : KindsB r) (hb : BAt w B0 g m vr vt ⟨r, t⟩)
  (htab : x.kind = 114 → ∃ j, aroundP [116] r r.length = some j) :
  Calls Try.prog 136 #[.pointer (some ⟨g, 0, none⟩), .agg #[.int .u8 x.kind, .int .i64 x.pos, .int .i64 x.kids, .int .i64 x.note, .bool x.past, .int .i64 x.cols, .int .i64 x.text]] w fun e w' =>
   e = .returned (.bool (wholeP r x).2) ∧ StepTo B0 g m ⟨(wholeP r x).1, t⟩ w w' := by
 obtain ⟨A, c, rfl⟩ := own_slice hb.row
 have hb1 : Below w.heap.size w (w.alloc (.cells #[.int .u8 x.kind, .int .i64 x.pos, .int .i64 x.kids, .int .i64 x.note, .bool x.past, .int .i64 x.cols, .int .i64 x.text] 155)) := (Below.refl _ w).alloc (Nat.le_refl _) _
 have hx := blk_new w (.cells #[.int .u8 x.kind, .int .i64 x.pos, .int .i64 x.kids, .int .i64 x.note, .bool x.past, .int .i64 x.cols, .int .i64 x.text] 155)
 have hbx := hb.below hb1
 obtain ⟨f0, f1, f2, f3, f4, f5, f6⟩ := x
 simp only at htab hb1 hx hbx ⊢
 obtain ⟨w1, hw1⟩ : ∃ w1, w.alloc (.cells #[.int .u8 f0, .int .i64 f1, .int .i64 f2, .int .i64 f3, .bool f4, .int .i64 f5, .int .i64 f6] 155) = w1 := ⟨_, rfl⟩
 rw [hw1] at hb1 hx hbx
 have x0 := blk_cell hx 0
 have x2 := blk_cell hx 2
 have d0 := blk_cell hbx.blk 0
 simp only [List.getElem?_toArray, List.getElem?_cons_succ, List.getElem?_cons_zero] at x0 x2 d0
 have HROW := Lib.hid hb.row
 have HB := Lib.hid hbx
 have HB1 := Lib.hid hb1
 have HX := Lib.hid hx
 have HKB := Lib.hid hkb
 clear hb hb1 hx hbx hkb
 have hcase : (f0 == 108) = true ∨ ((f0 == 108) = false ∧ (f0 == 116) = true) ∨ ((f0 == 108) = false ∧ (f0 == 116) = false ∧ (f0 == 114) = true) ∨ ((f0 == 108) = false ∧ (f0 == 116) = false ∧ (f0 == 114) = false) := by
  simp only [beq_eq_false_iff_ne, beq_iff_eq]; omega
 rcases hcase with k1 | ⟨k1, k2⟩ | ⟨k1, k2, k3⟩ | ⟨k1, k2, k3⟩
 ·have HO := Lib.hid (show wholeP r ⟨f0, f1, f2, f3, f4, f5, f6⟩ = (r, decide (0 < f2)) from by unfold wholeP; rw [if_pos (.inl (beq_iff_eq.1 k1))])
  go_enter Try.func136, Try.ntmps136
  go_wp2
  go_ret
  refine ⟨by rw [HO.out]; rfl, ?_⟩
  rw [HO.out]
  exact StepTo.mk' HB.out (below_low HB1.out hB0) (KeepK.below HB1.out)
 ·have HO := Lib.hid (show wholeP r ⟨f0, f1, f2, f3, f4, f5, f6⟩ = (r, decide (0 < f2)) from by unfold wholeP; rw [if_pos (.inr (beq_iff_eq.1 k2))])
  go_enter Try.func136, Try.ntmps136
  go_wp2
  go_ret
  refine ⟨by rw [HO.out]; rfl, ?_⟩
  rw [HO.out]
  exact StepTo.mk' HB.out (below_low HB1.out hB0) (KeepK.below HB1.out)
 ·obtain ⟨j, hA⟩ := htab (beq_iff_eq.1 k3)
  have hjl := aroundP_lt _ _ _ _ hA
  obtain ⟨gr, ca, hae, hao⟩ := rowO_form HB.out.row (by show 0 < r.length; omega)
  simp only [Value.slice.injEq] at hae
  obtain ⟨rfl, -, rfl⟩ := hae
  have hac := around_calls B0 _ c r _ _ finds_t w1 (by omega) HKB.out HB.out.row
  rw [hA] at hac
  have HAC := Lib.hid hac
  have hne : w.heap.size ≠ gr := fun e => by have := own_lt HROW.out gr rfl; omega
  have q5 := rowO_cell HB.out.row j 5 hjl (by omega)
  have z5 := World.ownsRow.frozenAt HB.out.row (j * 7 + 5)
  simp only [cellsO, List.getElem?_cons_succ, List.getElem?_cons_zero] at q5
  have HO := Lib.hid (show wholeP r ⟨f0, f1, f2, f3, f4, f5, f6⟩ = if (r.getD j zOpn).cols = 0 then (r.modify j (colsF f2), decide (0 < f2)) else (r, decide (0 < f2) && f2 == (r.getD j zOpn).cols) from by
   unfold wholeP
   simp only [hA]
   rw [if_neg (fun h => h.elim (beq_eq_false_iff_ne.1 k1) (beq_eq_false_iff_ne.1 k2)), if_pos (beq_iff_eq.1 k3)])
  have hse := BAt.setO (s := ⟨r, t⟩) HB.out j 5 hjl (by omega) (colsF f2) (.int .i64 f2) rfl
  obtain ⟨cl, hcl⟩ : ∃ cl, (r.getD j zOpn).cols = cl := ⟨_, rfl⟩
  rw [hcl] at q5 HO
  have hX4 := blk_far HX.out (p := ⟨gr, j * 7 + 5, none⟩) hne (.int .i64 f2)
  have HSE := Lib.hid hse
  have HX4 := Lib.hid hX4
  have HQ := Lib.hid (And.intro q5 z5)
  have HNE := Lib.hid hne
  clear hac hse hX4 hao hA htab hcl hne
  by_cases h0 : cl = 0
  ·have h0b : (cl == 0) = true := beq_iff_eq.2 h0
   rw [if_pos h0] at HO
   have hrow6 : (w1.setCell ⟨gr, j * 7 + 5, none⟩ (.int .i64 f2)).ownsRow B0 155 7 (.slice (some ⟨gr, 0, none⟩) (r.modify j (colsF f2)).length c) (r.modify j (colsF f2)).length (flatO (r.modify j (colsF f2))) := by
    have := HSE.out.1.row
    unfold RowO at this
    simp only [List.length_modify] at this ⊢
    exact this
   have q6' := rowO_cell hrow6 j 5 (by simpa using hjl) (by omega)
   have e5 : ((r.modify j (colsF f2)).getD j zOpn).cols = f2 := by
    rw [List.getD_eq_getElem?_getD, List.getElem?_modify, List.getElem?_eq_getElem hjl]
    simp [colsF]
   simp only [cellsO, List.getElem?_cons_succ, List.getElem?_cons_zero, e5] at q6'
   have y2 := blk_cell HX4.out 2
   simp only [List.getElem?_toArray, List.getElem?_cons_succ, List.getElem?_cons_zero] at y2
   have HY := Lib.hid (And.intro q6' y2)
   clear hrow6 q6' y2 e5 h0
   go_enter Try.func136, Try.ntmps136
   go_wp2_with (go_at_call 133; (with_reducible refine HAC.out.mono ?_); rintro e w1 ⟨rfl, rfl⟩; simp only [ptrO])
   obtain ⟨W2, hW2⟩ : ∃ W2, w1.setCell ⟨gr, j * 7 + 5, none⟩ (.int .i64 f2) = W2 := ⟨_, rfl⟩
   rw [hW2] at HSE HX4 HY ⊢
   cases hd : decide (0 < f2)
   all_goals
    refine Go.Det.region_all (fun W => W = W2.drew) (by kernel_rfl) (by kernel_rfl) rfl ?_
    repeat
     apply Go.Det.seqW_cons
     focus
      intro W hS
      obtain rfl : W = W2.drew := hS
      obtain ⟨q5', y2⟩ := HY.out
      go_wp2
      exact Go.Det.AtEnd.mk rfl
    refine Go.Det.seqW_nil ?_
    intro W hS
    obtain rfl : W = W2.drew := hS
    simp only [Exit.then]
    go_wp2
    go_ret
    refine ⟨by rw [HO.out]; simp [hd], ?_⟩
    rw [HO.out]
    have hbd : Below W2.heap.size W2 W2.drew := below_drew1 (Below.refl _ _)
    exact StepTo.mk' (HSE.out.1.below hbd) (below_drew1 ((below_low HB1.out hB0).trans HSE.out.2.1)) (((KeepK.below HB1.out).trans HSE.out.2.2).drew)
  ·have h0b : (cl == 0) = false := beq_eq_false_iff_ne.2 h0
   rw [if_neg h0] at HO
   clear h0
   go_enter Try.func136, Try.ntmps136
   go_wp2_with (go_at_call 133; (with_reducible refine HAC.out.mono ?_); rintro e w1 ⟨rfl, rfl⟩; simp only [ptrO])
   cases hd : decide (0 < f2)
   all_goals
    refine Go.Det.region_all (fun W => W = w1.drew) (by kernel_rfl) (by kernel_rfl) rfl ?_
    repeat
     apply Go.Det.seqW_cons
     focus
      intro W hS
      obtain rfl : W = w1.drew := hS
      obtain ⟨q5', z5'⟩ := HQ.out
      go_wp2
      exact Go.Det.AtEnd.mk rfl
    refine Go.Det.seqW_nil ?_
    intro W hS
    obtain rfl : W = w1.drew := hS
    simp only [Exit.then]
    go_wp2
    go_ret
    refine ⟨by rw [HO.out]; simp [hd], ?_⟩
    rw [HO.out]
    exact StepTo.mk' (HB.out.below (below_drew1 (Below.refl _ _))) (below_drew1 (below_low HB1.out hB0)) ((KeepK.below HB1.out).drew)
 ·have HO := Lib.hid (show wholeP r ⟨f0, f1, f2, f3, f4, f5, f6⟩ = (r, true) from by
   unfold wholeP; rw [if_neg (fun h => h.elim (beq_eq_false_iff_ne.1 k1) (beq_eq_false_iff_ne.1 k2)), if_neg (beq_eq_false_iff_ne.1 k3)])
  go_enter Try.func136, Try.ntmps136
  go_wp2
  go_ret
  refine ⟨by rw [HO.out]; rfl, ?_⟩
  rw [HO.out]
  exact StepTo.mk' HB.out (below_low HB1.out hB0) (KeepK.below HB1.out)
theorem flatO_drop (r : List Opn) : (flatO r).take (r.dropLast.length * 7) = flatO r.dropLast := by
 rcases List.eq_nil_or_concat r with rfl | ⟨r', x, rfl⟩
 ·rfl
 ·rw [List.concat_eq_append, List.dropLast_concat, flatO_snoc, List.take_append_of_le_length (by rw [flatO_length]; omega), List.take_of_length_le (by rw [flatO_length]; omega)]
theorem BAt.pop {w : World} {B0 g m gr c n : Nat} {vt : Value} {s : Bld} (h : BAt w B0 g m (.slice (some ⟨gr, 0, none⟩) (n + 1) c) vt s) (hn : s.row.length = n + 1) :
  BAt (w.setCell ⟨g, 0, none⟩ (.slice (some ⟨gr, 0, none⟩) n c)) B0 g m (.slice (some ⟨gr, 0, none⟩) n c) vt ⟨s.row.dropLast, s.t⟩ ∧ Below B0 w (w.setCell ⟨g, 0, none⟩ (.slice (some ⟨gr, 0, none⟩) n c)) ∧ KeepK w (w.setCell ⟨g, 0, none⟩ (.slice (some ⟨gr, 0, none⟩) n c)) := by
 have hrow : w.ownsRow B0 155 7 (.slice (some ⟨gr, 0, none⟩) (n + 1) c) (n + 1) (flatO s.row) := by have := h.row; unfold RowO at this; rw [hn] at this; exact this
 have hne := own_ne hrow h.blk (by decide)
 obtain ⟨es, clock, hm⟩ := map_obj h.map
 have hmg : m ≠ g := fun e => by
  subst e
  rw [h.blk] at hm
  cases hm
 refine ⟨⟨h.base, blk_put h.blk 0 _ rfl, ?_, own_setCell h.t (p := ⟨g, 0, none⟩) (own_ne h.t h.blk (by decide)) _, map_move h.map fun o ho => ?_⟩, (Below.refl B0 w).setCell h.base _, KeepK.set (p := ⟨g, 0, none⟩) h.blk rfl _⟩
 ·have h1 := own_take hrow (m := n) (by omega)
  have h2 := own_setCell h1 (p := ⟨g, 0, none⟩) (by exact hne) (.slice (some ⟨gr, 0, none⟩) n c)
  have hl : s.row.dropLast.length = n := by rw [List.length_dropLast, hn]; rfl
  unfold RowO
  have hd := flatO_drop s.row
  rw [hl] at hd
  rw [hl, ← hd]
  exact h2
 ·rw [Below.heap_setCell _ _ _ _ hmg]
  exact ho
theorem flat56_mod (f : S56 → S56) (i : Nat) (hi : i < 4) (u : Value) : ∀ (xs : List S56) (j : Nat), j < xs.length → (nodeC (f (xs.getD j z56))).toList = ((nodeC (xs.getD j z56)).toList).set i u → (flat56 xs).set (j * 4 + i) u = flat56 (xs.modify j f)
 | [], j, h, _ => by simp at h
 | x :: xs, 0, h, hf => by
  have e : ∀ (y : S56) (ys : List S56), flat56 (y :: ys) = (nodeC y).toList ++ flat56 ys := fun _ _ => rfl
  rw [e, List.modify_zero_cons, e, List.set_append_left _ _ (by simp [nodeC]; omega), Nat.zero_mul, Nat.zero_add]
  simp only [List.getD_cons_zero] at hf
  rw [hf]
 | x :: xs, j + 1, h, hf => by
  have e : ∀ (y : S56) (ys : List S56), flat56 (y :: ys) = (nodeC y).toList ++ flat56 ys := fun _ _ => rfl
  rw [e, List.modify_succ_cons, e, List.set_append_right _ _ (by simp [nodeC]; omega)]
  rw [show (j + 1) * 4 + i - (nodeC x).toList.length = j * 4 + i from by simp [nodeC]; omega]
  rw [flat56_mod f i hi u xs j (by simpa using h) (by simpa using hf)]
theorem rowT_form {W : World} {B0 : Nat} {v : Value} {t : List S56} (h : W.ownsRow B0 56 4 v t.length (flat56 t)) (hr : 0 < t.length) : ∃ g c, v = .slice (some ⟨g, 0, none⟩) t.length c ∧ W.ownsRow B0 56 4 (.slice (some ⟨g, 0, none⟩) t.length c) t.length (flat56 t) := by
 obtain ⟨A, c, rfl⟩ := own_slice h
 rcases h.2 with ⟨_, h0⟩ | ⟨g, cap, cur, e, _⟩
 ·omega
 ·simp only [Value.slice.injEq] at e
  obtain ⟨rfl, _, rfl⟩ := e
  exact ⟨g, _, rfl, h⟩
theorem rowT_cell {W : World} {B0 g c : Nat} {t : List S56} (h : W.ownsRow B0 56 4 (.slice (some ⟨g, 0, none⟩) t.length c) t.length (flat56 t)) (j i : Nat) (hj : j < t.length) (hi : i < 4) : W.cell? ⟨g, j * 4 + i, none⟩ = (nodeC (t.getD j z56))[i]? := by
 rw [h.cellAt (j * 4 + i) (by omega)]
 have : ∀ (xs : List S56) (j : Nat), j < xs.length → (flat56 xs)[j * 4 + i]? = (nodeC (xs.getD j z56))[i]? := by
  intro xs
  induction xs with
  | nil => intro j h; simp at h
  | cons x xs ih =>
   intro j h
   have e : flat56 (x :: xs) = (nodeC x).toList ++ flat56 xs := rfl
   rw [e]
   cases j with
   | zero => rw [List.getElem?_append_left (by simp [nodeC]; omega)]; simp
   | succ j =>
    rw [List.getElem?_append_right (by simp [nodeC]; omega)]
    have := ih j (by simpa using h)
    rw [show (j + 1) * 4 + i - (nodeC x).toList.length = j * 4 + i from by simp [nodeC]; omega, this]
    simp
 exact this t j hj
theorem BAt.pop' {w : World} {B0 g m gr c n : Nat} {vt : Value} {s : Bld} (h : BAt w B0 g m (.slice (some ⟨gr, 0, none⟩) s.row.length c) vt s) (hn : s.row.length = n + 1) :
  BAt (w.setCell ⟨g, 0, none⟩ (.slice (some ⟨gr, 0, none⟩) n c)) B0 g m (.slice (some ⟨gr, 0, none⟩) n c) vt ⟨s.row.dropLast, s.t⟩ ∧ Below B0 w (w.setCell ⟨g, 0, none⟩ (.slice (some ⟨gr, 0, none⟩) n c)) ∧ KeepK w (w.setCell ⟨g, 0, none⟩ (.slice (some ⟨gr, 0, none⟩) n c)) :=
 BAt.pop (by have := h; rw [hn] at this; exact this) hn
theorem BAt.sized {w : World} {B0 g m gt ct p : Nat} {vr : Value} {s : Bld} (h : BAt w B0 g m vr (.slice (some ⟨gt, 0, none⟩) s.t.length ct) s) (hp : p < s.t.length) (n : Int) :
  BAt (w.setCell ⟨gt, p * 4 + 3, none⟩ (.int .i64 n)) B0 g m vr (.slice (some ⟨gt, 0, none⟩) s.t.length ct) ⟨s.row, s.t.modify p (sizeF n)⟩ ∧ Below B0 w (w.setCell ⟨gt, p * 4 + 3, none⟩ (.int .i64 n)) ∧ KeepK w (w.setCell ⟨gt, p * 4 + 3, none⟩ (.int .i64 n)) := by
 obtain ⟨cs, hcs⟩ := own_typed h.t gt rfl
 have hb0 := own_base h.t gt rfl
 have hne : g ≠ gt := blk_ne h.blk hcs (by decide)
 obtain ⟨es, clock, hm⟩ := map_obj h.map
 have hmne : m ≠ gt := fun e => by subst e; rw [hm] at hcs; cases hcs
 have hrow : w.ownsRow B0 155 7 vr s.row.length (flatO s.row) := h.row
 refine ⟨⟨h.base, blk_far h.blk hne _, ?_, ?_, map_move h.map fun o ho => ?_⟩, (Below.refl B0 w).setCell hb0 _, KeepK.set (p := ⟨gt, p * 4 + 3, none⟩) hcs (by rfl) _⟩
 ·refine own_setCell hrow ?_ _
  rcases own_type_ne h.t hrow (by decide) with h0 | h0
  ·cases h0
  ·exact h0
 ·have := (h.t.stored (p * 4 + 3) (.int .i64 n)).1
  rw [flat56_mod (sizeF n) 3 (by omega) (.int .i64 n) s.t p hp rfl] at this
  simp only [List.length_modify]
  exact this
 ·rw [Below.heap_setCell _ _ _ _ hmne]
  exact ho
theorem top_at (r : List Opn) (n : Nat) (hn : r.length = n + 1) : r.getD n zOpn = topP r := by
 unfold topP
 rw [List.getLast?_eq_getElem?, List.getD_eq_getElem?_getD, hn]
 rfl
set_option pp.maxSteps 3000 in
set_option maxRecDepth 100000 in
set_option maxHeartbeats 8000000 in
theorem shuts_calls (B0 g m : Nat) (vr vt : Value) (s : Bld) (x : S47) (w : World) (hB0 : B0 ≤ w.heap.size) (hn : s.row.length ≤ 999999) (hnt : s.t.length ≤ 999999) (hkb : KindsB s.row) (hpos : PosIn s) (hch : RChain s.row) (hb : BAt w B0 g m vr vt s) :
  Calls Try.prog 94 #[.pointer (some ⟨g, 0, none⟩), .agg #[.int .i64 x.f0, .int .u8 x.f1, .string x.f2, .int .i64 x.f3]] w fun e w' =>
   e = .returned (.tuple #[.int .i64 (shutsP s x).2.1, .int .i64 (shutsP s x).2.2]) ∧ StepTo B0 g m (shutsP s x).1 w w' := by
 obtain ⟨f0, k, f2, f3⟩ := x
 obtain ⟨A, c, rfl⟩ := own_slice hb.row
 have hb1 : Below w.heap.size w (w.alloc (.cells #[.int .i64 f0, .int .u8 k, .string f2, .int .i64 f3] 47)) := (Below.refl _ w).alloc (Nat.le_refl _) _
 have hx := blk_new w (.cells #[.int .i64 f0, .int .u8 k, .string f2, .int .i64 f3] 47)
 have hbx := hb.below hb1
 have hsz : (w.alloc (.cells #[.int .i64 f0, .int .u8 k, .string f2, .int .i64 f3] 47)).heap.size = w.heap.size + 1 := by simp
 obtain ⟨w1, hw1⟩ : ∃ w1, w.alloc (.cells #[.int .i64 f0, .int .u8 k, .string f2, .int .i64 f3] 47) = w1 := ⟨_, rfl⟩
 rw [hw1] at hb1 hx hbx hsz
 have x3 := blk_cell hx 3
 have d0 := blk_cell hbx.blk 0
 simp only [List.getElem?_toArray, List.getElem?_cons_succ, List.getElem?_cons_zero] at x3 d0
 have HB := Lib.hid hbx
 have HB1 := Lib.hid hb1
 have HX := Lib.hid hx
 have HKB := Lib.hid hkb
 have HSZ := Lib.hid hsz
 clear hb hb1 hx hbx hkb hsz
 by_cases h0 : s.row = []
 ·have HO := Lib.hid (show shutsP s ⟨f0, k, f2, f3⟩ = (s, f3, 2) from by unfold shutsP; rw [if_pos h0])
  have h00 : s.row.length = 0 := by rw [h0]; rfl
  rw [h00] at d0
  clear h0 h00
  go_enter Try.func94, Try.ntmps94
  go_wp2
  go_ret2
  refine ⟨by rw [HO.out]; rfl, ?_⟩
  rw [HO.out]
  exact StepTo.mk' HB.out (below_low HB1.out hB0) (KeepK.below HB1.out)
 ·have hp : 0 < s.row.length := List.length_pos_iff.2 h0
  obtain ⟨gr, ca, hae, hao⟩ := rowO_form HB.out.row hp
  simp only [Value.slice.injEq] at hae
  obtain ⟨rfl, -, rfl⟩ := hae
  obtain ⟨n, hn'⟩ : ∃ n, s.row.length = n + 1 := ⟨s.row.length - 1, by omega⟩
  have htop := top_at s.row n hn'
  have hq := fun i hi => rowO_cell hao n i (by omega) hi
  rw [htop] at hq
  have hmem : topP s.row ∈ s.row := by
   rw [← htop, List.getD_eq_getElem?_getD, List.getElem?_eq_getElem (by omega)]
   exact List.getElem_mem _
  obtain ⟨hp0, hp1⟩ := hpos _ hmem
  have htab : (topP s.row).kind = 114 → ∃ j, aroundP [116] s.row.dropLast s.row.dropLast.length = some j := fun h => chain_table hch h
  have HO := Lib.hid (show shutsP s ⟨f0, k, f2, f3⟩ = (⟨(wholeP s.row.dropLast (topP s.row)).1, s.t.modify (topP s.row).pos.toNat (sizeF (s.t.length - (topP s.row).pos))⟩, f3, if (wholeP s.row.dropLast (topP s.row)).2 then 0 else 2) from by unfold shutsP; rw [if_neg h0])
  generalize topP s.row = o at *
  obtain ⟨o0, o1, o2, o3, o4, o5, o6⟩ := o
  simp only at hp0 hp1 htab HO
  obtain ⟨p, rfl⟩ : ∃ p : Nat, o1 = (p : Int) := ⟨o1.toNat, by omega⟩
  have q0 := hq 0 (by omega)
  have q1 := hq 1 (by omega)
  have q2 := hq 2 (by omega)
  have q3 := hq 3 (by omega)
  have q4 := hq 4 (by omega)
  have q5 := hq 5 (by omega)
  have q6 := hq 6 (by omega)
  simp only [cellsO, List.getElem?_cons_succ, List.getElem?_cons_zero, Nat.add_zero] at q0 q1 q2 q3 q4 q5 q6
  have hcap := own_cap hao
  have hT := fun W => top_some gr n c (by omega) W
  have hpl : p < s.t.length := by omega
  have hnl : n ≤ 999998 := by omega
  obtain ⟨gt, ct, rfl, hto⟩ := rowT_form HB.out.t (by omega)
  clear hto
  have HT := Lib.hid hT
  have HN := Lib.hid hn'
  have HTAB := Lib.hid htab
  rw [hn'] at d0 hcap
  clear hT hq hao hmem h0 hp hpos hch htop hn' htab
  go_enter Try.func94, Try.ntmps94
  go_wp2_with (go_at_call 134; (with_reducible refine (HT.out _).mono ?_); rintro e w1 ⟨rfl, rfl⟩)
  have hBA : Below w1.heap.size w1 (w1.alloc (.cells #[.int .u8 o0, .int .i64 p, .int .i64 o2, .int .i64 o3, .bool o4, .int .i64 o5, .int .i64 o6] 155)) := (Below.refl _ _).alloc (Nat.le_refl _) _
  have hO := blk_new w1 (.cells #[.int .u8 o0, .int .i64 p, .int .i64 o2, .int .i64 o3, .bool o4, .int .i64 o5, .int .i64 o6] 155)
  obtain ⟨W1, hW1⟩ : ∃ W1, w1.alloc (.cells #[.int .u8 o0, .int .i64 p, .int .i64 o2, .int .i64 o3, .bool o4, .int .i64 o5, .int .i64 o6] 155) = W1 := ⟨_, rfl⟩
  rw [hW1] at hBA hO ⊢
  obtain ⟨W2, hW2⟩ : ∃ W2, W1.drew = W2 := ⟨_, rfl⟩
  have hb2 : Below w1.heap.size w1 W2 := by rw [← hW2]; exact below_drew1 hBA
  have hO2 : W2.heap[w1.heap.size]? = some (.cells #[.int .u8 o0, .int .i64 p, .int .i64 o2, .int .i64 o3, .bool o4, .int .i64 o5, .int .i64 o6] 155 (0, 0)) := by rw [← hW2]; exact hO
  have HB2 := Lib.hid (HB.out.below hb2)
  have HX2 := Lib.hid (blk_below HX.out hb2)
  have HE2 := Lib.hid (HB1.out.trans (hb2.mono HB1.out.size))
  have HO2 := Lib.hid hO2
  have e0 := blk_cell HB2.out.blk 0
  have ez := blk_frozen HB2.out.blk 0
  simp only [List.getElem?_toArray, List.getElem?_cons_zero] at e0
  rw [HN.out] at e0
  have HE0 := Lib.hid (And.intro e0 ez)
  clear e0 ez hO2 hb2 hO hBA hW1 q0 q1 q2 q3 q4 q5 q6 d0 x3
  have hcap2 : n ≤ c := by omega
  refine Go.Det.region_det (fun W => W = W2) 14 (by kernel_rfl) (by kernel_rfl) (by kernel_rfl) (by decide) hW2 ?_
  clear hW2
  repeat
   apply Go.Det.seqW_cons
   focus
    intro W hS
    obtain rfl : W = W2 := hS
    obtain ⟨e0, ez⟩ := HE0.out
    go_wp2
    exact Go.Det.AtEnd.mk rfl
  refine Go.Det.seqW_nil ?_
  intro W hS
  obtain rfl : W = W2 := hS
  simp only [List.drop_succ_cons, List.drop_zero]
  obtain ⟨e0, ez⟩ := HE0.out
  go_wp2
  have hpop := HB2.out.pop' HN.out
  have hO3 := blk_far HO2.out (p := ⟨g, 0, none⟩) (Ne.symm (blk_ne HB2.out.blk HO2.out (by decide))) (.slice (some ⟨gr, 0, none⟩) n c)
  have hX3 := blk_far HX2.out (p := ⟨g, 0, none⟩) (Ne.symm (blk_ne HB2.out.blk HX2.out (by decide))) (.slice (some ⟨gr, 0, none⟩) n c)
  obtain ⟨W3, hW3⟩ : ∃ W3, W.setCell ⟨g, 0, none⟩ (.slice (some ⟨gr, 0, none⟩) n c) = W3 := ⟨_, rfl⟩
  rw [hW3] at hpop hO3 hX3 ⊢
  clear hW3 e0 ez
  obtain ⟨hb3, hl3, hk3⟩ := hpop
  obtain ⟨W4, hW4⟩ : ∃ W4, W3.drew = W4 := ⟨_, rfl⟩
  have hbd : Below W3.heap.size W3 W4 := by rw [← hW4]; exact below_drew1 (Below.refl _ _)
  have HB4 := Lib.hid (hb3.below hbd)
  have HO4 := Lib.hid (blk_below hO3 hbd)
  have HX4 := Lib.hid (blk_below hX3 hbd)
  have HL4 := Lib.hid (((below_low HE2.out hB0).trans hl3).trans (below_low hbd (Nat.le_trans hB0 (Nat.le_trans HE2.out.size hl3.size))))
  have HK4 := Lib.hid (((KeepK.below HE2.out).trans hk3).trans (KeepK.below hbd))
  have e1 := blk_cell HB4.out.blk 1
  have y1 := blk_cell HO4.out 1
  have ez := World.ownsRow.frozenAt HB4.out.t (p * 4 + 3)
  have et := rowT_cell HB4.out.t p 3 hpl (by omega)
  simp only [nodeC, List.getElem?_toArray, List.getElem?_cons_succ, List.getElem?_cons_zero] at e1 y1 et
  have HQ := Lib.hid (And.intro e1 (And.intro y1 (And.intro ez et)))
  have hpl1 : (p : Int) < (s.t.length : Int) := by omega
  clear hb3 hl3 hk3 hO3 hX3 hbd e1 y1 ez et HB2 HO2 HX2 HE2 HE0 HX HB1 HB
  refine Go.Det.region_det (fun W => W = W4) 16 (by kernel_rfl) (by kernel_rfl) (by kernel_rfl) (by decide) hW4 ?_
  clear hW4
  repeat
   apply Go.Det.seqW_cons
   focus
    intro W hS
    obtain rfl : W = W4 := hS
    obtain ⟨e1, y1, ez, et⟩ := HQ.out
    go_wp2
    exact Go.Det.AtEnd.mk rfl
  refine Go.Det.seqW_nil ?_
  intro W hS
  obtain rfl : W = W4 := hS
  simp only [List.drop_succ_cons, List.drop_zero]
  have hsz := BAt.sized (s := ⟨s.row.dropLast, s.t⟩) HB4.out hpl ((s.t.length : Int) - p)
  have hO5 := blk_far HO4.out (p := ⟨gt, p * 4 + 3, none⟩) (fun e => by
   obtain ⟨cs, hcs⟩ := own_typed HB4.out.t gt rfl
   exact absurd e (blk_ne HO4.out hcs (by decide))) (.int .i64 ((s.t.length : Int) - p))
  have hX5 := blk_far HX4.out (p := ⟨gt, p * 4 + 3, none⟩) (fun e => by
   obtain ⟨cs, hcs⟩ := own_typed HB4.out.t gt rfl
   exact absurd e (blk_ne HX4.out hcs (by decide))) (.int .i64 ((s.t.length : Int) - p))
  have HSZ5 := Lib.hid hsz
  have HO5 := Lib.hid hO5
  have HX5 := Lib.hid hX5
  have o0c := blk_cell hO5 0
  have o1c := blk_cell hO5 1
  have o2c := blk_cell hO5 2
  have o3c := blk_cell hO5 3
  have o4c := blk_cell hO5 4
  have o5c := blk_cell hO5 5
  have o6c := blk_cell hO5 6
  simp only [List.getElem?_toArray, List.getElem?_cons_succ, List.getElem?_cons_zero] at o0c o1c o2c o3c o4c o5c o6c
  obtain ⟨e1, y1, ez, et⟩ := HQ.out
  clear hsz hO5 hX5
  go_wp2_with fail
  have hlow5 := HL4.out.trans HSZ5.out.2.1
  have hkeep5 := HK4.out.trans HSZ5.out.2.2
  have hdl : s.row.dropLast.length = n := by rw [List.length_dropLast, HN.out]; rfl
  refine (whole_calls B0 g m _ _ s.row.dropLast (s.t.modify p (sizeF ((s.t.length : Int) - p))) ⟨o0, p, o2, o3, o4, o5, o6⟩ _ (Nat.le_trans hB0 hlow5.size) (by omega) (fun o ho => HKB.out o (List.dropLast_subset _ ho)) HSZ5.out.1 HTAB.out).mono ?_
  rintro e W6 ⟨rfl, ⟨vr6, vt6, hb6, hl6, hk6⟩⟩
  have HB6 := Lib.hid hb6
  have HL6 := Lib.hid (hlow5.trans hl6)
  have HK6 := Lib.hid (hkeep5.trans hk6)
  have hX6 := hk6 _ _ HX5.out rfl
  have x3 := blk_cell hX6 3
  simp only [List.getElem?_toArray, List.getElem?_cons_succ, List.getElem?_cons_zero] at x3
  rw [Int.toNat_natCast] at HO
  generalize wholeP s.row.dropLast ⟨o0, p, o2, o3, o4, o5, o6⟩ = R at *
  obtain ⟨R1, R2⟩ := R
  clear hb6 hl6 hk6 hX6 hlow5 hkeep5 o0c o1c o2c o3c o4c o5c o6c e1 y1 ez et
  cases R2
  all_goals
   go_wp2
   go_ret2
   refine ⟨by rw [HO.out]; rfl, ?_⟩
   rw [HO.out]
   exact StepTo.mk' HB6.out HL6.out HK6.out
end Go.Proofs.Ythcmfjpheanphaa.Pr
namespace Go.Proofs.Ythcmfjpheanphaa.Pr
open Go.RowKit Go.Proofs.YthcmfjpheanphaaW.PrintWords
def lowI (c : Int) : Int := if classP c = 2 then bits .or .u8 c 32 else c
def Row8 (W : World) (B : Nat) (xs : List Int) : Prop := ∃ (cs : Array Value), W.heap[B]? = some (.cells cs 5 (cs.size, cs.size + 1)) ∧ xs.length ≤ cs.size ∧ ∀ j, j < xs.length → cs[j]? = some (.int .u8 (xs.getD j 0))
theorem Row8.cell {W : World} {B : Nat} {xs : List Int} (h : Row8 W B xs) (j : Nat) (hj : j < xs.length) : W.cell? ⟨B, j, none⟩ = some (.int .u8 (xs.getD j 0)) := by
 obtain ⟨cs, h1, h2, h3⟩ := h
 simp only [World.cell?, h1]
 exact h3 j hj
theorem Row8.free {W : World} {B : Nat} {xs : List Int} (h : Row8 W B xs) (j : Nat) (hj : j < xs.length) : W.frozen? ⟨B, j, none⟩ = false := by
 obtain ⟨cs, h1, h2, h3⟩ := h
 simp only [World.frozen?, h1]
 simp
 omega
theorem Row8.set {W : World} {B : Nat} {xs : List Int} (h : Row8 W B xs) (j : Nat) (x : Int) : Row8 (W.setCell ⟨B, j, none⟩ (.int .u8 x)) B (xs.set j x) := by
 obtain ⟨cs, h1, h2, h3⟩ := h
 refine ⟨cs.setIfInBounds j (.int .u8 x), ?_, by simpa using h2, fun i hi => ?_⟩
 ·simp only [World.setCell, Array.getElem?_modify, if_pos, h1]
  simp
 ·simp at hi
  rw [Array.getElem?_setIfInBounds]
  by_cases hij : j = i
  ·subst hij
   simp [hi]
   omega
  ·have := h3 i hi
   simp [hij, this]
theorem Row8.below {W W' : World} {B : Nat} {xs : List Int} (h : Row8 W B xs) (hb : Below W.heap.size W W') : Row8 W' B xs := by
 obtain ⟨cs, h1, h2, h3⟩ := h
 exact ⟨cs, (hb.block _ (Array.getElem?_eq_some_iff.1 h1).1).trans h1, h2, h3⟩
def lowS (s : ByteArray) : ByteArray := strOfNums ((List.range s.size).map fun (j : Nat) => lowI (bt s (j : Int)))
def chars_Low.f (a0 : ByteArray) : Option ByteArray := if a0.size < 140737488355328 then some (lowS a0) else none
end Go.Proofs.Ythcmfjpheanphaa.Pr
namespace Go.Proofs.Ythcmfjpheanphaa.Pr
open Go.RowKit Go.Maps Go.Proofs.YthcmfjpheanphaaW.PrintWords
attribute [local go_sem] Oper.semAt_some
theorem conv_bytes (s : ByteArray) (W : World) : ∃ C W', (convert 9 68 (.string s)).run Try.prog W = .ok (.slice (some ⟨W.heap.size, 0, none⟩) s.size C) W' ∧ Below W.heap.size W W' ∧ ∀ j : Nat, j < s.size → W'.cell? ⟨W.heap.size, j, none⟩ = some (.int .u8 (bt s (j : Int))) := by
 have hb0 : Below W.heap.size W (Lib.bytesWorld W 5 s) := ⟨rfl, rfl, rfl, by rw [Lib.bytesWorld_size]; omega, fun k hk => Lib.bytesWorld_at_old W 5 s k hk⟩
 refine ⟨_, _, Lib.run_convert_string_bytes (P := Try.prog) W 9 68 5 s Try.underlying9 Try.underlying68 Try.underlying5, hb0, fun j hj => ?_⟩
 have hr0 : Row8 (Lib.bytesWorld W 5 s) W.heap.size ((List.range s.size).map fun (j : Nat) => bt s (j : Int)) := by
  refine ⟨Lib.bytesCells W 5 s, Lib.bytesWorld_at_new W 5 s, by simp [Lib.bytesCells], fun j hj => ?_⟩
  simp at hj
  have : j < s.data.size := hj
  simp [Lib.bytesCells, Array.getElem?_append, this, bt, hj]
  rfl
 rw [hr0.cell j (by simpa using hj)]
 simp [hj]
theorem kindsB_kid {r : List Opn} (h : KindsB r) : KindsB (kidP r) := by
 intro o ho
 unfold kidP at ho
 obtain ⟨y, hy, rfl | rfl⟩ := mem_modify ho
 ·exact h _ hy
 ·exact h y hy
set_option pp.maxSteps 3000 in
set_option maxRecDepth 100000 in
set_option maxHeartbeats 8000000 in
theorem texts_calls (B0 g m : Nat) (vr vt : Value) (s : Bld) (x : S47) (w : World) (hB0 : B0 ≤ w.heap.size) (hxs : x.f2.size ≤ 1000000) (hn : s.row.length ≤ 999999) (hnt : s.t.length ≤ 999999) (hkb : KindsB s.row) (hb : BAt w B0 g m vr vt s) :
  Calls Try.prog 92 #[.pointer (some ⟨g, 0, none⟩), .agg #[.int .i64 x.f0, .int .u8 x.f1, .string x.f2, .int .i64 x.f3]] w fun e w' =>
   e = .returned (.tuple #[.int .i64 (textsP s x).2.1, .int .i64 (textsP s x).2.2]) ∧ StepTo B0 g m (textsP s x).1 w w' := by
 obtain ⟨f0, k, f2, f3⟩ := x
 simp only at hxs
 obtain ⟨A, c, rfl⟩ := own_slice hb.row
 have hb1 : Below w.heap.size w (w.alloc (.cells #[.int .i64 f0, .int .u8 k, .string f2, .int .i64 f3] 47)) := (Below.refl _ w).alloc (Nat.le_refl _) _
 have hx := blk_new w (.cells #[.int .i64 f0, .int .u8 k, .string f2, .int .i64 f3] 47)
 have hbx := hb.below hb1
 obtain ⟨w1, hw1⟩ : ∃ w1, w.alloc (.cells #[.int .i64 f0, .int .u8 k, .string f2, .int .i64 f3] 47) = w1 := ⟨_, rfl⟩
 rw [hw1] at hb1 hx hbx
 have hmay := fun W (hW : BAt W B0 g m (.slice A s.row.length c) vt s) => may_calls B0 g m _ vt s 46 W (by omega) (by omega) (by omega) hkb hW
 have HM := Lib.hid hmay
 have HB := Lib.hid hbx
 have HB1 := Lib.hid hb1
 have HX := Lib.hid hx
 have HKB := Lib.hid hkb
 clear hb hb1 hx hbx hmay hkb
 cases hmm : mayP s.row 46 with
 | false =>
  have hP : textsP s ⟨f0, k, f2, f3⟩ = if blackP f2 f2.size 0 < f2.size then (s, wrap64 (f3 + blackP f2 f2.size 0), 2) else (s, f3, 0) := by unfold textsP; simp only [hmm]; rfl
  have HP := Lib.hid hP
  rw [hmm] at HM
  clear hP
  have HMM := Lib.hid hmm
  clear hmm
  have HCV := Lib.hid (fun W => conv_bytes f2 W)
  go_enter Try.func92, Try.ntmps92
  go_wp2_with (go_at_call 104; refine (HM.out _ HB.out).mono ?_; rintro e w2 ⟨rfl, hb2⟩; have cx2 := blk_cell (blk_below HX.out hb2) 2; have cx3 := blk_cell (blk_below HX.out hb2) 3; simp only [List.getElem?_toArray, List.getElem?_cons_succ, List.getElem?_cons_zero] at cx2 cx3; obtain ⟨C, W3, hcv, hb3, hcs⟩ := HCV.out w2; have HCS := Lib.hid hcs; clear hcs)
  have HW3 := Lib.hid (hb2.trans (hb3.mono hb2.size))
  clear hcv cx2 cx3
  go_loopw [17] (fun v wr => ∃ j : Nat, j ≤ f2.size ∧ v = .int .i64 j ∧ Below W3.heap.size W3 wr ∧ blackP f2 f2.size 0 = blackP f2 (f2.size - j) j) (fun v _ => f2.size - (intOf v).toNat)
  case atStart => exact ⟨0, Nat.zero_le _, rfl, Below.refl _ _, rfl⟩
  case round =>
   obtain ⟨j, hj, rfl, hB, hbl⟩ := hrel
   have HBL := Lib.hid hbl
   clear hbl
   have HBB := Lib.hid (HW3.out.trans (hB.mono HW3.out.size))
   have cx3 := blk_cell (blk_below HX.out HBB.out) 3
   simp only [List.getElem?_toArray, List.getElem?_cons_succ, List.getElem?_cons_zero] at cx3
   have HEND := Lib.hid (HB1.out.trans (HBB.out.mono HB1.out.size))
   by_cases hlt : j < f2.size
   ·have hlt1 : (j : Int) < (f2.size : Int) := by omega
    have q0 := HCS.out j hlt
    replace q0 := (hB.cell (World.block_lt_of_cell? W3 _ q0)).trans q0
    have hbr := bt_range f2 j
    have hst : blackP f2 (f2.size - j) j = if whiteT (bt f2 j) = true then blackP f2 (f2.size - (j + 1)) (j + 1) else j := by
     rw [show f2.size - j = (f2.size - (j + 1)) + 1 from by omega]
     simp only [blackP]
     rw [if_pos hlt]
    have hw := fun W => white_calls (bt f2 j) hbr.1 hbr.2 W
    have HST := Lib.hid hst
    obtain ⟨b, hbw⟩ : ∃ b, whiteP (bt f2 j) = b := ⟨_, rfl⟩
    rw [hbw] at hw
    have HBW := Lib.hid (show whiteT (bt f2 j) = b from hbw)
    have HW := Lib.hid hw
    clear hst hw hbw
    generalize bt f2 j = ch at *
    cases b
    ·go_wp2_with (go_at_call 35; refine (HW.out _).mono ?_; rintro e w4 ⟨rfl, hb4⟩; have cx3' := blk_cell (blk_below (blk_below HX.out HBB.out) hb4) 3; simp only [List.getElem?_toArray, List.getElem?_cons_succ, List.getElem?_cons_zero] at cx3')
     go_ret2
     have hres : blackP f2 f2.size 0 = j := by rw [HBL.out, HST.out, HBW.out]; rfl
     refine ⟨by rw [HP.out, hres, if_pos hlt]; rfl, ?_⟩
     rw [HP.out, hres, if_pos hlt]
     have HE2 := HEND.out.trans (hb4.mono HEND.out.size)
     exact StepTo.mk' ((HB.out.below HBB.out).below hb4) (below_low HE2 hB0) (KeepK.below HE2)
    ·go_wp2_with (go_at_call 35; refine (HW.out _).mono ?_; rintro e w4 ⟨rfl, hb4⟩)
     go_roundw
     case rel => exact ⟨j + 1, by omega, by go_num, hB.trans (hb4.mono hB.size), by rw [HBL.out, HST.out, HBW.out]; rfl⟩
     case measure => simp [intOf]; omega
   ·obtain rfl : j = f2.size := by omega
    have hlt1 : ¬ (f2.size : Int) < (f2.size : Int) := by omega
    go_wp2
    go_ret2
    have hres : ¬ blackP f2 f2.size 0 < f2.size := by rw [HBL.out, Nat.sub_self]; simp [blackP]
    refine ⟨by rw [HP.out, if_neg hres]; rfl, ?_⟩
    rw [HP.out, if_neg hres]
    exact StepTo.mk' (HB.out.below HBB.out) (below_low HEND.out hB0) (KeepK.below HEND.out)
 | true =>
  have HMM := Lib.hid hmm
  rw [hmm] at HM
  clear hmm
  go_enter Try.func92, Try.ntmps92
  go_wp2_with (go_at_call 104; (with_reducible refine (HM.out _ HB.out).mono ?_); rintro e w2 ⟨rfl, hb2⟩; have cx2 := blk_cell (blk_below HX.out hb2) 2; have cx3 := blk_cell (blk_below HX.out hb2) 3; simp only [List.getElem?_toArray, List.getElem?_cons_succ, List.getElem?_cons_zero] at cx2 cx3)
  have HW2 := Lib.hid (HB1.out.trans (hb2.mono HB1.out.size))
  refine (add_calls B0 g m (.slice A s.row.length c) vt s ⟨46, f2, f3, 1⟩ w2 (Nat.le_trans hB0 HW2.out.size) (by omega) (by omega) (HB.out.below hb2)).mono ?_
  rintro e W2 ⟨rfl, vt2, hbb, hl2, hk2⟩
  replace hbb : BAt W2 B0 g m (.slice A s.row.length c) vt2 ⟨kidP s.row, s.t ++ [⟨46, f2, f3, 1⟩]⟩ := hbb
  obtain ⟨E, hE⟩ : ∃ E, (addP s ⟨46, f2, f3, 1⟩).2 = E := ⟨_, rfl⟩
  rw [hE]
  have HE := Lib.hid (show (if 2000 < s.t.length + 1 then (4 : Int) else 0) = E from hE)
  have hX2 : W2.heap[w.heap.size]? = some (.cells #[.int .i64 f0, .int .u8 k, .string f2, .int .i64 f3] 47 (0, 0)) := hk2 _ _ (blk_below HX.out hb2) rfl
  have hR : (kidP s.row).length = s.row.length := kidP_length _
  have hkb2 := kindsB_kid HKB.out
  obtain ⟨r1, hr1⟩ : ∃ r1, kidP s.row = r1 := ⟨_, rfl⟩
  rw [hr1] at hbb hR hkb2
  rw [← hR] at hbb
  have HR1 := Lib.hid hr1
  have HLR := Lib.hid hR
  have hrl : r1.length ≤ 999999 := by omega
  have HK2 := Lib.hid hbb
  have HL2 := Lib.hid ((below_low HW2.out hB0).trans hl2)
  have HE2 := Lib.hid ((KeepK.below HW2.out).trans hk2)
  have HX2 := Lib.hid hX2
  have HKB2 := Lib.hid hkb2
  have d0 := blk_cell hbb.blk 0
  have y2 := blk_cell hX2 2
  have y3 := blk_cell hX2 3
  simp only [List.getElem?_toArray, List.getElem?_cons_succ, List.getElem?_cons_zero] at d0 y2 y3
  clear hE hR hr1 hbb hX2 hkb2 hl2 hk2 hb2 cx2 cx3 HX HB1 HW2 HM
  have hs2 := fun A' (hA : A' = A) => around_calls B0 A c r1 _ _ finds_n W2 (by omega) HKB2.out HK2.out.row
  have hac := hs2 A rfl
  clear hs2
  cases hA : aroundP [110] r1 r1.length with
  | none =>
   rw [hA] at hac
   have HAC := Lib.hid hac
   clear hac
   have HO := Lib.hid (show textsP s ⟨f0, k, f2, f3⟩ = (⟨r1, s.t ++ [⟨46, f2, f3, 1⟩]⟩, f3, E) from by
    unfold textsP
    simp only [HMM.out, if_true, HR1.out, hA, HE.out])
   go_wp2_with (go_at_call 133; (with_reducible refine HAC.out.mono ?_); rintro e W2 ⟨rfl, rfl⟩; simp only [ptrO])
   go_ret2
   refine ⟨by rw [HO.out]; rfl, ?_⟩
   rw [HO.out]
   exact StepTo.mk' HK2.out HL2.out HE2.out
  | some j =>
   have hjl := aroundP_lt _ _ _ _ hA
   obtain ⟨gr, ca, hae, hao⟩ := rowO_form HK2.out.row (by show 0 < r1.length; omega)
   simp only [Value.slice.injEq] at hae
   obtain ⟨rfl, -, rfl⟩ := hae
   rw [hA] at hac
   have HAC := Lib.hid hac
   obtain ⟨W3, hW3⟩ : ∃ W3, W2.drew = W3 := ⟨_, rfl⟩
   have hK3 : BAt W3 B0 g m (.slice (some ⟨gr, 0, none⟩) r1.length c) vt2 ⟨r1, s.t ++ [⟨46, f2, f3, 1⟩]⟩ := by rw [← hW3]; exact HK2.out.below (below_drew1 (Below.refl _ _))
   have hX3 : W3.heap[w.heap.size]? = some (.cells #[.int .i64 f0, .int .u8 k, .string f2, .int .i64 f3] 47 (0, 0)) := by rw [← hW3]; exact HX2.out
   have hL3 : Below B0 w W3 := by rw [← hW3]; exact below_drew1 HL2.out
   have hE3 : KeepK w W3 := by rw [← hW3]; exact HE2.out.drew
   have q6 := rowO_cell hK3.row j 6 hjl (by omega)
   have z6 := World.ownsRow.frozenAt hK3.row (j * 7 + 6)
   simp only [cellsO, List.getElem?_cons_succ, List.getElem?_cons_zero] at q6
   have x2 := blk_cell hX3 2
   simp only [List.getElem?_toArray, List.getElem?_cons_succ, List.getElem?_cons_zero] at x2
   have hse := BAt.setO (s := ⟨r1, s.t ++ [⟨46, f2, f3, 1⟩]⟩) hK3 j 6 hjl (by omega) (textF f2.size) (.int .i64 (wrap64 ((r1.getD j zOpn).text + f2.size))) rfl
   have HO := Lib.hid (show textsP s ⟨f0, k, f2, f3⟩ = (⟨r1.modify j (textF f2.size), s.t ++ [⟨46, f2, f3, 1⟩]⟩, f3, if 60 < wrap64 ((r1.getD j zOpn).text + f2.size) then 4 else E) from by
    unfold textsP
    simp only [HMM.out, if_true, HR1.out, hA]
    have hE := HE.out
    by_cases h60 : 60 < wrap64 ((r1.getD j zOpn).text + f2.size)
    ·rw [if_pos (.inl h60), if_pos h60]
    ·rw [if_neg h60, ← hE]
     by_cases h2 : 2000 < s.t.length + 1
     ·rw [if_pos (.inr h2), if_pos h2]
     ·rw [if_neg (fun h => h.elim h60 h2), if_neg h2])
   obtain ⟨tx, htx⟩ : ∃ tx, (r1.getD j zOpn).text = tx := ⟨_, rfl⟩
   rw [htx] at q6 hse HO
   have ha1 : (⟨gr, j * 7 + 6, none⟩ : Addr).block ≠ w.heap.size := fun e => by
    obtain ⟨cs, hcs⟩ := own_typed hK3.row gr rfl
    have e' : gr = w.heap.size := e
    rw [e', hX3] at hcs
    cases hcs
   have hX4 := blk_far hX3 (p := ⟨gr, j * 7 + 6, none⟩) (Ne.symm ha1) (.int .i64 (wrap64 (tx + f2.size)))
   have hrow6 : (W3.setCell ⟨gr, j * 7 + 6, none⟩ (.int .i64 (wrap64 (tx + f2.size)))).ownsRow B0 155 7 (.slice (some ⟨gr, 0, none⟩) (r1.modify j (textF f2.size)).length c) (r1.modify j (textF f2.size)).length (flatO (r1.modify j (textF f2.size))) := by
    have := hse.1.row
    unfold RowO at this
    simp only [List.length_modify] at this ⊢
    exact this
   have q6' := rowO_cell hrow6 j 6 (by simpa using hjl) (by omega)
   have x3' := blk_cell hX4 3
   simp only [List.getElem?_toArray, List.getElem?_cons_succ, List.getElem?_cons_zero] at x3'
   have q6'' : (W3.setCell ⟨gr, j * 7 + 6, none⟩ (.int .i64 (wrap64 (tx + f2.size)))).cell? ⟨gr, j * 7 + 6, none⟩ = some (.int .i64 (wrap64 (tx + f2.size))) := by
    rw [q6']
    have : (r1.modify j (textF f2.size)).getD j zOpn = textF f2.size (r1.getD j zOpn) := by
     rw [List.getD_eq_getElem?_getD, List.getD_eq_getElem?_getD, List.getElem?_modify, List.getElem?_eq_getElem hjl]
     simp
    simp only [cellsO, List.getElem?_cons_succ, List.getElem?_cons_zero]
    rw [this]
    unfold textF
    rw [htx]
   have H1 := Lib.hid q6''
   have H2 := Lib.hid x3'
   have H3 := Lib.hid hse
   have HC := Lib.hid (And.intro q6 (And.intro z6 x2))
   have HL3 := Lib.hid hL3
   have HE3 := Lib.hid hE3
   clear hrow6 q6'' q6' x3' hse q6 z6 x2 hK3 hX3 hL3 hE3 hX4 ha1 hac hao htx
   go_wp2_with (go_at_call 133; (with_reducible refine HAC.out.mono ?_); rintro e W2 ⟨rfl, rfl⟩; simp only [ptrO])
   refine Go.Det.region_det (fun W => W = W3) 10 (by kernel_rfl) (by kernel_rfl) (by kernel_rfl) (by decide) hW3 ?_
   repeat
    apply Go.Det.seqW_cons
    focus
     intro W hS
     obtain rfl : W = W3 := hS
     obtain ⟨q6, z6, x2⟩ := HC.out
     go_wp2
     exact Go.Det.AtEnd.mk rfl
   refine Go.Det.seqW_nil ?_
   intro W hS
   obtain rfl : W = W3 := hS
   simp only [List.drop_succ_cons, List.drop_zero]
   obtain ⟨q6, z6, x2⟩ := HC.out
   have q7 := H1.out
   have x3 := H2.out
   clear hW3
   by_cases h60 : 60 < wrap64 (tx + f2.size)
   all_goals
    go_wp2
    go_ret2
    refine ⟨by rw [HO.out]; first | (rw [if_pos h60]; rfl) | (rw [if_neg (Int.not_lt.2 h60)]; rfl) | (rw [if_neg h60]; rfl), ?_⟩
    rw [HO.out]
    exact StepTo.mk' H3.out.1 (HL3.out.trans H3.out.2.1) (HE3.out.trans H3.out.2.2)
def klP (a b : Int) : Lit := .string [UInt8.ofNat a.toNat, UInt8.ofNat b.toNat]
theorem klP_inj {a b c d : Int} (a0 : 0 ≤ a) (a1 : a ≤ 255) (b0 : 0 ≤ b) (b1 : b ≤ 255) (c0 : 0 ≤ c) (c1 : c ≤ 255) (d0 : 0 ≤ d) (d1 : d ≤ 255) (h : klP a b = klP c d) : a = c ∧ b = d := by
 unfold klP at h
 simp only [Lit.string.injEq, List.cons.injEq, and_true] at h
 have e : ∀ n k : Nat, n < 256 → k < 256 → UInt8.ofNat n = UInt8.ofNat k → n = k := fun n k hn hk he => by
  have := congrArg UInt8.toNat he
  simpa [UInt8.toNat_ofNat, Nat.mod_eq_of_lt hn, Nat.mod_eq_of_lt hk] using this
 have h1 := e _ _ (by omega) (by omega) h.1
 have h2 := e _ _ (by omega) (by omega) h.2
 omega
theorem wf_u8 {a : Int} (a0 : 0 ≤ a) (a1 : a ≤ 255) : (Lit.int .u8 a).wf = true := WalkArith.wf_u8 (by omega)
set_option maxRecDepth 100000 in
theorem key_pair (a b : Int) (a0 : 0 ≤ a) (a1 : a ≤ 255) (b0 : 0 ≤ b) (b1 : b ≤ 255) : keyOf Try.prog 169 (pairV a b) = some (klP a b) := by
 have hkt : Try.prog.keyType 169 = true := by kernel_rfl
 have hc : Try.prog.cellsOf 169 = 2 := by kernel_rfl
 have hc5 : Try.prog.cellsOf 5 = 1 := by kernel_rfl
 obtain ⟨m, hm⟩ : ∃ m, Try.prog.types.size = m + 1 := ⟨Try.prog.types.size - 1, by have : 0 < Try.prog.types.size := Nat.lt_of_le_of_lt (Nat.zero_le _) row169; omega⟩
 have wa := wf_u8 a0 a1
 have wb := wf_u8 b0 b1
 unfold keyOf pairV
 simp only [Try.underlying169]
 rw [if_pos (by simp [hkt, Value.formed, Try.underlying169, hc]), hm]
 unfold Program.keyLits
 simp only [Try.underlying169, Value.cells]
 rw [if_pos ⟨by rw [hc]; rfl, by kernel_rfl⟩]
 simp [hc5, Program.keyLits, Try.underlying5, wa, wb]
 have hb : ∀ c : Int, 0 ≤ c → c ≤ 255 → (Lit.int IntKind.u8 c).keyBytes = [UInt8.ofNat c.toNat] := fun c h0 h1 => by
  have e : (c % 256).toNat % 256 = c.toNat := by omega
  simp [Lit.keyBytes, bytesBE, bytesLE, IntKind.bits, e]
 simp only [keyBytes, List.flatMap_cons, List.flatMap_nil, hb a a0 a1, hb b b0 b1]
 rfl
abbrev OwnM (w : World) (m n : Nat) (D : DataW Unit) : Prop := w.ownsMap (H := Unit) Try.prog 169 (plainElem Try.prog 3) m n D
def MapF (D : DataW Unit) (f : Int → Int → Bool) : Prop := IsMap D ∧ ∀ a b : Int, 0 ≤ a → a ≤ 255 → 0 ≤ b → b ≤ 255 → D.atKey (klP a b) (.lit (.int .i64 0)) = .lit (.int .i64 (if f a b then 1 else 0))
theorem isMap_put {D : DataW Unit} (h : IsMap D) (k : Lit) (d : DataW Unit) : IsMap (D.put k d) := by
 obtain ⟨es, rfl⟩ := h
 exact ⟨_, rfl⟩
theorem MapF.put {D : DataW Unit} {f f' : Int → Int → Bool} (h : MapF D f) (x y : Int) (x0 : 0 ≤ x) (x1 : x ≤ 255) (y0 : 0 ≤ y) (y1 : y ≤ 255) (hf : ∀ a b, f' a b = (f a b || (a == x && b == y))) : MapF (D.put (klP x y) (.lit (.int .i64 1))) f' := by
 refine ⟨isMap_put h.1 _ _, fun a b a0 a1 b0 b1 => ?_⟩
 by_cases e : a = x ∧ b = y
 ·obtain ⟨rfl, rfl⟩ := e
  rw [atKey_put_same h.1 (by trivial), hf]
  simp
 ·rw [atKey_put_other (fun hk => e (klP_inj a0 a1 b0 b1 x0 x1 y0 y1 hk)), h.2 a b a0 a1 b0 b1, hf]
  have : (a == x && b == y) = false := by
   rw [Bool.and_eq_false_iff]
   by_cases ea : a = x
   ·right; exact beq_eq_false_iff_ne.2 fun eb => e ⟨ea, eb⟩
   ·left; exact beq_eq_false_iff_ne.2 ea
  rw [this, Bool.or_false]
def inK (s : ByteArray) (n : Nat) (c : Int) : Bool := (List.range n).any fun j => c == bt s (j : Int)
theorem inK_succ (s : ByteArray) (n : Nat) (c : Int) : inK s (n + 1) c = (inK s n c || c == bt s (n : Int)) := by
 unfold inK
 rw [List.range_succ, List.any_append]
 simp
def putF (i o : ByteArray) (f : Int → Int → Bool) : Int → Int → Bool := fun a b => f a b || (inK i i.size a && inK o o.size b)
def PutTo (m n : Nat) (f : Int → Int → Bool) (w w' : World) : Prop := ∃ D, OwnM w' m n D ∧ MapF D f ∧ w.grownBy w' (some m)
theorem grown_trans {a b c : World} {row : Option Nat} (h : a.grownBy b row) (k : b.grownBy c row) : a.grownBy c row :=
 ⟨k.os.trans h.os, k.tape.trans h.tape, k.output.trans h.output, Nat.le_trans h.size k.size, fun i hi hne => (k.block i (Nat.lt_of_lt_of_le hi h.size) hne).trans (h.block i hi hne)⟩
theorem grown_below {a b : World} (h : Below a.heap.size a b) (row : Option Nat) : a.grownBy b row := grown_of_below h row
theorem grown_cell {a b : World} {m : Nat} (h : a.grownBy b (some m)) {p : Addr} {v : Value} (hc : a.cell? p = some v) (hp : p.block ≠ m) : b.cell? p = some v := by
 have hlt := World.block_lt_of_cell? a p hc
 have := h.block p.block hlt (fun e => hp (Option.some.inj e))
 obtain ⟨pb, po, ps⟩ := p
 simp only [World.cell?] at hc ⊢
 simp only at this
 rw [this]
 exact hc
set_option pp.maxSteps 3000 in
set_option maxRecDepth 100000 in
set_option maxHeartbeats 8000000 in
theorem put_calls (i o : ByteArray) (hi : i.size ≤ 100) (ho : o.size ≤ 100) (O m n : Nat) (D : DataW Unit) (f : Int → Int → Bool) (w : World) (hO : w.heap[O]? = some (.cells #[.map (some m)] 102 (0, 0))) (hm : OwnM w m n D) (hn : n ≤ 1000000) (hf : MapF D f) :
  Calls Try.prog 162 #[.string i, .string o, .pointer (some ⟨O, 0, none⟩)] w fun e w' => e = .returned (.tuple #[]) ∧ PutTo m (n + 10100) (putF i o f) w w' := by
 have hne : O ≠ m := fun e => by
  obtain ⟨es, clock, hb, _⟩ := hm
  subst e
  rw [hb] at hO
  cases hO
 obtain ⟨C, W1, hcv, hb1, hcs⟩ := conv_bytes i w
 have hwm : w.heap.size ≠ m := fun e => by have := hm.lt; omega
 have HM := Lib.hid hm
 have HO := Lib.hid hO
 have HF := Lib.hid hf
 have HCS := Lib.hid hcs
 have HB1 := Lib.hid hb1
 have HNE := Lib.hid hne
 have HWM := Lib.hid hwm
 have HCO := Lib.hid (fun W => conv_bytes o W)
 clear hm hO hf hcs hb1 hne hwm
 go_enter Try.func162, Try.ntmps162
 go_wp2
 clear hcv
 go_loopw [12] (fun v wr => ∃ J : Nat, J ≤ i.size ∧ v = .int .i64 J ∧ W1.grownBy wr (some m) ∧ PutTo m (n + J * 101) (fun a b => f a b || (inK i J a && inK o o.size b)) w wr) (fun v _ => i.size - (intOf v).toNat)
 case atStart =>
  refine ⟨0, Nat.zero_le _, rfl, grown_below (Below.refl _ _) _, D, HM.out.kept (grown_below HB1.out none) (by simp), ?_, grown_below HB1.out _⟩
  simpa [inK] using HF.out
 case round =>
  obtain ⟨J, hJ, rfl, hg1, D1, hm1, hf1, hgw⟩ := hrel
  by_cases hlt : J < i.size
  ·have hlt1 : (J : Int) < (i.size : Int) := by omega
   have q0 := grown_cell hg1 (HCS.out J hlt) HWM.out
   have hbr := bt_range i J
   obtain ⟨x, hx⟩ : ∃ x, bt i (J : Int) = x := ⟨_, rfl⟩
   rw [hx] at q0 hbr
   have HXX := Lib.hid hx
   obtain ⟨C2, W2, hcv2, hb2, hcs2⟩ := HCO.out wr
   have hm2 := hm1.kept (grown_below hb2 none) (by simp)
   have hwm2 : wr.heap.size ≠ m := fun e => by have := hm1.lt; omega
   have H1 := Lib.hid hg1
   have H2 := Lib.hid hm2
   have H3 := Lib.hid hf1
   have H4 := Lib.hid hgw
   have H5 := Lib.hid hcs2
   have H6 := Lib.hid hb2
   have H7 := Lib.hid hwm2
   clear hx hg1 hm1 hf1 hgw hcs2 hb2 hm2 hwm2
   go_wp2
   clear hcv2 q0
   obtain ⟨wo, rfl⟩ : ∃ wo : World, wo = wr := ⟨_, rfl⟩
   go_loopw [19] (fun v wr => ∃ K : Nat, K ≤ o.size ∧ v = .int .i64 K ∧ W2.grownBy wr (some m) ∧ PutTo m (n + J * 101 + K) (fun a b => (f a b || (inK i J a && inK o o.size b)) || (a == x && inK o K b)) w wr) (fun v _ => o.size - (intOf v).toNat)
   case atStart =>
    refine ⟨0, Nat.zero_le _, rfl, grown_below (Below.refl _ _) _, D1, H2.out, ?_, grown_trans H4.out (grown_below H6.out _)⟩
    simpa [inK] using H3.out
   case round =>
    obtain ⟨K, hK, rfl, hg3, D3, hm3, hf3, hgw3⟩ := hrel
    by_cases hkt : K < o.size
    ·have hkt1 : (K : Int) < (o.size : Int) := by omega
     have p0 := grown_cell hg3 (H5.out K hkt) H7.out
     have hbr2 := bt_range o K
     obtain ⟨y, hy⟩ : ∃ y, bt o (K : Int) = y := ⟨_, rfl⟩
     rw [hy] at p0 hbr2
     have HYY := Lib.hid hy
     have hoc := blk_cell (blk_grown HO.out hgw3 (fun e => HNE.out (Option.some.inj e))) 0
     simp only [List.getElem?_toArray, List.getElem?_cons_zero] at hoc
     have hm9 : OwnM wr m (n + J * 101 + K) D3 := hm3
     have G1 := Lib.hid hg3
     have G2 := Lib.hid hm9
     have G3 := Lib.hid hf3
     have G4 := Lib.hid hgw3
     clear hy hg3 hm3 hf3 hgw3 hm9
     have hkey := key_pair x y hbr.1 hbr.2 hbr2.1 hbr2.2
     go_wp2_with (at_mapUpdate; refine wpList_mapUpdate_own _ rfl _ _ _ 102 rfl 169 3 law169 Try.underlying102 _ m (n + J * 101 + K) _ rfl G2.out (by unfold maxLen; omega) _ _ _ rfl rfl hkey _ [] (plainElem_int (a := 1) Try.underlying3 (by decide)) ?_; intro w5 hown5 hgrow5)
     go_roundw
     case rel =>
      refine ⟨K + 1, by omega, by go_num, grown_trans G1.out hgrow5, _, hown5, ?_, grown_trans G4.out hgrow5⟩
      refine MapF.put G3.out x y hbr.1 hbr.2 hbr2.1 hbr2.2 fun a b => ?_
      rw [inK_succ, HYY.out]
      cases (f a b || inK i J a && inK o o.size b) <;> cases (a == x) <;> simp
     case measure => simp [intOf]; omega
    ·obtain rfl : K = o.size := by omega
     have hkt1 : ¬ (o.size : Int) < (o.size : Int) := by omega
     have G1 := Lib.hid hg3
     have G2 := Lib.hid hm3
     have G3 := Lib.hid hf3
     have G4 := Lib.hid hgw3
     clear hg3 hm3 hf3 hgw3
     go_wp2
     go_roundw
     case rel =>
      refine ⟨J + 1, by omega, by go_num, grown_trans (grown_trans H1.out (grown_below H6.out _)) G1.out, _, G2.out.mono (by omega), ?_, G4.out⟩
      refine ⟨G3.out.1, fun a b a0 a1 b0 b1 => ?_⟩
      have hh := G3.out.2 a b a0 a1 b0 b1
      dsimp only at hh ⊢
      have hbq : (f a b || inK i J a && inK o o.size b || a == x && inK o o.size b) = (f a b || inK i (J + 1) a && inK o o.size b) := by
       rw [inK_succ, HXX.out]
       cases f a b <;> cases inK i J a <;> cases (a == x) <;> cases inK o o.size b <;> rfl
      rw [hh]
      simp only [hbq]
     case measure => simp [intOf]; omega
  ·obtain rfl : J = i.size := by omega
   have hlt1 : ¬ (i.size : Int) < (i.size : Int) := by omega
   have H1 := Lib.hid hg1
   have H2 := Lib.hid hm1
   have H3 := Lib.hid hf1
   have H4 := Lib.hid hgw
   clear hg1 hm1 hf1 hgw
   go_wp2
   refine bodyPost_end (results_none rfl _ _ _) rfl ?_
   exact ⟨rfl, D1, H2.out.mono (by omega), H3.out, H4.out⟩
theorem inK_fin (s : ByteArray) (ks : List Int) (h : ∀ c : Fin 256, inK s s.size (c.val : Int) = ks.contains (c.val : Int)) (c : Int) (c0 : 0 ≤ c) (c1 : c ≤ 255) : inK s s.size c = ks.contains c := by
 have := h ⟨c.toNat, by omega⟩
 simpa [Int.toNat_of_nonneg c0] using this
theorem in1 : ∀ c : Fin 256, inK ⟨#[0]⟩ 1 (c.val : Int) = ([0] : List Int).contains (c.val : Int) := by decide +kernel
theorem in2 : ∀ c : Fin 256, inK ⟨#[49, 50, 51, 112, 108, 116, 107]⟩ 7 (c.val : Int) = ([49, 50, 51, 112, 108, 116, 107] : List Int).contains (c.val : Int) := by decide +kernel
theorem in3 : ∀ c : Fin 256, inK ⟨#[49, 50, 51, 112, 99, 110, 101, 115, 105]⟩ 9 (c.val : Int) = ([49, 50, 51, 112, 99, 110, 101, 115, 105] : List Int).contains (c.val : Int) := by decide +kernel
theorem in4 : ∀ c : Fin 256, inK ⟨#[46, 101, 115, 110]⟩ 4 (c.val : Int) = ([46, 101, 115, 110] : List Int).contains (c.val : Int) := by decide +kernel
theorem in5 : ∀ c : Fin 256, inK ⟨#[105]⟩ 1 (c.val : Int) = ([105] : List Int).contains (c.val : Int) := by decide +kernel
theorem in6 : ∀ c : Fin 256, inK ⟨#[108]⟩ 1 (c.val : Int) = ([108] : List Int).contains (c.val : Int) := by decide +kernel
theorem in7 : ∀ c : Fin 256, inK ⟨#[116]⟩ 1 (c.val : Int) = ([116] : List Int).contains (c.val : Int) := by decide +kernel
theorem in8 : ∀ c : Fin 256, inK ⟨#[114]⟩ 1 (c.val : Int) = ([114] : List Int).contains (c.val : Int) := by decide +kernel
theorem in9 : ∀ c : Fin 256, inK ⟨#[99]⟩ 1 (c.val : Int) = ([99] : List Int).contains (c.val : Int) := by decide +kernel
def fAll : Int → Int → Bool :=
 putF ⟨#[114]⟩ ⟨#[99]⟩ (putF ⟨#[116]⟩ ⟨#[114]⟩ (putF ⟨#[108]⟩ ⟨#[105]⟩ (putF ⟨#[105]⟩ ⟨#[108]⟩ (putF ⟨#[49, 50, 51, 112, 99, 110, 101, 115, 105]⟩ ⟨#[46, 101, 115, 110]⟩ (putF ⟨#[0]⟩ ⟨#[49, 50, 51, 112, 108, 116, 107]⟩ fun _ _ => false)))))
theorem fAll_ok (a b : Int) (a0 : 0 ≤ a) (a1 : a ≤ 255) (b0 : 0 ≤ b) (b1 : b ≤ 255) : fAll a b = okP a b := by
 unfold fAll putF okP
 rw [inK_fin _ [0] in1 a a0 a1, inK_fin _ _ in2 b b0 b1, inK_fin _ _ in3 a a0 a1, inK_fin _ _ in4 b b0 b1, inK_fin _ [105] in5 a a0 a1, inK_fin _ [108] in6 b b0 b1, inK_fin _ [108] in6 a a0 a1, inK_fin _ [105] in5 b b0 b1,
  inK_fin _ [116] in7 a a0 a1, inK_fin _ [114] in8 b b0 b1, inK_fin _ [114] in8 a a0 a1, inK_fin _ [99] in9 b b0 b1]
 have e : ∀ x c : Int, ([x] : List Int).contains c = (c == x) := fun x c => by simp; rfl
 simp only [e, Bool.false_or]
theorem mapIs_of {W : World} {m n : Nat} {D : DataW Unit} (h : OwnM W m n D) (hf : MapF D fAll) : MapIs W m :=
 ⟨n, D, h, fun a b a0 a1 b0 b1 => ⟨klP a b, key_pair a b a0 a1 b0 b1, by rw [hf.2 a b a0 a1 b0 b1, fAll_ok a b a0 a1 b0 b1]; rfl⟩⟩
set_option pp.maxSteps 3000 in
set_option maxRecDepth 100000 in
set_option maxHeartbeats 8000000 in
theorem pairs_calls (w : World) : Calls Try.prog 131 #[] w fun e w' => e = .returned (.map (some w.heap.size)) ∧ MapIs w' w.heap.size ∧ Below w.heap.size w w' := by
 have hmm := @run_makeMap Try.prog
 have hm0 : OwnM (w.alloc (.map #[] 0)) w.heap.size 0 (.map []) := World.ownsMap_made _ _ _ _
 have hm1 := hm0.alloc (.cells #[.map (some w.heap.size)] 102)
 have hO1 : ((w.alloc (.map #[] 0)).alloc (.cells #[.map (some w.heap.size)] 102)).heap[w.heap.size + 1]? = some (.cells #[.map (some w.heap.size)] 102 (0, 0)) := by
  have := blk_new (w.alloc (.map #[] 0)) (.cells #[.map (some w.heap.size)] 102)
  simpa using this
 have hb1 : Below w.heap.size w ((w.alloc (.map #[] 0)).alloc (.cells #[.map (some w.heap.size)] 102)) := ((Below.refl _ _).alloc (Nat.le_refl _) _).alloc (by simp) _
 have hf0 : MapF (.map [] : DataW Unit) fun _ _ => false := ⟨isMap_empty, fun a b _ _ _ _ => rfl⟩
 have HM := Lib.hid hm1
 have HO := Lib.hid hO1
 have HB := Lib.hid hb1
 clear hm0 hm1 hO1 hb1
 go_enter Try.func131, Try.ntmps131
 go_wp2_with fail
 have hsz : w.heap.size ≤ w.heap.size := Nat.le_refl _
 refine (put_calls ⟨#[0]⟩ ⟨#[49, 50, 51, 112, 108, 116, 107]⟩ (by decide) (by decide) (w.heap.size + 1) w.heap.size 0 _ _ _ HO.out HM.out (by omega) hf0).mono ?_
 rintro e w1 ⟨rfl, D1, hm1, hf1, hg1⟩
 clear HM hmm
 have HO1 := Lib.hid (blk_grown HO.out hg1 (by simp))
 have c1 := blk_cell HO1.out 0
 simp only [List.getElem?_toArray, List.getElem?_cons_zero] at c1
 have HB1 := Lib.hid (pw_below_grown HB.out _ HB.out.size hg1 (by intro k hk; cases hk; exact Nat.le_refl _))
 have HM1 := Lib.hid hm1
 have HF1 := Lib.hid hf1
 clear hm1 hf1 hg1 hf0
 go_wp2_with fail
 refine (put_calls ⟨#[49, 50, 51, 112, 99, 110, 101, 115, 105]⟩ ⟨#[46, 101, 115, 110]⟩ (by decide) (by decide) (w.heap.size + 1) w.heap.size 10100 _ _ _ HO1.out HM1.out (by omega) HF1.out).mono ?_
 rintro e w2 ⟨rfl, D2, hm2, hf2, hg2⟩
 have HO2 := Lib.hid (blk_grown HO1.out hg2 (by simp))
 clear c1
 have c2 := blk_cell HO2.out 0
 simp only [List.getElem?_toArray, List.getElem?_cons_zero] at c2
 have HB2 := Lib.hid (pw_below_grown HB1.out _ HB1.out.size hg2 (by intro k hk; cases hk; exact Nat.le_refl _))
 have HM2 := Lib.hid hm2
 have HF2 := Lib.hid hf2
 clear hm2 hf2 hg2
 go_wp2_with fail
 refine (put_calls ⟨#[105]⟩ ⟨#[108]⟩ (by decide) (by decide) (w.heap.size + 1) w.heap.size 20200 _ _ _ HO2.out HM2.out (by omega) HF2.out).mono ?_
 rintro e w3 ⟨rfl, D3, hm3, hf3, hg3⟩
 have HO3 := Lib.hid (blk_grown HO2.out hg3 (by simp))
 clear c2
 have c3 := blk_cell HO3.out 0
 simp only [List.getElem?_toArray, List.getElem?_cons_zero] at c3
 have HB3 := Lib.hid (pw_below_grown HB2.out _ HB2.out.size hg3 (by intro k hk; cases hk; exact Nat.le_refl _))
 have HM3 := Lib.hid hm3
 have HF3 := Lib.hid hf3
 clear hm3 hf3 hg3
 go_wp2_with fail
 refine (put_calls ⟨#[108]⟩ ⟨#[105]⟩ (by decide) (by decide) (w.heap.size + 1) w.heap.size 30300 _ _ _ HO3.out HM3.out (by omega) HF3.out).mono ?_
 rintro e w4 ⟨rfl, D4, hm4, hf4, hg4⟩
 have HO4 := Lib.hid (blk_grown HO3.out hg4 (by simp))
 clear c3
 have c4 := blk_cell HO4.out 0
 simp only [List.getElem?_toArray, List.getElem?_cons_zero] at c4
 have HB4 := Lib.hid (pw_below_grown HB3.out _ HB3.out.size hg4 (by intro k hk; cases hk; exact Nat.le_refl _))
 have HM4 := Lib.hid hm4
 have HF4 := Lib.hid hf4
 clear hm4 hf4 hg4
 go_wp2_with fail
 refine (put_calls ⟨#[116]⟩ ⟨#[114]⟩ (by decide) (by decide) (w.heap.size + 1) w.heap.size 40400 _ _ _ HO4.out HM4.out (by omega) HF4.out).mono ?_
 rintro e w5 ⟨rfl, D5, hm5, hf5, hg5⟩
 have HO5 := Lib.hid (blk_grown HO4.out hg5 (by simp))
 clear c4
 have c5 := blk_cell HO5.out 0
 simp only [List.getElem?_toArray, List.getElem?_cons_zero] at c5
 have HB5 := Lib.hid (pw_below_grown HB4.out _ HB4.out.size hg5 (by intro k hk; cases hk; exact Nat.le_refl _))
 have HM5 := Lib.hid hm5
 have HF5 := Lib.hid hf5
 clear hm5 hf5 hg5
 go_wp2_with fail
 refine (put_calls ⟨#[114]⟩ ⟨#[99]⟩ (by decide) (by decide) (w.heap.size + 1) w.heap.size 50500 _ _ _ HO5.out HM5.out (by omega) HF5.out).mono ?_
 rintro e w6 ⟨rfl, D6, hm6, hf6, hg6⟩
 have HO6 := Lib.hid (blk_grown HO5.out hg6 (by simp))
 clear c5
 have c6 := blk_cell HO6.out 0
 simp only [List.getElem?_toArray, List.getElem?_cons_zero] at c6
 have HB6 := Lib.hid (pw_below_grown HB5.out _ HB5.out.size hg6 (by intro k hk; cases hk; exact Nat.le_refl _))
 have HM6 := Lib.hid hm6
 have HF6 := Lib.hid hf6
 clear hm6 hf6 hg6
 go_wp2
 go_ret
 exact ⟨rfl, mapIs_of HM6.out HF6.out, HB6.out⟩
set_option maxRecDepth 100000 in
set_option maxHeartbeats 2000000 in
theorem begin_calls (w : World) : Calls Try.prog 91 #[] w fun e w' => ∃ g m, e = .returned (.pointer (some ⟨g, 0, none⟩)) ∧ BAt w' w.heap.size g m (.slice none 0 0) (.slice none 0 0) bld0 ∧ Below w.heap.size w w' := by
 have key : Calls Try.prog 91 #[] w fun e w' => ∃ w1, MapIs w1 w.heap.size ∧ Below w.heap.size w w1 ∧ e = .returned (.pointer (some ⟨w1.heap.size, 0, none⟩)) ∧ w' = w1.alloc (.cells #[.slice none 0 0, .slice none 0 0, .map (some w.heap.size)] 104) := by
  have HP : ∀ (P : Ending → World → Prop), (∀ e w', (e = .returned (.map (some w.heap.size)) ∧ MapIs w' w.heap.size ∧ Below w.heap.size w w') → P e w') → Calls Try.prog 131 #[] w P := fun P hP => (pairs_calls w).mono hP
  go_enter Try.func91, Try.ntmps91
  go_wp2_with fail
  refine (pairs_calls w).mono ?_
  rintro e w1 ⟨rfl, hm, hb⟩
  have HM := Lib.hid hm
  have HB := Lib.hid hb
  clear hm hb
  go_wp2
  go_ret
  exact ⟨w1, HM.out, HB.out, rfl, rfl⟩
 refine key.mono ?_
 rintro e w' ⟨w1, hm, hb, rfl, rfl⟩
 refine ⟨_, _, rfl, ⟨hb.size, blk_new w1 _, own_nil _ _ _ _, own_nil _ _ _ _, map_move hm fun o ho => blk_alloc ho _⟩, hb.alloc hb.size _⟩
end Go.Proofs.Ythcmfjpheanphaa.Pr
namespace Go.Proofs.Ythcmfjpheanphaa.Pr
open Go.RowKit Go.Proofs.YthcmfjpheanphaaW.PrintWords Go.Proofs.YthcmfjpheanphaaW.PrintLast Go.Proofs.YthcmfjpheanphaaW.PrintMore
attribute [local go_sem] max2_int min2_int max_two min_two max_three min_three max_four min_four
mutual
def stylusref01_Case.l0 : Nat → ByteArray → Int → Int → Option (Int)
 | 0, _, _, _ => none
 | k + 1, x0, x3, x4 => if x4 < (x0.size : Int) then (if 0 ≤ x4 then ((stylusref01_Letter.f k (bt x0 x4)).bind fun t138 => (if t138 = true then ((stylusref01_Class.f k (bt x0 x4)).bind fun t139 => (if t139 = 2 then (stylusref01_Case.l0 k x0 (wrap64 (x3 + 1)) (wrap64 (x4 + 1))) else (stylusref01_Case.l0 k x0 x3 (wrap64 (x4 + 1))))) else (some 0))) else (none)) else (if (x0.size : Int) = 0 then (some 0) else (if x3 = 0 then (some 1) else (if x3 = 1 then (if 0 < (x0.size : Int) then ((stylusref01_Class.f k (bt x0 0)).bind fun t140 => (stylusref01_Case.j1 k x0 x3 (t140 == 2))) else (none)) else (stylusref01_Case.j1 k x0 x3 false))))
def stylusref01_Case.j1 : Nat → ByteArray → Int → Bool → Option (Int)
 | 0, _, _, _ => none
 | k + 1, x0, x3, x35 => if x35 = true then (some 2) else (if x3 = (x0.size : Int) then (some 3) else (some 4))
end
def stylusref01_Case.f (k : Nat) (a0 : ByteArray) : Option (Int) := stylusref01_Case.l0 k a0 0 0
theorem stylusref01_Case.mono_l : ∀ k, (∀ y0 y1 y2, LeO (stylusref01_Case.l0 k y0 y1 y2) (stylusref01_Case.l0 (k + 1) y0 y1 y2)) ∧ (∀ y0 y1 y2, LeO (stylusref01_Case.j1 k y0 y1 y2) (stylusref01_Case.j1 (k + 1) y0 y1 y2))
 | 0 => ⟨fun _ _ _ r h => by simp [stylusref01_Case.l0] at h, fun _ _ _ r h => by simp [stylusref01_Case.j1] at h⟩
 | k + 1 => by
  obtain ⟨ih0, ih1⟩ := stylusref01_Case.mono_l k
  refine ⟨?_, ?_⟩
  ·intro y0 y1 y2
   unfold stylusref01_Case.l0
   repeat' first
   | (with_reducible exact ih0 _ _ _)
   | (with_reducible exact ih1 _ _ _)
   | (with_reducible exact stylusref01_Class.mono _ _)
   | (with_reducible exact stylusref01_Letter.mono _ _)
   | (with_reducible exact LeO.refl _)
   | (with_reducible exact LeO.none _)
   | (with_reducible refine LeO.ite ?_ ?_)
   | (with_reducible refine LeO.bind ?_ (fun _ => ?_))
   | exact ih0 _ _ _
   | exact ih1 _ _ _
   | exact stylusref01_Class.mono _ _
   | exact stylusref01_Letter.mono _ _
   | exact LeO.none _
   | refine LeO.ite ?_ ?_
   | refine LeO.bind ?_ (fun _ => ?_)
  ·intro y0 y1 y2
   unfold stylusref01_Case.j1
   repeat' first
   | (with_reducible exact ih0 _ _ _)
   | (with_reducible exact ih1 _ _ _)
   | (with_reducible exact stylusref01_Class.mono _ _)
   | (with_reducible exact stylusref01_Letter.mono _ _)
   | (with_reducible exact LeO.refl _)
   | (with_reducible exact LeO.none _)
   | (with_reducible refine LeO.ite ?_ ?_)
   | (with_reducible refine LeO.bind ?_ (fun _ => ?_))
   | exact ih0 _ _ _
   | exact ih1 _ _ _
   | exact stylusref01_Class.mono _ _
   | exact stylusref01_Letter.mono _ _
   | exact LeO.none _
   | refine LeO.ite ?_ ?_
   | refine LeO.bind ?_ (fun _ => ?_)
theorem stylusref01_Case.mono : ∀ a0 k, LeO (stylusref01_Case.f k a0) (stylusref01_Case.f (k + 1) a0) := by
 intro a0 k
 obtain ⟨ih0, ih1⟩ := stylusref01_Case.mono_l k
 unfold stylusref01_Case.f
 repeat' first
   | (with_reducible exact ih0 _ _ _)
   | (with_reducible exact ih1 _ _ _)
   | (with_reducible exact stylusref01_Class.mono _ _)
   | (with_reducible exact stylusref01_Letter.mono _ _)
   | (with_reducible exact LeO.refl _)
   | (with_reducible exact LeO.none _)
   | (with_reducible refine LeO.ite ?_ ?_)
   | (with_reducible refine LeO.bind ?_ (fun _ => ?_))
   | exact ih0 _ _ _
   | exact ih1 _ _ _
   | exact stylusref01_Class.mono _ _
   | exact stylusref01_Letter.mono _ _
   | exact LeO.none _
   | refine LeO.ite ?_ ?_
   | refine LeO.bind ?_ (fun _ => ?_)
end Go.Proofs.Ythcmfjpheanphaa.Pr
namespace Go.Proofs.Ythcmfjpheanphaa.Pure
open Go.RowKit Go.Proofs.Ythcmfjpheanphaa.Pr Go.Proofs.YthcmfjpheanphaaW.PrintWords
theorem bt_extract (s : ByteArray) (i q : Nat) (h : q ≤ s.size) (j : Nat) (hj : i + j < q) : bt (s.extract i q) (j : Int) = bt s ((i + j : Nat) : Int) := by
 have h1 : (j : Int).toNat < (s.extract i q).size := by rw [ByteArray.size_extract]; simp; omega
 have h2 : ((i + j : Nat) : Int).toNat < s.size := by simp; omega
 simp only [bt, dif_pos h1, dif_pos h2]
 simp only [ByteArray.getElem_extract, Int.toNat_natCast]
end Go.Proofs.Ythcmfjpheanphaa.Pure
namespace Go.Proofs.Ythcmfjpheanphaa.Pr
open Go.RowKit Go.Proofs.YthcmfjpheanphaaW.PrintWords
def refStep (s : ByteArray) (k : Nat) (L : List S27) : List S27 :=
 match L.getLast? with
 | some p => if clsAt s k = clsAt s (k - 1) then L.dropLast ++ [⟨p.f0, p.f1 ++ s.extract k (k + 1)⟩] else L ++ [⟨k, s.extract k (k + 1)⟩]
 | none => L ++ [⟨k, s.extract k (k + 1)⟩]
def refL (s : ByteArray) : Nat → List S27
 | 0 => []
 | k + 1 => refStep s k (refL s k)
def stylusref01_Runs.f (a0 : ByteArray) : Option (List S27) := if a0.size ≤ 1000000 then some (refL a0 a0.size) else none
end Go.Proofs.Ythcmfjpheanphaa.Pr
namespace Go.Proofs.Ythcmfjpheanphaa.Pure
open Go.RowKit Go.Proofs.Ythcmfjpheanphaa.Pr Go.Proofs.YthcmfjpheanphaaW.PrintWords
theorem wrap_one {i : Nat} (h : i < 9223372036854775807) : wrap64 ((i : Int) + 1) = ((i + 1 : Nat) : Int) := by
 unfold wrap64; omega
theorem ext_snoc (s : ByteArray) (i j : Nat) (h : i ≤ j) : s.extract i j ++ s.extract j (j + 1) = s.extract i (j + 1) := by
 rw [ByteArray.extract_append_extract]
 congr 1 <;> omega
end Go.Proofs.Ythcmfjpheanphaa.Pure
