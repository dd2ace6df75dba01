/- Texts of this seat, one behind the other. -/
import Derived.Maps.AppendAt
import Derived.Test.YthcmfjpheanphaaXTreeChecks1
import Derived.Test.YthcmfjpheanphaaXTreeChecks2
set_option linter.unusedVariables false
set_option linter.unusedSimpArgs false
namespace Go.Proofs.Ythcmfjpheanphaa.Pr
open Go.RowKit Go.Maps Go.Proofs.YthcmfjpheanphaaW.PrintWords
attribute [local go_sem] Oper.semAt_some
def mayX (f0 : Int) (f2 : Int) (f4 : Bool) (r : List Opn) (k : Int) : Bool :=
 if (!okP f0 k || (f0 == 105 && f4 && k != 108)) = true then false
 else if (k == 101 || k == 115) = true then hasP k r == 0
 else if (k == 99) = true then decide (f2 < 8)
 else if (k == 110) = true then hasP 110 r == 0 && hasP 99 r == 0 && (match aroundP flowK r r.length with | some j => (r.getD j zOpn).note == 0 | none => false)
 else true
theorem nat_zero (n : Nat) : ((n : Int) == 0) = (n == 0) := by
 rw [Bool.eq_iff_iff]; simp
theorem may_has {f0 f2 : Int} {f4 R : Bool} {r : List Opn} {k : Int} (h : mayX f0 f2 f4 r k = R) (ho : okP f0 k = true) (hk : (k == 101 || k == 115) = true) (h5 : (f0 == 105 && f4 && k != 108) = false) : R = ((hasP k r : Int) == 0) := by
 rw [← h, nat_zero]; unfold mayX; rw [ho, h5, hk]; rfl
theorem may_kids {f0 f2 : Int} {f4 R : Bool} {r : List Opn} (h : mayX f0 f2 f4 r 99 = R) (ho : okP f0 99 = true) (h5 : (f0 == 105 && f4 && (99 : Int) != 108) = false) : R = decide (f2 < 8) := by
 rw [← h]; unfold mayX; rw [ho, h5]; rfl
theorem may_else {f0 f2 : Int} {f4 R : Bool} {r : List Opn} {k : Int} (h : mayX f0 f2 f4 r k = R) (ho : okP f0 k = true) (h5 : (f0 == 105 && f4 && k != 108) = false) (k1 : (k == 101) = false) (k2 : (k == 115) = false) (k3 : (k == 99) = false) (k4 : (k == 110) = false) : R = true := by
 rw [← h]; unfold mayX; rw [ho, h5, k1, k2, k3, k4]; rfl
theorem may_note {f0 f2 : Int} {f4 R : Bool} {r : List Opn} (h : mayX f0 f2 f4 r 110 = R) (ho : okP f0 110 = true) (h5 : (f0 == 105 && f4 && (110 : Int) != 108) = false) :
  R = (((hasP 110 r : Int) == 0) && ((hasP 99 r : Int) == 0) && (match aroundP flowK r r.length with | some j => (r.getD j zOpn).note == 0 | none => false)) := by
 rw [← h, nat_zero, nat_zero]; unfold mayX; rw [ho, h5]; rfl
set_option pp.maxSteps 3000 in
set_option maxRecDepth 100000 in
set_option maxHeartbeats 16000000 in
theorem may_calls (B0 g m : Nat) (vr vt : Value) (s : Bld) (k : Int) (w : World) (hk0 : 0 ≤ k) (hk1 : k ≤ 255) (hn : s.row.length ≤ 1000000) (hkb : KindsB s.row) (hb : BAt w B0 g m vr vt s) :
  Calls Try.prog 104 #[.pointer (some ⟨g, 0, none⟩), .int .u8 k] w fun e w' => e = .returned (.bool (mayP s.row k)) ∧ Below w.heap.size w w' := by
 obtain ⟨A, c, rfl⟩ := own_slice hb.row
 have hg0 := blk_cell hb.blk 0
 simp only [List.getElem?_toArray, List.getElem?_cons_zero] at hg0
 obtain ⟨R, hR⟩ : ∃ R, mayP s.row k = R := ⟨_, rfl⟩
 rw [hR]
 have HB := Lib.hid hb
 have HR := Lib.hid hR
 clear hR hb
 have hkt : 0 ≤ (topP s.row).kind ∧ (topP s.row).kind ≤ 255 := by
  unfold topP
  cases hl : s.row.getLast? with
  | none => exact ⟨by decide, by decide⟩
  | some y => exact hkb y (List.mem_of_getLast? hl)
 go_enter Try.func104, Try.ntmps104
 go_wp2_with (go_at_call 134; refine (top_calls B0 _ s.row _ hn HB.out.row).mono ?_; rintro e w1 ⟨b, o, rfl, hb1, hcc⟩)
 have HB1 := Lib.hid (HB.out.below hb1)
 have hm := map_look HB1.out.map (topP s.row).kind k hkt.1 hkt.2 hk0 hk1
 have hx0 : ∀ i, i < 7 → ∀ W, Below w1.heap.size w1 W → ∀ u, (cellsO (topP s.row))[i]? = some u → W.cell? ⟨b, o + i, none⟩ = some u := fun i hi W hW u hu =>
  (hW.cell (World.block_lt_of_cell? w1 _ ((hcc i hi).trans hu))).trans ((hcc i hi).trans hu)
 have hg1 : ∀ W, Below w1.heap.size w1 W → W.heap[g]? = some (.cells #[.slice A s.row.length c, vt, .map (some m)] 104 (0, 0)) := fun W hW => blk_below HB1.out.blk hW
 have hlk : ∀ W, Below w1.heap.size w1 W → (Instr.lookup 102 (.map (some m)) (.agg #[.int .u8 (topP s.row).kind, .int .u8 k]) false).run Try.prog W = .ok (.int .i64 (okI (topP s.row).kind k)) W := fun W hW =>
  map_look (map_move HB1.out.map fun o ho => blk_below ho hW) _ _ hkt.1 hkt.2 hk0 hk1
 have hmay : mayX (topP s.row).kind (topP s.row).kids (topP s.row).past s.row k = R := HR.out
 generalize topP s.row = x at *
 obtain ⟨f0, f1, f2, f3, f4, f5, f6⟩ := x
 simp only at hmay hlk hkt hm
 have HX := Lib.hid hx0
 have HG := Lib.hid hg1
 have HL := Lib.hid hlk
 have HM := Lib.hid hmay
 have HKB := Lib.hid hkb
 clear hcc hx0 hg1 hlk hm hmay hg0 hkb
 have hlook : okI f0 k = 1 ∧ okP f0 k = true ∨ okI f0 k = 0 ∧ okP f0 k = false := by
  unfold okI
  cases okP f0 k <;> simp
 rcases hlook with ⟨hI, hP⟩ | ⟨hI, hP⟩
 all_goals rw [hI] at HL
 all_goals have HI := Lib.hid (And.intro hI hP)
 all_goals clear hI hP
 ·have hcase : (f0 == 105) = false ∨ (f0 = 105 ∧ f4 = false) ∨ (f0 = 105 ∧ f4 = true ∧ k = 108) ∨ (f0 = 105 ∧ f4 = true ∧ (k != 108) = true) := by
   by_cases h1 : f0 = 105
   ·right
    cases f4
    ·exact .inl ⟨h1, rfl⟩
    ·right
     by_cases h2 : k = 108
     ·exact .inl ⟨h1, rfl, h2⟩
     ·exact .inr ⟨h1, rfl, bne_iff_ne.2 h2⟩
   ·left; exact beq_eq_false_iff_ne.2 h1
  have hkc : k = 101 ∨ k = 115 ∨ k = 99 ∨ k = 110 ∨ ((k == 101) = false ∧ (k == 115) = false ∧ (k == 99) = false ∧ (k == 110) = false) := by
   simp only [beq_eq_false_iff_ne]; omega
  rcases hcase with h5 | ⟨rfl, rfl⟩ | ⟨rfl, rfl, rfl⟩ | ⟨rfl, rfl, h8⟩
  ·rcases hkc with rfl | rfl | rfl | rfl | ⟨k1, k2, k3, k4⟩
   ·refine Go.Det.region_all (fun W => Below w1.heap.size w1 W) (by kernel_rfl) (by kernel_rfl) (below_drew1 (Below.refl _ _)) ?_
    repeat
     apply Go.Det.seqW_cons
     focus
      intro W hS
      replace hS : Below w1.heap.size w1 W := hS
      have g2 := blk_cell (HG.out W hS) 2
      have x0 := HX.out 0 (by omega) W hS _ rfl
      have x4 := HX.out 4 (by omega) W hS _ rfl
      have hl := HL.out W hS
      simp only [List.getElem?_toArray, List.getElem?_cons_succ, List.getElem?_cons_zero, Nat.add_zero] at g2 x0
      go_wp2
      exact Go.Det.AtEnd.mk hS
    refine Go.Det.seqW_nil ?_
    intro W hS
    replace hS : Below w1.heap.size w1 W := hS
    have HBW := Lib.hid (HB1.out.below hS)
    have HBE := Lib.hid (hb1.trans (hS.mono hb1.size))
    have gw0 := blk_cell HBW.out.blk 0
    have x2 := HX.out 2 (by omega) W hS _ rfl
    simp only [List.getElem?_toArray, List.getElem?_cons_succ, List.getElem?_cons_zero, Nat.add_zero] at gw0 x2
    clear hS
    simp only [Exit.then]
    go_wp2_with (go_at_call 135; refine (hasO_calls B0 _ s.row _ _ hn HBW.out.row).mono ?_; rintro e w2 ⟨rfl, hb2⟩)
    go_ret
    refine ⟨?_, HBE.out.trans (hb2.mono HBE.out.size)⟩
    rw [may_has HM.out HI.out.2 (by decide) (by rw [h5]; rfl)]
    rfl
   ·refine Go.Det.region_all (fun W => Below w1.heap.size w1 W) (by kernel_rfl) (by kernel_rfl) (below_drew1 (Below.refl _ _)) ?_
    repeat
     apply Go.Det.seqW_cons
     focus
      intro W hS
      replace hS : Below w1.heap.size w1 W := hS
      have g2 := blk_cell (HG.out W hS) 2
      have x0 := HX.out 0 (by omega) W hS _ rfl
      have x4 := HX.out 4 (by omega) W hS _ rfl
      have hl := HL.out W hS
      simp only [List.getElem?_toArray, List.getElem?_cons_succ, List.getElem?_cons_zero, Nat.add_zero] at g2 x0
      go_wp2
      exact Go.Det.AtEnd.mk hS
    refine Go.Det.seqW_nil ?_
    intro W hS
    replace hS : Below w1.heap.size w1 W := hS
    have HBW := Lib.hid (HB1.out.below hS)
    have HBE := Lib.hid (hb1.trans (hS.mono hb1.size))
    have gw0 := blk_cell HBW.out.blk 0
    have x2 := HX.out 2 (by omega) W hS _ rfl
    simp only [List.getElem?_toArray, List.getElem?_cons_succ, List.getElem?_cons_zero, Nat.add_zero] at gw0 x2
    clear hS
    simp only [Exit.then]
    go_wp2_with (go_at_call 135; refine (hasO_calls B0 _ s.row _ _ hn HBW.out.row).mono ?_; rintro e w2 ⟨rfl, hb2⟩)
    go_ret
    refine ⟨?_, HBE.out.trans (hb2.mono HBE.out.size)⟩
    rw [may_has HM.out HI.out.2 (by decide) (by rw [h5]; rfl)]
    rfl
   ·refine Go.Det.region_all (fun W => Below w1.heap.size w1 W) (by kernel_rfl) (by kernel_rfl) (below_drew1 (Below.refl _ _)) ?_
    repeat
     apply Go.Det.seqW_cons
     focus
      intro W hS
      replace hS : Below w1.heap.size w1 W := hS
      have g2 := blk_cell (HG.out W hS) 2
      have x0 := HX.out 0 (by omega) W hS _ rfl
      have x4 := HX.out 4 (by omega) W hS _ rfl
      have hl := HL.out W hS
      simp only [List.getElem?_toArray, List.getElem?_cons_succ, List.getElem?_cons_zero, Nat.add_zero] at g2 x0
      go_wp2
      exact Go.Det.AtEnd.mk hS
    refine Go.Det.seqW_nil ?_
    intro W hS
    replace hS : Below w1.heap.size w1 W := hS
    have HBW := Lib.hid (HB1.out.below hS)
    have HBE := Lib.hid (hb1.trans (hS.mono hb1.size))
    have gw0 := blk_cell HBW.out.blk 0
    have x2 := HX.out 2 (by omega) W hS _ rfl
    simp only [List.getElem?_toArray, List.getElem?_cons_succ, List.getElem?_cons_zero, Nat.add_zero] at gw0 x2
    clear hS
    simp only [Exit.then]
    go_wp2
    go_ret
    refine ⟨?_, HBE.out⟩
    rw [may_kids HM.out HI.out.2 (by rw [h5]; rfl)]
    rfl
   ·refine Go.Det.region_all (fun W => Below w1.heap.size w1 W) (by kernel_rfl) (by kernel_rfl) (below_drew1 (Below.refl _ _)) ?_
    repeat
     apply Go.Det.seqW_cons
     focus
      intro W hS
      replace hS : Below w1.heap.size w1 W := hS
      have g2 := blk_cell (HG.out W hS) 2
      have x0 := HX.out 0 (by omega) W hS _ rfl
      have x4 := HX.out 4 (by omega) W hS _ rfl
      have hl := HL.out W hS
      simp only [List.getElem?_toArray, List.getElem?_cons_succ, List.getElem?_cons_zero, Nat.add_zero] at g2 x0
      go_wp2
      exact Go.Det.AtEnd.mk hS
    refine Go.Det.seqW_nil ?_
    intro W hS
    replace hS : Below w1.heap.size w1 W := hS
    have HBW := Lib.hid (HB1.out.below hS)
    have HBE := Lib.hid (hb1.trans (hS.mono hb1.size))
    have gw0 := blk_cell HBW.out.blk 0
    have x2 := HX.out 2 (by omega) W hS _ rfl
    simp only [List.getElem?_toArray, List.getElem?_cons_succ, List.getElem?_cons_zero, Nat.add_zero] at gw0 x2
    clear hS
    simp only [Exit.then]
    have hlen := hn
    cases hA : aroundP flowK s.row s.row.length with
    | none =>
     have hAC := around_calls B0 A c s.row _ _ finds_flow W hn HKB.out HBW.out.row
     rw [hA] at hAC
     have HAC := Lib.hid hAC
     clear hAC
     cases h1 : ((hasP 110 s.row : Int) == 0)
     ·go_wp2_with (first | (go_at_call 133; (with_reducible refine HAC.out.mono ?_); rintro e wa ⟨rfl, rfl⟩; simp only [ptrO]) | (go_at_call 135; (with_reducible refine (hasO_calls B0 _ s.row 110 _ hn HBW.out.row).mono ?_); rintro e w2 ⟨rfl, hb2⟩))
      go_ret
      refine ⟨?_, HBE.out.trans (hb2.mono HBE.out.size)⟩
      rw [may_note HM.out HI.out.2 (by rw [h5]; rfl), h1]
      rfl
     ·have gw0' := fun (w2 : World) (hb2 : Below W.heap.size W w2) => blk_cell (HBW.out.below hb2).blk 0
      simp only [List.getElem?_toArray, List.getElem?_cons_zero] at gw0'
      have GW := Lib.hid gw0'
      clear gw0'
      cases h2 : ((hasP 99 s.row : Int) == 0)
      all_goals
       go_wp2_with (first | (go_at_call 133; (with_reducible refine HAC.out.mono ?_); rintro e wa ⟨rfl, rfl⟩; simp only [ptrO]) | (go_at_call 135; (with_reducible refine (hasO_calls B0 _ s.row 110 _ hn HBW.out.row).mono ?_); rintro e w2 ⟨rfl, hb2⟩; have gw2 := GW.out _ hb2) | (go_at_call 135; (with_reducible refine (hasO_calls B0 _ s.row 99 _ hn (HBW.out.below hb2).row).mono ?_); rintro e w3 ⟨rfl, hb3⟩))
       go_ret
       refine ⟨?_, (HBE.out.trans (hb2.mono HBE.out.size)).trans (hb3.mono (Nat.le_trans HBE.out.size hb2.size))⟩
       rw [may_note HM.out HI.out.2 (by rw [h5]; rfl), h1, h2, hA]
       rfl
    | some j =>
     have hjl := aroundP_lt _ _ _ _ hA
     obtain ⟨ga, ca, hae, hao⟩ := rowO_form HBW.out.row (by omega)
     simp only [Value.slice.injEq] at hae
     obtain ⟨rfl, -, rfl⟩ := hae
     have hAC := around_calls B0 _ c s.row _ _ finds_flow W hn HKB.out HBW.out.row
     rw [hA] at hAC
     have HAC := Lib.hid hAC
     clear hAC hao
     cases h1 : ((hasP 110 s.row : Int) == 0)
     ·go_wp2_with (first | (go_at_call 133; (with_reducible refine HAC.out.mono ?_); rintro e wa ⟨rfl, rfl⟩; simp only [ptrO]) | (go_at_call 135; (with_reducible refine (hasO_calls B0 _ s.row 110 _ hn HBW.out.row).mono ?_); rintro e w2 ⟨rfl, hb2⟩))
      go_ret
      refine ⟨?_, HBE.out.trans (hb2.mono HBE.out.size)⟩
      rw [may_note HM.out HI.out.2 (by rw [h5]; rfl), h1]
      rfl
     ·have gw0' := fun (w2 : World) (hb2 : Below W.heap.size W w2) => blk_cell (HBW.out.below hb2).blk 0
      have gn := fun (w2 : World) (hb2 : Below W.heap.size W w2) => rowO_cell (HBW.out.below hb2).row j 3 hjl (by omega)
      simp only [List.getElem?_toArray, List.getElem?_cons_zero] at gw0'
      simp only [cellsO, List.getElem?_cons_succ, List.getElem?_cons_zero] at gn
      obtain ⟨nt, hnt⟩ : ∃ nt, (s.row.getD j zOpn).note = nt := ⟨_, rfl⟩
      rw [hnt] at gn
      have HNT := Lib.hid hnt
      clear hnt
      have GW := Lib.hid gw0'
      have GN := Lib.hid gn
      clear gw0' gn
      cases h2 : ((hasP 99 s.row : Int) == 0)
      all_goals
       go_wp2_with (first | (go_at_call 133; (with_reducible refine HAC.out.mono ?_); rintro e wa ⟨rfl, rfl⟩; simp only [ptrO]) | (go_at_call 135; (with_reducible refine (hasO_calls B0 _ s.row 110 _ hn HBW.out.row).mono ?_); rintro e w2 ⟨rfl, hb2⟩; have gw2 := GW.out _ hb2) | (go_at_call 135; (with_reducible refine (hasO_calls B0 _ s.row 99 _ hn (HBW.out.below hb2).row).mono ?_); rintro e w3 ⟨rfl, hb3⟩; have gn3 := GN.out _ (hb2.trans (hb3.mono hb2.size))))
       go_ret
       refine ⟨?_, (HBE.out.trans (hb2.mono HBE.out.size)).trans (hb3.mono (Nat.le_trans HBE.out.size hb2.size))⟩
       rw [may_note HM.out HI.out.2 (by rw [h5]; rfl), h1, h2, hA]
       simp only [HNT.out]
       rfl
   ·refine Go.Det.region_all (fun W => Below w1.heap.size w1 W) (by kernel_rfl) (by kernel_rfl) (below_drew1 (Below.refl _ _)) ?_
    repeat
     apply Go.Det.seqW_cons
     focus
      intro W hS
      replace hS : Below w1.heap.size w1 W := hS
      have g2 := blk_cell (HG.out W hS) 2
      have x0 := HX.out 0 (by omega) W hS _ rfl
      have x4 := HX.out 4 (by omega) W hS _ rfl
      have hl := HL.out W hS
      simp only [List.getElem?_toArray, List.getElem?_cons_succ, List.getElem?_cons_zero, Nat.add_zero] at g2 x0
      go_wp2
      exact Go.Det.AtEnd.mk hS
    refine Go.Det.seqW_nil ?_
    intro W hS
    replace hS : Below w1.heap.size w1 W := hS
    have HBW := Lib.hid (HB1.out.below hS)
    have HBE := Lib.hid (hb1.trans (hS.mono hb1.size))
    have gw0 := blk_cell HBW.out.blk 0
    have x2 := HX.out 2 (by omega) W hS _ rfl
    simp only [List.getElem?_toArray, List.getElem?_cons_succ, List.getElem?_cons_zero, Nat.add_zero] at gw0 x2
    clear hS
    simp only [Exit.then]
    go_wp2
    go_ret
    refine ⟨?_, HBE.out⟩
    rw [may_else HM.out HI.out.2 (by rw [h5]; rfl) k1 k2 k3 k4]
    rfl
  ·rcases hkc with rfl | rfl | rfl | rfl | ⟨k1, k2, k3, k4⟩
   ·refine Go.Det.region_all (fun W => Below w1.heap.size w1 W) (by kernel_rfl) (by kernel_rfl) (below_drew1 (Below.refl _ _)) ?_
    repeat
     apply Go.Det.seqW_cons
     focus
      intro W hS
      replace hS : Below w1.heap.size w1 W := hS
      have g2 := blk_cell (HG.out W hS) 2
      have x0 := HX.out 0 (by omega) W hS _ rfl
      have x4 := HX.out 4 (by omega) W hS _ rfl
      have hl := HL.out W hS
      simp only [List.getElem?_toArray, List.getElem?_cons_succ, List.getElem?_cons_zero, Nat.add_zero] at g2 x0
      go_wp2
      exact Go.Det.AtEnd.mk hS
    refine Go.Det.seqW_nil ?_
    intro W hS
    replace hS : Below w1.heap.size w1 W := hS
    have HBW := Lib.hid (HB1.out.below hS)
    have HBE := Lib.hid (hb1.trans (hS.mono hb1.size))
    have gw0 := blk_cell HBW.out.blk 0
    have x2 := HX.out 2 (by omega) W hS _ rfl
    simp only [List.getElem?_toArray, List.getElem?_cons_succ, List.getElem?_cons_zero, Nat.add_zero] at gw0 x2
    clear hS
    simp only [Exit.then]
    go_wp2_with (go_at_call 135; refine (hasO_calls B0 _ s.row _ _ hn HBW.out.row).mono ?_; rintro e w2 ⟨rfl, hb2⟩)
    go_ret
    refine ⟨?_, HBE.out.trans (hb2.mono HBE.out.size)⟩
    rw [may_has HM.out HI.out.2 (by decide) (by rfl)]
    rfl
   ·refine Go.Det.region_all (fun W => Below w1.heap.size w1 W) (by kernel_rfl) (by kernel_rfl) (below_drew1 (Below.refl _ _)) ?_
    repeat
     apply Go.Det.seqW_cons
     focus
      intro W hS
      replace hS : Below w1.heap.size w1 W := hS
      have g2 := blk_cell (HG.out W hS) 2
      have x0 := HX.out 0 (by omega) W hS _ rfl
      have x4 := HX.out 4 (by omega) W hS _ rfl
      have hl := HL.out W hS
      simp only [List.getElem?_toArray, List.getElem?_cons_succ, List.getElem?_cons_zero, Nat.add_zero] at g2 x0
      go_wp2
      exact Go.Det.AtEnd.mk hS
    refine Go.Det.seqW_nil ?_
    intro W hS
    replace hS : Below w1.heap.size w1 W := hS
    have HBW := Lib.hid (HB1.out.below hS)
    have HBE := Lib.hid (hb1.trans (hS.mono hb1.size))
    have gw0 := blk_cell HBW.out.blk 0
    have x2 := HX.out 2 (by omega) W hS _ rfl
    simp only [List.getElem?_toArray, List.getElem?_cons_succ, List.getElem?_cons_zero, Nat.add_zero] at gw0 x2
    clear hS
    simp only [Exit.then]
    go_wp2_with (go_at_call 135; refine (hasO_calls B0 _ s.row _ _ hn HBW.out.row).mono ?_; rintro e w2 ⟨rfl, hb2⟩)
    go_ret
    refine ⟨?_, HBE.out.trans (hb2.mono HBE.out.size)⟩
    rw [may_has HM.out HI.out.2 (by decide) (by rfl)]
    rfl
   ·refine Go.Det.region_all (fun W => Below w1.heap.size w1 W) (by kernel_rfl) (by kernel_rfl) (below_drew1 (Below.refl _ _)) ?_
    repeat
     apply Go.Det.seqW_cons
     focus
      intro W hS
      replace hS : Below w1.heap.size w1 W := hS
      have g2 := blk_cell (HG.out W hS) 2
      have x0 := HX.out 0 (by omega) W hS _ rfl
      have x4 := HX.out 4 (by omega) W hS _ rfl
      have hl := HL.out W hS
      simp only [List.getElem?_toArray, List.getElem?_cons_succ, List.getElem?_cons_zero, Nat.add_zero] at g2 x0
      go_wp2
      exact Go.Det.AtEnd.mk hS
    refine Go.Det.seqW_nil ?_
    intro W hS
    replace hS : Below w1.heap.size w1 W := hS
    have HBW := Lib.hid (HB1.out.below hS)
    have HBE := Lib.hid (hb1.trans (hS.mono hb1.size))
    have gw0 := blk_cell HBW.out.blk 0
    have x2 := HX.out 2 (by omega) W hS _ rfl
    simp only [List.getElem?_toArray, List.getElem?_cons_succ, List.getElem?_cons_zero, Nat.add_zero] at gw0 x2
    clear hS
    simp only [Exit.then]
    go_wp2
    go_ret
    refine ⟨?_, HBE.out⟩
    rw [may_kids HM.out HI.out.2 (by rfl)]
    rfl
   ·refine Go.Det.region_all (fun W => Below w1.heap.size w1 W) (by kernel_rfl) (by kernel_rfl) (below_drew1 (Below.refl _ _)) ?_
    repeat
     apply Go.Det.seqW_cons
     focus
      intro W hS
      replace hS : Below w1.heap.size w1 W := hS
      have g2 := blk_cell (HG.out W hS) 2
      have x0 := HX.out 0 (by omega) W hS _ rfl
      have x4 := HX.out 4 (by omega) W hS _ rfl
      have hl := HL.out W hS
      simp only [List.getElem?_toArray, List.getElem?_cons_succ, List.getElem?_cons_zero, Nat.add_zero] at g2 x0
      go_wp2
      exact Go.Det.AtEnd.mk hS
    refine Go.Det.seqW_nil ?_
    intro W hS
    replace hS : Below w1.heap.size w1 W := hS
    have HBW := Lib.hid (HB1.out.below hS)
    have HBE := Lib.hid (hb1.trans (hS.mono hb1.size))
    have gw0 := blk_cell HBW.out.blk 0
    have x2 := HX.out 2 (by omega) W hS _ rfl
    simp only [List.getElem?_toArray, List.getElem?_cons_succ, List.getElem?_cons_zero, Nat.add_zero] at gw0 x2
    clear hS
    simp only [Exit.then]
    have hlen := hn
    cases hA : aroundP flowK s.row s.row.length with
    | none =>
     have hAC := around_calls B0 A c s.row _ _ finds_flow W hn HKB.out HBW.out.row
     rw [hA] at hAC
     have HAC := Lib.hid hAC
     clear hAC
     cases h1 : ((hasP 110 s.row : Int) == 0)
     ·go_wp2_with (first | (go_at_call 133; (with_reducible refine HAC.out.mono ?_); rintro e wa ⟨rfl, rfl⟩; simp only [ptrO]) | (go_at_call 135; (with_reducible refine (hasO_calls B0 _ s.row 110 _ hn HBW.out.row).mono ?_); rintro e w2 ⟨rfl, hb2⟩))
      go_ret
      refine ⟨?_, HBE.out.trans (hb2.mono HBE.out.size)⟩
      rw [may_note HM.out HI.out.2 (by rfl), h1]
      rfl
     ·have gw0' := fun (w2 : World) (hb2 : Below W.heap.size W w2) => blk_cell (HBW.out.below hb2).blk 0
      simp only [List.getElem?_toArray, List.getElem?_cons_zero] at gw0'
      have GW := Lib.hid gw0'
      clear gw0'
      cases h2 : ((hasP 99 s.row : Int) == 0)
      all_goals
       go_wp2_with (first | (go_at_call 133; (with_reducible refine HAC.out.mono ?_); rintro e wa ⟨rfl, rfl⟩; simp only [ptrO]) | (go_at_call 135; (with_reducible refine (hasO_calls B0 _ s.row 110 _ hn HBW.out.row).mono ?_); rintro e w2 ⟨rfl, hb2⟩; have gw2 := GW.out _ hb2) | (go_at_call 135; (with_reducible refine (hasO_calls B0 _ s.row 99 _ hn (HBW.out.below hb2).row).mono ?_); rintro e w3 ⟨rfl, hb3⟩))
       go_ret
       refine ⟨?_, (HBE.out.trans (hb2.mono HBE.out.size)).trans (hb3.mono (Nat.le_trans HBE.out.size hb2.size))⟩
       rw [may_note HM.out HI.out.2 (by rfl), h1, h2, hA]
       rfl
    | some j =>
     have hjl := aroundP_lt _ _ _ _ hA
     obtain ⟨ga, ca, hae, hao⟩ := rowO_form HBW.out.row (by omega)
     simp only [Value.slice.injEq] at hae
     obtain ⟨rfl, -, rfl⟩ := hae
     have hAC := around_calls B0 _ c s.row _ _ finds_flow W hn HKB.out HBW.out.row
     rw [hA] at hAC
     have HAC := Lib.hid hAC
     clear hAC hao
     cases h1 : ((hasP 110 s.row : Int) == 0)
     ·go_wp2_with (first | (go_at_call 133; (with_reducible refine HAC.out.mono ?_); rintro e wa ⟨rfl, rfl⟩; simp only [ptrO]) | (go_at_call 135; (with_reducible refine (hasO_calls B0 _ s.row 110 _ hn HBW.out.row).mono ?_); rintro e w2 ⟨rfl, hb2⟩))
      go_ret
      refine ⟨?_, HBE.out.trans (hb2.mono HBE.out.size)⟩
      rw [may_note HM.out HI.out.2 (by rfl), h1]
      rfl
     ·have gw0' := fun (w2 : World) (hb2 : Below W.heap.size W w2) => blk_cell (HBW.out.below hb2).blk 0
      have gn := fun (w2 : World) (hb2 : Below W.heap.size W w2) => rowO_cell (HBW.out.below hb2).row j 3 hjl (by omega)
      simp only [List.getElem?_toArray, List.getElem?_cons_zero] at gw0'
      simp only [cellsO, List.getElem?_cons_succ, List.getElem?_cons_zero] at gn
      obtain ⟨nt, hnt⟩ : ∃ nt, (s.row.getD j zOpn).note = nt := ⟨_, rfl⟩
      rw [hnt] at gn
      have HNT := Lib.hid hnt
      clear hnt
      have GW := Lib.hid gw0'
      have GN := Lib.hid gn
      clear gw0' gn
      cases h2 : ((hasP 99 s.row : Int) == 0)
      all_goals
       go_wp2_with (first | (go_at_call 133; (with_reducible refine HAC.out.mono ?_); rintro e wa ⟨rfl, rfl⟩; simp only [ptrO]) | (go_at_call 135; (with_reducible refine (hasO_calls B0 _ s.row 110 _ hn HBW.out.row).mono ?_); rintro e w2 ⟨rfl, hb2⟩; have gw2 := GW.out _ hb2) | (go_at_call 135; (with_reducible refine (hasO_calls B0 _ s.row 99 _ hn (HBW.out.below hb2).row).mono ?_); rintro e w3 ⟨rfl, hb3⟩; have gn3 := GN.out _ (hb2.trans (hb3.mono hb2.size))))
       go_ret
       refine ⟨?_, (HBE.out.trans (hb2.mono HBE.out.size)).trans (hb3.mono (Nat.le_trans HBE.out.size hb2.size))⟩
       rw [may_note HM.out HI.out.2 (by rfl), h1, h2, hA]
       simp only [HNT.out]
       rfl
   ·refine Go.Det.region_all (fun W => Below w1.heap.size w1 W) (by kernel_rfl) (by kernel_rfl) (below_drew1 (Below.refl _ _)) ?_
    repeat
     apply Go.Det.seqW_cons
     focus
      intro W hS
      replace hS : Below w1.heap.size w1 W := hS
      have g2 := blk_cell (HG.out W hS) 2
      have x0 := HX.out 0 (by omega) W hS _ rfl
      have x4 := HX.out 4 (by omega) W hS _ rfl
      have hl := HL.out W hS
      simp only [List.getElem?_toArray, List.getElem?_cons_succ, List.getElem?_cons_zero, Nat.add_zero] at g2 x0
      go_wp2
      exact Go.Det.AtEnd.mk hS
    refine Go.Det.seqW_nil ?_
    intro W hS
    replace hS : Below w1.heap.size w1 W := hS
    have HBW := Lib.hid (HB1.out.below hS)
    have HBE := Lib.hid (hb1.trans (hS.mono hb1.size))
    have gw0 := blk_cell HBW.out.blk 0
    have x2 := HX.out 2 (by omega) W hS _ rfl
    simp only [List.getElem?_toArray, List.getElem?_cons_succ, List.getElem?_cons_zero, Nat.add_zero] at gw0 x2
    clear hS
    simp only [Exit.then]
    go_wp2
    go_ret
    refine ⟨?_, HBE.out⟩
    rw [may_else HM.out HI.out.2 (by rfl) k1 k2 k3 k4]
    rfl
  ·clear hkc
   refine Go.Det.region_all (fun W => Below w1.heap.size w1 W) (by kernel_rfl) (by kernel_rfl) (below_drew1 (Below.refl _ _)) ?_
   repeat
    apply Go.Det.seqW_cons
    focus
     intro W hS
     replace hS : Below w1.heap.size w1 W := hS
     have g2 := blk_cell (HG.out W hS) 2
     have x0 := HX.out 0 (by omega) W hS _ rfl
     have x4 := HX.out 4 (by omega) W hS _ rfl
     have hl := HL.out W hS
     simp only [List.getElem?_toArray, List.getElem?_cons_succ, List.getElem?_cons_zero, Nat.add_zero] at g2 x0
     go_wp2
     exact Go.Det.AtEnd.mk hS
   refine Go.Det.seqW_nil ?_
   intro W hS
   replace hS : Below w1.heap.size w1 W := hS
   have HBW := Lib.hid (HB1.out.below hS)
   have HBE := Lib.hid (hb1.trans (hS.mono hb1.size))
   have gw0 := blk_cell HBW.out.blk 0
   have x2 := HX.out 2 (by omega) W hS _ rfl
   simp only [List.getElem?_toArray, List.getElem?_cons_succ, List.getElem?_cons_zero, Nat.add_zero] at gw0 x2
   clear hS
   simp only [Exit.then]
   go_wp2
   go_ret
   refine ⟨?_, HBE.out⟩
   rw [may_else HM.out HI.out.2 (by rfl) rfl rfl rfl rfl]
   rfl
  ·clear hkc
   refine Go.Det.region_all (fun W => Below w1.heap.size w1 W) (by kernel_rfl) (by kernel_rfl) (below_drew1 (Below.refl _ _)) ?_
   repeat
    apply Go.Det.seqW_cons
    focus
     intro W hS
     replace hS : Below w1.heap.size w1 W := hS
     have g2 := blk_cell (HG.out W hS) 2
     have x0 := HX.out 0 (by omega) W hS _ rfl
     have x4 := HX.out 4 (by omega) W hS _ rfl
     have hl := HL.out W hS
     simp only [List.getElem?_toArray, List.getElem?_cons_succ, List.getElem?_cons_zero, Nat.add_zero] at g2 x0
     go_wp2
     exact Go.Det.AtEnd.mk hS
   refine Go.Det.seqW_nil ?_
   intro W hS
   replace hS : Below w1.heap.size w1 W := hS
   simp only [Exit.then]
   go_wp2
   go_ret
   refine ⟨?_, hb1.trans (hS.mono hb1.size)⟩
   have := HM.out
   unfold mayX at this
   rw [HI.out.2, h8] at this
   rw [← this]
   rfl
 ·refine Go.Det.region_all (fun W => Below w1.heap.size w1 W) (by kernel_rfl) (by kernel_rfl) (below_drew1 (Below.refl _ _)) ?_
  repeat
   apply Go.Det.seqW_cons
   focus
    intro W hS
    replace hS : Below w1.heap.size w1 W := hS
    have g2 := blk_cell (HG.out W hS) 2
    have x0 := HX.out 0 (by omega) W hS _ rfl
    have hl := HL.out W hS
    simp only [List.getElem?_toArray, List.getElem?_cons_succ, List.getElem?_cons_zero, Nat.add_zero] at g2 x0
    go_wp2
    exact Go.Det.AtEnd.mk hS
  refine Go.Det.seqW_nil ?_
  intro W hS
  replace hS : Below w1.heap.size w1 W := hS
  simp only [Exit.then]
  go_wp2
  go_ret
  refine ⟨?_, hb1.trans (hS.mono hb1.size)⟩
  have := HM.out
  unfold mayX at this
  rw [HI.out.2] at this
  rw [← this]
  rfl
def isBT : Obj → Bool
 | .cells _ t _ => t == 104 || t == 155 || t == 56
 | _ => false
def KeepK (w w' : World) : Prop := ∀ (i : Nat) (o : Obj), w.heap[i]? = some o → isBT o = false → w'.heap[i]? = some o
theorem KeepK.refl (w : World) : KeepK w w := fun _ _ h _ => h
theorem KeepK.trans {a b c : World} (h : KeepK a b) (k : KeepK b c) : KeepK a c := fun i o hi ho => k i o (h i o hi ho) ho
theorem KeepK.below {w w' : World} (h : Below w.heap.size w w') : KeepK w w' := fun i o hi _ => blk_below hi h
theorem KeepK.drew {w w' : World} (h : KeepK w w') : KeepK w w'.drew := h
theorem KeepK.set {w : World} {p : Addr} {o : Obj} (h : w.heap[p.block]? = some o) (ho : isBT o = true) (u : Value) : KeepK w (w.setCell p u) := fun i o' hi hn => by
 have hne : i ≠ p.block := fun e => by
  subst e
  rw [h] at hi
  simp only [Option.some.injEq] at hi
  subst hi
  rw [ho] at hn
  cases hn
 rw [Below.heap_setCell _ _ _ _ hne]
 exact hi
theorem KeepK.grown {w w' : World} {row : Option Nat} (h : w.grownBy w' row) (hr : ∀ r, row = some r → ∃ o, w.heap[r]? = some o ∧ isBT o = true) : KeepK w w' := fun i o hi hn => by
 refine blk_grown hi h fun e => ?_
 obtain ⟨o', h1, h2⟩ := hr i e.symm
 rw [h1] at hi
 simp only [Option.some.injEq] at hi
 subst hi
 rw [h2] at hn
 cases hn
theorem flat56_length (xs : List S56) : (flat56 xs).length = xs.length * 4 := by
 induction xs with
 | nil => rfl
 | cons x xs ih => simp [flat56] at ih ⊢; omega
theorem flat56_snoc (xs : List S56) (x : S56) : flat56 (xs ++ [x]) = flat56 xs ++ [.int .u8 x.f0, .string x.f1, .int .i64 x.f2, .int .i64 x.f3] := by simp [flat56]
theorem BAt.setO {w : World} {B0 g m gr c : Nat} {vt : Value} {s : Bld} (h : BAt w B0 g m (.slice (some ⟨gr, 0, none⟩) s.row.length c) vt s) (j i : Nat) (hj : j < s.row.length) (hi : i < 7) (f : Opn → Opn) (u : Value)
  (hf : cellsO (f (s.row.getD j zOpn)) = (cellsO (s.row.getD j zOpn)).set i u) :
  BAt (w.setCell ⟨gr, j * 7 + i, none⟩ u) B0 g m (.slice (some ⟨gr, 0, none⟩) s.row.length c) vt ⟨s.row.modify j f, s.t⟩ ∧ Below B0 w (w.setCell ⟨gr, j * 7 + i, none⟩ u) ∧ KeepK w (w.setCell ⟨gr, j * 7 + i, none⟩ u) := by
 have hrow : w.ownsRow B0 155 7 (.slice (some ⟨gr, 0, none⟩) s.row.length c) s.row.length (flatO s.row) := h.row
 obtain ⟨cs, hcs⟩ := own_typed hrow gr rfl
 have hb0 := own_base hrow gr rfl
 have hne : g ≠ gr := blk_ne h.blk hcs (by decide)
 obtain ⟨es, clock, hm⟩ := map_obj h.map
 have hmne : m ≠ gr := fun e => by subst e; rw [hm] at hcs; cases hcs
 refine ⟨⟨h.base, blk_far h.blk hne _, ?_, ?_, map_move h.map fun o ho => ?_⟩, (Below.refl B0 w).setCell hb0 _, KeepK.set (p := ⟨gr, j * 7 + i, none⟩) hcs (by rfl) _⟩
 ·have := (hrow.stored (j * 7 + i) u).1
  rw [flatO_mod f i hi u s.row j hj hf] at this
  unfold RowO
  simp only [List.length_modify]
  exact this
 ·refine own_setCell h.t ?_ _
  have := own_type_ne hrow h.t (by decide)
  rcases this with h0 | h0
  ·cases h0
  ·exact h0
 ·rw [Below.heap_setCell _ _ _ _ hmne]
  exact ho
theorem cells_newT (w : World) (cs : List Value) (t : TypeId) : ∀ j u, cs[j]? = some u → (w.alloc (.cells cs.toArray t)).cell? ((⟨w.heap.size, 0, none⟩ : Addr).add j) = some u := by
 intro j u hu
 rw [show (⟨w.heap.size, 0, none⟩ : Addr).add j = ⟨w.heap.size, j, none⟩ from by unfold Addr.add; split <;> simp_all, blk_cell (blk_new w _) j]
 exact (List.getElem?_toArray).trans hu
def nodeC (x : S56) : Array Value := #[.int .u8 x.f0, .string x.f1, .int .i64 x.f2, .int .i64 x.f3]
def AddTo (B0 g m : Nat) (vr : Value) (s : Bld) (w w' : World) : Prop := ∃ vt', BAt w' B0 g m vr vt' s ∧ Below B0 w w' ∧ KeepK w w'
theorem add_end {w W : World} {B0 g m nt ct cr : Nat} {A At A' : Option Addr} {c' : Nat} {r : List Opn} {t : List S56} {x : S56} {W4 : World}
  (h : BAt W B0 g m (.slice A nt cr) (.slice At t.length ct) ⟨r, t⟩) (hg : (W.alloc (.cells (nodeC x) 56)).grownBy W4 (Value.slice At t.length ct).ownBlock)
  (ho : W4.ownsRow B0 56 4 (.slice A' (t.length + 1) c') (t.length + 1) (flat56 t ++ [.int .u8 x.f0, .string x.f1, .int .i64 x.f2, .int .i64 x.f3])) (hlt : w.heap.size < W.heap.size) (hB : B0 ≤ W.heap.size) :
  W4.heap[g]? = some (.cells #[.slice A nt cr, .slice At t.length ct, .map (some m)] 104 (0, 0)) ∧
  BAt (W4.setCell ⟨g, 1, none⟩ (.slice A' (t.length + 1) c')) B0 g m (.slice A nt cr) (.slice A' (t.length + 1) c') ⟨r, t ++ [x]⟩ ∧
  (Below B0 W (W4.setCell ⟨g, 1, none⟩ (.slice A' (t.length + 1) c')) ∧ KeepK W (W4.setCell ⟨g, 1, none⟩ (.slice A' (t.length + 1) c'))) := by
 have hne : some g ≠ (Value.slice At t.length ct).ownBlock := own_ne h.t h.blk (by decide)
 have hb4 : W4.heap[g]? = some (.cells #[.slice A nt cr, .slice At t.length ct, .map (some m)] 104 (0, 0)) := blk_grown (blk_alloc h.blk _) hg hne
 have hblk : (W4.setCell ⟨g, 1, none⟩ (.slice A' (t.length + 1) c')).heap[g]? = some (.cells #[.slice A nt cr, .slice A' (t.length + 1) c', .map (some m)] 104 (0, 0)) := blk_put hb4 1 _ rfl
 have hrow : RowO W B0 (.slice A nt cr) r := h.row
 have htr := own_type_ne hrow h.t (by decide)
 have hr4 : W4.ownsRow B0 155 7 (.slice A nt cr) r.length (flatO r) := own_other (own_alloc hrow _) hg htr
 have hgr := own_ne hr4 hb4 (by decide)
 have hgt := own_ne ho hb4 (by decide)
 obtain ⟨es, clock, hm⟩ := map_obj h.map
 have hmt : some m ≠ (Value.slice At t.length ct).ownBlock := fun e => by
  obtain ⟨cs, hcs⟩ := own_typed h.t m e.symm
  rw [hm] at hcs
  cases hcs
 have hmg : m ≠ g := fun e => by
  subst e
  rw [h.blk] at hm
  cases hm
 refine ⟨hb4, ⟨h.base, hblk, own_setCell hr4 (p := ⟨g, 1, none⟩) hgr _, ?_, map_move h.map fun o ho' => ?_⟩, ?_, ?_⟩
 ·have := own_setCell ho (p := ⟨g, 1, none⟩) hgt (.slice A' (t.length + 1) c')
  show World.ownsRow _ B0 56 4 _ (t ++ [x]).length (flat56 (t ++ [x]))
  rw [flat56_snoc, List.length_append]
  exact this
 ·rw [Below.heap_setCell _ _ _ _ hmg]
  exact blk_grown (blk_alloc ho' _) hg hmt
 ·refine Below.setCell ?_ h.base _
  have h1 : Below B0 W (W.alloc (.cells (nodeC x) 56)) := (Below.refl B0 W).alloc hB _
  refine pw_below_grown h1 _ (by simp; omega) hg fun k hk => ?_
  exact own_base h.t k hk
 ·refine KeepK.trans (KeepK.trans (KeepK.below ((Below.refl _ W).alloc (Nat.le_refl _) (.cells (nodeC x) 56))) (KeepK.grown hg fun k hk => ?_)) (KeepK.set (p := ⟨g, 1, none⟩) hb4 rfl _)
  obtain ⟨cs, hcs⟩ := own_typed (own_alloc h.t (.cells (nodeC x) 56)) k hk
  exact ⟨_, hcs, rfl⟩
set_option pp.maxSteps 3000 in
set_option maxRecDepth 100000 in
set_option maxHeartbeats 4000000 in
theorem add_calls (B0 g m : Nat) (vr vt : Value) (s : Bld) (x : S56) (w : World) (hB0 : B0 ≤ w.heap.size) (hn : s.row.length ≤ 1000000) (hnt : s.t.length ≤ 1000000) (hb : BAt w B0 g m vr vt s) :
  Calls Try.prog 132 #[.pointer (some ⟨g, 0, none⟩), .agg #[.int .u8 x.f0, .string x.f1, .int .i64 x.f2, .int .i64 x.f3]] w fun e w' =>
   e = .returned (.int .i64 (addP s x).2) ∧ AddTo B0 g m vr (addP s x).1 w w' := by
 obtain ⟨f0, f1, f2, f3⟩ := x
 obtain ⟨A, c, rfl⟩ := own_slice hb.row
 have hb1 : Below w.heap.size w (w.alloc (.cells #[.int .u8 f0, .string f1, .int .i64 f2, .int .i64 f3] 56)) := (Below.refl _ w).alloc (Nat.le_refl _) _
 have hx := blk_new w (.cells #[.int .u8 f0, .string f1, .int .i64 f2, .int .i64 f3] 56)
 have hbx := hb.below hb1
 have hsz : (w.alloc (.cells #[.int .u8 f0, .string f1, .int .i64 f2, .int .i64 f3] 56)).heap.size = w.heap.size + 1 := by simp
 obtain ⟨w1, hw1⟩ : ∃ w1, w.alloc (.cells #[.int .u8 f0, .string f1, .int .i64 f2, .int .i64 f3] 56) = w1 := ⟨_, rfl⟩
 rw [hw1] at hb1 hx hbx hsz
 have hg0 := blk_cell hbx.blk 0
 simp only [List.getElem?_toArray, List.getElem?_cons_zero] at hg0
 have HB0 := Lib.hid hb.row
 have HB := Lib.hid hbx
 have HB1 := Lib.hid hb1
 have HX := Lib.hid hx
 have HSZ := Lib.hid hsz
 clear hb hb1 hx hbx hsz
 by_cases h0 : s.row = []
 ·have h00 : s.row.length = 0 := by rw [h0]; rfl
  have hz := Lib.hid (show BAt (w1.alloc (.cells #[.int .u8 0, .int .i64 0, .int .i64 1, .int .i64 0, .bool false, .int .i64 0, .int .i64 0] 155)) B0 g m (.slice A s.row.length c) vt ⟨s.row, s.t⟩ ∧ Below B0 w1 (w1.alloc (.cells #[.int .u8 0, .int .i64 0, .int .i64 1, .int .i64 0, .bool false, .int .i64 0, .int .i64 0] 155)) ∧ KeepK w1 (w1.alloc (.cells #[.int .u8 0, .int .i64 0, .int .i64 1, .int .i64 0, .bool false, .int .i64 0, .int .i64 0] 155)) from by
   refine ⟨HB.out.below ((Below.refl _ _).alloc (Nat.le_refl _) _), (Below.refl B0 w1).alloc (by have := HSZ.out; omega) _, KeepK.below ((Below.refl _ _).alloc (Nat.le_refl _) _)⟩)
  have HX1 := Lib.hid (blk_alloc HX.out (.cells #[.int .u8 0, .int .i64 0, .int .i64 1, .int .i64 0, .bool false, .int .i64 0, .int .i64 0] 155))
  have HS := hz
  clear hz
  rw [h00] at hg0
  have H0 := Lib.hid h0
  clear h0 h00
  go_enter Try.func132, Try.ntmps132
  go_wp2_with (go_at_call 134; refine (top_none c A _).mono ?_; rintro e w2 ⟨rfl, rfl⟩)
  obtain ⟨W1, hW1⟩ : ∃ W1, w1.alloc (.cells #[.int .u8 0, .int .i64 0, .int .i64 1, .int .i64 0, .bool false, .int .i64 0, .int .i64 0] 155) = W1 := ⟨_, rfl⟩
  rw [hW1] at HS HX1 ⊢
  clear hW1 hg0
  obtain ⟨HBK, HLOW, HKEEP⟩ := HS.out
  obtain ⟨At, ct, rfl⟩ := own_slice HBK.t
  obtain ⟨W2, hW2⟩ : ∃ W2, W1.drew = W2 := ⟨_, rfl⟩
  have hK2 : BAt W2 B0 g m (.slice A s.row.length c) (.slice At s.t.length ct) ⟨kidP s.row, s.t⟩ := by rw [← hW2, show kidP s.row = s.row from by rw [H0.out]; rfl]; exact HBK.below (below_drew1 (Below.refl _ _))
  have hX2 : W2.heap[w.heap.size]? = some (.cells #[.int .u8 f0, .string f1, .int .i64 f2, .int .i64 f3] 56 (0, 0)) := by rw [← hW2]; exact HX1.out
  have hL2 : Below B0 w W2 := by rw [← hW2]; exact below_drew1 (((HB1.out).trans (Below.refl _ _) |> fun h => (⟨h.os, h.tape, h.output, Nat.le_trans (Nat.le_refl _) h.size, fun i hi => h.block i (by omega)⟩ : Below B0 w w1)).trans HLOW)
  have hE2 : KeepK w W2 := by rw [← hW2]; exact ((KeepK.below HB1.out).trans HKEEP).drew
  have hs2 : w.heap.size < W2.heap.size := blk_lt hX2
  have c0 := blk_cell hX2 0
  have c1 := blk_cell hX2 1
  have c2 := blk_cell hX2 2
  have c3 := blk_cell hX2 3
  have d1 := blk_cell hK2.blk 1
  simp only [List.getElem?_toArray, List.getElem?_cons_succ, List.getElem?_cons_zero] at c0 c1 c2 c3 d1
  have HK2 := Lib.hid hK2
  have HL2 := Lib.hid hL2
  have HE2 := Lib.hid hE2
  have HX2 := Lib.hid hX2
  have HC := Lib.hid (And.intro c0 (And.intro c1 (And.intro c2 (And.intro c3 d1))))
  clear hK2 hL2 hE2 hX2 c0 c1 c2 c3 d1 HBK HLOW HKEEP HS HX1 HX HB1 HSZ
  refine Go.Mix.region_mix' (fun b W => W = (bif b then W2.alloc (.cells #[.int .u8 f0, .string f1, .int .i64 f2, .int .i64 f3] 56) else W2)) 6 7 [0] (by kernel_rfl) (by kernel_rfl) (fun _ _ _ _ _ h => h) hW2 ?_
  clear hW2
  refine Go.Mix.seqE_cons (t' := #[_, _, _, _, _, _, _, _, _, _, _, _, _, _, _, _, _, _, _, _, _, _, _, _, _, _, _, _, _, _, _, _]) _ (.pointer (some ⟨g, 0, none⟩)) rfl rfl (fun w' => rfl) rfl ?_
  refine Go.Mix.seqE_nil ?_
  refine Go.Mix.seqM_skip (by rfl) ?_
  repeat
   apply Go.Mix.seqM_cons (by rfl) (by rfl)
   focus
    intro b W hS
    have hB : Below W2.heap.size W2 W := by
     rw [hS]
     cases b
     ·exact Below.refl _ _
     ·exact (Below.refl _ _).alloc (Nat.le_refl _) _
    obtain ⟨c0, c1, c2, c3, d1⟩ := HC.out
    replace c0 := (hB.cell (World.block_lt_of_cell? W2 _ c0)).trans c0
    replace c1 := (hB.cell (World.block_lt_of_cell? W2 _ c1)).trans c1
    replace c2 := (hB.cell (World.block_lt_of_cell? W2 _ c2)).trans c2
    replace c3 := (hB.cell (World.block_lt_of_cell? W2 _ c3)).trans c3
    replace d1 := (hB.cell (World.block_lt_of_cell? W2 _ d1)).trans d1
    have HS := Lib.hid hS
    clear hS hB
    go_wp2
    exact Go.Det.AtEnd.mk HS.out
  apply Go.Mix.seqM_main (by rfl)
  focus
   intro W hS
   obtain rfl : W = W2 := hS
   go_wp2
   exact Go.Det.AtEnd.mk rfl
  refine Go.Mix.seqM_nil ?_
  intro W3 hW3
  obtain rfl : W3 = W2.alloc (.cells #[.int .u8 f0, .string f1, .int .i64 f2, .int .i64 f3] 56) := hW3
  simp only [List.drop_succ_cons, List.drop_zero]
  obtain ⟨i0, hi, hz0, hz1, hz2⟩ := info_parts info56
  go_wp2_with (at_builtin; refine wpList_append_own_at _ rfl _ _ 50 rfl B0 56 i0 (.agg #[(.int .u8 0), (.string ⟨#[]⟩), (.int .i64 0), (.int .i64 0)]) 4 40 Try.underlying50 hi hz0 hz1 hz2 rfl (by decide) _ _ _ rfl (HK2.out.t.alloc _) _ 1 1 [.int .u8 f0, .string f1, .int .i64 f2, .int .i64 f3] rfl rfl ?e1b ?e2b ?e3b ?e4b ?e5b ?e6b)
  case e2b => simp [Value.oneCell']
  case e3b => unfold maxLen; omega
  case e4b => omega
  case e5b => first | omega | (simp; omega)
  case e6b =>
   intro v' W4 hown' hgrow _ hat
   obtain ⟨A', c', rfl⟩ := own_slice hown'
   have hfin := add_end (x := ⟨f0, f1, f2, f3⟩) HK2.out hgrow hown' hs2 (by omega)
   obtain ⟨hf1, hf2, hf3⟩ := hfin
   have e1 := blk_cell hf1 1
   have z1 := blk_frozen hf1 1
   have hl := hf2.blk
   have e1' := blk_cell hl 1
   simp only [List.getElem?_toArray, List.getElem?_cons_succ, List.getElem?_cons_zero] at e1 e1'
   have H2 := Lib.hid hf2
   have H3 := Lib.hid hf3
   clear hf1 hf2 hf3 hl hown' hgrow hat
   have hp0 : addP s ⟨f0, f1, f2, f3⟩ = (⟨kidP s.row, s.t ++ [⟨f0, f1, f2, f3⟩]⟩, if 2000 < s.t.length + 1 then 4 else 0) := rfl
   have HP := Lib.hid hp0
   clear hp0
   have hend : Below B0 w (W4.setCell ⟨g, 1, none⟩ (.slice A' (s.t.length + 1) c')) := HL2.out.trans H3.out.1
   have hkeep := HE2.out.trans H3.out.2
   have H4 := Lib.hid hend
   have H5 := Lib.hid hkeep
   clear hend hkeep H3
   by_cases hbig : 2000 < s.t.length + 1
   ·have hbig' : (2000 : Int) < (s.t.length : Int) + 1 := by omega
    go_wp2
    go_ret
    refine ⟨by rw [HP.out, if_pos hbig]; rfl, ?_⟩
    rw [HP.out]
    exact ⟨_, H2.out, H4.out, H5.out⟩
   ·have hbig' : ¬ (2000 : Int) < (s.t.length : Int) + 1 := by omega
    go_wp2
    go_ret
    refine ⟨by rw [HP.out, if_neg hbig]; rfl, ?_⟩
    rw [HP.out]
    exact ⟨_, H2.out, H4.out, H5.out⟩
 ·have hp : 0 < s.row.length := List.length_pos_iff.2 h0
  obtain ⟨gr, cr, hae, hao⟩ := rowO_form HB.out.row hp
  simp only [Value.slice.injEq] at hae
  obtain ⟨rfl, -, rfl⟩ := hae
  obtain ⟨n, hn'⟩ : ∃ n, s.row.length = n + 1 := ⟨s.row.length - 1, by omega⟩
  have hkc := rowO_cell hao n 2 (by omega) (by omega)
  have hkf := hao.frozenAt (n * 7 + 2)
  simp only [cellsO, List.getElem?_cons_succ, List.getElem?_cons_zero] at hkc
  obtain ⟨cs, hcs⟩ := own_typed hao gr rfl
  have HNE := Lib.hid (show w.heap.size ≠ gr from fun e => by have := (own_lt HB0.out gr rfl); omega)
  clear hcs
  have hset := HB.out.setO n 2 (by omega) (by omega) kidF (.int .i64 (wrap64 ((s.row.getD n zOpn).kids + 1))) rfl
  have HS := Lib.hid hset
  have htop := fun W => top_some gr n c (by omega) W
  have HT := Lib.hid htop
  have HN := Lib.hid hn'
  clear hset htop hao h0 hp
  rw [hn'] at hg0
  generalize (s.row.getD n zOpn).kids = kd at *
  clear hn'
  go_enter Try.func132, Try.ntmps132
  go_wp2_with (go_at_call 134; refine (HT.out _).mono ?_; rintro e w2 ⟨rfl, rfl⟩)
  have HX1 := Lib.hid (blk_far HX.out (p := ⟨gr, n * 7 + 2, none⟩) HNE.out (.int .i64 (wrap64 (kd + 1))))
  obtain ⟨W1, hW1⟩ : ∃ W1, w2.setCell ⟨gr, n * 7 + 2, none⟩ (.int .i64 (wrap64 (kd + 1))) = W1 := ⟨_, rfl⟩
  rw [hW1] at HS HX1 ⊢
  clear hW1 hg0 hkc hkf
  obtain ⟨HBK, HLOW, HKEEP⟩ := HS.out
  obtain ⟨At, ct, rfl⟩ := own_slice HBK.t
  obtain ⟨W2, hW2⟩ : ∃ W2, W1.drew = W2 := ⟨_, rfl⟩
  have hK2 : BAt W2 B0 g m (.slice (some ⟨gr, 0, none⟩) s.row.length c) (.slice At s.t.length ct) ⟨kidP s.row, s.t⟩ := by rw [← hW2, show kidP s.row = s.row.modify n kidF from by unfold kidP; rw [HN.out]; rfl]; exact HBK.below (below_drew1 (Below.refl _ _))
  have hX2 : W2.heap[w.heap.size]? = some (.cells #[.int .u8 f0, .string f1, .int .i64 f2, .int .i64 f3] 56 (0, 0)) := by rw [← hW2]; exact HX1.out
  have hL2 : Below B0 w W2 := by rw [← hW2]; exact below_drew1 (((HB1.out).trans (Below.refl _ _) |> fun h => (⟨h.os, h.tape, h.output, Nat.le_trans (Nat.le_refl _) h.size, fun i hi => h.block i (by omega)⟩ : Below B0 w w2)).trans HLOW)
  have hE2 : KeepK w W2 := by rw [← hW2]; exact ((KeepK.below HB1.out).trans HKEEP).drew
  have hs2 : w.heap.size < W2.heap.size := blk_lt hX2
  have c0 := blk_cell hX2 0
  have c1 := blk_cell hX2 1
  have c2 := blk_cell hX2 2
  have c3 := blk_cell hX2 3
  have d1 := blk_cell hK2.blk 1
  simp only [List.getElem?_toArray, List.getElem?_cons_succ, List.getElem?_cons_zero] at c0 c1 c2 c3 d1
  have HK2 := Lib.hid hK2
  have HL2 := Lib.hid hL2
  have HE2 := Lib.hid hE2
  have HX2 := Lib.hid hX2
  have HC := Lib.hid (And.intro c0 (And.intro c1 (And.intro c2 (And.intro c3 d1))))
  clear hK2 hL2 hE2 hX2 c0 c1 c2 c3 d1 HBK HLOW HKEEP HS HX1 HX HB1 HSZ
  refine Go.Mix.region_mix' (fun b W => W = (bif b then W2.alloc (.cells #[.int .u8 f0, .string f1, .int .i64 f2, .int .i64 f3] 56) else W2)) 6 7 [0] (by kernel_rfl) (by kernel_rfl) (fun _ _ _ _ _ h => h) hW2 ?_
  clear hW2
  refine Go.Mix.seqE_cons (t' := #[_, _, _, _, _, _, _, _, _, _, _, _, _, _, _, _, _, _, _, _, _, _, _, _, _, _, _, _, _, _, _, _]) _ (.pointer (some ⟨g, 0, none⟩)) rfl rfl (fun w' => rfl) rfl ?_
  refine Go.Mix.seqE_nil ?_
  refine Go.Mix.seqM_skip (by rfl) ?_
  repeat
   apply Go.Mix.seqM_cons (by rfl) (by rfl)
   focus
    intro b W hS
    have hB : Below W2.heap.size W2 W := by
     rw [hS]
     cases b
     ·exact Below.refl _ _
     ·exact (Below.refl _ _).alloc (Nat.le_refl _) _
    obtain ⟨c0, c1, c2, c3, d1⟩ := HC.out
    replace c0 := (hB.cell (World.block_lt_of_cell? W2 _ c0)).trans c0
    replace c1 := (hB.cell (World.block_lt_of_cell? W2 _ c1)).trans c1
    replace c2 := (hB.cell (World.block_lt_of_cell? W2 _ c2)).trans c2
    replace c3 := (hB.cell (World.block_lt_of_cell? W2 _ c3)).trans c3
    replace d1 := (hB.cell (World.block_lt_of_cell? W2 _ d1)).trans d1
    have HS := Lib.hid hS
    clear hS hB
    go_wp2
    exact Go.Det.AtEnd.mk HS.out
  apply Go.Mix.seqM_main (by rfl)
  focus
   intro W hS
   obtain rfl : W = W2 := hS
   go_wp2
   exact Go.Det.AtEnd.mk rfl
  refine Go.Mix.seqM_nil ?_
  intro W3 hW3
  obtain rfl : W3 = W2.alloc (.cells #[.int .u8 f0, .string f1, .int .i64 f2, .int .i64 f3] 56) := hW3
  simp only [List.drop_succ_cons, List.drop_zero]
  obtain ⟨i0, hi, hz0, hz1, hz2⟩ := info_parts info56
  go_wp2_with (at_builtin; refine wpList_append_own_at _ rfl _ _ 50 rfl B0 56 i0 (.agg #[(.int .u8 0), (.string ⟨#[]⟩), (.int .i64 0), (.int .i64 0)]) 4 40 Try.underlying50 hi hz0 hz1 hz2 rfl (by decide) _ _ _ rfl (HK2.out.t.alloc _) _ 1 1 [.int .u8 f0, .string f1, .int .i64 f2, .int .i64 f3] rfl rfl ?e1a ?e2a ?e3a ?e4a ?e5a ?e6a)
  case e2a => simp [Value.oneCell']
  case e3a => unfold maxLen; omega
  case e4a => omega
  case e5a => first | omega | (simp; omega)
  case e6a =>
   intro v' W4 hown' hgrow _ hat
   obtain ⟨A', c', rfl⟩ := own_slice hown'
   have hfin := add_end (x := ⟨f0, f1, f2, f3⟩) HK2.out hgrow hown' hs2 (by omega)
   obtain ⟨hf1, hf2, hf3⟩ := hfin
   have e1 := blk_cell hf1 1
   have z1 := blk_frozen hf1 1
   have hl := hf2.blk
   have e1' := blk_cell hl 1
   simp only [List.getElem?_toArray, List.getElem?_cons_succ, List.getElem?_cons_zero] at e1 e1'
   have H2 := Lib.hid hf2
   have H3 := Lib.hid hf3
   clear hf1 hf2 hf3 hl hown' hgrow hat
   have hp0 : addP s ⟨f0, f1, f2, f3⟩ = (⟨kidP s.row, s.t ++ [⟨f0, f1, f2, f3⟩]⟩, if 2000 < s.t.length + 1 then 4 else 0) := rfl
   have HP := Lib.hid hp0
   clear hp0
   have hend : Below B0 w (W4.setCell ⟨g, 1, none⟩ (.slice A' (s.t.length + 1) c')) := HL2.out.trans H3.out.1
   have hkeep := HE2.out.trans H3.out.2
   have H4 := Lib.hid hend
   have H5 := Lib.hid hkeep
   clear hend hkeep H3
   by_cases hbig : 2000 < s.t.length + 1
   ·have hbig' : (2000 : Int) < (s.t.length : Int) + 1 := by omega
    go_wp2
    go_ret
    refine ⟨by rw [HP.out, if_pos hbig]; rfl, ?_⟩
    rw [HP.out]
    exact ⟨_, H2.out, H4.out, H5.out⟩
   ·have hbig' : ¬ (2000 : Int) < (s.t.length : Int) + 1 := by omega
    go_wp2
    go_ret
    refine ⟨by rw [HP.out, if_neg hbig]; rfl, ?_⟩
    rw [HP.out]
    exact ⟨_, H2.out, H4.out, H5.out⟩
theorem info155 : (Try.prog.info? 155).map (fun i => (i.zero, i.size, i.bytes)) = some (some (.agg #[(.int .u8 0), (.int .i64 0), (.int .i64 0), (.int .i64 0), (.bool false), (.int .i64 0), (.int .i64 0)]), 7, 56) := by kernel_rfl
def StepTo (B0 g m : Nat) (s : Bld) (w w' : World) : Prop := ∃ vr vt, BAt w' B0 g m vr vt s ∧ Below B0 w w' ∧ KeepK w w'
theorem row_end {W : World} {B0 g m cr : Nat} {A A' : Option Addr} {vt : Value} {c' : Nat} {r : List Opn} {t : List S56} {x : Opn} {W4 : World}
  (h : BAt W B0 g m (.slice A r.length cr) vt ⟨r, t⟩) (hg : (W.alloc (.cells (cellsO x).toArray 155)).grownBy W4 (Value.slice A r.length cr).ownBlock)
  (ho : W4.ownsRow B0 155 7 (.slice A' (r.length + 1) c') (r.length + 1) (flatO r ++ cellsO x)) (hB : B0 ≤ W.heap.size) :
  W4.heap[g]? = some (.cells #[.slice A r.length cr, vt, .map (some m)] 104 (0, 0)) ∧
  BAt (W4.setCell ⟨g, 0, none⟩ (.slice A' (r.length + 1) c')) B0 g m (.slice A' (r.length + 1) c') vt ⟨r ++ [x], t⟩ ∧
  (Below B0 W (W4.setCell ⟨g, 0, none⟩ (.slice A' (r.length + 1) c')) ∧ KeepK W (W4.setCell ⟨g, 0, none⟩ (.slice A' (r.length + 1) c'))) := by
 have hrow : W.ownsRow B0 155 7 (.slice A r.length cr) r.length (flatO r) := h.row
 have hne : some g ≠ (Value.slice A r.length cr).ownBlock := own_ne hrow h.blk (by decide)
 have hb4 : W4.heap[g]? = some (.cells #[.slice A r.length cr, vt, .map (some m)] 104 (0, 0)) := blk_grown (blk_alloc h.blk _) hg hne
 have hblk : (W4.setCell ⟨g, 0, none⟩ (.slice A' (r.length + 1) c')).heap[g]? = some (.cells #[.slice A' (r.length + 1) c', vt, .map (some m)] 104 (0, 0)) := blk_put hb4 0 _ rfl
 have htr := own_type_ne h.t hrow (by decide)
 have ht4 : W4.ownsRow B0 56 4 vt t.length (flat56 t) := own_other (own_alloc h.t _) hg htr
 have hgt := own_ne ht4 hb4 (by decide)
 have hgr := own_ne ho hb4 (by decide)
 obtain ⟨es, clock, hm⟩ := map_obj h.map
 have hmt : some m ≠ (Value.slice A r.length cr).ownBlock := fun e => by
  obtain ⟨cs, hcs⟩ := own_typed hrow m e.symm
  rw [hm] at hcs
  cases hcs
 have hmg : m ≠ g := fun e => by
  subst e
  rw [h.blk] at hm
  cases hm
 refine ⟨hb4, ⟨h.base, hblk, ?_, own_setCell ht4 (p := ⟨g, 0, none⟩) hgt _, map_move h.map fun o ho' => ?_⟩, ?_, ?_⟩
 ·have := own_setCell ho (p := ⟨g, 0, none⟩) hgr (.slice A' (r.length + 1) c')
  show World.ownsRow _ B0 155 7 _ (r ++ [x]).length (flatO (r ++ [x]))
  rw [flatO_snoc, List.length_append]
  exact this
 ·rw [Below.heap_setCell _ _ _ _ hmg]
  exact blk_grown (blk_alloc ho' _) hg hmt
 ·refine Below.setCell ?_ h.base _
  have h1 : Below B0 W (W.alloc (.cells (cellsO x).toArray 155)) := (Below.refl B0 W).alloc hB _
  refine pw_below_grown h1 _ (by simp; omega) hg fun k hk => ?_
  exact own_base hrow k hk
 ·refine KeepK.trans (KeepK.trans (KeepK.below ((Below.refl _ W).alloc (Nat.le_refl _) (.cells (cellsO x).toArray 155))) (KeepK.grown hg fun k hk => ?_)) (KeepK.set (p := ⟨g, 0, none⟩) hb4 rfl _)
  obtain ⟨cs, hcs⟩ := own_typed (own_alloc hrow (.cells (cellsO x).toArray 155)) k hk
  exact ⟨_, hcs, rfl⟩
theorem may_around {r : List Opn} (h : mayP r 110 = true) : ∃ j, aroundP flowK r r.length = some j := by
 unfold mayP at h
 cases ha : aroundP flowK r r.length with
 | some j => exact ⟨j, rfl⟩
 | none => rw [ha] at h; simp at h
theorem StepTo.mk' {B0 g m : Nat} {s : Bld} {w w' : World} {vr vt : Value} (h : BAt w' B0 g m vr vt s) (h1 : Below B0 w w') (h2 : KeepK w w') : StepTo B0 g m s w w' := ⟨vr, vt, h, h1, h2⟩
theorem below_low {B0 : Nat} {w w' : World} (h : Below w.heap.size w w') (hB : B0 ≤ w.heap.size) : Below B0 w w' := ⟨h.os, h.tape, h.output, h.size, fun i hi => h.block i (by omega)⟩
set_option pp.maxSteps 3000 in
set_option maxRecDepth 100000 in
set_option maxHeartbeats 8000000 in
theorem opens_calls (B0 g m : Nat) (vr vt : Value) (s : Bld) (x : S47) (w : World) (hB0 : B0 ≤ w.heap.size) (hk0 : 0 ≤ x.f1) (hk1 : x.f1 ≤ 255) (hn : s.row.length ≤ 999999) (hnt : s.t.length ≤ 999999) (hkb : KindsB s.row) (hb : BAt w B0 g m vr vt s) :
  Calls Try.prog 93 #[.pointer (some ⟨g, 0, none⟩), .agg #[.int .i64 x.f0, .int .u8 x.f1, .string x.f2, .int .i64 x.f3]] w fun e w' =>
   e = .returned (.tuple #[.int .i64 (opensP s x).2.1, .int .i64 (opensP s x).2.2]) ∧ StepTo B0 g m (opensP s x).1 w w' := by
 obtain ⟨f0, k, f2, f3⟩ := x
 simp only at hk0 hk1
 obtain ⟨A, c, rfl⟩ := own_slice hb.row
 have hb1 : Below w.heap.size w (w.alloc (.cells #[.int .i64 f0, .int .u8 k, .string f2, .int .i64 f3] 47)) := (Below.refl _ w).alloc (Nat.le_refl _) _
 have hx := blk_new w (.cells #[.int .i64 f0, .int .u8 k, .string f2, .int .i64 f3] 47)
 have hbx := hb.below hb1
 obtain ⟨w1, hw1⟩ : ∃ w1, w.alloc (.cells #[.int .i64 f0, .int .u8 k, .string f2, .int .i64 f3] 47) = w1 := ⟨_, rfl⟩
 rw [hw1] at hb1 hx hbx
 have hx1 := blk_cell hx 1
 simp only [List.getElem?_toArray, List.getElem?_cons_succ, List.getElem?_cons_zero] at hx1
 have hmay := fun W (hW : BAt W B0 g m (.slice A s.row.length c) vt s) => may_calls B0 g m _ vt s k W hk0 hk1 (by omega) hkb hW
 have HM := Lib.hid hmay
 have HROW := Lib.hid hb.row
 have HB := Lib.hid hbx
 have HB1 := Lib.hid hb1
 have HX := Lib.hid hx
 have HKB := Lib.hid hkb
 clear hb hb1 hx hbx hmay hkb
 cases hmm : mayP s.row k with
 | false =>
  have hP : opensP s ⟨f0, k, f2, f3⟩ = (s, f3, 2) := by unfold opensP; simp only [hmm]; rfl
  have HP := Lib.hid hP
  rw [hmm] at HM
  clear hP
  have HMM := Lib.hid hmm
  clear hmm
  go_enter Try.func93, Try.ntmps93
  go_wp2_with (go_at_call 104; refine (HM.out _ HB.out).mono ?_; rintro e w2 ⟨rfl, hb2⟩; have cx3 := blk_cell (blk_below HX.out hb2) 3; simp only [List.getElem?_toArray, List.getElem?_cons_succ, List.getElem?_cons_zero] at cx3)
  go_ret2
  refine ⟨by rw [HP.out]; rfl, ?_⟩
  rw [HP.out]
  exact StepTo.mk' (HB.out.below hb2) (below_low (HB1.out.trans (hb2.mono HB1.out.size)) hB0) (KeepK.below (HB1.out.trans (hb2.mono HB1.out.size)))
 | true =>
  have HMM := Lib.hid hmm
  rw [hmm] at HM
  clear hmm
  have hkc : (k == 110) = false ∧ (k == 108) = false ∨ (k == 110) = true ∨ (k == 110) = false ∧ (k == 108) = true := by
   simp only [beq_eq_false_iff_ne, beq_iff_eq]; omega
  rcases hkc with ⟨k1, k2⟩ | k1 | ⟨k1, k2⟩
  ·go_enter Try.func93, Try.ntmps93
   go_wp2_with (go_at_call 104; (with_reducible refine (HM.out _ HB.out).mono ?_); rintro e w2 ⟨rfl, hb2⟩; have cx1 := blk_cell (blk_below HX.out hb2) 1; have cx3 := blk_cell (blk_below HX.out hb2) 3; simp only [List.getElem?_toArray, List.getElem?_cons_succ, List.getElem?_cons_zero] at cx1 cx3)
   have HW2 := Lib.hid (HB1.out.trans (hb2.mono HB1.out.size))
   have HS := Lib.hid (show BAt w2 B0 g m (.slice A s.row.length c) vt ⟨markP s.row k, s.t⟩ ∧ Below B0 w w2 ∧ KeepK w w2 from by
    rw [show markP s.row k = s.row from by unfold markP; rw [if_neg (beq_eq_false_iff_ne.1 k1), if_neg (beq_eq_false_iff_ne.1 k2)]]
    exact ⟨HB.out.below hb2, below_low HW2.out hB0, KeepK.below HW2.out⟩)
   have HX1 := Lib.hid (blk_below HX.out hb2)
   obtain ⟨W1, hW1⟩ : ∃ W1, w2 = W1 := ⟨_, rfl⟩
   rw [hW1] at HS HX1 ⊢
   clear hW1 cx1 cx3
   refine (add_calls B0 g m (.slice A s.row.length c) vt ⟨markP s.row k, s.t⟩ ⟨k, ⟨#[]⟩, f3, 1⟩ W1 (Nat.le_trans hB0 HS.out.2.1.size) (by rw [markP_length]; omega) (by show s.t.length ≤ _; omega) HS.out.1).mono ?_
   rintro e W2 ⟨rfl, vt2, hbb, hl2, hk2⟩
   replace hbb : BAt W2 B0 g m (.slice A s.row.length c) vt2 ⟨kidP (markP s.row k), s.t ++ [⟨k, ⟨#[]⟩, f3, 1⟩]⟩ := hbb
   obtain ⟨E, hE⟩ : ∃ E, (addP ⟨markP s.row k, s.t⟩ ⟨k, ⟨#[]⟩, f3, 1⟩).2 = E := ⟨_, rfl⟩
   rw [hE]
   have HE := Lib.hid (show (if 2000 < s.t.length + 1 then (4 : Int) else 0) = E from hE)
   obtain ⟨At, ct, rfl⟩ := own_slice hbb.t
   have hT : (s.t ++ [⟨k, ⟨#[]⟩, f3, 1⟩] : List S56).length = s.t.length + 1 := by simp
   have hR : (kidP (markP s.row k)).length = s.row.length := by rw [kidP_length, markP_length]
   have hfold : BAt W2 B0 g m (.slice A s.row.length c) (.slice At (s.t.length + 1) ct) ⟨kidP (markP s.row k), s.t ++ [⟨k, ⟨#[]⟩, f3, 1⟩]⟩ := by have := hbb; rw [hT] at this; exact this
   have hX2 : W2.heap[w.heap.size]? = some (.cells #[.int .i64 f0, .int .u8 k, .string f2, .int .i64 f3] 47 (0, 0)) := hk2 _ _ HX1.out rfl
   have hLW : Below B0 w W2 := HS.out.2.1.trans hl2
   have hKW : KeepK w W2 := HS.out.2.2.trans hk2
   obtain ⟨r1, hr1⟩ : ∃ r1, kidP (markP s.row k) = r1 := ⟨_, rfl⟩
   rw [hr1] at hfold hR
   have HR1 := Lib.hid hr1
   have HLR := Lib.hid hR
   rw [← hR] at hfold
   obtain ⟨W3, hW3⟩ : ∃ W3, W2.drew = W3 := ⟨_, rfl⟩
   have hK3 : BAt W3 B0 g m (.slice A r1.length c) (.slice At (s.t.length + 1) ct) ⟨r1, s.t ++ [⟨k, ⟨#[]⟩, f3, 1⟩]⟩ := by rw [← hW3]; exact hfold.below (below_drew1 (Below.refl _ _))
   have hX3 : W3.heap[w.heap.size]? = some (.cells #[.int .i64 f0, .int .u8 k, .string f2, .int .i64 f3] 47 (0, 0)) := by rw [← hW3]; exact hX2
   have hL3 : Below B0 w W3 := by rw [← hW3]; exact below_drew1 hLW
   have hE3 : KeepK w W3 := by rw [← hW3]; exact hKW.drew
   have hs3 : w.heap.size < W3.heap.size := blk_lt hX3
   have c1 := blk_cell hX2 1
   have d0 := blk_cell hfold.blk 0
   have d1 := blk_cell hfold.blk 1
   simp only [List.getElem?_toArray, List.getElem?_cons_succ, List.getElem?_cons_zero] at c1 d0 d1
   have hrl : r1.length ≤ 999999 := by omega
   have HK3 := Lib.hid hK3
   have HL3 := Lib.hid hL3
   have HE3 := Lib.hid hE3
   have HX3 := Lib.hid hX3
   have HC := Lib.hid (And.intro c1 (And.intro d0 d1))
   clear hE hT hR hr1 hfold hbb hX2 hLW hKW hK3 hX3 hL3 hE3 c1 d0 d1 HS HX1 hl2 hk2 hb2 HX HB1
   go_wp2_with fail
   refine Go.Mix.region_mix' (fun b W => W = (bif b then W3.alloc (.cells #[.int .u8 k, .int .i64 s.t.length, .int .i64 0, .int .i64 0, .bool false, .int .i64 0, .int .i64 0] 155) else W3)) 14 15 [0] (by kernel_rfl) (by kernel_rfl) (fun _ _ _ _ _ h => h) hW3 ?_
   clear hW3
   refine Go.Mix.seqE_cons (t' := #[_, _, _, _, _, _, _, _, _, _, _, _, _, _, _, _, _, _, _, _, _, _, _, _, _, _, _, _, _, _, _, _, _, _, _, _, _, _, _, _, _, _, _, _, _, _, _, _, _, _, _, _, _, _, _, _, _, _, _, _, _, _, _, _, _, _, _, _, _, _, _, _, _, _, _, _, _, _, _, _]) _ (.pointer (some ⟨g, 0, none⟩)) rfl rfl (fun w' => rfl) rfl ?_
   refine Go.Mix.seqE_nil ?_
   refine Go.Mix.seqM_skip (by rfl) ?_
   repeat
    apply Go.Mix.seqM_cons (by rfl) (by rfl)
    focus
     intro b W hS
     have hB : Below W3.heap.size W3 W := by
      rw [hS]
      cases b
      ·exact Below.refl _ _
      ·exact (Below.refl _ _).alloc (Nat.le_refl _) _
     have c1 := blk_cell (blk_below HX3.out hB) 1
     have d0 := blk_cell (HK3.out.below hB).blk 0
     have d1 := blk_cell (HK3.out.below hB).blk 1
     simp only [List.getElem?_toArray, List.getElem?_cons_succ, List.getElem?_cons_zero] at c1 d0 d1
     have HS := Lib.hid hS
     clear hS hB
     go_wp2
     exact Go.Det.AtEnd.mk HS.out
   apply Go.Mix.seqM_main (by rfl)
   focus
    intro W hS
    obtain rfl : W = W3 := hS
    go_wp2
    exact Go.Det.AtEnd.mk rfl
   refine Go.Mix.seqM_nil ?_
   intro W4 hW4
   obtain rfl : W4 = W3.alloc (.cells #[.int .u8 k, .int .i64 s.t.length, .int .i64 0, .int .i64 0, .bool false, .int .i64 0, .int .i64 0] 155) := hW4
   simp only [List.drop_succ_cons, List.drop_zero]
   obtain ⟨i0, hi, hz0, hz1, hz2⟩ := info_parts info155
   go_wp2_with (at_builtin; refine wpList_append_own_at _ rfl _ _ 101 rfl B0 155 i0 (.agg #[(.int .u8 0), (.int .i64 0), (.int .i64 0), (.int .i64 0), (.bool false), (.int .i64 0), (.int .i64 0)]) 7 56 Try.underlying101 hi hz0 hz1 hz2 rfl (by decide) _ _ _ rfl (HK3.out.row.alloc _) _ 1 1 [.int .u8 k, .int .i64 s.t.length, .int .i64 0, .int .i64 0, .bool false, .int .i64 0, .int .i64 0] rfl rfl ?e1a ?e2a ?e3a ?e4a ?e5a ?e6a)
   case e1a => exact cells_newT W3 [.int .u8 k, .int .i64 s.t.length, .int .i64 0, .int .i64 0, .bool false, .int .i64 0, .int .i64 0] 155
   case e2a => simp [Value.oneCell']
   case e3a => unfold maxLen; omega
   case e4a => omega
   case e5a => first | omega | (simp; omega)
   case e6a =>
    intro v' W5 hown' hgrow _ hat
    obtain ⟨A', c', rfl⟩ := own_slice hown'
    have hfin := row_end (x := ⟨k, s.t.length, 0, 0, false, 0, 0⟩) HK3.out hgrow hown' (by omega)
    obtain ⟨hf1, hf2, hf3⟩ := hfin
    have e0 := blk_cell hf1 0
    have z0 := blk_frozen hf1 0
    have e0' := blk_cell hf2.blk 0
    simp only [List.getElem?_toArray, List.getElem?_cons_succ, List.getElem?_cons_zero] at e0 e0'
    have hX5 : (W5.setCell ⟨g, 0, none⟩ (.slice A' (r1.length + 1) c')).heap[w.heap.size]? = some (.cells #[.int .i64 f0, .int .u8 k, .string f2, .int .i64 f3] 47 (0, 0)) := hf3.2 _ _ HX3.out rfl
    have x3 := blk_cell hX5 3
    simp only [List.getElem?_toArray, List.getElem?_cons_succ, List.getElem?_cons_zero] at x3
    have HO : (opensP s ⟨f0, k, f2, f3⟩) = (⟨r1 ++ [⟨k, s.t.length, 0, 0, false, 0, 0⟩], s.t ++ [⟨k, ⟨#[]⟩, f3, 1⟩]⟩, f3, if 32 < s.row.length + 1 ∨ 8 < hasP 108 (r1 ++ [⟨k, s.t.length, 0, 0, false, 0, 0⟩]) then 5 else E) := by
     unfold opensP
     simp only [HMM.out, if_true, HR1.out, HE.out]
    rw [← HLR.out] at HO
    have HO := Lib.hid HO
    have H2 := Lib.hid hf2
    have H3 := Lib.hid (show Below B0 w (W5.setCell ⟨g, 0, none⟩ (.slice A' (r1.length + 1) c')) ∧ KeepK w (W5.setCell ⟨g, 0, none⟩ (.slice A' (r1.length + 1) c')) from ⟨HL3.out.trans hf3.1, HE3.out.trans hf3.2⟩)
    have HX5 := Lib.hid hX5
    have HH := Lib.hid (hasO_calls B0 (.slice A' (r1.length + 1) c') (r1 ++ [⟨k, s.t.length, 0, 0, false, 0, 0⟩]) 108 _ (by rw [List.length_append]; show r1.length + 1 ≤ _; omega) hf2.row)
    clear hf1 hf2 hf3 hown' hgrow hat hX5
    by_cases h32 : 32 < r1.length + 1
    ·have h32' : (32 : Int) < (r1.length : Int) + 1 := by omega
     go_wp2
     go_ret2
     refine ⟨by rw [HO.out, if_pos (.inl h32)]; rfl, ?_⟩
     rw [HO.out]
     exact StepTo.mk' H2.out H3.out.1 H3.out.2
    ·have h32' : ¬ (32 : Int) < (r1.length : Int) + 1 := by omega
     by_cases h8 : 8 < hasP 108 (r1 ++ [⟨k, s.t.length, 0, 0, false, 0, 0⟩])
     ·have h8' : (8 : Int) < (hasP 108 (r1 ++ [⟨k, s.t.length, 0, 0, false, 0, 0⟩]) : Int) := by omega
      go_wp2_with (go_at_call 135; (with_reducible refine HH.out.mono ?_); rintro e w7 ⟨rfl, hb7⟩; have x3' := blk_cell (blk_below HX5.out hb7) 3; simp only [List.getElem?_toArray, List.getElem?_cons_succ, List.getElem?_cons_zero] at x3')
      go_ret2
      refine ⟨by rw [HO.out, if_pos (.inr h8)]; rfl, ?_⟩
      rw [HO.out]
      exact StepTo.mk' (H2.out.below hb7) (H3.out.1.trans (below_low hb7 (Nat.le_trans hB0 H3.out.1.size))) (H3.out.2.trans (KeepK.below hb7))
     ·have h8' : ¬ (8 : Int) < (hasP 108 (r1 ++ [⟨k, s.t.length, 0, 0, false, 0, 0⟩]) : Int) := by omega
      go_wp2_with (go_at_call 135; (with_reducible refine HH.out.mono ?_); rintro e w7 ⟨rfl, hb7⟩; have x3' := blk_cell (blk_below HX5.out hb7) 3; simp only [List.getElem?_toArray, List.getElem?_cons_succ, List.getElem?_cons_zero] at x3')
      go_ret2
      refine ⟨by rw [HO.out, if_neg (fun h => h.elim h32 h8)]; rfl, ?_⟩
      rw [HO.out]
      exact StepTo.mk' (H2.out.below hb7) (H3.out.1.trans (below_low hb7 (Nat.le_trans hB0 H3.out.1.size))) (H3.out.2.trans (KeepK.below hb7))
  ·have HKE := Lib.hid (beq_iff_eq.1 k1)
   obtain ⟨j, hA⟩ := may_around (show mayP s.row 110 = true from HKE.out ▸ HMM.out)
   have hjl := aroundP_lt _ _ _ _ hA
   obtain ⟨gr, ca, hae, hao⟩ := rowO_form HB.out.row (by omega)
   simp only [Value.slice.injEq] at hae
   obtain ⟨rfl, -, rfl⟩ := hae
   have HNE := Lib.hid (show w.heap.size ≠ gr from fun e => by have := own_lt HROW.out gr rfl; omega)
   have hAC := fun W (hW : BAt W B0 g m (.slice (some ⟨gr, 0, none⟩) s.row.length c) vt s) => around_calls B0 _ c s.row _ _ finds_flow W (by omega) HKB.out hW.row
   simp only [hA] at hAC
   have hno := fun W (hW : BAt W B0 g m (.slice (some ⟨gr, 0, none⟩) s.row.length c) vt s) => rowO_cell hW.row j 3 hjl (by omega)
   have hfr := fun W (hW : BAt W B0 g m (.slice (some ⟨gr, 0, none⟩) s.row.length c) vt s) => World.ownsRow.frozenAt hW.row (j * 7 + 3)
   have hse := fun W (hW : BAt W B0 g m (.slice (some ⟨gr, 0, none⟩) s.row.length c) vt s) => hW.setO j 3 hjl (by omega) noteF (.int .i64 (wrap64 ((s.row.getD j zOpn).note + 1))) rfl
   simp only [cellsO, List.getElem?_cons_succ, List.getElem?_cons_zero] at hno
   obtain ⟨nt, hnt⟩ : ∃ nt, (s.row.getD j zOpn).note = nt := ⟨_, rfl⟩
   rw [hnt] at hno hse
   have HAC := Lib.hid hAC
   have HNO := Lib.hid hno
   have HFR := Lib.hid hfr
   have HSE := Lib.hid hse
   have HA := Lib.hid hA
   clear hAC hno hfr hse hnt hA hao
   go_enter Try.func93, Try.ntmps93
   go_wp2_with (first | (go_at_call 104; (with_reducible refine (HM.out _ HB.out).mono ?_); rintro e w2 ⟨rfl, hb2⟩; have cx1 := blk_cell (blk_below HX.out hb2) 1; have cx3 := blk_cell (blk_below HX.out hb2) 3; have d0 := blk_cell (HB.out.below hb2).blk 0; have q0 := HNO.out _ (HB.out.below hb2); have q1 := HFR.out _ (HB.out.below hb2); have cy1 := blk_cell (blk_far (blk_below HX.out hb2) (p := ⟨gr, j * 7 + 3, none⟩) HNE.out (.int .i64 (wrap64 (nt + 1)))) 1; have cy3 := blk_cell (blk_far (blk_below HX.out hb2) (p := ⟨gr, j * 7 + 3, none⟩) HNE.out (.int .i64 (wrap64 (nt + 1)))) 3; simp only [List.getElem?_toArray, List.getElem?_cons_succ, List.getElem?_cons_zero] at cx1 cx3 d0; simp only [List.getElem?_toArray, List.getElem?_cons_succ, List.getElem?_cons_zero] at cy1 cy3) | (go_at_call 133; (with_reducible refine (HAC.out _ (HB.out.below hb2)).mono ?_); rintro e w2 ⟨rfl, rfl⟩; simp only [ptrO]))
   have HW2 := Lib.hid (HB1.out.trans (hb2.mono HB1.out.size))
   have HS := Lib.hid (show BAt (w2.setCell ⟨gr, j * 7 + 3, none⟩ (.int .i64 (wrap64 (nt + 1)))) B0 g m (.slice (some ⟨gr, 0, none⟩) s.row.length c) vt ⟨markP s.row k, s.t⟩ ∧ Below B0 w (w2.setCell ⟨gr, j * 7 + 3, none⟩ (.int .i64 (wrap64 (nt + 1)))) ∧ KeepK w (w2.setCell ⟨gr, j * 7 + 3, none⟩ (.int .i64 (wrap64 (nt + 1)))) from by
    rw [show markP s.row k = s.row.modify j noteF from by unfold markP; rw [if_pos HKE.out, HA.out]]
    obtain ⟨h1, h2, h3⟩ := HSE.out _ (HB.out.below hb2)
    exact ⟨h1, (below_low HW2.out hB0).trans h2, (KeepK.below HW2.out).trans h3⟩)
   have HX1 := Lib.hid (blk_far (blk_below HX.out hb2) (p := ⟨gr, j * 7 + 3, none⟩) HNE.out (.int .i64 (wrap64 (nt + 1))))
   obtain ⟨W1, hW1⟩ : ∃ W1, w2.setCell ⟨gr, j * 7 + 3, none⟩ (.int .i64 (wrap64 (nt + 1))) = W1 := ⟨_, rfl⟩
   rw [hW1] at HS HX1 ⊢
   clear hW1 cx1 cx3 d0 cy1 cy3 q0 q1
   refine (add_calls B0 g m (.slice (some ⟨gr, 0, none⟩) s.row.length c) vt ⟨markP s.row k, s.t⟩ ⟨k, ⟨#[]⟩, f3, 1⟩ W1 (Nat.le_trans hB0 HS.out.2.1.size) (by rw [markP_length]; omega) (by show s.t.length ≤ _; omega) HS.out.1).mono ?_
   rintro e W2 ⟨rfl, vt2, hbb, hl2, hk2⟩
   replace hbb : BAt W2 B0 g m (.slice (some ⟨gr, 0, none⟩) s.row.length c) vt2 ⟨kidP (markP s.row k), s.t ++ [⟨k, ⟨#[]⟩, f3, 1⟩]⟩ := hbb
   obtain ⟨E, hE⟩ : ∃ E, (addP ⟨markP s.row k, s.t⟩ ⟨k, ⟨#[]⟩, f3, 1⟩).2 = E := ⟨_, rfl⟩
   rw [hE]
   have HE := Lib.hid (show (if 2000 < s.t.length + 1 then (4 : Int) else 0) = E from hE)
   obtain ⟨At, ct, rfl⟩ := own_slice hbb.t
   have hT : (s.t ++ [⟨k, ⟨#[]⟩, f3, 1⟩] : List S56).length = s.t.length + 1 := by simp
   have hR : (kidP (markP s.row k)).length = s.row.length := by rw [kidP_length, markP_length]
   have hfold : BAt W2 B0 g m (.slice (some ⟨gr, 0, none⟩) s.row.length c) (.slice At (s.t.length + 1) ct) ⟨kidP (markP s.row k), s.t ++ [⟨k, ⟨#[]⟩, f3, 1⟩]⟩ := by have := hbb; rw [hT] at this; exact this
   have hX2 : W2.heap[w.heap.size]? = some (.cells #[.int .i64 f0, .int .u8 k, .string f2, .int .i64 f3] 47 (0, 0)) := hk2 _ _ HX1.out rfl
   have hLW : Below B0 w W2 := HS.out.2.1.trans hl2
   have hKW : KeepK w W2 := HS.out.2.2.trans hk2
   obtain ⟨r1, hr1⟩ : ∃ r1, kidP (markP s.row k) = r1 := ⟨_, rfl⟩
   rw [hr1] at hfold hR
   have HR1 := Lib.hid hr1
   have HLR := Lib.hid hR
   rw [← hR] at hfold
   obtain ⟨W3, hW3⟩ : ∃ W3, W2.drew = W3 := ⟨_, rfl⟩
   have hK3 : BAt W3 B0 g m (.slice (some ⟨gr, 0, none⟩) r1.length c) (.slice At (s.t.length + 1) ct) ⟨r1, s.t ++ [⟨k, ⟨#[]⟩, f3, 1⟩]⟩ := by rw [← hW3]; exact hfold.below (below_drew1 (Below.refl _ _))
   have hX3 : W3.heap[w.heap.size]? = some (.cells #[.int .i64 f0, .int .u8 k, .string f2, .int .i64 f3] 47 (0, 0)) := by rw [← hW3]; exact hX2
   have hL3 : Below B0 w W3 := by rw [← hW3]; exact below_drew1 hLW
   have hE3 : KeepK w W3 := by rw [← hW3]; exact hKW.drew
   have hs3 : w.heap.size < W3.heap.size := blk_lt hX3
   have c1 := blk_cell hX2 1
   have d0 := blk_cell hfold.blk 0
   have d1 := blk_cell hfold.blk 1
   simp only [List.getElem?_toArray, List.getElem?_cons_succ, List.getElem?_cons_zero] at c1 d0 d1
   have hrl : r1.length ≤ 999999 := by omega
   have HK3 := Lib.hid hK3
   have HL3 := Lib.hid hL3
   have HE3 := Lib.hid hE3
   have HX3 := Lib.hid hX3
   have HC := Lib.hid (And.intro c1 (And.intro d0 d1))
   clear hE hT hR hr1 hfold hbb hX2 hLW hKW hK3 hX3 hL3 hE3 c1 d0 d1 HS HX1 hl2 hk2 hb2 HX HB1
   go_wp2_with fail
   refine Go.Mix.region_mix' (fun b W => W = (bif b then W3.alloc (.cells #[.int .u8 k, .int .i64 s.t.length, .int .i64 0, .int .i64 0, .bool false, .int .i64 0, .int .i64 0] 155) else W3)) 14 15 [0] (by kernel_rfl) (by kernel_rfl) (fun _ _ _ _ _ h => h) hW3 ?_
   clear hW3
   refine Go.Mix.seqE_cons (t' := #[_, _, _, _, _, _, _, _, _, _, _, _, _, _, _, _, _, _, _, _, _, _, _, _, _, _, _, _, _, _, _, _, _, _, _, _, _, _, _, _, _, _, _, _, _, _, _, _, _, _, _, _, _, _, _, _, _, _, _, _, _, _, _, _, _, _, _, _, _, _, _, _, _, _, _, _, _, _, _, _]) _ (.pointer (some ⟨g, 0, none⟩)) rfl rfl (fun w' => rfl) rfl ?_
   refine Go.Mix.seqE_nil ?_
   refine Go.Mix.seqM_skip (by rfl) ?_
   repeat
    apply Go.Mix.seqM_cons (by rfl) (by rfl)
    focus
     intro b W hS
     have hB : Below W3.heap.size W3 W := by
      rw [hS]
      cases b
      ·exact Below.refl _ _
      ·exact (Below.refl _ _).alloc (Nat.le_refl _) _
     have c1 := blk_cell (blk_below HX3.out hB) 1
     have d0 := blk_cell (HK3.out.below hB).blk 0
     have d1 := blk_cell (HK3.out.below hB).blk 1
     simp only [List.getElem?_toArray, List.getElem?_cons_succ, List.getElem?_cons_zero] at c1 d0 d1
     have HS := Lib.hid hS
     clear hS hB
     go_wp2
     exact Go.Det.AtEnd.mk HS.out
   apply Go.Mix.seqM_main (by rfl)
   focus
    intro W hS
    obtain rfl : W = W3 := hS
    go_wp2
    exact Go.Det.AtEnd.mk rfl
   refine Go.Mix.seqM_nil ?_
   intro W4 hW4
   obtain rfl : W4 = W3.alloc (.cells #[.int .u8 k, .int .i64 s.t.length, .int .i64 0, .int .i64 0, .bool false, .int .i64 0, .int .i64 0] 155) := hW4
   simp only [List.drop_succ_cons, List.drop_zero]
   obtain ⟨i0, hi, hz0, hz1, hz2⟩ := info_parts info155
   go_wp2_with (at_builtin; refine wpList_append_own_at _ rfl _ _ 101 rfl B0 155 i0 (.agg #[(.int .u8 0), (.int .i64 0), (.int .i64 0), (.int .i64 0), (.bool false), (.int .i64 0), (.int .i64 0)]) 7 56 Try.underlying101 hi hz0 hz1 hz2 rfl (by decide) _ _ _ rfl (HK3.out.row.alloc _) _ 1 1 [.int .u8 k, .int .i64 s.t.length, .int .i64 0, .int .i64 0, .bool false, .int .i64 0, .int .i64 0] rfl rfl ?e1b ?e2b ?e3b ?e4b ?e5b ?e6b)
   case e1b => exact cells_newT W3 [.int .u8 k, .int .i64 s.t.length, .int .i64 0, .int .i64 0, .bool false, .int .i64 0, .int .i64 0] 155
   case e2b => simp [Value.oneCell']
   case e3b => unfold maxLen; omega
   case e4b => omega
   case e5b => first | omega | (simp; omega)
   case e6b =>
    intro v' W5 hown' hgrow _ hat
    obtain ⟨A', c', rfl⟩ := own_slice hown'
    have hfin := row_end (x := ⟨k, s.t.length, 0, 0, false, 0, 0⟩) HK3.out hgrow hown' (by omega)
    obtain ⟨hf1, hf2, hf3⟩ := hfin
    have e0 := blk_cell hf1 0
    have z0 := blk_frozen hf1 0
    have e0' := blk_cell hf2.blk 0
    simp only [List.getElem?_toArray, List.getElem?_cons_succ, List.getElem?_cons_zero] at e0 e0'
    have hX5 : (W5.setCell ⟨g, 0, none⟩ (.slice A' (r1.length + 1) c')).heap[w.heap.size]? = some (.cells #[.int .i64 f0, .int .u8 k, .string f2, .int .i64 f3] 47 (0, 0)) := hf3.2 _ _ HX3.out rfl
    have x3 := blk_cell hX5 3
    simp only [List.getElem?_toArray, List.getElem?_cons_succ, List.getElem?_cons_zero] at x3
    have HO : (opensP s ⟨f0, k, f2, f3⟩) = (⟨r1 ++ [⟨k, s.t.length, 0, 0, false, 0, 0⟩], s.t ++ [⟨k, ⟨#[]⟩, f3, 1⟩]⟩, f3, if 32 < s.row.length + 1 ∨ 8 < hasP 108 (r1 ++ [⟨k, s.t.length, 0, 0, false, 0, 0⟩]) then 5 else E) := by
     unfold opensP
     simp only [HMM.out, if_true, HR1.out, HE.out]
    rw [← HLR.out] at HO
    have HO := Lib.hid HO
    have H2 := Lib.hid hf2
    have H3 := Lib.hid (show Below B0 w (W5.setCell ⟨g, 0, none⟩ (.slice A' (r1.length + 1) c')) ∧ KeepK w (W5.setCell ⟨g, 0, none⟩ (.slice A' (r1.length + 1) c')) from ⟨HL3.out.trans hf3.1, HE3.out.trans hf3.2⟩)
    have HX5 := Lib.hid hX5
    have HH := Lib.hid (hasO_calls B0 (.slice A' (r1.length + 1) c') (r1 ++ [⟨k, s.t.length, 0, 0, false, 0, 0⟩]) 108 _ (by rw [List.length_append]; show r1.length + 1 ≤ _; omega) hf2.row)
    clear hf1 hf2 hf3 hown' hgrow hat hX5
    by_cases h32 : 32 < r1.length + 1
    ·have h32' : (32 : Int) < (r1.length : Int) + 1 := by omega
     go_wp2
     go_ret2
     refine ⟨by rw [HO.out, if_pos (.inl h32)]; rfl, ?_⟩
     rw [HO.out]
     exact StepTo.mk' H2.out H3.out.1 H3.out.2
    ·have h32' : ¬ (32 : Int) < (r1.length : Int) + 1 := by omega
     by_cases h8 : 8 < hasP 108 (r1 ++ [⟨k, s.t.length, 0, 0, false, 0, 0⟩])
     ·have h8' : (8 : Int) < (hasP 108 (r1 ++ [⟨k, s.t.length, 0, 0, false, 0, 0⟩]) : Int) := by omega
      go_wp2_with (go_at_call 135; (with_reducible refine HH.out.mono ?_); rintro e w7 ⟨rfl, hb7⟩; have x3' := blk_cell (blk_below HX5.out hb7) 3; simp only [List.getElem?_toArray, List.getElem?_cons_succ, List.getElem?_cons_zero] at x3')
      go_ret2
      refine ⟨by rw [HO.out, if_pos (.inr h8)]; rfl, ?_⟩
      rw [HO.out]
      exact StepTo.mk' (H2.out.below hb7) (H3.out.1.trans (below_low hb7 (Nat.le_trans hB0 H3.out.1.size))) (H3.out.2.trans (KeepK.below hb7))
     ·have h8' : ¬ (8 : Int) < (hasP 108 (r1 ++ [⟨k, s.t.length, 0, 0, false, 0, 0⟩]) : Int) := by omega
      go_wp2_with (go_at_call 135; (with_reducible refine HH.out.mono ?_); rintro e w7 ⟨rfl, hb7⟩; have x3' := blk_cell (blk_below HX5.out hb7) 3; simp only [List.getElem?_toArray, List.getElem?_cons_succ, List.getElem?_cons_zero] at x3')
      go_ret2
      refine ⟨by rw [HO.out, if_neg (fun h => h.elim h32 h8)]; rfl, ?_⟩
      rw [HO.out]
      exact StepTo.mk' (H2.out.below hb7) (H3.out.1.trans (below_low hb7 (Nat.le_trans hB0 H3.out.1.size))) (H3.out.2.trans (KeepK.below hb7))
  ·have HKE := Lib.hid (beq_iff_eq.1 k2)
   have HKF := Lib.hid (beq_eq_false_iff_ne.1 k1)
   by_cases h0 : s.row = []
   ·have h00 : s.row.length = 0 := by rw [h0]; rfl
    have H0 := Lib.hid h0
    have H00 := Lib.hid h00
    clear h0 h00
    go_enter Try.func93, Try.ntmps93
    go_wp2_with (first | (go_at_call 104; (with_reducible refine (HM.out _ HB.out).mono ?_); rintro e w2 ⟨rfl, hb2⟩; have cx1 := blk_cell (blk_below HX.out hb2) 1; have cx3 := blk_cell (blk_below HX.out hb2) 3; have d0 := blk_cell (HB.out.below hb2).blk 0; simp only [List.getElem?_toArray, List.getElem?_cons_succ, List.getElem?_cons_zero] at cx1 cx3 d0; rw [H00.out] at d0; have cy1 := blk_cell (blk_alloc (blk_below HX.out hb2) (.cells #[.int .u8 0, .int .i64 0, .int .i64 0, .int .i64 0, .bool true, .int .i64 0, .int .i64 0] 155)) 1; have cy3 := blk_cell (blk_alloc (blk_below HX.out hb2) (.cells #[.int .u8 0, .int .i64 0, .int .i64 0, .int .i64 0, .bool true, .int .i64 0, .int .i64 0] 155)) 3; simp only [List.getElem?_toArray, List.getElem?_cons_succ, List.getElem?_cons_zero] at cy1 cy3) | (go_at_call 134; (with_reducible refine (top_none c A _).mono ?_); rintro e w3 ⟨rfl, rfl⟩))
    have HW2 := Lib.hid (HB1.out.trans (hb2.mono HB1.out.size))
    have HW3 := Lib.hid (HW2.out.alloc HW2.out.size (.cells #[.int .u8 0, .int .i64 0, .int .i64 0, .int .i64 0, .bool true, .int .i64 0, .int .i64 0] 155))
    have HS := Lib.hid (show BAt (w2.alloc (.cells #[.int .u8 0, .int .i64 0, .int .i64 0, .int .i64 0, .bool true, .int .i64 0, .int .i64 0] 155)) B0 g m (.slice A s.row.length c) vt ⟨markP s.row k, s.t⟩ ∧ Below B0 w (w2.alloc (.cells #[.int .u8 0, .int .i64 0, .int .i64 0, .int .i64 0, .bool true, .int .i64 0, .int .i64 0] 155)) ∧ KeepK w (w2.alloc (.cells #[.int .u8 0, .int .i64 0, .int .i64 0, .int .i64 0, .bool true, .int .i64 0, .int .i64 0] 155)) from by
     rw [show markP s.row k = s.row from by unfold markP; rw [if_neg HKF.out, if_pos HKE.out, H0.out]; rfl]
     exact ⟨(HB.out.below hb2).below ((Below.refl _ _).alloc (Nat.le_refl _) _), below_low HW3.out hB0, KeepK.below HW3.out⟩)
    have HX1 := Lib.hid (blk_alloc (blk_below HX.out hb2) (.cells #[.int .u8 0, .int .i64 0, .int .i64 0, .int .i64 0, .bool true, .int .i64 0, .int .i64 0] 155))
    obtain ⟨W1, hW1⟩ : ∃ W1, w2.alloc (.cells #[.int .u8 0, .int .i64 0, .int .i64 0, .int .i64 0, .bool true, .int .i64 0, .int .i64 0] 155) = W1 := ⟨_, rfl⟩
    rw [hW1] at HS HX1 ⊢
    clear hW1 cx1 cx3 d0 cy1 cy3
    refine (add_calls B0 g m (.slice A s.row.length c) vt ⟨markP s.row k, s.t⟩ ⟨k, ⟨#[]⟩, f3, 1⟩ W1 (Nat.le_trans hB0 HS.out.2.1.size) (by rw [markP_length]; omega) (by show s.t.length ≤ _; omega) HS.out.1).mono ?_
    rintro e W2 ⟨rfl, vt2, hbb, hl2, hk2⟩
    replace hbb : BAt W2 B0 g m (.slice A s.row.length c) vt2 ⟨kidP (markP s.row k), s.t ++ [⟨k, ⟨#[]⟩, f3, 1⟩]⟩ := hbb
    obtain ⟨E, hE⟩ : ∃ E, (addP ⟨markP s.row k, s.t⟩ ⟨k, ⟨#[]⟩, f3, 1⟩).2 = E := ⟨_, rfl⟩
    rw [hE]
    have HE := Lib.hid (show (if 2000 < s.t.length + 1 then (4 : Int) else 0) = E from hE)
    obtain ⟨At, ct, rfl⟩ := own_slice hbb.t
    have hT : (s.t ++ [⟨k, ⟨#[]⟩, f3, 1⟩] : List S56).length = s.t.length + 1 := by simp
    have hR : (kidP (markP s.row k)).length = s.row.length := by rw [kidP_length, markP_length]
    have hfold : BAt W2 B0 g m (.slice A s.row.length c) (.slice At (s.t.length + 1) ct) ⟨kidP (markP s.row k), s.t ++ [⟨k, ⟨#[]⟩, f3, 1⟩]⟩ := by have := hbb; rw [hT] at this; exact this
    have hX2 : W2.heap[w.heap.size]? = some (.cells #[.int .i64 f0, .int .u8 k, .string f2, .int .i64 f3] 47 (0, 0)) := hk2 _ _ HX1.out rfl
    have hLW : Below B0 w W2 := HS.out.2.1.trans hl2
    have hKW : KeepK w W2 := HS.out.2.2.trans hk2
    obtain ⟨r1, hr1⟩ : ∃ r1, kidP (markP s.row k) = r1 := ⟨_, rfl⟩
    rw [hr1] at hfold hR
    have HR1 := Lib.hid hr1
    have HLR := Lib.hid hR
    rw [← hR] at hfold
    obtain ⟨W3, hW3⟩ : ∃ W3, W2.drew = W3 := ⟨_, rfl⟩
    have hK3 : BAt W3 B0 g m (.slice A r1.length c) (.slice At (s.t.length + 1) ct) ⟨r1, s.t ++ [⟨k, ⟨#[]⟩, f3, 1⟩]⟩ := by rw [← hW3]; exact hfold.below (below_drew1 (Below.refl _ _))
    have hX3 : W3.heap[w.heap.size]? = some (.cells #[.int .i64 f0, .int .u8 k, .string f2, .int .i64 f3] 47 (0, 0)) := by rw [← hW3]; exact hX2
    have hL3 : Below B0 w W3 := by rw [← hW3]; exact below_drew1 hLW
    have hE3 : KeepK w W3 := by rw [← hW3]; exact hKW.drew
    have hs3 : w.heap.size < W3.heap.size := blk_lt hX3
    have c1 := blk_cell hX2 1
    have d0 := blk_cell hfold.blk 0
    have d1 := blk_cell hfold.blk 1
    simp only [List.getElem?_toArray, List.getElem?_cons_succ, List.getElem?_cons_zero] at c1 d0 d1
    have hrl : r1.length ≤ 999999 := by omega
    have HK3 := Lib.hid hK3
    have HL3 := Lib.hid hL3
    have HE3 := Lib.hid hE3
    have HX3 := Lib.hid hX3
    have HC := Lib.hid (And.intro c1 (And.intro d0 d1))
    clear hE hT hR hr1 hfold hbb hX2 hLW hKW hK3 hX3 hL3 hE3 c1 d0 d1 HS HX1 hl2 hk2 hb2 HX HB1
    go_wp2_with fail
    refine Go.Mix.region_mix' (fun b W => W = (bif b then W3.alloc (.cells #[.int .u8 k, .int .i64 s.t.length, .int .i64 0, .int .i64 0, .bool false, .int .i64 0, .int .i64 0] 155) else W3)) 14 15 [0] (by kernel_rfl) (by kernel_rfl) (fun _ _ _ _ _ h => h) hW3 ?_
    clear hW3
    refine Go.Mix.seqE_cons (t' := #[_, _, _, _, _, _, _, _, _, _, _, _, _, _, _, _, _, _, _, _, _, _, _, _, _, _, _, _, _, _, _, _, _, _, _, _, _, _, _, _, _, _, _, _, _, _, _, _, _, _, _, _, _, _, _, _, _, _, _, _, _, _, _, _, _, _, _, _, _, _, _, _, _, _, _, _, _, _, _, _]) _ (.pointer (some ⟨g, 0, none⟩)) rfl rfl (fun w' => rfl) rfl ?_
    refine Go.Mix.seqE_nil ?_
    refine Go.Mix.seqM_skip (by rfl) ?_
    repeat
     apply Go.Mix.seqM_cons (by rfl) (by rfl)
     focus
      intro b W hS
      have hB : Below W3.heap.size W3 W := by
       rw [hS]
       cases b
       ·exact Below.refl _ _
       ·exact (Below.refl _ _).alloc (Nat.le_refl _) _
      have c1 := blk_cell (blk_below HX3.out hB) 1
      have d0 := blk_cell (HK3.out.below hB).blk 0
      have d1 := blk_cell (HK3.out.below hB).blk 1
      simp only [List.getElem?_toArray, List.getElem?_cons_succ, List.getElem?_cons_zero] at c1 d0 d1
      have HS := Lib.hid hS
      clear hS hB
      go_wp2
      exact Go.Det.AtEnd.mk HS.out
    apply Go.Mix.seqM_main (by rfl)
    focus
     intro W hS
     obtain rfl : W = W3 := hS
     go_wp2
     exact Go.Det.AtEnd.mk rfl
    refine Go.Mix.seqM_nil ?_
    intro W4 hW4
    obtain rfl : W4 = W3.alloc (.cells #[.int .u8 k, .int .i64 s.t.length, .int .i64 0, .int .i64 0, .bool false, .int .i64 0, .int .i64 0] 155) := hW4
    simp only [List.drop_succ_cons, List.drop_zero]
    obtain ⟨i0, hi, hz0, hz1, hz2⟩ := info_parts info155
    go_wp2_with (at_builtin; refine wpList_append_own_at _ rfl _ _ 101 rfl B0 155 i0 (.agg #[(.int .u8 0), (.int .i64 0), (.int .i64 0), (.int .i64 0), (.bool false), (.int .i64 0), (.int .i64 0)]) 7 56 Try.underlying101 hi hz0 hz1 hz2 rfl (by decide) _ _ _ rfl (HK3.out.row.alloc _) _ 1 1 [.int .u8 k, .int .i64 s.t.length, .int .i64 0, .int .i64 0, .bool false, .int .i64 0, .int .i64 0] rfl rfl ?e1c ?e2c ?e3c ?e4c ?e5c ?e6c)
    case e1c => exact cells_newT W3 [.int .u8 k, .int .i64 s.t.length, .int .i64 0, .int .i64 0, .bool false, .int .i64 0, .int .i64 0] 155
    case e2c => simp [Value.oneCell']
    case e3c => unfold maxLen; omega
    case e4c => omega
    case e5c => first | omega | (simp; omega)
    case e6c =>
     intro v' W5 hown' hgrow _ hat
     obtain ⟨A', c', rfl⟩ := own_slice hown'
     have hfin := row_end (x := ⟨k, s.t.length, 0, 0, false, 0, 0⟩) HK3.out hgrow hown' (by omega)
     obtain ⟨hf1, hf2, hf3⟩ := hfin
     have e0 := blk_cell hf1 0
     have z0 := blk_frozen hf1 0
     have e0' := blk_cell hf2.blk 0
     simp only [List.getElem?_toArray, List.getElem?_cons_succ, List.getElem?_cons_zero] at e0 e0'
     have hX5 : (W5.setCell ⟨g, 0, none⟩ (.slice A' (r1.length + 1) c')).heap[w.heap.size]? = some (.cells #[.int .i64 f0, .int .u8 k, .string f2, .int .i64 f3] 47 (0, 0)) := hf3.2 _ _ HX3.out rfl
     have x3 := blk_cell hX5 3
     simp only [List.getElem?_toArray, List.getElem?_cons_succ, List.getElem?_cons_zero] at x3
     have HO : (opensP s ⟨f0, k, f2, f3⟩) = (⟨r1 ++ [⟨k, s.t.length, 0, 0, false, 0, 0⟩], s.t ++ [⟨k, ⟨#[]⟩, f3, 1⟩]⟩, f3, if 32 < s.row.length + 1 ∨ 8 < hasP 108 (r1 ++ [⟨k, s.t.length, 0, 0, false, 0, 0⟩]) then 5 else E) := by
      unfold opensP
      simp only [HMM.out, if_true, HR1.out, HE.out]
     rw [← HLR.out] at HO
     have HO := Lib.hid HO
     have H2 := Lib.hid hf2
     have H3 := Lib.hid (show Below B0 w (W5.setCell ⟨g, 0, none⟩ (.slice A' (r1.length + 1) c')) ∧ KeepK w (W5.setCell ⟨g, 0, none⟩ (.slice A' (r1.length + 1) c')) from ⟨HL3.out.trans hf3.1, HE3.out.trans hf3.2⟩)
     have HX5 := Lib.hid hX5
     have HH := Lib.hid (hasO_calls B0 (.slice A' (r1.length + 1) c') (r1 ++ [⟨k, s.t.length, 0, 0, false, 0, 0⟩]) 108 _ (by rw [List.length_append]; show r1.length + 1 ≤ _; omega) hf2.row)
     clear hf1 hf2 hf3 hown' hgrow hat hX5
     by_cases h32 : 32 < r1.length + 1
     ·have h32' : (32 : Int) < (r1.length : Int) + 1 := by omega
      go_wp2
      go_ret2
      refine ⟨by rw [HO.out, if_pos (.inl h32)]; rfl, ?_⟩
      rw [HO.out]
      exact StepTo.mk' H2.out H3.out.1 H3.out.2
     ·have h32' : ¬ (32 : Int) < (r1.length : Int) + 1 := by omega
      by_cases h8 : 8 < hasP 108 (r1 ++ [⟨k, s.t.length, 0, 0, false, 0, 0⟩])
      ·have h8' : (8 : Int) < (hasP 108 (r1 ++ [⟨k, s.t.length, 0, 0, false, 0, 0⟩]) : Int) := by omega
       go_wp2_with (go_at_call 135; (with_reducible refine HH.out.mono ?_); rintro e w7 ⟨rfl, hb7⟩; have x3' := blk_cell (blk_below HX5.out hb7) 3; simp only [List.getElem?_toArray, List.getElem?_cons_succ, List.getElem?_cons_zero] at x3')
       go_ret2
       refine ⟨by rw [HO.out, if_pos (.inr h8)]; rfl, ?_⟩
       rw [HO.out]
       exact StepTo.mk' (H2.out.below hb7) (H3.out.1.trans (below_low hb7 (Nat.le_trans hB0 H3.out.1.size))) (H3.out.2.trans (KeepK.below hb7))
      ·have h8' : ¬ (8 : Int) < (hasP 108 (r1 ++ [⟨k, s.t.length, 0, 0, false, 0, 0⟩]) : Int) := by omega
       go_wp2_with (go_at_call 135; (with_reducible refine HH.out.mono ?_); rintro e w7 ⟨rfl, hb7⟩; have x3' := blk_cell (blk_below HX5.out hb7) 3; simp only [List.getElem?_toArray, List.getElem?_cons_succ, List.getElem?_cons_zero] at x3')
       go_ret2
       refine ⟨by rw [HO.out, if_neg (fun h => h.elim h32 h8)]; rfl, ?_⟩
       rw [HO.out]
       exact StepTo.mk' (H2.out.below hb7) (H3.out.1.trans (below_low hb7 (Nat.le_trans hB0 H3.out.1.size))) (H3.out.2.trans (KeepK.below hb7))
   ·have hp : 0 < s.row.length := List.length_pos_iff.2 h0
    obtain ⟨gr, ca, hae, hao⟩ := rowO_form HB.out.row hp
    simp only [Value.slice.injEq] at hae
    obtain ⟨rfl, -, rfl⟩ := hae
    obtain ⟨n, hn'⟩ : ∃ n, s.row.length = n + 1 := ⟨s.row.length - 1, by omega⟩
    have HNE := Lib.hid (show w.heap.size ≠ gr from fun e => by have := own_lt HROW.out gr rfl; omega)
    have htop := fun W => top_some gr n c (by omega) W
    have hno := fun W (hW : BAt W B0 g m (.slice (some ⟨gr, 0, none⟩) s.row.length c) vt s) => rowO_cell hW.row n 4 (by omega) (by omega)
    have hfr := fun W (hW : BAt W B0 g m (.slice (some ⟨gr, 0, none⟩) s.row.length c) vt s) => World.ownsRow.frozenAt hW.row (n * 7 + 4)
    have hse := fun W (hW : BAt W B0 g m (.slice (some ⟨gr, 0, none⟩) s.row.length c) vt s) => hW.setO n 4 (by omega) (by omega) pastF (.bool true) rfl
    simp only [cellsO, List.getElem?_cons_succ, List.getElem?_cons_zero] at hno
    generalize (s.row.getD n zOpn).past = ps at hno
    have HT := Lib.hid htop
    have HNO := Lib.hid hno
    have HFR := Lib.hid hfr
    have HSE := Lib.hid hse
    have HN := Lib.hid hn'
    clear htop hno hfr hse hao hn' h0 hp
    go_enter Try.func93, Try.ntmps93
    go_wp2_with (first | (go_at_call 104; (with_reducible refine (HM.out _ HB.out).mono ?_); rintro e w2 ⟨rfl, hb2⟩; have cx1 := blk_cell (blk_below HX.out hb2) 1; have cx3 := blk_cell (blk_below HX.out hb2) 3; have d0 := blk_cell (HB.out.below hb2).blk 0; have q0 := HNO.out _ (HB.out.below hb2); have q1 := HFR.out _ (HB.out.below hb2); have cy1 := blk_cell (blk_far (blk_below HX.out hb2) (p := ⟨gr, n * 7 + 4, none⟩) HNE.out (.bool true)) 1; have cy3 := blk_cell (blk_far (blk_below HX.out hb2) (p := ⟨gr, n * 7 + 4, none⟩) HNE.out (.bool true)) 3; simp only [List.getElem?_toArray, List.getElem?_cons_succ, List.getElem?_cons_zero] at cx1 cx3 d0; rw [HN.out] at d0; simp only [List.getElem?_toArray, List.getElem?_cons_succ, List.getElem?_cons_zero] at cy1 cy3) | (go_at_call 134; (with_reducible refine (HT.out _).mono ?_); rintro e w2 ⟨rfl, rfl⟩))
    have HW2 := Lib.hid (HB1.out.trans (hb2.mono HB1.out.size))
    have HS := Lib.hid (show BAt (w2.setCell ⟨gr, n * 7 + 4, none⟩ (.bool true)) B0 g m (.slice (some ⟨gr, 0, none⟩) s.row.length c) vt ⟨markP s.row k, s.t⟩ ∧ Below B0 w (w2.setCell ⟨gr, n * 7 + 4, none⟩ (.bool true)) ∧ KeepK w (w2.setCell ⟨gr, n * 7 + 4, none⟩ (.bool true)) from by
     rw [show markP s.row k = s.row.modify n pastF from by unfold markP; rw [if_neg HKF.out, if_pos HKE.out, HN.out]; rfl]
     obtain ⟨h1, h2, h3⟩ := HSE.out _ (HB.out.below hb2)
     exact ⟨h1, (below_low HW2.out hB0).trans h2, (KeepK.below HW2.out).trans h3⟩)
    have HX1 := Lib.hid (blk_far (blk_below HX.out hb2) (p := ⟨gr, n * 7 + 4, none⟩) HNE.out (.bool true))
    obtain ⟨W1, hW1⟩ : ∃ W1, w2.setCell ⟨gr, n * 7 + 4, none⟩ (.bool true) = W1 := ⟨_, rfl⟩
    rw [hW1] at HS HX1 ⊢
    clear hW1 cx1 cx3 d0 cy1 cy3 q0 q1
    refine (add_calls B0 g m (.slice (some ⟨gr, 0, none⟩) s.row.length c) vt ⟨markP s.row k, s.t⟩ ⟨k, ⟨#[]⟩, f3, 1⟩ W1 (Nat.le_trans hB0 HS.out.2.1.size) (by rw [markP_length]; omega) (by show s.t.length ≤ _; omega) HS.out.1).mono ?_
    rintro e W2 ⟨rfl, vt2, hbb, hl2, hk2⟩
    replace hbb : BAt W2 B0 g m (.slice (some ⟨gr, 0, none⟩) s.row.length c) vt2 ⟨kidP (markP s.row k), s.t ++ [⟨k, ⟨#[]⟩, f3, 1⟩]⟩ := hbb
    obtain ⟨E, hE⟩ : ∃ E, (addP ⟨markP s.row k, s.t⟩ ⟨k, ⟨#[]⟩, f3, 1⟩).2 = E := ⟨_, rfl⟩
    rw [hE]
    have HE := Lib.hid (show (if 2000 < s.t.length + 1 then (4 : Int) else 0) = E from hE)
    obtain ⟨At, ct, rfl⟩ := own_slice hbb.t
    have hT : (s.t ++ [⟨k, ⟨#[]⟩, f3, 1⟩] : List S56).length = s.t.length + 1 := by simp
    have hR : (kidP (markP s.row k)).length = s.row.length := by rw [kidP_length, markP_length]
    have hfold : BAt W2 B0 g m (.slice (some ⟨gr, 0, none⟩) s.row.length c) (.slice At (s.t.length + 1) ct) ⟨kidP (markP s.row k), s.t ++ [⟨k, ⟨#[]⟩, f3, 1⟩]⟩ := by have := hbb; rw [hT] at this; exact this
    have hX2 : W2.heap[w.heap.size]? = some (.cells #[.int .i64 f0, .int .u8 k, .string f2, .int .i64 f3] 47 (0, 0)) := hk2 _ _ HX1.out rfl
    have hLW : Below B0 w W2 := HS.out.2.1.trans hl2
    have hKW : KeepK w W2 := HS.out.2.2.trans hk2
    obtain ⟨r1, hr1⟩ : ∃ r1, kidP (markP s.row k) = r1 := ⟨_, rfl⟩
    rw [hr1] at hfold hR
    have HR1 := Lib.hid hr1
    have HLR := Lib.hid hR
    rw [← hR] at hfold
    obtain ⟨W3, hW3⟩ : ∃ W3, W2.drew = W3 := ⟨_, rfl⟩
    have hK3 : BAt W3 B0 g m (.slice (some ⟨gr, 0, none⟩) r1.length c) (.slice At (s.t.length + 1) ct) ⟨r1, s.t ++ [⟨k, ⟨#[]⟩, f3, 1⟩]⟩ := by rw [← hW3]; exact hfold.below (below_drew1 (Below.refl _ _))
    have hX3 : W3.heap[w.heap.size]? = some (.cells #[.int .i64 f0, .int .u8 k, .string f2, .int .i64 f3] 47 (0, 0)) := by rw [← hW3]; exact hX2
    have hL3 : Below B0 w W3 := by rw [← hW3]; exact below_drew1 hLW
    have hE3 : KeepK w W3 := by rw [← hW3]; exact hKW.drew
    have hs3 : w.heap.size < W3.heap.size := blk_lt hX3
    have c1 := blk_cell hX2 1
    have d0 := blk_cell hfold.blk 0
    have d1 := blk_cell hfold.blk 1
    simp only [List.getElem?_toArray, List.getElem?_cons_succ, List.getElem?_cons_zero] at c1 d0 d1
    have hrl : r1.length ≤ 999999 := by omega
    have HK3 := Lib.hid hK3
    have HL3 := Lib.hid hL3
    have HE3 := Lib.hid hE3
    have HX3 := Lib.hid hX3
    have HC := Lib.hid (And.intro c1 (And.intro d0 d1))
    clear hE hT hR hr1 hfold hbb hX2 hLW hKW hK3 hX3 hL3 hE3 c1 d0 d1 HS HX1 hl2 hk2 hb2 HX HB1
    go_wp2_with fail
    refine Go.Mix.region_mix' (fun b W => W = (bif b then W3.alloc (.cells #[.int .u8 k, .int .i64 s.t.length, .int .i64 0, .int .i64 0, .bool false, .int .i64 0, .int .i64 0] 155) else W3)) 14 15 [0] (by kernel_rfl) (by kernel_rfl) (fun _ _ _ _ _ h => h) hW3 ?_
    clear hW3
    refine Go.Mix.seqE_cons (t' := #[_, _, _, _, _, _, _, _, _, _, _, _, _, _, _, _, _, _, _, _, _, _, _, _, _, _, _, _, _, _, _, _, _, _, _, _, _, _, _, _, _, _, _, _, _, _, _, _, _, _, _, _, _, _, _, _, _, _, _, _, _, _, _, _, _, _, _, _, _, _, _, _, _, _, _, _, _, _, _, _]) _ (.pointer (some ⟨g, 0, none⟩)) rfl rfl (fun w' => rfl) rfl ?_
    refine Go.Mix.seqE_nil ?_
    refine Go.Mix.seqM_skip (by rfl) ?_
    repeat
     apply Go.Mix.seqM_cons (by rfl) (by rfl)
     focus
      intro b W hS
      have hB : Below W3.heap.size W3 W := by
       rw [hS]
       cases b
       ·exact Below.refl _ _
       ·exact (Below.refl _ _).alloc (Nat.le_refl _) _
      have c1 := blk_cell (blk_below HX3.out hB) 1
      have d0 := blk_cell (HK3.out.below hB).blk 0
      have d1 := blk_cell (HK3.out.below hB).blk 1
      simp only [List.getElem?_toArray, List.getElem?_cons_succ, List.getElem?_cons_zero] at c1 d0 d1
      have HS := Lib.hid hS
      clear hS hB
      go_wp2
      exact Go.Det.AtEnd.mk HS.out
    apply Go.Mix.seqM_main (by rfl)
    focus
     intro W hS
     obtain rfl : W = W3 := hS
     go_wp2
     exact Go.Det.AtEnd.mk rfl
    refine Go.Mix.seqM_nil ?_
    intro W4 hW4
    obtain rfl : W4 = W3.alloc (.cells #[.int .u8 k, .int .i64 s.t.length, .int .i64 0, .int .i64 0, .bool false, .int .i64 0, .int .i64 0] 155) := hW4
    simp only [List.drop_succ_cons, List.drop_zero]
    obtain ⟨i0, hi, hz0, hz1, hz2⟩ := info_parts info155
    go_wp2_with (at_builtin; refine wpList_append_own_at _ rfl _ _ 101 rfl B0 155 i0 (.agg #[(.int .u8 0), (.int .i64 0), (.int .i64 0), (.int .i64 0), (.bool false), (.int .i64 0), (.int .i64 0)]) 7 56 Try.underlying101 hi hz0 hz1 hz2 rfl (by decide) _ _ _ rfl (HK3.out.row.alloc _) _ 1 1 [.int .u8 k, .int .i64 s.t.length, .int .i64 0, .int .i64 0, .bool false, .int .i64 0, .int .i64 0] rfl rfl ?e1d ?e2d ?e3d ?e4d ?e5d ?e6d)
    case e1d => exact cells_newT W3 [.int .u8 k, .int .i64 s.t.length, .int .i64 0, .int .i64 0, .bool false, .int .i64 0, .int .i64 0] 155
    case e2d => simp [Value.oneCell']
    case e3d => unfold maxLen; omega
    case e4d => omega
    case e5d => first | omega | (simp; omega)
    case e6d =>
     intro v' W5 hown' hgrow _ hat
     obtain ⟨A', c', rfl⟩ := own_slice hown'
     have hfin := row_end (x := ⟨k, s.t.length, 0, 0, false, 0, 0⟩) HK3.out hgrow hown' (by omega)
     obtain ⟨hf1, hf2, hf3⟩ := hfin
     have e0 := blk_cell hf1 0
     have z0 := blk_frozen hf1 0
     have e0' := blk_cell hf2.blk 0
     simp only [List.getElem?_toArray, List.getElem?_cons_succ, List.getElem?_cons_zero] at e0 e0'
     have hX5 : (W5.setCell ⟨g, 0, none⟩ (.slice A' (r1.length + 1) c')).heap[w.heap.size]? = some (.cells #[.int .i64 f0, .int .u8 k, .string f2, .int .i64 f3] 47 (0, 0)) := hf3.2 _ _ HX3.out rfl
     have x3 := blk_cell hX5 3
     simp only [List.getElem?_toArray, List.getElem?_cons_succ, List.getElem?_cons_zero] at x3
     have HO : (opensP s ⟨f0, k, f2, f3⟩) = (⟨r1 ++ [⟨k, s.t.length, 0, 0, false, 0, 0⟩], s.t ++ [⟨k, ⟨#[]⟩, f3, 1⟩]⟩, f3, if 32 < s.row.length + 1 ∨ 8 < hasP 108 (r1 ++ [⟨k, s.t.length, 0, 0, false, 0, 0⟩]) then 5 else E) := by
      unfold opensP
      simp only [HMM.out, if_true, HR1.out, HE.out]
     rw [← HLR.out] at HO
     have HO := Lib.hid HO
     have H2 := Lib.hid hf2
     have H3 := Lib.hid (show Below B0 w (W5.setCell ⟨g, 0, none⟩ (.slice A' (r1.length + 1) c')) ∧ KeepK w (W5.setCell ⟨g, 0, none⟩ (.slice A' (r1.length + 1) c')) from ⟨HL3.out.trans hf3.1, HE3.out.trans hf3.2⟩)
     have HX5 := Lib.hid hX5
     have HH := Lib.hid (hasO_calls B0 (.slice A' (r1.length + 1) c') (r1 ++ [⟨k, s.t.length, 0, 0, false, 0, 0⟩]) 108 _ (by rw [List.length_append]; show r1.length + 1 ≤ _; omega) hf2.row)
     clear hf1 hf2 hf3 hown' hgrow hat hX5
     by_cases h32 : 32 < r1.length + 1
     ·have h32' : (32 : Int) < (r1.length : Int) + 1 := by omega
      go_wp2
      go_ret2
      refine ⟨by rw [HO.out, if_pos (.inl h32)]; rfl, ?_⟩
      rw [HO.out]
      exact StepTo.mk' H2.out H3.out.1 H3.out.2
     ·have h32' : ¬ (32 : Int) < (r1.length : Int) + 1 := by omega
      by_cases h8 : 8 < hasP 108 (r1 ++ [⟨k, s.t.length, 0, 0, false, 0, 0⟩])
      ·have h8' : (8 : Int) < (hasP 108 (r1 ++ [⟨k, s.t.length, 0, 0, false, 0, 0⟩]) : Int) := by omega
       go_wp2_with (go_at_call 135; (with_reducible refine HH.out.mono ?_); rintro e w7 ⟨rfl, hb7⟩; have x3' := blk_cell (blk_below HX5.out hb7) 3; simp only [List.getElem?_toArray, List.getElem?_cons_succ, List.getElem?_cons_zero] at x3')
       go_ret2
       refine ⟨by rw [HO.out, if_pos (.inr h8)]; rfl, ?_⟩
       rw [HO.out]
       exact StepTo.mk' (H2.out.below hb7) (H3.out.1.trans (below_low hb7 (Nat.le_trans hB0 H3.out.1.size))) (H3.out.2.trans (KeepK.below hb7))
      ·have h8' : ¬ (8 : Int) < (hasP 108 (r1 ++ [⟨k, s.t.length, 0, 0, false, 0, 0⟩]) : Int) := by omega
       go_wp2_with (go_at_call 135; (with_reducible refine HH.out.mono ?_); rintro e w7 ⟨rfl, hb7⟩; have x3' := blk_cell (blk_below HX5.out hb7) 3; simp only [List.getElem?_toArray, List.getElem?_cons_succ, List.getElem?_cons_zero] at x3')
       go_ret2
       refine ⟨by rw [HO.out, if_neg (fun h => h.elim h32 h8)]; rfl, ?_⟩
       rw [HO.out]
       exact StepTo.mk' (H2.out.below hb7) (H3.out.1.trans (below_low hb7 (Nat.le_trans hB0 H3.out.1.size))) (H3.out.2.trans (KeepK.below hb7))
set_option pp.maxSteps 3000 in
set_option maxRecDepth 100000 in
set_option maxHeartbeats 8000000 in
theorem whole_calls (B0 g m : Nat) (vr vt : Value) (r : List Opn) (t : List S56) (x : Opn) (w : World) (hB0 : B0 ≤ w.heap.size) (hn : r.length ≤ 999999) (hkb : KindsB r) (hb : BAt w B0 g m vr vt ⟨r, t⟩)
  (htab : x.kind = 114 → ∃ j, aroundP [116] r r.length = some j) :
  Calls Try.prog 136 #[.pointer (some ⟨g, 0, none⟩), .agg #[.int .u8 x.kind, .int .i64 x.pos, .int .i64 x.kids, .int .i64 x.note, .bool x.past, .int .i64 x.cols, .int .i64 x.text]] w fun e w' =>
   e = .returned (.bool (wholeP r x).2) ∧ StepTo B0 g m ⟨(wholeP r x).1, t⟩ w w' := by
 obtain ⟨A, c, rfl⟩ := own_slice hb.row
 have hb1 : Below w.heap.size w (w.alloc (.cells #[.int .u8 x.kind, .int .i64 x.pos, .int .i64 x.kids, .int .i64 x.note, .bool x.past, .int .i64 x.cols, .int .i64 x.text] 155)) := (Below.refl _ w).alloc (Nat.le_refl _) _
 have hx := blk_new w (.cells #[.int .u8 x.kind, .int .i64 x.pos, .int .i64 x.kids, .int .i64 x.note, .bool x.past, .int .i64 x.cols, .int .i64 x.text] 155)
 have hbx := hb.below hb1
 obtain ⟨f0, f1, f2, f3, f4, f5, f6⟩ := x
 simp only at htab hb1 hx hbx ⊢
 obtain ⟨w1, hw1⟩ : ∃ w1, w.alloc (.cells #[.int .u8 f0, .int .i64 f1, .int .i64 f2, .int .i64 f3, .bool f4, .int .i64 f5, .int .i64 f6] 155) = w1 := ⟨_, rfl⟩
 rw [hw1] at hb1 hx hbx
 have x0 := blk_cell hx 0
 have x2 := blk_cell hx 2
 have d0 := blk_cell hbx.blk 0
 simp only [List.getElem?_toArray, List.getElem?_cons_succ, List.getElem?_cons_zero] at x0 x2 d0
 have HROW := Lib.hid hb.row
 have HB := Lib.hid hbx
 have HB1 := Lib.hid hb1
 have HX := Lib.hid hx
 have HKB := Lib.hid hkb
 clear hb hb1 hx hbx hkb
 have hcase : (f0 == 108) = true ∨ ((f0 == 108) = false ∧ (f0 == 116) = true) ∨ ((f0 == 108) = false ∧ (f0 == 116) = false ∧ (f0 == 114) = true) ∨ ((f0 == 108) = false ∧ (f0 == 116) = false ∧ (f0 == 114) = false) := by
  simp only [beq_eq_false_iff_ne, beq_iff_eq]; omega
 rcases hcase with k1 | ⟨k1, k2⟩ | ⟨k1, k2, k3⟩ | ⟨k1, k2, k3⟩
 ·have HO := Lib.hid (show wholeP r ⟨f0, f1, f2, f3, f4, f5, f6⟩ = (r, decide (0 < f2)) from by unfold wholeP; rw [if_pos (.inl (beq_iff_eq.1 k1))])
  go_enter Try.func136, Try.ntmps136
  go_wp2
  go_ret
  refine ⟨by rw [HO.out]; rfl, ?_⟩
  rw [HO.out]
  exact StepTo.mk' HB.out (below_low HB1.out hB0) (KeepK.below HB1.out)
 ·have HO := Lib.hid (show wholeP r ⟨f0, f1, f2, f3, f4, f5, f6⟩ = (r, decide (0 < f2)) from by unfold wholeP; rw [if_pos (.inr (beq_iff_eq.1 k2))])
  go_enter Try.func136, Try.ntmps136
  go_wp2
  go_ret
  refine ⟨by rw [HO.out]; rfl, ?_⟩
  rw [HO.out]
  exact StepTo.mk' HB.out (below_low HB1.out hB0) (KeepK.below HB1.out)
 ·obtain ⟨j, hA⟩ := htab (beq_iff_eq.1 k3)
  have hjl := aroundP_lt _ _ _ _ hA
  obtain ⟨gr, ca, hae, hao⟩ := rowO_form HB.out.row (by show 0 < r.length; omega)
  simp only [Value.slice.injEq] at hae
  obtain ⟨rfl, -, rfl⟩ := hae
  have hac := around_calls B0 _ c r _ _ finds_t w1 (by omega) HKB.out HB.out.row
  rw [hA] at hac
  have HAC := Lib.hid hac
  have hne : w.heap.size ≠ gr := fun e => by have := own_lt HROW.out gr rfl; omega
  have q5 := rowO_cell HB.out.row j 5 hjl (by omega)
  have z5 := World.ownsRow.frozenAt HB.out.row (j * 7 + 5)
  simp only [cellsO, List.getElem?_cons_succ, List.getElem?_cons_zero] at q5
  have HO := Lib.hid (show wholeP r ⟨f0, f1, f2, f3, f4, f5, f6⟩ = if (r.getD j zOpn).cols = 0 then (r.modify j (colsF f2), decide (0 < f2)) else (r, decide (0 < f2) && f2 == (r.getD j zOpn).cols) from by
   unfold wholeP
   simp only [hA]
   rw [if_neg (fun h => h.elim (beq_eq_false_iff_ne.1 k1) (beq_eq_false_iff_ne.1 k2)), if_pos (beq_iff_eq.1 k3)])
  have hse := BAt.setO (s := ⟨r, t⟩) HB.out j 5 hjl (by omega) (colsF f2) (.int .i64 f2) rfl
  obtain ⟨cl, hcl⟩ : ∃ cl, (r.getD j zOpn).cols = cl := ⟨_, rfl⟩
  rw [hcl] at q5 HO
  have hX4 := blk_far HX.out (p := ⟨gr, j * 7 + 5, none⟩) hne (.int .i64 f2)
  have HSE := Lib.hid hse
  have HX4 := Lib.hid hX4
  have HQ := Lib.hid (And.intro q5 z5)
  have HNE := Lib.hid hne
  clear hac hse hX4 hao hA htab hcl hne
  by_cases h0 : cl = 0
  ·have h0b : (cl == 0) = true := beq_iff_eq.2 h0
   rw [if_pos h0] at HO
   have hrow6 : (w1.setCell ⟨gr, j * 7 + 5, none⟩ (.int .i64 f2)).ownsRow B0 155 7 (.slice (some ⟨gr, 0, none⟩) (r.modify j (colsF f2)).length c) (r.modify j (colsF f2)).length (flatO (r.modify j (colsF f2))) := by
    have := HSE.out.1.row
    unfold RowO at this
    simp only [List.length_modify] at this ⊢
    exact this
   have q6' := rowO_cell hrow6 j 5 (by simpa using hjl) (by omega)
   have e5 : ((r.modify j (colsF f2)).getD j zOpn).cols = f2 := by
    rw [List.getD_eq_getElem?_getD, List.getElem?_modify, List.getElem?_eq_getElem hjl]
    simp [colsF]
   simp only [cellsO, List.getElem?_cons_succ, List.getElem?_cons_zero, e5] at q6'
   have y2 := blk_cell HX4.out 2
   simp only [List.getElem?_toArray, List.getElem?_cons_succ, List.getElem?_cons_zero] at y2
   have HY := Lib.hid (And.intro q6' y2)
   clear hrow6 q6' y2 e5 h0
   go_enter Try.func136, Try.ntmps136
   go_wp2_with (go_at_call 133; (with_reducible refine HAC.out.mono ?_); rintro e w1 ⟨rfl, rfl⟩; simp only [ptrO])
   obtain ⟨W2, hW2⟩ : ∃ W2, w1.setCell ⟨gr, j * 7 + 5, none⟩ (.int .i64 f2) = W2 := ⟨_, rfl⟩
   rw [hW2] at HSE HX4 HY ⊢
   cases hd : decide (0 < f2)
   all_goals
    refine Go.Det.region_all (fun W => W = W2.drew) (by kernel_rfl) (by kernel_rfl) rfl ?_
    repeat
     apply Go.Det.seqW_cons
     focus
      intro W hS
      obtain rfl : W = W2.drew := hS
      obtain ⟨q5', y2⟩ := HY.out
      go_wp2
      exact Go.Det.AtEnd.mk rfl
    refine Go.Det.seqW_nil ?_
    intro W hS
    obtain rfl : W = W2.drew := hS
    simp only [Exit.then]
    go_wp2
    go_ret
    refine ⟨by rw [HO.out]; simp [hd], ?_⟩
    rw [HO.out]
    have hbd : Below W2.heap.size W2 W2.drew := below_drew1 (Below.refl _ _)
    exact StepTo.mk' (HSE.out.1.below hbd) (below_drew1 ((below_low HB1.out hB0).trans HSE.out.2.1)) (((KeepK.below HB1.out).trans HSE.out.2.2).drew)
  ·have h0b : (cl == 0) = false := beq_eq_false_iff_ne.2 h0
   rw [if_neg h0] at HO
   clear h0
   go_enter Try.func136, Try.ntmps136
   go_wp2_with (go_at_call 133; (with_reducible refine HAC.out.mono ?_); rintro e w1 ⟨rfl, rfl⟩; simp only [ptrO])
   cases hd : decide (0 < f2)
   all_goals
    refine Go.Det.region_all (fun W => W = w1.drew) (by kernel_rfl) (by kernel_rfl) rfl ?_
    repeat
     apply Go.Det.seqW_cons
     focus
      intro W hS
      obtain rfl : W = w1.drew := hS
      obtain ⟨q5', z5'⟩ := HQ.out
      go_wp2
      exact Go.Det.AtEnd.mk rfl
    refine Go.Det.seqW_nil ?_
    intro W hS
    obtain rfl : W = w1.drew := hS
    simp only [Exit.then]
    go_wp2
    go_ret
    refine ⟨by rw [HO.out]; simp [hd], ?_⟩
    rw [HO.out]
    exact StepTo.mk' (HB.out.below (below_drew1 (Below.refl _ _))) (below_drew1 (below_low HB1.out hB0)) ((KeepK.below HB1.out).drew)
 ·have HO := Lib.hid (show wholeP r ⟨f0, f1, f2, f3, f4, f5, f6⟩ = (r, true) from by
   unfold wholeP; rw [if_neg (fun h => h.elim (beq_eq_false_iff_ne.1 k1) (beq_eq_false_iff_ne.1 k2)), if_neg (beq_eq_false_iff_ne.1 k3)])
  go_enter Try.func136, Try.ntmps136
  go_wp2
  go_ret
  refine ⟨by rw [HO.out]; rfl, ?_⟩
  rw [HO.out]
  exact StepTo.mk' HB.out (below_low HB1.out hB0) (KeepK.below HB1.out)
end Go.Proofs.Ythcmfjpheanphaa.Pr
