/- Texts of this seat, one behind the other. -/
import Derived.Maps.OwnOps
import Derived.DeepKeys4
import Derived.BigRegion
import Derived.RangeFuncNested
import Derived.RangeFuncBound
import Derived.RangeFuncCalls
import Derived.RangeFuncLeaves
import Derived.Shelf.Abstract
import Derived.Shelf.RegionOpen
import Derived.OwnWalkIn
import Derived.TacticsInMore
import Derived.LoopNIn
import Derived.LoopIn
import Derived.RangeFuncBox
import Derived.Test.YthcmfjpheanphaaXNormForms2
set_option linter.unusedVariables false
set_option linter.unusedSimpArgs false
set_option maxHeartbeats 16000000
set_option maxRecDepth 100000
namespace Go.Proofs.Ythcmfjpheanphaa.Pr
open Go.RowKit Go.Maps Go.Proofs.YthcmfjpheanphaaW.PrintWords
attribute [local go_sem] Oper.semAt_some
theorem yhP : laidOutB Try.prog = true := by kernel_rfl
theorem yeT : (169 : TypeId) < Try.prog.types.size := of_decide_eq_true (by kernel_rfl)
theorem wide169 : (match Try.prog.underlying 169 with | some (.array _ _) | some (.struct _) => true | _ => false) = true := by rw [Try.underlying169]
theorem yeU : Keyed Try.prog 169 := Keyed.of_law (deep_law_laid yhP (m := 2) (by omega) yeT (by kernel_rfl) wide169)
theorem zero3 (w : World) : (zeroValue 3).run Try.prog w = .ok (.int .i64 0) w := by kernel_rfl
def pairV (a b : Int) : Value := .agg #[.int .u8 a,.int .u8 b]
def okI (a b : Int) : Int := if okP a b then 1 else 0
def zlP (W : World) (m : Nat) : Prop := ∃ n D,W.ownsMap (H := Unit) Try.prog 169 (plainElem Try.prog 3) m n D ∧
 ∀ a b : Int,0 ≤ a → a ≤ 255 → 0 ≤ b → b ≤ 255 → ∃ kl,keyOf Try.prog 169 (pairV a b) = some kl ∧ D.atKey kl (.lit (.int .i64 0)) = .lit (.int .i64 (okI a b))
theorem zyN {W : World} {m : Nat} (h : zlP W m) (a b : Int) (a0 : 0 ≤ a) (a1 : a ≤ 255) (b0 : 0 ≤ b) (b1 : b ≤ 255) :
  (Instr.lookup 102 (.map (some m)) (.agg #[.int .u8 a,.int .u8 b]) false).run Try.prog W = .ok (.int .i64 (okI a b)) W := by
 obtain ⟨n,D,ho,hD⟩ := h
 obtain ⟨kl,hk,hat⟩ := hD a b a0 a1 b0 b1
 obtain ⟨c,hrun,hc,_⟩ := ho.lookup_int (t := 102) yeU Try.underlying102 Try.underlying3 (zero3 W) hk
 rw [hat] at hc
 simp only [DataW.lit.injEq,Lit.int.injEq,true_and] at hc
 rw [hc]
 exact hrun
theorem zhU {W W' : World} {m : Nat} (h : zlP W m) (e : ∀ o,W.heap[m]? = some o → W'.heap[m]? = some o) : zlP W' m := by
 obtain ⟨n,D,⟨es,clock,hb,r1,r2,r3⟩,hD⟩ := h
 exact ⟨n,D,⟨es,clock,e _ hb,r1,r2,r3⟩,hD⟩
theorem zoA {W : World} {m : Nat} (h : zlP W m) : ∃ es clock,W.heap[m]? = some (.map es clock) := by
 obtain ⟨n,D,⟨es,clock,hb,_⟩,_⟩ := h
 exact ⟨es,clock,hb⟩
def zaU (xs : List S56) : List Value := xs.flatMap fun x => [.int .u8 x.f0,.string x.f1,.int .i64 x.f2,.int .i64 x.f3]
structure BAt (W : World) (B0 g m : Nat) (vr vt : Value) (s : Bld) : Prop where
 base : B0 ≤ g
 blk : W.heap[g]? = some (.cells #[vr,vt,.map (some m)] 104 (0,0))
 row : RowO W B0 vr s.row
 t : W.ownsRow B0 56 4 vt s.t.length (zaU s.t)
 map : zlP W m
theorem BAt.below {W W' : World} {B0 g m : Nat} {vr vt : Value} {s : Bld} (h : BAt W B0 g m vr vt s) (hb : Below W.heap.size W W') : BAt W' B0 g m vr vt s :=
 ⟨h.base,zaG h.blk hb,zcI h.row hb,zcI h.t hb,zhU h.map fun o ho => zaG ho hb⟩
theorem yeV (B0 : Nat) (v : Value) (r : List Opn) (w : World) (hn : r.length ≤ 1000000) (hr : RowO w B0 v r) :
  Calls Try.prog 134 #[v] w fun e w' => ∃ b o,e = .returned (.pointer (some ⟨b,o,none⟩)) ∧ Below w.heap.size w w' ∧ ∀ i,i < 7 → w'.cell? ⟨b,o + i,none⟩ = (zcK (topP r))[i]? := by
 by_cases h0 : r = []
 ·subst h0
  obtain ⟨A,c,rfl⟩ := zbB hr
  refine (zsK c A w).mono ?_
  rintro e w' ⟨rfl,rfl⟩
  refine ⟨_,_,rfl,(Below.refl _ _).alloc (Nat.le_refl _) _,fun i hi => ?_⟩
  rw [Nat.zero_add,zaB (zbW w _)]
  exact List.getElem?_toArray
 have hp : 0 < r.length := List.length_pos_iff.2 h0
 obtain ⟨g,c,rfl,ho⟩ := zfP hr hp
 obtain ⟨n,hn'⟩ : ∃ n,r.length = n + 1 := ⟨r.length - 1,by omega⟩
 have hc := fun i hi => zdE ho n i (by omega) hi
 have ht : r.getD n zOpn = topP r := by
  unfold topP
  rw [List.getLast?_eq_getElem?,List.getD_eq_getElem?_getD,hn']
  rfl
 rw [ht] at hc
 rw [hn']
 refine (zoO g n c (by omega) w).mono ?_
 rintro e w' ⟨rfl,rfl⟩
 exact ⟨_,_,rfl,Below.refl _ _,hc⟩
def mayX (f0 : Int) (f2 : Int) (f4 : Bool) (r : List Opn) (k : Int) : Bool :=
 if (!okP f0 k || (f0 == 105 && f4 && k != 108)) = true then false
 else if (k == 101 || k == 115) = true then hasP k r == 0
 else if (k == 99) = true then decide (f2 < 8)
 else if (k == 110) = true then hasP 110 r == 0 && hasP 99 r == 0 && (match zbJ zgT r r.length with | some j => (r.getD j zOpn).note == 0 | none => false)
 else true
theorem zsL (n : Nat) : ((n : Int) == 0) = (n == 0) := by
 rw [Bool.eq_iff_iff];simp
theorem zrF {f0 f2 : Int} {f4 R : Bool} {r : List Opn} {k : Int} (h : mayX f0 f2 f4 r k = R) (ho : okP f0 k = true) (hk : (k == 101 || k == 115) = true) (h5 : (f0 == 105 && f4 && k != 108) = false) : R = ((hasP k r : Int) == 0) := by
 rw [← h,zsL];unfold mayX;rw [ho,h5,hk];rfl
theorem zyO {f0 f2 : Int} {f4 R : Bool} {r : List Opn} (h : mayX f0 f2 f4 r 99 = R) (ho : okP f0 99 = true) (h5 : (f0 == 105 && f4 && (99 : Int) != 108) = false) : R = decide (f2 < 8) := by
 rw [← h];unfold mayX;rw [ho,h5];rfl
theorem zsM {f0 f2 : Int} {f4 R : Bool} {r : List Opn} {k : Int} (h : mayX f0 f2 f4 r k = R) (ho : okP f0 k = true) (h5 : (f0 == 105 && f4 && k != 108) = false) (k1 : (k == 101) = false) (k2 : (k == 115) = false) (k3 : (k == 99) = false) (k4 : (k == 110) = false) : R = true := by
 rw [← h];unfold mayX;rw [ho,h5,k1,k2,k3,k4];rfl
theorem zhV {f0 f2 : Int} {f4 R : Bool} {r : List Opn} (h : mayX f0 f2 f4 r 110 = R) (ho : okP f0 110 = true) (h5 : (f0 == 105 && f4 && (110 : Int) != 108) = false) :
  R = (((hasP 110 r : Int) == 0) && ((hasP 99 r : Int) == 0) && (match zbJ zgT r r.length with | some j => (r.getD j zOpn).note == 0 | none => false)) := by
 rw [← h,zsL,zsL];unfold mayX;rw [ho,h5];rfl
set_option pp.maxSteps 3000 in
theorem zpT (B0 g m : Nat) (vr vt : Value) (s : Bld) (k : Int) (w : World) (hk0 : 0 ≤ k) (hk1 : k ≤ 255) (hn : s.row.length ≤ 1000000) (hkb : zfK s.row) (hb : BAt w B0 g m vr vt s) :
  Calls Try.prog 104 #[.pointer (some ⟨g,0,none⟩),.int .u8 k] w fun e w' => e = .returned (.bool (mayP s.row k)) ∧ Below w.heap.size w w' := by
 obtain ⟨A,c,rfl⟩ := zbB hb.row
 have hg0 := zaB hb.blk 0
 simp only [List.getElem?_toArray,List.getElem?_cons_zero] at hg0
 obtain ⟨R,hR⟩ : ∃ R,mayP s.row k = R := ⟨_,rfl⟩
 rw [hR]
 have HB := Lib.hid hb
 have HR := Lib.hid hR
 clear hR hb
 have hkt : 0 ≤ (topP s.row).kind ∧ (topP s.row).kind ≤ 255 := by
  unfold topP
  cases hl : s.row.getLast? with
  | none => exact ⟨by decide,by decide⟩
  | some y => exact hkb y (List.mem_of_getLast? hl)
 go_enter Try.func104,Try.ntmps104
 go_wp2_with (go_at_call 134;refine (yeV B0 _ s.row _ hn HB.out.row).mono ?_;rintro e w1 ⟨b,o,rfl,hb1,hcc⟩)
 have HB1 := Lib.hid (HB.out.below hb1)
 have hm := zyN HB1.out.map (topP s.row).kind k hkt.1 hkt.2 hk0 hk1
 have hx0 : ∀ i,i < 7 → ∀ W,Below w1.heap.size w1 W → ∀ u,(zcK (topP s.row))[i]? = some u → W.cell? ⟨b,o + i,none⟩ = some u := fun i hi W hW u hu =>
  (hW.cell (World.block_lt_of_cell? w1 _ ((hcc i hi).trans hu))).trans ((hcc i hi).trans hu)
 have hg1 : ∀ W,Below w1.heap.size w1 W → W.heap[g]? = some (.cells #[.slice A s.row.length c,vt,.map (some m)] 104 (0,0)) := fun W hW => zaG HB1.out.blk hW
 have hlk : ∀ W,Below w1.heap.size w1 W → (Instr.lookup 102 (.map (some m)) (.agg #[.int .u8 (topP s.row).kind,.int .u8 k]) false).run Try.prog W = .ok (.int .i64 (okI (topP s.row).kind k)) W := fun W hW =>
  zyN (zhU HB1.out.map fun o ho => zaG ho hW) _ _ hkt.1 hkt.2 hk0 hk1
 have hmay : mayX (topP s.row).kind (topP s.row).kids (topP s.row).past s.row k = R := HR.out
 generalize topP s.row = x at *
 obtain ⟨f0,f1,f2,f3,f4,f5,f6⟩ := x
 simp only at hmay hlk hkt hm
 have HX := Lib.hid hx0
 have HG := Lib.hid hg1
 have HL := Lib.hid hlk
 have HM := Lib.hid hmay
 have HKB := Lib.hid hkb
 clear hcc hx0 hg1 hlk hm hmay hg0 hkb
 have hlook : okI f0 k = 1 ∧ okP f0 k = true ∨ okI f0 k = 0 ∧ okP f0 k = false := by
  unfold okI
  cases okP f0 k <;> simp
 rcases hlook with ⟨hI,hP⟩ | ⟨hI,hP⟩
 all_goals rw [hI] at HL
 all_goals have HI := Lib.hid (And.intro hI hP)
 all_goals clear hI hP
 ·have hcase : (f0 == 105) = false ∨ (f0 = 105 ∧ f4 = false) ∨ (f0 = 105 ∧ f4 = true ∧ k = 108) ∨ (f0 = 105 ∧ f4 = true ∧ (k != 108) = true) := by
   by_cases h1 : f0 = 105
   ·right
    cases f4
    ·exact .inl ⟨h1,rfl⟩
    ·right
     by_cases h2 : k = 108
     ·exact .inl ⟨h1,rfl,h2⟩
     ·exact .inr ⟨h1,rfl,bne_iff_ne.2 h2⟩
   ·left;exact beq_eq_false_iff_ne.2 h1
  have hkc : k = 101 ∨ k = 115 ∨ k = 99 ∨ k = 110 ∨ ((k == 101) = false ∧ (k == 115) = false ∧ (k == 99) = false ∧ (k == 110) = false) := by
   simp only [beq_eq_false_iff_ne];omega
  rcases hcase with h5 | ⟨rfl,rfl⟩ | ⟨rfl,rfl,rfl⟩ | ⟨rfl,rfl,h8⟩
  ·rcases hkc with rfl | rfl | rfl | rfl | ⟨k1,k2,k3,k4⟩
   ·refine Go.Det.region_all (fun W => Below w1.heap.size w1 W) (by kernel_rfl) (by kernel_rfl) (zaJ (Below.refl _ _)) ?_
    repeat
     apply Go.Det.seqW_cons
     focus
      intro W hS
      replace hS : Below w1.heap.size w1 W := hS
      have g2 := zaB (HG.out W hS) 2
      have x0 := HX.out 0 (by omega) W hS _ rfl
      have x4 := HX.out 4 (by omega) W hS _ rfl
      have hl := HL.out W hS
      simp only [gzz,Nat.add_zero] at g2 x0
      go_wp2
      exact Go.Det.AtEnd.mk hS
    refine Go.Det.seqW_nil ?_
    intro W hS
    replace hS : Below w1.heap.size w1 W := hS
    have HBW := Lib.hid (HB1.out.below hS)
    have HBE := Lib.hid (hb1.trans (hS.mono hb1.size))
    have gw0 := zaB HBW.out.blk 0
    have x2 := HX.out 2 (by omega) W hS _ rfl
    simp only [gzz,Nat.add_zero] at gw0 x2
    clear hS
    simp only [Exit.then]
    go_wp2_with (go_at_call 135;refine (zdF B0 _ s.row _ _ hn HBW.out.row).mono ?_;rintro e w2 ⟨rfl,hb2⟩)
    go_ret
    refine ⟨?_,HBE.out.trans (hb2.mono HBE.out.size)⟩
    rw [zrF HM.out HI.out.2 (by decide) (by rw [h5];rfl)]
    rfl
   ·refine Go.Det.region_all (fun W => Below w1.heap.size w1 W) (by kernel_rfl) (by kernel_rfl) (zaJ (Below.refl _ _)) ?_
    repeat
     apply Go.Det.seqW_cons
     focus
      intro W hS
      replace hS : Below w1.heap.size w1 W := hS
      have g2 := zaB (HG.out W hS) 2
      have x0 := HX.out 0 (by omega) W hS _ rfl
      have x4 := HX.out 4 (by omega) W hS _ rfl
      have hl := HL.out W hS
      simp only [gzz,Nat.add_zero] at g2 x0
      go_wp2
      exact Go.Det.AtEnd.mk hS
    refine Go.Det.seqW_nil ?_
    intro W hS
    replace hS : Below w1.heap.size w1 W := hS
    have HBW := Lib.hid (HB1.out.below hS)
    have HBE := Lib.hid (hb1.trans (hS.mono hb1.size))
    have gw0 := zaB HBW.out.blk 0
    have x2 := HX.out 2 (by omega) W hS _ rfl
    simp only [gzz,Nat.add_zero] at gw0 x2
    clear hS
    simp only [Exit.then]
    go_wp2_with (go_at_call 135;refine (zdF B0 _ s.row _ _ hn HBW.out.row).mono ?_;rintro e w2 ⟨rfl,hb2⟩)
    go_ret
    refine ⟨?_,HBE.out.trans (hb2.mono HBE.out.size)⟩
    rw [zrF HM.out HI.out.2 (by decide) (by rw [h5];rfl)]
    rfl
   ·refine Go.Det.region_all (fun W => Below w1.heap.size w1 W) (by kernel_rfl) (by kernel_rfl) (zaJ (Below.refl _ _)) ?_
    repeat
     apply Go.Det.seqW_cons
     focus
      intro W hS
      replace hS : Below w1.heap.size w1 W := hS
      have g2 := zaB (HG.out W hS) 2
      have x0 := HX.out 0 (by omega) W hS _ rfl
      have x4 := HX.out 4 (by omega) W hS _ rfl
      have hl := HL.out W hS
      simp only [gzz,Nat.add_zero] at g2 x0
      go_wp2
      exact Go.Det.AtEnd.mk hS
    refine Go.Det.seqW_nil ?_
    intro W hS
    replace hS : Below w1.heap.size w1 W := hS
    have HBW := Lib.hid (HB1.out.below hS)
    have HBE := Lib.hid (hb1.trans (hS.mono hb1.size))
    have gw0 := zaB HBW.out.blk 0
    have x2 := HX.out 2 (by omega) W hS _ rfl
    simp only [gzz,Nat.add_zero] at gw0 x2
    clear hS
    simp only [Exit.then]
    go_wp2
    go_ret
    refine ⟨?_,HBE.out⟩
    rw [zyO HM.out HI.out.2 (by rw [h5];rfl)]
    rfl
   ·refine Go.Det.region_all (fun W => Below w1.heap.size w1 W) (by kernel_rfl) (by kernel_rfl) (zaJ (Below.refl _ _)) ?_
    repeat
     apply Go.Det.seqW_cons
     focus
      intro W hS
      replace hS : Below w1.heap.size w1 W := hS
      have g2 := zaB (HG.out W hS) 2
      have x0 := HX.out 0 (by omega) W hS _ rfl
      have x4 := HX.out 4 (by omega) W hS _ rfl
      have hl := HL.out W hS
      simp only [gzz,Nat.add_zero] at g2 x0
      go_wp2
      exact Go.Det.AtEnd.mk hS
    refine Go.Det.seqW_nil ?_
    intro W hS
    replace hS : Below w1.heap.size w1 W := hS
    have HBW := Lib.hid (HB1.out.below hS)
    have HBE := Lib.hid (hb1.trans (hS.mono hb1.size))
    have gw0 := zaB HBW.out.blk 0
    have x2 := HX.out 2 (by omega) W hS _ rfl
    simp only [gzz,Nat.add_zero] at gw0 x2
    clear hS
    simp only [Exit.then]
    have hlen := hn
    cases hA : zbJ zgT s.row s.row.length with
    | none =>
     have hAC := zgC B0 A c s.row _ _ zjQ W hn HKB.out HBW.out.row
     rw [hA] at hAC
     have HAC := Lib.hid hAC
     clear hAC
     cases h1 : ((hasP 110 s.row : Int) == 0)
     ·go_wp2_with (first | (go_at_call 133;(with_reducible refine HAC.out.mono ?_);rintro e wa ⟨rfl,rfl⟩;simp only [ptrO]) | (go_at_call 135;(with_reducible refine (zdF B0 _ s.row 110 _ hn HBW.out.row).mono ?_);rintro e w2 ⟨rfl,hb2⟩))
      go_ret
      refine ⟨?_,HBE.out.trans (hb2.mono HBE.out.size)⟩
      rw [zhV HM.out HI.out.2 (by rw [h5];rfl),h1]
      rfl
     ·have gw0' := fun (w2 : World) (hb2 : Below W.heap.size W w2) => zaB (HBW.out.below hb2).blk 0
      simp only [List.getElem?_toArray,List.getElem?_cons_zero] at gw0'
      have GW := Lib.hid gw0'
      clear gw0'
      cases h2 : ((hasP 99 s.row : Int) == 0)
      all_goals
       go_wp2_with (first | (go_at_call 133;(with_reducible refine HAC.out.mono ?_);rintro e wa ⟨rfl,rfl⟩;simp only [ptrO]) | (go_at_call 135;(with_reducible refine (zdF B0 _ s.row 110 _ hn HBW.out.row).mono ?_);rintro e w2 ⟨rfl,hb2⟩;have gw2 := GW.out _ hb2) | (go_at_call 135;(with_reducible refine (zdF B0 _ s.row 99 _ hn (HBW.out.below hb2).row).mono ?_);rintro e w3 ⟨rfl,hb3⟩))
       go_ret
       refine ⟨?_,(HBE.out.trans (hb2.mono HBE.out.size)).trans (hb3.mono (Nat.le_trans HBE.out.size hb2.size))⟩
       rw [zhV HM.out HI.out.2 (by rw [h5];rfl),h1,h2,hA]
       rfl
    | some j =>
     have hjl := ziF _ _ _ _ hA
     obtain ⟨ga,ca,hae,hao⟩ := zfP HBW.out.row (by omega)
     simp only [Value.slice.injEq] at hae
     obtain ⟨rfl,-,rfl⟩ := hae
     have hAC := zgC B0 _ c s.row _ _ zjQ W hn HKB.out HBW.out.row
     rw [hA] at hAC
     have HAC := Lib.hid hAC
     clear hAC hao
     cases h1 : ((hasP 110 s.row : Int) == 0)
     ·go_wp2_with (first | (go_at_call 133;(with_reducible refine HAC.out.mono ?_);rintro e wa ⟨rfl,rfl⟩;simp only [ptrO]) | (go_at_call 135;(with_reducible refine (zdF B0 _ s.row 110 _ hn HBW.out.row).mono ?_);rintro e w2 ⟨rfl,hb2⟩))
      go_ret
      refine ⟨?_,HBE.out.trans (hb2.mono HBE.out.size)⟩
      rw [zhV HM.out HI.out.2 (by rw [h5];rfl),h1]
      rfl
     ·have gw0' := fun (w2 : World) (hb2 : Below W.heap.size W w2) => zaB (HBW.out.below hb2).blk 0
      have gn := fun (w2 : World) (hb2 : Below W.heap.size W w2) => zdE (HBW.out.below hb2).row j 3 hjl (by omega)
      simp only [List.getElem?_toArray,List.getElem?_cons_zero] at gw0'
      simp only [zcK,List.getElem?_cons_succ,List.getElem?_cons_zero] at gn
      obtain ⟨nt,hnt⟩ : ∃ nt,(s.row.getD j zOpn).note = nt := ⟨_,rfl⟩
      rw [hnt] at gn
      have HNT := Lib.hid hnt
      clear hnt
      have GW := Lib.hid gw0'
      have GN := Lib.hid gn
      clear gw0' gn
      cases h2 : ((hasP 99 s.row : Int) == 0)
      all_goals
       go_wp2_with (first | (go_at_call 133;(with_reducible refine HAC.out.mono ?_);rintro e wa ⟨rfl,rfl⟩;simp only [ptrO]) | (go_at_call 135;(with_reducible refine (zdF B0 _ s.row 110 _ hn HBW.out.row).mono ?_);rintro e w2 ⟨rfl,hb2⟩;have gw2 := GW.out _ hb2) | (go_at_call 135;(with_reducible refine (zdF B0 _ s.row 99 _ hn (HBW.out.below hb2).row).mono ?_);rintro e w3 ⟨rfl,hb3⟩;have gn3 := GN.out _ (hb2.trans (hb3.mono hb2.size))))
       go_ret
       refine ⟨?_,(HBE.out.trans (hb2.mono HBE.out.size)).trans (hb3.mono (Nat.le_trans HBE.out.size hb2.size))⟩
       rw [zhV HM.out HI.out.2 (by rw [h5];rfl),h1,h2,hA]
       simp only [HNT.out]
       rfl
   ·refine Go.Det.region_all (fun W => Below w1.heap.size w1 W) (by kernel_rfl) (by kernel_rfl) (zaJ (Below.refl _ _)) ?_
    repeat
     apply Go.Det.seqW_cons
     focus
      intro W hS
      replace hS : Below w1.heap.size w1 W := hS
      have g2 := zaB (HG.out W hS) 2
      have x0 := HX.out 0 (by omega) W hS _ rfl
      have x4 := HX.out 4 (by omega) W hS _ rfl
      have hl := HL.out W hS
      simp only [gzz,Nat.add_zero] at g2 x0
      go_wp2
      exact Go.Det.AtEnd.mk hS
    refine Go.Det.seqW_nil ?_
    intro W hS
    replace hS : Below w1.heap.size w1 W := hS
    have HBW := Lib.hid (HB1.out.below hS)
    have HBE := Lib.hid (hb1.trans (hS.mono hb1.size))
    have gw0 := zaB HBW.out.blk 0
    have x2 := HX.out 2 (by omega) W hS _ rfl
    simp only [gzz,Nat.add_zero] at gw0 x2
    clear hS
    simp only [Exit.then]
    go_wp2
    go_ret
    refine ⟨?_,HBE.out⟩
    rw [zsM HM.out HI.out.2 (by rw [h5];rfl) k1 k2 k3 k4]
    rfl
  ·rcases hkc with rfl | rfl | rfl | rfl | ⟨k1,k2,k3,k4⟩
   ·refine Go.Det.region_all (fun W => Below w1.heap.size w1 W) (by kernel_rfl) (by kernel_rfl) (zaJ (Below.refl _ _)) ?_
    repeat
     apply Go.Det.seqW_cons
     focus
      intro W hS
      replace hS : Below w1.heap.size w1 W := hS
      have g2 := zaB (HG.out W hS) 2
      have x0 := HX.out 0 (by omega) W hS _ rfl
      have x4 := HX.out 4 (by omega) W hS _ rfl
      have hl := HL.out W hS
      simp only [gzz,Nat.add_zero] at g2 x0
      go_wp2
      exact Go.Det.AtEnd.mk hS
    refine Go.Det.seqW_nil ?_
    intro W hS
    replace hS : Below w1.heap.size w1 W := hS
    have HBW := Lib.hid (HB1.out.below hS)
    have HBE := Lib.hid (hb1.trans (hS.mono hb1.size))
    have gw0 := zaB HBW.out.blk 0
    have x2 := HX.out 2 (by omega) W hS _ rfl
    simp only [gzz,Nat.add_zero] at gw0 x2
    clear hS
    simp only [Exit.then]
    go_wp2_with (go_at_call 135;refine (zdF B0 _ s.row _ _ hn HBW.out.row).mono ?_;rintro e w2 ⟨rfl,hb2⟩)
    go_ret
    refine ⟨?_,HBE.out.trans (hb2.mono HBE.out.size)⟩
    rw [zrF HM.out HI.out.2 (by decide) (by rfl)]
    rfl
   ·refine Go.Det.region_all (fun W => Below w1.heap.size w1 W) (by kernel_rfl) (by kernel_rfl) (zaJ (Below.refl _ _)) ?_
    repeat
     apply Go.Det.seqW_cons
     focus
      intro W hS
      replace hS : Below w1.heap.size w1 W := hS
      have g2 := zaB (HG.out W hS) 2
      have x0 := HX.out 0 (by omega) W hS _ rfl
      have x4 := HX.out 4 (by omega) W hS _ rfl
      have hl := HL.out W hS
      simp only [gzz,Nat.add_zero] at g2 x0
      go_wp2
      exact Go.Det.AtEnd.mk hS
    refine Go.Det.seqW_nil ?_
    intro W hS
    replace hS : Below w1.heap.size w1 W := hS
    have HBW := Lib.hid (HB1.out.below hS)
    have HBE := Lib.hid (hb1.trans (hS.mono hb1.size))
    have gw0 := zaB HBW.out.blk 0
    have x2 := HX.out 2 (by omega) W hS _ rfl
    simp only [gzz,Nat.add_zero] at gw0 x2
    clear hS
    simp only [Exit.then]
    go_wp2_with (go_at_call 135;refine (zdF B0 _ s.row _ _ hn HBW.out.row).mono ?_;rintro e w2 ⟨rfl,hb2⟩)
    go_ret
    refine ⟨?_,HBE.out.trans (hb2.mono HBE.out.size)⟩
    rw [zrF HM.out HI.out.2 (by decide) (by rfl)]
    rfl
   ·refine Go.Det.region_all (fun W => Below w1.heap.size w1 W) (by kernel_rfl) (by kernel_rfl) (zaJ (Below.refl _ _)) ?_
    repeat
     apply Go.Det.seqW_cons
     focus
      intro W hS
      replace hS : Below w1.heap.size w1 W := hS
      have g2 := zaB (HG.out W hS) 2
      have x0 := HX.out 0 (by omega) W hS _ rfl
      have x4 := HX.out 4 (by omega) W hS _ rfl
      have hl := HL.out W hS
      simp only [gzz,Nat.add_zero] at g2 x0
      go_wp2
      exact Go.Det.AtEnd.mk hS
    refine Go.Det.seqW_nil ?_
    intro W hS
    replace hS : Below w1.heap.size w1 W := hS
    have HBW := Lib.hid (HB1.out.below hS)
    have HBE := Lib.hid (hb1.trans (hS.mono hb1.size))
    have gw0 := zaB HBW.out.blk 0
    have x2 := HX.out 2 (by omega) W hS _ rfl
    simp only [gzz,Nat.add_zero] at gw0 x2
    clear hS
    simp only [Exit.then]
    go_wp2
    go_ret
    refine ⟨?_,HBE.out⟩
    rw [zyO HM.out HI.out.2 (by rfl)]
    rfl
   ·refine Go.Det.region_all (fun W => Below w1.heap.size w1 W) (by kernel_rfl) (by kernel_rfl) (zaJ (Below.refl _ _)) ?_
    repeat
     apply Go.Det.seqW_cons
     focus
      intro W hS
      replace hS : Below w1.heap.size w1 W := hS
      have g2 := zaB (HG.out W hS) 2
      have x0 := HX.out 0 (by omega) W hS _ rfl
      have x4 := HX.out 4 (by omega) W hS _ rfl
      have hl := HL.out W hS
      simp only [gzz,Nat.add_zero] at g2 x0
      go_wp2
      exact Go.Det.AtEnd.mk hS
    refine Go.Det.seqW_nil ?_
    intro W hS
    replace hS : Below w1.heap.size w1 W := hS
    have HBW := Lib.hid (HB1.out.below hS)
    have HBE := Lib.hid (hb1.trans (hS.mono hb1.size))
    have gw0 := zaB HBW.out.blk 0
    have x2 := HX.out 2 (by omega) W hS _ rfl
    simp only [gzz,Nat.add_zero] at gw0 x2
    clear hS
    simp only [Exit.then]
    have hlen := hn
    cases hA : zbJ zgT s.row s.row.length with
    | none =>
     have hAC := zgC B0 A c s.row _ _ zjQ W hn HKB.out HBW.out.row
     rw [hA] at hAC
     have HAC := Lib.hid hAC
     clear hAC
     cases h1 : ((hasP 110 s.row : Int) == 0)
     ·go_wp2_with (first | (go_at_call 133;(with_reducible refine HAC.out.mono ?_);rintro e wa ⟨rfl,rfl⟩;simp only [ptrO]) | (go_at_call 135;(with_reducible refine (zdF B0 _ s.row 110 _ hn HBW.out.row).mono ?_);rintro e w2 ⟨rfl,hb2⟩))
      go_ret
      refine ⟨?_,HBE.out.trans (hb2.mono HBE.out.size)⟩
      rw [zhV HM.out HI.out.2 (by rfl),h1]
      rfl
     ·have gw0' := fun (w2 : World) (hb2 : Below W.heap.size W w2) => zaB (HBW.out.below hb2).blk 0
      simp only [List.getElem?_toArray,List.getElem?_cons_zero] at gw0'
      have GW := Lib.hid gw0'
      clear gw0'
      cases h2 : ((hasP 99 s.row : Int) == 0)
      all_goals
       go_wp2_with (first | (go_at_call 133;(with_reducible refine HAC.out.mono ?_);rintro e wa ⟨rfl,rfl⟩;simp only [ptrO]) | (go_at_call 135;(with_reducible refine (zdF B0 _ s.row 110 _ hn HBW.out.row).mono ?_);rintro e w2 ⟨rfl,hb2⟩;have gw2 := GW.out _ hb2) | (go_at_call 135;(with_reducible refine (zdF B0 _ s.row 99 _ hn (HBW.out.below hb2).row).mono ?_);rintro e w3 ⟨rfl,hb3⟩))
       go_ret
       refine ⟨?_,(HBE.out.trans (hb2.mono HBE.out.size)).trans (hb3.mono (Nat.le_trans HBE.out.size hb2.size))⟩
       rw [zhV HM.out HI.out.2 (by rfl),h1,h2,hA]
       rfl
    | some j =>
     have hjl := ziF _ _ _ _ hA
     obtain ⟨ga,ca,hae,hao⟩ := zfP HBW.out.row (by omega)
     simp only [Value.slice.injEq] at hae
     obtain ⟨rfl,-,rfl⟩ := hae
     have hAC := zgC B0 _ c s.row _ _ zjQ W hn HKB.out HBW.out.row
     rw [hA] at hAC
     have HAC := Lib.hid hAC
     clear hAC hao
     cases h1 : ((hasP 110 s.row : Int) == 0)
     ·go_wp2_with (first | (go_at_call 133;(with_reducible refine HAC.out.mono ?_);rintro e wa ⟨rfl,rfl⟩;simp only [ptrO]) | (go_at_call 135;(with_reducible refine (zdF B0 _ s.row 110 _ hn HBW.out.row).mono ?_);rintro e w2 ⟨rfl,hb2⟩))
      go_ret
      refine ⟨?_,HBE.out.trans (hb2.mono HBE.out.size)⟩
      rw [zhV HM.out HI.out.2 (by rfl),h1]
      rfl
     ·have gw0' := fun (w2 : World) (hb2 : Below W.heap.size W w2) => zaB (HBW.out.below hb2).blk 0
      have gn := fun (w2 : World) (hb2 : Below W.heap.size W w2) => zdE (HBW.out.below hb2).row j 3 hjl (by omega)
      simp only [List.getElem?_toArray,List.getElem?_cons_zero] at gw0'
      simp only [zcK,List.getElem?_cons_succ,List.getElem?_cons_zero] at gn
      obtain ⟨nt,hnt⟩ : ∃ nt,(s.row.getD j zOpn).note = nt := ⟨_,rfl⟩
      rw [hnt] at gn
      have HNT := Lib.hid hnt
      clear hnt
      have GW := Lib.hid gw0'
      have GN := Lib.hid gn
      clear gw0' gn
      cases h2 : ((hasP 99 s.row : Int) == 0)
      all_goals
       go_wp2_with (first | (go_at_call 133;(with_reducible refine HAC.out.mono ?_);rintro e wa ⟨rfl,rfl⟩;simp only [ptrO]) | (go_at_call 135;(with_reducible refine (zdF B0 _ s.row 110 _ hn HBW.out.row).mono ?_);rintro e w2 ⟨rfl,hb2⟩;have gw2 := GW.out _ hb2) | (go_at_call 135;(with_reducible refine (zdF B0 _ s.row 99 _ hn (HBW.out.below hb2).row).mono ?_);rintro e w3 ⟨rfl,hb3⟩;have gn3 := GN.out _ (hb2.trans (hb3.mono hb2.size))))
       go_ret
       refine ⟨?_,(HBE.out.trans (hb2.mono HBE.out.size)).trans (hb3.mono (Nat.le_trans HBE.out.size hb2.size))⟩
       rw [zhV HM.out HI.out.2 (by rfl),h1,h2,hA]
       simp only [HNT.out]
       rfl
   ·refine Go.Det.region_all (fun W => Below w1.heap.size w1 W) (by kernel_rfl) (by kernel_rfl) (zaJ (Below.refl _ _)) ?_
    repeat
     apply Go.Det.seqW_cons
     focus
      intro W hS
      replace hS : Below w1.heap.size w1 W := hS
      have g2 := zaB (HG.out W hS) 2
      have x0 := HX.out 0 (by omega) W hS _ rfl
      have x4 := HX.out 4 (by omega) W hS _ rfl
      have hl := HL.out W hS
      simp only [gzz,Nat.add_zero] at g2 x0
      go_wp2
      exact Go.Det.AtEnd.mk hS
    refine Go.Det.seqW_nil ?_
    intro W hS
    replace hS : Below w1.heap.size w1 W := hS
    have HBW := Lib.hid (HB1.out.below hS)
    have HBE := Lib.hid (hb1.trans (hS.mono hb1.size))
    have gw0 := zaB HBW.out.blk 0
    have x2 := HX.out 2 (by omega) W hS _ rfl
    simp only [gzz,Nat.add_zero] at gw0 x2
    clear hS
    simp only [Exit.then]
    go_wp2
    go_ret
    refine ⟨?_,HBE.out⟩
    rw [zsM HM.out HI.out.2 (by rfl) k1 k2 k3 k4]
    rfl
  ·clear hkc
   refine Go.Det.region_all (fun W => Below w1.heap.size w1 W) (by kernel_rfl) (by kernel_rfl) (zaJ (Below.refl _ _)) ?_
   repeat
    apply Go.Det.seqW_cons
    focus
     intro W hS
     replace hS : Below w1.heap.size w1 W := hS
     have g2 := zaB (HG.out W hS) 2
     have x0 := HX.out 0 (by omega) W hS _ rfl
     have x4 := HX.out 4 (by omega) W hS _ rfl
     have hl := HL.out W hS
     simp only [gzz,Nat.add_zero] at g2 x0
     go_wp2
     exact Go.Det.AtEnd.mk hS
   refine Go.Det.seqW_nil ?_
   intro W hS
   replace hS : Below w1.heap.size w1 W := hS
   have HBW := Lib.hid (HB1.out.below hS)
   have HBE := Lib.hid (hb1.trans (hS.mono hb1.size))
   have gw0 := zaB HBW.out.blk 0
   have x2 := HX.out 2 (by omega) W hS _ rfl
   simp only [gzz,Nat.add_zero] at gw0 x2
   clear hS
   simp only [Exit.then]
   go_wp2
   go_ret
   refine ⟨?_,HBE.out⟩
   rw [zsM HM.out HI.out.2 (by rfl) rfl rfl rfl rfl]
   rfl
  ·clear hkc
   refine Go.Det.region_all (fun W => Below w1.heap.size w1 W) (by kernel_rfl) (by kernel_rfl) (zaJ (Below.refl _ _)) ?_
   repeat
    apply Go.Det.seqW_cons
    focus
     intro W hS
     replace hS : Below w1.heap.size w1 W := hS
     have g2 := zaB (HG.out W hS) 2
     have x0 := HX.out 0 (by omega) W hS _ rfl
     have x4 := HX.out 4 (by omega) W hS _ rfl
     have hl := HL.out W hS
     simp only [gzz,Nat.add_zero] at g2 x0
     go_wp2
     exact Go.Det.AtEnd.mk hS
   refine Go.Det.seqW_nil ?_
   intro W hS
   replace hS : Below w1.heap.size w1 W := hS
   simp only [Exit.then]
   go_wp2
   go_ret
   refine ⟨?_,hb1.trans (hS.mono hb1.size)⟩
   have := HM.out
   unfold mayX at this
   rw [HI.out.2,h8] at this
   rw [← this]
   rfl
 ·refine Go.Det.region_all (fun W => Below w1.heap.size w1 W) (by kernel_rfl) (by kernel_rfl) (zaJ (Below.refl _ _)) ?_
  repeat
   apply Go.Det.seqW_cons
   focus
    intro W hS
    replace hS : Below w1.heap.size w1 W := hS
    have g2 := zaB (HG.out W hS) 2
    have x0 := HX.out 0 (by omega) W hS _ rfl
    have hl := HL.out W hS
    simp only [gzz,Nat.add_zero] at g2 x0
    go_wp2
    exact Go.Det.AtEnd.mk hS
  refine Go.Det.seqW_nil ?_
  intro W hS
  replace hS : Below w1.heap.size w1 W := hS
  simp only [Exit.then]
  go_wp2
  go_ret
  refine ⟨?_,hb1.trans (hS.mono hb1.size)⟩
  have := HM.out
  unfold mayX at this
  rw [HI.out.2] at this
  rw [← this]
  rfl
def isBT : Obj → Bool
 | .cells _ t _ => t == 104 || t == 155 || t == 56
 | _ => false
def zeB (w w' : World) : Prop := ∀ (i : Nat) (o : Obj),w.heap[i]? = some o → isBT o = false → w'.heap[i]? = some o
theorem zeB.refl (w : World) : zeB w w := fun _ _ h _ => h
theorem zeB.trans {a b c : World} (h : zeB a b) (k : zeB b c) : zeB a c := fun i o hi ho => k i o (h i o hi ho) ho
theorem zeB.below {w w' : World} (h : Below w.heap.size w w') : zeB w w' := fun i o hi _ => zaG hi h
theorem zeB.drew {w w' : World} (h : zeB w w') : zeB w w'.drew := h
theorem zeB.set {w : World} {p : Addr} {o : Obj} (h : w.heap[p.block]? = some o) (ho : isBT o = true) (u : Value) : zeB w (w.setCell p u) := fun i o' hi hn => by
 have hne : i ≠ p.block := fun e => by
  subst e
  rw [h] at hi
  simp only [Option.some.injEq] at hi
  subst hi
  rw [ho] at hn
  cases hn
 rw [Below.heap_setCell _ _ _ _ hne]
 exact hi
theorem zeB.grown {w w' : World} {row : Option Nat} (h : w.grownBy w' row) (hr : ∀ r,row = some r → ∃ o,w.heap[r]? = some o ∧ isBT o = true) : zeB w w' := fun i o hi hn => by
 refine zbS hi h fun e => ?_
 obtain ⟨o',h1,h2⟩ := hr i e.symm
 rw [h1] at hi
 simp only [Option.some.injEq] at hi
 subst hi
 rw [h2] at hn
 cases hn
theorem zpG (xs : List S56) : (zaU xs).length = xs.length * 4 := by
 induction xs with
 | nil => rfl
 | cons x xs ih => simp [zaU] at ih ⊢;omega
theorem yaH (xs : List S56) (x : S56) : zaU (xs ++ [x]) = zaU xs ++ [.int .u8 x.f0,.string x.f1,.int .i64 x.f2,.int .i64 x.f3] := by simp [zaU]
theorem BAt.setO {w : World} {B0 g m gr c : Nat} {vt : Value} {s : Bld} (h : BAt w B0 g m (.slice (some ⟨gr,0,none⟩) s.row.length c) vt s) (j i : Nat) (hj : j < s.row.length) (hi : i < 7) (f : Opn → Opn) (u : Value)
  (hf : zcK (f (s.row.getD j zOpn)) = (zcK (s.row.getD j zOpn)).set i u) :
  BAt (w.setCell ⟨gr,j * 7 + i,none⟩ u) B0 g m (.slice (some ⟨gr,0,none⟩) s.row.length c) vt ⟨s.row.modify j f,s.t⟩ ∧ Below B0 w (w.setCell ⟨gr,j * 7 + i,none⟩ u) ∧ zeB w (w.setCell ⟨gr,j * 7 + i,none⟩ u) := by
 have hrow : w.ownsRow B0 155 7 (.slice (some ⟨gr,0,none⟩) s.row.length c) s.row.length (zeQ s.row) := h.row
 obtain ⟨cs,hcs⟩ := zcO hrow gr rfl
 have hb0 := zcZ hrow gr rfl
 have hne : g ≠ gr := zhG h.blk hcs (by decide)
 obtain ⟨es,clock,hm⟩ := zoA h.map
 have hmne : m ≠ gr := fun e => by subst e;rw [hm] at hcs;cases hcs
 refine ⟨⟨h.base,zeV h.blk hne _,?_,?_,zhU h.map fun o ho => ?_⟩,(Below.refl B0 w).setCell hb0 _,zeB.set (p := ⟨gr,j * 7 + i,none⟩) hcs (by rfl) _⟩
 ·have := (hrow.stored (j * 7 + i) u).1
  rw [zwI f i hi u s.row j hj hf] at this
  unfold RowO
  simp only [List.length_modify]
  exact this
 ·refine zcG h.t ?_ _
  have := zeL hrow h.t (by decide)
  rcases this with h0 | h0
  ·cases h0
  exact h0
 rw [Below.heap_setCell _ _ _ _ hmne]
 exact ho
theorem zgK (w : World) (cs : List Value) (t : TypeId) : ∀ j u,cs[j]? = some u → (w.alloc (.cells cs.toArray t)).cell? ((⟨w.heap.size,0,none⟩ : Addr).add j) = some u := by
 intro j u hu
 rw [show (⟨w.heap.size,0,none⟩ : Addr).add j = ⟨w.heap.size,j,none⟩ from by unfold Addr.add;split <;> simp_all,zaB (zbW w _) j]
 exact (List.getElem?_toArray).trans hu
def zfR (x : S56) : Array Value := #[.int .u8 x.f0,.string x.f1,.int .i64 x.f2,.int .i64 x.f3]
def AddTo (B0 g m : Nat) (vr : Value) (s : Bld) (w w' : World) : Prop := ∃ vt',BAt w' B0 g m vr vt' s ∧ Below B0 w w' ∧ zeB w w'
theorem ybT {w W : World} {B0 g m nt ct cr : Nat} {A At A' : Option Addr} {c' : Nat} {r : List Opn} {t : List S56} {x : S56} {W4 : World}
  (h : BAt W B0 g m (.slice A nt cr) (.slice At t.length ct) ⟨r,t⟩) (hg : (W.alloc (.cells (zfR x) 56)).grownBy W4 (Value.slice At t.length ct).ownBlock)
  (ho : W4.ownsRow B0 56 4 (.slice A' (t.length + 1) c') (t.length + 1) (zaU t ++ [.int .u8 x.f0,.string x.f1,.int .i64 x.f2,.int .i64 x.f3])) (hlt : w.heap.size < W.heap.size) (hB : B0 ≤ W.heap.size) :
  W4.heap[g]? = some (.cells #[.slice A nt cr,.slice At t.length ct,.map (some m)] 104 (0,0)) ∧
  BAt (W4.setCell ⟨g,1,none⟩ (.slice A' (t.length + 1) c')) B0 g m (.slice A nt cr) (.slice A' (t.length + 1) c') ⟨r,t ++ [x]⟩ ∧
  (Below B0 W (W4.setCell ⟨g,1,none⟩ (.slice A' (t.length + 1) c')) ∧ zeB W (W4.setCell ⟨g,1,none⟩ (.slice A' (t.length + 1) c'))) := by
 have hne : some g ≠ (Value.slice At t.length ct).ownBlock := zeM h.t h.blk (by decide)
 have hb4 : W4.heap[g]? = some (.cells #[.slice A nt cr,.slice At t.length ct,.map (some m)] 104 (0,0)) := zbS (zcE h.blk _) hg hne
 have hblk : (W4.setCell ⟨g,1,none⟩ (.slice A' (t.length + 1) c')).heap[g]? = some (.cells #[.slice A nt cr,.slice A' (t.length + 1) c',.map (some m)] 104 (0,0)) := zbX hb4 1 _ rfl
 have hrow : RowO W B0 (.slice A nt cr) r := h.row
 have htr := zeL hrow h.t (by decide)
 have hr4 : W4.ownsRow B0 155 7 (.slice A nt cr) r.length (zeQ r) := zlA (zgG hrow _) hg htr
 have hgr := zeM hr4 hb4 (by decide)
 have hgt := zeM ho hb4 (by decide)
 obtain ⟨es,clock,hm⟩ := zoA h.map
 have hmt : some m ≠ (Value.slice At t.length ct).ownBlock := fun e => by
  obtain ⟨cs,hcs⟩ := zcO h.t m e.symm
  rw [hm] at hcs
  cases hcs
 have hmg : m ≠ g := fun e => by
  subst e
  rw [h.blk] at hm
  cases hm
 refine ⟨hb4,⟨h.base,hblk,zcG hr4 (p := ⟨g,1,none⟩) hgr _,?_,zhU h.map fun o ho' => ?_⟩,?_,?_⟩
 ·have := zcG ho (p := ⟨g,1,none⟩) hgt (.slice A' (t.length + 1) c')
  show World.ownsRow _ B0 56 4 _ (t ++ [x]).length (zaU (t ++ [x]))
  rw [yaH,List.length_append]
  exact this
 ·rw [Below.heap_setCell _ _ _ _ hmg]
  exact zbS (zcE ho' _) hg hmt
 ·refine Below.setCell ?_ h.base _
  have h1 : Below B0 W (W.alloc (.cells (zfR x) 56)) := (Below.refl B0 W).alloc hB _
  refine zeT h1 _ (by simp;omega) hg fun k hk => ?_
  exact zcZ h.t k hk
 refine zeB.trans (zeB.trans (zeB.below ((Below.refl _ W).alloc (Nat.le_refl _) (.cells (zfR x) 56))) (zeB.grown hg fun k hk => ?_)) (zeB.set (p := ⟨g,1,none⟩) hb4 rfl _)
 obtain ⟨cs,hcs⟩ := zcO (zgG h.t (.cells (zfR x) 56)) k hk
 exact ⟨_,hcs,rfl⟩
set_option pp.maxSteps 3000 in
theorem zwJ (B0 g m : Nat) (vr vt : Value) (s : Bld) (x : S56) (w : World) (hB0 : B0 ≤ w.heap.size) (hn : s.row.length ≤ 1000000) (hnt : s.t.length ≤ 1000000) (hb : BAt w B0 g m vr vt s) :
  Calls Try.prog 132 #[.pointer (some ⟨g,0,none⟩),.agg #[.int .u8 x.f0,.string x.f1,.int .i64 x.f2,.int .i64 x.f3]] w fun e w' =>
   e = .returned (.int .i64 (addP s x).2) ∧ AddTo B0 g m vr (addP s x).1 w w' := by
 obtain ⟨f0,f1,f2,f3⟩ := x
 obtain ⟨A,c,rfl⟩ := zbB hb.row
 have hb1 : Below w.heap.size w (w.alloc (.cells #[.int .u8 f0,.string f1,.int .i64 f2,.int .i64 f3] 56)) := (Below.refl _ w).alloc (Nat.le_refl _) _
 have hx := zbW w (.cells #[.int .u8 f0,.string f1,.int .i64 f2,.int .i64 f3] 56)
 have hbx := hb.below hb1
 have hsz : (w.alloc (.cells #[.int .u8 f0,.string f1,.int .i64 f2,.int .i64 f3] 56)).heap.size = w.heap.size + 1 := by simp
 obtain ⟨w1,hw1⟩ : ∃ w1,w.alloc (.cells #[.int .u8 f0,.string f1,.int .i64 f2,.int .i64 f3] 56) = w1 := ⟨_,rfl⟩
 rw [hw1] at hb1 hx hbx hsz
 have hg0 := zaB hbx.blk 0
 simp only [List.getElem?_toArray,List.getElem?_cons_zero] at hg0
 have HB0 := Lib.hid hb.row
 have HB := Lib.hid hbx
 have HB1 := Lib.hid hb1
 have HX := Lib.hid hx
 have HSZ := Lib.hid hsz
 clear hb hb1 hx hbx hsz
 by_cases h0 : s.row = []
 ·have h00 : s.row.length = 0 := by rw [h0];rfl
  have hz := Lib.hid (show BAt (w1.alloc (.cells #[.int .u8 0,.int .i64 0,.int .i64 1,.int .i64 0,.bool false,.int .i64 0,.int .i64 0] 155)) B0 g m (.slice A s.row.length c) vt ⟨s.row,s.t⟩ ∧ Below B0 w1 (w1.alloc (.cells #[.int .u8 0,.int .i64 0,.int .i64 1,.int .i64 0,.bool false,.int .i64 0,.int .i64 0] 155)) ∧ zeB w1 (w1.alloc (.cells #[.int .u8 0,.int .i64 0,.int .i64 1,.int .i64 0,.bool false,.int .i64 0,.int .i64 0] 155)) from by
   refine ⟨HB.out.below ((Below.refl _ _).alloc (Nat.le_refl _) _),(Below.refl B0 w1).alloc (by have := HSZ.out;omega) _,zeB.below ((Below.refl _ _).alloc (Nat.le_refl _) _)⟩)
  have HX1 := Lib.hid (zcE HX.out (.cells #[.int .u8 0,.int .i64 0,.int .i64 1,.int .i64 0,.bool false,.int .i64 0,.int .i64 0] 155))
  have HS := hz
  clear hz
  rw [h00] at hg0
  have H0 := Lib.hid h0
  clear h0 h00
  go_enter Try.func132,Try.ntmps132
  go_wp2_with (go_at_call 134;refine (zsK c A _).mono ?_;rintro e w2 ⟨rfl,rfl⟩)
  obtain ⟨W1,hW1⟩ : ∃ W1,w1.alloc (.cells #[.int .u8 0,.int .i64 0,.int .i64 1,.int .i64 0,.bool false,.int .i64 0,.int .i64 0] 155) = W1 := ⟨_,rfl⟩
  rw [hW1] at HS HX1 ⊢
  clear hW1 hg0
  obtain ⟨HBK,HLOW,HKEEP⟩ := HS.out
  obtain ⟨At,ct,rfl⟩ := zbB HBK.t
  obtain ⟨W2,hW2⟩ : ∃ W2,W1.drew = W2 := ⟨_,rfl⟩
  have hK2 : BAt W2 B0 g m (.slice A s.row.length c) (.slice At s.t.length ct) ⟨kidP s.row,s.t⟩ := by rw [← hW2,show kidP s.row = s.row from by rw [H0.out];rfl];exact HBK.below (zaJ (Below.refl _ _))
  have hX2 : W2.heap[w.heap.size]? = some (.cells #[.int .u8 f0,.string f1,.int .i64 f2,.int .i64 f3] 56 (0,0)) := by rw [← hW2];exact HX1.out
  have hL2 : Below B0 w W2 := by rw [← hW2];exact zaJ (((HB1.out).trans (Below.refl _ _) |> fun h => (⟨h.os,h.tape,h.output,Nat.le_trans (Nat.le_refl _) h.size,fun i hi => h.block i (by omega)⟩ : Below B0 w w1)).trans HLOW)
  have hE2 : zeB w W2 := by rw [← hW2];exact ((zeB.below HB1.out).trans HKEEP).drew
  have hs2 : w.heap.size < W2.heap.size := zfB hX2
  have c0 := zaB hX2 0
  have c1 := zaB hX2 1
  have c2 := zaB hX2 2
  have c3 := zaB hX2 3
  have d1 := zaB hK2.blk 1
  simp only [gzz] at c0 c1 c2 c3 d1
  have HK2 := Lib.hid hK2
  have HL2 := Lib.hid hL2
  have HE2 := Lib.hid hE2
  have HX2 := Lib.hid hX2
  have HC := Lib.hid (And.intro c0 (And.intro c1 (And.intro c2 (And.intro c3 d1))))
  clear hK2 hL2 hE2 hX2 c0 c1 c2 c3 d1 HBK HLOW HKEEP HS HX1 HX HB1 HSZ
  refine Go.Mix.region_mix' (fun b W => W = (bif b then W2.alloc (.cells #[.int .u8 f0,.string f1,.int .i64 f2,.int .i64 f3] 56) else W2)) 6 7 [0] (by kernel_rfl) (by kernel_rfl) (fun _ _ _ _ _ h => h) hW2 ?_
  clear hW2
  refine Go.Mix.seqE_cons (t' := #[_,_,_,_,_,_,_,_,_,_,_,_,_,_,_,_,_,_,_,_,_,_,_,_,_,_,_,_,_,_,_,_]) _ (.pointer (some ⟨g,0,none⟩)) rfl rfl (fun w' => rfl) rfl ?_
  refine Go.Mix.seqE_nil ?_
  refine Go.Mix.seqM_skip (by rfl) ?_
  repeat
   apply Go.Mix.seqM_cons (by rfl) (by rfl)
   focus
    intro b W hS
    have hB : Below W2.heap.size W2 W := by
     rw [hS]
     cases b
     ·exact Below.refl _ _
     ·exact (Below.refl _ _).alloc (Nat.le_refl _) _
    obtain ⟨c0,c1,c2,c3,d1⟩ := HC.out
    replace c0 := (hB.cell (World.block_lt_of_cell? W2 _ c0)).trans c0
    replace c1 := (hB.cell (World.block_lt_of_cell? W2 _ c1)).trans c1
    replace c2 := (hB.cell (World.block_lt_of_cell? W2 _ c2)).trans c2
    replace c3 := (hB.cell (World.block_lt_of_cell? W2 _ c3)).trans c3
    replace d1 := (hB.cell (World.block_lt_of_cell? W2 _ d1)).trans d1
    have HS := Lib.hid hS
    clear hS hB
    go_wp2
    exact Go.Det.AtEnd.mk HS.out
  apply Go.Mix.seqM_main (by rfl)
  focus
   intro W hS
   obtain rfl : W = W2 := hS
   go_wp2
   exact Go.Det.AtEnd.mk rfl
  refine Go.Mix.seqM_nil ?_
  intro W3 hW3
  obtain rfl : W3 = W2.alloc (.cells #[.int .u8 f0,.string f1,.int .i64 f2,.int .i64 f3] 56) := hW3
  simp only [List.drop_succ_cons,List.drop_zero]
  obtain ⟨i0,hi,hz0,hz1,hz2⟩ := info_parts zfU
  go_wp2_with (at_builtin;refine wpList_append_own_at _ rfl _ _ 50 rfl B0 56 i0 (.agg #[(.int .u8 0),(.string ⟨#[]⟩),(.int .i64 0),(.int .i64 0)]) 4 40 Try.underlying50 hi hz0 hz1 hz2 rfl (by decide) _ _ _ rfl (HK2.out.t.alloc _) _ 1 1 [.int .u8 f0,.string f1,.int .i64 f2,.int .i64 f3] rfl rfl ?e1b ?e2b ?e3b ?e4b ?e5b ?e6b)
  case e2b => simp [Value.oneCell']
  case e3b => unfold maxLen;omega
  case e4b => omega
  case e5b => first | omega | (simp;omega)
  case e6b =>
   intro v' W4 hown' hgrow _ hat
   obtain ⟨A',c',rfl⟩ := zbB hown'
   have hfin := ybT (x := ⟨f0,f1,f2,f3⟩) HK2.out hgrow hown' hs2 (by omega)
   obtain ⟨hf1,hf2,hf3⟩ := hfin
   have e1 := zaB hf1 1
   have z1 := zaK hf1 1
   have hl := hf2.blk
   have e1' := zaB hl 1
   simp only [gzz] at e1 e1'
   have H2 := Lib.hid hf2
   have H3 := Lib.hid hf3
   clear hf1 hf2 hf3 hl hown' hgrow hat
   have hp0 : addP s ⟨f0,f1,f2,f3⟩ = (⟨kidP s.row,s.t ++ [⟨f0,f1,f2,f3⟩]⟩,if 2000 < s.t.length + 1 then 4 else 0) := rfl
   have HP := Lib.hid hp0
   clear hp0
   have hend : Below B0 w (W4.setCell ⟨g,1,none⟩ (.slice A' (s.t.length + 1) c')) := HL2.out.trans H3.out.1
   have hkeep := HE2.out.trans H3.out.2
   have H4 := Lib.hid hend
   have H5 := Lib.hid hkeep
   clear hend hkeep H3
   by_cases hbig : 2000 < s.t.length + 1
   ·have hbig' : (2000 : Int) < (s.t.length : Int) + 1 := by omega
    go_wp2
    go_ret
    refine ⟨by rw [HP.out,if_pos hbig];rfl,?_⟩
    rw [HP.out]
    exact ⟨_,H2.out,H4.out,H5.out⟩
   ·have hbig' : ¬ (2000 : Int) < (s.t.length : Int) + 1 := by omega
    go_wp2
    go_ret
    refine ⟨by rw [HP.out,if_neg hbig];rfl,?_⟩
    rw [HP.out]
    exact ⟨_,H2.out,H4.out,H5.out⟩
 ·have hp : 0 < s.row.length := List.length_pos_iff.2 h0
  obtain ⟨gr,cr,hae,hao⟩ := zfP HB.out.row hp
  simp only [Value.slice.injEq] at hae
  obtain ⟨rfl,-,rfl⟩ := hae
  obtain ⟨n,hn'⟩ : ∃ n,s.row.length = n + 1 := ⟨s.row.length - 1,by omega⟩
  have hkc := zdE hao n 2 (by omega) (by omega)
  have hkf := hao.frozenAt (n * 7 + 2)
  simp only [zcK,List.getElem?_cons_succ,List.getElem?_cons_zero] at hkc
  obtain ⟨cs,hcs⟩ := zcO hao gr rfl
  have HNE := Lib.hid (show w.heap.size ≠ gr from fun e => by have := (znR HB0.out gr rfl);omega)
  clear hcs
  have hset := HB.out.setO n 2 (by omega) (by omega) kidF (.int .i64 (wrap64 ((s.row.getD n zOpn).kids + 1))) rfl
  have HS := Lib.hid hset
  have htop := fun W => zoO gr n c (by omega) W
  have HT := Lib.hid htop
  have HN := Lib.hid hn'
  clear hset htop hao h0 hp
  rw [hn'] at hg0
  generalize (s.row.getD n zOpn).kids = kd at *
  clear hn'
  go_enter Try.func132,Try.ntmps132
  go_wp2_with (go_at_call 134;refine (HT.out _).mono ?_;rintro e w2 ⟨rfl,rfl⟩)
  have HX1 := Lib.hid (zeV HX.out (p := ⟨gr,n * 7 + 2,none⟩) HNE.out (.int .i64 (wrap64 (kd + 1))))
  obtain ⟨W1,hW1⟩ : ∃ W1,w2.setCell ⟨gr,n * 7 + 2,none⟩ (.int .i64 (wrap64 (kd + 1))) = W1 := ⟨_,rfl⟩
  rw [hW1] at HS HX1 ⊢
  clear hW1 hg0 hkc hkf
  obtain ⟨HBK,HLOW,HKEEP⟩ := HS.out
  obtain ⟨At,ct,rfl⟩ := zbB HBK.t
  obtain ⟨W2,hW2⟩ : ∃ W2,W1.drew = W2 := ⟨_,rfl⟩
  have hK2 : BAt W2 B0 g m (.slice (some ⟨gr,0,none⟩) s.row.length c) (.slice At s.t.length ct) ⟨kidP s.row,s.t⟩ := by rw [← hW2,show kidP s.row = s.row.modify n kidF from by unfold kidP;rw [HN.out];rfl];exact HBK.below (zaJ (Below.refl _ _))
  have hX2 : W2.heap[w.heap.size]? = some (.cells #[.int .u8 f0,.string f1,.int .i64 f2,.int .i64 f3] 56 (0,0)) := by rw [← hW2];exact HX1.out
  have hL2 : Below B0 w W2 := by rw [← hW2];exact zaJ (((HB1.out).trans (Below.refl _ _) |> fun h => (⟨h.os,h.tape,h.output,Nat.le_trans (Nat.le_refl _) h.size,fun i hi => h.block i (by omega)⟩ : Below B0 w w2)).trans HLOW)
  have hE2 : zeB w W2 := by rw [← hW2];exact ((zeB.below HB1.out).trans HKEEP).drew
  have hs2 : w.heap.size < W2.heap.size := zfB hX2
  have c0 := zaB hX2 0
  have c1 := zaB hX2 1
  have c2 := zaB hX2 2
  have c3 := zaB hX2 3
  have d1 := zaB hK2.blk 1
  simp only [gzz] at c0 c1 c2 c3 d1
  have HK2 := Lib.hid hK2
  have HL2 := Lib.hid hL2
  have HE2 := Lib.hid hE2
  have HX2 := Lib.hid hX2
  have HC := Lib.hid (And.intro c0 (And.intro c1 (And.intro c2 (And.intro c3 d1))))
  clear hK2 hL2 hE2 hX2 c0 c1 c2 c3 d1 HBK HLOW HKEEP HS HX1 HX HB1 HSZ
  refine Go.Mix.region_mix' (fun b W => W = (bif b then W2.alloc (.cells #[.int .u8 f0,.string f1,.int .i64 f2,.int .i64 f3] 56) else W2)) 6 7 [0] (by kernel_rfl) (by kernel_rfl) (fun _ _ _ _ _ h => h) hW2 ?_
  clear hW2
  refine Go.Mix.seqE_cons (t' := #[_,_,_,_,_,_,_,_,_,_,_,_,_,_,_,_,_,_,_,_,_,_,_,_,_,_,_,_,_,_,_,_]) _ (.pointer (some ⟨g,0,none⟩)) rfl rfl (fun w' => rfl) rfl ?_
  refine Go.Mix.seqE_nil ?_
  refine Go.Mix.seqM_skip (by rfl) ?_
  repeat
   apply Go.Mix.seqM_cons (by rfl) (by rfl)
   focus
    intro b W hS
    have hB : Below W2.heap.size W2 W := by
     rw [hS]
     cases b
     ·exact Below.refl _ _
     ·exact (Below.refl _ _).alloc (Nat.le_refl _) _
    obtain ⟨c0,c1,c2,c3,d1⟩ := HC.out
    replace c0 := (hB.cell (World.block_lt_of_cell? W2 _ c0)).trans c0
    replace c1 := (hB.cell (World.block_lt_of_cell? W2 _ c1)).trans c1
    replace c2 := (hB.cell (World.block_lt_of_cell? W2 _ c2)).trans c2
    replace c3 := (hB.cell (World.block_lt_of_cell? W2 _ c3)).trans c3
    replace d1 := (hB.cell (World.block_lt_of_cell? W2 _ d1)).trans d1
    have HS := Lib.hid hS
    clear hS hB
    go_wp2
    exact Go.Det.AtEnd.mk HS.out
  apply Go.Mix.seqM_main (by rfl)
  focus
   intro W hS
   obtain rfl : W = W2 := hS
   go_wp2
   exact Go.Det.AtEnd.mk rfl
  refine Go.Mix.seqM_nil ?_
  intro W3 hW3
  obtain rfl : W3 = W2.alloc (.cells #[.int .u8 f0,.string f1,.int .i64 f2,.int .i64 f3] 56) := hW3
  simp only [List.drop_succ_cons,List.drop_zero]
  obtain ⟨i0,hi,hz0,hz1,hz2⟩ := info_parts zfU
  go_wp2_with (at_builtin;refine wpList_append_own_at _ rfl _ _ 50 rfl B0 56 i0 (.agg #[(.int .u8 0),(.string ⟨#[]⟩),(.int .i64 0),(.int .i64 0)]) 4 40 Try.underlying50 hi hz0 hz1 hz2 rfl (by decide) _ _ _ rfl (HK2.out.t.alloc _) _ 1 1 [.int .u8 f0,.string f1,.int .i64 f2,.int .i64 f3] rfl rfl ?e1a ?e2a ?e3a ?e4a ?e5a ?e6a)
  case e2a => simp [Value.oneCell']
  case e3a => unfold maxLen;omega
  case e4a => omega
  case e5a => first | omega | (simp;omega)
  case e6a =>
   intro v' W4 hown' hgrow _ hat
   obtain ⟨A',c',rfl⟩ := zbB hown'
   have hfin := ybT (x := ⟨f0,f1,f2,f3⟩) HK2.out hgrow hown' hs2 (by omega)
   obtain ⟨hf1,hf2,hf3⟩ := hfin
   have e1 := zaB hf1 1
   have z1 := zaK hf1 1
   have hl := hf2.blk
   have e1' := zaB hl 1
   simp only [gzz] at e1 e1'
   have H2 := Lib.hid hf2
   have H3 := Lib.hid hf3
   clear hf1 hf2 hf3 hl hown' hgrow hat
   have hp0 : addP s ⟨f0,f1,f2,f3⟩ = (⟨kidP s.row,s.t ++ [⟨f0,f1,f2,f3⟩]⟩,if 2000 < s.t.length + 1 then 4 else 0) := rfl
   have HP := Lib.hid hp0
   clear hp0
   have hend : Below B0 w (W4.setCell ⟨g,1,none⟩ (.slice A' (s.t.length + 1) c')) := HL2.out.trans H3.out.1
   have hkeep := HE2.out.trans H3.out.2
   have H4 := Lib.hid hend
   have H5 := Lib.hid hkeep
   clear hend hkeep H3
   by_cases hbig : 2000 < s.t.length + 1
   ·have hbig' : (2000 : Int) < (s.t.length : Int) + 1 := by omega
    go_wp2
    go_ret
    refine ⟨by rw [HP.out,if_pos hbig];rfl,?_⟩
    rw [HP.out]
    exact ⟨_,H2.out,H4.out,H5.out⟩
   ·have hbig' : ¬ (2000 : Int) < (s.t.length : Int) + 1 := by omega
    go_wp2
    go_ret
    refine ⟨by rw [HP.out,if_neg hbig];rfl,?_⟩
    rw [HP.out]
    exact ⟨_,H2.out,H4.out,H5.out⟩
theorem info155 : (Try.prog.info? 155).map (fun i => (i.zero,i.size,i.bytes)) = some (some (.agg #[(.int .u8 0),(.int .i64 0),(.int .i64 0),(.int .i64 0),(.bool false),(.int .i64 0),(.int .i64 0)]),7,56) := by kernel_rfl
def zfW (B0 g m : Nat) (s : Bld) (w w' : World) : Prop := ∃ vr vt,BAt w' B0 g m vr vt s ∧ Below B0 w w' ∧ zeB w w'
theorem row_end {W : World} {B0 g m cr : Nat} {A A' : Option Addr} {vt : Value} {c' : Nat} {r : List Opn} {t : List S56} {x : Opn} {W4 : World}
  (h : BAt W B0 g m (.slice A r.length cr) vt ⟨r,t⟩) (hg : (W.alloc (.cells (zcK x).toArray 155)).grownBy W4 (Value.slice A r.length cr).ownBlock)
  (ho : W4.ownsRow B0 155 7 (.slice A' (r.length + 1) c') (r.length + 1) (zeQ r ++ zcK x)) (hB : B0 ≤ W.heap.size) :
  W4.heap[g]? = some (.cells #[.slice A r.length cr,vt,.map (some m)] 104 (0,0)) ∧
  BAt (W4.setCell ⟨g,0,none⟩ (.slice A' (r.length + 1) c')) B0 g m (.slice A' (r.length + 1) c') vt ⟨r ++ [x],t⟩ ∧
  (Below B0 W (W4.setCell ⟨g,0,none⟩ (.slice A' (r.length + 1) c')) ∧ zeB W (W4.setCell ⟨g,0,none⟩ (.slice A' (r.length + 1) c'))) := by
 have hrow : W.ownsRow B0 155 7 (.slice A r.length cr) r.length (zeQ r) := h.row
 have hne : some g ≠ (Value.slice A r.length cr).ownBlock := zeM hrow h.blk (by decide)
 have hb4 : W4.heap[g]? = some (.cells #[.slice A r.length cr,vt,.map (some m)] 104 (0,0)) := zbS (zcE h.blk _) hg hne
 have hblk : (W4.setCell ⟨g,0,none⟩ (.slice A' (r.length + 1) c')).heap[g]? = some (.cells #[.slice A' (r.length + 1) c',vt,.map (some m)] 104 (0,0)) := zbX hb4 0 _ rfl
 have htr := zeL h.t hrow (by decide)
 have ht4 : W4.ownsRow B0 56 4 vt t.length (zaU t) := zlA (zgG h.t _) hg htr
 have hgt := zeM ht4 hb4 (by decide)
 have hgr := zeM ho hb4 (by decide)
 obtain ⟨es,clock,hm⟩ := zoA h.map
 have hmt : some m ≠ (Value.slice A r.length cr).ownBlock := fun e => by
  obtain ⟨cs,hcs⟩ := zcO hrow m e.symm
  rw [hm] at hcs
  cases hcs
 have hmg : m ≠ g := fun e => by
  subst e
  rw [h.blk] at hm
  cases hm
 refine ⟨hb4,⟨h.base,hblk,?_,zcG ht4 (p := ⟨g,0,none⟩) hgt _,zhU h.map fun o ho' => ?_⟩,?_,?_⟩
 ·have := zcG ho (p := ⟨g,0,none⟩) hgr (.slice A' (r.length + 1) c')
  show World.ownsRow _ B0 155 7 _ (r ++ [x]).length (zeQ (r ++ [x]))
  rw [ztN,List.length_append]
  exact this
 ·rw [Below.heap_setCell _ _ _ _ hmg]
  exact zbS (zcE ho' _) hg hmt
 ·refine Below.setCell ?_ h.base _
  have h1 : Below B0 W (W.alloc (.cells (zcK x).toArray 155)) := (Below.refl B0 W).alloc hB _
  refine zeT h1 _ (by simp;omega) hg fun k hk => ?_
  exact zcZ hrow k hk
 refine zeB.trans (zeB.trans (zeB.below ((Below.refl _ W).alloc (Nat.le_refl _) (.cells (zcK x).toArray 155))) (zeB.grown hg fun k hk => ?_)) (zeB.set (p := ⟨g,0,none⟩) hb4 rfl _)
 obtain ⟨cs,hcs⟩ := zcO (zgG hrow (.cells (zcK x).toArray 155)) k hk
 exact ⟨_,hcs,rfl⟩
theorem ycZ {r : List Opn} (h : mayP r 110 = true) : ∃ j,zbJ zgT r r.length = some j := by
 unfold mayP at h
 cases ha : zbJ zgT r r.length with
 | some j => exact ⟨j,rfl⟩
 | none => rw [ha] at h;simp at h
theorem zdU {B0 g m : Nat} {s : Bld} {w w' : World} {vr vt : Value} (h : BAt w' B0 g m vr vt s) (h1 : Below B0 w w') (h2 : zeB w w') : zfW B0 g m s w w' := ⟨vr,vt,h,h1,h2⟩
theorem zcT {B0 : Nat} {w w' : World} (h : Below w.heap.size w w') (hB : B0 ≤ w.heap.size) : Below B0 w w' := ⟨h.os,h.tape,h.output,h.size,fun i hi => h.block i (by omega)⟩
set_option pp.maxSteps 3000 in
theorem yaI (B0 g m : Nat) (vr vt : Value) (s : Bld) (x : S47) (w : World) (hB0 : B0 ≤ w.heap.size) (hk0 : 0 ≤ x.f1) (hk1 : x.f1 ≤ 255) (hn : s.row.length ≤ 999999) (hnt : s.t.length ≤ 999999) (hkb : zfK s.row) (hb : BAt w B0 g m vr vt s) :
  Calls Try.prog 93 #[.pointer (some ⟨g,0,none⟩),.agg #[.int .i64 x.f0,.int .u8 x.f1,.string x.f2,.int .i64 x.f3]] w fun e w' =>
   e = .returned (.tuple #[.int .i64 (zdQ s x).2.1,.int .i64 (zdQ s x).2.2]) ∧ zfW B0 g m (zdQ s x).1 w w' := by
 obtain ⟨f0,k,f2,f3⟩ := x
 simp only at hk0 hk1
 obtain ⟨A,c,rfl⟩ := zbB hb.row
 have hb1 : Below w.heap.size w (w.alloc (.cells #[.int .i64 f0,.int .u8 k,.string f2,.int .i64 f3] 47)) := (Below.refl _ w).alloc (Nat.le_refl _) _
 have hx := zbW w (.cells #[.int .i64 f0,.int .u8 k,.string f2,.int .i64 f3] 47)
 have hbx := hb.below hb1
 obtain ⟨w1,hw1⟩ : ∃ w1,w.alloc (.cells #[.int .i64 f0,.int .u8 k,.string f2,.int .i64 f3] 47) = w1 := ⟨_,rfl⟩
 rw [hw1] at hb1 hx hbx
 have hx1 := zaB hx 1
 simp only [gzz] at hx1
 have hmay := fun W (hW : BAt W B0 g m (.slice A s.row.length c) vt s) => zpT B0 g m _ vt s k W hk0 hk1 (by omega) hkb hW
 have HM := Lib.hid hmay
 have HROW := Lib.hid hb.row
 have HB := Lib.hid hbx
 have HB1 := Lib.hid hb1
 have HX := Lib.hid hx
 have HKB := Lib.hid hkb
 clear hb hb1 hx hbx hmay hkb
 cases hmm : mayP s.row k with
 | false =>
  have hP : zdQ s ⟨f0,k,f2,f3⟩ = (s,f3,2) := by unfold zdQ;simp only [hmm];rfl
  have HP := Lib.hid hP
  rw [hmm] at HM
  clear hP
  have HMM := Lib.hid hmm
  clear hmm
  go_enter Try.func93,Try.ntmps93
  go_wp2_with (go_at_call 104;refine (HM.out _ HB.out).mono ?_;rintro e w2 ⟨rfl,hb2⟩;have cx3 := zaB (zaG HX.out hb2) 3;simp only [gzz] at cx3)
  go_ret2
  refine ⟨by rw [HP.out];rfl,?_⟩
  rw [HP.out]
  exact zdU (HB.out.below hb2) (zcT (HB1.out.trans (hb2.mono HB1.out.size)) hB0) (zeB.below (HB1.out.trans (hb2.mono HB1.out.size)))
 | true =>
  have HMM := Lib.hid hmm
  rw [hmm] at HM
  clear hmm
  have hkc : (k == 110) = false ∧ (k == 108) = false ∨ (k == 110) = true ∨ (k == 110) = false ∧ (k == 108) = true := by
   simp only [beq_eq_false_iff_ne,beq_iff_eq];omega
  have HKC := Lib.hid hkc
  clear hkc
  go_enter Try.func93,Try.ntmps93
  go_upto_block 0 with (go_at_call 104;(with_reducible refine (HM.out _ HB.out).mono ?_);rintro e w2 ⟨rfl,hb2⟩;have cx1 := zaB (zaG HX.out hb2) 1;have cx3 := zaB (zaG HX.out hb2) 3;simp only [gzz] at cx1 cx3)
  have HW2 := Lib.hid (HB1.out.trans (hb2.mono HB1.out.size))
  have HX2 := Lib.hid (zaG HX.out hb2)
  have HB2 := Lib.hid (HB.out.below hb2)
  have d0 := zaB HB2.out.blk 0
  simp only [List.getElem?_toArray,List.getElem?_cons_zero] at d0
  clear hb2
  go_cut [] (fun W1 => (BAt W1 B0 g m (.slice A s.row.length c) vt ⟨zcY s.row k,s.t⟩ ∧ Below B0 w W1 ∧ zeB w W1) ∧ W1.heap[w.heap.size]? = some (.cells #[.int .i64 f0,.int .u8 k,.string f2,.int .i64 f3] 47 (0,0)))
  case first =>
   rcases HKC.out with ⟨k1,k2⟩ | k1 | ⟨k1,k2⟩
   ·go_wp2_with fail
    go_meet
    rw [show zcY s.row k = s.row from by unfold zcY;rw [if_neg (beq_eq_false_iff_ne.1 k1),if_neg (beq_eq_false_iff_ne.1 k2)]]
    exact ⟨⟨HB2.out,zcT HW2.out hB0,zeB.below HW2.out⟩,HX2.out⟩
   ·have HKE := Lib.hid (beq_iff_eq.1 k1)
    obtain ⟨j,hA⟩ := ycZ (show mayP s.row 110 = true from HKE.out ▸ HMM.out)
    have hjl := ziF _ _ _ _ hA
    obtain ⟨gr,ca,hae,hao⟩ := zfP HB.out.row (by omega)
    simp only [Value.slice.injEq] at hae
    obtain ⟨rfl,-,rfl⟩ := hae
    have HNE := Lib.hid (show w.heap.size ≠ gr from fun e => by have := znR HROW.out gr rfl;omega)
    have hAC := fun W (hW : BAt W B0 g m (.slice (some ⟨gr,0,none⟩) s.row.length c) vt s) => zgC B0 _ c s.row _ _ zjQ W (by omega) HKB.out hW.row
    simp only [hA] at hAC
    have hno := fun W (hW : BAt W B0 g m (.slice (some ⟨gr,0,none⟩) s.row.length c) vt s) => zdE hW.row j 3 hjl (by omega)
    have hfr := fun W (hW : BAt W B0 g m (.slice (some ⟨gr,0,none⟩) s.row.length c) vt s) => World.ownsRow.frozenAt hW.row (j * 7 + 3)
    have hse := fun W (hW : BAt W B0 g m (.slice (some ⟨gr,0,none⟩) s.row.length c) vt s) => hW.setO j 3 hjl (by omega) zjM (.int .i64 (wrap64 ((s.row.getD j zOpn).note + 1))) rfl
    simp only [zcK,List.getElem?_cons_succ,List.getElem?_cons_zero] at hno
    obtain ⟨nt,hnt⟩ : ∃ nt,(s.row.getD j zOpn).note = nt := ⟨_,rfl⟩
    rw [hnt] at hno hse
    have HAC := Lib.hid hAC
    have HNO := Lib.hid hno
    have HFR := Lib.hid hfr
    have HSE := Lib.hid hse
    have HA := Lib.hid hA
    clear hAC hno hfr hse hnt hA hao
    have q0 := HNO.out _ HB2.out
    have q1 := HFR.out _ HB2.out
    go_wp2_with (go_at_call 133;(with_reducible refine (HAC.out _ HB2.out).mono ?_);rintro e w2 ⟨rfl,rfl⟩;simp only [ptrO])
    go_meet
    rw [show zcY s.row k = s.row.modify j zjM from by unfold zcY;rw [if_pos HKE.out,HA.out]]
    obtain ⟨h1,h2,h3⟩ := HSE.out _ HB2.out
    exact ⟨⟨h1,(zcT HW2.out hB0).trans h2,(zeB.below HW2.out).trans h3⟩,zeV HX2.out HNE.out _⟩
   ·have HKE := Lib.hid (beq_iff_eq.1 k2)
    have HKF := Lib.hid (beq_eq_false_iff_ne.1 k1)
    by_cases h0 : s.row = []
    ·have h00 : s.row.length = 0 := by rw [h0];rfl
     have H0 := Lib.hid h0
     have H00 := Lib.hid h00
     clear h0 h00
     rw [H00.out] at d0
     go_wp2_with (go_at_call 134;(with_reducible refine (zsK c A _).mono ?_);rintro e w3 ⟨rfl,rfl⟩)
     go_meet
     have HW3 := HW2.out.alloc HW2.out.size (.cells #[.int .u8 0,.int .i64 0,.int .i64 0,.int .i64 0,.bool true,.int .i64 0,.int .i64 0] 155)
     rw [show zcY s.row k = s.row from by unfold zcY;rw [if_neg HKF.out,if_pos HKE.out,H0.out];rfl]
     exact ⟨⟨HB2.out.below ((Below.refl _ _).alloc (Nat.le_refl _) _),zcT HW3 hB0,zeB.below HW3⟩,zcE HX2.out _⟩
    ·have hp : 0 < s.row.length := List.length_pos_iff.2 h0
     obtain ⟨gr,ca,hae,hao⟩ := zfP HB.out.row hp
     simp only [Value.slice.injEq] at hae
     obtain ⟨rfl,-,rfl⟩ := hae
     obtain ⟨n,hn'⟩ : ∃ n,s.row.length = n + 1 := ⟨s.row.length - 1,by omega⟩
     have HNE := Lib.hid (show w.heap.size ≠ gr from fun e => by have := znR HROW.out gr rfl;omega)
     have htop := fun W => zoO gr n c (by omega) W
     have hno := fun W (hW : BAt W B0 g m (.slice (some ⟨gr,0,none⟩) s.row.length c) vt s) => zdE hW.row n 4 (by omega) (by omega)
     have hfr := fun W (hW : BAt W B0 g m (.slice (some ⟨gr,0,none⟩) s.row.length c) vt s) => World.ownsRow.frozenAt hW.row (n * 7 + 4)
     have hse := fun W (hW : BAt W B0 g m (.slice (some ⟨gr,0,none⟩) s.row.length c) vt s) => hW.setO n 4 (by omega) (by omega) zmY (.bool true) rfl
     simp only [zcK,List.getElem?_cons_succ,List.getElem?_cons_zero] at hno
     generalize (s.row.getD n zOpn).past = ps at hno
     have HT := Lib.hid htop
     have HNO := Lib.hid hno
     have HFR := Lib.hid hfr
     have HSE := Lib.hid hse
     have HN := Lib.hid hn'
     clear htop hno hfr hse hao hn' h0 hp
     have q0 := HNO.out _ HB2.out
     have q1 := HFR.out _ HB2.out
     rw [HN.out] at d0
     go_wp2_with (go_at_call 134;(with_reducible refine (HT.out _).mono ?_);rintro e w2 ⟨rfl,rfl⟩)
     go_meet
     rw [show zcY s.row k = s.row.modify n zmY from by unfold zcY;rw [if_neg HKF.out,if_pos HKE.out,HN.out];rfl]
     obtain ⟨h1,h2,h3⟩ := HSE.out _ HB2.out
     exact ⟨⟨h1,(zcT HW2.out hB0).trans h2,(zeB.below HW2.out).trans h3⟩,zeV HX2.out HNE.out _⟩
  case rest =>
   obtain ⟨W1,hwc⟩ : ∃ W1,wc = W1 := ⟨_,rfl⟩
   obtain ⟨HS0,HX10⟩ := hcut
   rw [hwc] at HS0 HX10 ⊢
   clear hwc
   have HS := Lib.hid HS0
   have HX1 := Lib.hid HX10
   clear HS0 HX10 HKC d0 cx1 cx3 HX2 HB2
   have cx1 := zaB HX1.out 1
   have cx3 := zaB HX1.out 3
   simp only [gzz] at cx1 cx3
   go_wp2_with fail
   clear cx1 cx3
   refine (zwJ B0 g m (.slice A s.row.length c) vt ⟨zcY s.row k,s.t⟩ ⟨k,⟨#[]⟩,f3,1⟩ W1 (Nat.le_trans hB0 HS.out.2.1.size) (by rw [zhT];omega) (by show s.t.length ≤ _;omega) HS.out.1).mono ?_
   rintro e W2 ⟨rfl,vt2,hbb,hl2,hk2⟩
   replace hbb : BAt W2 B0 g m (.slice A s.row.length c) vt2 ⟨kidP (zcY s.row k),s.t ++ [⟨k,⟨#[]⟩,f3,1⟩]⟩ := hbb
   obtain ⟨E,hE⟩ : ∃ E,(addP ⟨zcY s.row k,s.t⟩ ⟨k,⟨#[]⟩,f3,1⟩).2 = E := ⟨_,rfl⟩
   rw [hE]
   have HE := Lib.hid (show (if 2000 < s.t.length + 1 then (4 : Int) else 0) = E from hE)
   obtain ⟨At,ct,rfl⟩ := zbB hbb.t
   have hT : (s.t ++ [⟨k,⟨#[]⟩,f3,1⟩] : List S56).length = s.t.length + 1 := by simp
   have hR : (kidP (zcY s.row k)).length = s.row.length := by rw [zhJ,zhT]
   have hfold : BAt W2 B0 g m (.slice A s.row.length c) (.slice At (s.t.length + 1) ct) ⟨kidP (zcY s.row k),s.t ++ [⟨k,⟨#[]⟩,f3,1⟩]⟩ := by have := hbb;rw [hT] at this;exact this
   have hX2 : W2.heap[w.heap.size]? = some (.cells #[.int .i64 f0,.int .u8 k,.string f2,.int .i64 f3] 47 (0,0)) := hk2 _ _ HX1.out rfl
   have hLW : Below B0 w W2 := HS.out.2.1.trans hl2
   have hKW : zeB w W2 := HS.out.2.2.trans hk2
   obtain ⟨r1,hr1⟩ : ∃ r1,kidP (zcY s.row k) = r1 := ⟨_,rfl⟩
   rw [hr1] at hfold hR
   have HR1 := Lib.hid hr1
   have HLR := Lib.hid hR
   rw [← hR] at hfold
   obtain ⟨W3,hW3⟩ : ∃ W3,W2.drew = W3 := ⟨_,rfl⟩
   have hK3 : BAt W3 B0 g m (.slice A r1.length c) (.slice At (s.t.length + 1) ct) ⟨r1,s.t ++ [⟨k,⟨#[]⟩,f3,1⟩]⟩ := by rw [← hW3];exact hfold.below (zaJ (Below.refl _ _))
   have hX3 : W3.heap[w.heap.size]? = some (.cells #[.int .i64 f0,.int .u8 k,.string f2,.int .i64 f3] 47 (0,0)) := by rw [← hW3];exact hX2
   have hL3 : Below B0 w W3 := by rw [← hW3];exact zaJ hLW
   have hE3 : zeB w W3 := by rw [← hW3];exact hKW.drew
   have hs3 : w.heap.size < W3.heap.size := zfB hX3
   have c1 := zaB hX2 1
   have d0 := zaB hfold.blk 0
   have d1 := zaB hfold.blk 1
   simp only [gzz] at c1 d0 d1
   have hrl : r1.length ≤ 999999 := by omega
   have HK3 := Lib.hid hK3
   have HL3 := Lib.hid hL3
   have HE3 := Lib.hid hE3
   have HX3 := Lib.hid hX3
   have HC := Lib.hid (And.intro c1 (And.intro d0 d1))
   clear hE hT hR hr1 hfold hbb hX2 hLW hKW hK3 hX3 hL3 hE3 c1 d0 d1 HS HX1 hl2 hk2 HX HB1
   go_wp2_with fail
   refine Go.Mix.region_mix' (fun b W => W = (bif b then W3.alloc (.cells #[.int .u8 k,.int .i64 s.t.length,.int .i64 0,.int .i64 0,.bool false,.int .i64 0,.int .i64 0] 155) else W3)) 14 15 [0] (by kernel_rfl) (by kernel_rfl) (fun _ _ _ _ _ h => h) hW3 ?_
   clear hW3
   refine Go.Mix.seqE_cons (t' := #[_,_,_,_,_,_,_,_,_,_,_,_,_,_,_,_,_,_,_,_,_,_,_,_,_,_,_,_,_,_,_,_,_,_,_,_,_,_,_,_,_,_,_,_,_,_,_,_,_,_,_,_,_,_,_,_,_,_,_,_,_,_,_,_,_,_,_,_,_,_,_,_,_,_,_,_,_,_,_,_]) _ (.pointer (some ⟨g,0,none⟩)) rfl rfl (fun w' => rfl) rfl ?_
   refine Go.Mix.seqE_nil ?_
   refine Go.Mix.seqM_skip (by rfl) ?_
   repeat
    apply Go.Mix.seqM_cons (by rfl) (by rfl)
    focus
     intro b W hS
     have hB : Below W3.heap.size W3 W := by
      rw [hS]
      cases b
      ·exact Below.refl _ _
      ·exact (Below.refl _ _).alloc (Nat.le_refl _) _
     have c1 := zaB (zaG HX3.out hB) 1
     have d0 := zaB (HK3.out.below hB).blk 0
     have d1 := zaB (HK3.out.below hB).blk 1
     simp only [gzz] at c1 d0 d1
     have HS := Lib.hid hS
     clear hS hB
     go_wp2
     exact Go.Det.AtEnd.mk HS.out
   apply Go.Mix.seqM_main (by rfl)
   focus
    intro W hS
    obtain rfl : W = W3 := hS
    go_wp2
    exact Go.Det.AtEnd.mk rfl
   refine Go.Mix.seqM_nil ?_
   intro W4 hW4
   obtain rfl : W4 = W3.alloc (.cells #[.int .u8 k,.int .i64 s.t.length,.int .i64 0,.int .i64 0,.bool false,.int .i64 0,.int .i64 0] 155) := hW4
   simp only [List.drop_succ_cons,List.drop_zero]
   obtain ⟨i0,hi,hz0,hz1,hz2⟩ := info_parts info155
   go_wp2_with (at_builtin;refine wpList_append_own_at _ rfl _ _ 101 rfl B0 155 i0 (.agg #[(.int .u8 0),(.int .i64 0),(.int .i64 0),(.int .i64 0),(.bool false),(.int .i64 0),(.int .i64 0)]) 7 56 Try.underlying101 hi hz0 hz1 hz2 rfl (by decide) _ _ _ rfl (HK3.out.row.alloc _) _ 1 1 [.int .u8 k,.int .i64 s.t.length,.int .i64 0,.int .i64 0,.bool false,.int .i64 0,.int .i64 0] rfl rfl ?e1a ?e2a ?e3a ?e4a ?e5a ?e6a)
   case e1a => exact zgK W3 [.int .u8 k,.int .i64 s.t.length,.int .i64 0,.int .i64 0,.bool false,.int .i64 0,.int .i64 0] 155
   case e2a => simp [Value.oneCell']
   case e3a => unfold maxLen;omega
   case e4a => omega
   case e5a => first | omega | (simp;omega)
   case e6a =>
    intro v' W5 hown' hgrow _ hat
    obtain ⟨A',c',rfl⟩ := zbB hown'
    have hfin := row_end (x := ⟨k,s.t.length,0,0,false,0,0⟩) HK3.out hgrow hown' (by omega)
    obtain ⟨hf1,hf2,hf3⟩ := hfin
    have e0 := zaB hf1 0
    have z0 := zaK hf1 0
    have e0' := zaB hf2.blk 0
    simp only [gzz] at e0 e0'
    have hX5 : (W5.setCell ⟨g,0,none⟩ (.slice A' (r1.length + 1) c')).heap[w.heap.size]? = some (.cells #[.int .i64 f0,.int .u8 k,.string f2,.int .i64 f3] 47 (0,0)) := hf3.2 _ _ HX3.out rfl
    have x3 := zaB hX5 3
    simp only [gzz] at x3
    have HO : (zdQ s ⟨f0,k,f2,f3⟩) = (⟨r1 ++ [⟨k,s.t.length,0,0,false,0,0⟩],s.t ++ [⟨k,⟨#[]⟩,f3,1⟩]⟩,f3,if 32 < s.row.length + 1 ∨ 8 < hasP 108 (r1 ++ [⟨k,s.t.length,0,0,false,0,0⟩]) then 5 else E) := by
     unfold zdQ
     simp only [HMM.out,if_true,HR1.out,HE.out]
    rw [← HLR.out] at HO
    have HO := Lib.hid HO
    have H2 := Lib.hid hf2
    have H3 := Lib.hid (show Below B0 w (W5.setCell ⟨g,0,none⟩ (.slice A' (r1.length + 1) c')) ∧ zeB w (W5.setCell ⟨g,0,none⟩ (.slice A' (r1.length + 1) c')) from ⟨HL3.out.trans hf3.1,HE3.out.trans hf3.2⟩)
    have HX5 := Lib.hid hX5
    have HH := Lib.hid (zdF B0 (.slice A' (r1.length + 1) c') (r1 ++ [⟨k,s.t.length,0,0,false,0,0⟩]) 108 _ (by rw [List.length_append];show r1.length + 1 ≤ _;omega) hf2.row)
    clear hf1 hf2 hf3 hown' hgrow hat hX5
    by_cases h32 : 32 < r1.length + 1
    ·have h32' : (32 : Int) < (r1.length : Int) + 1 := by omega
     go_wp2
     go_ret2
     refine ⟨by rw [HO.out,if_pos (.inl h32)];rfl,?_⟩
     rw [HO.out]
     exact zdU H2.out H3.out.1 H3.out.2
    ·have h32' : ¬ (32 : Int) < (r1.length : Int) + 1 := by omega
     by_cases h8 : 8 < hasP 108 (r1 ++ [⟨k,s.t.length,0,0,false,0,0⟩])
     ·have h8' : (8 : Int) < (hasP 108 (r1 ++ [⟨k,s.t.length,0,0,false,0,0⟩]) : Int) := by omega
      go_wp2_with (go_at_call 135;(with_reducible refine HH.out.mono ?_);rintro e w7 ⟨rfl,hb7⟩;have x3' := zaB (zaG HX5.out hb7) 3;simp only [gzz] at x3')
      go_ret2
      refine ⟨by rw [HO.out,if_pos (.inr h8)];rfl,?_⟩
      rw [HO.out]
      exact zdU (H2.out.below hb7) (H3.out.1.trans (zcT hb7 (Nat.le_trans hB0 H3.out.1.size))) (H3.out.2.trans (zeB.below hb7))
     ·have h8' : ¬ (8 : Int) < (hasP 108 (r1 ++ [⟨k,s.t.length,0,0,false,0,0⟩]) : Int) := by omega
      go_wp2_with (go_at_call 135;(with_reducible refine HH.out.mono ?_);rintro e w7 ⟨rfl,hb7⟩;have x3' := zaB (zaG HX5.out hb7) 3;simp only [gzz] at x3')
      go_ret2
      refine ⟨by rw [HO.out,if_neg (fun h => h.elim h32 h8)];rfl,?_⟩
      rw [HO.out]
      exact zdU (H2.out.below hb7) (H3.out.1.trans (zcT hb7 (Nat.le_trans hB0 H3.out.1.size))) (H3.out.2.trans (zeB.below hb7))
set_option pp.maxSteps 3000 in
theorem yaJ (B0 g m : Nat) (vr vt : Value) (r : List Opn) (t : List S56) (x : Opn) (w : World) (hB0 : B0 ≤ w.heap.size) (hn : r.length ≤ 999999) (hkb : zfK r) (hb : BAt w B0 g m vr vt ⟨r,t⟩)
  (htab : x.kind = 114 → ∃ j,zbJ [116] r r.length = some j) :
  Calls Try.prog 136 #[.pointer (some ⟨g,0,none⟩),.agg #[.int .u8 x.kind,.int .i64 x.pos,.int .i64 x.kids,.int .i64 x.note,.bool x.past,.int .i64 x.cols,.int .i64 x.text]] w fun e w' =>
   e = .returned (.bool (zcW r x).2) ∧ zfW B0 g m ⟨(zcW r x).1,t⟩ w w' := by
 obtain ⟨A,c,rfl⟩ := zbB hb.row
 have hb1 : Below w.heap.size w (w.alloc (.cells #[.int .u8 x.kind,.int .i64 x.pos,.int .i64 x.kids,.int .i64 x.note,.bool x.past,.int .i64 x.cols,.int .i64 x.text] 155)) := (Below.refl _ w).alloc (Nat.le_refl _) _
 have hx := zbW w (.cells #[.int .u8 x.kind,.int .i64 x.pos,.int .i64 x.kids,.int .i64 x.note,.bool x.past,.int .i64 x.cols,.int .i64 x.text] 155)
 have hbx := hb.below hb1
 obtain ⟨f0,f1,f2,f3,f4,f5,f6⟩ := x
 simp only at htab hb1 hx hbx ⊢
 obtain ⟨w1,hw1⟩ : ∃ w1,w.alloc (.cells #[.int .u8 f0,.int .i64 f1,.int .i64 f2,.int .i64 f3,.bool f4,.int .i64 f5,.int .i64 f6] 155) = w1 := ⟨_,rfl⟩
 rw [hw1] at hb1 hx hbx
 have x0 := zaB hx 0
 have x2 := zaB hx 2
 have d0 := zaB hbx.blk 0
 simp only [gzz] at x0 x2 d0
 have HROW := Lib.hid hb.row
 have HB := Lib.hid hbx
 have HB1 := Lib.hid hb1
 have HX := Lib.hid hx
 have HKB := Lib.hid hkb
 clear hb hb1 hx hbx hkb
 have hcase : (f0 == 108) = true ∨ ((f0 == 108) = false ∧ (f0 == 116) = true) ∨ ((f0 == 108) = false ∧ (f0 == 116) = false ∧ (f0 == 114) = true) ∨ ((f0 == 108) = false ∧ (f0 == 116) = false ∧ (f0 == 114) = false) := by
  simp only [beq_eq_false_iff_ne,beq_iff_eq];omega
 rcases hcase with k1 | ⟨k1,k2⟩ | ⟨k1,k2,k3⟩ | ⟨k1,k2,k3⟩
 ·have HO := Lib.hid (show zcW r ⟨f0,f1,f2,f3,f4,f5,f6⟩ = (r,decide (0 < f2)) from by unfold zcW;rw [if_pos (.inl (beq_iff_eq.1 k1))])
  go_enter Try.func136,Try.ntmps136
  go_wp2
  go_ret
  refine ⟨by rw [HO.out];rfl,?_⟩
  rw [HO.out]
  exact zdU HB.out (zcT HB1.out hB0) (zeB.below HB1.out)
 ·have HO := Lib.hid (show zcW r ⟨f0,f1,f2,f3,f4,f5,f6⟩ = (r,decide (0 < f2)) from by unfold zcW;rw [if_pos (.inr (beq_iff_eq.1 k2))])
  go_enter Try.func136,Try.ntmps136
  go_wp2
  go_ret
  refine ⟨by rw [HO.out];rfl,?_⟩
  rw [HO.out]
  exact zdU HB.out (zcT HB1.out hB0) (zeB.below HB1.out)
 ·obtain ⟨j,hA⟩ := htab (beq_iff_eq.1 k3)
  have hjl := ziF _ _ _ _ hA
  obtain ⟨gr,ca,hae,hao⟩ := zfP HB.out.row (by show 0 < r.length;omega)
  simp only [Value.slice.injEq] at hae
  obtain ⟨rfl,-,rfl⟩ := hae
  have hac := zgC B0 _ c r _ _ finds_t w1 (by omega) HKB.out HB.out.row
  rw [hA] at hac
  have HAC := Lib.hid hac
  have hne : w.heap.size ≠ gr := fun e => by have := znR HROW.out gr rfl;omega
  have q5 := zdE HB.out.row j 5 hjl (by omega)
  have z5 := World.ownsRow.frozenAt HB.out.row (j * 7 + 5)
  simp only [zcK,List.getElem?_cons_succ,List.getElem?_cons_zero] at q5
  have HO := Lib.hid (show zcW r ⟨f0,f1,f2,f3,f4,f5,f6⟩ = if (r.getD j zOpn).cols = 0 then (r.modify j (zhO f2),decide (0 < f2)) else (r,decide (0 < f2) && f2 == (r.getD j zOpn).cols) from by
   unfold zcW
   simp only [hA]
   rw [if_neg (fun h => h.elim (beq_eq_false_iff_ne.1 k1) (beq_eq_false_iff_ne.1 k2)),if_pos (beq_iff_eq.1 k3)])
  have hse := BAt.setO (s := ⟨r,t⟩) HB.out j 5 hjl (by omega) (zhO f2) (.int .i64 f2) rfl
  obtain ⟨cl,hcl⟩ : ∃ cl,(r.getD j zOpn).cols = cl := ⟨_,rfl⟩
  rw [hcl] at q5 HO
  have hX4 := zeV HX.out (p := ⟨gr,j * 7 + 5,none⟩) hne (.int .i64 f2)
  have HSE := Lib.hid hse
  have HX4 := Lib.hid hX4
  have HQ := Lib.hid (And.intro q5 z5)
  have HNE := Lib.hid hne
  clear hac hse hX4 hao hA htab hcl hne
  by_cases h0 : cl = 0
  ·have h0b : (cl == 0) = true := beq_iff_eq.2 h0
   rw [if_pos h0] at HO
   have hrow6 : (w1.setCell ⟨gr,j * 7 + 5,none⟩ (.int .i64 f2)).ownsRow B0 155 7 (.slice (some ⟨gr,0,none⟩) (r.modify j (zhO f2)).length c) (r.modify j (zhO f2)).length (zeQ (r.modify j (zhO f2))) := by
    have := HSE.out.1.row
    unfold RowO at this
    simp only [List.length_modify] at this ⊢
    exact this
   have q6' := zdE hrow6 j 5 (by simpa using hjl) (by omega)
   have e5 : ((r.modify j (zhO f2)).getD j zOpn).cols = f2 := by
    rw [List.getD_eq_getElem?_getD,List.getElem?_modify,List.getElem?_eq_getElem hjl]
    simp [zhO]
   simp only [zcK,List.getElem?_cons_succ,List.getElem?_cons_zero,e5] at q6'
   have y2 := zaB HX4.out 2
   simp only [gzz] at y2
   have HY := Lib.hid (And.intro q6' y2)
   clear hrow6 q6' y2 e5 h0
   go_enter Try.func136,Try.ntmps136
   go_wp2_with (go_at_call 133;(with_reducible refine HAC.out.mono ?_);rintro e w1 ⟨rfl,rfl⟩;simp only [ptrO])
   obtain ⟨W2,hW2⟩ : ∃ W2,w1.setCell ⟨gr,j * 7 + 5,none⟩ (.int .i64 f2) = W2 := ⟨_,rfl⟩
   rw [hW2] at HSE HX4 HY ⊢
   cases hd : decide (0 < f2)
   all_goals
    refine Go.Det.region_all (fun W => W = W2.drew) (by kernel_rfl) (by kernel_rfl) rfl ?_
    repeat
     apply Go.Det.seqW_cons
     focus
      intro W hS
      obtain rfl : W = W2.drew := hS
      obtain ⟨q5',y2⟩ := HY.out
      go_wp2
      exact Go.Det.AtEnd.mk rfl
    refine Go.Det.seqW_nil ?_
    intro W hS
    obtain rfl : W = W2.drew := hS
    simp only [Exit.then]
    go_wp2
    go_ret
    refine ⟨by rw [HO.out];simp [hd],?_⟩
    rw [HO.out]
    have hbd : Below W2.heap.size W2 W2.drew := zaJ (Below.refl _ _)
    exact zdU (HSE.out.1.below hbd) (zaJ ((zcT HB1.out hB0).trans HSE.out.2.1)) (((zeB.below HB1.out).trans HSE.out.2.2).drew)
  ·have h0b : (cl == 0) = false := beq_eq_false_iff_ne.2 h0
   rw [if_neg h0] at HO
   clear h0
   go_enter Try.func136,Try.ntmps136
   go_wp2_with (go_at_call 133;(with_reducible refine HAC.out.mono ?_);rintro e w1 ⟨rfl,rfl⟩;simp only [ptrO])
   cases hd : decide (0 < f2)
   all_goals
    refine Go.Det.region_all (fun W => W = w1.drew) (by kernel_rfl) (by kernel_rfl) rfl ?_
    repeat
     apply Go.Det.seqW_cons
     focus
      intro W hS
      obtain rfl : W = w1.drew := hS
      obtain ⟨q5',z5'⟩ := HQ.out
      go_wp2
      exact Go.Det.AtEnd.mk rfl
    refine Go.Det.seqW_nil ?_
    intro W hS
    obtain rfl : W = w1.drew := hS
    simp only [Exit.then]
    go_wp2
    go_ret
    refine ⟨by rw [HO.out];simp [hd],?_⟩
    rw [HO.out]
    exact zdU (HB.out.below (zaJ (Below.refl _ _))) (zaJ (zcT HB1.out hB0)) ((zeB.below HB1.out).drew)
 ·have HO := Lib.hid (show zcW r ⟨f0,f1,f2,f3,f4,f5,f6⟩ = (r,true) from by
   unfold zcW;rw [if_neg (fun h => h.elim (beq_eq_false_iff_ne.1 k1) (beq_eq_false_iff_ne.1 k2)),if_neg (beq_eq_false_iff_ne.1 k3)])
  go_enter Try.func136,Try.ntmps136
  go_wp2
  go_ret
  refine ⟨by rw [HO.out];rfl,?_⟩
  rw [HO.out]
  exact zdU HB.out (zcT HB1.out hB0) (zeB.below HB1.out)
theorem ydA (r : List Opn) : (zeQ r).take (r.dropLast.length * 7) = zeQ r.dropLast := by
 rcases List.eq_nil_or_concat r with rfl | ⟨r',x,rfl⟩
 ·rfl
 rw [List.concat_eq_append,List.dropLast_concat,ztN,List.take_append_of_le_length (by rw [zpS];omega),List.take_of_length_le (by rw [zpS];omega)]
theorem BAt.pop {w : World} {B0 g m gr c n : Nat} {vt : Value} {s : Bld} (h : BAt w B0 g m (.slice (some ⟨gr,0,none⟩) (n + 1) c) vt s) (hn : s.row.length = n + 1) :
  BAt (w.setCell ⟨g,0,none⟩ (.slice (some ⟨gr,0,none⟩) n c)) B0 g m (.slice (some ⟨gr,0,none⟩) n c) vt ⟨s.row.dropLast,s.t⟩ ∧ Below B0 w (w.setCell ⟨g,0,none⟩ (.slice (some ⟨gr,0,none⟩) n c)) ∧ zeB w (w.setCell ⟨g,0,none⟩ (.slice (some ⟨gr,0,none⟩) n c)) := by
 have hrow : w.ownsRow B0 155 7 (.slice (some ⟨gr,0,none⟩) (n + 1) c) (n + 1) (zeQ s.row) := by have := h.row;unfold RowO at this;rw [hn] at this;exact this
 have hne := zeM hrow h.blk (by decide)
 obtain ⟨es,clock,hm⟩ := zoA h.map
 have hmg : m ≠ g := fun e => by
  subst e
  rw [h.blk] at hm
  cases hm
 refine ⟨⟨h.base,zbX h.blk 0 _ rfl,?_,zcG h.t (p := ⟨g,0,none⟩) (zeM h.t h.blk (by decide)) _,zhU h.map fun o ho => ?_⟩,(Below.refl B0 w).setCell h.base _,zeB.set (p := ⟨g,0,none⟩) h.blk rfl _⟩
 ·have h1 := zsI hrow (m := n) (by omega)
  have h2 := zcG h1 (p := ⟨g,0,none⟩) (by exact hne) (.slice (some ⟨gr,0,none⟩) n c)
  have hl : s.row.dropLast.length = n := by rw [List.length_dropLast,hn];rfl
  unfold RowO
  have hd := ydA s.row
  rw [hl] at hd
  rw [hl,← hd]
  exact h2
 rw [Below.heap_setCell _ _ _ _ hmg]
 exact ho
theorem ztO (f : S56 → S56) (i : Nat) (hi : i < 4) (u : Value) : ∀ (xs : List S56) (j : Nat),j < xs.length → (zfR (f (xs.getD j z56))).toList = ((zfR (xs.getD j z56)).toList).set i u → (zaU xs).set (j * 4 + i) u = zaU (xs.modify j f)
 | [],j,h,_ => by simp at h
 | x :: xs,0,h,hf => by
  have e : ∀ (y : S56) (ys : List S56),zaU (y :: ys) = (zfR y).toList ++ zaU ys := fun _ _ => rfl
  rw [e,List.modify_zero_cons,e,List.set_append_left _ _ (by simp [zfR];omega),Nat.zero_mul,Nat.zero_add]
  simp only [List.getD_cons_zero] at hf
  rw [hf]
 | x :: xs,j + 1,h,hf => by
  have e : ∀ (y : S56) (ys : List S56),zaU (y :: ys) = (zfR y).toList ++ zaU ys := fun _ _ => rfl
  rw [e,List.modify_succ_cons,e,List.set_append_right _ _ (by simp [zfR];omega)]
  rw [show (j + 1) * 4 + i - (zfR x).toList.length = j * 4 + i from by simp [zfR];omega]
  rw [ztO f i hi u xs j (by simpa using h) (by simpa using hf)]
theorem yeW {W : World} {B0 : Nat} {v : Value} {t : List S56} (h : W.ownsRow B0 56 4 v t.length (zaU t)) (hr : 0 < t.length) : ∃ g c,v = .slice (some ⟨g,0,none⟩) t.length c ∧ W.ownsRow B0 56 4 (.slice (some ⟨g,0,none⟩) t.length c) t.length (zaU t) := by
 obtain ⟨A,c,rfl⟩ := zbB h
 rcases h.2 with ⟨_,h0⟩ | ⟨g,cap,cur,e,_⟩
 ·omega
 simp only [Value.slice.injEq] at e
 obtain ⟨rfl,_,rfl⟩ := e
 exact ⟨g,_,rfl,h⟩
theorem yeX {W : World} {B0 g c : Nat} {t : List S56} (h : W.ownsRow B0 56 4 (.slice (some ⟨g,0,none⟩) t.length c) t.length (zaU t)) (j i : Nat) (hj : j < t.length) (hi : i < 4) : W.cell? ⟨g,j * 4 + i,none⟩ = (zfR (t.getD j z56))[i]? := by
 rw [h.cellAt (j * 4 + i) (by omega)]
 have : ∀ (xs : List S56) (j : Nat),j < xs.length → (zaU xs)[j * 4 + i]? = (zfR (xs.getD j z56))[i]? := by
  intro xs
  induction xs with
  | nil => intro j h;simp at h
  | cons x xs ih =>
  intro j h
  have e : zaU (x :: xs) = (zfR x).toList ++ zaU xs := rfl
  rw [e]
  cases j with
  | zero => rw [List.getElem?_append_left (by simp [zfR];omega)];simp
  | succ j =>
  rw [List.getElem?_append_right (by simp [zfR];omega)]
  have := ih j (by simpa using h)
  rw [show (j + 1) * 4 + i - (zfR x).toList.length = j * 4 + i from by simp [zfR];omega,this]
  simp
 exact this t j hj
theorem BAt.pop' {w : World} {B0 g m gr c n : Nat} {vt : Value} {s : Bld} (h : BAt w B0 g m (.slice (some ⟨gr,0,none⟩) s.row.length c) vt s) (hn : s.row.length = n + 1) :
  BAt (w.setCell ⟨g,0,none⟩ (.slice (some ⟨gr,0,none⟩) n c)) B0 g m (.slice (some ⟨gr,0,none⟩) n c) vt ⟨s.row.dropLast,s.t⟩ ∧ Below B0 w (w.setCell ⟨g,0,none⟩ (.slice (some ⟨gr,0,none⟩) n c)) ∧ zeB w (w.setCell ⟨g,0,none⟩ (.slice (some ⟨gr,0,none⟩) n c)) :=
 BAt.pop (by have := h;rw [hn] at this;exact this) hn
theorem yeY {w : World} {B0 g m gt ct p : Nat} {vr : Value} {s : Bld} (h : BAt w B0 g m vr (.slice (some ⟨gt,0,none⟩) s.t.length ct) s) (hp : p < s.t.length) (n : Int) :
  BAt (w.setCell ⟨gt,p * 4 + 3,none⟩ (.int .i64 n)) B0 g m vr (.slice (some ⟨gt,0,none⟩) s.t.length ct) ⟨s.row,s.t.modify p (zlN n)⟩ ∧ Below B0 w (w.setCell ⟨gt,p * 4 + 3,none⟩ (.int .i64 n)) ∧ zeB w (w.setCell ⟨gt,p * 4 + 3,none⟩ (.int .i64 n)) := by
 obtain ⟨cs,hcs⟩ := zcO h.t gt rfl
 have hb0 := zcZ h.t gt rfl
 have hne : g ≠ gt := zhG h.blk hcs (by decide)
 obtain ⟨es,clock,hm⟩ := zoA h.map
 have hmne : m ≠ gt := fun e => by subst e;rw [hm] at hcs;cases hcs
 have hrow : w.ownsRow B0 155 7 vr s.row.length (zeQ s.row) := h.row
 refine ⟨⟨h.base,zeV h.blk hne _,?_,?_,zhU h.map fun o ho => ?_⟩,(Below.refl B0 w).setCell hb0 _,zeB.set (p := ⟨gt,p * 4 + 3,none⟩) hcs (by rfl) _⟩
 ·refine zcG hrow ?_ _
  rcases zeL h.t hrow (by decide) with h0 | h0
  ·cases h0
  exact h0
 ·have := (h.t.stored (p * 4 + 3) (.int .i64 n)).1
  rw [ztO (zlN n) 3 (by omega) (.int .i64 n) s.t p hp rfl] at this
  simp only [List.length_modify]
  exact this
 rw [Below.heap_setCell _ _ _ _ hmne]
 exact ho
theorem top_at (r : List Opn) (n : Nat) (hn : r.length = n + 1) : r.getD n zOpn = topP r := by
 unfold topP
 rw [List.getLast?_eq_getElem?,List.getD_eq_getElem?_getD,hn]
 rfl
set_option pp.maxSteps 3000 in
theorem yaK (B0 g m : Nat) (vr vt : Value) (s : Bld) (x : S47) (w : World) (hB0 : B0 ≤ w.heap.size) (hn : s.row.length ≤ 999999) (hnt : s.t.length ≤ 999999) (hkb : zfK s.row) (hpos : ztL s) (hch : zfV s.row) (hb : BAt w B0 g m vr vt s) :
  Calls Try.prog 94 #[.pointer (some ⟨g,0,none⟩),.agg #[.int .i64 x.f0,.int .u8 x.f1,.string x.f2,.int .i64 x.f3]] w fun e w' =>
   e = .returned (.tuple #[.int .i64 (zdX s x).2.1,.int .i64 (zdX s x).2.2]) ∧ zfW B0 g m (zdX s x).1 w w' := by
 obtain ⟨f0,k,f2,f3⟩ := x
 obtain ⟨A,c,rfl⟩ := zbB hb.row
 have hb1 : Below w.heap.size w (w.alloc (.cells #[.int .i64 f0,.int .u8 k,.string f2,.int .i64 f3] 47)) := (Below.refl _ w).alloc (Nat.le_refl _) _
 have hx := zbW w (.cells #[.int .i64 f0,.int .u8 k,.string f2,.int .i64 f3] 47)
 have hbx := hb.below hb1
 have hsz : (w.alloc (.cells #[.int .i64 f0,.int .u8 k,.string f2,.int .i64 f3] 47)).heap.size = w.heap.size + 1 := by simp
 obtain ⟨w1,hw1⟩ : ∃ w1,w.alloc (.cells #[.int .i64 f0,.int .u8 k,.string f2,.int .i64 f3] 47) = w1 := ⟨_,rfl⟩
 rw [hw1] at hb1 hx hbx hsz
 have x3 := zaB hx 3
 have d0 := zaB hbx.blk 0
 simp only [gzz] at x3 d0
 have HB := Lib.hid hbx
 have HB1 := Lib.hid hb1
 have HX := Lib.hid hx
 have HKB := Lib.hid hkb
 have HSZ := Lib.hid hsz
 clear hb hb1 hx hbx hkb hsz
 by_cases h0 : s.row = []
 ·have HO := Lib.hid (show zdX s ⟨f0,k,f2,f3⟩ = (s,f3,2) from by unfold zdX;rw [if_pos h0])
  have h00 : s.row.length = 0 := by rw [h0];rfl
  rw [h00] at d0
  clear h0 h00
  go_enter Try.func94,Try.ntmps94
  go_wp2
  go_ret2
  refine ⟨by rw [HO.out];rfl,?_⟩
  rw [HO.out]
  exact zdU HB.out (zcT HB1.out hB0) (zeB.below HB1.out)
 have hp : 0 < s.row.length := List.length_pos_iff.2 h0
 obtain ⟨gr,ca,hae,hao⟩ := zfP HB.out.row hp
 simp only [Value.slice.injEq] at hae
 obtain ⟨rfl,-,rfl⟩ := hae
 obtain ⟨n,hn'⟩ : ∃ n,s.row.length = n + 1 := ⟨s.row.length - 1,by omega⟩
 have htop := top_at s.row n hn'
 have hq := fun i hi => zdE hao n i (by omega) hi
 rw [htop] at hq
 have hmem : topP s.row ∈ s.row := by
  rw [← htop,List.getD_eq_getElem?_getD,List.getElem?_eq_getElem (by omega)]
  exact List.getElem_mem _
 obtain ⟨hp0,hp1⟩ := hpos _ hmem
 have htab : (topP s.row).kind = 114 → ∃ j,zbJ [116] s.row.dropLast s.row.dropLast.length = some j := fun h => yaG hch h
 have HO := Lib.hid (show zdX s ⟨f0,k,f2,f3⟩ = (⟨(zcW s.row.dropLast (topP s.row)).1,s.t.modify (topP s.row).pos.toNat (zlN (s.t.length - (topP s.row).pos))⟩,f3,if (zcW s.row.dropLast (topP s.row)).2 then 0 else 2) from by unfold zdX;rw [if_neg h0])
 generalize topP s.row = o at *
 obtain ⟨o0,o1,o2,o3,o4,o5,o6⟩ := o
 simp only at hp0 hp1 htab HO
 obtain ⟨p,rfl⟩ : ∃ p : Nat,o1 = (p : Int) := ⟨o1.toNat,by omega⟩
 have q0 := hq 0 (by omega)
 have q1 := hq 1 (by omega)
 have q2 := hq 2 (by omega)
 have q3 := hq 3 (by omega)
 have q4 := hq 4 (by omega)
 have q5 := hq 5 (by omega)
 have q6 := hq 6 (by omega)
 simp only [zcK,List.getElem?_cons_succ,List.getElem?_cons_zero,Nat.add_zero] at q0 q1 q2 q3 q4 q5 q6
 have hcap := own_cap hao
 have hT := fun W => zoO gr n c (by omega) W
 have hpl : p < s.t.length := by omega
 have hnl : n ≤ 999998 := by omega
 obtain ⟨gt,ct,rfl,hto⟩ := yeW HB.out.t (by omega)
 clear hto
 have HT := Lib.hid hT
 have HN := Lib.hid hn'
 have HTAB := Lib.hid htab
 rw [hn'] at d0 hcap
 clear hT hq hao hmem h0 hp hpos hch htop hn' htab
 go_enter Try.func94,Try.ntmps94
 go_wp2_with (go_at_call 134;(with_reducible refine (HT.out _).mono ?_);rintro e w1 ⟨rfl,rfl⟩)
 have hBA : Below w1.heap.size w1 (w1.alloc (.cells #[.int .u8 o0,.int .i64 p,.int .i64 o2,.int .i64 o3,.bool o4,.int .i64 o5,.int .i64 o6] 155)) := (Below.refl _ _).alloc (Nat.le_refl _) _
 have hO := zbW w1 (.cells #[.int .u8 o0,.int .i64 p,.int .i64 o2,.int .i64 o3,.bool o4,.int .i64 o5,.int .i64 o6] 155)
 obtain ⟨W1,hW1⟩ : ∃ W1,w1.alloc (.cells #[.int .u8 o0,.int .i64 p,.int .i64 o2,.int .i64 o3,.bool o4,.int .i64 o5,.int .i64 o6] 155) = W1 := ⟨_,rfl⟩
 rw [hW1] at hBA hO ⊢
 obtain ⟨W2,hW2⟩ : ∃ W2,W1.drew = W2 := ⟨_,rfl⟩
 have hb2 : Below w1.heap.size w1 W2 := by rw [← hW2];exact zaJ hBA
 have hO2 : W2.heap[w1.heap.size]? = some (.cells #[.int .u8 o0,.int .i64 p,.int .i64 o2,.int .i64 o3,.bool o4,.int .i64 o5,.int .i64 o6] 155 (0,0)) := by rw [← hW2];exact hO
 have HB2 := Lib.hid (HB.out.below hb2)
 have HX2 := Lib.hid (zaG HX.out hb2)
 have HE2 := Lib.hid (HB1.out.trans (hb2.mono HB1.out.size))
 have HO2 := Lib.hid hO2
 have e0 := zaB HB2.out.blk 0
 have ez := zaK HB2.out.blk 0
 simp only [List.getElem?_toArray,List.getElem?_cons_zero] at e0
 rw [HN.out] at e0
 have HE0 := Lib.hid (And.intro e0 ez)
 clear e0 ez hO2 hb2 hO hBA hW1 q0 q1 q2 q3 q4 q5 q6 d0 x3
 have hcap2 : n ≤ c := by omega
 refine Go.Det.region_det (fun W => W = W2) 14 (by kernel_rfl) (by kernel_rfl) (by kernel_rfl) (by decide) hW2 ?_
 clear hW2
 repeat
  apply Go.Det.seqW_cons
  focus
   intro W hS
   obtain rfl : W = W2 := hS
   obtain ⟨e0,ez⟩ := HE0.out
   go_wp2
   exact Go.Det.AtEnd.mk rfl
 refine Go.Det.seqW_nil ?_
 intro W hS
 obtain rfl : W = W2 := hS
 simp only [List.drop_succ_cons,List.drop_zero]
 obtain ⟨e0,ez⟩ := HE0.out
 go_wp2
 have hpop := HB2.out.pop' HN.out
 have hO3 := zeV HO2.out (p := ⟨g,0,none⟩) (Ne.symm (zhG HB2.out.blk HO2.out (by decide))) (.slice (some ⟨gr,0,none⟩) n c)
 have hX3 := zeV HX2.out (p := ⟨g,0,none⟩) (Ne.symm (zhG HB2.out.blk HX2.out (by decide))) (.slice (some ⟨gr,0,none⟩) n c)
 obtain ⟨W3,hW3⟩ : ∃ W3,W.setCell ⟨g,0,none⟩ (.slice (some ⟨gr,0,none⟩) n c) = W3 := ⟨_,rfl⟩
 rw [hW3] at hpop hO3 hX3 ⊢
 clear hW3 e0 ez
 obtain ⟨hb3,hl3,hk3⟩ := hpop
 obtain ⟨W4,hW4⟩ : ∃ W4,W3.drew = W4 := ⟨_,rfl⟩
 have hbd : Below W3.heap.size W3 W4 := by rw [← hW4];exact zaJ (Below.refl _ _)
 have HB4 := Lib.hid (hb3.below hbd)
 have HO4 := Lib.hid (zaG hO3 hbd)
 have HX4 := Lib.hid (zaG hX3 hbd)
 have HL4 := Lib.hid (((zcT HE2.out hB0).trans hl3).trans (zcT hbd (Nat.le_trans hB0 (Nat.le_trans HE2.out.size hl3.size))))
 have HK4 := Lib.hid (((zeB.below HE2.out).trans hk3).trans (zeB.below hbd))
 have e1 := zaB HB4.out.blk 1
 have y1 := zaB HO4.out 1
 have ez := World.ownsRow.frozenAt HB4.out.t (p * 4 + 3)
 have et := yeX HB4.out.t p 3 hpl (by omega)
 simp only [zfR,gzz] at e1 y1 et
 have HQ := Lib.hid (And.intro e1 (And.intro y1 (And.intro ez et)))
 have hpl1 : (p : Int) < (s.t.length : Int) := by omega
 clear hb3 hl3 hk3 hO3 hX3 hbd e1 y1 ez et HB2 HO2 HX2 HE2 HE0 HX HB1 HB
 refine Go.Det.region_det (fun W => W = W4) 16 (by kernel_rfl) (by kernel_rfl) (by kernel_rfl) (by decide) hW4 ?_
 clear hW4
 repeat
  apply Go.Det.seqW_cons
  focus
   intro W hS
   obtain rfl : W = W4 := hS
   obtain ⟨e1,y1,ez,et⟩ := HQ.out
   go_wp2
   exact Go.Det.AtEnd.mk rfl
 refine Go.Det.seqW_nil ?_
 intro W hS
 obtain rfl : W = W4 := hS
 simp only [List.drop_succ_cons,List.drop_zero]
 have hsz := yeY (s := ⟨s.row.dropLast,s.t⟩) HB4.out hpl ((s.t.length : Int) - p)
 have hO5 := zeV HO4.out (p := ⟨gt,p * 4 + 3,none⟩) (fun e => by
  obtain ⟨cs,hcs⟩ := zcO HB4.out.t gt rfl
  exact absurd e (zhG HO4.out hcs (by decide))) (.int .i64 ((s.t.length : Int) - p))
 have hX5 := zeV HX4.out (p := ⟨gt,p * 4 + 3,none⟩) (fun e => by
  obtain ⟨cs,hcs⟩ := zcO HB4.out.t gt rfl
  exact absurd e (zhG HX4.out hcs (by decide))) (.int .i64 ((s.t.length : Int) - p))
 have HSZ5 := Lib.hid hsz
 have HO5 := Lib.hid hO5
 have HX5 := Lib.hid hX5
 have o0c := zaB hO5 0
 have o1c := zaB hO5 1
 have o2c := zaB hO5 2
 have o3c := zaB hO5 3
 have o4c := zaB hO5 4
 have o5c := zaB hO5 5
 have o6c := zaB hO5 6
 simp only [gzz] at o0c o1c o2c o3c o4c o5c o6c
 obtain ⟨e1,y1,ez,et⟩ := HQ.out
 clear hsz hO5 hX5
 go_wp2_with fail
 have hlow5 := HL4.out.trans HSZ5.out.2.1
 have hkeep5 := HK4.out.trans HSZ5.out.2.2
 have hdl : s.row.dropLast.length = n := by rw [List.length_dropLast,HN.out];rfl
 refine (yaJ B0 g m _ _ s.row.dropLast (s.t.modify p (zlN ((s.t.length : Int) - p))) ⟨o0,p,o2,o3,o4,o5,o6⟩ _ (Nat.le_trans hB0 hlow5.size) (by omega) (fun o ho => HKB.out o (List.dropLast_subset _ ho)) HSZ5.out.1 HTAB.out).mono ?_
 rintro e W6 ⟨rfl,⟨vr6,vt6,hb6,hl6,hk6⟩⟩
 have HB6 := Lib.hid hb6
 have HL6 := Lib.hid (hlow5.trans hl6)
 have HK6 := Lib.hid (hkeep5.trans hk6)
 have hX6 := hk6 _ _ HX5.out rfl
 have x3 := zaB hX6 3
 simp only [gzz] at x3
 rw [Int.toNat_natCast] at HO
 generalize zcW s.row.dropLast ⟨o0,p,o2,o3,o4,o5,o6⟩ = R at *
 obtain ⟨R1,R2⟩ := R
 clear hb6 hl6 hk6 hX6 hlow5 hkeep5 o0c o1c o2c o3c o4c o5c o6c e1 y1 ez et
 cases R2
 all_goals
  go_wp2
  go_ret2
  refine ⟨by rw [HO.out];rfl,?_⟩
  rw [HO.out]
  exact zdU HB6.out HL6.out HK6.out
end Go.Proofs.Ythcmfjpheanphaa.Pr
namespace Go.Proofs.Ythcmfjpheanphaa.Pr
open Go.RowKit Go.Proofs.YthcmfjpheanphaaW.PrintWords
theorem zmI (w : World) (o : Obj) : (w.alloc o).heap[w.heap.size]? = some o := by
 show (w.heap.push o)[w.heap.size]? = some o
 simp
def zyP (g : List Int) (c : Int) : List Int := g.set (c / 64).toNat (bits .or .u64 (g.getD (c / 64).toNat 0) (IntKind.u64.wrap (2 ^ (c % 64).toNat)))
def ofL (g : List Int) (s : ByteArray) : Nat → List Int
 | 0 => g
 | k + 1 => zyP (ofL g s k) (bt s k)
theorem ztP (g : List Int) (s : ByteArray) : ∀ k,(ofL g s k).length = g.length
 | 0 => rfl
 | k + 1 => by simp [ofL,zyP,ztP g s k]
def u64s (g : List Int) : List Value := g.map (.int .u64)
def Arr4 (W : World) (B : Nat) (g : List Int) : Prop := W.heap[B]? = some (.cells (u64s g).toArray 77 (0,0))
theorem Arr4.cell {W : World} {B : Nat} {g : List Int} (h : Arr4 W B g) {i : Nat} (hi : i < g.length) : W.cell? ⟨B,i,none⟩ = some (.int .u64 (g.getD i 0)) := by
 unfold Arr4 at h
 simp [World.cell?,h,u64s,hi]
theorem Arr4.frozen {W : World} {B : Nat} {g : List Int} (h : Arr4 W B g) (i : Nat) : W.frozen? ⟨B,i,none⟩ = false := by
 unfold Arr4 at h
 simp [World.frozen?,h]
theorem Arr4.set {W : World} {B : Nat} {g : List Int} (h : Arr4 W B g) (i : Nat) (x : Int) : Arr4 (W.setCell ⟨B,i,none⟩ (.int .u64 x)) B (g.set i x) := by
 unfold Arr4 at *
 have hb := (Array.getElem?_eq_some_iff.1 h)
 simp only [World.setCell,Array.getElem?_modify,if_pos,h]
 simp [u64s,List.map_set]
theorem yhQ (s : ByteArray) (w : World) (hs : s.size ≤ 9223372036854775807) :
  Calls Try.prog 128 #[.string s] w fun e w' => e = .returned (.agg (u64s (ofL [0,0,0,0] s s.size)).toArray) ∧ Below w.heap.size w w' := by
 go_enter Try.func128,Try.ntmps128
 go_wp2
 go_loopw [7] (fun v wr => ∃ k : Nat,k ≤ s.size ∧ v = .int .i64 k ∧ Below w.heap.size w wr ∧ w.heap.size + 2 ≤ wr.heap.size ∧ Arr4 wr (w.heap.size + 1) (ofL [0,0,0,0] s k) ∧ Arr4 wr w.heap.size [0,0,0,0]) (fun v _ => s.size - (intOf v).toNat)
 case atStart =>
  refine ⟨0,Nat.zero_le _,rfl,((Below.refl _ _).alloc (Nat.le_refl _) _).alloc (by simp) _,by simp,?_,?_⟩
  ·have := zmI (w.alloc (.cells #[.int .u64 0,.int .u64 0,.int .u64 0,.int .u64 0] 77)) (.cells #[.int .u64 0,.int .u64 0,.int .u64 0,.int .u64 0] 77)
   rw [World.size_alloc] at this
   exact this
  ·exact (Below.heap_alloc _ _ _ (by simp)).trans (zmI _ _)
 case round =>
  obtain ⟨k,hk,rfl,hB,hsz,hb,hr⟩ := hrel
  have hlen := ztP [0,0,0,0] s k
  by_cases hlt : k < s.size
  ·obtain ⟨c,hc⟩ : ∃ c : Int,((s[k].toNat : Nat) : Int) = c := ⟨_,rfl⟩
   have hc0 : 0 ≤ c ∧ c < 256 := by rw [← hc];have := s[k].toNat_lt;omega
   have i0 : 0 ≤ c / 64 := by omega
   have i1 : c / 64 < 4 := by omega
   have hcell := hb.cell (i := (c / 64).toNat) (by rw [hlen];simp;omega)
   have hfr := hb.frozen (c / 64).toNat
   have h63 : bits .and .u8 c 63 = c % 64 := u8_and63 c hc0.1 hc0.2
   have i2 : 0 ≤ c % 64 := by omega
   have i3 : c % 64 < 64 := by omega
   clear hlen
   go_wp2
   go_region
   go_wp2
   go_roundw
   case rel =>
    refine ⟨k + 1,by omega,by go_num,?_,by simpa using hsz,?_,?_⟩
    ·exact (hB.setCell (by simp) _).drew
    ·have hs1 := hb.set (c / 64).toNat (bits BinOp.or IntKind.u64 ((ofL [0,0,0,0] s k)[(c / 64).toNat]?.getD 0) (IntKind.u64.wrap (2 ^ (c % 64).toNat)))
     have e : ofL [0,0,0,0] s (k + 1) = (ofL [0,0,0,0] s k).set (c / 64).toNat (bits BinOp.or IntKind.u64 ((ofL [0,0,0,0] s k)[(c / 64).toNat]?.getD 0) (IntKind.u64.wrap (2 ^ (c % 64).toNat))) := by
      have hbt : bt s k = c := by rw [← hc];simp [bt,hlt]
      simp [ofL,zyP,hbt]
     rw [e];exact hs1
    ·have := Below.heap_setCell wr ⟨w.heap.size + 1,(c / 64).toNat,none⟩ (.int .u64 (bits BinOp.or IntKind.u64 ((ofL [0,0,0,0] s k)[(c / 64).toNat]?.getD 0) (IntKind.u64.wrap (2 ^ (c % 64).toNat)))) w.heap.size (by simp)
     exact this.trans hr
   case measure => simp [intOf];omega
  ·obtain rfl : k = s.size := by omega
   obtain ⟨a,b,c,d,hL⟩ : ∃ a b c d,ofL [0,0,0,0] s s.size = [a,b,c,d] := by
    match h : ofL [0,0,0,0] s s.size,hlen with
    | [a,b,c,d],_ => exact ⟨a,b,c,d,rfl⟩
   rw [hL] at hb
   have HL := Lib.hid hL
   clear hL hlen
   have c0 := hb.cell (i := 0) (by simp)
   have c1 := hb.cell (i := 1) (by simp)
   have c2 := hb.cell (i := 2) (by simp)
   have c3 := hb.cell (i := 3) (by simp)
   have r0 := hr.cell (i := 0) (by simp)
   have r1 := hr.cell (i := 1) (by simp)
   have r2 := hr.cell (i := 2) (by simp)
   have r3 := hr.cell (i := 3) (by simp)
   have q0 := hr.frozen 0
   have q1 := hr.frozen 1
   have q2 := hr.frozen 2
   have q3 := hr.frozen 3
   go_wp2
   refine bodyPost_ret (v := .agg #[.int .u64 a,.int .u64 b,.int .u64 c,.int .u64 d]) (by simp [results,Try.results128,go_sem,r0,r1,r2,r3]) rfl ⟨by rw [HL.out];rfl,?_⟩
   exact (((hB.setCell (by simp) _).setCell (by simp) _).setCell (by simp) _).setCell (by simp) _
def cLow : Int := 576460743713488896
def cUp : Int := 134217726
def cDig : Int := 287948901175001088
def cMark : Int := 10088330922161078272
def cSp : Int := 4294967296
def cNl : Int := 1024
theorem of_low : ofL [0,0,0,0] ⟨#[97,98,99,100,101,102,103,104,105,106,107,108,109,110,111,112,113,114,115,116,117,118,119,120,121,122]⟩ 26 = [0,cLow,0,0] := by decide +kernel
theorem of_up : ofL [0,0,0,0] ⟨#[65,66,67,68,69,70,71,72,73,74,75,76,77,78,79,80,81,82,83,84,85,86,87,88,89,90]⟩ 26 = [0,cUp,0,0] := by decide +kernel
theorem of_dig : ofL [0,0,0,0] ⟨#[48,49,50,51,52,53,54,55,56,57]⟩ 10 = [cDig,0,0,0] := by decide +kernel
theorem of_mark : ofL [0,0,0,0] ⟨#[46,44,59,58,33,63,39,34,45,40,41,47]⟩ 12 = [cMark,0,0,0] := by decide +kernel
theorem of_sp : ofL [0,0,0,0] ⟨#[32]⟩ 1 = [cSp,0,0,0] := by decide +kernel
theorem of_nl : ofL [0,0,0,0] ⟨#[10]⟩ 1 = [cNl,0,0,0] := by decide +kernel
theorem of_c {s : ByteArray} {n : Nat} {a b c d : Int} (hn : s.size = n) (h : ofL [0,0,0,0] s n = [a,b,c,d]) (w : World) (hs : s.size ≤ 9223372036854775807) :
  Calls Try.prog 128 #[.string s] w fun e w' => e = .returned (.agg #[.int .u64 a,.int .u64 b,.int .u64 c,.int .u64 d]) ∧ Below w.heap.size w w' := by
 subst hn
 have := yhQ s w hs
 rw [h] at this
 exact this
theorem yaL (w : World) : Calls Try.prog 42 #[] w fun e w' => e = .returned (.string ⟨#[46,44,59,58,33,63,39,34,45,40,41,47]⟩) ∧ w = w' := by
 go_enter Try.func42,Try.ntmps42
 go_wp2
 go_ret
 exact ⟨rfl,rfl⟩
def clsL : List Int := [0,0,0,0,0,cLow,0,0,0,cUp,0,0,cDig,0,0,0,cMark,0,0,0,cSp,0,0,0,cNl,0,0,0]
theorem zxW (w : World) :
  Calls Try.prog 77 #[] w fun e w' => e = .returned (.agg (u64s clsL).toArray) ∧ Below w.heap.size w w' := by
 go_enter Try.func77,Try.ntmps77
 go_wp2_with fail
 refine (of_c (by rfl) of_low _ (by decide)).mono ?_
 rintro e w1 ⟨rfl,hb1⟩
 go_wp2_with fail
 refine (of_c (by rfl) of_up _ (by decide)).mono ?_
 rintro e w2 ⟨rfl,hb2⟩
 go_wp2_with fail
 refine (of_c (by rfl) of_dig _ (by decide)).mono ?_
 rintro e w3 ⟨rfl,hb3⟩
 go_wp2_with fail
 refine (yaL _).mono ?_
 rintro e w4 ⟨rfl,rfl⟩
 go_wp2_with fail
 refine (of_c (by rfl) of_mark _ (by decide)).mono ?_
 rintro e w4 ⟨rfl,hb4⟩
 go_wp2_with fail
 refine (of_c (by rfl) of_sp _ (by decide)).mono ?_
 rintro e w5 ⟨rfl,hb5⟩
 go_wp2_with fail
 refine (of_c (by rfl) of_nl _ (by decide)).mono ?_
 rintro e w6 ⟨rfl,hb6⟩
 have hba := ((((hb1.trans (hb2.mono hb1.size)).trans (hb3.mono (hb1.trans (hb2.mono hb1.size)).size)).trans (hb4.mono ((hb1.trans (hb2.mono hb1.size)).trans (hb3.mono (hb1.trans (hb2.mono hb1.size)).size)).size)))
 have hbb := hba.trans (hb5.mono hba.size)
 have hbc := hbb.trans (hb6.mono hbb.size)
 have hg : w6.heap[w.heap.size]? = some (.cells (u64s (List.replicate 28 0)).toArray 78 (0,0)) := (hbc.block w.heap.size (by simp)).trans (zmI _ _)
 have hbz : Below w.heap.size w w6 := ((Below.refl _ w).alloc (Nat.le_refl _) _).trans (hbc.mono (by simp))
 clear hb1 hb2 hb3 hb4 hb5 hb6 hba hbb hbc
 have Hg := Lib.hid hg
 clear hg
 go_wp2_with (refine wpList_store_row rfl 78 (.tmp 0) (.tmp 8) rfl w.heap.size _ rfl rfl 78 _ Hg.out ?h1 ?h2 ?h3 ?h4)
 case h1 => kernel_rfl
 case h2 => rfl
 case h3 => simp [Value.oneCell']
 case h4 =>
  refine bodyPost_ret (results_cell_row rfl _ _ w.heap.size 78 (u64s clsL).toArray (0,0) _ rfl ?_ Try.underlying78 rfl (by kernel_rfl)) rfl ⟨rfl,?_⟩
  ·exact setRow_heap _ _ _ _ _ _ Hg.out
  ·exact hbz.trans ⟨rfl,rfl,rfl,by simp,fun k hk => by simp only [World.setRow,Array.getElem?_modify];rw [if_neg (by omega)]⟩
def hasB (g : List Int) (c : Int) : Bool := bits .and .u64 (g.getD (c / 64).toNat 0 / 2 ^ (c % 64).toNat) 1 == 1
theorem zwK (a b c d x : Int) (w : World) (hx : 0 ≤ x) (hx1 : x < 256) :
  Calls Try.prog 78 #[.agg #[.int .u64 a,.int .u64 b,.int .u64 c,.int .u64 d],.int .u8 x] w fun e w' => e = .returned (.bool (hasB [a,b,c,d] x)) ∧ Below w.heap.size w w' := by
 have hz : Arr4 (w.alloc (.cells #[.int .u64 a,.int .u64 b,.int .u64 c,.int .u64 d] 77)) w.heap.size [a,b,c,d] := zmI _ _
 have i0 : 0 ≤ x / 64 := by omega
 have i1 : x / 64 < 4 := by omega
 have hcell := hz.cell (i := (x / 64).toNat) (by simp;omega)
 have h63 : bits .and .u8 x 63 = x % 64 := u8_and63 x hx hx1
 have i2 : 0 ≤ x % 64 := by omega
 have i3 : x % 64 < 64 := by omega
 go_enter Try.func78,Try.ntmps78
 go_wp2
 go_ret
 exact ⟨by simp [hasB,List.getD_eq_getElem?_getD,List.getElem?_eq_getElem (show (x / 64).toNat < [a,b,c,d].length by simp;omega)],(Below.refl _ w).alloc (Nat.le_refl _) _⟩
def seg (j : Nat) : List Int := (clsL.drop (4 * j)).take 4
def zmJ (c : Int) : Int := if hasB (seg 0) c then 0 else if hasB (seg 1) c then 1 else if hasB (seg 2) c then 2 else if hasB (seg 3) c then 3 else if hasB (seg 4) c then 4 else if hasB (seg 5) c then 5 else if hasB (seg 6) c then 6 else 0
def zfC (c : Int) : Int := if 97 ≤ c ∧ c ≤ 122 then 1 else if 65 ≤ c ∧ c ≤ 90 then 2 else if 48 ≤ c ∧ c ≤ 57 then 3 else if c = 32 then 5 else if c = 10 then 6
 else if c ∈ [46,44,59,58,33,63,39,34,45,40,41,47] then 4 else 0
theorem ydB : ∀ n : Fin 256,zmJ (n.val : Int) = zfC (n.val : Int) := by decide +kernel
theorem yeZ (c : Int) (h0 : 0 ≤ c) (h1 : c < 256) : zmJ c = zfC c := by
 have := ydB ⟨c.toNat,by omega⟩
 simpa [Int.toNat_of_nonneg h0] using this
theorem yhR (w : World) : (Instr.index 78 (.agg (u64s clsL).toArray) (.int .i64 (0 : Nat))).run Try.prog w = .ok (.agg (u64s (seg 0)).toArray) w := by kernel_rfl
theorem yhS (w : World) : (Instr.index 78 (.agg (u64s clsL).toArray) (.int .i64 (1 : Nat))).run Try.prog w = .ok (.agg (u64s (seg 1)).toArray) w := by kernel_rfl
theorem yhT (w : World) : (Instr.index 78 (.agg (u64s clsL).toArray) (.int .i64 (2 : Nat))).run Try.prog w = .ok (.agg (u64s (seg 2)).toArray) w := by kernel_rfl
theorem yhU (w : World) : (Instr.index 78 (.agg (u64s clsL).toArray) (.int .i64 (3 : Nat))).run Try.prog w = .ok (.agg (u64s (seg 3)).toArray) w := by kernel_rfl
theorem yhV (w : World) : (Instr.index 78 (.agg (u64s clsL).toArray) (.int .i64 (4 : Nat))).run Try.prog w = .ok (.agg (u64s (seg 4)).toArray) w := by kernel_rfl
theorem yhW (w : World) : (Instr.index 78 (.agg (u64s clsL).toArray) (.int .i64 (5 : Nat))).run Try.prog w = .ok (.agg (u64s (seg 5)).toArray) w := by kernel_rfl
theorem yhX (w : World) : (Instr.index 78 (.agg (u64s clsL).toArray) (.int .i64 (6 : Nat))).run Try.prog w = .ok (.agg (u64s (seg 6)).toArray) w := by kernel_rfl
theorem idx_run (j : Nat) (hj : j < 7) (w : World) : (Instr.index 78 (.agg (u64s clsL).toArray) (.int .i64 j)).run Try.prog w = .ok (.agg (u64s (seg j)).toArray) w := by
 have hj' : j = 0 ∨ j = 1 ∨ j = 2 ∨ j = 3 ∨ j = 4 ∨ j = 5 ∨ j = 6 := by omega
 rcases hj' with rfl | rfl | rfl | rfl | rfl | rfl | rfl
 ·exact yhR w
 ·exact yhS w
 ·exact yhT w
 ·exact yhU w
 ·exact yhV w
 ·exact yhW w
 exact yhX w
theorem yhY (j : Nat) (hj : j < 7) : ∃ a b c d,seg j = [a,b,c,d] := by
 have hj' : j = 0 ∨ j = 1 ∨ j = 2 ∨ j = 3 ∨ j = 4 ∨ j = 5 ∨ j = 6 := by omega
 rcases hj' with rfl | rfl | rfl | rfl | rfl | rfl | rfl
 all_goals exact ⟨_,_,_,_,rfl⟩
theorem yfA (x : Int) (k : Nat) (hk : k < 7) (h : hasB (seg k) x = true) (hno : ∀ j,j < k → hasB (seg j) x = false) : zmJ x = k := by
 have hj' : k = 0 ∨ k = 1 ∨ k = 2 ∨ k = 3 ∨ k = 4 ∨ k = 5 ∨ k = 6 := by omega
 unfold zmJ
 rcases hj' with rfl | rfl | rfl | rfl | rfl | rfl | rfl
 ·rw [h];rfl
 ·rw [h,hno 0 (by omega)];rfl
 ·rw [h,hno 0 (by omega),hno 1 (by omega)];rfl
 ·rw [h,hno 0 (by omega),hno 1 (by omega),hno 2 (by omega)];rfl
 ·rw [h,hno 0 (by omega),hno 1 (by omega),hno 2 (by omega),hno 3 (by omega)];rfl
 ·rw [h,hno 0 (by omega),hno 1 (by omega),hno 2 (by omega),hno 3 (by omega),hno 4 (by omega)];rfl
 rw [h,hno 0 (by omega),hno 1 (by omega),hno 2 (by omega),hno 3 (by omega),hno 4 (by omega),hno 5 (by omega)];rfl
theorem yfB (x : Int) (hno : ∀ j,j < 7 → hasB (seg j) x = false) : zmJ x = 0 := by
 unfold zmJ
 rw [hno 0 (by omega),hno 1 (by omega),hno 2 (by omega),hno 3 (by omega),hno 4 (by omega),hno 5 (by omega),hno 6 (by omega)];rfl
theorem yaM (x : Int) (w : World) (hx : 0 ≤ x) (hx1 : x < 256) :
  Calls Try.prog 24 #[.int .u8 x] w fun e w' => e = .returned (.int .i64 (zmJ x)) ∧ Below w.heap.size w w' := by
 go_enter Try.func24,Try.ntmps24
 go_wp2_with (go_at_call 77;refine (zxW _).mono ?_;rintro e w1 ⟨rfl,hb1⟩)
 generalize hv : (Value.agg (u64s clsL).toArray) = V5
 have HV := Lib.hid hv
 clear hv
 go_loopw [6] (fun v wr => ∃ k : Nat,k ≤ 7 ∧ v = .int .i64 k ∧ Below w.heap.size w wr ∧ ∀ j,j < k → hasB (seg j) x = false) (fun v _ => 7 - (intOf v).toNat)
 case atStart => exact ⟨0,by omega,rfl,hb1,fun j hj => by omega⟩
 case round =>
  obtain ⟨k,hk,rfl,hB,hno⟩ := hrel
  have Hno := Lib.hid hno
  clear hno
  by_cases hlt : k < 7
  ·have hix := fun w => idx_run k hlt w
   rw [HV.out] at hix
   have hlt2 : decide ((k : Int) < 7) = true := by simp;omega
   obtain ⟨a,b,c,d,hs⟩ := yhY k hlt
   rw [hs] at hix
   have hix' : ∀ (w : World),Sem.run Try.prog (Instr.index 78 V5 (Value.int IntKind.i64 ↑k)) w = Result.ok (.agg #[.int .u64 a,.int .u64 b,.int .u64 c,.int .u64 d]) w := hix
   clear hix
   have HS := Lib.hid hs
   clear hs
   cases hh : hasB (seg k) x with
   | true =>
    have HH := Lib.hid hh
    clear hh
    have hc2 := fun w => zwK a b c d x w hx hx1
    rw [← HS.out,HH.out] at hc2
    have HC2 := Lib.hid hc2
    clear hc2
    go_wp2_with (go_at_call 78;refine (HC2.out _).mono ?_;rintro e w2 ⟨rfl,hb2⟩)
    go_ret
    exact ⟨by rw [yfA x k hlt HH.out Hno.out];rfl,(hB.alloc hB.size _).trans (hb2.mono (by simp;exact Nat.le_succ_of_le hB.size))⟩
   | false =>
    have HH := Lib.hid hh
    clear hh
    have hc2 := fun w => zwK a b c d x w hx hx1
    rw [← HS.out,HH.out] at hc2
    have HC2 := Lib.hid hc2
    clear hc2
    go_wp2_with (go_at_call 78;refine (HC2.out _).mono ?_;rintro e w2 ⟨rfl,hb2⟩)
    go_roundw
    case rel =>
     refine ⟨k + 1,by omega,by go_num,(hB.alloc hB.size _).trans (hb2.mono (by simp;exact Nat.le_succ_of_le hB.size)),fun j hj => ?_⟩
     rcases Nat.lt_or_ge j k with h | h
     ·exact Hno.out j h
     ·obtain rfl : j = k := by omega
      exact HH.out
    case measure => simp [intOf];omega
  ·have hlt2 : decide ((k : Int) < 7) = false := by simp;omega
   go_wp2
   go_ret
   obtain rfl : k = 7 := by omega
   exact ⟨by rw [yfB x Hno.out];rfl,hB⟩
def chars_Class.f (a0 : Int) : Option Int := if 0 ≤ a0 ∧ a0 < 256 then some (zfC a0) else none
theorem chars_Class.calls (a0 : Int) (r : Int) (w : World) (h : chars_Class.f a0 = some r) :
  Calls Try.prog 24 #[.int .u8 a0] w fun e w' => e = .returned (.int .i64 r) ∧ Below w.heap.size w w' := by
 unfold chars_Class.f at h
 split at h
 ·rename_i hc
  obtain rfl := Option.some.inj h
  rw [← yeZ a0 hc.1 hc.2]
  exact yaM a0 w hc.1 hc.2
 cases h
end Go.Proofs.Ythcmfjpheanphaa.Pr
namespace Go.Proofs.Ythcmfjpheanphaa.Pr
open Go.RowKit Go.Proofs.YthcmfjpheanphaaW.PrintWords Go.Proofs.YthcmfjpheanphaaW.PrintLast Go.Proofs.YthcmfjpheanphaaW.PrintMore
attribute [local go_sem] zaX zaY zbG zbI zaV zaW zaZ zbA
theorem eqA27 (d : Nat) (w : World) (x0 y0 : Int) (x1 y1 : ByteArray) :
  (Op.equalIn (d + 2) 27 (.agg #[.int .i64 x0,.string x1]) (.agg #[.int .i64 y0,.string y1])).run Try.prog w = .ok (x0 == y0 && (x1.toList == y1.toList)) w := by
 refine yeL Try.underlying27 (by kernel_rfl) ?_
 refine zoN (by rfl) (by go_simp;rfl) (by go_simp;rfl) (by go_simp) ?_
 exact zyL (by rfl) (by go_simp;rfl) (by go_simp;rfl) (by go_simp)
end Go.Proofs.Ythcmfjpheanphaa.Pr
namespace Go.Proofs.Ythcmfjpheanphaa.Pr
open Go.RowKit Go.Shelf Go.Proofs.YthcmfjpheanphaaW.PrintWords
attribute [local go_sem] Oper.semAt_some
def ztQ (s : ByteArray) (i : Nat) : Int := zfC (bt s i)
def runTo (s : ByteArray) (c : Int) : Nat → Nat → Nat
 | 0,q => q
 | d + 1,q => if q < s.size ∧ ztQ s q = c then runTo s c d (q + 1) else q
def runsL (s : ByteArray) : Nat → Nat → List S27
 | 0,_ => []
 | d + 1,i => if i < s.size then
   ⟨i,s.extract i (runTo s (ztQ s i) s.size (i + 1))⟩ :: runsL s d (runTo s (ztQ s i) s.size (i + 1)) else []
def KB (B : Nat) (W W' : World) : Prop := W'.heap[B]? = W.heap[B]?
theorem yaN {W W' : World} {B : Nat} {t : TypeId} {v : Value} (h : Boxed W B t v) (hk : KB B W W') : Boxed W' B t v := Eq.trans hk h
theorem zsB {W W' : World} {B : Nat} {t : TypeId} {v : Value} (h : Boxed W B t v) (hb : Below W.heap.size W W') : Boxed W' B t v := h.kept (ziD hb none) (by simp)
theorem zlQ {β : Type} (B : Nat) (t : TypeId) (v : Value) : Own (fun (_ : β) W => Boxed W B t v) := boxed_own B t (fun _ => v)
theorem yfC (w : World) (cs : List Value) (t : TypeId) : ∀ j u,cs[j]? = some u → (w.alloc (.cells cs.toArray t)).cell? ((⟨w.heap.size,0,none⟩ : Addr).add j) = some u := by
 intro j u hj
 rw [zbR]
 simp only [World.cell?,zmI]
 simpa using hj
def styluslaw01_runs.f (a0 : ByteArray) : Option (List S27 × Bool) := if a0.size ≤ 1000000 then some (runsL a0 a0.size 0,true) else none
def zoP : List S27 → Int → Int → Bool → Option (Int × Int × Bool)
 | [],sm,rs,fi => some (sm,rs,fi)
 | x :: xs,sm,rs,fi =>
  if zfC (bt x.f1 0) = 1 then zoP xs (sm + x.f1.size) rs fi
  else if zfC (bt x.f1 0) = 2 then (if x.f0 = 0 then zoP xs sm (rs + x.f1.size - 1) true else zoP xs sm (rs + x.f1.size) fi)
  else none
def caseOut (s : ByteArray) : Option (Int × Int × Bool) → Int
 | none => 0
 | some (sm,rs,fi) => if s.size = 0 then 0 else if sm = s.size then 1 else if fi = true ∧ rs = 0 then 2 else if sm = 0 then 3 else 4
theorem ydC {W : World} {B : Nat} {t : TypeId} {v : Value} (h : Boxed W B t v) : Boxed W.drew B t v := h
theorem zeR (s : ByteArray) : s.toList.isEmpty = decide (s.size = 0) := by
 rw [ByteArray.toList_eq]
 cases h : s.data.toList with
 | nil =>
  have : s.size = 0 := by
   show s.data.size = 0
   rw [← Array.length_toList,h];rfl
  rw [this];rfl
 | cons a l =>
 have : s.size = l.length + 1 := by
  show s.data.size = _
  rw [← Array.length_toList,h];rfl
 rw [this];rfl
def chars_Case.f (a0 : ByteArray) : Option Int := if a0.size ≤ 1000000 then some (caseOut a0 (zoP (runsL a0 a0.size 0) 0 0 false)) else none
end Go.Proofs.Ythcmfjpheanphaa.Pr
