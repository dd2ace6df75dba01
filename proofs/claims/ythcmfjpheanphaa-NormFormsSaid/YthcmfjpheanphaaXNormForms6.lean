/- Texts of this seat, one behind the other. -/
import Derived.Test.YthcmfjpheanphaaXNormForms5
set_option linter.unusedVariables false
set_option linter.unusedSimpArgs false
set_option maxHeartbeats 16000000
set_option maxRecDepth 100000
namespace Go.Proofs.Ythcmfjpheanphaa.Pr
open Go.RowKit Go.Proofs.YthcmfjpheanphaaW.PrintWords Go.Proofs.YthcmfjpheanphaaW.PrintLast Go.Proofs.YthcmfjpheanphaaW.PrintMore
attribute [local go_sem] zaX zaY zbG zbI zaV zaW zaZ zbA
mutual
def zbH : Nat → List (S47) → List Int → List (S56) → Int → Int → Option ((List (S47)))
 | 0,_,_,_,_,_ => none
 | k + 1,x3,x4,x7,x8,x9 => if x9 < x8 then (if 0 ≤ x9 then (if x9 < (x7.length : Int) then (zdM k x3 x4 x9 x7 x8 x9 ((zaA x7 x9).f0) ((zaA x7 x9).f1) ((zaA x7 x9).f2) ((zaA x7 x9).f3)) else (none)) else (none)) else (zeG k x3 (x4.length : Int) 0)
def zdM : Nat → List (S47) → List Int → Int → List (S56) → Int → Int → Int → ByteArray → Int → Int → Option ((List (S47)))
 | 0,_,_,_,_,_,_,_,_,_,_ => none
 | k + 1,x3,x4,x5,x7,x8,x9,x236000,x236001,x236002,x236003 => if (x4.length : Int) > 0 then (if 0 ≤ (wrap64 ((x4.length : Int) - 1)) then (if (wrap64 ((x4.length : Int) - 1)) < (x4.length : Int) then (if (rd x4 (wrap64 ((x4.length : Int) - 1))) = x5 then ((some (([(⟨3,0,(⟨#[]⟩ : ByteArray),0⟩ : S47)] : List (S47)) : List (S47))).bind fun y237 => (if x3.length + y237.length < 3518437208883 then (if (wrap64 ((x4.length : Int) - 1)) ≤ (x4.length : Int) then (zdM k (x3 ++ y237) (x4.take ((wrap64 ((x4.length : Int) - 1)) : Int).toNat) x5 x7 x8 x9 x236000 x236001 x236002 x236003) else (none)) else (none))) else (if x236000 = 46 then ((some (([(⟨1,0,x236001,0⟩ : S47)] : List (S47)) : List (S47))).bind fun y246 => (if x3.length + y246.length < 3518437208883 then (zbH k (x3 ++ y246) x4 x7 x8 (wrap64 (x9 + 1))) else (none))) else ((some (([(⟨2,x236000,(⟨#[]⟩ : ByteArray),0⟩ : S47)] : List (S47)) : List (S47))).bind fun y252 => (if x3.length + y252.length < 3518437208883 then ((some (([wrap64 (x5 + x236003)] : List Int) : List Int)).bind fun y258 => (if x4.length + y258.length < 17592186044416 then (zbH k (x3 ++ y252) (x4 ++ y258) x7 x8 (wrap64 (x9 + 1))) else (none))) else (none))))) else (none)) else (none)) else (if x236000 = 46 then ((some (([(⟨1,0,x236001,0⟩ : S47)] : List (S47)) : List (S47))).bind fun y264 => (if x3.length + y264.length < 3518437208883 then (zbH k (x3 ++ y264) x4 x7 x8 (wrap64 (x9 + 1))) else (none))) else ((some (([(⟨2,x236000,(⟨#[]⟩ : ByteArray),0⟩ : S47)] : List (S47)) : List (S47))).bind fun y270 => (if x3.length + y270.length < 3518437208883 then ((some (([wrap64 (x5 + x236003)] : List Int) : List Int)).bind fun y276 => (if x4.length + y276.length < 17592186044416 then (zbH k (x3 ++ y270) (x4 ++ y276) x7 x8 (wrap64 (x9 + 1))) else (none))) else (none))))
def zeG : Nat → List (S47) → Int → Int → Option ((List (S47)))
 | 0,_,_,_ => none
 | k + 1,x3,x60,x61 => if x61 < x60 then ((some (([(⟨3,0,(⟨#[]⟩ : ByteArray),0⟩ : S47)] : List (S47)) : List (S47))).bind fun y282 => (if x3.length + y282.length < 3518437208883 then (zeG k (x3 ++ y282) x60 (wrap64 (x61 + 1))) else (none))) else (some x3)
end
def ziI (k : Nat) (x3 : List S47) (x4 : List Int) (x5 : Int) (x7 : List S56) (x8 x9 x236000 : Int) (x236001 : ByteArray) (x236003 : Int) : Option (List S47) := (if x236000 = 46 then ((some (([(⟨1,0,x236001,0⟩ : S47)] : List (S47)) : List (S47))).bind fun y264 => (if x3.length + y264.length < 3518437208883 then (zbH k (x3 ++ y264) x4 x7 x8 (wrap64 (x9 + 1))) else (none))) else ((some (([(⟨2,x236000,(⟨#[]⟩ : ByteArray),0⟩ : S47)] : List (S47)) : List (S47))).bind fun y270 => (if x3.length + y270.length < 3518437208883 then ((some (([wrap64 (x5 + x236003)] : List Int) : List Int)).bind fun y276 => (if x4.length + y276.length < 17592186044416 then (zbH k (x3 ++ y270) (x4 ++ y276) x7 x8 (wrap64 (x9 + 1))) else (none))) else (none))))
def tree_events.f (k : Nat) (l0 : List (S56)) : Option ((List (S47))) := zbH k ([] : List (S47)) ([] : List Int) l0 (l0.length : Int) 0
def zoB : Bool × List (List Nat × List Nat) := (true,[([],[]),([],[]),([1],[1]),([0,2],[0,2]),([],[]),([],[]),([5],[5]),([6],[6]),([4,7],[4,7]),([3,3,0,1,2,3],[0,3]),([8,9,0,1,2,3,4,5,6,7,8,9],[4,5,8])])
def zvR : List Nat := [0,0,2,7,0,0,32,96,240,15,1023]
theorem zsQ : rtab .any (zyG Try.f103 7) = zoB := by kernel_rfl
theorem zrT : zjF zoB.2 zvR = true := by kernel_rfl
def znB : Bool × List (List Nat × List Nat) := (true,[([],[]),([],[]),([1],[1]),([2],[2]),([3],[3]),([0,4],[0,4]),([],[]),([],[]),([],[]),([8],[8]),([7,9],[7,9]),([10],[10]),([6,11,5],[6,11]),([5,12,0,1,2,3,4,5],[0,5]),([12,13,0,1,2,3,4,5,6,7,8,9,10,11,12,13],[6,12])])
def ztW : List Nat := [0,0,2,6,14,31,0,0,0,256,896,1920,4095,8191,16383]
theorem zrU : rtab .any (zyG Try.f103 10) = znB := by kernel_rfl
theorem zpX : zjF znB.2 ztW = true := by kernel_rfl
theorem tree_events.calls (k : Nat) (A0 : Option Addr) (c0 : Nat) (l0 : List (S56)) (r : List (S47)) (w : World) (hr0 : Kd.C k56 w A0 l0.length l0) (hc0 : l0.length ≤ c0) (h : tree_events.f k l0 = some r) :
  Calls Try.prog 103 #[.slice A0 l0.length c0] w fun e w' => ∃ v0_ : Value,e = .returned (v0_) ∧ Kd.R k47 47 w' w.heap.size (fun _ => True) v0_ r ∧ Below w.heap.size w w' := by
 have hu56 := Try.underlying56
 have hu47 := Try.underlying47
 have HR0 := Aside0.mk hr0
 have HC0 := Aside0.mk hc0
 clear hr0 hc0
 have HB := Aside0.mk (Below.refl w.heap.size w)
 have H : (zbH k ([] : List (S47)) ([] : List Int) l0 (l0.length : Int) 0) = some r := h
 clear h
 have H' := Aside0.mk H
 clear H
 go_enter Try.func103,Try.ntmps103
 go_wp2
 go_loopg [3,4,9] k (fun kq v3 v4 v9 w' => ∃ (x3_1 : List (S47)) (x4_1 : List Int) (x9_1 : Int),v9 = .int .i64 x9_1 ∧ Aside0 (zbH kq x3_1 x4_1 l0 (l0.length : Int) x9_1 = some r) ∧ Aside0 (kq ≤ k) ∧ Aside0 (Kd.R k47 47 w' w.heap.size (fun _ => True) v3 x3_1) ∧ Aside0 (Kd.R (Kd.int .i64) 3 w' w.heap.size (fun _ => True) v4 x4_1) ∧ Aside0 (Below w.heap.size w w'))
 case atStart => exact ⟨(([] : List (S47))),(([] : List Int)),(0),qS,H',⟨Nat.le_refl _⟩,⟨qN⟩,⟨qN⟩,⟨qB⟩⟩
 clear H'
 obtain ⟨x3_1,x4_1,x9_1,rfl,HA,HK1,HO_3,HO_4,HB⟩ := hrel
 cases gk with
 | zero => exact absurd HA.out (by simp [zbH])
 | succ k1 =>
 have H := HA.out
 clear HA
 simp only [zbH] at H
 obtain ⟨c2b0,H⟩ | ⟨c2b0,H⟩ := spD H
 rotate_left
 ·have H' := Aside0.mk H
  clear H
  obtain ⟨Ao67,co67,eo67⟩ := Kd.R_slice HO_4.out
  subst eo67
  go_wp2
  go_loopg [3,61] k1 (fun kq v3 v61 w' => ∃ (x3_2 : List (S47)) (x61_2 : Int),v61 = .int .i64 x61_2 ∧ Aside0 (zeG kq x3_2 (x4_1.length : Int) x61_2 = some r) ∧ Aside0 (kq ≤ k1) ∧ Aside0 (Kd.R k47 47 w' w.heap.size (fun _ => True) v3 x3_2) ∧ Aside0 (Below w.heap.size w w'))
  case atStart => exact ⟨(x3_1),(0),qS,H',⟨Nat.le_refl _⟩,⟨qR HO_3⟩,⟨qB⟩⟩
  clear H'
  obtain ⟨x3_2,x61_2,rfl,HA,HK2,HO_3,HB⟩ := hrel
  cases gk with
  | zero => exact absurd HA.out (by simp [zeG])
  | succ k2 =>
  have H := HA.out
  clear HA
  simp only [zeG] at H
  obtain ⟨c68b0,H⟩ | ⟨c68b0,H⟩ := spD H
  rotate_left
  ·obtain rfl := Option.some.inj H
   go_wp2
   go_ret
   exact ⟨_,qE,qR HO_3,qB⟩
  obtain ⟨y282,Ny282,H⟩ := bsA H
  obtain ⟨LMc69,H⟩ := spL H
  obtain ⟨y285,hy285⟩ : ∃ y_ : List (S47),y_ = (x3_2 ++ y282) := ⟨_,rfl⟩
  replace H : (zeG k2 y285 (x4_1.length : Int) (wrap64 (x61_2 + 1))) = some r := by first | (rw [hy285];with_reducible exact H) | (have H2_ := (Option.bind_some _ _).symm.trans H;rw [hy285];with_reducible exact H2_) | (have H2_ := (Option.bind_some _ _).symm.trans H;with_reducible exact H2_) | with_reducible exact H | (rw [hy285];exact H) | exact H
  have Ny285 := Aside0.mk hy285
  clear hy285
  have H' := Aside0.mk H
  clear H
  go_wp2_with (first | ((with_reducible refine zdT (N := 65) rfl ?_);(try (refine zeP (by rfl) ?_;dsimp only));refine Kd.R_lit k47 _ 47 ?hg (N := 65) ?hd (xs := ([(⟨3,0,(⟨#[]⟩ : ByteArray),0⟩ : S47)] : List (S47))) (inner := [.int .i64 3,.int .u8 0,.string (⟨#[]⟩ : ByteArray),.int .i64 0]) (ok := fun _ => True) (okp := fun _ => True) ?hr ?hp (fun _ hk => hk) trivial (Below.refl _ _) (Nat.le_refl _) (by simp) ?_;(case hd => rfl);(case hg => rfl);(case hr => first | (go_simp;done) | (go_simp;rfl));(case hp => exact (znX (show Kd.M k47 _ _ _ (⟨3,0,(⟨#[]⟩ : ByteArray),0⟩ : S47) [.int .i64 3,.int .u8 0,.string (⟨#[]⟩ : ByteArray),.int .i64 0] from (ziE _ _ _ (⟨3,0,(⟨#[]⟩ : ByteArray),0⟩ : S47) )) (Reps.none _ _)));intro v283 w70 ho71 hb hg_ hnew_;clear hg_ hnew_;(first | rw [← Ny282.out] at ho71 | (simp only [Int.reduceToNat] at ho71;rw [← Ny282.out] at ho71));obtain ⟨_,_,_⟩ := a3 (Kd.R_elder' (qR HO_3) (Kd.R_base ho71) hb) (Kd.R_lower (Kd.R_new' ho71 (Kd.R_lt (qR HO_3))) (zaF qB)) (zaD qB hb);clear HO_3 HB hb ho71;rename_i HO_3 HO284 HB;obtain ⟨Ao73,co73,eo73⟩ := Kd.R_slice HO284.out;subst eo73) | ((with_reducible refine zcJ (b := .append) (xs := #[.tmp 63,.tmp 65]) rfl ?_);(try (refine zeP (by rfl) ?_;dsimp only));at_builtin;refine Kd.R_append_rows k47 (w0 := w) w.heap.size rfl (.tmp 63) (.tmp 65) 41 47 (.agg #[(.int .i64 0),(.int .u8 0),(.string ⟨#[]⟩),(.int .i64 0)]) 40 rfl Try.underlying41 zhR rfl (by decide) (by omega) u3 x3_2 y282 _ _ _ (fun k_ => some k_ ≠ (.slice Ao73 y282.length co73 : Value).ownBlock) (fun _ => False) rfl rfl ?aO ?aR (fun _ _ h => h) (fun _ h => h.elim) ?aF ?aB ?aS ?aL ?_;(case aR => exact qC ((Kd.R_reads' HO284.out).2.2));(case aB => exact qB);(case aF => exact (fun k_ hk => Kd.fresh' (Kd.R_lt (qR HO284)) k_ hk));(case aO => exact qRa HO_3);(case aS => exact (zaF qB));(case aL => have := LMc69.out;omega);intro v286 w72 ho hb hg hat;rw [← Ny285.out] at ho;obtain ⟨_,_,_⟩ := a3 (Kd.R_after (ok := (fun _ => True)) (qR HO284) hg hat) hb ho;clear HO284 HB HO_3 ho hb hg hat;rename_i HO284 HB HO287))
  go_roundg k2
  case measure => have := HK1.out;have := HK2.out;omega
  case rel => exact ⟨(y285),(wrap64 (x61_2 + 1)),qS,H',⟨by have := HK1.out;have := HK2.out;omega⟩,⟨qRb HO287⟩,⟨qB⟩⟩
 obtain ⟨c3b0,H⟩ := spN H
 obtain ⟨c4,H⟩ := spG H
 have c4b0 : decide (x9_1 < (l0.length : Int)) = true := decide_eq_true c4
 clear c4
 have H' := Aside0.mk H
 clear H
 obtain ⟨ad234,e234,p234,q234,hx234_0,hx234_1,hx234_2,hx234_3⟩ := aT56 HR0 HB x9_1
 cases e234
 go_upto_block 2 with (first | ((with_reducible refine zdT (N := 6) rfl ?_);(try (refine zeP (by rfl) ?_;dsimp only));refine zeW ?hg (N := 6) ?hd (cs := #[.int .u8 0,.string (⟨#[]⟩ : ByteArray),.int .i64 0,.int .i64 0]) (t := 56) ?hr ?_;(case hd => rfl);(case hg => rfl);(case hr => first | (go_simp;done) | (go_simp;rfl));intro gb235 hg w5 hbox hb;obtain ⟨_,_,_,_,_⟩ := a5 (Kd.R_below (qR HO_3) hb) (Kd.R_below (qR HO_4) hb) (zaD qB hb) hbox ((by rw [hg];exact (zaF qB) : w.heap.size ≤ gb235));clear HO_3 HO_4 HB hb hbox hg;rename_i HO_3 HO_4 HB BK235 GW235;have GE235 := GW235;obtain ⟨_,_,_,_,_,_,_,_⟩ := zfA BK235.out))
 go_cut [3,4] (fun v3 v4 wc => ∃ (kq : Nat) (x3_2 : List (S47)) (x4_2 : List Int),Aside0 (ziI kq x3_2 x4_2 x9_1 l0 (l0.length : Int) x9_1 ((zaA l0 x9_1).f0) ((zaA l0 x9_1).f1) ((zaA l0 x9_1).f3) = some r) ∧ Aside0 (kq + 1 ≤ k1) ∧ Aside0 (Kd.R k47 47 wc w.heap.size (fun _ => True) v3 x3_2) ∧ Aside0 (Kd.R (Kd.int .i64) 3 wc w.heap.size (fun _ => True) v4 x4_2) ∧ Aside0 (wc.heap[gb235]? = some (.cells #[.int .u8 ((zaA l0 x9_1).f0),.string ((zaA l0 x9_1).f1),.int .i64 ((zaA l0 x9_1).f2),.int .i64 ((zaA l0 x9_1).f3)] 56 (0,0))) ∧ Aside0 (Below w.heap.size w wc))
 case first =>
  go_wp2
  go_loopg [3,4] k1 (fun kq v3 v4 w' => ∃ (x3_2 : List (S47)) (x4_2 : List Int),Aside0 (zdM kq x3_2 x4_2 x9_1 l0 (l0.length : Int) x9_1 ((zaA l0 x9_1).f0) ((zaA l0 x9_1).f1) ((zaA l0 x9_1).f2) ((zaA l0 x9_1).f3) = some r) ∧ Aside0 (kq ≤ k1) ∧ Aside0 (Kd.R k47 47 w' w.heap.size (fun _ => True) v3 x3_2) ∧ Aside0 (Kd.R (Kd.int .i64) 3 w' w.heap.size (fun _ => True) v4 x4_2) ∧ Aside0 (w'.heap[gb235]? = some (.cells #[.int .u8 ((zaA l0 x9_1).f0),.string ((zaA l0 x9_1).f1),.int .i64 ((zaA l0 x9_1).f2),.int .i64 ((zaA l0 x9_1).f3)] 56 (0,0))) ∧ Aside0 (Below w.heap.size w w'))
  case atStart => exact ⟨(x3_1),(x4_1),H',⟨Nat.le_refl _⟩,⟨qX HO_3 BK235⟩,⟨qX HO_4 BK235⟩,⟨qK BK235⟩,⟨qG GE235⟩⟩
  clear H'
  obtain ⟨x3_2,x4_2,HA,HK2,HO_3,HO_4,BK235,HB⟩ := hrel
  cases gk with
  | zero => exact absurd HA.out (by simp [zdM])
  | succ k2 =>
  have H := HA.out
  clear HA
  simp only [zdM] at H
  by_cases c7 : (x4_2.length : Int) > 0
  rotate_left
  ·rw [if_neg c7] at H
   have c7b0 : decide (0 < (x4_2.length : Int)) = false := decide_eq_false c7
   have c7b1 : decide (0 < x4_2.length) = false := decide_eq_false (by omega)
   clear c7
   have H' := Aside0.mk (show ziI k2 x3_2 x4_2 x9_1 l0 (l0.length : Int) x9_1 ((zaA l0 x9_1).f0) ((zaA l0 x9_1).f1) ((zaA l0 x9_1).f3) = some r from H)
   clear H
   obtain ⟨Ao46,co46,eo46⟩ := Kd.R_slice HO_4.out
   subst eo46
   obtain ⟨_,_,_,_,_,_,_,_⟩ := zfA BK235.out
   go_wp2
   go_meet
   case rel => exact ⟨k2,x3_2,x4_2,H',HK2,⟨qR HO_3⟩,⟨qR HO_4⟩,⟨qK BK235⟩,⟨qG GE235⟩⟩
  rw [if_pos c7] at H
  have c7b0 : decide (0 < (x4_2.length : Int)) = true := decide_eq_true c7
  have c7b1 : decide (0 < x4_2.length) = true := decide_eq_true (by omega)
  clear c7
  obtain ⟨ji8,hji8⟩ : ∃ j_ : Int,(wrap64 ((x4_2.length : Int) - 1)) = j_ := ⟨_,rfl⟩
  replace H : (if 0 ≤ (ji8) then (if (ji8) < (x4_2.length : Int) then (if (rd x4_2 (ji8)) = x9_1 then ((some (([(⟨3,0,(⟨#[]⟩ : ByteArray),0⟩ : S47)] : List (S47)) : List (S47))).bind fun y237 => (if x3_2.length + y237.length < 3518437208883 then (if (ji8) ≤ (x4_2.length : Int) then (zdM k2 (x3_2 ++ y237) (x4_2.take ((ji8) : Int).toNat) x9_1 l0 (l0.length : Int) x9_1 ((zaA l0 x9_1).f0) ((zaA l0 x9_1).f1) ((zaA l0 x9_1).f2) ((zaA l0 x9_1).f3)) else (none)) else (none))) else (if ((zaA l0 x9_1).f0) = 46 then ((some (([(⟨1,0,((zaA l0 x9_1).f1),0⟩ : S47)] : List (S47)) : List (S47))).bind fun y246 => (if x3_2.length + y246.length < 3518437208883 then (zbH k2 (x3_2 ++ y246) x4_2 l0 (l0.length : Int) (wrap64 (x9_1 + 1))) else (none))) else ((some (([(⟨2,((zaA l0 x9_1).f0),(⟨#[]⟩ : ByteArray),0⟩ : S47)] : List (S47)) : List (S47))).bind fun y252 => (if x3_2.length + y252.length < 3518437208883 then ((some (([wrap64 (x9_1 + ((zaA l0 x9_1).f3))] : List Int) : List Int)).bind fun y258 => (if x4_2.length + y258.length < 17592186044416 then (zbH k2 (x3_2 ++ y252) (x4_2 ++ y258) l0 (l0.length : Int) (wrap64 (x9_1 + 1))) else (none))) else (none))))) else (none)) else (none)) = some r := by first | (rw [hji8] at H;exact H) | (simp only [hji8] at H ⊢;exact H)
  have hji8w : (IntKind.i64.wrap ((x4_2.length : Int) - 1)) = ji8 := (zaO _).trans hji8
  obtain ⟨c9b0,H⟩ := spN H
  obtain ⟨c10b0,H⟩ := spN H
  obtain ⟨c11b0,c11b1,H⟩ | ⟨c11b0,c11b1,H⟩ := spE H
  rotate_left
  ·have H' := Aside0.mk (show ziI k2 x3_2 x4_2 x9_1 l0 (l0.length : Int) x9_1 ((zaA l0 x9_1).f0) ((zaA l0 x9_1).f1) ((zaA l0 x9_1).f3) = some r from H)
   clear H
   obtain ⟨Ao23,co23,eo23⟩ := Kd.R_slice HO_4.out
   subst eo23
   have p236 : 0 ≤ ((ji8) : Int) := qD
   have q236 : (ji8) < (x4_2.length : Int) := qD
   obtain ⟨ad236,e236,hx236_0⟩ := Kd.at_int (Kd.R_reads' HO_4.out).2.2 (ji8) p236 q236
   cases e236
   replace p236 := eq_true p236
   replace q236 := eq_true q236
   obtain ⟨_,_,_,_,_,_,_,_⟩ := zfA BK235.out
   go_wp2
   go_meet
   case rel => exact ⟨k2,x3_2,x4_2,H',HK2,⟨qR HO_3⟩,⟨qR HO_4⟩,⟨qK BK235⟩,⟨qG GE235⟩⟩
  obtain ⟨y237,Ny237,H⟩ := bsA H
  obtain ⟨LMc12,H⟩ := spL H
  obtain ⟨y240,hy240⟩ : ∃ y_ : List (S47),y_ = (x3_2 ++ y237) := ⟨_,rfl⟩
  replace H : (if (ji8) ≤ (x4_2.length : Int) then (zdM k2 y240 (x4_2.take ((ji8) : Int).toNat) x9_1 l0 (l0.length : Int) x9_1 ((zaA l0 x9_1).f0) ((zaA l0 x9_1).f1) ((zaA l0 x9_1).f2) ((zaA l0 x9_1).f3)) else (none)) = some r := by first | (rw [hy240];with_reducible exact H) | (have H2_ := (Option.bind_some _ _).symm.trans H;rw [hy240];with_reducible exact H2_) | (have H2_ := (Option.bind_some _ _).symm.trans H;with_reducible exact H2_) | with_reducible exact H | (rw [hy240];exact H) | exact H
  have Ny240 := Aside0.mk hy240
  clear hy240
  obtain ⟨c13,H⟩ := spG H
  have c13b0 := eq_true c13
  have c13b1 : decide ((ji8) ≤ (x4_2.length : Int)) = true := decide_eq_true c13
  clear c13
  obtain ⟨y243,hy243⟩ : ∃ y_ : List Int,y_ = (x4_2.take ((ji8) : Int).toNat) := ⟨_,rfl⟩
  replace H : (zdM k2 y240 y243 x9_1 l0 (l0.length : Int) x9_1 ((zaA l0 x9_1).f0) ((zaA l0 x9_1).f1) ((zaA l0 x9_1).f2) ((zaA l0 x9_1).f3)) = some r := by first | (rw [hy243];with_reducible exact H) | (have H2_ := (Option.bind_some _ _).symm.trans H;rw [hy243];with_reducible exact H2_) | (have H2_ := (Option.bind_some _ _).symm.trans H;with_reducible exact H2_) | with_reducible exact H | (rw [hy243];exact H) | exact H
  have Ny243 := Aside0.mk hy243
  clear hy243
  have H' := Aside0.mk H
  clear H
  obtain ⟨Ao14,co14,eo14⟩ := Kd.R_slice HO_4.out
  subst eo14
  have p236 : 0 ≤ ((ji8) : Int) := qD
  have q236 : (ji8) < (x4_2.length : Int) := qD
  obtain ⟨ad236,e236,hx236_0⟩ := Kd.at_int (Kd.R_reads' HO_4.out).2.2 (ji8) p236 q236
  cases e236
  replace p236 := eq_true p236
  replace q236 := eq_true q236
  try go_wp2
  have n0_ := Aside0.mk (Kd.R_drew HO_3.out)
  have n1_ := Aside0.mk (Kd.R_drew HO_4.out)
  have n2_ := Aside0.mk (zoK BK235.out)
  have n3_ := Aside0.mk (zaJ HB.out)
  clear HO_3 HO_4 BK235 HB
  have HO_3 := n0_
  have HO_4 := n1_
  have BK235 := n2_
  have HB := n3_
  clear n0_ n1_ n2_ n3_
  have q16 : ((ji8) : Int) ≤ ((x4_2.length : Int) : Int) := qD
  obtain ⟨i016,hi016,_,hsz16,_⟩ := info_parts zrE
  have hcut16 := ztD (P := Try.prog) 167 3 .i64 Try.underlying167 hi016 (some ad236) x4_2.length co14 (ji8) qD q16 (Kd.R_reads' HO_4.out).2.1
  have hr16 := Kd.R_take (m := ((ji8) : Int).toNat) HO_4.out (by omega)
  have hy16 : y243.length = ((ji8) : Int).toNat := (by rw [Ny243.out,List.length_take];omega)
  rw [← Ny243.out] at hr16
  rw [← hy16] at hr16 hcut16
  clear hy16 hi016 hsz16 HO_4
  have HO245 := Aside0.mk hr16
  clear hr16
  replace q16 := eq_true q16
  refine ztH (n := 11) (S := fun w' => True) (ds := []) #[false,false,false,false,false,false,false,false,false,false,false] (by kernel_rfl) rfl rfl trivial (fun hHeld => ?_);refine zmX zsQ zrT (fun HT_ HW_ => ?_)
  generalize wr.drew = w15 at HO_3 HO_4 BK235 HB HO245 hHeld ⊢
  refine zcM (i := 0) (N := some 27) (v := ?_) (a' := ?_) #[true,false,false,false,false,false,false,false,false,false,false] rfl rfl (zbO HT_.out (by kernel_rfl)) (fun _ _ _ h => h) (Or.inl ⟨by rfl,?_⟩) ?_ ?_
  rotate_left
  ·intro w'
   go_simp
   with_reducible rfl
  rotate_left
  ·simp only [Act.put,szz,zaO,zaR]
   rfl
  refine zcM (i := 1) (N := some 28) (v := ?_) (a' := ?_) #[true,true,false,false,false,false,false,false,false,false,false] rfl rfl (zbO HT_.out (by kernel_rfl)) (fun _ _ _ h => h) (Or.inl ⟨by rfl,?_⟩) ?_ ?_
  rotate_left
  ·intro w'
   go_simp
   with_reducible rfl
  rotate_left
  ·simp only [Act.put,szz,zaO,zaR]
   rfl
  refine zcM (i := 4) (N := some 31) (v := ?_) (a' := ?_) #[true,true,false,false,true,false,false,false,false,false,false] rfl rfl (zbO HT_.out (by kernel_rfl)) (fun _ _ _ h => h) (Or.inl ⟨by rfl,?_⟩) ?_ ?_
  rotate_left
  ·intro w'
   go_simp
   with_reducible rfl
  rotate_left
  ·simp only [Act.put,szz,zaO,zaR]
   rfl
  refine zcM (i := 5) (N := some 32) (v := ?_) (a' := ?_) #[true,true,false,false,true,true,false,false,false,false,false] rfl rfl (zbO HT_.out (by kernel_rfl)) (fun _ _ _ h => h) (Or.inl ⟨by rfl,?_⟩) ?_ ?_
  rotate_left
  ·intro w'
   go_simp
   with_reducible rfl
  rotate_left
  ·simp only [Act.put,szz,zaO,zaR]
   rfl
  refine zcM (i := 6) (N := some 33) (v := ?_) (a' := ?_) #[true,true,false,false,true,true,true,false,false,false,false] rfl rfl (zbO HT_.out (by kernel_rfl)) (fun _ _ _ h => h) (Or.inl ⟨by rfl,?_⟩) ?_ ?_
  rotate_left
  ·intro w'
   go_simp
   with_reducible rfl
  rotate_left
  ·simp only [Act.put,szz,zaO,zaR]
   rfl
  refine zcM (i := 7) (N := some 34) (v := ?_) (a' := ?_) #[true,true,false,false,true,true,true,true,false,false,false] rfl rfl (zbO HT_.out (by kernel_rfl)) (fun _ _ _ h => h) (Or.inl ⟨by rfl,?_⟩) ?_ ?_
  rotate_left
  ·intro w'
   go_simp
   with_reducible rfl
  rotate_left
  ·simp only [Act.put,szz,zaO,zaR]
   rfl
  refine zcM (i := 8) (N := some 35) (v := ?_) (a' := ?_) #[true,true,false,false,true,true,true,true,true,false,false] rfl rfl (zbO HT_.out (by kernel_rfl)) (fun _ _ _ h => h) (Or.inl ⟨by rfl,?_⟩) ?_ ?_
  rotate_left
  ·intro w'
   go_simp
   with_reducible rfl
  rotate_left
  ·simp only [Act.put,szz,zaO,zaR]
   rfl
  refine one_ (i := 2) (N := some 29) #[true,true,true,false,true,true,true,true,true,false,false] rfl rfl (zjL HT_.out (by kernel_rfl)) (by decide) (fun K hK => ?_)
  refine Kd.R_lit_step k47 _ 47 ?hg (N := 29) ?hd (xs := ([(⟨3,0,(⟨#[]⟩ : ByteArray),0⟩ : S47)] : List (S47))) (inner := [.int .i64 3,.int .u8 0,.string (⟨#[]⟩ : ByteArray),.int .i64 0]) (ok := fun _ => True) (okp := fun _ => True) ?hr ?hp (fun _ hk => hk) trivial (Below.refl _ _) (Nat.le_refl _) (by simp) ?_;(case hd => rfl);(case hg => rfl);(case hr => first | (go_simp;done) | (go_simp;rfl));(case hp => exact (znX (show Kd.M k47 _ _ _ (⟨3,0,(⟨#[]⟩ : ByteArray),0⟩ : S47) [.int .i64 3,.int .u8 0,.string (⟨#[]⟩ : ByteArray),.int .i64 0] from (ziE _ _ _ (⟨3,0,(⟨#[]⟩ : ByteArray),0⟩ : S47) )) (Reps.none _ _)))
  intro v238 w17 ho18 hb hg_ hnew_
  clear hg_ hnew_
  (first | rw [← Ny237.out] at ho18 | (simp only [Int.reduceToNat] at ho18;rw [← Ny237.out] at ho18))
  have n0_ := Aside0.mk (Kd.R_elder' (qR HO_3) (Kd.R_base ho18) hb)
  have n1_ := Aside0.mk (Kd.R_below (qR HO245) hb)
  have n2_ := Aside0.mk (Kd.R_lower (Kd.R_new' ho18 (Kd.R_lt (qR HO_3))) (zaF (qG GE235)))
  have n3_ := Aside0.mk (zaG (g := gb235) (o := .cells #[.int .u8 ((zaA l0 x9_1).f0),.string ((zaA l0 x9_1).f1),.int .i64 ((zaA l0 x9_1).f2),.int .i64 ((zaA l0 x9_1).f3)] 56 (0,0)) (qK BK235) hb)
  have n4_ := Aside0.mk (zaD (qG GE235) hb)
  clear HO_3 HO245 BK235 HB
  have HO_3 := n0_
  have HO245 := n1_
  have HO239 := n2_
  have BK235 := n3_
  have HB := n4_
  clear n0_ n1_ n2_ n3_ n4_ hb ho18
  obtain ⟨Ao20,co20,eo20⟩ := Kd.R_slice HO239.out
  (first | subst eo20 | (injection eo20 with f1_ f2_ f3_;have f4_ := f1_.symm;have f5_ := f3_.symm;clear f1_ f2_ f3_;subst f4_;subst f5_))
  refine hK.out _ _ trivial (fun hHeld => ?_)
  clear hK K
  refine zhD (a' := ?_) ?_ ?_
  rotate_left
  ·show Act.put _ (some 29) _ = _
   simp only [Act.put,szz,zaO,zaR]
   rfl
  refine one_ (i := 3) (N := some 30) #[true,true,true,true,true,true,true,true,true,false,false] rfl rfl (zjL HT_.out (by kernel_rfl)) (by decide) (fun K hK => ?_)
  refine Kd.R_append_rows_step k47 (w0 := w) w.heap.size (by rfl) (.tmp 27) (.tmp 29) 41 47 (.agg #[(.int .i64 0),(.int .u8 0),(.string ⟨#[]⟩),(.int .i64 0)]) 40 rfl Try.underlying41 zhR rfl (by decide) (by omega) u3 x3_2 y237 _ _ _ (fun k_ => some k_ ≠ (.slice Ao20 y237.length co20 : Value).ownBlock) (fun _ => False) rfl rfl ?aO ?aR (fun _ _ h => h) (fun _ h => h.elim) ?aF ?aB ?aS ?aL ?_
  (case aR => exact qC ((Kd.R_reads' HO239.out).2.2))
  (case aB => exact qG GE235)
  (case aF => exact (fun k_ hk => Kd.fresh' (Kd.R_lt (qR HO239)) k_ hk))
  (case aO => exact qRa HO_3)
  (case aS => exact (zaF (qG GE235)))
  (case aL => have := LMc12.out;omega)
  intro v241 w19 ho hb hg hat
  rw [← Ny240.out] at ho
  obtain ⟨_,_,_,_,_⟩ := a5 (Kd.R_over' (qR HO245) (Kd.R_typed (qR HO_3)) (by decide) hg) (zbS (g := gb235) (o := .cells #[.int .u8 ((zaA l0 x9_1).f0),.string ((zaA l0 x9_1).f1),.int .i64 ((zaA l0 x9_1).f2),.int .i64 ((zaA l0 x9_1).f3)] 56 (0,0)) (qK BK235) hg (Kd.R_ne HO_3.out BK235.out (by decide))) (Kd.R_after (ok := (fun _ => True)) (qR HO239) hg hat) hb ho;clear HO245 BK235 HO239 HB HO_3 ho hb hg hat;rename_i HO245 BK235 HO239 HB HO242
  refine hK.out _ _ trivial (fun hHeld => ?_)
  clear hK K
  refine zhD (a' := ?_) ?_ ?_
  rotate_left
  ·show Act.put _ (some 30) _ = _
   simp only [Act.put,szz,zaO,zaR]
   rfl
  refine zcM (i := 9) (N := some 3) (v := ?_) (a' := ?_) #[true,true,true,true,true,true,true,true,true,true,false] rfl rfl (zbO HT_.out (by kernel_rfl)) (fun _ _ _ h => h) (Or.inl ⟨by rfl,?_⟩) ?_ ?_
  rotate_left
  ·intro w'
   go_simp
   with_reducible rfl
  rotate_left
  ·simp only [Act.put,szz,zaO,zaR]
   rfl
  refine zcM (i := 10) (N := some 4) (v := ?_) (a' := ?_) #[true,true,true,true,true,true,true,true,true,true,true] rfl rfl (zbO HT_.out (by kernel_rfl)) (fun _ _ _ h => h) (Or.inl ⟨by rfl,?_⟩) ?_ ?_
  rotate_left
  ·intro w'
   go_simp
   with_reducible rfl
  rotate_left
  ·simp only [Act.put,szz,zaO,zaR]
   rfl
  refine zyE (zrD HT_.out (by kernel_rfl)) ?_
  try go_wp2
  go_roundg k2
  case measure => have := HK1.out;have := HK2.out;omega
  case rel => exact ⟨(y240),(y243),H',⟨by have := HK1.out;have := HK2.out;omega⟩,⟨qRb HO242⟩,⟨qR HO245⟩,⟨qK BK235⟩,⟨qG GE235⟩⟩
 clear H' HO_3 HO_4 BK235 HB
 obtain ⟨k2,x3_2,x4_2,HA,HK2,HO_3,HO_4,BK235,HB⟩ := hcut
 have H := HA.out
 clear HA
 simp only [ziI] at H
 obtain ⟨c44b0,c44b1,H⟩ | ⟨c44b0,c44b1,H⟩ := spE H
 ·obtain ⟨y264,Ny264,H⟩ := bsA H
  obtain ⟨LMc45,H⟩ := spL H
  obtain ⟨y267,hy267⟩ : ∃ y_ : List (S47),y_ = (x3_2 ++ y264) := ⟨_,rfl⟩
  replace H : (zbH k2 y267 x4_2 l0 (l0.length : Int) (wrap64 (x9_1 + 1))) = some r := by first | (rw [hy267];with_reducible exact H) | (have H2_ := (Option.bind_some _ _).symm.trans H;rw [hy267];with_reducible exact H2_) | (have H2_ := (Option.bind_some _ _).symm.trans H;with_reducible exact H2_) | with_reducible exact H | (rw [hy267];exact H) | exact H
  have Ny267 := Aside0.mk hy267
  clear hy267
  have H' := Aside0.mk H
  clear H
  obtain ⟨Ao46,co46,eo46⟩ := Kd.R_slice HO_4.out
  subst eo46
  obtain ⟨_,_,_,_,_,_,_,_⟩ := zfA BK235.out
  go_wp2_with (first | ((with_reducible refine zdT (N := 43) rfl ?_);(try (refine zeP (by rfl) ?_;dsimp only));refine Kd.R_lit k47 _ 47 ?hg (N := 43) ?hd (xs := ([(⟨1,0,((zaA l0 x9_1).f1),0⟩ : S47)] : List (S47))) (inner := [.int .i64 1,.int .u8 0,.string ((zaA l0 x9_1).f1),.int .i64 0]) (ok := fun _ => True) (okp := fun _ => True) ?hr ?hp (fun _ hk => hk) trivial (Below.refl _ _) (Nat.le_refl _) (by simp) ?_;(case hd => rfl);(case hg => rfl);(case hr => first | (go_simp;done) | (go_simp;rfl));(case hp => exact (znX (show Kd.M k47 _ _ _ (⟨1,0,((zaA l0 x9_1).f1),0⟩ : S47) [.int .i64 1,.int .u8 0,.string ((zaA l0 x9_1).f1),.int .i64 0] from (ziE _ _ _ (⟨1,0,((zaA l0 x9_1).f1),0⟩ : S47) )) (Reps.none _ _)));intro v265 w48 ho49 hb hg_ hnew_;clear hg_ hnew_;(first | rw [← Ny264.out] at ho49 | (simp only [Int.reduceToNat] at ho49;rw [← Ny264.out] at ho49));obtain ⟨_,_,_,_,_⟩ := a5 (Kd.R_elder' (qR HO_3) (Kd.R_base ho49) hb) (Kd.R_below (qR HO_4) hb) (Kd.R_lower (Kd.R_new' ho49 (Kd.R_lt (qR HO_3))) (zaF (qG GE235))) (zaG (g := gb235) (o := .cells #[.int .u8 ((zaA l0 x9_1).f0),.string ((zaA l0 x9_1).f1),.int .i64 ((zaA l0 x9_1).f2),.int .i64 ((zaA l0 x9_1).f3)] 56 (0,0)) (qK BK235) hb) (zaD (qG GE235) hb);clear HO_3 HO_4 BK235 HB hb ho49;rename_i HO_3 HO_4 HO266 BK235 HB;obtain ⟨Ao51,co51,eo51⟩ := Kd.R_slice HO266.out;subst eo51) | ((with_reducible refine zcJ (b := .append) (xs := #[.tmp 39,.tmp 43]) rfl ?_);(try (refine zeP (by rfl) ?_;dsimp only));at_builtin;refine Kd.R_append_rows k47 (w0 := w) w.heap.size rfl (.tmp 39) (.tmp 43) 41 47 (.agg #[(.int .i64 0),(.int .u8 0),(.string ⟨#[]⟩),(.int .i64 0)]) 40 rfl Try.underlying41 zhR rfl (by decide) (by omega) u3 x3_2 y264 _ _ _ (fun k_ => some k_ ≠ (.slice Ao51 y264.length co51 : Value).ownBlock) (fun _ => False) rfl rfl ?aO ?aR (fun _ _ h => h) (fun _ h => h.elim) ?aF ?aB ?aS ?aL ?_;(case aR => exact qC ((Kd.R_reads' HO266.out).2.2));(case aB => exact qG GE235);(case aF => exact (fun k_ hk => Kd.fresh' (Kd.R_lt (qR HO266)) k_ hk));(case aO => exact qRa HO_3);(case aS => exact (zaF (qG GE235)));(case aL => have := LMc45.out;omega);intro v268 w50 ho hb hg hat;rw [← Ny267.out] at ho;obtain ⟨_,_,_,_,_⟩ := a5 (Kd.R_over' (qR HO_4) (Kd.R_typed (qR HO_3)) (by decide) hg) (zbS (g := gb235) (o := .cells #[.int .u8 ((zaA l0 x9_1).f0),.string ((zaA l0 x9_1).f1),.int .i64 ((zaA l0 x9_1).f2),.int .i64 ((zaA l0 x9_1).f3)] 56 (0,0)) (qK BK235) hg (Kd.R_ne HO_3.out BK235.out (by decide))) (Kd.R_after (ok := (fun _ => True)) (qR HO266) hg hat) hb ho;clear HO_4 BK235 HO266 HB HO_3 ho hb hg hat;rename_i HO_4 BK235 HO266 HB HO269))
  go_roundg k2
  case measure => have := HK1.out;have := HK2.out;omega
  case rel => exact ⟨(y267),(x4_2),(wrap64 (x9_1 + 1)),qS,H',⟨by have := HK1.out;have := HK2.out;omega⟩,⟨qRb HO269⟩,⟨qR HO_4⟩,⟨qG GE235⟩⟩
 obtain ⟨y270,Ny270,H⟩ := bsA H
 obtain ⟨LMc52,H⟩ := spL H
 obtain ⟨y273,hy273⟩ : ∃ y_ : List (S47),y_ = (x3_2 ++ y270) := ⟨_,rfl⟩
 replace H : ((some (([wrap64 (x9_1 + ((zaA l0 x9_1).f3))] : List Int) : List Int)).bind fun y276 => (if x4_2.length + y276.length < 17592186044416 then (zbH k2 y273 (x4_2 ++ y276) l0 (l0.length : Int) (wrap64 (x9_1 + 1))) else (none))) = some r := by first | (rw [hy273];with_reducible exact H) | (have H2_ := (Option.bind_some _ _).symm.trans H;rw [hy273];with_reducible exact H2_) | (have H2_ := (Option.bind_some _ _).symm.trans H;with_reducible exact H2_) | with_reducible exact H | (rw [hy273];exact H) | exact H
 have Ny273 := Aside0.mk hy273
 clear hy273
 obtain ⟨y276,hy276⟩ : ∃ y_ : List Int,y_ = (([wrap64 (x9_1 + ((zaA l0 x9_1).f3))] : List Int)) := ⟨_,rfl⟩
 replace H : (if x4_2.length + y276.length < 17592186044416 then (zbH k2 y273 (x4_2 ++ y276) l0 (l0.length : Int) (wrap64 (x9_1 + 1))) else (none)) = some r := by first | (rw [hy276];with_reducible exact H) | (have H2_ := (Option.bind_some _ _).symm.trans H;rw [hy276];with_reducible exact H2_) | (have H2_ := (Option.bind_some _ _).symm.trans H;with_reducible exact H2_) | with_reducible exact H | (rw [hy276];exact H) | exact H
 have Ny276 := Aside0.mk hy276
 clear hy276
 obtain ⟨LMc53,H⟩ := spL H
 obtain ⟨y279,hy279⟩ : ∃ y_ : List Int,y_ = (x4_2 ++ y276) := ⟨_,rfl⟩
 replace H : (zbH k2 y273 y279 l0 (l0.length : Int) (wrap64 (x9_1 + 1))) = some r := by first | (rw [hy279];with_reducible exact H) | (have H2_ := (Option.bind_some _ _).symm.trans H;rw [hy279];with_reducible exact H2_) | (have H2_ := (Option.bind_some _ _).symm.trans H;with_reducible exact H2_) | with_reducible exact H | (rw [hy279];exact H) | exact H
 have Ny279 := Aside0.mk hy279
 clear hy279
 have H' := Aside0.mk H
 clear H
 obtain ⟨Ao54,co54,eo54⟩ := Kd.R_slice HO_4.out
 subst eo54
 obtain ⟨_,_,_,_,_,_,_,_⟩ := zfA BK235.out
 obtain ⟨Ao56,co56,eo56⟩ := Kd.R_slice HO_3.out
 subst eo56
 try go_wp2
 have n0_ := Aside0.mk (Kd.R_drew HO_3.out)
 have n1_ := Aside0.mk (Kd.R_drew HO_4.out)
 have n2_ := Aside0.mk (zoK BK235.out)
 have n3_ := Aside0.mk (zaJ HB.out)
 clear HO_3 HO_4 BK235 HB
 have HO_3 := n0_
 have HO_4 := n1_
 have BK235 := n2_
 have HB := n3_
 clear n0_ n1_ n2_ n3_
 refine ztH (n := 15) (S := fun w' => w'.cell? ⟨gb235,0,none⟩ = some (.int .u8 ((zaA l0 x9_1).f0)) ∧ w'.cell? ⟨gb235,1,none⟩ = some (.string ((zaA l0 x9_1).f1)) ∧ w'.cell? ⟨gb235,2,none⟩ = some (.int .i64 ((zaA l0 x9_1).f2)) ∧ w'.cell? ⟨gb235,3,none⟩ = some (.int .i64 ((zaA l0 x9_1).f3))) (ds := []) #[false,false,false,false,false,false,false,false,false,false,false,false,false,false,false] (by kernel_rfl) rfl rfl ⟨(zaB BK235.out 0).trans rfl,(zaB BK235.out 1).trans rfl,(zaB BK235.out 2).trans rfl,(zaB BK235.out 3).trans rfl⟩ (fun hHeld => ?_);refine zmX zrU zpX (fun HT_ HW_ => ?_)
 generalize wr.drew = w57 at HO_3 HO_4 BK235 HB hHeld ⊢
 refine zcM (i := 0) (N := some 45) (v := ?_) (a' := ?_) #[true,false,false,false,false,false,false,false,false,false,false,false,false,false,false] rfl rfl (zbO HT_.out (by kernel_rfl)) (fun _ _ _ h => h) (Or.inl ⟨by rfl,?_⟩) ?_ ?_
 rotate_left
 ·intro w'
  go_simp
  with_reducible rfl
 rotate_left
 ·simp only [Act.put,szz,zaO,zaR]
  rfl
 refine zcM (i := 1) (N := some 46) (v := ?_) (a' := ?_) #[true,true,false,false,false,false,false,false,false,false,false,false,false,false,false] rfl rfl (zbO HT_.out (by kernel_rfl)) (fun _ _ _ h => h) (Or.inl ⟨by rfl,?_⟩) ?_ ?_
 rotate_left
 ·intro w'
  go_simp
  with_reducible rfl
 rotate_left
 ·simp only [Act.put,szz,zaO,zaR]
  rfl
 refine zcM (i := 6) (N := some 51) (v := ?_) (a' := ?_) #[true,true,false,false,false,false,true,false,false,false,false,false,false,false,false] rfl rfl (zbO HT_.out (by kernel_rfl)) (fun _ _ _ h => h) (Or.inl ⟨by rfl,?_⟩) ?_ ?_
 rotate_left
 ·intro w'
  go_simp
  with_reducible rfl
 rotate_left
 ·simp only [Act.put,szz,zaO,zaR]
  rfl
 refine zcM (i := 7) (N := some 52) (v := ?_) (a' := ?_) #[true,true,false,false,false,false,true,true,false,false,false,false,false,false,false] rfl rfl (zbO HT_.out (by kernel_rfl)) (fun _ _ _ h => h) (Or.inl ⟨by rfl,?_⟩) ?_ ?_
 rotate_left
 ·intro w'
  go_simp
  with_reducible rfl
 rotate_left
 ·simp only [Act.put,szz,zaO,zaR]
  rfl
 refine zcM (i := 8) (N := some 53) (v := ?_) (a' := ?_) #[true,true,false,false,false,false,true,true,true,false,false,false,false,false,false] rfl rfl (zbO HT_.out (by kernel_rfl)) (fun _ _ _ h => h) (Or.inl ⟨by rfl,?_⟩) ?_ ?_
 rotate_left
 ·intro w'
  go_simp
  with_reducible rfl
 rotate_left
 ·simp only [Act.put,szz,zaO,zaR]
  rfl
 refine zrB (i := 2) (N := some 47) (v := ?_) (a' := ?_) #[true,true,true,false,false,false,true,true,true,false,false,false,false,false,false] rfl rfl (zkE HT_.out HW_.out (by kernel_rfl)) (fun _ _ _ h => h) (Or.inl ⟨by rfl,?_⟩) hHeld ?_ ?_
 rotate_left
 ·rintro w' ⟨s0,s1,s2,s3⟩
  go_simp
  with_reducible rfl
 rotate_left
 ·simp only [Act.put,szz,zaO,zaR]
  rfl
 refine zcM (i := 3) (N := some 48) (v := ?_) (a' := ?_) #[true,true,true,true,false,false,true,true,true,false,false,false,false,false,false] rfl rfl (zbO HT_.out (by kernel_rfl)) (fun _ _ _ h => h) (Or.inl ⟨by rfl,?_⟩) ?_ ?_
 rotate_left
 ·intro w'
  go_simp
  with_reducible rfl
 rotate_left
 ·simp only [Act.put,szz,zaO,zaR]
  rfl
 refine zrB (i := 9) (N := some 54) (v := ?_) (a' := ?_) #[true,true,true,true,false,false,true,true,true,true,false,false,false,false,false] rfl rfl (zkE HT_.out HW_.out (by kernel_rfl)) (fun _ _ _ h => h) (Or.inl ⟨by rfl,?_⟩) hHeld ?_ ?_
 rotate_left
 ·rintro w' ⟨s0,s1,s2,s3⟩
  go_simp
  with_reducible rfl
 rotate_left
 ·simp only [Act.put,szz,zaO,zaR]
  rfl
 refine zcM (i := 10) (N := some 55) (v := ?_) (a' := ?_) #[true,true,true,true,false,false,true,true,true,true,true,false,false,false,false] rfl rfl (zbO HT_.out (by kernel_rfl)) (fun _ _ _ h => h) (Or.inl ⟨by rfl,?_⟩) ?_ ?_
 rotate_left
 ·intro w'
  go_simp
  with_reducible rfl
 rotate_left
 ·simp only [Act.put,szz,zaO,zaR]
  rfl
 refine join_ (σ := Value × Value × Value) 3 #[true,true,true,true,true,true,true,true,true,true,true,true,false,false,false] (fun s_ => [(49,s_.1),(50,s_.2.1),(56,s_.2.2)]) (fun s_ w' => (w'.cell? ⟨gb235,0,none⟩ = some (.int .u8 ((zaA l0 x9_1).f0)) ∧ w'.cell? ⟨gb235,1,none⟩ = some (.string ((zaA l0 x9_1).f1)) ∧ w'.cell? ⟨gb235,2,none⟩ = some (.int .i64 ((zaA l0 x9_1).f2)) ∧ w'.cell? ⟨gb235,3,none⟩ = some (.int .i64 ((zaA l0 x9_1).f3))) ∧ (Kd.R k47 47 w' w.heap.size (fun k_ => some k_ ≠ (s_.2.1 : Value).ownBlock) s_.1 y270) ∧ (Kd.R k47 47 w' w.heap.size (fun k_ => some k_ ≠ (s_.1 : Value).ownBlock) s_.2.1 y273) ∧ (Kd.R (Kd.int .i64) 3 w' w.heap.size (fun k_ => some k_ ≠ (.slice Ao54 x4_2.length co54 : Value).ownBlock) s_.2.2 y276) ∧ (Kd.R (Kd.int .i64) 3 w' w.heap.size (fun k_ => some k_ ≠ (s_.2.2 : Value).ownBlock) (.slice Ao54 x4_2.length co54) x4_2) ∧ (w'.heap[gb235]? = some (.cells #[.int .u8 ((zaA l0 x9_1).f0),.string ((zaA l0 x9_1).f1),.int .i64 ((zaA l0 x9_1).f2),.int .i64 ((zaA l0 x9_1).f3)] 56 (0,0))) ∧ (Below w.heap.size w w')) ?_ ?_
 rotate_left
 ·intro hCont
  refine two_ (i := 4) (j := 11) (Ni := some 49) (Nj := some 56) #[true,true,true,true,true,false,true,true,true,true,true,false,false,false,false] #[true,true,true,true,false,false,true,true,true,true,true,true,false,false,false] rfl rfl rfl rfl (yeK HT_.out (by kernel_rfl)) (by decide) (by decide) (fun K hK => ?_) (fun K hK => ?_)
  ·skip
   refine Kd.R_lit_step k47 _ 47 ?hg (N := 49) ?hd (xs := ([(⟨2,((zaA l0 x9_1).f0),(⟨#[]⟩ : ByteArray),0⟩ : S47)] : List (S47))) (inner := [.int .i64 2,.int .u8 ((zaA l0 x9_1).f0),.string (⟨#[]⟩ : ByteArray),.int .i64 0]) (ok := fun _ => True) (okp := fun _ => True) ?hr ?hp (fun _ hk => hk) trivial (Below.refl _ _) (Nat.le_refl _) (by simp) ?_;(case hd => rfl);(case hg => rfl);(case hr => first | (go_simp;done) | (go_simp;rfl));(case hp => exact (znX (show Kd.M k47 _ _ _ (⟨2,((zaA l0 x9_1).f0),(⟨#[]⟩ : ByteArray),0⟩ : S47) [.int .i64 2,.int .u8 ((zaA l0 x9_1).f0),.string (⟨#[]⟩ : ByteArray),.int .i64 0] from (ziE _ _ _ (⟨2,((zaA l0 x9_1).f0),(⟨#[]⟩ : ByteArray),0⟩ : S47) )) (Reps.none _ _)))
   intro v271 w58 ho59 hb hg_ hnew_
   clear hg_ hnew_
   (first | rw [← Ny270.out] at ho59 | (simp only [Int.reduceToNat] at ho59;rw [← Ny270.out] at ho59))
   have n0_ := Aside0.mk (Kd.R_elder' (qR HO_3) (Kd.R_base ho59) hb)
   have n1_ := Aside0.mk (Kd.R_below (qR HO_4) hb)
   have n2_ := Aside0.mk (Kd.R_lower (Kd.R_new' ho59 (Kd.R_lt (qR HO_3))) (zaF (qG GE235)))
   have n3_ := Aside0.mk (zaG (g := gb235) (o := .cells #[.int .u8 ((zaA l0 x9_1).f0),.string ((zaA l0 x9_1).f1),.int .i64 ((zaA l0 x9_1).f2),.int .i64 ((zaA l0 x9_1).f3)] 56 (0,0)) (qK BK235) hb)
   have n4_ := Aside0.mk (zaD (qG GE235) hb)
   clear HO_3 HO_4 BK235 HB
   have HO_3 := n0_
   have HO_4 := n1_
   have HO272 := n2_
   have BK235 := n3_
   have HB := n4_
   clear n0_ n1_ n2_ n3_ n4_ hb ho59
   obtain ⟨Ao61,co61,eo61⟩ := Kd.R_slice HO272.out
   (first | subst eo61 | (injection eo61 with f1_ f2_ f3_;have f4_ := f1_.symm;have f5_ := f3_.symm;clear f1_ f2_ f3_;subst f4_;subst f5_))
   refine hK.out _ _ ⟨(zaB BK235.out 0).trans rfl,(zaB BK235.out 1).trans rfl,(zaB BK235.out 2).trans rfl,(zaB BK235.out 3).trans rfl⟩ (fun hHeld => ?_)
   clear hK K
   refine zhD (a' := ?_) ?_ ?_
   rotate_left
   ·show Act.put _ (some 49) _ = _
    simp only [Act.put,szz,zaO,zaR]
    rfl
   refine two_ (i := 5) (j := 11) (Ni := some 50) (Nj := some 56) #[true,true,true,true,true,true,true,true,true,true,true,false,false,false,false] #[true,true,true,true,true,false,true,true,true,true,true,true,false,false,false] rfl rfl rfl rfl (yeK HT_.out (by kernel_rfl)) (by decide) (by decide) (fun K hK => ?_) (fun K hK => ?_)
   ·skip
    refine Kd.R_append_rows_step k47 (w0 := w) w.heap.size (by rfl) (.tmp 45) (.tmp 49) 41 47 (.agg #[(.int .i64 0),(.int .u8 0),(.string ⟨#[]⟩),(.int .i64 0)]) 40 rfl Try.underlying41 zhR rfl (by decide) (by omega) (.slice Ao56 x3_2.length co56) x3_2 y270 _ _ _ (fun k_ => some k_ ≠ (.slice Ao61 y270.length co61 : Value).ownBlock) (fun _ => False) rfl rfl ?aO ?aR (fun _ _ h => h) (fun _ h => h.elim) ?aF ?aB ?aS ?aL ?_
    (case aR => exact qC ((Kd.R_reads' HO272.out).2.2))
    (case aB => exact qG GE235)
    (case aF => exact (fun k_ hk => Kd.fresh' (Kd.R_lt (qR HO272)) k_ hk))
    (case aO => exact qRa HO_3)
    (case aS => exact (zaF (qG GE235)))
    (case aL => have := LMc52.out;omega)
    intro v274 w60 ho hb hg hat
    rw [← Ny273.out] at ho
    have n0_ := Aside0.mk (Kd.R_over' (qR HO_4) (Kd.R_typed (qR HO_3)) (by decide) hg)
    have n1_ := Aside0.mk (zbS (g := gb235) (o := .cells #[.int .u8 ((zaA l0 x9_1).f0),.string ((zaA l0 x9_1).f1),.int .i64 ((zaA l0 x9_1).f2),.int .i64 ((zaA l0 x9_1).f3)] 56 (0,0)) (qK BK235) hg (Kd.R_ne HO_3.out BK235.out (by decide)))
    have n2_ := Aside0.mk (Kd.R_after (ok := (fun _ => True)) (qR HO272) hg hat)
    have n3_ := Aside0.mk (hb)
    have n4_ := Aside0.mk (ho)
    clear HO_4 BK235 HO272 HB HO_3
    have HO_4 := n0_
    have BK235 := n1_
    have HO272 := n2_
    have HB := n3_
    have HO275 := n4_
    clear n0_ n1_ n2_ n3_ n4_ ho hb hg hat
    refine hK.out _ _ ⟨(zaB BK235.out 0).trans rfl,(zaB BK235.out 1).trans rfl,(zaB BK235.out 2).trans rfl,(zaB BK235.out 3).trans rfl⟩ (fun hHeld => ?_)
    clear hK K
    refine zhD (a' := ?_) ?_ ?_
    rotate_left
    ·show Act.put _ (some 50) _ = _
     simp only [Act.put,szz,zaO,zaR]
     rfl
    refine one_ (i := 11) (N := some 56) #[true,true,true,true,true,true,true,true,true,true,true,true,false,false,false] rfl rfl (zjL HT_.out (by kernel_rfl)) (by decide) (fun K hK => ?_)
    refine Kd.R_lit_step (Kd.int .i64) _ 3 ?hg (N := 56) ?hd (xs := ([wrap64 (x9_1 + ((zaA l0 x9_1).f3))] : List Int)) (inner := [.int .i64 (wrap64 (x9_1 + ((zaA l0 x9_1).f3)))]) (ok := fun _ => True) (okp := fun _ => True) ?hr ?hp (fun _ hk => hk) trivial (Below.refl _ _) (Nat.le_refl _) (by simp) ?_;(case hd => rfl);(case hg => rfl);(case hr => first | (go_simp;done) | (go_simp;rfl));(case hp => exact (Reps.one (show Kd.M (Kd.int .i64) _ _ _ (wrap64 (x9_1 + ((zaA l0 x9_1).f3))) [.int .i64 (wrap64 (x9_1 + ((zaA l0 x9_1).f3)))] from rfl) (Reps.none _ _)))
    intro v277 w62 ho63 hb hg_ hnew_
    clear hg_ hnew_
    (first | rw [← Ny276.out] at ho63 | (simp only [Int.reduceToNat] at ho63;rw [← Ny276.out] at ho63))
    have n0_ := Aside0.mk (Kd.R_elder' (qR HO_4) (Kd.R_base ho63) hb)
    have n1_ := Aside0.mk (Kd.R_below (qR HO272) hb)
    have n2_ := Aside0.mk (Kd.R_below (qR HO275) hb)
    have n3_ := Aside0.mk (Kd.R_lower (Kd.R_new' ho63 (Kd.R_lt (qR HO_4))) (zaF (qG GE235)))
    have n4_ := Aside0.mk (zaG (g := gb235) (o := .cells #[.int .u8 ((zaA l0 x9_1).f0),.string ((zaA l0 x9_1).f1),.int .i64 ((zaA l0 x9_1).f2),.int .i64 ((zaA l0 x9_1).f3)] 56 (0,0)) (qK BK235) hb)
    have n5_ := Aside0.mk (zaD (qG GE235) hb)
    clear HO_4 HO272 HO275 BK235 HB
    have HO_4 := n0_
    have HO272 := n1_
    have HO275 := n2_
    have HO278 := n3_
    have BK235 := n4_
    have HB := n5_
    clear n0_ n1_ n2_ n3_ n4_ n5_ hb ho63
    refine hK.out _ _ ⟨(zaB BK235.out 0).trans rfl,(zaB BK235.out 1).trans rfl,(zaB BK235.out 2).trans rfl,(zaB BK235.out 3).trans rfl⟩ (fun hHeld => ?_)
    clear hK K
    refine zhD (a' := ?_) ?_ ?_
    rotate_left
    ·show Act.put _ (some 56) _ = _
     simp only [Act.put,szz,zaO,zaR]
     rfl
    exact zhD (by simp only [zgA,Act.put,szz]) (hCont (.slice Ao61 y270.length co61,v274,v277) _ ⟨hHeld,(qRa HO272),(qR HO275),(qRa HO278),(qRa HO_4),(qK BK235),(qG GE235)⟩)
   skip
   refine Kd.R_lit_step (Kd.int .i64) _ 3 ?hg (N := 56) ?hd (xs := ([wrap64 (x9_1 + ((zaA l0 x9_1).f3))] : List Int)) (inner := [.int .i64 (wrap64 (x9_1 + ((zaA l0 x9_1).f3)))]) (ok := fun _ => True) (okp := fun _ => True) ?hr ?hp (fun _ hk => hk) trivial (Below.refl _ _) (Nat.le_refl _) (by simp) ?_;(case hd => rfl);(case hg => rfl);(case hr => first | (go_simp;done) | (go_simp;rfl));(case hp => exact (Reps.one (show Kd.M (Kd.int .i64) _ _ _ (wrap64 (x9_1 + ((zaA l0 x9_1).f3))) [.int .i64 (wrap64 (x9_1 + ((zaA l0 x9_1).f3)))] from rfl) (Reps.none _ _)))
   intro v277 w60 ho61 hb hg_ hnew_
   clear hg_ hnew_
   (first | rw [← Ny276.out] at ho61 | (simp only [Int.reduceToNat] at ho61;rw [← Ny276.out] at ho61))
   have n0_ := Aside0.mk (Kd.R_below (qR HO_3) hb)
   have n1_ := Aside0.mk (Kd.R_elder' (qR HO_4) (Kd.R_base ho61) hb)
   have n2_ := Aside0.mk (Kd.R_below (qR HO272) hb)
   have n3_ := Aside0.mk (Kd.R_lower (Kd.R_new' ho61 (Kd.R_lt (qR HO_4))) (zaF (qG GE235)))
   have n4_ := Aside0.mk (zaG (g := gb235) (o := .cells #[.int .u8 ((zaA l0 x9_1).f0),.string ((zaA l0 x9_1).f1),.int .i64 ((zaA l0 x9_1).f2),.int .i64 ((zaA l0 x9_1).f3)] 56 (0,0)) (qK BK235) hb)
   have n5_ := Aside0.mk (zaD (qG GE235) hb)
   clear HO_3 HO_4 HO272 BK235 HB
   have HO_3 := n0_
   have HO_4 := n1_
   have HO272 := n2_
   have HO278 := n3_
   have BK235 := n4_
   have HB := n5_
   clear n0_ n1_ n2_ n3_ n4_ n5_ hb ho61
   obtain ⟨Ao63,co63,eo63⟩ := Kd.R_slice HO272.out
   (first | subst eo63 | (injection eo63 with f1_ f2_ f3_;have f4_ := f1_.symm;have f5_ := f3_.symm;clear f1_ f2_ f3_;subst f4_;subst f5_))
   refine hK.out _ _ ⟨(zaB BK235.out 0).trans rfl,(zaB BK235.out 1).trans rfl,(zaB BK235.out 2).trans rfl,(zaB BK235.out 3).trans rfl⟩ (fun hHeld => ?_)
   clear hK K
   refine zhD (a' := ?_) ?_ ?_
   rotate_left
   ·show Act.put _ (some 56) _ = _
    simp only [Act.put,szz,zaO,zaR]
    rfl
   refine one_ (i := 5) (N := some 50) #[true,true,true,true,true,true,true,true,true,true,true,true,false,false,false] rfl rfl (zjL HT_.out (by kernel_rfl)) (by decide) (fun K hK => ?_)
   refine Kd.R_append_rows_step k47 (w0 := w) w.heap.size (by rfl) (.tmp 45) (.tmp 49) 41 47 (.agg #[(.int .i64 0),(.int .u8 0),(.string ⟨#[]⟩),(.int .i64 0)]) 40 rfl Try.underlying41 zhR rfl (by decide) (by omega) (.slice Ao56 x3_2.length co56) x3_2 y270 _ _ _ (fun k_ => some k_ ≠ (.slice Ao63 y270.length co63 : Value).ownBlock) (fun _ => False) rfl rfl ?aO ?aR (fun _ _ h => h) (fun _ h => h.elim) ?aF ?aB ?aS ?aL ?_
   (case aR => exact qC ((Kd.R_reads' HO272.out).2.2))
   (case aB => exact qG GE235)
   (case aF => exact (fun k_ hk => Kd.fresh' (Kd.R_lt (qR HO272)) k_ hk))
   (case aO => exact qRa HO_3)
   (case aS => exact (zaF (qG GE235)))
   (case aL => have := LMc52.out;omega)
   intro v274 w62 ho hb hg hat
   rw [← Ny273.out] at ho
   have n0_ := Aside0.mk (Kd.R_over' (qR HO_4) (Kd.R_typed (qR HO_3)) (by decide) hg)
   have n1_ := Aside0.mk (zbS (g := gb235) (o := .cells #[.int .u8 ((zaA l0 x9_1).f0),.string ((zaA l0 x9_1).f1),.int .i64 ((zaA l0 x9_1).f2),.int .i64 ((zaA l0 x9_1).f3)] 56 (0,0)) (qK BK235) hg (Kd.R_ne HO_3.out BK235.out (by decide)))
   have n2_ := Aside0.mk (Kd.R_after (ok := (fun _ => True)) (qR HO272) hg hat)
   have n3_ := Aside0.mk (Kd.R_over' (qR HO278) (Kd.R_typed (qR HO_3)) (by decide) hg)
   have n4_ := Aside0.mk (hb)
   have n5_ := Aside0.mk (ho)
   clear HO_4 BK235 HO272 HO278 HB HO_3
   have HO_4 := n0_
   have BK235 := n1_
   have HO272 := n2_
   have HO278 := n3_
   have HB := n4_
   have HO275 := n5_
   clear n0_ n1_ n2_ n3_ n4_ n5_ ho hb hg hat
   refine hK.out _ _ ⟨(zaB BK235.out 0).trans rfl,(zaB BK235.out 1).trans rfl,(zaB BK235.out 2).trans rfl,(zaB BK235.out 3).trans rfl⟩ (fun hHeld => ?_)
   clear hK K
   refine zhD (a' := ?_) ?_ ?_
   rotate_left
   ·show Act.put _ (some 50) _ = _
    simp only [Act.put,szz,zaO,zaR]
    rfl
   exact zhD (by simp only [zgA,Act.put,szz]) (hCont (.slice Ao63 y270.length co63,v274,v277) _ ⟨hHeld,(qRa HO272),(qR HO275),(qRa HO278),(qRa HO_4),(qK BK235),(qG GE235)⟩)
  skip
  refine Kd.R_lit_step (Kd.int .i64) _ 3 ?hg (N := 56) ?hd (xs := ([wrap64 (x9_1 + ((zaA l0 x9_1).f3))] : List Int)) (inner := [.int .i64 (wrap64 (x9_1 + ((zaA l0 x9_1).f3)))]) (ok := fun _ => True) (okp := fun _ => True) ?hr ?hp (fun _ hk => hk) trivial (Below.refl _ _) (Nat.le_refl _) (by simp) ?_;(case hd => rfl);(case hg => rfl);(case hr => first | (go_simp;done) | (go_simp;rfl));(case hp => exact (Reps.one (show Kd.M (Kd.int .i64) _ _ _ (wrap64 (x9_1 + ((zaA l0 x9_1).f3))) [.int .i64 (wrap64 (x9_1 + ((zaA l0 x9_1).f3)))] from rfl) (Reps.none _ _)))
  intro v277 w58 ho59 hb hg_ hnew_
  clear hg_ hnew_
  (first | rw [← Ny276.out] at ho59 | (simp only [Int.reduceToNat] at ho59;rw [← Ny276.out] at ho59))
  have n0_ := Aside0.mk (Kd.R_below (qR HO_3) hb)
  have n1_ := Aside0.mk (Kd.R_elder' (qR HO_4) (Kd.R_base ho59) hb)
  have n2_ := Aside0.mk (Kd.R_lower (Kd.R_new' ho59 (Kd.R_lt (qR HO_4))) (zaF (qG GE235)))
  have n3_ := Aside0.mk (zaG (g := gb235) (o := .cells #[.int .u8 ((zaA l0 x9_1).f0),.string ((zaA l0 x9_1).f1),.int .i64 ((zaA l0 x9_1).f2),.int .i64 ((zaA l0 x9_1).f3)] 56 (0,0)) (qK BK235) hb)
  have n4_ := Aside0.mk (zaD (qG GE235) hb)
  clear HO_3 HO_4 BK235 HB
  have HO_3 := n0_
  have HO_4 := n1_
  have HO278 := n2_
  have BK235 := n3_
  have HB := n4_
  clear n0_ n1_ n2_ n3_ n4_ hb ho59
  refine hK.out _ _ ⟨(zaB BK235.out 0).trans rfl,(zaB BK235.out 1).trans rfl,(zaB BK235.out 2).trans rfl,(zaB BK235.out 3).trans rfl⟩ (fun hHeld => ?_)
  clear hK K
  refine zhD (a' := ?_) ?_ ?_
  rotate_left
  ·show Act.put _ (some 56) _ = _
   simp only [Act.put,szz,zaO,zaR]
   rfl
  refine one_ (i := 4) (N := some 49) #[true,true,true,true,true,false,true,true,true,true,true,true,false,false,false] rfl rfl (zjL HT_.out (by kernel_rfl)) (by decide) (fun K hK => ?_)
  refine Kd.R_lit_step k47 _ 47 ?hg (N := 49) ?hd (xs := ([(⟨2,((zaA l0 x9_1).f0),(⟨#[]⟩ : ByteArray),0⟩ : S47)] : List (S47))) (inner := [.int .i64 2,.int .u8 ((zaA l0 x9_1).f0),.string (⟨#[]⟩ : ByteArray),.int .i64 0]) (ok := fun _ => True) (okp := fun _ => True) ?hr ?hp (fun _ hk => hk) trivial (Below.refl _ _) (Nat.le_refl _) (by simp) ?_;(case hd => rfl);(case hg => rfl);(case hr => first | (go_simp;done) | (go_simp;rfl));(case hp => exact (znX (show Kd.M k47 _ _ _ (⟨2,((zaA l0 x9_1).f0),(⟨#[]⟩ : ByteArray),0⟩ : S47) [.int .i64 2,.int .u8 ((zaA l0 x9_1).f0),.string (⟨#[]⟩ : ByteArray),.int .i64 0] from (ziE _ _ _ (⟨2,((zaA l0 x9_1).f0),(⟨#[]⟩ : ByteArray),0⟩ : S47) )) (Reps.none _ _)))
  intro v271 w60 ho61 hb hg_ hnew_
  clear hg_ hnew_
  (first | rw [← Ny270.out] at ho61 | (simp only [Int.reduceToNat] at ho61;rw [← Ny270.out] at ho61))
  have n0_ := Aside0.mk (Kd.R_elder' (qR HO_3) (Kd.R_base ho61) hb)
  have n1_ := Aside0.mk (Kd.R_below (qR HO_4) hb)
  have n2_ := Aside0.mk (Kd.R_below (qR HO278) hb)
  have n3_ := Aside0.mk (Kd.R_lower (Kd.R_new' ho61 (Kd.R_lt (qR HO_3))) (zaF (qG GE235)))
  have n4_ := Aside0.mk (zaG (g := gb235) (o := .cells #[.int .u8 ((zaA l0 x9_1).f0),.string ((zaA l0 x9_1).f1),.int .i64 ((zaA l0 x9_1).f2),.int .i64 ((zaA l0 x9_1).f3)] 56 (0,0)) (qK BK235) hb)
  have n5_ := Aside0.mk (zaD (qG GE235) hb)
  clear HO_3 HO_4 HO278 BK235 HB
  have HO_3 := n0_
  have HO_4 := n1_
  have HO278 := n2_
  have HO272 := n3_
  have BK235 := n4_
  have HB := n5_
  clear n0_ n1_ n2_ n3_ n4_ n5_ hb ho61
  obtain ⟨Ao63,co63,eo63⟩ := Kd.R_slice HO272.out
  (first | subst eo63 | (injection eo63 with f1_ f2_ f3_;have f4_ := f1_.symm;have f5_ := f3_.symm;clear f1_ f2_ f3_;subst f4_;subst f5_))
  refine hK.out _ _ ⟨(zaB BK235.out 0).trans rfl,(zaB BK235.out 1).trans rfl,(zaB BK235.out 2).trans rfl,(zaB BK235.out 3).trans rfl⟩ (fun hHeld => ?_)
  clear hK K
  refine zhD (a' := ?_) ?_ ?_
  rotate_left
  ·show Act.put _ (some 49) _ = _
   simp only [Act.put,szz,zaO,zaR]
   rfl
  refine one_ (i := 5) (N := some 50) #[true,true,true,true,true,true,true,true,true,true,true,true,false,false,false] rfl rfl (zjL HT_.out (by kernel_rfl)) (by decide) (fun K hK => ?_)
  refine Kd.R_append_rows_step k47 (w0 := w) w.heap.size (by rfl) (.tmp 45) (.tmp 49) 41 47 (.agg #[(.int .i64 0),(.int .u8 0),(.string ⟨#[]⟩),(.int .i64 0)]) 40 rfl Try.underlying41 zhR rfl (by decide) (by omega) (.slice Ao56 x3_2.length co56) x3_2 y270 _ _ _ (fun k_ => some k_ ≠ (.slice Ao63 y270.length co63 : Value).ownBlock) (fun _ => False) rfl rfl ?aO ?aR (fun _ _ h => h) (fun _ h => h.elim) ?aF ?aB ?aS ?aL ?_
  (case aR => exact qC ((Kd.R_reads' HO272.out).2.2))
  (case aB => exact qG GE235)
  (case aF => exact (fun k_ hk => Kd.fresh' (Kd.R_lt (qR HO272)) k_ hk))
  (case aO => exact qRa HO_3)
  (case aS => exact (zaF (qG GE235)))
  (case aL => have := LMc52.out;omega)
  intro v274 w62 ho hb hg hat
  rw [← Ny273.out] at ho
  have n0_ := Aside0.mk (Kd.R_over' (qR HO_4) (Kd.R_typed (qR HO_3)) (by decide) hg)
  have n1_ := Aside0.mk (zbS (g := gb235) (o := .cells #[.int .u8 ((zaA l0 x9_1).f0),.string ((zaA l0 x9_1).f1),.int .i64 ((zaA l0 x9_1).f2),.int .i64 ((zaA l0 x9_1).f3)] 56 (0,0)) (qK BK235) hg (Kd.R_ne HO_3.out BK235.out (by decide)))
  have n2_ := Aside0.mk (Kd.R_over' (qR HO278) (Kd.R_typed (qR HO_3)) (by decide) hg)
  have n3_ := Aside0.mk (Kd.R_after (ok := (fun _ => True)) (qR HO272) hg hat)
  have n4_ := Aside0.mk (hb)
  have n5_ := Aside0.mk (ho)
  clear HO_4 BK235 HO278 HO272 HB HO_3
  have HO_4 := n0_
  have BK235 := n1_
  have HO278 := n2_
  have HO272 := n3_
  have HB := n4_
  have HO275 := n5_
  clear n0_ n1_ n2_ n3_ n4_ n5_ ho hb hg hat
  refine hK.out _ _ ⟨(zaB BK235.out 0).trans rfl,(zaB BK235.out 1).trans rfl,(zaB BK235.out 2).trans rfl,(zaB BK235.out 3).trans rfl⟩ (fun hHeld => ?_)
  clear hK K
  refine zhD (a' := ?_) ?_ ?_
  rotate_left
  ·show Act.put _ (some 50) _ = _
   simp only [Act.put,szz,zaO,zaR]
   rfl
  exact zhD (by simp only [zgA,Act.put,szz]) (hCont (.slice Ao63 y270.length co63,v274,v277) _ ⟨hHeld,(qRa HO272),(qR HO275),(qRa HO278),(qRa HO_4),(qK BK235),(qG GE235)⟩)
 rintro ⟨v271,v274,v277⟩ w64 ⟨hS_,h0_,h1_,h2_,h3_,h4_,h5_⟩
 have n0_ : Aside0 (Kd.R k47 47 w64 w.heap.size (fun k_ => some k_ ≠ (v274 : Value).ownBlock) v271 y270) := ⟨h0_⟩
 have n1_ : Aside0 (Kd.R k47 47 w64 w.heap.size (fun k_ => some k_ ≠ (v271 : Value).ownBlock) v274 y273) := ⟨h1_⟩
 have n2_ : Aside0 (Kd.R (Kd.int .i64) 3 w64 w.heap.size (fun k_ => some k_ ≠ (.slice Ao54 x4_2.length co54 : Value).ownBlock) v277 y276) := ⟨h2_⟩
 have n3_ : Aside0 (Kd.R (Kd.int .i64) 3 w64 w.heap.size (fun k_ => some k_ ≠ (v277 : Value).ownBlock) (.slice Ao54 x4_2.length co54) x4_2) := ⟨h3_⟩
 have n4_ : Aside0 (w64.heap[gb235]? = some (.cells #[.int .u8 ((zaA l0 x9_1).f0),.string ((zaA l0 x9_1).f1),.int .i64 ((zaA l0 x9_1).f2),.int .i64 ((zaA l0 x9_1).f3)] 56 (0,0))) := ⟨h4_⟩
 have n5_ : Aside0 (Below w.heap.size w w64) := ⟨h5_⟩
 clear HO_3 HO_4 BK235 HB h0_ h1_ h2_ h3_ h4_ h5_
 have HO272 := n0_
 have HO275 := n1_
 have HO278 := n2_
 have HO_4 := n3_
 have BK235 := n4_
 have HB := n5_
 clear n0_ n1_ n2_ n3_ n4_ n5_
 have hHeld : w64.cell? ⟨gb235,0,none⟩ = some (.int .u8 ((zaA l0 x9_1).f0)) ∧ w64.cell? ⟨gb235,1,none⟩ = some (.string ((zaA l0 x9_1).f1)) ∧ w64.cell? ⟨gb235,2,none⟩ = some (.int .i64 ((zaA l0 x9_1).f2)) ∧ w64.cell? ⟨gb235,3,none⟩ = some (.int .i64 ((zaA l0 x9_1).f3)) := hS_
 obtain ⟨Ao66,co66,eo66⟩ := Kd.R_slice HO278.out
 (first | subst eo66 | (injection eo66 with f1_ f2_ f3_;have f4_ := f1_.symm;have f5_ := f3_.symm;clear f1_ f2_ f3_;subst f4_;subst f5_))
 refine zhD (a' := ?_) ?_ ?_
 rotate_left
 ·simp only [zgA,Act.put,szz]
  rfl
 refine one_ (i := 12) (N := some 57) #[true,true,true,true,true,true,true,true,true,true,true,true,true,false,false] rfl rfl (zjL HT_.out (by kernel_rfl)) (by decide) (fun K hK => ?_)
 refine Kd.R_append_rows_step (Kd.int .i64) (w0 := w) w.heap.size (by rfl) (.tmp 51) (.tmp 56) 167 3 (.int .i64 0) 8 rfl Try.underlying167 zrE rfl (by decide) (by omega) (.slice Ao54 x4_2.length co54) x4_2 y276 _ _ _ (fun k_ => some k_ ≠ (.slice Ao66 y276.length co66 : Value).ownBlock) (fun _ => False) rfl rfl ?aO ?aR (fun _ _ h => h) (fun _ h => h.elim) ?aF ?aB ?aS ?aL ?_
 (case aR => exact qC ((Kd.R_reads' HO278.out).2.2))
 (case aB => exact qG GE235)
 (case aF => exact (fun k_ hk => Kd.fresh' (Kd.R_lt (qR HO278)) k_ hk))
 (case aO => exact qR HO_4)
 (case aS => exact (zaF (qG GE235)))
 (case aL => have := LMc53.out;omega)
 intro v280 w65 ho hb hg hat
 rw [← Ny279.out] at ho
 have n0_ := Aside0.mk (zbS (g := gb235) (o := .cells #[.int .u8 ((zaA l0 x9_1).f0),.string ((zaA l0 x9_1).f1),.int .i64 ((zaA l0 x9_1).f2),.int .i64 ((zaA l0 x9_1).f3)] 56 (0,0)) (qK BK235) hg (Kd.R_ne HO_4.out BK235.out (by decide)))
 have n1_ := Aside0.mk (Kd.R_over' (qR HO272) (Kd.R_typed (qR HO_4)) (by decide) hg)
 have n2_ := Aside0.mk (Kd.R_over' (qR HO275) (Kd.R_typed (qR HO_4)) (by decide) hg)
 have n3_ := Aside0.mk (Kd.R_after (ok := (fun _ => True)) (qRc HO278) hg hat)
 have n4_ := Aside0.mk (hb)
 have n5_ := Aside0.mk (ho)
 clear BK235 HO272 HO275 HO278 HB HO_4
 have BK235 := n0_
 have HO272 := n1_
 have HO275 := n2_
 have HO278 := n3_
 have HB := n4_
 have HO281 := n5_
 clear n0_ n1_ n2_ n3_ n4_ n5_ ho hb hg hat
 refine hK.out _ _ ⟨(zaB BK235.out 0).trans rfl,(zaB BK235.out 1).trans rfl,(zaB BK235.out 2).trans rfl,(zaB BK235.out 3).trans rfl⟩ (fun hHeld => ?_)
 clear hK K
 refine zhD (a' := ?_) ?_ ?_
 rotate_left
 ·show Act.put _ (some 57) _ = _
  simp only [Act.put,szz,zaO,zaR]
  rfl
 refine zcM (i := 13) (N := some 3) (v := ?_) (a' := ?_) #[true,true,true,true,true,true,true,true,true,true,true,true,true,true,false] rfl rfl (zbO HT_.out (by kernel_rfl)) (fun _ _ _ h => h) (Or.inl ⟨by rfl,?_⟩) ?_ ?_
 rotate_left
 ·intro w'
  go_simp
  with_reducible rfl
 rotate_left
 ·simp only [Act.put,szz,zaO,zaR]
  rfl
 refine zcM (i := 14) (N := some 4) (v := ?_) (a' := ?_) #[true,true,true,true,true,true,true,true,true,true,true,true,true,true,true] rfl rfl (zbO HT_.out (by kernel_rfl)) (fun _ _ _ h => h) (Or.inl ⟨by rfl,?_⟩) ?_ ?_
 rotate_left
 ·intro w'
  go_simp
  with_reducible rfl
 rotate_left
 ·simp only [Act.put,szz,zaO,zaR]
  rfl
 refine zyE (zrD HT_.out (by kernel_rfl)) ?_
 try go_wp2
 go_roundg k2
 case measure => have := HK1.out;have := HK2.out;omega
 case rel => exact ⟨(y273),(y279),(wrap64 (x9_1 + 1)),qS,H',⟨by have := HK1.out;have := HK2.out;omega⟩,⟨qRb HO275⟩,⟨qRb HO281⟩,⟨qG GE235⟩⟩
mutual
def zdY : Nat → List (S56) → Int → Int → Option (Bool)
 | 0,_,_,_ => none
 | k + 1,x0,x1,x2 => if x1 < x2 then (if 0 ≤ x1 then (if x1 < (x0.length : Int) then (if ((zaA x0 x1).f3) < 1 then (some false) else (if ((zaA x0 x1).f3) > (wrap64 (x2 - x1)) then (some false) else ((tree_sized.f k x0 (wrap64 (x1 + 1)) (wrap64 (x1 + ((zaA x0 x1).f3)))).bind fun t233 => (if t233 = true then (zdY k x0 (wrap64 (x1 + ((zaA x0 x1).f3))) x2) else (some false))))) else (none)) else (none)) else (some true)
def tree_sized.f : Nat → List (S56) → Int → Int → Option (Bool)
 | 0,_,_,_ => none
 | k + 1,l0,a1,a2 => zdY k l0 a1 a2
end
theorem tree_sized.calls (k : Nat) : ∀ (A0 : Option Addr) (c0 : Nat) (l0 : List (S56)) (a1 : Int) (a2 : Int) (r : Bool) (w : World) (hr0 : Kd.C k56 w A0 l0.length l0) (hc0 : l0.length ≤ c0) (h : tree_sized.f k l0 a1 a2 = some r),
  Calls Try.prog 102 #[.slice A0 l0.length c0,.int .i64 a1,.int .i64 a2] w fun e w' => e = .returned (.bool r) ∧ Below w.heap.size w w' := by
 induction k using Nat.strongRecOn with
 | _ k ih =>
 intro A0 c0 l0 a1 a2 r w hr0 hc0 h
 cases k with
 | zero => exact absurd h (by simp [tree_sized.f])
 | succ k =>
 simp only [tree_sized.f] at h
 have hu56 := Try.underlying56
 have HR0 := Aside0.mk hr0
 have HC0 := Aside0.mk hc0
 clear hr0 hc0
 have HB := Aside0.mk (Below.refl w.heap.size w)
 have H : (zdY k l0 a1 a2) = some r := h
 clear h
 have H' := Aside0.mk H
 clear H
 go_enter Try.func102,Try.ntmps102
 go_wp2
 go_loopg [1] k (fun kq v1 w' => ∃ (x1_1 : Int),v1 = .int .i64 x1_1 ∧ Aside0 (zdY kq l0 x1_1 a2 = some r) ∧ Aside0 (kq ≤ k) ∧ Aside0 (Below w.heap.size w w'))
 case atStart => exact ⟨(a1),qS,H',⟨Nat.le_refl _⟩,⟨qB⟩⟩
 clear H'
 obtain ⟨x1_1,rfl,HA,HK1,HB⟩ := hrel
 cases gk with
 | zero => exact absurd HA.out (by simp [zdY])
 | succ k1 =>
 have H := HA.out
 clear HA
 simp only [zdY] at H
 obtain ⟨c4b0,H⟩ | ⟨c4b0,H⟩ := spD H
 rotate_left
 ·obtain rfl := Option.some.inj H
  go_wp2
  go_ret
  exact ⟨qE,qB⟩
 obtain ⟨c5b0,H⟩ := spN H
 obtain ⟨c6b0,H⟩ := spN H
 obtain ⟨c7b0,H⟩ | ⟨c7b0,H⟩ := spD H
 ·obtain rfl := Option.some.inj H
  obtain ⟨ad231,e231,p231,q231,hx231_0,hx231_1,hx231_2,hx231_3⟩ := aT56 HR0 HB x1_1
  cases e231
  go_wp2_with (first | ((with_reducible refine zdT (N := 7) rfl ?_);refine zeW ?hg (N := 7) ?hd (cs := #[.int .u8 0,.string (⟨#[]⟩ : ByteArray),.int .i64 0,.int .i64 0]) (t := 56) ?hr ?_;(case hd => rfl);(case hg => rfl);(case hr => first | (go_simp;done) | (go_simp;rfl));intro gb232 hg w8 hbox hb;obtain ⟨_,_,_,_⟩ := a4 (zaD qB hb) hbox ((by rw [hg];exact (zaF qB) : w.heap.size ≤ gb232)) ((by rw [hg];exact (zaF qB) : w.heap.size ≤ gb232));clear HB hb hbox hg;rename_i HB BK232 GW232 GE232;have hcz9_0 : w8.cell? ⟨gb232,0,none⟩ = some (.int .u8 0) := (zaB BK232.out 0).trans rfl;have hcz9_1 : w8.cell? ⟨gb232,1,none⟩ = some (.string (⟨#[]⟩ : ByteArray)) := (zaB BK232.out 1).trans rfl;have hcz9_2 : w8.cell? ⟨gb232,2,none⟩ = some (.int .i64 0) := (zaB BK232.out 2).trans rfl;have hcz9_3 : w8.cell? ⟨gb232,3,none⟩ = some (.int .i64 0) := (zaB BK232.out 3).trans rfl;have hfz9_0 := zaK BK232.out 0;have hfz9_1 := zaK BK232.out 1;have hfz9_2 := zaK BK232.out 2;have hfz9_3 := zaK BK232.out 3))
  go_ret
  exact ⟨qE,qG GE232⟩
 obtain ⟨c10b0,H⟩ | ⟨c10b0,H⟩ := spDg H
 ·obtain rfl := Option.some.inj H
  obtain ⟨ad231,e231,p231,q231,hx231_0,hx231_1,hx231_2,hx231_3⟩ := aT56 HR0 HB x1_1
  cases e231
  go_wp2_with (first | ((with_reducible refine zdT (N := 7) rfl ?_);refine zeW ?hg (N := 7) ?hd (cs := #[.int .u8 0,.string (⟨#[]⟩ : ByteArray),.int .i64 0,.int .i64 0]) (t := 56) ?hr ?_;(case hd => rfl);(case hg => rfl);(case hr => first | (go_simp;done) | (go_simp;rfl));intro gb232 hg w11 hbox hb;obtain ⟨_,_,_,_⟩ := a4 (zaD qB hb) hbox ((by rw [hg];exact (zaF qB) : w.heap.size ≤ gb232)) ((by rw [hg];exact (zaF qB) : w.heap.size ≤ gb232));clear HB hb hbox hg;rename_i HB BK232 GW232 GE232;have hcz12_0 : w11.cell? ⟨gb232,0,none⟩ = some (.int .u8 0) := (zaB BK232.out 0).trans rfl;have hcz12_1 : w11.cell? ⟨gb232,1,none⟩ = some (.string (⟨#[]⟩ : ByteArray)) := (zaB BK232.out 1).trans rfl;have hcz12_2 : w11.cell? ⟨gb232,2,none⟩ = some (.int .i64 0) := (zaB BK232.out 2).trans rfl;have hcz12_3 : w11.cell? ⟨gb232,3,none⟩ = some (.int .i64 0) := (zaB BK232.out 3).trans rfl;have hfz12_0 := zaK BK232.out 0;have hfz12_1 := zaK BK232.out 1;have hfz12_2 := zaK BK232.out 2;have hfz12_3 := zaK BK232.out 3))
  go_ret
  exact ⟨qE,qG GE232⟩
 obtain ⟨t233,A13,H⟩ := bdA H
 replace H : (if t233 = true then (zdY k1 l0 (wrap64 (x1_1 + ((zaA l0 x1_1).f3))) a2) else (some false)) = some r := H
 by_cases c14 : t233 = true
 ·subst c14
  have H1 : (zdY k1 l0 (wrap64 (x1_1 + ((zaA l0 x1_1).f3))) a2) = some r := by rw [if_pos rfl] at H;exact H
  clear H
  have H := H1
  clear H1
  have H' := Aside0.mk H
  clear H
  obtain ⟨ad231,e231,p231,q231,hx231_0,hx231_1,hx231_2,hx231_3⟩ := aT56 HR0 HB x1_1
  cases e231
  go_wp2_with (first | ((with_reducible refine zdT (N := 7) rfl ?_);refine zeW ?hg (N := 7) ?hd (cs := #[.int .u8 0,.string (⟨#[]⟩ : ByteArray),.int .i64 0,.int .i64 0]) (t := 56) ?hr ?_;(case hd => rfl);(case hg => rfl);(case hr => first | (go_simp;done) | (go_simp;rfl));intro gb232 hg w15 hbox hb;have n0_ := Aside0.mk (zaD qB hb);have n1_ := Aside0.mk (hbox);have n2_ := Aside0.mk ((by rw [hg];exact (zaF qB) : w.heap.size ≤ gb232));have n3_ := Aside0.mk ((by rw [hg];exact (zaF qB) : w.heap.size ≤ gb232));clear HB;have HB := n0_;have BK232 := n1_;have GW232 := n2_;have GE232 := n3_;clear n0_ n1_ n2_ n3_;clear hb hbox hg;have hcz16_0 : w15.cell? ⟨gb232,0,none⟩ = some (.int .u8 0) := (zaB BK232.out 0).trans rfl;have hcz16_1 : w15.cell? ⟨gb232,1,none⟩ = some (.string (⟨#[]⟩ : ByteArray)) := (zaB BK232.out 1).trans rfl;have hcz16_2 : w15.cell? ⟨gb232,2,none⟩ = some (.int .i64 0) := (zaB BK232.out 2).trans rfl;have hcz16_3 : w15.cell? ⟨gb232,3,none⟩ = some (.int .i64 0) := (zaB BK232.out 3).trans rfl;have hfz16_0 := zaK BK232.out 0;have hfz16_1 := zaK BK232.out 1;have hfz16_2 := zaK BK232.out 2;have hfz16_3 := zaK BK232.out 3) | (go_at_call 102;(with_reducible refine (ih k1 (by have := HK1.out;omega) _ _ l0 (wrap64 (x1_1 + 1)) (wrap64 (x1_1 + ((zaA l0 x1_1).f3))) true _ ?side1 ?side2 A13.out).mono ?_);(case side1 => exact Kd.C_below HR0.out (qG GE232));(case side2 => exact HC0.out);rintro e w17 ⟨rfl,hb⟩;have n0_ := Aside0.mk (zaG (g := gb232) (o := .cells #[.int .u8 ((zaA l0 x1_1).f0),.string ((zaA l0 x1_1).f1),.int .i64 ((zaA l0 x1_1).f2),.int .i64 ((zaA l0 x1_1).f3)] 56 (0,0)) (qK BK232) hb);have n1_ := Aside0.mk (zaD (qG GE232) hb);clear BK232;clear HB;have BK232 := n0_;have HB := n1_;clear n0_ n1_;(try clear hb);(try clear hb2);(try clear hk);(try clear hi);have hcz18_0 : w17.cell? ⟨gb232,0,none⟩ = some (.int .u8 ((zaA l0 x1_1).f0)) := (zaB BK232.out 0).trans rfl;have hcz18_1 : w17.cell? ⟨gb232,1,none⟩ = some (.string ((zaA l0 x1_1).f1)) := (zaB BK232.out 1).trans rfl;have hcz18_2 : w17.cell? ⟨gb232,2,none⟩ = some (.int .i64 ((zaA l0 x1_1).f2)) := (zaB BK232.out 2).trans rfl;have hcz18_3 : w17.cell? ⟨gb232,3,none⟩ = some (.int .i64 ((zaA l0 x1_1).f3)) := (zaB BK232.out 3).trans rfl;have hfz18_0 := zaK BK232.out 0;have hfz18_1 := zaK BK232.out 1;have hfz18_2 := zaK BK232.out 2;have hfz18_3 := zaK BK232.out 3))
  go_roundg k1
  case measure => have := HK1.out;omega
  case rel => exact ⟨(wrap64 (x1_1 + ((zaA l0 x1_1).f3))),qS,H',⟨by have := HK1.out;omega⟩,⟨qG GE232⟩⟩
 replace c14 := Bool.eq_false_iff.mpr c14
 subst c14
 have H1 : (some false) = some r := by rw [if_neg nft] at H;exact H
 clear H
 have H := H1
 clear H1
 obtain rfl := Option.some.inj H
 obtain ⟨ad231,e231,p231,q231,hx231_0,hx231_1,hx231_2,hx231_3⟩ := aT56 HR0 HB x1_1
 cases e231
 go_wp2_with (first | ((with_reducible refine zdT (N := 7) rfl ?_);refine zeW ?hg (N := 7) ?hd (cs := #[.int .u8 0,.string (⟨#[]⟩ : ByteArray),.int .i64 0,.int .i64 0]) (t := 56) ?hr ?_;(case hd => rfl);(case hg => rfl);(case hr => first | (go_simp;done) | (go_simp;rfl));intro gb232 hg w19 hbox hb;have n0_ := Aside0.mk (zaD qB hb);have n1_ := Aside0.mk (hbox);have n2_ := Aside0.mk ((by rw [hg];exact (zaF qB) : w.heap.size ≤ gb232));have n3_ := Aside0.mk ((by rw [hg];exact (zaF qB) : w.heap.size ≤ gb232));clear HB;have HB := n0_;have BK232 := n1_;have GW232 := n2_;have GE232 := n3_;clear n0_ n1_ n2_ n3_;clear hb hbox hg;have hcz20_0 : w19.cell? ⟨gb232,0,none⟩ = some (.int .u8 0) := (zaB BK232.out 0).trans rfl;have hcz20_1 : w19.cell? ⟨gb232,1,none⟩ = some (.string (⟨#[]⟩ : ByteArray)) := (zaB BK232.out 1).trans rfl;have hcz20_2 : w19.cell? ⟨gb232,2,none⟩ = some (.int .i64 0) := (zaB BK232.out 2).trans rfl;have hcz20_3 : w19.cell? ⟨gb232,3,none⟩ = some (.int .i64 0) := (zaB BK232.out 3).trans rfl;have hfz20_0 := zaK BK232.out 0;have hfz20_1 := zaK BK232.out 1;have hfz20_2 := zaK BK232.out 2;have hfz20_3 := zaK BK232.out 3) | (go_at_call 102;(with_reducible refine (ih k1 (by have := HK1.out;omega) _ _ l0 (wrap64 (x1_1 + 1)) (wrap64 (x1_1 + ((zaA l0 x1_1).f3))) false _ ?side1 ?side2 A13.out).mono ?_);(case side1 => exact Kd.C_below HR0.out (qG GE232));(case side2 => exact HC0.out);rintro e w21 ⟨rfl,hb⟩;have n0_ := Aside0.mk (zaG (g := gb232) (o := .cells #[.int .u8 ((zaA l0 x1_1).f0),.string ((zaA l0 x1_1).f1),.int .i64 ((zaA l0 x1_1).f2),.int .i64 ((zaA l0 x1_1).f3)] 56 (0,0)) (qK BK232) hb);have n1_ := Aside0.mk (zaD (qG GE232) hb);clear BK232;clear HB;have BK232 := n0_;have HB := n1_;clear n0_ n1_;(try clear hb);(try clear hb2);(try clear hk);(try clear hi)))
 go_ret
 exact ⟨qE,qG GE232⟩
end Go.Proofs.Ythcmfjpheanphaa.Pr
namespace Go.Proofs.Ythcmfjpheanphaa.Pr
open Go.RowKit Go.Maps Go.Proofs.YthcmfjpheanphaaW.PrintWords
attribute [local go_sem] Oper.semAt_some
def zeK : Bld → Int → List S47 → Int
 | _,out,[] => out
 | s,out,x :: l => if (x.f0 == 1 && !mayP s.row 46) = true then 2
  else if zeE out (zbF s x).2.2 = 2 then 2 else zeK (zbF s x).1 (zeE out (zbF s x).2.2) l
set_option pp.maxSteps 3000 in
theorem yfM (A0 : Option Addr) (c0 : Nat) (t : List S56) (w : World) (hlen : t.length ≤ 400000) (hz : ∀ x ∈ t,x.f1.size ≤ 1000000) (hA : Kd.C k56 w A0 t.length t) (hc0 : t.length ≤ c0)
  (k1 : Nat) (b : Bool) (hsz : tree_sized.f k1 t 0 (t.length : Int) = some b) (k2 : Nat) (ev : List S47) (hev : b = true → tree_events.f k2 t = some ev ∧ ev.length ≤ 800000 ∧ ∀ x ∈ ev,zrH 1000000 x) :
  Calls Try.prog 57 #[.slice A0 t.length c0] w fun e w' => e = .returned (.int .i64 (if ((t.any fun x => !zdS x) || !b) = true then 2 else zeK bld0 0 ev)) ∧ Below w.heap.size w w' := by
 have HA := Lib.hid hA
 have HCN := Lib.hid (ztV A0 c0 t w (by omega) (fun x hx => by have := hz x hx;omega) hA)
 have HSZ := Lib.hid (fun W (hW : Kd.C k56 W A0 t.length t) => tree_sized.calls k1 A0 c0 t 0 (t.length : Int) b W hW hc0 hsz)
 have HEV := Lib.hid hev
 obtain ⟨R,hR⟩ : ∃ R,(if ((t.any fun x => !zdS x) || !b) = true then 2 else zeK bld0 0 ev) = R := ⟨_,rfl⟩
 rw [hR]
 have HR := Lib.hid hR
 clear hA hsz hev hR hz
 cases hp : (t.any fun x => !zdS x)
 ·rw [hp] at HCN HR
  clear hp
  cases b
  ·have HR2 := Lib.hid (show R = 2 from HR.out.symm)
   go_enter Try.func57,Try.ntmps57
   go_wp2_with (first | (go_at_call 99;(with_reducible refine HCN.out.mono ?_);rintro e w1 ⟨rfl,hb1⟩) | (go_at_call 102;(with_reducible refine (HSZ.out _ (Kd.C_below HA.out hb1)).mono ?_);rintro e w2 ⟨rfl,hb2⟩))
   go_ret
   exact ⟨by rw [HR2.out];rfl,hb1.trans (hb2.mono hb1.size)⟩
  ·obtain ⟨hE,hel,hok⟩ := HEV.out rfl
   have HE := Lib.hid (fun W (hW : Kd.C k56 W A0 t.length t) => tree_events.calls k2 A0 c0 t ev W hW hc0 hE)
   have HOK := Lib.hid hok
   have HR2 := Lib.hid (show zeK bld0 0 ev = R from HR.out)
   clear hE hok HEV HR
   go_enter Try.func57,Try.ntmps57
   go_wp2_with (first | (go_at_call 99;(with_reducible refine HCN.out.mono ?_);rintro e w1 ⟨rfl,hb1⟩) | (go_at_call 102;(with_reducible refine (HSZ.out _ (Kd.C_below HA.out hb1)).mono ?_);rintro e w2 ⟨rfl,hb2⟩))
   have HW2 := Lib.hid (hb1.trans (hb2.mono hb1.size))
   clear hb1 hb2
   refine (zsD w2).mono ?_
   rintro e w3 ⟨g,m,rfl,hb,hb3⟩
   have HB := Lib.hid hb
   have HB3 := Lib.hid hb3
   clear hb hb3
   go_wp2_with fail
   have hW3 : Below w3.heap.size w3 (w3.alloc (.cells #[.nilFunc,.func (.func 92) #[.pointer (some ⟨g,0,none⟩)] #[],.func (.func 93) #[.pointer (some ⟨g,0,none⟩)] #[],.func (.func 94) #[.pointer (some ⟨g,0,none⟩)] #[]] 98)) := (Below.refl _ _).alloc (Nat.le_refl _) _
   have hS3 := zbW w3 (.cells #[.nilFunc,.func (.func 92) #[.pointer (some ⟨g,0,none⟩)] #[],.func (.func 93) #[.pointer (some ⟨g,0,none⟩)] #[],.func (.func 94) #[.pointer (some ⟨g,0,none⟩)] #[]] 98)
   obtain ⟨W3,hW3'⟩ : ∃ W3,w3.alloc (.cells #[.nilFunc,.func (.func 92) #[.pointer (some ⟨g,0,none⟩)] #[],.func (.func 93) #[.pointer (some ⟨g,0,none⟩)] #[],.func (.func 94) #[.pointer (some ⟨g,0,none⟩)] #[]] 98) = W3 := ⟨_,rfl⟩
   rw [hW3'] at hW3 hS3 ⊢
   clear hW3'
   have h03 : Below w.heap.size w W3 := HW2.out.trans ((HB3.out.trans (hW3.mono HB3.out.size)).mono HW2.out.size)
   refine (HE.out W3 (Kd.C_below HA.out h03)).mono ?_
   rintro e W4 ⟨v,rfl,hR4,hb4⟩
   obtain ⟨A,c,rfl,hc,hC⟩ := Kd.R_reads hR4
   have HB4 := Lib.hid ((HB.out.below hW3).below hb4)
   have HS4 := Lib.hid (zaG hS3 hb4)
   have HR4 := Lib.hid hR4
   have HL4 := Lib.hid (h03.trans (hb4.mono h03.size))
   have hz4 : w2.heap.size ≤ W4.heap.size := Nat.le_trans (Nat.le_trans HB3.out.size hW3.size) hb4.size
   have HZ4 := Lib.hid hz4
   have HZ1 := Lib.hid HW2.out.size
   have HR4' := Lib.hid (Kd.R_lower hR4 (Nat.zero_le _))
   clear hW3 hS3 hR4 hb4 HB hC h03 HB3 HW2 HCN HSZ HE
   go_wp2_with fail
   go_loopw [5,30] (fun v5 v wr => ∃ (k : Nat) (s : Bld) (vr vt : Value) (out : Int),k ≤ ev.length ∧ v = .int .i64 k ∧ v5 = .int .i64 out ∧ BAt wr w2.heap.size g m vr vt s ∧ BOk s k ∧ Below w2.heap.size W4 wr ∧ zeB W4 wr ∧ zeK s out (ev.drop k) = R) (fun _ v _ => ev.length - (intOf v).toNat)
   case atStart => exact ⟨0,bld0,_,_,0,Nat.zero_le _,rfl,rfl,HB4.out,ybU,Below.refl _ _,zeB.refl _,HR2.out⟩
   case round =>
    obtain ⟨k,s,vr,vt,out,hk,rfl,rfl,hb,hbk,hlow,hkeep,hrun⟩ := hrel
    have HBA := Lib.hid hb
    have HBK := Lib.hid hbk
    have HLO := Lib.hid hlow
    have HKE := Lib.hid hkeep
    have HRU := Lib.hid hrun
    clear hb hbk hlow hkeep hrun
    by_cases hlt : k < ev.length
    ·have hlt1 : (k : Int) < (ev.length : Int) := by omega
     have hRw := zsO HR4'.out HKE.out
     obtain ⟨A',c',he',_,hC⟩ := Kd.R_reads hRw
     simp only [Value.slice.injEq] at he'
     obtain ⟨rfl,-,rfl⟩ := he'
     obtain ⟨ad,e1,q0,q1,q2,q3⟩ := zpO hC k (by omega) (by omega)
     subst e1
     simp only [Int.toNat_natCast] at q0 q1 q2 q3
     have hxl : ev[k]? = some (zaI ev k) := by
      unfold zaI
      rw [Int.toNat_natCast,List.getD_eq_getElem?_getD,List.getElem?_eq_getElem hlt]
      rfl
     have hxok := HOK.out _ (List.mem_of_getElem? hxl)
     have hdrop : ev.drop k = zaI ev k :: ev.drop (k + 1) := by
      rw [List.drop_eq_getElem_cons hlt]
      rw [List.getElem?_eq_getElem hlt] at hxl
      rw [Option.some.inj hxl]
     have hst := HRU.out
     rw [hdrop] at hst
     have hst2 : (if ((zaI ev k).f0 == 1 && !mayP s.row 46) = true then 2 else if zeE out (zbF s (zaI ev k)).2.2 = 2 then 2 else zeK (zbF s (zaI ev k)).1 (zeE out (zbF s (zaI ev k)).2.2) (ev.drop (k + 1))) = R := hst
     clear hst hdrop hxl hRw hC
     generalize zaI ev k = x at *
     have hstep := fun W (hW : BAt W w2.heap.size g m vr vt s) (hz : w2.heap.size ≤ W.heap.size) => ztT w2.heap.size g m vr vt s x W hxok hz (by have := HBK.out.row;omega) (by have := HBK.out.t;omega) HBK.out.kinds HBK.out.pos HBK.out.chain hW
     have hmay := fun W (hW : BAt W w2.heap.size g m vr vt s) => zpT w2.heap.size g m vr vt s 46 W (by omega) (by omega) (by have := HBK.out.row;omega) HBK.out.kinds hW
     have hok2 := zyU HBK.out hxok
     have hf := hxok.1
     obtain ⟨f0,f1,f2,f3⟩ := x
     simp only at hstep q0 q1 q2 q3 hf hst2
     obtain ⟨⟨s',ra,re⟩,hRR⟩ : ∃ r,zbF s ⟨f0,f1,f2,f3⟩ = r := ⟨_,rfl⟩
     obtain ⟨mm,hmm⟩ : ∃ b,mayP s.row 46 = b := ⟨_,rfl⟩
     simp only [hRR] at hstep hst2 hok2
     rw [hmm] at hst2
     simp only [hmm] at hmay
     obtain ⟨wo,hwo⟩ : ∃ z,zeE out re = z := ⟨_,rfl⟩
     have hworse := fun W => yaY out re W
     rw [hwo] at hst2
     simp only [hwo] at hworse
     have HST := Lib.hid hstep
     have HMA := Lib.hid hmay
     have HWO := Lib.hid hworse
     have HS2 := Lib.hid hst2
     have HOK2 := Lib.hid hok2
     have hX0 := zbW wr (.cells #[.int .i64 f0,.int .u8 f1,.string f2,.int .i64 f3] 47)
     have hb0 : Below wr.heap.size wr (wr.alloc (.cells #[.int .i64 f0,.int .u8 f1,.string f2,.int .i64 f3] 47)) := (Below.refl _ _).alloc (Nat.le_refl _) _
     have HX0 := Lib.hid hX0
     have HB0 := Lib.hid hb0
     clear hstep hst2 hRR hok2 hxok hmay hworse hwo hmm hX0 hb0
     by_cases hbad : f0 = 1 ∧ mm = false
     ·obtain ⟨rfl,rfl⟩ := hbad
      have HR3 := Lib.hid (show R = 2 from HS2.out.symm)
      go_wp2_with (go_at_call 104;(with_reducible refine (HMA.out _ (HBA.out.below HB0.out)).mono ?_);rintro e w5 ⟨rfl,hb5⟩)
      go_ret
      refine ⟨by rw [HR3.out];rfl,?_⟩
      have hx := HL4.out.trans (HLO.out.mono HZ1.out)
      exact (hx.trans (HB0.out.mono hx.size)).trans (hb5.mono (Nat.le_trans hx.size HB0.out.size))
     ·have hst3 : (if wo = 2 then 2 else zeK s' wo (ev.drop (k + 1))) = R := by
       rw [← HS2.out]
       have : (f0 == 1 && !mm) = false := by
        rw [Bool.and_eq_false_iff]
        by_cases e : f0 = 1
        ·right;cases mm with
         | true => rfl
         | false => exact absurd ⟨e,rfl⟩ hbad
        ·left;exact beq_eq_false_iff_ne.2 e
       rw [this]
       rfl
      have HS3 := Lib.hid hst3
      have hmode : (f0 = 1 ∧ mm = true) ∨ f0 = 2 ∨ f0 = 3 := by
       rcases hf with h | h | h
       ·left;exact ⟨h,by cases mm with | true => rfl | false => exact absurd ⟨h,rfl⟩ hbad⟩
       ·right;left;exact h
       ·right;right;exact h
      clear hst3 hbad HS2 hf
      rcases hmode with ⟨rfl,rfl⟩ | rfl | rfl
      ·go_wp2_with (go_at_call 104;(with_reducible refine (HMA.out _ (HBA.out.below HB0.out)).mono ?_);rintro e w5 ⟨rfl,hb5⟩)
       have HX5 := Lib.hid (zaG HX0.out hb5)
       have HB5 := Lib.hid (HB0.out.trans (hb5.mono HB0.out.size))
       clear hb5
       obtain ⟨W5,hW5⟩ : ∃ W5,w5.drew = W5 := ⟨_,rfl⟩
       have hb6 : Below wr.heap.size wr W5 := by rw [← hW5];exact zaJ HB5.out
       have hmv : ∀ (i : Nat) (o : Obj),w5.heap[i]? = some o → W5.heap[i]? = some o := fun i o ho => by rw [← hW5];exact ho
       have hX6 := hmv _ _ HX5.out
       clear hmv
       have hS6 := zaG (HKE.out _ _ HS4.out rfl) hb6
       have HX6 := Lib.hid hX6
       have HS6 := Lib.hid hS6
       have HB6 := Lib.hid hb6
       clear hX6 hS6 hb6
       refine Go.Mix.region_mix' (fun b W => cond b (zfW w2.heap.size g m s' W5 W) (W = W5)) 5 11 [] (by kernel_rfl) (by kernel_rfl) (fun _ _ _ _ _ h => h) hW5 ?_
       clear hW5 q0 q1 q2 q3
       refine Go.Mix.seqE_nil ?_
       repeat
        apply Go.Mix.seqM_cons (by rfl) (by rfl)
        focus
         intro b W hS
         have hX := zhB hS HX6.out rfl
         have hZ := zhB hS HS6.out rfl
         have x0 := zaB hX 0
         have x1 := zaB hX 1
         have x2 := zaB hX 2
         have x3 := zaB hX 3
         have s1 := zaB hZ 1
         have s2 := zaB hZ 2
         have s3 := zaB hZ 3
         simp only [gzz] at x0 x1 x2 x3 s1 s2 s3
         have HS := Lib.hid hS
         clear hS hX hZ
         go_wp2
         exact Go.Det.AtEnd.mk HS.out
       apply Go.Mix.seqM_main (by rfl)
       focus
        intro W hS
        obtain rfl : W = W5 := hS
        go_wp2_with fail
        refine (HST.out W (HBA.out.below HB6.out) (Nat.le_trans (Nat.le_trans HZ4.out HLO.out.size) HB6.out.size)).mono ?_
        rintro e W7 ⟨rfl,hst⟩
        have HSTT := Lib.hid hst
        clear hst
        go_wp2
        exact Go.Det.AtEnd.mk HSTT.out
       repeat
        apply Go.Mix.seqM_cons (by rfl) (by rfl)
        focus
         intro b W hS
         have HS := Lib.hid hS
         clear hS
         go_wp2
         exact Go.Det.AtEnd.mk HS.out
       refine Go.Mix.seqM_nil ?_
       intro W7 hW7
       obtain ⟨vr5,vt5,hb5,hl5,hk5⟩ := (show zfW w2.heap.size g m s' W5 W7 from hW7)
       clear hW7
       simp only [List.drop_succ_cons,List.drop_zero,Exit.then]
       have HB7 := Lib.hid hb5
       have HL7 := Lib.hid ((HLO.out.trans (zcT HB6.out (Nat.le_trans HZ4.out HLO.out.size))).trans hl5)
       have HK7 := Lib.hid ((HKE.out.trans (zeB.below HB6.out)).trans hk5)
       clear hb5 hl5 hk5
       by_cases hw2 : wo = 2
       ·have HR3 := Lib.hid (show R = 2 from by rw [← HS3.out,if_pos hw2])
        have hwb : (wo == 2) = true := beq_iff_eq.2 hw2
        subst hw2
        go_wp2_with (go_at_call 105;(with_reducible refine (HWO.out _).mono ?_);rintro e w8 ⟨rfl,rfl⟩)
        go_ret
        exact ⟨by rw [HR3.out];rfl,HL4.out.trans (HL7.out.mono HZ1.out)⟩
       ·have HR3 := Lib.hid (show zeK s' wo (ev.drop (k + 1)) = R from by rw [← HS3.out,if_neg hw2])
        have hwb : (wo == 2) = false := beq_eq_false_iff_ne.2 hw2
        clear hw2
        go_wp2_with (go_at_call 105;(with_reducible refine (HWO.out _).mono ?_);rintro e w8 ⟨rfl,rfl⟩)
        go_roundw
        case rel => exact ⟨k + 1,s',vr5,vt5,wo,by omega,by go_num,rfl,HB7.out,HOK2.out,HL7.out,HK7.out,HR3.out⟩
        case measure => simp [intOf];omega
      ·go_wp2
       obtain ⟨w5,hw5⟩ : ∃ w5,wr.alloc (.cells #[.int .i64 2,.int .u8 f1,.string f2,.int .i64 f3] 47) = w5 := ⟨_,rfl⟩
       rw [hw5] at HX0 HB0 ⊢
       have HX5 := HX0
       have HB5 := HB0
       clear hw5
       obtain ⟨W5,hW5⟩ : ∃ W5,w5.drew = W5 := ⟨_,rfl⟩
       have hb6 : Below wr.heap.size wr W5 := by rw [← hW5];exact zaJ HB5.out
       have hmv : ∀ (i : Nat) (o : Obj),w5.heap[i]? = some o → W5.heap[i]? = some o := fun i o ho => by rw [← hW5];exact ho
       have hX6 := hmv _ _ HX5.out
       clear hmv
       have hS6 := zaG (HKE.out _ _ HS4.out rfl) hb6
       have HX6 := Lib.hid hX6
       have HS6 := Lib.hid hS6
       have HB6 := Lib.hid hb6
       clear hX6 hS6 hb6
       refine Go.Mix.region_mix' (fun b W => cond b (zfW w2.heap.size g m s' W5 W) (W = W5)) 5 11 [] (by kernel_rfl) (by kernel_rfl) (fun _ _ _ _ _ h => h) hW5 ?_
       clear hW5 q0 q1 q2 q3
       refine Go.Mix.seqE_nil ?_
       repeat
        apply Go.Mix.seqM_cons (by rfl) (by rfl)
        focus
         intro b W hS
         have hX := zhB hS HX6.out rfl
         have hZ := zhB hS HS6.out rfl
         have x0 := zaB hX 0
         have x1 := zaB hX 1
         have x2 := zaB hX 2
         have x3 := zaB hX 3
         have s1 := zaB hZ 1
         have s2 := zaB hZ 2
         have s3 := zaB hZ 3
         simp only [gzz] at x0 x1 x2 x3 s1 s2 s3
         have HS := Lib.hid hS
         clear hS hX hZ
         go_wp2
         exact Go.Det.AtEnd.mk HS.out
       apply Go.Mix.seqM_main (by rfl)
       focus
        intro W hS
        obtain rfl : W = W5 := hS
        go_wp2_with fail
        refine (HST.out W (HBA.out.below HB6.out) (Nat.le_trans (Nat.le_trans HZ4.out HLO.out.size) HB6.out.size)).mono ?_
        rintro e W7 ⟨rfl,hst⟩
        have HSTT := Lib.hid hst
        clear hst
        go_wp2
        exact Go.Det.AtEnd.mk HSTT.out
       repeat
        apply Go.Mix.seqM_cons (by rfl) (by rfl)
        focus
         intro b W hS
         have HS := Lib.hid hS
         clear hS
         go_wp2
         exact Go.Det.AtEnd.mk HS.out
       refine Go.Mix.seqM_nil ?_
       intro W7 hW7
       obtain ⟨vr5,vt5,hb5,hl5,hk5⟩ := (show zfW w2.heap.size g m s' W5 W7 from hW7)
       clear hW7
       simp only [List.drop_succ_cons,List.drop_zero,Exit.then]
       have HB7 := Lib.hid hb5
       have HL7 := Lib.hid ((HLO.out.trans (zcT HB6.out (Nat.le_trans HZ4.out HLO.out.size))).trans hl5)
       have HK7 := Lib.hid ((HKE.out.trans (zeB.below HB6.out)).trans hk5)
       clear hb5 hl5 hk5
       by_cases hw2 : wo = 2
       ·have HR3 := Lib.hid (show R = 2 from by rw [← HS3.out,if_pos hw2])
        have hwb : (wo == 2) = true := beq_iff_eq.2 hw2
        subst hw2
        go_wp2_with (go_at_call 105;(with_reducible refine (HWO.out _).mono ?_);rintro e w8 ⟨rfl,rfl⟩)
        go_ret
        exact ⟨by rw [HR3.out];rfl,HL4.out.trans (HL7.out.mono HZ1.out)⟩
       ·have HR3 := Lib.hid (show zeK s' wo (ev.drop (k + 1)) = R from by rw [← HS3.out,if_neg hw2])
        have hwb : (wo == 2) = false := beq_eq_false_iff_ne.2 hw2
        clear hw2
        go_wp2_with (go_at_call 105;(with_reducible refine (HWO.out _).mono ?_);rintro e w8 ⟨rfl,rfl⟩)
        go_roundw
        case rel => exact ⟨k + 1,s',vr5,vt5,wo,by omega,by go_num,rfl,HB7.out,HOK2.out,HL7.out,HK7.out,HR3.out⟩
        case measure => simp [intOf];omega
      ·go_wp2
       obtain ⟨w5,hw5⟩ : ∃ w5,wr.alloc (.cells #[.int .i64 3,.int .u8 f1,.string f2,.int .i64 f3] 47) = w5 := ⟨_,rfl⟩
       rw [hw5] at HX0 HB0 ⊢
       have HX5 := HX0
       have HB5 := HB0
       clear hw5
       obtain ⟨W5,hW5⟩ : ∃ W5,w5.drew = W5 := ⟨_,rfl⟩
       have hb6 : Below wr.heap.size wr W5 := by rw [← hW5];exact zaJ HB5.out
       have hmv : ∀ (i : Nat) (o : Obj),w5.heap[i]? = some o → W5.heap[i]? = some o := fun i o ho => by rw [← hW5];exact ho
       have hX6 := hmv _ _ HX5.out
       clear hmv
       have hS6 := zaG (HKE.out _ _ HS4.out rfl) hb6
       have HX6 := Lib.hid hX6
       have HS6 := Lib.hid hS6
       have HB6 := Lib.hid hb6
       clear hX6 hS6 hb6
       refine Go.Mix.region_mix' (fun b W => cond b (zfW w2.heap.size g m s' W5 W) (W = W5)) 5 11 [] (by kernel_rfl) (by kernel_rfl) (fun _ _ _ _ _ h => h) hW5 ?_
       clear hW5 q0 q1 q2 q3
       refine Go.Mix.seqE_nil ?_
       repeat
        apply Go.Mix.seqM_cons (by rfl) (by rfl)
        focus
         intro b W hS
         have hX := zhB hS HX6.out rfl
         have hZ := zhB hS HS6.out rfl
         have x0 := zaB hX 0
         have x1 := zaB hX 1
         have x2 := zaB hX 2
         have x3 := zaB hX 3
         have s1 := zaB hZ 1
         have s2 := zaB hZ 2
         have s3 := zaB hZ 3
         simp only [gzz] at x0 x1 x2 x3 s1 s2 s3
         have HS := Lib.hid hS
         clear hS hX hZ
         go_wp2
         exact Go.Det.AtEnd.mk HS.out
       apply Go.Mix.seqM_main (by rfl)
       focus
        intro W hS
        obtain rfl : W = W5 := hS
        go_wp2_with fail
        refine (HST.out W (HBA.out.below HB6.out) (Nat.le_trans (Nat.le_trans HZ4.out HLO.out.size) HB6.out.size)).mono ?_
        rintro e W7 ⟨rfl,hst⟩
        have HSTT := Lib.hid hst
        clear hst
        go_wp2
        exact Go.Det.AtEnd.mk HSTT.out
       repeat
        apply Go.Mix.seqM_cons (by rfl) (by rfl)
        focus
         intro b W hS
         have HS := Lib.hid hS
         clear hS
         go_wp2
         exact Go.Det.AtEnd.mk HS.out
       refine Go.Mix.seqM_nil ?_
       intro W7 hW7
       obtain ⟨vr5,vt5,hb5,hl5,hk5⟩ := (show zfW w2.heap.size g m s' W5 W7 from hW7)
       clear hW7
       simp only [List.drop_succ_cons,List.drop_zero,Exit.then]
       have HB7 := Lib.hid hb5
       have HL7 := Lib.hid ((HLO.out.trans (zcT HB6.out (Nat.le_trans HZ4.out HLO.out.size))).trans hl5)
       have HK7 := Lib.hid ((HKE.out.trans (zeB.below HB6.out)).trans hk5)
       clear hb5 hl5 hk5
       by_cases hw2 : wo = 2
       ·have HR3 := Lib.hid (show R = 2 from by rw [← HS3.out,if_pos hw2])
        have hwb : (wo == 2) = true := beq_iff_eq.2 hw2
        subst hw2
        go_wp2_with (go_at_call 105;(with_reducible refine (HWO.out _).mono ?_);rintro e w8 ⟨rfl,rfl⟩)
        go_ret
        exact ⟨by rw [HR3.out];rfl,HL4.out.trans (HL7.out.mono HZ1.out)⟩
       ·have HR3 := Lib.hid (show zeK s' wo (ev.drop (k + 1)) = R from by rw [← HS3.out,if_neg hw2])
        have hwb : (wo == 2) = false := beq_eq_false_iff_ne.2 hw2
        clear hw2
        go_wp2_with (go_at_call 105;(with_reducible refine (HWO.out _).mono ?_);rintro e w8 ⟨rfl,rfl⟩)
        go_roundw
        case rel => exact ⟨k + 1,s',vr5,vt5,wo,by omega,by go_num,rfl,HB7.out,HOK2.out,HL7.out,HK7.out,HR3.out⟩
        case measure => simp [intOf];omega
    ·obtain rfl : k = ev.length := by omega
     have hlt1 : ¬ (ev.length : Int) < (ev.length : Int) := by omega
     have hend : R = out := by rw [← HRU.out,List.drop_length];rfl
     have HEND := Lib.hid hend
     clear hend
     go_wp2
     go_ret
     exact ⟨by rw [HEND.out];rfl,HL4.out.trans (HLO.out.mono HZ1.out)⟩
 ·rw [hp] at HCN HR
  have HR2 := Lib.hid (show R = 2 from HR.out.symm)
  clear hp
  go_enter Try.func57,Try.ntmps57
  go_wp2_with (go_at_call 99;(with_reducible refine HCN.out.mono ?_);rintro e w1 ⟨rfl,hb1⟩)
  go_ret
  exact ⟨by rw [HR2.out];rfl,hb1⟩
end Go.Proofs.Ythcmfjpheanphaa.Pr
namespace Go.Proofs.Ythcmfjpheanphaa.Pr
open Go.RowKit Go.Proofs.YthcmfjpheanphaaW.PrintWords
def zlC : Nat → List S56 → Nat → Nat → Bool
 | 0,_,_,_ => false
 | n + 1,t,a,e => if a < e then (if 1 ≤ (zaA t a).f3 ∧ (zaA t a).f3 ≤ (e : Int) - a then zlC n t (a + 1) (a + (zaA t a).f3.toNat) && zlC n t (a + (zaA t a).f3.toNat) e else false) else true
theorem zkS (t : List S56) : ∀ (n m a e : Nat),e - a < n → e - a < m → zlC n t a e = zlC m t a e
 | 0,_,_,_,h,_ => by omega
 | _ + 1,0,_,_,_,h => by omega
 | n + 1,m + 1,a,e,h1,h2 => by
  simp only [zlC]
  by_cases hlt : a < e
  ·rw [if_pos hlt,if_pos hlt]
   by_cases hs : 1 ≤ (zaA t a).f3 ∧ (zaA t a).f3 ≤ (e : Int) - a
   ·rw [if_pos hs,if_pos hs,zkS t n m (a + 1) _ (by omega) (by omega),zkS t n m (a + (zaA t a).f3.toNat) e (by omega) (by omega)]
   rw [if_neg hs,if_neg hs]
  rw [if_neg hlt,if_neg hlt]
def zeH (t : List S56) (a e : Nat) : Bool := zlC (e - a + 1) t a e
theorem zjU (t : List S56) (a e : Nat) (h : ¬ a < e) : zeH t a e = true := by
 unfold zeH
 simp only [zlC]
 rw [if_neg h]
theorem ziW (t : List S56) (a e : Nat) (h : a < e) : zeH t a e = if 1 ≤ (zaA t a).f3 ∧ (zaA t a).f3 ≤ (e : Int) - a then zeH t (a + 1) (a + (zaA t a).f3.toNat) && zeH t (a + (zaA t a).f3.toNat) e else false := by
 unfold zeH
 rw [zlC]
 rw [if_pos h]
 by_cases hs : 1 ≤ (zaA t a).f3 ∧ (zaA t a).f3 ≤ (e : Int) - a
 ·rw [if_pos hs,if_pos hs]
  congr 1
  ·exact zkS t _ _ _ _ (by omega) (by omega)
  exact zkS t _ _ _ _ (by omega) (by omega)
 rw [if_neg hs,if_neg hs]
theorem zcF {n : Nat} (h : n ≤ 9000000) : wrap64 (n : Int) = n := IntWalk.wrap64_in _ ⟨by omega,by omega⟩
theorem zvS (t : List S56) (hl : t.length ≤ 1000000) : ∀ (n a e k : Nat),e - a ≤ n → a ≤ e → e ≤ t.length → 2 * n + 1 ≤ k → zdY k t a e = some (zeH t a e)
 | 0,a,e,k,h,hae,_,hk => by
  obtain ⟨k,rfl⟩ : ∃ j,k = j + 1 := ⟨k - 1,by omega⟩
  rw [zdY,if_neg (by omega),zjU t a e (by omega)]
 | n + 1,a,e,k,h,hae,he,hk => by
  obtain ⟨k,rfl⟩ : ∃ j,k = j + 2 := ⟨k - 2,by omega⟩
  rw [zdY]
  by_cases hlt : a < e
  ·have hw1 : wrap64 ((e : Int) - (a : Int)) = (e : Int) - a := by
    rw [show (e : Int) - (a : Int) = ((e - a : Nat) : Int) from by omega];exact zcF (by omega)
   rw [if_pos (by omega),if_pos (by omega),if_pos (by omega),hw1,ziW t a e hlt]
   by_cases h1 : (zaA t a).f3 < 1
   ·rw [if_pos h1,if_neg (by omega)]
   by_cases h2 : (zaA t a).f3 > (e : Int) - a
   ·rw [if_neg h1,if_pos h2,if_neg (by omega)]
   rw [if_neg h1,if_neg h2,if_pos (by omega)]
   have e1 : wrap64 ((a : Int) + 1) = ((a + 1 : Nat) : Int) := by rw [show (a : Int) + 1 = ((a + 1 : Nat) : Int) from by omega];exact zcF (by omega)
   have e2 : wrap64 ((a : Int) + (zaA t a).f3) = ((a + (zaA t a).f3.toNat : Nat) : Int) := by rw [show (a : Int) + (zaA t a).f3 = ((a + (zaA t a).f3.toNat : Nat) : Int) from by omega];exact zcF (by omega)
   rw [e1,e2]
   have ih1 := zvS t hl n (a + 1) (a + (zaA t a).f3.toNat) k (by omega) (by omega) (by omega) (by omega)
   have ih2 := zvS t hl n (a + (zaA t a).f3.toNat) e (k + 1) (by omega) (by omega) (by omega) (by omega)
   rw [tree_sized.f,ih1,ih2,Option.bind_some]
   cases zeH t (a + 1) (a + (zaA t a).f3.toNat) <;> simp
  rw [if_neg (by omega),zjU t a e hlt]
def zfD : S47 := ⟨3,0,⟨#[]⟩,0⟩
def zdP (x : S56) : S47 := if x.f0 = 46 then ⟨1,0,x.f1,0⟩ else ⟨2,x.f0,⟨#[]⟩,0⟩
def zeC : Nat → List S47 → List Int → Int → List S47 × List Int
 | 0,o,e,_ => (o,e)
 | n + 1,o,e,i => if e ≠ [] ∧ rd e ((e.length : Int) - 1) = i then zeC n (o ++ [zfD]) e.dropLast i else (o,e)
def zfM (x : S56) (i : Nat) (s : List S47 × List Int) : List S47 × List Int :=
 ((zeC s.2.length s.1 s.2 i).1 ++ [zdP x],if x.f0 = 46 then (zeC s.2.length s.1 s.2 i).2 else (zeC s.2.length s.1 s.2 i).2 ++ [(i : Int) + x.f3])
def zfX : List S56 → Nat → List S47 × List Int → List S47 × List Int
 | [],_,s => s
 | x :: l,i,s => zfX l (i + 1) (zfM x i s)
def zhL (t : List S56) : List S47 := (zfX t 0 ([],[])).1 ++ List.replicate (zfX t 0 ([],[])).2.length zfD
theorem l2_f (n : Nat) (hn : n ≤ 400000) : ∀ (d j k : Nat) (o : List S47),d + j = n → o.length + d ≤ 3000000 → d + 1 ≤ k → zeG k o n j = some (o ++ List.replicate d zfD)
 | 0,j,k,o,h,ho,hk => by
  obtain ⟨k,rfl⟩ : ∃ q,k = q + 1 := ⟨k - 1,by omega⟩
  rw [zeG,if_neg (by omega)]
  simp
 | d + 1,j,k,o,h,ho,hk => by
  obtain ⟨k,rfl⟩ : ∃ q,k = q + 1 := ⟨k - 1,by omega⟩
  rw [zeG,if_pos (by omega),Option.bind_some,if_pos (by simp;omega)]
  have e1 : wrap64 ((j : Int) + 1) = ((j + 1 : Nat) : Int) := by rw [show (j : Int) + 1 = ((j + 1 : Nat) : Int) from by omega];exact zcF (by omega)
  rw [e1,l2_f n hn d (j + 1) k _ (by omega) (by simp;omega) (by omega)]
  simp [List.replicate_succ,zfD]
theorem zlX : ∀ (d : Nat) (o : List S47) (e : List Int) (i : Int),(zeC d o e i).1.length + (zeC d o e i).2.length = o.length + e.length ∧ (zeC d o e i).2.length ≤ e.length
 | 0,o,e,i => ⟨rfl,Nat.le_refl _⟩
 | d + 1,o,e,i => by
  simp only [zeC]
  split
  ·rename_i h
   have hp : 0 < e.length := List.length_pos_iff.2 h.1
   obtain ⟨g1,g2⟩ := zlX d (o ++ [zfD]) e.dropLast i
   rw [List.length_dropLast] at g1 g2
   simp only [List.length_append,List.length_cons,List.length_nil] at g1
   exact ⟨by omega,by omega⟩
  exact ⟨rfl,Nat.le_refl _⟩
theorem l1_f (t : List S56) (n : Int) (x : S56) (i : Nat) (hi : i ≤ 400000) (h3 : 1 ≤ x.f3 ∧ x.f3 ≤ 400000) (K0 : Nat) (R : List S47) : ∀ (d : Nat) (out : List S47) (ends : List Int) (k : Nat),ends.length = d → out.length + ends.length ≤ 2 * i + 1 →
  (∀ K,K0 ≤ K → zbH K (zfM x i (out,ends)).1 (zfM x i (out,ends)).2 t n ((i + 1 : Nat) : Int) = some R) → K0 + d + 1 ≤ k + (zeC ends.length out ends i).2.length →
  zdM k out ends (i : Int) t n (i : Int) x.f0 x.f1 x.f2 x.f3 = some R
 | 0,out,ends,k,hd,hb,hR,hk => by
  obtain rfl : ends = [] := List.eq_nil_of_length_eq_zero hd
  simp only [List.length_nil,zeC] at hk
  obtain ⟨k,rfl⟩ : ∃ q,k = q + 1 := ⟨k - 1,by omega⟩
  have hR' := hR k (by omega)
  unfold zfM at hR'
  simp only [zeC,List.length_nil] at hR'
  have e1 : wrap64 ((i : Int) + 1) = ((i + 1 : Nat) : Int) := by rw [show (i : Int) + 1 = ((i + 1 : Nat) : Int) from by omega];exact zcF (by omega)
  have e2 : wrap64 ((i : Int) + x.f3) = (i : Int) + x.f3 := by
   rw [show (i : Int) + x.f3 = ((i + x.f3.toNat : Nat) : Int) from by omega];exact zcF (by omega)
  simp only [List.length_nil] at hb
  rw [zdM,if_neg (by simp)]
  by_cases h46 : x.f0 = 46
  ·rw [if_pos h46,Option.bind_some,if_pos (by simp;omega),e1]
   rw [if_pos h46] at hR'
   rw [show ([(⟨1,0,x.f1,0⟩ : S47)] : List S47) = [zdP x] from by unfold zdP;rw [if_pos h46]]
   exact hR'
  rw [if_neg h46,Option.bind_some,if_pos (by simp;omega),Option.bind_some,if_pos (by simp),e1,e2]
  rw [if_neg h46] at hR'
  rw [show ([(⟨2,x.f0,⟨#[]⟩,0⟩ : S47)] : List S47) = [zdP x] from by unfold zdP;rw [if_neg h46]]
  exact hR'
 | d + 1,out,ends,k,hd,hb,hR,hk => by
  have hcl := (zlX ends.length out ends i).2
  obtain ⟨k,rfl⟩ : ∃ q,k = q + 1 := ⟨k - 1,by omega⟩
  have hne : ends ≠ [] := fun e => by rw [e] at hd;cases hd
  have e1 : wrap64 ((i : Int) + 1) = ((i + 1 : Nat) : Int) := by rw [show (i : Int) + 1 = ((i + 1 : Nat) : Int) from by omega];exact zcF (by omega)
  have e2 : wrap64 ((i : Int) + x.f3) = (i : Int) + x.f3 := by
   rw [show (i : Int) + x.f3 = ((i + x.f3.toNat : Nat) : Int) from by omega];exact zcF (by omega)
  have e3 : wrap64 ((ends.length : Int) - 1) = (ends.length : Int) - 1 := by
   rw [show (ends.length : Int) - 1 = ((ends.length - 1 : Nat) : Int) from by omega];exact zcF (by omega)
  rw [zdM,if_pos (by omega),e3,if_pos (by omega),if_pos (by omega)]
  by_cases hr : rd ends ((ends.length : Int) - 1) = (i : Int)
  ·have hc : zeC ends.length out ends i = zeC ends.dropLast.length (out ++ [zfD]) ends.dropLast i := by
    rw [show ends.dropLast.length = d from by rw [List.length_dropLast];omega,hd]
    simp only [zeC]
    rw [if_pos ⟨hne,hr⟩]
   rw [if_pos hr,Option.bind_some,if_pos (by simp;omega),if_pos (by omega)]
   have hdl : ends.take ((ends.length : Int) - 1).toNat = ends.dropLast := by
    rw [List.dropLast_eq_take]
    congr 1
    omega
   rw [hdl]
   refine l1_f t n x i hi h3 K0 R d (out ++ [⟨3,0,⟨#[]⟩,0⟩]) ends.dropLast k (by rw [List.length_dropLast];omega) (by rw [List.length_append,List.length_dropLast];simp;omega) (fun K hK => ?_) (by rw [hc] at hk;show K0 + d + 1 ≤ k + (zeC ends.dropLast.length (out ++ [zfD]) ends.dropLast i).2.length;omega)
   have hs : zfM x i (out ++ [⟨3,0,⟨#[]⟩,0⟩],ends.dropLast) = zfM x i (out,ends) := by
    unfold zfM
    simp only [hc]
    rfl
   rw [hs]
   exact hR K hK
  rw [if_neg hr]
  have hc : zeC ends.length out ends i = (out,ends) := by
   rw [hd]
   simp only [zeC]
   rw [if_neg (fun h => hr h.2)]
  have hR' := hR k (by rw [hc] at hk;simp only at hk;omega)
  unfold zfM at hR'
  simp only [hc] at hR'
  by_cases h46 : x.f0 = 46
  ·rw [if_pos h46,Option.bind_some,if_pos (by simp;omega),e1]
   rw [if_pos h46] at hR'
   rw [show ([(⟨1,0,x.f1,0⟩ : S47)] : List S47) = [zdP x] from by unfold zdP;rw [if_pos h46]]
   exact hR'
  rw [if_neg h46,Option.bind_some,if_pos (by simp;omega),Option.bind_some,if_pos (by simp;omega),e1,e2]
  rw [if_neg h46] at hR'
  rw [show ([(⟨2,x.f0,⟨#[]⟩,0⟩ : S47)] : List S47) = [zdP x] from by unfold zdP;rw [if_neg h46]]
  exact hR'
theorem ztX (x : S56) (i : Nat) (s : List S47 × List Int) : (zfM x i s).1.length + (zfM x i s).2.length ≤ s.1.length + s.2.length + 2 ∧ (zfM x i s).2.length ≤ s.2.length + 1 ∧ (zfM x i s).2.length ≤ (zeC s.2.length s.1 s.2 i).2.length + 1 := by
 obtain ⟨g1,g2⟩ := zlX s.2.length s.1 s.2 i
 unfold zfM
 split <;> simp <;> omega
theorem l0_f (t : List S56) (ht : t.length ≤ 400000) (h3 : ∀ x ∈ t,1 ≤ x.f3 ∧ x.f3 ≤ 400000) : ∀ (m i : Nat) (s : List S47 × List Int) (k : Nat),m + i = t.length → s.1.length + s.2.length ≤ 2 * i → s.2.length ≤ i → 4 * m + 2 * s.2.length + 5 ≤ k →
  zbH k s.1 s.2 t (t.length : Int) (i : Int) = some ((zfX (t.drop i) i s).1 ++ List.replicate (zfX (t.drop i) i s).2.length zfD)
 | 0,i,s,k,hm,hb,he,hk => by
  obtain ⟨k,rfl⟩ : ∃ q,k = q + 1 := ⟨k - 1,by omega⟩
  rw [zbH,if_neg (by omega),List.drop_of_length_le (by omega)]
  exact l2_f s.2.length (by omega) s.2.length 0 k s.1 (by omega) (by omega) (by omega)
 | m + 1,i,s,k,hm,hb,he,hk => by
  obtain ⟨k,rfl⟩ : ∃ q,k = q + 1 := ⟨k - 1,by omega⟩
  rw [zbH,if_pos (by omega),if_pos (by omega),if_pos (by omega),zoR t i (by omega)]
  obtain ⟨g1,g2,g3⟩ := ztX (zaA t i) i s
  have g4 := zlX s.2.length s.1 s.2 i
  refine l1_f t _ (zaA t i) i (by omega) (h3 _ (zsP t i (by omega))) (4 * m + 2 * (zfM (zaA t i) i s).2.length + 5) _ s.2.length s.1 s.2 k rfl (by omega) (fun K hK => ?_) (by omega)
  exact l0_f t ht h3 m (i + 1) (zfM (zaA t i) i s) K (by omega) (by omega) (by omega) hK
theorem yiB (t : List S56) (ht : t.length ≤ 400000) (h3 : ∀ x ∈ t,1 ≤ x.f3 ∧ x.f3 ≤ 400000) (k : Nat) (hk : 4 * t.length + 5 ≤ k) : tree_events.f k t = some (zhL t) := by
 unfold tree_events.f zhL
 have := l0_f t ht h3 t.length 0 ([],[]) k (by omega) (by simp) (by simp) (by simp;omega)
 exact this
theorem ziJ (t : List S56) : ∀ (n a e : Nat),e - a ≤ n → zeH t a e = true → ∀ i,a ≤ i → i < e → 1 ≤ (zaA t i).f3 ∧ (zaA t i).f3 ≤ (e : Int) - i
 | 0,a,e,h,_,i,h1,h2 => by omega
 | n + 1,a,e,h,hs,i,h1,h2 => by
  rw [ziW t a e (by omega)] at hs
  by_cases hc : 1 ≤ (zaA t a).f3 ∧ (zaA t a).f3 ≤ (e : Int) - a
  ·rw [if_pos hc,Bool.and_eq_true] at hs
   by_cases e1 : i = a
   ·subst e1;exact hc
   by_cases e2 : i < a + (zaA t a).f3.toNat
   ·have := ziJ t n (a + 1) _ (by omega) hs.1 i (by omega) e2
    exact ⟨this.1,by omega⟩
   exact ziJ t n _ e (by omega) hs.2 i (by omega) h2
  rw [if_neg hc] at hs;cases hs
theorem ztY {P : S47 → Prop} (hs : P zfD) : ∀ (d : Nat) (o : List S47) (e : List Int) (i : Int),(∀ x ∈ o,P x) → ∀ x ∈ (zeC d o e i).1,P x
 | 0,o,e,i,h => h
 | d + 1,o,e,i,h => by
  simp only [zeC]
  split
  ·refine ztY hs d _ _ i fun x hx => ?_
   rcases List.mem_append.1 hx with hx | hx
   ·exact h x hx
   rw [List.mem_singleton.1 hx];exact hs
  exact h
theorem zwO {P : S47 → Prop} (hs : P zfD) : ∀ (l : List S56) (i : Nat) (s : List S47 × List Int),(∀ y ∈ l,P (zdP y)) → (∀ x ∈ s.1,P x) → ∀ x ∈ (zfX l i s).1,P x
 | [],i,s,_,h => h
 | y :: l,i,s,hy,h => by
  refine zwO hs l (i + 1) _ (fun z hz => hy z (List.mem_cons_of_mem _ hz)) fun x hx => ?_
  unfold zfM at hx
  rcases List.mem_append.1 hx with hx | hx
  ·exact ztY hs _ _ _ _ h x hx
  rw [List.mem_singleton.1 hx];exact hy y List.mem_cons_self
theorem ztZ {P : S47 → Prop} (hs : P zfD) (t : List S56) (h : ∀ y ∈ t,P (zdP y)) : ∀ x ∈ zhL t,P x := by
 intro x hx
 unfold zhL at hx
 rcases List.mem_append.1 hx with hx | hx
 ·exact zwO hs t 0 ([],[]) h (by intro y hy;cases hy) x hx
 rw [(List.mem_replicate.1 hx).2];exact hs
theorem zwP : ∀ (l : List S56) (i : Nat) (s : List S47 × List Int),(zfX l i s).1.length + (zfX l i s).2.length ≤ s.1.length + s.2.length + 2 * l.length
 | [],i,s => by simp [zfX]
 | y :: l,i,s => by
  have h1 := zwP l (i + 1) (zfM y i s)
  have h2 := (ztX y i s).1
  simp only [zfX,List.length_cons]
  omega
def zfE (t : List S56) : Int := if ((t.any fun x => !zdS x) || !zeH t 0 t.length) = true then 2 else zeK bld0 0 (zhL t)
def zmE (t : List S56) : Prop := ∀ x ∈ t,x.f1.size ≤ 1000000 ∧ 0 ≤ x.f0 ∧ x.f0 ≤ 255
theorem znK {t : List S56} {x : S56} (h : x ∈ t) : ∃ i,i < t.length ∧ zaA t i = x := by
 obtain ⟨i,hi,e⟩ := List.mem_iff_getElem.1 h
 refine ⟨i,hi,?_⟩
 unfold zaA
 rw [Int.toNat_natCast,List.getD_eq_getElem?_getD,List.getElem?_eq_getElem hi]
 exact e
theorem yaZ (A0 : Option Addr) (c0 : Nat) (t : List S56) (w : World) (hlen : t.length ≤ 400000) (hk : zmE t) (hA : Kd.C k56 w A0 t.length t) (hc0 : t.length ≤ c0) :
  Calls Try.prog 57 #[.slice A0 t.length c0] w fun e w' => e = .returned (.int .i64 (zfE t)) ∧ Below w.heap.size w w' := by
 refine yfM A0 c0 t w hlen (fun x hx => (hk x hx).1) hA hc0 (2 * t.length + 2) (zeH t 0 t.length) ?_ (4 * t.length + 5) (zhL t) fun hs => ?_
 ·exact zvS t (by omega) t.length 0 t.length (2 * t.length + 1) (by omega) (by omega) (by omega) (by omega)
 refine ⟨yiB t hlen (fun x hx => ?_) _ (Nat.le_refl _),?_,ztZ ⟨.inr (.inr rfl),by decide,by decide,by decide,by decide,by decide⟩ t fun y hy => ?_⟩
 ·obtain ⟨i,hi,rfl⟩ := znK hx
  have := ziJ t t.length 0 t.length (by omega) hs i (by omega) hi
  omega
 ·have := zwP t 0 ([],[])
  unfold zhL
  simp only [List.length_append,List.length_replicate,List.length_nil] at this ⊢
  omega
 obtain ⟨h1,h2,h3⟩ := hk y hy
 unfold zdP
 split
 ·exact ⟨.inl rfl,by show (0 : Int) ≤ 0;omega,by show (0 : Int) ≤ 255;omega,h1,by show (0 : Int) ≤ 0;omega,by show (0 : Int) ≤ _;omega⟩
 exact ⟨.inr (.inl rfl),h2,h3,Nat.zero_le _,by show (0 : Int) ≤ 0;omega,by show (0 : Int) ≤ _;omega⟩
def evF : Nat → List S56 → Nat → Nat → List S47
 | 0,_,_,_ => []
 | n + 1,t,a,e => if a < e then (if (zaA t a).f0 = 46 then zdP (zaA t a) :: evF n t (a + 1) e
   else zdP (zaA t a) :: (evF n t (a + 1) (a + (zaA t a).f3.toNat) ++ zfD :: evF n t (a + (zaA t a).f3.toNat) e)) else []
theorem zwQ : ∀ (l m : List S56) (i : Nat) (s : List S47 × List Int),zfX (l ++ m) i s = zfX m (i + l.length) (zfX l i s)
 | [],m,i,s => by simp [zfX]
 | x :: l,m,i,s => by
  simp only [List.cons_append,zfX,List.length_cons]
  rw [zwQ l m (i + 1)]
  congr 1
  omega
theorem ybV (e : List Int) (v : Int) : rd (e ++ [v]) (((e ++ [v]).length : Int) - 1) = v := by
 unfold rd
 have : (((e ++ [v]).length : Int) - 1).toNat = e.length := by simp
 rw [this]
 simp
theorem zuA (E : List Int) (i : Int) (hE : ∀ v ∈ E,v ≠ i) : ∀ (p d : Nat) (o : List S47),p ≤ d → zeC d o (E ++ List.replicate p i) i = (o ++ List.replicate p zfD,E)
 | 0,d,o,_ => by
  simp only [List.replicate_zero,List.append_nil]
  cases d with
  | zero => rfl
  | succ d =>
  simp only [zeC]
  rw [if_neg]
  rintro ⟨h1,h2⟩
  rcases List.eq_nil_or_concat E with rfl | ⟨E',v,rfl⟩
  ·exact h1 rfl
  rw [List.concat_eq_append] at h2 hE
  rw [ybV] at h2
  exact hE v (by simp) h2
 | p + 1,0,o,h => by omega
 | p + 1,d + 1,o,h => by
  have hs : E ++ List.replicate (p + 1) i = (E ++ List.replicate p i) ++ [i] := by rw [List.replicate_succ',List.append_assoc]
  simp only [zeC]
  rw [hs,if_pos ⟨by simp,ybV _ _⟩,List.dropLast_concat,zuA E i hE p d _ (by omega),List.append_assoc]
  congr 2
theorem zvT (t : List S56) (a e : Nat) (h : a < e) (he : e ≤ t.length) : (t.drop a).take (e - a) = zaA t a :: (t.drop (a + 1)).take (e - (a + 1)) := by
 rw [zoR t a (by omega),show e - a = (e - (a + 1)) + 1 from by omega,List.take_succ_cons]
theorem zyA (t : List S56) (a b e : Nat) (h1 : a ≤ b) (h2 : b ≤ e) : (t.drop a).take (e - a) = (t.drop a).take (b - a) ++ (t.drop b).take (e - b) := by
 have : t.drop b = (t.drop a).drop (b - a) := by rw [List.drop_drop];congr 1;omega
 rw [this,show e - a = (b - a) + (e - b) from by omega,List.take_add]
theorem zrI (t : List S56) (hp : ∀ x ∈ t,x.f0 = 46 → x.f3 = 1) : ∀ (n a e : Nat) (o : List S47) (E : List Int) (p : Nat),e - a ≤ n → a ≤ e → e ≤ t.length → zeH t a e = true → (∀ v ∈ E,(e : Int) ≤ v) →
  ∃ q o',zfX ((t.drop a).take (e - a)) a (o,E ++ List.replicate p (a : Int)) = (o',E ++ List.replicate q (e : Int)) ∧ o' ++ List.replicate q zfD = o ++ List.replicate p zfD ++ evF n t a e
 | 0,a,e,o,E,p,h,hae,he,hs,hE => by
  obtain rfl : a = e := by omega
  exact ⟨p,o,by simp [zfX],by simp [evF]⟩
 | n + 1,a,e,o,E,p,h,hae,he,hs,hE => by
  by_cases hlt : a < e
  ·rw [ziW t a e hlt] at hs
   by_cases hc : 1 ≤ (zaA t a).f3 ∧ (zaA t a).f3 ≤ (e : Int) - a
   ·rw [if_pos hc,Bool.and_eq_true] at hs
    rw [zvT t a e hlt he]
    simp only [zfX,evF]
    rw [if_pos hlt]
    have hcl : zeC (E ++ List.replicate p (a : Int)).length o (E ++ List.replicate p (a : Int)) (a : Int) = (o ++ List.replicate p zfD,E) :=
     zuA E a (fun v hv => by have := hE v hv;omega) p _ o (by simp)
    unfold zfM
    simp only [hcl]
    by_cases h46 : (zaA t a).f0 = 46
    ·rw [if_pos h46,if_pos h46]
     have h1 := hp _ (zsP t a (by omega)) h46
     rw [h1] at hs
     obtain ⟨q,o',g1,g2⟩ := zrI t hp n (a + 1) e (o ++ List.replicate p zfD ++ [zdP (zaA t a)]) E 0 (by omega) (by omega) he hs.2 hE
     rw [List.replicate_zero,List.append_nil] at g1
     refine ⟨q,o',g1,?_⟩
     rw [g2]
     simp
    rw [if_neg h46,if_neg h46]
    obtain ⟨z,hz⟩ : ∃ z : Nat,(zaA t a).f3 = (z : Int) := ⟨(zaA t a).f3.toNat,by omega⟩
    rw [hz] at hs hc ⊢
    simp only [Int.toNat_natCast] at hs ⊢
    have hEz : ∀ v ∈ E ++ [(a : Int) + z],((a + z : Nat) : Int) ≤ v := by
     intro v hv
     rcases List.mem_append.1 hv with hv | hv
     ·have := hE v hv;omega
     rw [List.mem_singleton.1 hv];omega
    obtain ⟨q1,o1,g1,g2⟩ := zrI t hp n (a + 1) (a + z) (o ++ List.replicate p zfD ++ [zdP (zaA t a)]) (E ++ [(a : Int) + z]) 0 (by omega) (by omega) (by omega) hs.1 hEz
    rw [List.replicate_zero,List.append_nil] at g1
    have hst : E ++ [(a : Int) + z] ++ List.replicate q1 ((a + z : Nat) : Int) = E ++ List.replicate (q1 + 1) ((a + z : Nat) : Int) := by
     rw [List.replicate_succ,List.append_assoc]
     congr 1
    rw [hst] at g1
    obtain ⟨q2,o2,k1,k2⟩ := zrI t hp n (a + z) e o1 E (q1 + 1) (by omega) (by omega) he hs.2 hE
    refine ⟨q2,o2,?_,?_⟩
    ·rw [zyA t (a + 1) (a + z) e (by omega) (by omega),zwQ,g1]
     have hl : ((t.drop (a + 1)).take (a + z - (a + 1))).length = a + z - (a + 1) := by
      rw [List.length_take,List.length_drop];omega
     rw [hl,show a + 1 + (a + z - (a + 1)) = a + z from by omega]
     exact k1
    rw [k2,List.replicate_succ',← List.append_assoc,g2]
    simp
   rw [if_neg hc] at hs;cases hs
  obtain rfl : a = e := by omega
  refine ⟨p,o,by simp [zfX],?_⟩
  simp only [evF]
  rw [if_neg (by omega)]
  simp
theorem zsR (t : List S56) (hp : ∀ x ∈ t,x.f0 = 46 → x.f3 = 1) (hs : zeH t 0 t.length = true) : zhL t = evF t.length t 0 t.length := by
 obtain ⟨q,o',g1,g2⟩ := zrI t hp t.length 0 t.length [] [] 0 (by omega) (by omega) (by omega) hs (by intro v hv;cases hv)
 simp only [List.drop_zero,Nat.sub_zero,List.take_length,List.replicate_zero,List.append_nil,List.nil_append] at g1 g2
 unfold zhL
 rw [g1]
 simp only [List.nil_append,List.length_replicate]
 exact g2
end Go.Proofs.Ythcmfjpheanphaa.Pr
