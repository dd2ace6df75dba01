/- Texts of this seat, one behind the other. -/
import Derived.Deep.Slices
import Derived.Deep.Fields
import Derived.ChangeSame
import Derived.SizedLaws
import Derived.ChangeSlices
import Derived.Lib.SliceRun
import Derived.Test.YthcmfjpheanphaaRows
import Derived.ProofKit
import Derived.OpenShut
import Derived.ShutString
import Derived.ChangeOld
import Derived.Carry
import Derived.Test.YthcmfjpheanphaaXNormForms13
set_option linter.unusedVariables false
set_option linter.unusedSimpArgs false
set_option maxHeartbeats 16000000
set_option maxRecDepth 100000
namespace Go.Proofs.Ythcmfjpheanphaa.Pr
open Go.RowKit Go.Proofs.YthcmfjpheanphaaW.PrintWords Go.Proofs.YthcmfjpheanphaaW.PrintLast Go.Proofs.YthcmfjpheanphaaW.PrintMore
attribute [local go_sem] zaX zaY zbG zbI zaV zaW zaZ zbA
mutual
def zcS : Nat → List (S56) → List (S56) → Int → Option (Bool)
 | 0,_,_,_ => none
 | k + 1,x0,x1,x5 => if x5 < (x0.length : Int) then (zeA k x0 x1 x5 (decide (x5 < (x1.length : Int)))) else (zeA k x0 x1 x5 false)
def zeA : Nat → List (S56) → List (S56) → Int → Bool → Option (Bool)
 | 0,_,_,_,_ => none
 | k + 1,x0,x1,x5,x15 => if x15 = true then (if 0 ≤ x5 then (if x5 < (x0.length : Int) then (if x5 < (x1.length : Int) then (if ((zaA x0 x5).f2) = ((zaA x1 x5).f2) then (zcS k x0 x1 (wrap64 (x5 + 1))) else (some false)) else (none)) else (none)) else (none)) else ((stylusref04_Same.f k x0 x1).bind fun t224 => (some t224))
end
def stylusref04_Like.f (k : Nat) (l0 : List (S56)) (l1 : List (S56)) : Option (Bool) := zcS k l0 l1 0
theorem stylusref04_Like.calls (k : Nat) (A0 : Option Addr) (c0 : Nat) (l0 : List (S56)) (A1 : Option Addr) (c1 : Nat) (l1 : List (S56)) (r : Bool) (w : World) (hr0 : Kd.C k56 w A0 l0.length l0) (hc0 : l0.length ≤ c0) (hr1 : Kd.C k56 w A1 l1.length l1) (hc1 : l1.length ≤ c1) (h : stylusref04_Like.f k l0 l1 = some r) :
  Calls Try.prog 55 #[.slice A0 l0.length c0,.slice A1 l1.length c1] w fun e w' => e = .returned (.bool r) ∧ Drawn0 w w' := by
 have HR0 := Aside0.mk hr0
 have HC0 := Aside0.mk hc0
 clear hr0 hc0
 have HR1 := Aside0.mk hr1
 have HC1 := Aside0.mk hc1
 clear hr1 hc1
 have H : (zcS k l0 l1 0) = some r := h
 clear h
 have H' := Aside0.mk H
 clear H
 go_enter Try.func55,Try.ntmps55
 go_wp2
 repeat (go_quiet (fail);try go_wp2)
 go_loopg [5] k (fun kq v5 w' => ∃ (x5_1 : Int),v5 = .int .i64 x5_1 ∧ Aside0 (zcS kq l0 l1 x5_1 = some r) ∧ Aside0 (kq ≤ k) ∧ Drawn0 w w')
 case atStart => exact ⟨(0),qS,H',⟨Nat.le_refl _⟩,qW⟩
 clear H'
 obtain ⟨x5_1,rfl,HA,HK1,⟨m1,rfl⟩⟩ := hrel
 cases gk with
 | zero => exact absurd HA.out (by simp [zcS])
 | succ k1 =>
 have H := HA.out
 clear HA
 simp only [zcS] at H
 have HC3 := Aside0.mk H
 clear H
 go_upto_region 2 with (fail)
 repeat (go_quiet (fail);go_upto_region 2 with (fail))
 go_cut [15] (fun v15 wc => ∃ (kq : Nat) (x15_2 : Bool),v15 = .bool x15_2 ∧ Aside0 (zeA kq l0 l1 x5_1 x15_2 = some r) ∧ Aside0 (kq ≤ k1) ∧ Drawn0 w wc)
 case first =>
  have H := HC3.out
  clear HC3
  obtain ⟨c4b0,H⟩ | ⟨c4b0,H⟩ := spD H
  ·(first | rw [c4b0] | (simp only [zaO,zaR];rw [c4b0]) | skip)
   have H' := Aside0.mk H
   clear H
   go_wp2
   repeat (go_quiet (fail);try go_wp2)
   go_meet
   case rel => exact ⟨_,(decide (x5_1 < (l1.length : Int))),qS,H',⟨by have := HK1.out;first | omega | exact Nat.le_refl _⟩,qW⟩
  (first | rw [c4b0] | (simp only [zaO,zaR];rw [c4b0]) | skip)
  have H' := Aside0.mk H
  clear H
  go_wp2
  repeat (go_quiet (fail);try go_wp2)
  go_meet
  case rel => exact ⟨_,(false),qS,H',⟨by have := HK1.out;first | omega | exact Nat.le_refl _⟩,qW⟩
 clear HC3
 obtain ⟨kq,x15_2,rfl,HA,HJ2,⟨mc2,rfl⟩⟩ := hcut
 cases kq with
 | zero => exact absurd HA.out (by simp [zeA])
 | succ kj2 =>
 have H := HA.out
 clear HA
 simp only [zeA] at H
 by_cases c5 : x15_2 = true
 rotate_left
 ·replace c5 := Bool.eq_false_iff.mpr c5
  subst c5
  have H1 : ((stylusref04_Same.f kj2 l0 l1).bind fun t224 => (some t224)) = some r := by rw [if_neg nft] at H;exact H
  clear H
  have H := H1
  clear H1
  obtain ⟨t224,A10,H⟩ := bdA H
  replace H : (some t224) = some r := H
  obtain rfl := Option.some.inj H
  go_wp2_with (first | (go_at_call 61;(with_reducible refine (stylusref04_Same.calls kj2 _ _ l0 _ _ l1 t224 _ ?side1 ?side2 ?side3 ?side4 A10.out).mono ?_);(case side1 => exact qC HR0.out);(case side2 => exact HC0.out);(case side3 => exact qC HR1.out);(case side4 => exact HC1.out);rintro e w' ⟨rfl,⟨nd,rfl⟩⟩;(try first | exact ⟨rfl,_,World.drewN_drewN _ _ _⟩ | exact ⟨rfl,_,Eq.trans (World.drewN_drewN _ _ _) (congrArg (World.drewN _) (Nat.add_assoc _ _ _))⟩)))
  repeat (go_quiet (first | (go_at_call 61;(with_reducible refine (stylusref04_Same.calls kj2 _ _ l0 _ _ l1 t224 _ ?side1 ?side2 ?side3 ?side4 A10.out).mono ?_);(case side1 => exact qC HR0.out);(case side2 => exact HC0.out);(case side3 => exact qC HR1.out);(case side4 => exact HC1.out);rintro e w' ⟨rfl,⟨nd,rfl⟩⟩;(try first | exact ⟨rfl,_,World.drewN_drewN _ _ _⟩ | exact ⟨rfl,_,Eq.trans (World.drewN_drewN _ _ _) (congrArg (World.drewN _) (Nat.add_assoc _ _ _))⟩)));try go_wp2_with (first | (go_at_call 61;(with_reducible refine (stylusref04_Same.calls kj2 _ _ l0 _ _ l1 t224 _ ?side1 ?side2 ?side3 ?side4 A10.out).mono ?_);(case side1 => exact qC HR0.out);(case side2 => exact HC0.out);(case side3 => exact qC HR1.out);(case side4 => exact HC1.out);rintro e w' ⟨rfl,⟨nd,rfl⟩⟩;(try first | exact ⟨rfl,_,World.drewN_drewN _ _ _⟩ | exact ⟨rfl,_,Eq.trans (World.drewN_drewN _ _ _) (congrArg (World.drewN _) (Nat.add_assoc _ _ _))⟩))))
  go_ret
  exact ⟨qS,qW⟩
 subst c5
 have H1 : (if 0 ≤ x5_1 then (if x5_1 < (l0.length : Int) then (if x5_1 < (l1.length : Int) then (if ((zaA l0 x5_1).f2) = ((zaA l1 x5_1).f2) then (zcS kj2 l0 l1 (wrap64 (x5_1 + 1))) else (some false)) else (none)) else (none)) else (none)) = some r := by rw [if_pos rfl] at H;exact H
 clear H
 have H := H1
 clear H1
 obtain ⟨c6b0,H⟩ := spN H
 obtain ⟨c7b0,H⟩ := spN H
 obtain ⟨c8b0,H⟩ := spN H
 obtain ⟨c9b0,c9b1,H⟩ | ⟨c9b0,c9b1,H⟩ := spE H
 ·have H' := Aside0.mk H
  clear H
  obtain ⟨ad222,e222,p222,q222,hx222_0,hx222_1,hx222_2,hx222_3⟩ := bT56 HR0.out x5_1
  cases e222
  obtain ⟨ad223,e223,p223,q223,hx223_0,hx223_1,hx223_2,hx223_3⟩ := bT56 HR1.out x5_1
  cases e223
  go_wp2
  repeat (go_quiet (fail);try go_wp2)
  go_roundg kj2
  case measure => have := HK1.out;have := HJ2.out;omega
  case rel => exact ⟨(wrap64 (x5_1 + 1)),qS,H',⟨by have := HK1.out;have := HJ2.out;omega⟩,qW⟩
 obtain rfl := Option.some.inj H
 obtain ⟨ad222,e222,p222,q222,hx222_0,hx222_1,hx222_2,hx222_3⟩ := bT56 HR0.out x5_1
 cases e222
 obtain ⟨ad223,e223,p223,q223,hx223_0,hx223_1,hx223_2,hx223_3⟩ := bT56 HR1.out x5_1
 cases e223
 go_wp2
 repeat (go_quiet (fail);try go_wp2)
 go_ret
 exact ⟨qS,qW⟩
end Go.Proofs.Ythcmfjpheanphaa.Pr
namespace Go.Proofs.Ythcmfjpheanphaa.Pr
open Go.RowKit Go.Proofs.YthcmfjpheanphaaW.PrintWords
theorem zsH (t : List S56) (hl : t.length ≤ 1000000) : ∀ (d i k : Nat),d + i = t.length → d + 1 ≤ k → zbV k t t i = some true
 | 0,i,k,h,hk => by
  obtain ⟨k,rfl⟩ : ∃ q,k = q + 1 := ⟨k - 1,by omega⟩
  rw [zbV,if_neg (by omega)]
 | d + 1,i,k,h,hk => by
  obtain ⟨k,rfl⟩ : ∃ q,k = q + 1 := ⟨k - 1,by omega⟩
  rw [zbV,if_pos (by omega),if_pos (by omega),if_pos (by omega),if_pos rfl,if_pos rfl,if_pos rfl,zgD (by omega)]
  exact zsH t hl d (i + 1) k (by omega) (by omega)
theorem yjQ (t : List S56) (hl : t.length ≤ 1000000) (k : Nat) (hk : t.length + 1 ≤ k) : stylusref04_Same.f k t t = some true := by
 unfold stylusref04_Same.f
 rw [if_pos rfl]
 exact zsH t hl t.length 0 k (by omega) (by omega)
theorem zxP (t : List S56) (hl : t.length ≤ 1000000) : ∀ (d i k : Nat),d + i = t.length → 2 * d + t.length + 3 ≤ k → zcS k t t i = some true
 | 0,i,k,h,hk => by
  obtain ⟨k,rfl⟩ : ∃ q,k = q + 2 := ⟨k - 2,by omega⟩
  rw [zcS,if_neg (by omega),zeA,if_neg (by decide),yjQ t hl k (by omega)]
  rfl
 | d + 1,i,k,h,hk => by
  obtain ⟨k,rfl⟩ : ∃ q,k = q + 2 := ⟨k - 2,by omega⟩
  rw [zcS,if_pos (by omega),zeA,if_pos (decide_eq_true (by omega)),if_pos (by omega),if_pos (by omega),if_pos (by omega),if_pos rfl,zgD (by omega)]
  exact zxP t hl d (i + 1) k (by omega) (by omega)
theorem yhC (t : List S56) (hl : t.length ≤ 1000000) (k : Nat) (hk : 3 * t.length + 3 ≤ k) : stylusref04_Like.f k t t = some true :=
 zxP t hl t.length 0 k (by omega) (by omega)
def styluslaw04_awake.f (k : Nat) : Option Bool := some true
end Go.Proofs.Ythcmfjpheanphaa.Pr
namespace Go.Proofs.Ythcmfjpheanphaa.Pr
open Go.RowKit Go.Proofs.YthcmfjpheanphaaW.PrintWords Go.Proofs.YthcmfjpheanphaaW.PrintLast Go.Proofs.YthcmfjpheanphaaW.PrintMore
attribute [local go_sem] zaX zaY zbG zbI zaV zaW zaZ zbA
def zhQ : Nat → List (S56) → List (S56) → Bool → Option (Bool)
 | 0,_,_,_ => none
 | k + 1,x0,x1,x11 => if x11 = true then ((styluslaw04_awake.f k).bind fun t305 => (some t305)) else ((some (([] : List (S56)) : List (S56))).bind fun y306 => (if y306.length + x0.length < 3518437208883 then ((some (y306 ++ x0 : List (S56))).bind fun y309 => ((tree_Check.f y309).bind fun t312 => ((stylusref04_Check.f k x0).bind fun t313 => (if t312 = t313 then ((tree_Same.f y309 x1).bind fun t314 => ((stylusref04_Same.f k x0 x1).bind fun t315 => (if (t314 == t315) = true then ((stylusref04_Like.f k y309 x0).bind fun t316 => (if t316 = true then ((styluslaw04_awake.f k).bind fun t317 => (some t317)) else (some false))) else (some false)))) else (some false))))) else (none)))
def styluslaw04_TreeChecks.f (k : Nat) (l0 : List (S56)) (l1 : List (S56)) : Option (Bool) := (styluslaw04_vast.f k l0).bind fun t303 => (if t303 = true then (zhQ k l0 l1 true) else ((styluslaw04_vast.f k l1).bind fun t304 => (zhQ k l0 l1 t304)))
end Go.Proofs.Ythcmfjpheanphaa.Pr
namespace Go.Proofs.Ythcmfjpheanphaa.Pr
open Go.RowKit Go.ChangeShapes Go.WideShapes Go.Deep Go.Proofs.YthcmfjpheanphaaW.PrintWords
section
variable {H : Type} {enc : TypeId × Value → H} {w : World} {base : Nat} {spare : Nat → Bool} {held : Bool}
theorem ycR : Try.prog.cellsOf 56 = 4 := by kernel_rfl
theorem cells3 : Try.prog.cellsOf 3 = 1 := by kernel_rfl
theorem cells5 : Try.prog.cellsOf 5 = 1 := by kernel_rfl
theorem cellsH9 : Try.prog.cellsOf 9 = 1 := by kernel_rfl
theorem bytes56 : Try.prog.bytesOf 56 = 40 := by kernel_rfl
def zjY (x : S56) : Prop := (Lit.int .u8 x.f0).wf = true ∧ x.f1.size ≤ maxLen ∧ (Lit.int .i64 x.f2).wf = true ∧ (Lit.int .i64 x.f3).wf = true
theorem yhD {n : Nat} {cs : List Value} {y : DataW H × List MemPlace} (h : DataW.trod enc Try.prog w base spare held n 56 cs = some y) :
  ∃ x : S56,cs = [.int .u8 x.f0,.string x.f1,.int .i64 x.f2,.int .i64 x.f3] ∧ zjY x := by
 obtain ⟨ys,m,rfl,_,hlen,hyl,hf⟩ := DataW.trod_struct Try.underlying56 h
 rw [ycR] at hlen
 match cs,hlen with
 | [c0,c1,c2,c3],_ =>
  match ys,hyl with
  | [y0,y1,y2,y3],_ =>
   have g0 : DataW.trod enc Try.prog w base spare held m 5 (([c0,c1,c2,c3].drop 0).take (Try.prog.cellsOf 5)) = some y0 := hf 0 _ rfl
   have g1 : DataW.trod enc Try.prog w base spare held m 9 (([c0,c1,c2,c3].drop 1).take (Try.prog.cellsOf 9)) = some y1 := hf 1 _ rfl
   have g2 : DataW.trod enc Try.prog w base spare held m 3 (([c0,c1,c2,c3].drop 2).take (Try.prog.cellsOf 3)) = some y2 := hf 2 _ rfl
   have g3 : DataW.trod enc Try.prog w base spare held m 3 (([c0,c1,c2,c3].drop 3).take (Try.prog.cellsOf 3)) = some y3 := hf 3 _ rfl
   rw [cells5] at g0
   rw [cellsH9] at g1
   rw [cells3] at g2 g3
   obtain ⟨n0,e0,_,f0⟩ := DataW.trod_int Try.underlying5 g0
   obtain ⟨n1,e1,_,f1⟩ := DataW.trod_string Try.underlying9 g1
   obtain ⟨n2,e2,_,f2⟩ := DataW.trod_int Try.underlying3 g2
   obtain ⟨n3,e3,_,f3⟩ := DataW.trod_int Try.underlying3 g3
   simp at e0 e1 e2 e3
   exact ⟨⟨n0,n1,n2,n3⟩,by rw [e0,e1,e2,e3],f0,f1,f2,f3⟩
theorem open_N {a : Option Addr} {len cap : Nat} {d : DataW H} {ps : List MemPlace} {ts : List TypeId} {ds : List (DataW H)} {j : Nat}
  (hsz : (DataW.weightsEach Try.prog ts ds).all (· ≤ reachBytes) = true) (ht : ts[j]? = some 50) (hd : ds[j]? = some d)
  (h : DataW.Trod enc Try.prog w base spare held 50 (.slice a len cap) d ps) :
  ∃ l : List S56,len = l.length ∧ (Kd.C k56 w a l.length l ∧ ∀ x ∈ l,zjY x) ∧ l.length ≤ cap ∧ l.length * 40 ≤ 140737488351232 := by
 obtain ⟨fuel,hf⟩ := h
 rcases open_slice Try.underlying50 hf with ⟨hcs,_⟩ | ⟨x,len',cap',m,n,D,Pl,hcs,_,hl,hcm,hm,hx,hi⟩
 ·simp [Value.cells] at hcs
  obtain ⟨rfl,rfl,rfl⟩ := hcs
  exact ⟨[],rfl,⟨⟨rfl,by simp,fun h => absurd h (by simp)⟩,fun x hx => by cases hx⟩,Nat.le_refl _,by simp⟩
 simp [Value.cells] at hcs
 obtain ⟨rfl,rfl,rfl⟩ := hcs
 obtain ⟨hx1,_⟩ := Prod.mk.inj hx
 subst hx1
 have z := sized_slice hsz ht hd Try.underlying50
 rw [bytes56] at z
 have hlm : len ≤ m := by rw [hm];split <;> omega
 have hit : ∀ i,i < len → ∃ y : S56,(∀ k u,[Value.int .u8 y.f0,.string y.f1,.int .i64 y.f2,.int .i64 y.f3][k]? = some u → w.cell? (x.add (i * 4 + k)) = some u) ∧ zjY y := fun i hil => by
  obtain ⟨cs',hc,htr⟩ := hi i (by omega)
  rw [ycR] at hc
  obtain ⟨y,rfl,hfit⟩ := yhD htr
  obtain ⟨_,_,hat⟩ := World.cells?_some hc
  refine ⟨y,fun k u hk => ?_,hfit⟩
  have hk5 : k < 4 := by
   have := (List.getElem?_eq_some_iff.1 hk).1
   simpa using this
  have := hat k hk5
  rw [hk,Go.Deep.add_add] at this
  exact this
 let f : Nat → S56 := fun i => if hil : i < len then (hit i hil).choose else z56
 have hfs : ∀ i,i < len → (∀ k u,[Value.int .u8 (f i).f0,.string (f i).f1,.int .i64 (f i).f2,.int .i64 (f i).f3][k]? = some u → w.cell? (x.add (i * 4 + k)) = some u) ∧ zjY (f i) := fun i hil => by
  have e : f i = (hit i hil).choose := dif_pos hil
  rw [e]
  exact (hit i hil).choose_spec
 have hll : ((List.range len).map f).length = len := by simp
 have hl40 : len * 40 ≤ 140737488351232 := by
  have h1 : ((List.range len).map D).length = len := by simp
  rw [h1] at z
  exact Nat.le_trans (Nat.mul_le_mul_right _ (by omega)) z
 refine ⟨(List.range len).map f,hll.symm,⟨⟨rfl,by rw [hll];omega,fun _ => ⟨x,rfl,fun i p hp => ?_⟩⟩,fun y hy => ?_⟩,by rw [hll];exact hl,by rw [hll];exact hl40⟩
 ·rw [List.getElem?_map] at hp
  obtain ⟨i',hi',rfl⟩ := Option.map_eq_some_iff.1 hp
  obtain ⟨hlt,rfl⟩ := List.getElem?_eq_some_iff.1 hi'
  simp only [List.length_range] at hlt
  simp only [List.getElem_range]
  exact ⟨_,rfl,k56_mk _ _,(hfs i hlt).1⟩
 obtain ⟨i,hi',rfl⟩ := List.mem_map.1 hy
 exact (hfs i (List.mem_range.1 hi')).2
end
end Go.Proofs.Ythcmfjpheanphaa.Pr
namespace Go.Proofs.Ythcmfjpheanphaa.Pr
open Go.RowKit Go.Maps Go.Proofs.YthcmfjpheanphaaW.PrintWords
theorem yjR {x : S56} (h : zjY x) : 0 ≤ x.f0 ∧ x.f0 ≤ 255 := by
 have h1 := h.1
 simp only [Lit.wf,Bool.and_eq_true,decide_eq_true_eq] at h1
 have e1 : IntKind.min .u8 = 0 := rfl
 have e2 : IntKind.max .u8 = 255 := rfl
 rw [e1,e2] at h1
 exact h1
end Go.Proofs.Ythcmfjpheanphaa.Pr
namespace Go.Proofs.Ythcmfjpheanphaa.Pr
open Go.RowKit Go.Proofs.Ythcmfjpheanphaa.Pure Go.Proofs.YthcmfjpheanphaaW.PrintWords
def zvF (l : List S56) : Bool := decide (150 < l.length) || l.any fun x => decide (100 < x.f1.size)
theorem ybM {t : List S56} (h : zvF t = false) : t.length ≤ 150 ∧ ∀ x ∈ t,x.f1.size ≤ 100 := by
 unfold zvF at h
 rw [Bool.or_eq_false_iff,decide_eq_false_iff_not,List.any_eq_false] at h
 refine ⟨by omega,fun x hx => ?_⟩
 have := h.2 x hx
 rw [decide_eq_true_eq] at this
 omega
theorem zqZ (t u : List S56) (hl : t.length ≤ 1000000) (he : u.length = t.length) : ∀ (d i k : Nat),d + i = t.length → d + 1 ≤ k → zbV k t u i = some (zfY (t.drop i) (u.drop i))
 | 0,i,k,h,hk => by
  obtain ⟨k,rfl⟩ : ∃ q,k = q + 1 := ⟨k - 1,by omega⟩
  rw [zbV,if_neg (by omega),List.drop_eq_nil_of_le (by omega),List.drop_eq_nil_of_le (by omega)]
  rfl
 | d + 1,i,k,h,hk => by
  obtain ⟨k,rfl⟩ : ∃ q,k = q + 1 := ⟨k - 1,by omega⟩
  have hi : i < t.length := by omega
  have hiu : i < u.length := by omega
  have hdrop : ∀ v : List S56,i < v.length → v.drop i = zaA v i :: v.drop (i + 1) := fun v hv => by
   unfold zaA
   rw [Int.toNat_natCast,List.getD_eq_getElem?_getD,List.getElem?_eq_getElem hv,List.drop_eq_getElem_cons hv]
   rfl
  rw [zbV,if_pos (by omega),if_pos (by omega),if_pos (by omega),hdrop t hi,hdrop u hiu]
  simp only [zfY]
  unfold eqN
  by_cases h1 : (zaA t i).f0 = (zaA u i).f0
  ·rw [if_pos h1,h1,beq_self_eq_true,Bool.true_and]
   by_cases h2 : (zaA t i).f1.toList = (zaA u i).f1.toList
   ·rw [if_pos h2,h2,beq_self_eq_true,Bool.true_and]
    by_cases h3 : (zaA t i).f3 = (zaA u i).f3
    ·rw [if_pos h3,h3,beq_self_eq_true,Bool.true_and,zgD (by omega)]
     exact zqZ t u hl he d (i + 1) k (by omega) (by omega)
    rw [if_neg h3,beq_eq_false_iff_ne.mpr h3]
    rfl
   rw [if_neg h2,beq_eq_false_iff_ne.mpr h2]
   rfl
  rw [if_neg h1,beq_eq_false_iff_ne.mpr h1]
  rfl
theorem yhE (t u : List S56) (hl : t.length ≤ 1000000) (k : Nat) (hk : t.length + 1 ≤ k) : stylusref04_Same.f k t u = some (zfY t u) := by
 unfold stylusref04_Same.f
 by_cases h : t.length = u.length
 ·rw [if_pos (by omega)]
  have := zqZ t u hl h.symm t.length 0 k (by omega) (by omega)
  rw [List.drop_zero,List.drop_zero] at this
  exact this
 rw [if_neg (by omega)]
 cases hs : zfY t u with
 | false => rfl
 | true => exact absurd (zqB t u hs) h
theorem fit_i64 {x : S56} (h : zjY x) : I64 x.f3 := by
 have h1 := h.2.2.2
 simp only [Lit.wf,Bool.and_eq_true,decide_eq_true_eq] at h1
 have e1 : IntKind.min .i64 = -9223372036854775808 := rfl
 have e2 : IntKind.max .i64 = 9223372036854775807 := rfl
 rw [e1,e2] at h1
 exact h1
theorem fit_rd {t : List S56} (h : ∀ x ∈ t,zjY x) (i : Int) : I64 (zaA t i).f3 := by
 unfold zaA
 rw [List.getD_eq_getElem?_getD]
 by_cases hi : i.toNat < t.length
 ·rw [List.getElem?_eq_getElem hi]
  exact fit_i64 (h _ (List.getElem_mem hi))
 rw [List.getElem?_eq_none (by omega)]
 exact ⟨by decide,by decide⟩
end Go.Proofs.Ythcmfjpheanphaa.Pr
namespace Go.Proofs.Ythcmfjpheanphaa.Pr
open Go.RowKit Go.Proofs.YthcmfjpheanphaaW.PrintWords
theorem wf_i64 (j : Int) (h0 : 0 ≤ j) (h1 : j ≤ 1000000) : (Lit.int .i64 j).wf = true := by
 simp only [Lit.wf,Bool.and_eq_true,decide_eq_true_eq]
 have e1 : IntKind.min .i64 = -9223372036854775808 := rfl
 have e2 : IntKind.max .i64 = 9223372036854775807 := rfl
 rw [e1,e2]
 omega
structure Fair (t : List S56) : Prop where
 len : t.length ≤ 3000
 size : ∀ x ∈ t,x.f1.size ≤ 10000
 kind : ∀ x ∈ t,0 ≤ x.f0 ∧ x.f0 ≤ 255
theorem Fair.nodes {t : List S56} (h : Fair t) : zmE t := fun x hx => ⟨by have := h.size x hx;omega,h.kind x hx⟩
theorem Fair.nodesB {t : List S56} (h : Fair t) : nodesB t = true := (zvE t).mpr ⟨by have := h.len;omega,h.nodes⟩
theorem Fair.rd {t : List S56} (h : Fair t) : ∀ i,i < t.length → (zaA t i).f1.size ≤ 10000 := fun i hi => h.size _ (by rw [ziB t i hi];exact List.getElem_mem hi)
theorem Fair.txt {t : List S56} (h : Fair t) (hc : zfE t = 0) : Txt t := ygW hc h.nodes h.len h.rd
theorem yeE {t : List S56} (h : Txt t) (k : Nat) (hk : t.length * (t.length + 5) + 5 ≤ k) : norm_squeezed.f k t = some (sqF t) := by
 unfold norm_squeezed.f
 have hlen := h.len
 rw [yiR t h.nst (by omega) h.kind k hk]
 refine (Option.bind_some _ _).trans ?_
 have c1 : (((List.range t.length).map (ow t)).all fun j => (Lit.int .i64 j).wf) = true := by
  rw [List.all_eq_true]
  intro j hj
  obtain ⟨i,hi,rfl⟩ := List.mem_map.1 hj
  have h1 := List.mem_range.1 hi
  have h2 := zzJ t i
  exact wf_i64 _ h2.1 (by omega)
 have c2 : (t.all fun x => decide (x.f1.size ≤ 1000000)) = true := by
  rw [List.all_eq_true]
  intro x hx
  obtain ⟨i,hi,rfl⟩ := List.getElem_of_mem hx
  have := h.size i hi
  rw [ziB t i hi] at this
  simp
  omega
 refine (if_pos ⟨by omega,by simp,c1,c2⟩).trans ?_
 rw [← ydV t h]
 rfl
def NB : Nat := 10000000000000000
theorem zvG : 3000 * 3005 + 5 ≤ NB ∧ 4 * 3000 + 20 ≤ NB ∧ 3000 * 20000 + 20000 ≤ NB ∧ 40000000 * 40000005 + 5 ≤ NB ∧ 3000 * 10040 + 5000000 ≤ NB ∧ 10000 ≤ NB := by decide
def ofP (t : List S56) : List S56 × Int := if zfE t = 0 then (zlZ t,0) else ([],zfE t)
theorem yhF {t : List S56} (h : Fair t) (k : Nat) (hk : NB ≤ k) : norm_Of.f k t = some (ofP t) := by
 have hlen := h.len
 obtain ⟨n1,n2,n3,n4,n5,n6⟩ := zvG
 have e1 : tree_Check.f t = some (zfE t) := by unfold tree_Check.f;rw [if_pos h.nodesB]
 unfold norm_Of.f ofP
 rw [e1]
 refine (Option.bind_some _ _).trans ?_
 by_cases hc : zfE t = 0
 ·rw [if_pos hc,if_pos hc]
  have ht := h.txt hc
  have hq : t.length * (t.length + 5) ≤ 3000 * 3005 := Nat.mul_le_mul hlen (by omega)
  rw [yeE ht k (by omega)]
  refine (Option.bind_some _ _).trans ?_
  have hp := yiH (sqF t) (sqF_nst ht.nst) (by rw [zfH];omega) (fun i hi => Nat.le_trans (zzS t 10000 ht.size i hi) (by decide)) k (by rw [zfH];omega)
  rw [zfH] at hp
  rw [hp]
  exact Option.bind_some _ _
 rw [if_neg hc,if_neg hc]
theorem ref_f {t : List S56} (h : Fair t) (hw : ∀ x ∈ t,zjY x) (k : Nat) (hk : NB ≤ k) : stylusref05_Of.f k t = some (ofP t) := by
 have hlen := h.len
 obtain ⟨n1,n2,n3,n4,n5,n6⟩ := zvG
 unfold stylusref05_Of.f ofP
 obtain ⟨M,hM⟩ : ∃ M : Nat,M = 10040 := ⟨_,rfl⟩
 rw [← hM] at n5
 have hm : t.length * M ≤ 3000 * M := Nat.mul_le_mul_right M hlen
 rw [yeB t (by omega) h.nodes (fun i => fit_rd hw i) M (fun x hx => by have := h.size x hx;omega) k (by omega)]
 refine (Option.bind_some _ _).trans ?_
 by_cases hc : zfE t = 0
 ·rw [if_pos hc,if_pos hc]
  have ht := h.txt hc
  obtain ⟨c,hcc⟩ : ∃ c : Nat,c = 20000 := ⟨_,rfl⟩
  rw [← hcc] at n3
  have hm2 : t.length * c ≤ 3000 * c := Nat.mul_le_mul_right c hlen
  rw [yiT t ht c (by omega) k (Nat.le_trans (Nat.add_le_add_right hm2 _) (Nat.le_trans n3 hk)) (Nat.le_trans n4 hk)]
  refine (Option.bind_some _ _).trans ?_
  have ha := yiX t
  have hN : Nst (outF t) := ht.nst.alike (zgS t).symm (fun i => by rw [ygD t i,ha.f0 i]) (fun i => by rw [ygE t i,ha.f3 i])
  rw [yhB (outF t) hN (by rw [zgS];omega) (fun i hi => by
   rw [← ha.f1 i]
   exact Nat.le_trans (zzS t 10000 ht.size i (by rw [zfH];rw [zgS] at hi;exact hi)) (by decide)) k (by rw [zgS];omega)]
  have hn := ha.nodes (sq_eqF2 t)
  rw [← hn,zfH]
  rfl
 rw [if_neg hc,if_neg hc]
def isP (t : List S56) : Bool := if zfE t = 0 then zfY t (zlZ t) else false
theorem zxQ (t : List S56) : (zlZ t).length ≤ t.length := by
 unfold zlZ
 rw [zdH]
 unfold pk
 refine Nat.le_trans (zsT _ _ []) ?_
 have := zmL (sqF t) 0 (t.length - 0)
 simp only [List.length_nil]
 omega
theorem is_f {t : List S56} (h : Fair t) (k : Nat) (hk : NB ≤ k) : norm_Is.f k t = some (isP t) := by
 have hlen := h.len
 have hn := zxQ t
 unfold norm_Is.f isP
 rw [yhF h k hk]
 refine (Option.bind_some _ _).trans ?_
 unfold ofP
 by_cases hc : zfE t = 0
 ·rw [if_pos hc,if_pos hc]
  refine (if_pos rfl).trans ?_
  have e2 : tree_Same.f t (zlZ t) = some (zfY t (zlZ t)) := by unfold tree_Same.f;rw [if_pos ⟨by omega,by omega⟩]
  show (tree_Same.f t (zlZ t)).bind _ = _
  rw [e2]
  exact Option.bind_some _ _
 rw [if_neg hc,if_neg hc,if_neg hc]
theorem refIs_f {t : List S56} (h : Fair t) (hw : ∀ x ∈ t,zjY x) (k : Nat) (hk : NB ≤ k) : stylusref05_Is.f k t = some (isP t) := by
 have hlen := h.len
 obtain ⟨n1,n2,n3,n4,n5,n6⟩ := zvG
 unfold stylusref05_Is.f isP
 rw [ref_f h hw k hk]
 refine (Option.bind_some _ _).trans ?_
 unfold ofP
 by_cases hc : zfE t = 0
 ·rw [if_pos hc,if_pos hc]
  refine (if_pos rfl).trans ?_
  show (stylusref04_Same.f k t (zlZ t)).bind _ = _
  rw [yhE t (zlZ t) (by omega) k (by omega)]
  exact Option.bind_some _ _
 rw [if_neg hc,if_neg hc,if_neg hc]
end Go.Proofs.Ythcmfjpheanphaa.Pr
namespace Go.Proofs.Ythcmfjpheanphaa.Pr
open Go.RowKit Go.Maps Go.Proofs.YthcmfjpheanphaaW.PrintWords
theorem zoI {B g : Nat} (hg : B ≤ g) : ∀ (vs : List Value) (o : Nat) (W : World),Below B W (W.setCells g o vs)
 | [],o,W => Below.refl B W
 | v :: vs,o,W => by
  unfold World.setCells
  exact ((Below.refl B W).setCell hg v).trans (zoI hg vs (o + 1) _)
theorem zero56 (w : World) : (zeroValue 56).run Try.prog w = .ok (.agg #[.int .u8 0,.string ⟨#[]⟩,.int .i64 0,.int .i64 0]) w := by kernel_rfl
theorem clear_R {W : World} {base : Nat} {A : Option Addr} {c : Nat} {r : List S56} (h : Kd.R k56 56 W base (fun _ => True) (.slice A r.length c) r) (ty : TypeId) : ∃ W2,(Builtin.clear_ #[50] ty #[.slice A r.length c]).run Try.prog W = .ok (.tuple #[]) W2 ∧ Below base W W2 ∧ W2.heap.size = W.heap.size := by
 have ho := zsU h
 rcases Nat.eq_zero_or_pos r.length with h0 | hp
 ·rw [h0]
  refine ⟨W,?_,Below.refl _ _,rfl⟩
  cases A <;> simp [Builtin.clear_,run_underlying Try.underlying50]
 obtain ⟨g,c',hA⟩ := zhZ ho hp
 simp only [Value.slice.injEq] at hA
 obtain ⟨rfl,-,rfl⟩ := hA
 have hb := zcZ ho g rfl
 obtain ⟨vs,hvs⟩ : ∃ vs,(Builtin.zeroCells (Value.agg #[.int .u8 0,.string ⟨#[]⟩,.int .i64 0,.int .i64 0]).cells r.length).toList = vs := ⟨_,rfl⟩
 have hlen : vs.length = r.length * 4 := by
  rw [← hvs]
  simp [Builtin.zeroCells,Value.cells]
 have hone : ∀ v ∈ vs,v.oneCell' = true := by
  rw [← hvs]
  intro v hv
  rw [Array.mem_toList_iff] at hv
  unfold Builtin.zeroCells at hv
  obtain ⟨i,_,rfl⟩ := Array.mem_map.1 hv
  have hi : i % 4 < 4 := Nat.mod_lt _ (by decide)
  have : ∀ j,j < 4 → ((#[Value.int .u8 0,.string ⟨#[]⟩,.int .i64 0,.int .i64 0] : Array Value)[j]!).oneCell' = true := by
   intro j hj
   match j,hj with
   | 0,_ => rfl
   | 1,_ => rfl
   | 2,_ => rfl
   | 3,_ => rfl
  exact this _ hi
 have hcell : ∀ j,j < vs.length → (W.cell? ⟨g,0 + 0 + j,none⟩).isSome = true := fun j hj => by
  have := zpG r
  rw [Nat.zero_add,ho.cellAt j (by omega),List.getElem?_eq_getElem (by omega)]
  rfl
 have hfz : ∀ j,j < vs.length → W.frozen? ⟨g,0 + 0 + j,none⟩ = false := fun j hj => by
  rw [Nat.zero_add]
  exact World.ownsRow.frozenAt ho j
 have hst := run_storeCells_cells (P := Try.prog) g 0 vs 0 W hcell hfz hone
 refine ⟨W.setCells g (0 + 0) vs,?_,zoI hb _ _ _,(zlJ g vs _ W).2.2.2⟩
 obtain ⟨m,hm⟩ : ∃ m,r.length = m + 1 := ⟨r.length - 1,by omega⟩
 rw [hm] at hvs ⊢
 simp only [Builtin.clear_]
 simp [run_underlying Try.underlying50,zero56,hvs,hst]
end Go.Proofs.Ythcmfjpheanphaa.Pr
namespace Go.Proofs.Ythcmfjpheanphaa.Pr
open Go.RowKit Go.Proofs.YthcmfjpheanphaaW.PrintWords Go.Proofs.YthcmfjpheanphaaW.PrintLast Go.Proofs.YthcmfjpheanphaaW.PrintMore
attribute [local go_sem] zaX zaY zbG zbI zaV zaW zaZ zbA
def zdD : Nat → List (S56) → Int → Option (Bool)
 | 0,_,_ => none
 | k + 1,x0,x3 => if x3 < (x0.length : Int) then (if 0 ≤ x3 then (if (((zaA x0 x3).f1).size : Int) > 100 then (some true) else (zdD k x0 (wrap64 (x3 + 1)))) else (none)) else (some false)
def styluslaw05_vast.f (k : Nat) (l0 : List (S56)) : Option (Bool) := if (l0.length : Int) > 150 then (some true) else (zdD k l0 0)
theorem styluslaw05_vast.calls (k : Nat) (A0 : Option Addr) (c0 : Nat) (l0 : List (S56)) (r : Bool) (w : World) (hr0 : Kd.C k56 w A0 l0.length l0) (hc0 : l0.length ≤ c0) (h : styluslaw05_vast.f k l0 = some r) :
  Calls Try.prog 62 #[.slice A0 l0.length c0] w fun e w' => e = .returned (.bool r) ∧ Drawn0 w w' := by
 have HR0 := Aside0.mk hr0
 have HC0 := Aside0.mk hc0
 clear hr0 hc0
 have H : (if (l0.length : Int) > 150 then (some true) else (zdD k l0 0)) = some r := h
 clear h
 by_cases c2 : (l0.length : Int) > 150
 ·rw [if_pos c2] at H
  have c2b0 : decide (150 < (l0.length : Int)) = true := decide_eq_true c2
  have c2b1 : decide (150 < l0.length) = true := decide_eq_true (by omega)
  clear c2
  obtain rfl := Option.some.inj H
  go_enter Try.func62,Try.ntmps62
  go_wp2
  go_ret
  exact ⟨qS,qW⟩
 rw [if_neg c2] at H
 have c2b0 : decide (150 < (l0.length : Int)) = false := decide_eq_false c2
 have c2b1 : decide (150 < l0.length) = false := decide_eq_false (by omega)
 clear c2
 have H' := Aside0.mk H
 clear H
 go_enter Try.func62,Try.ntmps62
 go_wp2
 go_loopg [3] k (fun kq v3 w' => ∃ (x3_1 : Int),v3 = .int .i64 x3_1 ∧ Aside0 (zdD kq l0 x3_1 = some r) ∧ Aside0 (kq ≤ k) ∧ Drawn0 w w')
 case atStart => exact ⟨(0),qS,H',⟨Nat.le_refl _⟩,qW⟩
 clear H'
 obtain ⟨x3_1,rfl,HA,HK1,⟨m1,rfl⟩⟩ := hrel
 cases gk with
 | zero => exact absurd HA.out (by simp [zdD])
 | succ k1 =>
 have H := HA.out
 clear HA
 simp only [zdD] at H
 obtain ⟨c3b0,H⟩ | ⟨c3b0,H⟩ := spD H
 rotate_left
 ·obtain rfl := Option.some.inj H
  go_wp2
  go_ret
  exact ⟨qS,qW⟩
 obtain ⟨c4b0,H⟩ := spN H
 by_cases c5 : (((zaA l0 x3_1).f1).size : Int) > 100
 ·rw [if_pos c5] at H
  have c5b0 : decide (100 < (((zaA l0 x3_1).f1).size : Int)) = true := decide_eq_true c5
  have c5b1 : decide (100 < ((zaA l0 x3_1).f1).size) = true := decide_eq_true (by omega)
  clear c5
  obtain rfl := Option.some.inj H
  obtain ⟨ad110,e110,p110,q110,hx110_0,hx110_1,hx110_2,hx110_3⟩ := bT56 HR0.out x3_1
  cases e110
  go_wp2
  go_ret
  exact ⟨qS,qW⟩
 rw [if_neg c5] at H
 have c5b0 : decide (100 < (((zaA l0 x3_1).f1).size : Int)) = false := decide_eq_false c5
 have c5b1 : decide (100 < ((zaA l0 x3_1).f1).size) = false := decide_eq_false (by omega)
 clear c5
 have H' := Aside0.mk H
 clear H
 obtain ⟨ad110,e110,p110,q110,hx110_0,hx110_1,hx110_2,hx110_3⟩ := bT56 HR0.out x3_1
 cases e110
 go_wp2
 go_roundg k1
 case measure => have := HK1.out;omega
 case rel => exact ⟨(wrap64 (x3_1 + 1)),qS,H',⟨by have := HK1.out;omega⟩,qW⟩
def styluslaw05_alike.f (k : Nat) (a0 : ByteArray) (a1 : ByteArray) : Option (Bool) := (tree_Parse.f a0).bind fun bt219 => ((tree_Parse.f a1).bind fun bt224 => ((norm_Of.f k bt219.1).bind fun bt229 => (if bt219.2.2 = 0 then (if bt224.2.2 = 0 then (if bt229.2 = 0 then ((stylusref04_Same.f k bt229.1 bt224.1).bind fun t233 => (if t233 = true then ((norm_Is.f k bt224.1).bind fun t234 => (if t234 = true then (some (decide ((bt229.1.length : Int) > 0))) else (some false))) else (some false))) else (some false)) else (some false)) else (some false))))
theorem styluslaw05_alike.calls (k : Nat) (a0 : ByteArray) (a1 : ByteArray) (r : Bool) (w : World) (h : styluslaw05_alike.f k a0 a1 = some r) :
  Calls Try.prog 109 #[.string a0,.string a1] w fun e w' => e = .returned (.bool r) ∧ Below w.heap.size w w' := by
 have HB := Aside0.mk (Below.refl w.heap.size w)
 have H : ((tree_Parse.f a0).bind fun bt219 => ((tree_Parse.f a1).bind fun bt224 => ((norm_Of.f k bt219.1).bind fun bt229 => (if bt219.2.2 = 0 then (if bt224.2.2 = 0 then (if bt229.2 = 0 then ((stylusref04_Same.f k bt229.1 bt224.1).bind fun t233 => (if t233 = true then ((norm_Is.f k bt224.1).bind fun t234 => (if t234 = true then (some (decide ((bt229.1.length : Int) > 0))) else (some false))) else (some false))) else (some false)) else (some false)) else (some false))))) = some r := h
 clear h
 obtain ⟨⟨t219,t220,t221⟩,A3,H⟩ := bdA H
 dsimp only at H
 obtain ⟨⟨t224,t225,t226⟩,A4,H⟩ := bdA H
 dsimp only at H
 obtain ⟨⟨t229,t230⟩,A5,H⟩ := bdA H
 dsimp only at H
 obtain ⟨c6b0,c6b1,H⟩ | ⟨c6b0,c6b1,H⟩ := spE H
 rotate_left
 ·obtain rfl := Option.some.inj H
  go_enter Try.func109,Try.ntmps109
  go_wp2_with (first | ((with_reducible refine zaE (f := 53) rfl ?_);refine zaL (some 15) rfl rfl Try.func53 (by kernel_rfl) rfl #[.string a0] rfl qM ?_;(with_reducible refine (tree_Parse.calls a0 t219 t220 t221 _ A3.out).mono ?_);rintro e w41 ⟨v222,rfl,ho0,hb⟩;refine ⟨_,rfl,?_⟩;obtain ⟨_,_⟩ := a2 (Kd.R_lower ho0 (zaF qB)) (zaD qB hb);clear HB;rename_i HO223 HB;(try clear hb);(try clear hb2);(try clear hk);(try clear hi);(try clear ho0)) | ((with_reducible refine zaE (f := 53) rfl ?_);refine zaL (some 21) rfl rfl Try.func53 (by kernel_rfl) rfl #[.string a1] rfl qM ?_;(with_reducible refine (tree_Parse.calls a1 t224 t225 t226 _ A4.out).mono ?_);rintro e w42 ⟨v227,rfl,ho0,hb⟩;refine ⟨_,rfl,?_⟩;obtain ⟨_,_,_⟩ := a3 (Kd.R_elder' (qR HO223) (Kd.R_base ho0) hb) (Kd.R_lower (Kd.R_new' ho0 (Kd.R_lt (qR HO223))) (zaF qB)) (zaD qB hb);clear HO223 HB;rename_i HO223 HO228 HB;(try clear hb);(try clear hb2);(try clear hk);(try clear hi);(try clear ho0);obtain ⟨Ao43,co43,eo43⟩ := Kd.R_slice HO223.out;subst eo43) | ((with_reducible refine zaE (f := 64) rfl ?_);refine zaL (some 27) rfl rfl Try.func64 (by kernel_rfl) rfl #[.slice Ao43 t219.length co43] rfl qM ?_;(with_reducible refine (norm_Of.calls k _ _ t219 t229 t230 _ ?side1 ?side2 A5.out).mono ?_);(case side1 => exact qC ((Kd.R_reads' HO223.out).2.2));(case side2 => exact (Kd.R_reads' HO223.out).2.1);rintro e w44 ⟨v231,rfl,ho0,hb⟩;refine ⟨_,rfl,?_⟩;obtain ⟨_,_,_,_⟩ := a4 (Kd.R_elder' (qR HO223) (Kd.R_base ho0) hb) (Kd.R_elder' (qR HO228) (Kd.R_base ho0) hb) (Kd.R_lower (Kd.R_new' (Kd.R_new' ho0 (Kd.R_lt (qR HO223))) (Kd.R_lt (qR HO228))) (zaF qB)) (zaD qB hb);clear HO223 HO228 HB;rename_i HO223 HO228 HO232 HB;(try clear hb);(try clear hb2);(try clear hk);(try clear hi);(try clear ho0)))
  go_ret
  exact ⟨qE,qB⟩
 obtain ⟨c7b0,c7b1,H⟩ | ⟨c7b0,c7b1,H⟩ := spE H
 rotate_left
 ·obtain rfl := Option.some.inj H
  go_enter Try.func109,Try.ntmps109
  go_wp2_with (first | ((with_reducible refine zaE (f := 53) rfl ?_);refine zaL (some 15) rfl rfl Try.func53 (by kernel_rfl) rfl #[.string a0] rfl qM ?_;(with_reducible refine (tree_Parse.calls a0 t219 t220 t221 _ A3.out).mono ?_);rintro e w37 ⟨v222,rfl,ho0,hb⟩;refine ⟨_,rfl,?_⟩;obtain ⟨_,_⟩ := a2 (Kd.R_lower ho0 (zaF qB)) (zaD qB hb);clear HB;rename_i HO223 HB;(try clear hb);(try clear hb2);(try clear hk);(try clear hi);(try clear ho0)) | ((with_reducible refine zaE (f := 53) rfl ?_);refine zaL (some 21) rfl rfl Try.func53 (by kernel_rfl) rfl #[.string a1] rfl qM ?_;(with_reducible refine (tree_Parse.calls a1 t224 t225 t226 _ A4.out).mono ?_);rintro e w38 ⟨v227,rfl,ho0,hb⟩;refine ⟨_,rfl,?_⟩;obtain ⟨_,_,_⟩ := a3 (Kd.R_elder' (qR HO223) (Kd.R_base ho0) hb) (Kd.R_lower (Kd.R_new' ho0 (Kd.R_lt (qR HO223))) (zaF qB)) (zaD qB hb);clear HO223 HB;rename_i HO223 HO228 HB;(try clear hb);(try clear hb2);(try clear hk);(try clear hi);(try clear ho0);obtain ⟨Ao39,co39,eo39⟩ := Kd.R_slice HO223.out;subst eo39) | ((with_reducible refine zaE (f := 64) rfl ?_);refine zaL (some 27) rfl rfl Try.func64 (by kernel_rfl) rfl #[.slice Ao39 t219.length co39] rfl qM ?_;(with_reducible refine (norm_Of.calls k _ _ t219 t229 t230 _ ?side1 ?side2 A5.out).mono ?_);(case side1 => exact qC ((Kd.R_reads' HO223.out).2.2));(case side2 => exact (Kd.R_reads' HO223.out).2.1);rintro e w40 ⟨v231,rfl,ho0,hb⟩;refine ⟨_,rfl,?_⟩;obtain ⟨_,_,_,_⟩ := a4 (Kd.R_elder' (qR HO223) (Kd.R_base ho0) hb) (Kd.R_elder' (qR HO228) (Kd.R_base ho0) hb) (Kd.R_lower (Kd.R_new' (Kd.R_new' ho0 (Kd.R_lt (qR HO223))) (Kd.R_lt (qR HO228))) (zaF qB)) (zaD qB hb);clear HO223 HO228 HB;rename_i HO223 HO228 HO232 HB;(try clear hb);(try clear hb2);(try clear hk);(try clear hi);(try clear ho0)))
  go_ret
  exact ⟨qE,qB⟩
 obtain ⟨c8b0,c8b1,H⟩ | ⟨c8b0,c8b1,H⟩ := spE H
 rotate_left
 ·obtain rfl := Option.some.inj H
  go_enter Try.func109,Try.ntmps109
  go_wp2_with (first | ((with_reducible refine zaE (f := 53) rfl ?_);refine zaL (some 15) rfl rfl Try.func53 (by kernel_rfl) rfl #[.string a0] rfl qM ?_;(with_reducible refine (tree_Parse.calls a0 t219 t220 t221 _ A3.out).mono ?_);rintro e w33 ⟨v222,rfl,ho0,hb⟩;refine ⟨_,rfl,?_⟩;obtain ⟨_,_⟩ := a2 (Kd.R_lower ho0 (zaF qB)) (zaD qB hb);clear HB;rename_i HO223 HB;(try clear hb);(try clear hb2);(try clear hk);(try clear hi);(try clear ho0)) | ((with_reducible refine zaE (f := 53) rfl ?_);refine zaL (some 21) rfl rfl Try.func53 (by kernel_rfl) rfl #[.string a1] rfl qM ?_;(with_reducible refine (tree_Parse.calls a1 t224 t225 t226 _ A4.out).mono ?_);rintro e w34 ⟨v227,rfl,ho0,hb⟩;refine ⟨_,rfl,?_⟩;obtain ⟨_,_,_⟩ := a3 (Kd.R_elder' (qR HO223) (Kd.R_base ho0) hb) (Kd.R_lower (Kd.R_new' ho0 (Kd.R_lt (qR HO223))) (zaF qB)) (zaD qB hb);clear HO223 HB;rename_i HO223 HO228 HB;(try clear hb);(try clear hb2);(try clear hk);(try clear hi);(try clear ho0);obtain ⟨Ao35,co35,eo35⟩ := Kd.R_slice HO223.out;subst eo35) | ((with_reducible refine zaE (f := 64) rfl ?_);refine zaL (some 27) rfl rfl Try.func64 (by kernel_rfl) rfl #[.slice Ao35 t219.length co35] rfl qM ?_;(with_reducible refine (norm_Of.calls k _ _ t219 t229 t230 _ ?side1 ?side2 A5.out).mono ?_);(case side1 => exact qC ((Kd.R_reads' HO223.out).2.2));(case side2 => exact (Kd.R_reads' HO223.out).2.1);rintro e w36 ⟨v231,rfl,ho0,hb⟩;refine ⟨_,rfl,?_⟩;obtain ⟨_,_,_,_⟩ := a4 (Kd.R_elder' (qR HO223) (Kd.R_base ho0) hb) (Kd.R_elder' (qR HO228) (Kd.R_base ho0) hb) (Kd.R_lower (Kd.R_new' (Kd.R_new' ho0 (Kd.R_lt (qR HO223))) (Kd.R_lt (qR HO228))) (zaF qB)) (zaD qB hb);clear HO223 HO228 HB;rename_i HO223 HO228 HO232 HB;(try clear hb);(try clear hb2);(try clear hk);(try clear hi);(try clear ho0)))
  go_ret
  exact ⟨qE,qB⟩
 obtain ⟨t233,A9,H⟩ := bdA H
 by_cases c10 : t233 = true
 rotate_left
 ·replace c10 := Bool.eq_false_iff.mpr c10
  subst c10
  rw [if_neg nft] at H
  obtain rfl := Option.some.inj H
  go_enter Try.func109,Try.ntmps109
  go_wp2_with (first | ((with_reducible refine zaE (f := 53) rfl ?_);refine zaL (some 15) rfl rfl Try.func53 (by kernel_rfl) rfl #[.string a0] rfl qM ?_;(with_reducible refine (tree_Parse.calls a0 t219 t220 t221 _ A3.out).mono ?_);rintro e w27 ⟨v222,rfl,ho0,hb⟩;refine ⟨_,rfl,?_⟩;obtain ⟨_,_⟩ := a2 (Kd.R_lower ho0 (zaF qB)) (zaD qB hb);clear HB;rename_i HO223 HB;(try clear hb);(try clear hb2);(try clear hk);(try clear hi);(try clear ho0)) | ((with_reducible refine zaE (f := 53) rfl ?_);refine zaL (some 21) rfl rfl Try.func53 (by kernel_rfl) rfl #[.string a1] rfl qM ?_;(with_reducible refine (tree_Parse.calls a1 t224 t225 t226 _ A4.out).mono ?_);rintro e w28 ⟨v227,rfl,ho0,hb⟩;refine ⟨_,rfl,?_⟩;obtain ⟨_,_,_⟩ := a3 (Kd.R_elder' (qR HO223) (Kd.R_base ho0) hb) (Kd.R_lower (Kd.R_new' ho0 (Kd.R_lt (qR HO223))) (zaF qB)) (zaD qB hb);clear HO223 HB;rename_i HO223 HO228 HB;(try clear hb);(try clear hb2);(try clear hk);(try clear hi);(try clear ho0);obtain ⟨Ao29,co29,eo29⟩ := Kd.R_slice HO223.out;subst eo29) | ((with_reducible refine zaE (f := 64) rfl ?_);refine zaL (some 27) rfl rfl Try.func64 (by kernel_rfl) rfl #[.slice Ao29 t219.length co29] rfl qM ?_;(with_reducible refine (norm_Of.calls k _ _ t219 t229 t230 _ ?side1 ?side2 A5.out).mono ?_);(case side1 => exact qC ((Kd.R_reads' HO223.out).2.2));(case side2 => exact (Kd.R_reads' HO223.out).2.1);rintro e w30 ⟨v231,rfl,ho0,hb⟩;refine ⟨_,rfl,?_⟩;obtain ⟨_,_,_,_⟩ := a4 (Kd.R_elder' (qR HO223) (Kd.R_base ho0) hb) (Kd.R_elder' (qR HO228) (Kd.R_base ho0) hb) (Kd.R_lower (Kd.R_new' (Kd.R_new' ho0 (Kd.R_lt (qR HO223))) (Kd.R_lt (qR HO228))) (zaF qB)) (zaD qB hb);clear HO223 HO228 HB;rename_i HO223 HO228 HO232 HB;(try clear hb);(try clear hb2);(try clear hk);(try clear hi);(try clear ho0);obtain ⟨Ao31,co31,eo31⟩ := Kd.R_slice HO232.out;subst eo31;obtain ⟨Ao32,co32,eo32⟩ := Kd.R_slice HO228.out;subst eo32) | (go_at_call 61;(with_reducible refine (stylusref04_Same.calls k _ _ t229 _ _ t224 false _ ?side1 ?side2 ?side3 ?side4 A9.out).mono ?_);(case side1 => exact qC ((Kd.R_reads' HO232.out).2.2));(case side2 => exact (Kd.R_reads' HO232.out).2.1);(case side3 => exact qC ((Kd.R_reads' HO228.out).2.2));(case side4 => exact (Kd.R_reads' HO228.out).2.1);rintro e w' ⟨rfl,⟨nd,rfl⟩⟩))
  go_ret
  exact ⟨qE,qB⟩
 subst c10
 rw [if_pos rfl] at H
 obtain ⟨t234,A11,H⟩ := bdA H
 by_cases c12 : t234 = true
 ·subst c12
  rw [if_pos rfl] at H
  obtain rfl := Option.some.inj H
  go_enter Try.func109,Try.ntmps109
  go_wp2_with (first | ((with_reducible refine zaE (f := 53) rfl ?_);refine zaL (some 15) rfl rfl Try.func53 (by kernel_rfl) rfl #[.string a0] rfl qM ?_;(with_reducible refine (tree_Parse.calls a0 t219 t220 t221 _ A3.out).mono ?_);rintro e w13 ⟨v222,rfl,ho0,hb⟩;refine ⟨_,rfl,?_⟩;obtain ⟨_,_⟩ := a2 (Kd.R_lower ho0 (zaF qB)) (zaD qB hb);clear HB;rename_i HO223 HB;(try clear hb);(try clear hb2);(try clear hk);(try clear hi);(try clear ho0)) | ((with_reducible refine zaE (f := 53) rfl ?_);refine zaL (some 21) rfl rfl Try.func53 (by kernel_rfl) rfl #[.string a1] rfl qM ?_;(with_reducible refine (tree_Parse.calls a1 t224 t225 t226 _ A4.out).mono ?_);rintro e w14 ⟨v227,rfl,ho0,hb⟩;refine ⟨_,rfl,?_⟩;obtain ⟨_,_,_⟩ := a3 (Kd.R_elder' (qR HO223) (Kd.R_base ho0) hb) (Kd.R_lower (Kd.R_new' ho0 (Kd.R_lt (qR HO223))) (zaF qB)) (zaD qB hb);clear HO223 HB;rename_i HO223 HO228 HB;(try clear hb);(try clear hb2);(try clear hk);(try clear hi);(try clear ho0);obtain ⟨Ao15,co15,eo15⟩ := Kd.R_slice HO223.out;subst eo15) | ((with_reducible refine zaE (f := 64) rfl ?_);refine zaL (some 27) rfl rfl Try.func64 (by kernel_rfl) rfl #[.slice Ao15 t219.length co15] rfl qM ?_;(with_reducible refine (norm_Of.calls k _ _ t219 t229 t230 _ ?side1 ?side2 A5.out).mono ?_);(case side1 => exact qC ((Kd.R_reads' HO223.out).2.2));(case side2 => exact (Kd.R_reads' HO223.out).2.1);rintro e w16 ⟨v231,rfl,ho0,hb⟩;refine ⟨_,rfl,?_⟩;obtain ⟨_,_,_,_⟩ := a4 (Kd.R_elder' (qR HO223) (Kd.R_base ho0) hb) (Kd.R_elder' (qR HO228) (Kd.R_base ho0) hb) (Kd.R_lower (Kd.R_new' (Kd.R_new' ho0 (Kd.R_lt (qR HO223))) (Kd.R_lt (qR HO228))) (zaF qB)) (zaD qB hb);clear HO223 HO228 HB;rename_i HO223 HO228 HO232 HB;(try clear hb);(try clear hb2);(try clear hk);(try clear hi);(try clear ho0);obtain ⟨Ao17,co17,eo17⟩ := Kd.R_slice HO232.out;subst eo17;obtain ⟨Ao18,co18,eo18⟩ := Kd.R_slice HO228.out;subst eo18) | (go_at_call 61;(with_reducible refine (stylusref04_Same.calls k _ _ t229 _ _ t224 true _ ?side1 ?side2 ?side3 ?side4 A9.out).mono ?_);(case side1 => exact qC ((Kd.R_reads' HO232.out).2.2));(case side2 => exact (Kd.R_reads' HO232.out).2.1);(case side3 => exact qC ((Kd.R_reads' HO228.out).2.2));(case side4 => exact (Kd.R_reads' HO228.out).2.1);rintro e w' ⟨rfl,⟨nd,rfl⟩⟩) | (go_at_call 66;(with_reducible refine (norm_Is.calls k _ _ t224 true _ ?side1 ?side2 A11.out).mono ?_);(case side1 => exact qC ((Kd.R_reads' HO228.out).2.2));(case side2 => exact (Kd.R_reads' HO228.out).2.1);rintro e w19 ⟨rfl,hb⟩;obtain ⟨_,_,_,_⟩ := a4 (Kd.R_below (qR HO223) hb) (Kd.R_below (qR HO228) hb) (Kd.R_below (qR HO232) hb) (zaD qB hb);clear HO223 HO228 HO232 HB;rename_i HO223 HO228 HO232 HB;(try clear hb);(try clear hb2);(try clear hk);(try clear hi)))
  go_ret
  exact ⟨qE,qB⟩
 replace c12 := Bool.eq_false_iff.mpr c12
 subst c12
 rw [if_neg nft] at H
 obtain rfl := Option.some.inj H
 go_enter Try.func109,Try.ntmps109
 go_wp2_with (first | ((with_reducible refine zaE (f := 53) rfl ?_);refine zaL (some 15) rfl rfl Try.func53 (by kernel_rfl) rfl #[.string a0] rfl qM ?_;(with_reducible refine (tree_Parse.calls a0 t219 t220 t221 _ A3.out).mono ?_);rintro e w20 ⟨v222,rfl,ho0,hb⟩;refine ⟨_,rfl,?_⟩;obtain ⟨_,_⟩ := a2 (Kd.R_lower ho0 (zaF qB)) (zaD qB hb);clear HB;rename_i HO223 HB;(try clear hb);(try clear hb2);(try clear hk);(try clear hi);(try clear ho0)) | ((with_reducible refine zaE (f := 53) rfl ?_);refine zaL (some 21) rfl rfl Try.func53 (by kernel_rfl) rfl #[.string a1] rfl qM ?_;(with_reducible refine (tree_Parse.calls a1 t224 t225 t226 _ A4.out).mono ?_);rintro e w21 ⟨v227,rfl,ho0,hb⟩;refine ⟨_,rfl,?_⟩;obtain ⟨_,_,_⟩ := a3 (Kd.R_elder' (qR HO223) (Kd.R_base ho0) hb) (Kd.R_lower (Kd.R_new' ho0 (Kd.R_lt (qR HO223))) (zaF qB)) (zaD qB hb);clear HO223 HB;rename_i HO223 HO228 HB;(try clear hb);(try clear hb2);(try clear hk);(try clear hi);(try clear ho0);obtain ⟨Ao22,co22,eo22⟩ := Kd.R_slice HO223.out;subst eo22) | ((with_reducible refine zaE (f := 64) rfl ?_);refine zaL (some 27) rfl rfl Try.func64 (by kernel_rfl) rfl #[.slice Ao22 t219.length co22] rfl qM ?_;(with_reducible refine (norm_Of.calls k _ _ t219 t229 t230 _ ?side1 ?side2 A5.out).mono ?_);(case side1 => exact qC ((Kd.R_reads' HO223.out).2.2));(case side2 => exact (Kd.R_reads' HO223.out).2.1);rintro e w23 ⟨v231,rfl,ho0,hb⟩;refine ⟨_,rfl,?_⟩;obtain ⟨_,_,_,_⟩ := a4 (Kd.R_elder' (qR HO223) (Kd.R_base ho0) hb) (Kd.R_elder' (qR HO228) (Kd.R_base ho0) hb) (Kd.R_lower (Kd.R_new' (Kd.R_new' ho0 (Kd.R_lt (qR HO223))) (Kd.R_lt (qR HO228))) (zaF qB)) (zaD qB hb);clear HO223 HO228 HB;rename_i HO223 HO228 HO232 HB;(try clear hb);(try clear hb2);(try clear hk);(try clear hi);(try clear ho0);obtain ⟨Ao24,co24,eo24⟩ := Kd.R_slice HO232.out;subst eo24;obtain ⟨Ao25,co25,eo25⟩ := Kd.R_slice HO228.out;subst eo25) | (go_at_call 61;(with_reducible refine (stylusref04_Same.calls k _ _ t229 _ _ t224 true _ ?side1 ?side2 ?side3 ?side4 A9.out).mono ?_);(case side1 => exact qC ((Kd.R_reads' HO232.out).2.2));(case side2 => exact (Kd.R_reads' HO232.out).2.1);(case side3 => exact qC ((Kd.R_reads' HO228.out).2.2));(case side4 => exact (Kd.R_reads' HO228.out).2.1);rintro e w' ⟨rfl,⟨nd,rfl⟩⟩) | (go_at_call 66;(with_reducible refine (norm_Is.calls k _ _ t224 false _ ?side1 ?side2 A11.out).mono ?_);(case side1 => exact qC ((Kd.R_reads' HO228.out).2.2));(case side2 => exact (Kd.R_reads' HO228.out).2.1);rintro e w26 ⟨rfl,hb⟩;obtain ⟨_,_,_,_⟩ := a4 (Kd.R_below (qR HO223) hb) (Kd.R_below (qR HO228) hb) (Kd.R_below (qR HO232) hb) (zaD qB hb);clear HO223 HO228 HO232 HB;rename_i HO223 HO228 HO232 HB;(try clear hb);(try clear hb2);(try clear hk);(try clear hi)))
 go_ret
 exact ⟨qE,qB⟩
def styluslaw05_awake.f (k : Nat)  : Option (Bool) := (styluslaw05_alike.f k (⟨#[123,112,32,32,97,32,32,98,32,125]⟩ : ByteArray) (⟨#[123,112,32,97,32,98,125]⟩ : ByteArray)).bind fun t235 => (if t235 = true then ((styluslaw05_alike.f k (⟨#[123,112,32,97,32,123,101,32,32,98,32,125,99,123,110,32,32,120,32,125,32,100,125]⟩ : ByteArray) (⟨#[123,112,32,97,32,123,101,32,98,32,125,99,123,110,32,120,125,32,100,125]⟩ : ByteArray)).bind fun t236 => (if t236 = true then ((styluslaw05_alike.f k (⟨#[123,112,32,123,101,32,125,32,123,115,32,97,125,125]⟩ : ByteArray) (⟨#[123,112,32,123,101,32,125,123,115,32,97,125,125]⟩ : ByteArray)).bind fun t237 => (if t237 = true then ((styluslaw05_alike.f k (⟨#[123,112,32,97,123,101,32,32,125,125]⟩ : ByteArray) (⟨#[123,112,32,97,123,101,32,125,125]⟩ : ByteArray)).bind fun t238 => (some t238)) else (some false))) else (some false))) else (some false))
theorem styluslaw05_awake.calls (k : Nat)  (r : Bool) (w : World) (h : styluslaw05_awake.f k  = some r) :
  Calls Try.prog 63 #[] w fun e w' => e = .returned (.bool r) ∧ Below w.heap.size w w' := by
 have HB := Aside0.mk (Below.refl w.heap.size w)
 have H : ((styluslaw05_alike.f k (⟨#[123,112,32,32,97,32,32,98,32,125]⟩ : ByteArray) (⟨#[123,112,32,97,32,98,125]⟩ : ByteArray)).bind fun t235 => (if t235 = true then ((styluslaw05_alike.f k (⟨#[123,112,32,97,32,123,101,32,32,98,32,125,99,123,110,32,32,120,32,125,32,100,125]⟩ : ByteArray) (⟨#[123,112,32,97,32,123,101,32,98,32,125,99,123,110,32,120,125,32,100,125]⟩ : ByteArray)).bind fun t236 => (if t236 = true then ((styluslaw05_alike.f k (⟨#[123,112,32,123,101,32,125,32,123,115,32,97,125,125]⟩ : ByteArray) (⟨#[123,112,32,123,101,32,125,123,115,32,97,125,125]⟩ : ByteArray)).bind fun t237 => (if t237 = true then ((styluslaw05_alike.f k (⟨#[123,112,32,97,123,101,32,32,125,125]⟩ : ByteArray) (⟨#[123,112,32,97,123,101,32,125,125]⟩ : ByteArray)).bind fun t238 => (some t238)) else (some false))) else (some false))) else (some false))) = some r := h
 clear h
 obtain ⟨t235,A1,H⟩ := bdA H
 replace H : (if t235 = true then ((styluslaw05_alike.f k (⟨#[123,112,32,97,32,123,101,32,32,98,32,125,99,123,110,32,32,120,32,125,32,100,125]⟩ : ByteArray) (⟨#[123,112,32,97,32,123,101,32,98,32,125,99,123,110,32,120,125,32,100,125]⟩ : ByteArray)).bind fun t236 => (if t236 = true then ((styluslaw05_alike.f k (⟨#[123,112,32,123,101,32,125,32,123,115,32,97,125,125]⟩ : ByteArray) (⟨#[123,112,32,123,101,32,125,123,115,32,97,125,125]⟩ : ByteArray)).bind fun t237 => (if t237 = true then ((styluslaw05_alike.f k (⟨#[123,112,32,97,123,101,32,32,125,125]⟩ : ByteArray) (⟨#[123,112,32,97,123,101,32,125,125]⟩ : ByteArray)).bind fun t238 => (some t238)) else (some false))) else (some false))) else (some false)) = some r := H
 by_cases c2 : t235 = true
 rotate_left
 ·replace c2 := Bool.eq_false_iff.mpr c2
  subst c2
  have H1 : (some false) = some r := by rw [if_neg nft] at H;exact H
  clear H
  have H := H1
  clear H1
  obtain rfl := Option.some.inj H
  go_enter Try.func63,Try.ntmps63
  go_wp2_with (first | ((with_reducible refine zaE (f := 109) rfl ?_);refine zaL (some 1) rfl rfl Try.func109 (by kernel_rfl) rfl #[.string (⟨#[123,112,32,32,97,32,32,98,32,125]⟩ : ByteArray),.string (⟨#[123,112,32,97,32,98,125]⟩ : ByteArray)] rfl qM ?_;(with_reducible refine (styluslaw05_alike.calls k (⟨#[123,112,32,32,97,32,32,98,32,125]⟩ : ByteArray) (⟨#[123,112,32,97,32,98,125]⟩ : ByteArray) false _ A1.out).mono ?_);rintro e w17 ⟨rfl,hb⟩;refine ⟨_,rfl,?_⟩;have := a1 (zaD qB hb);clear HB;have HB := this;clear this;(try clear hb);(try clear hb2);(try clear hk);(try clear hi)))
  go_ret
  exact ⟨qE,qB⟩
 subst c2
 have H1 : ((styluslaw05_alike.f k (⟨#[123,112,32,97,32,123,101,32,32,98,32,125,99,123,110,32,32,120,32,125,32,100,125]⟩ : ByteArray) (⟨#[123,112,32,97,32,123,101,32,98,32,125,99,123,110,32,120,125,32,100,125]⟩ : ByteArray)).bind fun t236 => (if t236 = true then ((styluslaw05_alike.f k (⟨#[123,112,32,123,101,32,125,32,123,115,32,97,125,125]⟩ : ByteArray) (⟨#[123,112,32,123,101,32,125,123,115,32,97,125,125]⟩ : ByteArray)).bind fun t237 => (if t237 = true then ((styluslaw05_alike.f k (⟨#[123,112,32,97,123,101,32,32,125,125]⟩ : ByteArray) (⟨#[123,112,32,97,123,101,32,125,125]⟩ : ByteArray)).bind fun t238 => (some t238)) else (some false))) else (some false))) = some r := by rw [if_pos rfl] at H;exact H
 clear H
 have H := H1
 clear H1
 obtain ⟨t236,A3,H⟩ := bdA H
 replace H : (if t236 = true then ((styluslaw05_alike.f k (⟨#[123,112,32,123,101,32,125,32,123,115,32,97,125,125]⟩ : ByteArray) (⟨#[123,112,32,123,101,32,125,123,115,32,97,125,125]⟩ : ByteArray)).bind fun t237 => (if t237 = true then ((styluslaw05_alike.f k (⟨#[123,112,32,97,123,101,32,32,125,125]⟩ : ByteArray) (⟨#[123,112,32,97,123,101,32,125,125]⟩ : ByteArray)).bind fun t238 => (some t238)) else (some false))) else (some false)) = some r := H
 by_cases c4 : t236 = true
 rotate_left
 ·replace c4 := Bool.eq_false_iff.mpr c4
  subst c4
  have H1 : (some false) = some r := by rw [if_neg nft] at H;exact H
  clear H
  have H := H1
  clear H1
  obtain rfl := Option.some.inj H
  go_enter Try.func63,Try.ntmps63
  go_wp2_with (first | ((with_reducible refine zaE (f := 109) rfl ?_);refine zaL (some 1) rfl rfl Try.func109 (by kernel_rfl) rfl #[.string (⟨#[123,112,32,32,97,32,32,98,32,125]⟩ : ByteArray),.string (⟨#[123,112,32,97,32,98,125]⟩ : ByteArray)] rfl qM ?_;(with_reducible refine (styluslaw05_alike.calls k (⟨#[123,112,32,32,97,32,32,98,32,125]⟩ : ByteArray) (⟨#[123,112,32,97,32,98,125]⟩ : ByteArray) true _ A1.out).mono ?_);rintro e w15 ⟨rfl,hb⟩;refine ⟨_,rfl,?_⟩;have := a1 (zaD qB hb);clear HB;have HB := this;clear this;(try clear hb);(try clear hb2);(try clear hk);(try clear hi)) | (go_at_call 109;(with_reducible refine (styluslaw05_alike.calls k (⟨#[123,112,32,97,32,123,101,32,32,98,32,125,99,123,110,32,32,120,32,125,32,100,125]⟩ : ByteArray) (⟨#[123,112,32,97,32,123,101,32,98,32,125,99,123,110,32,120,125,32,100,125]⟩ : ByteArray) false _ A3.out).mono ?_);rintro e w16 ⟨rfl,hb⟩;have := a1 (zaD qB hb);clear HB;have HB := this;clear this;(try clear hb);(try clear hb2);(try clear hk);(try clear hi)))
  go_ret
  exact ⟨qE,qB⟩
 subst c4
 have H1 : ((styluslaw05_alike.f k (⟨#[123,112,32,123,101,32,125,32,123,115,32,97,125,125]⟩ : ByteArray) (⟨#[123,112,32,123,101,32,125,123,115,32,97,125,125]⟩ : ByteArray)).bind fun t237 => (if t237 = true then ((styluslaw05_alike.f k (⟨#[123,112,32,97,123,101,32,32,125,125]⟩ : ByteArray) (⟨#[123,112,32,97,123,101,32,125,125]⟩ : ByteArray)).bind fun t238 => (some t238)) else (some false))) = some r := by rw [if_pos rfl] at H;exact H
 clear H
 have H := H1
 clear H1
 obtain ⟨t237,A5,H⟩ := bdA H
 replace H : (if t237 = true then ((styluslaw05_alike.f k (⟨#[123,112,32,97,123,101,32,32,125,125]⟩ : ByteArray) (⟨#[123,112,32,97,123,101,32,125,125]⟩ : ByteArray)).bind fun t238 => (some t238)) else (some false)) = some r := H
 by_cases c6 : t237 = true
 ·subst c6
  have H1 : ((styluslaw05_alike.f k (⟨#[123,112,32,97,123,101,32,32,125,125]⟩ : ByteArray) (⟨#[123,112,32,97,123,101,32,125,125]⟩ : ByteArray)).bind fun t238 => (some t238)) = some r := by rw [if_pos rfl] at H;exact H
  clear H
  have H := H1
  clear H1
  obtain ⟨t238,A7,H⟩ := bdA H
  replace H : (some t238) = some r := H
  obtain rfl := Option.some.inj H
  go_enter Try.func63,Try.ntmps63
  go_wp2_with (first | ((with_reducible refine zaE (f := 109) rfl ?_);refine zaL (some 1) rfl rfl Try.func109 (by kernel_rfl) rfl #[.string (⟨#[123,112,32,32,97,32,32,98,32,125]⟩ : ByteArray),.string (⟨#[123,112,32,97,32,98,125]⟩ : ByteArray)] rfl qM ?_;(with_reducible refine (styluslaw05_alike.calls k (⟨#[123,112,32,32,97,32,32,98,32,125]⟩ : ByteArray) (⟨#[123,112,32,97,32,98,125]⟩ : ByteArray) true _ A1.out).mono ?_);rintro e w8 ⟨rfl,hb⟩;refine ⟨_,rfl,?_⟩;have := a1 (zaD qB hb);clear HB;have HB := this;clear this;(try clear hb);(try clear hb2);(try clear hk);(try clear hi)) | (go_at_call 109;(with_reducible refine (styluslaw05_alike.calls k (⟨#[123,112,32,97,32,123,101,32,32,98,32,125,99,123,110,32,32,120,32,125,32,100,125]⟩ : ByteArray) (⟨#[123,112,32,97,32,123,101,32,98,32,125,99,123,110,32,120,125,32,100,125]⟩ : ByteArray) true _ A3.out).mono ?_);rintro e w9 ⟨rfl,hb⟩;have := a1 (zaD qB hb);clear HB;have HB := this;clear this;(try clear hb);(try clear hb2);(try clear hk);(try clear hi)) | (go_at_call 109;(with_reducible refine (styluslaw05_alike.calls k (⟨#[123,112,32,123,101,32,125,32,123,115,32,97,125,125]⟩ : ByteArray) (⟨#[123,112,32,123,101,32,125,123,115,32,97,125,125]⟩ : ByteArray) true _ A5.out).mono ?_);rintro e w10 ⟨rfl,hb⟩;have := a1 (zaD qB hb);clear HB;have HB := this;clear this;(try clear hb);(try clear hb2);(try clear hk);(try clear hi)) | (go_at_call 109;(with_reducible refine (styluslaw05_alike.calls k (⟨#[123,112,32,97,123,101,32,32,125,125]⟩ : ByteArray) (⟨#[123,112,32,97,123,101,32,125,125]⟩ : ByteArray) t238 _ A7.out).mono ?_);rintro e w11 ⟨rfl,hb⟩;have := a1 (zaD qB hb);clear HB;have HB := this;clear this;(try clear hb);(try clear hb2);(try clear hk);(try clear hi)))
  go_ret
  exact ⟨qE,qB⟩
 replace c6 := Bool.eq_false_iff.mpr c6
 subst c6
 have H1 : (some false) = some r := by rw [if_neg nft] at H;exact H
 clear H
 have H := H1
 clear H1
 obtain rfl := Option.some.inj H
 go_enter Try.func63,Try.ntmps63
 go_wp2_with (first | ((with_reducible refine zaE (f := 109) rfl ?_);refine zaL (some 1) rfl rfl Try.func109 (by kernel_rfl) rfl #[.string (⟨#[123,112,32,32,97,32,32,98,32,125]⟩ : ByteArray),.string (⟨#[123,112,32,97,32,98,125]⟩ : ByteArray)] rfl qM ?_;(with_reducible refine (styluslaw05_alike.calls k (⟨#[123,112,32,32,97,32,32,98,32,125]⟩ : ByteArray) (⟨#[123,112,32,97,32,98,125]⟩ : ByteArray) true _ A1.out).mono ?_);rintro e w12 ⟨rfl,hb⟩;refine ⟨_,rfl,?_⟩;have := a1 (zaD qB hb);clear HB;have HB := this;clear this;(try clear hb);(try clear hb2);(try clear hk);(try clear hi)) | (go_at_call 109;(with_reducible refine (styluslaw05_alike.calls k (⟨#[123,112,32,97,32,123,101,32,32,98,32,125,99,123,110,32,32,120,32,125,32,100,125]⟩ : ByteArray) (⟨#[123,112,32,97,32,123,101,32,98,32,125,99,123,110,32,120,125,32,100,125]⟩ : ByteArray) true _ A3.out).mono ?_);rintro e w13 ⟨rfl,hb⟩;have := a1 (zaD qB hb);clear HB;have HB := this;clear this;(try clear hb);(try clear hb2);(try clear hk);(try clear hi)) | (go_at_call 109;(with_reducible refine (styluslaw05_alike.calls k (⟨#[123,112,32,123,101,32,125,32,123,115,32,97,125,125]⟩ : ByteArray) (⟨#[123,112,32,123,101,32,125,123,115,32,97,125,125]⟩ : ByteArray) false _ A5.out).mono ?_);rintro e w14 ⟨rfl,hb⟩;have := a1 (zaD qB hb);clear HB;have HB := this;clear this;(try clear hb);(try clear hb2);(try clear hk);(try clear hi)))
 go_ret
 exact ⟨qE,qB⟩
end Go.Proofs.Ythcmfjpheanphaa.Pr
namespace Go.Proofs.Ythcmfjpheanphaa.Pr
open Go.RowKit Go.Maps Go.Proofs.YthcmfjpheanphaaW.PrintWords
theorem zrA (k : Nat) (A0 : Option Addr) (c0 : Nat) (t : List S56) (b : Bool) (w : World) (hA : Kd.C k56 w A0 t.length t) (hc0 : t.length ≤ c0) (h : styluslaw05_vast.f k t = some b) :
  Calls Try.prog 62 #[.slice A0 t.length c0] w fun e w' => e = .returned (.bool b) ∧ Below w.heap.size w w' :=
 (styluslaw05_vast.calls k A0 c0 t b w hA hc0 h).mono fun _ _ ⟨h1,h2⟩ => ⟨h1,h2.below⟩
theorem zvH (k : Nat) (A0 : Option Addr) (c0 : Nat) (l0 : List (S56)) (A1 : Option Addr) (c1 : Nat) (l1 : List (S56)) (r : Bool) (w : World) (hr0 : Kd.C k56 w A0 l0.length l0) (hc0 : l0.length ≤ c0) (hr1 : Kd.C k56 w A1 l1.length l1) (hc1 : l1.length ≤ c1) (h : stylusref04_Like.f k l0 l1 = some r) :
  Calls Try.prog 55 #[.slice A0 l0.length c0,.slice A1 l1.length c1] w fun e w' => e = .returned (.bool r) ∧ Below w.heap.size w w' :=
 (stylusref04_Like.calls k A0 c0 l0 A1 c1 l1 r w hr0 hc0 hr1 hc1 h).mono fun _ _ ⟨h1,h2⟩ => ⟨h1,h2.below⟩
set_option pp.maxSteps 3000 in
theorem zwE (A0 : Option Addr) (c0 : Nat) (t : List S56) (w : World) (hA : Kd.C k56 w A0 t.length t) (hc0 : t.length ≤ c0) (k : Nat) (hv : styluslaw05_vast.f k t = some true) (haw : styluslaw05_awake.f k = some true) :
  Calls Try.prog 16 #[.slice A0 t.length c0] w fun e w' => e = .returned (.bool true) ∧ Below w.heap.size w w' := by
 have HV := Lib.hid (zrA k A0 c0 t true w hA hc0 hv)
 have HAW := Lib.hid (fun W => styluslaw05_awake.calls k true W haw)
 clear hA hv haw
 go_enter Try.func16,Try.ntmps16
 go_wp2_with (first
  | (go_at_call 62;refine HV.out.mono ?_;rintro e w1 ⟨rfl,hb1⟩;have HB1 := Lib.hid hb1;clear hb1)
  | (go_at_call 63;refine (HAW.out _).mono ?_;rintro e w2 ⟨rfl,hb2⟩;have HB2 := Lib.hid hb2;clear hb2))
 go_ret
 exact ⟨rfl,zaD HB1.out HB2.out⟩
set_option pp.maxSteps 3000 in
theorem zwF (A0 : Option Addr) (c0 : Nat) (t : List S56) (w : World) (hA : Kd.C k56 w A0 t.length t) (hc0 : t.length ≤ c0) (k : Nat) (hv : styluslaw05_vast.f k t = some false) (haw : styluslaw05_awake.f k = some true)
  (R1 : List S56) (R2 : Int) (b : Bool) (hu : norm_Of.f k t = some (R1,R2)) (hf : stylusref05_Of.f k t = some (R1,R2)) (hl : stylusref04_Like.f k R1 R1 = some true) (hi : norm_Is.f k t = some b) (hj : stylusref05_Is.f k t = some b) (hm : stylusref04_Like.f k t t = some true) (hlen : t.length ≤ 3000) :
  Calls Try.prog 16 #[.slice A0 t.length c0] w fun e w' => e = .returned (.bool true) ∧ Below w.heap.size w w' := by
 have HA := Lib.hid hA
 have HV := Lib.hid (zrA k A0 c0 t false w hA hc0 hv)
 have HAW := Lib.hid (fun W => styluslaw05_awake.calls k true W haw)
 have HF := Lib.hid (And.intro hu (And.intro hf (And.intro hl (And.intro hi (And.intro hj hm)))))
 have hclear := fun (W : World) (base : Nat) (A : Option Addr) (c : Nat) (h : Kd.R k56 56 W base (fun _ => True) (.slice A R1.length c) R1) (ty : TypeId) => clear_R h ty
 have HCL := Lib.hid hclear
 have e1 : (R2 != R2) = false := by simp
 have e2 : (b != b) = false := by simp
 clear hA hv haw hu hf hl hi hj hm hclear
 go_enter Try.func16,Try.ntmps16
 go_upto_region 3 with (first
  | (go_at_call 62;refine HV.out.mono ?_;rintro e w1 ⟨rfl,hb1⟩;have HB1 := Lib.hid hb1;clear hb1))
 go_wp2_with (at_builtin;go_loud (refine Kd.R_append_rows k56 (w0 := w) w.heap.size rfl (.tmp 11) (.tmp 12) 50 56 (.agg #[(.int .u8 0),(.string ⟨#[]⟩),(.int .i64 0),(.int .i64 0)]) 40 rfl Try.underlying50 zfU rfl (by decide) (by omega) (.slice (some ⟨w1.heap.size,0,none⟩) 0 0) ([] : List S56) t _ _ _ (fun _ => True) (fun _ => False) rfl rfl ?aO ?aR (fun _ _ h => h) (fun _ h => h.elim) ?aF ?aB ?aS ?aL ?_))
 case aR => exact Kd.C_alloc (Kd.C_below HA.out HB1.out) _
 case aB => exact zdZ HB1.out _
 case aF => exact fun _ _ => trivial
 case aO => exact zkG (xs := []) (znL w1) _ (zaF HB1.out)
 case aS => have := zaF HB1.out;simp;omega
 case aL => simp;omega
 intro vo w2 ho hb hg hat
 obtain ⟨Ao,co,rfl⟩ := Kd.R_slice ho
 have HB2 := Lib.hid hb
 have HO := Lib.hid ho
 clear ho hb hg hat
 go_wp2_with (first
  | (go_at_call 64;with_reducible refine (norm_Of.calls k Ao co t R1 R2 w2 (Kd.R_reads' HO.out).2.2 (Kd.R_reads' HO.out).2.1 HF.out.1).mono ?_;rintro e w3 ⟨vu,rfl,hru,hb3⟩;obtain ⟨Au,cu,rfl⟩ := Kd.R_slice hru;have HB3 := Lib.hid hb3;have HU := Lib.hid hru;clear hb3 hru)
  | (go_at_call 65;with_reducible refine (stylusref05_Of.calls k A0 c0 t R1 R2 w3 (Kd.C_below HA.out (zaD HB2.out HB3.out)) hc0 HF.out.2.1).mono ?_;rintro e w4 ⟨vv,rfl,hrv,hb4⟩;obtain ⟨Av,cv,rfl⟩ := Kd.R_slice hrv;have HB4 := Lib.hid hb4;have HVV := Lib.hid hrv;have HU4 := Lib.hid (Kd.R_below HU.out hb4);have HB24 := Lib.hid (zaD HB3.out hb4);clear hb4 hrv)
  | (go_at_call 55;with_reducible refine (zvH k Au cu R1 Av cv R1 true w4 (Kd.R_reads' HU4.out).2.2 (Kd.R_reads' HU4.out).2.1 (Kd.R_reads' HVV.out).2.2 (Kd.R_reads' HVV.out).2.1 HF.out.2.2.1).mono ?_;rintro e w5 ⟨rfl,hb5⟩;have HU5 := Lib.hid (Kd.R_below HU4.out hb5);have HB25 := Lib.hid (zaD HB24.out hb5);have HO5 := Lib.hid (Kd.R_below HO.out HB25.out);clear hb5)
  | (go_at_call 66;with_reducible refine (norm_Is.calls k Ao co t b w5 (Kd.R_reads' HO5.out).2.2 (Kd.R_reads' HO5.out).2.1 HF.out.2.2.2.1).mono ?_;rintro e w6 ⟨rfl,hb6⟩;have HU6 := Lib.hid (Kd.R_below HU5.out hb6);have HB26 := Lib.hid (zaD HB25.out hb6);clear hb6)
  | (go_at_call 67;with_reducible refine (stylusref05_Is.calls k A0 c0 t b w6 (Kd.C_below HA.out (zaD HB2.out HB26.out)) hc0 HF.out.2.2.2.2.1).mono ?_;rintro e w7 ⟨rfl,hb7⟩;have HU7 := Lib.hid (Kd.R_below HU6.out hb7);have HB27 := Lib.hid (zaD HB26.out hb7);clear hb7)
  )
 obtain ⟨w8,hrun,hbc,hsz⟩ := HCL.out w7 w2.heap.size Au cu HU7.out 0
 have HB28 := Lib.hid (HB27.out.trans hbc)
 have HO8 := Lib.hid (Kd.R_below HO.out HB28.out)
 rw [hrun]
 clear hrun hbc hsz HU HU4 HU5 HU6 HU7 HVV HO5
 go_wp2_with (first
  | (go_at_call 55;with_reducible refine (zvH k Ao co t A0 c0 t true w8 (Kd.R_reads' HO8.out).2.2 (Kd.R_reads' HO8.out).2.1 (Kd.C_below HA.out (zaD HB2.out HB28.out)) hc0 HF.out.2.2.2.2.2).mono ?_;rintro e w9 ⟨rfl,hb9⟩;have HB29 := Lib.hid (zaD HB28.out hb9);clear hb9)
  | (go_at_call 63;refine (HAW.out _).mono ?_;rintro e w10 ⟨rfl,hb10⟩;have HB210 := Lib.hid (zaD HB29.out hb10);clear hb10))
 go_ret
 exact ⟨rfl,zaD HB2.out HB210.out⟩
end Go.Proofs.Ythcmfjpheanphaa.Pr
namespace Go.Proofs.Ythcmfjpheanphaa.Pr
open Go.RowKit Go.Proofs.YthcmfjpheanphaaW.PrintWords
theorem zvI (t : List S56) (hl : t.length ≤ 1000000) : ∀ (d i k : Nat),d + i = t.length → d + 1 ≤ k → zdD k t i = some ((t.drop i).any fun x => decide (100 < x.f1.size))
 | 0,i,k,h,hk => by
  obtain ⟨k,rfl⟩ : ∃ q,k = q + 1 := ⟨k - 1,by omega⟩
  rw [zdD,if_neg (by omega),List.drop_eq_nil_of_le (by omega)]
  rfl
 | d + 1,i,k,h,hk => by
  obtain ⟨k,rfl⟩ : ∃ q,k = q + 1 := ⟨k - 1,by omega⟩
  have hi : i < t.length := by omega
  have hdrop : t.drop i = zaA t i :: t.drop (i + 1) := by
   unfold zaA
   rw [Int.toNat_natCast,List.getD_eq_getElem?_getD,List.getElem?_eq_getElem hi,List.drop_eq_getElem_cons hi]
   rfl
  rw [zdD,if_pos (by omega),if_pos (by omega),hdrop,List.any_cons]
  by_cases h1 : 100 < (zaA t i).f1.size
  ·rw [if_pos (by omega),decide_eq_true h1]
   rfl
  rw [if_neg (by omega),decide_eq_false h1,Bool.false_or,zgD (by omega)]
  exact zvI t hl d (i + 1) k (by omega) (by omega)
theorem vast5_f (t : List S56) (k : Nat) (hk : 200 ≤ k) : styluslaw05_vast.f k t = some (zvF t) := by
 unfold styluslaw05_vast.f zvF
 by_cases h : 150 < t.length
 ·rw [if_pos (by omega),decide_eq_true h]
  rfl
 rw [if_neg (by omega),decide_eq_false h,Bool.false_or]
 have := zvI t (by omega) t.length 0 k (by omega) (by omega)
 rw [List.drop_zero] at this
 exact this
theorem yaF : styluslaw05_awake.f NB = some true := by decide +kernel
theorem yjS {t : List S56} (h1 : t.length ≤ 3000) (h2 : ∀ x ∈ t,x.f1.size ≤ 10000) (h3 : ∀ x ∈ t,zjY x) : Fair t := ⟨h1,h2,fun x hx => yjR (h3 x hx)⟩
theorem normForms_row (A0 : Option Addr) (c0 : Nat) (t : List S56) (w : World) (h0 : Kd.C k56 w A0 t.length t ∧ ∀ x ∈ t,zjY x) (hc0 : t.length ≤ c0) (_ : t.length * 40 ≤ 140737488351232) :
  Calls Try.prog 16 #[.slice A0 t.length c0] w fun e w' => e = .returned (.bool true) ∧ Below w.heap.size w w' := by
 obtain ⟨n1,n2,n3,n4,n5,n6⟩ := zvG
 have hv := vast5_f t NB (by omega)
 cases hb : zvF t with
 | true => exact zwE A0 c0 t w h0.1 hc0 NB (by rw [hv,hb]) yaF
 | false =>
 obtain ⟨l1,l2⟩ := ybM hb
 have hF : Fair t := yjS (by omega) (fun x hx => by have := l2 x hx;omega) h0.2
 have hn : (ofP t).1.length ≤ 150 := by
  unfold ofP
  split
  ·exact Nat.le_trans (zxQ t) l1
  exact Nat.zero_le _
 exact zwF A0 c0 t w h0.1 hc0 NB (by rw [hv,hb]) yaF (ofP t).1 (ofP t).2 (isP t) (yhF hF NB (Nat.le_refl _)) (ref_f hF h0.2 NB (Nat.le_refl _)) (yhC _ (by omega) _ (by omega)) (is_f hF NB (Nat.le_refl _)) (refIs_f hF h0.2 NB (Nat.le_refl _)) (yhC t (by omega) _ (by omega)) (by omega)
end Go.Proofs.Ythcmfjpheanphaa.Pr
namespace Go.Proofs.Ythcmfjpheanphaa.normForms
open Go.ChangeShapes Go.WideShapes Go.ChangeAt Go.RowKit Go.Proofs.YthcmfjpheanphaaW.PrintWords
open Go.ChangeMaps (open_string shut_string)
theorem own : ownKnob Try.prog.godebug = none := by kernel_rfl
theorem laidOut : laidOutB Try.prog = true := by kernel_rfl
theorem lifted (os : Os) (started : os.Started) (H : Type) (enc : TypeId × Value → H) :
  ReturnsInHanded {} Try.checked os 16 .any (Rows.normFormsSpec.pre6 enc Try.prog Try.f16 Rows.normFormsRow.domain false) (Rows.normFormsSpec.post enc Try.prog Try.f16 false true false false) := by
 refine returnsInHanded_of_change_sized (C := Try.checked) own started (by kernel_rfl) Try.func16
  (ChangeSpec.witness6 (enc := enc) (C := Try.checked) false ⟨#[],#[.slice none 0 0],[]⟩ 8 (by kernel_rfl) (by kernel_rfl) (by kernel_rfl) (by kernel_rfl)) ?_
 intro W base args ds gs before hval0 hW hcnd hsz0 _
 have hsz : (DataW.weightsEach Try.prog (Try.f16.params.toList ++ Rows.normFormsSpec.plain.varTypes Try.prog) (ds ++ gs)).all (· ≤ reachBytes) = true := hsz0
 have hval : ∀ (j : Nat) t v,Try.f16.params[j]? = some t → args[j]? = some v → Value.okWide Try.prog W .any base t v := hval0
 have hW' := hW
 obtain ⟨p,q,hA0,hV,rfl,hfz,hnd⟩ := hW
 have hA : DataW.TrodAll enc Try.prog W 0 (fun _ => true) true Try.f16.params.toList args.toList ds p := hA0
 rw [Try.params16] at hA hval hsz
 obtain ⟨v0,vs0,d0,ds0,p0,q0,hargs,rfl,rfl,h0,r0⟩ := trodAll_cons hA
 obtain ⟨rfl,rfl,rfl⟩ := trodAll_nil r0
 obtain rfl : args = #[v0] := by cases args;simp_all
 obtain ⟨rfl,rfl⟩ := trodVars_none hV
 obtain ⟨a0,len0,cap0,rfl⟩ := okWide_slice Try.underlying50 (hval 0 50 v0 rfl rfl)
 have k0 := h0
 have lt0 : ∀ x ∈ p0,x.block < W.heap.size := by obtain ⟨m,hm⟩ := k0;exact DataW.trod_lt m _ _ _ hm
 obtain ⟨l0,rfl,hr0,hc0,y0⟩ := Pr.open_N hsz (j := 0) rfl rfl h0
 clear hA0 hval0 hsz0 hsz
 refine (Pr.normForms_row a0 cap0 l0 W hr0 hc0 y0).mono fun e W' ⟨he,bel⟩ => ?_
 subst he
 exact ⟨_,rfl,_,_,_,[],_,[],hW',trodAll_mk1 (shut_bool Try.underlying4 _),(trodAll_cons_mk (Below.trod laidOut (by kernel_rfl) (of_decide_eq_true (by kernel_rfl)) k0 bel lt0) trodAll_mk0),rfl,bel.frame _,fun h => by cases h⟩
end Go.Proofs.Ythcmfjpheanphaa.normForms
