/- Texts of this seat, one behind the other. -/
import Derived.Test.YthcmfjpheanphaaXNormForms8
import Derived.Test.YthcmfjpheanphaaXNormForms9
set_option linter.unusedVariables false
set_option linter.unusedSimpArgs false
set_option maxHeartbeats 16000000
set_option maxRecDepth 100000
namespace Go.Proofs.Ythcmfjpheanphaa.Pr
open Go.RowKit Go.Maps Go.Proofs.YthcmfjpheanphaaW.PrintWords
attribute [local go_sem] Oper.semAt_some
def zhM (c : Int) : Bool := c == 49 || (c == 50 || (c == 51 || (c == 112 || (c == 105 || (c == 99 || c == 110)))))
theorem zzG (c : Int) : stylusref05_flowed.f c = some (zhM c) := by
 unfold stylusref05_flowed.f zhM
 by_cases h1 : c = 49
 ·simp [h1]
 by_cases h2 : c = 50
 ·simp [h2]
 by_cases h3 : c = 51
 ·simp [h3]
 by_cases h4 : c = 112
 ·simp [h4]
 by_cases h5 : c = 105
 ·simp [h5]
 by_cases h6 : c = 99
 ·simp [h6]
 rw [if_neg h1,if_neg h2,if_neg h3,if_neg h4,if_neg h5,if_neg h6]
 simp [beq_eq_false_iff_ne.mpr h1,beq_eq_false_iff_ne.mpr h2,beq_eq_false_iff_ne.mpr h3,beq_eq_false_iff_ne.mpr h4,beq_eq_false_iff_ne.mpr h5,beq_eq_false_iff_ne.mpr h6]
def clrN (t : List S56) (i : Nat) : List S56 := t.mapIdx fun k x => if k < i ∧ x.f0 = 46 then tx ⟨#[]⟩ x else x
def ziN (t : List S56) (p : S184) (y : S56) : S56 := ⟨y.f0,y.f1 ++ zdC p.f0,if y.f1.size = 0 then wrap64 ((zaA t p.f1).f2 + p.f2) else y.f2,y.f3⟩
def putO (t : List S56) (out : List S56) (p : S184) : Option (List S56) :=
 if 0 ≤ p.f1 ∧ p.f1 < (t.length : Int) ∧ (out.getD p.f1.toNat z56).f1.size ≤ 1000000000 ∧ 0 ≤ p.f0 ∧ p.f0 ≤ 255 then some (out.modify p.f1.toNat (ziN t p)) else none
def zgA (t : List S56) : List S184 → List S56 → Option (List S56)
 | [],out => some out
 | p :: l,out => (putO t out p).bind fun o => zgA t l o
def txGo (k : Nat) (t : List S56) : Nat → Nat → List S56 → Option (List S56)
 | 0,_,out => some out
 | d + 1,i,out => if zhM (zaA t i).f0 = true then (stylusref05_Spots.f k t i).bind fun l0 => (stylusref05_Kept.f k l0).bind fun l => if l.length ≤ 100000000 then (zgA t l out).bind fun o => txGo k t d (i + 1) o else none else txGo k t d (i + 1) out
theorem zvV (t : List S56) (i : Nat) : (clrN t i).length = t.length := by simp [clrN]
theorem clr_0 (t : List S56) : clrN t 0 = t := by
 unfold clrN
 refine List.ext_getElem? fun j => ?_
 rw [List.getElem?_mapIdx]
 cases t[j]? with
 | none => rfl
 | some y => simp
theorem zrL (t : List S56) (i j : Nat) : (clrN t i)[j]? = (t[j]?).map fun x => if j < i ∧ x.f0 = 46 then tx ⟨#[]⟩ x else x := by
 unfold clrN
 rw [List.getElem?_mapIdx]
theorem yiJ (t : List S56) (i : Nat) (hi : i < t.length) (h : (zaA t i).f0 ≠ 46) : clrN t (i + 1) = clrN t i := by
 refine List.ext_getElem? fun j => ?_
 rw [zrL,zrL]
 by_cases e : j = i
 ·subst e
  have : t[j]? = some (zaA t j) := by unfold zaA;rw [Int.toNat_natCast,List.getD_eq_getElem?_getD,List.getElem?_eq_getElem hi];rfl
  rw [this,Option.map_some,Option.map_some,if_neg (fun x => h x.2),if_neg (fun x => h x.2)]
 congr 1
 funext x
 by_cases hj : j < i
 ·by_cases h6 : x.f0 = 46
  ·rw [if_pos ⟨by omega,h6⟩,if_pos ⟨hj,h6⟩]
  rw [if_neg (fun z => h6 z.2),if_neg (fun z => h6 z.2)]
 rw [if_neg (fun z => by omega),if_neg (fun z => hj z.1)]
theorem yiK (t : List S56) (i : Nat) (hi : i < t.length) (h : (zaA t i).f0 = 46) : clrN t (i + 1) = (clrN t i).modify i (tx ⟨#[]⟩) := by
 refine List.ext_getElem? fun j => ?_
 rw [List.getElem?_modify,zrL,zrL]
 by_cases e : i = j
 ·subst e
  have : t[i]? = some (zaA t i) := by unfold zaA;rw [Int.toNat_natCast,List.getD_eq_getElem?_getD,List.getElem?_eq_getElem hi];rfl
  rw [this,Option.map_some,if_pos ⟨by omega,h⟩,Option.map_some,if_neg (fun x => by omega)]
  simp
 cases t[j]? with
 | none => simp
 | some x =>
 simp only [Option.map_some,Option.map_eq_map,if_neg e]
 congr 1
 by_cases hj : j < i
 ·by_cases h6 : x.f0 = 46
  ·rw [if_pos ⟨by omega,h6⟩,if_pos ⟨hj,h6⟩]
  rw [if_neg (fun z => h6 z.2),if_neg (fun z => h6 z.2)]
 rw [if_neg (fun z => by omega),if_neg (fun z => hj z.1)]
def SpAt (W : World) (B : Nat) (v : Value) (l : List S184) : Prop := ∃ inner,W.ownsRow B 184 3 v l.length inner ∧ ∀ j : Nat,j < l.length → inner[j * 3]? = some (.int .u8 (zaQ l j).f0) ∧ inner[j * 3 + 1]? = some (.int .i64 (zaQ l j).f1) ∧ inner[j * 3 + 2]? = some (.int .i64 (zaQ l j).f2)
theorem SpAt.of {W : World} {B : Nat} {v : Value} {l : List S184} (h : Kd.R k184 184 W B (fun _ => True) v l) : SpAt W B v l := by
 obtain ⟨_,inner,ho,hl,hr⟩ := h
 refine ⟨inner,ho,fun j hj => ?_⟩
 have hp : l[j]? = some (zaQ l j) := by unfold zaQ;rw [Int.toNat_natCast,List.getD_eq_getElem?_getD,List.getElem?_eq_getElem hj];rfl
 have h3 : ((inner.drop (j * 3)).take 3) = [.int .u8 (zaQ l j).f0,.int .i64 (zaQ l j).f1,.int .i64 (zaQ l j).f2] := ycX (hr j _ hp)
 have g := fun i : Nat => congrArg (fun x : List Value => x[i]?) h3
 have g0 := g 0
 have g1 := g 1
 have g2 := g 2
 simp only [List.getElem?_take,List.getElem?_drop] at g0 g1 g2
 exact ⟨by simpa using g0,by simpa using g1,by simpa using g2⟩
theorem SpAt.fr {X : Nat → Prop} {W W' : World} {B : Nat} {v : Value} {l : List S184} (h : SpAt W B v l) (hf : Fr X W W') (hx : ∀ g,v.ownBlock = some g → ¬ X g) : SpAt W' B v l := by
 obtain ⟨inner,ho,h2⟩ := h
 exact ⟨inner,hf.own ho hx,h2⟩
theorem SpAt.cells {W : World} {B g c : Nat} {l : List S184} (h : SpAt W B (.slice (some ⟨g,0,none⟩) l.length c) l) (j : Nat) (hj : j < l.length) :
  W.cell? ⟨g,j * 3,none⟩ = some (.int .u8 (zaQ l j).f0) ∧ W.cell? ⟨g,j * 3 + 1,none⟩ = some (.int .i64 (zaQ l j).f1) ∧ W.cell? ⟨g,j * 3 + 2,none⟩ = some (.int .i64 (zaQ l j).f2) := by
 obtain ⟨inner,ho,h2⟩ := h
 obtain ⟨a,b,c⟩ := h2 j hj
 exact ⟨by rw [ho.cellAt _ (by omega)];exact a,by rw [ho.cellAt _ (by omega)];exact b,by rw [ho.cellAt _ (by omega)];exact c⟩
theorem zvW {W : World} {B0 go co N j i : Nat} {out : List S56} (h : W.ownsRow B0 56 4 (.slice (some ⟨go,0,none⟩) N co) N (zaU out)) (hN : out.length = N) (hj : j < N) (hi : i < 4) (f : S56 → S56) (u : Value) (hf : zeO (f (out.getD j z56)) = (zeO (out.getD j z56)).set i u) :
  (W.setCell ⟨go,j * 4 + i,none⟩ u).ownsRow B0 56 4 (.slice (some ⟨go,0,none⟩) N co) N (zaU (out.modify j f)) ∧ Fr (fun k => k = go) W (W.setCell ⟨go,j * 4 + i,none⟩ u) := by
 subst hN
 have ho := (h.stored (j * 4 + i) u).1
 rw [zlE f i hi u out j hj hf] at ho
 exact ⟨ho,Fr.set (X := fun k => k = go) (p := ⟨go,j * 4 + i,none⟩) rfl u⟩
theorem yiL {α : Type} (l : List α) (f g : α → α) (i : Nat) : (l.modify i f).modify i g = l.modify i (fun a => g (f a)) := by
 refine List.ext_getElem? fun k => ?_
 simp only [List.getElem?_modify]
 cases l[k]? with
 | none => simp
 | some a => by_cases h1 : i = k <;> simp [h1]
theorem yiM (k : Int) : strOfNums [k] = zdC k := rfl
def catF (c : Int) (y : S56) : S56 := { y with f1 := y.f1 ++ zdC c }
theorem yfU (t oc : List S56) (p : S184) (x : Nat) (hx : p.f1 = x) (h : (oc.getD x z56).f1.size = 0) : (oc.modify x (atF (wrap64 ((zaA t x).f2 + p.f2)))).modify x (catF p.f0) = oc.modify x (ziN t p) := by
 rw [yiL]
 refine List.ext_getElem? fun i => ?_
 simp only [List.getElem?_modify]
 cases hi : oc[i]? with
 | none => simp
 | some y =>
 by_cases e : x = i
 ·subst e
  have hy : oc.getD x z56 = y := by rw [List.getD_eq_getElem?_getD,hi];rfl
  rw [hy] at h
  have e1 : catF p.f0 (atF (wrap64 ((zaA t x).f2 + p.f2)) y) = ziN t p y := by unfold catF atF ziN;rw [if_pos h,hx]
  simp [e1]
 simp [e]
theorem yiN (t oc : List S56) (p : S184) (x : Nat) (hx : p.f1 = x) (h : (oc.getD x z56).f1.size ≠ 0) : oc.modify x (catF p.f0) = oc.modify x (ziN t p) := by
 refine List.ext_getElem? fun i => ?_
 simp only [List.getElem?_modify]
 cases hi : oc[i]? with
 | none => simp
 | some y =>
 by_cases e : x = i
 ·subst e
  have hy : oc.getD x z56 = y := by rw [List.getD_eq_getElem?_getD,hi];rfl
  rw [hy] at h
  have e1 : catF p.f0 y = ziN t p y := by unfold catF ziN;rw [if_neg h]
  simp [e1]
 simp [e]
set_option pp.maxSteps 3000 in
theorem zzH (k : Nat) (A0 : Option Addr) (c0 : Nat) (t r : List S56) (w : World) (hA : Kd.C k56 w A0 t.length t) (hc0 : t.length ≤ c0) (hn6 : t.length ≤ 400000) (hgo : txGo k t t.length 0 (clrN t t.length) = some r) :
  Calls Try.prog 112 #[.slice A0 t.length c0] w fun e w' => ∃ v0_ : Value,e = .returned v0_ ∧ Kd.R k56 56 w' w.heap.size (fun _ => True) v0_ r ∧ Below w.heap.size w w' := by
 have HW := Lib.hid (And.intro hA hc0)
 have HGO := Lib.hid hgo
 clear hA hgo
 go_enter Try.func112,Try.ntmps112
 go_wp2_with (at_builtin;go_loud (refine Kd.R_append_rows k56 (w0 := w) w.heap.size rfl (.tmp 9) (.tmp 10) 50 56 (.agg #[(.int .u8 0),(.string ⟨#[]⟩),(.int .i64 0),(.int .i64 0)]) 40 rfl Try.underlying50 zfU rfl (by decide) (by omega) (.slice (some ⟨w.heap.size,0,none⟩) 0 0) ([] : List S56) t _ _ _ (fun _ => True) (fun _ => False) rfl rfl ?aO ?aR (fun _ _ h => h) (fun _ h => h.elim) ?aF ?aB ?aS ?aL ?_))
 case aR => exact Kd.C_alloc HW.out.1 _
 case aB => exact (Below.refl _ w).alloc (Nat.le_refl _) _
 case aF => exact fun _ _ => trivial
 case aO => exact zkG (xs := []) (znL w) _ (Nat.le_refl _)
 case aS => simp
 case aL => simp;omega
 intro vo w2 ho hb hg hat
 have ho' := zsU ho
 obtain ⟨Ao,co,rfl⟩ := zbB ho'
 have HB2 := Lib.hid hb
 have HO2 := Lib.hid ho'
 clear ho ho' hb hg hat
 go_wp2
 go_loopw [4] (fun v wr => ∃ i : Nat,i ≤ t.length ∧ v = .int .i64 i ∧ wr.ownsRow w.heap.size 56 4 (.slice Ao t.length co) t.length (zaU (clrN t i)) ∧ Below w.heap.size w wr) (fun v _ => t.length - (intOf v).toNat)
 case atStart => exact ⟨0,Nat.zero_le _,rfl,by rw [clr_0];exact HO2.out,HB2.out⟩
 case round =>
  obtain ⟨wq,rfl⟩ : ∃ wq,wq = wr := ⟨wr,rfl⟩
  obtain ⟨i,hi,rfl,hO,hB⟩ := hrel
  have HO := Lib.hid hO
  have HB := Lib.hid hB
  clear hO hB
  by_cases hlt : i < t.length
  ·have hlt1 : (i : Int) < (t.length : Int) := by omega
   obtain ⟨ad,rfl,q0,q1,q2,q3⟩ := zeN (Kd.C_below HW.out.1 HB.out) (i : Int) (by omega) hlt1
   simp only [Int.toNat_natCast] at q0 q1 q2 q3
   by_cases h46 : (zaA t i).f0 = 46
   ·have e46 : ((zaA t i).f0 == 46) = true := beq_iff_eq.2 h46
    have HT := Lib.hid (yiK t i hlt h46)
    have hoo := HO.out
    obtain ⟨go,co',hae⟩ := zhZ hoo (by omega)
    simp only [Value.slice.injEq] at hae
    obtain ⟨rfl,-,rfl⟩ := hae
    have hset := zvW hoo (zvV t i) hlt (i := 1) (by omega) (tx ⟨#[]⟩) (.string ⟨#[]⟩) rfl
    have hfz := World.ownsRow.frozenAt hoo (i * 4 + 1)
    have xo := hoo.cellAt (i * 4 + 1) (by omega)
    rw [zkI _ i 1 (by rw [zvV];omega) (by omega)] at xo
    simp only [zeO,List.getElem?_cons_succ,List.getElem?_cons_zero] at xo
    have hlow : Below w.heap.size wq (wq.setCell ⟨go,i * 4 + 1,none⟩ (.string ⟨#[]⟩)) := (Below.refl _ wq).setCell (zcZ hoo go rfl) _
    have HS := Lib.hid (And.intro hset.1 (HB.out.trans hlow))
    clear hset hoo h46 hlow
    go_wp2
    go_roundw
    case rel => exact ⟨i + 1,by omega,by go_num,by rw [HT.out];exact HS.out.1,HS.out.2⟩
    case measure => simp [intOf];omega
   ·have e46 : ((zaA t i).f0 == 46) = false := beq_eq_false_iff_ne.2 h46
    have HT := Lib.hid (yiJ t i hlt h46)
    clear h46
    go_wp2
    go_roundw
    case rel => exact ⟨i + 1,by omega,by go_num,by rw [HT.out];exact HO.out,HB.out⟩
    case measure => simp [intOf];omega
  ·obtain rfl : i = t.length := by omega
   clear HO2 HB2 hlt
   go_wp2
   go_loopw [5] (fun v wr => ∃ (i : Nat) (out : List S56),i ≤ t.length ∧ v = .int .i64 i ∧ wr.ownsRow w.heap.size 56 4 (.slice Ao t.length co) t.length (zaU out) ∧ out.length = t.length ∧ Below w.heap.size w wr ∧ txGo k t (t.length - i) i out = some r) (fun v _ => t.length - (intOf v).toNat)
   case atStart => exact ⟨0,_,Nat.zero_le _,rfl,HO.out,zvV _ _,HB.out,HGO.out⟩
   case round =>
    obtain ⟨wp,rfl⟩ : ∃ wp,wp = wr := ⟨wr,rfl⟩
    clear HO HB HGO
    obtain ⟨i,out,hi,rfl,hO,hlo,hB,hG⟩ := hrel
    have HO := Lib.hid hO
    have HB := Lib.hid hB
    have HG := Lib.hid hG
    clear hO hB hG
    by_cases hlt : i < t.length
    ·have hlt1 : (i : Int) < (t.length : Int) := by omega
     obtain ⟨ad,rfl,q0,q1,q2,q3⟩ := zeN (Kd.C_below HW.out.1 HB.out) (i : Int) (by omega) hlt1
     simp only [Int.toNat_natCast] at q0 q1 q2 q3
     have hg := HG.out
     rw [show t.length - i = (t.length - (i + 1)) + 1 from by omega,txGo] at hg
     have hfl := fun W => stylusref05_flowed.calls (zaA t i).f0 (zhM (zaA t i).f0) W (zzG _)
     cases hfb : zhM (zaA t i).f0 with
     | false =>
      rw [hfb,if_neg (by decide)] at hg
      rw [hfb] at hfl
      have HG2 := Lib.hid hg
      have HFL := Lib.hid hfl
      clear hg hfl hfb HG
      go_wp2_with (go_at_call 148;(with_reducible refine (HFL.out _).mono ?_);rintro e W3 ⟨rfl,⟨⟨nd,rfl⟩⟩⟩)
      go_roundw
      case rel => exact ⟨i + 1,out,by omega,by go_num,zcI HO.out (zaM (Below.refl _ _) nd),hlo,zaM HB.out nd,HG2.out⟩
      case measure => simp [intOf];omega
     | true =>
      rw [hfb,if_pos rfl] at hg
      rw [hfb] at hfl
      rw [Option.bind_eq_some_iff] at hg
      obtain ⟨l0,hl0,hg⟩ := hg
      rw [Option.bind_eq_some_iff] at hg
      obtain ⟨l,hl,hg⟩ := hg
      by_cases hll : l.length ≤ 100000000
      ·rw [if_pos hll,Option.bind_eq_some_iff] at hg
       obtain ⟨o,ho,hg⟩ := hg
       have hsp := fun (W : World) (hb : Below w.heap.size w W) => stylusref05_Spots.calls k (some ad) c0 t (i : Int) l0 W (Kd.C_below HW.out.1 hb) HW.out.2 hl0
       have HSP := Lib.hid hsp
       have HKE := Lib.hid (fun (A : Option Addr) (c : Nat) (W : World) (h1 : Kd.C k184 W A l0.length l0) (h2 : l0.length ≤ c) => stylusref05_Kept.calls k A c l0 l W h1 h2 hl)
       have HG2 := Lib.hid (And.intro ho hg)
       have HFL := Lib.hid hfl
       clear hg hfl hfb HG hsp hl0 hl ho q1 q2 q3
       go_wp2_with (first | (go_at_call 148;(with_reducible refine (HFL.out _).mono ?_);rintro e W3 ⟨rfl,⟨⟨nd,rfl⟩⟩⟩;have HB3 := Lib.hid (zaM HB.out nd)) | (go_at_call 150;(with_reducible refine (HSP.out _ HB3.out).mono ?_);rintro e W4 ⟨v4,rfl,hR4,hb4⟩;have HB4 := Lib.hid (HB3.out.trans (hb4.mono HB3.out.size));have HO4 := Lib.hid (zcI (zcI HO.out (zaM (Below.refl _ _) nd)) hb4);obtain ⟨A4,c4,e4⟩ := Kd.R_slice hR4;subst e4;have HR4 := Lib.hid hR4;clear hb4 hR4) | (go_at_call 149;(with_reducible refine (HKE.out _ _ _ (Kd.R_reads' HR4.out).2.2 (Kd.R_reads' HR4.out).2.1).mono ?_);rintro e W5 ⟨v5,rfl,hR5,hb5⟩;have HB5 := Lib.hid (HB4.out.trans (hb5.mono HB4.out.size));have HO5 := Lib.hid (zcI HO4.out hb5);obtain ⟨A5,c5,e5⟩ := Kd.R_slice hR5;subst e5;have HS5 := Lib.hid (SpAt.of hR5);have hs4 := HB4.out.size;have hs5 := hb5.size;clear hb5 hR5))
       go_loopw [7] (fun v wr => ∃ (j : Nat) (oc : List S56),j ≤ l.length ∧ v = .int .i64 j ∧ wr.ownsRow w.heap.size 56 4 (.slice Ao t.length co) t.length (zaU oc) ∧ oc.length = t.length ∧ SpAt wr W4.heap.size (.slice A5 l.length c5) l ∧ Below w.heap.size w wr ∧ zgA t (l.drop j) oc = some o) (fun v _ => l.length - (intOf v).toNat)
       case atStart => exact ⟨0,out,Nat.zero_le _,rfl,HO5.out,hlo,HS5.out,HB5.out,HG2.out.1⟩
       case round =>
        obtain ⟨wx,rfl⟩ : ∃ wx,wx = wr := ⟨wr,rfl⟩
        obtain ⟨j,oc,hj,rfl,hOx,hlx,hSx,hBx,hGx⟩ := hrel
        have HOX := Lib.hid hOx
        have HSX := Lib.hid hSx
        have HBX := Lib.hid hBx
        have HGX := Lib.hid hGx
        clear hOx hSx hBx hGx
        by_cases hlj : j < l.length
        ·have hlj1 : (j : Int) < (l.length : Int) := by omega
         obtain ⟨p,hp⟩ : ∃ p,zaQ l j = p := ⟨_,rfl⟩
         have hdrop : l.drop j = p :: l.drop (j + 1) := by
          rw [← hp]
          unfold zaQ
          rw [List.drop_eq_getElem_cons hlj,List.getD_eq_getElem?_getD,Int.toNat_natCast,List.getElem?_eq_getElem hlj]
          rfl
         have hgx := HGX.out
         rw [hdrop,zgA,Option.bind_eq_some_iff] at hgx
         obtain ⟨oc',ho1,hgx⟩ := hgx
         unfold putO at ho1
         by_cases hc : 0 ≤ p.f1 ∧ p.f1 < (t.length : Int) ∧ (oc.getD p.f1.toNat z56).f1.size ≤ 1000000000 ∧ 0 ≤ p.f0 ∧ p.f0 ≤ 255
         ·rw [if_pos hc] at ho1
          obtain rfl := Option.some.inj ho1
          clear ho1
          obtain ⟨p1,p2,p3,p4,p5⟩ := hc
          obtain ⟨x,hx⟩ : ∃ x : Nat,p.f1 = (x : Int) := ⟨p.f1.toNat,by omega⟩
          rw [hx,Int.toNat_natCast] at p3 hgx
          rw [hx] at p2
          have HG3 := Lib.hid hgx
          have hsx := HSX.out
          obtain ⟨g5,c5',he5⟩ := zhZ hsx.choose_spec.1 (by omega)
          simp only [Value.slice.injEq] at he5
          obtain ⟨rfl,-,rfl⟩ := he5
          obtain ⟨r0,r1,r2⟩ := hsx.cells j hlj
          rw [hp] at r0 r1 r2
          rw [hx] at r1
          have hox := HOX.out
          obtain ⟨go,co',hae⟩ := zhZ hox (by omega)
          simp only [Value.slice.injEq] at hae
          obtain ⟨rfl,-,rfl⟩ := hae
          have hcell := fun (W : World) (o1 : List S56) (h1 : o1.length = t.length) (hW : W.ownsRow w.heap.size 56 4 (.slice (some ⟨go,0,none⟩) t.length co) t.length (zaU o1)) =>
           And.intro (by have := hW.cellAt (x * 4 + 1) (by omega);rw [zkI _ x 1 (by omega) (by omega)] at this;simpa [zeO] using this : W.cell? ⟨go,x * 4 + 1,none⟩ = some (.string (o1.getD x z56).f1))
            (by have := hW.cellAt (x * 4 + 2) (by omega);rw [zkI _ x 2 (by omega) (by omega)] at this;simpa [zeO] using this : W.cell? ⟨go,x * 4 + 2,none⟩ = some (.int .i64 (o1.getD x z56).f2))
          obtain ⟨u,hu⟩ : ∃ u,(oc.getD x z56).f1 = u := ⟨_,rfl⟩
          obtain ⟨xo,xo2⟩ := hcell wx oc hlx hox
          rw [hu] at xo p3
          have HCE := Lib.hid hcell
          have HX := Lib.hid (And.intro hx (And.intro hp hu))
          have p2' : x < t.length := by omega
          clear hgx hsx hox hcell hdrop HGX hx hp p1
          by_cases hem : u.size = 0
          case' pos =>
           have d1 : (u.toList == ([] : List UInt8)) = true := by rw [ziM];exact decide_eq_true hem
           have d2 : u.toList.isEmpty = true := by rw [zeR];exact decide_eq_true hem
           obtain ⟨ad2,e2,t0,t1,t2,t3⟩ := zeN (Kd.C_below HW.out.1 HBX.out) (x : Int) (by omega) p2
           obtain rfl := Option.some.inj e2
           clear e2
           simp only [Int.toNat_natCast] at t2
           obtain ⟨z,hz⟩ : ∃ z,(zaA t x).f2 = z := ⟨_,rfl⟩
           rw [hz] at t2
           obtain ⟨V,hV⟩ : ∃ V,wx.drew = V := ⟨_,rfl⟩
           have hbV : Below wx.heap.size wx V := by rw [← hV];exact zaJ (Below.refl _ _)
           have HBV := Lib.hid hbV
           have HCV := Lib.hid (And.intro ((hbV.cell (World.block_lt_of_cell? wx _ t2)).trans t2) (And.intro ((hbV.cell (World.block_lt_of_cell? wx _ r2)).trans r2) (And.intro ((hbV.cell (World.block_lt_of_cell? wx _ xo2)).trans xo2) (World.ownsRow.frozenAt (zcI HOX.out hbV) (x * 4 + 2)))))
           have HZ := Lib.hid hz
           clear t0 t1 t2 t3 hz hbV
           go_upto_region 17 with (fail)
           refine Go.Det.region_det (fun W => W = V) 15 (by kernel_rfl) (by kernel_rfl) (by kernel_rfl) (by decide) hV ?_
           clear hV r0 r1 r2 xo xo2
           repeat
            apply Go.Det.seqW_cons
            focus
             intro W hS
             obtain rfl : W = V := hS
             obtain ⟨t2,r2,xo2,zf⟩ := HCV.out
             go_wp2
             exact Go.Det.AtEnd.mk rfl
           refine Go.Det.seqW_nil ?_
           intro W hS
           obtain rfl : W = V := hS
           obtain ⟨t2,r2,xo2,zf⟩ := HCV.out
           simp only [List.drop_succ_cons,List.drop_zero]
           have hU := zvW (zcI HOX.out HBV.out) hlx p2' (i := 2) (by omega) (atF (wrap64 (z + p.f2))) (.int .i64 (wrap64 (z + p.f2))) rfl
           have hsp6 := (HSX.out.fr (Fr.below (X := fun _ => False) HBV.out) (fun _ _ h => h)).fr hU.2 (fun g hg e => by
            obtain ⟨inn,hinn,_⟩ := HSX.out
            rcases zeL hinn HOX.out (by decide) with h0 | h0
            ·cases h0
            ·rw [hg] at h0
             exact h0 (by rw [show g = go from e];rfl))
           have hlow6 : Below w.heap.size w (W.setCell ⟨go,x * 4 + 2,none⟩ (.int .i64 (wrap64 (z + p.f2)))) := (HBX.out.trans (HBV.out.mono HBX.out.size)).trans ((Below.refl _ W).setCell (zcZ HOX.out go rfl) _)
           have hget6 : ((oc.modify x (atF (wrap64 (z + p.f2)))).getD x z56).f1 = u := by
            rw [List.getD_eq_getElem?_getD,List.getElem?_modify,List.getElem?_eq_getElem (by omega)]
            have := HX.out.2.2
            rw [List.getD_eq_getElem?_getD,List.getElem?_eq_getElem (by omega)] at this
            simpa [atF] using this
           have heq6 : (oc.modify x (atF (wrap64 (z + p.f2)))).modify x (catF p.f0) = oc.modify x (ziN t p) := by
            rw [← HZ.out]
            exact yfU t oc p x HX.out.1 (by rw [HX.out.2.2];exact hem)
           obtain ⟨W6,hW6⟩ : ∃ W6,W.setCell ⟨go,x * 4 + 2,none⟩ (.int .i64 (wrap64 (z + p.f2))) = W6 := ⟨_,rfl⟩
           obtain ⟨o6,ho6⟩ : ∃ o6,oc.modify x (atF (wrap64 (z + p.f2))) = o6 := ⟨_,rfl⟩
           have hl6 : o6.length = t.length := by rw [← ho6,List.length_modify];exact hlx
           rw [hW6] at hU hsp6 hlow6
           rw [ho6] at hU hget6 heq6
           have H6 := Lib.hid (And.intro hU.1 (And.intro hsp6 (And.intro hlow6 (And.intro hget6 (And.intro heq6 hl6)))))
           clear hU hsp6 hlow6 hget6 heq6 hl6 ho6
           go_upto_region 18 with (fail)
           clear hW6 t2 r2 xo2 zf HCV HBV HZ hem d1 d2
          case' neg =>
           have d1 : (u.toList == ([] : List UInt8)) = false := by rw [ziM];exact decide_eq_false hem
           have d2 : u.toList.isEmpty = false := by rw [zeR];exact decide_eq_false hem
           have heq6 : oc.modify x (catF p.f0) = oc.modify x (ziN t p) := yiN t oc p x HX.out.1 (by rw [HX.out.2.2];exact hem)
           go_upto_region 18 with (fail)
           obtain ⟨W6,rfl⟩ : ∃ W6,W6 = wx := ⟨wx,rfl⟩
           obtain ⟨o6,rfl⟩ : ∃ o6,o6 = oc := ⟨oc,rfl⟩
           have H6 := Lib.hid (And.intro HOX.out (And.intro HSX.out (And.intro HBX.out (And.intro HX.out.2.2 (And.intro heq6 hlx)))))
           clear heq6 r0 r1 r2 xo xo2 hem d1 d2
          all_goals
           obtain ⟨W3,hW3⟩ : ∃ W3,W6.drew = W3 := ⟨_,rfl⟩
           have HB3 := Lib.hid (show Below W6.heap.size W6 W3 by rw [← hW3];exact zaJ (Below.refl _ _))
           have HP := Lib.hid (And.intro p3 (And.intro p4 p5))
           have HL := Lib.hid (And.intro p2' (And.intro hlj hll))
           clear p3 p4 p5
           refine Go.Mix.region_mixD' (fun i => i == 13 || i == 14) (fun b W => W = (bif b then W3.alloc (.cells #[.int .u8 p.f0] 5) else W3)) 12 15 [] (by kernel_rfl) rfl (by kernel_rfl) (by kernel_rfl) (fun _ _ _ _ _ h => h) hW3 ?_
           clear hW3
           refine Go.Mix.seqE_nil ?_
           repeat
            apply Go.Mix.seqD_cons (by rfl) (by rfl)
            focus
             intro b W hS
             have hB : Below W6.heap.size W6 W := by
              rw [hS]
              cases b
              ·exact HB3.out
              ·exact HB3.out.alloc HB3.out.size _
             obtain ⟨s0,s1,s2⟩ := (H6.out.2.1.fr (Fr.below (X := fun _ => False) hB) (fun _ _ h => h)).cells j hlj
             rw [HX.out.2.1] at s0 s1 s2
             have xo := (HCE.out W o6 H6.out.2.2.2.2.2 (zcI H6.out.1 hB)).1
             rw [H6.out.2.2.2.1] at xo
             have HSS := Lib.hid hS
             clear hS hB s1 s2
             go_wp2
             exact Go.Det.AtEnd.mk HSS.out
           apply Go.Mix.seqD_main (by rfl)
           focus
            intro W hS
            obtain rfl : W = W3 := hS
            go_wp2
            exact Go.Det.AtEnd.mk rfl
           apply Go.Mix.seqD_dep (by rfl) (by rfl) (by rfl)
           focus
            intro W hS
            obtain rfl : W = W3.alloc (.cells #[.int .u8 p.f0] 5) := hS
            have hcv := run_convert_bytes_arg (P := Try.prog) (W3.alloc (.cells #[.int .u8 p.f0] 5)) 68 5 Try.underlying68 Try.underlying5 W3.heap.size 0 1 1 [p.f0] rfl (fun i hi => by
             obtain rfl : i = 0 := by omega
             rw [zaB (zbW W3 (.cells #[.int .u8 p.f0] 5))]
             rfl) 9 Try.underlying9
            rw [yiM] at hcv
            go_wp2
            exact Go.Det.AtEnd.mk rfl
           apply Go.Mix.seqD_dep (by rfl) (by rfl) (by rfl)
           focus
            intro W hS
            have HSS := Lib.hid hS
            have hcat := fun W => run_string_add_sum (P := Try.prog) (w := W) u (zdC p.f0) (by show u.size + 1 ≤ _;have := HP.out.1;omega)
            clear hS
            go_wp2
            exact Go.Det.AtEnd.mk HSS.out
           refine Go.Mix.seqD_nil ?_
           intro W4' hW4
           obtain rfl : W4' = W3.alloc (.cells #[.int .u8 p.f0] 5) := hW4
           simp only [List.drop_succ_cons,List.drop_zero]
           have hB4 : Below W6.heap.size W6 (W3.alloc (.cells #[.int .u8 p.f0] 5)) := HB3.out.alloc HB3.out.size _
           have hOn := zcI H6.out.1 hB4
           have hSn := H6.out.2.1.fr (Fr.below (X := fun _ => False) hB4) (fun _ _ h => h)
           have xo := (HCE.out _ o6 H6.out.2.2.2.2.2 hOn).1
           have hfz := World.ownsRow.frozenAt hOn (x * 4 + 1)
           have hU := zvW hOn H6.out.2.2.2.2.2 HL.out.1 (i := 1) (by omega) (catF p.f0) (.string (u ++ zdC p.f0)) (by rw [← H6.out.2.2.2.1];rfl)
           have hsp7 := hSn.fr hU.2 (fun g hg e => by
            obtain ⟨inn,hinn,_⟩ := hSn
            rcases zeL hinn hOn (by decide) with h0 | h0
            ·cases h0
            ·rw [hg] at h0
             exact h0 (by rw [show g = go from e];rfl))
           have hlow7 : Below w.heap.size w ((W3.alloc (.cells #[.int .u8 p.f0] 5)).setCell ⟨go,x * 4 + 1,none⟩ (.string (u ++ zdC p.f0))) := (H6.out.2.2.1.trans (hB4.mono H6.out.2.2.1.size)).trans ((Below.refl _ _).setCell (zcZ H6.out.1 go rfl) _)
           rw [H6.out.2.2.2.2.1] at hU
           obtain ⟨W7,hW7⟩ : ∃ W7,(W3.alloc (.cells #[.int .u8 p.f0] 5)).setCell ⟨go,x * 4 + 1,none⟩ (.string (u ++ zdC p.f0)) = W7 := ⟨_,rfl⟩
           rw [hW7] at hU hsp7 hlow7
           have H7 := Lib.hid (And.intro hU.1 (And.intro hsp7 hlow7))
           clear hU hsp7 hlow7 hSn
           go_wp2
           go_roundw
           case rel => exact ⟨j + 1,_,by have := HL.out.2.1;omega,by go_num,H7.out.1,by rw [List.length_modify];assumption,H7.out.2.1,H7.out.2.2,HG3.out⟩
           case measure => simp [intOf];have := HL.out.2.1;omega
         ·rw [if_neg hc] at ho1
          cases ho1
        ·obtain rfl : j = l.length := by omega
         have ho : oc = o := by
          have := HGX.out
          rw [List.drop_eq_nil_of_le (Nat.le_refl _)] at this
          exact Option.some.inj this
         subst ho
         clear hlj HGX
         go_wp2
         go_roundw
         case rel =>
          first
          | exact ⟨i + 1,oc,by omega,by go_num,HOX.out,hlx,HBX.out,HG2.out.2⟩
          | ((repeat apply Exists.intro);refine And.intro ?_ rfl;exact ⟨i + 1,oc,by omega,by go_num,HOX.out,hlx,HBX.out,HG2.out.2⟩)
         case measure => simp [intOf];omega
      ·rw [if_neg hll] at hg
       cases hg
    ·obtain rfl : i = t.length := by omega
     have hr : out = r := by
      have := HG.out
      rw [Nat.sub_self] at this
      exact Option.some.inj this
     subst hr
     clear HG hlt
     go_wp2
     go_ret
     refine ⟨_,rfl,?_,HB.out⟩
     refine zkG ?_ _ (Nat.le_refl _)
     rw [hlo]
     exact HO.out
def stylusref05_texts.f (k : Nat) (l0 : List S56) : Option (List S56) := if l0.length ≤ 400000 then txGo k l0 l0.length 0 (clrN l0 l0.length) else none
theorem stylusref05_texts.calls (k : Nat) (A0 : Option Addr) (c0 : Nat) (l0 : List S56) (r : List S56) (w : World) (hr0 : Kd.C k56 w A0 l0.length l0) (hc0 : l0.length ≤ c0) (h : stylusref05_texts.f k l0 = some r) :
  Calls Try.prog 112 #[.slice A0 l0.length c0] w fun e w' => ∃ v0_ : Value,e = .returned v0_ ∧ Kd.R k56 56 w' w.heap.size (fun _ => True) v0_ r ∧ Below w.heap.size w w' := by
 unfold stylusref05_texts.f at h
 by_cases hl : l0.length ≤ 400000
 ·rw [if_pos hl] at h
  exact zzH k A0 c0 l0 r w hr0 hc0 hl h
 rw [if_neg hl] at h
 cases h
end Go.Proofs.Ythcmfjpheanphaa.Pr
namespace Go.Proofs.Ythcmfjpheanphaa.Pr
open Go.RowKit Go.Proofs.YthcmfjpheanphaaW.PrintWords
def fl (t : List S56) (q : Nat) : Bool := zhM (zaA t q).f0
def flG (t : List S56) (i : Nat) : Nat → Int
 | 0 => -1
 | q + 1 => if fl t q = true ∧ i < q + sz t q then (q : Int) else flG t i q
def flow (t : List S56) (i : Nat) : Int := flG t i i
def ow (t : List S56) (i : Nat) : Int := if flow t i < 0 then 0 else flow t i
theorem ybZ (t : List S56) (i q : Nat) (h : fl t q = true ∧ i < q + sz t q) : flG t i (q + 1) = q := if_pos h
theorem zzI (t : List S56) (i q : Nat) (h : ¬ (fl t q = true ∧ i < q + sz t q)) : flG t i (q + 1) = flG t i q := if_neg h
theorem zuJ (t : List S56) (i : Nat) : ∀ m : Nat,-1 ≤ flG t i m ∧ flG t i m < m ∧ (0 ≤ flG t i m → fl t (flG t i m).toNat = true ∧ i < (flG t i m).toNat + sz t (flG t i m).toNat)
 | 0 => ⟨Int.le_refl _,(by show (-1 : Int) < 0;decide),fun h => absurd h (by show ¬ (0 : Int) ≤ -1;decide)⟩
 | m + 1 => by
  unfold flG
  by_cases h : fl t m = true ∧ i < m + sz t m
  ·rw [if_pos h]
   exact ⟨by omega,by omega,fun _ => by rw [Int.toNat_natCast];exact h⟩
  rw [if_neg h]
  have := zuJ t i m
  exact ⟨this.1,by omega,this.2.2⟩
theorem zvX (t : List S56) (i : Nat) : -1 ≤ flow t i ∧ flow t i < i := ⟨(zuJ t i i).1,(zuJ t i i).2.1⟩
theorem zvY (t : List S56) (i j : Nat) (h : flow t i = j) : fl t j = true ∧ j < i ∧ i < j + sz t j := by
 have h1 := zuJ t i i
 have h2 := h1.2.2 (by unfold flow at h;omega)
 unfold flow at h
 rw [h,Int.toNat_natCast] at h2
 exact ⟨h2.1,by omega,h2.2⟩
theorem zzJ (t : List S56) (i : Nat) : 0 ≤ ow t i ∧ ow t i ≤ i := by
 have := zvX t i
 unfold ow
 split <;> omega
theorem zoW (t : List S56) (hN : Nst t) (hl : t.length ≤ 400000) (i : Nat) : ∀ (q k : Nat) (x5 : Int),q ≤ t.length → x5 = (q : Int) - 1 → q + 1 ≤ k → zbK k t (i : Int) x5 = some (flG t i q)
 | 0,k,x5,hq,hx,hk => by
  obtain ⟨k,rfl⟩ : ∃ j,k = j + 1 := ⟨k - 1,by omega⟩
  rw [zbK]
  exact if_neg (by omega)
 | q + 1,k,x5,hq,hx,hk => by
  obtain ⟨k,rfl⟩ : ∃ j,k = j + 1 := ⟨k - 1,by omega⟩
  obtain rfl : x5 = (q : Int) := by omega
  have hlim := hN.lim q (by omega)
  have hpos := hN.pos q (by omega)
  have w : ∀ _ : Unit,wrap64 ((q : Int) + (zaA t (q : Int)).f3) = ((q + sz t q : Nat) : Int) := fun _ => by
   rw [show (q : Int) + (zaA t (q : Int)).f3 = ((q + sz t q : Nat) : Int) from by unfold sz;omega]
   exact zcF (by omega)
  have w2 : ∀ _ : Unit,wrap64 ((q : Int) - 1) = (q : Int) - 1 := fun _ => IntWalk.wrap64_in _ ⟨by omega,by omega⟩
  rw [zbK]
  refine (if_pos (by omega)).trans ?_
  refine (if_pos (by omega)).trans ?_
  refine (if_pos (by omega)).trans ?_
  rw [zzG]
  refine (Option.bind_some _ _).trans ?_
  rw [w (),w2 ()]
  by_cases h1 : fl t q = true
  ·refine (if_pos h1).trans ?_
   by_cases h2 : i < q + sz t q
   ·rw [ybZ t i q ⟨h1,h2⟩]
    exact if_pos (by omega)
   rw [zzI t i q fun h => h2 h.2]
   refine (if_neg (by omega)).trans ?_
   exact zoW t hN hl i q k _ (by omega) rfl (by omega)
  rw [zzI t i q fun h => h1 h.1]
  refine (if_neg h1).trans ?_
  exact zoW t hN hl i q k _ (by omega) rfl (by omega)
theorem yfV (t : List S56) (hN : Nst t) (hl : t.length ≤ 400000) (i : Nat) (hi : i < t.length) (k : Nat) (hk : i + 1 ≤ k) : stylusref05_Flow.f k t (i : Int) = some (flow t i) := by
 unfold stylusref05_Flow.f
 exact zoW t hN hl i i k _ (by omega) (IntWalk.wrap64_in _ ⟨by omega,by omega⟩) hk
def ancG (t : List S56) (i : Nat) : Nat → List Nat
 | 0 => []
 | q + 1 => ancG t i q ++ (if fl t q = true ∧ i < q + sz t q then [q] else [])
def stk (t : List S56) : Nat → List Nat
 | 0 => []
 | i + 1 => ancG t i (i + 1)
def ints (l : List Nat) : List Int := l.map fun q : Nat => (q : Int)
theorem zoD {t : List S56} {i : Nat} : ∀ {m q : Nat},q ∈ ancG t i m ↔ q < m ∧ fl t q = true ∧ i < q + sz t q
 | 0,q => ⟨fun h => (by cases h),fun h => absurd h.1 (Nat.not_lt_zero q)⟩
 | m + 1,q => by
  unfold ancG
  rw [List.mem_append,zoD]
  constructor
  ·rintro (h | h)
   ·exact ⟨by omega,h.2⟩
   split at h
   ·rename_i hc
    obtain rfl := List.mem_singleton.1 h
    exact ⟨by omega,hc⟩
   cases h
  rintro ⟨h1,h2⟩
  rcases Nat.lt_or_ge q m with h3 | h3
  ·exact .inl ⟨h3,h2⟩
  obtain rfl : q = m := by omega
  exact .inr (by rw [if_pos h2];simp)
theorem zzK (t : List S56) (i : Nat) : ∀ m : Nat,(flG t i m = -1 ∧ ancG t i m = []) ∨ ∃ (q : Nat) (D : List Nat),flG t i m = q ∧ ancG t i m = D ++ [q]
 | 0 => .inl ⟨rfl,rfl⟩
 | m + 1 => by
  unfold flG ancG
  by_cases h : fl t m = true ∧ i < m + sz t m
  ·rw [if_pos h,if_pos h]
   exact .inr ⟨m,_,rfl,rfl⟩
  rw [if_neg h,if_neg h,List.append_nil]
  exact zzK t i m
theorem zuK (t : List S56) (i : Nat) : ∀ m : Nat,(ancG t i m).Pairwise (· < ·)
 | 0 => List.Pairwise.nil
 | m + 1 => by
  unfold ancG
  rw [List.pairwise_append]
  refine ⟨zuK t i m,by split <;> simp,fun a ha b hb => ?_⟩
  have h1 := (zoD.1 ha).1
  split at hb
  ·obtain rfl := List.mem_singleton.1 hb
   exact h1
  cases hb
theorem yiO (t : List S56) (hN : Nst t) : ∀ i : Nat,i ≤ t.length → (stk t i).Pairwise fun a b => a < b ∧ b + sz t b ≤ a + sz t a
 | 0,_ => List.Pairwise.nil
 | i + 1,hi => by
  refine (zuK t i (i + 1)).imp_of_mem fun {a b} ha hb hab => ?_
  have h1 := zoD.1 ha
  have h2 := zoD.1 hb
  exact ⟨hab,hN.nest a b (by omega) hab (by omega)⟩
theorem ydT (t : List S56) (hN : Nst t) : ∀ i : Nat,i ≤ t.length → (stk t i).filter (fun q => decide (i < q + sz t q)) = ancG t i i
 | 0,_ => rfl
 | i + 1,hi => by
  show (ancG t i (i + 1)).filter _ = ancG t (i + 1) (i + 1)
  have key : ∀ m : Nat,(ancG t i m).filter (fun q => decide (i + 1 < q + sz t q)) = ancG t (i + 1) m := fun m => by
   induction m with
   | zero => rfl
   | succ m ih =>
   unfold ancG
   rw [List.filter_append,ih]
   congr 1
   by_cases h1 : fl t m = true ∧ i + 1 < m + sz t m
   ·rw [if_pos h1,if_pos ⟨h1.1,by omega⟩]
    simp [h1.2]
   rw [if_neg h1]
   by_cases h2 : fl t m = true ∧ i < m + sz t m
   ·rw [if_pos h2]
    simp
    exact Nat.le_of_not_lt fun h => h1 ⟨h2.1,h⟩
   rw [if_neg h2];rfl
  exact key (i + 1)
theorem zwZ (D : List Nat) (q : Nat) : rd (ints (D ++ [q])) (D.length : Int) = q := by
 unfold rd ints
 rw [Int.toNat_natCast,List.getD_eq_getElem?_getD,List.map_append,List.getElem?_append_right (by simp),List.length_map,Nat.sub_self]
 rfl
theorem yiP (l : List Nat) : (ints l).length = l.length := by simp [ints]
theorem zuL {α : Type} (p : α → Bool) : ∀ l : List α,(∀ x ∈ l,p x = true) → l.filter p = l := fun l h => List.filter_eq_self.2 h
theorem ycA (t : List S56) (hN : Nst t) (hl : t.length ≤ 400000) (O : List Int) (i : Nat) (n : Int) (R : List Int) (K : Nat) (hR : ∀ k,K ≤ k → zeX k t O (ints ((ancG t i i))) i n i = some R) :
  ∀ (d : Nat) (S : List Nat) (k : Nat),S.length ≤ d → S.filter (fun q => decide (i < q + sz t q)) = ancG t i i → S.Pairwise (fun a b => a < b ∧ b + sz t b ≤ a + sz t a) → (∀ q ∈ S,q < t.length) → S.length ≤ t.length → K + d + 1 ≤ k → zdO k t O (ints S) i n i = some R
 | 0,S,k,hd,hf,hp,hm,hs,hk => by
  obtain ⟨k,rfl⟩ : ∃ j,k = j + 1 := ⟨k - 1,by omega⟩
  obtain rfl : S = [] := List.length_eq_zero_iff.1 (by omega)
  rw [zdO]
  refine (if_neg (by simp [ints])).trans ?_
  rw [show ([] : List Nat) = ancG t i i from hf]
  exact hR k (by omega)
 | d + 1,S,k,hd,hf,hp,hm,hs,hk => by
  obtain ⟨k,rfl⟩ : ∃ j,k = j + 1 := ⟨k - 1,by omega⟩
  rcases List.eq_nil_or_concat S with rfl | ⟨D,q,rfl⟩
  ·rw [zdO]
   refine (if_neg (by simp [ints])).trans ?_
   rw [show ([] : List Nat) = ancG t i i from hf]
   exact hR k (by omega)
  rw [List.concat_eq_append] at *
  have hlen : (ints (D ++ [q])).length = D.length + 1 := by simp [ints]
  have hqt := hm q (by simp)
  have hlim := hN.lim q hqt
  have hpos := hN.pos q hqt
  have hDl : D.length + 1 ≤ t.length := by simpa using hs
  have w : ∀ _ : Unit,wrap64 (((ints (D ++ [q])).length : Int) - 1) = (D.length : Int) := fun _ => by
   rw [hlen,show ((D.length + 1 : Nat) : Int) - 1 = (D.length : Int) from by omega]
   exact zcF (by omega)
  have w2 : ∀ _ : Unit,wrap64 ((q : Int) + (zaA t (q : Int)).f3) = ((q + sz t q : Nat) : Int) := fun _ => by
   rw [show (q : Int) + (zaA t (q : Int)).f3 = ((q + sz t q : Nat) : Int) from by unfold sz;omega]
   exact zcF (by omega)
  rw [zdO]
  refine (if_pos (by rw [hlen];omega)).trans ?_
  rw [w (),zwZ,w2 ()]
  refine (if_pos (by omega)).trans ?_
  refine (if_pos (by rw [hlen];omega)).trans ?_
  refine (if_pos (by omega)).trans ?_
  refine (if_pos (by omega)).trans ?_
  by_cases h : q + sz t q ≤ i
  ·refine (if_pos (by omega)).trans ?_
   refine (if_pos (by rw [hlen];omega)).trans ?_
   have ht : (ints (D ++ [q])).take (D.length : Int).toNat = ints D := by
    unfold ints
    rw [Int.toNat_natCast,List.map_append,List.take_left' (by simp)]
   rw [ht]
   rw [List.filter_append,List.filter_cons_of_neg (by simp;omega),List.filter_nil,List.append_nil] at hf
   rw [List.pairwise_append] at hp
   exact ycA t hN hl O i n R K hR d D k (by simp at hd;omega) hf hp.1 (fun x hx => hm x (by simp [hx])) (by omega) (by omega)
  refine (if_neg (by omega)).trans ?_
  rw [zuL _ _ (fun x hx => by
   have : q + sz t q ≤ x + sz t x := by
    rcases List.mem_append.1 hx with h1 | h1
    ·rw [List.pairwise_append] at hp
     exact (hp.2.2 x h1 q (by simp)).2
    obtain rfl := List.mem_singleton.1 h1
    exact Nat.le_refl _
   simp
   omega)] at hf
  rw [hf]
  exact hR k (by omega)
def owL (t : List S56) (i : Nat) : List Int := (List.range i).map (ow t) ++ List.replicate (t.length - i) 0
theorem owL_len (t : List S56) (i : Nat) (h : i ≤ t.length) : (owL t i).length = t.length := by
 simp [owL]
 omega
theorem ycB (t : List S56) (i : Nat) (h : i < t.length) : (owL t i).set i (ow t i) = owL t (i + 1) := by
 unfold owL
 rw [List.set_append_right _ _ (by simp),List.length_map,List.length_range,Nat.sub_self,List.range_succ,List.map_append,show t.length - i = (t.length - (i + 1)) + 1 from by omega,List.replicate_succ,List.set_cons_zero]
 simp
theorem yiQ (t : List S56) (i : Nat) (h : i < t.length) (h0 : ow t i = 0) : owL t i = owL t (i + 1) := by
 rw [← ycB t i h,h0]
 unfold owL
 rw [List.set_append_right _ _ (by simp),List.length_map,List.length_range,Nat.sub_self,show t.length - i = (t.length - (i + 1)) + 1 from by omega,List.replicate_succ,List.set_cons_zero]
theorem ydU : ∀ n : Fin 256,(0 ≤ zuD ⟨#[49,50,51,112,105,99,110]⟩ (n.val : Int)) ↔ zhM (n.val : Int) = true := by decide +kernel
theorem zqI (c : Int) (h0 : 0 ≤ c) (h1 : c ≤ 255) : zuD ⟨#[49,50,51,112,105,99,110]⟩ c ≥ 0 ↔ zhM c = true := by
 have := ydU ⟨c.toNat,by omega⟩
 simpa only [Int.toNat_of_nonneg h0] using this
theorem yfW (t : List S56) (hN : Nst t) (hl : t.length ≤ 400000) (hc : ∀ i,i < t.length → 0 ≤ (zaA t i).f0 ∧ (zaA t i).f0 ≤ 255) :
  ∀ (d i k : Nat),d + i = t.length → d * (t.length + 5) + 5 ≤ k → zbM k t (owL t i) (ints (stk t i)) (t.length : Int) (i : Int) = some (owL t t.length)
 | 0,i,k,hi,hk => by
  obtain ⟨k,rfl⟩ : ∃ j,k = j + 1 := ⟨k - 1,by omega⟩
  obtain rfl : i = t.length := by omega
  rw [zbM]
  exact if_neg (by omega)
 | d + 1,i,k,hi,hk => by
  rw [Nat.succ_mul] at hk
  obtain ⟨k,rfl⟩ : ∃ j,k = j + 1 := ⟨k - 1,by omega⟩
  have hsm : ∀ q ∈ stk t i,q < i := fun q hq => by
   cases i with
   | zero => cases hq
   | succ i => exact (zoD.1 hq).1
  have hslen : ∀ (m : Nat),(ancG t i m).length ≤ m := fun m => by
   induction m with
   | zero => exact Nat.le_refl _
   | succ m ih =>
   unfold ancG
   rw [List.length_append]
   split <;> simp <;> omega
  have hsl : (stk t i).length ≤ i := by
   cases i with
   | zero => exact Nat.le_refl _
   | succ i =>
   have : ∀ (m : Nat),(ancG t i m).length ≤ m := fun m => by
    induction m with
    | zero => exact Nat.le_refl _
    | succ m ih =>
    unfold ancG
    rw [List.length_append]
    split <;> simp <;> omega
   exact this (i + 1)
  rw [zbM]
  refine (if_pos (by omega)).trans ?_
  have ih := yfW t hN hl hc d (i + 1)
  obtain ⟨hc0,hc1⟩ := hc i (by omega)
  have w : ∀ _ : Unit,wrap64 ((i : Int) + 1) = ((i + 1 : Nat) : Int) := fun _ => by
   rw [show (i : Int) + 1 = ((i + 1 : Nat) : Int) from by omega]
   exact zcF (by omega)
  have hpos : 1 ≤ sz t i := by have := hN.pos i (by omega);unfold sz;omega
  have hst : stk t (i + 1) = ancG t i i ++ (if fl t i = true then [i] else []) := by
   show ancG t i (i + 1) = _
   conv => lhs;unfold ancG
   congr 1
   by_cases h : fl t i = true
   ·rw [if_pos h,if_pos ⟨h,by omega⟩]
   rw [if_neg h,if_neg (fun x => h x.1)]
  refine ycA t hN hl (owL t i) i t.length _ (d * (t.length + 5) + 7) (fun k hk => ?_) (stk t i).length (stk t i) k (Nat.le_refl _) (ydT t hN i (by omega)) (yiO t hN i (by omega)) (fun q hq => by have := hsm q hq;omega) (by omega) (by omega)
  obtain ⟨k,rfl⟩ : ∃ j,k = j + 1 := ⟨k - 1,by omega⟩
  have push : (∀ _ : Unit,(ints (ancG t i i)).length < 17592186044416) := fun _ => by
   rw [yiP]
   exact Nat.lt_of_le_of_lt (Nat.le_trans (hslen i) (show i ≤ 400000 by omega)) (by decide)
  have fin : (if zuD ⟨#[49,50,51,112,105,99,110]⟩ (zaA t i).f0 ≥ 0 then (if (ints (ancG t i i)).length < 17592186044416 then zbM k t (owL t (i + 1)) (ints (ancG t i i) ++ [(i : Int)]) t.length (wrap64 ((i : Int) + 1)) else none) else zbM k t (owL t (i + 1)) (ints (ancG t i i)) t.length (wrap64 ((i : Int) + 1))) = some (owL t t.length) := by
   rw [w ()]
   have ihk := ih k (by omega) (by omega)
   rw [hst] at ihk
   by_cases h : fl t i = true
   ·refine (if_pos ((zqI _ hc0 hc1).2 h)).trans ?_
    refine (if_pos (push ())).trans ?_
    rw [if_pos h] at ihk
    have e : ints (ancG t i i ++ [i]) = ints (ancG t i i) ++ [(i : Int)] := by simp [ints]
    rw [e] at ihk
    exact ihk
   refine (if_neg (fun x => h ((zqI _ hc0 hc1).1 x))).trans ?_
   rw [if_neg h,List.append_nil] at ihk
   exact ihk
  rw [zeX]
  have hfl := zvX t i
  rcases zzK t i i with ⟨h1,h2⟩ | ⟨q,D,h1,h2⟩
  ·have h0 : ow t i = 0 := by
    unfold ow flow
    rw [h1]
    rfl
   refine (if_neg (by rw [h2];simp [ints])).trans ?_
   refine (if_pos (by omega)).trans ?_
   refine (if_pos (by omega)).trans ?_
   refine (Option.bind_some _ _).trans ?_
   rw [yiQ t i (by omega) h0]
   exact fin
  have hw : ow t i = q := by
   unfold ow flow
   rw [h1]
   exact if_neg (by omega)
  have hlen : (ints (ancG t i i)).length = D.length + 1 := by rw [h2];simp [ints]
  have hDl : D.length + 1 ≤ i := by have := hslen i;rw [h2] at this;simpa using this
  have w3 : ∀ _ : Unit,wrap64 (((ints (ancG t i i)).length : Int) - 1) = (D.length : Int) := fun _ => by
   rw [hlen,show ((D.length + 1 : Nat) : Int) - 1 = (D.length : Int) from by omega]
   exact zcF (by omega)
  have hr : rd (ints (ancG t i i)) (D.length : Int) = q := by rw [h2];exact zwZ D q
  refine (if_pos (by rw [hlen];omega)).trans ?_
  rw [w3 (),hr]
  refine (if_pos (by omega)).trans ?_
  refine (if_pos (by rw [hlen];omega)).trans ?_
  refine (if_pos (by omega)).trans ?_
  refine (if_pos (by rw [owL_len t i (by omega)];omega)).trans ?_
  refine (Option.bind_some _ _).trans ?_
  rw [Int.toNat_natCast,← hw,ycB t i (by omega)]
  refine (if_pos (by omega)).trans ?_
  refine (Option.bind_some _ _).trans ?_
  exact fin
theorem yiR (t : List S56) (hN : Nst t) (hl : t.length ≤ 400000) (hc : ∀ i,i < t.length → 0 ≤ (zaA t i).f0 ∧ (zaA t i).f0 ≤ 255) (k : Nat) (hk : t.length * (t.length + 5) + 5 ≤ k) : norm_owners.f k t = some ((List.range t.length).map (ow t)) := by
 unfold norm_owners.f
 refine (if_pos (by omega)).trans ?_
 refine (if_pos ?_).trans ?_
 ·rw [Int.toNat_natCast]
  exact Nat.le_trans hl (by decide)
 have := yfW t hN hl hc t.length 0 k (by omega) hk
 have e1 : owL t 0 = List.replicate (t.length : Int).toNat 0 := by simp [owL]
 have e2 : owL t t.length = (List.range t.length).map (ow t) := by simp [owL]
 rw [e1,e2] at this
 exact this
theorem rd_ow (t : List S56) (i : Nat) (hi : i < t.length) : rd ((List.range t.length).map (ow t)) (i : Int) = ow t i := by
 unfold rd
 rw [Int.toNat_natCast,List.getD_eq_getElem?_getD,List.getElem?_map,List.getElem?_range hi]
 rfl
theorem zuM (c : Int) : stylusref01_White.f c = some (zdA c) := by
 unfold stylusref01_White.f zdA
 by_cases h : c = 32
 ·rw [if_pos h,h];rfl
 rw [if_neg h,show (c == 32) = false from beq_eq_false_iff_ne.2 h,Bool.false_or]
theorem yiS (c : Int) (h : zdA c = false) : c ≠ 32 := by
 rintro rfl
 exact absurd h (by decide)
def kp : Int → List S184 → List S184
 | _,[] => []
 | c,p :: l => if p.f0 = 32 then (if c = 0 ∨ c = 32 then kp c l else p :: kp 32 l) else p :: kp p.f0 l
def nb (l : List S184) : Nat := l.countP fun p => decide (p.f0 ≠ 32)
def kt : Int → List S184 → List S184
 | _,[] => []
 | c,p :: l => if p.f0 = 32 then (if (c = 0 ∨ c = 32) ∨ nb l = 0 then kt c l else p :: kt 32 l) else p :: kt p.f0 l
def zgO (L : List S184) : List S184 := match L.getLast? with | some p => if p.f0 = 32 then L.dropLast else L | none => []
def sayK (c : Int) (L : List S184) : Int := match L.getLast? with | some p => p.f0 | none => c
theorem zxA (c : Int) (p : S184) : ∀ L : List S184,sayK c (p :: L) = sayK p.f0 L
 | [] => rfl
 | q :: L => by
  unfold sayK
  rw [List.getLast?_cons_cons]
  cases h : (q :: L).getLast? with
  | none => simp at h
  | some x => rfl
theorem zuN : ∀ (l m : List S184) (c : Int),kp c (l ++ m) = kp c l ++ kp (sayK c (kp c l)) m
 | [],m,c => rfl
 | p :: l,m,c => by
  rw [List.cons_append]
  simp only [kp]
  by_cases h : p.f0 = 32
  ·rw [if_pos h,if_pos h]
   by_cases h2 : c = 0 ∨ c = 32
   ·rw [if_pos h2,if_pos h2]
    exact zuN l m c
   rw [if_neg h2,if_neg h2,zuN l m 32,zxA,h,List.cons_append]
  rw [if_neg h,if_neg h,zuN l m p.f0,zxA,List.cons_append]
theorem zkL (p : S184) (l : List S184) : nb (p :: l) = nb l + if p.f0 = 32 then 0 else 1 := by
 unfold nb
 rw [List.countP_cons]
 by_cases h : p.f0 = 32
 ·rw [if_pos h,if_neg (by simp [h])]
 rw [if_neg h,if_pos (by simp [h])]
theorem zmN : ∀ (l : List S184) (c : Int),nb l = 0 → (c = 0 ∨ c = 32 → kp c l = []) ∧ (kp c l = [] ∨ ∃ p,p.f0 = 32 ∧ kp c l = [p])
 | [],c,_ => ⟨fun _ => rfl,.inl rfl⟩
 | p :: l,c,h => by
  rw [zkL] at h
  by_cases h1 : p.f0 = 32
  ·have h2 : nb l = 0 := by omega
   simp only [kp]
   rw [if_pos h1]
   refine ⟨fun hc => ?_,?_⟩
   ·rw [if_pos hc]
    exact (zmN l c h2).1 hc
   by_cases hc : c = 0 ∨ c = 32
   ·rw [if_pos hc]
    exact .inl ((zmN l c h2).1 hc)
   rw [if_neg hc,(zmN l 32 h2).1 (.inr rfl)]
   exact .inr ⟨p,h1,rfl⟩
  rw [if_neg h1] at h
  omega
theorem zsV : ∀ (l : List S184) (c : Int),nb l = 0 → kt c l = []
 | [],c,_ => rfl
 | p :: l,c,h => by
  rw [zkL] at h
  by_cases h1 : p.f0 = 32
  ·have h2 : nb l = 0 := by omega
   simp only [kt]
   rw [if_pos h1,if_pos (.inr h2)]
   exact zsV l c h2
  rw [if_neg h1] at h
  omega
theorem kp_ne : ∀ (l : List S184) (c : Int),nb l ≠ 0 → kp c l ≠ []
 | [],c,h => absurd rfl h
 | p :: l,c,h => by
  rw [zkL] at h
  simp only [kp]
  by_cases h1 : p.f0 = 32
  ·rw [if_pos h1] at h ⊢
   split
   ·exact kp_ne l c (by omega)
   exact List.cons_ne_nil _ _
  rw [if_neg h1]
  exact List.cons_ne_nil _ _
theorem zuO (p : S184) (L : List S184) (h : L ≠ []) : zgO (p :: L) = p :: zgO L := by
 cases L with
 | nil => exact absurd rfl h
 | cons q L =>
 unfold zgO
 rw [List.getLast?_cons_cons]
 cases hl : (q :: L).getLast? with
 | none => simp at hl
 | some x =>
 simp only
 split <;> rfl
theorem zrM : ∀ (l : List S184) (c : Int),kt c l = zgO (kp c l)
 | [],c => rfl
 | p :: l,c => by
  by_cases hn : nb l = 0
  ·by_cases h1 : p.f0 = 32
   ·have h2 : nb (p :: l) = 0 := by rw [zkL,hn,if_pos h1]
    rw [zsV _ _ h2]
    rcases (zmN (p :: l) c h2).2 with h | ⟨q,hq,h⟩
    ·rw [h];rfl
    rw [h]
    show [] = if q.f0 = 32 then _ else _
    rw [if_pos hq]
    rfl
   simp only [kt,kp]
   rw [if_neg h1,if_neg h1,zsV l _ hn]
   rcases (zmN l p.f0 hn).2 with h | ⟨q,hq,h⟩
   ·rw [h]
    show [p] = if p.f0 = 32 then _ else _
    rw [if_neg h1]
   rw [h]
   show [p] = if q.f0 = 32 then _ else _
   rw [if_pos hq]
   rfl
  simp only [kt,kp]
  by_cases h1 : p.f0 = 32
  ·rw [if_pos h1,if_pos h1]
   by_cases hc : c = 0 ∨ c = 32
   ·rw [if_pos (.inl hc),if_pos hc]
    exact zrM l c
   rw [if_neg (fun h => h.elim hc hn),if_neg hc,zuO _ _ (kp_ne l 32 hn),zrM l 32]
  rw [if_neg h1,if_neg h1,zuO _ _ (kp_ne l _ hn),zrM l p.f0]
theorem zqJ {A : List S184} {x : S184} {B : List S184} : zaQ (A ++ x :: B) (A.length : Int) = x := by
 unfold zaQ
 rw [Int.toNat_natCast,List.getD_eq_getElem?_getD,List.getElem?_append_right (Nat.le_refl _),Nat.sub_self]
 rfl
theorem kt_end (c : Int) (p : S184) (l : List S184) (h : p.f0 = 32) : kt c (p :: l) = if (c = 0 ∨ c = 32) ∨ nb l = 0 then kt c l else p :: kt 32 l := by
 simp only [kt]
 rw [if_pos h]
theorem ziA {n : Nat} (h : n ≤ 100000000) : wrap64 (n : Int) = n := IntWalk.wrap64_in _ ⟨by omega,by omega⟩
def zuP (k : Nat) (x0 x3 : List S184) (x4 : Int) (p : S184) (b : Int) : Option (List S184) :=
 if sayK 0 x3 = 0 ∨ sayK 0 x3 = 32 then zaP k x0 x3 (wrap64 (x4 + 1)) else if b > 0 then zaP k x0 (x3 ++ [p]) (wrap64 (x4 + 1)) else zaP k x0 x3 (wrap64 (x4 + 1))
theorem zmO (k : Nat) (x0 x3 : List S184) (x4 : Int) (p : S184) (b : Int) (h : (sayK 0 x3 = 0 ∨ sayK 0 x3 = 32) ∨ ¬ b > 0) : zuP k x0 x3 x4 p b = zaP k x0 x3 (wrap64 (x4 + 1)) := by
 unfold zuP
 by_cases h1 : sayK 0 x3 = 0 ∨ sayK 0 x3 = 32
 ·exact if_pos h1
 exact (if_neg h1).trans (if_neg (h.resolve_left h1))
theorem zxB (k : Nat) (x0 x3 : List S184) (x4 : Int) (p : S184) (b : Int) (h : ¬ (sayK 0 x3 = 0 ∨ sayK 0 x3 = 32)) (hb : b > 0) : zuP k x0 x3 x4 p b = zaP k x0 (x3 ++ [p]) (wrap64 (x4 + 1)) := by
 unfold zuP
 exact (if_neg h).trans (if_pos hb)
theorem zoX (x0 x3 : List S184) (i : Nat) (p : S184) (hi : i < x0.length) (hp : zaQ x0 (i : Int) = p) (hz : ∀ q ∈ x3,q.f0 ≠ 0) (hl : x0.length ≤ 100000000) (h3 : x3.length ≤ 100000000) :
  ∀ (B A : List S184) (b : Nat) (k : Nat),x0 = A ++ B → b + B.length ≤ 100000000 → zdB (k + B.length + 1) x0 x3 (i : Int) (b : Int) (A.length : Int) = zuP k x0 x3 i p ((b + nb B : Nat) : Int)
 | [],A,b,k,hx,hb => by
  rw [List.length_nil,Nat.add_zero,zdB]
  refine (if_neg (by rw [hx];simp)).trans ?_
  rw [show b + nb [] = b from rfl]
  rcases List.eq_nil_or_concat x3 with rfl | ⟨D,q,rfl⟩
  ·refine (if_neg (by simp)).trans ?_
   exact (zmO _ _ _ _ _ _ (.inl (.inl rfl))).symm
  rw [List.concat_eq_append] at *
  have hq := hz q (by simp)
  have hs : sayK 0 (D ++ [q]) = q.f0 := by unfold sayK;simp
  have hlen : (D ++ [q]).length = D.length + 1 := by simp
  have w : ∀ _ : Unit,wrap64 (((D ++ [q]).length : Int) - 1) = (D.length : Int) := fun _ => by
   rw [hlen,show ((D.length + 1 : Nat) : Int) - 1 = (D.length : Int) from by omega]
   exact ziA (by omega)
  refine (if_pos (by rw [hlen];omega)).trans ?_
  rw [w (),zqJ,hp]
  refine (if_pos (by omega)).trans ?_
  refine (if_pos (by rw [hlen];omega)).trans ?_
  by_cases h32 : q.f0 = 32
  ·rw [zmO _ _ _ _ _ _ (.inl (.inr (by rw [hs];exact h32)))]
   exact if_pos h32
  have hn : ¬ (sayK 0 (D ++ [q]) = 0 ∨ sayK 0 (D ++ [q]) = 32) := fun h => by rw [hs] at h;exact h.elim hq h32
  refine (if_neg h32).trans ?_
  by_cases hb0 : (b : Int) > 0
  ·rw [zxB _ _ _ _ _ _ hn hb0]
   refine (if_pos hb0).trans ?_
   refine (if_pos (by omega)).trans ?_
   refine (if_pos (by omega)).trans ?_
   exact if_pos (Nat.lt_of_le_of_lt h3 (by decide))
  rw [zmO _ _ _ _ _ _ (.inr hb0)]
  exact if_neg hb0
 | q :: B,A,b,k,hx,hb => by
  rw [List.length_cons] at hb
  have hAl : A.length < x0.length := by rw [hx];simp
  have hrd : zaQ x0 (A.length : Int) = q := by rw [hx];exact zqJ
  have w : ∀ _ : Unit,wrap64 ((A.length : Int) + 1) = ((A ++ [q]).length : Int) := fun _ => by
   rw [show (A.length : Int) + 1 = ((A.length + 1 : Nat) : Int) from by omega,ziA (by omega)]
   simp
  have w2 : ∀ _ : Unit,wrap64 ((b : Int) + 1) = ((b + 1 : Nat) : Int) := fun _ => by
   rw [show (b : Int) + 1 = ((b + 1 : Nat) : Int) from by omega,ziA (by omega)]
  rw [List.length_cons,show k + (B.length + 1) + 1 = (k + B.length + 1) + 1 from rfl,zdB]
  refine (if_pos (by omega)).trans ?_
  refine (if_pos (by omega)).trans ?_
  rw [hrd,w (),w2 ()]
  by_cases h32 : q.f0 = 32
  ·have hnb : nb (q :: B) = nb B := by rw [zkL,if_pos h32];rfl
   rw [hnb]
   refine (if_pos h32).trans ?_
   exact zoX x0 x3 i p hi hp hz hl h3 B (A ++ [q]) b k (by rw [hx];simp) (by omega)
  have hnb : nb (q :: B) = nb B + 1 := by rw [zkL,if_neg h32]
  rw [hnb]
  refine (if_neg h32).trans ?_
  rw [zoX x0 x3 i p hi hp hz hl h3 B (A ++ [q]) (b + 1) k (by rw [hx];simp) (by omega)]
  congr 2
  omega
theorem zvZ (x0 : List S184) (hz0 : ∀ q ∈ x0,q.f0 ≠ 0) (hl : x0.length ≤ 40000000) :
  ∀ (B A x3 : List S184) (k : Nat),x0 = A ++ B → (∀ q ∈ x3,q.f0 ≠ 0) → x3.length ≤ A.length → B.length * (x0.length + 5) + 5 ≤ k → zaP k x0 x3 (A.length : Int) = some (x3 ++ kt (sayK 0 x3) B)
 | [],A,x3,k,hx,hz,h3,hk => by
  obtain ⟨k,rfl⟩ : ∃ j,k = j + 1 := ⟨k - 1,by omega⟩
  rw [zaP]
  refine (if_neg (by rw [hx];simp)).trans ?_
  rw [show kt (sayK 0 x3) [] = [] from rfl,List.append_nil]
 | p :: B,A,x3,k,hx,hz,h3,hk => by
  rw [List.length_cons,Nat.succ_mul] at hk
  have hxl : x0.length = A.length + (B.length + 1) := by rw [hx];simp
  have hrd : zaQ x0 (A.length : Int) = p := by rw [hx];exact zqJ
  have hp0 := hz0 p (by rw [hx];simp)
  have w : ∀ _ : Unit,wrap64 ((A.length : Int) + 1) = ((A ++ [p]).length : Int) := fun _ => by
   rw [show (A.length : Int) + 1 = ((A.length + 1 : Nat) : Int) from by omega,ziA (by omega)]
   simp
  have hz' : ∀ q ∈ x3 ++ [p],q.f0 ≠ 0 := fun q hq => by
   rcases List.mem_append.1 hq with h | h
   ·exact hz q h
   obtain rfl := List.mem_singleton.1 h
   exact hp0
  have ih0 := fun k' hk' => zvZ x0 hz0 hl B (A ++ [p]) x3 k' (by rw [hx];simp) hz (by simp;omega) hk'
  have ih1 := fun k' hk' => zvZ x0 hz0 hl B (A ++ [p]) (x3 ++ [p]) k' (by rw [hx];simp) hz' (by simp;omega) hk'
  have hs : sayK 0 (x3 ++ [p]) = p.f0 := by unfold sayK;simp
  rw [hs,List.append_assoc] at ih1
  obtain ⟨k,rfl⟩ : ∃ j,k = j + 1 := ⟨k - 1,by omega⟩
  rw [zaP]
  refine (if_pos (by omega)).trans ?_
  refine (if_pos (by omega)).trans ?_
  rw [hrd]
  by_cases h32 : p.f0 = 32
  ·refine (if_pos h32).trans ?_
   have hc := zoX x0 x3 A.length p (by omega) hrd hz (by omega) (by omega) (p :: B) A 0 (k - (B.length + 1) - 1) hx (by simp;omega)
   rw [List.length_cons,show k - (B.length + 1) - 1 + (B.length + 1) + 1 = k from by omega] at hc
   refine hc.trans ?_
   have hnb : nb (p :: B) = nb B := by rw [zkL,if_pos h32];rfl
   rw [kt_end _ _ _ h32,hnb,Nat.zero_add]
   by_cases hs0 : sayK 0 x3 = 0 ∨ sayK 0 x3 = 32
   ·rw [zmO _ _ _ _ _ _ (Or.inl hs0),w (),if_pos (Or.inl hs0)]
    exact ih0 _ (by omega)
   by_cases hn : nb B = 0
   ·rw [zmO _ _ _ _ _ _ (Or.inr (by omega)),w (),if_pos (Or.inr hn)]
    exact ih0 _ (by omega)
   rw [zxB _ _ _ _ _ _ hs0 (by omega),w (),if_neg (fun h => Or.elim h hs0 hn)]
   rw [h32] at ih1
   exact ih1 _ (by omega)
  refine (if_neg h32).trans ?_
  refine (if_pos (Nat.lt_of_le_of_lt (show x3.length ≤ 40000000 by omega) (by decide))).trans ?_
  rw [w ()]
  have e : kt (sayK 0 x3) (p :: B) = p :: kt p.f0 B := by
   simp only [kt]
   rw [if_neg h32]
  rw [e]
  exact ih1 k (by omega)
theorem kept_f (l : List S184) (hz : ∀ q ∈ l,q.f0 ≠ 0) (hl : l.length ≤ 40000000) (k : Nat) (hk : l.length * (l.length + 5) + 5 ≤ k) : stylusref05_Kept.f k l = some (kt 0 l) := by
 unfold stylusref05_Kept.f
 exact zvZ l hz hl l [] [] k rfl (by intro q hq;cases hq) (Nat.le_refl _) (by omega)
def spB (s : ByteArray) (i : Nat) : Nat → Nat → List S184
 | 0,_ => []
 | d + 1,k => if k < s.size then (if zdA (bt s k) = true then (if k = 0 ∨ zdA (bt s ((k - 1 : Nat) : Int)) = false then ⟨32,i,k⟩ :: spB s i d (k + 1) else spB s i d (k + 1)) else ⟨bt s k,i,k⟩ :: spB s i d (k + 1)) else []
def spT (t : List S56) (i : Nat) : List S184 := spB (zaA t i).f1 i (zaA t i).f1.size 0
def inF (t : List S56) (j i : Nat) : Bool := isT t i && decide (flow t i = j)
def spotG (t : List S56) (j : Nat) : Nat → Nat → List S184
 | 0,_ => []
 | d + 1,i => (if inF t j i = true then spT t i else []) ++ spotG t j d (i + 1)
theorem ycC (s : ByteArray) (i : Nat) : ∀ d k,(spB s i d k).length ≤ d
 | 0,_ => Nat.le_refl _
 | d + 1,k => by
  have := ycC s i d (k + 1)
  unfold spB
  repeat' split
  all_goals first | (rw [List.length_cons];omega) | (rw [List.length_nil];omega) | omega
theorem ycD (t : List S56) (i : Nat) : (spT t i).length ≤ (zaA t i).f1.size := ycC _ _ _ _
theorem ycE (t : List S56) (j M : Nat) : ∀ d i : Nat,(∀ q : Nat,q < i + d → (zaA t q).f1.size ≤ M) → (spotG t j d i).length ≤ M * d
 | 0,_,_ => Nat.zero_le _
 | d + 1,i,h => by
  have h1 := ycE t j M d (i + 1) (fun q hq => h q (by omega))
  have h2 := ycD t i
  have h3 := h i (by omega)
  unfold spotG
  rw [List.length_append,Nat.mul_succ]
  split
  ·omega
  simp only [List.length_nil];omega
theorem ycF (s : ByteArray) (i : Nat) (hb : ∀ k : Nat,k < s.size → bt s k ≠ 0) : ∀ (d k : Nat) (p : S184),p ∈ spB s i d k → p.f1 = (i : Int) ∧ 0 ≤ p.f0 ∧ p.f0 ≤ 255 ∧ p.f0 ≠ 0
 | 0,_,p,h => by cases h
 | d + 1,k,p,h => by
  have ih := ycF s i hb d (k + 1) p
  have hr := zfZ s k
  unfold spB at h
  split at h
  ·rename_i hk
   have hz := hb k hk
   split at h
   ·split at h
    ·rcases List.mem_cons.1 h with rfl | h
     ·exact ⟨rfl,(show (0 : Int) ≤ 32 by decide),(show (32 : Int) ≤ 255 by decide),(show (32 : Int) ≠ 0 by decide)⟩
     exact ih h
    exact ih h
   rcases List.mem_cons.1 h with rfl | h
   ·exact ⟨rfl,hr.1,hr.2,hz⟩
   exact ih h
  cases h
theorem ycG (t : List S56) (j : Nat) (hb : ∀ q,q < t.length → isT t q = true → ∀ k : Nat,k < (zaA t q).f1.size → bt (zaA t q).f1 k ≠ 0) : ∀ d i,i + d ≤ t.length → ∀ p ∈ spotG t j d i,∃ q : Nat,p.f1 = q ∧ i ≤ q ∧ q < i + d ∧ inF t j q = true ∧ 0 ≤ p.f0 ∧ p.f0 ≤ 255 ∧ p.f0 ≠ 0
 | 0,_,_,p,h => by cases h
 | d + 1,i,hi,p,h => by
  unfold spotG at h
  rcases List.mem_append.1 h with h | h
  ·split at h
   ·rename_i hf
    have hT : isT t i = true := by unfold inF at hf;rw [Bool.and_eq_true] at hf;exact hf.1
    obtain ⟨h1,h2⟩ := ycF _ i (hb i (by omega) hT) _ _ p h
    exact ⟨i,h1,Nat.le_refl _,by omega,hf,h2⟩
   cases h
  obtain ⟨q,h1,h2,h3,h4⟩ := ycG t j hb d (i + 1) (by omega) p h
  exact ⟨q,h1,by omega,by omega,h4⟩
theorem zsW (t : List S56) (j : Nat) : ∀ d i,(∀ q,i ≤ q → q < i + d → inF t j q = false) → spotG t j d i = []
 | 0,_,_ => rfl
 | d + 1,i,h => by
  unfold spotG
  rw [h i (Nat.le_refl _) (by omega),if_neg (by decide),List.nil_append]
  exact zsW t j d (i + 1) fun q h1 h2 => h q (by omega) (by omega)
theorem zrN (t : List S56) (j : Nat) : ∀ d e i,spotG t j (d + e) i = spotG t j d i ++ spotG t j e (i + d)
 | 0,e,i => by rw [Nat.zero_add];rfl
 | d + 1,e,i => by
  rw [show d + 1 + e = (d + e) + 1 from by omega]
  simp only [spotG]
  rw [zrN t j d e (i + 1),List.append_assoc,show i + 1 + d = i + (d + 1) from by omega]
theorem zqK {t : List S56} {j i : Nat} (h : inF t j i = true) : isT t i = true ∧ flow t i = j ∧ j < i ∧ i < j + sz t j := by
 unfold inF at h
 rw [Bool.and_eq_true,decide_eq_true_eq] at h
 exact ⟨h.1,h.2,(zvY t i j h.2).2⟩
theorem spG_all (t : List S56) (hN : Nst t) (j : Nat) (hj : j < t.length) : spotG t j t.length 0 = spotG t j (sz t j - 1) (j + 1) := by
 have hlim := hN.lim j hj
 have hpos : 1 ≤ sz t j := by have := hN.pos j hj;unfold sz;omega
 have hsp := zrN t j (j + 1) ((sz t j - 1) + (t.length - (j + sz t j))) 0
 rw [show (j + 1) + ((sz t j - 1) + (t.length - (j + sz t j))) = t.length from by omega] at hsp
 rw [hsp,zrN t j (sz t j - 1),Nat.zero_add]
 rw [zsW t j (j + 1) 0 fun q _ h => by
   cases hq : inF t j q with
   | false => rfl
   | true => have := zqK hq;omega]
 rw [zsW t j (t.length - (j + sz t j)) (j + 1 + (sz t j - 1)) fun q h1 _ => by
   cases hq : inF t j q with
   | false => rfl
   | true => have := zqK hq;omega]
 rw [List.nil_append,List.append_nil]
theorem zzL (t : List S56) (j i : Nat) (hi : i < t.length) (hs : (zaA t i).f1.size ≤ 10000) (R : List S184) (K : Nat) :
  ∀ (d x : Nat) (acc : List S184) (k : Nat),d + x = (zaA t i).f1.size → acc.length + d ≤ 40000000 → K + d + 1 ≤ k → (∀ k,K ≤ k → zbP k t j (acc ++ spB (zaA t i).f1 i d x) ((i + 1 : Nat) : Int) = some R) → (i : Int) + 1 ≤ 9000000 →
   zbD k t j acc i x = some R
 | 0,x,acc,k,hx,ha,hk,hR,hw => by
  obtain ⟨k,rfl⟩ : ∃ j,k = j + 1 := ⟨k - 1,by omega⟩
  have w : ∀ _ : Unit,wrap64 ((i : Int) + 1) = ((i + 1 : Nat) : Int) := fun _ => by
   rw [show (i : Int) + 1 = ((i + 1 : Nat) : Int) from by omega,ziA (by omega)]
  have h := hR k (by omega)
  rw [show spB (zaA t i).f1 i 0 x = [] from rfl,List.append_nil] at h
  rw [zbD]
  refine (if_pos (by omega)).trans ?_
  refine (if_pos (by omega)).trans ?_
  refine (if_neg (by omega)).trans ?_
  rw [w ()]
  exact h
 | d + 1,x,acc,k,hx,ha,hk,hR,hw => by
  obtain ⟨k,rfl⟩ : ∃ j,k = j + 1 := ⟨k - 1,by omega⟩
  have w : ∀ _ : Unit,wrap64 ((x : Int) + 1) = ((x + 1 : Nat) : Int) := fun _ => by
   rw [show (x : Int) + 1 = ((x + 1 : Nat) : Int) from by omega,ziA (by omega)]
  have hal : ∀ _ : Unit,acc.length < 5864062014805 := fun _ => Nat.lt_of_le_of_lt (show acc.length ≤ 40000000 by omega) (by decide)
  have go := fun (e : List S184) (he : spB (zaA t i).f1 i (d + 1) x = e ++ spB (zaA t i).f1 i d (x + 1)) (hel : e.length ≤ 1) =>
   zzL t j i hi hs R K d (x + 1) (acc ++ e) k (by omega) (by simp;omega) (by omega) (fun k' hk' => by
    rw [List.append_assoc,← he]
    exact hR k' hk') hw
  rw [zbD]
  refine (if_pos (by omega)).trans ?_
  refine (if_pos (by omega)).trans ?_
  refine (if_pos (by omega)).trans ?_
  refine (if_pos (by omega)).trans ?_
  rw [zuM,w ()]
  refine (Option.bind_some _ _).trans ?_
  by_cases hwh : zdA (bt (zaA t i).f1 x) = true
  ·refine (if_pos hwh).trans ?_
   by_cases hx0 : x = 0
   ·refine (if_pos (by omega)).trans ?_
    refine (if_pos (hal ())).trans ?_
    exact go [⟨32,i,x⟩] (by
     conv => lhs;unfold spB
     rw [if_pos (by omega),if_pos hwh,if_pos (Or.inl hx0)]
     rfl) (Nat.le_refl _)
   have w2 : ∀ _ : Unit,wrap64 ((x : Int) - 1) = ((x - 1 : Nat) : Int) := fun _ => by
    rw [show (x : Int) - 1 = ((x - 1 : Nat) : Int) from by omega,ziA (by omega)]
   refine (if_neg (by omega)).trans ?_
   rw [w2 ()]
   refine (if_pos (by omega)).trans ?_
   refine (if_pos (by omega)).trans ?_
   rw [zuM]
   refine (Option.bind_some _ _).trans ?_
   by_cases hw2 : zdA (bt (zaA t i).f1 ((x - 1 : Nat) : Int)) = true
   ·refine (if_pos hw2).trans ?_
    have := go [] (by
     conv => lhs;unfold spB
     rw [if_pos (by omega),if_pos hwh,if_neg (fun h => h.elim hx0 fun h => by rw [hw2] at h;cases h)]
     rfl) (Nat.zero_le _)
    rw [List.append_nil] at this
    exact this
   refine (if_neg hw2).trans ?_
   refine (if_pos (hal ())).trans ?_
   exact go [⟨32,i,x⟩] (by
    conv => lhs;unfold spB
    rw [if_pos (by omega),if_pos hwh,if_pos (Or.inr (by simpa using hw2))]
    rfl) (Nat.le_refl _)
  refine (if_neg hwh).trans ?_
  refine (if_pos (hal ())).trans ?_
  exact go [⟨bt (zaA t i).f1 x,i,x⟩] (by
   conv => lhs;unfold spB
   rw [if_pos (by omega),if_neg hwh]
   rfl) (Nat.le_refl _)
theorem zzM (t : List S56) (hN : Nst t) (hl : t.length ≤ 3000) (hM : ∀ i,i < t.length → (zaA t i).f1.size ≤ 10000) (j : Nat) (hj : j < t.length) (c : Nat) (hc : 20000 ≤ c) :
  ∀ (d i k : Nat) (acc : List S184),d + i = j + sz t j → j < i → acc.length ≤ 10000 * i → d * c + c ≤ k → zbP k t j acc i = some (acc ++ spotG t j d i)
 | 0,i,k,acc,hi,hji,ha,hk => by
  obtain ⟨k,rfl⟩ : ∃ j,k = j + 1 := ⟨k - 1,by omega⟩
  have hlim := hN.lim j hj
  have hpos := hN.pos j hj
  have w : ∀ _ : Unit,wrap64 ((j : Int) + (zaA t (j : Int)).f3) = ((j + sz t j : Nat) : Int) := fun _ => by
   rw [show (j : Int) + (zaA t (j : Int)).f3 = ((j + sz t j : Nat) : Int) from by unfold sz;omega]
   exact ziA (by omega)
  rw [zbP]
  refine (if_pos (by omega)).trans ?_
  refine (if_pos (by omega)).trans ?_
  rw [w ()]
  refine (if_neg (by omega)).trans ?_
  rw [show spotG t j 0 i = [] from rfl,List.append_nil]
 | d + 1,i,k,acc,hi,hji,ha,hk => by
  rw [Nat.succ_mul] at hk
  obtain ⟨k,rfl⟩ : ∃ j,k = j + 2 := ⟨k - 2,by omega⟩
  have hlim := hN.lim j hj
  have hpos := hN.pos j hj
  have hMi := hM i (by omega)
  have w : ∀ _ : Unit,wrap64 ((j : Int) + (zaA t (j : Int)).f3) = ((j + sz t j : Nat) : Int) := fun _ => by
   rw [show (j : Int) + (zaA t (j : Int)).f3 = ((j + sz t j : Nat) : Int) from by unfold sz;omega]
   exact ziA (by omega)
  have w2 : ∀ _ : Unit,wrap64 ((i : Int) + 1) = ((i + 1 : Nat) : Int) := fun _ => by
   rw [show (i : Int) + 1 = ((i + 1 : Nat) : Int) from by omega,ziA (by omega)]
  have hsl := ycD t i
  have ih := fun k' acc' ha' hk' => zzM t hN hl hM j hj c hc d (i + 1) k' acc' (by omega) (by omega) ha' hk'
  have skip : inF t j i = false → ∀ k',d * c + c ≤ k' → zbP k' t j acc ((i + 1 : Nat) : Int) = some (acc ++ spotG t j (d + 1) i) := fun h k' hk' => by
   rw [ih k' acc (by omega) hk']
   simp only [spotG]
   rw [if_neg (by rw [h];decide),List.nil_append]
  rw [zbP]
  refine (if_pos (by omega)).trans ?_
  refine (if_pos (by omega)).trans ?_
  rw [w ()]
  refine (if_pos (by omega)).trans ?_
  refine (if_pos (by omega)).trans ?_
  refine (if_pos (by omega)).trans ?_
  by_cases h46 : (zaA t i).f0 = 46
  ·refine (if_pos h46).trans ?_
   rw [yfV t hN (by omega) i (by omega) (k + 1) (by omega)]
   refine (Option.bind_some _ _).trans ?_
   rw [zdV]
   by_cases hf : flow t i = j
   ·refine (if_neg (by simp [hf])).trans ?_
    have hin : inF t j i = true := by unfold inF isT;simp [h46,hf]
    refine zzL t j i (by omega) hMi _ (d * c + c) (zaA t i).f1.size 0 acc k (by omega) (by omega) (by omega) (fun k' hk' => ?_) (by omega)
    rw [ih k' _ (by rw [List.length_append];have : (spB (zaA t i).f1 i (zaA t i).f1.size 0).length ≤ (zaA t i).f1.size := hsl;omega) hk']
    simp only [spotG]
    rw [if_pos hin,List.append_assoc]
    rfl
   refine (if_pos (by simpa using hf)).trans ?_
   rw [w2 ()]
   exact skip (by unfold inF;simp [hf]) k (by omega)
  refine (if_neg h46).trans ?_
  rw [zdV]
  refine (if_pos rfl).trans ?_
  rw [w2 ()]
  exact skip (by unfold inF isT;simp [h46]) k (by omega)
theorem spots_f (t : List S56) (hN : Nst t) (hl : t.length ≤ 3000) (hM : ∀ i,i < t.length → (zaA t i).f1.size ≤ 10000) (j : Nat) (hj : j < t.length) (c k : Nat) (hc : 20000 ≤ c) (hk : t.length * c + c ≤ k) :
  stylusref05_Spots.f k t j = some (spotG t j t.length 0) := by
 have hlim := hN.lim j hj
 have hpos := hN.pos j hj
 have hs1 : 1 ≤ sz t j := by unfold sz;omega
 have w2 : ∀ _ : Unit,wrap64 ((j : Int) + 1) = ((j + 1 : Nat) : Int) := fun _ => by
  rw [show (j : Int) + 1 = ((j + 1 : Nat) : Int) from by omega,ziA (by omega)]
 unfold stylusref05_Spots.f
 rw [w2 (),zzM t hN hl hM j hj c hc (sz t j - 1) (j + 1) k [] (by omega) (by omega) (Nat.zero_le _) (Nat.le_trans (Nat.add_le_add_right (Nat.mul_le_mul_right c (show sz t j - 1 ≤ t.length by omega)) c) hk),spG_all t hN j hj,List.nil_append]
def atN (x : Nat) (p : S184) : Bool := decide (p.f1 = (x : Int))
theorem zzN {x : Nat} {p : S184} (h : p.f1 = x) : atN x p = true := decide_eq_true h
theorem znF {x : Nat} {p : S184} (h : ¬ p.f1 = x) : atN x p = false := decide_eq_false h
def tagL (i : Nat) (L : List (Nat × Int)) : List S184 := L.map fun x => ⟨x.2,i,x.1⟩
theorem zqL (i : Nat) (x : Nat × Int) (L : List (Nat × Int)) : tagL i (x :: L) = ⟨x.2,i,x.1⟩ :: tagL i L := rfl
theorem zqM (s : ByteArray) (i : Nat) : ∀ (d k : Nat) (c : Int),(0 < k → zdA (bt s ((k - 1 : Nat) : Int)) = true → c = 0 ∨ c = 32) → kp c (spB s i d k) = tagL i (kpB s d k c)
 | 0,k,c,_ => rfl
 | d + 1,k,c,h => by
  unfold spB kpB
  by_cases hk : k < s.size
  ·rw [if_pos hk,if_pos hk]
   by_cases hw : zdA (bt s k) = true
   ·rw [if_pos hw,if_pos hw]
    by_cases hf : k = 0 ∨ zdA (bt s ((k - 1 : Nat) : Int)) = false
    ·rw [if_pos hf]
     simp only [kp]
     rw [if_pos trivial]
     by_cases hc : c = 0 ∨ c = 32
     ·rw [if_pos hc,if_pos hc]
      exact zqM s i d (k + 1) c fun _ _ => hc
     rw [if_neg hc,if_neg hc,zqL,zqM s i d (k + 1) 32 fun _ _ => Or.inr rfl]
    rw [if_neg hf]
    have hk0 : 0 < k := Nat.pos_of_ne_zero fun h => hf (Or.inl h)
    have hw2 : zdA (bt s ((k - 1 : Nat) : Int)) = true := by
     cases hq : zdA (bt s ((k - 1 : Nat) : Int)) with
     | true => rfl
     | false => exact absurd (Or.inr hq) hf
    have hc := h hk0 hw2
    rw [if_pos hc]
    exact zqM s i d (k + 1) c fun _ _ => hc
   rw [if_neg hw,if_neg hw]
   have h32 := yiS _ (by simpa using hw)
   simp only [kp]
   rw [if_neg h32,zqL,zqM s i d (k + 1) (bt s k) fun _ h2 => absurd h2 hw]
  rw [if_neg hk,if_neg hk]
  rfl
def Wk (t : List S56) (j i : Nat) : List S184 := kp 0 (spotG t j i 0)
def fo (t : List S56) (i : Nat) : Nat := (flow t i).toNat
def Lk (t : List S56) (i : Nat) : List (Nat × Int) := kpB (zaA t i).f1 (zaA t i).f1.size 0 (sayK 0 (Wk t (fo t i) i))
theorem fo_in {t : List S56} {j i : Nat} (h : inF t j i = true) : fo t i = j := by
 have := (zqK h).2.1
 unfold fo
 omega
theorem zoE (t : List S56) (j i : Nat) : Wk t j (i + 1) = Wk t j i ++ (if inF t j i = true then tagL i (Lk t i) else []) := by
 unfold Wk
 rw [zrN t j i 1 0,zuN,Nat.zero_add]
 congr 1
 simp only [spotG]
 rw [List.append_nil]
 by_cases h : inF t j i = true
 ·rw [if_pos h,if_pos h]
  unfold Lk spT
  rw [fo_in h]
  exact zqM _ _ _ 0 _ fun h0 => absurd h0 (Nat.lt_irrefl 0)
 rw [if_neg h,if_neg h]
 rfl
theorem zwA {i : Nat} {L : List (Nat × Int)} {p : S184} (h : p ∈ tagL i L) : p.f1 = i := by
 unfold tagL at h
 obtain ⟨x,_,rfl⟩ := List.mem_map.1 h
 rfl
theorem zqN (t : List S56) (j : Nat) : ∀ (i : Nat) (p : S184),p ∈ Wk t j i → ∃ q : Nat,p.f1 = q ∧ q < i ∧ inF t j q = true
 | 0,p,h => by cases h
 | i + 1,p,h => by
  rw [zoE] at h
  rcases List.mem_append.1 h with h | h
  ·obtain ⟨q,h1,h2,h3⟩ := zqN t j i p h
   exact ⟨q,h1,by omega,h3⟩
  split at h
  ·rename_i hf
   exact ⟨i,zwA h,by omega,hf⟩
  cases h
theorem zsX (t : List S56) (j x : Nat) (hx : inF t j x = true) : ∀ (d : Nat),∃ B,Wk t j (x + 1 + d) = Wk t j x ++ tagL x (Lk t x) ++ B ∧ ∀ p ∈ B,∃ q : Nat,p.f1 = q ∧ x < q
 | 0 => ⟨[],by rw [Nat.add_zero,zoE,if_pos hx,List.append_nil],by intro p hp;cases hp⟩
 | d + 1 => by
  obtain ⟨B,h1,h2⟩ := zsX t j x hx d
  refine ⟨B ++ (if inF t j (x + 1 + d) = true then tagL (x + 1 + d) (Lk t (x + 1 + d)) else []),?_,fun p hp => ?_⟩
  ·rw [show x + 1 + (d + 1) = (x + 1 + d) + 1 from by omega,zoE,h1,List.append_assoc]
  rcases List.mem_append.1 hp with h | h
  ·exact h2 p h
  split at h
  ·exact ⟨x + 1 + d,zwA h,by omega⟩
  cases h
def zkX (t : List S56) (i : Nat) : Bool := match (Wk t (fo t i) t.length).getLast? with | some p => decide (p.f0 = 32) && decide (p.f1 = i) | none => false
def Mk (t : List S56) (i : Nat) : List (Nat × Int) := if zkX t i = true then (Lk t i).dropLast else Lk t i
theorem zgR {α : Type} (p : α → Bool) (l : List α) (h : ∀ x ∈ l,p x = false) : l.filter p = [] := List.filter_eq_nil_iff.2 fun x hx => by rw [h x hx];decide
theorem znN (i : Nat) (L : List (Nat × Int)) : (tagL i L).filter (atN i) = tagL i L := zuL _ _ fun p hp => zzN (zwA hp)
theorem zyD (i : Nat) (L : List (Nat × Int)) : (tagL i L).dropLast = tagL i L.dropLast := by
 unfold tagL
 rw [List.map_dropLast]
theorem zqO (L : List S184) : ∀ p ∈ zgO L,p ∈ L := fun p hp => by
 unfold zgO at hp
 split at hp
 ·split at hp
  ·exact List.dropLast_subset _ hp
  exact hp
 cases hp
theorem zzO (L : List S184) (p : S184) (h : L.getLast? = some p) : zgO L = if p.f0 = 32 then L.dropLast else L := by
 unfold zgO
 rw [h]
theorem ybF (t : List S56) (j x : Nat) (hx : inF t j x = true) (hxt : x < t.length) : (zgO (Wk t j t.length)).filter (atN x) = tagL x (Mk t x) := by
 have hfo := fo_in hx
 obtain ⟨B,hW,hB⟩ := zsX t j x hx (t.length - (x + 1))
 rw [show x + 1 + (t.length - (x + 1)) = t.length from by omega] at hW
 have hA : ∀ p ∈ Wk t j x,atN x p = false := fun p hp => by
  obtain ⟨q,h1,h2,_⟩ := zqN t j x p hp
  exact znF (by omega)
 have hB2 : ∀ p ∈ B,atN x p = false := fun p hp => by
  obtain ⟨q,h1,h2⟩ := hB p hp
  exact znF (by omega)
 have hfull : (Wk t j t.length).filter (atN x) = tagL x (Lk t x) := by
  rw [hW,List.filter_append,List.filter_append,zgR _ _ hA,zgR _ _ hB2,znN,List.nil_append,List.append_nil]
 have hnil : zgO [] = ([] : List S184) := rfl
 rcases List.eq_nil_or_concat B with rfl | ⟨B',b,rfl⟩
 ·rw [List.append_nil] at hW
  rcases List.eq_nil_or_concat (Lk t x) with hL | ⟨D,y,hL⟩
  ·have hM : Mk t x = [] := by
    unfold Mk
    rw [hL]
    split <;> rfl
   rw [hM]
   refine zgR _ _ fun p hp => ?_
   have := zqO _ p hp
   rw [hW,hL] at this
   exact hA p (by simpa [tagL] using this)
  rw [List.concat_eq_append] at hL
  have hlast : (Wk t j t.length).getLast? = some ⟨y.2,x,y.1⟩ := by
   rw [hW,hL]
   simp [tagL]
  rw [zzO _ _ hlast]
  have hends : zkX t x = decide (y.2 = 32) := by
   unfold zkX
   rw [hfo,hlast]
   simp
  unfold Mk
  rw [hends]
  by_cases h32 : y.2 = 32
  ·have h32' : (⟨y.2,x,y.1⟩ : S184).f0 = 32 := h32
   rw [if_pos h32',if_pos (by simpa using h32),hW]
   have hne : tagL x (Lk t x) ≠ [] := by rw [hL];simp [tagL]
   rw [List.dropLast_append_of_ne_nil hne,List.filter_append,zgR _ _ hA,List.nil_append,zyD,znN]
  have h32' : ¬ (⟨y.2,x,y.1⟩ : S184).f0 = 32 := h32
  rw [if_neg h32',if_neg (by simpa using h32),hfull]
 rw [List.concat_eq_append] at *
 have hlast : (Wk t j t.length).getLast? = some b := by
  rw [hW]
  simp
 have hb := hB2 b (by simp)
 have hends : zkX t x = false := by
  unfold zkX
  rw [hfo,hlast]
  show (decide (b.f0 = 32) && atN x b) = false
  rw [hb,Bool.and_false]
 have hM : Mk t x = Lk t x := by
  unfold Mk
  rw [hends]
  rfl
 rw [hM,zzO _ _ hlast]
 split
 ·rw [hW,← List.append_assoc,List.dropLast_concat,List.filter_append,List.filter_append,zgR _ _ hA,znN,zgR _ B' (fun p hp => hB2 p (List.mem_append_left _ hp)),List.nil_append,List.append_nil]
 exact hfull
theorem zoF (t : List S56) (j x : Nat) (hx : inF t j x = false) : (zgO (Wk t j t.length)).filter (atN x) = [] := zgR _ _ fun p hp => by
 obtain ⟨q,h1,h2,h3⟩ := zqN t j t.length p (zqO _ p hp)
 refine znF fun h => ?_
 obtain rfl : q = x := by omega
 rw [hx] at h3
 cases h3
theorem znG (xs : List Int) : (strOfNums xs).size = xs.length := by
 simp [strOfNums,ByteArray.size]
theorem zzP (A B : List Int) : strOfNums (A ++ B) = strOfNums A ++ strOfNums B := by
 refine ByteArray.ext ?_
 simp [strOfNums,ByteArray.data_append]
def hdF2 (z a : Int) : List (Nat × Int) → Int
 | [] => z
 | q :: _ => wrap64 (a + q.1)
theorem zuQ (c : Int) : (zdC c).size = 1 := rfl
theorem zzQ (t : List S56) (x : Nat) : ∀ (L : List (Nat × Int)) (y : S56),(tagL x L).foldl (fun y p => ziN t p y) y = ⟨y.f0,y.f1 ++ strOfNums (byL L),if y.f1.size = 0 then hdF2 y.f2 (zaA t x).f2 L else y.f2,y.f3⟩
 | [],y => by
  have e : strOfNums (byL []) = ⟨#[]⟩ := rfl
  have e2 : y.f1 ++ (⟨#[]⟩ : ByteArray) = y.f1 := by
   refine ByteArray.ext ?_
   simp [ByteArray.data_append]
  rw [e,e2]
  show y = _
  split <;> rfl
 | q :: L,y => by
  rw [zqL,List.foldl_cons,zzQ t x L]
  have e : strOfNums (byL (q :: L)) = zdC q.2 ++ strOfNums (byL L) := by
   show strOfNums ([q.2] ++ byL L) = _
   rw [zzP]
   rfl
  have e2 : (y.f1 ++ zdC q.2).size ≠ 0 := by
   rw [ByteArray.size_append,zuQ]
   omega
  rw [e,← ByteArray.append_assoc]
  show (⟨y.f0,y.f1 ++ zdC q.2 ++ strOfNums (byL L),if (y.f1 ++ zdC q.2).size = 0 then _ else (if y.f1.size = 0 then wrap64 ((zaA t (x : Int)).f2 + q.1) else y.f2),y.f3⟩ : S56) = _
  rw [if_neg e2]
  rfl
theorem zxC (t : List S56) : ∀ (l : List S184) (out : List S56),out.length = t.length → (∀ p ∈ l,0 ≤ p.f1 ∧ p.f1 < (t.length : Int) ∧ 0 ≤ p.f0 ∧ p.f0 ≤ 255) → (∀ y ∈ out,y.f1.size + l.length ≤ 1000000000) →
   zgA t l out = some (out.mapIdx fun x y => (l.filter (atN x)).foldl (fun y p => ziN t p y) y)
 | [],out,_,_,_ => by
  show some out = _
  congr 1
  refine List.ext_getElem? fun i => ?_
  rw [List.getElem?_mapIdx]
  cases out[i]? <;> rfl
 | p :: l,out,ho,hp,hs => by
  obtain ⟨h1,h2,h3,h4⟩ := hp p List.mem_cons_self
  have hi : p.f1.toNat < out.length := by omega
  have hg : out.getD p.f1.toNat z56 = out[p.f1.toNat] := by rw [List.getD_eq_getElem?_getD,List.getElem?_eq_getElem hi];rfl
  have hsz := hs _ (List.getElem_mem hi)
  rw [List.length_cons] at hsz
  unfold zgA putO
  rw [if_pos ⟨h1,h2,by rw [hg];omega,h3,h4⟩]
  refine (Option.bind_some _ _).trans ?_
  rw [zxC t l (out.modify p.f1.toNat (ziN t p)) (by rw [List.length_modify];exact ho) (fun q hq => hp q (List.mem_cons_of_mem _ hq)) (fun y hy => by
   obtain ⟨i,hi2,rfl⟩ := List.getElem_of_mem hy
   rw [List.length_modify] at hi2
   have := hs _ (List.getElem_mem hi2)
   rw [List.length_cons] at this
   rw [List.getElem_modify]
   split
   ·show (out[i].f1 ++ zdC p.f0).size + _ ≤ _
    rw [ByteArray.size_append,zuQ]
    omega
   omega)]
  congr 1
  refine List.ext_getElem? fun i => ?_
  rw [List.getElem?_mapIdx,List.getElem?_mapIdx,List.getElem?_modify]
  cases out[i]? with
  | none => rfl
  | some y =>
  simp only [Option.map_some,Option.map_eq_map]
  by_cases e : p.f1.toNat = i
  ·rw [if_pos e,List.filter_cons_of_pos (zzN (by omega))]
   rfl
  rw [if_neg e,List.filter_cons_of_neg (by rw [znF (by omega)];decide)]
def refN (t : List S56) (j : Nat) (y : S56) : S56 := ⟨y.f0,strOfNums (byL (Mk t j)),hdF2 y.f2 (zaA t j).f2 (Mk t j),y.f3⟩
def outR (t : List S56) (i : Nat) : List S56 := t.mapIdx fun j y => if y.f0 = 46 then (if flow t j < i then refN t j y else tx ⟨#[]⟩ y) else y
theorem zkM (t : List S56) (i : Nat) : (outR t i).length = t.length := by simp [outR]
theorem ziB (t : List S56) (i : Nat) (h : i < t.length) : zaA t (i : Int) = t[i] := by
 unfold zaA
 rw [Int.toNat_natCast,List.getD_eq_getElem?_getD,List.getElem?_eq_getElem h]
 rfl
theorem yfX (t : List S56) (i : Nat) : (Mk t i).length ≤ (zaA t i).f1.size := by
 have := zoC (zaA t i).f1 (zaA t i).f1.size 0 (sayK 0 (Wk t (fo t i) i))
 unfold Mk
 split
 ·rw [List.length_dropLast];unfold Lk;omega
 exact this
structure Txt (t : List S56) : Prop where
 nst : Nst t
 len : t.length ≤ 3000
 size : ∀ i,i < t.length → (zaA t i).f1.size ≤ 10000
 kind : ∀ i,i < t.length → 0 ≤ (zaA t i).f0 ∧ (zaA t i).f0 ≤ 255
 nul : ∀ q,q < t.length → isT t q = true → ∀ k : Nat,k < (zaA t q).f1.size → bt (zaA t q).f1 k ≠ 0
 home : ∀ q,q < t.length → isT t q = true → 0 ≤ flow t q
theorem zuR : ∀ (l : List S184) (c : Int),∀ p ∈ kp c l,p ∈ l
 | [],c,p,h => h
 | q :: l,c,p,h => by
  simp only [kp] at h
  split at h
  ·split at h
   ·exact List.mem_cons_of_mem _ (zuR l c p h)
   rcases List.mem_cons.1 h with rfl | h
   ·exact List.mem_cons_self
   exact List.mem_cons_of_mem _ (zuR l _ p h)
  rcases List.mem_cons.1 h with rfl | h
  ·exact List.mem_cons_self
  exact List.mem_cons_of_mem _ (zuR l _ p h)
theorem zuS : ∀ (l : List S184) (c : Int),(kp c l).length ≤ l.length
 | [],c => Nat.le_refl _
 | q :: l,c => by
  have h1 := zuS l c
  have h2 := zuS l 32
  have h3 := zuS l q.f0
  simp only [kp]
  repeat' split
  all_goals simp only [List.length_cons]
  all_goals omega
theorem yfY (L : List S184) : (zgO L).length ≤ L.length := by
 unfold zgO
 split
 ·split
  ·rw [List.length_dropLast];omega
  exact Nat.le_refl _
 exact Nat.zero_le _
theorem zqP {t : List S56} {i : Nat} (hi : i < t.length) : isT t i = true ↔ t[i].f0 = 46 := by
 unfold isT
 rw [ziB t i hi]
 exact beq_iff_eq
theorem zzR (t : List S56) (h : Txt t) (c : Nat) (hc : 20000 ≤ c) (k : Nat) (hk : t.length * c + c ≤ k) (hk2 : 40000000 * 40000005 + 5 ≤ k) :
  ∀ (d i : Nat),d + i = t.length → txGo k t d i (outR t i) = some (outR t t.length)
 | 0,i,hi => by
  obtain rfl : i = t.length := by omega
  rfl
 | d + 1,i,hi => by
  have ih := zzR t h c hc k hk hk2 d (i + 1) (by omega)
  unfold txGo
  by_cases hf : zhM (zaA t i).f0 = true
  ·rw [if_pos hf,spots_f t h.nst h.len h.size i (by omega) c k hc hk]
   refine (Option.bind_some _ _).trans ?_
   have hsl : (spotG t i t.length 0).length ≤ 30000000 := by
    have h1 := ycE t i 10000 t.length 0 (fun q hq => h.size q (by omega))
    have h2 := Nat.mul_le_mul_left 10000 h.len
    omega
   have hm := ycG t i h.nul t.length 0 (by omega)
   rw [kept_f _ (fun q hq => by obtain ⟨x,_,_,_,_,_,_,h7⟩ := hm q hq;exact h7) (by omega) k (Nat.le_trans (Nat.add_le_add_right (Nat.mul_le_mul (show _ ≤ 40000000 by omega) (show _ ≤ 40000005 by omega)) 5) hk2)]
   refine (Option.bind_some _ _).trans ?_
   rw [zrM]
   have hl1 := yfY (Wk t i t.length)
   have hl2 : (Wk t i t.length).length ≤ _ := zuS (spotG t i t.length 0) 0
   refine (if_pos (show (zgO (Wk t i t.length)).length ≤ 100000000 by omega)).trans ?_
   have hput := zxC t (zgO (Wk t i t.length)) (outR t i) (zkM t i) (fun p hp => by
    obtain ⟨q,h1,h2,h3,h4,h5,h6,h7⟩ := hm p (zuR _ _ p (zqO _ p hp))
    exact ⟨by omega,by omega,h5,h6⟩) (fun y hy => by
    obtain ⟨x,hx,rfl⟩ := List.getElem_of_mem hy
    have hx2 : x < t.length := by rw [zkM] at hx;exact hx
    have hsx := h.size x hx2
    have hml := yfX t x
    have : (outR t i)[x].f1.size ≤ 10000 := by
     simp only [outR,List.getElem_mapIdx]
     split
     ·split
      ·show (strOfNums (byL (Mk t x))).size ≤ _
       rw [znG]
       simp only [byL,List.length_map]
       omega
      exact Nat.zero_le _
     rw [← ziB t x hx2];exact hsx
    omega)
   show (zgA t (zgO (Wk t i t.length)) (outR t i)).bind _ = _
   rw [hput]
   refine (Option.bind_some _ _).trans ?_
   have hnext : ((outR t i).mapIdx fun x y => ((zgO (Wk t i t.length)).filter (atN x)).foldl (fun y p => ziN t p y) y) = outR t (i + 1) := by
    refine List.ext_getElem (by simp [outR]) fun x hx hx' => ?_
    have hx2 : x < t.length := by rw [zkM] at hx';exact hx'
    simp only [outR,List.getElem_mapIdx]
    by_cases hT : t[x].f0 = 46
    ·rw [if_pos hT,if_pos hT]
     have hTb := (zqP hx2).2 hT
     by_cases hfx : flow t x = i
     ·have hin : inF t i x = true := by unfold inF;rw [hTb,hfx];simp
      rw [ybF t i x hin hx2,if_neg (by omega),if_pos (by omega),zzQ]
      show (⟨t[x].f0,⟨#[]⟩ ++ strOfNums (byL (Mk t x)),if (0 : Nat) = 0 then _ else _,t[x].f3⟩ : S56) = _
      have e2 : (⟨#[]⟩ : ByteArray) ++ strOfNums (byL (Mk t x)) = strOfNums (byL (Mk t x)) := by
       refine ByteArray.ext ?_
       simp [ByteArray.data_append]
      rw [if_pos rfl,e2]
      rfl
     have hin : inF t i x = false := by unfold inF;simp [hfx]
     rw [zoF t i x hin]
     show (if flow t x < (i : Int) then _ else _) = _
     by_cases hlt : flow t x < (i : Int)
     ·rw [if_pos hlt,if_pos (by omega)]
     rw [if_neg hlt,if_neg (by omega)]
    rw [if_neg hT,if_neg hT]
    have hin : inF t i x = false := by
     unfold inF
     cases hTb : isT t x with
     | true => exact absurd ((zqP hx2).1 hTb) hT
     | false => rfl
    rw [zoF t i x hin]
    rfl
   rw [hnext]
   exact ih
  rw [if_neg hf]
  have hsame : outR t (i + 1) = outR t i := by
   refine List.ext_getElem (by simp [outR]) fun x hx hx' => ?_
   have hx2 : x < t.length := by rw [zkM] at hx';exact hx'
   simp only [outR,List.getElem_mapIdx]
   by_cases hT : t[x].f0 = 46
   ·have hfx : flow t x ≠ i := fun he => by
     have := (zvY t x i he).1
     exact hf this
    by_cases hlt : flow t x < (i : Int)
    ·rw [if_pos hT,if_pos hT,if_pos hlt,if_pos (by omega)]
    rw [if_pos hT,if_pos hT,if_neg hlt,if_neg (by omega)]
   rw [if_neg hT,if_neg hT]
  rw [hsame] at ih
  exact ih
def outF (t : List S56) : List S56 := t.mapIdx fun j y => if y.f0 = 46 then refN t j y else y
theorem yiT (t : List S56) (h : Txt t) (c : Nat) (hc : 20000 ≤ c) (k : Nat) (hk : t.length * c + c ≤ k) (hk2 : 40000000 * 40000005 + 5 ≤ k) : stylusref05_texts.f k t = some (outF t) := by
 unfold stylusref05_texts.f
 rw [if_pos (by have := h.len;omega)]
 have h0 : clrN t t.length = outR t 0 := by
  refine List.ext_getElem (by simp [outR,clrN]) fun x hx hx' => ?_
  have hx2 : x < t.length := by rw [zkM] at hx';exact hx'
  simp only [outR,clrN,List.getElem_mapIdx]
  by_cases hT : t[x].f0 = 46
  ·have := h.home x hx2 ((zqP hx2).2 hT)
   rw [if_pos ⟨hx2,hT⟩,if_pos hT,if_neg (by omega)]
  rw [if_neg (fun h => hT h.2),if_neg hT]
 have h1 : outR t t.length = outF t := by
  refine List.ext_getElem (by simp [outR,outF]) fun x hx hx' => ?_
  have hx2 : x < t.length := by rw [zkM] at hx;exact hx
  simp only [outR,outF,List.getElem_mapIdx]
  by_cases hT : t[x].f0 = 46
  ·have := zvX t x
   rw [if_pos hT,if_pos hT,if_pos (by omega)]
  rw [if_neg hT,if_neg hT]
 rw [h0,zzR t h c hc k hk hk2 t.length 0 (by omega),h1]
def fixN (t : List S56) (i : Nat) (L : List (Nat × Int)) (y : S56) : S56 := ⟨y.f0,strOfNums (byL L),hdF2 y.f2 (zaA t i).f2 L,y.f3⟩
theorem yiU (t : List S56) (i : Nat) (out : List S56) (L : List (Nat × Int)) : (zgL t i out L).modify i (tx (strOfNums (byL L))) = out.modify i (fixN t i L) := by
 refine List.ext_getElem? fun k => ?_
 cases L with
 | nil =>
  simp only [zgL,List.getElem?_modify]
  cases out[k]? with
  | none => rfl
  | some y => by_cases e : i = k <;> simp [e,fixN,tx,hdF2]
 | cons x L =>
 simp only [zgL,List.getElem?_modify]
 cases out[k]? with
 | none => rfl
 | some y => by_cases e : i = k <;> simp [e,fixN,tx,hdF2,atF]
def outN (t : List S56) (i : Nat) : List S56 := t.mapIdx fun j y => if y.f0 = 46 ∧ j < i then fixN t j (Lk t j) y else y
theorem zsY (t : List S56) (i : Nat) : (outN t i).length = t.length := by simp [outN]
def zlY (L : List S184) : Int := match L.getLast? with | some p => p.f1 | none => 0
theorem yfZ (W : List S184) (i : Nat) (L : List (Nat × Int)) : zlY (W ++ tagL i L) = atL (zlY W) i L := by
 rcases List.eq_nil_or_concat L with rfl | ⟨D,x,rfl⟩
 ·simp [tagL,atL]
 rw [List.concat_eq_append]
 unfold zlY atL tagL
 simp
theorem yiV (W : List S184) (i : Nat) (L : List (Nat × Int)) : sayK 0 (W ++ tagL i L) = sayL (sayK 0 W) L := by
 rcases List.eq_nil_or_concat L with rfl | ⟨D,x,rfl⟩
 ·simp [tagL,sayL]
 rw [List.concat_eq_append]
 unfold sayK sayL tagL
 simp
structure InvN (t : List S56) (i : Nat) (s : SqS) : Prop where
 out : s.out = outN t i
 say : ∀ j : Nat,(s.F j).getD (0,0) = (sayK 0 (Wk t j i),zlY (Wk t j i))
def owR (t : List S56) : List Int := (List.range t.length).map (ow t)
theorem ow_fo (t : List S56) (i : Nat) (h : 0 ≤ flow t i) : ow t i = (fo t i : Int) := by
 unfold ow fo
 rw [if_neg (by omega)]
 omega
theorem ygA {t : List S56} {i : Nat} (h : 0 ≤ flow t i) (hT : isT t i = true) : inF t (fo t i) i = true := by
 unfold inF fo
 rw [hT,Bool.true_and,decide_eq_true_eq]
 omega
theorem yiW (t : List S56) (h : Txt t) (i : Nat) (hi : i < t.length) (s : SqS) (hs : InvN t i s) : InvN t (i + 1) (zgZ (owR t) t i s) := by
 have hrd := ziB t i hi
 unfold zgZ
 by_cases h46 : (zaA t i).f0 = 46
 ·rw [if_pos h46]
  have hT : isT t i = true := by unfold isT;rw [h46];rfl
  have hfl := h.home i hi hT
  have hO : rd (owR t) (i : Int) = (fo t i : Int) := by
   unfold owR
   rw [rd_ow t i hi,ow_fo t i hfl]
  rw [hO,hs.say (fo t i)]
  show InvN t (i + 1) ⟨(zgL t i s.out (Lk t i)).modify i (tx (strOfNums (byL (Lk t i)))),upF s.F (fo t i : Int) (sayL (sayK 0 (Wk t (fo t i) i)) (Lk t i),atL (zlY (Wk t (fo t i) i)) i (Lk t i))⟩
  refine ⟨?_,fun j => ?_⟩
  ·show (zgL t i s.out (Lk t i)).modify i (tx (strOfNums (byL (Lk t i)))) = _
   rw [yiU,hs.out]
   refine List.ext_getElem (by simp [outN]) fun x hx hx' => ?_
   rw [List.getElem_modify]
   simp only [outN,List.getElem_mapIdx]
   by_cases e : i = x
   ·subst e
    rw [if_pos rfl,if_neg (fun h => Nat.lt_irrefl _ h.2),if_pos ⟨by rw [← hrd];exact h46,by omega⟩]
   rw [if_neg e]
   by_cases hc : (t[x]'(by rw [zsY] at hx';exact hx')).f0 = 46 ∧ x < i
   ·rw [if_pos hc,if_pos ⟨hc.1,by omega⟩]
   rw [if_neg hc,if_neg (fun h => hc ⟨h.1,by omega⟩)]
  show (upF s.F (fo t i : Int) _ (j : Int)).getD (0,0) = _
  unfold upF
  rw [zoE]
  by_cases e : j = fo t i
  ·subst e
   rw [if_pos rfl,if_pos (ygA hfl hT),yiV,yfZ]
   rfl
  have hn : inF t j i = false := by
   cases hq : inF t j i with
   | false => rfl
   | true => exact absurd (fo_in hq).symm e
  rw [if_neg (by omega),hn,if_neg (by decide),List.append_nil]
  exact hs.say j
 rw [if_neg h46]
 refine ⟨?_,fun j => ?_⟩
 ·rw [hs.out]
  refine List.ext_getElem (by simp [outN]) fun x hx hx' => ?_
  simp only [outN,List.getElem_mapIdx]
  by_cases hc : (t[x]'(by rw [zsY] at hx';exact hx')).f0 = 46 ∧ x < i
  ·rw [if_pos hc,if_pos ⟨hc.1,by omega⟩]
  rw [if_neg hc,if_neg (fun h => ?_)]
  refine hc ⟨h.1,?_⟩
  refine Nat.lt_of_le_of_ne (by omega) fun e => ?_
  subst e
  exact h46 (by rw [hrd];exact h.1)
 have hn : inF t j i = false := by
  cases hq : inF t j i with
  | false => rfl
  | true =>
  have := (zqK hq).1
  unfold isT at this
  exact absurd (beq_iff_eq.1 this) h46
 rw [zoE,hn,if_neg (by decide),List.append_nil]
 exact hs.say j
theorem ycH (t : List S56) (h : Txt t) : ∀ (d i : Nat) (s : SqS),d + i = t.length → InvN t i s → InvN t t.length (ziX (owR t) t d i s)
 | 0,i,s,hi,hs => by
  obtain rfl : i = t.length := by omega
  exact hs
 | d + 1,i,s,hi,hs => ycH t h d (i + 1) _ (by omega) (yiW t h i (by omega) s hs)
theorem inv_0 (t : List S56) : InvN t 0 (sq0 t) where
 out := by
  refine List.ext_getElem (by simp [outN,sq0]) fun x hx hx' => ?_
  simp only [outN,List.getElem_mapIdx]
  rw [if_neg (fun h => Nat.not_lt_zero _ h.2)]
  rfl
 say := fun j => rfl
def sqN (t : List S56) (j : Nat) (y : S56) : S56 := ⟨y.f0,strOfNums (byL (Mk t j)),hdF2 y.f2 (zaA t j).f2 (Lk t j),y.f3⟩
def sqF (t : List S56) : List S56 := t.mapIdx fun j y => if y.f0 = 46 then sqN t j y else y
theorem zfH (t : List S56) : (sqF t).length = t.length := by simp [sqF]
theorem ygB {t : List S56} {x : Nat} (hxt : x < t.length) (hx : inF t (fo t x) x = true) (he : zkX t x = true) : ∃ D k,Lk t x = D ++ [(k,32)] := by
 unfold zkX at he
 split at he
 ·rename_i p hp
  rw [Bool.and_eq_true,decide_eq_true_eq,decide_eq_true_eq] at he
  obtain ⟨B,hW,hB⟩ := zsX t (fo t x) x hx (t.length - (x + 1))
  rw [show x + 1 + (t.length - (x + 1)) = t.length from by omega] at hW
  rcases List.eq_nil_or_concat B with rfl | ⟨B',b,rfl⟩
  ·rw [List.append_nil] at hW
   rcases List.eq_nil_or_concat (Lk t x) with hL | ⟨D,y,hL⟩
   ·rw [hW,hL] at hp
    have hm := List.mem_of_getLast? hp
    obtain ⟨q,h1,h2,_⟩ := zqN t (fo t x) x p (by simpa [tagL] using hm)
    omega
   rw [List.concat_eq_append] at hL
   rw [hW,hL] at hp
   have : p = ⟨y.2,x,y.1⟩ := by simpa [tagL] using hp.symm
   subst this
   obtain ⟨k,c⟩ := y
   obtain rfl : c = 32 := he.1
   exact ⟨D,k,hL⟩
  rw [List.concat_eq_append] at hW hB
  rw [hW] at hp
  have : p = b := by simpa using hp.symm
  subst this
  obtain ⟨q,h1,h2⟩ := hB p (by simp)
  omega
 cases he
theorem byL_app (A B : List (Nat × Int)) : byL (A ++ B) = byL A ++ byL B := by simp [byL]
theorem ygC (D : List Int) : zkU (strOfNums (D ++ [32])) = strOfNums D := by
 have hs : (strOfNums (D ++ [32])).size = D.length + 1 := by rw [znG];simp
 have hd : (strOfNums D).size = D.length := znG D
 have e : strOfNums (D ++ [32]) = strOfNums D ++ ⟨#[32]⟩ := zzP D [32]
 unfold zkU
 rw [if_pos (by omega),hs,Nat.add_sub_cancel]
 have h1 : (strOfNums (D ++ [32])).extract D.length (D.length + 1) = ⟨#[32]⟩ := by
  rw [e]
  refine ByteArray.ext ?_
  have hd2 : (strOfNums D).data.size = D.length := hd
  rw [ByteArray.data_extract,ByteArray.data_append,Array.extract_append,hd2,Array.extract_empty_of_size_le_start (by omega)]
  simp
 have h2 : (strOfNums (D ++ [32])).extract 0 D.length = strOfNums D := by
  rw [e]
  refine ByteArray.ext ?_
  have hd2 : (strOfNums D).data.size = D.length := hd
  rw [ByteArray.data_extract,ByteArray.data_append,Array.extract_append,hd2]
  simp [← hd2]
 rw [h1,if_pos (by simp),h2]
theorem ydV (t : List S56) (h : Txt t) : zkK (owR t) t = sqF t := by
 have hI := ycH t h t.length 0 (sq0 t) (by omega) (inv_0 t)
 unfold zkK zeY
 generalize ziX (owR t) t t.length 0 (sq0 t) = s at hI
 rw [hI.out]
 refine List.ext_getElem (by simp [outN,sqF]) fun x hx hx' => ?_
 have hxt : x < t.length := by rw [zfH] at hx';exact hx'
 have hO : rd (owR t) (x : Int) = ow t x := rd_ow t x hxt
 have hxo : x < (outN t t.length).length := by rw [zsY];exact hxt
 have hoN : (outN t t.length)[x] = if t[x].f0 = 46 ∧ x < t.length then fixN t x (Lk t x) t[x] else t[x] := by simp only [outN,List.getElem_mapIdx]
 have hsq : (sqF t)[x] = if t[x].f0 = 46 then sqN t x t[x] else t[x] := by simp only [sqF,List.getElem_mapIdx]
 refine List.getElem_mapIdx.trans ?_
 rw [hoN,hsq,hO]
 clear hoN hsq
 have hfac : ∀ j : Nat,s.F j = some (32,(x : Int)) ↔ ∃ p,(Wk t j t.length).getLast? = some p ∧ p.f0 = 32 ∧ p.f1 = x := fun j => by
  have := hI.say j
  constructor
  ·intro hF
   rw [hF] at this
   have h1 := congrArg Prod.fst this
   have h2 := congrArg Prod.snd this
   change 32 = sayK 0 _ at h1
   change (x : Int) = zlY _ at h2
   unfold sayK at h1
   unfold zlY at h2
   cases hg : (Wk t j t.length).getLast? with
   | none => rw [hg] at h1;exact absurd h1 (by decide)
   | some p =>
   rw [hg] at h1 h2
   exact ⟨p,rfl,h1.symm,h2.symm⟩
  rintro ⟨p,hg,h1,h2⟩
  have e : (sayK 0 (Wk t j t.length),zlY (Wk t j t.length)) = (32,(x : Int)) := by
   unfold sayK zlY
   rw [hg]
   show (p.f0,p.f1) = _
   rw [h1,h2]
  rw [e] at this
  cases hF : s.F j with
  | none => rw [hF] at this;exact absurd (show (0 : Int) = 32 from congrArg Prod.fst this) (by decide)
  | some v => rw [hF] at this;exact congrArg some this
 by_cases hT : t[x].f0 = 46
 ·have hTb := (zqP hxt).2 hT
  have hfl := h.home x hxt hTb
  rw [if_pos (⟨hT,hxt⟩ : t[x].f0 = 46 ∧ x < t.length),if_pos hT,ow_fo t x hfl]
  have hends : zkX t x = true ↔ s.F (fo t x) = some (32,(x : Int)) := by
   rw [hfac (fo t x)]
   unfold zkX
   constructor
   ·intro he
    split at he
    ·rename_i p hp
     rw [Bool.and_eq_true,decide_eq_true_eq,decide_eq_true_eq] at he
     exact ⟨p,hp,he.1,he.2⟩
    cases he
   rintro ⟨p,hp,h1,h2⟩
   rw [hp]
   simp [h1,h2]
  by_cases he : zkX t x = true
  ·rw [if_pos ⟨hends.1 he,rfl⟩]
   obtain ⟨D,k,hL⟩ := ygB hxt (ygA hfl hTb) he
   unfold sqN fixN tx Mk
   rw [if_pos he,hL,List.dropLast_concat,byL_app]
   show (⟨_,zkU (strOfNums (byL D ++ [32])),_,_⟩ : S56) = _
   rw [ygC]
  rw [if_neg (fun h => he (hends.2 h.1))]
  unfold sqN fixN Mk
  rw [if_neg he]
 have hn : ¬ (s.F (ow t x) = some (32,(x : Int)) ∧ false = false) := fun hc => by
  have hr := zzJ t x
  have hc1 := hc.1
  rw [show ow t x = ((ow t x).toNat : Int) from by omega,hfac] at hc1
  obtain ⟨p,hp,h1,h2⟩ := hc1
  obtain ⟨q,h3,h4,h5⟩ := zqN t _ t.length p (List.mem_of_getLast? hp)
  obtain rfl : q = x := by omega
  exact hT ((zqP hxt).1 (zqK h5).1)
 rw [if_neg hn,if_neg hT,if_neg (fun h : t[x].f0 = 46 ∧ x < t.length => hT h.1)]
structure Alike (u v : List S56) : Prop where
 len : u.length = v.length
 f0 : ∀ i : Nat,(zaA u i).f0 = (zaA v i).f0
 f1 : ∀ i : Nat,(zaA u i).f1 = (zaA v i).f1
 f3 : ∀ i : Nat,(zaA u i).f3 = (zaA v i).f3
def eqF2 (u v : List S56) : Prop := ∀ i : Nat,zfF u i = true → (zaA u i).f2 = (zaA v i).f2
theorem Alike.sz {u v : List S56} (h : Alike u v) : sz u = sz v := funext fun i => by unfold Pr.sz;rw [h.f3]
theorem Alike.isT {u v : List S56} (h : Alike u v) : isT u = isT v := funext fun i => by unfold Pr.isT;rw [h.f0]
theorem Alike.live {u v : List S56} (h : Alike u v) : live u = live v := funext fun a => funext fun n => by
 have e : zfF u = zfF v := funext fun i => by unfold zfF;rw [h.isT,h.f1]
 unfold Pr.live
 rw [e]
 refine List.map_congr_left fun i _ => ?_
 rw [h.f1]
theorem Alike.par {u v : List S56} (h : Alike u v) : par u = par v := funext fun i => by
 have e : ∀ m,parG u i m = parG v i m := fun m => by
  induction m with
  | zero => rfl
  | succ m ih => unfold parG;rw [h.sz,ih]
 exact e i
theorem Alike.push {u v : List S56} (h : Alike u v) : push u = push v := funext fun P => funext fun x => by
 unfold Pr.push
 rw [h.isT,h.par]
theorem Alike.pk {u v : List S56} (h : Alike u v) : pk u = pk v := funext fun a => funext fun e => by unfold Pr.pk;rw [h.push,h.live]
theorem pk_live {t : List S56} {a e : Nat} {p : PT} (h : p ∈ pk t a e) : zfF t p.1 = true := by
 rcases zsS h with ⟨q,hq,e2⟩ | ⟨q,hq,_⟩
 ·unfold live at hq
  obtain ⟨i,hi,rfl⟩ := List.mem_map.1 hq
  rw [← e2]
  exact (List.mem_filter.1 hi).2
 cases hq
theorem Alike.nodes {u v : List S56} (h : Alike u v) (h2 : eqF2 u v) : nodes u (Pr.pk u 0 u.length) = nodes v (Pr.pk v 0 v.length) := by
 rw [← h.len,← h.pk]
 unfold Pr.nodes
 refine List.map_congr_left fun p hp => ?_
 have hl := pk_live hp
 unfold nd cn
 rw [h.f0,h2 p.1 hl,h.sz]
theorem zhI (t : List S56) (i : Nat) (h : t.length ≤ i) : zaA t (i : Int) = z56 := by
 unfold zaA
 rw [Int.toNat_natCast,List.getD_eq_getElem?_getD,List.getElem?_eq_none h]
 rfl
theorem zmP (t : List S56) (i : Nat) (h : i < t.length) : zaA (sqF t) (i : Int) = if (zaA t i).f0 = 46 then sqN t i (zaA t i) else zaA t i := by
 rw [ziB _ i (by rw [zfH];exact h),ziB t i h]
 simp only [sqF,List.getElem_mapIdx]
theorem zgS (t : List S56) : (outF t).length = t.length := by simp [outF]
theorem zrO (t : List S56) (i : Nat) (h : i < t.length) : zaA (outF t) (i : Int) = if (zaA t i).f0 = 46 then refN t i (zaA t i) else zaA t i := by
 rw [ziB _ i (by rw [zgS];exact h),ziB t i h]
 simp only [outF,List.getElem_mapIdx]
theorem yiX (t : List S56) : Alike (sqF t) (outF t) where
 len := by rw [zfH,zgS]
 f0 := fun i => by
  by_cases h : i < t.length
  ·rw [zmP t i h,zrO t i h];split <;> rfl
  rw [zhI _ i (by rw [zfH];omega),zhI _ i (by rw [zgS];omega)]
 f1 := fun i => by
  by_cases h : i < t.length
  ·rw [zmP t i h,zrO t i h];split <;> rfl
  rw [zhI _ i (by rw [zfH];omega),zhI _ i (by rw [zgS];omega)]
 f3 := fun i => by
  by_cases h : i < t.length
  ·rw [zmP t i h,zrO t i h];split <;> rfl
  rw [zhI _ i (by rw [zfH];omega),zhI _ i (by rw [zgS];omega)]
theorem sq_eqF2 (t : List S56) : eqF2 (sqF t) (outF t) := fun i hl => by
 by_cases h : i < t.length
 ·unfold zfF isT at hl
  rw [zmP t i h] at hl ⊢
  rw [zrO t i h]
  by_cases h46 : (zaA t i).f0 = 46
  ·rw [if_pos h46] at hl ⊢
   rw [if_pos h46]
   have hM : Mk t i ≠ [] := fun hM => by
    have e : (sqN t i (zaA t i)).f1.size = 0 := by
     show (strOfNums (byL (Mk t i))).size = 0
     rw [hM]
     rfl
    rw [e] at hl
    simp [sqN,h46] at hl
   show hdF2 (zaA t i).f2 _ (Lk t i) = hdF2 (zaA t i).f2 _ (Mk t i)
   unfold Mk at hM ⊢
   split at hM
   ·rename_i he
    rw [if_pos he]
    cases hL : Lk t i with
    | nil => rw [hL] at hM;exact absurd rfl hM
    | cons x L =>
    rw [hL] at hM
    cases L with
    | nil => exact absurd rfl hM
    | cons y L => rfl
   rename_i he
   rw [if_neg he]
  rw [if_neg h46,if_neg h46]
 rw [zhI _ i (by rw [zfH];omega),zhI _ i (by rw [zgS];omega)]
theorem Nst.alike {u v : List S56} (hN : Nst u) (hl : u.length = v.length) (h0 : ∀ i : Nat,(zaA u i).f0 = (zaA v i).f0) (h3 : ∀ i : Nat,(zaA u i).f3 = (zaA v i).f3) : Nst v := by
 have hsz : sz u = sz v := funext fun i => by unfold sz;rw [h3]
 have hT : isT u = isT v := funext fun i => by unfold isT;rw [h0]
 refine ⟨fun i hi => ?_,fun i hi => ?_,fun i j hi => ?_,fun i hi ht => ?_⟩
 ·rw [← h3];exact hN.pos i (by omega)
 ·rw [← hsz,← hl];exact hN.lim i (by omega)
 ·rw [← hsz];exact hN.nest i j (by omega)
 rw [← h3];exact hN.txt i (by omega) (by rw [hT];exact ht)
theorem ygD (t : List S56) (i : Nat) : (zaA t i).f0 = (zaA (sqF t) i).f0 := by
 by_cases h : i < t.length
 ·rw [zmP t i h];split <;> rfl
 rw [zhI t i (by omega),zhI _ i (by rw [zfH];omega)]
theorem ygE (t : List S56) (i : Nat) : (zaA t i).f3 = (zaA (sqF t) i).f3 := by
 by_cases h : i < t.length
 ·rw [zmP t i h];split <;> rfl
 rw [zhI t i (by omega),zhI _ i (by rw [zfH];omega)]
theorem sqF_nst {t : List S56} (h : Nst t) : Nst (sqF t) := h.alike (zfH t).symm (ygD t) (ygE t)
theorem zzS (t : List S56) (M : Nat) (hM : ∀ i,i < t.length → (zaA t i).f1.size ≤ M) : ∀ i,i < (sqF t).length → (zaA (sqF t) i).f1.size ≤ M := fun i hi => by
 rw [zfH] at hi
 have h1 := hM i hi
 have h2 := yfX t i
 rw [zmP t i hi]
 split
 ·show (strOfNums (byL (Mk t i))).size ≤ M
  rw [znG]
  simp only [byL,List.length_map]
  omega
 exact h1
def zlZ (t : List S56) : List S56 := nodes (sqF t) (pk (sqF t) 0 t.length)
end Go.Proofs.Ythcmfjpheanphaa.Pr
namespace Go.Proofs.Ythcmfjpheanphaa.Pr
open Go.RowKit Go.Proofs.Ythcmfjpheanphaa.Pure Go.Proofs.YthcmfjpheanphaaW.PrintWords
def topB : ByteArray := ⟨#[49,50,51,112,108,116,107]⟩
def esnB : ByteArray := ⟨#[101,115,110]⟩
def zuT (r : List S159) (c : Int) : Bool :=
 if c = 110 then (if ziY 99 r = 0 then (if 0 < lastP zfG r then ((zaC r (lastP zfG r)).f3 == 0) else false) else false) else true
def zuU (r : List S159) (c : Int) : Bool :=
 if (topR r).f0 = 114 then (if c = 99 then decide ((topR r).f1.size < 8) else false)
 else if zfQ r = true then (if inB c esnB = true then (if 0 < ziY c r then false else zuT r c) else false) else false
def zeZ (r : List S159) (c : Int) : Bool :=
 if r.length = 1 then inB c topB
 else if ((topR r).f0 = 105 ∧ c = 108) ∨ ((topR r).f0 = 108 ∧ c = 105) ∨ ((topR r).f0 = 116 ∧ c = 114) then true else zuU r c
theorem zsZ (r : List S159) (hr : r.length ≤ 800000) (h0 : 0 < r.length) (c : Int) (b : Bool) (k : Nat) (hk : 2000000 ≤ k) : zdI k r c b = some (if b = true then false else zuT r c) := by
 obtain ⟨k,rfl⟩ : ∃ q,k = q + 1 := ⟨k - 1,by omega⟩
 rw [zdI]
 cases b
 ·simp only [Bool.false_eq_true,if_false]
  unfold zuT
  by_cases h1 : c = 110
  ·have hl : stylusref04_last.f k r ⟨#[49,50,51,112,105]⟩ = some (lastP zfG r) := zuI zfG (by decide) r (by omega) h0 k (by omega)
   have hlt := zqH zfG r
   rw [if_pos h1,if_pos h1,hl,Option.bind_some,zzF _ r (by omega) h0 k (by omega),Option.bind_some]
   by_cases h2 : ziY 99 r = 0
   ·rw [if_pos (by omega),if_pos h2]
    show (if lastP zfG r > 0 then _ else _) = _
    by_cases h3 : 0 < lastP zfG r
    ·rw [if_pos h3,if_pos h3,if_pos (by omega),if_pos (by omega)]
    rw [if_neg h3,if_neg h3]
   rw [if_neg (by omega),if_neg h2]
  rw [if_neg h1,if_neg h1]
 rfl
theorem yiY (r : List S159) (hr : r.length ≤ 800000) (h0 : 0 < r.length) (ht : (topR r).f1.size ≤ 800000) (c : Int) (b : Bool) (k : Nat) (hk : 2500000 ≤ k) :
  zaH k r c b (topR r).f0 (topR r).f1 (topR r).f2 (topR r).f3 (topR r).f4 (topR r).f5 = some (if b = true then true else zuU r c) := by
 obtain ⟨k,rfl⟩ : ∃ q,k = q + 1 := ⟨k - 1,by omega⟩
 rw [zaH]
 cases b
 ·simp only [Bool.false_eq_true,if_false]
  unfold zuU
  by_cases h1 : (topR r).f0 = 114
  ·rw [if_pos h1,if_pos h1]
   by_cases h2 : c = 99
   ·rw [if_pos h2,if_pos h2]
    congr 1
    rw [Bool.eq_iff_iff]
    simp only [decide_eq_true_eq]
    omega
   rw [if_neg h2,if_neg h2]
  rw [if_neg h1,if_neg h1,zrK r (by omega) h0 (by omega) k (by omega),Option.bind_some]
  by_cases h2 : zfQ r = true
  ·have hin : stylusref04_in.f k c ⟨#[101,115,110]⟩ = some (inB c esnB) := in_f _ esnB (by decide) k (by show 3 + 1 ≤ k;omega)
   rw [if_pos h2,if_pos h2,hin,Option.bind_some]
   by_cases h3 : inB c esnB = true
   ·rw [if_pos h3,if_pos h3,zzF _ r (by omega) h0 k (by omega),Option.bind_some,zsZ r hr h0 c _ k (by omega)]
    by_cases h4 : 0 < ziY c r
    ·rw [if_pos (decide_eq_true (by omega)),if_pos h4]
    rw [if_neg (by simp;omega),if_neg h4]
   rw [if_neg h3,if_neg h3,zsZ r hr h0 c _ k (by omega),if_pos rfl]
  rw [if_neg h2,if_neg h2,zsZ r hr h0 c _ k (by omega),if_pos rfl]
 rfl
theorem opens_f (r : List S159) (hr : r.length ≤ 800000) (h0 : 0 < r.length) (ht : (topR r).f1.size ≤ 800000) (c : Int) (k : Nat) (hk : 2500000 ≤ k) : stylusref04_opens.f k r c = some (zeZ r c) := by
 unfold stylusref04_opens.f zeZ
 obtain ⟨n,hn⟩ : ∃ n,r.length = n + 1 := ⟨r.length - 1,by omega⟩
 have et : topR r = zaC r (n : Int) := by unfold topR;rw [hn,Nat.add_sub_cancel]
 have e1 : wrap64 ((r.length : Int) - 1) = (n : Int) := by rw [hn];exact zqF n (by omega)
 rw [e1,if_pos (by omega),if_pos (by omega),← et]
 have hj := fun b => yiY r hr h0 ht c b k hk
 by_cases h1 : r.length = 1
 ·have hin : stylusref04_in.f k c ⟨#[49,50,51,112,108,116,107]⟩ = some (inB c topB) := in_f _ topB (by decide) k (by show 7 + 1 ≤ k;omega)
  rw [if_pos (by omega),if_pos h1,hin,Option.bind_some]
 rw [if_neg (by omega),if_neg h1]
 simp only [hj,if_true,Bool.false_eq_true,if_false]
 by_cases a1 : (topR r).f0 = 105
 ·by_cases b1 : c = 108
  ·simp [a1,b1]
  simp [a1,b1]
 by_cases a2 : (topR r).f0 = 108
 ·by_cases b2 : c = 105
  ·simp [a2,b2]
  simp [a2,b2]
 by_cases a3 : (topR r).f0 = 116
 ·by_cases b3 : c = 114
  ·simp [a3,b3]
  simp [a3,b3]
 simp [a1,a2,a3]
end Go.Proofs.Ythcmfjpheanphaa.Pr
