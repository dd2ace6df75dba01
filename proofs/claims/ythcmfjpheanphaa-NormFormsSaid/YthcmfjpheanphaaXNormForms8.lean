/- Texts of this seat, one behind the other. -/
import Derived.Laws.AppendOwnNone
import Derived.Maps.RangeWalk
import Derived.Test.YthcmfjpheanphaaXNormForms7
set_option linter.unusedVariables false
set_option linter.unusedSimpArgs false
set_option maxHeartbeats 16000000
set_option maxRecDepth 100000
namespace Go.Proofs.Ythcmfjpheanphaa.Pr
open Go.RowKit Go.Proofs.YthcmfjpheanphaaW.PrintWords Go.Proofs.YthcmfjpheanphaaW.PrintLast Go.Proofs.YthcmfjpheanphaaW.PrintMore
attribute [local go_sem] zaX zaY zbG zbI zaV zaW zaZ zbA
def stringslite_TrimSuffix.f (a0 : ByteArray) (a1 : ByteArray) : Option (ByteArray) := (stringslite_HasSuffix.f a0 a1).bind fun t205 => (if t205 = true then (if 0 ≤ (wrap64 ((a0.size : Int) - (a1.size : Int))) then (if (wrap64 ((a0.size : Int) - (a1.size : Int))) ≤ (a0.size : Int) then (some (a0.extract 0 ((wrap64 ((a0.size : Int) - (a1.size : Int))) : Int).toNat)) else (none)) else (none)) else (some a0))
theorem stringslite_TrimSuffix.calls (a0 : ByteArray) (a1 : ByteArray) (r : ByteArray) (w : World) (h : stringslite_TrimSuffix.f a0 a1 = some r) :
  Calls Try.prog 165 #[.string a0,.string a1] w fun e w' => e = .returned (.string r) ∧ Drawn0 w w' := by
 have H : ((stringslite_HasSuffix.f a0 a1).bind fun t205 => (if t205 = true then (if 0 ≤ (wrap64 ((a0.size : Int) - (a1.size : Int))) then (if (wrap64 ((a0.size : Int) - (a1.size : Int))) ≤ (a0.size : Int) then (some (a0.extract 0 ((wrap64 ((a0.size : Int) - (a1.size : Int))) : Int).toNat)) else (none)) else (none)) else (some a0))) = some r := h
 clear h
 obtain ⟨t205,A3,H⟩ := bdA H
 replace H : (if t205 = true then (if 0 ≤ (wrap64 ((a0.size : Int) - (a1.size : Int))) then (if (wrap64 ((a0.size : Int) - (a1.size : Int))) ≤ (a0.size : Int) then (some (a0.extract 0 ((wrap64 ((a0.size : Int) - (a1.size : Int))) : Int).toNat)) else (none)) else (none)) else (some a0)) = some r := H
 by_cases c4 : t205 = true
 rotate_left
 ·replace c4 := Bool.eq_false_iff.mpr c4
  subst c4
  have H1 : (some a0) = some r := by rw [if_neg nft] at H;exact H
  clear H
  have H := H1
  clear H1
  obtain rfl := Option.some.inj H
  go_enter Try.func165,Try.ntmps165
  go_wp2_with (first | ((with_reducible refine zaE (f := 171) rfl ?_);refine zaL (some 7) rfl rfl Try.func171 (by kernel_rfl) rfl #[.string a0,.string a1] rfl qM ?_;(with_reducible refine (stringslite_HasSuffix.calls a0 a1 false _ A3.out).mono ?_);rintro e w' ⟨rfl,⟨nd,rfl⟩⟩;refine ⟨_,rfl,?_⟩))
  go_ret
  exact ⟨qS,qW⟩
 subst c4
 have H1 : (if 0 ≤ (wrap64 ((a0.size : Int) - (a1.size : Int))) then (if (wrap64 ((a0.size : Int) - (a1.size : Int))) ≤ (a0.size : Int) then (some (a0.extract 0 ((wrap64 ((a0.size : Int) - (a1.size : Int))) : Int).toNat)) else (none)) else (none)) = some r := by rw [if_pos rfl] at H;exact H
 clear H
 have H := H1
 clear H1
 obtain ⟨ji5,hji5⟩ : ∃ j_ : Int,(wrap64 ((a0.size : Int) - (a1.size : Int))) = j_ := ⟨_,rfl⟩
 replace H : (if 0 ≤ (ji5) then (if (ji5) ≤ (a0.size : Int) then (some (a0.extract 0 ((ji5) : Int).toNat)) else (none)) else (none)) = some r := by first | (rw [hji5] at H;exact H) | (simp only [hji5] at H ⊢;exact H)
 (try rw [hji5] at A3)
 have hji5w : (IntKind.i64.wrap ((a0.size : Int) - (a1.size : Int))) = ji5 := (zaO _).trans hji5
 obtain ⟨c6,H⟩ := spG H
 have c6b0 := eq_true c6
 have c6b1 : decide (0 ≤ (ji5)) = true := decide_eq_true c6
 clear c6
 obtain ⟨c7,H⟩ := spG H
 have c7b0 := eq_true c7
 have c7b1 : decide ((ji5) ≤ (a0.size : Int)) = true := decide_eq_true c7
 clear c7
 obtain rfl := Option.some.inj H
 go_enter Try.func165,Try.ntmps165
 go_wp2_with (first | ((with_reducible refine zaE (f := 171) rfl ?_);refine zaL (some 7) rfl rfl Try.func171 (by kernel_rfl) rfl #[.string a0,.string a1] rfl qM ?_;(with_reducible refine (stringslite_HasSuffix.calls a0 a1 true _ A3.out).mono ?_);rintro e w' ⟨rfl,⟨nd,rfl⟩⟩;refine ⟨_,rfl,?_⟩))
 go_ret
 exact ⟨by first | rfl | (simp;done) | (simp only [← hji5] <;> (first | rfl | simp)) | (simp [*];done),qW⟩
def strings_TrimSuffix.f (a0 : ByteArray) (a1 : ByteArray) : Option (ByteArray) := (stringslite_TrimSuffix.f a0 a1).bind fun t206 => (some t206)
theorem strings_TrimSuffix.calls (a0 : ByteArray) (a1 : ByteArray) (r : ByteArray) (w : World) (h : strings_TrimSuffix.f a0 a1 = some r) :
  Calls Try.prog 147 #[.string a0,.string a1] w fun e w' => e = .returned (.string r) ∧ Drawn0 w w' := by
 have H : ((stringslite_TrimSuffix.f a0 a1).bind fun t206 => (some t206)) = some r := h
 clear h
 replace H := Option.bind_eq_some_iff.mp H
 obtain ⟨t206,A30,H⟩ := H
 replace H : (some t206) = some r := H
 have A3 := Aside0.mk A30
 clear A30
 obtain rfl := Option.some.inj H
 go_enter Try.func147,Try.ntmps147
 go_wp2_with (first | ((with_reducible refine zaE (f := 165) rfl ?_);refine zaL (some 7) rfl rfl Try.func165 (by kernel_rfl) rfl #[.string a0,.string a1] rfl (by (try simp only [List.map_toArray,List.map_cons,List.map_nil]);first | done | rfl | (simp only [List.length_drop,List.length_take];rfl)) ?_;(with_reducible refine (stringslite_TrimSuffix.calls a0 a1 t206 _ A3.out).mono ?_);rintro e w' ⟨rfl,⟨nd,rfl⟩⟩;refine ⟨_,rfl,?_⟩))
 go_ret
 exact ⟨by first | rfl | (simp;done) | (simp [*];done),by repeat (first | exact Drawn0.refl _ | apply zfO)⟩
end Go.Proofs.Ythcmfjpheanphaa.Pr
namespace Go.Proofs.Ythcmfjpheanphaa.Pr
open Go.RowKit Go.Proofs.YthcmfjpheanphaaW.PrintWords
attribute [local go_sem] Oper.semAt_some
def eqN (x y : S56) : Bool := x.f0 == y.f0 && (x.f1.toList == y.f1.toList && x.f3 == y.f3)
def zfY : List S56 → List S56 → Bool
 | [],[] => true
 | x :: xs,y :: ys => eqN x y && zfY xs ys
 | _,_ => false
set_option pp.maxSteps 3000 in
theorem ybA (x y : S56) (w : World) : Calls Try.prog 98 #[.agg #[.int .u8 x.f0,.string x.f1,.int .i64 x.f2,.int .i64 x.f3],.agg #[.int .u8 y.f0,.string y.f1,.int .i64 y.f2,.int .i64 y.f3]] w fun e w' =>
  e = .returned (.bool (eqN x y)) ∧ Below w.heap.size w w' := by
 obtain ⟨f0,f1,f2,f3⟩ := x
 obtain ⟨g0,g1,g2,g3⟩ := y
 unfold eqN
 simp only
 have hb : Below w.heap.size w ((w.alloc (.cells #[.int .u8 f0,.string f1,.int .i64 f2,.int .i64 f3] 56)).alloc (.cells #[.int .u8 g0,.string g1,.int .i64 g2,.int .i64 g3] 56)) := ((Below.refl _ _).alloc (Nat.le_refl _) _).alloc (by simp) _
 have HB := Lib.hid hb
 clear hb
 cases h1 : (f0 == g0)
 ·go_enter Try.func98,Try.ntmps98
  go_wp2
  go_ret
  exact ⟨rfl,HB.out⟩
 cases h2 : (f1.toList == g1.toList)
 ·go_enter Try.func98,Try.ntmps98
  go_wp2
  go_ret
  exact ⟨rfl,HB.out⟩
 go_enter Try.func98,Try.ntmps98
 go_wp2
 go_ret
 exact ⟨rfl,HB.out⟩
theorem zqB : ∀ xs ys : List S56,zfY xs ys = true → xs.length = ys.length
 | [],[],_ => rfl
 | [],_ :: _,h => by simp [zfY] at h
 | _ :: _,[],h => by simp [zfY] at h
 | x :: xs,y :: ys,h => by
  simp only [zfY,Bool.and_eq_true] at h
  simp [zqB xs ys h.2]
theorem zwV (xs : List S56) (k : Nat) (h : k < xs.length) : xs.drop k = zaA xs k :: xs.drop (k + 1) := by
 rw [List.drop_eq_getElem_cons h]
 congr 1
 unfold zaA
 rw [Int.toNat_natCast,List.getD_eq_getElem?_getD,List.getElem?_eq_getElem h]
 rfl
set_option pp.maxSteps 3000 in
theorem ybB (A B : Option Addr) (c d : Nat) (xs ys : List S56) (w : World) (hx : xs.length ≤ 140737488351232) (hy : ys.length ≤ 140737488351232) (hA : Kd.C k56 w A xs.length xs) (hB : Kd.C k56 w B ys.length ys) :
  Calls Try.prog 97 #[.slice A xs.length c,.slice B ys.length d,.func (.func 98) #[] #[]] w fun e w' => e = .returned (.bool (zfY xs ys)) ∧ Below w.heap.size w w' := by
 have HA := Lib.hid hA
 have HB := Lib.hid hB
 clear hA hB
 by_cases hl : xs.length = ys.length
 ·have HL := Lib.hid hl
  obtain ⟨n,hn⟩ : ∃ n,xs.length = n := ⟨_,rfl⟩
  rw [← hl] at hy ⊢
  rw [hn] at hx hy ⊢
  have HN := Lib.hid hn
  clear hl hn
  obtain ⟨R,hR⟩ : ∃ R,zfY xs ys = R := ⟨_,rfl⟩
  rw [hR]
  have HR := Lib.hid hR
  clear hR
  go_enter Try.func97,Try.ntmps97
  go_wp2
  go_loopw [17] (fun v wr => ∃ k : Nat,k ≤ n ∧ v = .int .i64 k ∧ Below w.heap.size w wr ∧ zfY (xs.drop k) (ys.drop k) = R) (fun v _ => n - (intOf v).toNat)
  case atStart => exact ⟨0,Nat.zero_le _,rfl,Below.refl _ _,HR.out⟩
  case round =>
   obtain ⟨k,hk,rfl,hW,hs⟩ := hrel
   by_cases hlt : k < n
   ·have hlt1 : (k : Int) < (n : Int) := by omega
    rw [zwV xs k (by have := HN.out;omega),zwV ys k (by have := HN.out;have := HL.out;omega)] at hs
    have hs' : (eqN (zaA xs k) (zaA ys k) && zfY (xs.drop (k + 1)) (ys.drop (k + 1))) = R := hs
    obtain ⟨ad,e1,q0,q1,q2,q3⟩ := zeN (Kd.C_below HA.out hW) k (by omega) (by have := HN.out;omega)
    obtain ⟨ad2,e2,p0,p1,p2,p3⟩ := zeN (Kd.C_below HB.out hW) k (by omega) (by have := HN.out;have := HL.out;omega)
    subst e1
    subst e2
    simp only [Int.toNat_natCast] at q0 q1 q2 q3 p0 p1 p2 p3
    generalize zaA xs k = x at *
    generalize zaA ys k = y at *
    obtain ⟨f0,f1,f2,f3⟩ := x
    obtain ⟨g0,g1,g2,g3⟩ := y
    simp only at q0 q1 q2 q3 p0 p1 p2 p3
    have p0' := (((Below.refl _ wr).alloc (Nat.le_refl _) (.cells #[.int .u8 f0,.string f1,.int .i64 f2,.int .i64 f3] 56)).cell (World.block_lt_of_cell? wr _ p0)).trans p0
    have p1' := (((Below.refl _ wr).alloc (Nat.le_refl _) (.cells #[.int .u8 f0,.string f1,.int .i64 f2,.int .i64 f3] 56)).cell (World.block_lt_of_cell? wr _ p1)).trans p1
    have p2' := (((Below.refl _ wr).alloc (Nat.le_refl _) (.cells #[.int .u8 f0,.string f1,.int .i64 f2,.int .i64 f3] 56)).cell (World.block_lt_of_cell? wr _ p2)).trans p2
    have p3' := (((Below.refl _ wr).alloc (Nat.le_refl _) (.cells #[.int .u8 f0,.string f1,.int .i64 f2,.int .i64 f3] 56)).cell (World.block_lt_of_cell? wr _ p3)).trans p3
    have hc := fun W => ybA ⟨f0,f1,f2,f3⟩ ⟨g0,g1,g2,g3⟩ W
    obtain ⟨b,hb⟩ : ∃ b,eqN ⟨f0,f1,f2,f3⟩ ⟨g0,g1,g2,g3⟩ = b := ⟨_,rfl⟩
    rw [hb] at hs'
    simp only [hb] at hc
    have HS := Lib.hid hs'
    have HC := Lib.hid hc
    have hW2 := (hW.alloc hW.size (.cells #[.int .u8 f0,.string f1,.int .i64 f2,.int .i64 f3] 56)).alloc (by have := hW.size;simp;omega) (.cells #[.int .u8 g0,.string g1,.int .i64 g2,.int .i64 g3] 56)
    have HW2 := Lib.hid hW2
    clear hs hs' hc hb hW2
    cases b
    ·go_wp2_with (go_at_call 98;refine (HC.out _).mono ?_;rintro e w2 ⟨rfl,hb2⟩)
     go_ret
     exact ⟨by rw [← HS.out];rfl,HW2.out.trans (hb2.mono HW2.out.size)⟩
    ·go_wp2_with (go_at_call 98;refine (HC.out _).mono ?_;rintro e w2 ⟨rfl,hb2⟩)
     go_roundw
     case rel => exact ⟨k + 1,by omega,by go_num,HW2.out.trans (hb2.mono HW2.out.size),by rw [← HS.out];rfl⟩
     case measure => simp [intOf];omega
   ·obtain rfl : k = n := by omega
    have hlt1 : ¬ (k : Int) < (k : Int) := by omega
    have hR : R = true := by
     rw [← hs,List.drop_of_length_le (by have := HN.out;omega),List.drop_of_length_le (by have := HN.out;have := HL.out;omega)]
     rfl
    subst hR
    clear hs
    go_wp2
    go_ret
    exact ⟨rfl,hW⟩
 ·have hs : zfY xs ys = false := by
   cases h : zfY xs ys with
   | false => rfl
   | true => exact absurd (zqB _ _ h) hl
  rw [hs]
  have hne : ((xs.length : Int) != (ys.length : Int)) = true := bne_iff_ne.2 (fun h => hl (by omega))
  clear hs hl
  go_enter Try.func97,Try.ntmps97
  go_wp2
  go_ret
  exact ⟨rfl,Below.refl _ _⟩
theorem ydP (A B : Option Addr) (c d : Nat) (xs ys : List S56) (w : World) (hx : xs.length ≤ 140737488351232) (hy : ys.length ≤ 140737488351232) (hA : Kd.C k56 w A xs.length xs) (hB : Kd.C k56 w B ys.length ys) :
  Calls Try.prog 56 #[.slice A xs.length c,.slice B ys.length d] w fun e w' => e = .returned (.bool (zfY xs ys)) ∧ Below w.heap.size w w' := by
 have HC := Lib.hid (ybB A B c d xs ys w hx hy hA hB)
 clear hA hB
 go_enter Try.func56,Try.ntmps56
 go_wp2_with (go_at_call 97;refine HC.out.mono ?_;rintro e w2 ⟨rfl,hb2⟩)
 go_ret
 exact ⟨rfl,hb2⟩
end Go.Proofs.Ythcmfjpheanphaa.Pr
namespace Go.Proofs.Ythcmfjpheanphaa.Pr
open Go.RowKit Go.Maps Go.Proofs.YthcmfjpheanphaaW.PrintWords
attribute [local go_sem] Oper.semAt_some
theorem zsU {w : World} {base : Nat} {v : Value} {xs : List S56} (h : Kd.R k56 56 w base (fun _ => True) v xs) : w.ownsRow base 56 4 v xs.length (zaU xs) := by
 obtain ⟨_,inner,ho,hl,hr⟩ := h
 have : inner = zaU xs := by
  have go : ∀ (xs : List S56) (inner : List Value),inner.length = xs.length * 4 → (∀ j p,xs[j]? = some p → ((inner.drop (j * 4)).take 4) = [.int .u8 p.f0,.string p.f1,.int .i64 p.f2,.int .i64 p.f3]) → inner = zaU xs := by
   intro xs
   induction xs with
   | nil => intro inner h _;exact List.eq_nil_of_length_eq_zero (by simpa using h)
   | cons x xs ih =>
   intro inner h hr
   have h0 := hr 0 x rfl
   rw [Nat.zero_mul,List.drop_zero] at h0
   have h2 := ih (inner.drop 4) (by rw [List.length_drop,h];simp;omega) fun j p hp => by
    have := hr (j + 1) p (by simpa using hp)
    rw [Nat.succ_mul,Nat.add_comm,← List.drop_drop] at this
    exact this
   rw [← List.take_append_drop 4 inner,h0,h2]
   rfl
  exact go xs inner hl fun j p hp => zhS (hr j p hp)
 subst this
 exact ho
theorem znL (w : World) : (w.alloc (.cells #[] 56)).ownsRow w.heap.size 56 4 (.slice (some ⟨w.heap.size,0,none⟩) 0 0) 0 [] :=
 ⟨rfl,.inr ⟨w.heap.size,0,#[],rfl,Nat.le_refl _,heap_alloc_new w _,Nat.le_refl _,Nat.zero_le _,rfl,rfl⟩⟩
def kpB (s : ByteArray) : Nat → Nat → Int → List (Nat × Int)
 | 0,_,_ => []
 | d + 1,k,c => if k < s.size then (if zdA (bt s k) = true then (if c = 0 ∨ c = 32 then kpB s d (k + 1) c else (k,32) :: kpB s d (k + 1) 32) else (k,bt s k) :: kpB s d (k + 1) (bt s k)) else []
def sayL (c0 : Int) (L : List (Nat × Int)) : Int := match L.getLast? with | none => c0 | some x => x.2
def atL (a0 : Int) (i : Nat) (L : List (Nat × Int)) : Int := if L = [] then a0 else i
def zgL (t : List S56) (i : Nat) (out : List S56) : List (Nat × Int) → List S56
 | [] => out
 | x :: _ => out.modify i (atF (wrap64 ((zaA t i).f2 + x.1)))
def tx (b : ByteArray) (y : S56) : S56 := { y with f1 := b }
def byL (L : List (Nat × Int)) : List Int := L.map (·.2)
structure SqS where
 out : List S56
 F : Int → Option (Int × Int)
def upF {α : Type} (F : Int → Option α) (j : Int) (v : α) : Int → Option α := fun k => if k = j then some v else F k
def zgZ (O : List Int) (t : List S56) (i : Nat) (s : SqS) : SqS :=
 if (zaA t i).f0 = 46 then
  ⟨(zgL t i s.out (kpB (zaA t i).f1 (zaA t i).f1.size 0 ((s.F (rd O i)).getD (0,0)).1)).modify i (tx (strOfNums (byL (kpB (zaA t i).f1 (zaA t i).f1.size 0 ((s.F (rd O i)).getD (0,0)).1)))),
   upF s.F (rd O i) (sayL ((s.F (rd O i)).getD (0,0)).1 (kpB (zaA t i).f1 (zaA t i).f1.size 0 ((s.F (rd O i)).getD (0,0)).1),atL ((s.F (rd O i)).getD (0,0)).2 i (kpB (zaA t i).f1 (zaA t i).f1.size 0 ((s.F (rd O i)).getD (0,0)).1))⟩
 else s
def ziX (O : List Int) (t : List S56) : Nat → Nat → SqS → SqS
 | 0,_,s => s
 | d + 1,i,s => ziX O t d (i + 1) (zgZ O t i s)
def zkU (s : ByteArray) : ByteArray := if 1 ≤ s.size then (if ((s.extract (s.size - 1) s.size).toList == (⟨#[32]⟩ : ByteArray).toList) = true then s.extract 0 (s.size - 1) else s) else s
def zeY (O : List Int) (F : Int → Option (Int × Int)) (left : Int → Bool) (out : List S56) : List S56 :=
 out.mapIdx fun i y => if (F (rd O i) = some (32,(i : Int)) ∧ left (rd O i) = false) then tx (zkU y.f1) y else y
def sq0 (t : List S56) : SqS := ⟨t,fun _ => none⟩
def zkK (O : List Int) (t : List S56) : List S56 := zeY O (ziX O t t.length 0 (sq0 t)).F (fun _ => false) (ziX O t t.length 0 (sq0 t)).out
def zfS (p : Option Nat) : DataW Unit := .lit (.int .i64 (match p with | none => -1 | some b => (b : Int)))
def zgM (v : Value) : Option (DataW Unit × List MemPlace) :=
 match v with
 | .pointer none => some (zfS none,[])
 | .pointer (some ⟨b,0,none⟩) => some (zfS (some b),[])
 | _ => none
def ptrP (p : Option Nat) : Value := .pointer (p.map fun b => ⟨b,0,none⟩)
theorem zzB (p : Option Nat) : zgM (ptrP p) = some (zfS p,[]) := by cases p <;> rfl
theorem zqC {p q : Option Nat} (h : zfS p = zfS q) : p = q := by
 unfold zfS at h
 simp only [DataW.lit.injEq,Lit.int.injEq,true_and] at h
 cases p <;> cases q <;> simp at h ⊢ <;> omega
theorem zwW {v : Value} {y : DataW Unit × List MemPlace} (h : zgM v = some y) : ∃ p,v = ptrP p ∧ y = (zfS p,[]) := by
 unfold zgM at h
 split at h
 ·exact ⟨none,rfl,(Option.some.inj h).symm⟩
 ·exact ⟨some _,rfl,(Option.some.inj h).symm⟩
 cases h
def kLit (j : Int) : Lit := .int .i64 j
theorem key3 : Keyed Try.prog 3 := int_keyed Try.underlying3
theorem yfP (j : Int) (h : (Lit.int .i64 j).wf = true) : keyOf Try.prog 3 (.int .i64 j) = some (kLit j) := keyOf_int_mk Try.underlying3 h
structure FAt (W : World) (B0 bm m : Nat) (F : Int → Option (Int × Int)) (P : Int → Option Nat) : Prop where
 map : ∃ D,W.ownsMap Try.prog 3 zgM bm m D ∧ (∀ j,D.atKey (kLit j) (zfS none) = zfS (P j)) ∧ ∀ j,Maps.has D (kLit j) = true → P j ≠ none
 none_ : ∀ j,P j = none → F j = none
 flow : ∀ j b,P j = some b → ∃ c a,F j = some (c,a) ∧ W.heap[b]? = some (.cells #[.int .u8 c,.int .i64 a] 177 (0,0))
 inj : ∀ j j' b,P j = some b → P j' = some b → j = j'
 lo : ∀ j b,P j = some b → B0 ≤ b
theorem znM {W : World} {b n : Nat} {D : DataW Unit} (h : W.ownsMap Try.prog 3 zgM b n D) : ∃ es clock,W.heap[b]? = some (.map es clock) := by
 obtain ⟨es,clock,hb,_⟩ := h
 exact ⟨es,clock,hb⟩
theorem zuE {X : Nat → Prop} {W W' : World} (hf : Fr X W W') {b n : Nat} {D : DataW Unit} (h : W.ownsMap Try.prog 3 zgM b n D) (hx : ¬ X b) : W'.ownsMap Try.prog 3 zgM b n D := by
 obtain ⟨es,clock,hb,h2⟩ := h
 exact ⟨es,clock,hf.keep hb hx,h2⟩
theorem FAt.fr {X : Nat → Prop} {W W' : World} {B0 bm m : Nat} {F : Int → Option (Int × Int)} {P : Int → Option Nat} (h : FAt W B0 bm m F P) (hf : Fr X W W') (hm : ¬ X bm) (hp : ∀ j b,P j = some b → ¬ X b) : FAt W' B0 bm m F P := by
 obtain ⟨D,h1,h2,h3⟩ := h.map
 refine ⟨⟨D,zuE hf h1 hm,h2,h3⟩,h.none_,fun j b hj => ?_,h.inj,h.lo⟩
 obtain ⟨c,a,g1,g2⟩ := h.flow j b hj
 exact ⟨c,a,g1,hf.keep g2 (hp j b hj)⟩
theorem FAt.below {W W' : World} {B0 bm m : Nat} {F : Int → Option (Int × Int)} {P : Int → Option Nat} (h : FAt W B0 bm m F P) (hb : Below W.heap.size W W') : FAt W' B0 bm m F P := h.fr (Fr.below (X := fun _ => False) hb) (fun h => h) (fun _ _ _ h => h)
theorem FAt.turn {X : Nat → Prop} {W W' : World} {B0 bm m gf : Nat} {F : Int → Option (Int × Int)} {P : Int → Option Nat} {j c a : Int} (h : FAt W B0 bm m F P) (hf : Fr X W W') (hj : P j = some gf) (hm : ¬ X bm) (hp : ∀ k b,P k = some b → b ≠ gf → ¬ X b)
  (hg : W'.heap[gf]? = some (.cells #[.int .u8 c,.int .i64 a] 177 (0,0))) : FAt W' B0 bm m (upF F j (c,a)) P := by
 obtain ⟨D,h1,h2,h3⟩ := h.map
 refine ⟨⟨D,zuE hf h1 hm,h2,h3⟩,fun k hk => ?_,fun k b hk => ?_,h.inj,h.lo⟩
 ·unfold upF
  by_cases e : k = j
  ·subst e;rw [hj] at hk;cases hk
  rw [if_neg e];exact h.none_ k hk
 unfold upF
 by_cases e : k = j
 ·subst e
  rw [hj] at hk
  obtain rfl := Option.some.inj hk
  rw [if_pos rfl]
  exact ⟨c,a,rfl,hg⟩
 rw [if_neg e]
 obtain ⟨c',a',g1,g2⟩ := h.flow k b hk
 refine ⟨c',a',g1,hf.keep g2 (hp k b hk fun e2 => ?_)⟩
 subst e2
 exact e (h.inj k j b hk hj)
theorem FAt.more {W W1 : World} {B0 bm m gf : Nat} {F : Int → Option (Int × Int)} {P : Int → Option Nat} {D : DataW Unit} {j : Int} (h : FAt W B0 bm m F P) (hj : P j = none) (hD : W.ownsMap Try.prog 3 zgM bm m D) (hat : ∀ j,D.atKey (kLit j) (zfS none) = zfS (P j)) (hhas : ∀ j,Maps.has D (kLit j) = true → P j ≠ none)
  (ho : W1.ownsMap Try.prog 3 zgM bm (m + 1) (D.put (kLit j) (zfS (some gf)))) (hf : Fr (fun k => k = bm) W W1) (hnew : ∀ k b,P k = some b → b ≠ gf) (hlo : B0 ≤ gf)
  (hg : W1.heap[gf]? = some (.cells #[.int .u8 0,.int .i64 0] 177 (0,0))) : FAt W1 B0 bm (m + 1) (upF F j (0,0)) (upF P j gf) := by
 obtain ⟨es,clock,hmo⟩ := znM hD
 refine ⟨⟨_,ho,fun k => ?_,fun k hk => ?_⟩,fun k hk => ?_,fun k b hk => ?_,fun k k' b hk hk' => ?_,fun k b hk => ?_⟩
 ·unfold upF
  by_cases e : k = j
  ·subst e
   rw [if_pos rfl]
   exact Maps.atKey_put_same hD.isMap (by simp [kLit,WideAt.IsKeyLit]) _ _
  rw [if_neg e]
  rw [Maps.atKey_put_other (by intro e';apply e;simpa [kLit] using e')]
  exact hat k
 ·unfold upF
  by_cases e : k = j
  ·rw [if_pos e];exact fun h => by cases h
  rw [if_neg e]
  rw [Maps.has_put_other (by intro e';apply e;simpa [kLit] using e')] at hk
  exact hhas k hk
 ·unfold upF at hk ⊢
  by_cases e : k = j
  ·rw [if_pos e] at hk;cases hk
  rw [if_neg e] at hk ⊢
  exact h.none_ k hk
 ·unfold upF at hk ⊢
  by_cases e : k = j
  ·rw [if_pos e] at hk ⊢
   obtain rfl := Option.some.inj hk
   exact ⟨0,0,rfl,hg⟩
  rw [if_neg e] at hk ⊢
  obtain ⟨c',a',g1,g2⟩ := h.flow k b hk
  exact ⟨c',a',g1,hf.keep g2 fun e2 => by subst e2;rw [hmo] at g2;cases g2⟩
 ·unfold upF at hk hk'
  by_cases e : k = j <;> by_cases e' : k' = j
  ·rw [e,e']
  ·rw [if_pos e] at hk
   rw [if_neg e'] at hk'
   obtain rfl := Option.some.inj hk
   exact absurd rfl (hnew k' _ hk')
  ·rw [if_neg e] at hk
   rw [if_pos e'] at hk'
   obtain rfl := Option.some.inj hk'
   exact absurd rfl (hnew k _ hk)
  rw [if_neg e] at hk
  rw [if_neg e'] at hk'
  exact h.inj k k' b hk hk'
 unfold upF at hk
 by_cases e : k = j
 ·rw [if_pos e] at hk
  obtain rfl := Option.some.inj hk
  exact hlo
 rw [if_neg e] at hk
 exact h.lo k b hk
structure SAt (W : World) (B0 b1 b3 bm m : Nat) (A0 : Option Addr) (n c0 : Nat) (vin : Value) (O : List Int) (vo : Value) (s : SqS) (P : Int → Option Nat) : Prop where
 x1 : W.heap[b1]? = some (.cells #[.slice A0 n c0] 50 (0,0))
 x3 : W.heap[b3]? = some (.cells #[vo] 50 (0,0))
 own : W.ownsRow B0 3 1 vin O.length (nums .i64 O)
 out : W.ownsRow B0 56 4 vo s.out.length (zaU s.out)
 fl : FAt W B0 bm m s.F P
 l3 : B0 ≤ b3
 lm : B0 ≤ bm
theorem SAt.below {W W' : World} {B0 b1 b3 bm m : Nat} {A0 : Option Addr} {n c0 : Nat} {vin : Value} {O : List Int} {vo : Value} {s : SqS} {P : Int → Option Nat} (h : SAt W B0 b1 b3 bm m A0 n c0 vin O vo s P) (hb : Below W.heap.size W W') : SAt W' B0 b1 b3 bm m A0 n c0 vin O vo s P :=
 ⟨zaG h.x1 hb,zaG h.x3 hb,zcI h.own hb,zcI h.out hb,h.fl.below hb,h.l3,h.lm⟩
theorem zero173 (w : World) : (zeroValue 173).run Try.prog w = .ok (.pointer none) w := by kernel_rfl
theorem zlL (w : World) {ops : Array Oper} {rest : List Oper} {o : Oper} {a : Act} {Q : Exit → Act → World → Prop}
  (hg : o.guard = none) (mm x : Operand) (hop : o.op = Op.lookup 171 mm x false) (B0 b n : Nat) (F : Int → Option (Int × Int)) (P : Int → Option Nat)
  (hm : a.eval mm = .map (some b)) (hf : FAt w B0 b n F P) (j : Int) (hx : a.eval x = .int .i64 j) (hwf : (Lit.int .i64 j).wf = true)
  (hK : wpList Try.prog ops Q rest (a.put o.dst (ptrP (P j))) w) : wpList Try.prog ops Q (o :: rest) a w := by
 refine wpList_plain hg fun K' hK' => ?_
 obtain ⟨D,hown,hat,_⟩ := hf.map
 obtain ⟨v,ps,hrun,hv⟩ := hown.lookup key3 Try.underlying171 (z := .pointer none) (zd := zfS none) (zp := []) (zero173 w) rfl (yfP j hwf)
 obtain ⟨p,rfl,hy⟩ := zwW hv
 have hp : p = P j := by
  refine zqC ?_
  have h0 : D.atKey (kLit j) (zfS none) = zfS p := congrArg Prod.fst hy
  rw [← h0]
  exact hat j
 subst hp
 unfold Oper.wp
 simp [execOp,hop,hm,hx,hrun,Result.andThen]
 exact hK' _ _ hK
theorem trim_f (s : ByteArray) (h : s.size ≤ 100000000) : strings_TrimSuffix.f s ⟨#[32]⟩ = some (zkU s) := by
 unfold strings_TrimSuffix.f stringslite_TrimSuffix.f stringslite_HasSuffix.f zkU
 have h1 : (⟨#[32]⟩ : ByteArray).size = 1 := rfl
 rw [h1]
 by_cases hs : 1 ≤ s.size
 ·have e : wrap64 ((s.size : Int) - ((1 : Nat) : Int)) = ((s.size - 1 : Nat) : Int) := by
   rw [show (s.size : Int) - ((1 : Nat) : Int) = ((s.size - 1 : Nat) : Int) from by omega]
   exact IntWalk.wrap64_in _ ⟨by omega,by omega⟩
  rw [if_pos (by omega),if_pos hs,e,if_pos (by omega),if_pos (by omega),Int.toNat_natCast,Option.bind_some]
  by_cases ht : ((s.extract (s.size - 1) s.size).toList == (⟨#[32]⟩ : ByteArray).toList) = true
  ·rw [if_pos ht,if_pos ht,if_pos (by omega),if_pos (by omega)]
   rfl
  rw [if_neg ht,if_neg ht]
  rfl
 rw [if_neg (by omega),if_neg hs]
 rfl
def zuF (O : List Int) (n : Nat) (F : Int → Option (Int × Int)) : Prop := ∀ j c a,F j = some (c,a) → c = 0 ∨ ∃ i : Nat,a = i ∧ i < n ∧ rd O i = j
theorem ybC {O : List Int} {t : List S56} {n i : Nat} {s : SqS} (h : zuF O n s.F) (hi : i < n) : zuF O n (zgZ O t i s).F := by
 unfold zgZ
 by_cases h46 : (zaA t i).f0 = 46
 ·rw [if_pos h46]
  intro j c a hj
  have hj' : upF s.F (rd O i) (sayL ((s.F (rd O i)).getD (0,0)).1 (kpB (zaA t i).f1 (zaA t i).f1.size 0 ((s.F (rd O i)).getD (0,0)).1),atL ((s.F (rd O i)).getD (0,0)).2 i (kpB (zaA t i).f1 (zaA t i).f1.size 0 ((s.F (rd O i)).getD (0,0)).1)) j = some (c,a) := hj
  clear hj
  generalize kpB (zaA t i).f1 (zaA t i).f1.size 0 ((s.F (rd O i)).getD (0,0)).1 = L at hj'
  unfold upF at hj'
  by_cases e : j = rd O i
  ·rw [if_pos e] at hj'
   have h1 := Prod.mk.inj (Option.some.inj hj')
   cases L with
   | nil =>
    cases hF : s.F (rd O i) with
    | none => rw [hF] at h1;exact .inl h1.1.symm
    | some q =>
    rw [hF] at h1
    obtain ⟨c',a'⟩ := q
    obtain ⟨rfl,rfl⟩ := h1
    rw [e]
    exact h _ _ _ hF
   | cons x L =>
   right
   refine ⟨i,?_,hi,e.symm⟩
   rw [← h1.2]
   unfold atL
   rw [if_neg (by simp)]
  rw [if_neg e] at hj'
  exact h j c a hj'
 rw [if_neg h46]
 exact h
theorem zuG {O : List Int} {t : List S56} {n : Nat} : ∀ (d i : Nat) (s : SqS),zuF O n s.F → d + i ≤ n → zuF O n (ziX O t d i s).F
 | 0,i,s,h,hd => h
 | d + 1,i,s,h,hd => zuG d (i + 1) _ (ybC h (by omega)) (by omega)
theorem znD (O : List Int) (F : Int → Option (Int × Int)) (left : Int → Bool) (out : List S56) : (zeY O F left out).length = out.length := by simp [zeY]
theorem zfT (O : List Int) (F : Int → Option (Int × Int)) (left : Int → Bool) (out : List S56) (i : Nat) : (zeY O F left out)[i]? = (out[i]?).map fun y => if (F (rd O i) = some (32,(i : Int)) ∧ left (rd O i) = false) then tx (zkU y.f1) y else y := by
 unfold zeY
 rw [List.getElem?_mapIdx]
theorem ybD (O : List Int) (F : Int → Option (Int × Int)) (left : Int → Bool) (out : List S56) (h : ∀ i : Nat,F (rd O i) = some (32,(i : Int)) → left (rd O i) = true) : zeY O F left out = out := by
 refine List.ext_getElem? fun i => ?_
 rw [zfT]
 cases out[i]? with
 | none => rfl
 | some y =>
 rw [Option.map_some,if_neg]
 rintro ⟨h1,h2⟩
 rw [h i h1] at h2
 cases h2
theorem ydQ (O : List Int) (F : Int → Option (Int × Int)) (left left' : Int → Bool) (out : List S56) (j0 : Int) (hl : ∀ j,j ≠ j0 → left' j = left j) (h : ∀ a,F j0 ≠ some (32,a)) : zeY O F left' out = zeY O F left out := by
 refine List.ext_getElem? fun i => ?_
 rw [zfT,zfT]
 congr 1
 funext y
 by_cases e : rd O i = j0
 ·rw [if_neg (fun x => h _ (e ▸ x.1)),if_neg (fun x => h _ (e ▸ x.1))]
 rw [hl _ e]
theorem ydR (O : List Int) (F : Int → Option (Int × Int)) (left left' : Int → Bool) (out : List S56) (j0 : Int) (ia : Nat) (hl : ∀ j,j ≠ j0 → left' j = left j) (h0 : left j0 = true) (h1 : left' j0 = false) (hF : F j0 = some (32,(ia : Int))) (hia : ia < out.length) (hr : rd O ia = j0) :
  zeY O F left' out = (zeY O F left out).modify ia (tx (zkU (out.getD ia z56).f1)) ∧ (zeY O F left out).getD ia z56 = out.getD ia z56 := by
 have hat : (zeY O F left out)[ia]? = out[ia]? := by
  rw [zfT,List.getElem?_eq_getElem hia,Option.map_some,if_neg]
  rintro ⟨_,h⟩
  rw [hr,h0] at h
  cases h
 refine ⟨List.ext_getElem? fun i => ?_,by rw [List.getD_eq_getElem?_getD,hat,← List.getD_eq_getElem?_getD]⟩
 rw [List.getElem?_modify]
 by_cases e : i = ia
 ·subst e
  rw [hat,zfT,List.getElem?_eq_getElem hia,Option.map_some,if_pos ⟨by rw [hr];exact hF,by rw [hr];exact h1⟩,List.getD_eq_getElem?_getD,List.getElem?_eq_getElem hia]
  simp
 rw [zfT,zfT]
 cases out[i]? with
 | none => simp
 | some y =>
 simp only [Option.map_some,Option.map_eq_map,if_neg (Ne.symm e)]
 congr 1
 by_cases er : rd O i = j0
 ·have hne : ¬ F (rd O i) = some (32,(i : Int)) := fun h => by
   rw [er,hF] at h
   have := (Prod.mk.inj (Option.some.inj h)).2
   omega
  rw [if_neg (fun h => hne h.1),if_neg (fun h => hne h.1)]
 rw [hl _ er]
theorem zoC (s : ByteArray) : ∀ (d k : Nat) (c : Int),(kpB s d k c).length ≤ d
 | 0,k,c => Nat.le_refl _
 | d + 1,k,c => by
  rw [kpB]
  have h1 := zoC s d (k + 1) c
  have h2 := zoC s d (k + 1) 32
  have h3 := zoC s d (k + 1) (bt s k)
  split
  ·split
   ·split
    ·omega
    rw [List.length_cons];omega
   rw [List.length_cons];omega
  exact Nat.zero_le _
def zkV (M : Nat) (l : List S56) : Prop := ∀ x ∈ l,x.f1.size ≤ M
theorem zwX {M : Nat} {l : List S56} (h : zkV M l) (i : Nat) (f : S56 → S56) (hf : ∀ x,x.f1.size ≤ M → (f x).f1.size ≤ M) : zkV M (l.modify i f) := by
 intro x hx
 obtain ⟨y,hy,rfl | rfl⟩ := zlO hx
 ·exact h _ hy
 exact hf y (h y hy)
theorem zyB {O : List Int} {t : List S56} {M i : Nat} {s : SqS} (h : zkV M s.out) (ht : zkV M t) : zkV M (zgZ O t i s).out := by
 unfold zgZ
 by_cases h46 : (zaA t i).f0 = 46
 ·rw [if_pos h46]
  have hL := zoC (zaA t i).f1 (zaA t i).f1.size 0 ((s.F (rd O i)).getD (0,0)).1
  have hx : (zaA t i).f1.size ≤ M := by
   unfold zaA
   rw [List.getD_eq_getElem?_getD]
   by_cases hi : (i : Int).toNat < t.length
   ·rw [List.getElem?_eq_getElem hi];exact ht _ (List.getElem_mem hi)
   rw [List.getElem?_eq_none (by omega)];exact Nat.zero_le _
  show zkV M ((zgL t i s.out (kpB (zaA t i).f1 (zaA t i).f1.size 0 ((s.F (rd O i)).getD (0,0)).1)).modify i (tx (strOfNums (byL (kpB (zaA t i).f1 (zaA t i).f1.size 0 ((s.F (rd O i)).getD (0,0)).1)))))
  generalize kpB (zaA t i).f1 (zaA t i).f1.size 0 ((s.F (rd O i)).getD (0,0)).1 = L at hL ⊢
  refine zwX ?_ i _ fun x _ => ?_
  ·cases L with
   | nil => exact h
   | cons y L => exact zwX h i _ fun x hx => hx
  show (strOfNums (byL L)).size ≤ M
  have : (strOfNums (byL L)).size = L.length := by simp [strOfNums,byL,ByteArray.size]
  omega
 rw [if_neg h46]
 exact h
theorem zqD {O : List Int} {t : List S56} {M : Nat} (ht : zkV M t) : ∀ (d i : Nat) (s : SqS),zkV M s.out → zkV M (ziX O t d i s).out
 | 0,i,s,h => h
 | d + 1,i,s,h => zqD ht d (i + 1) _ (zyB h ht)
theorem yfQ {w : World} {base e : Nat} {v : Value} {xs : List Int} (h : Kd.R (Kd.int .i64) e w base (fun _ => True) v xs) : w.ownsRow base e 1 v xs.length (nums .i64 xs) := by
 obtain ⟨_,inner,ho,hl,hr⟩ := h
 have hl' : inner.length = xs.length := by rw [hl];exact Nat.mul_one _
 have : inner = nums .i64 xs := by
  refine List.ext_getElem? fun j => ?_
  unfold nums
  rw [List.getElem?_map]
  cases hx : xs[j]? with
  | none => rw [List.getElem?_eq_none_iff] at hx;rw [List.getElem?_eq_none (by omega)];rfl
  | some p =>
  have h1 : (inner.drop (j * 1)).take 1 = [.int .i64 p] := hr j p hx
  rw [Nat.mul_one] at h1
  have := congrArg (fun l : List Value => l[0]?) h1
  simp only [List.getElem?_take,List.getElem?_drop] at this
  simpa using this
 subst this
 exact ho
theorem ybE (c a : Int) (w : World) : Calls Try.prog 146 #[.agg #[.int .u8 c,.int .i64 a]] w fun e w' => e = .returned (.bool (c == 0 || c == 32)) ∧ Below w.heap.size w w' := by
 have hb : Below w.heap.size w (w.alloc (.cells #[.int .u8 c,.int .i64 a] 175)) := (Below.refl _ w).alloc (Nat.le_refl _) _
 have HB := Lib.hid hb
 clear hb
 cases h1 : (c == 0)
 ·go_enter Try.func146,Try.ntmps146
  go_wp2
  go_ret
  exact ⟨rfl,HB.out⟩
 go_enter Try.func146,Try.ntmps146
 go_wp2
 go_ret
 exact ⟨rfl,HB.out⟩
structure TAt (W : World) (B0 b3 : Nat) (vo : Value) (out : List S56) (F : Int → Option (Int × Int)) (P : Int → Option Nat) : Prop where
 x3 : W.heap[b3]? = some (.cells #[vo] 50 (0,0))
 out : W.ownsRow B0 56 4 vo out.length (zaU out)
 fl : ∀ j b,P j = some b → ∃ c a,F j = some (c,a) ∧ W.heap[b]? = some (.cells #[.int .u8 c,.int .i64 a] 177 (0,0))
theorem TAt.fr {X : Nat → Prop} {W W' : World} {B0 b3 : Nat} {vo : Value} {out : List S56} {F : Int → Option (Int × Int)} {P : Int → Option Nat} (h : TAt W B0 b3 vo out F P) (hf : Fr X W W') (hx : ∀ (g : Nat) (cs : Array Value) (t : TypeId),W.heap[g]? = some (.cells cs t (0,0)) → ¬ X g) : TAt W' B0 b3 vo out F P := by
 refine ⟨hf.keep h.x3 (hx _ _ _ h.x3),hf.own h.out fun g hg => ?_,fun j b hb => ?_⟩
 ·obtain ⟨cs,hcs⟩ := zcO h.out g hg
  exact hx _ _ _ hcs
 obtain ⟨c,a,h1,h2⟩ := h.fl j b hb
 exact ⟨c,a,h1,hf.keep h2 (hx _ _ _ h2)⟩
theorem TAt.trim {W : World} {B0 b3 go co N ia : Nat} {out : List S56} {F : Int → Option (Int × Int)} {P : Int → Option Nat} {u : ByteArray} (h : TAt W B0 b3 (.slice (some ⟨go,0,none⟩) N co) out F P) (hN : out.length = N) (hi : ia < N) :
  TAt (W.setCell ⟨go,ia * 4 + 1,none⟩ (.string u)) B0 b3 (.slice (some ⟨go,0,none⟩) N co) (out.modify ia (tx u)) F P ∧ Below B0 W (W.setCell ⟨go,ia * 4 + 1,none⟩ (.string u)) ∧ W.grownBy (W.setCell ⟨go,ia * 4 + 1,none⟩ (.string u)) (some go) := by
 subst hN
 obtain ⟨cs,hcs⟩ := zcO h.out go rfl
 have hb0 := zcZ h.out go rfl
 have far : ∀ {g : Nat} {cs' : Array Value} {t : TypeId},W.heap[g]? = some (.cells cs' t (0,0)) → t ≠ 56 → (W.setCell ⟨go,ia * 4 + 1,none⟩ (.string u)).heap[g]? = some (.cells cs' t (0,0)) := fun hgb hne => zeV hgb (p := ⟨go,ia * 4 + 1,none⟩) (zhG hgb hcs hne) _
 have ho := (h.out.stored (ia * 4 + 1) (.string u))
 have ho1 := ho.1
 rw [zlE (tx u) 1 (by omega) (.string u) out ia hi rfl] at ho1
 refine ⟨⟨far h.x3 (by decide),?_,fun j b hb => ?_⟩,(Below.refl B0 W).setCell hb0 _,ho.2⟩
 ·rw [List.length_modify]
  exact ho1
 obtain ⟨c,a,h1,h2⟩ := h.fl j b hb
 exact ⟨c,a,h1,far h2 (by decide)⟩
theorem zsF (j x : Int) : (kLit j).sameKey (kLit x) = decide (j = x) := by
 unfold kLit Lit.sameKey
 simp
theorem own_low {W : World} {B B' e z n : Nat} {v : Value} {xs : List Value} (h : W.ownsRow B e z v n xs) (hb : B' ≤ B) : W.ownsRow B' e z v n xs := by
 rcases h with ⟨h1,h2 | ⟨g,cap,cur,h2,h3,h4⟩⟩
 ·exact ⟨h1,.inl h2⟩
 exact ⟨h1,.inr ⟨g,cap,cur,h2,Nat.le_trans hb h3,h4⟩⟩
theorem yiI {w w2 w5 : World} {t : List S56} {A0 Ao : Option Addr} {c0 co : Nat} {vin : Value} {O : List Int} (hx1 : w2.heap[w.heap.size]? = some (.cells #[.slice A0 t.length c0] 50 (0,0))) (hb2 : Below w.heap.size w w2)
  (ho : w2.ownsRow w.heap.size 56 4 (.slice Ao t.length co) t.length (zaU t)) (hb5 : Below ((w2.alloc (.cells #[.slice Ao t.length co] 50)).alloc (.map #[] 0)).heap.size ((w2.alloc (.cells #[.slice Ao t.length co] 50)).alloc (.map #[] 0)) w5)
  (hin : Kd.R (Kd.int .i64) 3 w5 ((w2.alloc (.cells #[.slice Ao t.length co] 50)).alloc (.map #[] 0)).heap.size (fun _ => True) vin O) :
  SAt w5 w.heap.size w.heap.size w2.heap.size (w2.heap.size + 1) 0 A0 t.length c0 vin O (.slice Ao t.length co) (sq0 t) (fun _ => none) ∧ Below w.heap.size w w5 := by
 have hs2 := hb2.size
 have hB3 : Below w.heap.size w (w2.alloc (.cells #[.slice Ao t.length co] 50)) := hb2.alloc hs2 _
 have hB4 : Below w.heap.size w ((w2.alloc (.cells #[.slice Ao t.length co] 50)).alloc (.map #[] 0)) := hB3.alloc hB3.size _
 have hB5 : Below w.heap.size w w5 := hB4.trans (hb5.mono hB4.size)
 have hmade := World.ownsMap_made (w2.alloc (.cells #[.slice Ao t.length co] 50)) Try.prog 3 zgM
 rw [World.size_alloc] at hmade
 refine ⟨⟨zaG (zcE (zcE hx1 _) _) hb5,zaG (zcE (zbW w2 _) _) hb5,own_low (yfQ hin) hB4.size,zcI (zgG (zgG ho _) _) hb5,?_,by omega,by omega⟩,hB5⟩
 refine FAt.below (W := (w2.alloc (.cells #[.slice Ao t.length co] 50)).alloc (.map #[] 0)) ⟨⟨_,hmade,fun j => ?_,fun j h => (by cases h)⟩,fun _ _ => rfl,fun j b h => (by cases h),fun j j' b h => (by cases h),fun j b h => (by cases h)⟩ hb5
 rfl
def RnAt (W : World) (B0 b1 b3 bm : Nat) (A0 : Option Addr) (n c0 : Nat) (vin : Value) (O : List Int) (vo : Value) (s : SqS) (i g6 g7 : Nat) (j : Int) : Prop :=
 ∃ (m : Nat) (P : Int → Option Nat) (F : Int → Option (Int × Int)) (gf : Nat) (c a : Int),SAt W B0 b1 b3 bm m A0 n c0 vin O vo ⟨s.out,F⟩ P ∧ W.heap[g6]? = some (.cells #[.int .i64 (i : Int)] 3 (0,0)) ∧ W.heap[g7]? = some (.cells #[.pointer (some ⟨gf,0,none⟩)] 173 (0,0)) ∧
  P j = some gf ∧ F j = some (c,a) ∧ (s.F j).getD (0,0) = (c,a) ∧ (∀ v,upF F j v = upF s.F j v) ∧ m ≤ i + 1
theorem yfR {α : Type} (F : Int → Option α) (j : Int) (u v : α) : upF (upF F j u) j v = upF F j v := by
 funext k
 unfold upF
 by_cases e : k = j
 ·rw [if_pos e,if_pos e]
 rw [if_neg e,if_neg e,if_neg e]
theorem rd_mem (O : List Int) (i : Nat) (h : i < O.length) : rd O i ∈ O := by
 unfold rd
 rw [Int.toNat_natCast,List.getD_eq_getElem?_getD,List.getElem?_eq_getElem h]
 exact List.getElem_mem h
theorem ydS {W : World} {B0 b1 b3 bm m : Nat} {A0 : Option Addr} {n c0 : Nat} {vin : Value} {O : List Int} {vo : Value} {s : SqS} {P : Int → Option Nat} {i g6 g7 gf : Nat} {j : Int} (h : SAt W B0 b1 b3 bm m A0 n c0 vin O vo s P)
  (h6 : W.heap[g6]? = some (.cells #[.int .i64 (i : Int)] 3 (0,0))) (h7 : W.heap[g7]? = some (.cells #[.pointer (some ⟨gf,0,none⟩)] 173 (0,0))) (hj : P j = some gf) (hm : m ≤ i) : RnAt W B0 b1 b3 bm A0 n c0 vin O vo s i g6 g7 j := by
 obtain ⟨c,a,h1,h2⟩ := h.fl.flow j gf hj
 exact ⟨m,P,s.F,gf,c,a,h,h6,h7,hj,h1,by rw [h1];rfl,fun _ => rfl,by omega⟩
theorem yfS {W4 W5 W6 : World} {B0 b1 b3 bm m : Nat} {A0 : Option Addr} {n c0 : Nat} {vin : Value} {O : List Int} {vo : Value} {s : SqS} {P : Int → Option Nat} {i g6 g7 gf : Nat} {j : Int} {D : DataW Unit} (h : SAt W5 B0 b1 b3 bm m A0 n c0 vin O vo s P)
  (h6 : W5.heap[g6]? = some (.cells #[.int .i64 (i : Int)] 3 (0,0))) (h7 : W5.heap[g7]? = some (.cells #[.pointer (some ⟨gf,0,none⟩)] 173 (0,0))) (hg : W5.heap[gf]? = some (.cells #[.int .u8 0,.int .i64 0] 177 (0,0)))
  (hnew : ∀ k b,P k = some b → b ≠ gf) (hlo : B0 ≤ gf) (hj : P j = none) (hm : m ≤ i) (hD : W5.ownsMap Try.prog 3 zgM bm m D) (hat : ∀ j,D.atKey (kLit j) (zfS none) = zfS (P j)) (hhas : ∀ j,Maps.has D (kLit j) = true → P j ≠ none)
  (ho : W6.ownsMap Try.prog 3 zgM bm (m + 1) (D.put (kLit j) (zfS (some gf)))) (hgr : W5.grownBy W6 (some bm)) : RnAt W6 B0 b1 b3 bm A0 n c0 vin O vo s i g6 g7 j := by
 have hF : Fr (fun k => k = bm) W5 W6 := Fr.grown hgr fun r hr => (by cases hr;rfl)
 obtain ⟨es,clock,hmo⟩ := znM hD
 have hne : ∀ {g : Nat} {cs : Array Value} {t : TypeId},W5.heap[g]? = some (.cells cs t (0,0)) → ¬ g = bm := fun hgb e => by
  rw [e,hmo] at hgb
  cases hgb
 have hnb : ∀ {B e z n : Nat} {v : Value} {xs : List Value},W5.ownsRow B e z v n xs → ∀ g,v.ownBlock = some g → ¬ g = bm := fun ho' g hg' => by
  obtain ⟨cs,hcs⟩ := zcO ho' g hg'
  exact hne hcs
 refine ⟨m + 1,upF P j gf,upF s.F j (0,0),gf,0,0,⟨hF.keep h.x1 (hne h.x1),hF.keep h.x3 (hne h.x3),hF.own h.own (hnb h.own),hF.own h.out (hnb h.out),h.fl.more hj hD hat hhas ho hF hnew hlo (hF.keep hg (hne hg)),h.l3,h.lm⟩,
  hF.keep h6 (hne h6),hF.keep h7 (hne h7),by unfold upF;rw [if_pos rfl],by unfold upF;rw [if_pos rfl],by rw [h.fl.none_ j hj];rfl,fun v => yfR _ _ _ _,by omega⟩
theorem zzC (t : List S56) (i : Nat) (out : List S56) (L : List (Nat × Int)) : (zgL t i out L).length = out.length := by
 cases L with
 | nil => rfl
 | cons x L => simp [zgL]
theorem zqE (t : List S56) (i k : Nat) (out : List S56) (L : List (Nat × Int)) (ch : Int) : zkJ t i k (byL L) (zgL t i out L) = zgL t i out (L ++ [(k,ch)]) := by
 unfold zkJ byL
 cases L with
 | nil => rfl
 | cons x L => rfl
theorem znE (c : Int) (L : List (Nat × Int)) (k : Nat) (ch : Int) : sayL c (L ++ [(k,ch)]) = ch := by
 unfold sayL
 rw [List.getLast?_append]
 rfl
theorem zzD (a : Int) (i : Nat) (L : List (Nat × Int)) (k : Nat) (ch : Int) : atL a i (L ++ [(k,ch)]) = i := by
 unfold atL
 rw [if_neg (by simp)]
theorem zzE (L : List (Nat × Int)) (k : Nat) (ch : Int) : byL (L ++ [(k,ch)]) = byL L ++ [ch] := by simp [byL]
theorem kpB_on (s : ByteArray) (k : Nat) (c : Int) (h : k < s.size) : kpB s (s.size - k) k c = if zdA (bt s k) = true then (if c = 0 ∨ c = 32 then kpB s (s.size - (k + 1)) (k + 1) c else (k,32) :: kpB s (s.size - (k + 1)) (k + 1) 32) else (k,bt s k) :: kpB s (s.size - (k + 1)) (k + 1) (bt s k) := by
 rw [show s.size - k = (s.size - (k + 1)) + 1 from by omega,kpB,if_pos h]
theorem yfT {W : World} {B0 Bb g1 g3 g6 g7 g8 gf : Nat} {A0 : Option Addr} {n c0 i : Nat} {vo vb : Value} {out : List S56} {b : List Int} {sc sa : Int} (h : KAt W B0 Bb g1 g3 g6 g7 g8 gf A0 n c0 i vo vb out b sc sa) (h8 : B0 ≤ g8) (hf : B0 ≤ gf) (hb : B0 ≤ Bb) : ∀ k,k < B0 → ¬ XK Bb g8 gf vo k := by
 rintro k hk (h1 | h1 | h1 | h1)
 ·have := zcZ h.out k h1
  omega
 ·omega
 ·omega
 omega
theorem sq_next {W6 W8 wx : World} {B0 Bb b1 b3 bm m g6 g7 g8 gf : Nat} {A0 : Option Addr} {n c0 i go co N : Nat} {vin vb : Value} {O : List Int} {out outX : List S56} {F : Int → Option (Int × Int)} {P : Int → Option Nat} {j sc sa : Int} {b : List Int} {u : ByteArray}
  (hS : SAt W6 B0 b1 b3 bm m A0 n c0 vin O (.slice (some ⟨go,0,none⟩) N co) ⟨out,F⟩ P) (hb8 : Below W6.heap.size W6 W8) (hBb : Bb = W8.heap.size) (hg8 : g8 = W6.heap.size)
  (hK : KAt wx B0 Bb b1 b3 g6 g7 g8 gf A0 n c0 i (.slice (some ⟨go,0,none⟩) N co) vb outX b sc sa) (hf : Fr (XK Bb g8 gf (.slice (some ⟨go,0,none⟩) N co)) W8 wx) (hj : P j = some gf) (hi : i < outX.length) (hN : outX.length = N) (hB0 : B0 ≤ W6.heap.size) :
  SAt (wx.setCell ⟨go,i * 4 + 1,none⟩ (.string u)) B0 b1 b3 bm m A0 n c0 vin O (.slice (some ⟨go,0,none⟩) N co) ⟨outX.modify i (tx u),upF F j (sc,sa)⟩ P ∧ Below B0 W6 (wx.setCell ⟨go,i * 4 + 1,none⟩ (.string u)) := by
 subst hN
 obtain ⟨cs,hcs⟩ := zcO hK.out go rfl
 have hS8 := hS.below hb8
 have hset : Fr (XK Bb g8 gf (.slice (some ⟨go,0,none⟩) outX.length co)) W8 (wx.setCell ⟨go,i * 4 + 1,none⟩ (.string u)) := Fr.trans hf (Fr.set (p := ⟨go,i * 4 + 1,none⟩) (.inl rfl) _)
 have far : ∀ {g : Nat} {cs' : Array Value} {t : TypeId},wx.heap[g]? = some (.cells cs' t (0,0)) → t ≠ 56 → (wx.setCell ⟨go,i * 4 + 1,none⟩ (.string u)).heap[g]? = some (.cells cs' t (0,0)) := fun hgb hne => zeV hgb (p := ⟨go,i * 4 + 1,none⟩) (zhG hgb hcs hne) _
 have hlt6 : ∀ {g : Nat} {o : Obj},W6.heap[g]? = some o → g < W6.heap.size := fun h => zfB h
 have hs8 := hb8.size
 obtain ⟨co',hcf,hgf0,hgf⟩ := hS.fl.flow j gf hj
 have hgfl := zfB hgf
 have hgol := (hS.out.lt go rfl).2
 obtain ⟨cs6,hcs6⟩ := zcO hS.out go rfl
 have ho := (hK.out.stored (i * 4 + 1) (.string u)).1
 rw [zlE (tx u) 1 (by omega) (.string u) outX i hi rfl] at ho
 have hnx : ∀ {g : Nat},g < W6.heap.size → g ≠ gf → g ≠ go → ¬ XK Bb g8 gf (.slice (some ⟨go,0,none⟩) outX.length co) g := by
  rintro g hg h1 h2 (h | h | h | h)
  ·simp only [Value.ownBlock,Option.some.injEq] at h
   exact h2 h.symm
  ·omega
  ·exact h1 h
  omega
 obtain ⟨D,hD,hat,_⟩ := hS.fl.map
 obtain ⟨es,clock,hmo⟩ := znM hD
 have hmgf : bm ≠ gf := fun e => by rw [e,hgf] at hmo;cases hmo
 have hmgo : bm ≠ go := fun e => by rw [e,hcs6] at hmo;cases hmo
 refine ⟨⟨far hK.x1 (by decide),far hK.x3 (by decide),?_,?_,?_,hS.l3,hS.lm⟩,?_⟩
 ·refine Fr.own hset hS8.own fun g hg => hnx (hS.own.lt g hg).2 (fun e => ?_) (fun e => ?_)
  ·obtain ⟨c1,h1⟩ := zcO hS.own g hg
   rw [e,hgf] at h1
   cases h1
  obtain ⟨c1,h1⟩ := zcO hS.own g hg
  rw [e,hcs6] at h1
  cases h1
 ·rw [List.length_modify]
  exact ho
 ·refine hS8.fl.turn hset hj (hnx (zfB hmo) hmgf hmgo) (fun k b' hk hne => ?_) (far hK.xf (by decide))
  obtain ⟨c1,a1,_,hb'⟩ := hS.fl.flow k b' hk
  exact hnx (zfB hb') hne fun e => by rw [e,hcs6] at hb';cases hb'
 refine (hb8.mono hB0).trans ?_
 refine hset.toBelow (by omega) fun k hk => ?_
 refine yfT hK ?_ ?_ ?_ k hk
 ·omega
 ·exact hS.fl.lo j gf hj
 omega
theorem zuH (O : List Int) (t : List S56) (n i : Nat) (s : SqS) (h : i < n) : ziX O t (n - i) i s = ziX O t (n - (i + 1)) (i + 1) (zgZ O t i s) := by
 rw [show n - i = (n - (i + 1)) + 1 from by omega]
 rfl
set_option pp.maxSteps 3000 in
theorem zyC (k : Nat) (A0 : Option Addr) (c0 : Nat) (t : List S56) (O : List Int) (w : World) (hA : Kd.C k56 w A0 t.length t) (hc0 : t.length ≤ c0) (hn6 : t.length ≤ 400000) (hO : norm_owners.f k t = some O) (hOl : O.length = t.length) (hOw : ∀ j ∈ O,(Lit.int .i64 j).wf = true)
  (hts : ∀ x ∈ t,x.f1.size ≤ 1000000) :
  Calls Try.prog 111 #[.slice A0 t.length c0] w fun e w' => ∃ v0_ : Value,e = .returned v0_ ∧ Kd.R k56 56 w' w.heap.size (fun _ => True) v0_ (zkK O t) ∧ Below w.heap.size w w' := by
 have hmm := @run_makeMap Try.prog
 obtain ⟨i0,hi0,hz0,hz1,hz2⟩ := info_parts zfU
 have hown := norm_owners.calls k A0 c0 t O
 have HW := Lib.hid (And.intro hA (And.intro hc0 (And.intro hO hown)))
 clear hA hO hown
 go_enter Try.func111,Try.ntmps111
 go_wp2_with (at_builtin;go_loud (refine Kd.R_append_rows k56 (w0 := w) w.heap.size rfl (.tmp 14) (.tmp 15) 50 56 (.agg #[(.int .u8 0),(.string ⟨#[]⟩),(.int .i64 0),(.int .i64 0)]) 40 rfl Try.underlying50 zfU rfl (by decide) (by omega) (.slice (some ⟨w.heap.size + 1,0,none⟩) 0 0) ([] : List S56) t _ _ _ (fun _ => True) (fun _ => False) rfl rfl ?aO ?aR (fun _ _ h => h) (fun _ h => h.elim) ?aF ?aB ?aS ?aL ?_))
 case aR => exact Kd.C_alloc (Kd.C_alloc HW.out.1 _) _
 case aB => exact ((Below.refl _ w).alloc (Nat.le_refl _) _).alloc (by simp) _
 case aF => exact fun _ _ => trivial
 case aO =>
  have h0 := znL (w.alloc (.cells #[.slice A0 t.length c0] 50))
  rw [World.size_alloc] at h0
  exact zkG (xs := []) h0 _ (by simp)
 case aS => simp;omega
 case aL => simp;omega
 intro vo w2 ho hb hg hat
 have ho' := zsU ho
 obtain ⟨Ao,co,rfl⟩ := zbB ho'
 have HB2 := Lib.hid hb
 have HO2 := Lib.hid ho'
 have hx1 : w2.heap[w.heap.size]? = some (.cells #[.slice A0 t.length c0] 50 (0,0)) := zbS (zcE (zbW w _) _) hg (by simp [Value.ownBlock])
 have HX1 := Lib.hid hx1
 have x1 := zaB hx1 0
 have x1b := zaB (zcE (zcE HX1.out (.cells #[.slice Ao t.length co] 50)) (.map #[] 0)) 0
 simp only [gzz] at x1 x1b
 clear ho ho' hb hg hat hx1
 go_wp2_with (go_at_call 144;refine (HW.out.2.2.2 _ (Kd.C_below HW.out.1 (((HB2.out.alloc HB2.out.size _).alloc (by have := HB2.out.size;simp;omega) _))) HW.out.2.1 HW.out.2.2.1).mono ?_;rintro e w5 ⟨vin,rfl,hin,hb5⟩;have x1' := zaB (zaG (zcE (zcE HX1.out (.cells #[.slice Ao t.length co] 50)) (.map #[] 0)) hb5) 0;simp only [gzz] at x1')
 have hst := yiI HX1.out HB2.out HO2.out hb5 hin
 obtain ⟨Ain,cin,rfl⟩ := zbB hst.1.own
 rw [hOl] at hst ⊢
 have HS := Lib.hid hst
 clear hst hb5 hin x1 x1b x1' HX1 HB2 HO2
 go_loopw [22] (fun v wr => ∃ (i m : Nat) (vo : Value) (s : SqS) (P : Int → Option Nat),i ≤ t.length ∧ v = .int .i64 i ∧ SAt wr w.heap.size w.heap.size w2.heap.size (w2.heap.size + 1) m A0 t.length c0 (.slice Ain t.length cin) O vo s P ∧ Below w.heap.size w wr ∧ ziX O t t.length 0 (sq0 t) = ziX O t (t.length - i) i s ∧ s.out.length = t.length ∧ m ≤ i) (fun v _ => t.length - (intOf v).toNat)
 case atStart => exact ⟨0,0,_,_,_,Nat.zero_le _,rfl,HS.out.1,HS.out.2,rfl,rfl,Nat.le_refl _⟩
 case round =>
  obtain ⟨wq,rfl⟩ : ∃ wq,wq = wr := ⟨wr,rfl⟩
  obtain ⟨i,m,vo,s,P,hi,rfl,hS,hB,hrun,hlen,hm⟩ := hrel
  have HSS := Lib.hid hS
  have HBB := Lib.hid hB
  have HRUN := Lib.hid hrun
  have x1 := zaB hS.x1 0
  simp only [gzz] at x1
  clear hS hB hrun
  by_cases hlt : i < t.length
  ·have hlt1 : (i : Int) < (t.length : Int) := by omega
   have HB3 := Lib.hid (HBB.out.alloc HBB.out.size (.cells #[.int .i64 (i : Int)] 3))
   have HS3 := Lib.hid (HSS.out.below ((Below.refl _ wq).alloc (Nat.le_refl _) (.cells #[.int .i64 (i : Int)] 3)))
   have hA' := Kd.C_below HW.out.1 HB3.out
   have x1a := zaB HS3.out.x1 0
   simp only [gzz] at x1a
   obtain ⟨ad,rfl,q0,q1,q2,q3⟩ := zeN hA' (i : Int) (by omega) hlt1
   simp only [Int.toNat_natCast] at q0 q1 q2 q3
   clear hA'
   by_cases h46 : (zaA t i).f0 = 46
   ·have hwfj := hOw _ (rd_mem O i (by omega))
    have hown3 := HS3.out.own
    rw [hOl] at hown3
    obtain ⟨adi,rfl,qi⟩ := (ztF hown3).at_ (i : Int) (by omega) (by omega)
    clear hown3
    simp only [Int.toNat_natCast] at qi
    obtain ⟨j,hj⟩ : ∃ j,rd O (i : Int) = j := ⟨_,rfl⟩
    rw [hj] at hwfj qi
    rcases hP : P j with _ | gf
    case' none =>
     go_upto_region 12 with (at_lookup;refine zlL _ rfl _ _ rfl _ _ m s.F P rfl HS3.out.fl j rfl hwfj ?_;rw [hP];simp only [ptrP,Option.map_none])
     obtain ⟨W4,hW4⟩ : ∃ W4,((wq.alloc (.cells #[.int .i64 (i : Int)] 3)).alloc (.cells #[.pointer (some ⟨wq.heap.size + 1 + 1,0,none⟩)] 173)).alloc (.cells #[.int .u8 0,.int .i64 0] 177) = W4 := ⟨_,rfl⟩
     have hF4 : Below (wq.alloc (.cells #[.int .i64 (i : Int)] 3)).heap.size (wq.alloc (.cells #[.int .i64 (i : Int)] 3)) W4 := by
      rw [← hW4]
      exact ((Below.refl _ _).alloc (Nat.le_refl _) _).alloc (by simp) _
     have hg7 : W4.heap[wq.heap.size + 1]? = some (.cells #[.pointer (some ⟨wq.heap.size + 1 + 1,0,none⟩)] 173 (0,0)) := by
      rw [← hW4]
      have := zcE (zbW (wq.alloc (.cells #[.int .i64 (i : Int)] 3)) (.cells #[.pointer (some ⟨wq.heap.size + 1 + 1,0,none⟩)] 173)) (.cells #[.int .u8 0,.int .i64 0] 177)
      rw [World.size_alloc] at this
      exact this
     have hgf : W4.heap[wq.heap.size + 1 + 1]? = some (.cells #[.int .u8 0,.int .i64 0] 177 (0,0)) := by
      rw [← hW4]
      have := zbW ((wq.alloc (.cells #[.int .i64 (i : Int)] 3)).alloc (.cells #[.pointer (some ⟨wq.heap.size + 1 + 1,0,none⟩)] 173)) (.cells #[.int .u8 0,.int .i64 0] 177)
      rw [World.size_alloc,World.size_alloc] at this
      exact this
     have hg6 : W4.heap[wq.heap.size]? = some (.cells #[.int .i64 (i : Int)] 3 (0,0)) := zaG (zbW wq _) hF4
     obtain ⟨W5,hW5⟩ : ∃ W5,W4.drew = W5 := ⟨_,rfl⟩
     have hB45 : Below W4.heap.size W4 W5 := by rw [← hW5];exact zaJ (Below.refl _ _)
     have hS5 := (HS3.out.below hF4).below hB45
     have hB5 := (HB3.out.trans (hF4.mono HB3.out.size)).trans (hB45.mono (Nat.le_trans HB3.out.size hF4.size))
     have h6 := zaG hg6 hB45
     have h7 := zaG hg7 hB45
     have hgf5 := zaG hgf hB45
     obtain ⟨D,hD,hat,hhas⟩ := hS5.fl.map
     have qi5 := (hB45.cell (World.block_lt_of_cell? _ _ ((hF4.cell (World.block_lt_of_cell? _ _ qi)).trans qi))).trans ((hF4.cell (World.block_lt_of_cell? _ _ qi)).trans qi)
     have x6 := zaB h6 0
     have x7 := zaB h7 0
     simp only [gzz] at x6 x7
     have HS5 := Lib.hid (And.intro hS5 (And.intro hB5 (And.intro h6 (And.intro h7 (And.intro hgf5 (And.intro hD (And.intro hat hhas)))))))
     have HC := Lib.hid (And.intro qi5 (And.intro x6 x7))
     have hnew : ∀ k b,P k = some b → b ≠ wq.heap.size + 1 + 1 := fun k b hk => by
      obtain ⟨c,a,_,hb⟩ := HSS.out.fl.flow k b hk
      have := zfB hb
      omega
     have HNEW := Lib.hid hnew
     rw [hW4]
     clear hF4 hg7 hgf hg6 hB45 hS5 hB5 h6 h7 hgf5 hD hat hhas qi5 x6 x7 hW4 hnew
     refine Go.Det.region_det (fun W => W = W5) 6 (by kernel_rfl) (by kernel_rfl) (by kernel_rfl) (by decide) hW5 ?_
     clear hW5
     repeat
      apply Go.Det.seqW_cons
      focus
       intro W hS
       obtain rfl : W = W5 := hS
       obtain ⟨qi5,x6,x7⟩ := HC.out
       go_wp2
       exact Go.Det.AtEnd.mk rfl
     refine Go.Det.seqW_nil ?_
     intro W hS
     obtain rfl : W = W5 := hS
     simp only [List.drop_succ_cons,List.drop_zero]
     refine wpList_mapUpdate_own _ rfl _ _ _ 171 rfl 3 173 key3 Try.underlying171 zgM _ m D rfl HS5.out.2.2.2.2.2.1 (by unfold maxLen;omega) (.int .i64 j) (ptrP (some (wq.heap.size + 1 + 1))) (kLit j) rfl rfl (yfP j hwfj) (zfS (some (wq.heap.size + 1 + 1))) [] (zzB _) ?_
     intro W6 hown6 hgr6
     have HR := Lib.hid (And.intro (yfS (W4 := W) HS5.out.1 HS5.out.2.2.1 HS5.out.2.2.2.1 HS5.out.2.2.2.2.1 HNEW.out (by have := HBB.out.size;omega) hP hm HS5.out.2.2.2.2.2.1 HS5.out.2.2.2.2.2.2.1 HS5.out.2.2.2.2.2.2.2 hown6 hgr6) (HS5.out.2.1.grown hgr6 HS5.out.2.1.size fun r hr => (by cases hr;exact HS5.out.1.lm)))
     go_upto_region 12 with (fail)
     clear HS5 HC HNEW hown6 hgr6 hP x1 x1a q0 q1 q2 q3 qi hm HS3 HB3 HSS HBB
    case' some =>
     go_upto_region 12 with (at_lookup;refine zlL _ rfl _ _ rfl _ _ m s.F P rfl HS3.out.fl j rfl hwfj ?_;rw [hP];simp only [ptrP,Option.map_some])
     obtain ⟨W6,hW6⟩ : ∃ W6,((wq.alloc (.cells #[.int .i64 (i : Int)] 3)).alloc (.cells #[.pointer (some ⟨gf,0,none⟩)] 173)) = W6 := ⟨_,rfl⟩
     have hF4 : Below (wq.alloc (.cells #[.int .i64 (i : Int)] 3)).heap.size (wq.alloc (.cells #[.int .i64 (i : Int)] 3)) W6 := by
      rw [← hW6]
      exact (Below.refl _ _).alloc (Nat.le_refl _) _
     have hg7 : W6.heap[wq.heap.size + 1]? = some (.cells #[.pointer (some ⟨gf,0,none⟩)] 173 (0,0)) := by
      rw [← hW6]
      have := zbW (wq.alloc (.cells #[.int .i64 (i : Int)] 3)) (.cells #[.pointer (some ⟨gf,0,none⟩)] 173)
      rw [World.size_alloc] at this
      exact this
     have HR := Lib.hid (And.intro (ydS (HS3.out.below hF4) (zaG (zbW wq _) hF4) hg7 hP hm) (HB3.out.trans (hF4.mono HB3.out.size)))
     rw [hW6]
     clear hF4 hg7 hW6 hP x1 x1a q0 q1 q2 q3 qi hm HS3 HB3 HSS HBB
    all_goals
     obtain ⟨m',P',F',gf',c,a,hS6,h6,h7,hPj,hFj,hget,hup,hm'⟩ := HR.out.1
     have hB6 := HR.out.2
     have hb7 : Below W6.heap.size W6 (W6.alloc (.cells #[.slice none 0 0] 68)) := (Below.refl _ W6).alloc (Nat.le_refl _) _
     have hB7 := hB6.trans (hb7.mono hB6.size)
     have hA7 := Kd.C_below HW.out.1 hB7
     obtain ⟨ad',e',q0,q1,q2,q3⟩ := zeN hA7 (i : Int) (by omega) hlt1
     obtain rfl := Option.some.inj e'
     clear e'
     simp only [Int.toNat_natCast] at q0 q1 q2 q3
     obtain ⟨S,hS⟩ : ∃ S,(zaA t i).f1 = S := ⟨_,rfl⟩
     rw [hS] at q1
     obtain ⟨C,W8,hcv,hb8,hcs⟩ := zlU S (W6.alloc (.cells #[.slice none 0 0] 68))
     have x17 := zaB (zaG hS6.x1 hb7) 0
     have x67 := zaB (zaG h6 hb7) 0
     simp only [gzz] at x17 x67
     have hb68 := hb7.trans (hb8.mono hb7.size)
     have h8 := zaG (zbW W6 (.cells #[.slice none 0 0] 68)) hb8
     have hout6 : W6.ownsRow w.heap.size 56 4 vo s.out.length (zaU s.out) := hS6.out
     obtain ⟨go,co',rfl⟩ := zhZ hout6 (by omega)
     have hS8 := hS6.below hb68
     obtain ⟨cf,af,hFf0,hgf6⟩ := hS6.fl.flow j gf' hPj
     have hFf : F' j = some (cf,af) := hFf0
     rw [hFj] at hFf
     obtain ⟨rfl,rfl⟩ := Prod.mk.inj (Option.some.inj hFf)
     have hK8 : KAt W8 w.heap.size W8.heap.size w.heap.size w2.heap.size wq.heap.size (wq.heap.size + 1) W6.heap.size gf' (some ad) t.length c0 i (.slice (some ⟨go,0,none⟩) s.out.length co') (.slice none 0 0) s.out [] c a :=
      ⟨hS8.x1,hS8.x3,zaG h6 hb68,zaG h7 hb68,h8,zaG hgf6 hb68,hS8.out,⟨rfl,.inl ⟨rfl,rfl⟩⟩,zfB h8,zfB (zaG hgf6 hb68),Nat.le_refl _⟩
     have HK8 := Lib.hid hK8
     have HS6 := Lib.hid (And.intro hS6 (And.intro hB6 (And.intro hPj (And.intro hget hup))))
     have HB68 := Lib.hid hb68
     have HCS := Lib.hid hcs
     have HS := Lib.hid hS
     have hSz : S.size ≤ 1000000 := by
      rw [← hS]
      refine hts _ ?_
      unfold zaA
      rw [Int.toNat_natCast,List.getD_eq_getElem?_getD,List.getElem?_eq_getElem hlt]
      exact List.getElem_mem hlt
     have hsz7 : (W6.alloc (.cells #[.slice none 0 0] 68)).heap.size = W6.heap.size + 1 := by simp
     have hb8s := hb8.size
     clear hS6 h6 h7 hPj hFj hget hup hB6 hb7 hB7 hA7 hcs hb8 hb68 h8 hS8 hgf6 hK8 HR q0 q2 q3 hFf0 hFf hout6 hS
     go_wp2
     go_loopw [55] (fun v wx => ∃ (k : Nat) (L : List (Nat × Int)) (vb : Value),k ≤ S.size ∧ v = .int .i64 k ∧
      KAt wx w.heap.size W8.heap.size w.heap.size w2.heap.size wq.heap.size (wq.heap.size + 1) W6.heap.size gf' (some ad) t.length c0 i (.slice (some ⟨go,0,none⟩) s.out.length co') vb (zgL t i s.out L) (byL L) (sayL c L) (atL a i L) ∧
      Fr (XK W8.heap.size W6.heap.size gf' (.slice (some ⟨go,0,none⟩) s.out.length co')) W8 wx ∧ kpB S S.size 0 c = L ++ kpB S (S.size - k) k (sayL c L) ∧ L.length ≤ k) (fun v _ => S.size - (intOf v).toNat)
     case atStart => exact ⟨0,[],_,Nat.zero_le _,rfl,HK8.out,Fr.refl _ _,by rw [Nat.sub_zero];rfl,Nat.le_refl _⟩
     case round =>
      obtain ⟨wx,rfl⟩ : ∃ wx,wx = wr := ⟨wr,rfl⟩
      obtain ⟨k,L,vb,hk,rfl,hK,hF,hkp,hLk⟩ := hrel
      have HK := Lib.hid hK
      have HF := Lib.hid hF
      have HKP := Lib.hid hkp
      clear hK hF hkp x17 x67 q1 hcv
      by_cases hlk : k < S.size
      ·have hlk1 : (k : Int) < (S.size : Int) := by omega
       have hgo := (HS6.out.1.out.lt go rfl).2
       obtain ⟨cc,aa,_,hgfb⟩ := HS6.out.1.fl.flow j gf' HS6.out.2.2.1
       have hgfl := zfB hgfb
       have q8 := HCS.out k hlk
       rw [hsz7] at q8
       have hlt8 := World.block_lt_of_cell? _ _ q8
       have q8x : wx.cell? ⟨W6.heap.size + 1,k,none⟩ = some (.int .u8 (bt S k)) := by
        rw [World.cell?_of_block (w := W8) (w' := wx) (HF.out.block _ hlt8 ?_)]
        ·exact q8
        ·rintro (h | h | h | h)
         ·simp only [Value.ownBlock,Option.some.injEq] at h
          omega
         ·have h' : W6.heap.size + 1 = W6.heap.size := h
          omega
         ·have h' : W6.heap.size + 1 = gf' := h
          omega
         ·have h' : W8.heap.size ≤ W6.heap.size + 1 := h
          have h2 : W6.heap.size + 1 < W8.heap.size := hlt8
          omega
       have hBx : Below w.heap.size w wx := (HS6.out.2.1.trans (HB68.out.mono HS6.out.2.1.size)).trans (HF.out.toBelow (by have := HS6.out.2.1.size;have := HB68.out.size;omega) (yfT HK.out (by have := HS6.out.2.1.size;omega) (HS6.out.1.fl.lo j gf' HS6.out.2.2.1) (by have := HS6.out.2.1.size;have := HB68.out.size;omega)))
       have hbr := zfZ S k
       have hkc := fun (W : World) (ch : Int) (hb : Below wx.heap.size wx W) => ydO w.heap.size W8.heap.size w.heap.size w2.heap.size wq.heap.size (wq.heap.size + 1) W6.heap.size gf' (some ad) t.length c0 i k ch (.slice (some ⟨go,0,none⟩) s.out.length co') vb (zgL t i s.out L) (byL L) (sayL c L) (atL a i L) t W rfl hlt
        (by rw [zzC];exact hlen) (by omega) (by unfold byL;rw [List.length_map];omega) (by omega) (Kd.C_below HW.out.1 (hBx.trans (hb.mono hBx.size))) (HK.out.fr hb)
       have HKC := Lib.hid hkc
       have hst := kpB_on S k (sayL c L) hlk
       have HST := Lib.hid hst
       have hwc := fun W => ziU (bt S k) hbr.1 hbr.2 W
       obtain ⟨b,hbw⟩ : ∃ b,zdA (bt S k) = b := ⟨_,rfl⟩
       rw [hbw] at hwc
       have HBW := Lib.hid hbw
       have HWC := Lib.hid hwc
       have HBX := Lib.hid hBx
       obtain ⟨ch,hch⟩ : ∃ ch,bt S k = ch := ⟨_,rfl⟩
       rw [hch] at q8x HST HWC HBW
       clear hst hwc hbw hkc hbr q8 hBx hgo hgfb hgfl hlt8 hch
       cases b with
       | false =>
        go_wp2_with (first | (go_at_call 35;(with_reducible refine (HWC.out _).mono ?_);rintro e w9 ⟨rfl,hb9⟩;have HB9 := Lib.hid hb9;clear hb9) | (go_at_call 145;(with_reducible refine (HKC.out _ _ HB9.out).mono ?_);rintro e w10 ⟨rfl,vb',hk10,hf10⟩;have HK10 := Lib.hid (And.intro hk10 hf10);clear hk10 hf10))
        go_roundw
        case rel =>
         refine ⟨k + 1,L ++ [(k,ch)],vb',by omega,by go_num,?_,Fr.trans (Fr.trans HF.out (Fr.below HB9.out)) HK10.out.2,?_,by simp;omega⟩
         ·rw [← zqE,zzE,znE,zzD]
          exact HK10.out.1
         ·rw [HKP.out,HST.out,HBW.out,znE,List.append_assoc]
          rfl
        case measure => simp [intOf];omega
       | true =>
        obtain ⟨bl,hbl⟩ : ∃ bl,(sayL c L == 0 || sayL c L == 32) = bl := ⟨_,rfl⟩
        have hbc := fun W => ybE (sayL c L) (atL a i L) W
        rw [hbl] at hbc
        have HBC := Lib.hid hbc
        have HBL := Lib.hid hbl
        clear hbc hbl
        cases bl with
        | false =>
         go_wp2_with (first | (go_at_call 35;(with_reducible refine (HWC.out _).mono ?_);rintro e w9 ⟨rfl,hb9⟩;have HB9 := Lib.hid hb9;have HK9 := Lib.hid (HK.out.fr hb9);have z7 := zaB HK9.out.x7 0;have zf0 := zaB HK9.out.xf 0;have zf1 := zaB HK9.out.xf 1;simp only [gzz] at z7 zf0 zf1;clear hb9) | (go_at_call 146;(with_reducible refine (HBC.out _).mono ?_);rintro e w11 ⟨rfl,hb11⟩;have HB11 := Lib.hid (HB9.out.trans (hb11.mono HB9.out.size));clear hb11) | (go_at_call 145;(with_reducible refine (HKC.out _ _ HB11.out).mono ?_);rintro e w10 ⟨rfl,vb',hk10,hf10⟩;have HK10 := Lib.hid (And.intro hk10 hf10);clear hk10 hf10))
         go_roundw
         case rel =>
          refine ⟨k + 1,L ++ [(k,32)],vb',by omega,by go_num,?_,Fr.trans (Fr.trans HF.out (Fr.below HB11.out)) HK10.out.2,?_,by simp;omega⟩
          ·rw [← zqE,zzE,znE,zzD]
           exact HK10.out.1
          ·have hne : ¬ (sayL c L = 0 ∨ sayL c L = 32) := fun h => by
            have h2 := HBL.out
            rw [Bool.or_eq_false_iff,beq_eq_false_iff_ne,beq_eq_false_iff_ne] at h2
            exact h.elim h2.1 h2.2
           rw [HKP.out,HST.out,HBW.out,if_pos rfl,if_neg hne,znE,List.append_assoc]
           rfl
         case measure => simp [intOf];omega
        | true =>
         go_wp2_with (first | (go_at_call 35;(with_reducible refine (HWC.out _).mono ?_);rintro e w9 ⟨rfl,hb9⟩;have HB9 := Lib.hid hb9;have HK9 := Lib.hid (HK.out.fr hb9);have z7 := zaB HK9.out.x7 0;have zf0 := zaB HK9.out.xf 0;have zf1 := zaB HK9.out.xf 1;simp only [gzz] at z7 zf0 zf1;clear hb9) | (go_at_call 146;(with_reducible refine (HBC.out _).mono ?_);rintro e w11 ⟨rfl,hb11⟩;have HB11 := Lib.hid (HB9.out.trans (hb11.mono HB9.out.size));clear hb11))
         go_roundw
         case rel =>
          refine ⟨k + 1,L,vb,by omega,by go_num,HK.out.fr HB11.out,Fr.trans HF.out (Fr.below HB11.out),?_,by omega⟩
          have hne : sayL c L = 0 ∨ sayL c L = 32 := by
           have h2 := HBL.out
           rw [Bool.or_eq_true,beq_iff_eq,beq_iff_eq] at h2
           exact h2
          rw [HKP.out,HST.out,HBW.out,if_pos rfl,if_pos hne]
         case measure => simp [intOf];omega
      ·obtain rfl : k = S.size := by omega
       have hgo := (HS6.out.1.out.lt go rfl).2
       obtain ⟨Ab,cb,rfl⟩ := zbB HK.out.b
       have hstr := ztE (P := Try.prog) (w := wx) (src := 68) (dst := 9) (c := cb) Try.underlying68 Try.underlying5 Try.underlying9 (ztF HK.out.b)
       have x3 := zaB HK.out.x3 0
       have x6 := zaB HK.out.x6 0
       have x8 := zaB HK.out.x8 0
       have hlX : (zgL t i s.out L).length = s.out.length := zzC _ _ _ _
       have hoL : wx.ownsRow w.heap.size 56 4 (.slice (some ⟨go,0,none⟩) s.out.length co') s.out.length (zaU (zgL t i s.out L)) := by
        have := HK.out.out
        rw [hlX] at this
        exact this
       have hfz := World.ownsRow.frozenAt hoL (i * 4 + 1)
       have xo := hoL.cellAt (i * 4 + 1) (by omega)
       rw [zkI _ i 1 (by rw [hlX];omega) (by omega)] at xo
       simp only [zeO,gzz] at x3 x6 x8 xo
       have hB0 := HS6.out.2.1.size
       have hnext := sq_next (u := strOfNums (byL L)) HS6.out.1 HB68.out rfl rfl HK.out HF.out HS6.out.2.2.1 (by rw [hlX];omega) hlX hB0
       have HN := Lib.hid hnext
       have hkp : kpB S S.size 0 c = L := by rw [HKP.out,Nat.sub_self];simp [kpB]
       have HKP2 := Lib.hid hkp
       have hio : (i : Int) < (s.out.length : Int) := by omega
       clear hoL hnext hkp hgo HKP
       go_wp2
       go_roundw
       case rel =>
        have hnode : zgZ O t i s = ⟨(zgL t i s.out L).modify i (tx (strOfNums (byL L))),upF F' j (sayL c L,atL a i L)⟩ := by
         unfold zgZ
         rw [if_pos h46,HS.out,hj,HS6.out.2.2.2.1,HKP2.out,HS6.out.2.2.2.2]
        refine ⟨i + 1,m',.slice (some ⟨go,0,none⟩) s.out.length co',zgZ O t i s,P',by omega,by go_num,?_,?_,by rw [HRUN.out,zuH O t _ i s hlt],?_,hm'⟩
        ·rw [hnode]
         exact HN.out.1
        ·exact HS6.out.2.1.trans HN.out.2
        ·rw [hnode]
         show ((zgL t i s.out L).modify i _).length = _
         rw [List.length_modify,hlX]
         exact hlen
       case measure => simp [intOf];omega
   ·have h46' : ((zaA t i).f0 == 46) = false := beq_eq_false_iff_ne.2 h46
    have hstep : zgZ O t i s = s := by unfold zgZ;rw [if_neg h46]
    go_wp2
    go_roundw
    case rel => exact ⟨i + 1,m,vo,s,P,by omega,by go_num,HS3.out,HB3.out,by rw [HRUN.out,zuH O t _ i s hlt,hstep],hlen,by omega⟩
    case measure => simp [intOf];omega
  ·obtain rfl : i = t.length := by omega
   have hs : ziX O t t.length 0 (sq0 t) = s := by rw [HRUN.out,Nat.sub_self];rfl
   have hinv : zuF O t.length s.F := by
    rw [← hs]
    exact zuG t.length 0 (sq0 t) (fun j c a h => by cases h) (by omega)
   obtain ⟨D,hD,hat,hhas⟩ := HSS.out.fl.map
   have HD := Lib.hid (And.intro hD (And.intro hat hhas))
   have hsm : zkV 1000000 s.out := by
    rw [← hs]
    exact zqD hts t.length 0 (sq0 t) hts
   have HSM := Lib.hid hsm
   clear hsm
   have HINV := Lib.hid (And.intro hs hinv)
   clear hs hinv hD hat hhas HRUN
   go_wp2_with (at_range;refine wpList_range_own _ rfl _ 171 rfl 3 173 key3 Try.underlying171 zgM _ m D rfl HD.out.1 ?_;intro w0 hrg0 hg0 hs0)
   go_frame
   have hT0 : TAt w0 w.heap.size w2.heap.size vo s.out s.F P := by
    refine TAt.fr (X := fun _ => False) (W := wq) ⟨HSS.out.x3,HSS.out.out,fun j b hb => HSS.out.fl.flow j b hb⟩ (Fr.grown hg0 fun r hr => by cases hr) fun _ _ _ _ h => h
   have hB0 : Below w.heap.size w w0 := HBB.out.grown hg0 HBB.out.size fun r hr => by cases hr
   have hstart : zeY O s.F (fun j => Maps.has D (kLit j)) s.out = s.out := ybD _ _ _ _ fun i hF => by
    cases hP : P (rd O i) with
    | none => rw [HSS.out.fl.none_ _ hP] at hF;cases hF
    | some b =>
     cases hh : Maps.has D (kLit (rd O i)) with
     | true => rfl
     | false =>
      have h1 := Maps.atKey_of_not_has hh (zfS none)
      rw [HD.out.2.1,hP] at h1
      exact absurd (zqC h1) (by simp)
   go_loopw [88] (fun _ wr => ∃ (left : Lit → Bool) (cnt : Nat),wr.ranges Try.prog 3 zgM (w2.heap.size + 1) wq.heap.size m D left cnt ∧ (∀ z,left z = true → Maps.has D z = true) ∧
     TAt wr w.heap.size w2.heap.size vo (zeY O s.F (fun j => left (kLit j)) s.out) s.F P ∧ Below w.heap.size w wr) (fun _ wr => wr.rangeLeft (w2.heap.size + 1) wq.heap.size)
   case atStart => exact ⟨_,_,hrg0,fun _ h => h,by rw [hstart];exact hT0,hB0⟩
   case round =>
    obtain ⟨wx,rfl⟩ : ∃ wx,wx = wr := ⟨wr,rfl⟩
    obtain ⟨left,cnt,hrg,hlh,hT,hB⟩ := hrel
    have HT := Lib.hid hT
    have HB := Lib.hid hB
    have HLH := Lib.hid hlh
    have x3 := zaB hT.x3 0
    simp only [List.getElem?_toArray,List.getElem?_cons_zero] at x3
    clear hT hB hlh hT0 hB0 hstart hrg0 hg0 hs0 x1
    go_wp2_with (at_next;refine wpList_next_ranges _ rfl _ rfl 3 key3 zgM (Value.int .i64) ptrP (fun key kl h => by obtain ⟨x,h1,_⟩ := Maps.keyOf_int_inv Try.underlying3 h;exact ⟨x,h1⟩) (fun v y h => by obtain ⟨p,h1,_⟩ := zwW h;exact ⟨p,h1⟩) (w2.heap.size + 1) wq.heap.size m D left cnt rfl hrg ?_ ?_)
    ·intro _ hl0
     have hend : zeY O s.F (fun j => left (kLit j)) s.out = zkK O t := by
      unfold zkK
      rw [HINV.out.1]
      congr 1
      funext j
      exact hl0 _
     have HE := Lib.hid hend
     have hto := HT.out.out
     obtain ⟨Av,cv,rfl⟩ := zbB hto
     rw [znD,hlen] at hto x3
     have HTO := Lib.hid hto
     clear hend hrg hto HT
     go_wp2
     go_ret
     refine ⟨_,rfl,?_,HB.out⟩
     rw [← HE.out]
     refine zkG ?_ _ (Nat.le_refl _)
     rw [znD,hlen]
     exact HTO.out
    ·intro x p kl y ps w1 cnt1 hkey hlx hpy hatl hrg1 hlt hg1 hs1 hen
     obtain ⟨x',hx1,hx2,_⟩ := Maps.keyOf_int_inv Try.underlying3 hkey
     obtain rfl : x = x' := by simpa using hx1
     obtain rfl : kl = kLit x := hx2
     rw [zzB] at hpy
     have hPx : P x = p := by
      have h1 := HD.out.2.1 x
      rw [hatl] at h1
      have h2 := (Prod.mk.inj (Option.some.inj hpy)).1
      exact (zqC (h2.trans h1)).symm
     have hne := HD.out.2.2 x (HLH.out _ hlx)
     rw [hPx] at hne
     obtain ⟨b,rfl⟩ := Option.ne_none_iff_exists'.mp hne
     have hF1 : Fr (fun k => k = wq.heap.size) wx w1 := Fr.grown hg1 fun r hr => (by cases hr;rfl)
     have hleq := hrg.left_eq
     have HLEQ := Lib.hid hleq
     clear hleq
     obtain ⟨es,clock,since,seen,c00,_,_,_,_,hrb,_⟩ := hrg
     have hT1 := HT.out.fr hF1 fun g cs tt hg e => by
      have e' : g = wq.heap.size := e
      rw [e',hrb] at hg
      cases hg
     have hB1 : Below w.heap.size w w1 := HB.out.grown hg1 HB.out.size fun r hr => (by cases hr;exact HBB.out.size)
     obtain ⟨c,a,hFx,hfl⟩ := hT1.fl x b hPx
     have f0 := zaB hfl 0
     have f1 := zaB hfl 1
     have y3 := zaB hT1.x3 0
     simp only [gzz] at f0 f1 y3
     have HT1 := Lib.hid hT1
     have HB1 := Lib.hid hB1
     have HR1 := Lib.hid (And.intro hrg1 (And.intro hlt hlx))
     have HF := Lib.hid (And.intro hFx hPx)
     simp only [ptrP,Option.map_some] at hen
     have hll : ∀ z,(left z && !z.sameKey (kLit x)) = true → Maps.has D z = true := fun z hz => HLH.out z (by rw [Bool.and_eq_true] at hz;exact hz.1)
     have HLL := Lib.hid hll
     have hother : ∀ j,j ≠ x → (left (kLit j) && !(kLit j).sameKey (kLit x)) = left (kLit j) := fun j hj => by rw [zsF,decide_eq_false hj];simp
     have HOT := Lib.hid hother
     clear hT1 hB1 hrg1 hlt hlx hkey hx1 hatl hpy hPx hne hF1 hrb hfl hg1 hs1 hll hother x3 hFx
     simp only [ptrP,Option.map_some]
     by_cases h32 : c = 32
     ·subst h32
      obtain ⟨ia,rfl,hia,hra⟩ := (HINV.out.2 x 32 a HF.out.1).resolve_left (by decide)
      have hlN : (zeY O s.F (fun j => left (kLit j)) s.out).length = t.length := by rw [znD];exact hlen
      have hstep := ydR O s.F (fun j => left (kLit j)) (fun j => left (kLit j) && !(kLit j).sameKey (kLit x)) s.out x ia HOT.out HR1.out.2.2 (by rw [zsF];simp) HF.out.1 (by omega) hra
      obtain ⟨go,co',rfl⟩ := zhZ HT1.out.out (by omega)
      obtain ⟨U,hU⟩ : ∃ U,zeY O s.F (fun j => left (kLit j)) s.out = U := ⟨_,rfl⟩
      rw [hU] at hlN hstep HT1 y3
      rw [hlN] at HT1 y3
      obtain ⟨u,hu⟩ : ∃ u,(s.out.getD ia z56).f1 = u := ⟨_,rfl⟩
      rw [hu] at hstep
      have husz : u.size ≤ 1000000 := by
       rw [← hu]
       refine HSM.out _ ?_
       rw [List.getD_eq_getElem?_getD,List.getElem?_eq_getElem (by omega)]
       exact List.getElem_mem (by omega)
      have htrim := trim_f u (by omega)
      obtain ⟨W5,hW5⟩ : ∃ W5,w1.drew = W5 := ⟨_,rfl⟩
      have hb15 : Below w1.heap.size w1 W5 := by rw [← hW5];exact zaJ (Below.refl _ _)
      have hT5 := HT1.out.fr (Fr.below (X := fun _ => False) hb15) (fun _ _ _ _ h => h)
      have hB5 : Below w.heap.size w W5 := HB1.out.trans (hb15.mono HB1.out.size)
      have hfu : (zeO (U.getD ia z56))[1]? = some (.string u) := by rw [hstep.2,← hu];rfl
      have hR5 : W5.ranges Try.prog 3 zgM (w2.heap.size + 1) wq.heap.size m D (fun z => left z && !z.sameKey (kLit x)) cnt1 := by
       rw [← hW5]
       exact HR1.out.1.kept (row := none) ⟨rfl,rfl,rfl,Nat.le_refl _,fun _ _ _ => rfl⟩ (by simp) (by simp)
      have HT5 := Lib.hid (And.intro hT5 (And.intro hB5 hR5))
      have HST := Lib.hid hstep
      have hfacts : ∀ W,Below W5.heap.size W5 W → W.cell? ⟨w2.heap.size,0,none⟩ = some (.slice (some ⟨go,0,none⟩) t.length co') ∧ W.cell? ⟨b,0,none⟩ = some (.int .u8 32) ∧ W.cell? ⟨b,1,none⟩ = some (.int .i64 (ia : Int)) ∧
        W.cell? ⟨go,ia * 4 + 1,none⟩ = some (.string u) ∧ W.frozen? ⟨go,ia * 4 + 1,none⟩ = false := fun W hW => by
       have hT := hT5.fr (Fr.below (X := fun _ => False) hW) (fun _ _ _ _ h => h)
       obtain ⟨c',a',hc',hcell⟩ := hT.fl x b HF.out.2
       rw [HF.out.1] at hc'
       obtain ⟨rfl,rfl⟩ := Prod.mk.inj (Option.some.inj hc')
       have hto : W.ownsRow w.heap.size 56 4 (.slice (some ⟨go,0,none⟩) t.length co') t.length (zaU U) := by
        have := hT.out
        rw [hlN] at this
        exact this
       refine ⟨?_,?_,?_,?_,World.ownsRow.frozenAt hto _⟩
       ·have := zaB hT.x3 0;simpa using this
       ·have := zaB hcell 0;simpa using this
       ·have := zaB hcell 1;simpa using this
       ·rw [hto.cellAt (ia * 4 + 1) (by omega),zkI U ia 1 (by omega) (by omega)]
        exact hfu
      have HFC := Lib.hid hfacts
      have HTR := Lib.hid (fun W => strings_TrimSuffix.calls u ⟨#[32]⟩ (zkU u) W htrim)
      have HUN := Lib.hid hU
      have hia' : (ia : Int) < (t.length : Int) := by omega
      clear hT5 hB5 hfacts htrim hstep hu hfu hU hb15 hR5
      go_upto_region 28 with (fail)
      refine Go.Det.region_det (fun W => Below W5.heap.size W5 W) 18 (by kernel_rfl) (by kernel_rfl) (by kernel_rfl) (by decide) (by rw [hW5];exact Below.refl _ _) ?_
      clear hW5 f0 f1 y3
      repeat
       apply Go.Det.seqW_cons
       focus
        intro W hS
        replace hS : Below W5.heap.size W5 W := hS
        obtain ⟨z3,z0,z1,zu,zf⟩ := HFC.out W hS
        go_wp2_with (go_at_call 147;(with_reducible refine (HTR.out _).mono ?_);rintro e W4 ⟨rfl,⟨⟨nd,rfl⟩⟩⟩;replace hS := zaM hS nd)
        exact Go.Det.AtEnd.mk hS
      refine Go.Det.seqW_nil ?_
      intro W hS
      replace hS : Below W5.heap.size W5 W := hS
      obtain ⟨z3,z0,z1,zu,zf⟩ := HFC.out W hS
      simp only [List.drop_succ_cons,List.drop_zero]
      have hfr : Fr (fun _ => False) W5 W := Fr.below hS
      have hTW := HT5.out.1.fr hfr (fun _ _ _ _ h => h)
      have htr := hTW.trim (u := zkU u) hlN hia
      have hgW : W5.grownBy W none := ⟨hS.os,hS.tape,hS.output,hS.size,fun k hk _ => hS.block k hk⟩
      have hRW := HT5.out.2.2.kept hgW (by simp) (by simp)
      obtain ⟨csg,hcsg⟩ := zcO hTW.out go rfl
      obtain ⟨es,clock,since,seen,c00,hmb,_,_,_,hrb,_⟩ := hRW
      have hne1 : some (w2.heap.size + 1) ≠ some go := fun e => by
       have e' : w2.heap.size + 1 = go := Option.some.inj e
       rw [← e',hmb] at hcsg
       cases hcsg
      have hne2 : some wq.heap.size ≠ some go := fun e => by
       have e' : wq.heap.size = go := Option.some.inj e
       rw [← e',hrb] at hcsg
       cases hcsg
      have hRW2 := (HT5.out.2.2.kept hgW (by simp) (by simp)).kept htr.2.2 hne1 hne2
      have HRW := Lib.hid (And.intro hRW2 (And.intro htr.1 ((HT5.out.2.1.trans (hS.mono HT5.out.2.1.size)).trans htr.2.1)))
      clear hfr hTW htr hgW hcsg hmb hrb hne1 hne2 hRW2
      go_wp2
      go_roundw
      case rel => exact ⟨_,cnt1,HRW.out.1,HLL.out,by rw [HST.out.1,znD,hlen];exact HRW.out.2.1,HRW.out.2.2⟩
      case measure => rw [HRW.out.1.left_eq,HLEQ.out];exact HR1.out.2.1
     ·have h32' : (c == 32) = false := beq_eq_false_iff_ne.2 h32
      have hsk : zeY O s.F (fun j => left (kLit j) && !(kLit j).sameKey (kLit x)) s.out = zeY O s.F (fun j => left (kLit j)) s.out := ydQ _ _ _ _ _ x HOT.out fun a' h => by
       rw [HF.out.1] at h
       exact h32 (Prod.mk.inj (Option.some.inj h)).1
      have HSK := Lib.hid hsk
      clear hsk h32
      go_wp2
      go_roundw
      case rel => exact ⟨_,cnt1,HR1.out.1,HLL.out,by rw [HSK.out];exact HT1.out,HB1.out⟩
      case measure => rw [HR1.out.1.left_eq,HLEQ.out];exact HR1.out.2.1
def norm_squeezed.f (k : Nat) (l0 : List S56) : Option (List S56) := (norm_owners.f k l0).bind fun O =>
 if l0.length ≤ 400000 ∧ O.length = l0.length ∧ (O.all fun j => (Lit.int .i64 j).wf) = true ∧ (l0.all fun x => decide (x.f1.size ≤ 1000000)) = true then some (zkK O l0) else none
theorem norm_squeezed.calls (k : Nat) (A0 : Option Addr) (c0 : Nat) (l0 : List S56) (r : List S56) (w : World) (hr0 : Kd.C k56 w A0 l0.length l0) (hc0 : l0.length ≤ c0) (h : norm_squeezed.f k l0 = some r) :
  Calls Try.prog 111 #[.slice A0 l0.length c0] w fun e w' => ∃ v0_ : Value,e = .returned v0_ ∧ Kd.R k56 56 w' w.heap.size (fun _ => True) v0_ r ∧ Below w.heap.size w w' := by
 unfold norm_squeezed.f at h
 rw [Option.bind_eq_some_iff] at h
 obtain ⟨O,hO,h⟩ := h
 by_cases hs : l0.length ≤ 400000 ∧ O.length = l0.length ∧ (O.all fun j => (Lit.int .i64 j).wf) = true ∧ (l0.all fun x => decide (x.f1.size ≤ 1000000)) = true
 ·rw [if_pos hs] at h
  obtain rfl := Option.some.inj h
  obtain ⟨h1,h2,h3,h4⟩ := hs
  exact zyC k A0 c0 l0 O w hr0 hc0 h1 hO h2 (List.all_eq_true.mp h3) fun x hx => by simpa using List.all_eq_true.mp h4 x hx
 rw [if_neg hs] at h
 cases h
end Go.Proofs.Ythcmfjpheanphaa.Pr
namespace Go.Proofs.Ythcmfjpheanphaa.Pr
open Go.RowKit Go.Proofs.YthcmfjpheanphaaW.PrintWords Go.Proofs.YthcmfjpheanphaaW.PrintLast Go.Proofs.YthcmfjpheanphaaW.PrintMore
attribute [local go_sem] zaX zaY zbG zbI zaV zaW zaZ zbA
def stylusref05_flowed.f (a0 : Int) : Option (Bool) := if a0 = 49 then (some true) else (if a0 = 50 then (some true) else (if a0 = 51 then (some true) else (if a0 = 112 then (some true) else (if a0 = 105 then (some true) else (if a0 = 99 then (some true) else (some (a0 == 110)))))))
theorem stylusref05_flowed.calls (a0 : Int) (r : Bool) (w : World) (h : stylusref05_flowed.f a0 = some r) :
  Calls Try.prog 148 #[.int .u8 a0] w fun e w' => e = .returned (.bool r) ∧ Drawn0 w w' := by
 have H : (if a0 = 49 then (some true) else (if a0 = 50 then (some true) else (if a0 = 51 then (some true) else (if a0 = 112 then (some true) else (if a0 = 105 then (some true) else (if a0 = 99 then (some true) else (some (a0 == 110)))))))) = some r := h
 clear h
 obtain ⟨c2b0,c2b1,H⟩ | ⟨c2b0,c2b1,H⟩ := spE H
 ·obtain rfl := Option.some.inj H
  go_enter Try.func148,Try.ntmps148
  go_wp2
  go_ret
  exact ⟨qS,qW⟩
 obtain ⟨c3b0,c3b1,H⟩ | ⟨c3b0,c3b1,H⟩ := spE H
 ·obtain rfl := Option.some.inj H
  go_enter Try.func148,Try.ntmps148
  go_wp2
  go_ret
  exact ⟨qS,qW⟩
 obtain ⟨c4b0,c4b1,H⟩ | ⟨c4b0,c4b1,H⟩ := spE H
 ·obtain rfl := Option.some.inj H
  go_enter Try.func148,Try.ntmps148
  go_wp2
  go_ret
  exact ⟨qS,qW⟩
 obtain ⟨c5b0,c5b1,H⟩ | ⟨c5b0,c5b1,H⟩ := spE H
 ·obtain rfl := Option.some.inj H
  go_enter Try.func148,Try.ntmps148
  go_wp2
  go_ret
  exact ⟨qS,qW⟩
 obtain ⟨c6b0,c6b1,H⟩ | ⟨c6b0,c6b1,H⟩ := spE H
 ·obtain rfl := Option.some.inj H
  go_enter Try.func148,Try.ntmps148
  go_wp2
  go_ret
  exact ⟨qS,qW⟩
 obtain ⟨c7b0,c7b1,H⟩ | ⟨c7b0,c7b1,H⟩ := spE H
 ·obtain rfl := Option.some.inj H
  go_enter Try.func148,Try.ntmps148
  go_wp2
  go_ret
  exact ⟨qS,qW⟩
 obtain rfl := Option.some.inj H
 go_enter Try.func148,Try.ntmps148
 go_wp2
 go_ret
 exact ⟨qS,qW⟩
def zbK : Nat → List (S56) → Int → Int → Option (Int)
 | 0,_,_,_ => none
 | k + 1,x0,x1,x5 => if x5 ≥ 0 then (if 0 ≤ x5 then (if x5 < (x0.length : Int) then ((stylusref05_flowed.f ((zaA x0 x5).f0)).bind fun t328 => (if t328 = true then (if x1 < (wrap64 (x5 + ((zaA x0 x5).f3))) then (some x5) else (zbK k x0 x1 (wrap64 (x5 - 1)))) else (zbK k x0 x1 (wrap64 (x5 - 1))))) else (none)) else (none)) else (some (-1))
def stylusref05_Flow.f (k : Nat) (l0 : List (S56)) (a1 : Int) : Option (Int) := zbK k l0 a1 (wrap64 (a1 - 1))
theorem stylusref05_Flow.calls (k : Nat) (A0 : Option Addr) (c0 : Nat) (l0 : List (S56)) (a1 : Int) (r : Int) (w : World) (hr0 : Kd.C k56 w A0 l0.length l0) (hc0 : l0.length ≤ c0) (h : stylusref05_Flow.f k l0 a1 = some r) :
  Calls Try.prog 166 #[.slice A0 l0.length c0,.int .i64 a1] w fun e w' => e = .returned (.int .i64 r) ∧ Drawn0 w w' := by
 have HR0 := Aside0.mk hr0
 have HC0 := Aside0.mk hc0
 clear hr0 hc0
 have H : (zbK k l0 a1 (wrap64 (a1 - 1))) = some r := h
 clear h
 have H' := Aside0.mk H
 clear H
 go_enter Try.func166,Try.ntmps166
 go_wp2
 go_loopg [5] k (fun kq v5 w' => ∃ (x5_1 : Int),v5 = .int .i64 x5_1 ∧ Aside0 (zbK kq l0 a1 x5_1 = some r) ∧ Aside0 (kq ≤ k) ∧ Drawn0 w w')
 case atStart => exact ⟨(wrap64 (a1 - 1)),qS,H',⟨Nat.le_refl _⟩,qW⟩
 clear H'
 obtain ⟨x5_1,rfl,HA,HK1,⟨m1,rfl⟩⟩ := hrel
 cases gk with
 | zero => exact absurd HA.out (by simp [zbK])
 | succ k1 =>
 have H := HA.out
 clear HA
 simp only [zbK] at H
 obtain ⟨c3b0,H⟩ | ⟨c3b0,H⟩ := spDe H
 rotate_left
 ·obtain rfl := Option.some.inj H
  go_wp2
  go_ret
  exact ⟨qS,qW⟩
 obtain ⟨c4b0,H⟩ := spN H
 obtain ⟨c5b0,H⟩ := spN H
 obtain ⟨t328,A6,H⟩ := bdA H
 replace H : (if t328 = true then (if a1 < (wrap64 (x5_1 + ((zaA l0 x5_1).f3))) then (some x5_1) else (zbK k1 l0 a1 (wrap64 (x5_1 - 1)))) else (zbK k1 l0 a1 (wrap64 (x5_1 - 1)))) = some r := H
 by_cases c7 : t328 = true
 rotate_left
 ·replace c7 := Bool.eq_false_iff.mpr c7
  subst c7
  have H1 : (zbK k1 l0 a1 (wrap64 (x5_1 - 1))) = some r := by rw [if_neg nft] at H;exact H
  clear H
  have H := H1
  clear H1
  have H' := Aside0.mk H
  clear H
  obtain ⟨ad327,e327,p327,q327,hx327_0,hx327_1,hx327_2,hx327_3⟩ := bT56 HR0.out x5_1
  cases e327
  go_wp2_with (first | ((with_reducible refine zaE (f := 148) rfl ?_);refine zaL (some 17) rfl rfl Try.func148 (by kernel_rfl) rfl #[.int .u8 ((zaA l0 x5_1).f0)] rfl qM ?_;(with_reducible refine (stylusref05_flowed.calls ((zaA l0 x5_1).f0) false _ A6.out).mono ?_);rintro e w' ⟨rfl,⟨nd,rfl⟩⟩;refine ⟨_,rfl,?_⟩))
  go_roundg k1
  case measure => have := HK1.out;omega
  case rel => exact ⟨(wrap64 (x5_1 - 1)),qS,H',⟨by have := HK1.out;omega⟩,qW⟩
 subst c7
 have H1 : (if a1 < (wrap64 (x5_1 + ((zaA l0 x5_1).f3))) then (some x5_1) else (zbK k1 l0 a1 (wrap64 (x5_1 - 1)))) = some r := by rw [if_pos rfl] at H;exact H
 clear H
 have H := H1
 clear H1
 obtain ⟨c8b0,H⟩ | ⟨c8b0,H⟩ := spD H
 ·obtain rfl := Option.some.inj H
  obtain ⟨ad327,e327,p327,q327,hx327_0,hx327_1,hx327_2,hx327_3⟩ := bT56 HR0.out x5_1
  cases e327
  go_wp2_with (first | ((with_reducible refine zaE (f := 148) rfl ?_);refine zaL (some 17) rfl rfl Try.func148 (by kernel_rfl) rfl #[.int .u8 ((zaA l0 x5_1).f0)] rfl qM ?_;(with_reducible refine (stylusref05_flowed.calls ((zaA l0 x5_1).f0) true _ A6.out).mono ?_);rintro e w' ⟨rfl,⟨nd,rfl⟩⟩;refine ⟨_,rfl,?_⟩;have p329 : 0 ≤ (x5_1 : Int) := qD;have q329 : x5_1 < (l0.length : Int) := qD;obtain ⟨ad329,e329,hx329_0,hx329_1,hx329_2,hx329_3⟩ := zeN HR0.out x5_1 p329 q329;obtain rfl : ad327 = ad329 := (by injection e329);replace p329 := eq_true p329;replace q329 := eq_true q329))
  go_ret
  exact ⟨qS,qW⟩
 have H' := Aside0.mk H
 clear H
 obtain ⟨ad327,e327,p327,q327,hx327_0,hx327_1,hx327_2,hx327_3⟩ := bT56 HR0.out x5_1
 cases e327
 go_wp2_with (first | ((with_reducible refine zaE (f := 148) rfl ?_);refine zaL (some 17) rfl rfl Try.func148 (by kernel_rfl) rfl #[.int .u8 ((zaA l0 x5_1).f0)] rfl qM ?_;(with_reducible refine (stylusref05_flowed.calls ((zaA l0 x5_1).f0) true _ A6.out).mono ?_);rintro e w' ⟨rfl,⟨nd,rfl⟩⟩;refine ⟨_,rfl,?_⟩;have p329 : 0 ≤ (x5_1 : Int) := qD;have q329 : x5_1 < (l0.length : Int) := qD;obtain ⟨ad329,e329,hx329_0,hx329_1,hx329_2,hx329_3⟩ := zeN HR0.out x5_1 p329 q329;obtain rfl : ad327 = ad329 := (by injection e329);replace p329 := eq_true p329;replace q329 := eq_true q329))
 go_roundg k1
 case measure => have := HK1.out;omega
 case rel => exact ⟨(wrap64 (x5_1 - 1)),qS,H',⟨by have := HK1.out;omega⟩,qW⟩
mutual
def zbP : Nat → List (S56) → Int → List (S184) → Int → Option ((List (S184)))
 | 0,_,_,_,_ => none
 | k + 1,x0,x1,x5,x6 => if 0 ≤ x1 then (if x1 < (x0.length : Int) then (if x6 < (wrap64 (x1 + ((zaA x0 x1).f3))) then (if 0 ≤ x6 then (if x6 < (x0.length : Int) then (if ((zaA x0 x6).f0) = 46 then ((stylusref05_Flow.f k x0 x6).bind fun t332 => (zdV k x0 x1 x5 x6 (t332 != x1))) else (zdV k x0 x1 x5 x6 true)) else (none)) else (none)) else (some x5)) else (none)) else (none)
def zdV : Nat → List (S56) → Int → List (S184) → Int → Bool → Option ((List (S184)))
 | 0,_,_,_,_,_ => none
 | k + 1,x0,x1,x5,x6,x34 => if x34 = true then (zbP k x0 x1 x5 (wrap64 (x6 + 1))) else (zbD k x0 x1 x5 x6 0)
def zbD : Nat → List (S56) → Int → List (S184) → Int → Int → Option ((List (S184)))
 | 0,_,_,_,_,_ => none
 | k + 1,x0,x1,x5,x6,x7 => if 0 ≤ x6 then (if x6 < (x0.length : Int) then (if x7 < (((zaA x0 x6).f1).size : Int) then (if 0 ≤ x7 then ((stylusref01_White.f (bt ((zaA x0 x6).f1) x7)).bind fun t335 => (if t335 = true then (if x7 = 0 then (if x5.length < 5864062014805 then (zbD k x0 x1 (x5 ++ [(⟨32,x6,x7⟩ : S184)]) x6 (wrap64 (x7 + 1))) else (none)) else (if 0 ≤ (wrap64 (x7 - 1)) then (if (wrap64 (x7 - 1)) < (((zaA x0 x6).f1).size : Int) then ((stylusref01_White.f (bt ((zaA x0 x6).f1) (wrap64 (x7 - 1)))).bind fun t340 => (if t340 = true then (zbD k x0 x1 x5 x6 (wrap64 (x7 + 1))) else (if x5.length < 5864062014805 then (zbD k x0 x1 (x5 ++ [(⟨32,x6,x7⟩ : S184)]) x6 (wrap64 (x7 + 1))) else (none)))) else (none)) else (none))) else (if x5.length < 5864062014805 then (zbD k x0 x1 (x5 ++ [(⟨bt ((zaA x0 x6).f1) x7,x6,x7⟩ : S184)]) x6 (wrap64 (x7 + 1))) else (none)))) else (none)) else (zbP k x0 x1 x5 (wrap64 (x6 + 1)))) else (none)) else (none)
end
def stylusref05_Spots.f (k : Nat) (l0 : List (S56)) (a1 : Int) : Option ((List (S184))) := zbP k l0 a1 ([] : List (S184)) (wrap64 (a1 + 1))
theorem stylusref05_Spots.calls (k : Nat) (A0 : Option Addr) (c0 : Nat) (l0 : List (S56)) (a1 : Int) (r : List (S184)) (w : World) (hr0 : Kd.C k56 w A0 l0.length l0) (hc0 : l0.length ≤ c0) (h : stylusref05_Spots.f k l0 a1 = some r) :
  Calls Try.prog 150 #[.slice A0 l0.length c0,.int .i64 a1] w fun e w' => ∃ v0_ : Value,e = .returned (v0_) ∧ Kd.R k184 184 w' w.heap.size (fun _ => True) v0_ r ∧ Below w.heap.size w w' := by
 have hu184 := Try.underlying184
 have HR0 := Aside0.mk hr0
 have HC0 := Aside0.mk hc0
 clear hr0 hc0
 have HB := Aside0.mk (Below.refl w.heap.size w)
 have H : (zbP k l0 a1 ([] : List (S184)) (wrap64 (a1 + 1))) = some r := h
 clear h
 have H' := Aside0.mk H
 clear H
 go_enter Try.func150,Try.ntmps150
 go_wp2
 go_loopg [5,6] k (fun kq v5 v6 w' => ∃ (x5_1 : List (S184)) (x6_1 : Int),v6 = .int .i64 x6_1 ∧ Aside0 (zbP kq l0 a1 x5_1 x6_1 = some r) ∧ Aside0 (kq ≤ k) ∧ Aside0 (Kd.R k184 184 w' w.heap.size (fun _ => True) v5 x5_1) ∧ Aside0 (Below w.heap.size w w'))
 case atStart => exact ⟨(([] : List (S184))),(wrap64 (a1 + 1)),qS,H',⟨Nat.le_refl _⟩,⟨qN⟩,⟨qB⟩⟩
 clear H'
 obtain ⟨x5_1,x6_1,rfl,HA,HK1,HO_5,HB⟩ := hrel
 cases gk with
 | zero => exact absurd HA.out (by simp [zbP])
 | succ k1 =>
 have H := HA.out
 clear HA
 simp only [zbP] at H
 obtain ⟨c3b0,H⟩ := spN H
 obtain ⟨c4b0,H⟩ := spN H
 obtain ⟨c5b0,H⟩ | ⟨c5b0,H⟩ := spD H
 rotate_left
 ·obtain rfl := Option.some.inj H
  obtain ⟨ad330,e330,p330,q330,hx330_0,hx330_1,hx330_2,hx330_3⟩ := aT56 HR0 HB a1
  cases e330
  go_wp2
  go_ret
  exact ⟨_,qE,qR HO_5,qB⟩
 have HC6 := Aside0.mk H
 clear H
 obtain ⟨ad330,e330,p330,q330,hx330_0,hx330_1,hx330_2,hx330_3⟩ := aT56 HR0 HB a1
 cases e330
 go_upto_region 5 with (fail)
 go_cut [34] (fun v34 wc => ∃ (kq : Nat) (x34_5 : Bool),v34 = .bool x34_5 ∧ Aside0 (zdV kq l0 a1 x5_1 x6_1 x34_5 = some r) ∧ Aside0 (kq ≤ k1) ∧ Aside0 (Kd.R k184 184 wc w.heap.size (fun _ => True) u5 x5_1) ∧ Aside0 (Below w.heap.size w wc))
 case first =>
  have H := HC6.out
  clear HC6
  obtain ⟨c7b0,H⟩ := spN H
  (first | rw [c7b0] | (simp only [zaO,zaR];rw [c7b0]) | skip)
  obtain ⟨c8b0,H⟩ := spN H
  obtain ⟨c9b0,c9b1,H⟩ | ⟨c9b0,c9b1,H⟩ := spE H
  ·obtain ⟨t332,A10,H⟩ := bdA H
   have H' := Aside0.mk H
   clear H
   obtain ⟨ad331,e331,p331,q331,hx331_0,hx331_1,hx331_2,hx331_3⟩ := aT56 HR0 HB x6_1
   obtain rfl : ad330 = ad331 := (by injection e331)
   go_wp2_with (first | (go_at_call 166;(with_reducible refine (stylusref05_Flow.calls k1 _ _ l0 x6_1 t332 _ ?side1 ?side2 A10.out).mono ?_);(case side1 => exact qC ((Kd.C_below HR0.out HB.out)));(case side2 => exact HC0.out);rintro e w' ⟨rfl,⟨nd,rfl⟩⟩))
   go_meet
   case rel => exact ⟨_,((t332 != a1)),qS,H',⟨by have := HK1.out;first | omega | exact Nat.le_refl _⟩,⟨qR HO_5⟩,⟨qB⟩⟩
  have H' := Aside0.mk H
  clear H
  obtain ⟨ad331,e331,p331,q331,hx331_0,hx331_1,hx331_2,hx331_3⟩ := aT56 HR0 HB x6_1
  obtain rfl : ad330 = ad331 := (by injection e331)
  go_wp2
  go_meet
  case rel => exact ⟨_,(true),qS,H',⟨by have := HK1.out;first | omega | exact Nat.le_refl _⟩,⟨qR HO_5⟩,⟨qB⟩⟩
 clear HC6
 obtain ⟨kq,x34_5,rfl,HA,HJ5,HO_5,HB⟩ := hcut
 cases kq with
 | zero => exact absurd HA.out (by simp [zdV])
 | succ kj5 =>
 have H := HA.out
 clear HA
 simp only [zdV] at H
 by_cases c11 : x34_5 = true
 ·subst c11
  rw [if_pos rfl] at H
  have H' := Aside0.mk H
  clear H
  go_wp2
  go_roundg kj5
  case measure => have := HK1.out;have := HJ5.out;omega
  case rel => exact ⟨(x5_1),(wrap64 (x6_1 + 1)),qS,H',⟨by have := HK1.out;have := HJ5.out;omega⟩,⟨qR HO_5⟩,⟨qB⟩⟩
 replace c11 := Bool.eq_false_iff.mpr c11
 subst c11
 rw [if_neg nft] at H
 have H' := Aside0.mk H
 clear H
 go_wp2
 go_loopg [5,7] kj5 (fun kq v5 v7 w' => ∃ (x5_3 : List (S184)) (x7_3 : Int),v7 = .int .i64 x7_3 ∧ Aside0 (zbD kq l0 a1 x5_3 x6_1 x7_3 = some r) ∧ Aside0 (kq ≤ kj5) ∧ Aside0 (Kd.R k184 184 w' w.heap.size (fun _ => True) v5 x5_3) ∧ Aside0 (Below w.heap.size w w'))
 case atStart => exact ⟨(x5_1),(0),qS,H',⟨Nat.le_refl _⟩,⟨qR HO_5⟩,⟨qB⟩⟩
 clear H'
 obtain ⟨x5_3,x7_3,rfl,HA,HK3,HO_5,HB⟩ := hrel
 cases gk with
 | zero => exact absurd HA.out (by simp [zbD])
 | succ k3 =>
 have H := HA.out
 clear HA
 simp only [zbD] at H
 obtain ⟨c12b0,H⟩ := spN H
 obtain ⟨c13b0,H⟩ := spN H
 obtain ⟨c14b0,H⟩ | ⟨c14b0,H⟩ := spD H
 rotate_left
 ·have H' := Aside0.mk H
  clear H
  obtain ⟨ad333,e333,p333,q333,hx333_0,hx333_1,hx333_2,hx333_3⟩ := aT56 HR0 HB x6_1
  obtain rfl : ad330 = ad333 := (by injection e333)
  go_wp2
  go_roundg k3
  case measure => have := HK1.out;have := HJ5.out;have := HK3.out;omega
  case rel => exact ⟨(x5_3),(wrap64 (x6_1 + 1)),qS,H',⟨by have := HK1.out;have := HJ5.out;have := HK3.out;omega⟩,⟨qR HO_5⟩,⟨qB⟩⟩
 obtain ⟨c15b0,H⟩ := spN H
 obtain ⟨t335,A17,H⟩ := bdA H
 by_cases c18 : t335 = true
 rotate_left
 ·replace c18 := Bool.eq_false_iff.mpr c18
  subst c18
  rw [if_neg nft] at H
  obtain ⟨LMc30,H⟩ := spL H
  obtain ⟨y344,hy344⟩ : ∃ y_ : List (S184),y_ = (x5_3 ++ [(⟨bt ((zaA l0 x6_1).f1) x7_3,x6_1,x7_3⟩ : S184)]) := ⟨_,rfl⟩
  replace H : (zbD k3 l0 a1 y344 x6_1 (wrap64 (x7_3 + 1))) = some r := by first | (rw [hy344];with_reducible exact H) | (have H2_ := (Option.bind_some _ _).symm.trans H;rw [hy344];with_reducible exact H2_) | (have H2_ := (Option.bind_some _ _).symm.trans H;with_reducible exact H2_) | with_reducible exact H | (rw [hy344];exact H) | exact H
  have Ny344 := Aside0.mk hy344
  clear hy344
  have H' := Aside0.mk H
  clear H
  obtain ⟨ad333,e333,p333,q333,hx333_0,hx333_1,hx333_2,hx333_3⟩ := aT56 HR0 HB x6_1
  obtain rfl : ad330 = ad333 := (by injection e333)
  obtain ⟨ad334,e334,p334,q334,hx334_0,hx334_1,hx334_2,hx334_3⟩ := aT56 HR0 HB x6_1
  obtain rfl : ad330 = ad334 := (by injection e334)
  have p16 : 0 ≤ (x7_3 : Int) := qD
  have q16 : x7_3 < (((zaA l0 x6_1).f1).size : Int) := qD
  have hx16 := zfI ((zaA l0 x6_1).f1) x7_3
  replace p16 := eq_true p16
  replace q16 := eq_true q16
  go_wp2_with (first | ((with_reducible refine zaE (f := 84) rfl ?_);refine zaL (some 53) rfl rfl Try.func84 (by kernel_rfl) rfl #[.int .u8 (bt ((zaA l0 x6_1).f1) x7_3)] rfl qM ?_;(with_reducible refine (stylusref01_White.calls (bt ((zaA l0 x6_1).f1) x7_3) false _ A17.out).mono ?_);rintro e w' ⟨rfl,⟨nd,rfl⟩⟩;refine ⟨_,rfl,?_⟩) | ((with_reducible refine zcJ (b := .append) (xs := #[.tmp 55,.tmp 60]) rfl ?_);at_builtin;refine Kd.R_append k184 (w0 := w) w.heap.size rfl (.tmp 55) (.tmp 60) 180 184 (.agg #[(.int .u8 0),(.int .i64 0),(.int .i64 0)]) 24 rfl Try.underlying180 znY rfl (by decide) (by omega) u5 x5_3 (⟨bt ((zaA l0 x6_1).f1) x7_3,x6_1,x7_3⟩ : S184) [.int .u8 (bt ((zaA l0 x6_1).f1) x7_3),.int .i64 x6_1,.int .i64 x7_3] (fun _ => True) (fun _ => False) rfl rfl ?aP (fun _ hk => hk.elim) ?aF ?aO ?aB ?aS ?aL ?_;(case aP => exact zmH _ _ _ (⟨bt ((zaA l0 x6_1).f1) x7_3,x6_1,x7_3⟩ : S184));(case aB => exact qB);(case aF => exact (fun _ _ => trivial));(case aO => exact qR HO_5);(case aS => exact (zaF qB));(case aL => have := LMc30.out;omega);intro v345 w31 ho hb hg hat;rw [← Ny344.out] at ho;obtain ⟨_,_⟩ := a2 hb ho;clear HB HO_5 ho hb hg hat;rename_i HB HO346))
  go_roundg k3
  case measure => have := HK1.out;have := HJ5.out;have := HK3.out;omega
  case rel => exact ⟨(y344),(wrap64 (x7_3 + 1)),qS,H',⟨by have := HK1.out;have := HJ5.out;have := HK3.out;omega⟩,⟨qR HO346⟩,⟨qB⟩⟩
 subst c18
 rw [if_pos rfl] at H
 obtain ⟨c19b0,c19b1,H⟩ | ⟨c19b0,c19b1,H⟩ := spE H
 ·obtain ⟨LMc20,H⟩ := spL H
  obtain ⟨y336,hy336⟩ : ∃ y_ : List (S184),y_ = (x5_3 ++ [(⟨32,x6_1,x7_3⟩ : S184)]) := ⟨_,rfl⟩
  replace H : (zbD k3 l0 a1 y336 x6_1 (wrap64 (x7_3 + 1))) = some r := by first | (rw [hy336];with_reducible exact H) | (have H2_ := (Option.bind_some _ _).symm.trans H;rw [hy336];with_reducible exact H2_) | (have H2_ := (Option.bind_some _ _).symm.trans H;with_reducible exact H2_) | with_reducible exact H | (rw [hy336];exact H) | exact H
  have Ny336 := Aside0.mk hy336
  clear hy336
  have H' := Aside0.mk H
  clear H
  obtain ⟨ad333,e333,p333,q333,hx333_0,hx333_1,hx333_2,hx333_3⟩ := aT56 HR0 HB x6_1
  obtain rfl : ad330 = ad333 := (by injection e333)
  obtain ⟨ad334,e334,p334,q334,hx334_0,hx334_1,hx334_2,hx334_3⟩ := aT56 HR0 HB x6_1
  obtain rfl : ad330 = ad334 := (by injection e334)
  have p16 : 0 ≤ (x7_3 : Int) := qD
  have q16 : x7_3 < (((zaA l0 x6_1).f1).size : Int) := qD
  have hx16 := zfI ((zaA l0 x6_1).f1) x7_3
  replace p16 := eq_true p16
  replace q16 := eq_true q16
  go_wp2_with (first | ((with_reducible refine zaE (f := 84) rfl ?_);refine zaL (some 53) rfl rfl Try.func84 (by kernel_rfl) rfl #[.int .u8 (bt ((zaA l0 x6_1).f1) x7_3)] rfl qM ?_;(with_reducible refine (stylusref01_White.calls (bt ((zaA l0 x6_1).f1) x7_3) true _ A17.out).mono ?_);rintro e w' ⟨rfl,⟨nd,rfl⟩⟩;refine ⟨_,rfl,?_⟩) | ((with_reducible refine zcJ (b := .append) (xs := #[.tmp 76,.tmp 80]) rfl ?_);at_builtin;refine Kd.R_append k184 (w0 := w) w.heap.size rfl (.tmp 76) (.tmp 80) 180 184 (.agg #[(.int .u8 0),(.int .i64 0),(.int .i64 0)]) 24 rfl Try.underlying180 znY rfl (by decide) (by omega) u5 x5_3 (⟨32,x6_1,x7_3⟩ : S184) [.int .u8 32,.int .i64 x6_1,.int .i64 x7_3] (fun _ => True) (fun _ => False) rfl rfl ?aP (fun _ hk => hk.elim) ?aF ?aO ?aB ?aS ?aL ?_;(case aP => exact zmH _ _ _ (⟨32,x6_1,x7_3⟩ : S184));(case aB => exact qB);(case aF => exact (fun _ _ => trivial));(case aO => exact qR HO_5);(case aS => exact (zaF qB));(case aL => have := LMc20.out;omega);intro v337 w21 ho hb hg hat;rw [← Ny336.out] at ho;obtain ⟨_,_⟩ := a2 hb ho;clear HB HO_5 ho hb hg hat;rename_i HB HO338))
  go_roundg k3
  case measure => have := HK1.out;have := HJ5.out;have := HK3.out;omega
  case rel => exact ⟨(y336),(wrap64 (x7_3 + 1)),qS,H',⟨by have := HK1.out;have := HJ5.out;have := HK3.out;omega⟩,⟨qR HO338⟩,⟨qB⟩⟩
 obtain ⟨ji22,hji22⟩ : ∃ j_ : Int,(wrap64 (x7_3 - 1)) = j_ := ⟨_,rfl⟩
 replace H : (if 0 ≤ (ji22) then (if (ji22) < (((zaA l0 x6_1).f1).size : Int) then ((stylusref01_White.f (bt ((zaA l0 x6_1).f1) (ji22))).bind fun t340 => (if t340 = true then (zbD k3 l0 a1 x5_3 x6_1 (wrap64 (x7_3 + 1))) else (if x5_3.length < 5864062014805 then (zbD k3 l0 a1 (x5_3 ++ [(⟨32,x6_1,x7_3⟩ : S184)]) x6_1 (wrap64 (x7_3 + 1))) else (none)))) else (none)) else (none)) = some r := by first | (rw [hji22] at H;exact H) | (simp only [hji22] at H ⊢;exact H)
 (try rw [hji22] at A17)
 have hji22w : (IntKind.i64.wrap (x7_3 - 1)) = ji22 := (zaO _).trans hji22
 obtain ⟨c23b0,H⟩ := spN H
 obtain ⟨c24b0,H⟩ := spN H
 obtain ⟨t340,A26,H⟩ := bdA H
 by_cases c27 : t340 = true
 ·subst c27
  rw [if_pos rfl] at H
  have H' := Aside0.mk H
  clear H
  obtain ⟨ad333,e333,p333,q333,hx333_0,hx333_1,hx333_2,hx333_3⟩ := aT56 HR0 HB x6_1
  obtain rfl : ad330 = ad333 := (by injection e333)
  obtain ⟨ad334,e334,p334,q334,hx334_0,hx334_1,hx334_2,hx334_3⟩ := aT56 HR0 HB x6_1
  obtain rfl : ad330 = ad334 := (by injection e334)
  have p16 : 0 ≤ (x7_3 : Int) := qD
  have q16 : x7_3 < (((zaA l0 x6_1).f1).size : Int) := qD
  have hx16 := zfI ((zaA l0 x6_1).f1) x7_3
  replace p16 := eq_true p16
  replace q16 := eq_true q16
  go_wp2_with (first | ((with_reducible refine zaE (f := 84) rfl ?_);refine zaL (some 53) rfl rfl Try.func84 (by kernel_rfl) rfl #[.int .u8 (bt ((zaA l0 x6_1).f1) x7_3)] rfl qM ?_;(with_reducible refine (stylusref01_White.calls (bt ((zaA l0 x6_1).f1) x7_3) true _ A17.out).mono ?_);rintro e w' ⟨rfl,⟨nd,rfl⟩⟩;refine ⟨_,rfl,?_⟩;have p339 : 0 ≤ (x6_1 : Int) := qD;have q339 : x6_1 < (l0.length : Int) := qD;obtain ⟨ad339,e339,hx339_0,hx339_1,hx339_2,hx339_3⟩ := zeN HR0.out x6_1 p339 q339;obtain rfl : ad330 = ad339 := (by injection e339);replace hx339_0 := qH HB hx339_0;replace hx339_1 := qH HB hx339_1;replace hx339_2 := qH HB hx339_2;replace hx339_3 := qH HB hx339_3;replace p339 := eq_true p339;replace q339 := eq_true q339;have p25 : 0 ≤ ((ji22) : Int) := qD;have q25 : (ji22) < (((zaA l0 x6_1).f1).size : Int) := qD;have hx25 := zfI ((zaA l0 x6_1).f1) (ji22);replace p25 := eq_true p25;replace q25 := eq_true q25) | (go_at_call 84;(with_reducible refine (stylusref01_White.calls (bt ((zaA l0 x6_1).f1) (ji22)) true _ A26.out).mono ?_);rintro e w' ⟨rfl,⟨nd,rfl⟩⟩))
  go_roundg k3
  case measure => have := HK1.out;have := HJ5.out;have := HK3.out;omega
  case rel => exact ⟨(x5_3),(wrap64 (x7_3 + 1)),qS,H',⟨by have := HK1.out;have := HJ5.out;have := HK3.out;omega⟩,⟨qR HO_5⟩,⟨qB⟩⟩
 replace c27 := Bool.eq_false_iff.mpr c27
 subst c27
 rw [if_neg nft] at H
 obtain ⟨LMc28,H⟩ := spL H
 obtain ⟨y341,hy341⟩ : ∃ y_ : List (S184),y_ = (x5_3 ++ [(⟨32,x6_1,x7_3⟩ : S184)]) := ⟨_,rfl⟩
 replace H : (zbD k3 l0 a1 y341 x6_1 (wrap64 (x7_3 + 1))) = some r := by first | (rw [hy341];with_reducible exact H) | (have H2_ := (Option.bind_some _ _).symm.trans H;rw [hy341];with_reducible exact H2_) | (have H2_ := (Option.bind_some _ _).symm.trans H;with_reducible exact H2_) | with_reducible exact H | (rw [hy341];exact H) | exact H
 have Ny341 := Aside0.mk hy341
 clear hy341
 have H' := Aside0.mk H
 clear H
 obtain ⟨ad333,e333,p333,q333,hx333_0,hx333_1,hx333_2,hx333_3⟩ := aT56 HR0 HB x6_1
 obtain rfl : ad330 = ad333 := (by injection e333)
 obtain ⟨ad334,e334,p334,q334,hx334_0,hx334_1,hx334_2,hx334_3⟩ := aT56 HR0 HB x6_1
 obtain rfl : ad330 = ad334 := (by injection e334)
 have p16 : 0 ≤ (x7_3 : Int) := qD
 have q16 : x7_3 < (((zaA l0 x6_1).f1).size : Int) := qD
 have hx16 := zfI ((zaA l0 x6_1).f1) x7_3
 replace p16 := eq_true p16
 replace q16 := eq_true q16
 go_wp2_with (first | ((with_reducible refine zaE (f := 84) rfl ?_);refine zaL (some 53) rfl rfl Try.func84 (by kernel_rfl) rfl #[.int .u8 (bt ((zaA l0 x6_1).f1) x7_3)] rfl qM ?_;(with_reducible refine (stylusref01_White.calls (bt ((zaA l0 x6_1).f1) x7_3) true _ A17.out).mono ?_);rintro e w' ⟨rfl,⟨nd,rfl⟩⟩;refine ⟨_,rfl,?_⟩;have p339 : 0 ≤ (x6_1 : Int) := qD;have q339 : x6_1 < (l0.length : Int) := qD;obtain ⟨ad339,e339,hx339_0,hx339_1,hx339_2,hx339_3⟩ := zeN HR0.out x6_1 p339 q339;obtain rfl : ad330 = ad339 := (by injection e339);replace hx339_0 := qH HB hx339_0;replace hx339_1 := qH HB hx339_1;replace hx339_2 := qH HB hx339_2;replace hx339_3 := qH HB hx339_3;replace p339 := eq_true p339;replace q339 := eq_true q339;have p25 : 0 ≤ ((ji22) : Int) := qD;have q25 : (ji22) < (((zaA l0 x6_1).f1).size : Int) := qD;have hx25 := zfI ((zaA l0 x6_1).f1) (ji22);replace p25 := eq_true p25;replace q25 := eq_true q25) | (go_at_call 84;(with_reducible refine (stylusref01_White.calls (bt ((zaA l0 x6_1).f1) (ji22)) false _ A26.out).mono ?_);rintro e w' ⟨rfl,⟨nd,rfl⟩⟩) | ((with_reducible refine zcJ (b := .append) (xs := #[.tmp 76,.tmp 80]) rfl ?_);at_builtin;refine Kd.R_append k184 (w0 := w) w.heap.size rfl (.tmp 76) (.tmp 80) 180 184 (.agg #[(.int .u8 0),(.int .i64 0),(.int .i64 0)]) 24 rfl Try.underlying180 znY rfl (by decide) (by omega) u5 x5_3 (⟨32,x6_1,x7_3⟩ : S184) [.int .u8 32,.int .i64 x6_1,.int .i64 x7_3] (fun _ => True) (fun _ => False) rfl rfl ?aP (fun _ hk => hk.elim) ?aF ?aO ?aB ?aS ?aL ?_;(case aP => exact zmH _ _ _ (⟨32,x6_1,x7_3⟩ : S184));(case aB => exact qB);(case aF => exact (fun _ _ => trivial));(case aO => exact qR HO_5);(case aS => exact (zaF qB));(case aL => have := LMc28.out;omega);intro v342 w29 ho hb hg hat;rw [← Ny341.out] at ho;obtain ⟨_,_⟩ := a2 hb ho;clear HB HO_5 ho hb hg hat;rename_i HB HO343))
 go_roundg k3
 case measure => have := HK1.out;have := HJ5.out;have := HK3.out;omega
 case rel => exact ⟨(y341),(wrap64 (x7_3 + 1)),qS,H',⟨by have := HK1.out;have := HJ5.out;have := HK3.out;omega⟩,⟨qR HO343⟩,⟨qB⟩⟩
end Go.Proofs.Ythcmfjpheanphaa.Pr
