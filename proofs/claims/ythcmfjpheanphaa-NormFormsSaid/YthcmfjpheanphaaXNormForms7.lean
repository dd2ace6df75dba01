/- Texts of this seat, one behind the other. -/
import Derived.Test.YthcmfjpheanphaaXNormForms6
set_option linter.unusedVariables false
set_option linter.unusedSimpArgs false
set_option maxHeartbeats 16000000
set_option maxRecDepth 100000
namespace Go.Proofs.Ythcmfjpheanphaa.Pr
open Go.RowKit Go.Proofs.YthcmfjpheanphaaW.PrintWords
abbrev PT := Nat × ByteArray
def isT (t : List S56) (q : Nat) : Bool := (zaA t q).f0 == 46
def sz (t : List S56) (q : Nat) : Nat := (zaA t q).f3.toNat
def cn (t : List S56) (L : List PT) (q : Nat) : Nat := L.countP fun x => decide (q ≤ x.1) && decide (x.1 < q + sz t q)
def nd (t : List S56) (L : List PT) (p : PT) : S56 := ⟨(zaA t p.1).f0,p.2,(zaA t p.1).f2,(cn t L p.1 : Int)⟩
def nodes (t : List S56) (L : List PT) : List S56 := L.map (nd t L)
theorem zdH (t : List S56) (L : List PT) : (nodes t L).length = L.length := by simp [nodes]
structure Nst (t : List S56) : Prop where
 pos : ∀ i,i < t.length → 1 ≤ (zaA t i).f3
 lim : ∀ i,i < t.length → i + sz t i ≤ t.length
 nest : ∀ i j,i < t.length → i < j → j < i + sz t i → j + sz t j ≤ i + sz t i
 txt : ∀ i,i < t.length → isT t i = true → (zaA t i).f3 = 1
theorem zoS (t : List S56) : ∀ (n a e : Nat),e - a ≤ n → zeH t a e = true → ∀ i j,a ≤ i → i < e → i < j → j < i + sz t i → j + sz t j ≤ i + sz t i
 | 0,a,e,hn,_ => fun i j h1 h2 => by omega
 | n + 1,a,e,hn,hs => fun i j h1 h2 h3 h4 => by
  rw [ziW t a e (by omega)] at hs
  by_cases hc : 1 ≤ (zaA t a).f3 ∧ (zaA t a).f3 ≤ (e : Int) - a
  ·rw [if_pos hc,Bool.and_eq_true] at hs
   rcases Nat.lt_or_ge i (a + sz t a) with e2 | e2
   ·rcases Nat.eq_or_lt_of_le h1 with e1 | e1
    ·subst e1
     have := ziJ t n (a + 1) _ (by omega) hs.1 j (by omega) h4
     unfold sz at *
     omega
    exact zoS t n (a + 1) _ (by omega) hs.1 i j (by omega) e2 h3 h4
   unfold sz at e2
   exact zoS t n _ e (by omega) hs.2 i j e2 h2 h3 h4
  rw [if_neg hc] at hs
  cases hs
theorem Nst.of {t : List S56} (hs : zeH t 0 t.length = true) (hp : ∀ x ∈ t,x.f0 = 46 → x.f3 = 1) : Nst t where
 pos := fun i hi => (ziJ t t.length 0 t.length (by omega) hs i (by omega) hi).1
 lim := fun i hi => by
  have := ziJ t t.length 0 t.length (by omega) hs i (by omega) hi
  unfold sz
  omega
 nest := fun i j hi h1 h2 => zoS t t.length 0 t.length (by omega) hs i j (by omega) hi h1 h2
 txt := fun i hi h => by
  refine hp _ ?_ (by unfold isT at h;exact beq_iff_eq.1 h)
  unfold zaA
  rw [Int.toNat_natCast,List.getD_eq_getElem?_getD,List.getElem?_eq_getElem hi]
  exact List.getElem_mem _
def parG (t : List S56) (i : Nat) : Nat → Int
 | 0 => -1
 | q + 1 => if i < q + sz t q then (q : Int) else parG t i q
def par (t : List S56) (i : Nat) : Int := parG t i i
theorem zvU (t : List S56) (i q : Nat) (h : i < q + sz t q) : ∀ m : Nat,q < m → (∀ r,q < r → r < m → ¬ i < r + sz t r) → parG t i m = q
 | 0,hm,_ => by omega
 | m + 1,hm,hr => by
  unfold parG
  by_cases e : m = q
  ·subst e
   rw [if_pos h]
  rw [if_neg (hr m (by omega) (by omega))]
  exact zvU t i q h m (by omega) fun r h1 h2 => hr r h1 (by omega)
theorem zpY (t : List S56) (i : Nat) : ∀ m : Nat,(∀ r,r < m → ¬ i < r + sz t r) → parG t i m = -1
 | 0,_ => rfl
 | m + 1,hr => by
  unfold parG
  rw [if_neg (hr m (by omega))]
  exact zpY t i m fun r h => hr r (by omega)
theorem ybW (t : List S56) (i q : Nat) (h : i < q + sz t q) : ∀ m : Nat,q < m → (q : Int) ≤ parG t i m
 | 0,hm => by omega
 | m + 1,hm => by
  unfold parG
  by_cases e : i < m + sz t m
  ·rw [if_pos e];omega
  rw [if_neg e]
  rcases Nat.eq_or_lt_of_le (Nat.lt_succ_iff.1 hm) with e2 | e2
  ·subst e2;exact absurd h e
  exact ybW t i q h m e2
structure Lvl (t : List S56) (s e a : Nat) : Prop where
 le : s ≤ a
 lim : e ≤ t.length
 top : (s = 0 ∧ e = t.length) ∨ (0 < s ∧ e = s - 1 + sz t (s - 1))
 sib : ∀ q,s ≤ q → q < a → q + sz t q ≤ a
theorem Lvl.par {t : List S56} {s e a : Nat} (h : Lvl t s e a) (hN : Nst t) (ha : a < e) : par t a = (s : Int) - 1 := by
 unfold Pr.par
 rcases Nat.eq_zero_or_pos s with e0 | e0
 ·subst e0
  rw [zpY t a a fun r hr => by have := h.sib r (by omega) hr;omega]
  rfl
 have ht : e = s - 1 + sz t (s - 1) := by rcases h.top with h0 | h0 <;> omega
 have hle := h.le
 rw [zvU t a (s - 1) (by omega) a (by omega) fun r h1 h2 => by have := h.sib r (by omega) h2;omega]
 omega
theorem Lvl.fits {t : List S56} {s e a : Nat} (h : Lvl t s e a) (hN : Nst t) (ha : a < e) : a + sz t a ≤ e := by
 rcases h.top with ⟨h1,h2⟩ | ⟨h1,h2⟩
 ·rw [h2];exact hN.lim a (by omega)
 rw [h2];exact hN.nest (s - 1) a (by have := h.lim;have := h.le;omega) (by have := h.le;omega) (by omega)
theorem Lvl.next {t : List S56} {s e a : Nat} (h : Lvl t s e a) (hN : Nst t) (ha : a < e) : Lvl t s e (a + sz t a) := by
 refine ⟨by have := h.le;omega,h.lim,h.top,fun q h1 h2 => ?_⟩
 rcases Nat.lt_or_ge q a with h3 | h3
 ·have := h.sib q h1 h3;omega
 rcases Nat.eq_or_lt_of_le h3 with h4 | h4
 ·subst h4;exact Nat.le_refl _
 exact hN.nest a q (by have := h.lim;omega) h4 h2
theorem Lvl.inner {t : List S56} {s e a : Nat} (h : Lvl t s e a) (hN : Nst t) (ha : a < e) : Lvl t (a + 1) (a + sz t a) (a + 1) :=
 ⟨Nat.le_refl _,hN.lim a (by have := h.lim;omega),Or.inr ⟨by omega,by simp⟩,fun q h1 h2 => by omega⟩
theorem Lvl.root (t : List S56) : Lvl t 0 t.length 0 := ⟨Nat.le_refl _,Nat.le_refl _,Or.inl ⟨rfl,rfl⟩,fun q _ h => by omega⟩
def push (t : List S56) (P : List PT) (x : PT) : List PT :=
 match P.getLast? with
 | some p => if isT t p.1 = true ∧ isT t x.1 = true ∧ par t p.1 = par t x.1 then P.dropLast ++ [(p.1,p.2 ++ x.2)] else P ++ [x]
 | none => [x]
def zfF (t : List S56) (i : Nat) : Bool := !(isT t i && decide ((zaA t i).f1.size = 0))
def live (t : List S56) (a n : Nat) : List PT := ((List.range' a n).filter (zfF t)).map fun i => (i,(zaA t i).f1)
def pk (t : List S56) (a e : Nat) : List PT := (live t a (e - a)).foldl (push t) []
theorem zwR (t : List S56) (a : Nat) : live t a 0 = [] := rfl
theorem zwS (t : List S56) (a n : Nat) : live t a (n + 1) = (if zfF t a = true then [(a,(zaA t a).f1)] else []) ++ live t (a + 1) n := by
 unfold live
 rw [List.range'_succ,List.filter_cons]
 by_cases h : zfF t a = true
 ·rw [if_pos h,if_pos h];rfl
 rw [if_neg h,if_neg h];rfl
theorem zyY (t : List S56) (a m n : Nat) : live t a (m + n) = live t a m ++ live t (a + m) n := by
 unfold live
 rw [← List.map_append,← List.filter_append]
 congr 2
 rw [show a + m = a + 1 * m from by omega,List.range'_append]
theorem zoT {t : List S56} {a n : Nat} {p : PT} (h : p ∈ live t a n) : a ≤ p.1 ∧ p.1 < a + n := by
 unfold live at h
 obtain ⟨i,hi,rfl⟩ := List.mem_map.1 h
 have := List.mem_range'_1.1 (List.mem_filter.1 hi).1
 exact this
theorem push_ne (t : List S56) (P : List PT) (x : PT) : push t P x ≠ [] := by
 unfold push
 split
 ·split <;> simp
 simp
theorem zkH {α : Type} (A : List α) {B : List α} (hB : B ≠ []) : (A ++ B).getLast? = B.getLast? := by
 rw [List.getLast?_append]
 cases h : B.getLast? with
 | none => exact absurd (List.getLast?_eq_none_iff.1 h) hB
 | some x => rfl
theorem yiC (t : List S56) (A B : List PT) (x : PT) (hB : B ≠ []) : push t (A ++ B) x = A ++ push t B x := by
 unfold push
 rw [zkH _ hB]
 cases hl : B.getLast? with
 | none => exact absurd (List.getLast?_eq_none_iff.1 hl) hB
 | some p =>
 simp only
 split
 ·rw [List.dropLast_append_of_ne_nil hB,List.append_assoc]
 rw [List.append_assoc]
theorem zyZ (t : List S56) (A : List PT) : ∀ (l B : List PT),B ≠ [] → l.foldl (push t) (A ++ B) = A ++ l.foldl (push t) B
 | [],B,_ => rfl
 | x :: l,B,hB => by
  rw [List.foldl_cons,List.foldl_cons,yiC t A B x hB]
  exact zyZ t A l _ (push_ne t B x)
theorem yfN (t : List S56) (A : List PT) (p : PT) (hp : isT t p.1 = false) (l : List PT) : l.foldl (push t) (A ++ [p]) = A ++ [p] ++ l.foldl (push t) [] := by
 cases l with
 | nil => simp
 | cons x l =>
 rw [List.foldl_cons,List.foldl_cons]
 have e1 : push t (A ++ [p]) x = (A ++ [p]) ++ [x] := by
  unfold push
  rw [zkH _ (by simp)]
  simp [hp]
 have e2 : push t [] x = [x] := rfl
 rw [e1,e2]
 exact zyZ t (A ++ [p]) l [x] (by simp)
theorem yiD {t : List S56} {P : List PT} {x p : PT} (h : p ∈ push t P x) : p.1 = x.1 ∨ ∃ q ∈ P,q.1 = p.1 := by
 unfold push at h
 split at h
 ·rename_i q hq
  split at h
  ·rcases List.mem_append.1 h with h | h
   ·exact Or.inr ⟨p,List.dropLast_subset _ h,rfl⟩
   obtain rfl := List.mem_singleton.1 h
   exact Or.inr ⟨q,List.mem_of_getLast? hq,rfl⟩
  rcases List.mem_append.1 h with h | h
  ·exact Or.inr ⟨p,h,rfl⟩
  obtain rfl := List.mem_singleton.1 h
  exact Or.inl rfl
 obtain rfl := List.mem_singleton.1 h
 exact Or.inl rfl
theorem zsS {t : List S56} : ∀ {l P : List PT} {p : PT},p ∈ l.foldl (push t) P → (∃ q ∈ l,q.1 = p.1) ∨ ∃ q ∈ P,q.1 = p.1
 | [],P,p,h => Or.inr ⟨p,h,rfl⟩
 | x :: l,P,p,h => by
  rcases zsS (l := l) h with ⟨q,hq,e⟩ | ⟨q,hq,e⟩
  ·exact Or.inl ⟨q,List.mem_cons_of_mem _ hq,e⟩
  rcases yiD hq with e2 | ⟨r,hr,e2⟩
  ·exact Or.inl ⟨x,List.mem_cons_self,by rw [← e,e2]⟩
  exact Or.inr ⟨r,hr,by rw [e2,e]⟩
theorem pk_mem {t : List S56} {a e : Nat} (hae : a ≤ e) {p : PT} (h : p ∈ pk t a e) : a ≤ p.1 ∧ p.1 < e := by
 rcases zsS h with ⟨q,hq,e2⟩ | ⟨q,hq,_⟩
 ·have := zoT hq;omega
 cases hq
theorem zsT (t : List S56) : ∀ (l P : List PT),(l.foldl (push t) P).length ≤ P.length + l.length
 | [],P => Nat.le_refl _
 | x :: l,P => by
  refine Nat.le_trans (zsT t l (push t P x)) ?_
  have : (push t P x).length ≤ P.length + 1 := by
   unfold push
   split
   ·rename_i q hq
    split
    ·simp
    simp
   simp
  simp only [List.length_cons]
  omega
theorem zmL (t : List S56) (a n : Nat) : (live t a n).length ≤ n := by
 unfold live
 rw [List.length_map]
 refine Nat.le_trans (List.length_filter_le _ _) ?_
 simp
theorem zwT (t : List S56) (M : Nat) : ∀ (l P : List PT) (B : Nat),(∀ p ∈ P,p.2.size ≤ B) → (∀ p ∈ l,p.2.size ≤ M) → ∀ p ∈ l.foldl (push t) P,p.2.size ≤ B + M * l.length
 | [],P,B,hP,_ => fun p hp => by have := hP p hp;simpa using this
 | x :: l,P,B,hP,hl => fun p hp => by
  have h1 : ∀ p ∈ push t P x,p.2.size ≤ B + M := fun p hp => by
   have hx := hl x List.mem_cons_self
   unfold push at hp
   split at hp
   ·rename_i q hq
    split at hp
    ·rcases List.mem_append.1 hp with h | h
     ·have := hP p (List.dropLast_subset _ h);omega
     obtain rfl := List.mem_singleton.1 h
     have := hP q (List.mem_of_getLast? hq)
     rw [ByteArray.size_append];omega
    rcases List.mem_append.1 hp with h | h
    ·have := hP p h;omega
    obtain rfl := List.mem_singleton.1 h;omega
   obtain rfl := List.mem_singleton.1 hp;omega
  have := zwT t M l (push t P x) (B + M) h1 (fun p hp => hl p (List.mem_cons_of_mem _ hp)) p hp
  rw [List.length_cons,Nat.mul_succ]
  omega
theorem zhH (t : List S56) (A B : List PT) (q : Nat) : cn t (A ++ B) q = cn t A q + cn t B q := by simp [cn]
theorem ziK (t : List S56) (L : List PT) (q : Nat) (h : ∀ p ∈ L,¬ (q ≤ p.1 ∧ p.1 < q + sz t q)) : cn t L q = 0 := by
 unfold cn
 rw [List.countP_eq_zero]
 intro p hp
 simpa using h p hp
theorem zuB (t : List S56) (L : List PT) (q : Nat) (h : ∀ p ∈ L,q ≤ p.1 ∧ p.1 < q + sz t q) : cn t L q = L.length := by
 unfold cn
 rw [List.countP_eq_length]
 intro p hp
 simpa using h p hp
theorem zsE (t : List S56) (P I : List PT) (a : Nat) (s : ByteArray) (h1 : 1 ≤ sz t a) (hP : ∀ p ∈ P,p.1 < a ∧ p.1 + sz t p.1 ≤ a) (hI : ∀ p ∈ I,a < p.1 ∧ p.1 < a + sz t a) :
  nodes t (P ++ [(a,s)] ++ I) = nodes t P ++ [⟨(zaA t a).f0,s,(zaA t a).f2,(I.length : Int) + 1⟩] ++ nodes t I := by
 unfold nodes
 rw [List.map_append,List.map_append]
 congr 1
 ·congr 1
  ·refine List.map_congr_left fun p hp => ?_
   have := hP p hp
   unfold nd
   rw [zhH,zhH,ziK t [(a,s)] p.1 (fun x hx => by obtain rfl := List.mem_singleton.1 hx;show ¬ (p.1 ≤ a ∧ a < _);omega),ziK t I p.1 (fun x hx => by have := hI x hx;omega)]
   rfl
  rw [List.map_singleton]
  unfold nd
  rw [zhH,zhH,ziK t P a (fun x hx => by have := hP x hx;omega),zuB t [(a,s)] a (fun x hx => by obtain rfl := List.mem_singleton.1 hx;show a ≤ a ∧ a < _;omega),zuB t I a (fun x hx => by have := hI x hx;omega)]
  simp
  omega
 refine List.map_congr_left fun p hp => ?_
 have := hI p hp
 unfold nd
 rw [zhH,zhH,ziK t P p.1 (fun x hx => by have := hP x hx;omega),ziK t [(a,s)] p.1 (fun x hx => by obtain rfl := List.mem_singleton.1 hx;show ¬ (p.1 ≤ a ∧ a < _);omega)]
 simp
end Go.Proofs.Ythcmfjpheanphaa.Pr
namespace Go.Proofs.Ythcmfjpheanphaa.Pr
open Go.RowKit Go.Proofs.YthcmfjpheanphaaW.PrintWords Go.Proofs.YthcmfjpheanphaaW.PrintLast Go.Proofs.YthcmfjpheanphaaW.PrintMore
attribute [local go_sem] zaX zaY zbG zbI zaV zaW zaZ zbA
mutual
def zaS : Nat → List (S56) → Int → Int → List (S56) → Bool → Option ((List (S56)))
 | 0,_,_,_,_,_ => none
 | k + 1,x0,x1,x2,x7,x8 => if x1 < x2 then (if 0 ≤ x1 then (if x1 < (x0.length : Int) then ((norm_packed.f k x0 (wrap64 (x1 + 1)) (wrap64 (x1 + ((zaA x0 x1).f3)))).bind fun t170 => (if ((zaA x0 x1).f0) = 46 then (if ((zaA x0 x1).f1).toList = ([] : List UInt8) then (zdN k x0 (wrap64 (x1 + ((zaA x0 x1).f3))) x2 x7 x8 false ((zaA x0 x1).f0) ((zaA x0 x1).f1) ((zaA x0 x1).f2) ((zaA x0 x1).f3)) else (zdN k x0 (wrap64 (x1 + ((zaA x0 x1).f3))) x2 x7 x8 x8 ((zaA x0 x1).f0) ((zaA x0 x1).f1) ((zaA x0 x1).f2) ((zaA x0 x1).f3))) else (if x7.length < 3518437208883 then ((some (x7 ++ [(⟨(zaA x0 x1).f0,(zaA x0 x1).f1,(zaA x0 x1).f2,wrap64 ((t170.length : Int) + 1)⟩ : S56)] : List (S56))).bind fun y178 => (if y178.length + t170.length < 3518437208883 then (zaS k x0 (wrap64 (x1 + ((zaA x0 x1).f3))) x2 (y178 ++ t170) false) else (none))) else (none)))) else (none)) else (none)) else (some x7)
def zdN : Nat → List (S56) → Int → Int → List (S56) → Bool → Bool → Int → ByteArray → Int → Int → Option ((List (S56)))
 | 0,_,_,_,_,_,_,_,_,_,_ => none
 | k + 1,x0,x1,x2,x7,x8,x44,x170000,x170001,x170002,x170003 => if x44 = true then (if 0 ≤ (wrap64 ((x7.length : Int) - 1)) then (if (wrap64 ((x7.length : Int) - 1)) < (x7.length : Int) then (if ((zaA x7 (wrap64 ((x7.length : Int) - 1))).f1).size + x170001.size ≤ 9223372036854775807 then (zaS k x0 x1 x2 (x7.set ((wrap64 ((x7.length : Int) - 1)) : Int).toNat (⟨(zaA x7 (wrap64 ((x7.length : Int) - 1))).f0,((zaA x7 (wrap64 ((x7.length : Int) - 1))).f1) ++ x170001,(zaA x7 (wrap64 ((x7.length : Int) - 1))).f2,(zaA x7 (wrap64 ((x7.length : Int) - 1))).f3⟩ : S56)) x8) else (none)) else (none)) else (none)) else (if x170001.toList = ([] : List UInt8) then (zaS k x0 x1 x2 x7 x8) else (if x7.length < 3518437208883 then (zaS k x0 x1 x2 (x7 ++ [(⟨x170000,x170001,x170002,x170003⟩ : S56)]) true) else (none)))
def norm_packed.f : Nat → List (S56) → Int → Int → Option ((List (S56)))
 | 0,_,_,_ => none
 | k + 1,l0,a1,a2 => zaS k l0 a1 a2 ([] : List (S56)) false
end
def znC : Bool × List (List Nat × List Nat) := (true,[([],[]),([],[]),([1],[1]),([2],[2]),([0,3],[0,3]),([4],[4]),([5],[5]),([],[]),([7],[7]),([6,8],[6,8]),([0,3,0,1,2,3,4,5,6,7,8,9],[0,3]),([10,0,1,2,3,4,5,6,7,8,9],[10]),([11,9,0,1,2,3,4,5,6,7,8,9],[9,11])])
def zuC : List Nat := [0,0,2,6,15,31,63,0,128,511,1023,2047,4095]
theorem zrV : rtab .any (zyG Try.f110 12) = znC := by kernel_rfl
theorem zpZ : zjF znC.2 zuC = true := by kernel_rfl
theorem norm_packed.calls (k : Nat) : ∀ (A0 : Option Addr) (c0 : Nat) (l0 : List (S56)) (a1 : Int) (a2 : Int) (r : List (S56)) (w : World) (hr0 : Kd.C k56 w A0 l0.length l0) (hc0 : l0.length ≤ c0) (h : norm_packed.f k l0 a1 a2 = some r),
  Calls Try.prog 110 #[.slice A0 l0.length c0,.int .i64 a1,.int .i64 a2] w fun e w' => ∃ v0_ : Value,e = .returned (v0_) ∧ Kd.R k56 56 w' w.heap.size (fun _ => True) v0_ r ∧ Below w.heap.size w w' := by
 induction k using Nat.strongRecOn with
 | _ k ih =>
 intro A0 c0 l0 a1 a2 r w hr0 hc0 h
 cases k with
 | zero => exact absurd h (by simp [norm_packed.f])
 | succ k =>
 simp only [norm_packed.f] at h
 have hu56 := Try.underlying56
 have HR0 := Aside0.mk hr0
 have HC0 := Aside0.mk hc0
 clear hr0 hc0
 have HB := Aside0.mk (Below.refl w.heap.size w)
 have H : (zaS k l0 a1 a2 ([] : List (S56)) false) = some r := h
 clear h
 have H' := Aside0.mk H
 clear H
 go_enter Try.func110,Try.ntmps110
 go_wp2
 go_loopg [1,7,8] k (fun kq v1 v7 v8 w' => ∃ (x1_1 : Int) (x7_1 : List (S56)) (x8_1 : Bool),v1 = .int .i64 x1_1 ∧ v8 = .bool x8_1 ∧ Aside0 (zaS kq l0 x1_1 a2 x7_1 x8_1 = some r) ∧ Aside0 (kq ≤ k) ∧ Aside0 (Kd.R k56 56 w' w.heap.size (fun _ => True) v7 x7_1) ∧ Aside0 (Below w.heap.size w w'))
 case atStart => exact ⟨(a1),(([] : List (S56))),(false),qS,qS,H',⟨Nat.le_refl _⟩,⟨qN⟩,⟨qB⟩⟩
 clear H'
 obtain ⟨x1_1,x7_1,x8_1,rfl,rfl,HA,HK1,HO_7,HB⟩ := hrel
 cases gk with
 | zero => exact absurd HA.out (by simp [zaS])
 | succ k1 =>
 have H := HA.out
 clear HA
 simp only [zaS] at H
 obtain ⟨c4b0,H⟩ | ⟨c4b0,H⟩ := spD H
 rotate_left
 ·obtain rfl := Option.some.inj H
  go_wp2
  go_ret
  exact ⟨_,qE,qR HO_7,qB⟩
 obtain ⟨c5b0,H⟩ := spN H
 obtain ⟨c6b0,H⟩ := spN H
 obtain ⟨t170,A7,H⟩ := bdA H
 obtain ⟨c8b0,c8b1,H⟩ | ⟨c8b0,c8b1,H⟩ := spE H
 rotate_left
 ·obtain ⟨LMc31,H⟩ := spL H
  obtain ⟨y178,hy178⟩ : ∃ y_ : List (S56),y_ = (x7_1 ++ [(⟨(zaA l0 x1_1).f0,(zaA l0 x1_1).f1,(zaA l0 x1_1).f2,wrap64 ((t170.length : Int) + 1)⟩ : S56)]) := ⟨_,rfl⟩
  replace H : (if y178.length + t170.length < 3518437208883 then (zaS k1 l0 (wrap64 (x1_1 + ((zaA l0 x1_1).f3))) a2 (y178 ++ t170) false) else (none)) = some r := by first | (rw [hy178];with_reducible exact H) | (have H2_ := (Option.bind_some _ _).symm.trans H;rw [hy178];with_reducible exact H2_) | (have H2_ := (Option.bind_some _ _).symm.trans H;with_reducible exact H2_) | with_reducible exact H | (rw [hy178];exact H) | exact H
  have Ny178 := Aside0.mk hy178
  clear hy178
  obtain ⟨LMc32,H⟩ := spL H
  obtain ⟨y181,hy181⟩ : ∃ y_ : List (S56),y_ = (y178 ++ t170) := ⟨_,rfl⟩
  replace H : (zaS k1 l0 (wrap64 (x1_1 + ((zaA l0 x1_1).f3))) a2 y181 false) = some r := by first | (rw [hy181];with_reducible exact H) | (have H2_ := (Option.bind_some _ _).symm.trans H;rw [hy181];with_reducible exact H2_) | (have H2_ := (Option.bind_some _ _).symm.trans H;with_reducible exact H2_) | with_reducible exact H | (rw [hy181];exact H) | exact H
  have Ny181 := Aside0.mk hy181
  clear hy181
  have H' := Aside0.mk H
  clear H
  obtain ⟨ad168,e168,p168,q168,hx168_0,hx168_1,hx168_2,hx168_3⟩ := aT56 HR0 HB x1_1
  cases e168
  go_wp2_with (first | ((with_reducible refine zdT (N := 9) rfl ?_);refine zeW ?hg (N := 9) ?hd (cs := #[.int .u8 0,.string (⟨#[]⟩ : ByteArray),.int .i64 0,.int .i64 0]) (t := 56) ?hr ?_;(case hd => rfl);(case hg => rfl);(case hr => first | (go_simp;done) | (go_simp;rfl));intro gb169 hg w33 hbox hb;obtain ⟨_,_,_,_⟩ := a4 (Kd.R_below (Kd.R_elderB (qR HO_7) gb169 (Nat.le_of_eq hg.symm)) hb) (zaD qB hb) hbox ((by rw [hg];exact (zaF qB) : w.heap.size ≤ gb169));clear HO_7 HB hb hbox hg;rename_i HO_7 HB BK169 GW169;have GE169 := GW169;obtain ⟨_,_,_,_,_,_,_,_⟩ := zfA BK169.out) | ((with_reducible refine zaE (f := 110) rfl ?_);refine zaL (some 25) rfl rfl Try.func110 (by kernel_rfl) rfl #[.slice (some ad168) l0.length c0,.int .i64 (wrap64 (x1_1 + 1)),.int .i64 (wrap64 (x1_1 + ((zaA l0 x1_1).f3)))] rfl qM ?_;(with_reducible refine (ih k1 (by have := HK1.out;omega) _ _ l0 (wrap64 (x1_1 + 1)) (wrap64 (x1_1 + ((zaA l0 x1_1).f3))) t170 _ ?side1 ?side2 A7.out).mono ?_);(case side1 => exact Kd.C_below HR0.out (qG GE169));(case side2 => exact HC0.out);rintro e w35 ⟨v171,rfl,ho0,hb⟩;refine ⟨_,rfl,?_⟩;obtain ⟨_,_,_,_⟩ := a4 (Kd.R_elder' (by (with_reducible repeat (first | apply Kd.R_alloc | apply Kd.R_drewN | apply Kd.R_drew));exact (Kd.R_mono (Kd.R_far (p := ⟨gb169,3,none⟩) (Kd.R_far (p := ⟨gb169,2,none⟩) (Kd.R_far (p := ⟨gb169,1,none⟩) (Kd.R_far (p := ⟨gb169,0,none⟩) (Kd.R_mono HO_7.out (fun k_ hk => (⟨hk,hk.2⟩ : _ ∧ k_ ≠ gb169))) (fun _ hk => hk.2) (.int .u8 ((zaA l0 x1_1).f0))) (fun _ hk => hk.2) (.string ((zaA l0 x1_1).f1))) (fun _ hk => hk.2) (.int .i64 ((zaA l0 x1_1).f2))) (fun _ hk => hk.2) (.int .i64 ((zaA l0 x1_1).f3))) (fun _ h_ => h_.1))) (Kd.R_base ho0) hb) (Kd.R_lower (Kd.R_newB (Kd.R_new' ho0 (Kd.R_lt (by (with_reducible repeat (first | apply Kd.R_alloc | apply Kd.R_drewN | apply Kd.R_drew));exact (Kd.R_mono (Kd.R_far (p := ⟨gb169,3,none⟩) (Kd.R_far (p := ⟨gb169,2,none⟩) (Kd.R_far (p := ⟨gb169,1,none⟩) (Kd.R_far (p := ⟨gb169,0,none⟩) (Kd.R_mono HO_7.out (fun k_ hk => (⟨hk,hk.2⟩ : _ ∧ k_ ≠ gb169))) (fun _ hk => hk.2) (.int .u8 ((zaA l0 x1_1).f0))) (fun _ hk => hk.2) (.string ((zaA l0 x1_1).f1))) (fun _ hk => hk.2) (.int .i64 ((zaA l0 x1_1).f2))) (fun _ hk => hk.2) (.int .i64 ((zaA l0 x1_1).f3))) (fun _ h_ => h_.1))))) (g := gb169) (o := .cells #[.int .u8 ((zaA l0 x1_1).f0),.string ((zaA l0 x1_1).f1),.int .i64 ((zaA l0 x1_1).f2),.int .i64 ((zaA l0 x1_1).f3)] 56 (0,0)) (qK BK169)) (zaF (qG GE169))) (zaG (g := gb169) (o := .cells #[.int .u8 ((zaA l0 x1_1).f0),.string ((zaA l0 x1_1).f1),.int .i64 ((zaA l0 x1_1).f2),.int .i64 ((zaA l0 x1_1).f3)] 56 (0,0)) (qK BK169) hb) (zaD (qG GE169) hb);clear HO_7 BK169 HB;rename_i HO_7 HO172 BK169 HB;(try clear hb);(try clear hb2);(try clear hk);(try clear hi);(try clear ho0);obtain ⟨_,_,_,_,_,_,_,_⟩ := zfA BK169.out;obtain ⟨Ao37,co37,eo37⟩ := Kd.R_slice HO172.out;subst eo37) | ((with_reducible refine zcJ (b := .append) (xs := #[.tmp 38,.tmp 40]) rfl ?_);at_builtin;refine Kd.R_append k56 (w0 := w) w.heap.size rfl (.tmp 38) (.tmp 40) 50 56 (.agg #[(.int .u8 0),(.string ⟨#[]⟩),(.int .i64 0),(.int .i64 0)]) 40 rfl Try.underlying50 zfU rfl (by decide) (by omega) u7 x7_1 (⟨(zaA l0 x1_1).f0,(zaA l0 x1_1).f1,(zaA l0 x1_1).f2,wrap64 ((t170.length : Int) + 1)⟩ : S56) [.int .u8 ((zaA l0 x1_1).f0),.string ((zaA l0 x1_1).f1),.int .i64 ((zaA l0 x1_1).f2),.int .i64 (wrap64 ((t170.length : Int) + 1))] (fun k_ => some k_ ≠ (.slice Ao37 t170.length co37 : Value).ownBlock ∧ k_ ≠ gb169) (fun _ => False) rfl (by first | (go_simp;done) | (go_simp;rfl)) ?aP (fun _ hk => hk.elim) ?aF ?aO ?aB ?aS ?aL ?_;(case aP => exact zmD _ _ _ (⟨(zaA l0 x1_1).f0,(zaA l0 x1_1).f1,(zaA l0 x1_1).f2,wrap64 ((t170.length : Int) + 1)⟩ : S56));(case aB => exact qG GE169);(case aF => exact (fun k_ hk => ⟨Kd.fresh' (Kd.R_lt (by (with_reducible repeat (first | apply Kd.R_alloc | apply Kd.R_drewN | apply Kd.R_drew));exact (Kd.R_mono (Kd.R_far (p := ⟨gb169,3,none⟩) (Kd.R_mono HO172.out (fun k_ hk => (⟨hk,hk.2⟩ : _ ∧ k_ ≠ gb169))) (fun _ hk => hk.2) (.int .i64 (wrap64 ((t170.length : Int) + 1)))) (fun _ h_ => h_.1)))) k_ hk,Kd.freshB (g := gb169) (o := .cells #[.int .u8 ((zaA l0 x1_1).f0),.string ((zaA l0 x1_1).f1),.int .i64 ((zaA l0 x1_1).f2),.int .i64 (wrap64 ((t170.length : Int) + 1))] 56 (0,0)) (qK BK169) k_ hk⟩));(case aO => exact (by (with_reducible repeat (first | apply Kd.R_alloc | apply Kd.R_drewN | apply Kd.R_drew));exact Kd.R_mono (Kd.R_far (p := ⟨gb169,3,none⟩) (Kd.R_mono HO_7.out (fun k_ hk => (⟨hk,hk.1.2⟩ : _ ∧ k_ ≠ gb169))) (fun _ hk => hk.2) (.int .i64 (wrap64 ((t170.length : Int) + 1)))) (fun _ hk => ⟨hk.1.2,hk.1.1.2⟩)));(case aS => exact (zaF (qG GE169)));(case aL => have := LMc31.out;omega);intro v179 w38 ho hb hg hat;rw [← Ny178.out] at ho;obtain ⟨_,_,_,_⟩ := a4 (zbS (g := gb169) (o := .cells #[.int .u8 ((zaA l0 x1_1).f0),.string ((zaA l0 x1_1).f1),.int .i64 ((zaA l0 x1_1).f2),.int .i64 (wrap64 ((t170.length : Int) + 1))] 56 (0,0)) (qK BK169) hg (Kd.R_away HO_7.out (fun _ hk => hk.1.2))) (Kd.R_after (ok := (fun k_ => k_ ≠ gb169)) (by (with_reducible repeat (first | apply Kd.R_alloc | apply Kd.R_drewN | apply Kd.R_drew));exact Kd.R_mono (Kd.R_far (p := ⟨gb169,3,none⟩) (Kd.R_mono HO172.out (fun k_ hk => (⟨hk,hk.2⟩ : _ ∧ k_ ≠ gb169))) (fun _ hk => hk.2) (.int .i64 (wrap64 ((t170.length : Int) + 1)))) (fun _ hk => ⟨hk.1.2,hk.1.1.2⟩)) hg hat) hb ho;clear BK169 HO172 HB HO_7 ho hb hg hat;rename_i BK169 HO172 HB HO180) | ((with_reducible refine zcJ (b := .append) (xs := #[.tmp 41,.tmp 42]) rfl ?_);at_builtin;refine Kd.R_append_rows k56 (w0 := w) w.heap.size rfl (.tmp 41) (.tmp 42) 50 56 (.agg #[(.int .u8 0),(.string ⟨#[]⟩),(.int .i64 0),(.int .i64 0)]) 40 rfl Try.underlying50 zfU rfl (by decide) (by omega) v179 y178 t170 _ _ _ (fun k_ => some k_ ≠ (.slice Ao37 t170.length co37 : Value).ownBlock ∧ k_ ≠ gb169) (fun _ => False) rfl rfl ?aO ?aR (fun _ _ h => h) (fun _ h => h.elim) ?aF ?aB ?aS ?aL ?_;(case aR => exact qC ((Kd.R_reads' HO172.out).2.2));(case aB => exact qG GE169);(case aF => exact (fun k_ hk => ⟨Kd.fresh' (Kd.R_lt (qR HO172)) k_ hk,Kd.freshB (g := gb169) (o := .cells #[.int .u8 ((zaA l0 x1_1).f0),.string ((zaA l0 x1_1).f1),.int .i64 ((zaA l0 x1_1).f2),.int .i64 (wrap64 ((t170.length : Int) + 1))] 56 (0,0)) (qK BK169) k_ hk⟩));(case aO => exact qR HO180);(case aS => exact (zaF (qG GE169)));(case aL => have := LMc32.out;omega);intro v182 w39 ho hb hg hat;rw [← Ny181.out] at ho;obtain ⟨_,_,_,_⟩ := a4 (zbS (g := gb169) (o := .cells #[.int .u8 ((zaA l0 x1_1).f0),.string ((zaA l0 x1_1).f1),.int .i64 ((zaA l0 x1_1).f2),.int .i64 (wrap64 ((t170.length : Int) + 1))] 56 (0,0)) (qK BK169) hg (Kd.R_away HO180.out (fun _ hk => hk.2))) (Kd.R_after (ok := (fun k_ => k_ ≠ gb169)) (qR HO172) hg hat) hb ho;clear BK169 HO172 HB HO180 ho hb hg hat;rename_i BK169 HO172 HB HO183))
  go_roundg k1
  case measure => have := HK1.out;omega
  case rel => exact ⟨(wrap64 (x1_1 + ((zaA l0 x1_1).f3))),(y181),(false),qS,qS,H',⟨by have := HK1.out;omega⟩,⟨qRb HO183⟩,⟨qG GE169⟩⟩
 have HC9 := Aside0.mk H
 clear H
 obtain ⟨ad168,e168,p168,q168,hx168_0,hx168_1,hx168_2,hx168_3⟩ := aT56 HR0 HB x1_1
 cases e168
 go_upto_region 11 with (first | ((with_reducible refine zdT (N := 9) rfl ?_);refine zeW ?hg (N := 9) ?hd (cs := #[.int .u8 0,.string (⟨#[]⟩ : ByteArray),.int .i64 0,.int .i64 0]) (t := 56) ?hr ?_;(case hd => rfl);(case hg => rfl);(case hr => first | (go_simp;done) | (go_simp;rfl));intro gb169 hg w10 hbox hb;obtain ⟨_,_,_,_⟩ := a4 (Kd.R_below (Kd.R_elderB (qR HO_7) gb169 (Nat.le_of_eq hg.symm)) hb) (zaD qB hb) hbox ((by rw [hg];exact (zaF qB) : w.heap.size ≤ gb169));clear HO_7 HB hb hbox hg;rename_i HO_7 HB BK169 GW169;have GE169 := GW169;obtain ⟨_,_,_,_,_,_,_,_⟩ := zfA BK169.out) | ((with_reducible refine zaE (f := 110) rfl ?_);refine zaL (some 25) rfl rfl Try.func110 (by kernel_rfl) rfl #[.slice (some ad168) l0.length c0,.int .i64 (wrap64 (x1_1 + 1)),.int .i64 (wrap64 (x1_1 + ((zaA l0 x1_1).f3)))] rfl qM ?_;(with_reducible refine (ih k1 (by have := HK1.out;omega) _ _ l0 (wrap64 (x1_1 + 1)) (wrap64 (x1_1 + ((zaA l0 x1_1).f3))) t170 _ ?side1 ?side2 A7.out).mono ?_);(case side1 => exact Kd.C_below HR0.out (qG GE169));(case side2 => exact HC0.out);rintro e w12 ⟨v171,rfl,ho0,hb⟩;refine ⟨_,rfl,?_⟩;obtain ⟨_,_,_,_⟩ := a4 (Kd.R_elder' (by (with_reducible repeat (first | apply Kd.R_alloc | apply Kd.R_drewN | apply Kd.R_drew));exact (Kd.R_mono (Kd.R_far (p := ⟨gb169,3,none⟩) (Kd.R_far (p := ⟨gb169,2,none⟩) (Kd.R_far (p := ⟨gb169,1,none⟩) (Kd.R_far (p := ⟨gb169,0,none⟩) (Kd.R_mono HO_7.out (fun k_ hk => (⟨hk,hk.2⟩ : _ ∧ k_ ≠ gb169))) (fun _ hk => hk.2) (.int .u8 ((zaA l0 x1_1).f0))) (fun _ hk => hk.2) (.string ((zaA l0 x1_1).f1))) (fun _ hk => hk.2) (.int .i64 ((zaA l0 x1_1).f2))) (fun _ hk => hk.2) (.int .i64 ((zaA l0 x1_1).f3))) (fun _ h_ => h_.1))) (Kd.R_base ho0) hb) (Kd.R_lower (Kd.R_newB (Kd.R_new' ho0 (Kd.R_lt (by (with_reducible repeat (first | apply Kd.R_alloc | apply Kd.R_drewN | apply Kd.R_drew));exact (Kd.R_mono (Kd.R_far (p := ⟨gb169,3,none⟩) (Kd.R_far (p := ⟨gb169,2,none⟩) (Kd.R_far (p := ⟨gb169,1,none⟩) (Kd.R_far (p := ⟨gb169,0,none⟩) (Kd.R_mono HO_7.out (fun k_ hk => (⟨hk,hk.2⟩ : _ ∧ k_ ≠ gb169))) (fun _ hk => hk.2) (.int .u8 ((zaA l0 x1_1).f0))) (fun _ hk => hk.2) (.string ((zaA l0 x1_1).f1))) (fun _ hk => hk.2) (.int .i64 ((zaA l0 x1_1).f2))) (fun _ hk => hk.2) (.int .i64 ((zaA l0 x1_1).f3))) (fun _ h_ => h_.1))))) (g := gb169) (o := .cells #[.int .u8 ((zaA l0 x1_1).f0),.string ((zaA l0 x1_1).f1),.int .i64 ((zaA l0 x1_1).f2),.int .i64 ((zaA l0 x1_1).f3)] 56 (0,0)) (qK BK169)) (zaF (qG GE169))) (zaG (g := gb169) (o := .cells #[.int .u8 ((zaA l0 x1_1).f0),.string ((zaA l0 x1_1).f1),.int .i64 ((zaA l0 x1_1).f2),.int .i64 ((zaA l0 x1_1).f3)] 56 (0,0)) (qK BK169) hb) (zaD (qG GE169) hb);clear HO_7 BK169 HB;rename_i HO_7 HO172 BK169 HB;(try clear hb);(try clear hb2);(try clear hk);(try clear hi);(try clear ho0);obtain ⟨_,_,_,_,_,_,_,_⟩ := zfA BK169.out))
 (try simp only [Act.put,szz])
 go_cut [44] (fun v44 wc => ∃ (kq : Nat) (x44_8 : Bool),v44 = .bool x44_8 ∧ Aside0 (zdN kq l0 (wrap64 (x1_1 + ((zaA l0 x1_1).f3))) a2 x7_1 x8_1 x44_8 ((zaA l0 x1_1).f0) ((zaA l0 x1_1).f1) ((zaA l0 x1_1).f2) ((zaA l0 x1_1).f3) = some r) ∧ Aside0 (kq ≤ k1) ∧ Aside0 (Kd.R k56 56 wc w.heap.size (fun k_ => k_ ≠ gb169) u7 x7_1) ∧ Aside0 (wc.heap[gb169]? = some (.cells #[.int .u8 ((zaA l0 x1_1).f0),.string ((zaA l0 x1_1).f1),.int .i64 ((zaA l0 x1_1).f2),.int .i64 ((zaA l0 x1_1).f3)] 56 (0,0))) ∧ Aside0 (Below w.heap.size w wc))
 case first =>
  have H := HC9.out
  clear HC9
  obtain ⟨c14b0,c14b1,H⟩ | ⟨c14b0,c14b1,H⟩ := spE H
  ·(first | rw [c14b0] | (simp only [zaO,zaR];rw [c14b0]) | skip)
   have H' := Aside0.mk H
   clear H
   obtain ⟨_,_,_,_,_,_,_,_⟩ := zfA BK169.out
   go_wp2
   go_meet
   case rel => exact ⟨_,(false),qS,H',⟨by have := HK1.out;first | omega | exact Nat.le_refl _⟩,⟨by (with_reducible repeat (first | apply Kd.R_alloc | apply Kd.R_drewN | apply Kd.R_drew));exact Kd.R_mono HO_7.out (fun _ hk => hk.1.2)⟩,⟨qK BK169⟩,⟨qG GE169⟩⟩
  (first | rw [c14b0] | (simp only [zaO,zaR];rw [c14b0]) | skip)
  have H' := Aside0.mk H
  clear H
  obtain ⟨_,_,_,_,_,_,_,_⟩ := zfA BK169.out
  go_wp2
  go_meet
  case rel => exact ⟨_,(x8_1),qS,H',⟨by have := HK1.out;first | omega | exact Nat.le_refl _⟩,⟨by (with_reducible repeat (first | apply Kd.R_alloc | apply Kd.R_drewN | apply Kd.R_drew));exact Kd.R_mono HO_7.out (fun _ hk => hk.1.2)⟩,⟨qK BK169⟩,⟨qG GE169⟩⟩
 clear HC9
 obtain ⟨kq,x44_8,rfl,HA,HJ8,HO_7,BK169,HB⟩ := hcut
 cases kq with
 | zero => exact absurd HA.out (by simp [zdN])
 | succ kj8 =>
 have H := HA.out
 clear HA
 simp only [zdN] at H
 by_cases c17 : x44_8 = true
 rotate_left
 ·replace c17 := Bool.eq_false_iff.mpr c17
  subst c17
  rw [if_neg nft] at H
  obtain ⟨c26b0,c26b1,H⟩ | ⟨c26b0,c26b1,H⟩ := spE H
  ·have H' := Aside0.mk H
   clear H
   obtain ⟨_,_,_,_,_,_,_,_⟩ := zfA BK169.out
   go_wp2
   go_roundg kj8
   case measure => have := HK1.out;have := HJ8.out;omega
   case rel => exact ⟨((wrap64 (x1_1 + ((zaA l0 x1_1).f3)))),(x7_1),(x8_1),qS,qS,H',⟨by have := HK1.out;have := HJ8.out;omega⟩,⟨qRb HO_7⟩,⟨qG GE169⟩⟩
  obtain ⟨LMc28,H⟩ := spL H
  obtain ⟨y175,hy175⟩ : ∃ y_ : List (S56),y_ = (x7_1 ++ [(⟨((zaA l0 x1_1).f0),((zaA l0 x1_1).f1),((zaA l0 x1_1).f2),((zaA l0 x1_1).f3)⟩ : S56)]) := ⟨_,rfl⟩
  replace H : (zaS kj8 l0 (wrap64 (x1_1 + ((zaA l0 x1_1).f3))) a2 y175 true) = some r := by first | (rw [hy175];with_reducible exact H) | (have H2_ := (Option.bind_some _ _).symm.trans H;rw [hy175];with_reducible exact H2_) | (have H2_ := (Option.bind_some _ _).symm.trans H;with_reducible exact H2_) | with_reducible exact H | (rw [hy175];exact H) | exact H
  have Ny175 := Aside0.mk hy175
  clear hy175
  have H' := Aside0.mk H
  clear H
  obtain ⟨_,_,_,_,_,_,_,_⟩ := zfA BK169.out
  go_wp2_with (first | ((with_reducible refine zcJ (b := .append) (xs := #[.tmp 67,.tmp 69]) rfl ?_);at_builtin;refine Kd.R_append k56 (w0 := w) w.heap.size rfl (.tmp 67) (.tmp 69) 50 56 (.agg #[(.int .u8 0),(.string ⟨#[]⟩),(.int .i64 0),(.int .i64 0)]) 40 rfl Try.underlying50 zfU rfl (by decide) (by omega) u7 x7_1 (⟨((zaA l0 x1_1).f0),((zaA l0 x1_1).f1),((zaA l0 x1_1).f2),((zaA l0 x1_1).f3)⟩ : S56) [.int .u8 ((zaA l0 x1_1).f0),.string ((zaA l0 x1_1).f1),.int .i64 ((zaA l0 x1_1).f2),.int .i64 ((zaA l0 x1_1).f3)] (fun k_ => k_ ≠ gb169) (fun _ => False) rfl rfl ?aP (fun _ hk => hk.elim) ?aF ?aO ?aB ?aS ?aL ?_;(case aP => exact zmD _ _ _ (⟨((zaA l0 x1_1).f0),((zaA l0 x1_1).f1),((zaA l0 x1_1).f2),((zaA l0 x1_1).f3)⟩ : S56));(case aB => exact qG GE169);(case aF => exact (fun k_ hk => Kd.freshB (g := gb169) (o := .cells #[.int .u8 ((zaA l0 x1_1).f0),.string ((zaA l0 x1_1).f1),.int .i64 ((zaA l0 x1_1).f2),.int .i64 ((zaA l0 x1_1).f3)] 56 (0,0)) (qK BK169) k_ hk));(case aO => exact qR HO_7);(case aS => exact (zaF (qG GE169)));(case aL => have := LMc28.out;omega);intro v176 w30 ho hb hg hat;rw [← Ny175.out] at ho;obtain ⟨_,_,_⟩ := a3 (zbS (g := gb169) (o := .cells #[.int .u8 ((zaA l0 x1_1).f0),.string ((zaA l0 x1_1).f1),.int .i64 ((zaA l0 x1_1).f2),.int .i64 ((zaA l0 x1_1).f3)] 56 (0,0)) (qK BK169) hg (Kd.R_away HO_7.out (fun _ hk => hk))) hb ho;clear BK169 HB HO_7 ho hb hg hat;rename_i BK169 HB HO177))
  go_roundg kj8
  case measure => have := HK1.out;have := HJ8.out;omega
  case rel => exact ⟨((wrap64 (x1_1 + ((zaA l0 x1_1).f3)))),(y175),(true),qS,qS,H',⟨by have := HK1.out;have := HJ8.out;omega⟩,⟨qRb HO177⟩,⟨qG GE169⟩⟩
 subst c17
 rw [if_pos rfl] at H
 obtain ⟨ji18,hji18⟩ : ∃ j_ : Int,(wrap64 ((x7_1.length : Int) - 1)) = j_ := ⟨_,rfl⟩
 replace H : (if 0 ≤ (ji18) then (if (ji18) < (x7_1.length : Int) then (if ((zaA x7_1 (ji18)).f1).size + ((zaA l0 x1_1).f1).size ≤ 9223372036854775807 then (zaS kj8 l0 (wrap64 (x1_1 + ((zaA l0 x1_1).f3))) a2 (x7_1.set ((ji18) : Int).toNat (⟨(zaA x7_1 (ji18)).f0,((zaA x7_1 (ji18)).f1) ++ ((zaA l0 x1_1).f1),(zaA x7_1 (ji18)).f2,(zaA x7_1 (ji18)).f3⟩ : S56)) x8_1) else (none)) else (none)) else (none)) = some r := by first | (rw [hji18] at H;exact H) | (simp only [hji18] at H ⊢;exact H)
 have hji18w : (IntKind.i64.wrap ((x7_1.length : Int) - 1)) = ji18 := (zaO _).trans hji18
 obtain ⟨c19b0,H⟩ := spN H
 obtain ⟨c20b0,H⟩ := spN H
 obtain ⟨c21,H⟩ := spG H
 have c21b0 := eq_true c21
 have c21b1 : decide (((zaA x7_1 (ji18)).f1).size + ((zaA l0 x1_1).f1).size ≤ 9223372036854775807) = true := decide_eq_true c21
 try have c21b2 : (9223372036854775807 < ((zaA x7_1 (ji18)).f1).size + ((zaA l0 x1_1).f1).size) = False := eq_false (Nat.not_lt.2 c21)
 obtain ⟨y174,hy174⟩ : ∃ y_ : List (S56),y_ = (x7_1.set ((ji18) : Int).toNat (⟨(zaA x7_1 (ji18)).f0,((zaA x7_1 (ji18)).f1) ++ ((zaA l0 x1_1).f1),(zaA x7_1 (ji18)).f2,(zaA x7_1 (ji18)).f3⟩ : S56)) := ⟨_,rfl⟩
 replace H : (zaS kj8 l0 (wrap64 (x1_1 + ((zaA l0 x1_1).f3))) a2 y174 x8_1) = some r := by first | (rw [hy174];with_reducible exact H) | (have H2_ := (Option.bind_some _ _).symm.trans H;rw [hy174];with_reducible exact H2_) | (have H2_ := (Option.bind_some _ _).symm.trans H;with_reducible exact H2_) | with_reducible exact H | (rw [hy174];exact H) | exact H
 have Ny174 := Aside0.mk hy174
 clear hy174
 have H' := Aside0.mk H
 clear H
 try go_wp2
 have n0_ := Aside0.mk (Kd.R_drew HO_7.out)
 have n1_ := Aside0.mk (zoK BK169.out)
 have n2_ := Aside0.mk (zaJ HB.out)
 clear HO_7 BK169 HB
 have HO_7 := n0_
 have BK169 := n1_
 have HB := n2_
 clear n0_ n1_ n2_
 obtain ⟨Ao24,co24,eo24⟩ := Kd.R_slice HO_7.out
 (first | subst eo24 | (injection eo24 with f1_ f2_ f3_;have f4_ := f1_.symm;have f5_ := f3_.symm;clear f1_ f2_ f3_;subst f4_;subst f5_))
 obtain ⟨ad173,e173,p173,q173,hx173_0,hx173_1,hx173_2,hx173_3⟩ := bT56 (Kd.R_reads' HO_7.out).2.2 (ji18)
 cases e173
 have p22 : 0 ≤ ((ji18) : Int) := qD
 have q22 : ((ji18) : Int) < ((x7_1.length : Int) : Int) := qD
 obtain ⟨go22,co22,eo22,gb22,gl22,cl22,HG22⟩ := Kd.R_form HO_7.out (by omega)
 (first | cases eo22 | (injection eo22 with ea_ en_ ec_;(first | subst ea_ | (injection ea_ with ea_;subst ea_));subst ec_;clear en_))
 have GB22 := Aside0.mk gb22
 have GG22 := Aside0.mk HG22
 clear gb22 gl22 HG22
 (first | simp only [zbR] at hx173_0 | skip)
 (first | simp only [zbR] at hx173_1 | skip)
 (first | simp only [zbR] at hx173_2 | skip)
 (first | simp only [zbR] at hx173_3 | skip)
 obtain ⟨ce22,hcl22,hM22,hcc22,hfr22⟩ := Kd.R_elem HO_7.out z56 ((ji18) : Int) p22 q22
 obtain rfl := zhS hM22
 have hx22_0 : World.cell? _ ⟨go22,((ji18) : Int).toNat * 4,none⟩ = some (.int .u8 ((zaA x7_1 (ji18)).f0)) := hcc22 0 _ rfl
 have hx22_1 : World.cell? _ ⟨go22,((ji18) : Int).toNat * 4 + 1,none⟩ = some (.string ((zaA x7_1 (ji18)).f1)) := hcc22 1 _ rfl
 have hx22_2 : World.cell? _ ⟨go22,((ji18) : Int).toNat * 4 + 2,none⟩ = some (.int .i64 ((zaA x7_1 (ji18)).f2)) := hcc22 2 _ rfl
 have hx22_3 : World.cell? _ ⟨go22,((ji18) : Int).toNat * 4 + 3,none⟩ = some (.int .i64 ((zaA x7_1 (ji18)).f3)) := hcc22 3 _ rfl
 have hf22_0 : World.frozen? _ ⟨go22,((ji18) : Int).toNat * 4,none⟩ = false := hfr22 0
 have hf22_1 : World.frozen? _ ⟨go22,((ji18) : Int).toNat * 4 + 1,none⟩ = false := hfr22 1
 have hf22_2 : World.frozen? _ ⟨go22,((ji18) : Int).toNat * 4 + 2,none⟩ = false := hfr22 2
 have hf22_3 : World.frozen? _ ⟨go22,((ji18) : Int).toNat * 4 + 3,none⟩ = false := hfr22 3
 clear hcl22 hcc22 hfr22 hM22
 replace p22 := eq_true p22
 replace q22 := eq_true q22
 obtain ⟨ce25,hcl25,hM25,hcc25,hfr25⟩ := Kd.R_elem HO_7.out z56 ((ji18) : Int) qD (by have h_ : ((ji18) : Int) < ((x7_1.length : Int) : Int) := qD;first | exact h_ | (have e_ := (Kd.R_reads' HO_7.out).1;omega) | simpa using h_)
 obtain rfl := zhS hM25
 have HP25 := (Kd.R_seg HO_7.out ((ji18) : Int) qD (by have h_ : ((ji18) : Int) < ((x7_1.length : Int) : Int) := qD;first | exact h_ | (have e_ := (Kd.R_reads' HO_7.out).1;omega) | simpa using h_) (seg := [.string (((zaA x7_1 (ji18)).f1) ++ ((zaA l0 x1_1).f1))]) (j := 1) hcl25 hcc25 (show 2 ≤ 4 from by decide) (x' := (⟨(zaA x7_1 (ji18)).f0,((zaA x7_1 (ji18)).f1) ++ ((zaA l0 x1_1).f1),(zaA x7_1 (ji18)).f2,(zaA x7_1 (ji18)).f3⟩ : S56)) (zmD _ _ _ (⟨(zaA x7_1 (ji18)).f0,((zaA x7_1 (ji18)).f1) ++ ((zaA l0 x1_1).f1),(zaA x7_1 (ji18)).f2,(zaA x7_1 (ji18)).f3⟩ : S56) ) (fun _ hk => hk)).1
 rw [← Ny174.out] at HP25
 have HQ25 := Aside0.mk HP25
 clear hcl25 hcc25 hfr25 hM25 HP25
 refine ztH (n := 13) (S := fun w' => w'.cell? ⟨gb169,0,none⟩ = some (.int .u8 ((zaA l0 x1_1).f0)) ∧ w'.cell? ⟨gb169,1,none⟩ = some (.string ((zaA l0 x1_1).f1)) ∧ w'.cell? ⟨gb169,2,none⟩ = some (.int .i64 ((zaA l0 x1_1).f2)) ∧ w'.cell? ⟨gb169,3,none⟩ = some (.int .i64 ((zaA l0 x1_1).f3)) ∧ w'.cell? ⟨go22,((ji18)).toNat * 4,none⟩ = some (.int .u8 ((zaA x7_1 (ji18)).f0)) ∧ w'.cell? ⟨go22,((ji18)).toNat * 4 + 1,none⟩ = some (.string ((zaA x7_1 (ji18)).f1)) ∧ w'.cell? ⟨go22,((ji18)).toNat * 4 + 2,none⟩ = some (.int .i64 ((zaA x7_1 (ji18)).f2)) ∧ w'.cell? ⟨go22,((ji18)).toNat * 4 + 3,none⟩ = some (.int .i64 ((zaA x7_1 (ji18)).f3))) (ds := [12]) #[false,false,false,false,false,false,false,false,false,false,false,false,false] (by kernel_rfl) rfl rfl ⟨(zaB BK169.out 0).trans rfl,(zaB BK169.out 1).trans rfl,(zaB BK169.out 2).trans rfl,(zaB BK169.out 3).trans rfl,hx173_0,hx173_1,hx173_2,hx173_3⟩ (fun hHeld => ?_);refine zmX zrV zpZ (fun HT_ HW_ => ?_)
 generalize wc.drew = w23 at HO_7 BK169 HB GG22 HQ25 hf22_0 hf22_1 hf22_2 hf22_3 hx173_0 hx173_1 hx173_2 hx173_3 hx22_0 hx22_1 hx22_2 hx22_3 hHeld ⊢
 refine zcM (i := 0) (N := some 51) (v := ?_) (a' := ?_) #[true,false,false,false,false,false,false,false,false,false,false,false,false] rfl rfl (zbO HT_.out (by kernel_rfl)) (fun _ _ _ h => h) (Or.inl ⟨by rfl,?_⟩) ?_ ?_
 rotate_left
 ·intro w'
  go_simp
  with_reducible rfl
 rotate_left
 ·simp only [Act.put,szz,zaO,zaR]
  rfl
 refine zcM (i := 1) (N := some 52) (v := ?_) (a' := ?_) #[true,true,false,false,false,false,false,false,false,false,false,false,false] rfl rfl (zbO HT_.out (by kernel_rfl)) (fun _ _ _ h => h) (Or.inl ⟨by rfl,?_⟩) ?_ ?_
 rotate_left
 ·intro w'
  go_simp
  with_reducible rfl
 rotate_left
 ·simp only [Act.put,szz,zaO,zaR]
  rfl
 refine zcM (i := 2) (N := some 53) (v := ?_) (a' := ?_) #[true,true,true,false,false,false,false,false,false,false,false,false,false] rfl rfl (zbO HT_.out (by kernel_rfl)) (fun _ _ _ h => h) (Or.inl ⟨by rfl,?_⟩) ?_ ?_
 rotate_left
 ·intro w'
  go_simp
  with_reducible rfl
 rotate_left
 ·simp only [Act.put,szz,zaO,zaR]
  rfl
 refine zcM (i := 3) (N := some 54) (v := ?_) (a' := ?_) #[true,true,true,true,false,false,false,false,false,false,false,false,false] rfl rfl (zbO HT_.out (by kernel_rfl)) (fun _ _ _ h => h) (Or.inl ⟨by rfl,?_⟩) ?_ ?_
 rotate_left
 ·intro w'
  go_simp
  with_reducible rfl
 rotate_left
 ·simp only [Act.put,szz,zaO,zaR]
  rfl
 refine zcM (i := 4) (N := some 55) (v := ?_) (a' := ?_) #[true,true,true,true,true,false,false,false,false,false,false,false,false] rfl rfl (zbO HT_.out (by kernel_rfl)) (fun _ _ _ h => h) (Or.inl ⟨by rfl,?_⟩) ?_ ?_
 rotate_left
 ·intro w'
  go_simp
  with_reducible rfl
 rotate_left
 ·simp only [Act.put,szz,zaO,zaR]
  rfl
 refine zcM (i := 5) (N := some 56) (v := ?_) (a' := ?_) #[true,true,true,true,true,true,false,false,false,false,false,false,false] rfl rfl (zbO HT_.out (by kernel_rfl)) (fun _ _ _ h => h) (Or.inl ⟨by rfl,?_⟩) ?_ ?_
 rotate_left
 ·intro w'
  go_simp
  with_reducible rfl
 rotate_left
 ·simp only [Act.put,szz,zaO,zaR]
  rfl
 refine zcM (i := 7) (N := some 58) (v := ?_) (a' := ?_) #[true,true,true,true,true,true,false,true,false,false,false,false,false] rfl rfl (zbO HT_.out (by kernel_rfl)) (fun _ _ _ h => h) (Or.inl ⟨by rfl,?_⟩) ?_ ?_
 rotate_left
 ·intro w'
  go_simp
  with_reducible rfl
 rotate_left
 ·simp only [Act.put,szz,zaO,zaR]
  rfl
 refine zrB (i := 6) (N := some 57) (v := ?_) (a' := ?_) #[true,true,true,true,true,true,true,true,false,false,false,false,false] rfl rfl (zkE HT_.out HW_.out (by kernel_rfl)) (fun _ _ _ h => h) (Or.inl ⟨by rfl,?_⟩) hHeld ?_ ?_
 rotate_left
 ·rintro w' ⟨s0,s1,s2,s3,s4,s5,s6,s7⟩
  go_simp
  with_reducible rfl
 rotate_left
 ·simp only [Act.put,szz,zaO,zaR]
  rfl
 refine zrB (i := 8) (N := some 59) (v := ?_) (a' := ?_) #[true,true,true,true,true,true,true,true,true,false,false,false,false] rfl rfl (zkE HT_.out HW_.out (by kernel_rfl)) (fun _ _ _ h => h) (Or.inl ⟨by rfl,?_⟩) hHeld ?_ ?_
 rotate_left
 ·rintro w' ⟨s0,s1,s2,s3,s4,s5,s6,s7⟩
  go_simp
  with_reducible rfl
 rotate_left
 ·simp only [Act.put,szz,zaO,zaR]
  rfl
 refine zcM (i := 9) (N := some 60) (v := ?_) (a' := ?_) #[true,true,true,true,true,true,true,true,true,true,false,false,false] rfl rfl (zbO HT_.out (by kernel_rfl)) (fun _ _ _ h => h) (Or.inl ⟨by rfl,?_⟩) ?_ ?_
 rotate_left
 ·intro w'
  go_simp
  with_reducible rfl
 rotate_left
 ·simp only [Act.put,szz,zaO,zaR]
  rfl
 refine zcM (i := 10) (N := some 61) (v := ?_) (a' := ?_) #[true,true,true,true,true,true,true,true,true,true,true,false,false] rfl rfl (zbO HT_.out (by kernel_rfl)) (fun _ _ _ h => h) (Or.inl ⟨by rfl,?_⟩) ?_ ?_
 rotate_left
 ·intro w'
  go_simp
  with_reducible rfl
 rotate_left
 ·simp only [Act.put,szz,zaO,zaR]
  rfl
 refine zcM (i := 11) (N := some 62) (v := ?_) (a' := ?_) #[true,true,true,true,true,true,true,true,true,true,true,true,false] rfl rfl (zbO HT_.out (by kernel_rfl)) (fun _ _ _ h => h) (Or.inl ⟨by rfl,?_⟩) ?_ ?_
 rotate_left
 ·intro w'
  go_simp
  with_reducible rfl
 rotate_left
 ·simp only [Act.put,szz,zaO,zaR]
  rfl
 refine last_ (i := 12) (N := none) #[true,true,true,true,true,true,true,true,true,true,true,true,true] rfl rfl (zjL HT_.out (by kernel_rfl)) (by decide) (fun K hK => ?_)
 refine skip_ (w1 := ?_) (by rfl) rfl ?_ ?_
 rotate_left
 ·go_simp
  rfl
 refine hK.out _ _ ?_
 clear hK K
 refine zyE (zrD HT_.out (by kernel_rfl)) ?_
 try go_wp2
 go_roundg kj8
 case measure => have := HK1.out;have := HJ8.out;omega
 case rel => exact ⟨((wrap64 (x1_1 + ((zaA l0 x1_1).f3)))),(y174),(x8_1),qS,qS,H',⟨by have := HK1.out;have := HJ8.out;omega⟩,⟨qRb HQ25⟩,⟨qG2 GB22 GE169⟩⟩
end Go.Proofs.Ythcmfjpheanphaa.Pr
namespace Go.Proofs.Ythcmfjpheanphaa.Pr
open Go.RowKit Go.Proofs.YthcmfjpheanphaaW.PrintWords
theorem zkT (b : ByteArray) : b.toList = ([] : List UInt8) ↔ b.size = 0 := by
 rw [← List.isEmpty_iff,zeR]
 simp
theorem yiE (t : List S56) {L M : List PT} (h : L.map (·.1) = M.map (·.1)) (q : Nat) : cn t L q = cn t M q := by
 have e : ∀ L : List PT,cn t L q = (L.map (·.1)).countP fun x => decide (q ≤ x) && decide (x < q + sz t q) := fun L => by
  unfold cn
  rw [List.countP_map]
  rfl
 rw [e,e,h]
theorem zwU (t : List S56) (D E : List PT) (p : PT) (s : ByteArray) : (nodes t (D ++ [p] ++ E)).set ((D ++ [p]).length - 1) ⟨(nd t (D ++ [p] ++ E) p).f0,s,(nd t (D ++ [p] ++ E) p).f2,(nd t (D ++ [p] ++ E) p).f3⟩ = nodes t (D ++ [(p.1,s)] ++ E) := by
 have h : ∀ q,cn t (D ++ [p] ++ E) q = cn t (D ++ [(p.1,s)] ++ E) q := fun q => yiE t (by simp) q
 have h2 : ∀ q,nd t (D ++ [p] ++ E) q = nd t (D ++ [(p.1,s)] ++ E) q := fun q => by unfold nd;rw [h]
 unfold nodes
 rw [show nd t (D ++ [p] ++ E) = nd t (D ++ [(p.1,s)] ++ E) from funext h2]
 simp only [List.map_append,List.map_cons,List.map_nil,List.length_append,List.length_cons,List.length_nil,Nat.add_sub_cancel,List.append_assoc]
 rw [List.set_append_right _ _ (by simp)]
 simp [nd]
def zhY (t : List S56) (P : List PT) (s : Nat) : Bool := match P.getLast? with | some p => isT t p.1 && decide (par t p.1 = (s : Int) - 1) | none => false
theorem yfO (k : Nat) (x0 : List S56) (x1 x2 : Int) (x7 : List S56) (x8 : Bool) (h : ¬ x1 < x2) : zaS (k + 1) x0 x1 x2 x7 x8 = some x7 := by
 rw [zaS,if_neg h]
theorem pk_node (k : Nat) (t : List S56) (a1 x2 : Int) (a b b1 : Nat) (L I : List S56) (j : Bool) (ha : a1 = a) (hlt : a1 < x2) (hal : a < t.length) (hb : wrap64 (a1 + (zaA t a1).f3) = b) (hb1 : wrap64 (a1 + 1) = b1)
  (hin : norm_packed.f k t b1 b = some I) (h46 : ¬ (zaA t a1).f0 = 46) (hs : ∀ _ : Unit,L.length < 3518437208883) (hs2 : ∀ (_ : Unit) (x : S56),(L ++ [x]).length + I.length < 3518437208883) (hw : wrap64 ((I.length : Int) + 1) = (I.length : Int) + 1) :
  zaS (k + 1) t a1 x2 L j = zaS k t b x2 (L ++ [⟨(zaA t a1).f0,(zaA t a1).f1,(zaA t a1).f2,(I.length : Int) + 1⟩] ++ I) false := by
 rw [zaS]
 refine (if_pos hlt).trans ?_
 refine (if_pos (by rw [ha];exact Int.natCast_nonneg a)).trans ?_
 refine (if_pos (by rw [ha];exact Int.ofNat_lt.2 hal)).trans ?_
 rw [hb,hb1,hin]
 refine (Option.bind_some _ _).trans ?_
 refine (if_neg h46).trans ?_
 refine (if_pos (hs ())).trans ?_
 refine (Option.bind_some _ _).trans ?_
 rw [hw]
 exact if_pos (hs2 () _)
theorem pk_text (k : Nat) (t : List S56) (a1 x2 : Int) (a b b1 : Nat) (L I : List S56) (j : Bool) (ha : a1 = a) (hlt : a1 < x2) (hal : a < t.length) (hb : wrap64 (a1 + (zaA t a1).f3) = b) (hb1 : wrap64 (a1 + 1) = b1)
  (hin : norm_packed.f k t b1 b = some I) (h46 : (zaA t a1).f0 = 46) (hne : ¬ (zaA t a1).f1.toList = ([] : List UInt8)) :
  zaS (k + 1) t a1 x2 L j = zdN k t b x2 L j j (zaA t a1).f0 (zaA t a1).f1 (zaA t a1).f2 (zaA t a1).f3 := by
 rw [zaS]
 refine (if_pos hlt).trans ?_
 refine (if_pos (by rw [ha];exact Int.natCast_nonneg a)).trans ?_
 refine (if_pos (by rw [ha];exact Int.ofNat_lt.2 hal)).trans ?_
 rw [hb,hb1,hin]
 refine (Option.bind_some _ _).trans ?_
 refine (if_pos h46).trans ?_
 exact if_neg hne
theorem yiF (k : Nat) (t : List S56) (a1 x2 : Int) (a b b1 : Nat) (L I : List S56) (j : Bool) (ha : a1 = a) (hlt : a1 < x2) (hal : a < t.length) (hb : wrap64 (a1 + (zaA t a1).f3) = b) (hb1 : wrap64 (a1 + 1) = b1)
  (hin : norm_packed.f (k + 1) t b1 b = some I) (h46 : (zaA t a1).f0 = 46) (hne : (zaA t a1).f1.toList = ([] : List UInt8)) :
  zaS (k + 2) t a1 x2 L j = zaS k t b x2 L j := by
 rw [zaS]
 refine (if_pos hlt).trans ?_
 refine (if_pos (by rw [ha];exact Int.natCast_nonneg a)).trans ?_
 refine (if_pos (by rw [ha];exact Int.ofNat_lt.2 hal)).trans ?_
 rw [hb,hb1,hin]
 refine (Option.bind_some _ _).trans ?_
 refine (if_pos h46).trans ?_
 refine (if_pos hne).trans ?_
 rw [zdN]
 refine (if_neg (by decide)).trans ?_
 exact if_pos hne
theorem yiG (k : Nat) (t : List S56) (b : Nat) (x2 : Int) (L : List S56) (c p z : Int) (s : ByteArray) (hne : ¬ s.toList = ([] : List UInt8)) (hs : ∀ _ : Unit,L.length < 3518437208883) :
  zdN (k + 1) t b x2 L false false c s p z = zaS k t b x2 (L ++ [⟨c,s,p,z⟩]) true := by
 rw [zdN]
 refine (if_neg (by decide)).trans ?_
 refine (if_neg hne).trans ?_
 exact if_pos (hs ())
theorem pk_join (k : Nat) (t : List S56) (b m : Nat) (x2 : Int) (L : List S56) (c p z : Int) (s : ByteArray) (y : S56) (hw : wrap64 ((L.length : Int) - 1) = m) (hm : m < L.length) (hy : zaA L (m : Int) = y) (hs : ∀ _ : Unit,y.f1.size + s.size ≤ 9223372036854775807) :
  zdN (k + 1) t b x2 L true true c s p z = zaS k t b x2 (L.set m ⟨y.f0,y.f1 ++ s,y.f2,y.f3⟩) true := by
 rw [zdN]
 refine (if_pos rfl).trans ?_
 rw [hw,hy]
 refine (if_pos (Int.natCast_nonneg m)).trans ?_
 refine (if_pos (Int.ofNat_lt.2 hm)).trans ?_
 exact if_pos (hs ())
theorem zoU {t : List S56} {P : List PT} {p : PT} {s : Nat} (hg : P.getLast? = some p) (h1 : isT t p.1 = true) (h2 : par t p.1 = (s : Int) - 1) : zhY t P s = true := by unfold zhY;rw [hg];simp [h1,h2]
theorem zvO {P : List PT} {p : PT} (hg : P.getLast? = some p) : P = P.dropLast ++ [p] := by
 have hne : P ≠ [] := fun h => by rw [h] at hg;cases hg
 have := List.dropLast_concat_getLast hne
 rw [List.getLast?_eq_some_getLast hne] at hg
 rw [Option.some.inj hg] at this
 exact this.symm
theorem ydM (t : List S56) (P : List PT) (p : PT) (hg : P.getLast? = some p) : zaA (nodes t P) ((P.length - 1 : Nat) : Int) = nd t P p := by
 unfold zaA nodes
 rw [Int.toNat_natCast,List.getD_eq_getElem?_getD,List.getElem?_map,← List.getLast?_eq_getElem?,hg]
 rfl
theorem zlD (t : List S56) (hN : Nst t) (hl : t.length ≤ 400000) (hM : ∀ i,i < t.length → (zaA t i).f1.size ≤ 1000000) :
  ∀ (n a e s : Nat) (P : List PT) (k : Nat),e - a ≤ n → Lvl t s e a → a ≤ e → (∀ p ∈ P,s ≤ p.1 ∧ p.1 < a ∧ p.1 + sz t p.1 ≤ a) → P.length ≤ a → (∀ p ∈ P,p.2.size ≤ 1000000 * a) → 4 * n + 4 ≤ k →
   zaS k t a e (nodes t P) (zhY t P s) = some (nodes t ((live t a (e - a)).foldl (push t) P))
 | 0,a,e,s,P,k,hn,hL,hae,hP,hpl,hps,hk => by
  obtain ⟨k,rfl⟩ : ∃ j,k = j + 1 := ⟨k - 1,by omega⟩
  obtain rfl : a = e := by omega
  rw [yfO _ _ _ _ _ _ (by omega),Nat.sub_self]
  rfl
 | n + 1,a,e,s,P,k,hn,hL,hae,hP,hpl,hps,hk => by
  obtain ⟨k,rfl⟩ : ∃ j,k = j + 3 := ⟨k - 3,by omega⟩
  by_cases hlt : a < e
  ·have hlim := hL.lim
   have hfit := hL.fits hN hlt
   have hpos := hN.pos a (by omega)
   have hsz : (zaA t a).f3 = (sz t a : Int) := by unfold sz;omega
   have hsz1 : 1 ≤ sz t a := by omega
   have hI : ∀ p ∈ pk t (a + 1) (a + sz t a),a < p.1 ∧ p.1 < a + sz t a := fun p hp => by have := pk_mem (by omega) hp;omega
   have hIl : (pk t (a + 1) (a + sz t a)).length ≤ sz t a - 1 := by
    have h1 := zsT t (live t (a + 1) (a + sz t a - (a + 1))) []
    have h2 := zmL t (a + 1) (a + sz t a - (a + 1))
    unfold pk
    simp only [List.length_nil] at h1
    omega
   have w1 : ∀ _ : Unit,wrap64 ((a : Int) + 1) = ((a + 1 : Nat) : Int) := fun _ => by rw [show (a : Int) + 1 = ((a + 1 : Nat) : Int) from by omega];exact zcF (by omega)
   have w2 : ∀ _ : Unit,wrap64 ((a : Int) + (zaA t a).f3) = ((a + sz t a : Nat) : Int) := fun _ => by rw [hsz,show (a : Int) + (sz t a : Int) = ((a + sz t a : Nat) : Int) from by omega];exact zcF (by omega)
   have hin := zlD t hN hl hM n (a + 1) (a + sz t a) (a + 1) [] (k + 1) (by omega) (hL.inner hN hlt) (by omega) (by simp) (by simp) (by simp) (by omega)
   have hin2 : norm_packed.f (k + 2) t ((a + 1 : Nat) : Int) ((a + sz t a : Nat) : Int) = some (nodes t (pk t (a + 1) (a + sz t a))) := by
    rw [norm_packed.f]
    exact hin
   clear hin
   have hA : (P ++ [(a,(zaA t a).f1)] ++ pk t (a + 1) (a + sz t a)).length ≤ a + sz t a := by
    rw [List.length_append,List.length_append,List.length_singleton]
    omega
   have hA1 : ∀ _ : Unit,(nodes t P).length < 3518437208883 := fun _ => by
    rw [zdH]
    exact Nat.lt_of_le_of_lt (Nat.le_trans hpl (show a ≤ 400000 by omega)) (by decide)
   have hpar := hL.par hN hlt
   have hlive : live t a (e - a) = (if zfF t a = true then [(a,(zaA t a).f1)] else []) ++ live t (a + 1) (e - (a + 1)) := by
    rw [show e - a = (e - (a + 1)) + 1 from by omega]
    exact zwS t a _
   by_cases h46 : (zaA t a).f0 = 46
   ·have hT : isT t a = true := by unfold isT;rw [h46];rfl
    have hs1 : sz t a = 1 := by have := hN.txt a (by omega) hT;omega
    have hnx := hL.next hN hlt
    rw [hs1] at hnx w2 hin2
    have hP1 : ∀ p ∈ P,s ≤ p.1 ∧ p.1 < a + 1 ∧ p.1 + sz t p.1 ≤ a + 1 := fun p hp => by have := hP p hp;omega
    by_cases hem : (zaA t a).f1.size = 0
    ·have hlv : zfF t a = false := by unfold zfF;simp [hT,hem]
     rw [yiF (k + 1) t a e a (a + 1) (a + 1) (nodes t P) _ _ rfl (by omega) (by omega) (w2 ()) (w1 ()) hin2 h46 ((zkT _).2 hem),hlive,hlv,if_neg (by decide),List.nil_append]
     exact zlD t hN hl hM n (a + 1) e s P (k + 1) (by omega) hnx (by omega) hP1 (by omega) (fun p hp => by have := hps p hp;omega) (by omega)
    have hlv : zfF t a = true := by unfold zfF;simp [hem]
    have hMa := hM a (by omega)
    have hne : ¬ (zaA t a).f1.toList = ([] : List UInt8) := fun h => hem ((zkT _).1 h)
    rw [pk_text (k + 2) t a e a (a + 1) (a + 1) (nodes t P) _ _ rfl (by omega) (by omega) (w2 ()) (w1 ()) hin2 h46 hne,hlive,hlv,if_pos rfl,List.foldl_append,List.foldl_cons,List.foldl_nil]
    have hend : ∀ P' : List PT,push t P (a,(zaA t a).f1) = P' → zhY t P' s = true → (∀ p ∈ P',s ≤ p.1 ∧ p.1 < a + 1 ∧ p.1 + sz t p.1 ≤ a + 1) → P'.length ≤ a + 1 → (∀ p ∈ P',p.2.size ≤ 1000000 * (a + 1)) →
      zaS (k + 1) t ((a + 1 : Nat) : Int) e (nodes t P') true = some (nodes t ((live t (a + 1) (e - (a + 1))).foldl (push t) (push t P (a,(zaA t a).f1)))) := fun P' h1 h2 h3 h4 h5 => by
     rw [h1,← h2]
     exact zlD t hN hl hM n (a + 1) e s P' (k + 1) (by omega) hnx (by omega) h3 h4 h5 (by omega)
    clear hlive hin2
    have hsing : ∀ p ∈ P ++ [(a,(zaA t a).f1)],s ≤ p.1 ∧ p.1 < a + 1 ∧ p.1 + sz t p.1 ≤ a + 1 := fun p hp => by
     rcases List.mem_append.1 hp with h | h
     ·exact hP1 p h
     obtain rfl := List.mem_singleton.1 h
     exact ⟨hL.le,by show a < _;omega,by show a + sz t a ≤ _;omega⟩
    have hsing2 : ∀ p ∈ P ++ [(a,(zaA t a).f1)],p.2.size ≤ 1000000 * (a + 1) := fun p hp => by
     rcases List.mem_append.1 hp with h | h
     ·have := hps p h;omega
     obtain rfl := List.mem_singleton.1 h
     show (zaA t a).f1.size ≤ _
     omega
    have hnd : nodes t P ++ [(⟨(zaA t a).f0,(zaA t a).f1,(zaA t a).f2,(zaA t a).f3⟩ : S56)] = nodes t (P ++ [(a,(zaA t a).f1)]) := by
     have := zsE t P [] a (zaA t a).f1 hsz1 (fun p hp => (hP p hp).2) (by simp)
     rw [hsz,hs1]
     simpa [nodes] using this.symm
    have hj2 : zhY t (P ++ [(a,(zaA t a).f1)]) s = true := zoU (p := (a,(zaA t a).f1)) (by rw [zkH _ (by simp)];rfl) hT hpar
    by_cases hjb : zhY t P s = true
    ·rw [hjb]
     obtain ⟨p,hg⟩ : ∃ p,P.getLast? = some p := by
      cases hg : P.getLast? with
      | none => unfold zhY at hjb;rw [hg] at hjb;cases hjb
      | some p => exact ⟨p,rfl⟩
     have hj : isT t p.1 = true ∧ par t p.1 = (s : Int) - 1 := by
      unfold zhY at hjb
      rw [hg] at hjb
      simpa using hjb
     have hpm := List.mem_of_getLast? hg
     have hPd := zvO hg
     have hlen : 1 ≤ P.length := by rw [hPd];simp
     have hw : ∀ _ : Unit,wrap64 (((nodes t P).length : Int) - 1) = ((P.length - 1 : Nat) : Int) := fun _ => by
      rw [zdH,show (P.length : Int) - 1 = ((P.length - 1 : Nat) : Int) from by omega]
      exact zcF (by omega)
     have hpsz := hps p hpm
     rw [pk_join (k + 1) t (a + 1) (P.length - 1) e (nodes t P) _ _ _ (zaA t a).f1 (nd t P p) (hw ()) (by rw [zdH];omega) (ydM t P p hg) (fun _ => by
      show p.2.size + _ ≤ _
      refine Nat.le_trans (Nat.add_le_add hpsz hMa) ?_
      refine Nat.le_trans (m := 400001000000) (by omega) (by decide))]
     have hset : (nodes t P).set (P.length - 1) ⟨(nd t P p).f0,(nd t P p).f1 ++ (zaA t a).f1,(nd t P p).f2,(nd t P p).f3⟩ = nodes t (P.dropLast ++ [(p.1,p.2 ++ (zaA t a).f1)]) := by
      clear hend hsing hsing2 hnd hj2 hw hpsz hA hA1 hps hP hP1
      generalize P.dropLast = D at hPd ⊢
      subst hPd
      have := zwU t D [] p (p.2 ++ (zaA t a).f1)
      rw [List.append_nil,List.append_nil] at this
      exact this
     rw [hset]
     refine hend _ ?_ (zoU (p := (p.1,p.2 ++ (zaA t a).f1)) (by rw [zkH _ (by simp)];rfl) hj.1 hj.2) (fun q hq => ?_) (by rw [List.length_append,List.length_dropLast,List.length_singleton];omega) (fun q hq => ?_)
     ·unfold push
      rw [hg]
      simp only
      rw [if_pos ⟨hj.1,hT,by rw [hj.2];exact hpar.symm⟩]
     ·rcases List.mem_append.1 hq with h | h
      ·exact hP1 q (List.dropLast_subset _ h)
      obtain rfl := List.mem_singleton.1 h
      exact hP1 p hpm
     rcases List.mem_append.1 hq with h | h
     ·have := hps q (List.dropLast_subset _ h);omega
     obtain rfl := List.mem_singleton.1 h
     show (p.2 ++ (zaA t a).f1).size ≤ _
     rw [ByteArray.size_append]
     omega
    have hjb2 : zhY t P s = false := by simpa using hjb
    rw [hjb2,yiG (k + 1) t (a + 1) e (nodes t P) _ _ _ _ hne hA1,hnd]
    refine hend _ ?_ hj2 hsing (by rw [List.length_append,List.length_singleton];omega) hsing2
    unfold push
    split
    ·rename_i p hg
     refine if_neg fun h => hjb ?_
     exact zoU hg h.1 (by rw [h.2.2];exact hpar)
    rename_i hg
    rw [List.getLast?_eq_none_iff.1 hg]
    rfl
   have hT : isT t a = false := by unfold isT;exact beq_eq_false_iff_ne.2 h46
   have hlv : zfF t a = true := by unfold zfF;simp [hT]
   have hnx := hL.next hN hlt
   have hA2 : ∀ (_ : Unit) (x : S56),(nodes t P ++ [x]).length + (nodes t (pk t (a + 1) (a + sz t a))).length < 3518437208883 := fun _ x => by
    rw [List.length_append,List.length_append,List.length_singleton] at hA
    rw [List.length_append,zdH,zdH,List.length_singleton]
    exact Nat.lt_of_le_of_lt (Nat.le_trans hA (show a + sz t a ≤ 400000 by omega)) (by decide)
   have hw : ∀ _ : Unit,wrap64 (((nodes t (pk t (a + 1) (a + sz t a))).length : Int) + 1) = ((nodes t (pk t (a + 1) (a + sz t a))).length : Int) + 1 := fun _ => by
    rw [zdH,show ((pk t (a + 1) (a + sz t a)).length : Int) + 1 = (((pk t (a + 1) (a + sz t a)).length + 1 : Nat) : Int) from by omega]
    exact zcF (by omega)
   rw [pk_node (k + 2) t a e a (a + sz t a) (a + 1) (nodes t P) _ _ rfl (by omega) (by omega) (w2 ()) (w1 ()) hin2 h46 hA1 hA2 (hw ())]
   clear hA1 hA2 hw w1 w2 hin2
   rw [zdH,← zsE t P (pk t (a + 1) (a + sz t a)) a (zaA t a).f1 hsz1 (fun p hp => (hP p hp).2) hI]
   have hlv2 : live t a (e - a) = [(a,(zaA t a).f1)] ++ (live t (a + 1) (a + sz t a - (a + 1)) ++ live t (a + sz t a) (e - (a + sz t a))) := by
    rw [hlive,hlv,if_pos rfl,show e - (a + 1) = (a + sz t a - (a + 1)) + (e - (a + sz t a)) from by omega,zyY,show a + 1 + (a + sz t a - (a + 1)) = a + sz t a from by omega]
   have hpu : push t P (a,(zaA t a).f1) = P ++ [(a,(zaA t a).f1)] := by
    unfold push
    split
    ·rw [if_neg (by simp [hT])]
    rename_i hg
    rw [List.getLast?_eq_none_iff.1 hg]
    rfl
   have hjn : zhY t (P ++ [(a,(zaA t a).f1)] ++ pk t (a + 1) (a + sz t a)) s = false := by
    unfold zhY
    split
    ·rename_i p hp
     by_cases hp0 : pk t (a + 1) (a + sz t a) = []
     ·rw [hp0,List.append_nil,zkH _ (by simp)] at hp
      obtain rfl := Option.some.inj hp
      simp [hT]
     rw [zkH _ hp0] at hp
     have hpi := hI p (List.mem_of_getLast? hp)
     have hge := ybW t p.1 a hpi.2 p.1 hpi.1
     have hsa := hL.le
     have : ¬ par t p.1 = (s : Int) - 1 := fun h => by unfold Pr.par at h;omega
     simp [this]
    rfl
   rw [hlv2,List.foldl_append,List.foldl_cons,List.foldl_nil,hpu,List.foldl_append,yfN t P (a,(zaA t a).f1) hT,← hjn]
   refine zlD t hN hl hM n (a + sz t a) e s _ (k + 2) (by omega) hnx (by omega) (fun q hq => ?_) hA (fun q hq => ?_) (by omega)
   ·rcases List.mem_append.1 hq with h | h
    ·rcases List.mem_append.1 h with h | h
     ·have := hP q h;omega
     obtain rfl := List.mem_singleton.1 h
     exact ⟨hL.le,by show a < _;omega,Nat.le_refl _⟩
    have h1 := hI q h
    have h2 := hN.nest a q.1 (by omega) h1.1 h1.2
    have := hL.le
    omega
   rcases List.mem_append.1 hq with h | h
   ·rcases List.mem_append.1 h with h | h
    ·have := hps q h;omega
    obtain rfl := List.mem_singleton.1 h
    show (zaA t a).f1.size ≤ _
    have := hM a (by omega)
    omega
   have h1 := zwT t 1000000 (live t (a + 1) (a + sz t a - (a + 1))) [] 0 (by simp) (fun p hp => by
    unfold live at hp
    obtain ⟨i,hi,rfl⟩ := List.mem_map.1 hp
    have := List.mem_range'_1.1 (List.mem_filter.1 hi).1
    exact hM i (by omega)) q h
   have h2 := zmL t (a + 1) (a + sz t a - (a + 1))
   have h3 : 1000000 * (live t (a + 1) (a + sz t a - (a + 1))).length ≤ 1000000 * (a + sz t a - (a + 1)) := Nat.mul_le_mul_left _ h2
   omega
  obtain rfl : a = e := by omega
  rw [yfO _ _ _ _ _ _ (by omega),Nat.sub_self]
  rfl
theorem yiH (t : List S56) (hN : Nst t) (hl : t.length ≤ 400000) (hM : ∀ i,i < t.length → (zaA t i).f1.size ≤ 1000000) (k : Nat) (hk : 4 * t.length + 5 ≤ k) :
  norm_packed.f k t 0 t.length = some (nodes t (pk t 0 t.length)) := by
 obtain ⟨k,rfl⟩ : ∃ j,k = j + 1 := ⟨k - 1,by omega⟩
 rw [norm_packed.f]
 exact zlD t hN hl hM t.length 0 t.length 0 [] k (by omega) (Lvl.root t) (by omega) (by simp) (by simp) (by simp) (by omega)
end Go.Proofs.Ythcmfjpheanphaa.Pr
namespace Go.Proofs.Ythcmfjpheanphaa.Pr
open Go.RowKit Go.Maps Go.Proofs.YthcmfjpheanphaaW.PrintWords
attribute [local go_sem] Oper.semAt_some
structure Fr (X : Nat → Prop) (w w' : World) : Prop where
 os : w'.os = w.os
 tape : w'.tape = w.tape
 output : w'.output = w.output
 size : w.heap.size ≤ w'.heap.size
 block : ∀ k,k < w.heap.size → ¬ X k → w'.heap[k]? = w.heap[k]?
theorem Fr.refl (X : Nat → Prop) (w : World) : Fr X w w := ⟨rfl,rfl,rfl,Nat.le_refl _,fun _ _ _ => rfl⟩
theorem Fr.trans {X : Nat → Prop} {a b c : World} (h : Fr X a b) (k : Fr X b c) : Fr X a c :=
 ⟨k.os.trans h.os,k.tape.trans h.tape,k.output.trans h.output,Nat.le_trans h.size k.size,fun i hi hx => (k.block i (Nat.lt_of_lt_of_le hi h.size) hx).trans (h.block i hi hx)⟩
theorem Fr.below {X : Nat → Prop} {w w' : World} (h : Below w.heap.size w w') : Fr X w w' := ⟨h.os,h.tape,h.output,h.size,fun k hk _ => h.block k hk⟩
theorem Fr.set {X : Nat → Prop} {w : World} {p : Addr} (hx : X p.block) (u : Value) : Fr X w (w.setCell p u) := by
 have h := (Below.refl p.block w).setCell (Nat.le_refl _) u
 exact ⟨h.os,h.tape,h.output,h.size,fun k hk hn => Below.heap_setCell _ _ _ _ fun e => hn (by rw [e];exact hx)⟩
theorem Fr.grown {X : Nat → Prop} {w w' : World} {row : Option Nat} (h : w.grownBy w' row) (hr : ∀ r,row = some r → X r) : Fr X w w' :=
 ⟨h.os,h.tape,h.output,h.size,fun k hk hn => h.block k hk fun e => hn (hr k e.symm)⟩
theorem Fr.keep {X : Nat → Prop} {w w' : World} (h : Fr X w w') {g : Nat} {o : Obj} (hg : w.heap[g]? = some o) (hx : ¬ X g) : w'.heap[g]? = some o := (h.block g (zfB hg) hx).trans hg
theorem Fr.toBelow {X : Nat → Prop} {w w' : World} (h : Fr X w w') {n : Nat} (hn : n ≤ w.heap.size) (hx : ∀ k,k < n → ¬ X k) : Below n w w' := ⟨h.os,h.tape,h.output,h.size,fun k hk => h.block k (by omega) (hx k hk)⟩
theorem Fr.own {X : Nat → Prop} {w w' : World} (h : Fr X w w') {B e z n : Nat} {v : Value} {xs : List Value} (ho : w.ownsRow B e z v n xs) (hx : ∀ g,v.ownBlock = some g → ¬ X g) : w'.ownsRow B e z v n xs := by
 rcases ho with ⟨h1,h2 | ⟨g,cap,cur,h2,h3,h4,h5⟩⟩
 ·exact ⟨h1,.inl h2⟩
 exact ⟨h1,.inr ⟨g,cap,cur,h2,h3,h.keep h4 (hx g (by rw [h2];rfl)),h5⟩⟩
def zeO (x : S56) : List Value := [.int .u8 x.f0,.string x.f1,.int .i64 x.f2,.int .i64 x.f3]
theorem zjV (x : S56) (xs : List S56) : zaU (x :: xs) = zeO x ++ zaU xs := by simp [zaU,zeO]
theorem zkI (xs : List S56) : ∀ (j i : Nat),j < xs.length → i < 4 → (zaU xs)[j * 4 + i]? = (zeO (xs.getD j z56))[i]? := by
 induction xs with
 | nil => intro j i h;simp at h
 | cons x xs ih =>
 intro j i h hi
 rw [zjV]
 cases j with
 | zero => rw [List.getElem?_append_left (by simp [zeO];omega)];simp
 | succ j =>
 rw [List.getElem?_append_right (by simp [zeO];omega)]
 have := ih j i (by simpa using h) hi
 rw [show (j + 1) * 4 + i - (zeO x).length = j * 4 + i from by simp [zeO];omega,this]
 simp
theorem zlE (f : S56 → S56) (i : Nat) (hi : i < 4) (u : Value) : ∀ (xs : List S56) (j : Nat),j < xs.length → zeO (f (xs.getD j z56)) = (zeO (xs.getD j z56)).set i u → (zaU xs).set (j * 4 + i) u = zaU (xs.modify j f)
 | [],j,h,_ => by simp at h
 | x :: xs,0,h,hf => by
  rw [zjV,List.modify_zero_cons,zjV,List.set_append_left _ _ (by simp [zeO];omega),Nat.zero_mul,Nat.zero_add]
  simp only [List.getD_cons_zero] at hf
  rw [hf]
 | x :: xs,j + 1,h,hf => by
  rw [zjV,List.modify_succ_cons,zjV,List.set_append_right _ _ (by simp [zeO];omega)]
  rw [show (j + 1) * 4 + i - (zeO x).length = j * 4 + i from by simp [zeO];omega]
  rw [zlE f i hi u xs j (by simpa using h) (by simpa using hf)]
theorem zhZ {W : World} {B0 n e z : Nat} {v : Value} {xs : List Value} (h : W.ownsRow B0 e z v n xs) (hn : 0 < n) : ∃ g c,v = .slice (some ⟨g,0,none⟩) n c := by
 obtain ⟨A,c,rfl⟩ := zbB h
 rcases h.2 with ⟨_,h0⟩ | ⟨g,cap,cur,e,_⟩
 ·omega
 simp only [Value.slice.injEq] at e
 obtain ⟨rfl,_,rfl⟩ := e
 exact ⟨g,_,rfl⟩
theorem ybX {w : World} {g : Nat} {cs : Array Value} {t : TypeId} (h : w.heap[g]? = some (.cells cs t (0,0))) (j : Nat) : w.frozen? ⟨g,j,none⟩ = false := by simp [World.frozen?,h]
def zqA (b : List Int) : List Value := b.map (Value.int .u8)
structure KAt (W : World) (B0 Bb g1 g3 g6 g7 g8 gf : Nat) (A0 : Option Addr) (n c0 i : Nat) (vo vb : Value) (out : List S56) (b : List Int) (sc sa : Int) : Prop where
 x1 : W.heap[g1]? = some (.cells #[.slice A0 n c0] 50 (0,0))
 x3 : W.heap[g3]? = some (.cells #[vo] 50 (0,0))
 x6 : W.heap[g6]? = some (.cells #[.int .i64 (i : Int)] 3 (0,0))
 x7 : W.heap[g7]? = some (.cells #[.pointer (some ⟨gf,0,none⟩)] 173 (0,0))
 x8 : W.heap[g8]? = some (.cells #[vb] 68 (0,0))
 xf : W.heap[gf]? = some (.cells #[.int .u8 sc,.int .i64 sa] 177 (0,0))
 out : W.ownsRow B0 56 4 vo out.length (zaU out)
 b : W.ownsRow Bb 5 1 vb b.length (zqA b)
 l8 : g8 < Bb
 lf : gf < Bb
 lb : Bb ≤ W.heap.size
def XK (Bb g8 gf : Nat) (vo : Value) (k : Nat) : Prop := vo.ownBlock = some k ∨ k = g8 ∨ k = gf ∨ Bb ≤ k
theorem KAt.fr {W W' : World} {B0 Bb g1 g3 g6 g7 g8 gf : Nat} {A0 : Option Addr} {n c0 i : Nat} {vo vb : Value} {out : List S56} {b : List Int} {sc sa : Int} (h : KAt W B0 Bb g1 g3 g6 g7 g8 gf A0 n c0 i vo vb out b sc sa) (hb : Below W.heap.size W W') :
  KAt W' B0 Bb g1 g3 g6 g7 g8 gf A0 n c0 i vo vb out b sc sa :=
 ⟨zaG h.x1 hb,zaG h.x3 hb,zaG h.x6 hb,zaG h.x7 hb,zaG h.x8 hb,zaG h.xf hb,zcI h.out hb,zcI h.b hb,h.l8,h.lf,Nat.le_trans h.lb hb.size⟩
def atF (z : Int) (y : S56) : S56 := { y with f2 := z }
def KeepTo (B0 Bb g1 g3 g6 g7 g8 gf : Nat) (A0 : Option Addr) (n c0 i : Nat) (vo : Value) (out : List S56) (b : List Int) (sc sa : Int) (w w' : World) : Prop :=
 ∃ vb',KAt w' B0 Bb g1 g3 g6 g7 g8 gf A0 n c0 i vo vb' out b sc sa ∧ Fr (XK Bb g8 gf vo) w w'
theorem zzA {w W : World} {B0 Bb g1 g3 g6 g7 g8 gf : Nat} {A0 : Option Addr} {n c0 i : Nat} {vo vb : Value} {out : List S56} {b : List Int} {sc sa ch : Int} (h : KAt W B0 Bb g1 g3 g6 g7 g8 gf A0 n c0 i vo vb out b sc sa) (hf : Fr (XK Bb g8 gf vo) w W)
  {v' : Value} {W4 : World} (hg : (W.alloc (.cells #[.int .u8 ch] 5)).grownBy W4 vb.ownBlock) (ho : W4.ownsRow Bb 5 1 v' (b.length + 1) (zqA b ++ [.int .u8 ch])) :
  W4.heap[g8]? = some (.cells #[vb] 68 (0,0)) ∧ (W4.setCell ⟨g8,0,none⟩ v').heap[g7]? = some (.cells #[.pointer (some ⟨gf,0,none⟩)] 173 (0,0)) ∧ (W4.setCell ⟨g8,0,none⟩ v').heap[g6]? = some (.cells #[.int .i64 (i : Int)] 3 (0,0)) ∧
  (W4.setCell ⟨g8,0,none⟩ v').heap[gf]? = some (.cells #[.int .u8 sc,.int .i64 sa] 177 (0,0)) ∧
  KAt (((W4.setCell ⟨g8,0,none⟩ v').setCell ⟨gf,0,none⟩ (.int .u8 ch)).setCell ⟨gf,1,none⟩ (.int .i64 i)) B0 Bb g1 g3 g6 g7 g8 gf A0 n c0 i vo v' out (b ++ [ch]) ch i ∧
  Fr (XK Bb g8 gf vo) w (((W4.setCell ⟨g8,0,none⟩ v').setCell ⟨gf,0,none⟩ (.int .u8 ch)).setCell ⟨gf,1,none⟩ (.int .i64 i)) := by
 have hrow : ∀ r,vb.ownBlock = some r → Bb ≤ r := fun r hr => zcZ h.b r hr
 have hbk : ∀ {g : Nat} {cs : Array Value} {t : TypeId},W.heap[g]? = some (.cells cs t (0,0)) → t ≠ 5 → W4.heap[g]? = some (.cells cs t (0,0)) := fun hgb hne => zbS (zcE hgb _) hg (zeM h.b hgb (Ne.symm hne))
 have y1 := hbk h.x1 (by decide)
 have y3 := hbk h.x3 (by decide)
 have y6 := hbk h.x6 (by decide)
 have y7 := hbk h.x7 (by decide)
 have y8 := hbk h.x8 (by decide)
 have yf := hbk h.xf (by decide)
 have yo : W4.ownsRow B0 56 4 vo out.length (zaU out) := zlA (zgG h.out _) hg (zeL h.out h.b (by decide))
 have d83 : ∀ {g : Nat} {cs : Array Value} {t : TypeId},W4.heap[g]? = some (.cells cs t (0,0)) → t ≠ 68 → (W4.setCell ⟨g8,0,none⟩ v').heap[g]? = some (.cells cs t (0,0)) := fun hgb hne => zeV hgb (p := ⟨g8,0,none⟩) (zhG hgb y8 hne) _
 have z1 := d83 y1 (by decide)
 have z3 := d83 y3 (by decide)
 have z6 := d83 y6 (by decide)
 have z7 := d83 y7 (by decide)
 have zf := d83 yf (by decide)
 have z8 : (W4.setCell ⟨g8,0,none⟩ v').heap[g8]? = some (.cells #[v'] 68 (0,0)) := zbX y8 0 _ rfl
 have zo := zcG yo (p := ⟨g8,0,none⟩) (zeM yo y8 (by decide)) v'
 have zb := zcG ho (p := ⟨g8,0,none⟩) (zeM ho y8 (by decide)) v'
 have f1 : ∀ {V : World} (i' : Nat) (u : Value),V.heap[gf]? = some (.cells #[.int .u8 sc,.int .i64 sa] 177 (0,0)) ∨ True → True := fun _ _ _ => trivial
 obtain ⟨V,hV⟩ : ∃ V,W4.setCell ⟨g8,0,none⟩ v' = V := ⟨_,rfl⟩
 rw [hV] at z1 z3 z6 z7 zf z8 zo zb ⊢
 have u0 : (V.setCell ⟨gf,0,none⟩ (.int .u8 ch)).heap[gf]? = some (.cells #[.int .u8 ch,.int .i64 sa] 177 (0,0)) := zbX zf 0 _ rfl
 have u1 : ((V.setCell ⟨gf,0,none⟩ (.int .u8 ch)).setCell ⟨gf,1,none⟩ (.int .i64 i)).heap[gf]? = some (.cells #[.int .u8 ch,.int .i64 (i : Int)] 177 (0,0)) := zbX u0 1 _ rfl
 have far : ∀ {g : Nat} {cs : Array Value} {t : TypeId},V.heap[g]? = some (.cells cs t (0,0)) → t ≠ 177 → ((V.setCell ⟨gf,0,none⟩ (.int .u8 ch)).setCell ⟨gf,1,none⟩ (.int .i64 i)).heap[g]? = some (.cells cs t (0,0)) := fun hgb hne =>
  zeV (zeV hgb (p := ⟨gf,0,none⟩) (zhG hgb zf hne) _) (p := ⟨gf,1,none⟩) (zhG hgb zf hne) _
 have oo := zcG (zcG zo (p := ⟨gf,0,none⟩) (zeM zo zf (by decide)) (.int .u8 ch)) (p := ⟨gf,1,none⟩) (zeM zo zf (by decide)) (.int .i64 i)
 have ob := zcG (zcG zb (p := ⟨gf,0,none⟩) (zeM zb zf (by decide)) (.int .u8 ch)) (p := ⟨gf,1,none⟩) (zeM zb zf (by decide)) (.int .i64 i)
 have hfr : Fr (XK Bb g8 gf vo) W V := by
  rw [← hV]
  refine Fr.trans (Fr.trans (Fr.below ((Below.refl _ W).alloc (Nat.le_refl _) (.cells #[.int .u8 ch] 5))) (Fr.grown hg fun r hr => .inr (.inr (.inr (hrow r hr))))) (Fr.set (.inr (.inl rfl)) _)
 refine ⟨y8,z7,z6,zf,⟨far z1 (by decide),far z3 (by decide),far z6 (by decide),far z7 (by decide),far z8 (by decide),u1,oo,?_,h.l8,h.lf,?_⟩,Fr.trans (Fr.trans hf hfr) (Fr.trans (Fr.set (.inr (.inr (.inl rfl))) _) (Fr.set (.inr (.inr (.inl rfl))) _))⟩
 ·have e : zqA (b ++ [ch]) = zqA b ++ [.int .u8 ch] := by simp [zqA]
  rw [e,List.length_append]
  exact ob
 have := hfr.size
 have h1 := ((Fr.set (X := fun _ => True) (w := V) (p := ⟨gf,0,none⟩) trivial (.int .u8 ch)).trans (Fr.set (p := ⟨gf,1,none⟩) trivial (.int .i64 i))).size
 have := h.lb
 omega
theorem ydN {w : World} {B0 Bb g1 g3 g6 g7 g8 gf go co : Nat} {A0 : Option Addr} {n c0 i : Nat} {vb : Value} {out : List S56} {b : List Int} {sc sa z : Int} (h : KAt w B0 Bb g1 g3 g6 g7 g8 gf A0 n c0 i (.slice (some ⟨go,0,none⟩) out.length co) vb out b sc sa) (hi : i < out.length) :
  KAt (w.setCell ⟨go,i * 4 + 2,none⟩ (.int .i64 z)) B0 Bb g1 g3 g6 g7 g8 gf A0 n c0 i (.slice (some ⟨go,0,none⟩) out.length co) vb (out.modify i (atF z)) b sc sa ∧
  Fr (XK Bb g8 gf (.slice (some ⟨go,0,none⟩) out.length co)) w (w.setCell ⟨go,i * 4 + 2,none⟩ (.int .i64 z)) := by
 obtain ⟨cs,hcs⟩ := zcO h.out go rfl
 have far : ∀ {g : Nat} {cs' : Array Value} {t : TypeId},w.heap[g]? = some (.cells cs' t (0,0)) → t ≠ 56 → (w.setCell ⟨go,i * 4 + 2,none⟩ (.int .i64 z)).heap[g]? = some (.cells cs' t (0,0)) := fun hgb hne => zeV hgb (p := ⟨go,i * 4 + 2,none⟩) (zhG hgb hcs hne) _
 have hb := zcG h.b (p := ⟨go,i * 4 + 2,none⟩) (zeM h.b hcs (by decide)) (.int .i64 z)
 have ho := (h.out.stored (i * 4 + 2) (.int .i64 z)).1
 rw [zlE (atF z) 2 (by omega) (.int .i64 z) out i hi rfl] at ho
 refine ⟨⟨far h.x1 (by decide),far h.x3 (by decide),far h.x6 (by decide),far h.x7 (by decide),far h.x8 (by decide),far h.xf (by decide),?_,hb,h.l8,h.lf,?_⟩,Fr.set (p := ⟨go,i * 4 + 2,none⟩) (.inl rfl) _⟩
 ·rw [List.length_modify]
  exact ho
 have := (Fr.set (X := fun _ => True) (w := w) (p := ⟨go,i * 4 + 2,none⟩) trivial (.int .i64 z)).size
 have := h.lb
 omega
def zkJ (t : List S56) (i k : Nat) (b : List Int) (out : List S56) : List S56 := if b = [] then out.modify i (atF (wrap64 ((zaA t i).f2 + k))) else out
set_option pp.maxSteps 3000 in
theorem ydO (B0 Bb g1 g3 g6 g7 g8 gf : Nat) (A0 : Option Addr) (n c0 i k : Nat) (ch : Int) (vo vb : Value) (out : List S56) (b : List Int) (sc sa : Int) (t : List S56) (w : World) (hn : t.length = n) (hi : i < n) (hol : out.length = n) (hn6 : n ≤ 1000000) (hbl : b.length ≤ 1000000) (hk : k ≤ 1000000)
  (hA : Kd.C k56 w A0 n t) (h : KAt w B0 Bb g1 g3 g6 g7 g8 gf A0 n c0 i vo vb out b sc sa) :
  Calls Try.prog 145 #[.int .i64 (k : Int),.int .u8 ch,.pointer (some ⟨g8,0,none⟩),.pointer (some ⟨g1,0,none⟩),.pointer (some ⟨g6,0,none⟩),.pointer (some ⟨g3,0,none⟩),.pointer (some ⟨g7,0,none⟩)] w fun e w' =>
   e = .returned (.tuple #[]) ∧ KeepTo B0 Bb g1 g3 g6 g7 g8 gf A0 n c0 i vo (zkJ t i k b out) (b ++ [ch]) ch i w w' := by
 subst hn
 obtain ⟨Ab,cb,rfl⟩ := zbB h.b
 obtain ⟨go,co,rfl⟩ := zhZ h.out (by omega)
 have HK := Lib.hid h
 have x8 := zaB h.x8 0
 simp only [gzz] at x8
 obtain ⟨i0,hi0,hz0,hz1,hz2⟩ := info_parts info5
 by_cases hb : b = []
 ·subst hb
  have H0 : zkJ t i k [] out = out.modify i (atF (wrap64 ((zaA t i).f2 + k))) := by unfold zkJ;rw [if_pos rfl]
  rw [H0]
  have H0 : ([] : List Int).length = 0 := rfl
  obtain ⟨ad,rfl,q0,q1,q2,q3⟩ := zeN hA (i : Int) (by omega) (by omega)
  simp only [Int.toNat_natCast] at q0 q1 q2 q3
  obtain ⟨z,hz⟩ : ∃ z,(zaA t i).f2 = z := ⟨_,rfl⟩
  rw [hz] at q2 ⊢
  obtain ⟨W3,hW3⟩ : ∃ W3,w.drew = W3 := ⟨_,rfl⟩
  have hB3 : Below w.heap.size w W3 := by rw [← hW3];exact zaJ (Below.refl _ _)
  have hK3 := h.fr hB3
  have x1 := zaB hK3.x1 0
  have x3 := zaB hK3.x3 0
  have x6 := zaB hK3.x6 0
  simp only [gzz] at x1 x3 x6
  have q2' := (hB3.cell (World.block_lt_of_cell? w _ q2)).trans q2
  have hfz := World.ownsRow.frozenAt hK3.out (i * 4 + 2)
  have hKF := ydN (z := wrap64 (z + k)) hK3 (by omega)
  have x8' := zaB hK3.x8 0
  have xo := hK3.out.cellAt (i * 4 + 2) (by omega)
  rw [zkI out i 2 (by omega) (by omega)] at xo
  simp only [zeO,gzz] at x8' xo
  have HC := Lib.hid (And.intro x1 (And.intro x3 (And.intro x6 (And.intro q2' (And.intro hfz (And.intro x8' xo))))))
  have HKF := Lib.hid (And.intro hKF.1 (Fr.trans (Fr.below (X := XK Bb g8 gf (.slice (some ⟨go,0,none⟩) out.length co)) hB3) hKF.2))
  have hii : (i : Int) < (t.length : Int) := by omega
  have hio : (i : Int) < (out.length : Int) := by omega
  clear x1 x3 x6 q2' hfz x8' xo hKF hK3 hB3 q0 q1 q2 q3 hA h hz
  go_enter Try.func145,Try.ntmps145
  go_wp2
  refine Go.Det.region_det (fun W => W = W3) 11 (by kernel_rfl) (by kernel_rfl) (by kernel_rfl) (by decide) hW3 ?_
  repeat
   apply Go.Det.seqW_cons
   focus
    intro W hS
    obtain rfl : W = W3 := hS
    obtain ⟨x1,x3,x6,q2,hfz,y8,xo⟩ := HC.out
    go_wp2
    exact Go.Det.AtEnd.mk rfl
  refine Go.Det.seqW_nil ?_
  intro W hS
  obtain rfl : W = W3 := hS
  simp only [List.drop_succ_cons,List.drop_zero]
  obtain ⟨x1,x3,x6,q2,hfz,y8,xo⟩ := HC.out
  clear hW3
  have HKW := HKF
  obtain ⟨W2,hW2⟩ : ∃ W2,W.setCell ⟨go,i * 4 + 2,none⟩ (.int .i64 (wrap64 (z + k))) = W2 := ⟨_,rfl⟩
  rw [hW2] at HKW
  clear y8
  have y8 := zaB HKW.out.1.x8 0
  simp only [gzz,H0] at y8
  go_wp2_with (at_builtin;refine wpList_append_own _ rfl _ _ 68 rfl Bb 5 i0 (.int .u8 0) 1 1 Try.underlying68 hi0 hz0 hz1 hz2 rfl (by decide) _ _ _ rfl (HKW.out.1.b.alloc (.cells #[.int .u8 ch] 5)) _ 1 1 [.int .u8 ch] rfl rfl ?a1 ?a2 ?a3 ?a4 ?a5 ?a6)
  case a1 => exact zgK _ [.int .u8 ch] 5
  case a2 => simp [Value.oneCell']
  case a3 => unfold maxLen;simp <;> omega
  case a4 => omega
  case a5 => have := HKW.out.1.lb;first | done | omega | (simp;omega) | (simp;done)
  case a6 =>
   intro v4 W4 hown hgrow _
   obtain ⟨A4,c4,rfl⟩ := zbB hown
   obtain ⟨e8,e7,e6,ef,hKA,hFr⟩ := zzA HKW.out.1 HKW.out.2 hgrow hown
   have E := Lib.hid (And.intro hKA hFr)
   have y8 := zaB e8 0
   have y7 := zaB e7 0
   have y6 := zaB e6 0
   have yf0 := zaB ef 0
   have yf1 := zaB ef 1
   have f8 := free_of_one e8
   have ff := fun j => ybX ef j
   simp only [gzz] at y8 y7 y6 yf0 yf1
   clear hKA hFr e8 e7 e6 ef hown hgrow
   go_wp2
   go_end0
   exact ⟨rfl,_,E.out.1,E.out.2⟩
 ·have H0 : zkJ t i k b out = out := by unfold zkJ;rw [if_neg hb]
  rw [H0]
  have hlen : 0 < b.length := List.length_pos_iff.mpr hb
  have hl0 : ((b.length : Int) == 0) = false := beq_eq_false_iff_ne.2 (by omega)
  have HKW := Lib.hid (And.intro h (Fr.refl (XK Bb g8 gf (.slice (some ⟨go,0,none⟩) out.length co)) w))
  clear hA h
  go_enter Try.func145,Try.ntmps145
  go_wp2_with (at_builtin;refine wpList_append_own _ rfl _ _ 68 rfl Bb 5 i0 (.int .u8 0) 1 1 Try.underlying68 hi0 hz0 hz1 hz2 rfl (by decide) _ _ _ rfl (HKW.out.1.b.alloc (.cells #[.int .u8 ch] 5)) _ 1 1 [.int .u8 ch] rfl rfl ?b1 ?b2 ?b3 ?b4 ?b5 ?b6)
  case b1 => exact zgK _ [.int .u8 ch] 5
  case b2 => simp [Value.oneCell']
  case b3 => unfold maxLen;omega
  case b4 => omega
  case b5 => have := HKW.out.1.lb;first | done | omega | (simp;omega) | (simp;done)
  case b6 =>
   intro v4 W4 hown hgrow _
   obtain ⟨A4,c4,rfl⟩ := zbB hown
   obtain ⟨e8,e7,e6,ef,hKA,hFr⟩ := zzA HKW.out.1 HKW.out.2 hgrow hown
   have E := Lib.hid (And.intro hKA hFr)
   have y8 := zaB e8 0
   have y7 := zaB e7 0
   have y6 := zaB e6 0
   have yf0 := zaB ef 0
   have yf1 := zaB ef 1
   have f8 := free_of_one e8
   have ff := fun j => ybX ef j
   simp only [gzz] at y8 y7 y6 yf0 yf1
   clear hKA hFr e8 e7 e6 ef hown hgrow
   go_wp2
   go_end0
   exact ⟨rfl,_,E.out.1,E.out.2⟩
end Go.Proofs.Ythcmfjpheanphaa.Pr
namespace Go.Proofs.Ythcmfjpheanphaa.Pr
open Go.RowKit Go.Proofs.YthcmfjpheanphaaW.PrintWords
def zuD (s : ByteArray) (c : Int) : Int := Lib.indexByte s.data.toList c.toNat.toUInt8
def strings_IndexByte.f (a0 : ByteArray) (a1 : Int) : Option Int := some (zuD a0 a1)
theorem strings_IndexByte.calls (a0 : ByteArray) (a1 : Int) (r : Int) (w : World) (h : strings_IndexByte.f a0 a1 = some r) :
  Calls Try.prog 163 #[.string a0,.int .u8 a1] w fun e w' => e = .returned (.int .i64 r) ∧ Below w.heap.size w w' := by
 obtain rfl := Option.some.inj h
 refine (zjP a0 a1 w).mono ?_
 rintro e w' ⟨rfl,rfl⟩
 exact ⟨rfl,Below.refl _ _⟩
end Go.Proofs.Ythcmfjpheanphaa.Pr
namespace Go.Proofs.Ythcmfjpheanphaa.Pr
open Go.RowKit Go.Proofs.YthcmfjpheanphaaW.PrintWords Go.Proofs.YthcmfjpheanphaaW.PrintLast Go.Proofs.YthcmfjpheanphaaW.PrintMore
attribute [local go_sem] zaX zaY zbG zbI zaV zaW zaZ zbA
mutual
def zbM : Nat → List (S56) → List Int → List Int → Int → Int → Option (List Int)
 | 0,_,_,_,_,_ => none
 | k + 1,x0,x3,x4,x10,x11 => if x11 < x10 then (zdO k x0 x3 x4 x11 x10 x11) else (some x3)
def zeX : Nat → List (S56) → List Int → List Int → Int → Int → Int → Option (List Int)
 | 0,_,_,_,_,_,_ => none
 | k + 1,x0,x3,x4,x5,x10,x11 => if (x4.length : Int) > 0 then (if 0 ≤ (wrap64 ((x4.length : Int) - 1)) then (if (wrap64 ((x4.length : Int) - 1)) < (x4.length : Int) then (if 0 ≤ x5 then (if x5 < (x3.length : Int) then ((some (x3.set (x5 : Int).toNat (rd x4 (wrap64 ((x4.length : Int) - 1))) : List Int)).bind fun y194 => (if x5 < (x0.length : Int) then ((strings_IndexByte.f (⟨#[49,50,51,112,105,99,110]⟩ : ByteArray) ((zaA x0 x5).f0)).bind fun t196 => (if t196 ≥ 0 then (if x4.length < 17592186044416 then (zbM k x0 y194 (x4 ++ [x5]) x10 (wrap64 (x11 + 1))) else (none)) else (zbM k x0 y194 x4 x10 (wrap64 (x11 + 1))))) else (none))) else (none)) else (none)) else (none)) else (none)) else (if 0 ≤ x5 then (if x5 < (x0.length : Int) then ((strings_IndexByte.f (⟨#[49,50,51,112,105,99,110]⟩ : ByteArray) ((zaA x0 x5).f0)).bind fun t201 => (if t201 ≥ 0 then (if x4.length < 17592186044416 then (zbM k x0 x3 (x4 ++ [x5]) x10 (wrap64 (x11 + 1))) else (none)) else (zbM k x0 x3 x4 x10 (wrap64 (x11 + 1))))) else (none)) else (none))
def zdO : Nat → List (S56) → List Int → List Int → Int → Int → Int → Option (List Int)
 | 0,_,_,_,_,_,_ => none
 | k + 1,x0,x3,x4,x5,x10,x11 => if (x4.length : Int) > 0 then (if 0 ≤ (wrap64 ((x4.length : Int) - 1)) then (if (wrap64 ((x4.length : Int) - 1)) < (x4.length : Int) then (if 0 ≤ (rd x4 (wrap64 ((x4.length : Int) - 1))) then (if (rd x4 (wrap64 ((x4.length : Int) - 1))) < (x0.length : Int) then (if x5 ≥ (wrap64 ((rd x4 (wrap64 ((x4.length : Int) - 1))) + ((zaA x0 (rd x4 (wrap64 ((x4.length : Int) - 1)))).f3))) then (if (wrap64 ((x4.length : Int) - 1)) ≤ (x4.length : Int) then (zdO k x0 x3 (x4.take ((wrap64 ((x4.length : Int) - 1)) : Int).toNat) x5 x10 x11) else (none)) else (zeX k x0 x3 x4 x5 x10 x11)) else (none)) else (none)) else (none)) else (none)) else (zeX k x0 x3 x4 x5 x10 x11)
end
def norm_owners.f (k : Nat) (l0 : List (S56)) : Option (List Int) := if 0 ≤ (l0.length : Int) then (if ((l0.length : Int) : Int).toNat ≤ 35184372088832 then (zbM k l0 (List.replicate ((l0.length : Int) : Int).toNat 0) ([] : List Int) (l0.length : Int) 0) else (none)) else (none)
theorem norm_owners.calls (k : Nat) (A0 : Option Addr) (c0 : Nat) (l0 : List (S56)) (r : List Int) (w : World) (hr0 : Kd.C k56 w A0 l0.length l0) (hc0 : l0.length ≤ c0) (h : norm_owners.f k l0 = some r) :
  Calls Try.prog 144 #[.slice A0 l0.length c0] w fun e w' => ∃ v0_ : Value,e = .returned (v0_) ∧ Kd.R (Kd.int .i64) 3 w' w.heap.size (fun _ => True) v0_ r ∧ Below w.heap.size w w' := by
 have HR0 := Aside0.mk hr0
 have HC0 := Aside0.mk hc0
 clear hr0 hc0
 have HB := Aside0.mk (Below.refl w.heap.size w)
 have H : (if 0 ≤ (l0.length : Int) then (if ((l0.length : Int) : Int).toNat ≤ 35184372088832 then (zbM k l0 (List.replicate ((l0.length : Int) : Int).toNat 0) ([] : List Int) (l0.length : Int) 0) else (none)) else (none)) = some r := h
 clear h
 obtain ⟨c2,H⟩ := spG H
 have c2b0 := eq_true c2
 have c2b1 : decide (0 ≤ (l0.length : Int)) = true := decide_eq_true c2
 clear c2
 obtain ⟨c3,H⟩ := spG H
 have c3b0 := eq_true c3
 have c3b1 : decide (((l0.length : Int) : Int).toNat ≤ 35184372088832) = true := decide_eq_true c3
 clear c3
 obtain ⟨y184,hy184⟩ : ∃ y_ : List Int,y_ = (List.replicate ((l0.length : Int) : Int).toNat 0) := ⟨_,rfl⟩
 replace H : (zbM k l0 y184 ([] : List Int) (l0.length : Int) 0) = some r := by first | (rw [hy184];with_reducible exact H) | (have H2_ := (Option.bind_some _ _).symm.trans H;rw [hy184];with_reducible exact H2_) | (have H2_ := (Option.bind_some _ _).symm.trans H;with_reducible exact H2_) | with_reducible exact H | (rw [hy184];exact H) | exact H
 have Ny184 := Aside0.mk hy184
 clear hy184
 have H' := Aside0.mk H
 clear H
 go_enter Try.func144,Try.ntmps144
 go_wp2_with (first | ((with_reducible refine zdT (N := 8) rfl ?_);(try (refine zeP (by rfl) ?_;dsimp only));refine Kd.R_make (Kd.int .i64) _ 3 rfl (N := 8) rfl 167 _ _ rfl (l0.length : Int) rfl rfl Try.underlying167 (.int .i64 0) 8 zrE rfl (by decide) (by omega) 0 (ok := fun _ => True) (okp := fun _ => True) rfl (fun _ hk => hk) trivial qD (Nat.le_trans (Nat.mul_le_mul_right _ (qD : (l0.length : Int).toNat ≤ 35184372088832)) (by omega)) (Below.refl _ _) (Nat.le_refl _) ?_;intro v185 w4 ho5 hb hg_ hnew_;clear hg_ hnew_;(first | rw [← Ny184.out] at ho5 | (simp only [Int.reduceToNat] at ho5;rw [← Ny184.out] at ho5));obtain ⟨_,_⟩ := a2 (Kd.R_lower ho5 (zaF qB)) (zaD qB hb);clear HB hb ho5;rename_i HO186 HB))
 go_loopg [4,11] k (fun kq v4 v11 w' => ∃ (x3_1 : List Int) (x4_1 : List Int) (x11_1 : Int),v11 = .int .i64 x11_1 ∧ Aside0 (zbM kq l0 x3_1 x4_1 (l0.length : Int) x11_1 = some r) ∧ Aside0 (kq ≤ k) ∧ Aside0 (Kd.R (Kd.int .i64) 3 w' w.heap.size (fun k_ => some k_ ≠ (v4 : Value).ownBlock) v185 x3_1) ∧ Aside0 (Kd.R (Kd.int .i64) 3 w' w.heap.size (fun k_ => some k_ ≠ (v185 : Value).ownBlock) v4 x4_1) ∧ Aside0 (Below w.heap.size w w'))
 case atStart => exact ⟨(y184),(([] : List Int)),(0),qS,H',⟨Nat.le_refl _⟩,⟨by (with_reducible repeat (first | apply Kd.R_alloc | apply Kd.R_drewN | apply Kd.R_drew));exact Kd.R_mono HO186.out (fun _ hk => (by simp [Value.ownBlock]))⟩,⟨qN⟩,⟨qB⟩⟩
 clear H'
 obtain ⟨x3_1,x4_1,x11_1,rfl,HA,HK1,HO_3,HO_4,HB⟩ := hrel
 cases gk with
 | zero => exact absurd HA.out (by simp [zbM])
 | succ k1 =>
 have H := HA.out
 clear HA
 simp only [zbM] at H
 obtain ⟨c6b0,H⟩ | ⟨c6b0,H⟩ := spD H
 rotate_left
 ·obtain rfl := Option.some.inj H
  go_wp2
  repeat (go_quiet (fail);try go_wp2)
  go_ret
  exact ⟨_,qE,qRb HO_3,qB⟩
 have HC7 := Aside0.mk H
 clear H
 go_upto_block 2 with (fail)
 repeat (go_quiet (fail);go_upto_block 2 with (fail))
 go_cut [4] (fun v4 wc => ∃ (kq : Nat) (x4_6 : List Int),Aside0 (zeX kq l0 x3_1 x4_6 x11_1 (l0.length : Int) x11_1 = some r) ∧ Aside0 (kq ≤ k1) ∧ Aside0 (Kd.R (Kd.int .i64) 3 wc w.heap.size (fun k_ => some k_ ≠ (v4 : Value).ownBlock) v185 x3_1) ∧ Aside0 (Kd.R (Kd.int .i64) 3 wc w.heap.size (fun k_ => some k_ ≠ (v185 : Value).ownBlock) v4 x4_6) ∧ Aside0 (Below w.heap.size w wc))
 case first =>
  have H := HC7.out
  clear HC7
  have H' := Aside0.mk H
  clear H
  go_wp2
  repeat (go_quiet (fail);try go_wp2)
  go_loopg [4] k1 (fun kq v4 w' => ∃ (x4_2 : List Int),Aside0 (zdO kq l0 x3_1 x4_2 x11_1 (l0.length : Int) x11_1 = some r) ∧ Aside0 (kq ≤ k1) ∧ Aside0 (Kd.R (Kd.int .i64) 3 w' w.heap.size (fun k_ => some k_ ≠ (v4 : Value).ownBlock) v185 x3_1) ∧ Aside0 (Kd.R (Kd.int .i64) 3 w' w.heap.size (fun k_ => some k_ ≠ (v185 : Value).ownBlock) v4 x4_2) ∧ Aside0 (Below w.heap.size w w'))
  case atStart => exact ⟨(x4_1),H',⟨Nat.le_refl _⟩,⟨qR HO_3⟩,⟨qR HO_4⟩,⟨qB⟩⟩
  clear H'
  obtain ⟨x4_2,HA,HK2,HO_3,HO_4,HB⟩ := hrel
  cases gk with
  | zero => exact absurd HA.out (by simp [zdO])
  | succ k2 =>
  have H := HA.out
  clear HA
  simp only [zdO] at H
  by_cases c8 : (x4_2.length : Int) > 0
  rotate_left
  ·rw [if_neg c8] at H
   have c8b0 : decide (0 < (x4_2.length : Int)) = false := decide_eq_false c8
   have c8b1 : decide (0 < x4_2.length) = false := decide_eq_false (by omega)
   clear c8
   (first | rw [c8b0] | (simp only [zaO,zaR];rw [c8b0]) | skip)
   have H' := Aside0.mk H
   clear H
   obtain ⟨Ao19,co19,eo19⟩ := Kd.R_slice HO_4.out
   subst eo19
   go_wp2
   repeat (go_quiet (fail);try go_wp2)
   go_meet
   case rel => exact ⟨_,(x4_2),H',⟨by have := HK1.out;have := HK2.out;first | omega | exact Nat.le_refl _⟩,⟨qR HO_3⟩,⟨qR HO_4⟩,⟨qB⟩⟩
  rw [if_pos c8] at H
  have c8b0 : decide (0 < (x4_2.length : Int)) = true := decide_eq_true c8
  have c8b1 : decide (0 < x4_2.length) = true := decide_eq_true (by omega)
  clear c8
  (first | rw [c8b0] | (simp only [zaO,zaR];rw [c8b0]) | skip)
  obtain ⟨ji9,hji9⟩ : ∃ j_ : Int,(wrap64 ((x4_2.length : Int) - 1)) = j_ := ⟨_,rfl⟩
  replace H : (if 0 ≤ (ji9) then (if (ji9) < (x4_2.length : Int) then (if 0 ≤ (rd x4_2 (ji9)) then (if (rd x4_2 (ji9)) < (l0.length : Int) then (if x11_1 ≥ (wrap64 ((rd x4_2 (ji9)) + ((zaA l0 (rd x4_2 (ji9))).f3))) then (if (ji9) ≤ (x4_2.length : Int) then (zdO k2 l0 x3_1 (x4_2.take ((ji9) : Int).toNat) x11_1 (l0.length : Int) x11_1) else (none)) else (zeX k2 l0 x3_1 x4_2 x11_1 (l0.length : Int) x11_1)) else (none)) else (none)) else (none)) else (none)) = some r := by first | (rw [hji9] at H;exact H) | (simp only [hji9] at H ⊢;exact H)
  have hji9w : (IntKind.i64.wrap ((x4_2.length : Int) - 1)) = ji9 := (zaO _).trans hji9
  obtain ⟨c10b0,H⟩ := spN H
  obtain ⟨c11b0,H⟩ := spN H
  obtain ⟨c12b0,H⟩ := spN H
  obtain ⟨c13b0,H⟩ := spN H
  obtain ⟨c14b0,H⟩ | ⟨c14b0,H⟩ := spDe H
  rotate_left
  ·have H' := Aside0.mk H
   clear H
   obtain ⟨Ao18,co18,eo18⟩ := Kd.R_slice HO_4.out
   subst eo18
   have p187 : 0 ≤ ((ji9) : Int) := qD
   have q187 : (ji9) < (x4_2.length : Int) := qD
   obtain ⟨ad187,e187,hx187_0⟩ := Kd.at_int (Kd.R_reads' HO_4.out).2.2 (ji9) p187 q187
   cases e187
   replace p187 := eq_true p187
   replace q187 := eq_true q187
   have p188 : 0 ≤ ((ji9) : Int) := qD
   have q188 : (ji9) < (x4_2.length : Int) := qD
   obtain ⟨ad188,e188,hx188_0⟩ := Kd.at_int (Kd.R_reads' HO_4.out).2.2 (ji9) p188 q188
   obtain rfl : ad187 = ad188 := (by injection e188)
   replace p188 := eq_true p188
   replace q188 := eq_true q188
   obtain ⟨ad189,e189,p189,q189,hx189_0,hx189_1,hx189_2,hx189_3⟩ := aT56 HR0 HB (rd x4_2 (ji9))
   cases e189
   go_wp2
   repeat (go_quiet (fail);try go_wp2)
   go_meet
   case rel => exact ⟨_,(x4_2),H',⟨by have := HK1.out;have := HK2.out;first | omega | exact Nat.le_refl _⟩,⟨qR HO_3⟩,⟨qR HO_4⟩,⟨qB⟩⟩
  obtain ⟨c15,H⟩ := spG H
  have c15b0 := eq_true c15
  have c15b1 : decide ((ji9) ≤ (x4_2.length : Int)) = true := decide_eq_true c15
  clear c15
  obtain ⟨y190,hy190⟩ : ∃ y_ : List Int,y_ = (x4_2.take ((ji9) : Int).toNat) := ⟨_,rfl⟩
  replace H : (zdO k2 l0 x3_1 y190 x11_1 (l0.length : Int) x11_1) = some r := by first | (rw [hy190];with_reducible exact H) | (have H2_ := (Option.bind_some _ _).symm.trans H;rw [hy190];with_reducible exact H2_) | (have H2_ := (Option.bind_some _ _).symm.trans H;with_reducible exact H2_) | with_reducible exact H | (rw [hy190];exact H) | exact H
  have Ny190 := Aside0.mk hy190
  clear hy190
  have H' := Aside0.mk H
  clear H
  obtain ⟨Ao16,co16,eo16⟩ := Kd.R_slice HO_4.out
  subst eo16
  have p187 : 0 ≤ ((ji9) : Int) := qD
  have q187 : (ji9) < (x4_2.length : Int) := qD
  obtain ⟨ad187,e187,hx187_0⟩ := Kd.at_int (Kd.R_reads' HO_4.out).2.2 (ji9) p187 q187
  cases e187
  replace p187 := eq_true p187
  replace q187 := eq_true q187
  have p188 : 0 ≤ ((ji9) : Int) := qD
  have q188 : (ji9) < (x4_2.length : Int) := qD
  obtain ⟨ad188,e188,hx188_0⟩ := Kd.at_int (Kd.R_reads' HO_4.out).2.2 (ji9) p188 q188
  obtain rfl : ad187 = ad188 := (by injection e188)
  replace p188 := eq_true p188
  replace q188 := eq_true q188
  have p189 : 0 ≤ ((rd x4_2 (ji9)) : Int) := qD
  have q189 : (rd x4_2 (ji9)) < (l0.length : Int) := qD
  obtain ⟨ad189,e189,hx189_0,hx189_1,hx189_2,hx189_3⟩ := zeN HR0.out (rd x4_2 (ji9)) p189 q189
  cases e189
  replace hx189_0 := qH HB hx189_0
  replace hx189_1 := qH HB hx189_1
  replace hx189_2 := qH HB hx189_2
  replace hx189_3 := qH HB hx189_3
  replace p189 := eq_true p189
  replace q189 := eq_true q189
  have q17 : ((ji9) : Int) ≤ ((x4_2.length : Int) : Int) := qD
  obtain ⟨i017,hi017,_,hsz17,_⟩ := info_parts zrE
  have hcut17 := ztD (P := Try.prog) 167 3 .i64 Try.underlying167 hi017 (some ad187) x4_2.length co16 (ji9) qD q17 (Kd.R_reads' HO_4.out).2.1
  have hr17 := Kd.R_take (m := ((ji9) : Int).toNat) HO_4.out (by omega)
  have hy17 : y190.length = ((ji9) : Int).toNat := (by rw [Ny190.out,List.length_take];omega)
  rw [← Ny190.out] at hr17
  rw [← hy17] at hr17 hcut17
  clear hy17 hi017 hsz17 HO_4
  have HO192 := Aside0.mk hr17
  clear hr17
  replace q17 := eq_true q17
  go_wp2
  repeat (go_quiet (fail);try go_wp2)
  go_roundg k2
  case measure => have := HK1.out;have := HK2.out;omega
  case rel => exact ⟨(y190),H',⟨by have := HK1.out;have := HK2.out;omega⟩,⟨qR HO_3⟩,⟨qR HO192⟩,⟨qB⟩⟩
 clear HC7
 obtain ⟨kq,x4_6,HA,HJ6,HO_3,HO_4,HB⟩ := hcut
 cases kq with
 | zero => exact absurd HA.out (by simp [zeX])
 | succ kj6 =>
 have H := HA.out
 clear HA
 simp only [zeX] at H
 by_cases c20 : (x4_6.length : Int) > 0
 rotate_left
 ·rw [if_neg c20] at H
  have c20b0 : decide (0 < (x4_6.length : Int)) = false := decide_eq_false c20
  have c20b1 : decide (0 < x4_6.length) = false := decide_eq_false (by omega)
  clear c20
  obtain ⟨c40b0,H⟩ := spN H
  obtain ⟨c41b0,H⟩ := spN H
  obtain ⟨t201,A42,H⟩ := bdA H
  obtain ⟨c43b0,H⟩ | ⟨c43b0,H⟩ := spDe H
  rotate_left
  ·have H' := Aside0.mk H
   clear H
   obtain ⟨Ao48,co48,eo48⟩ := Kd.R_slice HO_4.out
   subst eo48
   obtain ⟨ad200,e200,p200,q200,hx200_0,hx200_1,hx200_2,hx200_3⟩ := aT56 HR0 HB x11_1
   cases e200
   go_wp2_with (first | (go_at_call 163;(with_reducible refine (strings_IndexByte.calls (⟨#[49,50,51,112,105,99,110]⟩ : ByteArray) ((zaA l0 x11_1).f0) t201 _ A42.out).mono ?_);rintro e w49 ⟨rfl,hb⟩;obtain ⟨_,_,_⟩ := a3 (Kd.R_below (qR HO_3) hb) (Kd.R_below (qR HO_4) hb) (zaD qB hb);clear HO_3 HO_4 HB;rename_i HO_3 HO_4 HB;(try clear hb);(try clear hb2);(try clear hk);(try clear hi)))
   go_roundg kj6
   case measure => have := HK1.out;have := HJ6.out;omega
   case rel => exact ⟨(x3_1),(x4_6),(wrap64 (x11_1 + 1)),qS,H',⟨by have := HK1.out;have := HJ6.out;omega⟩,⟨qR HO_3⟩,⟨qR HO_4⟩,⟨qB⟩⟩
  obtain ⟨LMc44,H⟩ := spL H
  obtain ⟨y202,hy202⟩ : ∃ y_ : List Int,y_ = (x4_6 ++ [x11_1]) := ⟨_,rfl⟩
  replace H : (zbM kj6 l0 x3_1 y202 (l0.length : Int) (wrap64 (x11_1 + 1))) = some r := by first | (rw [hy202];with_reducible exact H) | (have H2_ := (Option.bind_some _ _).symm.trans H;rw [hy202];with_reducible exact H2_) | (have H2_ := (Option.bind_some _ _).symm.trans H;with_reducible exact H2_) | with_reducible exact H | (rw [hy202];exact H) | exact H
  have Ny202 := Aside0.mk hy202
  clear hy202
  have H' := Aside0.mk H
  clear H
  obtain ⟨Ao45,co45,eo45⟩ := Kd.R_slice HO_4.out
  subst eo45
  have p200 : 0 ≤ (x11_1 : Int) := qD
  have q200 : x11_1 < (l0.length : Int) := qD
  obtain ⟨ad200,e200,hx200_0,hx200_1,hx200_2,hx200_3⟩ := zeN HR0.out x11_1 p200 q200
  cases e200
  replace hx200_0 := qH HB hx200_0
  replace hx200_1 := qH HB hx200_1
  replace hx200_2 := qH HB hx200_2
  replace hx200_3 := qH HB hx200_3
  replace p200 := eq_true p200
  replace q200 := eq_true q200
  go_wp2_with (first | (go_at_call 163;(with_reducible refine (strings_IndexByte.calls (⟨#[49,50,51,112,105,99,110]⟩ : ByteArray) ((zaA l0 x11_1).f0) t201 _ A42.out).mono ?_);rintro e w46 ⟨rfl,hb⟩;obtain ⟨_,_,_⟩ := a3 (Kd.R_below (qR HO_3) hb) (Kd.R_below (qR HO_4) hb) (zaD qB hb);clear HO_3 HO_4 HB;rename_i HO_3 HO_4 HB;(try clear hb);(try clear hb2);(try clear hk);(try clear hi)) | ((with_reducible refine zcJ (b := .append) (xs := #[.tmp 62,.tmp 64]) rfl ?_);(try (refine zeP (by rfl) ?_;dsimp only));at_builtin;refine Kd.R_append (Kd.int .i64) (w0 := w) w.heap.size rfl (.tmp 62) (.tmp 64) 167 3 (.int .i64 0) 8 rfl Try.underlying167 zrE rfl (by decide) (by omega) (.slice Ao45 x4_6.length co45) x4_6 x11_1 [.int .i64 x11_1] (fun k_ => some k_ ≠ (v185 : Value).ownBlock) (fun _ => False) rfl rfl ?aP (fun _ hk => hk.elim) ?aF ?aO ?aB ?aS ?aL ?_;(case aP => exact rfl);(case aB => exact qB);(case aF => exact (fun k_ hk => Kd.fresh' (Kd.R_lt (qR HO_3)) k_ hk));(case aO => exact qR HO_4);(case aS => exact (zaF qB));(case aL => have := LMc44.out;omega);intro v203 w47 ho hb hg hat;rw [← Ny202.out] at ho;obtain ⟨_,_,_⟩ := a3 (Kd.R_after (ok := (fun _ => True)) (qRc HO_3) hg hat) hb ho;clear HO_3 HB HO_4 ho hb hg hat;rename_i HO_3 HB HO204))
  go_roundg kj6
  case measure => have := HK1.out;have := HJ6.out;omega
  case rel => exact ⟨(x3_1),(y202),(wrap64 (x11_1 + 1)),qS,H',⟨by have := HK1.out;have := HJ6.out;omega⟩,⟨qRa HO_3⟩,⟨qR HO204⟩,⟨qB⟩⟩
 rw [if_pos c20] at H
 have c20b0 : decide (0 < (x4_6.length : Int)) = true := decide_eq_true c20
 have c20b1 : decide (0 < x4_6.length) = true := decide_eq_true (by omega)
 clear c20
 obtain ⟨ji21,hji21⟩ : ∃ j_ : Int,(wrap64 ((x4_6.length : Int) - 1)) = j_ := ⟨_,rfl⟩
 replace H : (if 0 ≤ (ji21) then (if (ji21) < (x4_6.length : Int) then (if 0 ≤ x11_1 then (if x11_1 < (x3_1.length : Int) then ((some (x3_1.set (x11_1 : Int).toNat (rd x4_6 (ji21)) : List Int)).bind fun y194 => (if x11_1 < (l0.length : Int) then ((strings_IndexByte.f (⟨#[49,50,51,112,105,99,110]⟩ : ByteArray) ((zaA l0 x11_1).f0)).bind fun t196 => (if t196 ≥ 0 then (if x4_6.length < 17592186044416 then (zbM kj6 l0 y194 (x4_6 ++ [x11_1]) (l0.length : Int) (wrap64 (x11_1 + 1))) else (none)) else (zbM kj6 l0 y194 x4_6 (l0.length : Int) (wrap64 (x11_1 + 1))))) else (none))) else (none)) else (none)) else (none)) else (none)) = some r := by first | (rw [hji21] at H;exact H) | (simp only [hji21] at H ⊢;exact H)
 have hji21w : (IntKind.i64.wrap ((x4_6.length : Int) - 1)) = ji21 := (zaO _).trans hji21
 obtain ⟨c22b0,H⟩ := spN H
 obtain ⟨c23b0,H⟩ := spN H
 obtain ⟨c24b0,H⟩ := spN H
 obtain ⟨c25b0,H⟩ := spN H
 obtain ⟨y194,hy194,H⟩ := bsE H
 have Ny194 := Aside0.mk hy194
 clear hy194
 obtain ⟨c27b0,H⟩ := spN H
 obtain ⟨t196,A28,H⟩ := bdA H
 obtain ⟨c29b0,H⟩ | ⟨c29b0,H⟩ := spDe H
 rotate_left
 ·have H' := Aside0.mk H
  clear H
  obtain ⟨Ao36,co36,eo36⟩ := Kd.R_slice HO_4.out
  subst eo36
  have p193 : 0 ≤ ((ji21) : Int) := qD
  have q193 : (ji21) < (x4_6.length : Int) := qD
  obtain ⟨ad193,e193,hx193_0⟩ := Kd.at_int (Kd.R_reads' HO_4.out).2.2 (ji21) p193 q193
  cases e193
  replace p193 := eq_true p193
  replace q193 := eq_true q193
  have p26 : 0 ≤ (x11_1 : Int) := qD
  have q26 : (x11_1 : Int) < ((x3_1.length : Int) : Int) := qD
  obtain ⟨go26,co26,eo26,gb26,gl26,cl26,HG26⟩ := Kd.R_form HO_3.out (by omega)
  (first | cases eo26 | (injection eo26 with ea_ en_ ec_;(first | subst ea_ | (injection ea_ with ea_;subst ea_));subst ec_;clear en_))
  have GB26 := Aside0.mk gb26
  have GG26 := Aside0.mk HG26
  clear gb26 gl26 HG26
  obtain ⟨hx26_0,hf26_0⟩ := Kd.R_celln 0 HO_3.out (x11_1 : Int) p26 q26
  replace p26 := eq_true p26
  replace q26 := eq_true q26
  have HP37 := Kd.R_putg HO_3.out (x11_1 : Int) (rd x4_6 (ji21))
  go_wp2_with (first | ((with_reducible refine zoL (t := 3) (p := 54) rfl ?_);(try (rw [zlM wc];generalize hq_ : World.drewN wc _ = wc;have n0_ := Aside0.mk (Kd.R_at hq_ HO_3.out);have n1_ := Aside0.mk (Kd.R_at hq_ HO_4.out);have n2_ := Aside0.mk (zyK hq_ HB.out);clear hq_ HO_3 HO_4 HB;have HO_3 := n0_;have HO_4 := n1_;have HB := n2_;clear n0_ n1_ n2_;(try (have HP37 := Kd.R_putg HO_3.out (x11_1 : Int) (rd x4_6 (ji21))))));refine znI (t := 3) (p := 54) (v := ?vo_w38) (w1 := (wc.setCell ⟨go26,(x11_1 : Int).toNat,none⟩ (.int .i64 (rd x4_6 (ji21))))) ?hg ?ho ?hn ?hr ?_;(case ho => rfl);(case hg => rfl);(case hn => rfl);(case hr => first | (go_simp;done) | (go_simp;rfl));intro w38 hw;have hg : wc.grownBy w38 (some go26) := (by rw [hw];exact HP37.2);have hp_ : Kd.R (Kd.int .i64) 3 w38 w.heap.size (fun k_ => some k_ ≠ (.slice (some ad193) x4_6.length co36 : Value).ownBlock) (.slice (some ⟨go26,0,none⟩) x3_1.length co26) y194 := (by rw [hw,Ny194.out];exact HP37.1);clear HP37;obtain ⟨_,_,_⟩ := a3 hp_ (Kd.R_after (v := (.slice (some ⟨go26,0,none⟩) x3_1.length co26)) (v1 := (.slice (some ⟨go26,0,none⟩) x3_1.length co26)) (ok := (fun _ => True)) (qRc HO_4) hg (.inl rfl)) ((by rw [hw];exact zjC HB.out GB26.out : Below w.heap.size w w38));clear HO_3 HO_4 HB hg hw hp_;rename_i HO_3 HO_4 HB;have p195 : 0 ≤ (x11_1 : Int) := qD;have q195 : x11_1 < (l0.length : Int) := qD;obtain ⟨ad195,e195,hx195_0,hx195_1,hx195_2,hx195_3⟩ := zeN HR0.out x11_1 p195 q195;cases e195;replace hx195_0 := qH HB hx195_0;replace hx195_1 := qH HB hx195_1;replace hx195_2 := qH HB hx195_2;replace hx195_3 := qH HB hx195_3;replace p195 := eq_true p195;replace q195 := eq_true q195) | (go_at_call 163;(with_reducible refine (strings_IndexByte.calls (⟨#[49,50,51,112,105,99,110]⟩ : ByteArray) ((zaA l0 x11_1).f0) t196 _ A28.out).mono ?_);rintro e w39 ⟨rfl,hb⟩;obtain ⟨_,_,_⟩ := a3 (Kd.R_below (qR HO_3) hb) (Kd.R_below (qR HO_4) hb) (zaD qB hb);clear HO_3 HO_4 HB;rename_i HO_3 HO_4 HB;(try clear hb);(try clear hb2);(try clear hk);(try clear hi)))
  go_roundg kj6
  case measure => have := HK1.out;have := HJ6.out;omega
  case rel => exact ⟨(y194),(x4_6),(wrap64 (x11_1 + 1)),qS,H',⟨by have := HK1.out;have := HJ6.out;omega⟩,⟨qR HO_3⟩,⟨qRa HO_4⟩,⟨qB⟩⟩
 obtain ⟨LMc30,H⟩ := spL H
 obtain ⟨y197,hy197⟩ : ∃ y_ : List Int,y_ = (x4_6 ++ [x11_1]) := ⟨_,rfl⟩
 replace H : (zbM kj6 l0 y194 y197 (l0.length : Int) (wrap64 (x11_1 + 1))) = some r := by first | (rw [hy197];with_reducible exact H) | (have H2_ := (Option.bind_some _ _).symm.trans H;rw [hy197];with_reducible exact H2_) | (have H2_ := (Option.bind_some _ _).symm.trans H;with_reducible exact H2_) | with_reducible exact H | (rw [hy197];exact H) | exact H
 have Ny197 := Aside0.mk hy197
 clear hy197
 have H' := Aside0.mk H
 clear H
 obtain ⟨Ao31,co31,eo31⟩ := Kd.R_slice HO_4.out
 subst eo31
 have p193 : 0 ≤ ((ji21) : Int) := qD
 have q193 : (ji21) < (x4_6.length : Int) := qD
 obtain ⟨ad193,e193,hx193_0⟩ := Kd.at_int (Kd.R_reads' HO_4.out).2.2 (ji21) p193 q193
 cases e193
 replace p193 := eq_true p193
 replace q193 := eq_true q193
 have p26 : 0 ≤ (x11_1 : Int) := qD
 have q26 : (x11_1 : Int) < ((x3_1.length : Int) : Int) := qD
 obtain ⟨go26,co26,eo26,gb26,gl26,cl26,HG26⟩ := Kd.R_form HO_3.out (by omega)
 (first | cases eo26 | (injection eo26 with ea_ en_ ec_;(first | subst ea_ | (injection ea_ with ea_;subst ea_));subst ec_;clear en_))
 have GB26 := Aside0.mk gb26
 have GG26 := Aside0.mk HG26
 clear gb26 gl26 HG26
 obtain ⟨hx26_0,hf26_0⟩ := Kd.R_celln 0 HO_3.out (x11_1 : Int) p26 q26
 replace p26 := eq_true p26
 replace q26 := eq_true q26
 have HP32 := Kd.R_putg HO_3.out (x11_1 : Int) (rd x4_6 (ji21))
 go_wp2_with (first | ((with_reducible refine zoL (t := 3) (p := 54) rfl ?_);(try (rw [zlM wc];generalize hq_ : World.drewN wc _ = wc;have n0_ := Aside0.mk (Kd.R_at hq_ HO_3.out);have n1_ := Aside0.mk (Kd.R_at hq_ HO_4.out);have n2_ := Aside0.mk (zyK hq_ HB.out);clear hq_ HO_3 HO_4 HB;have HO_3 := n0_;have HO_4 := n1_;have HB := n2_;clear n0_ n1_ n2_;(try (have HP32 := Kd.R_putg HO_3.out (x11_1 : Int) (rd x4_6 (ji21))))));refine znI (t := 3) (p := 54) (v := ?vo_w33) (w1 := (wc.setCell ⟨go26,(x11_1 : Int).toNat,none⟩ (.int .i64 (rd x4_6 (ji21))))) ?hg ?ho ?hn ?hr ?_;(case ho => rfl);(case hg => rfl);(case hn => rfl);(case hr => first | (go_simp;done) | (go_simp;rfl));intro w33 hw;have hg : wc.grownBy w33 (some go26) := (by rw [hw];exact HP32.2);have hp_ : Kd.R (Kd.int .i64) 3 w33 w.heap.size (fun k_ => some k_ ≠ (.slice (some ad193) x4_6.length co31 : Value).ownBlock) (.slice (some ⟨go26,0,none⟩) x3_1.length co26) y194 := (by rw [hw,Ny194.out];exact HP32.1);clear HP32;obtain ⟨_,_,_⟩ := a3 hp_ (Kd.R_after (v := (.slice (some ⟨go26,0,none⟩) x3_1.length co26)) (v1 := (.slice (some ⟨go26,0,none⟩) x3_1.length co26)) (ok := (fun _ => True)) (qRc HO_4) hg (.inl rfl)) ((by rw [hw];exact zjC HB.out GB26.out : Below w.heap.size w w33));clear HO_3 HO_4 HB hg hw hp_;rename_i HO_3 HO_4 HB;have p195 : 0 ≤ (x11_1 : Int) := qD;have q195 : x11_1 < (l0.length : Int) := qD;obtain ⟨ad195,e195,hx195_0,hx195_1,hx195_2,hx195_3⟩ := zeN HR0.out x11_1 p195 q195;cases e195;replace hx195_0 := qH HB hx195_0;replace hx195_1 := qH HB hx195_1;replace hx195_2 := qH HB hx195_2;replace hx195_3 := qH HB hx195_3;replace p195 := eq_true p195;replace q195 := eq_true q195) | (go_at_call 163;(with_reducible refine (strings_IndexByte.calls (⟨#[49,50,51,112,105,99,110]⟩ : ByteArray) ((zaA l0 x11_1).f0) t196 _ A28.out).mono ?_);rintro e w34 ⟨rfl,hb⟩;obtain ⟨_,_,_⟩ := a3 (Kd.R_below (qR HO_3) hb) (Kd.R_below (qR HO_4) hb) (zaD qB hb);clear HO_3 HO_4 HB;rename_i HO_3 HO_4 HB;(try clear hb);(try clear hb2);(try clear hk);(try clear hi)) | ((with_reducible refine zcJ (b := .append) (xs := #[.tmp 62,.tmp 64]) rfl ?_);(try (refine zeP (by rfl) ?_;dsimp only));at_builtin;refine Kd.R_append (Kd.int .i64) (w0 := w) w.heap.size rfl (.tmp 62) (.tmp 64) 167 3 (.int .i64 0) 8 rfl Try.underlying167 zrE rfl (by decide) (by omega) (.slice (some ad193) x4_6.length co31) x4_6 x11_1 [.int .i64 x11_1] (fun k_ => some k_ ≠ (.slice (some ⟨go26,0,none⟩) x3_1.length co26 : Value).ownBlock) (fun _ => False) rfl rfl ?aP (fun _ hk => hk.elim) ?aF ?aO ?aB ?aS ?aL ?_;(case aP => exact rfl);(case aB => exact qB);(case aF => exact (fun k_ hk => Kd.fresh' (Kd.R_lt (qR HO_3)) k_ hk));(case aO => exact qRa HO_4);(case aS => exact (zaF qB));(case aL => have := LMc30.out;omega);intro v198 w35 ho hb hg hat;rw [← Ny197.out] at ho;obtain ⟨_,_,_⟩ := a3 (Kd.R_after (ok := (fun _ => True)) (qRc HO_3) hg hat) hb ho;clear HO_3 HB HO_4 ho hb hg hat;rename_i HO_3 HB HO199))
 go_roundg kj6
 case measure => have := HK1.out;have := HJ6.out;omega
 case rel => exact ⟨(y194),(y197),(wrap64 (x11_1 + 1)),qS,H',⟨by have := HK1.out;have := HJ6.out;omega⟩,⟨qRa HO_3⟩,⟨qR HO199⟩,⟨qB⟩⟩
def stringslite_HasSuffix.f (a0 : ByteArray) (a1 : ByteArray) : Option (Bool) := if (a0.size : Int) ≥ (a1.size : Int) then (if 0 ≤ (wrap64 ((a0.size : Int) - (a1.size : Int))) then (if (wrap64 ((a0.size : Int) - (a1.size : Int))) ≤ (a0.size : Int) then (some ((a0.extract ((wrap64 ((a0.size : Int) - (a1.size : Int))) : Int).toNat a0.size).toList == a1.toList)) else (none)) else (none)) else (some false)
theorem stringslite_HasSuffix.calls (a0 : ByteArray) (a1 : ByteArray) (r : Bool) (w : World) (h : stringslite_HasSuffix.f a0 a1 = some r) :
  Calls Try.prog 171 #[.string a0,.string a1] w fun e w' => e = .returned (.bool r) ∧ Drawn0 w w' := by
 have H : (if (a0.size : Int) ≥ (a1.size : Int) then (if 0 ≤ (wrap64 ((a0.size : Int) - (a1.size : Int))) then (if (wrap64 ((a0.size : Int) - (a1.size : Int))) ≤ (a0.size : Int) then (some ((a0.extract ((wrap64 ((a0.size : Int) - (a1.size : Int))) : Int).toNat a0.size).toList == a1.toList)) else (none)) else (none)) else (some false)) = some r := h
 clear h
 by_cases c3 : (a0.size : Int) ≥ (a1.size : Int)
 rotate_left
 ·rw [if_neg c3] at H
  have c3b0 : decide ((a1.size : Int) ≤ (a0.size : Int)) = false := decide_eq_false c3
  have c3b1 : decide (a1.size ≤ a0.size) = false := decide_eq_false (fun h => c3 (Int.ofNat_le.mpr h))
  clear c3
  obtain rfl := Option.some.inj H
  go_enter Try.func171,Try.ntmps171
  go_wp2
  go_ret
  exact ⟨by first | rfl | (simp;done) | (simp [*];done),by repeat (first | exact Drawn0.refl _ | apply zfO)⟩
 rw [if_pos c3] at H
 have c3b0 : decide ((a1.size : Int) ≤ (a0.size : Int)) = true := decide_eq_true c3
 have c3b1 : decide (a1.size ≤ a0.size) = true := decide_eq_true (Int.ofNat_le.mp c3)
 clear c3
 obtain ⟨ji4,hji4⟩ : ∃ j_ : Int,(wrap64 ((a0.size : Int) - (a1.size : Int))) = j_ := ⟨_,rfl⟩
 replace H : (if 0 ≤ (ji4) then (if (ji4) ≤ (a0.size : Int) then (some ((a0.extract ((ji4) : Int).toNat a0.size).toList == a1.toList)) else (none)) else (none)) = some r := by first | (rw [hji4] at H;exact H) | (simp only [hji4] at H ⊢;exact H)
 have hji4w : (IntKind.i64.wrap ((a0.size : Int) - (a1.size : Int))) = ji4 := (zaO _).trans hji4
 by_cases c5 : 0 ≤ (ji4)
 rotate_left
 ·rw [if_neg c5] at H
  exact absurd H (by simp)
 rw [if_pos c5] at H
 have c5b0 := eq_true c5
 have c5b1 : decide (0 ≤ (ji4)) = true := decide_eq_true c5
 clear c5
 by_cases c6 : (ji4) ≤ (a0.size : Int)
 rotate_left
 ·rw [if_neg c6] at H
  exact absurd H (by simp)
 rw [if_pos c6] at H
 have c6b0 := eq_true c6
 have c6b1 : decide ((ji4) ≤ (a0.size : Int)) = true := decide_eq_true c6
 clear c6
 obtain rfl := Option.some.inj H
 go_enter Try.func171,Try.ntmps171
 go_wp2
 go_ret
 exact ⟨by first | rfl | (simp;done) | (simp only [← hji4] <;> (first | rfl | simp)) | (simp [*];done),by repeat (first | exact Drawn0.refl _ | apply zfO)⟩
end Go.Proofs.Ythcmfjpheanphaa.Pr
