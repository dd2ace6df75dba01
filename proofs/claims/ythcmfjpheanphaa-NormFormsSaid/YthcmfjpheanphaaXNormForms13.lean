/- Texts of this seat, one behind the other. -/
import Derived.Test.YthcmfjpheanphaaXNormForms12
set_option linter.unusedVariables false
set_option linter.unusedSimpArgs false
set_option maxHeartbeats 16000000
set_option maxRecDepth 100000
namespace Go.Proofs.Ythcmfjpheanphaa.Pr
open Go.RowKit Go.Proofs.YthcmfjpheanphaaW.PrintWords
def kdR (r : List Opn) : List Int := r.map (·.kind)
theorem zlF (r : List Opn) : (topP r).kind = (kdR r).getLast?.getD 0 := by
 unfold topP kdR
 rw [List.getLast?_map]
 cases r.getLast? <;> rfl
theorem zlG {f : Opn → Opn} (hf : ∀ o,(f o).kind = o.kind) (r : List Opn) (j : Nat) : kdR (r.modify j f) = kdR r := by
 apply List.ext_getElem?
 intro i
 unfold kdR
 simp only [List.getElem?_map,List.getElem?_modify]
 cases r[i]? with
 | none => rfl
 | some o => simp only [Option.map_some];split <;> simp [hf]
theorem zwC (r : List Opn) : kdR (kidP r) = kdR r := zlG (f := kidF) (fun _ => rfl) r _
theorem yjL (r : List Opn) (k : Int) : kdR (zcY r k) = kdR r := by
 unfold zcY
 split
 ·split
  ·exact zlG (f := zjM) (fun _ => rfl) r _
  rfl
 split
 ·exact zlG (f := zmY) (fun _ => rfl) r _
 rfl
theorem ygT (r : List Opn) (o : Opn) : kdR (zcW r o).1 = kdR r := by
 unfold zcW
 split
 ·rfl
 split
 ·split
  ·split
   ·exact zlG (f := zhO o.kids) (fun _ => rfl) r _
   rfl
  rfl
 rfl
theorem ycN (s : Bld) (x : S47) : kdR (zdW s x).1.row = kdR s.row := by
 unfold zdW
 split
 ·split
  ·exact (zlG (f := zgJ x.f2.size) (fun _ => rfl) _ _).trans (zwC _)
  exact zwC _
 split <;> rfl
theorem ycO (s : Bld) (x : S47) (h : (zdQ s x).2.2 = 0) : mayP s.row x.f1 = true ∧ kdR (zdQ s x).1.row = kdR s.row ++ [x.f1] := by
 unfold zdQ at h ⊢
 by_cases hm : mayP s.row x.f1 = true
 ·simp only [if_pos hm] at h ⊢
  refine ⟨hm,?_⟩
  unfold kdR
  rw [List.map_append]
  have e : (kidP (zcY s.row x.f1)).map (·.kind) = s.row.map (·.kind) := (zwC _).trans (yjL _ _)
  rw [e]
  rfl
 simp only [if_neg hm] at h
 cases h
theorem ycP (s : Bld) (x : S47) (h : (zdX s x).2.2 = 0) : kdR (zdX s x).1.row = (kdR s.row).dropLast := by
 unfold zdX at h ⊢
 by_cases hr : s.row = []
 ·rw [if_pos hr] at h;cases h
 rw [if_neg hr]
 show kdR (zcW s.row.dropLast (topP s.row)).1 = _
 rw [ygT]
 unfold kdR
 rw [List.map_dropLast]
theorem zvA {x : S56} (h : ¬ x.f0 = 46) : (zdP x).f1 = x.f0 := by unfold zdP;rw [if_neg h]
theorem ygU {r : List Opn} {k : Int} (h : mayP r k = true) : okP (topP r).kind k = true := by
 cases ho : okP (topP r).kind k with
 | true => rfl
 | false => unfold mayP at h;rw [ho] at h;cases h
theorem zxK (s : Bld) : zbF s zfD = zdX s zfD := by
 unfold zbF
 rw [if_neg (by decide : ¬ zfD.f0 = 1),if_neg (by decide : ¬ zfD.f0 = 2)]
theorem zvB (t : List S56) : ∀ (n a e : Nat) (s : Bld),okR s (evF n t a e) = true → kdR (runP s (evF n t a e)).1.row = kdR s.row
 | 0,a,e,s,_ => rfl
 | n + 1,a,e,s,h => by
  simp only [evF] at h ⊢
  by_cases hlt : a < e
  ·rw [if_pos hlt] at h ⊢
   by_cases h46 : (zaA t a).f0 = 46
   ·rw [if_pos h46] at h ⊢
    obtain ⟨h1,h2,h3,_⟩ := zmF h
    rw [h3,zvB t n _ _ _ h2]
    unfold zbF
    rw [if_pos (zpB h46)]
    exact ycN s _
   rw [if_neg h46] at h ⊢
   obtain ⟨h1,h2,h3,_⟩ := zmF h
   obtain ⟨g1,g2⟩ := (zrR _ _ _).1 h2
   have k1 := zvB t n _ _ _ g1
   rw [h3,zyM _ _ _ (ycM _ _ g1)]
   obtain ⟨m1,m2,m3,_⟩ := zmF g2
   rw [m3,zvB t n _ _ _ m2]
   have q1 : kdR (zbF s (zdP (zaA t a))).1.row = kdR s.row ++ [(zaA t a).f0] := by
    unfold zbF at h1 ⊢
    rw [if_neg (by rw [ziQ h46];decide),if_pos (ziQ h46)] at h1 ⊢
    rw [(ycO s _ h1).2,zvA h46]
   rw [zxK] at m1 ⊢
   have q3 := ycP _ _ m1
   rw [k1,q1,List.dropLast_concat] at q3
   exact q3
  rw [if_neg hlt];rfl
def kdOf (t : List S56) (z : Int) : Int := if z < 0 then 0 else (zaA t z).f0
theorem zpC (t : List S56) (hN : Nst t) : ∀ (n a e s0 : Nat) (s : Bld),Lvl t s0 e a → a ≤ e → e - a ≤ n → (topP s.row).kind = kdOf t ((s0 : Int) - 1) → okR s (evF n t a e) = true →
   ∀ i : Nat,a ≤ i → i < e → okP (kdOf t (par t i)) (zaA t i).f0 = true
 | 0,a,e,s0,s,hL,hae,hn,hk,h => fun i h1 h2 => by omega
 | n + 1,a,e,s0,s,hL,hae,hn,hk,h => fun i hi1 hi2 => by
  simp only [evF] at h
  have hlt : a < e := by omega
  have hlim := hL.lim
  have hpos := hN.pos a (by omega)
  have hsz1 : 1 ≤ sz t a := by unfold sz;omega
  have hfit := hL.fits hN hlt
  have hpar := hL.par hN hlt
  have hnx := hL.next hN hlt
  rw [if_pos hlt] at h
  by_cases h46 : (zaA t a).f0 = 46
  ·rw [if_pos h46] at h
   obtain ⟨h1,h2,h3,h4⟩ := zmF h
   have hT : isT t a = true := by unfold isT;rw [h46];rfl
   have hs1 : sz t a = 1 := by have := hN.txt a (by omega) hT;unfold sz;omega
   rw [hs1] at hnx hfit
   rcases Nat.eq_or_lt_of_le hi1 with rfl | hi3
   ·have := ygU (h4 (zpB h46))
    rw [hk] at this
    rw [hpar,h46]
    exact this
   refine zpC t hN n (a + 1) e s0 _ hnx (by omega) (by omega) ?_ h2 i (by omega) hi2
   rw [zlF]
   unfold zbF
   rw [if_pos (zpB h46),ycN,← zlF]
   exact hk
  rw [if_neg h46] at h
  obtain ⟨h1,h2,h3,h4⟩ := zmF h
  obtain ⟨g1,g2⟩ := (zrR _ _ _).1 h2
  obtain ⟨m1,m2,m3,_⟩ := zmF g2
  have k1 := zvB t n _ _ _ g1
  have q0 := h1
  unfold zbF at q0
  rw [if_neg (by rw [ziQ h46];decide),if_pos (ziQ h46)] at q0
  obtain ⟨o1,o2⟩ := ycO s _ q0
  rw [zvA h46] at o1 o2
  have q1 : zbF s (zdP (zaA t a)) = zdQ s (zdP (zaA t a)) := by
   unfold zbF
   rw [if_neg (by rw [ziQ h46];decide),if_pos (ziQ h46)]
  rw [q1] at g1 k1 m1 m2
  rcases Nat.eq_or_lt_of_le hi1 with rfl | hi3
  ·have := ygU o1
   rw [hk] at this
   rw [hpar]
   exact this
  by_cases hi4 : i < a + sz t a
  ·refine zpC t hN n (a + 1) (a + sz t a) (a + 1) _ (hL.inner hN hlt) (by omega) (by omega) ?_ g1 i (by omega) hi4
   rw [zlF,o2]
   unfold kdOf
   rw [if_neg (by omega),show ((a + 1 : Nat) : Int) - 1 = (a : Int) from by omega]
   simp
  refine zpC t hN n (a + sz t a) e s0 _ hnx (by omega) (by omega) ?_ m2 i (by omega) hi2
  rw [zxK] at m1 ⊢
  have q3 := ycP _ _ m1
  rw [k1,o2,List.dropLast_concat] at q3
  rw [zlF,q3,← zlF]
  exact hk
theorem zxL {t : List S56} (h : zfE t = 0) : Nst t := by
 obtain ⟨h1,h2,h3⟩ := znQ h
 exact Nst.of h2 fun x hx h46 => zxJ (h1 x hx) h46
theorem ybJ {t : List S56} (h : zfE t = 0) : ∀ i : Nat,i < t.length → okP (kdOf t (par t i)) (zaA t i).f0 = true := by
 obtain ⟨h1,h2,h3⟩ := znQ h
 rw [zsR t (fun x hx h46 => zxJ (h1 x hx) h46) h2] at h3
 exact fun i hi => zpC t (zxL h) t.length 0 t.length 0 bld0 (Lvl.root t) (by omega) (by omega) rfl h3 i (by omega) hi
theorem zzY (t : List S56) (i q : Nat) (h : fl t q = true ∧ i < q + sz t q) : ∀ m : Nat,q < m → (q : Int) ≤ flG t i m
 | 0,hm => by omega
 | m + 1,hm => by
  by_cases e : fl t m = true ∧ i < m + sz t m
  ·rw [ybZ t i m e];omega
  rw [zzI t i m e]
  rcases Nat.eq_or_lt_of_le (Nat.lt_succ_iff.1 hm) with e2 | e2
  ·subst e2;exact absurd h e
  exact zzY t i q h m e2
theorem zzZ : ∀ a : Fin 256,∀ c ∈ [(46 : Int),101,115],okP (a.val : Int) c = true → a.val ≠ 0 ∧ (zhM (a.val : Int) = true ∨ (a.val : Int) = 101 ∨ (a.val : Int) = 115) := by decide +kernel
theorem ygV (t : List S56) (i : Nat) : ∀ m : Nat,parG t i m = -1 ∨ ∃ p : Nat,parG t i m = p ∧ p < m ∧ i < p + sz t p
 | 0 => .inl rfl
 | m + 1 => by
  unfold parG
  by_cases h : i < m + sz t m
  ·rw [if_pos h]
   exact .inr ⟨m,rfl,Nat.lt_succ_self m,h⟩
  rw [if_neg h]
  rcases ygV t i m with h1 | ⟨p,h1,h2,h3⟩
  ·exact .inl h1
  exact .inr ⟨p,h1,by omega,h3⟩
theorem ycQ (t : List S56) (hN : Nst t) (hk : ∀ i,i < t.length → 0 ≤ (zaA t i).f0 ∧ (zaA t i).f0 ≤ 255) (hl : ∀ i : Nat,i < t.length → okP (kdOf t (par t i)) (zaA t i).f0 = true) :
  ∀ (n i : Nat),i ≤ n → i < t.length → (zaA t i).f0 ∈ [(46 : Int),101,115] → 0 ≤ flow t i
 | n,i,hn,hi,hc => by
  have h1 := hl i hi
  rcases ygV t i i with h2 | ⟨p,h2,h3,h4⟩
  ·have e : kdOf t (par t i) = 0 := by
    unfold kdOf par
    rw [h2]
    rfl
   rw [e] at h1
   exact absurd rfl (zzZ 0 _ hc h1).1
  have e : kdOf t (par t i) = (zaA t p).f0 := by
   unfold kdOf par
   rw [h2,if_neg (by omega)]
  rw [e] at h1
  have hkp := hk p (by omega)
  have h5 := zzZ ⟨(zaA t p).f0.toNat,by omega⟩ _ hc (by
   show okP (((zaA t p).f0.toNat : Nat) : Int) _ = true
   rw [Int.toNat_of_nonneg hkp.1]
   exact h1)
  simp only [Int.toNat_of_nonneg hkp.1] at h5
  rcases h5.2 with h6 | h6
  ·have := zzY t i p ⟨h6,h4⟩ i h3
   unfold flow
   omega
  obtain ⟨n,rfl⟩ : ∃ m,n = m + 1 := ⟨n - 1,by omega⟩
  have h7 := ycQ t hN hk hl n p (by omega) (by omega) (by rcases h6 with h6 | h6 <;> rw [h6] <;> simp)
  obtain ⟨q,hq⟩ : ∃ q : Nat,flow t p = q := ⟨(flow t p).toNat,by omega⟩
  obtain ⟨k1,k2,k3⟩ := zvY t p q hq
  have k4 := hN.nest q p (by omega) k2 k3
  have := zzY t i q ⟨k1,by omega⟩ i (by omega)
  unfold flow
  omega
theorem yjM : ∀ c : Fin 256,zcX (c.val : Int) = true → c.val ≠ 0 := by decide +kernel
theorem ybK {t : List S56} (h : zfE t = 0) : ∀ q,q < t.length → isT t q = true → ∀ k : Nat,k < (zaA t q).f1.size → zcX (bt (zaA t q).f1 k) = true := by
 intro q hq hT k hk
 obtain ⟨h1,_,_⟩ := znQ h
 have h2 := h1 (zaA t q) (by rw [ziB t q hq];exact List.getElem_mem hq)
 have h46 : (zaA t q).f0 = 46 := by unfold isT at hT;exact beq_iff_eq.1 hT
 rw [zkZ,Bool.and_eq_true] at h2
 have h3 := h2.1
 unfold zkY at h3
 rw [if_pos h46,Bool.and_eq_true,Bool.not_eq_true',decide_eq_false_iff_not] at h3
 exact zuZ _ (zaA t q).f1.size 0 k (Nat.zero_le _) (by omega)
theorem ygW {t : List S56} (h : zfE t = 0) (hk : zmE t) (hlen : t.length ≤ 3000) (hs : ∀ i,i < t.length → (zaA t i).f1.size ≤ 10000) : Txt t := by
 have hkd : ∀ i,i < t.length → 0 ≤ (zaA t i).f0 ∧ (zaA t i).f0 ≤ 255 := fun i hi => (hk _ (by rw [ziB t i hi];exact List.getElem_mem hi)).2
 have hN := zxL h
 refine ⟨hN,hlen,hs,hkd,fun q hq hT k hk2 => ?_,fun q hq hT => ?_⟩
 ·have h1 := ybK h q hq hT k hk2
  have hr := zfZ (zaA t q).f1 k
  have := yjM ⟨(bt (zaA t q).f1 k).toNat,by omega⟩ (by
   show zcX (((bt (zaA t q).f1 k).toNat : Nat) : Int) = true
   rw [Int.toNat_of_nonneg hr.1]
   exact h1)
  simp only at this
  omega
 refine ycQ t hN hkd (ybJ h) q q (Nat.le_refl _) hq ?_
 have : (zaA t q).f0 = 46 := by unfold isT at hT;exact beq_iff_eq.1 hT
 rw [this]
 simp
end Go.Proofs.Ythcmfjpheanphaa.Pr
namespace Go.Proofs.Ythcmfjpheanphaa.Pr
open Go.RowKit Go.Proofs.YthcmfjpheanphaaW.PrintWords Go.Proofs.YthcmfjpheanphaaW.PrintLast Go.Proofs.YthcmfjpheanphaaW.PrintMore
attribute [local go_sem] zaX zaY zbG zbI zaV zaW zaZ zbA
def zcQ : Nat → List (S56) → Int → Int → Option (Int)
 | 0,_,_,_ => none
 | k + 1,x0,x1,x5 => if x5 ≥ 0 then (if 0 ≤ x5 then (if x5 < (x0.length : Int) then (if x1 < (wrap64 (x5 + ((zaA x0 x5).f3))) then (some x5) else (zcQ k x0 x1 (wrap64 (x5 - 1)))) else (none)) else (none)) else (some (-1))
def stylusref05_parent.f (k : Nat) (l0 : List (S56)) (a1 : Int) : Option (Int) := zcQ k l0 a1 (wrap64 (a1 - 1))
theorem stylusref05_parent.calls (k : Nat) (A0 : Option Addr) (c0 : Nat) (l0 : List (S56)) (a1 : Int) (r : Int) (w : World) (hr0 : Kd.C k56 w A0 l0.length l0) (hc0 : l0.length ≤ c0) (h : stylusref05_parent.f k l0 a1 = some r) :
  Calls Try.prog 114 #[.slice A0 l0.length c0,.int .i64 a1] w fun e w' => e = .returned (.int .i64 r) ∧ Drawn0 w w' := by
 have HR0 := Aside0.mk hr0
 have HC0 := Aside0.mk hc0
 clear hr0 hc0
 have H : (zcQ k l0 a1 (wrap64 (a1 - 1))) = some r := h
 clear h
 have H' := Aside0.mk H
 clear H
 go_enter Try.func114,Try.ntmps114
 go_wp2
 go_loopg [5] k (fun kq v5 w' => ∃ (x5_1 : Int),v5 = .int .i64 x5_1 ∧ Aside0 (zcQ kq l0 a1 x5_1 = some r) ∧ Aside0 (kq ≤ k) ∧ Drawn0 w w')
 case atStart => exact ⟨(wrap64 (a1 - 1)),qS,H',⟨Nat.le_refl _⟩,qW⟩
 clear H'
 obtain ⟨x5_1,rfl,HA,HK1,⟨m1,rfl⟩⟩ := hrel
 cases gk with
 | zero => exact absurd HA.out (by simp [zcQ])
 | succ k1 =>
 have H := HA.out
 clear HA
 simp only [zcQ] at H
 obtain ⟨c3b0,H⟩ | ⟨c3b0,H⟩ := spDe H
 rotate_left
 ·obtain rfl := Option.some.inj H
  go_wp2
  go_ret
  exact ⟨qS,qW⟩
 obtain ⟨c4b0,H⟩ := spN H
 obtain ⟨c5b0,H⟩ := spN H
 obtain ⟨c6b0,H⟩ | ⟨c6b0,H⟩ := spD H
 ·obtain rfl := Option.some.inj H
  obtain ⟨ad400,e400,p400,q400,hx400_0,hx400_1,hx400_2,hx400_3⟩ := bT56 HR0.out x5_1
  cases e400
  go_wp2
  go_ret
  exact ⟨qS,qW⟩
 have H' := Aside0.mk H
 clear H
 obtain ⟨ad400,e400,p400,q400,hx400_0,hx400_1,hx400_2,hx400_3⟩ := bT56 HR0.out x5_1
 cases e400
 go_wp2
 go_roundg k1
 case measure => have := HK1.out;omega
 case rel => exact ⟨(wrap64 (x5_1 - 1)),qS,H',⟨by have := HK1.out;omega⟩,qW⟩
def zbE : Nat → List (S56) → Int → List (S56) → Int → Option ((List (S56)))
 | 0,_,_,_,_ => none
 | k + 1,x0,x1,x5,x6 => if x6 < x1 then (if 0 ≤ x6 then (if x6 < (x0.length : Int) then (if x1 < (wrap64 (x6 + ((zaA x0 x6).f3))) then (if x6 < (x5.length : Int) then (zbE k x0 x1 (x5.set (x6 : Int).toNat (⟨(zaA x5 x6).f0,(zaA x5 x6).f1,(zaA x5 x6).f2,wrap64 (((zaA x5 x6).f3) - 1)⟩ : S56)) (wrap64 (x6 + 1))) else (none)) else (zbE k x0 x1 x5 (wrap64 (x6 + 1)))) else (none)) else (none)) else (if 0 ≤ (wrap64 (x1 + 1)) then (if (wrap64 (x1 + 1)) ≤ (x0.length : Int) then ((some (x0.drop ((wrap64 (x1 + 1)) : Int).toNat : List (S56))).bind fun y393 => (if x5.length + y393.length < 3518437208883 then (some (x5 ++ y393)) else (none))) else (none)) else (none))
def stylusref05_without.f (k : Nat) (l0 : List (S56)) (a1 : Int) : Option ((List (S56))) := (some (([] : List (S56)) : List (S56))).bind fun y380 => (if 0 ≤ a1 then (if a1 ≤ (l0.length : Int) then ((some (l0.take (a1 : Int).toNat : List (S56))).bind fun y383 => (if y380.length + y383.length < 3518437208883 then (zbE k l0 a1 (y380 ++ y383) 0) else (none))) else (none)) else (none))
theorem stylusref05_without.calls (k : Nat) (A0 : Option Addr) (c0 : Nat) (l0 : List (S56)) (a1 : Int) (r : List (S56)) (w : World) (hr0 : Kd.C k56 w A0 l0.length l0) (hc0 : l0.length ≤ c0) (h : stylusref05_without.f k l0 a1 = some r) :
  Calls Try.prog 113 #[.slice A0 l0.length c0,.int .i64 a1] w fun e w' => ∃ v0_ : Value,e = .returned (v0_) ∧ Kd.R k56 56 w' w.heap.size (fun _ => True) v0_ r ∧ Below w.heap.size w w' := by
 have HR0 := Aside0.mk hr0
 have HC0 := Aside0.mk hc0
 clear hr0 hc0
 have HB := Aside0.mk (Below.refl w.heap.size w)
 have H : ((some (([] : List (S56)) : List (S56))).bind fun y380 => (if 0 ≤ a1 then (if a1 ≤ (l0.length : Int) then ((some (l0.take (a1 : Int).toNat : List (S56))).bind fun y383 => (if y380.length + y383.length < 3518437208883 then (zbE k l0 a1 (y380 ++ y383) 0) else (none))) else (none)) else (none))) = some r := h
 clear h
 obtain ⟨y380,hy380⟩ : ∃ y_ : List (S56),y_ = (([] : List (S56))) := ⟨_,rfl⟩
 replace H : (if 0 ≤ a1 then (if a1 ≤ (l0.length : Int) then ((some (l0.take (a1 : Int).toNat : List (S56))).bind fun y383 => (if y380.length + y383.length < 3518437208883 then (zbE k l0 a1 (y380 ++ y383) 0) else (none))) else (none)) else (none)) = some r := by first | (rw [hy380];with_reducible exact H) | (have H2_ := (Option.bind_some _ _).symm.trans H;rw [hy380];with_reducible exact H2_) | (have H2_ := (Option.bind_some _ _).symm.trans H;with_reducible exact H2_) | with_reducible exact H | (rw [hy380];exact H) | exact H
 have Ny380 := Aside0.mk hy380
 clear hy380
 obtain ⟨c3,H⟩ := spG H
 have c3b0 := eq_true c3
 have c3b1 : decide (0 ≤ a1) = true := decide_eq_true c3
 clear c3
 obtain ⟨c4,H⟩ := spG H
 have c4b0 := eq_true c4
 have c4b1 : decide (a1 ≤ (l0.length : Int)) = true := decide_eq_true c4
 clear c4
 obtain ⟨y383,hy383⟩ : ∃ y_ : List (S56),y_ = (l0.take (a1 : Int).toNat) := ⟨_,rfl⟩
 replace H : (if y380.length + y383.length < 3518437208883 then (zbE k l0 a1 (y380 ++ y383) 0) else (none)) = some r := by first | (rw [hy383];with_reducible exact H) | (have H2_ := (Option.bind_some _ _).symm.trans H;rw [hy383];with_reducible exact H2_) | (have H2_ := (Option.bind_some _ _).symm.trans H;with_reducible exact H2_) | with_reducible exact H | (rw [hy383];exact H) | exact H
 have Ny383 := Aside0.mk hy383
 clear hy383
 obtain ⟨LMc5,H⟩ := spL H
 obtain ⟨y387,hy387⟩ : ∃ y_ : List (S56),y_ = (y380 ++ y383) := ⟨_,rfl⟩
 replace H : (zbE k l0 a1 y387 0) = some r := by first | (rw [hy387];with_reducible exact H) | (have H2_ := (Option.bind_some _ _).symm.trans H;rw [hy387];with_reducible exact H2_) | (have H2_ := (Option.bind_some _ _).symm.trans H;with_reducible exact H2_) | with_reducible exact H | (rw [hy387];exact H) | exact H
 have Ny387 := Aside0.mk hy387
 clear hy387
 have H' := Aside0.mk H
 clear H
 go_enter Try.func113,Try.ntmps113
 go_wp2_with (first | ((with_reducible refine zdT (N := 7) rfl ?_);refine Kd.R_lit k56 _ 56 ?hg (N := 7) ?hd (xs := ([] : List (S56))) (inner := []) (ok := fun _ => True) (okp := fun _ => True) ?hr ?hp (fun _ hk => hk) trivial (Below.refl _ _) (Nat.le_refl _) (by simp) ?_;(case hd => rfl);(case hg => rfl);(case hr => first | (go_simp;done) | (go_simp;rfl));(case hp => exact (Reps.none _ _));intro v381 w6 ho7 hb hg_ hnew_;clear hg_ hnew_;(first | rw [← Ny380.out] at ho7 | (simp only [Int.reduceToNat] at ho7;rw [← Ny380.out] at ho7));obtain ⟨_,_⟩ := a2 (Kd.R_lower ho7 (zaF qB)) (zaD qB hb);clear HB hb ho7;rename_i HO382 HB;have q8 : (a1 : Int) ≤ ((l0.length : Int) : Int) := qD;obtain ⟨i08,hi08,_,hsz8,_⟩ := info_parts zfU;have hroom8 : l0.length ≤ c0 := HC0.out;have hC8 : Kd.C k56 _ A0 l0.length l0 := HR0.out;have hcut8 := ztD (P := Try.prog) 50 56 .i64 Try.underlying50 hi08 A0 l0.length c0 a1 qD q8 hroom8;have hr8 := Kd.C_take (m := (a1 : Int).toNat) hC8 (by omega);have hy8 : y383.length = (a1 : Int).toNat := (by rw [Ny383.out,List.length_take];omega);rw [← Ny383.out] at hr8;rw [← hy8] at hcut8;have HR386 := Aside0.mk hr8;have HC386 := Aside0.mk (show y383.length ≤ c0 from by omega);clear hr8 hC8 hroom8 hi08 hsz8;have KY8 := Aside0.mk hy8;clear hy8;replace q8 := eq_true q8) | ((with_reducible refine zcJ (b := .append) (xs := #[.tmp 7,.tmp 10]) rfl ?_);at_builtin;refine Kd.R_append_rows k56 (w0 := w) w.heap.size rfl (.tmp 7) (.tmp 10) 50 56 (.agg #[(.int .u8 0),(.string ⟨#[]⟩),(.int .i64 0),(.int .i64 0)]) 40 rfl Try.underlying50 zfU rfl (by decide) (by omega) v381 y380 y383 _ _ _ (fun _ => True) (fun _ => False) rfl rfl ?aO ?aR (fun _ _ h => h) (fun _ h => h.elim) ?aF ?aB ?aS ?aL ?_;(case aR => exact qC ((Kd.C_below HR386.out HB.out)));(case aB => exact qB);(case aF => exact (fun _ _ => trivial));(case aO => exact qR HO382);(case aS => exact (zaF qB));(case aL => have := LMc5.out;omega);intro v388 w9 ho hb hg hat;rw [← Ny387.out] at ho;obtain ⟨_,_⟩ := a2 hb ho;clear HB HO382 ho hb hg hat;rename_i HB HO389))
 go_loopg [6] k (fun kq v6 w' => ∃ (x5_1 : List (S56)) (x6_1 : Int),v6 = .int .i64 x6_1 ∧ Aside0 (zbE kq l0 a1 x5_1 x6_1 = some r) ∧ Aside0 (kq ≤ k) ∧ Aside0 (Kd.R k56 56 w' w.heap.size (fun _ => True) v388 x5_1) ∧ Aside0 (Below w.heap.size w w'))
 case atStart => exact ⟨(y387),(0),qS,H',⟨Nat.le_refl _⟩,⟨qR HO389⟩,⟨qB⟩⟩
 clear H'
 obtain ⟨x5_1,x6_1,rfl,HA,HK1,HO_5,HB⟩ := hrel
 cases gk with
 | zero => exact absurd HA.out (by simp [zbE])
 | succ k1 =>
 have H := HA.out
 clear HA
 simp only [zbE] at H
 obtain ⟨c10b0,H⟩ | ⟨c10b0,H⟩ := spD H
 rotate_left
 ·obtain ⟨ji19,hji19⟩ : ∃ j_ : Int,(wrap64 (a1 + 1)) = j_ := ⟨_,rfl⟩
  replace H : (if 0 ≤ (ji19) then (if (ji19) ≤ (l0.length : Int) then ((some (l0.drop ((ji19) : Int).toNat : List (S56))).bind fun y393 => (if x5_1.length + y393.length < 3518437208883 then (some (x5_1 ++ y393)) else (none))) else (none)) else (none)) = some r := by first | (rw [hji19] at H;exact H) | (simp only [hji19] at H ⊢;exact H)
  have hji19w : (IntKind.i64.wrap (a1 + 1)) = ji19 := (zaO _).trans hji19
  obtain ⟨c20,H⟩ := spG H
  have c20b0 := eq_true c20
  have c20b1 : decide (0 ≤ (ji19)) = true := decide_eq_true c20
  clear c20
  obtain ⟨c21,H⟩ := spG H
  have c21b0 := eq_true c21
  have c21b1 : decide ((ji19) ≤ (l0.length : Int)) = true := decide_eq_true c21
  clear c21
  obtain ⟨y393,hy393⟩ : ∃ y_ : List (S56),y_ = (l0.drop ((ji19) : Int).toNat) := ⟨_,rfl⟩
  replace H : (if x5_1.length + y393.length < 3518437208883 then (some (x5_1 ++ y393)) else (none)) = some r := by first | (rw [hy393];with_reducible exact H) | (have H2_ := (Option.bind_some _ _).symm.trans H;rw [hy393];with_reducible exact H2_) | (have H2_ := (Option.bind_some _ _).symm.trans H;with_reducible exact H2_) | with_reducible exact H | (rw [hy393];exact H) | exact H
  have Ny393 := Aside0.mk hy393
  clear hy393
  obtain ⟨LMc22,H⟩ := spL H
  obtain ⟨y397,hy397⟩ : ∃ y_ : List (S56),y_ = (x5_1 ++ y393) := ⟨_,rfl⟩
  replace H : (some y397) = some r := by first | (rw [hy397];with_reducible exact H) | (have H2_ := (Option.bind_some _ _).symm.trans H;rw [hy397];with_reducible exact H2_) | (have H2_ := (Option.bind_some _ _).symm.trans H;with_reducible exact H2_) | with_reducible exact H | (rw [hy397];exact H) | exact H
  have Ny397 := Aside0.mk hy397
  clear hy397
  obtain rfl := Option.some.inj H
  have q23 : ((ji19) : Int) ≤ ((l0.length : Int) : Int) := qD
  obtain ⟨i023,hi023,_,hsz23,_⟩ := info_parts zfU
  have hroom23 : l0.length ≤ c0 := HC0.out
  have hC23 : Kd.C k56 _ A0 l0.length l0 := HR0.out
  have q023 : (0 : Int) ≤ ((ji19) : Int) := qD
  have hcut23 := yhI (P := Try.prog) 50 56 .i64 Try.underlying50 hi023 4 hsz23 A0 l0.length c0 (ji19) q023 q23
  have hr23 := Kd.C_drop (m := ((ji19) : Int).toNat) (c := c0) hC23 (by omega) hroom23
  obtain ⟨A23,hA23⟩ : ∃ A1,A1 = (if c0 = ((ji19) : Int).toNat then A0 else (A0 : Option Addr).map (·.add (((ji19) : Int).toNat * 4))) := ⟨_,rfl⟩
  obtain ⟨c23,hc23⟩ : ∃ c1,c1 = c0 - ((ji19) : Int).toNat := ⟨_,rfl⟩
  have hy23 : y393.length = l0.length - ((ji19) : Int).toNat := (by rw [Ny393.out,List.length_drop] <;> omega)
  rw [show (l0).drop ((ji19) : Int).toNat = y393 from Ny393.out.symm] at hr23
  replace hr23 : Kd.C k56 _ A23 y393.length y393 := (by rw [hA23];exact hr23)
  rw [← hy23,← hA23,← hc23] at hcut23
  have HR396 := Aside0.mk hr23
  have HC396 := Aside0.mk (show y393.length ≤ c23 from by rw [hy23,hc23];exact Nat.sub_le_sub_right hroom23 _)
  clear hr23 hC23 hroom23 hi023 hsz23 hc23
  have KY23 := Aside0.mk hy23
  have KA23 := Aside0.mk hA23
  clear hy23 hA23
  replace q23 := eq_true q23
  go_wp2_with (first | ((with_reducible refine zcJ (b := .append) (xs := #[.tmp 34,.tmp 38]) rfl ?_);at_builtin;refine Kd.R_append_rows k56 (w0 := w) w.heap.size rfl (.tmp 34) (.tmp 38) 50 56 (.agg #[(.int .u8 0),(.string ⟨#[]⟩),(.int .i64 0),(.int .i64 0)]) 40 rfl Try.underlying50 zfU rfl (by decide) (by omega) v388 x5_1 y393 _ _ _ (fun _ => True) (fun _ => False) rfl rfl ?aO ?aR (fun _ _ h => h) (fun _ h => h.elim) ?aF ?aB ?aS ?aL ?_;(case aR => exact qC ((Kd.C_below HR396.out HB.out)));(case aB => exact qB);(case aF => exact (fun _ _ => trivial));(case aO => exact qR HO_5);(case aS => exact (zaF qB));(case aL => have := LMc22.out;omega);intro v398 w24 ho hb hg hat;rw [← Ny397.out] at ho;obtain ⟨_,_⟩ := a2 hb ho;clear HB HO_5 ho hb hg hat;rename_i HB HO399))
  go_ret
  exact ⟨_,qF hji19,qR HO399,qB⟩
 obtain ⟨c11b0,H⟩ := spN H
 obtain ⟨c12b0,H⟩ := spN H
 obtain ⟨c13b0,H⟩ | ⟨c13b0,H⟩ := spD H
 rotate_left
 ·have H' := Aside0.mk H
  clear H
  obtain ⟨ad390,e390,p390,q390,hx390_0,hx390_1,hx390_2,hx390_3⟩ := aT56 HR0 HB x6_1
  cases e390
  go_wp2
  go_roundg k1
  case measure => have := HK1.out;omega
  case rel => exact ⟨(x5_1),(wrap64 (x6_1 + 1)),qS,H',⟨by have := HK1.out;omega⟩,⟨qR HO_5⟩,⟨qB⟩⟩
 obtain ⟨c14b0,H⟩ := spN H
 obtain ⟨y392,hy392⟩ : ∃ y_ : List (S56),y_ = (x5_1.set (x6_1 : Int).toNat (⟨(zaA x5_1 x6_1).f0,(zaA x5_1 x6_1).f1,(zaA x5_1 x6_1).f2,wrap64 (((zaA x5_1 x6_1).f3) - 1)⟩ : S56)) := ⟨_,rfl⟩
 replace H : (zbE k1 l0 a1 y392 (wrap64 (x6_1 + 1))) = some r := by first | (rw [hy392];with_reducible exact H) | (have H2_ := (Option.bind_some _ _).symm.trans H;rw [hy392];with_reducible exact H2_) | (have H2_ := (Option.bind_some _ _).symm.trans H;with_reducible exact H2_) | with_reducible exact H | (rw [hy392];exact H) | exact H
 have Ny392 := Aside0.mk hy392
 clear hy392
 have H' := Aside0.mk H
 clear H
 obtain ⟨ad390,e390,p390,q390,hx390_0,hx390_1,hx390_2,hx390_3⟩ := aT56 HR0 HB x6_1
 cases e390
 obtain ⟨Ao16,co16,eo16⟩ := Kd.R_slice HO_5.out
 subst eo16
 obtain ⟨ad391,e391,p391,q391,hx391_0,hx391_1,hx391_2,hx391_3⟩ := bT56 (Kd.R_reads' HO_5.out).2.2 x6_1
 cases e391
 have p15 : 0 ≤ (x6_1 : Int) := qD
 have q15 : (x6_1 : Int) < ((x5_1.length : Int) : Int) := qD
 obtain ⟨go15,co15,eo15,gb15,gl15,cl15,HG15⟩ := Kd.R_form HO_5.out (by omega)
 (first | cases eo15 | (injection eo15 with ea_ en_ ec_;(first | subst ea_ | (injection ea_ with ea_;subst ea_));subst ec_;clear en_))
 have GB15 := Aside0.mk gb15
 have GG15 := Aside0.mk HG15
 clear gb15 gl15 HG15
 (first | simp only [zbR] at hx391_0 | skip)
 (first | simp only [zbR] at hx391_1 | skip)
 (first | simp only [zbR] at hx391_2 | skip)
 (first | simp only [zbR] at hx391_3 | skip)
 obtain ⟨ce15,hcl15,hM15,hcc15,hfr15⟩ := Kd.R_elem HO_5.out z56 (x6_1 : Int) p15 q15
 obtain rfl := zhS hM15
 have hx15_0 : wr.cell? ⟨go15,(x6_1 : Int).toNat * 4,none⟩ = some (.int .u8 ((zaA x5_1 x6_1).f0)) := hcc15 0 _ rfl
 have hx15_1 : wr.cell? ⟨go15,(x6_1 : Int).toNat * 4 + 1,none⟩ = some (.string ((zaA x5_1 x6_1).f1)) := hcc15 1 _ rfl
 have hx15_2 : wr.cell? ⟨go15,(x6_1 : Int).toNat * 4 + 2,none⟩ = some (.int .i64 ((zaA x5_1 x6_1).f2)) := hcc15 2 _ rfl
 have hx15_3 : wr.cell? ⟨go15,(x6_1 : Int).toNat * 4 + 3,none⟩ = some (.int .i64 ((zaA x5_1 x6_1).f3)) := hcc15 3 _ rfl
 have hf15_0 : wr.frozen? ⟨go15,(x6_1 : Int).toNat * 4,none⟩ = false := hfr15 0
 have hf15_1 : wr.frozen? ⟨go15,(x6_1 : Int).toNat * 4 + 1,none⟩ = false := hfr15 1
 have hf15_2 : wr.frozen? ⟨go15,(x6_1 : Int).toNat * 4 + 2,none⟩ = false := hfr15 2
 have hf15_3 : wr.frozen? ⟨go15,(x6_1 : Int).toNat * 4 + 3,none⟩ = false := hfr15 3
 clear hcl15 hcc15 hfr15 hM15
 replace p15 := eq_true p15
 replace q15 := eq_true q15
 have HX17 := Aside0.mk (show Kd.R k56 56 wr w.heap.size (fun _ => True) (.slice (some ⟨go15,0,none⟩) x5_1.length co16) x5_1 from (qR HO_5))
 obtain ⟨ce17,hcl17,hM17,hcc17,hfr17⟩ := Kd.R_elem HX17.out z56 (x6_1 : Int) qD (by have h_ : (x6_1 : Int) < ((x5_1.length : Int) : Int) := qD;first | exact h_ | (have e_ := (Kd.R_reads' HO_5.out).1;omega) | simpa using h_)
 obtain rfl := zhS hM17
 have HP17 := Kd.R_seg HX17.out (x6_1 : Int) qD (by have h_ : (x6_1 : Int) < ((x5_1.length : Int) : Int) := qD;first | exact h_ | (have e_ := (Kd.R_reads' HO_5.out).1;omega) | simpa using h_) (seg := [.int .i64 (wrap64 (((zaA x5_1 x6_1).f3) - 1))]) (j := 3) hcl17 hcc17 (show 4 ≤ 4 from by decide) (x' := (⟨(zaA x5_1 x6_1).f0,(zaA x5_1 x6_1).f1,(zaA x5_1 x6_1).f2,wrap64 (((zaA x5_1 x6_1).f3) - 1)⟩ : S56)) (zmD _ _ _ (⟨(zaA x5_1 x6_1).f0,(zaA x5_1 x6_1).f1,(zaA x5_1 x6_1).f2,wrap64 (((zaA x5_1 x6_1).f3) - 1)⟩ : S56) ) (fun _ hk => hk)
 have hx17_3 := hcc17 3 _ rfl
 (try simp only [show (k56).sz = 4 from rfl,Nat.mul_one,Nat.add_zero] at hx17_3)
 have hf17_3 := hfr17 3
 (try simp only [show (k56).sz = 4 from rfl,Nat.mul_one,Nat.add_zero] at hf17_3)
 clear hcl17 hcc17 hfr17 hM17
 go_wp2_with (first | ((with_reducible refine zoL (t := 3) (p := 33) rfl ?_);refine znI (t := 3) (p := 33) (v := ?vo_w18) (w1 := (wr.setCell ⟨go15,(x6_1 : Int).toNat * 4 + 3,none⟩ (.int .i64 (wrap64 (((zaA x5_1 x6_1).f3) - 1))))) ?hg ?ho ?hn ?hr ?_;(case ho => rfl);(case hg => rfl);(case hn => rfl);(case hr => first | (go_simp;done) | (go_simp;rfl));intro w18 hw;have hg : wr.grownBy w18 (some go15) := (by rw [hw];exact HP17.2);have hp_ : Kd.R k56 56 w18 w.heap.size (fun _ => True) (.slice (some ⟨go15,0,none⟩) x5_1.length co16) y392 := (by rw [hw,Ny392.out];exact HP17.1);clear HP17;obtain ⟨_,_⟩ := a2 hp_ ((by rw [hw];exact zjC HB.out GB15.out : Below w.heap.size w w18));clear HO_5 HB hg hw hp_;rename_i HO_5 HB))
 go_roundg k1
 case measure => have := HK1.out;omega
 case rel => exact ⟨(y392),(wrap64 (x6_1 + 1)),qS,H',⟨by have := HK1.out;omega⟩,⟨qR HO_5⟩,⟨qB⟩⟩
mutual
def zcD : Nat → List (S56) → Int → Option ((List (S56)) × Int)
 | 0,_,_ => none
 | k + 1,x5,x6 => if x6 < (x5.length : Int) then (if 0 ≤ x6 then (if ((zaA x5 x6).f0) = 46 then (if ((zaA x5 x6).f1).toList = ([] : List UInt8) then ((stylusref05_without.f k x5 x6).bind fun t374 => (zcD k t374 (wrap64 ((wrap64 (x6 - 1)) + 1)))) else (zcD k x5 (wrap64 (x6 + 1)))) else (zcD k x5 (wrap64 (x6 + 1)))) else (none)) else (zaN k x5 1)
def zaN : Nat → List (S56) → Int → Option ((List (S56)) × Int)
 | 0,_,_ => none
 | k + 1,x5,x7 => if x7 < (x5.length : Int) then (if 0 ≤ x7 then (if ((zaA x5 x7).f0) = 46 then (if 0 ≤ (wrap64 (x7 - 1)) then (if (wrap64 (x7 - 1)) < (x5.length : Int) then (if ((zaA x5 (wrap64 (x7 - 1))).f0) = 46 then ((stylusref05_parent.f k x5 x7).bind fun t379 => ((stylusref05_parent.f k x5 (wrap64 (x7 - 1))).bind fun t380 => (if t379 = t380 then (if ((zaA x5 (wrap64 (x7 - 1))).f1).size + ((zaA x5 x7).f1).size ≤ 9223372036854775807 then ((stylusref05_without.f k (x5.set ((wrap64 (x7 - 1)) : Int).toNat (⟨(zaA x5 (wrap64 (x7 - 1))).f0,((zaA x5 (wrap64 (x7 - 1))).f1) ++ ((zaA x5 x7).f1),(zaA x5 (wrap64 (x7 - 1))).f2,(zaA x5 (wrap64 (x7 - 1))).f3⟩ : S56)) x7).bind fun t384 => (zaN k t384 (wrap64 ((wrap64 (x7 - 1)) + 1)))) else (none)) else (zaN k x5 (wrap64 (x7 + 1)))))) else (zaN k x5 (wrap64 (x7 + 1)))) else (none)) else (none)) else (zaN k x5 (wrap64 (x7 + 1)))) else (none)) else (some (x5,0))
end
def stylusref05_Of.f (k : Nat) (l0 : List (S56)) : Option ((List (S56)) × Int) := (stylusref04_Check.f k l0).bind fun t368 => (if t368 = 0 then ((stylusref05_texts.f k l0).bind fun t369 => (zcD k t369 0)) else (some (([] : List (S56)),t368)))
def zlH : Bool × List (List Nat × List Nat) := (true,[([],[]),([],[]),([1],[1]),([],[]),([],[]),([4],[4]),([3,5],[3,5]),([6],[6]),([7],[7]),([],[]),([],[]),([9,10],[9,10]),([11],[11]),([12],[12]),([8,13],[8,13]),([0,2,0,1,2,3,4,5,6,7,8,9,10,11,12,13,14],[0,2]),([15,0,1,2,3,4,5,6,7,8,9,10,11,12,13,14],[15]),([16,14,0,1,2,3,4,5,6,7,8,9,10,11,12,13,14],[14,16])])
def zqW : List Nat := [0,0,2,0,0,16,56,120,248,0,0,1536,3584,7680,16376,32767,65535,131071]
theorem zpD : rtab .any (zyG Try.f65 15) = zlH := by kernel_rfl
theorem zoH : zjF zlH.2 zqW = true := by kernel_rfl
theorem stylusref05_Of.calls (k : Nat) (A0 : Option Addr) (c0 : Nat) (l0 : List (S56)) (r1 : List (S56)) (r2 : Int) (w : World) (hr0 : Kd.C k56 w A0 l0.length l0) (hc0 : l0.length ≤ c0) (h : stylusref05_Of.f k l0 = some (r1,r2)) :
  Calls Try.prog 65 #[.slice A0 l0.length c0] w fun e w' => ∃ v0_ : Value,e = .returned (.tuple #[v0_,.int .i64 r2]) ∧ Kd.R k56 56 w' w.heap.size (fun _ => True) v0_ r1 ∧ Below w.heap.size w w' := by
 have HR0 := Aside0.mk hr0
 have HC0 := Aside0.mk hc0
 clear hr0 hc0
 have HB := Aside0.mk (Below.refl w.heap.size w)
 have H : ((stylusref04_Check.f k l0).bind fun t368 => (if t368 = 0 then ((stylusref05_texts.f k l0).bind fun t369 => (zcD k t369 0)) else (some (([] : List (S56)),t368)))) = some (r1,r2) := h
 clear h
 obtain ⟨t368,A2,H⟩ := bdA H
 obtain ⟨c3b0,c3b1,H⟩ | ⟨c3b0,c3b1,H⟩ := spE H
 rotate_left
 ·simp only [Option.some.injEq,Prod.mk.injEq] at H
  obtain ⟨rfl,rfl⟩ := H
  go_enter Try.func65,Try.ntmps65
  go_wp2_with (first | ((with_reducible refine zaE (f := 60) rfl ?_);refine zaL (some 9) rfl rfl Try.func60 (by kernel_rfl) rfl #[.slice A0 l0.length c0] rfl qM ?_;(with_reducible refine (stylusref04_Check.calls k _ _ l0 t368 _ ?side1 ?side2 A2.out).mono ?_);(case side1 => exact qC HR0.out);(case side2 => exact HC0.out);rintro e w38 ⟨rfl,hb⟩;refine ⟨_,rfl,?_⟩;have := a1 (zaD qB hb);clear HB;have HB := this;clear this;(try clear hb);(try clear hb2);(try clear hk);(try clear hi)))
  go_ret2
  exact ⟨_,qE,qN,qB⟩
 obtain ⟨t369,A4,H⟩ := bdA H
 have H' := Aside0.mk H
 clear H
 go_enter Try.func65,Try.ntmps65
 go_wp2_with (first | ((with_reducible refine zaE (f := 60) rfl ?_);refine zaL (some 9) rfl rfl Try.func60 (by kernel_rfl) rfl #[.slice A0 l0.length c0] rfl qM ?_;(with_reducible refine (stylusref04_Check.calls k _ _ l0 t368 _ ?side1 ?side2 A2.out).mono ?_);(case side1 => exact qC HR0.out);(case side2 => exact HC0.out);rintro e w5 ⟨rfl,hb⟩;refine ⟨_,rfl,?_⟩;have := a1 (zaD qB hb);clear HB;have HB := this;clear this;(try clear hb);(try clear hb2);(try clear hk);(try clear hi)) | ((with_reducible refine zaE (f := 112) rfl ?_);refine zaL (some 14) rfl rfl Try.func112 (by kernel_rfl) rfl #[.slice A0 l0.length c0] rfl qM ?_;(with_reducible refine (stylusref05_texts.calls k _ _ l0 t369 _ ?side1 ?side2 A4.out).mono ?_);(case side1 => exact qC ((Kd.C_below HR0.out HB.out)));(case side2 => exact HC0.out);rintro e w6 ⟨v370,rfl,ho0,hb⟩;refine ⟨_,rfl,?_⟩;obtain ⟨_,_⟩ := a2 (Kd.R_lower ho0 (zaF qB)) (zaD qB hb);clear HB;rename_i HO371 HB;(try clear hb);(try clear hb2);(try clear hk);(try clear hi);(try clear ho0)))
 go_loopg [5,6] k (fun kq v5 v6 w' => ∃ (x5_1 : List (S56)) (x6_1 : Int),v6 = .int .i64 x6_1 ∧ Aside0 (zcD kq x5_1 x6_1 = some (r1,r2)) ∧ Aside0 (kq ≤ k) ∧ Aside0 (Kd.R k56 56 w' w.heap.size (fun _ => True) v5 x5_1) ∧ Aside0 (Below w.heap.size w w'))
 case atStart => exact ⟨(t369),(0),qS,H',⟨Nat.le_refl _⟩,⟨qR HO371⟩,⟨qB⟩⟩
 clear H'
 obtain ⟨x5_1,x6_1,rfl,HA,HK1,HO_5,HB⟩ := hrel
 cases gk with
 | zero => exact absurd HA.out (by simp [zcD])
 | succ k1 =>
 have H := HA.out
 clear HA
 simp only [zcD] at H
 obtain ⟨c7b0,H⟩ | ⟨c7b0,H⟩ := spD H
 ·obtain ⟨c8b0,H⟩ := spN H
  obtain ⟨c9b0,c9b1,H⟩ | ⟨c9b0,c9b1,H⟩ := spE H
  rotate_left
  ·have H' := Aside0.mk H
   clear H
   obtain ⟨Ao15,co15,eo15⟩ := Kd.R_slice HO_5.out
   subst eo15
   obtain ⟨ad372,e372,p372,q372,hx372_0,hx372_1,hx372_2,hx372_3⟩ := bT56 (Kd.R_reads' HO_5.out).2.2 x6_1
   cases e372
   go_wp2
   go_roundg k1
   case measure => have := HK1.out;omega
   case rel => exact ⟨(x5_1),(wrap64 (x6_1 + 1)),qS,H',⟨by have := HK1.out;omega⟩,⟨qR HO_5⟩,⟨qB⟩⟩
  obtain ⟨c10b0,c10b1,H⟩ | ⟨c10b0,c10b1,H⟩ := spE H
  ·obtain ⟨t374,A11,H⟩ := bdA H
   have H' := Aside0.mk H
   clear H
   obtain ⟨Ao12,co12,eo12⟩ := Kd.R_slice HO_5.out
   subst eo12
   obtain ⟨ad372,e372,p372,q372,hx372_0,hx372_1,hx372_2,hx372_3⟩ := bT56 (Kd.R_reads' HO_5.out).2.2 x6_1
   cases e372
   obtain ⟨ad373,e373,p373,q373,hx373_0,hx373_1,hx373_2,hx373_3⟩ := bT56 (Kd.R_reads' HO_5.out).2.2 x6_1
   obtain rfl : ad372 = ad373 := (by injection e373)
   go_wp2_with (first | ((with_reducible refine zaE (f := 113) rfl ?_);refine zaL (some 37) rfl rfl Try.func113 (by kernel_rfl) rfl #[.slice (some ad372) x5_1.length co12,.int .i64 x6_1] rfl qM ?_;(with_reducible refine (stylusref05_without.calls k1 _ _ x5_1 x6_1 t374 _ ?side1 ?side2 A11.out).mono ?_);(case side1 => exact qC ((Kd.R_reads' HO_5.out).2.2));(case side2 => exact (Kd.R_reads' HO_5.out).2.1);rintro e w13 ⟨v375,rfl,ho0,hb⟩;refine ⟨_,rfl,?_⟩;obtain ⟨_,_,_⟩ := a3 (Kd.R_elder' (qR HO_5) (Kd.R_base ho0) hb) (Kd.R_lower (Kd.R_new' ho0 (Kd.R_lt (qR HO_5))) (zaF qB)) (zaD qB hb);clear HO_5 HB;rename_i HO_5 HO376 HB;(try clear hb);(try clear hb2);(try clear hk);(try clear hi);(try clear ho0)))
   go_roundg k1
   case measure => have := HK1.out;omega
   case rel => exact ⟨(t374),(wrap64 ((wrap64 (x6_1 - 1)) + 1)),qS,H',⟨by have := HK1.out;omega⟩,⟨qRb HO376⟩,⟨qB⟩⟩
  have H' := Aside0.mk H
  clear H
  obtain ⟨Ao14,co14,eo14⟩ := Kd.R_slice HO_5.out
  subst eo14
  obtain ⟨ad372,e372,p372,q372,hx372_0,hx372_1,hx372_2,hx372_3⟩ := bT56 (Kd.R_reads' HO_5.out).2.2 x6_1
  cases e372
  obtain ⟨ad373,e373,p373,q373,hx373_0,hx373_1,hx373_2,hx373_3⟩ := bT56 (Kd.R_reads' HO_5.out).2.2 x6_1
  obtain rfl : ad372 = ad373 := (by injection e373)
  go_wp2
  go_roundg k1
  case measure => have := HK1.out;omega
  case rel => exact ⟨(x5_1),(wrap64 (x6_1 + 1)),qS,H',⟨by have := HK1.out;omega⟩,⟨qR HO_5⟩,⟨qB⟩⟩
 have H' := Aside0.mk H
 clear H
 obtain ⟨Ao16,co16,eo16⟩ := Kd.R_slice HO_5.out
 subst eo16
 go_wp2
 go_loopg [5,7] k1 (fun kq v5 v7 w' => ∃ (x5_2 : List (S56)) (x7_2 : Int),v7 = .int .i64 x7_2 ∧ Aside0 (zaN kq x5_2 x7_2 = some (r1,r2)) ∧ Aside0 (kq ≤ k1) ∧ Aside0 (Kd.R k56 56 w' w.heap.size (fun _ => True) v5 x5_2) ∧ Aside0 (Below w.heap.size w w'))
 case atStart => exact ⟨(x5_1),(1),qS,H',⟨Nat.le_refl _⟩,⟨qR HO_5⟩,⟨qB⟩⟩
 clear H'
 obtain ⟨x5_2,x7_2,rfl,HA,HK2,HO_5,HB⟩ := hrel
 cases gk with
 | zero => exact absurd HA.out (by simp [zaN])
 | succ k2 =>
 have H := HA.out
 clear HA
 simp only [zaN] at H
 obtain ⟨c17b0,H⟩ | ⟨c17b0,H⟩ := spD H
 rotate_left
 ·simp only [Option.some.injEq,Prod.mk.injEq] at H
  obtain ⟨rfl,rfl⟩ := H
  obtain ⟨Ao37,co37,eo37⟩ := Kd.R_slice HO_5.out
  subst eo37
  go_wp2
  go_ret2
  exact ⟨_,qE,qR HO_5,qB⟩
 obtain ⟨c18b0,H⟩ := spN H
 obtain ⟨c19b0,c19b1,H⟩ | ⟨c19b0,c19b1,H⟩ := spE H
 rotate_left
 ·have H' := Aside0.mk H
  clear H
  obtain ⟨Ao36,co36,eo36⟩ := Kd.R_slice HO_5.out
  subst eo36
  obtain ⟨ad377,e377,p377,q377,hx377_0,hx377_1,hx377_2,hx377_3⟩ := bT56 (Kd.R_reads' HO_5.out).2.2 x7_2
  cases e377
  go_wp2
  go_roundg k2
  case measure => have := HK1.out;have := HK2.out;omega
  case rel => exact ⟨(x5_2),(wrap64 (x7_2 + 1)),qS,H',⟨by have := HK1.out;have := HK2.out;omega⟩,⟨qR HO_5⟩,⟨qB⟩⟩
 obtain ⟨ji20,hji20⟩ : ∃ j_ : Int,(wrap64 (x7_2 - 1)) = j_ := ⟨_,rfl⟩
 replace H : (if 0 ≤ (ji20) then (if (ji20) < (x5_2.length : Int) then (if ((zaA x5_2 (ji20)).f0) = 46 then ((stylusref05_parent.f k2 x5_2 x7_2).bind fun t379 => ((stylusref05_parent.f k2 x5_2 (ji20)).bind fun t380 => (if t379 = t380 then (if ((zaA x5_2 (ji20)).f1).size + ((zaA x5_2 x7_2).f1).size ≤ 9223372036854775807 then ((stylusref05_without.f k2 (x5_2.set ((ji20) : Int).toNat (⟨(zaA x5_2 (ji20)).f0,((zaA x5_2 (ji20)).f1) ++ ((zaA x5_2 x7_2).f1),(zaA x5_2 (ji20)).f2,(zaA x5_2 (ji20)).f3⟩ : S56)) x7_2).bind fun t384 => (zaN k2 t384 (wrap64 ((ji20) + 1)))) else (none)) else (zaN k2 x5_2 (wrap64 (x7_2 + 1)))))) else (zaN k2 x5_2 (wrap64 (x7_2 + 1)))) else (none)) else (none)) = some (r1,r2) := by first | (rw [hji20] at H;exact H) | (simp only [hji20] at H ⊢;exact H)
 have hji20w : (IntKind.i64.wrap (x7_2 - 1)) = ji20 := (zaO _).trans hji20
 obtain ⟨c21b0,H⟩ := spN H
 obtain ⟨c22b0,H⟩ := spN H
 obtain ⟨c23b0,c23b1,H⟩ | ⟨c23b0,c23b1,H⟩ := spE H
 rotate_left
 ·have H' := Aside0.mk H
  clear H
  obtain ⟨Ao35,co35,eo35⟩ := Kd.R_slice HO_5.out
  subst eo35
  obtain ⟨ad377,e377,p377,q377,hx377_0,hx377_1,hx377_2,hx377_3⟩ := bT56 (Kd.R_reads' HO_5.out).2.2 x7_2
  cases e377
  obtain ⟨ad378,e378,p378,q378,hx378_0,hx378_1,hx378_2,hx378_3⟩ := bT56 (Kd.R_reads' HO_5.out).2.2 (ji20)
  obtain rfl : ad377 = ad378 := (by injection e378)
  go_wp2
  go_roundg k2
  case measure => have := HK1.out;have := HK2.out;omega
  case rel => exact ⟨(x5_2),(wrap64 (x7_2 + 1)),qS,H',⟨by have := HK1.out;have := HK2.out;omega⟩,⟨qR HO_5⟩,⟨qB⟩⟩
 obtain ⟨t379,A24,H⟩ := bdA H
 obtain ⟨t380,A25,H⟩ := bdA H
 obtain ⟨c26b0,c26b1,H⟩ | ⟨c26b0,c26b1,H⟩ := spE H
 rotate_left
 ·have H' := Aside0.mk H
  clear H
  obtain ⟨Ao34,co34,eo34⟩ := Kd.R_slice HO_5.out
  subst eo34
  obtain ⟨ad377,e377,p377,q377,hx377_0,hx377_1,hx377_2,hx377_3⟩ := bT56 (Kd.R_reads' HO_5.out).2.2 x7_2
  cases e377
  obtain ⟨ad378,e378,p378,q378,hx378_0,hx378_1,hx378_2,hx378_3⟩ := bT56 (Kd.R_reads' HO_5.out).2.2 (ji20)
  obtain rfl : ad377 = ad378 := (by injection e378)
  go_wp2_with (first | (go_at_call 114;(with_reducible refine (stylusref05_parent.calls k2 _ _ x5_2 x7_2 t379 _ ?side1 ?side2 A24.out).mono ?_);(case side1 => exact qC ((Kd.R_reads' HO_5.out).2.2));(case side2 => exact (Kd.R_reads' HO_5.out).2.1);rintro e w' ⟨rfl,⟨nd,rfl⟩⟩) | (go_at_call 114;(with_reducible refine (stylusref05_parent.calls k2 _ _ x5_2 ji20 t380 _ ?side1 ?side2 A25.out).mono ?_);(case side1 => exact qC ((Kd.R_reads' HO_5.out).2.2));(case side2 => exact (Kd.R_reads' HO_5.out).2.1);rintro e w' ⟨rfl,⟨nd,rfl⟩⟩))
  go_roundg k2
  case measure => have := HK1.out;have := HK2.out;omega
  case rel => exact ⟨(x5_2),(wrap64 (x7_2 + 1)),qS,H',⟨by have := HK1.out;have := HK2.out;omega⟩,⟨qR HO_5⟩,⟨qB⟩⟩
 obtain ⟨c27,H⟩ := spG H
 have c27b0 := eq_true c27
 have c27b1 : decide (((zaA x5_2 (ji20)).f1).size + ((zaA x5_2 x7_2).f1).size ≤ 9223372036854775807) = true := decide_eq_true c27
 try have c27b2 : (9223372036854775807 < ((zaA x5_2 (ji20)).f1).size + ((zaA x5_2 x7_2).f1).size) = False := eq_false (Nat.not_lt.2 c27)
 obtain ⟨y383,hy383⟩ : ∃ y_ : List (S56),y_ = (x5_2.set ((ji20) : Int).toNat (⟨(zaA x5_2 (ji20)).f0,((zaA x5_2 (ji20)).f1) ++ ((zaA x5_2 x7_2).f1),(zaA x5_2 (ji20)).f2,(zaA x5_2 (ji20)).f3⟩ : S56)) := ⟨_,rfl⟩
 replace H : ((stylusref05_without.f k2 y383 x7_2).bind fun t384 => (zaN k2 t384 (wrap64 ((ji20) + 1)))) = some (r1,r2) := by first | (rw [hy383];with_reducible exact H) | (have H2_ := (Option.bind_some _ _).symm.trans H;rw [hy383];with_reducible exact H2_) | (have H2_ := (Option.bind_some _ _).symm.trans H;with_reducible exact H2_) | with_reducible exact H | (rw [hy383];exact H) | exact H
 have Ny383 := Aside0.mk hy383
 clear hy383
 obtain ⟨t384,A29,H⟩ := bdA H
 have H' := Aside0.mk H
 clear H
 obtain ⟨Ao30,co30,eo30⟩ := Kd.R_slice HO_5.out
 subst eo30
 obtain ⟨ad377,e377,p377,q377,hx377_0,hx377_1,hx377_2,hx377_3⟩ := bT56 (Kd.R_reads' HO_5.out).2.2 x7_2
 cases e377
 obtain ⟨ad378,e378,p378,q378,hx378_0,hx378_1,hx378_2,hx378_3⟩ := bT56 (Kd.R_reads' HO_5.out).2.2 (ji20)
 obtain rfl : ad377 = ad378 := (by injection e378)
 try go_wp2_with (first | (go_at_call 114;(with_reducible refine (stylusref05_parent.calls k2 _ _ x5_2 x7_2 t379 _ ?side1 ?side2 A24.out).mono ?_);(case side1 => exact qC ((Kd.R_reads' HO_5.out).2.2));(case side2 => exact (Kd.R_reads' HO_5.out).2.1);rintro e w' ⟨rfl,⟨nd,rfl⟩⟩;(try (rw [zlM wr];generalize hq_ : World.drewN wr _ = wr;have n0_ : Aside0 (Kd.R k56 56 wr w.heap.size (fun _ => True) (.slice (some ad377) x5_2.length co30) x5_2) := ⟨by rw [← hq_];exact (qR HO_5)⟩;have n1_ : Aside0 (Below w.heap.size w wr) := ⟨by rw [← hq_];exact qB⟩;clear HO_5 HB hq_;have HO_5 := n0_;have HB := n1_;clear n0_ n1_))) | (go_at_call 114;(with_reducible refine (stylusref05_parent.calls k2 _ _ x5_2 ji20 t380 _ ?side1 ?side2 A25.out).mono ?_);(case side1 => exact qC ((Kd.R_reads' HO_5.out).2.2));(case side2 => exact (Kd.R_reads' HO_5.out).2.1);rintro e w' ⟨rfl,⟨nd,rfl⟩⟩;(try (rw [zlM wr];generalize hq_ : World.drewN wr _ = wr;have n0_ : Aside0 (Kd.R k56 56 wr w.heap.size (fun _ => True) (.slice (some ad377) x5_2.length co30) x5_2) := ⟨by rw [← hq_];exact (qR HO_5)⟩;have n1_ : Aside0 (Below w.heap.size w wr) := ⟨by rw [← hq_];exact qB⟩;clear HO_5 HB hq_;have HO_5 := n0_;have HB := n1_;clear n0_ n1_))))
 have n0_ := Aside0.mk (Kd.R_drew HO_5.out)
 have n1_ := Aside0.mk (zaJ HB.out)
 clear HO_5 HB
 have HO_5 := n0_
 have HB := n1_
 clear n0_ n1_
 obtain ⟨ad381,e381,p381,q381,hx381_0,hx381_1,hx381_2,hx381_3⟩ := bT56 (Kd.R_reads' HO_5.out).2.2 (ji20)
 obtain rfl : ad377 = ad381 := (by injection e381)
 obtain ⟨ad382,e382,p382,q382,hx382_0,hx382_1,hx382_2,hx382_3⟩ := bT56 (Kd.R_reads' HO_5.out).2.2 x7_2
 obtain rfl : ad377 = ad382 := (by injection e382)
 have p28 : 0 ≤ ((ji20) : Int) := qD
 have q28 : ((ji20) : Int) < ((x5_2.length : Int) : Int) := qD
 obtain ⟨go28,co28,eo28,gb28,gl28,cl28,HG28⟩ := Kd.R_form HO_5.out (by omega)
 (first | cases eo28 | (injection eo28 with ea_ en_ ec_;(first | subst ea_ | (injection ea_ with ea_;subst ea_));subst ec_;clear en_))
 have GB28 := Aside0.mk gb28
 have GG28 := Aside0.mk HG28
 clear gb28 gl28 HG28
 (first | simp only [zbR] at hx377_0 | skip)
 (first | simp only [zbR] at hx377_1 | skip)
 (first | simp only [zbR] at hx377_2 | skip)
 (first | simp only [zbR] at hx377_3 | skip)
 (first | simp only [zbR] at hx378_0 | skip)
 (first | simp only [zbR] at hx378_1 | skip)
 (first | simp only [zbR] at hx378_2 | skip)
 (first | simp only [zbR] at hx378_3 | skip)
 (first | simp only [zbR] at hx381_0 | skip)
 (first | simp only [zbR] at hx381_1 | skip)
 (first | simp only [zbR] at hx381_2 | skip)
 (first | simp only [zbR] at hx381_3 | skip)
 (first | simp only [zbR] at hx382_0 | skip)
 (first | simp only [zbR] at hx382_1 | skip)
 (first | simp only [zbR] at hx382_2 | skip)
 (first | simp only [zbR] at hx382_3 | skip)
 obtain ⟨ce28,hcl28,hM28,hcc28,hfr28⟩ := Kd.R_elem HO_5.out z56 ((ji20) : Int) p28 q28
 obtain rfl := zhS hM28
 have hx28_0 : World.cell? _ ⟨go28,((ji20) : Int).toNat * 4,none⟩ = some (.int .u8 ((zaA x5_2 (ji20)).f0)) := hcc28 0 _ rfl
 have hx28_1 : World.cell? _ ⟨go28,((ji20) : Int).toNat * 4 + 1,none⟩ = some (.string ((zaA x5_2 (ji20)).f1)) := hcc28 1 _ rfl
 have hx28_2 : World.cell? _ ⟨go28,((ji20) : Int).toNat * 4 + 2,none⟩ = some (.int .i64 ((zaA x5_2 (ji20)).f2)) := hcc28 2 _ rfl
 have hx28_3 : World.cell? _ ⟨go28,((ji20) : Int).toNat * 4 + 3,none⟩ = some (.int .i64 ((zaA x5_2 (ji20)).f3)) := hcc28 3 _ rfl
 have hf28_0 : World.frozen? _ ⟨go28,((ji20) : Int).toNat * 4,none⟩ = false := hfr28 0
 have hf28_1 : World.frozen? _ ⟨go28,((ji20) : Int).toNat * 4 + 1,none⟩ = false := hfr28 1
 have hf28_2 : World.frozen? _ ⟨go28,((ji20) : Int).toNat * 4 + 2,none⟩ = false := hfr28 2
 have hf28_3 : World.frozen? _ ⟨go28,((ji20) : Int).toNat * 4 + 3,none⟩ = false := hfr28 3
 clear hcl28 hcc28 hfr28 hM28
 replace p28 := eq_true p28
 replace q28 := eq_true q28
 obtain ⟨ce32,hcl32,hM32,hcc32,hfr32⟩ := Kd.R_elem HO_5.out z56 ((ji20) : Int) qD (by have h_ : ((ji20) : Int) < ((x5_2.length : Int) : Int) := qD;first | exact h_ | (have e_ := (Kd.R_reads' HO_5.out).1;omega) | simpa using h_)
 obtain rfl := zhS hM32
 have HP32 := (Kd.R_seg HO_5.out ((ji20) : Int) qD (by have h_ : ((ji20) : Int) < ((x5_2.length : Int) : Int) := qD;first | exact h_ | (have e_ := (Kd.R_reads' HO_5.out).1;omega) | simpa using h_) (seg := [.string (((zaA x5_2 (ji20)).f1) ++ ((zaA x5_2 x7_2).f1))]) (j := 1) hcl32 hcc32 (show 2 ≤ 4 from by decide) (x' := (⟨(zaA x5_2 (ji20)).f0,((zaA x5_2 (ji20)).f1) ++ ((zaA x5_2 x7_2).f1),(zaA x5_2 (ji20)).f2,(zaA x5_2 (ji20)).f3⟩ : S56)) (zmD _ _ _ (⟨(zaA x5_2 (ji20)).f0,((zaA x5_2 (ji20)).f1) ++ ((zaA x5_2 x7_2).f1),(zaA x5_2 (ji20)).f2,(zaA x5_2 (ji20)).f3⟩ : S56) ) (fun _ hk => hk)).1
 rw [← Ny383.out] at HP32
 have HQ32 := Aside0.mk HP32
 clear hcl32 hcc32 hfr32 hM32 HP32
 refine ztH (n := 18) (S := fun w' => w'.cell? ⟨go28,((ji20)).toNat * 4,none⟩ = some (.int .u8 ((zaA x5_2 (ji20)).f0)) ∧ w'.cell? ⟨go28,((ji20)).toNat * 4 + 1,none⟩ = some (.string ((zaA x5_2 (ji20)).f1)) ∧ w'.cell? ⟨go28,((ji20)).toNat * 4 + 2,none⟩ = some (.int .i64 ((zaA x5_2 (ji20)).f2)) ∧ w'.cell? ⟨go28,((ji20)).toNat * 4 + 3,none⟩ = some (.int .i64 ((zaA x5_2 (ji20)).f3)) ∧ w'.cell? ⟨go28,((x7_2).toNat * 4),none⟩ = some (.int .u8 ((zaA x5_2 x7_2).f0)) ∧ w'.cell? ⟨go28,((x7_2).toNat * 4) + 1,none⟩ = some (.string ((zaA x5_2 x7_2).f1)) ∧ w'.cell? ⟨go28,((x7_2).toNat * 4) + 2,none⟩ = some (.int .i64 ((zaA x5_2 x7_2).f2)) ∧ w'.cell? ⟨go28,((x7_2).toNat * 4) + 3,none⟩ = some (.int .i64 ((zaA x5_2 x7_2).f3))) (ds := [17]) #[false,false,false,false,false,false,false,false,false,false,false,false,false,false,false,false,false,false] (by kernel_rfl) rfl rfl ⟨hx381_0,hx381_1,hx381_2,hx381_3,hx382_0,hx382_1,hx382_2,hx382_3⟩ (fun hHeld => ?_);refine zmX zpD zoH (fun HT_ HW_ => ?_)
 generalize wr.drew = w31 at HO_5 HB GG28 HQ32 hf28_0 hf28_1 hf28_2 hf28_3 hx28_0 hx28_1 hx28_2 hx28_3 hx377_0 hx377_1 hx377_2 hx377_3 hx378_0 hx378_1 hx378_2 hx378_3 hx381_0 hx381_1 hx381_2 hx381_3 hx382_0 hx382_1 hx382_2 hx382_3 hHeld ⊢
 refine zcM (i := 0) (N := some 71) (v := ?_) (a' := ?_) #[true,false,false,false,false,false,false,false,false,false,false,false,false,false,false,false,false,false] rfl rfl (zbO HT_.out (by kernel_rfl)) (fun _ _ _ h => h) (Or.inl ⟨by rfl,?_⟩) ?_ ?_
 rotate_left
 ·intro w'
  go_simp
  with_reducible rfl
 rotate_left
 ·simp only [Act.put,szz,zaO,zaR]
  rfl
 refine zcM (i := 1) (N := some 72) (v := ?_) (a' := ?_) #[true,true,false,false,false,false,false,false,false,false,false,false,false,false,false,false,false,false] rfl rfl (zbO HT_.out (by kernel_rfl)) (fun _ _ _ h => h) (Or.inl ⟨by rfl,?_⟩) ?_ ?_
 rotate_left
 ·intro w'
  go_simp
  with_reducible rfl
 rotate_left
 ·simp only [Act.put,szz,zaO,zaR]
  rfl
 refine zcM (i := 2) (N := some 73) (v := ?_) (a' := ?_) #[true,true,true,false,false,false,false,false,false,false,false,false,false,false,false,false,false,false] rfl rfl (zbO HT_.out (by kernel_rfl)) (fun _ _ _ h => h) (Or.inl ⟨by rfl,?_⟩) ?_ ?_
 rotate_left
 ·intro w'
  go_simp
  with_reducible rfl
 rotate_left
 ·simp only [Act.put,szz,zaO,zaR]
  rfl
 refine zcM (i := 3) (N := some 74) (v := ?_) (a' := ?_) #[true,true,true,true,false,false,false,false,false,false,false,false,false,false,false,false,false,false] rfl rfl (zbO HT_.out (by kernel_rfl)) (fun _ _ _ h => h) (Or.inl ⟨by rfl,?_⟩) ?_ ?_
 rotate_left
 ·intro w'
  go_simp
  with_reducible rfl
 rotate_left
 ·simp only [Act.put,szz,zaO,zaR]
  rfl
 refine zcM (i := 4) (N := some 75) (v := ?_) (a' := ?_) #[true,true,true,true,true,false,false,false,false,false,false,false,false,false,false,false,false,false] rfl rfl (zbO HT_.out (by kernel_rfl)) (fun _ _ _ h => h) (Or.inl ⟨by rfl,?_⟩) ?_ ?_
 rotate_left
 ·intro w'
  go_simp
  with_reducible rfl
 rotate_left
 ·simp only [Act.put,szz,zaO,zaR]
  rfl
 refine zcM (i := 5) (N := some 76) (v := ?_) (a' := ?_) #[true,true,true,true,true,true,false,false,false,false,false,false,false,false,false,false,false,false] rfl rfl (zbO HT_.out (by kernel_rfl)) (fun _ _ _ h => h) (Or.inl ⟨by rfl,?_⟩) ?_ ?_
 rotate_left
 ·intro w'
  go_simp
  with_reducible rfl
 rotate_left
 ·simp only [Act.put,szz,zaO,zaR]
  rfl
 refine zcM (i := 6) (N := some 77) (v := ?_) (a' := ?_) #[true,true,true,true,true,true,true,false,false,false,false,false,false,false,false,false,false,false] rfl rfl (zbO HT_.out (by kernel_rfl)) (fun _ _ _ h => h) (Or.inl ⟨by rfl,?_⟩) ?_ ?_
 rotate_left
 ·intro w'
  go_simp
  with_reducible rfl
 rotate_left
 ·simp only [Act.put,szz,zaO,zaR]
  rfl
 refine zcM (i := 7) (N := some 78) (v := ?_) (a' := ?_) #[true,true,true,true,true,true,true,true,false,false,false,false,false,false,false,false,false,false] rfl rfl (zbO HT_.out (by kernel_rfl)) (fun _ _ _ h => h) (Or.inl ⟨by rfl,?_⟩) ?_ ?_
 rotate_left
 ·intro w'
  go_simp
  with_reducible rfl
 rotate_left
 ·simp only [Act.put,szz,zaO,zaR]
  rfl
 refine zcM (i := 9) (N := some 80) (v := ?_) (a' := ?_) #[true,true,true,true,true,true,true,true,false,true,false,false,false,false,false,false,false,false] rfl rfl (zbO HT_.out (by kernel_rfl)) (fun _ _ _ h => h) (Or.inl ⟨by rfl,?_⟩) ?_ ?_
 rotate_left
 ·intro w'
  go_simp
  with_reducible rfl
 rotate_left
 ·simp only [Act.put,szz,zaO,zaR]
  rfl
 refine zcM (i := 10) (N := some 81) (v := ?_) (a' := ?_) #[true,true,true,true,true,true,true,true,false,true,true,false,false,false,false,false,false,false] rfl rfl (zbO HT_.out (by kernel_rfl)) (fun _ _ _ h => h) (Or.inl ⟨by rfl,?_⟩) ?_ ?_
 rotate_left
 ·intro w'
  go_simp
  with_reducible rfl
 rotate_left
 ·simp only [Act.put,szz,zaO,zaR]
  rfl
 refine zcM (i := 11) (N := some 82) (v := ?_) (a' := ?_) #[true,true,true,true,true,true,true,true,false,true,true,true,false,false,false,false,false,false] rfl rfl (zbO HT_.out (by kernel_rfl)) (fun _ _ _ h => h) (Or.inl ⟨by rfl,?_⟩) ?_ ?_
 rotate_left
 ·intro w'
  go_simp
  with_reducible rfl
 rotate_left
 ·simp only [Act.put,szz,zaO,zaR]
  rfl
 refine zcM (i := 12) (N := some 83) (v := ?_) (a' := ?_) #[true,true,true,true,true,true,true,true,false,true,true,true,true,false,false,false,false,false] rfl rfl (zbO HT_.out (by kernel_rfl)) (fun _ _ _ h => h) (Or.inl ⟨by rfl,?_⟩) ?_ ?_
 rotate_left
 ·intro w'
  go_simp
  with_reducible rfl
 rotate_left
 ·simp only [Act.put,szz,zaO,zaR]
  rfl
 refine zrB (i := 8) (N := some 79) (v := ?_) (a' := ?_) #[true,true,true,true,true,true,true,true,true,true,true,true,true,false,false,false,false,false] rfl rfl (zkE HT_.out HW_.out (by kernel_rfl)) (fun _ _ _ h => h) (Or.inl ⟨by rfl,?_⟩) hHeld ?_ ?_
 rotate_left
 ·rintro w' ⟨s0,s1,s2,s3,s4,s5,s6,s7⟩
  go_simp
  with_reducible rfl
 rotate_left
 ·simp only [Act.put,szz,zaO,zaR]
  rfl
 refine zrB (i := 13) (N := some 84) (v := ?_) (a' := ?_) #[true,true,true,true,true,true,true,true,true,true,true,true,true,true,false,false,false,false] rfl rfl (zkE HT_.out HW_.out (by kernel_rfl)) (fun _ _ _ h => h) (Or.inl ⟨by rfl,?_⟩) hHeld ?_ ?_
 rotate_left
 ·rintro w' ⟨s0,s1,s2,s3,s4,s5,s6,s7⟩
  go_simp
  with_reducible rfl
 rotate_left
 ·simp only [Act.put,szz,zaO,zaR]
  rfl
 refine zcM (i := 14) (N := some 85) (v := ?_) (a' := ?_) #[true,true,true,true,true,true,true,true,true,true,true,true,true,true,true,false,false,false] rfl rfl (zbO HT_.out (by kernel_rfl)) (fun _ _ _ h => h) (Or.inl ⟨by rfl,?_⟩) ?_ ?_
 rotate_left
 ·intro w'
  go_simp
  with_reducible rfl
 rotate_left
 ·simp only [Act.put,szz,zaO,zaR]
  rfl
 refine zcM (i := 15) (N := some 86) (v := ?_) (a' := ?_) #[true,true,true,true,true,true,true,true,true,true,true,true,true,true,true,true,false,false] rfl rfl (zbO HT_.out (by kernel_rfl)) (fun _ _ _ h => h) (Or.inl ⟨by rfl,?_⟩) ?_ ?_
 rotate_left
 ·intro w'
  go_simp
  with_reducible rfl
 rotate_left
 ·simp only [Act.put,szz,zaO,zaR]
  rfl
 refine zcM (i := 16) (N := some 87) (v := ?_) (a' := ?_) #[true,true,true,true,true,true,true,true,true,true,true,true,true,true,true,true,true,false] rfl rfl (zbO HT_.out (by kernel_rfl)) (fun _ _ _ h => h) (Or.inl ⟨by rfl,?_⟩) ?_ ?_
 rotate_left
 ·intro w'
  go_simp
  with_reducible rfl
 rotate_left
 ·simp only [Act.put,szz,zaO,zaR]
  rfl
 refine last_ (i := 17) (N := none) #[true,true,true,true,true,true,true,true,true,true,true,true,true,true,true,true,true,true] rfl rfl (zjL HT_.out (by kernel_rfl)) (by decide) (fun K hK => ?_)
 refine skip_ (w1 := ?_) (by rfl) rfl ?_ ?_
 rotate_left
 ·go_simp
  rfl
 refine hK.out _ _ ?_
 clear hK K
 refine zyE (zrD HT_.out (by kernel_rfl)) ?_
 try go_wp2_with (first | ((with_reducible refine zaE (f := 113) rfl ?_);refine zaL (some 90) rfl rfl Try.func113 (by kernel_rfl) rfl #[.slice (some ⟨go28,0,none⟩) y383.length co30,.int .i64 x7_2] rfl (by (try simp only [List.map_toArray,List.map_cons,List.map_nil]);first | done | (rw [show y383.length = x5_2.length from (Kd.R_reads' HQ32.out).1.symm] <;> rfl) | rfl | (simp only [List.length_drop,List.length_take];rfl)) ?_;(with_reducible refine (stylusref05_without.calls k2 _ _ y383 x7_2 t384 _ ?side1 ?side2 A29.out).mono ?_);(case side1 => refine (Kd.R_reads' (e := 56) (base := w.heap.size) (ok := fun k_ => True) (n := x5_2.length) (c := co30) ?_).2.2;exact (qR HQ32));(case side2 => rw [show y383.length = x5_2.length from (Kd.R_reads' HQ32.out).1.symm];exact (Kd.R_reads' HO_5.out).2.1);rintro e w33 ⟨v385,rfl,ho0,hb⟩;refine ⟨_,rfl,?_⟩;obtain ⟨_,_,_⟩ := a3 (Kd.R_elder' (qR HQ32) (Kd.R_base ho0) hb) (Kd.R_lower (Kd.R_new' ho0 (Kd.R_lt (qR HQ32))) (zaF (qG GB28))) (zaD (qG GB28) hb);clear HO_5 HB;rename_i HO_5 HO386 HB;(try clear hb);(try clear hb2);(try clear hk);(try clear hi);(try clear ho0)))
 go_roundg k2
 case measure => have := HK1.out;have := HK2.out;omega
 case rel => exact ⟨(t384),(wrap64 ((ji20) + 1)),(by first | rfl | (simp;done) | (simp only [← hji20] <;> (first | rfl | simp)) | (simp [*];done)),H',⟨by have := HK1.out;have := HK2.out;omega⟩,⟨qRb HO386⟩,⟨qB⟩⟩
end Go.Proofs.Ythcmfjpheanphaa.Pr
namespace Go.Proofs.Ythcmfjpheanphaa.Pr
open Go.RowKit Go.Proofs.YthcmfjpheanphaaW.PrintWords
abbrev zeI (L : List PT) : Prop := L.Pairwise fun a b => a.1 < b.1
theorem zqX {A : List S56} {x : S56} {B : List S56} : zaA (A ++ x :: B) (A.length : Int) = x := by
 unfold zaA
 rw [Int.toNat_natCast,List.getD_eq_getElem?_getD,List.getElem?_append_right (Nat.le_refl _),Nat.sub_self]
 rfl
theorem zyH (t : List S56) (L : List PT) (q : Nat) : cn t L q ≤ L.length := List.countP_le_length
theorem zwD (t : List S56) (x : PT) (L : List PT) (q : Nat) : cn t (x :: L) q = (if q ≤ x.1 ∧ x.1 < q + sz t q then 1 else 0) + cn t L q := by
 unfold cn
 rw [List.countP_cons,Nat.add_comm]
 congr 1
 by_cases h : q ≤ x.1 ∧ x.1 < q + sz t q
 ·rw [if_pos h,if_pos (by simpa using h)]
 rw [if_neg h,if_neg (by simpa using h)]
theorem ygX (t : List S56) (A B C : List PT) (x y : PT) (hs : zeI (A ++ x :: (B ++ y :: C))) (hx : 1 ≤ sz t x.1) : B.length + 1 < cn t (A ++ x :: (B ++ y :: C)) x.1 ↔ y.1 < x.1 + sz t x.1 := by
 unfold zeI at hs
 rw [List.pairwise_append] at hs
 obtain ⟨h1,h2,h3⟩ := hs
 rw [List.pairwise_cons,List.pairwise_append,List.pairwise_cons] at h2
 obtain ⟨h4,h5,⟨h6,h7⟩,h8⟩ := h2
 have hA : cn t A x.1 = 0 := ziK t A x.1 fun p hp => by have := h3 p hp x List.mem_cons_self;omega
 have hy := h4 y (by simp)
 rw [zhH,hA,zwD,if_pos ⟨Nat.le_refl _,by omega⟩,zhH,zwD]
 constructor
 ·intro h
  refine Nat.lt_of_not_le fun h9 => ?_
  have hC : cn t C x.1 = 0 := ziK t C x.1 fun p hp => by have := h6 p hp;omega
  rw [if_neg (by omega),hC] at h
  have := zyH t B x.1
  omega
 intro h
 have hB : cn t B x.1 = B.length := zuB t B x.1 fun p hp => by
  have := h4 p (by simp [hp])
  have := h8 p hp y (by simp)
  omega
 rw [if_pos ⟨by omega,h⟩,hB]
 omega
theorem ygY (t : List S56) (P Q : List PT) (y p : PT) : cn t (P ++ y :: Q) p.1 = (if p.1 ≤ y.1 ∧ y.1 < p.1 + sz t p.1 then 1 else 0) + cn t (P ++ Q) p.1 := by
 rw [zhH,zwD,zhH]
 omega
theorem nd_f3 (t : List S56) (L : List PT) (p : PT) : (nd t L p).f3 = (cn t L p.1 : Int) := rfl
theorem zvC (t : List S56) (P Q : List PT) (y : PT) (hs : zeI (P ++ y :: Q)) (hp : ∀ p ∈ P,1 ≤ sz t p.1) (hl : (P ++ y :: Q).length ≤ 400000) :
  ∀ (E D : List PT) (k : Nat),P = D ++ E → E.length + 1 ≤ k →
   zbE k (nodes t (P ++ y :: Q)) (P.length : Int) (D.map (nd t (P ++ Q)) ++ E.map (nd t (P ++ y :: Q))) (D.length : Int) = some (nodes t (P ++ Q))
 | [],D,k,hP,hk => by
  obtain ⟨k,rfl⟩ : ∃ j,k = j + 1 := ⟨k - 1,by simp at hk;omega⟩
  obtain rfl : P = D := by rw [hP,List.append_nil]
  have hl2 : P.length + (Q.length + 1) ≤ 400000 := by simpa using hl
  have w : wrap64 ((P.length : Int) + 1) = ((P.length + 1 : Nat) : Int) := by rw [show (P.length : Int) + 1 = ((P.length + 1 : Nat) : Int) from by omega];exact zcF (by omega)
  rw [zbE]
  refine (if_neg (by omega)).trans ?_
  rw [w]
  refine (if_pos (by omega)).trans ?_
  refine (if_pos (by rw [zdH];simp;omega)).trans ?_
  refine (Option.bind_some _ _).trans ?_
  have hd : (nodes t (P ++ y :: Q)).drop ((P.length + 1 : Nat) : Int).toNat = Q.map (nd t (P ++ Q)) := by
   unfold nodes
   rw [Int.toNat_natCast,← List.map_drop,show P ++ y :: Q = (P ++ [y]) ++ Q from by simp,List.drop_left' (by simp)]
   refine List.map_congr_left fun q hq => ?_
   rw [show (P ++ [y]) ++ Q = P ++ y :: Q from by simp]
   unfold zeI at hs
   rw [List.pairwise_append,List.pairwise_cons] at hs
   have := hs.2.1.1 q hq
   unfold nd
   rw [ygY,if_neg (by omega),Nat.zero_add]
  rw [hd,List.map_nil,List.append_nil]
  refine (if_pos ?_).trans ?_
  ·rw [List.length_map,List.length_map]
   exact Nat.lt_of_le_of_lt (show P.length + Q.length ≤ 400000 by omega) (by decide)
  unfold nodes
  rw [List.map_append]
 | p :: E,D,k,hP,hk => by
  obtain ⟨k,rfl⟩ : ∃ j,k = j + 1 := ⟨k - 1,by simp at hk;omega⟩
  have hk' : E.length + 1 ≤ k := by simp at hk;omega
  have ih := zvC t P Q y hs hp hl E (D ++ [p]) k (by rw [hP];simp) hk'
  have hl2 : P.length + (Q.length + 1) ≤ 400000 := by simpa using hl
  have hDP : P.length = D.length + (E.length + 1) := by rw [hP];simp
  have hrd : zaA (nodes t (P ++ y :: Q)) (D.length : Int) = nd t (P ++ y :: Q) p := by
   unfold nodes
   conv => lhs;arg 1;arg 2;rw [hP]
   rw [List.append_assoc,List.cons_append,List.map_append,List.map_cons]
   have := zqX (A := D.map (nd t (P ++ y :: Q))) (x := nd t (P ++ y :: Q) p) (B := (E ++ y :: Q).map (nd t (P ++ y :: Q)))
   rw [List.length_map] at this
   exact this
  have hrd2 : zaA (D.map (nd t (P ++ Q)) ++ (p :: E).map (nd t (P ++ y :: Q))) (D.length : Int) = nd t (P ++ y :: Q) p := by
   rw [List.map_cons]
   have := zqX (A := D.map (nd t (P ++ Q))) (x := nd t (P ++ y :: Q) p) (B := E.map (nd t (P ++ y :: Q)))
   rw [List.length_map] at this
   exact this
  have hc := zyH t (P ++ y :: Q) p.1
  have w : ∀ _ : Unit,wrap64 ((D.length : Int) + (nd t (P ++ y :: Q) p).f3) = ((D.length + cn t (P ++ y :: Q) p.1 : Nat) : Int) := fun _ => by
   rw [nd_f3,show (D.length : Int) + (cn t (P ++ y :: Q) p.1 : Int) = ((D.length + cn t (P ++ y :: Q) p.1 : Nat) : Int) from by omega];exact zcF (by omega)
  have w2 : ∀ _ : Unit,wrap64 ((D.length : Int) + 1) = ((D ++ [p]).length : Int) := fun _ => by
   rw [show (D.length : Int) + 1 = ((D.length + 1 : Nat) : Int) from by omega,zcF (by omega)]
   simp
  rw [zbE]
  refine (if_pos (by omega)).trans ?_
  refine (if_pos (by omega)).trans ?_
  refine (if_pos (by rw [zdH];simp;omega)).trans ?_
  rw [hrd,hrd2,w (),w2 ()]
  have hidx : P.length < D.length + cn t (P ++ y :: Q) p.1 ↔ y.1 < p.1 + sz t p.1 := by
   have hsp : P ++ y :: Q = D ++ p :: (E ++ y :: Q) := by rw [hP];simp
   have := ygX t D E Q p y (by rw [← hsp];exact hs) (hp p (by rw [hP];simp))
   rw [← hsp] at this
   rw [← this]
   omega
  have hpy : p.1 ≤ y.1 := by
   unfold zeI at hs
   rw [List.pairwise_append] at hs
   exact Nat.le_of_lt (hs.2.2 p (by rw [hP];simp) y (by simp))
  have hg := ygY t P Q y p
  by_cases hin : y.1 < p.1 + sz t p.1
  ·refine (if_pos (by have := hidx.2 hin;omega)).trans ?_
   refine (if_pos (by simp;omega)).trans ?_
   rw [if_pos ⟨hpy,hin⟩] at hg
   have hG : (⟨(nd t (P ++ y :: Q) p).f0,(nd t (P ++ y :: Q) p).f1,(nd t (P ++ y :: Q) p).f2,wrap64 ((nd t (P ++ y :: Q) p).f3 - 1)⟩ : S56) = nd t (P ++ Q) p := by
    rw [nd_f3,hg,show ((1 + cn t (P ++ Q) p.1 : Nat) : Int) - 1 = (cn t (P ++ Q) p.1 : Int) from by omega,zcF (by have := zyH t (P ++ Q) p.1;rw [List.length_append] at this;omega)]
    rfl
   rw [hG,Int.toNat_natCast,List.map_cons,List.set_append_right _ _ (by simp),List.length_map,Nat.sub_self,List.set_cons_zero]
   rw [List.map_append,List.map_cons,List.map_nil,List.append_assoc] at ih
   exact ih
  refine (if_neg (by have := fun h => hin (hidx.1 h);omega)).trans ?_
  rw [if_neg (fun h => hin h.2),Nat.zero_add] at hg
  have hG : nd t (P ++ y :: Q) p = nd t (P ++ Q) p := by unfold nd;rw [hg]
  rw [List.map_cons,hG]
  rw [List.map_append,List.map_cons,List.map_nil,List.append_assoc] at ih
  exact ih
theorem zxM (t : List S56) (P Q : List PT) (y : PT) (hs : zeI (P ++ y :: Q)) (hp : ∀ p ∈ P,1 ≤ sz t p.1) (hl : (P ++ y :: Q).length ≤ 400000) (k : Nat) (hk : P.length + 1 ≤ k) :
  stylusref05_without.f k (nodes t (P ++ y :: Q)) (P.length : Int) = some (nodes t (P ++ Q)) := by
 have hl2 : P.length + (Q.length + 1) ≤ 400000 := by simpa using hl
 unfold stylusref05_without.f
 refine (Option.bind_some _ _).trans ?_
 refine (if_pos (by omega)).trans ?_
 refine (if_pos (by rw [zdH,List.length_append];omega)).trans ?_
 refine (Option.bind_some _ _).trans ?_
 have ht : (nodes t (P ++ y :: Q)).take (P.length : Int).toNat = P.map (nd t (P ++ y :: Q)) := by
  unfold nodes
  rw [Int.toNat_natCast,← List.map_take,List.take_left' rfl]
 rw [ht]
 refine (if_pos ?_).trans ?_
 ·rw [List.length_nil,List.length_map,Nat.zero_add]
  exact Nat.lt_of_le_of_lt (show P.length ≤ 400000 by omega) (by decide)
 exact zvC t P Q y hs hp hl P [] k rfl hk
def allP (t : List S56) (a n : Nat) : List PT := (List.range' a n).map fun i => (i,(zaA t i).f1)
theorem zlI (t : List S56) (a n : Nat) : allP t a (n + 1) = (a,(zaA t a).f1) :: allP t (a + 1) n := by
 unfold allP
 rw [List.range'_succ]
 rfl
theorem zmS : ∀ (n a : Nat),(List.range' a n).Pairwise (· < ·)
 | 0,a => List.Pairwise.nil
 | n + 1,a => by
  rw [List.range'_succ,List.pairwise_cons]
  exact ⟨fun b hb => by have := List.mem_range'_1.1 hb;omega,zmS n (a + 1)⟩
theorem ybL (t : List S56) (a n : Nat) : zeI (allP t a n) := by
 unfold zeI allP
 rw [List.pairwise_map]
 exact zmS n a
theorem zsG (t : List S56) (a n : Nat) : zeI (live t a n) := by
 unfold zeI live
 rw [List.pairwise_map]
 exact (zmS n a).filter _
theorem zpE {t : List S56} {a n : Nat} {p : PT} (h : p ∈ allP t a n) : a ≤ p.1 ∧ p.1 < a + n := by
 unfold allP at h
 obtain ⟨i,hi,rfl⟩ := List.mem_map.1 h
 exact List.mem_range'_1.1 hi
theorem yeD (t : List S56) (i d : Nat) : zeI (live t 0 i ++ allP t i d) := by
 unfold zeI
 rw [List.pairwise_append]
 exact ⟨zsG t 0 i,ybL t i d,fun a ha b hb => by have := zoT ha;have := zpE hb;omega⟩
theorem zmT (t : List S56) (a n : Nat) : (allP t a n).length = n := by simp [allP]
theorem yaA (t : List S56) (hN : Nst t) (hl : t.length ≤ 400000) (R : List S56 × Int) (K : Nat) (hR : ∀ k,K ≤ k → zaN k (nodes t (live t 0 t.length)) 1 = some R) :
  ∀ (d i k : Nat),i + d = t.length → K + t.length + d + 5 ≤ k → zcD k (nodes t (live t 0 i ++ allP t i d)) ((live t 0 i).length : Int) = some R
 | 0,i,k,hi,hk => by
  obtain ⟨k,rfl⟩ : ∃ j,k = j + 1 := ⟨k - 1,by omega⟩
  rw [zcD]
  refine (if_neg (by rw [zdH];simp [allP])).trans ?_
  obtain rfl : i = t.length := by omega
  have : allP t t.length 0 = [] := rfl
  rw [this,List.append_nil]
  exact hR k (by omega)
 | d + 1,i,k,hi,hk => by
  obtain ⟨k,rfl⟩ : ∃ j,k = j + 1 := ⟨k - 1,by omega⟩
  have hll := zmL t 0 i
  have hsz := hN.pos i (by omega)
  have hrd : zaA (nodes t (live t 0 i ++ allP t i (d + 1))) ((live t 0 i).length : Int) = nd t (live t 0 i ++ allP t i (d + 1)) (i,(zaA t i).f1) := by
   unfold nodes
   rw [zlI,List.map_append,List.map_cons]
   have := zqX (A := (live t 0 i).map (nd t (live t 0 i ++ (i,(zaA t i).f1) :: allP t (i + 1) d))) (x := nd t (live t 0 i ++ (i,(zaA t i).f1) :: allP t (i + 1) d) (i,(zaA t i).f1)) (B := (allP t (i + 1) d).map (nd t (live t 0 i ++ (i,(zaA t i).f1) :: allP t (i + 1) d)))
   rw [List.length_map] at this
   exact this
  have w1 : ∀ _ : Unit,wrap64 (((live t 0 i).length : Int) + 1) = (((live t 0 i).length + 1 : Nat) : Int) := fun _ => by
   rw [show ((live t 0 i).length : Int) + 1 = (((live t 0 i).length + 1 : Nat) : Int) from by omega];exact zcF (by omega)
  have w2 : ∀ _ : Unit,wrap64 (wrap64 (((live t 0 i).length : Int) - 1) + 1) = ((live t 0 i).length : Int) := fun _ => by
   rw [IntWalk.wrap64_in (((live t 0 i).length : Int) - 1) ⟨by omega,by omega⟩,show ((live t 0 i).length : Int) - 1 + 1 = ((live t 0 i).length : Int) from by omega];exact zcF (by omega)
  have hls : live t 0 (i + 1) = live t 0 i ++ (if zfF t i = true then [(i,(zaA t i).f1)] else []) := by
   rw [zyY t 0 i 1,Nat.zero_add,zwS,zwR,List.append_nil]
  have ih := yaA t hN hl R K hR d (i + 1) k (by omega) (by omega)
  have keep : zfF t i = true → zcD k (nodes t (live t 0 i ++ allP t i (d + 1))) (((live t 0 i).length + 1 : Nat) : Int) = some R := fun h => by
   rw [hls,if_pos h,List.append_assoc,List.singleton_append,← zlI,List.length_append,List.length_singleton] at ih
   exact ih
  rw [zcD]
  refine (if_pos (by rw [zdH,List.length_append,zmT];omega)).trans ?_
  refine (if_pos (by omega)).trans ?_
  rw [hrd,w1 ()]
  show (if (zaA t i).f0 = 46 then (if (zaA t i).f1.toList = ([] : List UInt8) then _ else _) else _) = _
  by_cases h46 : (zaA t i).f0 = 46
  ·refine (if_pos h46).trans ?_
   by_cases hem : (zaA t i).f1.size = 0
   ·refine (if_pos ((zkT _).2 hem)).trans ?_
    have hlv : zfF t i = false := by unfold zfF isT;simp [h46,hem]
    rw [zlI,zxM t (live t 0 i) (allP t (i + 1) d) (i,(zaA t i).f1) (by rw [← zlI];exact yeD t i (d + 1)) (fun p hp => by have := hN.pos p.1 (by have := zoT hp;omega);unfold sz;omega) (by rw [← zlI,List.length_append,zmT];omega) k (by omega)]
    refine (Option.bind_some _ _).trans ?_
    rw [w2 ()]
    rw [hls,hlv,if_neg (by decide),List.append_nil] at ih
    exact ih
   refine (if_neg (fun h => hem ((zkT _).1 h))).trans ?_
   exact keep (by unfold zfF;simp [hem])
  refine (if_neg h46).trans ?_
  exact keep (by unfold zfF isT;simp [h46])
def pl (L : List PT) (i : Nat) : Nat := (L.getD i (0,⟨#[]⟩)).1
def parI (t : List S56) (L : List PT) (j : Nat) : Nat → Int
 | 0 => -1
 | i + 1 => if pl L j < pl L i + sz t (pl L i) then (i : Int) else parI t L j i
theorem yaB (L : List PT) (i j : Nat) (hij : i < j) (hj : j < L.length) : ∃ A x B y C,L = A ++ x :: (B ++ y :: C) ∧ A.length = i ∧ A.length + B.length + 1 = j ∧ x.1 = pl L i ∧ y.1 = pl L j := by
 refine ⟨L.take i,L[i]'(by omega),(L.drop (i + 1)).take (j - i - 1),L[j],L.drop (j + 1),?_,by simp;omega,by simp;omega,?_,?_⟩
 ·have e1 : L = L.take i ++ L.drop i := (List.take_append_drop i L).symm
  have e2 : L.drop i = L[i]'(by omega) :: L.drop (i + 1) := List.drop_eq_getElem_cons (by omega)
  have e3 : L.drop (i + 1) = (L.drop (i + 1)).take (j - i - 1) ++ (L.drop (i + 1)).drop (j - i - 1) := (List.take_append_drop _ _).symm
  have e4 : (L.drop (i + 1)).drop (j - i - 1) = L.drop j := by rw [List.drop_drop];congr 1;omega
  have e5 : L.drop j = L[j] :: L.drop (j + 1) := List.drop_eq_getElem_cons hj
  rw [← e5,← e4,← e3,← e2,← e1]
 ·unfold pl
  rw [List.getD_eq_getElem?_getD,List.getElem?_eq_getElem (by omega)]
  rfl
 unfold pl
 rw [List.getD_eq_getElem?_getD,List.getElem?_eq_getElem hj]
 rfl
theorem zvD (L : List PT) (hs : zeI L) (i j : Nat) (hij : i < j) (hj : j < L.length) : pl L i < pl L j := by
 obtain ⟨A,x,B,y,C,rfl,h1,h2,h3,h4⟩ := yaB L i j hij hj
 rw [← h3,← h4]
 unfold zeI at hs
 rw [List.pairwise_append,List.pairwise_cons] at hs
 exact hs.2.1.1 y (by simp)
theorem yjN (t : List S56) (L : List PT) (i : Nat) (hi : i < L.length) : zaA (nodes t L) (i : Int) = nd t L (L.getD i (0,⟨#[]⟩)) := by
 unfold zaA nodes
 rw [Int.toNat_natCast,List.getD_eq_getElem?_getD,List.getElem?_map,List.getD_eq_getElem?_getD,List.getElem?_eq_getElem hi]
 rfl
theorem zxN (t : List S56) (L : List PT) (hs : zeI L) (hp : ∀ p ∈ L,1 ≤ sz t p.1) (hl : L.length ≤ 400000) (j : Nat) (hj : j < L.length) :
  ∀ (i k : Nat) (x5 : Int),i ≤ j → x5 = (i : Int) - 1 → i + 1 ≤ k → zcQ k (nodes t L) (j : Int) x5 = some (parI t L j i)
 | 0,k,x5,hi,hx,hk => by
  obtain ⟨k,rfl⟩ : ∃ j,k = j + 1 := ⟨k - 1,by omega⟩
  rw [zcQ]
  exact if_neg (by omega)
 | i + 1,k,x5,hi,hx,hk => by
  obtain ⟨k,rfl⟩ : ∃ j,k = j + 1 := ⟨k - 1,by omega⟩
  obtain rfl : x5 = (i : Int) := by omega
  have hc := zyH t L (pl L i)
  have w : ∀ _ : Unit,wrap64 ((i : Int) + (zaA (nodes t L) (i : Int)).f3) = ((i + cn t L (pl L i) : Nat) : Int) := fun _ => by
   rw [yjN t L i (by omega)]
   show wrap64 ((i : Int) + (cn t L (pl L i) : Int)) = _
   rw [show (i : Int) + (cn t L (pl L i) : Int) = ((i + cn t L (pl L i) : Nat) : Int) from by omega]
   exact zcF (by omega)
  have w2 : ∀ _ : Unit,wrap64 ((i : Int) - 1) = (i : Int) - 1 := fun _ => IntWalk.wrap64_in _ ⟨by omega,by omega⟩
  have hidx : j < i + cn t L (pl L i) ↔ pl L j < pl L i + sz t (pl L i) := by
   obtain ⟨A,x,B,y,C,hL,h1,h2,h3,h4⟩ := yaB L i j (by omega) hj
   have := ygX t A B C x y (by rw [← hL];exact hs) (hp x (by rw [hL];simp))
   rw [← hL,h3,h4] at this
   rw [← this]
   omega
  rw [zcQ,parI]
  refine (if_pos (by omega)).trans ?_
  refine (if_pos (by omega)).trans ?_
  refine (if_pos (by rw [zdH];omega)).trans ?_
  rw [w ()]
  by_cases h : pl L j < pl L i + sz t (pl L i)
  ·rw [if_pos h]
   exact if_pos (by have := hidx.2 h;omega)
  rw [if_neg h,w2 ()]
  refine (if_neg (by have := fun x => h (hidx.1 x);omega)).trans ?_
  exact zxN t L hs hp hl j hj i k _ (by omega) rfl (by omega)
theorem yaC (t : List S56) (L : List PT) (hs : zeI L) (hp : ∀ p ∈ L,1 ≤ sz t p.1) (hl : L.length ≤ 400000) (j : Nat) (hj : j < L.length) (k : Nat) (hk : j + 1 ≤ k) : stylusref05_parent.f k (nodes t L) (j : Int) = some (parI t L j j) := by
 unfold stylusref05_parent.f
 exact zxN t L hs hp hl j hj j k _ (Nat.le_refl _) (IntWalk.wrap64_in _ ⟨by omega,by omega⟩) hk
theorem zxO (t : List S56) (L : List PT) (j : Nat) : ∀ m : Nat,(parI t L j m = -1 ∧ ∀ i,i < m → ¬ pl L j < pl L i + sz t (pl L i)) ∨ (∃ i : Nat,i < m ∧ parI t L j m = i ∧ pl L j < pl L i + sz t (pl L i) ∧ ∀ i',i < i' → i' < m → ¬ pl L j < pl L i' + sz t (pl L i'))
 | 0 => .inl ⟨rfl,fun i hi => absurd hi (Nat.not_lt_zero i)⟩
 | m + 1 => by
  unfold parI
  by_cases h : pl L j < pl L m + sz t (pl L m)
  ·rw [if_pos h]
   exact .inr ⟨m,Nat.lt_succ_self m,rfl,h,fun i' h1 h2 => by omega⟩
  rw [if_neg h]
  rcases zxO t L j m with ⟨h1,h2⟩ | ⟨i,h1,h2,h3,h4⟩
  ·refine .inl ⟨h1,fun i hi => ?_⟩
   rcases Nat.lt_or_ge i m with e | e
   ·exact h2 i e
   obtain rfl : i = m := by omega
   exact h
  refine .inr ⟨i,by omega,h2,h3,fun i' h5 h6 => ?_⟩
  rcases Nat.lt_or_ge i' m with e | e
  ·exact h4 i' h5 e
  obtain rfl : i' = m := by omega
  exact h
def Full (t : List S56) (L : List PT) : Prop := ∀ r,r < t.length → isT t r = false → ∃ p ∈ L,p.1 = r
theorem yaD (t : List S56) (hN : Nst t) (L : List PT) (hs : zeI L) (hL : ∀ p ∈ L,p.1 < t.length) (hF : Full t L) (j : Nat) (hj : j < L.length) :
  (parI t L j j = -1 ∧ par t (pl L j) = -1) ∨ ∃ i : Nat,i < j ∧ parI t L j j = i ∧ par t (pl L j) = (pl L i : Int) := by
 have hjt : pl L j < t.length := by
  unfold pl
  rw [List.getD_eq_getElem?_getD,List.getElem?_eq_getElem hj]
  exact hL _ (List.getElem_mem hj)
 have hin : ∀ r,r < pl L j → pl L j < r + sz t r → ∃ i,i < j ∧ pl L i = r := fun r h1 h2 => by
  have hT : isT t r = false := by
   cases h : isT t r with
   | false => rfl
   | true =>
   have := hN.txt r (by omega) h
   unfold sz at h2
   omega
  obtain ⟨p,h8,h9⟩ := hF r (by omega) hT
  obtain ⟨i,h3,h7⟩ := List.getElem_of_mem h8
  have h4 : pl L i = r := by
   unfold pl
   rw [List.getD_eq_getElem?_getD,List.getElem?_eq_getElem h3,h7]
   exact h9
  refine ⟨i,?_,h4⟩
  rcases Nat.lt_or_ge i j with h5 | h5
  ·exact h5
  rcases Nat.eq_or_lt_of_le h5 with h6 | h6
  ·subst h6;omega
  have := zvD L hs j i h6 h3
  omega
 rcases zxO t L j j with ⟨h1,h2⟩ | ⟨i,h1,h2,h3,h4⟩
 ·refine .inl ⟨h1,?_⟩
  unfold par
  refine zpY t _ _ fun r hr h => ?_
  obtain ⟨i,h5,h6⟩ := hin r hr h
  exact h2 i h5 (by rw [h6];exact h)
 refine .inr ⟨i,h1,h2,?_⟩
 unfold par
 refine zvU t _ _ h3 _ (zvD L hs i j h1 hj) fun r h5 h6 h7 => ?_
 obtain ⟨i',h8,h9⟩ := hin r h6 h7
 refine h4 i' ?_ h8 (by rw [h9];exact h7)
 rcases Nat.lt_or_ge i i' with h10 | h10
 ·exact h10
 rcases Nat.eq_or_lt_of_le h10 with h11 | h11
 ·subst h11;omega
 have := zvD L hs i' i h11 (by omega)
 omega
theorem yjO (t : List S56) (hN : Nst t) (L : List PT) (hs : zeI L) (hL : ∀ p ∈ L,p.1 < t.length) (hF : Full t L) (i j : Nat) (hi : i < L.length) (hj : j < L.length) : parI t L i i = parI t L j j ↔ par t (pl L i) = par t (pl L j) := by
 have inj : ∀ a b : Nat,a < L.length → b < L.length → pl L a = pl L b → a = b := fun a b ha hb h => by
  rcases Nat.lt_trichotomy a b with e | e | e
  ·have := zvD L hs a b e hb;omega
  ·exact e
  have := zvD L hs b a e ha;omega
 rcases yaD t hN L hs hL hF i hi with ⟨h1,h2⟩ | ⟨a,h1,h2,h3⟩ <;> rcases yaD t hN L hs hL hF j hj with ⟨h4,h5⟩ | ⟨b,h4,h5,h6⟩
 ·rw [h1,h2,h4,h5]
 ·rw [h1,h2,h5,h6]
  constructor <;> intro h <;> omega
 ·rw [h2,h3,h4,h5]
  constructor <;> intro h <;> omega
 rw [h2,h3,h5,h6]
 constructor
 ·intro h
  have : a = b := by omega
  rw [this]
 intro h
 have := inj a b (by omega) (by omega) (by omega)
 omega
theorem ygZ {D E : List PT} {p : PT} : pl (D ++ p :: E) D.length = p.1 := by
 unfold pl
 rw [List.getD_eq_getElem?_getD,List.getElem?_append_right (Nat.le_refl _),Nat.sub_self]
 rfl
theorem l1_no (k : Nat) (x5 : List S56) (m : Nat) (h0 : 1 ≤ m) (hm : m < x5.length) (ha : (zaA x5 (m : Int)).f0 ≠ 46 ∨ (zaA x5 ((m - 1 : Nat) : Int)).f0 ≠ 46) (w1 : wrap64 ((m : Int) + 1) = ((m + 1 : Nat) : Int)) (w2 : wrap64 ((m : Int) - 1) = ((m - 1 : Nat) : Int)) :
  zaN (k + 1) x5 m = zaN k x5 ((m + 1 : Nat) : Int) := by
 rw [zaN]
 refine (if_pos (by omega)).trans ?_
 refine (if_pos (by omega)).trans ?_
 rw [w1,w2]
 by_cases h : (zaA x5 (m : Int)).f0 = 46
 ·refine (if_pos h).trans ?_
  refine (if_pos (by omega)).trans ?_
  refine (if_pos (by omega)).trans ?_
  exact if_neg (ha.elim (fun h1 => absurd h h1) fun h1 => h1)
 exact if_neg h
theorem yjP (k : Nat) (x5 : List S56) (m : Nat) (h0 : 1 ≤ m) (hm : m < x5.length) (ha : (zaA x5 (m : Int)).f0 = 46) (hb : (zaA x5 ((m - 1 : Nat) : Int)).f0 = 46) (u v : Int) (hu : stylusref05_parent.f k x5 m = some u) (hv : stylusref05_parent.f k x5 ((m - 1 : Nat) : Int) = some v) (huv : u ≠ v) (w1 : wrap64 ((m : Int) + 1) = ((m + 1 : Nat) : Int)) (w2 : wrap64 ((m : Int) - 1) = ((m - 1 : Nat) : Int)) :
  zaN (k + 1) x5 m = zaN k x5 ((m + 1 : Nat) : Int) := by
 rw [zaN]
 refine (if_pos (by omega)).trans ?_
 refine (if_pos (by omega)).trans ?_
 rw [w1,w2]
 refine (if_pos ha).trans ?_
 refine (if_pos (by omega)).trans ?_
 refine (if_pos (by omega)).trans ?_
 refine (if_pos hb).trans ?_
 rw [hu,hv]
 refine (Option.bind_some _ _).trans ?_
 refine (Option.bind_some _ _).trans ?_
 exact if_neg huv
theorem l1_join (k : Nat) (x5 y : List S56) (m : Nat) (h0 : 1 ≤ m) (hm : m < x5.length) (a b : S56) (hra : zaA x5 (m : Int) = a) (hrb : zaA x5 ((m - 1 : Nat) : Int) = b) (ha : a.f0 = 46) (hb : b.f0 = 46) (u : Int) (hu : stylusref05_parent.f k x5 m = some u) (hv : stylusref05_parent.f k x5 ((m - 1 : Nat) : Int) = some u) (hs : ∀ _ : Unit,b.f1.size + a.f1.size ≤ 9223372036854775807)
  (hw : stylusref05_without.f k (x5.set (m - 1) ⟨b.f0,b.f1 ++ a.f1,b.f2,b.f3⟩) (m : Int) = some y) (w2 : wrap64 ((m : Int) - 1) = ((m - 1 : Nat) : Int)) (w3 : wrap64 (((m - 1 : Nat) : Int) + 1) = (m : Int)) :
  zaN (k + 1) x5 m = zaN k y (m : Int) := by
 rw [zaN]
 refine (if_pos (by omega)).trans ?_
 refine (if_pos (by omega)).trans ?_
 rw [w2,hra,hrb,w3,Int.toNat_natCast]
 refine (if_pos ha).trans ?_
 refine (if_pos (by omega)).trans ?_
 refine (if_pos (by omega)).trans ?_
 refine (if_pos hb).trans ?_
 rw [hu,hv]
 refine (Option.bind_some _ _).trans ?_
 refine (Option.bind_some _ _).trans ?_
 refine (if_pos rfl).trans ?_
 refine (if_pos (hs ())).trans ?_
 rw [hw]
 exact Option.bind_some _ _
theorem zmG (t : List S56) (L : List PT) (p : PT) : (nd t L p).f0 = 46 ↔ isT t p.1 = true := by
 show (zaA t p.1).f0 = 46 ↔ _
 unfold isT
 exact beq_iff_eq.symm
theorem zqY (t : List S56) (hN : Nst t) (hl : t.length ≤ 400000) : ∀ (Q P : List PT) (c k : Nat),P ≠ [] → zeI (P ++ Q) → (∀ p ∈ P ++ Q,p.1 < t.length) → Full t (P ++ Q) → (P ++ Q).length ≤ t.length →
   (∀ p ∈ P,p.2.size ≤ 1000000 * c) → (∀ p ∈ Q,p.2.size ≤ 1000000) → c + Q.length ≤ 400000 → Q.length + t.length + 5 ≤ k → zaN k (nodes t (P ++ Q)) (P.length : Int) = some (nodes t (Q.foldl (push t) P),0)
 | [],P,c,k,hP,hs,hm,hF,hln,hz,hq,hc,hk => by
  obtain ⟨k,rfl⟩ : ∃ j,k = j + 1 := ⟨k - 1,by omega⟩
  rw [zaN,List.append_nil]
  exact if_neg (by rw [zdH];omega)
 | x :: Q,P,c,k,hP,hs,hm,hF,hln,hz,hq,hc,hk => by
  rw [List.length_cons] at hc hk
  obtain ⟨k,rfl⟩ : ∃ j,k = j + 1 := ⟨k - 1,by omega⟩
  obtain ⟨D,p,rfl⟩ : ∃ D p,P = D ++ [p] := ⟨P.dropLast,P.getLast hP,(List.dropLast_concat_getLast hP).symm⟩
  have hln2 : (D ++ [p] ++ x :: Q).length = D.length + 1 + (Q.length + 1) := by
   simp
   omega
  have hlen : (D ++ [p]).length = D.length + 1 := by simp
  have hpos : ∀ q ∈ D ++ [p] ++ x :: Q,1 ≤ sz t q.1 := fun q hq => by have := hN.pos q.1 (hm q hq);unfold sz;omega
  have e1 : D ++ [p] ++ x :: Q = D ++ p :: x :: Q := by simp
  have hra : zaA (nodes t (D ++ [p] ++ x :: Q)) ((D.length + 1 : Nat) : Int) = nd t (D ++ [p] ++ x :: Q) x := by
   unfold nodes
   rw [List.map_append,List.map_cons]
   have := zqX (A := (D ++ [p]).map (nd t (D ++ [p] ++ x :: Q))) (x := nd t (D ++ [p] ++ x :: Q) x) (B := Q.map (nd t (D ++ [p] ++ x :: Q)))
   rw [List.length_map,hlen] at this
   exact this
  have hrb : zaA (nodes t (D ++ [p] ++ x :: Q)) ((D.length + 1 - 1 : Nat) : Int) = nd t (D ++ [p] ++ x :: Q) p := by
   unfold nodes
   conv => lhs;arg 1;arg 2;rw [e1]
   rw [List.map_append,List.map_cons]
   have := zqX (A := D.map (nd t (D ++ [p] ++ x :: Q))) (x := nd t (D ++ [p] ++ x :: Q) p) (B := (x :: Q).map (nd t (D ++ [p] ++ x :: Q)))
   rw [List.length_map] at this
   exact this
  have w1 : ∀ _ : Unit,wrap64 (((D.length + 1 : Nat) : Int) + 1) = ((D.length + 1 + 1 : Nat) : Int) := fun _ => by
   rw [show ((D.length + 1 : Nat) : Int) + 1 = ((D.length + 1 + 1 : Nat) : Int) from by omega];exact zcF (by omega)
  have w2 : ∀ _ : Unit,wrap64 (((D.length + 1 : Nat) : Int) - 1) = ((D.length + 1 - 1 : Nat) : Int) := fun _ => by
   rw [show ((D.length + 1 : Nat) : Int) - 1 = ((D.length + 1 - 1 : Nat) : Int) from by omega];exact zcF (by omega)
  have w3 : ∀ _ : Unit,wrap64 (((D.length + 1 - 1 : Nat) : Int) + 1) = ((D.length + 1 : Nat) : Int) := fun _ => by
   rw [show ((D.length + 1 - 1 : Nat) : Int) + 1 = ((D.length + 1 : Nat) : Int) from by omega];exact zcF (by omega)
  have keep : push t (D ++ [p]) x = D ++ [p] ++ [x] → zaN k (nodes t (D ++ [p] ++ x :: Q)) ((D.length + 1 + 1 : Nat) : Int) = some (nodes t ((x :: Q).foldl (push t) (D ++ [p])),0) := fun h => by
   rw [List.foldl_cons,h]
   have := zqY t hN hl Q (D ++ [p] ++ [x]) (c + 1) k (by simp) (by simpa using hs) (fun q hq' => hm q (by simpa using hq')) (by simpa using hF) (by simpa using hln) (fun q hq' => by
    rcases List.mem_append.1 hq' with h1 | h1
    ·have := hz q h1;omega
    obtain rfl := List.mem_singleton.1 h1
    have := hq q List.mem_cons_self;omega) (fun q h1 => hq q (List.mem_cons_of_mem _ h1)) (by omega) (by omega)
   rw [show (D ++ [p] ++ [x]).length = D.length + 1 + 1 from by simp,show D ++ [p] ++ [x] ++ Q = D ++ [p] ++ x :: Q from by simp] at this
   exact this
  have hgl : (D ++ [p]).getLast? = some p := by simp
  have hpush : ¬ (isT t p.1 = true ∧ isT t x.1 = true ∧ par t p.1 = par t x.1) → push t (D ++ [p]) x = D ++ [p] ++ [x] := fun h => by
   unfold push
   rw [hgl]
   exact if_neg h
  rw [hlen]
  by_cases hT : isT t p.1 = true ∧ isT t x.1 = true
  ·have hxm : pl (D ++ [p] ++ x :: Q) (D.length + 1) = x.1 := by
    have := ygZ (D := D ++ [p]) (E := Q) (p := x)
    rw [hlen] at this
    exact this
   have hpm : pl (D ++ [p] ++ x :: Q) (D.length + 1 - 1) = p.1 := by
    rw [e1]
    exact ygZ
   have hps := yjO t hN (D ++ [p] ++ x :: Q) hs hm hF (D.length + 1) (D.length + 1 - 1) (by omega) (by omega)
   rw [hxm,hpm] at hps
   have hu := yaC t (D ++ [p] ++ x :: Q) hs hpos (by omega) (D.length + 1) (by omega) k (by omega)
   have hv := yaC t (D ++ [p] ++ x :: Q) hs hpos (by omega) (D.length + 1 - 1) (by omega) k (by omega)
   by_cases hpar : par t p.1 = par t x.1
   ·rw [hps.2 hpar.symm] at hu
    have hset := zwU t D (x :: Q) p (p.2 ++ x.2)
    rw [hlen] at hset
    have hlen2 : (D ++ [(p.1,p.2 ++ x.2)]).length = D.length + 1 := by simp
    have hs' : zeI (D ++ [(p.1,p.2 ++ x.2)] ++ x :: Q) := by
     unfold zeI at hs ⊢
     simp only [List.pairwise_append,List.pairwise_cons,List.mem_append,List.mem_cons,List.mem_singleton,List.not_mem_nil] at hs ⊢
     refine ⟨⟨hs.1.1,⟨fun a h => h.elim,List.Pairwise.nil⟩,fun a ha b hb => ?_⟩,hs.2.1,fun a ha b hb => ?_⟩
     ·rcases hb with rfl | hb
      ·exact hs.1.2.2 a ha p (Or.inl rfl)
      exact hb.elim
     rcases ha with ha | rfl | ha
     ·exact hs.2.2 a (Or.inl ha) b hb
     ·exact hs.2.2 p (Or.inr (Or.inl rfl)) b hb
     exact ha.elim
    have hwo := zxM t (D ++ [(p.1,p.2 ++ x.2)]) Q x hs' (fun q hq => by
     rcases List.mem_append.1 hq with h1 | h1
     ·exact hpos q (by simp [h1])
     obtain rfl := List.mem_singleton.1 h1
     exact hpos p (by simp)) (by simp;omega) k (by omega)
    rw [hlen2,← hset] at hwo
    have hpz := hz p (by simp)
    have hxz := hq x List.mem_cons_self
    rw [l1_join k (nodes t (D ++ [p] ++ x :: Q)) (nodes t (D ++ [(p.1,p.2 ++ x.2)] ++ Q)) (D.length + 1) (by omega) (by rw [zdH];omega) _ _ hra hrb ((zmG t _ x).2 hT.2) ((zmG t _ p).2 hT.1) _ hu hv (fun _ => by
     show p.2.size + x.2.size ≤ _
     exact Nat.le_trans (Nat.add_le_add hpz hxz) (Nat.le_trans (m := 400001000000) (by omega) (by decide))) hwo (w2 ()) (w3 ())]
    have hpu : push t (D ++ [p]) x = D ++ [(p.1,p.2 ++ x.2)] := by
     unfold push
     rw [hgl]
     simp only
     rw [if_pos ⟨hT.1,hT.2,hpar⟩,List.dropLast_concat]
    have := zqY t hN hl Q (D ++ [(p.1,p.2 ++ x.2)]) (c + 1) k (by simp) (by
      unfold zeI at hs' ⊢
      rw [List.pairwise_append,List.pairwise_cons] at hs'
      rw [List.pairwise_append]
      exact ⟨hs'.1,hs'.2.1.2,fun a ha b hb => hs'.2.2 a ha b (List.mem_cons_of_mem _ hb)⟩) (fun q hq' => by
      simp only [List.mem_append,List.mem_cons,List.not_mem_nil,or_false] at hq' hm
      rcases hq' with (h1 | rfl) | h1
      ·exact hm q (Or.inl (Or.inl h1))
      ·exact hm p (Or.inl (Or.inr rfl))
      ·exact hm q (Or.inr (Or.inr h1))) (fun r hr hTr => by
      obtain ⟨q,h1,h2⟩ := hF r hr hTr
      simp only [List.mem_append,List.mem_cons,List.not_mem_nil,or_false] at h1 ⊢
      rcases h1 with (h1 | rfl) | rfl | h1
      ·exact ⟨q,Or.inl (Or.inl h1),h2⟩
      ·exact ⟨_,Or.inl (Or.inr rfl),h2⟩
      ·rw [h2,hTr] at hT;cases hT.2
      ·exact ⟨q,Or.inr h1,h2⟩) (by simp at hln ⊢;omega) (fun q hq' => by
      rcases List.mem_append.1 hq' with h1 | h1
      ·have := hz q (List.mem_append_left _ h1);omega
      obtain rfl := List.mem_singleton.1 h1
      show (p.2 ++ x.2).size ≤ _
      rw [ByteArray.size_append]
      omega) (fun q h1 => hq q (List.mem_cons_of_mem _ h1)) (by omega) (by omega)
    rw [List.foldl_cons,hpu]
    rw [hlen2] at this
    exact this
   rw [yjP k (nodes t (D ++ [p] ++ x :: Q)) (D.length + 1) (by omega) (by rw [zdH];omega) (by rw [hra];exact (zmG t _ x).2 hT.2) (by rw [hrb];exact (zmG t _ p).2 hT.1) _ _ hu hv (fun h => hpar (hps.1 h).symm) (w1 ()) (w2 ())]
   exact keep (hpush fun h => hpar h.2.2)
  rw [l1_no k (nodes t (D ++ [p] ++ x :: Q)) (D.length + 1) (by omega) (by rw [zdH];omega) (by
   rw [hra,hrb,Ne,Ne,zmG,zmG]
   by_cases h : isT t x.1 = true
   ·exact Or.inr fun h2 => hT ⟨h2,h⟩
   exact Or.inl h) (w1 ()) (w2 ())]
  exact keep (hpush fun h => hT ⟨h.1,h.2.1⟩)
theorem yaE (t : List S56) (a m n : Nat) : allP t a (m + n) = allP t a m ++ allP t (a + m) n := by
 unfold allP
 rw [← List.map_append]
 congr 1
 rw [show a + m = a + 1 * m from by omega,List.range'_append]
theorem cn_allP (t : List S56) (hN : Nst t) (i : Nat) (hi : i < t.length) : cn t (allP t 0 t.length) i = sz t i := by
 have hlim := hN.lim i hi
 rw [show t.length = i + (sz t i + (t.length - (i + sz t i))) from by omega,yaE,yaE,zhH,zhH,Nat.zero_add,
  ziK t (allP t 0 i) i (fun p hp => by have := zpE hp;omega),zuB t (allP t i (sz t i)) i (fun p hp => by have := zpE hp;omega),ziK t (allP t (i + sz t i) _) i (fun p hp => by have := zpE hp;omega),zmT]
 omega
theorem yhA (t : List S56) (hN : Nst t) : nodes t (allP t 0 t.length) = t := by
 refine List.ext_getElem (by rw [zdH,zmT]) fun i h1 h2 => ?_
 have hp := hN.pos i h2
 have hr : zaA t (i : Int) = t[i] := by unfold zaA;rw [Int.toNat_natCast,List.getD_eq_getElem?_getD,List.getElem?_eq_getElem h2];rfl
 have e : (allP t 0 t.length)[i]'(by rw [zmT];exact h2) = (i,(zaA t i).f1) := by simp [allP]
 refine (List.getElem_map (nd t (allP t 0 t.length)) (l := allP t 0 t.length) (h := h1)).trans ?_
 rw [e]
 unfold nd
 rw [cn_allP t hN i h2]
 unfold sz
 rw [show (((zaA t (i : Int)).f3.toNat : Nat) : Int) = (zaA t (i : Int)).f3 from by omega,hr]
theorem yhB (t : List S56) (hN : Nst t) (hl : t.length ≤ 400000) (hM : ∀ i,i < t.length → (zaA t i).f1.size ≤ 1000000) (k : Nat) (hk : 4 * t.length + 20 ≤ k) : zcD k t 0 = some (nodes t (pk t 0 t.length),0) := by
 have hlm : ∀ p ∈ live t 0 t.length,p.1 < t.length := fun p hp => by have := zoT hp;omega
 have hlen := zmL t 0 t.length
 have hsz : ∀ p ∈ live t 0 t.length,p.2.size ≤ 1000000 := fun p hp => by
  unfold live at hp
  obtain ⟨i,hi,rfl⟩ := List.mem_map.1 hp
  exact hM i (by have := List.mem_range'_1.1 (List.mem_filter.1 hi).1;omega)
 have hF : Full t (live t 0 t.length) := fun r hr hT => by
  refine ⟨(r,(zaA t r).f1),?_,rfl⟩
  unfold live
  refine List.mem_map.2 ⟨r,List.mem_filter.2 ⟨List.mem_range'_1.2 ⟨Nat.zero_le _,by omega⟩,?_⟩,rfl⟩
  unfold zfF
  simp [hT]
 have h1 : ∀ k,2 * t.length + 10 ≤ k → zaN k (nodes t (live t 0 t.length)) 1 = some (nodes t (pk t 0 t.length),0) := fun k hk => by
  unfold pk
  rw [Nat.sub_zero]
  have hs := zsG t 0 t.length
  generalize live t 0 t.length = L at hlm hlen hsz hF hs ⊢
  cases L with
  | nil =>
   obtain ⟨k,rfl⟩ : ∃ j,k = j + 1 := ⟨k - 1,by omega⟩
   rw [zaN]
   exact if_neg (by simp [nodes])
  | cons x Q =>
  rw [List.length_cons] at hlen
  exact zqY t hN hl Q [x] 1 k (by simp) hs hlm hF (by simpa using hlen) (fun p hp => by obtain rfl := List.mem_singleton.1 hp;have := hsz p List.mem_cons_self;omega) (fun p hp => hsz p (List.mem_cons_of_mem _ hp)) (by omega) (by omega)
 have h2 := yaA t hN hl _ (2 * t.length + 10) h1 t.length 0 k (by omega) (by omega)
 rw [zwR,List.nil_append,yhA t hN] at h2
 exact h2
def nodesB (l : List S56) : Bool := decide (l.length ≤ 400000) && l.all fun x => decide (x.f1.size ≤ 1000000) && (decide (0 ≤ x.f0) && decide (x.f0 ≤ 255))
theorem zvE (l : List S56) : nodesB l = true ↔ l.length ≤ 400000 ∧ zmE l := by
 unfold nodesB zmE
 simp only [Bool.and_eq_true,decide_eq_true_eq,List.all_eq_true]
def tree_Check.f (l0 : List S56) : Option Int := if nodesB l0 = true then some (zfE l0) else none
theorem tree_Check.calls (A0 : Option Addr) (c0 : Nat) (l0 : List S56) (r : Int) (w : World) (hr0 : Kd.C k56 w A0 l0.length l0) (hc0 : l0.length ≤ c0) (h : tree_Check.f l0 = some r) :
  Calls Try.prog 57 #[.slice A0 l0.length c0] w fun e w' => e = .returned (.int .i64 r) ∧ Below w.heap.size w w' := by
 unfold tree_Check.f at h
 by_cases hs : nodesB l0 = true
 ·rw [if_pos hs] at h
  obtain rfl := Option.some.inj h
  obtain ⟨h1,h2⟩ := (zvE l0).mp hs
  exact yaZ A0 c0 l0 w h1 h2 hr0 hc0
 rw [if_neg hs] at h
 cases h
def tree_Same.f (l0 l1 : List S56) : Option Bool := if l0.length ≤ 140737488351232 ∧ l1.length ≤ 140737488351232 then some (zfY l0 l1) else none
theorem tree_Same.calls (A0 : Option Addr) (c0 : Nat) (l0 : List S56) (A1 : Option Addr) (c1 : Nat) (l1 : List S56) (r : Bool) (w : World) (hr0 : Kd.C k56 w A0 l0.length l0) (hc0 : l0.length ≤ c0)
  (hr1 : Kd.C k56 w A1 l1.length l1) (hc1 : l1.length ≤ c1) (h : tree_Same.f l0 l1 = some r) :
  Calls Try.prog 56 #[.slice A0 l0.length c0,.slice A1 l1.length c1] w fun e w' => e = .returned (.bool r) ∧ Below w.heap.size w w' := by
 unfold tree_Same.f at h
 by_cases hs : l0.length ≤ 140737488351232 ∧ l1.length ≤ 140737488351232
 ·rw [if_pos hs] at h
  obtain rfl := Option.some.inj h
  exact ydP A0 A1 c0 c1 l0 l1 w hs.1 hs.2 hr0 hr1
 rw [if_neg hs] at h
 cases h
end Go.Proofs.Ythcmfjpheanphaa.Pr
namespace Go.Proofs.Ythcmfjpheanphaa.Pr
open Go.RowKit Go.Proofs.YthcmfjpheanphaaW.PrintWords Go.Proofs.YthcmfjpheanphaaW.PrintLast Go.Proofs.YthcmfjpheanphaaW.PrintMore
attribute [local go_sem] zaX zaY zbG zbI zaV zaW zaZ zbA
def norm_Of.f (k : Nat) (l0 : List (S56)) : Option ((List (S56)) × Int) := (tree_Check.f l0).bind fun t207 => (if t207 = 0 then ((norm_squeezed.f k l0).bind fun t208 => ((norm_packed.f k t208 0 (l0.length : Int)).bind fun t211 => (some (t211,0)))) else (some (([] : List (S56)),t207)))
theorem norm_Of.calls (k : Nat) (A0 : Option Addr) (c0 : Nat) (l0 : List (S56)) (r1 : List (S56)) (r2 : Int) (w : World) (hr0 : Kd.C k56 w A0 l0.length l0) (hc0 : l0.length ≤ c0) (h : norm_Of.f k l0 = some (r1,r2)) :
  Calls Try.prog 64 #[.slice A0 l0.length c0] w fun e w' => ∃ v0_ : Value,e = .returned (.tuple #[v0_,.int .i64 r2]) ∧ Kd.R k56 56 w' w.heap.size (fun _ => True) v0_ r1 ∧ Below w.heap.size w w' := by
 have HR0 := Aside0.mk hr0
 have HC0 := Aside0.mk hc0
 clear hr0 hc0
 have HB := Aside0.mk (Below.refl w.heap.size w)
 have H : ((tree_Check.f l0).bind fun t207 => (if t207 = 0 then ((norm_squeezed.f k l0).bind fun t208 => ((norm_packed.f k t208 0 (l0.length : Int)).bind fun t211 => (some (t211,0)))) else (some (([] : List (S56)),t207)))) = some (r1,r2) := h
 clear h
 obtain ⟨t207,A2,H⟩ := bdA H
 replace H : (if t207 = 0 then ((norm_squeezed.f k l0).bind fun t208 => ((norm_packed.f k t208 0 (l0.length : Int)).bind fun t211 => (some (t211,0)))) else (some (([] : List (S56)),t207))) = some (r1,r2) := H
 obtain ⟨c3b0,c3b1,H⟩ | ⟨c3b0,c3b1,H⟩ := spE H
 rotate_left
 ·simp only [Option.some.injEq,Prod.mk.injEq] at H
  obtain ⟨rfl,rfl⟩ := H
  go_enter Try.func64,Try.ntmps64
  go_wp2_with (first | ((with_reducible refine zaE (f := 57) rfl ?_);refine zaL (some 6) rfl rfl Try.func57 (by kernel_rfl) rfl #[.slice A0 l0.length c0] rfl qM ?_;(with_reducible refine (tree_Check.calls _ _ l0 t207 _ ?side1 ?side2 A2.out).mono ?_);(case side1 => exact qC HR0.out);(case side2 => exact HC0.out);rintro e w10 ⟨rfl,hb⟩;refine ⟨_,rfl,?_⟩;have := a1 (zaD qB hb);clear HB;have HB := this;clear this;(try clear hb);(try clear hb2);(try clear hk);(try clear hi)))
  go_ret2
  exact ⟨_,qE,qN,qB⟩
 obtain ⟨t208,A4,H⟩ := bdA H
 replace H : ((norm_packed.f k t208 0 (l0.length : Int)).bind fun t211 => (some (t211,0))) = some (r1,r2) := H
 obtain ⟨t211,A5,H⟩ := bdA H
 replace H : (some (t211,0)) = some (r1,r2) := H
 simp only [Option.some.injEq,Prod.mk.injEq] at H
 obtain ⟨rfl,rfl⟩ := H
 go_enter Try.func64,Try.ntmps64
 go_wp2_with (first | ((with_reducible refine zaE (f := 57) rfl ?_);refine zaL (some 6) rfl rfl Try.func57 (by kernel_rfl) rfl #[.slice A0 l0.length c0] rfl qM ?_;(with_reducible refine (tree_Check.calls _ _ l0 t207 _ ?side1 ?side2 A2.out).mono ?_);(case side1 => exact qC HR0.out);(case side2 => exact HC0.out);rintro e w6 ⟨rfl,hb⟩;refine ⟨_,rfl,?_⟩;have := a1 (zaD qB hb);clear HB;have HB := this;clear this;(try clear hb);(try clear hb2);(try clear hk);(try clear hi)) | ((with_reducible refine zaE (f := 111) rfl ?_);refine zaL (some 11) rfl rfl Try.func111 (by kernel_rfl) rfl #[.slice A0 l0.length c0] rfl qM ?_;(with_reducible refine (norm_squeezed.calls k _ _ l0 t208 _ ?side1 ?side2 A4.out).mono ?_);(case side1 => exact qC ((Kd.C_below HR0.out HB.out)));(case side2 => exact HC0.out);rintro e w7 ⟨v209,rfl,ho0,hb⟩;refine ⟨_,rfl,?_⟩;obtain ⟨_,_⟩ := a2 (Kd.R_lower ho0 (zaF qB)) (zaD qB hb);clear HB;rename_i HO210 HB;(try clear hb);(try clear hb2);(try clear hk);(try clear hi);(try clear ho0);obtain ⟨Ao8,co8,eo8⟩ := Kd.R_slice HO210.out;subst eo8) | ((with_reducible refine zaE (f := 110) rfl ?_);refine zaL (some 14) rfl rfl Try.func110 (by kernel_rfl) rfl #[.slice Ao8 t208.length co8,.int .i64 0,.int .i64 (l0.length : Int)] rfl qM ?_;(with_reducible refine (norm_packed.calls k _ _ t208 0 (l0.length : Int) t211 _ ?side1 ?side2 A5.out).mono ?_);(case side1 => exact qC ((Kd.R_reads' HO210.out).2.2));(case side2 => exact (Kd.R_reads' HO210.out).2.1);rintro e w9 ⟨v212,rfl,ho0,hb⟩;refine ⟨_,rfl,?_⟩;obtain ⟨_,_,_⟩ := a3 (Kd.R_elder' (qR HO210) (Kd.R_base ho0) hb) (Kd.R_lower (Kd.R_new' ho0 (Kd.R_lt (qR HO210))) (zaF qB)) (zaD qB hb);clear HO210 HB;rename_i HO210 HO213 HB;(try clear hb);(try clear hb2);(try clear hk);(try clear hi);(try clear ho0)))
 go_ret2
 exact ⟨_,qE,qRb HO213,qB⟩
def norm_Is.f (k : Nat) (l0 : List (S56)) : Option (Bool) := (norm_Of.f k l0).bind fun bt214 => (if bt214.2 = 0 then ((tree_Same.f l0 bt214.1).bind fun t218 => (some t218)) else (some false))
theorem norm_Is.calls (k : Nat) (A0 : Option Addr) (c0 : Nat) (l0 : List (S56)) (r : Bool) (w : World) (hr0 : Kd.C k56 w A0 l0.length l0) (hc0 : l0.length ≤ c0) (h : norm_Is.f k l0 = some r) :
  Calls Try.prog 66 #[.slice A0 l0.length c0] w fun e w' => e = .returned (.bool r) ∧ Below w.heap.size w w' := by
 have HR0 := Aside0.mk hr0
 have HC0 := Aside0.mk hc0
 clear hr0 hc0
 have HB := Aside0.mk (Below.refl w.heap.size w)
 have H : ((norm_Of.f k l0).bind fun bt214 => (if bt214.2 = 0 then ((tree_Same.f l0 bt214.1).bind fun t218 => (some t218)) else (some false))) = some r := h
 clear h
 obtain ⟨⟨t214,t215⟩,A2,H⟩ := bdA H
 replace H : (if t215 = 0 then ((tree_Same.f l0 t214).bind fun t218 => (some t218)) else (some false)) = some r := H
 obtain ⟨c3b0,c3b1,H⟩ | ⟨c3b0,c3b1,H⟩ := spE H
 ·obtain ⟨t218,A4,H⟩ := bdA H
  replace H : (some t218) = some r := H
  obtain rfl := Option.some.inj H
  go_enter Try.func66,Try.ntmps66
  go_wp2_with (first | ((with_reducible refine zaE (f := 64) rfl ?_);refine zaL (some 7) rfl rfl Try.func64 (by kernel_rfl) rfl #[.slice A0 l0.length c0] rfl qM ?_;(with_reducible refine (norm_Of.calls k _ _ l0 t214 t215 _ ?side1 ?side2 A2.out).mono ?_);(case side1 => exact qC HR0.out);(case side2 => exact HC0.out);rintro e w5 ⟨v216,rfl,ho0,hb⟩;refine ⟨_,rfl,?_⟩;obtain ⟨_,_⟩ := a2 (Kd.R_lower ho0 (zaF qB)) (zaD qB hb);clear HB;rename_i HO217 HB;(try clear hb);(try clear hb2);(try clear hk);(try clear hi);(try clear ho0);obtain ⟨Ao6,co6,eo6⟩ := Kd.R_slice HO217.out;subst eo6) | (go_at_call 56;(with_reducible refine (tree_Same.calls _ _ l0 _ _ t214 t218 _ ?side1 ?side2 ?side3 ?side4 A4.out).mono ?_);(case side1 => exact qC ((Kd.C_below HR0.out HB.out)));(case side2 => exact HC0.out);(case side3 => exact qC ((Kd.R_reads' HO217.out).2.2));(case side4 => exact (Kd.R_reads' HO217.out).2.1);rintro e w7 ⟨rfl,hb⟩;obtain ⟨_,_⟩ := a2 (Kd.R_below (qR HO217) hb) (zaD qB hb);clear HO217 HB;rename_i HO217 HB;(try clear hb);(try clear hb2);(try clear hk);(try clear hi)))
  go_ret
  exact ⟨qE,qB⟩
 obtain rfl := Option.some.inj H
 go_enter Try.func66,Try.ntmps66
 go_wp2_with (first | ((with_reducible refine zaE (f := 64) rfl ?_);refine zaL (some 7) rfl rfl Try.func64 (by kernel_rfl) rfl #[.slice A0 l0.length c0] rfl qM ?_;(with_reducible refine (norm_Of.calls k _ _ l0 t214 t215 _ ?side1 ?side2 A2.out).mono ?_);(case side1 => exact qC HR0.out);(case side2 => exact HC0.out);rintro e w8 ⟨v216,rfl,ho0,hb⟩;refine ⟨_,rfl,?_⟩;obtain ⟨_,_⟩ := a2 (Kd.R_lower ho0 (zaF qB)) (zaD qB hb);clear HB;rename_i HO217 HB;(try clear hb);(try clear hb2);(try clear hk);(try clear hi);(try clear ho0)))
 go_ret
 exact ⟨qE,qB⟩
def zbV : Nat → List (S56) → List (S56) → Int → Option (Bool)
 | 0,_,_,_ => none
 | k + 1,x0,x1,x5 => if x5 < (x0.length : Int) then (if 0 ≤ x5 then (if x5 < (x1.length : Int) then (if ((zaA x0 x5).f0) = ((zaA x1 x5).f0) then (if ((zaA x0 x5).f1).toList = ((zaA x1 x5).f1).toList then (if ((zaA x0 x5).f3) = ((zaA x1 x5).f3) then (zbV k x0 x1 (wrap64 (x5 + 1))) else (some false)) else (some false)) else (some false)) else (none)) else (none)) else (some true)
def stylusref04_Same.f (k : Nat) (l0 : List (S56)) (l1 : List (S56)) : Option (Bool) := if (l0.length : Int) = (l1.length : Int) then (zbV k l0 l1 0) else (some false)
theorem stylusref04_Same.calls (k : Nat) (A0 : Option Addr) (c0 : Nat) (l0 : List (S56)) (A1 : Option Addr) (c1 : Nat) (l1 : List (S56)) (r : Bool) (w : World) (hr0 : Kd.C k56 w A0 l0.length l0) (hc0 : l0.length ≤ c0) (hr1 : Kd.C k56 w A1 l1.length l1) (hc1 : l1.length ≤ c1) (h : stylusref04_Same.f k l0 l1 = some r) :
  Calls Try.prog 61 #[.slice A0 l0.length c0,.slice A1 l1.length c1] w fun e w' => e = .returned (.bool r) ∧ Drawn0 w w' := by
 have HR0 := Aside0.mk hr0
 have HC0 := Aside0.mk hc0
 clear hr0 hc0
 have HR1 := Aside0.mk hr1
 have HC1 := Aside0.mk hc1
 clear hr1 hc1
 have H : (if (l0.length : Int) = (l1.length : Int) then (zbV k l0 l1 0) else (some false)) = some r := h
 clear h
 by_cases c3 : (l0.length : Int) = (l1.length : Int)
 rotate_left
 ·rw [if_neg c3] at H
  have c3b0 := beq_eq_false_iff_ne.mpr c3
  have c3b1 := bne_iff_ne.mpr c3
  have c3b2 : (l0.length == l1.length) = false := by first | simpa using c3 | (simp at c3 ⊢;omega)
  obtain rfl := Option.some.inj H
  go_enter Try.func61,Try.ntmps61
  go_wp2
  repeat (go_quiet (fail);try go_wp2)
  go_ret
  exact ⟨qS,qW⟩
 rw [if_pos c3] at H
 have c3b0 := beq_iff_eq.mpr c3
 have c3b1 := bne_eq_false_iff_eq.mpr c3
 have c3b2 : (l0.length == l1.length) = true := by first | simpa using c3 | (simp at c3 ⊢;omega)
 clear c3
 have H' := Aside0.mk H
 clear H
 go_enter Try.func61,Try.ntmps61
 go_wp2
 repeat (go_quiet (fail);try go_wp2)
 go_loopg [5] k (fun kq v5 w' => ∃ (x5_1 : Int),v5 = .int .i64 x5_1 ∧ Aside0 (zbV kq l0 l1 x5_1 = some r) ∧ Aside0 (kq ≤ k) ∧ Drawn0 w w')
 case atStart => exact ⟨(0),qS,H',⟨Nat.le_refl _⟩,qW⟩
 clear H'
 obtain ⟨x5_1,rfl,HA,HK1,⟨m1,rfl⟩⟩ := hrel
 cases gk with
 | zero => exact absurd HA.out (by simp [zbV])
 | succ k1 =>
 have H := HA.out
 clear HA
 simp only [zbV] at H
 obtain ⟨c4b0,H⟩ | ⟨c4b0,H⟩ := spD H
 rotate_left
 ·obtain rfl := Option.some.inj H
  go_wp2
  repeat (go_quiet (fail);try go_wp2)
  go_ret
  exact ⟨qS,qW⟩
 obtain ⟨c5b0,H⟩ := spN H
 obtain ⟨c6b0,H⟩ := spN H
 obtain ⟨c7b0,c7b1,H⟩ | ⟨c7b0,c7b1,H⟩ := spE H
 rotate_left
 ·obtain rfl := Option.some.inj H
  obtain ⟨ad216,e216,p216,q216,hx216_0,hx216_1,hx216_2,hx216_3⟩ := bT56 HR0.out x5_1
  cases e216
  obtain ⟨ad217,e217,p217,q217,hx217_0,hx217_1,hx217_2,hx217_3⟩ := bT56 HR1.out x5_1
  cases e217
  go_wp2
  repeat (go_quiet (fail);try go_wp2)
  go_ret
  exact ⟨qS,qW⟩
 obtain ⟨c8b0,c8b1,H⟩ | ⟨c8b0,c8b1,H⟩ := spE H
 rotate_left
 ·obtain rfl := Option.some.inj H
  obtain ⟨ad216,e216,p216,q216,hx216_0,hx216_1,hx216_2,hx216_3⟩ := bT56 HR0.out x5_1
  cases e216
  obtain ⟨ad217,e217,p217,q217,hx217_0,hx217_1,hx217_2,hx217_3⟩ := bT56 HR1.out x5_1
  cases e217
  obtain ⟨ad218,e218,p218,q218,hx218_0,hx218_1,hx218_2,hx218_3⟩ := bT56 HR0.out x5_1
  obtain rfl : ad216 = ad218 := (by injection e218)
  obtain ⟨ad219,e219,p219,q219,hx219_0,hx219_1,hx219_2,hx219_3⟩ := bT56 HR1.out x5_1
  obtain rfl : ad217 = ad219 := (by injection e219)
  go_wp2
  repeat (go_quiet (fail);try go_wp2)
  go_ret
  exact ⟨qS,qW⟩
 obtain ⟨c9b0,c9b1,H⟩ | ⟨c9b0,c9b1,H⟩ := spE H
 ·have H' := Aside0.mk H
  clear H
  obtain ⟨ad216,e216,p216,q216,hx216_0,hx216_1,hx216_2,hx216_3⟩ := bT56 HR0.out x5_1
  cases e216
  obtain ⟨ad217,e217,p217,q217,hx217_0,hx217_1,hx217_2,hx217_3⟩ := bT56 HR1.out x5_1
  cases e217
  obtain ⟨ad218,e218,p218,q218,hx218_0,hx218_1,hx218_2,hx218_3⟩ := bT56 HR0.out x5_1
  obtain rfl : ad216 = ad218 := (by injection e218)
  obtain ⟨ad219,e219,p219,q219,hx219_0,hx219_1,hx219_2,hx219_3⟩ := bT56 HR1.out x5_1
  obtain rfl : ad217 = ad219 := (by injection e219)
  obtain ⟨ad220,e220,p220,q220,hx220_0,hx220_1,hx220_2,hx220_3⟩ := bT56 HR0.out x5_1
  obtain rfl : ad216 = ad220 := (by injection e220)
  obtain ⟨ad221,e221,p221,q221,hx221_0,hx221_1,hx221_2,hx221_3⟩ := bT56 HR1.out x5_1
  obtain rfl : ad217 = ad221 := (by injection e221)
  go_wp2
  repeat (go_quiet (fail);try go_wp2)
  go_roundg k1
  case measure => have := HK1.out;omega
  case rel => exact ⟨(wrap64 (x5_1 + 1)),qS,H',⟨by have := HK1.out;omega⟩,qW⟩
 obtain rfl := Option.some.inj H
 obtain ⟨ad216,e216,p216,q216,hx216_0,hx216_1,hx216_2,hx216_3⟩ := bT56 HR0.out x5_1
 cases e216
 obtain ⟨ad217,e217,p217,q217,hx217_0,hx217_1,hx217_2,hx217_3⟩ := bT56 HR1.out x5_1
 cases e217
 obtain ⟨ad218,e218,p218,q218,hx218_0,hx218_1,hx218_2,hx218_3⟩ := bT56 HR0.out x5_1
 obtain rfl : ad216 = ad218 := (by injection e218)
 obtain ⟨ad219,e219,p219,q219,hx219_0,hx219_1,hx219_2,hx219_3⟩ := bT56 HR1.out x5_1
 obtain rfl : ad217 = ad219 := (by injection e219)
 obtain ⟨ad220,e220,p220,q220,hx220_0,hx220_1,hx220_2,hx220_3⟩ := bT56 HR0.out x5_1
 obtain rfl : ad216 = ad220 := (by injection e220)
 obtain ⟨ad221,e221,p221,q221,hx221_0,hx221_1,hx221_2,hx221_3⟩ := bT56 HR1.out x5_1
 obtain rfl : ad217 = ad221 := (by injection e221)
 go_wp2
 repeat (go_quiet (fail);try go_wp2)
 go_ret
 exact ⟨qS,qW⟩
def stylusref05_Is.f (k : Nat) (l0 : List (S56)) : Option (Bool) := (stylusref05_Of.f k l0).bind fun bt387 => (if bt387.2 = 0 then ((stylusref04_Same.f k l0 bt387.1).bind fun t391 => (some t391)) else (some false))
theorem stylusref05_Is.calls (k : Nat) (A0 : Option Addr) (c0 : Nat) (l0 : List (S56)) (r : Bool) (w : World) (hr0 : Kd.C k56 w A0 l0.length l0) (hc0 : l0.length ≤ c0) (h : stylusref05_Is.f k l0 = some r) :
  Calls Try.prog 67 #[.slice A0 l0.length c0] w fun e w' => e = .returned (.bool r) ∧ Below w.heap.size w w' := by
 have HR0 := Aside0.mk hr0
 have HC0 := Aside0.mk hc0
 clear hr0 hc0
 have HB := Aside0.mk (Below.refl w.heap.size w)
 have H : ((stylusref05_Of.f k l0).bind fun bt387 => (if bt387.2 = 0 then ((stylusref04_Same.f k l0 bt387.1).bind fun t391 => (some t391)) else (some false))) = some r := h
 clear h
 obtain ⟨⟨t387,t388⟩,A2,H⟩ := bdA H
 replace H : (if t388 = 0 then ((stylusref04_Same.f k l0 t387).bind fun t391 => (some t391)) else (some false)) = some r := H
 obtain ⟨c3b0,c3b1,H⟩ | ⟨c3b0,c3b1,H⟩ := spE H
 ·obtain ⟨t391,A4,H⟩ := bdA H
  replace H : (some t391) = some r := H
  obtain rfl := Option.some.inj H
  go_enter Try.func67,Try.ntmps67
  go_wp2_with (first | ((with_reducible refine zaE (f := 65) rfl ?_);refine zaL (some 7) rfl rfl Try.func65 (by kernel_rfl) rfl #[.slice A0 l0.length c0] rfl qM ?_;(with_reducible refine (stylusref05_Of.calls k _ _ l0 t387 t388 _ ?side1 ?side2 A2.out).mono ?_);(case side1 => exact qC HR0.out);(case side2 => exact HC0.out);rintro e w5 ⟨v389,rfl,ho0,hb⟩;refine ⟨_,rfl,?_⟩;obtain ⟨_,_⟩ := a2 (Kd.R_lower ho0 (zaF qB)) (zaD qB hb);clear HB;rename_i HO390 HB;(try clear hb);(try clear hb2);(try clear hk);(try clear hi);(try clear ho0);obtain ⟨Ao6,co6,eo6⟩ := Kd.R_slice HO390.out;subst eo6) | (go_at_call 61;(with_reducible refine (stylusref04_Same.calls k _ _ l0 _ _ t387 t391 _ ?side1 ?side2 ?side3 ?side4 A4.out).mono ?_);(case side1 => exact qC ((Kd.C_below HR0.out HB.out)));(case side2 => exact HC0.out);(case side3 => exact qC ((Kd.R_reads' HO390.out).2.2));(case side4 => exact (Kd.R_reads' HO390.out).2.1);rintro e w' ⟨rfl,⟨nd,rfl⟩⟩))
  go_ret
  exact ⟨qE,qB⟩
 obtain rfl := Option.some.inj H
 go_enter Try.func67,Try.ntmps67
 go_wp2_with (first | ((with_reducible refine zaE (f := 65) rfl ?_);refine zaL (some 7) rfl rfl Try.func65 (by kernel_rfl) rfl #[.slice A0 l0.length c0] rfl qM ?_;(with_reducible refine (stylusref05_Of.calls k _ _ l0 t387 t388 _ ?side1 ?side2 A2.out).mono ?_);(case side1 => exact qC HR0.out);(case side2 => exact HC0.out);rintro e w7 ⟨v389,rfl,ho0,hb⟩;refine ⟨_,rfl,?_⟩;obtain ⟨_,_⟩ := a2 (Kd.R_lower ho0 (zaF qB)) (zaD qB hb);clear HB;rename_i HO390 HB;(try clear hb);(try clear hb2);(try clear hk);(try clear hi);(try clear ho0)))
 go_ret
 exact ⟨qE,qB⟩
end Go.Proofs.Ythcmfjpheanphaa.Pr
