/- Texts of this seat, one behind the other. -/
import Derived.Test.YthcmfjpheanphaaXNormForms6
set_option linter.unusedVariables false
set_option linter.unusedSimpArgs false
set_option maxHeartbeats 16000000
set_option maxRecDepth 100000
namespace Go.Proofs.Ythcmfjpheanphaa.Pr
open Go.RowKit Go.Proofs.YthcmfjpheanphaaW.PrintWords Go.Proofs.YthcmfjpheanphaaW.PrintLast Go.Proofs.YthcmfjpheanphaaW.PrintMore
attribute [local go_sem] zaX zaY zbG zbI zaV zaW zaZ zbA
mutual
def zaP : Nat → List (S184) → List (S184) → Int → Option ((List (S184)))
 | 0,_,_,_ => none
 | k + 1,x0,x3,x4 => if x4 < (x0.length : Int) then (if 0 ≤ x4 then (if ((zaQ x0 x4).f0) = 32 then (zdB k x0 x3 x4 0 x4) else (if x3.length < 5864062014805 then (zaP k x0 (x3 ++ [(⟨(zaQ x0 x4).f0,(zaQ x0 x4).f1,(zaQ x0 x4).f2⟩ : S184)]) (wrap64 (x4 + 1))) else (none))) else (none)) else (some x3)
def zdB : Nat → List (S184) → List (S184) → Int → Int → Int → Option ((List (S184)))
 | 0,_,_,_,_,_ => none
 | k + 1,x0,x3,x4,x5,x6 => if x6 < (x0.length : Int) then (if 0 ≤ x6 then (if ((zaQ x0 x6).f0) = 32 then (zdB k x0 x3 x4 x5 (wrap64 (x6 + 1))) else (zdB k x0 x3 x4 (wrap64 (x5 + 1)) (wrap64 (x6 + 1)))) else (none)) else (if (x3.length : Int) > 0 then (if 0 ≤ (wrap64 ((x3.length : Int) - 1)) then (if (wrap64 ((x3.length : Int) - 1)) < (x3.length : Int) then (if ((zaQ x3 (wrap64 ((x3.length : Int) - 1))).f0) = 32 then (zaP k x0 x3 (wrap64 (x4 + 1))) else (if x5 > 0 then (if 0 ≤ x4 then (if x4 < (x0.length : Int) then (if x3.length < 5864062014805 then (zaP k x0 (x3 ++ [(⟨(zaQ x0 x4).f0,(zaQ x0 x4).f1,(zaQ x0 x4).f2⟩ : S184)]) (wrap64 (x4 + 1))) else (none)) else (none)) else (none)) else (zaP k x0 x3 (wrap64 (x4 + 1))))) else (none)) else (none)) else (zaP k x0 x3 (wrap64 (x4 + 1))))
end
def stylusref05_Kept.f (k : Nat) (l0 : List (S184)) : Option ((List (S184))) := zaP k l0 ([] : List (S184)) 0
theorem stylusref05_Kept.calls (k : Nat) (A0 : Option Addr) (c0 : Nat) (l0 : List (S184)) (r : List (S184)) (w : World) (hr0 : Kd.C k184 w A0 l0.length l0) (hc0 : l0.length ≤ c0) (h : stylusref05_Kept.f k l0 = some r) :
  Calls Try.prog 149 #[.slice A0 l0.length c0] w fun e w' => ∃ v0_ : Value,e = .returned (v0_) ∧ Kd.R k184 184 w' w.heap.size (fun _ => True) v0_ r ∧ Below w.heap.size w w' := by
 have hu184 := Try.underlying184
 have HR0 := Aside0.mk hr0
 have HC0 := Aside0.mk hc0
 clear hr0 hc0
 have HB := Aside0.mk (Below.refl w.heap.size w)
 have H : (zaP k l0 ([] : List (S184)) 0) = some r := h
 clear h
 have H' := Aside0.mk H
 clear H
 go_enter Try.func149,Try.ntmps149
 go_wp2
 go_loopg [3,4] k (fun kq v3 v4 w' => ∃ (x3_1 : List (S184)) (x4_1 : Int),v4 = .int .i64 x4_1 ∧ Aside0 (zaP kq l0 x3_1 x4_1 = some r) ∧ Aside0 (kq ≤ k) ∧ Aside0 (Kd.R k184 184 w' w.heap.size (fun _ => True) v3 x3_1) ∧ Aside0 (Below w.heap.size w w'))
 case atStart => exact ⟨(([] : List (S184))),(0),qS,H',⟨Nat.le_refl _⟩,⟨qN⟩,⟨qB⟩⟩
 clear H'
 obtain ⟨x3_1,x4_1,rfl,HA,HK1,HO_3,HB⟩ := hrel
 cases gk with
 | zero => exact absurd HA.out (by simp [zaP])
 | succ k1 =>
 have H := HA.out
 clear HA
 simp only [zaP] at H
 obtain ⟨c2b0,H⟩ | ⟨c2b0,H⟩ := spD H
 rotate_left
 ·obtain rfl := Option.some.inj H
  go_wp2
  go_ret
  exact ⟨_,qE,qR HO_3,qB⟩
 obtain ⟨c3b0,H⟩ := spN H
 obtain ⟨c4b0,c4b1,H⟩ | ⟨c4b0,c4b1,H⟩ := spE H
 rotate_left
 ·obtain ⟨LMc22,H⟩ := spL H
  obtain ⟨y318,hy318⟩ : ∃ y_ : List (S184),y_ = (x3_1 ++ [(⟨(zaQ l0 x4_1).f0,(zaQ l0 x4_1).f1,(zaQ l0 x4_1).f2⟩ : S184)]) := ⟨_,rfl⟩
  replace H : (zaP k1 l0 y318 (wrap64 (x4_1 + 1))) = some r := by first | (rw [hy318];with_reducible exact H) | (have H2_ := (Option.bind_some _ _).symm.trans H;rw [hy318];with_reducible exact H2_) | (have H2_ := (Option.bind_some _ _).symm.trans H;with_reducible exact H2_) | with_reducible exact H | (rw [hy318];exact H) | exact H
  have Ny318 := Aside0.mk hy318
  clear hy318
  have H' := Aside0.mk H
  clear H
  obtain ⟨ad316,e316,p316,q316,hx316_0,hx316_1,hx316_2⟩ := zrG HR0 HB x4_1
  cases e316
  obtain ⟨ad317,e317,p317,q317,hx317_0,hx317_1,hx317_2⟩ := zrG HR0 HB x4_1
  obtain rfl : ad316 = ad317 := (by injection e317)
  go_wp2_with (first | ((with_reducible refine zcJ (b := .append) (xs := #[.tmp 19,.tmp 24]) rfl ?_);(try (refine zeP (by rfl) ?_;dsimp only));at_builtin;refine Kd.R_append k184 (w0 := w) w.heap.size rfl (.tmp 19) (.tmp 24) 180 184 (.agg #[(.int .u8 0),(.int .i64 0),(.int .i64 0)]) 24 rfl Try.underlying180 znY rfl (by decide) (by omega) u3 x3_1 (⟨(zaQ l0 x4_1).f0,(zaQ l0 x4_1).f1,(zaQ l0 x4_1).f2⟩ : S184) [.int .u8 ((zaQ l0 x4_1).f0),.int .i64 ((zaQ l0 x4_1).f1),.int .i64 ((zaQ l0 x4_1).f2)] (fun _ => True) (fun _ => False) rfl rfl ?aP (fun _ hk => hk.elim) ?aF ?aO ?aB ?aS ?aL ?_;(case aP => exact zmH _ _ _ (⟨(zaQ l0 x4_1).f0,(zaQ l0 x4_1).f1,(zaQ l0 x4_1).f2⟩ : S184));(case aB => exact qB);(case aF => exact (fun _ _ => trivial));(case aO => exact qR HO_3);(case aS => exact (zaF qB));(case aL => have := LMc22.out;omega);intro v319 w23 ho hb hg hat;rw [← Ny318.out] at ho;obtain ⟨_,_⟩ := a2 hb ho;clear HB HO_3 ho hb hg hat;rename_i HB HO320))
  go_roundg k1
  case measure => have := HK1.out;omega
  case rel => exact ⟨(y318),(wrap64 (x4_1 + 1)),qS,H',⟨by have := HK1.out;omega⟩,⟨qR HO320⟩,⟨qB⟩⟩
 have H' := Aside0.mk H
 clear H
 obtain ⟨ad316,e316,p316,q316,hx316_0,hx316_1,hx316_2⟩ := zrG HR0 HB x4_1
 cases e316
 go_wp2
 go_loopg [5,6] k1 (fun kq v5 v6 w' => ∃ (x5_2 : Int) (x6_2 : Int),v5 = .int .i64 x5_2 ∧ v6 = .int .i64 x6_2 ∧ Aside0 (zdB kq l0 x3_1 x4_1 x5_2 x6_2 = some r) ∧ Aside0 (kq ≤ k1) ∧ Aside0 (Kd.R k184 184 w' w.heap.size (fun _ => True) u3 x3_1) ∧ Aside0 (Below w.heap.size w w'))
 case atStart => exact ⟨(0),(x4_1),qS,qS,H',⟨Nat.le_refl _⟩,⟨qR HO_3⟩,⟨qB⟩⟩
 clear H'
 obtain ⟨x5_2,x6_2,rfl,rfl,HA,HK2,HO_3,HB⟩ := hrel
 cases gk with
 | zero => exact absurd HA.out (by simp [zdB])
 | succ k2 =>
 have H := HA.out
 clear HA
 simp only [zdB] at H
 obtain ⟨c5b0,H⟩ | ⟨c5b0,H⟩ := spD H
 ·obtain ⟨c6b0,H⟩ := spN H
  obtain ⟨c7b0,c7b1,H⟩ | ⟨c7b0,c7b1,H⟩ := spE H
  ·have H' := Aside0.mk H
   clear H
   obtain ⟨ad321,e321,p321,q321,hx321_0,hx321_1,hx321_2⟩ := zrG HR0 HB x6_2
   obtain rfl : ad316 = ad321 := (by injection e321)
   go_wp2
   go_roundg k2
   case measure => have := HK1.out;have := HK2.out;omega
   case rel => exact ⟨(x5_2),(wrap64 (x6_2 + 1)),qS,qS,H',⟨by have := HK1.out;have := HK2.out;omega⟩,⟨qR HO_3⟩,⟨qB⟩⟩
  have H' := Aside0.mk H
  clear H
  obtain ⟨ad321,e321,p321,q321,hx321_0,hx321_1,hx321_2⟩ := zrG HR0 HB x6_2
  obtain rfl : ad316 = ad321 := (by injection e321)
  go_wp2
  go_roundg k2
  case measure => have := HK1.out;have := HK2.out;omega
  case rel => exact ⟨(wrap64 (x5_2 + 1)),(wrap64 (x6_2 + 1)),qS,qS,H',⟨by have := HK1.out;have := HK2.out;omega⟩,⟨qR HO_3⟩,⟨qB⟩⟩
 by_cases c8 : (x3_1.length : Int) > 0
 rotate_left
 ·rw [if_neg c8] at H
  have c8b0 : decide (0 < (x3_1.length : Int)) = false := decide_eq_false c8
  have c8b1 : decide (0 < x3_1.length) = false := decide_eq_false (by omega)
  clear c8
  have H' := Aside0.mk H
  clear H
  obtain ⟨Ao21,co21,eo21⟩ := Kd.R_slice HO_3.out
  subst eo21
  go_wp2
  go_roundg k2
  case measure => have := HK1.out;have := HK2.out;omega
  case rel => exact ⟨(x3_1),(wrap64 (x4_1 + 1)),qS,H',⟨by have := HK1.out;have := HK2.out;omega⟩,⟨qR HO_3⟩,⟨qB⟩⟩
 rw [if_pos c8] at H
 have c8b0 : decide (0 < (x3_1.length : Int)) = true := decide_eq_true c8
 have c8b1 : decide (0 < x3_1.length) = true := decide_eq_true (by omega)
 clear c8
 obtain ⟨ji9,hji9⟩ : ∃ j_ : Int,(wrap64 ((x3_1.length : Int) - 1)) = j_ := ⟨_,rfl⟩
 replace H : (if 0 ≤ (ji9) then (if (ji9) < (x3_1.length : Int) then (if ((zaQ x3_1 (ji9)).f0) = 32 then (zaP k2 l0 x3_1 (wrap64 (x4_1 + 1))) else (if x5_2 > 0 then (if 0 ≤ x4_1 then (if x4_1 < (l0.length : Int) then (if x3_1.length < 5864062014805 then (zaP k2 l0 (x3_1 ++ [(⟨(zaQ l0 x4_1).f0,(zaQ l0 x4_1).f1,(zaQ l0 x4_1).f2⟩ : S184)]) (wrap64 (x4_1 + 1))) else (none)) else (none)) else (none)) else (zaP k2 l0 x3_1 (wrap64 (x4_1 + 1))))) else (none)) else (none)) = some r := by first | (rw [hji9] at H;exact H) | (simp only [hji9] at H ⊢;exact H)
 have hji9w : (IntKind.i64.wrap ((x3_1.length : Int) - 1)) = ji9 := (zaO _).trans hji9
 obtain ⟨c10b0,H⟩ := spN H
 obtain ⟨c11b0,H⟩ := spN H
 obtain ⟨c12b0,c12b1,H⟩ | ⟨c12b0,c12b1,H⟩ := spE H
 ·have H' := Aside0.mk H
  clear H
  obtain ⟨Ao13,co13,eo13⟩ := Kd.R_slice HO_3.out
  subst eo13
  obtain ⟨ad322,e322,p322,q322,hx322_0,hx322_1,hx322_2⟩ := bT184 (Kd.R_reads' HO_3.out).2.2 (ji9)
  cases e322
  go_wp2
  go_roundg k2
  case measure => have := HK1.out;have := HK2.out;omega
  case rel => exact ⟨(x3_1),(wrap64 (x4_1 + 1)),qS,H',⟨by have := HK1.out;have := HK2.out;omega⟩,⟨qR HO_3⟩,⟨qB⟩⟩
 obtain ⟨c14b0,H⟩ | ⟨c14b0,H⟩ := spDg H
 rotate_left
 ·have H' := Aside0.mk H
  clear H
  obtain ⟨Ao20,co20,eo20⟩ := Kd.R_slice HO_3.out
  subst eo20
  obtain ⟨ad322,e322,p322,q322,hx322_0,hx322_1,hx322_2⟩ := bT184 (Kd.R_reads' HO_3.out).2.2 (ji9)
  cases e322
  go_wp2
  go_roundg k2
  case measure => have := HK1.out;have := HK2.out;omega
  case rel => exact ⟨(x3_1),(wrap64 (x4_1 + 1)),qS,H',⟨by have := HK1.out;have := HK2.out;omega⟩,⟨qR HO_3⟩,⟨qB⟩⟩
 obtain ⟨c15b0,H⟩ := spN H
 obtain ⟨c16b0,H⟩ := spN H
 obtain ⟨LMc17,H⟩ := spL H
 obtain ⟨y324,hy324⟩ : ∃ y_ : List (S184),y_ = (x3_1 ++ [(⟨(zaQ l0 x4_1).f0,(zaQ l0 x4_1).f1,(zaQ l0 x4_1).f2⟩ : S184)]) := ⟨_,rfl⟩
 replace H : (zaP k2 l0 y324 (wrap64 (x4_1 + 1))) = some r := by first | (rw [hy324];with_reducible exact H) | (have H2_ := (Option.bind_some _ _).symm.trans H;rw [hy324];with_reducible exact H2_) | (have H2_ := (Option.bind_some _ _).symm.trans H;with_reducible exact H2_) | with_reducible exact H | (rw [hy324];exact H) | exact H
 have Ny324 := Aside0.mk hy324
 clear hy324
 have H' := Aside0.mk H
 clear H
 obtain ⟨Ao18,co18,eo18⟩ := Kd.R_slice HO_3.out
 subst eo18
 obtain ⟨ad322,e322,p322,q322,hx322_0,hx322_1,hx322_2⟩ := bT184 (Kd.R_reads' HO_3.out).2.2 (ji9)
 cases e322
 obtain ⟨ad323,e323,p323,q323,hx323_0,hx323_1,hx323_2⟩ := zrG HR0 HB x4_1
 obtain rfl : ad316 = ad323 := (by injection e323)
 go_wp2_with (first | ((with_reducible refine zcJ (b := .append) (xs := #[.tmp 58,.tmp 63]) rfl ?_);(try (refine zeP (by rfl) ?_;dsimp only));at_builtin;refine Kd.R_append k184 (w0 := w) w.heap.size rfl (.tmp 58) (.tmp 63) 180 184 (.agg #[(.int .u8 0),(.int .i64 0),(.int .i64 0)]) 24 rfl Try.underlying180 znY rfl (by decide) (by omega) (.slice (some ad322) x3_1.length co18) x3_1 (⟨(zaQ l0 x4_1).f0,(zaQ l0 x4_1).f1,(zaQ l0 x4_1).f2⟩ : S184) [.int .u8 ((zaQ l0 x4_1).f0),.int .i64 ((zaQ l0 x4_1).f1),.int .i64 ((zaQ l0 x4_1).f2)] (fun _ => True) (fun _ => False) rfl rfl ?aP (fun _ hk => hk.elim) ?aF ?aO ?aB ?aS ?aL ?_;(case aP => exact zmH _ _ _ (⟨(zaQ l0 x4_1).f0,(zaQ l0 x4_1).f1,(zaQ l0 x4_1).f2⟩ : S184));(case aB => exact qB);(case aF => exact (fun _ _ => trivial));(case aO => exact qR HO_3);(case aS => exact (zaF qB));(case aL => have := LMc17.out;omega);intro v325 w19 ho hb hg hat;rw [← Ny324.out] at ho;obtain ⟨_,_⟩ := a2 hb ho;clear HB HO_3 ho hb hg hat;rename_i HB HO326))
 go_roundg k2
 case measure => have := HK1.out;have := HK2.out;omega
 case rel => exact ⟨(y324),(wrap64 (x4_1 + 1)),qS,H',⟨by have := HK1.out;have := HK2.out;omega⟩,⟨qR HO326⟩,⟨qB⟩⟩
end Go.Proofs.Ythcmfjpheanphaa.Pr
namespace Go.Mix
open Go Go.Det
variable {P : Program} {ops : Array Oper} {Q : Exit → Act → World → Prop}
theorem any_mixD {D : Nat → Bool} (ok : Ok ops) {S : Bool → World → Prop} {μ k : Nat} {es : List Nat} (hes : esOk ops es = true) (hμ : es.contains μ = false) (hkn : k ≤ ops.size) (ht : tailOk ops k es = true) (hD : ∀ i,i < ops.size → D i = true → waits ops ops.size i μ = true) {val : Nat → Value} {a0 : Act}
  (hsteps : ∀ i o,i < k → es.contains i = false → ops[i]? = some o → ∃ x,Fr ops val a0 (fun j => decide (j < i) || es.contains j) x ∧ (if i = μ then StepG P ops (S false) (S true) x o (val i) else ∀ b,(D i = true → b = true) → StepG P ops (S b) (S b) x o (val i)))
  (hend : ∀ x,Fr ops val a0 (fun j => decide (j < k) || es.contains j) x → ∀ w,S (decide (μ < k)) w → wpList P ops Q (rest ops es (ops.size - k) k) x w) : ∀ (fuel : Nat) (listed : Array Bool) (a : Act) (w : World),listed.size = ops.size →
  cnt (fun i => listed.getD i false) ops.size ≤ fuel → (∀ i o,ops[i]? = some o → listed.getD i false = true → ∀ e ∈ o.after,Region.binds .any e = true → listed.getD e.on false = true) →
  (∀ i,i < ops.size → listed.getD i false = true → i < k ∨ es.contains i = true) → (∀ i,i < ops.size → es.contains i = true → listed.getD i false = true) →
  Fr ops val a0 (fun i => listed.getD i false) a → S (listed.getD μ false) w → wpAny P .any ops Q fuel listed a w := by
 have fin : ∀ (fuel : Nat) (listed : Array Bool) (a : Act) (w : World),listed.size = ops.size →
  cnt (fun i => listed.getD i false) ops.size ≤ fuel →
  (∀ i,i < ops.size → listed.getD i false = true → i < k ∨ es.contains i = true) → (∀ i,i < ops.size → es.contains i = true → listed.getD i false = true) →
  Fr ops val a0 (fun i => listed.getD i false) a → S (listed.getD μ false) w → (∀ i,i < k → listed.getD i false = true) → wpAny P .any ops Q fuel listed a w := by
  intro fuel listed a w hsz hc hlk hel hf hS hdone
  have hL : ∀ i,i < ops.size → listed.getD i false = (decide (i < k) || es.contains i) := fun i hi => by
   by_cases hik : i < k
   ·rw [hdone i hik];simp [hik]
   cases he : es.contains i with
   | true => rw [hel i hi he];simp
   | false =>
   have : listed.getD i false ≠ true := fun h => by
    rcases hlk i hi h with h | h
    ·exact hik h
    rw [he] at h;cases h
   simp only [Bool.not_eq_true] at this
   rw [this];simp [hik]
  have hb : listed.getD μ false = decide (μ < k) := by
   rcases Nat.lt_or_ge μ ops.size with h | h
   ·rw [hL μ h,hμ];simp
   rw [Array.getD_eq_getD_getElem?,Array.getElem?_eq_none (by omega)]
   simp;omega
  rw [hb] at hS
  refine any_tail ok hes ht (ops.size - k) k fuel listed a w hsz hL (Nat.le_refl _) (by omega) ?_ (hend a (fr_congr hf (fun j hj => (hL j hj).symm) (fun _ _ => rfl)) w hS)
  have := rest_len (ops := ops) (es := es) (L := fun i => listed.getD i false) (ops.size - k) k fun i hi hin he => by
   show listed.getD i false = false
   rw [hL i (by omega),he];simp;omega
  rw [show k + (ops.size - k) = ops.size by omega] at this
  omega
 intro fuel
 induction fuel with
 | zero =>
  intro listed a w hsz hc hcl hlk hel hf hS
  have hall := cnt_zero _ _ (Nat.le_zero.1 hc)
  exact fin 0 listed a w hsz hc hlk hel hf hS fun i hi => hall i (by omega)
 | succ fuel ih =>
 intro listed a w hsz hc hcl hlk hel hf hS
 by_cases hdone : ∀ i,i < k → listed.getD i false = true
 ·exact fin _ listed a w hsz hc hlk hel hf hS hdone
 refine ⟨fun hr => absurd (fun i hi => least_ready ok hsz hr i (by omega)) hdone,fun i hi => ?_⟩
 have hin : i < ops.size := ready_lt hi
 have hil : i < listed.size := by omega
 obtain ⟨o,ho⟩ : ∃ o,ops[i]? = some o := ⟨_,Array.getElem?_eq_getElem hin⟩
 obtain ⟨hlf,hdeps⟩ := (ready_iff hsz ho).1 hi
 have hie : es.contains i = false := by
  cases he : es.contains i with
  | false => rfl
  | true => rw [hel i hin he] at hlf;cases hlf
 have hik : i < k := by
  rcases Nat.lt_or_ge i k with h | h
  ·exact h
  exfalso
  refine hdone fun j hj => ?_
  cases hej : es.contains j with
  | true => exact hel j (by omega) hej
  | false =>
  have hw := tail_waits ht hin h hie (show j < i by omega) hej
  exact waits_listed hcl ops.size i j (fun o' ho' e he hb => by
   rw [ho] at ho'
   cases ho'
   exact hdeps e he hb) hw
 have hset : ∀ j,(listed.setIfInBounds i true).getD j false = (listed.getD j false || j == i) := fun j => set_getD hil j
 obtain ⟨x,hfx,hsx⟩ := hsteps i o hik hie ho
 have look : ∀ j oj t,ops[j]? = some oj → oj.dst = some t → t ∈ o.looksAt ops → (decide (j < i) || es.contains j) = listed.getD j false := fun j oj t hj hd ht => by
  rcases ok.reads i o j oj t ho hj hd ht with ⟨e,he,hb,rfl⟩ | ⟨hne,e,he,hb,hei⟩
  ·rw [hdeps e he hb]
   have := ok.back i o ho e he hb
   simp [this]
  have hlt : i < j := hei ▸ ok.back j oj hj e he hb
  have hlj : listed.getD j false = false := by
   cases hlj : listed.getD j false with
   | false => rfl
   | true =>
   have := hcl j oj hj hlj e he hb
   rw [hei,hlf] at this
   cases this
  rw [hlj]
  have : es.contains j = false := by
   cases hej : es.contains j with
   | false => rfl
   | true => rw [hel j (lt_of_some hj) hej] at hlj;cases hlj
  rw [this]
  simp;omega
 have hnext : ∀ w',S ((listed.setIfInBounds i true).getD μ false) w' → wpAny P .any ops Q fuel (listed.setIfInBounds i true) (a.put o.dst (val i)) w' := fun w' hS' => by
  refine ih _ _ _ (by simpa using hsz) ?_ ?_ ?_ ?_ ?_ hS'
  ·have := (cnt_set (fun j => listed.getD j false) (fun j => (listed.setIfInBounds i true).getD j false) i hlf hset ops.size).1 hin
   omega
  ·intro j oj hj hlj e he hb
   rw [hset] at hlj ⊢
   rcases Bool.or_eq_true .. ▸ hlj with h | h
   ·rw [hcl j oj hj h e he hb];rfl
   have : j = i := by simpa using h
   subst this
   rw [ho] at hj
   cases hj
   rw [hdeps e he hb];rfl
  ·intro j hj hlj
   rw [hset] at hlj
   rcases Bool.or_eq_true .. ▸ hlj with h | h
   ·exact hlk j hj h
   have : j = i := by simpa using h
   exact .inl (by omega)
  ·intro j hj he
   rw [hset,hel j hj he];rfl
  exact fr_put ok ho hf fun j _ => hset j
 have go : ∀ S1 S2 : World → Prop,S1 w → (∀ w',S2 w' → S ((listed.setIfInBounds i true).getD μ false) w') → StepG P ops S1 S2 a o (val i) → wpOp P ops Q i (wpAny P .any ops Q fuel (listed.setIfInBounds i true)) a w := by
  intro S1 S2 h1 h2 hst
  unfold wpOp
  rw [ho]
  simp only
  rcases hst with ⟨hw,hrun⟩ | ⟨hw,hv,hs⟩
  ·rw [if_pos hw]
   refine .inl ?_
   have := hrun w h1
   unfold Oper.wp at this ⊢
   exact upon_imp (fun a' w' ⟨ha',hS'⟩ => ha' ▸ hnext w' (h2 _ hS')) this
  rw [if_neg (by rw [hw];simp)]
  rw [← hv]
  exact hnext w (h2 _ (hs _ h1))
 by_cases hiμ : i = μ
 ·rw [if_pos hiμ] at hsx
  refine go (S false) (S true) ?_ (fun w' h => ?_) (stepG_same ok ho hfx hf look hsx)
  ·rw [← hiμ,hlf] at hS;exact hS
  rw [← hiμ,hset];simpa using h
 rw [if_neg hiμ] at hsx
 refine go _ _ hS (fun w' h => ?_) (stepG_same ok ho hfx hf look (hsx _ fun hd => waits_listed hcl ops.size i μ (fun o' ho' e he hb => by
  rw [ho] at ho'
  cases ho'
  exact hdeps e he hb) (hD i hin hd)))
 rw [hset,show (μ == i) = false by simpa using Ne.symm hiμ,Bool.or_false]
 exact h
def SeqD (D : Nat → Bool) (P : Program) (ops : Array Oper) (S : Bool → World → Prop) (μ : Nat) (es : List Nat) (d : List Deferred) (R : Array Value → Prop) : Nat → List Oper → Array Value → Prop
 | _,[],t => R t
 | i,o :: l,t => if es.contains i then SeqD D P ops S μ es d R (i + 1) l t else
   ∃ t' : Array Value,(if i = μ then ∀ w,S false w → wpList P ops (AtEnd (S true) d t') [o] { tmps := t,defers := d } w
    else ∀ b w,(D i = true → b = true) → S b w → wpList P ops (AtEnd (S b) d t') [o] { tmps := t,defers := d } w) ∧ SeqD D P ops S μ es d R (i + 1) l t'
theorem seqD_nil {D : Nat → Bool} {S : Bool → World → Prop} {μ i : Nat} {es : List Nat} {d : List Deferred} {R : Array Value → Prop} {t : Array Value} (h : R t) : SeqD D P ops S μ es d R i [] t := h
theorem seqD_cons {D : Nat → Bool} {S : Bool → World → Prop} {μ i : Nat} {es : List Nat} {d : List Deferred} {R : Array Value → Prop} {o : Oper} {l : List Oper} {t t' : Array Value} (he : es.contains i = false) (hμ : (i == μ) = false)
  (h : ∀ b w,S b w → wpList P ops (AtEnd (S b) d t') [o] { tmps := t,defers := d } w) (hr : SeqD D P ops S μ es d R (i + 1) l t') : SeqD D P ops S μ es d R i (o :: l) t := by
 simp only [SeqD,he,Bool.false_eq_true,if_false]
 exact ⟨t',by rw [if_neg (by simpa using hμ)];exact fun b w _ => h b w,hr⟩
theorem seqD_dep {D : Nat → Bool} {S : Bool → World → Prop} {μ i : Nat} {es : List Nat} {d : List Deferred} {R : Array Value → Prop} {o : Oper} {l : List Oper} {t t' : Array Value} (he : es.contains i = false) (hμ : (i == μ) = false)
  (hd : D i = true) (h : ∀ w,S true w → wpList P ops (AtEnd (S true) d t') [o] { tmps := t,defers := d } w) (hr : SeqD D P ops S μ es d R (i + 1) l t') : SeqD D P ops S μ es d R i (o :: l) t := by
 simp only [SeqD,he,Bool.false_eq_true,if_false]
 exact ⟨t',by rw [if_neg (by simpa using hμ)];exact fun b w hb => by rw [hb hd];exact h w,hr⟩
theorem seqD_main {D : Nat → Bool} {S : Bool → World → Prop} {μ : Nat} {es : List Nat} {d : List Deferred} {R : Array Value → Prop} {o : Oper} {l : List Oper} {t t' : Array Value} (he : es.contains μ = false)
  (h : ∀ w,S false w → wpList P ops (AtEnd (S true) d t') [o] { tmps := t,defers := d } w) (hr : SeqD D P ops S μ es d R (μ + 1) l t') : SeqD D P ops S μ es d R μ (o :: l) t := by
 simp only [SeqD,he,Bool.false_eq_true,if_false]
 exact ⟨t',by rw [if_pos trivial];exact h,hr⟩
theorem seqD_vals {D : Nat → Bool} (ok : Ok ops) {S : Bool → World → Prop} {μ : Nat} {es : List Nat} {d : List Deferred} {R : Array Value → Prop} {a0 : Act} {w0 w1 : World} (h0 : S false w0) (h1S : S true w1) : ∀ (l : List Oper) (i : Nat) (val0 : Nat → Value) (t : Array Value),
  (∀ j o,l[j]? = some o → ops[i + j]? = some o) → Fr ops val0 a0 (fun j => decide (j < i) || es.contains j) { tmps := t,defers := d } → SeqD D P ops S μ es d R i l t →
  ∃ val : Nat → Value,(∀ j,(j < i ∨ es.contains j = true) → val j = val0 j) ∧ (∀ k o,i ≤ k → k < i + l.length → es.contains k = false → ops[k]? = some o → ∃ x,Fr ops val a0 (fun j => decide (j < k) || es.contains j) x ∧
   (if k = μ then StepG P ops (S false) (S true) x o (val k) else ∀ b,(D k = true → b = true) → StepG P ops (S b) (S b) x o (val k))) ∧
   ∃ t',Fr ops val a0 (fun j => decide (j < i + l.length) || es.contains j) { tmps := t',defers := d } ∧ R t'
 | [],i,val0,t,hl,hf,h => ⟨val0,fun _ _ => rfl,fun k o hk ho => absurd ho (by simp;omega),t,hf,h⟩
 | o :: rest,i,val0,t,hl,hf,h => by
  have hi : ops[i]? = some o := hl 0 o (by simp)
  have hl' : ∀ j o',rest[j]? = some o' → ops[i + 1 + j]? = some o' := fun j o' hj => by
   have := hl (j + 1) o' (by simpa using hj)
   rw [show i + 1 + j = i + (j + 1) by omega];exact this
  have hlen : i + (o :: rest).length = i + 1 + rest.length := by simp only [List.length_cons];omega
  rw [hlen]
  cases he : es.contains i with
  | true =>
   simp only [SeqD,he,if_true] at h
   have hf1 : Fr ops val0 a0 (fun j => decide (j < i + 1) || es.contains j) { tmps := t,defers := d } := fr_congr hf (fun j hj => by
    rw [Bool.eq_iff_iff]
    simp only [Bool.or_eq_true,decide_eq_true_eq]
    constructor
    ·rintro (h1 | h1)
     ·rcases Nat.lt_or_ge j i with h2 | h2
      ·exact .inl h2
      obtain rfl : j = i := by omega
      exact .inr he
     exact .inr h1
    rintro (h1 | h1)
    ·exact .inl (by omega)
    exact .inr h1) (fun _ _ => rfl)
   obtain ⟨val,hv,hsteps,hend⟩ := seqD_vals ok h0 h1S rest (i + 1) val0 t hl' hf1 h
   refine ⟨val,fun j hj => hv j (hj.imp (by omega) id),fun k ok' hk hkl hke hko => ?_,hend⟩
   by_cases hki : k = i
   ·subst hki;rw [he] at hke;cases hke
   exact hsteps k ok' (by omega) hkl hke hko
  | false =>
  simp only [SeqD,he,Bool.false_eq_true,if_false] at h
  obtain ⟨F,hF,hrest⟩ := h
  have hput : ∃ v,(Region.wanted o (yielded ops t) = false → v = undef) ∧ ({ tmps := F,defers := d } : Act) = ({ tmps := t,defers := d } : Act).put o.dst v := by
   by_cases hiμ : i = μ
   ·rw [if_pos hiμ] at hF;exact put_of (hF w0 h0)
   rw [if_neg hiμ] at hF;exact put_of (hF true w1 (fun _ => rfl) h1S)
  obtain ⟨v,hvu,hput⟩ := hput
  have hst : if i = μ then StepG P ops (S false) (S true) { tmps := t,defers := d } o v else ∀ b,(D i = true → b = true) → StepG P ops (S b) (S b) { tmps := t,defers := d } o v := by
   by_cases hiμ : i = μ
   ·rw [if_pos hiμ] at hF ⊢
    exact stepG_of hvu hput hF
   rw [if_neg hiμ] at hF ⊢
   exact fun b hb => stepG_of hvu hput fun w => hF b w hb
  let val1 : Nat → Value := fun j => if j = i then v else val0 j
  have hne : ∀ j,(decide (j < i) || es.contains j) = true → j ≠ i := fun j hj hji => by
   subst hji
   rw [he] at hj
   simp at hj
  have hf1 : Fr ops val1 a0 (fun j => decide (j < i) || es.contains j) { tmps := t,defers := d } := fr_congr hf (fun _ _ => rfl) (fun j hj => by
   show (if j = i then v else val0 j) = _
   rw [if_neg (hne j hj)])
  have hv1 : val1 i = v := if_pos rfl
  have hf2 : Fr ops val1 a0 (fun j => decide (j < i + 1) || es.contains j) { tmps := F,defers := d } := by
   rw [hput,← hv1]
   exact fr_put ok hi hf1 fun j _ => by
    rw [Bool.eq_iff_iff]
    simp only [Bool.or_eq_true,decide_eq_true_eq,beq_iff_eq]
    constructor
    ·rintro (h1 | h1)
     ·rcases Nat.lt_or_ge j i with h2 | h2
      ·exact .inl (.inl h2)
      exact .inr (by omega)
     exact .inl (.inr h1)
    rintro ((h1 | h1) | h1)
    ·exact .inl (by omega)
    ·exact .inr h1
    exact .inl (by omega)
  obtain ⟨val,hv,hsteps,hend⟩ := seqD_vals ok h0 h1S rest (i + 1) val1 F hl' hf2 hrest
  refine ⟨val,fun j hj => ?_,fun k ok' hk hkl hke hko => ?_,hend⟩
  ·rw [hv j (hj.imp (by omega) id)]
   show (if j = i then v else val0 j) = _
   rw [if_neg (hne j (by rcases hj with h1 | h1 <;> rw [Bool.or_eq_true] <;> first | exact .inl (decide_eq_true h1) | exact .inr h1))]
  by_cases hki : k = i
  ·subst hki
   rw [hi] at hko
   cases hko
   refine ⟨_,fr_congr hf1 (fun _ _ => rfl) (fun j hj => hv j ?_),?_⟩
   ·rcases Bool.or_eq_true .. ▸ hj with h1 | h1
    ·exact .inl (Nat.lt_succ_of_lt (of_decide_eq_true h1))
    exact .inr h1
   rw [hv k (by omega),hv1]
   exact hst
  exact hsteps k ok' (by omega) hkl hke hko
theorem region_mixD {id : Nat} {l : List Oper} {t : Array Value} {d : List Deferred} {w : World} (D : Nat → Bool) (S : Bool → World → Prop) (μ k : Nat) (es : List Nat) (hDk : ((List.range l.toArray.size).all fun i => !D i || waits l.toArray l.toArray.size i μ) = true) {w1 : World} (hS1 : S true w1) (hm : P.follows .mixedOrders = true) (hok : mixOk l.toArray μ k es = true)
  (hQ0 : ∀ c (a : Act) (x : Tmp) v w,Q (.panic c) (a.put (some x) v) w → Q (.panic c) a w) (hS : S false w.drew)
  (h : SeqE P l.toArray d (fun t' => SeqD D P l.toArray S μ es d (fun t'' => ∀ w',S (decide (μ < k)) w' → wpList P l.toArray Q (rest l.toArray es (l.length - k) k) { tmps := t'',defers := d } w') 0 (l.take k) t') es t) :
  (Code.region id l.toArray true).wp P Q { tmps := t,defers := d } w := by
 have hQ : ∀ c (a : Act) dst v w,Q (.panic c) (a.put dst v) w → Q (.panic c) a w := fun c a dst v w h => by
  cases dst with
  | none => exact h
  | some x => exact hQ0 c a x v w h
 simp only [mixOk,Bool.and_eq_true,decide_eq_true_eq,Bool.not_eq_true'] at hok
 obtain ⟨⟨⟨⟨⟨⟨⟨hok,hes⟩,hμ⟩,ht⟩,hk⟩,htk⟩,hns⟩,hcnt⟩ := hok
 have ok := okOps_spec hok
 have hlen : l.toArray.size = l.length := by simp
 have helt : ∀ e ∈ es,e < l.toArray.size := fun e he => by
  have := List.all_eq_true.1 hes e he
  cases ho : l.toArray[e]? with
  | none => rw [ho] at this;simp at this
  | some o => exact lt_of_some ho
 refine wp_region_any hm ?_
 obtain ⟨f,hf⟩ : ∃ f,l.toArray.size = f + es.length := ⟨l.toArray.size - es.length,by omega⟩
 have hfold := fold_getD (n := l.toArray.size) es (Array.replicate l.toArray.size false) (by simp) helt
 have hgd : ∀ j,(es.foldl (fun L e => L.setIfInBounds e true) (Array.replicate l.toArray.size false)).getD j false = es.contains j := fun j => by rw [hfold.2 j,rep_false];simp
 have main : wpAny P .any l.toArray Q (f + es.length) (Array.replicate l.toArray.size false) { tmps := t,defers := d } { w with drawn := w.drawn + 1 } := by
  refine any_take (R := _) ok hns hQ es _ f t (fun _ => undef) (by simp) htk (fr_start _ _ _ fun i _ => rep_false _ i) h fun t' val0 hfr hR => ?_
  have hfr0 : Fr l.toArray val0 { tmps := t,defers := d } (fun j => decide (j < 0) || es.contains j) { tmps := t',defers := d } := fr_congr hfr (fun j _ => by rw [hgd];simp) (fun _ _ => rfl)
  obtain ⟨val,hv,hsteps,t'',hfx,hR'⟩ := seqD_vals ok hS hS1 (l.take k) 0 val0 t' (fun j o hj => by
   rw [List.getElem?_take] at hj
   split at hj
   ·simpa using hj
   cases hj) hfr0 hR
  have hlk : 0 + (l.take k).length = k := by rw [List.length_take];omega
  rw [hlk] at hsteps hfx
  refine any_mixD ok (S := S) (μ := μ) (k := k) (es := es) hes hμ (by omega) ht (fun i hi hd => by
   have := List.all_eq_true.1 hDk i (List.mem_range.2 hi)
   simpa [hd] using this) (val := val) (a0 := { tmps := t,defers := d }) (fun i o hi he ho => hsteps i o (Nat.zero_le _) hi he ho) (fun y hy w' hS' => ?_) _ _ _ _ hfold.1 ?_ ?_ ?_ ?_ ?_ ?_
  ·rw [fr_eq hy hfx fun _ _ => rfl]
   exact hR' w' hS'
  ·rw [show (fun i => (es.foldl (fun L e => L.setIfInBounds e true) (Array.replicate l.toArray.size false)).getD i false) = fun j => es.contains j from funext hgd]
   omega
  ·intro i o hi hl e he hb
   rw [hgd] at hl ⊢
   exact esOk_spec hes hi hl e he hb
  ·intro i hi hl
   rw [hgd] at hl
   exact .inr hl
  ·intro i hi he
   rw [hgd];exact he
  ·exact fr_congr hfr (fun _ _ => rfl) (fun j hj => hv j (.inr (by rw [hgd] at hj;exact hj)))
  rw [hgd,hμ];exact hS
 rw [← hf] at main
 exact main
theorem region_mixD' {id : Nat} {l : List Oper} {t : Array Value} {d : List Deferred} {w : World} (D : Nat → Bool) (S : Bool → World → Prop) (μ k : Nat) (es : List Nat) (hDk : ((List.range l.toArray.size).all fun i => !D i || waits l.toArray l.toArray.size i μ) = true) {w1 : World} (hS1 : S true w1) (hm : P.follows .mixedOrders = true) (hok : (mixOk l.toArray μ k es && es.all fun e => decide (e < k)) = true)
  (hQ0 : ∀ c (a : Act) (x : Tmp) v w,Q (.panic c) (a.put (some x) v) w → Q (.panic c) a w) (hS : S false w.drew)
  (h : SeqE P l.toArray d (fun t' => SeqD D P l.toArray S μ es d (fun t'' => ∀ w',S (decide (μ < k)) w' → wpList P l.toArray Q (l.drop k) { tmps := t'',defers := d } w') 0 (l.take k) t') es t) :
  (Code.region id l.toArray true).wp P Q { tmps := t,defers := d } w := by
 simp only [Bool.and_eq_true,List.all_eq_true,decide_eq_true_eq] at hok
 have hk : k ≤ l.length := by
  have := hok.1
  simp only [mixOk,Bool.and_eq_true,decide_eq_true_eq] at this
  have := this.1.1.1.2
  simpa using this
 refine region_mixD D S μ k es hDk hS1 hm hok.1 hQ0 hS ?_
 rw [rest_drop (ops := l.toArray) (l.length - k) k (by simp;omega) hok.2]
 exact h
end Go.Mix
namespace Go.Proofs.Ythcmfjpheanphaa.Pr
open Go.RowKit Go.Proofs.YthcmfjpheanphaaW.PrintWords Go.Proofs.YthcmfjpheanphaaW.PrintLast Go.Proofs.YthcmfjpheanphaaW.PrintMore
attribute [local go_sem] zaX zaY zbG zbI zaV zaW zaZ zbA
def zdK : Nat → Int → ByteArray → Int → Option (Bool)
 | 0,_,_,_ => none
 | k + 1,x0,x1,x5 => if x5 < (x1.size : Int) then (if 0 ≤ x5 then (if (bt x1 x5) = x0 then (some true) else (zdK k x0 x1 (wrap64 (x5 + 1)))) else (none)) else (some false)
def stylusref04_in.f (k : Nat) (a0 : Int) (a1 : ByteArray) : Option (Bool) := zdK k a0 a1 0
theorem stylusref04_in.calls (k : Nat) (a0 : Int) (a1 : ByteArray) (r : Bool) (w : World) (h : stylusref04_in.f k a0 a1 = some r) :
  Calls Try.prog 140 #[.int .u8 a0,.string a1] w fun e w' => e = .returned (.bool r) ∧ Drawn0 w w' := by
 have H : (zdK k a0 a1 0) = some r := h
 clear h
 have H' := Aside0.mk H
 clear H
 go_enter Try.func140,Try.ntmps140
 go_wp2
 go_loopg [5] k (fun kq v5 w' => ∃ (x5_1 : Int),v5 = .int .i64 x5_1 ∧ Aside0 (zdK kq a0 a1 x5_1 = some r) ∧ Aside0 (kq ≤ k) ∧ Drawn0 w w')
 case atStart => exact ⟨(0),qS,H',⟨Nat.le_refl _⟩,qW⟩
 clear H'
 obtain ⟨x5_1,rfl,HA,HK1,⟨m1,rfl⟩⟩ := hrel
 cases gk with
 | zero => exact absurd HA.out (by simp [zdK])
 | succ k1 =>
 have H := HA.out
 clear HA
 simp only [zdK] at H
 obtain ⟨c3b0,H⟩ | ⟨c3b0,H⟩ := spD H
 rotate_left
 ·obtain rfl := Option.some.inj H
  go_wp2
  go_ret
  exact ⟨qS,qW⟩
 obtain ⟨c4b0,H⟩ := spN H
 obtain ⟨c6b0,c6b1,H⟩ | ⟨c6b0,c6b1,H⟩ := spE H
 ·obtain rfl := Option.some.inj H
  have p5 : 0 ≤ (x5_1 : Int) := qD
  have q5 : x5_1 < (a1.size : Int) := qD
  have hx5 := zfI a1 x5_1
  replace p5 := eq_true p5
  replace q5 := eq_true q5
  go_wp2
  go_ret
  exact ⟨qS,qW⟩
 have H' := Aside0.mk H
 clear H
 have p5 : 0 ≤ (x5_1 : Int) := qD
 have q5 : x5_1 < (a1.size : Int) := qD
 have hx5 := zfI a1 x5_1
 replace p5 := eq_true p5
 replace q5 := eq_true q5
 go_wp2
 go_roundg k1
 case measure => have := HK1.out;omega
 case rel => exact ⟨(wrap64 (x5_1 + 1)),qS,H',⟨by have := HK1.out;omega⟩,qW⟩
def stylusref04_Texts.f (k : Nat) (l0 : List (S159)) : Option (Bool) := if 0 ≤ (wrap64 ((l0.length : Int) - 1)) then (if (wrap64 ((l0.length : Int) - 1)) < (l0.length : Int) then ((stylusref04_in.f k ((zaC l0 (wrap64 ((l0.length : Int) - 1))).f0) (⟨#[49,50,51,112,99,110,101,115]⟩ : ByteArray)).bind fun t124 => (if t124 = true then (some true) else (if ((zaC l0 (wrap64 ((l0.length : Int) - 1))).f0) = 105 then ((stylusref04_in.f k 108 ((zaC l0 (wrap64 ((l0.length : Int) - 1))).f1)).bind fun t125 => (some (!t125))) else (some false)))) else (none)) else (none)
theorem stylusref04_Texts.calls (k : Nat) (A0 : Option Addr) (c0 : Nat) (l0 : List (S159)) (r : Bool) (w : World) (hr0 : Kd.C k159 w A0 l0.length l0) (hc0 : l0.length ≤ c0) (h : stylusref04_Texts.f k l0 = some r) :
  Calls Try.prog 108 #[.slice A0 l0.length c0] w fun e w' => e = .returned (.bool r) ∧ Below w.heap.size w w' := by
 have hu159 := Try.underlying159
 have HR0 := Aside0.mk hr0
 have HC0 := Aside0.mk hc0
 clear hr0 hc0
 have HB := Aside0.mk (Below.refl w.heap.size w)
 have H : (if 0 ≤ (wrap64 ((l0.length : Int) - 1)) then (if (wrap64 ((l0.length : Int) - 1)) < (l0.length : Int) then ((stylusref04_in.f k ((zaC l0 (wrap64 ((l0.length : Int) - 1))).f0) (⟨#[49,50,51,112,99,110,101,115]⟩ : ByteArray)).bind fun t124 => (if t124 = true then (some true) else (if ((zaC l0 (wrap64 ((l0.length : Int) - 1))).f0) = 105 then ((stylusref04_in.f k 108 ((zaC l0 (wrap64 ((l0.length : Int) - 1))).f1)).bind fun t125 => (some (!t125))) else (some false)))) else (none)) else (none)) = some r := h
 clear h
 obtain ⟨ji2,hji2⟩ : ∃ j_ : Int,(wrap64 ((l0.length : Int) - 1)) = j_ := ⟨_,rfl⟩
 replace H : (if 0 ≤ (ji2) then (if (ji2) < (l0.length : Int) then ((stylusref04_in.f k ((zaC l0 (ji2)).f0) (⟨#[49,50,51,112,99,110,101,115]⟩ : ByteArray)).bind fun t124 => (if t124 = true then (some true) else (if ((zaC l0 (ji2)).f0) = 105 then ((stylusref04_in.f k 108 ((zaC l0 (ji2)).f1)).bind fun t125 => (some (!t125))) else (some false)))) else (none)) else (none)) = some r := by first | (rw [hji2] at H;exact H) | (simp only [hji2] at H ⊢;exact H)
 have hji2w : (IntKind.i64.wrap ((l0.length : Int) - 1)) = ji2 := (zaO _).trans hji2
 obtain ⟨c3b0,H⟩ := spN H
 obtain ⟨c4b0,H⟩ := spN H
 obtain ⟨t124,A5,H⟩ := bdA H
 replace H : (if t124 = true then (some true) else (if ((zaC l0 (ji2)).f0) = 105 then ((stylusref04_in.f k 108 ((zaC l0 (ji2)).f1)).bind fun t125 => (some (!t125))) else (some false))) = some r := H
 by_cases c6 : t124 = true
 ·subst c6
  have H1 : (some true) = some r := by rw [if_pos rfl] at H;exact H
  clear H
  have H := H1
  clear H1
  obtain rfl := Option.some.inj H
  obtain ⟨ad122,e122,p122,q122,hx122_0,hx122_1,hx122_2,hx122_3,hx122_4,hx122_5⟩ := zlR HR0.out (ji2)
  cases e122
  go_enter Try.func108,Try.ntmps108
  go_wp2_with (first | ((with_reducible refine zdT (N := 3) rfl ?_);refine zeW ?hg (N := 3) ?hd (cs := #[.int .u8 0,.string (⟨#[]⟩ : ByteArray),.int .i64 0,.int .i64 0,.int .i64 0,.string (⟨#[]⟩ : ByteArray)]) (t := 159) ?hr ?_;(case hd => rfl);(case hg => rfl);(case hr => first | (go_simp;done) | (go_simp;rfl));intro gb123 hg w7 hbox hb;obtain ⟨_,_,_,_⟩ := a4 (zaD qB hb) hbox ((by rw [hg];exact (zaF qB) : w.heap.size ≤ gb123)) ((by rw [hg];exact (zaF qB) : w.heap.size ≤ gb123));clear HB hb hbox hg;rename_i HB BK123 GW123 GE123;have hcz8_0 : w7.cell? ⟨gb123,0,none⟩ = some (.int .u8 0) := (zaB BK123.out 0).trans rfl;have hcz8_1 : w7.cell? ⟨gb123,1,none⟩ = some (.string (⟨#[]⟩ : ByteArray)) := (zaB BK123.out 1).trans rfl;have hcz8_2 : w7.cell? ⟨gb123,2,none⟩ = some (.int .i64 0) := (zaB BK123.out 2).trans rfl;have hcz8_3 : w7.cell? ⟨gb123,3,none⟩ = some (.int .i64 0) := (zaB BK123.out 3).trans rfl;have hcz8_4 : w7.cell? ⟨gb123,4,none⟩ = some (.int .i64 0) := (zaB BK123.out 4).trans rfl;have hcz8_5 : w7.cell? ⟨gb123,5,none⟩ = some (.string (⟨#[]⟩ : ByteArray)) := (zaB BK123.out 5).trans rfl;have hfz8_0 := zaK BK123.out 0;have hfz8_1 := zaK BK123.out 1;have hfz8_2 := zaK BK123.out 2;have hfz8_3 := zaK BK123.out 3;have hfz8_4 := zaK BK123.out 4;have hfz8_5 := zaK BK123.out 5) | ((with_reducible refine zaE (f := 140) rfl ?_);refine zaL (some 12) rfl rfl Try.func140 (by kernel_rfl) rfl #[.int .u8 ((zaC l0 (ji2)).f0),.string (⟨#[49,50,51,112,99,110,101,115]⟩ : ByteArray)] rfl (by (try simp only [List.map_toArray,List.map_cons,List.map_nil]);first | done | (simp only [hji2];rfl) | rfl | (simp only [List.length_drop,List.length_take];rfl)) ?_;(with_reducible refine (stylusref04_in.calls k ((zaC l0 (ji2)).f0) (⟨#[49,50,51,112,99,110,101,115]⟩ : ByteArray) true _ A5.out).mono ?_);rintro e w' ⟨rfl,⟨nd,rfl⟩⟩;refine ⟨_,rfl,?_⟩))
  go_ret
  exact ⟨qF hji2,qG GE123⟩
 replace c6 := Bool.eq_false_iff.mpr c6
 subst c6
 have H1 : (if ((zaC l0 (ji2)).f0) = 105 then ((stylusref04_in.f k 108 ((zaC l0 (ji2)).f1)).bind fun t125 => (some (!t125))) else (some false)) = some r := by rw [if_neg nft] at H;exact H
 clear H
 have H := H1
 clear H1
 obtain ⟨c9b0,c9b1,H⟩ | ⟨c9b0,c9b1,H⟩ := spE H
 ·obtain ⟨t125,A10,H⟩ := bdA H
  replace H : (some (!t125)) = some r := H
  obtain rfl := Option.some.inj H
  obtain ⟨ad122,e122,p122,q122,hx122_0,hx122_1,hx122_2,hx122_3,hx122_4,hx122_5⟩ := zlR HR0.out (ji2)
  cases e122
  go_enter Try.func108,Try.ntmps108
  go_wp2_with (first | ((with_reducible refine zdT (N := 3) rfl ?_);refine zeW ?hg (N := 3) ?hd (cs := #[.int .u8 0,.string (⟨#[]⟩ : ByteArray),.int .i64 0,.int .i64 0,.int .i64 0,.string (⟨#[]⟩ : ByteArray)]) (t := 159) ?hr ?_;(case hd => rfl);(case hg => rfl);(case hr => first | (go_simp;done) | (go_simp;rfl));intro gb123 hg w11 hbox hb;obtain ⟨_,_,_,_⟩ := a4 (zaD qB hb) hbox ((by rw [hg];exact (zaF qB) : w.heap.size ≤ gb123)) ((by rw [hg];exact (zaF qB) : w.heap.size ≤ gb123));clear HB hb hbox hg;rename_i HB BK123 GW123 GE123;have hcz12_0 : w11.cell? ⟨gb123,0,none⟩ = some (.int .u8 0) := (zaB BK123.out 0).trans rfl;have hcz12_1 : w11.cell? ⟨gb123,1,none⟩ = some (.string (⟨#[]⟩ : ByteArray)) := (zaB BK123.out 1).trans rfl;have hcz12_2 : w11.cell? ⟨gb123,2,none⟩ = some (.int .i64 0) := (zaB BK123.out 2).trans rfl;have hcz12_3 : w11.cell? ⟨gb123,3,none⟩ = some (.int .i64 0) := (zaB BK123.out 3).trans rfl;have hcz12_4 : w11.cell? ⟨gb123,4,none⟩ = some (.int .i64 0) := (zaB BK123.out 4).trans rfl;have hcz12_5 : w11.cell? ⟨gb123,5,none⟩ = some (.string (⟨#[]⟩ : ByteArray)) := (zaB BK123.out 5).trans rfl;have hfz12_0 := zaK BK123.out 0;have hfz12_1 := zaK BK123.out 1;have hfz12_2 := zaK BK123.out 2;have hfz12_3 := zaK BK123.out 3;have hfz12_4 := zaK BK123.out 4;have hfz12_5 := zaK BK123.out 5) | ((with_reducible refine zaE (f := 140) rfl ?_);refine zaL (some 12) rfl rfl Try.func140 (by kernel_rfl) rfl #[.int .u8 ((zaC l0 (ji2)).f0),.string (⟨#[49,50,51,112,99,110,101,115]⟩ : ByteArray)] rfl (by (try simp only [List.map_toArray,List.map_cons,List.map_nil]);first | done | (simp only [hji2];rfl) | rfl | (simp only [List.length_drop,List.length_take];rfl)) ?_;(with_reducible refine (stylusref04_in.calls k ((zaC l0 (ji2)).f0) (⟨#[49,50,51,112,99,110,101,115]⟩ : ByteArray) false _ A5.out).mono ?_);rintro e w' ⟨rfl,⟨nd,rfl⟩⟩;refine ⟨_,rfl,?_⟩) | (go_at_call 140;(with_reducible refine (stylusref04_in.calls k 108 ((zaC l0 (ji2)).f1) t125 _ A10.out).mono ?_);rintro e w' ⟨rfl,⟨nd,rfl⟩⟩))
  go_ret
  exact ⟨qF hji2,qG GE123⟩
 obtain rfl := Option.some.inj H
 obtain ⟨ad122,e122,p122,q122,hx122_0,hx122_1,hx122_2,hx122_3,hx122_4,hx122_5⟩ := zlR HR0.out (ji2)
 cases e122
 go_enter Try.func108,Try.ntmps108
 go_wp2_with (first | ((with_reducible refine zdT (N := 3) rfl ?_);refine zeW ?hg (N := 3) ?hd (cs := #[.int .u8 0,.string (⟨#[]⟩ : ByteArray),.int .i64 0,.int .i64 0,.int .i64 0,.string (⟨#[]⟩ : ByteArray)]) (t := 159) ?hr ?_;(case hd => rfl);(case hg => rfl);(case hr => first | (go_simp;done) | (go_simp;rfl));intro gb123 hg w13 hbox hb;obtain ⟨_,_,_,_⟩ := a4 (zaD qB hb) hbox ((by rw [hg];exact (zaF qB) : w.heap.size ≤ gb123)) ((by rw [hg];exact (zaF qB) : w.heap.size ≤ gb123));clear HB hb hbox hg;rename_i HB BK123 GW123 GE123;have hcz14_0 : w13.cell? ⟨gb123,0,none⟩ = some (.int .u8 0) := (zaB BK123.out 0).trans rfl;have hcz14_1 : w13.cell? ⟨gb123,1,none⟩ = some (.string (⟨#[]⟩ : ByteArray)) := (zaB BK123.out 1).trans rfl;have hcz14_2 : w13.cell? ⟨gb123,2,none⟩ = some (.int .i64 0) := (zaB BK123.out 2).trans rfl;have hcz14_3 : w13.cell? ⟨gb123,3,none⟩ = some (.int .i64 0) := (zaB BK123.out 3).trans rfl;have hcz14_4 : w13.cell? ⟨gb123,4,none⟩ = some (.int .i64 0) := (zaB BK123.out 4).trans rfl;have hcz14_5 : w13.cell? ⟨gb123,5,none⟩ = some (.string (⟨#[]⟩ : ByteArray)) := (zaB BK123.out 5).trans rfl;have hfz14_0 := zaK BK123.out 0;have hfz14_1 := zaK BK123.out 1;have hfz14_2 := zaK BK123.out 2;have hfz14_3 := zaK BK123.out 3;have hfz14_4 := zaK BK123.out 4;have hfz14_5 := zaK BK123.out 5) | ((with_reducible refine zaE (f := 140) rfl ?_);refine zaL (some 12) rfl rfl Try.func140 (by kernel_rfl) rfl #[.int .u8 ((zaC l0 (ji2)).f0),.string (⟨#[49,50,51,112,99,110,101,115]⟩ : ByteArray)] rfl (by (try simp only [List.map_toArray,List.map_cons,List.map_nil]);first | done | (simp only [hji2];rfl) | rfl | (simp only [List.length_drop,List.length_take];rfl)) ?_;(with_reducible refine (stylusref04_in.calls k ((zaC l0 (ji2)).f0) (⟨#[49,50,51,112,99,110,101,115]⟩ : ByteArray) false _ A5.out).mono ?_);rintro e w' ⟨rfl,⟨nd,rfl⟩⟩;refine ⟨_,rfl,?_⟩))
 go_ret
 exact ⟨qF hji2,qG GE123⟩
def zcL : Nat → List (S159) → ByteArray → Int → Option (Int)
 | 0,_,_,_ => none
 | k + 1,x0,x1,x5 => if x5 > 0 then (if 0 ≤ x5 then (if x5 < (x0.length : Int) then ((stylusref04_in.f k ((zaC x0 x5).f0) x1).bind fun t127 => (if t127 = true then (some x5) else (zcL k x0 x1 (wrap64 (x5 - 1))))) else (none)) else (none)) else (some (-1))
def stylusref04_last.f (k : Nat) (l0 : List (S159)) (a1 : ByteArray) : Option (Int) := zcL k l0 a1 (wrap64 ((l0.length : Int) - 1))
theorem stylusref04_last.calls (k : Nat) (A0 : Option Addr) (c0 : Nat) (l0 : List (S159)) (a1 : ByteArray) (r : Int) (w : World) (hr0 : Kd.C k159 w A0 l0.length l0) (hc0 : l0.length ≤ c0) (h : stylusref04_last.f k l0 a1 = some r) :
  Calls Try.prog 137 #[.slice A0 l0.length c0,.string a1] w fun e w' => e = .returned (.int .i64 r) ∧ Drawn0 w w' := by
 have HR0 := Aside0.mk hr0
 have HC0 := Aside0.mk hc0
 clear hr0 hc0
 have H : (zcL k l0 a1 (wrap64 ((l0.length : Int) - 1))) = some r := h
 clear h
 have H' := Aside0.mk H
 clear H
 go_enter Try.func137,Try.ntmps137
 go_wp2
 go_loopg [5] k (fun kq v5 w' => ∃ (x5_1 : Int),v5 = .int .i64 x5_1 ∧ Aside0 (zcL kq l0 a1 x5_1 = some r) ∧ Aside0 (kq ≤ k) ∧ Drawn0 w w')
 case atStart => exact ⟨(wrap64 ((l0.length : Int) - 1)),qS,H',⟨Nat.le_refl _⟩,qW⟩
 clear H'
 obtain ⟨x5_1,rfl,HA,HK1,⟨m1,rfl⟩⟩ := hrel
 cases gk with
 | zero => exact absurd HA.out (by simp [zcL])
 | succ k1 =>
 have H := HA.out
 clear HA
 simp only [zcL] at H
 obtain ⟨c3b0,H⟩ | ⟨c3b0,H⟩ := spDg H
 rotate_left
 ·obtain rfl := Option.some.inj H
  go_wp2
  go_ret
  exact ⟨qS,qW⟩
 obtain ⟨c4b0,H⟩ := spN H
 obtain ⟨c5b0,H⟩ := spN H
 obtain ⟨t127,A6,H⟩ := bdA H
 replace H : (if t127 = true then (some x5_1) else (zcL k1 l0 a1 (wrap64 (x5_1 - 1)))) = some r := H
 by_cases c7 : t127 = true
 ·subst c7
  have H1 : (some x5_1) = some r := by rw [if_pos rfl] at H;exact H
  clear H
  have H := H1
  clear H1
  obtain rfl := Option.some.inj H
  obtain ⟨ad126,e126,p126,q126,hx126_0,hx126_1,hx126_2,hx126_3,hx126_4,hx126_5⟩ := zlR HR0.out x5_1
  cases e126
  go_wp2_with (first | ((with_reducible refine zaE (f := 140) rfl ?_);refine zaL (some 19) rfl rfl Try.func140 (by kernel_rfl) rfl #[.int .u8 ((zaC l0 x5_1).f0),.string a1] rfl qM ?_;(with_reducible refine (stylusref04_in.calls k1 ((zaC l0 x5_1).f0) a1 true _ A6.out).mono ?_);rintro e w' ⟨rfl,⟨nd,rfl⟩⟩;refine ⟨_,rfl,?_⟩))
  go_ret
  exact ⟨qS,qW⟩
 replace c7 := Bool.eq_false_iff.mpr c7
 subst c7
 have H1 : (zcL k1 l0 a1 (wrap64 (x5_1 - 1))) = some r := by rw [if_neg nft] at H;exact H
 clear H
 have H := H1
 clear H1
 have H' := Aside0.mk H
 clear H
 obtain ⟨ad126,e126,p126,q126,hx126_0,hx126_1,hx126_2,hx126_3,hx126_4,hx126_5⟩ := zlR HR0.out x5_1
 cases e126
 go_wp2_with (first | ((with_reducible refine zaE (f := 140) rfl ?_);refine zaL (some 19) rfl rfl Try.func140 (by kernel_rfl) rfl #[.int .u8 ((zaC l0 x5_1).f0),.string a1] rfl qM ?_;(with_reducible refine (stylusref04_in.calls k1 ((zaC l0 x5_1).f0) a1 false _ A6.out).mono ?_);rintro e w' ⟨rfl,⟨nd,rfl⟩⟩;refine ⟨_,rfl,?_⟩))
 go_roundg k1
 case measure => have := HK1.out;omega
 case rel => exact ⟨(wrap64 (x5_1 - 1)),qS,H',⟨by have := HK1.out;omega⟩,qW⟩
def zcR : Nat → List (S159) → Int → Int → Int → Option (Int)
 | 0,_,_,_,_ => none
 | k + 1,x0,x1,x5,x6 => if x6 < (x0.length : Int) then (if 0 ≤ x6 then (if ((zaC x0 x6).f0) = x1 then (zcR k x0 x1 (wrap64 (x5 + 1)) (wrap64 (x6 + 1))) else (zcR k x0 x1 x5 (wrap64 (x6 + 1)))) else (none)) else (some x5)
def stylusref04_many.f (k : Nat) (l0 : List (S159)) (a1 : Int) : Option (Int) := zcR k l0 a1 0 1
theorem stylusref04_many.calls (k : Nat) (A0 : Option Addr) (c0 : Nat) (l0 : List (S159)) (a1 : Int) (r : Int) (w : World) (hr0 : Kd.C k159 w A0 l0.length l0) (hc0 : l0.length ≤ c0) (h : stylusref04_many.f k l0 a1 = some r) :
  Calls Try.prog 139 #[.slice A0 l0.length c0,.int .u8 a1] w fun e w' => e = .returned (.int .i64 r) ∧ Drawn0 w w' := by
 have HR0 := Aside0.mk hr0
 have HC0 := Aside0.mk hc0
 clear hr0 hc0
 have H : (zcR k l0 a1 0 1) = some r := h
 clear h
 have H' := Aside0.mk H
 clear H
 go_enter Try.func139,Try.ntmps139
 go_wp2
 go_loopg [5,6] k (fun kq v5 v6 w' => ∃ (x5_1 : Int) (x6_1 : Int),v5 = .int .i64 x5_1 ∧ v6 = .int .i64 x6_1 ∧ Aside0 (zcR kq l0 a1 x5_1 x6_1 = some r) ∧ Aside0 (kq ≤ k) ∧ Drawn0 w w')
 case atStart => exact ⟨(0),(1),qS,qS,H',⟨Nat.le_refl _⟩,qW⟩
 clear H'
 obtain ⟨x5_1,x6_1,rfl,rfl,HA,HK1,⟨m1,rfl⟩⟩ := hrel
 cases gk with
 | zero => exact absurd HA.out (by simp [zcR])
 | succ k1 =>
 have H := HA.out
 clear HA
 simp only [zcR] at H
 obtain ⟨c3b0,H⟩ | ⟨c3b0,H⟩ := spD H
 rotate_left
 ·obtain rfl := Option.some.inj H
  go_wp2
  go_ret
  exact ⟨qS,qW⟩
 obtain ⟨c4b0,H⟩ := spN H
 obtain ⟨c5b0,c5b1,H⟩ | ⟨c5b0,c5b1,H⟩ := spE H
 ·have H' := Aside0.mk H
  clear H
  obtain ⟨ad189,e189,p189,q189,hx189_0,hx189_1,hx189_2,hx189_3,hx189_4,hx189_5⟩ := zlR HR0.out x6_1
  cases e189
  go_wp2
  go_roundg k1
  case measure => have := HK1.out;omega
  case rel => exact ⟨(wrap64 (x5_1 + 1)),(wrap64 (x6_1 + 1)),qS,qS,H',⟨by have := HK1.out;omega⟩,qW⟩
 have H' := Aside0.mk H
 clear H
 obtain ⟨ad189,e189,p189,q189,hx189_0,hx189_1,hx189_2,hx189_3,hx189_4,hx189_5⟩ := zlR HR0.out x6_1
 cases e189
 go_wp2
 go_roundg k1
 case measure => have := HK1.out;omega
 case rel => exact ⟨(x5_1),(wrap64 (x6_1 + 1)),qS,qS,H',⟨by have := HK1.out;omega⟩,qW⟩
mutual
def zaH : Nat → List (S159) → Int → Bool → Int → ByteArray → Int → Int → Int → ByteArray → Option (Bool)
 | 0,_,_,_,_,_,_,_,_,_ => none
 | k + 1,x0,x1,x42,x192000,x192001,x192002,x192003,x192004,x192005 => if x42 = true then (some true) else (if x192000 = 114 then (if x1 = 99 then (some (decide ((x192001.size : Int) < 8))) else (some false)) else ((stylusref04_Texts.f k x0).bind fun t193 => (if t193 = true then ((stylusref04_in.f k x1 (⟨#[101,115,110]⟩ : ByteArray)).bind fun t194 => (if t194 = true then ((stylusref04_many.f k x0 x1).bind fun t195 => (zdI k x0 x1 (decide (t195 > 0)))) else (zdI k x0 x1 true))) else (zdI k x0 x1 true))))
def zdI : Nat → List (S159) → Int → Bool → Option (Bool)
 | 0,_,_,_ => none
 | k + 1,x0,x1,x67 => if x67 = true then (some false) else (if x1 = 110 then ((stylusref04_last.f k x0 (⟨#[49,50,51,112,105]⟩ : ByteArray)).bind fun t196 => ((stylusref04_many.f k x0 99).bind fun t197 => (if t197 = 0 then (if t196 > 0 then (if 0 ≤ t196 then (if t196 < (x0.length : Int) then (some (((zaC x0 t196).f3) == 0)) else (none)) else (none)) else (some false)) else (some false)))) else (some true))
end
def stylusref04_opens.f (k : Nat) (l0 : List (S159)) (a1 : Int) : Option (Bool) := if 0 ≤ (wrap64 ((l0.length : Int) - 1)) then (if (wrap64 ((l0.length : Int) - 1)) < (l0.length : Int) then (if (l0.length : Int) = 1 then ((stylusref04_in.f k a1 (⟨#[49,50,51,112,108,116,107]⟩ : ByteArray)).bind fun t192 => (some t192)) else (if ((zaC l0 (wrap64 ((l0.length : Int) - 1))).f0) = 105 then (if a1 = 108 then (zaH k l0 a1 true ((zaC l0 (wrap64 ((l0.length : Int) - 1))).f0) ((zaC l0 (wrap64 ((l0.length : Int) - 1))).f1) ((zaC l0 (wrap64 ((l0.length : Int) - 1))).f2) ((zaC l0 (wrap64 ((l0.length : Int) - 1))).f3) ((zaC l0 (wrap64 ((l0.length : Int) - 1))).f4) ((zaC l0 (wrap64 ((l0.length : Int) - 1))).f5)) else (if ((zaC l0 (wrap64 ((l0.length : Int) - 1))).f0) = 108 then (if a1 = 105 then (zaH k l0 a1 true ((zaC l0 (wrap64 ((l0.length : Int) - 1))).f0) ((zaC l0 (wrap64 ((l0.length : Int) - 1))).f1) ((zaC l0 (wrap64 ((l0.length : Int) - 1))).f2) ((zaC l0 (wrap64 ((l0.length : Int) - 1))).f3) ((zaC l0 (wrap64 ((l0.length : Int) - 1))).f4) ((zaC l0 (wrap64 ((l0.length : Int) - 1))).f5)) else (if ((zaC l0 (wrap64 ((l0.length : Int) - 1))).f0) = 116 then (zaH k l0 a1 (a1 == 114) ((zaC l0 (wrap64 ((l0.length : Int) - 1))).f0) ((zaC l0 (wrap64 ((l0.length : Int) - 1))).f1) ((zaC l0 (wrap64 ((l0.length : Int) - 1))).f2) ((zaC l0 (wrap64 ((l0.length : Int) - 1))).f3) ((zaC l0 (wrap64 ((l0.length : Int) - 1))).f4) ((zaC l0 (wrap64 ((l0.length : Int) - 1))).f5)) else (zaH k l0 a1 false ((zaC l0 (wrap64 ((l0.length : Int) - 1))).f0) ((zaC l0 (wrap64 ((l0.length : Int) - 1))).f1) ((zaC l0 (wrap64 ((l0.length : Int) - 1))).f2) ((zaC l0 (wrap64 ((l0.length : Int) - 1))).f3) ((zaC l0 (wrap64 ((l0.length : Int) - 1))).f4) ((zaC l0 (wrap64 ((l0.length : Int) - 1))).f5)))) else (if ((zaC l0 (wrap64 ((l0.length : Int) - 1))).f0) = 116 then (zaH k l0 a1 (a1 == 114) ((zaC l0 (wrap64 ((l0.length : Int) - 1))).f0) ((zaC l0 (wrap64 ((l0.length : Int) - 1))).f1) ((zaC l0 (wrap64 ((l0.length : Int) - 1))).f2) ((zaC l0 (wrap64 ((l0.length : Int) - 1))).f3) ((zaC l0 (wrap64 ((l0.length : Int) - 1))).f4) ((zaC l0 (wrap64 ((l0.length : Int) - 1))).f5)) else (zaH k l0 a1 false ((zaC l0 (wrap64 ((l0.length : Int) - 1))).f0) ((zaC l0 (wrap64 ((l0.length : Int) - 1))).f1) ((zaC l0 (wrap64 ((l0.length : Int) - 1))).f2) ((zaC l0 (wrap64 ((l0.length : Int) - 1))).f3) ((zaC l0 (wrap64 ((l0.length : Int) - 1))).f4) ((zaC l0 (wrap64 ((l0.length : Int) - 1))).f5))))) else (if ((zaC l0 (wrap64 ((l0.length : Int) - 1))).f0) = 108 then (if a1 = 105 then (zaH k l0 a1 true ((zaC l0 (wrap64 ((l0.length : Int) - 1))).f0) ((zaC l0 (wrap64 ((l0.length : Int) - 1))).f1) ((zaC l0 (wrap64 ((l0.length : Int) - 1))).f2) ((zaC l0 (wrap64 ((l0.length : Int) - 1))).f3) ((zaC l0 (wrap64 ((l0.length : Int) - 1))).f4) ((zaC l0 (wrap64 ((l0.length : Int) - 1))).f5)) else (if ((zaC l0 (wrap64 ((l0.length : Int) - 1))).f0) = 116 then (zaH k l0 a1 (a1 == 114) ((zaC l0 (wrap64 ((l0.length : Int) - 1))).f0) ((zaC l0 (wrap64 ((l0.length : Int) - 1))).f1) ((zaC l0 (wrap64 ((l0.length : Int) - 1))).f2) ((zaC l0 (wrap64 ((l0.length : Int) - 1))).f3) ((zaC l0 (wrap64 ((l0.length : Int) - 1))).f4) ((zaC l0 (wrap64 ((l0.length : Int) - 1))).f5)) else (zaH k l0 a1 false ((zaC l0 (wrap64 ((l0.length : Int) - 1))).f0) ((zaC l0 (wrap64 ((l0.length : Int) - 1))).f1) ((zaC l0 (wrap64 ((l0.length : Int) - 1))).f2) ((zaC l0 (wrap64 ((l0.length : Int) - 1))).f3) ((zaC l0 (wrap64 ((l0.length : Int) - 1))).f4) ((zaC l0 (wrap64 ((l0.length : Int) - 1))).f5)))) else (if ((zaC l0 (wrap64 ((l0.length : Int) - 1))).f0) = 116 then (zaH k l0 a1 (a1 == 114) ((zaC l0 (wrap64 ((l0.length : Int) - 1))).f0) ((zaC l0 (wrap64 ((l0.length : Int) - 1))).f1) ((zaC l0 (wrap64 ((l0.length : Int) - 1))).f2) ((zaC l0 (wrap64 ((l0.length : Int) - 1))).f3) ((zaC l0 (wrap64 ((l0.length : Int) - 1))).f4) ((zaC l0 (wrap64 ((l0.length : Int) - 1))).f5)) else (zaH k l0 a1 false ((zaC l0 (wrap64 ((l0.length : Int) - 1))).f0) ((zaC l0 (wrap64 ((l0.length : Int) - 1))).f1) ((zaC l0 (wrap64 ((l0.length : Int) - 1))).f2) ((zaC l0 (wrap64 ((l0.length : Int) - 1))).f3) ((zaC l0 (wrap64 ((l0.length : Int) - 1))).f4) ((zaC l0 (wrap64 ((l0.length : Int) - 1))).f5)))))) else (none)) else (none)
theorem stylusref04_opens.calls (k : Nat) (A0 : Option Addr) (c0 : Nat) (l0 : List (S159)) (a1 : Int) (r : Bool) (w : World) (hr0 : Kd.C k159 w A0 l0.length l0) (hc0 : l0.length ≤ c0) (h : stylusref04_opens.f k l0 a1 = some r) :
  Calls Try.prog 138 #[.slice A0 l0.length c0,.int .u8 a1] w fun e w' => e = .returned (.bool r) ∧ Below w.heap.size w w' := by
 have hu159 := Try.underlying159
 have HR0 := Aside0.mk hr0
 have HC0 := Aside0.mk hc0
 clear hr0 hc0
 have HB := Aside0.mk (Below.refl w.heap.size w)
 have H : (if 0 ≤ (wrap64 ((l0.length : Int) - 1)) then (if (wrap64 ((l0.length : Int) - 1)) < (l0.length : Int) then (if (l0.length : Int) = 1 then ((stylusref04_in.f k a1 (⟨#[49,50,51,112,108,116,107]⟩ : ByteArray)).bind fun t192 => (some t192)) else (if ((zaC l0 (wrap64 ((l0.length : Int) - 1))).f0) = 105 then (if a1 = 108 then (zaH k l0 a1 true ((zaC l0 (wrap64 ((l0.length : Int) - 1))).f0) ((zaC l0 (wrap64 ((l0.length : Int) - 1))).f1) ((zaC l0 (wrap64 ((l0.length : Int) - 1))).f2) ((zaC l0 (wrap64 ((l0.length : Int) - 1))).f3) ((zaC l0 (wrap64 ((l0.length : Int) - 1))).f4) ((zaC l0 (wrap64 ((l0.length : Int) - 1))).f5)) else (if ((zaC l0 (wrap64 ((l0.length : Int) - 1))).f0) = 108 then (if a1 = 105 then (zaH k l0 a1 true ((zaC l0 (wrap64 ((l0.length : Int) - 1))).f0) ((zaC l0 (wrap64 ((l0.length : Int) - 1))).f1) ((zaC l0 (wrap64 ((l0.length : Int) - 1))).f2) ((zaC l0 (wrap64 ((l0.length : Int) - 1))).f3) ((zaC l0 (wrap64 ((l0.length : Int) - 1))).f4) ((zaC l0 (wrap64 ((l0.length : Int) - 1))).f5)) else (if ((zaC l0 (wrap64 ((l0.length : Int) - 1))).f0) = 116 then (zaH k l0 a1 (a1 == 114) ((zaC l0 (wrap64 ((l0.length : Int) - 1))).f0) ((zaC l0 (wrap64 ((l0.length : Int) - 1))).f1) ((zaC l0 (wrap64 ((l0.length : Int) - 1))).f2) ((zaC l0 (wrap64 ((l0.length : Int) - 1))).f3) ((zaC l0 (wrap64 ((l0.length : Int) - 1))).f4) ((zaC l0 (wrap64 ((l0.length : Int) - 1))).f5)) else (zaH k l0 a1 false ((zaC l0 (wrap64 ((l0.length : Int) - 1))).f0) ((zaC l0 (wrap64 ((l0.length : Int) - 1))).f1) ((zaC l0 (wrap64 ((l0.length : Int) - 1))).f2) ((zaC l0 (wrap64 ((l0.length : Int) - 1))).f3) ((zaC l0 (wrap64 ((l0.length : Int) - 1))).f4) ((zaC l0 (wrap64 ((l0.length : Int) - 1))).f5)))) else (if ((zaC l0 (wrap64 ((l0.length : Int) - 1))).f0) = 116 then (zaH k l0 a1 (a1 == 114) ((zaC l0 (wrap64 ((l0.length : Int) - 1))).f0) ((zaC l0 (wrap64 ((l0.length : Int) - 1))).f1) ((zaC l0 (wrap64 ((l0.length : Int) - 1))).f2) ((zaC l0 (wrap64 ((l0.length : Int) - 1))).f3) ((zaC l0 (wrap64 ((l0.length : Int) - 1))).f4) ((zaC l0 (wrap64 ((l0.length : Int) - 1))).f5)) else (zaH k l0 a1 false ((zaC l0 (wrap64 ((l0.length : Int) - 1))).f0) ((zaC l0 (wrap64 ((l0.length : Int) - 1))).f1) ((zaC l0 (wrap64 ((l0.length : Int) - 1))).f2) ((zaC l0 (wrap64 ((l0.length : Int) - 1))).f3) ((zaC l0 (wrap64 ((l0.length : Int) - 1))).f4) ((zaC l0 (wrap64 ((l0.length : Int) - 1))).f5))))) else (if ((zaC l0 (wrap64 ((l0.length : Int) - 1))).f0) = 108 then (if a1 = 105 then (zaH k l0 a1 true ((zaC l0 (wrap64 ((l0.length : Int) - 1))).f0) ((zaC l0 (wrap64 ((l0.length : Int) - 1))).f1) ((zaC l0 (wrap64 ((l0.length : Int) - 1))).f2) ((zaC l0 (wrap64 ((l0.length : Int) - 1))).f3) ((zaC l0 (wrap64 ((l0.length : Int) - 1))).f4) ((zaC l0 (wrap64 ((l0.length : Int) - 1))).f5)) else (if ((zaC l0 (wrap64 ((l0.length : Int) - 1))).f0) = 116 then (zaH k l0 a1 (a1 == 114) ((zaC l0 (wrap64 ((l0.length : Int) - 1))).f0) ((zaC l0 (wrap64 ((l0.length : Int) - 1))).f1) ((zaC l0 (wrap64 ((l0.length : Int) - 1))).f2) ((zaC l0 (wrap64 ((l0.length : Int) - 1))).f3) ((zaC l0 (wrap64 ((l0.length : Int) - 1))).f4) ((zaC l0 (wrap64 ((l0.length : Int) - 1))).f5)) else (zaH k l0 a1 false ((zaC l0 (wrap64 ((l0.length : Int) - 1))).f0) ((zaC l0 (wrap64 ((l0.length : Int) - 1))).f1) ((zaC l0 (wrap64 ((l0.length : Int) - 1))).f2) ((zaC l0 (wrap64 ((l0.length : Int) - 1))).f3) ((zaC l0 (wrap64 ((l0.length : Int) - 1))).f4) ((zaC l0 (wrap64 ((l0.length : Int) - 1))).f5)))) else (if ((zaC l0 (wrap64 ((l0.length : Int) - 1))).f0) = 116 then (zaH k l0 a1 (a1 == 114) ((zaC l0 (wrap64 ((l0.length : Int) - 1))).f0) ((zaC l0 (wrap64 ((l0.length : Int) - 1))).f1) ((zaC l0 (wrap64 ((l0.length : Int) - 1))).f2) ((zaC l0 (wrap64 ((l0.length : Int) - 1))).f3) ((zaC l0 (wrap64 ((l0.length : Int) - 1))).f4) ((zaC l0 (wrap64 ((l0.length : Int) - 1))).f5)) else (zaH k l0 a1 false ((zaC l0 (wrap64 ((l0.length : Int) - 1))).f0) ((zaC l0 (wrap64 ((l0.length : Int) - 1))).f1) ((zaC l0 (wrap64 ((l0.length : Int) - 1))).f2) ((zaC l0 (wrap64 ((l0.length : Int) - 1))).f3) ((zaC l0 (wrap64 ((l0.length : Int) - 1))).f4) ((zaC l0 (wrap64 ((l0.length : Int) - 1))).f5)))))) else (none)) else (none)) = some r := h
 clear h
 obtain ⟨ji3,hji3⟩ : ∃ j_ : Int,(wrap64 ((l0.length : Int) - 1)) = j_ := ⟨_,rfl⟩
 replace H : (if 0 ≤ (ji3) then (if (ji3) < (l0.length : Int) then (if (l0.length : Int) = 1 then ((stylusref04_in.f k a1 (⟨#[49,50,51,112,108,116,107]⟩ : ByteArray)).bind fun t192 => (some t192)) else (if ((zaC l0 (ji3)).f0) = 105 then (if a1 = 108 then (zaH k l0 a1 true ((zaC l0 (ji3)).f0) ((zaC l0 (ji3)).f1) ((zaC l0 (ji3)).f2) ((zaC l0 (ji3)).f3) ((zaC l0 (ji3)).f4) ((zaC l0 (ji3)).f5)) else (if ((zaC l0 (ji3)).f0) = 108 then (if a1 = 105 then (zaH k l0 a1 true ((zaC l0 (ji3)).f0) ((zaC l0 (ji3)).f1) ((zaC l0 (ji3)).f2) ((zaC l0 (ji3)).f3) ((zaC l0 (ji3)).f4) ((zaC l0 (ji3)).f5)) else (if ((zaC l0 (ji3)).f0) = 116 then (zaH k l0 a1 (a1 == 114) ((zaC l0 (ji3)).f0) ((zaC l0 (ji3)).f1) ((zaC l0 (ji3)).f2) ((zaC l0 (ji3)).f3) ((zaC l0 (ji3)).f4) ((zaC l0 (ji3)).f5)) else (zaH k l0 a1 false ((zaC l0 (ji3)).f0) ((zaC l0 (ji3)).f1) ((zaC l0 (ji3)).f2) ((zaC l0 (ji3)).f3) ((zaC l0 (ji3)).f4) ((zaC l0 (ji3)).f5)))) else (if ((zaC l0 (ji3)).f0) = 116 then (zaH k l0 a1 (a1 == 114) ((zaC l0 (ji3)).f0) ((zaC l0 (ji3)).f1) ((zaC l0 (ji3)).f2) ((zaC l0 (ji3)).f3) ((zaC l0 (ji3)).f4) ((zaC l0 (ji3)).f5)) else (zaH k l0 a1 false ((zaC l0 (ji3)).f0) ((zaC l0 (ji3)).f1) ((zaC l0 (ji3)).f2) ((zaC l0 (ji3)).f3) ((zaC l0 (ji3)).f4) ((zaC l0 (ji3)).f5))))) else (if ((zaC l0 (ji3)).f0) = 108 then (if a1 = 105 then (zaH k l0 a1 true ((zaC l0 (ji3)).f0) ((zaC l0 (ji3)).f1) ((zaC l0 (ji3)).f2) ((zaC l0 (ji3)).f3) ((zaC l0 (ji3)).f4) ((zaC l0 (ji3)).f5)) else (if ((zaC l0 (ji3)).f0) = 116 then (zaH k l0 a1 (a1 == 114) ((zaC l0 (ji3)).f0) ((zaC l0 (ji3)).f1) ((zaC l0 (ji3)).f2) ((zaC l0 (ji3)).f3) ((zaC l0 (ji3)).f4) ((zaC l0 (ji3)).f5)) else (zaH k l0 a1 false ((zaC l0 (ji3)).f0) ((zaC l0 (ji3)).f1) ((zaC l0 (ji3)).f2) ((zaC l0 (ji3)).f3) ((zaC l0 (ji3)).f4) ((zaC l0 (ji3)).f5)))) else (if ((zaC l0 (ji3)).f0) = 116 then (zaH k l0 a1 (a1 == 114) ((zaC l0 (ji3)).f0) ((zaC l0 (ji3)).f1) ((zaC l0 (ji3)).f2) ((zaC l0 (ji3)).f3) ((zaC l0 (ji3)).f4) ((zaC l0 (ji3)).f5)) else (zaH k l0 a1 false ((zaC l0 (ji3)).f0) ((zaC l0 (ji3)).f1) ((zaC l0 (ji3)).f2) ((zaC l0 (ji3)).f3) ((zaC l0 (ji3)).f4) ((zaC l0 (ji3)).f5)))))) else (none)) else (none)) = some r := by first | (rw [hji3] at H;exact H) | (simp only [hji3] at H ⊢;exact H)
 have hji3w : (IntKind.i64.wrap ((l0.length : Int) - 1)) = ji3 := (zaO _).trans hji3
 obtain ⟨c4b0,H⟩ := spN H
 obtain ⟨c5b0,H⟩ := spN H
 obtain ⟨c6b0,c6b1,H⟩ | ⟨c6b0,c6b1,H⟩ := spE H
 ·obtain ⟨t192,A7,H⟩ := bdA H
  obtain rfl := Option.some.inj H
  obtain ⟨ad190,e190,p190,q190,hx190_0,hx190_1,hx190_2,hx190_3,hx190_4,hx190_5⟩ := zlR HR0.out (ji3)
  cases e190
  go_enter Try.func138,Try.ntmps138
  go_wp2_with (first | ((with_reducible refine zdT (N := 5) rfl ?_);(try (refine zeP (by rfl) ?_;dsimp only));refine zeW ?hg (N := 5) ?hd (cs := #[.int .u8 0,.string (⟨#[]⟩ : ByteArray),.int .i64 0,.int .i64 0,.int .i64 0,.string (⟨#[]⟩ : ByteArray)]) (t := 159) ?hr ?_;(case hd => rfl);(case hg => rfl);(case hr => first | (go_simp;done) | (go_simp;rfl));intro gb191 hg w8 hbox hb;obtain ⟨_,_,_⟩ := a3 (zaD qB hb) hbox ((by rw [hg];exact (zaF qB) : w.heap.size ≤ gb191));clear HB hb hbox hg;rename_i HB BK191 GW191;have GE191 := GW191;obtain ⟨_,_,_,_,_,_,_,_,_,_,_,_⟩ := zgU BK191.out) | ((with_reducible refine zaE (f := 140) rfl ?_);refine zaL (some 17) rfl rfl Try.func140 (by kernel_rfl) rfl #[.int .u8 a1,.string (⟨#[49,50,51,112,108,116,107]⟩ : ByteArray)] rfl qM ?_;(with_reducible refine (stylusref04_in.calls k a1 (⟨#[49,50,51,112,108,116,107]⟩ : ByteArray) t192 _ A7.out).mono ?_);rintro e w' ⟨rfl,⟨nd,rfl⟩⟩;refine ⟨_,rfl,?_⟩))
  go_ret
  exact ⟨qF hji3,qG GE191⟩
 have HC10 := Aside0.mk H
 clear H
 obtain ⟨ad190,e190,p190,q190,hx190_0,hx190_1,hx190_2,hx190_3,hx190_4,hx190_5⟩ := zlR HR0.out (ji3)
 cases e190
 go_enter Try.func138,Try.ntmps138
 go_upto_region 4 with (first | ((with_reducible refine zdT (N := 5) rfl ?_);(try (refine zeP (by rfl) ?_;dsimp only));refine zeW ?hg (N := 5) ?hd (cs := #[.int .u8 0,.string (⟨#[]⟩ : ByteArray),.int .i64 0,.int .i64 0,.int .i64 0,.string (⟨#[]⟩ : ByteArray)]) (t := 159) ?hr ?_;(case hd => rfl);(case hg => rfl);(case hr => first | (go_simp;done) | (go_simp;rfl));intro gb191 hg w11 hbox hb;obtain ⟨_,_,_⟩ := a3 (zaD qB hb) hbox ((by rw [hg];exact (zaF qB) : w.heap.size ≤ gb191));clear HB hb hbox hg;rename_i HB BK191 GW191;have GE191 := GW191;obtain ⟨_,_,_,_,_,_,_,_,_,_,_,_⟩ := zgU BK191.out))
 (try simp only [Act.put,szz])
 go_cut [42] (fun v42 wc => ∃ (kq : Nat) (x42_9 : Bool),v42 = .bool x42_9 ∧ Aside0 (zaH kq l0 a1 x42_9 ((zaC l0 (ji3)).f0) ((zaC l0 (ji3)).f1) ((zaC l0 (ji3)).f2) ((zaC l0 (ji3)).f3) ((zaC l0 (ji3)).f4) ((zaC l0 (ji3)).f5) = some r) ∧ Aside0 (kq ≤ k) ∧ Aside0 (wc.heap[gb191]? = some (.cells #[.int .u8 ((zaC l0 (ji3)).f0),.string ((zaC l0 (ji3)).f1),.int .i64 ((zaC l0 (ji3)).f2),.int .i64 ((zaC l0 (ji3)).f3),.int .i64 ((zaC l0 (ji3)).f4),.string ((zaC l0 (ji3)).f5)] 159 (0,0))) ∧ Aside0 (Below w.heap.size w wc))
 case first =>
  have H := HC10.out
  clear HC10
  obtain ⟨c13b0,c13b1,H⟩ | ⟨c13b0,c13b1,H⟩ := spE H
  rotate_left
  ·(first | rw [c13b0] | (simp only [zaO,zaR];rw [c13b0]) | skip)
   obtain ⟨c25b0,c25b1,H⟩ | ⟨c25b0,c25b1,H⟩ := spE H
   rotate_left
   ·obtain ⟨c31b0,c31b1,H⟩ | ⟨c31b0,c31b1,H⟩ := spE H
    ·have H' := Aside0.mk H
     clear H
     obtain ⟨_,_,_,_,_,_,_,_,_,_,_,_⟩ := zgU BK191.out
     go_wp2
     go_meet
     case rel => exact ⟨_,((a1 == 114)),qS,H',⟨by first | omega | exact Nat.le_refl _⟩,⟨qK BK191⟩,⟨qG GE191⟩⟩
    have H' := Aside0.mk H
    clear H
    obtain ⟨_,_,_,_,_,_,_,_,_,_,_,_⟩ := zgU BK191.out
    go_wp2
    go_meet
    case rel => exact ⟨_,(false),qS,H',⟨by first | omega | exact Nat.le_refl _⟩,⟨qK BK191⟩,⟨qG GE191⟩⟩
   obtain ⟨c26b0,c26b1,H⟩ | ⟨c26b0,c26b1,H⟩ := spE H
   ·have H' := Aside0.mk H
    clear H
    obtain ⟨_,_,_,_,_,_,_,_,_,_,_,_⟩ := zgU BK191.out
    go_wp2
    go_meet
    case rel => exact ⟨_,(true),qS,H',⟨by first | omega | exact Nat.le_refl _⟩,⟨qK BK191⟩,⟨qG GE191⟩⟩
   obtain ⟨c28b0,c28b1,H⟩ | ⟨c28b0,c28b1,H⟩ := spE H
   ·have H' := Aside0.mk H
    clear H
    obtain ⟨_,_,_,_,_,_,_,_,_,_,_,_⟩ := zgU BK191.out
    go_wp2
    go_meet
    case rel => exact ⟨_,((a1 == 114)),qS,H',⟨by first | omega | exact Nat.le_refl _⟩,⟨qK BK191⟩,⟨qG GE191⟩⟩
   have H' := Aside0.mk H
   clear H
   obtain ⟨_,_,_,_,_,_,_,_,_,_,_,_⟩ := zgU BK191.out
   go_wp2
   go_meet
   case rel => exact ⟨_,(false),qS,H',⟨by first | omega | exact Nat.le_refl _⟩,⟨qK BK191⟩,⟨qG GE191⟩⟩
  (first | rw [c13b0] | (simp only [zaO,zaR];rw [c13b0]) | skip)
  obtain ⟨c14b0,c14b1,H⟩ | ⟨c14b0,c14b1,H⟩ := spE H
  ·have H' := Aside0.mk H
   clear H
   obtain ⟨_,_,_,_,_,_,_,_,_,_,_,_⟩ := zgU BK191.out
   go_wp2
   go_meet
   case rel => exact ⟨_,(true),qS,H',⟨by first | omega | exact Nat.le_refl _⟩,⟨qK BK191⟩,⟨qG GE191⟩⟩
  obtain ⟨c16b0,c16b1,H⟩ | ⟨c16b0,c16b1,H⟩ := spE H
  rotate_left
  ·obtain ⟨c22b0,c22b1,H⟩ | ⟨c22b0,c22b1,H⟩ := spE H
   ·have H' := Aside0.mk H
    clear H
    obtain ⟨_,_,_,_,_,_,_,_,_,_,_,_⟩ := zgU BK191.out
    go_wp2
    go_meet
    case rel => exact ⟨_,((a1 == 114)),qS,H',⟨by first | omega | exact Nat.le_refl _⟩,⟨qK BK191⟩,⟨qG GE191⟩⟩
   have H' := Aside0.mk H
   clear H
   obtain ⟨_,_,_,_,_,_,_,_,_,_,_,_⟩ := zgU BK191.out
   go_wp2
   go_meet
   case rel => exact ⟨_,(false),qS,H',⟨by first | omega | exact Nat.le_refl _⟩,⟨qK BK191⟩,⟨qG GE191⟩⟩
  obtain ⟨c17b0,c17b1,H⟩ | ⟨c17b0,c17b1,H⟩ := spE H
  ·have H' := Aside0.mk H
   clear H
   obtain ⟨_,_,_,_,_,_,_,_,_,_,_,_⟩ := zgU BK191.out
   go_wp2
   go_meet
   case rel => exact ⟨_,(true),qS,H',⟨by first | omega | exact Nat.le_refl _⟩,⟨qK BK191⟩,⟨qG GE191⟩⟩
  obtain ⟨c19b0,c19b1,H⟩ | ⟨c19b0,c19b1,H⟩ := spE H
  ·have H' := Aside0.mk H
   clear H
   obtain ⟨_,_,_,_,_,_,_,_,_,_,_,_⟩ := zgU BK191.out
   go_wp2
   go_meet
   case rel => exact ⟨_,((a1 == 114)),qS,H',⟨by first | omega | exact Nat.le_refl _⟩,⟨qK BK191⟩,⟨qG GE191⟩⟩
  have H' := Aside0.mk H
  clear H
  obtain ⟨_,_,_,_,_,_,_,_,_,_,_,_⟩ := zgU BK191.out
  go_wp2
  go_meet
  case rel => exact ⟨_,(false),qS,H',⟨by first | omega | exact Nat.le_refl _⟩,⟨qK BK191⟩,⟨qG GE191⟩⟩
 clear HC10
 obtain ⟨kq,x42_9,rfl,HA,HJ9,BK191,HB⟩ := hcut
 cases kq with
 | zero => exact absurd HA.out (by simp [zaH])
 | succ kj9 =>
 have H := HA.out
 clear HA
 simp only [zaH] at H
 by_cases c34 : x42_9 = true
 ·subst c34
  rw [if_pos rfl] at H
  obtain rfl := Option.some.inj H
  go_wp2
  go_ret
  exact ⟨qF hji3,qG GE191⟩
 replace c34 := Bool.eq_false_iff.mpr c34
 subst c34
 rw [if_neg nft] at H
 obtain ⟨c35b0,c35b1,H⟩ | ⟨c35b0,c35b1,H⟩ := spE H
 ·obtain ⟨c36b0,c36b1,H⟩ | ⟨c36b0,c36b1,H⟩ := spE H
  ·obtain rfl := Option.some.inj H
   obtain ⟨_,_,_,_,_,_,_,_,_,_,_,_⟩ := zgU BK191.out
   go_wp2
   go_ret
   exact ⟨qF hji3,qG GE191⟩
  obtain rfl := Option.some.inj H
  obtain ⟨_,_,_,_,_,_,_,_,_,_,_,_⟩ := zgU BK191.out
  go_wp2
  go_ret
  exact ⟨qF hji3,qG GE191⟩
 have HC39 := Aside0.mk H
 clear H
 obtain ⟨_,_,_,_,_,_,_,_,_,_,_,_⟩ := zgU BK191.out
 go_upto_region 8 with (fail)
 go_cut [67] (fun v67 wc => ∃ (kq : Nat) (x67_38 : Bool),v67 = .bool x67_38 ∧ Aside0 (zdI kq l0 a1 x67_38 = some r) ∧ Aside0 (kq ≤ kj9) ∧ Aside0 (wc.heap[gb191]? = some (.cells #[.int .u8 ((zaC l0 (ji3)).f0),.string ((zaC l0 (ji3)).f1),.int .i64 ((zaC l0 (ji3)).f2),.int .i64 ((zaC l0 (ji3)).f3),.int .i64 ((zaC l0 (ji3)).f4),.string ((zaC l0 (ji3)).f5)] 159 (0,0))) ∧ Aside0 (Below w.heap.size w wc))
 case first =>
  have H := HC39.out
  clear HC39
  obtain ⟨t193,A41,H⟩ := bdA H
  by_cases c42 : t193 = true
  rotate_left
  ·replace c42 := Bool.eq_false_iff.mpr c42
   subst c42
   rw [if_neg nft] at H
   have H' := Aside0.mk H
   clear H
   go_wp2_with (first | ((with_reducible refine zaE (f := 108) rfl ?_);refine zaL (some 55) rfl rfl Try.func108 (by kernel_rfl) rfl #[.slice (some ad190) l0.length c0] rfl qM ?_;(with_reducible refine (stylusref04_Texts.calls kj9 _ _ l0 false _ ?side1 ?side2 A41.out).mono ?_);(case side1 => exact qC ((Kd.C_below HR0.out HB.out)));(case side2 => exact HC0.out);rintro e w48 ⟨rfl,hb⟩;refine ⟨_,rfl,?_⟩;obtain ⟨_,_⟩ := a2 (zaG (g := gb191) (o := .cells #[.int .u8 ((zaC l0 (ji3)).f0),.string ((zaC l0 (ji3)).f1),.int .i64 ((zaC l0 (ji3)).f2),.int .i64 ((zaC l0 (ji3)).f3),.int .i64 ((zaC l0 (ji3)).f4),.string ((zaC l0 (ji3)).f5)] 159 (0,0)) (qK BK191) hb) (zaD (qG GE191) hb);clear BK191 HB;rename_i BK191 HB;(try clear hb);(try clear hb2);(try clear hk);(try clear hi)))
   go_meet
   case rel => exact ⟨_,(true),qS,H',⟨by have := HJ9.out;first | omega | exact Nat.le_refl _⟩,⟨qK BK191⟩,⟨qG GE191⟩⟩
  subst c42
  rw [if_pos rfl] at H
  obtain ⟨t194,A43,H⟩ := bdA H
  by_cases c44 : t194 = true
  ·subst c44
   rw [if_pos rfl] at H
   obtain ⟨t195,A45,H⟩ := bdA H
   have H' := Aside0.mk H
   clear H
   go_wp2_with (first | ((with_reducible refine zaE (f := 108) rfl ?_);refine zaL (some 55) rfl rfl Try.func108 (by kernel_rfl) rfl #[.slice (some ad190) l0.length c0] rfl qM ?_;(with_reducible refine (stylusref04_Texts.calls kj9 _ _ l0 true _ ?side1 ?side2 A41.out).mono ?_);(case side1 => exact qC ((Kd.C_below HR0.out HB.out)));(case side2 => exact HC0.out);rintro e w46 ⟨rfl,hb⟩;refine ⟨_,rfl,?_⟩;obtain ⟨_,_⟩ := a2 (zaG (g := gb191) (o := .cells #[.int .u8 ((zaC l0 (ji3)).f0),.string ((zaC l0 (ji3)).f1),.int .i64 ((zaC l0 (ji3)).f2),.int .i64 ((zaC l0 (ji3)).f3),.int .i64 ((zaC l0 (ji3)).f4),.string ((zaC l0 (ji3)).f5)] 159 (0,0)) (qK BK191) hb) (zaD (qG GE191) hb);clear BK191 HB;rename_i BK191 HB;(try clear hb);(try clear hb2);(try clear hk);(try clear hi)) | (go_at_call 140;(with_reducible refine (stylusref04_in.calls kj9 a1 (⟨#[101,115,110]⟩ : ByteArray) true _ A43.out).mono ?_);rintro e w' ⟨rfl,⟨nd,rfl⟩⟩) | (go_at_call 139;(with_reducible refine (stylusref04_many.calls kj9 _ _ l0 a1 t195 _ ?side1 ?side2 A45.out).mono ?_);(case side1 => exact qC ((Kd.C_below HR0.out (qG GE191))));(case side2 => exact HC0.out);rintro e w' ⟨rfl,⟨nd,rfl⟩⟩))
   go_meet
   case rel => exact ⟨_,(decide (t195 > 0)),qS,H',⟨by have := HJ9.out;first | omega | exact Nat.le_refl _⟩,⟨qK BK191⟩,⟨qG GE191⟩⟩
  replace c44 := Bool.eq_false_iff.mpr c44
  subst c44
  rw [if_neg nft] at H
  have H' := Aside0.mk H
  clear H
  go_wp2_with (first | ((with_reducible refine zaE (f := 108) rfl ?_);refine zaL (some 55) rfl rfl Try.func108 (by kernel_rfl) rfl #[.slice (some ad190) l0.length c0] rfl qM ?_;(with_reducible refine (stylusref04_Texts.calls kj9 _ _ l0 true _ ?side1 ?side2 A41.out).mono ?_);(case side1 => exact qC ((Kd.C_below HR0.out HB.out)));(case side2 => exact HC0.out);rintro e w47 ⟨rfl,hb⟩;refine ⟨_,rfl,?_⟩;obtain ⟨_,_⟩ := a2 (zaG (g := gb191) (o := .cells #[.int .u8 ((zaC l0 (ji3)).f0),.string ((zaC l0 (ji3)).f1),.int .i64 ((zaC l0 (ji3)).f2),.int .i64 ((zaC l0 (ji3)).f3),.int .i64 ((zaC l0 (ji3)).f4),.string ((zaC l0 (ji3)).f5)] 159 (0,0)) (qK BK191) hb) (zaD (qG GE191) hb);clear BK191 HB;rename_i BK191 HB;(try clear hb);(try clear hb2);(try clear hk);(try clear hi)) | (go_at_call 140;(with_reducible refine (stylusref04_in.calls kj9 a1 (⟨#[101,115,110]⟩ : ByteArray) false _ A43.out).mono ?_);rintro e w' ⟨rfl,⟨nd,rfl⟩⟩))
  go_meet
  case rel => exact ⟨_,(true),qS,H',⟨by have := HJ9.out;first | omega | exact Nat.le_refl _⟩,⟨qK BK191⟩,⟨qG GE191⟩⟩
 clear HC39
 obtain ⟨kq,x67_38,rfl,HA,HJ38,BK191,HB⟩ := hcut
 cases kq with
 | zero => exact absurd HA.out (by simp [zdI])
 | succ kj38 =>
 have H := HA.out
 clear HA
 simp only [zdI] at H
 by_cases c49 : x67_38 = true
 ·subst c49
  rw [if_pos rfl] at H
  obtain rfl := Option.some.inj H
  go_wp2
  go_ret
  exact ⟨qF hji3,qG GE191⟩
 replace c49 := Bool.eq_false_iff.mpr c49
 subst c49
 rw [if_neg nft] at H
 obtain ⟨c50b0,c50b1,H⟩ | ⟨c50b0,c50b1,H⟩ := spE H
 rotate_left
 ·obtain rfl := Option.some.inj H
  go_wp2
  go_ret
  exact ⟨qF hji3,qG GE191⟩
 obtain ⟨t196,A51,H⟩ := bdA H
 obtain ⟨t197,A52,H⟩ := bdA H
 obtain ⟨c53b0,c53b1,H⟩ | ⟨c53b0,c53b1,H⟩ := spE H
 rotate_left
 ·obtain rfl := Option.some.inj H
  go_wp2_with (first | ((with_reducible refine zaE (f := 137) rfl ?_);refine zaL (some 71) rfl rfl Try.func137 (by kernel_rfl) rfl #[.slice (some ad190) l0.length c0,.string (⟨#[49,50,51,112,105]⟩ : ByteArray)] rfl qM ?_;(with_reducible refine (stylusref04_last.calls kj38 _ _ l0 (⟨#[49,50,51,112,105]⟩ : ByteArray) t196 _ ?side1 ?side2 A51.out).mono ?_);(case side1 => exact qC ((Kd.C_below HR0.out HB.out)));(case side2 => exact HC0.out);rintro e w' ⟨rfl,⟨nd,rfl⟩⟩;refine ⟨_,rfl,?_⟩) | ((with_reducible refine zaE (f := 139) rfl ?_);refine zaL (some 73) rfl rfl Try.func139 (by kernel_rfl) rfl #[.slice (some ad190) l0.length c0,.int .u8 99] rfl qM ?_;(with_reducible refine (stylusref04_many.calls kj38 _ _ l0 99 t197 _ ?side1 ?side2 A52.out).mono ?_);(case side1 => exact qC ((Kd.C_below HR0.out (qG GE191))));(case side2 => exact HC0.out);rintro e w' ⟨rfl,⟨nd,rfl⟩⟩;refine ⟨_,rfl,?_⟩))
  go_ret
  exact ⟨qF hji3,qG GE191⟩
 obtain ⟨c54b0,H⟩ | ⟨c54b0,H⟩ := spDg H
 ·obtain ⟨c55b0,H⟩ := spN H
  obtain ⟨c56b0,H⟩ := spN H
  obtain rfl := Option.some.inj H
  go_wp2_with (first | ((with_reducible refine zaE (f := 137) rfl ?_);refine zaL (some 71) rfl rfl Try.func137 (by kernel_rfl) rfl #[.slice (some ad190) l0.length c0,.string (⟨#[49,50,51,112,105]⟩ : ByteArray)] rfl qM ?_;(with_reducible refine (stylusref04_last.calls kj38 _ _ l0 (⟨#[49,50,51,112,105]⟩ : ByteArray) t196 _ ?side1 ?side2 A51.out).mono ?_);(case side1 => exact qC ((Kd.C_below HR0.out HB.out)));(case side2 => exact HC0.out);rintro e w' ⟨rfl,⟨nd,rfl⟩⟩;refine ⟨_,rfl,?_⟩) | ((with_reducible refine zaE (f := 139) rfl ?_);refine zaL (some 73) rfl rfl Try.func139 (by kernel_rfl) rfl #[.slice (some ad190) l0.length c0,.int .u8 99] rfl qM ?_;(with_reducible refine (stylusref04_many.calls kj38 _ _ l0 99 t197 _ ?side1 ?side2 A52.out).mono ?_);(case side1 => exact qC ((Kd.C_below HR0.out (qG GE191))));(case side2 => exact HC0.out);rintro e w' ⟨rfl,⟨nd,rfl⟩⟩;refine ⟨_,rfl,?_⟩;have p198 : 0 ≤ (t196 : Int) := qD;have q198 : t196 < (l0.length : Int) := qD;obtain ⟨ad198,e198,hx198_0,hx198_1,hx198_2,hx198_3,hx198_4,hx198_5⟩ := znZ HR0.out t196 p198 q198;obtain rfl : ad190 = ad198 := (by injection e198);replace hx198_0 := qH HB hx198_0;replace hx198_1 := qH HB hx198_1;replace hx198_2 := qH HB hx198_2;replace hx198_3 := qH HB hx198_3;replace hx198_4 := qH HB hx198_4;replace hx198_5 := qH HB hx198_5;replace p198 := eq_true p198;replace q198 := eq_true q198))
  go_ret
  exact ⟨qF hji3,qG GE191⟩
 obtain rfl := Option.some.inj H
 go_wp2_with (first | ((with_reducible refine zaE (f := 137) rfl ?_);refine zaL (some 71) rfl rfl Try.func137 (by kernel_rfl) rfl #[.slice (some ad190) l0.length c0,.string (⟨#[49,50,51,112,105]⟩ : ByteArray)] rfl qM ?_;(with_reducible refine (stylusref04_last.calls kj38 _ _ l0 (⟨#[49,50,51,112,105]⟩ : ByteArray) t196 _ ?side1 ?side2 A51.out).mono ?_);(case side1 => exact qC ((Kd.C_below HR0.out HB.out)));(case side2 => exact HC0.out);rintro e w' ⟨rfl,⟨nd,rfl⟩⟩;refine ⟨_,rfl,?_⟩) | ((with_reducible refine zaE (f := 139) rfl ?_);refine zaL (some 73) rfl rfl Try.func139 (by kernel_rfl) rfl #[.slice (some ad190) l0.length c0,.int .u8 99] rfl qM ?_;(with_reducible refine (stylusref04_many.calls kj38 _ _ l0 99 t197 _ ?side1 ?side2 A52.out).mono ?_);(case side1 => exact qC ((Kd.C_below HR0.out (qG GE191))));(case side2 => exact HC0.out);rintro e w' ⟨rfl,⟨nd,rfl⟩⟩;refine ⟨_,rfl,?_⟩))
 go_ret
 exact ⟨qF hji3,qG GE191⟩
end Go.Proofs.Ythcmfjpheanphaa.Pr
namespace Go.Proofs.Ythcmfjpheanphaa.Pr
open Go.RowKit Go.Proofs.YthcmfjpheanphaaW.PrintWords
theorem zgD {n : Nat} (h : n ≤ 9000000) : wrap64 ((n : Int) + 1) = ((n + 1 : Nat) : Int) := by
 rw [show (n : Int) + 1 = ((n + 1 : Nat) : Int) from by omega]
 exact IntWalk.wrap64_in _ ⟨by omega,by omega⟩
theorem zqF (n : Nat) (h : n ≤ 9000000) : wrap64 (((n + 1 : Nat) : Int) - 1) = (n : Int) := by
 rw [show ((n + 1 : Nat) : Int) - 1 = (n : Int) from by omega]
 exact IntWalk.wrap64_in _ ⟨by omega,by omega⟩
def zmM (b : Int) (s : ByteArray) : Nat → Nat → Bool
 | 0,_ => false
 | d + 1,i => if i < s.size then (if bt s i = b then true else zmM b s d (i + 1)) else false
def inB (b : Int) (s : ByteArray) : Bool := zmM b s s.size 0
theorem ybY (b : Int) (s : ByteArray) (hs : s.size ≤ 9000000) : ∀ (d i k : Nat),d + i = s.size → d + 1 ≤ k → zdK k b s i = some (zmM b s d i)
 | 0,i,k,h,hk => by
  obtain ⟨k,rfl⟩ : ∃ q,k = q + 1 := ⟨k - 1,by omega⟩
  rw [zdK,if_neg (by omega)]
  rfl
 | d + 1,i,k,h,hk => by
  obtain ⟨k,rfl⟩ : ∃ q,k = q + 1 := ⟨k - 1,by omega⟩
  rw [zdK,if_pos (by omega),if_pos (by omega)]
  simp only [zmM]
  rw [if_pos (show i < s.size by omega)]
  by_cases hb : bt s (i : Int) = b
  ·rw [if_pos hb,if_pos hb]
  rw [if_neg hb,if_neg hb,zgD (by omega)]
  exact ybY b s hs d (i + 1) k (by omega) (by omega)
theorem in_f (b : Int) (s : ByteArray) (hs : s.size ≤ 9000000) (k : Nat) (hk : s.size + 1 ≤ k) : stylusref04_in.f k b s = some (inB b s) :=
 ybY b s hs s.size 0 k (by omega) hk
def ziL (ks : ByteArray) (r : List S159) : Nat → Int
 | 0 => -1
 | n + 1 => if inB (zaC r ((n + 1 : Nat) : Int)).f0 ks = true then ((n + 1 : Nat) : Int) else ziL ks r n
theorem zwY (ks : ByteArray) (hs : ks.size ≤ 100) (r : List S159) (hr : r.length ≤ 9000000) : ∀ (n k : Nat),n < r.length → n + 102 ≤ k → zcL k r ks n = some (ziL ks r n)
 | 0,k,h,hk => by
  obtain ⟨k,rfl⟩ : ∃ q,k = q + 1 := ⟨k - 1,by omega⟩
  rw [zcL,if_neg (by omega)]
  rfl
 | n + 1,k,h,hk => by
  obtain ⟨k,rfl⟩ : ∃ q,k = q + 1 := ⟨k - 1,by omega⟩
  rw [zcL,if_pos (by omega),if_pos (by omega),if_pos (by omega),in_f _ _ (by omega) _ (by omega),Option.bind_some]
  simp only [ziL]
  by_cases hb : inB (zaC r ((n + 1 : Nat) : Int)).f0 ks = true
  ·rw [if_pos hb,if_pos hb]
  rw [if_neg hb,if_neg hb,zqF n (by omega)]
  exact zwY ks hs r hr n k (by omega) (by omega)
def lastP (ks : ByteArray) (r : List S159) : Int := ziL ks r (r.length - 1)
theorem zuI (ks : ByteArray) (hs : ks.size ≤ 100) (r : List S159) (hr : r.length ≤ 9000000) (h0 : 0 < r.length) (k : Nat) (hk : r.length + 102 ≤ k) : stylusref04_last.f k r ks = some (lastP ks r) := by
 unfold stylusref04_last.f lastP
 obtain ⟨n,hn⟩ : ∃ n,r.length = n + 1 := ⟨r.length - 1,by omega⟩
 rw [hn,zqF n (by omega),Nat.add_sub_cancel]
 exact zwY ks hs r hr n k (by omega) (by omega)
def manyR (b : Int) (r : List S159) : Nat → Nat → Nat
 | 0,_ => 0
 | d + 1,i => (if (zaC r i).f0 = b then 1 else 0) + manyR b r d (i + 1)
def ziY (b : Int) (r : List S159) : Nat := manyR b r (r.length - 1) 1
theorem zqG (b : Int) (r : List S159) (hr : r.length ≤ 9000000) : ∀ (d i k n : Nat),d + i = r.length → n ≤ i → d + 1 ≤ k → zcR k r b n i = some ((n + manyR b r d i : Nat) : Int)
 | 0,i,k,n,h,hn,hk => by
  obtain ⟨k,rfl⟩ : ∃ q,k = q + 1 := ⟨k - 1,by omega⟩
  rw [zcR,if_neg (by omega)]
  rfl
 | d + 1,i,k,n,h,hn,hk => by
  obtain ⟨k,rfl⟩ : ∃ q,k = q + 1 := ⟨k - 1,by omega⟩
  rw [zcR,if_pos (by omega),if_pos (by omega)]
  simp only [manyR]
  by_cases hb : (zaC r (i : Int)).f0 = b
  ·rw [if_pos hb,if_pos hb,zgD (by omega),zgD (by omega),zqG b r hr d (i + 1) k (n + 1) (by omega) (by omega) (by omega)]
   congr 2
   omega
  rw [if_neg hb,if_neg hb,zgD (by omega),zqG b r hr d (i + 1) k n (by omega) (by omega) (by omega)]
  congr 2
  omega
theorem zzF (b : Int) (r : List S159) (hr : r.length ≤ 9000000) (h0 : 0 < r.length) (k : Nat) (hk : r.length + 1 ≤ k) : stylusref04_many.f k r b = some (ziY b r : Int) := by
 unfold stylusref04_many.f ziY
 have := zqG b r hr (r.length - 1) 1 k 0 (by omega) (by omega) (by omega)
 rw [Nat.zero_add] at this
 exact this
def topR (r : List S159) : S159 := zaC r ((r.length - 1 : Nat) : Int)
def zrJ : ByteArray := ⟨#[49,50,51,112,99,110,101,115]⟩
def zfQ (r : List S159) : Bool := if inB (topR r).f0 zrJ = true then true else if (topR r).f0 = 105 then !inB 108 (topR r).f1 else false
theorem zrK (r : List S159) (hr : r.length ≤ 9000000) (h0 : 0 < r.length) (ht : (topR r).f1.size ≤ 9000000) (k : Nat) (hk : (topR r).f1.size + 101 ≤ k) : stylusref04_Texts.f k r = some (zfQ r) := by
 unfold stylusref04_Texts.f zfQ topR at *
 obtain ⟨n,hn⟩ : ∃ n,r.length = n + 1 := ⟨r.length - 1,by omega⟩
 rw [hn,zqF n (by omega)]
 rw [hn,Nat.add_sub_cancel] at ht hk
 rw [Nat.add_sub_cancel,if_pos (by omega),if_pos (by omega)]
 rw [in_f _ ⟨#[49,50,51,112,99,110,101,115]⟩ (by decide) k (by show 8 + 1 ≤ k;omega),Option.bind_some]
 show (if inB _ zrJ = true then _ else _) = _
 by_cases h1 : inB (zaC r (n : Int)).f0 zrJ = true
 ·rw [if_pos h1,if_pos h1]
 rw [if_neg h1,if_neg h1]
 by_cases h2 : (zaC r (n : Int)).f0 = 105
 ·rw [if_pos h2,if_pos h2,in_f _ _ ht k (by omega),Option.bind_some]
 rw [if_neg h2,if_neg h2]
structure RSt where
 t : List S56
 r : List S159
def dotB : ByteArray := ⟨#[46]⟩
def kidR (b : ByteArray) (x : S159) : S159 := { x with f1 := x.f1 ++ b }
def zoV (b : ByteArray) (x : S159) : S159 := { x with f5 := x.f5 ++ b }
def ziZ (x : S159) : S159 := { x with f3 := x.f3 + 1 }
def colR (n : Int) (x : S159) : S159 := { x with f4 := n }
def nB : ByteArray := ⟨#[110]⟩
def zfG : ByteArray := ⟨#[49,50,51,112,105]⟩
def zdC (k : Int) : ByteArray := ⟨#[k.toNat.toUInt8]⟩
def zjH (b : ByteArray) (r : List S159) : List S159 := if 0 < lastP nB r then r.modify (lastP nB r).toNat (zoV b) else r
def zgF (k : Int) (r : List S159) : List S159 := if k = 110 then r.modify (mx (lastP zfG r) 0).toNat ziZ else r
def zhA (r : List S159) : List S159 := if (topR r).f0 = 114 ∧ (zaC r ((r.length - 2 : Nat) : Int)).f4 = 0 then r.modify (r.length - 2) (colR (topR r).f1.size) else r
def zgN (s : RSt) (x : S47) : Option RSt :=
 if x.f0 = 1 then
  (if zfQ s.r = true then some ⟨s.t ++ [⟨46,x.f2,x.f3,1⟩],zjH x.f2 (s.r.modify (s.r.length - 1) (kidR dotB))⟩ else some s)
 else if x.f0 = 2 then some ⟨s.t ++ [⟨x.f1,⟨#[]⟩,x.f3,1⟩],zgF x.f1 (s.r.modify (s.r.length - 1) (kidR (zdC x.f1))) ++ [⟨x.f1,⟨#[]⟩,s.t.length,0,0,⟨#[]⟩⟩]⟩
 else if 2 ≤ s.r.length ∧ 0 ≤ (topR s.r).f2 ∧ (topR s.r).f2 < s.t.length then some ⟨s.t.modify (topR s.r).f2.toNat (zlN (s.t.length - (topR s.r).f2)),(zhA s.r).dropLast⟩
 else none
def zjA : RSt → List S47 → Option RSt
 | s,[] => some s
 | s,x :: l => (zgN s x).bind fun s' => zjA s' l
def zkW : RSt := ⟨[],[z159]⟩
end Go.Proofs.Ythcmfjpheanphaa.Pr
namespace Go.Proofs.Ythcmfjpheanphaa.Pr
open Go.RowKit Go.Proofs.Ythcmfjpheanphaa.Pure Go.Proofs.YthcmfjpheanphaaW.PrintWords
def ltrB : ByteArray := ⟨#[108,116,114]⟩
def zeS (o : Bool) (u : RSt) (x : S47) : Int × Int :=
 if x.f0 = 1 then
  (if zfQ u.r = true then (if 2000 ≤ u.t.length then (x.f3,4) else if 0 < lastP nB u.r then (if 60 < wrap64 (((zaC u.r (lastP nB u.r)).f5.size : Int) + x.f2.size) then (x.f3,4) else (0,0)) else (0,0))
   else if zdR x.f2 x.f2.size 0 < x.f2.size then (wrap64 (x.f3 + zdR x.f2 x.f2.size 0),2) else (0,0))
 else if x.f0 = 2 then
  (if o = true then (if 32 < u.r.length ∨ (x.f1 = 108 ∧ 8 ≤ ziY 108 u.r) then (x.f3,5) else if 2000 ≤ u.t.length then (x.f3,4) else (0,0)) else (x.f3,2))
 else if u.r.length = 1 ∨ (inB (topR u.r).f0 ltrB = true ∧ (topR u.r).f1.size = 0) then (x.f3,2)
 else if (topR u.r).f0 = 114 then (if 0 < (zaC u.r ((u.r.length - 2 : Nat) : Int)).f4 then (if (zaC u.r ((u.r.length - 2 : Nat) : Int)).f4 = (topR u.r).f1.size then (0,0) else (x.f3,2)) else (0,0))
 else (0,0)
theorem zqH (ks : ByteArray) (r : List S159) : lastP ks r < (r.length : Int) ∨ lastP ks r ≤ 0 := by
 have go : ∀ n : Nat,ziL ks r n ≤ n := by
  intro n
  induction n with
  | zero => show (-1 : Int) ≤ _;omega
  | succ n ih => simp only [ziL];split <;> omega
 have := go (r.length - 1)
 unfold lastP
 omega
theorem ziM (b : ByteArray) : (b.toList == ([] : List UInt8)) = decide (b.size = 0) := by
 have h := zeR b
 rw [← h]
 cases b.toList <;> rfl
end Go.Proofs.Ythcmfjpheanphaa.Pr
