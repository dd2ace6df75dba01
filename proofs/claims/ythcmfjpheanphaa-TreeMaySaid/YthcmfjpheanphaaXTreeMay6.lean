/- Texts of this seat, one behind the other. -/
import Derived.Test.YthcmfjpheanphaaXTreeMay1
import Derived.Test.YthcmfjpheanphaaXTreeMay2
import Derived.Test.YthcmfjpheanphaaXTreeMay4
import Derived.Test.YthcmfjpheanphaaXTreeMay5
set_option linter.unusedVariables false
set_option linter.unusedSimpArgs false
namespace Go.Proofs.Ythcmfjpheanphaa.Pr
open Go.RowKit Go.Proofs.YthcmfjpheanphaaW.PrintWords
attribute [local go_sem] Oper.semAt_some
theorem check1_calls (x : S56) (w : World) (hs : x.f1.size ≤ 140737488351232) :
  Calls Try.prog 100 #[.agg #[.int .u8 x.f0, .string x.f1, .int .i64 x.f2, .int .i64 x.f3]] w fun e w' => e = .returned (.bool (!plainB x)) ∧ Below w.heap.size w w' := by
 have hp := fun W => plainN_calls x W hs
 obtain ⟨f0, f1, f2, f3⟩ := x
 generalize plainB ⟨f0, f1, f2, f3⟩ = b at *
 have HP := Lib.hid hp
 have HB := Lib.hid (show Below w.heap.size w (w.alloc (.cells #[.int .u8 f0, .string f1, .int .i64 f2, .int .i64 f3] 56)) from (Below.refl _ _).alloc (Nat.le_refl _) _)
 clear hp
 go_enter Try.func100, Try.ntmps100
 go_wp2_with (go_at_call 101; refine (HP.out _).mono ?_; rintro e w' ⟨rfl, hb⟩)
 go_ret
 exact ⟨rfl, HB.out.trans (hb.mono HB.out.size)⟩
def oddAt : List S56 → Int → Int
 | [], _ => -1
 | x :: xs, i => if plainB x = true then oddAt xs (i + 1) else i
theorem oddAt_any : ∀ (xs : List S56) (i : Int), 0 ≤ i → decide (0 ≤ oddAt xs i) = xs.any fun x => !plainB x
 | [], i, h => by simp [oddAt]
 | x :: xs, i, h => by
  rw [List.any_cons]
  by_cases hp : plainB x = true
  ·rw [show oddAt (x :: xs) i = oddAt xs (i + 1) from if_pos hp, oddAt_any xs (i + 1) (by omega), hp]; rfl
  ·have hq : plainB x = false := by simpa using hp
   rw [show oddAt (x :: xs) i = i from if_neg hp, decide_eq_true h, hq]; rfl
theorem rd56_dropH (xs : List S56) (k : Nat) (h : k < xs.length) : xs.drop k = rd_T56 xs k :: xs.drop (k + 1) := by
 rw [List.drop_eq_getElem_cons h]
 congr 1
 unfold rd_T56
 rw [Int.toNat_natCast, List.getD_eq_getElem?_getD, List.getElem?_eq_getElem h]
 rfl
theorem rd56_mem (xs : List S56) (k : Nat) (h : k < xs.length) : rd_T56 xs k ∈ xs := by
 unfold rd_T56
 rw [Int.toNat_natCast, List.getD_eq_getElem?_getD, List.getElem?_eq_getElem h]
 exact List.getElem_mem h
set_option maxRecDepth 100000 in
set_option maxHeartbeats 4000000 in
theorem indexN_calls (A : Option Addr) (c : Nat) (xs : List S56) (w : World) (hx : xs.length ≤ 140737488351232) (hz : ∀ x ∈ xs, x.f1.size ≤ 140737488351232) (hA : Kd.C k56 w A xs.length xs) :
  Calls Try.prog 141 #[.slice A xs.length c, .func (.func 100) #[] #[]] w fun e w' => e = .returned (.int .i64 (oddAt xs 0)) ∧ Below w.heap.size w w' := by
 have HA := Lib.hid hA
 have HZ := Lib.hid hz
 obtain ⟨F, hF⟩ : ∃ F, oddAt xs 0 = F := ⟨_, rfl⟩
 rw [hF]
 have HF := Lib.hid hF
 obtain ⟨n, hn⟩ : ∃ n, xs.length = n := ⟨_, rfl⟩
 rw [hn] at hx ⊢
 have HN := Lib.hid hn
 clear hA hz hF hn
 go_enter Try.func141, Try.ntmps141
 go_wp2
 go_loopw [8] (fun v wr => ∃ k : Nat, k ≤ n ∧ v = .int .i64 k ∧ Below w.heap.size w wr ∧ oddAt (xs.drop k) k = F) (fun v _ => n - (intOf v).toNat)
 case atStart => exact ⟨0, Nat.zero_le _, rfl, Below.refl _ _, HF.out⟩
 case round =>
  obtain ⟨k, hk, rfl, hB, hs⟩ := hrel
  by_cases hlt : k < n
  ·have hlt1 : (k : Int) < (n : Int) := by omega
   rw [rd56_dropH xs k (by have := HN.out; omega)] at hs
   obtain ⟨ad, e1, q0, q1, q2, q3⟩ := at_T56 (Kd.C_below HA.out hB) k (by omega) (by have := HN.out; omega)
   subst e1
   simp only [Int.toNat_natCast] at q0 q1 q2 q3
   have hc := fun W => check1_calls (rd_T56 xs k) W (HZ.out _ (rd56_mem xs k (by have := HN.out; omega)))
   generalize rd_T56 xs k = x at *
   obtain ⟨f0, f1, f2, f3⟩ := x
   simp only at q0 q1 q2 q3
   have hs' : (if plainB ⟨f0, f1, f2, f3⟩ = true then oddAt (xs.drop (k + 1)) ((k : Int) + 1) else (k : Int)) = F := hs
   obtain ⟨b, hb⟩ : ∃ b, plainB ⟨f0, f1, f2, f3⟩ = b := ⟨_, rfl⟩
   rw [hb] at hs'
   simp only [hb] at hc
   have HS := Lib.hid hs'
   have HC := Lib.hid hc
   clear hs hs' hc hb
   cases b
   ·go_wp2_with (go_at_call 100; refine (HC.out _).mono ?_; rintro e w2 ⟨rfl, hb2⟩)
    go_ret
    exact ⟨by rw [← HS.out]; rfl, hB.trans (hb2.mono hB.size)⟩
   ·go_wp2_with (go_at_call 100; refine (HC.out _).mono ?_; rintro e w2 ⟨rfl, hb2⟩)
    go_roundw
    case rel => exact ⟨k + 1, by omega, by go_num, hB.trans (hb2.mono hB.size), by rw [← HS.out]; simp only [if_true]; congr 1⟩
    case measure => simp [intOf]; omega
  ·obtain rfl : k = n := by omega
   have hlt1 : ¬ (k : Int) < (k : Int) := by omega
   have hR : F = -1 := by
    rw [← hs, List.drop_of_length_le (by have := HN.out; omega)]
    rfl
   subst hR
   clear hs
   go_wp2
   go_ret
   exact ⟨rfl, hB⟩
theorem containsN_calls (A : Option Addr) (c : Nat) (xs : List S56) (w : World) (hx : xs.length ≤ 140737488351232) (hz : ∀ x ∈ xs, x.f1.size ≤ 140737488351232) (hA : Kd.C k56 w A xs.length xs) :
  Calls Try.prog 99 #[.slice A xs.length c, .func (.func 100) #[] #[]] w fun e w' => e = .returned (.bool (xs.any fun x => !plainB x)) ∧ Below w.heap.size w w' := by
 have h1 := indexN_calls A c xs w hx hz hA
 rw [← oddAt_any xs 0 (Int.le_refl _)]
 generalize oddAt xs 0 = F at *
 have H1 := Lib.hid h1
 clear h1 hA hz
 go_enter Try.func99, Try.ntmps99
 go_wp2_with (go_at_call 141; refine H1.out.mono ?_; rintro e w' ⟨rfl, hb⟩)
 go_ret
 exact ⟨rfl, hb⟩
def worseL (a b : Int) : List Int → Int
 | [] => 0
 | e :: l => if (a == e || b == e) = true then e else worseL a b l
def worseP (a b : Int) : Int := worseL a b [2, 5, 4]
set_option maxRecDepth 100000 in
set_option maxHeartbeats 4000000 in
theorem worse_calls (a b : Int) (w : World) : Calls Try.prog 105 #[.int .i64 a, .int .i64 b] w fun e w' => e = .returned (.int .i64 (worseP a b)) ∧ w' = w := by
 obtain ⟨F, hF⟩ : ∃ F, worseP a b = F := ⟨_, rfl⟩
 rw [hF]
 have HF := Lib.hid (show worseL a b ([2, 5, 4].drop 0) = F from hF)
 have i0 : ∀ W : World, (Instr.index 170 (.agg #[.int .i64 2, .int .i64 5, .int .i64 4]) (.int .i64 0)).run Try.prog W = .ok (.int .i64 2) W := fun W => by rfl
 have i1 : ∀ W : World, (Instr.index 170 (.agg #[.int .i64 2, .int .i64 5, .int .i64 4]) (.int .i64 1)).run Try.prog W = .ok (.int .i64 5) W := fun W => by rfl
 have i2 : ∀ W : World, (Instr.index 170 (.agg #[.int .i64 2, .int .i64 5, .int .i64 4]) (.int .i64 2)).run Try.prog W = .ok (.int .i64 4) W := fun W => by rfl
 clear hF
 go_enter Try.func105, Try.ntmps105
 go_wp2
 go_loop [8] (fun v => ∃ k : Nat, k ≤ 3 ∧ v = .int .i64 k ∧ worseL a b ([2, 5, 4].drop k) = F) (fun v => 3 - (intOf v).toNat)
 case atStart => exact ⟨0, by omega, rfl, HF.out⟩
 case round =>
  obtain ⟨k, hk, rfl, hw⟩ := hrel
  have hcase : k = 0 ∨ k = 1 ∨ k = 2 ∨ k = 3 := by omega
  rcases hcase with rfl | rfl | rfl | rfl
  ·have HW := Lib.hid hw
   clear hw
   cases ha : (a == 2)
   ·cases hb : (b == 2)
    ·go_wp2
     go_round
     case rel => exact ⟨1, by omega, rfl, by rw [← HW.out]; simp [worseL, ha, hb]⟩
     case measure => simp [intOf]
    ·go_wp2
     go_ret
     exact ⟨by rw [← HW.out]; simp [worseL, hb], rfl⟩
   ·go_wp2
    go_ret
    exact ⟨by rw [← HW.out]; simp [worseL, ha], rfl⟩
  ·have HW := Lib.hid hw
   clear hw
   cases ha : (a == 5)
   ·cases hb : (b == 5)
    ·go_wp2
     go_round
     case rel => exact ⟨2, by omega, rfl, by rw [← HW.out]; simp [worseL, ha, hb]⟩
     case measure => simp [intOf]
    ·go_wp2
     go_ret
     exact ⟨by rw [← HW.out]; simp [worseL, hb], rfl⟩
   ·go_wp2
    go_ret
    exact ⟨by rw [← HW.out]; simp [worseL, ha], rfl⟩
  ·have HW := Lib.hid hw
   clear hw
   cases ha : (a == 4)
   ·cases hb : (b == 4)
    ·go_wp2
     go_round
     case rel => exact ⟨3, by omega, rfl, by rw [← HW.out]; simp [worseL, ha, hb]⟩
     case measure => simp [intOf]
    ·go_wp2
     go_ret
     exact ⟨by rw [← HW.out]; simp [worseL, hb], rfl⟩
   ·go_wp2
    go_ret
    exact ⟨by rw [← HW.out]; simp [worseL, ha], rfl⟩
  ·have hR : F = 0 := by rw [← hw]; rfl
   subst hR
   clear hw
   go_wp2
   go_ret
   exact ⟨rfl, rfl⟩
end Go.Proofs.Ythcmfjpheanphaa.Pr
