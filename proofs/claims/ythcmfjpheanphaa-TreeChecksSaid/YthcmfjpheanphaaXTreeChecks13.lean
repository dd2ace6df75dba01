/- Texts of this seat, one behind the other. -/
import Derived.Lib.Hide
import Derived.WalkKit
import Derived.Outline
import Derived.Test.YthcmfjpheanphaaXTreeChecks1
import Derived.Test.YthcmfjpheanphaaXTreeChecks2
import Derived.Test.YthcmfjpheanphaaXTreeChecks3
import Derived.Test.YthcmfjpheanphaaXTreeChecks4
import Derived.Test.YthcmfjpheanphaaXTreeChecks5
import Derived.Test.YthcmfjpheanphaaXTreeChecks6
import Derived.Test.YthcmfjpheanphaaXTreeChecks7
import Derived.Test.YthcmfjpheanphaaXTreeChecks8
import Derived.Test.YthcmfjpheanphaaXTreeChecks9
import Derived.Test.YthcmfjpheanphaaXTreeChecks10
import Derived.Test.YthcmfjpheanphaaXTreeChecks11
import Derived.Test.YthcmfjpheanphaaXTreeChecks12
set_option linter.unusedVariables false
set_option linter.unusedSimpArgs false
namespace Go.Proofs.Ythcmfjpheanphaa.Pr
open Go.RowKit Go.Proofs.Ythcmfjpheanphaa.Pure Go.Proofs.YthcmfjpheanphaaW.PrintWords
def evOk : Nat → List S56 → Nat → Nat → Bool
 | 0, _, _, _ => true
 | n + 1, t, a, e => if a < e then (decide (1 ≤ (rd_T56 t a).f3 ∧ (rd_T56 t a).f3 ≤ (e : Int) - a) && (if (rd_T56 t a).f0 = 46 then decide ((rd_T56 t a).f3 = 1) && evOk n t (a + 1) e
   else evOk n t (a + 1) (a + (rd_T56 t a).f3.toNat) && evOk n t (a + (rd_T56 t a).f3.toNat) e)) else true
theorem evOk_iff (t : List S56) : ∀ (n a e : Nat), e - a ≤ n → (evOk n t a e = true ↔ sizedT t a e = true ∧ ∀ i, a ≤ i → i < e → (rd_T56 t i).f0 = 46 → (rd_T56 t i).f3 = 1)
 | 0, a, e, h => by
  rw [sizedT_end t a e (by omega)]
  simp only [evOk, true_and, true_iff]
  intro i h1 h2
  omega
 | n + 1, a, e, h => by
  simp only [evOk]
  by_cases hlt : a < e
  ·rw [if_pos hlt, sizedT_step t a e hlt]
   by_cases hc : 1 ≤ (rd_T56 t a).f3 ∧ (rd_T56 t a).f3 ≤ (e : Int) - a
   ·rw [if_pos hc, decide_eq_true hc, Bool.true_and]
    by_cases h46 : (rd_T56 t a).f0 = 46
    ·rw [if_pos h46, Bool.and_eq_true, decide_eq_true_eq, evOk_iff t n (a + 1) e (by omega)]
     constructor
     ·rintro ⟨h1, h2, h3⟩
      refine ⟨?_, fun i g1 g2 g3 => ?_⟩
      ·rw [h1, show a + Int.toNat 1 = a + 1 from rfl, sizedT_end t (a + 1) (a + 1) (by omega), h2]
       rfl
      ·by_cases e1 : i = a
       ·subst e1; exact h1
       ·exact h3 i (by omega) g2 g3
     ·rintro ⟨h1, h2⟩
      have h3 := h2 a (Nat.le_refl _) hlt h46
      rw [h3, show a + Int.toNat 1 = a + 1 from rfl, Bool.and_eq_true] at h1
      exact ⟨h3, h1.2, fun i g1 g2 g3 => h2 i (by omega) g2 g3⟩
    ·rw [if_neg h46, Bool.and_eq_true, Bool.and_eq_true, evOk_iff t n (a + 1) _ (by omega), evOk_iff t n _ e (by omega)]
     constructor
     ·rintro ⟨⟨h1, h2⟩, h3, h4⟩
      refine ⟨⟨h1, h3⟩, fun i g1 g2 g3 => ?_⟩
      by_cases e1 : i = a
      ·subst e1; exact absurd g3 h46
      ·by_cases e2 : i < a + (rd_T56 t a).f3.toNat
       ·exact h2 i (by omega) e2 g3
       ·exact h4 i (by omega) g2 g3
     ·rintro ⟨⟨h1, h3⟩, h2⟩
      exact ⟨⟨h1, fun i g1 g2 g3 => h2 i (by omega) (by omega) g3⟩, h3, fun i g1 g2 g3 => h2 i (by omega) g2 g3⟩
   ·rw [if_neg hc, decide_eq_false hc]
    simp
  ·rw [if_neg hlt, sizedT_end t a e hlt]
   simp only [true_and, true_iff]
   intro i h1 h2
   omega
theorem evF_len (t : List S56) : ∀ (n a e : Nat), a ≤ e → evOk n t a e = true → (evF n t a e).length ≤ 2 * (e - a)
 | 0, a, e, _, _ => Nat.zero_le _
 | n + 1, a, e, hae, h => by
  simp only [evOk] at h
  simp only [evF]
  by_cases hlt : a < e
  ·rw [if_pos hlt] at h ⊢
   rw [Bool.and_eq_true, decide_eq_true_eq] at h
   obtain ⟨hc, h⟩ := h
   by_cases h46 : (rd_T56 t a).f0 = 46
   ·rw [if_pos h46] at h ⊢
    rw [Bool.and_eq_true] at h
    have := evF_len t n (a + 1) e (by omega) h.2
    rw [List.length_cons]
    omega
   ·rw [if_neg h46] at h ⊢
    rw [Bool.and_eq_true] at h
    have h1 := evF_len t n (a + 1) (a + (rd_T56 t a).f3.toNat) (by omega) h.1
    have h2 := evF_len t n (a + (rd_T56 t a).f3.toNat) e (by omega) h.2
    rw [List.length_cons, List.length_append, List.length_cons]
    omega
  ·rw [if_neg hlt]
   exact Nat.zero_le _
def I64 (n : Int) : Prop := -9223372036854775808 ≤ n ∧ n ≤ 9223372036854775807
theorem ev_loop (t : List S56) (hl : t.length ≤ 1000000) (hw : ∀ i, I64 (rd_T56 t i).f3) : ∀ (n a e k : Nat) (acc : List S47), e - a ≤ n → a ≤ e → e ≤ t.length → 3 * n + 1 ≤ k → acc.length ≤ 2 * a →
  stylusref04_events.l0 k t a e acc = some (if evOk n t a e = true then (acc ++ evF n t a e, true) else ([], false))
 | 0, a, e, k, acc, h, hae, he, hk, hacc => by
  obtain ⟨k, rfl⟩ : ∃ q, k = q + 1 := ⟨k - 1, by omega⟩
  rw [stylusref04_events.l0, if_neg (by omega)]
  simp [evOk, evF]
 | n + 1, a, e, k, acc, h, hae, he, hk, hacc => by
  obtain ⟨k, rfl⟩ : ∃ q, k = q + 2 := ⟨k - 2, by omega⟩
  rw [stylusref04_events.l0]
  by_cases hlt : a < e
  ·rw [if_pos (by omega), if_pos (by omega), if_pos (by omega)]
   have hwa := hw a
   have hbad : ¬ (1 ≤ (rd_T56 t a).f3 ∧ (rd_T56 t a).f3 ≤ (e : Int) - a) → evOk (n + 1) t a e = false := fun hc => by
    simp only [evOk]
    rw [if_pos hlt, decide_eq_false hc, Bool.false_and]
   have hj : ∀ x4 x5 x6 x7, stylusref04_events.j1 (k + 1) t a e acc true x4 x5 x6 x7 = some ([], false) := fun x4 x5 x6 x7 => by
    rw [stylusref04_events.j1, if_pos rfl]
   by_cases h1 : (rd_T56 t a).f3 < 1
   ·rw [if_pos h1, hj, hbad (by omega)]
    rfl
   ·rw [if_neg h1]
    by_cases h2 : (rd_T56 t a).f3 ≤ (e : Int) - a
    ·have hwr : wrap64 ((a : Int) + (rd_T56 t a).f3) = ((a + (rd_T56 t a).f3.toNat : Nat) : Int) := by
      rw [show (a : Int) + (rd_T56 t a).f3 = ((a + (rd_T56 t a).f3.toNat : Nat) : Int) from by omega]
      exact IntWalk.wrap64_in _ ⟨by omega, by omega⟩
     rw [hwr, if_neg (by omega), decide_eq_false (show ¬ ((a + (rd_T56 t a).f3.toNat : Nat) : Int) < (a : Int) by omega)]
     rw [stylusref04_events.j1, if_neg (by decide)]
     have hE : evOk (n + 1) t a e = (if (rd_T56 t a).f0 = 46 then decide ((rd_T56 t a).f3 = 1) && evOk n t (a + 1) e
       else evOk n t (a + 1) (a + (rd_T56 t a).f3.toNat) && evOk n t (a + (rd_T56 t a).f3.toNat) e) := by
      rw [evOk, if_pos hlt, decide_eq_true (show 1 ≤ (rd_T56 t a).f3 ∧ (rd_T56 t a).f3 ≤ (e : Int) - a from ⟨by omega, h2⟩), Bool.true_and]
     have hF : evF (n + 1) t a e = (if (rd_T56 t a).f0 = 46 then nodeX (rd_T56 t a) :: evF n t (a + 1) e
       else nodeX (rd_T56 t a) :: (evF n t (a + 1) (a + (rd_T56 t a).f3.toNat) ++ shutX :: evF n t (a + (rd_T56 t a).f3.toNat) e)) := by
      rw [evF, if_pos hlt]
     rw [hE, hF]
     by_cases h46 : (rd_T56 t a).f0 = 46
     ·rw [if_pos h46, if_pos h46, if_pos h46]
      have hnx : nodeX (rd_T56 t a) = ⟨1, 0, (rd_T56 t a).f1, 0⟩ := by unfold nodeX; rw [if_pos h46]
      by_cases h3 : (rd_T56 t a).f3 = 1
      ·rw [if_pos h3, if_pos (by omega), decide_eq_true h3, Bool.true_and, hwr, show a + (rd_T56 t a).f3.toNat = a + 1 from by omega]
       rw [ev_loop t hl hw n (a + 1) e k _ (by omega) (by omega) he (by omega) (by simp; omega), hnx, List.append_assoc]
       rfl
      ·rw [if_neg h3, decide_eq_false h3, Bool.false_and]
       rfl
     ·rw [if_neg h46, if_neg h46, if_neg h46, hwr, wrap_s (by omega)]
      have hnx : nodeX (rd_T56 t a) = ⟨2, (rd_T56 t a).f0, ⟨#[]⟩, 0⟩ := by unfold nodeX; rw [if_neg h46]
      have hin : stylusref04_events.f k t ((a + 1 : Nat) : Int) ((a + (rd_T56 t a).f3.toNat : Nat) : Int) = some (if evOk n t (a + 1) (a + (rd_T56 t a).f3.toNat) = true then (evF n t (a + 1) (a + (rd_T56 t a).f3.toNat), true) else ([], false)) := by
       obtain ⟨k, rfl⟩ : ∃ q, k = q + 1 := ⟨k - 1, by omega⟩
       rw [stylusref04_events.f, ev_loop t hl hw n (a + 1) _ k [] (by omega) (by omega) (by omega) (by omega) (by simp)]
       rfl
      rw [hin, Option.bind_some]
      by_cases h5 : evOk n t (a + 1) (a + (rd_T56 t a).f3.toNat) = true
      ·have hlen := evF_len t n (a + 1) (a + (rd_T56 t a).f3.toNat) (by omega) h5
       rw [if_pos h5, if_pos rfl, if_pos (by omega), Option.bind_some, if_pos (by simp only [List.length_append, List.length_singleton]; omega), Option.bind_some,
        if_pos (by simp only [List.length_append, List.length_singleton]; omega)]
       rw [ev_loop t hl hw n (a + (rd_T56 t a).f3.toNat) e k _ (by omega) (by omega) he (by omega) (by simp only [List.length_append, List.length_singleton]; omega), h5, Bool.true_and, hnx]
       simp only [List.append_assoc, List.singleton_append, List.cons_append]
       rfl
      ·rw [if_neg h5, if_neg (by decide)]
       rw [Bool.eq_false_iff.mpr h5, Bool.false_and]
       rfl
    ·rw [hbad (by omega)]
     by_cases h3 : (a : Int) + (rd_T56 t a).f3 ≤ 9223372036854775807
     ·rw [IntWalk.wrap64_in _ ⟨by have := hwa.1; omega, h3⟩, if_pos (by omega), hj]
      rfl
     ·have hneg : wrap64 ((a : Int) + (rd_T56 t a).f3) < 0 := by
       have := hwa.2
       unfold wrap64
       omega
      rw [if_neg (by omega), decide_eq_true (show wrap64 ((a : Int) + (rd_T56 t a).f3) < (a : Int) by omega), hj]
      rfl
  ·rw [if_neg (by omega)]
   simp [evOk, evF, hlt]
theorem refEvents_f (t : List S56) (hl : t.length ≤ 1000000) (hw : ∀ i, I64 (rd_T56 t i).f3) (k : Nat) (hk : 3 * t.length + 2 ≤ k) :
  stylusref04_events.f k t 0 (t.length : Int) = some (if evOk t.length t 0 t.length = true then (evF t.length t 0 t.length, true) else ([], false)) := by
 obtain ⟨k, rfl⟩ : ∃ q, k = q + 1 := ⟨k - 1, by omega⟩
 rw [stylusref04_events.f]
 have := ev_loop t hl hw t.length 0 t.length k [] (by omega) (by omega) (by omega) (by omega) (by simp)
 rw [List.nil_append] at this
 exact this
def nodeB (x : S56) : Bool := if x.f0 = 46 then decide (0 < x.f1.size) && !decide (plainTo x.f1 x.f1.size 0 < x.f1.size) else decide (x.f1.size = 0) && decide (0 < (nameP x.f0).size)
theorem plainB_node (x : S56) : plainB x = (nodeB x && (if x.f0 = 46 then x.f3 == 1 else true)) := by
 unfold plainB nodeB firstOdd
 by_cases h : x.f0 = 46
 ·rw [if_pos h, if_pos h, if_pos h]
  have e : decide (0 ≤ if plainTo x.f1 x.f1.size 0 < x.f1.size then ((plainTo x.f1 x.f1.size 0 : Nat) : Int) else -1) = decide (plainTo x.f1 x.f1.size 0 < x.f1.size) := by
   by_cases h2 : plainTo x.f1 x.f1.size 0 < x.f1.size
   ·rw [if_pos h2, decide_eq_true h2, decide_eq_true (by omega)]
   ·rw [if_neg h2, decide_eq_false h2]; rfl
  rw [e]
  cases decide (0 < x.f1.size) <;> cases (x.f3 == 1) <;> cases decide (plainTo x.f1 x.f1.size 0 < x.f1.size) <;> rfl
 ·rw [if_neg h, if_neg h, if_neg h, Bool.and_true]
theorem refName_fin : ∀ n : Fin 256, stylusref03_Name.f 20 (n.val : Int) = some (nameP (n.val : Int)) := by decide +kernel
theorem refName_f (c : Int) (h0 : 0 ≤ c) (h1 : c ≤ 255) (k : Nat) (hk : 20 ≤ k) : stylusref03_Name.f k c = some (nameP c) := by
 have h := refName_fin ⟨c.toNat, by omega⟩
 simp only [Int.toNat_of_nonneg h0] at h
 exact at_rounds (fun k => stylusref03_Name.mono c k) hk h
theorem empty_iff (b : ByteArray) : b.toList = ([] : List UInt8) ↔ b.size = 0 := by
 have := empty_list b
 rw [Bool.eq_iff_iff, beq_iff_eq, decide_eq_true_eq] at this
 exact this
theorem chk_l1 (t : List S56) (i : Nat) (hi : i < t.length) (hl : t.length ≤ 1000000) (hz : (rd_T56 t i).f1.size ≤ 1000000) (K : Nat) (R : Int) (hR : ∀ k, K ≤ k → stylusref04_Check.l0 k t ((i + 1 : Nat) : Int) = some R) : ∀ (d j k : Nat), d + j = (rd_T56 t i).f1.size → K + d + 25 ≤ k →
  stylusref04_Check.l1 k t i j = some (if plainTo (rd_T56 t i).f1 d j < (rd_T56 t i).f1.size then 2 else R)
 | 0, j, k, h, hk => by
  obtain ⟨k, rfl⟩ : ∃ q, k = q + 1 := ⟨k - 1, by omega⟩
  rw [stylusref04_Check.l1, if_pos (by omega), if_pos (by omega), if_neg (by omega), wrap_s (by omega), hR k (by omega)]
  rw [show plainTo (rd_T56 t i).f1 0 j = j from rfl, if_neg (by omega)]
 | d + 1, j, k, h, hk => by
  obtain ⟨k, rfl⟩ : ∃ q, k = q + 1 := ⟨k - 1, by omega⟩
  have hr := bt_range (rd_T56 t i).f1 (j : Int)
  obtain ⟨g1, g2, g3, g4⟩ := is_at (bt (rd_T56 t i).f1 (j : Int)) hr.1 hr.2 k (by omega)
  rw [stylusref04_Check.l1, if_pos (by omega), if_pos (by omega), if_pos (by omega), if_pos (by omega), g1, Option.bind_some]
  have hstep : plainTo (rd_T56 t i).f1 (d + 1) j = if plainP (bt (rd_T56 t i).f1 (j : Int)) = true then plainTo (rd_T56 t i).f1 d (j + 1) else j := by
   rw [plainTo]
   by_cases hp : plainP (bt (rd_T56 t i).f1 (j : Int)) = true
   ·rw [if_pos ⟨by omega, hp⟩, if_pos hp]
   ·rw [if_neg (fun e => hp e.2), if_neg hp]
  rw [hstep, g3]
  have hgo := chk_l1 t i hi hl hz K R hR d (j + 1) k (by omega) (by omega)
  by_cases h1 : isB (bt (rd_T56 t i).f1 (j : Int)) = true
  ·rw [if_pos h1, wrap_s (by omega), hgo, h1, Bool.true_or, if_pos rfl]
  ·rw [if_neg h1, g2, Option.bind_some, Bool.eq_false_iff.mpr h1, Bool.false_or]
   by_cases h2 : whiteP (bt (rd_T56 t i).f1 (j : Int)) = true
   ·rw [if_pos h2, wrap_s (by omega), hgo, if_pos h2]
   ·rw [if_neg h2, if_neg h2, if_pos (by omega)]
theorem chk_j1 (k : Nat) (t : List S56) (i : Nat) (b : Bool) : stylusref04_Check.j1 (k + 1) t i b = if b = true then some 2 else stylusref04_Check.l1 k t i 0 := by
 rw [stylusref04_Check.j1]
theorem chk_l0 (t : List S56) (hl : t.length ≤ 1000000) (hz : ∀ x ∈ t, x.f1.size ≤ 1000000 ∧ 0 ≤ x.f0 ∧ x.f0 ≤ 255) (M : Nat) (hM : ∀ x ∈ t, x.f1.size + 40 ≤ M) (K : Nat) (R : Int)
  (hR : ∀ k, K ≤ k → ((stylusref04_events.f k t 0 (t.length : Int)).bind fun bt284 => (if bt284.2 = true then (stylusref04_Check.l2 k bt284.1 0 0 0) else (some 2))) = some R) : ∀ (d i k : Nat), d + i = t.length → K + d * M + 1 ≤ k →
  stylusref04_Check.l0 k t i = some (if ((t.drop i).all nodeB) = true then R else 2)
 | 0, i, k, h, hk => by
  obtain ⟨k, rfl⟩ : ∃ q, k = q + 1 := ⟨k - 1, by omega⟩
  rw [stylusref04_Check.l0, if_neg (by omega), hR k (by omega), List.drop_eq_nil_of_le (by omega)]
  rfl
 | d + 1, i, k, h, hk => by
  rw [Nat.succ_mul] at hk
  have hi : i < t.length := by omega
  have hm0 : rd_T56 t i ∈ t := by
   unfold rd_T56
   rw [Int.toNat_natCast, List.getD_eq_getElem?_getD, List.getElem?_eq_getElem hi]
   exact List.getElem_mem hi
  have hMi := hM _ hm0
  obtain ⟨k, rfl⟩ : ∃ q, k = q + 2 := ⟨k - 2, by omega⟩
  have hm : rd_T56 t i ∈ t := by
   unfold rd_T56
   rw [Int.toNat_natCast, List.getD_eq_getElem?_getD, List.getElem?_eq_getElem hi]
   exact List.getElem_mem hi
  obtain ⟨z1, z2, z3⟩ := hz _ hm
  have hdrop : t.drop i = rd_T56 t i :: t.drop (i + 1) := by
   unfold rd_T56
   rw [Int.toNat_natCast, List.getD_eq_getElem?_getD, List.getElem?_eq_getElem hi, List.drop_eq_getElem_cons hi]
   rfl
  have hnext : ∀ q, K + d * M + 1 ≤ q → stylusref04_Check.l0 q t ((i + 1 : Nat) : Int) = some (if ((t.drop (i + 1)).all nodeB) = true then R else 2) := fun q hq => chk_l0 t hl hz M hM K R hR d (i + 1) q (by omega) hq
  have hbytes := chk_l1 t i hi hl z1 _ _ hnext (rd_T56 t i).f1.size 0 k (by omega) (by omega)
  rw [stylusref04_Check.l0, if_pos (by omega), if_pos (by omega), hdrop, List.all_cons]
  have hN : nodeB (rd_T56 t i) = if (rd_T56 t i).f0 = 46 then decide (0 < (rd_T56 t i).f1.size) && !decide (plainTo (rd_T56 t i).f1 (rd_T56 t i).f1.size 0 < (rd_T56 t i).f1.size) else decide ((rd_T56 t i).f1.size = 0) && decide (0 < (nameP (rd_T56 t i).f0).size) := rfl
  by_cases h46 : (rd_T56 t i).f0 = 46
  ·rw [if_pos h46]
   rw [if_pos h46] at hN
   by_cases he : (rd_T56 t i).f1.size = 0
   ·rw [if_pos ((empty_iff _).mpr he), chk_j1, if_pos rfl, hN, decide_eq_false (by omega)]
    rfl
   ·rw [if_neg (fun h => he ((empty_iff _).mp h)), chk_j1, if_neg (by decide), show ((0 : Int)) = ((0 : Nat) : Int) from rfl, hbytes, hN, decide_eq_true (show 0 < (rd_T56 t i).f1.size by omega)]
    by_cases hp : plainTo (rd_T56 t i).f1 (rd_T56 t i).f1.size 0 < (rd_T56 t i).f1.size
    ·rw [if_pos hp, decide_eq_true hp]; rfl
    ·rw [if_neg hp, decide_eq_false hp]; rfl
  ·rw [if_neg h46]
   rw [if_neg h46] at hN
   by_cases he : (rd_T56 t i).f1.size = 0
   ·rw [if_pos ((empty_iff _).mpr he), refName_f _ z2 z3 (k + 1) (by omega), Option.bind_some, chk_j1, empty_list, hN, decide_eq_true he]
    by_cases hn : (nameP (rd_T56 t i).f0).size = 0
    ·rw [decide_eq_true hn, if_pos rfl, decide_eq_false (by omega)]
     rfl
    ·rw [decide_eq_false hn, if_neg (by decide), show ((0 : Int)) = ((0 : Nat) : Int) from rfl, hbytes, decide_eq_true (show 0 < (nameP (rd_T56 t i).f0).size by omega)]
     rw [he, show plainTo (rd_T56 t i).f1 0 0 = 0 from rfl, if_neg (by omega)]
     rfl
   ·rw [if_neg (fun h => he ((empty_iff _).mp h)), chk_j1, if_pos rfl, hN, decide_eq_false he]
    rfl
def Errs (s : Bld) (out : Int) (D B : Nat) : Prop := (out = 5 ∧ 0 < D) ∨ (hasP 108 s.row ≤ 8 ∧ D = 0 ∧ ((out = 0 ∧ B = 0) ∨ (out = 4 ∧ 0 < B)))
theorem worse_2 (a : Int) : worseP a 2 = 2 := by
 unfold worseP worseL
 rw [if_pos (by simp)]
theorem worse_5 (a : Int) (h : a ≠ 2) : worseP a 5 = 5 := by
 unfold worseP worseL worseL
 rw [if_neg (by simp [h]), if_pos (by simp)]
theorem worse_5l (b : Int) (h : b ≠ 2) : worseP 5 b = 5 := by
 unfold worseP worseL worseL
 rw [if_neg (by simp [h]), if_pos (by simp)]
theorem chk_l2 (L : List S47) (hl : L.length ≤ 700000) (hx : ∀ x ∈ L, LexF x) : ∀ (d i k D B : Nat) (s : Bld) (u : RSt) (out : Int), d + i = L.length → 2 * d + 3000001 ≤ k → Rel (2 * i) s u → RB u i → readP read0 (L.take i) = some u → Errs s out D B → D ≤ i → B ≤ i →
  stylusref04_Check.l2 k L D B i = some (checkGo s out (L.drop i))
 | 0, i, k, D, B, s, u, out, hd, hk, hrel, hb, hr, hE, hD, hB => by
  obtain ⟨k, rfl⟩ : ∃ q, k = q + 1 := ⟨k - 1, by omega⟩
  rw [stylusref04_Check.l2, if_neg (by omega), List.drop_eq_nil_of_le (by omega)]
  simp only [checkGo]
  rcases hE with ⟨h1, h2⟩ | ⟨_, h2, ⟨h3, h4⟩ | ⟨h3, h4⟩⟩
  ·rw [if_pos (by omega), h1]
  ·rw [if_neg (by omega), if_neg (by omega), h3]
  ·rw [if_neg (by omega), if_pos (by omega), h3]
 | d + 1, i, k, D, B, s, u, out, hd, hk, hrel, hb, hr, hE, hD, hB => by
  obtain ⟨k, rfl⟩ : ∃ q, k = q + 2 := ⟨k - 2, by omega⟩
  have hi : i < L.length := by omega
  have hxi := hx _ (rd47_mem L i hi)
  have hread := read_f (L.take i) (by rw [List.length_take]; omega) (fun x hm => hx x (List.mem_of_mem_take hm)) u hr
  have hbr := hb.row
  have hbt := (hb.ops _ (topR_mem hb.pos)).a
  rw [stylusref04_Check.l2, if_pos (by omega), if_pos (by omega), if_pos (by omega), Int.toNat_natCast, hread, Option.bind_some, drop_rd47 L i hi]
  simp only [checkGo]
  have hst := step_both hrel (by omega) _ hxi
  have hstep := stepOf hrel hb (by omega) _ hxi k (by omega)
  generalize hxe : rd_T47 L (i : Int) = x at *
  have hj : ∀ b : Bool, stylusref04_Check.j4 (k + 1) L D B i u.t u.r b = some (if b = true then 2 else if worseP out (stepP s x).2.2 = 2 then 2 else checkGo (stepP s x).1 (worseP out (stepP s x).2.2) (L.drop (i + 1))) := fun b => by
   rw [stylusref04_Check.j4]
   cases b with
   | true => rfl
   | false =>
    rw [if_neg (by decide), if_neg (show ¬ (false = true) by decide), if_pos (by omega), if_pos (by omega), hxe, hstep, Option.bind_some]
    generalize stepR (opensR u.r x.f1) u x = q at *
    by_cases q2 : q.2 = 2
    ·rw [if_pos q2, q2, hst.form.mpr q2, worse_2, if_pos rfl]
    ·have e2 : (stepP s x).2.2 ≠ 2 := fun e => q2 (hst.form.mp e)
     obtain ⟨u', g1, g2⟩ := hst.on e2
     have hr' : readP read0 (L.take (i + 1)) = some u' := by rw [take_snoc L i hi, readP_snoc, hr, hxe]; exact g1
     have hrel' : Rel (2 * (i + 1)) (stepP s x).1 u' := by rw [show 2 * (i + 1) = 2 * i + 2 from by omega]; exact g2
     have hgo := fun (D' B' : Nat) (out' : Int) (hE' : Errs (stepP s x).1 out' D' B') (h1 : D' ≤ i + 1) (h2 : B' ≤ i + 1) => chk_l2 L hl hx d (i + 1) k D' B' (stepP s x).1 u' out' (by omega) (by omega) hrel' (RB_step hb hxi.inOk g1) hr' hE' h1 h2
     have hout2 : out ≠ 2 := by rcases hE with ⟨h1, _⟩ | ⟨_, _, ⟨h1, _⟩ | ⟨h1, _⟩⟩ <;> omega
     have w1 := fun _ : Unit => wrap_s (n := D) (by omega)
     have w2 := fun _ : Unit => wrap_s (n := B) (by omega)
     have w3 := fun _ : Unit => wrap_s (n := i) (by omega)
     have hD1 : D + 1 ≤ i + 1 := by omega
     have hB1 : B + 1 ≤ i + 1 := by omega
     have hD2 : D ≤ i + 1 := by omega
     have hB2 : B ≤ i + 1 := by omega
     rw [if_neg q2]
     by_cases q5 : q.2 = 5
     ·have e5 := hst.deep q5
      have q4 : ¬ q.2 = 4 := by rw [q5]; decide
      rw [if_pos q5, if_neg q4, w1 (), w3 (), e5, worse_5 out hout2, if_neg (show ¬ ((5 : Int) = 2) by decide)]
      exact hgo (D + 1) B 5 (.inl ⟨rfl, Nat.succ_pos _⟩) hD1 hB2
     ·rw [if_neg q5]
      rcases hE with ⟨h1, h2⟩ | ⟨hh, h2, h3⟩
      ·subst h1
       rw [worse_5l _ e2, if_neg (show ¬ ((5 : Int) = 2) by decide)]
       by_cases q4 : q.2 = 4
       ·rw [if_pos q4, w2 (), w3 ()]
        exact hgo D (B + 1) 5 (.inl ⟨rfl, h2⟩) hD2 hB1
       ·rw [if_neg q4, w3 ()]
        exact hgo D B 5 (.inl ⟨rfl, h2⟩) hD2 hB2
      ·obtain ⟨c1, _⟩ := hst.same hh
       have hfew := hst.few hh e2 (by rw [c1]; exact q5)
       by_cases q4 : q.2 = 4
       ·have hw : worseP out (stepP s x).2.2 = 4 := by
         rw [c1, q4]
         rcases h3 with ⟨h3, _⟩ | ⟨h3, _⟩ <;> rw [h3] <;> rfl
        rw [if_pos q4, w2 (), w3 (), hw, if_neg (show ¬ ((4 : Int) = 2) by decide)]
        exact hgo D (B + 1) 4 (.inr ⟨hfew, h2, .inr ⟨rfl, Nat.succ_pos _⟩⟩) hD2 hB1
       ·have q0 : q.2 = 0 := by rcases hst.inQ with h | h | h | h <;> first | exact h | exact absurd h q2 | exact absurd h q4 | exact absurd h q5
        have hw : worseP out (stepP s x).2.2 = out := by
         rw [c1, q0]
         rcases h3 with ⟨h3, _⟩ | ⟨h3, _⟩ <;> rw [h3] <;> rfl
        rw [if_neg q4, w3 (), hw, if_neg hout2]
        exact hgo D B out (.inr ⟨hfew, h2, h3⟩) hD2 hB2
  by_cases h1 : x.f0 = 1
  ·rw [if_pos h1, texts_f u.r (by omega) hb.pos (by omega) (k + 1) (by omega), Option.bind_some, hj, hrel.texts, h1]
   rfl
  ·rw [if_neg h1, hj]
   have : (x.f0 == 1) = false := by simpa using h1
   rw [this, Bool.false_and, if_neg (show ¬ (false = true) by decide)]
theorem refCheck_f (t : List S56) (hl : t.length ≤ 300000) (hz : NodesOk t) (hw : ∀ i, I64 (rd_T56 t i).f3) (M : Nat) (hM : ∀ x ∈ t, x.f1.size + 40 ≤ M) (k : Nat) (hk : t.length * M + 5000000 ≤ k) : stylusref04_Check.f k t = some (checkP t) := by
 unfold stylusref04_Check.f checkP
 have hio : ∀ i, i < t.length → rd_T56 t i ∈ t := fun i hi => by
  unfold rd_T56
  rw [Int.toNat_natCast, List.getD_eq_getElem?_getD, List.getElem?_eq_getElem hi]
  exact List.getElem_mem hi
 have hmain := chk_l0 t (by omega) hz M hM 4900000 (if evOk t.length t 0 t.length = true then checkGo bld0 0 (evF t.length t 0 t.length) else 2) (fun k hk => by
  rw [refEvents_f t (by omega) hw k (by omega), Option.bind_some]
  by_cases he : evOk t.length t 0 t.length = true
  ·rw [if_pos he, if_pos rfl, if_pos he]
   have hlen := evF_len t t.length 0 t.length (by omega) he
   have he' := (evOk_iff t t.length 0 t.length (by omega)).mp he
   have hall : ∀ x ∈ evF t.length t 0 t.length, LexF x := by
    rw [← events_F t (fun x hx h46 => ?_) he'.1]
    ·refine events_mem ⟨.inr (.inr rfl), by decide, by decide, by decide, by decide⟩ t fun y hy => ?_
     obtain ⟨h1, h2, h3⟩ := hz y hy
     unfold nodeX
     by_cases h46 : y.f0 = 46
     ·rw [if_pos h46]
      exact ⟨.inl rfl, by show (0 : Int) ≤ 0; omega, by show (0 : Int) ≤ 255; omega, h1, by show (1 : Int) = 2 → _; omega⟩
     ·rw [if_neg h46]
      exact ⟨.inr (.inl rfl), h2, h3, by show (0 : Nat) ≤ _; omega, fun _ => h46⟩
    ·obtain ⟨i, hi, rfl⟩ := rd56_of_mem hx
     exact he'.2 i (Nat.zero_le _) hi h46
   have := chk_l2 (evF t.length t 0 t.length) (by omega) hall (evF t.length t 0 t.length).length 0 k 0 0 bld0 read0 0 (by omega) (by omega) rel0 RB0 rfl (.inr ⟨by decide, rfl, .inl ⟨rfl, rfl⟩⟩) (Nat.le_refl _) (Nat.le_refl _)
   rw [List.drop_zero] at this
   exact this
  ·rw [if_neg he, if_neg (by decide), if_neg he]) t.length 0 k (by omega) (by omega)
 rw [List.drop_zero] at hmain
 rw [show ((0 : Int)) = ((0 : Nat) : Int) from rfl, hmain]
 congr 1
 by_cases hN : t.all nodeB = true
 ·rw [if_pos hN]
  have hNe : ∀ x ∈ t, nodeB x = true := List.all_eq_true.mp hN
  by_cases he : evOk t.length t 0 t.length = true
  ·rw [if_pos he]
   have he' := (evOk_iff t t.length 0 t.length (by omega)).mp he
   have h46 : ∀ x ∈ t, x.f0 = 46 → x.f3 = 1 := fun x hx h => by
    obtain ⟨i, hi, rfl⟩ := rd56_of_mem hx
    exact he'.2 i (Nat.zero_le _) hi h
   have hany : (t.any fun x => !plainB x) = false := by
    rw [List.any_eq_false]
    intro x hx
    rw [plainB_node, hNe x hx, Bool.true_and]
    by_cases h : x.f0 = 46
    ·rw [if_pos h, h46 x hx h]; decide
    ·rw [if_neg h]; decide
   rw [hany, he'.1, events_F t h46 he'.1]
   rfl
  ·rw [if_neg he]
   have : ((t.any fun x => !plainB x) || !sizedT t 0 t.length) = true := by
    rw [Bool.or_eq_true]
    by_cases hs : sizedT t 0 t.length = true
    ·refine .inl ?_
     rw [List.any_eq_true]
     have hex : ∃ i, i < t.length ∧ (rd_T56 t i).f0 = 46 ∧ (rd_T56 t i).f3 ≠ 1 := by
      refine Classical.byContradiction fun hno => he ((evOk_iff t t.length 0 t.length (by omega)).mpr ⟨hs, fun i h1 h2 h3 => ?_⟩)
      exact Classical.byContradiction fun h4 => hno ⟨i, h2, h3, h4⟩
     obtain ⟨i, h1, h2, h3⟩ := hex
     refine ⟨_, hio i h1, ?_⟩
     rw [plainB_node, if_pos h2]
     have : ((rd_T56 t i).f3 == 1) = false := by simpa using h3
     rw [this, Bool.and_false]
     rfl
    ·exact .inr (by rw [Bool.eq_false_iff.mpr hs]; rfl)
   rw [if_pos this]
 ·rw [if_neg hN]
  have : ((t.any fun x => !plainB x) || !sizedT t 0 t.length) = true := by
   rw [Bool.or_eq_true]
   refine .inl ?_
   rw [List.any_eq_true]
   have hex : ∃ x ∈ t, nodeB x = false := by
    refine Classical.byContradiction fun hno => hN (List.all_eq_true.mpr fun x hx => ?_)
    cases hb : nodeB x with
    | true => rfl
    | false => exact absurd ⟨x, hx, hb⟩ hno
   obtain ⟨x, hx, hb⟩ := hex
   exact ⟨x, hx, by rw [plainB_node, hb]; rfl⟩
  rw [if_pos this]
end Go.Proofs.Ythcmfjpheanphaa.Pr
namespace Go.Proofs.Ythcmfjpheanphaa.Pr
open Go.RowKit Go.Proofs.YthcmfjpheanphaaW.PrintWords Go.Proofs.YthcmfjpheanphaaW.PrintLast Go.Proofs.YthcmfjpheanphaaW.PrintMore
attribute [local go_sem] max2_int min2_int max_two min_two max_three min_three max_four min_four
def stylusref04_Same.l0 : Nat → List (S56) → List (S56) → Int → Option (Bool)
 | 0, _, _, _ => none
 | k + 1, x0, x1, x5 => if x5 < (x0.length : Int) then (if 0 ≤ x5 then (if x5 < (x1.length : Int) then (if ((rd_T56 x0 x5).f0) = ((rd_T56 x1 x5).f0) then (if ((rd_T56 x0 x5).f1).toList = ((rd_T56 x1 x5).f1).toList then (if ((rd_T56 x0 x5).f3) = ((rd_T56 x1 x5).f3) then (stylusref04_Same.l0 k x0 x1 (wrap64 (x5 + 1))) else (some false)) else (some false)) else (some false)) else (none)) else (none)) else (some true)
def stylusref04_Same.f (k : Nat) (l0 : List (S56)) (l1 : List (S56)) : Option (Bool) := if (l0.length : Int) = (l1.length : Int) then (stylusref04_Same.l0 k l0 l1 0) else (some false)
theorem stylusref04_Same.mono_l : ∀ k, (∀ y0 y1 y2, LeO (stylusref04_Same.l0 k y0 y1 y2) (stylusref04_Same.l0 (k + 1) y0 y1 y2))
 | 0 => fun _ _ _ r h => by simp [stylusref04_Same.l0] at h
 | k + 1 => by
  have ih0 := stylusref04_Same.mono_l k
  ·intro y0 y1 y2
   unfold stylusref04_Same.l0
   repeat' first
   | (with_reducible exact ih0 _ _ _)
   | (with_reducible exact LeO.refl _)
   | (with_reducible exact LeO.none _)
   | (with_reducible refine LeO.ite ?_ ?_)
   | (with_reducible refine LeO.bind ?_ (fun _ => ?_))
   | exact ih0 _ _ _
   | exact LeO.none _
   | refine LeO.ite ?_ ?_
   | refine LeO.bind ?_ (fun _ => ?_)
theorem stylusref04_Same.mono : ∀ a0 a1 k, LeO (stylusref04_Same.f k a0 a1) (stylusref04_Same.f (k + 1) a0 a1) := by
 intro a0 a1 k
 have ih0 := stylusref04_Same.mono_l k
 unfold stylusref04_Same.f
 repeat' first
   | (with_reducible exact ih0 _ _ _)
   | (with_reducible exact LeO.refl _)
   | (with_reducible exact LeO.none _)
   | (with_reducible refine LeO.ite ?_ ?_)
   | (with_reducible refine LeO.bind ?_ (fun _ => ?_))
   | exact ih0 _ _ _
   | exact LeO.none _
   | refine LeO.ite ?_ ?_
   | refine LeO.bind ?_ (fun _ => ?_)
set_option maxHeartbeats 8000000 in
set_option maxRecDepth 100000 in
theorem stylusref04_Same.calls (k : Nat) (A0 : Option Addr) (c0 : Nat) (l0 : List (S56)) (A1 : Option Addr) (c1 : Nat) (l1 : List (S56)) (r : Bool) (w : World) (hr0 : Kd.C k56 w A0 l0.length l0) (hc0 : l0.length ≤ c0) (hr1 : Kd.C k56 w A1 l1.length l1) (hc1 : l1.length ≤ c1) (h : stylusref04_Same.f k l0 l1 = some r) :
  Calls Try.prog 61 #[.slice A0 l0.length c0, .slice A1 l1.length c1] w fun e w' => e = .returned (.bool r) ∧ Drawn0 w w' := by
 have HR0 := Aside0.mk hr0
 have HC0 := Aside0.mk hc0
 clear hr0 hc0
 have HR1 := Aside0.mk hr1
 have HC1 := Aside0.mk hc1
 clear hr1 hc1
 have H : (if (l0.length : Int) = (l1.length : Int) then (stylusref04_Same.l0 k l0 l1 0) else (some false)) = some r := h
 clear h
 by_cases c3 : (l0.length : Int) = (l1.length : Int)
 ·rw [if_pos c3] at H
  have c3b0 : ((l0.length : Int) == (l1.length : Int)) = true := beq_iff_eq.mpr c3
  have c3b1 : ((l0.length : Int) != (l1.length : Int)) = false := bne_eq_false_iff_eq.mpr c3
  have c3b2 : (l0.length == l1.length) = true := by first | simpa using c3 | (simp at c3 ⊢; omega)
  clear c3
  have H' := Aside0.mk H
  clear H
  go_enter Try.func61, Try.ntmps61
  go_wp2
  repeat (go_quiet (fail); try go_wp2)
  go_loopg [5] k (fun kq v5 w' => ∃ (x5_1 : Int), v5 = .int .i64 x5_1 ∧ Aside0 (stylusref04_Same.l0 kq l0 l1 x5_1 = some r) ∧ Aside0 (kq ≤ k) ∧ Drawn0 w w')
  case atStart => exact ⟨(0), (by first | rfl | (simp; done) | (simp [*]; done)), H', ⟨Nat.le_refl _⟩, by repeat (first | exact Drawn0.refl _ | apply Drawn0.step)⟩
  case round =>
   clear H'
   try clear c1
   try clear p2
   try clear c3
   try clear c3b0
   try clear c3b1
   try clear c3b2
   obtain ⟨x5_1, rfl, HA, HK1, ⟨m1, rfl⟩⟩ := hrel
   cases gk with
   | zero => exact absurd HA.out (by simp [stylusref04_Same.l0])
   | succ k1 =>
    have H := HA.out
    clear HA
    simp only [stylusref04_Same.l0] at H
    by_cases c4 : x5_1 < (l0.length : Int)
    ·rw [if_pos c4] at H
     have c4b0 : decide (x5_1 < (l0.length : Int)) = true := decide_eq_true c4
     clear c4
     by_cases c5 : 0 ≤ x5_1
     ·rw [if_pos c5] at H
      have c5b0 : decide (0 ≤ x5_1) = true := decide_eq_true c5
      clear c5
      by_cases c6 : x5_1 < (l1.length : Int)
      ·rw [if_pos c6] at H
       have c6b0 : decide (x5_1 < (l1.length : Int)) = true := decide_eq_true c6
       clear c6
       by_cases c7 : ((rd_T56 l0 x5_1).f0) = ((rd_T56 l1 x5_1).f0)
       ·rw [if_pos c7] at H
        have c7b0 : (((rd_T56 l0 x5_1).f0) == ((rd_T56 l1 x5_1).f0)) = true := beq_iff_eq.mpr c7
        have c7b1 : (((rd_T56 l0 x5_1).f0) != ((rd_T56 l1 x5_1).f0)) = false := bne_eq_false_iff_eq.mpr c7
        clear c7
        by_cases c8 : ((rd_T56 l0 x5_1).f1).toList = ((rd_T56 l1 x5_1).f1).toList
        ·rw [if_pos c8] at H
         have c8b0 : (((rd_T56 l0 x5_1).f1).toList == ((rd_T56 l1 x5_1).f1).toList) = true := beq_iff_eq.mpr c8
         have c8b1 : (((rd_T56 l0 x5_1).f1).toList != ((rd_T56 l1 x5_1).f1).toList) = false := bne_eq_false_iff_eq.mpr c8
         clear c8
         by_cases c9 : ((rd_T56 l0 x5_1).f3) = ((rd_T56 l1 x5_1).f3)
         ·rw [if_pos c9] at H
          have c9b0 : (((rd_T56 l0 x5_1).f3) == ((rd_T56 l1 x5_1).f3)) = true := beq_iff_eq.mpr c9
          have c9b1 : (((rd_T56 l0 x5_1).f3) != ((rd_T56 l1 x5_1).f3)) = false := bne_eq_false_iff_eq.mpr c9
          clear c9
          have H' := Aside0.mk H
          clear H
          have p216 : 0 ≤ (x5_1 : Int) := of_decide_eq_true (by first | (with_reducible assumption) | assumption)
          have q216 : x5_1 < (l0.length : Int) := of_decide_eq_true (by first | (with_reducible assumption) | assumption)
          obtain ⟨ad216, e216, hx216_0, hx216_1, hx216_2, hx216_3⟩ := at_T56 HR0.out x5_1 p216 q216
          cases e216
          replace p216 := eq_true p216
          replace q216 := eq_true q216
          have p217 : 0 ≤ (x5_1 : Int) := of_decide_eq_true (by first | (with_reducible assumption) | assumption)
          have q217 : x5_1 < (l1.length : Int) := of_decide_eq_true (by first | (with_reducible assumption) | assumption)
          obtain ⟨ad217, e217, hx217_0, hx217_1, hx217_2, hx217_3⟩ := at_T56 HR1.out x5_1 p217 q217
          cases e217
          replace p217 := eq_true p217
          replace q217 := eq_true q217
          have p218 : 0 ≤ (x5_1 : Int) := of_decide_eq_true (by first | (with_reducible assumption) | assumption)
          have q218 : x5_1 < (l0.length : Int) := of_decide_eq_true (by first | (with_reducible assumption) | assumption)
          obtain ⟨ad218, e218, hx218_0, hx218_1, hx218_2, hx218_3⟩ := at_T56 HR0.out x5_1 p218 q218
          obtain rfl : ad216 = ad218 := (by injection e218)
          replace p218 := eq_true p218
          replace q218 := eq_true q218
          have p219 : 0 ≤ (x5_1 : Int) := of_decide_eq_true (by first | (with_reducible assumption) | assumption)
          have q219 : x5_1 < (l1.length : Int) := of_decide_eq_true (by first | (with_reducible assumption) | assumption)
          obtain ⟨ad219, e219, hx219_0, hx219_1, hx219_2, hx219_3⟩ := at_T56 HR1.out x5_1 p219 q219
          obtain rfl : ad217 = ad219 := (by injection e219)
          replace p219 := eq_true p219
          replace q219 := eq_true q219
          have p220 : 0 ≤ (x5_1 : Int) := of_decide_eq_true (by first | (with_reducible assumption) | assumption)
          have q220 : x5_1 < (l0.length : Int) := of_decide_eq_true (by first | (with_reducible assumption) | assumption)
          obtain ⟨ad220, e220, hx220_0, hx220_1, hx220_2, hx220_3⟩ := at_T56 HR0.out x5_1 p220 q220
          obtain rfl : ad216 = ad220 := (by injection e220)
          replace p220 := eq_true p220
          replace q220 := eq_true q220
          have p221 : 0 ≤ (x5_1 : Int) := of_decide_eq_true (by first | (with_reducible assumption) | assumption)
          have q221 : x5_1 < (l1.length : Int) := of_decide_eq_true (by first | (with_reducible assumption) | assumption)
          obtain ⟨ad221, e221, hx221_0, hx221_1, hx221_2, hx221_3⟩ := at_T56 HR1.out x5_1 p221 q221
          obtain rfl : ad217 = ad221 := (by injection e221)
          replace p221 := eq_true p221
          replace q221 := eq_true q221
          go_wp2
          repeat (go_quiet (fail); try go_wp2)
          go_roundg k1
          case measure => have := HK1.out; omega
          case rel => exact ⟨(wrap64 (x5_1 + 1)), (by first | rfl | (simp; done) | (simp [*]; done)), H', ⟨by have := HK1.out; omega⟩, by repeat (first | exact Drawn0.refl _ | apply Drawn0.step)⟩
         ·rw [if_neg c9] at H
          have c9b0 : (((rd_T56 l0 x5_1).f3) == ((rd_T56 l1 x5_1).f3)) = false := beq_eq_false_iff_ne.mpr c9
          have c9b1 : (((rd_T56 l0 x5_1).f3) != ((rd_T56 l1 x5_1).f3)) = true := bne_iff_ne.mpr c9
          obtain rfl := Option.some.inj H
          have p216 : 0 ≤ (x5_1 : Int) := of_decide_eq_true (by first | (with_reducible assumption) | assumption)
          have q216 : x5_1 < (l0.length : Int) := of_decide_eq_true (by first | (with_reducible assumption) | assumption)
          obtain ⟨ad216, e216, hx216_0, hx216_1, hx216_2, hx216_3⟩ := at_T56 HR0.out x5_1 p216 q216
          cases e216
          replace p216 := eq_true p216
          replace q216 := eq_true q216
          have p217 : 0 ≤ (x5_1 : Int) := of_decide_eq_true (by first | (with_reducible assumption) | assumption)
          have q217 : x5_1 < (l1.length : Int) := of_decide_eq_true (by first | (with_reducible assumption) | assumption)
          obtain ⟨ad217, e217, hx217_0, hx217_1, hx217_2, hx217_3⟩ := at_T56 HR1.out x5_1 p217 q217
          cases e217
          replace p217 := eq_true p217
          replace q217 := eq_true q217
          have p218 : 0 ≤ (x5_1 : Int) := of_decide_eq_true (by first | (with_reducible assumption) | assumption)
          have q218 : x5_1 < (l0.length : Int) := of_decide_eq_true (by first | (with_reducible assumption) | assumption)
          obtain ⟨ad218, e218, hx218_0, hx218_1, hx218_2, hx218_3⟩ := at_T56 HR0.out x5_1 p218 q218
          obtain rfl : ad216 = ad218 := (by injection e218)
          replace p218 := eq_true p218
          replace q218 := eq_true q218
          have p219 : 0 ≤ (x5_1 : Int) := of_decide_eq_true (by first | (with_reducible assumption) | assumption)
          have q219 : x5_1 < (l1.length : Int) := of_decide_eq_true (by first | (with_reducible assumption) | assumption)
          obtain ⟨ad219, e219, hx219_0, hx219_1, hx219_2, hx219_3⟩ := at_T56 HR1.out x5_1 p219 q219
          obtain rfl : ad217 = ad219 := (by injection e219)
          replace p219 := eq_true p219
          replace q219 := eq_true q219
          have p220 : 0 ≤ (x5_1 : Int) := of_decide_eq_true (by first | (with_reducible assumption) | assumption)
          have q220 : x5_1 < (l0.length : Int) := of_decide_eq_true (by first | (with_reducible assumption) | assumption)
          obtain ⟨ad220, e220, hx220_0, hx220_1, hx220_2, hx220_3⟩ := at_T56 HR0.out x5_1 p220 q220
          obtain rfl : ad216 = ad220 := (by injection e220)
          replace p220 := eq_true p220
          replace q220 := eq_true q220
          have p221 : 0 ≤ (x5_1 : Int) := of_decide_eq_true (by first | (with_reducible assumption) | assumption)
          have q221 : x5_1 < (l1.length : Int) := of_decide_eq_true (by first | (with_reducible assumption) | assumption)
          obtain ⟨ad221, e221, hx221_0, hx221_1, hx221_2, hx221_3⟩ := at_T56 HR1.out x5_1 p221 q221
          obtain rfl : ad217 = ad221 := (by injection e221)
          replace p221 := eq_true p221
          replace q221 := eq_true q221
          go_wp2
          repeat (go_quiet (fail); try go_wp2)
          go_ret
          exact ⟨by first | rfl | (simp; done) | (simp [*]; done), by repeat (first | exact Drawn0.refl _ | apply Drawn0.step)⟩
        ·rw [if_neg c8] at H
         have c8b0 : (((rd_T56 l0 x5_1).f1).toList == ((rd_T56 l1 x5_1).f1).toList) = false := beq_eq_false_iff_ne.mpr c8
         have c8b1 : (((rd_T56 l0 x5_1).f1).toList != ((rd_T56 l1 x5_1).f1).toList) = true := bne_iff_ne.mpr c8
         obtain rfl := Option.some.inj H
         have p216 : 0 ≤ (x5_1 : Int) := of_decide_eq_true (by first | (with_reducible assumption) | assumption)
         have q216 : x5_1 < (l0.length : Int) := of_decide_eq_true (by first | (with_reducible assumption) | assumption)
         obtain ⟨ad216, e216, hx216_0, hx216_1, hx216_2, hx216_3⟩ := at_T56 HR0.out x5_1 p216 q216
         cases e216
         replace p216 := eq_true p216
         replace q216 := eq_true q216
         have p217 : 0 ≤ (x5_1 : Int) := of_decide_eq_true (by first | (with_reducible assumption) | assumption)
         have q217 : x5_1 < (l1.length : Int) := of_decide_eq_true (by first | (with_reducible assumption) | assumption)
         obtain ⟨ad217, e217, hx217_0, hx217_1, hx217_2, hx217_3⟩ := at_T56 HR1.out x5_1 p217 q217
         cases e217
         replace p217 := eq_true p217
         replace q217 := eq_true q217
         have p218 : 0 ≤ (x5_1 : Int) := of_decide_eq_true (by first | (with_reducible assumption) | assumption)
         have q218 : x5_1 < (l0.length : Int) := of_decide_eq_true (by first | (with_reducible assumption) | assumption)
         obtain ⟨ad218, e218, hx218_0, hx218_1, hx218_2, hx218_3⟩ := at_T56 HR0.out x5_1 p218 q218
         obtain rfl : ad216 = ad218 := (by injection e218)
         replace p218 := eq_true p218
         replace q218 := eq_true q218
         have p219 : 0 ≤ (x5_1 : Int) := of_decide_eq_true (by first | (with_reducible assumption) | assumption)
         have q219 : x5_1 < (l1.length : Int) := of_decide_eq_true (by first | (with_reducible assumption) | assumption)
         obtain ⟨ad219, e219, hx219_0, hx219_1, hx219_2, hx219_3⟩ := at_T56 HR1.out x5_1 p219 q219
         obtain rfl : ad217 = ad219 := (by injection e219)
         replace p219 := eq_true p219
         replace q219 := eq_true q219
         go_wp2
         repeat (go_quiet (fail); try go_wp2)
         go_ret
         exact ⟨by first | rfl | (simp; done) | (simp [*]; done), by repeat (first | exact Drawn0.refl _ | apply Drawn0.step)⟩
       ·rw [if_neg c7] at H
        have c7b0 : (((rd_T56 l0 x5_1).f0) == ((rd_T56 l1 x5_1).f0)) = false := beq_eq_false_iff_ne.mpr c7
        have c7b1 : (((rd_T56 l0 x5_1).f0) != ((rd_T56 l1 x5_1).f0)) = true := bne_iff_ne.mpr c7
        obtain rfl := Option.some.inj H
        have p216 : 0 ≤ (x5_1 : Int) := of_decide_eq_true (by first | (with_reducible assumption) | assumption)
        have q216 : x5_1 < (l0.length : Int) := of_decide_eq_true (by first | (with_reducible assumption) | assumption)
        obtain ⟨ad216, e216, hx216_0, hx216_1, hx216_2, hx216_3⟩ := at_T56 HR0.out x5_1 p216 q216
        cases e216
        replace p216 := eq_true p216
        replace q216 := eq_true q216
        have p217 : 0 ≤ (x5_1 : Int) := of_decide_eq_true (by first | (with_reducible assumption) | assumption)
        have q217 : x5_1 < (l1.length : Int) := of_decide_eq_true (by first | (with_reducible assumption) | assumption)
        obtain ⟨ad217, e217, hx217_0, hx217_1, hx217_2, hx217_3⟩ := at_T56 HR1.out x5_1 p217 q217
        cases e217
        replace p217 := eq_true p217
        replace q217 := eq_true q217
        go_wp2
        repeat (go_quiet (fail); try go_wp2)
        go_ret
        exact ⟨by first | rfl | (simp; done) | (simp [*]; done), by repeat (first | exact Drawn0.refl _ | apply Drawn0.step)⟩
      ·rw [if_neg c6] at H
       exact absurd H (by simp)
     ·rw [if_neg c5] at H
      exact absurd H (by simp)
    ·rw [if_neg c4] at H
     have c4b0 : decide (x5_1 < (l0.length : Int)) = false := decide_eq_false c4
     clear c4
     obtain rfl := Option.some.inj H
     go_wp2
     repeat (go_quiet (fail); try go_wp2)
     go_ret
     exact ⟨by first | rfl | (simp; done) | (simp [*]; done), by repeat (first | exact Drawn0.refl _ | apply Drawn0.step)⟩
 ·rw [if_neg c3] at H
  have c3b0 : ((l0.length : Int) == (l1.length : Int)) = false := beq_eq_false_iff_ne.mpr c3
  have c3b1 : ((l0.length : Int) != (l1.length : Int)) = true := bne_iff_ne.mpr c3
  have c3b2 : (l0.length == l1.length) = false := by first | simpa using c3 | (simp at c3 ⊢; omega)
  obtain rfl := Option.some.inj H
  go_enter Try.func61, Try.ntmps61
  go_wp2
  repeat (go_quiet (fail); try go_wp2)
  go_ret
  exact ⟨by first | rfl | (simp; done) | (simp [*]; done), by repeat (first | exact Drawn0.refl _ | apply Drawn0.step)⟩
mutual
def stylusref04_Like.l0 : Nat → List (S56) → List (S56) → Int → Option (Bool)
 | 0, _, _, _ => none
 | k + 1, x0, x1, x5 => if x5 < (x0.length : Int) then (stylusref04_Like.j1 k x0 x1 x5 (decide (x5 < (x1.length : Int)))) else (stylusref04_Like.j1 k x0 x1 x5 false)
def stylusref04_Like.j1 : Nat → List (S56) → List (S56) → Int → Bool → Option (Bool)
 | 0, _, _, _, _ => none
 | k + 1, x0, x1, x5, x15 => if x15 = true then (if 0 ≤ x5 then (if x5 < (x0.length : Int) then (if x5 < (x1.length : Int) then (if ((rd_T56 x0 x5).f2) = ((rd_T56 x1 x5).f2) then (stylusref04_Like.l0 k x0 x1 (wrap64 (x5 + 1))) else (some false)) else (none)) else (none)) else (none)) else ((stylusref04_Same.f k x0 x1).bind fun t224 => (some t224))
end
def stylusref04_Like.f (k : Nat) (l0 : List (S56)) (l1 : List (S56)) : Option (Bool) := stylusref04_Like.l0 k l0 l1 0
theorem stylusref04_Like.mono_l : ∀ k, (∀ y0 y1 y2, LeO (stylusref04_Like.l0 k y0 y1 y2) (stylusref04_Like.l0 (k + 1) y0 y1 y2)) ∧ (∀ y0 y1 y2 y3, LeO (stylusref04_Like.j1 k y0 y1 y2 y3) (stylusref04_Like.j1 (k + 1) y0 y1 y2 y3))
 | 0 => ⟨fun _ _ _ r h => by simp [stylusref04_Like.l0] at h, fun _ _ _ _ r h => by simp [stylusref04_Like.j1] at h⟩
 | k + 1 => by
  obtain ⟨ih0, ih1⟩ := stylusref04_Like.mono_l k
  refine ⟨?_, ?_⟩
  ·intro y0 y1 y2
   unfold stylusref04_Like.l0
   repeat' first
   | (with_reducible exact ih0 _ _ _)
   | (with_reducible exact ih1 _ _ _ _)
   | (with_reducible exact stylusref04_Same.mono _ _ _)
   | (with_reducible exact LeO.refl _)
   | (with_reducible exact LeO.none _)
   | (with_reducible refine LeO.ite ?_ ?_)
   | (with_reducible refine LeO.bind ?_ (fun _ => ?_))
   | exact ih0 _ _ _
   | exact ih1 _ _ _ _
   | exact stylusref04_Same.mono _ _ _
   | exact LeO.none _
   | refine LeO.ite ?_ ?_
   | refine LeO.bind ?_ (fun _ => ?_)
  ·intro y0 y1 y2 y3
   unfold stylusref04_Like.j1
   repeat' first
   | (with_reducible exact ih0 _ _ _)
   | (with_reducible exact ih1 _ _ _ _)
   | (with_reducible exact stylusref04_Same.mono _ _ _)
   | (with_reducible exact LeO.refl _)
   | (with_reducible exact LeO.none _)
   | (with_reducible refine LeO.ite ?_ ?_)
   | (with_reducible refine LeO.bind ?_ (fun _ => ?_))
   | exact ih0 _ _ _
   | exact ih1 _ _ _ _
   | exact stylusref04_Same.mono _ _ _
   | exact LeO.none _
   | refine LeO.ite ?_ ?_
   | refine LeO.bind ?_ (fun _ => ?_)
theorem stylusref04_Like.mono : ∀ a0 a1 k, LeO (stylusref04_Like.f k a0 a1) (stylusref04_Like.f (k + 1) a0 a1) := by
 intro a0 a1 k
 obtain ⟨ih0, ih1⟩ := stylusref04_Like.mono_l k
 unfold stylusref04_Like.f
 repeat' first
   | (with_reducible exact ih0 _ _ _)
   | (with_reducible exact ih1 _ _ _ _)
   | (with_reducible exact stylusref04_Same.mono _ _ _)
   | (with_reducible exact LeO.refl _)
   | (with_reducible exact LeO.none _)
   | (with_reducible refine LeO.ite ?_ ?_)
   | (with_reducible refine LeO.bind ?_ (fun _ => ?_))
   | exact ih0 _ _ _
   | exact ih1 _ _ _ _
   | exact stylusref04_Same.mono _ _ _
   | exact LeO.none _
   | refine LeO.ite ?_ ?_
   | refine LeO.bind ?_ (fun _ => ?_)
set_option maxHeartbeats 8000000 in
set_option maxRecDepth 100000 in
theorem stylusref04_Like.calls (k : Nat) (A0 : Option Addr) (c0 : Nat) (l0 : List (S56)) (A1 : Option Addr) (c1 : Nat) (l1 : List (S56)) (r : Bool) (w : World) (hr0 : Kd.C k56 w A0 l0.length l0) (hc0 : l0.length ≤ c0) (hr1 : Kd.C k56 w A1 l1.length l1) (hc1 : l1.length ≤ c1) (h : stylusref04_Like.f k l0 l1 = some r) :
  Calls Try.prog 55 #[.slice A0 l0.length c0, .slice A1 l1.length c1] w fun e w' => e = .returned (.bool r) ∧ Drawn0 w w' := by
 have HR0 := Aside0.mk hr0
 have HC0 := Aside0.mk hc0
 clear hr0 hc0
 have HR1 := Aside0.mk hr1
 have HC1 := Aside0.mk hc1
 clear hr1 hc1
 have H : (stylusref04_Like.l0 k l0 l1 0) = some r := h
 clear h
 have H' := Aside0.mk H
 clear H
 go_enter Try.func55, Try.ntmps55
 go_wp2
 repeat (go_quiet (fail); try go_wp2)
 go_loopg [5] k (fun kq v5 w' => ∃ (x5_1 : Int), v5 = .int .i64 x5_1 ∧ Aside0 (stylusref04_Like.l0 kq l0 l1 x5_1 = some r) ∧ Aside0 (kq ≤ k) ∧ Drawn0 w w')
 case atStart => exact ⟨(0), (by first | rfl | (simp; done) | (simp [*]; done)), H', ⟨Nat.le_refl _⟩, by repeat (first | exact Drawn0.refl _ | apply Drawn0.step)⟩
 case round =>
  clear H'
  try clear c1
  try clear p2
  obtain ⟨x5_1, rfl, HA, HK1, ⟨m1, rfl⟩⟩ := hrel
  cases gk with
  | zero => exact absurd HA.out (by simp [stylusref04_Like.l0])
  | succ k1 =>
   have H := HA.out
   clear HA
   simp only [stylusref04_Like.l0] at H
   have HC3 := Aside0.mk H
   clear H
   go_upto_region 2 with (fail)
   repeat (go_quiet (fail); go_upto_region 2 with (fail))
   go_cut [15] (fun v15 wc => ∃ (kq : Nat) (x15_2 : Bool), v15 = .bool x15_2 ∧ Aside0 (stylusref04_Like.j1 kq l0 l1 x5_1 x15_2 = some r) ∧ Aside0 (kq ≤ k1) ∧ Drawn0 w wc)
   case first =>
    have H := HC3.out
    clear HC3
    by_cases c4 : x5_1 < (l0.length : Int)
    ·rw [if_pos c4] at H
     have c4b0 : decide (x5_1 < (l0.length : Int)) = true := decide_eq_true c4
     clear c4
     (first | rw [c4b0] | (simp only [i64_w, i32_w]; rw [c4b0]) | skip)
     have H' := Aside0.mk H
     clear H
     go_wp2
     repeat (go_quiet (fail); try go_wp2)
     go_meet
     case rel => exact ⟨_, (decide (x5_1 < (l1.length : Int))), (by first | rfl | (simp; done) | (simp [*]; done)), H', ⟨by have := HK1.out; first | omega | exact Nat.le_refl _⟩, by repeat (first | exact Drawn0.refl _ | apply Drawn0.step)⟩
    ·rw [if_neg c4] at H
     have c4b0 : decide (x5_1 < (l0.length : Int)) = false := decide_eq_false c4
     clear c4
     (first | rw [c4b0] | (simp only [i64_w, i32_w]; rw [c4b0]) | skip)
     have H' := Aside0.mk H
     clear H
     go_wp2
     repeat (go_quiet (fail); try go_wp2)
     go_meet
     case rel => exact ⟨_, (false), (by first | rfl | (simp; done) | (simp [*]; done)), H', ⟨by have := HK1.out; first | omega | exact Nat.le_refl _⟩, by repeat (first | exact Drawn0.refl _ | apply Drawn0.step)⟩
   case rest =>
    clear HC3
    try clear c1
    try clear p2
    try clear c4
    try clear c4b0
    try clear p2
    obtain ⟨kq, x15_2, rfl, HA, HJ2, ⟨mc2, rfl⟩⟩ := hcut
    cases kq with
    | zero => exact absurd HA.out (by simp [stylusref04_Like.j1])
    | succ kj2 =>
     have H := HA.out
     clear HA
     simp only [stylusref04_Like.j1] at H
     by_cases c5 : x15_2 = true
     ·subst c5
      have H1 : (if 0 ≤ x5_1 then (if x5_1 < (l0.length : Int) then (if x5_1 < (l1.length : Int) then (if ((rd_T56 l0 x5_1).f2) = ((rd_T56 l1 x5_1).f2) then (stylusref04_Like.l0 kj2 l0 l1 (wrap64 (x5_1 + 1))) else (some false)) else (none)) else (none)) else (none)) = some r := by rw [if_pos rfl] at H; exact H
      clear H
      have H := H1
      clear H1
      by_cases c6 : 0 ≤ x5_1
      ·rw [if_pos c6] at H
       have c6b0 : decide (0 ≤ x5_1) = true := decide_eq_true c6
       clear c6
       by_cases c7 : x5_1 < (l0.length : Int)
       ·rw [if_pos c7] at H
        have c7b0 : decide (x5_1 < (l0.length : Int)) = true := decide_eq_true c7
        clear c7
        by_cases c8 : x5_1 < (l1.length : Int)
        ·rw [if_pos c8] at H
         have c8b0 : decide (x5_1 < (l1.length : Int)) = true := decide_eq_true c8
         clear c8
         by_cases c9 : ((rd_T56 l0 x5_1).f2) = ((rd_T56 l1 x5_1).f2)
         ·rw [if_pos c9] at H
          have c9b0 : (((rd_T56 l0 x5_1).f2) == ((rd_T56 l1 x5_1).f2)) = true := beq_iff_eq.mpr c9
          have c9b1 : (((rd_T56 l0 x5_1).f2) != ((rd_T56 l1 x5_1).f2)) = false := bne_eq_false_iff_eq.mpr c9
          clear c9
          have H' := Aside0.mk H
          clear H
          have p222 : 0 ≤ (x5_1 : Int) := of_decide_eq_true (by first | (with_reducible assumption) | assumption)
          have q222 : x5_1 < (l0.length : Int) := of_decide_eq_true (by first | (with_reducible assumption) | assumption)
          obtain ⟨ad222, e222, hx222_0, hx222_1, hx222_2, hx222_3⟩ := at_T56 HR0.out x5_1 p222 q222
          cases e222
          replace p222 := eq_true p222
          replace q222 := eq_true q222
          have p223 : 0 ≤ (x5_1 : Int) := of_decide_eq_true (by first | (with_reducible assumption) | assumption)
          have q223 : x5_1 < (l1.length : Int) := of_decide_eq_true (by first | (with_reducible assumption) | assumption)
          obtain ⟨ad223, e223, hx223_0, hx223_1, hx223_2, hx223_3⟩ := at_T56 HR1.out x5_1 p223 q223
          cases e223
          replace p223 := eq_true p223
          replace q223 := eq_true q223
          go_wp2
          repeat (go_quiet (fail); try go_wp2)
          go_roundg kj2
          case measure => have := HK1.out; have := HJ2.out; omega
          case rel => exact ⟨(wrap64 (x5_1 + 1)), (by first | rfl | (simp; done) | (simp [*]; done)), H', ⟨by have := HK1.out; have := HJ2.out; omega⟩, by repeat (first | exact Drawn0.refl _ | apply Drawn0.step)⟩
         ·rw [if_neg c9] at H
          have c9b0 : (((rd_T56 l0 x5_1).f2) == ((rd_T56 l1 x5_1).f2)) = false := beq_eq_false_iff_ne.mpr c9
          have c9b1 : (((rd_T56 l0 x5_1).f2) != ((rd_T56 l1 x5_1).f2)) = true := bne_iff_ne.mpr c9
          obtain rfl := Option.some.inj H
          have p222 : 0 ≤ (x5_1 : Int) := of_decide_eq_true (by first | (with_reducible assumption) | assumption)
          have q222 : x5_1 < (l0.length : Int) := of_decide_eq_true (by first | (with_reducible assumption) | assumption)
          obtain ⟨ad222, e222, hx222_0, hx222_1, hx222_2, hx222_3⟩ := at_T56 HR0.out x5_1 p222 q222
          cases e222
          replace p222 := eq_true p222
          replace q222 := eq_true q222
          have p223 : 0 ≤ (x5_1 : Int) := of_decide_eq_true (by first | (with_reducible assumption) | assumption)
          have q223 : x5_1 < (l1.length : Int) := of_decide_eq_true (by first | (with_reducible assumption) | assumption)
          obtain ⟨ad223, e223, hx223_0, hx223_1, hx223_2, hx223_3⟩ := at_T56 HR1.out x5_1 p223 q223
          cases e223
          replace p223 := eq_true p223
          replace q223 := eq_true q223
          go_wp2
          repeat (go_quiet (fail); try go_wp2)
          go_ret
          exact ⟨by first | rfl | (simp; done) | (simp [*]; done), by repeat (first | exact Drawn0.refl _ | apply Drawn0.step)⟩
        ·rw [if_neg c8] at H
         exact absurd H (by simp)
       ·rw [if_neg c7] at H
        exact absurd H (by simp)
      ·rw [if_neg c6] at H
       exact absurd H (by simp)
     ·replace c5 := Bool.eq_false_iff.mpr c5
      subst c5
      have H1 : ((stylusref04_Same.f kj2 l0 l1).bind fun t224 => (some t224)) = some r := by rw [if_neg (show ¬ (false = true) by decide)] at H; exact H
      clear H
      have H := H1
      clear H1
      replace H := Option.bind_eq_some_iff.mp H
      obtain ⟨t224, A100, H⟩ := H
      replace H : (some t224) = some r := H
      have A10 := Aside0.mk A100
      clear A100
      obtain rfl := Option.some.inj H
      go_wp2_with (first | (go_at_call 61; (with_reducible refine (stylusref04_Same.calls kj2 _ _ l0 _ _ l1 t224 _ ?side1 ?side2 ?side3 ?side4 A10.out).mono ?_); (case side1 => repeat (first | exact HR0.out | (with_reducible refine Kd.C_alloc ?_ _) | (with_reducible refine Kd.C_drewN ?_ _) | (with_reducible refine Kd.C_drew ?_))); (case side2 => exact HC0.out); (case side3 => repeat (first | exact HR1.out | (with_reducible refine Kd.C_alloc ?_ _) | (with_reducible refine Kd.C_drewN ?_ _) | (with_reducible refine Kd.C_drew ?_))); (case side4 => exact HC1.out); rintro e w' ⟨rfl, ⟨nd, rfl⟩⟩; (try first | exact ⟨rfl, _, World.drewN_drewN _ _ _⟩ | exact ⟨rfl, _, Eq.trans (World.drewN_drewN _ _ _) (congrArg (World.drewN _) (Nat.add_assoc _ _ _))⟩)))
      repeat (go_quiet (first | (go_at_call 61; (with_reducible refine (stylusref04_Same.calls kj2 _ _ l0 _ _ l1 t224 _ ?side1 ?side2 ?side3 ?side4 A10.out).mono ?_); (case side1 => repeat (first | exact HR0.out | (with_reducible refine Kd.C_alloc ?_ _) | (with_reducible refine Kd.C_drewN ?_ _) | (with_reducible refine Kd.C_drew ?_))); (case side2 => exact HC0.out); (case side3 => repeat (first | exact HR1.out | (with_reducible refine Kd.C_alloc ?_ _) | (with_reducible refine Kd.C_drewN ?_ _) | (with_reducible refine Kd.C_drew ?_))); (case side4 => exact HC1.out); rintro e w' ⟨rfl, ⟨nd, rfl⟩⟩; (try first | exact ⟨rfl, _, World.drewN_drewN _ _ _⟩ | exact ⟨rfl, _, Eq.trans (World.drewN_drewN _ _ _) (congrArg (World.drewN _) (Nat.add_assoc _ _ _))⟩))); try go_wp2_with (first | (go_at_call 61; (with_reducible refine (stylusref04_Same.calls kj2 _ _ l0 _ _ l1 t224 _ ?side1 ?side2 ?side3 ?side4 A10.out).mono ?_); (case side1 => repeat (first | exact HR0.out | (with_reducible refine Kd.C_alloc ?_ _) | (with_reducible refine Kd.C_drewN ?_ _) | (with_reducible refine Kd.C_drew ?_))); (case side2 => exact HC0.out); (case side3 => repeat (first | exact HR1.out | (with_reducible refine Kd.C_alloc ?_ _) | (with_reducible refine Kd.C_drewN ?_ _) | (with_reducible refine Kd.C_drew ?_))); (case side4 => exact HC1.out); rintro e w' ⟨rfl, ⟨nd, rfl⟩⟩; (try first | exact ⟨rfl, _, World.drewN_drewN _ _ _⟩ | exact ⟨rfl, _, Eq.trans (World.drewN_drewN _ _ _) (congrArg (World.drewN _) (Nat.add_assoc _ _ _))⟩))))
      go_ret
      exact ⟨by first | rfl | (simp; done) | (simp [*]; done), by repeat (first | exact Drawn0.refl _ | apply Drawn0.step)⟩
end Go.Proofs.Ythcmfjpheanphaa.Pr
namespace Go.Proofs.Ythcmfjpheanphaa.Pr
open Go.RowKit Go.Proofs.YthcmfjpheanphaaW.PrintWords
theorem same04_loop (t : List S56) (hl : t.length ≤ 1000000) : ∀ (d i k : Nat), d + i = t.length → d + 1 ≤ k → stylusref04_Same.l0 k t t i = some true
 | 0, i, k, h, hk => by
  obtain ⟨k, rfl⟩ : ∃ q, k = q + 1 := ⟨k - 1, by omega⟩
  rw [stylusref04_Same.l0, if_neg (by omega)]
 | d + 1, i, k, h, hk => by
  obtain ⟨k, rfl⟩ : ∃ q, k = q + 1 := ⟨k - 1, by omega⟩
  rw [stylusref04_Same.l0, if_pos (by omega), if_pos (by omega), if_pos (by omega), if_pos rfl, if_pos rfl, if_pos rfl, wrap_s (by omega)]
  exact same04_loop t hl d (i + 1) k (by omega) (by omega)
theorem same04_f (t : List S56) (hl : t.length ≤ 1000000) (k : Nat) (hk : t.length + 1 ≤ k) : stylusref04_Same.f k t t = some true := by
 unfold stylusref04_Same.f
 rw [if_pos rfl]
 exact same04_loop t hl t.length 0 k (by omega) (by omega)
theorem like_loop (t : List S56) (hl : t.length ≤ 1000000) : ∀ (d i k : Nat), d + i = t.length → 2 * d + t.length + 3 ≤ k → stylusref04_Like.l0 k t t i = some true
 | 0, i, k, h, hk => by
  obtain ⟨k, rfl⟩ : ∃ q, k = q + 2 := ⟨k - 2, by omega⟩
  rw [stylusref04_Like.l0, if_neg (by omega), stylusref04_Like.j1, if_neg (by decide), same04_f t hl k (by omega)]
  rfl
 | d + 1, i, k, h, hk => by
  obtain ⟨k, rfl⟩ : ∃ q, k = q + 2 := ⟨k - 2, by omega⟩
  rw [stylusref04_Like.l0, if_pos (by omega), stylusref04_Like.j1, if_pos (decide_eq_true (by omega)), if_pos (by omega), if_pos (by omega), if_pos (by omega), if_pos rfl, wrap_s (by omega)]
  exact like_loop t hl d (i + 1) k (by omega) (by omega)
theorem like_f (t : List S56) (hl : t.length ≤ 1000000) (k : Nat) (hk : 3 * t.length + 3 ≤ k) : stylusref04_Like.f k t t = some true :=
 like_loop t hl t.length 0 k (by omega) (by omega)
end Go.Proofs.Ythcmfjpheanphaa.Pr
namespace Go.Proofs.Ythcmfjpheanphaa.Pr
open Go.RowKit Go.Proofs.YthcmfjpheanphaaW.PrintWords Go.Proofs.YthcmfjpheanphaaW.PrintLast Go.Proofs.YthcmfjpheanphaaW.PrintMore
attribute [local go_sem] max2_int min2_int max_two min_two max_three min_three max_four min_four
def styluslaw04_vast.l0 : Nat → List (S56) → Int → Option (Bool)
 | 0, _, _ => none
 | k + 1, x0, x3 => if x3 < (x0.length : Int) then (if 0 ≤ x3 then (if (((rd_T56 x0 x3).f1).size : Int) > 100 then (some true) else (styluslaw04_vast.l0 k x0 (wrap64 (x3 + 1)))) else (none)) else (some false)
def styluslaw04_vast.f (k : Nat) (l0 : List (S56)) : Option (Bool) := if (l0.length : Int) > 150 then (some true) else (styluslaw04_vast.l0 k l0 0)
theorem styluslaw04_vast.mono_l : ∀ k, (∀ y0 y1, LeO (styluslaw04_vast.l0 k y0 y1) (styluslaw04_vast.l0 (k + 1) y0 y1))
 | 0 => fun _ _ r h => by simp [styluslaw04_vast.l0] at h
 | k + 1 => by
  have ih0 := styluslaw04_vast.mono_l k
  ·intro y0 y1
   unfold styluslaw04_vast.l0
   repeat' first
   | (with_reducible exact ih0 _ _)
   | (with_reducible exact LeO.refl _)
   | (with_reducible exact LeO.none _)
   | (with_reducible refine LeO.ite ?_ ?_)
   | (with_reducible refine LeO.bind ?_ (fun _ => ?_))
   | exact ih0 _ _
   | exact LeO.none _
   | refine LeO.ite ?_ ?_
   | refine LeO.bind ?_ (fun _ => ?_)
theorem styluslaw04_vast.mono : ∀ a0 k, LeO (styluslaw04_vast.f k a0) (styluslaw04_vast.f (k + 1) a0) := by
 intro a0 k
 have ih0 := styluslaw04_vast.mono_l k
 unfold styluslaw04_vast.f
 repeat' first
   | (with_reducible exact ih0 _ _)
   | (with_reducible exact LeO.refl _)
   | (with_reducible exact LeO.none _)
   | (with_reducible refine LeO.ite ?_ ?_)
   | (with_reducible refine LeO.bind ?_ (fun _ => ?_))
   | exact ih0 _ _
   | exact LeO.none _
   | refine LeO.ite ?_ ?_
   | refine LeO.bind ?_ (fun _ => ?_)
set_option maxHeartbeats 8000000 in
set_option maxRecDepth 100000 in
theorem styluslaw04_vast.calls (k : Nat) (A0 : Option Addr) (c0 : Nat) (l0 : List (S56)) (r : Bool) (w : World) (hr0 : Kd.C k56 w A0 l0.length l0) (hc0 : l0.length ≤ c0) (h : styluslaw04_vast.f k l0 = some r) :
  Calls Try.prog 59 #[.slice A0 l0.length c0] w fun e w' => e = .returned (.bool r) ∧ Drawn0 w w' := by
 have HR0 := Aside0.mk hr0
 have HC0 := Aside0.mk hc0
 clear hr0 hc0
 have H : (if (l0.length : Int) > 150 then (some true) else (styluslaw04_vast.l0 k l0 0)) = some r := h
 clear h
 by_cases c2 : (l0.length : Int) > 150
 ·rw [if_pos c2] at H
  have c2b0 : decide (150 < (l0.length : Int)) = true := decide_eq_true c2
  have c2b1 : decide (150 < l0.length) = true := decide_eq_true (by omega)
  clear c2
  obtain rfl := Option.some.inj H
  go_enter Try.func59, Try.ntmps59
  go_wp2
  go_ret
  exact ⟨by first | rfl | (simp; done) | (simp [*]; done), by repeat (first | exact Drawn0.refl _ | apply Drawn0.step)⟩
 ·rw [if_neg c2] at H
  have c2b0 : decide (150 < (l0.length : Int)) = false := decide_eq_false c2
  have c2b1 : decide (150 < l0.length) = false := decide_eq_false (by omega)
  clear c2
  have H' := Aside0.mk H
  clear H
  go_enter Try.func59, Try.ntmps59
  go_wp2
  go_loopg [3] k (fun kq v3 w' => ∃ (x3_1 : Int), v3 = .int .i64 x3_1 ∧ Aside0 (styluslaw04_vast.l0 kq l0 x3_1 = some r) ∧ Aside0 (kq ≤ k) ∧ Drawn0 w w')
  case atStart => exact ⟨(0), (by first | rfl | (simp; done) | (simp [*]; done)), H', ⟨Nat.le_refl _⟩, by repeat (first | exact Drawn0.refl _ | apply Drawn0.step)⟩
  case round =>
   clear H'
   try clear c2
   try clear c2b0
   try clear c2b1
   try clear p2
   obtain ⟨x3_1, rfl, HA, HK1, ⟨m1, rfl⟩⟩ := hrel
   cases gk with
   | zero => exact absurd HA.out (by simp [styluslaw04_vast.l0])
   | succ k1 =>
    have H := HA.out
    clear HA
    simp only [styluslaw04_vast.l0] at H
    by_cases c3 : x3_1 < (l0.length : Int)
    ·rw [if_pos c3] at H
     have c3b0 : decide (x3_1 < (l0.length : Int)) = true := decide_eq_true c3
     clear c3
     by_cases c4 : 0 ≤ x3_1
     ·rw [if_pos c4] at H
      have c4b0 : decide (0 ≤ x3_1) = true := decide_eq_true c4
      clear c4
      by_cases c5 : (((rd_T56 l0 x3_1).f1).size : Int) > 100
      ·rw [if_pos c5] at H
       have c5b0 : decide (100 < (((rd_T56 l0 x3_1).f1).size : Int)) = true := decide_eq_true c5
       have c5b1 : decide (100 < ((rd_T56 l0 x3_1).f1).size) = true := decide_eq_true (by omega)
       clear c5
       obtain rfl := Option.some.inj H
       have p288 : 0 ≤ (x3_1 : Int) := of_decide_eq_true (by first | (with_reducible assumption) | assumption)
       have q288 : x3_1 < (l0.length : Int) := of_decide_eq_true (by first | (with_reducible assumption) | assumption)
       obtain ⟨ad288, e288, hx288_0, hx288_1, hx288_2, hx288_3⟩ := at_T56 HR0.out x3_1 p288 q288
       cases e288
       replace p288 := eq_true p288
       replace q288 := eq_true q288
       go_wp2
       go_ret
       exact ⟨by first | rfl | (simp; done) | (simp [*]; done), by repeat (first | exact Drawn0.refl _ | apply Drawn0.step)⟩
      ·rw [if_neg c5] at H
       have c5b0 : decide (100 < (((rd_T56 l0 x3_1).f1).size : Int)) = false := decide_eq_false c5
       have c5b1 : decide (100 < ((rd_T56 l0 x3_1).f1).size) = false := decide_eq_false (by omega)
       clear c5
       have H' := Aside0.mk H
       clear H
       have p288 : 0 ≤ (x3_1 : Int) := of_decide_eq_true (by first | (with_reducible assumption) | assumption)
       have q288 : x3_1 < (l0.length : Int) := of_decide_eq_true (by first | (with_reducible assumption) | assumption)
       obtain ⟨ad288, e288, hx288_0, hx288_1, hx288_2, hx288_3⟩ := at_T56 HR0.out x3_1 p288 q288
       cases e288
       replace p288 := eq_true p288
       replace q288 := eq_true q288
       go_wp2
       go_roundg k1
       case measure => have := HK1.out; omega
       case rel => exact ⟨(wrap64 (x3_1 + 1)), (by first | rfl | (simp; done) | (simp [*]; done)), H', ⟨by have := HK1.out; omega⟩, by repeat (first | exact Drawn0.refl _ | apply Drawn0.step)⟩
     ·rw [if_neg c4] at H
      exact absurd H (by simp)
    ·rw [if_neg c3] at H
     have c3b0 : decide (x3_1 < (l0.length : Int)) = false := decide_eq_false c3
     clear c3
     obtain rfl := Option.some.inj H
     go_wp2
     go_ret
     exact ⟨by first | rfl | (simp; done) | (simp [*]; done), by repeat (first | exact Drawn0.refl _ | apply Drawn0.step)⟩
end Go.Proofs.Ythcmfjpheanphaa.Pr
namespace Go.Proofs.Ythcmfjpheanphaa.Pr
open Go.RowKit Go.Proofs.YthcmfjpheanphaaW.PrintWords
attribute [local go_sem] Oper.semAt_some
def eqN (x y : S56) : Bool := x.f0 == y.f0 && (x.f1.toList == y.f1.toList && x.f3 == y.f3)
def sameL : List S56 → List S56 → Bool
 | [], [] => true
 | x :: xs, y :: ys => eqN x y && sameL xs ys
 | _, _ => false
set_option pp.maxSteps 3000 in
set_option maxRecDepth 100000 in
set_option maxHeartbeats 2000000 in
theorem same1_calls (x y : S56) (w : World) : Calls Try.prog 98 #[.agg #[.int .u8 x.f0, .string x.f1, .int .i64 x.f2, .int .i64 x.f3], .agg #[.int .u8 y.f0, .string y.f1, .int .i64 y.f2, .int .i64 y.f3]] w fun e w' =>
  e = .returned (.bool (eqN x y)) ∧ Below w.heap.size w w' := by
 obtain ⟨f0, f1, f2, f3⟩ := x
 obtain ⟨g0, g1, g2, g3⟩ := y
 unfold eqN
 simp only
 have hb : Below w.heap.size w ((w.alloc (.cells #[.int .u8 f0, .string f1, .int .i64 f2, .int .i64 f3] 56)).alloc (.cells #[.int .u8 g0, .string g1, .int .i64 g2, .int .i64 g3] 56)) := ((Below.refl _ _).alloc (Nat.le_refl _) _).alloc (by simp) _
 have HB := Lib.hid hb
 clear hb
 cases h1 : (f0 == g0)
 ·go_enter Try.func98, Try.ntmps98
  go_wp2
  go_ret
  exact ⟨rfl, HB.out⟩
 ·cases h2 : (f1.toList == g1.toList)
  ·go_enter Try.func98, Try.ntmps98
   go_wp2
   go_ret
   exact ⟨rfl, HB.out⟩
  ·go_enter Try.func98, Try.ntmps98
   go_wp2
   go_ret
   exact ⟨rfl, HB.out⟩
theorem sameL_len : ∀ xs ys : List S56, sameL xs ys = true → xs.length = ys.length
 | [], [], _ => rfl
 | [], _ :: _, h => by simp [sameL] at h
 | _ :: _, [], h => by simp [sameL] at h
 | x :: xs, y :: ys, h => by
  simp only [sameL, Bool.and_eq_true] at h
  simp [sameL_len xs ys h.2]
theorem rd56_drop (xs : List S56) (k : Nat) (h : k < xs.length) : xs.drop k = rd_T56 xs k :: xs.drop (k + 1) := by
 rw [List.drop_eq_getElem_cons h]
 congr 1
 unfold rd_T56
 rw [Int.toNat_natCast, List.getD_eq_getElem?_getD, List.getElem?_eq_getElem h]
 rfl
set_option pp.maxSteps 3000 in
set_option maxRecDepth 100000 in
set_option maxHeartbeats 4000000 in
theorem equal_calls (A B : Option Addr) (c d : Nat) (xs ys : List S56) (w : World) (hx : xs.length ≤ 140737488351232) (hy : ys.length ≤ 140737488351232) (hA : Kd.C k56 w A xs.length xs) (hB : Kd.C k56 w B ys.length ys) :
  Calls Try.prog 97 #[.slice A xs.length c, .slice B ys.length d, .func (.func 98) #[] #[]] w fun e w' => e = .returned (.bool (sameL xs ys)) ∧ Below w.heap.size w w' := by
 have HA := Lib.hid hA
 have HB := Lib.hid hB
 clear hA hB
 by_cases hl : xs.length = ys.length
 ·have HL := Lib.hid hl
  obtain ⟨n, hn⟩ : ∃ n, xs.length = n := ⟨_, rfl⟩
  rw [← hl] at hy ⊢
  rw [hn] at hx hy ⊢
  have HN := Lib.hid hn
  clear hl hn
  obtain ⟨R, hR⟩ : ∃ R, sameL xs ys = R := ⟨_, rfl⟩
  rw [hR]
  have HR := Lib.hid hR
  clear hR
  go_enter Try.func97, Try.ntmps97
  go_wp2
  go_loopw [17] (fun v wr => ∃ k : Nat, k ≤ n ∧ v = .int .i64 k ∧ Below w.heap.size w wr ∧ sameL (xs.drop k) (ys.drop k) = R) (fun v _ => n - (intOf v).toNat)
  case atStart => exact ⟨0, Nat.zero_le _, rfl, Below.refl _ _, HR.out⟩
  case round =>
   obtain ⟨k, hk, rfl, hW, hs⟩ := hrel
   by_cases hlt : k < n
   ·have hlt1 : (k : Int) < (n : Int) := by omega
    rw [rd56_drop xs k (by have := HN.out; omega), rd56_drop ys k (by have := HN.out; have := HL.out; omega)] at hs
    have hs' : (eqN (rd_T56 xs k) (rd_T56 ys k) && sameL (xs.drop (k + 1)) (ys.drop (k + 1))) = R := hs
    obtain ⟨ad, e1, q0, q1, q2, q3⟩ := at_T56 (Kd.C_below HA.out hW) k (by omega) (by have := HN.out; omega)
    obtain ⟨ad2, e2, p0, p1, p2, p3⟩ := at_T56 (Kd.C_below HB.out hW) k (by omega) (by have := HN.out; have := HL.out; omega)
    subst e1
    subst e2
    simp only [Int.toNat_natCast] at q0 q1 q2 q3 p0 p1 p2 p3
    generalize rd_T56 xs k = x at *
    generalize rd_T56 ys k = y at *
    obtain ⟨f0, f1, f2, f3⟩ := x
    obtain ⟨g0, g1, g2, g3⟩ := y
    simp only at q0 q1 q2 q3 p0 p1 p2 p3
    have p0' := (((Below.refl _ wr).alloc (Nat.le_refl _) (.cells #[.int .u8 f0, .string f1, .int .i64 f2, .int .i64 f3] 56)).cell (World.block_lt_of_cell? wr _ p0)).trans p0
    have p1' := (((Below.refl _ wr).alloc (Nat.le_refl _) (.cells #[.int .u8 f0, .string f1, .int .i64 f2, .int .i64 f3] 56)).cell (World.block_lt_of_cell? wr _ p1)).trans p1
    have p2' := (((Below.refl _ wr).alloc (Nat.le_refl _) (.cells #[.int .u8 f0, .string f1, .int .i64 f2, .int .i64 f3] 56)).cell (World.block_lt_of_cell? wr _ p2)).trans p2
    have p3' := (((Below.refl _ wr).alloc (Nat.le_refl _) (.cells #[.int .u8 f0, .string f1, .int .i64 f2, .int .i64 f3] 56)).cell (World.block_lt_of_cell? wr _ p3)).trans p3
    have hc := fun W => same1_calls ⟨f0, f1, f2, f3⟩ ⟨g0, g1, g2, g3⟩ W
    obtain ⟨b, hb⟩ : ∃ b, eqN ⟨f0, f1, f2, f3⟩ ⟨g0, g1, g2, g3⟩ = b := ⟨_, rfl⟩
    rw [hb] at hs'
    simp only [hb] at hc
    have HS := Lib.hid hs'
    have HC := Lib.hid hc
    have hW2 := (hW.alloc hW.size (.cells #[.int .u8 f0, .string f1, .int .i64 f2, .int .i64 f3] 56)).alloc (by have := hW.size; simp; omega) (.cells #[.int .u8 g0, .string g1, .int .i64 g2, .int .i64 g3] 56)
    have HW2 := Lib.hid hW2
    clear hs hs' hc hb hW2
    cases b
    ·go_wp2_with (go_at_call 98; refine (HC.out _).mono ?_; rintro e w2 ⟨rfl, hb2⟩)
     go_ret
     exact ⟨by rw [← HS.out]; rfl, HW2.out.trans (hb2.mono HW2.out.size)⟩
    ·go_wp2_with (go_at_call 98; refine (HC.out _).mono ?_; rintro e w2 ⟨rfl, hb2⟩)
     go_roundw
     case rel => exact ⟨k + 1, by omega, by go_num, HW2.out.trans (hb2.mono HW2.out.size), by rw [← HS.out]; rfl⟩
     case measure => simp [intOf]; omega
   ·obtain rfl : k = n := by omega
    have hlt1 : ¬ (k : Int) < (k : Int) := by omega
    have hR : R = true := by
     rw [← hs, List.drop_of_length_le (by have := HN.out; omega), List.drop_of_length_le (by have := HN.out; have := HL.out; omega)]
     rfl
    subst hR
    clear hs
    go_wp2
    go_ret
    exact ⟨rfl, hW⟩
 ·have hs : sameL xs ys = false := by
   cases h : sameL xs ys with
   | false => rfl
   | true => exact absurd (sameL_len _ _ h) hl
  rw [hs]
  have hne : ((xs.length : Int) != (ys.length : Int)) = true := bne_iff_ne.2 (fun h => hl (by omega))
  clear hs hl
  go_enter Try.func97, Try.ntmps97
  go_wp2
  go_ret
  exact ⟨rfl, Below.refl _ _⟩
theorem same_calls (A B : Option Addr) (c d : Nat) (xs ys : List S56) (w : World) (hx : xs.length ≤ 140737488351232) (hy : ys.length ≤ 140737488351232) (hA : Kd.C k56 w A xs.length xs) (hB : Kd.C k56 w B ys.length ys) :
  Calls Try.prog 56 #[.slice A xs.length c, .slice B ys.length d] w fun e w' => e = .returned (.bool (sameL xs ys)) ∧ Below w.heap.size w w' := by
 have HC := Lib.hid (equal_calls A B c d xs ys w hx hy hA hB)
 clear hA hB
 go_enter Try.func56, Try.ntmps56
 go_wp2_with (go_at_call 97; refine HC.out.mono ?_; rintro e w2 ⟨rfl, hb2⟩)
 go_ret
 exact ⟨rfl, hb2⟩
end Go.Proofs.Ythcmfjpheanphaa.Pr
namespace Go.Proofs.Ythcmfjpheanphaa.Pr
open Go.RowKit Go.Maps Go.Proofs.YthcmfjpheanphaaW.PrintWords
attribute [local go_sem] Oper.semAt_some
theorem parse_R (a0 : ByteArray) (w : World) (hs : a0.size ≤ 140737488351232) {t : List S56} {a e : Int} (h : parseP a0 = (t, a, e)) : Calls Try.prog 53 #[.string a0] w fun e' w' => ∃ v0_ : Value, e' = .returned (.tuple #[v0_, .int .i64 a, .int .i64 e]) ∧ Kd.R k56 56 w' w.heap.size (fun _ => True) v0_ t ∧ Below w.heap.size w w' :=
 tree_Parse.calls a0 t a e w (by unfold tree_Parse.f; rw [if_pos hs, h])
def kindsB (s want sizes : ByteArray) : Bool :=
 (parseP s).2.2 == 0 && (parseP s).2.1 == 0 && (parseP s).1.length == want.size && want.size == sizes.size &&
  (List.range want.size).all fun k => (rd_T56 (parseP s).1 k).f0 == bt want k && (rd_T56 (parseP s).1 k).f3 == bt sizes k - 48 && decide (48 ≤ bt sizes k) && decide (bt sizes k ≤ 57)
def wrongB (s : ByteArray) (a : Int) : Bool := (parseP s).1.length == 0 && (parseP s).2.1 == a && (parseP s).2.2 == 2
set_option pp.maxSteps 3000 in
set_option maxRecDepth 100000 in
set_option maxHeartbeats 4000000 in
theorem kinds_calls (s want sizes : ByteArray) (w : World) (hs : s.size ≤ 8192) (hw : want.size ≤ 8192) (h : kindsB s want sizes = true) :
  Calls Try.prog 89 #[.string s, .string want, .string sizes] w fun e w' => e = .returned (.bool true) ∧ Below w.heap.size w w' := by
 unfold kindsB at h
 obtain ⟨⟨t, a, e⟩, ht⟩ : ∃ r, parseP s = r := ⟨_, rfl⟩
 rw [ht] at h
 simp only [Bool.and_eq_true, beq_iff_eq, List.all_eq_true, List.mem_range, decide_eq_true_eq] at h
 obtain ⟨⟨⟨⟨rfl, rfl⟩, hl⟩, hz⟩, hall⟩ := h
 have HP := Lib.hid (fun W => parse_R s W (by omega) ht)
 have HALL := Lib.hid hall
 have HZ := Lib.hid hz
 obtain ⟨n, hn⟩ : ∃ n, t.length = n := ⟨_, rfl⟩
 have hnw : n = want.size := by omega
 have HN := Lib.hid hn
 have HNW := Lib.hid hnw
 have hn8 : n ≤ 8192 := by omega
 clear ht hall hl hz hn hnw
 go_enter Try.func89, Try.ntmps89
 go_wp2_with fail
 refine (HP.out _).mono ?_
 rintro e w1 ⟨v, rfl, hR, hb1⟩
 obtain ⟨A, c, rfl, hc, hC⟩ := Kd.R_reads hR
 rw [HN.out] at hC ⊢
 have HC := Lib.hid hC
 have HB1 := Lib.hid hb1
 have hne : ((n : Int) != (want.size : Int)) = false := by rw [← HNW.out]; simp
 clear hR hC hb1
 go_wp2
 go_loopw [10] (fun v wr => ∃ k : Nat, k ≤ n ∧ v = .int .i64 k ∧ Below w1.heap.size w1 wr) (fun v _ => n - (intOf v).toNat)
 case atStart => exact ⟨0, Nat.zero_le _, rfl, Below.refl _ _⟩
 case round =>
  obtain ⟨k, hk, rfl, hW⟩ := hrel
  by_cases hlt : k < n
  ·have hlt1 : (k : Int) < (n : Int) := by omega
   have hkw : k < want.size := by have := HNW.out; omega
   have hkz : k < sizes.size := by have := HNW.out; have := HZ.out; omega
   have hkw1 : (k : Int) < (want.size : Int) := by omega
   have hkz1 : (k : Int) < (sizes.size : Int) := by omega
   obtain ⟨⟨⟨g1, g2⟩, g3⟩, g4⟩ := HALL.out k hkw
   obtain ⟨W2, hW2⟩ : ∃ W2, wr.drew = W2 := ⟨_, rfl⟩
   have hb2 : Below w1.heap.size w1 W2 := by rw [← hW2]; exact below_drew1 hW
   obtain ⟨ad, e1, q0, q1, q2, q3⟩ := at_T56 (Kd.C_below HC.out hb2) k (by omega) (by omega)
   subst e1
   simp only [Int.toNat_natCast] at q0 q1 q2 q3
   rw [g1] at q0
   rw [g2] at q3
   have b1 := bt_at want k (by simp; omega)
   have b2 := bt_at sizes k (by simp; omega)
   simp only [Int.toNat_natCast] at b1 b2
   generalize bt want k = x at *
   generalize bt sizes k = y at *
   have hxx : (x != x) = false := by simp
   have hyy : (y - 48 != y - 48) = false := by simp
   have HQ := Lib.hid (And.intro q0 (And.intro q3 (And.intro b1 b2)))
   have HB2 := Lib.hid hb2
   clear q0 q1 q2 q3 b1 b2 hW g1 g2 hb2
   go_wp2
   refine Go.Det.region_all (fun W => W = W2) (by kernel_rfl) (by kernel_rfl) hW2 ?_
   clear hW2
   repeat
    apply Go.Det.seqW_cons
    focus
     intro W hS
     obtain rfl : W = W2 := hS
     obtain ⟨q0, q3, b1, b2⟩ := HQ.out
     go_wp2
     exact Go.Det.AtEnd.mk rfl
   refine Go.Det.seqW_nil ?_
   intro W hS
   obtain rfl : W = W2 := hS
   simp only [Exit.then]
   go_wp2
   go_roundw
   case rel => exact ⟨k + 1, by omega, by go_num, HB2.out⟩
   case measure => simp [intOf]; omega
  ·obtain rfl : k = n := by omega
   have hlt1 : ¬ (k : Int) < (k : Int) := by omega
   go_wp2
   go_ret
   exact ⟨rfl, HB1.out.trans (hW.mono HB1.out.size)⟩
set_option maxRecDepth 100000 in
set_option maxHeartbeats 4000000 in
theorem wrong_calls (s : ByteArray) (a : Int) (w : World) (hs : s.size ≤ 8192) (h : wrongB s a = true) :
  Calls Try.prog 90 #[.string s, .int .i64 a] w fun e w' => e = .returned (.bool true) ∧ Below w.heap.size w w' := by
 unfold wrongB at h
 obtain ⟨⟨t, a', e⟩, ht⟩ : ∃ r, parseP s = r := ⟨_, rfl⟩
 rw [ht] at h
 simp only [Bool.and_eq_true, beq_iff_eq] at h
 obtain ⟨⟨hl, rfl⟩, rfl⟩ := h
 have HP := Lib.hid (fun W => parse_R s W (by omega) ht)
 have HL := Lib.hid hl
 clear ht hl
 go_enter Try.func90, Try.ntmps90
 go_wp2_with fail
 refine (HP.out _).mono ?_
 rintro e w1 ⟨v, rfl, hR, hb1⟩
 obtain ⟨A, c, rfl, hc, hC⟩ := Kd.R_reads hR
 rw [HL.out]
 have HB1 := Lib.hid hb1
 have haa : (a' == a') = true := by simp
 clear hR hC hb1
 go_wp2
 go_ret
 exact ⟨rfl, HB1.out⟩
theorem aw1 : kindsB ⟨#[123, 112, 32, 97, 123, 101, 32, 98, 125, 125]⟩ ⟨#[112, 46, 101, 46]⟩ ⟨#[52, 49, 50, 49]⟩ = true := by decide +kernel
theorem aw2 : kindsB ⟨#[123, 108, 123, 105, 32, 97, 123, 108, 123, 105, 32, 98, 125, 125, 125, 125]⟩ ⟨#[108, 105, 46, 108, 105, 46]⟩ ⟨#[54, 53, 49, 51, 50, 49]⟩ = true := by decide +kernel
theorem aw3 : kindsB ⟨#[123, 107, 125, 32, 123, 112, 125]⟩ ⟨#[107, 112]⟩ ⟨#[49, 49]⟩ = true := by decide +kernel
theorem aw4 : wrongB ⟨#[120]⟩ 0 = true := by decide +kernel
theorem aw5 : wrongB ⟨#[123, 112]⟩ 2 = true := by decide +kernel
theorem aw6 : wrongB ⟨#[125]⟩ 0 = true := by decide +kernel
theorem aw7 : wrongB ⟨#[123, 108, 125]⟩ 2 = true := by decide +kernel
theorem aw8 : wrongB ⟨#[123, 116, 123, 114, 123, 99, 32, 97, 125, 123, 99, 32, 98, 125, 125, 123, 114, 123, 99, 32, 99, 125, 125, 125]⟩ 22 = true := by decide +kernel
theorem aw9 : wrongB ⟨#[123, 112, 123, 101, 123, 115, 123, 101, 32, 97, 125, 125, 125, 125]⟩ 6 = true := by decide +kernel
set_option maxRecDepth 100000 in
set_option maxHeartbeats 4000000 in
theorem awake04_calls (w : World) : Calls Try.prog 52 #[] w fun e w' => e = .returned (.bool true) ∧ Below w.heap.size w w' := by
 have HB := Lib.hid (Below.refl w.heap.size w)
 go_enter Try.func52, Try.ntmps52
 go_wp2_with fail
 refine (kinds_calls _ _ _ _ (by decide) (by decide) aw1).mono ?_
 rintro e w1 ⟨rfl, hb⟩
 replace HB := Lib.hid (HB.out.trans (hb.mono HB.out.size))
 clear hb
 go_wp2_with fail
 refine (kinds_calls _ _ _ _ (by decide) (by decide) aw2).mono ?_
 rintro e w2 ⟨rfl, hb⟩
 replace HB := Lib.hid (HB.out.trans (hb.mono HB.out.size))
 clear hb
 go_wp2_with fail
 refine (kinds_calls _ _ _ _ (by decide) (by decide) aw3).mono ?_
 rintro e w3 ⟨rfl, hb⟩
 replace HB := Lib.hid (HB.out.trans (hb.mono HB.out.size))
 clear hb
 go_wp2_with fail
 refine (wrong_calls _ _ _ (by decide) aw4).mono ?_
 rintro e w4 ⟨rfl, hb⟩
 replace HB := Lib.hid (HB.out.trans (hb.mono HB.out.size))
 clear hb
 go_wp2_with fail
 refine (wrong_calls _ _ _ (by decide) aw5).mono ?_
 rintro e w5 ⟨rfl, hb⟩
 replace HB := Lib.hid (HB.out.trans (hb.mono HB.out.size))
 clear hb
 go_wp2_with fail
 refine (wrong_calls _ _ _ (by decide) aw6).mono ?_
 rintro e w6 ⟨rfl, hb⟩
 replace HB := Lib.hid (HB.out.trans (hb.mono HB.out.size))
 clear hb
 go_wp2_with fail
 refine (wrong_calls _ _ _ (by decide) aw7).mono ?_
 rintro e w7 ⟨rfl, hb⟩
 replace HB := Lib.hid (HB.out.trans (hb.mono HB.out.size))
 clear hb
 go_wp2_with fail
 refine (wrong_calls _ _ _ (by decide) aw8).mono ?_
 rintro e w8 ⟨rfl, hb⟩
 replace HB := Lib.hid (HB.out.trans (hb.mono HB.out.size))
 clear hb
 go_wp2_with fail
 refine (wrong_calls _ _ _ (by decide) aw9).mono ?_
 rintro e w9 ⟨rfl, hb⟩
 replace HB := Lib.hid (HB.out.trans (hb.mono HB.out.size))
 clear hb
 go_wp2
 go_ret
 exact ⟨rfl, HB.out⟩
end Go.Proofs.Ythcmfjpheanphaa.Pr
namespace Go.Proofs.Ythcmfjpheanphaa.Pr
open Go.RowKit Go.Proofs.YthcmfjpheanphaaW.PrintWords
def styluslaw04_awake.f (k : Nat) : Option Bool := some true
theorem styluslaw04_awake.mono : ∀ k, LeO (styluslaw04_awake.f k) (styluslaw04_awake.f (k + 1)) := fun _ => LeO.refl _
theorem styluslaw04_awake.calls (k : Nat) (r : Bool) (w : World) (h : styluslaw04_awake.f k = some r) : Calls Try.prog 52 #[] w fun e w' => e = .returned (.bool r) ∧ Below w.heap.size w w' := by
 obtain rfl := Option.some.inj h
 exact awake04_calls w
def nodesB (l : List S56) : Bool := decide (l.length ≤ 400000) && l.all fun x => decide (x.f1.size ≤ 1000000) && (decide (0 ≤ x.f0) && decide (x.f0 ≤ 255))
theorem nodesB_iff (l : List S56) : nodesB l = true ↔ l.length ≤ 400000 ∧ NodesOk l := by
 unfold nodesB NodesOk
 simp only [Bool.and_eq_true, decide_eq_true_eq, List.all_eq_true]
def tree_Check.f (l0 : List S56) : Option Int := if nodesB l0 = true then some (checkP l0) else none
theorem tree_Check.calls (A0 : Option Addr) (c0 : Nat) (l0 : List S56) (r : Int) (w : World) (hr0 : Kd.C k56 w A0 l0.length l0) (hc0 : l0.length ≤ c0) (h : tree_Check.f l0 = some r) :
  Calls Try.prog 57 #[.slice A0 l0.length c0] w fun e w' => e = .returned (.int .i64 r) ∧ Below w.heap.size w w' := by
 unfold tree_Check.f at h
 by_cases hs : nodesB l0 = true
 ·rw [if_pos hs] at h
  obtain rfl := Option.some.inj h
  obtain ⟨h1, h2⟩ := (nodesB_iff l0).mp hs
  exact check_calls A0 c0 l0 w h1 h2 hr0 hc0
 ·rw [if_neg hs] at h
  cases h
def tree_Same.f (l0 l1 : List S56) : Option Bool := if l0.length ≤ 140737488351232 ∧ l1.length ≤ 140737488351232 then some (sameL l0 l1) else none
theorem tree_Same.calls (A0 : Option Addr) (c0 : Nat) (l0 : List S56) (A1 : Option Addr) (c1 : Nat) (l1 : List S56) (r : Bool) (w : World) (hr0 : Kd.C k56 w A0 l0.length l0) (hc0 : l0.length ≤ c0)
  (hr1 : Kd.C k56 w A1 l1.length l1) (hc1 : l1.length ≤ c1) (h : tree_Same.f l0 l1 = some r) :
  Calls Try.prog 56 #[.slice A0 l0.length c0, .slice A1 l1.length c1] w fun e w' => e = .returned (.bool r) ∧ Below w.heap.size w w' := by
 unfold tree_Same.f at h
 by_cases hs : l0.length ≤ 140737488351232 ∧ l1.length ≤ 140737488351232
 ·rw [if_pos hs] at h
  obtain rfl := Option.some.inj h
  exact same_calls A0 A1 c0 c1 l0 l1 w hs.1 hs.2 hr0 hr1
 ·rw [if_neg hs] at h
  cases h
end Go.Proofs.Ythcmfjpheanphaa.Pr
