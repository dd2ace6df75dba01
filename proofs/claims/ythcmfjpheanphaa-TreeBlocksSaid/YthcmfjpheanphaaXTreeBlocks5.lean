/- Texts of this seat, one behind the other. -/
import Derived.Laws.EntriesVeiled
import Derived.Lib.Hide
import Derived.WalkKit
import Derived.Outline
import Derived.Laws.AppendOwnNone
import Derived.Test.YthcmfjpheanphaaXTreeBlocks1
import Derived.Test.YthcmfjpheanphaaXTreeBlocks2
import Derived.Test.YthcmfjpheanphaaXTreeBlocks3
import Derived.Test.YthcmfjpheanphaaXTreeBlocks4
set_option linter.unusedVariables false
set_option linter.unusedSimpArgs false
namespace Go.Proofs.Ythcmfjpheanphaa.Pure
open Go.RowKit Go.Proofs.Ythcmfjpheanphaa.Pr Go.Proofs.YthcmfjpheanphaaW.PrintWords Go.Proofs.YthcmfjpheanphaaW.PrintLast
def lexGo (s : ByteArray) : Nat → Nat → List S47 → List S47 × Int × Int
 | 0, _, acc => (acc, 0, 0)
 | d + 1, at_, acc => if at_ < s.size then (if (nextP (s.extract at_ s.size) at_).e = 0 then lexGo s d (at_ + (nextP (s.extract at_ s.size) at_).size.toNat) (acc ++ [(nextP (s.extract at_ s.size) at_).l]) else ([], at_, (nextP (s.extract at_ s.size) at_).e)) else (acc, 0, 0)
def outL (acc : List S47) (L : List (Nat × Spot)) : List S47 × Int × Int := if lastE L = 0 then (acc ++ lexes L, 0, 0) else ([], lastAt L, lastE L)
theorem outL_nil (acc : List S47) : outL acc [] = (acc, 0, 0) := by simp [outL, lastE, lexes]
theorem outL_cons (acc : List S47) (x y : Nat × Spot) (L : List (Nat × Spot)) : outL acc (x :: y :: L) = outL (acc ++ [x.2.l]) (y :: L) := by
 have e1 : lastE (x :: y :: L) = lastE (y :: L) := by simp [lastE]
 have e2 : lastAt (x :: y :: L) = lastAt (y :: L) := by simp [lastAt]
 unfold outL
 rw [e2, show lexes (x :: y :: L) = x.2.l :: lexes (y :: L) from rfl]
 simp [e1]
theorem lexGo_all (s : ByteArray) : ∀ (d at_ : Nat) (acc : List S47), lexGo s d at_ acc = outL acc (allL s d at_)
 | 0, at_, acc => by simp only [lexGo, allL, outL_nil]
 | d + 1, at_, acc => by
  simp only [lexGo, allL]
  by_cases h : at_ < s.size
  ·rw [if_pos h, if_pos h]
   by_cases he : (nextP (s.extract at_ s.size) at_).e = 0
   ·rw [if_pos he, if_pos he, lexGo_all s d]
    generalize allL s d (at_ + (nextP (s.extract at_ s.size) at_).size.toNat) = L
    cases L with
    | nil => simp [outL, lastE, lexes, he]
    | cons y L => rw [outL_cons]
   ·rw [if_neg he, if_neg he]
    simp [outL, lastE, lastAt, he]
  ·rw [if_neg h, if_neg h, outL_nil]
theorem lexP_go (s : ByteArray) (h : s.size ≤ 8192) : lexP s = lexGo s s.size 0 [] := by
 unfold lexP
 rw [if_neg (by omega), lexGo_all]
 simp [outL]
theorem ext_ext (s : ByteArray) (a i j : Nat) (h : a + j ≤ s.size) : (s.extract a s.size).extract i j = s.extract (a + i) (a + j) := by
 rw [ByteArray.extract_extract]
 congr 1
 omega
theorem plainTo_ext (s : ByteArray) (p : Nat) (hp : p ≤ s.size) : ∀ d j, p + j ≤ s.size → p + plainTo (s.extract p s.size) d j = plainTo s d (p + j)
 | 0, j, _ => rfl
 | d + 1, j, hj => by
  simp only [plainTo]
  have hsz : (s.extract p s.size).size = s.size - p := by rw [ByteArray.size_extract]; omega
  by_cases h : p + j < s.size
  ·have hb : bt (s.extract p s.size) (j : Int) = bt s ((p + j : Nat) : Int) := bt_extract s p s.size (Nat.le_refl _) j h
   rw [hb, hsz]
   by_cases hpl : plainP (bt s ((p + j : Nat) : Int)) = true
   ·rw [if_pos ⟨by omega, hpl⟩, if_pos ⟨h, hpl⟩]
    exact plainTo_ext s p hp d (j + 1) (by omega)
   ·rw [if_neg (fun h => hpl h.2), if_neg (fun h => hpl h.2)]
  ·rw [if_neg (fun h' => by omega), if_neg (fun h' => by omega)]
theorem plainTo_le (t : ByteArray) : ∀ d q, q ≤ plainTo t d q
 | 0, q => Nat.le_refl _
 | d + 1, q => by
  simp only [plainTo]
  split
  ·have := plainTo_le t d (q + 1); omega
  ·exact Nat.le_refl _
theorem plainTo_more (t : ByteArray) : ∀ d e q, t.size ≤ d + q → t.size ≤ e + q → plainTo t d q = plainTo t e q
 | 0, e, q, h, _ => by rw [plainTo_stop t e q (fun h' => by omega)]; rfl
 | d + 1, 0, q, _, h => by rw [plainTo_stop t (d + 1) q (fun h' => by omega)]; rfl
 | d + 1, e + 1, q, h, h' => by
  simp only [plainTo]
  split
  ·exact plainTo_more t d e (q + 1) (by omega) (by omega)
  ·rfl
theorem plainTo_out (t : ByteArray) : ∀ d p, t.size ≤ d + p → plainTo t d p < t.size → ¬ plainP (bt t ((plainTo t d p : Nat) : Int)) = true
 | 0, p, h, h2 => by simp only [plainTo] at h2; omega
 | d + 1, p, h, h2 => by
  simp only [plainTo] at h2 ⊢
  split at h2
  ·rename_i hc
   rw [if_pos hc]
   exact plainTo_out t d (p + 1) (by omega) h2
  ·rename_i hc
   rw [if_neg hc]
   exact fun e => hc ⟨h2, e⟩
def tEnd (s : ByteArray) (q : Nat) : Nat := plainTo s s.size q
theorem tEnd_step (s : ByteArray) (q : Nat) (h : q < s.size) (hp : plainP (bt s (q : Int)) = true) : tEnd s q = tEnd s (q + 1) := by
 unfold tEnd
 obtain ⟨n, hn⟩ : ∃ n, s.size = n + 1 := ⟨s.size - 1, by omega⟩
 have : plainTo s (n + 1) q = plainTo s n (q + 1) := by
  simp only [plainTo]; rw [if_pos ⟨h, hp⟩]
 rw [hn, this]
 exact plainTo_more s n (n + 1) (q + 1) (by omega) (by omega)
theorem tEnd_stop (s : ByteArray) (q : Nat) (h : ¬ (q < s.size ∧ plainP (bt s (q : Int)) = true)) : tEnd s q = q := plainTo_stop s _ q h
theorem tEnd_le (s : ByteArray) (q : Nat) (h : q ≤ s.size) : q ≤ tEnd s q ∧ tEnd s q ≤ s.size := ⟨plainTo_le s _ q, plainTo_size s _ q h⟩
theorem nextP_at (s : ByteArray) (p : Nat) (hp : p < s.size) :
  nextP (s.extract p s.size) p = if bt s (p : Int) = 123 then openP (s.extract p s.size) p else if bt s (p : Int) = 125 then ⟨⟨3, 0, ⟨#[]⟩, p⟩, 1, 0⟩
   else if tEnd s p = p then ⟨⟨0, 0, ⟨#[]⟩, 0⟩, 0, 3⟩ else ⟨⟨1, 0, s.extract p (tEnd s p), p⟩, ((tEnd s p - p : Nat) : Int), 0⟩ := by
 have hb : bt (s.extract p s.size) 0 = bt s (p : Int) := bt_extract s p s.size (Nat.le_refl _) 0 hp
 have hsz : (s.extract p s.size).size = s.size - p := by rw [ByteArray.size_extract]; omega
 have ht : p + plainTo (s.extract p s.size) (s.extract p s.size).size 0 = tEnd s p := by
  rw [plainTo_ext s p (by omega) _ 0 (by omega), hsz]
  exact plainTo_more s _ _ p (by omega) (by omega)
 have hle := tEnd_le s p (by omega)
 unfold nextP
 rw [hb]
 generalize plainTo (s.extract p s.size) (s.extract p s.size).size 0 = z at *
 split
 ·rfl
 ·split
  ·rfl
  ·by_cases hz : z = 0
   ·rw [if_pos hz, if_pos (by omega)]
   ·rw [if_neg hz, if_neg (by omega), ext_ext s p 0 z (by omega)]
    rw [show p + z = tEnd s p from ht, Nat.add_zero, show z = tEnd s p - p by omega]
theorem pref_at (s n : ByteArray) (p : Nat) (hp : p < s.size) : prefP ((s.extract p s.size).extract 1 (s.extract p s.size).size) n = if p + 1 + n.size ≤ s.size then (s.extract (p + 1) (p + 1 + n.size)).toList == n.toList else false := by
 have hsz : (s.extract p s.size).size = s.size - p := by rw [ByteArray.size_extract]; omega
 have e1 : (s.extract p s.size).extract 1 (s.extract p s.size).size = s.extract (p + 1) s.size := by
  rw [hsz, ext_ext s p 1 (s.size - p) (by omega)]
  congr 1; omega
 rw [e1]
 unfold prefP
 have hsz2 : (s.extract (p + 1) s.size).size = s.size - (p + 1) := by rw [ByteArray.size_extract]; omega
 rw [hsz2]
 by_cases h : p + 1 + n.size ≤ s.size
 ·rw [if_pos (by omega), if_pos h, ext_ext s (p + 1) 0 n.size (by omega), Nat.add_zero]
 ·rw [if_neg (by omega), if_neg h]
def isB (c : Int) : Bool := !(classP c == 0) && !(classP c == 6)
theorem is_fin : ∀ n : Fin 256, stylusref01_Is.f 20 (n.val : Int) = some (isB (n.val : Int)) ∧ stylusref01_White.f (n.val : Int) = some (whiteP (n.val : Int)) ∧ (plainP (n.val : Int) = (isB (n.val : Int) || whiteP (n.val : Int))) ∧ (plainP (n.val : Int) = true → (n.val : Int) ≠ 125 ∧ (n.val : Int) ≠ 123) := by decide +kernel
theorem empty_app (t : ByteArray) : (⟨#[]⟩ : ByteArray) ++ t = t := by
 apply ByteArray.ext
 simp
theorem lexGo_step (s : ByteArray) (d at_ : Nat) (acc : List S47) (x : Spot) (hat : at_ < s.size) (hx : nextP (s.extract at_ s.size) at_ = x) (z : Nat) (h0 : x.e = 0) (hz : x.size = (z : Int)) :
  lexGo s (d + 1) at_ acc = lexGo s d (at_ + z) (acc ++ [x.l]) := by
 simp only [lexGo]
 rw [if_pos hat, hx, if_pos h0, hz, Int.toNat_natCast]
theorem lexGo_bad (s : ByteArray) (d at_ : Nat) (acc : List S47) (x : Spot) (hat : at_ < s.size) (hx : nextP (s.extract at_ s.size) at_ = x) (h0 : x.e ≠ 0) :
  lexGo s (d + 1) at_ acc = ([], (at_ : Int), x.e) := by
 simp only [lexGo]
 rw [if_pos hat, hx, if_neg h0]
theorem next_close (s : ByteArray) (p : Nat) (hp : p < s.size) (h : bt s (p : Int) = 125) : nextP (s.extract p s.size) p = ⟨⟨3, 0, ⟨#[]⟩, p⟩, 1, 0⟩ := by
 rw [nextP_at s p hp]
 have h1 : ¬ bt s (p : Int) = 123 := fun e => by rw [h] at e; exact absurd e (by decide)
 rw [if_neg h1, if_pos h]
theorem next_open (s : ByteArray) (p : Nat) (hp : p < s.size) (h : bt s (p : Int) = 123) : nextP (s.extract p s.size) p = openP (s.extract p s.size) p := by
 rw [nextP_at s p hp, if_pos h]
theorem next_text (s : ByteArray) (p : Nat) (hp : p < s.size) (h1 : bt s (p : Int) ≠ 123) (h2 : bt s (p : Int) ≠ 125) (h3 : plainP (bt s (p : Int)) = true) : p < tEnd s p ∧ nextP (s.extract p s.size) p = ⟨⟨1, 0, s.extract p (tEnd s p), p⟩, ((tEnd s p - p : Nat) : Int), 0⟩ := by
 have hst := tEnd_step s p hp h3
 have hle := tEnd_le s (p + 1) (by omega)
 have hlt : p < tEnd s p := by omega
 refine ⟨hlt, ?_⟩
 rw [nextP_at s p hp, if_neg h1, if_neg h2, if_neg (by omega)]
theorem next_bad (s : ByteArray) (p : Nat) (hp : p < s.size) (h1 : bt s (p : Int) ≠ 123) (h2 : bt s (p : Int) ≠ 125) (h3 : ¬ plainP (bt s (p : Int)) = true) : nextP (s.extract p s.size) p = ⟨⟨0, 0, ⟨#[]⟩, 0⟩, 0, 3⟩ := by
 rw [nextP_at s p hp, if_neg h1, if_neg h2, if_pos (tEnd_stop s p (fun h => h3 h.2))]
def openZ (s : ByteArray) (p : Nat) (x : ByteArray) : Nat := if p + x.size + 1 < s.size ∧ whiteP (bt s ((p + x.size + 1 : Nat) : Int)) = true then x.size + 2 else x.size + 1
theorem openP_some (s : ByteArray) (p : Nat) (hp : p < s.size) (x : ByteArray) (hn : openN (s.extract p s.size) = some x) :
  openP (s.extract p s.size) p = ⟨⟨2, letP x, ⟨#[]⟩, p⟩, ((openZ s p x : Nat) : Int), 0⟩ ∧ x ∈ namesL ∧ p + x.size + 1 ≤ s.size := by
 obtain ⟨hp1, hp2⟩ := openN_pref (s.extract p s.size) x hn
 have hsz : (s.extract p s.size).size = s.size - p := by rw [ByteArray.size_extract]; omega
 have hps := prefP_size hp1
 rw [ByteArray.size_extract, hsz] at hps
 refine ⟨?_, hp2, by omega⟩
 unfold openP openZ
 rw [hn]
 simp only
 rw [hsz]
 by_cases hlt : p + x.size + 1 < s.size
 ·have hbx : bt (s.extract p s.size) ((x.size + 1 : Nat) : Int) = bt s ((p + (x.size + 1) : Nat) : Int) := bt_extract s p s.size (Nat.le_refl _) (x.size + 1) (by omega)
  rw [hbx, show p + (x.size + 1) = p + x.size + 1 by omega]
  by_cases hw : whiteP (bt s ((p + x.size + 1 : Nat) : Int)) = true
  ·rw [if_pos ⟨by omega, hw⟩, if_pos ⟨hlt, hw⟩]; rfl
  ·rw [if_neg (fun h => hw h.2), if_neg (fun h => hw h.2)]; rfl
 ·rw [if_neg (fun h => by omega), if_neg (fun h => hlt h.1)]; rfl
theorem openP_none (s : ByteArray) (p : Nat) (hn : openN (s.extract p s.size) = none) : openP (s.extract p s.size) p = ⟨⟨0, 0, ⟨#[]⟩, 0⟩, 0, 2⟩ := by
 unfold openP; rw [hn]
theorem allL_length (s : ByteArray) : ∀ d at_, (allL s d at_).length ≤ d
 | 0, _ => Nat.le_refl _
 | d + 1, at_ => by
  simp only [allL]
  split
  ·simp only [List.length_cons]
   split
   ·have := allL_length s d (at_ + (nextP (s.extract at_ s.size) at_).size.toNat); omega
   ·simp
  ·simp
theorem lexP_length (s : ByteArray) : (lexP s).1.length ≤ s.size := by
 unfold lexP
 split
 ·simp
 ·split
  ·simp only [lexes_length]; exact allL_length s s.size 0
  ·simp
theorem bt_app_left (A b : ByteArray) (j : Nat) (h : j < A.size) : bt (A ++ b) (j : Int) = bt A (j : Int) := by
 have h1 : (j : Int).toNat < (A ++ b).size := by rw [ByteArray.size_append, Int.toNat_natCast]; omega
 have h2 : (j : Int).toNat < A.size := by rw [Int.toNat_natCast]; exact h
 unfold bt
 rw [dif_pos h1, dif_pos h2]
 simp only [Int.toNat_natCast]
 rw [ByteArray.getElem_append_left h]
theorem bt_app_right (A b : ByteArray) (j : Nat) (h : j < b.size) : bt (A ++ b) ((A.size + j : Nat) : Int) = bt b (j : Int) := by
 have h1 : ((A.size + j : Nat) : Int).toNat < (A ++ b).size := by rw [ByteArray.size_append, Int.toNat_natCast]; omega
 have h2 : (j : Int).toNat < b.size := by rw [Int.toNat_natCast]; exact h
 unfold bt
 rw [dif_pos h1, dif_pos h2]
 simp only [Int.toNat_natCast]
 rw [ByteArray.getElem_append_right (Nat.le_add_right _ _)]
 simp only [Nat.add_sub_cancel_left]
theorem ext_app_left (A b : ByteArray) (p q : Nat) (h : q ≤ A.size) : (A ++ b).extract p q = A.extract p q := by
 have hs : (A ++ b).size = A.size + b.size := ByteArray.size_append
 apply byte_ext
 ·rw [ByteArray.size_extract, ByteArray.size_extract, hs]; omega
 ·intro j hj
  rw [ByteArray.size_extract, hs] at hj
  rw [bt_extract _ p q (by omega) j (by omega), bt_extract _ p q h j (by omega), bt_app_left A b _ (by omega)]
theorem ext_app_right (A b : ByteArray) (p q : Nat) (h : q ≤ b.size) : (A ++ b).extract (A.size + p) (A.size + q) = b.extract p q := by
 have hs : (A ++ b).size = A.size + b.size := ByteArray.size_append
 apply byte_ext
 ·rw [ByteArray.size_extract, ByteArray.size_extract, hs]; omega
 ·intro j hj
  rw [ByteArray.size_extract, hs] at hj
  rw [bt_extract _ _ _ (by omega) j (by omega), bt_extract _ p q h j (by omega), show A.size + p + j = A.size + (p + j) by omega, bt_app_right A b _ (by omega)]
def shiftS (N : Int) (x : Spot) : Spot := if x.e = 0 then ⟨⟨x.l.f0, x.l.f1, x.l.f2, x.l.f3 + N⟩, x.size, x.e⟩ else x
theorem nextP_shift (t : ByteArray) (p N : Int) : nextP t (p + N) = shiftS N (nextP t p) := by
 unfold nextP openP shiftS
 cases openN t with
 | none =>
  split
  ·simp
  ·split
   ·simp
   ·split <;> simp
 | some x =>
  split
  ·simp
  ·split
   ·simp
   ·split <;> simp
theorem next_app_right (A b : ByteArray) (p : Nat) (hp : p ≤ b.size) : nextP ((A ++ b).extract (A.size + p) (A ++ b).size) ((A.size + p : Nat) : Int) = shiftS (A.size : Int) (nextP (b.extract p b.size) p) := by
 rw [show (A ++ b).size = A.size + b.size from ByteArray.size_append, ext_app_right A b p b.size (Nat.le_refl _), ← nextP_shift]
 congr 1
 omega
theorem plain_125 : plainP 125 = false := by decide +kernel
theorem names_125 : ∀ x ∈ namesL, ∀ j : Nat, j < x.size → bt x (j : Int) ≠ 125 := by decide +kernel
theorem find_congr {p q : ByteArray → Bool} : ∀ (l : List ByteArray), (∀ x ∈ l, p x = q x) → l.find? p = l.find? q
 | [], _ => rfl
 | x :: l, h => by
  rw [List.find?_cons, List.find?_cons, h x (by simp), find_congr l (fun y hy => h y (by simp [hy]))]
theorem toList_inj {a b : ByteArray} (h : a.toList = b.toList) : a = b := by
 rw [ByteArray.toList_eq, ByteArray.toList_eq] at h
 apply ByteArray.ext
 exact Array.toList_inj.1 h
section
variable (A b : ByteArray) (na : Nat) (hA : A.size = na + 1) (h125 : bt A (na : Int) = 125)
include hA h125
theorem tEnd_app : ∀ m p, na - p ≤ m → p ≤ na → tEnd (A ++ b) p = tEnd A p ∧ tEnd A p ≤ na := by
 have hs : (A ++ b).size = A.size + b.size := ByteArray.size_append
 intro m
 induction m with
 | zero =>
  intro p hm hp
  obtain rfl : p = na := by omega
  have e1 := tEnd_stop A p (fun h => by rw [h125, plain_125] at h; exact absurd h.2 (by simp))
  have e2 := tEnd_stop (A ++ b) p (fun h => by rw [bt_app_left A b p (by omega), h125, plain_125] at h; exact absurd h.2 (by simp))
  rw [e1, e2]
  exact ⟨rfl, Nat.le_refl _⟩
 | succ m ih =>
  intro p hm hp
  by_cases hpn : p = na
  ·exact ih p (by omega) hp
  ·by_cases hpl : plainP (bt A (p : Int)) = true
   ·rw [tEnd_step A p (by omega) hpl, tEnd_step (A ++ b) p (by omega) (by rw [bt_app_left A b p (by omega)]; exact hpl)]
    exact ih (p + 1) (by omega) (by omega)
   ·rw [tEnd_stop A p (fun h => hpl h.2), tEnd_stop (A ++ b) p (fun h => by rw [bt_app_left A b p (by omega)] at h; exact hpl h.2)]
    exact ⟨rfl, hp⟩
theorem pref_app (p : Nat) (hp : p < na) (n : ByteArray) (hn : n ∈ namesL) :
  (prefP (((A ++ b).extract p (A ++ b).size).extract 1 ((A ++ b).extract p (A ++ b).size).size) n = prefP ((A.extract p A.size).extract 1 (A.extract p A.size).size) n) ∧
  (prefP ((A.extract p A.size).extract 1 (A.extract p A.size).size) n = true → p + 1 + n.size ≤ na) := by
 have hs : (A ++ b).size = A.size + b.size := ByteArray.size_append
 have hno := names_125 n hn
 rw [pref_at (A ++ b) n p (by omega), pref_at A n p (by omega)]
 have key : ∀ (s : ByteArray), p + 1 + n.size ≤ s.size → na < p + 1 + n.size → bt s (na : Int) = 125 → ((s.extract (p + 1) (p + 1 + n.size)).toList == n.toList) = false := fun s h1 h2 h3 => by
  rw [beq_eq_false_iff_ne]
  intro e
  have e2 := toList_inj e
  have h4 := hno (na - (p + 1)) (by omega)
  rw [← e2] at h4
  have h5 := bt_extract s (p + 1) (p + 1 + n.size) h1 (na - (p + 1)) (by omega)
  rw [h5, show p + 1 + (na - (p + 1)) = na by omega] at h4
  exact h4 h3
 by_cases h : p + 1 + n.size ≤ A.size
 ·rw [if_pos (show p + 1 + n.size ≤ (A ++ b).size by omega), if_pos h, ext_app_left A b _ _ h]
  refine ⟨rfl, fun e => ?_⟩
  rcases Nat.lt_or_ge na (p + 1 + n.size) with h1 | h1
  ·rw [key A h h1 h125] at e; cases e
  ·exact h1
 ·rw [if_neg h]
  refine ⟨?_, fun e => by cases e⟩
  by_cases h2 : p + 1 + n.size ≤ (A ++ b).size
  ·rw [if_pos h2]
   exact key (A ++ b) h2 (by omega) (by rw [bt_app_left A b na (by omega)]; exact h125)
  ·rw [if_neg h2]
theorem next_app_left (p : Nat) (hp : p < A.size) : nextP ((A ++ b).extract p (A ++ b).size) p = nextP (A.extract p A.size) p := by
 have hs : (A ++ b).size = A.size + b.size := ByteArray.size_append
 have hb : bt (A ++ b) (p : Int) = bt A (p : Int) := bt_app_left A b p hp
 by_cases h1 : bt A (p : Int) = 123
 ·have hpn : p < na := by
   rcases Nat.lt_or_ge p na with h | h
   ·exact h
   ·obtain rfl : p = na := by omega
    rw [h1] at h125
    exact absurd h125 (by decide)
  have hop : openN ((A ++ b).extract p (A ++ b).size) = openN (A.extract p A.size) := find_congr namesL fun n hn => (pref_app A b na hA h125 p hpn n hn).1
  rw [next_open (A ++ b) p (by omega) (by rw [hb]; exact h1), next_open A p hp h1]
  cases hn : openN (A.extract p A.size) with
  | none => rw [openP_none A p hn, openP_none (A ++ b) p (by rw [hop]; exact hn)]
  | some x =>
   obtain ⟨g1, g2, g3⟩ := openP_some A p hp x hn
   obtain ⟨g4, _, _⟩ := openP_some (A ++ b) p (by omega) x (by rw [hop]; exact hn)
   have g5 := (pref_app A b na hA h125 p hpn x g2).2 (openN_pref (A.extract p A.size) x hn).1
   rw [g1, g4]
   have hz : openZ (A ++ b) p x = openZ A p x := by
    unfold openZ
    rw [bt_app_left A b (p + x.size + 1) (by omega)]
    by_cases hw : whiteP (bt A ((p + x.size + 1 : Nat) : Int)) = true
    ·rw [if_pos ⟨by omega, hw⟩, if_pos ⟨by omega, hw⟩]
    ·rw [if_neg (fun h => hw h.2), if_neg (fun h => hw h.2)]
   rw [hz]
 ·by_cases h2 : bt A (p : Int) = 125
  ·rw [next_close (A ++ b) p (by omega) (by rw [hb]; exact h2), next_close A p hp h2]
  ·by_cases h3 : plainP (bt A (p : Int)) = true
   ·obtain ⟨e1, e2⟩ := tEnd_app A b na hA h125 (na - p) p (Nat.le_refl _) (by omega)
    rw [(next_text (A ++ b) p (by omega) (by rw [hb]; exact h1) (by rw [hb]; exact h2) (by rw [hb]; exact h3)).2, (next_text A p hp h1 h2 h3).2, e1, ext_app_left A b _ _ (by omega)]
   ·rw [next_bad (A ++ b) p (by omega) (by rw [hb]; exact h1) (by rw [hb]; exact h2) (by rw [hb]; exact h3), next_bad A p hp h1 h2 h3]
end
end Go.Proofs.Ythcmfjpheanphaa.Pure
namespace Go.Proofs.Ythcmfjpheanphaa.Pr
open Go.RowKit Go.Proofs.YthcmfjpheanphaaW.PrintWords
def parseP (s : ByteArray) : List S56 × Int × Int :=
 if (lexP s).2.2 ≠ 0 then ([], (lexP s).2.1, (lexP s).2.2)
 else if (runP bld0 (lexP s).1).2.2 ≠ 0 then ([], (runP bld0 (lexP s).1).2.1, (runP bld0 (lexP s).1).2.2)
 else if (runP bld0 (lexP s).1).1.row ≠ [] then ([], s.size, 2)
 else ((runP bld0 (lexP s).1).1.t, 0, 0)
end Go.Proofs.Ythcmfjpheanphaa.Pr
namespace Go.Proofs.Ythcmfjpheanphaa.Pr
open Go.RowKit Go.Proofs.Ythcmfjpheanphaa.Pure Go.Proofs.YthcmfjpheanphaaW.PrintWords
inductive Lx (s : ByteArray) : Nat → List S47 → Prop
 | done : Lx s s.size []
 | more (p : Nat) (x : Spot) (z : Nat) (l : List S47) (hp : p < s.size) (hx : nextP (s.extract p s.size) p = x) (h0 : x.e = 0) (hz : x.size = (z : Int)) (hl : Lx s (p + z) l) : Lx s p (x.l :: l)
theorem Lx_inv {s : ByteArray} {p : Nat} {l : List S47} (h : Lx s p l) : (p = s.size ∧ l = []) ∨ ∃ (x : Spot) (z : Nat) (l' : List S47), p < s.size ∧ nextP (s.extract p s.size) p = x ∧ x.e = 0 ∧ x.size = (z : Int) ∧ Lx s (p + z) l' ∧ l = x.l :: l' := by
 cases h with
 | done => exact .inl ⟨rfl, rfl⟩
 | more _ x z l h1 h2 h3 h4 h5 => exact .inr ⟨x, z, l, h1, h2, h3, h4, h5, rfl⟩
theorem Lx_end {s : ByteArray} {p : Nat} {l : List S47} (h : Lx s p l) (hp : p = s.size) : l = [] := by
 cases h with
 | done => rfl
 | more _ _ _ _ h => omega
theorem Lx_spot {s : ByteArray} {p : Nat} (hp : p < s.size) (h0 : (nextP (s.extract p s.size) p).e = 0) : ∃ z : Nat, (nextP (s.extract p s.size) p).size = z ∧ 1 ≤ z ∧ p + z ≤ s.size := by
 have hok := nextP_ok (s.extract p s.size) p (by rw [ByteArray.size_extract]; omega) h0
 rw [ByteArray.size_extract] at hok
 exact ⟨(nextP (s.extract p s.size) p).size.toNat, by omega, by omega, by omega⟩
theorem Lx_go (s : ByteArray) : ∀ (d p : Nat) (acc : List S47), s.size ≤ d + p → p ≤ s.size → (lexGo s d p acc).2.2 = 0 → ∃ l, (lexGo s d p acc).1 = acc ++ l ∧ Lx s p l
 | 0, p, acc, hd, hp, _ => by
  obtain rfl : p = s.size := by omega
  exact ⟨[], by simp [lexGo], .done⟩
 | d + 1, p, acc, hd, hp, h => by
  by_cases hlt : p < s.size
  ·by_cases h0 : (nextP (s.extract p s.size) p).e = 0
   ·obtain ⟨z, hz, h1, h2⟩ := Lx_spot hlt h0
    rw [lexGo_step s d p acc _ hlt rfl z h0 hz] at h ⊢
    obtain ⟨l, hl, hx⟩ := Lx_go s d (p + z) _ (by omega) h2 h
    exact ⟨_, by rw [hl, List.append_assoc]; rfl, .more p _ z l hlt rfl h0 hz hx⟩
   ·rw [lexGo_bad s d p acc _ hlt rfl h0] at h
    exact absurd h h0
  ·obtain rfl : p = s.size := by omega
   simp only [lexGo]
   rw [if_neg hlt]
   exact ⟨[], by simp, .done⟩
theorem go_Lx {s : ByteArray} {p : Nat} {l : List S47} (h : Lx s p l) : ∀ (d : Nat) (acc : List S47), s.size ≤ d + p → lexGo s d p acc = (acc ++ l, 0, 0) := by
 induction h with
 | done =>
  intro d acc hd
  cases d with
  | zero => simp [lexGo]
  | succ d => simp [lexGo]
 | more p x z l hp hx h0 hz hl ih =>
  intro d acc hd
  have hok := nextP_ok (s.extract p s.size) p (by rw [ByteArray.size_extract]; omega) (by rw [hx]; exact h0)
  rw [hx, hz] at hok
  obtain ⟨d, rfl⟩ : ∃ x, d = x + 1 := ⟨d - 1, by omega⟩
  rw [lexGo_step s d p acc x hp hx z h0 hz, ih d _ (by omega), List.append_assoc]
  rfl
theorem lexP_Lx {s : ByteArray} (h : (lexP s).2.2 = 0) : Lx s 0 (lexP s).1 ∧ s.size ≤ 8192 := by
 by_cases hs : s.size ≤ 8192
 ·rw [lexP_go s hs] at h ⊢
  obtain ⟨l, hl, hx⟩ := Lx_go s s.size 0 [] (by omega) (by omega) h
  rw [hl]
  exact ⟨hx, hs⟩
 ·unfold lexP at h
  rw [if_pos (by omega)] at h
  cases h
theorem Lx_lexP {s : ByteArray} {l : List S47} (h : Lx s 0 l) (hs : s.size ≤ 8192) : lexP s = (l, 0, 0) := by
 rw [lexP_go s hs, go_Lx h s.size [] (by omega)]
 rfl
theorem shiftS_ok {N : Int} {x : Spot} (h : (shiftS N x).e = 0) : x.e = 0 := by
 unfold shiftS at h
 split at h
 ·assumption
 ·exact h
theorem shiftS_eq {N : Int} {x : Spot} (h : x.e = 0) : (shiftS N x).l = shX N x.l ∧ (shiftS N x).size = x.size ∧ (shiftS N x).e = 0 := by
 unfold shiftS
 rw [if_pos h]
 exact ⟨rfl, rfl, h⟩
theorem Lx_right {A b : ByteArray} {p : Nat} {l : List S47} (h : Lx b p l) : Lx (A ++ b) (A.size + p) (l.map (shX A.size)) := by
 induction h with
 | done =>
  rw [← ByteArray.size_append]
  exact .done
 | more p x z l hp hx h0 hz hl ih =>
  have hn := next_app_right A b p (by omega)
  rw [hx] at hn
  obtain ⟨g1, g2, g3⟩ := shiftS_eq (N := (A.size : Int)) h0
  rw [List.map_cons, ← g1]
  exact .more _ _ z _ (by rw [ByteArray.size_append]; omega) hn g3 (g2.trans hz) (by rw [Nat.add_assoc]; exact ih)
theorem Lx_back {A b : ByteArray} : ∀ (m p : Nat) {l : List S47}, b.size - p ≤ m → p ≤ b.size → Lx (A ++ b) (A.size + p) l → ∃ l', Lx b p l' ∧ l = l'.map (shX A.size) := by
 intro m
 have hs : (A ++ b).size = A.size + b.size := ByteArray.size_append
 induction m with
 | zero =>
  intro p l hm hp h
  obtain rfl : p = b.size := by omega
  exact ⟨[], .done, Lx_end h (by omega)⟩
 | succ m ih =>
  intro p l hm hp h
  rcases Lx_inv h with ⟨he, rfl⟩ | ⟨x, z, l, hlt, hx, h0, hz, hl, rfl⟩
  ·obtain rfl : p = b.size := by omega
   exact ⟨[], .done, rfl⟩
  ·
   have hn := next_app_right A b p hp
   rw [hn] at hx
   subst hx
   have he := shiftS_ok h0
   obtain ⟨g1, g2, g3⟩ := shiftS_eq (N := (A.size : Int)) he
   obtain ⟨z', hz', k1, k2⟩ := Lx_spot (s := b) (p := p) (by omega) he
   obtain rfl : z = z' := by rw [g2, hz'] at hz; omega
   rw [Nat.add_assoc] at hl
   obtain ⟨l', h1, rfl⟩ := ih (p + z) (by omega) k2 hl
   exact ⟨_ :: l', .more p _ z l' (by omega) rfl he hz' h1, by rw [List.map_cons, g1]⟩
theorem Lx_left {A b : ByteArray} {na : Nat} (hA : A.size = na + 1) (h125 : bt A (na : Int) = 125) : ∀ (m p : Nat) {l : List S47}, A.size - p ≤ m → p ≤ A.size → Lx (A ++ b) p l → ∃ l1 l2, l = l1 ++ l2 ∧ Lx A p l1 ∧ Lx (A ++ b) A.size l2 := by
 intro m
 have hs : (A ++ b).size = A.size + b.size := ByteArray.size_append
 induction m with
 | zero =>
  intro p l hm hp h
  obtain rfl : p = A.size := by omega
  exact ⟨[], l, rfl, .done, h⟩
 | succ m ih =>
  intro p l hm hp h
  by_cases hlt : p < A.size
  ·rcases Lx_inv h with ⟨he, rfl⟩ | ⟨x, z, l, hlt', hx, h0, hz, hl, rfl⟩
   ·omega
   ·
    have hn := next_app_left A b na hA h125 p hlt
    rw [hn] at hx
    subst hx
    obtain ⟨z', hz', k1, k2⟩ := Lx_spot hlt h0
    obtain rfl : z = z' := by omega
    obtain ⟨l1, l2, rfl, q1, q2⟩ := ih (p + z) (by omega) k2 hl
    exact ⟨_ :: l1, l2, rfl, .more p _ z l1 hlt rfl h0 hz q1, q2⟩
  ·obtain rfl : p = A.size := by omega
   exact ⟨[], l, rfl, .done, h⟩
theorem Lx_join {A b : ByteArray} {na : Nat} (hA : A.size = na + 1) (h125 : bt A (na : Int) = 125) {p : Nat} {l1 l2 : List S47} (h : Lx A p l1) (h2 : Lx (A ++ b) A.size l2) : Lx (A ++ b) p (l1 ++ l2) := by
 induction h with
 | done => exact h2
 | more p x z l hp hx h0 hz hl ih =>
  have hs : (A ++ b).size = A.size + b.size := ByteArray.size_append
  exact .more p x z _ (by omega) ((next_app_left A b na hA h125 p hp).trans hx) h0 hz ih
theorem last_close (s : ByteArray) : ∃ A w : ByteArray, s = A ++ w ∧ (A.size = 0 ∨ ∃ na, A.size = na + 1 ∧ bt A (na : Int) = 125) ∧ ∀ j, j < w.size → bt w (j : Int) ≠ 125 := by
 have cut : ∀ k, k ≤ s.size → s.extract 0 k ++ s.extract k s.size = s := fun k hk => by
  rw [← ByteArray.extract_eq_extract_append_extract k (by omega) hk, ByteArray.extract_zero_size]
 have at1 : ∀ k j, k ≤ s.size → j < s.size - k → bt (s.extract k s.size) (j : Int) = bt s ((k + j : Nat) : Int) := fun k j hk hj => by
  have := bt_app_right (s.extract 0 k) (s.extract k s.size) j (by rw [ByteArray.size_extract]; omega)
  rw [cut k hk, ByteArray.size_extract] at this
  rw [← this]
  congr 2
  omega
 have at0 : ∀ k j, k ≤ s.size → j < k → bt (s.extract 0 k) (j : Int) = bt s (j : Int) := fun k j hk hj => by
  have := bt_app_left (s.extract 0 k) (s.extract k s.size) j (by rw [ByteArray.size_extract]; omega)
  rw [cut k hk] at this
  exact this.symm
 have go : ∀ k, k ≤ s.size → (∀ j, k ≤ j → j < s.size → bt s (j : Int) ≠ 125) → ∃ A w : ByteArray, s = A ++ w ∧ (A.size = 0 ∨ ∃ na, A.size = na + 1 ∧ bt A (na : Int) = 125) ∧ ∀ j, j < w.size → bt w (j : Int) ≠ 125 := by
  intro k
  induction k with
  | zero =>
   intro hk h
   refine ⟨s.extract 0 0, s.extract 0 s.size, (cut 0 hk).symm, .inl (by rw [ByteArray.size_extract]; omega), fun j hj => ?_⟩
   rw [ByteArray.size_extract] at hj
   rw [at1 0 j hk (by omega)]
   exact h _ (by omega) (by omega)
  | succ k ih =>
   intro hk h
   by_cases hc : bt s (k : Int) = 125
   ·refine ⟨s.extract 0 (k + 1), s.extract (k + 1) s.size, (cut _ hk).symm, .inr ⟨k, by rw [ByteArray.size_extract]; omega, ?_⟩, fun j hj => ?_⟩
    ·rw [at0 _ _ hk (by omega)]; exact hc
    ·rw [ByteArray.size_extract] at hj
     rw [at1 _ j hk (by omega)]
     exact h _ (by omega) (by omega)
   ·refine ih (by omega) fun j h1 h2 => ?_
    by_cases e : j = k
    ·subst e; exact hc
    ·exact h j (by omega) h2
 exact go s.size (Nat.le_refl _) fun j h1 h2 => by omega
def LexOk (N : Nat) (x : S47) : Prop := (x.f0 = 1 ∨ x.f0 = 2 ∨ x.f0 = 3) ∧ 0 ≤ x.f1 ∧ x.f1 ≤ 255 ∧ x.f2.size ≤ N ∧ 0 ≤ x.f3 ∧ x.f3 ≤ N
theorem letP_range : ∀ n ∈ namesL, 0 ≤ letP n ∧ letP n ≤ 255 := by decide +kernel
theorem openN_mem {s n : ByteArray} (h : openN s = some n) : n ∈ namesL := by
 unfold openN at h
 exact List.mem_of_find?_eq_some h
theorem Lx_ok {s : ByteArray} {p : Nat} {l : List S47} (h : Lx s p l) : ∀ x ∈ l, LexOk s.size x := by
 induction h with
 | done => exact fun x hx => by cases hx
 | more p x z l hp hx h0 hz hl ih =>
  intro y hy
  rcases List.mem_cons.1 hy with rfl | hy
  ·by_cases hc : bt s (p : Int) = 125
   ·rw [next_close s p hp hc] at hx
    subst hx
    exact ⟨.inr (.inr rfl), by show (0 : Int) ≤ 0; omega, by show (0 : Int) ≤ 255; omega, Nat.zero_le _, by show (0 : Int) ≤ (p : Int); omega, by show (p : Int) ≤ _; omega⟩
   ·by_cases h1 : bt s (p : Int) = 123
    ·rw [next_open s p hp h1] at hx
     cases ho : openN (s.extract p s.size) with
     | none => rw [openP_none s p ho] at hx; subst hx; cases h0
     | some n =>
      unfold openP at hx
      rw [ho] at hx
      subst hx
      have := letP_range n (openN_mem ho)
      exact ⟨.inr (.inl rfl), this.1, this.2, Nat.zero_le _, by show (0 : Int) ≤ (p : Int); omega, by show (p : Int) ≤ _; omega⟩
    ·by_cases h3 : plainP (bt s (p : Int)) = true
     ·rw [(next_text s p hp h1 hc h3).2] at hx
      subst hx
      exact ⟨.inl rfl, by show (0 : Int) ≤ 0; omega, by show (0 : Int) ≤ 255; omega, by show (s.extract p (tEnd s p)).size ≤ _; rw [ByteArray.size_extract]; omega, by show (0 : Int) ≤ (p : Int); omega, by show (p : Int) ≤ _; omega⟩
     ·rw [next_bad s p hp h1 hc h3] at hx
      subst hx; cases h0
  ·exact ih y hy
theorem lexP_ok (s : ByteArray) (h : (lexP s).2.2 = 0) : (∀ x ∈ (lexP s).1, LexOk 8192 x) ∧ (lexP s).1.length ≤ 8192 := by
 obtain ⟨h1, h2⟩ := lexP_Lx h
 refine ⟨fun x hx => ?_, Nat.le_trans (lexP_length s) h2⟩
 obtain ⟨k1, k2, k3, k4, k5, k6⟩ := Lx_ok h1 x hx
 exact ⟨k1, k2, k3, by omega, k5, by omega⟩
end Go.Proofs.Ythcmfjpheanphaa.Pr
namespace Go.Proofs.Ythcmfjpheanphaa.Pr
open Go.RowKit Go.Maps Go.Proofs.YthcmfjpheanphaaW.PrintWords
attribute [local go_sem] Oper.semAt_some
theorem flat56_at (xs : List S56) : ∀ (j : Nat) (p : S56), xs[j]? = some p → ((flat56 xs).drop (j * 4)).take 4 = [.int .u8 p.f0, .string p.f1, .int .i64 p.f2, .int .i64 p.f3] := by
 induction xs with
 | nil => intro j p h; simp at h
 | cons x xs ih =>
  intro j p h
  cases j with
  | zero => simp at h; subst h; simp [flat56]
  | succ j =>
   have := ih j p (by simpa using h)
   rw [Nat.succ_mul]
   simp only [flat56, List.flatMap_cons] at this ⊢
   rw [show ∀ l : List Value, (([.int .u8 x.f0, .string x.f1, .int .i64 x.f2, .int .i64 x.f3] : List Value) ++ l).drop (j * 4 + 4) = l.drop (j * 4) from fun l => rfl]
   exact this
theorem own_R56 {w : World} {base : Nat} {v : Value} {xs : List S56} (h : w.ownsRow base 56 4 v xs.length (flat56 xs)) (b' : Nat) (hb : b' ≤ base) : Kd.R k56 56 w b' (fun _ => True) v xs := by
 refine Kd.R_lower (base := base) ⟨fun _ _ => trivial, flat56 xs, h, flat56_length xs, fun j p hp => ?_⟩ hb
 have := flat56_at xs j p hp
 show k56.M _ _ _ _ (((flat56 xs).drop (j * 4)).take 4)
 rw [this]
 exact k56_mkM _ _ _ _
theorem R47_keep {w w1 : World} {base : Nat} {v : Value} {xs : List S47} (h : Kd.R k47 47 w base (fun _ => True) v xs) (hk : KeepK w w1) : Kd.R k47 47 w1 base (fun _ => True) v xs := by
 refine Kd.R_mono (Kd.R_move (Kd.R_bound h) fun k hk' => ?_) fun _ _ => trivial
 obtain ⟨_, _, _, q, hq, cells, hc⟩ := hk'
 have hq' : q = 47 := by
  have e : (k47.E : List Nat) = [] := rfl
  rw [e] at hq
  simpa using hq
 subst hq'
 rw [hc]
 exact hk _ _ hc rfl
def stepF (k : Int) : Nat := if k = 1 then 92 else if k = 2 then 93 else 94
theorem step_calls (B0 g m : Nat) (vr vt : Value) (s : Bld) (x : S47) (w : World) (hx : LexOk 1000000 x) (hB0 : B0 ≤ w.heap.size) (hn : s.row.length ≤ 999999) (hnt : s.t.length ≤ 999999) (hkb : KindsB s.row) (hpos : PosIn s) (hch : RChain s.row) (hb : BAt w B0 g m vr vt s) :
  Calls Try.prog (stepF x.f0) #[.pointer (some ⟨g, 0, none⟩), .agg #[.int .i64 x.f0, .int .u8 x.f1, .string x.f2, .int .i64 x.f3]] w fun e w' =>
   e = .returned (.tuple #[.int .i64 (stepP s x).2.1, .int .i64 (stepP s x).2.2]) ∧ StepTo B0 g m (stepP s x).1 w w' := by
 obtain ⟨h0, h1, h2, h3, _⟩ := hx
 unfold stepP stepF
 by_cases e1 : x.f0 = 1
 ·simp only [if_pos e1]
  exact texts_calls B0 g m vr vt s x w hB0 h3 hn hnt hkb hb
 ·simp only [if_neg e1]
  by_cases e2 : x.f0 = 2
  ·simp only [if_pos e2]
   exact opens_calls B0 g m vr vt s x w hB0 h1 h2 hn hnt hkb hb
  ·simp only [if_neg e2]
   exact shuts_calls B0 g m vr vt s x w hB0 hn hnt hkb hpos hch hb
structure BOk (s : Bld) (n : Nat) : Prop where
 row : s.row.length ≤ n
 t : s.t.length ≤ n
 kinds : KindsB s.row
 pos : PosIn s
 chain : RChain s.row
theorem kinds_modB {r : List Opn} (h : KindsB r) (f : Opn → Opn) (hf : ∀ o, (f o).kind = o.kind) (j : Nat) : KindsB (r.modify j f) := by
 intro o ho
 obtain ⟨y, hy, rfl | rfl⟩ := mem_modify ho
 ·exact h _ hy
 ·rw [hf]; exact h y hy
theorem kindsB_mark {r : List Opn} (h : KindsB r) (k : Int) : KindsB (markP r k) := by
 unfold markP
 split
 ·split
  ·exact kinds_modB h noteF (fun _ => rfl) _
  ·exact h
 ·split
  ·exact kinds_modB h pastF (fun _ => rfl) _
  ·exact h
theorem stepP_ok {s : Bld} {n : Nat} (h : BOk s n) {x : S47} (hx : LexOk 1000000 x) : BOk (stepP s x).1 (n + 1) := by
 obtain ⟨h1, h2, h3, h4, h5⟩ := h
 have hl : (stepP s x).1.row.length ≤ n + 1 ∧ (stepP s x).1.t.length ≤ n + 1 ∧ KindsB (stepP s x).1.row := by
  unfold stepP
  split
  ·unfold textsP
   split
   ·split
    ·exact ⟨by simp [kidP_length]; omega, by simp; omega, kinds_modB (kindsB_kid h3) (textF x.f2.size) (fun _ => rfl) _⟩
    ·exact ⟨by simp [kidP_length]; omega, by simp; omega, kindsB_kid h3⟩
   ·split <;> exact ⟨by show s.row.length ≤ _; omega, by show s.t.length ≤ _; omega, h3⟩
  ·split
   ·unfold opensP
    split
    ·refine ⟨by simp [kidP_length, markP_length]; omega, by simp; omega, fun o ho => ?_⟩
     simp only [List.mem_append, List.mem_singleton] at ho
     rcases ho with ho | rfl
     ·exact kindsB_kid (kindsB_mark h3 _) o ho
     ·exact ⟨hx.2.1, hx.2.2.1⟩
    ·exact ⟨by show s.row.length ≤ _; omega, by show s.t.length ≤ _; omega, h3⟩
   ·unfold shutsP
    split
    ·exact ⟨by show s.row.length ≤ _; omega, by show s.t.length ≤ _; omega, h3⟩
    ·have hd : KindsB s.row.dropLast := fun o ho => h3 o (List.dropLast_subset _ ho)
     have hwl : ∀ o, ((wholeP s.row.dropLast o).1).length = s.row.dropLast.length := fun o => by
      unfold wholeP
      split
      ·rfl
      ·split
       ·split
        ·split
         ·exact List.length_modify ..
         ·rfl
        ·rfl
       ·rfl
     refine ⟨by show ((wholeP s.row.dropLast _).1).length ≤ _; rw [hwl, List.length_dropLast]; omega, by simp; omega, ?_⟩
     show KindsB (wholeP s.row.dropLast (topP s.row)).1
     unfold wholeP
     split
     ·exact hd
     ·split
      ·split
       ·split
        ·exact kinds_modB hd (colsF (topP s.row).kids) (fun _ => rfl) _
        ·exact hd
       ·exact hd
      ·exact hd
 exact ⟨hl.1, hl.2.1, hl.2.2, stepP_pos s x h4, stepP_chain s x h5⟩
theorem bld0_ok : BOk bld0 0 := ⟨Nat.le_refl _, Nat.le_refl _, (by intro o ho; cases ho), (by intro o ho; cases ho), (by intro i hi; simp [bld0] at hi)⟩
theorem step_keep {B0 g m : Nat} {s : Bld} {W4 W : World} {b : Bool} (h : cond b (StepTo B0 g m s W4 W) (W = W4)) {i : Nat} {o : Obj} (ho : W4.heap[i]? = some o) (hn : isBT o = false) : W.heap[i]? = some o := by
 cases b
 ·obtain rfl : W = W4 := h
  exact ho
 ·obtain ⟨_, _, _, _, hk⟩ := (show StepTo B0 g m s W4 W from h)
  exact hk _ _ ho hn
def ParseTo (a0 : ByteArray) (w : World) (e : Ending) (w' : World) : Prop := ∃ v0_ : Value, e = .returned (.tuple #[v0_, .int .i64 (parseP a0).2.1, .int .i64 (parseP a0).2.2]) ∧ Kd.R k56 56 w' w.heap.size (fun _ => True) v0_ (parseP a0).1 ∧ Below w.heap.size w w'
theorem parse_bad {a0 : ByteArray} {l : List S47} {a e : Int} (h : lexP a0 = (l, a, e)) (he : e ≠ 0) : parseP a0 = ([], a, e) := by
 unfold parseP
 rw [h]
 simp only
 rw [if_pos he]
theorem parse_run {a0 : ByteArray} {l : List S47} {a : Int} (h : lexP a0 = (l, a, 0)) : parseP a0 = if (runP bld0 l).2.2 ≠ 0 then ([], (runP bld0 l).2.1, (runP bld0 l).2.2) else if (runP bld0 l).1.row ≠ [] then ([], a0.size, 2) else ((runP bld0 l).1.t, 0, 0) := by
 unfold parseP
 rw [h]
 simp only
 rw [if_neg (by decide)]
set_option pp.maxSteps 3000 in
set_option maxRecDepth 100000 in
set_option maxHeartbeats 8000000 in
theorem parse_calls (a0 : ByteArray) (w : World) (hs : a0.size ≤ 140737488351232) : Calls Try.prog 53 #[.string a0] w (ParseTo a0 w) := by
 obtain ⟨⟨l, a, e⟩, hl⟩ : ∃ r, lexP a0 = r := ⟨_, rfl⟩
 have hlex := fun W => lex_Of.calls a0 l a e W (by unfold lex_Of.f; rw [hl])
 have HL := Lib.hid hlex
 have HLP := Lib.hid hl
 clear hlex hl
 by_cases he : e = 0
 ·subst he
  have hP := parse_run HLP.out
  have HP := Lib.hid hP
  obtain ⟨hok, hlen⟩ := lexP_ok a0 (by rw [HLP.out])
  rw [HLP.out] at hok hlen
  simp only at hok hlen
  have HOK := Lib.hid (fun x hx => show LexOk 1000000 x from by
   obtain ⟨k1, k2, k3, k4, k5, k6⟩ := hok x hx
   exact ⟨k1, k2, k3, by omega, k5, by omega⟩)
  clear hP hok
  go_enter Try.func53, Try.ntmps53
  go_wp2_with fail
  refine (HL.out _).mono ?_
  rintro e w1 ⟨v, rfl, hR, hb1⟩
  obtain ⟨A, c, rfl, hc, hC⟩ := Kd.R_reads hR
  have HR := Lib.hid hR
  have HB1 := Lib.hid hb1
  clear hR hb1 hC
  go_wp2_with fail
  refine (begin_calls w1).mono ?_
  rintro e w2 ⟨g, m, rfl, hb, hb2⟩
  have HB := Lib.hid hb
  have HB2 := Lib.hid hb2
  clear hb hb2
  go_wp2_with fail
  have hW3 : Below w2.heap.size w2 (w2.alloc (.cells #[.nilFunc, .func (.func 92) #[.pointer (some ⟨g, 0, none⟩)] #[], .func (.func 93) #[.pointer (some ⟨g, 0, none⟩)] #[], .func (.func 94) #[.pointer (some ⟨g, 0, none⟩)] #[]] 98)) := (Below.refl _ _).alloc (Nat.le_refl _) _
  have hS3 := blk_new w2 (.cells #[.nilFunc, .func (.func 92) #[.pointer (some ⟨g, 0, none⟩)] #[], .func (.func 93) #[.pointer (some ⟨g, 0, none⟩)] #[], .func (.func 94) #[.pointer (some ⟨g, 0, none⟩)] #[]] 98)
  obtain ⟨W3, hW3'⟩ : ∃ W3, w2.alloc (.cells #[.nilFunc, .func (.func 92) #[.pointer (some ⟨g, 0, none⟩)] #[], .func (.func 93) #[.pointer (some ⟨g, 0, none⟩)] #[], .func (.func 94) #[.pointer (some ⟨g, 0, none⟩)] #[]] 98) = W3 := ⟨_, rfl⟩
  rw [hW3'] at hW3 hS3 ⊢
  clear hW3'
  have HB3 := Lib.hid (HB.out.below hW3)
  have HS3 := Lib.hid hS3
  have HR3 := Lib.hid (R47_keep HR.out (KeepK.below (HB2.out.trans (hW3.mono HB2.out.size))))
  have HL3 := Lib.hid (HB1.out.trans ((HB2.out.trans (hW3.mono HB2.out.size)).mono HB1.out.size))
  have hz3 : w1.heap.size ≤ W3.heap.size := Nat.le_trans HB2.out.size hW3.size
  have HZ3 := Lib.hid hz3
  have HZ1 := Lib.hid HB1.out.size
  clear hW3 hS3 HR HB1 HB2 HB
  go_loopw [32] (fun v wr => ∃ (k : Nat) (s : Bld) (vr vt : Value), k ≤ l.length ∧ v = .int .i64 k ∧ BAt wr w1.heap.size g m vr vt s ∧ BOk s k ∧ Below w1.heap.size W3 wr ∧ KeepK W3 wr ∧ runP bld0 l = runP s (l.drop k)) (fun v _ => l.length - (intOf v).toNat)
  case atStart => exact ⟨0, bld0, _, _, Nat.zero_le _, rfl, HB3.out, bld0_ok, Below.refl _ _, KeepK.refl _, rfl⟩
  case round =>
   obtain ⟨k, s, vr, vt, hk, rfl, hb, hbk, hlow, hkeep, hrun⟩ := hrel
   have HBA := Lib.hid hb
   have HBK := Lib.hid hbk
   have HLO := Lib.hid hlow
   have HKE := Lib.hid hkeep
   have HRU := Lib.hid hrun
   clear hb hbk hlow hkeep hrun
   by_cases hlt : k < l.length
   ·have hlt1 : (k : Int) < (l.length : Int) := by omega
    have hRw := R47_keep HR3.out HKE.out
    obtain ⟨A', c', he', _, hC⟩ := Kd.R_reads hRw
    simp only [Value.slice.injEq] at he'
    obtain ⟨rfl, -, rfl⟩ := he'
    obtain ⟨ad, e1, q0, q1, q2, q3⟩ := at_T47 hC k (by omega) (by omega)
    subst e1
    simp only [Int.toNat_natCast] at q0 q1 q2 q3
    have hxl : l[k]? = some (rd_T47 l k) := by
     unfold rd_T47
     rw [Int.toNat_natCast, List.getD_eq_getElem?_getD, List.getElem?_eq_getElem hlt]
     rfl
    have hxok := HOK.out _ (List.mem_of_getElem? hxl)
    have hdrop : l.drop k = rd_T47 l k :: l.drop (k + 1) := by
     rw [List.drop_eq_getElem_cons hlt]
     rw [List.getElem?_eq_getElem hlt] at hxl
     rw [Option.some.inj hxl]
    have hst := HRU.out
    rw [hdrop] at hst
    have hst2 : runP bld0 l = if (stepP s (rd_T47 l k)).2.2 = 0 then runP (stepP s (rd_T47 l k)).1 (l.drop (k + 1)) else stepP s (rd_T47 l k) := hst
    clear hst hdrop hxl hRw hC
    generalize rd_T47 l k = x at *
    have hstep := fun W (hW : BAt W w1.heap.size g m vr vt s) (hz : w1.heap.size ≤ W.heap.size) => step_calls w1.heap.size g m vr vt s x W hxok hz (by have := HBK.out.row; omega) (by have := HBK.out.t; omega) HBK.out.kinds HBK.out.pos HBK.out.chain hW
    have hok2 := stepP_ok HBK.out hxok
    have hf := hxok.1
    obtain ⟨f0, f1, f2, f3⟩ := x
    simp only at hstep q0 q1 q2 q3 hf
    obtain ⟨⟨s', ra, re⟩, hR⟩ : ∃ r, stepP s ⟨f0, f1, f2, f3⟩ = r := ⟨_, rfl⟩
    simp only [hR] at hstep hst2 hok2
    have HST := Lib.hid hstep
    have HS2 := Lib.hid hst2
    have HOK2 := Lib.hid hok2
    clear hstep hst2 hR hok2 hxok
    obtain ⟨W4, hW4⟩ : ∃ W4, (wr.alloc (.cells #[.int .i64 f0, .int .u8 f1, .string f2, .int .i64 f3] 47)).drew = W4 := ⟨_, rfl⟩
    have hb4 : Below wr.heap.size wr W4 := by rw [← hW4]; exact below_drew1 ((Below.refl _ _).alloc (Nat.le_refl _) _)
    have hX4 : W4.heap[wr.heap.size]? = some (.cells #[.int .i64 f0, .int .u8 f1, .string f2, .int .i64 f3] 47 (0, 0)) := by rw [← hW4]; exact blk_new wr _
    have hS4 : W4.heap[w2.heap.size]? = _ := blk_below (HKE.out _ _ HS3.out rfl) hb4
    have HX4 := Lib.hid hX4
    have HS4 := Lib.hid hS4
    have HB4 := Lib.hid hb4
    clear hX4 hS4 hb4
    rcases hf with rfl | rfl | rfl
    all_goals
     go_wp2
     refine Go.Mix.region_mix' (fun b W => cond b (StepTo w1.heap.size g m s' W4 W) (W = W4)) 5 11 [] (by kernel_rfl) (by kernel_rfl) (fun _ _ _ _ _ h => h) hW4 ?_
     clear hW4 q0 q1 q2 q3
     refine Go.Mix.seqE_nil ?_
     repeat
      apply Go.Mix.seqM_cons (by rfl) (by rfl)
      focus
       intro b W hS
       have hX : W.heap[wr.heap.size]? = _ := step_keep hS HX4.out rfl
       have hZ : W.heap[w2.heap.size]? = _ := step_keep hS HS4.out rfl
       have x0 := blk_cell hX 0
       have x1 := blk_cell hX 1
       have x2 := blk_cell hX 2
       have x3 := blk_cell hX 3
       have s1 := blk_cell hZ 1
       have s2 := blk_cell hZ 2
       have s3 := blk_cell hZ 3
       simp only [List.getElem?_toArray, List.getElem?_cons_succ, List.getElem?_cons_zero] at x0 x1 x2 x3 s1 s2 s3
       have HS := Lib.hid hS
       clear hS hX hZ
       go_wp2
       exact Go.Det.AtEnd.mk HS.out
     apply Go.Mix.seqM_main (by rfl)
     focus
      intro W hS
      obtain rfl : W = W4 := hS
      go_wp2_with fail
      refine (HST.out W (HBA.out.below HB4.out) (Nat.le_trans (Nat.le_trans HZ3.out HLO.out.size) HB4.out.size)).mono ?_
      rintro e W5 ⟨rfl, hst⟩
      have HSTT := Lib.hid hst
      clear hst
      go_wp2
      exact Go.Det.AtEnd.mk HSTT.out
     repeat
      apply Go.Mix.seqM_cons (by rfl) (by rfl)
      focus
       intro b W hS
       have HS := Lib.hid hS
       clear hS
       go_wp2
       exact Go.Det.AtEnd.mk HS.out
     refine Go.Mix.seqM_nil ?_
     intro W5 hW5
     obtain ⟨vr5, vt5, hb5, hl5, hk5⟩ := (show StepTo w1.heap.size g m s' W4 W5 from hW5)
     clear hW5
     simp only [List.drop_succ_cons, List.drop_zero, Exit.then]
     have HB5 := Lib.hid hb5
     have HL5 := Lib.hid ((HLO.out.trans (below_low HB4.out (Nat.le_trans HZ3.out HLO.out.size))).trans hl5)
     have HK5 := Lib.hid ((HKE.out.trans (KeepK.below HB4.out)).trans hk5)
     clear hb5 hl5 hk5
     by_cases hre : re = 0
     ·have hreb : (re != 0) = false := by rw [hre]; rfl
      have HRE := Lib.hid hre
      clear hre
      go_wp2
      go_roundw
      case rel => exact ⟨k + 1, s', vr5, vt5, by omega, by go_num, HB5.out, HOK2.out, HL5.out, HK5.out, by rw [HS2.out, if_pos HRE.out]⟩
      case measure => simp [intOf]; omega
     ·have hreb : (re != 0) = true := bne_iff_ne.2 hre
      have hPP : parseP a0 = ([], ra, re) := by
       rw [HP.out, HS2.out, if_neg hre]
       simp only
       rw [if_pos hre]
      have HPP := Lib.hid hPP
      have HRE := Lib.hid hre
      clear hre hPP
      go_wp2
      go_ret3
      refine ⟨_, by rw [HPP.out]; rfl, by rw [HPP.out]; exact Kd.R_nil _ _ _ _ _, ?_⟩
      exact HL3.out.trans (HL5.out.mono HZ1.out)
   ·obtain rfl : k = l.length := by omega
    have hlt1 : ¬ (l.length : Int) < (l.length : Int) := by omega
    have hend : runP bld0 l = (s, 0, 0) := by rw [HRU.out, List.drop_length]; rfl
    have hPP : parseP a0 = if s.row ≠ [] then ([], (a0.size : Int), 2) else (s.t, 0, 0) := by rw [HP.out, hend]; rfl
    obtain ⟨Ar, cr, rfl⟩ := own_slice HBA.out.row
    obtain ⟨At, ct, rfl⟩ := own_slice HBA.out.t
    have d0 := blk_cell HBA.out.blk 0
    have d1 := blk_cell HBA.out.blk 1
    simp only [List.getElem?_toArray, List.getElem?_cons_succ, List.getElem?_cons_zero] at d0 d1
    by_cases h0 : s.row = []
    ·have h00 : s.row.length = 0 := by rw [h0]; rfl
     have hPP2 : parseP a0 = (s.t, 0, 0) := by rw [hPP, if_neg (by simpa using h0)]
     have HPP := Lib.hid hPP2
     rw [h00] at d0
     clear hPP hPP2 h0 h00 hend
     go_wp2
     go_ret3
     refine ⟨_, by rw [HPP.out]; rfl, ?_, HL3.out.trans (HLO.out.mono HZ1.out)⟩
     rw [HPP.out]
     exact own_R56 HBA.out.t _ HZ1.out
    ·have hp : (0 : Int) < (s.row.length : Int) := by have := List.length_pos_iff.2 h0; omega
     have hPP2 : parseP a0 = ([], (a0.size : Int), 2) := by rw [hPP, if_pos h0]
     have HPP := Lib.hid hPP2
     clear hPP hPP2 h0 hend
     go_wp2
     go_ret3
     refine ⟨_, by rw [HPP.out]; rfl, by rw [HPP.out]; exact Kd.R_nil _ _ _ _ _, HL3.out.trans (HLO.out.mono HZ1.out)⟩
 ·have heb : (e != 0) = true := bne_iff_ne.2 he
  have HPP := Lib.hid (parse_bad HLP.out he)
  clear he
  go_enter Try.func53, Try.ntmps53
  go_wp2_with fail
  refine (HL.out _).mono ?_
  rintro e' w1 ⟨v, rfl, hR, hb1⟩
  have HB1 := Lib.hid hb1
  clear hR hb1
  go_wp2
  go_ret3
  exact ⟨_, by rw [HPP.out]; rfl, by rw [HPP.out]; exact Kd.R_nil _ _ _ _ _, HB1.out⟩
def tree_Parse.f (a0 : ByteArray) : Option (List S56 × Int × Int) := if a0.size ≤ 140737488351232 then some (parseP a0) else none
theorem tree_Parse.calls (a0 : ByteArray) (r1 : List S56) (r2 r3 : Int) (w : World) (h : tree_Parse.f a0 = some (r1, r2, r3)) :
  Calls Try.prog 53 #[.string a0] w fun e w' => ∃ v0_ : Value, e = .returned (.tuple #[v0_, .int .i64 r2, .int .i64 r3]) ∧ Kd.R k56 56 w' w.heap.size (fun _ => True) v0_ r1 ∧ Below w.heap.size w w' := by
 unfold tree_Parse.f at h
 by_cases hs : a0.size ≤ 140737488351232
 ·rw [if_pos hs] at h
  have h1 : parseP a0 = (r1, r2, r3) := Option.some.inj h
  refine (parse_calls a0 w hs).mono ?_
  rintro e w' ⟨v, he, hR, hb⟩
  rw [h1] at he hR
  exact ⟨v, he, hR, hb⟩
 ·rw [if_neg hs] at h
  cases h
end Go.Proofs.Ythcmfjpheanphaa.Pr
namespace Go.Proofs.Ythcmfjpheanphaa.Pr
open Go.RowKit Go.Proofs.YthcmfjpheanphaaW.PrintWords
attribute [local go_sem] Oper.semAt_some
def eqN (x y : S56) : Bool := x.f0 == y.f0 && (x.f1.toList == y.f1.toList && x.f3 == y.f3)
def sameL : List S56 → List S56 → Bool
 | [], [] => true
 | x :: xs, y :: ys => eqN x y && sameL xs ys
 | _, _ => false
set_option pp.maxSteps 3000 in
set_option maxRecDepth 100000 in
set_option maxHeartbeats 2000000 in
theorem same1_calls (x y : S56) (w : World) : Calls Try.prog 98 #[.agg #[.int .u8 x.f0, .string x.f1, .int .i64 x.f2, .int .i64 x.f3], .agg #[.int .u8 y.f0, .string y.f1, .int .i64 y.f2, .int .i64 y.f3]] w fun e w' =>
  e = .returned (.bool (eqN x y)) ∧ Below w.heap.size w w' := by
 obtain ⟨f0, f1, f2, f3⟩ := x
 obtain ⟨g0, g1, g2, g3⟩ := y
 unfold eqN
 simp only
 have hb : Below w.heap.size w ((w.alloc (.cells #[.int .u8 f0, .string f1, .int .i64 f2, .int .i64 f3] 56)).alloc (.cells #[.int .u8 g0, .string g1, .int .i64 g2, .int .i64 g3] 56)) := ((Below.refl _ _).alloc (Nat.le_refl _) _).alloc (by simp) _
 have HB := Lib.hid hb
 clear hb
 cases h1 : (f0 == g0)
 ·go_enter Try.func98, Try.ntmps98
  go_wp2
  go_ret
  exact ⟨rfl, HB.out⟩
 ·cases h2 : (f1.toList == g1.toList)
  ·go_enter Try.func98, Try.ntmps98
   go_wp2
   go_ret
   exact ⟨rfl, HB.out⟩
  ·go_enter Try.func98, Try.ntmps98
   go_wp2
   go_ret
   exact ⟨rfl, HB.out⟩
theorem sameL_len : ∀ xs ys : List S56, sameL xs ys = true → xs.length = ys.length
 | [], [], _ => rfl
 | [], _ :: _, h => by simp [sameL] at h
 | _ :: _, [], h => by simp [sameL] at h
 | x :: xs, y :: ys, h => by
  simp only [sameL, Bool.and_eq_true] at h
  simp [sameL_len xs ys h.2]
theorem rd56_drop (xs : List S56) (k : Nat) (h : k < xs.length) : xs.drop k = rd_T56 xs k :: xs.drop (k + 1) := by
 rw [List.drop_eq_getElem_cons h]
 congr 1
 unfold rd_T56
 rw [Int.toNat_natCast, List.getD_eq_getElem?_getD, List.getElem?_eq_getElem h]
 rfl
set_option pp.maxSteps 3000 in
set_option maxRecDepth 100000 in
set_option maxHeartbeats 4000000 in
theorem equal_calls (A B : Option Addr) (c d : Nat) (xs ys : List S56) (w : World) (hx : xs.length ≤ 140737488351232) (hy : ys.length ≤ 140737488351232) (hA : Kd.C k56 w A xs.length xs) (hB : Kd.C k56 w B ys.length ys) :
  Calls Try.prog 97 #[.slice A xs.length c, .slice B ys.length d, .func (.func 98) #[] #[]] w fun e w' => e = .returned (.bool (sameL xs ys)) ∧ Below w.heap.size w w' := by
 have HA := Lib.hid hA
 have HB := Lib.hid hB
 clear hA hB
 by_cases hl : xs.length = ys.length
 ·have HL := Lib.hid hl
  obtain ⟨n, hn⟩ : ∃ n, xs.length = n := ⟨_, rfl⟩
  rw [← hl] at hy ⊢
  rw [hn] at hx hy ⊢
  have HN := Lib.hid hn
  clear hl hn
  obtain ⟨R, hR⟩ : ∃ R, sameL xs ys = R := ⟨_, rfl⟩
  rw [hR]
  have HR := Lib.hid hR
  clear hR
  go_enter Try.func97, Try.ntmps97
  go_wp2
  go_loopw [17] (fun v wr => ∃ k : Nat, k ≤ n ∧ v = .int .i64 k ∧ Below w.heap.size w wr ∧ sameL (xs.drop k) (ys.drop k) = R) (fun v _ => n - (intOf v).toNat)
  case atStart => exact ⟨0, Nat.zero_le _, rfl, Below.refl _ _, HR.out⟩
  case round =>
   obtain ⟨k, hk, rfl, hW, hs⟩ := hrel
   by_cases hlt : k < n
   ·have hlt1 : (k : Int) < (n : Int) := by omega
    rw [rd56_drop xs k (by have := HN.out; omega), rd56_drop ys k (by have := HN.out; have := HL.out; omega)] at hs
    have hs' : (eqN (rd_T56 xs k) (rd_T56 ys k) && sameL (xs.drop (k + 1)) (ys.drop (k + 1))) = R := hs
    obtain ⟨ad, e1, q0, q1, q2, q3⟩ := at_T56 (Kd.C_below HA.out hW) k (by omega) (by have := HN.out; omega)
    obtain ⟨ad2, e2, p0, p1, p2, p3⟩ := at_T56 (Kd.C_below HB.out hW) k (by omega) (by have := HN.out; have := HL.out; omega)
    subst e1
    subst e2
    simp only [Int.toNat_natCast] at q0 q1 q2 q3 p0 p1 p2 p3
    generalize rd_T56 xs k = x at *
    generalize rd_T56 ys k = y at *
    obtain ⟨f0, f1, f2, f3⟩ := x
    obtain ⟨g0, g1, g2, g3⟩ := y
    simp only at q0 q1 q2 q3 p0 p1 p2 p3
    have p0' := (((Below.refl _ wr).alloc (Nat.le_refl _) (.cells #[.int .u8 f0, .string f1, .int .i64 f2, .int .i64 f3] 56)).cell (World.block_lt_of_cell? wr _ p0)).trans p0
    have p1' := (((Below.refl _ wr).alloc (Nat.le_refl _) (.cells #[.int .u8 f0, .string f1, .int .i64 f2, .int .i64 f3] 56)).cell (World.block_lt_of_cell? wr _ p1)).trans p1
    have p2' := (((Below.refl _ wr).alloc (Nat.le_refl _) (.cells #[.int .u8 f0, .string f1, .int .i64 f2, .int .i64 f3] 56)).cell (World.block_lt_of_cell? wr _ p2)).trans p2
    have p3' := (((Below.refl _ wr).alloc (Nat.le_refl _) (.cells #[.int .u8 f0, .string f1, .int .i64 f2, .int .i64 f3] 56)).cell (World.block_lt_of_cell? wr _ p3)).trans p3
    have hc := fun W => same1_calls ⟨f0, f1, f2, f3⟩ ⟨g0, g1, g2, g3⟩ W
    obtain ⟨b, hb⟩ : ∃ b, eqN ⟨f0, f1, f2, f3⟩ ⟨g0, g1, g2, g3⟩ = b := ⟨_, rfl⟩
    rw [hb] at hs'
    simp only [hb] at hc
    have HS := Lib.hid hs'
    have HC := Lib.hid hc
    have hW2 := (hW.alloc hW.size (.cells #[.int .u8 f0, .string f1, .int .i64 f2, .int .i64 f3] 56)).alloc (by have := hW.size; simp; omega) (.cells #[.int .u8 g0, .string g1, .int .i64 g2, .int .i64 g3] 56)
    have HW2 := Lib.hid hW2
    clear hs hs' hc hb hW2
    cases b
    ·go_wp2_with (go_at_call 98; refine (HC.out _).mono ?_; rintro e w2 ⟨rfl, hb2⟩)
     go_ret
     exact ⟨by rw [← HS.out]; rfl, HW2.out.trans (hb2.mono HW2.out.size)⟩
    ·go_wp2_with (go_at_call 98; refine (HC.out _).mono ?_; rintro e w2 ⟨rfl, hb2⟩)
     go_roundw
     case rel => exact ⟨k + 1, by omega, by go_num, HW2.out.trans (hb2.mono HW2.out.size), by rw [← HS.out]; rfl⟩
     case measure => simp [intOf]; omega
   ·obtain rfl : k = n := by omega
    have hlt1 : ¬ (k : Int) < (k : Int) := by omega
    have hR : R = true := by
     rw [← hs, List.drop_of_length_le (by have := HN.out; omega), List.drop_of_length_le (by have := HN.out; have := HL.out; omega)]
     rfl
    subst hR
    clear hs
    go_wp2
    go_ret
    exact ⟨rfl, hW⟩
 ·have hs : sameL xs ys = false := by
   cases h : sameL xs ys with
   | false => rfl
   | true => exact absurd (sameL_len _ _ h) hl
  rw [hs]
  have hne : ((xs.length : Int) != (ys.length : Int)) = true := bne_iff_ne.2 (fun h => hl (by omega))
  clear hs hl
  go_enter Try.func97, Try.ntmps97
  go_wp2
  go_ret
  exact ⟨rfl, Below.refl _ _⟩
theorem same_calls (A B : Option Addr) (c d : Nat) (xs ys : List S56) (w : World) (hx : xs.length ≤ 140737488351232) (hy : ys.length ≤ 140737488351232) (hA : Kd.C k56 w A xs.length xs) (hB : Kd.C k56 w B ys.length ys) :
  Calls Try.prog 56 #[.slice A xs.length c, .slice B ys.length d] w fun e w' => e = .returned (.bool (sameL xs ys)) ∧ Below w.heap.size w w' := by
 have HC := Lib.hid (equal_calls A B c d xs ys w hx hy hA hB)
 clear hA hB
 go_enter Try.func56, Try.ntmps56
 go_wp2_with (go_at_call 97; refine HC.out.mono ?_; rintro e w2 ⟨rfl, hb2⟩)
 go_ret
 exact ⟨rfl, hb2⟩
end Go.Proofs.Ythcmfjpheanphaa.Pr
namespace Go.Proofs.Ythcmfjpheanphaa.Pr
open Go.RowKit Go.Maps Go.Proofs.YthcmfjpheanphaaW.PrintWords
attribute [local go_sem] Oper.semAt_some
theorem parse_R (a0 : ByteArray) (w : World) (hs : a0.size ≤ 140737488351232) {t : List S56} {a e : Int} (h : parseP a0 = (t, a, e)) : Calls Try.prog 53 #[.string a0] w fun e' w' => ∃ v0_ : Value, e' = .returned (.tuple #[v0_, .int .i64 a, .int .i64 e]) ∧ Kd.R k56 56 w' w.heap.size (fun _ => True) v0_ t ∧ Below w.heap.size w w' :=
 tree_Parse.calls a0 t a e w (by unfold tree_Parse.f; rw [if_pos hs, h])
def kindsB (s want sizes : ByteArray) : Bool :=
 (parseP s).2.2 == 0 && (parseP s).2.1 == 0 && (parseP s).1.length == want.size && want.size == sizes.size &&
  (List.range want.size).all fun k => (rd_T56 (parseP s).1 k).f0 == bt want k && (rd_T56 (parseP s).1 k).f3 == bt sizes k - 48 && decide (48 ≤ bt sizes k) && decide (bt sizes k ≤ 57)
def wrongB (s : ByteArray) (a : Int) : Bool := (parseP s).1.length == 0 && (parseP s).2.1 == a && (parseP s).2.2 == 2
set_option pp.maxSteps 3000 in
set_option maxRecDepth 100000 in
set_option maxHeartbeats 4000000 in
theorem kinds_calls (s want sizes : ByteArray) (w : World) (hs : s.size ≤ 8192) (hw : want.size ≤ 8192) (h : kindsB s want sizes = true) :
  Calls Try.prog 89 #[.string s, .string want, .string sizes] w fun e w' => e = .returned (.bool true) ∧ Below w.heap.size w w' := by
 unfold kindsB at h
 obtain ⟨⟨t, a, e⟩, ht⟩ : ∃ r, parseP s = r := ⟨_, rfl⟩
 rw [ht] at h
 simp only [Bool.and_eq_true, beq_iff_eq, List.all_eq_true, List.mem_range, decide_eq_true_eq] at h
 obtain ⟨⟨⟨⟨rfl, rfl⟩, hl⟩, hz⟩, hall⟩ := h
 have HP := Lib.hid (fun W => parse_R s W (by omega) ht)
 have HALL := Lib.hid hall
 have HZ := Lib.hid hz
 obtain ⟨n, hn⟩ : ∃ n, t.length = n := ⟨_, rfl⟩
 have hnw : n = want.size := by omega
 have HN := Lib.hid hn
 have HNW := Lib.hid hnw
 have hn8 : n ≤ 8192 := by omega
 clear ht hall hl hz hn hnw
 go_enter Try.func89, Try.ntmps89
 go_wp2_with fail
 refine (HP.out _).mono ?_
 rintro e w1 ⟨v, rfl, hR, hb1⟩
 obtain ⟨A, c, rfl, hc, hC⟩ := Kd.R_reads hR
 rw [HN.out] at hC ⊢
 have HC := Lib.hid hC
 have HB1 := Lib.hid hb1
 have hne : ((n : Int) != (want.size : Int)) = false := by rw [← HNW.out]; simp
 clear hR hC hb1
 go_wp2
 go_loopw [10] (fun v wr => ∃ k : Nat, k ≤ n ∧ v = .int .i64 k ∧ Below w1.heap.size w1 wr) (fun v _ => n - (intOf v).toNat)
 case atStart => exact ⟨0, Nat.zero_le _, rfl, Below.refl _ _⟩
 case round =>
  obtain ⟨k, hk, rfl, hW⟩ := hrel
  by_cases hlt : k < n
  ·have hlt1 : (k : Int) < (n : Int) := by omega
   have hkw : k < want.size := by have := HNW.out; omega
   have hkz : k < sizes.size := by have := HNW.out; have := HZ.out; omega
   have hkw1 : (k : Int) < (want.size : Int) := by omega
   have hkz1 : (k : Int) < (sizes.size : Int) := by omega
   obtain ⟨⟨⟨g1, g2⟩, g3⟩, g4⟩ := HALL.out k hkw
   obtain ⟨W2, hW2⟩ : ∃ W2, wr.drew = W2 := ⟨_, rfl⟩
   have hb2 : Below w1.heap.size w1 W2 := by rw [← hW2]; exact below_drew1 hW
   obtain ⟨ad, e1, q0, q1, q2, q3⟩ := at_T56 (Kd.C_below HC.out hb2) k (by omega) (by omega)
   subst e1
   simp only [Int.toNat_natCast] at q0 q1 q2 q3
   rw [g1] at q0
   rw [g2] at q3
   have b1 := bt_at want k (by simp; omega)
   have b2 := bt_at sizes k (by simp; omega)
   simp only [Int.toNat_natCast] at b1 b2
   generalize bt want k = x at *
   generalize bt sizes k = y at *
   have hxx : (x != x) = false := by simp
   have hyy : (y - 48 != y - 48) = false := by simp
   have HQ := Lib.hid (And.intro q0 (And.intro q3 (And.intro b1 b2)))
   have HB2 := Lib.hid hb2
   clear q0 q1 q2 q3 b1 b2 hW g1 g2 hb2
   go_wp2
   refine Go.Det.region_all (fun W => W = W2) (by kernel_rfl) (by kernel_rfl) hW2 ?_
   clear hW2
   repeat
    apply Go.Det.seqW_cons
    focus
     intro W hS
     obtain rfl : W = W2 := hS
     obtain ⟨q0, q3, b1, b2⟩ := HQ.out
     go_wp2
     exact Go.Det.AtEnd.mk rfl
   refine Go.Det.seqW_nil ?_
   intro W hS
   obtain rfl : W = W2 := hS
   simp only [Exit.then]
   go_wp2
   go_roundw
   case rel => exact ⟨k + 1, by omega, by go_num, HB2.out⟩
   case measure => simp [intOf]; omega
  ·obtain rfl : k = n := by omega
   have hlt1 : ¬ (k : Int) < (k : Int) := by omega
   go_wp2
   go_ret
   exact ⟨rfl, HB1.out.trans (hW.mono HB1.out.size)⟩
set_option maxRecDepth 100000 in
set_option maxHeartbeats 4000000 in
theorem wrong_calls (s : ByteArray) (a : Int) (w : World) (hs : s.size ≤ 8192) (h : wrongB s a = true) :
  Calls Try.prog 90 #[.string s, .int .i64 a] w fun e w' => e = .returned (.bool true) ∧ Below w.heap.size w w' := by
 unfold wrongB at h
 obtain ⟨⟨t, a', e⟩, ht⟩ : ∃ r, parseP s = r := ⟨_, rfl⟩
 rw [ht] at h
 simp only [Bool.and_eq_true, beq_iff_eq] at h
 obtain ⟨⟨hl, rfl⟩, rfl⟩ := h
 have HP := Lib.hid (fun W => parse_R s W (by omega) ht)
 have HL := Lib.hid hl
 clear ht hl
 go_enter Try.func90, Try.ntmps90
 go_wp2_with fail
 refine (HP.out _).mono ?_
 rintro e w1 ⟨v, rfl, hR, hb1⟩
 obtain ⟨A, c, rfl, hc, hC⟩ := Kd.R_reads hR
 rw [HL.out]
 have HB1 := Lib.hid hb1
 have haa : (a' == a') = true := by simp
 clear hR hC hb1
 go_wp2
 go_ret
 exact ⟨rfl, HB1.out⟩
theorem aw1 : kindsB ⟨#[123, 112, 32, 97, 123, 101, 32, 98, 125, 125]⟩ ⟨#[112, 46, 101, 46]⟩ ⟨#[52, 49, 50, 49]⟩ = true := by decide +kernel
theorem aw2 : kindsB ⟨#[123, 108, 123, 105, 32, 97, 123, 108, 123, 105, 32, 98, 125, 125, 125, 125]⟩ ⟨#[108, 105, 46, 108, 105, 46]⟩ ⟨#[54, 53, 49, 51, 50, 49]⟩ = true := by decide +kernel
theorem aw3 : kindsB ⟨#[123, 107, 125, 32, 123, 112, 125]⟩ ⟨#[107, 112]⟩ ⟨#[49, 49]⟩ = true := by decide +kernel
theorem aw4 : wrongB ⟨#[120]⟩ 0 = true := by decide +kernel
theorem aw5 : wrongB ⟨#[123, 112]⟩ 2 = true := by decide +kernel
theorem aw6 : wrongB ⟨#[125]⟩ 0 = true := by decide +kernel
theorem aw7 : wrongB ⟨#[123, 108, 125]⟩ 2 = true := by decide +kernel
theorem aw8 : wrongB ⟨#[123, 116, 123, 114, 123, 99, 32, 97, 125, 123, 99, 32, 98, 125, 125, 123, 114, 123, 99, 32, 99, 125, 125, 125]⟩ 22 = true := by decide +kernel
theorem aw9 : wrongB ⟨#[123, 112, 123, 101, 123, 115, 123, 101, 32, 97, 125, 125, 125, 125]⟩ 6 = true := by decide +kernel
set_option maxRecDepth 100000 in
set_option maxHeartbeats 4000000 in
theorem awake04_calls (w : World) : Calls Try.prog 52 #[] w fun e w' => e = .returned (.bool true) ∧ Below w.heap.size w w' := by
 have HB := Lib.hid (Below.refl w.heap.size w)
 go_enter Try.func52, Try.ntmps52
 go_wp2_with fail
 refine (kinds_calls _ _ _ _ (by decide) (by decide) aw1).mono ?_
 rintro e w1 ⟨rfl, hb⟩
 replace HB := Lib.hid (HB.out.trans (hb.mono HB.out.size))
 clear hb
 go_wp2_with fail
 refine (kinds_calls _ _ _ _ (by decide) (by decide) aw2).mono ?_
 rintro e w2 ⟨rfl, hb⟩
 replace HB := Lib.hid (HB.out.trans (hb.mono HB.out.size))
 clear hb
 go_wp2_with fail
 refine (kinds_calls _ _ _ _ (by decide) (by decide) aw3).mono ?_
 rintro e w3 ⟨rfl, hb⟩
 replace HB := Lib.hid (HB.out.trans (hb.mono HB.out.size))
 clear hb
 go_wp2_with fail
 refine (wrong_calls _ _ _ (by decide) aw4).mono ?_
 rintro e w4 ⟨rfl, hb⟩
 replace HB := Lib.hid (HB.out.trans (hb.mono HB.out.size))
 clear hb
 go_wp2_with fail
 refine (wrong_calls _ _ _ (by decide) aw5).mono ?_
 rintro e w5 ⟨rfl, hb⟩
 replace HB := Lib.hid (HB.out.trans (hb.mono HB.out.size))
 clear hb
 go_wp2_with fail
 refine (wrong_calls _ _ _ (by decide) aw6).mono ?_
 rintro e w6 ⟨rfl, hb⟩
 replace HB := Lib.hid (HB.out.trans (hb.mono HB.out.size))
 clear hb
 go_wp2_with fail
 refine (wrong_calls _ _ _ (by decide) aw7).mono ?_
 rintro e w7 ⟨rfl, hb⟩
 replace HB := Lib.hid (HB.out.trans (hb.mono HB.out.size))
 clear hb
 go_wp2_with fail
 refine (wrong_calls _ _ _ (by decide) aw8).mono ?_
 rintro e w8 ⟨rfl, hb⟩
 replace HB := Lib.hid (HB.out.trans (hb.mono HB.out.size))
 clear hb
 go_wp2_with fail
 refine (wrong_calls _ _ _ (by decide) aw9).mono ?_
 rintro e w9 ⟨rfl, hb⟩
 replace HB := Lib.hid (HB.out.trans (hb.mono HB.out.size))
 clear hb
 go_wp2
 go_ret
 exact ⟨rfl, HB.out⟩
end Go.Proofs.Ythcmfjpheanphaa.Pr
namespace Go.Proofs.Ythcmfjpheanphaa.Pr
open Go.RowKit Go.Proofs.Ythcmfjpheanphaa.Pure Go.Proofs.YthcmfjpheanphaaW.PrintWords
def Whites (t : ByteArray) : Prop := ∀ j : Nat, j < t.size → whiteT (bt t (j : Int)) = true
theorem blackP_white (t : ByteArray) : ∀ d k, t.size ≤ d + k → k ≤ t.size → ((∀ j : Nat, k ≤ j → j < t.size → whiteT (bt t (j : Int)) = true) ↔ ¬ blackP t d k < t.size)
 | 0, k, h, hk => by
  obtain rfl : k = t.size := by omega
  exact ⟨fun _ => by simp [blackP], fun _ j h1 h2 => by omega⟩
 | d + 1, k, h, hk => by
  simp only [blackP]
  by_cases hlt : k < t.size
  ·rw [if_pos hlt]
   by_cases hw : whiteT (bt t (k : Int)) = true
   ·rw [if_pos hw, ← blackP_white t d (k + 1) (by omega) (by omega)]
    refine ⟨fun g j h1 h2 => g j (by omega) h2, fun g j h1 h2 => ?_⟩
    by_cases e : j = k
    ·subst e; exact hw
    ·exact g j (by omega) h2
   ·rw [if_neg hw]
    exact ⟨fun g => absurd (g k (Nat.le_refl _) hlt) hw, fun g => absurd hlt g⟩
  ·rw [if_neg hlt]
   exact ⟨fun _ => by omega, fun _ j h1 h2 => by omega⟩
theorem whites_iff (t : ByteArray) : Whites t ↔ ¬ blackP t t.size 0 < t.size := by
 rw [← blackP_white t t.size 0 (by omega) (by omega)]
 exact ⟨fun h j _ hj => h j hj, fun h j hj => h j (by omega) hj⟩
theorem may_top : mayP [] 46 = false := by decide
theorem text_top (s : Bld) (x : S47) (hr : s.row = []) (h1 : x.f0 = 1) : ((stepP s x).2.2 = 0 ↔ Whites x.f2) ∧ (stepP s x).1 = s := by
 unfold stepP textsP
 rw [if_pos h1, hr, may_top, whites_iff]
 simp only [Bool.false_eq_true, if_false]
 by_cases hb : blackP x.f2 x.f2.size 0 < x.f2.size
 ·rw [if_pos hb]; exact ⟨by simp [hb], rfl⟩
 ·rw [if_neg hb]; exact ⟨by simp [hb], rfl⟩
theorem run_cons (s : Bld) (x : S47) (l : List S47) (h : (runP s (x :: l)).2.2 = 0) : (stepP s x).2.2 = 0 ∧ (runP (stepP s x).1 l).2.2 = 0 ∧ runP s (x :: l) = runP (stepP s x).1 l := by
 simp only [runP] at h ⊢
 by_cases h0 : (stepP s x).2.2 = 0
 ·rw [if_pos h0] at h ⊢; exact ⟨h0, h, rfl⟩
 ·rw [if_neg h0] at h; exact absurd h h0
theorem run_text (s : Bld) (x : S47) (l : List S47) (hr : s.row = []) (h1 : x.f0 = 1) (hw : Whites x.f2) : runP s (x :: l) = runP s l := by
 obtain ⟨g1, g2⟩ := text_top s x hr h1
 simp only [runP]
 rw [if_pos (g1.2 hw), g2]
theorem text_row (s : Bld) (x : S47) : ((textsP s x).1.row).length = s.row.length := by
 unfold textsP
 split
 ·split <;> simp [kidP_length]
 ·split <;> rfl
theorem open_row (s : Bld) (x : S47) (h : (opensP s x).2.2 = 0) : ((opensP s x).1.row).length = s.row.length + 1 := by
 unfold opensP at h ⊢
 split
 ·simp [kidP_length, markP_length]
 ·rename_i hm
  rw [if_neg hm] at h
  cases h
theorem run_opens : ∀ (l : List S47) (s : Bld), (∀ x ∈ l, x.f0 = 1 ∨ x.f0 = 2) → (runP s l).2.2 = 0 → s.row.length ≤ (runP s l).1.row.length ∧ ((runP s l).1.row.length = s.row.length → ∀ x ∈ l, x.f0 = 1)
 | [], s, _, _ => ⟨Nat.le_refl _, fun _ x hx => by cases hx⟩
 | x :: l, s, hl, h => by
  obtain ⟨h0, h1, h2⟩ := run_cons s x l h
  rw [h2]
  obtain ⟨g1, g2⟩ := run_opens l _ (fun y hy => hl y (List.mem_cons_of_mem _ hy)) h1
  have hx := hl x (List.mem_cons_self)
  by_cases h12 : x.f0 = 1
  ·have e : (stepP s x).1.row.length = s.row.length := by unfold stepP; rw [if_pos h12]; exact text_row s x
   rw [e] at g1 g2
   refine ⟨g1, fun hh y hy => ?_⟩
   rcases List.mem_cons.1 hy with rfl | hy
   ·exact h12
   ·exact g2 hh y hy
  ·have h22 : x.f0 = 2 := by omega
   have e : (stepP s x).1.row.length = s.row.length + 1 := by
    unfold stepP at h0 ⊢
    rw [if_neg h12, if_pos h22] at h0 ⊢
    exact open_row s x h0
   rw [e] at g1
   exact ⟨by omega, fun hh => by omega⟩
theorem run_whites : ∀ (l : List S47) (s : Bld), s.row = [] → (∀ x ∈ l, x.f0 = 1) → (runP s l).2.2 = 0 → (runP s l).1 = s ∧ ∀ x ∈ l, Whites x.f2
 | [], s, _, _, _ => ⟨rfl, fun x hx => by cases hx⟩
 | x :: l, s, hr, hl, h => by
  obtain ⟨h0, h1, h2⟩ := run_cons s x l h
  obtain ⟨g1, g2⟩ := text_top s x hr (hl x List.mem_cons_self)
  rw [g2] at h1 h2
  obtain ⟨k1, k2⟩ := run_whites l s hr (fun y hy => hl y (List.mem_cons_of_mem _ hy)) h1
  rw [h2]
  refine ⟨k1, fun y hy => ?_⟩
  rcases List.mem_cons.1 hy with rfl | hy
  ·exact g1.1 h0
  ·exact k2 y hy
theorem bt_nat (t : ByteArray) (j : Nat) : ∃ n : Fin 256, bt t (j : Int) = (n.val : Int) := by
 unfold bt
 split
 ·exact ⟨⟨_, UInt8.toNat_lt _⟩, rfl⟩
 ·exact ⟨0, rfl⟩
theorem Lx_noclose {w : ByteArray} {p : Nat} {l : List S47} (h : Lx w p l) (hw : ∀ j, j < w.size → bt w (j : Int) ≠ 125) : ∀ x ∈ l, x.f0 = 1 ∨ x.f0 = 2 := by
 induction h with
 | done => exact fun x hx => by cases hx
 | more p x z l hp hx h0 hz hl ih =>
  intro y hy
  rcases List.mem_cons.1 hy with rfl | hy
  ·by_cases h1 : bt w (p : Int) = 123
   ·rw [next_open w p hp h1] at hx
    cases ho : openN (w.extract p w.size) with
    | none => rw [openP_none w p ho] at hx; subst hx; cases h0
    | some n => unfold openP at hx; rw [ho] at hx; subst hx; exact .inr rfl
   ·by_cases h3 : plainP (bt w (p : Int)) = true
    ·rw [(next_text w p hp h1 (hw p hp) h3).2] at hx
     subst hx; exact .inl rfl
    ·rw [next_bad w p hp h1 (hw p hp) h3] at hx
     subst hx; cases h0
  ·exact ih y hy
theorem next_is_text {w : ByteArray} {p : Nat} (hp : p < w.size) {x : Spot} (hx : nextP (w.extract p w.size) p = x) (h0 : x.e = 0) (h1 : x.l.f0 = 1) :
  p < tEnd w p ∧ plainP (bt w (p : Int)) = true ∧ x = ⟨⟨1, 0, w.extract p (tEnd w p), p⟩, ((tEnd w p - p : Nat) : Int), 0⟩ := by
 by_cases hc : bt w (p : Int) = 125
 ·rw [next_close w p hp hc] at hx; subst hx; cases h1
 ·by_cases ho : bt w (p : Int) = 123
  ·rw [next_open w p hp ho] at hx
   cases hn : openN (w.extract p w.size) with
   | none => rw [openP_none w p hn] at hx; subst hx; cases h0
   | some n => unfold openP at hx; rw [hn] at hx; subst hx; cases h1
  ·by_cases h3 : plainP (bt w (p : Int)) = true
   ·obtain ⟨g1, g2⟩ := next_text w p hp ho hc h3
    exact ⟨g1, h3, hx.symm.trans g2⟩
   ·rw [next_bad w p hp ho hc h3] at hx
    subst hx; cases h0
theorem Lx_texts {w : ByteArray} {l : List S47} (h : Lx w 0 l) (hl : ∀ x ∈ l, x.f0 = 1) : w.size = 0 ∨ l = [⟨1, 0, w, 0⟩] := by
 rcases Lx_inv h with ⟨he, rfl⟩ | ⟨x, z, l', hp, hx, h0, hz, hl', rfl⟩
 ·exact .inl he.symm
 ·obtain ⟨g1, g2, g3⟩ := next_is_text hp hx h0 (hl _ List.mem_cons_self)
  right
  have hz' : z = tEnd w 0 := by rw [g3] at hz; simp only at hz; omega
  have hle := (tEnd_le w 0 (by omega)).2
  have hfin : tEnd w 0 = w.size := by
   rcases Lx_inv hl' with ⟨he, _⟩ | ⟨y, z2, l2, hp2, hy, k0, kz, kl, rfl⟩
   ·omega
   ·obtain ⟨_, q2, _⟩ := next_is_text hp2 hy k0 (hl _ (List.mem_cons_of_mem _ List.mem_cons_self))
    rw [Nat.zero_add, hz'] at q2
    have := plainTo_out w w.size 0 (by omega) (by show tEnd w 0 < w.size; omega)
    exact absurd q2 this
  have : l' = [] := Lx_end hl' (by omega)
  rw [this, g3, hfin]
  simp only [List.cons.injEq, and_true, S47.mk.injEq, true_and]
  exact ⟨ByteArray.extract_zero_size, rfl⟩
theorem white_plain {c : Int} (h : whiteT c = true) : plainP c = true := by
 have h' : whiteP c = true := h
 unfold plainP; rw [h', Bool.or_true]
theorem tEnd_white {v b : ByteArray} (hv : Whites v) : tEnd (v ++ b) 0 = v.size + tEnd b 0 := by
 have hs : (v ++ b).size = v.size + b.size := ByteArray.size_append
 have up : ∀ d k, d + k = v.size → tEnd (v ++ b) k = tEnd (v ++ b) v.size := by
  intro d
  induction d with
  | zero =>
   intro k h
   obtain rfl : k = v.size := by omega
   rfl
  | succ d ih =>
   intro k h
   rw [tEnd_step (v ++ b) k (by omega) (by rw [bt_app_left v b k (by omega)]; exact white_plain (hv k (by omega)))]
   exact ih (k + 1) (by omega)
 rw [up v.size 0 (by omega)]
 have h1 := plainTo_ext (v ++ b) v.size (by omega) (v ++ b).size 0 (by omega)
 have h2 : (v ++ b).extract v.size (v ++ b).size = b := by
  have := ext_app_right v b 0 b.size (Nat.le_refl _)
  rw [Nat.add_zero] at this
  rw [hs, this, ByteArray.extract_zero_size]
 rw [h2, Nat.add_zero] at h1
 show plainTo (v ++ b) (v ++ b).size v.size = _
 rw [← h1]
 congr 1
 exact plainTo_more b _ _ 0 (by omega) (by omega)
theorem Lx_white {v b : ByteArray} (hv : Whites v) (h1 : 1 ≤ v.size) {lb : List S47} (hb : Lx b 0 lb) :
  ∃ rest : List S47, Lx (v ++ b) 0 (⟨1, 0, v ++ b.extract 0 (tEnd b 0), 0⟩ :: rest.map (shX v.size)) ∧ ((tEnd b 0 = 0 ∧ lb = rest) ∨ lb = ⟨1, 0, b.extract 0 (tEnd b 0), 0⟩ :: rest) := by
 have hs : (v ++ b).size = v.size + b.size := ByteArray.size_append
 have hc0 : bt (v ++ b) ((0 : Nat) : Int) = bt v ((0 : Nat) : Int) := bt_app_left v b 0 (by omega)
 have hp0 := white_plain (hv 0 h1)
 obtain ⟨n, hn⟩ := bt_nat v 0
 have hne := (is_fin n).2.2.2
 rw [← hn] at hne
 obtain ⟨g1, g2⟩ := next_text (v ++ b) 0 (by omega) (by rw [hc0]; exact (hne hp0).2) (by rw [hc0]; exact (hne hp0).1) (by rw [hc0]; exact hp0)
 rw [tEnd_white hv] at g2
 have hel := tEnd_le b 0 (by omega)
 have hext : (v ++ b).extract 0 (v.size + tEnd b 0) = v ++ b.extract 0 (tEnd b 0) := by
  rw [ByteArray.extract_eq_extract_append_extract (a := v ++ b) (i := 0) (k := v.size + tEnd b 0) v.size (by omega) (by omega), ext_app_left v b 0 v.size (Nat.le_refl _), ByteArray.extract_zero_size]
  congr 1
  have := ext_app_right v b 0 (tEnd b 0) hel.2
  rw [Nat.add_zero] at this
  exact this
 rw [hext] at g2
 obtain ⟨rest, hr, hcase⟩ : ∃ rest, Lx b (tEnd b 0) rest ∧ ((tEnd b 0 = 0 ∧ lb = rest) ∨ lb = ⟨1, 0, b.extract 0 (tEnd b 0), 0⟩ :: rest) := by
  by_cases h0 : tEnd b 0 = 0
  ·exact ⟨lb, by rw [h0]; exact hb, .inl ⟨h0, rfl⟩⟩
  ·have hq : 0 < b.size ∧ plainP (bt b ((0 : Nat) : Int)) = true := by
    by_cases hq : 0 < b.size ∧ plainP (bt b ((0 : Nat) : Int)) = true
    ·exact hq
    ·exact absurd (tEnd_stop b 0 hq) h0
   obtain ⟨m, hm⟩ := bt_nat b 0
   have hme := (is_fin m).2.2.2
   rw [← hm] at hme
   obtain ⟨k1, k2⟩ := next_text b 0 hq.1 (hme hq.2).2 (hme hq.2).1 hq.2
   rcases Lx_inv hb with ⟨he, _⟩ | ⟨x, z, l', hp, hx, e0, hz, hl', rfl⟩
   ·omega
   ·rw [k2] at hx
    subst hx
    simp only at hz
    obtain rfl : z = tEnd b 0 := by omega
    rw [Nat.zero_add] at hl'
    exact ⟨l', hl', .inr rfl⟩
 refine ⟨rest, ?_, hcase⟩
 have hR := Lx_right (A := v) hr
 exact .more 0 _ (v.size + tEnd b 0) _ (by omega) g2 rfl (by simp only; omega) (by rw [Nat.zero_add]; exact hR)
theorem whites_app {v b : ByteArray} (hv : Whites v) (hb : Whites b) : Whites (v ++ b) := by
 intro j hj
 rw [ByteArray.size_append] at hj
 by_cases h : j < v.size
 ·rw [bt_app_left v b j h]; exact hv j h
 ·obtain ⟨i, rfl⟩ : ∃ i, j = v.size + i := ⟨j - v.size, by omega⟩
  rw [bt_app_right v b i (by omega)]; exact hb i (by omega)
theorem parse_ok {s : ByteArray} {t : List S56} {a : Int} (h : parseP s = (t, a, 0)) : Lx s 0 (lexP s).1 ∧ s.size ≤ 8192 ∧ (lexP s).2.2 = 0 ∧ (runP bld0 (lexP s).1).2.2 = 0 ∧ (runP bld0 (lexP s).1).1.row = [] ∧ t = (runP bld0 (lexP s).1).1.t := by
 unfold parseP at h
 by_cases h1 : (lexP s).2.2 = 0
 ·rw [if_neg (by simpa using h1)] at h
  by_cases h2 : (runP bld0 (lexP s).1).2.2 = 0
  ·rw [if_neg (by simpa using h2)] at h
   by_cases h3 : (runP bld0 (lexP s).1).1.row = []
   ·rw [if_neg (by simpa using h3)] at h
    obtain ⟨k1, k2⟩ := lexP_Lx h1
    simp only [Prod.mk.injEq] at h
    exact ⟨k1, k2, h1, h2, h3, h.1.symm⟩
   ·rw [if_pos h3] at h
    simp only [Prod.mk.injEq] at h
    exact absurd h.2.2 (by decide)
  ·rw [if_pos h2] at h
   simp only [Prod.mk.injEq] at h
   exact absurd h.2.2 h2
 ·rw [if_pos h1] at h
  simp only [Prod.mk.injEq] at h
  exact absurd h.2.2 h1
theorem parse_mk {s : ByteArray} {l : List S47} (h : Lx s 0 l) (hs : s.size ≤ 8192) (h1 : (runP bld0 l).2.2 = 0) (h2 : (runP bld0 l).1.row = []) : parseP s = ((runP bld0 l).1.t, 0, 0) := by
 unfold parseP
 rw [Lx_lexP h hs]
 simp only [h1, h2]
 simp
theorem whites_ext0 (b : ByteArray) (h : tEnd b 0 = 0) : Whites (b.extract 0 (tEnd b 0)) := by
 intro j hj
 rw [ByteArray.size_extract, h] at hj
 omega
def nlB : ByteArray := ⟨#[10]⟩
def shutB : ByteArray := ⟨#[125]⟩
theorem parse_both {a b : ByteArray} (ha : a.size ≤ 4000) (hb : b.size ≤ 4000) {t u : List S56} {i j : Int} (h1 : parseP a = (t, i, 0)) (h2 : parseP b = (u, j, 0)) (hn : t.length + u.length ≤ 2000) :
  (∃ d, parseP (a ++ nlB ++ b) = (t ++ u.map (shN d), 0, 0)) ∧ parseP (a ++ shutB) = (([] : List S56), (a.size : Int), (2 : Int)) := by
 obtain ⟨p1, p2, p3, p4, p5, p6⟩ := parse_ok h1
 obtain ⟨q1, q2, q3, q4, q5, q6⟩ := parse_ok h2
 generalize (lexP a).1 = la at *
 generalize (lexP b).1 = lb at *
 obtain ⟨A, w, rfl, hA, hw⟩ := last_close a
 have hs : (A ++ w).size = A.size + w.size := ByteArray.size_append
 obtain ⟨l1, l2, hl12, hL1, hL2⟩ : ∃ l1 l2, la = l1 ++ l2 ∧ Lx A 0 l1 ∧ Lx (A ++ w) A.size l2 := by
  rcases hA with hA | ⟨na, hA, h125⟩
  ·exact ⟨[], la, rfl, by rw [← hA]; exact .done, by rw [hA]; exact p1⟩
  ·exact Lx_left hA h125 A.size 0 (by omega) (by omega) p1
 subst hl12
 obtain ⟨lw, hLw, rfl⟩ := Lx_back (A := A) (b := w) w.size 0 (by omega) (by omega) (by rw [Nat.add_zero]; exact hL2)
 have hr1 : (runP bld0 l1).2.2 = 0 := by
  by_cases h : (runP bld0 l1).2.2 = 0
  ·exact h
  ·exfalso
   have : ∀ (l m : List S47) (s : Bld), (runP s (l ++ m)).2.2 = 0 → (runP s l).2.2 = 0 := by
    intro l m
    induction l with
    | nil => intro s _; rfl
    | cons x l ih =>
     intro s hh
     obtain ⟨k0, k1, k2⟩ := run_cons s x (l ++ m) hh
     simp only [runP]
     rw [if_pos k0]
     exact ih _ k1
   exact h (this _ _ _ p4)
 rw [runP_app _ _ _ hr1] at p4 p5 p6
 have hop : ∀ x ∈ lw.map (shX A.size), x.f0 = 1 ∨ x.f0 = 2 := by
  intro x hx
  obtain ⟨y, hy, rfl⟩ := List.mem_map.1 hx
  exact Lx_noclose hLw hw y hy
 obtain ⟨o1, o2⟩ := run_opens _ _ hop p4
 rw [p5] at o1 o2
 have hrow : (runP bld0 l1).1.row = [] := List.eq_nil_of_length_eq_zero (by simpa using o1)
 have htx := o2 (by rw [hrow])
 obtain ⟨w1, w2⟩ := run_whites _ _ hrow htx p4
 rw [w1] at p6
 have htx' : ∀ x ∈ lw, x.f0 = 1 := fun x hx => htx (shX A.size x) (List.mem_map.2 ⟨x, hx, rfl⟩)
 have hww : Whites w := by
  rcases Lx_texts hLw htx' with h | h
  ·intro j hj; omega
  ·subst h; exact w2 (shX A.size _) (List.mem_map.2 ⟨_, List.mem_cons_self, rfl⟩)
 generalize hs1 : (runP bld0 l1).1 = s1 at *
 have hbs1 : s1 = shB t 0 bld0 := by
  cases s1
  simp only at hrow p6
  subst hrow p6
  simp [shB, bld0]
 constructor
 ·have hz : nlB.size = 1 := rfl
  have hnl : Whites nlB := by
   intro j hj
   rw [hz] at hj
   obtain rfl : j = 0 := by omega
   decide
  have hvw : Whites (w ++ nlB) := whites_app hww hnl
  have hvs : (w ++ nlB).size = w.size + 1 := by rw [ByteArray.size_append, hz]
  rw [show A ++ w ++ nlB ++ b = A ++ ((w ++ nlB) ++ b) from by rw [ByteArray.append_assoc, ByteArray.append_assoc, ByteArray.append_assoc]]
  generalize w ++ nlB = v at *
  obtain ⟨rest, hR, hcase⟩ := Lx_white hvw (by omega) q1
  have hrest : Whites (b.extract 0 (tEnd b 0)) ∧ (runP bld0 rest).2.2 = 0 ∧ runP bld0 lb = runP bld0 rest := by
   rcases hcase with ⟨e0, rfl⟩ | rfl
   ·exact ⟨whites_ext0 b e0, q4, rfl⟩
   ·obtain ⟨k0, k1, k2⟩ := run_cons _ _ _ q4
    obtain ⟨m1, m2⟩ := text_top bld0 ⟨1, 0, b.extract 0 (tEnd b 0), 0⟩ rfl rfl
    rw [m2] at k1 k2
    exact ⟨m1.1 k0, k1, k2⟩
  obtain ⟨r1, r2, r3⟩ := hrest
  rw [r3] at q5 q6
  have hLall : Lx (A ++ (v ++ b)) 0 (l1 ++ (⟨1, 0, v ++ b.extract 0 (tEnd b 0), 0⟩ :: rest.map (shX v.size)).map (shX A.size)) := by
   have hR' := Lx_right (A := A) hR
   rw [Nat.add_zero] at hR'
   rcases hA with hA | ⟨na, hA, h125⟩
   ·have : l1 = [] := Lx_end hL1 (by omega)
    subst this
    rw [hA] at hR' ⊢
    exact hR'
   ·exact Lx_join hA h125 hL1 hR'
  have hrun : runP bld0 (l1 ++ (⟨1, 0, v ++ b.extract 0 (tEnd b 0), 0⟩ :: rest.map (shX v.size)).map (shX A.size)) = runP s1 (rest.map (shX ((v.size : Int) + A.size))) := by
   rw [runP_app _ _ _ hr1, hs1, List.map_cons, run_text s1 _ _ hrow rfl (whites_app hvw r1), List.map_map]
   congr 1
   apply List.map_congr_left
   intro x _
   simp only [Function.comp, shX, S47.mk.injEq, true_and]
   omega
  obtain ⟨f1, f2⟩ := runP_sh t ((v.size : Int) + A.size) rest bld0 (by intro o ho; cases ho) r2 (by rw [← q6]; exact hn)
  have hsame : shB t ((v.size : Int) + A.size) bld0 = s1 := by rw [hbs1]; rfl
  rw [hsame] at f1 f2
  refine ⟨(v.size : Int) + A.size, ?_⟩
  rw [parse_mk hLall (by rw [ByteArray.size_append, ByteArray.size_append]; omega) (by rw [hrun]; exact f2) (by rw [hrun, f1]; simp only [shB, q5]; rfl), hrun, f1]
  simp only [shB, q6]
 ·have hz : shutB.size = 1 := rfl
  rw [show A ++ w ++ shutB = A ++ (w ++ shutB) from ByteArray.append_assoc]
  have hcl : Lx shutB 0 [⟨3, 0, ⟨#[]⟩, 0⟩] := .more 0 ⟨⟨3, 0, ⟨#[]⟩, 0⟩, 1, 0⟩ 1 [] (by decide) (next_close shutB 0 (by decide) (by decide)) rfl rfl .done
  have hte : tEnd shutB 0 = 0 := by decide +kernel
  have hLw2 : Lx (w ++ shutB) 0 (lw ++ [⟨3, 0, ⟨#[]⟩, (w.size : Int)⟩]) := by
   rcases Lx_texts hLw htx' with h | h
   ·have : lw = [] := Lx_end hLw (by omega)
    subst this
    obtain rfl : w = ⟨#[]⟩ := by
     cases w with | mk d =>
      congr 1
      exact Array.eq_empty_of_size_eq_zero (by simpa [ByteArray.size] using h)
    rw [empty_app]
    exact hcl
   ·by_cases hw0 : w.size = 0
    ·rcases Lx_inv hLw with ⟨_, e⟩ | ⟨x, z, l', hp, _⟩
     ·rw [h] at e; cases e
     ·omega
    ·subst h
     obtain ⟨rest, hR, hcase⟩ := Lx_white hww (by omega) hcl
     rw [hte] at hR hcase
     rcases hcase with ⟨_, rfl⟩ | hcase
     ·have e : shutB.extract 0 0 = ⟨#[]⟩ := rfl
      rw [e, show w ++ (⟨#[]⟩ : ByteArray) = w from by apply ByteArray.ext; simp [ByteArray.data_append]] at hR
      have e2 : List.map (shX (w.size : Int)) [(⟨3, 0, ⟨#[]⟩, 0⟩ : S47)] = [⟨3, 0, ⟨#[]⟩, (w.size : Int)⟩] := by simp [shX]
      rw [e2] at hR
      exact hR
     ·simp at hcase
  have hLall : Lx (A ++ (w ++ shutB)) 0 (l1 ++ (lw.map (shX A.size) ++ [⟨3, 0, ⟨#[]⟩, (w.size : Int) + A.size⟩])) := by
   have hR' := Lx_right (A := A) hLw2
   rw [Nat.add_zero, List.map_append] at hR'
   rcases hA with hA | ⟨na, hA, h125⟩
   ·have : l1 = [] := Lx_end hL1 (by omega)
    subst this
    rw [hA] at hR' ⊢
    exact hR'
   ·exact Lx_join hA h125 hL1 hR'
  have hp4 : (runP s1 (lw.map (shX A.size))).2.2 = 0 := p4
  unfold parseP
  rw [Lx_lexP hLall (by rw [ByteArray.size_append, ByteArray.size_append, hz]; omega)]
  have hrun : runP bld0 (l1 ++ (lw.map (shX A.size) ++ [⟨3, 0, ⟨#[]⟩, (w.size : Int) + A.size⟩])) = (s1, (w.size : Int) + A.size, 2) := by
   rw [runP_app _ _ _ hr1, hs1, runP_app _ _ _ hp4, w1]
   simp only [runP, stepP]
   unfold shutsP
   rw [hrow]
   simp
  simp only [hrun]
  rw [if_neg (by simp), if_pos (by simp), ByteArray.size_append]
  simp only [Prod.mk.injEq, true_and, and_true]
  omega
end Go.Proofs.Ythcmfjpheanphaa.Pr
namespace Go.Proofs.Ythcmfjpheanphaa.Pr
open Go.RowKit Go.Maps Go.Proofs.YthcmfjpheanphaaW.PrintWords
attribute [local go_sem] Oper.semAt_some
theorem append_row {P : Program} {w : World} {ops : Array Oper} {rest : List Oper} {o : Oper} {a : Act} {Q : Exit → Act → World → Prop} (hgd : o.guard = none) (s x : Operand) (t : TypeId)
  (ho : o.op = .call { callee := .builtin .append, args := #[s, x], argTypes := #[t, t] })
  (base : Nat) (e : TypeId) (i : TypeInfo) (z : Value) (size bytes : Nat) (ht : P.underlying t = some (.slice e)) (hi : P.info? e = some i) (hz : i.zero = some z)
  (hsize : i.size = size) (hby : i.bytes = bytes) (hzs : z.cells.size = size) (hsz : 0 < size)
  (v : Value) (n : Nat) (xs : List Value) (hs : a.eval s = v) (hown : w.ownsRow base e size v n xs)
  (u : Value) (m b2 : Nat) (news : List Value) (hx : a.eval x = u) (hsrc : w.ownsRow b2 e size u m news) (h1 : ∀ y ∈ news, y.oneCell' = true)
  (h63 : n + m ≤ maxLen) (hbytes : (n + m) * bytes ≤ 140737488355328) (hbase : base ≤ w.heap.size)
  (h : ∀ v' w', w'.ownsRow base e size v' (n + m) (xs ++ news) → w.grownBy w' v.ownBlock → wpList P ops Q rest (a.put o.dst v') w') : wpList P ops Q (o :: rest) a w := by
 rcases hsrc.2 with ⟨rfl, rfl⟩ | ⟨g, cap, cur, rfl, _⟩
 ·have hn : news = [] := by have := hsrc.1; simpa using this
  subst hn
  refine wpList_append_own_none hgd s x t ho base e i size ht hi v n xs hs hown hx (h v w ?_ ⟨rfl, rfl, rfl, Nat.le_refl _, fun _ _ _ => rfl⟩)
  simpa using hown
 ·exact wpList_append_own _ hgd s x t ho base e i z size bytes ht hi hz hsize hby hzs hsz v n xs hs hown ⟨g, 0, none⟩ m cap news hx hsrc.1 (hsrc.cells rfl) h1 h63 hbytes hbase fun v' w' k1 k2 _ => h v' w' k1 k2
theorem R56_flat {w : World} {base : Nat} {v : Value} {xs : List S56} (h : Kd.R k56 56 w base (fun _ => True) v xs) : w.ownsRow base 56 4 v xs.length (flat56 xs) := by
 obtain ⟨_, inner, ho, hl, hr⟩ := h
 have : inner = flat56 xs := by
  have go : ∀ (xs : List S56) (inner : List Value), inner.length = xs.length * 4 → (∀ j p, xs[j]? = some p → ((inner.drop (j * 4)).take 4) = [.int .u8 p.f0, .string p.f1, .int .i64 p.f2, .int .i64 p.f3]) → inner = flat56 xs := by
   intro xs
   induction xs with
   | nil => intro inner h _; exact List.eq_nil_of_length_eq_zero (by simpa using h)
   | cons x xs ih =>
    intro inner h hr
    have h0 := hr 0 x rfl
    rw [Nat.zero_mul, List.drop_zero] at h0
    have h2 := ih (inner.drop 4) (by rw [List.length_drop, h]; simp; omega) fun j p hp => by
     have := hr (j + 1) p (by simpa using hp)
     rw [Nat.succ_mul, Nat.add_comm, ← List.drop_drop] at this
     exact this
    rw [← List.take_append_drop 4 inner, h0, h2]
    rfl
  exact go xs inner hl fun j p hp => k56_openM (hr j p hp)
 subst this
 exact ho
theorem flat56_one (xs : List S56) : ∀ u ∈ flat56 xs, u.oneCell' = true := by
 intro u hu
 simp only [flat56, List.mem_flatMap] at hu
 obtain ⟨x, _, hx⟩ := hu
 simp only [List.mem_cons, List.not_mem_nil, or_false] at hx
 rcases hx with rfl | rfl | rfl | rfl <;> rfl
theorem flat56_app (xs ys : List S56) : flat56 (xs ++ ys) = flat56 xs ++ flat56 ys := by simp [flat56]
theorem sameL_shift (d : Int) : ∀ t u : List S56, sameL (t ++ u.map (shN d)) (t ++ u) = true
 | [], [] => rfl
 | [], y :: u => by
  have := sameL_shift d [] u
  simp only [List.nil_append, List.map_cons, sameL] at this ⊢
  rw [this]
  simp [eqN, shN]
 | x :: t, u => by
  have := sameL_shift d t u
  simp only [List.cons_append, sameL]
  rw [this]
  simp [eqN]
theorem parse_size {s : ByteArray} (h : (parseP s).2.2 = 0) : (parseP s).1.length ≤ s.size := by
 obtain ⟨p1, p2, p3, p4, p5, p6⟩ := parse_ok (s := s) (t := (parseP s).1) (a := (parseP s).2.1) (by rw [← h])
 have hl := Pure.lexP_length s
 have go : ∀ (l : List S47) (b : Bld) (n : Nat), (∀ x ∈ l, LexOk 1000000 x) → BOk b n → (runP b l).1.t.length ≤ n + l.length := by
  intro l
  induction l with
  | nil => intro b n _ hb; exact hb.t
  | cons x l ih =>
   intro b n hx hb
   have hs := stepP_ok hb (hx x List.mem_cons_self)
   simp only [runP, List.length_cons]
   split
   ·have := ih _ (n + 1) (fun y hy => hx y (List.mem_cons_of_mem _ hy)) hs
    omega
   ·have := hs.t
    omega
 have := go (lexP s).1 bld0 0 (fun x hx => by
  obtain ⟨k1, k2, k3, k4, k5, k6⟩ := (lexP_ok s p3).1 x hx
  exact ⟨k1, k2, k3, by omega, k5, by omega⟩) bld0_ok
 rw [p6]
 omega
theorem own_empty56 (w : World) : (w.alloc (.cells #[] 56)).ownsRow w.heap.size 56 4 (.slice (some ⟨w.heap.size, 0, none⟩) 0 0) 0 [] :=
 ⟨rfl, .inr ⟨w.heap.size, 0, #[], rfl, Nat.le_refl _, heap_alloc_new w _, Nat.le_refl _, Nat.zero_le _, rfl, rfl⟩⟩
set_option pp.maxSteps 3000 in
set_option maxRecDepth 100000 in
set_option maxHeartbeats 8000000 in
theorem treeBlocks_walk (a b : ByteArray) (w : World) (w0 : a.size ≤ 140737488351232) (w1 : b.size ≤ 140737488351232) :
  Calls Try.prog 12 #[.string a, .string b] w fun e w' => e = .returned (.bool true) ∧ Below w.heap.size w w' := by
 have Haw := Lib.hid (fun W => awake04_calls W)
 by_cases hab : a.size ≤ 4000 ∧ b.size ≤ 4000
 ·obtain ⟨ha, hb⟩ := hab
  have g1 : ¬ (4000 : Int) < (a.size : Int) := by omega
  have g2 : ¬ (4000 : Int) < (b.size : Int) := by omega
  obtain ⟨⟨t, i, e⟩, h1⟩ : ∃ r, parseP a = r := ⟨_, rfl⟩
  obtain ⟨⟨u, j, f⟩, h2⟩ : ∃ r, parseP b = r := ⟨_, rfl⟩
  have Hk1 := Lib.hid (fun W => parse_R a W w0 h1)
  have Hk2 := Lib.hid (fun W => parse_R b W w1 h2)
  have H1 := Lib.hid h1
  have H2 := Lib.hid h2
  clear h1 h2
  go_enter Try.func12, Try.ntmps12
  go_wp2_with fail
  refine (Hk1.out _).mono ?_
  rintro _ x1 ⟨v1, rfl, R1, B1⟩
  go_wp2_with fail
  refine (Hk2.out _).mono ?_
  rintro _ x2 ⟨v2, rfl, R2, B2⟩
  replace R1 := Kd.R_below R1 B2
  replace R2 := Kd.R_lower R2 B1.size
  replace B2 := B1.trans (B2.mono B1.size)
  obtain ⟨A1, c1, rfl⟩ := Kd.R_slice R1
  obtain ⟨A2, c2, rfl⟩ := Kd.R_slice R2
  have HR1 := Lib.hid R1
  have HR2 := Lib.hid R2
  have HB2 := Lib.hid B2
  clear R1 R2 B1 B2 Hk1 Hk2
  by_cases he : e = 0
  ·by_cases hf : f = 0
   ·subst he
    subst hf
    have z1 : t.length ≤ 4000 := by
     have := parse_size (s := a) (by rw [H1.out])
     rw [H1.out] at this
     simp only at this
     omega
    have z2 : u.length ≤ 4000 := by
     have := parse_size (s := b) (by rw [H2.out])
     rw [H2.out] at this
     simp only at this
     omega
    by_cases hn : t.length + u.length ≤ 2000
    ·have hn1 : ¬ (2000 : Int) < (t.length : Int) + (u.length : Int) := by omega
     obtain ⟨⟨d, hd⟩, hsh⟩ := parse_both ha hb H1.out H2.out hn
     have hcat1 := fun W => run_string_add_sum (P := Try.prog) (w := W) a ⟨#[10]⟩ (by show a.size + 1 ≤ _; omega)
     have p1 : (a ++ (⟨#[10]⟩ : ByteArray)).size = a.size + 1 := by rw [ByteArray.size_append]; rfl
     have p2 : (a ++ (⟨#[125]⟩ : ByteArray)).size = a.size + 1 := by rw [ByteArray.size_append]; rfl
     have hcat2 := fun W => run_string_add_sum (P := Try.prog) (w := W) (a ++ ⟨#[10]⟩) b (by rw [p1]; omega)
     have hcat3 := fun W => run_string_add_sum (P := Try.prog) (w := W) a ⟨#[125]⟩ (by show a.size + 1 ≤ _; omega)
     have Hk3 := Lib.hid (fun W => parse_R ((a ++ ⟨#[10]⟩) ++ b) W (by rw [ByteArray.size_append, p1]; omega) hd)
     have Hk4 := Lib.hid (fun W => parse_R (a ++ ⟨#[125]⟩) W (by rw [p2]; omega) hsh)
     clear hd hsh p1 p2 H1 H2
     go_wp2_with fail
     refine (Hk3.out _).mono ?_
     rintro _ x3 ⟨v3, rfl, R3, B3⟩
     have R1 := Kd.R_below HR1.out B3
     have R2 := Kd.R_below HR2.out B3
     replace R3 := Kd.R_lower R3 HB2.out.size
     replace B3 := HB2.out.trans (B3.mono HB2.out.size)
     obtain ⟨A3, c3, rfl⟩ := Kd.R_slice R3
     have HR3 := Lib.hid R3
     have HS1 := Lib.hid R1
     have HS2 := Lib.hid R2
     have HB3 := Lib.hid B3
     clear R1 R2 R3 B3 HR1 HR2 HB2
     go_wp2_with fail
     refine (Hk4.out _).mono ?_
     rintro _ x4 ⟨v4, rfl, R4, B4⟩
     have R1 := Kd.R_below HS1.out B4
     have R2 := Kd.R_below HS2.out B4
     have R3 := Kd.R_below HR3.out B4
     replace B4 := HB3.out.trans (B4.mono HB3.out.size)
     have HT1 := Lib.hid (R56_flat R1)
     have HT2 := Lib.hid (R56_flat R2)
     have HT3 := Lib.hid R3
     have HB4 := Lib.hid B4
     clear R1 R2 R3 B4 R4 HS1 HS2 HR3 HB3 Hk3 Hk4 hcat1 hcat2 hcat3
     obtain ⟨i0, hi, hz0, hz1, hz2⟩ := info_parts info56
     go_wp2_with (at_builtin; refine append_row rfl _ _ 50 rfl x4.heap.size 56 i0 (.agg #[(.int .u8 0), (.string ⟨#[]⟩), (.int .i64 0), (.int .i64 0)]) 4 40 Try.underlying50 hi hz0 hz1 hz2 rfl (by decide) _ 0 [] rfl (own_empty56 x4) _ t.length w.heap.size (flat56 t) rfl (own_alloc HT1.out _) (flat56_one t) ?c3 ?c4 ?c5 ?c6)
     case c3 => unfold maxLen; omega
     case c4 => omega
     case c5 => simp
     case c6 =>
      intro v5 x5 hown hgrow
      have hb5 : Below x4.heap.size x4 x5 := ((Below.refl _ x4).alloc (Nat.le_refl _) _).grown hgrow (by simp) fun k hk => (by cases hk; exact Nat.le_refl _)
      have hb5' : Below w.heap.size w x5 := HB4.out.trans (hb5.mono HB4.out.size)
      have hu5 := pw_own_below HT2.out hb5
      have HU5 := Lib.hid hu5
      have HB5 := Lib.hid hb5
      have HB5' := Lib.hid hb5'
      have HO5 := Lib.hid hown
      clear hown hgrow hb5 hb5' hu5
      go_wp2_with (at_builtin; refine append_row rfl _ _ 50 rfl x4.heap.size 56 i0 (.agg #[(.int .u8 0), (.string ⟨#[]⟩), (.int .i64 0), (.int .i64 0)]) 4 40 Try.underlying50 hi hz0 hz1 hz2 rfl (by decide) _ _ _ rfl HO5.out _ u.length w.heap.size (flat56 u) rfl HU5.out (flat56_one u) ?d3 ?d4 ?d5 ?d6)
      case d3 => unfold maxLen; omega
      case d4 => omega
      case d5 => exact HB5.out.size
      case d6 =>
       intro v6 x6 hown6 hgrow6
       have hb6 : Below x4.heap.size x4 x6 := HB5.out.grown hgrow6 HB5.out.size fun k hk => own_base HO5.out k hk
       have hall : x6.ownsRow x4.heap.size 56 4 v6 (t ++ u).length (flat56 (t ++ u)) := by
        rw [flat56_app, List.length_append]
        simpa using hown6
       obtain ⟨A6, c6, rfl⟩ := own_slice hall
       have hC6 := (Kd.R_reads (own_R56 hall _ (Nat.le_refl _)))
       obtain ⟨A6', c6', he6, _, hC6⟩ := hC6
       simp only [Value.slice.injEq] at he6
       obtain ⟨rfl, -, rfl⟩ := he6
       obtain ⟨A3', c3', he3, _, hC3⟩ := Kd.R_reads (Kd.R_below HT3.out hb6)
       simp only [Value.slice.injEq] at he3
       obtain ⟨rfl, -, rfl⟩ := he3
       have hsm := same_calls A3 A6 c3 c6 _ _ x6 (by simp; omega) (by simp; omega) hC3 hC6
       rw [sameL_shift d t u] at hsm
       simp only [List.length_append, List.length_map] at hsm ⊢
       have HSM := Lib.hid hsm
       have HB6 := Lib.hid (HB4.out.trans (hb6.mono HB4.out.size))
       have haa : ((a.size : Int) == (a.size : Int)) = true := by simp
       clear hown6 hgrow6 hb6 hall hC6 hC3 hsm
       go_wp2_with (first | (go_at_call 56; refine HSM.out.mono ?_; rintro _ x7 ⟨rfl, hb7⟩) | (go_at_call 52; refine (Haw.out _).mono ?_; rintro _ x8 ⟨rfl, hb8⟩))
       go_ret
       exact ⟨rfl, (HB6.out.trans (hb7.mono HB6.out.size)).trans (hb8.mono (Nat.le_trans HB6.out.size hb7.size))⟩
    ·have hn1 : (2000 : Int) < (t.length : Int) + (u.length : Int) := by omega
     go_wp2_with (go_at_call 52; refine (Haw.out _).mono ?_; rintro _ w4 ⟨rfl, hb4⟩)
     go_ret
     exact ⟨rfl, HB2.out.trans (hb4.mono HB2.out.size)⟩
   ·subst he
    have hfb : (f != 0) = true := bne_iff_ne.2 hf
    clear hf
    go_wp2_with (go_at_call 52; refine (Haw.out _).mono ?_; rintro _ w4 ⟨rfl, hb4⟩)
    go_ret
    exact ⟨rfl, HB2.out.trans (hb4.mono HB2.out.size)⟩
  ·have heb : (e != 0) = true := bne_iff_ne.2 he
   clear he
   go_wp2_with (go_at_call 52; refine (Haw.out _).mono ?_; rintro _ w4 ⟨rfl, hb4⟩)
   go_ret
   exact ⟨rfl, HB2.out.trans (hb4.mono HB2.out.size)⟩
 ·have g : (4000 : Int) < (a.size : Int) ∨ ¬ (4000 : Int) < (a.size : Int) ∧ (4000 : Int) < (b.size : Int) := by omega
  clear hab
  rcases g with g | ⟨g, g2⟩
  all_goals
   go_enter Try.func12, Try.ntmps12
   go_wp2_with (go_at_call 52; refine (Haw.out _).mono ?_; rintro _ w4 ⟨rfl, hb4⟩)
   go_ret
   exact ⟨rfl, hb4⟩
end Go.Proofs.Ythcmfjpheanphaa.Pr
