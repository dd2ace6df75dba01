/- Texts of this seat, one behind the other. -/
import Derived.Laws.EntriesVeiled
import Derived.Test.YthcmfjpheanphaaXTreeParses1
import Derived.Test.YthcmfjpheanphaaXTreeParses2
import Derived.Test.YthcmfjpheanphaaXTreeParses3
import Derived.Test.YthcmfjpheanphaaXTreeParses4
import Derived.Test.YthcmfjpheanphaaXTreeParses5
import Derived.Test.YthcmfjpheanphaaXTreeParses6
import Derived.Test.YthcmfjpheanphaaXTreeParses7
set_option linter.unusedVariables false
set_option linter.unusedSimpArgs false
namespace Go.Proofs.Ythcmfjpheanphaa.Pure
open Go.RowKit Go.Proofs.Ythcmfjpheanphaa.Pr Go.Proofs.YthcmfjpheanphaaW.PrintWords Go.Proofs.YthcmfjpheanphaaW.PrintLast
def lexGo (s : ByteArray) : Nat → Nat → List S47 → List S47 × Int × Int
 | 0, _, acc => (acc, 0, 0)
 | d + 1, at_, acc => if at_ < s.size then (if (nextP (s.extract at_ s.size) at_).e = 0 then lexGo s d (at_ + (nextP (s.extract at_ s.size) at_).size.toNat) (acc ++ [(nextP (s.extract at_ s.size) at_).l]) else ([], at_, (nextP (s.extract at_ s.size) at_).e)) else (acc, 0, 0)
def outL (acc : List S47) (L : List (Nat × Spot)) : List S47 × Int × Int := if lastE L = 0 then (acc ++ lexes L, 0, 0) else ([], lastAt L, lastE L)
theorem outL_nil (acc : List S47) : outL acc [] = (acc, 0, 0) := by simp [outL, lastE, lexes]
theorem outL_cons (acc : List S47) (x y : Nat × Spot) (L : List (Nat × Spot)) : outL acc (x :: y :: L) = outL (acc ++ [x.2.l]) (y :: L) := by
 have e1 : lastE (x :: y :: L) = lastE (y :: L) := by simp [lastE]
 have e2 : lastAt (x :: y :: L) = lastAt (y :: L) := by simp [lastAt]
 unfold outL
 rw [e2, show lexes (x :: y :: L) = x.2.l :: lexes (y :: L) from rfl]
 simp [e1]
theorem lexGo_all (s : ByteArray) : ∀ (d at_ : Nat) (acc : List S47), lexGo s d at_ acc = outL acc (allL s d at_)
 | 0, at_, acc => by simp only [lexGo, allL, outL_nil]
 | d + 1, at_, acc => by
  simp only [lexGo, allL]
  by_cases h : at_ < s.size
  ·rw [if_pos h, if_pos h]
   by_cases he : (nextP (s.extract at_ s.size) at_).e = 0
   ·rw [if_pos he, if_pos he, lexGo_all s d]
    generalize allL s d (at_ + (nextP (s.extract at_ s.size) at_).size.toNat) = L
    cases L with
    | nil => simp [outL, lastE, lexes, he]
    | cons y L => rw [outL_cons]
   ·rw [if_neg he, if_neg he]
    simp [outL, lastE, lastAt, he]
  ·rw [if_neg h, if_neg h, outL_nil]
theorem lexP_go (s : ByteArray) (h : s.size ≤ 8192) : lexP s = lexGo s s.size 0 [] := by
 unfold lexP
 rw [if_neg (by omega), lexGo_all]
 simp [outL]
theorem ext_ext (s : ByteArray) (a i j : Nat) (h : a + j ≤ s.size) : (s.extract a s.size).extract i j = s.extract (a + i) (a + j) := by
 rw [ByteArray.extract_extract]
 congr 1
 omega
theorem plainTo_ext (s : ByteArray) (p : Nat) (hp : p ≤ s.size) : ∀ d j, p + j ≤ s.size → p + plainTo (s.extract p s.size) d j = plainTo s d (p + j)
 | 0, j, _ => rfl
 | d + 1, j, hj => by
  simp only [plainTo]
  have hsz : (s.extract p s.size).size = s.size - p := by rw [ByteArray.size_extract]; omega
  by_cases h : p + j < s.size
  ·have hb : bt (s.extract p s.size) (j : Int) = bt s ((p + j : Nat) : Int) := bt_extract s p s.size (Nat.le_refl _) j h
   rw [hb, hsz]
   by_cases hpl : plainP (bt s ((p + j : Nat) : Int)) = true
   ·rw [if_pos ⟨by omega, hpl⟩, if_pos ⟨h, hpl⟩]
    exact plainTo_ext s p hp d (j + 1) (by omega)
   ·rw [if_neg (fun h => hpl h.2), if_neg (fun h => hpl h.2)]
  ·rw [if_neg (fun h' => by omega), if_neg (fun h' => by omega)]
theorem plainTo_le (t : ByteArray) : ∀ d q, q ≤ plainTo t d q
 | 0, q => Nat.le_refl _
 | d + 1, q => by
  simp only [plainTo]
  split
  ·have := plainTo_le t d (q + 1); omega
  ·exact Nat.le_refl _
theorem plainTo_more (t : ByteArray) : ∀ d e q, t.size ≤ d + q → t.size ≤ e + q → plainTo t d q = plainTo t e q
 | 0, e, q, h, _ => by rw [plainTo_stop t e q (fun h' => by omega)]; rfl
 | d + 1, 0, q, _, h => by rw [plainTo_stop t (d + 1) q (fun h' => by omega)]; rfl
 | d + 1, e + 1, q, h, h' => by
  simp only [plainTo]
  split
  ·exact plainTo_more t d e (q + 1) (by omega) (by omega)
  ·rfl
theorem plainTo_out (t : ByteArray) : ∀ d p, t.size ≤ d + p → plainTo t d p < t.size → ¬ plainP (bt t ((plainTo t d p : Nat) : Int)) = true
 | 0, p, h, h2 => by simp only [plainTo] at h2; omega
 | d + 1, p, h, h2 => by
  simp only [plainTo] at h2 ⊢
  split at h2
  ·rename_i hc
   rw [if_pos hc]
   exact plainTo_out t d (p + 1) (by omega) h2
  ·rename_i hc
   rw [if_neg hc]
   exact fun e => hc ⟨h2, e⟩
def tEnd (s : ByteArray) (q : Nat) : Nat := plainTo s s.size q
theorem tEnd_step (s : ByteArray) (q : Nat) (h : q < s.size) (hp : plainP (bt s (q : Int)) = true) : tEnd s q = tEnd s (q + 1) := by
 unfold tEnd
 obtain ⟨n, hn⟩ : ∃ n, s.size = n + 1 := ⟨s.size - 1, by omega⟩
 have : plainTo s (n + 1) q = plainTo s n (q + 1) := by
  simp only [plainTo]; rw [if_pos ⟨h, hp⟩]
 rw [hn, this]
 exact plainTo_more s n (n + 1) (q + 1) (by omega) (by omega)
theorem tEnd_stop (s : ByteArray) (q : Nat) (h : ¬ (q < s.size ∧ plainP (bt s (q : Int)) = true)) : tEnd s q = q := plainTo_stop s _ q h
theorem tEnd_le (s : ByteArray) (q : Nat) (h : q ≤ s.size) : q ≤ tEnd s q ∧ tEnd s q ≤ s.size := ⟨plainTo_le s _ q, plainTo_size s _ q h⟩
theorem nextP_at (s : ByteArray) (p : Nat) (hp : p < s.size) :
  nextP (s.extract p s.size) p = if bt s (p : Int) = 123 then openP (s.extract p s.size) p else if bt s (p : Int) = 125 then ⟨⟨3, 0, ⟨#[]⟩, p⟩, 1, 0⟩
   else if tEnd s p = p then ⟨⟨0, 0, ⟨#[]⟩, 0⟩, 0, 3⟩ else ⟨⟨1, 0, s.extract p (tEnd s p), p⟩, ((tEnd s p - p : Nat) : Int), 0⟩ := by
 have hb : bt (s.extract p s.size) 0 = bt s (p : Int) := bt_extract s p s.size (Nat.le_refl _) 0 hp
 have hsz : (s.extract p s.size).size = s.size - p := by rw [ByteArray.size_extract]; omega
 have ht : p + plainTo (s.extract p s.size) (s.extract p s.size).size 0 = tEnd s p := by
  rw [plainTo_ext s p (by omega) _ 0 (by omega), hsz]
  exact plainTo_more s _ _ p (by omega) (by omega)
 have hle := tEnd_le s p (by omega)
 unfold nextP
 rw [hb]
 generalize plainTo (s.extract p s.size) (s.extract p s.size).size 0 = z at *
 split
 ·rfl
 ·split
  ·rfl
  ·by_cases hz : z = 0
   ·rw [if_pos hz, if_pos (by omega)]
   ·rw [if_neg hz, if_neg (by omega), ext_ext s p 0 z (by omega)]
    rw [show p + z = tEnd s p from ht, Nat.add_zero, show z = tEnd s p - p by omega]
def lettersB : ByteArray := ⟨#[49, 50, 51, 112, 108, 105, 116, 114, 99, 110, 101, 115, 107]⟩
theorem letters_f : stylusref03_Letters.f = some lettersB := rfl
theorem names_fin : ∀ i : Fin 13, stylusref03_Name.f 20 (bt lettersB (i.val : Int)) = some (namesL.getD i.val ⟨#[]⟩) ∧ letP (namesL.getD i.val ⟨#[]⟩) = bt lettersB (i.val : Int) ∧ letP (namesL.getD i.val ⟨#[]⟩) ≠ 0 := by decide +kernel
theorem names_at (i : Nat) (hi : i < 13) (k : Nat) (hk : 20 ≤ k) : stylusref03_Name.f k (bt lettersB (i : Int)) = some (namesL.getD i ⟨#[]⟩) ∧ letP (namesL.getD i ⟨#[]⟩) = bt lettersB (i : Int) := by
 have h := names_fin ⟨i, hi⟩
 exact ⟨at_rounds (fun k => stylusref03_Name.mono (bt lettersB (i : Int)) k) hk h.1, h.2.1⟩
theorem letP_ne (x : ByteArray) (h : x ∈ namesL) : letP x ≠ 0 := by
 have : ∀ y ∈ namesL, letP y ≠ 0 := by decide +kernel
 exact this x h
def opensOut : Option ByteArray → Int × ByteArray
 | some n => (letP n, n)
 | none => (0, ⟨#[]⟩)
theorem pref_at (s n : ByteArray) (p : Nat) (hp : p < s.size) : prefP ((s.extract p s.size).extract 1 (s.extract p s.size).size) n = if p + 1 + n.size ≤ s.size then (s.extract (p + 1) (p + 1 + n.size)).toList == n.toList else false := by
 have hsz : (s.extract p s.size).size = s.size - p := by rw [ByteArray.size_extract]; omega
 have e1 : (s.extract p s.size).extract 1 (s.extract p s.size).size = s.extract (p + 1) s.size := by
  rw [hsz, ext_ext s p 1 (s.size - p) (by omega)]
  congr 1; omega
 rw [e1]
 unfold prefP
 have hsz2 : (s.extract (p + 1) s.size).size = s.size - (p + 1) := by rw [ByteArray.size_extract]; omega
 rw [hsz2]
 by_cases h : p + 1 + n.size ≤ s.size
 ·rw [if_pos (by omega), if_pos h, ext_ext s (p + 1) 0 n.size (by omega), Nat.add_zero]
 ·rw [if_neg (by omega), if_neg h]
theorem opens_loop (s : ByteArray) (hs : s.size ≤ 1000000) (p : Nat) (hp : p < s.size) : ∀ (d i k : Nat), d + i = 13 → d + 21 ≤ k →
  stylusref03_opens.l0 k s (p : Int) (i : Int) = some (opensOut ((namesL.drop i).find? fun n => prefP ((s.extract p s.size).extract 1 (s.extract p s.size).size) n))
 | 0, i, k, hd, hk => by
  obtain ⟨k, rfl⟩ : ∃ m, k = m + 1 := ⟨k - 1, by omega⟩
  obtain rfl : i = 13 := by omega
  simp only [stylusref03_opens.l0, letters_f, Option.bind_some]
  rw [if_neg (by decide)]
  rfl
 | d + 1, i, k, hd, hk => by
  obtain ⟨k, rfl⟩ : ∃ m, k = m + 1 := ⟨k - 1, by omega⟩
  have hi : i < 13 := by omega
  have hn := names_at i hi k (by omega)
  have hlz : (lettersB.size : Int) = 13 := rfl
  have hdrop : namesL.drop i = namesL.getD i ⟨#[]⟩ :: namesL.drop (i + 1) := by
   rw [List.drop_eq_getElem_cons (show i < namesL.length from hi)]
   congr 1
   rw [List.getD_eq_getElem?_getD, List.getElem?_eq_getElem (show i < namesL.length from hi)]
   rfl
  have hxs := names_sizes (namesL.getD i ⟨#[]⟩) (by
   rw [List.getD_eq_getElem?_getD, List.getElem?_eq_getElem (show i < namesL.length from hi)]
   exact List.getElem_mem _)
  have ih := opens_loop s hs p hp d (i + 1) k (by omega) (by omega)
  have hpa := pref_at s (namesL.getD i ⟨#[]⟩) p hp
  rw [hdrop]
  generalize namesL.getD i ⟨#[]⟩ = x at *
  have q1 : (i : Int) < 13 := by omega
  have q2 : (0 : Int) ≤ (i : Int) := by omega
  have q3 : (0 : Int) ≤ ((p + 1 : Nat) : Int) := by omega
  have q4 : ((p + 1 : Nat) : Int) ≤ ((p + 1 + x.size : Nat) : Int) := by omega
  have q8 : i < 9223372036854775807 := by omega
  have q9 : p < 9223372036854775807 := by omega
  have q6 : p + 1 + x.size ≤ s.size → ((p + 1 + x.size : Nat) : Int) ≤ (s.size : Int) := fun h => by omega
  have q7 : ¬ p + 1 + x.size ≤ s.size → ¬ ((p + 1 + x.size : Nat) : Int) ≤ (s.size : Int) := fun h => by omega
  have w2 : wrap64 (((p + 1 : Nat) : Int) + (x.size : Int)) = ((p + 1 + x.size : Nat) : Int) := by
   have : p + 1 + x.size < 9223372036854775807 := by omega
   clear hn ih hpa hdrop
   unfold wrap64; omega
  have w1 : wrap64 ((p : Int) + 1) = ((p + 1 : Nat) : Int) := wrap_one q9
  have q5 : wrap64 ((i : Int) + 1) = ((i + 1 : Nat) : Int) := wrap_one q8
  have hn1 := hn.1
  have hn2 := hn.2
  have hlf := letters_f
  unfold stylusref03_opens.l0
  clear hdrop hxs hn
  generalize lettersB = LB at *
  simp only [hlf, Option.bind_some]
  rw [hlz]
  refine (if_pos q1).trans ?_
  refine (if_pos q2).trans ?_
  refine (if_pos q1).trans ?_
  rw [hn1, Option.bind_some, w1, w2, q5, ih, Int.toNat_natCast, Int.toNat_natCast]
  by_cases h1 : p + 1 + x.size ≤ s.size
  ·rw [if_pos h1] at hpa
   refine (if_pos (q6 h1)).trans ?_
   refine (if_pos q3).trans ?_
   refine (if_pos q4).trans ?_
   by_cases h2 : (s.extract (p + 1) (p + 1 + x.size)).toList = x.toList
   ·have h3 : ((s.extract (p + 1) (p + 1 + x.size)).toList == x.toList) = true := beq_iff_eq.2 h2
    rw [h3] at hpa
    refine (if_pos h2).trans ?_
    refine (if_pos q1).trans ?_
    rw [List.find?_cons_of_pos hpa]
    simp only [opensOut, hn2]
   ·have h3 : ((s.extract (p + 1) (p + 1 + x.size)).toList == x.toList) = false := beq_eq_false_iff_ne.2 h2
    rw [h3] at hpa
    refine (if_neg h2).trans ?_
    rw [List.find?_cons_of_neg (by rw [hpa]; simp)]
  ·rw [if_neg h1] at hpa
   refine (if_neg (q7 h1)).trans ?_
   rw [List.find?_cons_of_neg (by rw [hpa]; simp)]
theorem opens_f (s : ByteArray) (hs : s.size ≤ 1000000) (p : Nat) (hp : p < s.size) (k : Nat) (hk : 34 ≤ k) : stylusref03_opens.f k s (p : Int) = some (opensOut (openN (s.extract p s.size))) :=
 opens_loop s hs p hp 13 0 k rfl (by omega)
def isB (c : Int) : Bool := !(classP c == 0) && !(classP c == 6)
theorem is_fin : ∀ n : Fin 256, stylusref01_Is.f 20 (n.val : Int) = some (isB (n.val : Int)) ∧ stylusref01_White.f (n.val : Int) = some (whiteP (n.val : Int)) ∧ (plainP (n.val : Int) = (isB (n.val : Int) || whiteP (n.val : Int))) ∧ (plainP (n.val : Int) = true → (n.val : Int) ≠ 125 ∧ (n.val : Int) ≠ 123) := by decide +kernel
theorem is_at (c : Int) (h0 : 0 ≤ c) (h1 : c ≤ 255) (k : Nat) (hk : 20 ≤ k) : stylusref01_Is.f k c = some (isB c) ∧ stylusref01_White.f c = some (whiteP c) ∧ plainP c = (isB c || whiteP c) ∧ (plainP c = true → c ≠ 125 ∧ c ≠ 123) := by
 have h := is_fin ⟨c.toNat, by omega⟩
 simp only [Int.toNat_of_nonneg h0] at h
 exact ⟨at_rounds (fun k => stylusref01_Is.mono c k) hk h.1, h.2⟩
theorem empty_app (t : ByteArray) : (⟨#[]⟩ : ByteArray) ++ t = t := by
 apply ByteArray.ext
 simp
theorem rd47_last (acc : List S47) (x : S47) : rd_T47 (acc ++ [x]) ((acc.length : Nat) : Int) = x := by
 simp [rd_T47]
theorem set47_last (acc : List S47) (x y : S47) : (acc ++ [x]).set acc.length y = acc ++ [y] := by
 rw [List.set_append_right _ _ (Nat.le_refl _)]
 simp
theorem refOf_j1_on (s : ByteArray) (hs : s.size ≤ 8192) (acc : List S47) (x : S47) (q k : Nat) (hq : q < s.size) (hl : acc.length ≤ 8192) (hx : x.f2.size ≤ 8192) :
  stylusref03_Of.j1 (k + 1) s (acc ++ [x]) 1 (q : Int) false = stylusref03_Of.l0 k s (acc ++ [⟨x.f0, x.f1, x.f2 ++ s.extract q (q + 1), x.f3⟩]) 1 ((q + 1 : Nat) : Int) := by
 have hlen : ((acc ++ [x]).length : Int) = (acc.length : Int) + 1 := by simp
 have w1 : wrap64 (((acc ++ [x]).length : Int) - 1) = ((acc.length : Nat) : Int) := by rw [hlen]; unfold wrap64; omega
 have w2 : wrap64 ((q : Int) + 1) = ((q + 1 : Nat) : Int) := wrap_one (by omega)
 have q1 : (0 : Int) ≤ ((acc.length : Nat) : Int) := Int.natCast_nonneg _
 have q2 : ((acc.length : Nat) : Int) < ((acc ++ [x]).length : Int) := by rw [hlen]; exact Int.lt_succ _
 have q3 : (0 : Int) ≤ ((q : Nat) : Int) := Int.natCast_nonneg _
 have q4 : ((q : Nat) : Int) ≤ ((q + 1 : Nat) : Int) := Int.ofNat_le.2 (Nat.le_succ q)
 have q5 : ((q + 1 : Nat) : Int) ≤ (s.size : Int) := Int.ofNat_le.2 hq
 have q6 : x.f2.size + (s.extract q (q + 1)).size ≤ 9223372036854775807 := by
  rw [ByteArray.size_extract]
  clear w1 w2 q1 q2 q3 q4 q5 hlen
  omega
 unfold stylusref03_Of.j1
 refine (if_neg (by simp)).trans ?_
 refine (if_neg (by decide)).trans ?_
 rw [w1, w2]
 refine (if_pos q1).trans ?_
 refine (if_pos q2).trans ?_
 refine (if_pos q3).trans ?_
 refine (if_pos q4).trans ?_
 refine (if_pos q5).trans ?_
 rw [rd47_last, Int.toNat_natCast, Int.toNat_natCast, Int.toNat_natCast, set47_last]
 exact if_pos q6
theorem refOf_j1_first (s : ByteArray) (hs : s.size ≤ 8192) (acc : List S47) (q k : Nat) (hq : q < s.size) (hl : acc.length ≤ 8192) :
  stylusref03_Of.j1 (k + 1) s acc 0 (q : Int) false = stylusref03_Of.l0 k s (acc ++ [⟨1, 0, s.extract q (q + 1), q⟩]) 1 ((q + 1 : Nat) : Int) := by
 have h := refOf_j1_on s hs acc ⟨1, 0, ⟨#[]⟩, q⟩ q k hq hl (Nat.zero_le _)
 rw [← empty_app (s.extract q (q + 1))]
 rw [← h]
 unfold stylusref03_Of.j1
 have hl2 : acc.length < 3518437208883 := by omega
 refine (if_neg (by simp)).trans ?_
 refine (if_pos rfl).trans ?_
 refine (if_pos hl2).trans ?_
 simp only [Option.bind_some]
 refine Eq.symm ?_
 refine (if_neg (by simp)).trans ?_
 exact (if_neg (by decide))
theorem refOf_plain (s : ByteArray) (acc : List S47) (f : Int) (q k : Nat) (hq : q < s.size) (h1 : bt s (q : Int) ≠ 125) (h2 : bt s (q : Int) ≠ 123) (hk : 20 ≤ k) :
  stylusref03_Of.l0 (k + 1) s acc f (q : Int) = stylusref03_Of.j1 k s acc f (q : Int) (!plainP (bt s (q : Int))) := by
 have hb := bt_range s q
 obtain ⟨e1, e2, e3, _⟩ := is_at _ hb.1 hb.2 k hk
 have q1 : ((q : Nat) : Int) < (s.size : Int) := Int.ofNat_lt.2 hq
 have q2 : (0 : Int) ≤ ((q : Nat) : Int) := Int.natCast_nonneg _
 unfold stylusref03_Of.l0
 refine (if_pos q1).trans ?_
 refine (if_pos q2).trans ?_
 refine (if_neg h1).trans ?_
 refine (if_neg h2).trans ?_
 rw [e1, e3]
 generalize isB (bt s (q : Int)) = b1 at *
 generalize whiteP (bt s (q : Int)) = b2 at *
 cases b1
 ·simp only [Option.bind_some]
  refine (if_neg (by simp)).trans ?_
  rw [e2]
  simp only [Option.bind_some, Bool.false_or]
 ·simp only [Option.bind_some, Bool.true_or]
  exact if_pos trivial
theorem extract_size_le (s : ByteArray) (i j : Nat) : (s.extract i j).size ≤ s.size := by rw [ByteArray.size_extract]; omega
theorem refOf_text (s : ByteArray) (hs : s.size ≤ 8192) (acc : List S47) (hl : acc.length ≤ 8192) (p : Nat) (R : Option (List S47 × Int × Int)) : ∀ (d q k : Nat), d + q = s.size → p ≤ q → 2 * d + 60 ≤ k →
  (∀ k', 2 * (s.size - tEnd s q) + 60 ≤ k' → stylusref03_Of.l0 k' s (acc ++ [⟨1, 0, s.extract p (tEnd s q), p⟩]) 1 ((tEnd s q : Nat) : Int) = R) →
  stylusref03_Of.l0 k s (acc ++ [⟨1, 0, s.extract p q, p⟩]) 1 ((q : Nat) : Int) = R := by
 intro d
 induction d with
 | zero =>
  intro q k hd hp hk h
  have ht : tEnd s q = q := tEnd_stop s q (fun h => by omega)
  rw [ht] at h
  exact h k (by omega)
 | succ d ih =>
  intro q k hd hp hk h
  have hb := bt_range s q
  by_cases hpl : plainP (bt s (q : Int)) = true
  ·obtain ⟨_, _, _, e4⟩ := is_at _ hb.1 hb.2 20 (by omega)
   obtain ⟨n1, n2⟩ := e4 hpl
   obtain ⟨k, rfl⟩ : ∃ m, k = m + 1 + 1 := ⟨k - 2, by omega⟩
   rw [refOf_plain s _ 1 q (k + 1) (by omega) n1 n2 (by omega), hpl]
   rw [show (!true) = false from rfl, refOf_j1_on s hs acc _ q k (by omega) hl (Nat.le_trans (extract_size_le s p q) hs)]
   simp only
   rw [ext_snoc s p q hp]
   have hst := tEnd_step s q (by omega) hpl
   rw [hst] at h
   exact ih (q + 1) k (by omega) (by omega) (by omega) h
  ·have ht : tEnd s q = q := tEnd_stop s q (fun h => hpl h.2)
   rw [ht] at h
   exact h k (by omega)
theorem lexGo_step (s : ByteArray) (d at_ : Nat) (acc : List S47) (x : Spot) (hat : at_ < s.size) (hx : nextP (s.extract at_ s.size) at_ = x) (z : Nat) (h0 : x.e = 0) (hz : x.size = (z : Int)) :
  lexGo s (d + 1) at_ acc = lexGo s d (at_ + z) (acc ++ [x.l]) := by
 simp only [lexGo]
 rw [if_pos hat, hx, if_pos h0, hz, Int.toNat_natCast]
theorem lexGo_bad (s : ByteArray) (d at_ : Nat) (acc : List S47) (x : Spot) (hat : at_ < s.size) (hx : nextP (s.extract at_ s.size) at_ = x) (h0 : x.e ≠ 0) :
  lexGo s (d + 1) at_ acc = ([], (at_ : Int), x.e) := by
 simp only [lexGo]
 rw [if_pos hat, hx, if_neg h0]
theorem next_close (s : ByteArray) (p : Nat) (hp : p < s.size) (h : bt s (p : Int) = 125) : nextP (s.extract p s.size) p = ⟨⟨3, 0, ⟨#[]⟩, p⟩, 1, 0⟩ := by
 rw [nextP_at s p hp]
 have h1 : ¬ bt s (p : Int) = 123 := fun e => by rw [h] at e; exact absurd e (by decide)
 rw [if_neg h1, if_pos h]
theorem next_open (s : ByteArray) (p : Nat) (hp : p < s.size) (h : bt s (p : Int) = 123) : nextP (s.extract p s.size) p = openP (s.extract p s.size) p := by
 rw [nextP_at s p hp, if_pos h]
theorem next_text (s : ByteArray) (p : Nat) (hp : p < s.size) (h1 : bt s (p : Int) ≠ 123) (h2 : bt s (p : Int) ≠ 125) (h3 : plainP (bt s (p : Int)) = true) : p < tEnd s p ∧ nextP (s.extract p s.size) p = ⟨⟨1, 0, s.extract p (tEnd s p), p⟩, ((tEnd s p - p : Nat) : Int), 0⟩ := by
 have hst := tEnd_step s p hp h3
 have hle := tEnd_le s (p + 1) (by omega)
 have hlt : p < tEnd s p := by omega
 refine ⟨hlt, ?_⟩
 rw [nextP_at s p hp, if_neg h1, if_neg h2, if_neg (by omega)]
theorem next_bad (s : ByteArray) (p : Nat) (hp : p < s.size) (h1 : bt s (p : Int) ≠ 123) (h2 : bt s (p : Int) ≠ 125) (h3 : ¬ plainP (bt s (p : Int)) = true) : nextP (s.extract p s.size) p = ⟨⟨0, 0, ⟨#[]⟩, 0⟩, 0, 3⟩ := by
 rw [nextP_at s p hp, if_neg h1, if_neg h2, if_pos (tEnd_stop s p (fun h => h3 h.2))]
def openZ (s : ByteArray) (p : Nat) (x : ByteArray) : Nat := if p + x.size + 1 < s.size ∧ whiteP (bt s ((p + x.size + 1 : Nat) : Int)) = true then x.size + 2 else x.size + 1
theorem openP_some (s : ByteArray) (p : Nat) (hp : p < s.size) (x : ByteArray) (hn : openN (s.extract p s.size) = some x) :
  openP (s.extract p s.size) p = ⟨⟨2, letP x, ⟨#[]⟩, p⟩, ((openZ s p x : Nat) : Int), 0⟩ ∧ x ∈ namesL ∧ p + x.size + 1 ≤ s.size := by
 obtain ⟨hp1, hp2⟩ := openN_pref (s.extract p s.size) x hn
 have hsz : (s.extract p s.size).size = s.size - p := by rw [ByteArray.size_extract]; omega
 have hps := prefP_size hp1
 rw [ByteArray.size_extract, hsz] at hps
 refine ⟨?_, hp2, by omega⟩
 unfold openP openZ
 rw [hn]
 simp only
 rw [hsz]
 by_cases hlt : p + x.size + 1 < s.size
 ·have hbx : bt (s.extract p s.size) ((x.size + 1 : Nat) : Int) = bt s ((p + (x.size + 1) : Nat) : Int) := bt_extract s p s.size (Nat.le_refl _) (x.size + 1) (by omega)
  rw [hbx, show p + (x.size + 1) = p + x.size + 1 by omega]
  by_cases hw : whiteP (bt s ((p + x.size + 1 : Nat) : Int)) = true
  ·rw [if_pos ⟨by omega, hw⟩, if_pos ⟨hlt, hw⟩]; rfl
  ·rw [if_neg (fun h => hw h.2), if_neg (fun h => hw h.2)]; rfl
 ·rw [if_neg (fun h => by omega), if_neg (fun h => hlt h.1)]; rfl
theorem openP_none (s : ByteArray) (p : Nat) (hn : openN (s.extract p s.size) = none) : openP (s.extract p s.size) p = ⟨⟨0, 0, ⟨#[]⟩, 0⟩, 0, 2⟩ := by
 unfold openP; rw [hn]
theorem refOf_close (s : ByteArray) (acc : List S47) (f : Int) (p k : Nat) (hp : p < s.size) (hs : s.size ≤ 8192) (hl : acc.length ≤ 8192) (h : bt s (p : Int) = 125) :
  stylusref03_Of.l0 (k + 1) s acc f (p : Int) = stylusref03_Of.l0 k s (acc ++ [⟨3, 0, ⟨#[]⟩, p⟩]) 0 ((p + 1 : Nat) : Int) := by
 have q1 : ((p : Nat) : Int) < (s.size : Int) := Int.ofNat_lt.2 hp
 have q3 : acc.length < 3518437208883 := by omega
 have q4 : p < 9223372036854775807 := by omega
 conv => lhs; unfold stylusref03_Of.l0
 refine (if_pos q1).trans ?_
 refine (if_pos (Int.natCast_nonneg _)).trans ?_
 refine (if_pos h).trans ?_
 refine (if_pos q3).trans ?_
 rw [wrap_one q4]
theorem wrap_two {p z : Nat} (h : p ≤ 8192) (hz : z ≤ 8192) : wrap64 (wrap64 (((p : Nat) : Int) + (z : Int)) + 1) = ((p + z + 1 : Nat) : Int) := by
 unfold wrap64; omega
theorem refOf_open (s : ByteArray) (acc : List S47) (f : Int) (p k : Nat) (hp : p < s.size) (hs : s.size ≤ 8192) (hl : acc.length ≤ 8192) (h : bt s (p : Int) = 123) (hk : 34 ≤ k) (x : ByteArray) (hn : openN (s.extract p s.size) = some x) :
  stylusref03_Of.l0 (k + 1) s acc f (p : Int) = stylusref03_Of.l0 k s (acc ++ [⟨2, letP x, ⟨#[]⟩, p⟩]) 0 ((p + openZ s p x : Nat) : Int) := by
 obtain ⟨_, hx, hsz⟩ := openP_some s p hp x hn
 have q1 : ((p : Nat) : Int) < (s.size : Int) := Int.ofNat_lt.2 hp
 have q3 : acc.length < 3518437208883 := by omega
 have q4 : p + x.size + 1 < 9223372036854775807 := by omega
 have q5 : ¬ bt s (p : Int) = 125 := fun e => by rw [h] at e; exact absurd e (by decide)
 have w2 := wrap_two (p := p) (z := x.size) (by omega) (by omega)
 have hop := opens_f s (by omega) p hp k hk
 rw [hn] at hop
 conv => lhs; unfold stylusref03_Of.l0
 refine (if_pos q1).trans ?_
 refine (if_pos (Int.natCast_nonneg _)).trans ?_
 refine (if_neg q5).trans ?_
 refine (if_pos h).trans ?_
 rw [hop]
 refine (Option.bind_some _ _).trans ?_
 refine (if_neg (letP_ne x hx)).trans ?_
 refine (if_pos q3).trans ?_
 refine (Option.bind_some _ _).trans ?_
 rw [show (opensOut (some x)).2 = x from rfl, show (opensOut (some x)).1 = letP x from rfl, w2]
 unfold openZ
 by_cases hlt : p + x.size + 1 < s.size
 ·refine (if_pos (Int.ofNat_lt.2 hlt)).trans ?_
  refine (if_pos (Int.natCast_nonneg _)).trans ?_
  have hbr := bt_range s ((p + x.size + 1 : Nat) : Int)
  rw [(is_at _ hbr.1 hbr.2 20 (Nat.le_refl _)).2.1]
  refine (Option.bind_some _ _).trans ?_
  by_cases hw : whiteP (bt s ((p + x.size + 1 : Nat) : Int)) = true
  ·refine (if_pos hw).trans ?_
   have hz : p + (if p + x.size + 1 < s.size ∧ whiteP (bt s ((p + x.size + 1 : Nat) : Int)) = true then x.size + 2 else x.size + 1) = p + x.size + 1 + 1 := by rw [if_pos ⟨hlt, hw⟩]; omega
   rw [hz, wrap_one q4]
  ·refine (if_neg hw).trans ?_
   have hz : p + (if p + x.size + 1 < s.size ∧ whiteP (bt s ((p + x.size + 1 : Nat) : Int)) = true then x.size + 2 else x.size + 1) = p + x.size + 1 := by rw [if_neg (fun h => hw h.2)]; omega
   rw [hz]
 ·refine (if_neg (fun h => hlt (Int.ofNat_lt.1 h))).trans ?_
  have hz : p + (if p + x.size + 1 < s.size ∧ whiteP (bt s ((p + x.size + 1 : Nat) : Int)) = true then x.size + 2 else x.size + 1) = p + x.size + 1 := by rw [if_neg (fun h => hlt h.1)]; omega
  rw [hz]
theorem refOf_open0 (s : ByteArray) (acc : List S47) (f : Int) (p k : Nat) (hp : p < s.size) (hs : s.size ≤ 8192) (h : bt s (p : Int) = 123) (hk : 34 ≤ k) (hn : openN (s.extract p s.size) = none) :
  stylusref03_Of.l0 (k + 1) s acc f (p : Int) = some ([], (p : Int), 2) := by
 have q1 : ((p : Nat) : Int) < (s.size : Int) := Int.ofNat_lt.2 hp
 have q5 : ¬ bt s (p : Int) = 125 := fun e => by rw [h] at e; exact absurd e (by decide)
 have hop := opens_f s (by omega) p hp k hk
 rw [hn] at hop
 conv => lhs; unfold stylusref03_Of.l0
 refine (if_pos q1).trans ?_
 refine (if_pos (Int.natCast_nonneg _)).trans ?_
 refine (if_neg q5).trans ?_
 refine (if_pos h).trans ?_
 rw [hop]
 refine (Option.bind_some _ _).trans ?_
 exact if_pos rfl
theorem refOf_loop (s : ByteArray) (hs : s.size ≤ 8192) : ∀ (m at_ d k : Nat) (acc : List S47) (f : Int), s.size - at_ ≤ m → at_ ≤ s.size → s.size ≤ d + at_ → acc.length ≤ at_ → 2 * (s.size - at_) + 60 ≤ k →
  (f = 0 ∨ (f = 1 ∧ ¬ (at_ < s.size ∧ plainP (bt s (at_ : Int)) = true))) → stylusref03_Of.l0 k s acc f (at_ : Int) = some (lexGo s d at_ acc) := by
 intro m
 induction m with
 | zero =>
  intro at_ d k acc f hm ha hd hl hk hf
  obtain ⟨k, rfl⟩ : ∃ m, k = m + 1 := ⟨k - 1, by omega⟩
  obtain rfl : at_ = s.size := by omega
  unfold stylusref03_Of.l0
  refine (if_neg (by omega)).trans ?_
  cases d with
  | zero => rfl
  | succ d => simp only [lexGo]; rw [if_neg (by omega)]
 | succ m ih =>
  intro at_ d k acc f hm ha hd hl hk hf
  by_cases hat : at_ < s.size
  case neg => exact ih at_ d k acc f (by omega) ha hd hl hk hf
  obtain ⟨d, rfl⟩ : ∃ x, d = x + 1 := ⟨d - 1, by omega⟩
  obtain ⟨k, rfl⟩ : ∃ x, k = x + 1 + 1 := ⟨k - 2, by omega⟩
  have hl8 : acc.length ≤ 8192 := by omega
  have hk34 : 34 ≤ k + 1 := by omega
  by_cases h125 : bt s (at_ : Int) = 125
  ·rw [refOf_close s acc f at_ (k + 1) hat hs hl8 h125, lexGo_step s d at_ acc _ hat (next_close s at_ hat h125) 1 rfl rfl]
   exact ih (at_ + 1) d (k + 1) _ 0 (by omega) (by omega) (by omega) (by simp; omega) (by omega) (.inl rfl)
  ·by_cases h123 : bt s (at_ : Int) = 123
   ·cases hn : openN (s.extract at_ s.size) with
    | none =>
     rw [refOf_open0 s acc f at_ (k + 1) hat hs h123 hk34 hn, lexGo_bad s d at_ acc _ hat ((next_open s at_ hat h123).trans (openP_none s at_ hn)) (by decide)]
    | some x =>
     obtain ⟨g1, g2, g3⟩ := openP_some s at_ hat x hn
     have hz : 1 ≤ openZ s at_ x ∧ at_ + openZ s at_ x ≤ s.size := by
      unfold openZ
      split
      ·rename_i h; omega
      ·omega
     rw [refOf_open s acc f at_ (k + 1) hat hs hl8 h123 hk34 x hn, lexGo_step s d at_ acc _ hat ((next_open s at_ hat h123).trans g1) (openZ s at_ x) rfl rfl]
     exact ih (at_ + openZ s at_ x) d (k + 1) _ 0 (by omega) (by omega) (by omega) (by simp; omega) (by omega) (.inl rfl)
   ·rw [refOf_plain s acc f at_ (k + 1) hat h125 h123 (by omega)]
    by_cases hpl : plainP (bt s (at_ : Int)) = true
    ·obtain rfl : f = 0 := by
      rcases hf with h | h
      ·exact h
      ·exact absurd ⟨hat, hpl⟩ h.2
     obtain ⟨g1, g2⟩ := next_text s at_ hat h123 h125 hpl
     have hst := tEnd_step s at_ hat hpl
     have hle := tEnd_le s (at_ + 1) (by omega)
     rw [hpl, show (!true) = false from rfl, refOf_j1_first s hs acc at_ k hat hl8, lexGo_step s d at_ acc _ hat g2 (tEnd s at_ - at_) rfl rfl]
     rw [show at_ + (tEnd s at_ - at_) = tEnd s at_ by omega]
     have hstop : ¬ (tEnd s (at_ + 1) < s.size ∧ plainP (bt s ((tEnd s (at_ + 1) : Nat) : Int)) = true) := fun h => plainTo_out s s.size (at_ + 1) (by omega) h.1 h.2
     refine refOf_text s hs acc hl8 at_ _ (s.size - (at_ + 1)) (at_ + 1) k (by omega) (by omega) (by omega) (fun k' hk' => ?_)
     rw [← hst] at hstop hk' hle ⊢
     exact ih (tEnd s at_) d k' _ 1 (by omega) (by omega) (by omega) (by simp; omega) (by omega) (.inr ⟨rfl, hstop⟩)
    ·have hpf : plainP (bt s (at_ : Int)) = false := by simpa using hpl
     rw [hpf, show (!false) = true from rfl, lexGo_bad s d at_ acc _ hat (next_bad s at_ hat h123 h125 hpl) (by decide)]
     unfold stylusref03_Of.j1
     exact if_pos rfl
theorem refOf_f (s : ByteArray) (k : Nat) (hk : 2 * s.size + 60 ≤ k) : stylusref03_Of.f k s = some (lexP s) := by
 unfold stylusref03_Of.f
 by_cases h : s.size ≤ 8192
 ·rw [if_neg (by omega), lexP_go s h]
  exact refOf_loop s h s.size 0 s.size k [] 0 (by omega) (by omega) (by omega) (by simp) (by omega) (.inl rfl)
 ·rw [if_pos (by omega)]
  unfold lexP
  rw [if_pos (by omega)]
theorem allL_length (s : ByteArray) : ∀ d at_, (allL s d at_).length ≤ d
 | 0, _ => Nat.le_refl _
 | d + 1, at_ => by
  simp only [allL]
  split
  ·simp only [List.length_cons]
   split
   ·have := allL_length s d (at_ + (nextP (s.extract at_ s.size) at_).size.toNat); omega
   ·simp
  ·simp
theorem lexP_length (s : ByteArray) : (lexP s).1.length ≤ s.size := by
 unfold lexP
 split
 ·simp
 ·split
  ·simp only [lexes_length]; exact allL_length s s.size 0
  ·simp
theorem bt_app_left (A b : ByteArray) (j : Nat) (h : j < A.size) : bt (A ++ b) (j : Int) = bt A (j : Int) := by
 have h1 : (j : Int).toNat < (A ++ b).size := by rw [ByteArray.size_append, Int.toNat_natCast]; omega
 have h2 : (j : Int).toNat < A.size := by rw [Int.toNat_natCast]; exact h
 unfold bt
 rw [dif_pos h1, dif_pos h2]
 simp only [Int.toNat_natCast]
 rw [ByteArray.getElem_append_left h]
theorem bt_app_right (A b : ByteArray) (j : Nat) (h : j < b.size) : bt (A ++ b) ((A.size + j : Nat) : Int) = bt b (j : Int) := by
 have h1 : ((A.size + j : Nat) : Int).toNat < (A ++ b).size := by rw [ByteArray.size_append, Int.toNat_natCast]; omega
 have h2 : (j : Int).toNat < b.size := by rw [Int.toNat_natCast]; exact h
 unfold bt
 rw [dif_pos h1, dif_pos h2]
 simp only [Int.toNat_natCast]
 rw [ByteArray.getElem_append_right (Nat.le_add_right _ _)]
 simp only [Nat.add_sub_cancel_left]
end Go.Proofs.Ythcmfjpheanphaa.Pure
namespace Go.Proofs.Ythcmfjpheanphaa.Pr
open Go.RowKit Go.Proofs.YthcmfjpheanphaaW.PrintWords
def parseP (s : ByteArray) : List S56 × Int × Int :=
 if (lexP s).2.2 ≠ 0 then ([], (lexP s).2.1, (lexP s).2.2)
 else if (runP bld0 (lexP s).1).2.2 ≠ 0 then ([], (runP bld0 (lexP s).1).2.1, (runP bld0 (lexP s).1).2.2)
 else if (runP bld0 (lexP s).1).1.row ≠ [] then ([], s.size, 2)
 else ((runP bld0 (lexP s).1).1.t, 0, 0)
end Go.Proofs.Ythcmfjpheanphaa.Pr
namespace Go.Proofs.Ythcmfjpheanphaa.Pr
open Go.RowKit Go.Proofs.Ythcmfjpheanphaa.Pure Go.Proofs.YthcmfjpheanphaaW.PrintWords
inductive Lx (s : ByteArray) : Nat → List S47 → Prop
 | done : Lx s s.size []
 | more (p : Nat) (x : Spot) (z : Nat) (l : List S47) (hp : p < s.size) (hx : nextP (s.extract p s.size) p = x) (h0 : x.e = 0) (hz : x.size = (z : Int)) (hl : Lx s (p + z) l) : Lx s p (x.l :: l)
theorem Lx_spot {s : ByteArray} {p : Nat} (hp : p < s.size) (h0 : (nextP (s.extract p s.size) p).e = 0) : ∃ z : Nat, (nextP (s.extract p s.size) p).size = z ∧ 1 ≤ z ∧ p + z ≤ s.size := by
 have hok := nextP_ok (s.extract p s.size) p (by rw [ByteArray.size_extract]; omega) h0
 rw [ByteArray.size_extract] at hok
 exact ⟨(nextP (s.extract p s.size) p).size.toNat, by omega, by omega, by omega⟩
theorem Lx_go (s : ByteArray) : ∀ (d p : Nat) (acc : List S47), s.size ≤ d + p → p ≤ s.size → (lexGo s d p acc).2.2 = 0 → ∃ l, (lexGo s d p acc).1 = acc ++ l ∧ Lx s p l
 | 0, p, acc, hd, hp, _ => by
  obtain rfl : p = s.size := by omega
  exact ⟨[], by simp [lexGo], .done⟩
 | d + 1, p, acc, hd, hp, h => by
  by_cases hlt : p < s.size
  ·by_cases h0 : (nextP (s.extract p s.size) p).e = 0
   ·obtain ⟨z, hz, h1, h2⟩ := Lx_spot hlt h0
    rw [lexGo_step s d p acc _ hlt rfl z h0 hz] at h ⊢
    obtain ⟨l, hl, hx⟩ := Lx_go s d (p + z) _ (by omega) h2 h
    exact ⟨_, by rw [hl, List.append_assoc]; rfl, .more p _ z l hlt rfl h0 hz hx⟩
   ·rw [lexGo_bad s d p acc _ hlt rfl h0] at h
    exact absurd h h0
  ·obtain rfl : p = s.size := by omega
   simp only [lexGo]
   rw [if_neg hlt]
   exact ⟨[], by simp, .done⟩
theorem lexP_Lx {s : ByteArray} (h : (lexP s).2.2 = 0) : Lx s 0 (lexP s).1 ∧ s.size ≤ 8192 := by
 by_cases hs : s.size ≤ 8192
 ·rw [lexP_go s hs] at h ⊢
  obtain ⟨l, hl, hx⟩ := Lx_go s s.size 0 [] (by omega) (by omega) h
  rw [hl]
  exact ⟨hx, hs⟩
 ·unfold lexP at h
  rw [if_pos (by omega)] at h
  cases h
def LexOk (N : Nat) (x : S47) : Prop := (x.f0 = 1 ∨ x.f0 = 2 ∨ x.f0 = 3) ∧ 0 ≤ x.f1 ∧ x.f1 ≤ 255 ∧ x.f2.size ≤ N ∧ 0 ≤ x.f3 ∧ x.f3 ≤ N
theorem letP_range : ∀ n ∈ namesL, 0 ≤ letP n ∧ letP n ≤ 255 := by decide +kernel
theorem openN_mem {s n : ByteArray} (h : openN s = some n) : n ∈ namesL := by
 unfold openN at h
 exact List.mem_of_find?_eq_some h
theorem Lx_ok {s : ByteArray} {p : Nat} {l : List S47} (h : Lx s p l) : ∀ x ∈ l, LexOk s.size x := by
 induction h with
 | done => exact fun x hx => by cases hx
 | more p x z l hp hx h0 hz hl ih =>
  intro y hy
  rcases List.mem_cons.1 hy with rfl | hy
  ·by_cases hc : bt s (p : Int) = 125
   ·rw [next_close s p hp hc] at hx
    subst hx
    exact ⟨.inr (.inr rfl), by show (0 : Int) ≤ 0; omega, by show (0 : Int) ≤ 255; omega, Nat.zero_le _, by show (0 : Int) ≤ (p : Int); omega, by show (p : Int) ≤ _; omega⟩
   ·by_cases h1 : bt s (p : Int) = 123
    ·rw [next_open s p hp h1] at hx
     cases ho : openN (s.extract p s.size) with
     | none => rw [openP_none s p ho] at hx; subst hx; cases h0
     | some n =>
      unfold openP at hx
      rw [ho] at hx
      subst hx
      have := letP_range n (openN_mem ho)
      exact ⟨.inr (.inl rfl), this.1, this.2, Nat.zero_le _, by show (0 : Int) ≤ (p : Int); omega, by show (p : Int) ≤ _; omega⟩
    ·by_cases h3 : plainP (bt s (p : Int)) = true
     ·rw [(next_text s p hp h1 hc h3).2] at hx
      subst hx
      exact ⟨.inl rfl, by show (0 : Int) ≤ 0; omega, by show (0 : Int) ≤ 255; omega, by show (s.extract p (tEnd s p)).size ≤ _; rw [ByteArray.size_extract]; omega, by show (0 : Int) ≤ (p : Int); omega, by show (p : Int) ≤ _; omega⟩
     ·rw [next_bad s p hp h1 hc h3] at hx
      subst hx; cases h0
  ·exact ih y hy
theorem lexP_ok (s : ByteArray) (h : (lexP s).2.2 = 0) : (∀ x ∈ (lexP s).1, LexOk 8192 x) ∧ (lexP s).1.length ≤ 8192 := by
 obtain ⟨h1, h2⟩ := lexP_Lx h
 refine ⟨fun x hx => ?_, Nat.le_trans (lexP_length s) h2⟩
 obtain ⟨k1, k2, k3, k4, k5, k6⟩ := Lx_ok h1 x hx
 exact ⟨k1, k2, k3, by omega, k5, by omega⟩
end Go.Proofs.Ythcmfjpheanphaa.Pr
namespace Go.Proofs.Ythcmfjpheanphaa.Pr
open Go.RowKit Go.Maps Go.Proofs.YthcmfjpheanphaaW.PrintWords
attribute [local go_sem] Oper.semAt_some
theorem flat56_at (xs : List S56) : ∀ (j : Nat) (p : S56), xs[j]? = some p → ((flat56 xs).drop (j * 4)).take 4 = [.int .u8 p.f0, .string p.f1, .int .i64 p.f2, .int .i64 p.f3] := by
 induction xs with
 | nil => intro j p h; simp at h
 | cons x xs ih =>
  intro j p h
  cases j with
  | zero => simp at h; subst h; simp [flat56]
  | succ j =>
   have := ih j p (by simpa using h)
   rw [Nat.succ_mul]
   simp only [flat56, List.flatMap_cons] at this ⊢
   rw [show ∀ l : List Value, (([.int .u8 x.f0, .string x.f1, .int .i64 x.f2, .int .i64 x.f3] : List Value) ++ l).drop (j * 4 + 4) = l.drop (j * 4) from fun l => rfl]
   exact this
theorem own_R56 {w : World} {base : Nat} {v : Value} {xs : List S56} (h : w.ownsRow base 56 4 v xs.length (flat56 xs)) (b' : Nat) (hb : b' ≤ base) : Kd.R k56 56 w b' (fun _ => True) v xs := by
 refine Kd.R_lower (base := base) ⟨fun _ _ => trivial, flat56 xs, h, flat56_length xs, fun j p hp => ?_⟩ hb
 have := flat56_at xs j p hp
 show k56.M _ _ _ _ (((flat56 xs).drop (j * 4)).take 4)
 rw [this]
 exact k56_mkM _ _ _ _
theorem R47_keep {w w1 : World} {base : Nat} {v : Value} {xs : List S47} (h : Kd.R k47 47 w base (fun _ => True) v xs) (hk : KeepK w w1) : Kd.R k47 47 w1 base (fun _ => True) v xs := by
 refine Kd.R_mono (Kd.R_move (Kd.R_bound h) fun k hk' => ?_) fun _ _ => trivial
 obtain ⟨_, _, _, q, hq, cells, hc⟩ := hk'
 have hq' : q = 47 := by
  have e : (k47.E : List Nat) = [] := rfl
  rw [e] at hq
  simpa using hq
 subst hq'
 rw [hc]
 exact hk _ _ hc rfl
def stepF (k : Int) : Nat := if k = 1 then 92 else if k = 2 then 93 else 94
theorem step_calls (B0 g m : Nat) (vr vt : Value) (s : Bld) (x : S47) (w : World) (hx : LexOk 1000000 x) (hB0 : B0 ≤ w.heap.size) (hn : s.row.length ≤ 999999) (hnt : s.t.length ≤ 999999) (hkb : KindsB s.row) (hpos : PosIn s) (hch : RChain s.row) (hb : BAt w B0 g m vr vt s) :
  Calls Try.prog (stepF x.f0) #[.pointer (some ⟨g, 0, none⟩), .agg #[.int .i64 x.f0, .int .u8 x.f1, .string x.f2, .int .i64 x.f3]] w fun e w' =>
   e = .returned (.tuple #[.int .i64 (stepP s x).2.1, .int .i64 (stepP s x).2.2]) ∧ StepTo B0 g m (stepP s x).1 w w' := by
 obtain ⟨h0, h1, h2, h3, _⟩ := hx
 unfold stepP stepF
 by_cases e1 : x.f0 = 1
 ·simp only [if_pos e1]
  exact texts_calls B0 g m vr vt s x w hB0 h3 hn hnt hkb hb
 ·simp only [if_neg e1]
  by_cases e2 : x.f0 = 2
  ·simp only [if_pos e2]
   exact opens_calls B0 g m vr vt s x w hB0 h1 h2 hn hnt hkb hb
  ·simp only [if_neg e2]
   exact shuts_calls B0 g m vr vt s x w hB0 hn hnt hkb hpos hch hb
structure BOk (s : Bld) (n : Nat) : Prop where
 row : s.row.length ≤ n
 t : s.t.length ≤ n
 kinds : KindsB s.row
 pos : PosIn s
 chain : RChain s.row
theorem kinds_modB {r : List Opn} (h : KindsB r) (f : Opn → Opn) (hf : ∀ o, (f o).kind = o.kind) (j : Nat) : KindsB (r.modify j f) := by
 intro o ho
 obtain ⟨y, hy, rfl | rfl⟩ := mem_modify ho
 ·exact h _ hy
 ·rw [hf]; exact h y hy
theorem kindsB_mark {r : List Opn} (h : KindsB r) (k : Int) : KindsB (markP r k) := by
 unfold markP
 split
 ·split
  ·exact kinds_modB h noteF (fun _ => rfl) _
  ·exact h
 ·split
  ·exact kinds_modB h pastF (fun _ => rfl) _
  ·exact h
theorem stepP_ok {s : Bld} {n : Nat} (h : BOk s n) {x : S47} (hx : LexOk 1000000 x) : BOk (stepP s x).1 (n + 1) := by
 obtain ⟨h1, h2, h3, h4, h5⟩ := h
 have hl : (stepP s x).1.row.length ≤ n + 1 ∧ (stepP s x).1.t.length ≤ n + 1 ∧ KindsB (stepP s x).1.row := by
  unfold stepP
  split
  ·unfold textsP
   split
   ·split
    ·exact ⟨by simp [kidP_length]; omega, by simp; omega, kinds_modB (kindsB_kid h3) (textF x.f2.size) (fun _ => rfl) _⟩
    ·exact ⟨by simp [kidP_length]; omega, by simp; omega, kindsB_kid h3⟩
   ·split <;> exact ⟨by show s.row.length ≤ _; omega, by show s.t.length ≤ _; omega, h3⟩
  ·split
   ·unfold opensP
    split
    ·refine ⟨by simp [kidP_length, markP_length]; omega, by simp; omega, fun o ho => ?_⟩
     simp only [List.mem_append, List.mem_singleton] at ho
     rcases ho with ho | rfl
     ·exact kindsB_kid (kindsB_mark h3 _) o ho
     ·exact ⟨hx.2.1, hx.2.2.1⟩
    ·exact ⟨by show s.row.length ≤ _; omega, by show s.t.length ≤ _; omega, h3⟩
   ·unfold shutsP
    split
    ·exact ⟨by show s.row.length ≤ _; omega, by show s.t.length ≤ _; omega, h3⟩
    ·have hd : KindsB s.row.dropLast := fun o ho => h3 o (List.dropLast_subset _ ho)
     have hwl : ∀ o, ((wholeP s.row.dropLast o).1).length = s.row.dropLast.length := fun o => by
      unfold wholeP
      split
      ·rfl
      ·split
       ·split
        ·split
         ·exact List.length_modify ..
         ·rfl
        ·rfl
       ·rfl
     refine ⟨by show ((wholeP s.row.dropLast _).1).length ≤ _; rw [hwl, List.length_dropLast]; omega, by simp; omega, ?_⟩
     show KindsB (wholeP s.row.dropLast (topP s.row)).1
     unfold wholeP
     split
     ·exact hd
     ·split
      ·split
       ·split
        ·exact kinds_modB hd (colsF (topP s.row).kids) (fun _ => rfl) _
        ·exact hd
       ·exact hd
      ·exact hd
 exact ⟨hl.1, hl.2.1, hl.2.2, stepP_pos s x h4, stepP_chain s x h5⟩
theorem bld0_ok : BOk bld0 0 := ⟨Nat.le_refl _, Nat.le_refl _, (by intro o ho; cases ho), (by intro o ho; cases ho), (by intro i hi; simp [bld0] at hi)⟩
theorem step_keep {B0 g m : Nat} {s : Bld} {W4 W : World} {b : Bool} (h : cond b (StepTo B0 g m s W4 W) (W = W4)) {i : Nat} {o : Obj} (ho : W4.heap[i]? = some o) (hn : isBT o = false) : W.heap[i]? = some o := by
 cases b
 ·obtain rfl : W = W4 := h
  exact ho
 ·obtain ⟨_, _, _, _, hk⟩ := (show StepTo B0 g m s W4 W from h)
  exact hk _ _ ho hn
def ParseTo (a0 : ByteArray) (w : World) (e : Ending) (w' : World) : Prop := ∃ v0_ : Value, e = .returned (.tuple #[v0_, .int .i64 (parseP a0).2.1, .int .i64 (parseP a0).2.2]) ∧ Kd.R k56 56 w' w.heap.size (fun _ => True) v0_ (parseP a0).1 ∧ Below w.heap.size w w'
theorem parse_bad {a0 : ByteArray} {l : List S47} {a e : Int} (h : lexP a0 = (l, a, e)) (he : e ≠ 0) : parseP a0 = ([], a, e) := by
 unfold parseP
 rw [h]
 simp only
 rw [if_pos he]
theorem parse_run {a0 : ByteArray} {l : List S47} {a : Int} (h : lexP a0 = (l, a, 0)) : parseP a0 = if (runP bld0 l).2.2 ≠ 0 then ([], (runP bld0 l).2.1, (runP bld0 l).2.2) else if (runP bld0 l).1.row ≠ [] then ([], a0.size, 2) else ((runP bld0 l).1.t, 0, 0) := by
 unfold parseP
 rw [h]
 simp only
 rw [if_neg (by decide)]
set_option pp.maxSteps 3000 in
set_option maxRecDepth 100000 in
set_option maxHeartbeats 8000000 in
theorem parse_calls (a0 : ByteArray) (w : World) (hs : a0.size ≤ 140737488351232) : Calls Try.prog 53 #[.string a0] w (ParseTo a0 w) := by
 obtain ⟨⟨l, a, e⟩, hl⟩ : ∃ r, lexP a0 = r := ⟨_, rfl⟩
 have hlex := fun W => lex_Of.calls a0 l a e W (by unfold lex_Of.f; rw [hl])
 have HL := Lib.hid hlex
 have HLP := Lib.hid hl
 clear hlex hl
 by_cases he : e = 0
 ·subst he
  have hP := parse_run HLP.out
  have HP := Lib.hid hP
  obtain ⟨hok, hlen⟩ := lexP_ok a0 (by rw [HLP.out])
  rw [HLP.out] at hok hlen
  simp only at hok hlen
  have HOK := Lib.hid (fun x hx => show LexOk 1000000 x from by
   obtain ⟨k1, k2, k3, k4, k5, k6⟩ := hok x hx
   exact ⟨k1, k2, k3, by omega, k5, by omega⟩)
  clear hP hok
  go_enter Try.func53, Try.ntmps53
  go_wp2_with fail
  refine (HL.out _).mono ?_
  rintro e w1 ⟨v, rfl, hR, hb1⟩
  obtain ⟨A, c, rfl, hc, hC⟩ := Kd.R_reads hR
  have HR := Lib.hid hR
  have HB1 := Lib.hid hb1
  clear hR hb1 hC
  go_wp2_with fail
  refine (begin_calls w1).mono ?_
  rintro e w2 ⟨g, m, rfl, hb, hb2⟩
  have HB := Lib.hid hb
  have HB2 := Lib.hid hb2
  clear hb hb2
  go_wp2_with fail
  have hW3 : Below w2.heap.size w2 (w2.alloc (.cells #[.nilFunc, .func (.func 92) #[.pointer (some ⟨g, 0, none⟩)] #[], .func (.func 93) #[.pointer (some ⟨g, 0, none⟩)] #[], .func (.func 94) #[.pointer (some ⟨g, 0, none⟩)] #[]] 98)) := (Below.refl _ _).alloc (Nat.le_refl _) _
  have hS3 := blk_new w2 (.cells #[.nilFunc, .func (.func 92) #[.pointer (some ⟨g, 0, none⟩)] #[], .func (.func 93) #[.pointer (some ⟨g, 0, none⟩)] #[], .func (.func 94) #[.pointer (some ⟨g, 0, none⟩)] #[]] 98)
  obtain ⟨W3, hW3'⟩ : ∃ W3, w2.alloc (.cells #[.nilFunc, .func (.func 92) #[.pointer (some ⟨g, 0, none⟩)] #[], .func (.func 93) #[.pointer (some ⟨g, 0, none⟩)] #[], .func (.func 94) #[.pointer (some ⟨g, 0, none⟩)] #[]] 98) = W3 := ⟨_, rfl⟩
  rw [hW3'] at hW3 hS3 ⊢
  clear hW3'
  have HB3 := Lib.hid (HB.out.below hW3)
  have HS3 := Lib.hid hS3
  have HR3 := Lib.hid (R47_keep HR.out (KeepK.below (HB2.out.trans (hW3.mono HB2.out.size))))
  have HL3 := Lib.hid (HB1.out.trans ((HB2.out.trans (hW3.mono HB2.out.size)).mono HB1.out.size))
  have hz3 : w1.heap.size ≤ W3.heap.size := Nat.le_trans HB2.out.size hW3.size
  have HZ3 := Lib.hid hz3
  have HZ1 := Lib.hid HB1.out.size
  clear hW3 hS3 HR HB1 HB2 HB
  go_loopw [32] (fun v wr => ∃ (k : Nat) (s : Bld) (vr vt : Value), k ≤ l.length ∧ v = .int .i64 k ∧ BAt wr w1.heap.size g m vr vt s ∧ BOk s k ∧ Below w1.heap.size W3 wr ∧ KeepK W3 wr ∧ runP bld0 l = runP s (l.drop k)) (fun v _ => l.length - (intOf v).toNat)
  case atStart => exact ⟨0, bld0, _, _, Nat.zero_le _, rfl, HB3.out, bld0_ok, Below.refl _ _, KeepK.refl _, rfl⟩
  case round =>
   obtain ⟨k, s, vr, vt, hk, rfl, hb, hbk, hlow, hkeep, hrun⟩ := hrel
   have HBA := Lib.hid hb
   have HBK := Lib.hid hbk
   have HLO := Lib.hid hlow
   have HKE := Lib.hid hkeep
   have HRU := Lib.hid hrun
   clear hb hbk hlow hkeep hrun
   by_cases hlt : k < l.length
   ·have hlt1 : (k : Int) < (l.length : Int) := by omega
    have hRw := R47_keep HR3.out HKE.out
    obtain ⟨A', c', he', _, hC⟩ := Kd.R_reads hRw
    simp only [Value.slice.injEq] at he'
    obtain ⟨rfl, -, rfl⟩ := he'
    obtain ⟨ad, e1, q0, q1, q2, q3⟩ := at_T47 hC k (by omega) (by omega)
    subst e1
    simp only [Int.toNat_natCast] at q0 q1 q2 q3
    have hxl : l[k]? = some (rd_T47 l k) := by
     unfold rd_T47
     rw [Int.toNat_natCast, List.getD_eq_getElem?_getD, List.getElem?_eq_getElem hlt]
     rfl
    have hxok := HOK.out _ (List.mem_of_getElem? hxl)
    have hdrop : l.drop k = rd_T47 l k :: l.drop (k + 1) := by
     rw [List.drop_eq_getElem_cons hlt]
     rw [List.getElem?_eq_getElem hlt] at hxl
     rw [Option.some.inj hxl]
    have hst := HRU.out
    rw [hdrop] at hst
    have hst2 : runP bld0 l = if (stepP s (rd_T47 l k)).2.2 = 0 then runP (stepP s (rd_T47 l k)).1 (l.drop (k + 1)) else stepP s (rd_T47 l k) := hst
    clear hst hdrop hxl hRw hC
    generalize rd_T47 l k = x at *
    have hstep := fun W (hW : BAt W w1.heap.size g m vr vt s) (hz : w1.heap.size ≤ W.heap.size) => step_calls w1.heap.size g m vr vt s x W hxok hz (by have := HBK.out.row; omega) (by have := HBK.out.t; omega) HBK.out.kinds HBK.out.pos HBK.out.chain hW
    have hok2 := stepP_ok HBK.out hxok
    have hf := hxok.1
    obtain ⟨f0, f1, f2, f3⟩ := x
    simp only at hstep q0 q1 q2 q3 hf
    obtain ⟨⟨s', ra, re⟩, hR⟩ : ∃ r, stepP s ⟨f0, f1, f2, f3⟩ = r := ⟨_, rfl⟩
    simp only [hR] at hstep hst2 hok2
    have HST := Lib.hid hstep
    have HS2 := Lib.hid hst2
    have HOK2 := Lib.hid hok2
    clear hstep hst2 hR hok2 hxok
    obtain ⟨W4, hW4⟩ : ∃ W4, (wr.alloc (.cells #[.int .i64 f0, .int .u8 f1, .string f2, .int .i64 f3] 47)).drew = W4 := ⟨_, rfl⟩
    have hb4 : Below wr.heap.size wr W4 := by rw [← hW4]; exact below_drew1 ((Below.refl _ _).alloc (Nat.le_refl _) _)
    have hX4 : W4.heap[wr.heap.size]? = some (.cells #[.int .i64 f0, .int .u8 f1, .string f2, .int .i64 f3] 47 (0, 0)) := by rw [← hW4]; exact blk_new wr _
    have hS4 : W4.heap[w2.heap.size]? = _ := blk_below (HKE.out _ _ HS3.out rfl) hb4
    have HX4 := Lib.hid hX4
    have HS4 := Lib.hid hS4
    have HB4 := Lib.hid hb4
    clear hX4 hS4 hb4
    rcases hf with rfl | rfl | rfl
    all_goals
     go_wp2
     refine Go.Mix.region_mix' (fun b W => cond b (StepTo w1.heap.size g m s' W4 W) (W = W4)) 5 11 [] (by kernel_rfl) (by kernel_rfl) (fun _ _ _ _ _ h => h) hW4 ?_
     clear hW4 q0 q1 q2 q3
     refine Go.Mix.seqE_nil ?_
     repeat
      apply Go.Mix.seqM_cons (by rfl) (by rfl)
      focus
       intro b W hS
       have hX : W.heap[wr.heap.size]? = _ := step_keep hS HX4.out rfl
       have hZ : W.heap[w2.heap.size]? = _ := step_keep hS HS4.out rfl
       have x0 := blk_cell hX 0
       have x1 := blk_cell hX 1
       have x2 := blk_cell hX 2
       have x3 := blk_cell hX 3
       have s1 := blk_cell hZ 1
       have s2 := blk_cell hZ 2
       have s3 := blk_cell hZ 3
       simp only [List.getElem?_toArray, List.getElem?_cons_succ, List.getElem?_cons_zero] at x0 x1 x2 x3 s1 s2 s3
       have HS := Lib.hid hS
       clear hS hX hZ
       go_wp2
       exact Go.Det.AtEnd.mk HS.out
     apply Go.Mix.seqM_main (by rfl)
     focus
      intro W hS
      obtain rfl : W = W4 := hS
      go_wp2_with fail
      refine (HST.out W (HBA.out.below HB4.out) (Nat.le_trans (Nat.le_trans HZ3.out HLO.out.size) HB4.out.size)).mono ?_
      rintro e W5 ⟨rfl, hst⟩
      have HSTT := Lib.hid hst
      clear hst
      go_wp2
      exact Go.Det.AtEnd.mk HSTT.out
     repeat
      apply Go.Mix.seqM_cons (by rfl) (by rfl)
      focus
       intro b W hS
       have HS := Lib.hid hS
       clear hS
       go_wp2
       exact Go.Det.AtEnd.mk HS.out
     refine Go.Mix.seqM_nil ?_
     intro W5 hW5
     obtain ⟨vr5, vt5, hb5, hl5, hk5⟩ := (show StepTo w1.heap.size g m s' W4 W5 from hW5)
     clear hW5
     simp only [List.drop_succ_cons, List.drop_zero, Exit.then]
     have HB5 := Lib.hid hb5
     have HL5 := Lib.hid ((HLO.out.trans (below_low HB4.out (Nat.le_trans HZ3.out HLO.out.size))).trans hl5)
     have HK5 := Lib.hid ((HKE.out.trans (KeepK.below HB4.out)).trans hk5)
     clear hb5 hl5 hk5
     by_cases hre : re = 0
     ·have hreb : (re != 0) = false := by rw [hre]; rfl
      have HRE := Lib.hid hre
      clear hre
      go_wp2
      go_roundw
      case rel => exact ⟨k + 1, s', vr5, vt5, by omega, by go_num, HB5.out, HOK2.out, HL5.out, HK5.out, by rw [HS2.out, if_pos HRE.out]⟩
      case measure => simp [intOf]; omega
     ·have hreb : (re != 0) = true := bne_iff_ne.2 hre
      have hPP : parseP a0 = ([], ra, re) := by
       rw [HP.out, HS2.out, if_neg hre]
       simp only
       rw [if_pos hre]
      have HPP := Lib.hid hPP
      have HRE := Lib.hid hre
      clear hre hPP
      go_wp2
      go_ret3
      refine ⟨_, by rw [HPP.out]; rfl, by rw [HPP.out]; exact Kd.R_nil _ _ _ _ _, ?_⟩
      exact HL3.out.trans (HL5.out.mono HZ1.out)
   ·obtain rfl : k = l.length := by omega
    have hlt1 : ¬ (l.length : Int) < (l.length : Int) := by omega
    have hend : runP bld0 l = (s, 0, 0) := by rw [HRU.out, List.drop_length]; rfl
    have hPP : parseP a0 = if s.row ≠ [] then ([], (a0.size : Int), 2) else (s.t, 0, 0) := by rw [HP.out, hend]; rfl
    obtain ⟨Ar, cr, rfl⟩ := own_slice HBA.out.row
    obtain ⟨At, ct, rfl⟩ := own_slice HBA.out.t
    have d0 := blk_cell HBA.out.blk 0
    have d1 := blk_cell HBA.out.blk 1
    simp only [List.getElem?_toArray, List.getElem?_cons_succ, List.getElem?_cons_zero] at d0 d1
    by_cases h0 : s.row = []
    ·have h00 : s.row.length = 0 := by rw [h0]; rfl
     have hPP2 : parseP a0 = (s.t, 0, 0) := by rw [hPP, if_neg (by simpa using h0)]
     have HPP := Lib.hid hPP2
     rw [h00] at d0
     clear hPP hPP2 h0 h00 hend
     go_wp2
     go_ret3
     refine ⟨_, by rw [HPP.out]; rfl, ?_, HL3.out.trans (HLO.out.mono HZ1.out)⟩
     rw [HPP.out]
     exact own_R56 HBA.out.t _ HZ1.out
    ·have hp : (0 : Int) < (s.row.length : Int) := by have := List.length_pos_iff.2 h0; omega
     have hPP2 : parseP a0 = ([], (a0.size : Int), 2) := by rw [hPP, if_pos h0]
     have HPP := Lib.hid hPP2
     clear hPP hPP2 h0 hend
     go_wp2
     go_ret3
     refine ⟨_, by rw [HPP.out]; rfl, by rw [HPP.out]; exact Kd.R_nil _ _ _ _ _, HL3.out.trans (HLO.out.mono HZ1.out)⟩
 ·have heb : (e != 0) = true := bne_iff_ne.2 he
  have HPP := Lib.hid (parse_bad HLP.out he)
  clear he
  go_enter Try.func53, Try.ntmps53
  go_wp2_with fail
  refine (HL.out _).mono ?_
  rintro e' w1 ⟨v, rfl, hR, hb1⟩
  have HB1 := Lib.hid hb1
  clear hR hb1
  go_wp2
  go_ret3
  exact ⟨_, by rw [HPP.out]; rfl, by rw [HPP.out]; exact Kd.R_nil _ _ _ _ _, HB1.out⟩
def tree_Parse.f (a0 : ByteArray) : Option (List S56 × Int × Int) := if a0.size ≤ 140737488351232 then some (parseP a0) else none
theorem tree_Parse.calls (a0 : ByteArray) (r1 : List S56) (r2 r3 : Int) (w : World) (h : tree_Parse.f a0 = some (r1, r2, r3)) :
  Calls Try.prog 53 #[.string a0] w fun e w' => ∃ v0_ : Value, e = .returned (.tuple #[v0_, .int .i64 r2, .int .i64 r3]) ∧ Kd.R k56 56 w' w.heap.size (fun _ => True) v0_ r1 ∧ Below w.heap.size w w' := by
 unfold tree_Parse.f at h
 by_cases hs : a0.size ≤ 140737488351232
 ·rw [if_pos hs] at h
  have h1 : parseP a0 = (r1, r2, r3) := Option.some.inj h
  refine (parse_calls a0 w hs).mono ?_
  rintro e w' ⟨v, he, hR, hb⟩
  rw [h1] at he hR
  exact ⟨v, he, hR, hb⟩
 ·rw [if_neg hs] at h
  cases h
end Go.Proofs.Ythcmfjpheanphaa.Pr
namespace Go.Proofs.Ythcmfjpheanphaa.Pr
open Go.RowKit Go.Proofs.YthcmfjpheanphaaW.PrintWords Go.Proofs.YthcmfjpheanphaaW.PrintLast Go.Proofs.YthcmfjpheanphaaW.PrintMore
attribute [local go_sem] max2_int min2_int max_two min_two max_three min_three max_four min_four
mutual
def tree_events.l0 : Nat → List (S47) → List Int → List (S56) → Int → Int → Option ((List (S47)))
 | 0, _, _, _, _, _ => none
 | k + 1, x3, x4, x7, x8, x9 => if x9 < x8 then (if 0 ≤ x9 then (if x9 < (x7.length : Int) then (tree_events.l1 k x3 x4 x9 x7 x8 x9 ((rd_T56 x7 x9).f0) ((rd_T56 x7 x9).f1) ((rd_T56 x7 x9).f2) ((rd_T56 x7 x9).f3)) else (none)) else (none)) else (tree_events.l2 k x3 (x4.length : Int) 0)
def tree_events.l1 : Nat → List (S47) → List Int → Int → List (S56) → Int → Int → Int → ByteArray → Int → Int → Option ((List (S47)))
 | 0, _, _, _, _, _, _, _, _, _, _ => none
 | k + 1, x3, x4, x5, x7, x8, x9, x236000, x236001, x236002, x236003 => if (x4.length : Int) > 0 then (if 0 ≤ (wrap64 ((x4.length : Int) - 1)) then (if (wrap64 ((x4.length : Int) - 1)) < (x4.length : Int) then (if (rd x4 (wrap64 ((x4.length : Int) - 1))) = x5 then ((some (([(⟨3, 0, (⟨#[]⟩ : ByteArray), 0⟩ : S47)] : List (S47)) : List (S47))).bind fun y237 => (if x3.length + y237.length < 3518437208883 then (if (wrap64 ((x4.length : Int) - 1)) ≤ (x4.length : Int) then (tree_events.l1 k (x3 ++ y237) (x4.take ((wrap64 ((x4.length : Int) - 1)) : Int).toNat) x5 x7 x8 x9 x236000 x236001 x236002 x236003) else (none)) else (none))) else (if x236000 = 46 then ((some (([(⟨1, 0, x236001, 0⟩ : S47)] : List (S47)) : List (S47))).bind fun y246 => (if x3.length + y246.length < 3518437208883 then (tree_events.l0 k (x3 ++ y246) x4 x7 x8 (wrap64 (x9 + 1))) else (none))) else ((some (([(⟨2, x236000, (⟨#[]⟩ : ByteArray), 0⟩ : S47)] : List (S47)) : List (S47))).bind fun y252 => (if x3.length + y252.length < 3518437208883 then ((some (([wrap64 (x5 + x236003)] : List Int) : List Int)).bind fun y258 => (if x4.length + y258.length < 17592186044416 then (tree_events.l0 k (x3 ++ y252) (x4 ++ y258) x7 x8 (wrap64 (x9 + 1))) else (none))) else (none))))) else (none)) else (none)) else (if x236000 = 46 then ((some (([(⟨1, 0, x236001, 0⟩ : S47)] : List (S47)) : List (S47))).bind fun y264 => (if x3.length + y264.length < 3518437208883 then (tree_events.l0 k (x3 ++ y264) x4 x7 x8 (wrap64 (x9 + 1))) else (none))) else ((some (([(⟨2, x236000, (⟨#[]⟩ : ByteArray), 0⟩ : S47)] : List (S47)) : List (S47))).bind fun y270 => (if x3.length + y270.length < 3518437208883 then ((some (([wrap64 (x5 + x236003)] : List Int) : List Int)).bind fun y276 => (if x4.length + y276.length < 17592186044416 then (tree_events.l0 k (x3 ++ y270) (x4 ++ y276) x7 x8 (wrap64 (x9 + 1))) else (none))) else (none))))
def tree_events.l2 : Nat → List (S47) → Int → Int → Option ((List (S47)))
 | 0, _, _, _ => none
 | k + 1, x3, x60, x61 => if x61 < x60 then ((some (([(⟨3, 0, (⟨#[]⟩ : ByteArray), 0⟩ : S47)] : List (S47)) : List (S47))).bind fun y282 => (if x3.length + y282.length < 3518437208883 then (tree_events.l2 k (x3 ++ y282) x60 (wrap64 (x61 + 1))) else (none))) else (some x3)
end
def tree_events.f (k : Nat) (l0 : List (S56)) : Option ((List (S47))) := tree_events.l0 k ([] : List (S47)) ([] : List Int) l0 (l0.length : Int) 0
theorem tree_events.mono_l : ∀ k, (∀ y0 y1 y2 y3 y4, LeO (tree_events.l0 k y0 y1 y2 y3 y4) (tree_events.l0 (k + 1) y0 y1 y2 y3 y4)) ∧ (∀ y0 y1 y2 y3 y4 y5 y6 y7 y8 y9, LeO (tree_events.l1 k y0 y1 y2 y3 y4 y5 y6 y7 y8 y9) (tree_events.l1 (k + 1) y0 y1 y2 y3 y4 y5 y6 y7 y8 y9)) ∧ (∀ y0 y1 y2, LeO (tree_events.l2 k y0 y1 y2) (tree_events.l2 (k + 1) y0 y1 y2))
 | 0 => ⟨fun _ _ _ _ _ r h => by simp [tree_events.l0] at h, fun _ _ _ _ _ _ _ _ _ _ r h => by simp [tree_events.l1] at h, fun _ _ _ r h => by simp [tree_events.l2] at h⟩
 | k + 1 => by
  obtain ⟨ih0, ih1, ih2⟩ := tree_events.mono_l k
  refine ⟨?_, ?_, ?_⟩
  ·intro y0 y1 y2 y3 y4
   unfold tree_events.l0
   repeat' first
   | (with_reducible exact ih0 _ _ _ _ _)
   | (with_reducible exact ih1 _ _ _ _ _ _ _ _ _ _)
   | (with_reducible exact ih2 _ _ _)
   | (with_reducible exact LeO.refl _)
   | (with_reducible exact LeO.none _)
   | (with_reducible refine LeO.ite ?_ ?_)
   | (with_reducible refine LeO.bind ?_ (fun _ => ?_))
   | exact ih0 _ _ _ _ _
   | exact ih1 _ _ _ _ _ _ _ _ _ _
   | exact ih2 _ _ _
   | exact LeO.none _
   | refine LeO.ite ?_ ?_
   | refine LeO.bind ?_ (fun _ => ?_)
  ·intro y0 y1 y2 y3 y4 y5 y6 y7 y8 y9
   unfold tree_events.l1
   repeat' first
   | (with_reducible exact ih0 _ _ _ _ _)
   | (with_reducible exact ih1 _ _ _ _ _ _ _ _ _ _)
   | (with_reducible exact ih2 _ _ _)
   | (with_reducible exact LeO.refl _)
   | (with_reducible exact LeO.none _)
   | (with_reducible refine LeO.ite ?_ ?_)
   | (with_reducible refine LeO.bind ?_ (fun _ => ?_))
   | exact ih0 _ _ _ _ _
   | exact ih1 _ _ _ _ _ _ _ _ _ _
   | exact ih2 _ _ _
   | exact LeO.none _
   | refine LeO.ite ?_ ?_
   | refine LeO.bind ?_ (fun _ => ?_)
  ·intro y0 y1 y2
   unfold tree_events.l2
   repeat' first
   | (with_reducible exact ih0 _ _ _ _ _)
   | (with_reducible exact ih1 _ _ _ _ _ _ _ _ _ _)
   | (with_reducible exact ih2 _ _ _)
   | (with_reducible exact LeO.refl _)
   | (with_reducible exact LeO.none _)
   | (with_reducible refine LeO.ite ?_ ?_)
   | (with_reducible refine LeO.bind ?_ (fun _ => ?_))
   | exact ih0 _ _ _ _ _
   | exact ih1 _ _ _ _ _ _ _ _ _ _
   | exact ih2 _ _ _
   | exact LeO.none _
   | refine LeO.ite ?_ ?_
   | refine LeO.bind ?_ (fun _ => ?_)
theorem tree_events.mono : ∀ a0 k, LeO (tree_events.f k a0) (tree_events.f (k + 1) a0) := by
 intro a0 k
 obtain ⟨ih0, ih1, ih2⟩ := tree_events.mono_l k
 unfold tree_events.f
 repeat' first
   | (with_reducible exact ih0 _ _ _ _ _)
   | (with_reducible exact ih1 _ _ _ _ _ _ _ _ _ _)
   | (with_reducible exact ih2 _ _ _)
   | (with_reducible exact LeO.refl _)
   | (with_reducible exact LeO.none _)
   | (with_reducible refine LeO.ite ?_ ?_)
   | (with_reducible refine LeO.bind ?_ (fun _ => ?_))
   | exact ih0 _ _ _ _ _
   | exact ih1 _ _ _ _ _ _ _ _ _ _
   | exact ih2 _ _ _
   | exact LeO.none _
   | refine LeO.ite ?_ ?_
   | refine LeO.bind ?_ (fun _ => ?_)
mutual
def tree_sized.l0 : Nat → List (S56) → Int → Int → Option (Bool)
 | 0, _, _, _ => none
 | k + 1, x0, x1, x2 => if x1 < x2 then (if 0 ≤ x1 then (if x1 < (x0.length : Int) then (if ((rd_T56 x0 x1).f3) < 1 then (some false) else (if ((rd_T56 x0 x1).f3) > (wrap64 (x2 - x1)) then (some false) else ((tree_sized.f k x0 (wrap64 (x1 + 1)) (wrap64 (x1 + ((rd_T56 x0 x1).f3)))).bind fun t233 => (if t233 = true then (tree_sized.l0 k x0 (wrap64 (x1 + ((rd_T56 x0 x1).f3))) x2) else (some false))))) else (none)) else (none)) else (some true)
def tree_sized.f : Nat → List (S56) → Int → Int → Option (Bool)
 | 0, _, _, _ => none
 | k + 1, l0, a1, a2 => tree_sized.l0 k l0 a1 a2
end
theorem tree_sized.mono_l : ∀ k, (∀ y0 y1 y2, LeO (tree_sized.f k y0 y1 y2) (tree_sized.f (k + 1) y0 y1 y2)) ∧ (∀ y0 y1 y2, LeO (tree_sized.l0 k y0 y1 y2) (tree_sized.l0 (k + 1) y0 y1 y2))
 | 0 => ⟨fun _ _ _ r h => by simp [tree_sized.f] at h, fun _ _ _ r h => by simp [tree_sized.l0] at h⟩
 | k + 1 => by
  obtain ⟨ih0, ih1⟩ := tree_sized.mono_l k
  refine ⟨?_, ?_⟩
  ·intro y0 y1 y2
   unfold tree_sized.f
   repeat' first
   | (with_reducible exact ih0 _ _ _)
   | (with_reducible exact ih1 _ _ _)
   | (with_reducible exact LeO.refl _)
   | (with_reducible exact LeO.none _)
   | (with_reducible refine LeO.ite ?_ ?_)
   | (with_reducible refine LeO.bind ?_ (fun _ => ?_))
   | exact ih0 _ _ _
   | exact ih1 _ _ _
   | exact LeO.none _
   | refine LeO.ite ?_ ?_
   | refine LeO.bind ?_ (fun _ => ?_)
  ·intro y0 y1 y2
   unfold tree_sized.l0
   repeat' first
   | (with_reducible exact ih0 _ _ _)
   | (with_reducible exact ih1 _ _ _)
   | (with_reducible exact LeO.refl _)
   | (with_reducible exact LeO.none _)
   | (with_reducible refine LeO.ite ?_ ?_)
   | (with_reducible refine LeO.bind ?_ (fun _ => ?_))
   | exact ih0 _ _ _
   | exact ih1 _ _ _
   | exact LeO.none _
   | refine LeO.ite ?_ ?_
   | refine LeO.bind ?_ (fun _ => ?_)
theorem tree_sized.mono : ∀ a0 a1 a2 k, LeO (tree_sized.f k a0 a1 a2) (tree_sized.f (k + 1) a0 a1 a2) := by
 intro a0 a1 a2 k
 obtain ⟨ih0, ih1⟩ := tree_sized.mono_l k
 exact ih0 a0 a1 a2
def stylusref04_in.l0 : Nat → Int → ByteArray → Int → Option (Bool)
 | 0, _, _, _ => none
 | k + 1, x0, x1, x5 => if x5 < (x1.size : Int) then (if 0 ≤ x5 then (if (bt x1 x5) = x0 then (some true) else (stylusref04_in.l0 k x0 x1 (wrap64 (x5 + 1)))) else (none)) else (some false)
def stylusref04_in.f (k : Nat) (a0 : Int) (a1 : ByteArray) : Option (Bool) := stylusref04_in.l0 k a0 a1 0
theorem stylusref04_in.mono_l : ∀ k, (∀ y0 y1 y2, LeO (stylusref04_in.l0 k y0 y1 y2) (stylusref04_in.l0 (k + 1) y0 y1 y2))
 | 0 => fun _ _ _ r h => by simp [stylusref04_in.l0] at h
 | k + 1 => by
  have ih0 := stylusref04_in.mono_l k
  ·intro y0 y1 y2
   unfold stylusref04_in.l0
   repeat' first
   | (with_reducible exact ih0 _ _ _)
   | (with_reducible exact LeO.refl _)
   | (with_reducible exact LeO.none _)
   | (with_reducible refine LeO.ite ?_ ?_)
   | (with_reducible refine LeO.bind ?_ (fun _ => ?_))
   | exact ih0 _ _ _
   | exact LeO.none _
   | refine LeO.ite ?_ ?_
   | refine LeO.bind ?_ (fun _ => ?_)
theorem stylusref04_in.mono : ∀ a0 a1 k, LeO (stylusref04_in.f k a0 a1) (stylusref04_in.f (k + 1) a0 a1) := by
 intro a0 a1 k
 have ih0 := stylusref04_in.mono_l k
 unfold stylusref04_in.f
 repeat' first
   | (with_reducible exact ih0 _ _ _)
   | (with_reducible exact LeO.refl _)
   | (with_reducible exact LeO.none _)
   | (with_reducible refine LeO.ite ?_ ?_)
   | (with_reducible refine LeO.bind ?_ (fun _ => ?_))
   | exact ih0 _ _ _
   | exact LeO.none _
   | refine LeO.ite ?_ ?_
   | refine LeO.bind ?_ (fun _ => ?_)
set_option maxHeartbeats 8000000 in
set_option maxRecDepth 100000 in
theorem stylusref04_in.calls (k : Nat) (a0 : Int) (a1 : ByteArray) (r : Bool) (w : World) (h : stylusref04_in.f k a0 a1 = some r) :
  Calls Try.prog 140 #[.int .u8 a0, .string a1] w fun e w' => e = .returned (.bool r) ∧ Drawn0 w w' := by
 have H : (stylusref04_in.l0 k a0 a1 0) = some r := h
 clear h
 have H' := Aside0.mk H
 clear H
 go_enter Try.func140, Try.ntmps140
 go_wp2
 go_loopg [5] k (fun kq v5 w' => ∃ (x5_1 : Int), v5 = .int .i64 x5_1 ∧ Aside0 (stylusref04_in.l0 kq a0 a1 x5_1 = some r) ∧ Aside0 (kq ≤ k) ∧ Drawn0 w w')
 case atStart => exact ⟨(0), (by first | rfl | (simp; done) | (simp [*]; done)), H', ⟨Nat.le_refl _⟩, by repeat (first | exact Drawn0.refl _ | apply Drawn0.step)⟩
 case round =>
  clear H'
  try clear c1
  try clear p2
  obtain ⟨x5_1, rfl, HA, HK1, ⟨m1, rfl⟩⟩ := hrel
  cases gk with
  | zero => exact absurd HA.out (by simp [stylusref04_in.l0])
  | succ k1 =>
   have H := HA.out
   clear HA
   simp only [stylusref04_in.l0] at H
   by_cases c3 : x5_1 < (a1.size : Int)
   ·rw [if_pos c3] at H
    have c3b0 : decide (x5_1 < (a1.size : Int)) = true := decide_eq_true c3
    clear c3
    by_cases c4 : 0 ≤ x5_1
    ·rw [if_pos c4] at H
     have c4b0 : decide (0 ≤ x5_1) = true := decide_eq_true c4
     clear c4
     by_cases c6 : (bt a1 x5_1) = a0
     ·rw [if_pos c6] at H
      have c6b0 : ((bt a1 x5_1) == a0) = true := beq_iff_eq.mpr c6
      have c6b1 : ((bt a1 x5_1) != a0) = false := bne_eq_false_iff_eq.mpr c6
      clear c6
      obtain rfl := Option.some.inj H
      have p5 : 0 ≤ (x5_1 : Int) := of_decide_eq_true (by first | (with_reducible assumption) | assumption)
      have q5 : x5_1 < (a1.size : Int) := of_decide_eq_true (by first | (with_reducible assumption) | assumption)
      have hx5 := bt_at a1 x5_1
      replace p5 := eq_true p5
      replace q5 := eq_true q5
      go_wp2
      go_ret
      exact ⟨by first | rfl | (simp; done) | (simp [*]; done), by repeat (first | exact Drawn0.refl _ | apply Drawn0.step)⟩
     ·rw [if_neg c6] at H
      have c6b0 : ((bt a1 x5_1) == a0) = false := beq_eq_false_iff_ne.mpr c6
      have c6b1 : ((bt a1 x5_1) != a0) = true := bne_iff_ne.mpr c6
      have H' := Aside0.mk H
      clear H
      have p5 : 0 ≤ (x5_1 : Int) := of_decide_eq_true (by first | (with_reducible assumption) | assumption)
      have q5 : x5_1 < (a1.size : Int) := of_decide_eq_true (by first | (with_reducible assumption) | assumption)
      have hx5 := bt_at a1 x5_1
      replace p5 := eq_true p5
      replace q5 := eq_true q5
      go_wp2
      go_roundg k1
      case measure => have := HK1.out; omega
      case rel => exact ⟨(wrap64 (x5_1 + 1)), (by first | rfl | (simp; done) | (simp [*]; done)), H', ⟨by have := HK1.out; omega⟩, by repeat (first | exact Drawn0.refl _ | apply Drawn0.step)⟩
    ·rw [if_neg c4] at H
     exact absurd H (by simp)
   ·rw [if_neg c3] at H
    have c3b0 : decide (x5_1 < (a1.size : Int)) = false := decide_eq_false c3
    clear c3
    obtain rfl := Option.some.inj H
    go_wp2
    go_ret
    exact ⟨by first | rfl | (simp; done) | (simp [*]; done), by repeat (first | exact Drawn0.refl _ | apply Drawn0.step)⟩
def stylusref04_Texts.f (k : Nat) (l0 : List (S159)) : Option (Bool) := if 0 ≤ (wrap64 ((l0.length : Int) - 1)) then (if (wrap64 ((l0.length : Int) - 1)) < (l0.length : Int) then ((stylusref04_in.f k ((rd_T159 l0 (wrap64 ((l0.length : Int) - 1))).f0) (⟨#[49, 50, 51, 112, 99, 110, 101, 115]⟩ : ByteArray)).bind fun t124 => (if t124 = true then (some true) else (if ((rd_T159 l0 (wrap64 ((l0.length : Int) - 1))).f0) = 105 then ((stylusref04_in.f k 108 ((rd_T159 l0 (wrap64 ((l0.length : Int) - 1))).f1)).bind fun t125 => (some (!t125))) else (some false)))) else (none)) else (none)
theorem stylusref04_Texts.mono : ∀ a0 k, LeO (stylusref04_Texts.f k a0) (stylusref04_Texts.f (k + 1) a0) := by
 intro a0 k
 unfold stylusref04_Texts.f
 repeat' first
   | (with_reducible exact stylusref04_in.mono _ _ _)
   | (with_reducible exact LeO.refl _)
   | (with_reducible exact LeO.none _)
   | (with_reducible refine LeO.ite ?_ ?_)
   | (with_reducible refine LeO.bind ?_ (fun _ => ?_))
   | exact stylusref04_in.mono _ _ _
   | exact LeO.none _
   | refine LeO.ite ?_ ?_
   | refine LeO.bind ?_ (fun _ => ?_)
set_option maxHeartbeats 8000000 in
set_option maxRecDepth 100000 in
theorem stylusref04_Texts.calls (k : Nat) (A0 : Option Addr) (c0 : Nat) (l0 : List (S159)) (r : Bool) (w : World) (hr0 : Kd.C k159 w A0 l0.length l0) (hc0 : l0.length ≤ c0) (h : stylusref04_Texts.f k l0 = some r) :
  Calls Try.prog 108 #[.slice A0 l0.length c0] w fun e w' => e = .returned (.bool r) ∧ Below w.heap.size w w' := by
 have hu159 := Try.underlying159
 have HR0 := Aside0.mk hr0
 have HC0 := Aside0.mk hc0
 clear hr0 hc0
 have HB := Aside0.mk (Below.refl w.heap.size w)
 have H : (if 0 ≤ (wrap64 ((l0.length : Int) - 1)) then (if (wrap64 ((l0.length : Int) - 1)) < (l0.length : Int) then ((stylusref04_in.f k ((rd_T159 l0 (wrap64 ((l0.length : Int) - 1))).f0) (⟨#[49, 50, 51, 112, 99, 110, 101, 115]⟩ : ByteArray)).bind fun t124 => (if t124 = true then (some true) else (if ((rd_T159 l0 (wrap64 ((l0.length : Int) - 1))).f0) = 105 then ((stylusref04_in.f k 108 ((rd_T159 l0 (wrap64 ((l0.length : Int) - 1))).f1)).bind fun t125 => (some (!t125))) else (some false)))) else (none)) else (none)) = some r := h
 clear h
 obtain ⟨ji2, hji2⟩ : ∃ j_ : Int, (wrap64 ((l0.length : Int) - 1)) = j_ := ⟨_, rfl⟩
 replace H : (if 0 ≤ (ji2) then (if (ji2) < (l0.length : Int) then ((stylusref04_in.f k ((rd_T159 l0 (ji2)).f0) (⟨#[49, 50, 51, 112, 99, 110, 101, 115]⟩ : ByteArray)).bind fun t124 => (if t124 = true then (some true) else (if ((rd_T159 l0 (ji2)).f0) = 105 then ((stylusref04_in.f k 108 ((rd_T159 l0 (ji2)).f1)).bind fun t125 => (some (!t125))) else (some false)))) else (none)) else (none)) = some r := by first | (rw [hji2] at H; exact H) | (simp only [hji2] at H ⊢; exact H)
 have hji2w : (IntKind.i64.wrap ((l0.length : Int) - 1)) = ji2 := (i64_w _).trans hji2
 by_cases c3 : 0 ≤ (ji2)
 ·rw [if_pos c3] at H
  have c3b0 : decide (0 ≤ (ji2)) = true := decide_eq_true c3
  clear c3
  by_cases c4 : (ji2) < (l0.length : Int)
  ·rw [if_pos c4] at H
   have c4b0 : decide ((ji2) < (l0.length : Int)) = true := decide_eq_true c4
   clear c4
   replace H := Option.bind_eq_some_iff.mp H
   obtain ⟨t124, A50, H⟩ := H
   replace H : (if t124 = true then (some true) else (if ((rd_T159 l0 (ji2)).f0) = 105 then ((stylusref04_in.f k 108 ((rd_T159 l0 (ji2)).f1)).bind fun t125 => (some (!t125))) else (some false))) = some r := H
   have A5 := Aside0.mk A50
   clear A50
   by_cases c6 : t124 = true
   ·subst c6
    have H1 : (some true) = some r := by rw [if_pos rfl] at H; exact H
    clear H
    have H := H1
    clear H1
    obtain rfl := Option.some.inj H
    have p122 : 0 ≤ ((ji2) : Int) := of_decide_eq_true (by first | (with_reducible assumption) | assumption)
    have q122 : (ji2) < (l0.length : Int) := of_decide_eq_true (by first | (with_reducible assumption) | assumption)
    obtain ⟨ad122, e122, hx122_0, hx122_1, hx122_2, hx122_3, hx122_4, hx122_5⟩ := at_T159 HR0.out (ji2) p122 q122
    cases e122
    replace p122 := eq_true p122
    replace q122 := eq_true q122
    go_enter Try.func108, Try.ntmps108
    go_wp2_with (first | ((with_reducible refine gate_dst (N := 3) rfl ?_); refine box_event ?hg (N := 3) ?hd (cs := #[.int .u8 0, .string (⟨#[]⟩ : ByteArray), .int .i64 0, .int .i64 0, .int .i64 0, .string (⟨#[]⟩ : ByteArray)]) (t := 159) ?hr ?_; (case hd => rfl); (case hg => rfl); (case hr => first | (go_simp; done) | (go_simp; rfl)); intro gb123 hg w7 hbox hb; have n0_ := Aside0.mk (below_step (by repeat (first | (with_reducible first | exact HB.out | apply below_alloc | apply pw_below_drewN | apply below_drew1) | exact HB.out)) hb); have n1_ := Aside0.mk (hbox); have n2_ := Aside0.mk ((by rw [hg]; exact (below_size (by repeat (first | (with_reducible first | exact HB.out | apply below_alloc | apply pw_below_drewN | apply below_drew1) | exact HB.out))) : w.heap.size ≤ gb123)); have n3_ := Aside0.mk ((by rw [hg]; exact (below_size (by repeat (first | (with_reducible first | exact HB.out | apply below_alloc | apply pw_below_drewN | apply below_drew1) | exact HB.out))) : w.heap.size ≤ gb123)); clear HB; have HB := n0_; have BK123 := n1_; have GW123 := n2_; have GE123 := n3_; clear n0_ n1_ n2_ n3_; clear hb hbox hg; have hcz8_0 : w7.cell? ⟨gb123, 0, none⟩ = some (.int .u8 0) := (blk_cell BK123.out 0).trans rfl; have hcz8_1 : w7.cell? ⟨gb123, 1, none⟩ = some (.string (⟨#[]⟩ : ByteArray)) := (blk_cell BK123.out 1).trans rfl; have hcz8_2 : w7.cell? ⟨gb123, 2, none⟩ = some (.int .i64 0) := (blk_cell BK123.out 2).trans rfl; have hcz8_3 : w7.cell? ⟨gb123, 3, none⟩ = some (.int .i64 0) := (blk_cell BK123.out 3).trans rfl; have hcz8_4 : w7.cell? ⟨gb123, 4, none⟩ = some (.int .i64 0) := (blk_cell BK123.out 4).trans rfl; have hcz8_5 : w7.cell? ⟨gb123, 5, none⟩ = some (.string (⟨#[]⟩ : ByteArray)) := (blk_cell BK123.out 5).trans rfl; have hfz8_0 := blk_frozen BK123.out 0; have hfz8_1 := blk_frozen BK123.out 1; have hfz8_2 := blk_frozen BK123.out 2; have hfz8_3 := blk_frozen BK123.out 3; have hfz8_4 := blk_frozen BK123.out 4; have hfz8_5 := blk_frozen BK123.out 5) | ((with_reducible refine gate_callee (f := 140) rfl ?_); refine goesL_ (some 12) rfl rfl Try.func140 (by kernel_rfl) rfl #[.int .u8 ((rd_T159 l0 (ji2)).f0), .string (⟨#[49, 50, 51, 112, 99, 110, 101, 115]⟩ : ByteArray)] rfl (by (try simp only [List.map_toArray, List.map_cons, List.map_nil]); first | done | (simp only [hji2]; rfl) | rfl | (simp only [List.length_drop, List.length_take]; rfl)) ?_; (with_reducible refine (stylusref04_in.calls k ((rd_T159 l0 (ji2)).f0) (⟨#[49, 50, 51, 112, 99, 110, 101, 115]⟩ : ByteArray) true _ A5.out).mono ?_); rintro e w' ⟨rfl, ⟨nd, rfl⟩⟩; refine ⟨_, rfl, ?_⟩))
    go_ret
    exact ⟨by first | rfl | (simp [errW_none, errW_some] <;> rfl) | (simp only [← hji2]; first | rfl | (simp [errW_none, errW_some] <;> rfl)) | (simp [*, errW_none, errW_some] <;> rfl), by repeat (first | (with_reducible first | exact HB.out | apply below_alloc | apply pw_below_drewN | apply below_drew1 | refine below_set ?_ GE123.out) | exact HB.out)⟩
   ·replace c6 := Bool.eq_false_iff.mpr c6
    subst c6
    have H1 : (if ((rd_T159 l0 (ji2)).f0) = 105 then ((stylusref04_in.f k 108 ((rd_T159 l0 (ji2)).f1)).bind fun t125 => (some (!t125))) else (some false)) = some r := by rw [if_neg (show ¬ (false = true) by decide)] at H; exact H
    clear H
    have H := H1
    clear H1
    by_cases c9 : ((rd_T159 l0 (ji2)).f0) = 105
    ·rw [if_pos c9] at H
     have c9b0 : (((rd_T159 l0 (ji2)).f0) == 105) = true := beq_iff_eq.mpr c9
     have c9b1 : (((rd_T159 l0 (ji2)).f0) != 105) = false := bne_eq_false_iff_eq.mpr c9
     clear c9
     replace H := Option.bind_eq_some_iff.mp H
     obtain ⟨t125, A100, H⟩ := H
     replace H : (some (!t125)) = some r := H
     have A10 := Aside0.mk A100
     clear A100
     obtain rfl := Option.some.inj H
     have p122 : 0 ≤ ((ji2) : Int) := of_decide_eq_true (by first | (with_reducible assumption) | assumption)
     have q122 : (ji2) < (l0.length : Int) := of_decide_eq_true (by first | (with_reducible assumption) | assumption)
     obtain ⟨ad122, e122, hx122_0, hx122_1, hx122_2, hx122_3, hx122_4, hx122_5⟩ := at_T159 HR0.out (ji2) p122 q122
     cases e122
     replace p122 := eq_true p122
     replace q122 := eq_true q122
     go_enter Try.func108, Try.ntmps108
     go_wp2_with (first | ((with_reducible refine gate_dst (N := 3) rfl ?_); refine box_event ?hg (N := 3) ?hd (cs := #[.int .u8 0, .string (⟨#[]⟩ : ByteArray), .int .i64 0, .int .i64 0, .int .i64 0, .string (⟨#[]⟩ : ByteArray)]) (t := 159) ?hr ?_; (case hd => rfl); (case hg => rfl); (case hr => first | (go_simp; done) | (go_simp; rfl)); intro gb123 hg w11 hbox hb; have n0_ := Aside0.mk (below_step (by repeat (first | (with_reducible first | exact HB.out | apply below_alloc | apply pw_below_drewN | apply below_drew1) | exact HB.out)) hb); have n1_ := Aside0.mk (hbox); have n2_ := Aside0.mk ((by rw [hg]; exact (below_size (by repeat (first | (with_reducible first | exact HB.out | apply below_alloc | apply pw_below_drewN | apply below_drew1) | exact HB.out))) : w.heap.size ≤ gb123)); have n3_ := Aside0.mk ((by rw [hg]; exact (below_size (by repeat (first | (with_reducible first | exact HB.out | apply below_alloc | apply pw_below_drewN | apply below_drew1) | exact HB.out))) : w.heap.size ≤ gb123)); clear HB; have HB := n0_; have BK123 := n1_; have GW123 := n2_; have GE123 := n3_; clear n0_ n1_ n2_ n3_; clear hb hbox hg; have hcz12_0 : w11.cell? ⟨gb123, 0, none⟩ = some (.int .u8 0) := (blk_cell BK123.out 0).trans rfl; have hcz12_1 : w11.cell? ⟨gb123, 1, none⟩ = some (.string (⟨#[]⟩ : ByteArray)) := (blk_cell BK123.out 1).trans rfl; have hcz12_2 : w11.cell? ⟨gb123, 2, none⟩ = some (.int .i64 0) := (blk_cell BK123.out 2).trans rfl; have hcz12_3 : w11.cell? ⟨gb123, 3, none⟩ = some (.int .i64 0) := (blk_cell BK123.out 3).trans rfl; have hcz12_4 : w11.cell? ⟨gb123, 4, none⟩ = some (.int .i64 0) := (blk_cell BK123.out 4).trans rfl; have hcz12_5 : w11.cell? ⟨gb123, 5, none⟩ = some (.string (⟨#[]⟩ : ByteArray)) := (blk_cell BK123.out 5).trans rfl; have hfz12_0 := blk_frozen BK123.out 0; have hfz12_1 := blk_frozen BK123.out 1; have hfz12_2 := blk_frozen BK123.out 2; have hfz12_3 := blk_frozen BK123.out 3; have hfz12_4 := blk_frozen BK123.out 4; have hfz12_5 := blk_frozen BK123.out 5) | ((with_reducible refine gate_callee (f := 140) rfl ?_); refine goesL_ (some 12) rfl rfl Try.func140 (by kernel_rfl) rfl #[.int .u8 ((rd_T159 l0 (ji2)).f0), .string (⟨#[49, 50, 51, 112, 99, 110, 101, 115]⟩ : ByteArray)] rfl (by (try simp only [List.map_toArray, List.map_cons, List.map_nil]); first | done | (simp only [hji2]; rfl) | rfl | (simp only [List.length_drop, List.length_take]; rfl)) ?_; (with_reducible refine (stylusref04_in.calls k ((rd_T159 l0 (ji2)).f0) (⟨#[49, 50, 51, 112, 99, 110, 101, 115]⟩ : ByteArray) false _ A5.out).mono ?_); rintro e w' ⟨rfl, ⟨nd, rfl⟩⟩; refine ⟨_, rfl, ?_⟩) | (go_at_call 140; (with_reducible refine (stylusref04_in.calls k 108 ((rd_T159 l0 (ji2)).f1) t125 _ A10.out).mono ?_); rintro e w' ⟨rfl, ⟨nd, rfl⟩⟩))
     go_ret
     exact ⟨by first | rfl | (simp [errW_none, errW_some] <;> rfl) | (simp only [← hji2]; first | rfl | (simp [errW_none, errW_some] <;> rfl)) | (simp [*, errW_none, errW_some] <;> rfl), by repeat (first | (with_reducible first | exact HB.out | apply below_alloc | apply pw_below_drewN | apply below_drew1 | refine below_set ?_ GE123.out) | exact HB.out)⟩
    ·rw [if_neg c9] at H
     have c9b0 : (((rd_T159 l0 (ji2)).f0) == 105) = false := beq_eq_false_iff_ne.mpr c9
     have c9b1 : (((rd_T159 l0 (ji2)).f0) != 105) = true := bne_iff_ne.mpr c9
     obtain rfl := Option.some.inj H
     have p122 : 0 ≤ ((ji2) : Int) := of_decide_eq_true (by first | (with_reducible assumption) | assumption)
     have q122 : (ji2) < (l0.length : Int) := of_decide_eq_true (by first | (with_reducible assumption) | assumption)
     obtain ⟨ad122, e122, hx122_0, hx122_1, hx122_2, hx122_3, hx122_4, hx122_5⟩ := at_T159 HR0.out (ji2) p122 q122
     cases e122
     replace p122 := eq_true p122
     replace q122 := eq_true q122
     go_enter Try.func108, Try.ntmps108
     go_wp2_with (first | ((with_reducible refine gate_dst (N := 3) rfl ?_); refine box_event ?hg (N := 3) ?hd (cs := #[.int .u8 0, .string (⟨#[]⟩ : ByteArray), .int .i64 0, .int .i64 0, .int .i64 0, .string (⟨#[]⟩ : ByteArray)]) (t := 159) ?hr ?_; (case hd => rfl); (case hg => rfl); (case hr => first | (go_simp; done) | (go_simp; rfl)); intro gb123 hg w13 hbox hb; have n0_ := Aside0.mk (below_step (by repeat (first | (with_reducible first | exact HB.out | apply below_alloc | apply pw_below_drewN | apply below_drew1) | exact HB.out)) hb); have n1_ := Aside0.mk (hbox); have n2_ := Aside0.mk ((by rw [hg]; exact (below_size (by repeat (first | (with_reducible first | exact HB.out | apply below_alloc | apply pw_below_drewN | apply below_drew1) | exact HB.out))) : w.heap.size ≤ gb123)); have n3_ := Aside0.mk ((by rw [hg]; exact (below_size (by repeat (first | (with_reducible first | exact HB.out | apply below_alloc | apply pw_below_drewN | apply below_drew1) | exact HB.out))) : w.heap.size ≤ gb123)); clear HB; have HB := n0_; have BK123 := n1_; have GW123 := n2_; have GE123 := n3_; clear n0_ n1_ n2_ n3_; clear hb hbox hg; have hcz14_0 : w13.cell? ⟨gb123, 0, none⟩ = some (.int .u8 0) := (blk_cell BK123.out 0).trans rfl; have hcz14_1 : w13.cell? ⟨gb123, 1, none⟩ = some (.string (⟨#[]⟩ : ByteArray)) := (blk_cell BK123.out 1).trans rfl; have hcz14_2 : w13.cell? ⟨gb123, 2, none⟩ = some (.int .i64 0) := (blk_cell BK123.out 2).trans rfl; have hcz14_3 : w13.cell? ⟨gb123, 3, none⟩ = some (.int .i64 0) := (blk_cell BK123.out 3).trans rfl; have hcz14_4 : w13.cell? ⟨gb123, 4, none⟩ = some (.int .i64 0) := (blk_cell BK123.out 4).trans rfl; have hcz14_5 : w13.cell? ⟨gb123, 5, none⟩ = some (.string (⟨#[]⟩ : ByteArray)) := (blk_cell BK123.out 5).trans rfl; have hfz14_0 := blk_frozen BK123.out 0; have hfz14_1 := blk_frozen BK123.out 1; have hfz14_2 := blk_frozen BK123.out 2; have hfz14_3 := blk_frozen BK123.out 3; have hfz14_4 := blk_frozen BK123.out 4; have hfz14_5 := blk_frozen BK123.out 5) | ((with_reducible refine gate_callee (f := 140) rfl ?_); refine goesL_ (some 12) rfl rfl Try.func140 (by kernel_rfl) rfl #[.int .u8 ((rd_T159 l0 (ji2)).f0), .string (⟨#[49, 50, 51, 112, 99, 110, 101, 115]⟩ : ByteArray)] rfl (by (try simp only [List.map_toArray, List.map_cons, List.map_nil]); first | done | (simp only [hji2]; rfl) | rfl | (simp only [List.length_drop, List.length_take]; rfl)) ?_; (with_reducible refine (stylusref04_in.calls k ((rd_T159 l0 (ji2)).f0) (⟨#[49, 50, 51, 112, 99, 110, 101, 115]⟩ : ByteArray) false _ A5.out).mono ?_); rintro e w' ⟨rfl, ⟨nd, rfl⟩⟩; refine ⟨_, rfl, ?_⟩))
     go_ret
     exact ⟨by first | rfl | (simp [errW_none, errW_some] <;> rfl) | (simp only [← hji2]; first | rfl | (simp [errW_none, errW_some] <;> rfl)) | (simp [*, errW_none, errW_some] <;> rfl), by repeat (first | (with_reducible first | exact HB.out | apply below_alloc | apply pw_below_drewN | apply below_drew1 | refine below_set ?_ GE123.out) | exact HB.out)⟩
  ·rw [if_neg c4] at H
   exact absurd H (by simp)
 ·rw [if_neg c3] at H
  exact absurd H (by simp)
def stylusref04_last.l0 : Nat → List (S159) → ByteArray → Int → Option (Int)
 | 0, _, _, _ => none
 | k + 1, x0, x1, x5 => if x5 > 0 then (if 0 ≤ x5 then (if x5 < (x0.length : Int) then ((stylusref04_in.f k ((rd_T159 x0 x5).f0) x1).bind fun t127 => (if t127 = true then (some x5) else (stylusref04_last.l0 k x0 x1 (wrap64 (x5 - 1))))) else (none)) else (none)) else (some (-1))
def stylusref04_last.f (k : Nat) (l0 : List (S159)) (a1 : ByteArray) : Option (Int) := stylusref04_last.l0 k l0 a1 (wrap64 ((l0.length : Int) - 1))
theorem stylusref04_last.mono_l : ∀ k, (∀ y0 y1 y2, LeO (stylusref04_last.l0 k y0 y1 y2) (stylusref04_last.l0 (k + 1) y0 y1 y2))
 | 0 => fun _ _ _ r h => by simp [stylusref04_last.l0] at h
 | k + 1 => by
  have ih0 := stylusref04_last.mono_l k
  ·intro y0 y1 y2
   unfold stylusref04_last.l0
   repeat' first
   | (with_reducible exact ih0 _ _ _)
   | (with_reducible exact stylusref04_in.mono _ _ _)
   | (with_reducible exact LeO.refl _)
   | (with_reducible exact LeO.none _)
   | (with_reducible refine LeO.ite ?_ ?_)
   | (with_reducible refine LeO.bind ?_ (fun _ => ?_))
   | exact ih0 _ _ _
   | exact stylusref04_in.mono _ _ _
   | exact LeO.none _
   | refine LeO.ite ?_ ?_
   | refine LeO.bind ?_ (fun _ => ?_)
theorem stylusref04_last.mono : ∀ a0 a1 k, LeO (stylusref04_last.f k a0 a1) (stylusref04_last.f (k + 1) a0 a1) := by
 intro a0 a1 k
 have ih0 := stylusref04_last.mono_l k
 unfold stylusref04_last.f
 repeat' first
   | (with_reducible exact ih0 _ _ _)
   | (with_reducible exact stylusref04_in.mono _ _ _)
   | (with_reducible exact LeO.refl _)
   | (with_reducible exact LeO.none _)
   | (with_reducible refine LeO.ite ?_ ?_)
   | (with_reducible refine LeO.bind ?_ (fun _ => ?_))
   | exact ih0 _ _ _
   | exact stylusref04_in.mono _ _ _
   | exact LeO.none _
   | refine LeO.ite ?_ ?_
   | refine LeO.bind ?_ (fun _ => ?_)
set_option maxHeartbeats 8000000 in
set_option maxRecDepth 100000 in
theorem stylusref04_last.calls (k : Nat) (A0 : Option Addr) (c0 : Nat) (l0 : List (S159)) (a1 : ByteArray) (r : Int) (w : World) (hr0 : Kd.C k159 w A0 l0.length l0) (hc0 : l0.length ≤ c0) (h : stylusref04_last.f k l0 a1 = some r) :
  Calls Try.prog 137 #[.slice A0 l0.length c0, .string a1] w fun e w' => e = .returned (.int .i64 r) ∧ Drawn0 w w' := by
 have HR0 := Aside0.mk hr0
 have HC0 := Aside0.mk hc0
 clear hr0 hc0
 have H : (stylusref04_last.l0 k l0 a1 (wrap64 ((l0.length : Int) - 1))) = some r := h
 clear h
 have H' := Aside0.mk H
 clear H
 go_enter Try.func137, Try.ntmps137
 go_wp2
 go_loopg [5] k (fun kq v5 w' => ∃ (x5_1 : Int), v5 = .int .i64 x5_1 ∧ Aside0 (stylusref04_last.l0 kq l0 a1 x5_1 = some r) ∧ Aside0 (kq ≤ k) ∧ Drawn0 w w')
 case atStart => exact ⟨(wrap64 ((l0.length : Int) - 1)), (by first | rfl | (simp; done) | (simp [*]; done)), H', ⟨Nat.le_refl _⟩, by repeat (first | exact Drawn0.refl _ | apply Drawn0.step)⟩
 case round =>
  clear H'
  try clear c1
  try clear p2
  obtain ⟨x5_1, rfl, HA, HK1, ⟨m1, rfl⟩⟩ := hrel
  cases gk with
  | zero => exact absurd HA.out (by simp [stylusref04_last.l0])
  | succ k1 =>
   have H := HA.out
   clear HA
   simp only [stylusref04_last.l0] at H
   by_cases c3 : x5_1 > 0
   ·rw [if_pos c3] at H
    have c3b0 : decide (0 < x5_1) = true := decide_eq_true c3
    clear c3
    by_cases c4 : 0 ≤ x5_1
    ·rw [if_pos c4] at H
     have c4b0 : decide (0 ≤ x5_1) = true := decide_eq_true c4
     clear c4
     by_cases c5 : x5_1 < (l0.length : Int)
     ·rw [if_pos c5] at H
      have c5b0 : decide (x5_1 < (l0.length : Int)) = true := decide_eq_true c5
      clear c5
      replace H := Option.bind_eq_some_iff.mp H
      obtain ⟨t127, A60, H⟩ := H
      replace H : (if t127 = true then (some x5_1) else (stylusref04_last.l0 k1 l0 a1 (wrap64 (x5_1 - 1)))) = some r := H
      have A6 := Aside0.mk A60
      clear A60
      by_cases c7 : t127 = true
      ·subst c7
       have H1 : (some x5_1) = some r := by rw [if_pos rfl] at H; exact H
       clear H
       have H := H1
       clear H1
       obtain rfl := Option.some.inj H
       have p126 : 0 ≤ (x5_1 : Int) := of_decide_eq_true (by first | (with_reducible assumption) | assumption)
       have q126 : x5_1 < (l0.length : Int) := of_decide_eq_true (by first | (with_reducible assumption) | assumption)
       obtain ⟨ad126, e126, hx126_0, hx126_1, hx126_2, hx126_3, hx126_4, hx126_5⟩ := at_T159 HR0.out x5_1 p126 q126
       cases e126
       replace p126 := eq_true p126
       replace q126 := eq_true q126
       go_wp2_with (first | ((with_reducible refine gate_callee (f := 140) rfl ?_); refine goesL_ (some 19) rfl rfl Try.func140 (by kernel_rfl) rfl #[.int .u8 ((rd_T159 l0 x5_1).f0), .string a1] rfl (by (try simp only [List.map_toArray, List.map_cons, List.map_nil]); first | done | rfl | (simp only [List.length_drop, List.length_take]; rfl)) ?_; (with_reducible refine (stylusref04_in.calls k1 ((rd_T159 l0 x5_1).f0) a1 true _ A6.out).mono ?_); rintro e w' ⟨rfl, ⟨nd, rfl⟩⟩; refine ⟨_, rfl, ?_⟩))
       go_ret
       exact ⟨by first | rfl | (simp; done) | (simp [*]; done), by repeat (first | exact Drawn0.refl _ | apply Drawn0.step)⟩
      ·replace c7 := Bool.eq_false_iff.mpr c7
       subst c7
       have H1 : (stylusref04_last.l0 k1 l0 a1 (wrap64 (x5_1 - 1))) = some r := by rw [if_neg (show ¬ (false = true) by decide)] at H; exact H
       clear H
       have H := H1
       clear H1
       have H' := Aside0.mk H
       clear H
       have p126 : 0 ≤ (x5_1 : Int) := of_decide_eq_true (by first | (with_reducible assumption) | assumption)
       have q126 : x5_1 < (l0.length : Int) := of_decide_eq_true (by first | (with_reducible assumption) | assumption)
       obtain ⟨ad126, e126, hx126_0, hx126_1, hx126_2, hx126_3, hx126_4, hx126_5⟩ := at_T159 HR0.out x5_1 p126 q126
       cases e126
       replace p126 := eq_true p126
       replace q126 := eq_true q126
       go_wp2_with (first | ((with_reducible refine gate_callee (f := 140) rfl ?_); refine goesL_ (some 19) rfl rfl Try.func140 (by kernel_rfl) rfl #[.int .u8 ((rd_T159 l0 x5_1).f0), .string a1] rfl (by (try simp only [List.map_toArray, List.map_cons, List.map_nil]); first | done | rfl | (simp only [List.length_drop, List.length_take]; rfl)) ?_; (with_reducible refine (stylusref04_in.calls k1 ((rd_T159 l0 x5_1).f0) a1 false _ A6.out).mono ?_); rintro e w' ⟨rfl, ⟨nd, rfl⟩⟩; refine ⟨_, rfl, ?_⟩))
       go_roundg k1
       case measure => have := HK1.out; omega
       case rel => exact ⟨(wrap64 (x5_1 - 1)), (by first | rfl | (simp; done) | (simp [*]; done)), H', ⟨by have := HK1.out; omega⟩, by repeat (first | exact Drawn0.refl _ | apply Drawn0.step)⟩
     ·rw [if_neg c5] at H
      exact absurd H (by simp)
    ·rw [if_neg c4] at H
     exact absurd H (by simp)
   ·rw [if_neg c3] at H
    have c3b0 : decide (0 < x5_1) = false := decide_eq_false c3
    clear c3
    obtain rfl := Option.some.inj H
    go_wp2
    go_ret
    exact ⟨by first | rfl | (simp; done) | (simp [*]; done), by repeat (first | exact Drawn0.refl _ | apply Drawn0.step)⟩
def stylusref04_many.l0 : Nat → List (S159) → Int → Int → Int → Option (Int)
 | 0, _, _, _, _ => none
 | k + 1, x0, x1, x5, x6 => if x6 < (x0.length : Int) then (if 0 ≤ x6 then (if ((rd_T159 x0 x6).f0) = x1 then (stylusref04_many.l0 k x0 x1 (wrap64 (x5 + 1)) (wrap64 (x6 + 1))) else (stylusref04_many.l0 k x0 x1 x5 (wrap64 (x6 + 1)))) else (none)) else (some x5)
def stylusref04_many.f (k : Nat) (l0 : List (S159)) (a1 : Int) : Option (Int) := stylusref04_many.l0 k l0 a1 0 1
theorem stylusref04_many.mono_l : ∀ k, (∀ y0 y1 y2 y3, LeO (stylusref04_many.l0 k y0 y1 y2 y3) (stylusref04_many.l0 (k + 1) y0 y1 y2 y3))
 | 0 => fun _ _ _ _ r h => by simp [stylusref04_many.l0] at h
 | k + 1 => by
  have ih0 := stylusref04_many.mono_l k
  ·intro y0 y1 y2 y3
   unfold stylusref04_many.l0
   repeat' first
   | (with_reducible exact ih0 _ _ _ _)
   | (with_reducible exact LeO.refl _)
   | (with_reducible exact LeO.none _)
   | (with_reducible refine LeO.ite ?_ ?_)
   | (with_reducible refine LeO.bind ?_ (fun _ => ?_))
   | exact ih0 _ _ _ _
   | exact LeO.none _
   | refine LeO.ite ?_ ?_
   | refine LeO.bind ?_ (fun _ => ?_)
theorem stylusref04_many.mono : ∀ a0 a1 k, LeO (stylusref04_many.f k a0 a1) (stylusref04_many.f (k + 1) a0 a1) := by
 intro a0 a1 k
 have ih0 := stylusref04_many.mono_l k
 unfold stylusref04_many.f
 repeat' first
   | (with_reducible exact ih0 _ _ _ _)
   | (with_reducible exact LeO.refl _)
   | (with_reducible exact LeO.none _)
   | (with_reducible refine LeO.ite ?_ ?_)
   | (with_reducible refine LeO.bind ?_ (fun _ => ?_))
   | exact ih0 _ _ _ _
   | exact LeO.none _
   | refine LeO.ite ?_ ?_
   | refine LeO.bind ?_ (fun _ => ?_)
set_option maxHeartbeats 8000000 in
set_option maxRecDepth 100000 in
theorem stylusref04_many.calls (k : Nat) (A0 : Option Addr) (c0 : Nat) (l0 : List (S159)) (a1 : Int) (r : Int) (w : World) (hr0 : Kd.C k159 w A0 l0.length l0) (hc0 : l0.length ≤ c0) (h : stylusref04_many.f k l0 a1 = some r) :
  Calls Try.prog 139 #[.slice A0 l0.length c0, .int .u8 a1] w fun e w' => e = .returned (.int .i64 r) ∧ Drawn0 w w' := by
 have HR0 := Aside0.mk hr0
 have HC0 := Aside0.mk hc0
 clear hr0 hc0
 have H : (stylusref04_many.l0 k l0 a1 0 1) = some r := h
 clear h
 have H' := Aside0.mk H
 clear H
 go_enter Try.func139, Try.ntmps139
 go_wp2
 go_loopg [5, 6] k (fun kq v5 v6 w' => ∃ (x5_1 : Int) (x6_1 : Int), v5 = .int .i64 x5_1 ∧ v6 = .int .i64 x6_1 ∧ Aside0 (stylusref04_many.l0 kq l0 a1 x5_1 x6_1 = some r) ∧ Aside0 (kq ≤ k) ∧ Drawn0 w w')
 case atStart => exact ⟨(0), (1), (by first | rfl | (simp; done) | (simp [*]; done)), (by first | rfl | (simp; done) | (simp [*]; done)), H', ⟨Nat.le_refl _⟩, by repeat (first | exact Drawn0.refl _ | apply Drawn0.step)⟩
 case round =>
  clear H'
  try clear c1
  try clear p2
  obtain ⟨x5_1, x6_1, rfl, rfl, HA, HK1, ⟨m1, rfl⟩⟩ := hrel
  cases gk with
  | zero => exact absurd HA.out (by simp [stylusref04_many.l0])
  | succ k1 =>
   have H := HA.out
   clear HA
   simp only [stylusref04_many.l0] at H
   by_cases c3 : x6_1 < (l0.length : Int)
   ·rw [if_pos c3] at H
    have c3b0 : decide (x6_1 < (l0.length : Int)) = true := decide_eq_true c3
    clear c3
    by_cases c4 : 0 ≤ x6_1
    ·rw [if_pos c4] at H
     have c4b0 : decide (0 ≤ x6_1) = true := decide_eq_true c4
     clear c4
     by_cases c5 : ((rd_T159 l0 x6_1).f0) = a1
     ·rw [if_pos c5] at H
      have c5b0 : (((rd_T159 l0 x6_1).f0) == a1) = true := beq_iff_eq.mpr c5
      have c5b1 : (((rd_T159 l0 x6_1).f0) != a1) = false := bne_eq_false_iff_eq.mpr c5
      clear c5
      have H' := Aside0.mk H
      clear H
      have p189 : 0 ≤ (x6_1 : Int) := of_decide_eq_true (by first | (with_reducible assumption) | assumption)
      have q189 : x6_1 < (l0.length : Int) := of_decide_eq_true (by first | (with_reducible assumption) | assumption)
      obtain ⟨ad189, e189, hx189_0, hx189_1, hx189_2, hx189_3, hx189_4, hx189_5⟩ := at_T159 HR0.out x6_1 p189 q189
      cases e189
      replace p189 := eq_true p189
      replace q189 := eq_true q189
      go_wp2
      go_roundg k1
      case measure => have := HK1.out; omega
      case rel => exact ⟨(wrap64 (x5_1 + 1)), (wrap64 (x6_1 + 1)), (by first | rfl | (simp; done) | (simp [*]; done)), (by first | rfl | (simp; done) | (simp [*]; done)), H', ⟨by have := HK1.out; omega⟩, by repeat (first | exact Drawn0.refl _ | apply Drawn0.step)⟩
     ·rw [if_neg c5] at H
      have c5b0 : (((rd_T159 l0 x6_1).f0) == a1) = false := beq_eq_false_iff_ne.mpr c5
      have c5b1 : (((rd_T159 l0 x6_1).f0) != a1) = true := bne_iff_ne.mpr c5
      have H' := Aside0.mk H
      clear H
      have p189 : 0 ≤ (x6_1 : Int) := of_decide_eq_true (by first | (with_reducible assumption) | assumption)
      have q189 : x6_1 < (l0.length : Int) := of_decide_eq_true (by first | (with_reducible assumption) | assumption)
      obtain ⟨ad189, e189, hx189_0, hx189_1, hx189_2, hx189_3, hx189_4, hx189_5⟩ := at_T159 HR0.out x6_1 p189 q189
      cases e189
      replace p189 := eq_true p189
      replace q189 := eq_true q189
      go_wp2
      go_roundg k1
      case measure => have := HK1.out; omega
      case rel => exact ⟨(x5_1), (wrap64 (x6_1 + 1)), (by first | rfl | (simp; done) | (simp [*]; done)), (by first | rfl | (simp; done) | (simp [*]; done)), H', ⟨by have := HK1.out; omega⟩, by repeat (first | exact Drawn0.refl _ | apply Drawn0.step)⟩
    ·rw [if_neg c4] at H
     exact absurd H (by simp)
   ·rw [if_neg c3] at H
    have c3b0 : decide (x6_1 < (l0.length : Int)) = false := decide_eq_false c3
    clear c3
    obtain rfl := Option.some.inj H
    go_wp2
    go_ret
    exact ⟨by first | rfl | (simp; done) | (simp [*]; done), by repeat (first | exact Drawn0.refl _ | apply Drawn0.step)⟩
end Go.Proofs.Ythcmfjpheanphaa.Pr
