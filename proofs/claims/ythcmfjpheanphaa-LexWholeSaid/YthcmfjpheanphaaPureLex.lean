/- Plain laws of the layer 'lex': what the document's Of comes to. -/
import Derived.Test.YthcmfjpheanphaaPl3
import Derived.Test.YthcmfjpheanphaaPureB
namespace Go.Proofs.Ythcmfjpheanphaa.Pure
open Go.RowKit Go.Proofs.Ythcmfjpheanphaa.Pr Go.Proofs.YthcmfjpheanphaaW.PrintWords Go.Proofs.YthcmfjpheanphaaW.PrintLast
set_option linter.unusedVariables false
set_option linter.unusedSimpArgs false

/-- byte by byte spots, one behind the other -/
def lexGo (s : ByteArray) : Nat → Nat → List S47 → List S47 × Int × Int
  | 0, _, acc => (acc, 0, 0)
  | d + 1, at_, acc => if at_ < s.size then (if (nextP (s.extract at_ s.size) at_).e = 0 then lexGo s d (at_ + (nextP (s.extract at_ s.size) at_).size.toNat) (acc ++ [(nextP (s.extract at_ s.size) at_).l]) else ([], at_, (nextP (s.extract at_ s.size) at_).e)) else (acc, 0, 0)
def outL (acc : List S47) (L : List (Nat × Spot)) : List S47 × Int × Int := if lastE L = 0 then (acc ++ lexes L, 0, 0) else ([], lastAt L, lastE L)
theorem outL_nil (acc : List S47) : outL acc [] = (acc, 0, 0) := by simp [outL, lastE, lexes]
theorem outL_cons (acc : List S47) (x y : Nat × Spot) (L : List (Nat × Spot)) : outL acc (x :: y :: L) = outL (acc ++ [x.2.l]) (y :: L) := by
  have e1 : lastE (x :: y :: L) = lastE (y :: L) := by simp [lastE]
  have e2 : lastAt (x :: y :: L) = lastAt (y :: L) := by simp [lastAt]
  unfold outL
  rw [e2, show lexes (x :: y :: L) = x.2.l :: lexes (y :: L) from rfl]
  simp [e1]
theorem lexGo_all (s : ByteArray) : ∀ (d at_ : Nat) (acc : List S47), lexGo s d at_ acc = outL acc (allL s d at_)
  | 0, at_, acc => by simp only [lexGo, allL, outL_nil]
  | d + 1, at_, acc => by
    simp only [lexGo, allL]
    by_cases h : at_ < s.size
    · rw [if_pos h, if_pos h]
      by_cases he : (nextP (s.extract at_ s.size) at_).e = 0
      · rw [if_pos he, if_pos he, lexGo_all s d]
        generalize allL s d (at_ + (nextP (s.extract at_ s.size) at_).size.toNat) = L
        cases L with
        | nil => simp [outL, lastE, lexes, he]
        | cons y L => rw [outL_cons]
      · rw [if_neg he, if_neg he]
        simp [outL, lastE, lastAt, he]
    · rw [if_neg h, if_neg h, outL_nil]
theorem lexP_go (s : ByteArray) (h : s.size ≤ 8192) : lexP s = lexGo s s.size 0 [] := by
  unfold lexP
  rw [if_neg (by omega), lexGo_all]
  simp [outL]

theorem ext_ext (s : ByteArray) (a i j : Nat) (h : a + j ≤ s.size) : (s.extract a s.size).extract i j = s.extract (a + i) (a + j) := by
  rw [ByteArray.extract_extract]
  congr 1
  omega
theorem plainTo_ext (s : ByteArray) (p : Nat) (hp : p ≤ s.size) : ∀ d j, p + j ≤ s.size → p + plainTo (s.extract p s.size) d j = plainTo s d (p + j)
  | 0, j, _ => rfl
  | d + 1, j, hj => by
    simp only [plainTo]
    have hsz : (s.extract p s.size).size = s.size - p := by rw [ByteArray.size_extract]; omega
    by_cases h : p + j < s.size
    · have hb : bt (s.extract p s.size) (j : Int) = bt s ((p + j : Nat) : Int) := bt_extract s p s.size (Nat.le_refl _) j h
      rw [hb, hsz]
      by_cases hpl : plainP (bt s ((p + j : Nat) : Int)) = true
      · rw [if_pos ⟨by omega, hpl⟩, if_pos ⟨h, hpl⟩]
        exact plainTo_ext s p hp d (j + 1) (by omega)
      · rw [if_neg (fun h => hpl h.2), if_neg (fun h => hpl h.2)]
    · rw [if_neg (fun h' => by omega), if_neg (fun h' => by omega)]
theorem plainTo_le (t : ByteArray) : ∀ d q, q ≤ plainTo t d q
  | 0, q => Nat.le_refl _
  | d + 1, q => by
    simp only [plainTo]
    split
    · have := plainTo_le t d (q + 1); omega
    · exact Nat.le_refl _
theorem plainTo_more (t : ByteArray) : ∀ d e q, t.size ≤ d + q → t.size ≤ e + q → plainTo t d q = plainTo t e q
  | 0, e, q, h, _ => by rw [plainTo_stop t e q (fun h' => by omega)]; rfl
  | d + 1, 0, q, _, h => by rw [plainTo_stop t (d + 1) q (fun h' => by omega)]; rfl
  | d + 1, e + 1, q, h, h' => by
    simp only [plainTo]
    split
    · exact plainTo_more t d e (q + 1) (by omega) (by omega)
    · rfl
theorem plainTo_out (t : ByteArray) : ∀ d p, t.size ≤ d + p → plainTo t d p < t.size → ¬ plainP (bt t ((plainTo t d p : Nat) : Int)) = true
  | 0, p, h, h2 => by simp only [plainTo] at h2; omega
  | d + 1, p, h, h2 => by
    simp only [plainTo] at h2 ⊢
    split at h2
    · rename_i hc
      rw [if_pos hc]
      exact plainTo_out t d (p + 1) (by omega) h2
    · rename_i hc
      rw [if_neg hc]
      exact fun e => hc ⟨h2, e⟩
/-- where a text that goes on at q ends -/
def tEnd (s : ByteArray) (q : Nat) : Nat := plainTo s s.size q
theorem tEnd_step (s : ByteArray) (q : Nat) (h : q < s.size) (hp : plainP (bt s (q : Int)) = true) : tEnd s q = tEnd s (q + 1) := by
  unfold tEnd
  obtain ⟨n, hn⟩ : ∃ n, s.size = n + 1 := ⟨s.size - 1, by omega⟩
  have : plainTo s (n + 1) q = plainTo s n (q + 1) := by
    simp only [plainTo]; rw [if_pos ⟨h, hp⟩]
  rw [hn, this]
  exact plainTo_more s n (n + 1) (q + 1) (by omega) (by omega)
theorem tEnd_stop (s : ByteArray) (q : Nat) (h : ¬ (q < s.size ∧ plainP (bt s (q : Int)) = true)) : tEnd s q = q := plainTo_stop s _ q h
theorem tEnd_le (s : ByteArray) (q : Nat) (h : q ≤ s.size) : q ≤ tEnd s q ∧ tEnd s q ≤ s.size := ⟨plainTo_le s _ q, plainTo_size s _ q h⟩
/-- what is read at a place of a source, said by places of the source -/
theorem nextP_at (s : ByteArray) (p : Nat) (hp : p < s.size) :
    nextP (s.extract p s.size) p = if bt s (p : Int) = 123 then openP (s.extract p s.size) p else if bt s (p : Int) = 125 then ⟨⟨3, 0, ⟨#[]⟩, p⟩, 1, 0⟩
      else if tEnd s p = p then ⟨⟨0, 0, ⟨#[]⟩, 0⟩, 0, 3⟩ else ⟨⟨1, 0, s.extract p (tEnd s p), p⟩, ((tEnd s p - p : Nat) : Int), 0⟩ := by
  have hb : bt (s.extract p s.size) 0 = bt s (p : Int) := bt_extract s p s.size (Nat.le_refl _) 0 hp
  have hsz : (s.extract p s.size).size = s.size - p := by rw [ByteArray.size_extract]; omega
  have ht : p + plainTo (s.extract p s.size) (s.extract p s.size).size 0 = tEnd s p := by
    rw [plainTo_ext s p (by omega) _ 0 (by omega), hsz]
    exact plainTo_more s _ _ p (by omega) (by omega)
  have hle := tEnd_le s p (by omega)
  unfold nextP
  rw [hb]
  generalize plainTo (s.extract p s.size) (s.extract p s.size).size 0 = z at *
  split
  · rfl
  · split
    · rfl
    · by_cases hz : z = 0
      · rw [if_pos hz, if_pos (by omega)]
      · rw [if_neg hz, if_neg (by omega), ext_ext s p 0 z (by omega)]
        rw [show p + z = tEnd s p from ht, Nat.add_zero, show z = tEnd s p - p by omega]

/-! The document's opens. -/
def lettersB : ByteArray := ⟨#[49, 50, 51, 112, 108, 105, 116, 114, 99, 110, 101, 115, 107]⟩
theorem letters_f : stylusref03_Letters.f = some lettersB := rfl
theorem names_fin : ∀ i : Fin 13, stylusref03_Name.f 20 (bt lettersB (i.val : Int)) = some (namesL.getD i.val ⟨#[]⟩) ∧ letP (namesL.getD i.val ⟨#[]⟩) = bt lettersB (i.val : Int) ∧ letP (namesL.getD i.val ⟨#[]⟩) ≠ 0 := by decide +kernel
theorem names_at (i : Nat) (hi : i < 13) (k : Nat) (hk : 20 ≤ k) : stylusref03_Name.f k (bt lettersB (i : Int)) = some (namesL.getD i ⟨#[]⟩) ∧ letP (namesL.getD i ⟨#[]⟩) = bt lettersB (i : Int) := by
  have h := names_fin ⟨i, hi⟩
  exact ⟨at_rounds (fun k => stylusref03_Name.mono (bt lettersB (i : Int)) k) hk h.1, h.2.1⟩
theorem letP_ne (x : ByteArray) (h : x ∈ namesL) : letP x ≠ 0 := by
  have : ∀ y ∈ namesL, letP y ≠ 0 := by decide +kernel
  exact this x h
/-- what the document's opens tells -/
def opensOut : Option ByteArray → Int × ByteArray
  | some n => (letP n, n)
  | none => (0, ⟨#[]⟩)
theorem pref_at (s n : ByteArray) (p : Nat) (hp : p < s.size) : prefP ((s.extract p s.size).extract 1 (s.extract p s.size).size) n = if p + 1 + n.size ≤ s.size then (s.extract (p + 1) (p + 1 + n.size)).toList == n.toList else false := by
  have hsz : (s.extract p s.size).size = s.size - p := by rw [ByteArray.size_extract]; omega
  have e1 : (s.extract p s.size).extract 1 (s.extract p s.size).size = s.extract (p + 1) s.size := by
    rw [hsz, ext_ext s p 1 (s.size - p) (by omega)]
    congr 1; omega
  rw [e1]
  unfold prefP
  have hsz2 : (s.extract (p + 1) s.size).size = s.size - (p + 1) := by rw [ByteArray.size_extract]; omega
  rw [hsz2]
  by_cases h : p + 1 + n.size ≤ s.size
  · rw [if_pos (by omega), if_pos h, ext_ext s (p + 1) 0 n.size (by omega), Nat.add_zero]
  · rw [if_neg (by omega), if_neg h]
theorem opens_loop (s : ByteArray) (hs : s.size ≤ 1000000) (p : Nat) (hp : p < s.size) : ∀ (d i k : Nat), d + i = 13 → d + 21 ≤ k →
    stylusref03_opens.l0 k s (p : Int) (i : Int) = some (opensOut ((namesL.drop i).find? fun n => prefP ((s.extract p s.size).extract 1 (s.extract p s.size).size) n))
  | 0, i, k, hd, hk => by
    obtain ⟨k, rfl⟩ : ∃ m, k = m + 1 := ⟨k - 1, by omega⟩
    obtain rfl : i = 13 := by omega
    simp only [stylusref03_opens.l0, letters_f, Option.bind_some]
    rw [if_neg (by decide)]
    rfl
  | d + 1, i, k, hd, hk => by
    obtain ⟨k, rfl⟩ : ∃ m, k = m + 1 := ⟨k - 1, by omega⟩
    have hi : i < 13 := by omega
    have hn := names_at i hi k (by omega)
    have hlz : (lettersB.size : Int) = 13 := rfl
    have hdrop : namesL.drop i = namesL.getD i ⟨#[]⟩ :: namesL.drop (i + 1) := by
      rw [List.drop_eq_getElem_cons (show i < namesL.length from hi)]
      congr 1
      rw [List.getD_eq_getElem?_getD, List.getElem?_eq_getElem (show i < namesL.length from hi)]
      rfl
    have hxs := names_sizes (namesL.getD i ⟨#[]⟩) (by
      rw [List.getD_eq_getElem?_getD, List.getElem?_eq_getElem (show i < namesL.length from hi)]
      exact List.getElem_mem _)
    have ih := opens_loop s hs p hp d (i + 1) k (by omega) (by omega)
    have hpa := pref_at s (namesL.getD i ⟨#[]⟩) p hp
    rw [hdrop]
    generalize namesL.getD i ⟨#[]⟩ = x at *
    have q1 : (i : Int) < 13 := by omega
    have q2 : (0 : Int) ≤ (i : Int) := by omega
    have q3 : (0 : Int) ≤ ((p + 1 : Nat) : Int) := by omega
    have q4 : ((p + 1 : Nat) : Int) ≤ ((p + 1 + x.size : Nat) : Int) := by omega
    have q8 : i < 9223372036854775807 := by omega
    have q9 : p < 9223372036854775807 := by omega
    have q6 : p + 1 + x.size ≤ s.size → ((p + 1 + x.size : Nat) : Int) ≤ (s.size : Int) := fun h => by omega
    have q7 : ¬ p + 1 + x.size ≤ s.size → ¬ ((p + 1 + x.size : Nat) : Int) ≤ (s.size : Int) := fun h => by omega
    have w2 : wrap64 (((p + 1 : Nat) : Int) + (x.size : Int)) = ((p + 1 + x.size : Nat) : Int) := by
      have : p + 1 + x.size < 9223372036854775807 := by omega
      clear hn ih hpa hdrop
      unfold wrap64; omega
    have w1 : wrap64 ((p : Int) + 1) = ((p + 1 : Nat) : Int) := wrap_one q9
    have q5 : wrap64 ((i : Int) + 1) = ((i + 1 : Nat) : Int) := wrap_one q8
    have hn1 := hn.1
    have hn2 := hn.2
    have hlf := letters_f
    unfold stylusref03_opens.l0
    clear hdrop hxs hn
    generalize lettersB = LB at *
    simp only [hlf, Option.bind_some]
    rw [hlz]
    refine (if_pos q1).trans ?_
    refine (if_pos q2).trans ?_
    refine (if_pos q1).trans ?_
    rw [hn1, Option.bind_some, w1, w2, q5, ih, Int.toNat_natCast, Int.toNat_natCast]
    by_cases h1 : p + 1 + x.size ≤ s.size
    · rw [if_pos h1] at hpa
      refine (if_pos (q6 h1)).trans ?_
      refine (if_pos q3).trans ?_
      refine (if_pos q4).trans ?_
      by_cases h2 : (s.extract (p + 1) (p + 1 + x.size)).toList = x.toList
      · have h3 : ((s.extract (p + 1) (p + 1 + x.size)).toList == x.toList) = true := beq_iff_eq.2 h2
        rw [h3] at hpa
        refine (if_pos h2).trans ?_
        refine (if_pos q1).trans ?_
        rw [List.find?_cons_of_pos hpa]
        simp only [opensOut, hn2]
      · have h3 : ((s.extract (p + 1) (p + 1 + x.size)).toList == x.toList) = false := beq_eq_false_iff_ne.2 h2
        rw [h3] at hpa
        refine (if_neg h2).trans ?_
        rw [List.find?_cons_of_neg (by rw [hpa]; simp)]
    · rw [if_neg h1] at hpa
      refine (if_neg (q7 h1)).trans ?_
      rw [List.find?_cons_of_neg (by rw [hpa]; simp)]
theorem opens_f (s : ByteArray) (hs : s.size ≤ 1000000) (p : Nat) (hp : p < s.size) (k : Nat) (hk : 34 ≤ k) : stylusref03_opens.f k s (p : Int) = some (opensOut (openN (s.extract p s.size))) :=
  opens_loop s hs p hp 13 0 k rfl (by omega)

/-! The document's Of. -/
def isB (c : Int) : Bool := !(classP c == 0) && !(classP c == 6)
theorem is_fin : ∀ n : Fin 256, stylusref01_Is.f 20 (n.val : Int) = some (isB (n.val : Int)) ∧ stylusref01_White.f (n.val : Int) = some (whiteP (n.val : Int)) ∧ (plainP (n.val : Int) = (isB (n.val : Int) || whiteP (n.val : Int))) ∧ (plainP (n.val : Int) = true → (n.val : Int) ≠ 125 ∧ (n.val : Int) ≠ 123) := by decide +kernel
theorem is_at (c : Int) (h0 : 0 ≤ c) (h1 : c ≤ 255) (k : Nat) (hk : 20 ≤ k) : stylusref01_Is.f k c = some (isB c) ∧ stylusref01_White.f c = some (whiteP c) ∧ plainP c = (isB c || whiteP c) ∧ (plainP c = true → c ≠ 125 ∧ c ≠ 123) := by
  have h := is_fin ⟨c.toNat, by omega⟩
  simp only [Int.toNat_of_nonneg h0] at h
  exact ⟨at_rounds (fun k => stylusref01_Is.mono c k) hk h.1, h.2⟩
theorem empty_app (t : ByteArray) : (⟨#[]⟩ : ByteArray) ++ t = t := by
  apply ByteArray.ext
  simp
theorem rd47_last (acc : List S47) (x : S47) : rd_T47 (acc ++ [x]) ((acc.length : Nat) : Int) = x := by
  simp [rd_T47]
theorem set47_last (acc : List S47) (x y : S47) : (acc ++ [x]).set acc.length y = acc ++ [y] := by
  rw [List.set_append_right _ _ (Nat.le_refl _)]
  simp
/-- the document's step over a byte of a text that goes on -/
theorem refOf_j1_on (s : ByteArray) (hs : s.size ≤ 8192) (acc : List S47) (x : S47) (q k : Nat) (hq : q < s.size) (hl : acc.length ≤ 8192) (hx : x.f2.size ≤ 8192) :
    stylusref03_Of.j1 (k + 1) s (acc ++ [x]) 1 (q : Int) false = stylusref03_Of.l0 k s (acc ++ [⟨x.f0, x.f1, x.f2 ++ s.extract q (q + 1), x.f3⟩]) 1 ((q + 1 : Nat) : Int) := by
  have hlen : ((acc ++ [x]).length : Int) = (acc.length : Int) + 1 := by simp
  have w1 : wrap64 (((acc ++ [x]).length : Int) - 1) = ((acc.length : Nat) : Int) := by rw [hlen]; unfold wrap64; omega
  have w2 : wrap64 ((q : Int) + 1) = ((q + 1 : Nat) : Int) := wrap_one (by omega)
  have q1 : (0 : Int) ≤ ((acc.length : Nat) : Int) := Int.natCast_nonneg _
  have q2 : ((acc.length : Nat) : Int) < ((acc ++ [x]).length : Int) := by rw [hlen]; exact Int.lt_succ _
  have q3 : (0 : Int) ≤ ((q : Nat) : Int) := Int.natCast_nonneg _
  have q4 : ((q : Nat) : Int) ≤ ((q + 1 : Nat) : Int) := Int.ofNat_le.2 (Nat.le_succ q)
  have q5 : ((q + 1 : Nat) : Int) ≤ (s.size : Int) := Int.ofNat_le.2 hq
  have q6 : x.f2.size + (s.extract q (q + 1)).size ≤ 9223372036854775807 := by
    rw [ByteArray.size_extract]
    clear w1 w2 q1 q2 q3 q4 q5 hlen
    omega
  unfold stylusref03_Of.j1
  refine (if_neg (by simp)).trans ?_
  refine (if_neg (by decide)).trans ?_
  rw [w1, w2]
  refine (if_pos q1).trans ?_
  refine (if_pos q2).trans ?_
  refine (if_pos q3).trans ?_
  refine (if_pos q4).trans ?_
  refine (if_pos q5).trans ?_
  rw [rd47_last, Int.toNat_natCast, Int.toNat_natCast, Int.toNat_natCast, set47_last]
  exact if_pos q6
/-- the document's step over a text's first byte -/
theorem refOf_j1_first (s : ByteArray) (hs : s.size ≤ 8192) (acc : List S47) (q k : Nat) (hq : q < s.size) (hl : acc.length ≤ 8192) :
    stylusref03_Of.j1 (k + 1) s acc 0 (q : Int) false = stylusref03_Of.l0 k s (acc ++ [⟨1, 0, s.extract q (q + 1), q⟩]) 1 ((q + 1 : Nat) : Int) := by
  have h := refOf_j1_on s hs acc ⟨1, 0, ⟨#[]⟩, q⟩ q k hq hl (Nat.zero_le _)
  rw [← empty_app (s.extract q (q + 1))]
  rw [← h]
  unfold stylusref03_Of.j1
  have hl2 : acc.length < 3518437208883 := by omega
  refine (if_neg (by simp)).trans ?_
  refine (if_pos rfl).trans ?_
  refine (if_pos hl2).trans ?_
  simp only [Option.bind_some]
  refine Eq.symm ?_
  refine (if_neg (by simp)).trans ?_
  exact (if_neg (by decide))

/-- the test over a byte that is no brace -/
theorem refOf_plain (s : ByteArray) (acc : List S47) (f : Int) (q k : Nat) (hq : q < s.size) (h1 : bt s (q : Int) ≠ 125) (h2 : bt s (q : Int) ≠ 123) (hk : 20 ≤ k) :
    stylusref03_Of.l0 (k + 1) s acc f (q : Int) = stylusref03_Of.j1 k s acc f (q : Int) (!plainP (bt s (q : Int))) := by
  have hb := bt_range s q
  obtain ⟨e1, e2, e3, _⟩ := is_at _ hb.1 hb.2 k hk
  have q1 : ((q : Nat) : Int) < (s.size : Int) := Int.ofNat_lt.2 hq
  have q2 : (0 : Int) ≤ ((q : Nat) : Int) := Int.natCast_nonneg _
  unfold stylusref03_Of.l0
  refine (if_pos q1).trans ?_
  refine (if_pos q2).trans ?_
  refine (if_neg h1).trans ?_
  refine (if_neg h2).trans ?_
  rw [e1, e3]
  generalize isB (bt s (q : Int)) = b1 at *
  generalize whiteP (bt s (q : Int)) = b2 at *
  cases b1
  · simp only [Option.bind_some]
    refine (if_neg (by simp)).trans ?_
    rw [e2]
    simp only [Option.bind_some, Bool.false_or]
  · simp only [Option.bind_some, Bool.true_or]
    exact if_pos trivial
theorem extract_size_le (s : ByteArray) (i j : Nat) : (s.extract i j).size ≤ s.size := by rw [ByteArray.size_extract]; omega
/-- a text that goes on, up to its end -/
theorem refOf_text (s : ByteArray) (hs : s.size ≤ 8192) (acc : List S47) (hl : acc.length ≤ 8192) (p : Nat) (R : Option (List S47 × Int × Int)) : ∀ (d q k : Nat), d + q = s.size → p ≤ q → 2 * d + 60 ≤ k →
    (∀ k', 2 * (s.size - tEnd s q) + 60 ≤ k' → stylusref03_Of.l0 k' s (acc ++ [⟨1, 0, s.extract p (tEnd s q), p⟩]) 1 ((tEnd s q : Nat) : Int) = R) →
    stylusref03_Of.l0 k s (acc ++ [⟨1, 0, s.extract p q, p⟩]) 1 ((q : Nat) : Int) = R := by
  intro d
  induction d with
  | zero =>
    intro q k hd hp hk h
    have ht : tEnd s q = q := tEnd_stop s q (fun h => by omega)
    rw [ht] at h
    exact h k (by omega)
  | succ d ih =>
    intro q k hd hp hk h
    have hb := bt_range s q
    by_cases hpl : plainP (bt s (q : Int)) = true
    · obtain ⟨_, _, _, e4⟩ := is_at _ hb.1 hb.2 20 (by omega)
      obtain ⟨n1, n2⟩ := e4 hpl
      obtain ⟨k, rfl⟩ : ∃ m, k = m + 1 + 1 := ⟨k - 2, by omega⟩
      rw [refOf_plain s _ 1 q (k + 1) (by omega) n1 n2 (by omega), hpl]
      rw [show (!true) = false from rfl, refOf_j1_on s hs acc _ q k (by omega) hl (Nat.le_trans (extract_size_le s p q) hs)]
      simp only
      rw [ext_snoc s p q hp]
      have hst := tEnd_step s q (by omega) hpl
      rw [hst] at h
      exact ih (q + 1) k (by omega) (by omega) (by omega) h
    · have ht : tEnd s q = q := tEnd_stop s q (fun h => hpl h.2)
      rw [ht] at h
      exact h k (by omega)
theorem lexGo_step (s : ByteArray) (d at_ : Nat) (acc : List S47) (x : Spot) (hat : at_ < s.size) (hx : nextP (s.extract at_ s.size) at_ = x) (z : Nat) (h0 : x.e = 0) (hz : x.size = (z : Int)) :
    lexGo s (d + 1) at_ acc = lexGo s d (at_ + z) (acc ++ [x.l]) := by
  simp only [lexGo]
  rw [if_pos hat, hx, if_pos h0, hz, Int.toNat_natCast]
theorem lexGo_bad (s : ByteArray) (d at_ : Nat) (acc : List S47) (x : Spot) (hat : at_ < s.size) (hx : nextP (s.extract at_ s.size) at_ = x) (h0 : x.e ≠ 0) :
    lexGo s (d + 1) at_ acc = ([], (at_ : Int), x.e) := by
  simp only [lexGo]
  rw [if_pos hat, hx, if_neg h0]
theorem next_close (s : ByteArray) (p : Nat) (hp : p < s.size) (h : bt s (p : Int) = 125) : nextP (s.extract p s.size) p = ⟨⟨3, 0, ⟨#[]⟩, p⟩, 1, 0⟩ := by
  rw [nextP_at s p hp]
  have h1 : ¬ bt s (p : Int) = 123 := fun e => by rw [h] at e; exact absurd e (by decide)
  rw [if_neg h1, if_pos h]
theorem next_open (s : ByteArray) (p : Nat) (hp : p < s.size) (h : bt s (p : Int) = 123) : nextP (s.extract p s.size) p = openP (s.extract p s.size) p := by
  rw [nextP_at s p hp, if_pos h]
theorem next_text (s : ByteArray) (p : Nat) (hp : p < s.size) (h1 : bt s (p : Int) ≠ 123) (h2 : bt s (p : Int) ≠ 125) (h3 : plainP (bt s (p : Int)) = true) : p < tEnd s p ∧ nextP (s.extract p s.size) p = ⟨⟨1, 0, s.extract p (tEnd s p), p⟩, ((tEnd s p - p : Nat) : Int), 0⟩ := by
  have hst := tEnd_step s p hp h3
  have hle := tEnd_le s (p + 1) (by omega)
  have hlt : p < tEnd s p := by omega
  refine ⟨hlt, ?_⟩
  rw [nextP_at s p hp, if_neg h1, if_neg h2, if_neg (by omega)]
theorem next_bad (s : ByteArray) (p : Nat) (hp : p < s.size) (h1 : bt s (p : Int) ≠ 123) (h2 : bt s (p : Int) ≠ 125) (h3 : ¬ plainP (bt s (p : Int)) = true) : nextP (s.extract p s.size) p = ⟨⟨0, 0, ⟨#[]⟩, 0⟩, 0, 3⟩ := by
  rw [nextP_at s p hp, if_neg h1, if_neg h2, if_pos (tEnd_stop s p (fun h => h3 h.2))]
/-- behind an opening: how far -/
def openZ (s : ByteArray) (p : Nat) (x : ByteArray) : Nat := if p + x.size + 1 < s.size ∧ whiteP (bt s ((p + x.size + 1 : Nat) : Int)) = true then x.size + 2 else x.size + 1
theorem openP_some (s : ByteArray) (p : Nat) (hp : p < s.size) (x : ByteArray) (hn : openN (s.extract p s.size) = some x) :
    openP (s.extract p s.size) p = ⟨⟨2, letP x, ⟨#[]⟩, p⟩, ((openZ s p x : Nat) : Int), 0⟩ ∧ x ∈ namesL ∧ p + x.size + 1 ≤ s.size := by
  obtain ⟨hp1, hp2⟩ := openN_pref (s.extract p s.size) x hn
  have hsz : (s.extract p s.size).size = s.size - p := by rw [ByteArray.size_extract]; omega
  have hps := prefP_size hp1
  rw [ByteArray.size_extract, hsz] at hps
  refine ⟨?_, hp2, by omega⟩
  unfold openP openZ
  rw [hn]
  simp only
  rw [hsz]
  by_cases hlt : p + x.size + 1 < s.size
  · have hbx : bt (s.extract p s.size) ((x.size + 1 : Nat) : Int) = bt s ((p + (x.size + 1) : Nat) : Int) := bt_extract s p s.size (Nat.le_refl _) (x.size + 1) (by omega)
    rw [hbx, show p + (x.size + 1) = p + x.size + 1 by omega]
    by_cases hw : whiteP (bt s ((p + x.size + 1 : Nat) : Int)) = true
    · rw [if_pos ⟨by omega, hw⟩, if_pos ⟨hlt, hw⟩]; rfl
    · rw [if_neg (fun h => hw h.2), if_neg (fun h => hw h.2)]; rfl
  · rw [if_neg (fun h => by omega), if_neg (fun h => hlt h.1)]; rfl
theorem openP_none (s : ByteArray) (p : Nat) (hn : openN (s.extract p s.size) = none) : openP (s.extract p s.size) p = ⟨⟨0, 0, ⟨#[]⟩, 0⟩, 0, 2⟩ := by
  unfold openP; rw [hn]
/-- the document's step over a closing -/
theorem refOf_close (s : ByteArray) (acc : List S47) (f : Int) (p k : Nat) (hp : p < s.size) (hs : s.size ≤ 8192) (hl : acc.length ≤ 8192) (h : bt s (p : Int) = 125) :
    stylusref03_Of.l0 (k + 1) s acc f (p : Int) = stylusref03_Of.l0 k s (acc ++ [⟨3, 0, ⟨#[]⟩, p⟩]) 0 ((p + 1 : Nat) : Int) := by
  have q1 : ((p : Nat) : Int) < (s.size : Int) := Int.ofNat_lt.2 hp
  have q3 : acc.length < 3518437208883 := by omega
  have q4 : p < 9223372036854775807 := by omega
  conv => lhs; unfold stylusref03_Of.l0
  refine (if_pos q1).trans ?_
  refine (if_pos (Int.natCast_nonneg _)).trans ?_
  refine (if_pos h).trans ?_
  refine (if_pos q3).trans ?_
  rw [wrap_one q4]
theorem wrap_two {p z : Nat} (h : p ≤ 8192) (hz : z ≤ 8192) : wrap64 (wrap64 (((p : Nat) : Int) + (z : Int)) + 1) = ((p + z + 1 : Nat) : Int) := by
  unfold wrap64; omega
/-- the document's step over an opening -/
theorem refOf_open (s : ByteArray) (acc : List S47) (f : Int) (p k : Nat) (hp : p < s.size) (hs : s.size ≤ 8192) (hl : acc.length ≤ 8192) (h : bt s (p : Int) = 123) (hk : 34 ≤ k) (x : ByteArray) (hn : openN (s.extract p s.size) = some x) :
    stylusref03_Of.l0 (k + 1) s acc f (p : Int) = stylusref03_Of.l0 k s (acc ++ [⟨2, letP x, ⟨#[]⟩, p⟩]) 0 ((p + openZ s p x : Nat) : Int) := by
  obtain ⟨_, hx, hsz⟩ := openP_some s p hp x hn
  have q1 : ((p : Nat) : Int) < (s.size : Int) := Int.ofNat_lt.2 hp
  have q3 : acc.length < 3518437208883 := by omega
  have q4 : p + x.size + 1 < 9223372036854775807 := by omega
  have q5 : ¬ bt s (p : Int) = 125 := fun e => by rw [h] at e; exact absurd e (by decide)
  have w2 := wrap_two (p := p) (z := x.size) (by omega) (by omega)
  have hop := opens_f s (by omega) p hp k hk
  rw [hn] at hop
  conv => lhs; unfold stylusref03_Of.l0
  refine (if_pos q1).trans ?_
  refine (if_pos (Int.natCast_nonneg _)).trans ?_
  refine (if_neg q5).trans ?_
  refine (if_pos h).trans ?_
  rw [hop]
  refine (Option.bind_some _ _).trans ?_
  refine (if_neg (letP_ne x hx)).trans ?_
  refine (if_pos q3).trans ?_
  refine (Option.bind_some _ _).trans ?_
  rw [show (opensOut (some x)).2 = x from rfl, show (opensOut (some x)).1 = letP x from rfl, w2]
  unfold openZ
  by_cases hlt : p + x.size + 1 < s.size
  · refine (if_pos (Int.ofNat_lt.2 hlt)).trans ?_
    refine (if_pos (Int.natCast_nonneg _)).trans ?_
    have hbr := bt_range s ((p + x.size + 1 : Nat) : Int)
    rw [(is_at _ hbr.1 hbr.2 20 (Nat.le_refl _)).2.1]
    refine (Option.bind_some _ _).trans ?_
    by_cases hw : whiteP (bt s ((p + x.size + 1 : Nat) : Int)) = true
    · refine (if_pos hw).trans ?_
      have hz : p + (if p + x.size + 1 < s.size ∧ whiteP (bt s ((p + x.size + 1 : Nat) : Int)) = true then x.size + 2 else x.size + 1) = p + x.size + 1 + 1 := by rw [if_pos ⟨hlt, hw⟩]; omega
      rw [hz, wrap_one q4]
    · refine (if_neg hw).trans ?_
      have hz : p + (if p + x.size + 1 < s.size ∧ whiteP (bt s ((p + x.size + 1 : Nat) : Int)) = true then x.size + 2 else x.size + 1) = p + x.size + 1 := by rw [if_neg (fun h => hw h.2)]; omega
      rw [hz]
  · refine (if_neg (fun h => hlt (Int.ofNat_lt.1 h))).trans ?_
    have hz : p + (if p + x.size + 1 < s.size ∧ whiteP (bt s ((p + x.size + 1 : Nat) : Int)) = true then x.size + 2 else x.size + 1) = p + x.size + 1 := by rw [if_neg (fun h => hlt h.1)]; omega
    rw [hz]
theorem refOf_open0 (s : ByteArray) (acc : List S47) (f : Int) (p k : Nat) (hp : p < s.size) (hs : s.size ≤ 8192) (h : bt s (p : Int) = 123) (hk : 34 ≤ k) (hn : openN (s.extract p s.size) = none) :
    stylusref03_Of.l0 (k + 1) s acc f (p : Int) = some ([], (p : Int), 2) := by
  have q1 : ((p : Nat) : Int) < (s.size : Int) := Int.ofNat_lt.2 hp
  have q5 : ¬ bt s (p : Int) = 125 := fun e => by rw [h] at e; exact absurd e (by decide)
  have hop := opens_f s (by omega) p hp k hk
  rw [hn] at hop
  conv => lhs; unfold stylusref03_Of.l0
  refine (if_pos q1).trans ?_
  refine (if_pos (Int.natCast_nonneg _)).trans ?_
  refine (if_neg q5).trans ?_
  refine (if_pos h).trans ?_
  rw [hop]
  refine (Option.bind_some _ _).trans ?_
  exact if_pos rfl
theorem refOf_loop (s : ByteArray) (hs : s.size ≤ 8192) : ∀ (m at_ d k : Nat) (acc : List S47) (f : Int), s.size - at_ ≤ m → at_ ≤ s.size → s.size ≤ d + at_ → acc.length ≤ at_ → 2 * (s.size - at_) + 60 ≤ k →
    (f = 0 ∨ (f = 1 ∧ ¬ (at_ < s.size ∧ plainP (bt s (at_ : Int)) = true))) → stylusref03_Of.l0 k s acc f (at_ : Int) = some (lexGo s d at_ acc) := by
  intro m
  induction m with
  | zero =>
    intro at_ d k acc f hm ha hd hl hk hf
    obtain ⟨k, rfl⟩ : ∃ m, k = m + 1 := ⟨k - 1, by omega⟩
    obtain rfl : at_ = s.size := by omega
    unfold stylusref03_Of.l0
    refine (if_neg (by omega)).trans ?_
    cases d with
    | zero => rfl
    | succ d => simp only [lexGo]; rw [if_neg (by omega)]
  | succ m ih =>
    intro at_ d k acc f hm ha hd hl hk hf
    by_cases hat : at_ < s.size
    case neg => exact ih at_ d k acc f (by omega) ha hd hl hk hf
    obtain ⟨d, rfl⟩ : ∃ x, d = x + 1 := ⟨d - 1, by omega⟩
    obtain ⟨k, rfl⟩ : ∃ x, k = x + 1 + 1 := ⟨k - 2, by omega⟩
    have hl8 : acc.length ≤ 8192 := by omega
    have hk34 : 34 ≤ k + 1 := by omega
    by_cases h125 : bt s (at_ : Int) = 125
    · rw [refOf_close s acc f at_ (k + 1) hat hs hl8 h125, lexGo_step s d at_ acc _ hat (next_close s at_ hat h125) 1 rfl rfl]
      exact ih (at_ + 1) d (k + 1) _ 0 (by omega) (by omega) (by omega) (by simp; omega) (by omega) (.inl rfl)
    · by_cases h123 : bt s (at_ : Int) = 123
      · cases hn : openN (s.extract at_ s.size) with
        | none =>
          rw [refOf_open0 s acc f at_ (k + 1) hat hs h123 hk34 hn, lexGo_bad s d at_ acc _ hat ((next_open s at_ hat h123).trans (openP_none s at_ hn)) (by decide)]
        | some x =>
          obtain ⟨g1, g2, g3⟩ := openP_some s at_ hat x hn
          have hz : 1 ≤ openZ s at_ x ∧ at_ + openZ s at_ x ≤ s.size := by
            unfold openZ
            split
            · rename_i h; omega
            · omega
          rw [refOf_open s acc f at_ (k + 1) hat hs hl8 h123 hk34 x hn, lexGo_step s d at_ acc _ hat ((next_open s at_ hat h123).trans g1) (openZ s at_ x) rfl rfl]
          exact ih (at_ + openZ s at_ x) d (k + 1) _ 0 (by omega) (by omega) (by omega) (by simp; omega) (by omega) (.inl rfl)
      · rw [refOf_plain s acc f at_ (k + 1) hat h125 h123 (by omega)]
        by_cases hpl : plainP (bt s (at_ : Int)) = true
        · obtain rfl : f = 0 := by
            rcases hf with h | h
            · exact h
            · exact absurd ⟨hat, hpl⟩ h.2
          obtain ⟨g1, g2⟩ := next_text s at_ hat h123 h125 hpl
          have hst := tEnd_step s at_ hat hpl
          have hle := tEnd_le s (at_ + 1) (by omega)
          rw [hpl, show (!true) = false from rfl, refOf_j1_first s hs acc at_ k hat hl8, lexGo_step s d at_ acc _ hat g2 (tEnd s at_ - at_) rfl rfl]
          rw [show at_ + (tEnd s at_ - at_) = tEnd s at_ by omega]
          have hstop : ¬ (tEnd s (at_ + 1) < s.size ∧ plainP (bt s ((tEnd s (at_ + 1) : Nat) : Int)) = true) := fun h => plainTo_out s s.size (at_ + 1) (by omega) h.1 h.2
          refine refOf_text s hs acc hl8 at_ _ (s.size - (at_ + 1)) (at_ + 1) k (by omega) (by omega) (by omega) (fun k' hk' => ?_)
          rw [← hst] at hstop hk' hle ⊢
          exact ih (tEnd s at_) d k' _ 1 (by omega) (by omega) (by omega) (by simp; omega) (by omega) (.inr ⟨rfl, hstop⟩)
        · have hpf : plainP (bt s (at_ : Int)) = false := by simpa using hpl
          rw [hpf, show (!false) = true from rfl, lexGo_bad s d at_ acc _ hat (next_bad s at_ hat h123 h125 hpl) (by decide)]
          unfold stylusref03_Of.j1
          exact if_pos rfl
theorem refOf_f (s : ByteArray) (k : Nat) (hk : 2 * s.size + 60 ≤ k) : stylusref03_Of.f k s = some (lexP s) := by
  unfold stylusref03_Of.f
  by_cases h : s.size ≤ 8192
  · rw [if_neg (by omega), lexP_go s h]
    exact refOf_loop s h s.size 0 s.size k [] 0 (by omega) (by omega) (by omega) (by simp) (by omega) (.inl rfl)
  · rw [if_pos (by omega)]
    unfold lexP
    rw [if_pos (by omega)]
theorem same47_loop (L : List S47) (hL : L.length ≤ 1000000) : ∀ (d i k : Nat), d + i = L.length → d + 1 ≤ k → stylusref03_Same.l0 k L L (i : Int) = some true
  | 0, i, k, hd, hk => by
    obtain ⟨k, rfl⟩ : ∃ m, k = m + 1 := ⟨k - 1, by omega⟩
    simp only [stylusref03_Same.l0]
    rw [if_neg (by omega)]
  | d + 1, i, k, hd, hk => by
    obtain ⟨k, rfl⟩ : ∃ m, k = m + 1 := ⟨k - 1, by omega⟩
    simp only [stylusref03_Same.l0]
    rw [if_pos (by omega), if_pos (by omega), if_pos (by omega), if_neg (by simp), wrap_one (by omega)]
    exact same47_loop L hL d (i + 1) k (by omega) (by omega)
theorem same47_f (L : List S47) (hL : L.length ≤ 1000000) (k : Nat) (hk : L.length + 1 ≤ k) : stylusref03_Same.f k L L = some true := by
  unfold stylusref03_Same.f
  rw [if_pos rfl]
  exact same47_loop L hL L.length 0 k (by omega) hk
theorem allL_length (s : ByteArray) : ∀ d at_, (allL s d at_).length ≤ d
  | 0, _ => Nat.le_refl _
  | d + 1, at_ => by
    simp only [allL]
    split
    · simp only [List.length_cons]
      split
      · have := allL_length s d (at_ + (nextP (s.extract at_ s.size) at_).size.toNat); omega
      · simp
    · simp
theorem lexP_length (s : ByteArray) : (lexP s).1.length ≤ s.size := by
  unfold lexP
  split
  · simp
  · split
    · simp only [lexes_length]; exact allL_length s s.size 0
    · simp
end Go.Proofs.Ythcmfjpheanphaa.Pure
