/- What is read, told place by place: plain Lean for LexWhole. -/
import Derived.Test.YthcmfjpheanphaaPureLexReads
import Derived.Test.YthcmfjpheanphaaHname
import Derived.Test.YthcmfjpheanphaaPureParted
namespace Go.Proofs.Ythcmfjpheanphaa.Pure
open Go.RowKit Go.Proofs.Ythcmfjpheanphaa.Pr Go.Proofs.YthcmfjpheanphaaW.PrintWords Go.Proofs.YthcmfjpheanphaaW.PrintLast
set_option linter.unusedVariables false

/-- the three kinds -/
inductive Piece (s : ByteArray) (p : Nat) : S47 → Nat → Prop
  | text (q : Nat) (h1 : p < q) (h2 : q ≤ s.size) (h3 : plainP (bt s (p : Int)) = true) (h4 : ¬ (q < s.size ∧ plainP (bt s (q : Int)) = true)) : Piece s p ⟨1, 0, s.extract p q, p⟩ (q - p)
  | opens (n : ByteArray) (h1 : n ∈ namesL) (h2 : s.extract p (p + (⟨#[123]⟩ ++ n : ByteArray).size) = ⟨#[123]⟩ ++ n) (h3 : p + 1 + n.size ≤ s.size) : Piece s p ⟨2, letP n, ⟨#[]⟩, p⟩ (openZ s p n)
  | closes (h1 : s.extract p (p + 1) = ⟨#[125]⟩) (h2 : p < s.size) : Piece s p ⟨3, 0, ⟨#[]⟩, p⟩ 1
theorem ext_one (s : ByteArray) (p : Nat) (c : UInt8) (hp : p < s.size) (h : bt s (p : Int) = c.toNat) : s.extract p (p + 1) = ⟨#[c]⟩ := by
  have hz : (⟨#[c]⟩ : ByteArray).size = 1 := rfl
  apply byte_ext
  · rw [ByteArray.size_extract, hz]; omega
  · intro j hj
    rw [ByteArray.size_extract] at hj
    obtain rfl : j = 0 := by omega
    rw [bt_extract s p (p + 1) (by omega) 0 (by omega)]
    exact h
theorem next_piece (s : ByteArray) (p : Nat) (hp : p < s.size) (he : (nextP (s.extract p s.size) p).e = 0) :
    ∃ z, (nextP (s.extract p s.size) p).size = ((z : Nat) : Int) ∧ Piece s p (nextP (s.extract p s.size) p).l z ∧ 1 ≤ z ∧ p + z ≤ s.size := by
  by_cases h1 : bt s (p : Int) = 123
  · rw [next_open s p hp h1] at he ⊢
    cases hn : openN (s.extract p s.size) with
    | none => rw [openP_none s p hn] at he; exact absurd he (by simp)
    | some n =>
      obtain ⟨g1, g2, g3⟩ := openP_some s p hp n hn
      have g4 := (openN_pref (s.extract p s.size) n hn).1
      rw [g1]
      refine ⟨_, rfl, ?_, ?_, ?_⟩
      · refine .opens n g2 ?_ (by omega)
        rw [pref_at s n p hp, if_pos (by omega)] at g4
        have g5 := toList_inj (eq_of_beq g4)
        have e0 : (⟨#[123]⟩ ++ n : ByteArray).size = 1 + n.size := by rw [ByteArray.size_append]; rfl
        rw [e0]
        have hz : (⟨#[123]⟩ : ByteArray).size = 1 := rfl
        apply byte_ext
        · rw [ByteArray.size_extract, e0]; omega
        · intro j hj
          rw [ByteArray.size_extract] at hj
          rw [bt_extract s p _ (by omega) j (by omega)]
          cases j with
          | zero =>
            have := bt_app_left ⟨#[123]⟩ n 0 (by rw [hz]; omega)
            rw [this]
            exact h1
          | succ j =>
            have := bt_app_right ⟨#[123]⟩ n j (by omega)
            rw [hz, show 1 + j = j + 1 by omega] at this
            rw [this, ← g5, bt_extract s (p + 1) _ (by omega) j (by omega), show p + (j + 1) = p + 1 + j by omega]
      · unfold openZ; split <;> omega
      · unfold openZ; split <;> omega
  · by_cases h2 : bt s (p : Int) = 125
    · rw [next_close s p hp h2] at he ⊢
      exact ⟨1, rfl, .closes (ext_one s p 125 hp (by rw [h2]; rfl)) hp, Nat.le_refl _, by omega⟩
    · by_cases h3 : plainP (bt s (p : Int)) = true
      · obtain ⟨g1, g2⟩ := next_text s p hp h1 h2 h3
        have g3 := (tEnd_le s p (by omega)).2
        rw [g2]
        refine ⟨_, rfl, .text (tEnd s p) g1 g3 h3 ?_, by omega, by omega⟩
        rintro ⟨k1, k2⟩
        exact plainTo_out s s.size p (by omega) k1 k2
      · rw [next_bad s p hp h1 h2 h3] at he
        exact absurd he (by simp)
theorem whole_step (s : ByteArray) (l : List S47) (d p i : Nat) (h1 : lexes (allL s d p) = l.drop i) (h2 : lastE (allL s d p) = 0) (hi : i < l.length) (hd : s.size ≤ d + p) (hp : p ≤ s.size) :
    ∃ d' z x, p < s.size ∧ l[i]? = some x ∧ Piece s p x z ∧ 1 ≤ z ∧ p + z ≤ s.size ∧ lexes (allL s d' (p + z)) = l.drop (i + 1) ∧ lastE (allL s d' (p + z)) = 0 ∧ s.size ≤ d' + (p + z) := by
  cases d with
  | zero =>
    have : (l.drop i).length = 0 := by rw [← h1]; rfl
    rw [List.length_drop] at this
    omega
  | succ d =>
    simp only [allL] at h1 h2
    by_cases hlt : p < s.size
    · rw [if_pos hlt] at h1 h2
      have he : (nextP (s.extract p s.size) p).e = 0 := by
        by_cases he : (nextP (s.extract p s.size) p).e = 0
        · exact he
        · rw [if_neg he] at h2
          simp [lastE] at h2
          exact absurd h2 he
      obtain ⟨z, g1, g2, g3, g4⟩ := next_piece s p hlt he
      rw [if_pos he, g1, Int.toNat_natCast] at h1 h2
      rw [List.drop_eq_getElem_cons hi] at h1
      simp only [lexes, List.map_cons, List.cons.injEq] at h1
      refine ⟨d, z, _, hlt, ?_, g2, g3, g4, h1.2, ?_, by omega⟩
      · rw [List.getElem?_eq_getElem hi, h1.1]
      · cases hL : allL s d (p + z) with
        | nil => rfl
        | cons y L => rw [hL] at h2; simpa [lastE] using h2
    · rw [if_neg hlt] at h1
      have : (l.drop i).length = 0 := by rw [← h1]; rfl
      rw [List.length_drop] at this
      omega
theorem whole_end (s : ByteArray) (l : List S47) (d p : Nat) (h1 : lexes (allL s d p) = l.drop l.length) (hd : s.size ≤ d + p) (hp : p ≤ s.size) : p = s.size := by
  cases d with
  | zero => omega
  | succ d =>
    simp only [allL, List.drop_length] at h1
    by_cases hlt : p < s.size
    · rw [if_pos hlt] at h1
      simp [lexes] at h1
    · omega
theorem whole_start (s : ByteArray) (l : List S47) (a : Int) (h : lexP s = (l, a, 0)) : lexes (allL s s.size 0) = l.drop 0 ∧ lastE (allL s s.size 0) = 0 := by
  unfold lexP at h
  split at h
  · simp at h
  · split at h
    · rename_i h2
      simp only [Prod.mk.injEq] at h
      exact ⟨h.1, h2⟩
    · rename_i h2
      simp only [Prod.mk.injEq] at h
      exact absurd h.2.2 h2
theorem name_letP (n : ByteArray) (h : n ∈ namesL) : nameP (letP n) = n := by
  have : ∀ y ∈ namesL, nameP (letP y) = y := by decide +kernel
  exact this n h
theorem name_size (n : ByteArray) (h : n ∈ namesL) : 0 < n.size ∧ n.size ≤ 2 := by
  have : ∀ y ∈ namesL, 0 < y.size ∧ y.size ≤ 2 := by decide +kernel
  exact this n h
theorem whole_bad (s : ByteArray) (l : List S47) (a e : Int) (h : lexP s = (l, a, e)) (he : e ≠ 0) : l = [] := by
  unfold lexP at h
  split at h
  · simp only [Prod.mk.injEq] at h; exact h.1.symm
  · split at h
    · simp only [Prod.mk.injEq] at h
      exact absurd h.2.2.symm he
    · simp only [Prod.mk.injEq] at h; exact h.1.symm
end Go.Proofs.Ythcmfjpheanphaa.Pure
