/- Plain laws of the layer 'chars': what the document's Low, Case and Runs come to. -/
import Derived.Test.YthcmfjpheanphaaPureA
import Derived.Test.YthcmfjpheanphaaHrefruns
namespace Go.Proofs.Ythcmfjpheanphaa.Pure
open Go.RowKit Go.Proofs.Ythcmfjpheanphaa.Pr Go.Proofs.YthcmfjpheanphaaW.PrintWords
set_option linter.unusedVariables false
set_option linter.unusedSimpArgs false

def letB (c : Int) : Bool := classP c == 1 || classP c == 2
theorem ref_fin : ∀ n : Fin 256, stylusref01_Lower.f 20 (n.val : Int) = some (lowI (n.val : Int)) ∧ stylusref01_Letter.f 20 (n.val : Int) = some (letB (n.val : Int)) ∧ stylusref01_Class.f 20 (n.val : Int) = some (classP (n.val : Int)) := by decide +kernel
theorem ref_at (c : Int) (h0 : 0 ≤ c) (h1 : c ≤ 255) (k : Nat) (hk : 20 ≤ k) : stylusref01_Lower.f k c = some (lowI c) ∧ stylusref01_Letter.f k c = some (letB c) ∧ stylusref01_Class.f k c = some (classP c) := by
  have h := ref_fin ⟨c.toNat, by omega⟩
  simp only [Int.toNat_of_nonneg h0] at h
  exact ⟨at_rounds (fun k => stylusref01_Lower.mono c k) hk h.1, at_rounds (fun k => stylusref01_Letter.mono c k) hk h.2.1, at_rounds (fun k => stylusref01_Class.mono c k) hk h.2.2⟩
theorem wrap_one {i : Nat} (h : i < 9223372036854775807) : wrap64 ((i : Int) + 1) = ((i + 1 : Nat) : Int) := by
  unfold wrap64; omega

theorem refLow_loop (s : ByteArray) (hs : s.size ≤ 140737488351232) : ∀ (d i k : Nat), d + i = s.size → d + 21 ≤ k →
    stylusref01_Low.l0 k s ((List.range i).map fun (j : Nat) => lowI (bt s (j : Int))) (i : Int) = some (lowS s)
  | 0, i, k, hd, hk => by
    obtain ⟨k, rfl⟩ : ∃ m, k = m + 1 := ⟨k - 1, by omega⟩
    simp only [stylusref01_Low.l0]
    rw [if_neg (by omega)]
    obtain rfl : i = s.size := by omega
    rfl
  | d + 1, i, k, hd, hk => by
    obtain ⟨k, rfl⟩ : ∃ m, k = m + 1 := ⟨k - 1, by omega⟩
    simp only [stylusref01_Low.l0]
    have hb := bt_range s i
    rw [if_pos (by omega), if_pos (by omega), (ref_at _ hb.1 hb.2 k (by omega)).1]
    simp only [Option.bind_some]
    rw [if_pos (by simp; omega), wrap_one (by omega)]
    have := refLow_loop s hs d (i + 1) k (by omega) (by omega)
    rw [List.range_succ, List.map_append] at this
    exact this
theorem refLow_f (s : ByteArray) (hs : s.size ≤ 140737488351232) (k : Nat) (hk : s.size + 21 ≤ k) : stylusref01_Low.f k s = some (lowS s) :=
  refLow_loop s hs s.size 0 k (by omega) hk

/-- what the document's Case tells at the end -/
def caseEnd (s : ByteArray) (v : Int) : Int := if s.size = 0 then 0 else if v = 0 then 1 else if v = 1 ∧ classP (bt s 0) = 2 then 2 else if v = s.size then 3 else 4
theorem refCase_end (s : ByteArray) (k : Nat) (v : Int) (i : Nat) (hi : s.size ≤ i) (hk : 22 ≤ k) : stylusref01_Case.l0 k s v i = some (caseEnd s v) := by
  obtain ⟨k, rfl⟩ : ∃ m, k = m + 1 := ⟨k - 1, by omega⟩
  simp only [stylusref01_Case.l0]
  rw [if_neg (by omega)]
  unfold caseEnd
  have hb := bt_range s 0
  obtain ⟨k, rfl⟩ : ∃ m, k = m + 1 := ⟨k - 1, by omega⟩
  have hc := (ref_at _ hb.1 hb.2 (k + 1) (by omega)).2.2
  by_cases h0 : s.size = 0
  · rw [if_pos (by omega), if_pos h0]
  · rw [if_neg (by omega), if_neg h0]
    by_cases h1 : v = 0
    · rw [if_pos h1, if_pos h1]
    · rw [if_neg h1, if_neg h1]
      by_cases h2 : v = 1
      · rw [if_pos h2, if_pos (by omega), hc]
        simp only [Option.bind_some, stylusref01_Case.j1]
        by_cases h3 : classP (bt s 0) = 2
        · simp [h3, h2]
        · simp [h3, h2]
          split <;> rfl
      · rw [if_neg h2, if_neg (fun h => h2 h.1)]
        simp only [stylusref01_Case.j1]
        simp
        split <;> rfl
open Classical in
theorem refCase_loop (s : ByteArray) (hs : s.size ≤ 140737488351232) : ∀ (e i k v : Nat), e + i = s.size → e + 23 ≤ k → v ≤ i →
    stylusref01_Case.l0 k s (v : Int) (i : Int) = some (if (∀ j, i ≤ j → j < s.size → clsAt s j = 1 ∨ clsAt s j = 2) then caseEnd s ((v + caps s e i : Nat) : Int) else 0) := by
  intro e
  induction e with
  | zero =>
    intro i k v he hk hv
    rw [refCase_end s k v i (by omega) (by omega), if_pos (fun j h1 h2 => by omega)]
    simp [caps]
  | succ e ih =>
    intro i k v he hk hv
    obtain ⟨k, rfl⟩ : ∃ m, k = m + 1 := ⟨k - 1, by omega⟩
    have hb := bt_range s i
    have hr := ref_at _ hb.1 hb.2 k (by omega)
    have hcl : classP (bt s (i : Int)) = clsAt s i := rfl
    simp only [stylusref01_Case.l0]
    rw [if_pos (by omega), if_pos (by omega), hr.2.1]
    simp only [Option.bind_some, letB, hcl]
    rw [hr.2.2, hcl]
    simp only [Option.bind_some]
    have hall : ∀ {p : Prop} (hp : p ↔ (clsAt s i = 1 ∨ clsAt s i = 2)), p → ((∀ j, i ≤ j → j < s.size → clsAt s j = 1 ∨ clsAt s j = 2) ↔ (∀ j, i + 1 ≤ j → j < s.size → clsAt s j = 1 ∨ clsAt s j = 2)) := fun hp h =>
      ⟨fun H j h1 h2 => H j (by omega) h2, fun H j h1 h2 => by
        by_cases hj : j = i
        · subst hj; exact hp.1 h
        · exact H j (by omega) h2⟩
    by_cases h2 : clsAt s i = 2
    · simp only [h2, caps, if_true, wrap_one (show v < 9223372036854775807 by omega), wrap_one (show i < 9223372036854775807 by omega)]
      simp only [show ((2 : Int) == 1 || (2 : Int) == 2) = true from rfl, if_true]
      rw [ih (i + 1) k (v + 1) (by omega) (by omega) (by omega)]
      simp only [hall Iff.rfl (.inr h2), show v + (1 + caps s e (i + 1)) = v + 1 + caps s e (i + 1) by omega]
    · by_cases h1 : clsAt s i = 1
      · simp only [h1, caps, wrap_one (show i < 9223372036854775807 by omega)]
        simp only [show ((1 : Int) == 1 || (1 : Int) == 2) = true from rfl, if_true, show ¬ ((1 : Int) = 2) by decide, if_false]
        rw [ih (i + 1) k v (by omega) (by omega) (by omega)]
        simp only [hall Iff.rfl (.inl h1), Nat.zero_add]
      · have : (clsAt s i == 1 || clsAt s i == 2) = false := by simp [h1, h2]
        rw [this, if_neg (by simp), if_neg]
        intro H
        rcases H i (Nat.le_refl _) (by omega) with h | h
        · exact h1 h
        · exact h2 h
open Classical in
theorem refCase_f (s : ByteArray) (hs : s.size ≤ 140737488351232) (k : Nat) (hk : s.size + 23 ≤ k) : stylusref01_Case.f k s = some (caseP s) := by
  unfold stylusref01_Case.f
  have := refCase_loop s hs s.size 0 k 0 (by omega) hk (by omega)
  rw [show ((0 : Nat) : Int) = 0 from rfl] at this
  rw [this]
  congr 1
  by_cases h : Lets s 0
  · refine (if_pos h).trans ?_
    rw [caseP_some s h]
    unfold caseEnd
    have hc : classP (bt s 0) = clsAt s 0 := rfl
    rw [hc]
    simp only [Nat.zero_add]
    generalize caps s s.size 0 = v
    by_cases h0 : s.size = 0
    · rw [if_pos h0, if_pos h0]
    · rw [if_neg h0, if_neg h0]
      by_cases h1 : v = 0
      · rw [if_pos (by omega), if_pos h1]
      · rw [if_neg (by omega), if_neg h1]
        by_cases h2 : v = 1 ∧ clsAt s 0 = 2
        · rw [if_pos ⟨by omega, h2.2⟩, if_pos h2]
        · rw [if_neg (fun h => h2 ⟨by omega, h.2⟩), if_neg h2]
          by_cases h3 : v = s.size
          · rw [if_pos (by omega), if_pos h3]
          · rw [if_neg (by omega), if_neg h3]
  · refine (if_neg h).trans ?_
    rw [caseP_none s h]

/-! The runs. -/
theorem runTo_in (s : ByteArray) (c : Int) : ∀ d p j, p ≤ j → j < runTo s c d p → clsAt s j = c
  | 0, p, j, h1, h2 => by simp only [runTo] at h2; omega
  | d + 1, p, j, h1, h2 => by
    simp only [runTo] at h2
    split at h2
    · rename_i hc
      by_cases hj : j = p
      · subst hj; exact hc.2
      · exact runTo_in s c d (p + 1) j (by omega) h2
    · omega
theorem runTo_out (s : ByteArray) (c : Int) : ∀ d p, s.size ≤ d + p → runTo s c d p < s.size → clsAt s (runTo s c d p) ≠ c
  | 0, p, h, h2 => by simp only [runTo] at h2; omega
  | d + 1, p, h, h2 => by
    simp only [runTo] at h2 ⊢
    split at h2
    · rename_i hc
      rw [if_pos hc]
      exact runTo_out s c d (p + 1) (by omega) h2
    · rename_i hc
      rw [if_neg hc]
      exact fun e => hc ⟨h2, e⟩
theorem ext_snoc (s : ByteArray) (i j : Nat) (h : i ≤ j) : s.extract i j ++ s.extract j (j + 1) = s.extract i (j + 1) := by
  rw [ByteArray.extract_append_extract]
  congr 1 <;> omega
theorem refL_start (s : ByteArray) (i : Nat) (h : i = 0 ∨ clsAt s i ≠ clsAt s (i - 1)) : refL s (i + 1) = refL s i ++ [⟨i, s.extract i (i + 1)⟩] := by
  simp only [refL]
  rcases snoc_or_nil (refL s i) with hL | ⟨M, p, hL⟩
  · rw [hL]; rfl
  · rw [hL, refStep_snoc, if_neg]
    rcases h with h | h
    · subst h
      simp [refL] at hL
    · exact h
theorem refL_run (s : ByteArray) (i : Nat) (h : i = 0 ∨ clsAt s i ≠ clsAt s (i - 1)) (c : Int) : ∀ d, (∀ j, i ≤ j → j < i + 1 + d → clsAt s j = c) → refL s (i + 1 + d) = refL s i ++ [⟨i, s.extract i (i + 1 + d)⟩]
  | 0, _ => refL_start s i h
  | d + 1, hc => by
    have ih := refL_run s i h c d (fun j h1 h2 => hc j h1 (by omega))
    rw [show i + 1 + (d + 1) = (i + 1 + d) + 1 by omega]
    rw [refL, ih, refStep_snoc, if_pos (by rw [hc (i + 1 + d) (by omega) (by omega), hc (i + 1 + d - 1) (by omega) (by omega)])]
    simp only
    rw [ext_snoc s i (i + 1 + d) (by omega)]
theorem refL_runs (s : ByteArray) : ∀ d i, s.size ≤ d + i → i ≤ s.size → (i = 0 ∨ i = s.size ∨ clsAt s i ≠ clsAt s (i - 1)) → refL s s.size = refL s i ++ runsL s d i
  | 0, i, h, hi, _ => by
    obtain rfl : i = s.size := by omega
    simp [runsL]
  | d + 1, i, h, hi, hc => by
    simp only [runsL]
    split
    · rename_i hlt
      have h1 : i = 0 ∨ clsAt s i ≠ clsAt s (i - 1) := by
        rcases hc with h | h | h
        · exact .inl h
        · omega
        · exact .inr h
      have hle := runTo_le s (clsAt s i) s.size (i + 1)
      have hsz := runTo_size s (clsAt s i) s.size (i + 1) hlt
      have hin := runTo_in s (clsAt s i) s.size (i + 1)
      have hout := runTo_out s (clsAt s i) s.size (i + 1) (by omega)
      generalize hq : runTo s (clsAt s i) s.size (i + 1) = q at *
      have hrun := refL_run s i h1 (clsAt s i) (q - (i + 1)) (fun j h1 h2 => by
        by_cases hj : j = i
        · subst hj; rfl
        · exact hin j (by omega) (by omega))
      rw [show i + 1 + (q - (i + 1)) = q by omega] at hrun
      rw [refL_runs s d q (by omega) hsz (by
        by_cases hqs : q = s.size
        · exact .inr (.inl hqs)
        · refine .inr (.inr ?_)
          have := hout (by omega)
          have h3 : clsAt s (q - 1) = clsAt s i := by
            by_cases hj : q - 1 = i
            · rw [hj]
            · exact hin (q - 1) (by omega) (by omega)
          rw [h3]; exact this), hrun]
      simp
    · obtain rfl : i = s.size := by omega
      simp
theorem refRuns_eq (s : ByteArray) : refL s s.size = runsL s s.size 0 := by
  have := refL_runs s s.size 0 (by omega) (by omega) (.inl rfl)
  simpa [refL] using this
theorem same_loop (L : List S27) (hL : L.length ≤ 1000000) : ∀ (d i k : Nat), d + i = L.length → d + 1 ≤ k → styluslaw01_same.l0 k L L (i : Int) = some true
  | 0, i, k, hd, hk => by
    obtain ⟨k, rfl⟩ : ∃ m, k = m + 1 := ⟨k - 1, by omega⟩
    simp only [styluslaw01_same.l0]
    rw [if_neg (by omega)]
  | d + 1, i, k, hd, hk => by
    obtain ⟨k, rfl⟩ : ∃ m, k = m + 1 := ⟨k - 1, by omega⟩
    simp only [styluslaw01_same.l0]
    rw [if_pos (by omega), if_pos (by omega), if_pos (by omega), if_neg (by simp), wrap_one (by omega)]
    exact same_loop L hL d (i + 1) k (by omega) (by omega)
theorem same_f (L : List S27) (hL : L.length ≤ 1000000) (k : Nat) (hk : L.length + 1 ≤ k) : styluslaw01_same.f k L L = some true := by
  unfold styluslaw01_same.f
  rw [if_pos rfl]
  exact same_loop L hL L.length 0 k (by omega) hk
theorem runsL_length (s : ByteArray) : ∀ d i, (runsL s d i).length ≤ d
  | 0, _ => Nat.le_refl _
  | d + 1, i => by
    simp only [runsL]
    split
    · have := runsL_length s d (runTo s (clsAt s i) s.size (i + 1))
      simp only [List.length_cons]; omega
    · simp
end Go.Proofs.Ythcmfjpheanphaa.Pure
