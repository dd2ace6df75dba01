/- Plain laws of the layer 'chars': small letters, how a text is cased. -/
import Derived.Test.YthcmfjpheanphaaPr5
import Derived.Test.YthcmfjpheanphaaHcase
import Derived.Test.YthcmfjpheanphaaHlow
namespace Go.Proofs.Ythcmfjpheanphaa.Pure
open Go.RowKit Go.Proofs.Ythcmfjpheanphaa.Pr Go.Proofs.YthcmfjpheanphaaW.PrintWords
set_option linter.unusedVariables false
set_option linter.unusedSimpArgs false

theorem strOfNums_size' (xs : List Int) : (strOfNums xs).size = xs.length := by
  simp [strOfNums, ByteArray.size]
theorem bt_strOfNums (xs : List Int) (h : ∀ x ∈ xs, 0 ≤ x ∧ x < 256) (j : Nat) (hj : j < xs.length) : bt (strOfNums xs) (j : Int) = xs[j] := by
  have h1 : (j : Int).toNat < (strOfNums xs).size := by rw [strOfNums_size']; simpa using hj
  simp only [bt, dif_pos h1]
  have h2 := h xs[j] (List.getElem_mem hj)
  have h3 : ((strOfNums xs)[(j : Int).toNat]'h1) = UInt8.ofNat (xs[j]).toNat := by
    simp [strOfNums, ByteArray.getElem_eq_getElem_data]
  rw [h3]
  simp
  omega
theorem byte_ext (a b : ByteArray) (hs : a.size = b.size) (h : ∀ j : Nat, j < a.size → bt a j = bt b j) : a = b := by
  apply ByteArray.ext
  apply Array.ext
  · exact hs
  · intro i h1 h2
    have := h i h1
    have e1 : (i : Int).toNat < a.size := by simpa using h1
    have e2 : (i : Int).toNat < b.size := by simpa using h2
    simp only [bt, dif_pos e1, dif_pos e2] at this
    have h3 : (a[(i : Int).toNat]'e1).toNat = (b[(i : Int).toNat]'e2).toNat := by omega
    have h4 := UInt8.toNat_inj.1 h3
    simpa [ByteArray.getElem_eq_getElem_data] using h4

theorem low_fin : ∀ n : Fin 256, (0 ≤ lowI (n.val : Int) ∧ lowI (n.val : Int) < 256) ∧ lowI (lowI (n.val : Int)) = lowI (n.val : Int) ∧ ((classP (n.val : Int) = 1 ∨ classP (n.val : Int) = 2) ↔ (classP (lowI (n.val : Int)) = 1)) ∧ classP (lowI (n.val : Int)) ≠ 2 := by decide +kernel
theorem low_at (c : Int) (h0 : 0 ≤ c) (h1 : c ≤ 255) : (0 ≤ lowI c ∧ lowI c < 256) ∧ lowI (lowI c) = lowI c ∧ ((classP c = 1 ∨ classP c = 2) ↔ (classP (lowI c) = 1)) ∧ classP (lowI c) ≠ 2 := by
  have := low_fin ⟨c.toNat, by omega⟩
  simpa only [Int.toNat_of_nonneg h0] using this
theorem lowS_size (s : ByteArray) : (lowS s).size = s.size := by simp [lowS, strOfNums_size']
theorem lowS_bt (s : ByteArray) (j : Nat) (hj : j < s.size) : bt (lowS s) (j : Int) = lowI (bt s j) := by
  unfold lowS
  have key := bt_strOfNums ((List.range s.size).map fun (j : Nat) => lowI (bt s (j : Int))) (fun x hx => by
    simp at hx
    obtain ⟨i, hi, rfl⟩ := hx
    exact (low_at _ (bt_range s i).1 (bt_range s i).2).1) j (by simpa using hj)
  rw [key]
  simp
theorem low_low (s : ByteArray) : lowS (lowS s) = lowS s := by
  apply byte_ext
  · simp [lowS_size]
  · intro j hj
    simp only [lowS_size] at hj
    rw [lowS_bt _ _ (by rw [lowS_size]; exact hj), lowS_bt _ _ hj]
    exact (low_at _ (bt_range s j).1 (bt_range s j).2).2.1

/-- what Case counts, byte for byte -/
def caseB (s : ByteArray) : Nat → Nat → Int → Int → Bool → Option (Int × Int × Bool)
  | 0, _, sm, rs, fi => some (sm, rs, fi)
  | d + 1, i, sm, rs, fi =>
    if clsAt s i = 1 then caseB s d (i + 1) (sm + 1) rs fi
    else if clsAt s i = 2 then (if i = 0 then caseB s d 1 sm rs true else caseB s d (i + 1) sm (rs + 1) fi)
    else none
theorem caseB_run1 (s : ByteArray) : ∀ d i sm rs fi e, e + i = s.size → ∃ e', e' + runTo s 1 d i = s.size ∧ caseB s e i sm rs fi = caseB s e' (runTo s 1 d i) (sm + ((runTo s 1 d i : Nat) : Int) - i) rs fi
  | 0, i, sm, rs, fi, e, he => ⟨e, he, by simp only [runTo]; congr 1; omega⟩
  | d + 1, i, sm, rs, fi, e, he => by
    simp only [runTo]
    split
    · rename_i hc
      obtain ⟨n, rfl⟩ : ∃ n, e = n + 1 := ⟨e - 1, by omega⟩
      obtain ⟨e', h1, h2⟩ := caseB_run1 s d (i + 1) (sm + 1) rs fi n (by omega)
      refine ⟨e', h1, ?_⟩
      simp only [caseB, if_pos hc.2]
      rw [h2]
      congr 1
      omega
    · exact ⟨e, he, by congr 1; omega⟩
theorem caseB_run2 (s : ByteArray) : ∀ d i sm rs fi e, e + i = s.size → 0 < i → ∃ e', e' + runTo s 2 d i = s.size ∧ caseB s e i sm rs fi = caseB s e' (runTo s 2 d i) sm (rs + ((runTo s 2 d i : Nat) : Int) - i) fi
  | 0, i, sm, rs, fi, e, he, _ => ⟨e, he, by simp only [runTo]; congr 1; omega⟩
  | d + 1, i, sm, rs, fi, e, he, hi => by
    simp only [runTo]
    split
    · rename_i hc
      obtain ⟨n, rfl⟩ : ∃ n, e = n + 1 := ⟨e - 1, by omega⟩
      obtain ⟨e', h1, h2⟩ := caseB_run2 s d (i + 1) sm (rs + 1) fi n (by omega) (by omega)
      refine ⟨e', h1, ?_⟩
      simp only [caseB, hc.2, if_neg (show ¬ (2 : Int) = 1 by decide), if_pos, if_neg (show ¬ i = 0 by omega)]
      rw [h2]
      congr 1
      omega
    · exact ⟨e, he, by congr 1; omega⟩
theorem bt_extract (s : ByteArray) (i q : Nat) (h : q ≤ s.size) (j : Nat) (hj : i + j < q) : bt (s.extract i q) (j : Int) = bt s ((i + j : Nat) : Int) := by
  have h1 : (j : Int).toNat < (s.extract i q).size := by rw [ByteArray.size_extract]; simp; omega
  have h2 : ((i + j : Nat) : Int).toNat < s.size := by simp; omega
  simp only [bt, dif_pos h1, dif_pos h2]
  simp only [ByteArray.getElem_extract, Int.toNat_natCast]
theorem caseRuns_B (s : ByteArray) : ∀ d i sm rs fi e, e + i = s.size → s.size ≤ d + i → caseRuns (runsL s d i) sm rs fi = caseB s e i sm rs fi
  | 0, i, sm, rs, fi, e, he, hd => by obtain rfl : e = 0 := by omega
                                      rfl
  | d + 1, i, sm, rs, fi, e, he, hd => by
    simp only [runsL]
    split
    · rename_i hi
      obtain ⟨n, rfl⟩ : ∃ n, e = n + 1 := ⟨e - 1, by omega⟩
      have hle := runTo_le s (clsAt s i) s.size (i + 1)
      have hsz := runTo_size s (clsAt s i) s.size (i + 1) hi
      have hbt := bt_extract s i (runTo s (clsAt s i) s.size (i + 1)) hsz 0 (by omega)
      have hcl : classP (bt (s.extract i (runTo s (clsAt s i) s.size (i + 1))) 0) = clsAt s i := by
        show classP (bt (s.extract i (runTo s (clsAt s i) s.size (i + 1))) ((0 : Nat) : Int)) = _
        rw [hbt]; rfl
      simp only [caseRuns, hcl, caseB, ByteArray.size_extract]
      split
      · rename_i h1
        rw [h1] at hle hsz ⊢
        obtain ⟨e', g1, g2⟩ := caseB_run1 s s.size (i + 1) (sm + 1) rs fi n (by omega)
        rw [g2, ← caseRuns_B s d _ _ _ _ e' g1 (by omega)]
        congr 1
        omega
      · split
        · rename_i h1 h2
          rw [h2] at hle hsz ⊢
          by_cases h0 : i = 0
          · subst h0
            obtain ⟨e', g1, g2⟩ := caseB_run2 s s.size (0 + 1) sm rs true n (by omega) (by omega)
            rw [if_pos (by rfl), if_pos rfl, g2, ← caseRuns_B s d _ _ _ _ e' g1 (by omega)]
            congr 1
            omega
          · obtain ⟨e', g1, g2⟩ := caseB_run2 s s.size (i + 1) sm (rs + 1) fi n (by omega) (by omega)
            rw [if_neg (by omega), if_neg h0, g2, ← caseRuns_B s d _ _ _ _ e' g1 (by omega)]
            congr 1
            omega
        · rfl
    · obtain rfl : e = 0 := by omega
      rfl
/-- all bytes from a place on are letters -/
def Lets (s : ByteArray) (i : Nat) : Prop := ∀ j, i ≤ j → j < s.size → clsAt s j = 1 ∨ clsAt s j = 2
theorem caseB_none (s : ByteArray) : ∀ e i sm rs fi, e + i = s.size → ¬ Lets s i → caseB s e i sm rs fi = none
  | 0, i, sm, rs, fi, he, h => absurd (fun j h1 h2 => by omega) h
  | e + 1, i, sm, rs, fi, he, h => by
    simp only [caseB]
    by_cases hi : Lets s (i + 1)
    · have : ¬ (clsAt s i = 1 ∨ clsAt s i = 2) := fun hc => h fun j h1 h2 => by
        by_cases hj : j = i
        · exact hj ▸ hc
        · exact hi j (by omega) h2
      rw [if_neg (fun h1 => this (.inl h1)), if_neg (fun h1 => this (.inr h1))]
    · split
      · exact caseB_none s e (i + 1) _ _ _ (by omega) hi
      · split
        · split
          · rename_i h0; subst h0; exact caseB_none s e 1 _ _ _ (by omega) hi
          · exact caseB_none s e (i + 1) _ _ _ (by omega) hi
        · rfl
/-- how many bytes from a place on are capitals -/
def caps (s : ByteArray) : Nat → Nat → Nat
  | 0, _ => 0
  | e + 1, i => (if clsAt s i = 2 then 1 else 0) + caps s e (i + 1)
theorem caseB_some (s : ByteArray) : ∀ e i sm rs fi, e + i = s.size → 0 < i → Lets s i → caseB s e i sm rs fi = some (sm + e - caps s e i, rs + caps s e i, fi)
  | 0, i, sm, rs, fi, he, _, h => by simp [caseB, caps]
  | e + 1, i, sm, rs, fi, he, hi, h => by
    have hn : Lets s (i + 1) := fun j h1 h2 => h j (by omega) h2
    simp only [caseB, caps]
    rcases h i (Nat.le_refl _) (by omega) with h1 | h1
    · rw [if_pos h1, caseB_some s e (i + 1) _ _ _ (by omega) (by omega) hn, h1]
      simp; omega
    · rw [h1, if_neg (by decide), if_pos rfl, if_neg (by omega), caseB_some s e (i + 1) _ _ _ (by omega) (by omega) hn]
      simp; omega
theorem caps_le (s : ByteArray) : ∀ e i, caps s e i ≤ e
  | 0, _ => Nat.le_refl _
  | e + 1, i => by have := caps_le s e (i + 1); simp only [caps]; split <;> omega
theorem caps_pos (s : ByteArray) : ∀ e i, e + i = s.size → (∀ j, i ≤ j → j < s.size → clsAt s j ≠ 2) → caps s e i = 0
  | 0, _, _, _ => rfl
  | e + 1, i, he, h => by
    simp only [caps]
    rw [if_neg (h i (Nat.le_refl _) (by omega)), caps_pos s e (i + 1) (by omega) (fun j h1 h2 => h j (by omega) h2)]
/-- how a text is cased -/
def caseP (s : ByteArray) : Int := caseOut s (caseRuns (runsL s s.size 0) 0 0 false)
theorem caseP_none (s : ByteArray) (h : ¬ Lets s 0) : caseP s = 0 := by
  unfold caseP
  rw [caseRuns_B s s.size 0 0 0 false s.size (by omega) (by omega), caseB_none s s.size 0 _ _ _ (by omega) h]
  rfl
theorem caseP_some (s : ByteArray) (h : Lets s 0) : caseP s = if s.size = 0 then 0 else if caps s s.size 0 = 0 then 1 else if caps s s.size 0 = 1 ∧ clsAt s 0 = 2 then 2 else if caps s s.size 0 = s.size then 3 else 4 := by
  unfold caseP
  rw [caseRuns_B s s.size 0 0 0 false s.size (by omega) (by omega)]
  by_cases h0 : s.size = 0
  · rw [h0, if_pos rfl]
    simp [caseB, caseOut, h0]
  · rw [if_neg h0]
    obtain ⟨n, hn⟩ : ∃ n, s.size = n + 1 := ⟨s.size - 1, by omega⟩
    have hcl := caps_le s n 1
    have hn1 : Lets s 1 := fun j h1 h2 => h j (by omega) h2
    rw [hn]
    simp only [caseB, caps, Nat.zero_add]
    rcases h 0 (Nat.le_refl _) (by omega) with h1 | h1
    · simp only [h1, if_pos, caseB_some s n 1 _ _ _ (by omega) (by omega) hn1, caseOut, hn]
      generalize caps s n 1 = A at *
      simp
      repeat' split
      all_goals first | rfl | omega
    · simp only [h1, if_neg (show ¬ ((2 : Int) = 1) by decide), if_pos, caseB_some s n 1 _ _ _ (by omega) (by omega) hn1, caseOut, hn]
      generalize caps s n 1 = A at *
      simp
      repeat' split
      all_goals first | rfl | omega
theorem lets_low (s : ByteArray) : Lets (lowS s) 0 ↔ Lets s 0 := by
  unfold Lets clsAt
  simp only [lowS_size]
  constructor
  · intro h j h1 h2
    have := h j h1 h2
    rw [lowS_bt s j h2] at this
    have hl := low_at _ (bt_range s j).1 (bt_range s j).2
    rcases this with h3 | h3
    · exact hl.2.2.1.2 h3
    · exact absurd h3 hl.2.2.2
  · intro h j h1 h2
    have := h j h1 h2
    rw [lowS_bt s j h2]
    have hl := low_at _ (bt_range s j).1 (bt_range s j).2
    exact .inl (hl.2.2.1.1 this)
theorem caps_low (s : ByteArray) : caps (lowS s) s.size 0 = 0 := by
  apply caps_pos
  · simp [lowS_size]
  · intro j h1 h2
    rw [lowS_size] at h2
    unfold clsAt
    rw [lowS_bt s j h2]
    exact (low_at _ (bt_range s j).1 (bt_range s j).2).2.2.2
theorem case_low (s : ByteArray) : (caseP s = 0 ↔ caseP (lowS s) = 0) ∧ (caseP s ≠ 0 → caseP (lowS s) = 1) := by
  by_cases h : Lets s 0
  · have h' := (lets_low s).2 h
    rw [caseP_some s h, caseP_some _ h', lowS_size, caps_low]
    by_cases h0 : s.size = 0
    · simp [h0]
    · simp only [if_neg h0, if_pos]
      refine ⟨⟨fun hh => ?_, fun hh => absurd hh (by decide)⟩, by simp⟩
      split at hh
      · cases hh
      · split at hh
        · cases hh
        · split at hh <;> cases hh
  · rw [caseP_none s h, caseP_none _ (fun h' => h ((lets_low s).1 h'))]
    simp
end Go.Proofs.Ythcmfjpheanphaa.Pure
