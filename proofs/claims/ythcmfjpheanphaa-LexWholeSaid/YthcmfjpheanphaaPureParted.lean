/- Plain laws of LexParted: a source, a closing and another source behind it. -/
import Derived.Test.YthcmfjpheanphaaPureLex
namespace Go.Proofs.Ythcmfjpheanphaa.Pure
open Go.RowKit Go.Proofs.Ythcmfjpheanphaa.Pr Go.Proofs.YthcmfjpheanphaaW.PrintWords Go.Proofs.YthcmfjpheanphaaW.PrintLast
set_option linter.unusedVariables false
set_option linter.unusedSimpArgs false

theorem bt_app_left (A b : ByteArray) (j : Nat) (h : j < A.size) : bt (A ++ b) (j : Int) = bt A (j : Int) := by
  have h1 : (j : Int).toNat < (A ++ b).size := by rw [ByteArray.size_append, Int.toNat_natCast]; omega
  have h2 : (j : Int).toNat < A.size := by rw [Int.toNat_natCast]; exact h
  unfold bt
  rw [dif_pos h1, dif_pos h2]
  simp only [Int.toNat_natCast]
  rw [ByteArray.getElem_append_left h]
theorem bt_app_right (A b : ByteArray) (j : Nat) (h : j < b.size) : bt (A ++ b) ((A.size + j : Nat) : Int) = bt b (j : Int) := by
  have h1 : ((A.size + j : Nat) : Int).toNat < (A ++ b).size := by rw [ByteArray.size_append, Int.toNat_natCast]; omega
  have h2 : (j : Int).toNat < b.size := by rw [Int.toNat_natCast]; exact h
  unfold bt
  rw [dif_pos h1, dif_pos h2]
  simp only [Int.toNat_natCast]
  rw [ByteArray.getElem_append_right (Nat.le_add_right _ _)]
  simp only [Nat.add_sub_cancel_left]
theorem ext_app_left (A b : ByteArray) (p q : Nat) (h : q ≤ A.size) : (A ++ b).extract p q = A.extract p q := by
  have hs : (A ++ b).size = A.size + b.size := ByteArray.size_append
  apply byte_ext
  · rw [ByteArray.size_extract, ByteArray.size_extract, hs]; omega
  · intro j hj
    rw [ByteArray.size_extract, hs] at hj
    rw [bt_extract _ p q (by omega) j (by omega), bt_extract _ p q h j (by omega), bt_app_left A b _ (by omega)]
theorem ext_app_right (A b : ByteArray) (p q : Nat) (h : q ≤ b.size) : (A ++ b).extract (A.size + p) (A.size + q) = b.extract p q := by
  have hs : (A ++ b).size = A.size + b.size := ByteArray.size_append
  apply byte_ext
  · rw [ByteArray.size_extract, ByteArray.size_extract, hs]; omega
  · intro j hj
    rw [ByteArray.size_extract, hs] at hj
    rw [bt_extract _ _ _ (by omega) j (by omega), bt_extract _ p q h j (by omega), show A.size + p + j = A.size + (p + j) by omega, bt_app_right A b _ (by omega)]

/-- what is read does not hang on the place but for the place -/
def shiftS (N : Int) (x : Spot) : Spot := if x.e = 0 then ⟨⟨x.l.f0, x.l.f1, x.l.f2, x.l.f3 + N⟩, x.size, x.e⟩ else x
theorem nextP_shift (t : ByteArray) (p N : Int) : nextP t (p + N) = shiftS N (nextP t p) := by
  unfold nextP openP shiftS
  cases openN t with
  | none =>
    split
    · simp
    · split
      · simp
      · split <;> simp
  | some x =>
    split
    · simp
    · split
      · simp
      · split <;> simp
theorem next_app_right (A b : ByteArray) (p : Nat) (hp : p ≤ b.size) : nextP ((A ++ b).extract (A.size + p) (A ++ b).size) ((A.size + p : Nat) : Int) = shiftS (A.size : Int) (nextP (b.extract p b.size) p) := by
  rw [show (A ++ b).size = A.size + b.size from ByteArray.size_append, ext_app_right A b p b.size (Nat.le_refl _), ← nextP_shift]
  congr 1
  omega
def shiftL (N : Int) (l : List S47) : List S47 := l.map fun x => ⟨x.f0, x.f1, x.f2, x.f3 + N⟩
theorem lexGo_right (A b : ByteArray) : ∀ (m p d d2 : Nat) (accL accb : List S47), b.size - p ≤ m → p ≤ b.size → b.size ≤ d + p → (A ++ b).size ≤ d2 + (A.size + p) →
    lexGo (A ++ b) d2 (A.size + p) (accL ++ shiftL A.size accb) = if (lexGo b d p accb).2.2 = 0 then (accL ++ shiftL A.size (lexGo b d p accb).1, 0, 0) else ([], (A.size : Int) + (lexGo b d p accb).2.1, (lexGo b d p accb).2.2) := by
  have hs : (A ++ b).size = A.size + b.size := ByteArray.size_append
  intro m
  induction m with
  | zero =>
    intro p d d2 accL accb hm hp hd hd2
    have h1 : lexGo (A ++ b) d2 (A.size + p) (accL ++ shiftL A.size accb) = (accL ++ shiftL A.size accb, 0, 0) := by
      cases d2 with
      | zero => rfl
      | succ d2 => simp only [lexGo]; rw [if_neg (by omega)]
    have h2 : lexGo b d p accb = (accb, 0, 0) := by
      cases d with
      | zero => rfl
      | succ d => simp only [lexGo]; rw [if_neg (by omega)]
    rw [h1, h2]
    rfl
  | succ m ih =>
    intro p d d2 accL accb hm hp hd hd2
    by_cases hlt : p < b.size
    case neg => exact ih p d d2 accL accb (by omega) hp hd hd2
    obtain ⟨d, rfl⟩ : ∃ x, d = x + 1 := ⟨d - 1, by omega⟩
    obtain ⟨d2, rfl⟩ : ∃ x, d2 = x + 1 := ⟨d2 - 1, by omega⟩
    have hx := next_app_right A b p (by omega)
    have hok := nextP_ok (b.extract p b.size) p (by rw [ByteArray.size_extract]; omega)
    rw [ByteArray.size_extract] at hok
    obtain ⟨x, hxx⟩ : ∃ x, nextP (b.extract p b.size) p = x := ⟨_, rfl⟩
    rw [hxx] at hx hok
    by_cases he : x.e = 0
    · obtain ⟨g1, g2⟩ := hok he
      obtain ⟨z, hz⟩ : ∃ z : Nat, x.size = z := ⟨x.size.toNat, by omega⟩
      have hsx : shiftS (A.size : Int) x = ⟨⟨x.l.f0, x.l.f1, x.l.f2, x.l.f3 + A.size⟩, x.size, x.e⟩ := if_pos he
      rw [hsx] at hx
      rw [lexGo_step (A ++ b) d2 (A.size + p) _ _ (by omega) hx z he hz, lexGo_step b d p accb x hlt hxx z he hz]
      have := ih (p + z) d d2 accL (accb ++ [x.l]) (by omega) (by omega) (by omega) (by omega)
      rw [← this, show A.size + p + z = A.size + (p + z) by omega]
      simp [shiftL]
    · have hsx : shiftS (A.size : Int) x = x := if_neg he
      rw [hsx] at hx
      rw [lexGo_bad (A ++ b) d2 (A.size + p) _ _ (by omega) hx he, lexGo_bad b d p accb x hlt hxx he]
      simp only
      rw [if_neg he]
      simp

/-! Ahead of the closing. -/
theorem plain_125 : plainP 125 = false := by decide +kernel
theorem names_125 : ∀ x ∈ namesL, ∀ j : Nat, j < x.size → bt x (j : Int) ≠ 125 := by decide +kernel
theorem find_congr {p q : ByteArray → Bool} : ∀ (l : List ByteArray), (∀ x ∈ l, p x = q x) → l.find? p = l.find? q
  | [], _ => rfl
  | x :: l, h => by
    rw [List.find?_cons, List.find?_cons, h x (by simp), find_congr l (fun y hy => h y (by simp [hy]))]
theorem toList_inj {a b : ByteArray} (h : a.toList = b.toList) : a = b := by
  rw [ByteArray.toList_eq, ByteArray.toList_eq] at h
  apply ByteArray.ext
  exact Array.toList_inj.1 h
section
variable (A b : ByteArray) (na : Nat) (hA : A.size = na + 1) (h125 : bt A (na : Int) = 125)
include hA h125
theorem tEnd_app : ∀ m p, na - p ≤ m → p ≤ na → tEnd (A ++ b) p = tEnd A p ∧ tEnd A p ≤ na := by
  have hs : (A ++ b).size = A.size + b.size := ByteArray.size_append
  intro m
  induction m with
  | zero =>
    intro p hm hp
    obtain rfl : p = na := by omega
    have e1 := tEnd_stop A p (fun h => by rw [h125, plain_125] at h; exact absurd h.2 (by simp))
    have e2 := tEnd_stop (A ++ b) p (fun h => by rw [bt_app_left A b p (by omega), h125, plain_125] at h; exact absurd h.2 (by simp))
    rw [e1, e2]
    exact ⟨rfl, Nat.le_refl _⟩
  | succ m ih =>
    intro p hm hp
    by_cases hpn : p = na
    · exact ih p (by omega) hp
    · by_cases hpl : plainP (bt A (p : Int)) = true
      · rw [tEnd_step A p (by omega) hpl, tEnd_step (A ++ b) p (by omega) (by rw [bt_app_left A b p (by omega)]; exact hpl)]
        exact ih (p + 1) (by omega) (by omega)
      · rw [tEnd_stop A p (fun h => hpl h.2), tEnd_stop (A ++ b) p (fun h => by rw [bt_app_left A b p (by omega)] at h; exact hpl h.2)]
        exact ⟨rfl, hp⟩
theorem pref_app (p : Nat) (hp : p < na) (n : ByteArray) (hn : n ∈ namesL) :
    (prefP (((A ++ b).extract p (A ++ b).size).extract 1 ((A ++ b).extract p (A ++ b).size).size) n = prefP ((A.extract p A.size).extract 1 (A.extract p A.size).size) n) ∧
    (prefP ((A.extract p A.size).extract 1 (A.extract p A.size).size) n = true → p + 1 + n.size ≤ na) := by
  have hs : (A ++ b).size = A.size + b.size := ByteArray.size_append
  have hno := names_125 n hn
  rw [pref_at (A ++ b) n p (by omega), pref_at A n p (by omega)]
  have key : ∀ (s : ByteArray), p + 1 + n.size ≤ s.size → na < p + 1 + n.size → bt s (na : Int) = 125 → ((s.extract (p + 1) (p + 1 + n.size)).toList == n.toList) = false := fun s h1 h2 h3 => by
    rw [beq_eq_false_iff_ne]
    intro e
    have e2 := toList_inj e
    have h4 := hno (na - (p + 1)) (by omega)
    rw [← e2] at h4
    have h5 := bt_extract s (p + 1) (p + 1 + n.size) h1 (na - (p + 1)) (by omega)
    rw [h5, show p + 1 + (na - (p + 1)) = na by omega] at h4
    exact h4 h3
  by_cases h : p + 1 + n.size ≤ A.size
  · rw [if_pos (show p + 1 + n.size ≤ (A ++ b).size by omega), if_pos h, ext_app_left A b _ _ h]
    refine ⟨rfl, fun e => ?_⟩
    rcases Nat.lt_or_ge na (p + 1 + n.size) with h1 | h1
    · rw [key A h h1 h125] at e; cases e
    · exact h1
  · rw [if_neg h]
    refine ⟨?_, fun e => by cases e⟩
    by_cases h2 : p + 1 + n.size ≤ (A ++ b).size
    · rw [if_pos h2]
      exact key (A ++ b) h2 (by omega) (by rw [bt_app_left A b na (by omega)]; exact h125)
    · rw [if_neg h2]
theorem next_app_left (p : Nat) (hp : p < A.size) : nextP ((A ++ b).extract p (A ++ b).size) p = nextP (A.extract p A.size) p := by
  have hs : (A ++ b).size = A.size + b.size := ByteArray.size_append
  have hb : bt (A ++ b) (p : Int) = bt A (p : Int) := bt_app_left A b p hp
  by_cases h1 : bt A (p : Int) = 123
  · have hpn : p < na := by
      rcases Nat.lt_or_ge p na with h | h
      · exact h
      · obtain rfl : p = na := by omega
        rw [h1] at h125
        exact absurd h125 (by decide)
    have hop : openN ((A ++ b).extract p (A ++ b).size) = openN (A.extract p A.size) := find_congr namesL fun n hn => (pref_app A b na hA h125 p hpn n hn).1
    rw [next_open (A ++ b) p (by omega) (by rw [hb]; exact h1), next_open A p hp h1]
    cases hn : openN (A.extract p A.size) with
    | none => rw [openP_none A p hn, openP_none (A ++ b) p (by rw [hop]; exact hn)]
    | some x =>
      obtain ⟨g1, g2, g3⟩ := openP_some A p hp x hn
      obtain ⟨g4, _, _⟩ := openP_some (A ++ b) p (by omega) x (by rw [hop]; exact hn)
      have g5 := (pref_app A b na hA h125 p hpn x g2).2 (openN_pref (A.extract p A.size) x hn).1
      rw [g1, g4]
      have hz : openZ (A ++ b) p x = openZ A p x := by
        unfold openZ
        rw [bt_app_left A b (p + x.size + 1) (by omega)]
        by_cases hw : whiteP (bt A ((p + x.size + 1 : Nat) : Int)) = true
        · rw [if_pos ⟨by omega, hw⟩, if_pos ⟨by omega, hw⟩]
        · rw [if_neg (fun h => hw h.2), if_neg (fun h => hw h.2)]
      rw [hz]
  · by_cases h2 : bt A (p : Int) = 125
    · rw [next_close (A ++ b) p (by omega) (by rw [hb]; exact h2), next_close A p hp h2]
    · by_cases h3 : plainP (bt A (p : Int)) = true
      · obtain ⟨e1, e2⟩ := tEnd_app A b na hA h125 (na - p) p (Nat.le_refl _) (by omega)
        rw [(next_text (A ++ b) p (by omega) (by rw [hb]; exact h1) (by rw [hb]; exact h2) (by rw [hb]; exact h3)).2, (next_text A p hp h1 h2 h3).2, e1, ext_app_left A b _ _ (by omega)]
      · rw [next_bad (A ++ b) p (by omega) (by rw [hb]; exact h1) (by rw [hb]; exact h2) (by rw [hb]; exact h3), next_bad A p hp h1 h2 h3]
theorem lexGo_left : ∀ (m p d d2 : Nat) (acc : List S47), A.size - p ≤ m → p ≤ A.size → A.size ≤ d + p → (A ++ b).size ≤ d2 + p →
    ((lexGo A d p acc).2.2 ≠ 0 → lexGo (A ++ b) d2 p acc = lexGo A d p acc) ∧
    ((lexGo A d p acc).2.2 = 0 → ∃ d3, (A ++ b).size ≤ d3 + A.size ∧ lexGo (A ++ b) d2 p acc = lexGo (A ++ b) d3 A.size (lexGo A d p acc).1) := by
  have hs : (A ++ b).size = A.size + b.size := ByteArray.size_append
  intro m
  induction m with
  | zero =>
    intro p d d2 acc hm hp hd hd2
    obtain rfl : p = A.size := by omega
    have h2 : lexGo A d A.size acc = (acc, 0, 0) := by
      cases d with
      | zero => rfl
      | succ d => simp only [lexGo]; rw [if_neg (by omega)]
    rw [h2]
    exact ⟨fun h => absurd rfl h, fun _ => ⟨d2, hd2, rfl⟩⟩
  | succ m ih =>
    intro p d d2 acc hm hp hd hd2
    by_cases hlt : p < A.size
    case neg => exact ih p d d2 acc (by omega) hp hd hd2
    obtain ⟨d, rfl⟩ : ∃ x, d = x + 1 := ⟨d - 1, by omega⟩
    obtain ⟨d2, rfl⟩ : ∃ x, d2 = x + 1 := ⟨d2 - 1, by omega⟩
    have hx := next_app_left A b na hA h125 p hlt
    have hok := nextP_ok (A.extract p A.size) p (by rw [ByteArray.size_extract]; omega)
    rw [ByteArray.size_extract] at hok
    obtain ⟨x, hxx⟩ : ∃ x, nextP (A.extract p A.size) p = x := ⟨_, rfl⟩
    rw [hxx] at hx hok
    by_cases he : x.e = 0
    · obtain ⟨g1, g2⟩ := hok he
      obtain ⟨z, hz⟩ : ∃ z : Nat, x.size = z := ⟨x.size.toNat, by omega⟩
      rw [lexGo_step (A ++ b) d2 p _ _ (by omega) hx z he hz, lexGo_step A d p acc x hlt hxx z he hz]
      exact ih (p + z) d d2 _ (by omega) (by omega) (by omega) (by omega)
    · rw [lexGo_bad (A ++ b) d2 p _ _ (by omega) hx he, lexGo_bad A d p acc x hlt hxx he]
      exact ⟨fun _ => rfl, fun h => absurd h he⟩
end
/-- a source with a closing, and another one behind it -/
theorem lexP_parted (a b : ByteArray) (ha : a.size ≤ 4000) (hb : b.size ≤ 4000) (l m : List S47) (at_ n e f : Int)
    (h1 : lexP (a ++ ⟨#[125]⟩) = (l, at_, e)) (h2 : lexP b = (m, n, f)) :
    lexP ((a ++ ⟨#[125]⟩) ++ b) = if e = 0 then (if f = 0 then (l ++ shiftL ((a.size : Int) + 1) m, 0, 0) else ([], (a.size : Int) + 1 + n, f)) else ([], at_, e) := by
  have hz : (⟨#[125]⟩ : ByteArray).size = 1 := rfl
  have hA : (a ++ (⟨#[125]⟩ : ByteArray)).size = a.size + 1 := by rw [ByteArray.size_append, hz]
  have h125 : bt (a ++ (⟨#[125]⟩ : ByteArray)) (a.size : Int) = 125 := by
    have := bt_app_right a ⟨#[125]⟩ 0 (by rw [hz]; omega)
    rw [Nat.add_zero] at this
    rw [this]
    rfl
  generalize a ++ (⟨#[125]⟩ : ByteArray) = A at *
  have hs : (A ++ b).size = A.size + b.size := ByteArray.size_append
  rw [lexP_go A (by omega)] at h1
  rw [lexP_go b (by omega)] at h2
  rw [lexP_go (A ++ b) (by omega)]
  obtain ⟨g1, g2⟩ := lexGo_left A b a.size hA h125 A.size 0 A.size (A ++ b).size [] (by omega) (by omega) (by omega) (by omega)
  rw [h1] at g1 g2
  by_cases he : e = 0
  · rw [if_pos he]
    obtain ⟨d3, hd3, g3⟩ := g2 he
    rw [g3]
    have := lexGo_right A b b.size 0 b.size d3 l [] (by omega) (by omega) (by omega) (by omega)
    rw [h2] at this
    simp only [shiftL, List.map_nil, List.append_nil, Nat.add_zero] at this
    rw [this, hA]
    by_cases hf : f = 0
    · rw [if_pos hf, if_pos hf]; simp [shiftL]
    · rw [if_neg hf, if_neg hf]; simp
  · rw [if_neg he, g1 he]
    have hl : l = [] := by
      have := lexGo_all A A.size 0 []
      rw [h1] at this
      unfold outL at this
      split at this
      · simp at this; exact absurd this.2.2 he
      · simp at this; exact this.1
    rw [hl]
end Go.Proofs.Ythcmfjpheanphaa.Pure
